/- Layer 5's bytes, the program's side: names and bytes behind bytes, files encoded. No condition beyond sizes. -/
import Derived.Test.YtjgobljclodpfaaFm
import Derived.Test.YtjgobljclodpfaaEd3
import Derived.Test.YtjgobljclodpfaaG3
import Derived.Test.YtjgobljclodpfaaOct4
import Derived.Test.YtjgobljclodpfaaRd
namespace Go.Proofs.Ytjgobljclodpfaa
open Go.RowKit Go.Shelf K L E
set_option linter.unusedVariables false
set_option linter.unusedSimpArgs false

def nameB (s : List UInt8) : List UInt8 := UInt8.ofNat s.length :: s
def countB (b : List UInt8) : List UInt8 := be b.length 2 ++ b
def fileB (x : Fl) : List UInt8 := nameB x.name ++ countB x.bytes
def bytesF (l : List Fl) : List UInt8 := be l.length 2 ++ l.flatMap fileB
/-- A row of bytes of the walk's own. -/
def aBr (v : Value) (xs : List UInt8) : Ass := aRow 5 1 v xs.length (bvs xs)
section
variable {P : Program} {n : Nat} {D : List Deferred} {L : Slots} {w : World} {Q : Exit → Act → World → Prop} {ops : Array Oper} {rest : List Oper} {d : Nat} {ty t u : TypeId} {pos : String} {after : Array Edge} {x y : Operand} {v vx : Value} {Os Zs : List Ass}
theorem WR.appStr {e : Nat} (El : Elem P t e 1 1 (.int .u8 0)) [U : Und P u .string] {base : Nat} {xs ys : List UInt8} (hx : evo L x = some vx) (hy : evo L y = some (.string ⟨ys.toArray⟩)) (hd : Nat.blt d n = true) (hown : Ob w base e vx xs) (hb : xs.length + ys.length ≤ 1073741824) (hB : base ≤ w.heap.size)
    (h : ∀ v' w', Ob w' base e v' (xs ++ ys) → Upd (fun b => vx.ownBlock = some b) w w' → (∀ g, v'.ownBlock = some g → vx.ownBlock = some g ∨ w.heap.size ≤ g) → WR P n D ops rest ((d, v') :: L) w' Q) : WR P n D ops (⟨some d, .call { callee := .builtin .append, args := #[x, y], argTypes := #[t, u] }, ty, pos, after, none⟩ :: rest) L w Q := by
  obtain ⟨v', w', hr, h2, h3, h4⟩ := G.run_app_str El U.h ty base hown hb hB
  exact .builtin2 (w := w) hx hy hd (fun cs => by rw [BigFrame.builtin_append]; simp only [Sem.run_bind, hr, Result.andThen_ok, Sem.run_pure]) (h v' w' h2 ((Upd.of_grown h3).mono fun b _ hb => hb.symm) (fun g hg => by rcases h4 with h4 | h4; exact .inl (h4 ▸ hg); exact .inr (h4 g hg)))
theorem conv8 (k : Nat) : IntKind.u8.wrap (k : Int) = ((UInt8.ofNat k).toNat : Int) := by
  rw [UInt8.toNat_ofNat', IntKind.wrap_u8]; simp
theorem conv16 {k : Nat} (h : k < 65536) : IntKind.u16.wrap (k : Int) = (k : Int) := by rw [IntKind.wrap_u16]; omega
theorem str_size (s : List UInt8) : (⟨s.toArray⟩ : ByteArray).size = s.length := by simp [ByteArray.size]
theorem E.Mem.br {xs : List UInt8} (M : Mem w (aBr v xs :: Os) Zs) : Ob w 0 5 v xs := M.row
theorem E.Mem.setBr {w' : World} {v' : Value} {xs ys : List UInt8} (M : Mem w (aBr v xs :: Os) Zs) (hu : Upd (fun b => v.ownBlock = some b) w w') (h : Ob w' 0 5 v' ys) (hv : ∀ b, v'.ownBlock = some b → v.ownBlock = some b ∨ w.heap.size ≤ b) : Mem w' (aBr v' ys :: Os) Zs := M.setRow hu h hv
theorem E.Mem.newBr {w' : World} {base : Nat} {xs : List UInt8} (M : Mem w Os Zs) (hb : Below w.heap.size w w') (h : Ob w' base 5 v xs) (hB : w.heap.size ≤ base) : Mem w' (aBr v xs :: Os) Zs := M.newRow hb h hB

set_option maxHeartbeats 400000 in
theorem putName_M {xs : List UInt8} (M : Mem w (aBr v xs :: Os) Zs) (s : List UInt8) (hs : s.length ≤ 100000000) (hx : xs.length ≤ 100000000) :
    Calls Try.prog 46 #[v, .string ⟨s.toArray⟩] w fun e w' => ∃ v', e = .returned v' ∧ Mem w' (aBr v' (xs ++ nameB s) :: Os) Zs ∧ Upd (fun b => v.ownBlock = some b) w w' := by
  refine enter Try.func46 rfl Try.ntmps46 rfl rfl ?_
  (repeat (first | (refine WR.id ?_; first | refine WR.nil ?_ | refine WR.s ?_ | refine WR.g ?_) | (refine W.id ?_; first | refine W.seq fun _ _ => ?_ | refine W.region ?_ | refine W.s ?_ | refine W.e ?_) | (refine Ends.id ?_; first | refine Ends.seq (by assumption) ?_ | refine Ends.s ?_)))
  rw [str_size, conv8]
  refine WR.row1 Try.el8 (by decide) (by rfl) (by rfl) (by rfl) fun w1 hb1 hs1 => ?_
  have M1 := M.below hb1
  (repeat (first | (refine WR.id ?_; first | refine WR.nil ?_ | refine WR.s ?_ | refine WR.g ?_) | (refine W.id ?_; first | refine W.seq fun _ _ => ?_ | refine W.region ?_ | refine W.s ?_ | refine W.e ?_) | (refine Ends.id ?_; first | refine Ends.seq (by assumption) ?_ | refine Ends.s ?_)))
  refine WR.app Try.el8 (by rfl) (by rfl) (by rfl) M1.br hs1 (by intro u hu; simp [Value.cells] at hu; subst hu; rfl) (by omega) (by decide) (Nat.zero_le _) fun v2 w2 ho2 hu2 hv2 => ?_
  have ho2' : Ob w2 0 5 v2 (xs ++ [UInt8.ofNat s.length]) := Ob.push (UInt8.ofNat s.length) ho2 rfl
  have M2 := M1.setBr hu2 ho2' hv2
  (repeat (first | (refine WR.id ?_; first | refine WR.nil ?_ | refine WR.s ?_ | refine WR.g ?_) | (refine W.id ?_; first | refine W.seq fun _ _ => ?_ | refine W.region ?_ | refine W.s ?_ | refine W.e ?_) | (refine Ends.id ?_; first | refine Ends.seq (by assumption) ?_ | refine Ends.s ?_)))
  refine WR.appStr Try.el8 (by rfl) (by rfl) (by rfl) M2.br (by simp; omega) (Nat.zero_le _) fun v3 w3 ho3 hu3 hv3 => ?_
  have M3 := M2.setBr hu3 ho3 hv3
  (repeat (first | (refine WR.id ?_; first | refine WR.nil ?_ | refine WR.s ?_ | refine WR.g ?_) | (refine W.id ?_; first | refine W.seq fun _ _ => ?_ | refine W.region ?_ | refine W.s ?_ | refine W.e ?_) | (refine Ends.id ?_; first | refine Ends.seq (by assumption) ?_ | refine Ends.s ?_)))
  refine Ends.ret1 rfl rfl ⟨_, rfl, by rw [List.append_assoc] at M3; exact M3, ?_⟩
  have := hb1.size
  exact (((Upd.of_below hb1 : Upd (fun b => v.ownBlock = some b) w w1).trans hu2 fun b _ h => h).trans hu3 fun b hb h => (hv2 b h).elim id fun h => by omega)
theorem putBytes_any {xs ys : List UInt8} {F G : Nat → Prop} {vb : Value} (h : Bs w F v xs) (g : Bs w G vb ys) (hx : xs.length ≤ 100000000) (hy : ys.length < 65536) :
    Calls Try.prog 45 #[v, vb] w fun e w' => ∃ v', e = .returned v' ∧ Ob w' w.heap.size 5 v' (xs ++ countB ys) ∧ Below w.heap.size w w' := by
  obtain ⟨A, c, rfl, l1, l2, -⟩ := g.open_
  refine enter Try.func45 rfl Try.ntmps45 rfl rfl ?_
  (repeat (first | (refine WR.id ?_; first | refine WR.nil ?_ | refine WR.s ?_ | refine WR.g ?_) | (refine W.id ?_; first | refine W.seq fun _ _ => ?_ | refine W.region ?_ | refine W.s ?_ | refine W.e ?_) | (refine Ends.id ?_; first | refine Ends.seq (by assumption) ?_ | refine Ends.s ?_)))
  rw [conv16 hy]
  refine WR.call rfl rfl (put16_any _ _ ys.length _ _ h (by omega) hy) ?_
  rintro _ w1 ⟨v1, rfl, ho, hb⟩
  refine ⟨_, rfl, ?_⟩
  (repeat (first | (refine WR.id ?_; first | refine WR.nil ?_ | refine WR.s ?_ | refine WR.g ?_) | (refine W.id ?_; first | refine W.seq fun _ _ => ?_ | refine W.region ?_ | refine W.s ?_ | refine W.e ?_) | (refine Ends.id ?_; first | refine Ends.seq (by assumption) ?_ | refine Ends.s ?_)))
  refine WR.app Try.el8 (by rfl) (by rfl) (by rfl) ho (Sl.below g (by decide) hb) (one_bvs _) (by rw [List.length_append, be_len]; omega) (by decide) hb.size fun v2 w2 ho2 hu2 hv2 => ?_
  (repeat (first | (refine WR.id ?_; first | refine WR.nil ?_ | refine WR.s ?_ | refine WR.g ?_) | (refine W.id ?_; first | refine W.seq fun _ _ => ?_ | refine W.region ?_ | refine W.s ?_ | refine W.e ?_) | (refine Ends.id ?_; first | refine Ends.seq (by assumption) ?_ | refine Ends.s ?_)))
  refine Ends.ret1 rfl rfl ⟨_, rfl, ?_, ?_⟩
  · have := Ob.more ho2 rfl
    rwa [List.append_assoc] at this
  · exact hb.trans (hu2.below (B := w.heap.size) hb.size fun b hb' => (World.ownsRow.lt ho b hb').1)
end
theorem fileB_len (x : Fl) : (fileB x).length = cost1 x + 3 := by
  simp only [fileB, nameB, countB, List.length_append, List.length_cons, be_len, cost1]; omega
theorem files_len : ∀ l : List Fl, (l.flatMap fileB).length = cost l + 3 * l.length
  | [] => rfl
  | x :: l => by
    rw [List.flatMap_cons, List.length_append, fileB_len, files_len l]
    simp only [cost, List.map_cons, List.sum_cons, List.length_cons]
    omega
theorem fs_row {w : World} {F : Nat → Prop} {A : Option Addr} {n c i : Nat} {es : List FE} {x : Fl} {vx : Value} (h : Fs w F (.slice A n c) es) (hx : es[i]? = some (x, vx)) :
    ∃ b o, A = some ⟨b, o, none⟩ ∧ w.rangeAt b (o + i * 2) [.string ⟨x.name.toArray⟩, vx] ∧ w.cell? ⟨b, o + i * 2, none⟩ = some (.string ⟨x.name.toArray⟩) ∧ w.cell? ⟨b, o + i * 2 + 1, none⟩ = some vx ∧ Bs w (· < w.heap.size) vx x.bytes := by
  obtain ⟨hi, he⟩ := List.getElem?_eq_some_iff.1 hx
  obtain ⟨b, o, hA, -, -, hc⟩ := row_cells (f := FE.cells) (fun _ => rfl) (by decide) h.1 i hi
  rw [he] at hc
  exact ⟨b, o, hA, fun j u hu => hc j u hu, hc 0 _ rfl, hc 1 _ rfl, h.2 (x, vx) (List.mem_of_getElem? hx)⟩
theorem fls_take {es : List FE} {i : Nat} {x : Fl} {vx : Value} (hx : es[i]? = some (x, vx)) : (fls es).take (i + 1) = (fls es).take i ++ [x] := by
  rw [List.take_add_one]
  congr 1
  unfold fls
  rw [List.getElem?_map, hx]; rfl
theorem cost_take3 (l : List Fl) (k : Nat) : cost (l.take k) + 3 * (l.take k).length ≤ cost l + 3 * l.length := by
  have h1 := cost_take l k
  have h2 : (l.take k).length ≤ l.length := by rw [List.length_take]; omega
  omega

theorem br_nil {w w' : World} (hb : Below w.heap.size w w') : Fresh w w' (aBr (.slice none 0 0) []) := ⟨hb, fun _ => False, ⟨fun b => ⟨fun h => h.elim, fun h => by cases h⟩, Ob.nil _ _ _⟩, fun _ h => h.elim⟩
set_option maxRecDepth 100000 in
set_option maxHeartbeats 1000000 in
theorem encode_any (v : Value) (es : List FE) (w : World) (F : Nat → Prop) (h : Fs w F v es) (hc : cost (fls es) ≤ 1000000000000) :
    Calls Try.prog 26 #[.agg #[v]] w fun e w' => ∃ v', e = .returned (.tuple #[v', .int .i64 (ckErr (fls es))]) ∧ Fresh w w' (aBr v' (if okFs (fls es) = true then bytesF (fls es) else [])) := by
  obtain ⟨A, c, rfl, l1, l2⟩ := fs_form h
  have M := (Mem.start w).inFs 0 rfl h
  refine enter Try.func26 rfl Try.ntmps26 rfl rfl ?_
  (repeat (first | (refine WR.id ?_; first | refine WR.nil ?_ | refine WR.s ?_ | refine WR.g ?_) | (refine W.id ?_; first | refine W.seq fun _ _ => ?_ | refine W.region ?_ | refine W.s ?_ | refine W.e ?_) | (refine Ends.id ?_; first | refine Ends.seq (by assumption) ?_ | refine Ends.s ?_)))
  refine WR.box rfl (cs := #[.slice A es.length c]) rfl rfl fun w1 hb1 hx1 hs1 => ?_
  replace M := (M.newBox (cs := [.slice A es.length c]) hb1 hx1).freeze
  clear hx1
  have hB := M.zbox 0 rfl
  obtain ⟨_, hf⟩ := M.fs 1 rfl
  (repeat (first | (refine WR.id ?_; first | refine WR.nil ?_ | refine WR.s ?_ | refine WR.g ?_) | (refine W.id ?_; first | refine W.seq fun _ _ => ?_ | refine W.region ?_ | refine W.s ?_ | refine W.e ?_) | (refine Ends.id ?_; first | refine Ends.seq (by assumption) ?_ | refine Ends.s ?_)))
  refine WR.call rfl rfl (check_any _ _ _ _ hf hc) ?_
  rintro _ w2 ⟨rfl, hb⟩
  refine ⟨_, rfl, ?_⟩
  replace M := M.below hb
  clear hB hf
  have hB := M.zbox 0 rfl
  by_cases hk : okFs (fls es) = true
  case neg =>
    have hck := ck_no (by simpa using hk)
    (repeat (first | (refine WR.id ?_; first | refine WR.nil ?_ | refine WR.s ?_ | refine WR.g ?_) | (refine W.id ?_; first | refine W.seq fun _ _ => ?_ | refine W.region ?_ | refine W.s ?_ | refine W.e ?_) | (refine Ends.id ?_; first | refine Ends.seq (by assumption) ?_ | refine Ends.s ?_)))
    exact Ends.ret2 rfl rfl rfl ⟨_, rfl, by rw [if_neg hk]; exact br_nil (M.pre 2 rfl)⟩
  have hck := ck_yes hk
  have hlen := ok_len hk
  have hcost := ok_cost hk
  rw [fls_len] at hlen
  (repeat (first | (refine WR.id ?_; first | refine WR.nil ?_ | refine WR.s ?_ | refine WR.g ?_) | (refine W.id ?_; first | refine W.seq fun _ _ => ?_ | refine W.region ?_ | refine W.s ?_ | refine W.e ?_) | (refine Ends.id ?_; first | refine Ends.seq (by assumption) ?_ | refine Ends.s ?_)))
  rw [conv16 (by omega)]
  refine WR.call rfl rfl (put16_any (.slice none 0 0) [] es.length _ (fun _ => False) (Sl.nil _ _ _) (by simp) (by omega)) ?_
  rintro _ w3 ⟨v3, rfl, ho, hb⟩
  refine ⟨_, rfl, ?_⟩
  replace M := M.newBr hb ho (Nat.le_refl _)
  clear hB
  have hB := M.zbox 0 rfl
  (repeat (first | (refine WR.id ?_; first | refine WR.nil ?_ | refine WR.s ?_ | refine WR.g ?_) | (refine W.id ?_; first | refine W.seq fun _ _ => ?_ | refine W.region ?_ | refine W.s ?_ | refine W.e ?_) | (refine Ends.id ?_; first | refine Ends.seq (by assumption) ?_ | refine Ends.s ?_)))
  clear hB ho
  refine W.loop (X := Nat × Value) (fun x => [(5, x.2), (19, .slice A es.length c), (20, .int .i64 (es.length : Nat)), (21, .int .i64 (x.1 : Nat))])
    (fun x wr => x.1 ≤ es.length ∧ Mem wr [aBr x.2 (be es.length 2 ++ ((fls es).take x.1).flatMap fileB)] [zFs (.slice A es.length c) es, zPre w]) (fun x => es.length - x.1)
    (0, v3) (by repeat (first | exact .nil | refine .cons rfl ?_)) ⟨Nat.zero_le _, M.dropz⟩ ?_
  clear M
  rintro ⟨i, vr⟩ wr ⟨hi, M⟩ K hK
  dsimp only at hi M
  dsimp only
  obtain ⟨Ar, cr, rfl, -⟩ := M.br.bs.open_
  (repeat (first | (refine WR.id ?_; first | refine WR.nil ?_ | refine WR.s ?_ | refine WR.g ?_) | (refine W.id ?_; first | refine W.seq fun _ _ => ?_ | refine W.region ?_ | refine W.s ?_ | refine W.e ?_) | (refine Ends.id ?_; first | refine Ends.seq (by assumption) ?_ | refine Ends.s ?_)))
  refine W.condP (by rfl) (fun hlt => ?_) (fun hlt => ?_)
  · have hil : i < es.length := by omega
    obtain ⟨⟨x, vx⟩, hx⟩ : ∃ x, es[i]? = some x := ⟨_, List.getElem?_eq_getElem hil⟩
    obtain ⟨_, hf⟩ := M.fs 0 rfl
    obtain ⟨ba, oa, hA, hrng, -, -, hbi⟩ := fs_row hf hx
    subst hA
    obtain ⟨Ai, ci, rfl, -⟩ := hbi.open_
    have hxk := ok_at hk (x := x) (List.mem_map.2 ⟨_, List.mem_of_getElem? hx, rfl⟩)
    have hnm : x.name.length ≤ 24 := by have := hxk.1; simp [nmOk] at this; omega
    have hlr : (be es.length 2 ++ ((fls es).take i).flatMap fileB).length ≤ 33000 := by
      rw [List.length_append, be_len, files_len]
      have := cost_take3 (fls es) i
      rw [fls_len] at this
      omega
    (repeat (first | (refine WR.id ?_; first | refine WR.nil ?_ | refine WR.s ?_ | refine WR.g ?_) | (refine W.id ?_; first | refine W.seq fun _ _ => ?_ | refine W.region ?_ | refine W.s ?_ | refine W.e ?_) | (refine Ends.id ?_; first | refine Ends.seq (by assumption) ?_ | refine Ends.s ?_)))
    refine WR.indexAddr (j := i) (by rfl) (by rfl) (by rfl) (by omega) ?_
    refine WR.loadRow (by rfl) hrng (by rfl) (by rfl) ?_
    refine WR.allocStore (c := #[.string ⟨x.name.toArray⟩, .slice Ai x.bytes.length ci]) (by rfl) (by rfl) rfl (by rfl) (by rfl) (all_oneCell_toArray (by intro u hu; simp only [List.mem_cons, List.not_mem_nil, or_false] at hu; rcases hu with rfl | rfl <;> rfl)) (by rfl) fun w6 hb6 hx6 hs6 => ?_
    replace M := ((M.newBox (cs := [.string ⟨x.name.toArray⟩, .slice Ai x.bytes.length ci]) hb6 hx6).freeze)
    clear hf hrng hbi hx6
    generalize wr.heap.size = b7 at M ⊢
    have hown := M.br
    (repeat (first | (refine WR.id ?_; first | refine WR.nil ?_ | refine WR.s ?_ | refine WR.g ?_) | (refine W.id ?_; first | refine W.seq fun _ _ => ?_ | refine W.region ?_ | refine W.s ?_ | refine W.e ?_) | (refine Ends.id ?_; first | refine Ends.seq (by assumption) ?_ | refine Ends.s ?_)))
    refine W.keep (r := [(7, .pointer (some ⟨b7, 0, none⟩)), (5, .slice Ar (be es.length 2 ++ ((fls es).take i).flatMap fileB).length cr), (19, .slice (some ⟨ba, oa, none⟩) es.length c), (20, .int .i64 (es.length : Nat)), (21, .int .i64 (i : Nat))]) (by repeat (first | exact .nil | refine .cons rfl ?_)) ?_
    apply W.draws3To 7 [3, 6] [[], [], [1], [0, 2], [], [4], [3, 5]] [(0, 1), (0, 1), (0, 1), (0, 1), (0, 2), (0, 2), (1, 1)]
      [is _, is _, is _, fun _ _ => True, is _, is _, fun _ _ => True] (fun | [] => (fun u => Mem u [aBr (.slice Ar (be es.length 2 ++ ((fls es).take i).flatMap fileB).length cr) (be es.length 2 ++ ((fls es).take i).flatMap fileB)] [aBox b7 [.string ⟨x.name.toArray⟩, .slice Ai x.bytes.length ci], zFs (.slice (some ⟨ba, oa, none⟩) es.length c) es, zPre w]) | [u0] => (fun u => Mem u [aBr u0 ((be es.length 2 ++ ((fls es).take i).flatMap fileB) ++ nameB x.name)] [aBox b7 [.string ⟨x.name.toArray⟩, .slice Ai x.bytes.length ci], zFs (.slice (some ⟨ba, oa, none⟩) es.length c) es, zPre w]) | [u0, u1] => (fun u => Mem u [aBr u1 (((be es.length 2 ++ ((fls es).take i).flatMap fileB) ++ nameB x.name) ++ countB x.bytes)] [aBox b7 [.string ⟨x.name.toArray⟩, .slice Ai x.bytes.length ci], zFs (.slice (some ⟨ba, oa, none⟩) es.length c) es, zPre w]) | _ => (fun u => True)) (by kernel_rfl) (by kernel_rfl) (by rfl) (by kernel_rfl) (by kernel_rfl) (by rfl) (by rfl) (by kernel_rfl) ⟨stab3_is _ _, stab3_is _ _, stab3_is _ _, fun _ _ _ _ _ => trivial, stab3_is _ _, stab3_is _ _, fun _ _ _ _ _ => trivial, trivial⟩ (fun vs u u' h hb => (by rcases vs with _ | ⟨a, _ | ⟨a2, _ | ⟨a3, r⟩⟩⟩ <;> first | exact Mem.below h hb | trivial)) (M) ?step2 ?fin2
    case step2 =>
      refine ⟨⟨fun wq huq hjq Kq hKq => ?_, trivial⟩, ⟨fun wq huq hjq Kq hKq => ?_, trivial⟩, ⟨fun wq huq hjq Kq hKq => ?_, trivial⟩, ⟨fun wq huq hjq Kq hKq => ?_, trivial⟩, ⟨fun wq huq hjq Kq hKq => ?_, fun u0 wq huq hjq Kq hKq => ?_, trivial⟩, ⟨fun wq huq hjq Kq hKq => ?_, fun u0 wq huq hjq Kq hKq => ?_, trivial⟩, ⟨fun u0 wq huq hjq Kq hKq => ?_, trivial⟩, trivial⟩
      · have hBq := hjq.zbox 0 rfl
        refine WR.s ?_; refine WR.nil ?_; exact Ends.one hKq rfl rfl (Below.refl _ _)
      · have hBq := hjq.zbox 0 rfl
        refine WR.s ?_; refine WR.nil ?_; exact Ends.one hKq rfl rfl (Below.refl _ _)
      · rintro _ rfl
        have hBq := hjq.zbox 0 rfl
        refine WR.s ?_; refine WR.nil ?_; exact Ends.one hKq rfl rfl (Below.refl _ _)
      · rintro _ rfl _ rfl
        have hBq := hjq.zbox 0 rfl
        refine WR.call (by rfl) (by rfl) (putName_M hjq x.name (by omega) (by omega)) ?_; rintro _ wy ⟨v', rfl, My, hu⟩; refine ⟨_, rfl, ?_⟩; refine WR.nil ?_; exact Ends.oneM hKq rfl My (hu.mono fun b _ hb => (World.ownsRow.lt hown b hb).2)
      · have hBq := hjq.zbox 0 rfl
        refine WR.s ?_; refine WR.nil ?_; exact Ends.one hKq rfl rfl (Below.refl _ _)
      · have hBq := hjq.zbox 0 rfl
        refine WR.s ?_; refine WR.nil ?_; exact Ends.one hKq rfl rfl (Below.refl _ _)
      · rintro _ rfl
        have hBq := hjq.zbox 0 rfl
        refine WR.s ?_; refine WR.nil ?_; exact Ends.one hKq rfl rfl (Below.refl _ _)
      · rintro _ rfl
        have hBq := hjq.zbox 0 rfl
        refine WR.s ?_; refine WR.nil ?_; exact Ends.one hKq rfl rfl (Below.refl _ _)
      · rintro u0 rfl _ rfl
        have hBq := hjq.zbox 0 rfl
        obtain ⟨_, hfq⟩ := hjq.fs 1 rfl; obtain ⟨_, _, _, _, _, _, hbq⟩ := fs_row hfq hx; refine WR.call (by rfl) (by rfl) (putBytes_any hjq.br.bs hbq (by simp only [List.length_append, nameB, List.length_cons] at hlr ⊢; omega) (by have := hxk.2; omega)) ?_; rintro _ wy ⟨v', rfl, hf6, hb6⟩; refine ⟨_, rfl, ?_⟩; refine WR.nil ?_; exact Ends.oneM hKq rfl (hjq.drop.newBr hb6 hf6 (Nat.le_refl _)) (Upd.of_below hb6)
    intro u0 u1 wq huq hjq
    rintro _ rfl _ rfl _ rfl u0 rfl _ rfl _ rfl u1 rfl
    refine WR.id ?_
    (repeat (first | (refine WR.id ?_; first | refine WR.nil ?_ | refine WR.s ?_ | refine WR.g ?_) | (refine W.id ?_; first | refine W.seq fun _ _ => ?_ | refine W.region ?_ | refine W.s ?_ | refine W.e ?_) | (refine Ends.id ?_; first | refine Ends.seq (by assumption) ?_ | refine Ends.s ?_)))
    have hlen3 : ((be es.length 2 ++ ((fls es).take i).flatMap fileB) ++ nameB x.name) ++ countB x.bytes = be es.length 2 ++ ((fls es).take (i + 1)).flatMap fileB := by rw [fls_take hx, List.flatMap_append, List.append_assoc, List.append_assoc]; simp [fileB]
    rw [hlen3] at hjq
    exact Ends.round hK (i + 1, u1) (by repeat (first | exact .nil | refine .cons rfl ?_)) ⟨by dsimp only; omega, hjq.dropz⟩ (by dsimp only; omega)
  · obtain rfl : i = es.length := by omega
    (repeat (first | (refine WR.id ?_; first | refine WR.nil ?_ | refine WR.s ?_ | refine WR.g ?_) | (refine W.id ?_; first | refine W.seq fun _ _ => ?_ | refine W.region ?_ | refine W.s ?_ | refine W.e ?_) | (refine Ends.id ?_; first | refine Ends.seq (by assumption) ?_ | refine Ends.s ?_)))
    refine Ends.ret2 rfl rfl rfl ⟨_, by rw [hck], ?_⟩
    rw [if_pos hk, show bytesF (fls es) = be es.length 2 ++ ((fls es).take es.length).flatMap fileB from by unfold bytesF; rw [fls_len, List.take_of_length_le (by rw [fls_len]; omega)]]
    exact M.fresh 1 rfl
end Go.Proofs.Ytjgobljclodpfaa
namespace Go.Proofs.Ytjgobljclodpfaa
open Go.RowKit Go.Shelf K L E
set_option linter.unusedVariables false
set_option linter.unusedSimpArgs false

theorem Bs.nil (w : World) (F : Nat → Prop) : Bs w F (.slice none 0 0) [] := Sl.nil _ _ _
theorem named_any (s : List UInt8) (w : World) (hs : s.length ≤ 100000) :
    Calls Try.prog 49 #[.string ⟨s.toArray⟩] w fun e w' => ∃ v', e = .returned v' ∧ Ob w' w.heap.size 5 v' (nameB s) ∧ Below w.heap.size w w' := by
  have M := Mem.start w
  refine enter Try.func49 rfl Try.ntmps49 rfl rfl ?_
  (repeat (first | (refine WR.id ?_; first | refine WR.nil ?_ | refine WR.s ?_ | refine WR.g ?_) | (refine W.id ?_; first | refine W.seq fun _ _ => ?_ | refine W.region ?_ | refine W.s ?_ | refine W.e ?_) | (refine Ends.id ?_; first | refine Ends.seq (by assumption) ?_ | refine Ends.s ?_)))
  rw [str_size, conv8]
  refine WR.row1 Try.el8 (by decide) (by rfl) (by rfl) (by rfl) fun w1 hb1 hs1 => ?_
  (repeat (first | (refine WR.id ?_; first | refine WR.nil ?_ | refine WR.s ?_ | refine WR.g ?_) | (refine W.id ?_; first | refine W.seq fun _ _ => ?_ | refine W.region ?_ | refine W.s ?_ | refine W.e ?_) | (refine Ends.id ?_; first | refine Ends.seq (by assumption) ?_ | refine Ends.s ?_)))
  refine WR.bytesOf Try.underlying5 (by rfl) (by rfl) (by omega) fun A2 c2 w2 hb2 hs2 => ?_
  have h1 : Bs w2 (w.heap.size ≤ ·) (.slice (some ⟨w.heap.size, 0, none⟩) 1 1) [UInt8.ofNat s.length] := Bs.below hs1 hb2
  (repeat (first | (refine WR.id ?_; first | refine WR.nil ?_ | refine WR.s ?_ | refine WR.g ?_) | (refine W.id ?_; first | refine W.seq fun _ _ => ?_ | refine W.region ?_ | refine W.s ?_ | refine W.e ?_) | (refine Ends.id ?_; first | refine Ends.seq (by assumption) ?_ | refine Ends.s ?_)))
  refine WR.call rfl rfl (both_any _ _ _ _ _ _ _ h1 hs2 (by simp) (by omega)) ?_
  rintro _ w3 ⟨v3, rfl, ho, hb3⟩
  refine ⟨_, rfl, ?_⟩
  (repeat (first | (refine WR.id ?_; first | refine WR.nil ?_ | refine WR.s ?_ | refine WR.g ?_) | (refine W.id ?_; first | refine W.seq fun _ _ => ?_ | refine W.region ?_ | refine W.s ?_ | refine W.e ?_) | (refine Ends.id ?_; first | refine Ends.seq (by assumption) ?_ | refine Ends.s ?_)))
  have hb12 := hb1.trans (hb2.mono hb1.size)
  exact Ends.ret1 rfl rfl ⟨_, rfl, ho.low hb12.size, hb12.trans (hb3.mono hb12.size)⟩
theorem counted_any {v : Value} {xs : List UInt8} {w : World} {F : Nat → Prop} (h : Bs w F v xs) (hx : xs.length ≤ 1000000) :
    Calls Try.prog 50 #[v] w fun e w' => ∃ v', e = .returned v' ∧ Ob w' w.heap.size 5 v' (countB xs) ∧ Below w.heap.size w w' := by
  obtain ⟨A, c, rfl, l1, l2, -⟩ := h.open_
  refine enter Try.func50 rfl Try.ntmps50 rfl rfl ?_
  (repeat (first | (refine WR.id ?_; first | refine WR.nil ?_ | refine WR.s ?_ | refine WR.g ?_) | (refine W.id ?_; first | refine W.seq fun _ _ => ?_ | refine W.region ?_ | refine W.s ?_ | refine W.e ?_) | (refine Ends.id ?_; first | refine Ends.seq (by assumption) ?_ | refine Ends.s ?_)))
  rw [show IntKind.u64.wrap ((xs.length : Nat) : Int) = ((xs.length : Nat) : Int) from by rw [IntKind.wrap_u64]; omega]
  refine WR.call rfl rfl (high_any xs.length 2 _ (by decide) (by omega)) ?_
  rintro _ w1 ⟨v1, rfl, ho, hb⟩
  refine ⟨_, rfl, ?_⟩
  (repeat (first | (refine WR.id ?_; first | refine WR.nil ?_ | refine WR.s ?_ | refine WR.g ?_) | (refine W.id ?_; first | refine W.seq fun _ _ => ?_ | refine W.region ?_ | refine W.s ?_ | refine W.e ?_) | (refine Ends.id ?_; first | refine Ends.seq (by assumption) ?_ | refine Ends.s ?_)))
  refine WR.call rfl rfl (both_any _ _ _ _ _ _ _ ho.bs (Sl.below h (by decide) hb) (by rw [be_len]; decide) (by omega)) ?_
  rintro _ w2 ⟨v2, rfl, ho2, hb2⟩
  refine ⟨_, rfl, ?_⟩
  (repeat (first | (refine WR.id ?_; first | refine WR.nil ?_ | refine WR.s ?_ | refine WR.g ?_) | (refine W.id ?_; first | refine W.seq fun _ _ => ?_ | refine W.region ?_ | refine W.s ?_ | refine W.e ?_) | (refine Ends.id ?_; first | refine Ends.seq (by assumption) ?_ | refine Ends.s ?_)))
  exact Ends.ret1 rfl rfl ⟨_, rfl, ho2.low hb.size, hb.trans (hb2.mono hb.size)⟩

set_option maxRecDepth 100000 in
set_option maxHeartbeats 1000000 in
theorem rbytes_any (v : Value) (es : List FE) (w : World) (F : Nat → Prop) (h : Fs w F v es) (hk : okFs (fls es) = true) :
    Calls Try.prog 27 #[.agg #[v]] w fun e w' => ∃ v', e = .returned v' ∧ (∃ G, Bs w' G v' (bytesF (fls es))) ∧ Below w.heap.size w w' := by
  obtain ⟨A, c, rfl, l1, l2⟩ := fs_form h
  have hlen := ok_len hk
  have hcost := ok_cost hk
  rw [fls_len] at hlen
  have M := (Mem.start w).inFs 0 rfl h
  refine enter Try.func27 rfl Try.ntmps27 rfl rfl ?_
  (repeat (first | (refine WR.id ?_; first | refine WR.nil ?_ | refine WR.s ?_ | refine WR.g ?_) | (refine W.id ?_; first | refine W.seq fun _ _ => ?_ | refine W.region ?_ | refine W.s ?_ | refine W.e ?_) | (refine Ends.id ?_; first | refine Ends.seq (by assumption) ?_ | refine Ends.s ?_)))
  refine WR.box rfl (cs := #[.slice A es.length c]) rfl rfl fun w1 hb1 hx1 hs1 => ?_
  replace M := (M.newBox (cs := [.slice A es.length c]) hb1 hx1).freeze
  clear hx1
  have hB := M.zbox 0 rfl
  (repeat (first | (refine WR.id ?_; first | refine WR.nil ?_ | refine WR.s ?_ | refine WR.g ?_) | (refine W.id ?_; first | refine W.seq fun _ _ => ?_ | refine W.region ?_ | refine W.s ?_ | refine W.e ?_) | (refine Ends.id ?_; first | refine Ends.seq (by assumption) ?_ | refine Ends.s ?_)))
  rw [show IntKind.u64.wrap ((es.length : Nat) : Int) = ((es.length : Nat) : Int) from by rw [IntKind.wrap_u64]; omega]
  refine WR.call rfl rfl (high_any es.length 2 _ (by decide) (by omega)) ?_
  rintro _ w2 ⟨v2, rfl, ho, hb⟩
  refine ⟨_, rfl, ?_⟩
  obtain ⟨Ar, cr, rfl, -⟩ := ho.bs.open_
  replace M := (M.newBs hb ho (Nat.le_refl _)).freeze
  clear hB ho
  (repeat (first | (refine WR.id ?_; first | refine WR.nil ?_ | refine WR.s ?_ | refine WR.g ?_) | (refine W.id ?_; first | refine W.seq fun _ _ => ?_ | refine W.region ?_ | refine W.s ?_ | refine W.e ?_) | (refine Ends.id ?_; first | refine Ends.seq (by assumption) ?_ | refine Ends.s ?_)))
  refine W.loop (X := Nat × List UInt8 × Option Addr × Nat) (fun x => [(1, .pointer (some ⟨w.heap.size, 0, none⟩)), (3, .slice x.2.2.1 x.2.1.length x.2.2.2), (4, .int .i64 (x.1 : Nat))])
    (fun x wr => x.1 ≤ es.length ∧ x.2.1 = be es.length 2 ++ ((fls es).take x.1).flatMap fileB ∧ Mem wr [] [zSl 1 (.slice x.2.2.1 x.2.1.length x.2.2.2) x.2.1.length (bvs x.2.1), aBox w.heap.size [.slice A es.length c], zFs (.slice A es.length c) es, zPre w]) (fun x => es.length - x.1)
    (0, be es.length 2, Ar, cr) (by repeat (first | exact .nil | refine .cons rfl ?_)) ⟨Nat.zero_le _, by simp, M⟩ ?_
  clear M
  rintro ⟨i, out, Ar, cr⟩ wr ⟨hi, hout, M⟩ K hK
  dsimp only at hi hout M
  dsimp only
  have hB := M.zbox 1 rfl
  (repeat (first | (refine WR.id ?_; first | refine WR.nil ?_ | refine WR.s ?_ | refine WR.g ?_) | (refine W.id ?_; first | refine W.seq fun _ _ => ?_ | refine W.region ?_ | refine W.s ?_ | refine W.e ?_) | (refine Ends.id ?_; first | refine Ends.seq (by assumption) ?_ | refine Ends.s ?_)))
  refine W.condP (by rfl) (fun hlt => ?_) (fun hlt => ?_)
  · have hil : i < es.length := by omega
    obtain ⟨⟨x, vx⟩, hx⟩ : ∃ x, es[i]? = some x := ⟨_, List.getElem?_eq_getElem hil⟩
    obtain ⟨_, hf⟩ := M.fs 2 rfl
    obtain ⟨ba, oa, hA, -, hcn, hcb, hbi⟩ := fs_row hf hx
    subst hA
    obtain ⟨Ai, ci, rfl, -⟩ := hbi.open_
    have hxk := ok_at hk (x := x) (List.mem_map.2 ⟨_, List.mem_of_getElem? hx, rfl⟩)
    have hnm : x.name.length ≤ 24 := by have := hxk.1; simp [nmOk] at this; omega
    have hxb := hxk.2
    have hlr : out.length ≤ 33000 := by
      rw [hout, List.length_append, be_len, files_len]
      have := cost_take3 (fls es) i
      rw [fls_len] at this
      omega
    obtain ⟨_, hob⟩ := M.zbs 0 rfl
    have hln : (nameB x.name).length = x.name.length + 1 := rfl
    have hlc : (countB x.bytes).length = x.bytes.length + 2 := by simp only [countB, List.length_append, be_len]; omega
    (repeat (first | (refine WR.id ?_; first | refine WR.nil ?_ | refine WR.s ?_ | refine WR.g ?_) | (refine W.id ?_; first | refine W.seq fun _ _ => ?_ | refine W.region ?_ | refine W.s ?_ | refine W.e ?_) | (refine Ends.id ?_; first | refine Ends.seq (by assumption) ?_ | refine Ends.s ?_)))
    apply W.drawsTo 17 [[], [], [1], [], [2, 3], [4], [5], [6], [], [8], [], [9, 10], [11], [12], [13], [7, 14], [0, 15]]
      [is _, is _, is _, is _, is _, is _, is _, (fun u v => Bs u (wr.heap.size ≤ ·) v (nameB x.name)), is _, is _, is _, is _, is _, is _, (fun u v => Bs u (wr.heap.size ≤ ·) v (countB x.bytes)), (fun u v => Bs u (wr.heap.size ≤ ·) v (nameB x.name ++ countB x.bytes)), (fun u v => Bs u (wr.heap.size ≤ ·) v (out ++ (nameB x.name ++ countB x.bytes)))] (by kernel_rfl) (by kernel_rfl) (by rfl) (by kernel_rfl) (by kernel_rfl) ⟨stab_is _, stab_is _, stab_is _, stab_is _, stab_is _, stab_is _, stab_is _, (fun _ _ _ h hb => Bs.below h hb), stab_is _, stab_is _, stab_is _, stab_is _, stab_is _, stab_is _, (fun _ _ _ h hb => Bs.below h hb), (fun _ _ _ h hb => Bs.below h hb), (fun _ _ _ h hb => Bs.below h hb), trivial⟩ ?step1 ?fin1
    case step1 =>
      refine ⟨fun wq hbq Kq hKq => ?_, fun wq hbq Kq hKq => ?_, fun wq hbq Kq hKq => ?_, fun wq hbq Kq hKq => ?_, fun wq hbq Kq hKq => ?_, fun wq hbq Kq hKq => ?_, fun wq hbq Kq hKq => ?_, fun wq hbq Kq hKq => ?_, fun wq hbq Kq hKq => ?_, fun wq hbq Kq hKq => ?_, fun wq hbq Kq hKq => ?_, fun wq hbq Kq hKq => ?_, fun wq hbq Kq hKq => ?_, fun wq hbq Kq hKq => ?_, fun wq hbq Kq hKq => ?_, fun wq hbq Kq hKq => ?_, fun wq hbq Kq hKq => ?_, trivial⟩
      · have hB := hB.below hbq; have hcn := cell_bel hbq hcn; have hcb := cell_bel hbq hcb
        refine WR.s ?_; refine WR.nil ?_; exact Ends.one hKq rfl rfl (Below.refl _ _)
      · have hB := hB.below hbq; have hcn := cell_bel hbq hcn; have hcb := cell_bel hbq hcb
        refine WR.s ?_; refine WR.nil ?_; exact Ends.one hKq rfl rfl (Below.refl _ _)
      · rintro _ rfl
        have hB := hB.below hbq; have hcn := cell_bel hbq hcn; have hcb := cell_bel hbq hcb
        refine WR.s ?_; refine WR.nil ?_; exact Ends.one hKq rfl rfl (Below.refl _ _)
      · have hB := hB.below hbq; have hcn := cell_bel hbq hcn; have hcb := cell_bel hbq hcb
        refine WR.s ?_; refine WR.nil ?_; exact Ends.one hKq rfl rfl (Below.refl _ _)
      · rintro _ rfl _ rfl
        have hB := hB.below hbq; have hcn := cell_bel hbq hcn; have hcb := cell_bel hbq hcb
        refine WR.indexAddr (j := i) (by rfl) (by rfl) (by rfl) (by omega) ?_; refine WR.nil ?_; exact Ends.one hKq rfl rfl (Below.refl _ _)
      · rintro _ rfl
        have hB := hB.below hbq; have hcn := cell_bel hbq hcn; have hcb := cell_bel hbq hcb
        refine WR.s ?_; refine WR.nil ?_; exact Ends.one hKq rfl rfl (Below.refl _ _)
      · rintro _ rfl
        have hB := hB.below hbq; have hcn := cell_bel hbq hcn; have hcb := cell_bel hbq hcb
        refine WR.load (by rfl) hcn (by rfl) ?_; refine WR.nil ?_; exact Ends.one hKq rfl rfl (Below.refl _ _)
      · rintro _ rfl
        have hB := hB.below hbq; have hcn := cell_bel hbq hcn; have hcb := cell_bel hbq hcb
        refine WR.call (by rfl) (by rfl) (named_any x.name _ (by omega)) ?_; rintro _ wy ⟨v', rfl, h1, hb⟩; refine ⟨_, rfl, ?_⟩; refine WR.nil ?_; exact Ends.one hKq rfl (h1.low hbq.size).bs hb 
      · have hB := hB.below hbq; have hcn := cell_bel hbq hcn; have hcb := cell_bel hbq hcb
        refine WR.s ?_; refine WR.nil ?_; exact Ends.one hKq rfl rfl (Below.refl _ _)
      · rintro _ rfl
        have hB := hB.below hbq; have hcn := cell_bel hbq hcn; have hcb := cell_bel hbq hcb
        refine WR.s ?_; refine WR.nil ?_; exact Ends.one hKq rfl rfl (Below.refl _ _)
      · have hB := hB.below hbq; have hcn := cell_bel hbq hcn; have hcb := cell_bel hbq hcb
        refine WR.s ?_; refine WR.nil ?_; exact Ends.one hKq rfl rfl (Below.refl _ _)
      · rintro _ rfl _ rfl
        have hB := hB.below hbq; have hcn := cell_bel hbq hcn; have hcb := cell_bel hbq hcb
        refine WR.indexAddr (j := i) (by rfl) (by rfl) (by rfl) (by omega) ?_; refine WR.nil ?_; exact Ends.one hKq rfl rfl (Below.refl _ _)
      · rintro _ rfl
        have hB := hB.below hbq; have hcn := cell_bel hbq hcn; have hcb := cell_bel hbq hcb
        refine WR.s ?_; refine WR.nil ?_; exact Ends.one hKq rfl rfl (Below.refl _ _)
      · rintro _ rfl
        have hB := hB.below hbq; have hcn := cell_bel hbq hcn; have hcb := cell_bel hbq hcb
        refine WR.load (by rfl) hcb (by rfl) ?_; refine WR.nil ?_; exact Ends.one hKq rfl rfl (Below.refl _ _)
      · rintro _ rfl
        have hB := hB.below hbq; have hcn := cell_bel hbq hcn; have hcb := cell_bel hbq hcb
        refine WR.call (by rfl) (by rfl) (counted_any (Bs.below hbi hbq) (by omega)) ?_; rintro _ wy ⟨v', rfl, h1, hb⟩; refine ⟨_, rfl, ?_⟩; refine WR.nil ?_; exact Ends.one hKq rfl (h1.low hbq.size).bs hb 
      · rintro v7 h7 v14 h14
        have hB := hB.below hbq; have hcn := cell_bel hbq hcn; have hcb := cell_bel hbq hcb
        refine WR.call (by rfl) (by rfl) (both_any _ _ _ _ _ _ _ h7 h14 (by omega) (by omega)) ?_; rintro _ wy ⟨v', rfl, h1, hb⟩; refine ⟨_, rfl, ?_⟩; refine WR.nil ?_; exact Ends.one hKq rfl (h1.low hbq.size).bs hb 
      · rintro _ rfl v15 h15
        have hB := hB.below hbq; have hcn := cell_bel hbq hcn; have hcb := cell_bel hbq hcb
        refine WR.call (by rfl) (by rfl) (both_any _ _ _ _ _ _ _ (Bs.below hob hbq) h15 (by omega) (by rw [List.length_append]; omega)) ?_; rintro _ wy ⟨v', rfl, h1, hb⟩; refine ⟨_, rfl, ?_⟩; refine WR.nil ?_; exact Ends.one hKq rfl (h1.low hbq.size).bs hb 
    intro wq hbq
    rintro _ rfl _ rfl _ rfl _ rfl _ rfl _ rfl _ rfl v7 h7 _ rfl _ rfl _ rfl _ rfl _ rfl _ rfl v14 h14 v15 h15 v16 h16
    refine WR.id ?_
    have hB := hB.below hbq; have hcn := cell_bel hbq hcn; have hcb := cell_bel hbq hcb
    replace M := (M.new hbq (bs_zsl h16) fun b hb => hb.1).freeze
    obtain ⟨A3, c3, rfl, -⟩ := Bs.open_ h16
    clear hB hcn hcb h7 h14 h15 h16
    (repeat (first | (refine WR.id ?_; first | refine WR.nil ?_ | refine WR.s ?_ | refine WR.g ?_) | (refine W.id ?_; first | refine W.seq fun _ _ => ?_ | refine W.region ?_ | refine W.s ?_ | refine W.e ?_) | (refine Ends.id ?_; first | refine Ends.seq (by assumption) ?_ | refine Ends.s ?_)))
    exact Ends.round hK (i + 1, out ++ (nameB x.name ++ countB x.bytes), A3, c3) (by repeat (first | exact .nil | refine .cons rfl ?_)) ⟨by dsimp only; omega, by dsimp only; rw [hout, fls_take hx, List.flatMap_append, List.append_assoc]; simp [fileB], M.dropz2⟩ (by dsimp only; omega)
  · obtain rfl : i = es.length := by omega
    rw [List.take_of_length_le (by rw [fls_len]; omega)] at hout
    obtain ⟨_, hob⟩ := M.zbs 0 rfl
    (repeat (first | (refine WR.id ?_; first | refine WR.nil ?_ | refine WR.s ?_ | refine WR.g ?_) | (refine W.id ?_; first | refine W.seq fun _ _ => ?_ | refine W.region ?_ | refine W.s ?_ | refine W.e ?_) | (refine Ends.id ?_; first | refine Ends.seq (by assumption) ?_ | refine Ends.s ?_)))
    refine Ends.ret1 rfl rfl ⟨_, rfl, ⟨_, by rw [show bytesF (fls es) = out from by rw [hout]; unfold bytesF; rw [fls_len]]; exact hob⟩, M.pre 3 rfl⟩
end Go.Proofs.Ytjgobljclodpfaa
namespace Go.Proofs.Ytjgobljclodpfaa
open Go.RowKit Go.Shelf K L E
set_option linter.unusedVariables false
set_option linter.unusedSimpArgs false

/-- A name off a reader; bytes off it. -/
def rdName (r : Rs) : Rs × List UInt8 := (r.take 1).1.take (num (r.take 1).2 : Nat)
def rdBytes (r : Rs) : Rs × List UInt8 := (r.take 2).1.take (num (r.take 2).2 : Nat)
section
variable {w : World} {b : Nat} {r : Rs} {Os Zs : List Ass}
theorem getName_M (M : Mem w (aRd b r :: Os) Zs) :
    Calls Try.prog 54 #[.pointer (some ⟨b, 0, none⟩)] w fun e w' => e = .returned (.string ⟨(rdName r).2.toArray⟩) ∧ Mem w' (aRd b (rdName r).1 :: Os) Zs ∧ Upd (fun x => x = b) w w' := by
  have hn : num (r.take 1).2 < 256 := Rs.num_lt r 1
  refine enter Try.func54 rfl Try.ntmps54 rfl rfl ?_
  (repeat (first | (refine WR.id ?_; first | refine WR.nil ?_ | refine WR.s ?_ | refine WR.g ?_) | (refine W.id ?_; first | refine W.seq fun _ _ => ?_ | refine W.region ?_ | refine W.s ?_ | refine W.e ?_) | (refine Ends.id ?_; first | refine Ends.seq (by assumption) ?_ | refine Ends.s ?_)))
  refine WR.call rfl rfl (u8_M M) ?_
  rintro _ w1 ⟨rfl, M, hu1⟩
  refine ⟨_, rfl, ?_⟩
  (repeat (first | (refine WR.id ?_; first | refine WR.nil ?_ | refine WR.s ?_ | refine WR.g ?_) | (refine W.id ?_; first | refine W.seq fun _ _ => ?_ | refine W.region ?_ | refine W.s ?_ | refine W.e ?_) | (refine Ends.id ?_; first | refine Ends.seq (by assumption) ?_ | refine Ends.s ?_)))
  rw [wrap_i64 (by omega) (by omega)]
  refine WR.call rfl rfl (raw_M M (num (r.take 1).2 : Nat) (by omega)) ?_
  rintro _ w2 ⟨v2, rfl, M, hu2⟩
  refine ⟨_, rfl, ?_⟩
  obtain ⟨_, hbs⟩ := M.bs
  refine WR.strOf Try.underlying5 (by rfl) (by rfl) hbs ?_
  (repeat (first | (refine WR.id ?_; first | refine WR.nil ?_ | refine WR.s ?_ | refine WR.g ?_) | (refine W.id ?_; first | refine W.seq fun _ _ => ?_ | refine W.region ?_ | refine W.s ?_ | refine W.e ?_) | (refine Ends.id ?_; first | refine Ends.seq (by assumption) ?_ | refine Ends.s ?_)))
  exact Ends.ret1 rfl rfl ⟨rfl, M.drop, hu1.trans hu2 fun _ _ h => h⟩
theorem getBytes_M (M : Mem w (aRd b r :: Os) Zs) :
    Calls Try.prog 55 #[.pointer (some ⟨b, 0, none⟩)] w fun e w' => ∃ v', e = .returned v' ∧ Mem w' (zSl 1 v' (rdBytes r).2.length (bvs (rdBytes r).2) :: aRd b (rdBytes r).1 :: Os) Zs ∧ Upd (fun x => x = b) w w' := by
  have hn : num (r.take 2).2 < 65536 := Rs.num_lt r 2
  refine enter Try.func55 rfl Try.ntmps55 rfl rfl ?_
  (repeat (first | (refine WR.id ?_; first | refine WR.nil ?_ | refine WR.s ?_ | refine WR.g ?_) | (refine W.id ?_; first | refine W.seq fun _ _ => ?_ | refine W.region ?_ | refine W.s ?_ | refine W.e ?_) | (refine Ends.id ?_; first | refine Ends.seq (by assumption) ?_ | refine Ends.s ?_)))
  refine WR.call rfl rfl (u16_M M) ?_
  rintro _ w1 ⟨rfl, M, hu1⟩
  refine ⟨_, rfl, ?_⟩
  (repeat (first | (refine WR.id ?_; first | refine WR.nil ?_ | refine WR.s ?_ | refine WR.g ?_) | (refine W.id ?_; first | refine W.seq fun _ _ => ?_ | refine W.region ?_ | refine W.s ?_ | refine W.e ?_) | (refine Ends.id ?_; first | refine Ends.seq (by assumption) ?_ | refine Ends.s ?_)))
  rw [wrap_i64 (by omega) (by omega)]
  refine WR.call rfl rfl (raw_M M (num (r.take 2).2 : Nat) (by omega)) ?_
  rintro _ w2 ⟨v2, rfl, M, hu2⟩
  refine ⟨_, rfl, ?_⟩
  (repeat (first | (refine WR.id ?_; first | refine WR.nil ?_ | refine WR.s ?_ | refine WR.g ?_) | (refine W.id ?_; first | refine W.seq fun _ _ => ?_ | refine W.region ?_ | refine W.s ?_ | refine W.e ?_) | (refine Ends.id ?_; first | refine Ends.seq (by assumption) ?_ | refine Ends.s ?_)))
  exact Ends.ret1 rfl rfl ⟨_, rfl, M, hu1.trans hu2 fun _ _ h => h⟩
end
/-- A file off a reader. -/
def rdFile (r : Rs) : Rs × Fl := ((rdBytes (rdName r).1).1, ⟨(rdName r).2, (rdBytes (rdName r).1).2⟩)
def rdAll : Nat → Rs → List Fl → Rs × List Fl
  | 0, r, l => (r, l)
  | k + 1, r, l => if r.err ≠ 0 then (r, l) else rdAll k (rdFile r).1 (l ++ [(rdFile r).2])
def decR (xs : List UInt8) : Rs × List Fl := rdAll (num ((⟨xs, 0, 0⟩ : Rs).take 2).2) ((⟨xs, 0, 0⟩ : Rs).take 2).1 []
def decF (xs : List UInt8) : Int × List Fl := if (decR xs).1.err ≠ 0 then (7, []) else if 0 < ((decR xs).1.xs.length : Int) - (decR xs).1.pos ∨ okFs (decR xs).2 = false then (150, []) else (0, (decR xs).2)
theorem rdAll_err {k : Nat} {r : Rs} {l : List Fl} (h : r.err ≠ 0) : rdAll k r l = (r, l) := by cases k with
  | zero => rfl
  | succ k => rw [rdAll, if_pos h]
theorem rdAll_one {k : Nat} {r : Rs} {l : List Fl} (h : r.err = 0) : rdAll (k + 1) r l = rdAll k (rdFile r).1 (l ++ [(rdFile r).2]) := by rw [rdAll, if_neg (by rw [h]; simp)]
/-- Bytes of files that nobody writes. -/
def zBy (es : List FE) : Ass := ⟨fun w F => (∀ e ∈ es, Bs w F e.2 e.1.bytes) ∧ ∀ b, F b → b < w.heap.size, fun h => h.2,
  fun h hs => ⟨fun e he => Sl.keep (h.1 e he) (by decide) fun b _ hF => hs.block b hF, fun b hb => Nat.lt_of_lt_of_le (h.2 b hb) hs.size⟩⟩
theorem zsl_of {w : World} {F : Nat → Prop} {k n : Nat} {v : Value} {xs : List Value} (hk : 0 < k) (h : K.Sl w F k v n xs) : (zSl k v n xs).p w (fun b => F b ∧ b < w.heap.size) := ⟨hk, Sl.imp h (fun b hb hF => ⟨hF, hb⟩) hk, fun b hb => hb.2⟩
theorem build_file (s : ByteArray) (A : Option Addr) (n c : Nat) (w : World) : (Instr.build 40 #[(0, .string s), (1, .slice A n c)]).run Try.prog w = .ok (.agg #[.string s, .slice A n c]) w := by kernel_rfl
theorem file_one {s : ByteArray} {A : Option Addr} {n c : Nat} : ∀ u ∈ [Value.string s, .slice A n c], u.oneCell' = true := by intro u hu; simp only [List.mem_cons, List.not_mem_nil, or_false] at hu; rcases hu with rfl | rfl <;> rfl
theorem E.Mem.moreBy {w : World} {Os Zs : List Ass} {es : List FE} {x : Fl} {v : Value} (M : Mem w Os (zSl 1 v x.bytes.length (bvs x.bytes) :: zBy es :: Zs)) : Mem w Os (zBy (es ++ [(x, v)]) :: Zs) :=
  ((M.part2 (a := zBy (es ++ [(x, v)])) 0 1 rfl rfl fun F E h1 h2 => ⟨fun b => F b ∨ E b, ⟨fun e he => by
    rcases List.mem_append.1 he with he | he
    · exact Sl.imp (h2.1 e he) (fun b _ hb => .inr hb) (by decide)
    · obtain rfl := List.mem_singleton.1 he
      exact Sl.imp h1.2.1 (fun b _ hb => .inl hb) (by decide), fun b hb => hb.elim (h1.2.2 b) (h2.2 b)⟩, fun b hb => hb⟩).subz (by intro z hz; simp only [List.mem_cons] at hz ⊢; rcases hz with rfl | hz; exact .inl rfl; exact .inr (.inr (.inr hz))))
theorem E.Mem.fsOf {w : World} {Os Zs : List Ass} {es : List FE} {v : Value} {n : Nat} (M : Mem w Os Zs) (hr : ∃ base e, w.ownsRow base e 2 v es.length (es.flatMap FE.cells)) (k : Nat) (hz : Zs[k]? = some (zBy es)) : FsF w (fun b => b < w.heap.size) v es := by
  obtain ⟨base, e, hr⟩ := hr
  obtain ⟨F, h, hb⟩ := M.z k hz
  exact ⟨(Sl.of_own hr).imp (fun b hb _ => hb) (by decide), fun e he => (h e he).lt⟩
theorem rdName_len (r : Rs) : (rdName r).2.length ≤ 255 := by
  have h1 : num (r.take 1).2 < 256 := Rs.num_lt r 1
  have := (r.take 1).1.take_at (num (r.take 1).2)
  unfold rdName; omega
theorem rdBytes_len (r : Rs) : (rdBytes r).2.length ≤ 65535 := by
  have h1 : num (r.take 2).2 < 65536 := Rs.num_lt r 2
  have := (r.take 2).1.take_at (num (r.take 2).2)
  unfold rdBytes; omega

set_option maxRecDepth 100000 in
set_option maxHeartbeats 4000000 in
theorem decode_any (v : Value) (xs : List UInt8) (w : World) (F : Nat → Prop) (h : Bs w F v xs) (hl : xs.length ≤ 100000000) :
    Calls Try.prog 28 #[v] w fun e w' => ∃ v' es', e = .returned (.tuple #[.agg #[v'], .int .i64 (decF xs).1]) ∧ fls es' = (decF xs).2 ∧ FsF w' (fun b => b < w'.heap.size) v' es' ∧ Below w.heap.size w w' := by
  have M := Mem.start w
  refine enter Try.func28 rfl Try.ntmps28 rfl rfl ?_
  (repeat (first | (refine WR.id ?_; first | refine WR.nil ?_ | refine WR.s ?_ | refine WR.g ?_) | (refine W.id ?_; first | refine W.seq fun _ _ => ?_ | refine W.region ?_ | refine W.s ?_ | refine W.e ?_) | (refine Ends.id ?_; first | refine Ends.seq (by assumption) ?_ | refine Ends.s ?_)))
  refine WR.alloc (by rfl) fun w1 hb1 hx1 hs1 => ?_
  replace M := M.newBox (cs := [.slice none 0 0]) hb1 hx1
  have h1 := Bs.below h hb1
  obtain ⟨q2, hq2⟩ : ∃ q, q = w.heap.size := ⟨_, rfl⟩
  rw [← hq2] at M
  (repeat (first | (refine WR.id ?_; first | refine WR.nil ?_ | refine WR.s ?_ | refine WR.g ?_) | (refine W.id ?_; first | refine W.seq fun _ _ => ?_ | refine W.region ?_ | refine W.s ?_ | refine W.e ?_) | (refine Ends.id ?_; first | refine Ends.seq (by assumption) ?_ | refine Ends.s ?_)))
  refine WR.call rfl rfl (read_M M h1 (by omega)) ?_
  rintro _ w2 ⟨b, rfl, M⟩
  refine ⟨_, rfl, ?_⟩
  (repeat (first | (refine WR.id ?_; first | refine WR.nil ?_ | refine WR.s ?_ | refine WR.g ?_) | (refine W.id ?_; first | refine W.seq fun _ _ => ?_ | refine W.region ?_ | refine W.s ?_ | refine W.e ?_) | (refine Ends.id ?_; first | refine Ends.seq (by assumption) ?_ | refine Ends.s ?_)))
  refine WR.call rfl rfl (u16_M M) ?_
  rintro _ w3 ⟨rfl, M, hu3⟩
  refine ⟨_, rfl, ?_⟩
  have hn := Rs.num_lt ⟨xs, 0, 0⟩ 2
  obtain ⟨n, hnn⟩ : ∃ n, num ((⟨xs, 0, 0⟩ : Rs).take 2).2 = n := ⟨_, rfl⟩
  obtain ⟨r0, hr0⟩ : ∃ r, ((⟨xs, 0, 0⟩ : Rs).take 2).1 = r := ⟨_, rfl⟩
  have hR : rdAll n r0 (fls []) = decR xs := by rw [← hnn, ← hr0]; rfl
  rw [hnn]
  rw [hr0] at M
  have hn2 : n < 65536 := by rw [← hnn]; exact hn
  clear hn
  (repeat (first | (refine WR.id ?_; first | refine WR.nil ?_ | refine WR.s ?_ | refine WR.g ?_) | (refine W.id ?_; first | refine W.seq fun _ _ => ?_ | refine W.region ?_ | refine W.s ?_ | refine W.e ?_) | (refine Ends.id ?_; first | refine Ends.seq (by assumption) ?_ | refine Ends.s ?_)))
  rw [wrap_i64 (by omega) (by omega)]
  (repeat (first | (refine WR.id ?_; first | refine WR.nil ?_ | refine WR.s ?_ | refine WR.g ?_) | (refine W.id ?_; first | refine W.seq fun _ _ => ?_ | refine W.region ?_ | refine W.s ?_ | refine W.e ?_) | (refine Ends.id ?_; first | refine Ends.seq (by assumption) ?_ | refine Ends.s ?_)))
  refine WR.alloc (by rfl) fun w4 hb4 hx4 hs4 => ?_
  replace M := M.newBox (cs := [.slice none 0 0]) hb4 hx4
  generalize w3.heap.size = q6 at M ⊢
  replace M : Mem w4 [aRd b r0, aRow 40 2 (.slice none 0 0) 0 [], aBox q6 [.slice none 0 0], aBox q2 [.slice none 0 0]] [zBy [], zPre w] :=
    (((M.new (Below.refl _ _) (a := aRow 40 2 (.slice none 0 0) 0 []) (F := fun _ => False) ⟨fun b => ⟨fun h => h.elim, fun h => (by cases h)⟩, World.ownsRow_nil _ _ _ _⟩ fun _ h => h.elim).third)).part (a := zBy []) 0 rfl fun F hF => ⟨fun _ => False, ⟨fun e he => (by cases he), fun _ h => h.elim⟩, fun _ h => h.elim⟩
  clear h1 hx1 hx4
  subst hq2
  (repeat (first | (refine WR.id ?_; first | refine WR.nil ?_ | refine WR.s ?_ | refine WR.g ?_) | (refine W.id ?_; first | refine W.seq fun _ _ => ?_ | refine W.region ?_ | refine W.s ?_ | refine W.e ?_) | (refine Ends.id ?_; first | refine Ends.seq (by assumption) ?_ | refine Ends.s ?_)))
  refine W.loopX 0 (X := Nat × Rs × List FE × Option Addr × Nat) (Y := Rs × List FE × Option Addr × Nat) (fun x => [(2, .pointer (some ⟨w.heap.size, 0, none⟩)), (4, .pointer (some ⟨b, 0, none⟩)), (6, .pointer (some ⟨q6, 0, none⟩)), (12, .int .i64 (n : Nat)), (13, .int .i64 (x.1 : Nat))])
    (fun x wr => x.1 ≤ n ∧ x.2.2.1.length ≤ x.1 ∧ cost (fls x.2.2.1) ≤ x.1 * 65790 ∧ rdAll (n - x.1) x.2.1 (fls x.2.2.1) = decR xs ∧ Mem wr [aRd b x.2.1, aRow 40 2 (.slice x.2.2.2.1 x.2.2.1.length x.2.2.2.2) x.2.2.1.length (x.2.2.1.flatMap FE.cells), aBox q6 [.slice x.2.2.2.1 x.2.2.1.length x.2.2.2.2], aBox w.heap.size [.slice none 0 0]] [zBy x.2.2.1, zPre w]) (fun x => n - x.1)
    (fun y => [(2, .pointer (some ⟨w.heap.size, 0, none⟩)), (4, .pointer (some ⟨b, 0, none⟩)), (6, .pointer (some ⟨q6, 0, none⟩))])
    (fun y wr => y.2.1.length ≤ 65536 ∧ cost (fls y.2.1) ≤ 1000000000000 ∧ (y.1, fls y.2.1) = decR xs ∧ Mem wr [aRd b y.1, aRow 40 2 (.slice y.2.2.1 y.2.1.length y.2.2.2) y.2.1.length (y.2.1.flatMap FE.cells), aBox q6 [.slice y.2.2.1 y.2.1.length y.2.2.2], aBox w.heap.size [.slice none 0 0]] [zBy y.2.1, zPre w])
    (0, r0, [], none, 0) (by repeat (first | exact .nil | refine .cons rfl ?_)) ⟨Nat.zero_le _, Nat.le_refl _, Nat.zero_le _, hR, M⟩ ?_ ?_
  · clear M hR
    rintro ⟨i, r, es, Ar, cr⟩ wr ⟨hi, hlen, hcost, hR, M⟩ K Q' hK hX hE
    dsimp only at hi hlen hcost hR M
    dsimp only
    (repeat (first | (refine WR.id ?_; first | refine WR.nil ?_ | refine WR.s ?_ | refine WR.g ?_) | (refine W.id ?_; first | refine W.seq fun _ _ => ?_ | refine W.region ?_ | refine W.s ?_ | refine W.e ?_) | (refine Ends.id ?_; first | refine Ends.seq (by assumption) ?_ | refine Ends.s ?_)))
    refine W.condP (by rfl) (fun hlt => ?_) (fun hlt => ?_)
    · have hB := M.third.box
      (repeat (first | (refine WR.id ?_; first | refine WR.nil ?_ | refine WR.s ?_ | refine WR.g ?_) | (refine W.id ?_; first | refine W.seq fun _ _ => ?_ | refine W.region ?_ | refine W.s ?_ | refine W.e ?_) | (refine Ends.id ?_; first | refine Ends.seq (by assumption) ?_ | refine Ends.s ?_)))
      refine WR.call rfl rfl (err_M M) ?_
      rintro _ wr ⟨rfl, rfl⟩
      refine ⟨_, rfl, ?_⟩
      by_cases he : r.err = 0
      · have hown := M.swap.row
        have hbb : b < wr.heap.size := by obtain ⟨_, _, M⟩ := M.rd; exact M.box.lt
        have hqq : q6 < wr.heap.size := hB.lt
        (repeat (first | (refine WR.id ?_; first | refine WR.nil ?_ | refine WR.s ?_ | refine WR.g ?_) | (refine W.id ?_; first | refine W.seq fun _ _ => ?_ | refine W.region ?_ | refine W.s ?_ | refine W.e ?_) | (refine Ends.id ?_; first | refine Ends.seq (by assumption) ?_ | refine Ends.s ?_)))
        refine W.keep (r := [(2, .pointer (some ⟨w.heap.size, 0, none⟩)), (4, .pointer (some ⟨b, 0, none⟩)), (6, .pointer (some ⟨q6, 0, none⟩)), (12, .int .i64 (n : Nat)), (13, .int .i64 (i : Nat))]) (by repeat (first | exact .nil | refine .cons rfl ?_)) ?_
        apply W.draws3 [3, 5, 6, 7, 8, 10] [[], [0], [], [2], [], [4], [3, 5], [6], [1, 7], [], [9, 8]] [(0, 5), (0, 5), (0, 1), (0, 1), (0, 2), (1, 1), (2, 1), (3, 1), (4, 1), (5, 1), (5, 1)]
          [is _, is _, is _, fun _ _ => True, is _, fun _ _ => True, fun _ _ => True, fun _ _ => True, fun _ _ => True, is _, fun _ _ => True] (fun | [] => (fun u => Mem u (aRd b r :: aRow 40 2 (.slice Ar es.length cr) es.length (es.flatMap FE.cells) :: aBox q6 [.slice Ar es.length cr] :: [aBox w.heap.size [.slice none 0 0]]) [zBy es, zPre w]) | [u0] => (fun u => Mem u (aIf (u0 = .string ⟨(rdName r).2.toArray⟩) (aRd b (rdName r).1) :: aRow 40 2 (.slice Ar es.length cr) es.length (es.flatMap FE.cells) :: aBox q6 [.slice Ar es.length cr] :: [aBox w.heap.size [.slice none 0 0]]) [zBy es, zPre w]) | [u0, u1] => (fun u => Mem u (aIf (u0 = .string ⟨(rdName r).2.toArray⟩ ∧ ∃ A c, u1 = .slice A (rdBytes (rdName r).1).2.length c) (aRd b (rdBytes (rdName r).1).1) :: aRow 40 2 (.slice Ar es.length cr) es.length (es.flatMap FE.cells) :: aBox q6 [.slice Ar es.length cr] :: [aBox w.heap.size [.slice none 0 0]]) (zSl 1 u1 (rdBytes (rdName r).1).2.length (bvs (rdBytes (rdName r).1).2) :: [zBy es, zPre w])) | [u0, u1, u2] => (fun u => Mem u (aIf (u2 = .agg #[.string ⟨(rdName r).2.toArray⟩, u1] ∧ ∃ A c, u1 = .slice A (rdBytes (rdName r).1).2.length c) (aRd b (rdBytes (rdName r).1).1) :: aRow 40 2 (.slice Ar es.length cr) es.length (es.flatMap FE.cells) :: aBox q6 [.slice Ar es.length cr] :: [aBox w.heap.size [.slice none 0 0]]) (zSl 1 u1 (rdBytes (rdName r).1).2.length (bvs (rdBytes (rdName r).1).2) :: [zBy es, zPre w])) | [u0, u1, u2, u3] => (fun u => Mem u (aIf (∃ A c, u1 = .slice A (rdBytes (rdName r).1).2.length c) (aRd b (rdBytes (rdName r).1).1) :: aRow 40 2 (.slice Ar es.length cr) es.length (es.flatMap FE.cells) :: aBox q6 [.slice Ar es.length cr] :: [aBox w.heap.size [.slice none 0 0]]) (zSl 2 u3 1 [.string ⟨(rdName r).2.toArray⟩, u1] :: zSl 1 u1 (rdBytes (rdName r).1).2.length (bvs (rdBytes (rdName r).1).2) :: [zBy es, zPre w])) | [u0, u1, u2, u3, u4] => (fun u => Mem u (aIf (∃ A c, u1 = .slice A (rdBytes (rdName r).1).2.length c) (aRow 40 2 u4 (es.length + 1) (es.flatMap FE.cells ++ [.string ⟨(rdName r).2.toArray⟩, u1])) :: aRd b (rdBytes (rdName r).1).1 :: aBox q6 [.slice Ar es.length cr] :: [aBox w.heap.size [.slice none 0 0]]) (zSl 1 u1 (rdBytes (rdName r).1).2.length (bvs (rdBytes (rdName r).1).2) :: [zBy es, zPre w])) | [u0, u1, u2, u3, u4, u5] => (fun u => Mem u (aIf (∃ A c, u1 = .slice A (rdBytes (rdName r).1).2.length c) (aBox q6 [u4]) :: aRow 40 2 u4 (es.length + 1) (es.flatMap FE.cells ++ [.string ⟨(rdName r).2.toArray⟩, u1]) :: aRd b (rdBytes (rdName r).1).1 :: [aBox w.heap.size [.slice none 0 0]]) (zSl 1 u1 (rdBytes (rdName r).1).2.length (bvs (rdBytes (rdName r).1).2) :: [zBy es, zPre w])) | _ => (fun u => True)) (by kernel_rfl) (by kernel_rfl) (by rfl) (by kernel_rfl) (by kernel_rfl) (by rfl) (by rfl) ⟨stab3_is _ _, stab3_is _ _, stab3_is _ _, fun _ _ _ _ _ => trivial, stab3_is _ _, fun _ _ _ _ _ => trivial, fun _ _ _ _ _ => trivial, fun _ _ _ _ _ => trivial, fun _ _ _ _ _ => trivial, stab3_is _ _, fun _ _ _ _ _ => trivial, trivial⟩ (fun vs u u' h hb => (by rcases vs with _ | ⟨a, _ | ⟨a2, _ | ⟨a3, _ | ⟨a4, _ | ⟨a5, _ | ⟨a6, _ | ⟨a7, r⟩⟩⟩⟩⟩⟩⟩ <;> first | exact Mem.below h hb | trivial)) (M) ?step3 ?fin3
        case step3 =>
          refine ⟨⟨fun wq huq hjq Kq hKq => ?_, fun u0 wq huq hjq Kq hKq => ?_, fun u0 u1 wq huq hjq Kq hKq => ?_, fun u0 u1 u2 wq huq hjq Kq hKq => ?_, fun u0 u1 u2 u3 wq huq hjq Kq hKq => ?_, trivial⟩, ⟨fun wq huq hjq Kq hKq => ?_, fun u0 wq huq hjq Kq hKq => ?_, fun u0 u1 wq huq hjq Kq hKq => ?_, fun u0 u1 u2 wq huq hjq Kq hKq => ?_, fun u0 u1 u2 u3 wq huq hjq Kq hKq => ?_, trivial⟩, ⟨fun wq huq hjq Kq hKq => ?_, trivial⟩, ⟨fun wq huq hjq Kq hKq => ?_, trivial⟩, ⟨fun wq huq hjq Kq hKq => ?_, fun u0 wq huq hjq Kq hKq => ?_, trivial⟩, ⟨fun u0 wq huq hjq Kq hKq => ?_, trivial⟩, ⟨fun u0 u1 wq huq hjq Kq hKq => ?_, trivial⟩, ⟨fun u0 u1 u2 wq huq hjq Kq hKq => ?_, trivial⟩, ⟨fun u0 u1 u2 u3 wq huq hjq Kq hKq => ?_, trivial⟩, ⟨fun u0 u1 u2 u3 u4 wq huq hjq Kq hKq => ?_, trivial⟩, ⟨fun u0 u1 u2 u3 u4 wq huq hjq Kq hKq => ?_, trivial⟩, trivial⟩
          · have hBq := hjq.third.box
            refine WR.s ?_; refine WR.nil ?_; exact Ends.one hKq rfl rfl (Below.refl _ _)
          · have hBq := hjq.third.box
            refine WR.s ?_; refine WR.nil ?_; exact Ends.one hKq rfl rfl (Below.refl _ _)
          · have hBq := hjq.third.box
            refine WR.s ?_; refine WR.nil ?_; exact Ends.one hKq rfl rfl (Below.refl _ _)
          · have hBq := hjq.third.box
            refine WR.s ?_; refine WR.nil ?_; exact Ends.one hKq rfl rfl (Below.refl _ _)
          · have hBq := hjq.third.box
            refine WR.s ?_; refine WR.nil ?_; exact Ends.one hKq rfl rfl (Below.refl _ _)
          · rintro _ rfl
            have hBq := hjq.third.box
            refine WR.s ?_; refine WR.nil ?_; exact Ends.one hKq rfl rfl (Below.refl _ _)
          · rintro _ rfl
            have hBq := hjq.third.box
            refine WR.s ?_; refine WR.nil ?_; exact Ends.one hKq rfl rfl (Below.refl _ _)
          · rintro _ rfl
            have hBq := hjq.third.box
            refine WR.s ?_; refine WR.nil ?_; exact Ends.one hKq rfl rfl (Below.refl _ _)
          · rintro _ rfl
            have hBq := hjq.third.box
            refine WR.s ?_; refine WR.nil ?_; exact Ends.one hKq rfl rfl (Below.refl _ _)
          · rintro _ rfl
            have hBq := hjq.third.box
            refine WR.s ?_; refine WR.nil ?_; exact Ends.one hKq rfl rfl (Below.refl _ _)
          · have hBq := hjq.third.box
            refine WR.s ?_; refine WR.nil ?_; exact Ends.one hKq rfl rfl (Below.refl _ _)
          · rintro _ rfl
            have hBq := hjq.third.box
            refine WR.call (by rfl) (by rfl) (getName_M hjq) ?_; rintro _ wy ⟨rfl, My, hu⟩; refine ⟨_, rfl, ?_⟩; refine WR.nil ?_; exact Ends.oneM hKq rfl (Mem.mkIf rfl My) (hu.mono fun x _ hx => by omega)
          · have hBq := hjq.third.box
            refine WR.s ?_; refine WR.nil ?_; exact Ends.one hKq rfl rfl (Below.refl _ _)
          · have hBq := hjq.third.box
            refine WR.s ?_; refine WR.nil ?_; exact Ends.one hKq rfl rfl (Below.refl _ _)
          · rintro _ rfl
            have hBq := hjq.third.box
            obtain ⟨rfl, hj2⟩ := hjq.cond; refine WR.call (by rfl) (by rfl) (getBytes_M hj2) ?_; rintro _ wy ⟨v', rfl, My, hu⟩; refine ⟨_, rfl, ?_⟩; refine WR.nil ?_; obtain ⟨_, hbs⟩ := My.bs; obtain ⟨A, c, hv, -⟩ := hbs.open_; exact Ends.oneM hKq rfl (Mem.mkIf ⟨rfl, A, c, hv⟩ My.freeze) (hu.mono fun x _ hx => by omega)
          · rintro u0 rfl u1 rfl
            have hBq := hjq.third.box
            obtain ⟨⟨rfl, A, c, rfl⟩, hj2⟩ := hjq.cond; refine WR.buildL (vs := [(0, .string ⟨(rdName r).2.toArray⟩), (1, .slice A (rdBytes (rdName r).1).2.length c)]) (by rfl) (by rfl) (build_file _ _ _ _ _) ?_; refine WR.nil ?_; exact Ends.oneM hKq rfl (Mem.mkIf ⟨rfl, A, c, rfl⟩ hj2) (Upd.refl _ _)
          · rintro u2 rfl
            have hBq := hjq.third.box
            obtain ⟨⟨rfl, A, c, rfl⟩, hj2⟩ := hjq.cond; refine WR.row1 Try.elF (by decide) (by rfl) (by rfl) (by rfl) fun wy hby hsy => ?_; refine WR.nil ?_; exact Ends.oneM hKq rfl (Mem.mkIf ⟨A, c, rfl⟩ (hj2.new hby (zsl_of (by decide) hsy) fun b hb => hb.1).freeze) (Upd.of_below hby)
          · rintro _ rfl u3 rfl
            have hBq := hjq.third.box
            obtain ⟨⟨A, c, rfl⟩, hj2⟩ := hjq.cond; obtain ⟨_, hsl⟩ := hj2.sl 0 rfl; refine WR.app Try.elF (by rfl) (by rfl) (by rfl) hj2.swap.row hsl file_one (by omega) (by decide) (Nat.zero_le _) fun v' wy ho hu hv => ?_; refine WR.nil ?_; exact Ends.oneM hKq rfl (Mem.mkIf ⟨A, c, rfl⟩ (hj2.swap.setRow hu ho hv).dropz) (hu.mono fun x _ hx => (World.ownsRow.lt hown x hx).2)
          · have hBq := hjq.third.box
            refine WR.s ?_; refine WR.nil ?_; exact Ends.one hKq rfl rfl (Below.refl _ _)
          · rintro _ rfl u4 rfl
            have hBq := hjq.third.box
            obtain ⟨⟨A, c, rfl⟩, hj2⟩ := hjq.cond; obtain ⟨-, A', c', rfl, -⟩ := Sl.of_own hj2.row; refine WR.storeBox hj2.third.box (by rfl) (by rfl) rfl rfl (by simp) fun wy hu hx2 _ => ?_; refine WR.nil ?_; exact Ends.oneM0 hKq undef (Mem.mkIf ⟨A, c, rfl⟩ (hj2.third.setBox hu hx2)) (hu.mono fun x _ hx => by omega)
        intro u0 u1 u2 u3 u4 u5 wq huq hjq
        rintro _ rfl _ rfl _ rfl u0 rfl _ rfl u1 rfl u2 rfl u3 rfl u4 rfl _ rfl
        refine Ends.id ?_
        obtain ⟨⟨A, c, rfl⟩, hj2⟩ := hjq.cond
        obtain ⟨-, A4, c4, rfl, -⟩ := Sl.of_own hj2.swap.row
        have M2 := E.Mem.moreBy (x := (rdFile r).2) hj2
        clear hjq hj2 M
        have e1 : (es ++ [((rdFile r).2, Value.slice A (rdBytes (rdName r).1).2.length c)]).length = es.length + 1 := by simp
        have e2 : (es ++ [((rdFile r).2, Value.slice A (rdBytes (rdName r).1).2.length c)]).flatMap FE.cells = es.flatMap FE.cells ++ [.string ⟨(rdName r).2.toArray⟩, .slice A (rdBytes (rdName r).1).2.length c] := by rw [List.flatMap_append]; rfl
        have e3 : fls (es ++ [((rdFile r).2, Value.slice A (rdBytes (rdName r).1).2.length c)]) = fls es ++ [(rdFile r).2] := by simp [fls]
        have e4 : cost (fls es ++ [(rdFile r).2]) ≤ (i + 1) * 65790 := by
          rw [cost_snoc]
          have h1 := rdName_len r
          have h2 := rdBytes_len (rdName r).1
          have h3 : cost1 (rdFile r).2 = (rdName r).2.length + (rdBytes (rdName r).1).2.length := rfl
          omega
        (repeat (first | (refine WR.id ?_; first | refine WR.nil ?_ | refine WR.s ?_ | refine WR.g ?_) | (refine W.id ?_; first | refine W.seq fun _ _ => ?_ | refine W.region ?_ | refine W.s ?_ | refine W.e ?_) | (refine Ends.id ?_; first | refine Ends.seq (by assumption) ?_ | refine Ends.s ?_)))
        exact Ends.round hK (i + 1, (rdFile r).1, es ++ [((rdFile r).2, .slice A (rdBytes (rdName r).1).2.length c)], A4, c4) (by repeat (first | exact .nil | refine .cons rfl ?_)) ⟨by dsimp only; omega, by dsimp only; rw [e1]; omega, by dsimp only; rw [e3]; exact e4, by
          dsimp only
          rw [e3, ← hR, show n - i = (n - (i + 1)) + 1 from by omega, rdAll_one he], by
          dsimp only
          rw [e1, e2]
          exact M2.third.under1 fun M => M.swap⟩ (by dsimp only; omega)
      · (repeat (first | (refine WR.id ?_; first | refine WR.nil ?_ | refine WR.s ?_ | refine WR.g ?_) | (refine W.id ?_; first | refine W.seq fun _ _ => ?_ | refine W.region ?_ | refine W.s ?_ | refine W.e ?_) | (refine Ends.id ?_; first | refine Ends.seq (by assumption) ?_ | refine Ends.s ?_)))
        exact hX (r, es, Ar, cr) _ _ (by repeat (first | exact .nil | refine .cons rfl ?_)) ⟨by dsimp only; omega, by dsimp only; omega, by dsimp only; rw [← hR, rdAll_err he], M⟩
    · (repeat (first | (refine WR.id ?_; first | refine WR.nil ?_ | refine WR.s ?_ | refine WR.g ?_) | (refine W.id ?_; first | refine W.seq fun _ _ => ?_ | refine W.region ?_ | refine W.s ?_ | refine W.e ?_) | (refine Ends.id ?_; first | refine Ends.seq (by assumption) ?_ | refine Ends.s ?_)))
      exact hX (r, es, Ar, cr) _ _ (by repeat (first | exact .nil | refine .cons rfl ?_)) ⟨by dsimp only; omega, by dsimp only; omega, by dsimp only; rw [← hR, show n - i = 0 from by omega]; rfl, M⟩
  · clear M hR
    rintro ⟨r, es, Ar, cr⟩ wr ⟨hlen, hcost, hR, M⟩
    dsimp only at hlen hcost hR M
    have hD : decF xs = if r.err ≠ 0 then (7, []) else if 0 < (r.xs.length : Int) - r.pos ∨ okFs (fls es) = false then (150, []) else (0, fls es) := by unfold decF; rw [← hR]
    (repeat (first | (refine WR.id ?_; first | refine WR.nil ?_ | refine WR.s ?_ | refine WR.g ?_) | (refine W.id ?_; first | refine W.seq fun _ _ => ?_ | refine W.region ?_ | refine W.s ?_ | refine W.e ?_) | (refine Ends.id ?_; first | refine Ends.seq (by assumption) ?_ | refine Ends.s ?_)))
    refine WR.call rfl rfl (err_M M) ?_
    rintro _ wr ⟨rfl, rfl⟩
    refine ⟨_, rfl, ?_⟩
    by_cases he : r.err = 0
    · rw [if_neg (by rw [he]; simp)] at hD
      (repeat (first | (refine WR.id ?_; first | refine WR.nil ?_ | refine WR.s ?_ | refine WR.g ?_) | (refine W.id ?_; first | refine W.seq fun _ _ => ?_ | refine W.region ?_ | refine W.s ?_ | refine W.e ?_) | (refine Ends.id ?_; first | refine Ends.seq (by assumption) ?_ | refine Ends.s ?_)))
      refine WR.call rfl rfl (left_M M) ?_
      rintro _ wl ⟨rfl, hb⟩
      refine ⟨_, rfl, ?_⟩
      replace M := M.below hb
      by_cases hleft : 0 < (r.xs.length : Int) - r.pos
      · rw [if_pos (.inl hleft)] at hD
        (repeat (first | (refine WR.id ?_; first | refine WR.nil ?_ | refine WR.s ?_ | refine WR.g ?_) | (refine W.id ?_; first | refine W.seq fun _ _ => ?_ | refine W.region ?_ | refine W.s ?_ | refine W.e ?_) | (refine Ends.id ?_; first | refine Ends.seq (by assumption) ?_ | refine Ends.s ?_)))
        refine WR.buildRun (vs := #[]) (fun a ha => by simp) rfl (build_fs0 _) ?_
        refine WR.storeAgg (cs' := [.slice none 0 0]) M.fourth.box (by rfl) (by rfl) (by rfl) (by rfl) one1 fun w9 hu9 hx9 hs9 => ?_
        replace M := M.fourth.setBox hu9 hx9
        (repeat (first | (refine WR.id ?_; first | refine WR.nil ?_ | refine WR.s ?_ | refine WR.g ?_) | (refine W.id ?_; first | refine W.seq fun _ _ => ?_ | refine W.region ?_ | refine W.s ?_ | refine W.e ?_) | (refine Ends.id ?_; first | refine Ends.seq (by assumption) ?_ | refine Ends.s ?_)))
        have hL := M.box.load (t := 24) (P := Try.prog) rfl
        exact Ends.retCT rfl rfl rfl hL ⟨_, [], by rw [hD], by rw [hD]; rfl, FsF.nil _ _, M.pre 1 rfl⟩
      · have hf := M.fsOf (n := 0) ⟨_, _, M.swap.row⟩ 0 rfl
        have hB := M.third.box
        (repeat (first | (refine WR.id ?_; first | refine WR.nil ?_ | refine WR.s ?_ | refine WR.g ?_) | (refine W.id ?_; first | refine W.seq fun _ _ => ?_ | refine W.region ?_ | refine W.s ?_ | refine W.e ?_) | (refine Ends.id ?_; first | refine Ends.seq (by assumption) ?_ | refine Ends.s ?_)))
        refine WR.call rfl rfl (check_any _ _ _ _ hf.fs hcost) ?_
        rintro _ wc ⟨rfl, hbc⟩
        refine ⟨_, rfl, ?_⟩
        replace M := M.below hbc
        replace hf := M.fsOf (n := 0) ⟨_, _, M.swap.row⟩ 0 rfl
        clear hB
        by_cases hk : okFs (fls es) = true
        · have hck := ck_yes hk
          rw [if_neg (by rw [hk]; simp; omega)] at hD
          have hB := M.third.box
          (repeat (first | (refine WR.id ?_; first | refine WR.nil ?_ | refine WR.s ?_ | refine WR.g ?_) | (refine W.id ?_; first | refine W.seq fun _ _ => ?_ | refine W.region ?_ | refine W.s ?_ | refine W.e ?_) | (refine Ends.id ?_; first | refine Ends.seq (by assumption) ?_ | refine Ends.s ?_)))
          refine WR.storeAgg (cs' := [.slice Ar es.length cr]) M.fourth.box (by rfl) (by rfl) (by rfl) (by rfl) one1 fun w9 hu9 hx9 hs9 => ?_
          replace M := M.fourth.setBox hu9 hx9
          clear hB
          (repeat (first | (refine WR.id ?_; first | refine WR.nil ?_ | refine WR.s ?_ | refine WR.g ?_) | (refine W.id ?_; first | refine W.seq fun _ _ => ?_ | refine W.region ?_ | refine W.s ?_ | refine W.e ?_) | (refine Ends.id ?_; first | refine Ends.seq (by assumption) ?_ | refine Ends.s ?_)))
          have hL := M.box.load (t := 24) (P := Try.prog) rfl
          exact Ends.retCT rfl rfl rfl hL ⟨_, es, by rw [hD], by rw [hD], M.fsOf (n := 0) ⟨_, _, M.third.row⟩ 0 rfl, M.pre 1 rfl⟩
        · have hck := ck_no (by simpa using hk)
          rw [if_pos (.inr (by simpa using hk))] at hD
          (repeat (first | (refine WR.id ?_; first | refine WR.nil ?_ | refine WR.s ?_ | refine WR.g ?_) | (refine W.id ?_; first | refine W.seq fun _ _ => ?_ | refine W.region ?_ | refine W.s ?_ | refine W.e ?_) | (refine Ends.id ?_; first | refine Ends.seq (by assumption) ?_ | refine Ends.s ?_)))
          refine WR.buildRun (vs := #[]) (fun a ha => by simp) rfl (build_fs0 _) ?_
          refine WR.storeAgg (cs' := [.slice none 0 0]) M.fourth.box (by rfl) (by rfl) (by rfl) (by rfl) one1 fun w9 hu9 hx9 hs9 => ?_
          replace M := M.fourth.setBox hu9 hx9
          (repeat (first | (refine WR.id ?_; first | refine WR.nil ?_ | refine WR.s ?_ | refine WR.g ?_) | (refine W.id ?_; first | refine W.seq fun _ _ => ?_ | refine W.region ?_ | refine W.s ?_ | refine W.e ?_) | (refine Ends.id ?_; first | refine Ends.seq (by assumption) ?_ | refine Ends.s ?_)))
          have hL := M.box.load (t := 24) (P := Try.prog) rfl
          exact Ends.retCT rfl rfl rfl hL ⟨_, [], by rw [hD], by rw [hD]; rfl, FsF.nil _ _, M.pre 1 rfl⟩
    · rw [if_pos he] at hD
      (repeat (first | (refine WR.id ?_; first | refine WR.nil ?_ | refine WR.s ?_ | refine WR.g ?_) | (refine W.id ?_; first | refine W.seq fun _ _ => ?_ | refine W.region ?_ | refine W.s ?_ | refine W.e ?_) | (refine Ends.id ?_; first | refine Ends.seq (by assumption) ?_ | refine Ends.s ?_)))
      refine WR.buildRun (vs := #[]) (fun a ha => by simp) rfl (build_fs0 _) ?_
      refine WR.storeAgg (cs' := [.slice none 0 0]) M.fourth.box (by rfl) (by rfl) (by rfl) (by rfl) one1 fun w9 hu9 hx9 hs9 => ?_
      replace M := M.fourth.setBox hu9 hx9
      (repeat (first | (refine WR.id ?_; first | refine WR.nil ?_ | refine WR.s ?_ | refine WR.g ?_) | (refine W.id ?_; first | refine W.seq fun _ _ => ?_ | refine W.region ?_ | refine W.s ?_ | refine W.e ?_) | (refine Ends.id ?_; first | refine Ends.seq (by assumption) ?_ | refine Ends.s ?_)))
      have hL := M.box.load (t := 24) (P := Try.prog) rfl
      exact Ends.retCT rfl rfl rfl hL ⟨_, [], by rw [hD], by rw [hD]; rfl, FsF.nil _ _, M.pre 1 rfl⟩
end Go.Proofs.Ytjgobljclodpfaa
namespace Go.Proofs.Ytjgobljclodpfaa
open Go.RowKit Go.Shelf K L E
set_option linter.unusedVariables false
set_option linter.unusedSimpArgs false

/-- One file at a place: where the next one starts, and the file. -/
def pOne (xs : List UInt8) (p : Nat) : Option (Nat × Fl) :=
  match xs[p]? with
  | none => none
  | some k =>
    if xs.length - p - 1 < k.toNat then none
    else if xs.length - (p + 1 + k.toNat) < 2 then none
    else if xs.length - (p + 1 + k.toNat + 2) < num ((xs.drop (p + 1 + k.toNat)).take 2) then none
    else some (p + 1 + k.toNat + 2 + num ((xs.drop (p + 1 + k.toNat)).take 2), ⟨(xs.drop (p + 1)).take k.toNat, (xs.drop (p + 1 + k.toNat + 2)).take (num ((xs.drop (p + 1 + k.toNat)).take 2))⟩)
def pAll (xs : List UInt8) : Nat → Nat → List Fl → Option (Nat × List Fl)
  | 0, p, l => some (p, l)
  | k + 1, p, l => match pOne xs p with
    | none => none
    | some (q, x) => pAll xs k q (l ++ [x])
def rdecE (xs : List UInt8) (o : Option (Nat × List Fl)) : Int × List Fl := match o with
  | none => (7, [])
  | some (p, l) => if p < xs.length ∨ okFs l = false then (150, []) else (0, l)
def rdecF (xs : List UInt8) : Int × List Fl := if xs.length < 2 then (7, []) else rdecE xs (pAll xs (num (xs.take 2)) 2 [])
theorem pAll_none {xs : List UInt8} {k p : Nat} {l : List Fl} (h : pOne xs p = none) : pAll xs (k + 1) p l = none := by rw [pAll, h]
theorem pAll_some {xs : List UInt8} {k p q : Nat} {l : List Fl} {x : Fl} (h : pOne xs p = some (q, x)) : pAll xs (k + 1) p l = pAll xs k q (l ++ [x]) := by rw [pAll, h]
theorem E.Mem.subBy {w : World} {Os Zs : List Ass} {es : List FE} {x : Fl} {A : Option Addr} {c lo : Nat} {xs : List UInt8} (M : Mem w Os Zs) (k j : Nat) (hz : Zs[k]? = some (zSl 1 (.slice A xs.length c) xs.length (bvs xs))) (hy : Zs[j]? = some (zBy es)) {m : Nat} (hm : x.bytes.length = m) (hlo : lo + m ≤ xs.length) (hx : (xs.drop lo).take m = x.bytes) :
    Mem w Os (zBy (es ++ [(x, .slice (if c = lo then A else A.map (·.add (lo * 1))) m (c - lo))]) :: Zs) := by
  subst hm
  exact M.part2 k j hz hy fun F E h1 h2 => ⟨fun b => F b ∨ E b, ⟨fun e he => by
    rcases List.mem_append.1 he with he | he
    · exact Sl.imp (h2.1 e he) (fun b _ hb => .inr hb) (by decide)
    · obtain rfl := List.mem_singleton.1 he
      have := (show Bs w F (.slice A xs.length c) xs from h1.2.1).sub lo x.bytes.length hlo
      rw [hx] at this
      rw [Nat.mul_one]
      exact Sl.imp this (fun b _ hb => .inl hb) (by decide), fun b hb => hb.elim (h1.2.2 b) (h2.2 b)⟩, fun b hb => hb⟩
theorem build_nm (s : ByteArray) (w : World) : (Instr.build 40 #[(0, .string s)]).run Try.prog w = .ok (.agg #[.string s, .slice none 0 0]) w := by kernel_rfl
theorem num_two (xs : List UInt8) : num (xs.take 2) < 65536 := by
  have h := num_lt (xs.take 2)
  have h2 : (xs.take 2).length ≤ 2 := by rw [List.length_take]; omega
  exact Nat.lt_of_lt_of_le h (Nat.le_trans (Nat.pow_le_pow_right (by decide) h2) (by decide))

theorem bs_take {w : World} {F : Nat → Prop} {A : Option Addr} {c m : Nat} {xs : List UInt8} (h : Bs w F (.slice A xs.length c) xs) (hm : m ≤ xs.length) : Bs w F (.slice A m c) (xs.take m) := by
  obtain ⟨hl, A', c', hv, h1, h2, h3, h4⟩ := h
  cases hv
  have hlm : (xs.take m).length = m := by rw [List.length_take]; omega
  refine ⟨by rw [hlm]; simp [bvs]; omega, A, c, by rw [hlm], by rw [hlm]; omega, h2, h3, fun hp => ?_⟩
  rw [hlm] at hp
  obtain ⟨ad, e, hf, hat⟩ := h4 (by omega)
  refine ⟨ad, e, hf, fun j u hu => hat j u ?_⟩
  simp only [bvs, List.map_take] at hu ⊢
  rw [List.getElem?_take] at hu
  split at hu
  · exact hu
  · cases hu
theorem rowf_nil (w : World) : (aRow 40 2 (.slice none 0 0) 0 []).p w (fun _ => False) := ⟨fun b => ⟨fun h => h.elim, fun h => (by cases h)⟩, World.ownsRow_nil _ _ _ _⟩
theorem zBy_nil (w : World) : (zBy []).p w (fun _ => False) := ⟨fun e he => (by cases he), fun _ h => h.elim⟩
theorem u8_at {w : World} {F : Nat → Prop} {A : Option Addr} {c p : Nat} {k : UInt8} {xs : List UInt8} (h : Bs w F (.slice A xs.length c) xs) (hk : xs[p]? = some k) : ∃ b o, A = some ⟨b, o, none⟩ ∧ w.cell? ⟨b, o + p * 1, none⟩ = some (.int .u8 (k.toNat : Int)) := by
  have hp := (List.getElem?_eq_some_iff.1 hk).1
  obtain ⟨b, o, hA, -, -, hc⟩ := Sl.cells h (by omega) (by decide)
  exact ⟨b, o, hA, by rw [Nat.mul_one]; exact hc p _ (by simp [bvs, bv, hk])⟩
set_option maxRecDepth 100000 in
set_option maxHeartbeats 4000000 in
theorem rdecode_any (v : Value) (xs : List UInt8) (w : World) (F : Nat → Prop) (h : Bs w F v xs) (hl : xs.length ≤ 100000000) :
    Calls Try.prog 29 #[v] w fun e w' => ∃ v' es', e = .returned (.tuple #[.agg #[v'], .int .i64 (rdecF xs).1]) ∧ fls es' = (rdecF xs).2 ∧ FsF w' (fun b => b < w'.heap.size) v' es' ∧ Below w.heap.size w w' := by
  obtain ⟨A, c, rfl, l1, l2, -⟩ := h.open_
  unfold maxLen at l2
  have M : Mem w [] [zSl 1 (.slice A xs.length c) xs.length (bvs xs), zPre w] := (Mem.start w).part 0 rfl fun G hG => ⟨fun b => b < w.heap.size, ⟨by decide, h.lt, fun b hb => hb⟩, fun b hb => (hG.1 b).2 hb⟩
  refine enter Try.func29 rfl Try.ntmps29 rfl rfl ?_
  (repeat (first | (refine WR.id ?_; first | refine WR.nil ?_ | refine WR.s ?_ | refine WR.g ?_) | (refine W.id ?_; first | refine W.seq fun _ _ => ?_ | refine W.region ?_ | refine W.s ?_ | refine W.e ?_) | (refine Ends.id ?_; first | refine Ends.seq (by assumption) ?_ | refine Ends.s ?_)))
  refine WR.alloc (by rfl) fun w1 hb1 hx1 hs1 => ?_
  replace M := M.newBox (cs := [.slice none 0 0]) hb1 hx1
  clear hx1
  by_cases h2 : xs.length < 2
  · have hD : rdecF xs = (7, []) := by unfold rdecF; rw [if_pos h2]
    (repeat (first | (refine WR.id ?_; first | refine WR.nil ?_ | refine WR.s ?_ | refine WR.g ?_) | (refine W.id ?_; first | refine W.seq fun _ _ => ?_ | refine W.region ?_ | refine W.s ?_ | refine W.e ?_) | (refine Ends.id ?_; first | refine Ends.seq (by assumption) ?_ | refine Ends.s ?_)))
    refine WR.buildRun (vs := #[]) (fun a ha => by simp) rfl (build_fs0 _) ?_
    refine WR.storeAgg (cs' := [.slice none 0 0]) M.box (by rfl) (by rfl) (by rfl) (by rfl) one1 fun w9 hu9 hx9 hs9 => ?_
    replace M := M.setBox hu9 hx9
    (repeat (first | (refine WR.id ?_; first | refine WR.nil ?_ | refine WR.s ?_ | refine WR.g ?_) | (refine W.id ?_; first | refine W.seq fun _ _ => ?_ | refine W.region ?_ | refine W.s ?_ | refine W.e ?_) | (refine Ends.id ?_; first | refine Ends.seq (by assumption) ?_ | refine Ends.s ?_)))
    have hL := M.box.load (t := 24) (P := Try.prog) rfl
    exact Ends.retCT rfl rfl rfl hL ⟨_, [], by rw [hD], by rw [hD]; rfl, FsF.nil _ _, M.pre 1 rfl⟩
  have hD : rdecF xs = rdecE xs (pAll xs (num (xs.take 2)) 2 []) := by unfold rdecF; rw [if_neg h2]
  obtain ⟨_, hbs⟩ := M.zbs 0 rfl
  have hs0 := hbs.sub 0 2 (by omega)
  rw [List.drop_zero] at hs0
  (repeat (first | (refine WR.id ?_; first | refine WR.nil ?_ | refine WR.s ?_ | refine WR.g ?_) | (refine W.id ?_; first | refine W.seq fun _ _ => ?_ | refine W.region ?_ | refine W.s ?_ | refine W.e ?_) | (refine Ends.id ?_; first | refine Ends.seq (by assumption) ?_ | refine Ends.s ?_)))
  refine WR.slice_h (h := 2) (by rfl) (by rfl) (by rfl) (by omega) ?_
  refine WR.call rfl rfl (refnum_any _ _ _ _ (bs_take hbs (by omega)) (by rw [List.length_take]; omega)) ?_
  rintro _ _ ⟨rfl, rfl⟩
  refine ⟨_, rfl, ?_⟩
  have hn2 := num_two xs
  generalize num (xs.take 2) = n at *
  (repeat (first | (refine WR.id ?_; first | refine WR.nil ?_ | refine WR.s ?_ | refine WR.g ?_) | (refine W.id ?_; first | refine W.seq fun _ _ => ?_ | refine W.region ?_ | refine W.s ?_ | refine W.e ?_) | (refine Ends.id ?_; first | refine Ends.seq (by assumption) ?_ | refine Ends.s ?_)))
  rw [wrap_i64 (by omega) (by omega)]
  (repeat (first | (refine WR.id ?_; first | refine WR.nil ?_ | refine WR.s ?_ | refine WR.g ?_) | (refine W.id ?_; first | refine W.seq fun _ _ => ?_ | refine W.region ?_ | refine W.s ?_ | refine W.e ?_) | (refine Ends.id ?_; first | refine Ends.seq (by assumption) ?_ | refine Ends.s ?_)))
  refine WR.alloc (by rfl) fun w2 hb2 hx2 hs2 => ?_
  replace M := M.newBox (cs := [.slice none 0 0]) hb2 hx2
  generalize w1.heap.size = q6 at M ⊢
  replace M : Mem w2 [aRow 40 2 (.slice none 0 0) 0 [], aBox q6 [.slice none 0 0], aBox w.heap.size [.slice none 0 0]] [zBy [], zSl 1 (.slice A xs.length c) xs.length (bvs xs), zPre w] :=
    (M.new (Below.refl _ _) (rowf_nil w2) fun _ h => h.elim).part (a := zBy []) 0 rfl fun F hF => ⟨fun _ => False, zBy_nil w2, fun _ h => h.elim⟩
  clear hx2 hs0 hbs
  (repeat (first | (refine WR.id ?_; first | refine WR.nil ?_ | refine WR.s ?_ | refine WR.g ?_) | (refine W.id ?_; first | refine W.seq fun _ _ => ?_ | refine W.region ?_ | refine W.s ?_ | refine W.e ?_) | (refine Ends.id ?_; first | refine Ends.seq (by assumption) ?_ | refine Ends.s ?_)))
  refine W.loop (X := Nat × Nat × List FE × Option Addr × Nat) (fun x => [(0, .slice A xs.length c), (2, .pointer (some ⟨w.heap.size, 0, none⟩)), (4, .int .i64 (n : Nat)), (5, .int .i64 (x.2.1 : Nat)), (6, .pointer (some ⟨q6, 0, none⟩)), (7, .int .i64 (x.1 : Nat))])
    (fun x wr => x.1 ≤ n ∧ x.2.1 ≤ xs.length ∧ x.2.2.1.length ≤ x.1 ∧ cost (fls x.2.2.1) ≤ x.1 * 65790 ∧ rdecF xs = rdecE xs (pAll xs (n - x.1) x.2.1 (fls x.2.2.1)) ∧ Mem wr [aRow 40 2 (.slice x.2.2.2.1 x.2.2.1.length x.2.2.2.2) x.2.2.1.length (x.2.2.1.flatMap FE.cells), aBox q6 [.slice x.2.2.2.1 x.2.2.1.length x.2.2.2.2], aBox w.heap.size [.slice none 0 0]] [zBy x.2.2.1, zSl 1 (.slice A xs.length c) xs.length (bvs xs), zPre w]) (fun x => n - x.1)
    (0, 2, [], none, 0) (by repeat (first | exact .nil | refine .cons rfl ?_)) ⟨Nat.zero_le _, by dsimp only; omega, Nat.le_refl _, Nat.zero_le _, hD, M⟩ ?_
  clear M hD
  rintro ⟨i, p, es, Ar, cr⟩ wr ⟨hi, hp, hlen, hcost, hD, M⟩ K hK
  dsimp only at hi hp hlen hcost hD M
  dsimp only
  (repeat (first | (refine WR.id ?_; first | refine WR.nil ?_ | refine WR.s ?_ | refine WR.g ?_) | (refine W.id ?_; first | refine W.seq fun _ _ => ?_ | refine W.region ?_ | refine W.s ?_ | refine W.e ?_) | (refine Ends.id ?_; first | refine Ends.seq (by assumption) ?_ | refine Ends.s ?_)))
  refine W.condP (by rfl) (fun hlt => ?_) (fun hlt => ?_)
  · rw [show n - i = (n - (i + 1)) + 1 from by omega] at hD
    by_cases hpl : p < xs.length
    case neg =>
      have ho : pOne xs p = none := by unfold pOne; rw [List.getElem?_eq_none (by omega)]
      rw [pAll_none ho] at hD
      replace hD : rdecF xs = (7, []) := hD
      (repeat (first | (refine WR.id ?_; first | refine WR.nil ?_ | refine WR.s ?_ | refine WR.g ?_) | (refine W.id ?_; first | refine W.seq fun _ _ => ?_ | refine W.region ?_ | refine W.s ?_ | refine W.e ?_) | (refine Ends.id ?_; first | refine Ends.seq (by assumption) ?_ | refine Ends.s ?_)))
      refine WR.buildRun (vs := #[]) (fun a ha => by simp) rfl (build_fs0 _) ?_
      refine WR.storeAgg (cs' := [.slice none 0 0]) M.third.box (by rfl) (by rfl) (by rfl) (by rfl) one1 fun w9 hu9 hx9 hs9 => ?_
      replace M := M.third.setBox hu9 hx9
      (repeat (first | (refine WR.id ?_; first | refine WR.nil ?_ | refine WR.s ?_ | refine WR.g ?_) | (refine W.id ?_; first | refine W.seq fun _ _ => ?_ | refine W.region ?_ | refine W.s ?_ | refine W.e ?_) | (refine Ends.id ?_; first | refine Ends.seq (by assumption) ?_ | refine Ends.s ?_)))
      have hL := M.box.load (t := 24) (P := Try.prog) rfl
      exact Ends.retCT rfl rfl rfl hL ⟨_, [], by rw [hD], by rw [hD]; rfl, FsF.nil _ _, M.pre 2 rfl⟩
    obtain ⟨k, hk⟩ : ∃ k, xs[p]? = some k := ⟨_, List.getElem?_eq_getElem hpl⟩
    have hk8 := k.toNat_lt
    simp only [Nat.reducePow] at hk8
    obtain ⟨_, hbs⟩ := M.zbs 1 rfl
    obtain ⟨ba, oa, hA, hcell⟩ := u8_at hbs hk
    subst hA
    have hwk := wrap_i64 (i := (k.toNat : Int)) (by omega) (by omega)
    (repeat (first | (refine WR.id ?_; first | refine WR.nil ?_ | refine WR.s ?_ | refine WR.g ?_) | (refine W.id ?_; first | refine W.seq fun _ _ => ?_ | refine W.region ?_ | refine W.s ?_ | refine W.e ?_) | (refine Ends.id ?_; first | refine Ends.seq (by assumption) ?_ | refine Ends.s ?_)))
    refine WR.indexAddr (j := p) (by rfl) (by rfl) (by rfl) (by omega) ?_
    (repeat (first | (refine WR.id ?_; first | refine WR.nil ?_ | refine WR.s ?_ | refine WR.g ?_) | (refine W.id ?_; first | refine W.seq fun _ _ => ?_ | refine W.region ?_ | refine W.s ?_ | refine W.e ?_) | (refine Ends.id ?_; first | refine Ends.seq (by assumption) ?_ | refine Ends.s ?_)))
    refine WR.load (by rfl) hcell (by rfl) ?_
    by_cases h1 : xs.length - p - 1 < k.toNat
    · have ho : pOne xs p = none := by unfold pOne; rw [hk]; dsimp only; rw [if_pos h1]
      rw [pAll_none ho] at hD
      replace hD : rdecF xs = (7, []) := hD
      (repeat (first | (refine WR.id ?_; first | refine WR.nil ?_ | refine WR.s ?_ | refine WR.g ?_) | (refine W.id ?_; first | refine W.seq fun _ _ => ?_ | refine W.region ?_ | refine W.s ?_ | refine W.e ?_) | (refine Ends.id ?_; first | refine Ends.seq (by assumption) ?_ | refine Ends.s ?_)))
      refine WR.buildRun (vs := #[]) (fun a ha => by simp) rfl (build_fs0 _) ?_
      refine WR.storeAgg (cs' := [.slice none 0 0]) M.third.box (by rfl) (by rfl) (by rfl) (by rfl) one1 fun w9 hu9 hx9 hs9 => ?_
      replace M := M.third.setBox hu9 hx9
      (repeat (first | (refine WR.id ?_; first | refine WR.nil ?_ | refine WR.s ?_ | refine WR.g ?_) | (refine W.id ?_; first | refine W.seq fun _ _ => ?_ | refine W.region ?_ | refine W.s ?_ | refine W.e ?_) | (refine Ends.id ?_; first | refine Ends.seq (by assumption) ?_ | refine Ends.s ?_)))
      have hL := M.box.load (t := 24) (P := Try.prog) rfl
      exact Ends.retCT rfl rfl rfl hL ⟨_, [], by rw [hD], by rw [hD]; rfl, FsF.nil _ _, M.pre 2 rfl⟩
    (repeat (first | (refine WR.id ?_; first | refine WR.nil ?_ | refine WR.s ?_ | refine WR.g ?_) | (refine W.id ?_; first | refine W.seq fun _ _ => ?_ | refine W.region ?_ | refine W.s ?_ | refine W.e ?_) | (refine Ends.id ?_; first | refine Ends.seq (by assumption) ?_ | refine Ends.s ?_)))
    refine WR.indexAddr (j := p) (by rfl) (by rfl) (by rfl) (by omega) ?_
    refine WR.load (by rfl) hcell (by rfl) ?_
    (repeat (first | (refine WR.id ?_; first | refine WR.nil ?_ | refine WR.s ?_ | refine WR.g ?_) | (refine W.id ?_; first | refine W.seq fun _ _ => ?_ | refine W.region ?_ | refine W.s ?_ | refine W.e ?_) | (refine Ends.id ?_; first | refine Ends.seq (by assumption) ?_ | refine Ends.s ?_)))
    rw [hwk]
    generalize hkn : k.toNat = kn at *
    refine WR.slice_lh (l := p + 1) (h := p + 1 + kn) (by rfl) (by rfl) (congrArg (fun z => some (Value.int .i64 z)) (by omega)) (by rfl) (by omega) (by omega) ?_
    have hsn := hbs.sub (p + 1) kn (by omega)
    refine WR.strOf Try.underlying5 (by rfl) (by rfl) (by rw [Nat.mul_one, show p + 1 + kn - (p + 1) = kn from by omega]; exact hsn) ?_
    refine WR.buildL (vs := [(0, .string ⟨((xs.drop (p + 1)).take kn).toArray⟩)]) (by rfl) (by rfl) (build_nm _ _) ?_
    refine WR.allocStore (c := #[.string ⟨((xs.drop (p + 1)).take kn).toArray⟩, .slice none 0 0]) (by rfl) (by rfl) rfl (by rfl) (by rfl) (all_oneCell_toArray file_one) (by rfl) fun w6 hb6 hx6 hs6 => ?_
    replace M := M.newBox (cs := [.string ⟨((xs.drop (p + 1)).take kn).toArray⟩, .slice none 0 0]) hb6 hx6
    generalize wr.heap.size = b9 at M ⊢
    clear hbs hcell hsn hx6
    have hc1 : ((p + 1 : Nat) : Int) + (kn : Int) = ((p + 1 + kn : Nat) : Int) := by omega
    by_cases h2 : xs.length - (p + 1 + kn) < 2
    · have ho : pOne xs p = none := by unfold pOne; rw [hk]; dsimp only; rw [hkn, if_neg h1, if_pos h2]
      rw [pAll_none ho] at hD
      replace hD : rdecF xs = (7, []) := hD
      (repeat (first | (refine WR.id ?_; first | refine WR.nil ?_ | refine WR.s ?_ | refine WR.g ?_) | (refine W.id ?_; first | refine W.seq fun _ _ => ?_ | refine W.region ?_ | refine W.s ?_ | refine W.e ?_) | (refine Ends.id ?_; first | refine Ends.seq (by assumption) ?_ | refine Ends.s ?_)))
      refine WR.buildRun (vs := #[]) (fun a ha => by simp) rfl (build_fs0 _) ?_
      refine WR.storeAgg (cs' := [.slice none 0 0]) M.fourth.box (by rfl) (by rfl) (by rfl) (by rfl) one1 fun w9 hu9 hx9 hs9 => ?_
      replace M := M.fourth.setBox hu9 hx9
      (repeat (first | (refine WR.id ?_; first | refine WR.nil ?_ | refine WR.s ?_ | refine WR.g ?_) | (refine W.id ?_; first | refine W.seq fun _ _ => ?_ | refine W.region ?_ | refine W.s ?_ | refine W.e ?_) | (refine Ends.id ?_; first | refine Ends.seq (by assumption) ?_ | refine Ends.s ?_)))
      have hL := M.box.load (t := 24) (P := Try.prog) rfl
      exact Ends.retCT rfl rfl rfl hL ⟨_, [], by rw [hD], by rw [hD]; rfl, FsF.nil _ _, M.pre 2 rfl⟩
    (repeat (first | (refine WR.id ?_; first | refine WR.nil ?_ | refine WR.s ?_ | refine WR.g ?_) | (refine W.id ?_; first | refine W.seq fun _ _ => ?_ | refine W.region ?_ | refine W.s ?_ | refine W.e ?_) | (refine Ends.id ?_; first | refine Ends.seq (by assumption) ?_ | refine Ends.s ?_)))
    rw [hc1]
    refine WR.slice_lh (l := p + 1 + kn) (h := p + 1 + kn + 2) (by rfl) (by rfl) (congrArg (fun z => some (Value.int .i64 z)) (by omega)) (by rfl) (by omega) (by omega) ?_
    obtain ⟨_, hbs⟩ := M.zbs 1 rfl
    have hs2 := hbs.sub (p + 1 + kn) 2 (by omega)
    refine WR.call rfl rfl (refnum_any _ _ _ _ (by rw [Nat.mul_one, show p + 1 + kn + 2 - (p + 1 + kn) = 2 from by omega]; exact hs2) (by rw [List.length_take]; omega)) ?_
    rintro _ w7 ⟨rfl, rfl⟩
    refine ⟨_, rfl, ?_⟩
    have hm2 := num_two (xs.drop (p + 1 + kn))
    generalize hmm : num ((xs.drop (p + 1 + kn)).take 2) = m at *
    have hwm := wrap_i64 (i := (m : Int)) (by omega) (by omega)
    clear hbs hs2
    by_cases h3 : xs.length - (p + 1 + kn + 2) < m
    · have ho : pOne xs p = none := by unfold pOne; rw [hk]; dsimp only; rw [hkn, if_neg h1, if_neg h2, hmm, if_pos h3]
      rw [pAll_none ho] at hD
      replace hD : rdecF xs = (7, []) := hD
      (repeat (first | (refine WR.id ?_; first | refine WR.nil ?_ | refine WR.s ?_ | refine WR.g ?_) | (refine W.id ?_; first | refine W.seq fun _ _ => ?_ | refine W.region ?_ | refine W.s ?_ | refine W.e ?_) | (refine Ends.id ?_; first | refine Ends.seq (by assumption) ?_ | refine Ends.s ?_)))
      refine WR.buildRun (vs := #[]) (fun a ha => by simp) rfl (build_fs0 _) ?_
      refine WR.storeAgg (cs' := [.slice none 0 0]) M.fourth.box (by rfl) (by rfl) (by rfl) (by rfl) one1 fun w9 hu9 hx9 hs9 => ?_
      replace M := M.fourth.setBox hu9 hx9
      (repeat (first | (refine WR.id ?_; first | refine WR.nil ?_ | refine WR.s ?_ | refine WR.g ?_) | (refine W.id ?_; first | refine W.seq fun _ _ => ?_ | refine W.region ?_ | refine W.s ?_ | refine W.e ?_) | (refine Ends.id ?_; first | refine Ends.seq (by assumption) ?_ | refine Ends.s ?_)))
      have hL := M.box.load (t := 24) (P := Try.prog) rfl
      exact Ends.retCT rfl rfl rfl hL ⟨_, [], by rw [hD], by rw [hD]; rfl, FsF.nil _ _, M.pre 2 rfl⟩
    have ho : pOne xs p = some (p + 1 + kn + 2 + m, (⟨(xs.drop (p + 1)).take kn, (xs.drop (p + 1 + kn + 2)).take m⟩ : Fl)) := by unfold pOne; rw [hk]; dsimp only; rw [hkn, if_neg h1, if_neg h2, hmm, if_neg h3]
    rw [pAll_some ho] at hD
    (repeat (first | (refine WR.id ?_; first | refine WR.nil ?_ | refine WR.s ?_ | refine WR.g ?_) | (refine W.id ?_; first | refine W.seq fun _ _ => ?_ | refine W.region ?_ | refine W.s ?_ | refine W.e ?_) | (refine Ends.id ?_; first | refine Ends.seq (by assumption) ?_ | refine Ends.s ?_)))
    rw [hwm]
    refine WR.slice_lh (l := p + 1 + kn + 2) (h := p + 1 + kn + 2 + m) (by rfl) (congrArg (fun z => some (Value.int .i64 z)) (by omega)) (congrArg (fun z => some (Value.int .i64 z)) (by omega)) (by rfl) (by omega) (by omega) ?_
    rw [show p + 1 + kn + 2 + m - (p + 1 + kn + 2) = m from by omega]
    (repeat (first | (refine WR.id ?_; first | refine WR.nil ?_ | refine WR.s ?_ | refine WR.g ?_) | (refine W.id ?_; first | refine W.seq fun _ _ => ?_ | refine W.region ?_ | refine W.s ?_ | refine W.e ?_) | (refine Ends.id ?_; first | refine Ends.seq (by assumption) ?_ | refine Ends.s ?_)))
    refine WR.storeBox M.box (by rfl) (by rfl) rfl rfl (by simp) fun w8 hu8 hx8 hs8 => ?_
    replace M := M.setBox hu8 hx8
    clear hx8
    have hB9 := M.box
    have hB6 := M.third.box
    (repeat (first | (refine WR.id ?_; first | refine WR.nil ?_ | refine WR.s ?_ | refine WR.g ?_) | (refine W.id ?_; first | refine W.seq fun _ _ => ?_ | refine W.region ?_ | refine W.s ?_ | refine W.e ?_) | (refine Ends.id ?_; first | refine Ends.seq (by assumption) ?_ | refine Ends.s ?_)))
    refine WR.row1 Try.elF (by decide) (by rfl) (by rfl) (by rfl) fun w9 hb9 hs9 => ?_
    replace M := M.below hb9
    clear hB9 hB6
    (repeat (first | (refine WR.id ?_; first | refine WR.nil ?_ | refine WR.s ?_ | refine WR.g ?_) | (refine W.id ?_; first | refine W.seq fun _ _ => ?_ | refine W.region ?_ | refine W.s ?_ | refine W.e ?_) | (refine Ends.id ?_; first | refine Ends.seq (by assumption) ?_ | refine Ends.s ?_)))
    refine WR.app Try.elF (by rfl) (by rfl) (by rfl) M.swap.row hs9 file_one (by omega) (by decide) (Nat.zero_le _) fun v' wa hoa hua hva => ?_
    replace M := M.swap.setRow hua hoa hva
    obtain ⟨-, A4, c4, rfl, -⟩ := Sl.of_own hoa
    (repeat (first | (refine WR.id ?_; first | refine WR.nil ?_ | refine WR.s ?_ | refine WR.g ?_) | (refine W.id ?_; first | refine W.seq fun _ _ => ?_ | refine W.region ?_ | refine W.s ?_ | refine W.e ?_) | (refine Ends.id ?_; first | refine Ends.seq (by assumption) ?_ | refine Ends.s ?_)))
    refine WR.storeBox M.third.box (by rfl) (by rfl) rfl rfl (by simp) fun wb hub hxb hsb => ?_
    replace M := M.third.setBox hub hxb
    clear hxb hs9 hoa
    have hxl : ((⟨(xs.drop (p + 1)).take kn, (xs.drop (p + 1 + kn + 2)).take m⟩ : Fl)).bytes.length = m := by show (List.take m _).length = m; rw [List.length_take, List.length_drop]; omega
    have M2 := E.Mem.subBy (x := (⟨(xs.drop (p + 1)).take kn, (xs.drop (p + 1 + kn + 2)).take m⟩ : Fl)) (lo := p + 1 + kn + 2) (m := m) M 1 0 rfl rfl hxl (by omega) rfl
    clear M
    have e1 : (es ++ [((⟨(xs.drop (p + 1)).take kn, (xs.drop (p + 1 + kn + 2)).take m⟩ : Fl), Value.slice (if c = p + 1 + kn + 2 then some ⟨ba, oa, none⟩ else Option.map (fun (x : Addr) => x.add ((p + 1 + kn + 2) * 1)) (some (⟨ba, oa, none⟩ : Addr))) m (c - (p + 1 + kn + 2)))]).length = es.length + 1 := by simp
    have e2 : (es ++ [((⟨(xs.drop (p + 1)).take kn, (xs.drop (p + 1 + kn + 2)).take m⟩ : Fl), Value.slice (if c = p + 1 + kn + 2 then some ⟨ba, oa, none⟩ else Option.map (fun (x : Addr) => x.add ((p + 1 + kn + 2) * 1)) (some (⟨ba, oa, none⟩ : Addr))) m (c - (p + 1 + kn + 2)))]).flatMap FE.cells = es.flatMap FE.cells ++ [.string ⟨((xs.drop (p + 1)).take kn).toArray⟩, .slice (if c = p + 1 + kn + 2 then some ⟨ba, oa, none⟩ else Option.map (fun (x : Addr) => x.add ((p + 1 + kn + 2) * 1)) (some (⟨ba, oa, none⟩ : Addr))) m (c - (p + 1 + kn + 2))] := by rw [List.flatMap_append]; rfl
    have e3 : fls (es ++ [((⟨(xs.drop (p + 1)).take kn, (xs.drop (p + 1 + kn + 2)).take m⟩ : Fl), Value.slice (if c = p + 1 + kn + 2 then some ⟨ba, oa, none⟩ else Option.map (fun (x : Addr) => x.add ((p + 1 + kn + 2) * 1)) (some (⟨ba, oa, none⟩ : Addr))) m (c - (p + 1 + kn + 2)))]) = fls es ++ [(⟨(xs.drop (p + 1)).take kn, (xs.drop (p + 1 + kn + 2)).take m⟩ : Fl)] := by simp [fls]
    have e4 : cost (fls es ++ [(⟨(xs.drop (p + 1)).take kn, (xs.drop (p + 1 + kn + 2)).take m⟩ : Fl)]) ≤ (i + 1) * 65790 := by
      rw [cost_snoc]
      have h5 : cost1 (⟨(xs.drop (p + 1)).take kn, (xs.drop (p + 1 + kn + 2)).take m⟩ : Fl) = (List.take kn (xs.drop (p + 1))).length + ((⟨(xs.drop (p + 1)).take kn, (xs.drop (p + 1 + kn + 2)).take m⟩ : Fl)).bytes.length := rfl
      rw [h5, hxl, List.length_take]
      omega
    (repeat (first | (refine WR.id ?_; first | refine WR.nil ?_ | refine WR.s ?_ | refine WR.g ?_) | (refine W.id ?_; first | refine W.seq fun _ _ => ?_ | refine W.region ?_ | refine W.s ?_ | refine W.e ?_) | (refine Ends.id ?_; first | refine Ends.seq (by assumption) ?_ | refine Ends.s ?_)))
    rw [show ((p + 1 + kn : Nat) : Int) + 2 + (m : Int) = ((p + 1 + kn + 2 + m : Nat) : Int) from by omega]
    exact Ends.round hK (i + 1, p + 1 + kn + 2 + m, es ++ [((⟨(xs.drop (p + 1)).take kn, (xs.drop (p + 1 + kn + 2)).take m⟩ : Fl), .slice (if c = p + 1 + kn + 2 then some ⟨ba, oa, none⟩ else Option.map (fun (x : Addr) => x.add ((p + 1 + kn + 2) * 1)) (some (⟨ba, oa, none⟩ : Addr))) m (c - (p + 1 + kn + 2)))], A4, c4) (by repeat (first | exact .nil | refine .cons rfl ?_)) ⟨by dsimp only; omega, by dsimp only; omega, by dsimp only; rw [e1]; omega, by dsimp only; rw [e3]; exact e4, by dsimp only; rw [e3]; exact hD, by
      dsimp only
      rw [e1, e2]
      exact (M2.under1 fun M => M.under1 fun M => M.drop).swap.subz (by intro z hz; simp only [List.mem_cons, List.not_mem_nil, or_false] at hz ⊢; grind)⟩ (by dsimp only; omega)
  · rw [show n - i = 0 from by omega] at hD
    replace hD : rdecF xs = (if p < xs.length ∨ okFs (fls es) = false then (150, []) else (0, fls es)) := hD
    by_cases hpl : p < xs.length
    · rw [if_pos (.inl hpl)] at hD
      (repeat (first | (refine WR.id ?_; first | refine WR.nil ?_ | refine WR.s ?_ | refine WR.g ?_) | (refine W.id ?_; first | refine W.seq fun _ _ => ?_ | refine W.region ?_ | refine W.s ?_ | refine W.e ?_) | (refine Ends.id ?_; first | refine Ends.seq (by assumption) ?_ | refine Ends.s ?_)))
      refine WR.buildRun (vs := #[]) (fun a ha => by simp) rfl (build_fs0 _) ?_
      refine WR.storeAgg (cs' := [.slice none 0 0]) M.third.box (by rfl) (by rfl) (by rfl) (by rfl) one1 fun w9 hu9 hx9 hs9 => ?_
      replace M := M.third.setBox hu9 hx9
      (repeat (first | (refine WR.id ?_; first | refine WR.nil ?_ | refine WR.s ?_ | refine WR.g ?_) | (refine W.id ?_; first | refine W.seq fun _ _ => ?_ | refine W.region ?_ | refine W.s ?_ | refine W.e ?_) | (refine Ends.id ?_; first | refine Ends.seq (by assumption) ?_ | refine Ends.s ?_)))
      have hL := M.box.load (t := 24) (P := Try.prog) rfl
      exact Ends.retCT rfl rfl rfl hL ⟨_, [], by rw [hD], by rw [hD]; rfl, FsF.nil _ _, M.pre 2 rfl⟩
    have hf := M.fsOf (n := 0) ⟨_, _, M.row⟩ 0 rfl
    have hB := M.swap.box
    (repeat (first | (refine WR.id ?_; first | refine WR.nil ?_ | refine WR.s ?_ | refine WR.g ?_) | (refine W.id ?_; first | refine W.seq fun _ _ => ?_ | refine W.region ?_ | refine W.s ?_ | refine W.e ?_) | (refine Ends.id ?_; first | refine Ends.seq (by assumption) ?_ | refine Ends.s ?_)))
    refine WR.call rfl rfl (right_any _ _ _ _ hf.fs (by omega)) ?_
    rintro _ wc ⟨rfl, hbc⟩
    refine ⟨_, rfl, ?_⟩
    replace M := M.below hbc
    clear hB hf
    by_cases hk : okFs (fls es) = true
    · rw [if_neg (by rw [hk]; simp; omega)] at hD
      rw [hk]
      have hB := M.swap.box
      (repeat (first | (refine WR.id ?_; first | refine WR.nil ?_ | refine WR.s ?_ | refine WR.g ?_) | (refine W.id ?_; first | refine W.seq fun _ _ => ?_ | refine W.region ?_ | refine W.s ?_ | refine W.e ?_) | (refine Ends.id ?_; first | refine Ends.seq (by assumption) ?_ | refine Ends.s ?_)))
      refine WR.storeAgg (cs' := [.slice Ar es.length cr]) M.third.box (by rfl) (by rfl) (by rfl) (by rfl) one1 fun w9 hu9 hx9 hs9 => ?_
      replace M := M.third.setBox hu9 hx9
      clear hB
      (repeat (first | (refine WR.id ?_; first | refine WR.nil ?_ | refine WR.s ?_ | refine WR.g ?_) | (refine W.id ?_; first | refine W.seq fun _ _ => ?_ | refine W.region ?_ | refine W.s ?_ | refine W.e ?_) | (refine Ends.id ?_; first | refine Ends.seq (by assumption) ?_ | refine Ends.s ?_)))
      have hL := M.box.load (t := 24) (P := Try.prog) rfl
      exact Ends.retCT rfl rfl rfl hL ⟨_, es, by rw [hD], by rw [hD], M.fsOf (n := 0) ⟨_, _, M.swap.row⟩ 0 rfl, M.pre 2 rfl⟩
    · rw [if_pos (.inr (by simpa using hk))] at hD
      rw [show okFs (fls es) = false from by simpa using hk]
      (repeat (first | (refine WR.id ?_; first | refine WR.nil ?_ | refine WR.s ?_ | refine WR.g ?_) | (refine W.id ?_; first | refine W.seq fun _ _ => ?_ | refine W.region ?_ | refine W.s ?_ | refine W.e ?_) | (refine Ends.id ?_; first | refine Ends.seq (by assumption) ?_ | refine Ends.s ?_)))
      refine WR.buildRun (vs := #[]) (fun a ha => by simp) rfl (build_fs0 _) ?_
      refine WR.storeAgg (cs' := [.slice none 0 0]) M.third.box (by rfl) (by rfl) (by rfl) (by rfl) one1 fun w9 hu9 hx9 hs9 => ?_
      replace M := M.third.setBox hu9 hx9
      (repeat (first | (refine WR.id ?_; first | refine WR.nil ?_ | refine WR.s ?_ | refine WR.g ?_) | (refine W.id ?_; first | refine W.seq fun _ _ => ?_ | refine W.region ?_ | refine W.s ?_ | refine W.e ?_) | (refine Ends.id ?_; first | refine Ends.seq (by assumption) ?_ | refine Ends.s ?_)))
      have hL := M.box.load (t := 24) (P := Try.prog) rfl
      exact Ends.retCT rfl rfl rfl hL ⟨_, [], by rw [hD], by rw [hD]; rfl, FsF.nil _ _, M.pre 2 rfl⟩
end Go.Proofs.Ytjgobljclodpfaa
