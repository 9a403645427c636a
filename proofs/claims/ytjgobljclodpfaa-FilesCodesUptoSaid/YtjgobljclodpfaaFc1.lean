/- Layer 5's bytes, the program's side: names and bytes behind bytes, files encoded. No condition beyond sizes. -/
import Derived.Test.YtjgobljclodpfaaFm
import Derived.Test.YtjgobljclodpfaaEd3
import Derived.Test.YtjgobljclodpfaaG3
import Derived.Test.YtjgobljclodpfaaOct4
import Derived.Test.YtjgobljclodpfaaRd
namespace Go.Proofs.Ytjgobljclodpfaa
open Go.RowKit Go.Shelf K L E
set_option linter.unusedVariables false
set_option linter.unusedSimpArgs false

def nameB (s : List UInt8) : List UInt8 := UInt8.ofNat s.length :: s
def countB (b : List UInt8) : List UInt8 := be b.length 2 ++ b
def fileB (x : Fl) : List UInt8 := nameB x.name ++ countB x.bytes
def bytesF (l : List Fl) : List UInt8 := be l.length 2 ++ l.flatMap fileB
/-- A row of bytes of the walk's own. -/
def aBr (v : Value) (xs : List UInt8) : Ass := aRow 5 1 v xs.length (bvs xs)
section
variable {P : Program} {n : Nat} {D : List Deferred} {L : Slots} {w : World} {Q : Exit → Act → World → Prop} {ops : Array Oper} {rest : List Oper} {d : Nat} {ty t u : TypeId} {pos : String} {after : Array Edge} {x y : Operand} {v vx : Value} {Os Zs : List Ass}
theorem WR.appStr {e : Nat} (El : Elem P t e 1 1 (.int .u8 0)) [U : Und P u .string] {base : Nat} {xs ys : List UInt8} (hx : evo L x = some vx) (hy : evo L y = some (.string ⟨ys.toArray⟩)) (hd : Nat.blt d n = true) (hown : Ob w base e vx xs) (hb : xs.length + ys.length ≤ 1073741824) (hB : base ≤ w.heap.size)
    (h : ∀ v' w', Ob w' base e v' (xs ++ ys) → Upd (fun b => vx.ownBlock = some b) w w' → (∀ g, v'.ownBlock = some g → vx.ownBlock = some g ∨ w.heap.size ≤ g) → WR P n D ops rest ((d, v') :: L) w' Q) : WR P n D ops (⟨some d, .call { callee := .builtin .append, args := #[x, y], argTypes := #[t, u] }, ty, pos, after, none⟩ :: rest) L w Q := by
  obtain ⟨v', w', hr, h2, h3, h4⟩ := G.run_app_str El U.h ty base hown hb hB
  exact .builtin2 (w := w) hx hy hd (fun cs => by rw [BigFrame.builtin_append]; simp only [Sem.run_bind, hr, Result.andThen_ok, Sem.run_pure]) (h v' w' h2 ((Upd.of_grown h3).mono fun b _ hb => hb.symm) (fun g hg => by rcases h4 with h4 | h4; exact .inl (h4 ▸ hg); exact .inr (h4 g hg)))
theorem conv8 (k : Nat) : IntKind.u8.wrap (k : Int) = ((UInt8.ofNat k).toNat : Int) := by
  rw [UInt8.toNat_ofNat', IntKind.wrap_u8]; simp
theorem conv16 {k : Nat} (h : k < 65536) : IntKind.u16.wrap (k : Int) = (k : Int) := by rw [IntKind.wrap_u16]; omega
theorem str_size (s : List UInt8) : (⟨s.toArray⟩ : ByteArray).size = s.length := by simp [ByteArray.size]
theorem E.Mem.br {xs : List UInt8} (M : Mem w (aBr v xs :: Os) Zs) : Ob w 0 5 v xs := M.row
theorem E.Mem.setBr {w' : World} {v' : Value} {xs ys : List UInt8} (M : Mem w (aBr v xs :: Os) Zs) (hu : Upd (fun b => v.ownBlock = some b) w w') (h : Ob w' 0 5 v' ys) (hv : ∀ b, v'.ownBlock = some b → v.ownBlock = some b ∨ w.heap.size ≤ b) : Mem w' (aBr v' ys :: Os) Zs := M.setRow hu h hv
theorem E.Mem.newBr {w' : World} {base : Nat} {xs : List UInt8} (M : Mem w Os Zs) (hb : Below w.heap.size w w') (h : Ob w' base 5 v xs) (hB : w.heap.size ≤ base) : Mem w' (aBr v xs :: Os) Zs := M.newRow hb h hB

set_option maxHeartbeats 400000 in
theorem putName_M {xs : List UInt8} (M : Mem w (aBr v xs :: Os) Zs) (s : List UInt8) (hs : s.length ≤ 100000000) (hx : xs.length ≤ 100000000) :
    Calls Try.prog 46 #[v, .string ⟨s.toArray⟩] w fun e w' => ∃ v', e = .returned v' ∧ Mem w' (aBr v' (xs ++ nameB s) :: Os) Zs ∧ Upd (fun b => v.ownBlock = some b) w w' := by
  refine enter Try.func46 rfl Try.ntmps46 rfl rfl ?_
  (repeat (first | (refine WR.id ?_; first | refine WR.nil ?_ | refine WR.s ?_ | refine WR.g ?_) | (refine W.id ?_; first | refine W.seq fun _ _ => ?_ | refine W.region ?_ | refine W.s ?_ | refine W.e ?_) | (refine Ends.id ?_; first | refine Ends.seq (by assumption) ?_ | refine Ends.s ?_)))
  rw [str_size, conv8]
  refine WR.row1 Try.el8 (by decide) (by rfl) (by rfl) (by rfl) fun w1 hb1 hs1 => ?_
  have M1 := M.below hb1
  (repeat (first | (refine WR.id ?_; first | refine WR.nil ?_ | refine WR.s ?_ | refine WR.g ?_) | (refine W.id ?_; first | refine W.seq fun _ _ => ?_ | refine W.region ?_ | refine W.s ?_ | refine W.e ?_) | (refine Ends.id ?_; first | refine Ends.seq (by assumption) ?_ | refine Ends.s ?_)))
  refine WR.app Try.el8 (by rfl) (by rfl) (by rfl) M1.br hs1 (by intro u hu; simp [Value.cells] at hu; subst hu; rfl) (by omega) (by decide) (Nat.zero_le _) fun v2 w2 ho2 hu2 hv2 => ?_
  have ho2' : Ob w2 0 5 v2 (xs ++ [UInt8.ofNat s.length]) := Ob.push (UInt8.ofNat s.length) ho2 rfl
  have M2 := M1.setBr hu2 ho2' hv2
  (repeat (first | (refine WR.id ?_; first | refine WR.nil ?_ | refine WR.s ?_ | refine WR.g ?_) | (refine W.id ?_; first | refine W.seq fun _ _ => ?_ | refine W.region ?_ | refine W.s ?_ | refine W.e ?_) | (refine Ends.id ?_; first | refine Ends.seq (by assumption) ?_ | refine Ends.s ?_)))
  refine WR.appStr Try.el8 (by rfl) (by rfl) (by rfl) M2.br (by simp; omega) (Nat.zero_le _) fun v3 w3 ho3 hu3 hv3 => ?_
  have M3 := M2.setBr hu3 ho3 hv3
  (repeat (first | (refine WR.id ?_; first | refine WR.nil ?_ | refine WR.s ?_ | refine WR.g ?_) | (refine W.id ?_; first | refine W.seq fun _ _ => ?_ | refine W.region ?_ | refine W.s ?_ | refine W.e ?_) | (refine Ends.id ?_; first | refine Ends.seq (by assumption) ?_ | refine Ends.s ?_)))
  refine Ends.ret1 rfl rfl ⟨_, rfl, by rw [List.append_assoc] at M3; exact M3, ?_⟩
  have := hb1.size
  exact (((Upd.of_below hb1 : Upd (fun b => v.ownBlock = some b) w w1).trans hu2 fun b _ h => h).trans hu3 fun b hb h => (hv2 b h).elim id fun h => by omega)
theorem putBytes_any {xs ys : List UInt8} {F G : Nat → Prop} {vb : Value} (h : Bs w F v xs) (g : Bs w G vb ys) (hx : xs.length ≤ 100000000) (hy : ys.length < 65536) :
    Calls Try.prog 45 #[v, vb] w fun e w' => ∃ v', e = .returned v' ∧ Ob w' w.heap.size 5 v' (xs ++ countB ys) ∧ Below w.heap.size w w' := by
  obtain ⟨A, c, rfl, l1, l2, -⟩ := g.open_
  refine enter Try.func45 rfl Try.ntmps45 rfl rfl ?_
  (repeat (first | (refine WR.id ?_; first | refine WR.nil ?_ | refine WR.s ?_ | refine WR.g ?_) | (refine W.id ?_; first | refine W.seq fun _ _ => ?_ | refine W.region ?_ | refine W.s ?_ | refine W.e ?_) | (refine Ends.id ?_; first | refine Ends.seq (by assumption) ?_ | refine Ends.s ?_)))
  rw [conv16 hy]
  refine WR.call rfl rfl (put16_any _ _ ys.length _ _ h (by omega) hy) ?_
  rintro _ w1 ⟨v1, rfl, ho, hb⟩
  refine ⟨_, rfl, ?_⟩
  (repeat (first | (refine WR.id ?_; first | refine WR.nil ?_ | refine WR.s ?_ | refine WR.g ?_) | (refine W.id ?_; first | refine W.seq fun _ _ => ?_ | refine W.region ?_ | refine W.s ?_ | refine W.e ?_) | (refine Ends.id ?_; first | refine Ends.seq (by assumption) ?_ | refine Ends.s ?_)))
  refine WR.app Try.el8 (by rfl) (by rfl) (by rfl) ho (Sl.below g (by decide) hb) (one_bvs _) (by rw [List.length_append, be_len]; omega) (by decide) hb.size fun v2 w2 ho2 hu2 hv2 => ?_
  (repeat (first | (refine WR.id ?_; first | refine WR.nil ?_ | refine WR.s ?_ | refine WR.g ?_) | (refine W.id ?_; first | refine W.seq fun _ _ => ?_ | refine W.region ?_ | refine W.s ?_ | refine W.e ?_) | (refine Ends.id ?_; first | refine Ends.seq (by assumption) ?_ | refine Ends.s ?_)))
  refine Ends.ret1 rfl rfl ⟨_, rfl, ?_, ?_⟩
  · have := Ob.more ho2 rfl
    rwa [List.append_assoc] at this
  · exact hb.trans (hu2.below (B := w.heap.size) hb.size fun b hb' => (World.ownsRow.lt ho b hb').1)
end
theorem fileB_len (x : Fl) : (fileB x).length = cost1 x + 3 := by
  simp only [fileB, nameB, countB, List.length_append, List.length_cons, be_len, cost1]; omega
theorem files_len : ∀ l : List Fl, (l.flatMap fileB).length = cost l + 3 * l.length
  | [] => rfl
  | x :: l => by
    rw [List.flatMap_cons, List.length_append, fileB_len, files_len l]
    simp only [cost, List.map_cons, List.sum_cons, List.length_cons]
    omega
theorem fs_row {w : World} {F : Nat → Prop} {A : Option Addr} {n c i : Nat} {es : List FE} {x : Fl} {vx : Value} (h : Fs w F (.slice A n c) es) (hx : es[i]? = some (x, vx)) :
    ∃ b o, A = some ⟨b, o, none⟩ ∧ w.rangeAt b (o + i * 2) [.string ⟨x.name.toArray⟩, vx] ∧ w.cell? ⟨b, o + i * 2, none⟩ = some (.string ⟨x.name.toArray⟩) ∧ w.cell? ⟨b, o + i * 2 + 1, none⟩ = some vx ∧ Bs w (· < w.heap.size) vx x.bytes := by
  obtain ⟨hi, he⟩ := List.getElem?_eq_some_iff.1 hx
  obtain ⟨b, o, hA, -, -, hc⟩ := row_cells (f := FE.cells) (fun _ => rfl) (by decide) h.1 i hi
  rw [he] at hc
  exact ⟨b, o, hA, fun j u hu => hc j u hu, hc 0 _ rfl, hc 1 _ rfl, h.2 (x, vx) (List.mem_of_getElem? hx)⟩
theorem fls_take {es : List FE} {i : Nat} {x : Fl} {vx : Value} (hx : es[i]? = some (x, vx)) : (fls es).take (i + 1) = (fls es).take i ++ [x] := by
  rw [List.take_add_one]
  congr 1
  unfold fls
  rw [List.getElem?_map, hx]; rfl
theorem cost_take3 (l : List Fl) (k : Nat) : cost (l.take k) + 3 * (l.take k).length ≤ cost l + 3 * l.length := by
  have h1 := cost_take l k
  have h2 : (l.take k).length ≤ l.length := by rw [List.length_take]; omega
  omega

theorem br_nil {w w' : World} (hb : Below w.heap.size w w') : Fresh w w' (aBr (.slice none 0 0) []) := ⟨hb, fun _ => False, ⟨fun b => ⟨fun h => h.elim, fun h => by cases h⟩, Ob.nil _ _ _⟩, fun _ h => h.elim⟩
set_option maxRecDepth 100000 in
set_option maxHeartbeats 1000000 in
theorem encode_any (v : Value) (es : List FE) (w : World) (F : Nat → Prop) (h : Fs w F v es) (hc : cost (fls es) ≤ 1000000000000) :
    Calls Try.prog 26 #[.agg #[v]] w fun e w' => ∃ v', e = .returned (.tuple #[v', .int .i64 (ckErr (fls es))]) ∧ Fresh w w' (aBr v' (if okFs (fls es) = true then bytesF (fls es) else [])) := by
  obtain ⟨A, c, rfl, l1, l2⟩ := fs_form h
  have M := (Mem.start w).inFs 0 rfl h
  refine enter Try.func26 rfl Try.ntmps26 rfl rfl ?_
  (repeat (first | (refine WR.id ?_; first | refine WR.nil ?_ | refine WR.s ?_ | refine WR.g ?_) | (refine W.id ?_; first | refine W.seq fun _ _ => ?_ | refine W.region ?_ | refine W.s ?_ | refine W.e ?_) | (refine Ends.id ?_; first | refine Ends.seq (by assumption) ?_ | refine Ends.s ?_)))
  refine WR.box rfl (cs := #[.slice A es.length c]) rfl rfl fun w1 hb1 hx1 hs1 => ?_
  replace M := (M.newBox (cs := [.slice A es.length c]) hb1 hx1).freeze
  clear hx1
  have hB := M.zbox 0 rfl
  obtain ⟨_, hf⟩ := M.fs 1 rfl
  (repeat (first | (refine WR.id ?_; first | refine WR.nil ?_ | refine WR.s ?_ | refine WR.g ?_) | (refine W.id ?_; first | refine W.seq fun _ _ => ?_ | refine W.region ?_ | refine W.s ?_ | refine W.e ?_) | (refine Ends.id ?_; first | refine Ends.seq (by assumption) ?_ | refine Ends.s ?_)))
  refine WR.call rfl rfl (check_any _ _ _ _ hf hc) ?_
  rintro _ w2 ⟨rfl, hb⟩
  refine ⟨_, rfl, ?_⟩
  replace M := M.below hb
  clear hB hf
  have hB := M.zbox 0 rfl
  by_cases hk : okFs (fls es) = true
  case neg =>
    have hck := ck_no (by simpa using hk)
    (repeat (first | (refine WR.id ?_; first | refine WR.nil ?_ | refine WR.s ?_ | refine WR.g ?_) | (refine W.id ?_; first | refine W.seq fun _ _ => ?_ | refine W.region ?_ | refine W.s ?_ | refine W.e ?_) | (refine Ends.id ?_; first | refine Ends.seq (by assumption) ?_ | refine Ends.s ?_)))
    exact Ends.ret2 rfl rfl rfl ⟨_, rfl, by rw [if_neg hk]; exact br_nil (M.pre 2 rfl)⟩
  have hck := ck_yes hk
  have hlen := ok_len hk
  have hcost := ok_cost hk
  rw [fls_len] at hlen
  (repeat (first | (refine WR.id ?_; first | refine WR.nil ?_ | refine WR.s ?_ | refine WR.g ?_) | (refine W.id ?_; first | refine W.seq fun _ _ => ?_ | refine W.region ?_ | refine W.s ?_ | refine W.e ?_) | (refine Ends.id ?_; first | refine Ends.seq (by assumption) ?_ | refine Ends.s ?_)))
  rw [conv16 (by omega)]
  refine WR.call rfl rfl (put16_any (.slice none 0 0) [] es.length _ (fun _ => False) (Sl.nil _ _ _) (by simp) (by omega)) ?_
  rintro _ w3 ⟨v3, rfl, ho, hb⟩
  refine ⟨_, rfl, ?_⟩
  replace M := M.newBr hb ho (Nat.le_refl _)
  clear hB
  have hB := M.zbox 0 rfl
  (repeat (first | (refine WR.id ?_; first | refine WR.nil ?_ | refine WR.s ?_ | refine WR.g ?_) | (refine W.id ?_; first | refine W.seq fun _ _ => ?_ | refine W.region ?_ | refine W.s ?_ | refine W.e ?_) | (refine Ends.id ?_; first | refine Ends.seq (by assumption) ?_ | refine Ends.s ?_)))
  clear hB ho
  refine W.loop (X := Nat × Value) (fun x => [(5, x.2), (19, .slice A es.length c), (20, .int .i64 (es.length : Nat)), (21, .int .i64 (x.1 : Nat))])
    (fun x wr => x.1 ≤ es.length ∧ Mem wr [aBr x.2 (be es.length 2 ++ ((fls es).take x.1).flatMap fileB)] [zFs (.slice A es.length c) es, zPre w]) (fun x => es.length - x.1)
    (0, v3) (by repeat (first | exact .nil | refine .cons rfl ?_)) ⟨Nat.zero_le _, M.dropz⟩ ?_
  clear M
  rintro ⟨i, vr⟩ wr ⟨hi, M⟩ K hK
  dsimp only at hi M
  dsimp only
  obtain ⟨Ar, cr, rfl, -⟩ := M.br.bs.open_
  (repeat (first | (refine WR.id ?_; first | refine WR.nil ?_ | refine WR.s ?_ | refine WR.g ?_) | (refine W.id ?_; first | refine W.seq fun _ _ => ?_ | refine W.region ?_ | refine W.s ?_ | refine W.e ?_) | (refine Ends.id ?_; first | refine Ends.seq (by assumption) ?_ | refine Ends.s ?_)))
  refine W.condP (by rfl) (fun hlt => ?_) (fun hlt => ?_)
  · have hil : i < es.length := by omega
    obtain ⟨⟨x, vx⟩, hx⟩ : ∃ x, es[i]? = some x := ⟨_, List.getElem?_eq_getElem hil⟩
    obtain ⟨_, hf⟩ := M.fs 0 rfl
    obtain ⟨ba, oa, hA, hrng, -, -, hbi⟩ := fs_row hf hx
    subst hA
    obtain ⟨Ai, ci, rfl, -⟩ := hbi.open_
    have hxk := ok_at hk (x := x) (List.mem_map.2 ⟨_, List.mem_of_getElem? hx, rfl⟩)
    have hnm : x.name.length ≤ 24 := by have := hxk.1; simp [nmOk] at this; omega
    have hlr : (be es.length 2 ++ ((fls es).take i).flatMap fileB).length ≤ 33000 := by
      rw [List.length_append, be_len, files_len]
      have := cost_take3 (fls es) i
      rw [fls_len] at this
      omega
    (repeat (first | (refine WR.id ?_; first | refine WR.nil ?_ | refine WR.s ?_ | refine WR.g ?_) | (refine W.id ?_; first | refine W.seq fun _ _ => ?_ | refine W.region ?_ | refine W.s ?_ | refine W.e ?_) | (refine Ends.id ?_; first | refine Ends.seq (by assumption) ?_ | refine Ends.s ?_)))
    refine WR.indexAddr (j := i) (by rfl) (by rfl) (by rfl) (by omega) ?_
    refine WR.loadRow (by rfl) hrng (by rfl) (by rfl) ?_
    refine WR.allocStore (c := #[.string ⟨x.name.toArray⟩, .slice Ai x.bytes.length ci]) (by rfl) (by rfl) rfl (by rfl) (by rfl) (all_oneCell_toArray (by intro u hu; simp only [List.mem_cons, List.not_mem_nil, or_false] at hu; rcases hu with rfl | rfl <;> rfl)) (by rfl) fun w6 hb6 hx6 hs6 => ?_
    replace M := ((M.newBox (cs := [.string ⟨x.name.toArray⟩, .slice Ai x.bytes.length ci]) hb6 hx6).freeze)
    clear hf hrng hbi hx6
    generalize wr.heap.size = b7 at M ⊢
    have hown := M.br
    (repeat (first | (refine WR.id ?_; first | refine WR.nil ?_ | refine WR.s ?_ | refine WR.g ?_) | (refine W.id ?_; first | refine W.seq fun _ _ => ?_ | refine W.region ?_ | refine W.s ?_ | refine W.e ?_) | (refine Ends.id ?_; first | refine Ends.seq (by assumption) ?_ | refine Ends.s ?_)))
    refine W.keep (r := [(7, .pointer (some ⟨b7, 0, none⟩)), (5, .slice Ar (be es.length 2 ++ ((fls es).take i).flatMap fileB).length cr), (19, .slice (some ⟨ba, oa, none⟩) es.length c), (20, .int .i64 (es.length : Nat)), (21, .int .i64 (i : Nat))]) (by repeat (first | exact .nil | refine .cons rfl ?_)) ?_
    apply W.draws3To 7 [3, 6] [[], [], [1], [0, 2], [], [4], [3, 5]] [(0, 1), (0, 1), (0, 1), (0, 1), (0, 2), (0, 2), (1, 1)]
      [is _, is _, is _, fun _ _ => True, is _, is _, fun _ _ => True] (fun | [] => (fun u => Mem u [aBr (.slice Ar (be es.length 2 ++ ((fls es).take i).flatMap fileB).length cr) (be es.length 2 ++ ((fls es).take i).flatMap fileB)] [aBox b7 [.string ⟨x.name.toArray⟩, .slice Ai x.bytes.length ci], zFs (.slice (some ⟨ba, oa, none⟩) es.length c) es, zPre w]) | [u0] => (fun u => Mem u [aBr u0 ((be es.length 2 ++ ((fls es).take i).flatMap fileB) ++ nameB x.name)] [aBox b7 [.string ⟨x.name.toArray⟩, .slice Ai x.bytes.length ci], zFs (.slice (some ⟨ba, oa, none⟩) es.length c) es, zPre w]) | [u0, u1] => (fun u => Mem u [aBr u1 (((be es.length 2 ++ ((fls es).take i).flatMap fileB) ++ nameB x.name) ++ countB x.bytes)] [aBox b7 [.string ⟨x.name.toArray⟩, .slice Ai x.bytes.length ci], zFs (.slice (some ⟨ba, oa, none⟩) es.length c) es, zPre w]) | _ => (fun u => True)) (by kernel_rfl) (by kernel_rfl) (by rfl) (by kernel_rfl) (by kernel_rfl) (by rfl) (by rfl) (by kernel_rfl) ⟨stab3_is _ _, stab3_is _ _, stab3_is _ _, fun _ _ _ _ _ => trivial, stab3_is _ _, stab3_is _ _, fun _ _ _ _ _ => trivial, trivial⟩ (fun vs u u' h hb => (by rcases vs with _ | ⟨a, _ | ⟨a2, _ | ⟨a3, r⟩⟩⟩ <;> first | exact Mem.below h hb | trivial)) (M) ?step2 ?fin2
    case step2 =>
      refine ⟨⟨fun wq huq hjq Kq hKq => ?_, trivial⟩, ⟨fun wq huq hjq Kq hKq => ?_, trivial⟩, ⟨fun wq huq hjq Kq hKq => ?_, trivial⟩, ⟨fun wq huq hjq Kq hKq => ?_, trivial⟩, ⟨fun wq huq hjq Kq hKq => ?_, fun u0 wq huq hjq Kq hKq => ?_, trivial⟩, ⟨fun wq huq hjq Kq hKq => ?_, fun u0 wq huq hjq Kq hKq => ?_, trivial⟩, ⟨fun u0 wq huq hjq Kq hKq => ?_, trivial⟩, trivial⟩
      · have hBq := hjq.zbox 0 rfl
        refine WR.s ?_; refine WR.nil ?_; exact Ends.one hKq rfl rfl (Below.refl _ _)
      · have hBq := hjq.zbox 0 rfl
        refine WR.s ?_; refine WR.nil ?_; exact Ends.one hKq rfl rfl (Below.refl _ _)
      · rintro _ rfl
        have hBq := hjq.zbox 0 rfl
        refine WR.s ?_; refine WR.nil ?_; exact Ends.one hKq rfl rfl (Below.refl _ _)
      · rintro _ rfl _ rfl
        have hBq := hjq.zbox 0 rfl
        refine WR.call (by rfl) (by rfl) (putName_M hjq x.name (by omega) (by omega)) ?_; rintro _ wy ⟨v', rfl, My, hu⟩; refine ⟨_, rfl, ?_⟩; refine WR.nil ?_; exact Ends.oneM hKq rfl My (hu.mono fun b _ hb => (World.ownsRow.lt hown b hb).2)
      · have hBq := hjq.zbox 0 rfl
        refine WR.s ?_; refine WR.nil ?_; exact Ends.one hKq rfl rfl (Below.refl _ _)
      · have hBq := hjq.zbox 0 rfl
        refine WR.s ?_; refine WR.nil ?_; exact Ends.one hKq rfl rfl (Below.refl _ _)
      · rintro _ rfl
        have hBq := hjq.zbox 0 rfl
        refine WR.s ?_; refine WR.nil ?_; exact Ends.one hKq rfl rfl (Below.refl _ _)
      · rintro _ rfl
        have hBq := hjq.zbox 0 rfl
        refine WR.s ?_; refine WR.nil ?_; exact Ends.one hKq rfl rfl (Below.refl _ _)
      · rintro u0 rfl _ rfl
        have hBq := hjq.zbox 0 rfl
        obtain ⟨_, hfq⟩ := hjq.fs 1 rfl; obtain ⟨_, _, _, _, _, _, hbq⟩ := fs_row hfq hx; refine WR.call (by rfl) (by rfl) (putBytes_any hjq.br.bs hbq (by simp only [List.length_append, nameB, List.length_cons] at hlr ⊢; omega) (by have := hxk.2; omega)) ?_; rintro _ wy ⟨v', rfl, hf6, hb6⟩; refine ⟨_, rfl, ?_⟩; refine WR.nil ?_; exact Ends.oneM hKq rfl (hjq.drop.newBr hb6 hf6 (Nat.le_refl _)) (Upd.of_below hb6)
    intro u0 u1 wq huq hjq
    rintro _ rfl _ rfl _ rfl u0 rfl _ rfl _ rfl u1 rfl
    refine WR.id ?_
    (repeat (first | (refine WR.id ?_; first | refine WR.nil ?_ | refine WR.s ?_ | refine WR.g ?_) | (refine W.id ?_; first | refine W.seq fun _ _ => ?_ | refine W.region ?_ | refine W.s ?_ | refine W.e ?_) | (refine Ends.id ?_; first | refine Ends.seq (by assumption) ?_ | refine Ends.s ?_)))
    have hlen3 : ((be es.length 2 ++ ((fls es).take i).flatMap fileB) ++ nameB x.name) ++ countB x.bytes = be es.length 2 ++ ((fls es).take (i + 1)).flatMap fileB := by rw [fls_take hx, List.flatMap_append, List.append_assoc, List.append_assoc]; simp [fileB]
    rw [hlen3] at hjq
    exact Ends.round hK (i + 1, u1) (by repeat (first | exact .nil | refine .cons rfl ?_)) ⟨by dsimp only; omega, hjq.dropz⟩ (by dsimp only; omega)
  · obtain rfl : i = es.length := by omega
    (repeat (first | (refine WR.id ?_; first | refine WR.nil ?_ | refine WR.s ?_ | refine WR.g ?_) | (refine W.id ?_; first | refine W.seq fun _ _ => ?_ | refine W.region ?_ | refine W.s ?_ | refine W.e ?_) | (refine Ends.id ?_; first | refine Ends.seq (by assumption) ?_ | refine Ends.s ?_)))
    refine Ends.ret2 rfl rfl rfl ⟨_, by rw [hck], ?_⟩
    rw [if_pos hk, show bytesF (fls es) = be es.length 2 ++ ((fls es).take es.length).flatMap fileB from by unfold bytesF; rw [fls_len, List.take_of_length_le (by rw [fls_len]; omega)]]
    exact M.fresh 1 rfl
end Go.Proofs.Ytjgobljclodpfaa
namespace Go.Proofs.Ytjgobljclodpfaa
open Go.RowKit Go.Shelf K L E
set_option linter.unusedVariables false
set_option linter.unusedSimpArgs false

theorem Bs.nil (w : World) (F : Nat → Prop) : Bs w F (.slice none 0 0) [] := Sl.nil _ _ _
theorem named_any (s : List UInt8) (w : World) (hs : s.length ≤ 100000) :
    Calls Try.prog 49 #[.string ⟨s.toArray⟩] w fun e w' => ∃ v', e = .returned v' ∧ Ob w' w.heap.size 5 v' (nameB s) ∧ Below w.heap.size w w' := by
  have M := Mem.start w
  refine enter Try.func49 rfl Try.ntmps49 rfl rfl ?_
  (repeat (first | (refine WR.id ?_; first | refine WR.nil ?_ | refine WR.s ?_ | refine WR.g ?_) | (refine W.id ?_; first | refine W.seq fun _ _ => ?_ | refine W.region ?_ | refine W.s ?_ | refine W.e ?_) | (refine Ends.id ?_; first | refine Ends.seq (by assumption) ?_ | refine Ends.s ?_)))
  rw [str_size, conv8]
  refine WR.row1 Try.el8 (by decide) (by rfl) (by rfl) (by rfl) fun w1 hb1 hs1 => ?_
  (repeat (first | (refine WR.id ?_; first | refine WR.nil ?_ | refine WR.s ?_ | refine WR.g ?_) | (refine W.id ?_; first | refine W.seq fun _ _ => ?_ | refine W.region ?_ | refine W.s ?_ | refine W.e ?_) | (refine Ends.id ?_; first | refine Ends.seq (by assumption) ?_ | refine Ends.s ?_)))
  refine WR.bytesOf Try.underlying5 (by rfl) (by rfl) (by omega) fun A2 c2 w2 hb2 hs2 => ?_
  have h1 : Bs w2 (w.heap.size ≤ ·) (.slice (some ⟨w.heap.size, 0, none⟩) 1 1) [UInt8.ofNat s.length] := Bs.below hs1 hb2
  (repeat (first | (refine WR.id ?_; first | refine WR.nil ?_ | refine WR.s ?_ | refine WR.g ?_) | (refine W.id ?_; first | refine W.seq fun _ _ => ?_ | refine W.region ?_ | refine W.s ?_ | refine W.e ?_) | (refine Ends.id ?_; first | refine Ends.seq (by assumption) ?_ | refine Ends.s ?_)))
  refine WR.call rfl rfl (both_any _ _ _ _ _ _ _ h1 hs2 (by simp) (by omega)) ?_
  rintro _ w3 ⟨v3, rfl, ho, hb3⟩
  refine ⟨_, rfl, ?_⟩
  (repeat (first | (refine WR.id ?_; first | refine WR.nil ?_ | refine WR.s ?_ | refine WR.g ?_) | (refine W.id ?_; first | refine W.seq fun _ _ => ?_ | refine W.region ?_ | refine W.s ?_ | refine W.e ?_) | (refine Ends.id ?_; first | refine Ends.seq (by assumption) ?_ | refine Ends.s ?_)))
  have hb12 := hb1.trans (hb2.mono hb1.size)
  exact Ends.ret1 rfl rfl ⟨_, rfl, ho.low hb12.size, hb12.trans (hb3.mono hb12.size)⟩
theorem counted_any {v : Value} {xs : List UInt8} {w : World} {F : Nat → Prop} (h : Bs w F v xs) (hx : xs.length ≤ 1000000) :
    Calls Try.prog 50 #[v] w fun e w' => ∃ v', e = .returned v' ∧ Ob w' w.heap.size 5 v' (countB xs) ∧ Below w.heap.size w w' := by
  obtain ⟨A, c, rfl, l1, l2, -⟩ := h.open_
  refine enter Try.func50 rfl Try.ntmps50 rfl rfl ?_
  (repeat (first | (refine WR.id ?_; first | refine WR.nil ?_ | refine WR.s ?_ | refine WR.g ?_) | (refine W.id ?_; first | refine W.seq fun _ _ => ?_ | refine W.region ?_ | refine W.s ?_ | refine W.e ?_) | (refine Ends.id ?_; first | refine Ends.seq (by assumption) ?_ | refine Ends.s ?_)))
  rw [show IntKind.u64.wrap ((xs.length : Nat) : Int) = ((xs.length : Nat) : Int) from by rw [IntKind.wrap_u64]; omega]
  refine WR.call rfl rfl (high_any xs.length 2 _ (by decide) (by omega)) ?_
  rintro _ w1 ⟨v1, rfl, ho, hb⟩
  refine ⟨_, rfl, ?_⟩
  (repeat (first | (refine WR.id ?_; first | refine WR.nil ?_ | refine WR.s ?_ | refine WR.g ?_) | (refine W.id ?_; first | refine W.seq fun _ _ => ?_ | refine W.region ?_ | refine W.s ?_ | refine W.e ?_) | (refine Ends.id ?_; first | refine Ends.seq (by assumption) ?_ | refine Ends.s ?_)))
  refine WR.call rfl rfl (both_any _ _ _ _ _ _ _ ho.bs (Sl.below h (by decide) hb) (by rw [be_len]; decide) (by omega)) ?_
  rintro _ w2 ⟨v2, rfl, ho2, hb2⟩
  refine ⟨_, rfl, ?_⟩
  (repeat (first | (refine WR.id ?_; first | refine WR.nil ?_ | refine WR.s ?_ | refine WR.g ?_) | (refine W.id ?_; first | refine W.seq fun _ _ => ?_ | refine W.region ?_ | refine W.s ?_ | refine W.e ?_) | (refine Ends.id ?_; first | refine Ends.seq (by assumption) ?_ | refine Ends.s ?_)))
  exact Ends.ret1 rfl rfl ⟨_, rfl, ho2.low hb.size, hb.trans (hb2.mono hb.size)⟩

set_option maxRecDepth 100000 in
set_option maxHeartbeats 1000000 in
theorem rbytes_any (v : Value) (es : List FE) (w : World) (F : Nat → Prop) (h : Fs w F v es) (hk : okFs (fls es) = true) :
    Calls Try.prog 27 #[.agg #[v]] w fun e w' => ∃ v', e = .returned v' ∧ (∃ G, Bs w' G v' (bytesF (fls es))) ∧ Below w.heap.size w w' := by
  obtain ⟨A, c, rfl, l1, l2⟩ := fs_form h
  have hlen := ok_len hk
  have hcost := ok_cost hk
  rw [fls_len] at hlen
  have M := (Mem.start w).inFs 0 rfl h
  refine enter Try.func27 rfl Try.ntmps27 rfl rfl ?_
  (repeat (first | (refine WR.id ?_; first | refine WR.nil ?_ | refine WR.s ?_ | refine WR.g ?_) | (refine W.id ?_; first | refine W.seq fun _ _ => ?_ | refine W.region ?_ | refine W.s ?_ | refine W.e ?_) | (refine Ends.id ?_; first | refine Ends.seq (by assumption) ?_ | refine Ends.s ?_)))
  refine WR.box rfl (cs := #[.slice A es.length c]) rfl rfl fun w1 hb1 hx1 hs1 => ?_
  replace M := (M.newBox (cs := [.slice A es.length c]) hb1 hx1).freeze
  clear hx1
  have hB := M.zbox 0 rfl
  (repeat (first | (refine WR.id ?_; first | refine WR.nil ?_ | refine WR.s ?_ | refine WR.g ?_) | (refine W.id ?_; first | refine W.seq fun _ _ => ?_ | refine W.region ?_ | refine W.s ?_ | refine W.e ?_) | (refine Ends.id ?_; first | refine Ends.seq (by assumption) ?_ | refine Ends.s ?_)))
  rw [show IntKind.u64.wrap ((es.length : Nat) : Int) = ((es.length : Nat) : Int) from by rw [IntKind.wrap_u64]; omega]
  refine WR.call rfl rfl (high_any es.length 2 _ (by decide) (by omega)) ?_
  rintro _ w2 ⟨v2, rfl, ho, hb⟩
  refine ⟨_, rfl, ?_⟩
  obtain ⟨Ar, cr, rfl, -⟩ := ho.bs.open_
  replace M := (M.newBs hb ho (Nat.le_refl _)).freeze
  clear hB ho
  (repeat (first | (refine WR.id ?_; first | refine WR.nil ?_ | refine WR.s ?_ | refine WR.g ?_) | (refine W.id ?_; first | refine W.seq fun _ _ => ?_ | refine W.region ?_ | refine W.s ?_ | refine W.e ?_) | (refine Ends.id ?_; first | refine Ends.seq (by assumption) ?_ | refine Ends.s ?_)))
  refine W.loop (X := Nat × List UInt8 × Option Addr × Nat) (fun x => [(1, .pointer (some ⟨w.heap.size, 0, none⟩)), (3, .slice x.2.2.1 x.2.1.length x.2.2.2), (4, .int .i64 (x.1 : Nat))])
    (fun x wr => x.1 ≤ es.length ∧ x.2.1 = be es.length 2 ++ ((fls es).take x.1).flatMap fileB ∧ Mem wr [] [zSl 1 (.slice x.2.2.1 x.2.1.length x.2.2.2) x.2.1.length (bvs x.2.1), aBox w.heap.size [.slice A es.length c], zFs (.slice A es.length c) es, zPre w]) (fun x => es.length - x.1)
    (0, be es.length 2, Ar, cr) (by repeat (first | exact .nil | refine .cons rfl ?_)) ⟨Nat.zero_le _, by simp, M⟩ ?_
  clear M
  rintro ⟨i, out, Ar, cr⟩ wr ⟨hi, hout, M⟩ K hK
  dsimp only at hi hout M
  dsimp only
  have hB := M.zbox 1 rfl
  (repeat (first | (refine WR.id ?_; first | refine WR.nil ?_ | refine WR.s ?_ | refine WR.g ?_) | (refine W.id ?_; first | refine W.seq fun _ _ => ?_ | refine W.region ?_ | refine W.s ?_ | refine W.e ?_) | (refine Ends.id ?_; first | refine Ends.seq (by assumption) ?_ | refine Ends.s ?_)))
  refine W.condP (by rfl) (fun hlt => ?_) (fun hlt => ?_)
  · have hil : i < es.length := by omega
    obtain ⟨⟨x, vx⟩, hx⟩ : ∃ x, es[i]? = some x := ⟨_, List.getElem?_eq_getElem hil⟩
    obtain ⟨_, hf⟩ := M.fs 2 rfl
    obtain ⟨ba, oa, hA, -, hcn, hcb, hbi⟩ := fs_row hf hx
    subst hA
    obtain ⟨Ai, ci, rfl, -⟩ := hbi.open_
    have hxk := ok_at hk (x := x) (List.mem_map.2 ⟨_, List.mem_of_getElem? hx, rfl⟩)
    have hnm : x.name.length ≤ 24 := by have := hxk.1; simp [nmOk] at this; omega
    have hxb := hxk.2
    have hlr : out.length ≤ 33000 := by
      rw [hout, List.length_append, be_len, files_len]
      have := cost_take3 (fls es) i
      rw [fls_len] at this
      omega
    obtain ⟨_, hob⟩ := M.zbs 0 rfl
    have hln : (nameB x.name).length = x.name.length + 1 := rfl
    have hlc : (countB x.bytes).length = x.bytes.length + 2 := by simp only [countB, List.length_append, be_len]; omega
    (repeat (first | (refine WR.id ?_; first | refine WR.nil ?_ | refine WR.s ?_ | refine WR.g ?_) | (refine W.id ?_; first | refine W.seq fun _ _ => ?_ | refine W.region ?_ | refine W.s ?_ | refine W.e ?_) | (refine Ends.id ?_; first | refine Ends.seq (by assumption) ?_ | refine Ends.s ?_)))
    apply W.drawsTo 17 [[], [], [1], [], [2, 3], [4], [5], [6], [], [8], [], [9, 10], [11], [12], [13], [7, 14], [0, 15]]
      [is _, is _, is _, is _, is _, is _, is _, (fun u v => Bs u (wr.heap.size ≤ ·) v (nameB x.name)), is _, is _, is _, is _, is _, is _, (fun u v => Bs u (wr.heap.size ≤ ·) v (countB x.bytes)), (fun u v => Bs u (wr.heap.size ≤ ·) v (nameB x.name ++ countB x.bytes)), (fun u v => Bs u (wr.heap.size ≤ ·) v (out ++ (nameB x.name ++ countB x.bytes)))] (by kernel_rfl) (by kernel_rfl) (by rfl) (by kernel_rfl) (by kernel_rfl) ⟨stab_is _, stab_is _, stab_is _, stab_is _, stab_is _, stab_is _, stab_is _, (fun _ _ _ h hb => Bs.below h hb), stab_is _, stab_is _, stab_is _, stab_is _, stab_is _, stab_is _, (fun _ _ _ h hb => Bs.below h hb), (fun _ _ _ h hb => Bs.below h hb), (fun _ _ _ h hb => Bs.below h hb), trivial⟩ ?step1 ?fin1
    case step1 =>
      refine ⟨fun wq hbq Kq hKq => ?_, fun wq hbq Kq hKq => ?_, fun wq hbq Kq hKq => ?_, fun wq hbq Kq hKq => ?_, fun wq hbq Kq hKq => ?_, fun wq hbq Kq hKq => ?_, fun wq hbq Kq hKq => ?_, fun wq hbq Kq hKq => ?_, fun wq hbq Kq hKq => ?_, fun wq hbq Kq hKq => ?_, fun wq hbq Kq hKq => ?_, fun wq hbq Kq hKq => ?_, fun wq hbq Kq hKq => ?_, fun wq hbq Kq hKq => ?_, fun wq hbq Kq hKq => ?_, fun wq hbq Kq hKq => ?_, fun wq hbq Kq hKq => ?_, trivial⟩
      · have hB := hB.below hbq; have hcn := cell_bel hbq hcn; have hcb := cell_bel hbq hcb
        refine WR.s ?_; refine WR.nil ?_; exact Ends.one hKq rfl rfl (Below.refl _ _)
      · have hB := hB.below hbq; have hcn := cell_bel hbq hcn; have hcb := cell_bel hbq hcb
        refine WR.s ?_; refine WR.nil ?_; exact Ends.one hKq rfl rfl (Below.refl _ _)
      · rintro _ rfl
        have hB := hB.below hbq; have hcn := cell_bel hbq hcn; have hcb := cell_bel hbq hcb
        refine WR.s ?_; refine WR.nil ?_; exact Ends.one hKq rfl rfl (Below.refl _ _)
      · have hB := hB.below hbq; have hcn := cell_bel hbq hcn; have hcb := cell_bel hbq hcb
        refine WR.s ?_; refine WR.nil ?_; exact Ends.one hKq rfl rfl (Below.refl _ _)
      · rintro _ rfl _ rfl
        have hB := hB.below hbq; have hcn := cell_bel hbq hcn; have hcb := cell_bel hbq hcb
        refine WR.indexAddr (j := i) (by rfl) (by rfl) (by rfl) (by omega) ?_; refine WR.nil ?_; exact Ends.one hKq rfl rfl (Below.refl _ _)
      · rintro _ rfl
        have hB := hB.below hbq; have hcn := cell_bel hbq hcn; have hcb := cell_bel hbq hcb
        refine WR.s ?_; refine WR.nil ?_; exact Ends.one hKq rfl rfl (Below.refl _ _)
      · rintro _ rfl
        have hB := hB.below hbq; have hcn := cell_bel hbq hcn; have hcb := cell_bel hbq hcb
        refine WR.load (by rfl) hcn (by rfl) ?_; refine WR.nil ?_; exact Ends.one hKq rfl rfl (Below.refl _ _)
      · rintro _ rfl
        have hB := hB.below hbq; have hcn := cell_bel hbq hcn; have hcb := cell_bel hbq hcb
        refine WR.call (by rfl) (by rfl) (named_any x.name _ (by omega)) ?_; rintro _ wy ⟨v', rfl, h1, hb⟩; refine ⟨_, rfl, ?_⟩; refine WR.nil ?_; exact Ends.one hKq rfl (h1.low hbq.size).bs hb 
      · have hB := hB.below hbq; have hcn := cell_bel hbq hcn; have hcb := cell_bel hbq hcb
        refine WR.s ?_; refine WR.nil ?_; exact Ends.one hKq rfl rfl (Below.refl _ _)
      · rintro _ rfl
        have hB := hB.below hbq; have hcn := cell_bel hbq hcn; have hcb := cell_bel hbq hcb
        refine WR.s ?_; refine WR.nil ?_; exact Ends.one hKq rfl rfl (Below.refl _ _)
      · have hB := hB.below hbq; have hcn := cell_bel hbq hcn; have hcb := cell_bel hbq hcb
        refine WR.s ?_; refine WR.nil ?_; exact Ends.one hKq rfl rfl (Below.refl _ _)
      · rintro _ rfl _ rfl
        have hB := hB.below hbq; have hcn := cell_bel hbq hcn; have hcb := cell_bel hbq hcb
        refine WR.indexAddr (j := i) (by rfl) (by rfl) (by rfl) (by omega) ?_; refine WR.nil ?_; exact Ends.one hKq rfl rfl (Below.refl _ _)
      · rintro _ rfl
        have hB := hB.below hbq; have hcn := cell_bel hbq hcn; have hcb := cell_bel hbq hcb
        refine WR.s ?_; refine WR.nil ?_; exact Ends.one hKq rfl rfl (Below.refl _ _)
      · rintro _ rfl
        have hB := hB.below hbq; have hcn := cell_bel hbq hcn; have hcb := cell_bel hbq hcb
        refine WR.load (by rfl) hcb (by rfl) ?_; refine WR.nil ?_; exact Ends.one hKq rfl rfl (Below.refl _ _)
      · rintro _ rfl
        have hB := hB.below hbq; have hcn := cell_bel hbq hcn; have hcb := cell_bel hbq hcb
        refine WR.call (by rfl) (by rfl) (counted_any (Bs.below hbi hbq) (by omega)) ?_; rintro _ wy ⟨v', rfl, h1, hb⟩; refine ⟨_, rfl, ?_⟩; refine WR.nil ?_; exact Ends.one hKq rfl (h1.low hbq.size).bs hb 
      · rintro v7 h7 v14 h14
        have hB := hB.below hbq; have hcn := cell_bel hbq hcn; have hcb := cell_bel hbq hcb
        refine WR.call (by rfl) (by rfl) (both_any _ _ _ _ _ _ _ h7 h14 (by omega) (by omega)) ?_; rintro _ wy ⟨v', rfl, h1, hb⟩; refine ⟨_, rfl, ?_⟩; refine WR.nil ?_; exact Ends.one hKq rfl (h1.low hbq.size).bs hb 
      · rintro _ rfl v15 h15
        have hB := hB.below hbq; have hcn := cell_bel hbq hcn; have hcb := cell_bel hbq hcb
        refine WR.call (by rfl) (by rfl) (both_any _ _ _ _ _ _ _ (Bs.below hob hbq) h15 (by omega) (by rw [List.length_append]; omega)) ?_; rintro _ wy ⟨v', rfl, h1, hb⟩; refine ⟨_, rfl, ?_⟩; refine WR.nil ?_; exact Ends.one hKq rfl (h1.low hbq.size).bs hb 
    intro wq hbq
    rintro _ rfl _ rfl _ rfl _ rfl _ rfl _ rfl _ rfl v7 h7 _ rfl _ rfl _ rfl _ rfl _ rfl _ rfl v14 h14 v15 h15 v16 h16
    refine WR.id ?_
    have hB := hB.below hbq; have hcn := cell_bel hbq hcn; have hcb := cell_bel hbq hcb
    replace M := (M.new hbq (bs_zsl h16) fun b hb => hb.1).freeze
    obtain ⟨A3, c3, rfl, -⟩ := Bs.open_ h16
    clear hB hcn hcb h7 h14 h15 h16
    (repeat (first | (refine WR.id ?_; first | refine WR.nil ?_ | refine WR.s ?_ | refine WR.g ?_) | (refine W.id ?_; first | refine W.seq fun _ _ => ?_ | refine W.region ?_ | refine W.s ?_ | refine W.e ?_) | (refine Ends.id ?_; first | refine Ends.seq (by assumption) ?_ | refine Ends.s ?_)))
    exact Ends.round hK (i + 1, out ++ (nameB x.name ++ countB x.bytes), A3, c3) (by repeat (first | exact .nil | refine .cons rfl ?_)) ⟨by dsimp only; omega, by dsimp only; rw [hout, fls_take hx, List.flatMap_append, List.append_assoc]; simp [fileB], M.dropz2⟩ (by dsimp only; omega)
  · obtain rfl : i = es.length := by omega
    rw [List.take_of_length_le (by rw [fls_len]; omega)] at hout
    obtain ⟨_, hob⟩ := M.zbs 0 rfl
    (repeat (first | (refine WR.id ?_; first | refine WR.nil ?_ | refine WR.s ?_ | refine WR.g ?_) | (refine W.id ?_; first | refine W.seq fun _ _ => ?_ | refine W.region ?_ | refine W.s ?_ | refine W.e ?_) | (refine Ends.id ?_; first | refine Ends.seq (by assumption) ?_ | refine Ends.s ?_)))
    refine Ends.ret1 rfl rfl ⟨_, rfl, ⟨_, by rw [show bytesF (fls es) = out from by rw [hout]; unfold bytesF; rw [fls_len]]; exact hob⟩, M.pre 3 rfl⟩
end Go.Proofs.Ytjgobljclodpfaa
