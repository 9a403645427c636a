/- Layer 12's laws: agree. No condition beyond sizes. -/
import Derived.Test.YtibmcpbkialbnaaLkU
import Derived.Test.YtibmcpbkialbnaaIt3
namespace Go.Proofs.Ytibmcpbkialbnaa
open Go.RowKit K L E
open Go.Maps (Keyed)
set_option linter.unusedVariables false
set_option linter.unusedSimpArgs false

theorem come_len {l : PL} {fs : RF} (hT : TieL l fs) (p : PK) (now : Int) : (cameF (l.m p) now).length = (RF.arr fs p now).length := by
  rw [arr_idx, came_idx, idx_len, idx_len, hT.at_, List.filter_filter]
  congr 1
  apply List.filter_congr
  intro f _
  exact Bool.and_comm _ _
theorem eql_func {f : _} {a c : Array Value} {w : World} : (binOp .eql 57 (.func f a c) .nilFunc).run Try.prog w = .ok (.bool false) w := by kernel_rfl
theorem mem_marks {ms : List Nat} {d : Nat} {w : World} {a c e : Ass} {Os Zs : List Ass} (M : Mem w (aObj d (.deferred (some [])) :: a :: c :: e :: (aMarks ms ++ Os)) Zs) : Mem w (a :: c :: e :: (aMarks (d :: ms) ++ Os)) Zs := M.swap.under1 fun M => M.swap.under1 fun M => M.swap
variable {w : World} {b : Nat} {l : PL} {Os Zs : List Ass}
set_option maxRecDepth 100000 in
set_option maxHeartbeats 4000000 in
theorem agree_M (fs : List PF) (v : Value) (p : PK) (now : Int) (k : Nat) (M : Mem w (aLk b l :: Os) Zs) (hT : TieL l fs) (hz : Zs[k]? = some (aFl v fs)) (h1 : i64 p.1) (h2 : i64 p.2) :
    Calls Try.prog 22 #[.pointer (some ⟨b, 0, none⟩), .agg #[v], .int .i64 p.1, .int .i64 p.2, .int .i64 now] w fun r w' => r = .returned (.bool true) ∧ Mem w' (aLk b l :: Os) Zs := by
  have htop : l.n ≤ 512 := by obtain ⟨_, _, _, hk, _⟩ := M.lk; exact hk.top
  have hfn : fs.length ≤ 512 := by rw [← hT.n]; exact htop
  have hwl := hT.len p
  have hln : (l.m p).length ≤ 512 := by obtain ⟨_, _, _, hk, _⟩ := M.lk; exact Nat.le_trans (hk.cnt p) hk.top
  have hbb : ∀ f ∈ l.m p, f.bytes.length ≤ 1048576 := fun f hf => Nat.le_trans (right_i64 (hT.lok p f hf).2).2.2.2.1 (by decide)
  obtain ⟨Ff0, hFf0⟩ := M.z k hz
  obtain ⟨A0, c0, rfl⟩ := aFl_sl hFf0
  clear hFf0
  refine enterM Try.func22 rfl Try.ntmps22 rfl rfl ?_
  (repeat (first | (refine WR.id ?_; first | refine WR.nil ?_ | refine WR.s ?_ | refine WR.g ?_) | (refine W.id ?_; first | refine W.seq fun _ _ => ?_ | refine W.region ?_ | refine W.s ?_ | refine W.e ?_) | (refine Ends.id ?_; first | refine Ends.seq (by assumption) ?_ | refine Ends.s ?_)))
  refine WR.box rfl (cs := #[.slice A0 fs.length c0]) rfl rfl fun w1 hb1 hx1 hs1 => ?_
  replace M := (M.newBox (cs := [.slice A0 fs.length c0]) hb1 hx1).freeze
  refine WR.alloc (by rfl) fun w2 hb2 hx2 hs2 => ?_
  replace M := M.newBox (cs := [.bool false]) hb2 hx2
  generalize w1.heap.size = br at M ⊢
  obtain ⟨b6, hb6⟩ : ∃ b6, b6 = w.heap.size := ⟨_, rfl⟩
  rw [← hb6] at M ⊢
  have hB6 := M.zbox 0 rfl
  obtain ⟨Ff, hFf⟩ := M.z (k + 1) hz
  (repeat (first | (refine WR.id ?_; first | refine WR.nil ?_ | refine WR.s ?_ | refine WR.g ?_) | (refine W.id ?_; first | refine W.seq fun _ _ => ?_ | refine W.region ?_ | refine W.s ?_ | refine W.e ?_) | (refine Ends.id ?_; first | refine Ends.seq (by assumption) ?_ | refine Ends.s ?_)))
  refine WR.call rfl rfl (of_any _ fs p _ _ hFf (by omega)) ?_
  clear hB6 hFf
  rintro _ w3 ⟨Ao, co, rfl, hfo⟩
  refine ⟨_, rfl, ?_⟩
  replace M := (M.add hfo).freeze
  (repeat (first | (refine WR.id ?_; first | refine WR.nil ?_ | refine WR.s ?_ | refine WR.g ?_) | (refine W.id ?_; first | refine W.seq fun _ _ => ?_ | refine W.region ?_ | refine W.s ?_ | refine W.e ?_) | (refine Ends.id ?_; first | refine Ends.seq (by assumption) ?_ | refine Ends.s ?_)))
  refine WR.allocStore (c := #[.slice Ao (RF.of fs p).length co]) (by rfl) (by rfl) rfl (by rfl) (by rfl) (all_oneCell_toArray (fun u hu => by obtain rfl := List.mem_singleton.1 hu; rfl)) (by rfl) fun w4 hb4 hx4 hs4 => ?_
  replace M := ((M.newBox (cs := [.slice Ao (RF.of fs p).length co]) hb4 hx4).freeze).swap
  generalize w3.heap.size = b11 at M ⊢
  (repeat (first | (refine WR.id ?_; first | refine WR.nil ?_ | refine WR.s ?_ | refine WR.g ?_) | (refine W.id ?_; first | refine W.seq fun _ _ => ?_ | refine W.region ?_ | refine W.s ?_ | refine W.e ?_) | (refine Ends.id ?_; first | refine Ends.seq (by assumption) ?_ | refine Ends.s ?_)))
  apply W.draws3 [11] [[], [0], [], [2], [3], [1, 4], [5], [6], [6], [6], [6], [7, 8, 9, 10, 6], [6], [6], [6], [6], [12, 13, 14, 15, 6], [16, 6], [11, 17, 6], [6, 18]] [(0, 1), (0, 1), (0, 1), (0, 1), (0, 1), (0, 1), (0, 1), (0, 1), (0, 1), (0, 1), (0, 1), (0, 1), (0, 2), (0, 2), (0, 2), (0, 2), (1, 1), (1, 1), (1, 1), (1, 1)]
    [is _, is _, is _, is _, is _, is _, is _, is _, is _, is _, is _, fun _ _ => True, is _, is _, is _, is _, (fun u v => ∃ A c, v = .slice A (RF.arr fs p now).length c), is _, is _, is _] (fun | [] => (fun u => Mem u (aLk b l :: aBox br [.bool false] :: Os) (zFr w4.heap.size u :: aBox b11 [.slice Ao (RF.of fs p).length co] :: aLr 3 1 (.slice Ao (RF.of fs p).length co) (RF.of fs p).length (natv (RF.of fs p)) :: aBox b6 [.slice A0 fs.length c0] :: Zs)) | u0 :: _ => (fun u => u0 = .int .i64 ((cameF (l.m p) now).length : Nat) ∧ Mem u (aLk b l :: aBox br [.bool false] :: Os) (aBox b11 [.slice Ao (RF.of fs p).length co] :: aLr 3 1 (.slice Ao (RF.of fs p).length co) (RF.of fs p).length (natv (RF.of fs p)) :: aBox b6 [.slice A0 fs.length c0] :: Zs))) (by kernel_rfl) (by kernel_rfl) (by rfl) (by kernel_rfl) (by kernel_rfl) (by rfl) (by rfl) ⟨stab3_is _ _, stab3_is _ _, stab3_is _ _, stab3_is _ _, stab3_is _ _, stab3_is _ _, stab3_is _ _, stab3_is _ _, stab3_is _ _, stab3_is _ _, stab3_is _ _, fun _ _ _ _ _ => trivial, stab3_is _ _, stab3_is _ _, stab3_is _ _, stab3_is _ _, (fun _ _ _ h _ => h), stab3_is _ _, stab3_is _ _, stab3_is _ _, trivial⟩ (fun vs u u' h hb => (by rcases vs with _ | ⟨a, r⟩ <;> first | exact Mem.frB h hb | exact ⟨h.1, Mem.below h.2 hb⟩)) (M.fr0) ?step2 ?fin2
  case step2 =>
    refine ⟨⟨fun wq huq hjq Kq hKq => ?_, trivial⟩, ⟨fun wq huq hjq Kq hKq => ?_, trivial⟩, ⟨fun wq huq hjq Kq hKq => ?_, trivial⟩, ⟨fun wq huq hjq Kq hKq => ?_, trivial⟩, ⟨fun wq huq hjq Kq hKq => ?_, trivial⟩, ⟨fun wq huq hjq Kq hKq => ?_, trivial⟩, ⟨fun wq huq hjq Kq hKq => ?_, trivial⟩, ⟨fun wq huq hjq Kq hKq => ?_, trivial⟩, ⟨fun wq huq hjq Kq hKq => ?_, trivial⟩, ⟨fun wq huq hjq Kq hKq => ?_, trivial⟩, ⟨fun wq huq hjq Kq hKq => ?_, trivial⟩, ⟨fun wq huq hjq Kq hKq => ?_, trivial⟩, ⟨fun wq huq hjq Kq hKq => ?_, fun u0 wq huq hjq Kq hKq => ?_, trivial⟩, ⟨fun wq huq hjq Kq hKq => ?_, fun u0 wq huq hjq Kq hKq => ?_, trivial⟩, ⟨fun wq huq hjq Kq hKq => ?_, fun u0 wq huq hjq Kq hKq => ?_, trivial⟩, ⟨fun wq huq hjq Kq hKq => ?_, fun u0 wq huq hjq Kq hKq => ?_, trivial⟩, ⟨fun u0 wq huq hjq Kq hKq => ?_, trivial⟩, ⟨fun u0 wq huq hjq Kq hKq => ?_, trivial⟩, ⟨fun u0 wq huq hjq Kq hKq => ?_, trivial⟩, ⟨fun u0 wq huq hjq Kq hKq => ?_, trivial⟩, trivial⟩
    · have hB6 := hjq.zbox 3 rfl
      refine WR.s ?_; refine WR.nil ?_; exact Ends.one hKq rfl rfl (Below.refl _ _)
    · rintro _ rfl
      have hB6 := hjq.zbox 3 rfl
      refine WR.call (by rfl) (by rfl) (len_M hjq) ?_; rintro _ _ ⟨rfl, rfl⟩; refine ⟨_, rfl, ?_⟩; refine WR.nil ?_; exact Ends.one hKq rfl rfl (Below.refl _ _)
    · have hB6 := hjq.zbox 3 rfl
      refine WR.s ?_; refine WR.nil ?_; exact Ends.one hKq rfl rfl (Below.refl _ _)
    · rintro _ rfl
      have hB6 := hjq.zbox 3 rfl
      refine WR.loadCell (by rfl) hB6 (by rfl) (by rfl) ?_; refine WR.nil ?_; exact Ends.one hKq rfl rfl (Below.refl _ _)
    · rintro _ rfl
      have hB6 := hjq.zbox 3 rfl
      refine WR.s ?_; refine WR.nil ?_; exact Ends.one hKq rfl rfl (Below.refl _ _)
    · rintro _ rfl _ rfl
      have hB6 := hjq.zbox 3 rfl
      refine WR.neq_f (by rfl) (by rfl) (by rfl) (by rw [hT.n]; simp) ?_; refine WR.nil ?_; exact Ends.one hKq rfl rfl (Below.refl _ _)
    · rintro _ rfl
      have hB6 := hjq.zbox 3 rfl
      refine WR.s ?_; refine WR.nil ?_; exact Ends.one hKq rfl rfl (Below.refl _ _)
    · rintro _ rfl
      have hB6 := hjq.zbox 3 rfl
      first
        | (refine WR.guard_yes rfl rfl ?_; refine WR.s ?_; refine WR.nil ?_; exact Ends.one hKq rfl rfl (Below.refl _ _))
        | (refine WR.gn ?_; refine WR.nil ?_; exact Ends.one hKq rfl rfl (Below.refl _ _))
    · rintro _ rfl
      have hB6 := hjq.zbox 3 rfl
      first
        | (refine WR.guard_yes rfl rfl ?_; refine WR.s ?_; refine WR.nil ?_; exact Ends.one hKq rfl rfl (Below.refl _ _))
        | (refine WR.gn ?_; refine WR.nil ?_; exact Ends.one hKq rfl rfl (Below.refl _ _))
    · rintro _ rfl
      have hB6 := hjq.zbox 3 rfl
      first
        | (refine WR.guard_yes rfl rfl ?_; refine WR.s ?_; refine WR.nil ?_; exact Ends.one hKq rfl rfl (Below.refl _ _))
        | (refine WR.gn ?_; refine WR.nil ?_; exact Ends.one hKq rfl rfl (Below.refl _ _))
    · rintro _ rfl
      have hB6 := hjq.zbox 3 rfl
      first
        | (refine WR.guard_yes rfl rfl ?_; refine WR.s ?_; refine WR.nil ?_; exact Ends.one hKq rfl rfl (Below.refl _ _))
        | (refine WR.gn ?_; refine WR.nil ?_; exact Ends.one hKq rfl rfl (Below.refl _ _))
    · rintro _ rfl _ rfl _ rfl _ rfl _ rfl
      have hB6 := hjq.zbox 3 rfl
      first
        | (refine WR.guard_yes rfl rfl ?_; refine WR.call (by rfl) (by rfl) (arrivedN_M hT.lok hjq p h1 h2 now) ?_; rintro _ wy ⟨rfl, My⟩; refine ⟨_, rfl, ?_⟩; refine WR.nil ?_; exact Ends.oneM hKq rfl ⟨rfl, My.dropz⟩ My.drop.frU)
        | (refine WR.gn ?_; refine WR.nil ?_; exact Ends.one hKq rfl rfl (Below.refl _ _))
    · rintro _ rfl
      have hB6 := hjq.zbox 3 rfl
      first
        | (refine WR.guard_yes rfl rfl ?_; refine WR.s ?_; refine WR.nil ?_; exact Ends.one hKq rfl rfl (Below.refl _ _))
        | (refine WR.gn ?_; refine WR.nil ?_; exact Ends.one hKq rfl rfl (Below.refl _ _))
    · rintro _ rfl
      obtain ⟨rfl, hjq⟩ := hjq; have hB6 := hjq.zbox 2 rfl
      first
        | (refine WR.guard_yes rfl rfl ?_; refine WR.s ?_; refine WR.nil ?_; exact Ends.one hKq rfl rfl (Below.refl _ _))
        | (refine WR.gn ?_; refine WR.nil ?_; exact Ends.one hKq rfl rfl (Below.refl _ _))
    · rintro _ rfl
      have hB6 := hjq.zbox 3 rfl
      first
        | (refine WR.guard_yes rfl rfl ?_; refine WR.s ?_; refine WR.nil ?_; exact Ends.one hKq rfl rfl (Below.refl _ _))
        | (refine WR.gn ?_; refine WR.nil ?_; exact Ends.one hKq rfl rfl (Below.refl _ _))
    · rintro _ rfl
      obtain ⟨rfl, hjq⟩ := hjq; have hB6 := hjq.zbox 2 rfl
      first
        | (refine WR.guard_yes rfl rfl ?_; refine WR.s ?_; refine WR.nil ?_; exact Ends.one hKq rfl rfl (Below.refl _ _))
        | (refine WR.gn ?_; refine WR.nil ?_; exact Ends.one hKq rfl rfl (Below.refl _ _))
    · rintro _ rfl
      have hB6 := hjq.zbox 3 rfl
      first
        | (refine WR.guard_yes rfl rfl ?_; refine WR.s ?_; refine WR.nil ?_; exact Ends.one hKq rfl rfl (Below.refl _ _))
        | (refine WR.gn ?_; refine WR.nil ?_; exact Ends.one hKq rfl rfl (Below.refl _ _))
    · rintro _ rfl
      obtain ⟨rfl, hjq⟩ := hjq; have hB6 := hjq.zbox 2 rfl
      first
        | (refine WR.guard_yes rfl rfl ?_; refine WR.s ?_; refine WR.nil ?_; exact Ends.one hKq rfl rfl (Below.refl _ _))
        | (refine WR.gn ?_; refine WR.nil ?_; exact Ends.one hKq rfl rfl (Below.refl _ _))
    · rintro _ rfl
      have hB6 := hjq.zbox 3 rfl
      first
        | (refine WR.guard_yes rfl rfl ?_; refine WR.s ?_; refine WR.nil ?_; exact Ends.one hKq rfl rfl (Below.refl _ _))
        | (refine WR.gn ?_; refine WR.nil ?_; exact Ends.one hKq rfl rfl (Below.refl _ _))
    · rintro _ rfl
      obtain ⟨rfl, hjq⟩ := hjq; have hB6 := hjq.zbox 2 rfl
      first
        | (refine WR.guard_yes rfl rfl ?_; refine WR.s ?_; refine WR.nil ?_; exact Ends.one hKq rfl rfl (Below.refl _ _))
        | (refine WR.gn ?_; refine WR.nil ?_; exact Ends.one hKq rfl rfl (Below.refl _ _))
    · rintro _ rfl _ rfl _ rfl _ rfl _ rfl
      obtain ⟨rfl, hjq⟩ := hjq; have hB6 := hjq.zbox 2 rfl
      first
        | (refine WR.guard_yes rfl rfl ?_; obtain ⟨Fq, hFq⟩ := hjq.z (k + 3) hz; refine WR.call (by rfl) (by rfl) (arr_any _ fs p now _ _ hFq (by omega)) ?_; rintro _ wy ⟨A, c, rfl, hf⟩; refine ⟨_, rfl, ?_⟩; refine WR.nil ?_; exact Ends.one hKq rfl ⟨_, _, rfl⟩ hf.1 )
        | (refine WR.gn ?_; refine WR.nil ?_; exact Ends.one hKq rfl rfl (Below.refl _ _))
    · rintro v16 h16 _ rfl
      obtain ⟨rfl, hjq⟩ := hjq; have hB6 := hjq.zbox 2 rfl
      first
        | (refine WR.guard_yes rfl rfl ?_; obtain ⟨A, c, rfl⟩ := h16; refine WR.len (by rfl) (by rfl) ?_; refine WR.nil ?_; exact Ends.one hKq rfl rfl (Below.refl _ _))
        | (refine WR.gn ?_; refine WR.nil ?_; exact Ends.one hKq rfl rfl (Below.refl _ _))
    · rintro u0 rfl _ rfl _ rfl
      obtain ⟨rfl, hjq⟩ := hjq; have hB6 := hjq.zbox 2 rfl
      first
        | (refine WR.guard_yes rfl rfl ?_; refine WR.neq_f (by rfl) (by rfl) (by rfl) (by rw [come_len hT p now]; simp) ?_; refine WR.nil ?_; exact Ends.one hKq rfl rfl (Below.refl _ _))
        | (refine WR.gn ?_; refine WR.nil ?_; exact Ends.one hKq rfl rfl (Below.refl _ _))
    · rintro _ rfl _ rfl
      obtain ⟨rfl, hjq⟩ := hjq; have hB6 := hjq.zbox 2 rfl
      refine WR.s ?_; refine WR.nil ?_; exact Ends.one hKq rfl rfl (Below.refl _ _)
  intro u0 wq huq hjq
  rintro _ rfl _ rfl _ rfl _ rfl _ rfl _ rfl _ rfl _ rfl _ rfl _ rfl _ rfl u0 rfl _ rfl _ rfl _ rfl _ rfl v16 h16 _ rfl _ rfl _ rfl
  obtain ⟨rfl, hjq⟩ := hjq; have hB6 := hjq.zbox 2 rfl
  refine Ends.id ?_
  replace M := hjq
  clear hB6
  (repeat (first | (refine WR.id ?_; first | refine WR.nil ?_ | refine WR.s ?_ | refine WR.g ?_) | (refine W.id ?_; first | refine W.seq fun _ _ => ?_ | refine W.region ?_ | refine W.s ?_ | refine W.e ?_) | (refine Ends.id ?_; first | refine Ends.seq (by assumption) ?_ | refine Ends.s ?_)))
  refine WR.call rfl rfl (all_M hT.lok M p h1 h2) ?_
  rintro _ w6 ⟨b7, vq, vs, rfl, hvl, M⟩
  refine ⟨_, rfl, ?_⟩
  (repeat (first | (refine WR.id ?_; first | refine WR.nil ?_ | refine WR.s ?_ | refine WR.g ?_) | (refine W.id ?_; first | refine W.seq fun _ _ => ?_ | refine W.region ?_ | refine W.s ?_ | refine W.e ?_) | (refine Ends.id ?_; first | refine Ends.seq (by assumption) ?_ | refine Ends.s ?_)))
  refine WR.bin (by rfl) (by rfl) (by rfl) (by rfl) eql_func ?_
  (repeat (first | (refine WR.id ?_; first | refine WR.nil ?_ | refine WR.s ?_ | refine WR.g ?_) | (refine W.id ?_; first | refine W.seq fun _ _ => ?_ | refine W.region ?_ | refine W.s ?_ | refine W.e ?_) | (refine Ends.id ?_; first | refine Ends.seq (by assumption) ?_ | refine Ends.s ?_)))
  refine WR.allocStore (c := #[.int .i64 0]) (by rfl) (by rfl) rfl (by rfl) (by rfl) (all_oneCell_toArray (fun u hu => by obtain rfl := List.mem_singleton.1 hu; rfl)) (by rfl) fun w7 hb7 hx7 hs7 => ?_
  replace M := M.newBox (cs := [.int .i64 0]) hb7 hx7
  generalize w6.heap.size = b13 at M ⊢
  (repeat (first | (refine WR.id ?_; first | refine WR.nil ?_ | refine WR.s ?_ | refine WR.g ?_) | (refine W.id ?_; first | refine W.seq fun _ _ => ?_ | refine W.region ?_ | refine W.s ?_ | refine W.e ?_) | (refine Ends.id ?_; first | refine Ends.seq (by assumption) ?_ | refine Ends.s ?_)))
  refine W.loopD (X := Nat × Nat × List Nat) (fun x => x.2.2.map E.mark) (fun x => [(6, .pointer (some ⟨b6, 0, none⟩)), (10, .pointer (some ⟨br, 0, none⟩)), (11, .pointer (some ⟨b11, 0, none⟩)), (12, .func (.func 40) #[] #[.pointer (some ⟨b7, 0, none⟩)]), (13, .pointer (some ⟨x.2.1, 0, none⟩))])
    (fun x wl => x.1 ≤ 2 ∧ Mem wl (aBox x.2.1 [.int .i64 (x.1 : Nat)] :: aSrc b7 vq (l.m p) vs :: aLk b l :: aBox br [.bool false] :: (aMarks x.2.2 ++ Os)) (aBox b11 [.slice Ao (RF.of fs p).length co] :: aLr 3 1 (.slice Ao (RF.of fs p).length co) (RF.of fs p).length (natv (RF.of fs p)) :: aBox b6 [.slice A0 fs.length c0] :: Zs)) (fun x => 2 - x.1) (0, b13, []) rfl (by repeat (first | exact .nil | refine .cons rfl ?_)) ⟨Nat.zero_le _, M⟩ ?_
  clear M
  rintro ⟨r, b13, ms⟩ wl ⟨hr, M⟩ K hK
  dsimp only at hr M
  dsimp only
  have hB13 := M.box
  (repeat (first | (refine WR.id ?_; first | refine WR.nil ?_ | refine WR.s ?_ | refine WR.g ?_) | (refine W.id ?_; first | refine W.seq fun _ _ => ?_ | refine W.region ?_ | refine W.s ?_ | refine W.e ?_) | (refine Ends.id ?_; first | refine Ends.seq (by assumption) ?_ | refine Ends.s ?_)))
  refine W.condP (by rfl) (fun hlt => ?_) (fun hlt => ?_)
  rotate_left
  · (repeat (first | (refine WR.id ?_; first | refine WR.nil ?_ | refine WR.s ?_ | refine WR.g ?_) | (refine W.id ?_; first | refine W.seq fun _ _ => ?_ | refine W.region ?_ | refine W.s ?_ | refine W.e ?_) | (refine Ends.id ?_; first | refine Ends.seq (by assumption) ?_ | refine Ends.s ?_)))
    refine WR.storeBox M.fourth.box (by rfl) (by rfl) rfl rfl (by simp) fun w9 hu9 hx9 hs9 => ?_
    replace M := M.fourth.setBox hu9 hx9
    (repeat (first | (refine WR.id ?_; first | refine WR.nil ?_ | refine WR.s ?_ | refine WR.g ?_) | (refine W.id ?_; first | refine W.seq fun _ _ => ?_ | refine W.region ?_ | refine W.s ?_ | refine W.e ?_) | (refine Ends.id ?_; first | refine Ends.seq (by assumption) ?_ | refine Ends.s ?_)))
    exact Ends.marks (.inl rfl) ms (Os := aBox br [.bool true] :: aLk b l :: Os) ((M.swap.drop.swap.drop).perm (List.perm_middle.trans (List.perm_middle.cons _)).symm) fun w' a M' ha => ⟨.bool true, run_results1 rfl (ha.getD (by rfl)) (run_load_sc (Sc.h (P := Try.prog) (t := 4)) _ _ _ (M'.box.cell 0)), rfl, M'.drop.dropz.dropz.dropz⟩
  · (repeat (first | (refine WR.id ?_; first | refine WR.nil ?_ | refine WR.s ?_ | refine WR.g ?_) | (refine W.id ?_; first | refine W.seq fun _ _ => ?_ | refine W.region ?_ | refine W.s ?_ | refine W.e ?_) | (refine Ends.id ?_; first | refine Ends.seq (by assumption) ?_ | refine Ends.s ?_)))
    refine WR.allocStore (c := #[.int .i64 0]) (by rfl) (by rfl) rfl (by rfl) (by rfl) (all_oneCell_toArray (fun u hu => by obtain rfl := List.mem_singleton.1 hu; rfl)) (by rfl) fun w8 hb8 hx8 hs8 => ?_
    replace M := (M.newBox (cs := [.int .i64 0]) hb8 hx8).under1 fun M => M.swap
    generalize wl.heap.size = b14 at M ⊢
    clear hB13
    (repeat (first | (refine WR.id ?_; first | refine WR.nil ?_ | refine WR.s ?_ | refine WR.g ?_) | (refine W.id ?_; first | refine W.seq fun _ _ => ?_ | refine W.region ?_ | refine W.s ?_ | refine W.e ?_) | (refine Ends.id ?_; first | refine Ends.seq (by assumption) ?_ | refine Ends.s ?_)))
    refine W.rangeFunc (γ := Unit) (γ' := Unit) (δ := Nat) (by rfl) (all_iter b7 vq (l.m p) vs hvl (by omega) hbb) (fun _ => rfl) (by rfl)
      (fun pre _ => aBox b14 [.int .i64 (pre.length : Nat)] :: aSrc b7 vq (l.m p) vs :: aBox b13 [.int .i64 (r : Nat)] :: aLk b l :: aBox br [.bool false] :: (aMarks ms ++ Os)) (fun _ _ => True) (fun pre _ => aBox b14 [.int .i64 (pre.length : Nat)] :: aSrc b7 vq (l.m p) vs :: aBox b13 [.int .i64 (r : Nat)] :: aLk b l :: aBox br [.bool false] :: (aMarks ms ++ Os)) (fun code _ _ => code = .exit 2 ∧ r = 1) (fun M => M.drop.drop.get) () trivial M
      (fun pre x _ y => [(6, .pointer (some ⟨b6, 0, none⟩)), (10, .pointer (some ⟨br, 0, none⟩)), (11, .pointer (some ⟨b11, 0, none⟩)), (12, .func (.func 40) #[] #[.pointer (some ⟨b7, 0, none⟩)]), (13, .pointer (some ⟨b13, 0, none⟩)), (14, .pointer (some ⟨b14, 0, none⟩)), (15, .int .i64 (x.1 : Nat)), (16, .pointer (some ⟨y, 0, none⟩))])
      (fun pre x _ y => aBox b14 [.int .i64 (pre.length : Nat)] :: aBox y (x.2.1.cells x.2.2) :: aBy x.2.2 x.2.1.bytes :: aSrc b7 vq (l.m p) vs :: aBox b13 [.int .i64 (r : Nat)] :: aLk b l :: aBox br [.bool false] :: (aMarks ms ++ Os)) ?_ ?_ ?_ ?_
    · rintro lp pre ⟨jx, f, vb⟩ _ wq X Kq _ hG hlen M hKq
      have h1b : vb.oneCell' = true := by obtain ⟨F, hF⟩ := M.swap.get; exact by_one hF
      (repeat (first | (refine WRI.id ?_; first | refine WRI.nil ?_ | refine WRI.s ?_ | refine WRI.g ?_) | (refine WI.id ?_; first | refine WI.seq fun _ _ => ?_ | refine WI.region ?_ | refine WI.s ?_ | refine WI.e ?_) | (refine Ends.id ?_; first | refine Ends.seqI (by assumption) ?_ | refine Ends.s ?_)))
      refine WRI.alloc (by rfl) fun w5 hb5 hx5 hs5 => ?_
      replace M := M.newBox (cs := [.int .i64 0, .int .i64 0, .int .i64 0, .slice none 0 0]) hb5 hx5
      refine WRI.storeAgg (cs' := f.cells vb) M.box (by rfl) (by rfl) (by rfl) (by rfl) (PF.one _ _ h1b) fun w6 hu6 hx6 hs6 => ?_
      replace M := M.setBox hu6 hx6
      (repeat (first | (refine WRI.id ?_; first | refine WRI.nil ?_ | refine WRI.s ?_ | refine WRI.g ?_) | (refine WI.id ?_; first | refine WI.seq fun _ _ => ?_ | refine WI.region ?_ | refine WI.s ?_ | refine WI.e ?_) | (refine Ends.id ?_; first | refine Ends.seqI (by assumption) ?_ | refine Ends.s ?_)))
      refine Ends.cut hKq _ (by repeat (first | exact .nil | refine .cons rfl ?_)) ?_
      exact M.swap.under1 fun M => M.third
    · rintro lp pre ⟨jx, f, vb⟩ _ y wb X _ hG hlen M
      obtain ⟨hx1, hx2⟩ := hG.last
      dsimp only at hx1 hx2
      replace M : Mem wb (X :: aBox b14 [.int .i64 (pre.length : Nat)] :: aBox y (f.cells vb) :: aBy vb f.bytes :: aSrc b7 vq (l.m p) vs :: aBox b13 [.int .i64 (r : Nat)] :: aLk b l :: aBox br [.bool false] :: (aMarks ms ++ Os)) (aBox b11 [.slice Ao (RF.of fs p).length co] :: aLr 3 1 (.slice Ao (RF.of fs p).length co) (RF.of fs p).length (natv (RF.of fs p)) :: aBox b6 [.slice A0 fs.length c0] :: Zs) := M
      subst hx1
      have hfl := hbb f (List.mem_of_getElem? hx2)
      obtain ⟨Fv0, hbv0⟩ := by_bs M.fourth
      obtain ⟨Av, cv, hvb, -⟩ := hbv0.open_
      subst hvb
      clear hbv0
      obtain ⟨i, hi⟩ : ∃ i, (RF.of fs p)[pre.length]? = some i := ⟨_, List.getElem?_eq_getElem (by omega)⟩
      have hil : i < fs.length := idx_lt (List.mem_of_getElem? hi)
      have hf : fs[i]? = some f := by
        obtain ⟨a, f', c, e1, e2, e3, e4, e5⟩ := hT.find hi
        rw [e5, ← e4, List.getElem?_append_right (Nat.le_refl _), Nat.sub_self] at hx2
        simp only [List.getElem?_cons_zero, Option.some.injEq] at hx2
        subst hx2
        rw [e1, ← e2, List.getElem?_append_right (Nat.le_refl _), Nat.sub_self]; rfl
      obtain ⟨Fo, hFo⟩ := M.z 1 rfl
      obtain ⟨go, rfl⟩ := lrow_some hFo.2 (by omega)
      have hci := nat_cell hFo.2 hi
      obtain ⟨Fz, hFz⟩ := M.z (k + 3) hz
      obtain ⟨vs2, hvl2, hz2⟩ := afl_fx hFz
      obtain ⟨g2, c2, Ab, q2, hA2, hrg, Fb, hbs2⟩ := elem_fl hvl2 hz2 hf
      obtain ⟨rfl, rfl⟩ : A0 = some ⟨g2, 0, none⟩ ∧ c0 = c2 := by cases hA2; exact ⟨rfl, rfl⟩
      have hB14 := M.swap.box
      have hB16 := M.third.box
      have hB11 := M.zbox 0 rfl
      have hB6 := M.zbox 2 rfl
      (repeat (first | (refine WRI.id ?_; first | refine WRI.nil ?_ | refine WRI.s ?_ | refine WRI.g ?_) | (refine WI.id ?_; first | refine WI.seq fun _ _ => ?_ | refine WI.region ?_ | refine WI.s ?_ | refine WI.e ?_) | (refine Ends.id ?_; first | refine Ends.seqI (by assumption) ?_ | refine Ends.s ?_)))
      refine WI.any (by kernel_rfl) (fun _ _ h => h) (by rfl) ?_
      apply WX.drawsTo 9 [[], [0], [], [], [2, 3], [4], [1, 5], [6], []]
        [is _, is _, is _, is _, is _, is _, is _, is _, (fun u v => ∃ g, v = .pointer (some ⟨g, 0, none⟩) ∧ wb.heap.size ≤ g ∧ Box u g [.int .i64 0, .int .i64 0, .int .i64 0, .slice none 0 0])] (by kernel_rfl) (by rfl) (by kernel_rfl) (by kernel_rfl) ⟨stab_is _, stab_is _, stab_is _, stab_is _, stab_is _, stab_is _, stab_is _, stab_is _, (fun _ _ _ ⟨g, e, h1, h2⟩ hb => ⟨g, e, h1, h2.below hb⟩), trivial⟩ ?step1 ?fin1
      case step1 =>
        refine ⟨fun wq hbq Kq hKq => ?_, fun wq hbq Kq hKq => ?_, fun wq hbq Kq hKq => ?_, fun wq hbq Kq hKq => ?_, fun wq hbq Kq hKq => ?_, fun wq hbq Kq hKq => ?_, fun wq hbq Kq hKq => ?_, fun wq hbq Kq hKq => ?_, fun wq hbq Kq hKq => ?_, trivial⟩
        · have hB14q := hB14.below hbq; have hB11q := hB11.below hbq; have hB6q := hB6.below hbq; have hcq := cel_bl hbq hci; have hrq := rng_bl hbq hrg
          refine WR.s ?_; refine WR.nil ?_; exact Ends.one hKq rfl rfl (Below.refl _ _)
        · rintro _ rfl
          have hB14q := hB14.below hbq; have hB11q := hB11.below hbq; have hB6q := hB6.below hbq; have hcq := cel_bl hbq hci; have hrq := rng_bl hbq hrg
          refine WR.loadCell (by rfl) hB6q (by rfl) (by rfl) ?_; refine WR.nil ?_; exact Ends.one hKq rfl rfl (Below.refl _ _)
        · have hB14q := hB14.below hbq; have hB11q := hB11.below hbq; have hB6q := hB6.below hbq; have hcq := cel_bl hbq hci; have hrq := rng_bl hbq hrg
          refine WR.loadCell (by rfl) hB11q (by rfl) (by rfl) ?_; refine WR.nil ?_; exact Ends.one hKq rfl rfl (Below.refl _ _)
        · have hB14q := hB14.below hbq; have hB11q := hB11.below hbq; have hB6q := hB6.below hbq; have hcq := cel_bl hbq hci; have hrq := rng_bl hbq hrg
          refine WR.loadCell (by rfl) hB14q (by rfl) (by rfl) ?_; refine WR.nil ?_; exact Ends.one hKq rfl rfl (Below.refl _ _)
        · rintro _ rfl _ rfl
          have hB14q := hB14.below hbq; have hB11q := hB11.below hbq; have hB6q := hB6.below hbq; have hcq := cel_bl hbq hci; have hrq := rng_bl hbq hrg
          refine WR.indexAddr (j := pre.length) (by rfl) (by rfl) (by rfl) (by omega) ?_; refine WR.nil ?_; exact Ends.one hKq rfl rfl (Below.refl _ _)
        · rintro _ rfl
          have hB14q := hB14.below hbq; have hB11q := hB11.below hbq; have hB6q := hB6.below hbq; have hcq := cel_bl hbq hci; have hrq := rng_bl hbq hrg
          refine WR.load (by rfl) (by exact hcq) (by rfl) ?_; refine WR.nil ?_; exact Ends.one hKq rfl rfl (Below.refl _ _)
        · rintro _ rfl _ rfl
          have hB14q := hB14.below hbq; have hB11q := hB11.below hbq; have hB6q := hB6.below hbq; have hcq := cel_bl hbq hci; have hrq := rng_bl hbq hrg
          refine WR.indexAddr (j := i) (by rfl) (by rfl) (by rfl) hil ?_; refine WR.nil ?_; exact Ends.one hKq rfl rfl (Below.refl _ _)
        · rintro _ rfl
          have hB14q := hB14.below hbq; have hB11q := hB11.below hbq; have hB6q := hB6.below hbq; have hcq := cel_bl hbq hci; have hrq := rng_bl hbq hrg
          refine WR.loadRow (by rfl) (by exact hrq) (by rfl) (by rfl) ?_; refine WR.nil ?_; exact Ends.one hKq rfl rfl (Below.refl _ _)
        · have hB14q := hB14.below hbq; have hB11q := hB11.below hbq; have hB6q := hB6.below hbq; have hcq := cel_bl hbq hci; have hrq := rng_bl hbq hrg
          refine WR.alloc (by rfl) fun wy hby hxy hsy => ?_; refine WR.nil ?_; exact Ends.one hKq rfl ⟨_, rfl, hbq.size, hxy⟩ hby 
      intro wq hbq
      rintro _ rfl _ rfl _ rfl _ rfl _ rfl _ rfl _ rfl _ rfl v8 h8
      refine WR.id ?_
      have hB14q := hB14.below hbq; have hB11q := hB11.below hbq; have hB6q := hB6.below hbq; have hcq := cel_bl hbq hci; have hrq := rng_bl hbq hrg
      obtain ⟨g17, rfl, hg17, hx17⟩ := h8
      replace M := M.new hbq (a := aBox g17 [.int .i64 0, .int .i64 0, .int .i64 0, .slice none 0 0]) (F := fun x => x = g17) ⟨fun _ => Iff.rfl, hx17⟩ (fun x hx => by rw [hx]; exact hg17)
      clear hx17 hB14 hB16 hB11 hB6 hcq hrq hB14q hB11q hB6q hrg
      refine WR.storeAgg (cs' := f.cells (.slice Ab f.bytes.length q2)) M.box (by rfl) (by rfl) (by rfl) (by rfl) (PF.one _ _ rfl) fun w6 hu6 hx6 hs6 => ?_
      replace M := M.setBox hu6 hx6
      clear hx6
      have hB17 := M.box
      have hB14 := M.third.box
      have hB16 := M.fourth.box
      refine WR.nil ?_
      refine Ends.seqI (by assumption) ?_
      obtain ⟨Fv, hbv⟩ := by_bs M.fifth
      have hbs3 : Bs w6 (fun x => Fb x ∧ x < wb.heap.size) (.slice Ab f.bytes.length q2) f.bytes := hu6.sl (Sl.below (Sl.imp hbs2 (fun b hb hF => ⟨hF, hb⟩) (by decide)) (by decide) hbq) (by decide) (fun x hx hn => by omega)
      (repeat (first | (refine WRI.id ?_; first | refine WRI.nil ?_ | refine WRI.s ?_ | refine WRI.g ?_) | (refine WI.id ?_; first | refine WI.seq fun _ _ => ?_ | refine WI.region ?_ | refine WI.s ?_ | refine WI.e ?_) | (refine Ends.id ?_; first | refine Ends.seqI (by assumption) ?_ | refine Ends.s ?_)))
      refine WRI.call rfl rfl (beq_any _ _ _ _ _ _ _ hbv hbs3) ?_
      rintro _ _ ⟨rfl, rfl⟩
      refine ⟨_, rfl, ?_⟩
      rw [beq_self_eq_true]
      (repeat (first | (refine WRI.id ?_; first | refine WRI.nil ?_ | refine WRI.s ?_ | refine WRI.g ?_) | (refine WI.id ?_; first | refine WI.seq fun _ _ => ?_ | refine WI.region ?_ | refine WI.s ?_ | refine WI.e ?_) | (refine Ends.id ?_; first | refine Ends.seqI (by assumption) ?_ | refine Ends.s ?_)))
      replace M := M.drop.fourth
      clear hB14 hB16 hB17 hbv hbs3 hFz hz2 hbs2 hFo hci
      refine WI.loop (X := Nat × List UInt8) (fun x => [(6, .pointer (some ⟨b6, 0, none⟩)), (10, .pointer (some ⟨br, 0, none⟩)), (11, .pointer (some ⟨b11, 0, none⟩)), (12, .func (.func 40) #[] #[.pointer (some ⟨b7, 0, none⟩)]), (13, .pointer (some ⟨b13, 0, none⟩)), (14, .pointer (some ⟨b14, 0, none⟩)), (15, .int .i64 (pre.length : Nat)), (16, .pointer (some ⟨y, 0, none⟩)), (102, .int .i64 (f.bytes.length : Nat)), (103, .int .i64 (x.1 : Nat))])
        (fun x wl => x.1 ≤ f.bytes.length ∧ x.2.length = f.bytes.length ∧ Mem wl (aBy (.slice Av f.bytes.length cv) x.2 :: X :: aBox b14 [.int .i64 (pre.length : Nat)] :: aBox y (f.cells (.slice Av f.bytes.length cv)) :: aSrc b7 vq (l.m p) vs :: aBox b13 [.int .i64 (r : Nat)] :: aLk b l :: aBox br [.bool false] :: (aMarks ms ++ Os)) (aBox b11 [.slice (some ⟨go, 0, none⟩) (RF.of fs p).length co] :: aLr 3 1 (.slice (some ⟨go, 0, none⟩) (RF.of fs p).length co) (RF.of fs p).length (natv (RF.of fs p)) :: aBox b6 [.slice (some ⟨g2, 0, none⟩) fs.length c0] :: Zs)) (fun x => f.bytes.length - x.1)
        (0, f.bytes) (by repeat (first | exact .nil | refine .cons rfl ?_)) ⟨Nat.zero_le _, rfl, M⟩ ?_
      clear M
      rintro ⟨j, bs⟩ wl ⟨hj, hbsl, M⟩ K2 hK2
      dsimp only at hj hbsl M
      dsimp only
      have hB16 := M.fourth.box
      have hB14 := M.third.box
      (repeat (first | (refine WRI.id ?_; first | refine WRI.nil ?_ | refine WRI.s ?_ | refine WRI.g ?_) | (refine WI.id ?_; first | refine WI.seq fun _ _ => ?_ | refine WI.region ?_ | refine WI.s ?_ | refine WI.e ?_) | (refine Ends.id ?_; first | refine Ends.seqI (by assumption) ?_ | refine Ends.s ?_)))
      refine WI.condP (by rfl) (fun hlt3 => ?_) (fun hlt3 => ?_)
      · obtain ⟨x, hx⟩ : ∃ x, bs[j]? = some x := ⟨_, List.getElem?_eq_getElem (by omega)⟩
        obtain ⟨g5, rfl⟩ : ∃ g, Av = some ⟨g, 0, none⟩ := by rw [← hbsl] at M; obtain ⟨g, c, h⟩ := by_load M (by omega); cases h; exact ⟨g, rfl⟩
        have hby := by_cell M hx
        (repeat (first | (refine WRI.id ?_; first | refine WRI.nil ?_ | refine WRI.s ?_ | refine WRI.g ?_) | (refine WI.id ?_; first | refine WI.seq fun _ _ => ?_ | refine WI.region ?_ | refine WI.s ?_ | refine WI.e ?_) | (refine Ends.id ?_; first | refine Ends.seqI (by assumption) ?_ | refine Ends.s ?_)))
        refine WRI.indexAddr (j := j) (by rfl) (by rfl) (by rfl) (by omega) ?_
        refine WRI.load (by rfl) hby (by rfl) ?_
        refine WRI.bin (by rfl) (by rfl) (by rfl) guard_int (xor_run238 x) ?_
        refine WRI.indexAddr (j := j) (by rfl) (by rfl) (by rfl) (by omega) ?_
        rw [show 0 + j * 1 = j from by omega]
        rw [show aBy (.slice (some ⟨g5, 0, none⟩) f.bytes.length cv) bs = aRow 5 1 (.slice (some ⟨g5, 0, none⟩) f.bytes.length cv) f.bytes.length (bvs bs) from by unfold aBy; rw [hbsl]] at M
        refine WRI.storeRow M (by rfl) (by rfl) rfl rfl (by rw [bvs_len]; omega) fun w9 M9 => ?_
        rw [set_by hbsl.symm] at M9
        clear hB16 hB14
        (repeat (first | (refine WRI.id ?_; first | refine WRI.nil ?_ | refine WRI.s ?_ | refine WRI.g ?_) | (refine WI.id ?_; first | refine WI.seq fun _ _ => ?_ | refine WI.region ?_ | refine WI.s ?_ | refine WI.e ?_) | (refine Ends.id ?_; first | refine Ends.seqI (by assumption) ?_ | refine Ends.s ?_)))
        exact Ends.round hK2 (j + 1, bs.set j (x ^^^ 238)) (by repeat (first | exact .nil | refine .cons rfl ?_)) ⟨by dsimp only; omega, by dsimp only; rw [List.length_set]; exact hbsl, M9⟩ (by dsimp only; omega)
      (repeat (first | (refine WRI.id ?_; first | refine WRI.nil ?_ | refine WRI.s ?_ | refine WRI.g ?_) | (refine WI.id ?_; first | refine WI.seq fun _ _ => ?_ | refine WI.region ?_ | refine WI.s ?_ | refine WI.e ?_) | (refine Ends.id ?_; first | refine Ends.seqI (by assumption) ?_ | refine Ends.s ?_)))
      refine WRI.storeBox M.third.box (by rfl) (by rfl) rfl rfl (by simp) fun w9 hu9 hx9 hs9 => ?_
      replace M := M.third.setBox hu9 hx9
      clear hB14 hB16
      have hB14 := M.box
      have hB13 := M.sixth.box
      by_cases hr1 : r = 1
      · by_cases hp2 : pre.length + 1 = 2
        · (repeat (first | (refine WRI.id ?_; first | refine WRI.nil ?_ | refine WRI.s ?_ | refine WRI.g ?_) | (refine WI.id ?_; first | refine WI.seq fun _ _ => ?_ | refine WI.region ?_ | refine WI.s ?_ | refine WI.e ?_) | (refine Ends.id ?_; first | refine Ends.seqI (by assumption) ?_ | refine Ends.s ?_)))
          refine Ends.stopsExit () ⟨rfl, hr1⟩ ?_
          rw [List.length_append, List.length_singleton]
          exact M.third.under1 fun M => M.under1 fun M => M.drop.drop
        · (repeat (first | (refine WRI.id ?_; first | refine WRI.nil ?_ | refine WRI.s ?_ | refine WRI.g ?_) | (refine WI.id ?_; first | refine WI.seq fun _ _ => ?_ | refine WI.region ?_ | refine WI.s ?_ | refine WI.e ?_) | (refine Ends.id ?_; first | refine Ends.seqI (by assumption) ?_ | refine Ends.s ?_)))
          refine Ends.goesOn () trivial ?_
          rw [List.length_append, List.length_singleton]
          exact M.third.under1 fun M => M.under1 fun M => M.drop.drop
      · (repeat (first | (refine WRI.id ?_; first | refine WRI.nil ?_ | refine WRI.s ?_ | refine WRI.g ?_) | (refine WI.id ?_; first | refine WI.seq fun _ _ => ?_ | refine WI.region ?_ | refine WI.s ?_ | refine WI.e ?_) | (refine Ends.id ?_; first | refine Ends.seqI (by assumption) ?_ | refine Ends.s ?_)))
        refine Ends.goesOn () trivial ?_
        rw [List.length_append, List.length_singleton]
        exact M.third.under1 fun M => M.under1 fun M => M.drop.drop
    · rintro xs _ wd d ⟨hG, hxl⟩ _ M
      have hB14 := M.swap.box
      have hB13 := M.fourth.box
      have hB11 := M.zbox 0 rfl
      have hxw : xs.length = (RF.of fs p).length := by omega
      by_cases hr0 : r = 0
      · subst hr0
        (repeat (first | (refine WR.id ?_; first | refine WR.nil ?_ | refine WR.s ?_ | refine WR.g ?_) | (refine W.id ?_; first | refine W.seq fun _ _ => ?_ | refine W.region ?_ | refine W.s ?_ | refine W.e ?_) | (refine Ends.id ?_; first | refine Ends.seq (by assumption) ?_ | refine Ends.s ?_)))
        refine WR.alloc (by rfl) fun w5 hb5 hx5 hs5 => ?_
        replace M := (M.swap.drop.newBox (cs := [.int .i64 0]) hb5 hx5)
        refine WR.storeBox M.box (by rfl) (by rfl) rfl rfl (by simp) fun w6 hu6 hx6 hs6 => ?_
        replace M := (M.setBox hu6 hx6).fourth.drop
        clear hB11 hB13 hB14 hx5 hx6
        have hB13 := M.box
        (repeat (first | (refine WR.id ?_; first | refine WR.nil ?_ | refine WR.s ?_ | refine WR.g ?_) | (refine W.id ?_; first | refine W.seq fun _ _ => ?_ | refine W.region ?_ | refine W.s ?_ | refine W.e ?_) | (refine Ends.id ?_; first | refine Ends.seq (by assumption) ?_ | refine Ends.s ?_)))
        refine WR.storeBox M.box (by rfl) (by rfl) rfl rfl (by simp) fun w7 hu7 hx7 hs7 => ?_
        replace M := M.setBox hu7 hx7
        (repeat (first | (refine WR.id ?_; first | refine WR.nil ?_ | refine WR.s ?_ | refine WR.g ?_) | (refine W.id ?_; first | refine W.seq fun _ _ => ?_ | refine W.region ?_ | refine W.s ?_ | refine W.e ?_) | (refine Ends.id ?_; first | refine Ends.seq (by assumption) ?_ | refine Ends.s ?_)))
        exact Ends.roundD hK (0 + 1, _, d :: ms) rfl (by repeat (first | exact .nil | refine .cons rfl ?_)) ⟨by dsimp only; omega, M.under1 fun M => mem_marks M⟩ (by dsimp only; omega)
      obtain rfl : r = 1 := by omega
      (repeat (first | (refine WR.id ?_; first | refine WR.nil ?_ | refine WR.s ?_ | refine WR.g ?_) | (refine W.id ?_; first | refine W.seq fun _ _ => ?_ | refine W.region ?_ | refine W.s ?_ | refine W.e ?_) | (refine Ends.id ?_; first | refine Ends.seq (by assumption) ?_ | refine Ends.s ?_)))
      refine WR.alloc (by rfl) fun w5 hb5 hx5 hs5 => ?_
      replace M := (M.swap.drop.newBox (cs := [.int .i64 0]) hb5 hx5)
      refine WR.storeBox M.box (by rfl) (by rfl) rfl rfl (by simp) fun w6 hu6 hx6 hs6 => ?_
      replace M := (M.setBox hu6 hx6).fourth.drop
      clear hB11 hB13 hB14 hx5 hx6
      have hB13 := M.box
      (repeat (first | (refine WR.id ?_; first | refine WR.nil ?_ | refine WR.s ?_ | refine WR.g ?_) | (refine W.id ?_; first | refine W.seq fun _ _ => ?_ | refine W.region ?_ | refine W.s ?_ | refine W.e ?_) | (refine Ends.id ?_; first | refine Ends.seq (by assumption) ?_ | refine Ends.s ?_)))
      refine WR.storeBox M.box (by rfl) (by rfl) rfl rfl (by simp) fun w7 hu7 hx7 hs7 => ?_
      replace M := M.setBox hu7 hx7
      (repeat (first | (refine WR.id ?_; first | refine WR.nil ?_ | refine WR.s ?_ | refine WR.g ?_) | (refine W.id ?_; first | refine W.seq fun _ _ => ?_ | refine W.region ?_ | refine W.s ?_ | refine W.e ?_) | (refine Ends.id ?_; first | refine Ends.seq (by assumption) ?_ | refine Ends.s ?_)))
      exact Ends.roundD hK (1 + 1, _, d :: ms) rfl (by repeat (first | exact .nil | refine .cons rfl ?_)) ⟨by dsimp only; omega, M.under1 fun M => mem_marks M⟩ (by dsimp only; omega)
    · rintro code pre _ wd d hG ⟨rfl, hr1⟩ M
      subst hr1
      have hB14 := M.swap.box
      have hB13 := M.fourth.box
      have hB11 := M.zbox 0 rfl
      (repeat (first | (refine WR.id ?_; first | refine WR.nil ?_ | refine WR.s ?_ | refine WR.g ?_) | (refine W.id ?_; first | refine W.seq fun _ _ => ?_ | refine W.region ?_ | refine W.s ?_ | refine W.e ?_) | (refine Ends.id ?_; first | refine Ends.seq (by assumption) ?_ | refine Ends.s ?_)))
      refine WR.alloc (by rfl) fun w5 hb5 hx5 hs5 => ?_
      replace M := (M.swap.drop.newBox (cs := [.int .i64 0]) hb5 hx5)
      refine WR.storeBox M.box (by rfl) (by rfl) rfl rfl (by simp) fun w6 hu6 hx6 hs6 => ?_
      replace M := (M.setBox hu6 hx6).fourth.drop
      clear hB11 hB13 hB14 hx5 hx6
      have hB13 := M.box
      (repeat (first | (refine WR.id ?_; first | refine WR.nil ?_ | refine WR.s ?_ | refine WR.g ?_) | (refine W.id ?_; first | refine W.seq fun _ _ => ?_ | refine W.region ?_ | refine W.s ?_ | refine W.e ?_) | (refine Ends.id ?_; first | refine Ends.seq (by assumption) ?_ | refine Ends.s ?_)))
      refine WR.storeBox M.box (by rfl) (by rfl) rfl rfl (by simp) fun w7 hu7 hx7 hs7 => ?_
      replace M := M.setBox hu7 hx7
      (repeat (first | (refine WR.id ?_; first | refine WR.nil ?_ | refine WR.s ?_ | refine WR.g ?_) | (refine W.id ?_; first | refine W.seq fun _ _ => ?_ | refine W.region ?_ | refine W.s ?_ | refine W.e ?_) | (refine Ends.id ?_; first | refine Ends.seq (by assumption) ?_ | refine Ends.s ?_)))
      exact Ends.roundD hK (1 + 1, _, d :: ms) rfl (by repeat (first | exact .nil | refine .cons rfl ?_)) ⟨by dsimp only; omega, M.under1 fun M => mem_marks M⟩ (by dsimp only; omega)

end Go.Proofs.Ytibmcpbkialbnaa
