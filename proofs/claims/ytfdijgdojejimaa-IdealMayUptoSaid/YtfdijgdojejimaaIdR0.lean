/- Layer 27: heliographref27.May: what a round does, plainly; frames and cuts. No condition beyond sizes. (Printed by genrmay.py.) -/
import Derived.Test.YtfdijgdojejimaaIdR
import Derived.Test.YtfdijgdojejimaaId7
import Derived.Deep.Cut
import Derived.Deep.CutRange
import Derived.Deep.LoopGhost
namespace Go.Proofs.Ytfdijgdojejimaa
open Go.RowKit Go.Shelf K L
set_option linter.unusedVariables false
set_option linter.unusedSimpArgs false

theorem cut_world {wr : World} {N : Nat} {f : Fact} {vf : Value} (h : FB wr N f vf) (x : Fact) (vb : Value) :
    Below wr.heap.size wr (wr.alloc (.cells (x.cells vb).toArray 26)) ∧ FB (wr.alloc (.cells (x.cells vb).toArray 26)) wr.heap.size x vb ∧ FB (wr.alloc (.cells (x.cells vb).toArray 26)) N f vf :=
  ⟨(Below.refl _ _).alloc (Nat.le_refl _) _, heap_new _ _, heap_al h _⟩

/-- A frame of 460 slots, written out. -/
theorem frame_all (a : Act) (hd : a.defers = []) (hs : a.tmps.size = 460) : a = { tmps := ((List.range 460).map fun n => a.tmps[n]?.getD undef).toArray, defers := [] } := by
  obtain ⟨t, d⟩ := a
  dsimp only at hd hs ⊢
  subst hd
  congr 1
  apply Array.ext
  · simp [hs]
  · intro i h1 h2
    simp [h1]
theorem frame_lit (g : Nat → Value) : (List.range 460).map g = [g 0, g 1, g 2, g 3, g 4, g 5, g 6, g 7, g 8, g 9, g 10, g 11, g 12, g 13, g 14, g 15, g 16, g 17, g 18, g 19, g 20, g 21, g 22, g 23, g 24, g 25, g 26, g 27, g 28, g 29, g 30, g 31, g 32, g 33, g 34, g 35, g 36, g 37, g 38, g 39, g 40, g 41, g 42, g 43, g 44, g 45, g 46, g 47, g 48, g 49, g 50, g 51, g 52, g 53, g 54, g 55, g 56, g 57, g 58, g 59, g 60, g 61, g 62, g 63, g 64, g 65, g 66, g 67, g 68, g 69, g 70, g 71, g 72, g 73, g 74, g 75, g 76, g 77, g 78, g 79, g 80, g 81, g 82, g 83, g 84, g 85, g 86, g 87, g 88, g 89, g 90, g 91, g 92, g 93, g 94, g 95, g 96, g 97, g 98, g 99, g 100, g 101, g 102, g 103, g 104, g 105, g 106, g 107, g 108, g 109, g 110, g 111, g 112, g 113, g 114, g 115, g 116, g 117, g 118, g 119, g 120, g 121, g 122, g 123, g 124, g 125, g 126, g 127, g 128, g 129, g 130, g 131, g 132, g 133, g 134, g 135, g 136, g 137, g 138, g 139, g 140, g 141, g 142, g 143, g 144, g 145, g 146, g 147, g 148, g 149, g 150, g 151, g 152, g 153, g 154, g 155, g 156, g 157, g 158, g 159, g 160, g 161, g 162, g 163, g 164, g 165, g 166, g 167, g 168, g 169, g 170, g 171, g 172, g 173, g 174, g 175, g 176, g 177, g 178, g 179, g 180, g 181, g 182, g 183, g 184, g 185, g 186, g 187, g 188, g 189, g 190, g 191, g 192, g 193, g 194, g 195, g 196, g 197, g 198, g 199, g 200, g 201, g 202, g 203, g 204, g 205, g 206, g 207, g 208, g 209, g 210, g 211, g 212, g 213, g 214, g 215, g 216, g 217, g 218, g 219, g 220, g 221, g 222, g 223, g 224, g 225, g 226, g 227, g 228, g 229, g 230, g 231, g 232, g 233, g 234, g 235, g 236, g 237, g 238, g 239, g 240, g 241, g 242, g 243, g 244, g 245, g 246, g 247, g 248, g 249, g 250, g 251, g 252, g 253, g 254, g 255, g 256, g 257, g 258, g 259, g 260, g 261, g 262, g 263, g 264, g 265, g 266, g 267, g 268, g 269, g 270, g 271, g 272, g 273, g 274, g 275, g 276, g 277, g 278, g 279, g 280, g 281, g 282, g 283, g 284, g 285, g 286, g 287, g 288, g 289, g 290, g 291, g 292, g 293, g 294, g 295, g 296, g 297, g 298, g 299, g 300, g 301, g 302, g 303, g 304, g 305, g 306, g 307, g 308, g 309, g 310, g 311, g 312, g 313, g 314, g 315, g 316, g 317, g 318, g 319, g 320, g 321, g 322, g 323, g 324, g 325, g 326, g 327, g 328, g 329, g 330, g 331, g 332, g 333, g 334, g 335, g 336, g 337, g 338, g 339, g 340, g 341, g 342, g 343, g 344, g 345, g 346, g 347, g 348, g 349, g 350, g 351, g 352, g 353, g 354, g 355, g 356, g 357, g 358, g 359, g 360, g 361, g 362, g 363, g 364, g 365, g 366, g 367, g 368, g 369, g 370, g 371, g 372, g 373, g 374, g 375, g 376, g 377, g 378, g 379, g 380, g 381, g 382, g 383, g 384, g 385, g 386, g 387, g 388, g 389, g 390, g 391, g 392, g 393, g 394, g 395, g 396, g 397, g 398, g 399, g 400, g 401, g 402, g 403, g 404, g 405, g 406, g 407, g 408, g 409, g 410, g 411, g 412, g 413, g 414, g 415, g 416, g 417, g 418, g 419, g 420, g 421, g 422, g 423, g 424, g 425, g 426, g 427, g 428, g 429, g 430, g 431, g 432, g 433, g 434, g 435, g 436, g 437, g 438, g 439, g 440, g 441, g 442, g 443, g 444, g 445, g 446, g 447, g 448, g 449, g 450, g 451, g 452, g 453, g 454, g 455, g 456, g 457, g 458, g 459] := by kernel_rfl

theorem cut3 {P : Program} {r1 r2 r3 R : Code} {Q : Exit → Act → World → Prop} {K : Act → World → Prop} {a : Act} {w : World} (hK : ∀ a w, (r2.seq (r3.seq R)).wp P Q a w → K a w) (Rel : Act → World → Prop)
    (h1 : ∀ K2 K3 K4 : Act → World → Prop, (∀ a w, r2.wp P (Exit.then K3 Q) a w → K2 a w) → (∀ a w, r3.wp P (Exit.then K4 Q) a w → K3 a w) → Hid (∀ a w, Rel a w → K4 a w) → r1.wp P (Exit.then K2 Q) a w)
    (h2 : ∀ a w, Rel a w → R.wp P Q a w) : r1.wp P (Exit.then K Q) a w :=
  wp_mono (h1 (fun a w => (r2.seq (r3.seq R)).wp P Q a w) (fun a w => (r3.seq R).wp P Q a w) (fun a w => R.wp P Q a w) (fun _ _ h => wp_seq h) (fun _ _ h => wp_seq h) (Lib.hid h2)) (fun e a w h => by cases e <;> first | exact hK a w h | exact h)
theorem cutS {P : Program} {S R : Code} {Q : Exit → Act → World → Prop} {a : Act} {w : World} (Rel : Act → World → Prop)
    (h1 : ∀ K : Act → World → Prop, Hid (∀ a w, Rel a w → K a w) → S.wp P (Exit.then K Q) a w) (h2 : ∀ a w, Rel a w → R.wp P Q a w) : (S.seq R).wp P Q a w := wp_seq (h1 _ (Lib.hid h2))

def c16 (f x : Fact) : Bool := f.kind == 1 && x.node == f.node || f.kind == 2 && (x.node == f.node && x.name == f.name) || f.kind == 4 && f.forth x || f.kind == 9 && f.forth x || f.kind == 8 && (f.forth x && x.name == f.name)
def c21 (f x : Fact) : Bool := (f.kind == 6 || f.kind == 10) && (f.forth x && (x.number : Int) == (f.number : Int)) || f.kind == 7 && (x.node == f.node && (x.number : Int) == (f.number : Int))
def k23 (f x : Fact) : Bool := (f.kind == 6 && (x.kind == 1 && (f.back x && (f.like x && f.fits x))))
def k25 (f x : Fact) : Bool := (f.kind == 7 && (x.kind == 1 && (f.forth x && f.fits x)))
def k27 (f x : Fact) : Bool := (f.kind == 7 && (x.kind == 6 && (f.back x && ((x.number : Int) == (f.number : Int)))))
def k29 (f x : Fact) : Bool := (f.kind == 8 && (x.kind == 2 && ((x.node == f.frm) && (f.like x && f.fits x))))
def k31 (f x : Fact) : Bool := (f.kind == 8 && (x.kind == 3 && (f.forth x && (x.name == f.name))))
def k33 (f x : Fact) : Bool := (f.kind == 9 && (x.kind == 4 && (f.back x && f.fits x)))
def k35 (f x : Fact) : Bool := (f.kind == 10 && (x.kind == 4 && (f.forth x && f.fits x)))
def k37 (f x : Fact) : Bool := (f.kind == 10 && (x.kind == 9 && (f.back x && (((x.number : Int) == (f.number : Int)) && (x.code == f.code)))))
def stepG (f : Fact) (g : Bool) (x : Fact) : Bool := ((((g || k23 f x) || k25 f x) || k29 f x) || k33 f x) || k35 f x
def stepS (f : Fact) (s : Bool) (x : Fact) : Bool := ((s || k27 f x) || k31 f x) || k37 f x
def stepT (f : Fact) (t : Bool) (x : Fact) : Bool := if x.kind = f.kind then (t || (c16 f x && (f.kind == 8 && decide ((f.number : Int) ≤ x.number)))) || c21 f x else t
def stepL (f : Fact) (l : Nat) (x : Fact) : Nat := if x.kind = f.kind then (if c16 f x = true then max l x.number else l) else l
def gR (f : Fact) (l : List Fact) : Bool := l.foldl (stepG f) false
def sR (f : Fact) (l : List Fact) : Bool := l.foldl (stepS f) false
def tR (f : Fact) (l : List Fact) : Bool := l.foldl (stepT f) false
def lR (f : Fact) (l : List Fact) : Nat := l.foldl (stepL f) 0

def cL : Code → Code | .seq x _ => x | c => c
def cR : Code → Code | .seq _ y => y | c => c
def cB : Code → Code | .block _ x => x | .loop x => x | c => c
def RelM (n b o c N m q : Nat) (f x : Fact) (G T S : Bool) (L : Nat) (a : Act) : Prop :=
  a.defers = [] ∧ a.tmps.size = 460 ∧ a.tmps[0]? = some (.slice (some ⟨b, o, none⟩) n c) ∧ a.tmps[3]? = some (.pointer (some ⟨N, 0, none⟩)) ∧ a.tmps[9]? = some (.int .i64 m) ∧ a.tmps[5]? = some (.bool G) ∧ a.tmps[6]? = some (.bool T) ∧ a.tmps[7]? = some (.bool S) ∧ a.tmps[8]? = some (.int .u32 (L : Nat)) ∧ a.tmps[10]? = some (.pointer (some ⟨q, 0, none⟩)) ∧ a.tmps[11]? = some (.bool (f.forth x)) ∧ a.tmps[12]? = some (.bool (f.back x)) ∧ a.tmps[13]? = some (.bool (f.like x))
def RelA (n c N : Nat) (A : Option Addr) (G T S : Bool) (L : Nat) (a : Act) : Prop :=
  a.defers = [] ∧ a.tmps.size = 460 ∧ a.tmps[0]? = some (.slice A n c) ∧ a.tmps[3]? = some (.pointer (some ⟨N, 0, none⟩)) ∧ a.tmps[5]? = some (.bool G) ∧ a.tmps[6]? = some (.bool T) ∧ a.tmps[7]? = some (.bool S) ∧ a.tmps[8]? = some (.int .u32 (L : Nat))

end Go.Proofs.Ytfdijgdojejimaa
