/- Layer 27: facts, and which may come behind which: plain definitions. No condition. -/
import Derived.Test.YtfdijgdojejimaaK
namespace Go.Proofs.Ytfdijgdojejimaa
open Go.RowKit K
set_option linter.unusedVariables false

structure Fact where
  kind : Int
  node : Int
  frm : Int
  number : Nat
  name : List UInt8
  code : Int
  bytes : List UInt8

instance : Inhabited Fact := ⟨⟨0, 0, 0, 0, [], 0, []⟩⟩

namespace Fact
def cells (x : Fact) (vb : Value) : List Value := [.int .i64 x.kind, .int .i64 x.node, .int .i64 x.frm, .int .u32 (x.number : Nat), .string ⟨x.name.toArray⟩, .int .i64 x.code, vb]
def back (f x : Fact) : Bool := x.node == f.frm && x.frm == f.node
def forth (f x : Fact) : Bool := x.node == f.node && x.frm == f.frm
def like (f x : Fact) : Bool := x.name == f.name && x.bytes == f.bytes
def fits (f x : Fact) : Bool := decide (x.number = 0) || decide (x.number = f.number)
def num (f x : Fact) : Bool := (x.number : Int) == (f.number : Int)
def same (f x : Fact) : Bool := f.forth x && x.name == f.name
end Fact

/-- Is there one of a kind of which p holds? -/
def hv (l : List Fact) (k : Int) (p : Fact → Bool) : Bool := l.any fun x => decide (x.kind = k) && p x
/-- The greatest number of a kind of which p holds. -/
def great (l : List Fact) (k : Int) (p : Fact → Bool) : Nat := l.foldl (fun n x => if (decide (x.kind = k) && p x) = true then max n x.number else n) 0

theorem hv_snoc (l : List Fact) (x : Fact) (k : Int) (p : Fact → Bool) : hv (l ++ [x]) k p = (hv l k p || (decide (x.kind = k) && p x)) := by simp [hv]
theorem great_snoc (l : List Fact) (x : Fact) (k : Int) (p : Fact → Bool) : great (l ++ [x]) k p = if (decide (x.kind = k) && p x) = true then max (great l k p) x.number else great l k p := by simp [great]
theorem hv_filter (l : List Fact) (k : Int) (p : Fact → Bool) : (l.filter fun x => decide (x.kind = k)).any p = hv l k p := by simp [hv, List.any_filter]
theorem great_filter (l : List Fact) (k : Int) (p : Fact → Bool) : (l.filter fun x => decide (x.kind = k)).foldl (fun n x => if p x = true then max n x.number else n) 0 = great l k p := by
  unfold great
  generalize 0 = z
  induction l generalizing z with
  | nil => rfl
  | cons x l ih =>
    by_cases h : x.kind = k
    · simp [h, ih]
    · simp [h, ih]
theorem great_lt (l : List Fact) (k : Int) (p : Fact → Bool) (h : ∀ x ∈ l, x.number < 4294967296) : great l k p < 4294967296 := by
  unfold great
  have : ∀ (z : Nat), z < 4294967296 → (l.foldl (fun n x => if (decide (x.kind = k) && p x) = true then max n x.number else n) z) < 4294967296 := by
    induction l with
    | nil => intro z hz; exact hz
    | cons x l ih =>
      intro z hz
      rw [List.foldl_cons]
      refine ih (fun y hy => h y (by simp [hy])) _ ?_
      split
      · have := h x (by simp); omega
      · exact hz
  exact this 0 (by decide)

def crashed (l : List Fact) (n : Int) : Bool := hv l 5 fun x => x.node == n

/-- May a fact come behind others? -/
def may (l : List Fact) (f : Fact) : Bool :=
  if f.kind = 1 then decide (f.number = 0) || decide (great l 1 (fun x => x.node == f.node) < f.number)
  else if f.kind = 2 then decide (f.number = 0) || decide (great l 2 (fun x => x.node == f.node && x.name == f.name) < f.number)
  else if f.kind = 3 then true
  else if f.kind = 4 then decide (f.number = 0) || decide (great l 4 f.forth < f.number)
  else if f.kind = 5 then true
  else if f.kind = 6 then hv l 1 (fun x => f.back x && f.like x && f.fits x) && !hv l 6 (fun x => f.forth x && f.num x)
  else if f.kind = 7 then hv l 1 (fun x => f.forth x && f.fits x) && !hv l 7 (fun x => x.node == f.node && f.num x) && (decide (f.code ≠ 0) || (crashed l f.frm || hv l 6 (fun x => f.back x && f.num x)))
  else if f.kind = 8 then decide (0 < f.number) && hv l 2 (fun x => x.node == f.frm && f.like x && f.fits x) && hv l 3 f.same && !hv l 8 (fun x => f.same x && decide ((f.number : Int) ≤ x.number))
  else if f.kind = 9 then decide (great l 9 f.forth < f.number) && (decide (f.number - great l 9 f.forth = 1) || crashed l f.node) && hv l 4 (fun x => f.back x && f.fits x)
  else if f.kind = 10 then hv l 4 (fun x => f.forth x && f.fits x) && !hv l 10 (fun x => f.forth x && f.num x) && (crashed l f.frm || hv l 9 (fun x => f.back x && f.num x && x.code == f.code))
  else false

/-- The place of the first fact that can't be. -/
def judge (l : List Fact) : Nat := ((List.range l.length).find? fun i => !may (l.take i) (l[i]?.getD default)).getD l.length

end Go.Proofs.Ytfdijgdojejimaa
