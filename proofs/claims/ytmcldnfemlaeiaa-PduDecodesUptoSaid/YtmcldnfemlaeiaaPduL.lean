/- Layer 11's plain laws: messages, which may be, their bytes. No program in sight. No condition. -/
import Derived.Test.YtmcldnfemlaeiaaL
namespace Go.Proofs.Ytmcldnfemlaeiaa
open L
set_option linter.unusedVariables false

/-- A message. -/
structure Msg where
  kind : Int
  number : Nat
  name : List UInt8
  size : Int
  off : Int
  sum : Nat
  code : Int
  bytes : List UInt8

/-- Which fields count, as bits: name 1, size 2, offset 4, sum 8, code 16, bytes 32. -/
def fbits (k : Int) : Int := if k = 1 then 3 else if k = 2 then 36 else if k = 3 then 10 else if k = 4 then 16 else if k = 5 then 33 else if k = 6 then 1 else if k = 7 then 32 else if k = 8 then 48 else 0
def fldN (k : Int) : Bool := k == 1 || k == 5 || k == 6
def fldS (k : Int) : Bool := k == 1 || k == 3
def fldO (k : Int) : Bool := k == 2
def fldU (k : Int) : Bool := k == 3
def fldC (k : Int) : Bool := k == 4 || k == 8
def fldB (k : Int) : Bool := k == 2 || k == 5 || k == 7 || k == 8

/-- May a message be? -/
def Msg.ok (m : Msg) : Prop :=
  (1 ≤ m.kind ∧ m.kind ≤ 8) ∧ 0 < m.number ∧ (fldN m.kind = true → 1 ≤ m.name.length ∧ m.name.length ≤ 24) ∧ (fldN m.kind = false → m.name.length = 0) ∧ (0 ≤ m.size ∧ m.size ≤ 4096) ∧ (fldS m.kind = false → m.size = 0) ∧
  (fldO m.kind = false → m.off = 0) ∧ (fldU m.kind = false → m.sum = 0) ∧ (0 ≤ m.code ∧ m.code ≤ 255) ∧ (fldC m.kind = false → m.code = 0) ∧ m.bytes.length ≤ 256 ∧ (fldB m.kind = false → m.bytes.length = 0) ∧
  (m.kind = 2 → 1 ≤ m.bytes.length ∧ 0 ≤ m.off ∧ m.off ≤ 4096 - m.bytes.length)
instance (m : Msg) : Decidable m.ok := by unfold Msg.ok; infer_instance

/-- What Check says. -/
def okErr (m : Msg) : Int := if m.ok then 0 else 210

/-- The bytes of a message. -/
def Msg.enc (m : Msg) : List UInt8 :=
  [UInt8.ofNat m.kind.toNat] ++ be m.number 4 ++ (if fldN m.kind then [UInt8.ofNat m.name.length] ++ m.name else []) ++ (if fldS m.kind then be m.size.toNat 2 else []) ++ (if fldO m.kind then be m.off.toNat 2 else []) ++
  (if fldU m.kind then be m.sum 4 else []) ++ (if fldC m.kind then [UInt8.ofNat m.code.toNat] else []) ++ (if fldB m.kind then be m.bytes.length 2 ++ m.bytes else [])

end Go.Proofs.Ytmcldnfemlaeiaa
