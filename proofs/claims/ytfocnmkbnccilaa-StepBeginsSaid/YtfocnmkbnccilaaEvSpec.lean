/-
  PLAIN: instructions, states, and what a condition is in a state. No program.
-/
import Derived.WalkKit
import Derived.WalkLawsBesides
set_option linter.unusedVariables false
set_option linter.unusedSimpArgs false
namespace Go.Proofs.Ytfocnmkbnccilaa
open Go.RowKit

theorem and_one_i64 (x : Int) : bits .and .i64 x 1 = x % 2 := by
  show IntKind.i64.wrap ((BitVec.ofInt 64 x &&& BitVec.ofInt 64 1).toNat : Int) = _
  have h : (BitVec.ofInt 64 x &&& BitVec.ofInt 64 1).toNat = (x % 2).toNat := by
    rw [BitVec.toNat_and, show (BitVec.ofInt 64 1).toNat = 1 from rfl, Nat.and_one_is_mod, BitVec.toNat_ofInt]
    omega
  rw [h]
  have : IntKind.i64.wrap (((x % 2).toNat : Nat) : Int) = ((x % 2).toNat : Int) := by
    simp [IntKind.wrap, IntKind.bits, IntKind.signed]
    omega
  rw [this]
  omega

structure Inst where
  op : Int
  la : Int
  ln : Int
  ra : Int
  rn : Int
  n : Int
  u : Int
structure St where
  vals : List Int
  opn : Int
  don : Int
  did : List Int
  cnt : List Int

def hasB (s i : Int) : Bool := decide (0 ≤ i) && decide (i < 31) && (s / 2 ^ i.toNat % 2 == 1)
def soB (op c : Int) : Bool :=
  if op = 3 then decide (c < 0) else if op = 4 then decide (c ≤ 0) else if op = 5 then decide (0 < c) else if op = 6 then decide (0 ≤ c) else if op = 7 then c == 0 else if op = 8 then c != 0 else false
def cmpI (a b : Int) : Int := if a < b then -1 else if b < a then 1 else 0
theorem cmpI_bd (a b : Int) : -1 ≤ cmpI a b ∧ cmpI a b ≤ 1 := by unfold cmpI; split <;> (try split) <;> omega
def valO (vals : List Int) (a n : Int) : Option Int := if a = -1 then some n else if a < 0 then none else vals[a.toNat]?
def arity (op : Int) : Int :=
  if 1 ≤ op ∧ op ≤ 14 then 0 else if op = 15 ∨ (19 ≤ op ∧ op ≤ 24) then 1 else if (16 ≤ op ∧ op ≤ 18) ∨ op = 25 ∨ op = 26 then 2 else -1
/-- how many formulas stand in the row behind one more sign -/
def pushN (d : Nat) (op : Int) : Option Nat :=
  if arity op = 0 then some (d + 1) else if arity op = 1 ∧ 1 ≤ d then some d else if arity op = 2 ∧ 2 ≤ d then some (d - 1) else none
def rowN : List Int → Nat → Option Nat
  | [], d => some d
  | op :: l, d => match pushN d op with
    | some d' => rowN l d'
    | none => none
/-- why a list of signs may be no formula -/
def checkE (l : List Int) : Int := if l.length = 0 then 12 else if 64 < l.length then 3 else if rowN l 0 = some 1 then 0 else 17
/-- one instruction, on a row of truths (the last one first); cm: what a comparison's two sides are to one another -/
def stepG (cm : Inst → Option Int) (opn don : Int) (x : Inst) (r : List Bool) : Option (List Bool) :=
  if x.op = 1 ∨ x.op = 2 then some ((x.op == 1) :: r)
  else if 3 ≤ x.op ∧ x.op ≤ 8 then
    match cm x with
    | some c => some (soB x.op c :: r)
    | none => none
  else if x.op = 9 then some (hasB opn x.n :: r)
  else if x.op = 10 then some (hasB don x.n :: r)
  else if x.op = 15 then
    match r with
    | a :: r => some ((!a) :: r)
    | [] => none
  else if 16 ≤ x.op ∧ x.op ≤ 18 then
    match r with
    | b :: a :: r => some ((if x.op = 16 then a && b else if x.op = 17 then a || b else !a || b) :: r)
    | _ => none
  else none
def runG (cm : Inst → Option Int) (opn don : Int) : List Inst → List Bool → Option (List Bool)
  | [], r => some r
  | x :: l, r => match stepG cm opn don x r with
    | some r' => runG cm opn don l r'
    | none => none
/-- what a condition is: its truth, or that it is none -/
def holdsG (cm : Inst → Option Int) (opn don : Int) (l : List Inst) : Option Bool :=
  if checkE (l.map Inst.op) ≠ 0 then none else
    match runG cm opn don l [] with
    | some (b :: _) => some b
    | _ => none
def cmS (vals : List Int) (x : Inst) : Option Int := match valO vals x.la x.ln, valO vals x.ra x.rn with
  | some a, some b => some (cmpI a b)
  | _, _ => none
def holdsO (l : List Inst) (s : St) : Option Bool := holdsG (cmS s.vals) s.opn s.don l
def optB (o : Option Bool) : Bool := o.getD false
def optE (o : Option Bool) : Int := if o.isSome then 0 else 17
end Go.Proofs.Ytfocnmkbnccilaa
