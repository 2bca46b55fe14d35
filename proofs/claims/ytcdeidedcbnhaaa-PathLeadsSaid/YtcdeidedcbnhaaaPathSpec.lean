/-
  WAYS THROUGH A GRAPH, in plain Lean: where a way ends.
-/
import Derived.Test.YtcdeidedcbnhaaaLabelSpec
set_option linter.unusedVariables false
set_option linter.unusedSimpArgs false
namespace Go.Proofs.Ytcdeidedcbnhaaa

/-- one step of a way -/
def stepP (next : List (List Int)) (x : Nat) (k : Int) : Option Nat :=
  if 0 ≤ k ∧ k < ((next.getD x []).length : Int) then (if 0 ≤ (next.getD x []).getD k.toNat 0 ∧ (next.getD x []).getD k.toNat 0 < (next.length : Int) then some ((next.getD x []).getD k.toNat 0).toNat else none) else none
def goP (next : List (List Int)) : Nat → List Int → Option Nat
  | x, [] => some x
  | x, k :: way => match stepP next x k with
    | none => none
    | some y => goP next y way
def endsP (next : List (List Int)) (i : Int) (way : List Int) : Option Nat := if 0 ≤ i ∧ i < (next.length : Int) then goP next i.toNat way else none
theorem stepP_lt {next : List (List Int)} {x y : Nat} {k : Int} (h : stepP next x k = some y) : y < next.length := by
  unfold stepP at h
  split at h
  · split at h
    · rename_i h1 h2
      have h := Option.some.inj h
      omega
    · simp at h
  · simp at h
theorem goP_lt {next : List (List Int)} : ∀ {way : List Int} {x y : Nat}, x < next.length → goP next x way = some y → y < next.length
  | [], x, y, hx, h => by simp [goP] at h; omega
  | k :: way, x, y, hx, h => by
    rw [goP] at h
    cases e : stepP next x k with
    | none => rw [e] at h; simp at h
    | some z => rw [e] at h; exact goP_lt (stepP_lt e) h
theorem goP_drop {next : List (List Int)} {way : List Int} {m : Nat} (hm : m < way.length) (x : Nat) : goP next x (way.drop m) = match stepP next x (way.getD m 0) with | none => none | some y => goP next y (way.drop (m + 1)) := by
  rw [List.drop_eq_getElem_cons hm, goP, List.getD, List.getElem?_eq_getElem hm]; rfl
theorem step_low {next : List (List Int)} {x : Nat} {k : Int} (h : ¬ 0 ≤ k) : stepP next x k = none := by unfold stepP; rw [if_neg (fun h2 => h h2.1)]
theorem step_high {next : List (List Int)} {x : Nat} {k : Int} (h : ¬ k < ((next.getD x []).length : Int)) : stepP next x k = none := by unfold stepP; rw [if_neg (fun h2 => h h2.2)]
theorem step_off {next : List (List Int)} {x k : Nat} (hk : k < (next.getD x []).length) (h : ¬ (0 ≤ (next.getD x []).getD k 0 ∧ (next.getD x []).getD k 0 < (next.length : Int))) : stepP next x (k : Int) = none := by
  unfold stepP
  rw [if_pos ⟨by omega, by omega⟩]
  rw [Int.toNat_natCast, if_neg h]
theorem step_on {next : List (List Int)} {x k y : Nat} (hk : k < (next.getD x []).length) (h : (next.getD x []).getD k 0 = (y : Int)) (hy : y < next.length) : stepP next x (k : Int) = some y := by
  unfold stepP
  rw [if_pos ⟨by omega, by omega⟩]
  rw [Int.toNat_natCast, h, if_pos ⟨by omega, by omega⟩]; simp
def numO : Option Nat → Int
  | none => 0
  | some x => x
end Go.Proofs.Ytcdeidedcbnhaaa
