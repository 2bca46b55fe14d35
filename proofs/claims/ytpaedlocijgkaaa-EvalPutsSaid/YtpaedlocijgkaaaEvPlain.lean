/-
  PLAIN: what is put of conditions. No program.
-/
import Derived.Test.YtpaedlocijgkaaaEvSpec
set_option linter.unusedVariables false
set_option linter.unusedSimpArgs false
namespace Go.Proofs.Ytpaedlocijgkaaa
open Go.RowKit

theorem p_rowN_append (a b : List Int) : ∀ d, rowN (a ++ b) d = (rowN a d).bind (rowN b) := by
  induction a with
  | nil => intro d; rfl
  | cons x a ih => intro d; rw [List.cons_append, rowN, rowN]; cases pushN d x <;> simp [ih]
theorem pushN_shift {d op : _} {d' : Nat} (h : pushN d op = some d') (k : Nat) : pushN (d + k) op = some (d' + k) := by
  unfold pushN at h ⊢
  by_cases h0 : arity op = 0
  · rw [if_pos h0] at h ⊢; cases h; congr 1; omega
  · rw [if_neg h0] at h ⊢
    by_cases h1 : arity op = 1 ∧ 1 ≤ d
    · rw [if_pos h1] at h; rw [if_pos ⟨h1.1, by omega⟩]; cases h; rfl
    · rw [if_neg h1] at h
      by_cases h2 : arity op = 2 ∧ 2 ≤ d
      · rw [if_pos h2] at h
        rw [if_neg (by omega), if_pos ⟨h2.1, by omega⟩]; cases h; congr 1; omega
      · rw [if_neg h2] at h; cases h
theorem rowN_shift : ∀ (l : List Int) (d d' k : Nat), rowN l d = some d' → rowN l (d + k) = some (d' + k) := by
  intro l
  induction l with
  | nil => intro d d' k h; cases h; rfl
  | cons x l ih =>
    intro d d' k h
    rw [rowN] at h ⊢
    cases hp : pushN d x with
    | none => rw [hp] at h; cases h
    | some d1 =>
      rw [hp] at h
      rw [pushN_shift hp k]
      exact ih _ _ _ h
theorem pushN_un (d : Nat) {op : Int} (ho : arity op = 1) : pushN d op = if 1 ≤ d then some d else none := by
  unfold pushN
  rw [if_neg (by omega)]
  by_cases h : 1 ≤ d
  · rw [if_pos ⟨ho, h⟩, if_pos h]
  · rw [if_neg (by omega), if_neg (by omega), if_neg h]
theorem pushN_bi (d : Nat) {op : Int} (ho : arity op = 2) : pushN d op = if 2 ≤ d then some (d - 1) else none := by
  unfold pushN
  rw [if_neg (by omega), if_neg (by omega)]
  by_cases h : 2 ≤ d
  · rw [if_pos ⟨ho, h⟩, if_pos h]
  · rw [if_neg (by omega), if_neg h]
theorem checkE_iff (l : List Int) (hl : l.length ≤ 64) : checkE l = 0 ↔ rowN l 0 = some 1 := by
  unfold checkE
  by_cases h0 : l.length = 0
  · rw [if_pos h0, List.eq_nil_of_length_eq_zero h0]; simp [rowN]
  · rw [if_neg h0, if_neg (by omega)]
    by_cases h : rowN l 0 = some 1
    · simp [h]
    · simp [h]
theorem check_un (l : List Int) (op : Int) (ho : arity op = 1) (hl : l.length ≤ 60) : checkE (l ++ [op]) = 0 ↔ checkE l = 0 := by
  rw [checkE_iff _ (by simp; omega), checkE_iff _ (by omega), p_rowN_append]
  cases rowN l 0 with
  | none => simp
  | some d =>
    simp only [Option.bind_some, rowN, pushN_un d ho]
    by_cases h : 1 ≤ d
    · rw [if_pos h]
    · rw [if_neg h]; simp; omega
theorem check_bi (l m : List Int) (op : Int) (ho : arity op = 2) (hl : l.length + m.length ≤ 60) (h1 : checkE l = 0) (h2 : checkE m = 0) : checkE (l ++ m ++ [op]) = 0 := by
  rw [checkE_iff _ (by simp; omega), p_rowN_append, p_rowN_append]
  rw [checkE_iff _ (by omega)] at h1 h2
  have h3 := rowN_shift m 0 1 1 h2
  simp only [Nat.zero_add] at h3
  rw [h1, Option.bind_some, h3, Option.bind_some]
  simp [rowN, pushN_bi 2 ho]

section
variable {cm : Inst → Option Int} {o d : Int}
theorem p_runG_append (a b : List Inst) : ∀ r, runG cm o d (a ++ b) r = (runG cm o d a r).bind (runG cm o d b) := by
  induction a with
  | nil => intro r; rfl
  | cons x a ih => intro r; rw [List.cons_append, runG, runG]; cases stepG cm o d x r <;> simp [ih]
theorem stepG_shift {x : Inst} {r r' : List Bool} (h : stepG cm o d x r = some r') (q : List Bool) : stepG cm o d x (r ++ q) = some (r' ++ q) := by
  unfold stepG at h ⊢
  split
  · rw [if_pos (by assumption)] at h; cases h; rfl
  rename_i c1
  rw [if_neg c1] at h
  split
  · rename_i c2
    rw [if_pos c2] at h
    split at h
    · cases h; rfl
    · cases h
  rename_i c2
  rw [if_neg c2] at h
  split
  · rw [if_pos (by assumption)] at h; cases h; rfl
  rename_i c3
  rw [if_neg c3] at h
  split
  · rw [if_pos (by assumption)] at h; cases h; rfl
  rename_i c4
  rw [if_neg c4] at h
  split
  · rename_i c5
    rw [if_pos c5] at h
    match r, h with
    | a :: r, h => cases h; rfl
  rename_i c5
  rw [if_neg c5] at h
  split
  · rename_i c6
    rw [if_pos c6] at h
    match r, h with
    | b :: a :: r, h => cases h; rfl
  · rename_i c6
    rw [if_neg c6] at h; cases h
theorem runG_shift : ∀ (l : List Inst) (r r' q : List Bool), runG cm o d l r = some r' → runG cm o d l (r ++ q) = some (r' ++ q) := by
  intro l
  induction l with
  | nil => intro r r' q h; cases h; rfl
  | cons x l ih =>
    intro r r' q h
    rw [runG] at h ⊢
    cases hs : stepG cm o d x r with
    | none => rw [hs] at h; cases h
    | some r1 =>
      rw [hs] at h
      rw [stepG_shift hs q]
      exact ih _ _ _ h
theorem stepG_push {x : Inst} {r r' : List Bool} (h : stepG cm o d x r = some r') : pushN r.length x.op = some r'.length := by
  unfold stepG at h
  split at h
  · rename_i c
    cases h
    unfold pushN
    rw [if_pos (by unfold arity; rw [if_pos (by omega)])]; simp
  split at h
  · rename_i c
    split at h
    · cases h
      unfold pushN
      rw [if_pos (by unfold arity; rw [if_pos (by omega)])]; simp
    · cases h
  split at h
  · rename_i c
    cases h
    unfold pushN
    rw [if_pos (by unfold arity; rw [if_pos (by omega)])]; simp
  split at h
  · rename_i c
    cases h
    unfold pushN
    rw [if_pos (by unfold arity; rw [if_pos (by omega)])]; simp
  split at h
  · rename_i c
    split at h
    · cases h
      rw [pushN_un _ (by rw [c]; rfl)]; simp
    · cases h
  split at h
  · rename_i c
    split at h
    · cases h
      rw [pushN_bi _ (by unfold arity; rw [if_neg (by omega), if_neg (by omega), if_pos (by omega)])]; simp
    · cases h
  · cases h
theorem runG_row : ∀ (l : List Inst) (r r' : List Bool), runG cm o d l r = some r' → rowN (l.map Inst.op) r.length = some r'.length := by
  intro l
  induction l with
  | nil => intro r r' h; cases h; rfl
  | cons x l ih =>
    intro r r' h
    rw [runG] at h
    rw [List.map_cons, rowN]
    cases hs : stepG cm o d x r with
    | none => rw [hs] at h; cases h
    | some r1 =>
      rw [hs] at h
      rw [stepG_push hs]
      exact ih _ _ h
/-- a condition that is one leaves one truth -/
theorem holdsG_some {l : List Inst} {b : Bool} (hl : l.length ≤ 64) (h : holdsG cm o d l = some b) : checkE (l.map Inst.op) = 0 ∧ runG cm o d l [] = some [b] := by
  unfold holdsG at h
  split at h
  · cases h
  · rename_i hc
    simp only [ne_eq, Decidable.not_not] at hc
    refine ⟨hc, ?_⟩
    split at h
    · rename_i b' r' hr
      cases h
      have h1 := runG_row l [] _ hr
      rw [checkE_iff _ (by simpa using hl)] at hc
      simp only [List.length_nil] at h1
      rw [hc] at h1
      simp at h1
      rw [hr, h1]
    · cases h
theorem holdsG_of {l : List Inst} {b : Bool} {r : List Bool} (h1 : checkE (l.map Inst.op) = 0) (h2 : runG cm o d l [] = some (b :: r)) : holdsG cm o d l = some b := by
  unfold holdsG
  rw [if_neg (by simpa using h1), h2]
def opI (op : Int) : Inst := ⟨op, 0, 0, 0, 0, 0, 0⟩
theorem puts_not {l : List Inst} (hl : l.length ≤ 60) : holdsG cm o d (l ++ [opI 15]) = (holdsG cm o d l).map (fun b => !b) := by
  have e : (l ++ [opI 15]).map Inst.op = l.map Inst.op ++ [15] := by simp [opI]
  have hc := check_un (l.map Inst.op) 15 rfl (by simpa using hl)
  cases hh : holdsG cm o d l with
  | some b =>
    obtain ⟨h1, h2⟩ := holdsG_some (by omega) hh
    refine holdsG_of (r := []) (by rw [e]; exact hc.2 h1) ?_
    rw [p_runG_append, h2]
    rfl
  | none =>
    unfold holdsG at hh ⊢
    rw [e]
    by_cases h1 : checkE (l.map Inst.op) = 0
    · rw [if_neg (by simpa using h1)] at hh
      rw [if_neg (by simpa using hc.2 h1), p_runG_append]
      cases hr : runG cm o d l [] with
      | none => rfl
      | some r =>
        rw [hr] at hh
        cases r with
        | nil => rfl
        | cons a r => cases hh
    · rw [if_pos (by intro h; exact h1 (hc.1 h))]
      rfl
theorem puts_bi {l m : List Inst} {a b : Bool} (hl : l.length + m.length ≤ 60) (h1 : holdsG cm o d l = some a) (h2 : holdsG cm o d m = some b) :
    holdsG cm o d (l ++ m ++ [opI 16]) = some (a && b) ∧ holdsG cm o d (l ++ m ++ [opI 17]) = some (a || b) ∧ holdsG cm o d (l ++ m ++ [opI 18]) = some (!a || b) := by
  obtain ⟨c1, r1⟩ := holdsG_some (by omega) h1
  obtain ⟨c2, r2⟩ := holdsG_some (by omega) h2
  have e : ∀ op, (l ++ m ++ [opI op]).map Inst.op = l.map Inst.op ++ m.map Inst.op ++ [op] := by intro op; simp [opI]
  have r3 := runG_shift m [] [b] [a] r2
  simp only [List.nil_append, List.singleton_append] at r3
  refine ⟨holdsG_of (r := []) (by rw [e]; exact check_bi _ _ _ rfl (by simpa using hl) c1 c2) ?_, holdsG_of (r := []) (by rw [e]; exact check_bi _ _ _ rfl (by simpa using hl) c1 c2) ?_, holdsG_of (r := []) (by rw [e]; exact check_bi _ _ _ rfl (by simpa using hl) c1 c2) ?_⟩
  all_goals
    rw [p_runG_append, p_runG_append, r1, Option.bind_some, r3]
    rfl
end
end Go.Proofs.Ytpaedlocijgkaaa
