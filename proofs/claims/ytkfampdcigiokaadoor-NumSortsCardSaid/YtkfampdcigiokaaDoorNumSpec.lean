/-
  NUMBERS, in plain Lean: what a text of digits tells; sums; gaps.
-/
import Derived.WalkKit
import Derived.WalkLawsBesides
set_option linter.unusedVariables false
set_option linter.unusedSimpArgs false
namespace Go.Proofs.YtkfampdcigiokaaDoor

def isD (b : Nat) : Bool := decide (48 ≤ b) && decide (b ≤ 57)
def valL (l : List Nat) : Nat := l.foldl (fun n b => n * 10 + (b - 48)) 0
theorem valL_snoc (l : List Nat) (b : Nat) : valL (l ++ [b]) = valL l * 10 + (b - 48) := by simp [valL]
theorem valL_take {l : List Nat} {k : Nat} (h : k < l.length) : valL (l.take (k + 1)) = valL (l.take k) * 10 + (l.getD k 0 - 48) := by
  rw [List.take_succ_eq_append_getElem h, valL_snoc, List.getD, List.getElem?_eq_getElem h]; rfl
theorem foldl_le (l : List Nat) : ∀ n, n ≤ l.foldl (fun n b => n * 10 + (b - 48)) n := by
  induction l with
  | nil => intro n; exact Nat.le_refl _
  | cons b l ih => intro n; have := ih (n * 10 + (b - 48)); simp only [List.foldl_cons]; omega
theorem valL_prefix (l : List Nat) (k : Nat) : valL (l.take k) ≤ valL l := by
  have : valL l = (l.drop k).foldl (fun n b => n * 10 + (b - 48)) (valL (l.take k)) := by
    unfold valL
    rw [← List.foldl_append, List.take_append_drop]
  rw [this]
  exact foldl_le _ _
def formedL (l : List Nat) : Bool := !l.isEmpty && l.all isD
/-- the number, and the error's number -/
def signed (neg : Bool) (l : List Nat) : Int × Int :=
  if formedL l = false then (0, 17) else if (if neg = true then 9223372036854775808 else 9223372036854775807) < valL l then (0, 2) else (if neg = true then -(valL l : Int) else (valL l : Int), 0)
def negL (l : List Nat) : Bool := !l.isEmpty && decide (l.getD 0 0 = 45)
def readL (l : List Nat) : Int × Int := if negL l = true then signed true (l.drop 1) else signed false l
/-- the bytes of a text -/
def byL (s : ByteArray) : List Nat := s.data.toList.map UInt8.toNat
theorem byL_len (s : ByteArray) : (byL s).length = s.size := by
  unfold byL
  rw [List.length_map, Array.length_toList]; rfl
theorem byL_at {s : ByteArray} {k : Nat} (h : k < s.size) : (s[k]'h).toNat = (byL s).getD k 0 := by
  have h2 : k < s.data.toList.length := by rw [Array.length_toList]; exact h
  unfold byL
  rw [List.getD, List.getElem?_map, List.getElem?_eq_getElem h2]
  rfl
theorem byL_lt (s : ByteArray) (k : Nat) : (byL s).getD k 0 < 256 := by
  unfold byL
  rw [List.getD, List.getElem?_map]
  cases s.data.toList[k]? with
  | none => simp
  | some b => simp; exact b.toNat_lt
theorem isD_iff {b : Nat} : isD b = true ↔ 48 ≤ b ∧ b ≤ 57 := by simp [isD]
theorem formedL_at {l : List Nat} (h : formedL l = true) {k : Nat} (hk : k < l.length) : 48 ≤ l.getD k 0 ∧ l.getD k 0 ≤ 57 := by
  unfold formedL at h
  simp only [Bool.and_eq_true, List.all_eq_true] at h
  have := h.2 _ (List.getElem_mem hk)
  rw [List.getD, List.getElem?_eq_getElem hk]
  exact isD_iff.1 this
theorem formedL_iff {l : List Nat} : formedL l = true ↔ 0 < l.length ∧ ∀ k, k < l.length → isD (l.getD k 0) = true := by
  constructor
  · intro h
    refine ⟨?_, fun k hk => isD_iff.2 (formedL_at h hk)⟩
    cases l with
    | nil => simp [formedL] at h
    | cons b l => simp
  · rintro ⟨h0, h1⟩
    unfold formedL
    simp only [Bool.and_eq_true, List.all_eq_true]
    refine ⟨by cases l <;> simp_all, fun b hb => ?_⟩
    obtain ⟨k, hk, rfl⟩ := List.getElem_of_mem hb
    have := h1 k hk
    rwa [List.getD, List.getElem?_eq_getElem hk] at this
/-- two numbers together -/
def addP (a b : Int) : Option Int := if -9223372036854775808 ≤ a + b ∧ a + b ≤ 9223372036854775807 then some (a + b) else none
def gapP (a b m : Int) : Int := if m ≤ 0 ∨ b ≤ a then 0 else if b - a - 1 ≤ m then b - a - 1 else m
end Go.Proofs.YtkfampdcigiokaaDoor
