/-
  PLAIN: the lines of a text, as a list of lists of bytes. No program.
-/
import Derived.WalkKit
import Derived.WalkLawsBesides
import Derived.Lib.CutLaws
import Derived.Lib.Strings
set_option linter.unusedVariables false
set_option linter.unusedSimpArgs false
namespace Go.Proofs.Ytoepogdkagmphaa
open Go.RowKit

def splitL : List UInt8 → List (List UInt8)
  | [] => [[]]
  | b :: l => if b = 10 then [] :: splitL l else match splitL l with
    | [] => [[b]]
    | a :: r => (b :: a) :: r
theorem splitL_ne (l : List UInt8) : splitL l ≠ [] := by
  induction l with
  | nil => simp [splitL]
  | cons b l ih =>
    rw [splitL]
    split
    · simp
    · split <;> simp
theorem splitL_hit : ∀ (a r : List UInt8), (∀ x ∈ a, x ≠ 10) → splitL (a ++ 10 :: r) = a :: splitL r := by
  intro a r
  induction a with
  | nil => intro _; simp [splitL]
  | cons b a ih =>
    intro h
    have hb : b ≠ 10 := h b (by simp)
    rw [List.cons_append, splitL, if_neg hb, ih (fun x hx => h x (by simp [hx]))]
theorem splitL_miss : ∀ (a : List UInt8), (∀ x ∈ a, x ≠ 10) → splitL a = [a] := by
  intro a
  induction a with
  | nil => intro _; rfl
  | cons b a ih =>
    intro h
    have hb : b ≠ 10 := h b (by simp)
    rw [splitL, if_neg hb, ih (fun x hx => h x (by simp [hx]))]
/-- how many lines a text has -/
def tens (l : List UInt8) : Nat := (l.filter (fun b => b == 10)).length
theorem tens_le (l : List UInt8) : tens l ≤ l.length := List.length_filter_le _ _
theorem tens_snoc (l : List UInt8) (b : UInt8) : tens (l ++ [b]) = tens l + if b = 10 then 1 else 0 := by
  unfold tens
  rw [List.filter_append]
  by_cases h : b = 10 <;> simp [h]
theorem splitL_length (l : List UInt8) : (splitL l).length = tens l + 1 := by
  induction l with
  | nil => rfl
  | cons b l ih =>
    rw [splitL]
    have hn := splitL_ne l
    by_cases h : b = 10
    · rw [if_pos h]; simp [tens, h] at ih ⊢; omega
    · rw [if_neg h]
      split
      · contradiction
      · rename_i a r e; rw [e] at ih; simp [tens, h] at ih ⊢; omega
def pick (L : List (List UInt8)) (i : Int) : List UInt8 := if 0 ≤ i then L.getD i.toNat [] else []
theorem pick_cons (a : List UInt8) (L : List (List UInt8)) (i : Int) : pick (a :: L) i = if i = 0 then a else pick L (i - 1) := by
  unfold pick
  by_cases h0 : i = 0
  · subst h0; simp
  · rw [if_neg h0]
    by_cases h1 : 0 ≤ i
    · obtain ⟨n, rfl⟩ : ∃ n : Nat, i = (n : Int) + 1 := ⟨(i - 1).toNat, by omega⟩
      rw [if_pos h1, if_pos (by omega), show ((n : Int) + 1).toNat = n + 1 by omega, show ((n : Int) + 1 - 1).toNat = n by omega]
      simp
    · rw [if_neg h1, if_neg (by omega)]
theorem pick_nil (i : Int) : pick [] i = [] := by unfold pick; split <;> simp
/-- line n of a text -/
def lineD (l : List UInt8) (n : Int) : List UInt8 := pick (splitL l) (n - 1)
/-- the lines 1 to k, one behind the other -/
def joinK (l : List UInt8) : Nat → List UInt8
  | 0 => lineD l 1
  | k + 1 => joinK l k ++ (10 :: lineD l ((k : Int) + 2))
def joinL : List (List UInt8) → List UInt8
  | [] => []
  | a :: L => a ++ L.flatMap (fun x => 10 :: x)
theorem joinL_split (l : List UInt8) : joinL (splitL l) = l := by
  induction l with
  | nil => rfl
  | cons b l ih =>
    rw [splitL]
    have hn := splitL_ne l
    by_cases h : b = 10
    · rw [if_pos h]
      cases e : splitL l with
      | nil => contradiction
      | cons a r => rw [e] at ih; simp [joinL] at ih ⊢; rw [ih, h]; simp
    · rw [if_neg h]
      split
      · contradiction
      · rename_i a r e; rw [e] at ih; simp [joinL] at ih ⊢; exact ih
theorem lineD_at (l : List UInt8) (k : Nat) : lineD l ((k : Int) + 1) = (splitL l).getD k [] := by
  unfold lineD pick
  rw [if_pos (by omega)]
  congr 1
  omega
theorem joinK_take (l : List UInt8) : ∀ k, k < (splitL l).length → joinK l k = joinL ((splitL l).take (k + 1)) := by
  intro k
  induction k with
  | zero =>
    intro h
    have := lineD_at l 0
    simp only [joinK]
    rw [show ((0 : Nat) : Int) + 1 = 1 by rfl] at this
    rw [this]
    cases e : splitL l with
    | nil => rw [e] at h; simp at h
    | cons a r => simp [joinL]
  | succ k ih =>
    intro h
    rw [joinK, ih (by omega), List.take_succ_eq_append_getElem (i := k + 1) h]
    have := lineD_at l (k + 1)
    rw [show (((k + 1 : Nat) : Int) + 1) = (k : Int) + 2 by omega] at this
    rw [this]
    have hne : (splitL l).take (k + 1) ≠ [] := by simp [splitL_ne]
    cases e : (splitL l).take (k + 1) with
    | nil => contradiction
    | cons a r => simp [joinL, List.getD, List.getElem?_eq_getElem h]
theorem joinK_all (l : List UInt8) : joinK l (tens l) = l := by
  rw [joinK_take l _ (by rw [splitL_length]; omega), List.take_of_length_le (by rw [splitL_length]; exact Nat.le_refl _), joinL_split]
theorem lineD_beyond (l : List UInt8) : lineD l ((tens l : Int) + 1 + 1) = [] := by
  have := lineD_at l (tens l + 1)
  rw [show (((tens l + 1 : Nat) : Int) + 1) = (tens l : Int) + 1 + 1 by omega] at this
  rw [this]
  simp [List.getD, List.getElem?_eq_none (show (splitL l).length ≤ tens l + 1 by rw [splitL_length]; omega)]
theorem lineD_zero (l : List UInt8) : lineD l 0 = [] := by unfold lineD pick; rw [if_neg (by omega)]
theorem lineD_le (l : List UInt8) (n : Int) : (lineD l n).length ≤ l.length := by
  have key : ∀ l : List UInt8, ∀ a ∈ splitL l, a.length ≤ l.length := by
    intro l
    induction l with
    | nil => intro a ha; simp [splitL] at ha; simp [ha]
    | cons b l ih =>
      intro a ha
      rw [splitL] at ha
      split at ha
      · rcases List.mem_cons.1 ha with rfl | ha
        · simp
        · have := ih a ha; simp; omega
      · split at ha
        · simp at ha; simp [ha]
        · rename_i c r e
          rcases List.mem_cons.1 ha with rfl | ha
          · have := ih c (by rw [e]; simp); simp; omega
          · have := ih a (by rw [e]; simp [ha]); simp; omega
  unfold lineD pick
  split
  · rw [List.getD]
    cases e : (splitL l)[(n - 1).toNat]? with
    | none => simp
    | some a => exact key l a (List.mem_of_getElem? e)
  · simp
theorem joinK_le (l : List UInt8) : ∀ k, (joinK l k).length ≤ (k + 1) * (l.length + 1) := by
  intro k
  induction k with
  | zero => have := lineD_le l 1; simp [joinK]; omega
  | succ k ih => have := lineD_le l ((k : Int) + 2); simp [joinK, Nat.succ_mul] at ih ⊢; omega

/-- the first newline parts a text, or there is none -/
theorem cut_ten (l : List UInt8) : (∃ a r, l = a ++ 10 :: r ∧ (∀ x ∈ a, x ≠ 10) ∧ Lib.cut l [10] = (a, r, true)) ∨ ((∀ x ∈ l, x ≠ 10) ∧ Lib.cut l [10] = (l, [], false)) := by
  have hocc : ∀ j, Lib.occAt l [10] j = true ↔ l[j]? = some 10 := by
    intro j
    unfold Lib.occAt
    cases e : l.drop j with
    | nil =>
      have : l[j]? = none := by rw [← List.head?_drop, e]; rfl
      simp [this, List.isPrefixOf]
    | cons b r =>
      have : l[j]? = some b := by rw [← List.head?_drop, e]; rfl
      simp [this, List.isPrefixOf]
      exact eq_comm
  rcases Lib.index_spec l [10] with ⟨h1, h2⟩ | ⟨i, h1, h2, h3, h4⟩
  · right
    refine ⟨?_, by unfold Lib.cut; rw [h1]; rfl⟩
    intro x hx he
    subst he
    obtain ⟨j, hj, he⟩ := List.getElem_of_mem hx
    have := (hocc j).2 (by rw [List.getElem?_eq_getElem hj, he])
    rw [h2 j (by omega)] at this
    cases this
  · left
    have h5 := (hocc i).1 h3
    have hi : i < l.length := (List.getElem?_eq_some_iff.1 h5).1
    have h6 : l[i] = 10 := (List.getElem?_eq_some_iff.1 h5).2
    refine ⟨l.take i, l.drop (i + 1), ?_, ?_, ?_⟩
    · rw [← h6, ← List.drop_eq_getElem_cons hi, List.take_append_drop]
    · intro x hx he
      subst he
      obtain ⟨j, hj, he⟩ := List.getElem_of_mem hx
      rw [List.length_take] at hj
      have := (hocc j).2 (by rw [List.getElem_take] at he; rw [List.getElem?_eq_getElem (by omega), he])
      rw [h4 j (by omega)] at this
      cases this
    · unfold Lib.cut
      rw [h1, if_pos (by omega)]
      simp

/-- the text as bytes -/
def strOf (l : List UInt8) : ByteArray := ⟨l.toArray⟩
theorem strOf_list (l : List UInt8) : (strOf l).data.toList = l := by simp [strOf]
theorem strOf_of (s : ByteArray) : strOf s.data.toList = s := Lib.mk_data s
theorem strOf_size (l : List UInt8) : (strOf l).size = l.length := by simp [strOf, ByteArray.size]

end Go.Proofs.Ytoepogdkagmphaa
