/-
  PLAIN: the runes of a text as a list, with their bytes and places. No program.
-/
import Derived.WalkKit
import Derived.WalkLawsBesides
import Derived.Laws.RangeAny
set_option linter.unusedVariables false
set_option linter.unusedSimpArgs false
namespace Go.Proofs.Ytoepogdkagmphaa
open Go.RowKit

structure Ru where
  r : Int
  f : Nat
  t : Nat
  l : Nat
  c : Nat
def Ru.cells (k : IntKind) (x : Ru) : List Value := [.int k x.r, .int .i64 (x.f : Int), .int .i64 (x.t : Int), .int .i64 (x.l : Int), .int .i64 (x.c : Int)]
def cellsOf (k : IntKind) (L : List Ru) : List Value := L.flatMap (Ru.cells k)

theorem cellsOf_length (k : IntKind) (L : List Ru) : (cellsOf k L).length = L.length * 5 := by
  induction L with
  | nil => rfl
  | cons x L ih => simp only [cellsOf, List.flatMap_cons, List.length_append, List.length_cons] at ih ⊢; rw [ih]; simp [Ru.cells]; omega
theorem cellsOf_append (k : IntKind) (L M : List Ru) : cellsOf k (L ++ M) = cellsOf k L ++ cellsOf k M := by simp [cellsOf]
theorem cellsOf_one (k : IntKind) (x : Ru) : cellsOf k [x] = x.cells k := by simp [cellsOf]
theorem cellsOf_nil (k : IntKind) : cellsOf k [] = [] := rfl

/-- the place behind a rune -/
def lcNext (r : Int) (lc : Nat × Nat) : Nat × Nat := if r = 10 then (lc.1 + 1, 1) else (lc.1, lc.2 + 1)

/-- the runes from a byte on, raw: what a range over the text tells -/
def decs (s : ByteArray) : Nat → Nat → Nat × Nat → List Ru
  | 0, _, _ => []
  | n + 1, pos, lc => if pos < s.size then
      ⟨((Utf8.decode s pos).1 : Int), pos, pos + (Utf8.decode s pos).2, lc.1, lc.2⟩ :: decs s n (pos + (Utf8.decode s pos).2) (lcNext ((Utf8.decode s pos).1 : Int) lc)
    else []
/-- a byte that begins no rune -/
def Ru.fix (x : Ru) : Ru := if x.r = 65533 ∧ x.t = x.f + 1 then { x with r := -1 } else x
def rest (s : ByteArray) (pos : Nat) (lc : Nat × Nat) : List Ru := decs s s.size pos lc
def raw (s : ByteArray) : List Ru := rest s 0 (1, 1)
def full (s : ByteArray) : List Ru := (raw s).map Ru.fix

theorem decode_len (s : ByteArray) (pos : Nat) : 1 ≤ (Utf8.decode s pos).2 ∧ (Utf8.decode s pos).2 ≤ 4 := by
  simp only [Utf8.decode]
  repeat' split
  all_goals simp
theorem decode_in (s : ByteArray) (pos : Nat) (h : pos < s.size) : pos + (Utf8.decode s pos).2 ≤ s.size := by
  simp only [Utf8.decode]
  repeat' split
  all_goals simp_all
  all_goals omega

theorem decs_more (s : ByteArray) : ∀ (n m pos : Nat) (lc : Nat × Nat), s.size - pos ≤ n → s.size - pos ≤ m → decs s n pos lc = decs s m pos lc := by
  intro n
  induction n with
  | zero =>
    intro m pos lc hn _
    cases m with
    | zero => rfl
    | succ m => rw [decs, decs, if_neg (by omega)]
  | succ n ih =>
    intro m pos lc hn hm
    cases m with
    | zero => rw [decs, decs, if_neg (by omega)]
    | succ m =>
      have hd := decode_len s pos
      rw [decs, decs]
      split
      · rw [ih m _ _ (by omega) (by omega)]
      · rfl
theorem rest_step (s : ByteArray) (pos : Nat) (lc : Nat × Nat) (h : pos < s.size) :
    rest s pos lc = ⟨((Utf8.decode s pos).1 : Int), pos, pos + (Utf8.decode s pos).2, lc.1, lc.2⟩ :: rest s (pos + (Utf8.decode s pos).2) (lcNext ((Utf8.decode s pos).1 : Int) lc) := by
  have hd := decode_len s pos
  unfold rest
  rw [decs_more s s.size (s.size + 1) pos lc (by omega) (by omega), decs, if_pos h]
theorem rest_end (s : ByteArray) (pos : Nat) (lc : Nat × Nat) (h : ¬ pos < s.size) : rest s pos lc = [] := by
  unfold rest
  rw [decs_more s s.size 0 pos lc (by omega) (by omega), decs]

/-- the last one's end, not told yet -/
def openEnd (L : List Ru) (z : Nat) : List Ru := L.dropLast ++ (L.getLast?.map fun x => { x with t := z }).toList
theorem openEnd_nil (z : Nat) : openEnd [] z = [] := rfl
theorem openEnd_snoc (L : List Ru) (x : Ru) (z : Nat) : openEnd (L ++ [x]) z = L ++ [{ x with t := z }] := by simp [openEnd]
theorem openEnd_length (L : List Ru) (z : Nat) : (openEnd L z).length = L.length := by
  rcases List.eq_nil_or_concat L with rfl | ⟨M, x, rfl⟩
  · rfl
  · rw [List.concat_eq_append, openEnd_snoc]; simp
theorem cells_at (k : IntKind) (M : List Ru) (x : Ru) (N : List Ru) (j : Nat) (hj : j < 5) : (cellsOf k (M ++ x :: N))[M.length * 5 + j]? = (x.cells k)[j]? := by
  rw [cellsOf_append, List.getElem?_append_right (by rw [cellsOf_length]; omega), cellsOf_length]
  have e : cellsOf k (x :: N) = x.cells k ++ cellsOf k N := by simp [cellsOf]
  rw [e, List.getElem?_append_left (by simp [Ru.cells]; omega)]
  congr 1
  omega
theorem openEnd_self (L : List Ru) (z : Nat) (h : ∀ q x, L = q ++ [x] → x.t = z) : openEnd L z = L := by
  rcases List.eq_nil_or_concat L with rfl | ⟨q, x, rfl⟩
  · rfl
  · rw [List.concat_eq_append] at *
    rw [openEnd_snoc, ← h q x rfl]
/-- the store of the end -/
theorem cells_end (k : IntKind) (M : List Ru) (x : Ru) (z y : Nat) : (cellsOf k (openEnd (M ++ [x]) z)).set (M.length * 5 + 2) (.int .i64 (y : Int)) = cellsOf k (openEnd (M ++ [x]) y) := by
  simp only [openEnd_snoc, cellsOf_append, cellsOf_one]
  rw [List.set_append_right _ _ (by rw [cellsOf_length]; omega), cellsOf_length]
  simp [Ru.cells]

theorem open_set (k : IntKind) (L : List Ru) (z y : Nat) (h : 0 < L.length) : (cellsOf k (openEnd L z)).set ((L.length - 1) * 5 + 2) (.int .i64 (y : Int)) = cellsOf k (openEnd L y) := by
  rcases List.eq_nil_or_concat L with rfl | ⟨q, x, rfl⟩
  · simp at h
  · rw [List.concat_eq_append]
    have := cells_end k q x z y
    simpa using this
theorem length_le_of (s : ByteArray) (pos : Nat) (lc : Nat × Nat) (pre : List Ru) (h : pre ++ rest s pos lc = raw s) (most : Nat) (hm : pre.length = most) : pre = (raw s).take most := by
  rw [← h, ← hm, List.take_left]
theorem open_cell (k : IntKind) (L : List Ru) (z : Nat) (h : 0 < L.length) : (cellsOf k (openEnd L z))[(L.length - 1) * 5 + 2]? = some (.int .i64 (z : Int)) := by
  rcases List.eq_nil_or_concat L with rfl | ⟨q, x, rfl⟩
  · simp at h
  · rw [List.concat_eq_append, openEnd_snoc]
    have := cells_at k q { x with t := z } [] 2 (by omega)
    simpa [Ru.cells] using this
theorem decs_in (s : ByteArray) : ∀ (n pos : Nat) (lc : Nat × Nat), ∀ x ∈ decs s n pos lc, pos ≤ x.f ∧ x.f < x.t ∧ x.t ≤ s.size ∧ x.t ≤ x.f + 4 := by
  intro n
  induction n with
  | zero => intro pos lc x hx; simp [decs] at hx
  | succ n ih =>
    intro pos lc x hx
    rw [decs] at hx
    split at hx
    · rename_i hlt
      have hd := decode_len s pos
      have hi := decode_in s pos hlt
      rcases List.mem_cons.1 hx with rfl | hx
      · exact ⟨Nat.le_refl _, by simp; omega, hi, by simp; omega⟩
      · have := ih _ _ x hx
        omega
    · simp at hx
theorem raw_in (s : ByteArray) (x : Ru) (hx : x ∈ raw s) : x.f < x.t ∧ x.t ≤ s.size ∧ x.t ≤ x.f + 4 := (decs_in s _ _ _ x hx).2
theorem decs_length (s : ByteArray) : ∀ (n pos : Nat) (lc : Nat × Nat), (decs s n pos lc).length ≤ s.size - pos := by
  intro n
  induction n with
  | zero => intro pos lc; simp [decs]
  | succ n ih =>
    intro pos lc
    rw [decs]
    split
    · have hd := decode_len s pos
      have := ih (pos + (Utf8.decode s pos).2) (lcNext ((Utf8.decode s pos).1 : Int) lc)
      simp only [List.length_cons]
      omega
    · simp
theorem raw_length (s : ByteArray) : (raw s).length ≤ s.size := decs_length s _ _ _
/-- the second pass, so far -/
def fixed (L : List Ru) (k : Nat) : List Ru := (L.take k).map Ru.fix ++ L.drop k
theorem fixed_zero (L : List Ru) : fixed L 0 = L := by simp [fixed]
theorem fixed_all (L : List Ru) : fixed L L.length = L.map Ru.fix := by simp [fixed]
theorem fixed_at (L : List Ru) (k : Nat) (h : k < L.length) : fixed L k = (L.take k).map Ru.fix ++ L[k] :: L.drop (k + 1) := by
  rw [fixed, List.drop_eq_getElem_cons h]
theorem fixed_next (L : List Ru) (k : Nat) (h : k < L.length) : fixed L (k + 1) = (L.take k).map Ru.fix ++ L[k].fix :: L.drop (k + 1) := by
  rw [fixed, List.take_succ_eq_append_getElem h, List.map_append, List.append_assoc]; rfl
theorem fixed_cell (kd : IntKind) (L : List Ru) (k : Nat) (h : k < L.length) (j : Nat) (hj : j < 5) : (cellsOf kd (fixed L k))[k * 5 + j]? = (L[k].cells kd)[j]? := by
  have e : ((L.take k).map Ru.fix).length = k := by simp; omega
  have := cells_at kd ((L.take k).map Ru.fix) L[k] (L.drop (k + 1)) j hj
  rw [e] at this
  rw [fixed_at L k h, this]
theorem fixed_keep (kd : IntKind) (L : List Ru) (k : Nat) (h : k < L.length) (hn : ¬ (L[k].r = 65533 ∧ L[k].t = L[k].f + 1)) : cellsOf kd (fixed L (k + 1)) = cellsOf kd (fixed L k) := by
  rw [fixed_next L k h, fixed_at L k h, Ru.fix, if_neg hn]
theorem fixed_set (kd : IntKind) (L : List Ru) (k : Nat) (h : k < L.length) (hn : L[k].r = 65533 ∧ L[k].t = L[k].f + 1) : (cellsOf kd (fixed L k)).set (k * 5) (.int kd (-1)) = cellsOf kd (fixed L (k + 1)) := by
  have e : ((L.take k).map Ru.fix).length = k := by simp; omega
  rw [fixed_next L k h, fixed_at L k h, Ru.fix, if_pos hn]
  generalize L.drop (k + 1) = N
  generalize L[k] = x
  rw [cellsOf_append, cellsOf_append, List.set_append_right _ _ (by rw [cellsOf_length, e]; omega), cellsOf_length, e, Nat.sub_self]
  simp [cellsOf, Ru.cells]

end Go.Proofs.Ytoepogdkagmphaa
