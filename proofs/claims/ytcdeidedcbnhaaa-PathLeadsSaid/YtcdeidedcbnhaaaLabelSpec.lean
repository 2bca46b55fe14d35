/-
  PLAIN: where ways lead: EX, EU, EG as lists of Bools, and as the least and the greatest set. No program.
-/
import Derived.WalkKit
set_option linter.unusedVariables false
set_option linter.unusedSimpArgs false
namespace Go.Proofs.Ytcdeidedcbnhaaa

def isB (a : List Bool) (i : Int) : Bool := decide (0 ≤ i) && a.getD i.toNat false
theorem isB_nat (a : List Bool) (i : Nat) : isB a (i : Int) = a.getD i false := by simp [isB]
theorem isB_lt {a : List Bool} {i : Int} (h : isB a i = true) : 0 ≤ i ∧ i < (a.length : Int) := by
  simp only [isB, Bool.and_eq_true, decide_eq_true_eq] at h
  refine ⟨h.1, ?_⟩
  rcases Nat.lt_or_ge i.toNat a.length with h1 | h1
  · omega
  · rw [List.getD, List.getElem?_eq_none h1] at h; simp at h
/-- an edge -/
def edge (next : List (List Int)) (i k : Nat) : Prop := (k : Int) ∈ next.getD i [] ∧ k < next.length
def exRow (n : Nat) (a : List Bool) (row : List Int) : Bool := row.any fun k => decide (k < (n : Int)) && isB a k
def exL (next : List (List Int)) (a : List Bool) : List Bool := next.map (exRow next.length a)
theorem exL_length (next : List (List Int)) (a : List Bool) : (exL next a).length = next.length := by simp [exL]
theorem exL_at (next : List (List Int)) (a : List Bool) (i : Nat) : (exL next a).getD i false = true ↔ ∃ k, edge next i k ∧ a.getD k false = true := by
  unfold exL exRow edge
  rw [List.getD, List.getElem?_map]
  rcases Nat.lt_or_ge i next.length with h | h
  · rw [List.getElem?_eq_getElem h]
    simp only [Option.map_some, Option.getD_some, List.any_eq_true, Bool.and_eq_true, decide_eq_true_eq]
    have e : next.getD i [] = next[i] := by rw [List.getD, List.getElem?_eq_getElem h]; rfl
    rw [e]
    refine ⟨fun ⟨k, h1, h2, h3⟩ => ?_, fun ⟨k, ⟨h1, h2⟩, h3⟩ => ⟨(k : Int), h1, by omega, by rw [isB_nat]; exact h3⟩⟩
    obtain ⟨m, rfl⟩ := Int.eq_ofNat_of_zero_le (isB_lt h3).1
    exact ⟨m, ⟨h1, by omega⟩, by rw [← isB_nat]; exact h3⟩
  · rw [List.getElem?_eq_none h]
    have e : next.getD i [] = [] := by rw [List.getD, List.getElem?_eq_none h]; rfl
    rw [e]
    simp

/-- a way leads by a to b -/
inductive EUp (next : List (List Int)) (a b : List Bool) : Nat → Prop
  | here (i : Nat) : i < next.length → b.getD i false = true → EUp next a b i
  | step (i k : Nat) : i < next.length → a.getD i false = true → edge next i k → EUp next a b k → EUp next a b i
/-- a way goes on for ever within a -/
def EGp (next : List (List Int)) (a : List Bool) (i : Nat) : Prop := ∃ S : Nat → Prop, S i ∧ ∀ j, S j → j < next.length ∧ a.getD j false = true ∧ ∃ k, edge next j k ∧ S k
open Classical in
noncomputable def euL (next : List (List Int)) (a b : List Bool) : List Bool := (List.range next.length).map fun i => decide (EUp next a b i)
open Classical in
noncomputable def egL (next : List (List Int)) (a : List Bool) : List Bool := (List.range next.length).map fun i => decide (EGp next a i)
theorem euL_length (next : List (List Int)) (a b : List Bool) : (euL next a b).length = next.length := by simp [euL]
theorem egL_length (next : List (List Int)) (a : List Bool) : (egL next a).length = next.length := by simp [egL]
theorem EUp.lt {next : List (List Int)} {a b : List Bool} {i : Nat} (h : EUp next a b i) : i < next.length := by cases h <;> assumption
theorem EGp.lt {next : List (List Int)} {a : List Bool} {i : Nat} (h : EGp next a i) : i < next.length := by obtain ⟨S, h1, h2⟩ := h; exact (h2 i h1).1
theorem euL_at (next : List (List Int)) (a b : List Bool) (i : Nat) : (euL next a b).getD i false = true ↔ EUp next a b i := by
  unfold euL
  rw [List.getD, List.getElem?_map]
  rcases Nat.lt_or_ge i next.length with h | h
  · rw [List.getElem?_range h]; simp
  · rw [List.getElem?_eq_none (by simpa using h)]
    simp
    exact fun hh => by have := hh.lt; omega
theorem egL_at (next : List (List Int)) (a : List Bool) (i : Nat) : (egL next a).getD i false = true ↔ EGp next a i := by
  unfold egL
  rw [List.getD, List.getElem?_map]
  rcases Nat.lt_or_ge i next.length with h | h
  · rw [List.getElem?_range h]; simp
  · rw [List.getElem?_eq_none (by simpa using h)]
    simp
    exact fun hh => by have := hh.lt; omega
/-- two sets of one length that hold the same are the same -/
theorem set_ext {a b : List Bool} (hl : a.length = b.length) (h : ∀ i, i < a.length → (a.getD i false = true ↔ b.getD i false = true)) : a = b := by
  apply List.ext_getElem hl
  intro i h1 h2
  have := h i h1
  rw [List.getD, List.getElem?_eq_getElem h1, List.getD, List.getElem?_eq_getElem h2] at this
  simp at this
  first | exact this | exact Bool.eq_iff_iff.2 this
theorem eu_fix (next : List (List Int)) (a b : List Bool) (i : Nat) (hi : i < next.length) :
    (euL next a b).getD i false = (b.getD i false || (a.getD i false && (exL next (euL next a b)).getD i false)) := by
  rw [Bool.eq_iff_iff]
  simp only [Bool.or_eq_true, Bool.and_eq_true, exL_at, euL_at]
  refine ⟨fun h => ?_, fun h => ?_⟩
  · cases h with
    | here _ _ h => exact .inl h
    | step _ k _ h1 h2 h3 => exact .inr ⟨h1, k, h2, h3⟩
  · rcases h with h | ⟨h1, k, h2, h3⟩
    · exact .here i hi h
    · exact .step i k hi h1 h2 h3
theorem eg_fix (next : List (List Int)) (a : List Bool) (i : Nat) (hi : i < next.length) :
    (egL next a).getD i false = (a.getD i false && (exL next (egL next a)).getD i false) := by
  rw [Bool.eq_iff_iff]
  simp only [Bool.and_eq_true, exL_at, egL_at]
  refine ⟨fun ⟨S, h1, h2⟩ => ?_, fun ⟨h1, k, h2, S, h3, h4⟩ => ?_⟩
  · obtain ⟨_, h4, k, h5, h6⟩ := h2 i h1
    exact ⟨h4, k, h5, S, h6, h2⟩
  · refine ⟨fun j => S j ∨ j = i, .inr rfl, fun j hj => ?_⟩
    rcases hj with hj | rfl
    · obtain ⟨h5, h6, m, h7, h8⟩ := h4 j hj
      exact ⟨h5, h6, m, h7, .inl h8⟩
    · exact ⟨hi, h1, k, h2, .inl h3⟩

/-! ### again and again -/
def cnt (a : List Bool) : Nat := (a.filter id).length
theorem cnt_le (a : List Bool) : cnt a ≤ a.length := List.length_filter_le _ _
theorem cnt_lt : ∀ {a b : List Bool}, a.length = b.length → (∀ i, a.getD i false = true → b.getD i false = true) → a ≠ b → cnt a < cnt b := by
  intro a
  induction a with
  | nil => intro b hl _ hne; cases b with
    | nil => exact absurd rfl hne
    | cons y b => simp at hl
  | cons x a ih =>
    intro b hl h hne
    cases b with
    | nil => simp at hl
    | cons y b =>
      have h0 := h 0
      have hs : ∀ i, a.getD i false = true → b.getD i false = true := fun i hi => by have := h (i + 1); simpa using this (by simpa using hi)
      simp at h0
      by_cases e : a = b
      · subst e
        have : x ≠ y := fun e => hne (by rw [e])
        cases x <;> cases y <;> simp_all [cnt]
      · have := ih (by simpa using hl) hs e
        unfold cnt at this ⊢
        cases x <;> cases y <;> simp_all <;> omega
theorem cnt_all : ∀ {a : List Bool}, cnt a = a.length → ∀ i, i < a.length → a.getD i false = true := by
  intro a
  induction a with
  | nil => intro _ i hi; simp at hi
  | cons x a ih =>
    intro h i hi
    have hc := cnt_le a
    cases x with
    | false =>
      have : cnt (false :: a) = cnt a := by simp [cnt]
      rw [this] at h
      simp at h; omega
    | true =>
      have : cnt (true :: a) = cnt a + 1 := by simp [cnt]
      rw [this] at h
      cases i with
      | zero => simp
      | succ i => simpa using ih (by simpa using h) i (by simpa using hi)
def stepU (next : List (List Int)) (a b out : List Bool) : List Bool := (List.range next.length).map fun i => b.getD i false || (a.getD i false && (exL next out).getD i false)
theorem stepU_length (next : List (List Int)) (a b out : List Bool) : (stepU next a b out).length = next.length := by simp [stepU]
theorem stepU_at (next : List (List Int)) (a b out : List Bool) (i : Nat) : (stepU next a b out).getD i false = true ↔ i < next.length ∧ (b.getD i false = true ∨ (a.getD i false = true ∧ ∃ k, edge next i k ∧ out.getD k false = true)) := by
  unfold stepU
  rw [List.getD, List.getElem?_map]
  rcases Nat.lt_or_ge i next.length with h | h
  · rw [List.getElem?_range h]
    simp only [Option.map_some, Option.getD_some, Bool.or_eq_true, Bool.and_eq_true, exL_at]
    exact ⟨fun hh => ⟨h, hh⟩, fun hh => hh.2⟩
  · rw [List.getElem?_eq_none (by simpa using h)]
    simp; omega
def itU (next : List (List Int)) (a b : List Bool) : Nat → List Bool
  | 0 => List.replicate next.length false
  | m + 1 => stepU next a b (itU next a b m)
theorem itU_length (next : List (List Int)) (a b : List Bool) : ∀ m, (itU next a b m).length = next.length
  | 0 => by simp [itU]
  | m + 1 => stepU_length _ _ _ _
theorem itU_sound (next : List (List Int)) (a b : List Bool) : ∀ m i, (itU next a b m).getD i false = true → EUp next a b i
  | 0, i, h => by
    exfalso
    rw [itU, List.getD, List.getElem?_replicate] at h
    split at h <;> simp at h
  | m + 1, i, h => by
    rw [itU, stepU_at] at h
    obtain ⟨h0, h⟩ := h
    rcases h with h | ⟨h1, k, h2, h3⟩
    · exact .here i h0 h
    · exact .step i k h0 h1 h2 (itU_sound next a b m k h3)
theorem itU_mono (next : List (List Int)) (a b : List Bool) : ∀ m i, (itU next a b m).getD i false = true → (itU next a b (m + 1)).getD i false = true
  | 0, i, h => by
    exfalso
    rw [itU, List.getD, List.getElem?_replicate] at h
    split at h <;> simp at h
  | m + 1, i, h => by
    rw [itU, stepU_at] at h ⊢
    obtain ⟨h0, h⟩ := h
    refine ⟨h0, ?_⟩
    rcases h with h | ⟨h1, k, h2, h3⟩
    · exact .inl h
    · exact .inr ⟨h1, k, h2, itU_mono next a b m k h3⟩
theorem eu_closed (next : List (List Int)) (a b out : List Bool) (h : ∀ i, i < next.length → (b.getD i false = true ∨ (a.getD i false = true ∧ ∃ k, edge next i k ∧ out.getD k false = true)) → out.getD i false = true) : ∀ i, EUp next a b i → out.getD i false = true := by
  intro i hi
  induction hi with
  | here i h0 h1 => exact h i h0 (.inl h1)
  | step i k h0 h1 h2 _ ih => exact h i h0 (.inr ⟨h1, k, h2, ih⟩)
theorem itU_stable (next : List (List Int)) (a b : List Bool) (m : Nat) (h : itU next a b (m + 1) = itU next a b m) : itU next a b (m + 1) = euL next a b := by
  refine set_ext (by rw [itU_length, euL_length]) fun i _ => ?_
  rw [euL_at]
  refine ⟨itU_sound next a b _ i, eu_closed next a b _ (fun i hi hh => ?_) i⟩
  rw [itU, stepU_at, ← h]
  exact ⟨hi, hh⟩
theorem itU_all (next : List (List Int)) (a b : List Bool) (m : Nat) (h : next.length ≤ cnt (itU next a b m)) : itU next a b m = euL next a b := by
  refine set_ext (by rw [itU_length, euL_length]) fun i hi => ?_
  rw [euL_at]
  refine ⟨itU_sound next a b _ i, fun _ => cnt_all ?_ i hi⟩
  have := cnt_le (itU next a b m)
  rw [itU_length] at this ⊢
  omega
def stepG (next : List (List Int)) (out : List Bool) : List Bool := (List.range next.length).map fun i => out.getD i false && (exL next out).getD i false
theorem stepG_length (next : List (List Int)) (out : List Bool) : (stepG next out).length = next.length := by simp [stepG]
theorem stepG_at (next : List (List Int)) (out : List Bool) (i : Nat) : (stepG next out).getD i false = true ↔ i < next.length ∧ out.getD i false = true ∧ ∃ k, edge next i k ∧ out.getD k false = true := by
  unfold stepG
  rw [List.getD, List.getElem?_map]
  rcases Nat.lt_or_ge i next.length with h | h
  · rw [List.getElem?_range h]
    simp only [Option.map_some, Option.getD_some, Bool.and_eq_true, exL_at]
    exact ⟨fun hh => ⟨h, hh⟩, fun hh => hh.2⟩
  · rw [List.getElem?_eq_none (by simpa using h)]
    simp; omega
def itG (next : List (List Int)) (a : List Bool) : Nat → List Bool
  | 0 => (List.range next.length).map fun i => a.getD i false
  | m + 1 => stepG next (itG next a m)
theorem itG_length (next : List (List Int)) (a : List Bool) : ∀ m, (itG next a m).length = next.length
  | 0 => by simp [itG]
  | m + 1 => stepG_length _ _
theorem itG_zero (next : List (List Int)) (a : List Bool) (i : Nat) : (itG next a 0).getD i false = true ↔ i < next.length ∧ a.getD i false = true := by
  rw [itG, List.getD, List.getElem?_map]
  rcases Nat.lt_or_ge i next.length with h | h
  · rw [List.getElem?_range h]; simp [h]
  · rw [List.getElem?_eq_none (by simpa using h)]; simp; omega
theorem itG_sup (next : List (List Int)) (a : List Bool) : ∀ m i, EGp next a i → (itG next a m).getD i false = true
  | 0, i, h => by
    obtain ⟨S, h1, h2⟩ := h
    obtain ⟨h3, h4, _⟩ := h2 i h1
    exact (itG_zero next a i).2 ⟨h3, h4⟩
  | m + 1, i, h => by
    rw [itG, stepG_at]
    obtain ⟨S, h1, h2⟩ := h
    obtain ⟨h3, h4, k, h5, h6⟩ := h2 i h1
    exact ⟨h3, itG_sup next a m i ⟨S, h1, h2⟩, k, h5, itG_sup next a m k ⟨S, h6, h2⟩⟩
theorem itG_in (next : List (List Int)) (a : List Bool) : ∀ m i, (itG next a m).getD i false = true → i < next.length ∧ a.getD i false = true
  | 0, i, h => (itG_zero next a i).1 h
  | m + 1, i, h => by
    rw [itG, stepG_at] at h
    exact itG_in next a m i h.2.1
theorem eg_closed (next : List (List Int)) (a out : List Bool) (h : ∀ i, out.getD i false = true → i < next.length ∧ a.getD i false = true ∧ ∃ k, edge next i k ∧ out.getD k false = true) : ∀ i, out.getD i false = true → EGp next a i :=
  fun i hi => ⟨fun j => out.getD j false = true, hi, fun j hj => h j hj⟩
theorem itG_stable (next : List (List Int)) (a : List Bool) (m : Nat) (h : itG next a (m + 1) = itG next a m) : itG next a (m + 1) = egL next a := by
  refine set_ext (by rw [itG_length, egL_length]) fun i _ => ?_
  rw [egL_at]
  refine ⟨eg_closed next a _ (fun i hi => ?_) i, itG_sup next a _ i⟩
  have h1 := itG_in next a _ i hi
  rw [h] at hi ⊢
  rw [← h, itG, stepG_at] at hi
  exact ⟨h1.1, h1.2, hi.2.2⟩
theorem itG_less (next : List (List Int)) (a : List Bool) (m : Nat) (h : itG next a (m + 1) ≠ itG next a m) : cnt (itG next a (m + 1)) < cnt (itG next a m) :=
  cnt_lt (by rw [itG_length, itG_length]) (fun i hi => by rw [itG, stepG_at] at hi; exact hi.2.1) h
theorem itU_more (next : List (List Int)) (a b : List Bool) (m : Nat) (h : itU next a b (m + 1) ≠ itU next a b m) : cnt (itU next a b m) < cnt (itU next a b (m + 1)) :=
  cnt_lt (by rw [itU_length, itU_length]) (itU_mono next a b m) (fun e => h e.symm)

/-- with more there is more -/
theorem ex_grows {next : List (List Int)} {a b : List Bool} (h : ∀ i, a.getD i false = true → b.getD i false = true) (i : Nat) (hi : (exL next a).getD i false = true) : (exL next b).getD i false = true := by
  rw [exL_at] at hi ⊢
  obtain ⟨k, h1, h2⟩ := hi
  exact ⟨k, h1, h k h2⟩
theorem eu_grows {next : List (List Int)} {a b b' : List Bool} (h : ∀ i, b.getD i false = true → b'.getD i false = true) (i : Nat) (hi : (euL next a b).getD i false = true) : (euL next a b').getD i false = true := by
  rw [euL_at] at hi ⊢
  induction hi with
  | here i h0 h1 => exact .here i h0 (h i h1)
  | step i k h0 h1 h2 _ ih => exact .step i k h0 h1 h2 ih
theorem eg_grows {next : List (List Int)} {a b : List Bool} (h : ∀ i, a.getD i false = true → b.getD i false = true) (i : Nat) (hi : (egL next a).getD i false = true) : (egL next b).getD i false = true := by
  rw [egL_at] at hi ⊢
  obtain ⟨S, h1, h2⟩ := hi
  exact ⟨S, h1, fun j hj => ⟨(h2 j hj).1, h j (h2 j hj).2.1, (h2 j hj).2.2⟩⟩
def andL (a b : List Bool) : List Bool := (List.range (max a.length b.length)).map fun i => a.getD i false && b.getD i false
theorem andL_at (a b : List Bool) (i : Nat) : (andL a b).getD i false = (a.getD i false && b.getD i false) := by
  unfold andL
  rw [List.getD, List.getElem?_map]
  rcases Nat.lt_or_ge i (max a.length b.length) with h | h
  · rw [List.getElem?_range h]; rfl
  · rw [List.getElem?_eq_none (by simpa using h), List.getD, List.getElem?_eq_none (by omega)]; rfl

end Go.Proofs.Ytcdeidedcbnhaaa
