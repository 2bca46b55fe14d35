/-
  PLAIN: what lies in what. No program.
-/
import Derived.WalkKit
set_option linter.unusedVariables false
set_option linter.unusedSimpArgs false
namespace Go.Proofs.Ytfocnmkbnccilaa

theorem nodup_len : ∀ (n : Nat) (l : List Int), l.Nodup → (∀ x ∈ l, 0 ≤ x ∧ x < (n : Int)) → l.length ≤ n := by
  intro n
  induction n with
  | zero =>
    intro l _ h
    cases l with
    | nil => simp
    | cons x l => have := h x (by simp); omega
  | succ n ih =>
    intro l hn h
    by_cases hm : (n : Int) ∈ l
    · have h1 := ih (l.erase (n : Int)) (hn.erase _) (fun x hx => by
        have := (hn.mem_erase_iff).1 hx
        have := h x this.2
        omega)
      rw [List.length_erase_of_mem hm] at h1
      omega
    · have := ih l hn (fun x hx => by
        have h2 := h x hx
        have : x ≠ (n : Int) := fun e => hm (e ▸ hx)
        omega)
      omega

/-- is it a place? -/
def isAt (l : List Int) (i : Int) : Prop := 0 ≤ i ∧ i < (l.length : Int)
instance (l : List Int) (i : Int) : Decidable (isAt l i) := by unfold isAt; infer_instance
/-- the place itself; -1: it is none -/
def norm (l : List Int) (i : Int) : Int := if isAt l i then i else -1
/-- the place that a place lies in; -1: none -/
def par (l : List Int) (i : Int) : Int := if isAt l i then norm l (l.getD i.toNat 0) else -1
def upN (l : List Int) (i : Int) : Nat → Int
  | 0 => norm l i
  | k + 1 => par l (upN l i k)
/-- the places above, so many at the most -/
def goUp (l : List Int) (i : Int) : Nat → Int → List Int → List Int
  | 0, _, out => out
  | f + 1, p, out => if par l p = -1 ∨ par l p = i ∨ par l p ∈ out then out else goUp l i f (par l p) (out ++ [par l p])
def aboveL (l : List Int) (i : Int) : List Int := goUp l i l.length i []

theorem norm_cases (l : List Int) (i : Int) : (isAt l i ∧ norm l i = i) ∨ (¬ isAt l i ∧ norm l i = -1) := by
  unfold norm; split <;> simp [*]
theorem norm_at (l : List Int) (i : Int) : norm l i = -1 ∨ isAt l (norm l i) := by
  rcases norm_cases l i with ⟨h, e⟩ | ⟨_, e⟩ <;> rw [e]
  · exact .inr h
  · exact .inl rfl
theorem norm_norm (l : List Int) (i : Int) : norm l (norm l i) = norm l i := by
  rcases norm_cases l i with ⟨h, e⟩ | ⟨_, e⟩
  · rw [e, e]
  · rw [e]; simp [norm, isAt]
theorem par_at (l : List Int) (i : Int) : par l i = -1 ∨ isAt l (par l i) := by
  unfold par; split
  · exact norm_at _ _
  · exact .inl rfl
theorem par_norm (l : List Int) (i : Int) : par l (norm l i) = par l i := by
  rcases norm_cases l i with ⟨h, e⟩ | ⟨h, e⟩
  · rw [e]
  · rw [e]; unfold par; rw [if_neg h, if_neg (by simp [isAt])]
theorem par_none (l : List Int) : par l (-1) = -1 := by unfold par; rw [if_neg (by simp [isAt])]
theorem upN_at (l : List Int) (i : Int) : ∀ k, upN l i k = -1 ∨ isAt l (upN l i k)
  | 0 => norm_at _ _
  | _ + 1 => par_at _ _
theorem upN_none (l : List Int) (i : Int) (k : Nat) (h : upN l i k = -1) : ∀ d, upN l i (k + d) = -1
  | 0 => h
  | d + 1 => by rw [← Nat.add_assoc, upN, upN_none l i k h d, par_none]
theorem upN_one (l : List Int) (i : Int) : upN l i 1 = par l i := par_norm l i

/-- the state of the way up: so many places told, all unlike, none the first one -/
structure UpAt (l : List Int) (i : Int) (m : Nat) (p : Int) (out : List Int) : Prop where
  len : out.length = m
  eq : ∀ j, j < m → out[j]? = some (upN l i (j + 1))
  cur : par l p = upN l i (m + 1)
  nodup : out.Nodup
  at_ : ∀ x ∈ out, isAt l x
  not : i ∉ out
  room : m ≤ l.length
  rest : goUp l i (l.length - m) p out = aboveL l i
theorem UpAt.start (l : List Int) (i : Int) : UpAt l i 0 i [] :=
  ⟨rfl, fun j h => by omega, (upN_one l i).symm, List.nodup_nil, fun x h => by simp at h, by simp, by omega, rfl⟩
def stops (l : List Int) (i : Int) (p : Int) (out : List Int) : Prop := par l p = -1 ∨ par l p = i ∨ par l p ∈ out
instance (l : List Int) (i p : Int) (out : List Int) : Decidable (stops l i p out) := by unfold stops; infer_instance
theorem UpAt.stop {l : List Int} {i : Int} {m : Nat} {p : Int} {out : List Int} (h : UpAt l i m p out) (hs : stops l i p out) : out = aboveL l i := by
  rw [← h.rest]
  cases l.length - m with
  | zero => rfl
  | succ f => rw [goUp]; exact (if_pos hs).symm
theorem UpAt.next {l : List Int} {i : Int} {m : Nat} {p : Int} {out : List Int} (h : UpAt l i m p out) (hs : ¬ stops l i p out) : UpAt l i (m + 1) (par l p) (out ++ [par l p]) ∧ m + 1 ≤ l.length := by
  unfold stops at hs
  simp only [not_or] at hs
  have hat : isAt l (par l p) := (par_at l p).resolve_left hs.1
  have hnd : (out ++ [par l p]).Nodup := by
    rw [List.nodup_append]
    refine ⟨h.nodup, by simp, fun a ha b hb e => ?_⟩
    simp at hb
    subst hb; subst e
    exact hs.2.2 ha
  have hall : ∀ x ∈ out ++ [par l p], isAt l x := by
    intro x hx
    rcases List.mem_append.1 hx with hx | hx
    · exact h.at_ x hx
    · simp at hx; subst hx; exact hat
  have hlen : m + 1 ≤ l.length := by
    have := nodup_len l.length _ hnd hall
    simp [h.len] at this
    exact this
  refine ⟨⟨by simp [h.len], fun j hj => ?_, by rw [show upN l i (m + 1 + 1) = par l (upN l i (m + 1)) from rfl, h.cur], hnd, hall, ?_, hlen, ?_⟩, hlen⟩
  · by_cases hjm : j < m
    · rw [List.getElem?_append_left (by rw [h.len]; exact hjm)]; exact h.eq j hjm
    · have : j = m := by omega
      subst this
      rw [List.getElem?_append_right (by rw [h.len]; omega), h.len, Nat.sub_self]
      simp [h.cur]
  · intro hi
    rcases List.mem_append.1 hi with hi | hi
    · exact h.not hi
    · simp at hi; exact hs.2.1 hi.symm
  · have := h.rest
    rw [show l.length - m = (l.length - (m + 1)) + 1 from by omega, goUp, if_neg (by simp only [not_or]; exact hs)] at this
    exact this
/-- the way up ends -/
theorem up_end (l : List Int) (i : Int) : ∃ m p, UpAt l i m p (aboveL l i) ∧ stops l i p (aboveL l i) := by
  have key : ∀ (f m : Nat) (p : Int) (out : List Int), UpAt l i m p out → l.length + 1 - m ≤ f → ∃ m p, UpAt l i m p (aboveL l i) ∧ stops l i p (aboveL l i) := by
    intro f
    induction f with
    | zero => intro m p out h hf; have := h.room; omega
    | succ f ih =>
      intro m p out h hf
      by_cases hs : stops l i p out
      · have e := h.stop hs
        rw [e] at h hs
        exact ⟨m, p, h, hs⟩
      · have := (h.next hs).1
        exact ih _ _ _ this (by omega)
  exact key _ 0 i [] (UpAt.start l i) (Nat.le_refl _)

/-- does the way up come back to where it began? -/
def circ (l : List Int) (i : Int) : Prop := isAt l i ∧ par l (((aboveL l i).getLast?).getD i) = i
instance (l : List Int) (i : Int) : Decidable (circ l i) := by unfold circ; infer_instance
theorem last_cur {l : List Int} {i : Int} {m : Nat} {p : Int} {out : List Int} (h : UpAt l i m p out) : par l ((out.getLast?).getD i) = upN l i (m + 1) := by
  cases m with
  | zero =>
    have : out = [] := List.eq_nil_of_length_eq_zero h.len
    subst this
    exact (upN_one l i).symm
  | succ m =>
    have h1 := h.eq m (by omega)
    rw [List.getLast?_eq_getElem?, h.len, Nat.add_sub_cancel, h1]
    rfl
/-- where the way up goes on -/
theorem up_all {l : List Int} {i : Int} {m : Nat} {p : Int} (h : UpAt l i m p (aboveL l i)) (hs : stops l i p (aboveL l i)) (hc : upN l i (m + 1) ≠ i ∨ i = -1) : ∀ j, upN l i (j + 1) = -1 ∨ upN l i (j + 1) ∈ aboveL l i := by
  have hst : upN l i (m + 1) = -1 ∨ upN l i (m + 1) ∈ aboveL l i := by
    rw [← h.cur]
    rcases hs with hs | hs | hs
    · exact .inl hs
    · rw [h.cur] at hs
      rcases hc with hc | hc
      · exact absurd hs hc
      · rw [h.cur, hs, hc]; exact .inl rfl
    · exact .inr hs
  intro j
  induction j with
  | zero =>
    cases m with
    | zero => exact hst
    | succ m => exact .inr (List.mem_of_getElem? (h.eq 0 (by omega)))
  | succ j ih =>
    rcases ih with ih | ih
    · left; rw [upN, ih, par_none]
    · obtain ⟨a, ha⟩ := List.mem_iff_getElem?.1 ih
      have ham : a < m := by rw [← h.len]; exact (List.getElem?_eq_some_iff.1 ha).1
      rw [h.eq a ham] at ha
      have e : upN l i (j + 1 + 1) = upN l i (a + 1 + 1) := by
        show par l (upN l i (j + 1)) = par l (upN l i (a + 1))
        rw [Option.some.inj ha]
      rw [e]
      by_cases ham2 : a + 1 < m
      · exact .inr (List.mem_of_getElem? (h.eq (a + 1) ham2))
      · have : a + 1 = m := by omega
        rw [this]; exact hst
theorem mem_above_up {l : List Int} {i : Int} {x : Int} (hx : x ∈ aboveL l i) : ∃ j, 1 ≤ j ∧ j ≤ l.length ∧ upN l i j = x := by
  obtain ⟨m, p, h, _⟩ := up_end l i
  obtain ⟨a, ha⟩ := List.mem_iff_getElem?.1 hx
  have ham : a < m := by rw [← h.len]; exact (List.getElem?_eq_some_iff.1 ha).1
  rw [h.eq a ham] at ha
  exact ⟨a + 1, by omega, by have := h.room; omega, Option.some.inj ha⟩
/-- what lies above is what some steps up lead to -/
theorem mem_above (l : List Int) (i x : Int) (hx : 0 ≤ x) (hne : i ≠ x) : x ∈ aboveL l i ↔ ∃ j, 1 ≤ j ∧ j ≤ l.length ∧ upN l i j = x := by
  refine ⟨mem_above_up, fun ⟨j, h1, h2, h3⟩ => ?_⟩
  obtain ⟨m, p, h, hs⟩ := up_end l i
  by_cases hc : upN l i (m + 1) = i
  · -- it comes back to i: periodic
    have key : ∀ j, upN l i (j + 1) ∈ aboveL l i ∨ upN l i (j + 1) = i ∨ upN l i (j + 1) = -1 := by
      intro j
      induction j with
      | zero =>
        cases m with
        | zero => exact .inr (.inl hc)
        | succ m => exact .inl (List.mem_of_getElem? (h.eq 0 (by omega)))
      | succ j ih =>
        rcases ih with ih | ih | ih
        · obtain ⟨a, ha⟩ := List.mem_iff_getElem?.1 ih
          have ham : a < m := by rw [← h.len]; exact (List.getElem?_eq_some_iff.1 ha).1
          rw [h.eq a ham] at ha
          have e : upN l i (j + 1 + 1) = upN l i (a + 1 + 1) := by
            show par l (upN l i (j + 1)) = par l (upN l i (a + 1))
            rw [Option.some.inj ha]
          rw [e]
          by_cases ham2 : a + 1 < m
          · exact .inl (List.mem_of_getElem? (h.eq (a + 1) ham2))
          · have : a + 1 = m := by omega
            rw [this]; exact .inr (.inl hc)
        · have e : upN l i (j + 1 + 1) = upN l i 1 := by
            show par l (upN l i (j + 1)) = upN l i 1
            rw [ih, upN_one]
          rw [e]
          cases m with
          | zero => exact .inr (.inl hc)
          | succ m => exact .inl (List.mem_of_getElem? (h.eq 0 (by omega)))
        · right; right; rw [upN, ih, par_none]
    have := key (j - 1)
    rw [show j - 1 + 1 = j from by omega, h3] at this
    rcases this with this | this | this
    · exact this
    · exact absurd this.symm hne
    · omega
  · have := up_all h hs (.inl hc) (j - 1)
    rw [show j - 1 + 1 = j from by omega, h3] at this
    rcases this with this | this
    · omega
    · exact this
theorem circ_iff (l : List Int) (i : Int) (hi : isAt l i) : circ l i ↔ ∃ j, 1 ≤ j ∧ j ≤ l.length ∧ upN l i j = i := by
  obtain ⟨m, p, h, hs⟩ := up_end l i
  unfold circ
  rw [last_cur h]
  refine ⟨fun hh => ⟨m + 1, by omega, ?_, hh.2⟩, fun ⟨j, h1, h2, h3⟩ => ⟨hi, ?_⟩⟩
  · have hnd : (i :: aboveL l i).Nodup := List.nodup_cons.2 ⟨h.not, h.nodup⟩
    have := nodup_len l.length _ hnd (fun x hx => by
      rcases List.mem_cons.1 hx with rfl | hx
      · exact hi
      · exact h.at_ x hx)
    simp [h.len] at this
    omega
  · by_cases hc : upN l i (m + 1) = i
    · exact hc
    · have := up_all h hs (.inl hc) (j - 1)
      rw [show j - 1 + 1 = j from by omega, h3] at this
      rcases this with this | this
      · have := hi.1; omega
      · exact absurd this h.not

def circleL (l : List Int) : Int := (((List.range l.length).find? fun (i : Nat) => decide (circ l (i : Int))).map fun (i : Nat) => (i : Int)).getD (-1)
def belowL (l : List Int) (i : Int) : List Int := if isAt l i then (((List.range l.length).filter fun (k : Nat) => decide ((k : Int) ≠ i ∧ i ∈ aboveL l (k : Int))).map fun (k : Nat) => (k : Int)) else []
def rootsL (l : List Int) : List Int := ((List.range l.length).filter fun (k : Nat) => decide (par l (k : Int) = -1)).map fun (k : Nat) => (k : Int)
def isL (l : List Int) (a i : Int) : Prop := ∃ j, 1 ≤ j ∧ j ≤ l.length ∧ 0 ≤ a ∧ upN l i j = a

end Go.Proofs.Ytfocnmkbnccilaa
