/-
  A WAY THAT GOES ON FOR EVER, in plain Lean: always the first edge that stays within the set; where it comes round.
-/
import Derived.Test.YtcdeidedcbnhaaaPathSI
import Derived.Test.YtcdeidedcbnhaaaLabelSpec
set_option linter.unusedVariables false
set_option linter.unusedSimpArgs false
namespace Go.Proofs.Ytcdeidedcbnhaaa

def stayK (next : List (List Int)) (ever : List Bool) (x : Nat) : Nat := (next.getD x []).findIdx (isB ever)
def stayV (next : List (List Int)) (ever : List Bool) (x : Nat) : Nat := ((next.getD x []).getD (stayK next ever x) 0).toNat
def lV (next : List (List Int)) (ever : List Bool) (x : Nat) : Nat → Nat
  | 0 => x
  | j + 1 => stayV next ever (lV next ever x j)
def lK (next : List (List Int)) (ever : List Bool) (x j : Nat) : Nat := stayK next ever (lV next ever x j)
def lWay (next : List (List Int)) (ever : List Bool) (x m : Nat) : List Int := (List.range m).map fun j => (lK next ever x j : Int)
def lPl (next : List (List Int)) (ever : List Bool) (x m : Nat) : List Nat := (List.range m).map (lV next ever x)
/-- from each place of the set a way leads to one of it -/
def Ever (next : List (List Int)) (ever : List Bool) : Prop := ∀ x, ever.getD x false = true → x < next.length ∧ ∃ k, edge next x k ∧ ever.getD k false = true
def Fresh (next : List (List Int)) (ever : List Bool) (x m : Nat) : Prop := ∀ i j, i < j → j < m → lV next ever x i ≠ lV next ever x j
def First (next : List (List Int)) (ever : List Bool) (x m n : Nat) : Prop := n < m ∧ lV next ever x m = lV next ever x n ∧ Fresh next ever x m
def LRes (next : List (List Int)) (ever : List Bool) (i : Int) (way : List Int) (n : Int) : Prop :=
  (isB ever i = false ∧ way = [] ∧ n = 0) ∨ (isB ever i = true ∧ ∃ m k : Nat, First next ever i.toNat m k ∧ way = lWay next ever i.toNat m ∧ n = (k : Int))
section
variable {next : List (List Int)} {ever : List Bool} {x : Nat}
theorem egL_ever (next : List (List Int)) (a : List Bool) : Ever next (egL next a) := by
  intro x h
  obtain ⟨S, h1, h2⟩ := (egL_at next a x).1 h
  obtain ⟨h3, h4, k, h5, h6⟩ := h2 x h1
  exact ⟨h3, k, h5, (egL_at next a k).2 ⟨S, h6, h2⟩⟩
theorem stay_ok (hE : Ever next ever) (h : ever.getD x false = true) : stayK next ever x < (next.getD x []).length ∧ (next.getD x []).getD (stayK next ever x) 0 = (stayV next ever x : Int) ∧ ever.getD (stayV next ever x) false = true := by
  obtain ⟨h1, k, h2, h3⟩ := hE x h
  have hlt : stayK next ever x < (next.getD x []).length := List.findIdx_lt_length.2 ⟨(k : Int), h2.1, by rw [isB_nat]; exact h3⟩
  have hp : isB ever ((next.getD x []).getD (stayK next ever x) 0) = true := by
    have := List.findIdx_getElem (w := hlt)
    rw [List.getD, List.getElem?_eq_getElem hlt]
    exact this
  have h0 := isB_lt hp
  have e : (next.getD x []).getD (stayK next ever x) 0 = (stayV next ever x : Int) := by unfold stayV; omega
  rw [e, isB_nat] at hp
  exact ⟨hlt, e, hp⟩
theorem stay_first {k : Nat} (hk : k < stayK next ever x) (hl : k < (next.getD x []).length) : isB ever ((next.getD x []).getD k 0) = false := by
  have := List.not_of_lt_findIdx hk
  rw [List.getD, List.getElem?_eq_getElem hl]
  simpa using this
theorem lV_ok (hE : Ever next ever) (h : ever.getD x false = true) : ∀ j, ever.getD (lV next ever x j) false = true
  | 0 => h
  | j + 1 => (stay_ok hE (lV_ok hE h j)).2.2
theorem lV_lt (hE : Ever next ever) (h : ever.getD x false = true) (j : Nat) : lV next ever x j < next.length := (hE _ (lV_ok hE h j)).1
theorem Fresh.zero : Fresh next ever x 0 := fun i j h1 h2 => by omega
theorem Fresh.more {m : Nat} (h : Fresh next ever x m) (hn : ∀ i, i < m → lV next ever x i ≠ lV next ever x m) : Fresh next ever x (m + 1) := fun i j h1 h2 => by
  by_cases e : j = m
  · subst e; exact hn i h1
  · exact h i j h1 (by omega)
theorem Fresh.nodup {m : Nat} (h : Fresh next ever x m) : (lPl next ever x m).Nodup := by
  unfold lPl
  rw [List.Nodup, List.pairwise_map]
  refine List.Pairwise.imp_of_mem (fun {a b} ha hb hab => ?_) (List.pairwise_lt_range (n := m))
  exact h a b hab (List.mem_range.1 hb)
theorem Fresh.le (hE : Ever next ever) (hx : ever.getD x false = true) {m : Nat} (h : Fresh next ever x m) : m ≤ next.length := by
  have := nodup_le next.length _ h.nodup (fun y hy => by
    unfold lPl at hy
    obtain ⟨j, _, rfl⟩ := List.mem_map.1 hy
    exact lV_lt hE hx j)
  simpa [lPl] using this
theorem First.unique {m n m' n' : Nat} (h : First next ever x m n) (h' : First next ever x m' n') : m = m' ∧ n = n' := by
  obtain ⟨a1, a2, a3⟩ := h
  obtain ⟨b1, b2, b3⟩ := h'
  rcases Nat.lt_trichotomy m m' with h | h | h
  · exact absurd a2.symm (b3 n m a1 h)
  · subst h
    refine ⟨rfl, ?_⟩
    rcases Nat.lt_trichotomy n n' with h | h | h
    · exact absurd (a2.symm.trans b2) (a3 n n' h b1)
    · exact h
    · exact absurd (b2.symm.trans a2) (a3 n' n h a1)
  · exact absurd b2.symm (a3 n' m' b1 h)
theorem LRes.unique {i : Int} {way way' : List Int} {n n' : Int} (h : LRes next ever i way n) (h' : LRes next ever i way' n') : way = way' ∧ n = n' := by
  rcases h with ⟨h1, rfl, rfl⟩ | ⟨h1, m, k, h2, rfl, rfl⟩
  · rcases h' with ⟨_, rfl, rfl⟩ | ⟨h1', _⟩
    · exact ⟨rfl, rfl⟩
    · rw [h1] at h1'; simp at h1'
  · rcases h' with ⟨h1', _⟩ | ⟨_, m', k', h2', rfl, rfl⟩
    · rw [h1] at h1'; simp at h1'
    · obtain ⟨rfl, rfl⟩ := h2.unique h2'
      exact ⟨rfl, rfl⟩
theorem lWay_len (next : List (List Int)) (ever : List Bool) (x m : Nat) : (lWay next ever x m).length = m := by simp [lWay]
theorem lWay_snoc (next : List (List Int)) (ever : List Bool) (x m : Nat) : lWay next ever x (m + 1) = lWay next ever x m ++ [(lK next ever x m : Int)] := by
  unfold lWay
  rw [List.range_succ, List.map_append]; rfl
theorem lPl_len (next : List (List Int)) (ever : List Bool) (x m : Nat) : (lPl next ever x m).length = m := by simp [lPl]
theorem lPl_snoc (next : List (List Int)) (ever : List Bool) (x m : Nat) : lPl next ever x (m + 1) = lPl next ever x m ++ [lV next ever x m] := by
  unfold lPl
  rw [List.range_succ, List.map_append]; rfl
theorem lPl_at {m j : Nat} (h : j < m) : (lPl next ever x m).getD j 0 = lV next ever x j := by
  unfold lPl
  rw [List.getD, List.getElem?_map, List.getElem?_range h]; rfl
theorem lK_le {m : Nat} (hr : ∀ r ∈ next, r.length ≤ 200) (j : Nat) : lK next ever x j ≤ 200 := by
  have h1 : lK next ever x j ≤ (next.getD (lV next ever x j) []).length := List.findIdx_le_length
  have h2 : (next.getD (lV next ever x j) []).length ≤ 200 := by
    by_cases hv : lV next ever x j < next.length
    · rw [List.getD, List.getElem?_eq_getElem hv]; exact hr _ (List.getElem_mem hv)
    · rw [List.getD, List.getElem?_eq_none (by omega)]; simp
  omega
end
end Go.Proofs.Ytcdeidedcbnhaaa
