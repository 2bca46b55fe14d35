/-
  THE SEARCH of path.Shortest, in plain Lean: what holds of its rows.
-/
import Derived.Test.YtcdeidedcbnhaaaPathFar
set_option linter.unusedVariables false
set_option linter.unusedSimpArgs false
namespace Go.Proofs.Ytcdeidedcbnhaaa

abbrev Came := Int × Int
def noC : Came := (-1, -1)
/-- what holds of the search's rows: lev: how many steps each is away -/
structure BQ (next : List (List Int)) (by_ : List Came) (row lev : List Nat) : Prop where
  blen : by_.length = next.length
  llen : lev.length = row.length
  lt : ∀ q, q < row.length → row.getD q 0 < next.length
  nodup : row.Nodup
  disc : ∀ x, x < next.length → (0 ≤ (by_.getD x noC).1 ↔ x ∈ row)
  sorted : ∀ q q', q ≤ q' → q' < row.length → lev.getD q 0 ≤ lev.getD q' 0
def Win (row lev : List Nat) (a : Nat) : Prop := ∀ q, q < row.length → lev.getD q 0 ≤ lev.getD a 0 + 1
/-- there is a way: how far the search has come along the greedy one -/
structure FP (next : List (List Int)) (far : List Int) (x0 D : Nat) (by_ : List Came) (row lev : List Nat) (a j p : Nat) : Prop where
  hj : j ≤ D
  hp : p < row.length
  rowp : row.getD p 0 = vAt next far x0 j
  levp : lev.getD p 0 = j
  ap : a ≤ p
  low : ∀ q, q < row.length → 0 ≤ far.getD (row.getD q 0) 0 → (D : Int) ≤ lev.getD q 0 + far.getD (row.getD q 0) 0
  tight : ∀ q, q < row.length → 0 ≤ far.getD (row.getD q 0) 0 → (lev.getD q 0 : Int) + far.getD (row.getD q 0) 0 = D → j ≤ lev.getD q 0 → lev.getD q 0 = j ∧ p ≤ q
  from0 : by_.getD x0 noC = ((x0 : Int), -1)
  chain : ∀ i, i < j → by_.getD (vAt next far x0 (i + 1)) noC = ((vAt next far x0 i : Int), (eAt next far x0 i : Int))

theorem nget_app (l : List Nat) (x q : Nat) : (l ++ [x]).getD q 0 = if q < l.length then l.getD q 0 else if q = l.length then x else 0 := by
  by_cases h : q < l.length
  · rw [if_pos h, List.getD, List.getElem?_append_left h]; rfl
  · rw [if_neg h, List.getD, List.getElem?_append_right (by omega)]
    by_cases h2 : q = l.length
    · subst h2; simp
    · rw [if_neg h2, List.getElem?_eq_none (by simp; omega)]; rfl
theorem cget_set (l : List Came) (k : Nat) (x : Came) (h : k < l.length) (j : Nat) : (l.set k x).getD j noC = if j = k then x else l.getD j noC := by
  simp only [List.getD, List.getElem?_set]
  by_cases e : j = k
  · subst e; simp [h]
  · rw [if_neg (fun h => e h.symm), if_neg e]
theorem nget_mem {l : List Nat} {q : Nat} (h : q < l.length) : l.getD q 0 ∈ l := by
  rw [List.getD, List.getElem?_eq_getElem h]; exact List.getElem_mem h
theorem mem_nget {l : List Nat} {x : Nat} (h : x ∈ l) : ∃ q, q < l.length ∧ l.getD q 0 = x := by
  obtain ⟨q, hq, rfl⟩ := List.getElem_of_mem h
  exact ⟨q, hq, by rw [List.getD, List.getElem?_eq_getElem hq]; rfl⟩

section
variable {next : List (List Int)} {th tg : List Bool} {far : List Int} {by_ : List Came} {row lev : List Nat} {x0 D a j p : Nat}
theorem BQ.add (h : BQ next by_ row lev) (ha : a < row.length) (hw : Win row lev a) {x : Nat} (hx : x < next.length) (hn : x ∉ row) (u : Nat) (k : Int) : BQ next (by_.set x ((u : Int), k)) (row ++ [x]) (lev ++ [lev.getD a 0 + 1]) := by
  have hxl : x < by_.length := by rw [h.blen]; exact hx
  refine ⟨by rw [List.length_set, h.blen], by simp [h.llen], fun q hq => ?_, ?_, fun y hy => ?_, fun q q' h1 h2 => ?_⟩
  · rw [nget_app]
    split
    · exact h.lt q (by assumption)
    · split
      · exact hx
      · simp at hq; omega
  · rw [List.nodup_append]
    exact ⟨h.nodup, by simp, fun y hy z hz => by simp at hz; subst hz; exact fun e => hn (e ▸ hy)⟩
  · rw [cget_set _ _ _ hxl]
    split
    · rename_i e; subst e; simp
    · rename_i e
      rw [h.disc y hy]; simp [e]
  · rw [nget_app, nget_app, h.llen]
    simp at h2
    by_cases e : q' < row.length
    · rw [if_pos (by omega), if_pos e]; exact h.sorted q q' h1 e
    · have e2 : q' = row.length := by omega
      rw [if_neg e, if_pos e2]
      by_cases e3 : q < row.length
      · rw [if_pos e3]; exact hw q e3
      · rw [if_neg e3, if_pos (by omega)]; exact Nat.le_refl _
theorem Win.add (hl : lev.length = row.length) (ha : a < row.length) (hw : Win row lev a) (x : Nat) : Win (row ++ [x]) (lev ++ [lev.getD a 0 + 1]) a := by
  intro q hq
  rw [nget_app, nget_app, hl, if_pos ha]
  split
  · exact hw q (by assumption)
  · split <;> omega
theorem Win.more (h : BQ next by_ row lev) (hw : Win row lev a) (ha : a + 1 < row.length) : Win row lev (a + 1) := by
  intro q hq
  have := hw q hq
  have := h.sorted a (a + 1) (by omega) ha
  omega
/-- the node that the greedy way leads to next has not been met -/
theorem FP.fresh (hB : BQ next by_ row lev) (hw : Win row lev p) (h : FP next far x0 D by_ row lev a j p) {x : Nat} (hf : far.getD x 0 = ((D - (j + 1) : Nat) : Int)) (hj : j < D) : x ∉ row := by
  intro hm
  obtain ⟨q, hq, rfl⟩ := mem_nget hm
  have h1 := h.low q hq (by omega)
  have h2 := hw q hq
  rw [h.levp] at h2
  have h3 := h.tight q hq (by omega) (by omega) (by omega)
  omega
/-- a place is met that is not the greedy way's next one -/
theorem FP.side (hB : BQ next by_ row lev) (hD : Dist next th tg far) (hw : Win row lev a) (h : FP next far x0 D by_ row lev a j p) (ha : a < row.length) {x k : Nat} (hx : x < next.length) (hn : x ∉ row) (hx0 : x0 < next.length)
    (he : (x : Int) ∈ next.getD (row.getD a 0) []) (hth : th.getD (row.getD a 0) false = true) (hno : a = p → ¬ far.getD x 0 = far.getD (row.getD a 0) 0 - 1) :
    FP next far x0 D (by_.set x ((row.getD a 0 : Nat), (k : Int))) (row ++ [x]) (lev ++ [lev.getD a 0 + 1]) a j p := by
  have hxl : x < by_.length := by rw [hB.blen]; exact hx
  have hu := hB.lt a ha
  have hcomp := hD.comp _ x hu hx he hth
  have hl := hB.llen
  refine ⟨h.hj, by have := h.hp; simp; omega, ?_, ?_, h.ap, fun q hq h0 => ?_, fun q hq h0 h1 h2 => ?_, ?_, fun i hi => ?_⟩
  · rw [nget_app, if_pos h.hp]; exact h.rowp
  · rw [nget_app, hl, if_pos h.hp]; exact h.levp
  · rw [nget_app] at h0 ⊢
    rw [nget_app, hl]
    split at h0
    · rename_i e; rw [if_pos e, if_pos e]; exact h.low q e h0
    · rename_i e
      have e2 : q = row.length := by simp at hq; omega
      rw [if_pos e2] at h0
      rw [if_neg e, if_pos e2, if_neg e, if_pos e2]
      have hc := hcomp h0
      have := h.low a ha hc.1
      omega
  · rw [nget_app] at h0 h1
    rw [nget_app, hl] at h1 h2 ⊢
    split at h0
    · rename_i e; rw [if_pos e] at h1 h2 ⊢; rw [if_pos e] at h1; exact h.tight q e h0 h1 h2
    · rename_i e
      have e2 : q = row.length := by simp at hq; omega
      rw [if_pos e2] at h0
      rw [if_neg e, if_pos e2] at h1 h2 ⊢
      rw [if_neg e, if_pos e2] at h1
      have hc := hcomp h0
      have hlow := h.low a ha hc.1
      have hlt : lev.getD a 0 < j := by
        rcases Nat.lt_or_ge (lev.getD a 0) j with h5 | h5
        · exact h5
        · have := h.tight a ha hc.1 (by omega) h5
          have hap := h.ap
          exact absurd (by omega) (hno (by omega))
      have := h.hp
      omega
  · rw [cget_set _ _ _ hxl, if_neg]
    · exact h.from0
    · intro e
      have := (hB.disc x0 hx0).1 (by rw [h.from0]; simp)
      exact hn (e ▸ this)
  · have hc := h.chain i hi
    rw [cget_set _ _ _ hxl, if_neg]
    · exact hc
    · intro e
      have := (hB.disc x hx).1 (by rw [← e, hc]; simp)
      exact hn this
/-- the greedy way's next place is met -/
theorem FP.along (hB : BQ next by_ row lev) (h : FP next far x0 D by_ row lev p j p) {x : Nat} (hx : x < next.length) (hn : x ∉ row) (hx0 : x0 < next.length) (hv : x = vAt next far x0 (j + 1)) (hf : far.getD x 0 = ((D - (j + 1) : Nat) : Int)) (hj : j < D) :
    FP next far x0 D (by_.set x ((row.getD p 0 : Nat), (eAt next far x0 j : Int))) (row ++ [x]) (lev ++ [lev.getD p 0 + 1]) p (j + 1) row.length := by
  have hxl : x < by_.length := by rw [hB.blen]; exact hx
  have hl := hB.llen
  refine ⟨by omega, by simp, ?_, ?_, by have := h.hp; omega, fun q hq h0 => ?_, fun q hq h0 h1 h2 => ?_, ?_, fun i hi => ?_⟩
  · rw [nget_app, if_neg (by omega), if_pos rfl, hv]
  · rw [nget_app, hl, if_neg (by omega), if_pos rfl, h.levp]
  · rw [nget_app] at h0 ⊢
    rw [nget_app, hl]
    split at h0
    · rename_i e; rw [if_pos e, if_pos e]; exact h.low q e h0
    · rename_i e
      have e2 : q = row.length := by simp at hq; omega
      rw [if_neg e, if_pos e2, if_neg e, if_pos e2, h.levp, hf]
      omega
  · rw [nget_app] at h0 h1
    rw [nget_app, hl] at h1 h2 ⊢
    split at h0
    · rename_i e; rw [if_pos e] at h1 h2 ⊢; rw [if_pos e] at h1
      have := h.tight q e h0 h1 (by omega); omega
    · rename_i e
      have e2 : q = row.length := by simp at hq; omega
      rw [if_neg e, if_pos e2, h.levp]
      omega
  · rw [cget_set _ _ _ hxl, if_neg]
    · exact h.from0
    · intro e
      have := (hB.disc x0 hx0).1 (by rw [h.from0]; simp)
      exact hn (e ▸ this)
  · by_cases e : i = j
    · subst e
      rw [cget_set _ _ _ hxl, if_pos hv.symm, h.rowp]
    · have hc := h.chain i (by omega)
      rw [cget_set _ _ _ hxl, if_neg]
      · exact hc
      · intro e
        have := (hB.disc x hx).1 (by rw [← e, hc]; simp)
        exact hn this
/-- a target is met -/
theorem FP.target (hB : BQ next by_ row lev) (hD : Dist next th tg far) (h : FP next far x0 D by_ row lev a j p) (ht : tg.getD (row.getD a 0) false = true) : a = p ∧ j = D := by
  have hap := h.ap
  have hp := h.hp
  have ha : a < row.length := by omega
  have h0 := (hD.zero _ (hB.lt a ha)).2 ht
  have h1 := h.low a ha (by omega)
  have h2 := hB.sorted a p hap hp
  rw [h.levp] at h2
  have hj := h.hj
  have := h.tight a ha (by omega) (by omega) (by omega)
  omega
end
end Go.Proofs.Ytcdeidedcbnhaaa
