/-
  THE SEARCH of path.Shortest, in plain Lean: what holds from round to round.
-/
import Derived.Test.YtcdeidedcbnhaaaPathBfs
set_option linter.unusedVariables false
set_option linter.unusedSimpArgs false
namespace Go.Proofs.Ytcdeidedcbnhaaa

theorem nodup_le : ∀ (N : Nat) (l : List Nat), l.Nodup → (∀ x ∈ l, x < N) → l.length ≤ N
  | 0, l, _, h => by
    cases l with
    | nil => simp
    | cons x l => exact absurd (h x (by simp)) (by omega)
  | N + 1, l, hn, h => by
    have h2 := nodup_le N (l.erase N) (hn.erase N) (fun x hx => by
      have h3 := (hn.mem_erase_iff).1 hx
      have := h x h3.2
      have := h3.1
      omega)
    have h3 := List.length_erase (a := N) (l := l)
    split at h3 <;> omega
theorem getI_mem {l : List Int} {k : Nat} (h : k < l.length) : l.getD k 0 ∈ l := by
  rw [List.getD, List.getElem?_eq_getElem h]; exact List.getElem_mem h
/-- the search stands at place a of the row, edge k -/
def SI (next : List (List Int)) (th tg : List Bool) (far : List Int) (x0 : Nat) (by_ : List Came) (row : List Nat) (a k : Nat) : Prop :=
  ∃ lev, BQ next by_ row lev ∧ (a < row.length → Win row lev a) ∧ a ≤ row.length ∧ ((far.getD x0 0 < 0 ∧ ∀ q, q < row.length → far.getD (row.getD q 0) 0 < 0) ∨ ∃ D j p : Nat, far.getD x0 0 = (D : Int) ∧ FP next far x0 D by_ row lev a j p ∧ (a = p → k ≤ nextK next far (row.getD p 0)))
section
variable {next : List (List Int)} {th tg : List Bool} {far : List Int} {by_ : List Came} {row : List Nat} {x0 a k : Nat}
theorem SI.start (hD : Dist next th tg far) (hx0 : x0 < next.length) : SI next th tg far x0 ((List.replicate next.length noC).set x0 ((x0 : Int), -1)) [x0] 0 0 := by
  have hl : x0 < (List.replicate next.length noC).length := by simpa using hx0
  have hr : ∀ y, (List.replicate next.length noC).getD y noC = noC := fun y => by
    rw [List.getD, List.getElem?_replicate]; split <;> rfl
  refine ⟨[0], ⟨by simp, rfl, fun q hq => ?_, by simp, fun y hy => ?_, fun q q' h1 h2 => ?_⟩, fun _ q hq => ?_, by simp, ?_⟩
  · obtain rfl : q = 0 := by simp at hq; omega
    exact hx0
  · rw [cget_set _ _ _ hl]
    split
    · rename_i e; subst e; simp
    · rename_i e; rw [hr]; simp [noC, e]
  · obtain rfl : q' = 0 := by simp at h2; omega
    obtain rfl : q = 0 := by omega
    exact Nat.le_refl _
  · obtain rfl : q = 0 := by simp at hq; omega
    simp
  · rcases Int.lt_or_le (far.getD x0 0) 0 with h | h
    · refine .inl ⟨h, fun q hq => ?_⟩
      obtain rfl : q = 0 := by simp at hq; omega
      exact h
    · obtain ⟨D, hDD⟩ := Int.eq_ofNat_of_zero_le h
      refine .inr ⟨D, 0, 0, hDD, ⟨Nat.zero_le _, by simp, rfl, rfl, Nat.le_refl _, fun q hq h0 => ?_, fun q hq h0 h1 h2 => ?_, ?_, fun i hi => absurd hi (by omega)⟩, fun _ => Nat.zero_le _⟩
      · obtain rfl : q = 0 := by simp at hq; omega
        show (D : Int) ≤ ((0 : Nat) : Int) + far.getD x0 0
        omega
      · obtain rfl : q = 0 := by simp at hq; omega
        exact ⟨rfl, Nat.le_refl _⟩
      · rw [cget_set _ _ _ hl, if_pos rfl]
theorem SI.len (h : SI next th tg far x0 by_ row a k) : row.length ≤ next.length ∧ a ≤ row.length ∧ by_.length = next.length := by
  obtain ⟨lev, hB, _, ha, _⟩ := h
  exact ⟨nodup_le _ _ hB.nodup fun x hx => by obtain ⟨q, hq, rfl⟩ := mem_nget hx; exact hB.lt q hq, ha, hB.blen⟩
theorem SI.lt (h : SI next th tg far x0 by_ row a k) (ha : a < row.length) : row.getD a 0 < next.length := by
  obtain ⟨lev, hB, _⟩ := h
  exact hB.lt a ha
theorem SI.disc (h : SI next th tg far x0 by_ row a k) {x : Nat} (hx : x < next.length) : 0 ≤ (by_.getD x noC).1 ↔ x ∈ row := by
  obtain ⟨lev, hB, _⟩ := h
  exact hB.disc x hx
/-- at the greedy way's place that is no target: the next place, not met -/
theorem SI.ahead (hD : Dist next th tg far) (hx0 : x0 < next.length) {lev : List Nat} {D j p : Nat} (hB : BQ next by_ row lev) (hw : Win row lev p) (hDD : far.getD x0 0 = (D : Int)) (hf : FP next far x0 D by_ row lev a j p) (ht : tg.getD (row.getD p 0) false = false) :
    j < D ∧ far.getD (row.getD p 0) 0 = ((D - (j + 1) : Nat) : Int) + 1 ∧ th.getD (row.getD p 0) false = true ∧ nextK next far (row.getD p 0) < (next.getD (row.getD p 0) []).length ∧ (next.getD (row.getD p 0) []).getD (nextK next far (row.getD p 0)) 0 = (vAt next far x0 (j + 1) : Int) ∧ vAt next far x0 (j + 1) < next.length ∧ far.getD (vAt next far x0 (j + 1)) 0 = ((D - (j + 1) : Nat) : Int) ∧ vAt next far x0 (j + 1) ∉ row := by
  have hv := vAt_ok hD hx0 hDD j hf.hj
  rw [← hf.rowp] at hv
  have hj : j < D := by
    rcases Nat.lt_or_ge j D with h | h
    · exact h
    · have := (hD.zero _ hv.1).1 (by rw [hv.2]; omega)
      rw [ht] at this; simp at this
  have e : far.getD (row.getD p 0) 0 = ((D - (j + 1) : Nat) : Int) + 1 := by rw [hv.2]; omega
  obtain ⟨h1, h2, h3, h4⟩ := next_ok hD hv.1 e
  have hb := hD.back _ _ hv.1 e
  have ev : nextV next far (row.getD p 0) = vAt next far x0 (j + 1) := by rw [hf.rowp]; rfl
  rw [ev] at h2 h3 h4
  exact ⟨hj, e, hb.1, h1, h2, h3, h4, FP.fresh hB hw hf h4 hj⟩
theorem SI.add (hD : Dist next th tg far) (hx0 : x0 < next.length) (h : SI next th tg far x0 by_ row a k) (ha : a < row.length) (hth : th.getD (row.getD a 0) false = true) (htg : tg.getD (row.getD a 0) false = false) (hk : k < (next.getD (row.getD a 0) []).length) {x : Nat} (hx : (next.getD (row.getD a 0) []).getD k 0 = (x : Int)) (hxn : x < next.length) (hn : x ∉ row) :
    SI next th tg far x0 (by_.set x ((row.getD a 0 : Nat), (k : Int))) (row ++ [x]) a (k + 1) := by
  obtain ⟨lev, hB, hw, hal, hc⟩ := h
  have hw := hw ha
  have hu := hB.lt a ha
  have hmem : (x : Int) ∈ next.getD (row.getD a 0) [] := hx ▸ getI_mem hk
  refine ⟨lev ++ [lev.getD a 0 + 1], hB.add ha hw hxn hn _ _, fun _ => Win.add hB.llen ha hw x, by simp; omega, ?_⟩
  rcases hc with ⟨h0, h1⟩ | ⟨D, j, p, hDD, hf, hkk⟩
  · refine .inl ⟨h0, fun q hq => ?_⟩
    rw [nget_app]
    split
    · exact h1 q (by assumption)
    · split
      · rcases Int.lt_or_le (far.getD x 0) 0 with h | h
        · exact h
        · have := (hD.comp _ x hu hxn hmem hth h).1
          have := h1 a ha
          omega
      · simp at hq; omega
  · refine .inr ?_
    by_cases hap : a = p
    · subst hap
      obtain ⟨hj, e, _, h1, h2, h3, h4, h5⟩ := SI.ahead hD hx0 hB hw hDD hf htg
      have hkk := hkk rfl
      by_cases hK : k = nextK next far (row.getD a 0)
      · have hxv : x = vAt next far x0 (j + 1) := by
          have : (x : Int) = (vAt next far x0 (j + 1) : Int) := by rw [← hx, ← h2, hK]
          omega
        have hea : eAt next far x0 j = k := by rw [hK, hf.rowp]; rfl
        have hr := hf.along hB hxn hn hx0 hxv (by rw [hxv]; exact h4) hj
        rw [hea] at hr
        exact ⟨D, j + 1, row.length, hDD, hr, fun e => absurd e (by omega)⟩
      · have hno : ¬ far.getD x 0 = far.getD (row.getD a 0) 0 - 1 := fun he => by
          have := next_first (next := next) (far := far) (x := row.getD a 0) (k := k) (by omega) hk
          rw [hx] at this
          unfold nearTo at this
          rw [Int.toNat_natCast, decide_eq_true he, decide_eq_true (show 0 ≤ (x : Int) ∧ (x : Int) < (next.length : Int) by omega)] at this
          simp at this
        refine ⟨D, j, a, hDD, hf.side hB hD hw ha hxn hn hx0 hmem hth (fun _ => hno), fun _ => ?_⟩
        rw [nget_app, if_pos ha]
        omega
    · exact ⟨D, j, p, hDD, hf.side hB hD hw ha hxn hn hx0 hmem hth (fun e => absurd e hap), fun e => absurd e hap⟩
theorem SI.pass (hD : Dist next th tg far) (hx0 : x0 < next.length) (h : SI next th tg far x0 by_ row a k) (ha : a < row.length) (htg : tg.getD (row.getD a 0) false = false) (hno : ∀ x : Nat, (next.getD (row.getD a 0) []).getD k 0 = (x : Int) → x < next.length → x ∈ row) : SI next th tg far x0 by_ row a (k + 1) := by
  obtain ⟨lev, hB, hw, hal, hc⟩ := h
  refine ⟨lev, hB, hw, hal, ?_⟩
  have hw := hw ha
  rcases hc with hc | ⟨D, j, p, hDD, hf, hkk⟩
  · exact .inl hc
  · refine .inr ⟨D, j, p, hDD, hf, fun e => ?_⟩
    subst e
    obtain ⟨hj, e, _, h1, h2, h3, h4, h5⟩ := SI.ahead hD hx0 hB hw hDD hf htg
    have hkk := hkk rfl
    rcases Nat.lt_or_ge k (nextK next far (row.getD a 0)) with h | h
    · exact h
    · have ek : k = nextK next far (row.getD a 0) := by omega
      exact absurd (hno _ (by rw [ek]; exact h2) h3) h5
theorem SI.more (hD : Dist next th tg far) (hx0 : x0 < next.length) (h : SI next th tg far x0 by_ row a k) (ha : a < row.length) (htg : tg.getD (row.getD a 0) false = false) (hk : (next.getD (row.getD a 0) []).length ≤ k ∨ ¬ th.getD (row.getD a 0) false = true) : SI next th tg far x0 by_ row (a + 1) 0 := by
  obtain ⟨lev, hB, hw, hal, hc⟩ := h
  have hw := hw ha
  refine ⟨lev, hB, fun h => Win.more hB hw h, ha, ?_⟩
  rcases hc with hc | ⟨D, j, p, hDD, hf, hkk⟩
  · exact .inl hc
  · refine .inr ⟨D, j, p, hDD, ?_, fun _ => Nat.zero_le _⟩
    have hap : a ≠ p := fun e => by
      subst e
      obtain ⟨hj, e, ht, h1, h2, h3, h4, h5⟩ := SI.ahead hD hx0 hB hw hDD hf htg
      have hkk := hkk rfl
      rcases hk with hk | hk
      · omega
      · exact hk ht
    have := hf.ap
    exact { hf with ap := by omega }
theorem SI.target (hD : Dist next th tg far) (hx0 : x0 < next.length) (h : SI next th tg far x0 by_ row a k) (ha : a < row.length) (htg : tg.getD (row.getD a 0) false = true) : ∃ D : Nat, far.getD x0 0 = (D : Int) ∧ row.getD a 0 = vAt next far x0 D ∧ by_.getD x0 noC = ((x0 : Int), -1) ∧ (∀ i, i < D → by_.getD (vAt next far x0 (i + 1)) noC = ((vAt next far x0 i : Int), (eAt next far x0 i : Int))) := by
  obtain ⟨lev, hB, hw, hal, hc⟩ := h
  rcases hc with ⟨h0, h1⟩ | ⟨D, j, p, hDD, hf, hkk⟩
  · have := h1 a ha
    have := (hD.zero _ (hB.lt a ha)).2 htg
    omega
  · obtain ⟨rfl, rfl⟩ := hf.target hB hD htg
    exact ⟨j, hDD, hf.rowp, hf.from0, hf.chain⟩
theorem SI.none (h : SI next th tg far x0 by_ row row.length k) : far.getD x0 0 < 0 := by
  obtain ⟨lev, hB, hw, hal, hc⟩ := h
  rcases hc with ⟨h0, h1⟩ | ⟨D, j, p, hDD, hf, hkk⟩
  · exact h0
  · have := hf.ap
    have := hf.hp
    omega
end
end Go.Proofs.Ytcdeidedcbnhaaa
