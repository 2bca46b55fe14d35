/-
  WHERE THE WAYS LEAD, in plain Lean: the shortest way, and the lasso.
-/
import Derived.Test.YtcdeidedcbnhaaaPathRef
import Derived.Test.YtcdeidedcbnhaaaPathLas
import Derived.Test.YtcdeidedcbnhaaaPathSpec
set_option linter.unusedVariables false
set_option linter.unusedSimpArgs false
namespace Go.Proofs.Ytcdeidedcbnhaaa

theorem goP_snoc {next : List (List Int)} {k : Int} : ∀ {way : List Int} {x y : Nat}, goP next x way = some y → goP next x (way ++ [k]) = stepP next y k
  | [], x, y, h => by
    simp [goP] at h; subst h
    rw [List.nil_append, goP]
    cases stepP next x k <;> rfl
  | a :: way, x, y, h => by
    rw [goP] at h
    rw [List.cons_append, goP]
    cases e : stepP next x a with
    | none => rw [e] at h; simp at h
    | some z =>
      rw [e] at h
      exact goP_snoc h
theorem take_map_range {α : Type} (f : Nat → α) {D j : Nat} (h : j ≤ D) : ((List.range D).map f).take j = (List.range j).map f := by
  rw [← List.map_take, List.take_range, Nat.min_eq_left h]
section
variable {next : List (List Int)} {th tg : List Bool} {far : List Int} {x D : Nat}
theorem greedy_go (hD : Dist next th tg far) (hx : x < next.length) (e : far.getD x 0 = (D : Int)) : ∀ j, j ≤ D → goP next x ((greedyL next far x D).take j) = some (vAt next far x j)
  | 0, _ => by simp [goP, vAt]
  | j + 1, h => by
    have ih := greedy_go hD hx e j (by omega)
    obtain ⟨h1, h2⟩ := vAt_ok hD hx e j (by omega)
    obtain ⟨h3, h4, h5, _⟩ := next_ok hD h1 (m := D - (j + 1)) (by rw [h2]; omega)
    unfold greedyL at ih ⊢
    rw [take_map_range _ (by omega)] at ih
    rw [take_map_range _ h, List.range_succ, List.map_append, List.map_singleton, goP_snoc ih]
    exact step_on h3 h4 h5
theorem vAt_th (hD : Dist next th tg far) (hx : x < next.length) (e : far.getD x 0 = (D : Int)) {j : Nat} (h : j < D) : th.getD (vAt next far x j) false = true ∧ tg.getD (vAt next far x j) false = false := by
  obtain ⟨h1, h2⟩ := vAt_ok hD hx e j (by omega)
  refine ⟨(hD.back _ (D - (j + 1)) h1 (by rw [h2]; omega)).1, ?_⟩
  cases ht : tg.getD (vAt next far x j) false with
  | false => rfl
  | true =>
    have := (hD.zero _ h1).2 ht
    omega
theorem vAt_tg (hD : Dist next th tg far) (hx : x < next.length) (e : far.getD x 0 = (D : Int)) : tg.getD (vAt next far x D) false = true := by
  obtain ⟨h1, h2⟩ := vAt_ok hD hx e D (Nat.le_refl _)
  exact (hD.zero _ h1).1 (by rw [h2]; omega)
theorem far_eu (hD : Dist next th tg far) : EUp next th tg x ↔ x < next.length ∧ 0 ≤ far.getD x 0 := by
  constructor
  · intro h
    induction h with
    | here i h1 h2 => exact ⟨h1, by rw [(hD.zero i h1).2 h2]; omega⟩
    | step i k h1 h2 h3 h4 ih => exact ⟨h1, (hD.comp i k h1 h3.2 h3.1 h2 ih.2).1⟩
  · rintro ⟨hx, h0⟩
    obtain ⟨D, e⟩ := Int.eq_ofNat_of_zero_le h0
    have : ∀ d j, j + d = D → EUp next th tg (vAt next far x j) := by
      intro d
      induction d with
      | zero =>
        intro j hj
        obtain rfl : j = D := by omega
        exact .here _ (vAt_ok hD hx e j (Nat.le_refl _)).1 (vAt_tg hD hx e)
      | succ d ih =>
        intro j hj
        obtain ⟨h1, h2⟩ := vAt_ok hD hx e j (by omega)
        obtain ⟨h3, h4, h5, _⟩ := next_ok hD h1 (m := D - (j + 1)) (by rw [h2]; omega)
        refine .step _ (vAt next far x (j + 1)) h1 (vAt_th hD hx e (by omega)).1 ⟨?_, (vAt_ok hD hx e (j + 1) (by omega)).1⟩ (ih (j + 1) (by omega))
        have : ((vAt next far x (j + 1) : Nat) : Int) = (next.getD (vAt next far x j) []).getD (nextK next far (vAt next far x j)) 0 := by rw [h4]; rfl
        rw [this]
        exact getI_mem h3
    exact this D 0 (by omega)
theorem short_some (next : List (List Int)) (i : Int) (th tg : List Bool) : (shortP next i th tg).isSome = isB (euL next th tg) i := by
  have hD := farL_dist next th tg
  unfold shortP
  by_cases hp : 0 ≤ i ∧ i < (next.length : Int)
  · rw [if_pos hp]
    obtain ⟨x, rfl⟩ := Int.eq_ofNat_of_zero_le hp.1
    rw [Int.toNat_natCast, isB_nat]
    have h2 := far_eu (x := x) hD
    rw [← euL_at] at h2
    by_cases hneg : (farL next th tg).getD x 0 < 0
    · rw [if_pos hneg]
      cases h3 : (euL next th tg).getD x false with
      | false => rfl
      | true => have := (h2.1 h3).2; omega
    · rw [if_neg hneg, h2.2 ⟨by omega, by omega⟩]; rfl
  · rw [if_neg hp]
    cases h : isB (euL next th tg) i with
    | false => rfl
    | true =>
      have := isB_lt h
      rw [euL_length] at this
      exact absurd this hp
/-- what is said of the shortest way -/
theorem short_leads {i : Int} {way : List Int} (h : shortP next i th tg = some way) {j : Nat} (hj : j ≤ way.length) :
    ∃ y : Nat, endsP next i (way.take j) = some y ∧ (j < way.length → isB th (y : Int) = true ∧ isB tg (y : Int) = false) ∧ (j = way.length → isB tg (y : Int) = true) := by
  have hD := farL_dist next th tg
  unfold shortP at h
  split at h
  · rename_i hp
    split at h
    · simp at h
    · rename_i hneg
      have h := Option.some.inj h
      obtain ⟨x, rfl⟩ := Int.eq_ofNat_of_zero_le hp.1
      rw [Int.toNat_natCast] at h hneg
      have hx : x < next.length := by omega
      obtain ⟨D, e⟩ := Int.eq_ofNat_of_zero_le (show 0 ≤ (farL next th tg).getD x 0 by omega)
      rw [e, Int.toNat_natCast] at h
      subst h
      rw [greedy_len] at hj ⊢
      refine ⟨vAt next (farL next th tg) x j, ?_, fun h2 => ?_, fun h2 => ?_⟩
      · unfold endsP
        rw [if_pos hp, Int.toNat_natCast]
        exact greedy_go hD hx e j hj
      · rw [isB_nat, isB_nat]; exact vAt_th hD hx e h2
      · subst h2; rw [isB_nat]; exact vAt_tg hD hx e
  · simp at h
end
section
variable {next : List (List Int)} {ever : List Bool} {x m : Nat}
theorem las_go (hE : Ever next ever) (hx : ever.getD x false = true) : ∀ j, j ≤ m → goP next x ((lWay next ever x m).take j) = some (lV next ever x j)
  | 0, _ => by simp [goP, lV]
  | j + 1, h => by
    have ih := las_go hE hx j (by omega)
    obtain ⟨h3, h4, h5⟩ := stay_ok hE (lV_ok hE hx j)
    unfold lWay at ih ⊢
    rw [take_map_range _ (by omega)] at ih
    rw [take_map_range _ h, List.range_succ, List.map_append, List.map_singleton, goP_snoc ih]
    exact step_on h3 h4 (hE _ h5).1
/-- what is said of the lasso -/
theorem las_leads {a : List Bool} {i n : Int} {way : List Int} (h : LRes next (egL next a) i way n) (hi : isB (egL next a) i = true) :
    ∃ k : Nat, n = (k : Int) ∧ k < way.length ∧ (∀ j, j ≤ way.length → ∃ y : Nat, endsP next i (way.take j) = some y ∧ isB a (y : Int) = true) ∧ endsP next i (way.take k) = endsP next i way := by
  rcases h with ⟨h1, _⟩ | ⟨_, m, k, hf, rfl, rfl⟩
  · rw [hi] at h1; simp at h1
  · have hb := isB_lt hi
    rw [egL_length] at hb
    obtain ⟨x, rfl⟩ := Int.eq_ofNat_of_zero_le hb.1
    rw [isB_nat] at hi
    rw [Int.toNat_natCast] at *
    have hE := egL_ever next a
    have hg : ∀ j, j ≤ m → endsP next (x : Int) ((lWay next (egL next a) x m).take j) = some (lV next (egL next a) x j) := fun j hj => by
      unfold endsP
      rw [if_pos hb, Int.toNat_natCast]
      exact las_go hE hi j hj
    refine ⟨k, rfl, by rw [lWay_len]; exact hf.1, fun j hj => ?_, ?_⟩
    · rw [lWay_len] at hj
      refine ⟨_, hg j hj, ?_⟩
      rw [isB_nat]
      obtain ⟨S, h1, h2⟩ := (egL_at next a _).1 (lV_ok hE hi j)
      exact (h2 _ h1).2.1
    · have h1 := hg k (by have := hf.1; omega)
      have h2 := hg m (Nat.le_refl _)
      rw [List.take_of_length_le (by rw [lWay_len]; exact Nat.le_refl _)] at h2
      rw [h1, h2, hf.2.1]
end
end Go.Proofs.Ytcdeidedcbnhaaa
