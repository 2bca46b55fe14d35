/-
  HOW FAR EACH PLACE IS, and the greedy way, in plain Lean.
-/
import Derived.Test.YtcdeidedcbnhaaaPathSpec
set_option linter.unusedVariables false
set_option linter.unusedSimpArgs false
namespace Go.Proofs.Ytcdeidedcbnhaaa

def far0 (next : List (List Int)) (tg : List Bool) : List Int := (List.range next.length).map fun i => if tg.getD i false = true then 0 else -1
def nearTo (next : List (List Int)) (far : List Int) (n : Int) (x : Int) : Bool := decide (0 ≤ x ∧ x < (next.length : Int)) && decide (far.getD x.toNat 0 = n)
def farStep (next : List (List Int)) (th : List Bool) (n : Nat) (far : List Int) : List Int := (List.range next.length).map fun i =>
  if far.getD i 0 < 0 ∧ th.getD i false = true ∧ (next.getD i []).any (nearTo next far ((n : Int) - 1)) = true then (n : Int) else far.getD i 0
def farIt (next : List (List Int)) (th tg : List Bool) : Nat → List Int
  | 0 => far0 next tg
  | n + 1 => farStep next th (n + 1) (farIt next th tg n)
def farL (next : List (List Int)) (th tg : List Bool) : List Int := farIt next th tg next.length

section
variable {next : List (List Int)} {th tg : List Bool}
theorem farIt_len : ∀ n, (farIt next th tg n).length = next.length
  | 0 => by simp [farIt, far0]
  | n + 1 => by simp [farIt, farStep]
theorem far0_at {i : Nat} (h : i < next.length) : (far0 next tg).getD i 0 = if tg.getD i false = true then 0 else -1 := by
  unfold far0
  rw [List.getD, List.getElem?_map, List.getElem?_range h]; rfl
theorem farStep_at {n i : Nat} {far : List Int} (h : i < next.length) : (farStep next th n far).getD i 0 = if far.getD i 0 < 0 ∧ th.getD i false = true ∧ (next.getD i []).any (nearTo next far ((n : Int) - 1)) = true then (n : Int) else far.getD i 0 := by
  unfold farStep
  rw [List.getD, List.getElem?_map, List.getElem?_range h]; rfl
theorem near_iff {far : List Int} {n : Int} {i : Nat} : (next.getD i []).any (nearTo next far n) = true ↔ ∃ x : Nat, (x : Int) ∈ next.getD i [] ∧ x < next.length ∧ far.getD x 0 = n := by
  rw [List.any_eq_true]
  unfold nearTo
  constructor
  · rintro ⟨y, h1, h2⟩
    simp only [Bool.and_eq_true, decide_eq_true_eq] at h2
    obtain ⟨⟨h3, h4⟩, h5⟩ := h2
    obtain ⟨x, rfl⟩ := Int.eq_ofNat_of_zero_le h3
    exact ⟨x, h1, by omega, by simpa using h5⟩
  · rintro ⟨x, h1, h2, h3⟩
    exact ⟨(x : Int), h1, by simp only [Bool.and_eq_true, decide_eq_true_eq]; exact ⟨⟨by omega, by omega⟩, by simpa using h3⟩⟩
theorem far_range {i : Nat} (h : i < next.length) : ∀ n, -1 ≤ (farIt next th tg n).getD i 0 ∧ (farIt next th tg n).getD i 0 ≤ n
  | 0 => by rw [farIt, far0_at h]; split <;> simp
  | n + 1 => by
    rw [farIt, farStep_at h]
    have := far_range h n
    split <;> omega
theorem far_stay {i : Nat} (h : i < next.length) {n : Nat} (h0 : 0 ≤ (farIt next th tg n).getD i 0) : (farIt next th tg (n + 1)).getD i 0 = (farIt next th tg n).getD i 0 := by
  rw [farIt, farStep_at h, if_neg (fun h2 => by omega)]
theorem far_stays {i : Nat} (h : i < next.length) {n : Nat} (h0 : 0 ≤ (farIt next th tg n).getD i 0) : ∀ d, (farIt next th tg (n + d)).getD i 0 = (farIt next th tg n).getD i 0
  | 0 => rfl
  | d + 1 => by
    have := far_stays h h0 d
    rw [← this, Nat.add_succ]
    exact far_stay h (by rw [this]; exact h0)
/-- who is m far is so from round m on -/
theorem far_own {i : Nat} (h : i < next.length) {m : Nat} : ∀ n, (farIt next th tg n).getD i 0 = (m : Int) → m ≤ n ∧ (farIt next th tg m).getD i 0 = (m : Int)
  | 0 => fun e => by
    have := far_range (th := th) (tg := tg) h 0
    have : m = 0 := by omega
    subst this; exact ⟨Nat.le_refl _, e⟩
  | n + 1 => fun e => by
    by_cases hm : m = n + 1
    · subst hm; exact ⟨Nat.le_refl _, e⟩
    · rw [farIt, farStep_at h] at e
      split at e
      · omega
      · have := far_own h n e
        exact ⟨by omega, this.2⟩
theorem far_zero {i : Nat} (h : i < next.length) (n : Nat) : (farIt next th tg n).getD i 0 = 0 ↔ tg.getD i false = true := by
  constructor
  · intro e
    have := (far_own (m := 0) h n e).2
    rw [farIt, far0_at h] at this
    split at this
    · assumption
    · simp at this
  · intro e
    have h0 : (farIt next th tg 0).getD i 0 = 0 := by rw [farIt, far0_at h, if_pos e]
    have := far_stays (th := th) (tg := tg) h (n := 0) (by omega) n
    rw [Nat.zero_add] at this
    rw [this, h0]
theorem far_back {i : Nat} (h : i < next.length) {m n : Nat} (e : (farIt next th tg n).getD i 0 = (m : Int) + 1) : th.getD i false = true ∧ ∃ x : Nat, (x : Int) ∈ next.getD i [] ∧ x < next.length ∧ (farIt next th tg n).getD x 0 = (m : Int) := by
  have h1 := far_own (th := th) (tg := tg) (m := m + 1) h n (by rw [e]; omega)
  have h2 := h1.2
  rw [farIt, farStep_at h] at h2
  split at h2
  · rename_i h3
    refine ⟨h3.2.1, ?_⟩
    obtain ⟨x, hx1, hx2, hx3⟩ := near_iff.1 h3.2.2
    refine ⟨x, hx1, hx2, ?_⟩
    have := far_stays (th := th) (tg := tg) hx2 (n := m) (by omega) (n - m)
    rw [show m + (n - m) = n by omega] at this
    rw [this]; omega
  · have := far_range (th := th) (tg := tg) h m
    exfalso
    omega
theorem far_comp {i x : Nat} (h : i < next.length) (hx : x < next.length) (he : (x : Int) ∈ next.getD i []) (ht : th.getD i false = true) {m n : Nat} (hm : m < n) (e : (farIt next th tg n).getD x 0 = (m : Int)) : 0 ≤ (farIt next th tg n).getD i 0 ∧ (farIt next th tg n).getD i 0 ≤ (m : Int) + 1 := by
  have h1 := (far_own hx n e).2
  by_cases h2 : 0 ≤ (farIt next th tg m).getD i 0
  · have := far_stays (th := th) (tg := tg) h h2 (n - m)
    rw [show m + (n - m) = n by omega] at this
    have := far_range (th := th) (tg := tg) h m
    omega
  · have h3 : (farIt next th tg (m + 1)).getD i 0 = (m : Int) + 1 := by
      rw [farIt, farStep_at h, if_pos ⟨by omega, ht, near_iff.2 ⟨x, he, hx, by omega⟩⟩]; simp
    have := far_stays (th := th) (tg := tg) h (n := m + 1) (by omega) (n - (m + 1))
    rw [show m + 1 + (n - (m + 1)) = n by omega] at this
    omega
/-- who has been reached -/
def got (far : List Int) : List Bool := far.map fun x => decide (0 ≤ x)
theorem got_at {far : List Int} {i : Nat} (h : i < far.length) : (got far).getD i false = decide (0 ≤ far.getD i 0) := by
  unfold got
  rw [List.getD, List.getElem?_map, List.getElem?_eq_getElem h, List.getD, List.getElem?_eq_getElem h]; rfl
theorem getD_lt' {L : List Bool} {i : Nat} (h : L.getD i false = true) : i < L.length := by
  rcases Nat.lt_or_ge i L.length with h1 | h1
  · exact h1
  · rw [List.getD, List.getElem?_eq_none h1] at h; simp at h
theorem far_many : ∀ n i, i < next.length → (farIt next th tg n).getD i 0 = (n : Int) → n + 1 ≤ cnt (got (farIt next th tg n))
  | 0, i, hi, e => by
    have h1 : i < (farIt next th tg 0).length := by rw [farIt_len]; exact hi
    have h2 : (got (farIt next th tg 0)).getD i false = true := by rw [got_at h1, e]; rfl
    have := cnt_lt (a := List.replicate (got (farIt next th tg 0)).length false) (b := got (farIt next th tg 0)) (by simp) (fun j hj => by
      rw [List.getD, List.getElem?_replicate] at hj; split at hj <;> simp at hj) (fun e2 => by
      rw [← e2, List.getD, List.getElem?_replicate] at h2; split at h2 <;> simp at h2)
    omega
  | n + 1, i, hi, e => by
    obtain ⟨_, x, _, hx, hx2⟩ := far_back (th := th) (tg := tg) (m := n) (n := n + 1) hi (by rw [e]; omega)
    have hxn := (far_own hx (n + 1) hx2).2
    have ih := far_many n x hx hxn
    have h1 : i < (farIt next th tg (n + 1)).length := by rw [farIt_len]; exact hi
    have h1' : i < (farIt next th tg n).length := by rw [farIt_len]; exact hi
    have hold : (farIt next th tg n).getD i 0 < 0 := by
      rcases Int.lt_or_le ((farIt next th tg n).getD i 0) 0 with h2 | h2
      · exact h2
      · have := far_stay (th := th) (tg := tg) hi h2
        have := far_range (th := th) (tg := tg) hi n
        omega
    have := cnt_lt (a := got (farIt next th tg n)) (b := got (farIt next th tg (n + 1))) (by unfold got; rw [List.length_map, List.length_map, farIt_len, farIt_len]) (fun j hj => by
      have hjl : j < next.length := by have := getD_lt' hj; unfold got at this; rw [List.length_map, farIt_len] at this; exact this
      rw [got_at (by rw [farIt_len]; exact hjl)] at hj ⊢
      have h0 : 0 ≤ (farIt next th tg n).getD j 0 := by simpa using hj
      rw [far_stay hjl h0]; simpa using h0) (fun e2 => by
      have h3 := got_at h1
      rw [← e2, got_at h1'] at h3
      rw [decide_eq_false (by omega), e, decide_eq_true (by omega)] at h3
      simp at h3)
    omega

/-- how far: all that is used of it -/
structure Dist (next : List (List Int)) (th tg : List Bool) (far : List Int) : Prop where
  len : far.length = next.length
  lo : ∀ i, i < next.length → -1 ≤ far.getD i 0 ∧ far.getD i 0 < next.length
  zero : ∀ i, i < next.length → (far.getD i 0 = 0 ↔ tg.getD i false = true)
  back : ∀ i (m : Nat), i < next.length → far.getD i 0 = (m : Int) + 1 → th.getD i false = true ∧ ∃ x : Nat, (x : Int) ∈ next.getD i [] ∧ x < next.length ∧ far.getD x 0 = (m : Int)
  comp : ∀ i x, i < next.length → x < next.length → (x : Int) ∈ next.getD i [] → th.getD i false = true → 0 ≤ far.getD x 0 → 0 ≤ far.getD i 0 ∧ far.getD i 0 ≤ far.getD x 0 + 1
theorem farL_dist (next : List (List Int)) (th tg : List Bool) : Dist next th tg (farL next th tg) := by
  have hlt : ∀ i, i < next.length → (farL next th tg).getD i 0 < next.length := fun i hi => by
    have hr := far_range (th := th) (tg := tg) hi next.length
    rcases Int.lt_or_le ((farL next th tg).getD i 0) 0 with h | h
    · omega
    · obtain ⟨m, hm⟩ := Int.eq_ofNat_of_zero_le h
      have h1 := far_own (th := th) (tg := tg) (m := m) hi next.length hm
      have h2 := far_many m i hi h1.2
      have h3 := cnt_le (got (farIt next th tg m))
      unfold got at h3
      rw [List.length_map, farIt_len] at h3
      unfold got at h2
      omega
  refine ⟨farIt_len _, fun i hi => ⟨(far_range hi next.length).1, hlt i hi⟩, fun i hi => far_zero hi _, fun i m hi e => far_back hi e, fun i x hi hx he ht h0 => ?_⟩
  obtain ⟨m, hm⟩ := Int.eq_ofNat_of_zero_le h0
  have := hlt x hx
  have := far_comp (th := th) (tg := tg) hi hx he ht (m := m) (n := next.length) (by omega) hm
  unfold farL at *
  omega
end

/-! ### the greedy way -/
def nextK (next : List (List Int)) (far : List Int) (x : Nat) : Nat := (next.getD x []).findIdx (nearTo next far (far.getD x 0 - 1))
def nextV (next : List (List Int)) (far : List Int) (x : Nat) : Nat := ((next.getD x []).getD (nextK next far x) 0).toNat
def vAt (next : List (List Int)) (far : List Int) (x : Nat) : Nat → Nat
  | 0 => x
  | j + 1 => nextV next far (vAt next far x j)
def eAt (next : List (List Int)) (far : List Int) (x j : Nat) : Nat := nextK next far (vAt next far x j)
section
variable {next : List (List Int)} {th tg : List Bool} {far : List Int}
theorem next_ok (h : Dist next th tg far) {x m : Nat} (hx : x < next.length) (e : far.getD x 0 = (m : Int) + 1) : nextK next far x < (next.getD x []).length ∧ (next.getD x []).getD (nextK next far x) 0 = (nextV next far x : Int) ∧ nextV next far x < next.length ∧ far.getD (nextV next far x) 0 = (m : Int) := by
  obtain ⟨_, y, h1, h2, h3⟩ := h.back x m hx e
  have hany : ∃ z ∈ next.getD x [], nearTo next far (far.getD x 0 - 1) z = true := ⟨(y : Int), h1, by unfold nearTo; simp only [Bool.and_eq_true, decide_eq_true_eq]; exact ⟨⟨by omega, by omega⟩, by simp at h3 e ⊢; omega⟩⟩
  have hk : nextK next far x < (next.getD x []).length := List.findIdx_lt_length.2 hany
  have hp : nearTo next far (far.getD x 0 - 1) ((next.getD x [])[nextK next far x]) = true := List.findIdx_getElem
  have hg : (next.getD x []).getD (nextK next far x) 0 = (next.getD x [])[nextK next far x] := by rw [List.getD, List.getElem?_eq_getElem hk]; rfl
  unfold nearTo at hp
  simp only [Bool.and_eq_true, decide_eq_true_eq] at hp
  unfold nextV
  rw [hg]
  refine ⟨hk, by omega, by omega, by omega⟩
theorem next_first {x k : Nat} (hk : k < nextK next far x) (hl : k < (next.getD x []).length) : nearTo next far (far.getD x 0 - 1) ((next.getD x []).getD k 0) = false := by
  have := List.not_of_lt_findIdx hk
  rw [show (next.getD x []).getD k 0 = (next.getD x [])[k] by rw [List.getD, List.getElem?_eq_getElem hl]; rfl]
  simpa using this
theorem vAt_ok (h : Dist next th tg far) {x D : Nat} (hx : x < next.length) (e : far.getD x 0 = (D : Int)) : ∀ j, j ≤ D → vAt next far x j < next.length ∧ far.getD (vAt next far x j) 0 = ((D - j : Nat) : Int)
  | 0, _ => ⟨hx, by simpa [vAt] using e⟩
  | j + 1, hj => by
    obtain ⟨h1, h2⟩ := vAt_ok h hx e j (by omega)
    have := next_ok h (m := D - (j + 1)) h1 (by omega)
    exact ⟨this.2.2.1, this.2.2.2⟩
end
end Go.Proofs.Ytcdeidedcbnhaaa
