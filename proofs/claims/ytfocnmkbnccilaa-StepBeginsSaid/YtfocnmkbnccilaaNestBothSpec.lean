/-
  PLAIN: without a circle each place is a root, or lies below one root alone. No program.
-/
import Derived.Test.YtfocnmkbnccilaaNestSpec
set_option linter.unusedVariables false
set_option linter.unusedSimpArgs false
namespace Go.Proofs.Ytfocnmkbnccilaa

/-- without a circle: the way up from a place ends at a root -/
theorem no_circle_stop {l : List Int} (hn : ∀ k : Nat, k < l.length → ¬ circ l (k : Int)) {i : Int} (hi : isAt l i) {m : Nat} {p : Int} (h : UpAt l i m p (aboveL l i)) (hs : stops l i p (aboveL l i)) : upN l i (m + 1) = -1 := by
  have hnc : ∀ x, isAt l x → ∀ j, 1 ≤ j → j ≤ l.length → upN l x j ≠ x := by
    intro x hx j h1 h2 h3
    obtain ⟨n, rfl⟩ := Int.eq_ofNat_of_zero_le hx.1
    have hc := (circ_iff l n hx).2 ⟨j, h1, h2, h3⟩
    exact hn n (by have := hx.2; omega) hc
  rw [← h.cur]
  rcases hs with hs | hs | hs
  · exact hs
  · exfalso
    have hnd : (i :: aboveL l i).Nodup := List.nodup_cons.2 ⟨h.not, h.nodup⟩
    have hlen := nodup_len l.length _ hnd (fun x hx => by
      rcases List.mem_cons.1 hx with rfl | hx
      · exact hi
      · exact h.at_ x hx)
    simp [h.len] at hlen
    exact hnc i hi (m + 1) (by omega) hlen (by rw [← h.cur]; exact hs)
  · exfalso
    obtain ⟨a, ha⟩ := List.mem_iff_getElem?.1 hs
    have ham : a < m := by rw [← h.len]; exact (List.getElem?_eq_some_iff.1 ha).1
    rw [h.eq a ham, h.cur] at ha
    have ha := Option.some.inj ha
    have hat : isAt l (upN l i (a + 1)) := h.at_ _ (List.mem_of_getElem? (h.eq a ham))
    have sh : ∀ d, upN l (upN l i (a + 1)) d = upN l i (a + 1 + d) := by
      intro d
      induction d with
      | zero => exact ((norm_cases l _).resolve_right fun hh => hh.1 hat).2
      | succ d ih => show par l _ = par l _; rw [ih]; rfl
    refine hnc _ hat (m - a) (by omega) (by have := h.room; omega) ?_
    rw [sh, ha]
    congr 1
    omega

/-- the roots that lie above a place, or are it -/
theorem root_count {l : List Int} (hn : ∀ k : Nat, k < l.length → ¬ circ l (k : Int)) (k : Nat) (hk : k < l.length) :
    ((List.range l.length).filter fun (r : Nat) => decide (par l (r : Int) = -1 ∧ ((r : Int) = (k : Int) ∨ (r : Int) ∈ aboveL l (k : Int)))).length = 1 := by
  obtain ⟨m, p, h, hs⟩ := up_end l (k : Int)
  have hi : isAt l (k : Int) := ⟨by omega, by omega⟩
  have hst := no_circle_stop hn hi h hs
  -- the one root: the last of k, c_1 .. c_m
  have hlast : ∃ r : Nat, r < l.length ∧ upN l (k : Int) m = (r : Int) := by
    cases m with
    | zero => exact ⟨k, hk, ((norm_cases l _).resolve_right fun hh => hh.1 hi).2⟩
    | succ m =>
      have hat := h.at_ _ (List.mem_of_getElem? (h.eq m (by omega)))
      obtain ⟨r, hr⟩ := Int.eq_ofNat_of_zero_le hat.1
      exact ⟨r, by have := hat.2; omega, hr⟩
  obtain ⟨r, hr, hre⟩ := hlast
  have hpr : par l (r : Int) = -1 := by rw [← hre]; exact hst
  have hmem : (r : Int) = (k : Int) ∨ (r : Int) ∈ aboveL l (k : Int) := by
    cases m with
    | zero => left; rw [← hre]; exact ((norm_cases l _).resolve_right fun hh => hh.1 hi).2
    | succ m => right; rw [← hre]; exact List.mem_of_getElem? (h.eq m (by omega))
  have honly : ∀ x : Nat, par l (x : Int) = -1 ∧ ((x : Int) = (k : Int) ∨ (x : Int) ∈ aboveL l (k : Int)) → x = r := by
    rintro x ⟨h1, h2⟩
    have hj : ∃ j, j ≤ m ∧ upN l (k : Int) j = (x : Int) := by
      rcases h2 with h2 | h2
      · exact ⟨0, Nat.zero_le _, by rw [h2]; exact ((norm_cases l _).resolve_right fun hh => hh.1 hi).2⟩
      · obtain ⟨a, ha⟩ := List.mem_iff_getElem?.1 h2
        have ham : a < m := by rw [← h.len]; exact (List.getElem?_eq_some_iff.1 ha).1
        rw [h.eq a ham] at ha
        exact ⟨a + 1, by omega, Option.some.inj ha⟩
    obtain ⟨j, hjm, hj⟩ := hj
    by_cases e : j = m
    · subst e
      rw [hre] at hj
      omega
    · exfalso
      have h3 : upN l (k : Int) (j + 1) = -1 := by show par l _ = _; rw [hj, h1]
      have h4 := upN_none l (k : Int) (j + 1) h3 (m - (j + 1))
      rw [show j + 1 + (m - (j + 1)) = m from by omega, hre] at h4
      omega
  have : (List.range l.length).filter (fun (x : Nat) => decide (par l (x : Int) = -1 ∧ ((x : Int) = (k : Int) ∨ (x : Int) ∈ aboveL l (k : Int)))) = [r] := by
    have h1 : (List.range l.length).filter (fun (x : Nat) => decide (par l (x : Int) = -1 ∧ ((x : Int) = (k : Int) ∨ (x : Int) ∈ aboveL l (k : Int)))) = (List.range l.length).filter (fun (x : Nat) => x == r) := by
      refine List.filter_congr fun x hx => ?_
      rw [Bool.eq_iff_iff]
      simp only [decide_eq_true_eq, beq_iff_eq]
      exact ⟨honly x, fun e => e ▸ ⟨hpr, hmem⟩⟩
    rw [h1]
    have key : ∀ n, r < n → (List.range n).filter (fun (x : Nat) => x == r) = [r] := by
      intro n
      induction n with
      | zero => intro h; omega
      | succ n ih =>
        intro h
        rw [List.range_succ, List.filter_append]
        by_cases e : r = n
        · subst e
          have : (List.range r).filter (fun (x : Nat) => x == r) = [] := by
            rw [List.filter_eq_nil_iff]; intro x hx; simp at hx ⊢; omega
          rw [this]; simp
        · rw [ih (by omega)]
          have : ([n].filter fun (x : Nat) => x == r) = [] := by simp; omega
          rw [this]; rfl
    exact key _ hr
  rw [this]; rfl

/-- counting pairs row by row is counting them column by column -/
def sumTo (f : Nat → Nat) : Nat → Nat
  | 0 => 0
  | n + 1 => sumTo f n + f n
theorem sumTo_add (f g : Nat → Nat) : ∀ n, sumTo (fun k => f k + g k) n = sumTo f n + sumTo g n
  | 0 => rfl
  | n + 1 => by simp only [sumTo]; rw [sumTo_add f g n]; omega
theorem sumTo_congr {f g : Nat → Nat} : ∀ n, (∀ k, k < n → f k = g k) → sumTo f n = sumTo g n
  | 0, _ => rfl
  | n + 1, h => by simp only [sumTo]; rw [sumTo_congr n fun k hk => h k (by omega), h n (by omega)]
theorem sumTo_const : ∀ n, sumTo (fun _ => 1) n = n
  | 0 => rfl
  | n + 1 => by simp only [sumTo]; rw [sumTo_const n]
theorem sumTo_zero : ∀ n, sumTo (fun _ => 0) n = 0
  | 0 => rfl
  | n + 1 => by simp only [sumTo]; rw [sumTo_zero n]
theorem count_sum (p : Nat → Bool) : ∀ n, ((List.range n).filter p).length = sumTo (fun k => if p k then 1 else 0) n
  | 0 => rfl
  | n + 1 => by
    rw [List.range_succ, List.filter_append, List.length_append, count_sum p n]
    simp only [sumTo]
    by_cases h : p n = true <;> simp [h]
theorem sum_swap (f : Nat → Nat → Nat) (m : Nat) : ∀ n, sumTo (fun r => sumTo (fun k => f r k) m) n = sumTo (fun k => sumTo (fun r => f r k) n) m
  | 0 => by simp only [sumTo]; rw [sumTo_zero]
  | n + 1 => by
    simp only [sumTo]
    rw [sum_swap f m n, ← sumTo_add]

/-- the roots, and what lies below each one, are all places -/
def belowCount (l : List Int) (r : Nat) : Nat := if (aboveL l (r : Int)).length = 0 then (belowL l (r : Int)).length else 0
theorem all_places {l : List Int} (hn : ∀ k : Nat, k < l.length → ¬ circ l (k : Int)) : (rootsL l).length + sumTo (belowCount l) l.length = l.length := by
  have hroot : ∀ r : Nat, r < l.length → ((aboveL l (r : Int)).length = 0 ↔ par l (r : Int) = -1) := by
    intro r hr
    obtain ⟨m, p, h, hs⟩ := up_end l (r : Int)
    have hi : isAt l (r : Int) := ⟨by omega, by omega⟩
    have hst := no_circle_stop hn hi h hs
    rw [h.len]
    refine ⟨fun e => ?_, fun e => ?_⟩
    · rw [e] at hst; rw [← upN_one]; exact hst
    · by_cases hm : m = 0
      · exact hm
      · exfalso
        have h1 := h.at_ _ (List.mem_of_getElem? (h.eq 0 (by omega)))
        rw [upN_one, e] at h1
        have := h1.1; omega
  have hb : ∀ r : Nat, r < l.length → (if par l (r : Int) = -1 then 1 else 0) + belowCount l r = sumTo (fun k => if (decide (par l (r : Int) = -1 ∧ ((r : Int) = (k : Int) ∨ (r : Int) ∈ aboveL l (k : Int)))) then 1 else 0) l.length := by
    intro r hr
    rw [← count_sum]
    unfold belowCount
    by_cases hp : par l (r : Int) = -1
    · rw [if_pos hp, if_pos ((hroot r hr).2 hp)]
      unfold belowL
      rw [if_pos ⟨by omega, by omega⟩, List.length_map, count_sum, count_sum]
      have e1 : 1 = sumTo (fun k => if k = r then 1 else 0) l.length := by
        have key : ∀ n, r < n → sumTo (fun k => if k = r then 1 else 0) n = 1 := by
          intro n
          induction n with
          | zero => intro h; omega
          | succ n ih =>
            intro h
            simp only [sumTo]
            by_cases e : n = r
            · subst e
              have : sumTo (fun k => if k = n then 1 else 0) n = 0 := by
                rw [sumTo_congr (g := fun _ => 0) n fun k hk => if_neg (by omega), sumTo_zero]
              rw [this, if_pos rfl]
            · rw [ih (by omega), if_neg e]
        exact (key _ hr).symm
      rw [show ∀ y : Nat, 1 + y = sumTo (fun k => if k = r then 1 else 0) l.length + y from fun y => congrArg (· + y) e1, ← sumTo_add]
      refine sumTo_congr _ fun k hk => ?_
      by_cases e : k = r
      · subst e
        have hself : (k : Int) ∉ aboveL l (k : Int) := by
          obtain ⟨m, p, h, hs⟩ := up_end l (k : Int)
          exact h.not
        simp [hp]
      · have e' : ¬ (r : Int) = (k : Int) := by omega
        have e'' : ¬ (k : Int) = (r : Int) := by omega
        simp [hp, e, e', e'']
    · rw [if_neg hp, if_neg (fun hh => hp ((hroot r hr).1 hh)), List.filter_eq_nil_iff.2 (fun k _ => by simp [hp])]
      rfl
  have e2 : (rootsL l).length = sumTo (fun r => if par l (r : Int) = -1 then 1 else 0) l.length := by
    unfold rootsL
    rw [List.length_map, count_sum]
    exact sumTo_congr _ fun k _ => by simp
  rw [e2, ← sumTo_add, sumTo_congr _ hb, sum_swap]
  have : ∀ k, k < l.length → sumTo (fun r => if (decide (par l (r : Int) = -1 ∧ ((r : Int) = (k : Int) ∨ (r : Int) ∈ aboveL l (k : Int)))) then 1 else 0) l.length = 1 := by
    intro k hk
    rw [← count_sum]
    exact root_count hn k hk
  rw [sumTo_congr _ this, sumTo_const]

theorem circle_none (l : List Int) (h : circleL l < 0) : ∀ k : Nat, k < l.length → ¬ circ l (k : Int) := by
  intro k hk hc
  unfold circleL at h
  cases hf : (List.range l.length).find? (fun (i : Nat) => decide (circ l (i : Int))) with
  | none =>
    rw [List.find?_eq_none] at hf
    have := hf k (by simpa using hk)
    simp [hc] at this
  | some n =>
    rw [hf] at h
    simp at h
    omega
theorem both_ways (l : List Int) (i k : Int) (hi : isAt l i) (hk : isAt l k) : (i ∈ aboveL l k) ↔ (k ∈ belowL l i) := by
  obtain ⟨n, rfl⟩ := Int.eq_ofNat_of_zero_le hk.1
  unfold belowL
  rw [if_pos hi]
  simp only [List.mem_map, List.mem_filter, List.mem_range, decide_eq_true_eq]
  refine ⟨fun h => ⟨n, ⟨by have := hk.2; omega, fun e => ?_, h⟩, rfl⟩, fun ⟨a, ⟨_, _, h⟩, e⟩ => ?_⟩
  · obtain ⟨m, p, hu, _⟩ := up_end l (n : Int)
    rw [← e] at h
    exact hu.not h
  · have : a = n := by omega
    subst this; exact h

end Go.Proofs.Ytfocnmkbnccilaa
