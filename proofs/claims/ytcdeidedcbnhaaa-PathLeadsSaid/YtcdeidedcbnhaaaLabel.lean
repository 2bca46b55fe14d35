/-
  THE WALKS of label's small functions.
-/
import Derived.Test.YtcdeidedcbnhaaaLabelSpec
import Derived.Test.YtcdeidedcbnhaaaNest
set_option linter.unusedVariables false
set_option linter.unusedSimpArgs false
namespace Go.Proofs.Ytcdeidedcbnhaaa
open Go.RowKit

/-- a slice of bools reads as a list -/
def RB (w : World) (v : Value) (l : List Bool) : Prop := (sliceR boolR).one w (fun b => b < w.heap.size) v l
theorem RB.below {w w' : World} {v : Value} {l : List Bool} (h : RB w v l) (hb : Below w.heap.size w w') : RB w' v l := slice_mono (slice_below h hb fun b h => h) fun b h => Nat.lt_of_lt_of_le h hb.size
theorem RB.form {w : World} {v : Value} {l : List Bool} (h : RB w v l) : ∃ A c, v = .slice A l.length c ∧ l.length ≤ c := by
  obtain ⟨A, c, h1, h2, _⟩ := slice_form h
  exact ⟨A, c, h1, h2⟩
theorem RB.at_ {w : World} {A : Option Addr} {n c : Nat} {l : List Bool} (h : RB w (.slice A n c) l) {k : Nat} (hk : k < l.length) :
    ∃ b o, A = some ⟨b, o, none⟩ ∧ w.cell? ⟨b, o + k, none⟩ = some (.bool (l.getD k false)) := by
  obtain ⟨b, o, rfl, hb, _⟩ := slice_some h (by omega)
  have := bools_at h hk
  rw [List.getD, List.getElem?_eq_getElem hk]
  exact ⟨b, o, rfl, this⟩
theorem RB.own {w : World} {base : Nat} {v : Value} {n : Nat} {l : List Bool} (h : w.ownsRow base 4 1 v n (l.map Value.bool)) : RB w v l :=
  slice_mono (slice_own1 (r := boolR) _ h rfl fun a ha => rfl) fun b h => h.2
/-- a slice of slices of ints reads as a list of lists -/
def RR (w : World) (v : Value) (l : List (List Int)) : Prop := (sliceR (sliceR (intR .i64))).one w (fun b => b < w.heap.size) v l
theorem RR.below {w w' : World} {v : Value} {l : List (List Int)} (h : RR w v l) (hb : Below w.heap.size w w') : RR w' v l := slice_mono (slice_below h hb fun b h => h) fun b h => Nat.lt_of_lt_of_le h hb.size
theorem RR.form {w : World} {v : Value} {l : List (List Int)} (h : RR w v l) : ∃ A c, v = .slice A l.length c ∧ l.length ≤ c := by
  obtain ⟨A, c, h1, h2, _⟩ := slice_form h
  exact ⟨A, c, h1, h2⟩
theorem RR.at_ {w : World} {A : Option Addr} {n c : Nat} {l : List (List Int)} (h : RR w (.slice A n c) l) {k : Nat} (hk : k < l.length) :
    ∃ b o A' c', A = some ⟨b, o, none⟩ ∧ w.cell? ⟨b, o + k, none⟩ = some (.slice A' (l.getD k []).length c') ∧ (l.getD k []).length ≤ c' ∧ c' ≤ 9223372036854775807 ∧ RI w (.slice A' (l.getD k []).length c') (l.getD k []) := by
  obtain ⟨b, o, rfl, hb, _⟩ := slice_some h (by omega)
  have := rows_at h hk
  rw [List.getD, List.getElem?_eq_getElem hk]
  obtain ⟨A', c', h1, h2, h3, h4⟩ := this
  exact ⟨b, o, A', c', rfl, h1, h2, h3, h4⟩
theorem boolInfo : (Try.prog.info? 4).map (fun i => (i.zero, i.size, i.bytes)) = some (some (.bool false), 1, 1) := by kernel_rfl
theorem rowInfo : (Try.prog.info? 22).map (fun i => (i.zero, i.size, i.bytes)) = some (some (.slice none 0 0), 1, 24) := by kernel_rfl

set_option maxHeartbeats 400000 in
theorem labelIs_any (a : List Bool) (v : Value) (i : Int) (w : World) (hl : a.length ≤ 9223372036854775807) (hv : RB w v a) :
    Calls Try.prog 49 #[v, .int .i64 i] w fun e w' => e = .returned (.bool (isB a i)) ∧ w = w' := by
  obtain ⟨A, c, rfl, hc⟩ := hv.form
  by_cases h0 : 0 ≤ i
  · obtain ⟨k, rfl⟩ := Int.eq_ofNat_of_zero_le h0
    by_cases hlt : k < a.length
    · obtain ⟨b, o, rfl, hcell⟩ := hv.at_ hlt
      rw [isB_nat]
      generalize a.getD k false = x at *
      go_enter Try.func49, Try.ntmps49
      go_wp2_with fail
      go_ret
      exact ⟨by simp_all, rfl⟩
    · have e : isB a (k : Int) = false := by
        cases h : isB a (k : Int) with
        | false => rfl
        | true => have := isB_lt h; omega
      rw [e]
      clear e
      go_enter Try.func49, Try.ntmps49
      go_wp2_with fail
      go_ret
      exact ⟨by simp_all, rfl⟩
  · have e : isB a i = false := by
      cases h : isB a i with
      | false => rfl
      | true => have := isB_lt h; omega
    rw [e]
    clear e
    go_enter Try.func49, Try.ntmps49
    go_wp2_with fail
    go_ret
    exact ⟨by simp_all, rfl⟩

set_option maxHeartbeats 400000 in
theorem refIs_any (a : List Bool) (v : Value) (i : Int) (w : World) (hl : a.length ≤ 9223372036854775807) (hv : RB w v a) :
    Calls Try.prog 28 #[v, .int .i64 i] w fun e w' => e = .returned (.bool (isB a i)) ∧ w = w' := by
  obtain ⟨A, c, rfl, hc⟩ := hv.form
  by_cases h0 : 0 ≤ i
  · obtain ⟨k, rfl⟩ := Int.eq_ofNat_of_zero_le h0
    by_cases hlt : k < a.length
    · obtain ⟨b, o, rfl, hcell⟩ := hv.at_ hlt
      rw [isB_nat]
      generalize a.getD k false = x at *
      go_enter Try.func28, Try.ntmps28
      go_wp2_with fail
      go_ret
      exact ⟨by simp_all, rfl⟩
    · have e : isB a (k : Int) = false := by
        cases h : isB a (k : Int) with
        | false => rfl
        | true => have := isB_lt h; omega
      rw [e]
      clear e
      go_enter Try.func28, Try.ntmps28
      go_wp2_with fail
      go_ret
      exact ⟨by simp_all, rfl⟩
  · have e : isB a i = false := by
      cases h : isB a i with
      | false => rfl
      | true => have := isB_lt h; omega
    rw [e]
    clear e
    go_enter Try.func28, Try.ntmps28
    go_wp2_with fail
    go_ret
    exact ⟨by simp_all, rfl⟩

set_option maxHeartbeats 400000 in
theorem pathIs_any (a : List Bool) (v : Value) (i : Int) (w : World) (hl : a.length ≤ 9223372036854775807) (hv : RB w v a) :
    Calls Try.prog 55 #[v, .int .i64 i] w fun e w' => e = .returned (.bool (isB a i)) ∧ w = w' := by
  obtain ⟨A, c, rfl, hc⟩ := hv.form
  by_cases h0 : 0 ≤ i
  · obtain ⟨k, rfl⟩ := Int.eq_ofNat_of_zero_le h0
    by_cases hlt : k < a.length
    · obtain ⟨b, o, rfl, hcell⟩ := hv.at_ hlt
      rw [isB_nat]
      generalize a.getD k false = x at *
      go_enter Try.func55, Try.ntmps55
      go_wp2_with fail
      go_ret
      exact ⟨by simp_all, rfl⟩
    · have e : isB a (k : Int) = false := by
        cases h : isB a (k : Int) with
        | false => rfl
        | true => have := isB_lt h; omega
      rw [e]
      clear e
      go_enter Try.func55, Try.ntmps55
      go_wp2_with fail
      go_ret
      exact ⟨by simp_all, rfl⟩
  · have e : isB a i = false := by
      cases h : isB a i with
      | false => rfl
      | true => have := isB_lt h; omega
    rw [e]
    clear e
    go_enter Try.func55, Try.ntmps55
    go_wp2_with fail
    go_ret
    exact ⟨by simp_all, rfl⟩

set_option maxHeartbeats 400000 in
theorem labelPlace_any (next : List (List Int)) (v : Value) (i : Int) (w : World) (hl : next.length ≤ 9223372036854775807) (hv : RR w v next) :
    Calls Try.prog 50 #[v, .int .i64 i] w fun e w' => e = .returned (.bool (decide (0 ≤ i ∧ i < (next.length : Int)))) ∧ w = w' := by
  obtain ⟨A, c, rfl, hc⟩ := hv.form
  by_cases h0 : 0 ≤ i
  · by_cases h1 : i < (next.length : Int)
    · rw [decide_eq_true (show 0 ≤ i ∧ i < (next.length : Int) from ⟨h0, h1⟩)]
      go_enter Try.func50, Try.ntmps50
      go_wp2_with fail
      go_ret
      exact ⟨by simp_all, rfl⟩
    · rw [decide_eq_false (show ¬ (0 ≤ i ∧ i < (next.length : Int)) from fun h => h1 h.2)]
      go_enter Try.func50, Try.ntmps50
      go_wp2_with fail
      go_ret
      exact ⟨by simp_all, rfl⟩
  · rw [decide_eq_false (show ¬ (0 ≤ i ∧ i < (next.length : Int)) from fun h => h0 h.1)]
    go_enter Try.func50, Try.ntmps50
    go_wp2_with fail
    go_ret
    exact ⟨by simp_all, rfl⟩

set_option maxHeartbeats 400000 in
theorem pathPlace_any (next : List (List Int)) (v : Value) (i : Int) (w : World) (hl : next.length ≤ 9223372036854775807) (hv : RR w v next) :
    Calls Try.prog 54 #[v, .int .i64 i] w fun e w' => e = .returned (.bool (decide (0 ≤ i ∧ i < (next.length : Int)))) ∧ w = w' := by
  obtain ⟨A, c, rfl, hc⟩ := hv.form
  by_cases h0 : 0 ≤ i
  · by_cases h1 : i < (next.length : Int)
    · rw [decide_eq_true (show 0 ≤ i ∧ i < (next.length : Int) from ⟨h0, h1⟩)]
      go_enter Try.func54, Try.ntmps54
      go_wp2_with fail
      go_ret
      exact ⟨by simp_all, rfl⟩
    · rw [decide_eq_false (show ¬ (0 ≤ i ∧ i < (next.length : Int)) from fun h => h1 h.2)]
      go_enter Try.func54, Try.ntmps54
      go_wp2_with fail
      go_ret
      exact ⟨by simp_all, rfl⟩
  · rw [decide_eq_false (show ¬ (0 ≤ i ∧ i < (next.length : Int)) from fun h => h0 h.1)]
    go_enter Try.func54, Try.ntmps54
    go_wp2_with fail
    go_ret
    exact ⟨by simp_all, rfl⟩

end Go.Proofs.Ytcdeidedcbnhaaa
