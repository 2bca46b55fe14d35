/-
  THE WALKS of nest and warderref10 that make lists; Circle.
-/
import Derived.Test.YtfocnmkbnccilaaNestB
set_option linter.unusedVariables false
set_option linter.unusedSimpArgs false
namespace Go.Proofs.Ytfocnmkbnccilaa
open Go.RowKit

def fl (p : Nat → Bool) (k : Nat) : List Int := ((List.range k).filter p).map fun (n : Nat) => (n : Int)
theorem fl_yes (p : Nat → Bool) (k : Nat) (h : p k = true) : fl p (k + 1) = fl p k ++ [(k : Int)] := by simp [fl, List.range_succ, h]
theorem fl_no (p : Nat → Bool) (k : Nat) (h : p k = false) : fl p (k + 1) = fl p k := by simp [fl, List.range_succ, h]
theorem fl_len (p : Nat → Bool) (k : Nat) : (fl p k).length ≤ k := by
  have := List.length_filter_le p (List.range k)
  simpa [fl] using this
theorem fl_at (p : Nat → Bool) (k : Nat) : ∀ x ∈ fl p k, 0 ≤ x ∧ x < (k : Int) := by
  intro x hx
  simp [fl] at hx
  obtain ⟨n, ⟨h1, _⟩, rfl⟩ := hx
  omega
theorem above_at (l : List Int) (i : Int) : ∀ x ∈ aboveL l i, isAt l x := by
  obtain ⟨m, p, h, _⟩ := up_end l i
  exact h.at_
theorem above_len (l : List Int) (i : Int) : (aboveL l i).length ≤ l.length := by
  obtain ⟨m, p, h, _⟩ := up_end l i
  rw [h.len]; exact h.room
theorem RI.list {w : World} {base : Nat} {v : Value} {n : Nat} {l L : List Int} (h : w.ownsRow base 3 1 v n (L.map (Value.int .i64))) (hx : ∀ x ∈ L, isAt l x) (hl : l.length ≤ 1073741824) : RI w v L :=
  RI.own h fun x hh => by have := hx x hh; unfold isAt at this; omega

theorem same_ints (a b : List Int) (va vb : Value) (w : World) (hl : a.length ≤ 4294967296) (ha : RI w va a) (hb : RI w vb b) :
    Calls Try.prog 26 #[va, vb] w fun e w' => e = .returned (.bool (decide (a = b))) ∧ Below w.heap.size w w' := by
  obtain ⟨A, ca, rfl, hca⟩ := ha.form
  obtain ⟨B, cb, rfl, hcb⟩ := hb.form
  by_cases hlen : a.length = b.length
  · have hne : ((a.length : Int) != (b.length : Int)) = false := by simp [hlen]
    have Hlen := hide hlen
    clear hlen
    go_enter Try.func26, Try.ntmps26
    go_wp2_with fail
    go_loopw [5] (fun i wr => ∃ k : Nat, k ≤ a.length ∧ i = .int .i64 (k : Int) ∧ a.take k = b.take k ∧ Below w.heap.size w wr) (fun i wr => a.length - (intOf i).toNat)
    case atStart => exact ⟨0, Nat.zero_le _, rfl, rfl, Below.refl _ _⟩
    case round =>
      obtain ⟨k, hk, rfl, heq, hbl⟩ := hrel
      have Heq := hide heq
      clear heq
      by_cases hlt : k < a.length
      · have hlt2 : k < b.length := by have := Hlen.out; omega
        obtain ⟨b1, o1, rfl, hcell, _, _⟩ := (ha.below hbl).at_ hlt
        obtain ⟨b2, o2, rfl, hcell2, _, _⟩ := (hb.below hbl).at_ hlt2
        rw [getD_at hlt] at hcell
        rw [getD_at hlt2] at hcell2
        have t1 := hide (List.take_succ_eq_append_getElem hlt)
        have t2 := hide (List.take_succ_eq_append_getElem hlt2)
        have hi : (k : Int) < (a.length : Int) := by omega
        have hi2 : (k : Int) < (b.length : Int) := by omega
        have Hne : Hid (a[k] ≠ b[k] → a ≠ b) := hide (fun h e => h (by subst e; rfl))
        generalize a[k] = x at *
        generalize b[k] = y at *
        by_cases hxy : x = y
        · have h1 : (x != y) = false := by simp [hxy]
          have Hxy := hide hxy
          clear hxy
          go_wp2_with fail
          go_quiet (fail)
          go_wp2_with fail
          go_roundw
          case rel => exact ⟨k + 1, by omega, by go_num, by rw [t1.out, t2.out, Heq.out, Hxy.out], below_drewN hbl _⟩
          case measure => simp [intOf]; omega
        · have h1 : (x != y) = true := by simp [hxy]
          have E := hide (show decide (a = b) = false from decide_eq_false (Hne.out hxy))
          clear hxy
          go_wp2_with fail
          go_quiet (fail)
          go_wp2_with fail
          go_ret
          rw [E.out]
          exact ⟨rfl, below_drewN hbl _⟩
      · obtain rfl : k = a.length := by omega
        have E := hide (show decide (a = b) = true from decide_eq_true (by have := Heq.out; rwa [List.take_length, Hlen.out, List.take_length] at this))
        go_wp2_with fail
        go_ret
        rw [E.out]
        exact ⟨rfl, hbl⟩
  · have hne : ((a.length : Int) != (b.length : Int)) = true := by simp; omega
    have E := hide (show decide (a = b) = false from decide_eq_false (fun h => hlen (by rw [h])))
    clear hlen
    go_enter Try.func26, Try.ntmps26
    go_wp2_with fail
    go_ret
    rw [E.out]
    exact ⟨rfl, Below.refl _ _⟩

end Go.Proofs.Ytfocnmkbnccilaa
