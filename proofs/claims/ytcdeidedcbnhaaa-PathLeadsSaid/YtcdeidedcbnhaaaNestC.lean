/-
  THE WALKS of nest and warderref10 that make lists; Circle.
-/
import Derived.Test.YtcdeidedcbnhaaaNestB
set_option linter.unusedVariables false
set_option linter.unusedSimpArgs false
namespace Go.Proofs.Ytcdeidedcbnhaaa
open Go.RowKit

def fl (p : Nat → Bool) (k : Nat) : List Int := ((List.range k).filter p).map fun (n : Nat) => (n : Int)
theorem fl_yes (p : Nat → Bool) (k : Nat) (h : p k = true) : fl p (k + 1) = fl p k ++ [(k : Int)] := by simp [fl, List.range_succ, h]
theorem fl_no (p : Nat → Bool) (k : Nat) (h : p k = false) : fl p (k + 1) = fl p k := by simp [fl, List.range_succ, h]
theorem fl_len (p : Nat → Bool) (k : Nat) : (fl p k).length ≤ k := by
  have := List.length_filter_le p (List.range k)
  simpa [fl] using this
theorem fl_at (p : Nat → Bool) (k : Nat) : ∀ x ∈ fl p k, 0 ≤ x ∧ x < (k : Int) := by
  intro x hx
  simp [fl] at hx
  obtain ⟨n, ⟨h1, _⟩, rfl⟩ := hx
  omega
theorem above_at (l : List Int) (i : Int) : ∀ x ∈ aboveL l i, isAt l x := by
  obtain ⟨m, p, h, _⟩ := up_end l i
  exact h.at_
theorem above_len (l : List Int) (i : Int) : (aboveL l i).length ≤ l.length := by
  obtain ⟨m, p, h, _⟩ := up_end l i
  rw [h.len]; exact h.room
theorem RI.list {w : World} {base : Nat} {v : Value} {n : Nat} {l L : List Int} (h : w.ownsRow base 3 1 v n (L.map (Value.int .i64))) (hx : ∀ x ∈ L, isAt l x) (hl : l.length ≤ 1073741824) : RI w v L :=
  RI.own h fun x hh => by have := hx x hh; unfold isAt at this; omega

set_option maxHeartbeats 1000000 in
theorem refAbove_any (l : List Int) (v : Value) (i : Int) (w : World) (hl : l.length ≤ 1073741824) (hv : RI w v l) :
    Calls Try.prog 17 #[v, .int .i64 i] w (ListPost (aboveL l i) w) := by
  obtain ⟨i0, hi0, hz0, hz1, hz2⟩ := info_parts intInfo
  obtain ⟨A, c, rfl, hc⟩ := hv.form
  go_enter Try.func17, Try.ntmps17
  go_wp2_with fail
  go_loopw [5, 6] (fun u j wr => ∃ (m : Nat) (q : Int) (out : List Int), m ≤ l.length ∧ j = .int .i64 ((m : Int) + 1) ∧ UpAt l i m q out ∧ wr.ownsRow w.heap.size 3 1 u out.length (out.map (Value.int .i64)) ∧ Below w.heap.size w wr) (fun u j wr => l.length + 1 - (intOf j).toNat)
  case atStart => exact ⟨0, i, [], Nat.zero_le _, rfl, UpAt.start l i, World.ownsRow_nil _ _ _ _, Below.refl _ _⟩
  case round =>
    obtain ⟨m, q, out, hm, rfl, hup, hown, hb⟩ := hrel
    have hv1 := hv.below hb
    by_cases hlt : m < l.length
    · have hupn := up_any l _ i ((m : Int) + 1) wr hl (by omega) (by omega) hv1
      rw [show ((m : Int) + 1).toNat = m + 1 from by omega, ← hup.cur] at hupn
      have hat := hup.at_
      have hlen := hup.len
      have hri : RI wr u5 out := RI.list hown hat hl
      have hl1 : out.length ≤ 4294967296 := by omega
      obtain ⟨A', c', rfl, hc'⟩ := hri.form
      have Hstop := hide (hup.stop)
      have Hnext := hide (hup.next)
      have hsl : stops l i q out → out = aboveL l i := hup.stop
      have Hup := hide hup
      have Hlen := hide hlen
      have Hupn := hide hupn
      have Hat := hide hat
      clear hat hlen hup hupn hsl
      rcases par_at l q with hp | hp
      · have E := hide (Hstop.out (.inl hp))
        have Hp := hide hp
        have hupn2 := Hupn.out
        rw [hp] at hupn2
        have Hupn2 := hide hupn2
        clear hp hupn2
        go_wp2_with (go_at_call 46; refine Hupn2.out.mono ?_; rintro e w2 ⟨rfl, rfl⟩)
        go_ret
        rw [← E.out]
        exact ⟨_, rfl, hown, hb⟩
      · have hpr : 0 ≤ par l q ∧ par l q < (l.length : Int) := hp
        have hs1 : par l q = i → out = aboveL l i := fun h => Hstop.out (.inr (.inl h))
        have hs2 : par l q ∈ out → out = aboveL l i := fun h => Hstop.out (.inr (.inr h))
        have hs3 : par l q ≠ i → par l q ∉ out → UpAt l i (m + 1) (par l q) (out ++ [par l q]) ∧ m + 1 ≤ l.length := fun h1 h2 => Hnext.out (fun hh => by
          rcases hh with hh | hh | hh
          · have := hp.1; omega
          · exact h1 hh
          · exact h2 hh)
        have Hs1 := hide hs1
        have Hs2 := hide hs2
        have Hs3 := hide hs3
        clear hp hs1 hs2 hs3 Hstop Hnext
        generalize par l q = y at *
        cases h1 : (y == i) with
        | true =>
          have E := hide (Hs1.out (by simpa using h1))
          go_wp2_with (go_at_call 46; refine Hupn.out.mono ?_; rintro e w2 ⟨rfl, rfl⟩)
          go_ret
          rw [← E.out]
          exact ⟨_, rfl, hown, hb⟩
        | false =>
          have hne : y ≠ i := by simpa using h1
          have hcn := refHas_any out _ y wr hl1 hri
          by_cases h2 : y ∈ out
          · rw [show decide (y ∈ out) = true from decide_eq_true h2] at hcn
            have Hcn := hide hcn
            have E := hide (Hs2.out h2)
            clear hcn h2 hne
            go_wp2_with (first
              | (go_at_call 46; refine Hupn.out.mono ?_; rintro e w2 ⟨rfl, rfl⟩)
              | (go_at_call 47; refine Hcn.out.mono ?_; rintro e w2 ⟨rfl, rfl⟩))
            go_ret
            rw [← E.out]
            exact ⟨_, rfl, hown, hb⟩
          · rw [show decide (y ∈ out) = false from decide_eq_false h2] at hcn
            have Hcn := hide hcn
            have E := hide (Hs3.out hne h2)
            clear hcn h2 hne
            go_wp2_with (first
              | (go_at_call 46; refine Hupn.out.mono ?_; rintro e w2 ⟨rfl, rfl⟩)
              | (go_at_call 47; refine Hcn.out.mono ?_; rintro e w2 ⟨rfl, rfl⟩)
              | (at_builtin; refine wpList_append_own _ rfl (.tmp 31) (.tmp 33) 22 rfl w.heap.size 3 i0 _ 1 8 Try.underlying22 hi0 hz0 hz1 hz2 rfl (by omega) _ out.length _ rfl (hown.alloc _) ⟨wr.heap.size, 0, none⟩ 1 1 [.int .i64 y] rfl rfl (one_new _ _ _) (one_one _) (by unfold maxLen; omega) (by omega) (by have := hb.size; simp; omega) ?_; intro v2 w2 hown2 hg2 _))
            go_roundw
            case rel =>
              obtain ⟨e1, e2⟩ := E.out
              refine ⟨m + 1, y, out ++ [y], e2, by go_num, e1, ?_, (hb.alloc hb.size (.cells #[.int .i64 y] 3)).grown hg2 (by have := hb.size; simp; omega) (fun g hg => (hown.lt g hg).1)⟩
              have := hown2
              rw [List.length_append, List.map_append]
              exact this
            case measure => simp [intOf]; omega
    · obtain rfl : m = l.length := by omega
      have e : out = aboveL l i := by
        have := hup.rest
        rw [Nat.sub_self, goUp] at this
        exact this
      have E := hide e
      clear e
      obtain ⟨A', c', rfl, hc'⟩ := own_form hown
      go_wp2_with fail
      go_ret
      rw [← E.out]
      exact ⟨_, rfl, hown, hb⟩

theorem deep_any (l : List Int) (v : Value) (i : Int) (w : World) (hl : l.length ≤ 1073741824) (hv : RI w v l) :
    Calls Try.prog 18 #[v, .int .i64 i] w fun e w' => e = .returned (.int .i64 ((aboveL l i).length : Int)) ∧ Below w.heap.size w w' := by
  have ha := above_any l v i w hl hv
  have hlen := above_len l i
  generalize aboveL l i = L at *
  have Ha := hide ha
  clear ha
  go_enter Try.func18, Try.ntmps18
  go_wp2_with fail
  refine Ha.out.mono ?_
  rintro e w1 ⟨v1, rfl, hown, hb⟩
  obtain ⟨A', c', rfl, hc'⟩ := own_form hown
  go_wp2_with fail
  go_ret
  exact ⟨rfl, hb⟩

theorem same_ints (a b : List Int) (va vb : Value) (w : World) (hl : a.length ≤ 4294967296) (ha : RI w va a) (hb : RI w vb b) :
    Calls Try.prog 16 #[va, vb] w fun e w' => e = .returned (.bool (decide (a = b))) ∧ Below w.heap.size w w' := by
  obtain ⟨A, ca, rfl, hca⟩ := ha.form
  obtain ⟨B, cb, rfl, hcb⟩ := hb.form
  by_cases hlen : a.length = b.length
  · have hne : ((a.length : Int) != (b.length : Int)) = false := by simp [hlen]
    have Hlen := hide hlen
    clear hlen
    go_enter Try.func16, Try.ntmps16
    go_wp2_with fail
    go_loopw [5] (fun i wr => ∃ k : Nat, k ≤ a.length ∧ i = .int .i64 (k : Int) ∧ a.take k = b.take k ∧ Below w.heap.size w wr) (fun i wr => a.length - (intOf i).toNat)
    case atStart => exact ⟨0, Nat.zero_le _, rfl, rfl, Below.refl _ _⟩
    case round =>
      obtain ⟨k, hk, rfl, heq, hbl⟩ := hrel
      have Heq := hide heq
      clear heq
      by_cases hlt : k < a.length
      · have hlt2 : k < b.length := by have := Hlen.out; omega
        obtain ⟨b1, o1, rfl, hcell, _, _⟩ := (ha.below hbl).at_ hlt
        obtain ⟨b2, o2, rfl, hcell2, _, _⟩ := (hb.below hbl).at_ hlt2
        rw [getD_at hlt] at hcell
        rw [getD_at hlt2] at hcell2
        have t1 := hide (List.take_succ_eq_append_getElem hlt)
        have t2 := hide (List.take_succ_eq_append_getElem hlt2)
        have hi : (k : Int) < (a.length : Int) := by omega
        have hi2 : (k : Int) < (b.length : Int) := by omega
        have Hne : Hid (a[k] ≠ b[k] → a ≠ b) := hide (fun h e => h (by subst e; rfl))
        generalize a[k] = x at *
        generalize b[k] = y at *
        by_cases hxy : x = y
        · have h1 : (x != y) = false := by simp [hxy]
          have Hxy := hide hxy
          clear hxy
          go_wp2_with fail
          go_quiet (fail)
          go_wp2_with fail
          go_roundw
          case rel => exact ⟨k + 1, by omega, by go_num, by rw [t1.out, t2.out, Heq.out, Hxy.out], below_drewN hbl _⟩
          case measure => simp [intOf]; omega
        · have h1 : (x != y) = true := by simp [hxy]
          have E := hide (show decide (a = b) = false from decide_eq_false (Hne.out hxy))
          clear hxy
          go_wp2_with fail
          go_quiet (fail)
          go_wp2_with fail
          go_ret
          rw [E.out]
          exact ⟨rfl, below_drewN hbl _⟩
      · obtain rfl : k = a.length := by omega
        have E := hide (show decide (a = b) = true from decide_eq_true (by have := Heq.out; rwa [List.take_length, Hlen.out, List.take_length] at this))
        go_wp2_with fail
        go_ret
        rw [E.out]
        exact ⟨rfl, hbl⟩
  · have hne : ((a.length : Int) != (b.length : Int)) = true := by simp; omega
    have E := hide (show decide (a = b) = false from decide_eq_false (fun h => hlen (by rw [h])))
    clear hlen
    go_enter Try.func16, Try.ntmps16
    go_wp2_with fail
    go_ret
    rw [E.out]
    exact ⟨rfl, Below.refl _ _⟩

end Go.Proofs.Ytcdeidedcbnhaaa
