/-
  CHAPTER 3, NumSorts: the document's walks (Same, Below, Has) and the library's Search, of any function.
-/
import Derived.Test.YtkfampdcigiokaaDoorMem
import Derived.Test.YtkfampdcigiokaaDoorNumSpec
import Derived.Test.YtkfampdcigiokaaDoorSortShelf
import Derived.Deep.LoopGhost
import Derived.Deep.Draws
import Derived.Deep.QuietTactic
import Derived.OpenShut
import Derived.ProofKit
set_option linter.unusedVariables false
set_option linter.unusedSimpArgs false
namespace Go.Proofs.YtkfampdcigiokaaDoor
open Go.RowKit

/-- v holds the numbers l -/
def LI (w : World) (v : Value) (l : List Int) : Prop :=
  ∃ A c, v = .slice A l.length c ∧ l.length ≤ c ∧ (0 < l.length → ∃ b o, A = some ⟨b, o, none⟩ ∧ b < w.heap.size ∧ ∀ i (h : i < l.length), w.cell? ⟨b, o + i, none⟩ = some (.int .i64 l[i]))
theorem LI.below {w w' : World} {v : Value} {l : List Int} (h : LI w v l) (hb : Below w.heap.size w w') : LI w' v l := by
  obtain ⟨A, c, rfl, hc, hr⟩ := h
  refine ⟨A, c, rfl, hc, fun hp => ?_⟩
  obtain ⟨b, o, hA, hb1, hcell⟩ := hr hp
  exact ⟨b, o, hA, Nat.lt_of_lt_of_le hb1 hb.size, fun i hi => (hb.cell hb1).trans (hcell i hi)⟩
theorem LI.some_ {w : World} {v : Value} {l : List Int} (h : LI w v l) (hp : 0 < l.length) : ∃ b o c, v = .slice (some ⟨b, o, none⟩) l.length c ∧ l.length ≤ c ∧ b < w.heap.size ∧ ∀ i (h : i < l.length), w.cell? ⟨b, o + i, none⟩ = some (.int .i64 l[i]) := by
  obtain ⟨A, c, rfl, hc, hr⟩ := h
  obtain ⟨b, o, rfl, hb, hcell⟩ := hr hp
  exact ⟨b, o, c, rfl, hc, hb, hcell⟩
theorem LI.at_ {w : World} {A : Option Addr} {c : Nat} {l : List Int} (h : LI w (.slice A l.length c) l) {i : Nat} (hi : i < l.length) : ∃ b o, A = some ⟨b, o, none⟩ ∧ b < w.heap.size ∧ w.cell? ⟨b, o + i, none⟩ = some (.int .i64 l[i]) := by
  obtain ⟨A', c', e, hc, hr⟩ := h
  obtain ⟨rfl, _, rfl⟩ : A = A' ∧ l.length = l.length ∧ c = c' := by simpa using e
  obtain ⟨b, o, rfl, hb, hcell⟩ := hr (by omega)
  exact ⟨b, o, rfl, hb, hcell i hi⟩
theorem LI.of_own {w : World} {base n : Nat} {v : Value} {l : List Int} (h : w.ownsRow base 2 1 v n (l.map (Value.int .i64))) (hn : n = l.length) : LI w v l := by
  subst hn
  obtain ⟨A, c, rfl, hc⟩ := own_form h
  refine ⟨A, c, rfl, hc, fun hp => ?_⟩
  obtain ⟨g, c', e, _, _, hg⟩ := own_some h hp
  obtain ⟨rfl, _, rfl⟩ : A = some ⟨g, 0, none⟩ ∧ l.length = l.length ∧ c = c' := by simpa using e
  exact ⟨g, 0, rfl, hg, fun i hi => by rw [Nat.zero_add]; exact own_cell h rfl (by simp [hi])⟩

theorem below_drewN' {B : Nat} {w w' : World} (h : Below B w w') (n : Nat) : Below B w (w'.drewN n) := h.trans ⟨rfl, rfl, rfl, Nat.le_refl _, fun _ _ => rfl⟩

set_option maxHeartbeats 2000000 in
theorem sameL_any (a b : List Int) (va vb : Value) (w : World) (hl : a.length ≤ 4294967296) (ha : LI w va a) (hb : LI w vb b) :
    Calls Tryd.prog 18 #[va, vb] w fun e w' => e = .returned (.bool (decide (a = b))) ∧ Below w.heap.size w w' := by
  have ha0 := ha
  have hb0 := hb
  obtain ⟨A, ca, rfl, hca, _⟩ := ha0
  obtain ⟨B, cb, rfl, hcb, _⟩ := hb0
  by_cases hlen : a.length = b.length
  · have hne : ((a.length : Int) != (b.length : Int)) = false := by simp [hlen]
    have Hlen := hide hlen
    clear hlen
    have Ha := hide ha
    have Hb := hide hb
    clear ha hb
    go_enter Tryd.func18, Tryd.ntmps18
    go_wp2_with fail
    go_loopw [5] (fun i wr => ∃ k : Nat, k ≤ a.length ∧ i = .int .i64 (k : Int) ∧ a.take k = b.take k ∧ Below w.heap.size w wr) (fun i wr => a.length - (intOf i).toNat)
    case atStart => exact ⟨0, Nat.zero_le _, rfl, rfl, Below.refl _ _⟩
    case round =>
      obtain ⟨k, hk, rfl, heq, hbl⟩ := hrel
      have Heq := hide heq
      clear heq
      by_cases hlt : k < a.length
      · have hlt2 : k < b.length := by have := Hlen.out; omega
        obtain ⟨b1, o1, rfl, _, hcell⟩ := (Ha.out.below hbl).at_ hlt
        obtain ⟨b2, o2, rfl, _, hcell2⟩ := (Hb.out.below hbl).at_ hlt2
        have t1 := hide (List.take_succ_eq_append_getElem hlt)
        have t2 := hide (List.take_succ_eq_append_getElem hlt2)
        have hi : (k : Int) < (a.length : Int) := by omega
        have hi2 : (k : Int) < (b.length : Int) := by omega
        have Hne : Hid (a[k] ≠ b[k] → a ≠ b) := hide (fun h e => h (by subst e; rfl))
        generalize a[k] = x at *
        generalize b[k] = y at *
        by_cases hxy : x = y
        · have h1 : (x != y) = false := by simp [hxy]
          have Hxy := hide hxy
          clear hxy
          go_wp2_with fail
          go_quiet (fail)
          go_wp2_with fail
          go_roundw
          case rel => exact ⟨k + 1, by omega, by go_num, by rw [t1.out, t2.out, Heq.out, Hxy.out], below_drewN' hbl _⟩
          case measure => simp [intOf]; omega
        · have h1 : (x != y) = true := by simp [hxy]
          have E := hide (show decide (a = b) = false from decide_eq_false (Hne.out hxy))
          clear hxy
          go_wp2_with fail
          go_quiet (fail)
          go_wp2_with fail
          go_ret
          rw [E.out]
          exact ⟨rfl, below_drewN' hbl _⟩
      · obtain rfl : k = a.length := by omega
        have E := hide (show decide (a = b) = true from decide_eq_true (by have := Heq.out; rwa [List.take_length, Hlen.out, List.take_length] at this))
        go_wp2_with fail
        go_ret
        rw [E.out]
        exact ⟨rfl, hbl⟩
  · have hne : ((a.length : Int) != (b.length : Int)) = true := by simp; omega
    have E := hide (show decide (a = b) = false from decide_eq_false (fun e => hlen (by rw [e])))
    clear hlen
    go_enter Tryd.func18, Tryd.ntmps18
    go_wp2_with fail
    go_ret
    rw [E.out]
    exact ⟨rfl, Below.refl _ _⟩

def belowN (l : List Int) (n : Int) : Nat := l.countP (fun x => decide (x < n))
set_option maxHeartbeats 2000000 in
theorem belowL_any (l : List Int) (n : Int) (v : Value) (w : World) (hl : l.length ≤ 4294967296) (h : LI w v l) :
    Calls Tryd.prog 21 #[v, .int .i64 n] w fun e w' => e = .returned (.int .i64 (belowN l n : Nat)) ∧ Below w.heap.size w w' := by
  have h0 := h
  obtain ⟨A, ca, rfl, hca, _⟩ := h0
  unfold belowN
  have H := hide h
  clear h
  go_enter Tryd.func21, Tryd.ntmps21
  go_wp2_with fail
  go_loopw [5, 6] (fun kv i wr => ∃ k : Nat, k ≤ l.length ∧ i = .int .i64 (k : Int) ∧ (∃ c : Nat, c = (l.take k).countP (fun x => decide (x < n)) ∧ c ≤ k ∧ kv = .int .i64 (c : Int)) ∧ Below w.heap.size w wr) (fun kv i wr => l.length - (intOf i).toNat)
  case atStart => exact ⟨0, Nat.zero_le _, rfl, ⟨0, by simp, Nat.le_refl _, rfl⟩, Below.refl _ _⟩
  case round =>
    obtain ⟨k, hk, rfl, ⟨c, hc, hck, rfl⟩, hbl⟩ := hrel
    by_cases hlt : k < l.length
    · obtain ⟨b1, o1, rfl, _, hcell⟩ := (H.out.below hbl).at_ hlt
      have t1 := List.take_succ_eq_append_getElem hlt
      have hi : (k : Int) < (l.length : Int) := by omega
      have hc2 : (l.take (k + 1)).countP (fun x => decide (x < n)) = c + (if l[k] < n then 1 else 0) := by
        rw [t1, List.countP_append, hc]; simp [List.countP_singleton]
      have Hc2 := hide hc2
      clear hc2 hc t1
      generalize l[k] = x at *
      by_cases hx : x < n
      · rw [if_pos hx] at Hc2
        have h1 : decide (x < n) = true := decide_eq_true hx
        clear hx
        go_wp2_with fail
        go_roundw
        case rel => exact ⟨k + 1, by omega, by go_num, ⟨c + 1, Hc2.out.symm, by omega, by go_num⟩, hbl⟩
        case measure => simp [intOf]; omega
      · rw [if_neg hx] at Hc2
        have h1 : decide (x < n) = false := decide_eq_false hx
        clear hx
        go_wp2_with fail
        go_roundw
        case rel => exact ⟨k + 1, by omega, by go_num, ⟨c, Hc2.out.symm, by omega, rfl⟩, hbl⟩
        case measure => simp [intOf]; omega
    · obtain rfl : k = l.length := by omega
      rw [List.take_length] at hc
      have Hc := hide hc
      clear hc
      go_wp2_with fail
      go_ret
      rw [← Hc.out]
      exact ⟨rfl, hbl⟩

set_option maxHeartbeats 2000000 in
theorem hasL_any (l : List Int) (n : Int) (v : Value) (w : World) (hl : l.length ≤ 4294967296) (h : LI w v l) :
    Calls Tryd.prog 22 #[v, .int .i64 n] w fun e w' => e = .returned (.bool (decide (n ∈ l))) ∧ Below w.heap.size w w' := by
  have h0 := h
  obtain ⟨A, ca, rfl, hca, _⟩ := h0
  have H := hide h
  clear h
  go_enter Tryd.func22, Tryd.ntmps22
  go_wp2_with fail
  go_loopw [5] (fun i wr => ∃ k : Nat, k ≤ l.length ∧ i = .int .i64 (k : Int) ∧ n ∉ l.take k ∧ Below w.heap.size w wr) (fun i wr => l.length - (intOf i).toNat)
  case atStart => exact ⟨0, Nat.zero_le _, rfl, by simp, Below.refl _ _⟩
  case round =>
    obtain ⟨k, hk, rfl, hn, hbl⟩ := hrel
    have Hn := hide hn
    clear hn
    by_cases hlt : k < l.length
    · obtain ⟨b1, o1, rfl, _, hcell⟩ := (H.out.below hbl).at_ hlt
      have t1 := hide (List.take_succ_eq_append_getElem hlt)
      have hi : (k : Int) < (l.length : Int) := by omega
      have hm : Hid (l[k] ∈ l) := hide (List.getElem_mem hlt)
      generalize l[k] = x at *
      by_cases hx : x = n
      · subst hx
        have h1 : (x == x) = true := by simp
        have E := hide (show decide (x ∈ l) = true from decide_eq_true hm.out)
        go_wp2_with fail
        go_ret
        rw [E.out]
        exact ⟨rfl, hbl⟩
      · have h1 : (x == n) = false := by rw [beq_eq_false_iff_ne]; exact hx
        have Hx := hide hx
        clear hx
        go_wp2_with fail
        go_roundw
        case rel => exact ⟨k + 1, by omega, by go_num, by rw [t1.out]; simp only [List.mem_append, List.mem_singleton]; rintro (h | h); exact Hn.out h; exact Hx.out h.symm, hbl⟩
        case measure => simp [intOf]; omega
    · obtain rfl : k = l.length := by omega
      have E := hide (show decide (n ∈ l) = false from decide_eq_false (by have := Hn.out; rwa [List.take_length] at this))
      go_wp2_with fail
      go_ret
      rw [E.out]
      exact ⟨rfl, hbl⟩
end Go.Proofs.YtkfampdcigiokaaDoor
