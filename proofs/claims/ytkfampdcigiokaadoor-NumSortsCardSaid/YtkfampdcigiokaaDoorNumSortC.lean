/-
  CHAPTER 3, NumSorts: num.Sorted and num.Find (with the library's Search over any list).
-/
import Derived.Test.YtkfampdcigiokaaDoorNumSortA
import Derived.Test.YtkfampdcigiokaaDoorNumSortP
set_option linter.unusedVariables false
set_option linter.unusedSimpArgs false
namespace Go.Proofs.YtkfampdcigiokaaDoor
open Go.RowKit Go.Sort

theorem i64Info : (Tryd.prog.info? 2).map (fun i => (i.zero, i.size, i.bytes)) = some (some (.int .i64 0), 1, 8) := by kernel_rfl

/-- the closure of Find: l and n in their boxes -/
theorem findC_any (ba bn b o c : Nat) (l : List Int) (n : Int) (i : Nat) (W : World) (hi : i < l.length)
    (ha : W.cell? ⟨ba, 0, none⟩ = some (.slice (some ⟨b, o, none⟩) l.length c)) (hn : W.cell? ⟨bn, 0, none⟩ = some (.int .i64 n)) (hc : W.cell? ⟨b, o + i, none⟩ = some (.int .i64 l[i])) :
    Calls Tryd.prog 30 (#[.int .i64 (i : Int)] ++ #[.pointer (some ⟨ba, 0, none⟩), .pointer (some ⟨bn, 0, none⟩)]) W fun e w' => e = .returned (.bool (decide (n ≤ l[i]))) ∧ ∃ q, w' = W.drewN q := by
  generalize l[i] = y at *
  have hiz : (i : Int) < (l.length : Int) := by omega
  go_enter Tryd.func30, Tryd.ntmps30
  go_wp2_with fail
  go_quiet (fail)
  go_wp2_with fail
  go_ret
  exact ⟨rfl, _, rfl⟩

/-- the library's Search with Find's closure -/
theorem search_any (g : FuncId) (cb : Array Value) (n : Nat) (p : Nat → Bool) (w : World) (eg : ∀ args w, (callFunc g args).run Tryd.prog w = .ok (.enter g args) w) (hsz : n < 4611686018427387904)
    (hf : ∀ (m : Nat) (i : Nat), i < n → Calls Tryd.prog g (#[.int .i64 i] ++ cb) (w.drewN m) fun e w' => e = .returned (.bool (p i)) ∧ ∃ q, w' = (w.drewN m).drewN q) :
    Calls Tryd.prog 29 #[.int .i64 n, .func (.func g) #[] cb] w fun e w' => ∃ r : Nat, e = .returned (.int .i64 (r : Int)) ∧ r ≤ n ∧ (0 < r → p (r - 1) = false) ∧ (r < n → p r = true) ∧ ∃ q, w' = w.drewN q := by
  have HF := hide hf
  clear hf
  go_enter Tryd.func29, Tryd.ntmps29
  go_wp2_with fail
  go_loopw [5, 6] (fun s5 s6 wr => ∃ (lo hi q : Nat), s5 = .int .i64 (lo : Int) ∧ s6 = .int .i64 (hi : Int) ∧ lo ≤ hi ∧ hi ≤ n ∧ Hid ((0 < lo → p (lo - 1) = false) ∧ (hi < n → p hi = true)) ∧ wr = w.drewN q) (fun s5 s6 wr => (intOf s6).toNat - (intOf s5).toNat)
  case atStart => exact ⟨0, n, 0, rfl, rfl, Nat.zero_le _, Nat.le_refl _, hide ⟨fun h => absurd h (Nat.lt_irrefl _), fun h => absurd h (Nat.lt_irrefl _)⟩, rfl⟩
  case round =>
    obtain ⟨lo, hi, q, rfl, rfl, hlh, hin, I, rfl⟩ := hrel
    by_cases hlt : lo < hi
    · have hc := HF.out q ((lo + hi) / 2) (by omega)
      rw [show (((lo + hi) / 2 : Nat) : Int) = ((lo : Int) + (hi : Int)) / 2 by omega] at hc
      cases hp : p ((lo + hi) / 2) <;> rw [hp] at hc
      · have HP := hide hp
        clear hp
        go_wp2_with (go_at_fn g; refine hc.mono ?_; rintro e w' ⟨rfl, nq, rfl⟩)
        go_roundw
        case rel => exact ⟨(lo + hi) / 2 + 1, hi, q + nq, by rw [show ((lo : Int) + (hi : Int)) / 2 + 1 = (((lo + hi) / 2 + 1 : Nat) : Int) by omega], rfl, by omega, hin, hide ⟨fun _ => by rw [Nat.add_sub_cancel]; exact HP.out, I.out.2⟩, rfl⟩
        case measure => simp [intOf]; omega
      · have HP := hide hp
        clear hp
        go_wp2_with (go_at_fn g; refine hc.mono ?_; rintro e w' ⟨rfl, nq, rfl⟩)
        go_roundw
        case rel => exact ⟨lo, (lo + hi) / 2, q + nq, rfl, by rw [show ((lo : Int) + (hi : Int)) / 2 = (((lo + hi) / 2 : Nat) : Int) by omega], by omega, by omega, hide ⟨I.out.1, fun _ => HP.out⟩, rfl⟩
        case measure => simp [intOf]; omega
    · obtain rfl : hi = lo := by omega
      go_wp2_with fail
      go_ret
      exact ⟨hi, rfl, hin, I.out.1, I.out.2, q, rfl⟩

/-- where Find ends -/
structure Fd (l : List Int) (n : Int) (r : Nat) : Prop where
  le : r ≤ l.length
  lo : ∀ (h0 : 0 < r) (h1 : r - 1 < l.length), l[r - 1] < n
  hi : ∀ (h1 : r < l.length), n ≤ l[r]
theorem cell_new' (W : World) (v : Value) (t : TypeId) : (W.alloc (.cells #[v] t)).cell? ⟨W.heap.size, 0, none⟩ = some v := by
  rw [World.cell?_alloc_at _ _ _ _ (by simp)]; rfl
set_option maxHeartbeats 2000000 in
theorem find_any (l : List Int) (n : Int) (v : Value) (w : World) (hl : l.length ≤ 1000000) (h : LI w v l) :
    Calls Tryd.prog 20 #[v, .int .i64 n] w fun e w' => (∃ r : Nat, e = .returned (.tuple #[.int .i64 (r : Int), .bool (decide (r < l.length) && (l[r]? == some n))]) ∧ Fd l n r) ∧ Below w.heap.size w w' := by
  have hcf : ∀ args w, (callFunc 30 args).run Tryd.prog w = .ok (.enter 30 args) w := by intro args w; simp [go_sem, Tryd.func30]
  have h0 := h
  obtain ⟨A, c, rfl, hc, hr⟩ := h0
  generalize hW : (w.alloc (.cells #[.slice A l.length c] 34)).alloc (.cells #[.int .i64 n] 2) = W
  have hWl : W.cell? ⟨w.heap.size, 0, none⟩ = some (.slice A l.length c) := by
    rw [← hW]
    exact (Below.cell ((Below.refl (w.heap.size + 1) (w.alloc (.cells #[.slice A l.length c] 34))).alloc (by simp) _) (by simp)).trans (cell_new' w _ _)
  have hWn : W.cell? ⟨w.heap.size + 1, 0, none⟩ = some (.int .i64 n) := by
    rw [← hW]
    have := cell_new' (w.alloc (.cells #[.slice A l.length c] 34)) (.int .i64 n) 2
    rwa [show (w.alloc (.cells #[.slice A l.length c] 34)).heap.size = w.heap.size + 1 by simp] at this
  have hbW : Below w.heap.size w W := by rw [← hW]; exact ((Below.refl _ _).alloc (Nat.le_refl _) _).alloc (by simp) _
  have hLW := LI.below h hbW
  have hse := search_any 30 #[.pointer (some ⟨w.heap.size, 0, none⟩), .pointer (some ⟨w.heap.size + 1, 0, none⟩)] l.length (fun i => decide (n ≤ l.getD i 0)) W hcf (by omega) (fun m i hi => by
    obtain ⟨b, o, rfl, hb, hcell⟩ := hLW.at_ hi
    have := findC_any w.heap.size (w.heap.size + 1) b o c l n i (W.drewN m) hi hWl hWn hcell
    rw [show l.getD i 0 = l[i] by simp [List.getD, hi]]
    exact this)
  have Hse := hide hse
  have HbW := hide hbW
  have HLW := hide hLW
  clear hse hbW hLW h hr
  go_enter Tryd.func20, Tryd.ntmps20
  go_wp2_with fail
  refine Hse.out.mono ?_
  rintro e w2 ⟨r, rfl, hrl, hlo, hhi, q, rfl⟩
  have hF : Fd l n r := ⟨hrl, fun h0 h1 => by
      have := hlo h0
      rw [show l.getD (r - 1) 0 = l[r - 1] by simp [List.getD, h1]] at this
      have := of_decide_eq_false this
      omega, fun h1 => by
      have := hhi h1
      rw [show l.getD r 0 = l[r] by simp [List.getD, h1]] at this
      exact of_decide_eq_true this⟩
  have HF := hide hF
  clear Hse hF hlo hhi hW
  have hb2 := hide (below_drewN' HbW.out q)
  by_cases hlt : r < l.length
  · obtain ⟨b, o, rfl, _, hcell⟩ := HLW.out.at_ hlt
    have hri : (r : Int) < (l.length : Int) := by omega
    have E := hide (show (decide (r < l.length) && (l[r]? == some n)) = (l[r] == n) by simp [hlt])
    generalize l[r] = y at *
    have hyn : ∃ B, B = (y == n) := ⟨_, rfl⟩
    obtain ⟨B, hB⟩ := hyn
    rw [← hB] at E
    have hB2 := hB.symm
    clear hB
    go_wp2_with fail
    go_quiet (fail)
    go_wp2_with fail
    go_ret2
    exact ⟨⟨r, by rw [E.out]; rfl, HF.out⟩, below_drewN' hb2.out _⟩
  · obtain rfl : r = l.length := by omega
    have E := hide (show (decide (l.length < l.length) && (l[l.length]? == some n)) = false by simp)
    go_wp2_with fail
    go_quiet (fail)
    go_wp2_with fail
    go_ret2
    exact ⟨⟨l.length, by rw [E.out]; rfl, HF.out⟩, below_drewN' hb2.out _⟩
end Go.Proofs.YtkfampdcigiokaaDoor
