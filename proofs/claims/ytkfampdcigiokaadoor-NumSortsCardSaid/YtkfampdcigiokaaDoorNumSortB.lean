/-
  CHAPTER 3, NumSorts: the walk of the document's Sorted.
-/
import Derived.Test.YtkfampdcigiokaaDoorNumSortA
import Derived.Test.YtkfampdcigiokaaDoorNumSortP
import Derived.Deep.AppendLies
import Derived.Deep.DeepCutAuto
set_option linter.unusedVariables false
set_option linter.unusedSimpArgs false
namespace Go.Proofs.YtkfampdcigiokaaDoor
open Go.RowKit

theorem i64Info : (Tryd.prog.info? 2).map (fun i => (i.zero, i.size, i.bytes)) = some (some (.int .i64 0), 1, 8) := by kernel_rfl
theorem one_one (n : Int) : ∀ u ∈ [Value.int .i64 n], u.oneCell' = true := by intro u hu; simp at hu; subst hu; rfl
theorem cells_at_newL (w : World) (t : TypeId) (a : Value) : ∀ (j : Nat) (u : Value), [a][j]? = some u → (w.alloc (.cells #[a] t)).cell? ((⟨w.heap.size, 0, none⟩ : Addr).add j) = some u := fun j u h => cells_new w [a] t j u h
theorem insS_tf (x y : Int) (n : List Int) (h : y = x) : insS x (n, true) y = (n, true) := by simp [insS, h]
theorem insS_tn (x y : Int) (n : List Int) (h : y ≠ x) : insS x (n, true) y = (n ++ [y], true) := by simp [insS, h]
theorem insS_fy (x y : Int) (n : List Int) (h1 : x ≤ y) (h : y = x) : insS x (n, false) y = (n ++ [x], true) := by simp [insS, h]
theorem insS_fyn (x y : Int) (n : List Int) (h1 : x ≤ y) (h : y ≠ x) : insS x (n, false) y = ((n ++ [x]) ++ [y], true) := by simp [insS, h, h1]
theorem insS_fn (x y : Int) (n : List Int) (h1 : ¬ x ≤ y) : insS x (n, false) y = (n ++ [y], false) := by
  have : y ≠ x := by omega
  simp [insS, h1, this]

set_option maxRecDepth 100000 in
set_option maxHeartbeats 4000000 in
theorem refSorted_any (l : List Int) (v : Value) (w : World) (hl : l.length ≤ 1000) (h : LI w v l) :
    Calls Tryd.prog 19 #[v] w fun e w' => ∃ v', e = .returned v' ∧ LI w' v' (sortR l) ∧ Below w.heap.size w w' := by
  obtain ⟨i0, hi0, hz0, hz1, hz2⟩ := info_parts i64Info
  have h0 := h
  obtain ⟨A, ca, rfl, hca, hr0⟩ := h0
  have H := hide h
  clear h hr0
  go_enter Tryd.func19, Tryd.ntmps19
  go_wp2_with fail
  go_loopw [3, 4] (fun ov iv wr => ∃ (k : Nat) (out : List Int), out = sortR (l.take k) ∧ k ≤ l.length ∧ iv = .int .i64 (k : Int) ∧ out.length ≤ k ∧ wr.ownsRow w.heap.size 2 1 ov out.length (out.map (Value.int .i64)) ∧ Below w.heap.size w wr)
    (fun ov iv wr => l.length - (intOf iv).toNat)
  case atStart => exact ⟨0, [], by simp [sortR], Nat.zero_le _, rfl, Nat.le_refl _, World.ownsRow_nil _ _ _ _, Below.refl _ _⟩
  case round =>
    obtain ⟨k, out, hout, hk, rfl, holen, hown, hbl⟩ := hrel
    obtain ⟨O, co, rfl, hco⟩ := own_form hown
    by_cases hlt : k < l.length
    · obtain ⟨b1, o1, rfl, _, hcell⟩ := (H.out.below hbl).at_ hlt
      have hlow : b1 < wr.heap.size := by
        obtain ⟨b2, o2, e, hb2, _⟩ := (H.out.below hbl).at_ hlt
        cases e; exact hb2
      have hi : (k : Int) < (l.length : Int) := by omega
      have hst := sortR_take l k hlt
      rw [← hout] at hst
      have Hst := hide hst
      have LO := hide (LI.of_own hown rfl)
      clear hst hout
      generalize l[k] = x at *
      have Hown := hide hown
      clear hown
      go_wp2_with fail
      have hBs : w.heap.size ≤ wr.heap.size := hbl.size
      have hlenX : Hid (∀ m, (insR x (out.take m)).1.length ≤ m + 1) := hide (fun m => by have := insR_len x (out.take m); have h2 := List.length_take_le m out; split at this <;> omega)
      obtain ⟨W1, hW1⟩ : ∃ W, W = wr := ⟨wr, rfl⟩
      subst hW1
      generalize hB : W1.heap.size = B at *
      go_loopw [5, 6, 7] (fun nv bv jv wr => ∃ (m : Nat) (nx : List Int) (fl : Bool), insR x (out.take m) = (nx, fl) ∧ m ≤ out.length ∧ jv = .int .i64 (m : Int) ∧ bv = .bool fl ∧ nx.length ≤ m + 1 ∧ wr.ownsRow B 2 1 nv nx.length (nx.map (Value.int .i64)) ∧ Below B W1 wr)
        (fun nv bv jv wr => out.length - (intOf jv).toNat)
      case atStart => exact ⟨0, [], false, rfl, Nat.zero_le _, rfl, rfl, Nat.zero_le _, World.ownsRow_nil _ _ _ _, by rw [← hB]; exact Below.refl _ _⟩
      case round =>
        obtain ⟨m, nx, fl, hir, hm, rfl, rfl, hnl, hownn, hbli⟩ := hrel
        have hsz0 : B ≤ wr.heap.size := by have := hbli.size; rw [hB] at this; exact this
        have hcx0 : wr.cell? ⟨b1, o1 + k, none⟩ = some (.int .i64 x) := (hbli.cell (by omega)).trans hcell
        have Hownn := hide hownn
        clear hownn
        by_cases hmlt : m < out.length
        · obtain ⟨b2, o2, rfl, hb2l, hcell2⟩ := LO.out.at_ hmlt
          rw [hB] at hb2l
          have hmi : (m : Int) < (out.length : Int) := by omega
          have ht := insR_take x out m hmlt
          rw [hir] at ht
          generalize out[m] = y at *
          have hcy0 : wr.cell? ⟨b2, o2 + m, none⟩ = some (.int .i64 y) := (hbli.cell (by omega)).trans hcell2
          have hlx := hlenX.out (m + 1)
          rw [ht] at hlx
          clear hir
          by_cases hyx : y = x
          · have h1 : (y != x) = false := by simp [hyx]
            cases fl with
            | true =>
              rw [insS_tf x y nx hyx] at ht hlx
              clear hyx
              have Ht := hide ht
              have hlx2 := hide hlx
              clear ht hlx
              go_wp2_with fail
              go_quiet (fail)
              have Hownq1 := hide (own_below' Hownn.out (below_drewN (Below.refl _ _) nq))
              have hblq1 := below_drewN hbli nq
              generalize wr.drewN nq = W2 at *
              have hsz1 : B ≤ W2.heap.size := by have := hblq1.size; rw [hB] at this; exact this
              have hcx1 : W2.cell? ⟨b1, o1 + k, none⟩ = some (.int .i64 x) := (hblq1.cell (by omega)).trans hcell
              have hcy1 : W2.cell? ⟨b2, o2 + m, none⟩ = some (.int .i64 y) := (hblq1.cell (by omega)).trans hcell2
              go_wp2_with fail
              go_quiet (fail)
              have Hownq2 := hide (own_below' Hownq1.out (below_drewN (Below.refl _ _) nq))
              have hblq2 := below_drewN hblq1 nq
              generalize W2.drewN nq = W3 at *
              have hsz2 : B ≤ W3.heap.size := by have := hblq2.size; rw [hB] at this; exact this
              have hcx2 : W3.cell? ⟨b1, o1 + k, none⟩ = some (.int .i64 x) := (hblq2.cell (by omega)).trans hcell
              have hcy2 : W3.cell? ⟨b2, o2 + m, none⟩ = some (.int .i64 y) := (hblq2.cell (by omega)).trans hcell2
              go_wp2_with fail
              go_roundw
              case rel => exact ⟨m + 1, _, _, Ht.out, by omega, by go_num, rfl, hlx2.out, Hownq2.out, hblq2⟩
              case measure => simp [intOf]; omega
            | false =>
              have h2 : decide (x ≤ y) = true := decide_eq_true (by omega)
              rw [insS_fy x y nx (by omega) hyx] at ht hlx
              clear hyx
              have Ht := hide ht
              have hlx2 := hide hlx
              clear ht hlx
              go_wp2_with fail
              go_quiet (fail)
              have Hownq1 := hide (own_below' Hownn.out (below_drewN (Below.refl _ _) nq))
              have hblq1 := below_drewN hbli nq
              generalize wr.drewN nq = W2 at *
              have hsz1 : B ≤ W2.heap.size := by have := hblq1.size; rw [hB] at this; exact this
              have hcx1 : W2.cell? ⟨b1, o1 + k, none⟩ = some (.int .i64 x) := (hblq1.cell (by omega)).trans hcell
              have hcy1 : W2.cell? ⟨b2, o2 + m, none⟩ = some (.int .i64 y) := (hblq1.cell (by omega)).trans hcell2
              go_wp2_with (at_builtin; refine wpList_append_own _ rfl _ _ 34 rfl B 2 i0 (.int .i64 0) 1 8 Tryd.underlying34 hi0 hz0 hz1 hz2 rfl (by decide) _ _ _ rfl (Hownq1.out.alloc _) ⟨W2.heap.size, 0, none⟩ 1 1 [.int .i64 x] rfl rfl (cells_at_newL _ _ _) (one_one _) (by unfold maxLen; first | omega | (simp; omega)) (by first | omega | (simp; omega)) (by simp; omega) ?_; intro v2 w2 hown2 hg2 _)
              have hbl2 : Below B W1 w2 := (hblq1.alloc hsz1 _).grown hg2 (by simp; omega) (fun j hj => (World.ownsRow.lt Hownq1.out j hj).1)
              have hcx2 : w2.cell? ⟨b1, o1 + k, none⟩ = some (.int .i64 x) := (hbl2.cell (by omega)).trans hcell
              have hcy2 : w2.cell? ⟨b2, o2 + m, none⟩ = some (.int .i64 y) := (hbl2.cell (by omega)).trans hcell2
              have hsz2 : B ≤ w2.heap.size := (by have := hbl2.size; rw [hB] at this; exact this)
              rw [show (nx).map (Value.int .i64) ++ [Value.int .i64 x] = (nx ++ [x]).map (Value.int .i64) by simp, show (nx).length + 1 = (nx ++ [x]).length by simp] at hown2
              have Hown2 := hide hown2
              clear hown2 hg2
              go_quiet (fail)
              have Hownq3 := hide (own_below' Hown2.out (below_drewN (Below.refl _ _) nq))
              have hblq3 := below_drewN hbl2 nq
              generalize w2.drewN nq = W4 at *
              have hsz3 : B ≤ W4.heap.size := by have := hblq3.size; rw [hB] at this; exact this
              have hcx3 : W4.cell? ⟨b1, o1 + k, none⟩ = some (.int .i64 x) := (hblq3.cell (by omega)).trans hcell
              have hcy3 : W4.cell? ⟨b2, o2 + m, none⟩ = some (.int .i64 y) := (hblq3.cell (by omega)).trans hcell2
              go_wp2_with fail
              go_roundw
              case rel => exact ⟨m + 1, _, _, Ht.out, by omega, by go_num, rfl, hlx2.out, Hownq3.out, hblq3⟩
              case measure => simp [intOf]; omega
          · have h1 : (y != x) = true := by simp [hyx]
            cases fl with
            | true =>
              rw [insS_tn x y nx hyx] at ht hlx
              clear hyx
              have Ht := hide ht
              have hlx2 := hide hlx
              clear ht hlx
              go_wp2_with fail
              go_quiet (fail)
              have Hownq1 := hide (own_below' Hownn.out (below_drewN (Below.refl _ _) nq))
              have hblq1 := below_drewN hbli nq
              generalize wr.drewN nq = W2 at *
              have hsz1 : B ≤ W2.heap.size := by have := hblq1.size; rw [hB] at this; exact this
              have hcx1 : W2.cell? ⟨b1, o1 + k, none⟩ = some (.int .i64 x) := (hblq1.cell (by omega)).trans hcell
              have hcy1 : W2.cell? ⟨b2, o2 + m, none⟩ = some (.int .i64 y) := (hblq1.cell (by omega)).trans hcell2
              go_wp2_with fail
              go_quiet (fail)
              have Hownq2 := hide (own_below' Hownq1.out (below_drewN (Below.refl _ _) nq))
              have hblq2 := below_drewN hblq1 nq
              generalize W2.drewN nq = W3 at *
              have hsz2 : B ≤ W3.heap.size := by have := hblq2.size; rw [hB] at this; exact this
              have hcx2 : W3.cell? ⟨b1, o1 + k, none⟩ = some (.int .i64 x) := (hblq2.cell (by omega)).trans hcell
              have hcy2 : W3.cell? ⟨b2, o2 + m, none⟩ = some (.int .i64 y) := (hblq2.cell (by omega)).trans hcell2
              go_wp2_with (at_builtin; refine wpList_append_own _ rfl _ _ 34 rfl B 2 i0 (.int .i64 0) 1 8 Tryd.underlying34 hi0 hz0 hz1 hz2 rfl (by decide) _ _ _ rfl (Hownq2.out.alloc _) ⟨W3.heap.size, 0, none⟩ 1 1 [.int .i64 y] rfl rfl (cells_at_newL _ _ _) (one_one _) (by unfold maxLen; first | omega | (simp; omega)) (by first | omega | (simp; omega)) (by simp; omega) ?_; intro v3 w3 hown3 hg3 _)
              have hbl3 : Below B W1 w3 := (hblq2.alloc hsz2 _).grown hg3 (by simp; omega) (fun j hj => (World.ownsRow.lt Hownq2.out j hj).1)
              have hcx3 : w3.cell? ⟨b1, o1 + k, none⟩ = some (.int .i64 x) := (hbl3.cell (by omega)).trans hcell
              have hcy3 : w3.cell? ⟨b2, o2 + m, none⟩ = some (.int .i64 y) := (hbl3.cell (by omega)).trans hcell2
              have hsz3 : B ≤ w3.heap.size := (by have := hbl3.size; rw [hB] at this; exact this)
              rw [show (nx).map (Value.int .i64) ++ [Value.int .i64 y] = (nx ++ [y]).map (Value.int .i64) by simp, show (nx).length + 1 = (nx ++ [y]).length by simp] at hown3
              have Hown3 := hide hown3
              clear hown3 hg3
              go_roundw
              case rel => exact ⟨m + 1, _, _, Ht.out, by omega, by go_num, rfl, hlx2.out, Hown3.out, hbl3⟩
              case measure => simp [intOf]; omega
            | false =>
              by_cases hxy : x ≤ y
              · have h2 : decide (x ≤ y) = true := decide_eq_true hxy
                rw [insS_fyn x y nx hxy hyx] at ht hlx
                clear hyx hxy
                have Ht := hide ht
                have hlx2 := hide hlx
                clear ht hlx
                go_wp2_with fail
                go_quiet (fail)
                have Hownq1 := hide (own_below' Hownn.out (below_drewN (Below.refl _ _) nq))
                have hblq1 := below_drewN hbli nq
                generalize wr.drewN nq = W2 at *
                have hsz1 : B ≤ W2.heap.size := by have := hblq1.size; rw [hB] at this; exact this
                have hcx1 : W2.cell? ⟨b1, o1 + k, none⟩ = some (.int .i64 x) := (hblq1.cell (by omega)).trans hcell
                have hcy1 : W2.cell? ⟨b2, o2 + m, none⟩ = some (.int .i64 y) := (hblq1.cell (by omega)).trans hcell2
                go_wp2_with (at_builtin; refine wpList_append_own _ rfl _ _ 34 rfl B 2 i0 (.int .i64 0) 1 8 Tryd.underlying34 hi0 hz0 hz1 hz2 rfl (by decide) _ _ _ rfl (Hownq1.out.alloc _) ⟨W2.heap.size, 0, none⟩ 1 1 [.int .i64 x] rfl rfl (cells_at_newL _ _ _) (one_one _) (by unfold maxLen; first | omega | (simp; omega)) (by first | omega | (simp; omega)) (by simp; omega) ?_; intro v2 w2 hown2 hg2 _)
                have hbl2 : Below B W1 w2 := (hblq1.alloc hsz1 _).grown hg2 (by simp; omega) (fun j hj => (World.ownsRow.lt Hownq1.out j hj).1)
                have hcx2 : w2.cell? ⟨b1, o1 + k, none⟩ = some (.int .i64 x) := (hbl2.cell (by omega)).trans hcell
                have hcy2 : w2.cell? ⟨b2, o2 + m, none⟩ = some (.int .i64 y) := (hbl2.cell (by omega)).trans hcell2
                have hsz2 : B ≤ w2.heap.size := (by have := hbl2.size; rw [hB] at this; exact this)
                rw [show (nx).map (Value.int .i64) ++ [Value.int .i64 x] = (nx ++ [x]).map (Value.int .i64) by simp, show (nx).length + 1 = (nx ++ [x]).length by simp] at hown2
                have Hown2 := hide hown2
                clear hown2 hg2
                go_quiet (fail)
                have Hownq3 := hide (own_below' Hown2.out (below_drewN (Below.refl _ _) nq))
                have hblq3 := below_drewN hbl2 nq
                generalize w2.drewN nq = W4 at *
                have hsz3 : B ≤ W4.heap.size := by have := hblq3.size; rw [hB] at this; exact this
                have hcx3 : W4.cell? ⟨b1, o1 + k, none⟩ = some (.int .i64 x) := (hblq3.cell (by omega)).trans hcell
                have hcy3 : W4.cell? ⟨b2, o2 + m, none⟩ = some (.int .i64 y) := (hblq3.cell (by omega)).trans hcell2
                go_wp2_with (at_builtin; refine wpList_append_own _ rfl _ _ 34 rfl B 2 i0 (.int .i64 0) 1 8 Tryd.underlying34 hi0 hz0 hz1 hz2 rfl (by decide) _ _ _ rfl (Hownq3.out.alloc _) ⟨W4.heap.size, 0, none⟩ 1 1 [.int .i64 y] rfl rfl (cells_at_newL _ _ _) (one_one _) (by unfold maxLen; first | omega | (simp; omega)) (by first | omega | (simp; omega)) (by simp; omega) ?_; intro v4 w4 hown4 hg4 _)
                have hbl4 : Below B W1 w4 := (hblq3.alloc hsz3 _).grown hg4 (by simp; omega) (fun j hj => (World.ownsRow.lt Hownq3.out j hj).1)
                have hcx4 : w4.cell? ⟨b1, o1 + k, none⟩ = some (.int .i64 x) := (hbl4.cell (by omega)).trans hcell
                have hcy4 : w4.cell? ⟨b2, o2 + m, none⟩ = some (.int .i64 y) := (hbl4.cell (by omega)).trans hcell2
                have hsz4 : B ≤ w4.heap.size := (by have := hbl4.size; rw [hB] at this; exact this)
                rw [show (nx ++ [x]).map (Value.int .i64) ++ [Value.int .i64 y] = (nx ++ [x] ++ [y]).map (Value.int .i64) by simp, show (nx ++ [x]).length + 1 = (nx ++ [x] ++ [y]).length by simp] at hown4
                have Hown4 := hide hown4
                clear hown4 hg4
                go_roundw
                case rel => exact ⟨m + 1, _, _, Ht.out, by omega, by go_num, rfl, hlx2.out, Hown4.out, hbl4⟩
                case measure => simp [intOf]; omega
              · have h2 : decide (x ≤ y) = false := decide_eq_false hxy
                rw [insS_fn x y nx hxy] at ht hlx
                clear hyx hxy
                have Ht := hide ht
                have hlx2 := hide hlx
                clear ht hlx
                go_wp2_with fail
                go_quiet (fail)
                have Hownq1 := hide (own_below' Hownn.out (below_drewN (Below.refl _ _) nq))
                have hblq1 := below_drewN hbli nq
                generalize wr.drewN nq = W2 at *
                have hsz1 : B ≤ W2.heap.size := by have := hblq1.size; rw [hB] at this; exact this
                have hcx1 : W2.cell? ⟨b1, o1 + k, none⟩ = some (.int .i64 x) := (hblq1.cell (by omega)).trans hcell
                have hcy1 : W2.cell? ⟨b2, o2 + m, none⟩ = some (.int .i64 y) := (hblq1.cell (by omega)).trans hcell2
                go_wp2_with fail
                go_quiet (fail)
                have Hownq2 := hide (own_below' Hownq1.out (below_drewN (Below.refl _ _) nq))
                have hblq2 := below_drewN hblq1 nq
                generalize W2.drewN nq = W3 at *
                have hsz2 : B ≤ W3.heap.size := by have := hblq2.size; rw [hB] at this; exact this
                have hcx2 : W3.cell? ⟨b1, o1 + k, none⟩ = some (.int .i64 x) := (hblq2.cell (by omega)).trans hcell
                have hcy2 : W3.cell? ⟨b2, o2 + m, none⟩ = some (.int .i64 y) := (hblq2.cell (by omega)).trans hcell2
                go_wp2_with (at_builtin; refine wpList_append_own _ rfl _ _ 34 rfl B 2 i0 (.int .i64 0) 1 8 Tryd.underlying34 hi0 hz0 hz1 hz2 rfl (by decide) _ _ _ rfl (Hownq2.out.alloc _) ⟨W3.heap.size, 0, none⟩ 1 1 [.int .i64 y] rfl rfl (cells_at_newL _ _ _) (one_one _) (by unfold maxLen; first | omega | (simp; omega)) (by first | omega | (simp; omega)) (by simp; omega) ?_; intro v3 w3 hown3 hg3 _)
                have hbl3 : Below B W1 w3 := (hblq2.alloc hsz2 _).grown hg3 (by simp; omega) (fun j hj => (World.ownsRow.lt Hownq2.out j hj).1)
                have hcx3 : w3.cell? ⟨b1, o1 + k, none⟩ = some (.int .i64 x) := (hbl3.cell (by omega)).trans hcell
                have hcy3 : w3.cell? ⟨b2, o2 + m, none⟩ = some (.int .i64 y) := (hbl3.cell (by omega)).trans hcell2
                have hsz3 : B ≤ w3.heap.size := (by have := hbl3.size; rw [hB] at this; exact this)
                rw [show (nx).map (Value.int .i64) ++ [Value.int .i64 y] = (nx ++ [y]).map (Value.int .i64) by simp, show (nx).length + 1 = (nx ++ [y]).length by simp] at hown3
                have Hown3 := hide hown3
                clear hown3 hg3
                go_roundw
                case rel => exact ⟨m + 1, _, _, Ht.out, by omega, by go_num, rfl, hlx2.out, Hown3.out, hbl3⟩
                case measure => simp [intOf]; omega
        · obtain rfl : m = out.length := by omega
          rw [List.take_length] at hir
          have hil := insP_len x out
          cases fl with
          | true =>
            have hP : insP x out = nx := by unfold insP; rw [hir]; rfl
            rw [hP] at Hst hil
            have hol2 := hide (show nx.length ≤ k + 1 by omega)
            clear hir hP hil
            go_wp2_with fail
            go_roundw
            case rel => exact ⟨k + 1, _, Hst.out.symm, by omega, by go_num, hol2.out, own_base Hownn.out hBs, (hbl.trans (hbli.mono hBs))⟩
            case measure => simp [intOf]; omega
          | false =>
            have hP : insP x out = nx ++ [x] := by unfold insP; rw [hir]; rfl
            rw [hP] at Hst hil
            have hol2 := hide (show (nx ++ [x]).length ≤ k + 1 by omega)
            clear hir hP hil
            go_wp2_with (at_builtin; refine wpList_append_own _ rfl _ _ 34 rfl B 2 i0 (.int .i64 0) 1 8 Tryd.underlying34 hi0 hz0 hz1 hz2 rfl (by decide) _ _ _ rfl (Hownn.out.alloc _) ⟨wr.heap.size, 0, none⟩ 1 1 [.int .i64 x] rfl rfl (cells_at_newL _ _ _) (one_one _) (by unfold maxLen; first | omega | (simp; omega)) (by first | omega | (simp; omega)) (by simp; omega) ?_; intro v1 w1 hown1 hg1 _)
            have hbl1 : Below B W1 w1 := (hbli.alloc hsz0 _).grown hg1 (by simp; omega) (fun j hj => (World.ownsRow.lt Hownn.out j hj).1)
            have hcx1 : w1.cell? ⟨b1, o1 + k, none⟩ = some (.int .i64 x) := (hbl1.cell (by omega)).trans hcell
            have hsz1 : B ≤ w1.heap.size := (by have := hbl1.size; rw [hB] at this; exact this)
            rw [show (nx).map (Value.int .i64) ++ [Value.int .i64 x] = (nx ++ [x]).map (Value.int .i64) by simp, show (nx).length + 1 = (nx ++ [x]).length by simp] at hown1
            have Hown1 := hide hown1
            clear hown1 hg1
            go_roundw
            case rel => exact ⟨k + 1, _, Hst.out.symm, by omega, by go_num, hol2.out, own_base Hown1.out hBs, (hbl.trans (hbl1.mono hBs))⟩
            case measure => simp [intOf]; omega
    · obtain rfl : k = l.length := by omega
      rw [List.take_length] at hout
      have Ho := hide hout
      have Hown := hide hown
      clear hown hout
      go_wp2_with fail
      go_ret
      rw [← Ho.out]
      exact ⟨_, rfl, LI.of_own Hown.out rfl, hbl⟩
end Go.Proofs.YtkfampdcigiokaaDoor
