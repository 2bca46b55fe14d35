/-
  THE WALK of path.back.
-/
import Derived.Test.YtcdeidedcbnhaaaPathRef
import Derived.Deep.AppendLies
import Derived.Deep.RegionLaw
set_option linter.unusedVariables false
set_option linter.unusedSimpArgs false
namespace Go.Proofs.Ytcdeidedcbnhaaa
open Go.RowKit

set_option maxHeartbeats 2000000 in
theorem pathBack_any (g n : Nat) (v e : Nat → Nat) (hn : n ≤ 100) : ∀ (j : Nat) (w : World), j ≤ 100 → g < w.heap.size → (∀ i, i ≤ j → v i < n) → (∀ i, i ≤ j → e i ≤ 200) →
    (∀ i, i < j → w.cell? ⟨g, v (i + 1) * 2, none⟩ = some (.int .i64 (v i : Int)) ∧ w.cell? ⟨g, v (i + 1) * 2 + 1, none⟩ = some (.int .i64 (e i : Int))) → w.cell? ⟨g, v 0 * 2 + 1, none⟩ = some (.int .i64 (-1)) →
    Calls Try.prog 56 #[.slice (some ⟨g, 0, none⟩) n n, .int .i64 (v j : Int)] w fun en w' => ∃ u, en = .returned u ∧ w'.ownsRow w.heap.size 3 1 u j (((List.range j).map fun i => (e i : Int)).map (Value.int .i64)) ∧ Below w.heap.size w w' := by
  obtain ⟨i0, hi0, hz0, hz1, hz2⟩ := info_parts intInfo
  intro j
  induction j with
  | zero =>
    intro w _ hg hv _ _ h0
    have hv0 := hv 0 (Nat.le_refl _)
    go_enter Try.func56, Try.ntmps56
    go_wp2_with fail
    go_ret
    exact ⟨_, rfl, World.ownsRow_nil _ _ _ _, Below.refl _ _⟩
  | succ j ih =>
    intro w hj hg hv he hby h0
    have hvj := hv (j + 1) (Nat.le_refl _)
    obtain ⟨c1, c2⟩ := hby j (by omega)
    have hej := he j (by omega)
    have Ih := hide ih
    have H0 := hide h0
    have Hby := hide hby
    have Hv := hide hv
    have He := hide he
    clear ih h0 hby hv he
    go_enter Try.func56, Try.ntmps56
    go_wp2_with fail
    have keep : ∀ W : World, Below w.heap.size w W → Calls Try.prog 56 #[.slice (some ⟨g, 0, none⟩) n n, .int .i64 (v j : Int)] W fun en w' => ∃ u, en = .returned u ∧ w'.ownsRow W.heap.size 3 1 u j (((List.range j).map fun i => (e i : Int)).map (Value.int .i64)) ∧ Below W.heap.size W w' := fun W hW =>
      Ih.out W (by omega) (Nat.lt_of_lt_of_le hg hW.size) (fun i hi => Hv.out i (by omega)) (fun i hi => He.out i (by omega)) (fun i hi => ⟨(hW.cell (p := ⟨g, v (i + 1) * 2, none⟩) hg).trans (Hby.out i (by omega)).1, (hW.cell (p := ⟨g, v (i + 1) * 2 + 1, none⟩) hg).trans (Hby.out i (by omega)).2⟩) ((hW.cell (p := ⟨g, v 0 * 2 + 1, none⟩) hg).trans H0.out)
    have hd1 : Below w.heap.size w w.drew := ⟨rfl, rfl, rfl, Nat.le_refl _, fun _ _ => rfl⟩
    have hd2 : Below w.heap.size w (w.alloc (.cells #[.int .i64 (e j : Int)] 3)).drew := ((Below.refl _ w).alloc (Nat.le_refl _) _).trans ⟨rfl, rfl, rfl, Nat.le_refl _, fun _ _ => rfl⟩
    have k1 := keep w.drew hd1
    have k2 := keep (w.alloc (.cells #[.int .i64 (e j : Int)] 3)).drew hd2
    have K1 := hide k1
    have K2 := hide k2
    clear keep k1 k2
    go_region_law (first
      | (go_simp; go_at_call 56; refine K1.out.mono ?_; rintro en w1 ⟨u, rfl, hown, hb1⟩; have hcx := (hb1.cell (p := ⟨g, v (j + 1) * 2 + 1, none⟩) hg).trans c2; have hsz : w.heap.size ≤ w.drew.heap.size := Nat.le_refl _; have hsz1 : w.heap.size ≤ (w1.alloc (.cells #[.int .i64 (e j : Int)] 3)).heap.size := by have := hb1.size; simp at this ⊢; omega)
      | (refine step_append_lies _ rfl (.tmp 17) (.tmp 23) 22 rfl w.heap.size 3 i0 _ 1 8 Try.underlying22 hi0 hz0 hz1 hz2 rfl (by omega) _ j _ rfl (own_base (hown.alloc _) hsz) ⟨w1.heap.size, 0, none⟩ 1 1 [.int .i64 (e j : Int)] rfl rfl (one_new _ _ _) (one_one _) (by omega) (by unfold maxLen; omega) (by omega) hsz1 _ rfl ?_; intro g2 c2 w2 hown2 hg2 hat hlt)
      | (refine step_append_lies _ rfl (.tmp 17) (.tmp 23) 22 rfl w.heap.size 3 i0 _ 1 8 Try.underlying22 hi0 hz0 hz1 hz2 rfl (by omega) _ j _ rfl (own_base hown hsz) ⟨w.heap.size, 0, none⟩ 1 1 [.int .i64 (e j : Int)] rfl rfl hlit (one_one _) (by omega) (by unfold maxLen; omega) (by omega) hsz1 _ rfl ?_; intro g2 c2 w2 hown2 hg2 hat hlt)
      | (go_simp; go_at_call 56; refine K2.out.mono ?_; rintro en w1 ⟨u, rfl, hown, hb1⟩; have hsz : w.heap.size ≤ ((w.alloc (.cells #[.int .i64 (e j : Int)] 3)).drew).heap.size := hd2.size; have hsz1 : w.heap.size ≤ w1.heap.size := Nat.le_trans hd2.size hb1.size; have hlit : ∀ i u, [Value.int .i64 (e j : Int)][i]? = some u → w1.cell? ((⟨w.heap.size, 0, none⟩ : Addr).add i) = some u := fun i u hu => by rw [addAddr0]; have h5 := one_new w (e j : Int) 3 i u hu; rw [addAddr0] at h5; exact (hb1.cell (p := ⟨w.heap.size, i, none⟩) (Nat.lt_of_lt_of_le (Nat.lt_succ_self _) (Nat.le_of_eq (Go.Deep.nblk_alloc w _).symm))).trans h5))
    all_goals
      have hbw : Below w.heap.size w w2 := by
        first
          | exact (((hd1.trans hb1).alloc (by have := hb1.size; exact this) _).grown hg2 (by have := hb1.size; simp at this ⊢; omega) (fun k hk => (hown.lt k hk).1))
          | exact ((hd2.trans (hb1.mono hd2.size)).grown hg2 (Nat.le_trans hd2.size hb1.size) (fun k hk => Nat.le_trans hd2.size (hown.lt k hk).1))
      go_wp2_with fail
      go_ret
      refine ⟨_, rfl, ?_, hbw⟩
      rw [List.range_succ, List.map_append, List.map_append]
      exact hown2

end Go.Proofs.Ytcdeidedcbnhaaa
