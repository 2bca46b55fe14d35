/-
  awake of chapter 16, and the law EvalCompares. No condition.
-/
import Derived.Test.YtpaedlocijgkaaaEvHolds
set_option linter.unusedVariables false
set_option linter.unusedSimpArgs false
namespace Go.Proofs.Ytpaedlocijgkaaa
open Go.RowKit

theorem own_blk {w : World} {g : Nat} {e : TypeId} {cs : List Value} {size n : Nat} (h : Blk w g e cs.toArray) (hn : cs.length = n * size) (hm : n ≤ 9223372036854775807) : w.ownsRow g e size (.slice (some ⟨g, 0, none⟩) n n) n cs :=
  ⟨hn, .inr ⟨g, n, cs.toArray, rfl, Nat.le_refl _, h, Nat.le_refl _, by simpa [maxLen] using hm, by simpa using hn, by rw [← hn]; simp⟩⟩

set_option maxRecDepth 100000 in
set_option maxHeartbeats 1000000 in
theorem awake16 (w : World) : Calls Try.prog 9 #[] w fun e w' => e = .returned (.bool true) ∧ Below w.heap.size w w' := by
  obtain ⟨W, hW⟩ : ∃ W, W = (w.alloc (.cells #[.int .i64 3, .int .i64 0, .int .i64 0, .int .i64 (-1), .int .i64 3, .int .i64 0, .int .i64 0] 58)).alloc (.cells #[.int .i64 2] 2) := ⟨_, rfl⟩
  have hb : Below w.heap.size w W := by rw [hW]; exact ((Below.refl _ _).alloc (Nat.le_refl _) _).alloc (by simp) _
  have hb1 : Blk W w.heap.size 58 #[.int .i64 3, .int .i64 0, .int .i64 0, .int .i64 (-1), .int .i64 3, .int .i64 0, .int .i64 0] := by rw [hW]; exact (Blk.new w _ _).alloc _
  have hb2 : Blk W (w.heap.size + 1) 2 #[.int .i64 2] := by
    rw [hW]
    have := Blk.new (w.alloc (.cells #[.int .i64 3, .int .i64 0, .int .i64 0, .int .i64 (-1), .int .i64 3, .int .i64 0, .int .i64 0] 58)) 2 #[.int .i64 2]
    simpa using this
  have hs1 : (sliceR instR).one W (fun b => w.heap.size ≤ b ∧ b < W.heap.size) (.slice (some ⟨w.heap.size, 0, none⟩) 1 1) [⟨3, 0, 0, -1, 3, 0, 0⟩] :=
    slice_ownP (r := instR) Inst.cells (fun x hx => by simp at hx; subst hx; exact ⟨rfl, by refine ⟨?_, ?_, ?_, ?_, ?_, ?_, ?_⟩ <;> exact ⟨by decide, by decide⟩⟩) (own_blk (cs := Inst.cells ⟨3, 0, 0, -1, 3, 0, 0⟩) hb1 rfl (by decide)) (by decide)
  have hs2 : (sliceR (intR .i64)).one W (fun b => w.heap.size + 1 ≤ b ∧ b < W.heap.size) (.slice (some ⟨w.heap.size + 1, 0, none⟩) 1 1) [2] :=
    slice_own1 (l := [2]) (r := intR .i64) (Value.int .i64) (own_blk (cs := [.int .i64 2]) hb2 rfl (by decide)) rfl (fun a ha => by simp at ha; subst ha; exact ⟨rfl, by decide⟩)
  have H := hide (holds_any [⟨3, 0, 0, -1, 3, 0, 0⟩] ⟨[2], 0, 0, [], []⟩ _ _ (.slice none 0 0) (.slice none 0 0) _ _ W hs1 (fun b hb => hb.2) (by decide) hs2 (fun b hb => hb.2))
  have hr : holdsO [⟨3, 0, 0, -1, 3, 0, 0⟩] ⟨[2], 0, 0, [], []⟩ = some true := by rfl
  rw [hr] at H
  have HW := hide hW
  have HB := hide hb
  clear hb hb1 hb2 hs1 hs2 hW hr
  go_enter Try.func9, Try.ntmps9
  go_wp2_with fail
  rw [← HW.out]
  refine H.out.mono ?_
  rintro e w1 ⟨rfl, hb1⟩
  go_wp2_with (go_at_call 7; refine (compare_any _ _ _ _).mono ?_; rintro e w' ⟨rfl, rfl⟩)
  go_ret
  exact ⟨ret_bool rfl, HB.out.trans (hb1.mono HB.out.size)⟩

theorem soB_6 (c : Int) : soB 6 c = !soB 3 c := by
  simp only [soB]
  by_cases h : c < 0
  · have : ¬ 0 ≤ c := by omega
    simp [h, this]
  · have : 0 ≤ c := by omega
    simp [h, this]
theorem soB_8 (c : Int) : soB 8 c = !soB 7 c := by simp only [soB]; rfl
set_option maxHeartbeats 1000000 in
theorem evalCompares_law (op a b : Int) (w : World) : Calls Try.prog 3 #[.int .i64 op, .int .i64 a, .int .i64 b] w fun e w' => e = .returned (.bool true) ∧ Below w.heap.size w w' := by
  have H0 := fun w' => compare_any op a b w'
  have G0 := fun w' => refCompare_any op a b w'
  have H3 := fun w' => compare_any 3 a b w'
  have H6 := fun w' => compare_any 6 a b w'
  have H7 := fun w' => compare_any 7 a b w'
  have H8 := fun w' => compare_any 8 a b w'
  rw [soB_6] at H6
  rw [soB_8] at H8
  generalize soB op (cmpI a b) = x at *
  generalize soB 3 (cmpI a b) = p at *
  generalize soB 7 (cmpI a b) = q at *
  have C0 := hide H0
  have D0 := hide G0
  have C3 := hide H3
  have C6 := hide H6
  have C7 := hide H7
  have C8 := hide H8
  clear H0 G0 H3 H6 H7 H8
  cases x <;> cases p <;> cases q
  all_goals
    go_enter Try.func3, Try.ntmps3
    go_wp2_with (first
      | (go_at_call 7; (with_reducible refine (C0.out _).mono ?_); rintro e w' ⟨rfl, rfl⟩)
      | (go_at_call 8; (with_reducible refine (D0.out _).mono ?_); rintro e w' ⟨rfl, rfl⟩)
      | (go_at_call 7; (with_reducible refine (C3.out _).mono ?_); rintro e w' ⟨rfl, rfl⟩)
      | (go_at_call 7; (with_reducible refine (C6.out _).mono ?_); rintro e w' ⟨rfl, rfl⟩)
      | (go_at_call 7; (with_reducible refine (C7.out _).mono ?_); rintro e w' ⟨rfl, rfl⟩)
      | (go_at_call 7; (with_reducible refine (C8.out _).mono ?_); rintro e w' ⟨rfl, rfl⟩)
      | (go_at_call 9; refine (awake16 _).mono ?_; rintro e w4 ⟨rfl, hb4⟩))
    go_ret
    exact ⟨rfl, hb4⟩
end Go.Proofs.Ytpaedlocijgkaaa
