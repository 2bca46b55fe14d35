/-
  The walk of turn: a condition with an instruction more. No condition but the lists' lengths.
-/
import Derived.Test.YtpaedlocijgkaaaEvLaws
import Derived.Test.YtpaedlocijgkaaaAppendSl
import Derived.Test.YtpaedlocijgkaaaEvPlain
set_option linter.unusedVariables false
set_option linter.unusedSimpArgs false
namespace Go.Proofs.Ytpaedlocijgkaaa
open Go.RowKit

theorem instInfo : (Try.prog.info? 58).map (fun i => (i.zero, i.size, i.bytes)) = some (some (.agg #[.int .i64 0, .int .i64 0, .int .i64 0, .int .i64 0, .int .i64 0, .int .i64 0, .int .i64 0]), 7, 56) := by kernel_rfl
theorem inst_one (x : Inst) : ∀ u ∈ x.cells, u.oneCell' = true := by
  intro u hu
  simp only [Inst.cells, List.mem_cons, List.not_mem_nil, or_false] at hu
  rcases hu with rfl | rfl | rfl | rfl | rfl | rfl | rfl <;> rfl
theorem own_empty (w : World) (e : TypeId) (size : Nat) : (w.alloc (.cells #[] e)).ownsRow w.heap.size e size (.slice (some ⟨w.heap.size, 0, none⟩) 0 0) 0 [] :=
  World.ownsRow_lit w #[] 0 (Nat.le_refl _) (Nat.zero_le _) (by simp)

set_option maxRecDepth 100000 in
set_option maxHeartbeats 2000000 in
theorem turn_any (l m : List Inst) (op : Int) (lv mv : Value) (S S' : Nat → Prop) (w : World) (h : (sliceR instR).one w S lv l) (hS : ∀ b, S b → b < w.heap.size) (h2 : (sliceR instR).one w S' mv m) (hS' : ∀ b, S' b → b < w.heap.size) (hl : l.length + m.length ≤ 800) :
    Calls Try.prog 11 #[lv, mv, .int .i64 op] w fun e w' => ∃ u, e = .returned u ∧ w'.ownsRow w.heap.size 58 7 u (l.length + m.length + 1) ((l ++ m ++ [opI op]).flatMap Inst.cells) ∧ Below w.heap.size w w' := by
  obtain ⟨i0, hi0, hz0, hz1, hz2⟩ := info_parts instInfo
  obtain ⟨W, hW⟩ : ∃ W, W = w.alloc (.cells #[] 58) := ⟨_, rfl⟩
  have hb0 : Below w.heap.size w W := by rw [hW]; exact (Below.refl _ _).alloc (Nat.le_refl _) _
  have hown : W.ownsRow w.heap.size 58 7 (.slice (some ⟨w.heap.size, 0, none⟩) 0 0) 0 [] := by rw [hW]; exact own_empty w _ _
  have hl1 := slice_below h hb0 hS
  have hm1 := slice_below h2 hb0 hS'
  have HW := hide hW
  have HO := hide hown
  have HL := hide hl1
  have HM := hide hm1
  have HB := hide hb0
  have HS' := hide hS'
  clear h h2 hW hown hl1 hm1 hb0 hS hS'
  go_enter Try.func11, Try.ntmps11
  have tok1 : True := trivial
  go_wp2_with (first
    | (at_builtin; refine wpList_append_sl rfl (.tmp 7) (.tmp 8) 24 rfl w.heap.size 58 i0 (.agg #[.int .i64 0, .int .i64 0, .int .i64 0, .int .i64 0, .int .i64 0, .int .i64 0, .int .i64 0]) 7 56 Try.underlying24 hi0 hz0 hz1 hz2 rfl (by decide) _ 0 [] rfl (by rw [← HW.out]; exact HO.out) instR Inst.cells l S lv rfl (by rw [← HW.out]; exact HL.out) rfl (fun _ _ _ h => h.1) (fun x _ => inst_one x) (by unfold maxLen; omega) (by omega) (by simp) ?_; intro v1 w1 hown1 hg1; have hb1 : Below w.heap.size w w1 := HB.out.grown (by rw [HW.out]; exact hg1) HB.out.size (fun k hk => (HO.out.lt k hk).1); simp only [Nat.zero_add, List.nil_append] at hown1)
    | (at_builtin; refine wpList_append_sl rfl (.tmp 9) (.tmp 10) 24 rfl w.heap.size 58 i0 (.agg #[.int .i64 0, .int .i64 0, .int .i64 0, .int .i64 0, .int .i64 0, .int .i64 0, .int .i64 0]) 7 56 Try.underlying24 hi0 hz0 hz1 hz2 rfl (by decide) _ _ _ rfl hown1 instR Inst.cells m S' mv rfl (slice_keep HM.out (fun p hp => (hb1.cell (HS'.out _ hp)).trans (HB.out.cell (HS'.out _ hp)).symm)) rfl (fun _ _ _ h => h.1) (fun x _ => inst_one x) (by unfold maxLen; omega) (by omega) hb1.size ?_; intro v2 w2 hown2 hg2; have hb2 : Below w.heap.size w w2 := hb1.grown hg2 hb1.size (fun k hk => (hown1.lt k hk).1))
    | (at_builtin; refine wpList_append_own _ rfl (.tmp 11) (.tmp 14) 24 rfl w.heap.size 58 i0 (.agg #[.int .i64 0, .int .i64 0, .int .i64 0, .int .i64 0, .int .i64 0, .int .i64 0, .int .i64 0]) 7 56 Try.underlying24 hi0 hz0 hz1 hz2 rfl (by decide) _ _ _ rfl (hown2.alloc _) ⟨w2.heap.size, 0, none⟩ 1 1 (Inst.cells (opI op)) rfl rfl (cells_new _ _ _) (inst_one _) (by unfold maxLen; omega) (by omega) (by have := hb2.size; simp; omega) ?_; intro v3 w3 hown3 hg3 _; have hb3 : Below w.heap.size w w3 := (hb2.alloc hb2.size _).grown hg3 (by have := hb2.size; simp; omega) (fun k hk => (hown2.lt k hk).1)))
  go_ret
  refine ⟨_, rfl, ?_, hb3⟩
  have e : (l ++ m ++ [opI op]).flatMap Inst.cells = l.flatMap Inst.cells ++ m.flatMap Inst.cells ++ (opI op).cells := by simp
  rw [e]
  exact hown3
end Go.Proofs.Ytpaedlocijgkaaa
