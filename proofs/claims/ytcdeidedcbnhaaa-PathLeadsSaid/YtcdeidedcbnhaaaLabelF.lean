/-
  THE WALKS of label.stack's push and pop, and of label.back.
-/
import Derived.Test.YtcdeidedcbnhaaaLabelE
import Derived.Maps.AppendAt
set_option linter.unusedVariables false
set_option linter.unusedSimpArgs false
namespace Go.Proofs.Ytcdeidedcbnhaaa
open Go.RowKit

/-- the stack at block g holds F -/
def StackAt (w : World) (g : Nat) (F : List Int) : Prop := ∃ v, Blk w g 58 #[v] ∧ w.ownsRow (g + 1) 3 1 v F.length (F.map (Value.int .i64))
theorem StackAt.lt {w : World} {g : Nat} {F : List Int} (h : StackAt w g F) : g < w.heap.size := by
  obtain ⟨v, h1, _⟩ := h; exact h1.lt
theorem StackAt.new (w : World) : StackAt (w.alloc (.cells #[.slice none 0 0] 58)) w.heap.size [] :=
  ⟨_, Blk.new _ _ _, World.ownsRow_nil _ _ _ _⟩
theorem StackAt.far {w : World} {g : Nat} {F : List Int} (h : StackAt w g F) {p : Addr} (hp : p.block < g) (u : Value) : StackAt (w.setCell p u) g F := by
  obtain ⟨v, h1, h2⟩ := h
  exact ⟨v, h1.far (by omega) u, own_far h2 (by omega) u⟩

set_option maxHeartbeats 400000 in
theorem push_any (F : List Int) (x : Int) (g : Nat) (w : World) (hF : F.length ≤ 1073741824) (h : StackAt w g F) :
    Calls Try.prog 52 #[.pointer (some ⟨g, 0, none⟩), .int .i64 x] w fun e w' => e = .returned (.tuple #[]) ∧ StackAt w' g (F ++ [x]) ∧ Below g w w' := by
  obtain ⟨v, hblk, hown⟩ := h
  have hc := hblk.cell 0
  have hf := hblk.frozen 0
  have hg := hblk.lt
  simp only [List.getElem?_toArray, List.getElem?_cons_zero] at hc
  obtain ⟨i0, hi0, hz0, hz1, hz2⟩ := info_parts intInfo
  go_enter Try.func52, Try.ntmps52
  go_wp2_with (at_builtin; refine wpList_append_own_at _ rfl (.tmp 8) (.tmp 10) 22 rfl (g + 1) 3 i0 _ 1 8 Try.underlying22 hi0 hz0 hz1 hz2 rfl (by omega) _ F.length _ rfl (hown.alloc _) ⟨w.heap.size, 0, none⟩ 1 1 [.int .i64 x] rfl rfl (one_new _ _ _) (one_one _) (by unfold maxLen; omega) (by omega) (by simp; omega) ?_; intro v2 w2 hown2 hg2 _ _; obtain ⟨A2, c2, rfl, _⟩ := own_form hown2; have hb2 : Below g w w2 := ((Below.refl g w).alloc (by omega) (.cells #[.int .i64 x] 3)).grown hg2 (by simp; omega) (fun k hk => by have := (World.ownsRow.lt hown k hk).1; omega); have hne := own_ne hown (g := g) (by omega); have hblk2 := (hblk.alloc (.cells #[.int .i64 x] 3)).grown hg2 hne; have hc2 := hblk2.cell 0; have hf2 := hblk2.frozen 0; simp only [List.getElem?_toArray, List.getElem?_cons_zero] at hc2)
  go_end0
  refine ⟨rfl, ⟨.slice A2 (F.length + 1) c2, ?_, ?_⟩, hb2.setCell (Nat.le_refl _) _⟩
  · exact hblk2.set_ 0 _
  · rw [List.length_append, List.map_append]
    exact own_far hown2 (by simp) _

set_option maxHeartbeats 400000 in
theorem pop_none (g : Nat) (w : World) (h : StackAt w g []) :
    Calls Try.prog 53 #[.pointer (some ⟨g, 0, none⟩)] w fun e w' => e = .returned (.tuple #[.int .i64 0, .bool false]) ∧ w = w' := by
  obtain ⟨v, hblk, hown⟩ := h
  obtain ⟨A, c, rfl, hAc⟩ := own_form hown
  have hc := hblk.cell 0
  have hf := hblk.frozen 0
  have hg := hblk.lt
  simp only [List.getElem?_toArray, List.getElem?_cons_zero, List.length_nil] at hc
  go_enter Try.func53, Try.ntmps53
  go_wp2_with fail
  go_ret2
  exact ⟨rfl, rfl⟩

set_option maxHeartbeats 400000 in
theorem pop_some (F : List Int) (x : Int) (g : Nat) (w : World) (hF : F.length ≤ 1073741824) (h : StackAt w g (F ++ [x])) :
    Calls Try.prog 53 #[.pointer (some ⟨g, 0, none⟩)] w fun e w' => e = .returned (.tuple #[.int .i64 x, .bool true]) ∧ StackAt w' g F ∧ Below g w w' := by
  obtain ⟨v, hblk, hown⟩ := h
  have hl : (F ++ [x]).length = F.length + 1 := by simp
  rw [hl] at hown
  obtain ⟨b, c, rfl, hAc, hb1, hb2⟩ := own_some hown (by omega)
  have hc := hblk.cell 0
  have hf := hblk.frozen 0
  have hg := hblk.lt
  have hx : w.cell? ⟨b, F.length, none⟩ = some (.int .i64 x) := own_cell hown rfl (by simp)
  simp only [List.getElem?_toArray, List.getElem?_cons_zero] at hc
  go_enter Try.func53, Try.ntmps53
  go_wp2_with fail
  go_ret2
  refine ⟨rfl, ⟨_, hblk.set_ 0 _, ?_⟩, (Below.refl g w).setCell (Nat.le_refl _) _⟩
  rw [List.map_append] at hown
  exact own_far (ownsRow_pop (by simp) hown) (by simp) _

end Go.Proofs.Ytcdeidedcbnhaaa
