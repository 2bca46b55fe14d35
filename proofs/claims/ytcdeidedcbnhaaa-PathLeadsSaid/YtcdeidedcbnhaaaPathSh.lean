/-
  THE ROWS OF CAME in memory, for path.Shortest.
-/
import Derived.Test.YtcdeidedcbnhaaaPathBack
import Derived.Test.YtcdeidedcbnhaaaPathBfs
import Derived.Deep.OwnRows
set_option linter.unusedVariables false
set_option linter.unusedSimpArgs false
namespace Go.Proofs.Ytcdeidedcbnhaaa
open Go.RowKit Go.Deep

def byF (b : List Came) (i : Nat) : Value := if i % 2 = 0 then .int .i64 (b.getD (i / 2) noC).1 else .int .i64 (b.getD (i / 2) noC).2
def ByAt (w : World) (g : Nat) (b : List Came) : Prop := w.rowIs g 63 (b.length * 2) (byF b)
section
variable {w w' : World} {g : Nat} {b : List Came}
theorem ByAt.cell1 (h : ByAt w g b) {k : Nat} (hk : k < b.length) : w.cell? ⟨g, k * 2, none⟩ = some (.int .i64 (b.getD k noC).1) := by
  have := World.rowIs.cell h (i := k * 2) (by omega)
  rw [this]
  unfold byF
  rw [if_pos (by omega), show k * 2 / 2 = k by omega]
theorem ByAt.cell2 (h : ByAt w g b) {k : Nat} (hk : k < b.length) : w.cell? ⟨g, k * 2 + 1, none⟩ = some (.int .i64 (b.getD k noC).2) := by
  have := World.rowIs.cell h (i := k * 2 + 1) (by omega)
  rw [this]
  unfold byF
  rw [if_neg (by omega), show (k * 2 + 1) / 2 = k by omega]
theorem ByAt.frozen (h : ByAt w g b) (k : Nat) : w.frozen? ⟨g, k, none⟩ = false := World.rowIs.frozen h k
theorem ByAt.lt (h : ByAt w g b) : g < w.heap.size := World.rowIs.lt h
theorem ByAt.set_ (h : ByAt w g b) {k : Nat} (hk : k < b.length) (x y : Int) : ByAt ((w.setCell ⟨g, k * 2, none⟩ (.int .i64 x)).setCell ⟨g, k * 2 + 1, none⟩ (.int .i64 y)) g (b.set k (x, y)) := by
  have h2 := (World.rowIs.set h (k * 2) (.int .i64 x)).set (k * 2 + 1) (.int .i64 y)
  unfold ByAt
  rw [List.length_set]
  refine h2.congr fun i hi => ?_
  unfold byF
  rw [cget_set _ _ _ hk]
  by_cases e1 : i = k * 2 + 1
  · rw [if_pos e1, if_neg (show ¬ i % 2 = 0 by omega), if_pos (show i / 2 = k by omega)]
  · rw [if_neg e1]
    by_cases e2 : i = k * 2
    · rw [if_pos e2, if_pos (show i % 2 = 0 by omega), if_pos (show i / 2 = k by omega)]
    · rw [if_neg e2, if_neg (show ¬ i / 2 = k by omega)]
theorem ByAt.made (w : World) (n : Nat) : ByAt (w.alloc (.cells (madeCells #[.int .i64 0, .int .i64 0] (n * 2)) 63)) w.heap.size (List.replicate n (0, 0)) := by
  unfold ByAt
  rw [List.length_replicate]
  refine ⟨_, blk_alloc_new _ _, size_madeCells _ _, fun i hi => ?_⟩
  have e : (List.replicate n ((0, 0) : Came)).getD (i / 2) noC = (0, 0) := by
    rw [List.getD, List.getElem?_replicate, if_pos (by omega)]; rfl
  unfold byF
  rw [e]
  have : i % 2 = 0 ∨ i % 2 = 1 := by omega
  rcases this with h | h <;> simp [madeCells, hi, h]
theorem ByAt.keep (h : ByAt w g b) (e : w'.heap[g]? = w.heap[g]?) : ByAt w' g b := World.rowIs.of_block h e
theorem ByAt.below {B : Nat} (h : ByAt w g b) (hb : Below B w w') (hg : g < B) : ByAt w' g b := h.keep (hb.block g hg)
theorem ByAt.alloc (h : ByAt w g b) (o : Obj) : ByAt (w.alloc o) g b := World.rowIs.alloc h o
theorem ByAt.grown {row : Option Nat} (h : ByAt w g b) (hb : w.grownBy w' row) (hg : some g ≠ row) : ByAt w' g b := h.keep (hb.block g h.lt hg)
end
end Go.Proofs.Ytcdeidedcbnhaaa
