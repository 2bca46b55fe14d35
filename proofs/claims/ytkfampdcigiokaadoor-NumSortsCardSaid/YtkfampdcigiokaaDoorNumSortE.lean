/-
  CHAPTER 3, NumSorts: num.Sorted of any list.
-/
import Derived.Test.YtkfampdcigiokaaDoorNumSortD
set_option linter.unusedVariables false
set_option linter.unusedSimpArgs false
namespace Go.Proofs.YtkfampdcigiokaaDoor
open Go.RowKit Go.Sort

theorem numSorted1_any (l : List Int) (v : Value) (w : World) (hl : l.length ≤ 1000000) (hp : 0 < l.length) (h : LI w v l) :
    Calls Tryd.prog 17 #[v] w fun e w' => ∃ v', e = .returned v' ∧ LI w' v' (sortL l) ∧ Below w.heap.size w w' := by
  obtain ⟨i0, hi0, hz0, hz1, hz2⟩ := info_parts i64Info
  obtain ⟨b, o, c, rfl, hc, hb, hcell⟩ := h.some_ hp
  have h1 := Tryd.slices_Clone i0 (.int .i64 0) 1 8 hi0 hz0 hz1 hz2 rfl (by decide) Tryd.sizeOf2 b o l.length c (l.map (Value.int .i64)) w (by simp) (by unfold maxLen; omega) (by omega)
    (fun j u hj => by
      rw [List.getElem?_map] at hj
      rcases Nat.lt_or_ge j l.length with hlt | hge
      · rw [List.getElem?_eq_getElem hlt] at hj
        obtain rfl : Value.int .i64 l[j] = u := by simpa using hj
        exact hcell j hlt
      · rw [List.getElem?_eq_none hge] at hj; simp at hj)
    (fun u hu => by obtain ⟨x, _, rfl⟩ := List.mem_map.1 hu; rfl)
  have H1 := hide h1
  clear h1
  unfold sortL
  have hSl : (l.mergeSort fun x y => decide (x ≤ y)).length = l.length := List.length_mergeSort ..
  generalize hSd : (l.mergeSort fun x y => decide (x ≤ y)) = S at *
  have HSd := hide hSd
  have HSl := hide hSl
  clear hSd hSl
  go_enter Tryd.func17, Tryd.ntmps17
  go_wp2_with fail
  refine H1.out.mono ?_
  rintro e w1 ⟨v', rfl, hown, hnn, hb1⟩
  obtain ⟨_, ⟨_, hn0⟩ | ⟨g, cap, cur, rfl, hbase, hblk, hn, hcap, hcs, htake⟩⟩ := hown
  · omega
  rw [Nat.mul_one] at htake
  have hg : g < w1.heap.size := (Array.getElem?_eq_some_iff.1 hblk).1
  have hH := holds_of_blockI hblk htake
  have h2 := Tryd.slices_Sort_int g 0 cap l w1 hH hg (by omega)
  rw [HSd.out] at h2
  have H2 := hide h2
  clear h2 H1 hH
  go_wp2_with fail
  refine H2.out.mono ?_
  rintro e w2 ⟨rfl, n, os, rfl⟩
  have hSl := HSl.out
  have hown2 := ownsRow_sortedI (n := n) (os := os) (ts := S) hSl hbase hblk hn hcap hcs
  have hgr2 := grownBy_sortedI (w := w1) (g := g) (n := n) (os := os) S.toArray
  generalize grow (putRow (Value.int .i64) (Sort.ahead w1 n) g 0 S.toArray) os = w2 at *
  have hb2 : Below w.heap.size w w2 := hb1.grown hgr2 hb1.size (fun j hj => by cases hj; exact hbase)
  obtain ⟨_, ⟨hx, _⟩ | ⟨g', cap', cur2, hv, _, hblk2, _, _, hcs2, htake2⟩⟩ := hown2
  · cases hx
  cases hv
  rw [Nat.mul_one, ← hSl] at htake2
  have hg2 : g < w2.heap.size := (Array.getElem?_eq_some_iff.1 hblk2).1
  have hH2 := holds_of_blockI hblk2 htake2
  have h3 := Tryd.slices_Compact_int g 0 cap S w2 hH2 (by omega) (by omega)
  rw [hSl] at h3
  have H3 := hide h3
  have hcl := compact_len S
  clear h3 H2 hH2
  go_wp2_with fail
  refine H3.out.mono ?_
  rintro e w3 ⟨rfl, q, hw3⟩
  have hown3 := ownsRow_sortedI (n := q) (os := #[]) (ss := S) (ts := Lib.compact S ++ List.replicate (S.length - (Lib.compact S).length) 0) (by simp; omega) hbase hblk2 (by omega) hcap hcs2
  have hgr3 := grownBy_sortedI (w := w2) (g := g) (n := q) (os := #[]) (Lib.compact S ++ List.replicate (S.length - (Lib.compact S).length) 0).toArray
  rw [grow_empty] at hown3 hgr3
  rw [hSl] at hown3 hgr3
  rw [← hw3] at hown3 hgr3
  have hb3 : Below w.heap.size w w3 := hb2.grown hgr3 hb2.size (fun j hj => by cases hj; exact hbase)
  have hLI : LI w3 (.slice (some ⟨g, 0, none⟩) (Lib.compact S).length cap) (Lib.compact S) := by
    refine ⟨_, _, rfl, by omega, fun _ => ⟨g, 0, rfl, ?_, fun i hi => ?_⟩⟩
    · have := hgr3.size; omega
    · rw [Nat.zero_add]
      exact own_cell hown3 rfl (by rw [List.getElem?_map, List.getElem?_append_left hi, List.getElem?_eq_getElem hi]; rfl)
  clear hw3 H3 hown3 hgr3 hblk hblk2 htake htake2
  go_wp2_with fail
  go_ret
  exact ⟨_, rfl, hLI, hb3⟩
theorem numSorted_any (l : List Int) (v : Value) (w : World) (hl : l.length ≤ 1000000) (h : LI w v l) :
    Calls Tryd.prog 17 #[v] w fun e w' => ∃ v', e = .returned v' ∧ LI w' v' (sortL l) ∧ Below w.heap.size w w' := by
  cases l with
  | nil => exact numSorted0_any v w h
  | cons x l => exact numSorted1_any (x :: l) v w hl (by simp) h
end Go.Proofs.YtkfampdcigiokaaDoor
