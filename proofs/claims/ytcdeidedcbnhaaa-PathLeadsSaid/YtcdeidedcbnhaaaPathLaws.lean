/-
  LAYER 35: the example, and the law PathShortest.
-/
import Derived.Test.YtcdeidedcbnhaaaPathSm
import Derived.Test.YtcdeidedcbnhaaaLabelLaws
set_option linter.unusedVariables false
set_option linter.unusedSimpArgs false
namespace Go.Proofs.Ytcdeidedcbnhaaa
open Go.RowKit

theorem pathAwake_sh : shortP [[1, 2], [2], [2]] 0 [true, true, true] [false, false, true] = some [1] := by decide
theorem WayPost.own {o : Option (List Int)} {w : World} {e : Ending} {w' : World} (h : WayPost o w e w') : ∃ v, e = .returned (.tuple #[v, .bool o.isSome]) ∧ w'.ownsRow w.heap.size 3 1 v (o.getD []).length ((o.getD []).map (Value.int .i64)) ∧ Below w.heap.size w w' := h

set_option maxHeartbeats 2000000 in
theorem pathAwake_any (w : World) : Calls Try.prog 38 #[] w fun e w' => e = .returned (.bool true) ∧ Below w.heap.size w w' := by
  go_enter Try.func38, Try.ntmps38
  go_wp2_with fail
  have r1 := RI.lit w [1, 2] (by decide) (by decide)
  have r2 := RI.lit (w.alloc (.cells #[.int .i64 1, .int .i64 2] 3)) [2] (by decide) (by decide)
  have r3 := RI.lit ((w.alloc (.cells #[.int .i64 1, .int .i64 2] 3)).alloc (.cells #[.int .i64 2] 3)) [2] (by decide) (by decide)
  have hR := RR.lit (l := [[1, 2], [2], [2]]) (Blk.new (((w.alloc (.cells #[.int .i64 1, .int .i64 2] 3)).alloc (.cells #[.int .i64 2] 3)).alloc (.cells #[.int .i64 2] 3)) 22 #[.slice (some ⟨w.heap.size, 0, none⟩) 2 2, .slice (some ⟨w.heap.size + 1, 0, none⟩) 1 1, .slice (some ⟨w.heap.size + 1 + 1, 0, none⟩) 1 1]) (fun i hi => by
    match i, hi with
    | 0, _ => exact ⟨_, rfl, ((r1.alloc _).alloc _).alloc _⟩
    | 1, _ => exact ⟨_, rfl, by simpa using (r2.alloc _).alloc _⟩
    | 2, _ => exact ⟨_, rfl, by simpa using r3.alloc _⟩) (by decide)
  have hw3 : Below w.heap.size w (((w.alloc (.cells #[.int .i64 1, .int .i64 2] 3)).alloc (.cells #[.int .i64 2] 3)).alloc (.cells #[.int .i64 2] 3)) := (((Below.refl _ _).alloc (Nat.le_refl _) _).alloc (by simp) _).alloc (by simp <;> omega) _
  have hsz : (((w.alloc (.cells #[.int .i64 1, .int .i64 2] 3)).alloc (.cells #[.int .i64 2] 3)).alloc (.cells #[.int .i64 2] 3)).heap.size = w.heap.size + 1 + 1 + 1 := by simp
  generalize ((w.alloc (.cells #[.int .i64 1, .int .i64 2] 3)).alloc (.cells #[.int .i64 2] 3)).alloc (.cells #[.int .i64 2] 3) = W at *
  have hB1 := RB.lit (W.alloc (.cells #[.slice (some ⟨w.heap.size, 0, none⟩) 2 2, .slice (some ⟨w.heap.size + 1, 0, none⟩) 1 1, .slice (some ⟨w.heap.size + 1 + 1, 0, none⟩) 1 1] 22)) [true, true, true] (by decide)
  have hB2 := RB.lit ((W.alloc (.cells #[.slice (some ⟨w.heap.size, 0, none⟩) 2 2, .slice (some ⟨w.heap.size + 1, 0, none⟩) 1 1, .slice (some ⟨w.heap.size + 1 + 1, 0, none⟩) 1 1] 22)).alloc (.cells #[.bool true, .bool true, .bool true] 4)) [false, false, true] (by decide)
  have hR2 := (hR.alloc (.cells #[.bool true, .bool true, .bool true] 4)).alloc (.cells #[.bool false, .bool false, .bool true] 4)
  have hB12 := hB1.alloc (.cells #[.bool false, .bool false, .bool true] 4)
  have hb : Below w.heap.size w (((W.alloc (.cells #[.slice (some ⟨w.heap.size, 0, none⟩) 2 2, .slice (some ⟨w.heap.size + 1, 0, none⟩) 1 1, .slice (some ⟨w.heap.size + 1 + 1, 0, none⟩) 1 1] 22)).alloc (.cells #[.bool true, .bool true, .bool true] 4)).alloc (.cells #[.bool false, .bool false, .bool true] 4)) :=
    ((hw3.alloc hw3.size _).alloc (by have := hw3.size; simp; omega) _).alloc (by have := hw3.size; simp; omega) _
  have hsh := shortest_any [[1, 2], [2], [2]] 0 [true, true, true] [false, false, true] _ _ _ _ (by decide) (by decide) (by decide) (by decide) hR2 hB12 hB2
  rw [pathAwake_sh] at hsh
  simp only [Go.Deep.nblk_alloc, hsz] at hsh
  refine hsh.mono ?_
  intro e w1 hp
  obtain ⟨v1, rfl, hr1, hb1⟩ := hp.own
  have hr1 := RI.own hr1 (by decide)
  have hb01 := hb.trans (hb1.mono (by have := hw3.size; simp; omega))
  go_wp2_with fail
  have hq1 := RI.lit w1 [1] (by decide) (by decide)
  have hsm := same_ints [1] [1] _ _ _ (by decide) (hr1.alloc (.cells #[.int .i64 1] 3)) hq1
  refine hsm.mono ?_
  rintro e w2 ⟨rfl, hb2⟩
  go_wp2_with fail
  go_ret
  exact ⟨rfl, (hb01.alloc hb01.size _).trans (hb2.mono (by have := hb01.size; simp; omega))⟩

theorem shortP_rg {next : List (List Int)} {i : Int} {th tg : List Bool} (hl : next.length ≤ 100) (hr : ∀ r ∈ next, r.length ≤ 200) : ((shortP next i th tg).getD []).length ≤ 100 ∧ ∀ x ∈ (shortP next i th tg).getD [], -9223372036854775808 ≤ x ∧ x ≤ 9223372036854775807 := by
  have hD := farL_dist next th tg
  unfold shortP
  split
  · rename_i h
    split
    · simp
    · have hx : i.toNat < next.length := by omega
      have h2 := (hD.lo _ hx).2
      refine ⟨by rw [Option.getD_some, greedy_len]; omega, fun x hxm => ?_⟩
      rw [Option.getD_some] at hxm
      unfold greedyL at hxm
      obtain ⟨j, _, rfl⟩ := List.mem_map.1 hxm
      have h1 : eAt next (farL next th tg) i.toNat j ≤ (next.getD (vAt next (farL next th tg) i.toNat j) []).length := List.findIdx_le_length
      have h3 : (next.getD (vAt next (farL next th tg) i.toNat j) []).length ≤ 200 := by
        by_cases hv : vAt next (farL next th tg) i.toNat j < next.length
        · rw [List.getD, List.getElem?_eq_getElem hv]; exact hr _ (List.getElem_mem hv)
        · rw [List.getD, List.getElem?_eq_none (by omega)]; simp
      omega
  · simp

set_option maxHeartbeats 2000000 in
theorem pathShortest_law (next : List (List Int)) (i : Int) (a b : List Bool) (vn va vb : Value) (w : World) (hln : next.length ≤ 9223372036854775807) (hla : a.length ≤ 9223372036854775807) (hlb : b.length ≤ 9223372036854775807) (hn : RR w vn next) (ha : RB w va a) (hbb : RB w vb b) :
    Calls Try.prog 10 #[vn, .int .i64 i, .agg #[va, vb]] w fun e w' => e = .returned (.bool true) ∧ Below w.heap.size w w' := by
  obtain ⟨A, c, rfl, hc⟩ := hn.form
  obtain ⟨B, cb, rfl, hcb⟩ := ha.form
  obtain ⟨C, cc, rfl, hcc⟩ := hbb.form
  obtain ⟨W, hW⟩ : ∃ W, W = w.alloc (.cells #[.slice B a.length cb, .slice C b.length cc] 42) := ⟨_, rfl⟩
  have hb0 : Below w.heap.size w W := by rw [hW]; exact (Below.refl _ _).alloc (Nat.le_refl _) _
  have hblk : Blk W w.heap.size 42 #[.slice B a.length cb, .slice C b.length cc] := by rw [hW]; exact Blk.new _ _ _
  have hnW := hn.below hb0
  have haW := ha.below hb0
  have hbW := hbb.below hb0
  have hgr := great_any next _ W hln hnW
  cases hg : greatL next with
  | true =>
    rw [hg, hW] at hgr
    have Hgr := hide hgr
    rw [hW] at hb0
    have Hb0 := hide hb0
    clear hb0 hblk hnW haW hbW hgr hW
    go_enter Try.func10, Try.ntmps10
    go_wp2_with (first
      | (go_at_call 30; refine Hgr.out.mono ?_; rintro e w2 ⟨rfl, rfl⟩)
      | (go_at_call 38; refine (pathAwake_any _).mono ?_; rintro e w2 ⟨rfl, hb2⟩))
    go_ret
    exact ⟨rfl, Hb0.out.trans (hb2.mono (by simp))⟩
  | false =>
    rw [hg] at hgr
    obtain ⟨hl, hr⟩ := great_false hg
    by_cases h1 : next.length ≤ 40
    · have h1' : (next.length : Int) ≤ 40 := by omega
      have Hr := hide hr
      have h2 := fun k => hblk.cell k
      have hc0 : W.cell? ⟨w.heap.size, 0, none⟩ = some (.slice B a.length cb) := hblk.cell 0
      have hc1 : W.cell? ⟨w.heap.size, 1, none⟩ = some (.slice C b.length cc) := hblk.cell 1
      have hlt := hblk.lt
      have hpa := shortest_any next i a b _ _ _ W (by omega) hr hla hlb hnW haW hbW
      obtain ⟨o, ho⟩ : ∃ o, o = shortP next i a b := ⟨_, rfl⟩
      rw [← ho] at hpa
      have hsr := shortP_rg (i := i) (th := a) (tg := b) hl hr
      rw [← ho] at hsr
      have Ho := hide ho
      have Hgr := hide hgr
      have Hpa := hide hpa
      have Hn := hide hnW
      have Ha := hide haW
      have Hb := hide hbW
      have Hb0 := hide hb0
      have HW := hide hW
      clear hr hg hgr hpa hnW haW hbW hb0 ho h2 hblk
      go_enter Try.func10, Try.ntmps10
      go_wp2_with fail
      rw [← HW.out]
      clear hW HW
      go_wp2_with (first
        | (go_at_call 30; refine Hgr.out.mono ?_; rintro e w2 ⟨rfl, rfl⟩)
        | (go_at_call 39; refine Hpa.out.mono ?_; rintro e w1 ⟨v1, rfl, hown1, hb1⟩; have hc0' := (hb1.cell (p := ⟨w.heap.size, 0, none⟩) hlt).trans hc0; have hc1' := (hb1.cell (p := ⟨w.heap.size, 1, none⟩) hlt).trans hc1))
      have b01 := Hb0.out.trans (hb1.mono Hb0.out.size)
      have hpb := refShort_any next i a b _ _ _ w1 (by omega) Hr.out hla hlb (Hn.out.below hb1) (Ha.out.below hb1) (Hb.out.below hb1)
      rw [← Ho.out] at hpb
      refine hpb.mono ?_
      clear hpb Hpa Hgr hc0' hc1' Hn Ha Hb Ho
      rintro e w2 ⟨v2, rfl, hown2, hb2⟩
      have b02 := b01.trans (hb2.mono b01.size)
      have q1 := (RI.own hown1 hsr.2).below hb2
      have q2 := RI.own hown2 hsr.2
      obtain ⟨A1, c1, rfl, _⟩ := own_form hown1
      obtain ⟨A2, c2, rfl, _⟩ := own_form hown2
      clear hown1 hown2
      have hsm := same_ints (o.getD []) (o.getD []) _ _ w2 (by omega) q1 q2
      rw [decide_eq_true rfl] at hsm
      generalize (o.getD []).length = n at *
      generalize o.isSome = s at *
      have hss : (s == s) = true := by simp
      go_wp2_with fail
      refine hsm.mono ?_
      rintro e w3 ⟨rfl, b3⟩
      have b03 := b02.trans (b3.mono b02.size)
      go_wp2_with fail
      refine (pathAwake_any _).mono ?_
      rintro e w4 ⟨rfl, b4⟩
      go_wp2_with fail
      go_ret
      exact ⟨rfl, b03.trans (b4.mono b03.size)⟩
    · have h1' : (40 : Int) < (next.length : Int) := by omega
      rw [hW] at hgr hb0
      have Hgr := hide hgr
      have Hb0 := hide hb0
      clear hb0 hblk hnW haW hbW hgr hW hr hg
      go_enter Try.func10, Try.ntmps10
      go_wp2_with (first
        | (go_at_call 30; refine Hgr.out.mono ?_; rintro e w2 ⟨rfl, rfl⟩)
        | (go_at_call 38; refine (pathAwake_any _).mono ?_; rintro e w2 ⟨rfl, hb2⟩))
      go_ret
      exact ⟨rfl, Hb0.out.trans (hb2.mono (by simp))⟩
end Go.Proofs.Ytcdeidedcbnhaaa
