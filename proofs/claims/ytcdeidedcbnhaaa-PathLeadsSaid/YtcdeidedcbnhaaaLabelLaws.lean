/-
  THE STATEMENTS of layer 32: LabelSets, LabelWays, LabelFixed, LabelGrows.
-/
import Derived.Test.YtcdeidedcbnhaaaLabelK
import Derived.Test.YtcdeidedcbnhaaaNestLaws
set_option linter.unusedVariables false
set_option linter.unusedSimpArgs false
namespace Go.Proofs.Ytcdeidedcbnhaaa
open Go.RowKit

theorem labelAwake_eg : egL [[1], [2], [2]] [false, true, true] = [false, true, true] := by
  rw [← itG_stable [[1], [2], [2]] [false, true, true] 0 (by decide)]
  decide
theorem RI.alloc {w : World} {v : Value} {l : List Int} (h : RI w v l) (o : Obj) : RI (w.alloc o) v l := h.below ((Below.refl _ _).alloc (Nat.le_refl _) _)
theorem RB.alloc {w : World} {v : Value} {l : List Bool} (h : RB w v l) (o : Obj) : RB (w.alloc o) v l := h.below ((Below.refl _ _).alloc (Nat.le_refl _) _)
theorem RR.alloc {w : World} {v : Value} {l : List (List Int)} (h : RR w v l) (o : Obj) : RR (w.alloc o) v l := h.below ((Below.refl _ _).alloc (Nat.le_refl _) _)
theorem RB.lit (w : World) (l : List Bool) (hl : l.length ≤ 1073741824) : RB (w.alloc (.cells (l.map Value.bool).toArray 4)) (.slice (some ⟨w.heap.size, 0, none⟩) l.length l.length) l := by
  have := World.ownsRow_lit (e := 4) (size := 1) (base := 0) w (l.map Value.bool).toArray l.length (Nat.zero_le _) (by unfold maxLen; omega) (by simp)
  exact RB.own this
theorem RR.lit {w : World} {g : Nat} {t : TypeId} {vs : List Value} {l : List (List Int)} (hb : Blk w g t vs.toArray) (h : ∀ i (hi : i < l.length), ∃ v, vs[i]? = some v ∧ RI w v l[i]) (hn : l.length ≤ 9223372036854775807) : RR w (.slice (some ⟨g, 0, none⟩) l.length l.length) l := by
  refine ⟨_, _, rfl, Nat.le_refl _, hn, fun h0 => ⟨g, 0, rfl, hb.lt, fun i hi => ?_⟩⟩
  obtain ⟨v, h1, h2⟩ := h i hi
  refine ⟨[v], fun j u hu => ?_, h2⟩
  cases j with
  | succ j => simp at hu
  | zero =>
    simp only [List.getElem?_cons_zero, Option.some.injEq] at hu
    subst hu
    have : (sliceR (intR .i64)).size = 1 := rfl
    rw [this, hb.cell]
    simpa using h1

theorem SetPost.own {L : List Bool} {w : World} {e : Ending} {w' : World} (h : SetPost L w e w') : ∃ v, e = .returned v ∧ RB w' v L ∧ Below w.heap.size w w' := by
  obtain ⟨g, rfl, h1, h2⟩ := h
  exact ⟨_, rfl, RB.own h1, h2⟩

set_option maxHeartbeats 2000000 in
theorem labelAwake_any (w : World) : Calls Try.prog 29 #[] w fun e w' => e = .returned (.bool true) ∧ Below w.heap.size w w' := by
  go_enter Try.func29, Try.ntmps29
  go_wp2_with fail
  have r1 := RI.lit w [1] (by decide) (by decide)
  have r2 := RI.lit (w.alloc (.cells #[.int .i64 1] 3)) [2] (by decide) (by decide)
  have r3 := RI.lit ((w.alloc (.cells #[.int .i64 1] 3)).alloc (.cells #[.int .i64 2] 3)) [2] (by decide) (by decide)
  have hR := RR.lit (l := [[1], [2], [2]]) (Blk.new (((w.alloc (.cells #[.int .i64 1] 3)).alloc (.cells #[.int .i64 2] 3)).alloc (.cells #[.int .i64 2] 3)) 22 #[.slice (some ⟨w.heap.size, 0, none⟩) 1 1, .slice (some ⟨w.heap.size + 1, 0, none⟩) 1 1, .slice (some ⟨w.heap.size + 1 + 1, 0, none⟩) 1 1]) (fun i hi => by
    match i, hi with
    | 0, _ => exact ⟨_, rfl, ((r1.alloc _).alloc _).alloc _⟩
    | 1, _ => exact ⟨_, rfl, by simpa using (r2.alloc _).alloc _⟩
    | 2, _ => exact ⟨_, rfl, by simpa using r3.alloc _⟩) (by decide)
  have hB := RB.lit ((((w.alloc (.cells #[.int .i64 1] 3)).alloc (.cells #[.int .i64 2] 3)).alloc (.cells #[.int .i64 2] 3)).alloc (.cells #[.slice (some ⟨w.heap.size, 0, none⟩) 1 1, .slice (some ⟨w.heap.size + 1, 0, none⟩) 1 1, .slice (some ⟨w.heap.size + 1 + 1, 0, none⟩) 1 1] 22)) [false, true, true] (by decide)
  have hR2 := hR.alloc (.cells #[.bool false, .bool true, .bool true] 4)
  have hb : Below w.heap.size w (((((w.alloc (.cells #[.int .i64 1] 3)).alloc (.cells #[.int .i64 2] 3)).alloc (.cells #[.int .i64 2] 3)).alloc (.cells #[.slice (some ⟨w.heap.size, 0, none⟩) 1 1, .slice (some ⟨w.heap.size + 1, 0, none⟩) 1 1, .slice (some ⟨w.heap.size + 1 + 1, 0, none⟩) 1 1] 22)).alloc (.cells #[.bool false, .bool true, .bool true] 4)) :=
    (((((Below.refl _ _).alloc (Nat.le_refl _) _).alloc (by simp) _).alloc (by simp <;> omega) _).alloc (by simp <;> omega) _).alloc (by simp <;> omega) _
  have heg := eg_any [[1], [2], [2]] [false, true, true] _ _ _ (by decide) (by decide) (by decide) hR2 hB
  rw [labelAwake_eg] at heg
  simp only [Go.Deep.nblk_alloc] at heg
  refine heg.mono ?_
  intro e w1 hp
  obtain ⟨v1, rfl, hr1, hb1⟩ := hp.own
  have hb01 := hb.trans (hb1.mono (by simp <;> omega))
  go_wp2_with fail
  have hq1 := RB.lit w1 [false, true, true] (by decide)
  refine (same_bools [false, true, true] [false, true, true] _ _ _ (by decide) (hr1.alloc _) hq1 rfl).mono ?_
  rintro e w2 ⟨rfl, hb2⟩
  go_wp2_with fail
  go_ret
  exact ⟨rfl, (hb01.alloc hb01.size _).trans (hb2.mono (by have := hb01.size; simp; omega))⟩

/-- what guards the laws of layer 32 -/
theorem label_guard {next : List (List Int)} {a : List Bool} (h : greatL next = false) : next.length ≤ 100 ∧ ∀ r ∈ next, r.length ≤ 200 := great_false h

set_option maxHeartbeats 2000000 in
theorem labelWays_law (next : List (List Int)) (a b : List Bool) (vn va vb : Value) (w : World) (hln : next.length ≤ 9223372036854775807) (hla : a.length ≤ 9223372036854775807) (hlb : b.length ≤ 9223372036854775807) (hn : RR w vn next) (ha : RB w va a) (hbb : RB w vb b) :
    Calls Try.prog 7 #[vn, va, vb] w fun e w' => e = .returned (.bool true) ∧ Below w.heap.size w w' := by
  obtain ⟨A, c, rfl, hc⟩ := hn.form
  obtain ⟨B, cb, rfl, hcb⟩ := ha.form
  obtain ⟨C, cc, rfl, hcc⟩ := hbb.form
  have hgr := great_any next _ w hln hn
  cases hg : greatL next with
  | true =>
    rw [hg] at hgr
    go_enter Try.func7, Try.ntmps7
    go_wp2_with (first
      | (go_at_call 30; refine hgr.mono ?_; rintro e w2 ⟨rfl, rfl⟩)
      | (go_at_call 29; refine (labelAwake_any _).mono ?_; rintro e w2 ⟨rfl, hb2⟩))
    go_ret
    exact ⟨rfl, hb2⟩
  | false =>
    rw [hg] at hgr
    obtain ⟨hl, hr⟩ := great_false hg
    by_cases h1 : a.length ≤ 300
    · by_cases h2 : b.length ≤ 300
      · have Hr := hide hr
        have Hg := hide hg
        have h1' : (a.length : Int) ≤ 300 := by omega
        have h2' : (b.length : Int) ≤ 300 := by omega
        clear hr hg
        go_enter Try.func7, Try.ntmps7
        go_wp2_with (go_at_call 30; refine hgr.mono ?_; rintro e w2 ⟨rfl, rfl⟩)
        refine (ex_any next a _ _ _ (by omega) (fun r h => Nat.le_trans (Hr.out r h) (by omega)) (by omega) hn ha).mono ?_
        intro e w1 hp1
        obtain ⟨v1, rfl, q1, b1⟩ := hp1.own
        clear hp1
        go_wp2_with fail
        refine (refEx_any next a _ _ _ (by omega) (fun r h => Nat.le_trans (Hr.out r h) (by omega)) (by omega) (hn.below b1) (ha.below b1)).mono ?_
        intro e w2 hp2
        obtain ⟨v2, rfl, q2, b2⟩ := hp2.own
        have b02 := b1.trans (b2.mono b1.size)
        clear hp2
        go_wp2_with fail
        refine (same_bools _ _ _ _ _ (by rw [exL_length]; omega) (q1.below b2) q2 rfl).mono ?_
        rintro e w3 ⟨rfl, b3⟩
        have b03 := b02.trans (b3.mono b02.size)
        clear q1 q2 b1 b2 b3 b02
        go_wp2_with fail
        refine (eu_any next a b _ _ _ _ hl Hr.out (by omega) (by omega) (hn.below b03) (ha.below b03) (hbb.below b03)).mono ?_
        intro e w4 hp4
        obtain ⟨v4, rfl, q4, b4⟩ := hp4.own
        have b04 := b03.trans (b4.mono b03.size)
        clear hp4
        go_wp2_with fail
        refine (refEu_any next a b _ _ _ _ (by omega) (fun r h => Nat.le_trans (Hr.out r h) (by omega)) (by omega) (by omega) (hn.below b04) (ha.below b04) (hbb.below b04)).mono ?_
        intro e w5 hp5
        obtain ⟨v5, rfl, q5, b5⟩ := hp5.own
        have b05 := b04.trans (b5.mono b04.size)
        clear hp5
        go_wp2_with fail
        refine (same_bools _ _ _ _ _ (by rw [euL_length]; omega) (q4.below b5) q5 rfl).mono ?_
        rintro e w6 ⟨rfl, b6⟩
        have b06 := b05.trans (b6.mono b05.size)
        clear q4 q5 b4 b5 b6 b05 b04 b03
        go_wp2_with fail
        refine (eg_any next a _ _ _ hl Hr.out (by omega) (hn.below b06) (ha.below b06)).mono ?_
        intro e w7 hp7
        obtain ⟨v7, rfl, q7, b7⟩ := hp7.own
        have b07 := b06.trans (b7.mono b06.size)
        clear hp7
        go_wp2_with fail
        refine (refEg_any next a _ _ _ (by omega) (fun r h => Nat.le_trans (Hr.out r h) (by omega)) (by omega) (hn.below b07) (ha.below b07)).mono ?_
        intro e w8 hp8
        obtain ⟨v8, rfl, q8, b8⟩ := hp8.own
        have b08 := b07.trans (b8.mono b07.size)
        clear hp8
        go_wp2_with fail
        refine (same_bools _ _ _ _ _ (by rw [egL_length]; omega) (q7.below b8) q8 rfl).mono ?_
        rintro e w9 ⟨rfl, b9⟩
        have b09 := b08.trans (b9.mono b08.size)
        clear q7 q8 b7 b8 b9 b08 b07 b06
        go_wp2_with fail
        refine (labelAwake_any _).mono ?_
        rintro e w10 ⟨rfl, b10⟩
        have b010 := b09.trans (b10.mono b09.size)
        go_wp2_with fail
        go_ret
        exact ⟨rfl, b010⟩
      · have h1' : (a.length : Int) ≤ 300 := by omega
        have h2' : 300 < (b.length : Int) := by omega
        clear hr
        go_enter Try.func7, Try.ntmps7
        go_wp2_with (first
          | (go_at_call 30; refine hgr.mono ?_; rintro e w2 ⟨rfl, rfl⟩)
          | (go_at_call 29; refine (labelAwake_any _).mono ?_; rintro e w2 ⟨rfl, hb2⟩))
        go_ret
        exact ⟨rfl, hb2⟩
    · have h1' : 300 < (a.length : Int) := by omega
      clear hr
      go_enter Try.func7, Try.ntmps7
      go_wp2_with (first
        | (go_at_call 30; refine hgr.mono ?_; rintro e w2 ⟨rfl, rfl⟩)
        | (go_at_call 29; refine (labelAwake_any _).mono ?_; rintro e w2 ⟨rfl, hb2⟩))
      go_ret
      exact ⟨rfl, hb2⟩

end Go.Proofs.Ytcdeidedcbnhaaa
