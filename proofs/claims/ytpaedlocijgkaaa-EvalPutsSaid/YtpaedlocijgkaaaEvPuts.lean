/-
  THE LAW EvalPuts: for any two conditions and any state it returns true. No condition.
-/
import Derived.Test.YtpaedlocijgkaaaEvTurn
set_option linter.unusedVariables false
set_option linter.unusedSimpArgs false
namespace Go.Proofs.Ytpaedlocijgkaaa
open Go.RowKit
attribute [local go_sem ↓] Go.wp_at_zero Go.wp_at_succ

def HoldsTo (a : Bool) (er : Int) (w : World) (e : Ending) (w' : World) : Prop := e = .returned (.tuple #[.bool a, .int .i64 er]) ∧ Below w.heap.size w w'
theorem holds_some (l : List Inst) (s : St) (lv vv : Value) (dv cv : Value) (S T : Nat → Prop) (w : World) (h : (sliceR instR).one w S lv l) (hS : ∀ b, S b → b < w.heap.size) (hl : l.length ≤ 900) (hv : (sliceR (intR .i64)).one w T vv s.vals) (hT : ∀ b, T b → b < w.heap.size) {b : Bool} (hr : holdsO l s = some b) :
    Calls Try.prog 10 #[lv, stAgg vv s.opn s.don dv cv] w (HoldsTo b 0 w) := (holds_any l s lv vv dv cv S T w h hS hl hv hT).mono fun e w' h => ⟨by rw [h.1, hr]; rfl, h.2⟩
theorem holds_none (l : List Inst) (s : St) (lv vv : Value) (dv cv : Value) (S T : Nat → Prop) (w : World) (h : (sliceR instR).one w S lv l) (hS : ∀ b, S b → b < w.heap.size) (hl : l.length ≤ 900) (hv : (sliceR (intR .i64)).one w T vv s.vals) (hT : ∀ b, T b → b < w.heap.size) (hr : holdsO l s = none) :
    Calls Try.prog 10 #[lv, stAgg vv s.opn s.don dv cv] w (HoldsTo false 17 w) := (holds_any l s lv vv dv cv S T w h hS hl hv hT).mono fun e w' h => ⟨by rw [h.1, hr]; rfl, h.2⟩
def TurnTo (L : List Inst) (w : World) (e : Ending) (w' : World) : Prop := ∃ u, e = .returned u ∧ (sliceR instR).one w' (fun b => w.heap.size ≤ b ∧ b < w'.heap.size) u L ∧ Below w.heap.size w w'
theorem turn_to (l m : List Inst) (op : Int) (lv mv : Value) (S S' : Nat → Prop) (w : World) (h : (sliceR instR).one w S lv l) (hS : ∀ b, S b → b < w.heap.size) (h2 : (sliceR instR).one w S' mv m) (hS' : ∀ b, S' b → b < w.heap.size) (hl : l.length + m.length ≤ 800) (ho : ok64 op) :
    Calls Try.prog 11 #[lv, mv, .int .i64 op] w (TurnTo (l ++ m ++ [opI op]) w) := by
  refine (turn_any l m op lv mv S S' w h hS h2 hS' hl).mono ?_
  rintro e w' ⟨u, he, hown, hb⟩
  have k1 := insts_ok h
  have k2 := insts_ok h2
  refine ⟨u, he, slice_ownP (r := instR) Inst.cells (fun x hx => ⟨rfl, ?_⟩) hown (by decide), hb⟩
  simp only [List.mem_append, List.mem_singleton] at hx
  rcases hx with (hx | hx) | hx
  · exact k1 x hx
  · exact k2 x hx
  · subst hx
    refine ⟨ho, ?_, ?_, ?_, ?_, ?_, ?_⟩ <;> exact ⟨by simp [opI], by simp [opI]⟩

set_option maxRecDepth 100000 in
set_option maxHeartbeats 4000000 in
theorem puts_1 (l m : List Inst) (s : St) (lv mv vv : Value) (dv cv : Value) (S S' T : Nat → Prop) (w : World) (h : (sliceR instR).one w S lv l) (hS : ∀ b, S b → b < w.heap.size) (h2 : (sliceR instR).one w S' mv m) (hS' : ∀ b, S' b → b < w.heap.size) (hv : (sliceR (intR .i64)).one w T vv s.vals) (hT : ∀ b, T b → b < w.heap.size)
    (hl : l.length + m.length ≤ 60) (hl2 : s.vals.length ≤ 100) (hr1 : holdsO l s = none) (a2 : Bool) (e2 : Int) (H2 : ∀ w', Below w.heap.size w w' → Calls Try.prog 10 #[mv, stAgg vv s.opn s.don dv cv] w' (HoldsTo a2 e2 w')) :
    Calls Try.prog 4 #[lv, mv, stAgg vv s.opn s.don dv cv] w fun e w' => e = .returned (.bool true) ∧ Below w.heap.size w w' := by
  have hrn : holdsO (l ++ [] ++ [opI 15]) s = none := by rw [List.append_nil]; unfold holdsO at hr1 ⊢; rw [puts_not (by omega), hr1]; rfl
  have HT1 := hide hT
  have C1 := hide (fun (w' : World) (hw : Below w.heap.size w w') => holds_none l s lv vv dv cv S T w' (slice_below h hw hS) (fun b hb => Nat.lt_of_lt_of_le (hS b hb) hw.size) (by omega) (slice_below hv hw hT) (fun b hb => Nat.lt_of_lt_of_le (hT b hb) hw.size) hr1)
  have C2 := hide H2
  have T15 := hide (fun (w' : World) (hw : Below w.heap.size w w') => turn_to l [] 15 lv (.slice none 0 0) S (fun _ => False) w' (slice_below h hw hS) (fun b hb => Nat.lt_of_lt_of_le (hS b hb) hw.size) (slice_nil _ _ _) (fun b hb => hb.elim) (by simp; omega) ⟨by decide, by decide⟩)
  have C15 := hide (fun (w' : World) (u : Value) (B : Nat) (hw : Below w.heap.size w w') (hu : (sliceR instR).one w' (fun b => B ≤ b ∧ b < w'.heap.size) u (l ++ [] ++ [opI 15])) => holds_none (l ++ [] ++ [opI 15]) s u vv dv cv _ T w' hu (fun b hb => hb.2) (by simp; omega) (slice_below hv hw hT) (fun b hb => Nat.lt_of_lt_of_le (hT b hb) hw.size) hrn)
  obtain ⟨A1, c1, rfl, hc1, hc1'⟩ := slice_form h
  obtain ⟨A2, c2, rfl, hc2, hc2'⟩ := slice_form h2
  obtain ⟨A3, c3, rfl, hc3, hc3'⟩ := slice_form hv
  obtain ⟨vals, o, d, did, cnt⟩ := s
  simp only at hl2 C1 C2 C15 hc3 ⊢
  obtain ⟨W, hW⟩ : ∃ W, W = w.alloc (.cells #[.slice A3 vals.length c3, .int .i64 o, .int .i64 d, dv, cv] 28) := ⟨_, rfl⟩
  have hb0 : Below w.heap.size w W := by rw [hW]; exact (Below.refl _ _).alloc (Nat.le_refl _) _
  have hB : Blk W w.heap.size 28 #[.slice A3 vals.length c3, .int .i64 o, .int .i64 d, dv, cv] := by rw [hW]; exact Blk.new _ _ _
  have hz : W.heap.size = w.heap.size + 1 := by rw [hW]; simp
  have HB := hide hB
  have HW := hide hW
  have H0 := hide hb0
  have SC := hide (fun (w' : World) (hb : Below W.heap.size W w') => by
    have B0 := hB.below hb (by omega)
    have s0 := B0.cell 0
    have s1 := B0.cell 1
    have s2 := B0.cell 2
    have s3 := B0.cell 3
    have s4 := B0.cell 4
    simp at s0 s1 s2 s3 s4
    exact (⟨s0, s1, s2, s3, s4⟩ : w'.cell? ⟨w.heap.size, 0, none⟩ = some (.slice A3 vals.length c3) ∧ w'.cell? ⟨w.heap.size, 1, none⟩ = some (.int .i64 o) ∧ w'.cell? ⟨w.heap.size, 2, none⟩ = some (.int .i64 d) ∧ w'.cell? ⟨w.heap.size, 3, none⟩ = some dv ∧ w'.cell? ⟨w.heap.size, 4, none⟩ = some cv))
  clear h h2 hv hr1 H2 hrn hW hb0 hB hS hS' hT
  go_enter Try.func4, Try.ntmps4
  go_wp2_with fail
  rw [← HW.out]
  refine (C1.out W H0.out).mono ?_
  rintro e w1 ⟨rfl, hb1⟩
  obtain ⟨s0, s1, s2, s3, s4⟩ := SC.out w1 hb1
  go_wp2_with fail
  clear s0 s1 s2 s3 s4
  have hw1 : Below w.heap.size w w1 := H0.out.trans (hb1.mono (by omega))
  refine (C2.out w1 hw1).mono ?_
  rintro e w2 ⟨rfl, hb2⟩
  have hW2 : Below W.heap.size W w2 := hb1.trans (hb2.mono hb1.size)
  have hw2 : Below w.heap.size w w2 := H0.out.trans (hW2.mono (by omega))
  go_wp2_with fail
  have hS0 := SC.out w2.drew hW2.drew
  go_region_held3 (fun w' => w'.cell? ⟨w.heap.size, 0, none⟩ = some (.slice A3 vals.length c3) ∧ w'.cell? ⟨w.heap.size, 1, none⟩ = some (.int .i64 o) ∧ w'.cell? ⟨w.heap.size, 2, none⟩ = some (.int .i64 d) ∧ w'.cell? ⟨w.heap.size, 3, none⟩ = some dv ∧ w'.cell? ⟨w.heap.size, 4, none⟩ = some cv) (assumption)
    (first
      | (go_at_call 11; (with_reducible refine (T15.out _ hw2.drew).mono ?_); rintro e w3 ⟨u, rfl, hu, hb3⟩; have hW3 : Below W.heap.size W w3 := hW2.drew.trans (hb3.mono hW2.size); have hw3 : Below w.heap.size w w3 := H0.out.trans (hW3.mono (by omega)); have K3 := SC.out w3 hW3)
      | (go_at_call 10; (with_reducible refine (C15.out w3 u _ hw3 hu).mono ?_); rintro e w4 ⟨rfl, hb4⟩; have hW4 : Below W.heap.size W w4 := hW3.trans (hb4.mono hW3.size); have K4 := SC.out w4 hW4))
  all_goals
    go_wp2_with (go_at_call 9; refine (awake16 _).mono ?_; rintro e w9 ⟨rfl, hb9⟩)
    go_ret
    exact ⟨rfl, H0.out.trans ((hW4.mono (by omega)).trans (hb9.mono (Nat.le_trans H0.out.size hW4.size)))⟩
set_option maxRecDepth 100000 in
set_option maxHeartbeats 4000000 in
theorem puts_2 (l m : List Inst) (s : St) (lv mv vv : Value) (dv cv : Value) (S S' T : Nat → Prop) (w : World) (h : (sliceR instR).one w S lv l) (hS : ∀ b, S b → b < w.heap.size) (h2 : (sliceR instR).one w S' mv m) (hS' : ∀ b, S' b → b < w.heap.size) (hv : (sliceR (intR .i64)).one w T vv s.vals) (hT : ∀ b, T b → b < w.heap.size)
    (hl : l.length + m.length ≤ 60) (hl2 : s.vals.length ≤ 100) (a : Bool) (hr1 : holdsO l s = some a) (hr2 : holdsO m s = none) :
    Calls Try.prog 4 #[lv, mv, stAgg vv s.opn s.don dv cv] w fun e w' => e = .returned (.bool true) ∧ Below w.heap.size w w' := by
  have hrn : holdsO (l ++ [] ++ [opI 15]) s = some (!a) := by rw [List.append_nil]; unfold holdsO at hr1 ⊢; rw [puts_not (by omega), hr1]; rfl
  have HT1 := hide hT
  have C1 := hide (fun (w' : World) (hw : Below w.heap.size w w') => holds_some l s lv vv dv cv S T w' (slice_below h hw hS) (fun b hb => Nat.lt_of_lt_of_le (hS b hb) hw.size) (by omega) (slice_below hv hw hT) (fun b hb => Nat.lt_of_lt_of_le (hT b hb) hw.size) hr1)
  have C2 := hide (fun (w' : World) (hw : Below w.heap.size w w') => holds_none m s mv vv dv cv S' T w' (slice_below h2 hw hS') (fun b hb => Nat.lt_of_lt_of_le (hS' b hb) hw.size) (by omega) (slice_below hv hw hT) (fun b hb => Nat.lt_of_lt_of_le (hT b hb) hw.size) hr2)
  have T15 := hide (fun (w' : World) (hw : Below w.heap.size w w') => turn_to l [] 15 lv (.slice none 0 0) S (fun _ => False) w' (slice_below h hw hS) (fun b hb => Nat.lt_of_lt_of_le (hS b hb) hw.size) (slice_nil _ _ _) (fun b hb => hb.elim) (by simp; omega) ⟨by decide, by decide⟩)
  have C15 := hide (fun (w' : World) (u : Value) (B : Nat) (hw : Below w.heap.size w w') (hu : (sliceR instR).one w' (fun b => B ≤ b ∧ b < w'.heap.size) u (l ++ [] ++ [opI 15])) => holds_some (l ++ [] ++ [opI 15]) s u vv dv cv _ T w' hu (fun b hb => hb.2) (by simp; omega) (slice_below hv hw hT) (fun b hb => Nat.lt_of_lt_of_le (hT b hb) hw.size) hrn)
  obtain ⟨A1, c1, rfl, hc1, hc1'⟩ := slice_form h
  obtain ⟨A2, c2, rfl, hc2, hc2'⟩ := slice_form h2
  obtain ⟨A3, c3, rfl, hc3, hc3'⟩ := slice_form hv
  obtain ⟨vals, o, d, did, cnt⟩ := s
  simp only at hl2 C1 C2 C15 hc3 ⊢
  obtain ⟨W, hW⟩ : ∃ W, W = w.alloc (.cells #[.slice A3 vals.length c3, .int .i64 o, .int .i64 d, dv, cv] 28) := ⟨_, rfl⟩
  have hb0 : Below w.heap.size w W := by rw [hW]; exact (Below.refl _ _).alloc (Nat.le_refl _) _
  have hB : Blk W w.heap.size 28 #[.slice A3 vals.length c3, .int .i64 o, .int .i64 d, dv, cv] := by rw [hW]; exact Blk.new _ _ _
  have hz : W.heap.size = w.heap.size + 1 := by rw [hW]; simp
  have HB := hide hB
  have HW := hide hW
  have H0 := hide hb0
  have SC := hide (fun (w' : World) (hb : Below W.heap.size W w') => by
    have B0 := hB.below hb (by omega)
    have s0 := B0.cell 0
    have s1 := B0.cell 1
    have s2 := B0.cell 2
    have s3 := B0.cell 3
    have s4 := B0.cell 4
    simp at s0 s1 s2 s3 s4
    exact (⟨s0, s1, s2, s3, s4⟩ : w'.cell? ⟨w.heap.size, 0, none⟩ = some (.slice A3 vals.length c3) ∧ w'.cell? ⟨w.heap.size, 1, none⟩ = some (.int .i64 o) ∧ w'.cell? ⟨w.heap.size, 2, none⟩ = some (.int .i64 d) ∧ w'.cell? ⟨w.heap.size, 3, none⟩ = some dv ∧ w'.cell? ⟨w.heap.size, 4, none⟩ = some cv))
  clear h h2 hv hr1 hr2 hrn hW hb0 hB hS hS' hT
  cases a
  all_goals
    go_enter Try.func4, Try.ntmps4
    go_wp2_with fail
    rw [← HW.out]
    refine (C1.out W H0.out).mono ?_
    rintro e w1 ⟨rfl, hb1⟩
    obtain ⟨s0, s1, s2, s3, s4⟩ := SC.out w1 hb1
    go_wp2_with fail
    clear s0 s1 s2 s3 s4
    have hw1 : Below w.heap.size w w1 := H0.out.trans (hb1.mono (by omega))
    refine (C2.out w1 hw1).mono ?_
    rintro e w2 ⟨rfl, hb2⟩
    have hW2 : Below W.heap.size W w2 := hb1.trans (hb2.mono hb1.size)
    have hw2 : Below w.heap.size w w2 := H0.out.trans (hW2.mono (by omega))
    go_wp2_with fail
    have hS0 := SC.out w2.drew hW2.drew
    go_region_held3 (fun w' => w'.cell? ⟨w.heap.size, 0, none⟩ = some (.slice A3 vals.length c3) ∧ w'.cell? ⟨w.heap.size, 1, none⟩ = some (.int .i64 o) ∧ w'.cell? ⟨w.heap.size, 2, none⟩ = some (.int .i64 d) ∧ w'.cell? ⟨w.heap.size, 3, none⟩ = some dv ∧ w'.cell? ⟨w.heap.size, 4, none⟩ = some cv) (assumption)
      (first
        | (go_at_call 11; (with_reducible refine (T15.out _ hw2.drew).mono ?_); rintro e w3 ⟨u, rfl, hu, hb3⟩; have hW3 : Below W.heap.size W w3 := hW2.drew.trans (hb3.mono hW2.size); have hw3 : Below w.heap.size w w3 := H0.out.trans (hW3.mono (by omega)); have K3 := SC.out w3 hW3)
        | (go_at_call 10; (with_reducible refine (C15.out w3 u _ hw3 hu).mono ?_); rintro e w4 ⟨rfl, hb4⟩; have hW4 : Below W.heap.size W w4 := hW3.trans (hb4.mono hW3.size); have K4 := SC.out w4 hW4))
    all_goals
      go_wp2_with (go_at_call 9; refine (awake16 _).mono ?_; rintro e w9 ⟨rfl, hb9⟩)
      go_ret
      exact ⟨rfl, H0.out.trans ((hW4.mono (by omega)).trans (hb9.mono (Nat.le_trans H0.out.size hW4.size)))⟩

set_option maxRecDepth 100000 in
set_option maxHeartbeats 4000000 in
theorem puts_3 (l m : List Inst) (s : St) (lv mv vv : Value) (dv cv : Value) (S S' T : Nat → Prop) (w : World) (h : (sliceR instR).one w S lv l) (hS : ∀ b, S b → b < w.heap.size) (h2 : (sliceR instR).one w S' mv m) (hS' : ∀ b, S' b → b < w.heap.size) (hv : (sliceR (intR .i64)).one w T vv s.vals) (hT : ∀ b, T b → b < w.heap.size)
    (hl : l.length + m.length ≤ 60) (hl2 : s.vals.length ≤ 100) (a b : Bool) (hr1 : holdsO l s = some a) (hr2 : holdsO m s = some b) :
    Calls Try.prog 4 #[lv, mv, stAgg vv s.opn s.don dv cv] w fun e w' => e = .returned (.bool true) ∧ Below w.heap.size w w' := by
  have hrn : holdsO (l ++ [] ++ [opI 15]) s = some (!a) := by rw [List.append_nil]; unfold holdsO at hr1 ⊢; rw [puts_not (by omega), hr1]; rfl
  have HT1 := hide hT
  have hbi : holdsO (l ++ m ++ [opI 16]) s = some (a && b) ∧ holdsO (l ++ m ++ [opI 17]) s = some (a || b) ∧ holdsO (l ++ m ++ [opI 18]) s = some (!a || b) := puts_bi hl hr1 hr2
  have C1 := hide (fun (w' : World) (hw : Below w.heap.size w w') => holds_some l s lv vv dv cv S T w' (slice_below h hw hS) (fun b hb => Nat.lt_of_lt_of_le (hS b hb) hw.size) (by omega) (slice_below hv hw hT) (fun b hb => Nat.lt_of_lt_of_le (hT b hb) hw.size) hr1)
  have C2 := hide (fun (w' : World) (hw : Below w.heap.size w w') => holds_some m s mv vv dv cv S' T w' (slice_below h2 hw hS') (fun b hb => Nat.lt_of_lt_of_le (hS' b hb) hw.size) (by omega) (slice_below hv hw hT) (fun b hb => Nat.lt_of_lt_of_le (hT b hb) hw.size) hr2)
  have T15 := hide (fun (w' : World) (hw : Below w.heap.size w w') => turn_to l [] 15 lv (.slice none 0 0) S (fun _ => False) w' (slice_below h hw hS) (fun b hb => Nat.lt_of_lt_of_le (hS b hb) hw.size) (slice_nil _ _ _) (fun b hb => hb.elim) (by simp; omega) ⟨by decide, by decide⟩)
  have C15 := hide (fun (w' : World) (u : Value) (B : Nat) (hw : Below w.heap.size w w') (hu : (sliceR instR).one w' (fun b => B ≤ b ∧ b < w'.heap.size) u (l ++ [] ++ [opI 15])) => holds_some (l ++ [] ++ [opI 15]) s u vv dv cv _ T w' hu (fun b hb => hb.2) (by simp; omega) (slice_below hv hw hT) (fun b hb => Nat.lt_of_lt_of_le (hT b hb) hw.size) hrn)
  have T16 := hide (fun (w' : World) (hw : Below w.heap.size w w') => turn_to l m 16 lv mv S S' w' (slice_below h hw hS) (fun b hb => Nat.lt_of_lt_of_le (hS b hb) hw.size) (slice_below h2 hw hS') (fun b hb => Nat.lt_of_lt_of_le (hS' b hb) hw.size) (by omega) ⟨by decide, by decide⟩)
  have C16 := hide (fun (w' : World) (u : Value) (B : Nat) (hw : Below w.heap.size w w') (hu : (sliceR instR).one w' (fun b => B ≤ b ∧ b < w'.heap.size) u (l ++ m ++ [opI 16])) => holds_some (l ++ m ++ [opI 16]) s u vv dv cv _ T w' hu (fun b hb => hb.2) (by simp; omega) (slice_below hv hw hT) (fun b hb => Nat.lt_of_lt_of_le (hT b hb) hw.size) hbi.1)
  have T17 := hide (fun (w' : World) (hw : Below w.heap.size w w') => turn_to l m 17 lv mv S S' w' (slice_below h hw hS) (fun b hb => Nat.lt_of_lt_of_le (hS b hb) hw.size) (slice_below h2 hw hS') (fun b hb => Nat.lt_of_lt_of_le (hS' b hb) hw.size) (by omega) ⟨by decide, by decide⟩)
  have C17 := hide (fun (w' : World) (u : Value) (B : Nat) (hw : Below w.heap.size w w') (hu : (sliceR instR).one w' (fun b => B ≤ b ∧ b < w'.heap.size) u (l ++ m ++ [opI 17])) => holds_some (l ++ m ++ [opI 17]) s u vv dv cv _ T w' hu (fun b hb => hb.2) (by simp; omega) (slice_below hv hw hT) (fun b hb => Nat.lt_of_lt_of_le (hT b hb) hw.size) hbi.2.1)
  have T18 := hide (fun (w' : World) (hw : Below w.heap.size w w') => turn_to l m 18 lv mv S S' w' (slice_below h hw hS) (fun b hb => Nat.lt_of_lt_of_le (hS b hb) hw.size) (slice_below h2 hw hS') (fun b hb => Nat.lt_of_lt_of_le (hS' b hb) hw.size) (by omega) ⟨by decide, by decide⟩)
  have C18 := hide (fun (w' : World) (u : Value) (B : Nat) (hw : Below w.heap.size w w') (hu : (sliceR instR).one w' (fun b => B ≤ b ∧ b < w'.heap.size) u (l ++ m ++ [opI 18])) => holds_some (l ++ m ++ [opI 18]) s u vv dv cv _ T w' hu (fun b hb => hb.2) (by simp; omega) (slice_below hv hw hT) (fun b hb => Nat.lt_of_lt_of_le (hT b hb) hw.size) hbi.2.2)
  obtain ⟨A1, c1, rfl, hc1, hc1'⟩ := slice_form h
  obtain ⟨A2, c2, rfl, hc2, hc2'⟩ := slice_form h2
  obtain ⟨A3, c3, rfl, hc3, hc3'⟩ := slice_form hv
  obtain ⟨vals, o, d, did, cnt⟩ := s
  simp only at hl2 C1 C2 C15 C16 C17 C18 hc3 ⊢
  obtain ⟨W, hW⟩ : ∃ W, W = w.alloc (.cells #[.slice A3 vals.length c3, .int .i64 o, .int .i64 d, dv, cv] 28) := ⟨_, rfl⟩
  have hb0 : Below w.heap.size w W := by rw [hW]; exact (Below.refl _ _).alloc (Nat.le_refl _) _
  have hB : Blk W w.heap.size 28 #[.slice A3 vals.length c3, .int .i64 o, .int .i64 d, dv, cv] := by rw [hW]; exact Blk.new _ _ _
  have hz : W.heap.size = w.heap.size + 1 := by rw [hW]; simp
  have HB := hide hB
  have HW := hide hW
  have H0 := hide hb0
  have SC := hide (fun (w' : World) (hb : Below W.heap.size W w') => by
    have B0 := hB.below hb (by omega)
    have s0 := B0.cell 0
    have s1 := B0.cell 1
    have s2 := B0.cell 2
    have s3 := B0.cell 3
    have s4 := B0.cell 4
    simp at s0 s1 s2 s3 s4
    exact (⟨s0, s1, s2, s3, s4⟩ : w'.cell? ⟨w.heap.size, 0, none⟩ = some (.slice A3 vals.length c3) ∧ w'.cell? ⟨w.heap.size, 1, none⟩ = some (.int .i64 o) ∧ w'.cell? ⟨w.heap.size, 2, none⟩ = some (.int .i64 d) ∧ w'.cell? ⟨w.heap.size, 3, none⟩ = some dv ∧ w'.cell? ⟨w.heap.size, 4, none⟩ = some cv))
  clear h h2 hv hr1 hr2 hrn hbi hW hb0 hB hS hS' hT
  cases a <;> cases b
  all_goals
    go_enter Try.func4, Try.ntmps4
    go_wp2_with fail
    rw [← HW.out]
    refine (C1.out W H0.out).mono ?_
    rintro e w1 ⟨rfl, hb1⟩
    obtain ⟨s0, s1, s2, s3, s4⟩ := SC.out w1 hb1
    go_wp2_with fail
    clear s0 s1 s2 s3 s4
    have hw1 : Below w.heap.size w w1 := H0.out.trans (hb1.mono (by omega))
    refine (C2.out w1 hw1).mono ?_
    rintro e w2 ⟨rfl, hb2⟩
    have hW2 : Below W.heap.size W w2 := hb1.trans (hb2.mono hb1.size)
    have hw2 : Below w.heap.size w w2 := H0.out.trans (hW2.mono (by omega))
    go_wp2_with fail
    have hS0 := SC.out w2.drew hW2.drew
    go_region_held3 (fun w' => w'.cell? ⟨w.heap.size, 0, none⟩ = some (.slice A3 vals.length c3) ∧ w'.cell? ⟨w.heap.size, 1, none⟩ = some (.int .i64 o) ∧ w'.cell? ⟨w.heap.size, 2, none⟩ = some (.int .i64 d) ∧ w'.cell? ⟨w.heap.size, 3, none⟩ = some dv ∧ w'.cell? ⟨w.heap.size, 4, none⟩ = some cv) (assumption)
      (first
        | (go_at_call 11; (with_reducible refine (T15.out _ hw2.drew).mono ?_); rintro e w3 ⟨u, rfl, hu, hb3⟩; have hW3 : Below W.heap.size W w3 := hW2.drew.trans (hb3.mono hW2.size); have hw3 : Below w.heap.size w w3 := H0.out.trans (hW3.mono (by omega)); have K3 := SC.out w3 hW3)
        | (go_at_call 10; (with_reducible refine (C15.out w3 u _ hw3 hu).mono ?_); rintro e w4 ⟨rfl, hb4⟩; have hW4 : Below W.heap.size W w4 := hW3.trans (hb4.mono hW3.size); have K4 := SC.out w4 hW4))
    have hwx16 : Below w.heap.size w w4 := H0.out.trans (hW4.mono (by omega))
    go_wp2_with fail
    have hS16 := SC.out w4.drew hW4.drew
    go_region_held3 (fun w' => w'.cell? ⟨w.heap.size, 0, none⟩ = some (.slice A3 vals.length c3) ∧ w'.cell? ⟨w.heap.size, 1, none⟩ = some (.int .i64 o) ∧ w'.cell? ⟨w.heap.size, 2, none⟩ = some (.int .i64 d) ∧ w'.cell? ⟨w.heap.size, 3, none⟩ = some dv ∧ w'.cell? ⟨w.heap.size, 4, none⟩ = some cv) (assumption)
      (first
        | (go_at_call 11; (with_reducible refine (T16.out _ hwx16.drew).mono ?_); rintro e w5 ⟨u16, rfl, hu16, hb5⟩; have hW5 : Below W.heap.size W w5 := hW4.drew.trans (hb5.mono hW4.size); have hw5 : Below w.heap.size w w5 := H0.out.trans (hW5.mono (by omega)); have K5 := SC.out w5 hW5)
        | (go_at_call 10; (with_reducible refine (C16.out w5 u16 _ hw5 hu16).mono ?_); rintro e w6 ⟨rfl, hb6⟩; have hW6 : Below W.heap.size W w6 := hW5.trans (hb6.mono hW5.size); have K6 := SC.out w6 hW6))
    have hwx17 : Below w.heap.size w w6 := H0.out.trans (hW6.mono (by omega))
    go_wp2_with fail
    have hS17 := SC.out w6.drew hW6.drew
    go_region_held3 (fun w' => w'.cell? ⟨w.heap.size, 0, none⟩ = some (.slice A3 vals.length c3) ∧ w'.cell? ⟨w.heap.size, 1, none⟩ = some (.int .i64 o) ∧ w'.cell? ⟨w.heap.size, 2, none⟩ = some (.int .i64 d) ∧ w'.cell? ⟨w.heap.size, 3, none⟩ = some dv ∧ w'.cell? ⟨w.heap.size, 4, none⟩ = some cv) (assumption)
      (first
        | (go_at_call 11; (with_reducible refine (T17.out _ hwx17.drew).mono ?_); rintro e w7 ⟨u17, rfl, hu17, hb7⟩; have hW7 : Below W.heap.size W w7 := hW6.drew.trans (hb7.mono hW6.size); have hw7 : Below w.heap.size w w7 := H0.out.trans (hW7.mono (by omega)); have K7 := SC.out w7 hW7)
        | (go_at_call 10; (with_reducible refine (C17.out w7 u17 _ hw7 hu17).mono ?_); rintro e w8 ⟨rfl, hb8⟩; have hW8 : Below W.heap.size W w8 := hW7.trans (hb8.mono hW7.size); have K8 := SC.out w8 hW8))
    have hwx18 : Below w.heap.size w w8 := H0.out.trans (hW8.mono (by omega))
    go_wp2_with fail
    have hS18 := SC.out w8.drew hW8.drew
    go_region_held3 (fun w' => w'.cell? ⟨w.heap.size, 0, none⟩ = some (.slice A3 vals.length c3) ∧ w'.cell? ⟨w.heap.size, 1, none⟩ = some (.int .i64 o) ∧ w'.cell? ⟨w.heap.size, 2, none⟩ = some (.int .i64 d) ∧ w'.cell? ⟨w.heap.size, 3, none⟩ = some dv ∧ w'.cell? ⟨w.heap.size, 4, none⟩ = some cv) (assumption)
      (first
        | (go_at_call 11; (with_reducible refine (T18.out _ hwx18.drew).mono ?_); rintro e w9 ⟨u18, rfl, hu18, hb9⟩; have hW9 : Below W.heap.size W w9 := hW8.drew.trans (hb9.mono hW8.size); have hw9 : Below w.heap.size w w9 := H0.out.trans (hW9.mono (by omega)); have K9 := SC.out w9 hW9)
        | (go_at_call 10; (with_reducible refine (C18.out w9 u18 _ hw9 hu18).mono ?_); rintro e w10 ⟨rfl, hb10⟩; have hW10 : Below W.heap.size W w10 := hW9.trans (hb10.mono hW9.size); have K10 := SC.out w10 hW10))
    all_goals
      go_wp2_with (go_at_call 9; refine (awake16 _).mono ?_; rintro e w9 ⟨rfl, hb9⟩)
      go_ret
      exact ⟨rfl, H0.out.trans ((hW10.mono (by omega)).trans (hb9.mono (Nat.le_trans H0.out.size hW10.size)))⟩
end Go.Proofs.Ytpaedlocijgkaaa
