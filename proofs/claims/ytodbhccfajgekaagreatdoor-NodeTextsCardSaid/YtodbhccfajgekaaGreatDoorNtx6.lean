/-
  Parts of the proof: EvStep, EvStep2, EvSides, EvDoor, EvSides2, EvHolds.
-/
import Derived.Test.YtodbhccfajgekaaGreatDoorNtx5
import Derived.Defers
import Derived.Recover
import Derived.Conc.MuLone
set_option linter.unusedVariables false
set_option linter.unusedSimpArgs false
namespace Go.Proofs.YtodbhccfajgekaaGreatDoor
section
open Go.RowKit
def StepPost (a : Nat) (vv : Value) (o d : Int) (dv cv f : Value) (L : List Bool) (w : World) (e : Ending) (w' : World) : Prop := e = .returned (.tuple #[]) ∧ AskAt w' a w'.heap.size vv o d dv cv f L ∧ Below a w w' ∧ w.heap.size ≤ w'.heap.size
abbrev instVal (op la ln ra rn n u : Int) : Value := .agg #[.int .i64 op, .int .i64 la, .int .i64 ln, .int .i64 ra, .int .i64 rn, .int .i64 n, .int .i64 u]

set_option maxRecDepth 100000 in
set_option maxHeartbeats 1000000 in
theorem stepT (op la ln ra rn n u : Int) (a : Nat) (vv : Value) (o d : Int) (dv cv f : Value) (L : List Bool) (w : World) (h : AskAt w a w.heap.size vv o d dv cv f L) (hL : L.length ≤ 1000) (ho : op = 1 ∨ op = 2) :
    Calls Tryz.prog 107 #[.pointer (some ⟨a, 0, none⟩), instVal op la ln ra rn n u] w (StepPost a vv o d dv cv f (L ++ [op == 1]) w) := by
  have hb0 : Below w.heap.size w (w.alloc (.cells #[.int .i64 op, .int .i64 la, .int .i64 ln, .int .i64 ra, .int .i64 rn, .int .i64 n, .int .i64 u] 174)) := (Below.refl _ _).alloc (Nat.le_refl _) _
  have hal : a < w.heap.size := by obtain ⟨_, _, _, h3, _⟩ := h; exact h3
  have Hp := hide (fun b => askPush a w.heap.size vv o d dv cv f L b _ (h.below hb0) hL)
  have Hb := hide hb0
  clear h hb0
  rcases ho with rfl | rfl
  all_goals
    go_enter Tryz.func107, Tryz.ntmps107
    go_wp2_with (go_at_call 120; refine (Hp.out _).mono ?_; rintro e w' ⟨rfl, ha, hbl, hsz, _⟩)
    go_end0
    exact ⟨rfl, ha, Hb.out.mono (Nat.le_of_lt hal) |>.trans hbl, Nat.le_trans Hb.out.size hsz⟩


set_option maxRecDepth 100000 in
set_option maxHeartbeats 4000000 in
theorem stepCmp3 (la ln ra rn n u c : Int) (a k : Nat) (caps : Array Value) (vv : Value) (o d : Int) (dv cv : Value) (L : List Bool) (w : World) (h : AskAt w a w.heap.size vv o d dv cv (.func (.func k) #[] caps) L) (hL : L.length ≤ 1000)
    (hcf : ∀ (args : Array Value) (w : World), (callFunc k args).run Tryz.prog w = .ok (.enter k args) w)
    (HL : Hid (∀ w', Below w.heap.size w w' → Calls Tryz.prog k (#[.agg #[.int .i64 la, .int .i64 ln], .agg #[.int .i64 ra, .int .i64 rn]] ++ caps) w' fun e w'' => e = .returned (.int .i64 c) ∧ Below w'.heap.size w' w'')) :
    Calls Tryz.prog 107 #[.pointer (some ⟨a, 0, none⟩), instVal 3 la ln ra rn n u] w (StepPost a vv o d dv cv (.func (.func k) #[] caps) (L ++ [soB 3 c]) w) := by
  obtain ⟨W, hW⟩ : ∃ W, W = w.alloc (.cells #[(.int .i64 3), .int .i64 la, .int .i64 ln, .int .i64 ra, .int .i64 rn, .int .i64 n, .int .i64 u] 174) := ⟨_, rfl⟩
  have hb0 : Below w.heap.size w W := by rw [hW]; exact (Below.refl _ _).alloc (Nat.le_refl _) _
  have hal : a < w.heap.size := by obtain ⟨_, _, _, h3, _⟩ := h; exact h3
  have hz : W.heap.size = w.heap.size + 1 := by rw [hW]; simp
  have c5 := (h.below hb0).cells.2.2.2
  have x0 : W.cell? ⟨w.heap.size, 0, none⟩ = some (.int .i64 3) := by rw [hW]; simp
  have x1 : W.cell? ⟨w.heap.size, 1, none⟩ = some (.int .i64 la) := by rw [hW]; simp
  have x2 : W.cell? ⟨w.heap.size, 2, none⟩ = some (.int .i64 ln) := by rw [hW]; simp
  have x3 : W.cell? ⟨w.heap.size, 3, none⟩ = some (.int .i64 ra) := by rw [hW]; simp
  have x4 : W.cell? ⟨w.heap.size, 4, none⟩ = some (.int .i64 rn) := by rw [hW]; simp
  have KB := hide (fun (w' : World) (hb : Below W.heap.size W w') => (⟨(hb.cell (p := ⟨a, 5, none⟩) (by show a < _; omega)).trans c5, (hb.cell (p := ⟨w.heap.size, 0, none⟩) (by show w.heap.size < _; omega)).trans x0, (hb.cell (p := ⟨w.heap.size, 1, none⟩) (by show w.heap.size < _; omega)).trans x1, (hb.cell (p := ⟨w.heap.size, 2, none⟩) (by show w.heap.size < _; omega)).trans x2, (hb.cell (p := ⟨w.heap.size, 3, none⟩) (by show w.heap.size < _; omega)).trans x3, (hb.cell (p := ⟨w.heap.size, 4, none⟩) (by show w.heap.size < _; omega)).trans x4⟩ :
    w'.cell? ⟨a, 5, none⟩ = some (.func (.func k) #[] caps) ∧ w'.cell? ⟨w.heap.size, 0, none⟩ = some (.int .i64 3) ∧ w'.cell? ⟨w.heap.size, 1, none⟩ = some (.int .i64 la) ∧ w'.cell? ⟨w.heap.size, 2, none⟩ = some (.int .i64 ln) ∧ w'.cell? ⟨w.heap.size, 3, none⟩ = some (.int .i64 ra) ∧ w'.cell? ⟨w.heap.size, 4, none⟩ = some (.int .i64 rn)))
  have KP := hide (fun (w1 w2 : World) (hb : Below W.heap.size W w1) (ha : AskAt w2 a w2.heap.size vv o d dv cv (.func (.func k) #[] caps) (L ++ [soB 3 c])) (hp : Past w.heap.size w1 w2) => by
    obtain ⟨q0, q1, q2, q3, q4, q5⟩ := KB.out w1 hb
    have hs : w.heap.size < w1.heap.size := by have := hb.size; omega
    exact (⟨ha.cells.2.2.2, (hp.cell (Nat.le_refl _) hs).trans q1, (hp.cell (Nat.le_refl _) hs).trans q2, (hp.cell (Nat.le_refl _) hs).trans q3, (hp.cell (Nat.le_refl _) hs).trans q4, (hp.cell (Nat.le_refl _) hs).trans q5⟩ :
      w2.cell? ⟨a, 5, none⟩ = some (.func (.func k) #[] caps) ∧ w2.cell? ⟨w.heap.size, 0, none⟩ = some (.int .i64 3) ∧ w2.cell? ⟨w.heap.size, 1, none⟩ = some (.int .i64 la) ∧ w2.cell? ⟨w.heap.size, 2, none⟩ = some (.int .i64 ln) ∧ w2.cell? ⟨w.heap.size, 3, none⟩ = some (.int .i64 ra) ∧ w2.cell? ⟨w.heap.size, 4, none⟩ = some (.int .i64 rn)))
  have H := hide h
  have HW := hide hW
  have HB := hide hb0
  clear h hb0 hW
  go_enter Tryz.func107, Tryz.ntmps107
  go_wp2_with fail
  rw [← HW.out]
  have hS0 := KB.out W.drew ((Below.refl _ _).drew)
  go_region_held3 (fun w' => w'.cell? ⟨a, 5, none⟩ = some (.func (.func k) #[] caps) ∧ w'.cell? ⟨w.heap.size, 0, none⟩ = some (.int .i64 3) ∧ w'.cell? ⟨w.heap.size, 1, none⟩ = some (.int .i64 la) ∧ w'.cell? ⟨w.heap.size, 2, none⟩ = some (.int .i64 ln) ∧ w'.cell? ⟨w.heap.size, 3, none⟩ = some (.int .i64 ra) ∧ w'.cell? ⟨w.heap.size, 4, none⟩ = some (.int .i64 rn)) (assumption)
    (first
      | (go_at_call 121; refine (so_any _ _ _).mono ?_; rintro e w' ⟨rfl, rfl⟩)
      | (go_at_call 120; (with_reducible refine (askPush a w.heap.size vv o d dv cv _ L _ _ (H.out.below hbw1) hL).mono ?_); rintro e w2 ⟨rfl, ha, hbl, hsz, hpast⟩; have K2 := KP.out _ _ hbW1 ha hpast)
      | ((with_reducible refine (HL.out _ HB.out.drew).mono ?_); rintro e w1 ⟨rfl, hb1⟩; have hbW1 : Below W.heap.size W w1 := (Below.refl W.heap.size W).drew.trans hb1; have K1 := KB.out w1 hbW1; have hbw1 : Below w.heap.size w w1 := HB.out.trans (hbW1.mono HB.out.size)))
  all_goals
    go_wp2_with fail
    go_end0
    exact ⟨rfl, ha, (hbw1.mono (Nat.le_of_lt hal)).trans hbl, Nat.le_trans hbw1.size hsz⟩
set_option maxRecDepth 100000 in
set_option maxHeartbeats 4000000 in
theorem stepNo3 (la ln ra rn n u : Int) (a k : Nat) (caps : Array Value) (vv : Value) (o d : Int) (dv cv : Value) (L : List Bool) (w : World) (h : AskAt w a w.heap.size vv o d dv cv (.func (.func k) #[] caps) L) (hL : L.length ≤ 1000)
    (hcf : ∀ (args : Array Value) (w : World), (callFunc k args).run Tryz.prog w = .ok (.enter k args) w)
    (HL : Hid (∀ w', Below w.heap.size w w' → Calls Tryz.prog k (#[.agg #[.int .i64 la, .int .i64 ln], .agg #[.int .i64 ra, .int .i64 rn]] ++ caps) w' fun e w'' => e = .panicked lostP ∧ Below w'.heap.size w' w'')) :
    Calls Tryz.prog 107 #[.pointer (some ⟨a, 0, none⟩), instVal 3 la ln ra rn n u] w fun e w' => e = .panicked lostP ∧ Below a w w' := by
  obtain ⟨W, hW⟩ : ∃ W, W = w.alloc (.cells #[(.int .i64 3), .int .i64 la, .int .i64 ln, .int .i64 ra, .int .i64 rn, .int .i64 n, .int .i64 u] 174) := ⟨_, rfl⟩
  have hb0 : Below w.heap.size w W := by rw [hW]; exact (Below.refl _ _).alloc (Nat.le_refl _) _
  have hal : a < w.heap.size := by obtain ⟨_, _, _, h3, _⟩ := h; exact h3
  have hz : W.heap.size = w.heap.size + 1 := by rw [hW]; simp
  have c5 := (h.below hb0).cells.2.2.2
  have x0 : W.cell? ⟨w.heap.size, 0, none⟩ = some (.int .i64 3) := by rw [hW]; simp
  have x1 : W.cell? ⟨w.heap.size, 1, none⟩ = some (.int .i64 la) := by rw [hW]; simp
  have x2 : W.cell? ⟨w.heap.size, 2, none⟩ = some (.int .i64 ln) := by rw [hW]; simp
  have x3 : W.cell? ⟨w.heap.size, 3, none⟩ = some (.int .i64 ra) := by rw [hW]; simp
  have x4 : W.cell? ⟨w.heap.size, 4, none⟩ = some (.int .i64 rn) := by rw [hW]; simp
  have KB := hide (fun (w' : World) (hb : Below W.heap.size W w') => (⟨(hb.cell (p := ⟨a, 5, none⟩) (by show a < _; omega)).trans c5, (hb.cell (p := ⟨w.heap.size, 0, none⟩) (by show w.heap.size < _; omega)).trans x0, (hb.cell (p := ⟨w.heap.size, 1, none⟩) (by show w.heap.size < _; omega)).trans x1, (hb.cell (p := ⟨w.heap.size, 2, none⟩) (by show w.heap.size < _; omega)).trans x2, (hb.cell (p := ⟨w.heap.size, 3, none⟩) (by show w.heap.size < _; omega)).trans x3, (hb.cell (p := ⟨w.heap.size, 4, none⟩) (by show w.heap.size < _; omega)).trans x4⟩ :
    w'.cell? ⟨a, 5, none⟩ = some (.func (.func k) #[] caps) ∧ w'.cell? ⟨w.heap.size, 0, none⟩ = some (.int .i64 3) ∧ w'.cell? ⟨w.heap.size, 1, none⟩ = some (.int .i64 la) ∧ w'.cell? ⟨w.heap.size, 2, none⟩ = some (.int .i64 ln) ∧ w'.cell? ⟨w.heap.size, 3, none⟩ = some (.int .i64 ra) ∧ w'.cell? ⟨w.heap.size, 4, none⟩ = some (.int .i64 rn)))
  have H := hide h
  have HW := hide hW
  have HB := hide hb0
  clear h hb0 hW
  go_enter Tryz.func107, Tryz.ntmps107
  go_wp2_with fail
  rw [← HW.out]
  have hS0 := KB.out W.drew ((Below.refl _ _).drew)
  refine wp_region_held (S := fun w' => w'.cell? ⟨a, 5, none⟩ = some (.func (.func k) #[] caps) ∧ w'.cell? ⟨w.heap.size, 0, none⟩ = some (.int .i64 3) ∧ w'.cell? ⟨w.heap.size, 1, none⟩ = some (.int .i64 la) ∧ w'.cell? ⟨w.heap.size, 2, none⟩ = some (.int .i64 ln) ∧ w'.cell? ⟨w.heap.size, 3, none⟩ = some (.int .i64 ra) ∧ w'.cell? ⟨w.heap.size, 4, none⟩ = some (.int .i64 rn)) (by kernel_rfl) ?_
  refine wpAnyH_take (i := 0) (v := .pointer (some ⟨a, 0, none⟩)) rfl (by kernel_rfl) (by kernel_rfl) (by kernel_rfl) (fun _ _ _ h => h) (Or.inl ⟨by rfl, ?_⟩) hS0 ?_
  · intro w hSw; obtain ⟨q0, q1, q2, q3, q4, q5⟩ := hSw; go_simp
  refine wpAnyH_take (i := 1) (v := .pointer (some ⟨w.heap.size, 0, none⟩)) rfl (by kernel_rfl) (by kernel_rfl) (by kernel_rfl) (fun _ _ _ h => h) (Or.inl ⟨by rfl, ?_⟩) hS0 ?_
  · intro w hSw; obtain ⟨q0, q1, q2, q3, q4, q5⟩ := hSw; go_simp
  refine wpAnyH_take (i := 2) (v := .int .i64 3) rfl (by kernel_rfl) (by kernel_rfl) (by kernel_rfl) (fun _ _ _ h => h) (Or.inl ⟨by rfl, ?_⟩) hS0 ?_
  · intro w hSw; obtain ⟨q0, q1, q2, q3, q4, q5⟩ := hSw; go_simp
  refine wpAnyH_take (i := 3) (v := .pointer (some ⟨a, 0, none⟩)) rfl (by kernel_rfl) (by kernel_rfl) (by kernel_rfl) (fun _ _ _ h => h) (Or.inl ⟨by rfl, ?_⟩) hS0 ?_
  · intro w hSw; obtain ⟨q0, q1, q2, q3, q4, q5⟩ := hSw; go_simp
  refine wpAnyH_take (i := 4) (v := .pointer (some ⟨a, 0, none⟩)) rfl (by kernel_rfl) (by kernel_rfl) (by kernel_rfl) (fun _ _ _ h => h) (Or.inl ⟨by rfl, ?_⟩) hS0 ?_
  · intro w hSw; obtain ⟨q0, q1, q2, q3, q4, q5⟩ := hSw; go_simp
  refine wpAnyH_take (i := 5) (v := .pointer (some ⟨a, 5, none⟩)) rfl (by kernel_rfl) (by kernel_rfl) (by kernel_rfl) (fun _ _ _ h => h) (Or.inl ⟨by rfl, ?_⟩) hS0 ?_
  · intro w hSw; obtain ⟨q0, q1, q2, q3, q4, q5⟩ := hSw; go_simp
  refine wpAnyH_take (i := 6) (v := .func (.func k) #[] caps) rfl (by kernel_rfl) (by kernel_rfl) (by kernel_rfl) (fun _ _ _ h => h) (Or.inl ⟨by rfl, ?_⟩) hS0 ?_
  · intro w hSw; obtain ⟨q0, q1, q2, q3, q4, q5⟩ := hSw; go_simp
  refine wpAnyH_take (i := 7) (v := .pointer (some ⟨w.heap.size, 1, none⟩)) rfl (by kernel_rfl) (by kernel_rfl) (by kernel_rfl) (fun _ _ _ h => h) (Or.inl ⟨by rfl, ?_⟩) hS0 ?_
  · intro w hSw; obtain ⟨q0, q1, q2, q3, q4, q5⟩ := hSw; go_simp
  refine wpAnyH_take (i := 8) (v := .agg #[.int .i64 la, .int .i64 ln]) rfl (by kernel_rfl) (by kernel_rfl) (by kernel_rfl) (fun _ _ _ h => h) (Or.inl ⟨by rfl, ?_⟩) hS0 ?_
  · intro w hSw; obtain ⟨q0, q1, q2, q3, q4, q5⟩ := hSw; go_simp
  refine wpAnyH_take (i := 9) (v := .pointer (some ⟨w.heap.size, 3, none⟩)) rfl (by kernel_rfl) (by kernel_rfl) (by kernel_rfl) (fun _ _ _ h => h) (Or.inl ⟨by rfl, ?_⟩) hS0 ?_
  · intro w hSw; obtain ⟨q0, q1, q2, q3, q4, q5⟩ := hSw; go_simp
  refine wpAnyH_take (i := 10) (v := .agg #[.int .i64 ra, .int .i64 rn]) rfl (by kernel_rfl) (by kernel_rfl) (by kernel_rfl) (fun _ _ _ h => h) (Or.inl ⟨by rfl, ?_⟩) hS0 ?_
  · intro w hSw; obtain ⟨q0, q1, q2, q3, q4, q5⟩ := hSw; go_simp
  refine wpAnyH_ready (rs := [11]) (by kernel_rfl) (by simp) ?_
  refine AllReadyH.cons (o := _) rfl (fun K hK => ?_) AllReadyH.nil
  go_simp
  refine (HL.out _ HB.out.drew).mono ?_
  rintro e w1 ⟨rfl, hb1⟩
  have hbW1 : Below W.heap.size W w1 := (Below.refl W.heap.size W).drew.trans hb1
  exact ⟨rfl, rfl, (HB.out.mono (Nat.le_of_lt hal)).trans (hbW1.mono (by omega))⟩
set_option maxRecDepth 100000 in
set_option maxHeartbeats 4000000 in
theorem stepCmp4 (la ln ra rn n u c : Int) (a k : Nat) (caps : Array Value) (vv : Value) (o d : Int) (dv cv : Value) (L : List Bool) (w : World) (h : AskAt w a w.heap.size vv o d dv cv (.func (.func k) #[] caps) L) (hL : L.length ≤ 1000)
    (hcf : ∀ (args : Array Value) (w : World), (callFunc k args).run Tryz.prog w = .ok (.enter k args) w)
    (HL : Hid (∀ w', Below w.heap.size w w' → Calls Tryz.prog k (#[.agg #[.int .i64 la, .int .i64 ln], .agg #[.int .i64 ra, .int .i64 rn]] ++ caps) w' fun e w'' => e = .returned (.int .i64 c) ∧ Below w'.heap.size w' w'')) :
    Calls Tryz.prog 107 #[.pointer (some ⟨a, 0, none⟩), instVal 4 la ln ra rn n u] w (StepPost a vv o d dv cv (.func (.func k) #[] caps) (L ++ [soB 4 c]) w) := by
  obtain ⟨W, hW⟩ : ∃ W, W = w.alloc (.cells #[(.int .i64 4), .int .i64 la, .int .i64 ln, .int .i64 ra, .int .i64 rn, .int .i64 n, .int .i64 u] 174) := ⟨_, rfl⟩
  have hb0 : Below w.heap.size w W := by rw [hW]; exact (Below.refl _ _).alloc (Nat.le_refl _) _
  have hal : a < w.heap.size := by obtain ⟨_, _, _, h3, _⟩ := h; exact h3
  have hz : W.heap.size = w.heap.size + 1 := by rw [hW]; simp
  have c5 := (h.below hb0).cells.2.2.2
  have x0 : W.cell? ⟨w.heap.size, 0, none⟩ = some (.int .i64 4) := by rw [hW]; simp
  have x1 : W.cell? ⟨w.heap.size, 1, none⟩ = some (.int .i64 la) := by rw [hW]; simp
  have x2 : W.cell? ⟨w.heap.size, 2, none⟩ = some (.int .i64 ln) := by rw [hW]; simp
  have x3 : W.cell? ⟨w.heap.size, 3, none⟩ = some (.int .i64 ra) := by rw [hW]; simp
  have x4 : W.cell? ⟨w.heap.size, 4, none⟩ = some (.int .i64 rn) := by rw [hW]; simp
  have KB := hide (fun (w' : World) (hb : Below W.heap.size W w') => (⟨(hb.cell (p := ⟨a, 5, none⟩) (by show a < _; omega)).trans c5, (hb.cell (p := ⟨w.heap.size, 0, none⟩) (by show w.heap.size < _; omega)).trans x0, (hb.cell (p := ⟨w.heap.size, 1, none⟩) (by show w.heap.size < _; omega)).trans x1, (hb.cell (p := ⟨w.heap.size, 2, none⟩) (by show w.heap.size < _; omega)).trans x2, (hb.cell (p := ⟨w.heap.size, 3, none⟩) (by show w.heap.size < _; omega)).trans x3, (hb.cell (p := ⟨w.heap.size, 4, none⟩) (by show w.heap.size < _; omega)).trans x4⟩ :
    w'.cell? ⟨a, 5, none⟩ = some (.func (.func k) #[] caps) ∧ w'.cell? ⟨w.heap.size, 0, none⟩ = some (.int .i64 4) ∧ w'.cell? ⟨w.heap.size, 1, none⟩ = some (.int .i64 la) ∧ w'.cell? ⟨w.heap.size, 2, none⟩ = some (.int .i64 ln) ∧ w'.cell? ⟨w.heap.size, 3, none⟩ = some (.int .i64 ra) ∧ w'.cell? ⟨w.heap.size, 4, none⟩ = some (.int .i64 rn)))
  have KP := hide (fun (w1 w2 : World) (hb : Below W.heap.size W w1) (ha : AskAt w2 a w2.heap.size vv o d dv cv (.func (.func k) #[] caps) (L ++ [soB 4 c])) (hp : Past w.heap.size w1 w2) => by
    obtain ⟨q0, q1, q2, q3, q4, q5⟩ := KB.out w1 hb
    have hs : w.heap.size < w1.heap.size := by have := hb.size; omega
    exact (⟨ha.cells.2.2.2, (hp.cell (Nat.le_refl _) hs).trans q1, (hp.cell (Nat.le_refl _) hs).trans q2, (hp.cell (Nat.le_refl _) hs).trans q3, (hp.cell (Nat.le_refl _) hs).trans q4, (hp.cell (Nat.le_refl _) hs).trans q5⟩ :
      w2.cell? ⟨a, 5, none⟩ = some (.func (.func k) #[] caps) ∧ w2.cell? ⟨w.heap.size, 0, none⟩ = some (.int .i64 4) ∧ w2.cell? ⟨w.heap.size, 1, none⟩ = some (.int .i64 la) ∧ w2.cell? ⟨w.heap.size, 2, none⟩ = some (.int .i64 ln) ∧ w2.cell? ⟨w.heap.size, 3, none⟩ = some (.int .i64 ra) ∧ w2.cell? ⟨w.heap.size, 4, none⟩ = some (.int .i64 rn)))
  have H := hide h
  have HW := hide hW
  have HB := hide hb0
  clear h hb0 hW
  go_enter Tryz.func107, Tryz.ntmps107
  go_wp2_with fail
  rw [← HW.out]
  have hS0 := KB.out W.drew ((Below.refl _ _).drew)
  go_region_held3 (fun w' => w'.cell? ⟨a, 5, none⟩ = some (.func (.func k) #[] caps) ∧ w'.cell? ⟨w.heap.size, 0, none⟩ = some (.int .i64 4) ∧ w'.cell? ⟨w.heap.size, 1, none⟩ = some (.int .i64 la) ∧ w'.cell? ⟨w.heap.size, 2, none⟩ = some (.int .i64 ln) ∧ w'.cell? ⟨w.heap.size, 3, none⟩ = some (.int .i64 ra) ∧ w'.cell? ⟨w.heap.size, 4, none⟩ = some (.int .i64 rn)) (assumption)
    (first
      | (go_at_call 121; refine (so_any _ _ _).mono ?_; rintro e w' ⟨rfl, rfl⟩)
      | (go_at_call 120; (with_reducible refine (askPush a w.heap.size vv o d dv cv _ L _ _ (H.out.below hbw1) hL).mono ?_); rintro e w2 ⟨rfl, ha, hbl, hsz, hpast⟩; have K2 := KP.out _ _ hbW1 ha hpast)
      | ((with_reducible refine (HL.out _ HB.out.drew).mono ?_); rintro e w1 ⟨rfl, hb1⟩; have hbW1 : Below W.heap.size W w1 := (Below.refl W.heap.size W).drew.trans hb1; have K1 := KB.out w1 hbW1; have hbw1 : Below w.heap.size w w1 := HB.out.trans (hbW1.mono HB.out.size)))
  all_goals
    go_wp2_with fail
    go_end0
    exact ⟨rfl, ha, (hbw1.mono (Nat.le_of_lt hal)).trans hbl, Nat.le_trans hbw1.size hsz⟩
set_option maxRecDepth 100000 in
set_option maxHeartbeats 4000000 in
theorem stepNo4 (la ln ra rn n u : Int) (a k : Nat) (caps : Array Value) (vv : Value) (o d : Int) (dv cv : Value) (L : List Bool) (w : World) (h : AskAt w a w.heap.size vv o d dv cv (.func (.func k) #[] caps) L) (hL : L.length ≤ 1000)
    (hcf : ∀ (args : Array Value) (w : World), (callFunc k args).run Tryz.prog w = .ok (.enter k args) w)
    (HL : Hid (∀ w', Below w.heap.size w w' → Calls Tryz.prog k (#[.agg #[.int .i64 la, .int .i64 ln], .agg #[.int .i64 ra, .int .i64 rn]] ++ caps) w' fun e w'' => e = .panicked lostP ∧ Below w'.heap.size w' w'')) :
    Calls Tryz.prog 107 #[.pointer (some ⟨a, 0, none⟩), instVal 4 la ln ra rn n u] w fun e w' => e = .panicked lostP ∧ Below a w w' := by
  obtain ⟨W, hW⟩ : ∃ W, W = w.alloc (.cells #[(.int .i64 4), .int .i64 la, .int .i64 ln, .int .i64 ra, .int .i64 rn, .int .i64 n, .int .i64 u] 174) := ⟨_, rfl⟩
  have hb0 : Below w.heap.size w W := by rw [hW]; exact (Below.refl _ _).alloc (Nat.le_refl _) _
  have hal : a < w.heap.size := by obtain ⟨_, _, _, h3, _⟩ := h; exact h3
  have hz : W.heap.size = w.heap.size + 1 := by rw [hW]; simp
  have c5 := (h.below hb0).cells.2.2.2
  have x0 : W.cell? ⟨w.heap.size, 0, none⟩ = some (.int .i64 4) := by rw [hW]; simp
  have x1 : W.cell? ⟨w.heap.size, 1, none⟩ = some (.int .i64 la) := by rw [hW]; simp
  have x2 : W.cell? ⟨w.heap.size, 2, none⟩ = some (.int .i64 ln) := by rw [hW]; simp
  have x3 : W.cell? ⟨w.heap.size, 3, none⟩ = some (.int .i64 ra) := by rw [hW]; simp
  have x4 : W.cell? ⟨w.heap.size, 4, none⟩ = some (.int .i64 rn) := by rw [hW]; simp
  have KB := hide (fun (w' : World) (hb : Below W.heap.size W w') => (⟨(hb.cell (p := ⟨a, 5, none⟩) (by show a < _; omega)).trans c5, (hb.cell (p := ⟨w.heap.size, 0, none⟩) (by show w.heap.size < _; omega)).trans x0, (hb.cell (p := ⟨w.heap.size, 1, none⟩) (by show w.heap.size < _; omega)).trans x1, (hb.cell (p := ⟨w.heap.size, 2, none⟩) (by show w.heap.size < _; omega)).trans x2, (hb.cell (p := ⟨w.heap.size, 3, none⟩) (by show w.heap.size < _; omega)).trans x3, (hb.cell (p := ⟨w.heap.size, 4, none⟩) (by show w.heap.size < _; omega)).trans x4⟩ :
    w'.cell? ⟨a, 5, none⟩ = some (.func (.func k) #[] caps) ∧ w'.cell? ⟨w.heap.size, 0, none⟩ = some (.int .i64 4) ∧ w'.cell? ⟨w.heap.size, 1, none⟩ = some (.int .i64 la) ∧ w'.cell? ⟨w.heap.size, 2, none⟩ = some (.int .i64 ln) ∧ w'.cell? ⟨w.heap.size, 3, none⟩ = some (.int .i64 ra) ∧ w'.cell? ⟨w.heap.size, 4, none⟩ = some (.int .i64 rn)))
  have H := hide h
  have HW := hide hW
  have HB := hide hb0
  clear h hb0 hW
  go_enter Tryz.func107, Tryz.ntmps107
  go_wp2_with fail
  rw [← HW.out]
  have hS0 := KB.out W.drew ((Below.refl _ _).drew)
  refine wp_region_held (S := fun w' => w'.cell? ⟨a, 5, none⟩ = some (.func (.func k) #[] caps) ∧ w'.cell? ⟨w.heap.size, 0, none⟩ = some (.int .i64 4) ∧ w'.cell? ⟨w.heap.size, 1, none⟩ = some (.int .i64 la) ∧ w'.cell? ⟨w.heap.size, 2, none⟩ = some (.int .i64 ln) ∧ w'.cell? ⟨w.heap.size, 3, none⟩ = some (.int .i64 ra) ∧ w'.cell? ⟨w.heap.size, 4, none⟩ = some (.int .i64 rn)) (by kernel_rfl) ?_
  refine wpAnyH_take (i := 0) (v := .pointer (some ⟨a, 0, none⟩)) rfl (by kernel_rfl) (by kernel_rfl) (by kernel_rfl) (fun _ _ _ h => h) (Or.inl ⟨by rfl, ?_⟩) hS0 ?_
  · intro w hSw; obtain ⟨q0, q1, q2, q3, q4, q5⟩ := hSw; go_simp
  refine wpAnyH_take (i := 1) (v := .pointer (some ⟨w.heap.size, 0, none⟩)) rfl (by kernel_rfl) (by kernel_rfl) (by kernel_rfl) (fun _ _ _ h => h) (Or.inl ⟨by rfl, ?_⟩) hS0 ?_
  · intro w hSw; obtain ⟨q0, q1, q2, q3, q4, q5⟩ := hSw; go_simp
  refine wpAnyH_take (i := 2) (v := .int .i64 4) rfl (by kernel_rfl) (by kernel_rfl) (by kernel_rfl) (fun _ _ _ h => h) (Or.inl ⟨by rfl, ?_⟩) hS0 ?_
  · intro w hSw; obtain ⟨q0, q1, q2, q3, q4, q5⟩ := hSw; go_simp
  refine wpAnyH_take (i := 3) (v := .pointer (some ⟨a, 0, none⟩)) rfl (by kernel_rfl) (by kernel_rfl) (by kernel_rfl) (fun _ _ _ h => h) (Or.inl ⟨by rfl, ?_⟩) hS0 ?_
  · intro w hSw; obtain ⟨q0, q1, q2, q3, q4, q5⟩ := hSw; go_simp
  refine wpAnyH_take (i := 4) (v := .pointer (some ⟨a, 0, none⟩)) rfl (by kernel_rfl) (by kernel_rfl) (by kernel_rfl) (fun _ _ _ h => h) (Or.inl ⟨by rfl, ?_⟩) hS0 ?_
  · intro w hSw; obtain ⟨q0, q1, q2, q3, q4, q5⟩ := hSw; go_simp
  refine wpAnyH_take (i := 5) (v := .pointer (some ⟨a, 5, none⟩)) rfl (by kernel_rfl) (by kernel_rfl) (by kernel_rfl) (fun _ _ _ h => h) (Or.inl ⟨by rfl, ?_⟩) hS0 ?_
  · intro w hSw; obtain ⟨q0, q1, q2, q3, q4, q5⟩ := hSw; go_simp
  refine wpAnyH_take (i := 6) (v := .func (.func k) #[] caps) rfl (by kernel_rfl) (by kernel_rfl) (by kernel_rfl) (fun _ _ _ h => h) (Or.inl ⟨by rfl, ?_⟩) hS0 ?_
  · intro w hSw; obtain ⟨q0, q1, q2, q3, q4, q5⟩ := hSw; go_simp
  refine wpAnyH_take (i := 7) (v := .pointer (some ⟨w.heap.size, 1, none⟩)) rfl (by kernel_rfl) (by kernel_rfl) (by kernel_rfl) (fun _ _ _ h => h) (Or.inl ⟨by rfl, ?_⟩) hS0 ?_
  · intro w hSw; obtain ⟨q0, q1, q2, q3, q4, q5⟩ := hSw; go_simp
  refine wpAnyH_take (i := 8) (v := .agg #[.int .i64 la, .int .i64 ln]) rfl (by kernel_rfl) (by kernel_rfl) (by kernel_rfl) (fun _ _ _ h => h) (Or.inl ⟨by rfl, ?_⟩) hS0 ?_
  · intro w hSw; obtain ⟨q0, q1, q2, q3, q4, q5⟩ := hSw; go_simp
  refine wpAnyH_take (i := 9) (v := .pointer (some ⟨w.heap.size, 3, none⟩)) rfl (by kernel_rfl) (by kernel_rfl) (by kernel_rfl) (fun _ _ _ h => h) (Or.inl ⟨by rfl, ?_⟩) hS0 ?_
  · intro w hSw; obtain ⟨q0, q1, q2, q3, q4, q5⟩ := hSw; go_simp
  refine wpAnyH_take (i := 10) (v := .agg #[.int .i64 ra, .int .i64 rn]) rfl (by kernel_rfl) (by kernel_rfl) (by kernel_rfl) (fun _ _ _ h => h) (Or.inl ⟨by rfl, ?_⟩) hS0 ?_
  · intro w hSw; obtain ⟨q0, q1, q2, q3, q4, q5⟩ := hSw; go_simp
  refine wpAnyH_ready (rs := [11]) (by kernel_rfl) (by simp) ?_
  refine AllReadyH.cons (o := _) rfl (fun K hK => ?_) AllReadyH.nil
  go_simp
  refine (HL.out _ HB.out.drew).mono ?_
  rintro e w1 ⟨rfl, hb1⟩
  have hbW1 : Below W.heap.size W w1 := (Below.refl W.heap.size W).drew.trans hb1
  exact ⟨rfl, rfl, (HB.out.mono (Nat.le_of_lt hal)).trans (hbW1.mono (by omega))⟩
set_option maxRecDepth 100000 in
set_option maxHeartbeats 4000000 in
theorem stepCmp5 (la ln ra rn n u c : Int) (a k : Nat) (caps : Array Value) (vv : Value) (o d : Int) (dv cv : Value) (L : List Bool) (w : World) (h : AskAt w a w.heap.size vv o d dv cv (.func (.func k) #[] caps) L) (hL : L.length ≤ 1000)
    (hcf : ∀ (args : Array Value) (w : World), (callFunc k args).run Tryz.prog w = .ok (.enter k args) w)
    (HL : Hid (∀ w', Below w.heap.size w w' → Calls Tryz.prog k (#[.agg #[.int .i64 la, .int .i64 ln], .agg #[.int .i64 ra, .int .i64 rn]] ++ caps) w' fun e w'' => e = .returned (.int .i64 c) ∧ Below w'.heap.size w' w'')) :
    Calls Tryz.prog 107 #[.pointer (some ⟨a, 0, none⟩), instVal 5 la ln ra rn n u] w (StepPost a vv o d dv cv (.func (.func k) #[] caps) (L ++ [soB 5 c]) w) := by
  obtain ⟨W, hW⟩ : ∃ W, W = w.alloc (.cells #[(.int .i64 5), .int .i64 la, .int .i64 ln, .int .i64 ra, .int .i64 rn, .int .i64 n, .int .i64 u] 174) := ⟨_, rfl⟩
  have hb0 : Below w.heap.size w W := by rw [hW]; exact (Below.refl _ _).alloc (Nat.le_refl _) _
  have hal : a < w.heap.size := by obtain ⟨_, _, _, h3, _⟩ := h; exact h3
  have hz : W.heap.size = w.heap.size + 1 := by rw [hW]; simp
  have c5 := (h.below hb0).cells.2.2.2
  have x0 : W.cell? ⟨w.heap.size, 0, none⟩ = some (.int .i64 5) := by rw [hW]; simp
  have x1 : W.cell? ⟨w.heap.size, 1, none⟩ = some (.int .i64 la) := by rw [hW]; simp
  have x2 : W.cell? ⟨w.heap.size, 2, none⟩ = some (.int .i64 ln) := by rw [hW]; simp
  have x3 : W.cell? ⟨w.heap.size, 3, none⟩ = some (.int .i64 ra) := by rw [hW]; simp
  have x4 : W.cell? ⟨w.heap.size, 4, none⟩ = some (.int .i64 rn) := by rw [hW]; simp
  have KB := hide (fun (w' : World) (hb : Below W.heap.size W w') => (⟨(hb.cell (p := ⟨a, 5, none⟩) (by show a < _; omega)).trans c5, (hb.cell (p := ⟨w.heap.size, 0, none⟩) (by show w.heap.size < _; omega)).trans x0, (hb.cell (p := ⟨w.heap.size, 1, none⟩) (by show w.heap.size < _; omega)).trans x1, (hb.cell (p := ⟨w.heap.size, 2, none⟩) (by show w.heap.size < _; omega)).trans x2, (hb.cell (p := ⟨w.heap.size, 3, none⟩) (by show w.heap.size < _; omega)).trans x3, (hb.cell (p := ⟨w.heap.size, 4, none⟩) (by show w.heap.size < _; omega)).trans x4⟩ :
    w'.cell? ⟨a, 5, none⟩ = some (.func (.func k) #[] caps) ∧ w'.cell? ⟨w.heap.size, 0, none⟩ = some (.int .i64 5) ∧ w'.cell? ⟨w.heap.size, 1, none⟩ = some (.int .i64 la) ∧ w'.cell? ⟨w.heap.size, 2, none⟩ = some (.int .i64 ln) ∧ w'.cell? ⟨w.heap.size, 3, none⟩ = some (.int .i64 ra) ∧ w'.cell? ⟨w.heap.size, 4, none⟩ = some (.int .i64 rn)))
  have KP := hide (fun (w1 w2 : World) (hb : Below W.heap.size W w1) (ha : AskAt w2 a w2.heap.size vv o d dv cv (.func (.func k) #[] caps) (L ++ [soB 5 c])) (hp : Past w.heap.size w1 w2) => by
    obtain ⟨q0, q1, q2, q3, q4, q5⟩ := KB.out w1 hb
    have hs : w.heap.size < w1.heap.size := by have := hb.size; omega
    exact (⟨ha.cells.2.2.2, (hp.cell (Nat.le_refl _) hs).trans q1, (hp.cell (Nat.le_refl _) hs).trans q2, (hp.cell (Nat.le_refl _) hs).trans q3, (hp.cell (Nat.le_refl _) hs).trans q4, (hp.cell (Nat.le_refl _) hs).trans q5⟩ :
      w2.cell? ⟨a, 5, none⟩ = some (.func (.func k) #[] caps) ∧ w2.cell? ⟨w.heap.size, 0, none⟩ = some (.int .i64 5) ∧ w2.cell? ⟨w.heap.size, 1, none⟩ = some (.int .i64 la) ∧ w2.cell? ⟨w.heap.size, 2, none⟩ = some (.int .i64 ln) ∧ w2.cell? ⟨w.heap.size, 3, none⟩ = some (.int .i64 ra) ∧ w2.cell? ⟨w.heap.size, 4, none⟩ = some (.int .i64 rn)))
  have H := hide h
  have HW := hide hW
  have HB := hide hb0
  clear h hb0 hW
  go_enter Tryz.func107, Tryz.ntmps107
  go_wp2_with fail
  rw [← HW.out]
  have hS0 := KB.out W.drew ((Below.refl _ _).drew)
  go_region_held3 (fun w' => w'.cell? ⟨a, 5, none⟩ = some (.func (.func k) #[] caps) ∧ w'.cell? ⟨w.heap.size, 0, none⟩ = some (.int .i64 5) ∧ w'.cell? ⟨w.heap.size, 1, none⟩ = some (.int .i64 la) ∧ w'.cell? ⟨w.heap.size, 2, none⟩ = some (.int .i64 ln) ∧ w'.cell? ⟨w.heap.size, 3, none⟩ = some (.int .i64 ra) ∧ w'.cell? ⟨w.heap.size, 4, none⟩ = some (.int .i64 rn)) (assumption)
    (first
      | (go_at_call 121; refine (so_any _ _ _).mono ?_; rintro e w' ⟨rfl, rfl⟩)
      | (go_at_call 120; (with_reducible refine (askPush a w.heap.size vv o d dv cv _ L _ _ (H.out.below hbw1) hL).mono ?_); rintro e w2 ⟨rfl, ha, hbl, hsz, hpast⟩; have K2 := KP.out _ _ hbW1 ha hpast)
      | ((with_reducible refine (HL.out _ HB.out.drew).mono ?_); rintro e w1 ⟨rfl, hb1⟩; have hbW1 : Below W.heap.size W w1 := (Below.refl W.heap.size W).drew.trans hb1; have K1 := KB.out w1 hbW1; have hbw1 : Below w.heap.size w w1 := HB.out.trans (hbW1.mono HB.out.size)))
  all_goals
    go_wp2_with fail
    go_end0
    exact ⟨rfl, ha, (hbw1.mono (Nat.le_of_lt hal)).trans hbl, Nat.le_trans hbw1.size hsz⟩
set_option maxRecDepth 100000 in
set_option maxHeartbeats 4000000 in
theorem stepNo5 (la ln ra rn n u : Int) (a k : Nat) (caps : Array Value) (vv : Value) (o d : Int) (dv cv : Value) (L : List Bool) (w : World) (h : AskAt w a w.heap.size vv o d dv cv (.func (.func k) #[] caps) L) (hL : L.length ≤ 1000)
    (hcf : ∀ (args : Array Value) (w : World), (callFunc k args).run Tryz.prog w = .ok (.enter k args) w)
    (HL : Hid (∀ w', Below w.heap.size w w' → Calls Tryz.prog k (#[.agg #[.int .i64 la, .int .i64 ln], .agg #[.int .i64 ra, .int .i64 rn]] ++ caps) w' fun e w'' => e = .panicked lostP ∧ Below w'.heap.size w' w'')) :
    Calls Tryz.prog 107 #[.pointer (some ⟨a, 0, none⟩), instVal 5 la ln ra rn n u] w fun e w' => e = .panicked lostP ∧ Below a w w' := by
  obtain ⟨W, hW⟩ : ∃ W, W = w.alloc (.cells #[(.int .i64 5), .int .i64 la, .int .i64 ln, .int .i64 ra, .int .i64 rn, .int .i64 n, .int .i64 u] 174) := ⟨_, rfl⟩
  have hb0 : Below w.heap.size w W := by rw [hW]; exact (Below.refl _ _).alloc (Nat.le_refl _) _
  have hal : a < w.heap.size := by obtain ⟨_, _, _, h3, _⟩ := h; exact h3
  have hz : W.heap.size = w.heap.size + 1 := by rw [hW]; simp
  have c5 := (h.below hb0).cells.2.2.2
  have x0 : W.cell? ⟨w.heap.size, 0, none⟩ = some (.int .i64 5) := by rw [hW]; simp
  have x1 : W.cell? ⟨w.heap.size, 1, none⟩ = some (.int .i64 la) := by rw [hW]; simp
  have x2 : W.cell? ⟨w.heap.size, 2, none⟩ = some (.int .i64 ln) := by rw [hW]; simp
  have x3 : W.cell? ⟨w.heap.size, 3, none⟩ = some (.int .i64 ra) := by rw [hW]; simp
  have x4 : W.cell? ⟨w.heap.size, 4, none⟩ = some (.int .i64 rn) := by rw [hW]; simp
  have KB := hide (fun (w' : World) (hb : Below W.heap.size W w') => (⟨(hb.cell (p := ⟨a, 5, none⟩) (by show a < _; omega)).trans c5, (hb.cell (p := ⟨w.heap.size, 0, none⟩) (by show w.heap.size < _; omega)).trans x0, (hb.cell (p := ⟨w.heap.size, 1, none⟩) (by show w.heap.size < _; omega)).trans x1, (hb.cell (p := ⟨w.heap.size, 2, none⟩) (by show w.heap.size < _; omega)).trans x2, (hb.cell (p := ⟨w.heap.size, 3, none⟩) (by show w.heap.size < _; omega)).trans x3, (hb.cell (p := ⟨w.heap.size, 4, none⟩) (by show w.heap.size < _; omega)).trans x4⟩ :
    w'.cell? ⟨a, 5, none⟩ = some (.func (.func k) #[] caps) ∧ w'.cell? ⟨w.heap.size, 0, none⟩ = some (.int .i64 5) ∧ w'.cell? ⟨w.heap.size, 1, none⟩ = some (.int .i64 la) ∧ w'.cell? ⟨w.heap.size, 2, none⟩ = some (.int .i64 ln) ∧ w'.cell? ⟨w.heap.size, 3, none⟩ = some (.int .i64 ra) ∧ w'.cell? ⟨w.heap.size, 4, none⟩ = some (.int .i64 rn)))
  have H := hide h
  have HW := hide hW
  have HB := hide hb0
  clear h hb0 hW
  go_enter Tryz.func107, Tryz.ntmps107
  go_wp2_with fail
  rw [← HW.out]
  have hS0 := KB.out W.drew ((Below.refl _ _).drew)
  refine wp_region_held (S := fun w' => w'.cell? ⟨a, 5, none⟩ = some (.func (.func k) #[] caps) ∧ w'.cell? ⟨w.heap.size, 0, none⟩ = some (.int .i64 5) ∧ w'.cell? ⟨w.heap.size, 1, none⟩ = some (.int .i64 la) ∧ w'.cell? ⟨w.heap.size, 2, none⟩ = some (.int .i64 ln) ∧ w'.cell? ⟨w.heap.size, 3, none⟩ = some (.int .i64 ra) ∧ w'.cell? ⟨w.heap.size, 4, none⟩ = some (.int .i64 rn)) (by kernel_rfl) ?_
  refine wpAnyH_take (i := 0) (v := .pointer (some ⟨a, 0, none⟩)) rfl (by kernel_rfl) (by kernel_rfl) (by kernel_rfl) (fun _ _ _ h => h) (Or.inl ⟨by rfl, ?_⟩) hS0 ?_
  · intro w hSw; obtain ⟨q0, q1, q2, q3, q4, q5⟩ := hSw; go_simp
  refine wpAnyH_take (i := 1) (v := .pointer (some ⟨w.heap.size, 0, none⟩)) rfl (by kernel_rfl) (by kernel_rfl) (by kernel_rfl) (fun _ _ _ h => h) (Or.inl ⟨by rfl, ?_⟩) hS0 ?_
  · intro w hSw; obtain ⟨q0, q1, q2, q3, q4, q5⟩ := hSw; go_simp
  refine wpAnyH_take (i := 2) (v := .int .i64 5) rfl (by kernel_rfl) (by kernel_rfl) (by kernel_rfl) (fun _ _ _ h => h) (Or.inl ⟨by rfl, ?_⟩) hS0 ?_
  · intro w hSw; obtain ⟨q0, q1, q2, q3, q4, q5⟩ := hSw; go_simp
  refine wpAnyH_take (i := 3) (v := .pointer (some ⟨a, 0, none⟩)) rfl (by kernel_rfl) (by kernel_rfl) (by kernel_rfl) (fun _ _ _ h => h) (Or.inl ⟨by rfl, ?_⟩) hS0 ?_
  · intro w hSw; obtain ⟨q0, q1, q2, q3, q4, q5⟩ := hSw; go_simp
  refine wpAnyH_take (i := 4) (v := .pointer (some ⟨a, 0, none⟩)) rfl (by kernel_rfl) (by kernel_rfl) (by kernel_rfl) (fun _ _ _ h => h) (Or.inl ⟨by rfl, ?_⟩) hS0 ?_
  · intro w hSw; obtain ⟨q0, q1, q2, q3, q4, q5⟩ := hSw; go_simp
  refine wpAnyH_take (i := 5) (v := .pointer (some ⟨a, 5, none⟩)) rfl (by kernel_rfl) (by kernel_rfl) (by kernel_rfl) (fun _ _ _ h => h) (Or.inl ⟨by rfl, ?_⟩) hS0 ?_
  · intro w hSw; obtain ⟨q0, q1, q2, q3, q4, q5⟩ := hSw; go_simp
  refine wpAnyH_take (i := 6) (v := .func (.func k) #[] caps) rfl (by kernel_rfl) (by kernel_rfl) (by kernel_rfl) (fun _ _ _ h => h) (Or.inl ⟨by rfl, ?_⟩) hS0 ?_
  · intro w hSw; obtain ⟨q0, q1, q2, q3, q4, q5⟩ := hSw; go_simp
  refine wpAnyH_take (i := 7) (v := .pointer (some ⟨w.heap.size, 1, none⟩)) rfl (by kernel_rfl) (by kernel_rfl) (by kernel_rfl) (fun _ _ _ h => h) (Or.inl ⟨by rfl, ?_⟩) hS0 ?_
  · intro w hSw; obtain ⟨q0, q1, q2, q3, q4, q5⟩ := hSw; go_simp
  refine wpAnyH_take (i := 8) (v := .agg #[.int .i64 la, .int .i64 ln]) rfl (by kernel_rfl) (by kernel_rfl) (by kernel_rfl) (fun _ _ _ h => h) (Or.inl ⟨by rfl, ?_⟩) hS0 ?_
  · intro w hSw; obtain ⟨q0, q1, q2, q3, q4, q5⟩ := hSw; go_simp
  refine wpAnyH_take (i := 9) (v := .pointer (some ⟨w.heap.size, 3, none⟩)) rfl (by kernel_rfl) (by kernel_rfl) (by kernel_rfl) (fun _ _ _ h => h) (Or.inl ⟨by rfl, ?_⟩) hS0 ?_
  · intro w hSw; obtain ⟨q0, q1, q2, q3, q4, q5⟩ := hSw; go_simp
  refine wpAnyH_take (i := 10) (v := .agg #[.int .i64 ra, .int .i64 rn]) rfl (by kernel_rfl) (by kernel_rfl) (by kernel_rfl) (fun _ _ _ h => h) (Or.inl ⟨by rfl, ?_⟩) hS0 ?_
  · intro w hSw; obtain ⟨q0, q1, q2, q3, q4, q5⟩ := hSw; go_simp
  refine wpAnyH_ready (rs := [11]) (by kernel_rfl) (by simp) ?_
  refine AllReadyH.cons (o := _) rfl (fun K hK => ?_) AllReadyH.nil
  go_simp
  refine (HL.out _ HB.out.drew).mono ?_
  rintro e w1 ⟨rfl, hb1⟩
  have hbW1 : Below W.heap.size W w1 := (Below.refl W.heap.size W).drew.trans hb1
  exact ⟨rfl, rfl, (HB.out.mono (Nat.le_of_lt hal)).trans (hbW1.mono (by omega))⟩
set_option maxRecDepth 100000 in
set_option maxHeartbeats 4000000 in
theorem stepCmp6 (la ln ra rn n u c : Int) (a k : Nat) (caps : Array Value) (vv : Value) (o d : Int) (dv cv : Value) (L : List Bool) (w : World) (h : AskAt w a w.heap.size vv o d dv cv (.func (.func k) #[] caps) L) (hL : L.length ≤ 1000)
    (hcf : ∀ (args : Array Value) (w : World), (callFunc k args).run Tryz.prog w = .ok (.enter k args) w)
    (HL : Hid (∀ w', Below w.heap.size w w' → Calls Tryz.prog k (#[.agg #[.int .i64 la, .int .i64 ln], .agg #[.int .i64 ra, .int .i64 rn]] ++ caps) w' fun e w'' => e = .returned (.int .i64 c) ∧ Below w'.heap.size w' w'')) :
    Calls Tryz.prog 107 #[.pointer (some ⟨a, 0, none⟩), instVal 6 la ln ra rn n u] w (StepPost a vv o d dv cv (.func (.func k) #[] caps) (L ++ [soB 6 c]) w) := by
  obtain ⟨W, hW⟩ : ∃ W, W = w.alloc (.cells #[(.int .i64 6), .int .i64 la, .int .i64 ln, .int .i64 ra, .int .i64 rn, .int .i64 n, .int .i64 u] 174) := ⟨_, rfl⟩
  have hb0 : Below w.heap.size w W := by rw [hW]; exact (Below.refl _ _).alloc (Nat.le_refl _) _
  have hal : a < w.heap.size := by obtain ⟨_, _, _, h3, _⟩ := h; exact h3
  have hz : W.heap.size = w.heap.size + 1 := by rw [hW]; simp
  have c5 := (h.below hb0).cells.2.2.2
  have x0 : W.cell? ⟨w.heap.size, 0, none⟩ = some (.int .i64 6) := by rw [hW]; simp
  have x1 : W.cell? ⟨w.heap.size, 1, none⟩ = some (.int .i64 la) := by rw [hW]; simp
  have x2 : W.cell? ⟨w.heap.size, 2, none⟩ = some (.int .i64 ln) := by rw [hW]; simp
  have x3 : W.cell? ⟨w.heap.size, 3, none⟩ = some (.int .i64 ra) := by rw [hW]; simp
  have x4 : W.cell? ⟨w.heap.size, 4, none⟩ = some (.int .i64 rn) := by rw [hW]; simp
  have KB := hide (fun (w' : World) (hb : Below W.heap.size W w') => (⟨(hb.cell (p := ⟨a, 5, none⟩) (by show a < _; omega)).trans c5, (hb.cell (p := ⟨w.heap.size, 0, none⟩) (by show w.heap.size < _; omega)).trans x0, (hb.cell (p := ⟨w.heap.size, 1, none⟩) (by show w.heap.size < _; omega)).trans x1, (hb.cell (p := ⟨w.heap.size, 2, none⟩) (by show w.heap.size < _; omega)).trans x2, (hb.cell (p := ⟨w.heap.size, 3, none⟩) (by show w.heap.size < _; omega)).trans x3, (hb.cell (p := ⟨w.heap.size, 4, none⟩) (by show w.heap.size < _; omega)).trans x4⟩ :
    w'.cell? ⟨a, 5, none⟩ = some (.func (.func k) #[] caps) ∧ w'.cell? ⟨w.heap.size, 0, none⟩ = some (.int .i64 6) ∧ w'.cell? ⟨w.heap.size, 1, none⟩ = some (.int .i64 la) ∧ w'.cell? ⟨w.heap.size, 2, none⟩ = some (.int .i64 ln) ∧ w'.cell? ⟨w.heap.size, 3, none⟩ = some (.int .i64 ra) ∧ w'.cell? ⟨w.heap.size, 4, none⟩ = some (.int .i64 rn)))
  have KP := hide (fun (w1 w2 : World) (hb : Below W.heap.size W w1) (ha : AskAt w2 a w2.heap.size vv o d dv cv (.func (.func k) #[] caps) (L ++ [soB 6 c])) (hp : Past w.heap.size w1 w2) => by
    obtain ⟨q0, q1, q2, q3, q4, q5⟩ := KB.out w1 hb
    have hs : w.heap.size < w1.heap.size := by have := hb.size; omega
    exact (⟨ha.cells.2.2.2, (hp.cell (Nat.le_refl _) hs).trans q1, (hp.cell (Nat.le_refl _) hs).trans q2, (hp.cell (Nat.le_refl _) hs).trans q3, (hp.cell (Nat.le_refl _) hs).trans q4, (hp.cell (Nat.le_refl _) hs).trans q5⟩ :
      w2.cell? ⟨a, 5, none⟩ = some (.func (.func k) #[] caps) ∧ w2.cell? ⟨w.heap.size, 0, none⟩ = some (.int .i64 6) ∧ w2.cell? ⟨w.heap.size, 1, none⟩ = some (.int .i64 la) ∧ w2.cell? ⟨w.heap.size, 2, none⟩ = some (.int .i64 ln) ∧ w2.cell? ⟨w.heap.size, 3, none⟩ = some (.int .i64 ra) ∧ w2.cell? ⟨w.heap.size, 4, none⟩ = some (.int .i64 rn)))
  have H := hide h
  have HW := hide hW
  have HB := hide hb0
  clear h hb0 hW
  go_enter Tryz.func107, Tryz.ntmps107
  go_wp2_with fail
  rw [← HW.out]
  have hS0 := KB.out W.drew ((Below.refl _ _).drew)
  go_region_held3 (fun w' => w'.cell? ⟨a, 5, none⟩ = some (.func (.func k) #[] caps) ∧ w'.cell? ⟨w.heap.size, 0, none⟩ = some (.int .i64 6) ∧ w'.cell? ⟨w.heap.size, 1, none⟩ = some (.int .i64 la) ∧ w'.cell? ⟨w.heap.size, 2, none⟩ = some (.int .i64 ln) ∧ w'.cell? ⟨w.heap.size, 3, none⟩ = some (.int .i64 ra) ∧ w'.cell? ⟨w.heap.size, 4, none⟩ = some (.int .i64 rn)) (assumption)
    (first
      | (go_at_call 121; refine (so_any _ _ _).mono ?_; rintro e w' ⟨rfl, rfl⟩)
      | (go_at_call 120; (with_reducible refine (askPush a w.heap.size vv o d dv cv _ L _ _ (H.out.below hbw1) hL).mono ?_); rintro e w2 ⟨rfl, ha, hbl, hsz, hpast⟩; have K2 := KP.out _ _ hbW1 ha hpast)
      | ((with_reducible refine (HL.out _ HB.out.drew).mono ?_); rintro e w1 ⟨rfl, hb1⟩; have hbW1 : Below W.heap.size W w1 := (Below.refl W.heap.size W).drew.trans hb1; have K1 := KB.out w1 hbW1; have hbw1 : Below w.heap.size w w1 := HB.out.trans (hbW1.mono HB.out.size)))
  all_goals
    go_wp2_with fail
    go_end0
    exact ⟨rfl, ha, (hbw1.mono (Nat.le_of_lt hal)).trans hbl, Nat.le_trans hbw1.size hsz⟩
set_option maxRecDepth 100000 in
set_option maxHeartbeats 4000000 in
theorem stepNo6 (la ln ra rn n u : Int) (a k : Nat) (caps : Array Value) (vv : Value) (o d : Int) (dv cv : Value) (L : List Bool) (w : World) (h : AskAt w a w.heap.size vv o d dv cv (.func (.func k) #[] caps) L) (hL : L.length ≤ 1000)
    (hcf : ∀ (args : Array Value) (w : World), (callFunc k args).run Tryz.prog w = .ok (.enter k args) w)
    (HL : Hid (∀ w', Below w.heap.size w w' → Calls Tryz.prog k (#[.agg #[.int .i64 la, .int .i64 ln], .agg #[.int .i64 ra, .int .i64 rn]] ++ caps) w' fun e w'' => e = .panicked lostP ∧ Below w'.heap.size w' w'')) :
    Calls Tryz.prog 107 #[.pointer (some ⟨a, 0, none⟩), instVal 6 la ln ra rn n u] w fun e w' => e = .panicked lostP ∧ Below a w w' := by
  obtain ⟨W, hW⟩ : ∃ W, W = w.alloc (.cells #[(.int .i64 6), .int .i64 la, .int .i64 ln, .int .i64 ra, .int .i64 rn, .int .i64 n, .int .i64 u] 174) := ⟨_, rfl⟩
  have hb0 : Below w.heap.size w W := by rw [hW]; exact (Below.refl _ _).alloc (Nat.le_refl _) _
  have hal : a < w.heap.size := by obtain ⟨_, _, _, h3, _⟩ := h; exact h3
  have hz : W.heap.size = w.heap.size + 1 := by rw [hW]; simp
  have c5 := (h.below hb0).cells.2.2.2
  have x0 : W.cell? ⟨w.heap.size, 0, none⟩ = some (.int .i64 6) := by rw [hW]; simp
  have x1 : W.cell? ⟨w.heap.size, 1, none⟩ = some (.int .i64 la) := by rw [hW]; simp
  have x2 : W.cell? ⟨w.heap.size, 2, none⟩ = some (.int .i64 ln) := by rw [hW]; simp
  have x3 : W.cell? ⟨w.heap.size, 3, none⟩ = some (.int .i64 ra) := by rw [hW]; simp
  have x4 : W.cell? ⟨w.heap.size, 4, none⟩ = some (.int .i64 rn) := by rw [hW]; simp
  have KB := hide (fun (w' : World) (hb : Below W.heap.size W w') => (⟨(hb.cell (p := ⟨a, 5, none⟩) (by show a < _; omega)).trans c5, (hb.cell (p := ⟨w.heap.size, 0, none⟩) (by show w.heap.size < _; omega)).trans x0, (hb.cell (p := ⟨w.heap.size, 1, none⟩) (by show w.heap.size < _; omega)).trans x1, (hb.cell (p := ⟨w.heap.size, 2, none⟩) (by show w.heap.size < _; omega)).trans x2, (hb.cell (p := ⟨w.heap.size, 3, none⟩) (by show w.heap.size < _; omega)).trans x3, (hb.cell (p := ⟨w.heap.size, 4, none⟩) (by show w.heap.size < _; omega)).trans x4⟩ :
    w'.cell? ⟨a, 5, none⟩ = some (.func (.func k) #[] caps) ∧ w'.cell? ⟨w.heap.size, 0, none⟩ = some (.int .i64 6) ∧ w'.cell? ⟨w.heap.size, 1, none⟩ = some (.int .i64 la) ∧ w'.cell? ⟨w.heap.size, 2, none⟩ = some (.int .i64 ln) ∧ w'.cell? ⟨w.heap.size, 3, none⟩ = some (.int .i64 ra) ∧ w'.cell? ⟨w.heap.size, 4, none⟩ = some (.int .i64 rn)))
  have H := hide h
  have HW := hide hW
  have HB := hide hb0
  clear h hb0 hW
  go_enter Tryz.func107, Tryz.ntmps107
  go_wp2_with fail
  rw [← HW.out]
  have hS0 := KB.out W.drew ((Below.refl _ _).drew)
  refine wp_region_held (S := fun w' => w'.cell? ⟨a, 5, none⟩ = some (.func (.func k) #[] caps) ∧ w'.cell? ⟨w.heap.size, 0, none⟩ = some (.int .i64 6) ∧ w'.cell? ⟨w.heap.size, 1, none⟩ = some (.int .i64 la) ∧ w'.cell? ⟨w.heap.size, 2, none⟩ = some (.int .i64 ln) ∧ w'.cell? ⟨w.heap.size, 3, none⟩ = some (.int .i64 ra) ∧ w'.cell? ⟨w.heap.size, 4, none⟩ = some (.int .i64 rn)) (by kernel_rfl) ?_
  refine wpAnyH_take (i := 0) (v := .pointer (some ⟨a, 0, none⟩)) rfl (by kernel_rfl) (by kernel_rfl) (by kernel_rfl) (fun _ _ _ h => h) (Or.inl ⟨by rfl, ?_⟩) hS0 ?_
  · intro w hSw; obtain ⟨q0, q1, q2, q3, q4, q5⟩ := hSw; go_simp
  refine wpAnyH_take (i := 1) (v := .pointer (some ⟨w.heap.size, 0, none⟩)) rfl (by kernel_rfl) (by kernel_rfl) (by kernel_rfl) (fun _ _ _ h => h) (Or.inl ⟨by rfl, ?_⟩) hS0 ?_
  · intro w hSw; obtain ⟨q0, q1, q2, q3, q4, q5⟩ := hSw; go_simp
  refine wpAnyH_take (i := 2) (v := .int .i64 6) rfl (by kernel_rfl) (by kernel_rfl) (by kernel_rfl) (fun _ _ _ h => h) (Or.inl ⟨by rfl, ?_⟩) hS0 ?_
  · intro w hSw; obtain ⟨q0, q1, q2, q3, q4, q5⟩ := hSw; go_simp
  refine wpAnyH_take (i := 3) (v := .pointer (some ⟨a, 0, none⟩)) rfl (by kernel_rfl) (by kernel_rfl) (by kernel_rfl) (fun _ _ _ h => h) (Or.inl ⟨by rfl, ?_⟩) hS0 ?_
  · intro w hSw; obtain ⟨q0, q1, q2, q3, q4, q5⟩ := hSw; go_simp
  refine wpAnyH_take (i := 4) (v := .pointer (some ⟨a, 0, none⟩)) rfl (by kernel_rfl) (by kernel_rfl) (by kernel_rfl) (fun _ _ _ h => h) (Or.inl ⟨by rfl, ?_⟩) hS0 ?_
  · intro w hSw; obtain ⟨q0, q1, q2, q3, q4, q5⟩ := hSw; go_simp
  refine wpAnyH_take (i := 5) (v := .pointer (some ⟨a, 5, none⟩)) rfl (by kernel_rfl) (by kernel_rfl) (by kernel_rfl) (fun _ _ _ h => h) (Or.inl ⟨by rfl, ?_⟩) hS0 ?_
  · intro w hSw; obtain ⟨q0, q1, q2, q3, q4, q5⟩ := hSw; go_simp
  refine wpAnyH_take (i := 6) (v := .func (.func k) #[] caps) rfl (by kernel_rfl) (by kernel_rfl) (by kernel_rfl) (fun _ _ _ h => h) (Or.inl ⟨by rfl, ?_⟩) hS0 ?_
  · intro w hSw; obtain ⟨q0, q1, q2, q3, q4, q5⟩ := hSw; go_simp
  refine wpAnyH_take (i := 7) (v := .pointer (some ⟨w.heap.size, 1, none⟩)) rfl (by kernel_rfl) (by kernel_rfl) (by kernel_rfl) (fun _ _ _ h => h) (Or.inl ⟨by rfl, ?_⟩) hS0 ?_
  · intro w hSw; obtain ⟨q0, q1, q2, q3, q4, q5⟩ := hSw; go_simp
  refine wpAnyH_take (i := 8) (v := .agg #[.int .i64 la, .int .i64 ln]) rfl (by kernel_rfl) (by kernel_rfl) (by kernel_rfl) (fun _ _ _ h => h) (Or.inl ⟨by rfl, ?_⟩) hS0 ?_
  · intro w hSw; obtain ⟨q0, q1, q2, q3, q4, q5⟩ := hSw; go_simp
  refine wpAnyH_take (i := 9) (v := .pointer (some ⟨w.heap.size, 3, none⟩)) rfl (by kernel_rfl) (by kernel_rfl) (by kernel_rfl) (fun _ _ _ h => h) (Or.inl ⟨by rfl, ?_⟩) hS0 ?_
  · intro w hSw; obtain ⟨q0, q1, q2, q3, q4, q5⟩ := hSw; go_simp
  refine wpAnyH_take (i := 10) (v := .agg #[.int .i64 ra, .int .i64 rn]) rfl (by kernel_rfl) (by kernel_rfl) (by kernel_rfl) (fun _ _ _ h => h) (Or.inl ⟨by rfl, ?_⟩) hS0 ?_
  · intro w hSw; obtain ⟨q0, q1, q2, q3, q4, q5⟩ := hSw; go_simp
  refine wpAnyH_ready (rs := [11]) (by kernel_rfl) (by simp) ?_
  refine AllReadyH.cons (o := _) rfl (fun K hK => ?_) AllReadyH.nil
  go_simp
  refine (HL.out _ HB.out.drew).mono ?_
  rintro e w1 ⟨rfl, hb1⟩
  have hbW1 : Below W.heap.size W w1 := (Below.refl W.heap.size W).drew.trans hb1
  exact ⟨rfl, rfl, (HB.out.mono (Nat.le_of_lt hal)).trans (hbW1.mono (by omega))⟩
set_option maxRecDepth 100000 in
set_option maxHeartbeats 4000000 in
theorem stepCmp7 (la ln ra rn n u c : Int) (a k : Nat) (caps : Array Value) (vv : Value) (o d : Int) (dv cv : Value) (L : List Bool) (w : World) (h : AskAt w a w.heap.size vv o d dv cv (.func (.func k) #[] caps) L) (hL : L.length ≤ 1000)
    (hcf : ∀ (args : Array Value) (w : World), (callFunc k args).run Tryz.prog w = .ok (.enter k args) w)
    (HL : Hid (∀ w', Below w.heap.size w w' → Calls Tryz.prog k (#[.agg #[.int .i64 la, .int .i64 ln], .agg #[.int .i64 ra, .int .i64 rn]] ++ caps) w' fun e w'' => e = .returned (.int .i64 c) ∧ Below w'.heap.size w' w'')) :
    Calls Tryz.prog 107 #[.pointer (some ⟨a, 0, none⟩), instVal 7 la ln ra rn n u] w (StepPost a vv o d dv cv (.func (.func k) #[] caps) (L ++ [soB 7 c]) w) := by
  obtain ⟨W, hW⟩ : ∃ W, W = w.alloc (.cells #[(.int .i64 7), .int .i64 la, .int .i64 ln, .int .i64 ra, .int .i64 rn, .int .i64 n, .int .i64 u] 174) := ⟨_, rfl⟩
  have hb0 : Below w.heap.size w W := by rw [hW]; exact (Below.refl _ _).alloc (Nat.le_refl _) _
  have hal : a < w.heap.size := by obtain ⟨_, _, _, h3, _⟩ := h; exact h3
  have hz : W.heap.size = w.heap.size + 1 := by rw [hW]; simp
  have c5 := (h.below hb0).cells.2.2.2
  have x0 : W.cell? ⟨w.heap.size, 0, none⟩ = some (.int .i64 7) := by rw [hW]; simp
  have x1 : W.cell? ⟨w.heap.size, 1, none⟩ = some (.int .i64 la) := by rw [hW]; simp
  have x2 : W.cell? ⟨w.heap.size, 2, none⟩ = some (.int .i64 ln) := by rw [hW]; simp
  have x3 : W.cell? ⟨w.heap.size, 3, none⟩ = some (.int .i64 ra) := by rw [hW]; simp
  have x4 : W.cell? ⟨w.heap.size, 4, none⟩ = some (.int .i64 rn) := by rw [hW]; simp
  have KB := hide (fun (w' : World) (hb : Below W.heap.size W w') => (⟨(hb.cell (p := ⟨a, 5, none⟩) (by show a < _; omega)).trans c5, (hb.cell (p := ⟨w.heap.size, 0, none⟩) (by show w.heap.size < _; omega)).trans x0, (hb.cell (p := ⟨w.heap.size, 1, none⟩) (by show w.heap.size < _; omega)).trans x1, (hb.cell (p := ⟨w.heap.size, 2, none⟩) (by show w.heap.size < _; omega)).trans x2, (hb.cell (p := ⟨w.heap.size, 3, none⟩) (by show w.heap.size < _; omega)).trans x3, (hb.cell (p := ⟨w.heap.size, 4, none⟩) (by show w.heap.size < _; omega)).trans x4⟩ :
    w'.cell? ⟨a, 5, none⟩ = some (.func (.func k) #[] caps) ∧ w'.cell? ⟨w.heap.size, 0, none⟩ = some (.int .i64 7) ∧ w'.cell? ⟨w.heap.size, 1, none⟩ = some (.int .i64 la) ∧ w'.cell? ⟨w.heap.size, 2, none⟩ = some (.int .i64 ln) ∧ w'.cell? ⟨w.heap.size, 3, none⟩ = some (.int .i64 ra) ∧ w'.cell? ⟨w.heap.size, 4, none⟩ = some (.int .i64 rn)))
  have KP := hide (fun (w1 w2 : World) (hb : Below W.heap.size W w1) (ha : AskAt w2 a w2.heap.size vv o d dv cv (.func (.func k) #[] caps) (L ++ [soB 7 c])) (hp : Past w.heap.size w1 w2) => by
    obtain ⟨q0, q1, q2, q3, q4, q5⟩ := KB.out w1 hb
    have hs : w.heap.size < w1.heap.size := by have := hb.size; omega
    exact (⟨ha.cells.2.2.2, (hp.cell (Nat.le_refl _) hs).trans q1, (hp.cell (Nat.le_refl _) hs).trans q2, (hp.cell (Nat.le_refl _) hs).trans q3, (hp.cell (Nat.le_refl _) hs).trans q4, (hp.cell (Nat.le_refl _) hs).trans q5⟩ :
      w2.cell? ⟨a, 5, none⟩ = some (.func (.func k) #[] caps) ∧ w2.cell? ⟨w.heap.size, 0, none⟩ = some (.int .i64 7) ∧ w2.cell? ⟨w.heap.size, 1, none⟩ = some (.int .i64 la) ∧ w2.cell? ⟨w.heap.size, 2, none⟩ = some (.int .i64 ln) ∧ w2.cell? ⟨w.heap.size, 3, none⟩ = some (.int .i64 ra) ∧ w2.cell? ⟨w.heap.size, 4, none⟩ = some (.int .i64 rn)))
  have H := hide h
  have HW := hide hW
  have HB := hide hb0
  clear h hb0 hW
  go_enter Tryz.func107, Tryz.ntmps107
  go_wp2_with fail
  rw [← HW.out]
  have hS0 := KB.out W.drew ((Below.refl _ _).drew)
  go_region_held3 (fun w' => w'.cell? ⟨a, 5, none⟩ = some (.func (.func k) #[] caps) ∧ w'.cell? ⟨w.heap.size, 0, none⟩ = some (.int .i64 7) ∧ w'.cell? ⟨w.heap.size, 1, none⟩ = some (.int .i64 la) ∧ w'.cell? ⟨w.heap.size, 2, none⟩ = some (.int .i64 ln) ∧ w'.cell? ⟨w.heap.size, 3, none⟩ = some (.int .i64 ra) ∧ w'.cell? ⟨w.heap.size, 4, none⟩ = some (.int .i64 rn)) (assumption)
    (first
      | (go_at_call 121; refine (so_any _ _ _).mono ?_; rintro e w' ⟨rfl, rfl⟩)
      | (go_at_call 120; (with_reducible refine (askPush a w.heap.size vv o d dv cv _ L _ _ (H.out.below hbw1) hL).mono ?_); rintro e w2 ⟨rfl, ha, hbl, hsz, hpast⟩; have K2 := KP.out _ _ hbW1 ha hpast)
      | ((with_reducible refine (HL.out _ HB.out.drew).mono ?_); rintro e w1 ⟨rfl, hb1⟩; have hbW1 : Below W.heap.size W w1 := (Below.refl W.heap.size W).drew.trans hb1; have K1 := KB.out w1 hbW1; have hbw1 : Below w.heap.size w w1 := HB.out.trans (hbW1.mono HB.out.size)))
  all_goals
    go_wp2_with fail
    go_end0
    exact ⟨rfl, ha, (hbw1.mono (Nat.le_of_lt hal)).trans hbl, Nat.le_trans hbw1.size hsz⟩
set_option maxRecDepth 100000 in
set_option maxHeartbeats 4000000 in
theorem stepNo7 (la ln ra rn n u : Int) (a k : Nat) (caps : Array Value) (vv : Value) (o d : Int) (dv cv : Value) (L : List Bool) (w : World) (h : AskAt w a w.heap.size vv o d dv cv (.func (.func k) #[] caps) L) (hL : L.length ≤ 1000)
    (hcf : ∀ (args : Array Value) (w : World), (callFunc k args).run Tryz.prog w = .ok (.enter k args) w)
    (HL : Hid (∀ w', Below w.heap.size w w' → Calls Tryz.prog k (#[.agg #[.int .i64 la, .int .i64 ln], .agg #[.int .i64 ra, .int .i64 rn]] ++ caps) w' fun e w'' => e = .panicked lostP ∧ Below w'.heap.size w' w'')) :
    Calls Tryz.prog 107 #[.pointer (some ⟨a, 0, none⟩), instVal 7 la ln ra rn n u] w fun e w' => e = .panicked lostP ∧ Below a w w' := by
  obtain ⟨W, hW⟩ : ∃ W, W = w.alloc (.cells #[(.int .i64 7), .int .i64 la, .int .i64 ln, .int .i64 ra, .int .i64 rn, .int .i64 n, .int .i64 u] 174) := ⟨_, rfl⟩
  have hb0 : Below w.heap.size w W := by rw [hW]; exact (Below.refl _ _).alloc (Nat.le_refl _) _
  have hal : a < w.heap.size := by obtain ⟨_, _, _, h3, _⟩ := h; exact h3
  have hz : W.heap.size = w.heap.size + 1 := by rw [hW]; simp
  have c5 := (h.below hb0).cells.2.2.2
  have x0 : W.cell? ⟨w.heap.size, 0, none⟩ = some (.int .i64 7) := by rw [hW]; simp
  have x1 : W.cell? ⟨w.heap.size, 1, none⟩ = some (.int .i64 la) := by rw [hW]; simp
  have x2 : W.cell? ⟨w.heap.size, 2, none⟩ = some (.int .i64 ln) := by rw [hW]; simp
  have x3 : W.cell? ⟨w.heap.size, 3, none⟩ = some (.int .i64 ra) := by rw [hW]; simp
  have x4 : W.cell? ⟨w.heap.size, 4, none⟩ = some (.int .i64 rn) := by rw [hW]; simp
  have KB := hide (fun (w' : World) (hb : Below W.heap.size W w') => (⟨(hb.cell (p := ⟨a, 5, none⟩) (by show a < _; omega)).trans c5, (hb.cell (p := ⟨w.heap.size, 0, none⟩) (by show w.heap.size < _; omega)).trans x0, (hb.cell (p := ⟨w.heap.size, 1, none⟩) (by show w.heap.size < _; omega)).trans x1, (hb.cell (p := ⟨w.heap.size, 2, none⟩) (by show w.heap.size < _; omega)).trans x2, (hb.cell (p := ⟨w.heap.size, 3, none⟩) (by show w.heap.size < _; omega)).trans x3, (hb.cell (p := ⟨w.heap.size, 4, none⟩) (by show w.heap.size < _; omega)).trans x4⟩ :
    w'.cell? ⟨a, 5, none⟩ = some (.func (.func k) #[] caps) ∧ w'.cell? ⟨w.heap.size, 0, none⟩ = some (.int .i64 7) ∧ w'.cell? ⟨w.heap.size, 1, none⟩ = some (.int .i64 la) ∧ w'.cell? ⟨w.heap.size, 2, none⟩ = some (.int .i64 ln) ∧ w'.cell? ⟨w.heap.size, 3, none⟩ = some (.int .i64 ra) ∧ w'.cell? ⟨w.heap.size, 4, none⟩ = some (.int .i64 rn)))
  have H := hide h
  have HW := hide hW
  have HB := hide hb0
  clear h hb0 hW
  go_enter Tryz.func107, Tryz.ntmps107
  go_wp2_with fail
  rw [← HW.out]
  have hS0 := KB.out W.drew ((Below.refl _ _).drew)
  refine wp_region_held (S := fun w' => w'.cell? ⟨a, 5, none⟩ = some (.func (.func k) #[] caps) ∧ w'.cell? ⟨w.heap.size, 0, none⟩ = some (.int .i64 7) ∧ w'.cell? ⟨w.heap.size, 1, none⟩ = some (.int .i64 la) ∧ w'.cell? ⟨w.heap.size, 2, none⟩ = some (.int .i64 ln) ∧ w'.cell? ⟨w.heap.size, 3, none⟩ = some (.int .i64 ra) ∧ w'.cell? ⟨w.heap.size, 4, none⟩ = some (.int .i64 rn)) (by kernel_rfl) ?_
  refine wpAnyH_take (i := 0) (v := .pointer (some ⟨a, 0, none⟩)) rfl (by kernel_rfl) (by kernel_rfl) (by kernel_rfl) (fun _ _ _ h => h) (Or.inl ⟨by rfl, ?_⟩) hS0 ?_
  · intro w hSw; obtain ⟨q0, q1, q2, q3, q4, q5⟩ := hSw; go_simp
  refine wpAnyH_take (i := 1) (v := .pointer (some ⟨w.heap.size, 0, none⟩)) rfl (by kernel_rfl) (by kernel_rfl) (by kernel_rfl) (fun _ _ _ h => h) (Or.inl ⟨by rfl, ?_⟩) hS0 ?_
  · intro w hSw; obtain ⟨q0, q1, q2, q3, q4, q5⟩ := hSw; go_simp
  refine wpAnyH_take (i := 2) (v := .int .i64 7) rfl (by kernel_rfl) (by kernel_rfl) (by kernel_rfl) (fun _ _ _ h => h) (Or.inl ⟨by rfl, ?_⟩) hS0 ?_
  · intro w hSw; obtain ⟨q0, q1, q2, q3, q4, q5⟩ := hSw; go_simp
  refine wpAnyH_take (i := 3) (v := .pointer (some ⟨a, 0, none⟩)) rfl (by kernel_rfl) (by kernel_rfl) (by kernel_rfl) (fun _ _ _ h => h) (Or.inl ⟨by rfl, ?_⟩) hS0 ?_
  · intro w hSw; obtain ⟨q0, q1, q2, q3, q4, q5⟩ := hSw; go_simp
  refine wpAnyH_take (i := 4) (v := .pointer (some ⟨a, 0, none⟩)) rfl (by kernel_rfl) (by kernel_rfl) (by kernel_rfl) (fun _ _ _ h => h) (Or.inl ⟨by rfl, ?_⟩) hS0 ?_
  · intro w hSw; obtain ⟨q0, q1, q2, q3, q4, q5⟩ := hSw; go_simp
  refine wpAnyH_take (i := 5) (v := .pointer (some ⟨a, 5, none⟩)) rfl (by kernel_rfl) (by kernel_rfl) (by kernel_rfl) (fun _ _ _ h => h) (Or.inl ⟨by rfl, ?_⟩) hS0 ?_
  · intro w hSw; obtain ⟨q0, q1, q2, q3, q4, q5⟩ := hSw; go_simp
  refine wpAnyH_take (i := 6) (v := .func (.func k) #[] caps) rfl (by kernel_rfl) (by kernel_rfl) (by kernel_rfl) (fun _ _ _ h => h) (Or.inl ⟨by rfl, ?_⟩) hS0 ?_
  · intro w hSw; obtain ⟨q0, q1, q2, q3, q4, q5⟩ := hSw; go_simp
  refine wpAnyH_take (i := 7) (v := .pointer (some ⟨w.heap.size, 1, none⟩)) rfl (by kernel_rfl) (by kernel_rfl) (by kernel_rfl) (fun _ _ _ h => h) (Or.inl ⟨by rfl, ?_⟩) hS0 ?_
  · intro w hSw; obtain ⟨q0, q1, q2, q3, q4, q5⟩ := hSw; go_simp
  refine wpAnyH_take (i := 8) (v := .agg #[.int .i64 la, .int .i64 ln]) rfl (by kernel_rfl) (by kernel_rfl) (by kernel_rfl) (fun _ _ _ h => h) (Or.inl ⟨by rfl, ?_⟩) hS0 ?_
  · intro w hSw; obtain ⟨q0, q1, q2, q3, q4, q5⟩ := hSw; go_simp
  refine wpAnyH_take (i := 9) (v := .pointer (some ⟨w.heap.size, 3, none⟩)) rfl (by kernel_rfl) (by kernel_rfl) (by kernel_rfl) (fun _ _ _ h => h) (Or.inl ⟨by rfl, ?_⟩) hS0 ?_
  · intro w hSw; obtain ⟨q0, q1, q2, q3, q4, q5⟩ := hSw; go_simp
  refine wpAnyH_take (i := 10) (v := .agg #[.int .i64 ra, .int .i64 rn]) rfl (by kernel_rfl) (by kernel_rfl) (by kernel_rfl) (fun _ _ _ h => h) (Or.inl ⟨by rfl, ?_⟩) hS0 ?_
  · intro w hSw; obtain ⟨q0, q1, q2, q3, q4, q5⟩ := hSw; go_simp
  refine wpAnyH_ready (rs := [11]) (by kernel_rfl) (by simp) ?_
  refine AllReadyH.cons (o := _) rfl (fun K hK => ?_) AllReadyH.nil
  go_simp
  refine (HL.out _ HB.out.drew).mono ?_
  rintro e w1 ⟨rfl, hb1⟩
  have hbW1 : Below W.heap.size W w1 := (Below.refl W.heap.size W).drew.trans hb1
  exact ⟨rfl, rfl, (HB.out.mono (Nat.le_of_lt hal)).trans (hbW1.mono (by omega))⟩
set_option maxRecDepth 100000 in
set_option maxHeartbeats 4000000 in
theorem stepCmp8 (la ln ra rn n u c : Int) (a k : Nat) (caps : Array Value) (vv : Value) (o d : Int) (dv cv : Value) (L : List Bool) (w : World) (h : AskAt w a w.heap.size vv o d dv cv (.func (.func k) #[] caps) L) (hL : L.length ≤ 1000)
    (hcf : ∀ (args : Array Value) (w : World), (callFunc k args).run Tryz.prog w = .ok (.enter k args) w)
    (HL : Hid (∀ w', Below w.heap.size w w' → Calls Tryz.prog k (#[.agg #[.int .i64 la, .int .i64 ln], .agg #[.int .i64 ra, .int .i64 rn]] ++ caps) w' fun e w'' => e = .returned (.int .i64 c) ∧ Below w'.heap.size w' w'')) :
    Calls Tryz.prog 107 #[.pointer (some ⟨a, 0, none⟩), instVal 8 la ln ra rn n u] w (StepPost a vv o d dv cv (.func (.func k) #[] caps) (L ++ [soB 8 c]) w) := by
  obtain ⟨W, hW⟩ : ∃ W, W = w.alloc (.cells #[(.int .i64 8), .int .i64 la, .int .i64 ln, .int .i64 ra, .int .i64 rn, .int .i64 n, .int .i64 u] 174) := ⟨_, rfl⟩
  have hb0 : Below w.heap.size w W := by rw [hW]; exact (Below.refl _ _).alloc (Nat.le_refl _) _
  have hal : a < w.heap.size := by obtain ⟨_, _, _, h3, _⟩ := h; exact h3
  have hz : W.heap.size = w.heap.size + 1 := by rw [hW]; simp
  have c5 := (h.below hb0).cells.2.2.2
  have x0 : W.cell? ⟨w.heap.size, 0, none⟩ = some (.int .i64 8) := by rw [hW]; simp
  have x1 : W.cell? ⟨w.heap.size, 1, none⟩ = some (.int .i64 la) := by rw [hW]; simp
  have x2 : W.cell? ⟨w.heap.size, 2, none⟩ = some (.int .i64 ln) := by rw [hW]; simp
  have x3 : W.cell? ⟨w.heap.size, 3, none⟩ = some (.int .i64 ra) := by rw [hW]; simp
  have x4 : W.cell? ⟨w.heap.size, 4, none⟩ = some (.int .i64 rn) := by rw [hW]; simp
  have KB := hide (fun (w' : World) (hb : Below W.heap.size W w') => (⟨(hb.cell (p := ⟨a, 5, none⟩) (by show a < _; omega)).trans c5, (hb.cell (p := ⟨w.heap.size, 0, none⟩) (by show w.heap.size < _; omega)).trans x0, (hb.cell (p := ⟨w.heap.size, 1, none⟩) (by show w.heap.size < _; omega)).trans x1, (hb.cell (p := ⟨w.heap.size, 2, none⟩) (by show w.heap.size < _; omega)).trans x2, (hb.cell (p := ⟨w.heap.size, 3, none⟩) (by show w.heap.size < _; omega)).trans x3, (hb.cell (p := ⟨w.heap.size, 4, none⟩) (by show w.heap.size < _; omega)).trans x4⟩ :
    w'.cell? ⟨a, 5, none⟩ = some (.func (.func k) #[] caps) ∧ w'.cell? ⟨w.heap.size, 0, none⟩ = some (.int .i64 8) ∧ w'.cell? ⟨w.heap.size, 1, none⟩ = some (.int .i64 la) ∧ w'.cell? ⟨w.heap.size, 2, none⟩ = some (.int .i64 ln) ∧ w'.cell? ⟨w.heap.size, 3, none⟩ = some (.int .i64 ra) ∧ w'.cell? ⟨w.heap.size, 4, none⟩ = some (.int .i64 rn)))
  have KP := hide (fun (w1 w2 : World) (hb : Below W.heap.size W w1) (ha : AskAt w2 a w2.heap.size vv o d dv cv (.func (.func k) #[] caps) (L ++ [soB 8 c])) (hp : Past w.heap.size w1 w2) => by
    obtain ⟨q0, q1, q2, q3, q4, q5⟩ := KB.out w1 hb
    have hs : w.heap.size < w1.heap.size := by have := hb.size; omega
    exact (⟨ha.cells.2.2.2, (hp.cell (Nat.le_refl _) hs).trans q1, (hp.cell (Nat.le_refl _) hs).trans q2, (hp.cell (Nat.le_refl _) hs).trans q3, (hp.cell (Nat.le_refl _) hs).trans q4, (hp.cell (Nat.le_refl _) hs).trans q5⟩ :
      w2.cell? ⟨a, 5, none⟩ = some (.func (.func k) #[] caps) ∧ w2.cell? ⟨w.heap.size, 0, none⟩ = some (.int .i64 8) ∧ w2.cell? ⟨w.heap.size, 1, none⟩ = some (.int .i64 la) ∧ w2.cell? ⟨w.heap.size, 2, none⟩ = some (.int .i64 ln) ∧ w2.cell? ⟨w.heap.size, 3, none⟩ = some (.int .i64 ra) ∧ w2.cell? ⟨w.heap.size, 4, none⟩ = some (.int .i64 rn)))
  have H := hide h
  have HW := hide hW
  have HB := hide hb0
  clear h hb0 hW
  go_enter Tryz.func107, Tryz.ntmps107
  go_wp2_with fail
  rw [← HW.out]
  have hS0 := KB.out W.drew ((Below.refl _ _).drew)
  go_region_held3 (fun w' => w'.cell? ⟨a, 5, none⟩ = some (.func (.func k) #[] caps) ∧ w'.cell? ⟨w.heap.size, 0, none⟩ = some (.int .i64 8) ∧ w'.cell? ⟨w.heap.size, 1, none⟩ = some (.int .i64 la) ∧ w'.cell? ⟨w.heap.size, 2, none⟩ = some (.int .i64 ln) ∧ w'.cell? ⟨w.heap.size, 3, none⟩ = some (.int .i64 ra) ∧ w'.cell? ⟨w.heap.size, 4, none⟩ = some (.int .i64 rn)) (assumption)
    (first
      | (go_at_call 121; refine (so_any _ _ _).mono ?_; rintro e w' ⟨rfl, rfl⟩)
      | (go_at_call 120; (with_reducible refine (askPush a w.heap.size vv o d dv cv _ L _ _ (H.out.below hbw1) hL).mono ?_); rintro e w2 ⟨rfl, ha, hbl, hsz, hpast⟩; have K2 := KP.out _ _ hbW1 ha hpast)
      | ((with_reducible refine (HL.out _ HB.out.drew).mono ?_); rintro e w1 ⟨rfl, hb1⟩; have hbW1 : Below W.heap.size W w1 := (Below.refl W.heap.size W).drew.trans hb1; have K1 := KB.out w1 hbW1; have hbw1 : Below w.heap.size w w1 := HB.out.trans (hbW1.mono HB.out.size)))
  all_goals
    go_wp2_with fail
    go_end0
    exact ⟨rfl, ha, (hbw1.mono (Nat.le_of_lt hal)).trans hbl, Nat.le_trans hbw1.size hsz⟩
set_option maxRecDepth 100000 in
set_option maxHeartbeats 4000000 in
theorem stepNo8 (la ln ra rn n u : Int) (a k : Nat) (caps : Array Value) (vv : Value) (o d : Int) (dv cv : Value) (L : List Bool) (w : World) (h : AskAt w a w.heap.size vv o d dv cv (.func (.func k) #[] caps) L) (hL : L.length ≤ 1000)
    (hcf : ∀ (args : Array Value) (w : World), (callFunc k args).run Tryz.prog w = .ok (.enter k args) w)
    (HL : Hid (∀ w', Below w.heap.size w w' → Calls Tryz.prog k (#[.agg #[.int .i64 la, .int .i64 ln], .agg #[.int .i64 ra, .int .i64 rn]] ++ caps) w' fun e w'' => e = .panicked lostP ∧ Below w'.heap.size w' w'')) :
    Calls Tryz.prog 107 #[.pointer (some ⟨a, 0, none⟩), instVal 8 la ln ra rn n u] w fun e w' => e = .panicked lostP ∧ Below a w w' := by
  obtain ⟨W, hW⟩ : ∃ W, W = w.alloc (.cells #[(.int .i64 8), .int .i64 la, .int .i64 ln, .int .i64 ra, .int .i64 rn, .int .i64 n, .int .i64 u] 174) := ⟨_, rfl⟩
  have hb0 : Below w.heap.size w W := by rw [hW]; exact (Below.refl _ _).alloc (Nat.le_refl _) _
  have hal : a < w.heap.size := by obtain ⟨_, _, _, h3, _⟩ := h; exact h3
  have hz : W.heap.size = w.heap.size + 1 := by rw [hW]; simp
  have c5 := (h.below hb0).cells.2.2.2
  have x0 : W.cell? ⟨w.heap.size, 0, none⟩ = some (.int .i64 8) := by rw [hW]; simp
  have x1 : W.cell? ⟨w.heap.size, 1, none⟩ = some (.int .i64 la) := by rw [hW]; simp
  have x2 : W.cell? ⟨w.heap.size, 2, none⟩ = some (.int .i64 ln) := by rw [hW]; simp
  have x3 : W.cell? ⟨w.heap.size, 3, none⟩ = some (.int .i64 ra) := by rw [hW]; simp
  have x4 : W.cell? ⟨w.heap.size, 4, none⟩ = some (.int .i64 rn) := by rw [hW]; simp
  have KB := hide (fun (w' : World) (hb : Below W.heap.size W w') => (⟨(hb.cell (p := ⟨a, 5, none⟩) (by show a < _; omega)).trans c5, (hb.cell (p := ⟨w.heap.size, 0, none⟩) (by show w.heap.size < _; omega)).trans x0, (hb.cell (p := ⟨w.heap.size, 1, none⟩) (by show w.heap.size < _; omega)).trans x1, (hb.cell (p := ⟨w.heap.size, 2, none⟩) (by show w.heap.size < _; omega)).trans x2, (hb.cell (p := ⟨w.heap.size, 3, none⟩) (by show w.heap.size < _; omega)).trans x3, (hb.cell (p := ⟨w.heap.size, 4, none⟩) (by show w.heap.size < _; omega)).trans x4⟩ :
    w'.cell? ⟨a, 5, none⟩ = some (.func (.func k) #[] caps) ∧ w'.cell? ⟨w.heap.size, 0, none⟩ = some (.int .i64 8) ∧ w'.cell? ⟨w.heap.size, 1, none⟩ = some (.int .i64 la) ∧ w'.cell? ⟨w.heap.size, 2, none⟩ = some (.int .i64 ln) ∧ w'.cell? ⟨w.heap.size, 3, none⟩ = some (.int .i64 ra) ∧ w'.cell? ⟨w.heap.size, 4, none⟩ = some (.int .i64 rn)))
  have H := hide h
  have HW := hide hW
  have HB := hide hb0
  clear h hb0 hW
  go_enter Tryz.func107, Tryz.ntmps107
  go_wp2_with fail
  rw [← HW.out]
  have hS0 := KB.out W.drew ((Below.refl _ _).drew)
  refine wp_region_held (S := fun w' => w'.cell? ⟨a, 5, none⟩ = some (.func (.func k) #[] caps) ∧ w'.cell? ⟨w.heap.size, 0, none⟩ = some (.int .i64 8) ∧ w'.cell? ⟨w.heap.size, 1, none⟩ = some (.int .i64 la) ∧ w'.cell? ⟨w.heap.size, 2, none⟩ = some (.int .i64 ln) ∧ w'.cell? ⟨w.heap.size, 3, none⟩ = some (.int .i64 ra) ∧ w'.cell? ⟨w.heap.size, 4, none⟩ = some (.int .i64 rn)) (by kernel_rfl) ?_
  refine wpAnyH_take (i := 0) (v := .pointer (some ⟨a, 0, none⟩)) rfl (by kernel_rfl) (by kernel_rfl) (by kernel_rfl) (fun _ _ _ h => h) (Or.inl ⟨by rfl, ?_⟩) hS0 ?_
  · intro w hSw; obtain ⟨q0, q1, q2, q3, q4, q5⟩ := hSw; go_simp
  refine wpAnyH_take (i := 1) (v := .pointer (some ⟨w.heap.size, 0, none⟩)) rfl (by kernel_rfl) (by kernel_rfl) (by kernel_rfl) (fun _ _ _ h => h) (Or.inl ⟨by rfl, ?_⟩) hS0 ?_
  · intro w hSw; obtain ⟨q0, q1, q2, q3, q4, q5⟩ := hSw; go_simp
  refine wpAnyH_take (i := 2) (v := .int .i64 8) rfl (by kernel_rfl) (by kernel_rfl) (by kernel_rfl) (fun _ _ _ h => h) (Or.inl ⟨by rfl, ?_⟩) hS0 ?_
  · intro w hSw; obtain ⟨q0, q1, q2, q3, q4, q5⟩ := hSw; go_simp
  refine wpAnyH_take (i := 3) (v := .pointer (some ⟨a, 0, none⟩)) rfl (by kernel_rfl) (by kernel_rfl) (by kernel_rfl) (fun _ _ _ h => h) (Or.inl ⟨by rfl, ?_⟩) hS0 ?_
  · intro w hSw; obtain ⟨q0, q1, q2, q3, q4, q5⟩ := hSw; go_simp
  refine wpAnyH_take (i := 4) (v := .pointer (some ⟨a, 0, none⟩)) rfl (by kernel_rfl) (by kernel_rfl) (by kernel_rfl) (fun _ _ _ h => h) (Or.inl ⟨by rfl, ?_⟩) hS0 ?_
  · intro w hSw; obtain ⟨q0, q1, q2, q3, q4, q5⟩ := hSw; go_simp
  refine wpAnyH_take (i := 5) (v := .pointer (some ⟨a, 5, none⟩)) rfl (by kernel_rfl) (by kernel_rfl) (by kernel_rfl) (fun _ _ _ h => h) (Or.inl ⟨by rfl, ?_⟩) hS0 ?_
  · intro w hSw; obtain ⟨q0, q1, q2, q3, q4, q5⟩ := hSw; go_simp
  refine wpAnyH_take (i := 6) (v := .func (.func k) #[] caps) rfl (by kernel_rfl) (by kernel_rfl) (by kernel_rfl) (fun _ _ _ h => h) (Or.inl ⟨by rfl, ?_⟩) hS0 ?_
  · intro w hSw; obtain ⟨q0, q1, q2, q3, q4, q5⟩ := hSw; go_simp
  refine wpAnyH_take (i := 7) (v := .pointer (some ⟨w.heap.size, 1, none⟩)) rfl (by kernel_rfl) (by kernel_rfl) (by kernel_rfl) (fun _ _ _ h => h) (Or.inl ⟨by rfl, ?_⟩) hS0 ?_
  · intro w hSw; obtain ⟨q0, q1, q2, q3, q4, q5⟩ := hSw; go_simp
  refine wpAnyH_take (i := 8) (v := .agg #[.int .i64 la, .int .i64 ln]) rfl (by kernel_rfl) (by kernel_rfl) (by kernel_rfl) (fun _ _ _ h => h) (Or.inl ⟨by rfl, ?_⟩) hS0 ?_
  · intro w hSw; obtain ⟨q0, q1, q2, q3, q4, q5⟩ := hSw; go_simp
  refine wpAnyH_take (i := 9) (v := .pointer (some ⟨w.heap.size, 3, none⟩)) rfl (by kernel_rfl) (by kernel_rfl) (by kernel_rfl) (fun _ _ _ h => h) (Or.inl ⟨by rfl, ?_⟩) hS0 ?_
  · intro w hSw; obtain ⟨q0, q1, q2, q3, q4, q5⟩ := hSw; go_simp
  refine wpAnyH_take (i := 10) (v := .agg #[.int .i64 ra, .int .i64 rn]) rfl (by kernel_rfl) (by kernel_rfl) (by kernel_rfl) (fun _ _ _ h => h) (Or.inl ⟨by rfl, ?_⟩) hS0 ?_
  · intro w hSw; obtain ⟨q0, q1, q2, q3, q4, q5⟩ := hSw; go_simp
  refine wpAnyH_ready (rs := [11]) (by kernel_rfl) (by simp) ?_
  refine AllReadyH.cons (o := _) rfl (fun K hK => ?_) AllReadyH.nil
  go_simp
  refine (HL.out _ HB.out.drew).mono ?_
  rintro e w1 ⟨rfl, hb1⟩
  have hbW1 : Below W.heap.size W w1 := (Below.refl W.heap.size W).drew.trans hb1
  exact ⟨rfl, rfl, (HB.out.mono (Nat.le_of_lt hal)).trans (hbW1.mono (by omega))⟩
end
section
open Go.RowKit
set_option maxRecDepth 100000 in
set_option maxHeartbeats 4000000 in
theorem stepHas9 (la ln ra rn n u : Int) (a : Nat) (vv : Value) (o d : Int) (dv cv f : Value) (L : List Bool) (w : World) (h : AskAt w a w.heap.size vv o d dv cv f L) (hL : L.length ≤ 1000) :
    Calls Tryz.prog 107 #[.pointer (some ⟨a, 0, none⟩), instVal 9 la ln ra rn n u] w (StepPost a vv o d dv cv f (L ++ [hasB o n]) w) := by
  obtain ⟨W, hW⟩ : ∃ W, W = w.alloc (.cells #[.int .i64 9, .int .i64 la, .int .i64 ln, .int .i64 ra, .int .i64 rn, .int .i64 n, .int .i64 u] 174) := ⟨_, rfl⟩
  have hb0 : Below w.heap.size w W := by rw [hW]; exact (Below.refl _ _).alloc (Nat.le_refl _) _
  have hal : a < w.heap.size := by obtain ⟨_, _, _, h3, _⟩ := h; exact h3
  have hz : W.heap.size = w.heap.size + 1 := by rw [hW]; simp
  have c5 := (h.below hb0).cells.2.1
  have x0 : W.cell? ⟨w.heap.size, 5, none⟩ = some (.int .i64 n) := by rw [hW]; simp
  have KB := hide (fun (w' : World) (hb : Below W.heap.size W w') => (⟨(hb.cell (p := ⟨a, 1, none⟩) (by show a < _; omega)).trans c5, (hb.cell (p := ⟨w.heap.size, 5, none⟩) (by show w.heap.size < _; omega)).trans x0⟩ :
    w'.cell? ⟨a, 1, none⟩ = some (.int .i64 o) ∧ w'.cell? ⟨w.heap.size, 5, none⟩ = some (.int .i64 n)))
  have KP := hide (fun (w1 w2 : World) (hb : Below W.heap.size W w1) (ha : AskAt w2 a w2.heap.size vv o d dv cv f (L ++ [hasB o n])) (hp : Past w.heap.size w1 w2) => by
    obtain ⟨q0, q1⟩ := KB.out w1 hb
    have hs : w.heap.size < w1.heap.size := by have := hb.size; omega
    exact (⟨ha.cells.2.1, (hp.cell (Nat.le_refl _) hs).trans q1⟩ :
      w2.cell? ⟨a, 1, none⟩ = some (.int .i64 o) ∧ w2.cell? ⟨w.heap.size, 5, none⟩ = some (.int .i64 n)))
  have H := hide h
  have HW := hide hW
  have HB := hide hb0
  clear h hb0 hW
  go_enter Tryz.func107, Tryz.ntmps107
  go_wp2_with fail
  rw [← HW.out]
  have hbW : Below W.heap.size W W.drew := (Below.refl _ _).drew
  have hbw : Below w.heap.size w W.drew := HB.out.drew
  have hS0 := KB.out W.drew hbW
  go_region_held3 (fun w' => w'.cell? ⟨a, 1, none⟩ = some (.int .i64 o) ∧ w'.cell? ⟨w.heap.size, 5, none⟩ = some (.int .i64 n)) (assumption)
    (first
      | (go_at_call 78; refine (has_any _ _ _).mono ?_; rintro e w' ⟨rfl, rfl⟩)
      | (go_at_call 120; (with_reducible refine (askPush a w.heap.size vv o d dv cv _ L _ _ (H.out.below hbw) hL).mono ?_); rintro e w2 ⟨rfl, ha, hbl, hsz, hpast⟩; have K2 := KP.out _ _ hbW ha hpast))
  all_goals
    go_wp2_with fail
    go_end0
    exact ⟨rfl, ha, (hbw.mono (Nat.le_of_lt hal)).trans hbl, Nat.le_trans hbw.size hsz⟩

set_option maxRecDepth 100000 in
set_option maxHeartbeats 4000000 in
theorem stepHas10 (la ln ra rn n u : Int) (a : Nat) (vv : Value) (o d : Int) (dv cv f : Value) (L : List Bool) (w : World) (h : AskAt w a w.heap.size vv o d dv cv f L) (hL : L.length ≤ 1000) :
    Calls Tryz.prog 107 #[.pointer (some ⟨a, 0, none⟩), instVal 10 la ln ra rn n u] w (StepPost a vv o d dv cv f (L ++ [hasB d n]) w) := by
  obtain ⟨W, hW⟩ : ∃ W, W = w.alloc (.cells #[.int .i64 10, .int .i64 la, .int .i64 ln, .int .i64 ra, .int .i64 rn, .int .i64 n, .int .i64 u] 174) := ⟨_, rfl⟩
  have hb0 : Below w.heap.size w W := by rw [hW]; exact (Below.refl _ _).alloc (Nat.le_refl _) _
  have hal : a < w.heap.size := by obtain ⟨_, _, _, h3, _⟩ := h; exact h3
  have hz : W.heap.size = w.heap.size + 1 := by rw [hW]; simp
  have c5 := (h.below hb0).cells.2.2.1
  have x0 : W.cell? ⟨w.heap.size, 5, none⟩ = some (.int .i64 n) := by rw [hW]; simp
  have KB := hide (fun (w' : World) (hb : Below W.heap.size W w') => (⟨(hb.cell (p := ⟨a, 2, none⟩) (by show a < _; omega)).trans c5, (hb.cell (p := ⟨w.heap.size, 5, none⟩) (by show w.heap.size < _; omega)).trans x0⟩ :
    w'.cell? ⟨a, 2, none⟩ = some (.int .i64 d) ∧ w'.cell? ⟨w.heap.size, 5, none⟩ = some (.int .i64 n)))
  have KP := hide (fun (w1 w2 : World) (hb : Below W.heap.size W w1) (ha : AskAt w2 a w2.heap.size vv o d dv cv f (L ++ [hasB d n])) (hp : Past w.heap.size w1 w2) => by
    obtain ⟨q0, q1⟩ := KB.out w1 hb
    have hs : w.heap.size < w1.heap.size := by have := hb.size; omega
    exact (⟨ha.cells.2.2.1, (hp.cell (Nat.le_refl _) hs).trans q1⟩ :
      w2.cell? ⟨a, 2, none⟩ = some (.int .i64 d) ∧ w2.cell? ⟨w.heap.size, 5, none⟩ = some (.int .i64 n)))
  have H := hide h
  have HW := hide hW
  have HB := hide hb0
  clear h hb0 hW
  go_enter Tryz.func107, Tryz.ntmps107
  go_wp2_with fail
  rw [← HW.out]
  have hbW : Below W.heap.size W W.drew := (Below.refl _ _).drew
  have hbw : Below w.heap.size w W.drew := HB.out.drew
  have hS0 := KB.out W.drew hbW
  go_region_held3 (fun w' => w'.cell? ⟨a, 2, none⟩ = some (.int .i64 d) ∧ w'.cell? ⟨w.heap.size, 5, none⟩ = some (.int .i64 n)) (assumption)
    (first
      | (go_at_call 78; refine (has_any _ _ _).mono ?_; rintro e w' ⟨rfl, rfl⟩)
      | (go_at_call 120; (with_reducible refine (askPush a w.heap.size vv o d dv cv _ L _ _ (H.out.below hbw) hL).mono ?_); rintro e w2 ⟨rfl, ha, hbl, hsz, hpast⟩; have K2 := KP.out _ _ hbW ha hpast))
  all_goals
    go_wp2_with fail
    go_end0
    exact ⟨rfl, ha, (hbw.mono (Nat.le_of_lt hal)).trans hbl, Nat.le_trans hbw.size hsz⟩

set_option maxRecDepth 100000 in
set_option maxHeartbeats 4000000 in
theorem stepNot (la ln ra rn n u : Int) (a : Nat) (vv : Value) (o d : Int) (dv cv f : Value) (L : List Bool) (b : Bool) (w : World) (h : AskAt w a w.heap.size vv o d dv cv f (L ++ [b])) (hL : L.length ≤ 999) :
    Calls Tryz.prog 107 #[.pointer (some ⟨a, 0, none⟩), instVal 15 la ln ra rn n u] w (StepPost a vv o d dv cv f (L ++ [!b]) w) := by
  have hb0 : Below w.heap.size w (w.alloc (.cells #[.int .i64 15, .int .i64 la, .int .i64 ln, .int .i64 ra, .int .i64 rn, .int .i64 n, .int .i64 u] 174)) := (Below.refl _ _).alloc (Nat.le_refl _) _
  have hal : a < w.heap.size := by obtain ⟨_, _, _, h3, _⟩ := h; exact h3
  have Hp := hide (askPop a w.heap.size vv o d dv cv f L b _ (h.below hb0) (by omega))
  have HB := hide hb0
  clear h hb0
  go_enter Tryz.func107, Tryz.ntmps107
  go_wp2_with (first
    | (go_at_call 108; refine Hp.out.mono ?_; rintro e w1 ⟨rfl, ha, hbl, hsz, _⟩)
    | (go_at_call 120; (with_reducible refine (askPush a w.heap.size vv o d dv cv _ L _ _ ha (by omega)).mono ?_); rintro e w2 ⟨rfl, ha2, hbl2, hsz2, _⟩))
  go_end0
  have h1 := (HB.out.mono (Nat.le_of_lt hal)).trans hbl
  exact ⟨rfl, ha2, h1.trans hbl2, Nat.le_trans (Nat.le_trans HB.out.size hsz) hsz2⟩
set_option maxRecDepth 100000 in
set_option maxHeartbeats 4000000 in
theorem stepNotNone (la ln ra rn n u : Int) (a : Nat) (vv : Value) (o d : Int) (dv cv f : Value) (w : World) (h : AskAt w a w.heap.size vv o d dv cv f []) :
    Calls Tryz.prog 107 #[.pointer (some ⟨a, 0, none⟩), instVal 15 la ln ra rn n u] w fun e w' => e = .panicked lostP ∧ Below a w w' := by
  have hb0 : Below w.heap.size w (w.alloc (.cells #[.int .i64 15, .int .i64 la, .int .i64 ln, .int .i64 ra, .int .i64 rn, .int .i64 n, .int .i64 u] 174)) := (Below.refl _ _).alloc (Nat.le_refl _) _
  have hal : a < w.heap.size := by obtain ⟨_, _, _, h3, _⟩ := h; exact h3
  have Hp := hide (askPopNone a w.heap.size vv o d dv cv f _ (h.below hb0))
  have HB := hide hb0
  clear h hb0
  go_enter Tryz.func107, Tryz.ntmps107
  go_wp2_with (first
    | (go_at_call 108; refine Hp.out.mono ?_; rintro e w1 ⟨rfl, rfl⟩))
  exact ⟨rfl, rfl, HB.out.mono (Nat.le_of_lt hal)⟩

set_option maxRecDepth 100000 in
set_option maxHeartbeats 4000000 in
theorem stepBin16 (la ln ra rn n u : Int) (a : Nat) (vv : Value) (o d : Int) (dv cv f : Value) (L : List Bool) (x y : Bool) (w : World) (h : AskAt w a w.heap.size vv o d dv cv f ((L ++ [x]) ++ [y])) (hL : L.length ≤ 998) :
    Calls Tryz.prog 107 #[.pointer (some ⟨a, 0, none⟩), instVal 16 la ln ra rn n u] w (StepPost a vv o d dv cv f (L ++ [x && y]) w) := by
  obtain ⟨W, hW⟩ : ∃ W, W = w.alloc (.cells #[.int .i64 16, .int .i64 la, .int .i64 ln, .int .i64 ra, .int .i64 rn, .int .i64 n, .int .i64 u] 174) := ⟨_, rfl⟩
  have hb0 : Below w.heap.size w W := by rw [hW]; exact (Below.refl _ _).alloc (Nat.le_refl _) _
  have hal : a < w.heap.size := by obtain ⟨_, _, _, h3, _⟩ := h; exact h3
  have x0 : W.cell? ⟨w.heap.size, 0, none⟩ = some (.int .i64 16) := by rw [hW]; simp
  have hz : W.heap.size = w.heap.size + 1 := by rw [hW]; simp
  have Hp := hide (askPop a w.heap.size vv o d dv cv f (L ++ [x]) y _ (h.below hb0) (by simp; omega))
  have HB := hide hb0
  have HW := hide hW
  clear h hb0 hW
  cases x <;> cases y
  all_goals
    go_enter Tryz.func107, Tryz.ntmps107
    go_wp2_with fail
    rw [← HW.out]
    refine Hp.out.mono ?_
    rintro e w1 ⟨rfl, ha, hbl, hsz, hp1⟩
    have y0 := (hp1.cell (i := 0) (Nat.le_refl _) (by omega)).trans x0
    have hs1 : w.heap.size < w1.heap.size := by omega
    go_wp2_with fail
    refine (askPop a w.heap.size vv o d dv cv f L _ _ ha (by omega)).mono ?_
    rintro e w2 ⟨rfl, ha2, hbl2, hsz2, hp2⟩
    have z0 := (hp2.cell (i := 0) (Nat.le_refl _) hs1).trans y0
    have Ha := hide ha
    clear x0 y0 hp1 hp2 ha
    go_wp2_with fail
    refine (askPush a w.heap.size vv o d dv cv f L _ _ ha2 (by omega)).mono ?_
    rintro e w3 ⟨rfl, ha3, hbl3, hsz3, hp3⟩
    go_wp2_with fail
    go_end0
    have h1 := ((HB.out.mono (Nat.le_of_lt hal)).trans hbl).trans hbl2
    exact ⟨rfl, ha3, h1.trans hbl3, by omega⟩

set_option maxRecDepth 100000 in
set_option maxHeartbeats 4000000 in
theorem stepBinNone16 (la ln ra rn n u : Int) (a : Nat) (vv : Value) (o d : Int) (dv cv f : Value) (L : List Bool) (w : World) (h : AskAt w a w.heap.size vv o d dv cv f L) (hL : L.length < 2) :
    Calls Tryz.prog 107 #[.pointer (some ⟨a, 0, none⟩), instVal 16 la ln ra rn n u] w fun e w' => e = .panicked lostP ∧ Below a w w' := by
  have hb0 : Below w.heap.size w (w.alloc (.cells #[.int .i64 16, .int .i64 la, .int .i64 ln, .int .i64 ra, .int .i64 rn, .int .i64 n, .int .i64 u] 174)) := (Below.refl _ _).alloc (Nat.le_refl _) _
  have hal : a < w.heap.size := by obtain ⟨_, _, _, h3, _⟩ := h; exact h3
  have HB := hide hb0
  match L, hL with
  | [], _ =>
    have Hp := hide (askPopNone a w.heap.size vv o d dv cv f _ (h.below hb0))
    clear h hb0
    go_enter Tryz.func107, Tryz.ntmps107
    go_wp2_with (first
      | (go_at_call 108; refine Hp.out.mono ?_; rintro e w1 ⟨rfl, rfl⟩))
    exact ⟨rfl, rfl, HB.out.mono (Nat.le_of_lt hal)⟩
  | [y], _ =>
    have Hp := hide (askPop a w.heap.size vv o d dv cv f [] y _ (h.below hb0) (by simp))
    clear h hb0
    go_enter Tryz.func107, Tryz.ntmps107
    go_wp2_with fail
    refine Hp.out.mono ?_
    rintro e w1 ⟨rfl, ha, hbl, hsz, hp1⟩
    go_wp2_with fail
    refine (askPopNone a w.heap.size vv o d dv cv f _ ha).mono ?_
    rintro e w2 ⟨rfl, rfl⟩
    exact ⟨rfl, rfl, (HB.out.mono (Nat.le_of_lt hal)).trans hbl⟩

set_option maxRecDepth 100000 in
set_option maxHeartbeats 4000000 in
theorem stepBin17 (la ln ra rn n u : Int) (a : Nat) (vv : Value) (o d : Int) (dv cv f : Value) (L : List Bool) (x y : Bool) (w : World) (h : AskAt w a w.heap.size vv o d dv cv f ((L ++ [x]) ++ [y])) (hL : L.length ≤ 998) :
    Calls Tryz.prog 107 #[.pointer (some ⟨a, 0, none⟩), instVal 17 la ln ra rn n u] w (StepPost a vv o d dv cv f (L ++ [x || y]) w) := by
  obtain ⟨W, hW⟩ : ∃ W, W = w.alloc (.cells #[.int .i64 17, .int .i64 la, .int .i64 ln, .int .i64 ra, .int .i64 rn, .int .i64 n, .int .i64 u] 174) := ⟨_, rfl⟩
  have hb0 : Below w.heap.size w W := by rw [hW]; exact (Below.refl _ _).alloc (Nat.le_refl _) _
  have hal : a < w.heap.size := by obtain ⟨_, _, _, h3, _⟩ := h; exact h3
  have x0 : W.cell? ⟨w.heap.size, 0, none⟩ = some (.int .i64 17) := by rw [hW]; simp
  have hz : W.heap.size = w.heap.size + 1 := by rw [hW]; simp
  have Hp := hide (askPop a w.heap.size vv o d dv cv f (L ++ [x]) y _ (h.below hb0) (by simp; omega))
  have HB := hide hb0
  have HW := hide hW
  clear h hb0 hW
  cases x <;> cases y
  all_goals
    go_enter Tryz.func107, Tryz.ntmps107
    go_wp2_with fail
    rw [← HW.out]
    refine Hp.out.mono ?_
    rintro e w1 ⟨rfl, ha, hbl, hsz, hp1⟩
    have y0 := (hp1.cell (i := 0) (Nat.le_refl _) (by omega)).trans x0
    have hs1 : w.heap.size < w1.heap.size := by omega
    go_wp2_with fail
    refine (askPop a w.heap.size vv o d dv cv f L _ _ ha (by omega)).mono ?_
    rintro e w2 ⟨rfl, ha2, hbl2, hsz2, hp2⟩
    have z0 := (hp2.cell (i := 0) (Nat.le_refl _) hs1).trans y0
    have Ha := hide ha
    clear x0 y0 hp1 hp2 ha
    go_wp2_with fail
    refine (askPush a w.heap.size vv o d dv cv f L _ _ ha2 (by omega)).mono ?_
    rintro e w3 ⟨rfl, ha3, hbl3, hsz3, hp3⟩
    go_wp2_with fail
    go_end0
    have h1 := ((HB.out.mono (Nat.le_of_lt hal)).trans hbl).trans hbl2
    exact ⟨rfl, ha3, h1.trans hbl3, by omega⟩

set_option maxRecDepth 100000 in
set_option maxHeartbeats 4000000 in
theorem stepBinNone17 (la ln ra rn n u : Int) (a : Nat) (vv : Value) (o d : Int) (dv cv f : Value) (L : List Bool) (w : World) (h : AskAt w a w.heap.size vv o d dv cv f L) (hL : L.length < 2) :
    Calls Tryz.prog 107 #[.pointer (some ⟨a, 0, none⟩), instVal 17 la ln ra rn n u] w fun e w' => e = .panicked lostP ∧ Below a w w' := by
  have hb0 : Below w.heap.size w (w.alloc (.cells #[.int .i64 17, .int .i64 la, .int .i64 ln, .int .i64 ra, .int .i64 rn, .int .i64 n, .int .i64 u] 174)) := (Below.refl _ _).alloc (Nat.le_refl _) _
  have hal : a < w.heap.size := by obtain ⟨_, _, _, h3, _⟩ := h; exact h3
  have HB := hide hb0
  match L, hL with
  | [], _ =>
    have Hp := hide (askPopNone a w.heap.size vv o d dv cv f _ (h.below hb0))
    clear h hb0
    go_enter Tryz.func107, Tryz.ntmps107
    go_wp2_with (first
      | (go_at_call 108; refine Hp.out.mono ?_; rintro e w1 ⟨rfl, rfl⟩))
    exact ⟨rfl, rfl, HB.out.mono (Nat.le_of_lt hal)⟩
  | [y], _ =>
    have Hp := hide (askPop a w.heap.size vv o d dv cv f [] y _ (h.below hb0) (by simp))
    clear h hb0
    go_enter Tryz.func107, Tryz.ntmps107
    go_wp2_with fail
    refine Hp.out.mono ?_
    rintro e w1 ⟨rfl, ha, hbl, hsz, hp1⟩
    go_wp2_with fail
    refine (askPopNone a w.heap.size vv o d dv cv f _ ha).mono ?_
    rintro e w2 ⟨rfl, rfl⟩
    exact ⟨rfl, rfl, (HB.out.mono (Nat.le_of_lt hal)).trans hbl⟩

set_option maxRecDepth 100000 in
set_option maxHeartbeats 4000000 in
theorem stepBin18 (la ln ra rn n u : Int) (a : Nat) (vv : Value) (o d : Int) (dv cv f : Value) (L : List Bool) (x y : Bool) (w : World) (h : AskAt w a w.heap.size vv o d dv cv f ((L ++ [x]) ++ [y])) (hL : L.length ≤ 998) :
    Calls Tryz.prog 107 #[.pointer (some ⟨a, 0, none⟩), instVal 18 la ln ra rn n u] w (StepPost a vv o d dv cv f (L ++ [!x || y]) w) := by
  obtain ⟨W, hW⟩ : ∃ W, W = w.alloc (.cells #[.int .i64 18, .int .i64 la, .int .i64 ln, .int .i64 ra, .int .i64 rn, .int .i64 n, .int .i64 u] 174) := ⟨_, rfl⟩
  have hb0 : Below w.heap.size w W := by rw [hW]; exact (Below.refl _ _).alloc (Nat.le_refl _) _
  have hal : a < w.heap.size := by obtain ⟨_, _, _, h3, _⟩ := h; exact h3
  have x0 : W.cell? ⟨w.heap.size, 0, none⟩ = some (.int .i64 18) := by rw [hW]; simp
  have hz : W.heap.size = w.heap.size + 1 := by rw [hW]; simp
  have Hp := hide (askPop a w.heap.size vv o d dv cv f (L ++ [x]) y _ (h.below hb0) (by simp; omega))
  have HB := hide hb0
  have HW := hide hW
  clear h hb0 hW
  cases x <;> cases y
  all_goals
    go_enter Tryz.func107, Tryz.ntmps107
    go_wp2_with fail
    rw [← HW.out]
    refine Hp.out.mono ?_
    rintro e w1 ⟨rfl, ha, hbl, hsz, hp1⟩
    have y0 := (hp1.cell (i := 0) (Nat.le_refl _) (by omega)).trans x0
    have hs1 : w.heap.size < w1.heap.size := by omega
    go_wp2_with fail
    refine (askPop a w.heap.size vv o d dv cv f L _ _ ha (by omega)).mono ?_
    rintro e w2 ⟨rfl, ha2, hbl2, hsz2, hp2⟩
    have z0 := (hp2.cell (i := 0) (Nat.le_refl _) hs1).trans y0
    have Ha := hide ha
    clear x0 y0 hp1 hp2 ha
    go_wp2_with fail
    refine (askPush a w.heap.size vv o d dv cv f L _ _ ha2 (by omega)).mono ?_
    rintro e w3 ⟨rfl, ha3, hbl3, hsz3, hp3⟩
    go_wp2_with fail
    go_end0
    have h1 := ((HB.out.mono (Nat.le_of_lt hal)).trans hbl).trans hbl2
    exact ⟨rfl, ha3, h1.trans hbl3, by omega⟩

set_option maxRecDepth 100000 in
set_option maxHeartbeats 4000000 in
theorem stepBinNone18 (la ln ra rn n u : Int) (a : Nat) (vv : Value) (o d : Int) (dv cv f : Value) (L : List Bool) (w : World) (h : AskAt w a w.heap.size vv o d dv cv f L) (hL : L.length < 2) :
    Calls Tryz.prog 107 #[.pointer (some ⟨a, 0, none⟩), instVal 18 la ln ra rn n u] w fun e w' => e = .panicked lostP ∧ Below a w w' := by
  have hb0 : Below w.heap.size w (w.alloc (.cells #[.int .i64 18, .int .i64 la, .int .i64 ln, .int .i64 ra, .int .i64 rn, .int .i64 n, .int .i64 u] 174)) := (Below.refl _ _).alloc (Nat.le_refl _) _
  have hal : a < w.heap.size := by obtain ⟨_, _, _, h3, _⟩ := h; exact h3
  have HB := hide hb0
  match L, hL with
  | [], _ =>
    have Hp := hide (askPopNone a w.heap.size vv o d dv cv f _ (h.below hb0))
    clear h hb0
    go_enter Tryz.func107, Tryz.ntmps107
    go_wp2_with (first
      | (go_at_call 108; refine Hp.out.mono ?_; rintro e w1 ⟨rfl, rfl⟩))
    exact ⟨rfl, rfl, HB.out.mono (Nat.le_of_lt hal)⟩
  | [y], _ =>
    have Hp := hide (askPop a w.heap.size vv o d dv cv f [] y _ (h.below hb0) (by simp))
    clear h hb0
    go_enter Tryz.func107, Tryz.ntmps107
    go_wp2_with fail
    refine Hp.out.mono ?_
    rintro e w1 ⟨rfl, ha, hbl, hsz, hp1⟩
    go_wp2_with fail
    refine (askPopNone a w.heap.size vv o d dv cv f _ ha).mono ?_
    rintro e w2 ⟨rfl, rfl⟩
    exact ⟨rfl, rfl, (HB.out.mono (Nat.le_of_lt hal)).trans hbl⟩

set_option maxRecDepth 100000 in
set_option maxHeartbeats 4000000 in
theorem stepBad (op la ln ra rn n u : Int) (a : Nat) (w : World) (hal : a ≤ w.heap.size) (h1 : (op == 1) = false) (h2 : (op == 2) = false) (h3 : (op == 3) = false) (h4 : (op == 4) = false) (h5 : (op == 5) = false) (h6 : (op == 6) = false) (h7 : (op == 7) = false) (h8 : (op == 8) = false)
    (h9 : (op == 9) = false) (h10 : (op == 10) = false) (h15 : (op == 15) = false) (h16 : (op == 16) = false) (h17 : (op == 17) = false) (h18 : (op == 18) = false) :
    Calls Tryz.prog 107 #[.pointer (some ⟨a, 0, none⟩), instVal op la ln ra rn n u] w fun e w' => e = .panicked lostP ∧ Below a w w' := by
  go_enter Tryz.func107, Tryz.ntmps107
  go_wp2_with fail
  exact ⟨rfl, rfl, (Below.refl _ _).alloc hal _⟩
end
section
open Go.RowKit

/-- what is asked of the function that tells a comparison -/
def LessOK (k : Nat) (caps : Array Value) (cm : Inst → Option Int) (x : Inst) (w0 : World) : Prop := ∀ w', Below w0.heap.size w0 w' →
  match cm x with
  | some c => Calls Tryz.prog k (#[.agg #[.int .i64 x.la, .int .i64 x.ln], .agg #[.int .i64 x.ra, .int .i64 x.rn]] ++ caps) w' fun e w'' => e = .returned (.int .i64 c) ∧ Below w'.heap.size w' w''
  | none => Calls Tryz.prog k (#[.agg #[.int .i64 x.la, .int .i64 x.ln], .agg #[.int .i64 x.ra, .int .i64 x.rn]] ++ caps) w' fun e w'' => e = .panicked lostP ∧ Below w'.heap.size w' w''
theorem LessOK.some_ {k : Nat} {caps : Array Value} {cm : Inst → Option Int} {x : Inst} {w0 w : World} (h : LessOK k caps cm x w0) (hb : Below w0.heap.size w0 w) {c : Int} (hc : cm x = some c) :
    Hid (∀ w', Below w.heap.size w w' → Calls Tryz.prog k (#[.agg #[.int .i64 x.la, .int .i64 x.ln], .agg #[.int .i64 x.ra, .int .i64 x.rn]] ++ caps) w' fun e w'' => e = .returned (.int .i64 c) ∧ Below w'.heap.size w' w'') := by
  refine hide fun w' hw => ?_
  have := h w' (hb.trans (hw.mono hb.size))
  rw [hc] at this
  exact this
theorem LessOK.none_ {k : Nat} {caps : Array Value} {cm : Inst → Option Int} {x : Inst} {w0 w : World} (h : LessOK k caps cm x w0) (hb : Below w0.heap.size w0 w) (hc : cm x = none) :
    Hid (∀ w', Below w.heap.size w w' → Calls Tryz.prog k (#[.agg #[.int .i64 x.la, .int .i64 x.ln], .agg #[.int .i64 x.ra, .int .i64 x.rn]] ++ caps) w' fun e w'' => e = .panicked lostP ∧ Below w'.heap.size w' w'') := by
  refine hide fun w' hw => ?_
  have := h w' (hb.trans (hw.mono hb.size))
  rw [hc] at this
  exact this
theorem snoc_of_cons {L r : List Bool} {b : Bool} (h : L.reverse = b :: r) : L = r.reverse ++ [b] := by
  have := congrArg List.reverse h
  simpa using this

theorem step_some (x : Inst) (cm : Inst → Option Int) (a k : Nat) (caps : Array Value) (vv : Value) (o d : Int) (dv cv : Value) (L : List Bool) (r' : List Bool) (w w0 : World) (h : AskAt w a w.heap.size vv o d dv cv (.func (.func k) #[] caps) L) (hL : L.length ≤ 900)
    (hcf : ∀ (args : Array Value) (w : World), (callFunc k args).run Tryz.prog w = .ok (.enter k args) w) (hl : LessOK k caps cm x w0) (hb : Below w0.heap.size w0 w) (hr : stepG cm o d x L.reverse = some r') :
    Calls Tryz.prog 107 #[.pointer (some ⟨a, 0, none⟩), instVal x.op x.la x.ln x.ra x.rn x.n x.u] w (StepPost a vv o d dv cv (.func (.func k) #[] caps) r'.reverse w) := by
  obtain ⟨op, la, ln, ra, rn, n, u⟩ := x
  unfold stepG at hr
  simp only at hr ⊢
  split at hr
  · cases hr
    have := stepT op la ln ra rn n u a vv o d dv cv _ L w h (by omega) (by assumption)
    simpa using this
  split at hr
  · rename_i h1
    split at hr
    · rename_i c hc
      cases hr
      have HL := hl.some_ hb hc
      have e : op = 3 ∨ op = 4 ∨ op = 5 ∨ op = 6 ∨ op = 7 ∨ op = 8 := by omega
      rw [List.reverse_cons, List.reverse_reverse]
      rcases e with rfl | rfl | rfl | rfl | rfl | rfl
      · exact stepCmp3 la ln ra rn n u c a k caps vv o d dv cv L w h (by omega) hcf HL
      · exact stepCmp4 la ln ra rn n u c a k caps vv o d dv cv L w h (by omega) hcf HL
      · exact stepCmp5 la ln ra rn n u c a k caps vv o d dv cv L w h (by omega) hcf HL
      · exact stepCmp6 la ln ra rn n u c a k caps vv o d dv cv L w h (by omega) hcf HL
      · exact stepCmp7 la ln ra rn n u c a k caps vv o d dv cv L w h (by omega) hcf HL
      · exact stepCmp8 la ln ra rn n u c a k caps vv o d dv cv L w h (by omega) hcf HL
    · cases hr
  split at hr
  · rename_i h9
    subst h9
    cases hr
    rw [List.reverse_cons, List.reverse_reverse]
    exact stepHas9 la ln ra rn n u a vv o d dv cv _ L w h (by omega)
  split at hr
  · rename_i h10
    subst h10
    cases hr
    rw [List.reverse_cons, List.reverse_reverse]
    exact stepHas10 la ln ra rn n u a vv o d dv cv _ L w h (by omega)
  split at hr
  · rename_i h15
    subst h15
    split at hr
    · rename_i b r e
      cases hr
      obtain rfl := snoc_of_cons e
      simp at hL
      rw [List.reverse_cons]
      exact stepNot la ln ra rn n u a vv o d dv cv _ _ b w h (by simp; omega)
    · cases hr
  split at hr
  · rename_i h16
    split at hr
    · rename_i b a' r e
      cases hr
      have e2 : L = (r.reverse ++ [a']) ++ [b] := by
        have := snoc_of_cons e
        simpa using this
      subst e2
      simp at hL
      have e : op = 16 ∨ op = 17 ∨ op = 18 := by omega
      rcases e with rfl | rfl | rfl
      · have := stepBin16 la ln ra rn n u a vv o d dv cv _ r.reverse a' b w h (by simp; omega)
        simpa using this
      · have := stepBin17 la ln ra rn n u a vv o d dv cv _ r.reverse a' b w h (by simp; omega)
        simpa using this
      · have := stepBin18 la ln ra rn n u a vv o d dv cv _ r.reverse a' b w h (by simp; omega)
        simpa using this
    · cases hr
  · cases hr

theorem step_none (x : Inst) (cm : Inst → Option Int) (a k : Nat) (caps : Array Value) (vv : Value) (o d : Int) (dv cv : Value) (L : List Bool) (w w0 : World) (h : AskAt w a w.heap.size vv o d dv cv (.func (.func k) #[] caps) L) (hL : L.length ≤ 900)
    (hcf : ∀ (args : Array Value) (w : World), (callFunc k args).run Tryz.prog w = .ok (.enter k args) w) (hl : LessOK k caps cm x w0) (hb : Below w0.heap.size w0 w) (hr : stepG cm o d x L.reverse = none) :
    Calls Tryz.prog 107 #[.pointer (some ⟨a, 0, none⟩), instVal x.op x.la x.ln x.ra x.rn x.n x.u] w fun e w' => e = .panicked lostP ∧ Below a w w' := by
  have hal : a < w.heap.size := by obtain ⟨_, _, _, h3, _⟩ := h; exact h3
  obtain ⟨op, la, ln, ra, rn, n, u⟩ := x
  unfold stepG at hr
  simp only at hr ⊢
  split at hr
  · cases hr
  rename_i h12
  split at hr
  · rename_i h1
    split at hr
    · cases hr
    · rename_i hc
      have HL := hl.none_ hb hc
      have e : op = 3 ∨ op = 4 ∨ op = 5 ∨ op = 6 ∨ op = 7 ∨ op = 8 := by omega
      rcases e with rfl | rfl | rfl | rfl | rfl | rfl
      · exact stepNo3 la ln ra rn n u a k caps vv o d dv cv L w h (by omega) hcf HL
      · exact stepNo4 la ln ra rn n u a k caps vv o d dv cv L w h (by omega) hcf HL
      · exact stepNo5 la ln ra rn n u a k caps vv o d dv cv L w h (by omega) hcf HL
      · exact stepNo6 la ln ra rn n u a k caps vv o d dv cv L w h (by omega) hcf HL
      · exact stepNo7 la ln ra rn n u a k caps vv o d dv cv L w h (by omega) hcf HL
      · exact stepNo8 la ln ra rn n u a k caps vv o d dv cv L w h (by omega) hcf HL
  rename_i h38
  split at hr
  · cases hr
  rename_i h9
  split at hr
  · cases hr
  rename_i h10
  split at hr
  · rename_i h15
    subst h15
    split at hr
    · cases hr
    · rename_i e
      have e : L = [] := by simpa using e
      subst e
      exact stepNotNone la ln ra rn n u a vv o d dv cv _ w h
  rename_i h15
  split at hr
  · rename_i h16
    have hl2 : L.length < 2 := by
      rw [← List.length_reverse]
      match hh : L.reverse with
      | [] => simp
      | [_] => simp
      | _ :: _ :: _ => rw [hh] at hr; cases hr
    have e : op = 16 ∨ op = 17 ∨ op = 18 := by omega
    rcases e with rfl | rfl | rfl
    · exact stepBinNone16 la ln ra rn n u a vv o d dv cv _ L w h hl2
    · exact stepBinNone17 la ln ra rn n u a vv o d dv cv _ L w h hl2
    · exact stepBinNone18 la ln ra rn n u a vv o d dv cv _ L w h hl2
  · rename_i h16
    have ne : ∀ k : Int, op ≠ k → (op == k) = false := fun k h => beq_eq_false_iff_ne.2 h
    exact stepBad op la ln ra rn n u a w (Nat.le_of_lt hal) (ne _ (by omega)) (ne _ (by omega)) (ne _ (by omega)) (ne _ (by omega)) (ne _ (by omega)) (ne _ (by omega)) (ne _ (by omega)) (ne _ (by omega)) (ne _ (by omega)) (ne _ (by omega)) (ne _ (by omega)) (ne _ (by omega)) (ne _ (by omega)) (ne _ (by omega))
end
section
open Go.RowKit
theorem caught_nil (p q : Addr) (w : World) : Calls Tryz.prog 104 #[.pointer (some p), .pointer (some q), .nilIface] w fun e w' => e = .returned (.tuple #[]) ∧ w = w' := by
  go_enter Tryz.func104, Tryz.ntmps104
  go_wp2
  refine bodyPost_ret (results_none rfl _ _ _) rfl ?_
  exact ⟨rfl, rfl⟩
theorem assertLost (w : World) : (Instr.typeAssert (.iface 177 (.agg #[])) 20 177 true).run Tryz.prog w = .ok (.tuple #[.agg #[], .bool true]) w := by kernel_rfl
theorem eqNil (w : World) : (binOp BinOp.eql 20 (.iface 177 (.agg #[])) .nilIface).run Tryz.prog w = .ok (.bool false) w := by kernel_rfl
theorem caught_lost (p q : Nat) (x : Bool) (y : Int) (w : World) (hp : Blk w p 4 #[.bool x]) (hq : Blk w q 113 #[.int .i64 y]) (hpq : p ≠ q) {B : Nat} (hBp : B ≤ p) (hBq : B ≤ q) : Calls Tryz.prog 104 #[.pointer (some ⟨p, 0, none⟩), .pointer (some ⟨q, 0, none⟩), .iface 177 (.agg #[])] w fun e w' => e = .returned (.tuple #[]) ∧ Blk w' p 4 #[.bool false] ∧ Blk w' q 113 #[.int .i64 17] ∧ Below B w w' := by
  have hta := assertLost
  have heq := eqNil
  have c0 := hp.cell 0
  have f0 := hp.frozen 0
  have d0 := hq.cell 0
  have g0 := hq.frozen 0
  simp at c0 d0
  have hpl := hp.lt
  have hql := hq.lt
  have HP := hide hp
  have HQ := hide hq
  clear hp hq
  go_enter Tryz.func104, Tryz.ntmps104
  go_wp2
  go_end0
  refine ⟨rfl, ?_, ?_, (((Below.refl B w).setCell hBp _).setCell hBq _).alloc (by simp; omega) _⟩
  · have h1 := HP.out.set_ 0 (.bool false)
    have h2 := (h1.far (p := ⟨q, 0, none⟩) (by simpa using hpq) (.int .i64 17)).alloc (.cells #[] 177)
    simpa using h2
  · have h1 := HQ.out.far (p := ⟨p, 0, none⟩) (by simpa using Ne.symm hpq) (.bool false)
    have h2 := (h1.set_ 0 (.int .i64 17)).alloc (.cells #[] 177)
    simpa using h2

theorem catch_idle (p q : Addr) (w : World) :
    CallsD Tryz.prog 103 #[.pointer (some p), .pointer (some q)] .returning w fun e u' w' => e = .returned (.tuple #[]) ∧ u' = .returning ∧ w = w' := by
  refine callsD_of_wpS Tryz.func103 rfl fun c₀ cs hu => ?_
  apply wpS_region
  simp [wpOpsS, go_sem, recoverD, hu, Tryz.ntmps103]
  refine (caught_nil p q w).mono ?_
  rintro e w' ⟨rfl, rfl⟩
  cases c₀
  simp_all [bodyPostS, results, Tryz.results103]

theorem catch_lost (p q : Nat) (x : Bool) (y : Int) (w : World) (hp : Blk w p 4 #[.bool x]) (hq : Blk w q 113 #[.int .i64 y]) (hpq : p ≠ q) {B : Nat} (hBp : B ≤ p) (hBq : B ≤ q) :
    CallsD Tryz.prog 103 #[.pointer (some ⟨p, 0, none⟩), .pointer (some ⟨q, 0, none⟩)] (.panicking lostP) w fun e u' w' => e = .returned (.tuple #[]) ∧ u' = .panicking [{ v := .iface 177 (.agg #[]), recovered := true }] ∧ (Blk w' p 4 #[.bool false] ∧ Blk w' q 113 #[.int .i64 17] ∧ Below B w w') := by
  have H := hide (caught_lost p q x y w hp hq hpq hBp hBq)
  clear hp hq
  refine callsD_of_wpS Tryz.func103 rfl fun c₀ cs hu => ?_
  apply wpS_region
  simp [wpOpsS, go_sem, recoverD, hu, Tryz.ntmps103, lostP]
  refine H.out.mono ?_
  rintro e w' ⟨rfl, h1, h2, h3⟩
  refine ⟨rfl, _, rfl, .tuple #[], ?_, rfl, rfl, h1, h2, h3⟩
  simp [results, Tryz.results103, go_sem]
end
section
open Go.RowKit

theorem lessNotNil (k : Nat) (caps : Array Value) (w : World) : (binOp BinOp.eql 142 (.func (.func k) #[] caps) .nilFunc).run Tryz.prog w = .ok (.bool false) w := by kernel_rfl
/-- the world behind the parameters' boxes -/
def W0 (w : World) (vv : Value) (o d : Int) (dv cv : Value) : World := ((w.alloc (.cells #[vv, .int .i64 o, .int .i64 d, dv, cv] 51)).alloc (.cells #[.bool false] 4)).alloc (.cells #[.int .i64 0] 113)
theorem W0_facts (w : World) (vv : Value) (o d : Int) (dv cv : Value) : (W0 w vv o d dv cv).heap.size = w.heap.size + 3 ∧ Below w.heap.size w (W0 w vv o d dv cv) ∧ Blk (W0 w vv o d dv cv) w.heap.size 51 #[vv, .int .i64 o, .int .i64 d, dv, cv] ∧
    Blk (W0 w vv o d dv cv) (w.heap.size + 1) 4 #[.bool false] ∧ Blk (W0 w vv o d dv cv) (w.heap.size + 1 + 1) 113 #[.int .i64 0] := by
  unfold W0
  refine ⟨by simp, (((Below.refl _ _).alloc (Nat.le_refl _) _).alloc (by simp) _).alloc (by simp; omega) _, (((Blk.new w _ _).alloc _).alloc _), ?_, ?_⟩
  · have := (Blk.new (w.alloc (.cells #[vv, .int .i64 o, .int .i64 d, dv, cv] 51)) 4 #[.bool false]).alloc (.cells #[.int .i64 0] 113)
    simpa using this
  · have := Blk.new ((w.alloc (.cells #[vv, .int .i64 o, .int .i64 d, dv, cv] 51)).alloc (.cells #[.bool false] 4)) 113 #[.int .i64 0]
    simpa using this
theorem item_ok (x : Inst) (h : x.ok) : (itemOf x).ok := by
  refine ⟨h.1, ?_, ?_, ?_, ?_, ?_, ?_, ?_, ?_⟩ <;> first | exact ⟨by simp [itemOf], by simp [itemOf]⟩ | exact Nat.zero_le _
theorem insts_ok {w : World} {S : Nat → Prop} {v : Value} {l : List Inst} (h : (sliceR instR).one w S v l) : ∀ x ∈ l, x.ok := by
  intro x hx
  obtain ⟨i, hi, rfl⟩ := List.getElem_of_mem hx
  obtain ⟨A, c, rfl, _, _⟩ := slice_form h
  obtain ⟨b, o, hv, _, _⟩ := slice_some h (by omega)
  subst hv
  exact (insts_at h hi).2
def topO : Option (List Bool) → Option Bool
  | some (b :: _) => some b
  | _ => none
theorem topO_eq (x : Option (List Bool)) : (match x with | some (b :: _) => some b | _ => none) = topO x := by
  match x with
  | none => rfl
  | some [] => rfl
  | some (_ :: _) => rfl
theorem runG_append (cm : Inst → Option Int) (o d : Int) (a b : List Inst) : ∀ r, runG cm o d (a ++ b) r = (runG cm o d a r).bind (runG cm o d b) := by
  induction a with
  | nil => intro r; rfl
  | cons x a ih => intro r; rw [List.cons_append, runG, runG]; cases stepG cm o d x r <;> simp [ih]
theorem runG_snoc (cm : Inst → Option Int) (o d : Int) (a : List Inst) (x : Inst) (r : List Bool) : runG cm o d (a ++ [x]) r = (runG cm o d a r).bind (stepG cm o d x) := by
  rw [runG_append]
  cases runG cm o d a r with
  | none => rfl
  | some r' => simp only [Option.bind_some, runG]; cases stepG cm o d x r' <;> rfl
theorem stepG_len {cm : Inst → Option Int} {o d : Int} {x : Inst} {r r' : List Bool} (h : stepG cm o d x r = some r') : r'.length ≤ r.length + 1 := by
  unfold stepG at h
  split at h
  · cases h; simp
  split at h
  · split at h
    · cases h; simp
    · cases h
  split at h
  · cases h; simp
  split at h
  · cases h; simp
  split at h
  · split at h
    · cases h; simp
    · cases h
  split at h
  · split at h
    · cases h; simp
    · cases h
  · cases h
theorem AskAt.up {w : World} {a H H' : Nat} {vv : Value} {o d : Int} {dv cv f : Value} {L : List Bool} (h : AskAt w a H vv o d dv cv f L) (hh : H ≤ H') : AskAt w a H' vv o d dv cv f L := by
  obtain ⟨rv, h1, h2, h3, h4⟩ := h
  exact ⟨rv, h1, h2, by omega, fun g hg => by have := h4 g hg; omega⟩
def SidesPost (R : Option Bool) (w : World) (e : Ending) (w' : World) : Prop := e = .returned (.tuple #[.bool (optB R), .int .i64 (optE R)]) ∧ Below w.heap.size w w'

set_option maxRecDepth 100000 in
set_option maxHeartbeats 2000000 in
theorem sides_bad (l : List Inst) (lv : Value) (S : Nat → Prop) (k : Nat) (caps : Array Value) (vv : Value) (o d : Int) (dv cv : Value) (w : World) (h : (sliceR instR).one w S lv l) (hS : ∀ b, S b → b < w.heap.size) (hl : l.length ≤ 900) (hbad : checkE (l.map Inst.op) ≠ 0) :
    Calls Tryz.prog 80 #[lv, .func (.func k) #[] caps, stAgg vv o d dv cv] w (SidesPost none w) := by
  have hmf : ∀ (fn : Fn) (first cap : Array Value) (w : World), (Instr.makeFunc fn first cap).run Tryz.prog w = .ok (.func fn first cap) w := fun _ _ _ _ => rfl
  have Hsl := hide h
  have HS := hide hS
  obtain ⟨E, hE⟩ : ∃ E, E = checkE (l.map Inst.op) := ⟨_, rfl⟩
  have hne : (E != 0) = true := by rw [hE]; simpa using hbad
  have HE := hide hE
  clear h hS hbad hE
  have hnil := lessNotNil k caps
  obtain ⟨hz, hb0, hB0, hB1, hB2⟩ := W0_facts w vv o d dv cv
  obtain ⟨X, hX⟩ : ∃ X, X = W0 w vv o d dv cv := ⟨_, rfl⟩
  rw [← hX] at hz hb0 hB0 hB1 hB2
  unfold W0 at hX
  have HX := hide hX
  have H0 := hide hb0
  have HB1 := hide hB1
  have HB2 := hide hB2
  clear hX hb0 hB0 hB1 hB2
  go_enter_defers Tryz.func80, Tryz.ntmps80
  go_wp2_with fail
  rw [← HX.out]
  refine (shape_any l lv S X (slice_below Hsl.out H0.out HS.out) (fun b hb => Nat.lt_of_lt_of_le (HS.out b hb) H0.out.size) (by omega)).mono ?_
  rintro e w1 ⟨u, rfl, hown, hb1⟩
  have hsh := slice_ownP (r := itemR) Item.cells (l := l.map itemOf) (fun x hx => by
    obtain ⟨y, hy, rfl⟩ := List.mem_map.1 hx
    obtain ⟨i, hi, rfl⟩ := List.getElem_of_mem hy
    exact ⟨rfl, item_ok _ (insts_ok Hsl.out _ (List.getElem_mem hi))⟩) hown (by decide)
  have Hsh := hide hsh
  clear hown hsh
  go_wp2_with fail
  refine (check_any (l.map itemOf) u _ w1 Hsh.out (fun b hb => hb.2)).mono ?_
  rintro e w2 ⟨rfl, hb2⟩
  rw [itemOf_op, ← HE.out]
  have hX2 : Below X.heap.size X w2 := hb1.trans (hb2.mono hb1.size)
  have B1 := HB1.out.below hX2 (by omega)
  have B2 := HB2.out.below hX2 (by omega)
  have c1 := B1.cell 0
  have c2 := B2.cell 0
  have f1 := B1.frozen 0
  have f2 := B2.frozen 0
  simp at c1 c2
  have D1 := (B1.set_ 0 (.bool false)).far (p := ⟨w.heap.size + 1 + 1, 0, none⟩) (by simp) (.int .i64 17)
  have D2 := (B2.far (p := ⟨w.heap.size + 1, 0, none⟩) (by simp) (.bool false)).set_ 0 (.int .i64 17)
  have d1 := D1.cell 0
  have d2 := D2.cell 0
  simp at d1 d2
  have HX2 := hide hX2
  clear hX2 hb1 hb2 B1 B2 D1 D2
  go_wp2_with fail
  refine leaves_cons (f := 103) (args := #[.pointer (some ⟨w.heap.size + 1, 0, none⟩), .pointer (some ⟨w.heap.size + 1 + 1, 0, none⟩)]) (by simp) (by simp [go_sem]) ?_
  refine (catch_idle ⟨w.heap.size + 1, 0, none⟩ ⟨w.heap.size + 1 + 1, 0, none⟩ _).mono ?_
  rintro e u' w'' ⟨rfl, rfl, rfl⟩
  simp [Leaves, settle, results, Tryz.results80, go_sem, d1, d2]
  exact ⟨rfl, ((H0.out.trans (HX2.out.mono H0.out.size)).setCell (by show _ ≤ w.heap.size + 1; omega) _).setCell (by show _ ≤ w.heap.size + 1 + 1; omega) _⟩

set_option maxRecDepth 100000 in
set_option maxHeartbeats 2000000 in
theorem sides_ok (l : List Inst) (lv : Value) (S : Nat → Prop) (k : Nat) (caps : Array Value) (vv : Value) (o d : Int) (dv cv : Value) (w : World) (h : (sliceR instR).one w S lv l) (hS : ∀ b, S b → b < w.heap.size) (hl : l.length ≤ 900) (hbad : checkE (l.map Inst.op) = 0)
    (hcf : ∀ (args : Array Value) (w : World), (callFunc k args).run Tryz.prog w = .ok (.enter k args) w) (cm : Inst → Option Int) (HL : Hid (∀ x ∈ l, LessOK k caps cm x w)) :
    Calls Tryz.prog 80 #[lv, .func (.func k) #[] caps, stAgg vv o d dv cv] w (SidesPost (holdsG cm o d l) w) := by
  have hmf : ∀ (fn : Fn) (first cap : Array Value) (w : World), (Instr.makeFunc fn first cap).run Tryz.prog w = .ok (.func fn first cap) w := fun _ _ _ _ => rfl
  have Hsl := hide h
  have HS := hide hS
  obtain ⟨R, hR⟩ : ∃ R, R = holdsG cm o d l := ⟨_, rfl⟩
  rw [← hR]
  have hRR : R = topO (runG cm o d l []) := by rw [hR]; unfold holdsG; rw [if_neg (by simpa using hbad)]; exact topO_eq _
  have HR := hide hRR
  clear hR hRR
  obtain ⟨E, hE⟩ : ∃ E, E = checkE (l.map Inst.op) := ⟨_, rfl⟩
  have hne : (E != 0) = false := by rw [hE]; simpa using hbad
  have HE := hide hE
  clear h hS hbad hE
  have hnil := lessNotNil k caps
  obtain ⟨hz, hb0, hB0, hB1, hB2⟩ := W0_facts w vv o d dv cv
  obtain ⟨X, hX⟩ : ∃ X, X = W0 w vv o d dv cv := ⟨_, rfl⟩
  rw [← hX] at hz hb0 hB0 hB1 hB2
  unfold W0 at hX
  have HX := hide hX
  have H0 := hide hb0
  have HB0 := hide hB0
  have HB1 := hide hB1
  have HB2 := hide hB2
  clear hX hb0 hB0 hB1 hB2
  go_enter_defers Tryz.func80, Tryz.ntmps80
  go_wp2_with fail
  rw [← HX.out]
  refine (shape_any l lv S X (slice_below Hsl.out H0.out HS.out) (fun b hb => Nat.lt_of_lt_of_le (HS.out b hb) H0.out.size) (by omega)).mono ?_
  rintro e w1 ⟨u, rfl, hown, hb1⟩
  have hsh := slice_ownP (r := itemR) Item.cells (l := l.map itemOf) (fun x hx => by
    obtain ⟨y, hy, rfl⟩ := List.mem_map.1 hx
    obtain ⟨i, hi, rfl⟩ := List.getElem_of_mem hy
    exact ⟨rfl, item_ok _ (insts_ok Hsl.out _ (List.getElem_mem hi))⟩) hown (by decide)
  have Hsh := hide hsh
  clear hown hsh
  go_wp2_with fail
  refine (check_any (l.map itemOf) u _ w1 Hsh.out (fun b hb => hb.2)).mono ?_
  rintro e w2 ⟨rfl, hb2⟩
  rw [itemOf_op, ← HE.out]
  have hX2 : Below X.heap.size X w2 := hb1.trans (hb2.mono hb1.size)
  have B1 := HB1.out.below hX2 (by omega)
  have B2 := HB2.out.below hX2 (by omega)
  have B0 := HB0.out.below hX2 (by omega)
  have s0 := B0.cell 0
  have s1 := B0.cell 1
  have s2 := B0.cell 2
  have s3 := B0.cell 3
  have s4 := B0.cell 4
  simp at s0 s1 s2 s3 s4
  obtain ⟨Y, hY⟩ : ∃ Y, Y = w2.alloc (.cells #[vv, .int .i64 o, .int .i64 d, dv, cv, .func (.func k) #[] caps, .slice none 0 0] 172) := ⟨_, rfl⟩
  have hX2s := hX2.size
  have hY1 : Below w.heap.size w Y := by rw [hY]; exact (H0.out.trans (hX2.mono (by omega))).alloc (by omega) _
  have hY2 : AskAt Y w2.heap.size Y.heap.size vv o d dv cv (.func (.func k) #[] caps) [] := by
    rw [hY]
    exact ⟨_, Blk.new _ _ _, World.ownsRow_nil _ _ _ _, by simp, fun g hg => by simp [Value.ownBlock] at hg⟩
  have B1' := B1.alloc (.cells #[vv, .int .i64 o, .int .i64 d, dv, cv, .func (.func k) #[] caps, .slice none 0 0] 172)
  have B2' := B2.alloc (.cells #[vv, .int .i64 o, .int .i64 d, dv, cv, .func (.func k) #[] caps, .slice none 0 0] 172)
  rw [← hY] at B1' B2'
  have hYz : Y.heap.size = w2.heap.size + 1 := by rw [hY]; simp
  have HY := hide hY
  have HY1 := hide hY1
  have HY2 := hide hY2
  have HB1Y := hide B1'
  have HB2Y := hide B2'
  obtain ⟨A, c, rfl, hc, hc2⟩ := slice_form Hsl.out
  clear hX2 hb1 hb2 B1 B2 B0 hY hY1 hY2 B1' B2' HB0 HB1 HB2
  go_wp2_with fail
  rw [← HY.out]
  go_loopw [26] (fun iv wr => ∃ (k' : Nat) (L : List Bool), k' ≤ l.length ∧ iv = .int .i64 (k' : Int) ∧ runG cm o d (l.take k') [] = some L.reverse ∧ L.length ≤ k' ∧ AskAt wr w2.heap.size wr.heap.size vv o d dv cv (.func (.func k) #[] caps) L ∧ Below w2.heap.size Y wr ∧ Y.heap.size ≤ wr.heap.size)
    (fun iv wr => l.length - (intOf iv).toNat)
  case atStart => exact ⟨0, [], Nat.zero_le _, rfl, rfl, Nat.le_refl _, HY2.out, Below.refl _ _, Nat.le_refl _⟩
  case round =>
    obtain ⟨i, L, hi, rfl, hrun, hLi, hask, hbl, hysz⟩ := hrel
    have hbw : Below w.heap.size w wr := HY1.out.trans (hbl.mono (by omega))
    have Hrun := hide hrun
    have Hask := hide hask
    clear hrun hask
    by_cases hlt : i < l.length
    · have hsl := slice_below Hsl.out hbw HS.out
      obtain ⟨b, ob, hv, _, _⟩ := slice_some hsl (by omega)
      subst hv
      obtain ⟨hcs, hok⟩ := insts_at hsl hlt
      have hLess := HL.out l[i] (List.getElem_mem hlt)
      have htk : runG cm o d (l.take (i + 1)) [] = stepG cm o d l[i] L.reverse := by
        rw [List.take_succ_eq_append_getElem hlt, runG_snoc, Hrun.out]; rfl
      have hall : runG cm o d l [] = (stepG cm o d l[i] L.reverse).bind (runG cm o d (l.drop (i + 1))) := by
        rw [← htk, ← runG_append, List.take_append_drop]
      have Htk := hide htk
      have Hall := hide hall
      have HLess := hide hLess
      have c0 := hcs 0 _ rfl
      have c1 := hcs 1 _ rfl
      have c2 := hcs 2 _ rfl
      have c3 := hcs 3 _ rfl
      have c4 := hcs 4 _ rfl
      have c5 := hcs 5 _ rfl
      have c6 := hcs 6 _ rfl
      clear htk hall hLess hok hcs hsl
      generalize l[i] = x at *
      obtain ⟨xop, xla, xln, xra, xrn, xn, xu⟩ := x
      simp only [Nat.add_zero] at c0 c1 c2 c3 c4 c5 c6
      have hbx := hbw.alloc (by have := hbw.size; omega) (.cells #[.int .i64 xop, .int .i64 xla, .int .i64 xln, .int .i64 xra, .int .i64 xrn, .int .i64 xn, .int .i64 xu] 174)
      have hax := (Hask.out.below ((Below.refl wr.heap.size wr).alloc (Nat.le_refl _) (.cells #[.int .i64 xop, .int .i64 xla, .int .i64 xln, .int .i64 xra, .int .i64 xrn, .int .i64 xn, .int .i64 xu] 174))).up (H' := (wr.alloc (.cells #[.int .i64 xop, .int .i64 xla, .int .i64 xln, .int .i64 xra, .int .i64 xrn, .int .i64 xn, .int .i64 xu] 174)).heap.size) (by simp)
      cases hst : stepG cm o d ⟨xop, xla, xln, xra, xrn, xn, xu⟩ L.reverse with
      | some r' =>
        have hC := hide (step_some ⟨xop, xla, xln, xra, xrn, xn, xu⟩ cm w2.heap.size k caps vv o d dv cv L r' _ w hax (by omega) hcf HLess.out hbx hst)
        have Hst := hide hst
        clear hst hax hbx
        go_wp2_with fail
        refine hC.out.mono ?_
        rintro e w3 ⟨rfl, ha3, hb3, hs3⟩
        have hlen := stepG_len Hst.out
        rw [List.length_reverse] at hlen
        have Hb3 := hide hb3
        have hs4 : wr.heap.size + 1 ≤ w3.heap.size := by simpa using hs3
        clear hb3 hs3
        go_wp2_with fail
        go_roundw
        case rel => exact ⟨i + 1, r'.reverse, by omega, by go_num, by rw [Htk.out, Hst.out, List.reverse_reverse], by rw [List.length_reverse]; omega, ha3, (hbl.alloc (by omega) _).trans Hb3.out, by omega⟩
        case measure => simp [intOf]; omega
      | none =>
        have hC := hide (step_none ⟨xop, xla, xln, xra, xrn, xn, xu⟩ cm w2.heap.size k caps vv o d dv cv L _ w hax (by omega) hcf HLess.out hbx hst)
        have hRn : R = none := by rw [HR.out, Hall.out, hst]; rfl
        have HRn := hide hRn
        clear hst hax hbx hRn
        go_wp2_with fail
        refine hC.out.mono ?_
        rintro e w3 ⟨rfl, hb3⟩
        have hbY3 : Below w2.heap.size Y w3 := (hbl.alloc (by omega) _).trans hb3
        have hD := hide (catch_lost (w.heap.size + 1) (w.heap.size + 1 + 1) false 0 w3 (HB1Y.out.below hbY3 (by omega)) (HB2Y.out.below hbY3 (by omega)) (by omega) (B := w.heap.size) (by omega) (by omega))
        refine leaves_cons (f := 103) (args := #[.pointer (some ⟨w.heap.size + 1, 0, none⟩), .pointer (some ⟨w.heap.size + 1 + 1, 0, none⟩)]) (by simp) (by simp [go_sem]) ?_
        refine hD.out.mono ?_
        rintro e u' w'' ⟨rfl, rfl, e1, e2, e3⟩
        have d1 := e1.cell 0
        have d2 := e2.cell 0
        simp at d1 d2
        simp [Leaves, settle, results, Tryz.results80, go_sem, d1, d2]
        exact ⟨by rw [HRn.out]; rfl, (HY1.out.trans (hbY3.mono (by omega))).trans e3⟩
    · obtain rfl : i = l.length := by omega
      have hfull := Hrun.out
      rw [List.take_length] at hfull
      rcases nil_or_snoc L with rfl | ⟨q, b, rfl⟩
      · have hRn : R = none := by rw [HR.out, hfull]; rfl
        have HRn := hide hRn
        have hC := hide (askPopNone w2.heap.size wr.heap.size vv o d dv cv _ wr Hask.out)
        clear hRn hfull
        go_wp2_with fail
        refine hC.out.mono ?_
        rintro e w3 ⟨rfl, rfl⟩
        have hD := hide (catch_lost (w.heap.size + 1) (w.heap.size + 1 + 1) false 0 wr (HB1Y.out.below hbl (by omega)) (HB2Y.out.below hbl (by omega)) (by omega) (B := w.heap.size) (by omega) (by omega))
        refine leaves_cons (f := 103) (args := #[.pointer (some ⟨w.heap.size + 1, 0, none⟩), .pointer (some ⟨w.heap.size + 1 + 1, 0, none⟩)]) (by simp) (by simp [go_sem]) ?_
        refine hD.out.mono ?_
        rintro e u' w'' ⟨rfl, rfl, e1, e2, e3⟩
        have d1 := e1.cell 0
        have d2 := e2.cell 0
        simp at d1 d2
        simp [Leaves, settle, results, Tryz.results80, go_sem, d1, d2]
        exact ⟨by rw [HRn.out]; rfl, hbw.trans e3⟩
      · have hRs : R = some b := by rw [HR.out, hfull]; simp [topO]
        have HRs := hide hRs
        have hC := hide (askPop w2.heap.size wr.heap.size vv o d dv cv _ q b wr Hask.out (by simp at hLi; omega))
        clear hRs hfull
        go_wp2_with fail
        refine hC.out.mono ?_
        rintro e w3 ⟨rfl, _, hb3, hs3, _⟩
        have hbY3 : Below w2.heap.size Y w3 := hbl.trans hb3
        have B1 := HB1Y.out.below hbY3 (by omega)
        have B2 := HB2Y.out.below hbY3 (by omega)
        have c1 := B1.cell 0
        have c2 := B2.cell 0
        have f1 := B1.frozen 0
        have f2 := B2.frozen 0
        simp at c1 c2
        have D1 := (B1.set_ 0 (.bool b)).far (p := ⟨w.heap.size + 1 + 1, 0, none⟩) (by simp) (.int .i64 0)
        have D2 := (B2.far (p := ⟨w.heap.size + 1, 0, none⟩) (by simp) (.bool b)).set_ 0 (.int .i64 0)
        have d1 := D1.cell 0
        have d2 := D2.cell 0
        simp at d1 d2
        have HbY3 := hide hbY3
        clear B1 B2 D1 D2 hb3 hbY3
        go_wp2_with fail
        refine leaves_cons (f := 103) (args := #[.pointer (some ⟨w.heap.size + 1, 0, none⟩), .pointer (some ⟨w.heap.size + 1 + 1, 0, none⟩)]) (by simp) (by simp [go_sem]) ?_
        refine (catch_idle ⟨w.heap.size + 1, 0, none⟩ ⟨w.heap.size + 1 + 1, 0, none⟩ _).mono ?_
        rintro e u' w'' ⟨rfl, rfl, rfl⟩
        simp [Leaves, settle, results, Tryz.results80, go_sem, d1, d2]
        exact ⟨by rw [HRs.out]; rfl, ((HY1.out.trans (HbY3.out.mono (by omega))).setCell (by show _ ≤ w.heap.size + 1; omega) _).setCell (by show _ ≤ w.heap.size + 1 + 1; omega) _⟩
end
section
open Go.RowKit

theorem lessEnter (args : Array Value) (w : World) : (callFunc 81 args).run Tryz.prog w = .ok (.enter 81 args) w := by
  simp [go_sem]
theorem lessOK (vals : List Int) (vv : Value) (S : Nat → Prop) (o d : Int) (dv cv : Value) (sb : Nat) (w : World) (h : (sliceR (intR .i64)).one w S vv vals) (hS : ∀ b, S b → b < w.heap.size) (hb : Blk w sb 51 (stCells vv o d dv cv)) (x : Inst) :
    LessOK 81 #[.pointer (some ⟨sb, 0, none⟩)] (cmS vals) x w := by
  intro w' hw
  have h' := slice_below h hw hS
  have hS' : ∀ b, S b → b < w'.heap.size := fun b hb => Nat.lt_of_lt_of_le (hS b hb) hw.size
  have hb' := hb.below hw hb.lt
  unfold cmS
  cases hx : valO vals x.la x.ln with
  | none => exact less_none1 vals vv S o d dv cv x.la x.ln x.ra x.rn sb w' h' hS' hb' hx |>.mono fun e w'' ⟨p, h1, h2, h3⟩ => ⟨by rw [h1, h2], h3⟩
  | some a =>
    cases hy : valO vals x.ra x.rn with
    | none => exact less_none2 vals vv S o d dv cv x.la x.ln x.ra x.rn a sb w' h' hS' hb' hx hy |>.mono fun e w'' ⟨p, h1, h2, h3⟩ => ⟨by rw [h1, h2], h3⟩
    | some b => exact less_some vals vv S o d dv cv x.la x.ln x.ra x.rn a b sb w' h' hS' hb' hx hy

theorem sides_any (l : List Inst) (lv : Value) (S : Nat → Prop) (k : Nat) (caps : Array Value) (vv : Value) (o d : Int) (dv cv : Value) (w : World) (h : (sliceR instR).one w S lv l) (hS : ∀ b, S b → b < w.heap.size) (hl : l.length ≤ 900)
    (hcf : ∀ (args : Array Value) (w : World), (callFunc k args).run Tryz.prog w = .ok (.enter k args) w) (cm : Inst → Option Int) (HL : ∀ x ∈ l, LessOK k caps cm x w) :
    Calls Tryz.prog 80 #[lv, .func (.func k) #[] caps, stAgg vv o d dv cv] w (SidesPost (holdsG cm o d l) w) := by
  by_cases hc : checkE (l.map Inst.op) = 0
  · exact sides_ok l lv S k caps vv o d dv cv w h hS hl hc hcf cm (hide HL)
  · have e : holdsG cm o d l = none := by unfold holdsG; rw [if_pos hc]
    rw [e]
    exact sides_bad l lv S k caps vv o d dv cv w h hS hl hc

set_option maxHeartbeats 1000000 in
theorem holds_any (l : List Inst) (s : St) (lv vv : Value) (dv cv : Value) (S T : Nat → Prop) (w : World) (h : (sliceR instR).one w S lv l) (hS : ∀ b, S b → b < w.heap.size) (hl : l.length ≤ 900) (hv : (sliceR (intR .i64)).one w T vv s.vals) (hT : ∀ b, T b → b < w.heap.size) :
    Calls Tryz.prog 63 #[lv, stAgg vv s.opn s.don dv cv] w (SidesPost (holdsO l s) w) := by
  obtain ⟨vals, o, d, did, cnt⟩ := s
  simp only at hv ⊢
  unfold holdsO
  simp only
  have hmf : ∀ (fn : Fn) (first cap : Array Value) (w : World), (Instr.makeFunc fn first cap).run Tryz.prog w = .ok (.func fn first cap) w := fun _ _ _ _ => rfl
  have hb0 : Below w.heap.size w (w.alloc (.cells #[vv, .int .i64 o, .int .i64 d, dv, cv] 51)) := (Below.refl _ _).alloc (Nat.le_refl _) _
  have hC := hide (sides_any l lv S 81 #[.pointer (some ⟨w.heap.size, 0, none⟩)] vv o d dv cv _ (slice_below h hb0 hS) (fun b hb => by have := hS b hb; simp; omega) hl lessEnter (cmS vals) (fun x _ => lessOK vals vv T o d dv cv w.heap.size _ (slice_below hv hb0 hT) (fun b hb => by have := hT b hb; simp; omega) (Blk.new w _ _) x))
  have HB := hide hb0
  clear h hS hv hT hb0
  go_enter Tryz.func63, Tryz.ntmps63
  go_wp2_with fail
  refine hC.out.mono ?_
  rintro e w1 ⟨rfl, hb1⟩
  go_wp2_with fail
  go_ret2
  exact ⟨rfl, HB.out.trans (hb1.mono HB.out.size)⟩
end
end Go.Proofs.YtodbhccfajgekaaGreatDoor
