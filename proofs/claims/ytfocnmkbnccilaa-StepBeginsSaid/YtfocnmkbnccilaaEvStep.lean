/-
  The walk of one step of the asker. No condition.
-/
import Derived.Test.YtfocnmkbnccilaaEvAsk2
set_option linter.unusedVariables false
set_option linter.unusedSimpArgs false
namespace Go.Proofs.Ytfocnmkbnccilaa
open Go.RowKit
attribute [local go_sem ↓] Go.wp_at_zero Go.wp_at_succ

def StepPost (a : Nat) (vv : Value) (o d : Int) (dv cv f : Value) (L : List Bool) (w : World) (e : Ending) (w' : World) : Prop := e = .returned (.tuple #[]) ∧ AskAt w' a w'.heap.size vv o d dv cv f L ∧ Below a w w' ∧ w.heap.size ≤ w'.heap.size
abbrev instAgg (op la ln ra rn n u : Int) : Value := .agg #[.int .i64 op, .agg #[.int .i64 la, .int .i64 ln], .agg #[.int .i64 ra, .int .i64 rn], .int .i64 n, .int .i64 u]
abbrev instVal (op la ln ra rn n u : Int) : Value := .agg #[.int .i64 op, .int .i64 la, .int .i64 ln, .int .i64 ra, .int .i64 rn, .int .i64 n, .int .i64 u]

set_option maxRecDepth 100000 in
set_option maxHeartbeats 1000000 in
theorem stepT (op la ln ra rn n u : Int) (a : Nat) (vv : Value) (o d : Int) (dv cv f : Value) (L : List Bool) (w : World) (h : AskAt w a w.heap.size vv o d dv cv f L) (hL : L.length ≤ 1000) (ho : op = 1 ∨ op = 2) :
    Calls Try.prog 125 #[.pointer (some ⟨a, 0, none⟩), instVal op la ln ra rn n u] w (StepPost a vv o d dv cv f (L ++ [op == 1]) w) := by
  have hb0 : Below w.heap.size w (w.alloc (.cells #[.int .i64 op, .int .i64 la, .int .i64 ln, .int .i64 ra, .int .i64 rn, .int .i64 n, .int .i64 u] 92)) := (Below.refl _ _).alloc (Nat.le_refl _) _
  have hal : a < w.heap.size := by obtain ⟨_, _, _, h3, _⟩ := h; exact h3
  have Hp := hide (fun b => askPush a w.heap.size vv o d dv cv f L b _ (h.below hb0) hL)
  have Hb := hide hb0
  clear h hb0
  rcases ho with rfl | rfl
  all_goals
    go_enter Try.func125, Try.ntmps125
    go_wp2_with (go_at_call 134; refine (Hp.out _).mono ?_; rintro e w' ⟨rfl, ha, hbl, hsz, _⟩)
    go_end0
    exact ⟨rfl, ha, Hb.out.mono (Nat.le_of_lt hal) |>.trans hbl, Nat.le_trans Hb.out.size hsz⟩


set_option maxRecDepth 100000 in
set_option maxHeartbeats 4000000 in
theorem stepCmp3 (la ln ra rn n u c : Int) (a k : Nat) (caps : Array Value) (vv : Value) (o d : Int) (dv cv : Value) (L : List Bool) (w : World) (h : AskAt w a w.heap.size vv o d dv cv (.func (.func k) #[] caps) L) (hL : L.length ≤ 1000)
    (hcf : ∀ (args : Array Value) (w : World), (callFunc k args).run Try.prog w = .ok (.enter k args) w)
    (HL : Hid (∀ w', Below w.heap.size w w' → Calls Try.prog k (#[.agg #[.int .i64 la, .int .i64 ln], .agg #[.int .i64 ra, .int .i64 rn]] ++ caps) w' fun e w'' => e = .returned (.int .i64 c) ∧ Below w'.heap.size w' w'')) :
    Calls Try.prog 125 #[.pointer (some ⟨a, 0, none⟩), instVal 3 la ln ra rn n u] w (StepPost a vv o d dv cv (.func (.func k) #[] caps) (L ++ [soB 3 c]) w) := by
  obtain ⟨W, hW⟩ : ∃ W, W = w.alloc (.cells #[(.int .i64 3), .int .i64 la, .int .i64 ln, .int .i64 ra, .int .i64 rn, .int .i64 n, .int .i64 u] 92) := ⟨_, rfl⟩
  have hb0 : Below w.heap.size w W := by rw [hW]; exact (Below.refl _ _).alloc (Nat.le_refl _) _
  have hal : a < w.heap.size := by obtain ⟨_, _, _, h3, _⟩ := h; exact h3
  have hz : W.heap.size = w.heap.size + 1 := by rw [hW]; simp
  have c5 := (h.below hb0).cells.2.2.2
  have x0 : W.cell? ⟨w.heap.size, 0, none⟩ = some (.int .i64 3) := by rw [hW]; simp
  have x1 : W.cell? ⟨w.heap.size, 1, none⟩ = some (.int .i64 la) := by rw [hW]; simp
  have x2 : W.cell? ⟨w.heap.size, 2, none⟩ = some (.int .i64 ln) := by rw [hW]; simp
  have x3 : W.cell? ⟨w.heap.size, 3, none⟩ = some (.int .i64 ra) := by rw [hW]; simp
  have x4 : W.cell? ⟨w.heap.size, 4, none⟩ = some (.int .i64 rn) := by rw [hW]; simp
  have KB := hide (fun (w' : World) (hb : Below W.heap.size W w') => (⟨(hb.cell (p := ⟨a, 5, none⟩) (by show a < _; omega)).trans c5, (hb.cell (p := ⟨w.heap.size, 0, none⟩) (by show w.heap.size < _; omega)).trans x0, (hb.cell (p := ⟨w.heap.size, 1, none⟩) (by show w.heap.size < _; omega)).trans x1, (hb.cell (p := ⟨w.heap.size, 2, none⟩) (by show w.heap.size < _; omega)).trans x2, (hb.cell (p := ⟨w.heap.size, 3, none⟩) (by show w.heap.size < _; omega)).trans x3, (hb.cell (p := ⟨w.heap.size, 4, none⟩) (by show w.heap.size < _; omega)).trans x4⟩ :
    w'.cell? ⟨a, 5, none⟩ = some (.func (.func k) #[] caps) ∧ w'.cell? ⟨w.heap.size, 0, none⟩ = some (.int .i64 3) ∧ w'.cell? ⟨w.heap.size, 1, none⟩ = some (.int .i64 la) ∧ w'.cell? ⟨w.heap.size, 2, none⟩ = some (.int .i64 ln) ∧ w'.cell? ⟨w.heap.size, 3, none⟩ = some (.int .i64 ra) ∧ w'.cell? ⟨w.heap.size, 4, none⟩ = some (.int .i64 rn)))
  have KP := hide (fun (w1 w2 : World) (hb : Below W.heap.size W w1) (ha : AskAt w2 a w2.heap.size vv o d dv cv (.func (.func k) #[] caps) (L ++ [soB 3 c])) (hp : Past w.heap.size w1 w2) => by
    obtain ⟨q0, q1, q2, q3, q4, q5⟩ := KB.out w1 hb
    have hs : w.heap.size < w1.heap.size := by have := hb.size; omega
    exact (⟨ha.cells.2.2.2, (hp.cell (Nat.le_refl _) hs).trans q1, (hp.cell (Nat.le_refl _) hs).trans q2, (hp.cell (Nat.le_refl _) hs).trans q3, (hp.cell (Nat.le_refl _) hs).trans q4, (hp.cell (Nat.le_refl _) hs).trans q5⟩ :
      w2.cell? ⟨a, 5, none⟩ = some (.func (.func k) #[] caps) ∧ w2.cell? ⟨w.heap.size, 0, none⟩ = some (.int .i64 3) ∧ w2.cell? ⟨w.heap.size, 1, none⟩ = some (.int .i64 la) ∧ w2.cell? ⟨w.heap.size, 2, none⟩ = some (.int .i64 ln) ∧ w2.cell? ⟨w.heap.size, 3, none⟩ = some (.int .i64 ra) ∧ w2.cell? ⟨w.heap.size, 4, none⟩ = some (.int .i64 rn)))
  have H := hide h
  have HW := hide hW
  have HB := hide hb0
  clear h hb0 hW
  go_enter Try.func125, Try.ntmps125
  go_wp2_with fail
  rw [← HW.out]
  have hS0 := KB.out W.drew ((Below.refl _ _).drew)
  go_region_held3 (fun w' => w'.cell? ⟨a, 5, none⟩ = some (.func (.func k) #[] caps) ∧ w'.cell? ⟨w.heap.size, 0, none⟩ = some (.int .i64 3) ∧ w'.cell? ⟨w.heap.size, 1, none⟩ = some (.int .i64 la) ∧ w'.cell? ⟨w.heap.size, 2, none⟩ = some (.int .i64 ln) ∧ w'.cell? ⟨w.heap.size, 3, none⟩ = some (.int .i64 ra) ∧ w'.cell? ⟨w.heap.size, 4, none⟩ = some (.int .i64 rn)) (assumption)
    (first
      | (go_at_call 135; refine (so_any _ _ _).mono ?_; rintro e w' ⟨rfl, rfl⟩)
      | (go_at_call 134; (with_reducible refine (askPush a w.heap.size vv o d dv cv _ L _ _ (H.out.below hbw1) hL).mono ?_); rintro e w2 ⟨rfl, ha, hbl, hsz, hpast⟩; have K2 := KP.out _ _ hbW1 ha hpast)
      | ((with_reducible refine (HL.out _ HB.out.drew).mono ?_); rintro e w1 ⟨rfl, hb1⟩; have hbW1 : Below W.heap.size W w1 := (Below.refl W.heap.size W).drew.trans hb1; have K1 := KB.out w1 hbW1; have hbw1 : Below w.heap.size w w1 := HB.out.trans (hbW1.mono HB.out.size)))
  all_goals
    go_wp2_with fail
    go_end0
    exact ⟨rfl, ha, (hbw1.mono (Nat.le_of_lt hal)).trans hbl, Nat.le_trans hbw1.size hsz⟩
set_option maxRecDepth 100000 in
set_option maxHeartbeats 4000000 in
theorem stepNo3 (la ln ra rn n u : Int) (a k : Nat) (caps : Array Value) (vv : Value) (o d : Int) (dv cv : Value) (L : List Bool) (w : World) (h : AskAt w a w.heap.size vv o d dv cv (.func (.func k) #[] caps) L) (hL : L.length ≤ 1000)
    (hcf : ∀ (args : Array Value) (w : World), (callFunc k args).run Try.prog w = .ok (.enter k args) w)
    (HL : Hid (∀ w', Below w.heap.size w w' → Calls Try.prog k (#[.agg #[.int .i64 la, .int .i64 ln], .agg #[.int .i64 ra, .int .i64 rn]] ++ caps) w' fun e w'' => e = .panicked lostP ∧ Below w'.heap.size w' w'')) :
    Calls Try.prog 125 #[.pointer (some ⟨a, 0, none⟩), instVal 3 la ln ra rn n u] w fun e w' => e = .panicked lostP ∧ Below a w w' := by
  obtain ⟨W, hW⟩ : ∃ W, W = w.alloc (.cells #[(.int .i64 3), .int .i64 la, .int .i64 ln, .int .i64 ra, .int .i64 rn, .int .i64 n, .int .i64 u] 92) := ⟨_, rfl⟩
  have hb0 : Below w.heap.size w W := by rw [hW]; exact (Below.refl _ _).alloc (Nat.le_refl _) _
  have hal : a < w.heap.size := by obtain ⟨_, _, _, h3, _⟩ := h; exact h3
  have hz : W.heap.size = w.heap.size + 1 := by rw [hW]; simp
  have c5 := (h.below hb0).cells.2.2.2
  have x0 : W.cell? ⟨w.heap.size, 0, none⟩ = some (.int .i64 3) := by rw [hW]; simp
  have x1 : W.cell? ⟨w.heap.size, 1, none⟩ = some (.int .i64 la) := by rw [hW]; simp
  have x2 : W.cell? ⟨w.heap.size, 2, none⟩ = some (.int .i64 ln) := by rw [hW]; simp
  have x3 : W.cell? ⟨w.heap.size, 3, none⟩ = some (.int .i64 ra) := by rw [hW]; simp
  have x4 : W.cell? ⟨w.heap.size, 4, none⟩ = some (.int .i64 rn) := by rw [hW]; simp
  have KB := hide (fun (w' : World) (hb : Below W.heap.size W w') => (⟨(hb.cell (p := ⟨a, 5, none⟩) (by show a < _; omega)).trans c5, (hb.cell (p := ⟨w.heap.size, 0, none⟩) (by show w.heap.size < _; omega)).trans x0, (hb.cell (p := ⟨w.heap.size, 1, none⟩) (by show w.heap.size < _; omega)).trans x1, (hb.cell (p := ⟨w.heap.size, 2, none⟩) (by show w.heap.size < _; omega)).trans x2, (hb.cell (p := ⟨w.heap.size, 3, none⟩) (by show w.heap.size < _; omega)).trans x3, (hb.cell (p := ⟨w.heap.size, 4, none⟩) (by show w.heap.size < _; omega)).trans x4⟩ :
    w'.cell? ⟨a, 5, none⟩ = some (.func (.func k) #[] caps) ∧ w'.cell? ⟨w.heap.size, 0, none⟩ = some (.int .i64 3) ∧ w'.cell? ⟨w.heap.size, 1, none⟩ = some (.int .i64 la) ∧ w'.cell? ⟨w.heap.size, 2, none⟩ = some (.int .i64 ln) ∧ w'.cell? ⟨w.heap.size, 3, none⟩ = some (.int .i64 ra) ∧ w'.cell? ⟨w.heap.size, 4, none⟩ = some (.int .i64 rn)))
  have H := hide h
  have HW := hide hW
  have HB := hide hb0
  clear h hb0 hW
  go_enter Try.func125, Try.ntmps125
  go_wp2_with fail
  rw [← HW.out]
  have hS0 := KB.out W.drew ((Below.refl _ _).drew)
  refine wp_region_held (S := fun w' => w'.cell? ⟨a, 5, none⟩ = some (.func (.func k) #[] caps) ∧ w'.cell? ⟨w.heap.size, 0, none⟩ = some (.int .i64 3) ∧ w'.cell? ⟨w.heap.size, 1, none⟩ = some (.int .i64 la) ∧ w'.cell? ⟨w.heap.size, 2, none⟩ = some (.int .i64 ln) ∧ w'.cell? ⟨w.heap.size, 3, none⟩ = some (.int .i64 ra) ∧ w'.cell? ⟨w.heap.size, 4, none⟩ = some (.int .i64 rn)) (by kernel_rfl) ?_
  refine wpAnyH_take (i := 0) (v := .pointer (some ⟨a, 0, none⟩)) rfl (by kernel_rfl) (by kernel_rfl) (by kernel_rfl) (fun _ _ _ h => h) (Or.inl ⟨by rfl, ?_⟩) hS0 ?_
  · intro w hSw; obtain ⟨q0, q1, q2, q3, q4, q5⟩ := hSw; go_simp
  refine wpAnyH_take (i := 1) (v := .pointer (some ⟨w.heap.size, 0, none⟩)) rfl (by kernel_rfl) (by kernel_rfl) (by kernel_rfl) (fun _ _ _ h => h) (Or.inl ⟨by rfl, ?_⟩) hS0 ?_
  · intro w hSw; obtain ⟨q0, q1, q2, q3, q4, q5⟩ := hSw; go_simp
  refine wpAnyH_take (i := 2) (v := .int .i64 3) rfl (by kernel_rfl) (by kernel_rfl) (by kernel_rfl) (fun _ _ _ h => h) (Or.inl ⟨by rfl, ?_⟩) hS0 ?_
  · intro w hSw; obtain ⟨q0, q1, q2, q3, q4, q5⟩ := hSw; go_simp
  refine wpAnyH_take (i := 3) (v := .pointer (some ⟨a, 0, none⟩)) rfl (by kernel_rfl) (by kernel_rfl) (by kernel_rfl) (fun _ _ _ h => h) (Or.inl ⟨by rfl, ?_⟩) hS0 ?_
  · intro w hSw; obtain ⟨q0, q1, q2, q3, q4, q5⟩ := hSw; go_simp
  refine wpAnyH_take (i := 4) (v := .pointer (some ⟨a, 0, none⟩)) rfl (by kernel_rfl) (by kernel_rfl) (by kernel_rfl) (fun _ _ _ h => h) (Or.inl ⟨by rfl, ?_⟩) hS0 ?_
  · intro w hSw; obtain ⟨q0, q1, q2, q3, q4, q5⟩ := hSw; go_simp
  refine wpAnyH_take (i := 5) (v := .pointer (some ⟨a, 5, none⟩)) rfl (by kernel_rfl) (by kernel_rfl) (by kernel_rfl) (fun _ _ _ h => h) (Or.inl ⟨by rfl, ?_⟩) hS0 ?_
  · intro w hSw; obtain ⟨q0, q1, q2, q3, q4, q5⟩ := hSw; go_simp
  refine wpAnyH_take (i := 6) (v := .func (.func k) #[] caps) rfl (by kernel_rfl) (by kernel_rfl) (by kernel_rfl) (fun _ _ _ h => h) (Or.inl ⟨by rfl, ?_⟩) hS0 ?_
  · intro w hSw; obtain ⟨q0, q1, q2, q3, q4, q5⟩ := hSw; go_simp
  refine wpAnyH_take (i := 7) (v := .pointer (some ⟨w.heap.size, 1, none⟩)) rfl (by kernel_rfl) (by kernel_rfl) (by kernel_rfl) (fun _ _ _ h => h) (Or.inl ⟨by rfl, ?_⟩) hS0 ?_
  · intro w hSw; obtain ⟨q0, q1, q2, q3, q4, q5⟩ := hSw; go_simp
  refine wpAnyH_take (i := 8) (v := .agg #[.int .i64 la, .int .i64 ln]) rfl (by kernel_rfl) (by kernel_rfl) (by kernel_rfl) (fun _ _ _ h => h) (Or.inl ⟨by rfl, ?_⟩) hS0 ?_
  · intro w hSw; obtain ⟨q0, q1, q2, q3, q4, q5⟩ := hSw; go_simp
  refine wpAnyH_take (i := 9) (v := .pointer (some ⟨w.heap.size, 3, none⟩)) rfl (by kernel_rfl) (by kernel_rfl) (by kernel_rfl) (fun _ _ _ h => h) (Or.inl ⟨by rfl, ?_⟩) hS0 ?_
  · intro w hSw; obtain ⟨q0, q1, q2, q3, q4, q5⟩ := hSw; go_simp
  refine wpAnyH_take (i := 10) (v := .agg #[.int .i64 ra, .int .i64 rn]) rfl (by kernel_rfl) (by kernel_rfl) (by kernel_rfl) (fun _ _ _ h => h) (Or.inl ⟨by rfl, ?_⟩) hS0 ?_
  · intro w hSw; obtain ⟨q0, q1, q2, q3, q4, q5⟩ := hSw; go_simp
  refine wpAnyH_ready (rs := [11]) (by kernel_rfl) (by simp) ?_
  refine AllReadyH.cons (o := _) rfl (fun K hK => ?_) AllReadyH.nil
  go_simp
  refine (HL.out _ HB.out.drew).mono ?_
  rintro e w1 ⟨rfl, hb1⟩
  have hbW1 : Below W.heap.size W w1 := (Below.refl W.heap.size W).drew.trans hb1
  exact ⟨rfl, rfl, (HB.out.mono (Nat.le_of_lt hal)).trans (hbW1.mono (by omega))⟩
set_option maxRecDepth 100000 in
set_option maxHeartbeats 4000000 in
theorem stepCmp4 (la ln ra rn n u c : Int) (a k : Nat) (caps : Array Value) (vv : Value) (o d : Int) (dv cv : Value) (L : List Bool) (w : World) (h : AskAt w a w.heap.size vv o d dv cv (.func (.func k) #[] caps) L) (hL : L.length ≤ 1000)
    (hcf : ∀ (args : Array Value) (w : World), (callFunc k args).run Try.prog w = .ok (.enter k args) w)
    (HL : Hid (∀ w', Below w.heap.size w w' → Calls Try.prog k (#[.agg #[.int .i64 la, .int .i64 ln], .agg #[.int .i64 ra, .int .i64 rn]] ++ caps) w' fun e w'' => e = .returned (.int .i64 c) ∧ Below w'.heap.size w' w'')) :
    Calls Try.prog 125 #[.pointer (some ⟨a, 0, none⟩), instVal 4 la ln ra rn n u] w (StepPost a vv o d dv cv (.func (.func k) #[] caps) (L ++ [soB 4 c]) w) := by
  obtain ⟨W, hW⟩ : ∃ W, W = w.alloc (.cells #[(.int .i64 4), .int .i64 la, .int .i64 ln, .int .i64 ra, .int .i64 rn, .int .i64 n, .int .i64 u] 92) := ⟨_, rfl⟩
  have hb0 : Below w.heap.size w W := by rw [hW]; exact (Below.refl _ _).alloc (Nat.le_refl _) _
  have hal : a < w.heap.size := by obtain ⟨_, _, _, h3, _⟩ := h; exact h3
  have hz : W.heap.size = w.heap.size + 1 := by rw [hW]; simp
  have c5 := (h.below hb0).cells.2.2.2
  have x0 : W.cell? ⟨w.heap.size, 0, none⟩ = some (.int .i64 4) := by rw [hW]; simp
  have x1 : W.cell? ⟨w.heap.size, 1, none⟩ = some (.int .i64 la) := by rw [hW]; simp
  have x2 : W.cell? ⟨w.heap.size, 2, none⟩ = some (.int .i64 ln) := by rw [hW]; simp
  have x3 : W.cell? ⟨w.heap.size, 3, none⟩ = some (.int .i64 ra) := by rw [hW]; simp
  have x4 : W.cell? ⟨w.heap.size, 4, none⟩ = some (.int .i64 rn) := by rw [hW]; simp
  have KB := hide (fun (w' : World) (hb : Below W.heap.size W w') => (⟨(hb.cell (p := ⟨a, 5, none⟩) (by show a < _; omega)).trans c5, (hb.cell (p := ⟨w.heap.size, 0, none⟩) (by show w.heap.size < _; omega)).trans x0, (hb.cell (p := ⟨w.heap.size, 1, none⟩) (by show w.heap.size < _; omega)).trans x1, (hb.cell (p := ⟨w.heap.size, 2, none⟩) (by show w.heap.size < _; omega)).trans x2, (hb.cell (p := ⟨w.heap.size, 3, none⟩) (by show w.heap.size < _; omega)).trans x3, (hb.cell (p := ⟨w.heap.size, 4, none⟩) (by show w.heap.size < _; omega)).trans x4⟩ :
    w'.cell? ⟨a, 5, none⟩ = some (.func (.func k) #[] caps) ∧ w'.cell? ⟨w.heap.size, 0, none⟩ = some (.int .i64 4) ∧ w'.cell? ⟨w.heap.size, 1, none⟩ = some (.int .i64 la) ∧ w'.cell? ⟨w.heap.size, 2, none⟩ = some (.int .i64 ln) ∧ w'.cell? ⟨w.heap.size, 3, none⟩ = some (.int .i64 ra) ∧ w'.cell? ⟨w.heap.size, 4, none⟩ = some (.int .i64 rn)))
  have KP := hide (fun (w1 w2 : World) (hb : Below W.heap.size W w1) (ha : AskAt w2 a w2.heap.size vv o d dv cv (.func (.func k) #[] caps) (L ++ [soB 4 c])) (hp : Past w.heap.size w1 w2) => by
    obtain ⟨q0, q1, q2, q3, q4, q5⟩ := KB.out w1 hb
    have hs : w.heap.size < w1.heap.size := by have := hb.size; omega
    exact (⟨ha.cells.2.2.2, (hp.cell (Nat.le_refl _) hs).trans q1, (hp.cell (Nat.le_refl _) hs).trans q2, (hp.cell (Nat.le_refl _) hs).trans q3, (hp.cell (Nat.le_refl _) hs).trans q4, (hp.cell (Nat.le_refl _) hs).trans q5⟩ :
      w2.cell? ⟨a, 5, none⟩ = some (.func (.func k) #[] caps) ∧ w2.cell? ⟨w.heap.size, 0, none⟩ = some (.int .i64 4) ∧ w2.cell? ⟨w.heap.size, 1, none⟩ = some (.int .i64 la) ∧ w2.cell? ⟨w.heap.size, 2, none⟩ = some (.int .i64 ln) ∧ w2.cell? ⟨w.heap.size, 3, none⟩ = some (.int .i64 ra) ∧ w2.cell? ⟨w.heap.size, 4, none⟩ = some (.int .i64 rn)))
  have H := hide h
  have HW := hide hW
  have HB := hide hb0
  clear h hb0 hW
  go_enter Try.func125, Try.ntmps125
  go_wp2_with fail
  rw [← HW.out]
  have hS0 := KB.out W.drew ((Below.refl _ _).drew)
  go_region_held3 (fun w' => w'.cell? ⟨a, 5, none⟩ = some (.func (.func k) #[] caps) ∧ w'.cell? ⟨w.heap.size, 0, none⟩ = some (.int .i64 4) ∧ w'.cell? ⟨w.heap.size, 1, none⟩ = some (.int .i64 la) ∧ w'.cell? ⟨w.heap.size, 2, none⟩ = some (.int .i64 ln) ∧ w'.cell? ⟨w.heap.size, 3, none⟩ = some (.int .i64 ra) ∧ w'.cell? ⟨w.heap.size, 4, none⟩ = some (.int .i64 rn)) (assumption)
    (first
      | (go_at_call 135; refine (so_any _ _ _).mono ?_; rintro e w' ⟨rfl, rfl⟩)
      | (go_at_call 134; (with_reducible refine (askPush a w.heap.size vv o d dv cv _ L _ _ (H.out.below hbw1) hL).mono ?_); rintro e w2 ⟨rfl, ha, hbl, hsz, hpast⟩; have K2 := KP.out _ _ hbW1 ha hpast)
      | ((with_reducible refine (HL.out _ HB.out.drew).mono ?_); rintro e w1 ⟨rfl, hb1⟩; have hbW1 : Below W.heap.size W w1 := (Below.refl W.heap.size W).drew.trans hb1; have K1 := KB.out w1 hbW1; have hbw1 : Below w.heap.size w w1 := HB.out.trans (hbW1.mono HB.out.size)))
  all_goals
    go_wp2_with fail
    go_end0
    exact ⟨rfl, ha, (hbw1.mono (Nat.le_of_lt hal)).trans hbl, Nat.le_trans hbw1.size hsz⟩
set_option maxRecDepth 100000 in
set_option maxHeartbeats 4000000 in
theorem stepNo4 (la ln ra rn n u : Int) (a k : Nat) (caps : Array Value) (vv : Value) (o d : Int) (dv cv : Value) (L : List Bool) (w : World) (h : AskAt w a w.heap.size vv o d dv cv (.func (.func k) #[] caps) L) (hL : L.length ≤ 1000)
    (hcf : ∀ (args : Array Value) (w : World), (callFunc k args).run Try.prog w = .ok (.enter k args) w)
    (HL : Hid (∀ w', Below w.heap.size w w' → Calls Try.prog k (#[.agg #[.int .i64 la, .int .i64 ln], .agg #[.int .i64 ra, .int .i64 rn]] ++ caps) w' fun e w'' => e = .panicked lostP ∧ Below w'.heap.size w' w'')) :
    Calls Try.prog 125 #[.pointer (some ⟨a, 0, none⟩), instVal 4 la ln ra rn n u] w fun e w' => e = .panicked lostP ∧ Below a w w' := by
  obtain ⟨W, hW⟩ : ∃ W, W = w.alloc (.cells #[(.int .i64 4), .int .i64 la, .int .i64 ln, .int .i64 ra, .int .i64 rn, .int .i64 n, .int .i64 u] 92) := ⟨_, rfl⟩
  have hb0 : Below w.heap.size w W := by rw [hW]; exact (Below.refl _ _).alloc (Nat.le_refl _) _
  have hal : a < w.heap.size := by obtain ⟨_, _, _, h3, _⟩ := h; exact h3
  have hz : W.heap.size = w.heap.size + 1 := by rw [hW]; simp
  have c5 := (h.below hb0).cells.2.2.2
  have x0 : W.cell? ⟨w.heap.size, 0, none⟩ = some (.int .i64 4) := by rw [hW]; simp
  have x1 : W.cell? ⟨w.heap.size, 1, none⟩ = some (.int .i64 la) := by rw [hW]; simp
  have x2 : W.cell? ⟨w.heap.size, 2, none⟩ = some (.int .i64 ln) := by rw [hW]; simp
  have x3 : W.cell? ⟨w.heap.size, 3, none⟩ = some (.int .i64 ra) := by rw [hW]; simp
  have x4 : W.cell? ⟨w.heap.size, 4, none⟩ = some (.int .i64 rn) := by rw [hW]; simp
  have KB := hide (fun (w' : World) (hb : Below W.heap.size W w') => (⟨(hb.cell (p := ⟨a, 5, none⟩) (by show a < _; omega)).trans c5, (hb.cell (p := ⟨w.heap.size, 0, none⟩) (by show w.heap.size < _; omega)).trans x0, (hb.cell (p := ⟨w.heap.size, 1, none⟩) (by show w.heap.size < _; omega)).trans x1, (hb.cell (p := ⟨w.heap.size, 2, none⟩) (by show w.heap.size < _; omega)).trans x2, (hb.cell (p := ⟨w.heap.size, 3, none⟩) (by show w.heap.size < _; omega)).trans x3, (hb.cell (p := ⟨w.heap.size, 4, none⟩) (by show w.heap.size < _; omega)).trans x4⟩ :
    w'.cell? ⟨a, 5, none⟩ = some (.func (.func k) #[] caps) ∧ w'.cell? ⟨w.heap.size, 0, none⟩ = some (.int .i64 4) ∧ w'.cell? ⟨w.heap.size, 1, none⟩ = some (.int .i64 la) ∧ w'.cell? ⟨w.heap.size, 2, none⟩ = some (.int .i64 ln) ∧ w'.cell? ⟨w.heap.size, 3, none⟩ = some (.int .i64 ra) ∧ w'.cell? ⟨w.heap.size, 4, none⟩ = some (.int .i64 rn)))
  have H := hide h
  have HW := hide hW
  have HB := hide hb0
  clear h hb0 hW
  go_enter Try.func125, Try.ntmps125
  go_wp2_with fail
  rw [← HW.out]
  have hS0 := KB.out W.drew ((Below.refl _ _).drew)
  refine wp_region_held (S := fun w' => w'.cell? ⟨a, 5, none⟩ = some (.func (.func k) #[] caps) ∧ w'.cell? ⟨w.heap.size, 0, none⟩ = some (.int .i64 4) ∧ w'.cell? ⟨w.heap.size, 1, none⟩ = some (.int .i64 la) ∧ w'.cell? ⟨w.heap.size, 2, none⟩ = some (.int .i64 ln) ∧ w'.cell? ⟨w.heap.size, 3, none⟩ = some (.int .i64 ra) ∧ w'.cell? ⟨w.heap.size, 4, none⟩ = some (.int .i64 rn)) (by kernel_rfl) ?_
  refine wpAnyH_take (i := 0) (v := .pointer (some ⟨a, 0, none⟩)) rfl (by kernel_rfl) (by kernel_rfl) (by kernel_rfl) (fun _ _ _ h => h) (Or.inl ⟨by rfl, ?_⟩) hS0 ?_
  · intro w hSw; obtain ⟨q0, q1, q2, q3, q4, q5⟩ := hSw; go_simp
  refine wpAnyH_take (i := 1) (v := .pointer (some ⟨w.heap.size, 0, none⟩)) rfl (by kernel_rfl) (by kernel_rfl) (by kernel_rfl) (fun _ _ _ h => h) (Or.inl ⟨by rfl, ?_⟩) hS0 ?_
  · intro w hSw; obtain ⟨q0, q1, q2, q3, q4, q5⟩ := hSw; go_simp
  refine wpAnyH_take (i := 2) (v := .int .i64 4) rfl (by kernel_rfl) (by kernel_rfl) (by kernel_rfl) (fun _ _ _ h => h) (Or.inl ⟨by rfl, ?_⟩) hS0 ?_
  · intro w hSw; obtain ⟨q0, q1, q2, q3, q4, q5⟩ := hSw; go_simp
  refine wpAnyH_take (i := 3) (v := .pointer (some ⟨a, 0, none⟩)) rfl (by kernel_rfl) (by kernel_rfl) (by kernel_rfl) (fun _ _ _ h => h) (Or.inl ⟨by rfl, ?_⟩) hS0 ?_
  · intro w hSw; obtain ⟨q0, q1, q2, q3, q4, q5⟩ := hSw; go_simp
  refine wpAnyH_take (i := 4) (v := .pointer (some ⟨a, 0, none⟩)) rfl (by kernel_rfl) (by kernel_rfl) (by kernel_rfl) (fun _ _ _ h => h) (Or.inl ⟨by rfl, ?_⟩) hS0 ?_
  · intro w hSw; obtain ⟨q0, q1, q2, q3, q4, q5⟩ := hSw; go_simp
  refine wpAnyH_take (i := 5) (v := .pointer (some ⟨a, 5, none⟩)) rfl (by kernel_rfl) (by kernel_rfl) (by kernel_rfl) (fun _ _ _ h => h) (Or.inl ⟨by rfl, ?_⟩) hS0 ?_
  · intro w hSw; obtain ⟨q0, q1, q2, q3, q4, q5⟩ := hSw; go_simp
  refine wpAnyH_take (i := 6) (v := .func (.func k) #[] caps) rfl (by kernel_rfl) (by kernel_rfl) (by kernel_rfl) (fun _ _ _ h => h) (Or.inl ⟨by rfl, ?_⟩) hS0 ?_
  · intro w hSw; obtain ⟨q0, q1, q2, q3, q4, q5⟩ := hSw; go_simp
  refine wpAnyH_take (i := 7) (v := .pointer (some ⟨w.heap.size, 1, none⟩)) rfl (by kernel_rfl) (by kernel_rfl) (by kernel_rfl) (fun _ _ _ h => h) (Or.inl ⟨by rfl, ?_⟩) hS0 ?_
  · intro w hSw; obtain ⟨q0, q1, q2, q3, q4, q5⟩ := hSw; go_simp
  refine wpAnyH_take (i := 8) (v := .agg #[.int .i64 la, .int .i64 ln]) rfl (by kernel_rfl) (by kernel_rfl) (by kernel_rfl) (fun _ _ _ h => h) (Or.inl ⟨by rfl, ?_⟩) hS0 ?_
  · intro w hSw; obtain ⟨q0, q1, q2, q3, q4, q5⟩ := hSw; go_simp
  refine wpAnyH_take (i := 9) (v := .pointer (some ⟨w.heap.size, 3, none⟩)) rfl (by kernel_rfl) (by kernel_rfl) (by kernel_rfl) (fun _ _ _ h => h) (Or.inl ⟨by rfl, ?_⟩) hS0 ?_
  · intro w hSw; obtain ⟨q0, q1, q2, q3, q4, q5⟩ := hSw; go_simp
  refine wpAnyH_take (i := 10) (v := .agg #[.int .i64 ra, .int .i64 rn]) rfl (by kernel_rfl) (by kernel_rfl) (by kernel_rfl) (fun _ _ _ h => h) (Or.inl ⟨by rfl, ?_⟩) hS0 ?_
  · intro w hSw; obtain ⟨q0, q1, q2, q3, q4, q5⟩ := hSw; go_simp
  refine wpAnyH_ready (rs := [11]) (by kernel_rfl) (by simp) ?_
  refine AllReadyH.cons (o := _) rfl (fun K hK => ?_) AllReadyH.nil
  go_simp
  refine (HL.out _ HB.out.drew).mono ?_
  rintro e w1 ⟨rfl, hb1⟩
  have hbW1 : Below W.heap.size W w1 := (Below.refl W.heap.size W).drew.trans hb1
  exact ⟨rfl, rfl, (HB.out.mono (Nat.le_of_lt hal)).trans (hbW1.mono (by omega))⟩
set_option maxRecDepth 100000 in
set_option maxHeartbeats 4000000 in
theorem stepCmp5 (la ln ra rn n u c : Int) (a k : Nat) (caps : Array Value) (vv : Value) (o d : Int) (dv cv : Value) (L : List Bool) (w : World) (h : AskAt w a w.heap.size vv o d dv cv (.func (.func k) #[] caps) L) (hL : L.length ≤ 1000)
    (hcf : ∀ (args : Array Value) (w : World), (callFunc k args).run Try.prog w = .ok (.enter k args) w)
    (HL : Hid (∀ w', Below w.heap.size w w' → Calls Try.prog k (#[.agg #[.int .i64 la, .int .i64 ln], .agg #[.int .i64 ra, .int .i64 rn]] ++ caps) w' fun e w'' => e = .returned (.int .i64 c) ∧ Below w'.heap.size w' w'')) :
    Calls Try.prog 125 #[.pointer (some ⟨a, 0, none⟩), instVal 5 la ln ra rn n u] w (StepPost a vv o d dv cv (.func (.func k) #[] caps) (L ++ [soB 5 c]) w) := by
  obtain ⟨W, hW⟩ : ∃ W, W = w.alloc (.cells #[(.int .i64 5), .int .i64 la, .int .i64 ln, .int .i64 ra, .int .i64 rn, .int .i64 n, .int .i64 u] 92) := ⟨_, rfl⟩
  have hb0 : Below w.heap.size w W := by rw [hW]; exact (Below.refl _ _).alloc (Nat.le_refl _) _
  have hal : a < w.heap.size := by obtain ⟨_, _, _, h3, _⟩ := h; exact h3
  have hz : W.heap.size = w.heap.size + 1 := by rw [hW]; simp
  have c5 := (h.below hb0).cells.2.2.2
  have x0 : W.cell? ⟨w.heap.size, 0, none⟩ = some (.int .i64 5) := by rw [hW]; simp
  have x1 : W.cell? ⟨w.heap.size, 1, none⟩ = some (.int .i64 la) := by rw [hW]; simp
  have x2 : W.cell? ⟨w.heap.size, 2, none⟩ = some (.int .i64 ln) := by rw [hW]; simp
  have x3 : W.cell? ⟨w.heap.size, 3, none⟩ = some (.int .i64 ra) := by rw [hW]; simp
  have x4 : W.cell? ⟨w.heap.size, 4, none⟩ = some (.int .i64 rn) := by rw [hW]; simp
  have KB := hide (fun (w' : World) (hb : Below W.heap.size W w') => (⟨(hb.cell (p := ⟨a, 5, none⟩) (by show a < _; omega)).trans c5, (hb.cell (p := ⟨w.heap.size, 0, none⟩) (by show w.heap.size < _; omega)).trans x0, (hb.cell (p := ⟨w.heap.size, 1, none⟩) (by show w.heap.size < _; omega)).trans x1, (hb.cell (p := ⟨w.heap.size, 2, none⟩) (by show w.heap.size < _; omega)).trans x2, (hb.cell (p := ⟨w.heap.size, 3, none⟩) (by show w.heap.size < _; omega)).trans x3, (hb.cell (p := ⟨w.heap.size, 4, none⟩) (by show w.heap.size < _; omega)).trans x4⟩ :
    w'.cell? ⟨a, 5, none⟩ = some (.func (.func k) #[] caps) ∧ w'.cell? ⟨w.heap.size, 0, none⟩ = some (.int .i64 5) ∧ w'.cell? ⟨w.heap.size, 1, none⟩ = some (.int .i64 la) ∧ w'.cell? ⟨w.heap.size, 2, none⟩ = some (.int .i64 ln) ∧ w'.cell? ⟨w.heap.size, 3, none⟩ = some (.int .i64 ra) ∧ w'.cell? ⟨w.heap.size, 4, none⟩ = some (.int .i64 rn)))
  have KP := hide (fun (w1 w2 : World) (hb : Below W.heap.size W w1) (ha : AskAt w2 a w2.heap.size vv o d dv cv (.func (.func k) #[] caps) (L ++ [soB 5 c])) (hp : Past w.heap.size w1 w2) => by
    obtain ⟨q0, q1, q2, q3, q4, q5⟩ := KB.out w1 hb
    have hs : w.heap.size < w1.heap.size := by have := hb.size; omega
    exact (⟨ha.cells.2.2.2, (hp.cell (Nat.le_refl _) hs).trans q1, (hp.cell (Nat.le_refl _) hs).trans q2, (hp.cell (Nat.le_refl _) hs).trans q3, (hp.cell (Nat.le_refl _) hs).trans q4, (hp.cell (Nat.le_refl _) hs).trans q5⟩ :
      w2.cell? ⟨a, 5, none⟩ = some (.func (.func k) #[] caps) ∧ w2.cell? ⟨w.heap.size, 0, none⟩ = some (.int .i64 5) ∧ w2.cell? ⟨w.heap.size, 1, none⟩ = some (.int .i64 la) ∧ w2.cell? ⟨w.heap.size, 2, none⟩ = some (.int .i64 ln) ∧ w2.cell? ⟨w.heap.size, 3, none⟩ = some (.int .i64 ra) ∧ w2.cell? ⟨w.heap.size, 4, none⟩ = some (.int .i64 rn)))
  have H := hide h
  have HW := hide hW
  have HB := hide hb0
  clear h hb0 hW
  go_enter Try.func125, Try.ntmps125
  go_wp2_with fail
  rw [← HW.out]
  have hS0 := KB.out W.drew ((Below.refl _ _).drew)
  go_region_held3 (fun w' => w'.cell? ⟨a, 5, none⟩ = some (.func (.func k) #[] caps) ∧ w'.cell? ⟨w.heap.size, 0, none⟩ = some (.int .i64 5) ∧ w'.cell? ⟨w.heap.size, 1, none⟩ = some (.int .i64 la) ∧ w'.cell? ⟨w.heap.size, 2, none⟩ = some (.int .i64 ln) ∧ w'.cell? ⟨w.heap.size, 3, none⟩ = some (.int .i64 ra) ∧ w'.cell? ⟨w.heap.size, 4, none⟩ = some (.int .i64 rn)) (assumption)
    (first
      | (go_at_call 135; refine (so_any _ _ _).mono ?_; rintro e w' ⟨rfl, rfl⟩)
      | (go_at_call 134; (with_reducible refine (askPush a w.heap.size vv o d dv cv _ L _ _ (H.out.below hbw1) hL).mono ?_); rintro e w2 ⟨rfl, ha, hbl, hsz, hpast⟩; have K2 := KP.out _ _ hbW1 ha hpast)
      | ((with_reducible refine (HL.out _ HB.out.drew).mono ?_); rintro e w1 ⟨rfl, hb1⟩; have hbW1 : Below W.heap.size W w1 := (Below.refl W.heap.size W).drew.trans hb1; have K1 := KB.out w1 hbW1; have hbw1 : Below w.heap.size w w1 := HB.out.trans (hbW1.mono HB.out.size)))
  all_goals
    go_wp2_with fail
    go_end0
    exact ⟨rfl, ha, (hbw1.mono (Nat.le_of_lt hal)).trans hbl, Nat.le_trans hbw1.size hsz⟩
set_option maxRecDepth 100000 in
set_option maxHeartbeats 4000000 in
theorem stepNo5 (la ln ra rn n u : Int) (a k : Nat) (caps : Array Value) (vv : Value) (o d : Int) (dv cv : Value) (L : List Bool) (w : World) (h : AskAt w a w.heap.size vv o d dv cv (.func (.func k) #[] caps) L) (hL : L.length ≤ 1000)
    (hcf : ∀ (args : Array Value) (w : World), (callFunc k args).run Try.prog w = .ok (.enter k args) w)
    (HL : Hid (∀ w', Below w.heap.size w w' → Calls Try.prog k (#[.agg #[.int .i64 la, .int .i64 ln], .agg #[.int .i64 ra, .int .i64 rn]] ++ caps) w' fun e w'' => e = .panicked lostP ∧ Below w'.heap.size w' w'')) :
    Calls Try.prog 125 #[.pointer (some ⟨a, 0, none⟩), instVal 5 la ln ra rn n u] w fun e w' => e = .panicked lostP ∧ Below a w w' := by
  obtain ⟨W, hW⟩ : ∃ W, W = w.alloc (.cells #[(.int .i64 5), .int .i64 la, .int .i64 ln, .int .i64 ra, .int .i64 rn, .int .i64 n, .int .i64 u] 92) := ⟨_, rfl⟩
  have hb0 : Below w.heap.size w W := by rw [hW]; exact (Below.refl _ _).alloc (Nat.le_refl _) _
  have hal : a < w.heap.size := by obtain ⟨_, _, _, h3, _⟩ := h; exact h3
  have hz : W.heap.size = w.heap.size + 1 := by rw [hW]; simp
  have c5 := (h.below hb0).cells.2.2.2
  have x0 : W.cell? ⟨w.heap.size, 0, none⟩ = some (.int .i64 5) := by rw [hW]; simp
  have x1 : W.cell? ⟨w.heap.size, 1, none⟩ = some (.int .i64 la) := by rw [hW]; simp
  have x2 : W.cell? ⟨w.heap.size, 2, none⟩ = some (.int .i64 ln) := by rw [hW]; simp
  have x3 : W.cell? ⟨w.heap.size, 3, none⟩ = some (.int .i64 ra) := by rw [hW]; simp
  have x4 : W.cell? ⟨w.heap.size, 4, none⟩ = some (.int .i64 rn) := by rw [hW]; simp
  have KB := hide (fun (w' : World) (hb : Below W.heap.size W w') => (⟨(hb.cell (p := ⟨a, 5, none⟩) (by show a < _; omega)).trans c5, (hb.cell (p := ⟨w.heap.size, 0, none⟩) (by show w.heap.size < _; omega)).trans x0, (hb.cell (p := ⟨w.heap.size, 1, none⟩) (by show w.heap.size < _; omega)).trans x1, (hb.cell (p := ⟨w.heap.size, 2, none⟩) (by show w.heap.size < _; omega)).trans x2, (hb.cell (p := ⟨w.heap.size, 3, none⟩) (by show w.heap.size < _; omega)).trans x3, (hb.cell (p := ⟨w.heap.size, 4, none⟩) (by show w.heap.size < _; omega)).trans x4⟩ :
    w'.cell? ⟨a, 5, none⟩ = some (.func (.func k) #[] caps) ∧ w'.cell? ⟨w.heap.size, 0, none⟩ = some (.int .i64 5) ∧ w'.cell? ⟨w.heap.size, 1, none⟩ = some (.int .i64 la) ∧ w'.cell? ⟨w.heap.size, 2, none⟩ = some (.int .i64 ln) ∧ w'.cell? ⟨w.heap.size, 3, none⟩ = some (.int .i64 ra) ∧ w'.cell? ⟨w.heap.size, 4, none⟩ = some (.int .i64 rn)))
  have H := hide h
  have HW := hide hW
  have HB := hide hb0
  clear h hb0 hW
  go_enter Try.func125, Try.ntmps125
  go_wp2_with fail
  rw [← HW.out]
  have hS0 := KB.out W.drew ((Below.refl _ _).drew)
  refine wp_region_held (S := fun w' => w'.cell? ⟨a, 5, none⟩ = some (.func (.func k) #[] caps) ∧ w'.cell? ⟨w.heap.size, 0, none⟩ = some (.int .i64 5) ∧ w'.cell? ⟨w.heap.size, 1, none⟩ = some (.int .i64 la) ∧ w'.cell? ⟨w.heap.size, 2, none⟩ = some (.int .i64 ln) ∧ w'.cell? ⟨w.heap.size, 3, none⟩ = some (.int .i64 ra) ∧ w'.cell? ⟨w.heap.size, 4, none⟩ = some (.int .i64 rn)) (by kernel_rfl) ?_
  refine wpAnyH_take (i := 0) (v := .pointer (some ⟨a, 0, none⟩)) rfl (by kernel_rfl) (by kernel_rfl) (by kernel_rfl) (fun _ _ _ h => h) (Or.inl ⟨by rfl, ?_⟩) hS0 ?_
  · intro w hSw; obtain ⟨q0, q1, q2, q3, q4, q5⟩ := hSw; go_simp
  refine wpAnyH_take (i := 1) (v := .pointer (some ⟨w.heap.size, 0, none⟩)) rfl (by kernel_rfl) (by kernel_rfl) (by kernel_rfl) (fun _ _ _ h => h) (Or.inl ⟨by rfl, ?_⟩) hS0 ?_
  · intro w hSw; obtain ⟨q0, q1, q2, q3, q4, q5⟩ := hSw; go_simp
  refine wpAnyH_take (i := 2) (v := .int .i64 5) rfl (by kernel_rfl) (by kernel_rfl) (by kernel_rfl) (fun _ _ _ h => h) (Or.inl ⟨by rfl, ?_⟩) hS0 ?_
  · intro w hSw; obtain ⟨q0, q1, q2, q3, q4, q5⟩ := hSw; go_simp
  refine wpAnyH_take (i := 3) (v := .pointer (some ⟨a, 0, none⟩)) rfl (by kernel_rfl) (by kernel_rfl) (by kernel_rfl) (fun _ _ _ h => h) (Or.inl ⟨by rfl, ?_⟩) hS0 ?_
  · intro w hSw; obtain ⟨q0, q1, q2, q3, q4, q5⟩ := hSw; go_simp
  refine wpAnyH_take (i := 4) (v := .pointer (some ⟨a, 0, none⟩)) rfl (by kernel_rfl) (by kernel_rfl) (by kernel_rfl) (fun _ _ _ h => h) (Or.inl ⟨by rfl, ?_⟩) hS0 ?_
  · intro w hSw; obtain ⟨q0, q1, q2, q3, q4, q5⟩ := hSw; go_simp
  refine wpAnyH_take (i := 5) (v := .pointer (some ⟨a, 5, none⟩)) rfl (by kernel_rfl) (by kernel_rfl) (by kernel_rfl) (fun _ _ _ h => h) (Or.inl ⟨by rfl, ?_⟩) hS0 ?_
  · intro w hSw; obtain ⟨q0, q1, q2, q3, q4, q5⟩ := hSw; go_simp
  refine wpAnyH_take (i := 6) (v := .func (.func k) #[] caps) rfl (by kernel_rfl) (by kernel_rfl) (by kernel_rfl) (fun _ _ _ h => h) (Or.inl ⟨by rfl, ?_⟩) hS0 ?_
  · intro w hSw; obtain ⟨q0, q1, q2, q3, q4, q5⟩ := hSw; go_simp
  refine wpAnyH_take (i := 7) (v := .pointer (some ⟨w.heap.size, 1, none⟩)) rfl (by kernel_rfl) (by kernel_rfl) (by kernel_rfl) (fun _ _ _ h => h) (Or.inl ⟨by rfl, ?_⟩) hS0 ?_
  · intro w hSw; obtain ⟨q0, q1, q2, q3, q4, q5⟩ := hSw; go_simp
  refine wpAnyH_take (i := 8) (v := .agg #[.int .i64 la, .int .i64 ln]) rfl (by kernel_rfl) (by kernel_rfl) (by kernel_rfl) (fun _ _ _ h => h) (Or.inl ⟨by rfl, ?_⟩) hS0 ?_
  · intro w hSw; obtain ⟨q0, q1, q2, q3, q4, q5⟩ := hSw; go_simp
  refine wpAnyH_take (i := 9) (v := .pointer (some ⟨w.heap.size, 3, none⟩)) rfl (by kernel_rfl) (by kernel_rfl) (by kernel_rfl) (fun _ _ _ h => h) (Or.inl ⟨by rfl, ?_⟩) hS0 ?_
  · intro w hSw; obtain ⟨q0, q1, q2, q3, q4, q5⟩ := hSw; go_simp
  refine wpAnyH_take (i := 10) (v := .agg #[.int .i64 ra, .int .i64 rn]) rfl (by kernel_rfl) (by kernel_rfl) (by kernel_rfl) (fun _ _ _ h => h) (Or.inl ⟨by rfl, ?_⟩) hS0 ?_
  · intro w hSw; obtain ⟨q0, q1, q2, q3, q4, q5⟩ := hSw; go_simp
  refine wpAnyH_ready (rs := [11]) (by kernel_rfl) (by simp) ?_
  refine AllReadyH.cons (o := _) rfl (fun K hK => ?_) AllReadyH.nil
  go_simp
  refine (HL.out _ HB.out.drew).mono ?_
  rintro e w1 ⟨rfl, hb1⟩
  have hbW1 : Below W.heap.size W w1 := (Below.refl W.heap.size W).drew.trans hb1
  exact ⟨rfl, rfl, (HB.out.mono (Nat.le_of_lt hal)).trans (hbW1.mono (by omega))⟩
set_option maxRecDepth 100000 in
set_option maxHeartbeats 4000000 in
theorem stepCmp6 (la ln ra rn n u c : Int) (a k : Nat) (caps : Array Value) (vv : Value) (o d : Int) (dv cv : Value) (L : List Bool) (w : World) (h : AskAt w a w.heap.size vv o d dv cv (.func (.func k) #[] caps) L) (hL : L.length ≤ 1000)
    (hcf : ∀ (args : Array Value) (w : World), (callFunc k args).run Try.prog w = .ok (.enter k args) w)
    (HL : Hid (∀ w', Below w.heap.size w w' → Calls Try.prog k (#[.agg #[.int .i64 la, .int .i64 ln], .agg #[.int .i64 ra, .int .i64 rn]] ++ caps) w' fun e w'' => e = .returned (.int .i64 c) ∧ Below w'.heap.size w' w'')) :
    Calls Try.prog 125 #[.pointer (some ⟨a, 0, none⟩), instVal 6 la ln ra rn n u] w (StepPost a vv o d dv cv (.func (.func k) #[] caps) (L ++ [soB 6 c]) w) := by
  obtain ⟨W, hW⟩ : ∃ W, W = w.alloc (.cells #[(.int .i64 6), .int .i64 la, .int .i64 ln, .int .i64 ra, .int .i64 rn, .int .i64 n, .int .i64 u] 92) := ⟨_, rfl⟩
  have hb0 : Below w.heap.size w W := by rw [hW]; exact (Below.refl _ _).alloc (Nat.le_refl _) _
  have hal : a < w.heap.size := by obtain ⟨_, _, _, h3, _⟩ := h; exact h3
  have hz : W.heap.size = w.heap.size + 1 := by rw [hW]; simp
  have c5 := (h.below hb0).cells.2.2.2
  have x0 : W.cell? ⟨w.heap.size, 0, none⟩ = some (.int .i64 6) := by rw [hW]; simp
  have x1 : W.cell? ⟨w.heap.size, 1, none⟩ = some (.int .i64 la) := by rw [hW]; simp
  have x2 : W.cell? ⟨w.heap.size, 2, none⟩ = some (.int .i64 ln) := by rw [hW]; simp
  have x3 : W.cell? ⟨w.heap.size, 3, none⟩ = some (.int .i64 ra) := by rw [hW]; simp
  have x4 : W.cell? ⟨w.heap.size, 4, none⟩ = some (.int .i64 rn) := by rw [hW]; simp
  have KB := hide (fun (w' : World) (hb : Below W.heap.size W w') => (⟨(hb.cell (p := ⟨a, 5, none⟩) (by show a < _; omega)).trans c5, (hb.cell (p := ⟨w.heap.size, 0, none⟩) (by show w.heap.size < _; omega)).trans x0, (hb.cell (p := ⟨w.heap.size, 1, none⟩) (by show w.heap.size < _; omega)).trans x1, (hb.cell (p := ⟨w.heap.size, 2, none⟩) (by show w.heap.size < _; omega)).trans x2, (hb.cell (p := ⟨w.heap.size, 3, none⟩) (by show w.heap.size < _; omega)).trans x3, (hb.cell (p := ⟨w.heap.size, 4, none⟩) (by show w.heap.size < _; omega)).trans x4⟩ :
    w'.cell? ⟨a, 5, none⟩ = some (.func (.func k) #[] caps) ∧ w'.cell? ⟨w.heap.size, 0, none⟩ = some (.int .i64 6) ∧ w'.cell? ⟨w.heap.size, 1, none⟩ = some (.int .i64 la) ∧ w'.cell? ⟨w.heap.size, 2, none⟩ = some (.int .i64 ln) ∧ w'.cell? ⟨w.heap.size, 3, none⟩ = some (.int .i64 ra) ∧ w'.cell? ⟨w.heap.size, 4, none⟩ = some (.int .i64 rn)))
  have KP := hide (fun (w1 w2 : World) (hb : Below W.heap.size W w1) (ha : AskAt w2 a w2.heap.size vv o d dv cv (.func (.func k) #[] caps) (L ++ [soB 6 c])) (hp : Past w.heap.size w1 w2) => by
    obtain ⟨q0, q1, q2, q3, q4, q5⟩ := KB.out w1 hb
    have hs : w.heap.size < w1.heap.size := by have := hb.size; omega
    exact (⟨ha.cells.2.2.2, (hp.cell (Nat.le_refl _) hs).trans q1, (hp.cell (Nat.le_refl _) hs).trans q2, (hp.cell (Nat.le_refl _) hs).trans q3, (hp.cell (Nat.le_refl _) hs).trans q4, (hp.cell (Nat.le_refl _) hs).trans q5⟩ :
      w2.cell? ⟨a, 5, none⟩ = some (.func (.func k) #[] caps) ∧ w2.cell? ⟨w.heap.size, 0, none⟩ = some (.int .i64 6) ∧ w2.cell? ⟨w.heap.size, 1, none⟩ = some (.int .i64 la) ∧ w2.cell? ⟨w.heap.size, 2, none⟩ = some (.int .i64 ln) ∧ w2.cell? ⟨w.heap.size, 3, none⟩ = some (.int .i64 ra) ∧ w2.cell? ⟨w.heap.size, 4, none⟩ = some (.int .i64 rn)))
  have H := hide h
  have HW := hide hW
  have HB := hide hb0
  clear h hb0 hW
  go_enter Try.func125, Try.ntmps125
  go_wp2_with fail
  rw [← HW.out]
  have hS0 := KB.out W.drew ((Below.refl _ _).drew)
  go_region_held3 (fun w' => w'.cell? ⟨a, 5, none⟩ = some (.func (.func k) #[] caps) ∧ w'.cell? ⟨w.heap.size, 0, none⟩ = some (.int .i64 6) ∧ w'.cell? ⟨w.heap.size, 1, none⟩ = some (.int .i64 la) ∧ w'.cell? ⟨w.heap.size, 2, none⟩ = some (.int .i64 ln) ∧ w'.cell? ⟨w.heap.size, 3, none⟩ = some (.int .i64 ra) ∧ w'.cell? ⟨w.heap.size, 4, none⟩ = some (.int .i64 rn)) (assumption)
    (first
      | (go_at_call 135; refine (so_any _ _ _).mono ?_; rintro e w' ⟨rfl, rfl⟩)
      | (go_at_call 134; (with_reducible refine (askPush a w.heap.size vv o d dv cv _ L _ _ (H.out.below hbw1) hL).mono ?_); rintro e w2 ⟨rfl, ha, hbl, hsz, hpast⟩; have K2 := KP.out _ _ hbW1 ha hpast)
      | ((with_reducible refine (HL.out _ HB.out.drew).mono ?_); rintro e w1 ⟨rfl, hb1⟩; have hbW1 : Below W.heap.size W w1 := (Below.refl W.heap.size W).drew.trans hb1; have K1 := KB.out w1 hbW1; have hbw1 : Below w.heap.size w w1 := HB.out.trans (hbW1.mono HB.out.size)))
  all_goals
    go_wp2_with fail
    go_end0
    exact ⟨rfl, ha, (hbw1.mono (Nat.le_of_lt hal)).trans hbl, Nat.le_trans hbw1.size hsz⟩
set_option maxRecDepth 100000 in
set_option maxHeartbeats 4000000 in
theorem stepNo6 (la ln ra rn n u : Int) (a k : Nat) (caps : Array Value) (vv : Value) (o d : Int) (dv cv : Value) (L : List Bool) (w : World) (h : AskAt w a w.heap.size vv o d dv cv (.func (.func k) #[] caps) L) (hL : L.length ≤ 1000)
    (hcf : ∀ (args : Array Value) (w : World), (callFunc k args).run Try.prog w = .ok (.enter k args) w)
    (HL : Hid (∀ w', Below w.heap.size w w' → Calls Try.prog k (#[.agg #[.int .i64 la, .int .i64 ln], .agg #[.int .i64 ra, .int .i64 rn]] ++ caps) w' fun e w'' => e = .panicked lostP ∧ Below w'.heap.size w' w'')) :
    Calls Try.prog 125 #[.pointer (some ⟨a, 0, none⟩), instVal 6 la ln ra rn n u] w fun e w' => e = .panicked lostP ∧ Below a w w' := by
  obtain ⟨W, hW⟩ : ∃ W, W = w.alloc (.cells #[(.int .i64 6), .int .i64 la, .int .i64 ln, .int .i64 ra, .int .i64 rn, .int .i64 n, .int .i64 u] 92) := ⟨_, rfl⟩
  have hb0 : Below w.heap.size w W := by rw [hW]; exact (Below.refl _ _).alloc (Nat.le_refl _) _
  have hal : a < w.heap.size := by obtain ⟨_, _, _, h3, _⟩ := h; exact h3
  have hz : W.heap.size = w.heap.size + 1 := by rw [hW]; simp
  have c5 := (h.below hb0).cells.2.2.2
  have x0 : W.cell? ⟨w.heap.size, 0, none⟩ = some (.int .i64 6) := by rw [hW]; simp
  have x1 : W.cell? ⟨w.heap.size, 1, none⟩ = some (.int .i64 la) := by rw [hW]; simp
  have x2 : W.cell? ⟨w.heap.size, 2, none⟩ = some (.int .i64 ln) := by rw [hW]; simp
  have x3 : W.cell? ⟨w.heap.size, 3, none⟩ = some (.int .i64 ra) := by rw [hW]; simp
  have x4 : W.cell? ⟨w.heap.size, 4, none⟩ = some (.int .i64 rn) := by rw [hW]; simp
  have KB := hide (fun (w' : World) (hb : Below W.heap.size W w') => (⟨(hb.cell (p := ⟨a, 5, none⟩) (by show a < _; omega)).trans c5, (hb.cell (p := ⟨w.heap.size, 0, none⟩) (by show w.heap.size < _; omega)).trans x0, (hb.cell (p := ⟨w.heap.size, 1, none⟩) (by show w.heap.size < _; omega)).trans x1, (hb.cell (p := ⟨w.heap.size, 2, none⟩) (by show w.heap.size < _; omega)).trans x2, (hb.cell (p := ⟨w.heap.size, 3, none⟩) (by show w.heap.size < _; omega)).trans x3, (hb.cell (p := ⟨w.heap.size, 4, none⟩) (by show w.heap.size < _; omega)).trans x4⟩ :
    w'.cell? ⟨a, 5, none⟩ = some (.func (.func k) #[] caps) ∧ w'.cell? ⟨w.heap.size, 0, none⟩ = some (.int .i64 6) ∧ w'.cell? ⟨w.heap.size, 1, none⟩ = some (.int .i64 la) ∧ w'.cell? ⟨w.heap.size, 2, none⟩ = some (.int .i64 ln) ∧ w'.cell? ⟨w.heap.size, 3, none⟩ = some (.int .i64 ra) ∧ w'.cell? ⟨w.heap.size, 4, none⟩ = some (.int .i64 rn)))
  have H := hide h
  have HW := hide hW
  have HB := hide hb0
  clear h hb0 hW
  go_enter Try.func125, Try.ntmps125
  go_wp2_with fail
  rw [← HW.out]
  have hS0 := KB.out W.drew ((Below.refl _ _).drew)
  refine wp_region_held (S := fun w' => w'.cell? ⟨a, 5, none⟩ = some (.func (.func k) #[] caps) ∧ w'.cell? ⟨w.heap.size, 0, none⟩ = some (.int .i64 6) ∧ w'.cell? ⟨w.heap.size, 1, none⟩ = some (.int .i64 la) ∧ w'.cell? ⟨w.heap.size, 2, none⟩ = some (.int .i64 ln) ∧ w'.cell? ⟨w.heap.size, 3, none⟩ = some (.int .i64 ra) ∧ w'.cell? ⟨w.heap.size, 4, none⟩ = some (.int .i64 rn)) (by kernel_rfl) ?_
  refine wpAnyH_take (i := 0) (v := .pointer (some ⟨a, 0, none⟩)) rfl (by kernel_rfl) (by kernel_rfl) (by kernel_rfl) (fun _ _ _ h => h) (Or.inl ⟨by rfl, ?_⟩) hS0 ?_
  · intro w hSw; obtain ⟨q0, q1, q2, q3, q4, q5⟩ := hSw; go_simp
  refine wpAnyH_take (i := 1) (v := .pointer (some ⟨w.heap.size, 0, none⟩)) rfl (by kernel_rfl) (by kernel_rfl) (by kernel_rfl) (fun _ _ _ h => h) (Or.inl ⟨by rfl, ?_⟩) hS0 ?_
  · intro w hSw; obtain ⟨q0, q1, q2, q3, q4, q5⟩ := hSw; go_simp
  refine wpAnyH_take (i := 2) (v := .int .i64 6) rfl (by kernel_rfl) (by kernel_rfl) (by kernel_rfl) (fun _ _ _ h => h) (Or.inl ⟨by rfl, ?_⟩) hS0 ?_
  · intro w hSw; obtain ⟨q0, q1, q2, q3, q4, q5⟩ := hSw; go_simp
  refine wpAnyH_take (i := 3) (v := .pointer (some ⟨a, 0, none⟩)) rfl (by kernel_rfl) (by kernel_rfl) (by kernel_rfl) (fun _ _ _ h => h) (Or.inl ⟨by rfl, ?_⟩) hS0 ?_
  · intro w hSw; obtain ⟨q0, q1, q2, q3, q4, q5⟩ := hSw; go_simp
  refine wpAnyH_take (i := 4) (v := .pointer (some ⟨a, 0, none⟩)) rfl (by kernel_rfl) (by kernel_rfl) (by kernel_rfl) (fun _ _ _ h => h) (Or.inl ⟨by rfl, ?_⟩) hS0 ?_
  · intro w hSw; obtain ⟨q0, q1, q2, q3, q4, q5⟩ := hSw; go_simp
  refine wpAnyH_take (i := 5) (v := .pointer (some ⟨a, 5, none⟩)) rfl (by kernel_rfl) (by kernel_rfl) (by kernel_rfl) (fun _ _ _ h => h) (Or.inl ⟨by rfl, ?_⟩) hS0 ?_
  · intro w hSw; obtain ⟨q0, q1, q2, q3, q4, q5⟩ := hSw; go_simp
  refine wpAnyH_take (i := 6) (v := .func (.func k) #[] caps) rfl (by kernel_rfl) (by kernel_rfl) (by kernel_rfl) (fun _ _ _ h => h) (Or.inl ⟨by rfl, ?_⟩) hS0 ?_
  · intro w hSw; obtain ⟨q0, q1, q2, q3, q4, q5⟩ := hSw; go_simp
  refine wpAnyH_take (i := 7) (v := .pointer (some ⟨w.heap.size, 1, none⟩)) rfl (by kernel_rfl) (by kernel_rfl) (by kernel_rfl) (fun _ _ _ h => h) (Or.inl ⟨by rfl, ?_⟩) hS0 ?_
  · intro w hSw; obtain ⟨q0, q1, q2, q3, q4, q5⟩ := hSw; go_simp
  refine wpAnyH_take (i := 8) (v := .agg #[.int .i64 la, .int .i64 ln]) rfl (by kernel_rfl) (by kernel_rfl) (by kernel_rfl) (fun _ _ _ h => h) (Or.inl ⟨by rfl, ?_⟩) hS0 ?_
  · intro w hSw; obtain ⟨q0, q1, q2, q3, q4, q5⟩ := hSw; go_simp
  refine wpAnyH_take (i := 9) (v := .pointer (some ⟨w.heap.size, 3, none⟩)) rfl (by kernel_rfl) (by kernel_rfl) (by kernel_rfl) (fun _ _ _ h => h) (Or.inl ⟨by rfl, ?_⟩) hS0 ?_
  · intro w hSw; obtain ⟨q0, q1, q2, q3, q4, q5⟩ := hSw; go_simp
  refine wpAnyH_take (i := 10) (v := .agg #[.int .i64 ra, .int .i64 rn]) rfl (by kernel_rfl) (by kernel_rfl) (by kernel_rfl) (fun _ _ _ h => h) (Or.inl ⟨by rfl, ?_⟩) hS0 ?_
  · intro w hSw; obtain ⟨q0, q1, q2, q3, q4, q5⟩ := hSw; go_simp
  refine wpAnyH_ready (rs := [11]) (by kernel_rfl) (by simp) ?_
  refine AllReadyH.cons (o := _) rfl (fun K hK => ?_) AllReadyH.nil
  go_simp
  refine (HL.out _ HB.out.drew).mono ?_
  rintro e w1 ⟨rfl, hb1⟩
  have hbW1 : Below W.heap.size W w1 := (Below.refl W.heap.size W).drew.trans hb1
  exact ⟨rfl, rfl, (HB.out.mono (Nat.le_of_lt hal)).trans (hbW1.mono (by omega))⟩
set_option maxRecDepth 100000 in
set_option maxHeartbeats 4000000 in
theorem stepCmp7 (la ln ra rn n u c : Int) (a k : Nat) (caps : Array Value) (vv : Value) (o d : Int) (dv cv : Value) (L : List Bool) (w : World) (h : AskAt w a w.heap.size vv o d dv cv (.func (.func k) #[] caps) L) (hL : L.length ≤ 1000)
    (hcf : ∀ (args : Array Value) (w : World), (callFunc k args).run Try.prog w = .ok (.enter k args) w)
    (HL : Hid (∀ w', Below w.heap.size w w' → Calls Try.prog k (#[.agg #[.int .i64 la, .int .i64 ln], .agg #[.int .i64 ra, .int .i64 rn]] ++ caps) w' fun e w'' => e = .returned (.int .i64 c) ∧ Below w'.heap.size w' w'')) :
    Calls Try.prog 125 #[.pointer (some ⟨a, 0, none⟩), instVal 7 la ln ra rn n u] w (StepPost a vv o d dv cv (.func (.func k) #[] caps) (L ++ [soB 7 c]) w) := by
  obtain ⟨W, hW⟩ : ∃ W, W = w.alloc (.cells #[(.int .i64 7), .int .i64 la, .int .i64 ln, .int .i64 ra, .int .i64 rn, .int .i64 n, .int .i64 u] 92) := ⟨_, rfl⟩
  have hb0 : Below w.heap.size w W := by rw [hW]; exact (Below.refl _ _).alloc (Nat.le_refl _) _
  have hal : a < w.heap.size := by obtain ⟨_, _, _, h3, _⟩ := h; exact h3
  have hz : W.heap.size = w.heap.size + 1 := by rw [hW]; simp
  have c5 := (h.below hb0).cells.2.2.2
  have x0 : W.cell? ⟨w.heap.size, 0, none⟩ = some (.int .i64 7) := by rw [hW]; simp
  have x1 : W.cell? ⟨w.heap.size, 1, none⟩ = some (.int .i64 la) := by rw [hW]; simp
  have x2 : W.cell? ⟨w.heap.size, 2, none⟩ = some (.int .i64 ln) := by rw [hW]; simp
  have x3 : W.cell? ⟨w.heap.size, 3, none⟩ = some (.int .i64 ra) := by rw [hW]; simp
  have x4 : W.cell? ⟨w.heap.size, 4, none⟩ = some (.int .i64 rn) := by rw [hW]; simp
  have KB := hide (fun (w' : World) (hb : Below W.heap.size W w') => (⟨(hb.cell (p := ⟨a, 5, none⟩) (by show a < _; omega)).trans c5, (hb.cell (p := ⟨w.heap.size, 0, none⟩) (by show w.heap.size < _; omega)).trans x0, (hb.cell (p := ⟨w.heap.size, 1, none⟩) (by show w.heap.size < _; omega)).trans x1, (hb.cell (p := ⟨w.heap.size, 2, none⟩) (by show w.heap.size < _; omega)).trans x2, (hb.cell (p := ⟨w.heap.size, 3, none⟩) (by show w.heap.size < _; omega)).trans x3, (hb.cell (p := ⟨w.heap.size, 4, none⟩) (by show w.heap.size < _; omega)).trans x4⟩ :
    w'.cell? ⟨a, 5, none⟩ = some (.func (.func k) #[] caps) ∧ w'.cell? ⟨w.heap.size, 0, none⟩ = some (.int .i64 7) ∧ w'.cell? ⟨w.heap.size, 1, none⟩ = some (.int .i64 la) ∧ w'.cell? ⟨w.heap.size, 2, none⟩ = some (.int .i64 ln) ∧ w'.cell? ⟨w.heap.size, 3, none⟩ = some (.int .i64 ra) ∧ w'.cell? ⟨w.heap.size, 4, none⟩ = some (.int .i64 rn)))
  have KP := hide (fun (w1 w2 : World) (hb : Below W.heap.size W w1) (ha : AskAt w2 a w2.heap.size vv o d dv cv (.func (.func k) #[] caps) (L ++ [soB 7 c])) (hp : Past w.heap.size w1 w2) => by
    obtain ⟨q0, q1, q2, q3, q4, q5⟩ := KB.out w1 hb
    have hs : w.heap.size < w1.heap.size := by have := hb.size; omega
    exact (⟨ha.cells.2.2.2, (hp.cell (Nat.le_refl _) hs).trans q1, (hp.cell (Nat.le_refl _) hs).trans q2, (hp.cell (Nat.le_refl _) hs).trans q3, (hp.cell (Nat.le_refl _) hs).trans q4, (hp.cell (Nat.le_refl _) hs).trans q5⟩ :
      w2.cell? ⟨a, 5, none⟩ = some (.func (.func k) #[] caps) ∧ w2.cell? ⟨w.heap.size, 0, none⟩ = some (.int .i64 7) ∧ w2.cell? ⟨w.heap.size, 1, none⟩ = some (.int .i64 la) ∧ w2.cell? ⟨w.heap.size, 2, none⟩ = some (.int .i64 ln) ∧ w2.cell? ⟨w.heap.size, 3, none⟩ = some (.int .i64 ra) ∧ w2.cell? ⟨w.heap.size, 4, none⟩ = some (.int .i64 rn)))
  have H := hide h
  have HW := hide hW
  have HB := hide hb0
  clear h hb0 hW
  go_enter Try.func125, Try.ntmps125
  go_wp2_with fail
  rw [← HW.out]
  have hS0 := KB.out W.drew ((Below.refl _ _).drew)
  go_region_held3 (fun w' => w'.cell? ⟨a, 5, none⟩ = some (.func (.func k) #[] caps) ∧ w'.cell? ⟨w.heap.size, 0, none⟩ = some (.int .i64 7) ∧ w'.cell? ⟨w.heap.size, 1, none⟩ = some (.int .i64 la) ∧ w'.cell? ⟨w.heap.size, 2, none⟩ = some (.int .i64 ln) ∧ w'.cell? ⟨w.heap.size, 3, none⟩ = some (.int .i64 ra) ∧ w'.cell? ⟨w.heap.size, 4, none⟩ = some (.int .i64 rn)) (assumption)
    (first
      | (go_at_call 135; refine (so_any _ _ _).mono ?_; rintro e w' ⟨rfl, rfl⟩)
      | (go_at_call 134; (with_reducible refine (askPush a w.heap.size vv o d dv cv _ L _ _ (H.out.below hbw1) hL).mono ?_); rintro e w2 ⟨rfl, ha, hbl, hsz, hpast⟩; have K2 := KP.out _ _ hbW1 ha hpast)
      | ((with_reducible refine (HL.out _ HB.out.drew).mono ?_); rintro e w1 ⟨rfl, hb1⟩; have hbW1 : Below W.heap.size W w1 := (Below.refl W.heap.size W).drew.trans hb1; have K1 := KB.out w1 hbW1; have hbw1 : Below w.heap.size w w1 := HB.out.trans (hbW1.mono HB.out.size)))
  all_goals
    go_wp2_with fail
    go_end0
    exact ⟨rfl, ha, (hbw1.mono (Nat.le_of_lt hal)).trans hbl, Nat.le_trans hbw1.size hsz⟩
set_option maxRecDepth 100000 in
set_option maxHeartbeats 4000000 in
theorem stepNo7 (la ln ra rn n u : Int) (a k : Nat) (caps : Array Value) (vv : Value) (o d : Int) (dv cv : Value) (L : List Bool) (w : World) (h : AskAt w a w.heap.size vv o d dv cv (.func (.func k) #[] caps) L) (hL : L.length ≤ 1000)
    (hcf : ∀ (args : Array Value) (w : World), (callFunc k args).run Try.prog w = .ok (.enter k args) w)
    (HL : Hid (∀ w', Below w.heap.size w w' → Calls Try.prog k (#[.agg #[.int .i64 la, .int .i64 ln], .agg #[.int .i64 ra, .int .i64 rn]] ++ caps) w' fun e w'' => e = .panicked lostP ∧ Below w'.heap.size w' w'')) :
    Calls Try.prog 125 #[.pointer (some ⟨a, 0, none⟩), instVal 7 la ln ra rn n u] w fun e w' => e = .panicked lostP ∧ Below a w w' := by
  obtain ⟨W, hW⟩ : ∃ W, W = w.alloc (.cells #[(.int .i64 7), .int .i64 la, .int .i64 ln, .int .i64 ra, .int .i64 rn, .int .i64 n, .int .i64 u] 92) := ⟨_, rfl⟩
  have hb0 : Below w.heap.size w W := by rw [hW]; exact (Below.refl _ _).alloc (Nat.le_refl _) _
  have hal : a < w.heap.size := by obtain ⟨_, _, _, h3, _⟩ := h; exact h3
  have hz : W.heap.size = w.heap.size + 1 := by rw [hW]; simp
  have c5 := (h.below hb0).cells.2.2.2
  have x0 : W.cell? ⟨w.heap.size, 0, none⟩ = some (.int .i64 7) := by rw [hW]; simp
  have x1 : W.cell? ⟨w.heap.size, 1, none⟩ = some (.int .i64 la) := by rw [hW]; simp
  have x2 : W.cell? ⟨w.heap.size, 2, none⟩ = some (.int .i64 ln) := by rw [hW]; simp
  have x3 : W.cell? ⟨w.heap.size, 3, none⟩ = some (.int .i64 ra) := by rw [hW]; simp
  have x4 : W.cell? ⟨w.heap.size, 4, none⟩ = some (.int .i64 rn) := by rw [hW]; simp
  have KB := hide (fun (w' : World) (hb : Below W.heap.size W w') => (⟨(hb.cell (p := ⟨a, 5, none⟩) (by show a < _; omega)).trans c5, (hb.cell (p := ⟨w.heap.size, 0, none⟩) (by show w.heap.size < _; omega)).trans x0, (hb.cell (p := ⟨w.heap.size, 1, none⟩) (by show w.heap.size < _; omega)).trans x1, (hb.cell (p := ⟨w.heap.size, 2, none⟩) (by show w.heap.size < _; omega)).trans x2, (hb.cell (p := ⟨w.heap.size, 3, none⟩) (by show w.heap.size < _; omega)).trans x3, (hb.cell (p := ⟨w.heap.size, 4, none⟩) (by show w.heap.size < _; omega)).trans x4⟩ :
    w'.cell? ⟨a, 5, none⟩ = some (.func (.func k) #[] caps) ∧ w'.cell? ⟨w.heap.size, 0, none⟩ = some (.int .i64 7) ∧ w'.cell? ⟨w.heap.size, 1, none⟩ = some (.int .i64 la) ∧ w'.cell? ⟨w.heap.size, 2, none⟩ = some (.int .i64 ln) ∧ w'.cell? ⟨w.heap.size, 3, none⟩ = some (.int .i64 ra) ∧ w'.cell? ⟨w.heap.size, 4, none⟩ = some (.int .i64 rn)))
  have H := hide h
  have HW := hide hW
  have HB := hide hb0
  clear h hb0 hW
  go_enter Try.func125, Try.ntmps125
  go_wp2_with fail
  rw [← HW.out]
  have hS0 := KB.out W.drew ((Below.refl _ _).drew)
  refine wp_region_held (S := fun w' => w'.cell? ⟨a, 5, none⟩ = some (.func (.func k) #[] caps) ∧ w'.cell? ⟨w.heap.size, 0, none⟩ = some (.int .i64 7) ∧ w'.cell? ⟨w.heap.size, 1, none⟩ = some (.int .i64 la) ∧ w'.cell? ⟨w.heap.size, 2, none⟩ = some (.int .i64 ln) ∧ w'.cell? ⟨w.heap.size, 3, none⟩ = some (.int .i64 ra) ∧ w'.cell? ⟨w.heap.size, 4, none⟩ = some (.int .i64 rn)) (by kernel_rfl) ?_
  refine wpAnyH_take (i := 0) (v := .pointer (some ⟨a, 0, none⟩)) rfl (by kernel_rfl) (by kernel_rfl) (by kernel_rfl) (fun _ _ _ h => h) (Or.inl ⟨by rfl, ?_⟩) hS0 ?_
  · intro w hSw; obtain ⟨q0, q1, q2, q3, q4, q5⟩ := hSw; go_simp
  refine wpAnyH_take (i := 1) (v := .pointer (some ⟨w.heap.size, 0, none⟩)) rfl (by kernel_rfl) (by kernel_rfl) (by kernel_rfl) (fun _ _ _ h => h) (Or.inl ⟨by rfl, ?_⟩) hS0 ?_
  · intro w hSw; obtain ⟨q0, q1, q2, q3, q4, q5⟩ := hSw; go_simp
  refine wpAnyH_take (i := 2) (v := .int .i64 7) rfl (by kernel_rfl) (by kernel_rfl) (by kernel_rfl) (fun _ _ _ h => h) (Or.inl ⟨by rfl, ?_⟩) hS0 ?_
  · intro w hSw; obtain ⟨q0, q1, q2, q3, q4, q5⟩ := hSw; go_simp
  refine wpAnyH_take (i := 3) (v := .pointer (some ⟨a, 0, none⟩)) rfl (by kernel_rfl) (by kernel_rfl) (by kernel_rfl) (fun _ _ _ h => h) (Or.inl ⟨by rfl, ?_⟩) hS0 ?_
  · intro w hSw; obtain ⟨q0, q1, q2, q3, q4, q5⟩ := hSw; go_simp
  refine wpAnyH_take (i := 4) (v := .pointer (some ⟨a, 0, none⟩)) rfl (by kernel_rfl) (by kernel_rfl) (by kernel_rfl) (fun _ _ _ h => h) (Or.inl ⟨by rfl, ?_⟩) hS0 ?_
  · intro w hSw; obtain ⟨q0, q1, q2, q3, q4, q5⟩ := hSw; go_simp
  refine wpAnyH_take (i := 5) (v := .pointer (some ⟨a, 5, none⟩)) rfl (by kernel_rfl) (by kernel_rfl) (by kernel_rfl) (fun _ _ _ h => h) (Or.inl ⟨by rfl, ?_⟩) hS0 ?_
  · intro w hSw; obtain ⟨q0, q1, q2, q3, q4, q5⟩ := hSw; go_simp
  refine wpAnyH_take (i := 6) (v := .func (.func k) #[] caps) rfl (by kernel_rfl) (by kernel_rfl) (by kernel_rfl) (fun _ _ _ h => h) (Or.inl ⟨by rfl, ?_⟩) hS0 ?_
  · intro w hSw; obtain ⟨q0, q1, q2, q3, q4, q5⟩ := hSw; go_simp
  refine wpAnyH_take (i := 7) (v := .pointer (some ⟨w.heap.size, 1, none⟩)) rfl (by kernel_rfl) (by kernel_rfl) (by kernel_rfl) (fun _ _ _ h => h) (Or.inl ⟨by rfl, ?_⟩) hS0 ?_
  · intro w hSw; obtain ⟨q0, q1, q2, q3, q4, q5⟩ := hSw; go_simp
  refine wpAnyH_take (i := 8) (v := .agg #[.int .i64 la, .int .i64 ln]) rfl (by kernel_rfl) (by kernel_rfl) (by kernel_rfl) (fun _ _ _ h => h) (Or.inl ⟨by rfl, ?_⟩) hS0 ?_
  · intro w hSw; obtain ⟨q0, q1, q2, q3, q4, q5⟩ := hSw; go_simp
  refine wpAnyH_take (i := 9) (v := .pointer (some ⟨w.heap.size, 3, none⟩)) rfl (by kernel_rfl) (by kernel_rfl) (by kernel_rfl) (fun _ _ _ h => h) (Or.inl ⟨by rfl, ?_⟩) hS0 ?_
  · intro w hSw; obtain ⟨q0, q1, q2, q3, q4, q5⟩ := hSw; go_simp
  refine wpAnyH_take (i := 10) (v := .agg #[.int .i64 ra, .int .i64 rn]) rfl (by kernel_rfl) (by kernel_rfl) (by kernel_rfl) (fun _ _ _ h => h) (Or.inl ⟨by rfl, ?_⟩) hS0 ?_
  · intro w hSw; obtain ⟨q0, q1, q2, q3, q4, q5⟩ := hSw; go_simp
  refine wpAnyH_ready (rs := [11]) (by kernel_rfl) (by simp) ?_
  refine AllReadyH.cons (o := _) rfl (fun K hK => ?_) AllReadyH.nil
  go_simp
  refine (HL.out _ HB.out.drew).mono ?_
  rintro e w1 ⟨rfl, hb1⟩
  have hbW1 : Below W.heap.size W w1 := (Below.refl W.heap.size W).drew.trans hb1
  exact ⟨rfl, rfl, (HB.out.mono (Nat.le_of_lt hal)).trans (hbW1.mono (by omega))⟩
set_option maxRecDepth 100000 in
set_option maxHeartbeats 4000000 in
theorem stepCmp8 (la ln ra rn n u c : Int) (a k : Nat) (caps : Array Value) (vv : Value) (o d : Int) (dv cv : Value) (L : List Bool) (w : World) (h : AskAt w a w.heap.size vv o d dv cv (.func (.func k) #[] caps) L) (hL : L.length ≤ 1000)
    (hcf : ∀ (args : Array Value) (w : World), (callFunc k args).run Try.prog w = .ok (.enter k args) w)
    (HL : Hid (∀ w', Below w.heap.size w w' → Calls Try.prog k (#[.agg #[.int .i64 la, .int .i64 ln], .agg #[.int .i64 ra, .int .i64 rn]] ++ caps) w' fun e w'' => e = .returned (.int .i64 c) ∧ Below w'.heap.size w' w'')) :
    Calls Try.prog 125 #[.pointer (some ⟨a, 0, none⟩), instVal 8 la ln ra rn n u] w (StepPost a vv o d dv cv (.func (.func k) #[] caps) (L ++ [soB 8 c]) w) := by
  obtain ⟨W, hW⟩ : ∃ W, W = w.alloc (.cells #[(.int .i64 8), .int .i64 la, .int .i64 ln, .int .i64 ra, .int .i64 rn, .int .i64 n, .int .i64 u] 92) := ⟨_, rfl⟩
  have hb0 : Below w.heap.size w W := by rw [hW]; exact (Below.refl _ _).alloc (Nat.le_refl _) _
  have hal : a < w.heap.size := by obtain ⟨_, _, _, h3, _⟩ := h; exact h3
  have hz : W.heap.size = w.heap.size + 1 := by rw [hW]; simp
  have c5 := (h.below hb0).cells.2.2.2
  have x0 : W.cell? ⟨w.heap.size, 0, none⟩ = some (.int .i64 8) := by rw [hW]; simp
  have x1 : W.cell? ⟨w.heap.size, 1, none⟩ = some (.int .i64 la) := by rw [hW]; simp
  have x2 : W.cell? ⟨w.heap.size, 2, none⟩ = some (.int .i64 ln) := by rw [hW]; simp
  have x3 : W.cell? ⟨w.heap.size, 3, none⟩ = some (.int .i64 ra) := by rw [hW]; simp
  have x4 : W.cell? ⟨w.heap.size, 4, none⟩ = some (.int .i64 rn) := by rw [hW]; simp
  have KB := hide (fun (w' : World) (hb : Below W.heap.size W w') => (⟨(hb.cell (p := ⟨a, 5, none⟩) (by show a < _; omega)).trans c5, (hb.cell (p := ⟨w.heap.size, 0, none⟩) (by show w.heap.size < _; omega)).trans x0, (hb.cell (p := ⟨w.heap.size, 1, none⟩) (by show w.heap.size < _; omega)).trans x1, (hb.cell (p := ⟨w.heap.size, 2, none⟩) (by show w.heap.size < _; omega)).trans x2, (hb.cell (p := ⟨w.heap.size, 3, none⟩) (by show w.heap.size < _; omega)).trans x3, (hb.cell (p := ⟨w.heap.size, 4, none⟩) (by show w.heap.size < _; omega)).trans x4⟩ :
    w'.cell? ⟨a, 5, none⟩ = some (.func (.func k) #[] caps) ∧ w'.cell? ⟨w.heap.size, 0, none⟩ = some (.int .i64 8) ∧ w'.cell? ⟨w.heap.size, 1, none⟩ = some (.int .i64 la) ∧ w'.cell? ⟨w.heap.size, 2, none⟩ = some (.int .i64 ln) ∧ w'.cell? ⟨w.heap.size, 3, none⟩ = some (.int .i64 ra) ∧ w'.cell? ⟨w.heap.size, 4, none⟩ = some (.int .i64 rn)))
  have KP := hide (fun (w1 w2 : World) (hb : Below W.heap.size W w1) (ha : AskAt w2 a w2.heap.size vv o d dv cv (.func (.func k) #[] caps) (L ++ [soB 8 c])) (hp : Past w.heap.size w1 w2) => by
    obtain ⟨q0, q1, q2, q3, q4, q5⟩ := KB.out w1 hb
    have hs : w.heap.size < w1.heap.size := by have := hb.size; omega
    exact (⟨ha.cells.2.2.2, (hp.cell (Nat.le_refl _) hs).trans q1, (hp.cell (Nat.le_refl _) hs).trans q2, (hp.cell (Nat.le_refl _) hs).trans q3, (hp.cell (Nat.le_refl _) hs).trans q4, (hp.cell (Nat.le_refl _) hs).trans q5⟩ :
      w2.cell? ⟨a, 5, none⟩ = some (.func (.func k) #[] caps) ∧ w2.cell? ⟨w.heap.size, 0, none⟩ = some (.int .i64 8) ∧ w2.cell? ⟨w.heap.size, 1, none⟩ = some (.int .i64 la) ∧ w2.cell? ⟨w.heap.size, 2, none⟩ = some (.int .i64 ln) ∧ w2.cell? ⟨w.heap.size, 3, none⟩ = some (.int .i64 ra) ∧ w2.cell? ⟨w.heap.size, 4, none⟩ = some (.int .i64 rn)))
  have H := hide h
  have HW := hide hW
  have HB := hide hb0
  clear h hb0 hW
  go_enter Try.func125, Try.ntmps125
  go_wp2_with fail
  rw [← HW.out]
  have hS0 := KB.out W.drew ((Below.refl _ _).drew)
  go_region_held3 (fun w' => w'.cell? ⟨a, 5, none⟩ = some (.func (.func k) #[] caps) ∧ w'.cell? ⟨w.heap.size, 0, none⟩ = some (.int .i64 8) ∧ w'.cell? ⟨w.heap.size, 1, none⟩ = some (.int .i64 la) ∧ w'.cell? ⟨w.heap.size, 2, none⟩ = some (.int .i64 ln) ∧ w'.cell? ⟨w.heap.size, 3, none⟩ = some (.int .i64 ra) ∧ w'.cell? ⟨w.heap.size, 4, none⟩ = some (.int .i64 rn)) (assumption)
    (first
      | (go_at_call 135; refine (so_any _ _ _).mono ?_; rintro e w' ⟨rfl, rfl⟩)
      | (go_at_call 134; (with_reducible refine (askPush a w.heap.size vv o d dv cv _ L _ _ (H.out.below hbw1) hL).mono ?_); rintro e w2 ⟨rfl, ha, hbl, hsz, hpast⟩; have K2 := KP.out _ _ hbW1 ha hpast)
      | ((with_reducible refine (HL.out _ HB.out.drew).mono ?_); rintro e w1 ⟨rfl, hb1⟩; have hbW1 : Below W.heap.size W w1 := (Below.refl W.heap.size W).drew.trans hb1; have K1 := KB.out w1 hbW1; have hbw1 : Below w.heap.size w w1 := HB.out.trans (hbW1.mono HB.out.size)))
  all_goals
    go_wp2_with fail
    go_end0
    exact ⟨rfl, ha, (hbw1.mono (Nat.le_of_lt hal)).trans hbl, Nat.le_trans hbw1.size hsz⟩
set_option maxRecDepth 100000 in
set_option maxHeartbeats 4000000 in
theorem stepNo8 (la ln ra rn n u : Int) (a k : Nat) (caps : Array Value) (vv : Value) (o d : Int) (dv cv : Value) (L : List Bool) (w : World) (h : AskAt w a w.heap.size vv o d dv cv (.func (.func k) #[] caps) L) (hL : L.length ≤ 1000)
    (hcf : ∀ (args : Array Value) (w : World), (callFunc k args).run Try.prog w = .ok (.enter k args) w)
    (HL : Hid (∀ w', Below w.heap.size w w' → Calls Try.prog k (#[.agg #[.int .i64 la, .int .i64 ln], .agg #[.int .i64 ra, .int .i64 rn]] ++ caps) w' fun e w'' => e = .panicked lostP ∧ Below w'.heap.size w' w'')) :
    Calls Try.prog 125 #[.pointer (some ⟨a, 0, none⟩), instVal 8 la ln ra rn n u] w fun e w' => e = .panicked lostP ∧ Below a w w' := by
  obtain ⟨W, hW⟩ : ∃ W, W = w.alloc (.cells #[(.int .i64 8), .int .i64 la, .int .i64 ln, .int .i64 ra, .int .i64 rn, .int .i64 n, .int .i64 u] 92) := ⟨_, rfl⟩
  have hb0 : Below w.heap.size w W := by rw [hW]; exact (Below.refl _ _).alloc (Nat.le_refl _) _
  have hal : a < w.heap.size := by obtain ⟨_, _, _, h3, _⟩ := h; exact h3
  have hz : W.heap.size = w.heap.size + 1 := by rw [hW]; simp
  have c5 := (h.below hb0).cells.2.2.2
  have x0 : W.cell? ⟨w.heap.size, 0, none⟩ = some (.int .i64 8) := by rw [hW]; simp
  have x1 : W.cell? ⟨w.heap.size, 1, none⟩ = some (.int .i64 la) := by rw [hW]; simp
  have x2 : W.cell? ⟨w.heap.size, 2, none⟩ = some (.int .i64 ln) := by rw [hW]; simp
  have x3 : W.cell? ⟨w.heap.size, 3, none⟩ = some (.int .i64 ra) := by rw [hW]; simp
  have x4 : W.cell? ⟨w.heap.size, 4, none⟩ = some (.int .i64 rn) := by rw [hW]; simp
  have KB := hide (fun (w' : World) (hb : Below W.heap.size W w') => (⟨(hb.cell (p := ⟨a, 5, none⟩) (by show a < _; omega)).trans c5, (hb.cell (p := ⟨w.heap.size, 0, none⟩) (by show w.heap.size < _; omega)).trans x0, (hb.cell (p := ⟨w.heap.size, 1, none⟩) (by show w.heap.size < _; omega)).trans x1, (hb.cell (p := ⟨w.heap.size, 2, none⟩) (by show w.heap.size < _; omega)).trans x2, (hb.cell (p := ⟨w.heap.size, 3, none⟩) (by show w.heap.size < _; omega)).trans x3, (hb.cell (p := ⟨w.heap.size, 4, none⟩) (by show w.heap.size < _; omega)).trans x4⟩ :
    w'.cell? ⟨a, 5, none⟩ = some (.func (.func k) #[] caps) ∧ w'.cell? ⟨w.heap.size, 0, none⟩ = some (.int .i64 8) ∧ w'.cell? ⟨w.heap.size, 1, none⟩ = some (.int .i64 la) ∧ w'.cell? ⟨w.heap.size, 2, none⟩ = some (.int .i64 ln) ∧ w'.cell? ⟨w.heap.size, 3, none⟩ = some (.int .i64 ra) ∧ w'.cell? ⟨w.heap.size, 4, none⟩ = some (.int .i64 rn)))
  have H := hide h
  have HW := hide hW
  have HB := hide hb0
  clear h hb0 hW
  go_enter Try.func125, Try.ntmps125
  go_wp2_with fail
  rw [← HW.out]
  have hS0 := KB.out W.drew ((Below.refl _ _).drew)
  refine wp_region_held (S := fun w' => w'.cell? ⟨a, 5, none⟩ = some (.func (.func k) #[] caps) ∧ w'.cell? ⟨w.heap.size, 0, none⟩ = some (.int .i64 8) ∧ w'.cell? ⟨w.heap.size, 1, none⟩ = some (.int .i64 la) ∧ w'.cell? ⟨w.heap.size, 2, none⟩ = some (.int .i64 ln) ∧ w'.cell? ⟨w.heap.size, 3, none⟩ = some (.int .i64 ra) ∧ w'.cell? ⟨w.heap.size, 4, none⟩ = some (.int .i64 rn)) (by kernel_rfl) ?_
  refine wpAnyH_take (i := 0) (v := .pointer (some ⟨a, 0, none⟩)) rfl (by kernel_rfl) (by kernel_rfl) (by kernel_rfl) (fun _ _ _ h => h) (Or.inl ⟨by rfl, ?_⟩) hS0 ?_
  · intro w hSw; obtain ⟨q0, q1, q2, q3, q4, q5⟩ := hSw; go_simp
  refine wpAnyH_take (i := 1) (v := .pointer (some ⟨w.heap.size, 0, none⟩)) rfl (by kernel_rfl) (by kernel_rfl) (by kernel_rfl) (fun _ _ _ h => h) (Or.inl ⟨by rfl, ?_⟩) hS0 ?_
  · intro w hSw; obtain ⟨q0, q1, q2, q3, q4, q5⟩ := hSw; go_simp
  refine wpAnyH_take (i := 2) (v := .int .i64 8) rfl (by kernel_rfl) (by kernel_rfl) (by kernel_rfl) (fun _ _ _ h => h) (Or.inl ⟨by rfl, ?_⟩) hS0 ?_
  · intro w hSw; obtain ⟨q0, q1, q2, q3, q4, q5⟩ := hSw; go_simp
  refine wpAnyH_take (i := 3) (v := .pointer (some ⟨a, 0, none⟩)) rfl (by kernel_rfl) (by kernel_rfl) (by kernel_rfl) (fun _ _ _ h => h) (Or.inl ⟨by rfl, ?_⟩) hS0 ?_
  · intro w hSw; obtain ⟨q0, q1, q2, q3, q4, q5⟩ := hSw; go_simp
  refine wpAnyH_take (i := 4) (v := .pointer (some ⟨a, 0, none⟩)) rfl (by kernel_rfl) (by kernel_rfl) (by kernel_rfl) (fun _ _ _ h => h) (Or.inl ⟨by rfl, ?_⟩) hS0 ?_
  · intro w hSw; obtain ⟨q0, q1, q2, q3, q4, q5⟩ := hSw; go_simp
  refine wpAnyH_take (i := 5) (v := .pointer (some ⟨a, 5, none⟩)) rfl (by kernel_rfl) (by kernel_rfl) (by kernel_rfl) (fun _ _ _ h => h) (Or.inl ⟨by rfl, ?_⟩) hS0 ?_
  · intro w hSw; obtain ⟨q0, q1, q2, q3, q4, q5⟩ := hSw; go_simp
  refine wpAnyH_take (i := 6) (v := .func (.func k) #[] caps) rfl (by kernel_rfl) (by kernel_rfl) (by kernel_rfl) (fun _ _ _ h => h) (Or.inl ⟨by rfl, ?_⟩) hS0 ?_
  · intro w hSw; obtain ⟨q0, q1, q2, q3, q4, q5⟩ := hSw; go_simp
  refine wpAnyH_take (i := 7) (v := .pointer (some ⟨w.heap.size, 1, none⟩)) rfl (by kernel_rfl) (by kernel_rfl) (by kernel_rfl) (fun _ _ _ h => h) (Or.inl ⟨by rfl, ?_⟩) hS0 ?_
  · intro w hSw; obtain ⟨q0, q1, q2, q3, q4, q5⟩ := hSw; go_simp
  refine wpAnyH_take (i := 8) (v := .agg #[.int .i64 la, .int .i64 ln]) rfl (by kernel_rfl) (by kernel_rfl) (by kernel_rfl) (fun _ _ _ h => h) (Or.inl ⟨by rfl, ?_⟩) hS0 ?_
  · intro w hSw; obtain ⟨q0, q1, q2, q3, q4, q5⟩ := hSw; go_simp
  refine wpAnyH_take (i := 9) (v := .pointer (some ⟨w.heap.size, 3, none⟩)) rfl (by kernel_rfl) (by kernel_rfl) (by kernel_rfl) (fun _ _ _ h => h) (Or.inl ⟨by rfl, ?_⟩) hS0 ?_
  · intro w hSw; obtain ⟨q0, q1, q2, q3, q4, q5⟩ := hSw; go_simp
  refine wpAnyH_take (i := 10) (v := .agg #[.int .i64 ra, .int .i64 rn]) rfl (by kernel_rfl) (by kernel_rfl) (by kernel_rfl) (fun _ _ _ h => h) (Or.inl ⟨by rfl, ?_⟩) hS0 ?_
  · intro w hSw; obtain ⟨q0, q1, q2, q3, q4, q5⟩ := hSw; go_simp
  refine wpAnyH_ready (rs := [11]) (by kernel_rfl) (by simp) ?_
  refine AllReadyH.cons (o := _) rfl (fun K hK => ?_) AllReadyH.nil
  go_simp
  refine (HL.out _ HB.out.drew).mono ?_
  rintro e w1 ⟨rfl, hb1⟩
  have hbW1 : Below W.heap.size W w1 := (Below.refl W.heap.size W).drew.trans hb1
  exact ⟨rfl, rfl, (HB.out.mono (Nat.le_of_lt hal)).trans (hbW1.mono (by omega))⟩
end Go.Proofs.Ytfocnmkbnccilaa
