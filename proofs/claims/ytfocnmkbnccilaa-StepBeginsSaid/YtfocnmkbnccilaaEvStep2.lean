/-
  The walk of one step of the asker: sets, not, and, or, implies. No condition.
-/
import Derived.Test.YtfocnmkbnccilaaEvStep
set_option linter.unusedVariables false
set_option linter.unusedSimpArgs false
namespace Go.Proofs.Ytfocnmkbnccilaa
open Go.RowKit
attribute [local go_sem ↓] Go.wp_at_zero Go.wp_at_succ

set_option maxRecDepth 100000 in
set_option maxHeartbeats 4000000 in
theorem stepHas9 (la ln ra rn n u : Int) (a : Nat) (vv : Value) (o d : Int) (dv cv f : Value) (L : List Bool) (w : World) (h : AskAt w a w.heap.size vv o d dv cv f L) (hL : L.length ≤ 1000) :
    Calls Try.prog 125 #[.pointer (some ⟨a, 0, none⟩), instVal 9 la ln ra rn n u] w (StepPost a vv o d dv cv f (L ++ [hasB o n]) w) := by
  obtain ⟨W, hW⟩ : ∃ W, W = w.alloc (.cells #[.int .i64 9, .int .i64 la, .int .i64 ln, .int .i64 ra, .int .i64 rn, .int .i64 n, .int .i64 u] 92) := ⟨_, rfl⟩
  have hb0 : Below w.heap.size w W := by rw [hW]; exact (Below.refl _ _).alloc (Nat.le_refl _) _
  have hal : a < w.heap.size := by obtain ⟨_, _, _, h3, _⟩ := h; exact h3
  have hz : W.heap.size = w.heap.size + 1 := by rw [hW]; simp
  have c5 := (h.below hb0).cells.2.1
  have x0 : W.cell? ⟨w.heap.size, 5, none⟩ = some (.int .i64 n) := by rw [hW]; simp
  have KB := hide (fun (w' : World) (hb : Below W.heap.size W w') => (⟨(hb.cell (p := ⟨a, 1, none⟩) (by show a < _; omega)).trans c5, (hb.cell (p := ⟨w.heap.size, 5, none⟩) (by show w.heap.size < _; omega)).trans x0⟩ :
    w'.cell? ⟨a, 1, none⟩ = some (.int .i64 o) ∧ w'.cell? ⟨w.heap.size, 5, none⟩ = some (.int .i64 n)))
  have KP := hide (fun (w1 w2 : World) (hb : Below W.heap.size W w1) (ha : AskAt w2 a w2.heap.size vv o d dv cv f (L ++ [hasB o n])) (hp : Past w.heap.size w1 w2) => by
    obtain ⟨q0, q1⟩ := KB.out w1 hb
    have hs : w.heap.size < w1.heap.size := by have := hb.size; omega
    exact (⟨ha.cells.2.1, (hp.cell (Nat.le_refl _) hs).trans q1⟩ :
      w2.cell? ⟨a, 1, none⟩ = some (.int .i64 o) ∧ w2.cell? ⟨w.heap.size, 5, none⟩ = some (.int .i64 n)))
  have H := hide h
  have HW := hide hW
  have HB := hide hb0
  clear h hb0 hW
  go_enter Try.func125, Try.ntmps125
  go_wp2_with fail
  rw [← HW.out]
  have hbW : Below W.heap.size W W.drew := (Below.refl _ _).drew
  have hbw : Below w.heap.size w W.drew := HB.out.drew
  have hS0 := KB.out W.drew hbW
  go_region_held3 (fun w' => w'.cell? ⟨a, 1, none⟩ = some (.int .i64 o) ∧ w'.cell? ⟨w.heap.size, 5, none⟩ = some (.int .i64 n)) (assumption)
    (first
      | (go_at_call 105; refine (has_any _ _ _).mono ?_; rintro e w' ⟨rfl, rfl⟩)
      | (go_at_call 134; (with_reducible refine (askPush a w.heap.size vv o d dv cv _ L _ _ (H.out.below hbw) hL).mono ?_); rintro e w2 ⟨rfl, ha, hbl, hsz, hpast⟩; have K2 := KP.out _ _ hbW ha hpast))
  all_goals
    go_wp2_with fail
    go_end0
    exact ⟨rfl, ha, (hbw.mono (Nat.le_of_lt hal)).trans hbl, Nat.le_trans hbw.size hsz⟩

set_option maxRecDepth 100000 in
set_option maxHeartbeats 4000000 in
theorem stepHas10 (la ln ra rn n u : Int) (a : Nat) (vv : Value) (o d : Int) (dv cv f : Value) (L : List Bool) (w : World) (h : AskAt w a w.heap.size vv o d dv cv f L) (hL : L.length ≤ 1000) :
    Calls Try.prog 125 #[.pointer (some ⟨a, 0, none⟩), instVal 10 la ln ra rn n u] w (StepPost a vv o d dv cv f (L ++ [hasB d n]) w) := by
  obtain ⟨W, hW⟩ : ∃ W, W = w.alloc (.cells #[.int .i64 10, .int .i64 la, .int .i64 ln, .int .i64 ra, .int .i64 rn, .int .i64 n, .int .i64 u] 92) := ⟨_, rfl⟩
  have hb0 : Below w.heap.size w W := by rw [hW]; exact (Below.refl _ _).alloc (Nat.le_refl _) _
  have hal : a < w.heap.size := by obtain ⟨_, _, _, h3, _⟩ := h; exact h3
  have hz : W.heap.size = w.heap.size + 1 := by rw [hW]; simp
  have c5 := (h.below hb0).cells.2.2.1
  have x0 : W.cell? ⟨w.heap.size, 5, none⟩ = some (.int .i64 n) := by rw [hW]; simp
  have KB := hide (fun (w' : World) (hb : Below W.heap.size W w') => (⟨(hb.cell (p := ⟨a, 2, none⟩) (by show a < _; omega)).trans c5, (hb.cell (p := ⟨w.heap.size, 5, none⟩) (by show w.heap.size < _; omega)).trans x0⟩ :
    w'.cell? ⟨a, 2, none⟩ = some (.int .i64 d) ∧ w'.cell? ⟨w.heap.size, 5, none⟩ = some (.int .i64 n)))
  have KP := hide (fun (w1 w2 : World) (hb : Below W.heap.size W w1) (ha : AskAt w2 a w2.heap.size vv o d dv cv f (L ++ [hasB d n])) (hp : Past w.heap.size w1 w2) => by
    obtain ⟨q0, q1⟩ := KB.out w1 hb
    have hs : w.heap.size < w1.heap.size := by have := hb.size; omega
    exact (⟨ha.cells.2.2.1, (hp.cell (Nat.le_refl _) hs).trans q1⟩ :
      w2.cell? ⟨a, 2, none⟩ = some (.int .i64 d) ∧ w2.cell? ⟨w.heap.size, 5, none⟩ = some (.int .i64 n)))
  have H := hide h
  have HW := hide hW
  have HB := hide hb0
  clear h hb0 hW
  go_enter Try.func125, Try.ntmps125
  go_wp2_with fail
  rw [← HW.out]
  have hbW : Below W.heap.size W W.drew := (Below.refl _ _).drew
  have hbw : Below w.heap.size w W.drew := HB.out.drew
  have hS0 := KB.out W.drew hbW
  go_region_held3 (fun w' => w'.cell? ⟨a, 2, none⟩ = some (.int .i64 d) ∧ w'.cell? ⟨w.heap.size, 5, none⟩ = some (.int .i64 n)) (assumption)
    (first
      | (go_at_call 105; refine (has_any _ _ _).mono ?_; rintro e w' ⟨rfl, rfl⟩)
      | (go_at_call 134; (with_reducible refine (askPush a w.heap.size vv o d dv cv _ L _ _ (H.out.below hbw) hL).mono ?_); rintro e w2 ⟨rfl, ha, hbl, hsz, hpast⟩; have K2 := KP.out _ _ hbW ha hpast))
  all_goals
    go_wp2_with fail
    go_end0
    exact ⟨rfl, ha, (hbw.mono (Nat.le_of_lt hal)).trans hbl, Nat.le_trans hbw.size hsz⟩

set_option maxRecDepth 100000 in
set_option maxHeartbeats 4000000 in
theorem stepNot (la ln ra rn n u : Int) (a : Nat) (vv : Value) (o d : Int) (dv cv f : Value) (L : List Bool) (b : Bool) (w : World) (h : AskAt w a w.heap.size vv o d dv cv f (L ++ [b])) (hL : L.length ≤ 999) :
    Calls Try.prog 125 #[.pointer (some ⟨a, 0, none⟩), instVal 15 la ln ra rn n u] w (StepPost a vv o d dv cv f (L ++ [!b]) w) := by
  have hb0 : Below w.heap.size w (w.alloc (.cells #[.int .i64 15, .int .i64 la, .int .i64 ln, .int .i64 ra, .int .i64 rn, .int .i64 n, .int .i64 u] 92)) := (Below.refl _ _).alloc (Nat.le_refl _) _
  have hal : a < w.heap.size := by obtain ⟨_, _, _, h3, _⟩ := h; exact h3
  have Hp := hide (askPop a w.heap.size vv o d dv cv f L b _ (h.below hb0) (by omega))
  have HB := hide hb0
  clear h hb0
  go_enter Try.func125, Try.ntmps125
  go_wp2_with (first
    | (go_at_call 126; refine Hp.out.mono ?_; rintro e w1 ⟨rfl, ha, hbl, hsz, _⟩)
    | (go_at_call 134; (with_reducible refine (askPush a w.heap.size vv o d dv cv _ L _ _ ha (by omega)).mono ?_); rintro e w2 ⟨rfl, ha2, hbl2, hsz2, _⟩))
  go_end0
  have h1 := (HB.out.mono (Nat.le_of_lt hal)).trans hbl
  exact ⟨rfl, ha2, h1.trans hbl2, Nat.le_trans (Nat.le_trans HB.out.size hsz) hsz2⟩
set_option maxRecDepth 100000 in
set_option maxHeartbeats 4000000 in
theorem stepNotNone (la ln ra rn n u : Int) (a : Nat) (vv : Value) (o d : Int) (dv cv f : Value) (w : World) (h : AskAt w a w.heap.size vv o d dv cv f []) :
    Calls Try.prog 125 #[.pointer (some ⟨a, 0, none⟩), instVal 15 la ln ra rn n u] w fun e w' => e = .panicked lostP ∧ Below a w w' := by
  have hb0 : Below w.heap.size w (w.alloc (.cells #[.int .i64 15, .int .i64 la, .int .i64 ln, .int .i64 ra, .int .i64 rn, .int .i64 n, .int .i64 u] 92)) := (Below.refl _ _).alloc (Nat.le_refl _) _
  have hal : a < w.heap.size := by obtain ⟨_, _, _, h3, _⟩ := h; exact h3
  have Hp := hide (askPopNone a w.heap.size vv o d dv cv f _ (h.below hb0))
  have HB := hide hb0
  clear h hb0
  go_enter Try.func125, Try.ntmps125
  go_wp2_with (first
    | (go_at_call 126; refine Hp.out.mono ?_; rintro e w1 ⟨rfl, rfl⟩))
  exact ⟨rfl, rfl, HB.out.mono (Nat.le_of_lt hal)⟩

set_option maxRecDepth 100000 in
set_option maxHeartbeats 4000000 in
theorem stepBin16 (la ln ra rn n u : Int) (a : Nat) (vv : Value) (o d : Int) (dv cv f : Value) (L : List Bool) (x y : Bool) (w : World) (h : AskAt w a w.heap.size vv o d dv cv f ((L ++ [x]) ++ [y])) (hL : L.length ≤ 998) :
    Calls Try.prog 125 #[.pointer (some ⟨a, 0, none⟩), instVal 16 la ln ra rn n u] w (StepPost a vv o d dv cv f (L ++ [x && y]) w) := by
  obtain ⟨W, hW⟩ : ∃ W, W = w.alloc (.cells #[.int .i64 16, .int .i64 la, .int .i64 ln, .int .i64 ra, .int .i64 rn, .int .i64 n, .int .i64 u] 92) := ⟨_, rfl⟩
  have hb0 : Below w.heap.size w W := by rw [hW]; exact (Below.refl _ _).alloc (Nat.le_refl _) _
  have hal : a < w.heap.size := by obtain ⟨_, _, _, h3, _⟩ := h; exact h3
  have x0 : W.cell? ⟨w.heap.size, 0, none⟩ = some (.int .i64 16) := by rw [hW]; simp
  have hz : W.heap.size = w.heap.size + 1 := by rw [hW]; simp
  have Hp := hide (askPop a w.heap.size vv o d dv cv f (L ++ [x]) y _ (h.below hb0) (by simp; omega))
  have HB := hide hb0
  have HW := hide hW
  clear h hb0 hW
  cases x <;> cases y
  all_goals
    go_enter Try.func125, Try.ntmps125
    go_wp2_with fail
    rw [← HW.out]
    refine Hp.out.mono ?_
    rintro e w1 ⟨rfl, ha, hbl, hsz, hp1⟩
    have y0 := (hp1.cell (i := 0) (Nat.le_refl _) (by omega)).trans x0
    have hs1 : w.heap.size < w1.heap.size := by omega
    go_wp2_with fail
    refine (askPop a w.heap.size vv o d dv cv f L _ _ ha (by omega)).mono ?_
    rintro e w2 ⟨rfl, ha2, hbl2, hsz2, hp2⟩
    have z0 := (hp2.cell (i := 0) (Nat.le_refl _) hs1).trans y0
    have Ha := hide ha
    clear x0 y0 hp1 hp2 ha
    go_wp2_with fail
    refine (askPush a w.heap.size vv o d dv cv f L _ _ ha2 (by omega)).mono ?_
    rintro e w3 ⟨rfl, ha3, hbl3, hsz3, hp3⟩
    go_wp2_with fail
    go_end0
    have h1 := ((HB.out.mono (Nat.le_of_lt hal)).trans hbl).trans hbl2
    exact ⟨rfl, ha3, h1.trans hbl3, by omega⟩

set_option maxRecDepth 100000 in
set_option maxHeartbeats 4000000 in
theorem stepBinNone16 (la ln ra rn n u : Int) (a : Nat) (vv : Value) (o d : Int) (dv cv f : Value) (L : List Bool) (w : World) (h : AskAt w a w.heap.size vv o d dv cv f L) (hL : L.length < 2) :
    Calls Try.prog 125 #[.pointer (some ⟨a, 0, none⟩), instVal 16 la ln ra rn n u] w fun e w' => e = .panicked lostP ∧ Below a w w' := by
  have hb0 : Below w.heap.size w (w.alloc (.cells #[.int .i64 16, .int .i64 la, .int .i64 ln, .int .i64 ra, .int .i64 rn, .int .i64 n, .int .i64 u] 92)) := (Below.refl _ _).alloc (Nat.le_refl _) _
  have hal : a < w.heap.size := by obtain ⟨_, _, _, h3, _⟩ := h; exact h3
  have HB := hide hb0
  match L, hL with
  | [], _ =>
    have Hp := hide (askPopNone a w.heap.size vv o d dv cv f _ (h.below hb0))
    clear h hb0
    go_enter Try.func125, Try.ntmps125
    go_wp2_with (first
      | (go_at_call 126; refine Hp.out.mono ?_; rintro e w1 ⟨rfl, rfl⟩))
    exact ⟨rfl, rfl, HB.out.mono (Nat.le_of_lt hal)⟩
  | [y], _ =>
    have Hp := hide (askPop a w.heap.size vv o d dv cv f [] y _ (h.below hb0) (by simp))
    clear h hb0
    go_enter Try.func125, Try.ntmps125
    go_wp2_with fail
    refine Hp.out.mono ?_
    rintro e w1 ⟨rfl, ha, hbl, hsz, hp1⟩
    go_wp2_with fail
    refine (askPopNone a w.heap.size vv o d dv cv f _ ha).mono ?_
    rintro e w2 ⟨rfl, rfl⟩
    exact ⟨rfl, rfl, (HB.out.mono (Nat.le_of_lt hal)).trans hbl⟩

set_option maxRecDepth 100000 in
set_option maxHeartbeats 4000000 in
theorem stepBin17 (la ln ra rn n u : Int) (a : Nat) (vv : Value) (o d : Int) (dv cv f : Value) (L : List Bool) (x y : Bool) (w : World) (h : AskAt w a w.heap.size vv o d dv cv f ((L ++ [x]) ++ [y])) (hL : L.length ≤ 998) :
    Calls Try.prog 125 #[.pointer (some ⟨a, 0, none⟩), instVal 17 la ln ra rn n u] w (StepPost a vv o d dv cv f (L ++ [x || y]) w) := by
  obtain ⟨W, hW⟩ : ∃ W, W = w.alloc (.cells #[.int .i64 17, .int .i64 la, .int .i64 ln, .int .i64 ra, .int .i64 rn, .int .i64 n, .int .i64 u] 92) := ⟨_, rfl⟩
  have hb0 : Below w.heap.size w W := by rw [hW]; exact (Below.refl _ _).alloc (Nat.le_refl _) _
  have hal : a < w.heap.size := by obtain ⟨_, _, _, h3, _⟩ := h; exact h3
  have x0 : W.cell? ⟨w.heap.size, 0, none⟩ = some (.int .i64 17) := by rw [hW]; simp
  have hz : W.heap.size = w.heap.size + 1 := by rw [hW]; simp
  have Hp := hide (askPop a w.heap.size vv o d dv cv f (L ++ [x]) y _ (h.below hb0) (by simp; omega))
  have HB := hide hb0
  have HW := hide hW
  clear h hb0 hW
  cases x <;> cases y
  all_goals
    go_enter Try.func125, Try.ntmps125
    go_wp2_with fail
    rw [← HW.out]
    refine Hp.out.mono ?_
    rintro e w1 ⟨rfl, ha, hbl, hsz, hp1⟩
    have y0 := (hp1.cell (i := 0) (Nat.le_refl _) (by omega)).trans x0
    have hs1 : w.heap.size < w1.heap.size := by omega
    go_wp2_with fail
    refine (askPop a w.heap.size vv o d dv cv f L _ _ ha (by omega)).mono ?_
    rintro e w2 ⟨rfl, ha2, hbl2, hsz2, hp2⟩
    have z0 := (hp2.cell (i := 0) (Nat.le_refl _) hs1).trans y0
    have Ha := hide ha
    clear x0 y0 hp1 hp2 ha
    go_wp2_with fail
    refine (askPush a w.heap.size vv o d dv cv f L _ _ ha2 (by omega)).mono ?_
    rintro e w3 ⟨rfl, ha3, hbl3, hsz3, hp3⟩
    go_wp2_with fail
    go_end0
    have h1 := ((HB.out.mono (Nat.le_of_lt hal)).trans hbl).trans hbl2
    exact ⟨rfl, ha3, h1.trans hbl3, by omega⟩

set_option maxRecDepth 100000 in
set_option maxHeartbeats 4000000 in
theorem stepBinNone17 (la ln ra rn n u : Int) (a : Nat) (vv : Value) (o d : Int) (dv cv f : Value) (L : List Bool) (w : World) (h : AskAt w a w.heap.size vv o d dv cv f L) (hL : L.length < 2) :
    Calls Try.prog 125 #[.pointer (some ⟨a, 0, none⟩), instVal 17 la ln ra rn n u] w fun e w' => e = .panicked lostP ∧ Below a w w' := by
  have hb0 : Below w.heap.size w (w.alloc (.cells #[.int .i64 17, .int .i64 la, .int .i64 ln, .int .i64 ra, .int .i64 rn, .int .i64 n, .int .i64 u] 92)) := (Below.refl _ _).alloc (Nat.le_refl _) _
  have hal : a < w.heap.size := by obtain ⟨_, _, _, h3, _⟩ := h; exact h3
  have HB := hide hb0
  match L, hL with
  | [], _ =>
    have Hp := hide (askPopNone a w.heap.size vv o d dv cv f _ (h.below hb0))
    clear h hb0
    go_enter Try.func125, Try.ntmps125
    go_wp2_with (first
      | (go_at_call 126; refine Hp.out.mono ?_; rintro e w1 ⟨rfl, rfl⟩))
    exact ⟨rfl, rfl, HB.out.mono (Nat.le_of_lt hal)⟩
  | [y], _ =>
    have Hp := hide (askPop a w.heap.size vv o d dv cv f [] y _ (h.below hb0) (by simp))
    clear h hb0
    go_enter Try.func125, Try.ntmps125
    go_wp2_with fail
    refine Hp.out.mono ?_
    rintro e w1 ⟨rfl, ha, hbl, hsz, hp1⟩
    go_wp2_with fail
    refine (askPopNone a w.heap.size vv o d dv cv f _ ha).mono ?_
    rintro e w2 ⟨rfl, rfl⟩
    exact ⟨rfl, rfl, (HB.out.mono (Nat.le_of_lt hal)).trans hbl⟩

set_option maxRecDepth 100000 in
set_option maxHeartbeats 4000000 in
theorem stepBin18 (la ln ra rn n u : Int) (a : Nat) (vv : Value) (o d : Int) (dv cv f : Value) (L : List Bool) (x y : Bool) (w : World) (h : AskAt w a w.heap.size vv o d dv cv f ((L ++ [x]) ++ [y])) (hL : L.length ≤ 998) :
    Calls Try.prog 125 #[.pointer (some ⟨a, 0, none⟩), instVal 18 la ln ra rn n u] w (StepPost a vv o d dv cv f (L ++ [!x || y]) w) := by
  obtain ⟨W, hW⟩ : ∃ W, W = w.alloc (.cells #[.int .i64 18, .int .i64 la, .int .i64 ln, .int .i64 ra, .int .i64 rn, .int .i64 n, .int .i64 u] 92) := ⟨_, rfl⟩
  have hb0 : Below w.heap.size w W := by rw [hW]; exact (Below.refl _ _).alloc (Nat.le_refl _) _
  have hal : a < w.heap.size := by obtain ⟨_, _, _, h3, _⟩ := h; exact h3
  have x0 : W.cell? ⟨w.heap.size, 0, none⟩ = some (.int .i64 18) := by rw [hW]; simp
  have hz : W.heap.size = w.heap.size + 1 := by rw [hW]; simp
  have Hp := hide (askPop a w.heap.size vv o d dv cv f (L ++ [x]) y _ (h.below hb0) (by simp; omega))
  have HB := hide hb0
  have HW := hide hW
  clear h hb0 hW
  cases x <;> cases y
  all_goals
    go_enter Try.func125, Try.ntmps125
    go_wp2_with fail
    rw [← HW.out]
    refine Hp.out.mono ?_
    rintro e w1 ⟨rfl, ha, hbl, hsz, hp1⟩
    have y0 := (hp1.cell (i := 0) (Nat.le_refl _) (by omega)).trans x0
    have hs1 : w.heap.size < w1.heap.size := by omega
    go_wp2_with fail
    refine (askPop a w.heap.size vv o d dv cv f L _ _ ha (by omega)).mono ?_
    rintro e w2 ⟨rfl, ha2, hbl2, hsz2, hp2⟩
    have z0 := (hp2.cell (i := 0) (Nat.le_refl _) hs1).trans y0
    have Ha := hide ha
    clear x0 y0 hp1 hp2 ha
    go_wp2_with fail
    refine (askPush a w.heap.size vv o d dv cv f L _ _ ha2 (by omega)).mono ?_
    rintro e w3 ⟨rfl, ha3, hbl3, hsz3, hp3⟩
    go_wp2_with fail
    go_end0
    have h1 := ((HB.out.mono (Nat.le_of_lt hal)).trans hbl).trans hbl2
    exact ⟨rfl, ha3, h1.trans hbl3, by omega⟩

set_option maxRecDepth 100000 in
set_option maxHeartbeats 4000000 in
theorem stepBinNone18 (la ln ra rn n u : Int) (a : Nat) (vv : Value) (o d : Int) (dv cv f : Value) (L : List Bool) (w : World) (h : AskAt w a w.heap.size vv o d dv cv f L) (hL : L.length < 2) :
    Calls Try.prog 125 #[.pointer (some ⟨a, 0, none⟩), instVal 18 la ln ra rn n u] w fun e w' => e = .panicked lostP ∧ Below a w w' := by
  have hb0 : Below w.heap.size w (w.alloc (.cells #[.int .i64 18, .int .i64 la, .int .i64 ln, .int .i64 ra, .int .i64 rn, .int .i64 n, .int .i64 u] 92)) := (Below.refl _ _).alloc (Nat.le_refl _) _
  have hal : a < w.heap.size := by obtain ⟨_, _, _, h3, _⟩ := h; exact h3
  have HB := hide hb0
  match L, hL with
  | [], _ =>
    have Hp := hide (askPopNone a w.heap.size vv o d dv cv f _ (h.below hb0))
    clear h hb0
    go_enter Try.func125, Try.ntmps125
    go_wp2_with (first
      | (go_at_call 126; refine Hp.out.mono ?_; rintro e w1 ⟨rfl, rfl⟩))
    exact ⟨rfl, rfl, HB.out.mono (Nat.le_of_lt hal)⟩
  | [y], _ =>
    have Hp := hide (askPop a w.heap.size vv o d dv cv f [] y _ (h.below hb0) (by simp))
    clear h hb0
    go_enter Try.func125, Try.ntmps125
    go_wp2_with fail
    refine Hp.out.mono ?_
    rintro e w1 ⟨rfl, ha, hbl, hsz, hp1⟩
    go_wp2_with fail
    refine (askPopNone a w.heap.size vv o d dv cv f _ ha).mono ?_
    rintro e w2 ⟨rfl, rfl⟩
    exact ⟨rfl, rfl, (HB.out.mono (Nat.le_of_lt hal)).trans hbl⟩

set_option maxRecDepth 100000 in
set_option maxHeartbeats 4000000 in
theorem stepBad (op la ln ra rn n u : Int) (a : Nat) (w : World) (hal : a ≤ w.heap.size) (h1 : (op == 1) = false) (h2 : (op == 2) = false) (h3 : (op == 3) = false) (h4 : (op == 4) = false) (h5 : (op == 5) = false) (h6 : (op == 6) = false) (h7 : (op == 7) = false) (h8 : (op == 8) = false)
    (h9 : (op == 9) = false) (h10 : (op == 10) = false) (h15 : (op == 15) = false) (h16 : (op == 16) = false) (h17 : (op == 17) = false) (h18 : (op == 18) = false) :
    Calls Try.prog 125 #[.pointer (some ⟨a, 0, none⟩), instVal op la ln ra rn n u] w fun e w' => e = .panicked lostP ∧ Below a w w' := by
  go_enter Try.func125, Try.ntmps125
  go_wp2_with fail
  exact ⟨rfl, rfl, (Below.refl _ _).alloc hal _⟩
end Go.Proofs.Ytfocnmkbnccilaa
