/-
  The walk of the asker's parts: eval.val, the comparison, push, pop. No condition.
-/
import Derived.Test.YtfocnmkbnccilaaEvTree2
import Derived.Deep.RegionHeld3
import Derived.Deep.RegionHeld2
import Derived.Deep.DrawnRows
set_option linter.unusedVariables false
set_option linter.unusedSimpArgs false
namespace Go.Proofs.Ytfocnmkbnccilaa
open Go.RowKit
attribute [local go_sem ↓] Go.wp_at_zero Go.wp_at_succ

/-- what is thrown where a formula is none -/
def lostP : List PanicEntry := [{ v := .iface 166 (.agg #[]), recovered := false }]
def stCells (vv : Value) (o d : Int) (dv cv : Value) : Array Value := #[vv, .int .i64 o, .int .i64 d, dv, cv]
abbrev stAgg (vv : Value) (o d : Int) (dv cv : Value) : Value := .agg #[vv, .int .i64 o, .int .i64 d, dv, cv]

set_option maxRecDepth 100000 in
set_option maxHeartbeats 1000000 in
theorem val_some (vals : List Int) (vv : Value) (S : Nat → Prop) (o d : Int) (dv cv : Value) (a n r : Int) (w : World) (h : (sliceR (intR .i64)).one w S vv vals) (hS : ∀ b, S b → b < w.heap.size) (hr : valO vals a n = some r) :
    Calls Try.prog 110 #[stAgg vv o d dv cv, .agg #[.int .i64 a, .int .i64 n]] w fun e w' => e = .returned (.int .i64 r) ∧ w' = (w.alloc (.cells #[vv, .int .i64 o, .int .i64 d, dv, cv] 38)).alloc (.cells #[.int .i64 a, .int .i64 n] 90) := by
  unfold valO at hr
  obtain ⟨A, c, rfl, hc, hc2⟩ := slice_form h
  by_cases h1 : a = -1
  · rw [if_pos h1] at hr
    cases hr
    subst h1
    go_enter Try.func110, Try.ntmps110
    go_wp2_with fail
    go_ret
    exact ⟨rfl, rfl⟩
  · rw [if_neg h1] at hr
    by_cases h2 : a < 0
    · rw [if_pos h2] at hr; cases hr
    · rw [if_neg h2] at hr
      obtain ⟨k, rfl⟩ : ∃ k : Nat, a = (k : Int) := ⟨a.toNat, by omega⟩
      rw [show (k : Int).toNat = k from rfl] at hr
      have hk := (List.getElem?_eq_some_iff.1 hr).1
      have hk2 := (List.getElem?_eq_some_iff.1 hr).2
      obtain ⟨b, ob, rfl, hb, hrow⟩ := slice_some h (by omega)
      obtain ⟨hcell, _, _⟩ := ints_at h hk
      rw [hk2] at hcell
      have hblt := hS b hb
      have Hh := hide h
      have Hr := hide hr
      have hm1 : (((k : Nat) : Int) == -1) = false := beq_eq_false_iff_ne.2 (by omega)
      have hlt : (k : Int) < (vals.length : Int) := by omega
      clear h hr hrow hk2 h1
      go_enter Try.func110, Try.ntmps110
      go_wp2_with fail
      go_ret
      exact ⟨rfl, rfl⟩
set_option maxRecDepth 100000 in
set_option maxHeartbeats 1000000 in
theorem val_none (vals : List Int) (vv : Value) (S : Nat → Prop) (o d : Int) (dv cv : Value) (a n : Int) (w : World) (h : (sliceR (intR .i64)).one w S vv vals) (hr : valO vals a n = none) :
    Calls Try.prog 110 #[stAgg vv o d dv cv, .agg #[.int .i64 a, .int .i64 n]] w fun e w' => e = .panicked lostP ∧ w' = (w.alloc (.cells #[vv, .int .i64 o, .int .i64 d, dv, cv] 38)).alloc (.cells #[.int .i64 a, .int .i64 n] 90) := by
  unfold valO at hr
  obtain ⟨A, c, rfl, hc, hc2⟩ := slice_form h
  have Hh := hide h
  clear h
  by_cases h1 : a = -1
  · rw [if_pos h1] at hr; cases hr
  · rw [if_neg h1] at hr
    have hm1 : (a == -1) = false := beq_eq_false_iff_ne.2 h1
    by_cases h2 : a < 0
    · have hd : decide (a < 0) = true := by simpa using h2
      clear hr h1
      go_enter Try.func110, Try.ntmps110
      go_wp2_with fail
      exact ⟨rfl, rfl, rfl⟩
    · rw [if_neg h2] at hr
      have hd : decide (a < 0) = false := by simpa using h2
      have hge : (vals.length : Int) ≤ a := by
        have := List.getElem?_eq_none_iff.1 hr; omega
      clear hr h1
      go_enter Try.func110, Try.ntmps110
      go_wp2_with fail
      exact ⟨rfl, rfl, rfl⟩

def lostPost (w : World) (p : List PanicEntry) (w' : World) : Prop := p = lostP ∧ Below w.heap.size w w'
def LostPost (w : World) (e : Ending) (w' : World) : Prop := ∃ p, e = .panicked p ∧ lostPost w p w'
theorem below_val {B k : Nat} {w w1 : World} (h : Below B w w1) (hk : B + k ≤ w1.heap.size) (x y : Obj) : Below B w ((w1.alloc x).alloc y) := (h.alloc (by omega) x).alloc (by simp; omega) y
set_option maxRecDepth 100000 in
set_option maxHeartbeats 2000000 in
theorem less_some (vals : List Int) (vv : Value) (S : Nat → Prop) (o d : Int) (dv cv : Value) (la ln ra rn x y : Int) (sb : Nat) (w : World) (h : (sliceR (intR .i64)).one w S vv vals) (hS : ∀ b, S b → b < w.heap.size) (hb : Blk w sb 38 (stCells vv o d dv cv)) (hx : valO vals la ln = some x) (hy : valO vals ra rn = some y) :
    Calls Try.prog 108 #[.agg #[.int .i64 la, .int .i64 ln], .agg #[.int .i64 ra, .int .i64 rn], .pointer (some ⟨sb, 0, none⟩)] w fun e w' => e = .returned (.int .i64 (cmpI x y)) ∧ Below w.heap.size w w' := by
  have hsb := hb.lt
  have c0 := hb.cell 0
  have c1 := hb.cell 1
  have c2 := hb.cell 2
  have c3 := hb.cell 3
  have c4 := hb.cell 4
  simp [stCells] at c0 c1 c2 c3 c4
  have V1 := hide (fun (w' : World) (hw : Below w.heap.size w w') => val_some vals vv S o d dv cv la ln x w' (slice_below h hw hS) (fun b hb => Nat.lt_of_lt_of_le (hS b hb) hw.size) hx)
  have V2 := hide (fun (w' : World) (hw : Below w.heap.size w w') => val_some vals vv S o d dv cv ra rn y w' (slice_below h hw hS) (fun b hb => Nat.lt_of_lt_of_le (hS b hb) hw.size) hy)
  clear h hS hb hx hy
  go_enter Try.func108, Try.ntmps108
  go_wp2_with fail
  have hbW : Below w.heap.size w ((w.alloc (.cells #[.int .i64 la, .int .i64 ln] 90)).alloc (.cells #[.int .i64 ra, .int .i64 rn] 90)) := ((Below.refl _ _).alloc (Nat.le_refl _) _).alloc (by simp) _
  have hz : ((w.alloc (.cells #[.int .i64 la, .int .i64 ln] 90)).alloc (.cells #[.int .i64 ra, .int .i64 rn] 90)).heap.size = w.heap.size + 2 := by simp
  have x0 : ((w.alloc (.cells #[.int .i64 la, .int .i64 ln] 90)).alloc (.cells #[.int .i64 ra, .int .i64 rn] 90)).cell? ⟨w.heap.size, 0, none⟩ = some (.int .i64 la) := by simp
  have x1 : ((w.alloc (.cells #[.int .i64 la, .int .i64 ln] 90)).alloc (.cells #[.int .i64 ra, .int .i64 rn] 90)).cell? ⟨w.heap.size, 1, none⟩ = some (.int .i64 ln) := by simp
  have y0 : ((w.alloc (.cells #[.int .i64 la, .int .i64 ln] 90)).alloc (.cells #[.int .i64 ra, .int .i64 rn] 90)).cell? ⟨w.heap.size + 1, 0, none⟩ = some (.int .i64 ra) := by simp
  have y1 : ((w.alloc (.cells #[.int .i64 la, .int .i64 ln] 90)).alloc (.cells #[.int .i64 ra, .int .i64 rn] 90)).cell? ⟨w.heap.size + 1, 1, none⟩ = some (.int .i64 rn) := by simp
  generalize (w.alloc (.cells #[.int .i64 la, .int .i64 ln] 90)).alloc (.cells #[.int .i64 ra, .int .i64 rn] 90) = W at *
  have d0 := (hbW.cell (p := ⟨sb, 0, none⟩) hsb).trans c0
  have d1 := (hbW.cell (p := ⟨sb, 1, none⟩) hsb).trans c1
  have d2 := (hbW.cell (p := ⟨sb, 2, none⟩) hsb).trans c2
  have d3 := (hbW.cell (p := ⟨sb, 3, none⟩) hsb).trans c3
  have d4 := (hbW.cell (p := ⟨sb, 4, none⟩) hsb).trans c4
  clear c0 c1 c2 c3 c4
  have hsbW : sb < W.heap.size := by omega
  have KEEP := hide (fun (w' : World) (hb : Below W.heap.size W w') => (⟨(hb.cell (p := ⟨sb, 0, none⟩) hsbW).trans d0, (hb.cell (p := ⟨sb, 1, none⟩) hsbW).trans d1, (hb.cell (p := ⟨sb, 2, none⟩) hsbW).trans d2, (hb.cell (p := ⟨sb, 3, none⟩) hsbW).trans d3, (hb.cell (p := ⟨sb, 4, none⟩) hsbW).trans d4,
    (hb.cell (p := ⟨w.heap.size, 0, none⟩) (by show w.heap.size < _; omega)).trans x0, (hb.cell (p := ⟨w.heap.size, 1, none⟩) (by show w.heap.size < _; omega)).trans x1, (hb.cell (p := ⟨w.heap.size + 1, 0, none⟩) (by show w.heap.size + 1 < _; omega)).trans y0, (hb.cell (p := ⟨w.heap.size + 1, 1, none⟩) (by show w.heap.size + 1 < _; omega)).trans y1⟩ :
    w'.cell? ⟨sb, 0, none⟩ = some vv ∧ w'.cell? ⟨sb, 1, none⟩ = some (.int .i64 o) ∧ w'.cell? ⟨sb, 2, none⟩ = some (.int .i64 d) ∧ w'.cell? ⟨sb, 3, none⟩ = some dv ∧ w'.cell? ⟨sb, 4, none⟩ = some cv ∧ w'.cell? ⟨w.heap.size, 0, none⟩ = some (.int .i64 la) ∧ w'.cell? ⟨w.heap.size, 1, none⟩ = some (.int .i64 ln) ∧ w'.cell? ⟨w.heap.size + 1, 0, none⟩ = some (.int .i64 ra) ∧ w'.cell? ⟨w.heap.size + 1, 1, none⟩ = some (.int .i64 rn)))
  go_region_held3 (fun w' => w'.cell? ⟨sb, 0, none⟩ = some vv ∧ w'.cell? ⟨sb, 1, none⟩ = some (.int .i64 o) ∧ w'.cell? ⟨sb, 2, none⟩ = some (.int .i64 d) ∧ w'.cell? ⟨sb, 3, none⟩ = some dv ∧ w'.cell? ⟨sb, 4, none⟩ = some cv ∧ w'.cell? ⟨w.heap.size, 0, none⟩ = some (.int .i64 la) ∧ w'.cell? ⟨w.heap.size, 1, none⟩ = some (.int .i64 ln) ∧ w'.cell? ⟨w.heap.size + 1, 0, none⟩ = some (.int .i64 ra) ∧ w'.cell? ⟨w.heap.size + 1, 1, none⟩ = some (.int .i64 rn))
    ((refine KEEP.out _ ?_; repeat (first | exact Below.refl _ _ | refine Below.drew ?_ | refine Below.alloc ?_ (by first | omega | (simp; done) | (simp; omega)) _)))
    (first | (go_at_call 110; (with_reducible refine (V1.out _ ?_).mono ?_); (repeat (first | exact hbW | refine Below.drew ?_ | refine Below.alloc ?_ (by first | omega | (simp; done) | (simp; omega)) _)); rintro e w' ⟨rfl, rfl⟩) | (go_at_call 110; (with_reducible refine (V2.out _ ?_).mono ?_); (repeat (first | exact hbW | refine Below.drew ?_ | refine Below.alloc ?_ (by first | omega | (simp; done) | (simp; omega)) _)); rintro e w' ⟨rfl, rfl⟩) | (go_at_call 109; refine (cmp_any _ _ _).mono ?_; rintro e w' ⟨rfl, rfl⟩))
  all_goals
    go_wp2_with fail
    go_ret
    refine ⟨rfl, ?_⟩
    repeat (first | exact hbW | refine Below.drew ?_ | refine Below.alloc ?_ (by first | omega | (simp; done) | (simp; omega)) _)
set_option maxRecDepth 100000 in
set_option maxHeartbeats 2000000 in
theorem less_none1 (vals : List Int) (vv : Value) (S : Nat → Prop) (o d : Int) (dv cv : Value) (la ln ra rn : Int) (sb : Nat) (w : World) (h : (sliceR (intR .i64)).one w S vv vals) (hS : ∀ b, S b → b < w.heap.size) (hb : Blk w sb 38 (stCells vv o d dv cv)) (hx : valO vals la ln = none)  :
    Calls Try.prog 108 #[.agg #[.int .i64 la, .int .i64 ln], .agg #[.int .i64 ra, .int .i64 rn], .pointer (some ⟨sb, 0, none⟩)] w (LostPost w) := by
  have hsb := hb.lt
  have c0 := hb.cell 0
  have c1 := hb.cell 1
  have c2 := hb.cell 2
  have c3 := hb.cell 3
  have c4 := hb.cell 4
  simp [stCells] at c0 c1 c2 c3 c4
  have V1 := hide (fun (w' : World) (hw : Below w.heap.size w w') => val_none vals vv S o d dv cv la ln w' (slice_below h hw hS) hx)
  clear h hS hb hx
  go_enter Try.func108, Try.ntmps108
  go_wp2_with fail
  have hbW : Below w.heap.size w ((w.alloc (.cells #[.int .i64 la, .int .i64 ln] 90)).alloc (.cells #[.int .i64 ra, .int .i64 rn] 90)) := ((Below.refl _ _).alloc (Nat.le_refl _) _).alloc (by simp) _
  have hz : ((w.alloc (.cells #[.int .i64 la, .int .i64 ln] 90)).alloc (.cells #[.int .i64 ra, .int .i64 rn] 90)).heap.size = w.heap.size + 2 := by simp
  have x0 : ((w.alloc (.cells #[.int .i64 la, .int .i64 ln] 90)).alloc (.cells #[.int .i64 ra, .int .i64 rn] 90)).cell? ⟨w.heap.size, 0, none⟩ = some (.int .i64 la) := by simp
  have x1 : ((w.alloc (.cells #[.int .i64 la, .int .i64 ln] 90)).alloc (.cells #[.int .i64 ra, .int .i64 rn] 90)).cell? ⟨w.heap.size, 1, none⟩ = some (.int .i64 ln) := by simp
  have y0 : ((w.alloc (.cells #[.int .i64 la, .int .i64 ln] 90)).alloc (.cells #[.int .i64 ra, .int .i64 rn] 90)).cell? ⟨w.heap.size + 1, 0, none⟩ = some (.int .i64 ra) := by simp
  have y1 : ((w.alloc (.cells #[.int .i64 la, .int .i64 ln] 90)).alloc (.cells #[.int .i64 ra, .int .i64 rn] 90)).cell? ⟨w.heap.size + 1, 1, none⟩ = some (.int .i64 rn) := by simp
  generalize (w.alloc (.cells #[.int .i64 la, .int .i64 ln] 90)).alloc (.cells #[.int .i64 ra, .int .i64 rn] 90) = W at *
  have d0 := (hbW.cell (p := ⟨sb, 0, none⟩) hsb).trans c0
  have d1 := (hbW.cell (p := ⟨sb, 1, none⟩) hsb).trans c1
  have d2 := (hbW.cell (p := ⟨sb, 2, none⟩) hsb).trans c2
  have d3 := (hbW.cell (p := ⟨sb, 3, none⟩) hsb).trans c3
  have d4 := (hbW.cell (p := ⟨sb, 4, none⟩) hsb).trans c4
  clear c0 c1 c2 c3 c4
  have hsbW : sb < W.heap.size := by omega
  have KEEP := hide (fun (w' : World) (hb : Below W.heap.size W w') => (⟨(hb.cell (p := ⟨sb, 0, none⟩) hsbW).trans d0, (hb.cell (p := ⟨sb, 1, none⟩) hsbW).trans d1, (hb.cell (p := ⟨sb, 2, none⟩) hsbW).trans d2, (hb.cell (p := ⟨sb, 3, none⟩) hsbW).trans d3, (hb.cell (p := ⟨sb, 4, none⟩) hsbW).trans d4,
    (hb.cell (p := ⟨w.heap.size, 0, none⟩) (by show w.heap.size < _; omega)).trans x0, (hb.cell (p := ⟨w.heap.size, 1, none⟩) (by show w.heap.size < _; omega)).trans x1, (hb.cell (p := ⟨w.heap.size + 1, 0, none⟩) (by show w.heap.size + 1 < _; omega)).trans y0, (hb.cell (p := ⟨w.heap.size + 1, 1, none⟩) (by show w.heap.size + 1 < _; omega)).trans y1⟩ :
    w'.cell? ⟨sb, 0, none⟩ = some vv ∧ w'.cell? ⟨sb, 1, none⟩ = some (.int .i64 o) ∧ w'.cell? ⟨sb, 2, none⟩ = some (.int .i64 d) ∧ w'.cell? ⟨sb, 3, none⟩ = some dv ∧ w'.cell? ⟨sb, 4, none⟩ = some cv ∧ w'.cell? ⟨w.heap.size, 0, none⟩ = some (.int .i64 la) ∧ w'.cell? ⟨w.heap.size, 1, none⟩ = some (.int .i64 ln) ∧ w'.cell? ⟨w.heap.size + 1, 0, none⟩ = some (.int .i64 ra) ∧ w'.cell? ⟨w.heap.size + 1, 1, none⟩ = some (.int .i64 rn)))
  have hS0 := KEEP.out W.drew ((Below.refl _ _).drew)
  refine wp_region_held (S := fun w' => w'.cell? ⟨sb, 0, none⟩ = some vv ∧ w'.cell? ⟨sb, 1, none⟩ = some (.int .i64 o) ∧ w'.cell? ⟨sb, 2, none⟩ = some (.int .i64 d) ∧ w'.cell? ⟨sb, 3, none⟩ = some dv ∧ w'.cell? ⟨sb, 4, none⟩ = some cv ∧ w'.cell? ⟨w.heap.size, 0, none⟩ = some (.int .i64 la) ∧ w'.cell? ⟨w.heap.size, 1, none⟩ = some (.int .i64 ln) ∧ w'.cell? ⟨w.heap.size + 1, 0, none⟩ = some (.int .i64 ra) ∧ w'.cell? ⟨w.heap.size + 1, 1, none⟩ = some (.int .i64 rn)) (by kernel_rfl) ?_
  refine wpAnyH_take (i := 0) (v := stAgg vv o d dv cv) rfl (by kernel_rfl) (by kernel_rfl) (by kernel_rfl) (fun _ _ _ h => h) (Or.inl ⟨by rfl, ?_⟩) hS0 ?_
  · intro w hSw; obtain ⟨q0, q1, q2, q3, q4, q5, q6, q7, q8⟩ := hSw; go_simp
  refine wpAnyH_take (i := 1) (v := .agg #[.int .i64 la, .int .i64 ln]) rfl (by kernel_rfl) (by kernel_rfl) (by kernel_rfl) (fun _ _ _ h => h) (Or.inl ⟨by rfl, ?_⟩) hS0 ?_
  · intro w hSw; obtain ⟨q0, q1, q2, q3, q4, q5, q6, q7, q8⟩ := hSw; go_simp
  refine wpAnyH_take (i := 3) (v := stAgg vv o d dv cv) rfl (by kernel_rfl) (by kernel_rfl) (by kernel_rfl) (fun _ _ _ h => h) (Or.inl ⟨by rfl, ?_⟩) hS0 ?_
  · intro w hSw; obtain ⟨q0, q1, q2, q3, q4, q5, q6, q7, q8⟩ := hSw; go_simp
  refine wpAnyH_take (i := 4) (v := .agg #[.int .i64 ra, .int .i64 rn]) rfl (by kernel_rfl) (by kernel_rfl) (by kernel_rfl) (fun _ _ _ h => h) (Or.inl ⟨by rfl, ?_⟩) hS0 ?_
  · intro w hSw; obtain ⟨q0, q1, q2, q3, q4, q5, q6, q7, q8⟩ := hSw; go_simp
  refine wpAnyH_ready (rs := [2]) (by kernel_rfl) (by simp) ?_
  refine AllReadyH.cons (o := _) rfl (fun K hK => ?_) AllReadyH.nil
  go_simp
  refine (V1.out _ ?_).mono ?_
  · repeat (first | exact hbW | refine Below.drew ?_ | refine Below.alloc ?_ (by first | omega | (simp; done) | (simp; omega)) _)
  rintro e w' ⟨rfl, rfl⟩
  refine ⟨rfl, lostP, rfl, rfl, ?_⟩
  repeat (first | exact hbW | refine Below.drew ?_ | refine Below.alloc ?_ (by first | omega | (simp; done) | (simp; omega)) _)

set_option maxRecDepth 100000 in
set_option maxHeartbeats 2000000 in
theorem less_none2 (vals : List Int) (vv : Value) (S : Nat → Prop) (o d : Int) (dv cv : Value) (la ln ra rn x : Int) (sb : Nat) (w : World) (h : (sliceR (intR .i64)).one w S vv vals) (hS : ∀ b, S b → b < w.heap.size) (hb : Blk w sb 38 (stCells vv o d dv cv)) (hx : valO vals la ln = some x) (hy : valO vals ra rn = none) :
    Calls Try.prog 108 #[.agg #[.int .i64 la, .int .i64 ln], .agg #[.int .i64 ra, .int .i64 rn], .pointer (some ⟨sb, 0, none⟩)] w (LostPost w) := by
  have hsb := hb.lt
  have c0 := hb.cell 0
  have c1 := hb.cell 1
  have c2 := hb.cell 2
  have c3 := hb.cell 3
  have c4 := hb.cell 4
  simp [stCells] at c0 c1 c2 c3 c4
  have V1 := hide (fun (w' : World) (hw : Below w.heap.size w w') => val_some vals vv S o d dv cv la ln x w' (slice_below h hw hS) (fun b hb => Nat.lt_of_lt_of_le (hS b hb) hw.size) hx)
  have V2 := hide (fun (w' : World) (hw : Below w.heap.size w w') => val_none vals vv S o d dv cv ra rn w' (slice_below h hw hS) hy)
  clear h hS hb hx hy
  go_enter Try.func108, Try.ntmps108
  go_wp2_with fail
  have hbW : Below w.heap.size w ((w.alloc (.cells #[.int .i64 la, .int .i64 ln] 90)).alloc (.cells #[.int .i64 ra, .int .i64 rn] 90)) := ((Below.refl _ _).alloc (Nat.le_refl _) _).alloc (by simp) _
  have hz : ((w.alloc (.cells #[.int .i64 la, .int .i64 ln] 90)).alloc (.cells #[.int .i64 ra, .int .i64 rn] 90)).heap.size = w.heap.size + 2 := by simp
  have x0 : ((w.alloc (.cells #[.int .i64 la, .int .i64 ln] 90)).alloc (.cells #[.int .i64 ra, .int .i64 rn] 90)).cell? ⟨w.heap.size, 0, none⟩ = some (.int .i64 la) := by simp
  have x1 : ((w.alloc (.cells #[.int .i64 la, .int .i64 ln] 90)).alloc (.cells #[.int .i64 ra, .int .i64 rn] 90)).cell? ⟨w.heap.size, 1, none⟩ = some (.int .i64 ln) := by simp
  have y0 : ((w.alloc (.cells #[.int .i64 la, .int .i64 ln] 90)).alloc (.cells #[.int .i64 ra, .int .i64 rn] 90)).cell? ⟨w.heap.size + 1, 0, none⟩ = some (.int .i64 ra) := by simp
  have y1 : ((w.alloc (.cells #[.int .i64 la, .int .i64 ln] 90)).alloc (.cells #[.int .i64 ra, .int .i64 rn] 90)).cell? ⟨w.heap.size + 1, 1, none⟩ = some (.int .i64 rn) := by simp
  generalize (w.alloc (.cells #[.int .i64 la, .int .i64 ln] 90)).alloc (.cells #[.int .i64 ra, .int .i64 rn] 90) = W at *
  have d0 := (hbW.cell (p := ⟨sb, 0, none⟩) hsb).trans c0
  have d1 := (hbW.cell (p := ⟨sb, 1, none⟩) hsb).trans c1
  have d2 := (hbW.cell (p := ⟨sb, 2, none⟩) hsb).trans c2
  have d3 := (hbW.cell (p := ⟨sb, 3, none⟩) hsb).trans c3
  have d4 := (hbW.cell (p := ⟨sb, 4, none⟩) hsb).trans c4
  clear c0 c1 c2 c3 c4
  have hsbW : sb < W.heap.size := by omega
  have KEEP := hide (fun (w' : World) (hb : Below W.heap.size W w') => (⟨(hb.cell (p := ⟨sb, 0, none⟩) hsbW).trans d0, (hb.cell (p := ⟨sb, 1, none⟩) hsbW).trans d1, (hb.cell (p := ⟨sb, 2, none⟩) hsbW).trans d2, (hb.cell (p := ⟨sb, 3, none⟩) hsbW).trans d3, (hb.cell (p := ⟨sb, 4, none⟩) hsbW).trans d4,
    (hb.cell (p := ⟨w.heap.size, 0, none⟩) (by show w.heap.size < _; omega)).trans x0, (hb.cell (p := ⟨w.heap.size, 1, none⟩) (by show w.heap.size < _; omega)).trans x1, (hb.cell (p := ⟨w.heap.size + 1, 0, none⟩) (by show w.heap.size + 1 < _; omega)).trans y0, (hb.cell (p := ⟨w.heap.size + 1, 1, none⟩) (by show w.heap.size + 1 < _; omega)).trans y1⟩ :
    w'.cell? ⟨sb, 0, none⟩ = some vv ∧ w'.cell? ⟨sb, 1, none⟩ = some (.int .i64 o) ∧ w'.cell? ⟨sb, 2, none⟩ = some (.int .i64 d) ∧ w'.cell? ⟨sb, 3, none⟩ = some dv ∧ w'.cell? ⟨sb, 4, none⟩ = some cv ∧ w'.cell? ⟨w.heap.size, 0, none⟩ = some (.int .i64 la) ∧ w'.cell? ⟨w.heap.size, 1, none⟩ = some (.int .i64 ln) ∧ w'.cell? ⟨w.heap.size + 1, 0, none⟩ = some (.int .i64 ra) ∧ w'.cell? ⟨w.heap.size + 1, 1, none⟩ = some (.int .i64 rn)))
  have hS0 := KEEP.out W.drew ((Below.refl _ _).drew)
  refine wp_region_held (S := fun w' => w'.cell? ⟨sb, 0, none⟩ = some vv ∧ w'.cell? ⟨sb, 1, none⟩ = some (.int .i64 o) ∧ w'.cell? ⟨sb, 2, none⟩ = some (.int .i64 d) ∧ w'.cell? ⟨sb, 3, none⟩ = some dv ∧ w'.cell? ⟨sb, 4, none⟩ = some cv ∧ w'.cell? ⟨w.heap.size, 0, none⟩ = some (.int .i64 la) ∧ w'.cell? ⟨w.heap.size, 1, none⟩ = some (.int .i64 ln) ∧ w'.cell? ⟨w.heap.size + 1, 0, none⟩ = some (.int .i64 ra) ∧ w'.cell? ⟨w.heap.size + 1, 1, none⟩ = some (.int .i64 rn)) (by kernel_rfl) ?_
  refine wpAnyH_take (i := 0) (v := stAgg vv o d dv cv) rfl (by kernel_rfl) (by kernel_rfl) (by kernel_rfl) (fun _ _ _ h => h) (Or.inl ⟨by rfl, ?_⟩) hS0 ?_
  · intro w hSw; obtain ⟨q0, q1, q2, q3, q4, q5, q6, q7, q8⟩ := hSw; go_simp
  refine wpAnyH_take (i := 1) (v := .agg #[.int .i64 la, .int .i64 ln]) rfl (by kernel_rfl) (by kernel_rfl) (by kernel_rfl) (fun _ _ _ h => h) (Or.inl ⟨by rfl, ?_⟩) hS0 ?_
  · intro w hSw; obtain ⟨q0, q1, q2, q3, q4, q5, q6, q7, q8⟩ := hSw; go_simp
  refine wpAnyH_take (i := 3) (v := stAgg vv o d dv cv) rfl (by kernel_rfl) (by kernel_rfl) (by kernel_rfl) (fun _ _ _ h => h) (Or.inl ⟨by rfl, ?_⟩) hS0 ?_
  · intro w hSw; obtain ⟨q0, q1, q2, q3, q4, q5, q6, q7, q8⟩ := hSw; go_simp
  refine wpAnyH_take (i := 4) (v := .agg #[.int .i64 ra, .int .i64 rn]) rfl (by kernel_rfl) (by kernel_rfl) (by kernel_rfl) (fun _ _ _ h => h) (Or.inl ⟨by rfl, ?_⟩) hS0 ?_
  · intro w hSw; obtain ⟨q0, q1, q2, q3, q4, q5, q6, q7, q8⟩ := hSw; go_simp
  refine wpAnyH_ready (rs := [2]) (by kernel_rfl) (by simp) ?_
  refine AllReadyH.cons (o := _) rfl (fun K hK => ?_) AllReadyH.nil
  go_simp
  refine (V1.out _ ?_).mono ?_
  · repeat (first | exact hbW | refine Below.drew ?_ | refine Below.alloc ?_ (by first | omega | (simp; done) | (simp; omega)) _)
  rintro e w' ⟨rfl, rfl⟩
  refine hK.out _ _ (KEEP.out _ ?_) (fun hH => ?_)
  · repeat (first | exact Below.refl _ _ | refine Below.drew ?_ | refine Below.alloc ?_ (by first | omega | (simp; done) | (simp; omega)) _)
  clear hK K
  refine wpAnyH_ready (rs := [5]) (by kernel_rfl) (by simp) ?_
  refine AllReadyH.cons (o := _) rfl (fun K hK => ?_) AllReadyH.nil
  go_simp
  refine (V2.out _ ?_).mono ?_
  · repeat (first | exact hbW | refine Below.drew ?_ | refine Below.alloc ?_ (by first | omega | (simp; done) | (simp; omega)) _)
  rintro e w' ⟨rfl, rfl⟩
  refine ⟨rfl, lostP, rfl, rfl, ?_⟩
  repeat (first | exact hbW | refine Below.drew ?_ | refine Below.alloc ?_ (by first | omega | (simp; done) | (simp; omega)) _)
end Go.Proofs.Ytfocnmkbnccilaa
