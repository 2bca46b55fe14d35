/-
  Parts of the proof: EvAsk, EvAsk2, EvStep, EvStep2, EvSides, EvDoor.
-/
import Derived.Test.YtcindbpnaicemaaSkp6
import Derived.Deep.RegionHeld3
import Derived.Deep.RegionHeld2
import Derived.Deep.DrawnRows
import Derived.Defers
import Derived.Recover
set_option linter.unusedVariables false
set_option linter.unusedSimpArgs false
namespace Go.Proofs.Ytcindbpnaicemaa
section
open Go.RowKit
/-- what is thrown where a formula is none -/
def lostP : List PanicEntry := [{ v := .iface 142 (.agg #[]), recovered := false }]
def stCells (vv : Value) (o d : Int) (dv cv : Value) : Array Value := #[vv, .int .i64 o, .int .i64 d, dv, cv]
abbrev stAgg (vv : Value) (o d : Int) (dv cv : Value) : Value := .agg #[vv, .int .i64 o, .int .i64 d, dv, cv]

set_option maxRecDepth 100000 in
set_option maxHeartbeats 1000000 in
theorem val_some (vals : List Int) (vv : Value) (S : Nat → Prop) (o d : Int) (dv cv : Value) (a n r : Int) (w : World) (h : (sliceR (intR .i64)).one w S vv vals) (hS : ∀ b, S b → b < w.heap.size) (hr : valO vals a n = some r) :
    Calls Try.prog 77 #[stAgg vv o d dv cv, .agg #[.int .i64 a, .int .i64 n]] w fun e w' => e = .returned (.int .i64 r) ∧ w' = (w.alloc (.cells #[vv, .int .i64 o, .int .i64 d, dv, cv] 35)).alloc (.cells #[.int .i64 a, .int .i64 n] 97) := by
  unfold valO at hr
  obtain ⟨A, c, rfl, hc, hc2⟩ := slice_form h
  by_cases h1 : a = -1
  · rw [if_pos h1] at hr
    cases hr
    subst h1
    go_enter Try.func77, Try.ntmps77
    go_wp2_with fail
    go_ret
    exact ⟨rfl, rfl⟩
  · rw [if_neg h1] at hr
    by_cases h2 : a < 0
    · rw [if_pos h2] at hr; cases hr
    · rw [if_neg h2] at hr
      obtain ⟨k, rfl⟩ : ∃ k : Nat, a = (k : Int) := ⟨a.toNat, by omega⟩
      rw [show (k : Int).toNat = k from rfl] at hr
      have hk := (List.getElem?_eq_some_iff.1 hr).1
      have hk2 := (List.getElem?_eq_some_iff.1 hr).2
      obtain ⟨b, ob, rfl, hb, hrow⟩ := slice_some h (by omega)
      obtain ⟨hcell, _, _⟩ := ints_at h hk
      rw [hk2] at hcell
      have hblt := hS b hb
      have Hh := hide h
      have Hr := hide hr
      have hm1 : (((k : Nat) : Int) == -1) = false := beq_eq_false_iff_ne.2 (by omega)
      have hlt : (k : Int) < (vals.length : Int) := by omega
      clear h hr hrow hk2 h1
      go_enter Try.func77, Try.ntmps77
      go_wp2_with fail
      go_ret
      exact ⟨rfl, rfl⟩
set_option maxRecDepth 100000 in
set_option maxHeartbeats 1000000 in
theorem val_none (vals : List Int) (vv : Value) (S : Nat → Prop) (o d : Int) (dv cv : Value) (a n : Int) (w : World) (h : (sliceR (intR .i64)).one w S vv vals) (hr : valO vals a n = none) :
    Calls Try.prog 77 #[stAgg vv o d dv cv, .agg #[.int .i64 a, .int .i64 n]] w fun e w' => e = .panicked lostP ∧ w' = (w.alloc (.cells #[vv, .int .i64 o, .int .i64 d, dv, cv] 35)).alloc (.cells #[.int .i64 a, .int .i64 n] 97) := by
  unfold valO at hr
  obtain ⟨A, c, rfl, hc, hc2⟩ := slice_form h
  have Hh := hide h
  clear h
  by_cases h1 : a = -1
  · rw [if_pos h1] at hr; cases hr
  · rw [if_neg h1] at hr
    have hm1 : (a == -1) = false := beq_eq_false_iff_ne.2 h1
    by_cases h2 : a < 0
    · have hd : decide (a < 0) = true := by simpa using h2
      clear hr h1
      go_enter Try.func77, Try.ntmps77
      go_wp2_with fail
      exact ⟨rfl, rfl, rfl⟩
    · rw [if_neg h2] at hr
      have hd : decide (a < 0) = false := by simpa using h2
      have hge : (vals.length : Int) ≤ a := by
        have := List.getElem?_eq_none_iff.1 hr; omega
      clear hr h1
      go_enter Try.func77, Try.ntmps77
      go_wp2_with fail
      exact ⟨rfl, rfl, rfl⟩

def lostPost (w : World) (p : List PanicEntry) (w' : World) : Prop := p = lostP ∧ Below w.heap.size w w'
def LostPost (w : World) (e : Ending) (w' : World) : Prop := ∃ p, e = .panicked p ∧ lostPost w p w'
set_option maxRecDepth 100000 in
set_option maxHeartbeats 2000000 in
theorem less_some (vals : List Int) (vv : Value) (S : Nat → Prop) (o d : Int) (dv cv : Value) (la ln ra rn x y : Int) (sb : Nat) (w : World) (h : (sliceR (intR .i64)).one w S vv vals) (hS : ∀ b, S b → b < w.heap.size) (hb : Blk w sb 35 (stCells vv o d dv cv)) (hx : valO vals la ln = some x) (hy : valO vals ra rn = some y) :
    Calls Try.prog 75 #[.agg #[.int .i64 la, .int .i64 ln], .agg #[.int .i64 ra, .int .i64 rn], .pointer (some ⟨sb, 0, none⟩)] w fun e w' => e = .returned (.int .i64 (cmpI x y)) ∧ Below w.heap.size w w' := by
  have hsb := hb.lt
  have c0 := hb.cell 0
  have c1 := hb.cell 1
  have c2 := hb.cell 2
  have c3 := hb.cell 3
  have c4 := hb.cell 4
  simp [stCells] at c0 c1 c2 c3 c4
  have V1 := hide (fun (w' : World) (hw : Below w.heap.size w w') => val_some vals vv S o d dv cv la ln x w' (slice_below h hw hS) (fun b hb => Nat.lt_of_lt_of_le (hS b hb) hw.size) hx)
  have V2 := hide (fun (w' : World) (hw : Below w.heap.size w w') => val_some vals vv S o d dv cv ra rn y w' (slice_below h hw hS) (fun b hb => Nat.lt_of_lt_of_le (hS b hb) hw.size) hy)
  clear h hS hb hx hy
  go_enter Try.func75, Try.ntmps75
  go_wp2_with fail
  have hbW : Below w.heap.size w ((w.alloc (.cells #[.int .i64 la, .int .i64 ln] 97)).alloc (.cells #[.int .i64 ra, .int .i64 rn] 97)) := ((Below.refl _ _).alloc (Nat.le_refl _) _).alloc (by simp) _
  have hz : ((w.alloc (.cells #[.int .i64 la, .int .i64 ln] 97)).alloc (.cells #[.int .i64 ra, .int .i64 rn] 97)).heap.size = w.heap.size + 2 := by simp
  have x0 : ((w.alloc (.cells #[.int .i64 la, .int .i64 ln] 97)).alloc (.cells #[.int .i64 ra, .int .i64 rn] 97)).cell? ⟨w.heap.size, 0, none⟩ = some (.int .i64 la) := by simp
  have x1 : ((w.alloc (.cells #[.int .i64 la, .int .i64 ln] 97)).alloc (.cells #[.int .i64 ra, .int .i64 rn] 97)).cell? ⟨w.heap.size, 1, none⟩ = some (.int .i64 ln) := by simp
  have y0 : ((w.alloc (.cells #[.int .i64 la, .int .i64 ln] 97)).alloc (.cells #[.int .i64 ra, .int .i64 rn] 97)).cell? ⟨w.heap.size + 1, 0, none⟩ = some (.int .i64 ra) := by simp
  have y1 : ((w.alloc (.cells #[.int .i64 la, .int .i64 ln] 97)).alloc (.cells #[.int .i64 ra, .int .i64 rn] 97)).cell? ⟨w.heap.size + 1, 1, none⟩ = some (.int .i64 rn) := by simp
  generalize (w.alloc (.cells #[.int .i64 la, .int .i64 ln] 97)).alloc (.cells #[.int .i64 ra, .int .i64 rn] 97) = W at *
  have d0 := (hbW.cell (p := ⟨sb, 0, none⟩) hsb).trans c0
  have d1 := (hbW.cell (p := ⟨sb, 1, none⟩) hsb).trans c1
  have d2 := (hbW.cell (p := ⟨sb, 2, none⟩) hsb).trans c2
  have d3 := (hbW.cell (p := ⟨sb, 3, none⟩) hsb).trans c3
  have d4 := (hbW.cell (p := ⟨sb, 4, none⟩) hsb).trans c4
  clear c0 c1 c2 c3 c4
  have hsbW : sb < W.heap.size := by omega
  have KEEP := hide (fun (w' : World) (hb : Below W.heap.size W w') => (⟨(hb.cell (p := ⟨sb, 0, none⟩) hsbW).trans d0, (hb.cell (p := ⟨sb, 1, none⟩) hsbW).trans d1, (hb.cell (p := ⟨sb, 2, none⟩) hsbW).trans d2, (hb.cell (p := ⟨sb, 3, none⟩) hsbW).trans d3, (hb.cell (p := ⟨sb, 4, none⟩) hsbW).trans d4,
    (hb.cell (p := ⟨w.heap.size, 0, none⟩) (by show w.heap.size < _; omega)).trans x0, (hb.cell (p := ⟨w.heap.size, 1, none⟩) (by show w.heap.size < _; omega)).trans x1, (hb.cell (p := ⟨w.heap.size + 1, 0, none⟩) (by show w.heap.size + 1 < _; omega)).trans y0, (hb.cell (p := ⟨w.heap.size + 1, 1, none⟩) (by show w.heap.size + 1 < _; omega)).trans y1⟩ :
    w'.cell? ⟨sb, 0, none⟩ = some vv ∧ w'.cell? ⟨sb, 1, none⟩ = some (.int .i64 o) ∧ w'.cell? ⟨sb, 2, none⟩ = some (.int .i64 d) ∧ w'.cell? ⟨sb, 3, none⟩ = some dv ∧ w'.cell? ⟨sb, 4, none⟩ = some cv ∧ w'.cell? ⟨w.heap.size, 0, none⟩ = some (.int .i64 la) ∧ w'.cell? ⟨w.heap.size, 1, none⟩ = some (.int .i64 ln) ∧ w'.cell? ⟨w.heap.size + 1, 0, none⟩ = some (.int .i64 ra) ∧ w'.cell? ⟨w.heap.size + 1, 1, none⟩ = some (.int .i64 rn)))
  go_region_held3 (fun w' => w'.cell? ⟨sb, 0, none⟩ = some vv ∧ w'.cell? ⟨sb, 1, none⟩ = some (.int .i64 o) ∧ w'.cell? ⟨sb, 2, none⟩ = some (.int .i64 d) ∧ w'.cell? ⟨sb, 3, none⟩ = some dv ∧ w'.cell? ⟨sb, 4, none⟩ = some cv ∧ w'.cell? ⟨w.heap.size, 0, none⟩ = some (.int .i64 la) ∧ w'.cell? ⟨w.heap.size, 1, none⟩ = some (.int .i64 ln) ∧ w'.cell? ⟨w.heap.size + 1, 0, none⟩ = some (.int .i64 ra) ∧ w'.cell? ⟨w.heap.size + 1, 1, none⟩ = some (.int .i64 rn))
    ((refine KEEP.out _ ?_; repeat (first | exact Below.refl _ _ | refine Below.drew ?_ | refine Below.alloc ?_ (by first | omega | (simp; done) | (simp; omega)) _)))
    (first | (go_at_call 77; (with_reducible refine (V1.out _ ?_).mono ?_); (repeat (first | exact hbW | refine Below.drew ?_ | refine Below.alloc ?_ (by first | omega | (simp; done) | (simp; omega)) _)); rintro e w' ⟨rfl, rfl⟩) | (go_at_call 77; (with_reducible refine (V2.out _ ?_).mono ?_); (repeat (first | exact hbW | refine Below.drew ?_ | refine Below.alloc ?_ (by first | omega | (simp; done) | (simp; omega)) _)); rintro e w' ⟨rfl, rfl⟩) | (go_at_call 76; refine (cmp_any _ _ _).mono ?_; rintro e w' ⟨rfl, rfl⟩))
  all_goals
    go_wp2_with fail
    go_ret
    refine ⟨rfl, ?_⟩
    repeat (first | exact hbW | refine Below.drew ?_ | refine Below.alloc ?_ (by first | omega | (simp; done) | (simp; omega)) _)
set_option maxRecDepth 100000 in
set_option maxHeartbeats 2000000 in
theorem less_none1 (vals : List Int) (vv : Value) (S : Nat → Prop) (o d : Int) (dv cv : Value) (la ln ra rn : Int) (sb : Nat) (w : World) (h : (sliceR (intR .i64)).one w S vv vals) (hS : ∀ b, S b → b < w.heap.size) (hb : Blk w sb 35 (stCells vv o d dv cv)) (hx : valO vals la ln = none)  :
    Calls Try.prog 75 #[.agg #[.int .i64 la, .int .i64 ln], .agg #[.int .i64 ra, .int .i64 rn], .pointer (some ⟨sb, 0, none⟩)] w (LostPost w) := by
  have hsb := hb.lt
  have c0 := hb.cell 0
  have c1 := hb.cell 1
  have c2 := hb.cell 2
  have c3 := hb.cell 3
  have c4 := hb.cell 4
  simp [stCells] at c0 c1 c2 c3 c4
  have V1 := hide (fun (w' : World) (hw : Below w.heap.size w w') => val_none vals vv S o d dv cv la ln w' (slice_below h hw hS) hx)
  clear h hS hb hx
  go_enter Try.func75, Try.ntmps75
  go_wp2_with fail
  have hbW : Below w.heap.size w ((w.alloc (.cells #[.int .i64 la, .int .i64 ln] 97)).alloc (.cells #[.int .i64 ra, .int .i64 rn] 97)) := ((Below.refl _ _).alloc (Nat.le_refl _) _).alloc (by simp) _
  have hz : ((w.alloc (.cells #[.int .i64 la, .int .i64 ln] 97)).alloc (.cells #[.int .i64 ra, .int .i64 rn] 97)).heap.size = w.heap.size + 2 := by simp
  have x0 : ((w.alloc (.cells #[.int .i64 la, .int .i64 ln] 97)).alloc (.cells #[.int .i64 ra, .int .i64 rn] 97)).cell? ⟨w.heap.size, 0, none⟩ = some (.int .i64 la) := by simp
  have x1 : ((w.alloc (.cells #[.int .i64 la, .int .i64 ln] 97)).alloc (.cells #[.int .i64 ra, .int .i64 rn] 97)).cell? ⟨w.heap.size, 1, none⟩ = some (.int .i64 ln) := by simp
  have y0 : ((w.alloc (.cells #[.int .i64 la, .int .i64 ln] 97)).alloc (.cells #[.int .i64 ra, .int .i64 rn] 97)).cell? ⟨w.heap.size + 1, 0, none⟩ = some (.int .i64 ra) := by simp
  have y1 : ((w.alloc (.cells #[.int .i64 la, .int .i64 ln] 97)).alloc (.cells #[.int .i64 ra, .int .i64 rn] 97)).cell? ⟨w.heap.size + 1, 1, none⟩ = some (.int .i64 rn) := by simp
  generalize (w.alloc (.cells #[.int .i64 la, .int .i64 ln] 97)).alloc (.cells #[.int .i64 ra, .int .i64 rn] 97) = W at *
  have d0 := (hbW.cell (p := ⟨sb, 0, none⟩) hsb).trans c0
  have d1 := (hbW.cell (p := ⟨sb, 1, none⟩) hsb).trans c1
  have d2 := (hbW.cell (p := ⟨sb, 2, none⟩) hsb).trans c2
  have d3 := (hbW.cell (p := ⟨sb, 3, none⟩) hsb).trans c3
  have d4 := (hbW.cell (p := ⟨sb, 4, none⟩) hsb).trans c4
  clear c0 c1 c2 c3 c4
  have hsbW : sb < W.heap.size := by omega
  have KEEP := hide (fun (w' : World) (hb : Below W.heap.size W w') => (⟨(hb.cell (p := ⟨sb, 0, none⟩) hsbW).trans d0, (hb.cell (p := ⟨sb, 1, none⟩) hsbW).trans d1, (hb.cell (p := ⟨sb, 2, none⟩) hsbW).trans d2, (hb.cell (p := ⟨sb, 3, none⟩) hsbW).trans d3, (hb.cell (p := ⟨sb, 4, none⟩) hsbW).trans d4,
    (hb.cell (p := ⟨w.heap.size, 0, none⟩) (by show w.heap.size < _; omega)).trans x0, (hb.cell (p := ⟨w.heap.size, 1, none⟩) (by show w.heap.size < _; omega)).trans x1, (hb.cell (p := ⟨w.heap.size + 1, 0, none⟩) (by show w.heap.size + 1 < _; omega)).trans y0, (hb.cell (p := ⟨w.heap.size + 1, 1, none⟩) (by show w.heap.size + 1 < _; omega)).trans y1⟩ :
    w'.cell? ⟨sb, 0, none⟩ = some vv ∧ w'.cell? ⟨sb, 1, none⟩ = some (.int .i64 o) ∧ w'.cell? ⟨sb, 2, none⟩ = some (.int .i64 d) ∧ w'.cell? ⟨sb, 3, none⟩ = some dv ∧ w'.cell? ⟨sb, 4, none⟩ = some cv ∧ w'.cell? ⟨w.heap.size, 0, none⟩ = some (.int .i64 la) ∧ w'.cell? ⟨w.heap.size, 1, none⟩ = some (.int .i64 ln) ∧ w'.cell? ⟨w.heap.size + 1, 0, none⟩ = some (.int .i64 ra) ∧ w'.cell? ⟨w.heap.size + 1, 1, none⟩ = some (.int .i64 rn)))
  have hS0 := KEEP.out W.drew ((Below.refl _ _).drew)
  refine wp_region_held (S := fun w' => w'.cell? ⟨sb, 0, none⟩ = some vv ∧ w'.cell? ⟨sb, 1, none⟩ = some (.int .i64 o) ∧ w'.cell? ⟨sb, 2, none⟩ = some (.int .i64 d) ∧ w'.cell? ⟨sb, 3, none⟩ = some dv ∧ w'.cell? ⟨sb, 4, none⟩ = some cv ∧ w'.cell? ⟨w.heap.size, 0, none⟩ = some (.int .i64 la) ∧ w'.cell? ⟨w.heap.size, 1, none⟩ = some (.int .i64 ln) ∧ w'.cell? ⟨w.heap.size + 1, 0, none⟩ = some (.int .i64 ra) ∧ w'.cell? ⟨w.heap.size + 1, 1, none⟩ = some (.int .i64 rn)) (by kernel_rfl) ?_
  refine wpAnyH_take (i := 0) (v := stAgg vv o d dv cv) rfl (by kernel_rfl) (by kernel_rfl) (by kernel_rfl) (fun _ _ _ h => h) (Or.inl ⟨by rfl, ?_⟩) hS0 ?_
  · intro w hSw; obtain ⟨q0, q1, q2, q3, q4, q5, q6, q7, q8⟩ := hSw; go_simp
  refine wpAnyH_take (i := 1) (v := .agg #[.int .i64 la, .int .i64 ln]) rfl (by kernel_rfl) (by kernel_rfl) (by kernel_rfl) (fun _ _ _ h => h) (Or.inl ⟨by rfl, ?_⟩) hS0 ?_
  · intro w hSw; obtain ⟨q0, q1, q2, q3, q4, q5, q6, q7, q8⟩ := hSw; go_simp
  refine wpAnyH_take (i := 3) (v := stAgg vv o d dv cv) rfl (by kernel_rfl) (by kernel_rfl) (by kernel_rfl) (fun _ _ _ h => h) (Or.inl ⟨by rfl, ?_⟩) hS0 ?_
  · intro w hSw; obtain ⟨q0, q1, q2, q3, q4, q5, q6, q7, q8⟩ := hSw; go_simp
  refine wpAnyH_take (i := 4) (v := .agg #[.int .i64 ra, .int .i64 rn]) rfl (by kernel_rfl) (by kernel_rfl) (by kernel_rfl) (fun _ _ _ h => h) (Or.inl ⟨by rfl, ?_⟩) hS0 ?_
  · intro w hSw; obtain ⟨q0, q1, q2, q3, q4, q5, q6, q7, q8⟩ := hSw; go_simp
  refine wpAnyH_ready (rs := [2]) (by kernel_rfl) (by simp) ?_
  refine AllReadyH.cons (o := _) rfl (fun K hK => ?_) AllReadyH.nil
  go_simp
  refine (V1.out _ ?_).mono ?_
  · repeat (first | exact hbW | refine Below.drew ?_ | refine Below.alloc ?_ (by first | omega | (simp; done) | (simp; omega)) _)
  rintro e w' ⟨rfl, rfl⟩
  refine ⟨rfl, lostP, rfl, rfl, ?_⟩
  repeat (first | exact hbW | refine Below.drew ?_ | refine Below.alloc ?_ (by first | omega | (simp; done) | (simp; omega)) _)

set_option maxRecDepth 100000 in
set_option maxHeartbeats 2000000 in
theorem less_none2 (vals : List Int) (vv : Value) (S : Nat → Prop) (o d : Int) (dv cv : Value) (la ln ra rn x : Int) (sb : Nat) (w : World) (h : (sliceR (intR .i64)).one w S vv vals) (hS : ∀ b, S b → b < w.heap.size) (hb : Blk w sb 35 (stCells vv o d dv cv)) (hx : valO vals la ln = some x) (hy : valO vals ra rn = none) :
    Calls Try.prog 75 #[.agg #[.int .i64 la, .int .i64 ln], .agg #[.int .i64 ra, .int .i64 rn], .pointer (some ⟨sb, 0, none⟩)] w (LostPost w) := by
  have hsb := hb.lt
  have c0 := hb.cell 0
  have c1 := hb.cell 1
  have c2 := hb.cell 2
  have c3 := hb.cell 3
  have c4 := hb.cell 4
  simp [stCells] at c0 c1 c2 c3 c4
  have V1 := hide (fun (w' : World) (hw : Below w.heap.size w w') => val_some vals vv S o d dv cv la ln x w' (slice_below h hw hS) (fun b hb => Nat.lt_of_lt_of_le (hS b hb) hw.size) hx)
  have V2 := hide (fun (w' : World) (hw : Below w.heap.size w w') => val_none vals vv S o d dv cv ra rn w' (slice_below h hw hS) hy)
  clear h hS hb hx hy
  go_enter Try.func75, Try.ntmps75
  go_wp2_with fail
  have hbW : Below w.heap.size w ((w.alloc (.cells #[.int .i64 la, .int .i64 ln] 97)).alloc (.cells #[.int .i64 ra, .int .i64 rn] 97)) := ((Below.refl _ _).alloc (Nat.le_refl _) _).alloc (by simp) _
  have hz : ((w.alloc (.cells #[.int .i64 la, .int .i64 ln] 97)).alloc (.cells #[.int .i64 ra, .int .i64 rn] 97)).heap.size = w.heap.size + 2 := by simp
  have x0 : ((w.alloc (.cells #[.int .i64 la, .int .i64 ln] 97)).alloc (.cells #[.int .i64 ra, .int .i64 rn] 97)).cell? ⟨w.heap.size, 0, none⟩ = some (.int .i64 la) := by simp
  have x1 : ((w.alloc (.cells #[.int .i64 la, .int .i64 ln] 97)).alloc (.cells #[.int .i64 ra, .int .i64 rn] 97)).cell? ⟨w.heap.size, 1, none⟩ = some (.int .i64 ln) := by simp
  have y0 : ((w.alloc (.cells #[.int .i64 la, .int .i64 ln] 97)).alloc (.cells #[.int .i64 ra, .int .i64 rn] 97)).cell? ⟨w.heap.size + 1, 0, none⟩ = some (.int .i64 ra) := by simp
  have y1 : ((w.alloc (.cells #[.int .i64 la, .int .i64 ln] 97)).alloc (.cells #[.int .i64 ra, .int .i64 rn] 97)).cell? ⟨w.heap.size + 1, 1, none⟩ = some (.int .i64 rn) := by simp
  generalize (w.alloc (.cells #[.int .i64 la, .int .i64 ln] 97)).alloc (.cells #[.int .i64 ra, .int .i64 rn] 97) = W at *
  have d0 := (hbW.cell (p := ⟨sb, 0, none⟩) hsb).trans c0
  have d1 := (hbW.cell (p := ⟨sb, 1, none⟩) hsb).trans c1
  have d2 := (hbW.cell (p := ⟨sb, 2, none⟩) hsb).trans c2
  have d3 := (hbW.cell (p := ⟨sb, 3, none⟩) hsb).trans c3
  have d4 := (hbW.cell (p := ⟨sb, 4, none⟩) hsb).trans c4
  clear c0 c1 c2 c3 c4
  have hsbW : sb < W.heap.size := by omega
  have KEEP := hide (fun (w' : World) (hb : Below W.heap.size W w') => (⟨(hb.cell (p := ⟨sb, 0, none⟩) hsbW).trans d0, (hb.cell (p := ⟨sb, 1, none⟩) hsbW).trans d1, (hb.cell (p := ⟨sb, 2, none⟩) hsbW).trans d2, (hb.cell (p := ⟨sb, 3, none⟩) hsbW).trans d3, (hb.cell (p := ⟨sb, 4, none⟩) hsbW).trans d4,
    (hb.cell (p := ⟨w.heap.size, 0, none⟩) (by show w.heap.size < _; omega)).trans x0, (hb.cell (p := ⟨w.heap.size, 1, none⟩) (by show w.heap.size < _; omega)).trans x1, (hb.cell (p := ⟨w.heap.size + 1, 0, none⟩) (by show w.heap.size + 1 < _; omega)).trans y0, (hb.cell (p := ⟨w.heap.size + 1, 1, none⟩) (by show w.heap.size + 1 < _; omega)).trans y1⟩ :
    w'.cell? ⟨sb, 0, none⟩ = some vv ∧ w'.cell? ⟨sb, 1, none⟩ = some (.int .i64 o) ∧ w'.cell? ⟨sb, 2, none⟩ = some (.int .i64 d) ∧ w'.cell? ⟨sb, 3, none⟩ = some dv ∧ w'.cell? ⟨sb, 4, none⟩ = some cv ∧ w'.cell? ⟨w.heap.size, 0, none⟩ = some (.int .i64 la) ∧ w'.cell? ⟨w.heap.size, 1, none⟩ = some (.int .i64 ln) ∧ w'.cell? ⟨w.heap.size + 1, 0, none⟩ = some (.int .i64 ra) ∧ w'.cell? ⟨w.heap.size + 1, 1, none⟩ = some (.int .i64 rn)))
  have hS0 := KEEP.out W.drew ((Below.refl _ _).drew)
  refine wp_region_held (S := fun w' => w'.cell? ⟨sb, 0, none⟩ = some vv ∧ w'.cell? ⟨sb, 1, none⟩ = some (.int .i64 o) ∧ w'.cell? ⟨sb, 2, none⟩ = some (.int .i64 d) ∧ w'.cell? ⟨sb, 3, none⟩ = some dv ∧ w'.cell? ⟨sb, 4, none⟩ = some cv ∧ w'.cell? ⟨w.heap.size, 0, none⟩ = some (.int .i64 la) ∧ w'.cell? ⟨w.heap.size, 1, none⟩ = some (.int .i64 ln) ∧ w'.cell? ⟨w.heap.size + 1, 0, none⟩ = some (.int .i64 ra) ∧ w'.cell? ⟨w.heap.size + 1, 1, none⟩ = some (.int .i64 rn)) (by kernel_rfl) ?_
  refine wpAnyH_take (i := 0) (v := stAgg vv o d dv cv) rfl (by kernel_rfl) (by kernel_rfl) (by kernel_rfl) (fun _ _ _ h => h) (Or.inl ⟨by rfl, ?_⟩) hS0 ?_
  · intro w hSw; obtain ⟨q0, q1, q2, q3, q4, q5, q6, q7, q8⟩ := hSw; go_simp
  refine wpAnyH_take (i := 1) (v := .agg #[.int .i64 la, .int .i64 ln]) rfl (by kernel_rfl) (by kernel_rfl) (by kernel_rfl) (fun _ _ _ h => h) (Or.inl ⟨by rfl, ?_⟩) hS0 ?_
  · intro w hSw; obtain ⟨q0, q1, q2, q3, q4, q5, q6, q7, q8⟩ := hSw; go_simp
  refine wpAnyH_take (i := 3) (v := stAgg vv o d dv cv) rfl (by kernel_rfl) (by kernel_rfl) (by kernel_rfl) (fun _ _ _ h => h) (Or.inl ⟨by rfl, ?_⟩) hS0 ?_
  · intro w hSw; obtain ⟨q0, q1, q2, q3, q4, q5, q6, q7, q8⟩ := hSw; go_simp
  refine wpAnyH_take (i := 4) (v := .agg #[.int .i64 ra, .int .i64 rn]) rfl (by kernel_rfl) (by kernel_rfl) (by kernel_rfl) (fun _ _ _ h => h) (Or.inl ⟨by rfl, ?_⟩) hS0 ?_
  · intro w hSw; obtain ⟨q0, q1, q2, q3, q4, q5, q6, q7, q8⟩ := hSw; go_simp
  refine wpAnyH_ready (rs := [2]) (by kernel_rfl) (by simp) ?_
  refine AllReadyH.cons (o := _) rfl (fun K hK => ?_) AllReadyH.nil
  go_simp
  refine (V1.out _ ?_).mono ?_
  · repeat (first | exact hbW | refine Below.drew ?_ | refine Below.alloc ?_ (by first | omega | (simp; done) | (simp; omega)) _)
  rintro e w' ⟨rfl, rfl⟩
  refine hK.out _ _ (KEEP.out _ ?_) (fun hH => ?_)
  · repeat (first | exact Below.refl _ _ | refine Below.drew ?_ | refine Below.alloc ?_ (by first | omega | (simp; done) | (simp; omega)) _)
  clear hK K
  refine wpAnyH_ready (rs := [5]) (by kernel_rfl) (by simp) ?_
  refine AllReadyH.cons (o := _) rfl (fun K hK => ?_) AllReadyH.nil
  go_simp
  refine (V2.out _ ?_).mono ?_
  · repeat (first | exact hbW | refine Below.drew ?_ | refine Below.alloc ?_ (by first | omega | (simp; done) | (simp; omega)) _)
  rintro e w' ⟨rfl, rfl⟩
  refine ⟨rfl, lostP, rfl, rfl, ?_⟩
  repeat (first | exact hbW | refine Below.drew ?_ | refine Below.alloc ?_ (by first | omega | (simp; done) | (simp; omega)) _)
end
section
open Go.RowKit
def bv (b : Bool) : Value := .iface 4 (.bool b)
/-- the asker lies in block a: the state's cells, the comparison, and a row of truths -/
def AskAt (w : World) (a H : Nat) (vv : Value) (o d : Int) (dv cv f : Value) (L : List Bool) : Prop :=
  ∃ rv, Blk w a 138 #[vv, .int .i64 o, .int .i64 d, dv, cv, f, rv] ∧ w.ownsRow (a + 1) 20 1 rv L.length (L.map bv) ∧ a < H ∧ (∀ g, rv.ownBlock = some g → g < H)
theorem AskAt.below {w w' : World} {a H : Nat} {vv : Value} {o d : Int} {dv cv f : Value} {L : List Bool} (h : AskAt w a H vv o d dv cv f L) (hb : Below H w w') : AskAt w' a H vv o d dv cv f L := by
  obtain ⟨rv, h1, h2, h3, h4⟩ := h
  exact ⟨rv, h1.below hb h3, own_below h2 hb h4, h3, h4⟩
theorem AskAt.cells {w : World} {a H : Nat} {vv : Value} {o d : Int} {dv cv f : Value} {L : List Bool} (h : AskAt w a H vv o d dv cv f L) :
    w.cell? ⟨a, 0, none⟩ = some vv ∧ w.cell? ⟨a, 1, none⟩ = some (.int .i64 o) ∧ w.cell? ⟨a, 2, none⟩ = some (.int .i64 d) ∧ w.cell? ⟨a, 5, none⟩ = some f := by
  obtain ⟨rv, h1, _⟩ := h
  have c0 := h1.cell 0
  have c1 := h1.cell 1
  have c2 := h1.cell 2
  have c5 := h1.cell 5
  simp at c0 c1 c2 c5
  exact ⟨c0, c1, c2, c5⟩
/-- blocks from H on are as they were -/
def Past (H : Nat) (w w' : World) : Prop := ∀ g, H ≤ g → g < w.heap.size → w'.heap[g]? = w.heap[g]?
theorem Past.cell {H : Nat} {w w' : World} (h : Past H w w') {g i : Nat} (h1 : H ≤ g) (h2 : g < w.heap.size) : w'.cell? ⟨g, i, none⟩ = w.cell? ⟨g, i, none⟩ := World.cell?_of_block (h g h1 h2)
theorem anyInfo : (Try.prog.info? 20).map (fun i => (i.zero, i.size, i.bytes)) = some (some .nilIface, 1, 16) := by kernel_rfl
def AskPost (v : Value) (a H : Nat) (vv : Value) (o d : Int) (dv cv f : Value) (L : List Bool) (w : World) (e : Ending) (w' : World) : Prop := e = .returned v ∧ AskAt w' a w'.heap.size vv o d dv cv f L ∧ Below a w w' ∧ w.heap.size ≤ w'.heap.size ∧ Past H w w'

set_option maxRecDepth 100000 in
set_option maxHeartbeats 1000000 in
theorem askPush (a H : Nat) (vv : Value) (o d : Int) (dv cv f : Value) (L : List Bool) (b : Bool) (w : World) (h : AskAt w a H vv o d dv cv f L) (hL : L.length ≤ 1000) :
    Calls Try.prog 91 #[.pointer (some ⟨a, 0, none⟩), .bool b] w (AskPost (.tuple #[]) a H vv o d dv cv f (L ++ [b]) w) := by
  obtain ⟨i0, hi0, hz0, hz1, hz2⟩ := info_parts anyInfo
  obtain ⟨rv, hb, hown, haH, hrH⟩ := h
  have hlt := hb.lt
  have c6 := hb.cell 6
  have f6 := hb.frozen 6
  simp at c6
  obtain ⟨A, c, rfl, hc⟩ := own_form hown
  have HB := hide hb
  clear hb
  go_enter Try.func91, Try.ntmps91
  go_wp2_with (at_builtin; refine wpList_append_own _ rfl _ _ 136 rfl (a + 1) 20 i0 .nilIface 1 16 Try.underlying136 hi0 hz0 hz1 hz2 rfl (by decide) _ _ _ rfl (hown.alloc _) ⟨w.heap.size, 0, none⟩ 1 1 [.iface 4 (.bool b)] rfl rfl (cellOne_new _ _ _) (oneIface _ _) (by unfold maxLen; omega) (by omega) (by simp; omega) ?_; intro v' w1 hown' hgrow _; have hne : some a ≠ (Value.slice A L.length c).ownBlock := own_ne hown (by omega); have hb1 := (HB.out.alloc (.cells #[.iface 4 (.bool b)] 20)).grown hgrow hne; obtain ⟨A2, c2, rfl, hc2⟩ := own_form hown'; have d6 := hb1.cell 6; have g6 := hb1.frozen 6; simp at d6)
  have hbl : Below a w w1 := ((Below.refl a w).alloc (by omega) _).grown hgrow (by simp; omega) (fun k hk => by have := (hown.lt k hk).1; omega)
  have hsz : w.heap.size ≤ w1.heap.size := by have := hgrow.size; simp at this; omega
  have hw1 : a < w1.heap.size := hb1.lt
  have hlr : ∀ g, (Value.slice A2 (L.length + 1) c2).ownBlock = some g → g < w1.heap.size := fun g hg => (hown'.lt g hg).2
  have hpast : Past H w (w1.setCell ⟨a, 6, none⟩ (.slice A2 (L.length + 1) c2)) := fun g hg1 hg2 => by
    rw [Below.heap_setCell w1 ⟨a, 6, none⟩ _ g (by simp; omega)]
    have e1 : w1.heap[g]? = (w.alloc (.cells #[.iface 4 (.bool b)] 20)).heap[g]? := hgrow.block g (by simp; omega) (fun e => by have := hrH g e.symm; omega)
    rw [e1]
    exact Below.heap_alloc w _ g hg2
  go_end0
  refine ⟨rfl, ⟨_, ?_, by rw [List.length_append, List.map_append]; exact own_far hown' (p := ⟨a, 6, none⟩) (by simp) _, by simpa using hw1, fun g hg => by have := hlr g hg; simpa using this⟩, hbl.setCell (Nat.le_refl _) _, by simpa using hsz, hpast⟩
  · have := hb1.set_ 6 (.slice A2 (L.length + 1) c2)
    simpa using this

def PopPost (b : Bool) (a H : Nat) (vv : Value) (o d : Int) (dv cv f : Value) (L : List Bool) (w : World) (e : Ending) (w' : World) : Prop := e = .returned (.bool b) ∧ AskAt w' a H vv o d dv cv f L ∧ Below a w w' ∧ w.heap.size ≤ w'.heap.size ∧ Past H w w'
theorem assertBool (x : Bool) (w : World) : (Instr.typeAssert (.iface 4 (.bool x)) 20 4 false).run Try.prog w = .ok (.bool x) w := by kernel_rfl

set_option maxRecDepth 100000 in
set_option maxHeartbeats 1000000 in
theorem askPop (a H : Nat) (vv : Value) (o d : Int) (dv cv f : Value) (L : List Bool) (b : Bool) (w : World) (h : AskAt w a H vv o d dv cv f (L ++ [b])) (hL : L.length ≤ 1000) :
    Calls Try.prog 86 #[.pointer (some ⟨a, 0, none⟩)] w (PopPost b a H vv o d dv cv f L w) := by
  obtain ⟨rv, hb, hown, haH, hrH⟩ := h
  have hlt := hb.lt
  have c6 := hb.cell 6
  have f6 := hb.frozen 6
  simp at c6
  obtain ⟨g, c, rfl, hc, hg1, hg2⟩ := own_some hown (by simp)
  have hcell := own_cell hown rfl (j := L.length) (u := bv b) (by simp)
  have hown2 := own_take hown (k := L.length) (by simp)
  have hown3 : w.ownsRow (a + 1) 20 1 (.slice (some ⟨g, 0, none⟩) L.length c) L.length (L.map bv) := by
    have e : (List.map bv (L ++ [b])).take L.length = L.map bv := by rw [List.map_append, List.take_append_of_le_length (by simp), List.take_of_length_le (by simp)]
    rwa [e] at hown2
  have HB := hide hb
  have HO := hide hown3
  have hgn : a ≠ g := by omega
  have ln : (L ++ [b]).length = L.length + 1 := by simp
  rw [ln] at c6 hc
  unfold bv at hcell
  clear hb hown hown2 hown3 ln
  have hta := assertBool b
  go_enter Try.func86, Try.ntmps86
  go_wp2_with fail
  go_ret
  refine ⟨rfl, ⟨_, ?_, own_far HO.out (p := ⟨a, 6, none⟩) (by simp) _, haH, hrH⟩, (Below.refl a w).setCell (Nat.le_refl _) _, by simp, fun k hk _ => Below.heap_setCell w ⟨a, 6, none⟩ _ k (by simp; omega)⟩
  have := HB.out.set_ 6 (.slice (some ⟨g, 0, none⟩) L.length c)
  simpa using this
theorem askPopNone (a H : Nat) (vv : Value) (o d : Int) (dv cv f : Value) (w : World) (h : AskAt w a H vv o d dv cv f []) :
    Calls Try.prog 86 #[.pointer (some ⟨a, 0, none⟩)] w fun e w' => e = .panicked lostP ∧ w = w' := by
  obtain ⟨rv, hb, hown, haH, hrH⟩ := h
  have c6 := hb.cell 6
  simp at c6
  obtain ⟨A, c, rfl, hc⟩ := own_form hown
  clear hown hb
  go_enter Try.func86, Try.ntmps86
  go_wp2_with fail
  exact ⟨rfl, rfl, rfl⟩
end
section
open Go.RowKit
def StepPost (a : Nat) (vv : Value) (o d : Int) (dv cv f : Value) (L : List Bool) (w : World) (e : Ending) (w' : World) : Prop := e = .returned (.tuple #[]) ∧ AskAt w' a w'.heap.size vv o d dv cv f L ∧ Below a w w' ∧ w.heap.size ≤ w'.heap.size
abbrev instVal (op la ln ra rn n u : Int) : Value := .agg #[.int .i64 op, .int .i64 la, .int .i64 ln, .int .i64 ra, .int .i64 rn, .int .i64 n, .int .i64 u]

set_option maxRecDepth 100000 in
set_option maxHeartbeats 1000000 in
theorem stepT (op la ln ra rn n u : Int) (a : Nat) (vv : Value) (o d : Int) (dv cv f : Value) (L : List Bool) (w : World) (h : AskAt w a w.heap.size vv o d dv cv f L) (hL : L.length ≤ 1000) (ho : op = 1 ∨ op = 2) :
    Calls Try.prog 85 #[.pointer (some ⟨a, 0, none⟩), instVal op la ln ra rn n u] w (StepPost a vv o d dv cv f (L ++ [op == 1]) w) := by
  have hb0 : Below w.heap.size w (w.alloc (.cells #[.int .i64 op, .int .i64 la, .int .i64 ln, .int .i64 ra, .int .i64 rn, .int .i64 n, .int .i64 u] 99)) := (Below.refl _ _).alloc (Nat.le_refl _) _
  have hal : a < w.heap.size := by obtain ⟨_, _, _, h3, _⟩ := h; exact h3
  have Hp := hide (fun b => askPush a w.heap.size vv o d dv cv f L b _ (h.below hb0) hL)
  have Hb := hide hb0
  clear h hb0
  rcases ho with rfl | rfl
  all_goals
    go_enter Try.func85, Try.ntmps85
    go_wp2_with (go_at_call 91; refine (Hp.out _).mono ?_; rintro e w' ⟨rfl, ha, hbl, hsz, _⟩)
    go_end0
    exact ⟨rfl, ha, Hb.out.mono (Nat.le_of_lt hal) |>.trans hbl, Nat.le_trans Hb.out.size hsz⟩


set_option maxRecDepth 100000 in
set_option maxHeartbeats 4000000 in
theorem stepCmp3 (la ln ra rn n u c : Int) (a k : Nat) (caps : Array Value) (vv : Value) (o d : Int) (dv cv : Value) (L : List Bool) (w : World) (h : AskAt w a w.heap.size vv o d dv cv (.func (.func k) #[] caps) L) (hL : L.length ≤ 1000)
    (hcf : ∀ (args : Array Value) (w : World), (callFunc k args).run Try.prog w = .ok (.enter k args) w)
    (HL : Hid (∀ w', Below w.heap.size w w' → Calls Try.prog k (#[.agg #[.int .i64 la, .int .i64 ln], .agg #[.int .i64 ra, .int .i64 rn]] ++ caps) w' fun e w'' => e = .returned (.int .i64 c) ∧ Below w'.heap.size w' w'')) :
    Calls Try.prog 85 #[.pointer (some ⟨a, 0, none⟩), instVal 3 la ln ra rn n u] w (StepPost a vv o d dv cv (.func (.func k) #[] caps) (L ++ [soB 3 c]) w) := by
  obtain ⟨W, hW⟩ : ∃ W, W = w.alloc (.cells #[(.int .i64 3), .int .i64 la, .int .i64 ln, .int .i64 ra, .int .i64 rn, .int .i64 n, .int .i64 u] 99) := ⟨_, rfl⟩
  have hb0 : Below w.heap.size w W := by rw [hW]; exact (Below.refl _ _).alloc (Nat.le_refl _) _
  have hal : a < w.heap.size := by obtain ⟨_, _, _, h3, _⟩ := h; exact h3
  have hz : W.heap.size = w.heap.size + 1 := by rw [hW]; simp
  have c5 := (h.below hb0).cells.2.2.2
  have x0 : W.cell? ⟨w.heap.size, 0, none⟩ = some (.int .i64 3) := by rw [hW]; simp
  have x1 : W.cell? ⟨w.heap.size, 1, none⟩ = some (.int .i64 la) := by rw [hW]; simp
  have x2 : W.cell? ⟨w.heap.size, 2, none⟩ = some (.int .i64 ln) := by rw [hW]; simp
  have x3 : W.cell? ⟨w.heap.size, 3, none⟩ = some (.int .i64 ra) := by rw [hW]; simp
  have x4 : W.cell? ⟨w.heap.size, 4, none⟩ = some (.int .i64 rn) := by rw [hW]; simp
  have KB := hide (fun (w' : World) (hb : Below W.heap.size W w') => (⟨(hb.cell (p := ⟨a, 5, none⟩) (by show a < _; omega)).trans c5, (hb.cell (p := ⟨w.heap.size, 0, none⟩) (by show w.heap.size < _; omega)).trans x0, (hb.cell (p := ⟨w.heap.size, 1, none⟩) (by show w.heap.size < _; omega)).trans x1, (hb.cell (p := ⟨w.heap.size, 2, none⟩) (by show w.heap.size < _; omega)).trans x2, (hb.cell (p := ⟨w.heap.size, 3, none⟩) (by show w.heap.size < _; omega)).trans x3, (hb.cell (p := ⟨w.heap.size, 4, none⟩) (by show w.heap.size < _; omega)).trans x4⟩ :
    w'.cell? ⟨a, 5, none⟩ = some (.func (.func k) #[] caps) ∧ w'.cell? ⟨w.heap.size, 0, none⟩ = some (.int .i64 3) ∧ w'.cell? ⟨w.heap.size, 1, none⟩ = some (.int .i64 la) ∧ w'.cell? ⟨w.heap.size, 2, none⟩ = some (.int .i64 ln) ∧ w'.cell? ⟨w.heap.size, 3, none⟩ = some (.int .i64 ra) ∧ w'.cell? ⟨w.heap.size, 4, none⟩ = some (.int .i64 rn)))
  have KP := hide (fun (w1 w2 : World) (hb : Below W.heap.size W w1) (ha : AskAt w2 a w2.heap.size vv o d dv cv (.func (.func k) #[] caps) (L ++ [soB 3 c])) (hp : Past w.heap.size w1 w2) => by
    obtain ⟨q0, q1, q2, q3, q4, q5⟩ := KB.out w1 hb
    have hs : w.heap.size < w1.heap.size := by have := hb.size; omega
    exact (⟨ha.cells.2.2.2, (hp.cell (Nat.le_refl _) hs).trans q1, (hp.cell (Nat.le_refl _) hs).trans q2, (hp.cell (Nat.le_refl _) hs).trans q3, (hp.cell (Nat.le_refl _) hs).trans q4, (hp.cell (Nat.le_refl _) hs).trans q5⟩ :
      w2.cell? ⟨a, 5, none⟩ = some (.func (.func k) #[] caps) ∧ w2.cell? ⟨w.heap.size, 0, none⟩ = some (.int .i64 3) ∧ w2.cell? ⟨w.heap.size, 1, none⟩ = some (.int .i64 la) ∧ w2.cell? ⟨w.heap.size, 2, none⟩ = some (.int .i64 ln) ∧ w2.cell? ⟨w.heap.size, 3, none⟩ = some (.int .i64 ra) ∧ w2.cell? ⟨w.heap.size, 4, none⟩ = some (.int .i64 rn)))
  have H := hide h
  have HW := hide hW
  have HB := hide hb0
  clear h hb0 hW
  go_enter Try.func85, Try.ntmps85
  go_wp2_with fail
  rw [← HW.out]
  have hS0 := KB.out W.drew ((Below.refl _ _).drew)
  go_region_held3 (fun w' => w'.cell? ⟨a, 5, none⟩ = some (.func (.func k) #[] caps) ∧ w'.cell? ⟨w.heap.size, 0, none⟩ = some (.int .i64 3) ∧ w'.cell? ⟨w.heap.size, 1, none⟩ = some (.int .i64 la) ∧ w'.cell? ⟨w.heap.size, 2, none⟩ = some (.int .i64 ln) ∧ w'.cell? ⟨w.heap.size, 3, none⟩ = some (.int .i64 ra) ∧ w'.cell? ⟨w.heap.size, 4, none⟩ = some (.int .i64 rn)) (assumption)
    (first
      | (go_at_call 92; refine (so_any _ _ _).mono ?_; rintro e w' ⟨rfl, rfl⟩)
      | (go_at_call 91; (with_reducible refine (askPush a w.heap.size vv o d dv cv _ L _ _ (H.out.below hbw1) hL).mono ?_); rintro e w2 ⟨rfl, ha, hbl, hsz, hpast⟩; have K2 := KP.out _ _ hbW1 ha hpast)
      | ((with_reducible refine (HL.out _ HB.out.drew).mono ?_); rintro e w1 ⟨rfl, hb1⟩; have hbW1 : Below W.heap.size W w1 := (Below.refl W.heap.size W).drew.trans hb1; have K1 := KB.out w1 hbW1; have hbw1 : Below w.heap.size w w1 := HB.out.trans (hbW1.mono HB.out.size)))
  all_goals
    go_wp2_with fail
    go_end0
    exact ⟨rfl, ha, (hbw1.mono (Nat.le_of_lt hal)).trans hbl, Nat.le_trans hbw1.size hsz⟩
set_option maxRecDepth 100000 in
set_option maxHeartbeats 4000000 in
theorem stepNo3 (la ln ra rn n u : Int) (a k : Nat) (caps : Array Value) (vv : Value) (o d : Int) (dv cv : Value) (L : List Bool) (w : World) (h : AskAt w a w.heap.size vv o d dv cv (.func (.func k) #[] caps) L) (hL : L.length ≤ 1000)
    (hcf : ∀ (args : Array Value) (w : World), (callFunc k args).run Try.prog w = .ok (.enter k args) w)
    (HL : Hid (∀ w', Below w.heap.size w w' → Calls Try.prog k (#[.agg #[.int .i64 la, .int .i64 ln], .agg #[.int .i64 ra, .int .i64 rn]] ++ caps) w' fun e w'' => e = .panicked lostP ∧ Below w'.heap.size w' w'')) :
    Calls Try.prog 85 #[.pointer (some ⟨a, 0, none⟩), instVal 3 la ln ra rn n u] w fun e w' => e = .panicked lostP ∧ Below a w w' := by
  obtain ⟨W, hW⟩ : ∃ W, W = w.alloc (.cells #[(.int .i64 3), .int .i64 la, .int .i64 ln, .int .i64 ra, .int .i64 rn, .int .i64 n, .int .i64 u] 99) := ⟨_, rfl⟩
  have hb0 : Below w.heap.size w W := by rw [hW]; exact (Below.refl _ _).alloc (Nat.le_refl _) _
  have hal : a < w.heap.size := by obtain ⟨_, _, _, h3, _⟩ := h; exact h3
  have hz : W.heap.size = w.heap.size + 1 := by rw [hW]; simp
  have c5 := (h.below hb0).cells.2.2.2
  have x0 : W.cell? ⟨w.heap.size, 0, none⟩ = some (.int .i64 3) := by rw [hW]; simp
  have x1 : W.cell? ⟨w.heap.size, 1, none⟩ = some (.int .i64 la) := by rw [hW]; simp
  have x2 : W.cell? ⟨w.heap.size, 2, none⟩ = some (.int .i64 ln) := by rw [hW]; simp
  have x3 : W.cell? ⟨w.heap.size, 3, none⟩ = some (.int .i64 ra) := by rw [hW]; simp
  have x4 : W.cell? ⟨w.heap.size, 4, none⟩ = some (.int .i64 rn) := by rw [hW]; simp
  have KB := hide (fun (w' : World) (hb : Below W.heap.size W w') => (⟨(hb.cell (p := ⟨a, 5, none⟩) (by show a < _; omega)).trans c5, (hb.cell (p := ⟨w.heap.size, 0, none⟩) (by show w.heap.size < _; omega)).trans x0, (hb.cell (p := ⟨w.heap.size, 1, none⟩) (by show w.heap.size < _; omega)).trans x1, (hb.cell (p := ⟨w.heap.size, 2, none⟩) (by show w.heap.size < _; omega)).trans x2, (hb.cell (p := ⟨w.heap.size, 3, none⟩) (by show w.heap.size < _; omega)).trans x3, (hb.cell (p := ⟨w.heap.size, 4, none⟩) (by show w.heap.size < _; omega)).trans x4⟩ :
    w'.cell? ⟨a, 5, none⟩ = some (.func (.func k) #[] caps) ∧ w'.cell? ⟨w.heap.size, 0, none⟩ = some (.int .i64 3) ∧ w'.cell? ⟨w.heap.size, 1, none⟩ = some (.int .i64 la) ∧ w'.cell? ⟨w.heap.size, 2, none⟩ = some (.int .i64 ln) ∧ w'.cell? ⟨w.heap.size, 3, none⟩ = some (.int .i64 ra) ∧ w'.cell? ⟨w.heap.size, 4, none⟩ = some (.int .i64 rn)))
  have H := hide h
  have HW := hide hW
  have HB := hide hb0
  clear h hb0 hW
  go_enter Try.func85, Try.ntmps85
  go_wp2_with fail
  rw [← HW.out]
  have hS0 := KB.out W.drew ((Below.refl _ _).drew)
  refine wp_region_held (S := fun w' => w'.cell? ⟨a, 5, none⟩ = some (.func (.func k) #[] caps) ∧ w'.cell? ⟨w.heap.size, 0, none⟩ = some (.int .i64 3) ∧ w'.cell? ⟨w.heap.size, 1, none⟩ = some (.int .i64 la) ∧ w'.cell? ⟨w.heap.size, 2, none⟩ = some (.int .i64 ln) ∧ w'.cell? ⟨w.heap.size, 3, none⟩ = some (.int .i64 ra) ∧ w'.cell? ⟨w.heap.size, 4, none⟩ = some (.int .i64 rn)) (by kernel_rfl) ?_
  refine wpAnyH_take (i := 0) (v := .pointer (some ⟨a, 0, none⟩)) rfl (by kernel_rfl) (by kernel_rfl) (by kernel_rfl) (fun _ _ _ h => h) (Or.inl ⟨by rfl, ?_⟩) hS0 ?_
  · intro w hSw; obtain ⟨q0, q1, q2, q3, q4, q5⟩ := hSw; go_simp
  refine wpAnyH_take (i := 1) (v := .pointer (some ⟨w.heap.size, 0, none⟩)) rfl (by kernel_rfl) (by kernel_rfl) (by kernel_rfl) (fun _ _ _ h => h) (Or.inl ⟨by rfl, ?_⟩) hS0 ?_
  · intro w hSw; obtain ⟨q0, q1, q2, q3, q4, q5⟩ := hSw; go_simp
  refine wpAnyH_take (i := 2) (v := .int .i64 3) rfl (by kernel_rfl) (by kernel_rfl) (by kernel_rfl) (fun _ _ _ h => h) (Or.inl ⟨by rfl, ?_⟩) hS0 ?_
  · intro w hSw; obtain ⟨q0, q1, q2, q3, q4, q5⟩ := hSw; go_simp
  refine wpAnyH_take (i := 3) (v := .pointer (some ⟨a, 0, none⟩)) rfl (by kernel_rfl) (by kernel_rfl) (by kernel_rfl) (fun _ _ _ h => h) (Or.inl ⟨by rfl, ?_⟩) hS0 ?_
  · intro w hSw; obtain ⟨q0, q1, q2, q3, q4, q5⟩ := hSw; go_simp
  refine wpAnyH_take (i := 4) (v := .pointer (some ⟨a, 0, none⟩)) rfl (by kernel_rfl) (by kernel_rfl) (by kernel_rfl) (fun _ _ _ h => h) (Or.inl ⟨by rfl, ?_⟩) hS0 ?_
  · intro w hSw; obtain ⟨q0, q1, q2, q3, q4, q5⟩ := hSw; go_simp
  refine wpAnyH_take (i := 5) (v := .pointer (some ⟨a, 5, none⟩)) rfl (by kernel_rfl) (by kernel_rfl) (by kernel_rfl) (fun _ _ _ h => h) (Or.inl ⟨by rfl, ?_⟩) hS0 ?_
  · intro w hSw; obtain ⟨q0, q1, q2, q3, q4, q5⟩ := hSw; go_simp
  refine wpAnyH_take (i := 6) (v := .func (.func k) #[] caps) rfl (by kernel_rfl) (by kernel_rfl) (by kernel_rfl) (fun _ _ _ h => h) (Or.inl ⟨by rfl, ?_⟩) hS0 ?_
  · intro w hSw; obtain ⟨q0, q1, q2, q3, q4, q5⟩ := hSw; go_simp
  refine wpAnyH_take (i := 7) (v := .pointer (some ⟨w.heap.size, 1, none⟩)) rfl (by kernel_rfl) (by kernel_rfl) (by kernel_rfl) (fun _ _ _ h => h) (Or.inl ⟨by rfl, ?_⟩) hS0 ?_
  · intro w hSw; obtain ⟨q0, q1, q2, q3, q4, q5⟩ := hSw; go_simp
  refine wpAnyH_take (i := 8) (v := .agg #[.int .i64 la, .int .i64 ln]) rfl (by kernel_rfl) (by kernel_rfl) (by kernel_rfl) (fun _ _ _ h => h) (Or.inl ⟨by rfl, ?_⟩) hS0 ?_
  · intro w hSw; obtain ⟨q0, q1, q2, q3, q4, q5⟩ := hSw; go_simp
  refine wpAnyH_take (i := 9) (v := .pointer (some ⟨w.heap.size, 3, none⟩)) rfl (by kernel_rfl) (by kernel_rfl) (by kernel_rfl) (fun _ _ _ h => h) (Or.inl ⟨by rfl, ?_⟩) hS0 ?_
  · intro w hSw; obtain ⟨q0, q1, q2, q3, q4, q5⟩ := hSw; go_simp
  refine wpAnyH_take (i := 10) (v := .agg #[.int .i64 ra, .int .i64 rn]) rfl (by kernel_rfl) (by kernel_rfl) (by kernel_rfl) (fun _ _ _ h => h) (Or.inl ⟨by rfl, ?_⟩) hS0 ?_
  · intro w hSw; obtain ⟨q0, q1, q2, q3, q4, q5⟩ := hSw; go_simp
  refine wpAnyH_ready (rs := [11]) (by kernel_rfl) (by simp) ?_
  refine AllReadyH.cons (o := _) rfl (fun K hK => ?_) AllReadyH.nil
  go_simp
  refine (HL.out _ HB.out.drew).mono ?_
  rintro e w1 ⟨rfl, hb1⟩
  have hbW1 : Below W.heap.size W w1 := (Below.refl W.heap.size W).drew.trans hb1
  exact ⟨rfl, rfl, (HB.out.mono (Nat.le_of_lt hal)).trans (hbW1.mono (by omega))⟩
set_option maxRecDepth 100000 in
set_option maxHeartbeats 4000000 in
theorem stepCmp4 (la ln ra rn n u c : Int) (a k : Nat) (caps : Array Value) (vv : Value) (o d : Int) (dv cv : Value) (L : List Bool) (w : World) (h : AskAt w a w.heap.size vv o d dv cv (.func (.func k) #[] caps) L) (hL : L.length ≤ 1000)
    (hcf : ∀ (args : Array Value) (w : World), (callFunc k args).run Try.prog w = .ok (.enter k args) w)
    (HL : Hid (∀ w', Below w.heap.size w w' → Calls Try.prog k (#[.agg #[.int .i64 la, .int .i64 ln], .agg #[.int .i64 ra, .int .i64 rn]] ++ caps) w' fun e w'' => e = .returned (.int .i64 c) ∧ Below w'.heap.size w' w'')) :
    Calls Try.prog 85 #[.pointer (some ⟨a, 0, none⟩), instVal 4 la ln ra rn n u] w (StepPost a vv o d dv cv (.func (.func k) #[] caps) (L ++ [soB 4 c]) w) := by
  obtain ⟨W, hW⟩ : ∃ W, W = w.alloc (.cells #[(.int .i64 4), .int .i64 la, .int .i64 ln, .int .i64 ra, .int .i64 rn, .int .i64 n, .int .i64 u] 99) := ⟨_, rfl⟩
  have hb0 : Below w.heap.size w W := by rw [hW]; exact (Below.refl _ _).alloc (Nat.le_refl _) _
  have hal : a < w.heap.size := by obtain ⟨_, _, _, h3, _⟩ := h; exact h3
  have hz : W.heap.size = w.heap.size + 1 := by rw [hW]; simp
  have c5 := (h.below hb0).cells.2.2.2
  have x0 : W.cell? ⟨w.heap.size, 0, none⟩ = some (.int .i64 4) := by rw [hW]; simp
  have x1 : W.cell? ⟨w.heap.size, 1, none⟩ = some (.int .i64 la) := by rw [hW]; simp
  have x2 : W.cell? ⟨w.heap.size, 2, none⟩ = some (.int .i64 ln) := by rw [hW]; simp
  have x3 : W.cell? ⟨w.heap.size, 3, none⟩ = some (.int .i64 ra) := by rw [hW]; simp
  have x4 : W.cell? ⟨w.heap.size, 4, none⟩ = some (.int .i64 rn) := by rw [hW]; simp
  have KB := hide (fun (w' : World) (hb : Below W.heap.size W w') => (⟨(hb.cell (p := ⟨a, 5, none⟩) (by show a < _; omega)).trans c5, (hb.cell (p := ⟨w.heap.size, 0, none⟩) (by show w.heap.size < _; omega)).trans x0, (hb.cell (p := ⟨w.heap.size, 1, none⟩) (by show w.heap.size < _; omega)).trans x1, (hb.cell (p := ⟨w.heap.size, 2, none⟩) (by show w.heap.size < _; omega)).trans x2, (hb.cell (p := ⟨w.heap.size, 3, none⟩) (by show w.heap.size < _; omega)).trans x3, (hb.cell (p := ⟨w.heap.size, 4, none⟩) (by show w.heap.size < _; omega)).trans x4⟩ :
    w'.cell? ⟨a, 5, none⟩ = some (.func (.func k) #[] caps) ∧ w'.cell? ⟨w.heap.size, 0, none⟩ = some (.int .i64 4) ∧ w'.cell? ⟨w.heap.size, 1, none⟩ = some (.int .i64 la) ∧ w'.cell? ⟨w.heap.size, 2, none⟩ = some (.int .i64 ln) ∧ w'.cell? ⟨w.heap.size, 3, none⟩ = some (.int .i64 ra) ∧ w'.cell? ⟨w.heap.size, 4, none⟩ = some (.int .i64 rn)))
  have KP := hide (fun (w1 w2 : World) (hb : Below W.heap.size W w1) (ha : AskAt w2 a w2.heap.size vv o d dv cv (.func (.func k) #[] caps) (L ++ [soB 4 c])) (hp : Past w.heap.size w1 w2) => by
    obtain ⟨q0, q1, q2, q3, q4, q5⟩ := KB.out w1 hb
    have hs : w.heap.size < w1.heap.size := by have := hb.size; omega
    exact (⟨ha.cells.2.2.2, (hp.cell (Nat.le_refl _) hs).trans q1, (hp.cell (Nat.le_refl _) hs).trans q2, (hp.cell (Nat.le_refl _) hs).trans q3, (hp.cell (Nat.le_refl _) hs).trans q4, (hp.cell (Nat.le_refl _) hs).trans q5⟩ :
      w2.cell? ⟨a, 5, none⟩ = some (.func (.func k) #[] caps) ∧ w2.cell? ⟨w.heap.size, 0, none⟩ = some (.int .i64 4) ∧ w2.cell? ⟨w.heap.size, 1, none⟩ = some (.int .i64 la) ∧ w2.cell? ⟨w.heap.size, 2, none⟩ = some (.int .i64 ln) ∧ w2.cell? ⟨w.heap.size, 3, none⟩ = some (.int .i64 ra) ∧ w2.cell? ⟨w.heap.size, 4, none⟩ = some (.int .i64 rn)))
  have H := hide h
  have HW := hide hW
  have HB := hide hb0
  clear h hb0 hW
  go_enter Try.func85, Try.ntmps85
  go_wp2_with fail
  rw [← HW.out]
  have hS0 := KB.out W.drew ((Below.refl _ _).drew)
  go_region_held3 (fun w' => w'.cell? ⟨a, 5, none⟩ = some (.func (.func k) #[] caps) ∧ w'.cell? ⟨w.heap.size, 0, none⟩ = some (.int .i64 4) ∧ w'.cell? ⟨w.heap.size, 1, none⟩ = some (.int .i64 la) ∧ w'.cell? ⟨w.heap.size, 2, none⟩ = some (.int .i64 ln) ∧ w'.cell? ⟨w.heap.size, 3, none⟩ = some (.int .i64 ra) ∧ w'.cell? ⟨w.heap.size, 4, none⟩ = some (.int .i64 rn)) (assumption)
    (first
      | (go_at_call 92; refine (so_any _ _ _).mono ?_; rintro e w' ⟨rfl, rfl⟩)
      | (go_at_call 91; (with_reducible refine (askPush a w.heap.size vv o d dv cv _ L _ _ (H.out.below hbw1) hL).mono ?_); rintro e w2 ⟨rfl, ha, hbl, hsz, hpast⟩; have K2 := KP.out _ _ hbW1 ha hpast)
      | ((with_reducible refine (HL.out _ HB.out.drew).mono ?_); rintro e w1 ⟨rfl, hb1⟩; have hbW1 : Below W.heap.size W w1 := (Below.refl W.heap.size W).drew.trans hb1; have K1 := KB.out w1 hbW1; have hbw1 : Below w.heap.size w w1 := HB.out.trans (hbW1.mono HB.out.size)))
  all_goals
    go_wp2_with fail
    go_end0
    exact ⟨rfl, ha, (hbw1.mono (Nat.le_of_lt hal)).trans hbl, Nat.le_trans hbw1.size hsz⟩
set_option maxRecDepth 100000 in
set_option maxHeartbeats 4000000 in
theorem stepNo4 (la ln ra rn n u : Int) (a k : Nat) (caps : Array Value) (vv : Value) (o d : Int) (dv cv : Value) (L : List Bool) (w : World) (h : AskAt w a w.heap.size vv o d dv cv (.func (.func k) #[] caps) L) (hL : L.length ≤ 1000)
    (hcf : ∀ (args : Array Value) (w : World), (callFunc k args).run Try.prog w = .ok (.enter k args) w)
    (HL : Hid (∀ w', Below w.heap.size w w' → Calls Try.prog k (#[.agg #[.int .i64 la, .int .i64 ln], .agg #[.int .i64 ra, .int .i64 rn]] ++ caps) w' fun e w'' => e = .panicked lostP ∧ Below w'.heap.size w' w'')) :
    Calls Try.prog 85 #[.pointer (some ⟨a, 0, none⟩), instVal 4 la ln ra rn n u] w fun e w' => e = .panicked lostP ∧ Below a w w' := by
  obtain ⟨W, hW⟩ : ∃ W, W = w.alloc (.cells #[(.int .i64 4), .int .i64 la, .int .i64 ln, .int .i64 ra, .int .i64 rn, .int .i64 n, .int .i64 u] 99) := ⟨_, rfl⟩
  have hb0 : Below w.heap.size w W := by rw [hW]; exact (Below.refl _ _).alloc (Nat.le_refl _) _
  have hal : a < w.heap.size := by obtain ⟨_, _, _, h3, _⟩ := h; exact h3
  have hz : W.heap.size = w.heap.size + 1 := by rw [hW]; simp
  have c5 := (h.below hb0).cells.2.2.2
  have x0 : W.cell? ⟨w.heap.size, 0, none⟩ = some (.int .i64 4) := by rw [hW]; simp
  have x1 : W.cell? ⟨w.heap.size, 1, none⟩ = some (.int .i64 la) := by rw [hW]; simp
  have x2 : W.cell? ⟨w.heap.size, 2, none⟩ = some (.int .i64 ln) := by rw [hW]; simp
  have x3 : W.cell? ⟨w.heap.size, 3, none⟩ = some (.int .i64 ra) := by rw [hW]; simp
  have x4 : W.cell? ⟨w.heap.size, 4, none⟩ = some (.int .i64 rn) := by rw [hW]; simp
  have KB := hide (fun (w' : World) (hb : Below W.heap.size W w') => (⟨(hb.cell (p := ⟨a, 5, none⟩) (by show a < _; omega)).trans c5, (hb.cell (p := ⟨w.heap.size, 0, none⟩) (by show w.heap.size < _; omega)).trans x0, (hb.cell (p := ⟨w.heap.size, 1, none⟩) (by show w.heap.size < _; omega)).trans x1, (hb.cell (p := ⟨w.heap.size, 2, none⟩) (by show w.heap.size < _; omega)).trans x2, (hb.cell (p := ⟨w.heap.size, 3, none⟩) (by show w.heap.size < _; omega)).trans x3, (hb.cell (p := ⟨w.heap.size, 4, none⟩) (by show w.heap.size < _; omega)).trans x4⟩ :
    w'.cell? ⟨a, 5, none⟩ = some (.func (.func k) #[] caps) ∧ w'.cell? ⟨w.heap.size, 0, none⟩ = some (.int .i64 4) ∧ w'.cell? ⟨w.heap.size, 1, none⟩ = some (.int .i64 la) ∧ w'.cell? ⟨w.heap.size, 2, none⟩ = some (.int .i64 ln) ∧ w'.cell? ⟨w.heap.size, 3, none⟩ = some (.int .i64 ra) ∧ w'.cell? ⟨w.heap.size, 4, none⟩ = some (.int .i64 rn)))
  have H := hide h
  have HW := hide hW
  have HB := hide hb0
  clear h hb0 hW
  go_enter Try.func85, Try.ntmps85
  go_wp2_with fail
  rw [← HW.out]
  have hS0 := KB.out W.drew ((Below.refl _ _).drew)
  refine wp_region_held (S := fun w' => w'.cell? ⟨a, 5, none⟩ = some (.func (.func k) #[] caps) ∧ w'.cell? ⟨w.heap.size, 0, none⟩ = some (.int .i64 4) ∧ w'.cell? ⟨w.heap.size, 1, none⟩ = some (.int .i64 la) ∧ w'.cell? ⟨w.heap.size, 2, none⟩ = some (.int .i64 ln) ∧ w'.cell? ⟨w.heap.size, 3, none⟩ = some (.int .i64 ra) ∧ w'.cell? ⟨w.heap.size, 4, none⟩ = some (.int .i64 rn)) (by kernel_rfl) ?_
  refine wpAnyH_take (i := 0) (v := .pointer (some ⟨a, 0, none⟩)) rfl (by kernel_rfl) (by kernel_rfl) (by kernel_rfl) (fun _ _ _ h => h) (Or.inl ⟨by rfl, ?_⟩) hS0 ?_
  · intro w hSw; obtain ⟨q0, q1, q2, q3, q4, q5⟩ := hSw; go_simp
  refine wpAnyH_take (i := 1) (v := .pointer (some ⟨w.heap.size, 0, none⟩)) rfl (by kernel_rfl) (by kernel_rfl) (by kernel_rfl) (fun _ _ _ h => h) (Or.inl ⟨by rfl, ?_⟩) hS0 ?_
  · intro w hSw; obtain ⟨q0, q1, q2, q3, q4, q5⟩ := hSw; go_simp
  refine wpAnyH_take (i := 2) (v := .int .i64 4) rfl (by kernel_rfl) (by kernel_rfl) (by kernel_rfl) (fun _ _ _ h => h) (Or.inl ⟨by rfl, ?_⟩) hS0 ?_
  · intro w hSw; obtain ⟨q0, q1, q2, q3, q4, q5⟩ := hSw; go_simp
  refine wpAnyH_take (i := 3) (v := .pointer (some ⟨a, 0, none⟩)) rfl (by kernel_rfl) (by kernel_rfl) (by kernel_rfl) (fun _ _ _ h => h) (Or.inl ⟨by rfl, ?_⟩) hS0 ?_
  · intro w hSw; obtain ⟨q0, q1, q2, q3, q4, q5⟩ := hSw; go_simp
  refine wpAnyH_take (i := 4) (v := .pointer (some ⟨a, 0, none⟩)) rfl (by kernel_rfl) (by kernel_rfl) (by kernel_rfl) (fun _ _ _ h => h) (Or.inl ⟨by rfl, ?_⟩) hS0 ?_
  · intro w hSw; obtain ⟨q0, q1, q2, q3, q4, q5⟩ := hSw; go_simp
  refine wpAnyH_take (i := 5) (v := .pointer (some ⟨a, 5, none⟩)) rfl (by kernel_rfl) (by kernel_rfl) (by kernel_rfl) (fun _ _ _ h => h) (Or.inl ⟨by rfl, ?_⟩) hS0 ?_
  · intro w hSw; obtain ⟨q0, q1, q2, q3, q4, q5⟩ := hSw; go_simp
  refine wpAnyH_take (i := 6) (v := .func (.func k) #[] caps) rfl (by kernel_rfl) (by kernel_rfl) (by kernel_rfl) (fun _ _ _ h => h) (Or.inl ⟨by rfl, ?_⟩) hS0 ?_
  · intro w hSw; obtain ⟨q0, q1, q2, q3, q4, q5⟩ := hSw; go_simp
  refine wpAnyH_take (i := 7) (v := .pointer (some ⟨w.heap.size, 1, none⟩)) rfl (by kernel_rfl) (by kernel_rfl) (by kernel_rfl) (fun _ _ _ h => h) (Or.inl ⟨by rfl, ?_⟩) hS0 ?_
  · intro w hSw; obtain ⟨q0, q1, q2, q3, q4, q5⟩ := hSw; go_simp
  refine wpAnyH_take (i := 8) (v := .agg #[.int .i64 la, .int .i64 ln]) rfl (by kernel_rfl) (by kernel_rfl) (by kernel_rfl) (fun _ _ _ h => h) (Or.inl ⟨by rfl, ?_⟩) hS0 ?_
  · intro w hSw; obtain ⟨q0, q1, q2, q3, q4, q5⟩ := hSw; go_simp
  refine wpAnyH_take (i := 9) (v := .pointer (some ⟨w.heap.size, 3, none⟩)) rfl (by kernel_rfl) (by kernel_rfl) (by kernel_rfl) (fun _ _ _ h => h) (Or.inl ⟨by rfl, ?_⟩) hS0 ?_
  · intro w hSw; obtain ⟨q0, q1, q2, q3, q4, q5⟩ := hSw; go_simp
  refine wpAnyH_take (i := 10) (v := .agg #[.int .i64 ra, .int .i64 rn]) rfl (by kernel_rfl) (by kernel_rfl) (by kernel_rfl) (fun _ _ _ h => h) (Or.inl ⟨by rfl, ?_⟩) hS0 ?_
  · intro w hSw; obtain ⟨q0, q1, q2, q3, q4, q5⟩ := hSw; go_simp
  refine wpAnyH_ready (rs := [11]) (by kernel_rfl) (by simp) ?_
  refine AllReadyH.cons (o := _) rfl (fun K hK => ?_) AllReadyH.nil
  go_simp
  refine (HL.out _ HB.out.drew).mono ?_
  rintro e w1 ⟨rfl, hb1⟩
  have hbW1 : Below W.heap.size W w1 := (Below.refl W.heap.size W).drew.trans hb1
  exact ⟨rfl, rfl, (HB.out.mono (Nat.le_of_lt hal)).trans (hbW1.mono (by omega))⟩
set_option maxRecDepth 100000 in
set_option maxHeartbeats 4000000 in
theorem stepCmp5 (la ln ra rn n u c : Int) (a k : Nat) (caps : Array Value) (vv : Value) (o d : Int) (dv cv : Value) (L : List Bool) (w : World) (h : AskAt w a w.heap.size vv o d dv cv (.func (.func k) #[] caps) L) (hL : L.length ≤ 1000)
    (hcf : ∀ (args : Array Value) (w : World), (callFunc k args).run Try.prog w = .ok (.enter k args) w)
    (HL : Hid (∀ w', Below w.heap.size w w' → Calls Try.prog k (#[.agg #[.int .i64 la, .int .i64 ln], .agg #[.int .i64 ra, .int .i64 rn]] ++ caps) w' fun e w'' => e = .returned (.int .i64 c) ∧ Below w'.heap.size w' w'')) :
    Calls Try.prog 85 #[.pointer (some ⟨a, 0, none⟩), instVal 5 la ln ra rn n u] w (StepPost a vv o d dv cv (.func (.func k) #[] caps) (L ++ [soB 5 c]) w) := by
  obtain ⟨W, hW⟩ : ∃ W, W = w.alloc (.cells #[(.int .i64 5), .int .i64 la, .int .i64 ln, .int .i64 ra, .int .i64 rn, .int .i64 n, .int .i64 u] 99) := ⟨_, rfl⟩
  have hb0 : Below w.heap.size w W := by rw [hW]; exact (Below.refl _ _).alloc (Nat.le_refl _) _
  have hal : a < w.heap.size := by obtain ⟨_, _, _, h3, _⟩ := h; exact h3
  have hz : W.heap.size = w.heap.size + 1 := by rw [hW]; simp
  have c5 := (h.below hb0).cells.2.2.2
  have x0 : W.cell? ⟨w.heap.size, 0, none⟩ = some (.int .i64 5) := by rw [hW]; simp
  have x1 : W.cell? ⟨w.heap.size, 1, none⟩ = some (.int .i64 la) := by rw [hW]; simp
  have x2 : W.cell? ⟨w.heap.size, 2, none⟩ = some (.int .i64 ln) := by rw [hW]; simp
  have x3 : W.cell? ⟨w.heap.size, 3, none⟩ = some (.int .i64 ra) := by rw [hW]; simp
  have x4 : W.cell? ⟨w.heap.size, 4, none⟩ = some (.int .i64 rn) := by rw [hW]; simp
  have KB := hide (fun (w' : World) (hb : Below W.heap.size W w') => (⟨(hb.cell (p := ⟨a, 5, none⟩) (by show a < _; omega)).trans c5, (hb.cell (p := ⟨w.heap.size, 0, none⟩) (by show w.heap.size < _; omega)).trans x0, (hb.cell (p := ⟨w.heap.size, 1, none⟩) (by show w.heap.size < _; omega)).trans x1, (hb.cell (p := ⟨w.heap.size, 2, none⟩) (by show w.heap.size < _; omega)).trans x2, (hb.cell (p := ⟨w.heap.size, 3, none⟩) (by show w.heap.size < _; omega)).trans x3, (hb.cell (p := ⟨w.heap.size, 4, none⟩) (by show w.heap.size < _; omega)).trans x4⟩ :
    w'.cell? ⟨a, 5, none⟩ = some (.func (.func k) #[] caps) ∧ w'.cell? ⟨w.heap.size, 0, none⟩ = some (.int .i64 5) ∧ w'.cell? ⟨w.heap.size, 1, none⟩ = some (.int .i64 la) ∧ w'.cell? ⟨w.heap.size, 2, none⟩ = some (.int .i64 ln) ∧ w'.cell? ⟨w.heap.size, 3, none⟩ = some (.int .i64 ra) ∧ w'.cell? ⟨w.heap.size, 4, none⟩ = some (.int .i64 rn)))
  have KP := hide (fun (w1 w2 : World) (hb : Below W.heap.size W w1) (ha : AskAt w2 a w2.heap.size vv o d dv cv (.func (.func k) #[] caps) (L ++ [soB 5 c])) (hp : Past w.heap.size w1 w2) => by
    obtain ⟨q0, q1, q2, q3, q4, q5⟩ := KB.out w1 hb
    have hs : w.heap.size < w1.heap.size := by have := hb.size; omega
    exact (⟨ha.cells.2.2.2, (hp.cell (Nat.le_refl _) hs).trans q1, (hp.cell (Nat.le_refl _) hs).trans q2, (hp.cell (Nat.le_refl _) hs).trans q3, (hp.cell (Nat.le_refl _) hs).trans q4, (hp.cell (Nat.le_refl _) hs).trans q5⟩ :
      w2.cell? ⟨a, 5, none⟩ = some (.func (.func k) #[] caps) ∧ w2.cell? ⟨w.heap.size, 0, none⟩ = some (.int .i64 5) ∧ w2.cell? ⟨w.heap.size, 1, none⟩ = some (.int .i64 la) ∧ w2.cell? ⟨w.heap.size, 2, none⟩ = some (.int .i64 ln) ∧ w2.cell? ⟨w.heap.size, 3, none⟩ = some (.int .i64 ra) ∧ w2.cell? ⟨w.heap.size, 4, none⟩ = some (.int .i64 rn)))
  have H := hide h
  have HW := hide hW
  have HB := hide hb0
  clear h hb0 hW
  go_enter Try.func85, Try.ntmps85
  go_wp2_with fail
  rw [← HW.out]
  have hS0 := KB.out W.drew ((Below.refl _ _).drew)
  go_region_held3 (fun w' => w'.cell? ⟨a, 5, none⟩ = some (.func (.func k) #[] caps) ∧ w'.cell? ⟨w.heap.size, 0, none⟩ = some (.int .i64 5) ∧ w'.cell? ⟨w.heap.size, 1, none⟩ = some (.int .i64 la) ∧ w'.cell? ⟨w.heap.size, 2, none⟩ = some (.int .i64 ln) ∧ w'.cell? ⟨w.heap.size, 3, none⟩ = some (.int .i64 ra) ∧ w'.cell? ⟨w.heap.size, 4, none⟩ = some (.int .i64 rn)) (assumption)
    (first
      | (go_at_call 92; refine (so_any _ _ _).mono ?_; rintro e w' ⟨rfl, rfl⟩)
      | (go_at_call 91; (with_reducible refine (askPush a w.heap.size vv o d dv cv _ L _ _ (H.out.below hbw1) hL).mono ?_); rintro e w2 ⟨rfl, ha, hbl, hsz, hpast⟩; have K2 := KP.out _ _ hbW1 ha hpast)
      | ((with_reducible refine (HL.out _ HB.out.drew).mono ?_); rintro e w1 ⟨rfl, hb1⟩; have hbW1 : Below W.heap.size W w1 := (Below.refl W.heap.size W).drew.trans hb1; have K1 := KB.out w1 hbW1; have hbw1 : Below w.heap.size w w1 := HB.out.trans (hbW1.mono HB.out.size)))
  all_goals
    go_wp2_with fail
    go_end0
    exact ⟨rfl, ha, (hbw1.mono (Nat.le_of_lt hal)).trans hbl, Nat.le_trans hbw1.size hsz⟩
set_option maxRecDepth 100000 in
set_option maxHeartbeats 4000000 in
theorem stepNo5 (la ln ra rn n u : Int) (a k : Nat) (caps : Array Value) (vv : Value) (o d : Int) (dv cv : Value) (L : List Bool) (w : World) (h : AskAt w a w.heap.size vv o d dv cv (.func (.func k) #[] caps) L) (hL : L.length ≤ 1000)
    (hcf : ∀ (args : Array Value) (w : World), (callFunc k args).run Try.prog w = .ok (.enter k args) w)
    (HL : Hid (∀ w', Below w.heap.size w w' → Calls Try.prog k (#[.agg #[.int .i64 la, .int .i64 ln], .agg #[.int .i64 ra, .int .i64 rn]] ++ caps) w' fun e w'' => e = .panicked lostP ∧ Below w'.heap.size w' w'')) :
    Calls Try.prog 85 #[.pointer (some ⟨a, 0, none⟩), instVal 5 la ln ra rn n u] w fun e w' => e = .panicked lostP ∧ Below a w w' := by
  obtain ⟨W, hW⟩ : ∃ W, W = w.alloc (.cells #[(.int .i64 5), .int .i64 la, .int .i64 ln, .int .i64 ra, .int .i64 rn, .int .i64 n, .int .i64 u] 99) := ⟨_, rfl⟩
  have hb0 : Below w.heap.size w W := by rw [hW]; exact (Below.refl _ _).alloc (Nat.le_refl _) _
  have hal : a < w.heap.size := by obtain ⟨_, _, _, h3, _⟩ := h; exact h3
  have hz : W.heap.size = w.heap.size + 1 := by rw [hW]; simp
  have c5 := (h.below hb0).cells.2.2.2
  have x0 : W.cell? ⟨w.heap.size, 0, none⟩ = some (.int .i64 5) := by rw [hW]; simp
  have x1 : W.cell? ⟨w.heap.size, 1, none⟩ = some (.int .i64 la) := by rw [hW]; simp
  have x2 : W.cell? ⟨w.heap.size, 2, none⟩ = some (.int .i64 ln) := by rw [hW]; simp
  have x3 : W.cell? ⟨w.heap.size, 3, none⟩ = some (.int .i64 ra) := by rw [hW]; simp
  have x4 : W.cell? ⟨w.heap.size, 4, none⟩ = some (.int .i64 rn) := by rw [hW]; simp
  have KB := hide (fun (w' : World) (hb : Below W.heap.size W w') => (⟨(hb.cell (p := ⟨a, 5, none⟩) (by show a < _; omega)).trans c5, (hb.cell (p := ⟨w.heap.size, 0, none⟩) (by show w.heap.size < _; omega)).trans x0, (hb.cell (p := ⟨w.heap.size, 1, none⟩) (by show w.heap.size < _; omega)).trans x1, (hb.cell (p := ⟨w.heap.size, 2, none⟩) (by show w.heap.size < _; omega)).trans x2, (hb.cell (p := ⟨w.heap.size, 3, none⟩) (by show w.heap.size < _; omega)).trans x3, (hb.cell (p := ⟨w.heap.size, 4, none⟩) (by show w.heap.size < _; omega)).trans x4⟩ :
    w'.cell? ⟨a, 5, none⟩ = some (.func (.func k) #[] caps) ∧ w'.cell? ⟨w.heap.size, 0, none⟩ = some (.int .i64 5) ∧ w'.cell? ⟨w.heap.size, 1, none⟩ = some (.int .i64 la) ∧ w'.cell? ⟨w.heap.size, 2, none⟩ = some (.int .i64 ln) ∧ w'.cell? ⟨w.heap.size, 3, none⟩ = some (.int .i64 ra) ∧ w'.cell? ⟨w.heap.size, 4, none⟩ = some (.int .i64 rn)))
  have H := hide h
  have HW := hide hW
  have HB := hide hb0
  clear h hb0 hW
  go_enter Try.func85, Try.ntmps85
  go_wp2_with fail
  rw [← HW.out]
  have hS0 := KB.out W.drew ((Below.refl _ _).drew)
  refine wp_region_held (S := fun w' => w'.cell? ⟨a, 5, none⟩ = some (.func (.func k) #[] caps) ∧ w'.cell? ⟨w.heap.size, 0, none⟩ = some (.int .i64 5) ∧ w'.cell? ⟨w.heap.size, 1, none⟩ = some (.int .i64 la) ∧ w'.cell? ⟨w.heap.size, 2, none⟩ = some (.int .i64 ln) ∧ w'.cell? ⟨w.heap.size, 3, none⟩ = some (.int .i64 ra) ∧ w'.cell? ⟨w.heap.size, 4, none⟩ = some (.int .i64 rn)) (by kernel_rfl) ?_
  refine wpAnyH_take (i := 0) (v := .pointer (some ⟨a, 0, none⟩)) rfl (by kernel_rfl) (by kernel_rfl) (by kernel_rfl) (fun _ _ _ h => h) (Or.inl ⟨by rfl, ?_⟩) hS0 ?_
  · intro w hSw; obtain ⟨q0, q1, q2, q3, q4, q5⟩ := hSw; go_simp
  refine wpAnyH_take (i := 1) (v := .pointer (some ⟨w.heap.size, 0, none⟩)) rfl (by kernel_rfl) (by kernel_rfl) (by kernel_rfl) (fun _ _ _ h => h) (Or.inl ⟨by rfl, ?_⟩) hS0 ?_
  · intro w hSw; obtain ⟨q0, q1, q2, q3, q4, q5⟩ := hSw; go_simp
  refine wpAnyH_take (i := 2) (v := .int .i64 5) rfl (by kernel_rfl) (by kernel_rfl) (by kernel_rfl) (fun _ _ _ h => h) (Or.inl ⟨by rfl, ?_⟩) hS0 ?_
  · intro w hSw; obtain ⟨q0, q1, q2, q3, q4, q5⟩ := hSw; go_simp
  refine wpAnyH_take (i := 3) (v := .pointer (some ⟨a, 0, none⟩)) rfl (by kernel_rfl) (by kernel_rfl) (by kernel_rfl) (fun _ _ _ h => h) (Or.inl ⟨by rfl, ?_⟩) hS0 ?_
  · intro w hSw; obtain ⟨q0, q1, q2, q3, q4, q5⟩ := hSw; go_simp
  refine wpAnyH_take (i := 4) (v := .pointer (some ⟨a, 0, none⟩)) rfl (by kernel_rfl) (by kernel_rfl) (by kernel_rfl) (fun _ _ _ h => h) (Or.inl ⟨by rfl, ?_⟩) hS0 ?_
  · intro w hSw; obtain ⟨q0, q1, q2, q3, q4, q5⟩ := hSw; go_simp
  refine wpAnyH_take (i := 5) (v := .pointer (some ⟨a, 5, none⟩)) rfl (by kernel_rfl) (by kernel_rfl) (by kernel_rfl) (fun _ _ _ h => h) (Or.inl ⟨by rfl, ?_⟩) hS0 ?_
  · intro w hSw; obtain ⟨q0, q1, q2, q3, q4, q5⟩ := hSw; go_simp
  refine wpAnyH_take (i := 6) (v := .func (.func k) #[] caps) rfl (by kernel_rfl) (by kernel_rfl) (by kernel_rfl) (fun _ _ _ h => h) (Or.inl ⟨by rfl, ?_⟩) hS0 ?_
  · intro w hSw; obtain ⟨q0, q1, q2, q3, q4, q5⟩ := hSw; go_simp
  refine wpAnyH_take (i := 7) (v := .pointer (some ⟨w.heap.size, 1, none⟩)) rfl (by kernel_rfl) (by kernel_rfl) (by kernel_rfl) (fun _ _ _ h => h) (Or.inl ⟨by rfl, ?_⟩) hS0 ?_
  · intro w hSw; obtain ⟨q0, q1, q2, q3, q4, q5⟩ := hSw; go_simp
  refine wpAnyH_take (i := 8) (v := .agg #[.int .i64 la, .int .i64 ln]) rfl (by kernel_rfl) (by kernel_rfl) (by kernel_rfl) (fun _ _ _ h => h) (Or.inl ⟨by rfl, ?_⟩) hS0 ?_
  · intro w hSw; obtain ⟨q0, q1, q2, q3, q4, q5⟩ := hSw; go_simp
  refine wpAnyH_take (i := 9) (v := .pointer (some ⟨w.heap.size, 3, none⟩)) rfl (by kernel_rfl) (by kernel_rfl) (by kernel_rfl) (fun _ _ _ h => h) (Or.inl ⟨by rfl, ?_⟩) hS0 ?_
  · intro w hSw; obtain ⟨q0, q1, q2, q3, q4, q5⟩ := hSw; go_simp
  refine wpAnyH_take (i := 10) (v := .agg #[.int .i64 ra, .int .i64 rn]) rfl (by kernel_rfl) (by kernel_rfl) (by kernel_rfl) (fun _ _ _ h => h) (Or.inl ⟨by rfl, ?_⟩) hS0 ?_
  · intro w hSw; obtain ⟨q0, q1, q2, q3, q4, q5⟩ := hSw; go_simp
  refine wpAnyH_ready (rs := [11]) (by kernel_rfl) (by simp) ?_
  refine AllReadyH.cons (o := _) rfl (fun K hK => ?_) AllReadyH.nil
  go_simp
  refine (HL.out _ HB.out.drew).mono ?_
  rintro e w1 ⟨rfl, hb1⟩
  have hbW1 : Below W.heap.size W w1 := (Below.refl W.heap.size W).drew.trans hb1
  exact ⟨rfl, rfl, (HB.out.mono (Nat.le_of_lt hal)).trans (hbW1.mono (by omega))⟩
set_option maxRecDepth 100000 in
set_option maxHeartbeats 4000000 in
theorem stepCmp6 (la ln ra rn n u c : Int) (a k : Nat) (caps : Array Value) (vv : Value) (o d : Int) (dv cv : Value) (L : List Bool) (w : World) (h : AskAt w a w.heap.size vv o d dv cv (.func (.func k) #[] caps) L) (hL : L.length ≤ 1000)
    (hcf : ∀ (args : Array Value) (w : World), (callFunc k args).run Try.prog w = .ok (.enter k args) w)
    (HL : Hid (∀ w', Below w.heap.size w w' → Calls Try.prog k (#[.agg #[.int .i64 la, .int .i64 ln], .agg #[.int .i64 ra, .int .i64 rn]] ++ caps) w' fun e w'' => e = .returned (.int .i64 c) ∧ Below w'.heap.size w' w'')) :
    Calls Try.prog 85 #[.pointer (some ⟨a, 0, none⟩), instVal 6 la ln ra rn n u] w (StepPost a vv o d dv cv (.func (.func k) #[] caps) (L ++ [soB 6 c]) w) := by
  obtain ⟨W, hW⟩ : ∃ W, W = w.alloc (.cells #[(.int .i64 6), .int .i64 la, .int .i64 ln, .int .i64 ra, .int .i64 rn, .int .i64 n, .int .i64 u] 99) := ⟨_, rfl⟩
  have hb0 : Below w.heap.size w W := by rw [hW]; exact (Below.refl _ _).alloc (Nat.le_refl _) _
  have hal : a < w.heap.size := by obtain ⟨_, _, _, h3, _⟩ := h; exact h3
  have hz : W.heap.size = w.heap.size + 1 := by rw [hW]; simp
  have c5 := (h.below hb0).cells.2.2.2
  have x0 : W.cell? ⟨w.heap.size, 0, none⟩ = some (.int .i64 6) := by rw [hW]; simp
  have x1 : W.cell? ⟨w.heap.size, 1, none⟩ = some (.int .i64 la) := by rw [hW]; simp
  have x2 : W.cell? ⟨w.heap.size, 2, none⟩ = some (.int .i64 ln) := by rw [hW]; simp
  have x3 : W.cell? ⟨w.heap.size, 3, none⟩ = some (.int .i64 ra) := by rw [hW]; simp
  have x4 : W.cell? ⟨w.heap.size, 4, none⟩ = some (.int .i64 rn) := by rw [hW]; simp
  have KB := hide (fun (w' : World) (hb : Below W.heap.size W w') => (⟨(hb.cell (p := ⟨a, 5, none⟩) (by show a < _; omega)).trans c5, (hb.cell (p := ⟨w.heap.size, 0, none⟩) (by show w.heap.size < _; omega)).trans x0, (hb.cell (p := ⟨w.heap.size, 1, none⟩) (by show w.heap.size < _; omega)).trans x1, (hb.cell (p := ⟨w.heap.size, 2, none⟩) (by show w.heap.size < _; omega)).trans x2, (hb.cell (p := ⟨w.heap.size, 3, none⟩) (by show w.heap.size < _; omega)).trans x3, (hb.cell (p := ⟨w.heap.size, 4, none⟩) (by show w.heap.size < _; omega)).trans x4⟩ :
    w'.cell? ⟨a, 5, none⟩ = some (.func (.func k) #[] caps) ∧ w'.cell? ⟨w.heap.size, 0, none⟩ = some (.int .i64 6) ∧ w'.cell? ⟨w.heap.size, 1, none⟩ = some (.int .i64 la) ∧ w'.cell? ⟨w.heap.size, 2, none⟩ = some (.int .i64 ln) ∧ w'.cell? ⟨w.heap.size, 3, none⟩ = some (.int .i64 ra) ∧ w'.cell? ⟨w.heap.size, 4, none⟩ = some (.int .i64 rn)))
  have KP := hide (fun (w1 w2 : World) (hb : Below W.heap.size W w1) (ha : AskAt w2 a w2.heap.size vv o d dv cv (.func (.func k) #[] caps) (L ++ [soB 6 c])) (hp : Past w.heap.size w1 w2) => by
    obtain ⟨q0, q1, q2, q3, q4, q5⟩ := KB.out w1 hb
    have hs : w.heap.size < w1.heap.size := by have := hb.size; omega
    exact (⟨ha.cells.2.2.2, (hp.cell (Nat.le_refl _) hs).trans q1, (hp.cell (Nat.le_refl _) hs).trans q2, (hp.cell (Nat.le_refl _) hs).trans q3, (hp.cell (Nat.le_refl _) hs).trans q4, (hp.cell (Nat.le_refl _) hs).trans q5⟩ :
      w2.cell? ⟨a, 5, none⟩ = some (.func (.func k) #[] caps) ∧ w2.cell? ⟨w.heap.size, 0, none⟩ = some (.int .i64 6) ∧ w2.cell? ⟨w.heap.size, 1, none⟩ = some (.int .i64 la) ∧ w2.cell? ⟨w.heap.size, 2, none⟩ = some (.int .i64 ln) ∧ w2.cell? ⟨w.heap.size, 3, none⟩ = some (.int .i64 ra) ∧ w2.cell? ⟨w.heap.size, 4, none⟩ = some (.int .i64 rn)))
  have H := hide h
  have HW := hide hW
  have HB := hide hb0
  clear h hb0 hW
  go_enter Try.func85, Try.ntmps85
  go_wp2_with fail
  rw [← HW.out]
  have hS0 := KB.out W.drew ((Below.refl _ _).drew)
  go_region_held3 (fun w' => w'.cell? ⟨a, 5, none⟩ = some (.func (.func k) #[] caps) ∧ w'.cell? ⟨w.heap.size, 0, none⟩ = some (.int .i64 6) ∧ w'.cell? ⟨w.heap.size, 1, none⟩ = some (.int .i64 la) ∧ w'.cell? ⟨w.heap.size, 2, none⟩ = some (.int .i64 ln) ∧ w'.cell? ⟨w.heap.size, 3, none⟩ = some (.int .i64 ra) ∧ w'.cell? ⟨w.heap.size, 4, none⟩ = some (.int .i64 rn)) (assumption)
    (first
      | (go_at_call 92; refine (so_any _ _ _).mono ?_; rintro e w' ⟨rfl, rfl⟩)
      | (go_at_call 91; (with_reducible refine (askPush a w.heap.size vv o d dv cv _ L _ _ (H.out.below hbw1) hL).mono ?_); rintro e w2 ⟨rfl, ha, hbl, hsz, hpast⟩; have K2 := KP.out _ _ hbW1 ha hpast)
      | ((with_reducible refine (HL.out _ HB.out.drew).mono ?_); rintro e w1 ⟨rfl, hb1⟩; have hbW1 : Below W.heap.size W w1 := (Below.refl W.heap.size W).drew.trans hb1; have K1 := KB.out w1 hbW1; have hbw1 : Below w.heap.size w w1 := HB.out.trans (hbW1.mono HB.out.size)))
  all_goals
    go_wp2_with fail
    go_end0
    exact ⟨rfl, ha, (hbw1.mono (Nat.le_of_lt hal)).trans hbl, Nat.le_trans hbw1.size hsz⟩
set_option maxRecDepth 100000 in
set_option maxHeartbeats 4000000 in
theorem stepNo6 (la ln ra rn n u : Int) (a k : Nat) (caps : Array Value) (vv : Value) (o d : Int) (dv cv : Value) (L : List Bool) (w : World) (h : AskAt w a w.heap.size vv o d dv cv (.func (.func k) #[] caps) L) (hL : L.length ≤ 1000)
    (hcf : ∀ (args : Array Value) (w : World), (callFunc k args).run Try.prog w = .ok (.enter k args) w)
    (HL : Hid (∀ w', Below w.heap.size w w' → Calls Try.prog k (#[.agg #[.int .i64 la, .int .i64 ln], .agg #[.int .i64 ra, .int .i64 rn]] ++ caps) w' fun e w'' => e = .panicked lostP ∧ Below w'.heap.size w' w'')) :
    Calls Try.prog 85 #[.pointer (some ⟨a, 0, none⟩), instVal 6 la ln ra rn n u] w fun e w' => e = .panicked lostP ∧ Below a w w' := by
  obtain ⟨W, hW⟩ : ∃ W, W = w.alloc (.cells #[(.int .i64 6), .int .i64 la, .int .i64 ln, .int .i64 ra, .int .i64 rn, .int .i64 n, .int .i64 u] 99) := ⟨_, rfl⟩
  have hb0 : Below w.heap.size w W := by rw [hW]; exact (Below.refl _ _).alloc (Nat.le_refl _) _
  have hal : a < w.heap.size := by obtain ⟨_, _, _, h3, _⟩ := h; exact h3
  have hz : W.heap.size = w.heap.size + 1 := by rw [hW]; simp
  have c5 := (h.below hb0).cells.2.2.2
  have x0 : W.cell? ⟨w.heap.size, 0, none⟩ = some (.int .i64 6) := by rw [hW]; simp
  have x1 : W.cell? ⟨w.heap.size, 1, none⟩ = some (.int .i64 la) := by rw [hW]; simp
  have x2 : W.cell? ⟨w.heap.size, 2, none⟩ = some (.int .i64 ln) := by rw [hW]; simp
  have x3 : W.cell? ⟨w.heap.size, 3, none⟩ = some (.int .i64 ra) := by rw [hW]; simp
  have x4 : W.cell? ⟨w.heap.size, 4, none⟩ = some (.int .i64 rn) := by rw [hW]; simp
  have KB := hide (fun (w' : World) (hb : Below W.heap.size W w') => (⟨(hb.cell (p := ⟨a, 5, none⟩) (by show a < _; omega)).trans c5, (hb.cell (p := ⟨w.heap.size, 0, none⟩) (by show w.heap.size < _; omega)).trans x0, (hb.cell (p := ⟨w.heap.size, 1, none⟩) (by show w.heap.size < _; omega)).trans x1, (hb.cell (p := ⟨w.heap.size, 2, none⟩) (by show w.heap.size < _; omega)).trans x2, (hb.cell (p := ⟨w.heap.size, 3, none⟩) (by show w.heap.size < _; omega)).trans x3, (hb.cell (p := ⟨w.heap.size, 4, none⟩) (by show w.heap.size < _; omega)).trans x4⟩ :
    w'.cell? ⟨a, 5, none⟩ = some (.func (.func k) #[] caps) ∧ w'.cell? ⟨w.heap.size, 0, none⟩ = some (.int .i64 6) ∧ w'.cell? ⟨w.heap.size, 1, none⟩ = some (.int .i64 la) ∧ w'.cell? ⟨w.heap.size, 2, none⟩ = some (.int .i64 ln) ∧ w'.cell? ⟨w.heap.size, 3, none⟩ = some (.int .i64 ra) ∧ w'.cell? ⟨w.heap.size, 4, none⟩ = some (.int .i64 rn)))
  have H := hide h
  have HW := hide hW
  have HB := hide hb0
  clear h hb0 hW
  go_enter Try.func85, Try.ntmps85
  go_wp2_with fail
  rw [← HW.out]
  have hS0 := KB.out W.drew ((Below.refl _ _).drew)
  refine wp_region_held (S := fun w' => w'.cell? ⟨a, 5, none⟩ = some (.func (.func k) #[] caps) ∧ w'.cell? ⟨w.heap.size, 0, none⟩ = some (.int .i64 6) ∧ w'.cell? ⟨w.heap.size, 1, none⟩ = some (.int .i64 la) ∧ w'.cell? ⟨w.heap.size, 2, none⟩ = some (.int .i64 ln) ∧ w'.cell? ⟨w.heap.size, 3, none⟩ = some (.int .i64 ra) ∧ w'.cell? ⟨w.heap.size, 4, none⟩ = some (.int .i64 rn)) (by kernel_rfl) ?_
  refine wpAnyH_take (i := 0) (v := .pointer (some ⟨a, 0, none⟩)) rfl (by kernel_rfl) (by kernel_rfl) (by kernel_rfl) (fun _ _ _ h => h) (Or.inl ⟨by rfl, ?_⟩) hS0 ?_
  · intro w hSw; obtain ⟨q0, q1, q2, q3, q4, q5⟩ := hSw; go_simp
  refine wpAnyH_take (i := 1) (v := .pointer (some ⟨w.heap.size, 0, none⟩)) rfl (by kernel_rfl) (by kernel_rfl) (by kernel_rfl) (fun _ _ _ h => h) (Or.inl ⟨by rfl, ?_⟩) hS0 ?_
  · intro w hSw; obtain ⟨q0, q1, q2, q3, q4, q5⟩ := hSw; go_simp
  refine wpAnyH_take (i := 2) (v := .int .i64 6) rfl (by kernel_rfl) (by kernel_rfl) (by kernel_rfl) (fun _ _ _ h => h) (Or.inl ⟨by rfl, ?_⟩) hS0 ?_
  · intro w hSw; obtain ⟨q0, q1, q2, q3, q4, q5⟩ := hSw; go_simp
  refine wpAnyH_take (i := 3) (v := .pointer (some ⟨a, 0, none⟩)) rfl (by kernel_rfl) (by kernel_rfl) (by kernel_rfl) (fun _ _ _ h => h) (Or.inl ⟨by rfl, ?_⟩) hS0 ?_
  · intro w hSw; obtain ⟨q0, q1, q2, q3, q4, q5⟩ := hSw; go_simp
  refine wpAnyH_take (i := 4) (v := .pointer (some ⟨a, 0, none⟩)) rfl (by kernel_rfl) (by kernel_rfl) (by kernel_rfl) (fun _ _ _ h => h) (Or.inl ⟨by rfl, ?_⟩) hS0 ?_
  · intro w hSw; obtain ⟨q0, q1, q2, q3, q4, q5⟩ := hSw; go_simp
  refine wpAnyH_take (i := 5) (v := .pointer (some ⟨a, 5, none⟩)) rfl (by kernel_rfl) (by kernel_rfl) (by kernel_rfl) (fun _ _ _ h => h) (Or.inl ⟨by rfl, ?_⟩) hS0 ?_
  · intro w hSw; obtain ⟨q0, q1, q2, q3, q4, q5⟩ := hSw; go_simp
  refine wpAnyH_take (i := 6) (v := .func (.func k) #[] caps) rfl (by kernel_rfl) (by kernel_rfl) (by kernel_rfl) (fun _ _ _ h => h) (Or.inl ⟨by rfl, ?_⟩) hS0 ?_
  · intro w hSw; obtain ⟨q0, q1, q2, q3, q4, q5⟩ := hSw; go_simp
  refine wpAnyH_take (i := 7) (v := .pointer (some ⟨w.heap.size, 1, none⟩)) rfl (by kernel_rfl) (by kernel_rfl) (by kernel_rfl) (fun _ _ _ h => h) (Or.inl ⟨by rfl, ?_⟩) hS0 ?_
  · intro w hSw; obtain ⟨q0, q1, q2, q3, q4, q5⟩ := hSw; go_simp
  refine wpAnyH_take (i := 8) (v := .agg #[.int .i64 la, .int .i64 ln]) rfl (by kernel_rfl) (by kernel_rfl) (by kernel_rfl) (fun _ _ _ h => h) (Or.inl ⟨by rfl, ?_⟩) hS0 ?_
  · intro w hSw; obtain ⟨q0, q1, q2, q3, q4, q5⟩ := hSw; go_simp
  refine wpAnyH_take (i := 9) (v := .pointer (some ⟨w.heap.size, 3, none⟩)) rfl (by kernel_rfl) (by kernel_rfl) (by kernel_rfl) (fun _ _ _ h => h) (Or.inl ⟨by rfl, ?_⟩) hS0 ?_
  · intro w hSw; obtain ⟨q0, q1, q2, q3, q4, q5⟩ := hSw; go_simp
  refine wpAnyH_take (i := 10) (v := .agg #[.int .i64 ra, .int .i64 rn]) rfl (by kernel_rfl) (by kernel_rfl) (by kernel_rfl) (fun _ _ _ h => h) (Or.inl ⟨by rfl, ?_⟩) hS0 ?_
  · intro w hSw; obtain ⟨q0, q1, q2, q3, q4, q5⟩ := hSw; go_simp
  refine wpAnyH_ready (rs := [11]) (by kernel_rfl) (by simp) ?_
  refine AllReadyH.cons (o := _) rfl (fun K hK => ?_) AllReadyH.nil
  go_simp
  refine (HL.out _ HB.out.drew).mono ?_
  rintro e w1 ⟨rfl, hb1⟩
  have hbW1 : Below W.heap.size W w1 := (Below.refl W.heap.size W).drew.trans hb1
  exact ⟨rfl, rfl, (HB.out.mono (Nat.le_of_lt hal)).trans (hbW1.mono (by omega))⟩
set_option maxRecDepth 100000 in
set_option maxHeartbeats 4000000 in
theorem stepCmp7 (la ln ra rn n u c : Int) (a k : Nat) (caps : Array Value) (vv : Value) (o d : Int) (dv cv : Value) (L : List Bool) (w : World) (h : AskAt w a w.heap.size vv o d dv cv (.func (.func k) #[] caps) L) (hL : L.length ≤ 1000)
    (hcf : ∀ (args : Array Value) (w : World), (callFunc k args).run Try.prog w = .ok (.enter k args) w)
    (HL : Hid (∀ w', Below w.heap.size w w' → Calls Try.prog k (#[.agg #[.int .i64 la, .int .i64 ln], .agg #[.int .i64 ra, .int .i64 rn]] ++ caps) w' fun e w'' => e = .returned (.int .i64 c) ∧ Below w'.heap.size w' w'')) :
    Calls Try.prog 85 #[.pointer (some ⟨a, 0, none⟩), instVal 7 la ln ra rn n u] w (StepPost a vv o d dv cv (.func (.func k) #[] caps) (L ++ [soB 7 c]) w) := by
  obtain ⟨W, hW⟩ : ∃ W, W = w.alloc (.cells #[(.int .i64 7), .int .i64 la, .int .i64 ln, .int .i64 ra, .int .i64 rn, .int .i64 n, .int .i64 u] 99) := ⟨_, rfl⟩
  have hb0 : Below w.heap.size w W := by rw [hW]; exact (Below.refl _ _).alloc (Nat.le_refl _) _
  have hal : a < w.heap.size := by obtain ⟨_, _, _, h3, _⟩ := h; exact h3
  have hz : W.heap.size = w.heap.size + 1 := by rw [hW]; simp
  have c5 := (h.below hb0).cells.2.2.2
  have x0 : W.cell? ⟨w.heap.size, 0, none⟩ = some (.int .i64 7) := by rw [hW]; simp
  have x1 : W.cell? ⟨w.heap.size, 1, none⟩ = some (.int .i64 la) := by rw [hW]; simp
  have x2 : W.cell? ⟨w.heap.size, 2, none⟩ = some (.int .i64 ln) := by rw [hW]; simp
  have x3 : W.cell? ⟨w.heap.size, 3, none⟩ = some (.int .i64 ra) := by rw [hW]; simp
  have x4 : W.cell? ⟨w.heap.size, 4, none⟩ = some (.int .i64 rn) := by rw [hW]; simp
  have KB := hide (fun (w' : World) (hb : Below W.heap.size W w') => (⟨(hb.cell (p := ⟨a, 5, none⟩) (by show a < _; omega)).trans c5, (hb.cell (p := ⟨w.heap.size, 0, none⟩) (by show w.heap.size < _; omega)).trans x0, (hb.cell (p := ⟨w.heap.size, 1, none⟩) (by show w.heap.size < _; omega)).trans x1, (hb.cell (p := ⟨w.heap.size, 2, none⟩) (by show w.heap.size < _; omega)).trans x2, (hb.cell (p := ⟨w.heap.size, 3, none⟩) (by show w.heap.size < _; omega)).trans x3, (hb.cell (p := ⟨w.heap.size, 4, none⟩) (by show w.heap.size < _; omega)).trans x4⟩ :
    w'.cell? ⟨a, 5, none⟩ = some (.func (.func k) #[] caps) ∧ w'.cell? ⟨w.heap.size, 0, none⟩ = some (.int .i64 7) ∧ w'.cell? ⟨w.heap.size, 1, none⟩ = some (.int .i64 la) ∧ w'.cell? ⟨w.heap.size, 2, none⟩ = some (.int .i64 ln) ∧ w'.cell? ⟨w.heap.size, 3, none⟩ = some (.int .i64 ra) ∧ w'.cell? ⟨w.heap.size, 4, none⟩ = some (.int .i64 rn)))
  have KP := hide (fun (w1 w2 : World) (hb : Below W.heap.size W w1) (ha : AskAt w2 a w2.heap.size vv o d dv cv (.func (.func k) #[] caps) (L ++ [soB 7 c])) (hp : Past w.heap.size w1 w2) => by
    obtain ⟨q0, q1, q2, q3, q4, q5⟩ := KB.out w1 hb
    have hs : w.heap.size < w1.heap.size := by have := hb.size; omega
    exact (⟨ha.cells.2.2.2, (hp.cell (Nat.le_refl _) hs).trans q1, (hp.cell (Nat.le_refl _) hs).trans q2, (hp.cell (Nat.le_refl _) hs).trans q3, (hp.cell (Nat.le_refl _) hs).trans q4, (hp.cell (Nat.le_refl _) hs).trans q5⟩ :
      w2.cell? ⟨a, 5, none⟩ = some (.func (.func k) #[] caps) ∧ w2.cell? ⟨w.heap.size, 0, none⟩ = some (.int .i64 7) ∧ w2.cell? ⟨w.heap.size, 1, none⟩ = some (.int .i64 la) ∧ w2.cell? ⟨w.heap.size, 2, none⟩ = some (.int .i64 ln) ∧ w2.cell? ⟨w.heap.size, 3, none⟩ = some (.int .i64 ra) ∧ w2.cell? ⟨w.heap.size, 4, none⟩ = some (.int .i64 rn)))
  have H := hide h
  have HW := hide hW
  have HB := hide hb0
  clear h hb0 hW
  go_enter Try.func85, Try.ntmps85
  go_wp2_with fail
  rw [← HW.out]
  have hS0 := KB.out W.drew ((Below.refl _ _).drew)
  go_region_held3 (fun w' => w'.cell? ⟨a, 5, none⟩ = some (.func (.func k) #[] caps) ∧ w'.cell? ⟨w.heap.size, 0, none⟩ = some (.int .i64 7) ∧ w'.cell? ⟨w.heap.size, 1, none⟩ = some (.int .i64 la) ∧ w'.cell? ⟨w.heap.size, 2, none⟩ = some (.int .i64 ln) ∧ w'.cell? ⟨w.heap.size, 3, none⟩ = some (.int .i64 ra) ∧ w'.cell? ⟨w.heap.size, 4, none⟩ = some (.int .i64 rn)) (assumption)
    (first
      | (go_at_call 92; refine (so_any _ _ _).mono ?_; rintro e w' ⟨rfl, rfl⟩)
      | (go_at_call 91; (with_reducible refine (askPush a w.heap.size vv o d dv cv _ L _ _ (H.out.below hbw1) hL).mono ?_); rintro e w2 ⟨rfl, ha, hbl, hsz, hpast⟩; have K2 := KP.out _ _ hbW1 ha hpast)
      | ((with_reducible refine (HL.out _ HB.out.drew).mono ?_); rintro e w1 ⟨rfl, hb1⟩; have hbW1 : Below W.heap.size W w1 := (Below.refl W.heap.size W).drew.trans hb1; have K1 := KB.out w1 hbW1; have hbw1 : Below w.heap.size w w1 := HB.out.trans (hbW1.mono HB.out.size)))
  all_goals
    go_wp2_with fail
    go_end0
    exact ⟨rfl, ha, (hbw1.mono (Nat.le_of_lt hal)).trans hbl, Nat.le_trans hbw1.size hsz⟩
set_option maxRecDepth 100000 in
set_option maxHeartbeats 4000000 in
theorem stepNo7 (la ln ra rn n u : Int) (a k : Nat) (caps : Array Value) (vv : Value) (o d : Int) (dv cv : Value) (L : List Bool) (w : World) (h : AskAt w a w.heap.size vv o d dv cv (.func (.func k) #[] caps) L) (hL : L.length ≤ 1000)
    (hcf : ∀ (args : Array Value) (w : World), (callFunc k args).run Try.prog w = .ok (.enter k args) w)
    (HL : Hid (∀ w', Below w.heap.size w w' → Calls Try.prog k (#[.agg #[.int .i64 la, .int .i64 ln], .agg #[.int .i64 ra, .int .i64 rn]] ++ caps) w' fun e w'' => e = .panicked lostP ∧ Below w'.heap.size w' w'')) :
    Calls Try.prog 85 #[.pointer (some ⟨a, 0, none⟩), instVal 7 la ln ra rn n u] w fun e w' => e = .panicked lostP ∧ Below a w w' := by
  obtain ⟨W, hW⟩ : ∃ W, W = w.alloc (.cells #[(.int .i64 7), .int .i64 la, .int .i64 ln, .int .i64 ra, .int .i64 rn, .int .i64 n, .int .i64 u] 99) := ⟨_, rfl⟩
  have hb0 : Below w.heap.size w W := by rw [hW]; exact (Below.refl _ _).alloc (Nat.le_refl _) _
  have hal : a < w.heap.size := by obtain ⟨_, _, _, h3, _⟩ := h; exact h3
  have hz : W.heap.size = w.heap.size + 1 := by rw [hW]; simp
  have c5 := (h.below hb0).cells.2.2.2
  have x0 : W.cell? ⟨w.heap.size, 0, none⟩ = some (.int .i64 7) := by rw [hW]; simp
  have x1 : W.cell? ⟨w.heap.size, 1, none⟩ = some (.int .i64 la) := by rw [hW]; simp
  have x2 : W.cell? ⟨w.heap.size, 2, none⟩ = some (.int .i64 ln) := by rw [hW]; simp
  have x3 : W.cell? ⟨w.heap.size, 3, none⟩ = some (.int .i64 ra) := by rw [hW]; simp
  have x4 : W.cell? ⟨w.heap.size, 4, none⟩ = some (.int .i64 rn) := by rw [hW]; simp
  have KB := hide (fun (w' : World) (hb : Below W.heap.size W w') => (⟨(hb.cell (p := ⟨a, 5, none⟩) (by show a < _; omega)).trans c5, (hb.cell (p := ⟨w.heap.size, 0, none⟩) (by show w.heap.size < _; omega)).trans x0, (hb.cell (p := ⟨w.heap.size, 1, none⟩) (by show w.heap.size < _; omega)).trans x1, (hb.cell (p := ⟨w.heap.size, 2, none⟩) (by show w.heap.size < _; omega)).trans x2, (hb.cell (p := ⟨w.heap.size, 3, none⟩) (by show w.heap.size < _; omega)).trans x3, (hb.cell (p := ⟨w.heap.size, 4, none⟩) (by show w.heap.size < _; omega)).trans x4⟩ :
    w'.cell? ⟨a, 5, none⟩ = some (.func (.func k) #[] caps) ∧ w'.cell? ⟨w.heap.size, 0, none⟩ = some (.int .i64 7) ∧ w'.cell? ⟨w.heap.size, 1, none⟩ = some (.int .i64 la) ∧ w'.cell? ⟨w.heap.size, 2, none⟩ = some (.int .i64 ln) ∧ w'.cell? ⟨w.heap.size, 3, none⟩ = some (.int .i64 ra) ∧ w'.cell? ⟨w.heap.size, 4, none⟩ = some (.int .i64 rn)))
  have H := hide h
  have HW := hide hW
  have HB := hide hb0
  clear h hb0 hW
  go_enter Try.func85, Try.ntmps85
  go_wp2_with fail
  rw [← HW.out]
  have hS0 := KB.out W.drew ((Below.refl _ _).drew)
  refine wp_region_held (S := fun w' => w'.cell? ⟨a, 5, none⟩ = some (.func (.func k) #[] caps) ∧ w'.cell? ⟨w.heap.size, 0, none⟩ = some (.int .i64 7) ∧ w'.cell? ⟨w.heap.size, 1, none⟩ = some (.int .i64 la) ∧ w'.cell? ⟨w.heap.size, 2, none⟩ = some (.int .i64 ln) ∧ w'.cell? ⟨w.heap.size, 3, none⟩ = some (.int .i64 ra) ∧ w'.cell? ⟨w.heap.size, 4, none⟩ = some (.int .i64 rn)) (by kernel_rfl) ?_
  refine wpAnyH_take (i := 0) (v := .pointer (some ⟨a, 0, none⟩)) rfl (by kernel_rfl) (by kernel_rfl) (by kernel_rfl) (fun _ _ _ h => h) (Or.inl ⟨by rfl, ?_⟩) hS0 ?_
  · intro w hSw; obtain ⟨q0, q1, q2, q3, q4, q5⟩ := hSw; go_simp
  refine wpAnyH_take (i := 1) (v := .pointer (some ⟨w.heap.size, 0, none⟩)) rfl (by kernel_rfl) (by kernel_rfl) (by kernel_rfl) (fun _ _ _ h => h) (Or.inl ⟨by rfl, ?_⟩) hS0 ?_
  · intro w hSw; obtain ⟨q0, q1, q2, q3, q4, q5⟩ := hSw; go_simp
  refine wpAnyH_take (i := 2) (v := .int .i64 7) rfl (by kernel_rfl) (by kernel_rfl) (by kernel_rfl) (fun _ _ _ h => h) (Or.inl ⟨by rfl, ?_⟩) hS0 ?_
  · intro w hSw; obtain ⟨q0, q1, q2, q3, q4, q5⟩ := hSw; go_simp
  refine wpAnyH_take (i := 3) (v := .pointer (some ⟨a, 0, none⟩)) rfl (by kernel_rfl) (by kernel_rfl) (by kernel_rfl) (fun _ _ _ h => h) (Or.inl ⟨by rfl, ?_⟩) hS0 ?_
  · intro w hSw; obtain ⟨q0, q1, q2, q3, q4, q5⟩ := hSw; go_simp
  refine wpAnyH_take (i := 4) (v := .pointer (some ⟨a, 0, none⟩)) rfl (by kernel_rfl) (by kernel_rfl) (by kernel_rfl) (fun _ _ _ h => h) (Or.inl ⟨by rfl, ?_⟩) hS0 ?_
  · intro w hSw; obtain ⟨q0, q1, q2, q3, q4, q5⟩ := hSw; go_simp
  refine wpAnyH_take (i := 5) (v := .pointer (some ⟨a, 5, none⟩)) rfl (by kernel_rfl) (by kernel_rfl) (by kernel_rfl) (fun _ _ _ h => h) (Or.inl ⟨by rfl, ?_⟩) hS0 ?_
  · intro w hSw; obtain ⟨q0, q1, q2, q3, q4, q5⟩ := hSw; go_simp
  refine wpAnyH_take (i := 6) (v := .func (.func k) #[] caps) rfl (by kernel_rfl) (by kernel_rfl) (by kernel_rfl) (fun _ _ _ h => h) (Or.inl ⟨by rfl, ?_⟩) hS0 ?_
  · intro w hSw; obtain ⟨q0, q1, q2, q3, q4, q5⟩ := hSw; go_simp
  refine wpAnyH_take (i := 7) (v := .pointer (some ⟨w.heap.size, 1, none⟩)) rfl (by kernel_rfl) (by kernel_rfl) (by kernel_rfl) (fun _ _ _ h => h) (Or.inl ⟨by rfl, ?_⟩) hS0 ?_
  · intro w hSw; obtain ⟨q0, q1, q2, q3, q4, q5⟩ := hSw; go_simp
  refine wpAnyH_take (i := 8) (v := .agg #[.int .i64 la, .int .i64 ln]) rfl (by kernel_rfl) (by kernel_rfl) (by kernel_rfl) (fun _ _ _ h => h) (Or.inl ⟨by rfl, ?_⟩) hS0 ?_
  · intro w hSw; obtain ⟨q0, q1, q2, q3, q4, q5⟩ := hSw; go_simp
  refine wpAnyH_take (i := 9) (v := .pointer (some ⟨w.heap.size, 3, none⟩)) rfl (by kernel_rfl) (by kernel_rfl) (by kernel_rfl) (fun _ _ _ h => h) (Or.inl ⟨by rfl, ?_⟩) hS0 ?_
  · intro w hSw; obtain ⟨q0, q1, q2, q3, q4, q5⟩ := hSw; go_simp
  refine wpAnyH_take (i := 10) (v := .agg #[.int .i64 ra, .int .i64 rn]) rfl (by kernel_rfl) (by kernel_rfl) (by kernel_rfl) (fun _ _ _ h => h) (Or.inl ⟨by rfl, ?_⟩) hS0 ?_
  · intro w hSw; obtain ⟨q0, q1, q2, q3, q4, q5⟩ := hSw; go_simp
  refine wpAnyH_ready (rs := [11]) (by kernel_rfl) (by simp) ?_
  refine AllReadyH.cons (o := _) rfl (fun K hK => ?_) AllReadyH.nil
  go_simp
  refine (HL.out _ HB.out.drew).mono ?_
  rintro e w1 ⟨rfl, hb1⟩
  have hbW1 : Below W.heap.size W w1 := (Below.refl W.heap.size W).drew.trans hb1
  exact ⟨rfl, rfl, (HB.out.mono (Nat.le_of_lt hal)).trans (hbW1.mono (by omega))⟩
set_option maxRecDepth 100000 in
set_option maxHeartbeats 4000000 in
theorem stepCmp8 (la ln ra rn n u c : Int) (a k : Nat) (caps : Array Value) (vv : Value) (o d : Int) (dv cv : Value) (L : List Bool) (w : World) (h : AskAt w a w.heap.size vv o d dv cv (.func (.func k) #[] caps) L) (hL : L.length ≤ 1000)
    (hcf : ∀ (args : Array Value) (w : World), (callFunc k args).run Try.prog w = .ok (.enter k args) w)
    (HL : Hid (∀ w', Below w.heap.size w w' → Calls Try.prog k (#[.agg #[.int .i64 la, .int .i64 ln], .agg #[.int .i64 ra, .int .i64 rn]] ++ caps) w' fun e w'' => e = .returned (.int .i64 c) ∧ Below w'.heap.size w' w'')) :
    Calls Try.prog 85 #[.pointer (some ⟨a, 0, none⟩), instVal 8 la ln ra rn n u] w (StepPost a vv o d dv cv (.func (.func k) #[] caps) (L ++ [soB 8 c]) w) := by
  obtain ⟨W, hW⟩ : ∃ W, W = w.alloc (.cells #[(.int .i64 8), .int .i64 la, .int .i64 ln, .int .i64 ra, .int .i64 rn, .int .i64 n, .int .i64 u] 99) := ⟨_, rfl⟩
  have hb0 : Below w.heap.size w W := by rw [hW]; exact (Below.refl _ _).alloc (Nat.le_refl _) _
  have hal : a < w.heap.size := by obtain ⟨_, _, _, h3, _⟩ := h; exact h3
  have hz : W.heap.size = w.heap.size + 1 := by rw [hW]; simp
  have c5 := (h.below hb0).cells.2.2.2
  have x0 : W.cell? ⟨w.heap.size, 0, none⟩ = some (.int .i64 8) := by rw [hW]; simp
  have x1 : W.cell? ⟨w.heap.size, 1, none⟩ = some (.int .i64 la) := by rw [hW]; simp
  have x2 : W.cell? ⟨w.heap.size, 2, none⟩ = some (.int .i64 ln) := by rw [hW]; simp
  have x3 : W.cell? ⟨w.heap.size, 3, none⟩ = some (.int .i64 ra) := by rw [hW]; simp
  have x4 : W.cell? ⟨w.heap.size, 4, none⟩ = some (.int .i64 rn) := by rw [hW]; simp
  have KB := hide (fun (w' : World) (hb : Below W.heap.size W w') => (⟨(hb.cell (p := ⟨a, 5, none⟩) (by show a < _; omega)).trans c5, (hb.cell (p := ⟨w.heap.size, 0, none⟩) (by show w.heap.size < _; omega)).trans x0, (hb.cell (p := ⟨w.heap.size, 1, none⟩) (by show w.heap.size < _; omega)).trans x1, (hb.cell (p := ⟨w.heap.size, 2, none⟩) (by show w.heap.size < _; omega)).trans x2, (hb.cell (p := ⟨w.heap.size, 3, none⟩) (by show w.heap.size < _; omega)).trans x3, (hb.cell (p := ⟨w.heap.size, 4, none⟩) (by show w.heap.size < _; omega)).trans x4⟩ :
    w'.cell? ⟨a, 5, none⟩ = some (.func (.func k) #[] caps) ∧ w'.cell? ⟨w.heap.size, 0, none⟩ = some (.int .i64 8) ∧ w'.cell? ⟨w.heap.size, 1, none⟩ = some (.int .i64 la) ∧ w'.cell? ⟨w.heap.size, 2, none⟩ = some (.int .i64 ln) ∧ w'.cell? ⟨w.heap.size, 3, none⟩ = some (.int .i64 ra) ∧ w'.cell? ⟨w.heap.size, 4, none⟩ = some (.int .i64 rn)))
  have KP := hide (fun (w1 w2 : World) (hb : Below W.heap.size W w1) (ha : AskAt w2 a w2.heap.size vv o d dv cv (.func (.func k) #[] caps) (L ++ [soB 8 c])) (hp : Past w.heap.size w1 w2) => by
    obtain ⟨q0, q1, q2, q3, q4, q5⟩ := KB.out w1 hb
    have hs : w.heap.size < w1.heap.size := by have := hb.size; omega
    exact (⟨ha.cells.2.2.2, (hp.cell (Nat.le_refl _) hs).trans q1, (hp.cell (Nat.le_refl _) hs).trans q2, (hp.cell (Nat.le_refl _) hs).trans q3, (hp.cell (Nat.le_refl _) hs).trans q4, (hp.cell (Nat.le_refl _) hs).trans q5⟩ :
      w2.cell? ⟨a, 5, none⟩ = some (.func (.func k) #[] caps) ∧ w2.cell? ⟨w.heap.size, 0, none⟩ = some (.int .i64 8) ∧ w2.cell? ⟨w.heap.size, 1, none⟩ = some (.int .i64 la) ∧ w2.cell? ⟨w.heap.size, 2, none⟩ = some (.int .i64 ln) ∧ w2.cell? ⟨w.heap.size, 3, none⟩ = some (.int .i64 ra) ∧ w2.cell? ⟨w.heap.size, 4, none⟩ = some (.int .i64 rn)))
  have H := hide h
  have HW := hide hW
  have HB := hide hb0
  clear h hb0 hW
  go_enter Try.func85, Try.ntmps85
  go_wp2_with fail
  rw [← HW.out]
  have hS0 := KB.out W.drew ((Below.refl _ _).drew)
  go_region_held3 (fun w' => w'.cell? ⟨a, 5, none⟩ = some (.func (.func k) #[] caps) ∧ w'.cell? ⟨w.heap.size, 0, none⟩ = some (.int .i64 8) ∧ w'.cell? ⟨w.heap.size, 1, none⟩ = some (.int .i64 la) ∧ w'.cell? ⟨w.heap.size, 2, none⟩ = some (.int .i64 ln) ∧ w'.cell? ⟨w.heap.size, 3, none⟩ = some (.int .i64 ra) ∧ w'.cell? ⟨w.heap.size, 4, none⟩ = some (.int .i64 rn)) (assumption)
    (first
      | (go_at_call 92; refine (so_any _ _ _).mono ?_; rintro e w' ⟨rfl, rfl⟩)
      | (go_at_call 91; (with_reducible refine (askPush a w.heap.size vv o d dv cv _ L _ _ (H.out.below hbw1) hL).mono ?_); rintro e w2 ⟨rfl, ha, hbl, hsz, hpast⟩; have K2 := KP.out _ _ hbW1 ha hpast)
      | ((with_reducible refine (HL.out _ HB.out.drew).mono ?_); rintro e w1 ⟨rfl, hb1⟩; have hbW1 : Below W.heap.size W w1 := (Below.refl W.heap.size W).drew.trans hb1; have K1 := KB.out w1 hbW1; have hbw1 : Below w.heap.size w w1 := HB.out.trans (hbW1.mono HB.out.size)))
  all_goals
    go_wp2_with fail
    go_end0
    exact ⟨rfl, ha, (hbw1.mono (Nat.le_of_lt hal)).trans hbl, Nat.le_trans hbw1.size hsz⟩
set_option maxRecDepth 100000 in
set_option maxHeartbeats 4000000 in
theorem stepNo8 (la ln ra rn n u : Int) (a k : Nat) (caps : Array Value) (vv : Value) (o d : Int) (dv cv : Value) (L : List Bool) (w : World) (h : AskAt w a w.heap.size vv o d dv cv (.func (.func k) #[] caps) L) (hL : L.length ≤ 1000)
    (hcf : ∀ (args : Array Value) (w : World), (callFunc k args).run Try.prog w = .ok (.enter k args) w)
    (HL : Hid (∀ w', Below w.heap.size w w' → Calls Try.prog k (#[.agg #[.int .i64 la, .int .i64 ln], .agg #[.int .i64 ra, .int .i64 rn]] ++ caps) w' fun e w'' => e = .panicked lostP ∧ Below w'.heap.size w' w'')) :
    Calls Try.prog 85 #[.pointer (some ⟨a, 0, none⟩), instVal 8 la ln ra rn n u] w fun e w' => e = .panicked lostP ∧ Below a w w' := by
  obtain ⟨W, hW⟩ : ∃ W, W = w.alloc (.cells #[(.int .i64 8), .int .i64 la, .int .i64 ln, .int .i64 ra, .int .i64 rn, .int .i64 n, .int .i64 u] 99) := ⟨_, rfl⟩
  have hb0 : Below w.heap.size w W := by rw [hW]; exact (Below.refl _ _).alloc (Nat.le_refl _) _
  have hal : a < w.heap.size := by obtain ⟨_, _, _, h3, _⟩ := h; exact h3
  have hz : W.heap.size = w.heap.size + 1 := by rw [hW]; simp
  have c5 := (h.below hb0).cells.2.2.2
  have x0 : W.cell? ⟨w.heap.size, 0, none⟩ = some (.int .i64 8) := by rw [hW]; simp
  have x1 : W.cell? ⟨w.heap.size, 1, none⟩ = some (.int .i64 la) := by rw [hW]; simp
  have x2 : W.cell? ⟨w.heap.size, 2, none⟩ = some (.int .i64 ln) := by rw [hW]; simp
  have x3 : W.cell? ⟨w.heap.size, 3, none⟩ = some (.int .i64 ra) := by rw [hW]; simp
  have x4 : W.cell? ⟨w.heap.size, 4, none⟩ = some (.int .i64 rn) := by rw [hW]; simp
  have KB := hide (fun (w' : World) (hb : Below W.heap.size W w') => (⟨(hb.cell (p := ⟨a, 5, none⟩) (by show a < _; omega)).trans c5, (hb.cell (p := ⟨w.heap.size, 0, none⟩) (by show w.heap.size < _; omega)).trans x0, (hb.cell (p := ⟨w.heap.size, 1, none⟩) (by show w.heap.size < _; omega)).trans x1, (hb.cell (p := ⟨w.heap.size, 2, none⟩) (by show w.heap.size < _; omega)).trans x2, (hb.cell (p := ⟨w.heap.size, 3, none⟩) (by show w.heap.size < _; omega)).trans x3, (hb.cell (p := ⟨w.heap.size, 4, none⟩) (by show w.heap.size < _; omega)).trans x4⟩ :
    w'.cell? ⟨a, 5, none⟩ = some (.func (.func k) #[] caps) ∧ w'.cell? ⟨w.heap.size, 0, none⟩ = some (.int .i64 8) ∧ w'.cell? ⟨w.heap.size, 1, none⟩ = some (.int .i64 la) ∧ w'.cell? ⟨w.heap.size, 2, none⟩ = some (.int .i64 ln) ∧ w'.cell? ⟨w.heap.size, 3, none⟩ = some (.int .i64 ra) ∧ w'.cell? ⟨w.heap.size, 4, none⟩ = some (.int .i64 rn)))
  have H := hide h
  have HW := hide hW
  have HB := hide hb0
  clear h hb0 hW
  go_enter Try.func85, Try.ntmps85
  go_wp2_with fail
  rw [← HW.out]
  have hS0 := KB.out W.drew ((Below.refl _ _).drew)
  refine wp_region_held (S := fun w' => w'.cell? ⟨a, 5, none⟩ = some (.func (.func k) #[] caps) ∧ w'.cell? ⟨w.heap.size, 0, none⟩ = some (.int .i64 8) ∧ w'.cell? ⟨w.heap.size, 1, none⟩ = some (.int .i64 la) ∧ w'.cell? ⟨w.heap.size, 2, none⟩ = some (.int .i64 ln) ∧ w'.cell? ⟨w.heap.size, 3, none⟩ = some (.int .i64 ra) ∧ w'.cell? ⟨w.heap.size, 4, none⟩ = some (.int .i64 rn)) (by kernel_rfl) ?_
  refine wpAnyH_take (i := 0) (v := .pointer (some ⟨a, 0, none⟩)) rfl (by kernel_rfl) (by kernel_rfl) (by kernel_rfl) (fun _ _ _ h => h) (Or.inl ⟨by rfl, ?_⟩) hS0 ?_
  · intro w hSw; obtain ⟨q0, q1, q2, q3, q4, q5⟩ := hSw; go_simp
  refine wpAnyH_take (i := 1) (v := .pointer (some ⟨w.heap.size, 0, none⟩)) rfl (by kernel_rfl) (by kernel_rfl) (by kernel_rfl) (fun _ _ _ h => h) (Or.inl ⟨by rfl, ?_⟩) hS0 ?_
  · intro w hSw; obtain ⟨q0, q1, q2, q3, q4, q5⟩ := hSw; go_simp
  refine wpAnyH_take (i := 2) (v := .int .i64 8) rfl (by kernel_rfl) (by kernel_rfl) (by kernel_rfl) (fun _ _ _ h => h) (Or.inl ⟨by rfl, ?_⟩) hS0 ?_
  · intro w hSw; obtain ⟨q0, q1, q2, q3, q4, q5⟩ := hSw; go_simp
  refine wpAnyH_take (i := 3) (v := .pointer (some ⟨a, 0, none⟩)) rfl (by kernel_rfl) (by kernel_rfl) (by kernel_rfl) (fun _ _ _ h => h) (Or.inl ⟨by rfl, ?_⟩) hS0 ?_
  · intro w hSw; obtain ⟨q0, q1, q2, q3, q4, q5⟩ := hSw; go_simp
  refine wpAnyH_take (i := 4) (v := .pointer (some ⟨a, 0, none⟩)) rfl (by kernel_rfl) (by kernel_rfl) (by kernel_rfl) (fun _ _ _ h => h) (Or.inl ⟨by rfl, ?_⟩) hS0 ?_
  · intro w hSw; obtain ⟨q0, q1, q2, q3, q4, q5⟩ := hSw; go_simp
  refine wpAnyH_take (i := 5) (v := .pointer (some ⟨a, 5, none⟩)) rfl (by kernel_rfl) (by kernel_rfl) (by kernel_rfl) (fun _ _ _ h => h) (Or.inl ⟨by rfl, ?_⟩) hS0 ?_
  · intro w hSw; obtain ⟨q0, q1, q2, q3, q4, q5⟩ := hSw; go_simp
  refine wpAnyH_take (i := 6) (v := .func (.func k) #[] caps) rfl (by kernel_rfl) (by kernel_rfl) (by kernel_rfl) (fun _ _ _ h => h) (Or.inl ⟨by rfl, ?_⟩) hS0 ?_
  · intro w hSw; obtain ⟨q0, q1, q2, q3, q4, q5⟩ := hSw; go_simp
  refine wpAnyH_take (i := 7) (v := .pointer (some ⟨w.heap.size, 1, none⟩)) rfl (by kernel_rfl) (by kernel_rfl) (by kernel_rfl) (fun _ _ _ h => h) (Or.inl ⟨by rfl, ?_⟩) hS0 ?_
  · intro w hSw; obtain ⟨q0, q1, q2, q3, q4, q5⟩ := hSw; go_simp
  refine wpAnyH_take (i := 8) (v := .agg #[.int .i64 la, .int .i64 ln]) rfl (by kernel_rfl) (by kernel_rfl) (by kernel_rfl) (fun _ _ _ h => h) (Or.inl ⟨by rfl, ?_⟩) hS0 ?_
  · intro w hSw; obtain ⟨q0, q1, q2, q3, q4, q5⟩ := hSw; go_simp
  refine wpAnyH_take (i := 9) (v := .pointer (some ⟨w.heap.size, 3, none⟩)) rfl (by kernel_rfl) (by kernel_rfl) (by kernel_rfl) (fun _ _ _ h => h) (Or.inl ⟨by rfl, ?_⟩) hS0 ?_
  · intro w hSw; obtain ⟨q0, q1, q2, q3, q4, q5⟩ := hSw; go_simp
  refine wpAnyH_take (i := 10) (v := .agg #[.int .i64 ra, .int .i64 rn]) rfl (by kernel_rfl) (by kernel_rfl) (by kernel_rfl) (fun _ _ _ h => h) (Or.inl ⟨by rfl, ?_⟩) hS0 ?_
  · intro w hSw; obtain ⟨q0, q1, q2, q3, q4, q5⟩ := hSw; go_simp
  refine wpAnyH_ready (rs := [11]) (by kernel_rfl) (by simp) ?_
  refine AllReadyH.cons (o := _) rfl (fun K hK => ?_) AllReadyH.nil
  go_simp
  refine (HL.out _ HB.out.drew).mono ?_
  rintro e w1 ⟨rfl, hb1⟩
  have hbW1 : Below W.heap.size W w1 := (Below.refl W.heap.size W).drew.trans hb1
  exact ⟨rfl, rfl, (HB.out.mono (Nat.le_of_lt hal)).trans (hbW1.mono (by omega))⟩
end
section
open Go.RowKit
set_option maxRecDepth 100000 in
set_option maxHeartbeats 4000000 in
theorem stepHas9 (la ln ra rn n u : Int) (a : Nat) (vv : Value) (o d : Int) (dv cv f : Value) (L : List Bool) (w : World) (h : AskAt w a w.heap.size vv o d dv cv f L) (hL : L.length ≤ 1000) :
    Calls Try.prog 85 #[.pointer (some ⟨a, 0, none⟩), instVal 9 la ln ra rn n u] w (StepPost a vv o d dv cv f (L ++ [hasB o n]) w) := by
  obtain ⟨W, hW⟩ : ∃ W, W = w.alloc (.cells #[.int .i64 9, .int .i64 la, .int .i64 ln, .int .i64 ra, .int .i64 rn, .int .i64 n, .int .i64 u] 99) := ⟨_, rfl⟩
  have hb0 : Below w.heap.size w W := by rw [hW]; exact (Below.refl _ _).alloc (Nat.le_refl _) _
  have hal : a < w.heap.size := by obtain ⟨_, _, _, h3, _⟩ := h; exact h3
  have hz : W.heap.size = w.heap.size + 1 := by rw [hW]; simp
  have c5 := (h.below hb0).cells.2.1
  have x0 : W.cell? ⟨w.heap.size, 5, none⟩ = some (.int .i64 n) := by rw [hW]; simp
  have KB := hide (fun (w' : World) (hb : Below W.heap.size W w') => (⟨(hb.cell (p := ⟨a, 1, none⟩) (by show a < _; omega)).trans c5, (hb.cell (p := ⟨w.heap.size, 5, none⟩) (by show w.heap.size < _; omega)).trans x0⟩ :
    w'.cell? ⟨a, 1, none⟩ = some (.int .i64 o) ∧ w'.cell? ⟨w.heap.size, 5, none⟩ = some (.int .i64 n)))
  have KP := hide (fun (w1 w2 : World) (hb : Below W.heap.size W w1) (ha : AskAt w2 a w2.heap.size vv o d dv cv f (L ++ [hasB o n])) (hp : Past w.heap.size w1 w2) => by
    obtain ⟨q0, q1⟩ := KB.out w1 hb
    have hs : w.heap.size < w1.heap.size := by have := hb.size; omega
    exact (⟨ha.cells.2.1, (hp.cell (Nat.le_refl _) hs).trans q1⟩ :
      w2.cell? ⟨a, 1, none⟩ = some (.int .i64 o) ∧ w2.cell? ⟨w.heap.size, 5, none⟩ = some (.int .i64 n)))
  have H := hide h
  have HW := hide hW
  have HB := hide hb0
  clear h hb0 hW
  go_enter Try.func85, Try.ntmps85
  go_wp2_with fail
  rw [← HW.out]
  have hbW : Below W.heap.size W W.drew := (Below.refl _ _).drew
  have hbw : Below w.heap.size w W.drew := HB.out.drew
  have hS0 := KB.out W.drew hbW
  go_region_held3 (fun w' => w'.cell? ⟨a, 1, none⟩ = some (.int .i64 o) ∧ w'.cell? ⟨w.heap.size, 5, none⟩ = some (.int .i64 n)) (assumption)
    (first
      | (go_at_call 69; refine (has_any _ _ _).mono ?_; rintro e w' ⟨rfl, rfl⟩)
      | (go_at_call 91; (with_reducible refine (askPush a w.heap.size vv o d dv cv _ L _ _ (H.out.below hbw) hL).mono ?_); rintro e w2 ⟨rfl, ha, hbl, hsz, hpast⟩; have K2 := KP.out _ _ hbW ha hpast))
  all_goals
    go_wp2_with fail
    go_end0
    exact ⟨rfl, ha, (hbw.mono (Nat.le_of_lt hal)).trans hbl, Nat.le_trans hbw.size hsz⟩

set_option maxRecDepth 100000 in
set_option maxHeartbeats 4000000 in
theorem stepHas10 (la ln ra rn n u : Int) (a : Nat) (vv : Value) (o d : Int) (dv cv f : Value) (L : List Bool) (w : World) (h : AskAt w a w.heap.size vv o d dv cv f L) (hL : L.length ≤ 1000) :
    Calls Try.prog 85 #[.pointer (some ⟨a, 0, none⟩), instVal 10 la ln ra rn n u] w (StepPost a vv o d dv cv f (L ++ [hasB d n]) w) := by
  obtain ⟨W, hW⟩ : ∃ W, W = w.alloc (.cells #[.int .i64 10, .int .i64 la, .int .i64 ln, .int .i64 ra, .int .i64 rn, .int .i64 n, .int .i64 u] 99) := ⟨_, rfl⟩
  have hb0 : Below w.heap.size w W := by rw [hW]; exact (Below.refl _ _).alloc (Nat.le_refl _) _
  have hal : a < w.heap.size := by obtain ⟨_, _, _, h3, _⟩ := h; exact h3
  have hz : W.heap.size = w.heap.size + 1 := by rw [hW]; simp
  have c5 := (h.below hb0).cells.2.2.1
  have x0 : W.cell? ⟨w.heap.size, 5, none⟩ = some (.int .i64 n) := by rw [hW]; simp
  have KB := hide (fun (w' : World) (hb : Below W.heap.size W w') => (⟨(hb.cell (p := ⟨a, 2, none⟩) (by show a < _; omega)).trans c5, (hb.cell (p := ⟨w.heap.size, 5, none⟩) (by show w.heap.size < _; omega)).trans x0⟩ :
    w'.cell? ⟨a, 2, none⟩ = some (.int .i64 d) ∧ w'.cell? ⟨w.heap.size, 5, none⟩ = some (.int .i64 n)))
  have KP := hide (fun (w1 w2 : World) (hb : Below W.heap.size W w1) (ha : AskAt w2 a w2.heap.size vv o d dv cv f (L ++ [hasB d n])) (hp : Past w.heap.size w1 w2) => by
    obtain ⟨q0, q1⟩ := KB.out w1 hb
    have hs : w.heap.size < w1.heap.size := by have := hb.size; omega
    exact (⟨ha.cells.2.2.1, (hp.cell (Nat.le_refl _) hs).trans q1⟩ :
      w2.cell? ⟨a, 2, none⟩ = some (.int .i64 d) ∧ w2.cell? ⟨w.heap.size, 5, none⟩ = some (.int .i64 n)))
  have H := hide h
  have HW := hide hW
  have HB := hide hb0
  clear h hb0 hW
  go_enter Try.func85, Try.ntmps85
  go_wp2_with fail
  rw [← HW.out]
  have hbW : Below W.heap.size W W.drew := (Below.refl _ _).drew
  have hbw : Below w.heap.size w W.drew := HB.out.drew
  have hS0 := KB.out W.drew hbW
  go_region_held3 (fun w' => w'.cell? ⟨a, 2, none⟩ = some (.int .i64 d) ∧ w'.cell? ⟨w.heap.size, 5, none⟩ = some (.int .i64 n)) (assumption)
    (first
      | (go_at_call 69; refine (has_any _ _ _).mono ?_; rintro e w' ⟨rfl, rfl⟩)
      | (go_at_call 91; (with_reducible refine (askPush a w.heap.size vv o d dv cv _ L _ _ (H.out.below hbw) hL).mono ?_); rintro e w2 ⟨rfl, ha, hbl, hsz, hpast⟩; have K2 := KP.out _ _ hbW ha hpast))
  all_goals
    go_wp2_with fail
    go_end0
    exact ⟨rfl, ha, (hbw.mono (Nat.le_of_lt hal)).trans hbl, Nat.le_trans hbw.size hsz⟩

set_option maxRecDepth 100000 in
set_option maxHeartbeats 4000000 in
theorem stepNot (la ln ra rn n u : Int) (a : Nat) (vv : Value) (o d : Int) (dv cv f : Value) (L : List Bool) (b : Bool) (w : World) (h : AskAt w a w.heap.size vv o d dv cv f (L ++ [b])) (hL : L.length ≤ 999) :
    Calls Try.prog 85 #[.pointer (some ⟨a, 0, none⟩), instVal 15 la ln ra rn n u] w (StepPost a vv o d dv cv f (L ++ [!b]) w) := by
  have hb0 : Below w.heap.size w (w.alloc (.cells #[.int .i64 15, .int .i64 la, .int .i64 ln, .int .i64 ra, .int .i64 rn, .int .i64 n, .int .i64 u] 99)) := (Below.refl _ _).alloc (Nat.le_refl _) _
  have hal : a < w.heap.size := by obtain ⟨_, _, _, h3, _⟩ := h; exact h3
  have Hp := hide (askPop a w.heap.size vv o d dv cv f L b _ (h.below hb0) (by omega))
  have HB := hide hb0
  clear h hb0
  go_enter Try.func85, Try.ntmps85
  go_wp2_with (first
    | (go_at_call 86; refine Hp.out.mono ?_; rintro e w1 ⟨rfl, ha, hbl, hsz, _⟩)
    | (go_at_call 91; (with_reducible refine (askPush a w.heap.size vv o d dv cv _ L _ _ ha (by omega)).mono ?_); rintro e w2 ⟨rfl, ha2, hbl2, hsz2, _⟩))
  go_end0
  have h1 := (HB.out.mono (Nat.le_of_lt hal)).trans hbl
  exact ⟨rfl, ha2, h1.trans hbl2, Nat.le_trans (Nat.le_trans HB.out.size hsz) hsz2⟩
set_option maxRecDepth 100000 in
set_option maxHeartbeats 4000000 in
theorem stepNotNone (la ln ra rn n u : Int) (a : Nat) (vv : Value) (o d : Int) (dv cv f : Value) (w : World) (h : AskAt w a w.heap.size vv o d dv cv f []) :
    Calls Try.prog 85 #[.pointer (some ⟨a, 0, none⟩), instVal 15 la ln ra rn n u] w fun e w' => e = .panicked lostP ∧ Below a w w' := by
  have hb0 : Below w.heap.size w (w.alloc (.cells #[.int .i64 15, .int .i64 la, .int .i64 ln, .int .i64 ra, .int .i64 rn, .int .i64 n, .int .i64 u] 99)) := (Below.refl _ _).alloc (Nat.le_refl _) _
  have hal : a < w.heap.size := by obtain ⟨_, _, _, h3, _⟩ := h; exact h3
  have Hp := hide (askPopNone a w.heap.size vv o d dv cv f _ (h.below hb0))
  have HB := hide hb0
  clear h hb0
  go_enter Try.func85, Try.ntmps85
  go_wp2_with (first
    | (go_at_call 86; refine Hp.out.mono ?_; rintro e w1 ⟨rfl, rfl⟩))
  exact ⟨rfl, rfl, HB.out.mono (Nat.le_of_lt hal)⟩

set_option maxRecDepth 100000 in
set_option maxHeartbeats 4000000 in
theorem stepBin16 (la ln ra rn n u : Int) (a : Nat) (vv : Value) (o d : Int) (dv cv f : Value) (L : List Bool) (x y : Bool) (w : World) (h : AskAt w a w.heap.size vv o d dv cv f ((L ++ [x]) ++ [y])) (hL : L.length ≤ 998) :
    Calls Try.prog 85 #[.pointer (some ⟨a, 0, none⟩), instVal 16 la ln ra rn n u] w (StepPost a vv o d dv cv f (L ++ [x && y]) w) := by
  obtain ⟨W, hW⟩ : ∃ W, W = w.alloc (.cells #[.int .i64 16, .int .i64 la, .int .i64 ln, .int .i64 ra, .int .i64 rn, .int .i64 n, .int .i64 u] 99) := ⟨_, rfl⟩
  have hb0 : Below w.heap.size w W := by rw [hW]; exact (Below.refl _ _).alloc (Nat.le_refl _) _
  have hal : a < w.heap.size := by obtain ⟨_, _, _, h3, _⟩ := h; exact h3
  have x0 : W.cell? ⟨w.heap.size, 0, none⟩ = some (.int .i64 16) := by rw [hW]; simp
  have hz : W.heap.size = w.heap.size + 1 := by rw [hW]; simp
  have Hp := hide (askPop a w.heap.size vv o d dv cv f (L ++ [x]) y _ (h.below hb0) (by simp; omega))
  have HB := hide hb0
  have HW := hide hW
  clear h hb0 hW
  cases x <;> cases y
  all_goals
    go_enter Try.func85, Try.ntmps85
    go_wp2_with fail
    rw [← HW.out]
    refine Hp.out.mono ?_
    rintro e w1 ⟨rfl, ha, hbl, hsz, hp1⟩
    have y0 := (hp1.cell (i := 0) (Nat.le_refl _) (by omega)).trans x0
    have hs1 : w.heap.size < w1.heap.size := by omega
    go_wp2_with fail
    refine (askPop a w.heap.size vv o d dv cv f L _ _ ha (by omega)).mono ?_
    rintro e w2 ⟨rfl, ha2, hbl2, hsz2, hp2⟩
    have z0 := (hp2.cell (i := 0) (Nat.le_refl _) hs1).trans y0
    have Ha := hide ha
    clear x0 y0 hp1 hp2 ha
    go_wp2_with fail
    refine (askPush a w.heap.size vv o d dv cv f L _ _ ha2 (by omega)).mono ?_
    rintro e w3 ⟨rfl, ha3, hbl3, hsz3, hp3⟩
    go_wp2_with fail
    go_end0
    have h1 := ((HB.out.mono (Nat.le_of_lt hal)).trans hbl).trans hbl2
    exact ⟨rfl, ha3, h1.trans hbl3, by omega⟩

set_option maxRecDepth 100000 in
set_option maxHeartbeats 4000000 in
theorem stepBinNone16 (la ln ra rn n u : Int) (a : Nat) (vv : Value) (o d : Int) (dv cv f : Value) (L : List Bool) (w : World) (h : AskAt w a w.heap.size vv o d dv cv f L) (hL : L.length < 2) :
    Calls Try.prog 85 #[.pointer (some ⟨a, 0, none⟩), instVal 16 la ln ra rn n u] w fun e w' => e = .panicked lostP ∧ Below a w w' := by
  have hb0 : Below w.heap.size w (w.alloc (.cells #[.int .i64 16, .int .i64 la, .int .i64 ln, .int .i64 ra, .int .i64 rn, .int .i64 n, .int .i64 u] 99)) := (Below.refl _ _).alloc (Nat.le_refl _) _
  have hal : a < w.heap.size := by obtain ⟨_, _, _, h3, _⟩ := h; exact h3
  have HB := hide hb0
  match L, hL with
  | [], _ =>
    have Hp := hide (askPopNone a w.heap.size vv o d dv cv f _ (h.below hb0))
    clear h hb0
    go_enter Try.func85, Try.ntmps85
    go_wp2_with (first
      | (go_at_call 86; refine Hp.out.mono ?_; rintro e w1 ⟨rfl, rfl⟩))
    exact ⟨rfl, rfl, HB.out.mono (Nat.le_of_lt hal)⟩
  | [y], _ =>
    have Hp := hide (askPop a w.heap.size vv o d dv cv f [] y _ (h.below hb0) (by simp))
    clear h hb0
    go_enter Try.func85, Try.ntmps85
    go_wp2_with fail
    refine Hp.out.mono ?_
    rintro e w1 ⟨rfl, ha, hbl, hsz, hp1⟩
    go_wp2_with fail
    refine (askPopNone a w.heap.size vv o d dv cv f _ ha).mono ?_
    rintro e w2 ⟨rfl, rfl⟩
    exact ⟨rfl, rfl, (HB.out.mono (Nat.le_of_lt hal)).trans hbl⟩

set_option maxRecDepth 100000 in
set_option maxHeartbeats 4000000 in
theorem stepBin17 (la ln ra rn n u : Int) (a : Nat) (vv : Value) (o d : Int) (dv cv f : Value) (L : List Bool) (x y : Bool) (w : World) (h : AskAt w a w.heap.size vv o d dv cv f ((L ++ [x]) ++ [y])) (hL : L.length ≤ 998) :
    Calls Try.prog 85 #[.pointer (some ⟨a, 0, none⟩), instVal 17 la ln ra rn n u] w (StepPost a vv o d dv cv f (L ++ [x || y]) w) := by
  obtain ⟨W, hW⟩ : ∃ W, W = w.alloc (.cells #[.int .i64 17, .int .i64 la, .int .i64 ln, .int .i64 ra, .int .i64 rn, .int .i64 n, .int .i64 u] 99) := ⟨_, rfl⟩
  have hb0 : Below w.heap.size w W := by rw [hW]; exact (Below.refl _ _).alloc (Nat.le_refl _) _
  have hal : a < w.heap.size := by obtain ⟨_, _, _, h3, _⟩ := h; exact h3
  have x0 : W.cell? ⟨w.heap.size, 0, none⟩ = some (.int .i64 17) := by rw [hW]; simp
  have hz : W.heap.size = w.heap.size + 1 := by rw [hW]; simp
  have Hp := hide (askPop a w.heap.size vv o d dv cv f (L ++ [x]) y _ (h.below hb0) (by simp; omega))
  have HB := hide hb0
  have HW := hide hW
  clear h hb0 hW
  cases x <;> cases y
  all_goals
    go_enter Try.func85, Try.ntmps85
    go_wp2_with fail
    rw [← HW.out]
    refine Hp.out.mono ?_
    rintro e w1 ⟨rfl, ha, hbl, hsz, hp1⟩
    have y0 := (hp1.cell (i := 0) (Nat.le_refl _) (by omega)).trans x0
    have hs1 : w.heap.size < w1.heap.size := by omega
    go_wp2_with fail
    refine (askPop a w.heap.size vv o d dv cv f L _ _ ha (by omega)).mono ?_
    rintro e w2 ⟨rfl, ha2, hbl2, hsz2, hp2⟩
    have z0 := (hp2.cell (i := 0) (Nat.le_refl _) hs1).trans y0
    have Ha := hide ha
    clear x0 y0 hp1 hp2 ha
    go_wp2_with fail
    refine (askPush a w.heap.size vv o d dv cv f L _ _ ha2 (by omega)).mono ?_
    rintro e w3 ⟨rfl, ha3, hbl3, hsz3, hp3⟩
    go_wp2_with fail
    go_end0
    have h1 := ((HB.out.mono (Nat.le_of_lt hal)).trans hbl).trans hbl2
    exact ⟨rfl, ha3, h1.trans hbl3, by omega⟩

set_option maxRecDepth 100000 in
set_option maxHeartbeats 4000000 in
theorem stepBinNone17 (la ln ra rn n u : Int) (a : Nat) (vv : Value) (o d : Int) (dv cv f : Value) (L : List Bool) (w : World) (h : AskAt w a w.heap.size vv o d dv cv f L) (hL : L.length < 2) :
    Calls Try.prog 85 #[.pointer (some ⟨a, 0, none⟩), instVal 17 la ln ra rn n u] w fun e w' => e = .panicked lostP ∧ Below a w w' := by
  have hb0 : Below w.heap.size w (w.alloc (.cells #[.int .i64 17, .int .i64 la, .int .i64 ln, .int .i64 ra, .int .i64 rn, .int .i64 n, .int .i64 u] 99)) := (Below.refl _ _).alloc (Nat.le_refl _) _
  have hal : a < w.heap.size := by obtain ⟨_, _, _, h3, _⟩ := h; exact h3
  have HB := hide hb0
  match L, hL with
  | [], _ =>
    have Hp := hide (askPopNone a w.heap.size vv o d dv cv f _ (h.below hb0))
    clear h hb0
    go_enter Try.func85, Try.ntmps85
    go_wp2_with (first
      | (go_at_call 86; refine Hp.out.mono ?_; rintro e w1 ⟨rfl, rfl⟩))
    exact ⟨rfl, rfl, HB.out.mono (Nat.le_of_lt hal)⟩
  | [y], _ =>
    have Hp := hide (askPop a w.heap.size vv o d dv cv f [] y _ (h.below hb0) (by simp))
    clear h hb0
    go_enter Try.func85, Try.ntmps85
    go_wp2_with fail
    refine Hp.out.mono ?_
    rintro e w1 ⟨rfl, ha, hbl, hsz, hp1⟩
    go_wp2_with fail
    refine (askPopNone a w.heap.size vv o d dv cv f _ ha).mono ?_
    rintro e w2 ⟨rfl, rfl⟩
    exact ⟨rfl, rfl, (HB.out.mono (Nat.le_of_lt hal)).trans hbl⟩

set_option maxRecDepth 100000 in
set_option maxHeartbeats 4000000 in
theorem stepBin18 (la ln ra rn n u : Int) (a : Nat) (vv : Value) (o d : Int) (dv cv f : Value) (L : List Bool) (x y : Bool) (w : World) (h : AskAt w a w.heap.size vv o d dv cv f ((L ++ [x]) ++ [y])) (hL : L.length ≤ 998) :
    Calls Try.prog 85 #[.pointer (some ⟨a, 0, none⟩), instVal 18 la ln ra rn n u] w (StepPost a vv o d dv cv f (L ++ [!x || y]) w) := by
  obtain ⟨W, hW⟩ : ∃ W, W = w.alloc (.cells #[.int .i64 18, .int .i64 la, .int .i64 ln, .int .i64 ra, .int .i64 rn, .int .i64 n, .int .i64 u] 99) := ⟨_, rfl⟩
  have hb0 : Below w.heap.size w W := by rw [hW]; exact (Below.refl _ _).alloc (Nat.le_refl _) _
  have hal : a < w.heap.size := by obtain ⟨_, _, _, h3, _⟩ := h; exact h3
  have x0 : W.cell? ⟨w.heap.size, 0, none⟩ = some (.int .i64 18) := by rw [hW]; simp
  have hz : W.heap.size = w.heap.size + 1 := by rw [hW]; simp
  have Hp := hide (askPop a w.heap.size vv o d dv cv f (L ++ [x]) y _ (h.below hb0) (by simp; omega))
  have HB := hide hb0
  have HW := hide hW
  clear h hb0 hW
  cases x <;> cases y
  all_goals
    go_enter Try.func85, Try.ntmps85
    go_wp2_with fail
    rw [← HW.out]
    refine Hp.out.mono ?_
    rintro e w1 ⟨rfl, ha, hbl, hsz, hp1⟩
    have y0 := (hp1.cell (i := 0) (Nat.le_refl _) (by omega)).trans x0
    have hs1 : w.heap.size < w1.heap.size := by omega
    go_wp2_with fail
    refine (askPop a w.heap.size vv o d dv cv f L _ _ ha (by omega)).mono ?_
    rintro e w2 ⟨rfl, ha2, hbl2, hsz2, hp2⟩
    have z0 := (hp2.cell (i := 0) (Nat.le_refl _) hs1).trans y0
    have Ha := hide ha
    clear x0 y0 hp1 hp2 ha
    go_wp2_with fail
    refine (askPush a w.heap.size vv o d dv cv f L _ _ ha2 (by omega)).mono ?_
    rintro e w3 ⟨rfl, ha3, hbl3, hsz3, hp3⟩
    go_wp2_with fail
    go_end0
    have h1 := ((HB.out.mono (Nat.le_of_lt hal)).trans hbl).trans hbl2
    exact ⟨rfl, ha3, h1.trans hbl3, by omega⟩

set_option maxRecDepth 100000 in
set_option maxHeartbeats 4000000 in
theorem stepBinNone18 (la ln ra rn n u : Int) (a : Nat) (vv : Value) (o d : Int) (dv cv f : Value) (L : List Bool) (w : World) (h : AskAt w a w.heap.size vv o d dv cv f L) (hL : L.length < 2) :
    Calls Try.prog 85 #[.pointer (some ⟨a, 0, none⟩), instVal 18 la ln ra rn n u] w fun e w' => e = .panicked lostP ∧ Below a w w' := by
  have hb0 : Below w.heap.size w (w.alloc (.cells #[.int .i64 18, .int .i64 la, .int .i64 ln, .int .i64 ra, .int .i64 rn, .int .i64 n, .int .i64 u] 99)) := (Below.refl _ _).alloc (Nat.le_refl _) _
  have hal : a < w.heap.size := by obtain ⟨_, _, _, h3, _⟩ := h; exact h3
  have HB := hide hb0
  match L, hL with
  | [], _ =>
    have Hp := hide (askPopNone a w.heap.size vv o d dv cv f _ (h.below hb0))
    clear h hb0
    go_enter Try.func85, Try.ntmps85
    go_wp2_with (first
      | (go_at_call 86; refine Hp.out.mono ?_; rintro e w1 ⟨rfl, rfl⟩))
    exact ⟨rfl, rfl, HB.out.mono (Nat.le_of_lt hal)⟩
  | [y], _ =>
    have Hp := hide (askPop a w.heap.size vv o d dv cv f [] y _ (h.below hb0) (by simp))
    clear h hb0
    go_enter Try.func85, Try.ntmps85
    go_wp2_with fail
    refine Hp.out.mono ?_
    rintro e w1 ⟨rfl, ha, hbl, hsz, hp1⟩
    go_wp2_with fail
    refine (askPopNone a w.heap.size vv o d dv cv f _ ha).mono ?_
    rintro e w2 ⟨rfl, rfl⟩
    exact ⟨rfl, rfl, (HB.out.mono (Nat.le_of_lt hal)).trans hbl⟩

set_option maxRecDepth 100000 in
set_option maxHeartbeats 4000000 in
theorem stepBad (op la ln ra rn n u : Int) (a : Nat) (w : World) (hal : a ≤ w.heap.size) (h1 : (op == 1) = false) (h2 : (op == 2) = false) (h3 : (op == 3) = false) (h4 : (op == 4) = false) (h5 : (op == 5) = false) (h6 : (op == 6) = false) (h7 : (op == 7) = false) (h8 : (op == 8) = false)
    (h9 : (op == 9) = false) (h10 : (op == 10) = false) (h15 : (op == 15) = false) (h16 : (op == 16) = false) (h17 : (op == 17) = false) (h18 : (op == 18) = false) :
    Calls Try.prog 85 #[.pointer (some ⟨a, 0, none⟩), instVal op la ln ra rn n u] w fun e w' => e = .panicked lostP ∧ Below a w w' := by
  go_enter Try.func85, Try.ntmps85
  go_wp2_with fail
  exact ⟨rfl, rfl, (Below.refl _ _).alloc hal _⟩
end
section
open Go.RowKit

/-- what is asked of the function that tells a comparison -/
def LessOK (k : Nat) (caps : Array Value) (cm : Inst → Option Int) (x : Inst) (w0 : World) : Prop := ∀ w', Below w0.heap.size w0 w' →
  match cm x with
  | some c => Calls Try.prog k (#[.agg #[.int .i64 x.la, .int .i64 x.ln], .agg #[.int .i64 x.ra, .int .i64 x.rn]] ++ caps) w' fun e w'' => e = .returned (.int .i64 c) ∧ Below w'.heap.size w' w''
  | none => Calls Try.prog k (#[.agg #[.int .i64 x.la, .int .i64 x.ln], .agg #[.int .i64 x.ra, .int .i64 x.rn]] ++ caps) w' fun e w'' => e = .panicked lostP ∧ Below w'.heap.size w' w''
theorem LessOK.some_ {k : Nat} {caps : Array Value} {cm : Inst → Option Int} {x : Inst} {w0 w : World} (h : LessOK k caps cm x w0) (hb : Below w0.heap.size w0 w) {c : Int} (hc : cm x = some c) :
    Hid (∀ w', Below w.heap.size w w' → Calls Try.prog k (#[.agg #[.int .i64 x.la, .int .i64 x.ln], .agg #[.int .i64 x.ra, .int .i64 x.rn]] ++ caps) w' fun e w'' => e = .returned (.int .i64 c) ∧ Below w'.heap.size w' w'') := by
  refine hide fun w' hw => ?_
  have := h w' (hb.trans (hw.mono hb.size))
  rw [hc] at this
  exact this
theorem LessOK.none_ {k : Nat} {caps : Array Value} {cm : Inst → Option Int} {x : Inst} {w0 w : World} (h : LessOK k caps cm x w0) (hb : Below w0.heap.size w0 w) (hc : cm x = none) :
    Hid (∀ w', Below w.heap.size w w' → Calls Try.prog k (#[.agg #[.int .i64 x.la, .int .i64 x.ln], .agg #[.int .i64 x.ra, .int .i64 x.rn]] ++ caps) w' fun e w'' => e = .panicked lostP ∧ Below w'.heap.size w' w'') := by
  refine hide fun w' hw => ?_
  have := h w' (hb.trans (hw.mono hb.size))
  rw [hc] at this
  exact this
theorem snoc_of_cons {L r : List Bool} {b : Bool} (h : L.reverse = b :: r) : L = r.reverse ++ [b] := by
  have := congrArg List.reverse h
  simpa using this

theorem step_some (x : Inst) (cm : Inst → Option Int) (a k : Nat) (caps : Array Value) (vv : Value) (o d : Int) (dv cv : Value) (L : List Bool) (r' : List Bool) (w w0 : World) (h : AskAt w a w.heap.size vv o d dv cv (.func (.func k) #[] caps) L) (hL : L.length ≤ 900)
    (hcf : ∀ (args : Array Value) (w : World), (callFunc k args).run Try.prog w = .ok (.enter k args) w) (hl : LessOK k caps cm x w0) (hb : Below w0.heap.size w0 w) (hr : stepG cm o d x L.reverse = some r') :
    Calls Try.prog 85 #[.pointer (some ⟨a, 0, none⟩), instVal x.op x.la x.ln x.ra x.rn x.n x.u] w (StepPost a vv o d dv cv (.func (.func k) #[] caps) r'.reverse w) := by
  obtain ⟨op, la, ln, ra, rn, n, u⟩ := x
  unfold stepG at hr
  simp only at hr ⊢
  split at hr
  · cases hr
    have := stepT op la ln ra rn n u a vv o d dv cv _ L w h (by omega) (by assumption)
    simpa using this
  split at hr
  · rename_i h1
    split at hr
    · rename_i c hc
      cases hr
      have HL := hl.some_ hb hc
      have e : op = 3 ∨ op = 4 ∨ op = 5 ∨ op = 6 ∨ op = 7 ∨ op = 8 := by omega
      rw [List.reverse_cons, List.reverse_reverse]
      rcases e with rfl | rfl | rfl | rfl | rfl | rfl
      · exact stepCmp3 la ln ra rn n u c a k caps vv o d dv cv L w h (by omega) hcf HL
      · exact stepCmp4 la ln ra rn n u c a k caps vv o d dv cv L w h (by omega) hcf HL
      · exact stepCmp5 la ln ra rn n u c a k caps vv o d dv cv L w h (by omega) hcf HL
      · exact stepCmp6 la ln ra rn n u c a k caps vv o d dv cv L w h (by omega) hcf HL
      · exact stepCmp7 la ln ra rn n u c a k caps vv o d dv cv L w h (by omega) hcf HL
      · exact stepCmp8 la ln ra rn n u c a k caps vv o d dv cv L w h (by omega) hcf HL
    · cases hr
  split at hr
  · rename_i h9
    subst h9
    cases hr
    rw [List.reverse_cons, List.reverse_reverse]
    exact stepHas9 la ln ra rn n u a vv o d dv cv _ L w h (by omega)
  split at hr
  · rename_i h10
    subst h10
    cases hr
    rw [List.reverse_cons, List.reverse_reverse]
    exact stepHas10 la ln ra rn n u a vv o d dv cv _ L w h (by omega)
  split at hr
  · rename_i h15
    subst h15
    split at hr
    · rename_i b r e
      cases hr
      obtain rfl := snoc_of_cons e
      simp at hL
      rw [List.reverse_cons]
      exact stepNot la ln ra rn n u a vv o d dv cv _ _ b w h (by simp; omega)
    · cases hr
  split at hr
  · rename_i h16
    split at hr
    · rename_i b a' r e
      cases hr
      have e2 : L = (r.reverse ++ [a']) ++ [b] := by
        have := snoc_of_cons e
        simpa using this
      subst e2
      simp at hL
      have e : op = 16 ∨ op = 17 ∨ op = 18 := by omega
      rcases e with rfl | rfl | rfl
      · have := stepBin16 la ln ra rn n u a vv o d dv cv _ r.reverse a' b w h (by simp; omega)
        simpa using this
      · have := stepBin17 la ln ra rn n u a vv o d dv cv _ r.reverse a' b w h (by simp; omega)
        simpa using this
      · have := stepBin18 la ln ra rn n u a vv o d dv cv _ r.reverse a' b w h (by simp; omega)
        simpa using this
    · cases hr
  · cases hr

theorem step_none (x : Inst) (cm : Inst → Option Int) (a k : Nat) (caps : Array Value) (vv : Value) (o d : Int) (dv cv : Value) (L : List Bool) (w w0 : World) (h : AskAt w a w.heap.size vv o d dv cv (.func (.func k) #[] caps) L) (hL : L.length ≤ 900)
    (hcf : ∀ (args : Array Value) (w : World), (callFunc k args).run Try.prog w = .ok (.enter k args) w) (hl : LessOK k caps cm x w0) (hb : Below w0.heap.size w0 w) (hr : stepG cm o d x L.reverse = none) :
    Calls Try.prog 85 #[.pointer (some ⟨a, 0, none⟩), instVal x.op x.la x.ln x.ra x.rn x.n x.u] w fun e w' => e = .panicked lostP ∧ Below a w w' := by
  have hal : a < w.heap.size := by obtain ⟨_, _, _, h3, _⟩ := h; exact h3
  obtain ⟨op, la, ln, ra, rn, n, u⟩ := x
  unfold stepG at hr
  simp only at hr ⊢
  split at hr
  · cases hr
  rename_i h12
  split at hr
  · rename_i h1
    split at hr
    · cases hr
    · rename_i hc
      have HL := hl.none_ hb hc
      have e : op = 3 ∨ op = 4 ∨ op = 5 ∨ op = 6 ∨ op = 7 ∨ op = 8 := by omega
      rcases e with rfl | rfl | rfl | rfl | rfl | rfl
      · exact stepNo3 la ln ra rn n u a k caps vv o d dv cv L w h (by omega) hcf HL
      · exact stepNo4 la ln ra rn n u a k caps vv o d dv cv L w h (by omega) hcf HL
      · exact stepNo5 la ln ra rn n u a k caps vv o d dv cv L w h (by omega) hcf HL
      · exact stepNo6 la ln ra rn n u a k caps vv o d dv cv L w h (by omega) hcf HL
      · exact stepNo7 la ln ra rn n u a k caps vv o d dv cv L w h (by omega) hcf HL
      · exact stepNo8 la ln ra rn n u a k caps vv o d dv cv L w h (by omega) hcf HL
  rename_i h38
  split at hr
  · cases hr
  rename_i h9
  split at hr
  · cases hr
  rename_i h10
  split at hr
  · rename_i h15
    subst h15
    split at hr
    · cases hr
    · rename_i e
      have e : L = [] := by simpa using e
      subst e
      exact stepNotNone la ln ra rn n u a vv o d dv cv _ w h
  rename_i h15
  split at hr
  · rename_i h16
    have hl2 : L.length < 2 := by
      rw [← List.length_reverse]
      match hh : L.reverse with
      | [] => simp
      | [_] => simp
      | _ :: _ :: _ => rw [hh] at hr; cases hr
    have e : op = 16 ∨ op = 17 ∨ op = 18 := by omega
    rcases e with rfl | rfl | rfl
    · exact stepBinNone16 la ln ra rn n u a vv o d dv cv _ L w h hl2
    · exact stepBinNone17 la ln ra rn n u a vv o d dv cv _ L w h hl2
    · exact stepBinNone18 la ln ra rn n u a vv o d dv cv _ L w h hl2
  · rename_i h16
    have ne : ∀ k : Int, op ≠ k → (op == k) = false := fun k h => beq_eq_false_iff_ne.2 h
    exact stepBad op la ln ra rn n u a w (Nat.le_of_lt hal) (ne _ (by omega)) (ne _ (by omega)) (ne _ (by omega)) (ne _ (by omega)) (ne _ (by omega)) (ne _ (by omega)) (ne _ (by omega)) (ne _ (by omega)) (ne _ (by omega)) (ne _ (by omega)) (ne _ (by omega)) (ne _ (by omega)) (ne _ (by omega)) (ne _ (by omega))
end
section
open Go.RowKit
theorem caught_nil (p q : Addr) (w : World) : Calls Try.prog 82 #[.pointer (some p), .pointer (some q), .nilIface] w fun e w' => e = .returned (.tuple #[]) ∧ w = w' := by
  go_enter Try.func82, Try.ntmps82
  go_wp2
  refine bodyPost_ret (results_none rfl _ _ _) rfl ?_
  exact ⟨rfl, rfl⟩
theorem assertLost (w : World) : (Instr.typeAssert (.iface 142 (.agg #[])) 20 142 true).run Try.prog w = .ok (.tuple #[.agg #[], .bool true]) w := by kernel_rfl
theorem eqNil (w : World) : (binOp BinOp.eql 20 (.iface 142 (.agg #[])) .nilIface).run Try.prog w = .ok (.bool false) w := by kernel_rfl
theorem caught_lost (p q : Nat) (x : Bool) (y : Int) (w : World) (hp : Blk w p 4 #[.bool x]) (hq : Blk w q 44 #[.int .i64 y]) (hpq : p ≠ q) {B : Nat} (hBp : B ≤ p) (hBq : B ≤ q) : Calls Try.prog 82 #[.pointer (some ⟨p, 0, none⟩), .pointer (some ⟨q, 0, none⟩), .iface 142 (.agg #[])] w fun e w' => e = .returned (.tuple #[]) ∧ Blk w' p 4 #[.bool false] ∧ Blk w' q 44 #[.int .i64 17] ∧ Below B w w' := by
  have hta := assertLost
  have heq := eqNil
  have c0 := hp.cell 0
  have f0 := hp.frozen 0
  have d0 := hq.cell 0
  have g0 := hq.frozen 0
  simp at c0 d0
  have hpl := hp.lt
  have hql := hq.lt
  have HP := hide hp
  have HQ := hide hq
  clear hp hq
  go_enter Try.func82, Try.ntmps82
  go_wp2
  go_end0
  refine ⟨rfl, ?_, ?_, (((Below.refl B w).setCell hBp _).setCell hBq _).alloc (by simp; omega) _⟩
  · have h1 := HP.out.set_ 0 (.bool false)
    have h2 := (h1.far (p := ⟨q, 0, none⟩) (by simpa using hpq) (.int .i64 17)).alloc (.cells #[] 142)
    simpa using h2
  · have h1 := HQ.out.far (p := ⟨p, 0, none⟩) (by simpa using Ne.symm hpq) (.bool false)
    have h2 := (h1.set_ 0 (.int .i64 17)).alloc (.cells #[] 142)
    simpa using h2

theorem catch_idle (p q : Addr) (w : World) :
    CallsD Try.prog 81 #[.pointer (some p), .pointer (some q)] .returning w fun e u' w' => e = .returned (.tuple #[]) ∧ u' = .returning ∧ w = w' := by
  refine callsD_of_wpS Try.func81 rfl fun c₀ cs hu => ?_
  apply wpS_region
  simp [wpOpsS, go_sem, recoverD, hu, Try.ntmps81]
  refine (caught_nil p q w).mono ?_
  rintro e w' ⟨rfl, rfl⟩
  cases c₀
  simp_all [bodyPostS, results, Try.results81]

theorem catch_lost (p q : Nat) (x : Bool) (y : Int) (w : World) (hp : Blk w p 4 #[.bool x]) (hq : Blk w q 44 #[.int .i64 y]) (hpq : p ≠ q) {B : Nat} (hBp : B ≤ p) (hBq : B ≤ q) :
    CallsD Try.prog 81 #[.pointer (some ⟨p, 0, none⟩), .pointer (some ⟨q, 0, none⟩)] (.panicking lostP) w fun e u' w' => e = .returned (.tuple #[]) ∧ u' = .panicking [{ v := .iface 142 (.agg #[]), recovered := true }] ∧ (Blk w' p 4 #[.bool false] ∧ Blk w' q 44 #[.int .i64 17] ∧ Below B w w') := by
  have H := hide (caught_lost p q x y w hp hq hpq hBp hBq)
  clear hp hq
  refine callsD_of_wpS Try.func81 rfl fun c₀ cs hu => ?_
  apply wpS_region
  simp [wpOpsS, go_sem, recoverD, hu, Try.ntmps81, lostP]
  refine H.out.mono ?_
  rintro e w' ⟨rfl, h1, h2, h3⟩
  refine ⟨rfl, _, rfl, .tuple #[], ?_, rfl, rfl, h1, h2, h3⟩
  simp [results, Try.results81, go_sem]
end
end Go.Proofs.Ytcindbpnaicemaa
