/-
  The walk of eval.Sides, whatever tells the comparisons. No condition but the list's length.
-/
import Derived.Test.YtfocnmkbnccilaaEvDoor
set_option linter.unusedVariables false
set_option linter.unusedSimpArgs false
namespace Go.Proofs.Ytfocnmkbnccilaa
open Go.RowKit

theorem lessNotNil (k : Nat) (caps : Array Value) (w : World) : (binOp BinOp.eql 148 (.func (.func k) #[] caps) .nilFunc).run Try.prog w = .ok (.bool false) w := by kernel_rfl
/-- the world behind the parameters' boxes -/
def W0 (w : World) (vv : Value) (o d : Int) (dv cv : Value) : World := ((w.alloc (.cells #[vv, .int .i64 o, .int .i64 d, dv, cv] 38)).alloc (.cells #[.bool false] 4)).alloc (.cells #[.int .i64 0] 48)
theorem W0_facts (w : World) (vv : Value) (o d : Int) (dv cv : Value) : (W0 w vv o d dv cv).heap.size = w.heap.size + 3 ∧ Below w.heap.size w (W0 w vv o d dv cv) ∧ Blk (W0 w vv o d dv cv) w.heap.size 38 #[vv, .int .i64 o, .int .i64 d, dv, cv] ∧
    Blk (W0 w vv o d dv cv) (w.heap.size + 1) 4 #[.bool false] ∧ Blk (W0 w vv o d dv cv) (w.heap.size + 1 + 1) 48 #[.int .i64 0] := by
  unfold W0
  refine ⟨by simp, (((Below.refl _ _).alloc (Nat.le_refl _) _).alloc (by simp) _).alloc (by simp; omega) _, (((Blk.new w _ _).alloc _).alloc _), ?_, ?_⟩
  · have := (Blk.new (w.alloc (.cells #[vv, .int .i64 o, .int .i64 d, dv, cv] 38)) 4 #[.bool false]).alloc (.cells #[.int .i64 0] 48)
    simpa using this
  · have := Blk.new ((w.alloc (.cells #[vv, .int .i64 o, .int .i64 d, dv, cv] 38)).alloc (.cells #[.bool false] 4)) 48 #[.int .i64 0]
    simpa using this
theorem item_ok (x : Inst) (h : x.ok) : (itemOf x).ok := by
  refine ⟨h.1, ?_, ?_, ?_, ?_, ?_, ?_, ?_, ?_⟩ <;> first | exact ⟨by simp [itemOf], by simp [itemOf]⟩ | exact Nat.zero_le _
theorem insts_ok {w : World} {S : Nat → Prop} {v : Value} {l : List Inst} (h : (sliceR instR).one w S v l) : ∀ x ∈ l, x.ok := by
  intro x hx
  obtain ⟨i, hi, rfl⟩ := List.getElem_of_mem hx
  obtain ⟨A, c, rfl, _, _⟩ := slice_form h
  obtain ⟨b, o, hv, _, _⟩ := slice_some h (by omega)
  subst hv
  exact (insts_at h hi).2
def topO : Option (List Bool) → Option Bool
  | some (b :: _) => some b
  | _ => none
theorem topO_eq (x : Option (List Bool)) : (match x with | some (b :: _) => some b | _ => none) = topO x := by
  match x with
  | none => rfl
  | some [] => rfl
  | some (_ :: _) => rfl
theorem runG_append (cm : Inst → Option Int) (o d : Int) (a b : List Inst) : ∀ r, runG cm o d (a ++ b) r = (runG cm o d a r).bind (runG cm o d b) := by
  induction a with
  | nil => intro r; rfl
  | cons x a ih => intro r; rw [List.cons_append, runG, runG]; cases stepG cm o d x r <;> simp [ih]
theorem runG_snoc (cm : Inst → Option Int) (o d : Int) (a : List Inst) (x : Inst) (r : List Bool) : runG cm o d (a ++ [x]) r = (runG cm o d a r).bind (stepG cm o d x) := by
  rw [runG_append]
  cases runG cm o d a r with
  | none => rfl
  | some r' => simp only [Option.bind_some, runG]; cases stepG cm o d x r' <;> rfl
theorem stepG_len {cm : Inst → Option Int} {o d : Int} {x : Inst} {r r' : List Bool} (h : stepG cm o d x r = some r') : r'.length ≤ r.length + 1 := by
  unfold stepG at h
  split at h
  · cases h; simp
  split at h
  · split at h
    · cases h; simp
    · cases h
  split at h
  · cases h; simp
  split at h
  · cases h; simp
  split at h
  · split at h
    · cases h; simp
    · cases h
  split at h
  · split at h
    · cases h; simp
    · cases h
  · cases h
theorem AskAt.up {w : World} {a H H' : Nat} {vv : Value} {o d : Int} {dv cv f : Value} {L : List Bool} (h : AskAt w a H vv o d dv cv f L) (hh : H ≤ H') : AskAt w a H' vv o d dv cv f L := by
  obtain ⟨rv, h1, h2, h3, h4⟩ := h
  exact ⟨rv, h1, h2, by omega, fun g hg => by have := h4 g hg; omega⟩
def SidesPost (R : Option Bool) (w : World) (e : Ending) (w' : World) : Prop := e = .returned (.tuple #[.bool (optB R), .int .i64 (optE R)]) ∧ Below w.heap.size w w'

set_option maxRecDepth 100000 in
set_option maxHeartbeats 2000000 in
theorem sides_bad (l : List Inst) (lv : Value) (S : Nat → Prop) (k : Nat) (caps : Array Value) (vv : Value) (o d : Int) (dv cv : Value) (w : World) (h : (sliceR instR).one w S lv l) (hS : ∀ b, S b → b < w.heap.size) (hl : l.length ≤ 900) (hbad : checkE (l.map Inst.op) ≠ 0) :
    Calls Try.prog 107 #[lv, .func (.func k) #[] caps, stAgg vv o d dv cv] w (SidesPost none w) := by
  have hmf : ∀ (fn : Fn) (first cap : Array Value) (w : World), (Instr.makeFunc fn first cap).run Try.prog w = .ok (.func fn first cap) w := fun _ _ _ _ => rfl
  have Hsl := hide h
  have HS := hide hS
  obtain ⟨E, hE⟩ : ∃ E, E = checkE (l.map Inst.op) := ⟨_, rfl⟩
  have hne : (E != 0) = true := by rw [hE]; simpa using hbad
  have HE := hide hE
  clear h hS hbad hE
  have hnil := lessNotNil k caps
  obtain ⟨hz, hb0, hB0, hB1, hB2⟩ := W0_facts w vv o d dv cv
  obtain ⟨X, hX⟩ : ∃ X, X = W0 w vv o d dv cv := ⟨_, rfl⟩
  rw [← hX] at hz hb0 hB0 hB1 hB2
  unfold W0 at hX
  have HX := hide hX
  have H0 := hide hb0
  have HB1 := hide hB1
  have HB2 := hide hB2
  clear hX hb0 hB0 hB1 hB2
  go_enter_defers Try.func107, Try.ntmps107
  go_wp2_with fail
  rw [← HX.out]
  refine (shape_any l lv S X (slice_below Hsl.out H0.out HS.out) (fun b hb => Nat.lt_of_lt_of_le (HS.out b hb) H0.out.size) (by omega)).mono ?_
  rintro e w1 ⟨u, rfl, hown, hb1⟩
  have hsh := slice_ownP (r := itemR) Item.cells (l := l.map itemOf) (fun x hx => by
    obtain ⟨y, hy, rfl⟩ := List.mem_map.1 hx
    obtain ⟨i, hi, rfl⟩ := List.getElem_of_mem hy
    exact ⟨rfl, item_ok _ (insts_ok Hsl.out _ (List.getElem_mem hi))⟩) hown (by decide)
  have Hsh := hide hsh
  clear hown hsh
  go_wp2_with fail
  refine (check_any (l.map itemOf) u _ w1 Hsh.out (fun b hb => hb.2)).mono ?_
  rintro e w2 ⟨rfl, hb2⟩
  rw [itemOf_op, ← HE.out]
  have hX2 : Below X.heap.size X w2 := hb1.trans (hb2.mono hb1.size)
  have B1 := HB1.out.below hX2 (by omega)
  have B2 := HB2.out.below hX2 (by omega)
  have c1 := B1.cell 0
  have c2 := B2.cell 0
  have f1 := B1.frozen 0
  have f2 := B2.frozen 0
  simp at c1 c2
  have D1 := (B1.set_ 0 (.bool false)).far (p := ⟨w.heap.size + 1 + 1, 0, none⟩) (by simp) (.int .i64 17)
  have D2 := (B2.far (p := ⟨w.heap.size + 1, 0, none⟩) (by simp) (.bool false)).set_ 0 (.int .i64 17)
  have d1 := D1.cell 0
  have d2 := D2.cell 0
  simp at d1 d2
  have HX2 := hide hX2
  clear hX2 hb1 hb2 B1 B2 D1 D2
  go_wp2_with fail
  refine leaves_cons (f := 121) (args := #[.pointer (some ⟨w.heap.size + 1, 0, none⟩), .pointer (some ⟨w.heap.size + 1 + 1, 0, none⟩)]) (by simp) (by simp [go_sem]) ?_
  refine (catch_idle ⟨w.heap.size + 1, 0, none⟩ ⟨w.heap.size + 1 + 1, 0, none⟩ _).mono ?_
  rintro e u' w'' ⟨rfl, rfl, rfl⟩
  simp [Leaves, settle, results, Try.results107, go_sem, d1, d2]
  exact ⟨rfl, ((H0.out.trans (HX2.out.mono H0.out.size)).setCell (by show _ ≤ w.heap.size + 1; omega) _).setCell (by show _ ≤ w.heap.size + 1 + 1; omega) _⟩

set_option maxRecDepth 100000 in
set_option maxHeartbeats 2000000 in
theorem sides_ok (l : List Inst) (lv : Value) (S : Nat → Prop) (k : Nat) (caps : Array Value) (vv : Value) (o d : Int) (dv cv : Value) (w : World) (h : (sliceR instR).one w S lv l) (hS : ∀ b, S b → b < w.heap.size) (hl : l.length ≤ 900) (hbad : checkE (l.map Inst.op) = 0)
    (hcf : ∀ (args : Array Value) (w : World), (callFunc k args).run Try.prog w = .ok (.enter k args) w) (cm : Inst → Option Int) (HL : Hid (∀ x ∈ l, LessOK k caps cm x w)) :
    Calls Try.prog 107 #[lv, .func (.func k) #[] caps, stAgg vv o d dv cv] w (SidesPost (holdsG cm o d l) w) := by
  have hmf : ∀ (fn : Fn) (first cap : Array Value) (w : World), (Instr.makeFunc fn first cap).run Try.prog w = .ok (.func fn first cap) w := fun _ _ _ _ => rfl
  have Hsl := hide h
  have HS := hide hS
  obtain ⟨R, hR⟩ : ∃ R, R = holdsG cm o d l := ⟨_, rfl⟩
  rw [← hR]
  have hRR : R = topO (runG cm o d l []) := by rw [hR]; unfold holdsG; rw [if_neg (by simpa using hbad)]; exact topO_eq _
  have HR := hide hRR
  clear hR hRR
  obtain ⟨E, hE⟩ : ∃ E, E = checkE (l.map Inst.op) := ⟨_, rfl⟩
  have hne : (E != 0) = false := by rw [hE]; simpa using hbad
  have HE := hide hE
  clear h hS hbad hE
  have hnil := lessNotNil k caps
  obtain ⟨hz, hb0, hB0, hB1, hB2⟩ := W0_facts w vv o d dv cv
  obtain ⟨X, hX⟩ : ∃ X, X = W0 w vv o d dv cv := ⟨_, rfl⟩
  rw [← hX] at hz hb0 hB0 hB1 hB2
  unfold W0 at hX
  have HX := hide hX
  have H0 := hide hb0
  have HB0 := hide hB0
  have HB1 := hide hB1
  have HB2 := hide hB2
  clear hX hb0 hB0 hB1 hB2
  go_enter_defers Try.func107, Try.ntmps107
  go_wp2_with fail
  rw [← HX.out]
  refine (shape_any l lv S X (slice_below Hsl.out H0.out HS.out) (fun b hb => Nat.lt_of_lt_of_le (HS.out b hb) H0.out.size) (by omega)).mono ?_
  rintro e w1 ⟨u, rfl, hown, hb1⟩
  have hsh := slice_ownP (r := itemR) Item.cells (l := l.map itemOf) (fun x hx => by
    obtain ⟨y, hy, rfl⟩ := List.mem_map.1 hx
    obtain ⟨i, hi, rfl⟩ := List.getElem_of_mem hy
    exact ⟨rfl, item_ok _ (insts_ok Hsl.out _ (List.getElem_mem hi))⟩) hown (by decide)
  have Hsh := hide hsh
  clear hown hsh
  go_wp2_with fail
  refine (check_any (l.map itemOf) u _ w1 Hsh.out (fun b hb => hb.2)).mono ?_
  rintro e w2 ⟨rfl, hb2⟩
  rw [itemOf_op, ← HE.out]
  have hX2 : Below X.heap.size X w2 := hb1.trans (hb2.mono hb1.size)
  have B1 := HB1.out.below hX2 (by omega)
  have B2 := HB2.out.below hX2 (by omega)
  have B0 := HB0.out.below hX2 (by omega)
  have s0 := B0.cell 0
  have s1 := B0.cell 1
  have s2 := B0.cell 2
  have s3 := B0.cell 3
  have s4 := B0.cell 4
  simp at s0 s1 s2 s3 s4
  obtain ⟨Y, hY⟩ : ∃ Y, Y = w2.alloc (.cells #[vv, .int .i64 o, .int .i64 d, dv, cv, .func (.func k) #[] caps, .slice none 0 0] 162) := ⟨_, rfl⟩
  have hX2s := hX2.size
  have hY1 : Below w.heap.size w Y := by rw [hY]; exact (H0.out.trans (hX2.mono (by omega))).alloc (by omega) _
  have hY2 : AskAt Y w2.heap.size Y.heap.size vv o d dv cv (.func (.func k) #[] caps) [] := by
    rw [hY]
    exact ⟨_, Blk.new _ _ _, World.ownsRow_nil _ _ _ _, by simp, fun g hg => by simp [Value.ownBlock] at hg⟩
  have B1' := B1.alloc (.cells #[vv, .int .i64 o, .int .i64 d, dv, cv, .func (.func k) #[] caps, .slice none 0 0] 162)
  have B2' := B2.alloc (.cells #[vv, .int .i64 o, .int .i64 d, dv, cv, .func (.func k) #[] caps, .slice none 0 0] 162)
  rw [← hY] at B1' B2'
  have hYz : Y.heap.size = w2.heap.size + 1 := by rw [hY]; simp
  have HY := hide hY
  have HY1 := hide hY1
  have HY2 := hide hY2
  have HB1Y := hide B1'
  have HB2Y := hide B2'
  obtain ⟨A, c, rfl, hc, hc2⟩ := slice_form Hsl.out
  clear hX2 hb1 hb2 B1 B2 B0 hY hY1 hY2 B1' B2' HB0 HB1 HB2
  go_wp2_with fail
  rw [← HY.out]
  go_loopw [26] (fun iv wr => ∃ (k' : Nat) (L : List Bool), k' ≤ l.length ∧ iv = .int .i64 (k' : Int) ∧ runG cm o d (l.take k') [] = some L.reverse ∧ L.length ≤ k' ∧ AskAt wr w2.heap.size wr.heap.size vv o d dv cv (.func (.func k) #[] caps) L ∧ Below w2.heap.size Y wr ∧ Y.heap.size ≤ wr.heap.size)
    (fun iv wr => l.length - (intOf iv).toNat)
  case atStart => exact ⟨0, [], Nat.zero_le _, rfl, rfl, Nat.le_refl _, HY2.out, Below.refl _ _, Nat.le_refl _⟩
  case round =>
    obtain ⟨i, L, hi, rfl, hrun, hLi, hask, hbl, hysz⟩ := hrel
    have hbw : Below w.heap.size w wr := HY1.out.trans (hbl.mono (by omega))
    have Hrun := hide hrun
    have Hask := hide hask
    clear hrun hask
    by_cases hlt : i < l.length
    · have hsl := slice_below Hsl.out hbw HS.out
      obtain ⟨b, ob, hv, _, _⟩ := slice_some hsl (by omega)
      subst hv
      obtain ⟨hcs, hok⟩ := insts_at hsl hlt
      have hLess := HL.out l[i] (List.getElem_mem hlt)
      have htk : runG cm o d (l.take (i + 1)) [] = stepG cm o d l[i] L.reverse := by
        rw [List.take_succ_eq_append_getElem hlt, runG_snoc, Hrun.out]; rfl
      have hall : runG cm o d l [] = (stepG cm o d l[i] L.reverse).bind (runG cm o d (l.drop (i + 1))) := by
        rw [← htk, ← runG_append, List.take_append_drop]
      have Htk := hide htk
      have Hall := hide hall
      have HLess := hide hLess
      have c0 := hcs 0 _ rfl
      have c1 := hcs 1 _ rfl
      have c2 := hcs 2 _ rfl
      have c3 := hcs 3 _ rfl
      have c4 := hcs 4 _ rfl
      have c5 := hcs 5 _ rfl
      have c6 := hcs 6 _ rfl
      clear htk hall hLess hok hcs hsl
      generalize l[i] = x at *
      obtain ⟨xop, xla, xln, xra, xrn, xn, xu⟩ := x
      simp only [Nat.add_zero] at c0 c1 c2 c3 c4 c5 c6
      have hbx := hbw.alloc (by have := hbw.size; omega) (.cells #[.int .i64 xop, .int .i64 xla, .int .i64 xln, .int .i64 xra, .int .i64 xrn, .int .i64 xn, .int .i64 xu] 92)
      have hax := (Hask.out.below ((Below.refl wr.heap.size wr).alloc (Nat.le_refl _) (.cells #[.int .i64 xop, .int .i64 xla, .int .i64 xln, .int .i64 xra, .int .i64 xrn, .int .i64 xn, .int .i64 xu] 92))).up (H' := (wr.alloc (.cells #[.int .i64 xop, .int .i64 xla, .int .i64 xln, .int .i64 xra, .int .i64 xrn, .int .i64 xn, .int .i64 xu] 92)).heap.size) (by simp)
      cases hst : stepG cm o d ⟨xop, xla, xln, xra, xrn, xn, xu⟩ L.reverse with
      | some r' =>
        have hC := hide (step_some ⟨xop, xla, xln, xra, xrn, xn, xu⟩ cm w2.heap.size k caps vv o d dv cv L r' _ w hax (by omega) hcf HLess.out hbx hst)
        have Hst := hide hst
        clear hst hax hbx
        go_wp2_with fail
        refine hC.out.mono ?_
        rintro e w3 ⟨rfl, ha3, hb3, hs3⟩
        have hlen := stepG_len Hst.out
        rw [List.length_reverse] at hlen
        have Hb3 := hide hb3
        have hs4 : wr.heap.size + 1 ≤ w3.heap.size := by simpa using hs3
        clear hb3 hs3
        go_wp2_with fail
        go_roundw
        case rel => exact ⟨i + 1, r'.reverse, by omega, by go_num, by rw [Htk.out, Hst.out, List.reverse_reverse], by rw [List.length_reverse]; omega, ha3, (hbl.alloc (by omega) _).trans Hb3.out, by omega⟩
        case measure => simp [intOf]; omega
      | none =>
        have hC := hide (step_none ⟨xop, xla, xln, xra, xrn, xn, xu⟩ cm w2.heap.size k caps vv o d dv cv L _ w hax (by omega) hcf HLess.out hbx hst)
        have hRn : R = none := by rw [HR.out, Hall.out, hst]; rfl
        have HRn := hide hRn
        clear hst hax hbx hRn
        go_wp2_with fail
        refine hC.out.mono ?_
        rintro e w3 ⟨rfl, hb3⟩
        have hbY3 : Below w2.heap.size Y w3 := (hbl.alloc (by omega) _).trans hb3
        have hD := hide (catch_lost (w.heap.size + 1) (w.heap.size + 1 + 1) false 0 w3 (HB1Y.out.below hbY3 (by omega)) (HB2Y.out.below hbY3 (by omega)) (by omega) (B := w.heap.size) (by omega) (by omega))
        refine leaves_cons (f := 121) (args := #[.pointer (some ⟨w.heap.size + 1, 0, none⟩), .pointer (some ⟨w.heap.size + 1 + 1, 0, none⟩)]) (by simp) (by simp [go_sem]) ?_
        refine hD.out.mono ?_
        rintro e u' w'' ⟨rfl, rfl, e1, e2, e3⟩
        have d1 := e1.cell 0
        have d2 := e2.cell 0
        simp at d1 d2
        simp [Leaves, settle, results, Try.results107, go_sem, d1, d2]
        exact ⟨by rw [HRn.out]; rfl, (HY1.out.trans (hbY3.mono (by omega))).trans e3⟩
    · obtain rfl : i = l.length := by omega
      have hfull := Hrun.out
      rw [List.take_length] at hfull
      rcases nil_or_snoc L with rfl | ⟨q, b, rfl⟩
      · have hRn : R = none := by rw [HR.out, hfull]; rfl
        have HRn := hide hRn
        have hC := hide (askPopNone w2.heap.size wr.heap.size vv o d dv cv _ wr Hask.out)
        clear hRn hfull
        go_wp2_with fail
        refine hC.out.mono ?_
        rintro e w3 ⟨rfl, rfl⟩
        have hD := hide (catch_lost (w.heap.size + 1) (w.heap.size + 1 + 1) false 0 wr (HB1Y.out.below hbl (by omega)) (HB2Y.out.below hbl (by omega)) (by omega) (B := w.heap.size) (by omega) (by omega))
        refine leaves_cons (f := 121) (args := #[.pointer (some ⟨w.heap.size + 1, 0, none⟩), .pointer (some ⟨w.heap.size + 1 + 1, 0, none⟩)]) (by simp) (by simp [go_sem]) ?_
        refine hD.out.mono ?_
        rintro e u' w'' ⟨rfl, rfl, e1, e2, e3⟩
        have d1 := e1.cell 0
        have d2 := e2.cell 0
        simp at d1 d2
        simp [Leaves, settle, results, Try.results107, go_sem, d1, d2]
        exact ⟨by rw [HRn.out]; rfl, hbw.trans e3⟩
      · have hRs : R = some b := by rw [HR.out, hfull]; simp [topO]
        have HRs := hide hRs
        have hC := hide (askPop w2.heap.size wr.heap.size vv o d dv cv _ q b wr Hask.out (by simp at hLi; omega))
        clear hRs hfull
        go_wp2_with fail
        refine hC.out.mono ?_
        rintro e w3 ⟨rfl, _, hb3, hs3, _⟩
        have hbY3 : Below w2.heap.size Y w3 := hbl.trans hb3
        have B1 := HB1Y.out.below hbY3 (by omega)
        have B2 := HB2Y.out.below hbY3 (by omega)
        have c1 := B1.cell 0
        have c2 := B2.cell 0
        have f1 := B1.frozen 0
        have f2 := B2.frozen 0
        simp at c1 c2
        have D1 := (B1.set_ 0 (.bool b)).far (p := ⟨w.heap.size + 1 + 1, 0, none⟩) (by simp) (.int .i64 0)
        have D2 := (B2.far (p := ⟨w.heap.size + 1, 0, none⟩) (by simp) (.bool b)).set_ 0 (.int .i64 0)
        have d1 := D1.cell 0
        have d2 := D2.cell 0
        simp at d1 d2
        have HbY3 := hide hbY3
        clear B1 B2 D1 D2 hb3 hbY3
        go_wp2_with fail
        refine leaves_cons (f := 121) (args := #[.pointer (some ⟨w.heap.size + 1, 0, none⟩), .pointer (some ⟨w.heap.size + 1 + 1, 0, none⟩)]) (by simp) (by simp [go_sem]) ?_
        refine (catch_idle ⟨w.heap.size + 1, 0, none⟩ ⟨w.heap.size + 1 + 1, 0, none⟩ _).mono ?_
        rintro e u' w'' ⟨rfl, rfl, rfl⟩
        simp [Leaves, settle, results, Try.results107, go_sem, d1, d2]
        exact ⟨by rw [HRs.out]; rfl, ((HY1.out.trans (HbY3.out.mono (by omega))).setCell (by show _ ≤ w.heap.size + 1; omega) _).setCell (by show _ ≤ w.heap.size + 1 + 1; omega) _⟩
end Go.Proofs.Ytfocnmkbnccilaa
