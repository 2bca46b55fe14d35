/-
  Parts of the proof: EvSides2, EvHolds, C2, D4, D6, D7, D9, AlR, AlU.
-/
import Derived.Test.YtfeclebkaambhaaGreatAta6
import Derived.Conc.MuLone
import Derived.TacticsIn
import Derived.RangeFuncIn
import Derived.RangeFuncCalls
import Derived.RangeFuncRecord
set_option linter.unusedVariables false
set_option linter.unusedSimpArgs false
namespace Go.Proofs.YtfeclebkaambhaaGreat
section
open Go.RowKit

theorem lessNotNil (k : Nat) (caps : Array Value) (w : World) : (binOp BinOp.eql 82 (.func (.func k) #[] caps) .nilFunc).run Tryz.prog w = .ok (.bool false) w := by kernel_rfl
/-- the world behind the parameters' boxes -/
def W0 (w : World) (vv : Value) (o d : Int) (dv cv : Value) : World := ((w.alloc (.cells #[vv, .int .i64 o, .int .i64 d, dv, cv] 62)).alloc (.cells #[.bool false] 4)).alloc (.cells #[.int .i64 0] 65)
theorem W0_facts (w : World) (vv : Value) (o d : Int) (dv cv : Value) : (W0 w vv o d dv cv).heap.size = w.heap.size + 3 ∧ Below w.heap.size w (W0 w vv o d dv cv) ∧ Blk (W0 w vv o d dv cv) w.heap.size 62 #[vv, .int .i64 o, .int .i64 d, dv, cv] ∧
    Blk (W0 w vv o d dv cv) (w.heap.size + 1) 4 #[.bool false] ∧ Blk (W0 w vv o d dv cv) (w.heap.size + 1 + 1) 65 #[.int .i64 0] := by
  unfold W0
  refine ⟨by simp, (((Below.refl _ _).alloc (Nat.le_refl _) _).alloc (by simp) _).alloc (by simp; omega) _, (((Blk.new w _ _).alloc _).alloc _), ?_, ?_⟩
  · have := (Blk.new (w.alloc (.cells #[vv, .int .i64 o, .int .i64 d, dv, cv] 62)) 4 #[.bool false]).alloc (.cells #[.int .i64 0] 65)
    simpa using this
  · have := Blk.new ((w.alloc (.cells #[vv, .int .i64 o, .int .i64 d, dv, cv] 62)).alloc (.cells #[.bool false] 4)) 65 #[.int .i64 0]
    simpa using this
theorem item_ok (x : Inst) (h : x.ok) : (itemOf x).ok := by
  refine ⟨h.1, ?_, ?_, ?_, ?_, ?_, ?_, ?_, ?_⟩ <;> first | exact ⟨by simp [itemOf], by simp [itemOf]⟩ | exact Nat.zero_le _
theorem insts_ok {w : World} {S : Nat → Prop} {v : Value} {l : List Inst} (h : (sliceR instR).one w S v l) : ∀ x ∈ l, x.ok := by
  intro x hx
  obtain ⟨i, hi, rfl⟩ := List.getElem_of_mem hx
  obtain ⟨A, c, rfl, _, _⟩ := slice_form h
  obtain ⟨b, o, hv, _, _⟩ := slice_some h (by omega)
  subst hv
  exact (insts_at h hi).2
def topO : Option (List Bool) → Option Bool
  | some (b :: _) => some b
  | _ => none
theorem topO_eq (x : Option (List Bool)) : (match x with | some (b :: _) => some b | _ => none) = topO x := by
  match x with
  | none => rfl
  | some [] => rfl
  | some (_ :: _) => rfl
theorem runG_append (cm : Inst → Option Int) (o d : Int) (a b : List Inst) : ∀ r, runG cm o d (a ++ b) r = (runG cm o d a r).bind (runG cm o d b) := by
  induction a with
  | nil => intro r; rfl
  | cons x a ih => intro r; rw [List.cons_append, runG, runG]; cases stepG cm o d x r <;> simp [ih]
theorem runG_snoc (cm : Inst → Option Int) (o d : Int) (a : List Inst) (x : Inst) (r : List Bool) : runG cm o d (a ++ [x]) r = (runG cm o d a r).bind (stepG cm o d x) := by
  rw [runG_append]
  cases runG cm o d a r with
  | none => rfl
  | some r' => simp only [Option.bind_some, runG]; cases stepG cm o d x r' <;> rfl
theorem stepG_len {cm : Inst → Option Int} {o d : Int} {x : Inst} {r r' : List Bool} (h : stepG cm o d x r = some r') : r'.length ≤ r.length + 1 := by
  unfold stepG at h
  split at h
  · cases h; simp
  split at h
  · split at h
    · cases h; simp
    · cases h
  split at h
  · cases h; simp
  split at h
  · cases h; simp
  split at h
  · split at h
    · cases h; simp
    · cases h
  split at h
  · split at h
    · cases h; simp
    · cases h
  · cases h
theorem AskAt.up {w : World} {a H H' : Nat} {vv : Value} {o d : Int} {dv cv f : Value} {L : List Bool} (h : AskAt w a H vv o d dv cv f L) (hh : H ≤ H') : AskAt w a H' vv o d dv cv f L := by
  obtain ⟨rv, h1, h2, h3, h4⟩ := h
  exact ⟨rv, h1, h2, by omega, fun g hg => by have := h4 g hg; omega⟩
def SidesPost (R : Option Bool) (w : World) (e : Ending) (w' : World) : Prop := e = .returned (.tuple #[.bool (optB R), .int .i64 (optE R)]) ∧ Below w.heap.size w w'

set_option maxRecDepth 100000 in
set_option maxHeartbeats 2000000 in
theorem sides_bad (l : List Inst) (lv : Value) (S : Nat → Prop) (k : Nat) (caps : Array Value) (vv : Value) (o d : Int) (dv cv : Value) (w : World) (h : (sliceR instR).one w S lv l) (hS : ∀ b, S b → b < w.heap.size) (hl : l.length ≤ 900) (hbad : checkE (l.map Inst.op) ≠ 0) :
    Calls Tryz.prog 34 #[lv, .func (.func k) #[] caps, stAgg vv o d dv cv] w (SidesPost none w) := by
  have hmf : ∀ (fn : Fn) (first cap : Array Value) (w : World), (Instr.makeFunc fn first cap).run Tryz.prog w = .ok (.func fn first cap) w := fun _ _ _ _ => rfl
  have Hsl := hide h
  have HS := hide hS
  obtain ⟨E, hE⟩ : ∃ E, E = checkE (l.map Inst.op) := ⟨_, rfl⟩
  have hne : (E != 0) = true := by rw [hE]; simpa using hbad
  have HE := hide hE
  clear h hS hbad hE
  have hnil := lessNotNil k caps
  obtain ⟨hz, hb0, hB0, hB1, hB2⟩ := W0_facts w vv o d dv cv
  obtain ⟨X, hX⟩ : ∃ X, X = W0 w vv o d dv cv := ⟨_, rfl⟩
  rw [← hX] at hz hb0 hB0 hB1 hB2
  unfold W0 at hX
  have HX := hide hX
  have H0 := hide hb0
  have HB1 := hide hB1
  have HB2 := hide hB2
  clear hX hb0 hB0 hB1 hB2
  go_enter_defers Tryz.func34, Tryz.ntmps34
  go_wp2_with fail
  rw [← HX.out]
  refine (shape_any l lv S X (slice_below Hsl.out H0.out HS.out) (fun b hb => Nat.lt_of_lt_of_le (HS.out b hb) H0.out.size) (by omega)).mono ?_
  rintro e w1 ⟨u, rfl, hown, hb1⟩
  have hsh := slice_ownP (r := itemR) Item.cells (l := l.map itemOf) (fun x hx => by
    obtain ⟨y, hy, rfl⟩ := List.mem_map.1 hx
    obtain ⟨i, hi, rfl⟩ := List.getElem_of_mem hy
    exact ⟨rfl, item_ok _ (insts_ok Hsl.out _ (List.getElem_mem hi))⟩) hown (by decide)
  have Hsh := hide hsh
  clear hown hsh
  go_wp2_with fail
  refine (check_any (l.map itemOf) u _ w1 Hsh.out (fun b hb => hb.2)).mono ?_
  rintro e w2 ⟨rfl, hb2⟩
  rw [itemOf_op, ← HE.out]
  have hX2 : Below X.heap.size X w2 := hb1.trans (hb2.mono hb1.size)
  have B1 := HB1.out.below hX2 (by omega)
  have B2 := HB2.out.below hX2 (by omega)
  have c1 := B1.cell 0
  have c2 := B2.cell 0
  have f1 := B1.frozen 0
  have f2 := B2.frozen 0
  simp at c1 c2
  have D1 := (B1.set_ 0 (.bool false)).far (p := ⟨w.heap.size + 1 + 1, 0, none⟩) (by simp) (.int .i64 17)
  have D2 := (B2.far (p := ⟨w.heap.size + 1, 0, none⟩) (by simp) (.bool false)).set_ 0 (.int .i64 17)
  have d1 := D1.cell 0
  have d2 := D2.cell 0
  simp at d1 d2
  have HX2 := hide hX2
  clear hX2 hb1 hb2 B1 B2 D1 D2
  go_wp2_with fail
  refine leaves_cons (f := 58) (args := #[.pointer (some ⟨w.heap.size + 1, 0, none⟩), .pointer (some ⟨w.heap.size + 1 + 1, 0, none⟩)]) (by simp) (by simp [go_sem]) ?_
  refine (catch_idle ⟨w.heap.size + 1, 0, none⟩ ⟨w.heap.size + 1 + 1, 0, none⟩ _).mono ?_
  rintro e u' w'' ⟨rfl, rfl, rfl⟩
  simp [Leaves, settle, results, Tryz.results34, go_sem, d1, d2]
  exact ⟨rfl, ((H0.out.trans (HX2.out.mono H0.out.size)).setCell (by show _ ≤ w.heap.size + 1; omega) _).setCell (by show _ ≤ w.heap.size + 1 + 1; omega) _⟩

set_option maxRecDepth 100000 in
set_option maxHeartbeats 2000000 in
theorem sides_ok (l : List Inst) (lv : Value) (S : Nat → Prop) (k : Nat) (caps : Array Value) (vv : Value) (o d : Int) (dv cv : Value) (w : World) (h : (sliceR instR).one w S lv l) (hS : ∀ b, S b → b < w.heap.size) (hl : l.length ≤ 900) (hbad : checkE (l.map Inst.op) = 0)
    (hcf : ∀ (args : Array Value) (w : World), (callFunc k args).run Tryz.prog w = .ok (.enter k args) w) (cm : Inst → Option Int) (HL : Hid (∀ x ∈ l, LessOK k caps cm x w)) :
    Calls Tryz.prog 34 #[lv, .func (.func k) #[] caps, stAgg vv o d dv cv] w (SidesPost (holdsG cm o d l) w) := by
  have hmf : ∀ (fn : Fn) (first cap : Array Value) (w : World), (Instr.makeFunc fn first cap).run Tryz.prog w = .ok (.func fn first cap) w := fun _ _ _ _ => rfl
  have Hsl := hide h
  have HS := hide hS
  obtain ⟨R, hR⟩ : ∃ R, R = holdsG cm o d l := ⟨_, rfl⟩
  rw [← hR]
  have hRR : R = topO (runG cm o d l []) := by rw [hR]; unfold holdsG; rw [if_neg (by simpa using hbad)]; exact topO_eq _
  have HR := hide hRR
  clear hR hRR
  obtain ⟨E, hE⟩ : ∃ E, E = checkE (l.map Inst.op) := ⟨_, rfl⟩
  have hne : (E != 0) = false := by rw [hE]; simpa using hbad
  have HE := hide hE
  clear h hS hbad hE
  have hnil := lessNotNil k caps
  obtain ⟨hz, hb0, hB0, hB1, hB2⟩ := W0_facts w vv o d dv cv
  obtain ⟨X, hX⟩ : ∃ X, X = W0 w vv o d dv cv := ⟨_, rfl⟩
  rw [← hX] at hz hb0 hB0 hB1 hB2
  unfold W0 at hX
  have HX := hide hX
  have H0 := hide hb0
  have HB0 := hide hB0
  have HB1 := hide hB1
  have HB2 := hide hB2
  clear hX hb0 hB0 hB1 hB2
  go_enter_defers Tryz.func34, Tryz.ntmps34
  go_wp2_with fail
  rw [← HX.out]
  refine (shape_any l lv S X (slice_below Hsl.out H0.out HS.out) (fun b hb => Nat.lt_of_lt_of_le (HS.out b hb) H0.out.size) (by omega)).mono ?_
  rintro e w1 ⟨u, rfl, hown, hb1⟩
  have hsh := slice_ownP (r := itemR) Item.cells (l := l.map itemOf) (fun x hx => by
    obtain ⟨y, hy, rfl⟩ := List.mem_map.1 hx
    obtain ⟨i, hi, rfl⟩ := List.getElem_of_mem hy
    exact ⟨rfl, item_ok _ (insts_ok Hsl.out _ (List.getElem_mem hi))⟩) hown (by decide)
  have Hsh := hide hsh
  clear hown hsh
  go_wp2_with fail
  refine (check_any (l.map itemOf) u _ w1 Hsh.out (fun b hb => hb.2)).mono ?_
  rintro e w2 ⟨rfl, hb2⟩
  rw [itemOf_op, ← HE.out]
  have hX2 : Below X.heap.size X w2 := hb1.trans (hb2.mono hb1.size)
  have B1 := HB1.out.below hX2 (by omega)
  have B2 := HB2.out.below hX2 (by omega)
  have B0 := HB0.out.below hX2 (by omega)
  have s0 := B0.cell 0
  have s1 := B0.cell 1
  have s2 := B0.cell 2
  have s3 := B0.cell 3
  have s4 := B0.cell 4
  simp at s0 s1 s2 s3 s4
  obtain ⟨Y, hY⟩ : ∃ Y, Y = w2.alloc (.cells #[vv, .int .i64 o, .int .i64 d, dv, cv, .func (.func k) #[] caps, .slice none 0 0] 106) := ⟨_, rfl⟩
  have hX2s := hX2.size
  have hY1 : Below w.heap.size w Y := by rw [hY]; exact (H0.out.trans (hX2.mono (by omega))).alloc (by omega) _
  have hY2 : AskAt Y w2.heap.size Y.heap.size vv o d dv cv (.func (.func k) #[] caps) [] := by
    rw [hY]
    exact ⟨_, Blk.new _ _ _, World.ownsRow_nil _ _ _ _, by simp, fun g hg => by simp [Value.ownBlock] at hg⟩
  have B1' := B1.alloc (.cells #[vv, .int .i64 o, .int .i64 d, dv, cv, .func (.func k) #[] caps, .slice none 0 0] 106)
  have B2' := B2.alloc (.cells #[vv, .int .i64 o, .int .i64 d, dv, cv, .func (.func k) #[] caps, .slice none 0 0] 106)
  rw [← hY] at B1' B2'
  have hYz : Y.heap.size = w2.heap.size + 1 := by rw [hY]; simp
  have HY := hide hY
  have HY1 := hide hY1
  have HY2 := hide hY2
  have HB1Y := hide B1'
  have HB2Y := hide B2'
  obtain ⟨A, c, rfl, hc, hc2⟩ := slice_form Hsl.out
  clear hX2 hb1 hb2 B1 B2 B0 hY hY1 hY2 B1' B2' HB0 HB1 HB2
  go_wp2_with fail
  rw [← HY.out]
  go_loopw [26] (fun iv wr => ∃ (k' : Nat) (L : List Bool), k' ≤ l.length ∧ iv = .int .i64 (k' : Int) ∧ runG cm o d (l.take k') [] = some L.reverse ∧ L.length ≤ k' ∧ AskAt wr w2.heap.size wr.heap.size vv o d dv cv (.func (.func k) #[] caps) L ∧ Below w2.heap.size Y wr ∧ Y.heap.size ≤ wr.heap.size)
    (fun iv wr => l.length - (intOf iv).toNat)
  case atStart => exact ⟨0, [], Nat.zero_le _, rfl, rfl, Nat.le_refl _, HY2.out, Below.refl _ _, Nat.le_refl _⟩
  case round =>
    obtain ⟨i, L, hi, rfl, hrun, hLi, hask, hbl, hysz⟩ := hrel
    have hbw : Below w.heap.size w wr := HY1.out.trans (hbl.mono (by omega))
    have Hrun := hide hrun
    have Hask := hide hask
    clear hrun hask
    by_cases hlt : i < l.length
    · have hsl := slice_below Hsl.out hbw HS.out
      obtain ⟨b, ob, hv, _, _⟩ := slice_some hsl (by omega)
      subst hv
      obtain ⟨hcs, hok⟩ := insts_at hsl hlt
      have hLess := HL.out l[i] (List.getElem_mem hlt)
      have htk : runG cm o d (l.take (i + 1)) [] = stepG cm o d l[i] L.reverse := by
        rw [List.take_succ_eq_append_getElem hlt, runG_snoc, Hrun.out]; rfl
      have hall : runG cm o d l [] = (stepG cm o d l[i] L.reverse).bind (runG cm o d (l.drop (i + 1))) := by
        rw [← htk, ← runG_append, List.take_append_drop]
      have Htk := hide htk
      have Hall := hide hall
      have HLess := hide hLess
      have c0 := hcs 0 _ rfl
      have c1 := hcs 1 _ rfl
      have c2 := hcs 2 _ rfl
      have c3 := hcs 3 _ rfl
      have c4 := hcs 4 _ rfl
      have c5 := hcs 5 _ rfl
      have c6 := hcs 6 _ rfl
      clear htk hall hLess hok hcs hsl
      generalize l[i] = x at *
      obtain ⟨xop, xla, xln, xra, xrn, xn, xu⟩ := x
      simp only [Nat.add_zero] at c0 c1 c2 c3 c4 c5 c6
      have hbx := hbw.alloc (by have := hbw.size; omega) (.cells #[.int .i64 xop, .int .i64 xla, .int .i64 xln, .int .i64 xra, .int .i64 xrn, .int .i64 xn, .int .i64 xu] 37)
      have hax := (Hask.out.below ((Below.refl wr.heap.size wr).alloc (Nat.le_refl _) (.cells #[.int .i64 xop, .int .i64 xla, .int .i64 xln, .int .i64 xra, .int .i64 xrn, .int .i64 xn, .int .i64 xu] 37))).up (H' := (wr.alloc (.cells #[.int .i64 xop, .int .i64 xla, .int .i64 xln, .int .i64 xra, .int .i64 xrn, .int .i64 xn, .int .i64 xu] 37)).heap.size) (by simp)
      cases hst : stepG cm o d ⟨xop, xla, xln, xra, xrn, xn, xu⟩ L.reverse with
      | some r' =>
        have hC := hide (step_some ⟨xop, xla, xln, xra, xrn, xn, xu⟩ cm w2.heap.size k caps vv o d dv cv L r' _ w hax (by omega) hcf HLess.out hbx hst)
        have Hst := hide hst
        clear hst hax hbx
        go_wp2_with fail
        refine hC.out.mono ?_
        rintro e w3 ⟨rfl, ha3, hb3, hs3⟩
        have hlen := stepG_len Hst.out
        rw [List.length_reverse] at hlen
        have Hb3 := hide hb3
        have hs4 : wr.heap.size + 1 ≤ w3.heap.size := by simpa using hs3
        clear hb3 hs3
        go_wp2_with fail
        go_roundw
        case rel => exact ⟨i + 1, r'.reverse, by omega, by go_num, by rw [Htk.out, Hst.out, List.reverse_reverse], by rw [List.length_reverse]; omega, ha3, (hbl.alloc (by omega) _).trans Hb3.out, by omega⟩
        case measure => simp [intOf]; omega
      | none =>
        have hC := hide (step_none ⟨xop, xla, xln, xra, xrn, xn, xu⟩ cm w2.heap.size k caps vv o d dv cv L _ w hax (by omega) hcf HLess.out hbx hst)
        have hRn : R = none := by rw [HR.out, Hall.out, hst]; rfl
        have HRn := hide hRn
        clear hst hax hbx hRn
        go_wp2_with fail
        refine hC.out.mono ?_
        rintro e w3 ⟨rfl, hb3⟩
        have hbY3 : Below w2.heap.size Y w3 := (hbl.alloc (by omega) _).trans hb3
        have hD := hide (catch_lost (w.heap.size + 1) (w.heap.size + 1 + 1) false 0 w3 (HB1Y.out.below hbY3 (by omega)) (HB2Y.out.below hbY3 (by omega)) (by omega) (B := w.heap.size) (by omega) (by omega))
        refine leaves_cons (f := 58) (args := #[.pointer (some ⟨w.heap.size + 1, 0, none⟩), .pointer (some ⟨w.heap.size + 1 + 1, 0, none⟩)]) (by simp) (by simp [go_sem]) ?_
        refine hD.out.mono ?_
        rintro e u' w'' ⟨rfl, rfl, e1, e2, e3⟩
        have d1 := e1.cell 0
        have d2 := e2.cell 0
        simp at d1 d2
        simp [Leaves, settle, results, Tryz.results34, go_sem, d1, d2]
        exact ⟨by rw [HRn.out]; rfl, (HY1.out.trans (hbY3.mono (by omega))).trans e3⟩
    · obtain rfl : i = l.length := by omega
      have hfull := Hrun.out
      rw [List.take_length] at hfull
      rcases nil_or_snoc L with rfl | ⟨q, b, rfl⟩
      · have hRn : R = none := by rw [HR.out, hfull]; rfl
        have HRn := hide hRn
        have hC := hide (askPopNone w2.heap.size wr.heap.size vv o d dv cv _ wr Hask.out)
        clear hRn hfull
        go_wp2_with fail
        refine hC.out.mono ?_
        rintro e w3 ⟨rfl, rfl⟩
        have hD := hide (catch_lost (w.heap.size + 1) (w.heap.size + 1 + 1) false 0 wr (HB1Y.out.below hbl (by omega)) (HB2Y.out.below hbl (by omega)) (by omega) (B := w.heap.size) (by omega) (by omega))
        refine leaves_cons (f := 58) (args := #[.pointer (some ⟨w.heap.size + 1, 0, none⟩), .pointer (some ⟨w.heap.size + 1 + 1, 0, none⟩)]) (by simp) (by simp [go_sem]) ?_
        refine hD.out.mono ?_
        rintro e u' w'' ⟨rfl, rfl, e1, e2, e3⟩
        have d1 := e1.cell 0
        have d2 := e2.cell 0
        simp at d1 d2
        simp [Leaves, settle, results, Tryz.results34, go_sem, d1, d2]
        exact ⟨by rw [HRn.out]; rfl, hbw.trans e3⟩
      · have hRs : R = some b := by rw [HR.out, hfull]; simp [topO]
        have HRs := hide hRs
        have hC := hide (askPop w2.heap.size wr.heap.size vv o d dv cv _ q b wr Hask.out (by simp at hLi; omega))
        clear hRs hfull
        go_wp2_with fail
        refine hC.out.mono ?_
        rintro e w3 ⟨rfl, _, hb3, hs3, _⟩
        have hbY3 : Below w2.heap.size Y w3 := hbl.trans hb3
        have B1 := HB1Y.out.below hbY3 (by omega)
        have B2 := HB2Y.out.below hbY3 (by omega)
        have c1 := B1.cell 0
        have c2 := B2.cell 0
        have f1 := B1.frozen 0
        have f2 := B2.frozen 0
        simp at c1 c2
        have D1 := (B1.set_ 0 (.bool b)).far (p := ⟨w.heap.size + 1 + 1, 0, none⟩) (by simp) (.int .i64 0)
        have D2 := (B2.far (p := ⟨w.heap.size + 1, 0, none⟩) (by simp) (.bool b)).set_ 0 (.int .i64 0)
        have d1 := D1.cell 0
        have d2 := D2.cell 0
        simp at d1 d2
        have HbY3 := hide hbY3
        clear B1 B2 D1 D2 hb3 hbY3
        go_wp2_with fail
        refine leaves_cons (f := 58) (args := #[.pointer (some ⟨w.heap.size + 1, 0, none⟩), .pointer (some ⟨w.heap.size + 1 + 1, 0, none⟩)]) (by simp) (by simp [go_sem]) ?_
        refine (catch_idle ⟨w.heap.size + 1, 0, none⟩ ⟨w.heap.size + 1 + 1, 0, none⟩ _).mono ?_
        rintro e u' w'' ⟨rfl, rfl, rfl⟩
        simp [Leaves, settle, results, Tryz.results34, go_sem, d1, d2]
        exact ⟨by rw [HRs.out]; rfl, ((HY1.out.trans (HbY3.out.mono (by omega))).setCell (by show _ ≤ w.heap.size + 1; omega) _).setCell (by show _ ≤ w.heap.size + 1 + 1; omega) _⟩
end
section
open Go.RowKit

theorem lessEnter (args : Array Value) (w : World) : (callFunc 37 args).run Tryz.prog w = .ok (.enter 37 args) w := by
  simp [go_sem, Tryz.func37]
theorem lessOK (vals : List Int) (vv : Value) (S : Nat → Prop) (o d : Int) (dv cv : Value) (sb : Nat) (w : World) (h : (sliceR (intR .i64)).one w S vv vals) (hS : ∀ b, S b → b < w.heap.size) (hb : Blk w sb 62 (stCells vv o d dv cv)) (x : Inst) :
    LessOK 37 #[.pointer (some ⟨sb, 0, none⟩)] (cmS vals) x w := by
  intro w' hw
  have h' := slice_below h hw hS
  have hS' : ∀ b, S b → b < w'.heap.size := fun b hb => Nat.lt_of_lt_of_le (hS b hb) hw.size
  have hb' := hb.below hw hb.lt
  unfold cmS
  cases hx : valO vals x.la x.ln with
  | none => exact less_none1 vals vv S o d dv cv x.la x.ln x.ra x.rn sb w' h' hS' hb' hx |>.mono fun e w'' ⟨p, h1, h2, h3⟩ => ⟨by rw [h1, h2], h3⟩
  | some a =>
    cases hy : valO vals x.ra x.rn with
    | none => exact less_none2 vals vv S o d dv cv x.la x.ln x.ra x.rn a sb w' h' hS' hb' hx hy |>.mono fun e w'' ⟨p, h1, h2, h3⟩ => ⟨by rw [h1, h2], h3⟩
    | some b => exact less_some vals vv S o d dv cv x.la x.ln x.ra x.rn a b sb w' h' hS' hb' hx hy

theorem sides_any (l : List Inst) (lv : Value) (S : Nat → Prop) (k : Nat) (caps : Array Value) (vv : Value) (o d : Int) (dv cv : Value) (w : World) (h : (sliceR instR).one w S lv l) (hS : ∀ b, S b → b < w.heap.size) (hl : l.length ≤ 900)
    (hcf : ∀ (args : Array Value) (w : World), (callFunc k args).run Tryz.prog w = .ok (.enter k args) w) (cm : Inst → Option Int) (HL : ∀ x ∈ l, LessOK k caps cm x w) :
    Calls Tryz.prog 34 #[lv, .func (.func k) #[] caps, stAgg vv o d dv cv] w (SidesPost (holdsG cm o d l) w) := by
  by_cases hc : checkE (l.map Inst.op) = 0
  · exact sides_ok l lv S k caps vv o d dv cv w h hS hl hc hcf cm (hide HL)
  · have e : holdsG cm o d l = none := by unfold holdsG; rw [if_pos hc]
    rw [e]
    exact sides_bad l lv S k caps vv o d dv cv w h hS hl hc

set_option maxHeartbeats 1000000 in
theorem holds_any (l : List Inst) (s : St) (lv vv : Value) (dv cv : Value) (S T : Nat → Prop) (w : World) (h : (sliceR instR).one w S lv l) (hS : ∀ b, S b → b < w.heap.size) (hl : l.length ≤ 900) (hv : (sliceR (intR .i64)).one w T vv s.vals) (hT : ∀ b, T b → b < w.heap.size) :
    Calls Tryz.prog 19 #[lv, stAgg vv s.opn s.don dv cv] w (SidesPost (holdsO l s) w) := by
  obtain ⟨vals, o, d, did, cnt⟩ := s
  simp only at hv ⊢
  unfold holdsO
  simp only
  have hmf : ∀ (fn : Fn) (first cap : Array Value) (w : World), (Instr.makeFunc fn first cap).run Tryz.prog w = .ok (.func fn first cap) w := fun _ _ _ _ => rfl
  have hb0 : Below w.heap.size w (w.alloc (.cells #[vv, .int .i64 o, .int .i64 d, dv, cv] 62)) := (Below.refl _ _).alloc (Nat.le_refl _) _
  have hC := hide (sides_any l lv S 37 #[.pointer (some ⟨w.heap.size, 0, none⟩)] vv o d dv cv _ (slice_below h hb0 hS) (fun b hb => by have := hS b hb; simp; omega) hl lessEnter (cmS vals) (fun x _ => lessOK vals vv T o d dv cv w.heap.size _ (slice_below hv hb0 hT) (fun b hb => by have := hT b hb; simp; omega) (Blk.new w _ _) x))
  have HB := hide hb0
  clear h hS hv hT hb0
  go_enter Tryz.func19, Tryz.ntmps19
  go_wp2_with fail
  refine hC.out.mono ?_
  rintro e w1 ⟨rfl, hb1⟩
  go_wp2_with fail
  go_ret2
  exact ⟨rfl, HB.out.trans (hb1.mono HB.out.size)⟩
end
section
open Go.RowKit

theorem rt_insts {w : World} {S : Nat → Prop} {v : Value} {l : List Inst} (h : RT w S v (sInsts l)) (hl : ∀ x ∈ l, x.ok) : (sliceR instR).one w S v l := by
  obtain ⟨A, cap, rfl, hc, hm, _, hA⟩ := h.sl_inv
  refine ⟨A, cap, by simp, by simpa using hc, hm, fun h0 => ?_⟩
  obtain ⟨b, o, rfl, hb, U, hcell, hr, _⟩ := hA (by simpa using h0)
  refine ⟨b, o, rfl, hb, fun i hi => ⟨l[i].cells, fun j u hu => ?_, rfl, hl _ (List.getElem_mem hi)⟩⟩
  have h1 : (l.map eInst)[i]? = some (eInst l[i]) := by simp [hi]
  have h3 : ∀ (j : Nat) (u : Value), l[i].cells[j]? = some u → (eInst l[i])[j]? = some (AV.c u) := by
    intro j u hu
    unfold Inst.cells at hu
    match j with
    | 0 | 1 | 2 | 3 | 4 | 5 | 6 => simp at hu; subst hu; rfl
    | j + 7 => simp at hu
  have h4 := h3 j u hu
  have h2 := hcell i j _ _ h1 h4
  rw [rtc (hr i j _ _ h1 h4)] at h2
  exact h2
theorem has_A (s i : Int) : ADet Tryz.prog 29 [eI s, eI i] (val (.bool (hasB s i))) :=
  adet_of_calls (enters_of Tryz.func29 rfl (by decide)) fun S w vs hS hn hv => by
    obtain ⟨a, b, rfl⟩ := two_args hn
    obtain rfl := rtc (hv 0 a _ rfl rfl)
    obtain rfl := rtc (hv 1 b _ rfl rfl)
    exact (has_any s i w).mono fun e w' ⟨h1, h2⟩ => ⟨h1, h2 ▸ Below.refl _ _⟩
theorem holds_A (l : List Inst) (s : St) (hl : l.length ≤ 900) (ho : ∀ x ∈ l, x.ok) (hs : ∀ x ∈ s.vals, ok64 x) : ADet Tryz.prog 19 [sInsts l, .agg (eSt s)] ⟨.tup [eB (optB (holdsO l s)), eI (optE (holdsO l s))], [], 0⟩ :=
  ⟨enters_of Tryz.func19 rfl (by decide), fun S w vs hS hn hv => by
    obtain ⟨a, b, rfl⟩ := two_args hn
    have hb := hv 1 b _ rfl rfl
    cases hb with
    | agg xs cs hxn hr =>
      have hx : ∀ j (hj : j < 5), ∃ x, xs[j]? = some x := fun j hj => ⟨_, Array.getElem?_eq_getElem (by simp at hxn; omega)⟩
      obtain ⟨x0, e0⟩ := hx 0 (by omega)
      obtain ⟨x1, e1⟩ := hx 1 (by omega)
      obtain ⟨x2, e2⟩ := hx 2 (by omega)
      obtain ⟨x3, e3⟩ := hx 3 (by omega)
      obtain ⟨x4, e4⟩ := hx 4 (by omega)
      have hxs : xs = #[x0, x1, x2, x3, x4] := by
        apply Array.ext_getElem?
        intro j
        match j with
        | 0 => simpa using e0
        | 1 => simpa using e1
        | 2 => simpa using e2
        | 3 => simpa using e3
        | 4 => simpa using e4
        | j + 5 =>
          rw [Array.getElem?_eq_none (by simp at hxn; omega)]
          simp
      obtain rfl := rtc (hr 1 x1 _ e1 rfl)
      obtain rfl := rtc (hr 2 x2 _ e2 rfl)
      subst hxs
      have h0 := hr 0 x0 _ e0 rfl
      refine (holds_any l s a x0 x3 x4 S (fun b => b < w.heap.size) w (rt_insts (hv 0 a _ rfl rfl) ho) hS hl (rt_ints h0 hS hs) (fun b hb => hb)).mono fun e w' ⟨h1, h2⟩ => ?_
      refine ⟨_, fun _ => undef, _, rfl, ⟨fun id o h => (by cases h), ⟨trivial, trivial, trivial⟩⟩, h1, ⟨belowX h2, fun id o h => (by cases h), fun id id' o o' g h => (by cases h), fun b hb => hb.elim⟩, .tree (.tup _ _ rfl fun j x av h3 h4 => ?_)⟩
      match j with
      | 0 => simp at h3 h4; subst h3; subst h4; exact .c _
      | 1 => simp at h3 h4; subst h3; subst h4; exact .c _
      | j + 2 => simp at h3⟩

/-! ### bstep -/
end
section
open Go.RowKit
set_option maxRecDepth 100000 in
set_option maxHeartbeats 4000000 in
theorem holds16_A (l : List Inst) (s : St) (hl : l.length ≤ 1000000) (ho : ok64 s.opn) (hd : ok64 s.don) : ADet Tryz.prog 22 [sInsts l, .agg (eSt s)] ⟨.tup [eB (optB (holdsO l s)), eI (optE (holdsO l s))], [], 0⟩ := by
  refine adet_of_code mixedT Tryz.func22 rfl (by decide) Tryz.ntmps22 Tryz.results22 rfl (⟨fun id o h => (by cases h), ⟨trivial, trivial, trivial⟩⟩) ?_
  by_cases hc : checkE (l.map Inst.op) = 0 ∧ ∀ x ∈ l, askOk s.vals true x = true
  · have hck := check16_A l s true hl true (by simp only [true_iff]; exact hc)
    obtain ⟨b, h1, h2⟩ := holdsO_some hc.1 hc.2
    have hlen : 0 < l.length ∧ l.length ≤ 64 := by
      have := hc.1
      unfold checkE at this
      simp only [List.length_map] at this
      split at this
      · cases this
      · split at this
        · cases this
        · omega
    have ht : (l.map Inst.op).take 70 = l.map Inst.op := List.take_of_length_le (by simp; omega)
    have hsh := shapeR_A l hl
    rw [ht] at hsh
    have ew : IntKind.i64.wrap ((l.length : Int) - 1) = ((l.length - 1 : Nat) : Int) := by rw [wrap_in (by omega) (by omega)]; omega
    have hat := at16_A l s (by omega) ho hd (l.length) (l.length - 1) (by omega) b [] (by omega) (by rw [show l.length - 1 + 1 = l.length by omega, List.take_length]; exact h1)
    (repeat' (first | simp (maxSteps := 5000000) (implicitDefEqProofs := false) only [ruA, ruB, aEv, aTake, aLoad, aField, aIndex, aLen, aBin, bin2, aUn, un1, aExtract, aConv, ASt.get, aget, ASt.put, aStore, aBox, aAppend, aBuildSlice, aMake, aBuild, aFill, oneParts, allC, aBinS, yv, aCells, oneC, oneCL, treeC, treeL, aLit, aDst, aSrc, appTab, Value.cells, Value.oneCell', envOf, aResL, aOne, ↓reduceIte, reduceCtorEq, forall_const, Nat.reduceLT, Nat.reduceEqDiff, Nat.reduceAdd, Nat.reduceMul, Nat.reduceSub, Nat.reduceLeDiff, Nat.reduceBEq, eq_self, implies_true, ne_eq, dref, dref1, dref2, aExecS, aStoreB, aTakes, aTakeE, aElder, aFrom, aFresh, isLoad, aBuildSlice1, frzs, frz1, ownIds, AV.frz, AV.frzL, frzEnv, AV.shift, AV.shiftL, aFieldV, aSliceW, aSliceO, aSlice, aSliceR, aSliceS, aBd, aMax, frzAVs, frzAV, frzTab, AObj.frz, aMM, aNilS, aMay, tyA_62, tyS_62, tyE_53, tyK_53, tyK_3] | (with_reducible refine aIf_split (fun _ => ?_) (fun _ => ?_)) | (with_reducible refine aSel_split (fun _ => ?_) (fun _ => ?_)) | (with_reducible refine aGd_split (fun _ => ?_) (fun _ => ?_))))
    refine callV hck ?_
    (repeat' (first | simp (maxSteps := 5000000) (implicitDefEqProofs := false) only [ruA, ruB, aEv, aTake, aLoad, aField, aIndex, aLen, aBin, bin2, aUn, un1, aExtract, aConv, ASt.get, aget, ASt.put, aStore, aBox, aAppend, aBuildSlice, aMake, aBuild, aFill, oneParts, allC, aBinS, yv, aCells, oneC, oneCL, treeC, treeL, aLit, aDst, aSrc, appTab, Value.cells, Value.oneCell', envOf, aResL, aOne, ↓reduceIte, reduceCtorEq, forall_const, Nat.reduceLT, Nat.reduceEqDiff, Nat.reduceAdd, Nat.reduceMul, Nat.reduceSub, Nat.reduceLeDiff, Nat.reduceBEq, eq_self, implies_true, ne_eq, dref, dref1, dref2, aExecS, aStoreB, aTakes, aTakeE, aElder, aFrom, aFresh, isLoad, aBuildSlice1, frzs, frz1, ownIds, AV.frz, AV.frzL, frzEnv, AV.shift, AV.shiftL, aFieldV, aSliceW, aSliceO, aSlice, aSliceR, aSliceS, aBd, aMax, frzAVs, frzAV, frzTab, AObj.frz, aMM, aNilS, aMay, tyA_62, tyS_62, tyE_53, tyK_53, tyK_3] | (with_reducible refine aIf_split (fun _ => ?_) (fun _ => ?_)) | (with_reducible refine aSel_split (fun _ => ?_) (fun _ => ?_)) | (with_reducible refine aGd_split (fun _ => ?_) (fun _ => ?_))))
    refine aDraw_held [] [0, 1, 3, 4, 5, 6] (.exec 2 (.exec 7 (.exec 8 (.exec 9 .done)))) (by kernel_rfl) (by simp) ?_
    (repeat' (first | simp (maxSteps := 5000000) (implicitDefEqProofs := false) only [ruA, ruB, aEv, aTake, aLoad, aField, aIndex, aLen, aBin, bin2, aUn, un1, aExtract, aConv, ASt.get, aget, ASt.put, aStore, aBox, aAppend, aBuildSlice, aMake, aBuild, aFill, oneParts, allC, aBinS, yv, aCells, oneC, oneCL, treeC, treeL, aLit, aDst, aSrc, appTab, Value.cells, Value.oneCell', envOf, aResL, aOne, ↓reduceIte, reduceCtorEq, forall_const, Nat.reduceLT, Nat.reduceEqDiff, Nat.reduceAdd, Nat.reduceMul, Nat.reduceSub, Nat.reduceLeDiff, Nat.reduceBEq, eq_self, implies_true, ne_eq, dref, dref1, dref2, aExecS, aStoreB, aTakes, aTakeE, aElder, aFrom, aFresh, isLoad, aBuildSlice1, frzs, frz1, ownIds, AV.frz, AV.frzL, frzEnv, AV.shift, AV.shiftL, aFieldV, aSliceW, aSliceO, aSlice, aSliceR, aSliceS, aBd, aMax, frzAVs, frzAV, frzTab, AObj.frz, aMM, aNilS, aMay, tyA_62, tyS_62, tyE_53, tyK_53, tyK_3, ew] | (with_reducible refine aIf_split (fun _ => ?_) (fun _ => ?_)) | (with_reducible refine aSel_split (fun _ => ?_) (fun _ => ?_)) | (with_reducible refine aGd_split (fun _ => ?_) (fun _ => ?_))))
    refine callO hsh (.inr items_plain) ?_
    (repeat' (first | simp (maxSteps := 5000000) (implicitDefEqProofs := false) only [ruA, ruB, aEv, aTake, aLoad, aField, aIndex, aLen, aBin, bin2, aUn, un1, aExtract, aConv, ASt.get, aget, ASt.put, aStore, aBox, aAppend, aBuildSlice, aMake, aBuild, aFill, oneParts, allC, aBinS, yv, aCells, oneC, oneCL, treeC, treeL, aLit, aDst, aSrc, appTab, Value.cells, Value.oneCell', envOf, aResL, aOne, ↓reduceIte, reduceCtorEq, forall_const, Nat.reduceLT, Nat.reduceEqDiff, Nat.reduceAdd, Nat.reduceMul, Nat.reduceSub, Nat.reduceLeDiff, Nat.reduceBEq, eq_self, implies_true, ne_eq, dref, dref1, dref2, aExecS, aStoreB, aTakes, aTakeE, aElder, aFrom, aFresh, isLoad, aBuildSlice1, frzs, frz1, ownIds, AV.frz, AV.frzL, frzEnv, AV.shift, AV.shiftL, aFieldV, aSliceW, aSliceO, aSlice, aSliceR, aSliceS, aBd, aMax, frzAVs, frzAV, frzTab, AObj.frz, aMM, aNilS, aMay, tyA_62, tyS_62, tyE_53, tyK_53, tyK_3, ew] | (with_reducible refine aIf_split (fun _ => ?_) (fun _ => ?_)) | (with_reducible refine aSel_split (fun _ => ?_) (fun _ => ?_)) | (with_reducible refine aGd_split (fun _ => ?_) (fun _ => ?_))))
    refine callV (by exact hat) ?_
    (repeat' (first | simp (maxSteps := 5000000) (implicitDefEqProofs := false) only [ruA, ruB, aEv, aTake, aLoad, aField, aIndex, aLen, aBin, bin2, aUn, un1, aExtract, aConv, ASt.get, aget, ASt.put, aStore, aBox, aAppend, aBuildSlice, aMake, aBuild, aFill, oneParts, allC, aBinS, yv, aCells, oneC, oneCL, treeC, treeL, aLit, aDst, aSrc, appTab, Value.cells, Value.oneCell', envOf, aResL, aOne, ↓reduceIte, reduceCtorEq, forall_const, Nat.reduceLT, Nat.reduceEqDiff, Nat.reduceAdd, Nat.reduceMul, Nat.reduceSub, Nat.reduceLeDiff, Nat.reduceBEq, eq_self, implies_true, ne_eq, dref, dref1, dref2, aExecS, aStoreB, aTakes, aTakeE, aElder, aFrom, aFresh, isLoad, aBuildSlice1, frzs, frz1, ownIds, AV.frz, AV.frzL, frzEnv, AV.shift, AV.shiftL, aFieldV, aSliceW, aSliceO, aSlice, aSliceR, aSliceS, aBd, aMax, frzAVs, frzAV, frzTab, AObj.frz, aMM, aNilS, aMay, tyA_62, tyS_62, tyE_53, tyK_53, tyK_3] | (with_reducible refine aIf_split (fun _ => ?_) (fun _ => ?_)) | (with_reducible refine aSel_split (fun _ => ?_) (fun _ => ?_)) | (with_reducible refine aGd_split (fun _ => ?_) (fun _ => ?_))))
    exact gives_tree (by rw [h2]; rfl)
  · have hck := check16_A l s true hl false (by simp only [Bool.false_eq_true, false_iff]; exact hc)
    (repeat' (first | simp (maxSteps := 5000000) (implicitDefEqProofs := false) only [ruA, ruB, aEv, aTake, aLoad, aField, aIndex, aLen, aBin, bin2, aUn, un1, aExtract, aConv, ASt.get, aget, ASt.put, aStore, aBox, aAppend, aBuildSlice, aMake, aBuild, aFill, oneParts, allC, aBinS, yv, aCells, oneC, oneCL, treeC, treeL, aLit, aDst, aSrc, appTab, Value.cells, Value.oneCell', envOf, aResL, aOne, ↓reduceIte, reduceCtorEq, forall_const, Nat.reduceLT, Nat.reduceEqDiff, Nat.reduceAdd, Nat.reduceMul, Nat.reduceSub, Nat.reduceLeDiff, Nat.reduceBEq, eq_self, implies_true, ne_eq, dref, dref1, dref2, aExecS, aStoreB, aTakes, aTakeE, aElder, aFrom, aFresh, isLoad, aBuildSlice1, frzs, frz1, ownIds, AV.frz, AV.frzL, frzEnv, AV.shift, AV.shiftL, aFieldV, aSliceW, aSliceO, aSlice, aSliceR, aSliceS, aBd, aMax, frzAVs, frzAV, frzTab, AObj.frz, aMM, aNilS, aMay, tyA_62, tyS_62, tyE_53, tyK_53, tyK_3] | (with_reducible refine aIf_split (fun _ => ?_) (fun _ => ?_)) | (with_reducible refine aSel_split (fun _ => ?_) (fun _ => ?_)) | (with_reducible refine aGd_split (fun _ => ?_) (fun _ => ?_))))
    refine callV hck ?_
    (repeat' (first | simp (maxSteps := 5000000) (implicitDefEqProofs := false) only [ruA, ruB, aEv, aTake, aLoad, aField, aIndex, aLen, aBin, bin2, aUn, un1, aExtract, aConv, ASt.get, aget, ASt.put, aStore, aBox, aAppend, aBuildSlice, aMake, aBuild, aFill, oneParts, allC, aBinS, yv, aCells, oneC, oneCL, treeC, treeL, aLit, aDst, aSrc, appTab, Value.cells, Value.oneCell', envOf, aResL, aOne, ↓reduceIte, reduceCtorEq, forall_const, Nat.reduceLT, Nat.reduceEqDiff, Nat.reduceAdd, Nat.reduceMul, Nat.reduceSub, Nat.reduceLeDiff, Nat.reduceBEq, eq_self, implies_true, ne_eq, dref, dref1, dref2, aExecS, aStoreB, aTakes, aTakeE, aElder, aFrom, aFresh, isLoad, aBuildSlice1, frzs, frz1, ownIds, AV.frz, AV.frzL, frzEnv, AV.shift, AV.shiftL, aFieldV, aSliceW, aSliceO, aSlice, aSliceR, aSliceS, aBd, aMax, frzAVs, frzAV, frzTab, AObj.frz, aMM, aNilS, aMay, tyA_62, tyS_62, tyE_53, tyK_53, tyK_3] | (with_reducible refine aIf_split (fun _ => ?_) (fun _ => ?_)) | (with_reducible refine aSel_split (fun _ => ?_) (fun _ => ?_)) | (with_reducible refine aGd_split (fun _ => ?_) (fun _ => ?_))))
    exact gives_tree (by rw [holdsO_none hc]; rfl)
end
section
open Go.RowKit
def anyN (f : Nat → Bool) : Nat → Bool
  | 0 => false
  | n + 1 => anyN f n || f n
theorem anyN_iff (f : Nat → Bool) : ∀ n, anyN f n = true ↔ ∃ i, i < n ∧ f i = true
  | 0 => by simp [anyN]
  | n + 1 => by
    rw [anyN, Bool.or_eq_true, anyN_iff f n]
    constructor
    · rintro (⟨i, h1, h2⟩ | h)
      · exact ⟨i, by omega, h2⟩
      · exact ⟨n, by omega, h⟩
    · rintro ⟨i, h1, h2⟩
      rcases Nat.lt_or_ge i n with h | h
      · exact .inl ⟨i, h, h2⟩
      · obtain rfl : i = n := by omega
        exact .inr h2
theorem anyN_yes {f : Nat → Bool} {k n : Nat} (hk : k < n) (h : f k = true) : anyN f n = true := (anyN_iff f n).2 ⟨k, hk, h⟩
theorem anyN_step {f : Nat → Bool} {k : Nat} (h1 : anyN f k = false) (h : f k = false) : anyN f (k + 1) = false := by simp [anyN, h1, h]
/-- the set of so many -/
def firstI (n : Int) : Int := 2 ^ (max 0 (min n 31)).toNat - 1
theorem first_A (n : Int) : ADet Tryz.prog 50 [eI n] (val (.int .i64 (firstI n))) := by
  refine adet_of_code mixedT Tryz.func50 rfl (by decide) Tryz.ntmps50 Tryz.results50 rfl (val_ok _) ?_
  have h0 : ¬ (max 0 (min n 31) < 0) := by omega
  have h2 : (max 0 (min n 31)).toNat ≤ 31 := by omega
  have h1 : min (max 0 (min n 31)).toNat IntKind.i64.bits = (max 0 (min n 31)).toNat := by
    have : IntKind.i64.bits = 64 := rfl
    omega
  have hp : (1 : Int) ≤ 2 ^ (max 0 (min n 31)).toNat ∧ (2 : Int) ^ (max 0 (min n 31)).toNat ≤ 2147483648 := by
    have h3 : 2 ^ (max 0 (min n 31)).toNat ≤ 2 ^ 31 := Nat.pow_le_pow_right (by omega) h2
    have h4 : 1 ≤ 2 ^ (max 0 (min n 31)).toNat := Nat.one_le_two_pow
    have e : (2 : Int) ^ (max 0 (min n 31)).toNat = ((2 ^ (max 0 (min n 31)).toNat : Nat) : Int) := by simp
    rw [e]
    omega
  have w1 : IntKind.i64.wrap (1 * 2 ^ (max 0 (min n 31)).toNat) = 2 ^ (max 0 (min n 31)).toNat := by
    rw [Int.one_mul]
    exact wrap_in (by omega) (by omega)
  have w2 : IntKind.i64.wrap (2 ^ (max 0 (min n 31)).toNat - 1) = 2 ^ (max 0 (min n 31)).toNat - 1 := wrap_in (by omega) (by omega)
  unfold firstI
  (repeat' (first | simp (maxSteps := 5000000) (implicitDefEqProofs := false) only [ruA, ruB, aEv, aTake, aLoad, aField, aIndex, aLen, aBin, bin2, aUn, un1, aExtract, aConv, ASt.get, aget, ASt.put, aStore, aBox, aAppend, aBuildSlice, aMake, aBuild, aFill, oneParts, allC, aBinS, yv, aCells, oneC, oneCL, treeC, treeL, aLit, aDst, aSrc, appTab, Value.cells, Value.oneCell', envOf, aResL, aOne, ↓reduceIte, reduceCtorEq, forall_const, Nat.reduceLT, Nat.reduceEqDiff, Nat.reduceAdd, Nat.reduceMul, Nat.reduceSub, Nat.reduceLeDiff, Nat.reduceBEq, eq_self, implies_true, ne_eq, dref, dref1, dref2, aExecS, aStoreB, aTakes, aTakeE, aElder, aFrom, aFresh, isLoad, aBuildSlice1, frzs, frz1, ownIds, AV.frz, AV.frzL, frzEnv, AV.shift, AV.shiftL, aFieldV, aSliceW, aSliceO, aSlice, aSliceR, aSliceS, aBd, aMax, frzAVs, frzAV, frzTab, AObj.frz, aMM, aNilS, aMay, tyK_3, h0, h1, w1, w2] | (with_reducible refine aIf_split (fun _ => ?_) (fun _ => ?_)) | (with_reducible refine aSel_split (fun _ => ?_) (fun _ => ?_)) | (with_reducible refine aGd_split (fun _ => ?_) (fun _ => ?_))))
def completeAt (m : Mod) (s : St) (k : Nat) : Bool := (m.miles[k]?.map (·.final)).getD false && hasB s.don (k : Int)
def completeM (m : Mod) (s : St) : Bool := anyN (completeAt m s) m.miles.length
set_option maxRecDepth 100000 in
theorem complete_A (m : Mod) (s : St) (hl : m.miles.length ≤ 1000000) : ADet Tryz.prog 31 [.agg (eMod m), .agg (eSt s)] (val (.bool (completeM m s))) := by
  refine adet_of_code mixedT Tryz.func31 rfl (by decide) Tryz.ntmps31 Tryz.results31 rfl (val_ok _) ?_
  (repeat' (first | simp (maxSteps := 5000000) (implicitDefEqProofs := false) only [ruA, ruB, aEv, aTake, aLoad, aField, aIndex, aLen, aBin, bin2, aUn, un1, aExtract, aConv, ASt.get, aget, ASt.put, aStore, aBox, aAppend, aBuildSlice, aMake, aBuild, aFill, oneParts, allC, aBinS, yv, aCells, oneC, oneCL, treeC, treeL, aLit, aDst, aSrc, appTab, Value.cells, Value.oneCell', envOf, aResL, aOne, ↓reduceIte, reduceCtorEq, forall_const, Nat.reduceLT, Nat.reduceEqDiff, Nat.reduceAdd, Nat.reduceMul, Nat.reduceSub, Nat.reduceLeDiff, Nat.reduceBEq, eq_self, implies_true, ne_eq, dref, dref1, dref2, aExecS, aStoreB, aTakes, aTakeE, aElder, aFrom, aFresh, isLoad, aBuildSlice1, frzs, frz1, ownIds, AV.frz, AV.frzL, frzEnv, AV.shift, AV.shiftL, aFieldV, aSliceW, aSliceO, aSlice, aSliceR, aSliceS, aBd, aMax, frzAVs, frzAV, frzTab, AObj.frz, aMM, aNilS, aMay, tyF_32_7, tyA_28, tyS_28, tyE_28, tyK_28, tyK_3, tyA_57, tyS_57, tyZ_57, tyF_57_4, tyA_4, tyS_4, tyF_62_2, tyA_3, tyS_3] | (with_reducible refine aIf_split (fun _ => ?_) (fun _ => ?_)) | (with_reducible refine aSel_split (fun _ => ?_) (fun _ => ?_)) | (with_reducible refine aGd_split (fun _ => ?_) (fun _ => ?_)) | (with_reducible refine aDraw_quiet (by kernel_rfl) ?_)))
  unfold completeM
  refine aLoop_of (fun st => ∃ k : Nat, k ≤ m.miles.length ∧ anyN (completeAt m s) k = false ∧ st = ⟨24, [(2, .op 0 0 0), (3, .op 1 0 0), (8, .sl 5 (m.miles.map eMl)), (9, eI (m.miles.length : Int)), (10, eI (k : Int))], [(0, some (.box 32 (eMod m))), (1, some (.box 62 (eSt s)))], 2⟩) (fun st => m.miles.length - slotN st 10) ⟨_, (weak_cut1 (by (first | ((simp only [envIn, tabIn, envLt, tabLt, AObj.lt, AV.lt, AV.ltL, ruW, ASt.get, aget, ASt.put, ↓reduceIte, reduceCtorEq, Nat.reduceLT, Nat.reduceEqDiff, Nat.reduceAdd, Nat.reduceLeDiff, eq_self, implies_true]) <;> (repeat' apply And.intro) <;> first | (rw [wrapK (by omega)]; done) | (simp; done) | omega) | fail))), 0, Nat.zero_le _, rfl, rfl⟩ ?_
  rintro _ ⟨k, hk, hI, rfl⟩
  by_cases hlt : k < m.miles.length
  · have eF : completeAt m s k = (m.miles[k].final && hasB s.don (k : Int)) := by simp [completeAt, hlt]
    (repeat' (first | simp (maxSteps := 5000000) (implicitDefEqProofs := false) only [ruA, ruB, aEv, aTake, aLoad, aField, aIndex, aLen, aBin, bin2, aUn, un1, aExtract, aConv, ASt.get, aget, ASt.put, aStore, aBox, aAppend, aBuildSlice, aMake, aBuild, aFill, oneParts, allC, aBinS, yv, aCells, oneC, oneCL, treeC, treeL, aLit, aDst, aSrc, appTab, Value.cells, Value.oneCell', envOf, aResL, aOne, ↓reduceIte, reduceCtorEq, forall_const, Nat.reduceLT, Nat.reduceEqDiff, Nat.reduceAdd, Nat.reduceMul, Nat.reduceSub, Nat.reduceLeDiff, Nat.reduceBEq, eq_self, implies_true, ne_eq, dref, dref1, dref2, aExecS, aStoreB, aTakes, aTakeE, aElder, aFrom, aFresh, isLoad, aBuildSlice1, frzs, frz1, ownIds, AV.frz, AV.frzL, frzEnv, AV.shift, AV.shiftL, aFieldV, aSliceW, aSliceO, aSlice, aSliceR, aSliceS, aBd, aMax, frzAVs, frzAV, frzTab, AObj.frz, aMM, aNilS, aMay, tyF_32_7, tyA_28, tyS_28, tyE_28, tyK_28, tyK_3, tyA_57, tyS_57, tyZ_57, tyF_57_4, tyA_4, tyS_4, tyF_62_2, tyA_3, tyS_3, row_at, hlt] | (with_reducible refine aIf_split (fun _ => ?_) (fun _ => ?_)) | (with_reducible refine aSel_split (fun _ => ?_) (fun _ => ?_)) | (with_reducible refine aGd_split (fun _ => ?_) (fun _ => ?_)) | (with_reducible refine aDraw_quiet (by kernel_rfl) ?_) | ((with_reducible apply callV (g := 29)); exact (has_A _ _)) | ((with_reducible apply callD (g := 29)); exact (has_A _ _))))
    all_goals first
      | (symm; refine anyN_yes hlt ?_; rw [eF]; grind)
      | exact roundI (weak_cut1 (by (first | ((simp only [envIn, tabIn, envLt, tabLt, AObj.lt, AV.lt, AV.ltL, ruW, ASt.get, aget, ASt.put, ↓reduceIte, reduceCtorEq, Nat.reduceLT, Nat.reduceEqDiff, Nat.reduceAdd, Nat.reduceLeDiff, eq_self, implies_true]) <;> (repeat' apply And.intro) <;> first | (rw [wrapK (by omega)]; done) | (simp; done) | omega) | fail))) ⟨k + 1, by omega, anyN_step hI (by rw [eF]; grind), rfl⟩ (by simp only [slotN, ruW, ASt.get, aget, ASt.put, ↓reduceIte, reduceCtorEq, Nat.reduceLT, Nat.reduceEqDiff, Nat.reduceAdd, Nat.reduceLeDiff, eq_self, implies_true]; omega)
  · obtain rfl : k = m.miles.length := by omega
    (repeat' (first | simp (maxSteps := 5000000) (implicitDefEqProofs := false) only [ruA, ruB, aEv, aTake, aLoad, aField, aIndex, aLen, aBin, bin2, aUn, un1, aExtract, aConv, ASt.get, aget, ASt.put, aStore, aBox, aAppend, aBuildSlice, aMake, aBuild, aFill, oneParts, allC, aBinS, yv, aCells, oneC, oneCL, treeC, treeL, aLit, aDst, aSrc, appTab, Value.cells, Value.oneCell', envOf, aResL, aOne, ↓reduceIte, reduceCtorEq, forall_const, Nat.reduceLT, Nat.reduceEqDiff, Nat.reduceAdd, Nat.reduceMul, Nat.reduceSub, Nat.reduceLeDiff, Nat.reduceBEq, eq_self, implies_true, ne_eq, dref, dref1, dref2, aExecS, aStoreB, aTakes, aTakeE, aElder, aFrom, aFresh, isLoad, aBuildSlice1, frzs, frz1, ownIds, AV.frz, AV.frzL, frzEnv, AV.shift, AV.shiftL, aFieldV, aSliceW, aSliceO, aSlice, aSliceR, aSliceS, aBd, aMax, frzAVs, frzAV, frzTab, AObj.frz, aMM, aNilS, aMay, tyF_32_7, tyA_28, tyS_28, tyE_28, tyK_28, tyK_3, tyA_57, tyS_57, tyZ_57, tyF_57_4, tyA_4, tyS_4, tyF_62_2, tyA_3, tyS_3, hlt] | (with_reducible refine aIf_split (fun _ => ?_) (fun _ => ?_)) | (with_reducible refine aSel_split (fun _ => ?_) (fun _ => ?_)) | (with_reducible refine aGd_split (fun _ => ?_) (fun _ => ?_)) | (with_reducible refine aDraw_quiet (by kernel_rfl) ?_)))
    exact hI.symm
def atI (l : List Int) (i : Int) : Int := if 0 ≤ i ∧ i < (l.length : Int) then l.getD i.toNat 0 else 0
theorem at_A (l : List Int) (i : Int) : ADet Tryz.prog 74 [sI l, eI i] (val (.int .i64 (atI l i))) := by
  refine adet_of_code mixedT Tryz.func74 rfl (by decide) Tryz.ntmps74 Tryz.results74 rfl (val_ok _) ?_
  unfold atI
  by_cases h : 0 ≤ i ∧ i < (l.length : Int)
  · obtain ⟨k, rfl⟩ : ∃ k : Nat, i = (k : Int) := ⟨i.toNat, by omega⟩
    have hk : k < l.length := by omega
    rw [if_pos h]
    (repeat' (first | simp (maxSteps := 5000000) (implicitDefEqProofs := false) only [ruA, ruB, aEv, aTake, aLoad, aField, aIndex, aLen, aBin, bin2, aUn, un1, aExtract, aConv, ASt.get, aget, ASt.put, aStore, aBox, aAppend, aBuildSlice, aMake, aBuild, aFill, oneParts, allC, aBinS, yv, aCells, oneC, oneCL, treeC, treeL, aLit, aDst, aSrc, appTab, Value.cells, Value.oneCell', envOf, aResL, aOne, ↓reduceIte, reduceCtorEq, forall_const, Nat.reduceLT, Nat.reduceEqDiff, Nat.reduceAdd, Nat.reduceMul, Nat.reduceSub, Nat.reduceLeDiff, Nat.reduceBEq, eq_self, implies_true, ne_eq, dref, dref1, dref2, aExecS, aStoreB, aTakes, aTakeE, aElder, aFrom, aFresh, isLoad, aBuildSlice1, frzs, frz1, ownIds, AV.frz, AV.frzL, frzEnv, AV.shift, AV.shiftL, aFieldV, aSliceW, aSliceO, aSlice, aSliceR, aSliceS, aBd, aMax, frzAVs, frzAV, frzTab, AObj.frz, aMM, aNilS, aMay, tyK_3, tyE_44, tyK_44, tyA_3, tyS_3, row_at, hk] | (with_reducible refine aIf_split (fun _ => ?_) (fun _ => ?_)) | (with_reducible refine aSel_split (fun _ => ?_) (fun _ => ?_)) | (with_reducible refine aGd_split (fun _ => ?_) (fun _ => ?_))))
    all_goals grind
  · rw [if_neg h]
    (repeat' (first | simp (maxSteps := 5000000) (implicitDefEqProofs := false) only [ruA, ruB, aEv, aTake, aLoad, aField, aIndex, aLen, aBin, bin2, aUn, un1, aExtract, aConv, ASt.get, aget, ASt.put, aStore, aBox, aAppend, aBuildSlice, aMake, aBuild, aFill, oneParts, allC, aBinS, yv, aCells, oneC, oneCL, treeC, treeL, aLit, aDst, aSrc, appTab, Value.cells, Value.oneCell', envOf, aResL, aOne, ↓reduceIte, reduceCtorEq, forall_const, Nat.reduceLT, Nat.reduceEqDiff, Nat.reduceAdd, Nat.reduceMul, Nat.reduceSub, Nat.reduceLeDiff, Nat.reduceBEq, eq_self, implies_true, ne_eq, dref, dref1, dref2, aExecS, aStoreB, aTakes, aTakeE, aElder, aFrom, aFresh, isLoad, aBuildSlice1, frzs, frz1, ownIds, AV.frz, AV.frzL, frzEnv, AV.shift, AV.shiftL, aFieldV, aSliceW, aSliceO, aSlice, aSliceR, aSliceS, aBd, aMax, frzAVs, frzAV, frzTab, AObj.frz, aMM, aNilS, aMay, tyK_3, tyE_44, tyK_44, tyA_3, tyS_3] | (with_reducible refine aIf_split (fun _ => ?_) (fun _ => ?_)) | (with_reducible refine aSel_split (fun _ => ?_) (fun _ => ?_)) | (with_reducible refine aGd_split (fun _ => ?_) (fun _ => ?_))))
    rename_i h1 h2
    simp at h1 h2
    omega
def ofR (m : Mod) (role user : Int) : Bool := decide (0 ≤ role) && decide (role < (m.roles.length : Int)) && decide (0 ≤ user) && decide (user < (m.users.length : Int)) && ((m.roles[role.toNat]?).map (fun p => hasB p.2 user)).getD false
theorem ofR_A (m : Mod) (role user : Int) : ADet Tryz.prog 73 [.agg (eMod m), eI role, eI user] (val (.bool (ofR m role user))) := by
  refine adet_of_code mixedT Tryz.func73 rfl (by decide) Tryz.ntmps73 Tryz.results73 rfl (val_ok _) ?_
  by_cases h : 0 ≤ role ∧ role < (m.roles.length : Int)
  · obtain ⟨k, rfl⟩ : ∃ k : Nat, role = (k : Int) := ⟨role.toNat, by omega⟩
    have hk : k < m.roles.length := by omega
    have eR : ofR m k user = (decide (0 ≤ user) && decide (user < (m.users.length : Int)) && hasB m.roles[k].2 user) := by simp [ofR, hk]
    rw [eR]
    (repeat' (first | simp (maxSteps := 5000000) (implicitDefEqProofs := false) only [ruA, ruB, aEv, aTake, aLoad, aField, aIndex, aLen, aBin, bin2, aUn, un1, aExtract, aConv, ASt.get, aget, ASt.put, aStore, aBox, aAppend, aBuildSlice, aMake, aBuild, aFill, oneParts, allC, aBinS, yv, aCells, oneC, oneCL, treeC, treeL, aLit, aDst, aSrc, appTab, Value.cells, Value.oneCell', envOf, aResL, aOne, ↓reduceIte, reduceCtorEq, forall_const, Nat.reduceLT, Nat.reduceEqDiff, Nat.reduceAdd, Nat.reduceMul, Nat.reduceSub, Nat.reduceLeDiff, Nat.reduceBEq, eq_self, implies_true, ne_eq, dref, dref1, dref2, aExecS, aStoreB, aTakes, aTakeE, aElder, aFrom, aFresh, isLoad, aBuildSlice1, frzs, frz1, ownIds, AV.frz, AV.frzL, frzEnv, AV.shift, AV.shiftL, aFieldV, aSliceW, aSliceO, aSlice, aSliceR, aSliceS, aBd, aMax, frzAVs, frzAV, frzTab, AObj.frz, aMM, aNilS, aMay, tyK_3, tyF_32_3, tyA_24, tyS_24, tyE_24, tyK_24, tyF_32_2, tyA_22, tyS_22, tyE_22, tyK_22, tyF_124_1, tyA_3, tyS_3, row_at, hk] | (with_reducible refine aIf_split (fun _ => ?_) (fun _ => ?_)) | (with_reducible refine aSel_split (fun _ => ?_) (fun _ => ?_)) | (with_reducible refine aGd_split (fun _ => ?_) (fun _ => ?_)) | (with_reducible refine aDraw_quiet (by kernel_rfl) ?_) | ((with_reducible apply callV (g := 29)); exact (has_A _ _)) | ((with_reducible apply callD (g := 29)); exact (has_A _ _))))
    all_goals grind
  · have eR : ofR m role user = false := by
      have : (decide (0 ≤ role) && decide (role < (m.roles.length : Int))) = false := by
        rw [Bool.and_eq_false_iff]
        simp only [decide_eq_false_iff_not]
        omega
      simp [ofR, this]
    rw [eR]
    (repeat' (first | simp (maxSteps := 5000000) (implicitDefEqProofs := false) only [ruA, ruB, aEv, aTake, aLoad, aField, aIndex, aLen, aBin, bin2, aUn, un1, aExtract, aConv, ASt.get, aget, ASt.put, aStore, aBox, aAppend, aBuildSlice, aMake, aBuild, aFill, oneParts, allC, aBinS, yv, aCells, oneC, oneCL, treeC, treeL, aLit, aDst, aSrc, appTab, Value.cells, Value.oneCell', envOf, aResL, aOne, ↓reduceIte, reduceCtorEq, forall_const, Nat.reduceLT, Nat.reduceEqDiff, Nat.reduceAdd, Nat.reduceMul, Nat.reduceSub, Nat.reduceLeDiff, Nat.reduceBEq, eq_self, implies_true, ne_eq, dref, dref1, dref2, aExecS, aStoreB, aTakes, aTakeE, aElder, aFrom, aFresh, isLoad, aBuildSlice1, frzs, frz1, ownIds, AV.frz, AV.frzL, frzEnv, AV.shift, AV.shiftL, aFieldV, aSliceW, aSliceO, aSlice, aSliceR, aSliceS, aBd, aMax, frzAVs, frzAV, frzTab, AObj.frz, aMM, aNilS, aMay, tyK_3, tyF_32_3, tyA_24, tyS_24, tyE_24, tyK_24, tyF_32_2, tyA_22, tyS_22, tyE_22, tyK_22, tyF_124_1, tyA_3, tyS_3] | (with_reducible refine aIf_split (fun _ => ?_) (fun _ => ?_)) | (with_reducible refine aSel_split (fun _ => ?_) (fun _ => ?_)) | (with_reducible refine aGd_split (fun _ => ?_) (fun _ => ?_)) | (with_reducible refine aDraw_quiet (by kernel_rfl) ?_)))
    all_goals first
      | rfl
      | (exfalso; grind)
def apartAt (m : Mod) (s : St) (event user : Int) (k : Nat) : Bool := ((m.sods[k]?).map (fun x => ((x.1 == event) && hasB (atI s.did x.2) user) || ((x.2 == event) && hasB (atI s.did x.1) user))).getD false
def apartM (m : Mod) (s : St) (event user : Int) : Bool := anyN (apartAt m s event user) m.sods.length
set_option maxRecDepth 100000 in
set_option maxHeartbeats 8000000 in
theorem apart_A (m : Mod) (s : St) (event user : Int) (hl : m.sods.length ≤ 1000000) : ADet Tryz.prog 86 [.agg (eMod m), .agg (eSt s), eI event, eI user] (val (.bool (apartM m s event user))) := by
  refine adet_of_code mixedT Tryz.func86 rfl (by decide) Tryz.ntmps86 Tryz.results86 rfl (val_ok _) ?_
  (repeat' (first | simp (maxSteps := 5000000) (implicitDefEqProofs := false) only [ruA, ruB, aEv, aTake, aLoad, aField, aIndex, aLen, aBin, bin2, aUn, un1, aExtract, aConv, ASt.get, aget, ASt.put, aStore, aBox, aAppend, aBuildSlice, aMake, aBuild, aFill, oneParts, allC, aBinS, yv, aCells, oneC, oneCL, treeC, treeL, aLit, aDst, aSrc, appTab, Value.cells, Value.oneCell', envOf, aResL, aOne, ↓reduceIte, reduceCtorEq, forall_const, Nat.reduceLT, Nat.reduceEqDiff, Nat.reduceAdd, Nat.reduceMul, Nat.reduceSub, Nat.reduceLeDiff, Nat.reduceBEq, eq_self, implies_true, ne_eq, dref, dref1, dref2, aExecS, aStoreB, aTakes, aTakeE, aElder, aFrom, aFresh, isLoad, aBuildSlice1, frzs, frz1, ownIds, AV.frz, AV.frzL, frzEnv, AV.shift, AV.shiftL, aFieldV, aSliceW, aSliceO, aSlice, aSliceR, aSliceS, aBd, aMax, frzAVs, frzAV, frzTab, AObj.frz, aMM, aNilS, aMay, tyF_32_8, tyA_29, tyS_29, tyE_29, tyK_29, tyK_3, tyA_122, tyS_122, tyZ_122, tyF_122_0, tyA_3, tyS_3, tyF_62_3, tyA_44, tyS_44, tyF_122_1] | (with_reducible refine aIf_split (fun _ => ?_) (fun _ => ?_)) | (with_reducible refine aSel_split (fun _ => ?_) (fun _ => ?_)) | (with_reducible refine aGd_split (fun _ => ?_) (fun _ => ?_)) | (with_reducible refine aDraw_quiet (by kernel_rfl) ?_)))
  unfold apartM
  refine aLoop_of (fun st => ∃ k : Nat, k ≤ m.sods.length ∧ anyN (apartAt m s event user) k = false ∧ st = ⟨47, [(2, eI event), (3, eI user), (4, .op 0 0 0), (5, .op 1 0 0), (12, .sl 2 (m.sods.map eII)), (13, eI (m.sods.length : Int)), (14, eI (k : Int))], [(0, some (.box 32 (eMod m))), (1, some (.box 62 (eSt s)))], 2⟩) (fun st => m.sods.length - slotN st 14) ⟨_, (weak_cut1 (by (first | ((simp only [envIn, tabIn, envLt, tabLt, AObj.lt, AV.lt, AV.ltL, ruW, ASt.get, aget, ASt.put, ↓reduceIte, reduceCtorEq, Nat.reduceLT, Nat.reduceEqDiff, Nat.reduceAdd, Nat.reduceLeDiff, eq_self, implies_true]) <;> (repeat' apply And.intro) <;> first | (rw [wrapK (by omega)]; done) | (simp; done) | omega) | fail))), 0, Nat.zero_le _, rfl, rfl⟩ ?_
  rintro _ ⟨k, hk, hI, rfl⟩
  by_cases hlt : k < m.sods.length
  · obtain ⟨⟨a, b⟩, hx⟩ : ∃ x, m.sods[k] = x := ⟨_, rfl⟩
    have ex : eII m.sods[k] = [eI a, eI b] := by rw [hx]
    have eF : apartAt m s event user k = (((a == event) && hasB (atI s.did b) user) || ((b == event) && hasB (atI s.did a) user)) := by simp [apartAt, hlt, hx]
    (repeat' (first | simp (maxSteps := 5000000) (implicitDefEqProofs := false) only [ruA, ruB, aEv, aTake, aLoad, aField, aIndex, aLen, aBin, bin2, aUn, un1, aExtract, aConv, ASt.get, aget, ASt.put, aStore, aBox, aAppend, aBuildSlice, aMake, aBuild, aFill, oneParts, allC, aBinS, yv, aCells, oneC, oneCL, treeC, treeL, aLit, aDst, aSrc, appTab, Value.cells, Value.oneCell', envOf, aResL, aOne, ↓reduceIte, reduceCtorEq, forall_const, Nat.reduceLT, Nat.reduceEqDiff, Nat.reduceAdd, Nat.reduceMul, Nat.reduceSub, Nat.reduceLeDiff, Nat.reduceBEq, eq_self, implies_true, ne_eq, dref, dref1, dref2, aExecS, aStoreB, aTakes, aTakeE, aElder, aFrom, aFresh, isLoad, aBuildSlice1, frzs, frz1, ownIds, AV.frz, AV.frzL, frzEnv, AV.shift, AV.shiftL, aFieldV, aSliceW, aSliceO, aSlice, aSliceR, aSliceS, aBd, aMax, frzAVs, frzAV, frzTab, AObj.frz, aMM, aNilS, aMay, tyF_32_8, tyA_29, tyS_29, tyE_29, tyK_29, tyK_3, tyA_122, tyS_122, tyZ_122, tyF_122_0, tyA_3, tyS_3, tyF_62_3, tyA_44, tyS_44, tyF_122_1, row_at, hlt, ex] | (with_reducible refine aIf_split (fun _ => ?_) (fun _ => ?_)) | (with_reducible refine aSel_split (fun _ => ?_) (fun _ => ?_)) | (with_reducible refine aGd_split (fun _ => ?_) (fun _ => ?_)) | (with_reducible refine aDraw_quiet (by kernel_rfl) ?_) | ((with_reducible apply callV (g := 29)); exact (has_A _ _)) | ((with_reducible apply callD (g := 29)); exact (has_A _ _)) | ((with_reducible apply callV (g := 74)); exact (at_A _ _)) | ((with_reducible apply callD (g := 74)); exact (at_A _ _))))
    all_goals first
      | (symm; refine anyN_yes hlt ?_; rw [eF]; grind)
      | exact roundI (weak_cut1 (by (first | ((simp only [envIn, tabIn, envLt, tabLt, AObj.lt, AV.lt, AV.ltL, ruW, ASt.get, aget, ASt.put, ↓reduceIte, reduceCtorEq, Nat.reduceLT, Nat.reduceEqDiff, Nat.reduceAdd, Nat.reduceLeDiff, eq_self, implies_true]) <;> (repeat' apply And.intro) <;> first | (rw [wrapK (by omega)]; done) | (simp; done) | omega) | fail))) ⟨k + 1, by omega, anyN_step hI (by rw [eF]; grind), rfl⟩ (by simp only [slotN, ruW, ASt.get, aget, ASt.put, ↓reduceIte, reduceCtorEq, Nat.reduceLT, Nat.reduceEqDiff, Nat.reduceAdd, Nat.reduceLeDiff, eq_self, implies_true]; omega)
      | trace_state
  · obtain rfl : k = m.sods.length := by omega
    (repeat' (first | simp (maxSteps := 5000000) (implicitDefEqProofs := false) only [ruA, ruB, aEv, aTake, aLoad, aField, aIndex, aLen, aBin, bin2, aUn, un1, aExtract, aConv, ASt.get, aget, ASt.put, aStore, aBox, aAppend, aBuildSlice, aMake, aBuild, aFill, oneParts, allC, aBinS, yv, aCells, oneC, oneCL, treeC, treeL, aLit, aDst, aSrc, appTab, Value.cells, Value.oneCell', envOf, aResL, aOne, ↓reduceIte, reduceCtorEq, forall_const, Nat.reduceLT, Nat.reduceEqDiff, Nat.reduceAdd, Nat.reduceMul, Nat.reduceSub, Nat.reduceLeDiff, Nat.reduceBEq, eq_self, implies_true, ne_eq, dref, dref1, dref2, aExecS, aStoreB, aTakes, aTakeE, aElder, aFrom, aFresh, isLoad, aBuildSlice1, frzs, frz1, ownIds, AV.frz, AV.frzL, frzEnv, AV.shift, AV.shiftL, aFieldV, aSliceW, aSliceO, aSlice, aSliceR, aSliceS, aBd, aMax, frzAVs, frzAV, frzTab, AObj.frz, aMM, aNilS, aMay, tyF_32_8, tyA_29, tyS_29, tyE_29, tyK_29, tyK_3, tyA_122, tyS_122, tyZ_122, tyF_122_0, tyA_3, tyS_3, tyF_62_3, tyA_44, tyS_44, tyF_122_1, hlt] | (with_reducible refine aIf_split (fun _ => ?_) (fun _ => ?_)) | (with_reducible refine aSel_split (fun _ => ?_) (fun _ => ?_)) | (with_reducible refine aGd_split (fun _ => ?_) (fun _ => ?_)) | (with_reducible refine aDraw_quiet (by kernel_rfl) ?_)))
    exact hI.symm
noncomputable def evAt (m : Mod) (event : Int) : Option Ev := if 0 ≤ event then m.events[event.toNat]? else none
noncomputable def freeM (m : Mod) (s : St) (event user : Int) : Bool :=
  match evAt m event with
  | none => false
  | some x => !completeM m s && decide (x.stage < (m.stages.length : Int)) && hasB s.opn x.stage && ofR m x.role user && (decide (x.times ≤ 0) || decide (atI s.cnt event < x.times))
set_option maxRecDepth 100000 in
set_option maxHeartbeats 8000000 in
theorem free_A (m : Mod) (s : St) (event user : Int) (hl : m.miles.length ≤ 1000000) : ADet Tryz.prog 53 [.agg (eMod m), .agg (eSt s), eI event, eI user] (val (.bool (freeM m s event user))) := by
  refine adet_of_code mixedT Tryz.func53 rfl (by decide) Tryz.ntmps53 Tryz.results53 rfl (val_ok _) ?_
  by_cases h : 0 ≤ event ∧ event < (m.events.length : Int)
  · obtain ⟨k, rfl⟩ : ∃ k : Nat, event = (k : Int) := ⟨event.toNat, by omega⟩
    have hk : k < m.events.length := by omega
    obtain ⟨x, hx⟩ : ∃ x, m.events[k] = x := ⟨_, rfl⟩
    have ee : evAt m (k : Int) = some x := by simp [evAt, hk, hx]
    have eR : freeM m s k user = (!completeM m s && decide (x.stage < (m.stages.length : Int)) && hasB s.opn x.stage && ofR m x.role user && (decide (x.times ≤ 0) || decide (atI s.cnt k < x.times))) := by simp only [freeM, ee]
    rw [eR]
    (repeat' (first | simp (maxSteps := 5000000) (implicitDefEqProofs := false) only [ruA, ruB, aEv, aTake, aLoad, aField, aIndex, aLen, aBin, bin2, aUn, un1, aExtract, aConv, ASt.get, aget, ASt.put, aStore, aBox, aAppend, aBuildSlice, aMake, aBuild, aFill, oneParts, allC, aBinS, yv, aCells, oneC, oneCL, treeC, treeL, aLit, aDst, aSrc, appTab, Value.cells, Value.oneCell', envOf, aResL, aOne, ↓reduceIte, reduceCtorEq, forall_const, Nat.reduceLT, Nat.reduceEqDiff, Nat.reduceAdd, Nat.reduceMul, Nat.reduceSub, Nat.reduceLeDiff, Nat.reduceBEq, eq_self, implies_true, ne_eq, dref, dref1, dref2, aExecS, aStoreB, aTakes, aTakeE, aElder, aFrom, aFresh, isLoad, aBuildSlice1, frzs, frz1, ownIds, AV.frz, AV.frzL, frzEnv, AV.shift, AV.shiftL, aFieldV, aSliceW, aSliceO, aSlice, aSliceR, aSliceS, aBd, aMax, frzAVs, frzAV, frzTab, AObj.frz, aMM, aNilS, aMay, tyK_3, tyF_32_5, tyA_26, tyS_26, tyE_26, tyK_26, tyA_32, tyS_32, tyA_62, tyS_62, tyA_59, tyS_59, tyZ_59, tyF_59_2, tyA_3, tyS_3, tyF_32_4, tyA_25, tyS_25, tyE_25, tyK_25, tyF_62_1, tyF_59_1, tyF_59_4, tyF_62_4, tyA_44, tyS_44, row_at, hk, hx] | (with_reducible refine aIf_split (fun _ => ?_) (fun _ => ?_)) | (with_reducible refine aSel_split (fun _ => ?_) (fun _ => ?_)) | (with_reducible refine aGd_split (fun _ => ?_) (fun _ => ?_)) | (with_reducible refine aDraw_quiet (by kernel_rfl) ?_) | ((with_reducible apply callV (g := 29)); exact (has_A _ _)) | ((with_reducible apply callD (g := 29)); exact (has_A _ _)) | ((with_reducible apply callV (g := 31)); exact (complete_A _ _ hl)) | ((with_reducible apply callD (g := 31)); exact (complete_A _ _ hl)) | ((with_reducible apply callV (g := 73)); exact (ofR_A _ _ _)) | ((with_reducible apply callD (g := 73)); exact (ofR_A _ _ _)) | ((with_reducible apply callV (g := 74)); exact (at_A _ _)) | ((with_reducible apply callD (g := 74)); exact (at_A _ _))))
    all_goals first
      | grind
      | trace_state
  · have ee : evAt m event = none := by
      unfold evAt
      split
      · exact List.getElem?_eq_none (by omega)
      · rfl
    have eR : freeM m s event user = false := by simp only [freeM, ee]
    rw [eR]
    (repeat' (first | simp (maxSteps := 5000000) (implicitDefEqProofs := false) only [ruA, ruB, aEv, aTake, aLoad, aField, aIndex, aLen, aBin, bin2, aUn, un1, aExtract, aConv, ASt.get, aget, ASt.put, aStore, aBox, aAppend, aBuildSlice, aMake, aBuild, aFill, oneParts, allC, aBinS, yv, aCells, oneC, oneCL, treeC, treeL, aLit, aDst, aSrc, appTab, Value.cells, Value.oneCell', envOf, aResL, aOne, ↓reduceIte, reduceCtorEq, forall_const, Nat.reduceLT, Nat.reduceEqDiff, Nat.reduceAdd, Nat.reduceMul, Nat.reduceSub, Nat.reduceLeDiff, Nat.reduceBEq, eq_self, implies_true, ne_eq, dref, dref1, dref2, aExecS, aStoreB, aTakes, aTakeE, aElder, aFrom, aFresh, isLoad, aBuildSlice1, frzs, frz1, ownIds, AV.frz, AV.frzL, frzEnv, AV.shift, AV.shiftL, aFieldV, aSliceW, aSliceO, aSlice, aSliceR, aSliceS, aBd, aMax, frzAVs, frzAV, frzTab, AObj.frz, aMM, aNilS, aMay, tyK_3, tyF_32_5, tyA_26, tyS_26, tyE_26, tyK_26, tyA_32, tyS_32, tyA_62, tyS_62, tyA_59, tyS_59, tyZ_59, tyF_59_2, tyA_3, tyS_3, tyF_32_4, tyA_25, tyS_25, tyE_25, tyK_25, tyF_62_1, tyF_59_1, tyF_59_4, tyF_62_4, tyA_44, tyS_44] | (with_reducible refine aIf_split (fun _ => ?_) (fun _ => ?_)) | (with_reducible refine aSel_split (fun _ => ?_) (fun _ => ?_)) | (with_reducible refine aGd_split (fun _ => ?_) (fun _ => ?_)) | (with_reducible refine aDraw_quiet (by kernel_rfl) ?_) | ((with_reducible apply callV (g := 31)); exact (complete_A _ _ hl)) | ((with_reducible apply callD (g := 31)); exact (complete_A _ _ hl))))
    all_goals first
      | rfl
      | (exfalso; grind)
noncomputable def enabledM (m : Mod) (s : St) (event user : Int) : Bool := freeM m s event user && !apartM m s event user
set_option maxRecDepth 100000 in
theorem enabled_A (m : Mod) (s : St) (event user : Int) (hl : m.miles.length ≤ 1000000) (hl2 : m.sods.length ≤ 1000000) : ADet Tryz.prog 71 [.agg (eMod m), .agg (eSt s), eI event, eI user] (val (.bool (enabledM m s event user))) := by
  refine adet_of_code mixedT Tryz.func71 rfl (by decide) Tryz.ntmps71 Tryz.results71 rfl (val_ok _) ?_
  unfold enabledM
  (repeat' (first | simp (maxSteps := 5000000) (implicitDefEqProofs := false) only [ruA, ruB, aEv, aTake, aLoad, aField, aIndex, aLen, aBin, bin2, aUn, un1, aExtract, aConv, ASt.get, aget, ASt.put, aStore, aBox, aAppend, aBuildSlice, aMake, aBuild, aFill, oneParts, allC, aBinS, yv, aCells, oneC, oneCL, treeC, treeL, aLit, aDst, aSrc, appTab, Value.cells, Value.oneCell', envOf, aResL, aOne, ↓reduceIte, reduceCtorEq, forall_const, Nat.reduceLT, Nat.reduceEqDiff, Nat.reduceAdd, Nat.reduceMul, Nat.reduceSub, Nat.reduceLeDiff, Nat.reduceBEq, eq_self, implies_true, ne_eq, dref, dref1, dref2, aExecS, aStoreB, aTakes, aTakeE, aElder, aFrom, aFresh, isLoad, aBuildSlice1, frzs, frz1, ownIds, AV.frz, AV.frzL, frzEnv, AV.shift, AV.shiftL, aFieldV, aSliceW, aSliceO, aSlice, aSliceR, aSliceS, aBd, aMax, frzAVs, frzAV, frzTab, AObj.frz, aMM, aNilS, aMay, tyA_32, tyS_32, tyA_62, tyS_62] | (with_reducible refine aIf_split (fun _ => ?_) (fun _ => ?_)) | (with_reducible refine aSel_split (fun _ => ?_) (fun _ => ?_)) | (with_reducible refine aGd_split (fun _ => ?_) (fun _ => ?_)) | (with_reducible refine aDraw_quiet (by kernel_rfl) ?_) | ((with_reducible apply callV (g := 53)); exact (free_A _ _ _ _ hl)) | ((with_reducible apply callD (g := 53)); exact (free_A _ _ _ _ hl)) | ((with_reducible apply callV (g := 86)); exact (apart_A _ _ _ _ hl2)) | ((with_reducible apply callD (g := 86)); exact (apart_A _ _ _ _ hl2))))
  all_goals grind
def filtN (f : Nat → Bool) : Nat → List Int
  | 0 => []
  | n + 1 => if f n = true then filtN f n ++ [(n : Int)] else filtN f n
theorem filtN_len (f : Nat → Bool) : ∀ n, (filtN f n).length ≤ n
  | 0 => by simp [filtN]
  | n + 1 => by
    have := filtN_len f n
    unfold filtN
    split
    · simp; omega
    · omega
noncomputable def whoM (m : Mod) (s : St) (event : Int) : List Int := filtN (fun u => enabledM m s event (u : Int)) m.users.length
set_option maxRecDepth 100000 in
set_option maxHeartbeats 8000000 in
theorem who_A (m : Mod) (s : St) (event : Int) (hl : m.miles.length ≤ 1000000) (hl2 : m.sods.length ≤ 1000000) (hl3 : m.users.length ≤ 1000000) : ADet Tryz.prog 49 [.agg (eMod m), .agg (eSt s), eI event] (own 3 1 ((whoM m s event).map fun n => [eI n])) := by
  refine adet_of_code mixedT Tryz.func49 rfl (by decide) Tryz.ntmps49 Tryz.results49 rfl (own_ok _ _ _) ?_
  (repeat' (first | simp (maxSteps := 5000000) (implicitDefEqProofs := false) only [ruA, ruB, aEv, aTake, aLoad, aField, aIndex, aLen, aBin, bin2, aUn, un1, aExtract, aConv, ASt.get, aget, ASt.put, aStore, aBox, aAppend, aBuildSlice, aMake, aBuild, aFill, oneParts, allC, aBinS, yv, aCells, oneC, oneCL, treeC, treeL, aLit, aDst, aSrc, appTab, Value.cells, Value.oneCell', envOf, aResL, aOne, ↓reduceIte, reduceCtorEq, forall_const, Nat.reduceLT, Nat.reduceEqDiff, Nat.reduceAdd, Nat.reduceMul, Nat.reduceSub, Nat.reduceLeDiff, Nat.reduceBEq, eq_self, implies_true, ne_eq, dref, dref1, dref2, aExecS, aStoreB, aTakes, aTakeE, aElder, aFrom, aFresh, isLoad, aBuildSlice1, frzs, frz1, ownIds, AV.frz, AV.frzL, frzEnv, AV.shift, AV.shiftL, aFieldV, aSliceW, aSliceO, aSlice, aSliceR, aSliceS, aBd, aMax, frzAVs, frzAV, frzTab, AObj.frz, aMM, aNilS, aMay, tyF_32_2, tyA_22, tyS_22, tyE_22, tyK_22, tyK_3, tyA_32, tyS_32, tyA_62, tyS_62, tyR_44] | (with_reducible refine aIf_split (fun _ => ?_) (fun _ => ?_)) | (with_reducible refine aSel_split (fun _ => ?_) (fun _ => ?_)) | (with_reducible refine aGd_split (fun _ => ?_) (fun _ => ?_))))
  unfold whoM
  obtain ⟨f, hf⟩ : ∃ f : Nat → Bool, f = fun u : Nat => enabledM m s event (u : Int) := ⟨_, rfl⟩
  rw [← hf]
  have e0 : filtN f 0 = [] := rfl
  refine aLoop_of (fun st => ∃ k : Nat, k ≤ m.users.length ∧ st = ⟨26, [(2, eI event), (3, .op 0 0 0), (4, .op 1 0 0), (7, .osl 2), (11, eI (m.users.length : Int)), (12, eI (k : Int))], [(0, some (.box 32 (eMod m))), (1, some (.box 62 (eSt s))), (2, some (.row 3 1 ((filtN f k).map fun n => [eI n])))], 3⟩) (fun st => m.users.length - slotN st 12) ⟨_, ((weak_nil 7 3 1 (by simp only [ruW, ASt.get, aget, ASt.put, ↓reduceIte, reduceCtorEq, Nat.reduceLT, Nat.reduceEqDiff, Nat.reduceAdd, Nat.reduceLeDiff, eq_self, implies_true, e0, List.map_nil])).trans (weak_ren1 [0, 1, 2] ⟨(by decide), (by (first | ((simp only [envInR, tabInR, envLt, tabLt, AObj.lt, AV.lt, AV.ltL, AV.ren, AV.renL, AObj.ren, List.getD_cons_zero, List.getD_cons_succ, List.length_cons, List.length_nil, ruW, ASt.get, aget, ASt.put, ↓reduceIte, reduceCtorEq, Nat.reduceLT, Nat.reduceEqDiff, Nat.reduceAdd, Nat.reduceLeDiff, eq_self, implies_true, e0, List.map_nil]) <;> (repeat' apply And.intro) <;> first | (rw [wrapK (by omega)]; done) | (simp; done) | omega) | fail))⟩)), 0, Nat.zero_le _, rfl⟩ ?_
  rintro _ ⟨k, hk, rfl⟩
  have hlen := filtN_len f k
  by_cases hlt : k < m.users.length
  · have hef : enabledM m s event (k : Int) = f k := by rw [hf]
    (repeat' (first | simp (maxSteps := 5000000) (implicitDefEqProofs := false) only [ruA, ruB, aEv, aTake, aLoad, aField, aIndex, aLen, aBin, bin2, aUn, un1, aExtract, aConv, ASt.get, aget, ASt.put, aStore, aBox, aAppend, aBuildSlice, aMake, aBuild, aFill, oneParts, allC, aBinS, yv, aCells, oneC, oneCL, treeC, treeL, aLit, aDst, aSrc, appTab, Value.cells, Value.oneCell', envOf, aResL, aOne, ↓reduceIte, reduceCtorEq, forall_const, Nat.reduceLT, Nat.reduceEqDiff, Nat.reduceAdd, Nat.reduceMul, Nat.reduceSub, Nat.reduceLeDiff, Nat.reduceBEq, eq_self, implies_true, ne_eq, dref, dref1, dref2, aExecS, aStoreB, aTakes, aTakeE, aElder, aFrom, aFresh, isLoad, aBuildSlice1, frzs, frz1, ownIds, AV.frz, AV.frzL, frzEnv, AV.shift, AV.shiftL, aFieldV, aSliceW, aSliceO, aSlice, aSliceR, aSliceS, aBd, aMax, frzAVs, frzAV, frzTab, AObj.frz, aMM, aNilS, aMay, tyF_32_2, tyA_22, tyS_22, tyE_22, tyK_22, tyK_3, tyA_32, tyS_32, tyA_62, tyS_62, tyR_44, hlt] | (with_reducible refine aIf_split (fun _ => ?_) (fun _ => ?_)) | (with_reducible refine aSel_split (fun _ => ?_) (fun _ => ?_)) | (with_reducible refine aGd_split (fun _ => ?_) (fun _ => ?_)) | (with_reducible refine aDraw_quiet (by kernel_rfl) ?_) | ((refine callV (enabled_A m s event (k : Int) hl hl2) ?_; rw [hef]))))
    · rename_i h
      have et : (filtN f (k + 1)).map (fun n => [eI n]) = (filtN f k).map (fun n => [eI n]) ++ [[eI (k : Int)]] := by
        rw [filtN, if_pos h]
        simp
      refine ⟨rfl, by omega, roundI (weak_ren1 [0, 1, 4] ⟨(by decide), (by (first | ((simp only [envInR, tabInR, envLt, tabLt, AObj.lt, AV.lt, AV.ltL, AV.ren, AV.renL, AObj.ren, List.getD_cons_zero, List.getD_cons_succ, List.length_cons, List.length_nil, ruW, ASt.get, aget, ASt.put, ↓reduceIte, reduceCtorEq, Nat.reduceLT, Nat.reduceEqDiff, Nat.reduceAdd, Nat.reduceLeDiff, eq_self, implies_true, et]) <;> (repeat' apply And.intro) <;> first | (rw [wrapK (by omega)]; done) | (simp; done) | omega) | fail))⟩) ⟨k + 1, by omega, rfl⟩ (by simp only [slotN, ruW, ASt.get, aget, ASt.put, ↓reduceIte, reduceCtorEq, Nat.reduceLT, Nat.reduceEqDiff, Nat.reduceAdd, Nat.reduceLeDiff, eq_self, implies_true]; omega)⟩
    · rename_i h
      have et : filtN f (k + 1) = filtN f k := by
        rw [filtN, if_neg (by simp [h])]
      exact roundI (weak_cut1 (by (first | ((simp only [envIn, tabIn, envLt, tabLt, AObj.lt, AV.lt, AV.ltL, ruW, ASt.get, aget, ASt.put, ↓reduceIte, reduceCtorEq, Nat.reduceLT, Nat.reduceEqDiff, Nat.reduceAdd, Nat.reduceLeDiff, eq_self, implies_true, et]) <;> (repeat' apply And.intro) <;> first | (rw [wrapK (by omega)]; done) | (simp; done) | omega) | fail))) ⟨k + 1, by omega, rfl⟩ (by simp only [slotN, ruW, ASt.get, aget, ASt.put, ↓reduceIte, reduceCtorEq, Nat.reduceLT, Nat.reduceEqDiff, Nat.reduceAdd, Nat.reduceLeDiff, eq_self, implies_true]; omega)
  · obtain rfl : k = m.users.length := by omega
    (repeat' (first | simp (maxSteps := 5000000) (implicitDefEqProofs := false) only [ruA, ruB, aEv, aTake, aLoad, aField, aIndex, aLen, aBin, bin2, aUn, un1, aExtract, aConv, ASt.get, aget, ASt.put, aStore, aBox, aAppend, aBuildSlice, aMake, aBuild, aFill, oneParts, allC, aBinS, yv, aCells, oneC, oneCL, treeC, treeL, aLit, aDst, aSrc, appTab, Value.cells, Value.oneCell', envOf, aResL, aOne, ↓reduceIte, reduceCtorEq, forall_const, Nat.reduceLT, Nat.reduceEqDiff, Nat.reduceAdd, Nat.reduceMul, Nat.reduceSub, Nat.reduceLeDiff, Nat.reduceBEq, eq_self, implies_true, ne_eq, dref, dref1, dref2, aExecS, aStoreB, aTakes, aTakeE, aElder, aFrom, aFresh, isLoad, aBuildSlice1, frzs, frz1, ownIds, AV.frz, AV.frzL, frzEnv, AV.shift, AV.shiftL, aFieldV, aSliceW, aSliceO, aSlice, aSliceR, aSliceS, aBd, aMax, frzAVs, frzAV, frzTab, AObj.frz, aMM, aNilS, aMay, tyF_32_2, tyA_22, tyS_22, tyE_22, tyK_22, tyK_3, tyA_32, tyS_32, tyA_62, tyS_62, tyR_44, hlt] | (with_reducible refine aIf_split (fun _ => ?_) (fun _ => ?_)) | (with_reducible refine aSel_split (fun _ => ?_) (fun _ => ?_)) | (with_reducible refine aGd_split (fun _ => ?_) (fun _ => ?_)) | (with_reducible refine aDraw_quiet (by kernel_rfl) ?_)))
    exact aGives_own (by simp [ATab.get_cons])
end
section
open Go.RowKit
section
variable {P : Program} {f : FuncId} {args : List AV}
theorem res_frz {cx : Cx} {w' : World} {L : Nat → Value} {v : Value} {R : Res} (h5 : R.Ok) (h7 : Lay cx w' R.tab L) (h8 : RVx cx w' R.tab L v R.r) (id : Nat) : (R.frz id).Ok ∧ Lay cx w' (R.frz id).tab L ∧ RVx cx w' (R.frz id).tab L v (R.frz id).r := by
  unfold Res.frz
  split
  · rename_i e' sz rows hid
    obtain ⟨h9, h10⟩ := frz_core h7 (fun k o hk => (h5.young k o hk).2) hid
    refine ⟨⟨fun k o hk => ?_, frz_lt h5.lt⟩, h9, h10 v _ h8 h5.lt⟩
    simp only [ATab.get_cons, frzTab_get] at hk
    split at hk
    · cases hk
    · cases hg : R.tab.get k with
      | none => simp [hg] at hk
      | some o' =>
        simp [hg] at hk
        subst hk
        exact ⟨(h5.young k o' hg).1, frz_obj_lt (h5.young k o' hg).2⟩
  · exact ⟨h5, h7, h8⟩
theorem res_frzs {cx : Cx} {w' : World} {L : Nat → Value} {v : Value} : ∀ (ids : List Nat) {R : Res}, R.Ok → Lay cx w' R.tab L → RVx cx w' R.tab L v R.r → (R.frzs ids).Ok ∧ Lay cx w' (R.frzs ids).tab L ∧ RVx cx w' (R.frzs ids).tab L v (R.frzs ids).r
  | [], R, h1, h2, h3 => ⟨h1, h2, h3⟩
  | id :: ids, R, h1, h2, h3 => by
    obtain ⟨h4, h5, h6⟩ := res_frz h1 h2 h3 id
    exact res_frzs ids h4 h5 h6
inductive FitsT : AV → AV → Prop
  | one {a b : AV} (h : FitsA a b) : FitsT a b
  | tup {l l' : List AV} (h : FitsAs l l') : FitsT (.tup l) (.tup l')
theorem rt_of_rv {w : World} {S : Nat → Prop} {K : Nat → Option (Nat × Value)} {x : Value} {av : AV} (h : RV w S K x av) : av.lt 0 → RT w S x av := by
  induction h with
  | tree h => exact fun _ => h
  | osl x id h => exact fun h2 => by simp [AV.lt] at h2
  | op x id i j h => exact fun h2 => by simp [AV.lt] at h2
  | agg xs cs hn hr ih =>
    intro h2
    simp only [AV.lt] at h2
    exact .agg xs cs hn fun j x av h3 h4 => ih j x av h3 h4 (ltL_iff.1 h2 av (List.mem_of_getElem? h4))
  | tup xs cs hn hr ih =>
    intro h2
    simp only [AV.lt] at h2
    exact .tup xs cs hn fun j x av h3 h4 => ih j x av h3 h4 (ltL_iff.1 h2 av (List.mem_of_getElem? h4))
  | fn f xs cs hn hr ih =>
    intro h2
    simp only [AV.lt] at h2
    exact .fn f xs cs hn fun j x av h3 h4 => ih j x av h3 h4 (ltL_iff.1 h2 av (List.mem_of_getElem? h4))
theorem RT.tup_inv {w : World} {S : Nat → Prop} {x : Value} {cs : List AV} (h : RT w S x (.tup cs)) : ∃ xs : Array Value, x = .tuple xs ∧ xs.size = cs.length ∧ ∀ (j : Nat) (x : Value) (av : AV), xs[j]? = some x → cs[j]? = some av → RT w S x av := by
  cases h with
  | tup xs _ hn hr => exact ⟨xs, rfl, hn, hr⟩
theorem FitsT.rt {w : World} {S : Nat → Prop} {v : Value} {a b : AV} (h : FitsT a b) (hr : RT w S v a) : RT w S v b := by
  cases h with
  | one h => exact h.rt hr
  | @tup l l' h =>
    obtain ⟨xs, rfl, hn, hx⟩ := hr.tup_inv
    obtain ⟨h1, h2⟩ := h.spec
    refine .tup xs l' (by omega) fun j x av h3 h4 => ?_
    have hj : j < l.length := by
      have := (List.getElem?_eq_some_iff.1 h4).1
      omega
    have h5 : l[j]? = some l[j] := List.getElem?_eq_getElem hj
    exact (h2 j _ av h5 h4).rt (hx j x _ h3 h5)
theorem tab_ok {R : Res} (h1 : tabLt R.n R.tab) (h2 : R.r.lt R.n) : R.Ok := by
  refine ⟨?_, h2⟩
  revert h1
  generalize R.tab = T
  induction T with
  | nil => exact fun _ id o h => by cases h
  | cons p T ih =>
    obtain ⟨k, ob⟩ := p
    intro h1 id o h
    rw [ATab.get_cons] at h
    cases ob with
    | none =>
      simp only [tabLt] at h1
      split at h
      · cases h
      · exact ih h1 id o h
    | some ob =>
      simp only [tabLt] at h1
      split at h
      · rename_i e
        cases h
        exact ⟨by rw [e]; exact h1.1.1, h1.1.2⟩
      · exact ih h1.2 id o h
/-- an answer that nobody writes any more -/
theorem ARel.tree {Post : Res → Prop} {r' : AV} (h : ARel P f args Post) (hl : r'.lt 0) (hp : ∀ R, Post R → ∃ ids, (R.frzs ids).r.lt 0 ∧ FitsT (R.frzs ids).r r') : ADet P f args ⟨r', [], 0⟩ :=
  ⟨h.1, fun S w vs h1 h2 h3 => (h.2 S w vs h1 h2 h3).mono fun e w' ⟨v, L, R, h4, h5, h6, h7, h8⟩ => by
    obtain ⟨ids, ha, hc⟩ := hp R h4
    obtain ⟨h9, h10, h11⟩ := res_frzs ids h5 h7 h8
    have hext : Ext (Cx.mk0 S w) w' (R.frzs ids).tab L 0 w' [] L := ⟨fun _ _ => rfl, fun b hb => ⟨hb.1, hb.2.1, fun k o hk => (by cases hk)⟩, fun k p _ hk => by simp [Kx, ATab.get] at hk⟩
    have h12 := rt_of_rv (hext.rv h11 ha) ha
    exact ⟨v, L, ⟨r', [], 0⟩, rfl, ⟨fun id o hk => (by cases hk), hl⟩, h6, ⟨h10.below, fun id o hk => (by cases hk), fun id id' o o' g hk => (by cases hk), fun b hb => hb.elim⟩, .tree (hc.rt h12)⟩⟩
end
/-- a slice of the call's own, or nil for nothing -/
theorem adet_own_nil {P : Program} {f : FuncId} {args : List AV} {e : TypeId} {sz : Nat} {rows : List (List AV)} (h : ARel P f args fun R => R = own e sz rows ∨ (R = val (.slice none 0 0) ∧ rows = [])) : ADet P f args ⟨.sl sz rows, [], 0⟩ :=
  h.tree (by simp [AV.lt]) fun R hR => by
    rcases hR with rfl | ⟨rfl, rfl⟩
    · refine ⟨[0], ?_⟩
      have e : ((own e sz rows).frzs [0]).r = .sl sz rows := by simp [Res.frzs, Res.frz, own, ATab.get_cons, AV.frz]
      rw [e]
      exact ⟨trivial, .one (.one (.refl _))⟩
    · exact ⟨[], trivial, .one (.one (.nil sz))⟩
end
section
open Go.RowKit
noncomputable def anyM (m : Mod) (s : St) : Bool := anyN (fun e => anyN (fun u => enabledM m s (e : Int) (u : Int)) m.users.length) m.events.length
end
section
open Go.RowKit

section
variable {P : Program} {cx : Cx} {a : Act} {w w' w'' : World} {st : ASt} {tab tab' tab'' : ATab} {L L' L'' : Nat → Value} {nx nx' nx'' : Nat}
theorem Fr.refl : Fr cx w tab L nx w tab L nx := ⟨Ext.refl .., Nat.le_refl _, fun _ _ _ => rfl, fun id o g h1 h2 _ => ⟨id, o, h1, h2⟩, Nat.le_refl _⟩
theorem Fr.trans (h : Fr cx w tab L nx w' tab' L' nx') (k : Fr cx w' tab' L' nx' w'' tab'' L'' nx'') : Fr cx w tab L nx w'' tab'' L'' nx'' :=
  ⟨⟨fun b hb => (k.ext.blk b (h.ext.sub b hb)).trans (h.ext.blk b hb), fun b hb => k.ext.sub b (h.ext.sub b hb), fun id p hid hp => h.ext.loc id p hid (k.ext.loc id p (Nat.lt_of_lt_of_le hid h.next) hp)⟩,
   Nat.le_trans h.size k.size,
   fun j hj hn => (k.keep j (Nat.lt_of_lt_of_le hj h.size) fun id o h1 h2 => (h.young id o j h1 h2 hj).elim fun id2 ⟨o2, h3, h4⟩ => hn id2 o2 h3 h4).trans (h.keep j hj hn),
   fun id o g h1 h2 hg => (k.young id o g h1 h2 (Nat.lt_of_lt_of_le hg h.size)).elim fun id2 ⟨o2, h3, h4⟩ => h.young id2 o2 g h3 h4 hg,
   Nat.le_trans h.next k.next⟩
theorem put_tab (st : ASt) (d : Option Nat) (av : AV) : (st.put d av).tab = st.tab := by cases d <;> rfl
theorem put_next (st : ASt) (d : Option Nat) (av : AV) : (st.put d av).next = st.next := by cases d <;> rfl
theorem fr_merge (hy : ∀ id o, tab.get id = some o → id < nx) (hb : Below w.heap.size w w') (hold : ∀ id, id < nx → tab'.get id = tab.get id ∧ L' id = L id) (hnew : ∀ id o g, nx ≤ id → tab'.get id = some o → vblk (L' id) = some g → w.heap.size ≤ g) (hn : nx ≤ nx') : Fr cx w tab L nx w' tab' L' nx' :=
  ⟨ext_merge hb hold hy hnew, hb.size, fun k hk _ => hb.block k hk, fun id o g h1 h2 hg => by
    rcases Nat.lt_or_ge id nx with hlt | hge
    · exact ⟨id, o, by rw [← (hold id hlt).1]; exact h1, by rw [← (hold id hlt).2]; exact h2⟩
    · exact absurd (hnew id o g hge h1 h2) (by omega), hn⟩
theorem fr_new (h : Conc cx a w st L) (hb : Below w.heap.size w w') {v : Value} {ob : AObj} (hnew : ∀ g, vblk v = some g → w.heap.size ≤ g) : Fr cx w st.tab L st.next w' ((st.next, some ob) :: st.tab) (updL L st.next v) (st.next + 1) :=
  fr_merge (fun id o hid => (h.young id o hid).1) hb (fun id hid => by unfold updL; rw [ATab.get_cons, if_neg (by omega), if_neg (by omega)]; exact ⟨rfl, rfl⟩)
    (fun id o g h1 h2 h3 => by
      rw [ATab.get_cons] at h2
      unfold updL at h3
      split at h2
      · rename_i e
        rw [if_pos e] at h3
        exact hnew g h3
      · have := (h.young id o h2).1
        omega) (Nat.le_succ _)
theorem fr_upd {id : Nat} {o o' : AObj} (hid : st.tab.get id = some o) (hsz : o'.sz = o.sz) (hs : w'.heap.size = w.heap.size) (hb : ∀ k, vblk (L id) ≠ some k → w'.heap[k]? = w.heap[k]?) : Fr cx w st.tab L st.next w' ((id, some o') :: st.tab) L st.next := by
  have hget : ∀ k ok, ATab.get ((id, some o') :: st.tab) k = some ok → ∃ ok', st.tab.get k = some ok' ∧ ok.sz = ok'.sz := fun k ok hk => by
    rw [ATab.get_cons] at hk
    split at hk
    · rename_i e
      cases hk
      exact ⟨o, by rw [e]; exact hid, hsz⟩
    · exact ⟨ok, hk, rfl⟩
  refine ⟨⟨fun b hb' => hb b (hb'.2.2 id o hid), fun b hb' => ⟨by rw [hs]; exact hb'.1, hb'.2.1, fun k ok hk => ?_⟩, fun k p _ hk => ?_⟩, by rw [hs]; exact Nat.le_refl _, fun k hk hn => hb k (hn id o hid), fun k ok g h1 h2 _ => ?_, Nat.le_refl _⟩
  · obtain ⟨ok', h1, _⟩ := hget k ok hk
    exact hb'.2.2 k ok' h1
  · unfold Kx at *
    cases ho : ATab.get ((id, some o') :: st.tab) k with
    | none => simp [ho] at hk
    | some ok =>
      obtain ⟨ok', h1, h2⟩ := hget k ok ho
      rw [h1]
      simpa [ho, h2] using hk
  · obtain ⟨ok', h3, _⟩ := hget k ok h1
    exact ⟨k, ok', h3, h2⟩
theorem fr_frz1 (id : Nat) : Fr cx w st.tab L st.next w (frz1 st id).tab L (frz1 st id).next := by
  unfold frz1
  split
  · rename_i e sz rows hid
    have hget : ∀ k ok, ATab.get ((id, none) :: frzTab id sz rows st.tab) k = some ok → ∃ ok', st.tab.get k = some ok' ∧ ok.sz = ok'.sz := fun k ok hk => by
      rw [ATab.get_cons, frzTab_get] at hk
      split at hk
      · cases hk
      · cases hg : st.tab.get k with
        | none => simp [hg] at hk
        | some o' =>
          simp [hg] at hk
          exact ⟨o', rfl, by rw [← hk, frz_sz]⟩
    refine ⟨⟨fun _ _ => rfl, fun b hb' => ⟨hb'.1, hb'.2.1, fun k ok hk => ?_⟩, fun k p _ hk => ?_⟩, Nat.le_refl _, fun k hk hn => rfl, fun k ok g h1 h2 _ => ?_, Nat.le_refl _⟩
    · obtain ⟨ok', h1, _⟩ := hget k ok hk
      exact hb'.2.2 k ok' h1
    · unfold Kx at *
      cases ho : ATab.get ((id, none) :: frzTab id sz rows st.tab) k with
      | none => simp [ho] at hk
      | some ok =>
        obtain ⟨ok', h1, h2⟩ := hget k ok ho
        rw [h1]
        simpa [ho, h2] using hk
    · obtain ⟨ok', h3, _⟩ := hget k ok h1
      exact ⟨k, ok', h3, h2⟩
  · exact Fr.refl
theorem fr_frzs : ∀ (ids : List Nat) {st : ASt}, Fr cx w st.tab L st.next w (frzs st ids).tab L (frzs st ids).next
  | [], _ => Fr.refl
  | id :: ids, st => (fr_frz1 id).trans (fr_frzs ids (st := frz1 st id))
theorem fr_app (h : Conc cx a w st L) {v v' : Value} {oid : Option Nat} {ob : AObj} (hg : w.grownBy w' v.ownBlock) (hv : vblk v' = v.ownBlock ∨ vblk v' = some w.heap.size)
    (hown : ∀ g, v.ownBlock = some g → ∃ id, oid = some id ∧ vblk (L id) = some g) (hoid : ∀ id, oid = some id → ∃ o, st.tab.get id = some o) : Fr cx w st.tab L st.next w' (appTab st.tab st.next oid ob) (updL L st.next v') (st.next + 1) := by
  have hnot : ∀ k, (∀ id o, st.tab.get id = some o → vblk (L id) ≠ some k) → some k ≠ v.ownBlock := fun k hn e => by
    obtain ⟨id, h1, h2⟩ := hown k e.symm
    obtain ⟨o, h3⟩ := hoid id h1
    exact hn id o h3 h2
  have hget : ∀ k ok, (appTab st.tab st.next oid ob).get k = some ok → k = st.next ∨ (k < st.next ∧ st.tab.get k = some ok) := fun k ok hk => by
    rw [appTab_get] at hk
    split at hk
    · exact .inl (by assumption)
    · split at hk
      · cases hk
      · exact .inr ⟨(h.young k ok hk).1, hk⟩
  refine ⟨⟨fun b hb => hg.block b hb.1 (hnot b hb.2.2), fun b hb => ⟨Nat.lt_of_lt_of_le hb.1 hg.size, hb.2.1, fun k ok hk => ?_⟩, fun k p hlt hk => ?_⟩, hg.size, fun k hk hn => hg.block k hk (hnot k hn), fun k ok g h1 h2 hlt => ?_, Nat.le_succ _⟩
  · unfold updL
    rcases hget k ok hk with rfl | ⟨hlt, ho⟩
    · rw [if_pos rfl]
      rcases hv with hv | hv
      · rw [hv]
        exact fun e => hnot b hb.2.2 e.symm
      · rw [hv]
        intro e
        cases e
        exact absurd hb.1 (by omega)
    · rw [if_neg (by omega)]
      exact hb.2.2 k ok ho
  · unfold Kx updL at *
    rw [if_neg (by omega)] at hk
    cases ho : (appTab st.tab st.next oid ob).get k with
    | none => simp [ho] at hk
    | some ok =>
      rcases hget k ok ho with rfl | ⟨_, h1⟩
      · omega
      · rw [h1]
        rw [ho] at hk
        exact hk
  · unfold updL at h2
    rcases hget k ok h1 with rfl | ⟨hlt', ho⟩
    · rw [if_pos rfl] at h2
      rcases hv with hv | hv
      · rw [hv] at h2
        obtain ⟨id, h3, h4⟩ := hown g h2
        obtain ⟨o, h5⟩ := hoid id h3
        exact ⟨id, o, h5, h4⟩
      · rw [hv] at h2
        cases h2
        omega
    · rw [if_neg (by omega)] at h2
      exact ⟨k, ok, ho, h2⟩
/-- what follows an operation, and what stays -/
abbrev AfterF (cx : Cx) (a : Act) (w : World) (st : ASt) (L : Nat → Value) (K : ASt → Prop) : Act → World → Prop := fun a' w' => ∃ st' L', K st' ∧ Conc cx a' w' st' L' ∧ Fr cx w st.tab L st.next w' st'.tab L' st'.next ∧ a'.defers = a.defers
theorem put_defers (a : Act) (d : Option Nat) (v : Value) : (a.put d v).defers = a.defers := by cases d <;> rfl
theorem pure_wpF {o : Oper} {K : ASt → Prop} {Q : Exit → Act → World → Prop} (h : Conc cx a w st L) (hp : aPure P st.tab (aEv st) o.op (aK st o.dst K)) : o.wp P a w (AfterF cx a w st L K) Q := by
  obtain ⟨v, av, h1, h2, h3, h4, _⟩ := pure_ok h.lay (fun id o hid => (h.young id o hid).2) (eval_ok h) hp
  exact wp_value (h4 w (Below.refl _ _)) ⟨_, L, h1, conc_pure h h2 h3 o.dst, (by rw [put_tab, put_next]; exact Fr.refl), put_defers _ _ _⟩
/-- an operation that may stand in a round -/
def fOp (o : Oper) : Bool := match o.op with
  | .slice .. => false
  | .defer _ => false
  | _ => true
theorem op_okF {o : Oper} {K : ASt → Prop} {Q : Exit → Act → World → Prop} (h : Conc cx a w st L) (hp : aOp P o K st) (hf : fOp o = true) : o.wp P a w (AfterF cx a w st L K) Q := by
  obtain ⟨dst, op, ty, pos, aft, gd⟩ := o
  unfold aOp at hp
  simp only at hp
  split at hp
  · rename_i t x
    obtain ⟨h1, h2⟩ := hp
    have he := eval_ok h x
    obtain ⟨h3, h4⟩ := box_ok (P := P) (t := t) h he.1 he.2 h1 dst
    exact wp_value (by simp [execOp, Sem.run_bind, h3]) ⟨_, _, h2, h4, (by rw [put_tab, put_next]; exact fr_new h ((Below.refl _ _).alloc (Nat.le_refl _) _) (fun g hg => by simp [vblk] at hg; omega)), put_defers _ _ _⟩
  · rename_i t
    split at hp
    · rename_i z hz
      obtain ⟨h1, h2⟩ := hp
      obtain ⟨h3, h4⟩ := box_ok (P := P) (t := t) (av := .c z) h (.tree (.c z)) trivial h1 dst
      exact wp_value (by simp [execOp, Sem.run_bind, alloc_run hz, h3]) ⟨_, _, h2, h4, (by rw [put_tab, put_next]; exact fr_new h ((Below.refl _ _).alloc (Nat.le_refl _) _) (fun g hg => by simp [vblk] at hg; omega)), put_defers _ _ _⟩
    · exact hp.elim
  · rename_i t p x
    unfold aStore at hp
    split at hp
    · rename_i id i j hpe
      split at hp
      · rename_i ty cells hid
        obtain ⟨rfl, h0, h1, h2, h3, h4⟩ := hp
        have hpv := (eval_ok h p).1
        rw [hpe] at hpv
        have hx := eval_ok h x
        obtain ⟨w', h5, h6, h7, h8⟩ := store_box_ok h hpv hid hx.1 hx.2 h0 h1 h2 h3 dst
        exact wp_skip' (by simp [execOp, Sem.run_bind, h5]) ⟨_, _, h4, h6, (by rw [put_tab, put_next]; exact fr_upd hid (by simp only [AObj.sz, List.length_append, List.length_take, List.length_drop]; omega) h7 h8), put_defers _ _ _⟩
      · rename_i e sz rows hid
        obtain ⟨hi, h0, h1, h2, h3, h3', h4⟩ := hp
        have hpv := (eval_ok h p).1
        rw [hpe] at hpv
        have hx := eval_ok h x
        obtain ⟨w', h5, h6, h7, h8⟩ := store_row_ok h hpv hid hx.1 hx.2 hi h0 h1 h2 h3 h3' dst
        exact wp_skip' (by simp [execOp, Sem.run_bind, h5]) ⟨_, _, h4, h6, (by rw [put_tab, put_next]; exact fr_upd hid rfl h7 h8), put_defers _ _ _⟩
      · exact hp.elim
    · exact hp.elim
  · rename_i t n parts
    unfold aBuildSlice at hp
    have hfr := fr_frzs (cx := cx) (w := w) (L := L) (st := st) (ownIds (parts.toList.flatMap fun (p : Nat × Operand) => aCells (aEv st p.2)))
    replace h := conc_frzs (ownIds (parts.toList.flatMap fun (p : Nat × Operand) => aCells (aEv st p.2))) h
    unfold aBuildSlice1 at hp
    split at hp
    · rename_i e sz by_ ht
      obtain ⟨⟨h1, rfl, h3, h5⟩, h6⟩ := hp
      obtain ⟨v', w', L', h7, h8, hb, rfl, hv⟩ := buildSlice_ok h ht h1 h3 h5 dst
      refine wp_value ?_ ⟨_, _, h6, h8, (by rw [put_tab, put_next]; exact hfr.trans (fr_new h hb fun g hg => by rw [hv] at hg; cases hg; exact Nat.le_refl _)), put_defers _ _ _⟩
      simp only [Array.toArray_toList] at h7
      simp [execOp, Sem.run_bind]
      simp at h7
      simp [h7]
    · exact hp.elim
  · rename_i t l c
    unfold aMake at hp
    split at hp
    · rename_i e sz by_ k1 n k2 m ht hl hc
      split at hp
      · rename_i z hz
        obtain ⟨⟨rfl, h1, h2, h3, h4⟩, h5⟩ := hp
        have hl' := (eval_ok h l).1
        have hc' := (eval_ok h c).1
        rw [hl] at hl'
        rw [hc] at hc'
        obtain ⟨v', w', L', h6, h7, hb, rfl, hv⟩ := make_ok (k1 := k1) (k2 := k2) h ht hz h1 h2 h3 h4 dst
        exact wp_value (by simp [execOp, Sem.run_bind, hl'.c_inv, hc'.c_inv, h6]) ⟨_, _, h5, h7, (by rw [put_tab, put_next]; exact fr_new h hb fun g hg => by rw [hv] at hg; cases hg; exact Nat.le_refl _), put_defers _ _ _⟩
      · exact hp.elim
    · exact hp.elim
  · rename_i t parts
    obtain ⟨v, cs, h1, h2, h3, h4⟩ := build_wp h hp
    refine wp_value ?_ ⟨_, _, h4, conc_pure h h1 h2 dst, (by rw [put_tab, put_next]; exact Fr.refl), put_defers _ _ _⟩
    simp [execOp, Sem.run_bind, h3 w]
  · cases hf
  · rename_i c
    obtain ⟨callee, args, argTypes⟩ := c
    simp only at hp
    split at hp
    · split at hp
      · rename_i x y t t' h1 h2
        obtain rfl : args = #[x, y] := by cases args; simp_all
        obtain rfl : argTypes = #[t, t'] := by cases argTypes; simp_all
        obtain ⟨rfl, hp⟩ := hp
        unfold aAppend at hp
        split at hp
        · rename_i e sz by_ ht
          split at hp
          · rename_i oid rows rows2 hx hy
            obtain ⟨⟨h3, h4⟩, h5⟩ := hp
            obtain ⟨v', w', L', h6, h7, hg, rfl, hv, hown⟩ := append_ok (ty := ty) h (eval_ok h x).1 (eval_ok h y).1 ht hx hy (by simpa [maxLen] using h3) h4 dst
            have hoid : ∀ id, oid = some id → ∃ o, st.tab.get id = some o := fun id hid => by
              subst hid
              unfold aDst at hx
              split at hx
              · rename_i id' hid'
                split at hx
                · rename_i e' sz' rows' hget
                  split at hx
                  · cases hx
                    exact ⟨_, hget⟩
                  · cases hx
                · cases hx
              · cases hx
              · cases hx
            exact wp_value (by simp [execOp, Sem.run_bind, resolve, invoke, builtin, h6]) ⟨_, _, h5, h7, (by rw [put_tab, put_next]; exact fr_app h hg hv hown hoid), put_defers _ _ _⟩
          · exact hp.elim
        · exact hp.elim
      · exact hp.elim
    · rename_i f
      obtain ⟨g, xs, cs, hg, hxn, hxr, hp, hcs⟩ := aFn_inv (eval_ok h f).1 (eval_ok h f).2 hp
      have hent : Enters P g := by
        rcases hp with ⟨R, hd, _⟩ | ⟨_, ⟨_, _, _, _, _, _, _, _, hd, _⟩ | ⟨_, R, hd, _⟩⟩
        · exact hd.1
        · exact hd.1
        · exact hd.1
      have hrun : (execOp a.eval { dst := dst, op := .call { callee := .value f, args := args, argTypes := argTypes }, type := ty, pos := pos, after := aft, guard := gd }).run P w = .ok (.enter g (args.map a.eval ++ xs)) w := by
        have := hent (args.map a.eval ++ xs) w
        simp [execOp, Sem.run_bind, resolve, hg, Deferred.ofValue, invoke, this]
      unfold Oper.wp
      rw [hrun]
      show Calls P g (args.map a.eval ++ xs) w _
      have hargs := args_rv h (args := args) hxn hxr
      rcases hp with hp | ⟨_, hp | ⟨ids, hp⟩⟩
      · refine (call_ok h hargs.1 hargs.2 hp dst).mono ?_
        rintro e w' ⟨v, av, st', L', rfl, h1, h2, hb, hold, hnew, hnx⟩
        exact ⟨_, _, h1, h2, (by rw [put_tab, put_next]; exact fr_merge (fun id o hid => (h.young id o hid).1) hb hold hnew hnx), put_defers _ _ _⟩
      rotate_left
      · have hlt : ∀ (j : Nat) (v : Value) (av : AV), (args.map a.eval ++ xs)[j]? = some v → (args.toList.map (aEv st) ++ cs)[j]? = some av → RVx cx w st.tab L v av ∧ av.lt st.next := fun j v av h1 h2 => ⟨hargs.2 j v av h1 h2, by
          rcases List.mem_append.1 (List.mem_of_getElem? h2) with h3 | h3
          · obtain ⟨x, _, rfl⟩ := List.mem_map.1 h3
            exact (eval_ok h x).2
          · exact hcs av h3⟩
        obtain ⟨h3, h4⟩ := frzAVs_ok ids h hlt
        have hz := conc_frzs ids h
        refine (call_ok hz (by rw [h3]; exact hargs.1) (fun j v av h5 h6 => (h4 j v av h5 h6).1) hp dst).mono ?_
        rintro e w' ⟨v, av, st', L', rfl, h1, h2, hb, hold, hnew, hnx⟩
        exact ⟨_, _, h1, h2, (by rw [put_tab, put_next]; exact (fr_frzs ids).trans (fr_merge (fun id o hid => (hz.young id o hid).1) hb hold hnew hnx)), put_defers _ _ _⟩
      · refine (upd_ok h hargs.1 hargs.2 hp dst).mono ?_
        rintro e w' ⟨v, av, st', L', rfl, h1, h2, h3⟩
        exact ⟨_, _, h1, h2, (by rw [put_tab, put_next]; exact h3), put_defers _ _ _⟩
    · exact pure_wpF h hp
  · exact pure_wpF h hp
end
end
section
open Go.RowKit

section
variable {P : Program} {cx : Cx} {a : Act} {w w' : World} {st : ASt} {L L' : Nat → Value} {l0 n : Nat}
/-- in a round an operation goes as everywhere -/
theorem wpIn_of_wp {o : Oper} {next : Act → World → Prop} {Q : Exit → Act → World → Prop} (hd : ∀ c, o.op ≠ .defer c) (h : o.wp P a w next Q) : o.wpIn (Fence.wide.inRound l0) n P a w next Q := by
  refine ⟨fun _ _ => trivial, ?_⟩
  rw [Oper.semAt_eq _ _ _ hd]
  unfold Oper.wp at h
  generalize (execOp a.eval o).run P w = r at h
  cases r with
  | ok x w1 =>
    cases x with
    | value v => exact h
    | skip => exact h
    | defer d => exact h
    | enter f args => exact ⟨fun h => (by cases h), CallsIn.inRound l0 (callsIn_wide.2 h)⟩
    | row row args =>
      refine ⟨fun h => (by cases h), fun c cs _ => ?_⟩
      obtain ⟨v, w', h1, h2⟩ := h c cs
      exact ⟨v, w', h1, by rw [fenced_inRound]; exact stepsIn_wide.2 h2⟩
    | _ => exact h.elim
  | halt x w1 =>
    cases x <;> first | exact h | exact h.elim
theorem fOp_defer {o : Oper} (h : fOp o = true) : ∀ c, o.op ≠ .defer c := fun c e => by
  unfold fOp at h
  rw [e] at h
  cases h
theorem ops_okF {ops : Array Oper} {K : ASt → Prop} {Q : Exit → Act → World → Prop} : ∀ (l : List Oper) (a : Act) (w : World) (st : ASt) (L : Nat → Value), (∀ o ∈ l, fOp o = true) →
    (∀ a' w' st' L', K st' → Conc cx a' w' st' L' → Fr cx w st.tab L st.next w' st'.tab L' st'.next → Q .normal a' w') → Conc cx a w st L → aOps P ops K l st → wpListIn (Fence.wide.inRound l0) n P ops Q l a w
  | [], a, w, st, L, _, hQ, h, hp => hQ a w st L hp h Fr.refl
  | o :: rest, a, w, st, L, hf, hQ, h, hp => by
    unfold aOps at hp
    have hfo := hf o (List.mem_cons_self ..)
    refine wpListIn_step fun K' hK' => ?_
    rcases guard_ok h hp o rfl with ⟨hw, st', h1, h2, e1, e2⟩ | ⟨hw, st', h1, h2, e1, e2⟩
    · rw [if_pos hw]
      refine wpIn_of_wp (fOp_defer hfo) (Oper.wp_mono (fun a' w' ⟨st'', L', h3, h4, h5, _⟩ => hK' a' w' (ops_okF rest a' w' st'' L' (fun o ho => hf o (List.mem_cons_of_mem _ ho)) (fun a2 w2 st2 L2 h6 h7 h8 => hQ a2 w2 st2 L2 h6 h7 ?_) h4 h3)) (op_okF h2 h1 hfo))
      rw [e1, e2] at h5
      exact h5.trans h8
    · rw [if_neg (by simp [hw])]
      refine ⟨fun _ _ => trivial, hK' _ _ (ops_okF rest _ w _ L (fun o ho => hf o (List.mem_cons_of_mem _ ho)) (fun a2 w2 st2 L2 h6 h7 h8 => hQ a2 w2 st2 L2 h6 h7 ?_) (skip_conc h2 o.dst) h1)⟩
      rw [put_tab, put_next, e1, e2] at h8
      exact h8
/-- code that may stand in a round -/
def fCode : Code → Bool
  | .skip => true
  | .region _ ops draw => !draw && ops.toList.all fOp
  | .seq x y => fCode x && fCode y
  | .cond _ x y => fCode x && fCode y
  | .block _ x => fCode x
  | .exit _ => true
  | .ret => true
  | _ => false
theorem code_okF : ∀ (c : Code), fCode c = true → ∀ (Q : Exit → ASt → Prop) (a : Act) (w : World) (st : ASt) (L : Nat → Value), Conc cx a w st L → aCode P c Q st →
    c.wpIn (Fence.wide.inRound l0) n P (fun e a' w' => ∃ st' L', Q e st' ∧ Conc cx a' w' st' L' ∧ Fr cx w st.tab L st.next w' st'.tab L' st'.next) a w := by
  intro c
  induction c with
  | skip => exact fun _ Q a w st L h hp => wpIn_skip ⟨st, L, hp, h, Fr.refl⟩
  | region id ops draw =>
    intro hf Q a w st L h hp
    unfold aCode aReg at hp
    cases draw with
    | false =>
      simp only [fCode, Bool.not_false, Bool.true_and, List.all_eq_true] at hf
      exact wpIn_region_list (ops_okF _ a w st L hf (fun a' w' st' L' h1 h2 h3 => ⟨st', L', h1, h2, h3⟩) h (by simpa using hp))
    | true => cases hf
  | seq x y ihx ihy =>
    intro hf Q a w st L h hp
    simp only [fCode, Bool.and_eq_true] at hf
    unfold aCode at hp
    refine wpIn_seq (wpIn_mono (ihx hf.1 _ a w st L h hp) (fun e a' w' ⟨st', L', h1, h2, h3⟩ => ?_))
    cases e with
    | normal => exact wpIn_mono (ihy hf.2 Q a' w' st' L' h2 h1) fun e a2 w2 ⟨st2, L2, h4, h5, h6⟩ => ⟨st2, L2, h4, h5, h3.trans h6⟩
    | _ => exact ⟨st', L', h1, h2, h3⟩
  | cond c x y ihx ihy =>
    intro hf Q a w st L h hp
    simp only [fCode, Bool.and_eq_true] at hf
    unfold aCode aCond at hp
    split at hp
    · rename_i b hb
      have hv := (eval_ok h c).1
      rw [hb] at hv
      have hv := hv.c_inv
      cases b
      · exact wpIn_cond_false hv (ihy hf.2 Q a w st L h hp)
      · exact wpIn_cond_true hv (ihx hf.1 Q a w st L h hp)
    · exact hp.elim
  | block id x ih =>
    intro hf Q a w st L h hp
    simp only [fCode] at hf
    unfold aCode at hp
    refine wpIn_block (wpIn_mono (ih hf _ a w st L h hp) (fun e a' w' ⟨st', L', h1, h2, h3⟩ => ?_))
    cases e with
    | exit id' =>
      simp only [aInBlock, Exit.inBlock] at h1 ⊢
      split
      · rename_i e
        rw [if_pos e] at h1
        exact ⟨st', L', h1, h2, h3⟩
      · rename_i e
        rw [if_neg e] at h1
        exact ⟨st', L', h1, h2, h3⟩
    | _ => exact ⟨st', L', h1, h2, h3⟩
  | exit id => exact fun _ Q a w st L h hp => wpIn_exit ⟨st, L, hp, h, Fr.refl⟩
  | ret => exact fun _ Q a w st L h hp => wpIn_ret ⟨st, L, hp, h, Fr.refl⟩
  | _ => exact fun hf => (by cases hf)

/-! ### an iterator -/
/-- memory that the caller does not write: with what was laid since -/
def grow (T : Nat → Prop) (w w' : World) (b : Nat) : Prop := T b ∨ (w.heap.size ≤ b ∧ b < w'.heap.size)
structure Kept (T : Nat → Prop) (w w' : World) : Prop where
  os : w'.os = w.os
  tape : w'.tape = w.tape
  output : w'.output = w.output
  size : w.heap.size ≤ w'.heap.size
  block : ∀ b, T b → w'.heap[b]? = w.heap[b]?
/-- the iterator gf, that holds caps, hands on xs, one behind the other, and stops when it is told to. T: memory that the caller does not write; M: that part of it that the iterator may write, and the caller does not read -/
def ASeq (P : Program) (gf : FuncId) (caps : List AV) (xs : List (List AV)) : Prop :=
  Enters P gf ∧ ∀ (l : Nat) (T0 : Nat → Prop) (lb : Array Value) (W0 : World) (J Jx : List (List AV) → (Nat → Prop) → (Nat → Prop) → World → Prop), lb.size = caps.length →
    (∀ (j : Nat) (v : Value) (av : AV), lb[j]? = some v → caps[j]? = some av → RT W0 T0 v av) →
    (∀ pre T M W, J pre T M W → ∀ b, T b → b < W.heap.size) →
    (∀ pre T M M' W W', J pre T M W → BelowX M W.heap.size W W' → (∀ b, M' b → M b ∨ (W.heap.size ≤ b ∧ b < W'.heap.size)) → J pre (grow T W W') M' W') →
    (∀ pre T M M' W W', Jx pre T M W → BelowX M W.heap.size W W' → (∀ b, M' b → M b ∨ (W.heap.size ≤ b ∧ b < W'.heap.size)) → Jx pre (grow T W W') M' W') →
    (∀ pre x T M W (vs : Array Value), J pre T M W → (pre ++ [x]) <+: xs → vs.size = x.length → (∀ (j : Nat) (v : Value) (av : AV), vs[j]? = some v → x[j]? = some av → RT W (fun b => T b ∧ ¬ M b) v av) →
      YieldAt Fence.wide 0 P l vs W fun e W' => (e = .returned (.bool true) ∧ J (pre ++ [x]) T M W' ∧ Kept T W W') ∨ (e = .returned (.bool false) ∧ Jx (pre ++ [x]) T M W' ∧ Kept T W W')) →
    J [] T0 (fun _ => False) W0 →
    CallsIn Fence.wide 0 P gf (#[.func (.yield l) #[] #[]] ++ lb) W0 fun e W' => (∃ v, e = .returned v) ∧ ((∃ T M, J xs T M W') ∨ ∃ pre T M, pre <+: xs ∧ Jx pre T M W')

/-! ### the loop -/
theorem conc_move {c c' : Cx} (h : Conc c a w st L) (hw : c'.w0 = c.w0) (hblk : ∀ b, Sx c w st.tab L b → w'.heap[b]? = w.heap[b]?) (hown : ∀ id o g, st.tab.get id = some o → vblk (L id) = some g → w'.heap[g]? = w.heap[g]?) (hS : ∀ b, Sx c w st.tab L b → Sx c' w' st.tab L b)
    (hb : BelowX c'.X c'.w0.heap.size c'.w0 w') (hex : ∀ b, c'.X b → b < w'.heap.size ∧ ∀ id o, st.tab.get id = some o → vblk (L id) ≠ some b) : Conc c' a w' st L := by
  have hrv : ∀ {x av nx}, RVx c w st.tab L x av → av.lt nx → RVx c' w' st.tab L x av := fun hr hl => hr.mono hl (fun p hp => World.cell?_of_block (hblk _ hp)) hS (fun _ _ _ h => h)
  refine ⟨⟨hb, fun id o hid => ?_, h.lay.sep, hex⟩, h.size, by rw [hw]; exact h.defers.mono hblk hS, h.young, fun t => ⟨hrv (h.env t).1 (h.env t).2, (h.env t).2⟩⟩
  have ho := h.lay.objs id o hid
  have hy := (h.young id o hid).2
  cases o with
  | box t cells =>
    obtain ⟨g, cs, h1, h2, h3, h4, h5⟩ := ho
    exact ⟨g, cs, h1, by rw [hw]; exact h2, (hown id _ g hid (by rw [h1]; rfl)).trans h3, h4, fun j x av h6 h7 => ⟨hrv (h5 j x av h6 h7).1 (ltL_iff.1 hy _ (List.mem_of_getElem? h7)), (h5 j x av h6 h7).2⟩⟩
  | row e sz rows =>
    obtain ⟨h1, xs, hown', h2, h3⟩ := ho
    refine ⟨h1, xs, ⟨hown'.1, ?_⟩, h2, fun i j row av ha hb => ?_⟩
    · rcases hown'.2 with hn | ⟨g, cap, cur, h4, hb, hh, rest⟩
      · exact .inl hn
      · exact .inr ⟨g, cap, cur, h4, by rw [hw]; exact hb, (hown id _ g hid (by rw [h4]; rfl)).trans hh, rest⟩
    · obtain ⟨x, hx, hr⟩ := h3 i j row av ha hb
      exact ⟨x, hx, hr.mono (fun p hp => World.cell?_of_block (hblk _ hp)) hS⟩
def Cx.ex (c : Cx) (M : Nat → Prop) : Cx := ⟨c.F, c.w0, fun b => c.X b ∨ M b⟩
def JAt (cx : Cx) (a0 : Act) (l : Nat) (r : Loop) (I : ASt → Prop) (T M : Nat → Prop) (W : World) : Prop :=
  ∃ st L, I st ∧ Conc (cx.ex M) a0 W st L ∧ W.heap[l]? = some (.loop r) ∧ Sx (cx.ex M) W st.tab L l ∧ ¬ T l ∧ (∀ b, M b → T b ∧ cx.w0.heap.size ≤ b) ∧ ∀ b, T b → Sx cx W st.tab L b
theorem sx_below (h : Conc cx a w st L) (hb : w.heap.size ≤ w'.heap.size) {b : Nat} (hs : Sx cx w st.tab L b) : Sx cx w' st.tab L b := ⟨Nat.lt_of_lt_of_le hs.1 hb, hs.2.1, hs.2.2⟩
theorem sx_new (h : Conc cx a w st L) {b : Nat} (h1 : w.heap.size ≤ b) (h2 : b < w'.heap.size) : Sx cx w' st.tab L b :=
  ⟨h2, ⟨.inr (Nat.le_trans h.lay.below.size h1), fun hX => absurd (h.lay.ex b hX).1 (Nat.not_lt.2 h1)⟩, fun id o hid hg => absurd ((h.lay.objs id o hid).ge hg).2 (by omega)⟩
theorem JAt.step {a0 : Act} {l : Nat} {r : Loop} {I : ASt → Prop} {T M M' : Nat → Prop} (h : JAt cx a0 l r I T M w) (hb : BelowX M w.heap.size w w') (hM : ∀ b, M' b → M b ∨ (w.heap.size ≤ b ∧ b < w'.heap.size)) : JAt cx a0 l r I (grow T w w') M' w' := by
  obtain ⟨st, L, h1, h2, h3, h4, h5, h6, h7⟩ := h
  have hsz : cx.w0.heap.size ≤ w.heap.size := h2.lay.below.size
  have hS : ∀ b, Sx (cx.ex M) w st.tab L b → Sx (cx.ex M') w' st.tab L b := fun b hs => ⟨Nat.lt_of_lt_of_le hs.1 hb.size, ⟨hs.2.1.1, fun hx => by
    rcases hx with hx | hx
    · exact hs.2.1.2 (.inl hx)
    · rcases hM b hx with hm | hm
      · exact hs.2.1.2 (.inr hm)
      · have := hs.1
        omega⟩, hs.2.2⟩
  have hblk : ∀ b, Sx (cx.ex M) w st.tab L b → w'.heap[b]? = w.heap[b]? := fun b hs => hb.block b hs.1 fun hm => hs.2.1.2 (.inr hm)
  have hex : ∀ b, (cx.ex M').X b → b < w'.heap.size ∧ ∀ id o, st.tab.get id = some o → vblk (L id) ≠ some b := fun b hx => by
    have old : (cx.ex M).X b → b < w'.heap.size ∧ ∀ id o, st.tab.get id = some o → vblk (L id) ≠ some b := fun hx => ⟨Nat.lt_of_lt_of_le (h2.lay.ex b hx).1 hb.size, (h2.lay.ex b hx).2⟩
    rcases hx with hx | hx
    · exact old (.inl hx)
    · rcases hM b hx with hm | hm
      · exact old (.inr hm)
      · exact ⟨hm.2, fun id o hid hg => absurd ((h2.lay.objs id o hid).ge hg).2 (by omega)⟩
  have hbel : BelowX (cx.ex M').X (cx.ex M').w0.heap.size (cx.ex M').w0 w' := by
    have h8 : BelowX (cx.ex M).X cx.w0.heap.size cx.w0 w := h2.lay.below
    refine ⟨hb.os.trans h8.os, hb.tape.trans h8.tape, hb.output.trans h8.output, Nat.le_trans h8.size hb.size, fun k (hk : k < cx.w0.heap.size) hx => ?_⟩
    have hm : ¬ M k := fun hm => by
      have := (h6 k hm).2
      omega
    refine (hb.block k (by omega) hm).trans (h8.block k hk fun hx' => ?_)
    rcases hx' with hx' | hx'
    · exact hx (.inl hx')
    · exact hm hx'
  refine ⟨st, L, h1, conc_move h2 rfl hblk (fun id o g hid hg => hb.block g ((h2.lay.objs id o hid).ge hg).2 fun hm => (h2.lay.ex g (.inr hm)).2 id o hid hg) hS hbel hex, (hblk l h4).trans h3, hS l h4, fun hg => ?_, fun b hm => ?_, fun b hg => ?_⟩
  · rcases hg with hg | hg
    · exact h5 hg
    · have := h4.1
      omega
  · rcases hM b hm with hm | hm
    · exact ⟨.inl (h6 b hm).1, (h6 b hm).2⟩
    · exact ⟨.inr hm, by omega⟩
  · rcases hg with hg | hg
    · exact ⟨Nat.lt_of_lt_of_le (h7 b hg).1 hb.size, (h7 b hg).2.1, (h7 b hg).2.2⟩
    · have := sx_new h2 hg.1 hg.2
      exact ⟨this.1, ⟨this.2.1.1, fun hx => this.2.1.2 (.inl hx)⟩, this.2.2⟩
/-- the caller's slots, at what the round has left -/
theorem conc_follow {A a1 : Act} {st1 stA : ASt} {LA : Nat → Value} (h : Conc cx A w st1 L) (hf : Fr cx w st1.tab L st1.next w' stA.tab LA stA.next) (hA : Conc cx a1 w' stA LA) : Conc cx A w' ⟨st1.n, st1.env, stA.tab, stA.next⟩ LA :=
  ⟨hA.lay, h.size, h.defers.mono hf.ext.blk hf.ext.sub, hA.young, fun t => ⟨hf.ext.rv (h.env t).1 (h.env t).2, AV.lt_mono hf.next (h.env t).2⟩⟩
/-- a loop's record turns -/
theorem conc_turn {l : Nat} {r : Loop} (h : Conc cx a w st L) (hb : cx.w0.heap.size ≤ l) (hl : w.heap[l]? = some (.loop r)) (r' : Loop) : Conc cx a (w.putObj l (.loop r')) st L := by
  have := conc_keep h (KeepM.turn hb hl r') (ds := a.defers) ⟨h.defers.1, fun d hd => ?_⟩
  · exact this
  · obtain ⟨k, h1, h2, h3, h4⟩ := h.defers.2 d hd
    have hne : k ≠ l := fun e => by rw [e, hl] at h3; cases h3
    exact ⟨k, h1, h2, (World.putObj_heap_other hne).trans h3, ⟨by simp; exact h4.1, h4.2.1, h4.2.2⟩⟩
def putAll : List (Nat × AV) → ASt → ASt
  | [], st => st
  | (p, av) :: l, st => putAll l (st.put (some p) av)
theorem putAll_tab : ∀ (l : List (Nat × AV)) (st : ASt), (putAll l st).tab = st.tab ∧ (putAll l st).next = st.next ∧ (putAll l st).n = st.n
  | [], _ => ⟨rfl, rfl, rfl⟩
  | (p, av) :: l, st => putAll_tab l (st.put (some p) av)
theorem conc_params : ∀ (ps : List Nat) (vs : List Value) (x : List AV) {t : Array Value} {st : ASt}, Conc cx { tmps := t, defers := [] } w st L → vs.length = ps.length → x.length = ps.length →
    (∀ (j : Nat) (v : Value) (av : AV), vs[j]? = some v → x[j]? = some av → RVx cx w st.tab L v av ∧ av.lt st.next) →
    Conc cx { tmps := (ps.zip vs).foldl (fun t (p : Nat × Value) => t.setIfInBounds p.1 p.2) t, defers := [] } w (putAll (ps.zip x) st) L
  | [], _, _, _, _, h, _, _, _ => h
  | p :: ps, [], _, _, _, _, h1, _, _ => by simp at h1
  | p :: ps, v :: vs, [], _, _, _, _, h2, _ => by simp at h2
  | p :: ps, v :: vs, av :: x, t, st, h, h1, h2, h3 => by
    have h4 := h3 0 v av rfl rfl
    have h5 := conc_pure h h4.1 h4.2 (some p)
    exact conc_params ps vs x (t := t.setIfInBounds p v) (st := st.put (some p) av) h5 (by simpa using h1) (by simpa using h2) fun j v' av' h6 h7 => h3 (j + 1) v' av' (by simpa using h6) (by simpa using h7)
/-- how a round may end -/
def aRnd (I : List (List AV) → ASt → Prop) (Ix : Code → List (List AV) → ASt → Prop) (pre : List (List AV)) (st1 : ASt) : Exit → ASt → Prop
  | .normal, st' => aTo (I pre) ⟨st1.n, st1.env, st'.tab, st'.next⟩
  | .ret, st' => aTo (Ix .ret pre) ⟨st1.n, st1.env, st'.tab, st'.next⟩
  | .exit id, st' => aTo (Ix (.exit id) pre) ⟨st1.n, st1.env, st'.tab, st'.next⟩
  | _, _ => False
def aNone : Exit → ASt → Prop := fun _ _ => False
theorem range_round {a0 : Act} {l fn D : Nat} {T M : Nat → Prop} {ps : Array Tmp} {assign body : Code} {I : List (List AV) → ASt → Prop} {Ix : Code → List (List AV) → ASt → Prop} {pre : List (List AV)} {x : List AV} {vs : Array Value}
    (hfa : fCode assign = true) (hfb : fCode body = true) (hn : x.length = ps.size) (hb : cx.w0.heap.size ≤ l)
    (hr : ∀ st1, I pre st1 → aCode P assign (aThen (aCode P body (aRnd I Ix (pre ++ [x]) st1)) aNone) (putAll (ps.toList.zip x) st1))
    (h : JAt cx a0 l { state := .ready, pending := none, fn, tmps := a0.tmps, params := ps, assign, body, defers := D } (I pre) T M w) (hv : vs.size = x.length) (hrt : ∀ (j : Nat) (v : Value) (av : AV), vs[j]? = some v → x[j]? = some av → RT w (fun b => T b ∧ ¬ M b) v av) :
    YieldAt Fence.wide 0 P l vs w fun e W' => (e = .returned (.bool true) ∧ JAt cx a0 l { state := .ready, pending := none, fn, tmps := a0.tmps, params := ps, assign, body, defers := D } (I (pre ++ [x])) T M W' ∧ Kept T w W') ∨
      (e = .returned (.bool false) ∧ (∃ c, JAt cx a0 l { state := .done, pending := some c, fn, tmps := a0.tmps, params := ps, assign, body, defers := D } (Ix c (pre ++ [x])) T M W') ∧ Kept T w W') := by
  obtain ⟨st1, L, hI, hC, hl, hSl, hTl, hMT, hT⟩ := h
  have hb : (cx.ex M).w0.heap.size ≤ l := hb
  have hy := run_yield (P := P) (args := vs) hl (by simp; omega)
  refine ⟨fn, _, assign, body, hy, roundIn_of_wpIn trivial ?_⟩
  have hC0 : Conc (cx.ex M) { tmps := a0.tmps, defers := [] } w st1 L := ⟨hC.lay, hC.size, Marks.nil _ _ _, hC.young, hC.env⟩
  have hTS : ∀ b, T b ∧ ¬ M b → Sx (cx.ex M) w st1.tab L b := fun b hb' => ⟨(hT b hb'.1).1, ⟨(hT b hb'.1).2.1.1, fun hx => by
    rcases hx with hx | hx
    · exact (hT b hb'.1).2.1.2 hx
    · exact hb'.2 hx⟩, (hT b hb'.1).2.2⟩
  have hCp := conc_params ps.toList vs.toList x hC0 (by simp; omega) (by simpa using hn) fun j v av h1 h2 => by
    have := hrt j v av (by simpa using h1) h2
    exact ⟨.tree (this.mono (fun _ _ => rfl) hTS), this.lt _⟩
  have ef : (ps.zip vs).foldl (fun tmps (x : Tmp × Value) => match x with | (t, a) => tmps.setIfInBounds t a) a0.tmps = (ps.toList.zip vs.toList).foldl (fun t (p : Nat × Value) => t.setIfInBounds p.1 p.2) a0.tmps := by
    rw [← Array.foldl_toList, Array.toList_zip]
  rw [ef]
  obtain ⟨e1, e2, _⟩ := putAll_tab (ps.toList.zip x) st1
  refine wpIn_mono (code_okF assign hfa _ _ _ _ _ hCp (hr st1 hI)) fun e a1 w1 ⟨stA, LA, hq, hCA, hFA⟩ => ?_
  rw [e1, e2] at hFA
  cases e with
  | normal =>
    have hl1 : w1.heap[l]? = _ := (hFA.keep l hSl.1 hSl.2.2).trans hl
    have hSl1 := hFA.ext.sub l hSl
    refine ⟨_, run_beginRound hl1 rfl, ?_⟩
    have hCA2 := conc_turn hCA hb hl1 { state := .busy, pending := none, fn, tmps := a0.tmps, params := ps, assign, body, defers := D }
    have hF1 := conc_follow hC hFA hCA
    have hF2 := conc_turn hF1 hb hl1 { state := .busy, pending := none, fn, tmps := a0.tmps, params := ps, assign, body, defers := D }
    have hos2 : ∀ o, (w1.putObj l o).os = w1.os ∧ (w1.putObj l o).tape = w1.tape ∧ (w1.putObj l o).output = w1.output := fun o => ⟨rfl, rfl, rfl⟩
    generalize hw2 : w1.putObj l (.loop { state := .busy, pending := none, fn, tmps := a0.tmps, params := ps, assign, body, defers := D }) = w2 at hCA2 hF2
    have hsz2 : w2.heap.size = w1.heap.size := by rw [← hw2]; simp
    have hl2 : w2.heap[l]? = some (.loop { state := .busy, pending := none, fn, tmps := a0.tmps, params := ps, assign, body, defers := D }) := by rw [← hw2]; exact World.putObj_heap_same hSl1.1
    have hoth2 : ∀ b, b ≠ l → w2.heap[b]? = w1.heap[b]? := fun b hb' => by rw [← hw2]; exact World.putObj_heap_other hb'
    have hS2 : ∀ b, Sx (cx.ex M) w1 stA.tab LA b → Sx (cx.ex M) w2 stA.tab LA b := fun b hs => ⟨by rw [hsz2]; exact hs.1, hs.2.1, hs.2.2⟩
    refine wpIn_mono (code_okF body hfb _ _ _ _ _ hCA2 hq) fun e a2 w3 ⟨stB, LB, hq2, hCB, hFB⟩ => ?_
    have hl3 : w3.heap[l]? = _ := (hFB.keep l (hS2 l hSl1).1 (hS2 l hSl1).2.2).trans hl2
    have hSl3 := hFB.ext.sub l (hS2 l hSl1)
    have hF3 := conc_follow (st1 := ⟨st1.n, st1.env, stA.tab, stA.next⟩) hF2 hFB hCB
    have hown2 : ∀ b, T b → ∀ id o, stA.tab.get id = some o → vblk (LA id) ≠ some b := fun b hb' id o hid hg => by
      obtain ⟨id2, o2, h3, h4⟩ := hFA.young id o b hid hg (hT b hb').1
      exact (hT b hb').2.2 id2 o2 h3 h4
    have hkeep : ∀ b, T b → w3.heap[b]? = w.heap[b]? := fun b hb' => by
      have hbl : b ≠ l := fun e => hTl (by rw [← e]; exact hb')
      have h1 := (hT b hb').1
      have h2 := hFA.size
      rw [hFB.keep b (by omega) (hown2 b hb'), hoth2 b hbl, hFA.keep b h1 (hT b hb').2.2]
    have fin : ∀ (jump : Option Code) (s : LoopState) (K : ASt → Prop), (if jump.isNone then LoopState.ready else LoopState.done) = s → aTo K ⟨st1.n, st1.env, stB.tab, stB.next⟩ →
        (Instr.endRound l jump).run P w3 = .ok (.bool jump.isNone) (w3.putObj l (.loop { state := s, pending := jump, fn, tmps := a0.tmps, params := ps, assign, body, defers := D })) ∧
        JAt cx a0 l { state := s, pending := jump, fn, tmps := a0.tmps, params := ps, assign, body, defers := D } K T M (w3.putObj l (.loop { state := s, pending := jump, fn, tmps := a0.tmps, params := ps, assign, body, defers := D })) ∧
        Kept T w (w3.putObj l (.loop { state := s, pending := jump, fn, tmps := a0.tmps, params := ps, assign, body, defers := D })) := fun jump s K hs hK => by
      subst hs
      have hr3 := run_endRound (P := P) jump hl3
      refine ⟨hr3, ?_, ?_⟩
      · obtain ⟨stC, hweak, hKC⟩ := hK
        have hF4 := conc_turn hF3 hb hl3 { state := if jump.isNone then .ready else .done, pending := jump, fn, tmps := a0.tmps, params := ps, assign, body, defers := D }
        obtain ⟨LC, hCC, hSC⟩ := hweak _ _ _ _ hF4
        have up : ∀ b, Sx (cx.ex M) w3 stB.tab LB b → Sx (cx.ex M) (w3.putObj l (.loop { state := if jump.isNone then .ready else .done, pending := jump, fn, tmps := a0.tmps, params := ps, assign, body, defers := D })) stC.tab LC b := fun b hs => hSC b ⟨by simp; exact hs.1, hs.2.1, hs.2.2⟩
        refine ⟨stC, LC, hKC, hCC, World.putObj_heap_same hSl3.1, up l hSl3, hTl, hMT, fun b hb' => ?_⟩
        by_cases hm : M b
        · refine ⟨(hCC.lay.ex b (.inr hm)).1, (hT b hb').2.1, (hCC.lay.ex b (.inr hm)).2⟩
        · have := up b (hFB.ext.sub b (hS2 b (hFA.ext.sub b (hTS b ⟨hb', hm⟩))))
          exact ⟨this.1, (hT b hb').2.1, this.2.2⟩
      · have hW : BelowX (cx.ex M).X (cx.ex M).w0.heap.size (cx.ex M).w0 w := hC.lay.below
        have hW3 : BelowX (cx.ex M).X (cx.ex M).w0.heap.size (cx.ex M).w0 w3 := hCB.lay.below
        refine ⟨hW3.os.trans hW.os.symm, hW3.tape.trans hW.tape.symm, hW3.output.trans hW.output.symm, ?_, fun b hb' => ?_⟩
        · have := hFA.size
          have := hFB.size
          simp
          omega
        · have hbl : b ≠ l := fun e => hTl (by rw [← e]; exact hb')
          rw [World.putObj_heap_other hbl]
          exact hkeep b hb'
    cases e with
    | normal =>
      obtain ⟨h1, h2, h3⟩ := fin none .ready _ rfl hq2
      exact ⟨_, _, h1, .inl ⟨rfl, h2, h3⟩⟩
    | ret =>
      obtain ⟨h1, h2, h3⟩ := fin (some .ret) .done _ rfl hq2
      exact ⟨_, _, h1, .inr ⟨rfl, ⟨_, h2⟩, h3⟩⟩
    | exit id =>
      obtain ⟨h1, h2, h3⟩ := fin (some (.exit id)) .done _ rfl hq2
      exact ⟨_, _, h1, .inr ⟨rfl, ⟨_, h2⟩, h3⟩⟩
    | goto t => exact hq2.elim
    | panic c => exact hq2.elim
    | outgrown => exact hq2.elim
  | _ => exact hq.elim
/-- A RANGE OVER A FUNCTION. -/
theorem range_ok (hm : P.follows .mixedOrders = true) {g : Operand} {ps : Array Tmp} {assign body : Code} {Q : Exit → ASt → Prop} {gf : FuncId} {caps : List AV} {xs : List (List AV)}
    (I : List (List AV) → ASt → Prop) (Ix : Code → List (List AV) → ASt → Prop)
    (hg : aFn (aEv st g) fun g' cs => g' = gf ∧ cs = caps) (ht : treeL caps) (hseq : ASeq P gf caps xs) (hx : ∀ x ∈ xs, x.length = ps.size) (hfa : fCode assign = true) (hfb : fCode body = true)
    (h0 : aTo (I []) st)
    (hr : ∀ pre x st1, (pre ++ [x]) <+: xs → I pre st1 → aCode P assign (aThen (aCode P body (aRnd I Ix (pre ++ [x]) st1)) aNone) (putAll (ps.toList.zip x) st1))
    (hd : ∀ st', I xs st' → Q .normal st') (hs : ∀ c pre st', pre <+: xs → Ix c pre st' → aCode P c Q st') : aCode P (.rangeFunc g ps assign body) Q st := by
  intro cx a w L h
  obtain ⟨gf', lb, cs, hgv, hlb, hcap, ⟨rfl, rfl⟩, _⟩ := aFn_inv (eval_ok h g).1 (eval_ok h g).2 hg
  refine wpIn_wide.1 (wpIn_rangeFunc (n := 0) ?_)
  intro fn _
  have hbase : cx.w0.heap.size ≤ w.heap.size := h.lay.below.size
  generalize hrec : ({ state := .ready, pending := none, fn, tmps := a.tmps, params := ps, assign, body, defers := w.heap.size } : Loop) = r
  generalize hW1 : (w.alloc (.deferred (some []))).alloc (.loop r) = W1
  have hb01 : Below w.heap.size w W1 := by
    rw [← hW1]
    exact ((Below.refl _ w).alloc (Nat.le_refl _) _).alloc (by simp) _
  have hs1 : W1.heap.size = w.heap.size + 2 := by rw [← hW1]; simp
  have hL1 : W1.heap[w.heap.size + 1]? = some (.loop r) := by
    rw [← hW1]
    have := World.alloc_heap_new (w.alloc (.deferred (some []))) (.loop r)
    rwa [World.size_alloc] at this
  have hK1 : W1.heap[w.heap.size]? = some (.deferred (some [])) := by
    rw [← hW1]
    exact (Below.heap_alloc _ _ _ (by simp)).trans (World.alloc_heap_new w _)
  have hC1 : Conc cx { a with defers := [{ target := .collected w.heap.size, args := #[] }] ++ a.defers } W1 st L := by
    have h1 := conc_below h hb01
    refine ⟨h1.lay, h1.size, ⟨List.nodup_cons.2 ⟨fun hmem => ?_, h1.defers.1⟩, fun d hd => ?_⟩, h1.young, h1.env⟩
    · obtain ⟨k, e, _, _, h2⟩ := h.defers.2 _ hmem
      injection e with e _
      injection e with e
      have := h2.1
      omega
    · rcases List.mem_cons.1 hd with rfl | hd
      · exact ⟨_, rfl, hbase, hK1, sx_new h (Nat.le_refl _) (by omega)⟩
      · exact h1.defers.2 d hd
  obtain ⟨st0, hweak, hI0⟩ := h0
  obtain ⟨L0, hC0, hS0⟩ := hweak _ _ _ _ hC1
  refine ⟨w.heap.size + 1, [{ target := .collected w.heap.size, args := #[] }], W1, { target := .fn (.func gf') lb, args := #[.func (.yield (w.heap.size + 1)) #[] #[]] }, W1, gf',
    #[.func (.yield (w.heap.size + 1)) #[] #[]] ++ lb, W1, ?_, ?_, fun _ _ => trivial, ?_, fun h => (by cases h), ?_⟩
  · rw [← hW1, ← hrec]
    exact run_enterLoop_outer _ _ _ _ _
  · simp only [resolve, hgv]
    simp [go_sem]
  · have := hseq.1 (#[.func (.yield (w.heap.size + 1)) #[] #[]] ++ lb) W1
    simp [invoke, go_sem, this]
  · have hpre : ∀ {pre : List (List AV)} {x : List AV}, (pre ++ [x]) <+: xs → x.length = ps.size := fun hp => hx _ (hp.subset (by simp))
    have hex0 : ∀ {cx' : Cx} {W : World} {st : ASt} {L : Nat → Value} {A : Act}, Conc cx' A W st L → Conc (cx'.ex fun _ => False) A W st L := fun h => by
      refine conc_move h rfl (fun _ _ => rfl) (fun _ _ _ _ _ => rfl) (fun b hs => ⟨hs.1, ⟨hs.2.1.1, fun hx => hs.2.1.2 (hx.resolve_right id)⟩, hs.2.2⟩) ⟨h.lay.below.os, h.lay.below.tape, h.lay.below.output, h.lay.below.size, fun k hk hx => h.lay.below.block k hk fun hx' => hx (.inl hx')⟩ (fun b hx => h.lay.ex b (hx.resolve_right id))
    have hex1 : ∀ {M : Nat → Prop} {W : World} {st : ASt} {L : Nat → Value} {A : Act}, (∀ b, M b → cx.w0.heap.size ≤ b) → Conc (cx.ex M) A W st L → Conc cx A W st L := fun hM h => by
      have hbl : BelowX (cx.ex _).X cx.w0.heap.size cx.w0 _ := h.lay.below
      refine conc_move h rfl (fun _ _ => rfl) (fun _ _ _ _ _ => rfl) (fun b hs => ⟨hs.1, ⟨hs.2.1.1, fun hx => hs.2.1.2 (.inl hx)⟩, hs.2.2⟩) ⟨hbl.os, hbl.tape, hbl.output, hbl.size, fun k hk hx => hbl.block k hk fun hx' => ?_⟩ (fun b hx => h.lay.ex b (.inl hx))
      rcases hx' with hx' | hx'
      · exact hx hx'
      · have := hM k hx'
        omega
    refine (hseq.2 (w.heap.size + 1) (Sx cx w st.tab L) lb W1
      (fun pre T M W => JAt cx { a with defers := [{ target := .collected w.heap.size, args := #[] }] ++ a.defers } (w.heap.size + 1) { state := .ready, pending := none, fn, tmps := a.tmps, params := ps, assign, body, defers := w.heap.size } (I pre) T M W)
      (fun pre T M W => ∃ c, JAt cx { a with defers := [{ target := .collected w.heap.size, args := #[] }] ++ a.defers } (w.heap.size + 1) { state := .done, pending := some c, fn, tmps := a.tmps, params := ps, assign, body, defers := w.heap.size } (Ix c pre) T M W)
      hlb (fun j v av h1 h2 => ?_) (fun pre T M W ⟨_, _, _, _, _, _, _, _, hT⟩ b hb => (hT b hb).1) (fun pre T M M' W W' hj hb hm => hj.step hb hm) (fun pre T M M' W W' ⟨c, hj⟩ hb hm => ⟨c, hj.step hb hm⟩)
      (fun pre x T M W vs hj hp hv hrt => range_round (a0 := { a with defers := [{ target := .collected w.heap.size, args := #[] }] ++ a.defers }) hfa hfb (hpre hp) (by omega) (fun st1 hi => hr pre x st1 hp hi) hj hv hrt) ?_).mono ?_
    · have h3 := tree_of (hcap j v av h1 h2) (treeL_iff.1 ht av (List.mem_of_getElem? h2))
      exact h3.mono (fun p hp => World.cell?_of_block (hb01.block p.block hp.1)) fun b hb => hb
    · have hC0' := hex0 hC0
      have hSl := hS0 _ (sx_new (w' := W1) h (b := w.heap.size + 1) (by omega) (by omega))
      refine ⟨st0, L0, hI0, hC0', by rw [hL1, ← hrec], ⟨hSl.1, ⟨hSl.2.1.1, fun hx => hSl.2.1.2 (hx.resolve_right id)⟩, hSl.2.2⟩, fun hT => ?_, fun b hb => hb.elim, fun b hb => hS0 b (sx_below h hb01.size hb)⟩
      have := hT.1
      omega
    · rintro e W2 ⟨⟨v, rfl⟩, (⟨T, M, st2, L2, h1, h2, h3, h4, _, h6, _⟩ | ⟨pre, T, M, hp, c, st2, L2, h1, h2, h3, h4, _, h6, _⟩)⟩
      · exact ⟨none, _, run_endLoop h3 (by simp), st2, L2, hd st2 h1, conc_turn (hex1 (fun b hb => (h6 b hb).2) h2) (by omega) h3 _⟩
      · refine ⟨some c, _, run_endLoop h3 (by simp), wpIn_wide.2 ?_⟩
        exact code_ok hm c Q _ _ st2 L2 (conc_turn (hex1 (fun b hb => (h6 b hb).2) h2) (by omega) h3 _) (hs c pre st2 hp h1)
end
end
end Go.Proofs.YtfeclebkaambhaaGreat
