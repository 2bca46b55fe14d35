/-
  Parts of the proof: EvSides2, EvHolds, C2, D4, D5, D7, AlR, AlU, AlW, NumSpec, NumSortA, ZSortA, NumSortP, ZSortB, NumSortC, ZSortD, ZSortE, Z1.
-/
import Derived.Test.YtfeclebkaambhaaZet6
import Derived.Conc.MuLone
import Derived.TacticsIn
import Derived.RangeFuncIn
import Derived.RangeFuncCalls
import Derived.RangeFuncRecord
import Derived.WalkKit
import Derived.WalkLawsBesides
import Derived.Test.YtfeclebkaambhaaSortShelf
import Derived.Deep.LoopGhost
import Derived.Deep.Draws
import Derived.Deep.QuietTactic
import Derived.OpenShut
import Derived.ProofKit
import Derived.Lib.SlicesCompact
import Derived.Deep.AppendLies
import Derived.Deep.DeepCutAuto
import Derived.Sort.OwnSortedInts
set_option linter.unusedVariables false
set_option linter.unusedSimpArgs false
namespace Go.Proofs.Ytfeclebkaambhaa
section
open Go.RowKit

theorem lessNotNil (k : Nat) (caps : Array Value) (w : World) : (binOp BinOp.eql 66 (.func (.func k) #[] caps) .nilFunc).run Try.prog w = .ok (.bool false) w := by kernel_rfl
/-- the world behind the parameters' boxes -/
def W0 (w : World) (vv : Value) (o d : Int) (dv cv : Value) : World := ((w.alloc (.cells #[vv, .int .i64 o, .int .i64 d, dv, cv] 26)).alloc (.cells #[.bool false] 4)).alloc (.cells #[.int .i64 0] 29)
theorem W0_facts (w : World) (vv : Value) (o d : Int) (dv cv : Value) : (W0 w vv o d dv cv).heap.size = w.heap.size + 3 ∧ Below w.heap.size w (W0 w vv o d dv cv) ∧ Blk (W0 w vv o d dv cv) w.heap.size 26 #[vv, .int .i64 o, .int .i64 d, dv, cv] ∧
    Blk (W0 w vv o d dv cv) (w.heap.size + 1) 4 #[.bool false] ∧ Blk (W0 w vv o d dv cv) (w.heap.size + 1 + 1) 29 #[.int .i64 0] := by
  unfold W0
  refine ⟨by simp, (((Below.refl _ _).alloc (Nat.le_refl _) _).alloc (by simp) _).alloc (by simp; omega) _, (((Blk.new w _ _).alloc _).alloc _), ?_, ?_⟩
  · have := (Blk.new (w.alloc (.cells #[vv, .int .i64 o, .int .i64 d, dv, cv] 26)) 4 #[.bool false]).alloc (.cells #[.int .i64 0] 29)
    simpa using this
  · have := Blk.new ((w.alloc (.cells #[vv, .int .i64 o, .int .i64 d, dv, cv] 26)).alloc (.cells #[.bool false] 4)) 29 #[.int .i64 0]
    simpa using this
theorem item_ok (x : Inst) (h : x.ok) : (itemOf x).ok := by
  refine ⟨h.1, ?_, ?_, ?_, ?_, ?_, ?_, ?_, ?_⟩ <;> first | exact ⟨by simp [itemOf], by simp [itemOf]⟩ | exact Nat.zero_le _
theorem insts_ok {w : World} {S : Nat → Prop} {v : Value} {l : List Inst} (h : (sliceR instR).one w S v l) : ∀ x ∈ l, x.ok := by
  intro x hx
  obtain ⟨i, hi, rfl⟩ := List.getElem_of_mem hx
  obtain ⟨A, c, rfl, _, _⟩ := slice_form h
  obtain ⟨b, o, hv, _, _⟩ := slice_some h (by omega)
  subst hv
  exact (insts_at h hi).2
def topO : Option (List Bool) → Option Bool
  | some (b :: _) => some b
  | _ => none
theorem topO_eq (x : Option (List Bool)) : (match x with | some (b :: _) => some b | _ => none) = topO x := by
  match x with
  | none => rfl
  | some [] => rfl
  | some (_ :: _) => rfl
theorem runG_append (cm : Inst → Option Int) (o d : Int) (a b : List Inst) : ∀ r, runG cm o d (a ++ b) r = (runG cm o d a r).bind (runG cm o d b) := by
  induction a with
  | nil => intro r; rfl
  | cons x a ih => intro r; rw [List.cons_append, runG, runG]; cases stepG cm o d x r <;> simp [ih]
theorem runG_snoc (cm : Inst → Option Int) (o d : Int) (a : List Inst) (x : Inst) (r : List Bool) : runG cm o d (a ++ [x]) r = (runG cm o d a r).bind (stepG cm o d x) := by
  rw [runG_append]
  cases runG cm o d a r with
  | none => rfl
  | some r' => simp only [Option.bind_some, runG]; cases stepG cm o d x r' <;> rfl
theorem stepG_len {cm : Inst → Option Int} {o d : Int} {x : Inst} {r r' : List Bool} (h : stepG cm o d x r = some r') : r'.length ≤ r.length + 1 := by
  unfold stepG at h
  split at h
  · cases h; simp
  split at h
  · split at h
    · cases h; simp
    · cases h
  split at h
  · cases h; simp
  split at h
  · cases h; simp
  split at h
  · split at h
    · cases h; simp
    · cases h
  split at h
  · split at h
    · cases h; simp
    · cases h
  · cases h
theorem AskAt.up {w : World} {a H H' : Nat} {vv : Value} {o d : Int} {dv cv f : Value} {L : List Bool} (h : AskAt w a H vv o d dv cv f L) (hh : H ≤ H') : AskAt w a H' vv o d dv cv f L := by
  obtain ⟨rv, h1, h2, h3, h4⟩ := h
  exact ⟨rv, h1, h2, by omega, fun g hg => by have := h4 g hg; omega⟩
def SidesPost (R : Option Bool) (w : World) (e : Ending) (w' : World) : Prop := e = .returned (.tuple #[.bool (optB R), .int .i64 (optE R)]) ∧ Below w.heap.size w w'

set_option maxRecDepth 100000 in
set_option maxHeartbeats 2000000 in
theorem sides_bad (l : List Inst) (lv : Value) (S : Nat → Prop) (k : Nat) (caps : Array Value) (vv : Value) (o d : Int) (dv cv : Value) (w : World) (h : (sliceR instR).one w S lv l) (hS : ∀ b, S b → b < w.heap.size) (hl : l.length ≤ 900) (hbad : checkE (l.map Inst.op) ≠ 0) :
    Calls Try.prog 19 #[lv, .func (.func k) #[] caps, stAgg vv o d dv cv] w (SidesPost none w) := by
  have hmf : ∀ (fn : Fn) (first cap : Array Value) (w : World), (Instr.makeFunc fn first cap).run Try.prog w = .ok (.func fn first cap) w := fun _ _ _ _ => rfl
  have Hsl := hide h
  have HS := hide hS
  obtain ⟨E, hE⟩ : ∃ E, E = checkE (l.map Inst.op) := ⟨_, rfl⟩
  have hne : (E != 0) = true := by rw [hE]; simpa using hbad
  have HE := hide hE
  clear h hS hbad hE
  have hnil := lessNotNil k caps
  obtain ⟨hz, hb0, hB0, hB1, hB2⟩ := W0_facts w vv o d dv cv
  obtain ⟨X, hX⟩ : ∃ X, X = W0 w vv o d dv cv := ⟨_, rfl⟩
  rw [← hX] at hz hb0 hB0 hB1 hB2
  unfold W0 at hX
  have HX := hide hX
  have H0 := hide hb0
  have HB1 := hide hB1
  have HB2 := hide hB2
  clear hX hb0 hB0 hB1 hB2
  go_enter_defers Try.func19, Try.ntmps19
  go_wp2_with fail
  rw [← HX.out]
  refine (shape_any l lv S X (slice_below Hsl.out H0.out HS.out) (fun b hb => Nat.lt_of_lt_of_le (HS.out b hb) H0.out.size) (by omega)).mono ?_
  rintro e w1 ⟨u, rfl, hown, hb1⟩
  have hsh := slice_ownP (r := itemR) Item.cells (l := l.map itemOf) (fun x hx => by
    obtain ⟨y, hy, rfl⟩ := List.mem_map.1 hx
    obtain ⟨i, hi, rfl⟩ := List.getElem_of_mem hy
    exact ⟨rfl, item_ok _ (insts_ok Hsl.out _ (List.getElem_mem hi))⟩) hown (by decide)
  have Hsh := hide hsh
  clear hown hsh
  go_wp2_with fail
  refine (check_any (l.map itemOf) u _ w1 Hsh.out (fun b hb => hb.2)).mono ?_
  rintro e w2 ⟨rfl, hb2⟩
  rw [itemOf_op, ← HE.out]
  have hX2 : Below X.heap.size X w2 := hb1.trans (hb2.mono hb1.size)
  have B1 := HB1.out.below hX2 (by omega)
  have B2 := HB2.out.below hX2 (by omega)
  have c1 := B1.cell 0
  have c2 := B2.cell 0
  have f1 := B1.frozen 0
  have f2 := B2.frozen 0
  simp at c1 c2
  have D1 := (B1.set_ 0 (.bool false)).far (p := ⟨w.heap.size + 1 + 1, 0, none⟩) (by simp) (.int .i64 17)
  have D2 := (B2.far (p := ⟨w.heap.size + 1, 0, none⟩) (by simp) (.bool false)).set_ 0 (.int .i64 17)
  have d1 := D1.cell 0
  have d2 := D2.cell 0
  simp at d1 d2
  have HX2 := hide hX2
  clear hX2 hb1 hb2 B1 B2 D1 D2
  go_wp2_with fail
  refine leaves_cons (f := 38) (args := #[.pointer (some ⟨w.heap.size + 1, 0, none⟩), .pointer (some ⟨w.heap.size + 1 + 1, 0, none⟩)]) (by simp) (by simp [go_sem]) ?_
  refine (catch_idle ⟨w.heap.size + 1, 0, none⟩ ⟨w.heap.size + 1 + 1, 0, none⟩ _).mono ?_
  rintro e u' w'' ⟨rfl, rfl, rfl⟩
  simp [Leaves, settle, results, Try.results19, go_sem, d1, d2]
  exact ⟨rfl, ((H0.out.trans (HX2.out.mono H0.out.size)).setCell (by show _ ≤ w.heap.size + 1; omega) _).setCell (by show _ ≤ w.heap.size + 1 + 1; omega) _⟩

set_option maxRecDepth 100000 in
set_option maxHeartbeats 2000000 in
theorem sides_ok (l : List Inst) (lv : Value) (S : Nat → Prop) (k : Nat) (caps : Array Value) (vv : Value) (o d : Int) (dv cv : Value) (w : World) (h : (sliceR instR).one w S lv l) (hS : ∀ b, S b → b < w.heap.size) (hl : l.length ≤ 900) (hbad : checkE (l.map Inst.op) = 0)
    (hcf : ∀ (args : Array Value) (w : World), (callFunc k args).run Try.prog w = .ok (.enter k args) w) (cm : Inst → Option Int) (HL : Hid (∀ x ∈ l, LessOK k caps cm x w)) :
    Calls Try.prog 19 #[lv, .func (.func k) #[] caps, stAgg vv o d dv cv] w (SidesPost (holdsG cm o d l) w) := by
  have hmf : ∀ (fn : Fn) (first cap : Array Value) (w : World), (Instr.makeFunc fn first cap).run Try.prog w = .ok (.func fn first cap) w := fun _ _ _ _ => rfl
  have Hsl := hide h
  have HS := hide hS
  obtain ⟨R, hR⟩ : ∃ R, R = holdsG cm o d l := ⟨_, rfl⟩
  rw [← hR]
  have hRR : R = topO (runG cm o d l []) := by rw [hR]; unfold holdsG; rw [if_neg (by simpa using hbad)]; exact topO_eq _
  have HR := hide hRR
  clear hR hRR
  obtain ⟨E, hE⟩ : ∃ E, E = checkE (l.map Inst.op) := ⟨_, rfl⟩
  have hne : (E != 0) = false := by rw [hE]; simpa using hbad
  have HE := hide hE
  clear h hS hbad hE
  have hnil := lessNotNil k caps
  obtain ⟨hz, hb0, hB0, hB1, hB2⟩ := W0_facts w vv o d dv cv
  obtain ⟨X, hX⟩ : ∃ X, X = W0 w vv o d dv cv := ⟨_, rfl⟩
  rw [← hX] at hz hb0 hB0 hB1 hB2
  unfold W0 at hX
  have HX := hide hX
  have H0 := hide hb0
  have HB0 := hide hB0
  have HB1 := hide hB1
  have HB2 := hide hB2
  clear hX hb0 hB0 hB1 hB2
  go_enter_defers Try.func19, Try.ntmps19
  go_wp2_with fail
  rw [← HX.out]
  refine (shape_any l lv S X (slice_below Hsl.out H0.out HS.out) (fun b hb => Nat.lt_of_lt_of_le (HS.out b hb) H0.out.size) (by omega)).mono ?_
  rintro e w1 ⟨u, rfl, hown, hb1⟩
  have hsh := slice_ownP (r := itemR) Item.cells (l := l.map itemOf) (fun x hx => by
    obtain ⟨y, hy, rfl⟩ := List.mem_map.1 hx
    obtain ⟨i, hi, rfl⟩ := List.getElem_of_mem hy
    exact ⟨rfl, item_ok _ (insts_ok Hsl.out _ (List.getElem_mem hi))⟩) hown (by decide)
  have Hsh := hide hsh
  clear hown hsh
  go_wp2_with fail
  refine (check_any (l.map itemOf) u _ w1 Hsh.out (fun b hb => hb.2)).mono ?_
  rintro e w2 ⟨rfl, hb2⟩
  rw [itemOf_op, ← HE.out]
  have hX2 : Below X.heap.size X w2 := hb1.trans (hb2.mono hb1.size)
  have B1 := HB1.out.below hX2 (by omega)
  have B2 := HB2.out.below hX2 (by omega)
  have B0 := HB0.out.below hX2 (by omega)
  have s0 := B0.cell 0
  have s1 := B0.cell 1
  have s2 := B0.cell 2
  have s3 := B0.cell 3
  have s4 := B0.cell 4
  simp at s0 s1 s2 s3 s4
  obtain ⟨Y, hY⟩ : ∃ Y, Y = w2.alloc (.cells #[vv, .int .i64 o, .int .i64 d, dv, cv, .func (.func k) #[] caps, .slice none 0 0] 95) := ⟨_, rfl⟩
  have hX2s := hX2.size
  have hY1 : Below w.heap.size w Y := by rw [hY]; exact (H0.out.trans (hX2.mono (by omega))).alloc (by omega) _
  have hY2 : AskAt Y w2.heap.size Y.heap.size vv o d dv cv (.func (.func k) #[] caps) [] := by
    rw [hY]
    exact ⟨_, Blk.new _ _ _, World.ownsRow_nil _ _ _ _, by simp, fun g hg => by simp [Value.ownBlock] at hg⟩
  have B1' := B1.alloc (.cells #[vv, .int .i64 o, .int .i64 d, dv, cv, .func (.func k) #[] caps, .slice none 0 0] 95)
  have B2' := B2.alloc (.cells #[vv, .int .i64 o, .int .i64 d, dv, cv, .func (.func k) #[] caps, .slice none 0 0] 95)
  rw [← hY] at B1' B2'
  have hYz : Y.heap.size = w2.heap.size + 1 := by rw [hY]; simp
  have HY := hide hY
  have HY1 := hide hY1
  have HY2 := hide hY2
  have HB1Y := hide B1'
  have HB2Y := hide B2'
  obtain ⟨A, c, rfl, hc, hc2⟩ := slice_form Hsl.out
  clear hX2 hb1 hb2 B1 B2 B0 hY hY1 hY2 B1' B2' HB0 HB1 HB2
  go_wp2_with fail
  rw [← HY.out]
  go_loopw [26] (fun iv wr => ∃ (k' : Nat) (L : List Bool), k' ≤ l.length ∧ iv = .int .i64 (k' : Int) ∧ runG cm o d (l.take k') [] = some L.reverse ∧ L.length ≤ k' ∧ AskAt wr w2.heap.size wr.heap.size vv o d dv cv (.func (.func k) #[] caps) L ∧ Below w2.heap.size Y wr ∧ Y.heap.size ≤ wr.heap.size)
    (fun iv wr => l.length - (intOf iv).toNat)
  case atStart => exact ⟨0, [], Nat.zero_le _, rfl, rfl, Nat.le_refl _, HY2.out, Below.refl _ _, Nat.le_refl _⟩
  case round =>
    obtain ⟨i, L, hi, rfl, hrun, hLi, hask, hbl, hysz⟩ := hrel
    have hbw : Below w.heap.size w wr := HY1.out.trans (hbl.mono (by omega))
    have Hrun := hide hrun
    have Hask := hide hask
    clear hrun hask
    by_cases hlt : i < l.length
    · have hsl := slice_below Hsl.out hbw HS.out
      obtain ⟨b, ob, hv, _, _⟩ := slice_some hsl (by omega)
      subst hv
      obtain ⟨hcs, hok⟩ := insts_at hsl hlt
      have hLess := HL.out l[i] (List.getElem_mem hlt)
      have htk : runG cm o d (l.take (i + 1)) [] = stepG cm o d l[i] L.reverse := by
        rw [List.take_succ_eq_append_getElem hlt, runG_snoc, Hrun.out]; rfl
      have hall : runG cm o d l [] = (stepG cm o d l[i] L.reverse).bind (runG cm o d (l.drop (i + 1))) := by
        rw [← htk, ← runG_append, List.take_append_drop]
      have Htk := hide htk
      have Hall := hide hall
      have HLess := hide hLess
      have c0 := hcs 0 _ rfl
      have c1 := hcs 1 _ rfl
      have c2 := hcs 2 _ rfl
      have c3 := hcs 3 _ rfl
      have c4 := hcs 4 _ rfl
      have c5 := hcs 5 _ rfl
      have c6 := hcs 6 _ rfl
      clear htk hall hLess hok hcs hsl
      generalize l[i] = x at *
      obtain ⟨xop, xla, xln, xra, xrn, xn, xu⟩ := x
      simp only [Nat.add_zero] at c0 c1 c2 c3 c4 c5 c6
      have hbx := hbw.alloc (by have := hbw.size; omega) (.cells #[.int .i64 xop, .int .i64 xla, .int .i64 xln, .int .i64 xra, .int .i64 xrn, .int .i64 xn, .int .i64 xu] 51)
      have hax := (Hask.out.below ((Below.refl wr.heap.size wr).alloc (Nat.le_refl _) (.cells #[.int .i64 xop, .int .i64 xla, .int .i64 xln, .int .i64 xra, .int .i64 xrn, .int .i64 xn, .int .i64 xu] 51))).up (H' := (wr.alloc (.cells #[.int .i64 xop, .int .i64 xla, .int .i64 xln, .int .i64 xra, .int .i64 xrn, .int .i64 xn, .int .i64 xu] 51)).heap.size) (by simp)
      cases hst : stepG cm o d ⟨xop, xla, xln, xra, xrn, xn, xu⟩ L.reverse with
      | some r' =>
        have hC := hide (step_some ⟨xop, xla, xln, xra, xrn, xn, xu⟩ cm w2.heap.size k caps vv o d dv cv L r' _ w hax (by omega) hcf HLess.out hbx hst)
        have Hst := hide hst
        clear hst hax hbx
        go_wp2_with fail
        refine hC.out.mono ?_
        rintro e w3 ⟨rfl, ha3, hb3, hs3⟩
        have hlen := stepG_len Hst.out
        rw [List.length_reverse] at hlen
        have Hb3 := hide hb3
        have hs4 : wr.heap.size + 1 ≤ w3.heap.size := by simpa using hs3
        clear hb3 hs3
        go_wp2_with fail
        go_roundw
        case rel => exact ⟨i + 1, r'.reverse, by omega, by go_num, by rw [Htk.out, Hst.out, List.reverse_reverse], by rw [List.length_reverse]; omega, ha3, (hbl.alloc (by omega) _).trans Hb3.out, by omega⟩
        case measure => simp [intOf]; omega
      | none =>
        have hC := hide (step_none ⟨xop, xla, xln, xra, xrn, xn, xu⟩ cm w2.heap.size k caps vv o d dv cv L _ w hax (by omega) hcf HLess.out hbx hst)
        have hRn : R = none := by rw [HR.out, Hall.out, hst]; rfl
        have HRn := hide hRn
        clear hst hax hbx hRn
        go_wp2_with fail
        refine hC.out.mono ?_
        rintro e w3 ⟨rfl, hb3⟩
        have hbY3 : Below w2.heap.size Y w3 := (hbl.alloc (by omega) _).trans hb3
        have hD := hide (catch_lost (w.heap.size + 1) (w.heap.size + 1 + 1) false 0 w3 (HB1Y.out.below hbY3 (by omega)) (HB2Y.out.below hbY3 (by omega)) (by omega) (B := w.heap.size) (by omega) (by omega))
        refine leaves_cons (f := 38) (args := #[.pointer (some ⟨w.heap.size + 1, 0, none⟩), .pointer (some ⟨w.heap.size + 1 + 1, 0, none⟩)]) (by simp) (by simp [go_sem]) ?_
        refine hD.out.mono ?_
        rintro e u' w'' ⟨rfl, rfl, e1, e2, e3⟩
        have d1 := e1.cell 0
        have d2 := e2.cell 0
        simp at d1 d2
        simp [Leaves, settle, results, Try.results19, go_sem, d1, d2]
        exact ⟨by rw [HRn.out]; rfl, (HY1.out.trans (hbY3.mono (by omega))).trans e3⟩
    · obtain rfl : i = l.length := by omega
      have hfull := Hrun.out
      rw [List.take_length] at hfull
      rcases nil_or_snoc L with rfl | ⟨q, b, rfl⟩
      · have hRn : R = none := by rw [HR.out, hfull]; rfl
        have HRn := hide hRn
        have hC := hide (askPopNone w2.heap.size wr.heap.size vv o d dv cv _ wr Hask.out)
        clear hRn hfull
        go_wp2_with fail
        refine hC.out.mono ?_
        rintro e w3 ⟨rfl, rfl⟩
        have hD := hide (catch_lost (w.heap.size + 1) (w.heap.size + 1 + 1) false 0 wr (HB1Y.out.below hbl (by omega)) (HB2Y.out.below hbl (by omega)) (by omega) (B := w.heap.size) (by omega) (by omega))
        refine leaves_cons (f := 38) (args := #[.pointer (some ⟨w.heap.size + 1, 0, none⟩), .pointer (some ⟨w.heap.size + 1 + 1, 0, none⟩)]) (by simp) (by simp [go_sem]) ?_
        refine hD.out.mono ?_
        rintro e u' w'' ⟨rfl, rfl, e1, e2, e3⟩
        have d1 := e1.cell 0
        have d2 := e2.cell 0
        simp at d1 d2
        simp [Leaves, settle, results, Try.results19, go_sem, d1, d2]
        exact ⟨by rw [HRn.out]; rfl, hbw.trans e3⟩
      · have hRs : R = some b := by rw [HR.out, hfull]; simp [topO]
        have HRs := hide hRs
        have hC := hide (askPop w2.heap.size wr.heap.size vv o d dv cv _ q b wr Hask.out (by simp at hLi; omega))
        clear hRs hfull
        go_wp2_with fail
        refine hC.out.mono ?_
        rintro e w3 ⟨rfl, _, hb3, hs3, _⟩
        have hbY3 : Below w2.heap.size Y w3 := hbl.trans hb3
        have B1 := HB1Y.out.below hbY3 (by omega)
        have B2 := HB2Y.out.below hbY3 (by omega)
        have c1 := B1.cell 0
        have c2 := B2.cell 0
        have f1 := B1.frozen 0
        have f2 := B2.frozen 0
        simp at c1 c2
        have D1 := (B1.set_ 0 (.bool b)).far (p := ⟨w.heap.size + 1 + 1, 0, none⟩) (by simp) (.int .i64 0)
        have D2 := (B2.far (p := ⟨w.heap.size + 1, 0, none⟩) (by simp) (.bool b)).set_ 0 (.int .i64 0)
        have d1 := D1.cell 0
        have d2 := D2.cell 0
        simp at d1 d2
        have HbY3 := hide hbY3
        clear B1 B2 D1 D2 hb3 hbY3
        go_wp2_with fail
        refine leaves_cons (f := 38) (args := #[.pointer (some ⟨w.heap.size + 1, 0, none⟩), .pointer (some ⟨w.heap.size + 1 + 1, 0, none⟩)]) (by simp) (by simp [go_sem]) ?_
        refine (catch_idle ⟨w.heap.size + 1, 0, none⟩ ⟨w.heap.size + 1 + 1, 0, none⟩ _).mono ?_
        rintro e u' w'' ⟨rfl, rfl, rfl⟩
        simp [Leaves, settle, results, Try.results19, go_sem, d1, d2]
        exact ⟨by rw [HRs.out]; rfl, ((HY1.out.trans (HbY3.out.mono (by omega))).setCell (by show _ ≤ w.heap.size + 1; omega) _).setCell (by show _ ≤ w.heap.size + 1 + 1; omega) _⟩
end
section
open Go.RowKit

theorem sides_any (l : List Inst) (lv : Value) (S : Nat → Prop) (k : Nat) (caps : Array Value) (vv : Value) (o d : Int) (dv cv : Value) (w : World) (h : (sliceR instR).one w S lv l) (hS : ∀ b, S b → b < w.heap.size) (hl : l.length ≤ 900)
    (hcf : ∀ (args : Array Value) (w : World), (callFunc k args).run Try.prog w = .ok (.enter k args) w) (cm : Inst → Option Int) (HL : ∀ x ∈ l, LessOK k caps cm x w) :
    Calls Try.prog 19 #[lv, .func (.func k) #[] caps, stAgg vv o d dv cv] w (SidesPost (holdsG cm o d l) w) := by
  by_cases hc : checkE (l.map Inst.op) = 0
  · exact sides_ok l lv S k caps vv o d dv cv w h hS hl hc hcf cm (hide HL)
  · have e : holdsG cm o d l = none := by unfold holdsG; rw [if_pos hc]
    rw [e]
    exact sides_bad l lv S k caps vv o d dv cv w h hS hl hc
end
section
open Go.RowKit

theorem rt_insts {w : World} {S : Nat → Prop} {v : Value} {l : List Inst} (h : RT w S v (sInsts l)) (hl : ∀ x ∈ l, x.ok) : (sliceR instR).one w S v l := by
  obtain ⟨A, cap, rfl, hc, hm, _, hA⟩ := h.sl_inv
  refine ⟨A, cap, by simp, by simpa using hc, hm, fun h0 => ?_⟩
  obtain ⟨b, o, rfl, hb, U, hcell, hr, _⟩ := hA (by simpa using h0)
  refine ⟨b, o, rfl, hb, fun i hi => ⟨l[i].cells, fun j u hu => ?_, rfl, hl _ (List.getElem_mem hi)⟩⟩
  have h1 : (l.map eInst)[i]? = some (eInst l[i]) := by simp [hi]
  have h3 : ∀ (j : Nat) (u : Value), l[i].cells[j]? = some u → (eInst l[i])[j]? = some (AV.c u) := by
    intro j u hu
    unfold Inst.cells at hu
    match j with
    | 0 | 1 | 2 | 3 | 4 | 5 | 6 => simp at hu; subst hu; rfl
    | j + 7 => simp at hu
  have h4 := h3 j u hu
  have h2 := hcell i j _ _ h1 h4
  rw [rtc (hr i j _ _ h1 h4)] at h2
  exact h2
theorem has_A (s i : Int) : ADet Try.prog 53 [eI s, eI i] (val (.bool (hasB s i))) :=
  adet_of_calls (enters_of Try.func53 rfl (by decide)) fun S w vs hS hn hv => by
    obtain ⟨a, b, rfl⟩ := two_args hn
    obtain rfl := rtc (hv 0 a _ rfl rfl)
    obtain rfl := rtc (hv 1 b _ rfl rfl)
    exact (has_any s i w).mono fun e w' ⟨h1, h2⟩ => ⟨h1, h2 ▸ Below.refl _ _⟩
end
section
open Go.RowKit
set_option maxRecDepth 100000 in
set_option maxHeartbeats 4000000 in
theorem holds16_A (l : List Inst) (s : St) (hl : l.length ≤ 1000000) (ho : ok64 s.opn) (hd : ok64 s.don) : ADet Try.prog 9 [sInsts l, .agg (eSt s)] ⟨.tup [eB (optB (holdsO l s)), eI (optE (holdsO l s))], [], 0⟩ := by
  refine adet_of_code mixedT Try.func9 rfl (by decide) Try.ntmps9 Try.results9 rfl (⟨fun id o h => (by cases h), ⟨trivial, trivial, trivial⟩⟩) ?_
  by_cases hc : checkE (l.map Inst.op) = 0 ∧ ∀ x ∈ l, askOk s.vals true x = true
  · have hck := check16_A l s true hl true (by simp only [true_iff]; exact hc)
    obtain ⟨b, h1, h2⟩ := holdsO_some hc.1 hc.2
    have hlen : 0 < l.length ∧ l.length ≤ 64 := by
      have := hc.1
      unfold checkE at this
      simp only [List.length_map] at this
      split at this
      · cases this
      · split at this
        · cases this
        · omega
    have ht : (l.map Inst.op).take 70 = l.map Inst.op := List.take_of_length_le (by simp; omega)
    have hsh := shapeR_A l hl
    rw [ht] at hsh
    have ew : IntKind.i64.wrap ((l.length : Int) - 1) = ((l.length - 1 : Nat) : Int) := by rw [wrap_in (by omega) (by omega)]; omega
    have hat := at16_A l s (by omega) ho hd (l.length) (l.length - 1) (by omega) b [] (by omega) (by rw [show l.length - 1 + 1 = l.length by omega, List.take_length]; exact h1)
    (repeat' (first | simp (maxSteps := 5000000) (implicitDefEqProofs := false) only [ruA, ruB, aEv, aTake, aLoad, aField, aIndex, aLen, aBin, bin2, aUn, un1, aExtract, aConv, ASt.get, aget, ASt.put, aStore, aBox, aAppend, aBuildSlice, aMake, aBuild, aFill, oneParts, allC, aBinS, yv, aCells, oneC, oneCL, treeC, treeL, aLit, aDst, aSrc, appTab, Value.cells, Value.oneCell', envOf, aResL, aOne, ↓reduceIte, reduceCtorEq, forall_const, Nat.reduceLT, Nat.reduceEqDiff, Nat.reduceAdd, Nat.reduceMul, Nat.reduceSub, Nat.reduceLeDiff, Nat.reduceBEq, eq_self, implies_true, ne_eq, dref, dref1, dref2, aExecS, aStoreB, aTakes, aTakeE, aElder, aFrom, aFresh, isLoad, aBuildSlice1, frzs, frz1, ownIds, AV.frz, AV.frzL, frzEnv, AV.shift, AV.shiftL, aFieldV, aSliceW, aSliceO, aSlice, aSliceR, aSliceS, aBd, aMax, frzAVs, frzAV, frzTab, AObj.frz, aMM, aNilS, aMay, tyA_26, tyS_26, tyE_22, tyK_22, tyK_3] | (with_reducible refine aIf_split (fun _ => ?_) (fun _ => ?_)) | (with_reducible refine aSel_split (fun _ => ?_) (fun _ => ?_)) | (with_reducible refine aGd_split (fun _ => ?_) (fun _ => ?_))))
    refine callV hck ?_
    (repeat' (first | simp (maxSteps := 5000000) (implicitDefEqProofs := false) only [ruA, ruB, aEv, aTake, aLoad, aField, aIndex, aLen, aBin, bin2, aUn, un1, aExtract, aConv, ASt.get, aget, ASt.put, aStore, aBox, aAppend, aBuildSlice, aMake, aBuild, aFill, oneParts, allC, aBinS, yv, aCells, oneC, oneCL, treeC, treeL, aLit, aDst, aSrc, appTab, Value.cells, Value.oneCell', envOf, aResL, aOne, ↓reduceIte, reduceCtorEq, forall_const, Nat.reduceLT, Nat.reduceEqDiff, Nat.reduceAdd, Nat.reduceMul, Nat.reduceSub, Nat.reduceLeDiff, Nat.reduceBEq, eq_self, implies_true, ne_eq, dref, dref1, dref2, aExecS, aStoreB, aTakes, aTakeE, aElder, aFrom, aFresh, isLoad, aBuildSlice1, frzs, frz1, ownIds, AV.frz, AV.frzL, frzEnv, AV.shift, AV.shiftL, aFieldV, aSliceW, aSliceO, aSlice, aSliceR, aSliceS, aBd, aMax, frzAVs, frzAV, frzTab, AObj.frz, aMM, aNilS, aMay, tyA_26, tyS_26, tyE_22, tyK_22, tyK_3] | (with_reducible refine aIf_split (fun _ => ?_) (fun _ => ?_)) | (with_reducible refine aSel_split (fun _ => ?_) (fun _ => ?_)) | (with_reducible refine aGd_split (fun _ => ?_) (fun _ => ?_))))
    refine aDraw_held [] [0, 1, 3, 4, 5, 6] (.exec 2 (.exec 7 (.exec 8 (.exec 9 .done)))) (by kernel_rfl) (by simp) ?_
    (repeat' (first | simp (maxSteps := 5000000) (implicitDefEqProofs := false) only [ruA, ruB, aEv, aTake, aLoad, aField, aIndex, aLen, aBin, bin2, aUn, un1, aExtract, aConv, ASt.get, aget, ASt.put, aStore, aBox, aAppend, aBuildSlice, aMake, aBuild, aFill, oneParts, allC, aBinS, yv, aCells, oneC, oneCL, treeC, treeL, aLit, aDst, aSrc, appTab, Value.cells, Value.oneCell', envOf, aResL, aOne, ↓reduceIte, reduceCtorEq, forall_const, Nat.reduceLT, Nat.reduceEqDiff, Nat.reduceAdd, Nat.reduceMul, Nat.reduceSub, Nat.reduceLeDiff, Nat.reduceBEq, eq_self, implies_true, ne_eq, dref, dref1, dref2, aExecS, aStoreB, aTakes, aTakeE, aElder, aFrom, aFresh, isLoad, aBuildSlice1, frzs, frz1, ownIds, AV.frz, AV.frzL, frzEnv, AV.shift, AV.shiftL, aFieldV, aSliceW, aSliceO, aSlice, aSliceR, aSliceS, aBd, aMax, frzAVs, frzAV, frzTab, AObj.frz, aMM, aNilS, aMay, tyA_26, tyS_26, tyE_22, tyK_22, tyK_3, ew] | (with_reducible refine aIf_split (fun _ => ?_) (fun _ => ?_)) | (with_reducible refine aSel_split (fun _ => ?_) (fun _ => ?_)) | (with_reducible refine aGd_split (fun _ => ?_) (fun _ => ?_))))
    refine callO hsh (.inr items_plain) ?_
    (repeat' (first | simp (maxSteps := 5000000) (implicitDefEqProofs := false) only [ruA, ruB, aEv, aTake, aLoad, aField, aIndex, aLen, aBin, bin2, aUn, un1, aExtract, aConv, ASt.get, aget, ASt.put, aStore, aBox, aAppend, aBuildSlice, aMake, aBuild, aFill, oneParts, allC, aBinS, yv, aCells, oneC, oneCL, treeC, treeL, aLit, aDst, aSrc, appTab, Value.cells, Value.oneCell', envOf, aResL, aOne, ↓reduceIte, reduceCtorEq, forall_const, Nat.reduceLT, Nat.reduceEqDiff, Nat.reduceAdd, Nat.reduceMul, Nat.reduceSub, Nat.reduceLeDiff, Nat.reduceBEq, eq_self, implies_true, ne_eq, dref, dref1, dref2, aExecS, aStoreB, aTakes, aTakeE, aElder, aFrom, aFresh, isLoad, aBuildSlice1, frzs, frz1, ownIds, AV.frz, AV.frzL, frzEnv, AV.shift, AV.shiftL, aFieldV, aSliceW, aSliceO, aSlice, aSliceR, aSliceS, aBd, aMax, frzAVs, frzAV, frzTab, AObj.frz, aMM, aNilS, aMay, tyA_26, tyS_26, tyE_22, tyK_22, tyK_3, ew] | (with_reducible refine aIf_split (fun _ => ?_) (fun _ => ?_)) | (with_reducible refine aSel_split (fun _ => ?_) (fun _ => ?_)) | (with_reducible refine aGd_split (fun _ => ?_) (fun _ => ?_))))
    refine callV (by exact hat) ?_
    (repeat' (first | simp (maxSteps := 5000000) (implicitDefEqProofs := false) only [ruA, ruB, aEv, aTake, aLoad, aField, aIndex, aLen, aBin, bin2, aUn, un1, aExtract, aConv, ASt.get, aget, ASt.put, aStore, aBox, aAppend, aBuildSlice, aMake, aBuild, aFill, oneParts, allC, aBinS, yv, aCells, oneC, oneCL, treeC, treeL, aLit, aDst, aSrc, appTab, Value.cells, Value.oneCell', envOf, aResL, aOne, ↓reduceIte, reduceCtorEq, forall_const, Nat.reduceLT, Nat.reduceEqDiff, Nat.reduceAdd, Nat.reduceMul, Nat.reduceSub, Nat.reduceLeDiff, Nat.reduceBEq, eq_self, implies_true, ne_eq, dref, dref1, dref2, aExecS, aStoreB, aTakes, aTakeE, aElder, aFrom, aFresh, isLoad, aBuildSlice1, frzs, frz1, ownIds, AV.frz, AV.frzL, frzEnv, AV.shift, AV.shiftL, aFieldV, aSliceW, aSliceO, aSlice, aSliceR, aSliceS, aBd, aMax, frzAVs, frzAV, frzTab, AObj.frz, aMM, aNilS, aMay, tyA_26, tyS_26, tyE_22, tyK_22, tyK_3] | (with_reducible refine aIf_split (fun _ => ?_) (fun _ => ?_)) | (with_reducible refine aSel_split (fun _ => ?_) (fun _ => ?_)) | (with_reducible refine aGd_split (fun _ => ?_) (fun _ => ?_))))
    exact gives_tree (by rw [h2]; rfl)
  · have hck := check16_A l s true hl false (by simp only [Bool.false_eq_true, false_iff]; exact hc)
    (repeat' (first | simp (maxSteps := 5000000) (implicitDefEqProofs := false) only [ruA, ruB, aEv, aTake, aLoad, aField, aIndex, aLen, aBin, bin2, aUn, un1, aExtract, aConv, ASt.get, aget, ASt.put, aStore, aBox, aAppend, aBuildSlice, aMake, aBuild, aFill, oneParts, allC, aBinS, yv, aCells, oneC, oneCL, treeC, treeL, aLit, aDst, aSrc, appTab, Value.cells, Value.oneCell', envOf, aResL, aOne, ↓reduceIte, reduceCtorEq, forall_const, Nat.reduceLT, Nat.reduceEqDiff, Nat.reduceAdd, Nat.reduceMul, Nat.reduceSub, Nat.reduceLeDiff, Nat.reduceBEq, eq_self, implies_true, ne_eq, dref, dref1, dref2, aExecS, aStoreB, aTakes, aTakeE, aElder, aFrom, aFresh, isLoad, aBuildSlice1, frzs, frz1, ownIds, AV.frz, AV.frzL, frzEnv, AV.shift, AV.shiftL, aFieldV, aSliceW, aSliceO, aSlice, aSliceR, aSliceS, aBd, aMax, frzAVs, frzAV, frzTab, AObj.frz, aMM, aNilS, aMay, tyA_26, tyS_26, tyE_22, tyK_22, tyK_3] | (with_reducible refine aIf_split (fun _ => ?_) (fun _ => ?_)) | (with_reducible refine aSel_split (fun _ => ?_) (fun _ => ?_)) | (with_reducible refine aGd_split (fun _ => ?_) (fun _ => ?_))))
    refine callV hck ?_
    (repeat' (first | simp (maxSteps := 5000000) (implicitDefEqProofs := false) only [ruA, ruB, aEv, aTake, aLoad, aField, aIndex, aLen, aBin, bin2, aUn, un1, aExtract, aConv, ASt.get, aget, ASt.put, aStore, aBox, aAppend, aBuildSlice, aMake, aBuild, aFill, oneParts, allC, aBinS, yv, aCells, oneC, oneCL, treeC, treeL, aLit, aDst, aSrc, appTab, Value.cells, Value.oneCell', envOf, aResL, aOne, ↓reduceIte, reduceCtorEq, forall_const, Nat.reduceLT, Nat.reduceEqDiff, Nat.reduceAdd, Nat.reduceMul, Nat.reduceSub, Nat.reduceLeDiff, Nat.reduceBEq, eq_self, implies_true, ne_eq, dref, dref1, dref2, aExecS, aStoreB, aTakes, aTakeE, aElder, aFrom, aFresh, isLoad, aBuildSlice1, frzs, frz1, ownIds, AV.frz, AV.frzL, frzEnv, AV.shift, AV.shiftL, aFieldV, aSliceW, aSliceO, aSlice, aSliceR, aSliceS, aBd, aMax, frzAVs, frzAV, frzTab, AObj.frz, aMM, aNilS, aMay, tyA_26, tyS_26, tyE_22, tyK_22, tyK_3] | (with_reducible refine aIf_split (fun _ => ?_) (fun _ => ?_)) | (with_reducible refine aSel_split (fun _ => ?_) (fun _ => ?_)) | (with_reducible refine aGd_split (fun _ => ?_) (fun _ => ?_))))
    exact gives_tree (by rw [holdsO_none hc]; rfl)
end
section
open Go.RowKit
def in31 (o : Int) : Prop := 0 ≤ o ∧ o < 2147483648
theorem in31_ok {o : Int} (h : in31 o) : ok64 o := by unfold in31 at h; unfold ok64; omega
theorem low_31 (s : Int) : in31 (low s : Int) := by
  have := low_lt s
  unfold in31
  omega
theorem withB_31 (s i : Int) : in31 (withB s i) := by
  unfold withB
  split
  · have h1 : low s ||| 2 ^ i.toNat < 2 ^ 31 := Nat.or_lt_two_pow (low_lt s) (Nat.pow_lt_pow_right (by omega) (by omega))
    unfold in31
    omega
  · exact low_31 s
theorem bools_plain {l : List Bool} : ∀ row ∈ l.map (fun b => [eB b]), ∀ av ∈ row, av.plain := fun row hr av ha => by
  obtain ⟨n, _, rfl⟩ := List.mem_map.1 hr
  simp at ha
  subst ha
  trivial
end
section
open Go.RowKit
section
variable {P : Program} {f : FuncId} {args : List AV}
theorem res_frz {cx : Cx} {w' : World} {L : Nat → Value} {v : Value} {R : Res} (h5 : R.Ok) (h7 : Lay cx w' R.tab L) (h8 : RVx cx w' R.tab L v R.r) (id : Nat) : (R.frz id).Ok ∧ Lay cx w' (R.frz id).tab L ∧ RVx cx w' (R.frz id).tab L v (R.frz id).r := by
  unfold Res.frz
  split
  · rename_i e' sz rows hid
    obtain ⟨h9, h10⟩ := frz_core h7 (fun k o hk => (h5.young k o hk).2) hid
    refine ⟨⟨fun k o hk => ?_, frz_lt h5.lt⟩, h9, h10 v _ h8 h5.lt⟩
    simp only [ATab.get_cons, frzTab_get] at hk
    split at hk
    · cases hk
    · cases hg : R.tab.get k with
      | none => simp [hg] at hk
      | some o' =>
        simp [hg] at hk
        subst hk
        exact ⟨(h5.young k o' hg).1, frz_obj_lt (h5.young k o' hg).2⟩
  · exact ⟨h5, h7, h8⟩
theorem res_frzs {cx : Cx} {w' : World} {L : Nat → Value} {v : Value} : ∀ (ids : List Nat) {R : Res}, R.Ok → Lay cx w' R.tab L → RVx cx w' R.tab L v R.r → (R.frzs ids).Ok ∧ Lay cx w' (R.frzs ids).tab L ∧ RVx cx w' (R.frzs ids).tab L v (R.frzs ids).r
  | [], R, h1, h2, h3 => ⟨h1, h2, h3⟩
  | id :: ids, R, h1, h2, h3 => by
    obtain ⟨h4, h5, h6⟩ := res_frz h1 h2 h3 id
    exact res_frzs ids h4 h5 h6
inductive FitsT : AV → AV → Prop
  | one {a b : AV} (h : FitsA a b) : FitsT a b
  | tup {l l' : List AV} (h : FitsAs l l') : FitsT (.tup l) (.tup l')
theorem rt_of_rv {w : World} {S : Nat → Prop} {K : Nat → Option (Nat × Value)} {x : Value} {av : AV} (h : RV w S K x av) : av.lt 0 → RT w S x av := by
  induction h with
  | tree h => exact fun _ => h
  | osl x id h => exact fun h2 => by simp [AV.lt] at h2
  | op x id i j h => exact fun h2 => by simp [AV.lt] at h2
  | agg xs cs hn hr ih =>
    intro h2
    simp only [AV.lt] at h2
    exact .agg xs cs hn fun j x av h3 h4 => ih j x av h3 h4 (ltL_iff.1 h2 av (List.mem_of_getElem? h4))
  | tup xs cs hn hr ih =>
    intro h2
    simp only [AV.lt] at h2
    exact .tup xs cs hn fun j x av h3 h4 => ih j x av h3 h4 (ltL_iff.1 h2 av (List.mem_of_getElem? h4))
  | fn f xs cs hn hr ih =>
    intro h2
    simp only [AV.lt] at h2
    exact .fn f xs cs hn fun j x av h3 h4 => ih j x av h3 h4 (ltL_iff.1 h2 av (List.mem_of_getElem? h4))
theorem RT.tup_inv {w : World} {S : Nat → Prop} {x : Value} {cs : List AV} (h : RT w S x (.tup cs)) : ∃ xs : Array Value, x = .tuple xs ∧ xs.size = cs.length ∧ ∀ (j : Nat) (x : Value) (av : AV), xs[j]? = some x → cs[j]? = some av → RT w S x av := by
  cases h with
  | tup xs _ hn hr => exact ⟨xs, rfl, hn, hr⟩
theorem FitsT.rt {w : World} {S : Nat → Prop} {v : Value} {a b : AV} (h : FitsT a b) (hr : RT w S v a) : RT w S v b := by
  cases h with
  | one h => exact h.rt hr
  | @tup l l' h =>
    obtain ⟨xs, rfl, hn, hx⟩ := hr.tup_inv
    obtain ⟨h1, h2⟩ := h.spec
    refine .tup xs l' (by omega) fun j x av h3 h4 => ?_
    have hj : j < l.length := by
      have := (List.getElem?_eq_some_iff.1 h4).1
      omega
    have h5 : l[j]? = some l[j] := List.getElem?_eq_getElem hj
    exact (h2 j _ av h5 h4).rt (hx j x _ h3 h5)
theorem tab_ok {R : Res} (h1 : tabLt R.n R.tab) (h2 : R.r.lt R.n) : R.Ok := by
  refine ⟨?_, h2⟩
  revert h1
  generalize R.tab = T
  induction T with
  | nil => exact fun _ id o h => by cases h
  | cons p T ih =>
    obtain ⟨k, ob⟩ := p
    intro h1 id o h
    rw [ATab.get_cons] at h
    cases ob with
    | none =>
      simp only [tabLt] at h1
      split at h
      · cases h
      · exact ih h1 id o h
    | some ob =>
      simp only [tabLt] at h1
      split at h
      · rename_i e
        cases h
        exact ⟨by rw [e]; exact h1.1.1, h1.1.2⟩
      · exact ih h1.2 id o h
/-- an answer that nobody writes any more -/
theorem ARel.tree {Post : Res → Prop} {r' : AV} (h : ARel P f args Post) (hl : r'.lt 0) (hp : ∀ R, Post R → ∃ ids, (R.frzs ids).r.lt 0 ∧ FitsT (R.frzs ids).r r') : ADet P f args ⟨r', [], 0⟩ :=
  ⟨h.1, fun S w vs h1 h2 h3 => (h.2 S w vs h1 h2 h3).mono fun e w' ⟨v, L, R, h4, h5, h6, h7, h8⟩ => by
    obtain ⟨ids, ha, hc⟩ := hp R h4
    obtain ⟨h9, h10, h11⟩ := res_frzs ids h5 h7 h8
    have hext : Ext (Cx.mk0 S w) w' (R.frzs ids).tab L 0 w' [] L := ⟨fun _ _ => rfl, fun b hb => ⟨hb.1, hb.2.1, fun k o hk => (by cases hk)⟩, fun k p _ hk => by simp [Kx, ATab.get] at hk⟩
    have h12 := rt_of_rv (hext.rv h11 ha) ha
    exact ⟨v, L, ⟨r', [], 0⟩, rfl, ⟨fun id o hk => (by cases hk), hl⟩, h6, ⟨h10.below, fun id o hk => (by cases hk), fun id id' o o' g hk => (by cases hk), fun b hb => hb.elim⟩, .tree (hc.rt h12)⟩⟩
end
end
section
open Go.RowKit

section
variable {P : Program} {cx : Cx} {a : Act} {w w' w'' : World} {st : ASt} {tab tab' tab'' : ATab} {L L' L'' : Nat → Value} {nx nx' nx'' : Nat}
theorem Fr.refl : Fr cx w tab L nx w tab L nx := ⟨Ext.refl .., Nat.le_refl _, fun _ _ _ => rfl, fun id o g h1 h2 _ => ⟨id, o, h1, h2⟩, Nat.le_refl _⟩
theorem Fr.trans (h : Fr cx w tab L nx w' tab' L' nx') (k : Fr cx w' tab' L' nx' w'' tab'' L'' nx'') : Fr cx w tab L nx w'' tab'' L'' nx'' :=
  ⟨⟨fun b hb => (k.ext.blk b (h.ext.sub b hb)).trans (h.ext.blk b hb), fun b hb => k.ext.sub b (h.ext.sub b hb), fun id p hid hp => h.ext.loc id p hid (k.ext.loc id p (Nat.lt_of_lt_of_le hid h.next) hp)⟩,
   Nat.le_trans h.size k.size,
   fun j hj hn => (k.keep j (Nat.lt_of_lt_of_le hj h.size) fun id o h1 h2 => (h.young id o j h1 h2 hj).elim fun id2 ⟨o2, h3, h4⟩ => hn id2 o2 h3 h4).trans (h.keep j hj hn),
   fun id o g h1 h2 hg => (k.young id o g h1 h2 (Nat.lt_of_lt_of_le hg h.size)).elim fun id2 ⟨o2, h3, h4⟩ => h.young id2 o2 g h3 h4 hg,
   Nat.le_trans h.next k.next⟩
end
end
section
open Go.RowKit

section
variable {P : Program} {cx : Cx} {a : Act} {w w' : World} {st : ASt} {L L' : Nat → Value} {l0 n : Nat}
/-- memory that the caller does not write: with what was laid since -/
def grow (T : Nat → Prop) (w w' : World) (b : Nat) : Prop := T b ∨ (w.heap.size ≤ b ∧ b < w'.heap.size)
theorem conc_move {c c' : Cx} (h : Conc c a w st L) (hw : c'.w0 = c.w0) (hblk : ∀ b, Sx c w st.tab L b → w'.heap[b]? = w.heap[b]?) (hown : ∀ id o g, st.tab.get id = some o → vblk (L id) = some g → w'.heap[g]? = w.heap[g]?) (hS : ∀ b, Sx c w st.tab L b → Sx c' w' st.tab L b)
    (hb : BelowX c'.X c'.w0.heap.size c'.w0 w') (hex : ∀ b, c'.X b → b < w'.heap.size ∧ ∀ id o, st.tab.get id = some o → vblk (L id) ≠ some b) : Conc c' a w' st L := by
  have hrv : ∀ {x av nx}, RVx c w st.tab L x av → av.lt nx → RVx c' w' st.tab L x av := fun hr hl => hr.mono hl (fun p hp => World.cell?_of_block (hblk _ hp)) hS (fun _ _ _ h => h)
  refine ⟨⟨hb, fun id o hid => ?_, h.lay.sep, hex⟩, h.size, by rw [hw]; exact h.defers.mono hblk hS, h.young, fun t => ⟨hrv (h.env t).1 (h.env t).2, (h.env t).2⟩⟩
  have ho := h.lay.objs id o hid
  have hy := (h.young id o hid).2
  cases o with
  | box t cells =>
    obtain ⟨g, cs, h1, h2, h3, h4, h5⟩ := ho
    exact ⟨g, cs, h1, by rw [hw]; exact h2, (hown id _ g hid (by rw [h1]; rfl)).trans h3, h4, fun j x av h6 h7 => ⟨hrv (h5 j x av h6 h7).1 (ltL_iff.1 hy _ (List.mem_of_getElem? h7)), (h5 j x av h6 h7).2⟩⟩
  | row e sz rows =>
    obtain ⟨h1, xs, hown', h2, h3⟩ := ho
    refine ⟨h1, xs, ⟨hown'.1, ?_⟩, h2, fun i j row av ha hb => ?_⟩
    · rcases hown'.2 with hn | ⟨g, cap, cur, h4, hb, hh, rest⟩
      · exact .inl hn
      · exact .inr ⟨g, cap, cur, h4, by rw [hw]; exact hb, (hown id _ g hid (by rw [h4]; rfl)).trans hh, rest⟩
    · obtain ⟨x, hx, hr⟩ := h3 i j row av ha hb
      exact ⟨x, hx, hr.mono (fun p hp => World.cell?_of_block (hblk _ hp)) hS⟩
def Cx.ex (c : Cx) (M : Nat → Prop) : Cx := ⟨c.F, c.w0, fun b => c.X b ∨ M b⟩
def JAt (cx : Cx) (a0 : Act) (l : Nat) (r : Loop) (I : ASt → Prop) (T M : Nat → Prop) (W : World) : Prop :=
  ∃ st L, I st ∧ Conc (cx.ex M) a0 W st L ∧ W.heap[l]? = some (.loop r) ∧ Sx (cx.ex M) W st.tab L l ∧ ¬ T l ∧ (∀ b, M b → T b ∧ cx.w0.heap.size ≤ b) ∧ ∀ b, T b → Sx cx W st.tab L b
theorem sx_new (h : Conc cx a w st L) {b : Nat} (h1 : w.heap.size ≤ b) (h2 : b < w'.heap.size) : Sx cx w' st.tab L b :=
  ⟨h2, ⟨.inr (Nat.le_trans h.lay.below.size h1), fun hX => absurd (h.lay.ex b hX).1 (Nat.not_lt.2 h1)⟩, fun id o hid hg => absurd ((h.lay.objs id o hid).ge hg).2 (by omega)⟩
theorem JAt.step {a0 : Act} {l : Nat} {r : Loop} {I : ASt → Prop} {T M M' : Nat → Prop} (h : JAt cx a0 l r I T M w) (hb : BelowX M w.heap.size w w') (hM : ∀ b, M' b → M b ∨ (w.heap.size ≤ b ∧ b < w'.heap.size)) : JAt cx a0 l r I (grow T w w') M' w' := by
  obtain ⟨st, L, h1, h2, h3, h4, h5, h6, h7⟩ := h
  have hsz : cx.w0.heap.size ≤ w.heap.size := h2.lay.below.size
  have hS : ∀ b, Sx (cx.ex M) w st.tab L b → Sx (cx.ex M') w' st.tab L b := fun b hs => ⟨Nat.lt_of_lt_of_le hs.1 hb.size, ⟨hs.2.1.1, fun hx => by
    rcases hx with hx | hx
    · exact hs.2.1.2 (.inl hx)
    · rcases hM b hx with hm | hm
      · exact hs.2.1.2 (.inr hm)
      · have := hs.1
        omega⟩, hs.2.2⟩
  have hblk : ∀ b, Sx (cx.ex M) w st.tab L b → w'.heap[b]? = w.heap[b]? := fun b hs => hb.block b hs.1 fun hm => hs.2.1.2 (.inr hm)
  have hex : ∀ b, (cx.ex M').X b → b < w'.heap.size ∧ ∀ id o, st.tab.get id = some o → vblk (L id) ≠ some b := fun b hx => by
    have old : (cx.ex M).X b → b < w'.heap.size ∧ ∀ id o, st.tab.get id = some o → vblk (L id) ≠ some b := fun hx => ⟨Nat.lt_of_lt_of_le (h2.lay.ex b hx).1 hb.size, (h2.lay.ex b hx).2⟩
    rcases hx with hx | hx
    · exact old (.inl hx)
    · rcases hM b hx with hm | hm
      · exact old (.inr hm)
      · exact ⟨hm.2, fun id o hid hg => absurd ((h2.lay.objs id o hid).ge hg).2 (by omega)⟩
  have hbel : BelowX (cx.ex M').X (cx.ex M').w0.heap.size (cx.ex M').w0 w' := by
    have h8 : BelowX (cx.ex M).X cx.w0.heap.size cx.w0 w := h2.lay.below
    refine ⟨hb.os.trans h8.os, hb.tape.trans h8.tape, hb.output.trans h8.output, Nat.le_trans h8.size hb.size, fun k (hk : k < cx.w0.heap.size) hx => ?_⟩
    have hm : ¬ M k := fun hm => by
      have := (h6 k hm).2
      omega
    refine (hb.block k (by omega) hm).trans (h8.block k hk fun hx' => ?_)
    rcases hx' with hx' | hx'
    · exact hx (.inl hx')
    · exact hm hx'
  refine ⟨st, L, h1, conc_move h2 rfl hblk (fun id o g hid hg => hb.block g ((h2.lay.objs id o hid).ge hg).2 fun hm => (h2.lay.ex g (.inr hm)).2 id o hid hg) hS hbel hex, (hblk l h4).trans h3, hS l h4, fun hg => ?_, fun b hm => ?_, fun b hg => ?_⟩
  · rcases hg with hg | hg
    · exact h5 hg
    · have := h4.1
      omega
  · rcases hM b hm with hm | hm
    · exact ⟨.inl (h6 b hm).1, (h6 b hm).2⟩
    · exact ⟨.inr hm, by omega⟩
  · rcases hg with hg | hg
    · exact ⟨Nat.lt_of_lt_of_le (h7 b hg).1 hb.size, (h7 b hg).2.1, (h7 b hg).2.2⟩
    · have := sx_new h2 hg.1 hg.2
      exact ⟨this.1, ⟨this.2.1.1, fun hx => this.2.1.2 (.inl hx)⟩, this.2.2⟩
end
end
section
open Go.RowKit

/-- a variable's part that holds no slice, seen as a slice of the call's own that is empty -/
theorem weak_nilbox {st : ASt} (id j e sz : Nat) {t : TypeId} {cells : List AV} (hid : st.tab.get id = some (.box t cells)) (hj : cells[j]? = some (.c (.slice none 0 0))) :
    Weak st ⟨st.n, st.env, (id, some (.box t (cells.set j (.osl st.next)))) :: (st.next, some (.row e sz [])) :: st.tab, st.next + 1⟩ := by
  intro cx a w L h
  have hc1 := conc_new (ob := .row e sz []) (v := .slice none 0 0) (x := .slice none 0 0) (av := .any) h (Below.refl _ _) (fun g hg => by simp [vblk] at hg) (fun hext => ⟨by simp, [], ownsR_nil .., by simp, by simp⟩) trivial (fun hext => .tree (.any _)) trivial none
  have hlt := (h.young id _ hid).1
  have hget1 : ATab.get ((st.next, some (.row e sz [])) :: st.tab) id = some (.box t cells) := by rw [ATab.get_cons, if_neg (by omega)]; exact hid
  generalize hL1 : updL L st.next (.slice none 0 0) = L1 at hc1
  generalize ht1 : (st.next, some (AObj.row e sz [])) :: st.tab = tab1 at hc1 hget1 ⊢
  have hc1 : Conc cx a w ⟨st.n, st.env, tab1, st.next + 1⟩ L1 := hc1
  have hnew : ATab.get tab1 st.next = some (.row e sz []) := by rw [← ht1, ATab.get_cons, if_pos rfl]
  have hLn : L1 st.next = .slice none 0 0 := by rw [← hL1]; simp [updL]
  have hget : ∀ k o, ATab.get ((id, some (.box t (cells.set j (.osl st.next)))) :: tab1) k = some o → ∃ o', ATab.get tab1 k = some o' ∧ o.sz = o'.sz := fun k o hk => by
    rw [ATab.get_cons] at hk
    split at hk
    · rename_i e1
      cases hk
      exact ⟨_, by rw [e1]; exact hget1, by simp [AObj.sz]⟩
    · exact ⟨o, hk, rfl⟩
  have hS1 : ∀ b, Sx cx w tab1 L1 b → Sx cx w ((id, some (.box t (cells.set j (.osl st.next)))) :: tab1) L1 b := fun b hb => ⟨hb.1, hb.2.1, fun k o hk => by
    obtain ⟨o', h1, _⟩ := hget k o hk
    exact hb.2.2 k o' h1⟩
  have hK : ∀ k p, Kx ((id, some (.box t (cells.set j (.osl st.next)))) :: tab1) L1 k = some p → Kx tab1 L1 k = some p := fun k p hk => by
    unfold Kx at *
    cases ho : ATab.get ((id, some (.box t (cells.set j (.osl st.next)))) :: tab1) k with
    | none => simp [ho] at hk
    | some o =>
      obtain ⟨o', h1, h2⟩ := hget k o ho
      rw [h1]
      simpa [ho, h2] using hk
  have hrv : ∀ {x av}, RVx cx w tab1 L1 x av → av.lt (st.next + 1) → RVx cx w ((id, some (.box t (cells.set j (.osl st.next)))) :: tab1) L1 x av := fun hr hl => hr.mono hl (fun _ _ => rfl) hS1 fun k p _ hk => hK k p hk
  refine ⟨L1, ⟨⟨hc1.lay.below, fun k o hk => ?_, fun k k' o o' g h1 h2 => ?_, fun b hb => ⟨(hc1.lay.ex b hb).1, fun k o hk => by
    obtain ⟨o', h1, _⟩ := hget k o hk
    exact (hc1.lay.ex b hb).2 k o' h1⟩⟩, hc1.size, hc1.defers.mono (fun _ _ => rfl) hS1, fun k o hk => ?_, fun t => ⟨hrv (hc1.env t).1 (hc1.env t).2, (hc1.env t).2⟩⟩, fun b hb => hS1 b ?_⟩
  · rw [ATab.get_cons] at hk
    split at hk
    · rename_i e1
      cases hk
      subst e1
      obtain ⟨g, cs, h1, h2, h3, h4, h5⟩ := hc1.lay.objs _ _ hget1
      refine ⟨g, cs, h1, h2, h3, by simpa using h4, fun i x av h6 h7 => ?_⟩
      rw [List.getElem?_set] at h7
      split at h7
      · rename_i e2
        subst e2
        split at h7
        · cases h7
          have h8 := h5 j x _ h6 hj
          refine ⟨.osl x _ fun sz' v hk => ?_, h8.2⟩
          have hk := hK _ _ hk
          unfold Kx at hk
          rw [hnew] at hk
          simp at hk
          rw [h8.1.c_inv, ← hk.2, hLn]
        · cases h7
      · have h8 := h5 i x av h6 h7
        exact ⟨hrv h8.1 (ltL_iff.1 (hc1.young _ _ hget1).2 _ (List.mem_of_getElem? h7)), h8.2⟩
    · have ho := hc1.lay.objs k o hk
      have hy := (hc1.young k o hk).2
      cases o with
      | box t' cells' =>
        obtain ⟨g, cs, h1, h2, h3, h4, h5⟩ := ho
        exact ⟨g, cs, h1, h2, h3, h4, fun i x av h6 h7 => ⟨hrv (h5 i x av h6 h7).1 (ltL_iff.1 hy _ (List.mem_of_getElem? h7)), (h5 i x av h6 h7).2⟩⟩
      | row e' sz' rows' =>
        obtain ⟨h1, xs, h2, h3, h4⟩ := ho
        refine ⟨h1, xs, h2, h3, fun i j row av h5 h6 => ?_⟩
        obtain ⟨x, hx, hr⟩ := h4 i j row av h5 h6
        exact ⟨x, hx, hr.mono (fun _ _ => rfl) hS1⟩
  · obtain ⟨o1, h3, _⟩ := hget k o h1
    obtain ⟨o2, h4, _⟩ := hget k' o' h2
    exact hc1.lay.sep k k' o1 o2 g h3 h4
  · rw [ATab.get_cons] at hk
    split at hk
    · rename_i e1
      cases hk
      have hy := hc1.young id _ hget1
      refine ⟨by rw [e1]; exact hy.1, ltL_iff.2 fun x hx => ?_⟩
      rcases List.mem_or_eq_of_mem_set hx with hx | rfl
      · exact ltL_iff.1 hy.2 x hx
      · exact Nat.lt_succ_self _
    · exact hc1.young k o hk
  · refine ⟨hb.1, hb.2.1, fun k o hk hg => ?_⟩
    rw [← ht1, ATab.get_cons] at hk
    rw [← hL1] at hg
    unfold updL at hg
    split at hk
    · rename_i e1
      rw [if_pos e1] at hg
      simp [vblk] at hg
    · rename_i e1
      rw [if_neg e1] at hg
      exact hb.2.2 k o hk hg
end
section
def isD (b : Nat) : Bool := decide (48 ≤ b) && decide (b ≤ 57)
def valL (l : List Nat) : Nat := l.foldl (fun n b => n * 10 + (b - 48)) 0
def formedL (l : List Nat) : Bool := !l.isEmpty && l.all isD
/-- the number, and the error's number -/
def signed (neg : Bool) (l : List Nat) : Int × Int :=
  if formedL l = false then (0, 17) else if (if neg = true then 9223372036854775808 else 9223372036854775807) < valL l then (0, 2) else (if neg = true then -(valL l : Int) else (valL l : Int), 0)
end
section
open Go.RowKit

/-- v holds the numbers l -/
def LI (w : World) (v : Value) (l : List Int) : Prop :=
  ∃ A c, v = .slice A l.length c ∧ l.length ≤ c ∧ (0 < l.length → ∃ b o, A = some ⟨b, o, none⟩ ∧ b < w.heap.size ∧ ∀ i (h : i < l.length), w.cell? ⟨b, o + i, none⟩ = some (.int .i64 l[i]))
theorem LI.below {w w' : World} {v : Value} {l : List Int} (h : LI w v l) (hb : Below w.heap.size w w') : LI w' v l := by
  obtain ⟨A, c, rfl, hc, hr⟩ := h
  refine ⟨A, c, rfl, hc, fun hp => ?_⟩
  obtain ⟨b, o, hA, hb1, hcell⟩ := hr hp
  exact ⟨b, o, hA, Nat.lt_of_lt_of_le hb1 hb.size, fun i hi => (hb.cell hb1).trans (hcell i hi)⟩
theorem LI.some_ {w : World} {v : Value} {l : List Int} (h : LI w v l) (hp : 0 < l.length) : ∃ b o c, v = .slice (some ⟨b, o, none⟩) l.length c ∧ l.length ≤ c ∧ b < w.heap.size ∧ ∀ i (h : i < l.length), w.cell? ⟨b, o + i, none⟩ = some (.int .i64 l[i]) := by
  obtain ⟨A, c, rfl, hc, hr⟩ := h
  obtain ⟨b, o, rfl, hb, hcell⟩ := hr hp
  exact ⟨b, o, c, rfl, hc, hb, hcell⟩
theorem LI.at_ {w : World} {A : Option Addr} {c : Nat} {l : List Int} (h : LI w (.slice A l.length c) l) {i : Nat} (hi : i < l.length) : ∃ b o, A = some ⟨b, o, none⟩ ∧ b < w.heap.size ∧ w.cell? ⟨b, o + i, none⟩ = some (.int .i64 l[i]) := by
  obtain ⟨A', c', e, hc, hr⟩ := h
  obtain ⟨rfl, _, rfl⟩ : A = A' ∧ l.length = l.length ∧ c = c' := by simpa using e
  obtain ⟨b, o, rfl, hb, hcell⟩ := hr (by omega)
  exact ⟨b, o, rfl, hb, hcell i hi⟩
theorem LI.of_own {w : World} {base n : Nat} {v : Value} {l : List Int} (h : w.ownsRow base 2 1 v n (l.map (Value.int .i64))) (hn : n = l.length) : LI w v l := by
  subst hn
  obtain ⟨A, c, rfl, hc⟩ := own_form h
  refine ⟨A, c, rfl, hc, fun hp => ?_⟩
  obtain ⟨g, c', e, _, _, hg⟩ := own_some h hp
  obtain ⟨rfl, _, rfl⟩ : A = some ⟨g, 0, none⟩ ∧ l.length = l.length ∧ c = c' := by simpa using e
  exact ⟨g, 0, rfl, hg, fun i hi => by rw [Nat.zero_add]; exact own_cell h rfl (by simp [hi])⟩

theorem below_drewN' {B : Nat} {w w' : World} (h : Below B w w') (n : Nat) : Below B w (w'.drewN n) := h.trans ⟨rfl, rfl, rfl, Nat.le_refl _, fun _ _ => rfl⟩
end
section
open Go.RowKit
def LN (B : Nat) (w : World) (v : Value) (l : List Int) : Prop :=
  ∃ A c, v = .slice A l.length c ∧ l.length ≤ c ∧ c ≤ 9223372036854775807 ∧ (0 < l.length → ∃ b o, A = some ⟨b, o, none⟩ ∧ B ≤ b ∧ b < w.heap.size ∧ ∀ i (h : i < l.length), w.cell? ⟨b, o + i, none⟩ = some (.int .i64 l[i]))
theorem LN.of_own {w : World} {base n : Nat} {v : Value} {l : List Int} (h : w.ownsRow base 2 1 v n (l.map (Value.int .i64))) (hn : n = l.length) : LN base w v l := by
  subst hn
  have h0 := h
  rcases h0.2 with ⟨rfl, h1⟩ | ⟨g, cap, cur, rfl, hb, hg, h2, h3, _⟩
  · exact ⟨none, 0, by rw [h1], by omega, by omega, fun hp => by omega⟩
  · refine ⟨_, cap, rfl, h2, by unfold maxLen at h3; omega, fun hp => ⟨g, 0, rfl, hb, (Array.getElem?_eq_some_iff.1 hg).1, fun i hi => ?_⟩⟩
    rw [Nat.zero_add]
    exact own_cell h rfl (by simp [hi])
theorem LN.rt {B : Nat} {w : World} {S : Nat → Prop} {v : Value} {l : List Int} (h : LN B w v l) (hS : ∀ b, B ≤ b → b < w.heap.size → S b) : RT w S v (sI l) := by
  obtain ⟨A, c, rfl, h1, h2, h3⟩ := h
  have key : ∀ (i j : Nat) (row : List AV) (av : AV), (l.map fun n => [eI n])[i]? = some row → row[j]? = some av → ∃ hi : i < l.length, j = 0 ∧ av = eI l[i] := fun i j row av h4 h5 => by
    have hi : i < l.length := by
      have := (List.getElem?_eq_some_iff.1 h4).1
      simpa using this
    rw [List.getElem?_map, List.getElem?_eq_getElem hi] at h4
    cases h4
    match j with
    | 0 => exact ⟨hi, rfl, by simpa using h5.symm⟩
    | j + 1 => simp at h5
  by_cases h0 : 0 < l.length
  · obtain ⟨b, o, rfl, hb, hbs, hcell⟩ := h3 h0
    refine .sl _ _ c 1 _ b o (fun i _ => .int .i64 (l.getD i 0)) (by simp) h1 h2 (fun _ => ⟨rfl, hS b hb hbs⟩) (fun row hr => by obtain ⟨n, _, rfl⟩ := List.mem_map.1 hr; rfl) (fun _ i j row av h4 h5 => ?_) (fun _ _ _ _ _ _ => rfl) (fun i j row av h4 h5 => ?_)
    · obtain ⟨hi, rfl, _⟩ := key i j row av h4 h5
      rw [Nat.mul_one, Nat.add_zero, hcell i hi, List.getD_eq_getElem?_getD, List.getElem?_eq_getElem hi]
      rfl
    · obtain ⟨hi, rfl, rfl⟩ := key i j row av h4 h5
      rw [List.getD_eq_getElem?_getD, List.getElem?_eq_getElem hi]
      exact .c _
  · have : l = [] := List.length_eq_zero_iff.1 (by omega)
    subst this
    exact .sl A 0 c 1 [] 0 0 (fun _ _ => undef) rfl h1 h2 (fun h => by omega) (by simp) (fun h => by omega) (by simp) (by simp)
theorem LI.of_rt {w : World} {S : Nat → Prop} {v : Value} {l : List Int} (h : RT w S v (sI l)) (hS : ∀ b, S b → b < w.heap.size) : LI w v l := by
  obtain ⟨A, cap, rfl, hc, hm, _, hA⟩ := h.sl_inv
  refine ⟨A, cap, by simp, by simpa using hc, fun h0 => ?_⟩
  obtain ⟨b, o, rfl, hb, U, hcell, hr, _⟩ := hA (by simpa using h0)
  refine ⟨b, o, rfl, hS b hb, fun i hi => ?_⟩
  have h1 : (l.map fun n => [eI n])[i]? = some [eI l[i]] := by simp [hi]
  have h2 := hcell i 0 _ _ h1 rfl
  have h3 := rtc (hr i 0 _ _ h1 rfl)
  rw [h3] at h2
  simpa using h2
theorem adet_of_sl {P : Program} {f : FuncId} {args : List AV} {sz : Nat} {rows : List (List AV)} (he : Enters P f)
    (h : ∀ (S : Nat → Prop) (w : World) (vs : Array Value), (∀ b, S b → b < w.heap.size) → vs.size = args.length → (∀ (j : Nat) (v : Value) (av : AV), vs[j]? = some v → args[j]? = some av → RT w S v av) →
      Calls P f vs w fun e w' => ∃ v, e = .returned v ∧ (∀ S', (∀ b, w.heap.size ≤ b → b < w'.heap.size → S' b) → RT w' S' v (.sl sz rows)) ∧ Below w.heap.size w w') : ADet P f args ⟨.sl sz rows, [], 0⟩ :=
  ⟨he, fun S w vs h1 h2 h3 => (h S w vs h1 h2 h3).mono fun e w' ⟨v, h4, h5, h6⟩ => ⟨v, fun _ => undef, ⟨.sl sz rows, [], 0⟩, rfl, ⟨fun id o h => (by cases h), by simp [AV.lt]⟩, h4, ⟨belowX h6, fun id o h => (by cases h), fun id id' o o' g h => (by cases h), fun b hb => hb.elim⟩, .tree (h5 _ fun b hb hb2 => ⟨hb2, ⟨.inr hb, fun hX => hX⟩, fun id o h => (by cases h)⟩)⟩⟩
end
section
def insS (x : Int) (st : List Int × Bool) (y : Int) : List Int × Bool :=
  ((st.1 ++ (if st.2 = false ∧ x ≤ y then [x] else [])) ++ (if y ≠ x then [y] else []), st.2 || decide (x ≤ y))
def insR (x : Int) (l : List Int) : List Int × Bool := l.foldl (insS x) ([], false)
def insP (x : Int) (out : List Int) : List Int := if (insR x out).2 then (insR x out).1 else (insR x out).1 ++ [x]
def sortR (l : List Int) : List Int := l.foldl (fun out x => insP x out) []

theorem insR_snoc (x : Int) (l : List Int) (y : Int) : insR x (l ++ [y]) = insS x (insR x l) y := by simp [insR]
theorem insR_take (x : Int) (l : List Int) (k : Nat) (h : k < l.length) : insR x (l.take (k + 1)) = insS x (insR x (l.take k)) l[k] := by
  rw [List.take_succ_eq_append_getElem h, insR_snoc]
theorem sortR_snoc (l : List Int) (x : Int) : sortR (l ++ [x]) = insP x (sortR l) := by simp [sortR]
theorem sortR_take (l : List Int) (k : Nat) (h : k < l.length) : sortR (l.take (k + 1)) = insP l[k] (sortR (l.take k)) := by
  rw [List.take_succ_eq_append_getElem h, sortR_snoc]
theorem snoc_ind {p : List Int → Prop} (h0 : p []) (h1 : ∀ l x, p l → p (l ++ [x])) (l : List Int) : p l := by
  rw [← List.reverse_reverse l]
  induction l.reverse with
  | nil => exact h0
  | cons x r ih => rw [List.reverse_cons]; exact h1 _ _ ih
theorem insR_len (x : Int) (l : List Int) : (insR x l).1.length ≤ l.length + (if (insR x l).2 then 1 else 0) := by
  induction l using snoc_ind with
  | h0 => simp [insR]
  | h1 l y ih =>
    rw [insR_snoc]
    generalize insR x l = st at *
    obtain ⟨n, b⟩ := st
    cases b <;> by_cases h1 : x ≤ y <;> by_cases h2 : y = x <;> simp [insS, h1, h2] at ih ⊢ <;> omega
theorem insP_len (x : Int) (l : List Int) : (insP x l).length ≤ l.length + 1 := by
  have := insR_len x l
  unfold insP
  split <;> rename_i h <;> simp [h] at this ⊢ <;> omega
theorem sortR_len (l : List Int) : (sortR l).length ≤ l.length := by
  induction l using snoc_ind with
  | h0 => simp [sortR]
  | h1 l y ih => rw [sortR_snoc]; have := insP_len y (sortR l); simp; omega

/-- strictly rising -/
def Up (l : List Int) : Prop := l.Pairwise (· < ·)
theorem insR_up (x : Int) (l : List Int) (h : Up l) :
    Up (insR x l).1 ∧ (∀ z, z ∈ (insR x l).1 ↔ z ∈ l ∨ ((insR x l).2 = true ∧ z = x)) ∧ ((insR x l).2 = true ↔ ∃ z ∈ l, x ≤ z) ∧ ((insR x l).2 = true → x ∈ (insR x l).1) := by
  induction l using snoc_ind with
  | h0 => simp [insR, Up]
  | h1 l y ih =>
    have hl : Up l := (List.pairwise_append.1 h).1
    have hy : ∀ z ∈ l, z < y := fun z hz => (List.pairwise_append.1 h).2.2 z hz y (by simp)
    obtain ⟨i1, i2, i3, i4⟩ := ih hl
    rw [insR_snoc]
    generalize insR x l = st at *
    obtain ⟨n, b⟩ := st
    simp only at i1 i2 i3 i4
    cases b with
    | true =>
      obtain ⟨z, hz, hxz⟩ := i3.1 rfl
      have hxy : x < y := by have := hy z hz; omega
      have hne : y ≠ x := by omega
      simp only [insS, Bool.true_or, Bool.true_eq_false, false_and, if_false, List.append_nil, if_pos hne]
      refine ⟨List.pairwise_append.2 ⟨i1, by simp, ?_⟩, ?_, ?_, ?_⟩
      · intro a ha c hc
        rw [List.mem_singleton] at hc; subst hc
        rcases (i2 a).1 ha with h | ⟨_, rfl⟩
        · exact hy a h
        · exact hxy
      · intro a; simp only [List.mem_append, List.mem_singleton, i2]; constructor
        · rintro ((h | h) | h)
          · exact .inl (.inl h)
          · exact .inr h
          · exact .inl (.inr h)
        · rintro ((h | h) | h)
          · exact .inl (.inl h)
          · exact .inr h
          · exact .inl (.inr h)
      · exact ⟨fun _ => ⟨z, by simp [hz], hxz⟩, fun _ => trivial⟩
      · intro _; simp [i4 rfl]
    | false =>
      have hlow : ∀ z ∈ l, z < x := fun z hz => by
        rcases Int.lt_or_le z x with h | h
        · exact h
        · exact absurd (i3.2 ⟨z, hz, h⟩) (by simp)
      have hn : ∀ z, z ∈ n ↔ z ∈ l := fun z => by rw [i2]; simp
      by_cases hxy : x ≤ y
      · by_cases hne : y = x
        · subst hne
          simp only [insS, Int.le_refl, and_self, if_true, ne_eq, not_true, if_false, List.append_nil, decide_true, Bool.or_true]
          refine ⟨List.pairwise_append.2 ⟨i1, by simp, ?_⟩, ?_, ?_, ?_⟩
          · intro a ha c hc
            rw [List.mem_singleton] at hc; subst hc
            exact hy a ((hn a).1 ha)
          · intro a; simp only [List.mem_append, List.mem_singleton, hn]; constructor
            · rintro (h | h)
              · exact .inl (.inl h)
              · exact .inl (.inr h)
            · rintro (h | ⟨_, h⟩)
              · exact h
              · exact .inr h
          · exact ⟨fun _ => ⟨y, by simp, Int.le_refl _⟩, fun _ => trivial⟩
          · intro _; simp
        · simp only [insS, hxy, and_self, if_true, ne_eq, hne, not_false_eq_true, decide_true, Bool.or_true]
          refine ⟨?_, ?_, ?_, ?_⟩
          · unfold Up
            rw [List.append_assoc]
            refine List.pairwise_append.2 ⟨i1, by simp; omega, ?_⟩
            intro a ha c hc
            have hal := (hn a).1 ha
            have h1 := hlow a hal
            have h2 := hy a hal
            simp at hc
            rcases hc with rfl | rfl
            · exact h1
            · exact h2
          · intro a; simp only [List.mem_append, List.mem_singleton, hn]; constructor
            · rintro ((h | h) | h)
              · exact .inl (.inl h)
              · exact .inr ⟨by simp, h⟩
              · exact .inl (.inr h)
            · rintro ((h | h) | ⟨_, h⟩)
              · exact .inl (.inl h)
              · exact .inr h
              · exact .inl (.inr h)
          · exact ⟨fun _ => ⟨y, by simp, hxy⟩, fun _ => trivial⟩
          · intro _; simp
      · have hne : y ≠ x := by omega
        have hd : decide (x ≤ y) = false := decide_eq_false hxy
        simp only [insS, hxy, and_false, if_false, List.append_nil, if_pos hne, hd, Bool.or_false]
        refine ⟨List.pairwise_append.2 ⟨i1, by simp, ?_⟩, ?_, ?_, ?_⟩
        · intro a ha c hc
          rw [List.mem_singleton] at hc; subst hc
          exact hy a ((hn a).1 ha)
        · intro a; simp only [List.mem_append, List.mem_singleton, hn]; simp
        · constructor
          · intro h; cases h
          · rintro ⟨z, hz, hxz⟩
            rcases List.mem_append.1 hz with h | h
            · have := hlow z h; omega
            · rw [List.mem_singleton] at h; subst h; exact absurd hxz hxy
        · intro h; cases h
theorem insP_up (x : Int) (l : List Int) (h : Up l) : Up (insP x l) ∧ ∀ z, z ∈ insP x l ↔ z ∈ l ∨ z = x := by
  obtain ⟨i1, i2, i3, i4⟩ := insR_up x l h
  unfold insP
  split
  · rename_i hb
    refine ⟨i1, fun z => ?_⟩
    rw [i2]; simp [hb]
  · rename_i hb
    have hlow : ∀ z ∈ l, z < x := fun z hz => by
      rcases Int.lt_or_le z x with h | h
      · exact h
      · exact absurd (i3.2 ⟨z, hz, h⟩) hb
    have hn : ∀ z, z ∈ (insR x l).1 ↔ z ∈ l := fun z => by rw [i2]; simp [hb]
    refine ⟨List.pairwise_append.2 ⟨i1, by simp, ?_⟩, fun z => ?_⟩
    · intro a ha c hc
      rw [List.mem_singleton] at hc; subst hc
      exact hlow a ((hn a).1 ha)
    · simp [hn]
theorem sortR_up (l : List Int) : Up (sortR l) ∧ ∀ z, z ∈ sortR l ↔ z ∈ l := by
  induction l using snoc_ind with
  | h0 => simp [sortR, Up]
  | h1 l x ih =>
    obtain ⟨h1, h2⟩ := insP_up x _ ih.1
    rw [sortR_snoc]
    exact ⟨h1, fun z => by rw [h2, ih.2]; simp⟩
theorem up_ext : ∀ (a b : List Int), Up a → Up b → (∀ z, z ∈ a ↔ z ∈ b) → a = b
  | [], [], _, _, _ => rfl
  | [], y :: b, _, _, h => by have := (h y).2 (by simp); simp at this
  | x :: a, [], _, _, h => by have := (h x).1 (by simp); simp at this
  | x :: a, y :: b, ha, hb, h => by
    have ha' := List.pairwise_cons.1 ha
    have hb' := List.pairwise_cons.1 hb
    have hxy : x = y := by
      rcases List.mem_cons.1 ((h x).1 (by simp)) with h1 | h1
      · exact h1
      · rcases List.mem_cons.1 ((h y).2 (by simp)) with h2 | h2
        · exact h2.symm
        · have := hb'.1 x h1; have := ha'.1 y h2; omega
    subst hxy
    rw [up_ext a b ha'.2 hb'.2 (fun z => ?_)]
    constructor
    · intro hz
      rcases List.mem_cons.1 ((h z).1 (by simp [hz])) with h1 | h1
      · subst h1; have := ha'.1 z hz; omega
      · exact h1
    · intro hz
      rcases List.mem_cons.1 ((h z).2 (by simp [hz])) with h1 | h1
      · subst h1; have := hb'.1 z hz; omega
      · exact h1

/-- the library's way -/
theorem compact_up (d : Array Int) (hs : ∀ i j, i < j → j < d.size → d[i]! ≤ d[j]!) (m : Nat) (hm : m ≤ d.size) :
    Up (Lib.compactUpTo d m) ∧ (∀ z, z ∈ Lib.compactUpTo d m ↔ ∃ i, i < m ∧ d[i]! = z) := by
  induction m with
  | zero => simp [Lib.compactUpTo, Up]
  | succ m ih =>
    obtain ⟨h1, h2⟩ := ih (by omega)
    rw [Lib.compactUpTo_succ]
    by_cases hk : Lib.keeps d m = true
    · rw [if_pos hk]
      refine ⟨List.pairwise_append.2 ⟨h1, by simp, ?_⟩, fun z => ?_⟩
      · intro a ha c hc
        rw [List.mem_singleton] at hc; subst hc
        obtain ⟨i, hi, rfl⟩ := (h2 a).1 ha
        simp only [Lib.keeps, decide_eq_true_eq] at hk
        have h3 := hs (m - 1) m (by omega) (by omega)
        have h4 : d[i]! ≤ d[m - 1]! := by
          rcases Nat.lt_or_ge i (m - 1) with h | h
          · exact hs i (m - 1) h (by omega)
          · rw [show i = m - 1 by omega]; exact Int.le_refl _
        rcases hk with h | h
        · omega
        · have : d[m]! ≠ d[m - 1]! := h
          omega
      · simp only [List.mem_append, List.mem_singleton, h2]
        constructor
        · rintro (⟨i, hi, rfl⟩ | rfl)
          · exact ⟨i, by omega, rfl⟩
          · exact ⟨m, by omega, rfl⟩
        · rintro ⟨i, hi, rfl⟩
          rcases Nat.lt_or_ge i m with h | h
          · exact .inl ⟨i, h, rfl⟩
          · exact .inr (by rw [show i = m by omega])
    · rw [if_neg hk, List.append_nil]
      refine ⟨h1, fun z => ?_⟩
      rw [h2]
      simp only [Lib.keeps, decide_eq_true_eq, not_or, ne_eq, Decidable.not_not] at hk
      constructor
      · rintro ⟨i, hi, rfl⟩; exact ⟨i, by omega, rfl⟩
      · rintro ⟨i, hi, rfl⟩
        rcases Nat.lt_or_ge i m with h | h
        · exact ⟨i, h, rfl⟩
        · exact ⟨m - 1, by omega, by rw [← hk.2, show i = m by omega]⟩
def sortL (l : List Int) : List Int := Lib.compact (l.mergeSort fun x y => decide (x ≤ y))
theorem sortL_eq (l : List Int) : sortL l = sortR l := by
  have hp : (l.mergeSort fun x y => decide (x ≤ y)).Pairwise (fun a b => decide (a ≤ b) = true) := List.pairwise_mergeSort (le := fun x y => decide (x ≤ y)) (fun a b c h1 h2 => by simp at *; omega) (fun a b => by simp; omega) l
  have hm : ∀ z, z ∈ (l.mergeSort fun x y => decide (x ≤ y)) ↔ z ∈ l := fun z => List.mem_mergeSort
  unfold sortL Lib.compact
  generalize (l.mergeSort fun x y => decide (x ≤ y)) = s at *
  have hs : ∀ i j, i < j → j < s.toArray.size → s.toArray[i]! ≤ s.toArray[j]! := by
    intro i j hij hj
    have hj' : j < s.length := by simpa using hj
    have h1 := List.pairwise_iff_getElem.1 hp i j (by omega) hj' hij
    rw [getElem!_pos _ i (by simp; omega), getElem!_pos _ j hj]
    simpa using h1
  obtain ⟨h1, h2⟩ := compact_up s.toArray hs s.length (by simp)
  refine up_ext _ _ h1 (sortR_up l).1 (fun z => ?_)
  rw [h2, (sortR_up l).2, ← hm]
  constructor
  · rintro ⟨i, hi, rfl⟩
    rw [getElem!_pos _ i (by simpa using hi)]
    simp
  · intro hz
    obtain ⟨i, hi, rfl⟩ := List.getElem_of_mem hz
    exact ⟨i, hi, by rw [getElem!_pos _ i (by simpa using hi)]; simp⟩

/-- where a search ends in a strictly rising list -/
theorem search_up (s : List Int) (n : Int) (h : Up s) (r : Nat) (hr : r ≤ s.length) (hlo : ∀ (h0 : 0 < r), s[r - 1]'(by omega) < n) (hhi : ∀ (h1 : r < s.length), n ≤ s[r]) :
    s.countP (fun x => decide (x < n)) = r ∧ (decide (r < s.length) && (s[r]? == some n)) = decide (n ∈ s) := by
  have hp := List.pairwise_iff_getElem.1 h
  have hlow : ∀ i (hi : i < r), s[i]'(by omega) < n := fun i hi => by
    have h1 := hlo (by omega)
    rcases Nat.lt_or_ge i (r - 1) with h2 | h2
    · have := hp i (r - 1) (by omega) (by omega) h2; omega
    · have e : i = r - 1 := by omega
      subst e; exact h1
  have hhigh : ∀ i (hi : r ≤ i) (hi2 : i < s.length), n ≤ s[i] := fun i hi hi2 => by
    have h1 := hhi (by omega)
    rcases Nat.lt_or_ge r i with h2 | h2
    · have := hp r i (by omega) hi2 h2; omega
    · have e : i = r := by omega
      subst e; exact h1
  constructor
  · rw [← List.take_append_drop r s, List.countP_append]
    have e1 : (s.take r).countP (fun x => decide (x < n)) = (s.take r).length := List.countP_eq_length.2 (fun a ha => by
      obtain ⟨i, hi, rfl⟩ := List.getElem_of_mem ha
      rw [List.length_take] at hi
      rw [List.getElem_take]
      exact decide_eq_true (hlow i (by omega)))
    have e2 : (s.drop r).countP (fun x => decide (x < n)) = 0 := List.countP_eq_zero.2 (fun a ha => by
      obtain ⟨i, hi, rfl⟩ := List.getElem_of_mem ha
      rw [List.length_drop] at hi
      rw [List.getElem_drop]
      have := hhigh (r + i) (by omega) (by omega)
      simp; omega)
    rw [e1, e2, List.length_take]; omega
  · by_cases hm : n ∈ s
    · obtain ⟨i, hi, he⟩ := List.getElem_of_mem hm
      have h1 : ¬ i < r := fun h => by have := hlow i h; omega
      have h2 := hhi (by omega)
      have h3 : i = r := by
        rcases Nat.lt_or_ge r i with h4 | h4
        · have := hp r i (by omega) hi h4; omega
        · omega
      subst h3
      simp [hm, hi, he]
    · have : ¬ (r < s.length ∧ s[r]? = some n) := fun ⟨h1, h2⟩ => hm (List.mem_of_getElem? h2)
      simp only [hm, decide_false]
      rw [Bool.eq_false_iff]
      intro hc
      simp only [Bool.and_eq_true, decide_eq_true_eq, beq_iff_eq] at hc
      exact this hc
end
section
open Go.RowKit

theorem i64InfoZ : (Try.prog.info? 2).map (fun i => (i.zero, i.size, i.bytes)) = some (some (.int .i64 0), 1, 8) := by kernel_rfl
theorem one_oneZ (n : Int) : ∀ u ∈ [Value.int .i64 n], u.oneCell' = true := by intro u hu; simp at hu; subst hu; rfl
theorem cells_at_newZ (w : World) (t : TypeId) (a : Value) : ∀ (j : Nat) (u : Value), [a][j]? = some u → (w.alloc (.cells #[a] t)).cell? ((⟨w.heap.size, 0, none⟩ : Addr).add j) = some u := fun j u h => cells_new w [a] t j u h
theorem insS_tf (x y : Int) (n : List Int) (h : y = x) : insS x (n, true) y = (n, true) := by simp [insS, h]
theorem insS_tn (x y : Int) (n : List Int) (h : y ≠ x) : insS x (n, true) y = (n ++ [y], true) := by simp [insS, h]
theorem insS_fy (x y : Int) (n : List Int) (h1 : x ≤ y) (h : y = x) : insS x (n, false) y = (n ++ [x], true) := by simp [insS, h]
theorem insS_fyn (x y : Int) (n : List Int) (h1 : x ≤ y) (h : y ≠ x) : insS x (n, false) y = ((n ++ [x]) ++ [y], true) := by simp [insS, h, h1]
theorem insS_fn (x y : Int) (n : List Int) (h1 : ¬ x ≤ y) : insS x (n, false) y = (n ++ [y], false) := by
  have : y ≠ x := by omega
  simp [insS, h1, this]

set_option maxRecDepth 100000 in
set_option maxHeartbeats 4000000 in
theorem refSorted_any (l : List Int) (v : Value) (w : World) (hl : l.length ≤ 1000) (h : LI w v l) :
    Calls Try.prog 17 #[v] w fun e w' => ∃ v', e = .returned v' ∧ LN w.heap.size w' v' (sortR l) ∧ Below w.heap.size w w' := by
  obtain ⟨i0, hi0, hz0, hz1, hz2⟩ := info_parts i64InfoZ
  have h0 := h
  obtain ⟨A, ca, rfl, hca, hr0⟩ := h0
  have H := hide h
  clear h hr0
  go_enter Try.func17, Try.ntmps17
  go_wp2_with fail
  go_loopw [3, 4] (fun ov iv wr => ∃ (k : Nat) (out : List Int), out = sortR (l.take k) ∧ k ≤ l.length ∧ iv = .int .i64 (k : Int) ∧ out.length ≤ k ∧ wr.ownsRow w.heap.size 2 1 ov out.length (out.map (Value.int .i64)) ∧ Below w.heap.size w wr)
    (fun ov iv wr => l.length - (intOf iv).toNat)
  case atStart => exact ⟨0, [], by simp [sortR], Nat.zero_le _, rfl, Nat.le_refl _, World.ownsRow_nil _ _ _ _, Below.refl _ _⟩
  case round =>
    obtain ⟨k, out, hout, hk, rfl, holen, hown, hbl⟩ := hrel
    obtain ⟨O, co, rfl, hco⟩ := own_form hown
    by_cases hlt : k < l.length
    · obtain ⟨b1, o1, rfl, _, hcell⟩ := (H.out.below hbl).at_ hlt
      have hlow : b1 < wr.heap.size := by
        obtain ⟨b2, o2, e, hb2, _⟩ := (H.out.below hbl).at_ hlt
        cases e; exact hb2
      have hi : (k : Int) < (l.length : Int) := by omega
      have hst := sortR_take l k hlt
      rw [← hout] at hst
      have Hst := hide hst
      have LO := hide (LI.of_own hown rfl)
      clear hst hout
      generalize l[k] = x at *
      have Hown := hide hown
      clear hown
      go_wp2_with fail
      have hBs : w.heap.size ≤ wr.heap.size := hbl.size
      have hlenX : Hid (∀ m, (insR x (out.take m)).1.length ≤ m + 1) := hide (fun m => by have := insR_len x (out.take m); have h2 := List.length_take_le m out; split at this <;> omega)
      obtain ⟨W1, hW1⟩ : ∃ W, W = wr := ⟨wr, rfl⟩
      subst hW1
      generalize hB : W1.heap.size = B at *
      go_loopw [5, 6, 7] (fun nv bv jv wr => ∃ (m : Nat) (nx : List Int) (fl : Bool), insR x (out.take m) = (nx, fl) ∧ m ≤ out.length ∧ jv = .int .i64 (m : Int) ∧ bv = .bool fl ∧ nx.length ≤ m + 1 ∧ wr.ownsRow B 2 1 nv nx.length (nx.map (Value.int .i64)) ∧ Below B W1 wr)
        (fun nv bv jv wr => out.length - (intOf jv).toNat)
      case atStart => exact ⟨0, [], false, rfl, Nat.zero_le _, rfl, rfl, Nat.zero_le _, World.ownsRow_nil _ _ _ _, by rw [← hB]; exact Below.refl _ _⟩
      case round =>
        obtain ⟨m, nx, fl, hir, hm, rfl, rfl, hnl, hownn, hbli⟩ := hrel
        have hsz0 : B ≤ wr.heap.size := by have := hbli.size; rw [hB] at this; exact this
        have hcx0 : wr.cell? ⟨b1, o1 + k, none⟩ = some (.int .i64 x) := (hbli.cell (by omega)).trans hcell
        have Hownn := hide hownn
        clear hownn
        by_cases hmlt : m < out.length
        · obtain ⟨b2, o2, rfl, hb2l, hcell2⟩ := LO.out.at_ hmlt
          rw [hB] at hb2l
          have hmi : (m : Int) < (out.length : Int) := by omega
          have ht := insR_take x out m hmlt
          rw [hir] at ht
          generalize out[m] = y at *
          have hcy0 : wr.cell? ⟨b2, o2 + m, none⟩ = some (.int .i64 y) := (hbli.cell (by omega)).trans hcell2
          have hlx := hlenX.out (m + 1)
          rw [ht] at hlx
          clear hir
          by_cases hyx : y = x
          · have h1 : (y != x) = false := by simp [hyx]
            cases fl with
            | true =>
              rw [insS_tf x y nx hyx] at ht hlx
              clear hyx
              have Ht := hide ht
              have hlx2 := hide hlx
              clear ht hlx
              go_wp2_with fail
              go_quiet (fail)
              have Hownq1 := hide (own_below' Hownn.out (below_drewN (Below.refl _ _) nq))
              have hblq1 := below_drewN hbli nq
              generalize wr.drewN nq = W2 at *
              have hsz1 : B ≤ W2.heap.size := by have := hblq1.size; rw [hB] at this; exact this
              have hcx1 : W2.cell? ⟨b1, o1 + k, none⟩ = some (.int .i64 x) := (hblq1.cell (by omega)).trans hcell
              have hcy1 : W2.cell? ⟨b2, o2 + m, none⟩ = some (.int .i64 y) := (hblq1.cell (by omega)).trans hcell2
              go_wp2_with fail
              go_quiet (fail)
              have Hownq2 := hide (own_below' Hownq1.out (below_drewN (Below.refl _ _) nq))
              have hblq2 := below_drewN hblq1 nq
              generalize W2.drewN nq = W3 at *
              have hsz2 : B ≤ W3.heap.size := by have := hblq2.size; rw [hB] at this; exact this
              have hcx2 : W3.cell? ⟨b1, o1 + k, none⟩ = some (.int .i64 x) := (hblq2.cell (by omega)).trans hcell
              have hcy2 : W3.cell? ⟨b2, o2 + m, none⟩ = some (.int .i64 y) := (hblq2.cell (by omega)).trans hcell2
              go_wp2_with fail
              go_roundw
              case rel => exact ⟨m + 1, _, _, Ht.out, by omega, by go_num, rfl, hlx2.out, Hownq2.out, hblq2⟩
              case measure => simp [intOf]; omega
            | false =>
              have h2 : decide (x ≤ y) = true := decide_eq_true (by omega)
              rw [insS_fy x y nx (by omega) hyx] at ht hlx
              clear hyx
              have Ht := hide ht
              have hlx2 := hide hlx
              clear ht hlx
              go_wp2_with fail
              go_quiet (fail)
              have Hownq1 := hide (own_below' Hownn.out (below_drewN (Below.refl _ _) nq))
              have hblq1 := below_drewN hbli nq
              generalize wr.drewN nq = W2 at *
              have hsz1 : B ≤ W2.heap.size := by have := hblq1.size; rw [hB] at this; exact this
              have hcx1 : W2.cell? ⟨b1, o1 + k, none⟩ = some (.int .i64 x) := (hblq1.cell (by omega)).trans hcell
              have hcy1 : W2.cell? ⟨b2, o2 + m, none⟩ = some (.int .i64 y) := (hblq1.cell (by omega)).trans hcell2
              go_wp2_with (at_builtin; refine wpList_append_own _ rfl _ _ 23 rfl B 2 i0 (.int .i64 0) 1 8 Try.underlying23 hi0 hz0 hz1 hz2 rfl (by decide) _ _ _ rfl (Hownq1.out.alloc _) ⟨W2.heap.size, 0, none⟩ 1 1 [.int .i64 x] rfl rfl (cells_at_newZ _ _ _) (one_oneZ _) (by unfold maxLen; first | omega | (simp; omega)) (by first | omega | (simp; omega)) (by simp; omega) ?_; intro v2 w2 hown2 hg2 _)
              have hbl2 : Below B W1 w2 := (hblq1.alloc hsz1 _).grown hg2 (by simp; omega) (fun j hj => (World.ownsRow.lt Hownq1.out j hj).1)
              have hcx2 : w2.cell? ⟨b1, o1 + k, none⟩ = some (.int .i64 x) := (hbl2.cell (by omega)).trans hcell
              have hcy2 : w2.cell? ⟨b2, o2 + m, none⟩ = some (.int .i64 y) := (hbl2.cell (by omega)).trans hcell2
              have hsz2 : B ≤ w2.heap.size := (by have := hbl2.size; rw [hB] at this; exact this)
              rw [show (nx).map (Value.int .i64) ++ [Value.int .i64 x] = (nx ++ [x]).map (Value.int .i64) by simp, show (nx).length + 1 = (nx ++ [x]).length by simp] at hown2
              have Hown2 := hide hown2
              clear hown2 hg2
              go_quiet (fail)
              have Hownq3 := hide (own_below' Hown2.out (below_drewN (Below.refl _ _) nq))
              have hblq3 := below_drewN hbl2 nq
              generalize w2.drewN nq = W4 at *
              have hsz3 : B ≤ W4.heap.size := by have := hblq3.size; rw [hB] at this; exact this
              have hcx3 : W4.cell? ⟨b1, o1 + k, none⟩ = some (.int .i64 x) := (hblq3.cell (by omega)).trans hcell
              have hcy3 : W4.cell? ⟨b2, o2 + m, none⟩ = some (.int .i64 y) := (hblq3.cell (by omega)).trans hcell2
              go_wp2_with fail
              go_roundw
              case rel => exact ⟨m + 1, _, _, Ht.out, by omega, by go_num, rfl, hlx2.out, Hownq3.out, hblq3⟩
              case measure => simp [intOf]; omega
          · have h1 : (y != x) = true := by simp [hyx]
            cases fl with
            | true =>
              rw [insS_tn x y nx hyx] at ht hlx
              clear hyx
              have Ht := hide ht
              have hlx2 := hide hlx
              clear ht hlx
              go_wp2_with fail
              go_quiet (fail)
              have Hownq1 := hide (own_below' Hownn.out (below_drewN (Below.refl _ _) nq))
              have hblq1 := below_drewN hbli nq
              generalize wr.drewN nq = W2 at *
              have hsz1 : B ≤ W2.heap.size := by have := hblq1.size; rw [hB] at this; exact this
              have hcx1 : W2.cell? ⟨b1, o1 + k, none⟩ = some (.int .i64 x) := (hblq1.cell (by omega)).trans hcell
              have hcy1 : W2.cell? ⟨b2, o2 + m, none⟩ = some (.int .i64 y) := (hblq1.cell (by omega)).trans hcell2
              go_wp2_with fail
              go_quiet (fail)
              have Hownq2 := hide (own_below' Hownq1.out (below_drewN (Below.refl _ _) nq))
              have hblq2 := below_drewN hblq1 nq
              generalize W2.drewN nq = W3 at *
              have hsz2 : B ≤ W3.heap.size := by have := hblq2.size; rw [hB] at this; exact this
              have hcx2 : W3.cell? ⟨b1, o1 + k, none⟩ = some (.int .i64 x) := (hblq2.cell (by omega)).trans hcell
              have hcy2 : W3.cell? ⟨b2, o2 + m, none⟩ = some (.int .i64 y) := (hblq2.cell (by omega)).trans hcell2
              go_wp2_with (at_builtin; refine wpList_append_own _ rfl _ _ 23 rfl B 2 i0 (.int .i64 0) 1 8 Try.underlying23 hi0 hz0 hz1 hz2 rfl (by decide) _ _ _ rfl (Hownq2.out.alloc _) ⟨W3.heap.size, 0, none⟩ 1 1 [.int .i64 y] rfl rfl (cells_at_newZ _ _ _) (one_oneZ _) (by unfold maxLen; first | omega | (simp; omega)) (by first | omega | (simp; omega)) (by simp; omega) ?_; intro v3 w3 hown3 hg3 _)
              have hbl3 : Below B W1 w3 := (hblq2.alloc hsz2 _).grown hg3 (by simp; omega) (fun j hj => (World.ownsRow.lt Hownq2.out j hj).1)
              have hcx3 : w3.cell? ⟨b1, o1 + k, none⟩ = some (.int .i64 x) := (hbl3.cell (by omega)).trans hcell
              have hcy3 : w3.cell? ⟨b2, o2 + m, none⟩ = some (.int .i64 y) := (hbl3.cell (by omega)).trans hcell2
              have hsz3 : B ≤ w3.heap.size := (by have := hbl3.size; rw [hB] at this; exact this)
              rw [show (nx).map (Value.int .i64) ++ [Value.int .i64 y] = (nx ++ [y]).map (Value.int .i64) by simp, show (nx).length + 1 = (nx ++ [y]).length by simp] at hown3
              have Hown3 := hide hown3
              clear hown3 hg3
              go_roundw
              case rel => exact ⟨m + 1, _, _, Ht.out, by omega, by go_num, rfl, hlx2.out, Hown3.out, hbl3⟩
              case measure => simp [intOf]; omega
            | false =>
              by_cases hxy : x ≤ y
              · have h2 : decide (x ≤ y) = true := decide_eq_true hxy
                rw [insS_fyn x y nx hxy hyx] at ht hlx
                clear hyx hxy
                have Ht := hide ht
                have hlx2 := hide hlx
                clear ht hlx
                go_wp2_with fail
                go_quiet (fail)
                have Hownq1 := hide (own_below' Hownn.out (below_drewN (Below.refl _ _) nq))
                have hblq1 := below_drewN hbli nq
                generalize wr.drewN nq = W2 at *
                have hsz1 : B ≤ W2.heap.size := by have := hblq1.size; rw [hB] at this; exact this
                have hcx1 : W2.cell? ⟨b1, o1 + k, none⟩ = some (.int .i64 x) := (hblq1.cell (by omega)).trans hcell
                have hcy1 : W2.cell? ⟨b2, o2 + m, none⟩ = some (.int .i64 y) := (hblq1.cell (by omega)).trans hcell2
                go_wp2_with (at_builtin; refine wpList_append_own _ rfl _ _ 23 rfl B 2 i0 (.int .i64 0) 1 8 Try.underlying23 hi0 hz0 hz1 hz2 rfl (by decide) _ _ _ rfl (Hownq1.out.alloc _) ⟨W2.heap.size, 0, none⟩ 1 1 [.int .i64 x] rfl rfl (cells_at_newZ _ _ _) (one_oneZ _) (by unfold maxLen; first | omega | (simp; omega)) (by first | omega | (simp; omega)) (by simp; omega) ?_; intro v2 w2 hown2 hg2 _)
                have hbl2 : Below B W1 w2 := (hblq1.alloc hsz1 _).grown hg2 (by simp; omega) (fun j hj => (World.ownsRow.lt Hownq1.out j hj).1)
                have hcx2 : w2.cell? ⟨b1, o1 + k, none⟩ = some (.int .i64 x) := (hbl2.cell (by omega)).trans hcell
                have hcy2 : w2.cell? ⟨b2, o2 + m, none⟩ = some (.int .i64 y) := (hbl2.cell (by omega)).trans hcell2
                have hsz2 : B ≤ w2.heap.size := (by have := hbl2.size; rw [hB] at this; exact this)
                rw [show (nx).map (Value.int .i64) ++ [Value.int .i64 x] = (nx ++ [x]).map (Value.int .i64) by simp, show (nx).length + 1 = (nx ++ [x]).length by simp] at hown2
                have Hown2 := hide hown2
                clear hown2 hg2
                go_quiet (fail)
                have Hownq3 := hide (own_below' Hown2.out (below_drewN (Below.refl _ _) nq))
                have hblq3 := below_drewN hbl2 nq
                generalize w2.drewN nq = W4 at *
                have hsz3 : B ≤ W4.heap.size := by have := hblq3.size; rw [hB] at this; exact this
                have hcx3 : W4.cell? ⟨b1, o1 + k, none⟩ = some (.int .i64 x) := (hblq3.cell (by omega)).trans hcell
                have hcy3 : W4.cell? ⟨b2, o2 + m, none⟩ = some (.int .i64 y) := (hblq3.cell (by omega)).trans hcell2
                go_wp2_with (at_builtin; refine wpList_append_own _ rfl _ _ 23 rfl B 2 i0 (.int .i64 0) 1 8 Try.underlying23 hi0 hz0 hz1 hz2 rfl (by decide) _ _ _ rfl (Hownq3.out.alloc _) ⟨W4.heap.size, 0, none⟩ 1 1 [.int .i64 y] rfl rfl (cells_at_newZ _ _ _) (one_oneZ _) (by unfold maxLen; first | omega | (simp; omega)) (by first | omega | (simp; omega)) (by simp; omega) ?_; intro v4 w4 hown4 hg4 _)
                have hbl4 : Below B W1 w4 := (hblq3.alloc hsz3 _).grown hg4 (by simp; omega) (fun j hj => (World.ownsRow.lt Hownq3.out j hj).1)
                have hcx4 : w4.cell? ⟨b1, o1 + k, none⟩ = some (.int .i64 x) := (hbl4.cell (by omega)).trans hcell
                have hcy4 : w4.cell? ⟨b2, o2 + m, none⟩ = some (.int .i64 y) := (hbl4.cell (by omega)).trans hcell2
                have hsz4 : B ≤ w4.heap.size := (by have := hbl4.size; rw [hB] at this; exact this)
                rw [show (nx ++ [x]).map (Value.int .i64) ++ [Value.int .i64 y] = (nx ++ [x] ++ [y]).map (Value.int .i64) by simp, show (nx ++ [x]).length + 1 = (nx ++ [x] ++ [y]).length by simp] at hown4
                have Hown4 := hide hown4
                clear hown4 hg4
                go_roundw
                case rel => exact ⟨m + 1, _, _, Ht.out, by omega, by go_num, rfl, hlx2.out, Hown4.out, hbl4⟩
                case measure => simp [intOf]; omega
              · have h2 : decide (x ≤ y) = false := decide_eq_false hxy
                rw [insS_fn x y nx hxy] at ht hlx
                clear hyx hxy
                have Ht := hide ht
                have hlx2 := hide hlx
                clear ht hlx
                go_wp2_with fail
                go_quiet (fail)
                have Hownq1 := hide (own_below' Hownn.out (below_drewN (Below.refl _ _) nq))
                have hblq1 := below_drewN hbli nq
                generalize wr.drewN nq = W2 at *
                have hsz1 : B ≤ W2.heap.size := by have := hblq1.size; rw [hB] at this; exact this
                have hcx1 : W2.cell? ⟨b1, o1 + k, none⟩ = some (.int .i64 x) := (hblq1.cell (by omega)).trans hcell
                have hcy1 : W2.cell? ⟨b2, o2 + m, none⟩ = some (.int .i64 y) := (hblq1.cell (by omega)).trans hcell2
                go_wp2_with fail
                go_quiet (fail)
                have Hownq2 := hide (own_below' Hownq1.out (below_drewN (Below.refl _ _) nq))
                have hblq2 := below_drewN hblq1 nq
                generalize W2.drewN nq = W3 at *
                have hsz2 : B ≤ W3.heap.size := by have := hblq2.size; rw [hB] at this; exact this
                have hcx2 : W3.cell? ⟨b1, o1 + k, none⟩ = some (.int .i64 x) := (hblq2.cell (by omega)).trans hcell
                have hcy2 : W3.cell? ⟨b2, o2 + m, none⟩ = some (.int .i64 y) := (hblq2.cell (by omega)).trans hcell2
                go_wp2_with (at_builtin; refine wpList_append_own _ rfl _ _ 23 rfl B 2 i0 (.int .i64 0) 1 8 Try.underlying23 hi0 hz0 hz1 hz2 rfl (by decide) _ _ _ rfl (Hownq2.out.alloc _) ⟨W3.heap.size, 0, none⟩ 1 1 [.int .i64 y] rfl rfl (cells_at_newZ _ _ _) (one_oneZ _) (by unfold maxLen; first | omega | (simp; omega)) (by first | omega | (simp; omega)) (by simp; omega) ?_; intro v3 w3 hown3 hg3 _)
                have hbl3 : Below B W1 w3 := (hblq2.alloc hsz2 _).grown hg3 (by simp; omega) (fun j hj => (World.ownsRow.lt Hownq2.out j hj).1)
                have hcx3 : w3.cell? ⟨b1, o1 + k, none⟩ = some (.int .i64 x) := (hbl3.cell (by omega)).trans hcell
                have hcy3 : w3.cell? ⟨b2, o2 + m, none⟩ = some (.int .i64 y) := (hbl3.cell (by omega)).trans hcell2
                have hsz3 : B ≤ w3.heap.size := (by have := hbl3.size; rw [hB] at this; exact this)
                rw [show (nx).map (Value.int .i64) ++ [Value.int .i64 y] = (nx ++ [y]).map (Value.int .i64) by simp, show (nx).length + 1 = (nx ++ [y]).length by simp] at hown3
                have Hown3 := hide hown3
                clear hown3 hg3
                go_roundw
                case rel => exact ⟨m + 1, _, _, Ht.out, by omega, by go_num, rfl, hlx2.out, Hown3.out, hbl3⟩
                case measure => simp [intOf]; omega
        · obtain rfl : m = out.length := by omega
          rw [List.take_length] at hir
          have hil := insP_len x out
          cases fl with
          | true =>
            have hP : insP x out = nx := by unfold insP; rw [hir]; rfl
            rw [hP] at Hst hil
            have hol2 := hide (show nx.length ≤ k + 1 by omega)
            clear hir hP hil
            go_wp2_with fail
            go_roundw
            case rel => exact ⟨k + 1, _, Hst.out.symm, by omega, by go_num, hol2.out, own_base Hownn.out hBs, (hbl.trans (hbli.mono hBs))⟩
            case measure => simp [intOf]; omega
          | false =>
            have hP : insP x out = nx ++ [x] := by unfold insP; rw [hir]; rfl
            rw [hP] at Hst hil
            have hol2 := hide (show (nx ++ [x]).length ≤ k + 1 by omega)
            clear hir hP hil
            go_wp2_with (at_builtin; refine wpList_append_own _ rfl _ _ 23 rfl B 2 i0 (.int .i64 0) 1 8 Try.underlying23 hi0 hz0 hz1 hz2 rfl (by decide) _ _ _ rfl (Hownn.out.alloc _) ⟨wr.heap.size, 0, none⟩ 1 1 [.int .i64 x] rfl rfl (cells_at_newZ _ _ _) (one_oneZ _) (by unfold maxLen; first | omega | (simp; omega)) (by first | omega | (simp; omega)) (by simp; omega) ?_; intro v1 w1 hown1 hg1 _)
            have hbl1 : Below B W1 w1 := (hbli.alloc hsz0 _).grown hg1 (by simp; omega) (fun j hj => (World.ownsRow.lt Hownn.out j hj).1)
            have hcx1 : w1.cell? ⟨b1, o1 + k, none⟩ = some (.int .i64 x) := (hbl1.cell (by omega)).trans hcell
            have hsz1 : B ≤ w1.heap.size := (by have := hbl1.size; rw [hB] at this; exact this)
            rw [show (nx).map (Value.int .i64) ++ [Value.int .i64 x] = (nx ++ [x]).map (Value.int .i64) by simp, show (nx).length + 1 = (nx ++ [x]).length by simp] at hown1
            have Hown1 := hide hown1
            clear hown1 hg1
            go_roundw
            case rel => exact ⟨k + 1, _, Hst.out.symm, by omega, by go_num, hol2.out, own_base Hown1.out hBs, (hbl.trans (hbl1.mono hBs))⟩
            case measure => simp [intOf]; omega
    · obtain rfl : k = l.length := by omega
      rw [List.take_length] at hout
      have Ho := hide hout
      have Hown := hide hown
      clear hown hout
      go_wp2_with fail
      go_ret
      rw [← Ho.out]
      exact ⟨_, rfl, LN.of_own Hown.out rfl, hbl⟩
end
section
open Go.RowKit Go.Sort

theorem i64Info : (Try.prog.info? 2).map (fun i => (i.zero, i.size, i.bytes)) = some (some (.int .i64 0), 1, 8) := by kernel_rfl

/-- the closure of Find: l and n in their boxes -/
theorem findC_any (ba bn b o c : Nat) (l : List Int) (n : Int) (i : Nat) (W : World) (hi : i < l.length)
    (ha : W.cell? ⟨ba, 0, none⟩ = some (.slice (some ⟨b, o, none⟩) l.length c)) (hn : W.cell? ⟨bn, 0, none⟩ = some (.int .i64 n)) (hc : W.cell? ⟨b, o + i, none⟩ = some (.int .i64 l[i])) :
    Calls Try.prog 80 (#[.int .i64 (i : Int)] ++ #[.pointer (some ⟨ba, 0, none⟩), .pointer (some ⟨bn, 0, none⟩)]) W fun e w' => e = .returned (.bool (decide (n ≤ l[i]))) ∧ ∃ q, w' = W.drewN q := by
  generalize l[i] = y at *
  have hiz : (i : Int) < (l.length : Int) := by omega
  go_enter Try.func80, Try.ntmps80
  go_wp2_with fail
  go_quiet (fail)
  go_wp2_with fail
  go_ret
  exact ⟨rfl, _, rfl⟩

/-- the library's Search with Find's closure -/
theorem search_any (g : FuncId) (cb : Array Value) (n : Nat) (p : Nat → Bool) (w : World) (eg : ∀ args w, (callFunc g args).run Try.prog w = .ok (.enter g args) w) (hsz : n < 4611686018427387904)
    (hf : ∀ (m : Nat) (i : Nat), i < n → Calls Try.prog g (#[.int .i64 i] ++ cb) (w.drewN m) fun e w' => e = .returned (.bool (p i)) ∧ ∃ q, w' = (w.drewN m).drewN q) :
    Calls Try.prog 79 #[.int .i64 n, .func (.func g) #[] cb] w fun e w' => ∃ r : Nat, e = .returned (.int .i64 (r : Int)) ∧ r ≤ n ∧ (0 < r → p (r - 1) = false) ∧ (r < n → p r = true) ∧ ∃ q, w' = w.drewN q := by
  have HF := hide hf
  clear hf
  go_enter Try.func79, Try.ntmps79
  go_wp2_with fail
  go_loopw [5, 6] (fun s5 s6 wr => ∃ (lo hi q : Nat), s5 = .int .i64 (lo : Int) ∧ s6 = .int .i64 (hi : Int) ∧ lo ≤ hi ∧ hi ≤ n ∧ Hid ((0 < lo → p (lo - 1) = false) ∧ (hi < n → p hi = true)) ∧ wr = w.drewN q) (fun s5 s6 wr => (intOf s6).toNat - (intOf s5).toNat)
  case atStart => exact ⟨0, n, 0, rfl, rfl, Nat.zero_le _, Nat.le_refl _, hide ⟨fun h => absurd h (Nat.lt_irrefl _), fun h => absurd h (Nat.lt_irrefl _)⟩, rfl⟩
  case round =>
    obtain ⟨lo, hi, q, rfl, rfl, hlh, hin, I, rfl⟩ := hrel
    by_cases hlt : lo < hi
    · have hc := HF.out q ((lo + hi) / 2) (by omega)
      rw [show (((lo + hi) / 2 : Nat) : Int) = ((lo : Int) + (hi : Int)) / 2 by omega] at hc
      cases hp : p ((lo + hi) / 2) <;> rw [hp] at hc
      · have HP := hide hp
        clear hp
        go_wp2_with (go_at_fn g; refine hc.mono ?_; rintro e w' ⟨rfl, nq, rfl⟩)
        go_roundw
        case rel => exact ⟨(lo + hi) / 2 + 1, hi, q + nq, by rw [show ((lo : Int) + (hi : Int)) / 2 + 1 = (((lo + hi) / 2 + 1 : Nat) : Int) by omega], rfl, by omega, hin, hide ⟨fun _ => by rw [Nat.add_sub_cancel]; exact HP.out, I.out.2⟩, rfl⟩
        case measure => simp [intOf]; omega
      · have HP := hide hp
        clear hp
        go_wp2_with (go_at_fn g; refine hc.mono ?_; rintro e w' ⟨rfl, nq, rfl⟩)
        go_roundw
        case rel => exact ⟨lo, (lo + hi) / 2, q + nq, rfl, by rw [show ((lo : Int) + (hi : Int)) / 2 = (((lo + hi) / 2 : Nat) : Int) by omega], by omega, by omega, hide ⟨I.out.1, fun _ => HP.out⟩, rfl⟩
        case measure => simp [intOf]; omega
    · obtain rfl : hi = lo := by omega
      go_wp2_with fail
      go_ret
      exact ⟨hi, rfl, hin, I.out.1, I.out.2, q, rfl⟩

/-- where Find ends -/
structure Fd (l : List Int) (n : Int) (r : Nat) : Prop where
  le : r ≤ l.length
  lo : ∀ (h0 : 0 < r) (h1 : r - 1 < l.length), l[r - 1] < n
  hi : ∀ (h1 : r < l.length), n ≤ l[r]
theorem cell_new' (W : World) (v : Value) (t : TypeId) : (W.alloc (.cells #[v] t)).cell? ⟨W.heap.size, 0, none⟩ = some v := by
  rw [World.cell?_alloc_at _ _ _ _ (by simp)]; rfl
set_option maxHeartbeats 2000000 in
theorem find_any (l : List Int) (n : Int) (v : Value) (w : World) (hl : l.length ≤ 1000000) (h : LI w v l) :
    Calls Try.prog 62 #[v, .int .i64 n] w fun e w' => (∃ r : Nat, e = .returned (.tuple #[.int .i64 (r : Int), .bool (decide (r < l.length) && (l[r]? == some n))]) ∧ Fd l n r) ∧ Below w.heap.size w w' := by
  have hcf : ∀ args w, (callFunc 80 args).run Try.prog w = .ok (.enter 80 args) w := by intro args w; simp [go_sem, Try.func80]
  have h0 := h
  obtain ⟨A, c, rfl, hc, hr⟩ := h0
  generalize hW : (w.alloc (.cells #[.slice A l.length c] 23)).alloc (.cells #[.int .i64 n] 2) = W
  have hWl : W.cell? ⟨w.heap.size, 0, none⟩ = some (.slice A l.length c) := by
    rw [← hW]
    exact (Below.cell ((Below.refl (w.heap.size + 1) (w.alloc (.cells #[.slice A l.length c] 23))).alloc (by simp) _) (by simp)).trans (cell_new' w _ _)
  have hWn : W.cell? ⟨w.heap.size + 1, 0, none⟩ = some (.int .i64 n) := by
    rw [← hW]
    have := cell_new' (w.alloc (.cells #[.slice A l.length c] 23)) (.int .i64 n) 2
    rwa [show (w.alloc (.cells #[.slice A l.length c] 23)).heap.size = w.heap.size + 1 by simp] at this
  have hbW : Below w.heap.size w W := by rw [← hW]; exact ((Below.refl _ _).alloc (Nat.le_refl _) _).alloc (by simp) _
  have hLW := LI.below h hbW
  have hse := search_any 80 #[.pointer (some ⟨w.heap.size, 0, none⟩), .pointer (some ⟨w.heap.size + 1, 0, none⟩)] l.length (fun i => decide (n ≤ l.getD i 0)) W hcf (by omega) (fun m i hi => by
    obtain ⟨b, o, rfl, hb, hcell⟩ := hLW.at_ hi
    have := findC_any w.heap.size (w.heap.size + 1) b o c l n i (W.drewN m) hi hWl hWn hcell
    rw [show l.getD i 0 = l[i] by simp [List.getD, hi]]
    exact this)
  have Hse := hide hse
  have HbW := hide hbW
  have HLW := hide hLW
  clear hse hbW hLW h hr
  go_enter Try.func62, Try.ntmps62
  go_wp2_with fail
  refine Hse.out.mono ?_
  rintro e w2 ⟨r, rfl, hrl, hlo, hhi, q, rfl⟩
  have hF : Fd l n r := ⟨hrl, fun h0 h1 => by
      have := hlo h0
      rw [show l.getD (r - 1) 0 = l[r - 1] by simp [List.getD, h1]] at this
      have := of_decide_eq_false this
      omega, fun h1 => by
      have := hhi h1
      rw [show l.getD r 0 = l[r] by simp [List.getD, h1]] at this
      exact of_decide_eq_true this⟩
  have HF := hide hF
  clear Hse hF hlo hhi hW
  have hb2 := hide (below_drewN' HbW.out q)
  by_cases hlt : r < l.length
  · obtain ⟨b, o, rfl, _, hcell⟩ := HLW.out.at_ hlt
    have hri : (r : Int) < (l.length : Int) := by omega
    have E := hide (show (decide (r < l.length) && (l[r]? == some n)) = (l[r] == n) by simp [hlt])
    generalize l[r] = y at *
    have hyn : ∃ B, B = (y == n) := ⟨_, rfl⟩
    obtain ⟨B, hB⟩ := hyn
    rw [← hB] at E
    have hB2 := hB.symm
    clear hB
    go_wp2_with fail
    go_quiet (fail)
    go_wp2_with fail
    go_ret2
    exact ⟨⟨r, by rw [E.out]; rfl, HF.out⟩, below_drewN' hb2.out _⟩
  · obtain rfl : r = l.length := by omega
    have E := hide (show (decide (l.length < l.length) && (l[l.length]? == some n)) = false by simp)
    go_wp2_with fail
    go_quiet (fail)
    go_wp2_with fail
    go_ret2
    exact ⟨⟨l.length, by rw [E.out]; rfl, HF.out⟩, below_drewN' hb2.out _⟩
end
section
open Go.RowKit Go.Sort

theorem compact_len (S : List Int) : (Lib.compact S).length ≤ S.length := by
  unfold Lib.compact Lib.compactUpTo
  rw [List.length_map]
  have := List.length_filter_le (Lib.keeps S.toArray) (List.range S.length)
  simpa using this

/-- the empty ways -/
theorem clone0_any (A : Option Addr) (c : Nat) (w : World) :
    Calls Try.prog 81 #[.slice A 0 c] w fun e w' => (∃ A' c', e = .returned (.slice A' 0 c') ∧ c' ≤ 9223372036854775807) ∧ Below w.heap.size w w' := by
  cases A with
  | none => exact (Try.slices_Clone_nil 0 c w).mono (by rintro e w' ⟨rfl, rfl⟩; exact ⟨⟨_, _, rfl, by decide⟩, Below.refl _ _⟩)
  | some a =>
    obtain ⟨i0, hi0, hz0, hz1, hz2⟩ := info_parts i64Info
    have q22 : ∀ (w : World) (a : Option Addr) (n c n' c' : Nat), (binOp .eql 23 (.slice a n c) (.slice none n' c')).run Try.prog w = .ok (.bool a.isNone) w := fun w a n c n' c' => Lib.run_eql_slice_nil w _ _ a n c n' c' Try.underlying23
    go_enter Try.func81, Try.ntmps81
    go_wp2_with fail
    go_ret
    exact ⟨⟨_, _, rfl, by decide⟩, (Below.refl _ _).alloc (Nat.le_refl _) _⟩
theorem ins0_any (A : Option Addr) (c : Nat) (w : World) :
    Calls Try.prog 93 #[.slice A 0 c, .int .i64 0, .int .i64 0] w fun e w' => e = .returned (.tuple #[]) ∧ Below w.heap.size w w' := by
  go_enter Try.func93, Try.ntmps93
  go_wp2_with fail
  go_loopw [6] (fun i wr => i = .int .i64 1 ∧ Below w.heap.size w wr) (fun i wr => 0)
  case atStart => exact ⟨rfl, Below.refl _ _⟩
  case round =>
    obtain ⟨rfl, hbl⟩ := hrel
    go_wp2_with fail
    go_end0
    exact ⟨rfl, hbl⟩
theorem pdq0_any (A : Option Addr) (c : Nat) (L : Int) (w : World) :
    Calls Try.prog 89 #[.slice A 0 c, .int .i64 0, .int .i64 0, .int .i64 L] w fun e w' => e = .returned (.tuple #[]) ∧ Below w.heap.size w w' := by
  go_enter Try.func89, Try.ntmps89
  go_wp2_with fail
  go_loopw [1, 2] (fun a b wr => a = .int .i64 0 ∧ b = .int .i64 0 ∧ Below w.heap.size w wr) (fun a b wr => 0)
  case atStart => exact ⟨rfl, rfl, Below.refl _ _⟩
  case round =>
    obtain ⟨rfl, rfl, hbl⟩ := hrel
    have h := ins0_any A c wr
    go_wp2_with fail
    refine h.mono ?_
    rintro e w2 ⟨rfl, hb2⟩
    go_wp2_with fail
    refine bodyPost_ret (results_none rfl _ _ _) rfl ?_
    exact ⟨rfl, hbl.trans (hb2.mono hbl.size)⟩
theorem sort0_any (A : Option Addr) (c : Nat) (w : World) :
    Calls Try.prog 82 #[.slice A 0 c] w fun e w' => e = .returned (.tuple #[]) ∧ Below w.heap.size w w' := by
  have h1 := Try.bits_Len 0 w (by decide) (by decide)
  generalize Lib.bitLen (0 : Int).toNat = L at *
  have h2 := pdq0_any A c L w
  go_enter Try.func82, Try.ntmps82
  go_wp2_with fail
  refine h1.mono ?_
  rintro e w2 ⟨rfl, rfl⟩
  go_wp2_with fail
  refine h2.mono ?_
  rintro e w3 ⟨rfl, hb⟩
  go_wp2_with fail
  go_end0
  exact ⟨rfl, hb⟩
theorem numSorted0_any (v : Value) (w : World) (h : LI w v []) :
    Calls Try.prog 63 #[v] w fun e w' => ∃ v', e = .returned v' ∧ LN w.heap.size w' v' (sortL []) ∧ Below w.heap.size w w' := by
  obtain ⟨A, c, rfl, hc, _⟩ := h
  have h1 := clone0_any A c w
  simp only [List.length_nil]
  go_enter Try.func63, Try.ntmps63
  go_wp2_with fail
  refine h1.mono ?_
  rintro e w2 ⟨⟨A', c', rfl, hc9⟩, hb2⟩
  have h2 := sort0_any A' c' w2
  go_wp2_with fail
  refine h2.mono ?_
  rintro e w3 ⟨rfl, hb3⟩
  have h3 := Try.slices_Compact_int_empty A' c' w3
  go_wp2_with fail
  refine h3.mono ?_
  rintro e w4 ⟨rfl, rfl⟩
  go_wp2_with fail
  go_ret
  rw [show sortL [] = [] by simp [sortL, Lib.compact, Lib.compactUpTo]]
  exact ⟨_, rfl, ⟨A', c', rfl, Nat.zero_le _, hc9, fun h => absurd h (by simp)⟩, hb2.trans (hb3.mono hb2.size)⟩
end
section
open Go.RowKit Go.Sort

theorem numSorted1_any (l : List Int) (v : Value) (w : World) (hl : l.length ≤ 1000000) (hp : 0 < l.length) (h : LI w v l) :
    Calls Try.prog 63 #[v] w fun e w' => ∃ v', e = .returned v' ∧ LN w.heap.size w' v' (sortL l) ∧ Below w.heap.size w w' := by
  obtain ⟨i0, hi0, hz0, hz1, hz2⟩ := info_parts i64Info
  obtain ⟨b, o, c, rfl, hc, hb, hcell⟩ := h.some_ hp
  have h1 := Try.slices_Clone i0 (.int .i64 0) 1 8 hi0 hz0 hz1 hz2 rfl (by decide) Try.sizeOf2 b o l.length c (l.map (Value.int .i64)) w (by simp) (by unfold maxLen; omega) (by omega)
    (fun j u hj => by
      rw [List.getElem?_map] at hj
      rcases Nat.lt_or_ge j l.length with hlt | hge
      · rw [List.getElem?_eq_getElem hlt] at hj
        obtain rfl : Value.int .i64 l[j] = u := by simpa using hj
        exact hcell j hlt
      · rw [List.getElem?_eq_none hge] at hj; simp at hj)
    (fun u hu => by obtain ⟨x, _, rfl⟩ := List.mem_map.1 hu; rfl)
  have H1 := hide h1
  clear h1
  unfold sortL
  have hSl : (l.mergeSort fun x y => decide (x ≤ y)).length = l.length := List.length_mergeSort ..
  generalize hSd : (l.mergeSort fun x y => decide (x ≤ y)) = S at *
  have HSd := hide hSd
  have HSl := hide hSl
  clear hSd hSl
  go_enter Try.func63, Try.ntmps63
  go_wp2_with fail
  refine H1.out.mono ?_
  rintro e w1 ⟨v', rfl, hown, hnn, hb1⟩
  obtain ⟨_, ⟨_, hn0⟩ | ⟨g, cap, cur, rfl, hbase, hblk, hn, hcap, hcs, htake⟩⟩ := hown
  · omega
  rw [Nat.mul_one] at htake
  have hg : g < w1.heap.size := (Array.getElem?_eq_some_iff.1 hblk).1
  have hH := holds_of_blockI hblk htake
  have h2 := Try.slices_Sort_int g 0 cap l w1 hH hg (by omega)
  rw [HSd.out] at h2
  have H2 := hide h2
  clear h2 H1 hH
  go_wp2_with fail
  refine H2.out.mono ?_
  rintro e w2 ⟨rfl, n, os, rfl⟩
  have hSl := HSl.out
  have hown2 := ownsRow_sortedI (n := n) (os := os) (ts := S) hSl hbase hblk hn hcap hcs
  have hgr2 := grownBy_sortedI (w := w1) (g := g) (n := n) (os := os) S.toArray
  generalize Go.Sort.grow (putRow (Value.int .i64) (Sort.ahead w1 n) g 0 S.toArray) os = w2 at *
  have hb2 : Below w.heap.size w w2 := hb1.grown hgr2 hb1.size (fun j hj => by cases hj; exact hbase)
  obtain ⟨_, ⟨hx, _⟩ | ⟨g', cap', cur2, hv, _, hblk2, _, _, hcs2, htake2⟩⟩ := hown2
  · cases hx
  cases hv
  rw [Nat.mul_one, ← hSl] at htake2
  have hg2 : g < w2.heap.size := (Array.getElem?_eq_some_iff.1 hblk2).1
  have hH2 := holds_of_blockI hblk2 htake2
  have h3 := Try.slices_Compact_int g 0 cap S w2 hH2 (by omega) (by omega)
  rw [hSl] at h3
  have H3 := hide h3
  have hcl := compact_len S
  clear h3 H2 hH2
  go_wp2_with fail
  refine H3.out.mono ?_
  rintro e w3 ⟨rfl, q, hw3⟩
  have hown3 := ownsRow_sortedI (n := q) (os := #[]) (ss := S) (ts := Lib.compact S ++ List.replicate (S.length - (Lib.compact S).length) 0) (by simp; omega) hbase hblk2 (by omega) hcap hcs2
  have hgr3 := grownBy_sortedI (w := w2) (g := g) (n := q) (os := #[]) (Lib.compact S ++ List.replicate (S.length - (Lib.compact S).length) 0).toArray
  rw [grow_empty] at hown3 hgr3
  rw [hSl] at hown3 hgr3
  rw [← hw3] at hown3 hgr3
  have hb3 : Below w.heap.size w w3 := hb2.grown hgr3 hb2.size (fun j hj => by cases hj; exact hbase)
  have hLI : LN w.heap.size w3 (.slice (some ⟨g, 0, none⟩) (Lib.compact S).length cap) (Lib.compact S) := by
    refine ⟨_, _, rfl, by omega, by unfold maxLen at hcap; omega, fun _ => ⟨g, 0, rfl, hbase, ?_, fun i hi => ?_⟩⟩
    · have := hgr3.size; omega
    · rw [Nat.zero_add]
      exact own_cell hown3 rfl (by rw [List.getElem?_map, List.getElem?_append_left hi, List.getElem?_eq_getElem hi]; rfl)
  clear hw3 H3 hown3 hgr3 hblk hblk2 htake htake2
  go_wp2_with fail
  go_ret
  exact ⟨_, rfl, hLI, hb3⟩
theorem numSorted_any (l : List Int) (v : Value) (w : World) (hl : l.length ≤ 1000000) (h : LI w v l) :
    Calls Try.prog 63 #[v] w fun e w' => ∃ v', e = .returned v' ∧ LN w.heap.size w' v' (sortL l) ∧ Below w.heap.size w w' := by
  cases l with
  | nil => exact numSorted0_any v w h
  | cons x l => exact numSorted1_any (x :: l) v w hl (by simp) h
end
section
open Go.RowKit
theorem one_arg {vs : Array Value} {a : AV} (hn : vs.size = [a].length) : ∃ x, vs = #[x] := ⟨vs[0]'(by simp at hn; omega), by
  apply Array.ext (by simpa using hn)
  intro i h1 h2
  simp at h2
  subst h2
  rfl⟩
theorem numSorted_A (l : List Int) (hl : l.length ≤ 1000000) : ADet Try.prog 63 [sI l] ⟨sI (sortR l), [], 0⟩ :=
  adet_of_sl (enters_of Try.func63 rfl (by decide)) fun S w vs hS hn hv => by
    obtain ⟨a, rfl⟩ := one_arg hn
    refine (numSorted_any l a w hl (LI.of_rt (hv 0 a _ rfl rfl) hS)).mono fun e w' ⟨v', h1, h2, h3⟩ => ?_
    rw [sortL_eq] at h2
    exact ⟨v', h1, fun S' hS' => h2.rt hS', h3⟩
theorem refSorted_A (l : List Int) (hl : l.length ≤ 1000) : ADet Try.prog 17 [sI l] ⟨sI (sortR l), [], 0⟩ :=
  adet_of_sl (enters_of Try.func17 rfl (by decide)) fun S w vs hS hn hv => by
    obtain ⟨a, rfl⟩ := one_arg hn
    refine (refSorted_any l a w hl (LI.of_rt (hv 0 a _ rfl rfl) hS)).mono fun e w' ⟨v', h1, h2, h3⟩ => ?_
    exact ⟨v', h1, fun S' hS' => h2.rt hS', h3⟩
/-- how many of a list are below a number -/
def lessN (c : List Int) (n : Int) : Nat := c.countP (fun x => decide (x < n))
theorem numFind_A (c : List Int) (n : Int) (hc : Up c) (hl : c.length ≤ 1000000) : ADet Try.prog 62 [sI c, eI n] ⟨.tup [eI (lessN c n : Int), eB (decide (n ∈ c))], [], 0⟩ :=
  ⟨enters_of Try.func62 rfl (by decide), fun S w vs hS hn hv => by
    obtain ⟨a, b, rfl⟩ := two_args hn
    obtain rfl := rtc (hv 1 b _ rfl rfl)
    refine (find_any c n a w hl (LI.of_rt (hv 0 a _ rfl rfl) hS)).mono fun e w' ⟨⟨r, h1, hF⟩, h2⟩ => ?_
    obtain ⟨e1, e2⟩ := search_up c n hc r hF.le (fun h0 => hF.lo h0 (by have := hF.le; omega)) hF.hi
    rw [e2, ← e1] at h1
    refine ⟨_, fun _ => undef, _, rfl, ⟨fun id o h => (by cases h), ⟨trivial, trivial, trivial⟩⟩, h1, ⟨belowX h2, fun id o h => (by cases h), fun id id' o o' g h => (by cases h), fun b hb => hb.elim⟩, .tree (.tup _ _ rfl fun j x av h3 h4 => ?_)⟩
    match j with
    | 0 => simp at h3 h4; subst h3; subst h4; exact .c _
    | 1 => simp at h3 h4; subst h3; subst h4; exact .c _
    | j + 2 => simp at h3⟩
/-! ### zones -/
structure Cls where
  attrs : Int
  const : Int
structure Zn where
  cls : List Cls
  gaps : List Int
abbrev eCls (x : Cls) : List AV := [eI x.attrs, eI x.const]
abbrev eZn (z : Zn) : List AV := [.sl 2 (z.cls.map eCls), sI z.gaps]
/-- the first place of what is so; -1: there is none -/
def fstI {α : Type} (p : α → Bool) (l : List α) : Int := match l.findIdx? p with | some k => (k : Int) | none => -1
theorem fstI_at {α : Type} {p : α → Bool} {l : List α} {k : Nat} (hk : k < l.length) (h : p l[k] = true) (hn : ∀ i (h : i < k), p (l[i]'(by omega)) = false) : fstI p l = (k : Int) := by
  have : l.findIdx? p = some k := List.findIdx?_eq_some_iff_getElem.2 ⟨hk, h, fun j hj => by simp [hn j hj]⟩
  unfold fstI
  rw [this]
theorem fstI_none {α : Type} {p : α → Bool} {l : List α} (h : ∀ x ∈ l, p x = false) : fstI p l = -1 := by
  have : l.findIdx? p = none := List.findIdx?_eq_none_iff.2 h
  unfold fstI
  rw [this]
theorem fstI_cases {α : Type} (p : α → Bool) (l : List α) : (fstI p l = -1 ∧ ∀ x ∈ l, p x = false) ∨ ∃ k : Nat, ∃ h : k < l.length, fstI p l = (k : Int) ∧ p l[k] = true ∧ ∀ i (h : i < k), p (l[i]'(by omega)) = false := by
  unfold fstI
  cases hf : l.findIdx? p with
  | none => exact .inl ⟨rfl, List.findIdx?_eq_none_iff.1 hf⟩
  | some k =>
    obtain ⟨h1, h2, h3⟩ := List.findIdx?_eq_some_iff_getElem.1 hf
    exact .inr ⟨k, h1, rfl, h2, fun i hi => by simpa using h3 i hi⟩
theorem fstI_any {α : Type} (p : α → Bool) (l : List α) : decide (0 ≤ fstI p l) = l.any p := by
  rcases fstI_cases p l with ⟨h1, h2⟩ | ⟨k, hk, h1, h2, _⟩
  · rw [h1]
    symm
    simpa using h2
  · rw [h1]
    have : l.any p = true := List.any_eq_true.2 ⟨_, List.getElem_mem hk, h2⟩
    rw [this]
    simp
/-- is a value in a class? c: the constants, rising -/
def hitP (c : List Int) (a n : Int) (x : Cls) : Bool := (a != -1 && hasB x.attrs a) || (a == -1 && decide (n ∈ c) && x.const == (lessN c n : Int))
def placeM (z : Zn) (consts : List Int) (a n : Int) : Int := fstI (hitP (sortR consts) a n) z.cls
def cmpZ (z : Zn) (consts : List Int) (la ln ra rn : Int) : Int :=
  if placeM z consts la ln < 0 ∨ placeM z consts ra rn < 0 then 0 else cmpI (placeM z consts la ln) (placeM z consts ra rn)
set_option maxRecDepth 100000 in
theorem indexFc_A (g : FuncId) (caps : List AV) (l : List Cls) (p : Cls → Bool) (hl : l.length ≤ 1000000) (ht : treeL caps) (hp : ∀ x ∈ l, ADet Try.prog g (.agg (eCls x) :: caps) (val (.bool (p x)))) : ADet Try.prog 64 [.sl 2 (l.map eCls), .fn g caps] (val (.int .i64 (fstI p l))) := by
  refine adet_of_code mixedT Try.func64 rfl (by decide) Try.ntmps64 Try.results64 rfl (val_ok _) ?_
  have hlt0 : AV.ltL 0 caps := ltL_tree ht
  (repeat' (first | simp (maxSteps := 5000000) (implicitDefEqProofs := false) only [ruA, ruB, aEv, aTake, aLoad, aField, aIndex, aLen, aBin, bin2, aUn, un1, aExtract, aConv, ASt.get, aget, ASt.put, aStore, aBox, aAppend, aBuildSlice, aMake, aBuild, aFill, oneParts, allC, aBinS, yv, aCells, oneC, oneCL, treeC, treeL, aLit, aDst, aSrc, appTab, Value.cells, Value.oneCell', envOf, aResL, aOne, ↓reduceIte, reduceCtorEq, forall_const, Nat.reduceLT, Nat.reduceEqDiff, Nat.reduceAdd, Nat.reduceMul, Nat.reduceSub, Nat.reduceLeDiff, Nat.reduceBEq, eq_self, implies_true, ne_eq, dref, dref1, dref2, aExecS, aStoreB, aTakes, aTakeE, aElder, aFrom, aFresh, isLoad, aBuildSlice1, frzs, frz1, ownIds, AV.frz, AV.frzL, frzEnv, AV.shift, AV.shiftL, aFieldV, aSliceW, aSliceO, aSlice, aSliceR, aSliceS, aBd, aMax, frzAVs, frzAV, frzTab, AObj.frz, aMM, aNilS, aMay, tyE_32, tyK_32, tyK_3, tyA_61, tyS_61] | (with_reducible refine aIf_split (fun _ => ?_) (fun _ => ?_)) | (with_reducible refine aSel_split (fun _ => ?_) (fun _ => ?_)) | (with_reducible refine aGd_split (fun _ => ?_) (fun _ => ?_))))
  refine aLoop_of (fun st => ∃ k : Nat, k ≤ l.length ∧ (∀ i (h : i < l.length), i < k → p l[i] = false) ∧ st = ⟨19, [(0, .sl 2 (l.map eCls)), (1, .fn g caps), (7, eI (l.length : Int)), (8, eI (k : Int))], [], 0⟩) (fun st => l.length - slotN st 8) ⟨_, (weak_cut1 (by (first | ((simp only [envIn, tabIn, envLt, tabLt, AObj.lt, AV.lt, AV.ltL, ruW, ASt.get, aget, ASt.put, ↓reduceIte, reduceCtorEq, Nat.reduceLT, Nat.reduceEqDiff, Nat.reduceAdd, Nat.reduceLeDiff, eq_self, implies_true, hlt0]) <;> (repeat' apply And.intro) <;> first | (rw [wrapK (by omega)]; done) | (simp; done) | omega) | fail))), 0, Nat.zero_le _, fun i _ h => by omega, rfl⟩ ?_
  rintro _ ⟨k, hk, hn, rfl⟩
  by_cases hlt : k < l.length
  · (repeat' (first | simp (maxSteps := 5000000) (implicitDefEqProofs := false) only [ruA, ruB, aEv, aTake, aLoad, aField, aIndex, aLen, aBin, bin2, aUn, un1, aExtract, aConv, ASt.get, aget, ASt.put, aStore, aBox, aAppend, aBuildSlice, aMake, aBuild, aFill, oneParts, allC, aBinS, yv, aCells, oneC, oneCL, treeC, treeL, aLit, aDst, aSrc, appTab, Value.cells, Value.oneCell', envOf, aResL, aOne, ↓reduceIte, reduceCtorEq, forall_const, Nat.reduceLT, Nat.reduceEqDiff, Nat.reduceAdd, Nat.reduceMul, Nat.reduceSub, Nat.reduceLeDiff, Nat.reduceBEq, eq_self, implies_true, ne_eq, dref, dref1, dref2, aExecS, aStoreB, aTakes, aTakeE, aElder, aFrom, aFresh, isLoad, aBuildSlice1, frzs, frz1, ownIds, AV.frz, AV.frzL, frzEnv, AV.shift, AV.shiftL, aFieldV, aSliceW, aSliceO, aSlice, aSliceR, aSliceS, aBd, aMax, frzAVs, frzAV, frzTab, AObj.frz, aMM, aNilS, aMay, tyE_32, tyK_32, tyK_3, tyA_61, tyS_61, row_at, hlt] | (with_reducible refine aIf_split (fun _ => ?_) (fun _ => ?_)) | (with_reducible refine aSel_split (fun _ => ?_) (fun _ => ?_)) | (with_reducible refine aGd_split (fun _ => ?_) (fun _ => ?_))))
    refine callClo (args := [_]) ht (hp _ (List.getElem_mem hlt)) ?_
    (repeat' (first | simp (maxSteps := 5000000) (implicitDefEqProofs := false) only [ruA, ruB, aEv, aTake, aLoad, aField, aIndex, aLen, aBin, bin2, aUn, un1, aExtract, aConv, ASt.get, aget, ASt.put, aStore, aBox, aAppend, aBuildSlice, aMake, aBuild, aFill, oneParts, allC, aBinS, yv, aCells, oneC, oneCL, treeC, treeL, aLit, aDst, aSrc, appTab, Value.cells, Value.oneCell', envOf, aResL, aOne, ↓reduceIte, reduceCtorEq, forall_const, Nat.reduceLT, Nat.reduceEqDiff, Nat.reduceAdd, Nat.reduceMul, Nat.reduceSub, Nat.reduceLeDiff, Nat.reduceBEq, eq_self, implies_true, ne_eq, dref, dref1, dref2, aExecS, aStoreB, aTakes, aTakeE, aElder, aFrom, aFresh, isLoad, aBuildSlice1, frzs, frz1, ownIds, AV.frz, AV.frzL, frzEnv, AV.shift, AV.shiftL, aFieldV, aSliceW, aSliceO, aSlice, aSliceR, aSliceS, aBd, aMax, frzAVs, frzAV, frzTab, AObj.frz, aMM, aNilS, aMay, tyE_32, tyK_32, tyK_3, tyA_61, tyS_61, row_at, hlt] | (with_reducible refine aIf_split (fun _ => ?_) (fun _ => ?_)) | (with_reducible refine aSel_split (fun _ => ?_) (fun _ => ?_)) | (with_reducible refine aGd_split (fun _ => ?_) (fun _ => ?_))))
    · rename_i h
      rw [fstI_at hlt h fun i hi => hn i (by omega) hi]
    · rename_i h
      refine roundI (weak_cut1 (by (first | ((simp only [envIn, tabIn, envLt, tabLt, AObj.lt, AV.lt, AV.ltL, ruW, ASt.get, aget, ASt.put, ↓reduceIte, reduceCtorEq, Nat.reduceLT, Nat.reduceEqDiff, Nat.reduceAdd, Nat.reduceLeDiff, eq_self, implies_true, hlt0]) <;> (repeat' apply And.intro) <;> first | (rw [wrapK (by omega)]; done) | (simp; done) | omega) | fail))) ⟨k + 1, by omega, fun i hi h2 => ?_, rfl⟩ (by simp only [slotN, ruW, ASt.get, aget, ASt.put, ↓reduceIte, reduceCtorEq, Nat.reduceLT, Nat.reduceEqDiff, Nat.reduceAdd, Nat.reduceLeDiff, eq_self, implies_true]; omega)
      rcases Nat.lt_or_ge i k with h3 | h3
      · exact hn i hi h3
      · obtain rfl : i = k := by omega
        exact h
  · obtain rfl : k = l.length := by omega
    (repeat' (first | simp (maxSteps := 5000000) (implicitDefEqProofs := false) only [ruA, ruB, aEv, aTake, aLoad, aField, aIndex, aLen, aBin, bin2, aUn, un1, aExtract, aConv, ASt.get, aget, ASt.put, aStore, aBox, aAppend, aBuildSlice, aMake, aBuild, aFill, oneParts, allC, aBinS, yv, aCells, oneC, oneCL, treeC, treeL, aLit, aDst, aSrc, appTab, Value.cells, Value.oneCell', envOf, aResL, aOne, ↓reduceIte, reduceCtorEq, forall_const, Nat.reduceLT, Nat.reduceEqDiff, Nat.reduceAdd, Nat.reduceMul, Nat.reduceSub, Nat.reduceLeDiff, Nat.reduceBEq, eq_self, implies_true, ne_eq, dref, dref1, dref2, aExecS, aStoreB, aTakes, aTakeE, aElder, aFrom, aFresh, isLoad, aBuildSlice1, frzs, frz1, ownIds, AV.frz, AV.frzL, frzEnv, AV.shift, AV.shiftL, aFieldV, aSliceW, aSliceO, aSlice, aSliceR, aSliceS, aBd, aMax, frzAVs, frzAV, frzTab, AObj.frz, aMM, aNilS, aMay, tyE_32, tyK_32, tyK_3, tyA_61, tyS_61, hlt] | (with_reducible refine aIf_split (fun _ => ?_) (fun _ => ?_)) | (with_reducible refine aSel_split (fun _ => ?_) (fun _ => ?_)) | (with_reducible refine aGd_split (fun _ => ?_) (fun _ => ?_))))
    rw [fstI_none fun x hx => by obtain ⟨i, hi, rfl⟩ := List.getElem_of_mem hx; exact hn i hi hi]
set_option maxRecDepth 100000 in
theorem place1_A (c : List Int) (a n : Int) (x : Cls) : ADet Try.prog 65 [.agg (eCls x), .rp [eI a, eI n], .rp [eB (decide (n ∈ c))], .rp [eI (lessN c n : Int)]] (val (.bool (hitP c a n x))) := by
  refine adet_of_code mixedT Try.func65 rfl (by decide) Try.ntmps65 Try.results65 rfl (val_ok _) ?_
  (repeat' (first | simp (maxSteps := 5000000) (implicitDefEqProofs := false) only [ruA, ruB, aEv, aTake, aLoad, aField, aIndex, aLen, aBin, bin2, aUn, un1, aExtract, aConv, ASt.get, aget, ASt.put, aStore, aBox, aAppend, aBuildSlice, aMake, aBuild, aFill, oneParts, allC, aBinS, yv, aCells, oneC, oneCL, treeC, treeL, aLit, aDst, aSrc, appTab, Value.cells, Value.oneCell', envOf, aResL, aOne, ↓reduceIte, reduceCtorEq, forall_const, Nat.reduceLT, Nat.reduceEqDiff, Nat.reduceAdd, Nat.reduceMul, Nat.reduceSub, Nat.reduceLeDiff, Nat.reduceBEq, eq_self, implies_true, ne_eq, dref, dref1, dref2, aExecS, aStoreB, aTakes, aTakeE, aElder, aFrom, aFresh, isLoad, aBuildSlice1, frzs, frz1, ownIds, AV.frz, AV.frzL, frzEnv, AV.shift, AV.shiftL, aFieldV, aSliceW, aSliceO, aSlice, aSliceR, aSliceS, aBd, aMax, frzAVs, frzAV, frzTab, AObj.frz, aMM, aNilS, aMay, tyF_49_0, tyA_3, tyS_3, tyK_3, tyF_61_0, tyA_4, tyS_4, tyF_61_1] | (with_reducible refine aIf_split (fun _ => ?_) (fun _ => ?_)) | (with_reducible refine aSel_split (fun _ => ?_) (fun _ => ?_)) | (with_reducible refine aGd_split (fun _ => ?_) (fun _ => ?_)) | (with_reducible refine aDraw_quiet (by kernel_rfl) ?_) | ((with_reducible apply callV (g := 53)); exact (has_A x.attrs a)) | ((with_reducible apply callD (g := 53)); exact (has_A x.attrs a))))
  all_goals simp_all [hitP]
set_option maxRecDepth 100000 in
set_option maxHeartbeats 8000000 in
theorem place_A (z : Zn) (consts : List Int) (a n : Int) (h1 : z.cls.length ≤ 1000000) (h2 : consts.length ≤ 1000000) : ADet Try.prog 37 [.agg (eZn z), sI consts, .agg [eI a, eI n]] (val (.int .i64 (placeM z consts a n))) := by
  refine adet_of_code mixedT Try.func37 rfl (by decide) Try.ntmps37 Try.results37 rfl (val_ok _) ?_
  have hlen := sortR_len consts
  have hS := numSorted_A consts h2
  have hF := numFind_A (sortR consts) n (sortR_up consts).1 (by omega)
  have hI := indexFc_A 65 [.rp [eI a, eI n], .rp [eB (decide (n ∈ sortR consts))], .rp [eI (lessN (sortR consts) n : Int)]] z.cls (hitP (sortR consts) a n) h1 (by simp [treeL, treeC]) (fun x _ => place1_A (sortR consts) a n x)
  (repeat' (first | simp (maxSteps := 5000000) (implicitDefEqProofs := false) only [ruA, ruB, aEv, aTake, aLoad, aField, aIndex, aLen, aBin, bin2, aUn, un1, aExtract, aConv, ASt.get, aget, ASt.put, aStore, aBox, aAppend, aBuildSlice, aMake, aBuild, aFill, oneParts, allC, aBinS, yv, aCells, oneC, oneCL, treeC, treeL, aLit, aDst, aSrc, appTab, Value.cells, Value.oneCell', envOf, aResL, aOne, ↓reduceIte, reduceCtorEq, forall_const, Nat.reduceLT, Nat.reduceEqDiff, Nat.reduceAdd, Nat.reduceMul, Nat.reduceSub, Nat.reduceLeDiff, Nat.reduceBEq, eq_self, implies_true, ne_eq, dref, dref1, dref2, aExecS, aStoreB, aTakes, aTakeE, aElder, aFrom, aFresh, isLoad, aBuildSlice1, frzs, frz1, ownIds, AV.frz, AV.frzL, frzEnv, AV.shift, AV.shiftL, aFieldV, aSliceW, aSliceO, aSlice, aSliceR, aSliceS, aBd, aMax, frzAVs, frzAV, frzTab, AObj.frz, aMM, aNilS, aMay, tyF_49_1, tyA_2, tyS_2, tyZ_3, tyZ_4, tyS_3, tyS_4, tyF_34_0, tyA_32, tyS_32] | (with_reducible refine aIf_split (fun _ => ?_) (fun _ => ?_)) | (with_reducible refine aSel_split (fun _ => ?_) (fun _ => ?_)) | (with_reducible refine aGd_split (fun _ => ?_) (fun _ => ?_))))
  refine aDraw_held [] [0, 2, 3] (.three 1 (.three 4 (.take 5 (.take 6 (.take 7 (.two 8 (.exec 9 (.exec 10 (.exec 11 .done))) 9 (.exec 8 (.exec 10 (.exec 11 .done))))))) 8 (.two 4 (.take 5 (.take 6 (.take 7 (.exec 9 (.exec 10 (.exec 11 .done)))))) 9 (.exec 4 (.take 5 (.take 6 (.take 7 (.exec 10 (.exec 11 .done))))))) 9 (.two 4 (.take 5 (.take 6 (.take 7 (.exec 8 (.exec 10 (.exec 11 .done)))))) 8 (.exec 4 (.take 5 (.take 6 (.take 7 (.exec 10 (.exec 11 .done)))))))) 8 (.two 1 (.two 4 (.take 5 (.take 6 (.take 7 (.exec 9 (.exec 10 (.exec 11 .done)))))) 9 (.exec 4 (.take 5 (.take 6 (.take 7 (.exec 10 (.exec 11 .done))))))) 9 (.exec 1 (.exec 4 (.take 5 (.take 6 (.take 7 (.exec 10 (.exec 11 .done)))))))) 9 (.two 1 (.two 4 (.take 5 (.take 6 (.take 7 (.exec 8 (.exec 10 (.exec 11 .done)))))) 8 (.exec 4 (.take 5 (.take 6 (.take 7 (.exec 10 (.exec 11 .done))))))) 8 (.exec 1 (.exec 4 (.take 5 (.take 6 (.take 7 (.exec 10 (.exec 11 .done))))))))) (by kernel_rfl) (by simp [ATab.get_cons]) ?_
  (repeat' (first | simp (maxSteps := 5000000) (implicitDefEqProofs := false) only [ruA, ruB, aEv, aTake, aLoad, aField, aIndex, aLen, aBin, bin2, aUn, un1, aExtract, aConv, ASt.get, aget, ASt.put, aStore, aBox, aAppend, aBuildSlice, aMake, aBuild, aFill, oneParts, allC, aBinS, yv, aCells, oneC, oneCL, treeC, treeL, aLit, aDst, aSrc, appTab, Value.cells, Value.oneCell', envOf, aResL, aOne, ↓reduceIte, reduceCtorEq, forall_const, Nat.reduceLT, Nat.reduceEqDiff, Nat.reduceAdd, Nat.reduceMul, Nat.reduceSub, Nat.reduceLeDiff, Nat.reduceBEq, eq_self, implies_true, ne_eq, dref, dref1, dref2, aExecS, aStoreB, aTakes, aTakeE, aElder, aFrom, aFresh, isLoad, aBuildSlice1, frzs, frz1, ownIds, AV.frz, AV.frzL, frzEnv, AV.shift, AV.shiftL, aFieldV, aSliceW, aSliceO, aSlice, aSliceR, aSliceS, aBd, aMax, frzAVs, frzAV, frzTab, AObj.frz, aMM, aNilS, aMay, tyF_49_1, tyA_2, tyS_2, tyZ_3, tyZ_4, tyS_3, tyS_4, tyF_34_0, tyA_32, tyS_32] | (with_reducible refine aIf_split (fun _ => ?_) (fun _ => ?_)) | (with_reducible refine aSel_split (fun _ => ?_) (fun _ => ?_)) | (with_reducible refine aGd_split (fun _ => ?_) (fun _ => ?_)) | (with_reducible refine aDraw_quiet (by kernel_rfl) ?_) | ((with_reducible apply callT); exact (hS); exact (.inl (by simp [roL, roA, treeL, treeC]))) | ((with_reducible apply callT); exact (hF); exact (.inl (by simp [roL, roA, treeL, treeC]))) | (with_reducible apply And.intro) | ((with_reducible apply callV); exact (hI)) | ((with_reducible apply callD); exact (hI))))
  all_goals rfl
end
end Go.Proofs.Ytfeclebkaambhaa
