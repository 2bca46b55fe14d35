/-
  Parts of the proof: EvSides2, EvHolds, C2, ZSortA, ZSortD, ZSortE, P3, C3.
-/
import Derived.Test.YtmochnclbcbijaaGreatSpk7
import Derived.Conc.MuLone
import Derived.Sort.OwnSortedInts
import Derived.Deep.DeepCutAuto
set_option linter.unusedVariables false
set_option linter.unusedSimpArgs false
namespace Go.Proofs.YtmochnclbcbijaaGreat
section
open Go.RowKit

theorem lessNotNil (k : Nat) (caps : Array Value) (w : World) : (binOp BinOp.eql 147 (.func (.func k) #[] caps) .nilFunc).run Tryz.prog w = .ok (.bool false) w := by kernel_rfl
/-- the world behind the parameters' boxes -/
def W0 (w : World) (vv : Value) (o d : Int) (dv cv : Value) : World := ((w.alloc (.cells #[vv, .int .i64 o, .int .i64 d, dv, cv] 51)).alloc (.cells #[.bool false] 4)).alloc (.cells #[.int .i64 0] 56)
theorem W0_facts (w : World) (vv : Value) (o d : Int) (dv cv : Value) : (W0 w vv o d dv cv).heap.size = w.heap.size + 3 ∧ Below w.heap.size w (W0 w vv o d dv cv) ∧ Blk (W0 w vv o d dv cv) w.heap.size 51 #[vv, .int .i64 o, .int .i64 d, dv, cv] ∧
    Blk (W0 w vv o d dv cv) (w.heap.size + 1) 4 #[.bool false] ∧ Blk (W0 w vv o d dv cv) (w.heap.size + 1 + 1) 56 #[.int .i64 0] := by
  unfold W0
  refine ⟨by simp, (((Below.refl _ _).alloc (Nat.le_refl _) _).alloc (by simp) _).alloc (by simp; omega) _, (((Blk.new w _ _).alloc _).alloc _), ?_, ?_⟩
  · have := (Blk.new (w.alloc (.cells #[vv, .int .i64 o, .int .i64 d, dv, cv] 51)) 4 #[.bool false]).alloc (.cells #[.int .i64 0] 56)
    simpa using this
  · have := Blk.new ((w.alloc (.cells #[vv, .int .i64 o, .int .i64 d, dv, cv] 51)).alloc (.cells #[.bool false] 4)) 56 #[.int .i64 0]
    simpa using this
theorem item_ok (x : Inst) (h : x.ok) : (itemOf x).ok := by
  refine ⟨h.1, ?_, ?_, ?_, ?_, ?_, ?_, ?_, ?_⟩ <;> first | exact ⟨by simp [itemOf], by simp [itemOf]⟩ | exact Nat.zero_le _
theorem insts_ok {w : World} {S : Nat → Prop} {v : Value} {l : List Inst} (h : (sliceR instR).one w S v l) : ∀ x ∈ l, x.ok := by
  intro x hx
  obtain ⟨i, hi, rfl⟩ := List.getElem_of_mem hx
  obtain ⟨A, c, rfl, _, _⟩ := slice_form h
  obtain ⟨b, o, hv, _, _⟩ := slice_some h (by omega)
  subst hv
  exact (insts_at h hi).2
def topO : Option (List Bool) → Option Bool
  | some (b :: _) => some b
  | _ => none
theorem topO_eq (x : Option (List Bool)) : (match x with | some (b :: _) => some b | _ => none) = topO x := by
  match x with
  | none => rfl
  | some [] => rfl
  | some (_ :: _) => rfl
theorem runG_append (cm : Inst → Option Int) (o d : Int) (a b : List Inst) : ∀ r, runG cm o d (a ++ b) r = (runG cm o d a r).bind (runG cm o d b) := by
  induction a with
  | nil => intro r; rfl
  | cons x a ih => intro r; rw [List.cons_append, runG, runG]; cases stepG cm o d x r <;> simp [ih]
theorem runG_snoc (cm : Inst → Option Int) (o d : Int) (a : List Inst) (x : Inst) (r : List Bool) : runG cm o d (a ++ [x]) r = (runG cm o d a r).bind (stepG cm o d x) := by
  rw [runG_append]
  cases runG cm o d a r with
  | none => rfl
  | some r' => simp only [Option.bind_some, runG]; cases stepG cm o d x r' <;> rfl
theorem stepG_len {cm : Inst → Option Int} {o d : Int} {x : Inst} {r r' : List Bool} (h : stepG cm o d x r = some r') : r'.length ≤ r.length + 1 := by
  unfold stepG at h
  split at h
  · cases h; simp
  split at h
  · split at h
    · cases h; simp
    · cases h
  split at h
  · cases h; simp
  split at h
  · cases h; simp
  split at h
  · split at h
    · cases h; simp
    · cases h
  split at h
  · split at h
    · cases h; simp
    · cases h
  · cases h
theorem AskAt.up {w : World} {a H H' : Nat} {vv : Value} {o d : Int} {dv cv f : Value} {L : List Bool} (h : AskAt w a H vv o d dv cv f L) (hh : H ≤ H') : AskAt w a H' vv o d dv cv f L := by
  obtain ⟨rv, h1, h2, h3, h4⟩ := h
  exact ⟨rv, h1, h2, by omega, fun g hg => by have := h4 g hg; omega⟩
def SidesPost (R : Option Bool) (w : World) (e : Ending) (w' : World) : Prop := e = .returned (.tuple #[.bool (optB R), .int .i64 (optE R)]) ∧ Below w.heap.size w w'

set_option maxRecDepth 100000 in
set_option maxHeartbeats 2000000 in
theorem sides_bad (l : List Inst) (lv : Value) (S : Nat → Prop) (k : Nat) (caps : Array Value) (vv : Value) (o d : Int) (dv cv : Value) (w : World) (h : (sliceR instR).one w S lv l) (hS : ∀ b, S b → b < w.heap.size) (hl : l.length ≤ 900) (hbad : checkE (l.map Inst.op) ≠ 0) :
    Calls Tryz.prog 91 #[lv, .func (.func k) #[] caps, stAgg vv o d dv cv] w (SidesPost none w) := by
  have hmf : ∀ (fn : Fn) (first cap : Array Value) (w : World), (Instr.makeFunc fn first cap).run Tryz.prog w = .ok (.func fn first cap) w := fun _ _ _ _ => rfl
  have Hsl := hide h
  have HS := hide hS
  obtain ⟨E, hE⟩ : ∃ E, E = checkE (l.map Inst.op) := ⟨_, rfl⟩
  have hne : (E != 0) = true := by rw [hE]; simpa using hbad
  have HE := hide hE
  clear h hS hbad hE
  have hnil := lessNotNil k caps
  obtain ⟨hz, hb0, hB0, hB1, hB2⟩ := W0_facts w vv o d dv cv
  obtain ⟨X, hX⟩ : ∃ X, X = W0 w vv o d dv cv := ⟨_, rfl⟩
  rw [← hX] at hz hb0 hB0 hB1 hB2
  unfold W0 at hX
  have HX := hide hX
  have H0 := hide hb0
  have HB1 := hide hB1
  have HB2 := hide hB2
  clear hX hb0 hB0 hB1 hB2
  go_enter_defers Tryz.func91, Tryz.ntmps91
  go_wp2_with fail
  rw [← HX.out]
  refine (shape_any l lv S X (slice_below Hsl.out H0.out HS.out) (fun b hb => Nat.lt_of_lt_of_le (HS.out b hb) H0.out.size) (by omega)).mono ?_
  rintro e w1 ⟨u, rfl, hown, hb1⟩
  have hsh := slice_ownP (r := itemR) Item.cells (l := l.map itemOf) (fun x hx => by
    obtain ⟨y, hy, rfl⟩ := List.mem_map.1 hx
    obtain ⟨i, hi, rfl⟩ := List.getElem_of_mem hy
    exact ⟨rfl, item_ok _ (insts_ok Hsl.out _ (List.getElem_mem hi))⟩) hown (by decide)
  have Hsh := hide hsh
  clear hown hsh
  go_wp2_with fail
  refine (check_any (l.map itemOf) u _ w1 Hsh.out (fun b hb => hb.2)).mono ?_
  rintro e w2 ⟨rfl, hb2⟩
  rw [itemOf_op, ← HE.out]
  have hX2 : Below X.heap.size X w2 := hb1.trans (hb2.mono hb1.size)
  have B1 := HB1.out.below hX2 (by omega)
  have B2 := HB2.out.below hX2 (by omega)
  have c1 := B1.cell 0
  have c2 := B2.cell 0
  have f1 := B1.frozen 0
  have f2 := B2.frozen 0
  simp at c1 c2
  have D1 := (B1.set_ 0 (.bool false)).far (p := ⟨w.heap.size + 1 + 1, 0, none⟩) (by simp) (.int .i64 17)
  have D2 := (B2.far (p := ⟨w.heap.size + 1, 0, none⟩) (by simp) (.bool false)).set_ 0 (.int .i64 17)
  have d1 := D1.cell 0
  have d2 := D2.cell 0
  simp at d1 d2
  have HX2 := hide hX2
  clear hX2 hb1 hb2 B1 B2 D1 D2
  go_wp2_with fail
  refine leaves_cons (f := 114) (args := #[.pointer (some ⟨w.heap.size + 1, 0, none⟩), .pointer (some ⟨w.heap.size + 1 + 1, 0, none⟩)]) (by simp) (by simp [go_sem]) ?_
  refine (catch_idle ⟨w.heap.size + 1, 0, none⟩ ⟨w.heap.size + 1 + 1, 0, none⟩ _).mono ?_
  rintro e u' w'' ⟨rfl, rfl, rfl⟩
  simp [Leaves, settle, results, Tryz.results91, go_sem, d1, d2]
  exact ⟨rfl, ((H0.out.trans (HX2.out.mono H0.out.size)).setCell (by show _ ≤ w.heap.size + 1; omega) _).setCell (by show _ ≤ w.heap.size + 1 + 1; omega) _⟩

set_option maxRecDepth 100000 in
set_option maxHeartbeats 2000000 in
theorem sides_ok (l : List Inst) (lv : Value) (S : Nat → Prop) (k : Nat) (caps : Array Value) (vv : Value) (o d : Int) (dv cv : Value) (w : World) (h : (sliceR instR).one w S lv l) (hS : ∀ b, S b → b < w.heap.size) (hl : l.length ≤ 900) (hbad : checkE (l.map Inst.op) = 0)
    (hcf : ∀ (args : Array Value) (w : World), (callFunc k args).run Tryz.prog w = .ok (.enter k args) w) (cm : Inst → Option Int) (HL : Hid (∀ x ∈ l, LessOK k caps cm x w)) :
    Calls Tryz.prog 91 #[lv, .func (.func k) #[] caps, stAgg vv o d dv cv] w (SidesPost (holdsG cm o d l) w) := by
  have hmf : ∀ (fn : Fn) (first cap : Array Value) (w : World), (Instr.makeFunc fn first cap).run Tryz.prog w = .ok (.func fn first cap) w := fun _ _ _ _ => rfl
  have Hsl := hide h
  have HS := hide hS
  obtain ⟨R, hR⟩ : ∃ R, R = holdsG cm o d l := ⟨_, rfl⟩
  rw [← hR]
  have hRR : R = topO (runG cm o d l []) := by rw [hR]; unfold holdsG; rw [if_neg (by simpa using hbad)]; exact topO_eq _
  have HR := hide hRR
  clear hR hRR
  obtain ⟨E, hE⟩ : ∃ E, E = checkE (l.map Inst.op) := ⟨_, rfl⟩
  have hne : (E != 0) = false := by rw [hE]; simpa using hbad
  have HE := hide hE
  clear h hS hbad hE
  have hnil := lessNotNil k caps
  obtain ⟨hz, hb0, hB0, hB1, hB2⟩ := W0_facts w vv o d dv cv
  obtain ⟨X, hX⟩ : ∃ X, X = W0 w vv o d dv cv := ⟨_, rfl⟩
  rw [← hX] at hz hb0 hB0 hB1 hB2
  unfold W0 at hX
  have HX := hide hX
  have H0 := hide hb0
  have HB0 := hide hB0
  have HB1 := hide hB1
  have HB2 := hide hB2
  clear hX hb0 hB0 hB1 hB2
  go_enter_defers Tryz.func91, Tryz.ntmps91
  go_wp2_with fail
  rw [← HX.out]
  refine (shape_any l lv S X (slice_below Hsl.out H0.out HS.out) (fun b hb => Nat.lt_of_lt_of_le (HS.out b hb) H0.out.size) (by omega)).mono ?_
  rintro e w1 ⟨u, rfl, hown, hb1⟩
  have hsh := slice_ownP (r := itemR) Item.cells (l := l.map itemOf) (fun x hx => by
    obtain ⟨y, hy, rfl⟩ := List.mem_map.1 hx
    obtain ⟨i, hi, rfl⟩ := List.getElem_of_mem hy
    exact ⟨rfl, item_ok _ (insts_ok Hsl.out _ (List.getElem_mem hi))⟩) hown (by decide)
  have Hsh := hide hsh
  clear hown hsh
  go_wp2_with fail
  refine (check_any (l.map itemOf) u _ w1 Hsh.out (fun b hb => hb.2)).mono ?_
  rintro e w2 ⟨rfl, hb2⟩
  rw [itemOf_op, ← HE.out]
  have hX2 : Below X.heap.size X w2 := hb1.trans (hb2.mono hb1.size)
  have B1 := HB1.out.below hX2 (by omega)
  have B2 := HB2.out.below hX2 (by omega)
  have B0 := HB0.out.below hX2 (by omega)
  have s0 := B0.cell 0
  have s1 := B0.cell 1
  have s2 := B0.cell 2
  have s3 := B0.cell 3
  have s4 := B0.cell 4
  simp at s0 s1 s2 s3 s4
  obtain ⟨Y, hY⟩ : ∃ Y, Y = w2.alloc (.cells #[vv, .int .i64 o, .int .i64 d, dv, cv, .func (.func k) #[] caps, .slice none 0 0] 177) := ⟨_, rfl⟩
  have hX2s := hX2.size
  have hY1 : Below w.heap.size w Y := by rw [hY]; exact (H0.out.trans (hX2.mono (by omega))).alloc (by omega) _
  have hY2 : AskAt Y w2.heap.size Y.heap.size vv o d dv cv (.func (.func k) #[] caps) [] := by
    rw [hY]
    exact ⟨_, Blk.new _ _ _, World.ownsRow_nil _ _ _ _, by simp, fun g hg => by simp [Value.ownBlock] at hg⟩
  have B1' := B1.alloc (.cells #[vv, .int .i64 o, .int .i64 d, dv, cv, .func (.func k) #[] caps, .slice none 0 0] 177)
  have B2' := B2.alloc (.cells #[vv, .int .i64 o, .int .i64 d, dv, cv, .func (.func k) #[] caps, .slice none 0 0] 177)
  rw [← hY] at B1' B2'
  have hYz : Y.heap.size = w2.heap.size + 1 := by rw [hY]; simp
  have HY := hide hY
  have HY1 := hide hY1
  have HY2 := hide hY2
  have HB1Y := hide B1'
  have HB2Y := hide B2'
  obtain ⟨A, c, rfl, hc, hc2⟩ := slice_form Hsl.out
  clear hX2 hb1 hb2 B1 B2 B0 hY hY1 hY2 B1' B2' HB0 HB1 HB2
  go_wp2_with fail
  rw [← HY.out]
  go_loopw [26] (fun iv wr => ∃ (k' : Nat) (L : List Bool), k' ≤ l.length ∧ iv = .int .i64 (k' : Int) ∧ runG cm o d (l.take k') [] = some L.reverse ∧ L.length ≤ k' ∧ AskAt wr w2.heap.size wr.heap.size vv o d dv cv (.func (.func k) #[] caps) L ∧ Below w2.heap.size Y wr ∧ Y.heap.size ≤ wr.heap.size)
    (fun iv wr => l.length - (intOf iv).toNat)
  case atStart => exact ⟨0, [], Nat.zero_le _, rfl, rfl, Nat.le_refl _, HY2.out, Below.refl _ _, Nat.le_refl _⟩
  case round =>
    obtain ⟨i, L, hi, rfl, hrun, hLi, hask, hbl, hysz⟩ := hrel
    have hbw : Below w.heap.size w wr := HY1.out.trans (hbl.mono (by omega))
    have Hrun := hide hrun
    have Hask := hide hask
    clear hrun hask
    by_cases hlt : i < l.length
    · have hsl := slice_below Hsl.out hbw HS.out
      obtain ⟨b, ob, hv, _, _⟩ := slice_some hsl (by omega)
      subst hv
      obtain ⟨hcs, hok⟩ := insts_at hsl hlt
      have hLess := HL.out l[i] (List.getElem_mem hlt)
      have htk : runG cm o d (l.take (i + 1)) [] = stepG cm o d l[i] L.reverse := by
        rw [List.take_succ_eq_append_getElem hlt, runG_snoc, Hrun.out]; rfl
      have hall : runG cm o d l [] = (stepG cm o d l[i] L.reverse).bind (runG cm o d (l.drop (i + 1))) := by
        rw [← htk, ← runG_append, List.take_append_drop]
      have Htk := hide htk
      have Hall := hide hall
      have HLess := hide hLess
      have c0 := hcs 0 _ rfl
      have c1 := hcs 1 _ rfl
      have c2 := hcs 2 _ rfl
      have c3 := hcs 3 _ rfl
      have c4 := hcs 4 _ rfl
      have c5 := hcs 5 _ rfl
      have c6 := hcs 6 _ rfl
      clear htk hall hLess hok hcs hsl
      generalize l[i] = x at *
      obtain ⟨xop, xla, xln, xra, xrn, xn, xu⟩ := x
      simp only [Nat.add_zero] at c0 c1 c2 c3 c4 c5 c6
      have hbx := hbw.alloc (by have := hbw.size; omega) (.cells #[.int .i64 xop, .int .i64 xla, .int .i64 xln, .int .i64 xra, .int .i64 xrn, .int .i64 xn, .int .i64 xu] 119)
      have hax := (Hask.out.below ((Below.refl wr.heap.size wr).alloc (Nat.le_refl _) (.cells #[.int .i64 xop, .int .i64 xla, .int .i64 xln, .int .i64 xra, .int .i64 xrn, .int .i64 xn, .int .i64 xu] 119))).up (H' := (wr.alloc (.cells #[.int .i64 xop, .int .i64 xla, .int .i64 xln, .int .i64 xra, .int .i64 xrn, .int .i64 xn, .int .i64 xu] 119)).heap.size) (by simp)
      cases hst : stepG cm o d ⟨xop, xla, xln, xra, xrn, xn, xu⟩ L.reverse with
      | some r' =>
        have hC := hide (step_some ⟨xop, xla, xln, xra, xrn, xn, xu⟩ cm w2.heap.size k caps vv o d dv cv L r' _ w hax (by omega) hcf HLess.out hbx hst)
        have Hst := hide hst
        clear hst hax hbx
        go_wp2_with fail
        refine hC.out.mono ?_
        rintro e w3 ⟨rfl, ha3, hb3, hs3⟩
        have hlen := stepG_len Hst.out
        rw [List.length_reverse] at hlen
        have Hb3 := hide hb3
        have hs4 : wr.heap.size + 1 ≤ w3.heap.size := by simpa using hs3
        clear hb3 hs3
        go_wp2_with fail
        go_roundw
        case rel => exact ⟨i + 1, r'.reverse, by omega, by go_num, by rw [Htk.out, Hst.out, List.reverse_reverse], by rw [List.length_reverse]; omega, ha3, (hbl.alloc (by omega) _).trans Hb3.out, by omega⟩
        case measure => simp [intOf]; omega
      | none =>
        have hC := hide (step_none ⟨xop, xla, xln, xra, xrn, xn, xu⟩ cm w2.heap.size k caps vv o d dv cv L _ w hax (by omega) hcf HLess.out hbx hst)
        have hRn : R = none := by rw [HR.out, Hall.out, hst]; rfl
        have HRn := hide hRn
        clear hst hax hbx hRn
        go_wp2_with fail
        refine hC.out.mono ?_
        rintro e w3 ⟨rfl, hb3⟩
        have hbY3 : Below w2.heap.size Y w3 := (hbl.alloc (by omega) _).trans hb3
        have hD := hide (catch_lost (w.heap.size + 1) (w.heap.size + 1 + 1) false 0 w3 (HB1Y.out.below hbY3 (by omega)) (HB2Y.out.below hbY3 (by omega)) (by omega) (B := w.heap.size) (by omega) (by omega))
        refine leaves_cons (f := 114) (args := #[.pointer (some ⟨w.heap.size + 1, 0, none⟩), .pointer (some ⟨w.heap.size + 1 + 1, 0, none⟩)]) (by simp) (by simp [go_sem]) ?_
        refine hD.out.mono ?_
        rintro e u' w'' ⟨rfl, rfl, e1, e2, e3⟩
        have d1 := e1.cell 0
        have d2 := e2.cell 0
        simp at d1 d2
        simp [Leaves, settle, results, Tryz.results91, go_sem, d1, d2]
        exact ⟨by rw [HRn.out]; rfl, (HY1.out.trans (hbY3.mono (by omega))).trans e3⟩
    · obtain rfl : i = l.length := by omega
      have hfull := Hrun.out
      rw [List.take_length] at hfull
      rcases nil_or_snoc L with rfl | ⟨q, b, rfl⟩
      · have hRn : R = none := by rw [HR.out, hfull]; rfl
        have HRn := hide hRn
        have hC := hide (askPopNone w2.heap.size wr.heap.size vv o d dv cv _ wr Hask.out)
        clear hRn hfull
        go_wp2_with fail
        refine hC.out.mono ?_
        rintro e w3 ⟨rfl, rfl⟩
        have hD := hide (catch_lost (w.heap.size + 1) (w.heap.size + 1 + 1) false 0 wr (HB1Y.out.below hbl (by omega)) (HB2Y.out.below hbl (by omega)) (by omega) (B := w.heap.size) (by omega) (by omega))
        refine leaves_cons (f := 114) (args := #[.pointer (some ⟨w.heap.size + 1, 0, none⟩), .pointer (some ⟨w.heap.size + 1 + 1, 0, none⟩)]) (by simp) (by simp [go_sem]) ?_
        refine hD.out.mono ?_
        rintro e u' w'' ⟨rfl, rfl, e1, e2, e3⟩
        have d1 := e1.cell 0
        have d2 := e2.cell 0
        simp at d1 d2
        simp [Leaves, settle, results, Tryz.results91, go_sem, d1, d2]
        exact ⟨by rw [HRn.out]; rfl, hbw.trans e3⟩
      · have hRs : R = some b := by rw [HR.out, hfull]; simp [topO]
        have HRs := hide hRs
        have hC := hide (askPop w2.heap.size wr.heap.size vv o d dv cv _ q b wr Hask.out (by simp at hLi; omega))
        clear hRs hfull
        go_wp2_with fail
        refine hC.out.mono ?_
        rintro e w3 ⟨rfl, _, hb3, hs3, _⟩
        have hbY3 : Below w2.heap.size Y w3 := hbl.trans hb3
        have B1 := HB1Y.out.below hbY3 (by omega)
        have B2 := HB2Y.out.below hbY3 (by omega)
        have c1 := B1.cell 0
        have c2 := B2.cell 0
        have f1 := B1.frozen 0
        have f2 := B2.frozen 0
        simp at c1 c2
        have D1 := (B1.set_ 0 (.bool b)).far (p := ⟨w.heap.size + 1 + 1, 0, none⟩) (by simp) (.int .i64 0)
        have D2 := (B2.far (p := ⟨w.heap.size + 1, 0, none⟩) (by simp) (.bool b)).set_ 0 (.int .i64 0)
        have d1 := D1.cell 0
        have d2 := D2.cell 0
        simp at d1 d2
        have HbY3 := hide hbY3
        clear B1 B2 D1 D2 hb3 hbY3
        go_wp2_with fail
        refine leaves_cons (f := 114) (args := #[.pointer (some ⟨w.heap.size + 1, 0, none⟩), .pointer (some ⟨w.heap.size + 1 + 1, 0, none⟩)]) (by simp) (by simp [go_sem]) ?_
        refine (catch_idle ⟨w.heap.size + 1, 0, none⟩ ⟨w.heap.size + 1 + 1, 0, none⟩ _).mono ?_
        rintro e u' w'' ⟨rfl, rfl, rfl⟩
        simp [Leaves, settle, results, Tryz.results91, go_sem, d1, d2]
        exact ⟨by rw [HRs.out]; rfl, ((HY1.out.trans (HbY3.out.mono (by omega))).setCell (by show _ ≤ w.heap.size + 1; omega) _).setCell (by show _ ≤ w.heap.size + 1 + 1; omega) _⟩
end
section
open Go.RowKit

theorem lessEnter (args : Array Value) (w : World) : (callFunc 92 args).run Tryz.prog w = .ok (.enter 92 args) w := by
  simp [go_sem, Tryz.func92]
theorem lessOK (vals : List Int) (vv : Value) (S : Nat → Prop) (o d : Int) (dv cv : Value) (sb : Nat) (w : World) (h : (sliceR (intR .i64)).one w S vv vals) (hS : ∀ b, S b → b < w.heap.size) (hb : Blk w sb 51 (stCells vv o d dv cv)) (x : Inst) :
    LessOK 92 #[.pointer (some ⟨sb, 0, none⟩)] (cmS vals) x w := by
  intro w' hw
  have h' := slice_below h hw hS
  have hS' : ∀ b, S b → b < w'.heap.size := fun b hb => Nat.lt_of_lt_of_le (hS b hb) hw.size
  have hb' := hb.below hw hb.lt
  unfold cmS
  cases hx : valO vals x.la x.ln with
  | none => exact less_none1 vals vv S o d dv cv x.la x.ln x.ra x.rn sb w' h' hS' hb' hx |>.mono fun e w'' ⟨p, h1, h2, h3⟩ => ⟨by rw [h1, h2], h3⟩
  | some a =>
    cases hy : valO vals x.ra x.rn with
    | none => exact less_none2 vals vv S o d dv cv x.la x.ln x.ra x.rn a sb w' h' hS' hb' hx hy |>.mono fun e w'' ⟨p, h1, h2, h3⟩ => ⟨by rw [h1, h2], h3⟩
    | some b => exact less_some vals vv S o d dv cv x.la x.ln x.ra x.rn a b sb w' h' hS' hb' hx hy

theorem sides_any (l : List Inst) (lv : Value) (S : Nat → Prop) (k : Nat) (caps : Array Value) (vv : Value) (o d : Int) (dv cv : Value) (w : World) (h : (sliceR instR).one w S lv l) (hS : ∀ b, S b → b < w.heap.size) (hl : l.length ≤ 900)
    (hcf : ∀ (args : Array Value) (w : World), (callFunc k args).run Tryz.prog w = .ok (.enter k args) w) (cm : Inst → Option Int) (HL : ∀ x ∈ l, LessOK k caps cm x w) :
    Calls Tryz.prog 91 #[lv, .func (.func k) #[] caps, stAgg vv o d dv cv] w (SidesPost (holdsG cm o d l) w) := by
  by_cases hc : checkE (l.map Inst.op) = 0
  · exact sides_ok l lv S k caps vv o d dv cv w h hS hl hc hcf cm (hide HL)
  · have e : holdsG cm o d l = none := by unfold holdsG; rw [if_pos hc]
    rw [e]
    exact sides_bad l lv S k caps vv o d dv cv w h hS hl hc

set_option maxHeartbeats 1000000 in
theorem holds_any (l : List Inst) (s : St) (lv vv : Value) (dv cv : Value) (S T : Nat → Prop) (w : World) (h : (sliceR instR).one w S lv l) (hS : ∀ b, S b → b < w.heap.size) (hl : l.length ≤ 900) (hv : (sliceR (intR .i64)).one w T vv s.vals) (hT : ∀ b, T b → b < w.heap.size) :
    Calls Tryz.prog 70 #[lv, stAgg vv s.opn s.don dv cv] w (SidesPost (holdsO l s) w) := by
  obtain ⟨vals, o, d, did, cnt⟩ := s
  simp only at hv ⊢
  unfold holdsO
  simp only
  have hmf : ∀ (fn : Fn) (first cap : Array Value) (w : World), (Instr.makeFunc fn first cap).run Tryz.prog w = .ok (.func fn first cap) w := fun _ _ _ _ => rfl
  have hb0 : Below w.heap.size w (w.alloc (.cells #[vv, .int .i64 o, .int .i64 d, dv, cv] 51)) := (Below.refl _ _).alloc (Nat.le_refl _) _
  have hC := hide (sides_any l lv S 92 #[.pointer (some ⟨w.heap.size, 0, none⟩)] vv o d dv cv _ (slice_below h hb0 hS) (fun b hb => by have := hS b hb; simp; omega) hl lessEnter (cmS vals) (fun x _ => lessOK vals vv T o d dv cv w.heap.size _ (slice_below hv hb0 hT) (fun b hb => by have := hT b hb; simp; omega) (Blk.new w _ _) x))
  have HB := hide hb0
  clear h hS hv hT hb0
  go_enter Tryz.func70, Tryz.ntmps70
  go_wp2_with fail
  refine hC.out.mono ?_
  rintro e w1 ⟨rfl, hb1⟩
  go_wp2_with fail
  go_ret2
  exact ⟨rfl, HB.out.trans (hb1.mono HB.out.size)⟩
end
section
open Go.RowKit

theorem rt_insts {w : World} {S : Nat → Prop} {v : Value} {l : List Inst} (h : RT w S v (sInsts l)) (hl : ∀ x ∈ l, x.ok) : (sliceR instR).one w S v l := by
  obtain ⟨A, cap, rfl, hc, hm, _, hA⟩ := h.sl_inv
  refine ⟨A, cap, by simp, by simpa using hc, hm, fun h0 => ?_⟩
  obtain ⟨b, o, rfl, hb, U, hcell, hr, _⟩ := hA (by simpa using h0)
  refine ⟨b, o, rfl, hb, fun i hi => ⟨l[i].cells, fun j u hu => ?_, rfl, hl _ (List.getElem_mem hi)⟩⟩
  have h1 : (l.map eInst)[i]? = some (eInst l[i]) := by simp [hi]
  have h3 : ∀ (j : Nat) (u : Value), l[i].cells[j]? = some u → (eInst l[i])[j]? = some (AV.c u) := by
    intro j u hu
    unfold Inst.cells at hu
    match j with
    | 0 | 1 | 2 | 3 | 4 | 5 | 6 => simp at hu; subst hu; rfl
    | j + 7 => simp at hu
  have h4 := h3 j u hu
  have h2 := hcell i j _ _ h1 h4
  rw [rtc (hr i j _ _ h1 h4)] at h2
  exact h2
theorem has_A (s i : Int) : ADet Tryz.prog 89 [eI s, eI i] (val (.bool (hasB s i))) :=
  adet_of_calls (enters_of Tryz.func89 rfl (by decide)) fun S w vs hS hn hv => by
    obtain ⟨a, b, rfl⟩ := two_args hn
    obtain rfl := rtc (hv 0 a _ rfl rfl)
    obtain rfl := rtc (hv 1 b _ rfl rfl)
    exact (has_any s i w).mono fun e w' ⟨h1, h2⟩ => ⟨h1, h2 ▸ Below.refl _ _⟩
theorem with_A (s i : Int) : ADet Tryz.prog 58 [eI s, eI i] (val (.int .i64 (withB s i))) :=
  adet_of_calls (enters_of Tryz.func58 rfl (by decide)) fun S w vs hS hn hv => by
    obtain ⟨a, b, rfl⟩ := two_args hn
    obtain rfl := rtc (hv 0 a _ rfl rfl)
    obtain rfl := rtc (hv 1 b _ rfl rfl)
    exact (with_any s i w).mono fun e w' ⟨h1, h2⟩ => ⟨h1, h2 ▸ Below.refl _ _⟩
theorem without_A (s i : Int) : ADet Tryz.prog 73 [eI s, eI i] (val (.int .i64 (withoutB s i))) :=
  adet_of_calls (enters_of Tryz.func73 rfl (by decide)) fun S w vs hS hn hv => by
    obtain ⟨a, b, rfl⟩ := two_args hn
    obtain rfl := rtc (hv 0 a _ rfl rfl)
    obtain rfl := rtc (hv 1 b _ rfl rfl)
    exact (without_any s i w).mono fun e w' ⟨h1, h2⟩ => ⟨h1, h2 ▸ Below.refl _ _⟩
theorem below_A (l : List Int) (i : Int) (hl : l.length ≤ 1073741824) (ho : ∀ x ∈ l, ok64 x) : ADet Tryz.prog 71 [sI l, eI i] (own 3 1 ((belowL l i).map fun n => [eI n])) :=
  adet_of_list (enters_of Tryz.func71 rfl (by decide)) fun S w vs hS hn hv => by
    obtain ⟨a, b, rfl⟩ := two_args hn
    obtain rfl := rtc (hv 1 b _ rfl rfl)
    exact below_any l a i w hl (rt_ints (hv 0 a _ rfl rfl) hS ho)
theorem holds_A (l : List Inst) (s : St) (hl : l.length ≤ 900) (ho : ∀ x ∈ l, x.ok) (hs : ∀ x ∈ s.vals, ok64 x) : ADet Tryz.prog 70 [sInsts l, .agg (eSt s)] ⟨.tup [eB (optB (holdsO l s)), eI (optE (holdsO l s))], [], 0⟩ :=
  ⟨enters_of Tryz.func70 rfl (by decide), fun S w vs hS hn hv => by
    obtain ⟨a, b, rfl⟩ := two_args hn
    have hb := hv 1 b _ rfl rfl
    cases hb with
    | agg xs cs hxn hr =>
      have hx : ∀ j (hj : j < 5), ∃ x, xs[j]? = some x := fun j hj => ⟨_, Array.getElem?_eq_getElem (by simp at hxn; omega)⟩
      obtain ⟨x0, e0⟩ := hx 0 (by omega)
      obtain ⟨x1, e1⟩ := hx 1 (by omega)
      obtain ⟨x2, e2⟩ := hx 2 (by omega)
      obtain ⟨x3, e3⟩ := hx 3 (by omega)
      obtain ⟨x4, e4⟩ := hx 4 (by omega)
      have hxs : xs = #[x0, x1, x2, x3, x4] := by
        apply Array.ext_getElem?
        intro j
        match j with
        | 0 => simpa using e0
        | 1 => simpa using e1
        | 2 => simpa using e2
        | 3 => simpa using e3
        | 4 => simpa using e4
        | j + 5 =>
          rw [Array.getElem?_eq_none (by simp at hxn; omega)]
          simp
      obtain rfl := rtc (hr 1 x1 _ e1 rfl)
      obtain rfl := rtc (hr 2 x2 _ e2 rfl)
      subst hxs
      have h0 := hr 0 x0 _ e0 rfl
      refine (holds_any l s a x0 x3 x4 S (fun b => b < w.heap.size) w (rt_insts (hv 0 a _ rfl rfl) ho) hS hl (rt_ints h0 hS hs) (fun b hb => hb)).mono fun e w' ⟨h1, h2⟩ => ?_
      refine ⟨_, fun _ => undef, _, rfl, ⟨fun id o h => (by cases h), ⟨trivial, trivial, trivial⟩⟩, h1, ⟨belowX h2, fun id o h => (by cases h), fun id id' o o' g h => (by cases h), fun b hb => hb.elim⟩, .tree (.tup _ _ rfl fun j x av h3 h4 => ?_)⟩
      match j with
      | 0 => simp at h3 h4; subst h3; subst h4; exact .c _
      | 1 => simp at h3 h4; subst h3; subst h4; exact .c _
      | j + 2 => simp at h3⟩

/-! ### bstep -/
def sentryM (m : Mod) (x : Bool × Int) : Option (Int × Int × List Inst × Int) :=
  if x.1 = true then (if 0 ≤ x.2 then (m.miles[x.2.toNat]?).map fun K => (K.stage, K.event, K.cond, x.2) else none)
  else (if 0 ≤ x.2 then (m.guards[x.2.toNat]?).map fun g => (g.stage, g.event, g.cond, -1) else none)
def findR (m : Mod) (x : Bool × Int) : Res :=
  match sentryM m x with
  | some (st, ev, cond, mi) => ⟨.tup [.agg [eI st, eI ev, sInsts cond, eI mi], eB (decide (0 ≤ st) && decide (st < m.stages.length))], [], 0⟩
  | none => ⟨.tup [.agg [eI 0, eI 0, .c (.slice none 0 0), eI 0], eB false], [], 0⟩
theorem find_ok (m : Mod) (x : Bool × Int) : (findR m x).Ok := by
  unfold findR
  split <;> exact ⟨fun id o h => (by cases h), ⟨⟨trivial, trivial, trivial, trivial, trivial⟩, trivial, trivial⟩⟩
set_option maxRecDepth 100000 in
set_option maxHeartbeats 4000000 in
theorem find_A (m : Mod) (xm : Bool) (xn : Int) : ADet Tryz.prog 69 [.agg (eMod m), .agg [eB xm, eI xn]] (findR m (xm, xn)) := by
  refine adet_of_code mixedT Tryz.func69 rfl (by decide) Tryz.ntmps69 Tryz.results69 rfl (find_ok m (xm, xn)) ?_
  by_cases h0 : 0 ≤ xn
  · obtain ⟨k, rfl⟩ : ∃ k : Nat, xn = (k : Int) := ⟨xn.toNat, by omega⟩
    cases xm
    · by_cases hk : k < m.guards.length
      · have e : sentryM m (false, (k : Int)) = some (m.guards[k].stage, m.guards[k].event, m.guards[k].cond, -1) := by simp [sentryM, hk]
        have eR : findR m (false, (k : Int)) = ⟨.tup [.agg [eI m.guards[k].stage, eI m.guards[k].event, sInsts m.guards[k].cond, eI (-1)], eB (decide (0 ≤ m.guards[k].stage) && decide (m.guards[k].stage < m.stages.length))], [], 0⟩ := by unfold findR; rw [e]
        rw [eR]
        (repeat' (first | simp (maxSteps := 5000000) (implicitDefEqProofs := false) only [ruA, ruB, aEv, aTake, aLoad, aField, aIndex, aLen, aBin, bin2, aUn, un1, aExtract, aConv, ASt.get, aget, ASt.put, aStore, aBox, aAppend, aBuildSlice, aMake, aBuild, aFill, oneParts, allC, aBinS, yv, aCells, oneC, oneCL, treeC, treeL, aLit, aDst, aSrc, appTab, Value.cells, Value.oneCell', envOf, aResL, aOne, ↓reduceIte, reduceCtorEq, forall_const, Nat.reduceLT, Nat.reduceEqDiff, Nat.reduceAdd, Nat.reduceMul, Nat.reduceSub, Nat.reduceLeDiff, Nat.reduceBEq, eq_self, implies_true, ne_eq, dref, dref1, dref2, aExecS, aStoreB, aTakes, aTakeE, aElder, aFrom, aFresh, isLoad, aBuildSlice1, frzs, frz1, ownIds, AV.frz, AV.frzL, frzEnv, AV.shift, AV.shiftL, aFieldV, aSliceW, aSliceO, aSlice, aSliceR, aSliceS, aBd, aMax, frzAVs, frzAV, frzTab, AObj.frz, aMM, aNilS, aMay, aNil, tyA_124, tyS_124, tyZ_124, tyF_67_0, tyA_4, tyS_4, tyF_67_1, tyA_3, tyS_3, tyK_3, tyF_41_7, tyA_37, tyS_37, tyE_37, tyK_37, tyA_91, tyS_91, tyZ_91, tyF_91_1, tyF_91_2, tyF_91_3, tyA_86, tyS_86, tyB_124, tyF_41_6, tyA_36, tyS_36, tyE_36, tyK_36, tyA_88, tyS_88, tyZ_88, tyF_88_0, tyF_88_1, tyF_88_2, tyF_124_0, tyF_41_4, tyA_34, tyS_34, tyE_34, tyK_34, row_at, hk] | (with_reducible refine aIf_split (fun _ => ?_) (fun _ => ?_)) | (with_reducible refine aSel_split (fun _ => ?_) (fun _ => ?_)) | (with_reducible refine aGd_split (fun _ => ?_) (fun _ => ?_))))
        refine aDraw_held [2] [0, 1, 2, 3, 4, 5, 6, 7, 8, 9, 10, 11] (.exec 12 (.exec 13 .done)) (by kernel_rfl) (by simp [ATab.get_cons]) ?_
        (repeat' (first | simp (maxSteps := 5000000) (implicitDefEqProofs := false) only [ruA, ruB, aEv, aTake, aLoad, aField, aIndex, aLen, aBin, bin2, aUn, un1, aExtract, aConv, ASt.get, aget, ASt.put, aStore, aBox, aAppend, aBuildSlice, aMake, aBuild, aFill, oneParts, allC, aBinS, yv, aCells, oneC, oneCL, treeC, treeL, aLit, aDst, aSrc, appTab, Value.cells, Value.oneCell', envOf, aResL, aOne, ↓reduceIte, reduceCtorEq, forall_const, Nat.reduceLT, Nat.reduceEqDiff, Nat.reduceAdd, Nat.reduceMul, Nat.reduceSub, Nat.reduceLeDiff, Nat.reduceBEq, eq_self, implies_true, ne_eq, dref, dref1, dref2, aExecS, aStoreB, aTakes, aTakeE, aElder, aFrom, aFresh, isLoad, aBuildSlice1, frzs, frz1, ownIds, AV.frz, AV.frzL, frzEnv, AV.shift, AV.shiftL, aFieldV, aSliceW, aSliceO, aSlice, aSliceR, aSliceS, aBd, aMax, frzAVs, frzAV, frzTab, AObj.frz, aMM, aNilS, aMay, aNil, tyA_124, tyS_124, tyZ_124, tyF_67_0, tyA_4, tyS_4, tyF_67_1, tyA_3, tyS_3, tyK_3, tyF_41_7, tyA_37, tyS_37, tyE_37, tyK_37, tyA_91, tyS_91, tyZ_91, tyF_91_1, tyF_91_2, tyF_91_3, tyA_86, tyS_86, tyB_124, tyF_41_6, tyA_36, tyS_36, tyE_36, tyK_36, tyA_88, tyS_88, tyZ_88, tyF_88_0, tyF_88_1, tyF_88_2, tyF_124_0, tyF_41_4, tyA_34, tyS_34, tyE_34, tyK_34, row_at, hk] | (with_reducible refine aIf_split (fun _ => ?_) (fun _ => ?_)) | (with_reducible refine aSel_split (fun _ => ?_) (fun _ => ?_)) | (with_reducible refine aGd_split (fun _ => ?_) (fun _ => ?_))))
        · rename_i h
          exact gives_tree (by simp only [AV.ren, AV.renL, h, Bool.true_and])
        · rename_i h
          exact gives_tree (by simp only [AV.ren, AV.renL, h, Bool.false_and])
      · have eR : findR m (false, (k : Int)) = ⟨.tup [.agg [eI 0, eI 0, .c (.slice none 0 0), eI 0], eB false], [], 0⟩ := by simp [findR, sentryM, hk]
        rw [eR]
        (repeat' (first | simp (maxSteps := 5000000) (implicitDefEqProofs := false) only [ruA, ruB, aEv, aTake, aLoad, aField, aIndex, aLen, aBin, bin2, aUn, un1, aExtract, aConv, ASt.get, aget, ASt.put, aStore, aBox, aAppend, aBuildSlice, aMake, aBuild, aFill, oneParts, allC, aBinS, yv, aCells, oneC, oneCL, treeC, treeL, aLit, aDst, aSrc, appTab, Value.cells, Value.oneCell', envOf, aResL, aOne, ↓reduceIte, reduceCtorEq, forall_const, Nat.reduceLT, Nat.reduceEqDiff, Nat.reduceAdd, Nat.reduceMul, Nat.reduceSub, Nat.reduceLeDiff, Nat.reduceBEq, eq_self, implies_true, ne_eq, dref, dref1, dref2, aExecS, aStoreB, aTakes, aTakeE, aElder, aFrom, aFresh, isLoad, aBuildSlice1, frzs, frz1, ownIds, AV.frz, AV.frzL, frzEnv, AV.shift, AV.shiftL, aFieldV, aSliceW, aSliceO, aSlice, aSliceR, aSliceS, aBd, aMax, frzAVs, frzAV, frzTab, AObj.frz, aMM, aNilS, aMay, aNil, tyA_124, tyS_124, tyZ_124, tyF_67_0, tyA_4, tyS_4, tyF_67_1, tyA_3, tyS_3, tyK_3, tyF_41_7, tyA_37, tyS_37, tyE_37, tyK_37, tyA_91, tyS_91, tyZ_91, tyF_91_1, tyF_91_2, tyF_91_3, tyA_86, tyS_86, tyB_124, tyF_41_6, tyA_36, tyS_36, tyE_36, tyK_36, tyA_88, tyS_88, tyZ_88, tyF_88_0, tyF_88_1, tyF_88_2, tyF_124_0, tyF_41_4, tyA_34, tyS_34, tyE_34, tyK_34, row_at, hk] | (with_reducible refine aIf_split (fun _ => ?_) (fun _ => ?_)) | (with_reducible refine aSel_split (fun _ => ?_) (fun _ => ?_)) | (with_reducible refine aGd_split (fun _ => ?_) (fun _ => ?_))))
        exact gives_tree rfl
    · by_cases hk : k < m.miles.length
      · have e : sentryM m (true, (k : Int)) = some (m.miles[k].stage, m.miles[k].event, m.miles[k].cond, (k : Int)) := by simp [sentryM, hk]
        have eR : findR m (true, (k : Int)) = ⟨.tup [.agg [eI m.miles[k].stage, eI m.miles[k].event, sInsts m.miles[k].cond, eI k], eB (decide (0 ≤ m.miles[k].stage) && decide (m.miles[k].stage < m.stages.length))], [], 0⟩ := by unfold findR; rw [e]
        rw [eR]
        (repeat' (first | simp (maxSteps := 5000000) (implicitDefEqProofs := false) only [ruA, ruB, aEv, aTake, aLoad, aField, aIndex, aLen, aBin, bin2, aUn, un1, aExtract, aConv, ASt.get, aget, ASt.put, aStore, aBox, aAppend, aBuildSlice, aMake, aBuild, aFill, oneParts, allC, aBinS, yv, aCells, oneC, oneCL, treeC, treeL, aLit, aDst, aSrc, appTab, Value.cells, Value.oneCell', envOf, aResL, aOne, ↓reduceIte, reduceCtorEq, forall_const, Nat.reduceLT, Nat.reduceEqDiff, Nat.reduceAdd, Nat.reduceMul, Nat.reduceSub, Nat.reduceLeDiff, Nat.reduceBEq, eq_self, implies_true, ne_eq, dref, dref1, dref2, aExecS, aStoreB, aTakes, aTakeE, aElder, aFrom, aFresh, isLoad, aBuildSlice1, frzs, frz1, ownIds, AV.frz, AV.frzL, frzEnv, AV.shift, AV.shiftL, aFieldV, aSliceW, aSliceO, aSlice, aSliceR, aSliceS, aBd, aMax, frzAVs, frzAV, frzTab, AObj.frz, aMM, aNilS, aMay, aNil, tyA_124, tyS_124, tyZ_124, tyF_67_0, tyA_4, tyS_4, tyF_67_1, tyA_3, tyS_3, tyK_3, tyF_41_7, tyA_37, tyS_37, tyE_37, tyK_37, tyA_91, tyS_91, tyZ_91, tyF_91_1, tyF_91_2, tyF_91_3, tyA_86, tyS_86, tyB_124, tyF_41_6, tyA_36, tyS_36, tyE_36, tyK_36, tyA_88, tyS_88, tyZ_88, tyF_88_0, tyF_88_1, tyF_88_2, tyF_124_0, tyF_41_4, tyA_34, tyS_34, tyE_34, tyK_34, row_at, hk] | (with_reducible refine aIf_split (fun _ => ?_) (fun _ => ?_)) | (with_reducible refine aSel_split (fun _ => ?_) (fun _ => ?_)) | (with_reducible refine aGd_split (fun _ => ?_) (fun _ => ?_))))
        refine aDraw_held [2] [0, 1, 2, 3, 4, 5, 6, 7, 8, 9, 10, 11] (.exec 12 (.exec 13 .done)) (by kernel_rfl) (by simp [ATab.get_cons]) ?_
        (repeat' (first | simp (maxSteps := 5000000) (implicitDefEqProofs := false) only [ruA, ruB, aEv, aTake, aLoad, aField, aIndex, aLen, aBin, bin2, aUn, un1, aExtract, aConv, ASt.get, aget, ASt.put, aStore, aBox, aAppend, aBuildSlice, aMake, aBuild, aFill, oneParts, allC, aBinS, yv, aCells, oneC, oneCL, treeC, treeL, aLit, aDst, aSrc, appTab, Value.cells, Value.oneCell', envOf, aResL, aOne, ↓reduceIte, reduceCtorEq, forall_const, Nat.reduceLT, Nat.reduceEqDiff, Nat.reduceAdd, Nat.reduceMul, Nat.reduceSub, Nat.reduceLeDiff, Nat.reduceBEq, eq_self, implies_true, ne_eq, dref, dref1, dref2, aExecS, aStoreB, aTakes, aTakeE, aElder, aFrom, aFresh, isLoad, aBuildSlice1, frzs, frz1, ownIds, AV.frz, AV.frzL, frzEnv, AV.shift, AV.shiftL, aFieldV, aSliceW, aSliceO, aSlice, aSliceR, aSliceS, aBd, aMax, frzAVs, frzAV, frzTab, AObj.frz, aMM, aNilS, aMay, aNil, tyA_124, tyS_124, tyZ_124, tyF_67_0, tyA_4, tyS_4, tyF_67_1, tyA_3, tyS_3, tyK_3, tyF_41_7, tyA_37, tyS_37, tyE_37, tyK_37, tyA_91, tyS_91, tyZ_91, tyF_91_1, tyF_91_2, tyF_91_3, tyA_86, tyS_86, tyB_124, tyF_41_6, tyA_36, tyS_36, tyE_36, tyK_36, tyA_88, tyS_88, tyZ_88, tyF_88_0, tyF_88_1, tyF_88_2, tyF_124_0, tyF_41_4, tyA_34, tyS_34, tyE_34, tyK_34, row_at, hk] | (with_reducible refine aIf_split (fun _ => ?_) (fun _ => ?_)) | (with_reducible refine aSel_split (fun _ => ?_) (fun _ => ?_)) | (with_reducible refine aGd_split (fun _ => ?_) (fun _ => ?_))))
        · rename_i h
          exact gives_tree (by simp only [AV.ren, AV.renL, h, Bool.true_and])
        · rename_i h
          exact gives_tree (by simp only [AV.ren, AV.renL, h, Bool.false_and])
      · have eR : findR m (true, (k : Int)) = ⟨.tup [.agg [eI 0, eI 0, .c (.slice none 0 0), eI 0], eB false], [], 0⟩ := by simp [findR, sentryM, hk]
        rw [eR]
        (repeat' (first | simp (maxSteps := 5000000) (implicitDefEqProofs := false) only [ruA, ruB, aEv, aTake, aLoad, aField, aIndex, aLen, aBin, bin2, aUn, un1, aExtract, aConv, ASt.get, aget, ASt.put, aStore, aBox, aAppend, aBuildSlice, aMake, aBuild, aFill, oneParts, allC, aBinS, yv, aCells, oneC, oneCL, treeC, treeL, aLit, aDst, aSrc, appTab, Value.cells, Value.oneCell', envOf, aResL, aOne, ↓reduceIte, reduceCtorEq, forall_const, Nat.reduceLT, Nat.reduceEqDiff, Nat.reduceAdd, Nat.reduceMul, Nat.reduceSub, Nat.reduceLeDiff, Nat.reduceBEq, eq_self, implies_true, ne_eq, dref, dref1, dref2, aExecS, aStoreB, aTakes, aTakeE, aElder, aFrom, aFresh, isLoad, aBuildSlice1, frzs, frz1, ownIds, AV.frz, AV.frzL, frzEnv, AV.shift, AV.shiftL, aFieldV, aSliceW, aSliceO, aSlice, aSliceR, aSliceS, aBd, aMax, frzAVs, frzAV, frzTab, AObj.frz, aMM, aNilS, aMay, aNil, tyA_124, tyS_124, tyZ_124, tyF_67_0, tyA_4, tyS_4, tyF_67_1, tyA_3, tyS_3, tyK_3, tyF_41_7, tyA_37, tyS_37, tyE_37, tyK_37, tyA_91, tyS_91, tyZ_91, tyF_91_1, tyF_91_2, tyF_91_3, tyA_86, tyS_86, tyB_124, tyF_41_6, tyA_36, tyS_36, tyE_36, tyK_36, tyA_88, tyS_88, tyZ_88, tyF_88_0, tyF_88_1, tyF_88_2, tyF_124_0, tyF_41_4, tyA_34, tyS_34, tyE_34, tyK_34, row_at, hk] | (with_reducible refine aIf_split (fun _ => ?_) (fun _ => ?_)) | (with_reducible refine aSel_split (fun _ => ?_) (fun _ => ?_)) | (with_reducible refine aGd_split (fun _ => ?_) (fun _ => ?_))))
        exact gives_tree rfl
  · have eR : findR m (xm, xn) = ⟨.tup [.agg [eI 0, eI 0, .c (.slice none 0 0), eI 0], eB false], [], 0⟩ := by cases xm <;> simp [findR, sentryM, h0]
    rw [eR]
    cases xm
    all_goals
      (repeat' (first | simp (maxSteps := 5000000) (implicitDefEqProofs := false) only [ruA, ruB, aEv, aTake, aLoad, aField, aIndex, aLen, aBin, bin2, aUn, un1, aExtract, aConv, ASt.get, aget, ASt.put, aStore, aBox, aAppend, aBuildSlice, aMake, aBuild, aFill, oneParts, allC, aBinS, yv, aCells, oneC, oneCL, treeC, treeL, aLit, aDst, aSrc, appTab, Value.cells, Value.oneCell', envOf, aResL, aOne, ↓reduceIte, reduceCtorEq, forall_const, Nat.reduceLT, Nat.reduceEqDiff, Nat.reduceAdd, Nat.reduceMul, Nat.reduceSub, Nat.reduceLeDiff, Nat.reduceBEq, eq_self, implies_true, ne_eq, dref, dref1, dref2, aExecS, aStoreB, aTakes, aTakeE, aElder, aFrom, aFresh, isLoad, aBuildSlice1, frzs, frz1, ownIds, AV.frz, AV.frzL, frzEnv, AV.shift, AV.shiftL, aFieldV, aSliceW, aSliceO, aSlice, aSliceR, aSliceS, aBd, aMax, frzAVs, frzAV, frzTab, AObj.frz, aMM, aNilS, aMay, aNil, tyA_124, tyS_124, tyZ_124, tyF_67_0, tyA_4, tyS_4, tyF_67_1, tyA_3, tyS_3, tyK_3, tyF_41_7, tyA_37, tyS_37, tyE_37, tyK_37, tyA_91, tyS_91, tyZ_91, tyF_91_1, tyF_91_2, tyF_91_3, tyA_86, tyS_86, tyB_124, tyF_41_6, tyA_36, tyS_36, tyE_36, tyK_36, tyA_88, tyS_88, tyZ_88, tyF_88_0, tyF_88_1, tyF_88_2, tyF_124_0, tyF_41_4, tyA_34, tyS_34, tyE_34, tyK_34, h0] | (with_reducible refine aIf_split (fun _ => ?_) (fun _ => ?_)) | (with_reducible refine aSel_split (fun _ => ?_) (fun _ => ?_)) | (with_reducible refine aGd_split (fun _ => ?_) (fun _ => ?_))))
      exact gives_tree rfl
def aboveM (m : Mod) (opn st : Int) : Bool :=
  ((m.stages.getD st.toNat (⟨#[]⟩, 0)).2 == -1) || (decide ((m.stages.getD st.toNat (⟨#[]⟩, 0)).2 < m.stages.length) && hasB opn (m.stages.getD st.toNat (⟨#[]⟩, 0)).2)
set_option maxRecDepth 100000 in
theorem above_A (m : Mod) (s : St) (k : Nat) (hk : k < m.stages.length) : ADet Tryz.prog 90 [.agg (eMod m), .agg (eSt s), eI (k : Int)] (val (.bool (aboveM m s.opn k))) := by
  refine adet_of_code mixedT Tryz.func90 rfl (by decide) Tryz.ntmps90 Tryz.results90 rfl (val_ok _) ?_
  have e : aboveM m s.opn k = ((m.stages[k].2 == -1) || (decide (m.stages[k].2 < m.stages.length) && hasB s.opn m.stages[k].2)) := by simp [aboveM, hk]
  rw [e]
  (repeat' (first | simp (maxSteps := 5000000) (implicitDefEqProofs := false) only [ruA, ruB, aEv, aTake, aLoad, aField, aIndex, aLen, aBin, bin2, aUn, un1, aExtract, aConv, ASt.get, aget, ASt.put, aStore, aBox, aAppend, aBuildSlice, aMake, aBuild, aFill, oneParts, allC, aBinS, yv, aCells, oneC, oneCL, treeC, treeL, aLit, aDst, aSrc, appTab, Value.cells, Value.oneCell', envOf, aResL, aOne, ↓reduceIte, reduceCtorEq, forall_const, Nat.reduceLT, Nat.reduceEqDiff, Nat.reduceAdd, Nat.reduceMul, Nat.reduceSub, Nat.reduceLeDiff, Nat.reduceBEq, eq_self, implies_true, ne_eq, dref, dref1, dref2, aExecS, aStoreB, aTakes, aTakeE, aElder, aFrom, aFresh, isLoad, aBuildSlice1, frzs, frz1, ownIds, AV.frz, AV.frzL, frzEnv, AV.shift, AV.shiftL, aFieldV, aSliceW, aSliceO, aSlice, aSliceR, aSliceS, aBd, aMax, frzAVs, frzAV, frzTab, AObj.frz, aMM, aNilS, aMay, aNil, tyF_41_4, tyA_34, tyS_34, tyE_34, tyF_83_1, tyA_3, tyS_3, tyK_3, tyK_34, tyF_51_1, row_at, hk] | (with_reducible refine aIf_split (fun _ => ?_) (fun _ => ?_)) | (with_reducible refine aSel_split (fun _ => ?_) (fun _ => ?_)) | (with_reducible refine aGd_split (fun _ => ?_) (fun _ => ?_))))
  · rename_i h
    rw [h]; rfl
  · rename_i h1 h2
    refine callV (has_A _ _) ?_
    (repeat' (first | simp (maxSteps := 5000000) (implicitDefEqProofs := false) only [ruA, ruB, aEv, aTake, aLoad, aField, aIndex, aLen, aBin, bin2, aUn, un1, aExtract, aConv, ASt.get, aget, ASt.put, aStore, aBox, aAppend, aBuildSlice, aMake, aBuild, aFill, oneParts, allC, aBinS, yv, aCells, oneC, oneCL, treeC, treeL, aLit, aDst, aSrc, appTab, Value.cells, Value.oneCell', envOf, aResL, aOne, ↓reduceIte, reduceCtorEq, forall_const, Nat.reduceLT, Nat.reduceEqDiff, Nat.reduceAdd, Nat.reduceMul, Nat.reduceSub, Nat.reduceLeDiff, Nat.reduceBEq, eq_self, implies_true, ne_eq, dref, dref1, dref2, aExecS, aStoreB, aTakes, aTakeE, aElder, aFrom, aFresh, isLoad, aBuildSlice1, frzs, frz1, ownIds, AV.frz, AV.frzL, frzEnv, AV.shift, AV.shiftL, aFieldV, aSliceW, aSliceO, aSlice, aSliceR, aSliceS, aBd, aMax, frzAVs, frzAV, frzTab, AObj.frz, aMM, aNilS, aMay, aNil, tyF_41_4, tyA_34, tyS_34, tyE_34, tyF_83_1, tyA_3, tyS_3, tyK_3, tyK_34, tyF_51_1, row_at, hk] | (with_reducible refine aIf_split (fun _ => ?_) (fun _ => ?_)) | (with_reducible refine aSel_split (fun _ => ?_) (fun _ => ?_)) | (with_reducible refine aGd_split (fun _ => ?_) (fun _ => ?_))))
    rw [h1]
    simp [h2]
  · rename_i h1 h2
    rw [h1]
    simp [h2]
end
section
open Go.RowKit
def LN (B : Nat) (w : World) (v : Value) (l : List Int) : Prop :=
  ∃ A c, v = .slice A l.length c ∧ l.length ≤ c ∧ c ≤ 9223372036854775807 ∧ (0 < l.length → ∃ b o, A = some ⟨b, o, none⟩ ∧ B ≤ b ∧ b < w.heap.size ∧ ∀ i (h : i < l.length), w.cell? ⟨b, o + i, none⟩ = some (.int .i64 l[i]))
theorem LN.rt {B : Nat} {w : World} {S : Nat → Prop} {v : Value} {l : List Int} (h : LN B w v l) (hS : ∀ b, B ≤ b → b < w.heap.size → S b) : RT w S v (sI l) := by
  obtain ⟨A, c, rfl, h1, h2, h3⟩ := h
  have key : ∀ (i j : Nat) (row : List AV) (av : AV), (l.map fun n => [eI n])[i]? = some row → row[j]? = some av → ∃ hi : i < l.length, j = 0 ∧ av = eI l[i] := fun i j row av h4 h5 => by
    have hi : i < l.length := by
      have := (List.getElem?_eq_some_iff.1 h4).1
      simpa using this
    rw [List.getElem?_map, List.getElem?_eq_getElem hi] at h4
    cases h4
    match j with
    | 0 => exact ⟨hi, rfl, by simpa using h5.symm⟩
    | j + 1 => simp at h5
  by_cases h0 : 0 < l.length
  · obtain ⟨b, o, rfl, hb, hbs, hcell⟩ := h3 h0
    refine .sl _ _ c 1 _ b o (fun i _ => .int .i64 (l.getD i 0)) (by simp) h1 h2 (fun _ => ⟨rfl, hS b hb hbs⟩) (fun row hr => by obtain ⟨n, _, rfl⟩ := List.mem_map.1 hr; rfl) (fun _ i j row av h4 h5 => ?_) (fun _ _ _ _ _ _ => rfl) (fun i j row av h4 h5 => ?_)
    · obtain ⟨hi, rfl, _⟩ := key i j row av h4 h5
      rw [Nat.mul_one, Nat.add_zero, hcell i hi, List.getD_eq_getElem?_getD, List.getElem?_eq_getElem hi]
      rfl
    · obtain ⟨hi, rfl, rfl⟩ := key i j row av h4 h5
      rw [List.getD_eq_getElem?_getD, List.getElem?_eq_getElem hi]
      exact .c _
  · have : l = [] := List.length_eq_zero_iff.1 (by omega)
    subst this
    exact .sl A 0 c 1 [] 0 0 (fun _ _ => undef) rfl h1 h2 (fun h => by omega) (by simp) (fun h => by omega) (by simp) (by simp)
theorem LI.of_rt {w : World} {S : Nat → Prop} {v : Value} {l : List Int} (h : RT w S v (sI l)) (hS : SOk w S) : LI w v l := by
  obtain ⟨A, cap, rfl, hc, hm, _, hA⟩ := h.sl_inv
  refine ⟨A, cap, by simp, by simpa using hc, fun h0 => ?_⟩
  obtain ⟨b, o, rfl, hb, U, hcell, hr, _⟩ := hA (by simpa using h0)
  refine ⟨b, o, rfl, hS b hb, fun i hi => ?_⟩
  have h1 : (l.map fun n => [eI n])[i]? = some [eI l[i]] := by simp [hi]
  have h2 := hcell i 0 _ _ h1 rfl
  have h3 := rtc (hr i 0 _ _ h1 rfl)
  rw [h3] at h2
  simpa using h2
end
section
open Go.RowKit Go.Sort

theorem compact_len (S : List Int) : (Lib.compact S).length ≤ S.length := by
  unfold Lib.compact Lib.compactUpTo
  rw [List.length_map]
  have := List.length_filter_le (Lib.keeps S.toArray) (List.range S.length)
  simpa using this

/-- the empty ways -/
theorem clone0_any (A : Option Addr) (c : Nat) (w : World) :
    Calls Tryz.prog 50 #[.slice A 0 c] w fun e w' => (∃ A' c', e = .returned (.slice A' 0 c') ∧ c' ≤ 9223372036854775807) ∧ Below w.heap.size w w' := by
  cases A with
  | none => exact (Tryz.slices_Clone_nil 0 c w).mono (by rintro e w' ⟨rfl, rfl⟩; exact ⟨⟨_, _, rfl, by decide⟩, Below.refl _ _⟩)
  | some a =>
    obtain ⟨i0, hi0, hz0, hz1, hz2⟩ := info_parts i64Info
    have q22 : ∀ (w : World) (a : Option Addr) (n c n' c' : Nat), (binOp .eql 32 (.slice a n c) (.slice none n' c')).run Tryz.prog w = .ok (.bool a.isNone) w := fun w a n c n' c' => Lib.run_eql_slice_nil w _ _ a n c n' c' Tryz.underlying32
    go_enter Tryz.func50, Tryz.ntmps50
    go_wp2_with fail
    go_ret
    exact ⟨⟨_, _, rfl, by decide⟩, (Below.refl _ _).alloc (Nat.le_refl _) _⟩
theorem ins0_any (A : Option Addr) (c : Nat) (w : World) :
    Calls Tryz.prog 98 #[.slice A 0 c, .int .i64 0, .int .i64 0] w fun e w' => e = .returned (.tuple #[]) ∧ Below w.heap.size w w' := by
  go_enter Tryz.func98, Tryz.ntmps98
  go_wp2_with fail
  go_loopw [6] (fun i wr => i = .int .i64 1 ∧ Below w.heap.size w wr) (fun i wr => 0)
  case atStart => exact ⟨rfl, Below.refl _ _⟩
  case round =>
    obtain ⟨rfl, hbl⟩ := hrel
    go_wp2_with fail
    go_end0
    exact ⟨rfl, hbl⟩
theorem pdq0_any (A : Option Addr) (c : Nat) (L : Int) (w : World) :
    Calls Tryz.prog 77 #[.slice A 0 c, .int .i64 0, .int .i64 0, .int .i64 L] w fun e w' => e = .returned (.tuple #[]) ∧ Below w.heap.size w w' := by
  go_enter Tryz.func77, Tryz.ntmps77
  go_wp2_with fail
  go_loopw [1, 2] (fun a b wr => a = .int .i64 0 ∧ b = .int .i64 0 ∧ Below w.heap.size w wr) (fun a b wr => 0)
  case atStart => exact ⟨rfl, rfl, Below.refl _ _⟩
  case round =>
    obtain ⟨rfl, rfl, hbl⟩ := hrel
    have h := ins0_any A c wr
    go_wp2_with fail
    refine h.mono ?_
    rintro e w2 ⟨rfl, hb2⟩
    go_wp2_with fail
    refine bodyPost_ret (results_none rfl _ _ _) rfl ?_
    exact ⟨rfl, hbl.trans (hb2.mono hbl.size)⟩
theorem sort0_any (A : Option Addr) (c : Nat) (w : World) :
    Calls Tryz.prog 53 #[.slice A 0 c] w fun e w' => e = .returned (.tuple #[]) ∧ Below w.heap.size w w' := by
  have h1 := Tryz.bits_Len 0 w (by decide) (by decide)
  generalize Lib.bitLen (0 : Int).toNat = L at *
  have h2 := pdq0_any A c L w
  go_enter Tryz.func53, Tryz.ntmps53
  go_wp2_with fail
  refine h1.mono ?_
  rintro e w2 ⟨rfl, rfl⟩
  go_wp2_with fail
  refine h2.mono ?_
  rintro e w3 ⟨rfl, hb⟩
  go_wp2_with fail
  go_end0
  exact ⟨rfl, hb⟩
theorem numSorted0_any (v : Value) (w : World) (h : LI w v []) :
    Calls Tryz.prog 30 #[v] w fun e w' => ∃ v', e = .returned v' ∧ LN w.heap.size w' v' (sortL []) ∧ Below w.heap.size w w' := by
  obtain ⟨A, c, rfl, hc, _⟩ := h
  have h1 := clone0_any A c w
  simp only [List.length_nil]
  go_enter Tryz.func30, Tryz.ntmps30
  go_wp2_with fail
  refine h1.mono ?_
  rintro e w2 ⟨⟨A', c', rfl, hc9⟩, hb2⟩
  have h2 := sort0_any A' c' w2
  go_wp2_with fail
  refine h2.mono ?_
  rintro e w3 ⟨rfl, hb3⟩
  have h3 := Tryz.slices_Compact_int_empty A' c' w3
  go_wp2_with fail
  refine h3.mono ?_
  rintro e w4 ⟨rfl, rfl⟩
  go_wp2_with fail
  go_ret
  rw [show sortL [] = [] by simp [sortL, Lib.compact, Lib.compactUpTo]]
  exact ⟨_, rfl, ⟨A', c', rfl, Nat.zero_le _, hc9, fun h => absurd h (by simp)⟩, hb2.trans (hb3.mono hb2.size)⟩
end
section
open Go.RowKit Go.Sort

theorem numSorted1_any (l : List Int) (v : Value) (w : World) (hl : l.length ≤ 1000000) (hp : 0 < l.length) (h : LI w v l) :
    Calls Tryz.prog 30 #[v] w fun e w' => ∃ v', e = .returned v' ∧ LN w.heap.size w' v' (sortL l) ∧ Below w.heap.size w w' := by
  obtain ⟨i0, hi0, hz0, hz1, hz2⟩ := info_parts i64Info
  obtain ⟨b, o, c, rfl, hc, hb, hcell⟩ := h.some_ hp
  have h1 := Tryz.slices_Clone i0 (.int .i64 0) 1 8 hi0 hz0 hz1 hz2 rfl (by decide) Tryz.sizeOf2 b o l.length c (l.map (Value.int .i64)) w (by simp) (by unfold maxLen; omega) (by omega)
    (fun j u hj => by
      rw [List.getElem?_map] at hj
      rcases Nat.lt_or_ge j l.length with hlt | hge
      · rw [List.getElem?_eq_getElem hlt] at hj
        obtain rfl : Value.int .i64 l[j] = u := by simpa using hj
        exact hcell j hlt
      · rw [List.getElem?_eq_none hge] at hj; simp at hj)
    (fun u hu => by obtain ⟨x, _, rfl⟩ := List.mem_map.1 hu; rfl)
  have H1 := hide h1
  clear h1
  unfold sortL
  have hSl : (l.mergeSort fun x y => decide (x ≤ y)).length = l.length := List.length_mergeSort ..
  generalize hSd : (l.mergeSort fun x y => decide (x ≤ y)) = S at *
  have HSd := hide hSd
  have HSl := hide hSl
  clear hSd hSl
  go_enter Tryz.func30, Tryz.ntmps30
  go_wp2_with fail
  refine H1.out.mono ?_
  rintro e w1 ⟨v', rfl, hown, hnn, hb1⟩
  obtain ⟨_, ⟨_, hn0⟩ | ⟨g, cap, cur, rfl, hbase, hblk, hn, hcap, hcs, htake⟩⟩ := hown
  · omega
  rw [Nat.mul_one] at htake
  have hg : g < w1.heap.size := (Array.getElem?_eq_some_iff.1 hblk).1
  have hH := holds_of_blockI hblk htake
  have h2 := Tryz.slices_Sort_int g 0 cap l w1 hH hg (by omega)
  rw [HSd.out] at h2
  have H2 := hide h2
  clear h2 H1 hH
  go_wp2_with fail
  refine H2.out.mono ?_
  rintro e w2 ⟨rfl, n, os, rfl⟩
  have hSl := HSl.out
  have hown2 := ownsRow_sortedI (n := n) (os := os) (ts := S) hSl hbase hblk hn hcap hcs
  have hgr2 := grownBy_sortedI (w := w1) (g := g) (n := n) (os := os) S.toArray
  generalize Go.Sort.grow (putRow (Value.int .i64) (Sort.ahead w1 n) g 0 S.toArray) os = w2 at *
  have hb2 : Below w.heap.size w w2 := hb1.grown hgr2 hb1.size (fun j hj => by cases hj; exact hbase)
  obtain ⟨_, ⟨hx, _⟩ | ⟨g', cap', cur2, hv, _, hblk2, _, _, hcs2, htake2⟩⟩ := hown2
  · cases hx
  cases hv
  rw [Nat.mul_one, ← hSl] at htake2
  have hg2 : g < w2.heap.size := (Array.getElem?_eq_some_iff.1 hblk2).1
  have hH2 := holds_of_blockI hblk2 htake2
  have h3 := Tryz.slices_Compact_int g 0 cap S w2 hH2 (by omega) (by omega)
  rw [hSl] at h3
  have H3 := hide h3
  have hcl := compact_len S
  clear h3 H2 hH2
  go_wp2_with fail
  refine H3.out.mono ?_
  rintro e w3 ⟨rfl, q, hw3⟩
  have hown3 := ownsRow_sortedI (n := q) (os := #[]) (ss := S) (ts := Lib.compact S ++ List.replicate (S.length - (Lib.compact S).length) 0) (by simp; omega) hbase hblk2 (by omega) hcap hcs2
  have hgr3 := grownBy_sortedI (w := w2) (g := g) (n := q) (os := #[]) (Lib.compact S ++ List.replicate (S.length - (Lib.compact S).length) 0).toArray
  rw [grow_empty] at hown3 hgr3
  rw [hSl] at hown3 hgr3
  rw [← hw3] at hown3 hgr3
  have hb3 : Below w.heap.size w w3 := hb2.grown hgr3 hb2.size (fun j hj => by cases hj; exact hbase)
  have hLI : LN w.heap.size w3 (.slice (some ⟨g, 0, none⟩) (Lib.compact S).length cap) (Lib.compact S) := by
    refine ⟨_, _, rfl, by omega, by unfold maxLen at hcap; omega, fun _ => ⟨g, 0, rfl, hbase, ?_, fun i hi => ?_⟩⟩
    · have := hgr3.size; omega
    · rw [Nat.zero_add]
      exact own_cell hown3 rfl (by rw [List.getElem?_map, List.getElem?_append_left hi, List.getElem?_eq_getElem hi]; rfl)
  clear hw3 H3 hown3 hgr3 hblk hblk2 htake htake2
  go_wp2_with fail
  go_ret
  exact ⟨_, rfl, hLI, hb3⟩
theorem numSorted_any (l : List Int) (v : Value) (w : World) (hl : l.length ≤ 1000000) (h : LI w v l) :
    Calls Tryz.prog 30 #[v] w fun e w' => ∃ v', e = .returned v' ∧ LN w.heap.size w' v' (sortL l) ∧ Below w.heap.size w w' := by
  cases l with
  | nil => exact numSorted0_any v w h
  | cons x l => exact numSorted1_any (x :: l) v w hl (by simp) h
end
section
open Go.RowKit
theorem one_arg1 {vs : Array Value} {a : AV} (hn : vs.size = [a].length) : ∃ x, vs = #[x] := ⟨vs[0]'(by simp at hn; omega), by
  apply Array.ext (by simpa using hn)
  intro i h1 h2
  simp at h2
  subst h2
  rfl⟩
theorem clone00_A : ADet Tryz.prog 50 [.c (.slice none 0 0)] (val (.slice none 0 0)) :=
  adet_of_calls (enters_of Tryz.func50 rfl (by decide)) fun S w vs hS hn hv => by
    obtain ⟨a, rfl⟩ := one_arg1 hn
    have h := hv 0 a _ rfl rfl
    cases h
    exact (Tryz.slices_Clone_nil 0 0 w).mono (by rintro e w' ⟨rfl, rfl⟩; exact ⟨rfl, Below.refl _ _⟩)
theorem sort00_A : ADet Tryz.prog 53 [.c (.slice none 0 0)] (val (.tuple #[])) :=
  adet_of_calls (enters_of Tryz.func53 rfl (by decide)) fun S w vs hS hn hv => by
    obtain ⟨a, rfl⟩ := one_arg1 hn
    have h := hv 0 a _ rfl rfl
    cases h
    exact sort0_any none 0 w
theorem compact00_A : ADet Tryz.prog 54 [.c (.slice none 0 0)] (val (.slice none 0 0)) :=
  adet_of_calls (enters_of Tryz.func54 rfl (by decide)) fun S w vs hS hn hv => by
    obtain ⟨a, rfl⟩ := one_arg1 hn
    have h := hv 0 a _ rfl rfl
    cases h
    exact (Tryz.slices_Compact_int_empty none 0 w).mono (by rintro e w' ⟨rfl, rfl⟩; exact ⟨rfl, Below.refl _ _⟩)
set_option maxRecDepth 100000 in
theorem sorted0_A : ADet Tryz.prog 30 [.c (.slice none 0 0)] (val (.slice none 0 0)) := by
  refine adet_of_code mixedT Tryz.func30 rfl (by decide) Tryz.ntmps30 Tryz.results30 rfl (val_ok _) ?_
  (repeat' (first | simp (maxSteps := 5000000) (implicitDefEqProofs := false) only [ruA, ruB, aEv, aTake, aLoad, aField, aIndex, aLen, aBin, bin2, aUn, un1, aExtract, aConv, ASt.get, aget, ASt.put, aStore, aBox, aAppend, aBuildSlice, aMake, aBuild, aFill, oneParts, allC, aBinS, yv, aCells, oneC, oneCL, treeC, treeL, aLit, aDst, aSrc, appTab, Value.cells, Value.oneCell', envOf, aResL, aOne, ↓reduceIte, reduceCtorEq, forall_const, Nat.reduceLT, Nat.reduceEqDiff, Nat.reduceAdd, Nat.reduceMul, Nat.reduceSub, Nat.reduceLeDiff, Nat.reduceBEq, eq_self, implies_true, ne_eq, dref, dref1, dref2, aExecS, aStoreB, aTakes, aTakeE, aElder, aFrom, aFresh, isLoad, aBuildSlice1, frzs, frz1, ownIds, AV.frz, AV.frzL, frzEnv, AV.shift, AV.shiftL, aFieldV, aSliceW, aSliceO, aSlice, aSliceR, aSliceS, aBd, aMax, frzAVs, frzAV, frzTab, AObj.frz, aMM, aNilS, aMay, aNil] | (with_reducible refine aIf_split (fun _ => ?_) (fun _ => ?_)) | (with_reducible refine aSel_split (fun _ => ?_) (fun _ => ?_)) | (with_reducible refine aGd_split (fun _ => ?_) (fun _ => ?_)) | (with_reducible refine aDraw_quiet (by kernel_rfl) ?_) | ((with_reducible apply callV (g := 50)); exact (clone00_A)) | ((with_reducible apply callD (g := 50)); exact (clone00_A)) | ((with_reducible apply callV (g := 53)); exact (sort00_A)) | ((with_reducible apply callD (g := 53)); exact (sort00_A)) | ((with_reducible apply callV (g := 54)); exact (compact00_A)) | ((with_reducible apply callD (g := 54)); exact (compact00_A))))
set_option maxRecDepth 100000 in
theorem numbers0_A : ADet Tryz.prog 40 [.c (.slice none 0 0)] (val (.slice none 0 0)) := by
  refine adet_of_code mixedT Tryz.func40 rfl (by decide) Tryz.ntmps40 Tryz.results40 rfl (val_ok _) ?_
  (repeat' (first | simp (maxSteps := 5000000) (implicitDefEqProofs := false) only [ruA, ruB, aEv, aTake, aLoad, aField, aIndex, aLen, aBin, bin2, aUn, un1, aExtract, aConv, ASt.get, aget, ASt.put, aStore, aBox, aAppend, aBuildSlice, aMake, aBuild, aFill, oneParts, allC, aBinS, yv, aCells, oneC, oneCL, treeC, treeL, aLit, aDst, aSrc, appTab, Value.cells, Value.oneCell', envOf, aResL, aOne, ↓reduceIte, reduceCtorEq, forall_const, Nat.reduceLT, Nat.reduceEqDiff, Nat.reduceAdd, Nat.reduceMul, Nat.reduceSub, Nat.reduceLeDiff, Nat.reduceBEq, eq_self, implies_true, ne_eq, dref, dref1, dref2, aExecS, aStoreB, aTakes, aTakeE, aElder, aFrom, aFresh, isLoad, aBuildSlice1, frzs, frz1, ownIds, AV.frz, AV.frzL, frzEnv, AV.shift, AV.shiftL, aFieldV, aSliceW, aSliceO, aSlice, aSliceR, aSliceS, aBd, aMax, frzAVs, frzAV, frzTab, AObj.frz, aMM, aNilS, aMay, aNil, tyE_112, tyK_112, tyK_3, tyA_115, tyS_115, tyZ_115, tyF_115_0, tyA_3, tyS_3, tyF_115_1, tyA_2, tyS_2, tyR_32, List.length_nil] | (with_reducible refine aIf_split (fun _ => ?_) (fun _ => ?_)) | (with_reducible refine aSel_split (fun _ => ?_) (fun _ => ?_)) | (with_reducible refine aGd_split (fun _ => ?_) (fun _ => ?_))))
  refine callT vals0_A (.inr trivial) ?_
  (repeat' (first | simp (maxSteps := 5000000) (implicitDefEqProofs := false) only [ruA, ruB, aEv, aTake, aLoad, aField, aIndex, aLen, aBin, bin2, aUn, un1, aExtract, aConv, ASt.get, aget, ASt.put, aStore, aBox, aAppend, aBuildSlice, aMake, aBuild, aFill, oneParts, allC, aBinS, yv, aCells, oneC, oneCL, treeC, treeL, aLit, aDst, aSrc, appTab, Value.cells, Value.oneCell', envOf, aResL, aOne, ↓reduceIte, reduceCtorEq, forall_const, Nat.reduceLT, Nat.reduceEqDiff, Nat.reduceAdd, Nat.reduceMul, Nat.reduceSub, Nat.reduceLeDiff, Nat.reduceBEq, eq_self, implies_true, ne_eq, dref, dref1, dref2, aExecS, aStoreB, aTakes, aTakeE, aElder, aFrom, aFresh, isLoad, aBuildSlice1, frzs, frz1, ownIds, AV.frz, AV.frzL, frzEnv, AV.shift, AV.shiftL, aFieldV, aSliceW, aSliceO, aSlice, aSliceR, aSliceS, aBd, aMax, frzAVs, frzAV, frzTab, AObj.frz, aMM, aNilS, aMay, aNil, tyE_112, tyK_112, tyK_3, tyA_115, tyS_115, tyZ_115, tyF_115_0, tyA_3, tyS_3, tyF_115_1, tyA_2, tyS_2, tyR_32, List.length_nil] | (with_reducible refine aIf_split (fun _ => ?_) (fun _ => ?_)) | (with_reducible refine aSel_split (fun _ => ?_) (fun _ => ?_)) | (with_reducible refine aGd_split (fun _ => ?_) (fun _ => ?_))))
  refine aLoop_zero ?_
  (repeat' (first | simp (maxSteps := 5000000) (implicitDefEqProofs := false) only [ruA, ruB, aEv, aTake, aLoad, aField, aIndex, aLen, aBin, bin2, aUn, un1, aExtract, aConv, ASt.get, aget, ASt.put, aStore, aBox, aAppend, aBuildSlice, aMake, aBuild, aFill, oneParts, allC, aBinS, yv, aCells, oneC, oneCL, treeC, treeL, aLit, aDst, aSrc, appTab, Value.cells, Value.oneCell', envOf, aResL, aOne, ↓reduceIte, reduceCtorEq, forall_const, Nat.reduceLT, Nat.reduceEqDiff, Nat.reduceAdd, Nat.reduceMul, Nat.reduceSub, Nat.reduceLeDiff, Nat.reduceBEq, eq_self, implies_true, ne_eq, dref, dref1, dref2, aExecS, aStoreB, aTakes, aTakeE, aElder, aFrom, aFresh, isLoad, aBuildSlice1, frzs, frz1, ownIds, AV.frz, AV.frzL, frzEnv, AV.shift, AV.shiftL, aFieldV, aSliceW, aSliceO, aSlice, aSliceR, aSliceS, aBd, aMax, frzAVs, frzAV, frzTab, AObj.frz, aMM, aNilS, aMay, aNil, tyE_112, tyK_112, tyK_3, tyA_115, tyS_115, tyZ_115, tyF_115_0, tyA_3, tyS_3, tyF_115_1, tyA_2, tyS_2, tyR_32, List.length_nil, i00, i01, n00] | (with_reducible refine aIf_split (fun _ => ?_) (fun _ => ?_)) | (with_reducible refine aSel_split (fun _ => ?_) (fun _ => ?_)) | (with_reducible refine aGd_split (fun _ => ?_) (fun _ => ?_)) | (with_reducible refine aDraw_quiet (by kernel_rfl) ?_) | ((with_reducible apply callV (g := 30)); exact (sorted0_A)) | ((with_reducible apply callD (g := 30)); exact (sorted0_A))))
set_option maxRecDepth 100000 in
theorem consts0_A : ADet Tryz.prog 22 [.agg (eMod mod0), .c (.slice none 0 0)] (val (.slice none 0 0)) := by
  refine adet_of_code mixedT Tryz.func22 rfl (by decide) Tryz.ntmps22 Tryz.results22 rfl (val_ok _) ?_
  (repeat' (first | simp (maxSteps := 5000000) (implicitDefEqProofs := false) only [ruA, ruB, aEv, aTake, aLoad, aField, aIndex, aLen, aBin, bin2, aUn, un1, aExtract, aConv, ASt.get, aget, ASt.put, aStore, aBox, aAppend, aBuildSlice, aMake, aBuild, aFill, oneParts, allC, aBinS, yv, aCells, oneC, oneCL, treeC, treeL, aLit, aDst, aSrc, appTab, Value.cells, Value.oneCell', envOf, aResL, aOne, ↓reduceIte, reduceCtorEq, forall_const, Nat.reduceLT, Nat.reduceEqDiff, Nat.reduceAdd, Nat.reduceMul, Nat.reduceSub, Nat.reduceLeDiff, Nat.reduceBEq, eq_self, implies_true, ne_eq, dref, dref1, dref2, aExecS, aStoreB, aTakes, aTakeE, aElder, aFrom, aFresh, isLoad, aBuildSlice1, frzs, frz1, ownIds, AV.frz, AV.frzL, frzEnv, AV.shift, AV.shiftL, aFieldV, aSliceW, aSliceO, aSlice, aSliceR, aSliceS, aBd, aMax, frzAVs, frzAV, frzTab, AObj.frz, aMM, aNilS, aMay, aNil, tyF_41_6, tyA_36, tyS_36, tyE_36, tyK_36, tyK_3, tyA_88, tyS_88, tyZ_88, tyF_88_2, tyA_86, tyS_86, tyR_32, tyF_41_7, tyA_37, tyS_37, tyE_37, tyK_37, tyA_91, tyS_91, tyZ_91, tyF_91_3, mod0, List.map_nil, List.length_nil] | (with_reducible refine aIf_split (fun _ => ?_) (fun _ => ?_)) | (with_reducible refine aSel_split (fun _ => ?_) (fun _ => ?_)) | (with_reducible refine aGd_split (fun _ => ?_) (fun _ => ?_))))
  refine callT numbers0_A (.inl (by simp [roL, roA, treeL, treeC])) ?_
  (repeat' (first | simp (maxSteps := 5000000) (implicitDefEqProofs := false) only [ruA, ruB, aEv, aTake, aLoad, aField, aIndex, aLen, aBin, bin2, aUn, un1, aExtract, aConv, ASt.get, aget, ASt.put, aStore, aBox, aAppend, aBuildSlice, aMake, aBuild, aFill, oneParts, allC, aBinS, yv, aCells, oneC, oneCL, treeC, treeL, aLit, aDst, aSrc, appTab, Value.cells, Value.oneCell', envOf, aResL, aOne, ↓reduceIte, reduceCtorEq, forall_const, Nat.reduceLT, Nat.reduceEqDiff, Nat.reduceAdd, Nat.reduceMul, Nat.reduceSub, Nat.reduceLeDiff, Nat.reduceBEq, eq_self, implies_true, ne_eq, dref, dref1, dref2, aExecS, aStoreB, aTakes, aTakeE, aElder, aFrom, aFresh, isLoad, aBuildSlice1, frzs, frz1, ownIds, AV.frz, AV.frzL, frzEnv, AV.shift, AV.shiftL, aFieldV, aSliceW, aSliceO, aSlice, aSliceR, aSliceS, aBd, aMax, frzAVs, frzAV, frzTab, AObj.frz, aMM, aNilS, aMay, aNil, tyF_41_6, tyA_36, tyS_36, tyE_36, tyK_36, tyK_3, tyA_88, tyS_88, tyZ_88, tyF_88_2, tyA_86, tyS_86, tyR_32, tyF_41_7, tyA_37, tyS_37, tyE_37, tyK_37, tyA_91, tyS_91, tyZ_91, tyF_91_3, mod0, List.map_nil, List.length_nil] | (with_reducible refine aIf_split (fun _ => ?_) (fun _ => ?_)) | (with_reducible refine aSel_split (fun _ => ?_) (fun _ => ?_)) | (with_reducible refine aGd_split (fun _ => ?_) (fun _ => ?_))))
  refine aLoop_zero ?_
  (repeat' (first | simp (maxSteps := 5000000) (implicitDefEqProofs := false) only [ruA, ruB, aEv, aTake, aLoad, aField, aIndex, aLen, aBin, bin2, aUn, un1, aExtract, aConv, ASt.get, aget, ASt.put, aStore, aBox, aAppend, aBuildSlice, aMake, aBuild, aFill, oneParts, allC, aBinS, yv, aCells, oneC, oneCL, treeC, treeL, aLit, aDst, aSrc, appTab, Value.cells, Value.oneCell', envOf, aResL, aOne, ↓reduceIte, reduceCtorEq, forall_const, Nat.reduceLT, Nat.reduceEqDiff, Nat.reduceAdd, Nat.reduceMul, Nat.reduceSub, Nat.reduceLeDiff, Nat.reduceBEq, eq_self, implies_true, ne_eq, dref, dref1, dref2, aExecS, aStoreB, aTakes, aTakeE, aElder, aFrom, aFresh, isLoad, aBuildSlice1, frzs, frz1, ownIds, AV.frz, AV.frzL, frzEnv, AV.shift, AV.shiftL, aFieldV, aSliceW, aSliceO, aSlice, aSliceR, aSliceS, aBd, aMax, frzAVs, frzAV, frzTab, AObj.frz, aMM, aNilS, aMay, aNil, tyF_41_6, tyA_36, tyS_36, tyE_36, tyK_36, tyK_3, tyA_88, tyS_88, tyZ_88, tyF_88_2, tyA_86, tyS_86, tyR_32, tyF_41_7, tyA_37, tyS_37, tyE_37, tyK_37, tyA_91, tyS_91, tyZ_91, tyF_91_3, mod0, List.map_nil, List.length_nil, i00, i01, n00] | (with_reducible refine aIf_split (fun _ => ?_) (fun _ => ?_)) | (with_reducible refine aSel_split (fun _ => ?_) (fun _ => ?_)) | (with_reducible refine aGd_split (fun _ => ?_) (fun _ => ?_))))
  refine aLoop_zero ?_
  (repeat' (first | simp (maxSteps := 5000000) (implicitDefEqProofs := false) only [ruA, ruB, aEv, aTake, aLoad, aField, aIndex, aLen, aBin, bin2, aUn, un1, aExtract, aConv, ASt.get, aget, ASt.put, aStore, aBox, aAppend, aBuildSlice, aMake, aBuild, aFill, oneParts, allC, aBinS, yv, aCells, oneC, oneCL, treeC, treeL, aLit, aDst, aSrc, appTab, Value.cells, Value.oneCell', envOf, aResL, aOne, ↓reduceIte, reduceCtorEq, forall_const, Nat.reduceLT, Nat.reduceEqDiff, Nat.reduceAdd, Nat.reduceMul, Nat.reduceSub, Nat.reduceLeDiff, Nat.reduceBEq, eq_self, implies_true, ne_eq, dref, dref1, dref2, aExecS, aStoreB, aTakes, aTakeE, aElder, aFrom, aFresh, isLoad, aBuildSlice1, frzs, frz1, ownIds, AV.frz, AV.frzL, frzEnv, AV.shift, AV.shiftL, aFieldV, aSliceW, aSliceO, aSlice, aSliceR, aSliceS, aBd, aMax, frzAVs, frzAV, frzTab, AObj.frz, aMM, aNilS, aMay, aNil, tyF_41_6, tyA_36, tyS_36, tyE_36, tyK_36, tyK_3, tyA_88, tyS_88, tyZ_88, tyF_88_2, tyA_86, tyS_86, tyR_32, tyF_41_7, tyA_37, tyS_37, tyE_37, tyK_37, tyA_91, tyS_91, tyZ_91, tyF_91_3, mod0, List.map_nil, List.length_nil, i00, i01, n00] | (with_reducible refine aIf_split (fun _ => ?_) (fun _ => ?_)) | (with_reducible refine aSel_split (fun _ => ?_) (fun _ => ?_)) | (with_reducible refine aGd_split (fun _ => ?_) (fun _ => ?_)) | (with_reducible refine aDraw_quiet (by kernel_rfl) ?_) | ((with_reducible apply callV (g := 30)); exact (sorted0_A)) | ((with_reducible apply callD (g := 30)); exact (sorted0_A))))
set_option maxRecDepth 100000 in
theorem order0_A : ADet Tryz.prog 23 [.agg (eMod mod0)] ⟨.tup [.c (.slice none 0 0), eI 0], [], 0⟩ := by
  have hok : (⟨.tup [.c (.slice none 0 0), eI 0], [], 0⟩ : Res).Ok := ⟨fun id o h => (by cases h), ⟨trivial, trivial, trivial⟩⟩
  refine adet_of_code mixedT Tryz.func23 rfl (by decide) Tryz.ntmps23 Tryz.results23 rfl (hok) ?_
  (repeat' (first | simp (maxSteps := 5000000) (implicitDefEqProofs := false) only [ruA, ruB, aEv, aTake, aLoad, aField, aIndex, aLen, aBin, bin2, aUn, un1, aExtract, aConv, ASt.get, aget, ASt.put, aStore, aBox, aAppend, aBuildSlice, aMake, aBuild, aFill, oneParts, allC, aBinS, yv, aCells, oneC, oneCL, treeC, treeL, aLit, aDst, aSrc, appTab, Value.cells, Value.oneCell', envOf, aResL, aOne, ↓reduceIte, reduceCtorEq, forall_const, Nat.reduceLT, Nat.reduceEqDiff, Nat.reduceAdd, Nat.reduceMul, Nat.reduceSub, Nat.reduceLeDiff, Nat.reduceBEq, eq_self, implies_true, ne_eq, dref, dref1, dref2, aExecS, aStoreB, aTakes, aTakeE, aElder, aFrom, aFresh, isLoad, aBuildSlice1, frzs, frz1, ownIds, AV.frz, AV.frzL, frzEnv, AV.shift, AV.shiftL, aFieldV, aSliceW, aSliceO, aSlice, aSliceR, aSliceS, aBd, aMax, frzAVs, frzAV, frzTab, AObj.frz, aMM, aNilS, aMay, aNil, tyA_41, tyS_41, tyZ_39, tyS_39, tyA_39, tyE_39, tyK_39, tyK_3, tyA_67, tyS_67, tyR_39] | (with_reducible refine aIf_split (fun _ => ?_) (fun _ => ?_)) | (with_reducible refine aSel_split (fun _ => ?_) (fun _ => ?_)) | (with_reducible refine aGd_split (fun _ => ?_) (fun _ => ?_))))
  refine callT all0_A (.inr trivial) ?_
  (repeat' (first | simp (maxSteps := 5000000) (implicitDefEqProofs := false) only [ruA, ruB, aEv, aTake, aLoad, aField, aIndex, aLen, aBin, bin2, aUn, un1, aExtract, aConv, ASt.get, aget, ASt.put, aStore, aBox, aAppend, aBuildSlice, aMake, aBuild, aFill, oneParts, allC, aBinS, yv, aCells, oneC, oneCL, treeC, treeL, aLit, aDst, aSrc, appTab, Value.cells, Value.oneCell', envOf, aResL, aOne, ↓reduceIte, reduceCtorEq, forall_const, Nat.reduceLT, Nat.reduceEqDiff, Nat.reduceAdd, Nat.reduceMul, Nat.reduceSub, Nat.reduceLeDiff, Nat.reduceBEq, eq_self, implies_true, ne_eq, dref, dref1, dref2, aExecS, aStoreB, aTakes, aTakeE, aElder, aFrom, aFresh, isLoad, aBuildSlice1, frzs, frz1, ownIds, AV.frz, AV.frzL, frzEnv, AV.shift, AV.shiftL, aFieldV, aSliceW, aSliceO, aSlice, aSliceR, aSliceS, aBd, aMax, frzAVs, frzAV, frzTab, AObj.frz, aMM, aNilS, aMay, aNil, tyA_41, tyS_41, tyZ_39, tyS_39, tyA_39, tyE_39, tyK_39, tyK_3, tyA_67, tyS_67, tyR_39, List.length_nil] | (with_reducible refine aIf_split (fun _ => ?_) (fun _ => ?_)) | (with_reducible refine aSel_split (fun _ => ?_) (fun _ => ?_)) | (with_reducible refine aGd_split (fun _ => ?_) (fun _ => ?_))))
  refine aLoop_zero ?_
  (repeat' (first | simp (maxSteps := 5000000) (implicitDefEqProofs := false) only [ruA, ruB, aEv, aTake, aLoad, aField, aIndex, aLen, aBin, bin2, aUn, un1, aExtract, aConv, ASt.get, aget, ASt.put, aStore, aBox, aAppend, aBuildSlice, aMake, aBuild, aFill, oneParts, allC, aBinS, yv, aCells, oneC, oneCL, treeC, treeL, aLit, aDst, aSrc, appTab, Value.cells, Value.oneCell', envOf, aResL, aOne, ↓reduceIte, reduceCtorEq, forall_const, Nat.reduceLT, Nat.reduceEqDiff, Nat.reduceAdd, Nat.reduceMul, Nat.reduceSub, Nat.reduceLeDiff, Nat.reduceBEq, eq_self, implies_true, ne_eq, dref, dref1, dref2, aExecS, aStoreB, aTakes, aTakeE, aElder, aFrom, aFresh, isLoad, aBuildSlice1, frzs, frz1, ownIds, AV.frz, AV.frzL, frzEnv, AV.shift, AV.shiftL, aFieldV, aSliceW, aSliceO, aSlice, aSliceR, aSliceS, aBd, aMax, frzAVs, frzAV, frzTab, AObj.frz, aMM, aNilS, aMay, aNil, tyA_41, tyS_41, tyZ_39, tyS_39, tyA_39, tyE_39, tyK_39, tyK_3, tyA_67, tyS_67, tyR_39, List.length_nil, i00, i01, n00] | (with_reducible refine aIf_split (fun _ => ?_) (fun _ => ?_)) | (with_reducible refine aSel_split (fun _ => ?_) (fun _ => ?_)) | (with_reducible refine aGd_split (fun _ => ?_) (fun _ => ?_)) | (with_reducible refine aDraw_quiet (by kernel_rfl) ?_)))
  all_goals exact gives_tree (by first | rfl | simp [AV.ren, AV.renL])
set_option maxRecDepth 100000 in
theorem equal0_A : ADet Tryz.prog 24 [.c (.slice none 0 0), .sl 2 []] (val (.bool true)) := by
  refine adet_of_code mixedT Tryz.func24 rfl (by decide) Tryz.ntmps24 Tryz.results24 rfl (val_ok _) ?_
  have q : (((0 : Nat) : Int) != ((0 : Nat) : Int)) = false := rfl
  (repeat' (first | simp (maxSteps := 5000000) (implicitDefEqProofs := false) only [ruA, ruB, aEv, aTake, aLoad, aField, aIndex, aLen, aBin, bin2, aUn, un1, aExtract, aConv, ASt.get, aget, ASt.put, aStore, aBox, aAppend, aBuildSlice, aMake, aBuild, aFill, oneParts, allC, aBinS, yv, aCells, oneC, oneCL, treeC, treeL, aLit, aDst, aSrc, appTab, Value.cells, Value.oneCell', envOf, aResL, aOne, ↓reduceIte, reduceCtorEq, forall_const, Nat.reduceLT, Nat.reduceEqDiff, Nat.reduceAdd, Nat.reduceMul, Nat.reduceSub, Nat.reduceLeDiff, Nat.reduceBEq, eq_self, implies_true, ne_eq, dref, dref1, dref2, aExecS, aStoreB, aTakes, aTakeE, aElder, aFrom, aFresh, isLoad, aBuildSlice1, frzs, frz1, ownIds, AV.frz, AV.frzL, frzEnv, AV.shift, AV.shiftL, aFieldV, aSliceW, aSliceO, aSlice, aSliceR, aSliceS, aBd, aMax, frzAVs, frzAV, frzTab, AObj.frz, aMM, aNilS, aMay, aNil, tyE_39, tyK_39, tyK_3, tyA_67, tyS_67, tyK_67, List.length_nil, q] | (with_reducible refine aIf_split (fun _ => ?_) (fun _ => ?_)) | (with_reducible refine aSel_split (fun _ => ?_) (fun _ => ?_)) | (with_reducible refine aGd_split (fun _ => ?_) (fun _ => ?_))))
  refine aLoop_zero ?_
  (repeat' (first | simp (maxSteps := 5000000) (implicitDefEqProofs := false) only [ruA, ruB, aEv, aTake, aLoad, aField, aIndex, aLen, aBin, bin2, aUn, un1, aExtract, aConv, ASt.get, aget, ASt.put, aStore, aBox, aAppend, aBuildSlice, aMake, aBuild, aFill, oneParts, allC, aBinS, yv, aCells, oneC, oneCL, treeC, treeL, aLit, aDst, aSrc, appTab, Value.cells, Value.oneCell', envOf, aResL, aOne, ↓reduceIte, reduceCtorEq, forall_const, Nat.reduceLT, Nat.reduceEqDiff, Nat.reduceAdd, Nat.reduceMul, Nat.reduceSub, Nat.reduceLeDiff, Nat.reduceBEq, eq_self, implies_true, ne_eq, dref, dref1, dref2, aExecS, aStoreB, aTakes, aTakeE, aElder, aFrom, aFresh, isLoad, aBuildSlice1, frzs, frz1, ownIds, AV.frz, AV.frzL, frzEnv, AV.shift, AV.shiftL, aFieldV, aSliceW, aSliceO, aSlice, aSliceR, aSliceS, aBd, aMax, frzAVs, frzAV, frzTab, AObj.frz, aMM, aNilS, aMay, aNil, tyE_39, tyK_39, tyK_3, tyA_67, tyS_67, tyK_67, List.length_nil, i00, i01, n00] | (with_reducible refine aIf_split (fun _ => ?_) (fun _ => ?_)) | (with_reducible refine aSel_split (fun _ => ?_) (fun _ => ?_)) | (with_reducible refine aGd_split (fun _ => ?_) (fun _ => ?_)) | (with_reducible refine aDraw_quiet (by kernel_rfl) ?_)))
set_option maxRecDepth 100000 in
theorem mcheck0_A : ADet Tryz.prog 10 [.agg (eMod mod0)] (val (.bool true)) := by
  refine adet_of_code mixedT Tryz.func10 rfl (by decide) Tryz.ntmps10 Tryz.results10 rfl (val_ok _) ?_
  have q0 : decide ((0 : Int) ≤ -1) = false := rfl
  have q6 : decide ((6 : Int) < ((0 : Nat) : Int)) = false := rfl
  have q1 : ((0 : Int) == 0) = true := rfl
  have hF := few0_A
  have hP := parts0_A
  have hB := bound0_A
  have hO := order0_A
  have hC := consts0_A
  have hN := parents0_A
  (repeat' (first | simp (maxSteps := 5000000) (implicitDefEqProofs := false) only [ruA, ruB, aEv, aTake, aLoad, aField, aIndex, aLen, aBin, bin2, aUn, un1, aExtract, aConv, ASt.get, aget, ASt.put, aStore, aBox, aAppend, aBuildSlice, aMake, aBuild, aFill, oneParts, allC, aBinS, yv, aCells, oneC, oneCL, treeC, treeL, aLit, aDst, aSrc, appTab, Value.cells, Value.oneCell', envOf, aResL, aOne, ↓reduceIte, reduceCtorEq, forall_const, Nat.reduceLT, Nat.reduceEqDiff, Nat.reduceAdd, Nat.reduceMul, Nat.reduceSub, Nat.reduceLeDiff, Nat.reduceBEq, eq_self, implies_true, ne_eq, dref, dref1, dref2, aExecS, aStoreB, aTakes, aTakeE, aElder, aFrom, aFresh, isLoad, aBuildSlice1, frzs, frz1, ownIds, AV.frz, AV.frzL, frzEnv, AV.shift, AV.shiftL, aFieldV, aSliceW, aSliceO, aSlice, aSliceR, aSliceS, aBd, aMax, frzAVs, frzAV, frzTab, AObj.frz, aMM, aNilS, aMay, aNil, tyA_41, tyS_41, tyF_41_5, tyA_35, tyS_35, tyK_3, tyE_32, tyK_32, tyK_56, tyF_41_9, tyA_39, tyS_39, List.map_nil, List.length_nil, q0, q6, q1] | (with_reducible refine aIf_split (fun _ => ?_) (fun _ => ?_)) | (with_reducible refine aSel_split (fun _ => ?_) (fun _ => ?_)) | (with_reducible refine aGd_split (fun _ => ?_) (fun _ => ?_)) | (with_reducible refine aDraw_quiet (by kernel_rfl) ?_) | ((with_reducible apply callV); exact (hF)) | ((with_reducible apply callD); exact (hF)) | ((with_reducible apply callV); exact (hP)) | ((with_reducible apply callD); exact (hP)) | ((with_reducible apply callV); exact (hB)) | ((with_reducible apply callD); exact (hB)) | ((with_reducible apply callT); exact (hN); exact (.inl (by simp [roL, roA, treeL, treeC]))) | ((with_reducible apply callV (g := 20)); exact (circle0_A)) | ((with_reducible apply callD (g := 20)); exact (circle0_A)) | ((with_reducible apply callV); exact (hC)) | ((with_reducible apply callD); exact (hC)) | ((with_reducible apply callT); exact (hO); exact (.inl (by simp [roL, roA, treeL, treeC]))) | ((with_reducible apply callV (g := 24)); exact (equal0_A)) | ((with_reducible apply callD (g := 24)); exact (equal0_A))))
  all_goals trace_state
end
section
open Go.RowKit

/-- a call that gives back a value and no memory of its own -/
def inS (m : Mod) (st : Int) : Bool := decide (0 ≤ st) && decide (st < (m.stages.length : Int))
theorem findR_none {m : Mod} {x : Bool × Int} (h : sentryM m x = none) : findR m x = ⟨.tup [.agg [eI 0, eI 0, .c (.slice none 0 0), eI 0], eB false], [], 0⟩ := by unfold findR; rw [h]
theorem findR_some {m : Mod} {x : Bool × Int} {st ev mi : Int} {cond : List Inst} (h : sentryM m x = some (st, ev, cond, mi)) : findR m x = ⟨.tup [.agg [eI st, eI ev, sInsts cond, eI mi], eB (inS m st)], [], 0⟩ := by unfold findR; rw [h]; rfl
def readyM (m : Mod) (opn : Int) (x : Bool × Int) (event : Int) : Bool :=
  match sentryM m x with
  | some (st, ev, _, _) => inS m st && ((ev == -1 || ev == event) && (hasB opn st == x.1) && (x.1 || aboveM m opn st))
  | none => false
set_option maxRecDepth 100000 in
set_option maxHeartbeats 4000000 in
theorem ready_A (m : Mod) (s : St) (xm : Bool) (xn event : Int) : ADet Tryz.prog 68 [.agg (eMod m), .agg (eSt s), .agg [eB xm, eI xn], eI event] (val (.bool (readyM m s.opn (xm, xn) event))) := by
  refine adet_of_code mixedT Tryz.func68 rfl (by decide) Tryz.ntmps68 Tryz.results68 rfl (val_ok _) ?_
  (repeat' (first | simp (maxSteps := 5000000) (implicitDefEqProofs := false) only [ruA, ruB, aEv, aTake, aLoad, aField, aIndex, aLen, aBin, bin2, aUn, un1, aExtract, aConv, ASt.get, aget, ASt.put, aStore, aBox, aAppend, aBuildSlice, aMake, aBuild, aFill, oneParts, allC, aBinS, yv, aCells, oneC, oneCL, treeC, treeL, aLit, aDst, aSrc, appTab, Value.cells, Value.oneCell', envOf, aResL, aOne, ↓reduceIte, reduceCtorEq, forall_const, Nat.reduceLT, Nat.reduceEqDiff, Nat.reduceAdd, Nat.reduceMul, Nat.reduceSub, Nat.reduceLeDiff, Nat.reduceBEq, eq_self, implies_true, ne_eq, dref, dref1, dref2, aExecS, aStoreB, aTakes, aTakeE, aElder, aFrom, aFresh, isLoad, aBuildSlice1, frzs, frz1, ownIds, AV.frz, AV.frzL, frzEnv, AV.shift, AV.shiftL, aFieldV, aSliceW, aSliceO, aSlice, aSliceR, aSliceS, aBd, aMax, frzAVs, frzAV, frzTab, AObj.frz, aMM, aNilS, aMay, aNil, tyA_41, tyS_41, tyA_67, tyS_67, tyZ_124, tyS_124, tyF_124_1, tyA_3, tyS_3, tyK_3, tyF_51_1, tyF_124_0, tyF_67_0, tyA_4, tyS_4, tyK_4, tyA_51, tyS_51] | (with_reducible refine aIf_split (fun _ => ?_) (fun _ => ?_)) | (with_reducible refine aSel_split (fun _ => ?_) (fun _ => ?_)) | (with_reducible refine aGd_split (fun _ => ?_) (fun _ => ?_))))
  have ro : roL [.agg (eMod m), .agg [eB xm, eI xn]] := by simp [roL, roA, treeL, treeC]
  cases hf : sentryM m (xm, xn) with
  | none =>
    have e : readyM m s.opn (xm, xn) event = false := by simp [readyM, hf]
    rw [e]
    have hA := find_A m xm xn
    rw [findR_none hf] at hA
    refine callT hA (.inl ro) ?_
    (repeat' (first | simp (maxSteps := 5000000) (implicitDefEqProofs := false) only [ruA, ruB, aEv, aTake, aLoad, aField, aIndex, aLen, aBin, bin2, aUn, un1, aExtract, aConv, ASt.get, aget, ASt.put, aStore, aBox, aAppend, aBuildSlice, aMake, aBuild, aFill, oneParts, allC, aBinS, yv, aCells, oneC, oneCL, treeC, treeL, aLit, aDst, aSrc, appTab, Value.cells, Value.oneCell', envOf, aResL, aOne, ↓reduceIte, reduceCtorEq, forall_const, Nat.reduceLT, Nat.reduceEqDiff, Nat.reduceAdd, Nat.reduceMul, Nat.reduceSub, Nat.reduceLeDiff, Nat.reduceBEq, eq_self, implies_true, ne_eq, dref, dref1, dref2, aExecS, aStoreB, aTakes, aTakeE, aElder, aFrom, aFresh, isLoad, aBuildSlice1, frzs, frz1, ownIds, AV.frz, AV.frzL, frzEnv, AV.shift, AV.shiftL, aFieldV, aSliceW, aSliceO, aSlice, aSliceR, aSliceS, aBd, aMax, frzAVs, frzAV, frzTab, AObj.frz, aMM, aNilS, aMay, aNil, tyA_41, tyS_41, tyA_67, tyS_67, tyZ_124, tyS_124, tyF_124_1, tyA_3, tyS_3, tyK_3, tyF_51_1, tyF_124_0, tyF_67_0, tyA_4, tyS_4, tyK_4, tyA_51, tyS_51] | (with_reducible refine aIf_split (fun _ => ?_) (fun _ => ?_)) | (with_reducible refine aSel_split (fun _ => ?_) (fun _ => ?_)) | (with_reducible refine aGd_split (fun _ => ?_) (fun _ => ?_))))
    refine aDraw_quiet (by kernel_rfl) ?_
    (repeat' (first | simp (maxSteps := 5000000) (implicitDefEqProofs := false) only [ruA, ruB, aEv, aTake, aLoad, aField, aIndex, aLen, aBin, bin2, aUn, un1, aExtract, aConv, ASt.get, aget, ASt.put, aStore, aBox, aAppend, aBuildSlice, aMake, aBuild, aFill, oneParts, allC, aBinS, yv, aCells, oneC, oneCL, treeC, treeL, aLit, aDst, aSrc, appTab, Value.cells, Value.oneCell', envOf, aResL, aOne, ↓reduceIte, reduceCtorEq, forall_const, Nat.reduceLT, Nat.reduceEqDiff, Nat.reduceAdd, Nat.reduceMul, Nat.reduceSub, Nat.reduceLeDiff, Nat.reduceBEq, eq_self, implies_true, ne_eq, dref, dref1, dref2, aExecS, aStoreB, aTakes, aTakeE, aElder, aFrom, aFresh, isLoad, aBuildSlice1, frzs, frz1, ownIds, AV.frz, AV.frzL, frzEnv, AV.shift, AV.shiftL, aFieldV, aSliceW, aSliceO, aSlice, aSliceR, aSliceS, aBd, aMax, frzAVs, frzAV, frzTab, AObj.frz, aMM, aNilS, aMay, aNil, tyA_41, tyS_41, tyA_67, tyS_67, tyZ_124, tyS_124, tyF_124_1, tyA_3, tyS_3, tyK_3, tyF_51_1, tyF_124_0, tyF_67_0, tyA_4, tyS_4, tyK_4, tyA_51, tyS_51] | (with_reducible refine aIf_split (fun _ => ?_) (fun _ => ?_)) | (with_reducible refine aSel_split (fun _ => ?_) (fun _ => ?_)) | (with_reducible refine aGd_split (fun _ => ?_) (fun _ => ?_))))
  | some q =>
    obtain ⟨st, ev, cond, mi⟩ := q
    have e : readyM m s.opn (xm, xn) event = (inS m st && ((ev == -1 || ev == event) && (hasB s.opn st == xm) && (xm || aboveM m s.opn st))) := by simp [readyM, hf]
    rw [e]
    have hA := find_A m xm xn
    rw [findR_some hf] at hA
    refine callT hA (.inl ro) ?_
    (repeat' (first | simp (maxSteps := 5000000) (implicitDefEqProofs := false) only [ruA, ruB, aEv, aTake, aLoad, aField, aIndex, aLen, aBin, bin2, aUn, un1, aExtract, aConv, ASt.get, aget, ASt.put, aStore, aBox, aAppend, aBuildSlice, aMake, aBuild, aFill, oneParts, allC, aBinS, yv, aCells, oneC, oneCL, treeC, treeL, aLit, aDst, aSrc, appTab, Value.cells, Value.oneCell', envOf, aResL, aOne, ↓reduceIte, reduceCtorEq, forall_const, Nat.reduceLT, Nat.reduceEqDiff, Nat.reduceAdd, Nat.reduceMul, Nat.reduceSub, Nat.reduceLeDiff, Nat.reduceBEq, eq_self, implies_true, ne_eq, dref, dref1, dref2, aExecS, aStoreB, aTakes, aTakeE, aElder, aFrom, aFresh, isLoad, aBuildSlice1, frzs, frz1, ownIds, AV.frz, AV.frzL, frzEnv, AV.shift, AV.shiftL, aFieldV, aSliceW, aSliceO, aSlice, aSliceR, aSliceS, aBd, aMax, frzAVs, frzAV, frzTab, AObj.frz, aMM, aNilS, aMay, aNil, tyA_41, tyS_41, tyA_67, tyS_67, tyZ_124, tyS_124, tyF_124_1, tyA_3, tyS_3, tyK_3, tyF_51_1, tyF_124_0, tyF_67_0, tyA_4, tyS_4, tyK_4, tyA_51, tyS_51] | (with_reducible refine aIf_split (fun _ => ?_) (fun _ => ?_)) | (with_reducible refine aSel_split (fun _ => ?_) (fun _ => ?_)) | (with_reducible refine aGd_split (fun _ => ?_) (fun _ => ?_))))
    refine aDraw_quiet (by kernel_rfl) ?_
    (repeat' (first | simp (maxSteps := 5000000) (implicitDefEqProofs := false) only [ruA, ruB, aEv, aTake, aLoad, aField, aIndex, aLen, aBin, bin2, aUn, un1, aExtract, aConv, ASt.get, aget, ASt.put, aStore, aBox, aAppend, aBuildSlice, aMake, aBuild, aFill, oneParts, allC, aBinS, yv, aCells, oneC, oneCL, treeC, treeL, aLit, aDst, aSrc, appTab, Value.cells, Value.oneCell', envOf, aResL, aOne, ↓reduceIte, reduceCtorEq, forall_const, Nat.reduceLT, Nat.reduceEqDiff, Nat.reduceAdd, Nat.reduceMul, Nat.reduceSub, Nat.reduceLeDiff, Nat.reduceBEq, eq_self, implies_true, ne_eq, dref, dref1, dref2, aExecS, aStoreB, aTakes, aTakeE, aElder, aFrom, aFresh, isLoad, aBuildSlice1, frzs, frz1, ownIds, AV.frz, AV.frzL, frzEnv, AV.shift, AV.shiftL, aFieldV, aSliceW, aSliceO, aSlice, aSliceR, aSliceS, aBd, aMax, frzAVs, frzAV, frzTab, AObj.frz, aMM, aNilS, aMay, aNil, tyA_41, tyS_41, tyA_67, tyS_67, tyZ_124, tyS_124, tyF_124_1, tyA_3, tyS_3, tyK_3, tyF_51_1, tyF_124_0, tyF_67_0, tyA_4, tyS_4, tyK_4, tyA_51, tyS_51] | (with_reducible refine aIf_split (fun _ => ?_) (fun _ => ?_)) | (with_reducible refine aSel_split (fun _ => ?_) (fun _ => ?_)) | (with_reducible refine aGd_split (fun _ => ?_) (fun _ => ?_))))
    · rename_i h
      simp at h
      simp [h]
    · rename_i h1 h2 h3
      have e1 : (ev == -1 || ev == event) = false := by simp at h2 h3; simp [h2, h3]
      simp [e1]
    all_goals
      have e0 : inS m st = true := by simp_all
      have e1 : (ev == -1 || ev == event) = true := by simp_all
      refine callD (has_A _ _) ?_
      (repeat' (first | simp (maxSteps := 5000000) (implicitDefEqProofs := false) only [ruA, ruB, aEv, aTake, aLoad, aField, aIndex, aLen, aBin, bin2, aUn, un1, aExtract, aConv, ASt.get, aget, ASt.put, aStore, aBox, aAppend, aBuildSlice, aMake, aBuild, aFill, oneParts, allC, aBinS, yv, aCells, oneC, oneCL, treeC, treeL, aLit, aDst, aSrc, appTab, Value.cells, Value.oneCell', envOf, aResL, aOne, ↓reduceIte, reduceCtorEq, forall_const, Nat.reduceLT, Nat.reduceEqDiff, Nat.reduceAdd, Nat.reduceMul, Nat.reduceSub, Nat.reduceLeDiff, Nat.reduceBEq, eq_self, implies_true, ne_eq, dref, dref1, dref2, aExecS, aStoreB, aTakes, aTakeE, aElder, aFrom, aFresh, isLoad, aBuildSlice1, frzs, frz1, ownIds, AV.frz, AV.frzL, frzEnv, AV.shift, AV.shiftL, aFieldV, aSliceW, aSliceO, aSlice, aSliceR, aSliceS, aBd, aMax, frzAVs, frzAV, frzTab, AObj.frz, aMM, aNilS, aMay, aNil, tyA_41, tyS_41, tyA_67, tyS_67, tyZ_124, tyS_124, tyF_124_1, tyA_3, tyS_3, tyK_3, tyF_51_1, tyF_124_0, tyF_67_0, tyA_4, tyS_4, tyK_4, tyA_51, tyS_51] | (with_reducible refine aIf_split (fun _ => ?_) (fun _ => ?_)) | (with_reducible refine aSel_split (fun _ => ?_) (fun _ => ?_)) | (with_reducible refine aGd_split (fun _ => ?_) (fun _ => ?_))))
      · rename_i h
        simp at h
        simp [h]
      · rename_i h h3
        subst h3
        have e2 : hasB s.opn st = true := by simpa using h
        simp [e0, e1, e2]
      · rename_i h h3
        subst h3
        have e2 : hasB s.opn st = false := by simpa using h
        obtain ⟨k, rfl⟩ : ∃ k : Nat, st = (k : Int) := ⟨st.toNat, by simp [inS] at e0; omega⟩
        have hk : k < m.stages.length := by simp [inS] at e0; omega
        refine callV (above_A m s k hk) ?_
        (repeat' (first | simp (maxSteps := 5000000) (implicitDefEqProofs := false) only [ruA, ruB, aEv, aTake, aLoad, aField, aIndex, aLen, aBin, bin2, aUn, un1, aExtract, aConv, ASt.get, aget, ASt.put, aStore, aBox, aAppend, aBuildSlice, aMake, aBuild, aFill, oneParts, allC, aBinS, yv, aCells, oneC, oneCL, treeC, treeL, aLit, aDst, aSrc, appTab, Value.cells, Value.oneCell', envOf, aResL, aOne, ↓reduceIte, reduceCtorEq, forall_const, Nat.reduceLT, Nat.reduceEqDiff, Nat.reduceAdd, Nat.reduceMul, Nat.reduceSub, Nat.reduceLeDiff, Nat.reduceBEq, eq_self, implies_true, ne_eq, dref, dref1, dref2, aExecS, aStoreB, aTakes, aTakeE, aElder, aFrom, aFresh, isLoad, aBuildSlice1, frzs, frz1, ownIds, AV.frz, AV.frzL, frzEnv, AV.shift, AV.shiftL, aFieldV, aSliceW, aSliceO, aSlice, aSliceR, aSliceS, aBd, aMax, frzAVs, frzAV, frzTab, AObj.frz, aMM, aNilS, aMay, aNil, tyA_41, tyS_41, tyA_67, tyS_67, tyZ_124, tyS_124, tyF_124_1, tyA_3, tyS_3, tyK_3, tyF_51_1, tyF_124_0, tyF_67_0, tyA_4, tyS_4, tyK_4, tyA_51, tyS_51] | (with_reducible refine aIf_split (fun _ => ?_) (fun _ => ?_)) | (with_reducible refine aSel_split (fun _ => ?_) (fun _ => ?_)) | (with_reducible refine aGd_split (fun _ => ?_) (fun _ => ?_))))
        simp [e0, e1, e2]
def firesM (m : Mod) (s : St) (x : Bool × Int) (event : Int) : Bool := readyM m s.opn x event && (match sentryM m x with | some (_, _, cond, _) => optB (holdsO cond s) | none => false)
theorem sentryM_cond {m : Mod} {x : Bool × Int} {st ev mi : Int} {cond : List Inst} (h : sentryM m x = some (st, ev, cond, mi)) : (∃ g ∈ m.guards, g.cond = cond) ∨ (∃ g ∈ m.miles, g.cond = cond) := by
  unfold sentryM at h
  split at h
  all_goals
    split at h
    · simp at h
      obtain ⟨a, ha, hb⟩ := h
      have := List.mem_of_getElem? ha
      first | exact .inl ⟨a, this, hb.2.2.1⟩ | exact .inr ⟨a, this, hb.2.2.1⟩
    · cases h
set_option maxRecDepth 100000 in
set_option maxHeartbeats 4000000 in
theorem fires_A (m : Mod) (s : St) (xm : Bool) (xn event : Int) (hf : Fit m) (hc : condOk m) (hs : ∀ x ∈ s.vals, ok64 x) : ADet Tryz.prog 48 [.agg (eMod m), .agg (eSt s), .agg [eB xm, eI xn], eI event] (val (.bool (firesM m s (xm, xn) event))) := by
  refine adet_of_code mixedT Tryz.func48 rfl (by decide) Tryz.ntmps48 Tryz.results48 rfl (val_ok _) ?_
  (repeat' (first | simp (maxSteps := 5000000) (implicitDefEqProofs := false) only [ruA, ruB, aEv, aTake, aLoad, aField, aIndex, aLen, aBin, bin2, aUn, un1, aExtract, aConv, ASt.get, aget, ASt.put, aStore, aBox, aAppend, aBuildSlice, aMake, aBuild, aFill, oneParts, allC, aBinS, yv, aCells, oneC, oneCL, treeC, treeL, aLit, aDst, aSrc, appTab, Value.cells, Value.oneCell', envOf, aResL, aOne, ↓reduceIte, reduceCtorEq, forall_const, Nat.reduceLT, Nat.reduceEqDiff, Nat.reduceAdd, Nat.reduceMul, Nat.reduceSub, Nat.reduceLeDiff, Nat.reduceBEq, eq_self, implies_true, ne_eq, dref, dref1, dref2, aExecS, aStoreB, aTakes, aTakeE, aElder, aFrom, aFresh, isLoad, aBuildSlice1, frzs, frz1, ownIds, AV.frz, AV.frzL, frzEnv, AV.shift, AV.shiftL, aFieldV, aSliceW, aSliceO, aSlice, aSliceR, aSliceS, aBd, aMax, frzAVs, frzAV, frzTab, AObj.frz, aMM, aNilS, aMay, aNil, tyA_41, tyS_41, tyA_51, tyS_51, tyA_67, tyS_67, tyZ_124, tyS_124, tyF_124_2, tyA_86, tyS_86] | (with_reducible refine aIf_split (fun _ => ?_) (fun _ => ?_)) | (with_reducible refine aSel_split (fun _ => ?_) (fun _ => ?_)) | (with_reducible refine aGd_split (fun _ => ?_) (fun _ => ?_))))
  refine callV (ready_A m s xm xn event) ?_
  (repeat' (first | simp (maxSteps := 5000000) (implicitDefEqProofs := false) only [ruA, ruB, aEv, aTake, aLoad, aField, aIndex, aLen, aBin, bin2, aUn, un1, aExtract, aConv, ASt.get, aget, ASt.put, aStore, aBox, aAppend, aBuildSlice, aMake, aBuild, aFill, oneParts, allC, aBinS, yv, aCells, oneC, oneCL, treeC, treeL, aLit, aDst, aSrc, appTab, Value.cells, Value.oneCell', envOf, aResL, aOne, ↓reduceIte, reduceCtorEq, forall_const, Nat.reduceLT, Nat.reduceEqDiff, Nat.reduceAdd, Nat.reduceMul, Nat.reduceSub, Nat.reduceLeDiff, Nat.reduceBEq, eq_self, implies_true, ne_eq, dref, dref1, dref2, aExecS, aStoreB, aTakes, aTakeE, aElder, aFrom, aFresh, isLoad, aBuildSlice1, frzs, frz1, ownIds, AV.frz, AV.frzL, frzEnv, AV.shift, AV.shiftL, aFieldV, aSliceW, aSliceO, aSlice, aSliceR, aSliceS, aBd, aMax, frzAVs, frzAV, frzTab, AObj.frz, aMM, aNilS, aMay, aNil, tyA_41, tyS_41, tyA_51, tyS_51, tyA_67, tyS_67, tyZ_124, tyS_124, tyF_124_2, tyA_86, tyS_86] | (with_reducible refine aIf_split (fun _ => ?_) (fun _ => ?_)) | (with_reducible refine aSel_split (fun _ => ?_) (fun _ => ?_)) | (with_reducible refine aGd_split (fun _ => ?_) (fun _ => ?_))))
  · rename_i h
    simp at h
    simp [firesM, h]
  · rename_i h
    have hr : readyM m s.opn (xm, xn) event = true := by simpa using h
    have ro : roL [.agg (eMod m), .agg [eB xm, eI xn]] := by simp [roL, roA, treeL, treeC]
    cases he : sentryM m (xm, xn) with
    | none => simp [readyM, he] at hr
    | some q =>
      obtain ⟨st, ev, cond, mi⟩ := q
      have hA := find_A m xm xn
      rw [findR_some he] at hA
      refine callT hA (.inl ro) ?_
      (repeat' (first | simp (maxSteps := 5000000) (implicitDefEqProofs := false) only [ruA, ruB, aEv, aTake, aLoad, aField, aIndex, aLen, aBin, bin2, aUn, un1, aExtract, aConv, ASt.get, aget, ASt.put, aStore, aBox, aAppend, aBuildSlice, aMake, aBuild, aFill, oneParts, allC, aBinS, yv, aCells, oneC, oneCL, treeC, treeL, aLit, aDst, aSrc, appTab, Value.cells, Value.oneCell', envOf, aResL, aOne, ↓reduceIte, reduceCtorEq, forall_const, Nat.reduceLT, Nat.reduceEqDiff, Nat.reduceAdd, Nat.reduceMul, Nat.reduceSub, Nat.reduceLeDiff, Nat.reduceBEq, eq_self, implies_true, ne_eq, dref, dref1, dref2, aExecS, aStoreB, aTakes, aTakeE, aElder, aFrom, aFresh, isLoad, aBuildSlice1, frzs, frz1, ownIds, AV.frz, AV.frzL, frzEnv, AV.shift, AV.shiftL, aFieldV, aSliceW, aSliceO, aSlice, aSliceR, aSliceS, aBd, aMax, frzAVs, frzAV, frzTab, AObj.frz, aMM, aNilS, aMay, aNil, tyA_41, tyS_41, tyA_51, tyS_51, tyA_67, tyS_67, tyZ_124, tyS_124, tyF_124_2, tyA_86, tyS_86] | (with_reducible refine aIf_split (fun _ => ?_) (fun _ => ?_)) | (with_reducible refine aSel_split (fun _ => ?_) (fun _ => ?_)) | (with_reducible refine aGd_split (fun _ => ?_) (fun _ => ?_))))
      have hcl : cond.length ≤ 900 := by
        rcases sentryM_cond he with ⟨g, hg, rfl⟩ | ⟨g, hg, rfl⟩
        · have := hf.guards g hg
          omega
        · have := hf.miles g hg
          omega
      have hco : ∀ x ∈ cond, x.ok := by
        rcases sentryM_cond he with ⟨g, hg, rfl⟩ | ⟨g, hg, rfl⟩
        · exact hc.1 g hg
        · exact hc.2 g hg
      refine callT (holds_A cond s hcl hco hs) (.inl (by simp [roL, roA, treeL, treeC])) ?_
      (repeat' (first | simp (maxSteps := 5000000) (implicitDefEqProofs := false) only [ruA, ruB, aEv, aTake, aLoad, aField, aIndex, aLen, aBin, bin2, aUn, un1, aExtract, aConv, ASt.get, aget, ASt.put, aStore, aBox, aAppend, aBuildSlice, aMake, aBuild, aFill, oneParts, allC, aBinS, yv, aCells, oneC, oneCL, treeC, treeL, aLit, aDst, aSrc, appTab, Value.cells, Value.oneCell', envOf, aResL, aOne, ↓reduceIte, reduceCtorEq, forall_const, Nat.reduceLT, Nat.reduceEqDiff, Nat.reduceAdd, Nat.reduceMul, Nat.reduceSub, Nat.reduceLeDiff, Nat.reduceBEq, eq_self, implies_true, ne_eq, dref, dref1, dref2, aExecS, aStoreB, aTakes, aTakeE, aElder, aFrom, aFresh, isLoad, aBuildSlice1, frzs, frz1, ownIds, AV.frz, AV.frzL, frzEnv, AV.shift, AV.shiftL, aFieldV, aSliceW, aSliceO, aSlice, aSliceR, aSliceS, aBd, aMax, frzAVs, frzAV, frzTab, AObj.frz, aMM, aNilS, aMay, aNil, tyA_41, tyS_41, tyA_51, tyS_51, tyA_67, tyS_67, tyZ_124, tyS_124, tyF_124_2, tyA_86, tyS_86] | (with_reducible refine aIf_split (fun _ => ?_) (fun _ => ?_)) | (with_reducible refine aSel_split (fun _ => ?_) (fun _ => ?_)) | (with_reducible refine aGd_split (fun _ => ?_) (fun _ => ?_))))
      simp [firesM, hr, he]
set_option maxRecDepth 100000 in
theorem parents_A (m : Mod) (hl : m.stages.length ≤ 1000000) : ADet Tryz.prog 72 [.agg (eMod m)] (own 3 1 ((m.stages.map (·.2)).map fun n => [eI n])) := by
  refine adet_of_code mixedT Tryz.func72 rfl (by decide) Tryz.ntmps72 Tryz.results72 rfl (own_ok _ _ _) ?_
  (repeat' (first | simp (maxSteps := 5000000) (implicitDefEqProofs := false) only [ruA, ruB, aEv, aTake, aLoad, aField, aIndex, aLen, aBin, bin2, aUn, un1, aExtract, aConv, ASt.get, aget, ASt.put, aStore, aBox, aAppend, aBuildSlice, aMake, aBuild, aFill, oneParts, allC, aBinS, yv, aCells, oneC, oneCL, treeC, treeL, aLit, aDst, aSrc, appTab, Value.cells, Value.oneCell', envOf, aResL, aOne, ↓reduceIte, reduceCtorEq, forall_const, Nat.reduceLT, Nat.reduceEqDiff, Nat.reduceAdd, Nat.reduceMul, Nat.reduceSub, Nat.reduceLeDiff, Nat.reduceBEq, eq_self, implies_true, ne_eq, dref, dref1, dref2, aExecS, aStoreB, aTakes, aTakeE, aElder, aFrom, aFresh, isLoad, aBuildSlice1, frzs, frz1, ownIds, AV.frz, AV.frzL, frzEnv, AV.shift, AV.shiftL, aFieldV, aSliceW, aSliceO, aSlice, aSliceR, aSliceS, aBd, aMax, frzAVs, frzAV, frzTab, AObj.frz, aMM, aNilS, aMay, aNil, tyF_41_4, tyA_34, tyS_34, tyE_34, tyK_34, tyK_3, tyA_83, tyS_83, tyZ_83, tyF_83_1, tyA_3, tyS_3, tyR_49] | (with_reducible refine aIf_split (fun _ => ?_) (fun _ => ?_)) | (with_reducible refine aSel_split (fun _ => ?_) (fun _ => ?_)) | (with_reducible refine aGd_split (fun _ => ?_) (fun _ => ?_))))
  refine aLoop_of (fun st => ∃ k : Nat, k ≤ m.stages.length ∧ st = ⟨20, [(3, .osl 0), (7, .sl 2 (m.stages.map eNI)), (8, eI m.stages.length), (9, eI (k : Int))], [(0, some (.row 3 1 ((m.stages.take k).map fun p => [eI p.2])))], 1⟩) (fun st => m.stages.length - slotN st 9) ⟨_, ((weak_nil 3 3 1 (by simp only [ruW, ASt.get, aget, ASt.put, ↓reduceIte, reduceCtorEq, Nat.reduceLT, Nat.reduceEqDiff, Nat.reduceAdd, Nat.reduceLeDiff, eq_self, implies_true, List.take_zero, List.map_nil])).trans (weak_ren1 [1] ⟨(by decide), (by (first | ((simp only [envInR, tabInR, envLt, tabLt, AObj.lt, AV.lt, AV.ltL, AV.ren, AV.renL, AObj.ren, List.getD_cons_zero, List.getD_cons_succ, List.length_cons, List.length_nil, ruW, ASt.get, aget, ASt.put, ↓reduceIte, reduceCtorEq, Nat.reduceLT, Nat.reduceEqDiff, Nat.reduceAdd, Nat.reduceLeDiff, eq_self, implies_true, List.take_zero, List.map_nil]) <;> (repeat' apply And.intro) <;> first | (rw [wrapK (by omega)]; done) | (simp; done) | omega) | fail))⟩)), 0, Nat.zero_le _, rfl⟩ ?_
  rintro _ ⟨k, hk, rfl⟩
  by_cases hlt : k < m.stages.length
  · have et : (m.stages.take (k + 1)).map (fun p => [eI p.2]) = (m.stages.take k).map (fun p => [eI p.2]) ++ [[eI m.stages[k].2]] := take_snoc _ _ hlt
    have el : ((m.stages.take k).map fun p => [eI p.2]).length + 1 ≤ 1000000 := by simp; omega
    (repeat' (first | simp (maxSteps := 5000000) (implicitDefEqProofs := false) only [ruA, ruB, aEv, aTake, aLoad, aField, aIndex, aLen, aBin, bin2, aUn, un1, aExtract, aConv, ASt.get, aget, ASt.put, aStore, aBox, aAppend, aBuildSlice, aMake, aBuild, aFill, oneParts, allC, aBinS, yv, aCells, oneC, oneCL, treeC, treeL, aLit, aDst, aSrc, appTab, Value.cells, Value.oneCell', envOf, aResL, aOne, ↓reduceIte, reduceCtorEq, forall_const, Nat.reduceLT, Nat.reduceEqDiff, Nat.reduceAdd, Nat.reduceMul, Nat.reduceSub, Nat.reduceLeDiff, Nat.reduceBEq, eq_self, implies_true, ne_eq, dref, dref1, dref2, aExecS, aStoreB, aTakes, aTakeE, aElder, aFrom, aFresh, isLoad, aBuildSlice1, frzs, frz1, ownIds, AV.frz, AV.frzL, frzEnv, AV.shift, AV.shiftL, aFieldV, aSliceW, aSliceO, aSlice, aSliceR, aSliceS, aBd, aMax, frzAVs, frzAV, frzTab, AObj.frz, aMM, aNilS, aMay, aNil, tyF_41_4, tyA_34, tyS_34, tyE_34, tyK_34, tyK_3, tyA_83, tyS_83, tyZ_83, tyF_83_1, tyA_3, tyS_3, tyR_49, row_at, hlt] | (with_reducible refine aIf_split (fun _ => ?_) (fun _ => ?_)) | (with_reducible refine aSel_split (fun _ => ?_) (fun _ => ?_)) | (with_reducible refine aGd_split (fun _ => ?_) (fun _ => ?_))))
    refine ⟨rfl, by simp only [List.length_take]; omega, roundI (weak_ren1 [3] ⟨(by decide), (by (first | ((simp only [envInR, tabInR, envLt, tabLt, AObj.lt, AV.lt, AV.ltL, AV.ren, AV.renL, AObj.ren, List.getD_cons_zero, List.getD_cons_succ, List.length_cons, List.length_nil, ruW, ASt.get, aget, ASt.put, ↓reduceIte, reduceCtorEq, Nat.reduceLT, Nat.reduceEqDiff, Nat.reduceAdd, Nat.reduceLeDiff, eq_self, implies_true, et]) <;> (repeat' apply And.intro) <;> first | (rw [wrapK (by omega)]; done) | (simp; done) | omega) | fail))⟩) ⟨k + 1, by omega, rfl⟩ (by simp only [slotN, ruW, ASt.get, aget, ASt.put, ↓reduceIte, reduceCtorEq, Nat.reduceLT, Nat.reduceEqDiff, Nat.reduceAdd, Nat.reduceLeDiff, eq_self, implies_true]; omega)⟩
  · obtain rfl : k = m.stages.length := by omega
    (repeat' (first | simp (maxSteps := 5000000) (implicitDefEqProofs := false) only [ruA, ruB, aEv, aTake, aLoad, aField, aIndex, aLen, aBin, bin2, aUn, un1, aExtract, aConv, ASt.get, aget, ASt.put, aStore, aBox, aAppend, aBuildSlice, aMake, aBuild, aFill, oneParts, allC, aBinS, yv, aCells, oneC, oneCL, treeC, treeL, aLit, aDst, aSrc, appTab, Value.cells, Value.oneCell', envOf, aResL, aOne, ↓reduceIte, reduceCtorEq, forall_const, Nat.reduceLT, Nat.reduceEqDiff, Nat.reduceAdd, Nat.reduceMul, Nat.reduceSub, Nat.reduceLeDiff, Nat.reduceBEq, eq_self, implies_true, ne_eq, dref, dref1, dref2, aExecS, aStoreB, aTakes, aTakeE, aElder, aFrom, aFresh, isLoad, aBuildSlice1, frzs, frz1, ownIds, AV.frz, AV.frzL, frzEnv, AV.shift, AV.shiftL, aFieldV, aSliceW, aSliceO, aSlice, aSliceR, aSliceS, aBd, aMax, frzAVs, frzAV, frzTab, AObj.frz, aMM, aNilS, aMay, aNil, tyF_41_4, tyA_34, tyS_34, tyE_34, tyK_34, tyK_3, tyA_83, tyS_83, tyZ_83, tyF_83_1, tyA_3, tyS_3, tyR_49, row_at, hlt] | (with_reducible refine aIf_split (fun _ => ?_) (fun _ => ?_)) | (with_reducible refine aSel_split (fun _ => ?_) (fun _ => ?_)) | (with_reducible refine aGd_split (fun _ => ?_) (fun _ => ?_))))
    exact aGives_own (by simp [ATab.get_cons])
end
end Go.Proofs.YtmochnclbcbijaaGreat
