/-
  The walk of eval.Holds. No condition but the lists' lengths.
-/
import Derived.Test.YtfocnmkbnccilaaEvSides2
import Derived.Conc.MuLone
set_option linter.unusedVariables false
set_option linter.unusedSimpArgs false
namespace Go.Proofs.Ytfocnmkbnccilaa
open Go.RowKit

theorem lessEnter (args : Array Value) (w : World) : (callFunc 108 args).run Try.prog w = .ok (.enter 108 args) w := by
  simp [go_sem, Try.func108]
theorem lessOK (vals : List Int) (vv : Value) (S : Nat → Prop) (o d : Int) (dv cv : Value) (sb : Nat) (w : World) (h : (sliceR (intR .i64)).one w S vv vals) (hS : ∀ b, S b → b < w.heap.size) (hb : Blk w sb 38 (stCells vv o d dv cv)) (x : Inst) :
    LessOK 108 #[.pointer (some ⟨sb, 0, none⟩)] (cmS vals) x w := by
  intro w' hw
  have h' := slice_below h hw hS
  have hS' : ∀ b, S b → b < w'.heap.size := fun b hb => Nat.lt_of_lt_of_le (hS b hb) hw.size
  have hb' := hb.below hw hb.lt
  unfold cmS
  cases hx : valO vals x.la x.ln with
  | none => exact less_none1 vals vv S o d dv cv x.la x.ln x.ra x.rn sb w' h' hS' hb' hx |>.mono fun e w'' ⟨p, h1, h2, h3⟩ => ⟨by rw [h1, h2], h3⟩
  | some a =>
    cases hy : valO vals x.ra x.rn with
    | none => exact less_none2 vals vv S o d dv cv x.la x.ln x.ra x.rn a sb w' h' hS' hb' hx hy |>.mono fun e w'' ⟨p, h1, h2, h3⟩ => ⟨by rw [h1, h2], h3⟩
    | some b => exact less_some vals vv S o d dv cv x.la x.ln x.ra x.rn a b sb w' h' hS' hb' hx hy

theorem sides_any (l : List Inst) (lv : Value) (S : Nat → Prop) (k : Nat) (caps : Array Value) (vv : Value) (o d : Int) (dv cv : Value) (w : World) (h : (sliceR instR).one w S lv l) (hS : ∀ b, S b → b < w.heap.size) (hl : l.length ≤ 900)
    (hcf : ∀ (args : Array Value) (w : World), (callFunc k args).run Try.prog w = .ok (.enter k args) w) (cm : Inst → Option Int) (HL : ∀ x ∈ l, LessOK k caps cm x w) :
    Calls Try.prog 107 #[lv, .func (.func k) #[] caps, stAgg vv o d dv cv] w (SidesPost (holdsG cm o d l) w) := by
  by_cases hc : checkE (l.map Inst.op) = 0
  · exact sides_ok l lv S k caps vv o d dv cv w h hS hl hc hcf cm (hide HL)
  · have e : holdsG cm o d l = none := by unfold holdsG; rw [if_pos hc]
    rw [e]
    exact sides_bad l lv S k caps vv o d dv cv w h hS hl hc

set_option maxHeartbeats 1000000 in
theorem holds_any (l : List Inst) (s : St) (lv vv : Value) (dv cv : Value) (S T : Nat → Prop) (w : World) (h : (sliceR instR).one w S lv l) (hS : ∀ b, S b → b < w.heap.size) (hl : l.length ≤ 900) (hv : (sliceR (intR .i64)).one w T vv s.vals) (hT : ∀ b, T b → b < w.heap.size) :
    Calls Try.prog 82 #[lv, stAgg vv s.opn s.don dv cv] w (SidesPost (holdsO l s) w) := by
  obtain ⟨vals, o, d, did, cnt⟩ := s
  simp only at hv ⊢
  unfold holdsO
  simp only
  have hmf : ∀ (fn : Fn) (first cap : Array Value) (w : World), (Instr.makeFunc fn first cap).run Try.prog w = .ok (.func fn first cap) w := fun _ _ _ _ => rfl
  have hb0 : Below w.heap.size w (w.alloc (.cells #[vv, .int .i64 o, .int .i64 d, dv, cv] 38)) := (Below.refl _ _).alloc (Nat.le_refl _) _
  have hC := hide (sides_any l lv S 108 #[.pointer (some ⟨w.heap.size, 0, none⟩)] vv o d dv cv _ (slice_below h hb0 hS) (fun b hb => by have := hS b hb; simp; omega) hl lessEnter (cmS vals) (fun x _ => lessOK vals vv T o d dv cv w.heap.size _ (slice_below hv hb0 hT) (fun b hb => by have := hT b hb; simp; omega) (Blk.new w _ _) x))
  have HB := hide hb0
  clear h hS hv hT hb0
  go_enter Try.func82, Try.ntmps82
  go_wp2_with fail
  refine hC.out.mono ?_
  rintro e w1 ⟨rfl, hb1⟩
  go_wp2_with fail
  go_ret2
  exact ⟨rfl, HB.out.trans (hb1.mono HB.out.size)⟩
end Go.Proofs.Ytfocnmkbnccilaa
