/-
  Arguments: api.Model opens.
-/
import Derived.Test.YtfocnmkbnccilaaEvOpen
import Derived.Test.YtfocnmkbnccilaaMod
set_option linter.unusedVariables false
set_option linter.unusedSimpArgs false
namespace Go.Proofs.Ytfocnmkbnccilaa
open Go.RowKit

theorem opensStr : Opens Try.prog 9 strR := opens_string Try.underlying9
theorem opensBoolM : Opens Try.prog 4 boolR := opens_bool Try.underlying4
theorem opensNameInt {t : TypeId} (h : Opens Try.prog t (pairR strR (pairR (intR .i64) nilR))) : Opens Try.prog t nameIntR := opens_map h (fun p => (p.1, p.2.1)) (by
  rintro w S cs ⟨s, n, _⟩ h
  obtain ⟨c0, q0, e0, ⟨a0, h0⟩, h⟩ := pair_inv h
  obtain ⟨c1, q1, e1, ⟨a1, h1⟩, h⟩ := pair_inv h
  have h : q1 = [] := h
  exact ⟨by rw [e0, e1, a0, a1, h]; rfl, h0, wf_i64 h1⟩)
theorem opensStage : Opens Try.prog 70 nameIntR := opensNameInt (opens_struct Try.underlying70 (by kernel_rfl) (opensF_cons (by kernel_rfl) (by kernel_rfl) opensStr (opensF_cons (by kernel_rfl) (by kernel_rfl) opensInt (opensF_nil _ _))))
theorem opensRole : Opens Try.prog 68 nameIntR := opensNameInt (opens_struct Try.underlying68 (by kernel_rfl) (opensF_cons (by kernel_rfl) (by kernel_rfl) opensStr (opensF_cons (by kernel_rfl) (by kernel_rfl) opensInt (opensF_nil _ _))))
theorem opensSod : Opens Try.prog 104 intIntR := opens_map (r := pairR (intR .i64) (pairR (intR .i64) nilR)) (opens_struct Try.underlying104 (by kernel_rfl) (opensF_cons (by kernel_rfl) (by kernel_rfl) opensInt (opensF_cons (by kernel_rfl) (by kernel_rfl) opensInt (opensF_nil _ _)))) (fun p => (p.1, p.2.1)) (by
  rintro w S cs ⟨s, n, _⟩ h
  obtain ⟨c0, q0, e0, ⟨a0, h0⟩, h⟩ := pair_inv h
  obtain ⟨c1, q1, e1, ⟨a1, h1⟩, h⟩ := pair_inv h
  have h : q1 = [] := h
  exact ⟨by rw [e0, e1, a0, a1, h]; rfl, wf_i64 h0, wf_i64 h1⟩)
theorem opensSentry : Opens Try.prog 57 sentryR := opens_map (r := pairR boolR (pairR (intR .i64) nilR)) (opens_struct Try.underlying57 (by kernel_rfl) (opensF_cons (by kernel_rfl) (by kernel_rfl) opensBoolM (opensF_cons (by kernel_rfl) (by kernel_rfl) opensInt (opensF_nil _ _)))) (fun p => (p.1, p.2.1)) (by
  rintro w S cs ⟨s, n, _⟩ h
  obtain ⟨c0, q0, e0, a0, h⟩ := pair_inv h
  have a0 : c0 = [.bool s] := a0
  obtain ⟨c1, q1, e1, ⟨a1, h1⟩, h⟩ := pair_inv h
  have h : q1 = [] := h
  exact ⟨by rw [e0, e1, a0, a1, h]; rfl, wf_i64 h1⟩)
theorem opensGuard : Opens Try.prog 62 gdR := opens_map (r := pairR (intR .i64) (pairR (intR .i64) (pairR (sliceR instR) nilR))) (opens_struct Try.underlying62 (by kernel_rfl) (opensF_cons (by kernel_rfl) (by kernel_rfl) opensInt (opensF_cons (by kernel_rfl) (by kernel_rfl) opensInt (opensF_cons (by kernel_rfl) (by kernel_rfl) opensInsts (opensF_nil _ _))))) (fun p => ⟨p.1, p.2.1, p.2.2.1⟩) (by
  rintro w S cs ⟨s, n, l, _⟩ h
  obtain ⟨c0, q0, e0, ⟨a0, h0⟩, h⟩ := pair_inv h
  obtain ⟨c1, q1, e1, ⟨a1, h1⟩, h⟩ := pair_inv h
  obtain ⟨c2, q2, e2, h2, h⟩ := pair_inv h
  have h : q2 = [] := h
  obtain ⟨cv, rfl, h2⟩ := one_inv (r := sliceR instR) rfl h2
  exact ⟨cv, by rw [e0, e1, e2, a0, a1, h]; rfl, h2, wf_i64 h0, wf_i64 h1⟩)
theorem opensMile : Opens Try.prog 64 mlR := opens_map (r := pairR strR (pairR (intR .i64) (pairR (intR .i64) (pairR (sliceR instR) (pairR boolR nilR))))) (opens_struct Try.underlying64 (by kernel_rfl) (opensF_cons (by kernel_rfl) (by kernel_rfl) opensStr (opensF_cons (by kernel_rfl) (by kernel_rfl) opensInt (opensF_cons (by kernel_rfl) (by kernel_rfl) opensInt (opensF_cons (by kernel_rfl) (by kernel_rfl) opensInsts (opensF_cons (by kernel_rfl) (by kernel_rfl) opensBoolM (opensF_nil _ _))))))) (fun p => ⟨p.1, p.2.1, p.2.2.1, p.2.2.2.1, p.2.2.2.2.1⟩) (by
  rintro w S cs ⟨nm, s, n, l, b, _⟩ h
  obtain ⟨c9, q9, e9, ⟨a9, h9⟩, h⟩ := pair_inv h
  obtain ⟨c0, q0, e0, ⟨a0, h0⟩, h⟩ := pair_inv h
  obtain ⟨c1, q1, e1, ⟨a1, h1⟩, h⟩ := pair_inv h
  obtain ⟨c2, q2, e2, h2, h⟩ := pair_inv h
  obtain ⟨c3, q3, e3, a3, h⟩ := pair_inv h
  have a3 : c3 = [.bool b] := a3
  have h : q3 = [] := h
  obtain ⟨cv, rfl, h2⟩ := one_inv (r := sliceR instR) rfl h2
  exact ⟨cv, by rw [e9, e0, e1, e2, e3, a9, a0, a1, a3, h]; rfl, h2, wf_i64 h0, wf_i64 h1, h9⟩)
theorem opensEvent : Opens Try.prog 66 evR := opens_map (r := pairR strR (pairR (intR .i64) (pairR (intR .i64) (pairR (sliceR (intR .i64)) (pairR (intR .i64) nilR))))) (opens_struct Try.underlying66 (by kernel_rfl) (opensF_cons (by kernel_rfl) (by kernel_rfl) opensStr (opensF_cons (by kernel_rfl) (by kernel_rfl) opensInt (opensF_cons (by kernel_rfl) (by kernel_rfl) opensInt (opensF_cons (by kernel_rfl) (by kernel_rfl) opensIntsE (opensF_cons (by kernel_rfl) (by kernel_rfl) opensInt (opensF_nil _ _))))))) (fun p => ⟨p.1, p.2.1, p.2.2.1, p.2.2.2.1, p.2.2.2.2.1⟩) (by
  rintro w S cs ⟨nm, s, n, l, b, _⟩ h
  obtain ⟨c9, q9, e9, ⟨a9, h9⟩, h⟩ := pair_inv h
  obtain ⟨c0, q0, e0, ⟨a0, h0⟩, h⟩ := pair_inv h
  obtain ⟨c1, q1, e1, ⟨a1, h1⟩, h⟩ := pair_inv h
  obtain ⟨c2, q2, e2, h2, h⟩ := pair_inv h
  obtain ⟨c3, q3, e3, ⟨a3, h3⟩, h⟩ := pair_inv h
  have h : q3 = [] := h
  obtain ⟨cv, rfl, h2⟩ := one_inv (r := sliceR (intR .i64)) rfl h2
  exact ⟨cv, by rw [e9, e0, e1, e2, e3, a9, a0, a1, a3, h]; rfl, h2, wf_i64 h0, wf_i64 h1, wf_i64 h3, h9⟩)
abbrev modP := pairR (sliceR strR) (pairR (sliceR (intR .i64)) (pairR (sliceR strR) (pairR (sliceR nameIntR) (pairR (sliceR nameIntR) (pairR (sliceR evR) (pairR (sliceR gdR) (pairR (sliceR mlR) (pairR (sliceR intIntR) (pairR (sliceR sentryR) nilR)))))))))
set_option maxRecDepth 100000 in
theorem opensModP : Opens Try.prog 32 modP := opens_struct Try.underlying32 (by kernel_rfl) (opensF_cons (by kernel_rfl) (by kernel_rfl) (opens_slice Try.underlying22 (by kernel_rfl) (by decide) opensStr) (opensF_cons (by kernel_rfl) (by kernel_rfl) (opens_slice Try.underlying23 (by kernel_rfl) (by decide) opensI64) (opensF_cons (by kernel_rfl) (by kernel_rfl) (opens_slice Try.underlying22 (by kernel_rfl) (by decide) opensStr) (opensF_cons (by kernel_rfl) (by kernel_rfl) (opens_slice Try.underlying24 (by kernel_rfl) (by decide) opensRole) (opensF_cons (by kernel_rfl) (by kernel_rfl) (opens_slice Try.underlying25 (by kernel_rfl) (by decide) opensStage) (opensF_cons (by kernel_rfl) (by kernel_rfl) (opens_slice Try.underlying26 (by kernel_rfl) (by decide) opensEvent) (opensF_cons (by kernel_rfl) (by kernel_rfl) (opens_slice Try.underlying27 (by kernel_rfl) (by decide) opensGuard) (opensF_cons (by kernel_rfl) (by kernel_rfl) (opens_slice Try.underlying28 (by kernel_rfl) (by decide) opensMile) (opensF_cons (by kernel_rfl) (by kernel_rfl) (opens_slice Try.underlying29 (by kernel_rfl) (by decide) opensSod) (opensF_cons (by kernel_rfl) (by kernel_rfl) (opens_slice Try.underlying30 (by kernel_rfl) (by decide) opensSentry) (opensF_nil _ _)))))))))))
theorem open_mod {H : Type} {enc : TypeId × Value → H} {w : World} {fuel : Nat} {cs : Array Value} {x : DataW H × List MemPlace} (h : DataW.trod enc Try.prog w 0 (fun _ => true) true fuel 32 cs.toList = some x) :
    ∃ (V : MV) (m : Mod), cs = V.cells ∧ ModI w V m := by
  obtain ⟨⟨attrs, inits, users, roles, stages, events, guards, miles, sods, order, _⟩, h⟩ := opensModP H enc w fuel _ _ h
  obtain ⟨c0, q0, e0, h0, h⟩ := pair_inv h
  obtain ⟨c1, q1, e1, h1, h⟩ := pair_inv h
  obtain ⟨c2, q2, e2, h2, h⟩ := pair_inv h
  obtain ⟨c3, q3, e3, h3, h⟩ := pair_inv h
  obtain ⟨c4, q4, e4, h4, h⟩ := pair_inv h
  obtain ⟨c5, q5, e5, h5, h⟩ := pair_inv h
  obtain ⟨c6, q6, e6, h6, h⟩ := pair_inv h
  obtain ⟨c7, q7, e7, h7, h⟩ := pair_inv h
  obtain ⟨c8, q8, e8, h8, h⟩ := pair_inv h
  obtain ⟨c9, q9, e9, h9, h⟩ := pair_inv h
  obtain rfl : q9 = [] := h
  obtain ⟨v0, rfl, h0⟩ := one_inv (r := sliceR strR) rfl h0
  obtain ⟨v1, rfl, h1⟩ := one_inv (r := sliceR (intR .i64)) rfl h1
  obtain ⟨v2, rfl, h2⟩ := one_inv (r := sliceR strR) rfl h2
  obtain ⟨v3, rfl, h3⟩ := one_inv (r := sliceR nameIntR) rfl h3
  obtain ⟨v4, rfl, h4⟩ := one_inv (r := sliceR nameIntR) rfl h4
  obtain ⟨v5, rfl, h5⟩ := one_inv (r := sliceR evR) rfl h5
  obtain ⟨v6, rfl, h6⟩ := one_inv (r := sliceR gdR) rfl h6
  obtain ⟨v7, rfl, h7⟩ := one_inv (r := sliceR mlR) rfl h7
  obtain ⟨v8, rfl, h8⟩ := one_inv (r := sliceR intIntR) rfl h8
  obtain ⟨v9, rfl, h9⟩ := one_inv (r := sliceR sentryR) rfl h9
  refine ⟨⟨v0, v1, v2, v3, v4, v5, v6, v7, v8, v9⟩, ⟨attrs, inits, users, roles, stages, events, guards, miles, sods, order⟩, ?_, ⟨h0, h1, h2, h3, h4, h5, h6, h7, h8, h9⟩⟩
  apply Array.ext'
  rw [e0, e1, e2, e3, e4, e5, e6, e7, e8, e9]
  rfl
end Go.Proofs.Ytfocnmkbnccilaa
