/-
  PathLeads: for every input the law returns true, and it reads as it did. No condition.
-/
import Derived.Test.YtcdeidedcbnhaaaPathLaws4
set_option linter.unusedVariables false
set_option linter.unusedSimpArgs false
namespace Go.Proofs.Ytcdeidedcbnhaaa
open Go.ChangeShapes Go.WideShapes Go.ChangeAt Go.RowKit

set_option maxRecDepth 100000 in
theorem pathLeads_lifted (os : Os) (started : os.Started) (H : Type) (enc : TypeId × Value → H) :
    ReturnsInHanded {} Try.checked os 13 .any (Rows.pathLeadsSpec.pre6 enc Try.prog Try.f13 Rows.pathLeadsRow.domain false) (Rows.pathLeadsSpec.post enc Try.prog Try.f13 false true false false) := by
  refine returnsInHanded_of_change (C := Try.checked) lawOwn started (by kernel_rfl) Try.func13
    (ChangeSpec.witness6 (enc := enc) (C := Try.checked) false ⟨#[], #[.slice none 0 0, .int .i64 0, .agg #[.slice none 0 0, .slice none 0 0]], []⟩ 8 (by kernel_rfl) (by kernel_rfl) (by kernel_rfl) (by kernel_rfl)) ?_
  intro W base args ds gs before hval0 hW hcnd _
  have hval : ∀ (j : Nat) t v, Try.f13.params[j]? = some t → args[j]? = some v → Value.okWide Try.prog W .any base t v := hval0
  have hW' := hW
  obtain ⟨p, q, hA, _⟩ := hW'
  have hA' : DataW.TrodAll enc Try.prog W 0 (fun _ => true) true Try.f13.params.toList args.toList ds p := hA
  rw [Try.params13] at hA' hval
  obtain ⟨v0, vs0, d0, ds0, p0, q0, hargs, hds, _, h0, r0⟩ := trodAll_cons hA'
  obtain ⟨v1, vs1, d1, ds1, p1, q1, rfl, rfl, _, h1, r1⟩ := trodAll_cons r0
  obtain ⟨v2, vs2, d2, ds2, p2, q2, rfl, rfl, _, h2, r2⟩ := trodAll_cons r1
  obtain ⟨rfl, rfl, _⟩ := trodAll_nil r2
  obtain rfl : args = #[v0, v1, v2] := by cases args; simp_all
  subst hds
  refine law_calls (by kernel_rfl) (by kernel_rfl) rfl hW (fun gs' h => by subst h; rfl) ?_
  obtain ⟨fuel_next, hf_next⟩ := h0
  obtain ⟨a0_next, l0_next, c0_next, rfl⟩ := okWide_slice Try.underlying37 (hval 0 37 _ rfl rfl)
  obtain ⟨next, h_next⟩ := opensRows H enc W _ _ _ hf_next
  obtain ⟨i, rfl, rfl, rfl, wi⟩ := open_int Try.underlying3 (hval 1 3 _ rfl rfl) h1
  obtain ⟨fuel_ask, hf_ask⟩ := h2
  obtain ⟨x_ask, y_ask, rfl⟩ := okWide_two Try.underlying42 (by kernel_rfl) (hval 2 42 _ rfl rfl)
  obtain ⟨ask, h_ask⟩ := opensAsk H enc W _ _ _ hf_ask
  obtain ⟨h1_ask, h2_ask⟩ := pair_one rfl rfl h_ask
  exact pathLeads_law next i ask.1 ask.2 _ _ _ W (slice_len h_next) (slice_len h1_ask) (slice_len h2_ask) h_next h1_ask h2_ask

theorem pathLeads_holds : Rows.PathLeadsSaid :=
  OpenClaim.holds_of_wide 13 Try.f13 rfl rfl rfl rfl rfl rfl rfl ⟨rfl, rfl, rfl, rfl, rfl⟩ rfl rfl rfl rfl rfl (by kernel_rfl) Try.func13 (by kernel_rfl)
    (of_decide_eq_true (by kernel_rfl)) (by unfold Func.isWrapper; first | (rw [if_pos (by decide +kernel)]; kernel_rfl) | (rw [if_neg (by decide +kernel)]; exact ⟨rfl, rfl⟩))
    (fun os started H enc _ => pathLeads_lifted os started H enc)
#print axioms pathLeads_holds

end Go.Proofs.Ytcdeidedcbnhaaa
