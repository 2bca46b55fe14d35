/-
  SimPicks: which chance comes next, and what a chance picks.
-/
import Derived.Test.YtmochnclbcbijaaGreatSpk10
set_option linter.unusedVariables false
set_option linter.unusedSimpArgs false
namespace Go.Proofs.YtmochnclbcbijaaGreat
open Go.ChangeShapes Go.WideShapes Go.ChangeAt Go.RowKit

set_option maxRecDepth 100000 in
theorem simPicks_lifted (os : Os) (started : os.Started) (H : Type) (enc : TypeId × Value → H) :
    ReturnsInHanded {} Tryz.checked os 3 .any (Rows.simPicksSpec.pre6 enc Tryz.prog Tryz.f3 Rows.simPicksRow.domain false) (Rows.simPicksSpec.post enc Tryz.prog Tryz.f3 false true false false) := by
  refine returnsInHanded_of_change (C := Tryz.checked) lawOwn started (by kernel_rfl) Tryz.func3
    (ChangeSpec.witness6 (enc := enc) (C := Tryz.checked) false ⟨#[], #[.int .u64 0, .int .i64 0], []⟩ 8 (by kernel_rfl) (by kernel_rfl) (by kernel_rfl) (by kernel_rfl)) ?_
  intro W base args ds gs before hval0 hW hcnd _
  have hval : ∀ (j : Nat) t v, Tryz.f3.params[j]? = some t → args[j]? = some v → Value.okWide Tryz.prog W .any base t v := hval0
  have hW' := hW
  obtain ⟨p, q, hA, _⟩ := hW'
  have hA' : DataW.TrodAll enc Tryz.prog W 0 (fun _ => true) true Tryz.f3.params.toList args.toList ds p := hA
  rw [Tryz.params3] at hA' hval
  obtain ⟨v0, vs0, d0, ds0, p0, q0, hargs, hds, _, h0, r0⟩ := trodAll_cons hA'
  obtain ⟨v1, vs1, d1, ds1, p1, q1, rfl, rfl, _, h1, r1⟩ := trodAll_cons r0
  obtain ⟨rfl, rfl, _⟩ := trodAll_nil r1
  obtain rfl : args = #[v0, v1] := by cases args; simp_all
  subst hds
  refine law_calls (by kernel_rfl) (by kernel_rfl) rfl hW (fun gs' h => by subst h; rfl) ?_
  obtain ⟨c, rfl, rfl, rfl, ok_c⟩ := open_int Tryz.underlying22 (hval 0 22 _ rfl rfl) h0
  obtain ⟨n, rfl, rfl, rfl, ok_n⟩ := open_int Tryz.underlying3 (hval 1 3 _ rfl rfl) h1
  refine (simPicks_A c n (wf_u64 ok_c) (wf_i64 ok_n)).calls rfl fun j v av h3 h4 => ?_
  match j with
  | 0 => simp at h3 h4; subst h3; subst h4; exact .c _
  | 1 => simp at h3 h4; subst h3; subst h4; exact .c _
  | j + 2 => simp at h3

theorem simPicks_holds : Rows.SimPicksSaid :=
  OpenClaim.holds_of_wide 3 Tryz.f3 rfl rfl rfl rfl rfl rfl rfl ⟨rfl, rfl, rfl, rfl, rfl⟩ rfl rfl rfl rfl rfl (by kernel_rfl) Tryz.func3 (by kernel_rfl)
    (of_decide_eq_true (by kernel_rfl)) (by unfold Func.isWrapper; first | (rw [if_pos (by decide +kernel)]; kernel_rfl) | (rw [if_neg (by decide +kernel)]; exact ⟨rfl, rfl⟩))
    (fun os started H enc _ => simPicks_lifted os started H enc)
#print axioms simPicks_holds
end Go.Proofs.YtmochnclbcbijaaGreat
