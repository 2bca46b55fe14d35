/-
  SimIn: each state of a run by chance lies in a node of the model's graph
-/
import Derived.Test.YtglaiabelcefeaaGreatSinq10
set_option linter.unusedVariables false
set_option linter.unusedSimpArgs false
namespace Go.Proofs.YtglaiabelcefeaaGreat
open Go.ChangeShapes Go.WideShapes Go.ChangeAt Go.RowKit

set_option maxRecDepth 100000 in
theorem simIn_lifted (os : Go.Os) (started : os.Started) (H : Type) (enc : TypeId × Value → H) :
    ReturnsInHanded {} Tryz.checked os 3 .any (Rows.simInSpec.pre6 enc Tryz.prog Tryz.f3 Rows.simInRow.domain false) (Rows.simInSpec.post enc Tryz.prog Tryz.f3 false true false false) := by
  refine returnsInHanded_of_change (C := Tryz.checked) R5 started (by kernel_rfl) Tryz.func3
    (ChangeSpec.witness6 (enc := enc) (C := Tryz.checked) false ⟨#[], #[.agg #[.slice none 0 0, .slice none 0 0, .slice none 0 0, .slice none 0 0, .slice none 0 0, .slice none 0 0, .slice none 0 0, .slice none 0 0, .slice none 0 0, .slice none 0 0], .int .u64 0, .int .u8 0], []⟩ 8 (by kernel_rfl) (by kernel_rfl) (by kernel_rfl) (by kernel_rfl)) ?_
  intro W base args ds gs before hval0 hW hcnd _
  have hval : ∀ (j : Nat) t v, Tryz.f3.params[j]? = some t → args[j]? = some v → Value.okWide Tryz.prog W .any base t v := hval0
  have hW' := hW
  obtain ⟨p, q, hA, _⟩ := hW'
  have hA' : DataW.TrodAll enc Tryz.prog W 0 (fun _ => true) true Tryz.f3.params.toList args.toList ds p := hA
  rw [Tryz.params3] at hA' hval
  obtain ⟨v0, vs0, d0, ds0, p0, q0, hargs, hds, _, h0, r0⟩ := trodAll_cons hA'
  obtain ⟨v1, vs1, d1, ds1, p1, q1, rfl, rfl, _, h1, r1⟩ := trodAll_cons r0
  obtain ⟨v2, vs2, d2, ds2, p2, q2, rfl, rfl, _, h2, r2⟩ := trodAll_cons r1
  obtain ⟨rfl, rfl, _⟩ := trodAll_nil r2
  obtain rfl : args = #[v0, v1, v2] := by cases args; simp_all
  subst hds
  refine EU (by kernel_rfl) (by kernel_rfl) rfl hW (fun gs' h => by subst h; rfl) ?_
  obtain ⟨fuel_m, hf_m⟩ := h0
  obtain ⟨cs_m, rfl, _⟩ := um Tryz.underlying32 (hval 0 32 _ rfl rfl)
  obtain ⟨V_m, m, rfl, h_m⟩ := L5 hf_m
  obtain ⟨s, rfl, rfl, rfl, ok_s⟩ := open_int Tryz.underlying33 (hval 1 33 _ rfl rfl) h1
  obtain ⟨a0, rfl, rfl, rfl, ok_a⟩ := open_int Tryz.underlying5 (hval 2 5 _ rfl rfl) h2
  obtain ⟨a, rfl, ha⟩ := Tj ok_a
  refine (Pi m s a (GB h_m) (Ju h_m) (GZ h_m) (Hi h_m) (Fs h_m) (TJ ok_s) ha).calls rfl fun j v av h3 h4 => ?_
  match j with
  | 0 => simp at h3 h4; subst h3; subst h4; exact Qz h_m
  | 1 => simp at h3 h4; subst h3; subst h4; exact .c _
  | 2 => simp at h3 h4; subst h3; subst h4; exact .c _
  | j + 3 => simp at h3

theorem simIn_holds : Rows.SimInSaid :=
  OpenClaim.holds_of_wide 3 Tryz.f3 rfl rfl rfl rfl rfl rfl rfl ⟨rfl, rfl, rfl, rfl, rfl⟩ rfl rfl rfl rfl rfl (by kernel_rfl) Tryz.func3 (by kernel_rfl)
    (of_decide_eq_true (by kernel_rfl)) (by unfold Func.isWrapper; first | (rw [if_pos (by decide +kernel)]; kernel_rfl) | (rw [if_neg (by decide +kernel)]; exact ⟨rfl, rfl⟩))
    (fun os started H enc _ => simIn_lifted os started H enc)
#print axioms simIn_holds
end Go.Proofs.YtglaiabelcefeaaGreat
