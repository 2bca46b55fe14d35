/-
  LabelSets: for all sets the law returns true, and it reads as it did. No condition.
-/
import Derived.Test.YtcdeidedcbnhaaaLabelOpen
import Derived.Test.YtcdeidedcbnhaaaLabelLaws2
import Derived.SizedLaws
set_option linter.unusedVariables false
set_option linter.unusedSimpArgs false
namespace Go.Proofs.Ytcdeidedcbnhaaa
open Go.ChangeShapes Go.WideShapes Go.ChangeAt Go.RowKit

theorem reach_len {P : Program} {H : Type} {enc : TypeId × Value → H} {W : World} {t e : TypeId} {fuel : Nat} {d : DataW H} {pl : List MemPlace} {v : Value} {ts : List TypeId} {ds : List (DataW H)} {j : Nat} (ht : P.underlying t = some (.slice e)) (hb : P.bytesOf e = 1)
    (hsz : (DataW.weightsEach P ts ds).all (· ≤ reachBytes) = true) (htj : ts[j]? = some t) (hdj : ds[j]? = some d) (h : DataW.trod enc P W 0 (fun _ => true) true fuel t [v] = some (d, pl)) {A : Option Addr} {n c : Nat} (hv : v = .slice A n c) : n ≤ 281474976710656 := by
  subst hv
  rcases Go.Deep.open_slice ht h with ⟨h1, _⟩ | ⟨a, len, cap, m, k, D, Pl, h1, _, hl, hm, hmm, hx, hi⟩
  · simp at h1
    omega
  · simp at h1
    obtain ⟨rfl, rfl, rfl⟩ := h1
    simp only [Prod.mk.injEq] at hx
    obtain ⟨rfl, _⟩ := hx
    have := sized_slice hsz htj hdj ht
    rw [hb] at this
    simp [reachBytes] at this
    omega

set_option maxRecDepth 100000 in
theorem labelSets_lifted (os : Os) (started : os.Started) (H : Type) (enc : TypeId × Value → H) :
    ReturnsInHanded {} Try.checked os 6 .any (Rows.labelSetsSpec.pre6 enc Try.prog Try.f6 Rows.labelSetsRow.domain false) (Rows.labelSetsSpec.post enc Try.prog Try.f6 false true false false) := by
  refine returnsInHanded_of_change_sized (C := Try.checked) lawOwn started (by kernel_rfl) Try.func6
    (ChangeSpec.witness6 (enc := enc) (C := Try.checked) false ⟨#[], #[.slice none 0 0, .slice none 0 0], []⟩ 8 (by kernel_rfl) (by kernel_rfl) (by kernel_rfl) (by kernel_rfl)) ?_
  intro W base args ds gs before hval0 hW hcnd hsz0 _
  have hval : ∀ (j : Nat) t v, Try.f6.params[j]? = some t → args[j]? = some v → Value.okWide Try.prog W .any base t v := hval0
  have hW' := hW
  obtain ⟨p, q, hA, _⟩ := hW'
  have hA' : DataW.TrodAll enc Try.prog W 0 (fun _ => true) true Try.f6.params.toList args.toList ds p := hA
  rw [Try.params6] at hA' hval
  obtain ⟨v0, vs0, d0, ds0, p0, q0, hargs, hds, _, h0, r0⟩ := trodAll_cons hA'
  obtain ⟨v1, vs1, d1, ds1, p1, q1, rfl, rfl, _, h1, r1⟩ := trodAll_cons r0
  obtain ⟨rfl, rfl, _⟩ := trodAll_nil r1
  obtain rfl : args = #[v0, v1] := by cases args; simp_all
  subst hds
  refine law_calls (by kernel_rfl) (by kernel_rfl) rfl hW (fun gs' h => by subst h; rfl) ?_
  obtain ⟨fuel_a, hf_a⟩ := h0
  obtain ⟨a0_a, l0_a, c0_a, rfl⟩ := okWide_slice Try.underlying32 (hval 0 32 _ rfl rfl)
  obtain ⟨a, h_a⟩ := opensBools H enc W _ _ _ hf_a
  obtain ⟨fuel_b, hf_b⟩ := h1
  obtain ⟨a0_b, l0_b, c0_b, rfl⟩ := okWide_slice Try.underlying32 (hval 1 32 _ rfl rfl)
  obtain ⟨b, h_b⟩ := opensBools H enc W _ _ _ hf_b
  have hsz : (DataW.weightsEach Try.prog (Try.f6.params.toList ++ Rows.labelSetsSpec.plain.varTypes Try.prog) ([d0, d1] ++ gs)).all (· ≤ reachBytes) = true := hsz0
  rw [Try.params6] at hsz
  have hla := reach_len (j := 0) Try.underlying32 (by kernel_rfl) hsz rfl rfl hf_a (slice_form h_a).choose_spec.choose_spec.1
  have hlb := reach_len (j := 1) Try.underlying32 (by kernel_rfl) hsz rfl rfl hf_b (slice_form h_b).choose_spec.choose_spec.1
  exact labelSets_law a b _ _ W hla hlb h_a h_b

theorem labelSets_holds : Rows.LabelSetsSaid :=
  OpenClaim.holds_of_wide 6 Try.f6 rfl rfl rfl rfl rfl rfl rfl ⟨rfl, rfl, rfl, rfl, rfl⟩ rfl rfl rfl rfl rfl (by kernel_rfl) Try.func6 (by kernel_rfl)
    (of_decide_eq_true (by kernel_rfl)) (by unfold Func.isWrapper; first | (rw [if_pos (by decide +kernel)]; kernel_rfl) | (rw [if_neg (by decide +kernel)]; exact ⟨rfl, rfl⟩))
    (fun os started H enc _ => labelSets_lifted os started H enc)
#print axioms labelSets_holds

end Go.Proofs.Ytcdeidedcbnhaaa
