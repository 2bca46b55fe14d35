/-
  AtomsAt: for every model, constants, nodes and instruction the law returns true: an instruction holds in a node just if the document says so, and in which of some. No condition.
-/
import Derived.Test.YtfeclebkaambhaaGreatAta11
set_option linter.unusedVariables false
set_option linter.unusedSimpArgs false
namespace Go.Proofs.YtfeclebkaambhaaGreat
open Go.ChangeShapes Go.WideShapes Go.ChangeAt Go.RowKit

set_option maxRecDepth 100000 in
theorem atomsAt_lifted (os : Os) (started : os.Started) (H : Type) (enc : TypeId × Value → H) :
    ReturnsInHanded {} Tryz.checked os 3 .any (Rows.atomsAtSpec.pre6 enc Tryz.prog Tryz.f3 Rows.atomsAtRow.domain false) (Rows.atomsAtSpec.post enc Tryz.prog Tryz.f3 false true false false) := by
  refine returnsInHanded_of_change (C := Tryz.checked) lawOwn started (by kernel_rfl) Tryz.func3
    (ChangeSpec.witness6 (enc := enc) (C := Tryz.checked) false ⟨#[], #[.agg #[.slice none 0 0, .slice none 0 0, .slice none 0 0, .slice none 0 0, .slice none 0 0, .slice none 0 0, .slice none 0 0, .slice none 0 0, .slice none 0 0, .slice none 0 0], .slice none 0 0, .agg #[.slice none 0 0, .int .i64 0, .int .i64 0, .int .i64 0, .int .i64 0, .int .i64 0, .int .i64 0, .int .i64 0]], []⟩ 8 (by kernel_rfl) (by kernel_rfl) (by kernel_rfl) (by kernel_rfl)) ?_
  intro W base args ds gs before hval0 hW hcnd _
  have hval : ∀ (j : Nat) t v, Tryz.f3.params[j]? = some t → args[j]? = some v → Value.okWide Tryz.prog W .any base t v := hval0
  have hW' := hW
  obtain ⟨p, q, hA, _⟩ := hW'
  have hA' : DataW.TrodAll enc Tryz.prog W 0 (fun _ => true) true Tryz.f3.params.toList args.toList ds p := hA
  rw [Tryz.params3] at hA' hval
  obtain ⟨v0, vs0, d0, ds0, p0, q0, hargs, hds, _, h0, r0⟩ := trodAll_cons hA'
  obtain ⟨v1, vs1, d1, ds1, p1, q1, rfl, rfl, _, h1, r1⟩ := trodAll_cons r0
  obtain ⟨v2, vs2, d2, ds2, p2, q2, rfl, rfl, _, h2, r2⟩ := trodAll_cons r1
  obtain ⟨rfl, rfl, _⟩ := trodAll_nil r2
  obtain rfl : args = #[v0, v1, v2] := by cases args; simp_all
  subst hds
  refine law_calls (by kernel_rfl) (by kernel_rfl) rfl hW (fun gs' h => by subst h; rfl) ?_
  obtain ⟨fuel_m, hf_m⟩ := h0
  obtain ⟨cs_m, rfl, _⟩ := okWide_struct Tryz.underlying32 (hval 0 32 _ rfl rfl)
  obtain ⟨V, m, rfl, hm⟩ := open_mod hf_m
  obtain ⟨fuel_c, hf_c⟩ := h1
  obtain ⟨a_c, n_c, c_c, rfl⟩ := okWide_slice Tryz.underlying23 (hval 1 23 _ rfl rfl)
  obtain ⟨c, hc⟩ := opensI64s H enc W _ _ _ hf_c
  obtain ⟨fuel_x, hf_x⟩ := h2
  obtain ⟨cs_x, rfl, _⟩ := okWide_struct Tryz.underlying39 (hval 2 39 _ rfl rfl)
  obtain ⟨⟨l, x, u⟩, hx⟩ := opensAsk33 H enc W _ _ _ hf_x
  obtain ⟨k0, k1, e0, hl, hx⟩ := pair_inv hx
  obtain ⟨k2, k3, e1, ⟨e2, hxo⟩, hx⟩ := pair_inv hx
  have hx : k3 = [] := hx
  obtain ⟨lv, rfl, hl⟩ := one_inv (r := sliceR ndR) rfl hl
  have ecs : cs_x = (lv :: Inst.cells x).toArray := Array.ext' (by
    show cs_x.toList = _
    have e0' : cs_x.toList = [lv] ++ k1 := e0
    rw [e0', e1, e2, hx]
    simp)
  subst ecs
  refine (atomsAt_A m c l x (slice_all hm.roles fun cs x h2 => h2.2.2) hxo (nds_ok hl)).calls rfl fun j v av h3 h4 => ?_
  match j with
  | 0 => simp at h3 h4; subst h3; subst h4; exact rt_mod hm
  | 1 => simp at h3 h4; subst h3; subst h4; exact into_int.slice hc
  | 2 =>
    simp at h3 h4
    subst h3
    subst h4
    refine .agg _ _ rfl fun j u av h1 h2 => ?_
    match j with
    | 0 =>
      simp at h1 h2
      subst h1
      subst h2
      exact into_nd.slice hl
    | j + 1 =>
      rw [show eInst x = (Inst.cells x).map .c from rfl, List.getElem?_cons_succ, List.getElem?_map] at h2
      have h1' : (Inst.cells x)[j]? = some u := by simpa using h1
      rw [h1'] at h2
      cases h2
      exact .c u
  | j + 3 => simp at h3

theorem atomsAt_holds : Rows.AtomsAtSaid :=
  OpenClaim.holds_of_wide 3 Tryz.f3 rfl rfl rfl rfl rfl rfl rfl ⟨rfl, rfl, rfl, rfl, rfl⟩ rfl rfl rfl rfl rfl (by kernel_rfl) Tryz.func3 (by kernel_rfl)
    (of_decide_eq_true (by kernel_rfl)) (by unfold Func.isWrapper; first | (rw [if_pos (by decide +kernel)]; kernel_rfl) | (rw [if_neg (by decide +kernel)]; exact ⟨rfl, rfl⟩))
    (fun os started H enc _ => atomsAt_lifted os started H enc)
#print axioms atomsAt_holds
end Go.Proofs.YtfeclebkaambhaaGreat
