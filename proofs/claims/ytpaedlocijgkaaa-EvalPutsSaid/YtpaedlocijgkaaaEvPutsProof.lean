/-
  EvalPuts: for any two conditions and any state the law returns true. No condition.
-/
import Derived.Test.YtpaedlocijgkaaaEvPuts
import Derived.Test.YtpaedlocijgkaaaEvOpen
import Derived.Test.YtpaedlocijgkaaaLaw
set_option linter.unusedVariables false
set_option linter.unusedSimpArgs false
namespace Go.Proofs.Ytpaedlocijgkaaa
open Go.ChangeShapes Go.WideShapes Go.ChangeAt Go.RowKit

theorem slice_len {α : Type} {r : Rep α} {w : World} {S : Nat → Prop} {v : Value} {l : List α} (h : (sliceR r).one w S v l) : l.length ≤ 9223372036854775807 := by
  obtain ⟨A, c, h1, h2, h3⟩ := slice_form h; omega
set_option maxRecDepth 100000 in
set_option maxHeartbeats 1000000 in
theorem puts_great (l m : List Inst) (s : St) (lv mv vv : Value) (dv cv : Value) (S S' T : Nat → Prop) (w : World) (h : (sliceR instR).one w S lv l) (h2 : (sliceR instR).one w S' mv m) (hv : (sliceR (intR .i64)).one w T vv s.vals)
    (hsum : l.length + m.length ≤ 9223372036854775807) (hg : 60 < l.length + m.length ∨ 100 < s.vals.length) :
    Calls Try.prog 4 #[lv, mv, stAgg vv s.opn s.don dv cv] w fun e w' => e = .returned (.bool true) ∧ Below w.heap.size w w' := by
  obtain ⟨A1, c1, rfl, hc1, hc1'⟩ := slice_form h
  obtain ⟨A2, c2, rfl, hc2, hc2'⟩ := slice_form h2
  obtain ⟨A3, c3, rfl, hc3, hc3'⟩ := slice_form hv
  clear h h2 hv
  have hs : IntKind.i64.wrap ((l.length : Int) + (m.length : Int)) = (l.length : Int) + (m.length : Int) := IntWalk.i64_in _ (by omega)
  by_cases h60 : 60 < l.length + m.length
  · go_enter Try.func4, Try.ntmps4
    go_wp2_with (go_at_call 9; refine (awake16 _).mono ?_; rintro e w9 ⟨rfl, hb9⟩)
    go_ret
    exact ⟨rfl, ((Below.refl _ _).alloc (Nat.le_refl _) _).trans (hb9.mono (by simp))⟩
  · have h100 : 100 < s.vals.length := by omega
    go_enter Try.func4, Try.ntmps4
    go_wp2_with (go_at_call 9; refine (awake16 _).mono ?_; rintro e w9 ⟨rfl, hb9⟩)
    go_ret
    exact ⟨rfl, ((Below.refl _ _).alloc (Nat.le_refl _) _).trans (hb9.mono (by simp))⟩
/-- a slice that came in is no longer than memory -/
theorem sized_len {H : Type} {enc : TypeId × Value → H} {P : Program} {w : World} {ts : List TypeId} {ds : List (DataW H)} (hr : (DataW.weightsEach P ts ds).all (· ≤ reachBytes) = true) {j fuel : Nat} {t e : TypeId} {d : DataW H} {pl : List MemPlace} {A : Option Addr} {n c : Nat}
    (ht : ts[j]? = some t) (hd : ds[j]? = some d) (hu : P.underlying t = some (.slice e)) (hb0 : Nat.ble 1 (P.bytesOf e) = true) (hf : DataW.trod enc P w 0 (fun _ => true) true fuel t [.slice A n c] = some (d, pl)) : n ≤ 140737488355328 := by
  have hb := Nat.le_of_ble_eq_true hb0
  rcases DataW.trod_slice hu hf with ⟨h1, _⟩ | ⟨a, len, cap, elems, rest, m, _, h1, h2, _, _, _, hlen, _⟩
  · simp at h1; omega
  · simp at h1
    simp at h2
    have := sized_slice hr ht (hd.trans (congrArg some h2.1)) hu
    have hm : elems.length ≤ (elems.length + rest.length) * P.bytesOf e := Nat.le_trans (Nat.le_add_right _ _) (Nat.le_mul_of_pos_right _ hb)
    have hrb : reachBytes ≤ 140737488355328 := by decide
    simp only [List.length_map] at this
    omega
theorem evalPuts_law (l m : List Inst) (s : St) (lv mv vv : Value) (dv cv : Value) (S S' T : Nat → Prop) (w : World) (h : (sliceR instR).one w S lv l) (hS : ∀ b, S b → b < w.heap.size) (h2 : (sliceR instR).one w S' mv m) (hS' : ∀ b, S' b → b < w.heap.size) (hv : (sliceR (intR .i64)).one w T vv s.vals) (hT : ∀ b, T b → b < w.heap.size)
    (hsum : l.length + m.length ≤ 9223372036854775807) :
    Calls Try.prog 4 #[lv, mv, stAgg vv s.opn s.don dv cv] w fun e w' => e = .returned (.bool true) ∧ Below w.heap.size w w' := by
  by_cases hg : 60 < l.length + m.length ∨ 100 < s.vals.length
  · exact puts_great l m s lv mv vv dv cv S S' T w h h2 hv hsum hg
  · have hl : l.length + m.length ≤ 60 := by omega
    have hl2 : s.vals.length ≤ 100 := by omega
    cases hr1 : holdsO l s with
    | some a =>
      cases hr2 : holdsO m s with
      | some b => exact puts_3 l m s lv mv vv dv cv S S' T w h hS h2 hS' hv hT hl hl2 a b hr1 hr2
      | none => exact puts_2 l m s lv mv vv dv cv S S' T w h hS h2 hS' hv hT hl hl2 a hr1 hr2
    | none =>
      cases hr2 : holdsO m s with
      | some b => exact puts_1 l m s lv mv vv dv cv S S' T w h hS h2 hS' hv hT hl hl2 hr1 b 0 (fun w' hw => holds_some m s mv vv dv cv S' T w' (slice_below h2 hw hS') (fun b hb => Nat.lt_of_lt_of_le (hS' b hb) hw.size) (by omega) (slice_below hv hw hT) (fun b hb => Nat.lt_of_lt_of_le (hT b hb) hw.size) hr2)
      | none => exact puts_1 l m s lv mv vv dv cv S S' T w h hS h2 hS' hv hT hl hl2 hr1 false 17 (fun w' hw => holds_none m s mv vv dv cv S' T w' (slice_below h2 hw hS') (fun b hb => Nat.lt_of_lt_of_le (hS' b hb) hw.size) (by omega) (slice_below hv hw hT) (fun b hb => Nat.lt_of_lt_of_le (hT b hb) hw.size) hr2)

set_option maxRecDepth 100000 in
theorem evalPuts_lifted (os : Os) (started : os.Started) (H : Type) (enc : TypeId × Value → H) :
    ReturnsInHanded {} Try.checked os 4 .any (Rows.evalPutsSpec.pre6 enc Try.prog Try.f4 Rows.evalPutsRow.domain false) (Rows.evalPutsSpec.post enc Try.prog Try.f4 false true false false) := by
  refine returnsInHanded_of_change_sized (C := Try.checked) lawOwn started (by kernel_rfl) Try.func4
    (ChangeSpec.witness6 (enc := enc) (C := Try.checked) false ⟨#[], #[.slice none 0 0, .slice none 0 0, .agg #[.slice none 0 0, .int .i64 0, .int .i64 0, .slice none 0 0, .slice none 0 0]], []⟩ 8 (by kernel_rfl) (by kernel_rfl) (by kernel_rfl) (by kernel_rfl)) ?_
  intro W base args ds gs before hval0 hW hcnd hreach _
  have hval : ∀ (j : Nat) t v, Try.f4.params[j]? = some t → args[j]? = some v → Value.okWide Try.prog W .any base t v := hval0
  have hW' := hW
  obtain ⟨p, q, hA, _⟩ := hW'
  have hA' : DataW.TrodAll enc Try.prog W 0 (fun _ => true) true Try.f4.params.toList args.toList ds p := hA
  rw [Try.params4] at hA' hval
  obtain ⟨v0, vs0, d0, ds0, p0, q0, hargs, hds, _, h0, r0⟩ := trodAll_cons hA'
  obtain ⟨v1, vs1, d1, ds1, p1, q1, rfl, rfl, _, h1, r1⟩ := trodAll_cons r0
  obtain ⟨v2, vs2, d2, ds2, p2, q2, rfl, rfl, _, h2, r2⟩ := trodAll_cons r1
  obtain ⟨rfl, rfl, _⟩ := trodAll_nil r2
  obtain rfl : args = #[v0, v1, v2] := by cases args; simp_all
  subst hds
  refine law_calls (by kernel_rfl) (by kernel_rfl) rfl hW (fun gs' h => by subst h; rfl) ?_
  obtain ⟨fuel_l, hf_l⟩ := h0
  obtain ⟨a0_l, l0_l, c0_l, rfl⟩ := okWide_slice Try.underlying24 (hval 0 24 _ rfl rfl)
  obtain ⟨l, h_l⟩ := opensInsts H enc W _ _ _ hf_l
  obtain ⟨fuel_m, hf_m⟩ := h1
  obtain ⟨a0_m, l0_m, c0_m, rfl⟩ := okWide_slice Try.underlying24 (hval 1 24 _ rfl rfl)
  obtain ⟨m, h_m⟩ := opensInsts H enc W _ _ _ hf_m
  obtain ⟨fuel_s, hf_s⟩ := h2
  obtain ⟨cs_s, rfl, _⟩ := okWide_struct Try.underlying28 (hval 2 28 _ rfl rfl)
  obtain ⟨s, vv, dv, cv, hst⟩ := open_st hf_s
  obtain ⟨hcs, hvv, hdv, hcv, ho1, ho2⟩ := hst
  subst hcs
  have hsum : l.length + m.length ≤ 9223372036854775807 := by
    have h1 := sized_len hreach (j := 0) rfl rfl Try.underlying24 (by kernel_rfl) hf_l
    have h2 := sized_len hreach (j := 1) rfl rfl Try.underlying24 (by kernel_rfl) hf_m
    obtain ⟨_, _, e1, _⟩ := slice_form h_l
    obtain ⟨_, _, e2, _⟩ := slice_form h_m
    simp at e1 e2
    omega
  exact evalPuts_law l m s _ _ vv dv cv _ _ _ W h_l (fun _ h => h) h_m (fun _ h => h) hvv (fun _ h => h) hsum

theorem evalPuts_holds : Rows.EvalPutsSaid :=
  OpenClaim.holds_of_wide 4 Try.f4 rfl rfl rfl rfl rfl rfl rfl ⟨rfl, rfl, rfl, rfl, rfl⟩ rfl rfl rfl rfl rfl (by kernel_rfl) Try.func4 (by kernel_rfl)
    (of_decide_eq_true (by kernel_rfl)) (by unfold Func.isWrapper; first | (rw [if_pos (by decide +kernel)]; kernel_rfl) | (rw [if_neg (by decide +kernel)]; exact ⟨rfl, rfl⟩))
    (fun os started H enc _ => evalPuts_lifted os started H enc)
#print axioms evalPuts_holds
end Go.Proofs.Ytpaedlocijgkaaa
