/-
  ABSTRACT VALUES: code piece by piece; contracts made by hand. Of whatever program.
-/
import Derived.Test.YtfocnmkbnccilaaAlJ0
set_option linter.unusedVariables false
set_option linter.unusedSimpArgs false
namespace Go.Proofs.Ytfocnmkbnccilaa
open Go.RowKit

/-- code, as it is: what it asks of a state -/
def SC (P : Program) (c : Code) (Q : Exit → ASt → Prop) (st : ASt) : Prop := ∀ (cx : Cx) (a : Act) (w : World) (L : Nat → Value), Conc cx a w st L → c.wp P (AfterC cx Q) a w
section
variable {P : Program} {x y : Code} {Q Q' : Exit → ASt → Prop} {st st' : ASt}
theorem sc_of (hm : P.follows .mixedOrders = true) (h : aCode P x Q st) : SC P x Q st := fun cx a w L hc => code_ok hm x Q a w st L hc h
theorem SC.mono (h : SC P x Q st) (hq : ∀ e st, Q e st → Q' e st) : SC P x Q' st := fun cx a w L hc => Code.wp_mono (fun e a w ⟨st', L', h1, h2⟩ => ⟨st', L', hq e st' h1, h2⟩) (h cx a w L hc)
theorem SC.weak (hw : Weak st st') (h : SC P x Q st') : SC P x Q st := fun cx a w L hc => (hw cx a w L hc).elim fun L' hc' => h cx a w L' hc'
theorem sc_seq (h : SC P x (aThen (SC P y Q) Q) st) : SC P (.seq x y) Q st := fun cx a w L hc =>
  wp_seq (Code.wp_mono (fun e a' w' ⟨st', L', h1, h2⟩ => by
    cases e with
    | normal => exact h1 cx a' w' L' h2
    | _ => exact ⟨st', L', h1, h2⟩) (h cx a w L hc))
theorem aTo_mk {I : ASt → Prop} (hw : Weak st st') (h : I st') : aTo I st := ⟨st', hw, h⟩
theorem sc_cut (I : ASt → Prop) (h : SC P x (aThen (aTo I) Q) st) (h2 : ∀ st, I st → SC P y Q st) : SC P (.seq x y) Q st :=
  sc_seq (h.mono fun e st h => by
    cases e with
    | normal =>
      obtain ⟨st', hw, hI⟩ := h
      exact (h2 st' hI).weak hw
    | _ => exact h)
theorem sc_block {id : Nat} (h : SC P x (aInBlock id Q) st) : SC P (.block id x) Q st := fun cx a w L hc =>
  wp_block (Code.wp_mono (fun e a' w' ⟨st', L', h1, h2⟩ => by
    cases e with
    | exit id' =>
      simp only [aInBlock, Exit.inBlock] at h1 ⊢
      split
      · rename_i e
        rw [if_pos e] at h1
        exact ⟨st', L', h1, h2⟩
      · rename_i e
        rw [if_neg e] at h1
        exact ⟨st', L', h1, h2⟩
    | _ => exact ⟨st', L', h1, h2⟩) (h cx a w L hc))
theorem sc_loop (I : ASt → Prop) (μ : ASt → Nat) (h0 : ∃ st', Weak st st' ∧ I st') (h : ∀ st, I st → SC P x (aThen (aRound I μ (μ st)) Q) st) : SC P (.loop x) Q st := fun cx a w L hc => by
  obtain ⟨st0, hw0, hI⟩ := h0
  let p : Act → World → Nat → Prop := fun a w n => ∃ st L, I st ∧ Conc cx a w st L ∧ μ st = n
  obtain ⟨L0, hL0⟩ := hw0 _ _ _ _ hc
  refine wp_loop (fun a w => ∃ n, p a w n) (fun a w => least (p a w)) ⟨_, st0, L0, hI, hL0, rfl⟩ fun a w hpa => ?_
  obtain ⟨⟨st, L, h1, h2, h3⟩, _⟩ := least_spec hpa
  refine Code.wp_mono (fun e a' w' ⟨st', L', h4, h5⟩ => ?_) (h st h1 cx a w L h2)
  cases e with
  | normal =>
    obtain ⟨st'', hw, hI'', hlt⟩ := h4
    obtain ⟨L1, hL1⟩ := hw _ _ _ _ h5
    have hpn : p a' w' (μ st'') := ⟨st'', L1, hI'', hL1, rfl⟩
    refine ⟨⟨_, hpn⟩, ?_⟩
    have := (least_spec ⟨_, hpn⟩).2 _ hpn
    show least (p a' w') < least (p a w)
    omega
  | _ => exact ⟨st', L', h4, h5⟩
end
/-- a function's contract out of its code, piece by piece -/
theorem adet_of_sc {P : Program} {f : FuncId} {fn : Func} {c : Code} (hf : P.funcs[f]? = some fn) (hb : fn.body = some c) (hname : (fn.name == "runtime.NumGoroutine") = false) {args : List AV} {R : Res} {n : Nat} (hnt : fn.ntmps = n) {rs : List ResultVar} (hrs : fn.results = rs.toArray) (hn : Nat.ble args.length n = true)
    (hok : R.Ok) (h : SC P c (aRet P rs R) ⟨n, envOf 0 args, [], 0⟩) : ADet P f args R := adet_of_wp hf hb hname hnt hrs hn hok h
theorem arel_of_sc {P : Program} {f : FuncId} {fn : Func} {c : Code} (hf : P.funcs[f]? = some fn) (hb : fn.body = some c) (hname : (fn.name == "runtime.NumGoroutine") = false) {args : List AV} {Post : Res → Prop} {n : Nat} (hnt : fn.ntmps = n) {rs : List ResultVar} (hrs : fn.results = rs.toArray) (hn : Nat.ble args.length n = true)
    (h : SC P c (aRetR P rs Post) ⟨n, envOf 0 args, [], 0⟩) : ARel P f args Post := arel_of_wp hf hb hname hnt hrs hn h
/-- a contract of old -/
theorem adet_of_calls {P : Program} {f : FuncId} {args : List AV} {v : Value} (he : Enters P f)
    (h : ∀ (S : Nat → Prop) (w : World) (vs : Array Value), (∀ b, S b → b < w.heap.size) → vs.size = args.length → (∀ (j : Nat) (v : Value) (av : AV), vs[j]? = some v → args[j]? = some av → RT w S v av) → Calls P f vs w fun e w' => e = .returned v ∧ Below w.heap.size w w') : ADet P f args (val v) :=
  ⟨he, fun S w vs h1 h2 h3 => (h S w vs h1 h2 h3).mono fun e w' ⟨h4, h5⟩ => ⟨v, fun _ => undef, val v, rfl, val_ok v, h4, ⟨h5, fun id o h => (by cases h), fun id id' o o' g h => (by cases h)⟩, .tree (.c v)⟩⟩
/-- a contract, said of values -/
theorem ADet.calls {P : Program} {f : FuncId} {args : List AV} {v : Value} (h : ADet P f args (val v)) {w : World} {vs : Array Value} (h2 : vs.size = args.length) (h3 : ∀ (j : Nat) (v : Value) (av : AV), vs[j]? = some v → args[j]? = some av → RT w (fun b => b < w.heap.size) v av) :
    Calls P f vs w fun e w' => e = .returned v ∧ Below w.heap.size w w' :=
  (h.2 _ w vs (fun b hb => hb) h2 h3).mono fun e w' ⟨v', L, R, h0, _, h4, h5, h6⟩ => by
    subst h0
    obtain rfl := h6.c_inv
    exact ⟨h4, h5.below⟩
/-- the answer: one new slice -/
def own (e : TypeId) (sz : Nat) (rows : List (List AV)) : Res := ⟨.osl 0, [(0, some (.row e sz rows))], 1⟩
theorem own_ok (e : TypeId) (sz : Nat) (rows : List (List AV)) : (own e sz rows).Ok := by
  refine ⟨fun id o h => ?_, Nat.zero_lt_one⟩
  simp only [own, ATab.get_cons] at h
  split at h
  · rename_i e
    cases h
    subst e
    exact ⟨Nat.zero_lt_one, trivial⟩
  · cases h
theorem aGives_own {e : TypeId} {sz : Nat} {rows : List (List AV)} {st : ASt} {id : Nat} : st.tab.get id = some (.row e sz rows) → aGives (own e sz rows) st (.osl id) := fun h =>
  ⟨[id], by simp, rfl, ⟨Nat.zero_lt_one, ⟨e, sz, rows, rfl⟩, h⟩, trivial⟩
theorem retV {Post : Res → Prop} {st : ASt} {v : Value} (h : Post (val v)) : ∃ R, Post R ∧ R.Ok ∧ aGives R st (.c v) := ⟨_, h, val_ok v, gives_val rfl⟩
theorem retO {Post : Res → Prop} {st : ASt} {id : Nat} {e : TypeId} {sz : Nat} {rows : List (List AV)} (hg : st.tab.get id = some (.row e sz rows)) (h : Post (own e sz rows)) : ∃ R, Post R ∧ R.Ok ∧ aGives R st (.osl id) := ⟨_, h, own_ok .., aGives_own hg⟩
/-- a call, by what is known of its answers -/
theorem callP {u : Bool} {P : Program} {st : ASt} {g : FuncId} {args : List AV} {K : AV → ASt → Prop} {Post : Res → Prop} (h : ARel P g (args.map (dref st.tab)) Post) (hk : ∀ R, Post R → (roL args ∨ (R.r.plain ∧ R.tab.plain)) ∧ K (R.r.shift st.next) { st with tab := R.tab.shift st.next ++ st.tab, next := st.next + R.n }) : aCall u P st g args K := .inl ⟨Post, h, hk⟩
/-- a call that gives back this -/
theorem callR {u : Bool} {P : Program} {st : ASt} {g : FuncId} {args : List AV} {K : AV → ASt → Prop} {R : Res} (h : ADet P g (args.map (dref st.tab)) R) (ho : roL args ∨ (R.r.plain ∧ R.tab.plain)) (hk : K (R.r.shift st.next) { st with tab := R.tab.shift st.next ++ st.tab, next := st.next + R.n }) : aCall u P st g args K :=
  .inl ⟨_, h, fun R' e => by subst e; exact ⟨ho, hk⟩⟩
/-- a call that gives back one value -/
theorem callV {u : Bool} {P : Program} {st : ASt} {g : FuncId} {args : List AV} {dst : Option Nat} {K : ASt → Prop} {v : Value} (h : ADet P g (args.map (dref st.tab)) (val v)) (hk : K (st.put dst (.c v))) : aCall u P st g args (aK2 dst K) :=
  callR h (.inr ⟨trivial, trivial⟩) hk
/-- the rules of a walk, in one -/
theorem ruA : type_of% (And.intro (And.intro (And.intro (And.intro (And.intro (And.intro (And.intro @aCode_skip @aCode_regF) (And.intro @aCode_regT @aCode_seq)) (And.intro (And.intro @aCode_cond @aCode_block) (And.intro @aCode_loop @aCode_exit))) (And.intro (And.intro (And.intro @aCode_ret @aThen_normal) (And.intro @aThen_exit @aThen_ret)) (And.intro (And.intro @aInBlock_normal @aInBlock_ret) (And.intro @aInBlock_exit @aCond_bool)))) (And.intro (And.intro (And.intro (And.intro @aSkip_eq @aKs_eq) (And.intro @aK_eq @aK2_eq)) (And.intro (And.intro @aFn_eq @aFn_clo) (And.intro @aCallF_eq @aCallE_eq))) (And.intro (And.intro (And.intro @aCallD_eq @aOps_nil) (And.intro @aOps_plain @aOps_guard)) (And.intro (And.intro @aDops_nil @aDops_plain) (And.intro @aDops_guard (And.intro @aGuardD_eq @aGuardV_bool)))))) (And.intro (And.intro (And.intro (And.intro (And.intro @aGuardV_undef @aGd_tt) (And.intro @aGd_ff @aGd_tf)) (And.intro (And.intro @aGd_ft @aIf_true) (And.intro @aIf_false @aSel_true))) (And.intro (And.intro (And.intro @aSel_false @aPickK_bool) (And.intro @aOp_move @aOp_assign)) (And.intro (And.intro @aOp_pick @aOp_load) (And.intro @aOp_field (And.intro @aOp_index @aOp_bin))))) (And.intro (And.intro (And.intro (And.intro @aOp_un @aOp_extract) (And.intro @aOp_conv @aOp_len)) (And.intro (And.intro @aOp_append @aOp_call) (And.intro @aOp_makeFunc @aOp_box))) (And.intro (And.intro (And.intro @aOp_alloc @aOp_store) (And.intro @aOp_buildSlice @aOp_makeSlice)) (And.intro (And.intro @aOp_build @aDop_move) (And.intro @aDop_assign (And.intro @aDop_pick @aDop_load))))))) (And.intro (And.intro (And.intro (And.intro (And.intro (And.intro @aDop_field @aDop_index) (And.intro @aDop_bin @aDop_un)) (And.intro (And.intro @aDop_extract @aDop_conv) (And.intro @aDop_len @aDop_call))) (And.intro (And.intro (And.intro @aDop_makeFunc @aDop_build) (And.intro @aGives_val @aRet_n)) (And.intro (And.intro @aRet_r @aRetR_n) (And.intro @aRetR_r @aPops_nil)))) (And.intro (And.intro (And.intro (And.intro @aPops_plain @aPops_guard) (And.intro @aPop_eq @aHeldH_nil)) (And.intro (And.intro @aHeldH_cons @aHeld_nil) (And.intro @aHeld_take @aHeld_exec))) (And.intro (And.intro (And.intro @aHeld_two @aHeldL_plain) (And.intro @aHeldL_guard @aHeldT_plain)) (And.intro (And.intro @aHeldT_guard @aTakeY_eq) (And.intro @aTakeN_eq (And.intro @aTakeP_build @aTakeP_move)))))) (And.intro (And.intro (And.intro (And.intro (And.intro @aTakeP_assign @aTakeP_pick) (And.intro @aTakeP_load @aTakeP_field)) (And.intro (And.intro @aTakeP_index @aTakeP_fieldV) (And.intro @aTakeP_bin @aTakeP_un))) (And.intro (And.intro (And.intro @aTakeP_extract @aTakeP_conv) (And.intro @aTakeP_call @aTakeP_clo)) (And.intro (And.intro @aHeldE_eq @aHeldE_guard) (And.intro @aExecK_eq (And.intro @aExec_assign @aExec_store))))) (And.intro (And.intro (And.intro (And.intro @aExec_append @aExec_call) (And.intro @aExec_buildSlice @aPure_move)) (And.intro (And.intro @aPure_assign @aPure_pick) (And.intro @aPure_load @aPure_field))) (And.intro (And.intro (And.intro @aPure_index @aPure_bin) (And.intro @aPure_un @aPure_extract)) (And.intro (And.intro @aPure_len @aPure_makeFunc) (And.intro @aOp_fieldV (And.intro @aDop_fieldV @aPure_fieldV)))))))) :=
  (And.intro (And.intro (And.intro (And.intro (And.intro (And.intro (And.intro @aCode_skip @aCode_regF) (And.intro @aCode_regT @aCode_seq)) (And.intro (And.intro @aCode_cond @aCode_block) (And.intro @aCode_loop @aCode_exit))) (And.intro (And.intro (And.intro @aCode_ret @aThen_normal) (And.intro @aThen_exit @aThen_ret)) (And.intro (And.intro @aInBlock_normal @aInBlock_ret) (And.intro @aInBlock_exit @aCond_bool)))) (And.intro (And.intro (And.intro (And.intro @aSkip_eq @aKs_eq) (And.intro @aK_eq @aK2_eq)) (And.intro (And.intro @aFn_eq @aFn_clo) (And.intro @aCallF_eq @aCallE_eq))) (And.intro (And.intro (And.intro @aCallD_eq @aOps_nil) (And.intro @aOps_plain @aOps_guard)) (And.intro (And.intro @aDops_nil @aDops_plain) (And.intro @aDops_guard (And.intro @aGuardD_eq @aGuardV_bool)))))) (And.intro (And.intro (And.intro (And.intro (And.intro @aGuardV_undef @aGd_tt) (And.intro @aGd_ff @aGd_tf)) (And.intro (And.intro @aGd_ft @aIf_true) (And.intro @aIf_false @aSel_true))) (And.intro (And.intro (And.intro @aSel_false @aPickK_bool) (And.intro @aOp_move @aOp_assign)) (And.intro (And.intro @aOp_pick @aOp_load) (And.intro @aOp_field (And.intro @aOp_index @aOp_bin))))) (And.intro (And.intro (And.intro (And.intro @aOp_un @aOp_extract) (And.intro @aOp_conv @aOp_len)) (And.intro (And.intro @aOp_append @aOp_call) (And.intro @aOp_makeFunc @aOp_box))) (And.intro (And.intro (And.intro @aOp_alloc @aOp_store) (And.intro @aOp_buildSlice @aOp_makeSlice)) (And.intro (And.intro @aOp_build @aDop_move) (And.intro @aDop_assign (And.intro @aDop_pick @aDop_load))))))) (And.intro (And.intro (And.intro (And.intro (And.intro (And.intro @aDop_field @aDop_index) (And.intro @aDop_bin @aDop_un)) (And.intro (And.intro @aDop_extract @aDop_conv) (And.intro @aDop_len @aDop_call))) (And.intro (And.intro (And.intro @aDop_makeFunc @aDop_build) (And.intro @aGives_val @aRet_n)) (And.intro (And.intro @aRet_r @aRetR_n) (And.intro @aRetR_r @aPops_nil)))) (And.intro (And.intro (And.intro (And.intro @aPops_plain @aPops_guard) (And.intro @aPop_eq @aHeldH_nil)) (And.intro (And.intro @aHeldH_cons @aHeld_nil) (And.intro @aHeld_take @aHeld_exec))) (And.intro (And.intro (And.intro @aHeld_two @aHeldL_plain) (And.intro @aHeldL_guard @aHeldT_plain)) (And.intro (And.intro @aHeldT_guard @aTakeY_eq) (And.intro @aTakeN_eq (And.intro @aTakeP_build @aTakeP_move)))))) (And.intro (And.intro (And.intro (And.intro (And.intro @aTakeP_assign @aTakeP_pick) (And.intro @aTakeP_load @aTakeP_field)) (And.intro (And.intro @aTakeP_index @aTakeP_fieldV) (And.intro @aTakeP_bin @aTakeP_un))) (And.intro (And.intro (And.intro @aTakeP_extract @aTakeP_conv) (And.intro @aTakeP_call @aTakeP_clo)) (And.intro (And.intro @aHeldE_eq @aHeldE_guard) (And.intro @aExecK_eq (And.intro @aExec_assign @aExec_store))))) (And.intro (And.intro (And.intro (And.intro @aExec_append @aExec_call) (And.intro @aExec_buildSlice @aPure_move)) (And.intro (And.intro @aPure_assign @aPure_pick) (And.intro @aPure_load @aPure_field))) (And.intro (And.intro (And.intro @aPure_index @aPure_bin) (And.intro @aPure_un @aPure_extract)) (And.intro (And.intro @aPure_len @aPure_makeFunc) (And.intro @aOp_fieldV (And.intro @aDop_fieldV @aPure_fieldV))))))))
end Go.Proofs.Ytfocnmkbnccilaa
