/-
  ABSTRACT VALUES: code piece by piece; contracts made by hand. Of whatever program.
-/
import Derived.Test.YtfocnmkbnccilaaAlJ0
set_option linter.unusedVariables false
set_option linter.unusedSimpArgs false
namespace Go.Proofs.Ytfocnmkbnccilaa
open Go.RowKit

/-- code, as it is: what it asks of a state -/
def SC (P : Program) (c : Code) (Q : Exit → ASt → Prop) (st : ASt) : Prop := ∀ (cx : Cx) (a : Act) (w : World) (L : Nat → Value), Conc cx a w st L → c.wp P (AfterC cx Q) a w
section
variable {P : Program} {x y : Code} {Q Q' : Exit → ASt → Prop} {st st' : ASt}
theorem sc_of (hm : P.follows .mixedOrders = true) (h : aCode P x Q st) : SC P x Q st := fun cx a w L hc => code_ok hm x Q a w st L hc h
theorem SC.mono (h : SC P x Q st) (hq : ∀ e st, Q e st → Q' e st) : SC P x Q' st := fun cx a w L hc => Code.wp_mono (fun e a w ⟨st', L', h1, h2⟩ => ⟨st', L', hq e st' h1, h2⟩) (h cx a w L hc)
theorem SC.weak (hw : Weak st st') (h : SC P x Q st') : SC P x Q st := fun cx a w L hc => (hw cx a w L hc).elim fun L' hc' => h cx a w L' hc'
theorem sc_seq (h : SC P x (aThen (SC P y Q) Q) st) : SC P (.seq x y) Q st := fun cx a w L hc =>
  wp_seq (Code.wp_mono (fun e a' w' ⟨st', L', h1, h2⟩ => by
    cases e with
    | normal => exact h1 cx a' w' L' h2
    | _ => exact ⟨st', L', h1, h2⟩) (h cx a w L hc))
theorem aTo_mk {I : ASt → Prop} (hw : Weak st st') (h : I st') : aTo I st := ⟨st', hw, h⟩
theorem sc_cut (I : ASt → Prop) (h : SC P x (aThen (aTo I) Q) st) (h2 : ∀ st, I st → SC P y Q st) : SC P (.seq x y) Q st :=
  sc_seq (h.mono fun e st h => by
    cases e with
    | normal =>
      obtain ⟨st', hw, hI⟩ := h
      exact (h2 st' hI).weak hw
    | _ => exact h)
theorem sc_block {id : Nat} (h : SC P x (aInBlock id Q) st) : SC P (.block id x) Q st := fun cx a w L hc =>
  wp_block (Code.wp_mono (fun e a' w' ⟨st', L', h1, h2⟩ => by
    cases e with
    | exit id' =>
      simp only [aInBlock, Exit.inBlock] at h1 ⊢
      split
      · rename_i e
        rw [if_pos e] at h1
        exact ⟨st', L', h1, h2⟩
      · rename_i e
        rw [if_neg e] at h1
        exact ⟨st', L', h1, h2⟩
    | _ => exact ⟨st', L', h1, h2⟩) (h cx a w L hc))
theorem sc_loop (I : ASt → Prop) (μ : ASt → Nat) (h0 : ∃ st', Weak st st' ∧ I st') (h : ∀ st, I st → SC P x (aThen (aRound I μ (μ st)) Q) st) : SC P (.loop x) Q st := fun cx a w L hc => by
  obtain ⟨st0, hw0, hI⟩ := h0
  let p : Act → World → Nat → Prop := fun a w n => ∃ st L, I st ∧ Conc cx a w st L ∧ μ st = n
  obtain ⟨L0, hL0⟩ := hw0 _ _ _ _ hc
  refine wp_loop (fun a w => ∃ n, p a w n) (fun a w => least (p a w)) ⟨_, st0, L0, hI, hL0, rfl⟩ fun a w hpa => ?_
  obtain ⟨⟨st, L, h1, h2, h3⟩, _⟩ := least_spec hpa
  refine Code.wp_mono (fun e a' w' ⟨st', L', h4, h5⟩ => ?_) (h st h1 cx a w L h2)
  cases e with
  | normal =>
    obtain ⟨st'', hw, hI'', hlt⟩ := h4
    obtain ⟨L1, hL1⟩ := hw _ _ _ _ h5
    have hpn : p a' w' (μ st'') := ⟨st'', L1, hI'', hL1, rfl⟩
    refine ⟨⟨_, hpn⟩, ?_⟩
    have := (least_spec ⟨_, hpn⟩).2 _ hpn
    show least (p a' w') < least (p a w)
    omega
  | _ => exact ⟨st', L', h4, h5⟩
end
/-- a function's contract out of its code, piece by piece -/
theorem adet_of_sc {P : Program} {f : FuncId} {fn : Func} {c : Code} (hf : P.funcs[f]? = some fn) (hb : fn.body = some c) (hname : (fn.name == "runtime.NumGoroutine") = false) {args : List AV} {R : Res} {n : Nat} (hnt : fn.ntmps = n) {rs : List ResultVar} (hrs : fn.results = rs.toArray) (hn : Nat.ble args.length n = true)
    (hok : R.Ok) (h : SC P c (aRet P rs R) ⟨n, envOf 0 args, [], 0⟩) : ADet P f args R := adet_of_wp hf hb hname hnt hrs hn hok h
theorem arel_of_sc {P : Program} {f : FuncId} {fn : Func} {c : Code} (hf : P.funcs[f]? = some fn) (hb : fn.body = some c) (hname : (fn.name == "runtime.NumGoroutine") = false) {args : List AV} {Post : Res → Prop} {n : Nat} (hnt : fn.ntmps = n) {rs : List ResultVar} (hrs : fn.results = rs.toArray) (hn : Nat.ble args.length n = true)
    (h : SC P c (aRetR P rs Post) ⟨n, envOf 0 args, [], 0⟩) : ARel P f args Post := arel_of_wp hf hb hname hnt hrs hn h
/-- a contract of old -/
theorem adet_of_calls {P : Program} {f : FuncId} {args : List AV} {v : Value} (he : Enters P f)
    (h : ∀ (S : Nat → Prop) (w : World) (vs : Array Value), (∀ b, S b → b < w.heap.size) → vs.size = args.length → (∀ (j : Nat) (v : Value) (av : AV), vs[j]? = some v → args[j]? = some av → RT w S v av) → Calls P f vs w fun e w' => e = .returned v ∧ Below w.heap.size w w') : ADet P f args (val v) :=
  ⟨he, fun S w vs h1 h2 h3 => (h S w vs h1 h2 h3).mono fun e w' ⟨h4, h5⟩ => ⟨v, fun _ => undef, val v, rfl, val_ok v, h4, ⟨h5, fun id o h => (by cases h), fun id id' o o' g h => (by cases h)⟩, .tree (.c v)⟩⟩
/-- a contract, said of values -/
theorem ADet.calls {P : Program} {f : FuncId} {args : List AV} {v : Value} (h : ADet P f args (val v)) {w : World} {vs : Array Value} (h2 : vs.size = args.length) (h3 : ∀ (j : Nat) (v : Value) (av : AV), vs[j]? = some v → args[j]? = some av → RT w (fun b => b < w.heap.size) v av) :
    Calls P f vs w fun e w' => e = .returned v ∧ Below w.heap.size w w' :=
  (h.2 _ w vs (fun b hb => hb) h2 h3).mono fun e w' ⟨v', L, R, h0, _, h4, h5, h6⟩ => by
    subst h0
    obtain rfl := h6.c_inv
    exact ⟨h4, h5.below⟩
/-- the answer: one new slice -/
def own (e : TypeId) (sz : Nat) (rows : List (List AV)) : Res := ⟨.osl 0, [(0, some (.row e sz rows))], 1⟩
theorem own_ok (e : TypeId) (sz : Nat) (rows : List (List AV)) : (own e sz rows).Ok := by
  refine ⟨fun id o h => ?_, Nat.zero_lt_one⟩
  simp only [own, ATab.get_cons] at h
  split at h
  · rename_i e
    cases h
    subst e
    exact ⟨Nat.zero_lt_one, trivial⟩
  · cases h
theorem aGives_own {e : TypeId} {sz : Nat} {rows : List (List AV)} {st : ASt} {id : Nat} : st.tab.get id = some (.row e sz rows) → aGives (own e sz rows) st (.osl id) := fun h =>
  ⟨[id], by simp, rfl, ⟨Nat.zero_lt_one, ⟨e, sz, rows, rfl⟩, h⟩, trivial⟩
theorem retV {Post : Res → Prop} {st : ASt} {v : Value} (h : Post (val v)) : ∃ R, Post R ∧ R.Ok ∧ aGives R st (.c v) := ⟨_, h, val_ok v, gives_val rfl⟩
theorem retO {Post : Res → Prop} {st : ASt} {id : Nat} {e : TypeId} {sz : Nat} {rows : List (List AV)} (hg : st.tab.get id = some (.row e sz rows)) (h : Post (own e sz rows)) : ∃ R, Post R ∧ R.Ok ∧ aGives R st (.osl id) := ⟨_, h, own_ok .., aGives_own hg⟩
/-- a call, by what is known of its answers -/
theorem callP {u : Bool} {P : Program} {st : ASt} {g : FuncId} {args : List AV} {K : AV → ASt → Prop} {Post : Res → Prop} (h : ARel P g (args.map (dref st.tab)) Post) (hk : ∀ R, Post R → (roL args ∨ (R.r.plain ∧ R.tab.plain)) ∧ K (R.r.shift st.next) { st with tab := R.tab.shift st.next ++ st.tab, next := st.next + R.n }) : aCall u P st g args K := .inl ⟨Post, h, hk⟩
/-- a call that gives back this -/
theorem callR {u : Bool} {P : Program} {st : ASt} {g : FuncId} {args : List AV} {K : AV → ASt → Prop} {R : Res} (h : ADet P g (args.map (dref st.tab)) R) (ho : roL args ∨ (R.r.plain ∧ R.tab.plain)) (hk : K (R.r.shift st.next) { st with tab := R.tab.shift st.next ++ st.tab, next := st.next + R.n }) : aCall u P st g args K :=
  .inl ⟨_, h, fun R' e => by subst e; exact ⟨ho, hk⟩⟩
/-- a call that gives back one value -/
theorem callV {u : Bool} {P : Program} {st : ASt} {g : FuncId} {args : List AV} {dst : Option Nat} {K : ASt → Prop} {v : Value} (h : ADet P g (args.map (dref st.tab)) (val v)) (hk : K (st.put dst (.c v))) : aCall u P st g args (aK2 dst K) :=
  callR h (.inr ⟨trivial, trivial⟩) hk
/-- the rules of a walk, in one -/
theorem ruA : type_of% (And.intro (And.intro (And.intro (And.intro (And.intro (And.intro (And.intro @aCode_skip @aCode_regF) (And.intro @aCode_regT @aCode_seq)) (And.intro (And.intro @aCode_cond @aCode_block) (And.intro @aCode_loop (And.intro @aCode_exit @aCode_ret)))) (And.intro (And.intro (And.intro @aThen_normal @aThen_exit) (And.intro @aThen_ret @aInBlock_normal)) (And.intro (And.intro @aInBlock_ret @aInBlock_exit) (And.intro @aCond_bool (And.intro @aSkip_eq @aKs_eq))))) (And.intro (And.intro (And.intro (And.intro @aK_eq @aK2_eq) (And.intro @aFn_eq @aFn_clo)) (And.intro (And.intro @aCallF_eq @aCallE_eq) (And.intro @aCallD_eq (And.intro @aOps_nil @aOps_plain)))) (And.intro (And.intro (And.intro @aOps_guard @aDops_nil) (And.intro @aDops_plain @aDops_guard)) (And.intro (And.intro @aGuardD_eq @aGuardV_bool) (And.intro @aGuardV_undef (And.intro @aGd_tt @aGd_ff)))))) (And.intro (And.intro (And.intro (And.intro (And.intro @aGd_tf @aGd_ft) (And.intro @aIf_true @aIf_false)) (And.intro (And.intro @aSel_true @aSel_false) (And.intro @aPickK_bool (And.intro @aOp_move @aOp_assign)))) (And.intro (And.intro (And.intro @aOp_pick @aOp_load) (And.intro @aOp_field @aOp_index)) (And.intro (And.intro @aOp_bin @aOp_un) (And.intro @aOp_extract (And.intro @aOp_conv @aOp_len))))) (And.intro (And.intro (And.intro (And.intro @aOp_append @aOp_call) (And.intro @aOp_makeFunc @aOp_box)) (And.intro (And.intro @aOp_alloc @aOp_store) (And.intro @aOp_buildSlice (And.intro @aOp_makeSlice @aOp_build)))) (And.intro (And.intro (And.intro @aDop_move @aDop_assign) (And.intro @aDop_pick (And.intro @aDop_load @aDop_field))) (And.intro (And.intro @aDop_index @aDop_bin) (And.intro @aDop_un (And.intro @aDop_extract @aDop_conv))))))) (And.intro (And.intro (And.intro (And.intro (And.intro (And.intro @aDop_len @aDop_call) (And.intro @aDop_makeFunc @aDop_build)) (And.intro (And.intro @aGives_val @aRet_n) (And.intro @aRet_r (And.intro @aRetR_n @aRetR_r)))) (And.intro (And.intro (And.intro @aPops_nil @aPops_plain) (And.intro @aPops_guard @aPop_eq)) (And.intro (And.intro @aHeldH_nil @aHeldH_cons) (And.intro @aHeld_nil (And.intro @aHeld_take @aHeld_exec))))) (And.intro (And.intro (And.intro (And.intro @aHeld_two @aHeld_three) (And.intro @aHeldL_plain @aHeldL_guard)) (And.intro (And.intro @aHeldT_plain @aHeldT_guard) (And.intro @aTakeY_eq (And.intro @aTakeN_eq @aTakeP_build)))) (And.intro (And.intro (And.intro @aTakeP_move @aTakeP_assign) (And.intro @aTakeP_pick (And.intro @aTakeP_load @aTakeP_field))) (And.intro (And.intro @aTakeP_index @aTakeP_fieldV) (And.intro @aTakeP_bin (And.intro @aTakeP_un @aTakeP_extract)))))) (And.intro (And.intro (And.intro (And.intro (And.intro @aTakeP_conv @aTakeP_call) (And.intro @aTakeP_clo @aHeldE_eq)) (And.intro (And.intro @aHeldE_guard @aExecK_eq) (And.intro @aExec_assign (And.intro @aExec_load @aExec_store)))) (And.intro (And.intro (And.intro @aExec_append @aExec_call) (And.intro @aExec_buildSlice @aPure_move)) (And.intro (And.intro @aPure_assign @aPure_pick) (And.intro @aPure_load (And.intro @aPure_field @aPure_index))))) (And.intro (And.intro (And.intro (And.intro @aPure_bin @aPure_un) (And.intro @aPure_extract @aPure_len)) (And.intro (And.intro @aPure_makeFunc @aOp_fieldV) (And.intro @aDop_fieldV (And.intro @aPure_fieldV @aOp_slice)))) (And.intro (And.intro (And.intro @aDop_slice @aPure_slice) (And.intro @aTakeP_slice (And.intro @aExec_makeSlice @aPure_max))) (And.intro (And.intro @aPure_min @aOp_max) (And.intro @aOp_min (And.intro @aDop_max @aDop_min)))))))) :=
  (And.intro (And.intro (And.intro (And.intro (And.intro (And.intro (And.intro @aCode_skip @aCode_regF) (And.intro @aCode_regT @aCode_seq)) (And.intro (And.intro @aCode_cond @aCode_block) (And.intro @aCode_loop (And.intro @aCode_exit @aCode_ret)))) (And.intro (And.intro (And.intro @aThen_normal @aThen_exit) (And.intro @aThen_ret @aInBlock_normal)) (And.intro (And.intro @aInBlock_ret @aInBlock_exit) (And.intro @aCond_bool (And.intro @aSkip_eq @aKs_eq))))) (And.intro (And.intro (And.intro (And.intro @aK_eq @aK2_eq) (And.intro @aFn_eq @aFn_clo)) (And.intro (And.intro @aCallF_eq @aCallE_eq) (And.intro @aCallD_eq (And.intro @aOps_nil @aOps_plain)))) (And.intro (And.intro (And.intro @aOps_guard @aDops_nil) (And.intro @aDops_plain @aDops_guard)) (And.intro (And.intro @aGuardD_eq @aGuardV_bool) (And.intro @aGuardV_undef (And.intro @aGd_tt @aGd_ff)))))) (And.intro (And.intro (And.intro (And.intro (And.intro @aGd_tf @aGd_ft) (And.intro @aIf_true @aIf_false)) (And.intro (And.intro @aSel_true @aSel_false) (And.intro @aPickK_bool (And.intro @aOp_move @aOp_assign)))) (And.intro (And.intro (And.intro @aOp_pick @aOp_load) (And.intro @aOp_field @aOp_index)) (And.intro (And.intro @aOp_bin @aOp_un) (And.intro @aOp_extract (And.intro @aOp_conv @aOp_len))))) (And.intro (And.intro (And.intro (And.intro @aOp_append @aOp_call) (And.intro @aOp_makeFunc @aOp_box)) (And.intro (And.intro @aOp_alloc @aOp_store) (And.intro @aOp_buildSlice (And.intro @aOp_makeSlice @aOp_build)))) (And.intro (And.intro (And.intro @aDop_move @aDop_assign) (And.intro @aDop_pick (And.intro @aDop_load @aDop_field))) (And.intro (And.intro @aDop_index @aDop_bin) (And.intro @aDop_un (And.intro @aDop_extract @aDop_conv))))))) (And.intro (And.intro (And.intro (And.intro (And.intro (And.intro @aDop_len @aDop_call) (And.intro @aDop_makeFunc @aDop_build)) (And.intro (And.intro @aGives_val @aRet_n) (And.intro @aRet_r (And.intro @aRetR_n @aRetR_r)))) (And.intro (And.intro (And.intro @aPops_nil @aPops_plain) (And.intro @aPops_guard @aPop_eq)) (And.intro (And.intro @aHeldH_nil @aHeldH_cons) (And.intro @aHeld_nil (And.intro @aHeld_take @aHeld_exec))))) (And.intro (And.intro (And.intro (And.intro @aHeld_two @aHeld_three) (And.intro @aHeldL_plain @aHeldL_guard)) (And.intro (And.intro @aHeldT_plain @aHeldT_guard) (And.intro @aTakeY_eq (And.intro @aTakeN_eq @aTakeP_build)))) (And.intro (And.intro (And.intro @aTakeP_move @aTakeP_assign) (And.intro @aTakeP_pick (And.intro @aTakeP_load @aTakeP_field))) (And.intro (And.intro @aTakeP_index @aTakeP_fieldV) (And.intro @aTakeP_bin (And.intro @aTakeP_un @aTakeP_extract)))))) (And.intro (And.intro (And.intro (And.intro (And.intro @aTakeP_conv @aTakeP_call) (And.intro @aTakeP_clo @aHeldE_eq)) (And.intro (And.intro @aHeldE_guard @aExecK_eq) (And.intro @aExec_assign (And.intro @aExec_load @aExec_store)))) (And.intro (And.intro (And.intro @aExec_append @aExec_call) (And.intro @aExec_buildSlice @aPure_move)) (And.intro (And.intro @aPure_assign @aPure_pick) (And.intro @aPure_load (And.intro @aPure_field @aPure_index))))) (And.intro (And.intro (And.intro (And.intro @aPure_bin @aPure_un) (And.intro @aPure_extract @aPure_len)) (And.intro (And.intro @aPure_makeFunc @aOp_fieldV) (And.intro @aDop_fieldV (And.intro @aPure_fieldV @aOp_slice)))) (And.intro (And.intro (And.intro @aDop_slice @aPure_slice) (And.intro @aTakeP_slice (And.intro @aExec_makeSlice @aPure_max))) (And.intro (And.intro @aPure_min @aOp_max) (And.intro @aOp_min (And.intro @aDop_max @aDop_min))))))))
theorem ruB : type_of% (And.intro (And.intro (And.intro (And.intro (And.intro @ATab.get_cons (And.intro @Nat.zero_add @Nat.add_zero)) (And.intro (And.intro @List.getElem?_cons_zero.{0} @List.getElem?_cons_succ.{0}) (And.intro @List.getElem?_toArray.{0} @Option.bind_some.{0,0}))) (And.intro (And.intro (And.intro @List.map_cons.{0,0} @List.map_nil.{0,0}) (And.intro @List.length_cons.{0} @List.length_nil.{0})) (And.intro (And.intro @List.drop_succ_cons.{0} @List.drop_zero.{0}) (And.intro @List.take_succ_cons.{0} @List.take_zero.{0})))) (And.intro (And.intro (And.intro @List.headD_cons.{0} (And.intro @List.length_map.{0,0} @Bool.not_true)) (And.intro (And.intro @Bool.not_false @true_and) (And.intro @and_true @Option.getD_some.{0}))) (And.intro (And.intro (And.intro @List.cons_append.{0} @List.nil_append.{0}) (And.intro @List.append_nil.{0} @Nat.succ_ne_self)) (And.intro (And.intro @Nat.one_ne_zero @AV.c.injEq) (And.intro @Value.bool.injEq @Value.int.injEq))))) (And.intro (And.intro (And.intro (And.intro @false_implies (And.intro @decide_eq_true_eq @decide_eq_false_iff_not)) (And.intro (And.intro @Int.natCast_nonneg @Int.ofNat_lt) (And.intro @Int.ofNat_le @Int.toNat_natCast))) (And.intro (And.intro (And.intro @not_false_eq_true @not_true_eq_false) (And.intro @Nat.le_refl @false_and)) (And.intro (And.intro @and_false @Nat.succ_ne_zero) (And.intro @imp_self @true_implies)))) (And.intro (And.intro (And.intro (And.intro @decide_true @decide_false) (And.intro @List.set_cons_zero.{0} @List.set_cons_succ.{0})) (And.intro (And.intro @Nat.zero_le @List.mem_cons.{0}) (And.intro @List.not_mem_nil.{0} @or_false))) (And.intro (And.intro (And.intro @List.flatMap_cons.{0,0} @List.flatMap_nil.{0,0}) (And.intro @Option.map_some.{0,0} @Option.map_none.{0,0})) (And.intro (And.intro @Option.isSome_some.{0} @Option.isSome_none.{0}) (And.intro @Int.le_refl @List.take_length.{0})))))) :=
  (And.intro (And.intro (And.intro (And.intro (And.intro @ATab.get_cons (And.intro @Nat.zero_add @Nat.add_zero)) (And.intro (And.intro @List.getElem?_cons_zero.{0} @List.getElem?_cons_succ.{0}) (And.intro @List.getElem?_toArray.{0} @Option.bind_some.{0,0}))) (And.intro (And.intro (And.intro @List.map_cons.{0,0} @List.map_nil.{0,0}) (And.intro @List.length_cons.{0} @List.length_nil.{0})) (And.intro (And.intro @List.drop_succ_cons.{0} @List.drop_zero.{0}) (And.intro @List.take_succ_cons.{0} @List.take_zero.{0})))) (And.intro (And.intro (And.intro @List.headD_cons.{0} (And.intro @List.length_map.{0,0} @Bool.not_true)) (And.intro (And.intro @Bool.not_false @true_and) (And.intro @and_true @Option.getD_some.{0}))) (And.intro (And.intro (And.intro @List.cons_append.{0} @List.nil_append.{0}) (And.intro @List.append_nil.{0} @Nat.succ_ne_self)) (And.intro (And.intro @Nat.one_ne_zero @AV.c.injEq) (And.intro @Value.bool.injEq @Value.int.injEq))))) (And.intro (And.intro (And.intro (And.intro @false_implies (And.intro @decide_eq_true_eq @decide_eq_false_iff_not)) (And.intro (And.intro @Int.natCast_nonneg @Int.ofNat_lt) (And.intro @Int.ofNat_le @Int.toNat_natCast))) (And.intro (And.intro (And.intro @not_false_eq_true @not_true_eq_false) (And.intro @Nat.le_refl @false_and)) (And.intro (And.intro @and_false @Nat.succ_ne_zero) (And.intro @imp_self @true_implies)))) (And.intro (And.intro (And.intro (And.intro @decide_true @decide_false) (And.intro @List.set_cons_zero.{0} @List.set_cons_succ.{0})) (And.intro (And.intro @Nat.zero_le @List.mem_cons.{0}) (And.intro @List.not_mem_nil.{0} @or_false))) (And.intro (And.intro (And.intro @List.flatMap_cons.{0,0} @List.flatMap_nil.{0,0}) (And.intro @Option.map_some.{0,0} @Option.map_none.{0,0})) (And.intro (And.intro @Option.isSome_some.{0} @Option.isSome_none.{0}) (And.intro @Int.le_refl @List.take_length.{0}))))))
theorem ruW : type_of% (And.intro (And.intro (And.intro (And.intro @ATab.get_cons @and_true) (And.intro @true_and (And.intro @AV.c.injEq @Value.int.injEq))) (And.intro (And.intro @Value.bool.injEq @Bool.not_true) (And.intro @Bool.not_false (And.intro @Nat.succ_ne_self @Nat.one_ne_zero)))) (And.intro (And.intro (And.intro @Nat.succ_ne_zero @not_true_eq_false) (And.intro @not_false_eq_true (And.intro @Int.natCast_nonneg @List.map_cons.{0,0}))) (And.intro (And.intro @List.map_nil.{0,0} (And.intro @List.cons_append.{0} @List.nil_append.{0})) (And.intro @List.append_nil.{0} (And.intro @decide_true @decide_false))))) :=
  (And.intro (And.intro (And.intro (And.intro @ATab.get_cons @and_true) (And.intro @true_and (And.intro @AV.c.injEq @Value.int.injEq))) (And.intro (And.intro @Value.bool.injEq @Bool.not_true) (And.intro @Bool.not_false (And.intro @Nat.succ_ne_self @Nat.one_ne_zero)))) (And.intro (And.intro (And.intro @Nat.succ_ne_zero @not_true_eq_false) (And.intro @not_false_eq_true (And.intro @Int.natCast_nonneg @List.map_cons.{0,0}))) (And.intro (And.intro @List.map_nil.{0,0} (And.intro @List.cons_append.{0} @List.nil_append.{0})) (And.intro @List.append_nil.{0} (And.intro @decide_true @decide_false)))))
end Go.Proofs.Ytfocnmkbnccilaa
