/-
  Parts of the proof: AlM, SoP, SoQ, SoA, SoB, SoR, SoC.
-/
import Derived.Test.YtmcegfoaceilgaaGreatNmy8
set_option linter.unusedVariables false
set_option linter.unusedSimpArgs false
namespace Go.Proofs.YtmcegfoaceilgaaGreat
section
open Go.RowKit

/-- what lies outside of the call's own stays -/
structure Fz (w : World) (tab : ATab) (L : Nat → Value) (w' : World) (tab' : ATab) (L' : Nat → Value) : Prop where
  size : w.heap.size ≤ w'.heap.size
  keep : ∀ k, k < w.heap.size → (∀ id o, tab.get id = some o → vblk (L id) ≠ some k) → w'.heap[k]? = w.heap[k]?
  young : ∀ id o g, tab'.get id = some o → vblk (L' id) = some g → g < w.heap.size → ∃ id2 o2, tab.get id2 = some o2 ∧ vblk (L id2) = some g
section
variable {P : Program} {cx : Cx} {a : Act} {w w' w'' : World} {st st' : ASt} {tab tab' tab'' : ATab} {L L' L'' : Nat → Value} {nx nx' : Nat}
theorem Fz.refl : Fz w tab L w tab L := ⟨Nat.le_refl _, fun _ _ _ => rfl, fun id o g h1 h2 _ => ⟨id, o, h1, h2⟩⟩
theorem Fz.trans (h : Fz w tab L w' tab' L') (k : Fz w' tab' L' w'' tab'' L'') : Fz w tab L w'' tab'' L'' :=
  ⟨Nat.le_trans h.size k.size,
   fun j hj hn => (k.keep j (Nat.lt_of_lt_of_le hj h.size) fun id o h1 h2 => (h.young id o j h1 h2 hj).elim fun id2 ⟨o2, h3, h4⟩ => hn id2 o2 h3 h4).trans (h.keep j hj hn),
   fun id o g h1 h2 hg => (k.young id o g h1 h2 (Nat.lt_of_lt_of_le hg h.size)).elim fun id2 ⟨o2, h3, h4⟩ => h.young id2 o2 g h3 h4 hg⟩
theorem Fr.fz (h : Fr cx w tab L nx w' tab' L' nx') : Fz w tab L w' tab' L' := ⟨h.size, h.keep, h.young⟩
theorem weak_fz (hall : ∀ b, cx.F b ∨ cx.w0.heap.size ≤ b) (hw : Weak st st') (h : Conc cx a w st L) : ∃ L', Conc cx a w st' L' ∧ Fz w st.tab L w st'.tab L' := by
  obtain ⟨L', h1, h2⟩ := hw _ _ _ _ h
  refine ⟨L', h1, Nat.le_refl _, fun _ _ _ => rfl, fun id o g h3 h4 h5 => ?_⟩
  refine Classical.byContradiction fun hno => ?_
  have hS : Sx cx w st.tab L g := ⟨h5, ⟨hall g, fun hX => (h1.lay.ex g hX).2 id o h3 h4⟩, fun id2 o2 h6 h7 => hno ⟨id2, o2, h6, h7⟩⟩
  exact (h2 g hS).2.2 id o h3 h4
theorem ops_okZ {ops : Array Oper} {K : ASt → Prop} {Q : Exit → Act → World → Prop} {T : Nat → Prop} : ∀ (l : List Oper) (a : Act) (w : World) (st : ASt) (L : Nat → Value), (∀ o ∈ l, fOp o = true ∧ ∀ t, T t → o.dst ≠ some t) →
    (∀ a' w' st' L', K st' → Conc cx a' w' st' L' → Fz w st.tab L w' st'.tab L' → ActSame T a a' → Q .normal a' w') → Conc cx a w st L → aOps P ops K l st → wpList P ops Q l a w
  | [], a, w, st, L, _, hQ, h, hp => hQ a w st L hp h Fz.refl (.refl a)
  | o :: rest, a, w, st, L, hf, hQ, h, hp => by
    unfold aOps at hp
    obtain ⟨hfo, hdo⟩ := hf o (List.mem_cons_self ..)
    have hrest := fun o' (ho' : o' ∈ rest) => hf o' (List.mem_cons_of_mem _ ho')
    refine wpList_step fun K' hK' => ?_
    rcases guard_ok h hp o rfl with ⟨hw, st1, h1, h2, e1, e2⟩ | ⟨hw, st1, h1, h2, e1, e2⟩
    · rw [if_pos hw]
      refine Oper.wp_mono (fun a' w' ⟨⟨st2, L2, h3, h4, h5, h6⟩, h7⟩ => hK' a' w' (ops_okZ rest a' w' st2 L2 hrest (fun a3 w3 st3 L3 h8 h9 h10 h11 => hQ a3 w3 st3 L3 h8 h9 ?_ (ActSame.trans ⟨h6, h7⟩ h11)) h4 h3)) (wp_slots hdo (op_okF h2 h1 hfo))
      have h5 := h5.fz
      rw [e1] at h5
      exact h5.trans h10
    · rw [if_neg (by simp [hw])]
      refine hK' _ _ (ops_okZ rest _ w _ L hrest (fun a3 w3 st3 L3 h8 h9 h10 h11 => hQ a3 w3 st3 L3 h8 h9 ?_ (((ActSame.refl a).put hdo).trans h11)) (skip_conc h2 o.dst) h1)
      rw [put_tab, e1] at h10
      exact h10
theorem Fz.below (hy : ∀ id o g, tab.get id = some o → vblk (L id) = some g → g < w.heap.size) (hb : Below w.heap.size w w') : Fz w tab L w' tab L := ⟨hb.size, fun k hk _ => hb.block k hk, fun id o g h1 h2 _ => ⟨id, o, h1, h2⟩⟩
/-- code whose regions go in order, and that does not put into slot t -/
def zCode (t : Nat) : Code → Bool
  | .skip => true
  | .region _ ops _ => ops.toList.all fun o => fOp o && !(o.dst == some t)
  | .seq x y => zCode t x && zCode t y
  | .cond _ x y => zCode t x && zCode t y
  | .block _ x => zCode t x
  | .loop x => zCode t x
  | .exit _ => true
  | .ret => true
  | _ => false
abbrev AfterZ (cx : Cx) (a : Act) (w : World) (tab : ATab) (L : Nat → Value) (t : Nat) (Q : Exit → ASt → Prop) : Exit → Act → World → Prop := fun e a' w' => ∃ st' L', Q e st' ∧ Conc cx a' w' st' L' ∧ Fz w tab L w' st'.tab L' ∧ ActSame (fun k => k = t) a a'
theorem code_okZ (hm : P.follows .mixedOrders = true) (hall : ∀ b, cx.F b ∨ cx.w0.heap.size ≤ b) (t : Nat) : ∀ (c : Code), zCode t c = true → ∀ (Q : Exit → ASt → Prop) (a : Act) (w : World) (st : ASt) (L : Nat → Value), Conc cx a w st L → aCode P c Q st → c.wp P (AfterZ cx a w st.tab L t Q) a w := by
  intro c
  induction c with
  | skip => exact fun _ Q a w st L h hp => wp_skip ⟨st, L, hp, h, Fz.refl, .refl a⟩
  | region id ops draw =>
    intro hf Q a w st L h hp
    unfold aCode aReg at hp
    simp only [zCode, List.all_eq_true, Bool.and_eq_true] at hf
    have hf : ∀ o ∈ ops.toList, fOp o = true ∧ ∀ k, k = t → o.dst ≠ some k := fun o ho => ⟨(hf o ho).1, fun k hk => by subst hk; simpa using (hf o ho).2⟩
    have hT : ∀ (i : Nat) (o : Oper), ops[i]? = some o → ∀ k, k = t → o.dst ≠ some k := fun i o ho => (hf o (Array.mem_toList_iff.2 (Array.mem_of_getElem? ho))).2
    have hyg : ∀ id o g, st.tab.get id = some o → vblk (L id) = some g → g < w.heap.size := fun id o g h1 h2 => ((h.lay.objs id o h1).ge h2).2
    cases draw with
    | false => exact wp_region_list (ops_okZ (T := fun k => k = t) _ a w st L hf (fun a' w' st' L' h1 h2 h3 h4 => ⟨st', L', h1, h2, h3, h4⟩) h (by simpa using hp))
    | true =>
      simp only [if_true] at hp
      obtain ⟨l⟩ := ops
      rcases hp with ⟨hB, hp⟩ | ⟨n, hB, hp⟩ | ⟨ids, hd, s, hB, K', hK', hids, hp⟩
      · exact wp_region_quiet (C := fun w' => Below w.heap.size w w') hm hB ((Below.refl _ _).drew) (dops_ok (L := L) (T := fun k => k = t) (a0 := a) (tab0 := st.tab) (fun a' st' h1 h2 h3 h4 w' hw' => ⟨st', L, h1, conc_below h2 hw', by rw [h3]; exact Fz.below hyg hw', h4⟩) _ _ _ (fun o ho => (hf o ho).2) rfl (.refl a) h hp)
      · have h' : Conc cx a w.drew st L := conc_below h ((Below.refl _ _).drew)
        have hz : Fz w st.tab L w.drew st.tab L := Fz.below hyg ((Below.refl _ _).drew)
        exact wp_region_still_tail n hm hB (pops_ok (T := fun k => k = t) (a0 := a) (tab0 := st.tab) (fun a' st' h1 h2 h3 h4 => ops_okZ (T := fun k => k = t) _ a' w.drew st' L (fun o ho => hf o (List.mem_of_mem_drop ho)) (fun a2 w2 st2 L2 h5 h6 h7 h8 => ⟨st2, L2, h5, h6, hz.trans (by rw [← h3]; exact h7), h4.trans h8⟩) h2 h1) _ _ _ (fun o ho => (hf o (List.mem_of_mem_take ho)).2) rfl (.refl a) h' hp)
      · simp only [Bool.and_eq_true] at hB
        have hB := And.intro hB.1 (Nat.le_of_ble_eq_true hB.2)
        have h' : Conc cx a w.drew st L := conc_below h ((Below.refl _ _).drew)
        let G : Nat → Prop := fun k => ∃ id ∈ ids, vblk (L id) = some k
        refine Code.wp_mono (Q := noPanic (AfterZ cx a w st.tab L t Q)) (fun e a w hq => ?_) (wp_region_held (S := fun w' => KeepX w.drew.heap.size G w.drew w') hm ?_)
        · cases e <;> first | exact hq | exact hq.elim
        · refine heldH_ok (T := st.tab) (Tz := fun k => k = t) (a0 := a) (nx := st.next) (ids := ids) hB.1.1 hT s ⟨Nat.le_refl _, fun _ _ _ => rfl⟩ (fun w' b hw' hb o u hu => ?_) (fun listed a' st' hA hT' hN hB' hK h2 fuel hf' => ?_) hd _ _ _ (.refl a) h' rfl rfl hB.1.2 hp _ hB.2
          · have hlt := World.block_lt_of_cell? w.drew _ hu
            refine (World.cell?_of_block (hw'.block b hlt fun ⟨id, hid, hbl⟩ => ?_)).trans hu
            obtain ⟨ob, hob⟩ := Option.isSome_iff_exists.1 (hids id hid)
            rcases hb with hb | ⟨id', o', hni, hget, hbl'⟩
            · exact hb.2.2 id ob hob hbl
            · exact hni (h.lay.sep id' id o' ob b hget hob hbl' hbl ▸ hid)
          · refine held_ok (Q := AfterZ cx a w st.tab L t Q) (T0 := st.tab) (T := fun k => k = t) (a0 := a) (L0 := L) hB.1.1 hT (fun a2 w2 st2 L2 h3 h4 h5 h6 h7 h8 => ?_) s listed a' w.drew st' L h2 ⟨Nat.le_refl _, fun _ _ _ => rfl⟩ (fun id o g h3 h4 _ => by
              rw [hT'] at h4
              have := (h.young id o h4).1
              omega) (fun id hid g hg => ⟨id, hid, hg⟩) (fun id hid => by
              obtain ⟨ob, hob⟩ := Option.isSome_iff_exists.1 (hids id hid)
              rw [hN]
              exact (h.young id ob hob).1) ⟨fun _ _ => rfl, by rw [hN]; exact Nat.le_refl _, fun id o _ hg => ⟨o, by rw [← hT']; exact hg⟩, fun id o g _ hni hg hbl => ?_⟩ hA hB' hK fuel hf'
            · obtain ⟨st3, hw3, h9⟩ := hK' st2 h3
              obtain ⟨L3, h10, h11⟩ := weak_fz hall hw3 h4
              have hG : ∀ k, G k → ∃ id o, st.tab.get id = some o ∧ vblk (L id) = some k := fun k ⟨id, hid, hbl⟩ => (Option.isSome_iff_exists.1 (hids id hid)).elim fun ob hob => ⟨id, ob, hob, hbl⟩
              have hz : Fz w st.tab L w2 st2.tab L2 := by
                have hsz : w.drew.heap.size = w.heap.size := rfl
                refine ⟨h5.size, fun k hk hn => h5.block k hk fun hg => ?_, fun id o g h12 h13 h14 => ?_⟩
                · obtain ⟨id, ob, h12, h13⟩ := hG k hg
                  exact hn id ob h12 h13
                · rcases Nat.lt_or_ge id st.next with hlt | hge
                  · obtain ⟨o', ho'⟩ := h7.old id o hlt h12
                    exact ⟨id, o', ho', by rw [← h7.loc id hlt]; exact h13⟩
                  · rcases h6 id o g hge h12 h13 with h15 | h15
                    · have : w.heap.size ≤ g := h15
                      omega
                    · exact hG g h15
              exact ⟨st3, L3, h9, h10, hz.trans h11, h8⟩
            · refine ⟨((h'.lay.objs id _ hg).ge hbl).2, fun ⟨id', hid', hbl'⟩ => hni ?_⟩
              obtain ⟨ob, hob⟩ := Option.isSome_iff_exists.1 (hids id' hid')
              exact h.lay.sep id id' _ ob g hg hob hbl hbl' ▸ hid'
  | seq x y ihx ihy =>
    intro hf Q a w st L h hp
    simp only [zCode, Bool.and_eq_true] at hf
    unfold aCode at hp
    refine wp_seq (Code.wp_mono (fun e a' w' ⟨st', L', h1, h2, h3, h4⟩ => ?_) (ihx hf.1 _ a w st L h hp))
    cases e with
    | normal => exact Code.wp_mono (fun e a2 w2 ⟨st2, L2, k1, k2, k3, k4⟩ => ⟨st2, L2, k1, k2, h3.trans k3, h4.trans k4⟩) (ihy hf.2 Q a' w' st' L' h2 h1)
    | _ => exact ⟨st', L', h1, h2, h3, h4⟩
  | cond c x y ihx ihy =>
    intro hf Q a w st L h hp
    simp only [zCode, Bool.and_eq_true] at hf
    unfold aCode aCond at hp
    split at hp
    · rename_i b hb
      have hv := (eval_ok h c).1
      rw [hb] at hv
      have hv := hv.c_inv
      cases b
      · exact wp_cond_false hv (ihy hf.2 Q a w st L h hp)
      · exact wp_cond_true hv (ihx hf.1 Q a w st L h hp)
    · exact hp.elim
  | block id x ih =>
    intro hf Q a w st L h hp
    simp only [zCode] at hf
    unfold aCode at hp
    refine wp_block (Code.wp_mono (fun e a' w' ⟨st', L', h1, h2, h3⟩ => ?_) (ih hf _ a w st L h hp))
    cases e with
    | exit id' =>
      simp only [aInBlock, Exit.inBlock] at h1 ⊢
      split
      · rename_i e
        rw [if_pos e] at h1
        exact ⟨st', L', h1, h2, h3⟩
      · rename_i e
        rw [if_neg e] at h1
        exact ⟨st', L', h1, h2, h3⟩
    | _ => exact ⟨st', L', h1, h2, h3⟩
  | loop x ih =>
    intro hf Q a0 w0 st0 L0 h hp
    simp only [zCode] at hf
    unfold aCode at hp
    obtain ⟨I, μ, ⟨st1, hw1, hI⟩, hr⟩ := hp
    let p : Act → World → Nat → Prop := fun a w n => ∃ st L, I st ∧ Conc cx a w st L ∧ (Fz w0 st0.tab L0 w st.tab L ∧ ActSame (fun k => k = t) a0 a) ∧ μ st = n
    obtain ⟨L1, hL1, hz1⟩ := weak_fz hall hw1 h
    refine wp_loop (fun a w => ∃ n, p a w n) (fun a w => least (p a w)) ⟨_, st1, L1, hI, hL1, ⟨hz1, .refl a0⟩, rfl⟩ fun a w hpa => ?_
    obtain ⟨⟨st, L, h1, h2, ⟨h3, h3a⟩, h4⟩, _⟩ := least_spec hpa
    refine Code.wp_mono (fun e a' w' ⟨st', L', h5, h6, h7, h8⟩ => ?_) (ih hf _ a w st L h2 (hr st h1))
    cases e with
    | normal =>
      obtain ⟨st'', hw, hI'', hlt⟩ := h5
      obtain ⟨L1, hL1, hz1⟩ := weak_fz hall hw h6
      have hpn : p a' w' (μ st'') := ⟨st'', L1, hI'', hL1, ⟨(h3.trans h7).trans hz1, h3a.trans h8⟩, rfl⟩
      refine ⟨⟨_, hpn⟩, ?_⟩
      have := (least_spec ⟨_, hpn⟩).2 _ hpn
      show least (p a' w') < least (p a w)
      omega
    | _ => exact ⟨st', L', h5, h6, h3.trans h7, h3a.trans h8⟩
  | exit id => exact fun _ Q a w st L h hp => wp_exit ⟨st, L, hp, h, Fz.refl, .refl a⟩
  | ret => exact fun _ Q a w st L h hp => wp_ret ⟨st, L, hp, h, Fz.refl, .refl a⟩
  | _ => exact fun hf => (by cases hf)
end
/-- behind a function that changes a slice's rows -/
def aRetM (e : TypeId) (sz : Nat) (rows : List (List AV)) : Exit → ASt → Prop
  | .normal, st => st.tab.get 0 = some (.row e sz rows) ∧ st.get 0 = .osl 0
  | .ret, st => st.tab.get 0 = some (.row e sz rows) ∧ st.get 0 = .osl 0
  | _, _ => False
theorem aRetM_n {e : TypeId} {sz : Nat} {rows : List (List AV)} {st : ASt} : aRetM e sz rows .normal st = (st.tab.get 0 = some (.row e sz rows) ∧ st.get 0 = .osl 0) := rfl
theorem aRetM_r {e : TypeId} {sz : Nat} {rows : List (List AV)} {st : ASt} : aRetM e sz rows .ret st = (st.tab.get 0 = some (.row e sz rows) ∧ st.get 0 = .osl 0) := rfl
theorem amut_of_code {P : Program} (hm : P.follows .mixedOrders = true) {f : FuncId} {fn : Func} {c : Code} (hf : P.funcs[f]? = some fn) (hb : fn.body = some c) (hname : (fn.name == "runtime.NumGoroutine") = false) {e : TypeId} {sz : Nat} {rows rows' : List (List AV)} {args : List AV} {n : Nat} (hnt : fn.ntmps = n) (hrs : fn.results = #[])
    (hn : Nat.ble (args.length + 1) n = true) (hz : zCode 0 c = true) (h : aCode P c (aRetM e sz rows') ⟨n, envOf 0 (.osl 0 :: args), [(0, some (.row e sz rows))], 1⟩) : AMut P f e sz rows args rows' := by
  have hn := Nat.le_of_ble_eq_true hn
  subst hnt
  refine ⟨fun vs w => ?_, fun S w base v vs hS hrow hvS hvn hvs => ?_⟩
  · have : ¬ fn.name = "runtime.NumGoroutine" := by simpa using hname
    simp [callFunc, Sem.run_bind, hf, this, hb]
  · let cx : Cx := ⟨fun _ => True, { w with heap := #[] }, fun b => b < w.heap.size ∧ ¬ S b ∧ vblk v ≠ some b⟩
    have hget : ∀ id o, ATab.get [(0, some (AObj.row e sz rows))] id = some o → id = 0 ∧ o = .row e sz rows := fun id o ho => by
      rw [ATab.get_cons] at ho
      split at ho
      · cases ho
        exact ⟨by assumption, rfl⟩
      · cases ho
    have hSx : ∀ b, S b → Sx cx w [(0, some (AObj.row e sz rows))] (fun _ => v) b := fun b hb => ⟨hS b hb, ⟨.inl trivial, fun hX => hX.2.1 hb⟩, fun id o ho hg => hvS b hg hb⟩
    obtain ⟨hrl, xs, hown, hone, hx⟩ := id hrow
    have hL : Lay cx w [(0, some (AObj.row e sz rows))] (fun _ => v) := by
      refine ⟨⟨rfl, rfl, rfl, Nat.zero_le _, fun k hk => (by simp [cx] at hk)⟩, fun id o ho => ?_, fun id id' o o' g h1 h2 _ _ => by rw [(hget id o h1).1, (hget id' o' h2).1], fun b hX => ⟨hX.1, fun id o _ => hX.2.2⟩⟩
      obtain ⟨_, rfl⟩ := hget id o ho
      exact ⟨hrl, xs, hown.base (Nat.zero_le _), hone, fun i j row av h1 h2 => (hx i j row av h1 h2).elim fun x hx' => ⟨x, hx'.1, hx'.2.mono (fun _ _ => rfl) hSx⟩⟩
    have hC : Conc cx { tmps := (#[v] ++ vs) ++ Array.replicate (fn.ntmps - (#[v] ++ vs).size) undef, defers := [] } w ⟨fn.ntmps, envOf 0 (.osl 0 :: args), [(0, some (.row e sz rows))], 1⟩ (fun _ => v) := by
      refine ⟨hL, ?_, Marks.nil _ _ _, fun id o ho => ?_, fun t => ?_⟩
      · simp
        omega
      · obtain ⟨rfl, rfl⟩ := hget id o ho
        exact ⟨Nat.zero_lt_one, trivial⟩
      have e1 : (⟨fn.ntmps, envOf 0 (.osl 0 :: args), [(0, some (.row e sz rows))], 1⟩ : ASt).get t = (AV.osl 0 :: args).getD t .any := by
        show (if t < fn.ntmps then aget (envOf 0 (.osl 0 :: args)) t else .any) = _
        rw [aget_envOf]
        split
        · simp
        · simp [List.getD, List.getElem?_eq_none (show (AV.osl 0 :: args).length ≤ t by simp; omega)]
      rw [e1]
      by_cases ht : t < args.length + 1
      · have ht' : t < (#[v] ++ vs).size := by simp; omega
        have e2 : ((#[v] ++ vs) ++ Array.replicate (fn.ntmps - (#[v] ++ vs).size) undef).getD t undef = (#[v] ++ vs)[t] := by
          rw [Array.getD_eq_getD_getElem?, Array.getElem?_append_left ht', Array.getElem?_eq_getElem ht']
          rfl
        rw [e2]
        cases t with
        | zero =>
          have e3 : (#[v] ++ vs)[0] = v := by simp
          rw [e3]
          refine ⟨.osl _ _ fun sz' v' hk => ?_, Nat.zero_lt_one⟩
          simp [Kx, ATab.get_cons] at hk
          exact hk.2
        | succ t =>
          have ht2 : t < args.length := by omega
          have ht3 : t < vs.size := by omega
          have e3 : (#[v] ++ vs)[t + 1] = vs[t] := by simp []
          have e4 : (AV.osl 0 :: args).getD (t + 1) .any = args[t] := by simp [List.getD, ht2]
          rw [e3, e4]
          have := hvs t _ _ (Array.getElem?_eq_getElem ht3) (List.getElem?_eq_getElem ht2)
          exact ⟨.tree (this.mono (fun _ _ => rfl) hSx), this.lt 1⟩
      · have e3 : (AV.osl 0 :: args).getD t .any = .any := by simp [List.getD, List.getElem?_eq_none (show (AV.osl 0 :: args).length ≤ t by simp; omega)]
        rw [e3]
        exact ⟨.tree (.any _), trivial⟩
    refine calls_of_wp hf hb (Code.wp_mono (fun ex a' w' ⟨st', L', h1, h2, h3, hA⟩ => ?_) (code_okZ hm (fun b => .inl trivial) 0 c hz _ _ w _ _ hC h))
    have h4 := hA.defers
    have h5 := hA.slots 0 rfl
    have h50 : a'.tmps.getD 0 undef = v := by
      rw [h5, Array.getD_eq_getD_getElem?, Array.append_assoc, Array.getElem?_append_left (by simp)]
      rfl
    have key : (st'.tab.get 0 = some (.row e sz rows') ∧ st'.get 0 = .osl 0) → a'.defers = [] ∧ ∃ u, (results fn a'.tmps).run P w' = .ok u w' ∧ (Ending.returned u = .returned (.tuple #[]) ∧ (w'.os = w.os ∧ w'.tape = w.tape ∧ w'.output = w.output) ∧ w.heap.size ≤ w'.heap.size ∧ (∀ k, k < w.heap.size → vblk v ≠ some k → w'.heap[k]? = w.heap[k]?) ∧ RowAt w' (fun b => (S b ∨ w.heap.size ≤ b) ∧ b < w'.heap.size) base e sz v rows') := fun ⟨h6, h7⟩ => by
      have hL0 : L' 0 = v := by
        have := (h2.env 0).1
        rw [h7, h50] at this
        exact (this.osl_inv _ _ (kx_of h6)).symm
      obtain ⟨hrl', xs', hown', hone', hx'⟩ := h2.lay.objs 0 _ h6
      rw [hL0] at hown'
      refine ⟨h4, .tuple #[], ?_, rfl, ⟨h2.lay.below.os, h2.lay.below.tape, h2.lay.below.output⟩, h3.size, fun k hk hne => h3.keep k hk fun id o ho => ?_, hrl', xs', ⟨hown'.1, ?_⟩, hone', fun i j row av h8 h9 => (hx' i j row av h8 h9).elim fun x hx2 => ⟨x, hx2.1, hx2.2.mono (fun _ _ => rfl) fun b hb => ⟨?_, hb.1⟩⟩⟩
      · obtain ⟨u, av, hav, hu, hr⟩ := res_ok (K := fun av => av = .tup []) (fn := fn) h2 (by rw [hrs]; rfl)
        subst hav
        obtain ⟨xs, rfl, hsz, _⟩ := hu.tup_inv
        have : xs = #[] := Array.eq_empty_of_size_eq_zero (by simpa using hsz)
        rw [this] at hr
        exact hr
      · exact hne
      · rcases hown'.2 with h8 | ⟨g, cap, cur, h8, _, h9⟩
        · exact .inl h8
        · refine .inr ⟨g, cap, cur, h8, ?_, h9⟩
          exact (hown.lt g (by rw [h8]; rfl)).1
      · rcases Nat.lt_or_ge b w.heap.size with hlt | hge
        · refine .inl (Classical.byContradiction fun hno => hb.2.1.2 ⟨hlt, hno, fun hg => ?_⟩)
          exact hb.2.2 0 _ h6 (by rw [hL0]; exact hg)
        · exact .inr hge
    cases ex with
    | normal => exact key h1
    | ret => exact key h1
    | _ => exact h1.elim
theorem callM {P : Program} {st : ASt} {g : FuncId} {K : AV → ASt → Prop} {id e sz : Nat} {rows rows' : List (List AV)} {rest : List AV} (h : AMut P g e sz rows rest rows') (hid : st.tab.get id = some (.row e sz rows)) (ht : treeML rest) (hk : K (.tup []) { st with tab := (id, some (.row e sz rows')) :: st.tab }) : aCall true P st g (.osl id :: rest) K :=
  .inr ⟨rfl, .inl (.inr ⟨id, e, sz, rows, rows', rest, rfl, hid, ht, h, hk⟩)⟩
end
section
/-- a number, what it is, and its place in the list that is sorted -/
structure Pt where
  n : Int
  a : Int
  c : Int
  t : Int
instance : Inhabited Pt := ⟨⟨0, 0, 0, 0⟩⟩
def ltE (x y : Pt) : Prop := x.n < y.n ∨ (x.n = y.n ∧ x.t < y.t)
def leB (x y : Pt) : Bool := decide (x.n < y.n) || (decide (x.n = y.n) && decide (x.t ≤ y.t))
def srt (l : List Pt) : List Pt := l.mergeSort leB
def Srt (l : List Pt) : Prop := l.Pairwise ltE
def Tg (l : List Pt) : Prop := l.Pairwise fun x y => x.t < y.t
theorem leB_iff {x y : Pt} : leB x y = true ↔ x.n < y.n ∨ (x.n = y.n ∧ x.t ≤ y.t) := by simp [leB]
theorem srt_perm (l : List Pt) : (srt l).Perm l := List.mergeSort_perm ..
theorem srt_len (l : List Pt) : (srt l).length = l.length := (srt_perm l).length_eq
theorem srt_le (l : List Pt) : (srt l).Pairwise fun x y => leB x y = true :=
  List.pairwise_mergeSort (fun x y z h k => by rw [leB_iff] at *; omega) (fun x y => by rw [Bool.or_eq_true, leB_iff, leB_iff]; omega) l
theorem srt_uniq {X l : List Pt} (h : X.Perm l) (hs : Srt X) : srt l = X := by
  refine (h.trans (srt_perm l).symm).symm.eq_of_pairwise (le := fun x y => leB x y = true) (fun x y hx hy h1 h2 => ?_) (srt_le l) (hs.imp fun {x y} h => by rw [leB_iff]; unfold ltE at h; omega)
  have hx' : x ∈ X := (h.trans (srt_perm l).symm).symm.subset hx
  rw [leB_iff] at h1 h2
  refine Classical.byContradiction fun hne => ?_
  obtain ⟨i, hi, rfl⟩ := List.getElem_of_mem hx'
  obtain ⟨j, hj, rfl⟩ := List.getElem_of_mem hy
  have hp := List.pairwise_iff_getElem.1 hs
  rcases Nat.lt_trichotomy i j with h3 | h3 | h3
  · have := hp i j hi hj h3
    unfold ltE at this
    omega
  · subst h3
    exact hne rfl
  · have := hp j i hj hi h3
    unfold ltE at this
    omega
theorem srt_of {l : List Pt} (h : Srt l) : srt l = l := srt_uniq (.refl _) h
def Dt (l : List Pt) : Prop := l.Pairwise fun x y => x.t ≠ y.t
theorem Tg.dt {l : List Pt} (h : Tg l) : Dt l := List.Pairwise.imp (fun {x y} h => by omega) h
theorem Dt.perm {l k : List Pt} (h : Dt l) (hp : k.Perm l) : Dt k := (hp.pairwise_iff (fun {x y} h => Ne.symm h)).2 h
theorem srt_sorted {l : List Pt} (h : Dt l) : Srt (srt l) :=
  List.Pairwise.imp₂ (fun x y h1 h2 => by rw [leB_iff] at h1; unfold ltE; omega) (srt_le l) (h.perm (srt_perm l))
theorem srt_mem {l : List Pt} {x : Pt} : x ∈ srt l ↔ x ∈ l := (srt_perm l).mem_iff
theorem srt_srt {l k : List Pt} (h : Dt (l ++ k)) : srt (srt l ++ srt k) = srt (l ++ k) :=
  srt_uniq (((srt_perm (l ++ k))).trans ((srt_perm l).symm.append (srt_perm k).symm)) (srt_sorted h)
/-- one put among others -/
theorem mid_put {S : List Pt} {x : Pt} {c : Nat} (h : Srt S) (h1 : ∀ y ∈ S.take c, ltE y x) (h2 : ∀ y ∈ S.drop c, ltE x y) : Srt (S.take c ++ x :: S.drop c) := by
  have h0 : Srt (S.take c ++ S.drop c) := by rw [List.take_append_drop]; exact h
  obtain ⟨h3, h4, h5⟩ := List.pairwise_append.1 h0
  refine List.pairwise_append.2 ⟨h3, List.pairwise_cons.2 ⟨h2, h4⟩, fun y hy z hz => ?_⟩
  rcases List.mem_cons.1 hz with rfl | hz
  · exact h1 y hy
  · exact h5 y hy z hz
theorem mid_perm2 {S : List Pt} {x : Pt} {c : Nat} : (S.take c ++ x :: S.drop c).Perm ([x] ++ S) := by
  have h := List.perm_middle (a := x) (l₁ := S.take c) (l₂ := S.drop c)
  rw [List.take_append_drop] at h
  exact h
theorem mid_perm {S : List Pt} {x : Pt} {c : Nat} : (S.take c ++ x :: S.drop c).Perm (S ++ [x]) := mid_perm2.trans (List.perm_append_singleton x S).symm
theorem n_mono {S : List Pt} (h : Srt S) {i j : Nat} (hij : i ≤ j) (hj : j < S.length) : (S[i]'(by omega)).n ≤ S[j].n := by
  rcases Nat.lt_or_ge i j with h1 | h1
  · have := List.pairwise_iff_getElem.1 h i j (by omega) hj h1
    unfold ltE at this
    omega
  · obtain rfl : i = j := by omega
    exact Int.le_refl _
theorem take_all {S : List Pt} {c : Nat} {P : Pt → Prop} (h : ∀ k (hk : k < S.length), k < c → P S[k]) : ∀ y ∈ S.take c, P y := fun y hy => by
  obtain ⟨k, hk, rfl⟩ := List.getElem_of_mem hy
  rw [List.length_take] at hk
  rw [List.getElem_take]
  exact h k (by omega) (by omega)
theorem drop_all {S : List Pt} {c : Nat} {P : Pt → Prop} (h : ∀ k (hk : k < S.length), c ≤ k → P S[k]) : ∀ y ∈ S.drop c, P y := fun y hy => by
  obtain ⟨k, hk, rfl⟩ := List.getElem_of_mem hy
  rw [List.length_drop] at hk
  rw [List.getElem_drop]
  exact h (c + k) (by omega) (by omega)
/-- the first of two parts is one that all of the other are behind -/
theorem ins_first {x : Pt} {B : List Pt} {c : Nat} (hB : Srt B) (ht : ∀ y ∈ B, x.t < y.t) (h1 : ∀ k (hk : k < B.length), k < c → B[k].n < x.n) (h2 : ∀ k (hk : k < B.length), c ≤ k → ¬ B[k].n < x.n) : srt ([x] ++ B) = B.take c ++ x :: B.drop c :=
  srt_uniq mid_perm2 (mid_put hB (take_all fun k hk h => .inl (h1 k hk h)) (drop_all fun k hk h => by
    have := h2 k hk h
    have := ht _ (List.getElem_mem hk)
    unfold ltE
    omega))
theorem ins_last {x : Pt} {A : List Pt} {c : Nat} (hA : Srt A) (ht : ∀ y ∈ A, y.t < x.t) (h1 : ∀ k (hk : k < A.length), k < c → ¬ x.n < A[k].n) (h2 : ∀ k (hk : k < A.length), c ≤ k → x.n < A[k].n) : srt (A ++ [x]) = A.take c ++ x :: A.drop c :=
  srt_uniq mid_perm (mid_put hA (take_all fun k hk h => by
    have := h1 k hk h
    have := ht _ (List.getElem_mem hk)
    unfold ltE
    omega) (drop_all fun k hk h => .inl (h2 k hk h)))
/-- two parts, each cut in two: what is ahead in both is less than what is behind in both -/
theorem srt_cut {A1 A2 B1 B2 : List Pt} (hA : Srt (A1 ++ A2)) (hB : Srt (B1 ++ B2)) (ht : ∀ x ∈ A1 ++ A2, ∀ y ∈ B1 ++ B2, x.t < y.t) (h1 : ∀ x ∈ A1, ∀ y ∈ B2, ltE x y) (h2 : ∀ y ∈ B1, ∀ x ∈ A2, ltE y x) :
    srt ((A1 ++ A2) ++ (B1 ++ B2)) = srt (A1 ++ B1) ++ srt (A2 ++ B2) := by
  obtain ⟨a1, a2, a3⟩ := List.pairwise_append.1 hA
  obtain ⟨b1, b2, b3⟩ := List.pairwise_append.1 hB
  have key : ∀ {X Y : List Pt}, Srt X → Srt Y → (∀ x ∈ X, ∀ y ∈ Y, x.t < y.t) → Srt (srt (X ++ Y)) := fun {X Y} hX hY h => by
    have hd : ∀ {Z : List Pt}, Srt Z → ∀ x ∈ Z, True := fun _ _ _ => trivial
    refine List.Pairwise.imp₂ (R := fun x y => leB x y = true) (S := fun x y => ltE x y ∨ ltE y x) (fun x y h1 h2 => by rw [leB_iff] at h1; unfold ltE at *; omega) (srt_le _) ?_
    refine ((srt_perm (X ++ Y)).pairwise_iff (fun {x y} h => Or.symm h)).2 (List.pairwise_append.2 ⟨hX.imp .inl, hY.imp .inl, fun x hx y hy => ?_⟩)
    have := h x hx y hy
    unfold ltE
    omega
  refine srt_uniq ?_ (List.pairwise_append.2 ⟨key a1 b1 fun x hx y hy => ht x (List.mem_append_left _ hx) y (List.mem_append_left _ hy), key a2 b2 fun x hx y hy => ht x (List.mem_append_right _ hx) y (List.mem_append_right _ hy), fun x hx y hy => ?_⟩)
  · refine ((srt_perm _).append (srt_perm _)).trans ?_
    rw [List.append_assoc, List.append_assoc]
    refine List.Perm.append_left A1 ?_
    rw [← List.append_assoc, ← List.append_assoc]
    exact List.Perm.append_right B2 List.perm_append_comm
  · rcases List.mem_append.1 (srt_mem.1 hx) with hx | hx <;> rcases List.mem_append.1 (srt_mem.1 hy) with hy | hy
    · exact a3 x hx y hy
    · exact h1 x hx y hy
    · exact h2 x hx y hy
    · exact b3 x hx y hy

/-! ### in blocks -/
def Gf (bs : Nat) : Nat → List Pt → List Pt
  | 0, l => srt l
  | f + 1, l => if bs ≤ l.length then srt (l.take bs) ++ Gf bs f (l.drop bs) else srt l
def G (bs : Nat) (l : List Pt) : List Pt := Gf bs l.length l
theorem srt_nil : srt [] = [] := by simp [srt]
theorem Gf_more {bs : Nat} (hb : 0 < bs) : ∀ (f : Nat) (l : List Pt), l.length ≤ f → Gf bs f l = Gf bs l.length l
  | f, l, h => by
    induction f using Nat.strongRecOn generalizing l with
    | _ f ih =>
      cases hl : l.length with
      | zero =>
        obtain rfl := List.length_eq_zero_iff.1 hl
        cases f with
        | zero => rfl
        | succ f => simp [Gf]; omega
      | succ k =>
        cases f with
        | zero => omega
        | succ f =>
          simp only [Gf]
          split
          · congr 1
            have hd : (l.drop bs).length ≤ f := by rw [List.length_drop]; omega
            have hd2 : (l.drop bs).length ≤ k := by rw [List.length_drop]; omega
            rw [ih f (by omega) _ hd]
            rcases Nat.lt_or_ge k (f + 1) with hk | hk
            · rw [ih k hk _ hd2]
            · omega
          · rfl
theorem G_ge {bs : Nat} (hb : 0 < bs) {l : List Pt} (h : bs ≤ l.length) : G bs l = srt (l.take bs) ++ G bs (l.drop bs) := by
  unfold G
  cases hl : l.length with
  | zero => omega
  | succ k =>
    have hd2 : (l.drop bs).length ≤ k := by rw [List.length_drop]; omega
    rw [Gf, if_pos (by omega), Gf_more hb k _ hd2]
theorem G_lt {bs : Nat} (hb : 0 < bs) {l : List Pt} (h : l.length ≤ bs) : G bs l = srt l := by
  rcases Nat.lt_or_ge l.length bs with h1 | h1
  · unfold G
    cases hl : l.length with
    | zero => rfl
    | succ k => rw [Gf, if_neg (by omega)]
  · have e : l.length = bs := by omega
    rw [G_ge hb h1, List.take_of_length_le (by omega), List.drop_of_length_le (by omega)]
    simp [G, Gf, srt_nil]
theorem G_len {bs : Nat} (hb : 0 < bs) : ∀ l : List Pt, (G bs l).length = l.length := fun l => by
  induction hk : l.length using Nat.strongRecOn generalizing l with
  | _ k ih =>
    rcases Nat.lt_or_ge l.length bs with h1 | h1
    · rw [G_lt hb (by omega), srt_len, hk]
    · rw [G_ge hb h1, List.length_append, srt_len, ih (l.drop bs).length (by rw [List.length_drop]; omega) _ rfl, List.length_take, List.length_drop]
      omega
end
section
def sw (l : List Pt) (i j : Nat) : List Pt := (l.set i (l.getD j default)).set j (l.getD i default)
theorem sw_len (l : List Pt) (i j : Nat) : (sw l i j).length = l.length := by simp [sw]
def swp (l : List Pt) (p q : Nat) : Nat → List Pt
  | 0 => l
  | k + 1 => sw (swp l p q k) (p + k) (q + k)
theorem swp_len (l : List Pt) (p q : Nat) : ∀ k, (swp l p q k).length = l.length
  | 0 => rfl
  | k + 1 => by rw [swp, sw_len, swp_len l p q k]
theorem sw_comm (l : List Pt) {i j : Nat} (h : i ≠ j) : sw l i j = sw l j i := by
  unfold sw
  rw [List.set_comm _ _ h]
theorem get_mid {X Z : List Pt} {y : Pt} {i : Nat} (hi : i = X.length) : (X ++ y :: Z)[i]? = some y := by
  subst hi
  simp
theorem set_mid {X Z : List Pt} {y z : Pt} {i : Nat} (hi : i = X.length) : (X ++ y :: Z).set i z = X ++ z :: Z := by
  subst hi
  simp
theorem sw_app {X Y Z : List Pt} {a b : Pt} {i j : Nat} (hi : i = X.length) (hj : j = X.length + 1 + Y.length) : sw (X ++ a :: (Y ++ b :: Z)) i j = X ++ b :: (Y ++ a :: Z) := by
  unfold sw
  have e1 : (X ++ a :: (Y ++ b :: Z)).getD i default = a := by rw [List.getD_eq_getElem?_getD, get_mid hi]; rfl
  have e2 : ∀ c : Pt, X ++ c :: (Y ++ b :: Z) = (X ++ c :: Y) ++ b :: Z := fun c => by simp
  have hj' : ∀ c : Pt, j = (X ++ c :: Y).length := fun c => by simp; omega
  have e3 : (X ++ a :: (Y ++ b :: Z)).getD j default = b := by rw [e2, List.getD_eq_getElem?_getD, get_mid (hj' a)]; rfl
  rw [e1, e3, set_mid hi, e2, set_mid (hj' b)]
  simp
theorem swp_spec {pre A mid B post : List Pt} (h : A.length = B.length) {p q : Nat} (hp : p = pre.length) (hq : q = (pre ++ A ++ mid).length) : ∀ k, k ≤ A.length → swp (pre ++ A ++ mid ++ B ++ post) p q k = (pre ++ B.take k) ++ (A.drop k ++ mid ++ A.take k ++ (B.drop k ++ post))
  | 0, _ => by simp [swp]
  | k + 1, hk => by
    have hkA : k < A.length := by omega
    have hkB : k < B.length := by omega
    have eA : A.drop k = A[k] :: A.drop (k + 1) := List.drop_eq_getElem_cons hkA
    have eB : B.drop k = B[k] :: B.drop (k + 1) := List.drop_eq_getElem_cons hkB
    have tA : A.take (k + 1) = A.take k ++ [A[k]] := List.take_succ_eq_append_getElem hkA
    have tB : B.take (k + 1) = B.take k ++ [B[k]] := List.take_succ_eq_append_getElem hkB
    have lA : (A.take k).length = k := by rw [List.length_take]; omega
    have lB : (B.take k).length = k := by rw [List.length_take]; omega
    have lA2 : (A.drop (k + 1)).length = A.length - (k + 1) := List.length_drop
    rw [swp, swp_spec h hp hq k (by omega), eA, eB, tA, tB]
    generalize A[k] = x at *
    generalize B[k] = y at *
    generalize A.drop (k + 1) = A2 at *
    generalize B.drop (k + 1) = B2 at *
    generalize A.take k = A1 at *
    generalize B.take k = B1 at *
    have e : (pre ++ B1) ++ (x :: A2 ++ mid ++ A1 ++ (y :: B2 ++ post)) = (pre ++ B1) ++ x :: ((A2 ++ mid ++ A1) ++ y :: (B2 ++ post)) := by simp
    rw [e, sw_app (by simp; omega) (by simp at hq ⊢; omega)]
    simp
theorem swp_all {pre A mid B post : List Pt} (h : A.length = B.length) {p q n : Nat} (hp : p = pre.length) (hq : q = (pre ++ A ++ mid).length) (hn : n = A.length) : swp (pre ++ A ++ mid ++ B ++ post) p q n = pre ++ B ++ mid ++ A ++ post := by
  subst hn
  rw [swp_spec h hp hq _ (Nat.le_refl _), List.drop_length, List.take_length, h, List.take_length, List.drop_length]
  simp
theorem srt_snoc {l : List Pt} {x : Pt} (h : Dt (l ++ [x])) : srt (srt l ++ [x]) = srt (l ++ [x]) := by
  have := srt_srt h
  rw [show srt [x] = [x] from srt_of (List.pairwise_singleton _ _)] at this
  exact this
theorem Tg.take {l : List Pt} (h : Tg l) (k : Nat) : Tg (l.take k) := h.sublist (List.take_sublist k l)
theorem Tg.drop {l : List Pt} (h : Tg l) (k : Nat) : Tg (l.drop k) := h.sublist (List.drop_sublist k l)
theorem Tg.lt {l : List Pt} (h : Tg l) {k : Nat} (hk : k < l.length) : ∀ y ∈ l.take k, y.t < l[k].t := fun y hy => by
  obtain ⟨i, hi, rfl⟩ := List.getElem_of_mem hy
  rw [List.length_take] at hi
  rw [List.getElem_take]
  exact List.pairwise_iff_getElem.1 h i k (by omega) hk (by omega)
end
section
open Go.RowKit
def encP (x : Pt) : List AV := [eI x.n, eI x.a, eI x.c]
theorem sw_map {l : List Pt} {i j : Nat} (hi : i < l.length) (hj : j < l.length) : ((l.map encP).set i [eI l[j].n, eI l[j].a, eI l[j].c]).set j [eI l[i].n, eI l[i].a, eI l[i].c] = (sw l i j).map encP := by
  unfold sw
  rw [List.map_set, List.map_set, List.getD_eq_getElem?_getD, List.getD_eq_getElem?_getD, List.getElem?_eq_getElem hi, List.getElem?_eq_getElem hj]
  rfl
theorem drop3 {m : List Pt} {i j : Nat} {a b c : AV} : List.drop 3 (((m.map encP).set i [a, b, c])[j]?.getD []) = [] := by
  cases h : ((m.map encP).set i [a, b, c])[j]? with
  | none => rfl
  | some row =>
    have hm := List.mem_of_getElem? h
    rcases List.mem_or_eq_of_mem_set hm with h1 | h1
    · obtain ⟨x, _, rfl⟩ := List.mem_map.1 h1
      rfl
    · rw [h1]
      rfl
set_option maxRecDepth 100000 in
set_option maxHeartbeats 8000000 in
theorem swapRange_M (l : List Pt) (p q n : Nat) (g : FuncId) (hpq : p + n ≤ q) (hq : q + n ≤ l.length) (hl : l.length ≤ 1000000) : AMut Tryz.prog 162 90 3 (l.map encP) [eI (p : Int), eI (q : Int), eI (n : Int), .fn g []] ((swp l p q n).map encP) := by
  refine amut_of_code mixedT Tryz.func162 rfl (by decide) Tryz.ntmps162 Tryz.results162 rfl (by kernel_rfl) ?_
  (repeat' (first | simp (maxSteps := 5000000) (implicitDefEqProofs := false) only [ruA, ruB, aEv, ASt.put, envOf, Nat.reduceAdd] | (with_reducible refine aIf_split (fun _ => ?_) (fun _ => ?_)) | (with_reducible refine aSel_split (fun _ => ?_) (fun _ => ?_)) | (with_reducible refine aGd_split (fun _ => ?_) (fun _ => ?_))))
  refine aLoop_of (fun st => ∃ k : Nat, k ≤ n ∧ st = ⟨38, [(0, .osl 0), (1, eI (p : Int)), (2, eI (q : Int)), (3, eI (n : Int)), (10, eI (k : Int))], [(0, some (.row 90 3 ((swp l p q k).map encP)))], 1⟩) (fun st => n - slotN st 10) ⟨_, (weak_cut1 (by (first | ((simp only [envIn, tabIn, envLt, tabLt, AObj.lt, AV.lt, ruW, ASt.get, aget, ↓reduceIte, reduceCtorEq, Nat.reduceLT, Nat.reduceEqDiff, eq_self, swp]) <;> (repeat' apply And.intro) <;> first | (rw [wrapK (by omega)]; done) | (simp; done) | omega) | fail))), 0, Nat.zero_le _, rfl⟩ ?_
  rintro _ ⟨k, hk, rfl⟩
  have hlen := swp_len l p q k
  by_cases hlt : k < n
  · have e1 : IntKind.i64.wrap ((p : Int) + (k : Int)) = ((p + k : Nat) : Int) := by rw [wrap_in (by omega) (by omega)]; omega
    have e2 : IntKind.i64.wrap ((q : Int) + (k : Int)) = ((q + k : Nat) : Int) := by rw [wrap_in (by omega) (by omega)]; omega
    have hst : swp l p q (k + 1) = sw (swp l p q k) (p + k) (q + k) := rfl
    obtain ⟨m, hm⟩ : ∃ m, swp l p q k = m := ⟨_, rfl⟩
    rw [hm] at hlen hst ⊢
    have hi : p + k < m.length := by omega
    have hj : q + k < m.length := by omega
    have hsw := sw_map hi hj
    rw [← hst] at hsw
    (repeat' (first | simp (maxSteps := 5000000) (implicitDefEqProofs := false) only [ruA, ruB, aEv, aBin, bin2, ASt.get, aget, ASt.put, ↓reduceIte, Nat.reduceLT, Nat.reduceEqDiff, eq_self, hlt] | (with_reducible refine aIf_split (fun _ => ?_) (fun _ => ?_)) | (with_reducible refine aSel_split (fun _ => ?_) (fun _ => ?_)) | (with_reducible refine aGd_split (fun _ => ?_) (fun _ => ?_))))
    refine aDraw_held [0] [0, 1, 2, 3, 4, 5, 6, 7, 8, 9, 10, 11, 12, 14, 15, 16, 17, 18] (.two 13 (.exec 19 (.take 20 (.exec 21 (.take 22 (.exec 23 .done))))) 19 (.exec 13 (.take 20 (.exec 21 (.take 22 (.exec 23 .done)))))) (by kernel_rfl) (by simp [ATab.get_cons]) ?_
    (repeat' (first | simp (maxSteps := 5000000) (implicitDefEqProofs := false) only [ruA, ruB, aEv, aTake, aLoad, aIndex, aBin, bin2, ASt.get, aget, ASt.put, aCells, oneC, oneCL, treeC, treeL, Value.oneCell', ↓reduceIte, reduceCtorEq, Nat.reduceLT, Nat.reduceEqDiff, Nat.reduceAdd, Nat.reduceLeDiff, eq_self, aExecS, aStoreB, aTakes, aTakeE, aMay, tyE_87, tyA_90, tyS_90, row_at, e1, e2, hi, hj, encP, drop3, List.length_set] | (with_reducible refine aIf_split (fun _ => ?_) (fun _ => ?_)) | (with_reducible refine aSel_split (fun _ => ?_) (fun _ => ?_)) | (with_reducible refine aGd_split (fun _ => ?_) (fun _ => ?_)) | (with_reducible refine aDraw_quiet (by kernel_rfl) ?_) | (with_reducible apply And.intro)))
    all_goals first
      | rfl
      | omega
      | exact roundI (weak_cut1 (by (first | ((simp only [envIn, tabIn, envLt, tabLt, AObj.lt, AV.lt, ruW, ASt.get, aget, ↓reduceIte, reduceCtorEq, Nat.reduceLT, Nat.reduceEqDiff, eq_self, hsw]) <;> (repeat' apply And.intro) <;> first | (rw [wrapK (by omega)]; done) | (simp; done) | omega) | fail))) ⟨k + 1, by omega, rfl⟩ (by simp only [slotN, ruW, ASt.get, aget, ↓reduceIte, Nat.reduceLT, Nat.reduceEqDiff, eq_self]; omega)
      | trace_state
  · obtain rfl : k = n := by omega
    (repeat' (first | simp (maxSteps := 5000000) (implicitDefEqProofs := false) only [ruA, ruB, aEv, aBin, bin2, ASt.get, aget, ASt.put, ↓reduceIte, reduceCtorEq, Nat.reduceLT, Nat.reduceEqDiff, eq_self, hlt, aRetM_n] | (with_reducible refine aIf_split (fun _ => ?_) (fun _ => ?_)) | (with_reducible refine aSel_split (fun _ => ?_) (fun _ => ?_)) | (with_reducible refine aGd_split (fun _ => ?_) (fun _ => ?_)) | (with_reducible refine aDraw_quiet (by kernel_rfl) ?_)))
    all_goals trace_state
set_option maxRecDepth 100000 in
set_option maxHeartbeats 8000000 in
theorem rotate_M (pre L R post : List Pt) (g : FuncId) (a m b : Nat) (ha : a = pre.length) (hm : m = a + L.length) (hb : b = m + R.length) (hL : 0 < L.length) (hR : 0 < R.length) (hl : (pre ++ L ++ R ++ post).length ≤ 1000000) : AMut Tryz.prog 144 90 3 ((pre ++ L ++ R ++ post).map encP) [eI (a : Int), eI (m : Int), eI (b : Int), .fn g []] ((pre ++ R ++ L ++ post).map encP) := by
  have hl0 : pre.length + L.length + R.length + post.length ≤ 1000000 := by simpa [Nat.add_assoc] using hl
  have e1 : IntKind.i64.wrap ((m : Int) - (a : Int)) = ((L.length : Nat) : Int) := by rw [wrap_in (by omega) (by omega)]; omega
  have e2 : IntKind.i64.wrap ((b : Int) - (m : Int)) = ((R.length : Nat) : Int) := by rw [wrap_in (by omega) (by omega)]; omega
  refine amut_of_code mixedT Tryz.func144 rfl (by decide) Tryz.ntmps144 Tryz.results144 rfl (by kernel_rfl) ?_
  (repeat' (first | simp (maxSteps := 5000000) (implicitDefEqProofs := false) only [ruA, ruB, aEv, aBin, bin2, ASt.get, aget, ASt.put, envOf, ↓reduceIte, Nat.reduceLT, Nat.reduceEqDiff, Nat.reduceAdd, eq_self, e1, e2] | (with_reducible refine aIf_split (fun _ => ?_) (fun _ => ?_)) | (with_reducible refine aSel_split (fun _ => ?_) (fun _ => ?_)) | (with_reducible refine aGd_split (fun _ => ?_) (fun _ => ?_))))
  refine aLoop_of (fun st => ∃ (P A B Q : List Pt), 0 < A.length ∧ 0 < B.length ∧ m = P.length + A.length ∧ P.length + A.length + B.length + Q.length ≤ 1000000 ∧ P ++ B ++ A ++ Q = pre ++ R ++ L ++ post ∧ st = ⟨58, [(0, .osl 0), (2, eI (m : Int)), (4, .fn g []), (10, eI (A.length : Int)), (11, eI (B.length : Int))], [(0, some (.row 90 3 ((P ++ A ++ B ++ Q).map encP)))], 1⟩) (fun st => slotN st 10 + slotN st 11) ⟨_, (weak_cut1 (by (first | ((simp only [envIn, tabIn, envLt, tabLt, AObj.lt, AV.lt, AV.ltL, ruW, ASt.get, aget, ↓reduceIte, reduceCtorEq, Nat.reduceLT, Nat.reduceEqDiff, eq_self]) <;> (repeat' apply And.intro) <;> first | (rw [wrapK (by omega)]; done) | (simp; done) | omega) | fail))), pre, L, R, post, hL, hR, by omega, hl0, rfl, rfl⟩ ?_
  rintro _ ⟨P, A, B, Q, hA, hB, hmP, hlen, htar, rfl⟩
  have hll : (P ++ A ++ B ++ Q).length ≤ 1000000 := by simp; omega
  have e3 : IntKind.i64.wrap ((m : Int) - (A.length : Int)) = ((P.length : Nat) : Int) := by rw [wrap_in (by omega) (by omega)]; omega
  by_cases heq : A.length = B.length
  · have d1 : ((A.length : Int) != (B.length : Int)) = false := by simp [heq]
    have hsw : swp (P ++ A ++ B ++ Q) P.length m A.length = pre ++ R ++ L ++ post := by
      rw [show P ++ A ++ B ++ Q = P ++ A ++ [] ++ B ++ Q by simp, swp_all heq rfl (by simp; omega) rfl, ← htar]
      simp
    have hM := swapRange_M (P ++ A ++ B ++ Q) P.length m A.length g (by omega) (by simp; omega) hll
    rw [hsw] at hM
    (repeat' (first | simp (maxSteps := 5000000) (implicitDefEqProofs := false) only [ruA, ruB, aEv, aBin, bin2, ASt.get, aget, ASt.put, ↓reduceIte, reduceCtorEq, Nat.reduceLT, Nat.reduceEqDiff, eq_self, d1, e3] | (with_reducible refine aIf_split (fun _ => ?_) (fun _ => ?_)) | (with_reducible refine aSel_split (fun _ => ?_) (fun _ => ?_)) | (with_reducible refine aGd_split (fun _ => ?_) (fun _ => ?_))))
    refine callM hM (by simp [ATab.get_cons]) (by simp [treeML, treeM, treeL, treeC]) ?_
    (repeat' (first | simp (maxSteps := 5000000) (implicitDefEqProofs := false) only [ruA, ruB, ASt.get, aget, ASt.put, ↓reduceIte, reduceCtorEq, Nat.reduceLT, eq_self, aRetM_n] | (with_reducible refine aIf_split (fun _ => ?_) (fun _ => ?_)) | (with_reducible refine aSel_split (fun _ => ?_) (fun _ => ?_)) | (with_reducible refine aGd_split (fun _ => ?_) (fun _ => ?_)) | (with_reducible refine aDraw_quiet (by kernel_rfl) ?_)))
  · have d1 : ((A.length : Int) != (B.length : Int)) = true := by simp; omega
    by_cases hlt : B.length < A.length
    · have d2 : decide ((B.length : Int) < (A.length : Int)) = true := by simp only [decide_eq_true_eq]; omega
      have d2' : decide (B.length < A.length) = true := by simp only [decide_eq_true_eq]; omega
      have e4 : IntKind.i64.wrap ((A.length : Int) - (B.length : Int)) = ((A.length - B.length : Nat) : Int) := by rw [wrap_in (by omega) (by omega)]; omega
      obtain ⟨A1, A2, rfl, hA1⟩ : ∃ A1 A2, A = A1 ++ A2 ∧ A1.length = B.length := ⟨A.take B.length, A.drop B.length, (List.take_append_drop ..).symm, by rw [List.length_take]; omega⟩
      have hlA : (A1 ++ A2).length = A1.length + A2.length := List.length_append
      rw [hlA] at hmP hlen hA hlt d1 d2 d2' e3 e4 ⊢
      have hsw : swp (P ++ (A1 ++ A2) ++ B ++ Q) P.length m B.length = (P ++ B) ++ A2 ++ A1 ++ Q := by
        rw [show P ++ (A1 ++ A2) ++ B ++ Q = P ++ A1 ++ A2 ++ B ++ Q by simp, swp_all hA1 rfl (by simp; omega) hA1.symm]
      have hM := swapRange_M (P ++ (A1 ++ A2) ++ B ++ Q) P.length m B.length g (by omega) (by simp; omega) hll
      rw [hsw] at hM
      have e5 : A1.length + A2.length - B.length = A2.length := by omega
      rw [e5] at e4
      (repeat' (first | simp (maxSteps := 5000000) (implicitDefEqProofs := false) only [ruA, ruB, aEv, aBin, bin2, ASt.get, aget, ASt.put, ↓reduceIte, reduceCtorEq, Nat.reduceLT, Nat.reduceEqDiff, eq_self, d1, d2', e3] | (with_reducible refine aIf_split (fun _ => ?_) (fun _ => ?_)) | (with_reducible refine aSel_split (fun _ => ?_) (fun _ => ?_)) | (with_reducible refine aGd_split (fun _ => ?_) (fun _ => ?_))))
      refine callM hM (by simp [ATab.get_cons]) (by simp [treeML, treeM, treeL, treeC]) ?_
      (repeat' (first | simp (maxSteps := 5000000) (implicitDefEqProofs := false) only [ruA, ruB, aEv, aBin, bin2, ASt.get, aget, ASt.put, ↓reduceIte, Nat.reduceLT, Nat.reduceEqDiff, eq_self, e4] | (with_reducible refine aIf_split (fun _ => ?_) (fun _ => ?_)) | (with_reducible refine aSel_split (fun _ => ?_) (fun _ => ?_)) | (with_reducible refine aGd_split (fun _ => ?_) (fun _ => ?_))))
      exact roundI (weak_cut1 (by (first | ((simp only [envIn, tabIn, envLt, tabLt, AObj.lt, AV.lt, AV.ltL, ruW, ASt.get, aget, ↓reduceIte, reduceCtorEq, Nat.reduceLT, Nat.reduceEqDiff, eq_self, hA1]) <;> (repeat' apply And.intro) <;> first | (rw [wrapK (by omega)]; done) | (simp; done) | omega) | fail))) ⟨P ++ B, A2, A1, Q, by omega, by omega, by simp; omega, by simp; omega, by rw [← htar]; simp, rfl⟩ (by simp only [slotN, ruW, ASt.get, aget, ↓reduceIte, Nat.reduceLT, Nat.reduceEqDiff, eq_self]; omega)
    · have d2 : decide ((B.length : Int) < (A.length : Int)) = false := by simp only [decide_eq_false_iff_not]; omega
      have d2' : decide (B.length < A.length) = false := by simp only [decide_eq_false_iff_not]; omega
      obtain ⟨B1, B2, rfl, hB2⟩ : ∃ B1 B2, B = B1 ++ B2 ∧ B2.length = A.length := ⟨B.take (B.length - A.length), B.drop (B.length - A.length), (List.take_append_drop ..).symm, by rw [List.length_drop]; omega⟩
      have hlB : (B1 ++ B2).length = B1.length + B2.length := List.length_append
      rw [hlB] at hlen hB hlt d1 d2 d2' ⊢
      have e4 : IntKind.i64.wrap (((B1.length + B2.length : Nat) : Int) - (A.length : Int)) = ((B1.length : Nat) : Int) := by rw [wrap_in (by omega) (by omega)]; omega
      have e5 : IntKind.i64.wrap (IntKind.i64.wrap ((m : Int) + ((B1.length + B2.length : Nat) : Int)) - (A.length : Int)) = ((m + B1.length : Nat) : Int) := by rw [wrap_in (x := (m : Int) + _) (by omega) (by omega), wrap_in (by omega) (by omega)]; omega
      have hsw : swp (P ++ A ++ (B1 ++ B2) ++ Q) P.length (m + B1.length) A.length = P ++ B2 ++ B1 ++ (A ++ Q) := by
        rw [show P ++ A ++ (B1 ++ B2) ++ Q = P ++ A ++ B1 ++ B2 ++ Q by simp, swp_all hB2.symm rfl (by simp; omega) rfl]
        simp
      have hM := swapRange_M (P ++ A ++ (B1 ++ B2) ++ Q) P.length (m + B1.length) A.length g (by omega) (by simp; omega) hll
      rw [hsw] at hM
      (repeat' (first | simp (maxSteps := 5000000) (implicitDefEqProofs := false) only [ruA, ruB, aEv, aBin, bin2, ASt.get, aget, ASt.put, ↓reduceIte, reduceCtorEq, Nat.reduceLT, Nat.reduceEqDiff, eq_self, d1, d2', e3, e5] | (with_reducible refine aIf_split (fun _ => ?_) (fun _ => ?_)) | (with_reducible refine aSel_split (fun _ => ?_) (fun _ => ?_)) | (with_reducible refine aGd_split (fun _ => ?_) (fun _ => ?_))))
      refine callM hM (by simp [ATab.get_cons]) (by simp [treeML, treeM, treeL, treeC]) ?_
      (repeat' (first | simp (maxSteps := 5000000) (implicitDefEqProofs := false) only [ruA, ruB, aEv, aBin, bin2, ASt.get, aget, ASt.put, ↓reduceIte, Nat.reduceLT, Nat.reduceEqDiff, eq_self, e4] | (with_reducible refine aIf_split (fun _ => ?_) (fun _ => ?_)) | (with_reducible refine aSel_split (fun _ => ?_) (fun _ => ?_)) | (with_reducible refine aGd_split (fun _ => ?_) (fun _ => ?_))))
      exact roundI (weak_cut1 (by (first | ((simp only [envIn, tabIn, envLt, tabLt, AObj.lt, AV.lt, AV.ltL, ruW, ASt.get, aget, ↓reduceIte, reduceCtorEq, Nat.reduceLT, Nat.reduceEqDiff, eq_self, hB2]) <;> (repeat' apply And.intro) <;> first | (rw [wrapK (by omega)]; done) | (simp; done) | omega) | fail))) ⟨P, B2, B1, A ++ Q, by omega, by omega, by omega, by simp; omega, by rw [← htar]; simp, rfl⟩ (by simp only [slotN, ruW, ASt.get, aget, ↓reduceIte, Nat.reduceLT, Nat.reduceEqDiff, eq_self]; omega)
end
section
open Go.RowKit
def CmpOk (g : FuncId) : Prop := ∀ x y : Pt, ADet Tryz.prog g [.agg [eI x.n, eI x.a, eI x.c], .agg [eI y.n, eI y.a, eI y.c]] (val (.int .i64 (cmpI x.n y.n)))
theorem cmpI_neg (a b : Int) : decide (cmpI a b < 0) = decide (a < b) := by
  unfold cmpI
  split
  · rename_i h
    simp [h]
  · rename_i h
    split <;> simp [h]
theorem getEl {l : List Pt} {i : Nat} {x : Pt} (h : l[i]? = some x) : ∃ hi : i < l.length, l[i] = x := List.getElem?_eq_some_iff.1 h
set_option maxRecDepth 100000 in
set_option maxHeartbeats 8000000 in
theorem insertion_M (g : FuncId) (hg : CmpOk g) (pre seg post : List Pt) (a b : Nat) (ha : a = pre.length) (hb : b = a + seg.length) (ht : Tg seg) (hl : (pre ++ seg ++ post).length ≤ 1000000) : AMut Tryz.prog 121 90 3 ((pre ++ seg ++ post).map encP) [eI (a : Int), eI (b : Int), .fn g []] ((pre ++ srt seg ++ post).map encP) := by
  have hl0 : pre.length + seg.length + post.length ≤ 1000000 := by simpa [Nat.add_assoc] using hl
  have e1 : IntKind.i64.wrap ((a : Int) + 1) = ((a + 1 : Nat) : Int) := by rw [wrap_in (by omega) (by omega)]; omega
  have hs0 : pre ++ srt (seg.take 1) ++ seg.drop 1 ++ post = pre ++ seg ++ post := by
    have : srt (seg.take 1) = seg.take 1 := by
      match seg with
      | [] => exact srt_nil
      | x :: l => exact srt_of (List.pairwise_singleton _ _)
    rw [this, List.append_assoc pre, List.take_append_drop]
  refine amut_of_code mixedT Tryz.func121 rfl (by decide) Tryz.ntmps121 Tryz.results121 rfl (by kernel_rfl) ?_
  (repeat' (first | simp (maxSteps := 5000000) (implicitDefEqProofs := false) only [ruA, ruB, aEv, aBin, bin2, ASt.get, aget, ASt.put, envOf, ↓reduceIte, Nat.reduceLT, Nat.reduceAdd, eq_self, e1] | (with_reducible refine aIf_split (fun _ => ?_) (fun _ => ?_)) | (with_reducible refine aSel_split (fun _ => ?_) (fun _ => ?_)) | (with_reducible refine aGd_split (fun _ => ?_) (fun _ => ?_))))
  refine aLoop_of (fun st => ∃ k : Nat, 1 ≤ k ∧ (k ≤ seg.length ∨ k = 1) ∧ st = ⟨53, [(0, .osl 0), (1, eI (a : Int)), (2, eI (b : Int)), (3, .fn g []), (8, eI ((a + k : Nat) : Int))], [(0, some (.row 90 3 ((pre ++ srt (seg.take k) ++ seg.drop k ++ post).map encP)))], 1⟩) (fun st => b - slotN st 8) ⟨_, (weak_cut1 (by (first | ((simp only [envIn, tabIn, envLt, tabLt, AObj.lt, AV.lt, AV.ltL, ruW, ASt.get, aget, ↓reduceIte, reduceCtorEq, Nat.reduceLT, Nat.reduceEqDiff, eq_self, hs0]) <;> (repeat' apply And.intro) <;> first | (rw [wrapK (by omega)]; done) | (simp; done) | omega) | fail))), 1, Nat.le_refl _, .inr rfl, rfl⟩ ?_
  rintro _ ⟨k, hk1, hk2, rfl⟩
  by_cases hlt : k < seg.length
  · have d1 : decide (((a + k : Nat) : Int) < (b : Int)) = true := by simp only [decide_eq_true_eq]; omega
    have d1' : decide (a + k < b) = true := by simp only [decide_eq_true_eq]; omega
    have hdrop : seg.drop k = seg[k] :: seg.drop (k + 1) := List.drop_eq_getElem_cons hlt
    have htake : seg.take (k + 1) = seg.take k ++ [seg[k]] := List.take_succ_eq_append_getElem hlt
    have hSl : (srt (seg.take k)).length = k := by rw [srt_len, List.length_take]; omega
    have hSs : Srt (srt (seg.take k)) := srt_sorted (ht.take k).dt
    have hSt : ∀ y ∈ srt (seg.take k), y.t < seg[k].t := fun y hy => ht.lt hlt y (srt_mem.1 hy)
    have hfin : srt (seg.take (k + 1)) = srt (srt (seg.take k) ++ [seg[k]]) := by
      rw [htake, srt_snoc]
      rw [← htake]
      exact (ht.take _).dt
    rw [hdrop]
    generalize hrest : seg.drop (k + 1) = rest at *
    generalize seg[k] = x at *
    generalize hS : srt (seg.take k) = S at *
    have hrl : k + (rest.length + 1) = seg.length := by
      have := congrArg List.length hdrop
      rw [List.length_drop, List.length_cons] at this
      omega
    have hst0 : pre ++ S ++ x :: rest ++ post = pre ++ S.take k ++ x :: (S.drop k ++ rest ++ post) := by
      rw [List.take_of_length_le (by omega), List.drop_of_length_le (by omega)]
      simp
    (repeat' (first | simp (maxSteps := 5000000) (implicitDefEqProofs := false) only [ruA, ruB, aEv, aBin, bin2, ASt.get, aget, ASt.put, ↓reduceIte, Nat.reduceLT, Nat.reduceEqDiff, eq_self, d1'] | (with_reducible refine aIf_split (fun _ => ?_) (fun _ => ?_)) | (with_reducible refine aSel_split (fun _ => ?_) (fun _ => ?_)) | (with_reducible refine aGd_split (fun _ => ?_) (fun _ => ?_))))
    refine aLoop_of (fun st => ∃ q : Nat, q ≤ S.length ∧ (∀ t (h : t < S.length), q ≤ t → x.n < S[t].n) ∧ st = ⟨53, [(0, .osl 0), (1, eI (a : Int)), (2, eI (b : Int)), (3, .fn g []), (8, eI ((a + k : Nat) : Int)), (9, eI ((a + q : Nat) : Int))], [(0, some (.row 90 3 ((pre ++ S.take q ++ x :: (S.drop q ++ rest ++ post)).map encP)))], 1⟩) (fun st => slotN st 9) ⟨_, (weak_cut1 (by (first | ((simp only [envIn, tabIn, envLt, tabLt, AObj.lt, AV.lt, AV.ltL, ruW, ASt.get, aget, ↓reduceIte, reduceCtorEq, Nat.reduceLT, Nat.reduceEqDiff, eq_self, hst0]) <;> (repeat' apply And.intro) <;> first | (rw [wrapK (by omega)]; done) | (simp; done) | omega) | fail))), k, by omega, fun t h h2 => by omega, rfl⟩ ?_
    rintro _ ⟨q, hq, hbig, rfl⟩
    have e2 : IntKind.i64.wrap (((a + k : Nat) : Int) + 1) = ((a + (k + 1) : Nat) : Int) := by rw [wrap_in (by omega) (by omega)]; omega
    have done : (∀ t (h : t < S.length), t < q → ¬ x.n < S[t].n) → pre ++ S.take q ++ x :: (S.drop q ++ rest ++ post) = pre ++ srt (seg.take (k + 1)) ++ rest ++ post := fun h => by
      rw [hfin, ins_last hSs hSt h hbig]
      simp
    cases q with
    | zero =>
      have d2 : decide ((a : Int) < ((a + 0 : Nat) : Int)) = false := by simp
      have d2' : decide (a < a + 0) = false := by simp
      have d2'' : decide (a < a) = false := by simp
      rw [done fun t h h2 => by omega]
      (repeat' (first | simp (maxSteps := 5000000) (implicitDefEqProofs := false) only [ruA, ruB] | (with_reducible refine aIf_split (fun _ => ?_) (fun _ => ?_)) | (with_reducible refine aSel_split (fun _ => ?_) (fun _ => ?_)) | (with_reducible refine aGd_split (fun _ => ?_) (fun _ => ?_))))
      refine aDraw_held [] [0, 1, 2, 3, 4, 5, 6, 7, 8, 9, 10, 11, 12, 13] (.exec 14 (.take 15 (.take 16 .done))) (by kernel_rfl) (by simp [ATab.get_cons]) ?_
      (repeat' (first | simp (maxSteps := 5000000) (implicitDefEqProofs := false) only [ruA, ruB, aEv, aBin, bin2, ASt.get, aget, ASt.put, ↓reduceIte, Nat.reduceLT, Nat.reduceEqDiff, eq_self, aTakes, aTakeE, d2''] | (with_reducible refine aIf_split (fun _ => ?_) (fun _ => ?_)) | (with_reducible refine aSel_split (fun _ => ?_) (fun _ => ?_)) | (with_reducible refine aGd_split (fun _ => ?_) (fun _ => ?_)) | (with_reducible refine aDraw_quiet (by kernel_rfl) ?_)))
      all_goals first
        | exact roundI (weak_cut1 (by (first | ((simp only [envIn, tabIn, envLt, tabLt, AObj.lt, AV.lt, AV.ltL, ruW, ASt.get, aget, ↓reduceIte, reduceCtorEq, Nat.reduceLT, Nat.reduceEqDiff, eq_self, e2, hrest]) <;> (repeat' apply And.intro) <;> first | (rw [wrapK (by omega)]; done) | (simp; done) | omega) | fail))) ⟨k + 1, by omega, .inl (by omega), rfl⟩ (by simp only [slotN, ruW, ASt.get, aget, ↓reduceIte, Nat.reduceLT, Nat.reduceEqDiff, eq_self]; omega)
        | trace_state
    | succ q =>
      have hqS : q < S.length := by omega
      have d2 : decide ((a : Int) < ((a + (q + 1) : Nat) : Int)) = true := by simp only [decide_eq_true_eq]; omega
      have d2' : decide (a < a + (q + 1)) = true := by simp only [decide_eq_true_eq]; omega
      have e3 : IntKind.i64.wrap (((a + (q + 1) : Nat) : Int) - 1) = ((a + q : Nat) : Int) := by rw [wrap_in (by omega) (by omega)]; omega
      have tS : S.take (q + 1) = S.take q ++ [S[q]] := List.take_succ_eq_append_getElem hqS
      have dS : S.drop q = S[q] :: S.drop (q + 1) := List.drop_eq_getElem_cons hqS
      have ltS : (S.take q).length = q := by rw [List.length_take]; omega
      have hyq : ∀ t (h : t < S.length), t ≤ q → S[t].n ≤ S[q].n := fun t h h2 => n_mono hSs h2 hqS
      by_cases hxy : x.n < S[q].n
      · have d3 : decide (cmpI x.n S[q].n < 0) = true := by rw [cmpI_neg]; simpa using hxy
        have hbig2 : ∀ t (h : t < S.length), q ≤ t → x.n < S[t].n := fun t h h2 => by
          rcases Nat.lt_or_ge q t with h3 | h3
          · exact hbig t h h3
          · obtain rfl : q = t := by omega
            exact hxy
        have hnew : pre ++ S.take q ++ x :: (S.drop q ++ rest ++ post) = (pre ++ S.take q) ++ x :: ([] ++ S[q] :: (S.drop (q + 1) ++ rest ++ post)) := by rw [dS]; simp only [List.append_assoc, List.cons_append, List.nil_append]
        have hold : pre ++ S.take (q + 1) ++ x :: (S.drop (q + 1) ++ rest ++ post) = (pre ++ S.take q) ++ S[q] :: ([] ++ x :: (S.drop (q + 1) ++ rest ++ post)) := by rw [tS]; simp only [List.append_assoc, List.cons_append, List.nil_append]
        have hsw := sw_app (X := pre ++ S.take q) (Y := []) (Z := S.drop (q + 1) ++ rest ++ post) (a := S[q]) (b := x) (i := a + q) (j := a + (q + 1)) (by rw [List.length_append]; omega) (by rw [List.length_append]; simp; omega)
        rw [← hold, ← hnew, sw_comm _ (by omega)] at hsw
        obtain ⟨hj, hxj⟩ := getEl (show (pre ++ S.take (q + 1) ++ x :: (S.drop (q + 1) ++ rest ++ post))[a + (q + 1)]? = some x from get_mid (by rw [List.length_append, List.length_take]; omega))
        obtain ⟨hi, hyi⟩ := getEl (show (pre ++ S.take (q + 1) ++ x :: (S.drop (q + 1) ++ rest ++ post))[a + q]? = some S[q] from by rw [hold]; exact get_mid (by rw [List.length_append]; omega))
        generalize S[q] = y at *
        generalize hm : pre ++ S.take (q + 1) ++ x :: (S.drop (q + 1) ++ rest ++ post) = m at *
        have hsm := sw_map hj hi
        rw [hsw, hxj, hyi] at hsm
        have hc := hg x y
        (repeat' (first | simp (maxSteps := 5000000) (implicitDefEqProofs := false) only [ruA] | (with_reducible refine aIf_split (fun _ => ?_) (fun _ => ?_)) | (with_reducible refine aSel_split (fun _ => ?_) (fun _ => ?_)) | (with_reducible refine aGd_split (fun _ => ?_) (fun _ => ?_))))
        refine aDraw_held [] [0, 1, 2, 3, 4, 5, 6, 7, 8, 9, 10, 11, 12, 13] (.exec 14 (.take 15 (.take 16 .done))) (by kernel_rfl) (by simp [ATab.get_cons]) ?_
        (repeat' (first | simp (maxSteps := 5000000) (implicitDefEqProofs := false) only [ruA, ruB, aEv, aTake, aLoad, aIndex, aBin, bin2, ASt.get, aget, ASt.put, ↓reduceIte, reduceCtorEq, Nat.reduceLT, Nat.reduceEqDiff, Nat.reduceAdd, eq_self, aTakes, aFrom, tyE_87, tyA_90, tyS_90, row_at, d2', e3, hj, hi, hxj, hyi, encP] | (with_reducible refine aIf_split (fun _ => ?_) (fun _ => ?_)) | (with_reducible refine aSel_split (fun _ => ?_) (fun _ => ?_)) | (with_reducible refine aGd_split (fun _ => ?_) (fun _ => ?_))))
        refine callV hc ?_
        (repeat' (first | simp (maxSteps := 5000000) (implicitDefEqProofs := false) only [ruA, ruB, aEv, aBin, bin2, ASt.get, aget, ASt.put, ↓reduceIte, Nat.reduceLT, Nat.reduceEqDiff, eq_self, aTakeE, d3] | (with_reducible refine aIf_split (fun _ => ?_) (fun _ => ?_)) | (with_reducible refine aSel_split (fun _ => ?_) (fun _ => ?_)) | (with_reducible refine aGd_split (fun _ => ?_) (fun _ => ?_))))
        refine aDraw_held [0] [0, 1, 2, 3, 4, 5, 6, 7, 8, 10, 11, 12] (.two 9 (.exec 13 (.take 14 (.exec 15 (.take 16 (.exec 17 .done))))) 13 (.exec 9 (.take 14 (.exec 15 (.take 16 (.exec 17 .done)))))) (by kernel_rfl) (by simp [ATab.get_cons]) ?_
        (repeat' (first | simp (maxSteps := 5000000) (implicitDefEqProofs := false) only [ruA, ruB, aEv, aTake, aLoad, aIndex, aBin, bin2, ASt.get, aget, ASt.put, aCells, oneC, oneCL, treeC, treeL, Value.oneCell', ↓reduceIte, reduceCtorEq, Nat.reduceLT, Nat.reduceEqDiff, Nat.reduceAdd, Nat.reduceLeDiff, eq_self, aExecS, aStoreB, aTakes, aTakeE, aMay, tyE_87, tyA_90, tyS_90, row_at, e3, hj, hi, hxj, hyi, encP, drop3, List.length_set] | (with_reducible refine aIf_split (fun _ => ?_) (fun _ => ?_)) | (with_reducible refine aSel_split (fun _ => ?_) (fun _ => ?_)) | (with_reducible refine aGd_split (fun _ => ?_) (fun _ => ?_)) | (with_reducible refine aDraw_quiet (by kernel_rfl) ?_) | (with_reducible apply And.intro)))
        all_goals first
          | rfl
          | omega
          | exact roundI (weak_cut1 (by (first | ((simp only [envIn, tabIn, envLt, tabLt, AObj.lt, AV.lt, AV.ltL, ruW, ASt.get, aget, ↓reduceIte, reduceCtorEq, Nat.reduceLT, Nat.reduceEqDiff, eq_self, hsm]) <;> (repeat' apply And.intro) <;> first | (rw [wrapK (by omega)]; done) | (simp; done) | omega) | fail))) ⟨q, by omega, hbig2, rfl⟩ (by simp only [slotN, ruW, ASt.get, aget, ↓reduceIte, Nat.reduceLT, Nat.reduceEqDiff, eq_self]; omega)
          | trace_state
      · have d3 : decide (cmpI x.n S[q].n < 0) = false := by rw [cmpI_neg]; simpa using hxy
        obtain ⟨hj, hxj⟩ := getEl (show (pre ++ S.take (q + 1) ++ x :: (S.drop (q + 1) ++ rest ++ post))[a + (q + 1)]? = some x from get_mid (by rw [List.length_append, List.length_take]; omega))
        have hold : pre ++ S.take (q + 1) ++ x :: (S.drop (q + 1) ++ rest ++ post) = (pre ++ S.take q) ++ S[q] :: ([] ++ x :: (S.drop (q + 1) ++ rest ++ post)) := by rw [tS]; simp only [List.append_assoc, List.cons_append, List.nil_append]
        obtain ⟨hi, hyi⟩ := getEl (show (pre ++ S.take (q + 1) ++ x :: (S.drop (q + 1) ++ rest ++ post))[a + q]? = some S[q] from by rw [hold]; exact get_mid (by rw [List.length_append]; omega))
        have hdn := done fun t h h2 => by
          have := hyq t h (by omega)
          omega
        clear hold
        generalize S[q] = y at *
        generalize hm : pre ++ S.take (q + 1) ++ x :: (S.drop (q + 1) ++ rest ++ post) = m at *
        have hc := hg x y
        have hmm : m.map encP = (pre ++ srt (seg.take (k + 1)) ++ rest ++ post).map encP := by rw [hdn]
        (repeat' (first | simp (maxSteps := 5000000) (implicitDefEqProofs := false) only [ruA] | (with_reducible refine aIf_split (fun _ => ?_) (fun _ => ?_)) | (with_reducible refine aSel_split (fun _ => ?_) (fun _ => ?_)) | (with_reducible refine aGd_split (fun _ => ?_) (fun _ => ?_))))
        refine aDraw_held [] [0, 1, 2, 3, 4, 5, 6, 7, 8, 9, 10, 11, 12, 13] (.exec 14 (.take 15 (.take 16 .done))) (by kernel_rfl) (by simp [ATab.get_cons]) ?_
        (repeat' (first | simp (maxSteps := 5000000) (implicitDefEqProofs := false) only [ruA, ruB, aEv, aTake, aLoad, aIndex, aBin, bin2, ASt.get, aget, ASt.put, ↓reduceIte, reduceCtorEq, Nat.reduceLT, Nat.reduceEqDiff, Nat.reduceAdd, eq_self, aTakes, aTakeE, aFrom, tyE_87, tyA_90, tyS_90, row_at, d2', e3, hj, hi, hxj, hyi, encP, d3] | (with_reducible refine aIf_split (fun _ => ?_) (fun _ => ?_)) | (with_reducible refine aSel_split (fun _ => ?_) (fun _ => ?_)) | (with_reducible refine aGd_split (fun _ => ?_) (fun _ => ?_)) | (with_reducible refine aDraw_quiet (by kernel_rfl) ?_) | ((with_reducible apply callV); exact (hc)) | ((with_reducible apply callD); exact (hc))))
        all_goals first
          | exact roundI (weak_cut1 (by (first | ((simp only [envIn, tabIn, envLt, tabLt, AObj.lt, AV.lt, AV.ltL, ruW, ASt.get, aget, ↓reduceIte, reduceCtorEq, Nat.reduceLT, Nat.reduceEqDiff, eq_self, e2, hrest, hmm]) <;> (repeat' apply And.intro) <;> first | (rw [wrapK (by omega)]; done) | (simp; done) | omega) | fail))) ⟨k + 1, by omega, .inl (by omega), rfl⟩ (by simp only [slotN, ruW, ASt.get, aget, ↓reduceIte, Nat.reduceLT, Nat.reduceEqDiff, eq_self]; omega)
          | trace_state
  · have d1 : decide (((a + k : Nat) : Int) < (b : Int)) = false := by simp only [decide_eq_false_iff_not]; omega
    have d1' : decide (a + k < b) = false := by simp only [decide_eq_false_iff_not]; omega
    have hfin : pre ++ srt (seg.take k) ++ seg.drop k ++ post = pre ++ srt seg ++ post := by
      rw [List.take_of_length_le (by omega), List.drop_of_length_le (by omega)]
      simp
    rw [hfin]
    (repeat' (first | simp (maxSteps := 5000000) (implicitDefEqProofs := false) only [ruA, ruB, aEv, aBin, bin2, ASt.get, aget, ASt.put, ↓reduceIte, reduceCtorEq, Nat.reduceLT, Nat.reduceEqDiff, eq_self, d1', aRetM_n] | (with_reducible refine aIf_split (fun _ => ?_) (fun _ => ?_)) | (with_reducible refine aSel_split (fun _ => ?_) (fun _ => ?_)) | (with_reducible refine aGd_split (fun _ => ?_) (fun _ => ?_)) | (with_reducible refine aDraw_quiet (by kernel_rfl) ?_)))
end
section
/-- the place at which A is cut, from below and from above -/
def CutLo (A B : List Pt) (M u : Nat) : Prop := ∀ t (h : t < A.length) (h' : M - 1 - t < B.length), M - B.length ≤ t → t < u → ¬ B[M - 1 - t].n < A[t].n
def CutHi (A B : List Pt) (M u : Nat) : Prop := ∀ t (h : t < A.length) (h' : M - 1 - t < B.length), u ≤ t → t < M → B[M - 1 - t].n < A[t].n
theorem cutLo_step {A B : List Pt} (hA : Srt A) (hB : Srt B) {M h : Nat} (hh : h < A.length) (hh' : M - 1 - h < B.length) (hM : h < M) (hc : ¬ B[M - 1 - h].n < A[h].n) : CutLo A B M (h + 1) := fun t ht ht' _ h2 => by
  have h3 := n_mono hA (show t ≤ h by omega) hh
  have h4 := n_mono hB (show M - 1 - h ≤ M - 1 - t by omega) ht'
  omega
theorem cutHi_step {A B : List Pt} (hA : Srt A) (hB : Srt B) {M h : Nat} (hh : h < A.length) (hh' : M - 1 - h < B.length) (hc : B[M - 1 - h].n < A[h].n) : CutHi A B M h := fun t ht ht' h1 h2 => by
  have h3 := n_mono hA h1 ht
  have h4 := n_mono hB (show M - 1 - t ≤ M - 1 - h by omega) hh'
  omega
theorem sym_cut {A B : List Pt} (hA : Srt A) (hB : Srt B) (ht : ∀ x ∈ A, ∀ y ∈ B, x.t < y.t) {M u : Nat} (hlo : M - B.length ≤ u) (hhi : u ≤ M) (hhi2 : u ≤ A.length) (h1 : CutLo A B M u) (h2 : CutHi A B M u) :
    srt (A ++ B) = srt (A.take u ++ B.take (M - u)) ++ srt (A.drop u ++ B.drop (M - u)) := by
  have e := srt_cut (A1 := A.take u) (A2 := A.drop u) (B1 := B.take (M - u)) (B2 := B.drop (M - u)) (by rw [List.take_append_drop]; exact hA) (by rw [List.take_append_drop]; exact hB) (by rw [List.take_append_drop, List.take_append_drop]; exact ht) ?_ ?_
  · rwa [List.take_append_drop, List.take_append_drop] at e
  · intro x hx y hy
    obtain ⟨i, hi, rfl⟩ := List.getElem_of_mem hx
    obtain ⟨j, hj, rfl⟩ := List.getElem_of_mem hy
    rw [List.length_take] at hi
    rw [List.length_drop] at hj
    rw [List.getElem_take, List.getElem_drop]
    have hiA : i < A.length := by omega
    have hjB : M - u + j < B.length := by omega
    have h3 := ht _ (List.getElem_mem hiA) _ (List.getElem_mem hjB)
    have h4 := h1 (u - 1) (by omega) (by omega) (by omega) (by omega)
    have h5 := n_mono hA (show i ≤ u - 1 by omega) (by omega)
    have h6 := n_mono hB (show M - 1 - (u - 1) ≤ M - u + j by omega) hjB
    unfold ltE
    omega
  · intro y hy x hx
    obtain ⟨i, hi, rfl⟩ := List.getElem_of_mem hx
    obtain ⟨j, hj, rfl⟩ := List.getElem_of_mem hy
    rw [List.length_drop] at hi
    rw [List.length_take] at hj
    rw [List.getElem_take, List.getElem_drop]
    have hiA : u + i < A.length := by omega
    have hjB : j < B.length := by omega
    have h4 := h2 u (by omega) (by omega) (Nat.le_refl _) (by omega)
    have h5 := n_mono hA (show u ≤ u + i by omega) hiA
    have h6 := n_mono hB (show j ≤ M - 1 - u by omega) (by omega)
    unfold ltE
    omega
theorem Srt.take {l : List Pt} (h : Srt l) (k : Nat) : Srt (l.take k) := h.sublist (List.take_sublist k l)
theorem Srt.drop {l : List Pt} (h : Srt l) (k : Nat) : Srt (l.drop k) := h.sublist (List.drop_sublist k l)
end
section
open Go.RowKit
theorem u64_in {n : Nat} (h : n ≤ 4000000) : IntKind.u64.wrap (n : Int) = (n : Int) := by simp [IntKind.wrap, IntKind.bits, IntKind.signed]; omega
theorem half_in (x y : Nat) (h : x + y ≤ 4000000) : (if (1 : Int) < 0 then (none : Option Value) else some (Value.int IntKind.u64 ((IntKind.u64.wrap (IntKind.i64.wrap ((x : Int) + (y : Int)))).fdiv (2 ^ min (Int.toNat 1) IntKind.u64.bits)))) = some (.int .u64 (((x + y) / 2 : Nat) : Int)) := by
  rw [if_neg (by decide), wrap_in (by omega) (by omega), show ((x : Int) + (y : Int)) = ((x + y : Nat) : Int) by omega, u64_in h]
  have : ((x + y : Nat) : Int).fdiv (2 ^ min (Int.toNat 1) IntKind.u64.bits) = (((x + y) / 2 : Nat) : Int) := by
    rw [show (2 : Int) ^ min (Int.toNat 1) IntKind.u64.bits = 2 from rfl, Int.fdiv_eq_ediv_of_nonneg _ (by omega)]
    omega
  rw [this]
set_option maxRecDepth 100000 in
set_option maxHeartbeats 8000000 in
theorem symOne_M (g : FuncId) (hg : CmpOk g) (pre B post : List Pt) (x : Pt) (a m b : Nat) (ha : a = pre.length) (hm : m = a + 1) (hb : b = m + B.length) (hB : Srt B) (ht : ∀ y ∈ B, x.t < y.t) (hl : pre.length + B.length + post.length ≤ 1000000) : AMut Tryz.prog 122 90 3 ((pre ++ x :: (B ++ post)).map encP) [eI (a : Int), eI (m : Int), eI (b : Int), .fn g []] ((pre ++ srt ([x] ++ B) ++ post).map encP) := by
  have e0 : IntKind.i64.wrap ((m : Int) - (a : Int)) = 1 := by rw [wrap_in (by omega) (by omega)]; omega
  have d0 : ((1 : Int) == 1) = true := by decide
  obtain ⟨T, hT⟩ : ∃ T, pre ++ srt ([x] ++ B) ++ post = T := ⟨_, rfl⟩
  rw [hT]
  refine amut_of_code mixedT Tryz.func122 rfl (by decide) Tryz.ntmps122 Tryz.results122 rfl (by kernel_rfl) ?_
  (repeat' (first | simp (maxSteps := 5000000) (implicitDefEqProofs := false) only [ruA, ruB, aEv, aBin, bin2, ASt.get, aget, ASt.put, envOf, ↓reduceIte, Nat.reduceLT, Nat.reduceEqDiff, Nat.reduceAdd, eq_self, e0, d0] | (with_reducible refine aIf_split (fun _ => ?_) (fun _ => ?_)) | (with_reducible refine aSel_split (fun _ => ?_) (fun _ => ?_)) | (with_reducible refine aGd_split (fun _ => ?_) (fun _ => ?_))))
  refine aLoop_of (fun st => ∃ i j : Nat, i ≤ j ∧ j ≤ B.length ∧ (∀ t (h : t < B.length), t < i → B[t].n < x.n) ∧ (∀ t (h : t < B.length), j ≤ t → ¬ B[t].n < x.n) ∧ st = ⟨220, [(0, .osl 0), (1, eI (a : Int)), (4, .fn g []), (10, eI ((m + i : Nat) : Int)), (11, eI ((m + j : Nat) : Int))], [(0, some (.row 90 3 ((pre ++ x :: (B ++ post)).map encP)))], 1⟩) (fun st => slotN st 11 - slotN st 10) ⟨_, (weak_cut1 (by (first | ((simp only [envIn, tabIn, envLt, tabLt, AObj.lt, AV.lt, AV.ltL, ruW, ASt.get, aget, ↓reduceIte, reduceCtorEq, Nat.reduceLT, Nat.reduceEqDiff, eq_self, hb]) <;> (repeat' apply And.intro) <;> first | (rw [wrapK (by omega)]; done) | (simp; done) | omega) | fail))), 0, B.length, Nat.zero_le _, Nat.le_refl _, fun t h h2 => by omega, fun t h h2 => by omega, rfl⟩ ?_
  rintro _ ⟨i, j, hij, hjB, h1, h2, rfl⟩
  by_cases hlt : i < j
  · have d1 : decide (((m + i : Nat) : Int) < ((m + j : Nat) : Int)) = true := by simp only [decide_eq_true_eq]; omega
    have d1' : decide (m + i < m + j) = true := by simp only [decide_eq_true_eq]; omega
    have hH := half_in (m + i) (m + j) (by omega)
    obtain ⟨h, hh, hih, hhj⟩ : ∃ h, (m + i + (m + j)) / 2 = m + h ∧ i ≤ h ∧ h < j := ⟨(m + i + (m + j)) / 2 - m, by omega, by omega, by omega⟩
    rw [hh] at hH
    have eH : IntKind.i64.wrap ((m + h : Nat) : Int) = ((m + h : Nat) : Int) := wrap_in (by omega) (by omega)
    have eH1 : IntKind.i64.wrap (((m + h : Nat) : Int) + 1) = ((m + (h + 1) : Nat) : Int) := by rw [wrap_in (by omega) (by omega)]; omega
    have hhB : h < B.length := by omega
    obtain ⟨hia, hxa⟩ := getEl (show (pre ++ x :: (B ++ post))[a]? = some x from get_mid ha)
    obtain ⟨hih2, hyh⟩ := getEl (show (pre ++ x :: (B ++ post))[m + h]? = some B[h] from by
      rw [show pre ++ x :: (B ++ post) = (pre ++ [x]) ++ (B ++ post) by simp, List.getElem?_append_right (by simp; omega), List.getElem?_append_left (by simp; omega), List.getElem?_eq_getElem (by simp; omega)]
      congr 2
      simp
      omega)
    have hc := hg B[h] x
    have hmono1 : ∀ t (h' : t < B.length), t ≤ h → B[t].n ≤ B[h].n := fun t h' h3 => n_mono hB h3 hhB
    have hmono2 : ∀ t (h' : t < B.length), h ≤ t → B[h].n ≤ B[t].n := fun t h' h3 => n_mono hB h3 h'
    by_cases hxy : B[h].n < x.n
    · have d3 : decide (cmpI B[h].n x.n < 0) = true := by rw [cmpI_neg]; simpa using hxy
      have h1' : ∀ t (h' : t < B.length), t < h + 1 → B[t].n < x.n := fun t h' h3 => by have := hmono1 t h' (by omega); omega
      generalize B[h] = y at *
      generalize pre ++ x :: (B ++ post) = l at *
      (repeat' (first | simp (maxSteps := 5000000) (implicitDefEqProofs := false) only [ruA, ruB, aEv, aBin, bin2, aConv, ASt.get, aget, ASt.put, ↓reduceIte, Nat.reduceLT, Nat.reduceEqDiff, eq_self, tyI_3, tyI_165, d1', hH, eH] | (with_reducible refine aIf_split (fun _ => ?_) (fun _ => ?_)) | (with_reducible refine aSel_split (fun _ => ?_) (fun _ => ?_)) | (with_reducible refine aGd_split (fun _ => ?_) (fun _ => ?_))))
      refine aDraw_held [] [0, 1, 2, 3, 4, 5, 6, 7, 8] (.exec 9 (.take 10 .done)) (by kernel_rfl) (by simp [ATab.get_cons]) ?_
      (repeat' (first | simp (maxSteps := 5000000) (implicitDefEqProofs := false) only [ruA, ruB, aEv, aTake, aLoad, aIndex, ASt.get, aget, ASt.put, ↓reduceIte, reduceCtorEq, Nat.reduceLT, Nat.reduceEqDiff, Nat.reduceAdd, eq_self, aTakes, aFrom, tyE_87, tyA_90, tyS_90, row_at, hia, hxa, hih2, hyh, encP] | (with_reducible refine aIf_split (fun _ => ?_) (fun _ => ?_)) | (with_reducible refine aSel_split (fun _ => ?_) (fun _ => ?_)) | (with_reducible refine aGd_split (fun _ => ?_) (fun _ => ?_))))
      refine callV hc ?_
      (repeat' (first | simp (maxSteps := 5000000) (implicitDefEqProofs := false) only [ruA, ruB, aEv, aBin, bin2, ASt.get, aget, ASt.put, ↓reduceIte, Nat.reduceLT, Nat.reduceEqDiff, eq_self, aTakeE, d3, eH1] | (with_reducible refine aIf_split (fun _ => ?_) (fun _ => ?_)) | (with_reducible refine aSel_split (fun _ => ?_) (fun _ => ?_)) | (with_reducible refine aGd_split (fun _ => ?_) (fun _ => ?_))))
      exact roundI (weak_cut1 (by (first | ((simp only [envIn, tabIn, envLt, tabLt, AObj.lt, AV.lt, AV.ltL, ruW, ASt.get, aget, ↓reduceIte, reduceCtorEq, Nat.reduceLT, Nat.reduceEqDiff, eq_self]) <;> (repeat' apply And.intro) <;> first | (rw [wrapK (by omega)]; done) | (simp; done) | omega) | fail))) ⟨h + 1, j, by omega, hjB, h1', h2, rfl⟩ (by simp only [slotN, ruW, ASt.get, aget, ↓reduceIte, Nat.reduceLT, Nat.reduceEqDiff, eq_self]; omega)
    · have d3 : decide (cmpI B[h].n x.n < 0) = false := by rw [cmpI_neg]; simpa using hxy
      have h2' : ∀ t (h' : t < B.length), h ≤ t → ¬ B[t].n < x.n := fun t h' h3 => by have := hmono2 t h' h3; omega
      generalize B[h] = y at *
      generalize pre ++ x :: (B ++ post) = l at *
      (repeat' (first | simp (maxSteps := 5000000) (implicitDefEqProofs := false) only [ruA, ruB, aEv, aBin, bin2, aConv, ASt.get, aget, ASt.put, ↓reduceIte, Nat.reduceLT, Nat.reduceEqDiff, eq_self, tyI_3, tyI_165, d1', hH, eH] | (with_reducible refine aIf_split (fun _ => ?_) (fun _ => ?_)) | (with_reducible refine aSel_split (fun _ => ?_) (fun _ => ?_)) | (with_reducible refine aGd_split (fun _ => ?_) (fun _ => ?_))))
      refine aDraw_held [] [0, 1, 2, 3, 4, 5, 6, 7, 8] (.exec 9 (.take 10 .done)) (by kernel_rfl) (by simp [ATab.get_cons]) ?_
      (repeat' (first | simp (maxSteps := 5000000) (implicitDefEqProofs := false) only [ruA, ruB, aEv, aTake, aLoad, aIndex, ASt.get, aget, ASt.put, ↓reduceIte, reduceCtorEq, Nat.reduceLT, Nat.reduceEqDiff, Nat.reduceAdd, eq_self, aTakes, aFrom, tyE_87, tyA_90, tyS_90, row_at, hia, hxa, hih2, hyh, encP] | (with_reducible refine aIf_split (fun _ => ?_) (fun _ => ?_)) | (with_reducible refine aSel_split (fun _ => ?_) (fun _ => ?_)) | (with_reducible refine aGd_split (fun _ => ?_) (fun _ => ?_))))
      refine callV hc ?_
      (repeat' (first | simp (maxSteps := 5000000) (implicitDefEqProofs := false) only [ruA, ruB, aEv, aBin, bin2, ASt.get, aget, ASt.put, ↓reduceIte, Nat.reduceLT, Nat.reduceEqDiff, eq_self, aTakeE, d3] | (with_reducible refine aIf_split (fun _ => ?_) (fun _ => ?_)) | (with_reducible refine aSel_split (fun _ => ?_) (fun _ => ?_)) | (with_reducible refine aGd_split (fun _ => ?_) (fun _ => ?_))))
      exact roundI (weak_cut1 (by (first | ((simp only [envIn, tabIn, envLt, tabLt, AObj.lt, AV.lt, AV.ltL, ruW, ASt.get, aget, ↓reduceIte, reduceCtorEq, Nat.reduceLT, Nat.reduceEqDiff, eq_self]) <;> (repeat' apply And.intro) <;> first | (rw [wrapK (by omega)]; done) | (simp; done) | omega) | fail))) ⟨i, h, by omega, by omega, h1, h2', rfl⟩ (by simp only [slotN, ruW, ASt.get, aget, ↓reduceIte, Nat.reduceLT, Nat.reduceEqDiff, eq_self]; omega)
  · obtain rfl : i = j := by omega
    have d1 : decide (((m + i : Nat) : Int) < ((m + i : Nat) : Int)) = false := by simp
    have d1' : decide (m + i < m + i) = false := by simp
    have hst0 : pre ++ x :: (B ++ post) = pre ++ B.take 0 ++ x :: (B.drop 0 ++ post) := by simp
    have hfin : T = pre ++ B.take i ++ x :: (B.drop i ++ post) := by
      rw [← hT, ins_first hB ht h1 h2]
      simp
    rw [hfin]
    have eI1 : IntKind.i64.wrap (((m + i : Nat) : Int) - 1) = ((a + i : Nat) : Int) := by rw [wrap_in (by omega) (by omega)]; omega
    (repeat' (first | simp (maxSteps := 5000000) (implicitDefEqProofs := false) only [ruA, ruB, aEv, aBin, bin2, ASt.get, aget, ASt.put, ↓reduceIte, Nat.reduceLT, Nat.reduceEqDiff, eq_self, d1'] | (with_reducible refine aIf_split (fun _ => ?_) (fun _ => ?_)) | (with_reducible refine aSel_split (fun _ => ?_) (fun _ => ?_)) | (with_reducible refine aGd_split (fun _ => ?_) (fun _ => ?_))))
    refine aLoop_of (fun st => ∃ q : Nat, q ≤ i ∧ st = ⟨220, [(0, .osl 0), (10, eI ((m + i : Nat) : Int)), (13, eI ((a + q : Nat) : Int))], [(0, some (.row 90 3 ((pre ++ B.take q ++ x :: (B.drop q ++ post)).map encP)))], 1⟩) (fun st => a + i - slotN st 13) ⟨_, (weak_cut1 (by (first | ((simp only [envIn, tabIn, envLt, tabLt, AObj.lt, AV.lt, ruW, ASt.get, aget, ↓reduceIte, reduceCtorEq, Nat.reduceLT, Nat.reduceEqDiff, eq_self, hst0, Nat.add_zero]) <;> (repeat' apply And.intro) <;> first | (rw [wrapK (by omega)]; done) | (simp; done) | omega) | fail))), 0, Nat.zero_le _, rfl⟩ ?_
    rintro _ ⟨q, hq, rfl⟩
    by_cases hlt2 : q < i
    · have d2 : decide (((a + q : Nat) : Int) < ((a + i : Nat) : Int)) = true := by simp only [decide_eq_true_eq]; omega
      have d2' : decide (a + q < a + i) = true := by simp only [decide_eq_true_eq]; omega
      have e3 : IntKind.i64.wrap (((a + q : Nat) : Int) + 1) = ((a + (q + 1) : Nat) : Int) := by rw [wrap_in (by omega) (by omega)]; omega
      have hqB : q < B.length := by omega
      have tB : B.take (q + 1) = B.take q ++ [B[q]] := List.take_succ_eq_append_getElem hqB
      have dB : B.drop q = B[q] :: B.drop (q + 1) := List.drop_eq_getElem_cons hqB
      have lB : (B.take q).length = q := by rw [List.length_take]; omega
      have hold : pre ++ B.take q ++ x :: (B.drop q ++ post) = (pre ++ B.take q) ++ x :: ([] ++ B[q] :: (B.drop (q + 1) ++ post)) := by rw [dB]; simp only [List.append_assoc, List.cons_append, List.nil_append]
      have hnew : pre ++ B.take (q + 1) ++ x :: (B.drop (q + 1) ++ post) = (pre ++ B.take q) ++ B[q] :: ([] ++ x :: (B.drop (q + 1) ++ post)) := by rw [tB]; simp only [List.append_assoc, List.cons_append, List.nil_append]
      have hsw := sw_app (X := pre ++ B.take q) (Y := []) (Z := B.drop (q + 1) ++ post) (a := x) (b := B[q]) (i := a + q) (j := a + (q + 1)) (by rw [List.length_append]; omega) (by rw [List.length_append]; simp; omega)
      obtain ⟨hi, hxi⟩ := getEl (show (pre ++ B.take q ++ x :: (B.drop q ++ post))[a + q]? = some x from get_mid (by rw [List.length_append]; omega))
      obtain ⟨hj, hyj⟩ := getEl (show (pre ++ B.take q ++ x :: (B.drop q ++ post))[a + (q + 1)]? = some B[q] from by
        rw [hold, show (pre ++ B.take q) ++ x :: ([] ++ B[q] :: (B.drop (q + 1) ++ post)) = ((pre ++ B.take q) ++ [x]) ++ B[q] :: (B.drop (q + 1) ++ post) by simp only [List.append_assoc, List.cons_append, List.nil_append]]
        exact get_mid (by rw [List.length_append, List.length_append]; simp; omega))
      rw [← hold, ← hnew] at hsw
      generalize B[q] = y at *
      generalize hmm : pre ++ B.take q ++ x :: (B.drop q ++ post) = l at *
      have hsm := sw_map hi hj
      rw [hsw, hxi, hyj] at hsm
      (repeat' (first | simp (maxSteps := 5000000) (implicitDefEqProofs := false) only [ruA, ruB, aEv, aBin, bin2, ASt.get, aget, ASt.put, ↓reduceIte, Nat.reduceLT, Nat.reduceEqDiff, eq_self, eI1, d2'] | (with_reducible refine aIf_split (fun _ => ?_) (fun _ => ?_)) | (with_reducible refine aSel_split (fun _ => ?_) (fun _ => ?_)) | (with_reducible refine aGd_split (fun _ => ?_) (fun _ => ?_))))
      refine aDraw_held [0] [0, 1, 2, 3, 4, 5, 6, 7, 8, 10, 11, 12] (.two 9 (.exec 13 (.take 14 (.exec 15 (.take 16 (.exec 17 .done))))) 13 (.exec 9 (.take 14 (.exec 15 (.take 16 (.exec 17 .done)))))) (by kernel_rfl) (by simp [ATab.get_cons]) ?_
      (repeat' (first | simp (maxSteps := 5000000) (implicitDefEqProofs := false) only [ruA, ruB, aEv, aTake, aLoad, aIndex, aBin, bin2, ASt.get, aget, ASt.put, aCells, oneC, oneCL, treeC, treeL, Value.oneCell', ↓reduceIte, reduceCtorEq, Nat.reduceLT, Nat.reduceEqDiff, Nat.reduceAdd, Nat.reduceLeDiff, eq_self, aExecS, aStoreB, aTakes, aTakeE, aMay, tyE_87, tyA_90, tyS_90, row_at, e3, hj, hi, hxi, hyj, encP, drop3, List.length_set] | (with_reducible refine aIf_split (fun _ => ?_) (fun _ => ?_)) | (with_reducible refine aSel_split (fun _ => ?_) (fun _ => ?_)) | (with_reducible refine aGd_split (fun _ => ?_) (fun _ => ?_)) | (with_reducible refine aDraw_quiet (by kernel_rfl) ?_) | (with_reducible apply And.intro)))
      all_goals first
        | rfl
        | omega
        | exact roundI (weak_cut1 (by (first | ((simp only [envIn, tabIn, envLt, tabLt, AObj.lt, AV.lt, ruW, ASt.get, aget, ↓reduceIte, reduceCtorEq, Nat.reduceLT, Nat.reduceEqDiff, eq_self, hsm]) <;> (repeat' apply And.intro) <;> first | (rw [wrapK (by omega)]; done) | (simp; done) | omega) | fail))) ⟨q + 1, by omega, rfl⟩ (by simp only [slotN, ruW, ASt.get, aget, ↓reduceIte, Nat.reduceLT, Nat.reduceEqDiff, eq_self]; omega)
        | trace_state
    · obtain rfl : q = i := by omega
      have d2 : decide (((a + q : Nat) : Int) < ((a + q : Nat) : Int)) = false := by simp
      have d2' : decide (a + q < a + q) = false := by simp
      (repeat' (first | simp (maxSteps := 5000000) (implicitDefEqProofs := false) only [ruA, ruB, aEv, aBin, bin2, ASt.get, aget, ASt.put, ↓reduceIte, reduceCtorEq, Nat.reduceLT, Nat.reduceEqDiff, eq_self, eI1, d2', aRetM_r] | (with_reducible refine aIf_split (fun _ => ?_) (fun _ => ?_)) | (with_reducible refine aSel_split (fun _ => ?_) (fun _ => ?_)) | (with_reducible refine aGd_split (fun _ => ?_) (fun _ => ?_)) | (with_reducible refine aDraw_quiet (by kernel_rfl) ?_)))
end
end Go.Proofs.YtmcegfoaceilgaaGreat
