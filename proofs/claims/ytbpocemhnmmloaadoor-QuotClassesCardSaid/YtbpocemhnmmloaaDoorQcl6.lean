/-
  Parts of the proof: AlX, AlM, AlN, NumSortP, QA, QB, QC, QD, QE.
-/
import Derived.Test.YtbpocemhnmmloaaDoorQcl5
import Derived.Lib.SlicesCompact
import Derived.Test.YtbpocemhnmmloaaDoorSortShelf
import Derived.Sort.OwnSortedInts
set_option linter.unusedVariables false
set_option linter.unusedSimpArgs false
namespace Go.Proofs.YtbpocemhnmmloaaDoor
section
open Go.RowKit
theorem weak_frz (st : ASt) (id : Nat) : Weak st (frz1 st id) := fun cx a w L h => ⟨L, (conc_frz1 h id).1, fun b hb => ⟨hb.1, hb.2.1, fun k o hk => by
  unfold frz1 at hk
  split at hk
  · simp only [ATab.get_cons, frzTab_get] at hk
    split at hk
    · cases hk
    · cases hg : st.tab.get k with
      | none => simp [hg] at hk
      | some o' => exact hb.2.2 k o' hg
  · exact hb.2.2 k o hk⟩⟩
end
section
open Go.RowKit

section
variable {P : Program} {cx : Cx} {a : Act} {w w' w'' : World} {st st' : ASt} {tab tab' tab'' : ATab} {L L' L'' : Nat → Value} {nx nx' : Nat}
theorem Fz.refl : Fz w tab L w tab L := ⟨Nat.le_refl _, fun _ _ _ => rfl, fun id o g h1 h2 _ => ⟨id, o, h1, h2⟩⟩
theorem Fz.trans (h : Fz w tab L w' tab' L') (k : Fz w' tab' L' w'' tab'' L'') : Fz w tab L w'' tab'' L'' :=
  ⟨Nat.le_trans h.size k.size,
   fun j hj hn => (k.keep j (Nat.lt_of_lt_of_le hj h.size) fun id o h1 h2 => (h.young id o j h1 h2 hj).elim fun id2 ⟨o2, h3, h4⟩ => hn id2 o2 h3 h4).trans (h.keep j hj hn),
   fun id o g h1 h2 hg => (k.young id o g h1 h2 (Nat.lt_of_lt_of_le hg h.size)).elim fun id2 ⟨o2, h3, h4⟩ => h.young id2 o2 g h3 h4 hg⟩
theorem Fr.fz (h : Fr cx w tab L nx w' tab' L' nx') : Fz w tab L w' tab' L' := ⟨h.size, h.keep, h.young⟩
theorem weak_fz (hw : Weak st st') (h : Conc cx a w st L) : ∃ L', Conc cx a w st' L' ∧ Fz w st.tab L w st'.tab L' := by
  obtain ⟨L', h1, h2⟩ := hw _ _ _ _ h
  refine ⟨L', h1, Nat.le_refl _, fun _ _ _ => rfl, fun id o g h3 h4 h5 => ?_⟩
  refine Classical.byContradiction fun hno => ?_
  have hS : Sx cx w st.tab L g := ⟨h5, ⟨.inr ((h1.lay.objs id o h3).ge h4).1, fun hX => (h1.lay.ex g hX).2 id o h3 h4⟩, fun id2 o2 h6 h7 => hno ⟨id2, o2, h6, h7⟩⟩
  exact (h2 g hS).2.2 id o h3 h4
theorem ops_okZ {ops : Array Oper} {K : ASt → Prop} {Q : Exit → Act → World → Prop} {T : Nat → Prop} : ∀ (l : List Oper) (a : Act) (w : World) (st : ASt) (L : Nat → Value), (∀ o ∈ l, fOp o = true ∧ ∀ t, T t → o.dst ≠ some t) →
    (∀ a' w' st' L', K st' → Conc cx a' w' st' L' → Fz w st.tab L w' st'.tab L' → ActSame T a a' → Q .normal a' w') → Conc cx a w st L → aOps P ops K l st → wpList P ops Q l a w
  | [], a, w, st, L, _, hQ, h, hp => hQ a w st L hp h Fz.refl (.refl a)
  | o :: rest, a, w, st, L, hf, hQ, h, hp => by
    unfold aOps at hp
    obtain ⟨hfo, hdo⟩ := hf o (List.mem_cons_self ..)
    have hrest := fun o' (ho' : o' ∈ rest) => hf o' (List.mem_cons_of_mem _ ho')
    refine wpList_step fun K' hK' => ?_
    rcases guard_ok h hp o rfl with ⟨hw, st1, h1, h2, e1, e2⟩ | ⟨hw, st1, h1, h2, e1, e2⟩
    · rw [if_pos hw]
      refine Oper.wp_mono (fun a' w' ⟨⟨st2, L2, h3, h4, h5, h6⟩, h7⟩ => hK' a' w' (ops_okZ rest a' w' st2 L2 hrest (fun a3 w3 st3 L3 h8 h9 h10 h11 => hQ a3 w3 st3 L3 h8 h9 ?_ (ActSame.trans ⟨h6, h7⟩ h11)) h4 h3)) (wp_slots hdo (op_okF h2 h1 hfo))
      have h5 := h5.fz
      rw [e1] at h5
      exact h5.trans h10
    · rw [if_neg (by simp [hw])]
      refine hK' _ _ (ops_okZ rest _ w _ L hrest (fun a3 w3 st3 L3 h8 h9 h10 h11 => hQ a3 w3 st3 L3 h8 h9 ?_ (((ActSame.refl a).put hdo).trans h11)) (skip_conc h2 o.dst) h1)
      rw [put_tab, e1] at h10
      exact h10
theorem Fz.below (hy : ∀ id o g, tab.get id = some o → vblk (L id) = some g → g < w.heap.size) (hb : Below w.heap.size w w') : Fz w tab L w' tab L := ⟨hb.size, fun k hk _ => hb.block k hk, fun id o g h1 h2 _ => ⟨id, o, h1, h2⟩⟩
/-- code whose regions go in order, and that does not put into slot t -/
def zCode (t : Nat) : Code → Bool
  | .skip => true
  | .region _ ops _ => ops.toList.all fun o => fOp o && !(o.dst == some t)
  | .seq x y => zCode t x && zCode t y
  | .cond _ x y => zCode t x && zCode t y
  | .block _ x => zCode t x
  | .loop x => zCode t x
  | .exit _ => true
  | .ret => true
  | .label _ => true
  | .scope x => zCode t x
  | _ => false
abbrev AfterZ (cx : Cx) (a : Act) (w : World) (tab : ATab) (L : Nat → Value) (t : Nat) (Q : Exit → ASt → Prop) : Exit → Act → World → Prop := fun e a' w' => ∃ st' L', Q e st' ∧ Conc cx a' w' st' L' ∧ Fz w tab L w' st'.tab L' ∧ ActSame (fun k => k = t) a a'
theorem code_okZ (hm : P.follows .mixedOrders = true) (t : Nat) : ∀ (c : Code), zCode t c = true → ∀ (Q : Exit → ASt → Prop) (a : Act) (w : World) (st : ASt) (L : Nat → Value), Conc cx a w st L → aCode P c Q st → c.wp P (AfterZ cx a w st.tab L t Q) a w := by
  intro c
  induction c with
  | skip => exact fun _ Q a w st L h hp => wp_skip ⟨st, L, hp, h, Fz.refl, .refl a⟩
  | region id ops draw =>
    intro hf Q a w st L h hp
    unfold aCode aReg at hp
    simp only [zCode, List.all_eq_true, Bool.and_eq_true] at hf
    have hf : ∀ o ∈ ops.toList, fOp o = true ∧ ∀ k, k = t → o.dst ≠ some k := fun o ho => ⟨(hf o ho).1, fun k hk => by subst hk; simpa using (hf o ho).2⟩
    have hT : ∀ (i : Nat) (o : Oper), ops[i]? = some o → ∀ k, k = t → o.dst ≠ some k := fun i o ho => (hf o (Array.mem_toList_iff.2 (Array.mem_of_getElem? ho))).2
    have hyg : ∀ id o g, st.tab.get id = some o → vblk (L id) = some g → g < w.heap.size := fun id o g h1 h2 => ((h.lay.objs id o h1).ge h2).2
    cases draw with
    | false => exact wp_region_list (ops_okZ (T := fun k => k = t) _ a w st L hf (fun a' w' st' L' h1 h2 h3 h4 => ⟨st', L', h1, h2, h3, h4⟩) h (by simpa using hp))
    | true =>
      simp only [if_true] at hp
      obtain ⟨l⟩ := ops
      rcases hp with ⟨hB, hp⟩ | ⟨n, hB, hp⟩ | ⟨ids, hd, s, hB, K', hK', hids, hp⟩
      · exact wp_region_quiet (C := fun w' => Below w.heap.size w w') hm hB ((Below.refl _ _).drew) (dops_ok (L := L) (T := fun k => k = t) (a0 := a) (tab0 := st.tab) (fun a' st' h1 h2 h3 h4 w' hw' => ⟨st', L, h1, conc_below h2 hw', by rw [h3]; exact Fz.below hyg hw', h4⟩) _ _ _ (fun o ho => (hf o ho).2) rfl (.refl a) h hp)
      · have h' : Conc cx a w.drew st L := conc_below h ((Below.refl _ _).drew)
        have hz : Fz w st.tab L w.drew st.tab L := Fz.below hyg ((Below.refl _ _).drew)
        exact wp_region_still_tail n hm hB (pops_ok (T := fun k => k = t) (a0 := a) (tab0 := st.tab) (fun a' st' h1 h2 h3 h4 => ops_okZ (T := fun k => k = t) _ a' w.drew st' L (fun o ho => hf o (List.mem_of_mem_drop ho)) (fun a2 w2 st2 L2 h5 h6 h7 h8 => ⟨st2, L2, h5, h6, hz.trans (by rw [← h3]; exact h7), h4.trans h8⟩) h2 h1) _ _ _ (fun o ho => (hf o (List.mem_of_mem_take ho)).2) rfl (.refl a) h' hp)
      · simp only [Bool.and_eq_true] at hB
        have hB := And.intro hB.1 (Nat.le_of_ble_eq_true hB.2)
        have h' : Conc cx a w.drew st L := conc_below h ((Below.refl _ _).drew)
        let G : Nat → Prop := fun k => ∃ id ∈ ids, vblk (L id) = some k
        refine Code.wp_mono (Q := noPanic (AfterZ cx a w st.tab L t Q)) (fun e a w hq => ?_) (wp_region_held (S := fun w' => KeepX w.drew.heap.size G w.drew w') hm ?_)
        · cases e <;> first | exact hq | exact hq.elim
        · refine heldH_ok (T := st.tab) (Tz := fun k => k = t) (a0 := a) (nx := st.next) (ids := ids) hB.1.1 hT s ⟨Nat.le_refl _, fun _ _ _ => rfl⟩ (fun w' b hw' hb o u hu => ?_) (fun listed a' st' hA hT' hN hB' hK h2 fuel hf' => ?_) hd _ _ _ (.refl a) h' rfl rfl hB.1.2 hp _ hB.2
          · have hlt := World.block_lt_of_cell? w.drew _ hu
            refine (World.cell?_of_block (hw'.block b hlt fun ⟨id, hid, hbl⟩ => ?_)).trans hu
            obtain ⟨ob, hob⟩ := Option.isSome_iff_exists.1 (hids id hid)
            rcases hb with hb | ⟨id', o', hni, hget, hbl'⟩
            · exact hb.2.2 id ob hob hbl
            · exact hni (h.lay.sep id' id o' ob b hget hob hbl' hbl ▸ hid)
          · refine held_ok (Q := AfterZ cx a w st.tab L t Q) (T0 := st.tab) (T := fun k => k = t) (a0 := a) (L0 := L) hB.1.1 hT (fun a2 w2 st2 L2 h3 h4 h5 h6 h7 h8 => ?_) s listed a' w.drew st' L h2 ⟨Nat.le_refl _, fun _ _ _ => rfl⟩ (fun id o g h3 h4 _ => by
              rw [hT'] at h4
              have := (h.young id o h4).1
              omega) (fun id hid g hg => ⟨id, hid, hg⟩) (fun id hid => by
              obtain ⟨ob, hob⟩ := Option.isSome_iff_exists.1 (hids id hid)
              rw [hN]
              exact (h.young id ob hob).1) ⟨fun _ _ => rfl, by rw [hN]; exact Nat.le_refl _, fun id o _ hg => ⟨o, by rw [← hT']; exact hg⟩, fun id o g _ hni hg hbl => ?_⟩ hA hB' hK fuel hf'
            · obtain ⟨st3, hw3, h9⟩ := hK' st2 h3
              obtain ⟨L3, h10, h11⟩ := weak_fz hw3 h4
              have hG : ∀ k, G k → ∃ id o, st.tab.get id = some o ∧ vblk (L id) = some k := fun k ⟨id, hid, hbl⟩ => (Option.isSome_iff_exists.1 (hids id hid)).elim fun ob hob => ⟨id, ob, hob, hbl⟩
              have hz : Fz w st.tab L w2 st2.tab L2 := by
                have hsz : w.drew.heap.size = w.heap.size := rfl
                refine ⟨h5.size, fun k hk hn => h5.block k hk fun hg => ?_, fun id o g h12 h13 h14 => ?_⟩
                · obtain ⟨id, ob, h12, h13⟩ := hG k hg
                  exact hn id ob h12 h13
                · rcases Nat.lt_or_ge id st.next with hlt | hge
                  · obtain ⟨o', ho'⟩ := h7.old id o hlt h12
                    exact ⟨id, o', ho', by rw [← h7.loc id hlt]; exact h13⟩
                  · rcases h6 id o g hge h12 h13 with h15 | h15
                    · have : w.heap.size ≤ g := h15
                      omega
                    · exact hG g h15
              exact ⟨st3, L3, h9, h10, hz.trans h11, h8⟩
            · refine ⟨((h'.lay.objs id _ hg).ge hbl).2, fun ⟨id', hid', hbl'⟩ => hni ?_⟩
              obtain ⟨ob, hob⟩ := Option.isSome_iff_exists.1 (hids id' hid')
              exact h.lay.sep id id' _ ob g hg hob hbl hbl' ▸ hid'
  | seq x y ihx ihy =>
    intro hf Q a w st L h hp
    simp only [zCode, Bool.and_eq_true] at hf
    unfold aCode at hp
    refine wp_seq (Code.wp_mono (fun e a' w' ⟨st', L', h1, h2, h3, h4⟩ => ?_) (ihx hf.1 _ a w st L h hp))
    cases e with
    | normal => exact Code.wp_mono (fun e a2 w2 ⟨st2, L2, k1, k2, k3, k4⟩ => ⟨st2, L2, k1, k2, h3.trans k3, h4.trans k4⟩) (ihy hf.2 Q a' w' st' L' h2 h1)
    | _ => exact ⟨st', L', h1, h2, h3, h4⟩
  | cond c x y ihx ihy =>
    intro hf Q a w st L h hp
    simp only [zCode, Bool.and_eq_true] at hf
    unfold aCode aCond at hp
    split at hp
    · rename_i b hb
      have hv := (eval_ok h c).1
      rw [hb] at hv
      have hv := hv.c_inv
      cases b
      · exact wp_cond_false hv (ihy hf.2 Q a w st L h hp)
      · exact wp_cond_true hv (ihx hf.1 Q a w st L h hp)
    · exact hp.elim
  | block id x ih =>
    intro hf Q a w st L h hp
    simp only [zCode] at hf
    unfold aCode at hp
    refine wp_block (Code.wp_mono (fun e a' w' ⟨st', L', h1, h2, h3⟩ => ?_) (ih hf _ a w st L h hp))
    cases e with
    | exit id' =>
      simp only [aInBlock, Exit.inBlock] at h1 ⊢
      split
      · rename_i e
        rw [if_pos e] at h1
        exact ⟨st', L', h1, h2, h3⟩
      · rename_i e
        rw [if_neg e] at h1
        exact ⟨st', L', h1, h2, h3⟩
    | _ => exact ⟨st', L', h1, h2, h3⟩
  | loop x ih =>
    intro hf Q a0 w0 st0 L0 h hp
    simp only [zCode] at hf
    unfold aCode at hp
    obtain ⟨I, μ, ⟨st1, hw1, hI⟩, hr⟩ := hp
    let p : Act → World → Nat → Prop := fun a w n => ∃ st L, I st ∧ Conc cx a w st L ∧ (Fz w0 st0.tab L0 w st.tab L ∧ ActSame (fun k => k = t) a0 a) ∧ μ st = n
    obtain ⟨L1, hL1, hz1⟩ := weak_fz hw1 h
    refine wp_loop (fun a w => ∃ n, p a w n) (fun a w => least (p a w)) ⟨_, st1, L1, hI, hL1, ⟨hz1, .refl a0⟩, rfl⟩ fun a w hpa => ?_
    obtain ⟨⟨st, L, h1, h2, ⟨h3, h3a⟩, h4⟩, _⟩ := least_spec hpa
    refine Code.wp_mono (fun e a' w' ⟨st', L', h5, h6, h7, h8⟩ => ?_) (ih hf _ a w st L h2 (hr st h1))
    cases e with
    | normal =>
      obtain ⟨st'', hw, hI'', hlt⟩ := h5
      obtain ⟨L1, hL1, hz1⟩ := weak_fz hw h6
      have hpn : p a' w' (μ st'') := ⟨st'', L1, hI'', hL1, ⟨(h3.trans h7).trans hz1, h3a.trans h8⟩, rfl⟩
      refine ⟨⟨_, hpn⟩, ?_⟩
      have := (least_spec ⟨_, hpn⟩).2 _ hpn
      show least (p a' w') < least (p a w)
      omega
    | _ => exact ⟨st', L', h5, h6, h3.trans h7, h3a.trans h8⟩
  | exit id => exact fun _ Q a w st L h hp => wp_exit ⟨st, L, hp, h, Fz.refl, .refl a⟩
  | ret => exact fun _ Q a w st L h hp => wp_ret ⟨st, L, hp, h, Fz.refl, .refl a⟩
  | label l => exact fun _ Q a w st L h hp => wp_label ⟨st, L, hp, h, Fz.refl, .refl a⟩
  | scope x ih =>
    intro hf Q a w st L h hp
    simp only [zCode] at hf
    unfold aCode at hp
    refine wp_scope_straight (Code.wp_mono (fun e a' w' ⟨st', L', h1, h2⟩ => ?_) (ih hf _ a w st L h hp))
    cases e with
    | goto l => exact h1
    | _ => exact ⟨st', L', h1, h2⟩
  | _ => exact fun hf => (by cases hf)
end
theorem callM {P : Program} {st : ASt} {g : FuncId} {K : AV → ASt → Prop} {id e sz : Nat} {rows rows' : List (List AV)} {rest : List AV} (h : AMut P g e sz rows rest rows') (hid : st.tab.get id = some (.row e sz rows)) (ht : treeML rest) (hk : K (.tup []) { st with tab := (id, some (.row e sz rows')) :: st.tab }) : aCall none P st g (.osl id :: rest) K :=
  .inr (.inl ⟨rfl, .inl (.inr (.inl ⟨id, e, sz, rows, rows', rest, rfl, hid, ht, h, hk⟩))⟩)
end
section
open Go.RowKit
/-- these slots, as they stand -/
def liveEnv (st : ASt) (ts : List Nat) : List (Nat × AV) := ts.map fun t => (t, st.get t)
theorem aget_live (st : ASt) (t : Nat) : ∀ ts : List Nat, aget (liveEnv st ts) t = st.get t ∨ aget (liveEnv st ts) t = .any
  | [] => .inr rfl
  | k :: ts => by
    show (if t = k then st.get k else aget (liveEnv st ts) t) = _ ∨ (if t = k then st.get k else aget (liveEnv st ts) t) = _
    split
    · rename_i e
      subst e
      exact .inl rfl
    · exact aget_live st t ts
theorem live_nil (st : ASt) : liveEnv st [] = [] := rfl
theorem live_cons (st : ASt) (t : Nat) (ts : List Nat) : liveEnv st (t :: ts) = (t, st.get t) :: liveEnv st ts := rfl
/-- back in the caller: what the call had of its own is numbered anew -/
def aBack (vs : Array Value) (n nx g : Nat) (K : AV → ASt → Prop) (st : ASt) (av : AV) : Prop :=
  match st.tab.get g with
  | some (.ghost vs' env) => vs' = vs ∧ K (av.shift nx) ⟨n, shiftEnv nx env, (g + nx, none) :: st.tab.shift nx, nx + st.next⟩
  | _ => False
def aRetI (P : Program) (rs : List ResultVar) (vs : Array Value) (n nx g : Nat) (K : AV → ASt → Prop) : Exit → ASt → Prop
  | .normal, st => aResL P st rs fun avs => aBack vs n nx g K st (aOne avs)
  | .ret, st => aResL P st rs fun avs => aBack vs n nx g K st (aOne avs)
  | _, _ => False
section
variable {P : Program} {rs : List ResultVar} {vs : Array Value} {n nx g k i : Nat} {K : AV → ASt → Prop} {st : ASt} {o : AObj} {T : ATab}
theorem aRetI_n : aRetI P rs vs n nx g K .normal st = aResL P st rs fun avs => aBack vs n nx g K st (aOne avs) := rfl
theorem aRetI_r : aRetI P rs vs n nx g K .ret st = aResL P st rs fun avs => aBack vs n nx g K st (aOne avs) := rfl
theorem shiftT_nil : ATab.shift k [] = [] := rfl
theorem shiftT_some : ATab.shift k ((i, some o) :: T) = (i + k, some (o.shift k)) :: ATab.shift k T := rfl
theorem shiftT_none : ATab.shift k ((i, none) :: T) = (i + k, none) :: ATab.shift k T := rfl
end
theorem objLt_mono {n m : Nat} (hnm : n ≤ m) : ∀ {o : AObj}, o.lt n → o.lt m
  | .box _ _, h => ltL_iff.2 fun x hx => AV.lt_mono hnm (ltL_iff.1 h x hx)
  | .row _ _ _, _ => trivial
  | .map _, _ => trivial
  | .nest _ _ _, h => fun row hr => ltL_iff.2 fun x hx => AV.lt_mono hnm (ltL_iff.1 (h row hr) x hx)
  | .ghost _ _, h => envLt_mono hnm h
theorem objLt_shift {n k : Nat} : ∀ {o : AObj}, o.lt n → (o.shift k).lt (k + n)
  | .box _ cells, h => by
    show AV.ltL _ (AV.shiftL k cells)
    rw [shiftL_map]
    refine ltL_iff.2 fun x hx => ?_
    obtain ⟨y, hy, rfl⟩ := List.mem_map.1 hx
    exact lt_shift (ltL_iff.1 h y hy)
  | .row _ _ _, _ => trivial
  | .map _, _ => trivial
  | .nest _ _ rows, h => by
    intro row hr
    obtain ⟨r, hr', rfl⟩ := List.mem_map.1 hr
    rw [shiftL_map]
    refine ltL_iff.2 fun x hx => ?_
    obtain ⟨y, hy, rfl⟩ := List.mem_map.1 hx
    exact lt_shift (ltL_iff.1 (h r hr') y hy)
  | .ghost _ _, h => envLt_shift h
theorem shift_sz (k : Nat) (o : AObj) : (o.shift k).sz = o.sz := by cases o <;> simp [AObj.shift, AObj.sz, shiftL_map]
theorem envLt_live {cx : Cx} {a : Act} {w : World} {st : ASt} {L : Nat → Value} (h : Conc cx a w st L) : ∀ ts : List Nat, envLt st.next (liveEnv st ts)
  | [] => trivial
  | t :: ts => ⟨(h.env t).2, envLt_live h ts⟩
section
variable {P : Program} {cx : Cx} {a : Act} {w : World} {st : ASt} {L : Nat → Value}
theorem resL_okL (h : Conc cx a w st L) : ∀ (l : List ResultVar) (K : List AV → Prop), aResL P st l K →
    ∃ vs avs, K avs ∧ vs.length = avs.length ∧ AV.ltL st.next avs ∧ (∀ (j : Nat) (v : Value) (av : AV), vs[j]? = some v → avs[j]? = some av → RVx cx w st.tab L v av) ∧
      (l.mapM (resVar a.tmps) : Sem (List Value)).run P w = .ok vs w
  | [], K, hp => ⟨[], [], hp, rfl, trivial, by simp, by simp⟩
  | .tmp t :: l, K, hp => by
    obtain ⟨vs, avs, h1, h2, hl, h3, h4⟩ := resL_okL h l _ hp
    refine ⟨a.tmps.getD t undef :: vs, st.get t :: avs, h1, by simp [h2], ⟨(h.env t).2, hl⟩, fun j v av h5 h6 => ?_, ?_⟩
    · cases j with
      | zero =>
        cases h5
        cases h6
        exact (h.env t).1
      | succ j => exact h3 j v av (by simpa using h5) (by simpa using h6)
    · simp only [List.mapM_cons, resVar, Sem.run_bind, Sem.run_pure, Result.andThen_ok, h4]
  | .cell p ty :: l, K, hp => by
    obtain ⟨u, au, h1, h2, h3, h4⟩ := (load_ok (nx := st.next) h.lay (fun id o hid => (h.young id o hid).2) (h.env p).1 hp).one
    obtain ⟨vs, avs, h5, h6, hl, h7, h8⟩ := resL_okL h l _ h1
    refine ⟨u :: vs, au :: avs, h5, by simp [h6], ⟨h3, hl⟩, fun j v av h9 h10 => ?_, ?_⟩
    · cases j with
      | zero =>
        cases h9
        cases h10
        exact h2
      | succ j => exact h7 j v av (by simpa using h9) (by simpa using h10)
    · have := asAddr_of_load (h4 w (Below.refl _ _))
      simp only [List.mapM_cons, resVar]
      rw [Sem.run_bind, this]
      simp only [Sem.run_bind, Sem.run_pure, Result.andThen_ok, h8]
theorem res_okL {fn : Func} {K : AV → Prop} (h : Conc cx a w st L) (hp : aResL P st fn.results.toList fun avs => K (aOne avs)) : ∃ v av, K av ∧ RVx cx w st.tab L v av ∧ av.lt st.next ∧ (results fn a.tmps).run P w = .ok v w := by
  obtain ⟨vs, avs, h1, h2, hl, h3, h4⟩ := resL_okL h _ _ hp
  have hm : (results fn a.tmps).run P w = .ok (if h : vs.toArray.size = 1 then vs.toArray[0] else .tuple vs.toArray) w := by
    rw [results_eq, Sem.run_bind, Array.mapM_eq_mapM_toList]
    simp only [bind_pure_comp, Sem.run_map, h4]
    rfl
  refine ⟨_, aOne avs, h1, ?_, ?_, hm⟩
  · clear hm h4 h1 hl
    match vs, avs, h2, h3 with
    | [v], [av], _, h3 => exact h3 0 v av rfl rfl
    | [], [], _, h3 => exact .tup _ _ rfl (by simp)
    | v :: v' :: vs, av :: av' :: avs, h2, h3 =>
      simp only [aOne, List.size_toArray, List.length_cons]
      rw [dif_neg (by omega)]
      exact .tup _ _ (by simpa using h2) fun j x av h4 h5 => h3 j x av (by simpa using h4) h5
  · clear hm h4 h1 h3 h2
    match avs, hl with
    | [av], hl => exact hl.1
    | [], hl => exact hl
    | av :: av' :: avs, hl => exact hl
end
/-- code, as it is, and what lies outside of the call's own stays -/
def SCZ (P : Program) (c : Code) (t : Nat) (Q : Exit → ASt → Prop) (st : ASt) : Prop := ∀ (cx : Cx) (a : Act) (w : World) (L : Nat → Value), Conc cx a w st L → c.wp P (AfterZ cx a w st.tab L t Q) a w
theorem scz_of {P : Program} (hm : P.follows .mixedOrders = true) {c : Code} {t : Nat} (hz : zCode t c = true) {Q : Exit → ASt → Prop} {st : ASt} (h : aCode P c Q st) : SCZ P c t Q st := fun cx a w L hc => code_okZ hm t c hz Q a w st L hc h
theorem inl_of_scz {P : Program} {f : FuncId} {fn : Func} {c : Code} (hf : P.funcs[f]? = some fn) (hb : fn.body = some c) (hname : (fn.name == "runtime.NumGoroutine") = false) {st : ASt} {avs : List AV} {K : AV → ASt → Prop} {n : Nat} (hnt : fn.ntmps = n) {rs : List ResultVar} (hrs : fn.results = rs.toArray)
    (hn : Nat.ble avs.length n = true) (g : Nat) (ts : List Nat)
    (h : ∀ vs : Array Value, SCZ P c n (aRetI P rs vs st.n st.next g K) ⟨n, envOf 0 avs, (st.next, some (.ghost vs (liveEnv st ts))) :: st.tab, st.next + 1⟩) : aInl P st f avs K := by
  have hn := Nat.le_of_ble_eq_true hn
  subst hnt
  refine ⟨fun vs w => ?_, fun cx a w L vs dst hc hvn hv => ?_⟩
  · have : ¬ fn.name = "runtime.NumGoroutine" := by simpa using hname
    simp [callFunc, Sem.run_bind, hf, this, hb]
  obtain ⟨tab2, ht2⟩ : ∃ tab2 : ATab, tab2 = (st.next, some (.ghost a.tmps (liveEnv st ts))) :: st.tab := ⟨_, rfl⟩
  have hget : ∀ id, tab2.get id = if id = st.next then some (.ghost a.tmps (liveEnv st ts)) else st.tab.get id := fun id => by rw [ht2, ATab.get_cons]
  have hnone : ∀ id o, st.next ≤ id → st.tab.get id = some o → False := fun id o h1 h2 => by have := (hc.young id o h2).1; omega
  have hold : ∀ id, id < st.next → tab2.get id = st.tab.get id ∧ updL L st.next (.bool false) id = L id := fun id hid => ⟨by rw [hget, if_neg (by omega)], by unfold updL; rw [if_neg (by omega)]⟩
  have hLG : updL L st.next (.bool false) st.next = .bool false := by unfold updL; rw [if_pos rfl]
  have hge : ∀ id o, st.next ≤ id → tab2.get id = some o → id = st.next ∧ o = .ghost a.tmps (liveEnv st ts) := fun id o h1 h2 => by
    rw [hget] at h2
    split at h2
    · rename_i e
      cases h2
      exact ⟨e, rfl⟩
    · exact (hnone id o h1 h2).elim
  have hnew : ∀ id o b, st.next ≤ id → tab2.get id = some o → vblk (updL L st.next (.bool false) id) = some b → w.heap.size ≤ b := fun id o b h1 h2 h3 => by
    obtain ⟨rfl, _⟩ := hge id o h1 h2
    rw [hLG] at h3
    cases h3
  have hext := ext_merge (cx := cx) (Below.refl w.heap.size w) hold (fun id o hid => (hc.young id o hid).1) hnew
  have hlay : Lay cx w tab2 (updL L st.next (.bool false)) := lay_merge hc.lay hc.young (Below.refl _ _) hold (fun id o h1 h2 => by
      obtain ⟨rfl, rfl⟩ := hge id o h1 h2
      refine ⟨hLG, fun t ht => ?_⟩
      rcases aget_live st t ts with e | e
      · rw [e]
        exact hext.rv (hc.env t).1 (hc.env t).2
      · rw [e]
        exact .tree (.any _)) hnew fun id id' o o' b h1 h2 h3 h4 _ _ => by rw [(hge id o h1 h3).1, (hge id' o' h2 h4).1]
  have hyoung : ∀ id o, tab2.get id = some o → id < st.next + 1 ∧ o.lt (st.next + 1) := fun id o hid => by
    rcases Nat.lt_or_ge id st.next with hlt | hge'
    · rw [(hold id hlt).1] at hid
      have := hc.young id o hid
      exact ⟨by omega, objLt_mono (Nat.le_succ _) this.2⟩
    · obtain ⟨rfl, rfl⟩ := hge id o hge' hid
      exact ⟨Nat.lt_succ_self _, envLt_mono (Nat.le_succ _) (envLt_live hc ts)⟩
  have hC : Conc cx { tmps := vs ++ Array.replicate (fn.ntmps - vs.size) undef, defers := [] } w ⟨fn.ntmps, envOf 0 avs, tab2, st.next + 1⟩ (updL L st.next (.bool false)) := by
    refine ⟨hlay, ?_, Marks.nil _ _ _, hyoung, fun t => ?_⟩
    · simp
      omega
    have e : (⟨fn.ntmps, envOf 0 avs, tab2, st.next + 1⟩ : ASt).get t = avs.getD t .any := by
      show (if t < fn.ntmps then aget (envOf 0 avs) t else .any) = _
      rw [aget_envOf]
      split
      · simp
      · simp [List.getD, List.getElem?_eq_none (show avs.length ≤ t by omega)]
    rw [e]
    by_cases ht : t < avs.length
    · have ht' : t < vs.size := by omega
      have e2 : (vs ++ Array.replicate (fn.ntmps - vs.size) undef).getD t undef = vs[t] := by
        rw [Array.getD_eq_getD_getElem?, Array.getElem?_append_left ht', Array.getElem?_eq_getElem ht']
        rfl
      have e3 : avs.getD t .any = avs[t] := by simp [List.getD, ht]
      rw [e2, e3]
      have := hv t _ _ (Array.getElem?_eq_getElem ht') (List.getElem?_eq_getElem ht)
      exact ⟨hext.rv this.1 this.2, AV.lt_mono (Nat.le_succ _) this.2⟩
    · have e3 : avs.getD t .any = .any := by simp [List.getD, List.getElem?_eq_none (Nat.le_of_not_lt ht)]
      rw [e3]
      exact ⟨.tree (.any _), trivial⟩
  have hcode := h a.tmps
  rw [← ht2] at hcode
  refine calls_of_wp hf hb (Code.wp_mono (fun ex a' w' ⟨st', L', h1, h2, h3, hA⟩ => ?_) (hcode cx _ w _ hC))
  have hown2 : ∀ b, (∀ id o, st.tab.get id = some o → vblk (L id) ≠ some b) → ∀ id o, tab2.get id = some o → vblk (updL L st.next (.bool false) id) ≠ some b := fun b hb id o hid hg => by
    rcases Nat.lt_or_ge id st.next with hlt | hge'
    · rw [(hold id hlt).1] at hid
      rw [(hold id hlt).2] at hg
      exact hb id o hid hg
    · obtain ⟨rfl, _⟩ := hge id o hge' hid
      rw [hLG] at hg
      cases hg
  have hback : ∀ id o b, tab2.get id = some o → vblk (updL L st.next (.bool false) id) = some b → ∃ id2 o2, st.tab.get id2 = some o2 ∧ vblk (L id2) = some b := fun id o b hid hg => by
    rcases Nat.lt_or_ge id st.next with hlt | hge'
    · rw [(hold id hlt).1] at hid
      rw [(hold id hlt).2] at hg
      exact ⟨id, o, hid, hg⟩
    · obtain ⟨rfl, _⟩ := hge id o hge' hid
      rw [hLG] at hg
      cases hg
  have key : (aResL P st' rs fun avs => aBack a.tmps st.n st.next g K st' (aOne avs)) → a'.defers = [] ∧ ∃ u, (results fn a'.tmps).run P w' = .ok u w' ∧ ∃ v av st'' L'', Ending.returned u = .returned v ∧ K av st'' ∧ Conc cx (a.put dst v) w' (st''.put dst av) L'' ∧ Fr cx w st.tab L st.next w' st''.tab L'' st''.next := fun h1 => by
    obtain ⟨v, av, hbk, hrv, hlv, hrun⟩ := res_okL (K := fun av => aBack a.tmps st.n st.next g K st' av) (fn := fn) h2 (by rw [hrs]; exact h1)
    refine ⟨hA.defers, v, hrun, ?_⟩
    unfold aBack at hbk
    split at hbk
    case h_2 => exact hbk.elim
    rename_i vs' env hg
    obtain ⟨rfl, hK⟩ := hbk
    obtain ⟨_, hgh⟩ := h2.lay.objs g _ hg
    have hghl := (h2.young g _ hg).2
    obtain ⟨tab3, ht3⟩ : ∃ tab3 : ATab, tab3 = (g + st.next, none) :: st'.tab.shift st.next := ⟨_, rfl⟩
    rw [← ht3] at hK
    have hsh : ∀ id, (ATab.shift st.next st'.tab).get id = if id < st.next then none else (st'.tab.get (id - st.next)).map (AObj.shift st.next) := fun id => by
      have := shift_get (tab := []) (k := st.next) (fun id o h => by cases h) st'.tab id
      rw [List.append_nil] at this
      exact this
    have hget3 : ∀ id o, tab3.get id = some o → st.next ≤ id ∧ ∃ o', st'.tab.get (id - st.next) = some o' ∧ o = o'.shift st.next := fun id o hid => by
      rw [ht3, ATab.get_cons] at hid
      split at hid
      · cases hid
      · rw [hsh] at hid
        split at hid
        · cases hid
        · rename_i hlt
          cases ho : st'.tab.get (id - st.next) with
          | none => rw [ho] at hid; cases hid
          | some o' =>
            rw [ho] at hid
            cases hid
            exact ⟨by omega, o', rfl, rfl⟩
    have hS3 : ∀ b, Sx cx w' st'.tab L' b → Sx cx w' tab3 (fun id => L' (id - st.next)) b := fun b hb => ⟨hb.1, hb.2.1, fun id o hid hg => by
      obtain ⟨_, o', h4, _⟩ := hget3 id o hid
      exact hb.2.2 _ o' h4 hg⟩
    have hK3 : ∀ id p, Kx tab3 (fun id => L' (id - st.next)) (id + st.next) = some p → Kx st'.tab L' id = some p := fun id p hk => by
      unfold Kx at *
      cases ho : tab3.get (id + st.next) with
      | none => rw [ho] at hk; cases hk
      | some o =>
        obtain ⟨_, o', h4, h5⟩ := hget3 _ o ho
        rw [Nat.add_sub_cancel] at h4
        rw [ho] at hk
        rw [h4]
        simp only [Option.map_some, Nat.add_sub_cancel, h5, shift_sz] at hk ⊢
        exact hk
    have hrv3 : ∀ {x av}, RVx cx w' st'.tab L' x av → RVx cx w' tab3 (fun id => L' (id - st.next)) x (av.shift st.next) := fun hr => hr.conv (.inl hS3) hK3
    have hlay3 : Lay cx w' tab3 (fun id => L' (id - st.next)) := by
      refine ⟨h2.lay.below, fun id o hid => ?_, fun id id' o o' b h4 h5 h6 h7 => ?_, fun b hb => ⟨(h2.lay.ex b hb).1, fun id o hid => ?_⟩⟩
      · obtain ⟨_, o', h4, rfl⟩ := hget3 id o hid
        have hob := h2.lay.objs _ o' h4
        cases o' with
        | box t cells =>
          obtain ⟨g', cs, h5, h6, h7, h8, h9⟩ := hob
          refine ⟨g', cs, h5, h6, h7, by simpa [shiftL_map] using h8, fun j x av h10 h11 => ?_⟩
          rw [shiftL_map, List.getElem?_map] at h11
          cases hj : cells[j]? with
          | none => simp [hj] at h11
          | some av' =>
            simp [hj] at h11
            subst h11
            exact ⟨hrv3 (h9 j x av' h10 hj).1, (h9 j x av' h10 hj).2⟩
        | row e sz rows =>
          obtain ⟨h5, xs, h6, h7, h8⟩ := hob
          refine ⟨h5, xs, h6, h7, fun i j row av h9 h10 => ?_⟩
          obtain ⟨x, hx, hrt⟩ := h8 i j row av h9 h10
          exact ⟨x, hx, hrt.mono (fun _ _ => rfl) hS3⟩
        | map ents => exact hob
        | nest e sz rows =>
          obtain ⟨h5, xs, h6, h7, h8⟩ := hob
          refine ⟨fun row hr => ?_, xs, by rw [List.length_map]; exact h6, h7, fun i j row av h9 h10 => ?_⟩
          · obtain ⟨r, hr', rfl⟩ := List.mem_map.1 hr
            rw [shiftL_map, List.length_map]
            exact h5 r hr'
          · rw [List.getElem?_map] at h9
            cases hi : rows[i]? with
            | none => simp [hi] at h9
            | some row' =>
              simp [hi] at h9
              subst h9
              rw [shiftL_map, List.getElem?_map] at h10
              cases hj : row'[j]? with
              | none => simp [hj] at h10
              | some av' =>
                simp [hj] at h10
                subst h10
                obtain ⟨x, hx, hr⟩ := h8 i j row' av' hi hj
                exact ⟨x, hx, hrv3 hr⟩
        | ghost vs2 env2 =>
          refine ⟨hob.1, fun t ht => ?_⟩
          rw [shiftEnv_get]
          exact hrv3 (hob.2 t ht)
      · obtain ⟨k1, o1, h8, _⟩ := hget3 id o h4
        obtain ⟨k2, o2, h9, _⟩ := hget3 id' o' h5
        have := h2.lay.sep _ _ o1 o2 b h8 h9 h6 h7
        omega
      · obtain ⟨_, o', h4, _⟩ := hget3 id o hid
        exact (h2.lay.ex b hb).2 _ o' h4
    have hblk : ∀ b, Sx cx w st.tab L b → w'.heap[b]? = w.heap[b]? := fun b hb => h3.keep b hb.1 (hown2 b hb.2.2)
    have hsub : ∀ b, Sx cx w st.tab L b → Sx cx w' tab3 (fun id => L' (id - st.next)) b := fun b hb => ⟨Nat.lt_of_lt_of_le hb.1 h3.size, hb.2.1, fun id o hid hg => by
      obtain ⟨_, o', h4, _⟩ := hget3 id o hid
      obtain ⟨id2, o2, h5, h6⟩ := h3.young _ o' b h4 hg hb.1
      exact hown2 b hb.2.2 id2 o2 h5 h6⟩
    have hC3 : Conc cx a w' ⟨st.n, shiftEnv st.next env, tab3, st.next + st'.next⟩ (fun id => L' (id - st.next)) := by
      refine ⟨hlay3, hc.size, hc.defers.mono hblk hsub, fun id o hid => ?_, fun t => ?_⟩
      · obtain ⟨h4, o', h5, rfl⟩ := hget3 id o hid
        have := h2.young _ o' h5
        refine ⟨?_, objLt_shift this.2⟩
        show id < st.next + st'.next
        omega
      · show RVx cx w' tab3 _ _ (if t < st.n then aget (shiftEnv st.next env) t else .any) ∧ AV.lt _ (if t < st.n then aget (shiftEnv st.next env) t else .any)
        split
        · rename_i htn
          rw [shiftEnv_get]
          exact ⟨hrv3 (hgh t (by rw [hc.size]; exact htn)), lt_shift (envLt_aget hghl t)⟩
        · exact ⟨.tree (.any _), trivial⟩
    refine ⟨v, _, _, _, rfl, hK, conc_pure hC3 (hrv3 hrv) (lt_shift hlv) dst, ⟨⟨hblk, hsub, fun id p hid hk => ?_⟩, h3.size, fun k hk hn => h3.keep k hk (hown2 k hn), fun id o b h4 h5 h6 => ?_, Nat.le_add_right _ _⟩⟩
    · unfold Kx at hk
      cases ho : tab3.get id with
      | none => rw [ho] at hk; cases hk
      | some o =>
        have := (hget3 id o ho).1
        omega
    · obtain ⟨_, o', h7, _⟩ := hget3 id o h4
      obtain ⟨id2, o2, h8, h9⟩ := h3.young _ o' b h7 h5 h6
      exact hback id2 o2 b h8 h9
  cases ex with
  | normal => exact key h1
  | ret => exact key h1
  | _ => exact h1.elim
theorem inl_of_code {P : Program} (hm : P.follows .mixedOrders = true) {f : FuncId} {fn : Func} {c : Code} (hf : P.funcs[f]? = some fn) (hb : fn.body = some c) (hname : (fn.name == "runtime.NumGoroutine") = false) {st : ASt} {avs : List AV} {K : AV → ASt → Prop} {n : Nat} (hnt : fn.ntmps = n) {rs : List ResultVar} (hrs : fn.results = rs.toArray)
    (hn : Nat.ble avs.length n = true) (hz : zCode n c = true) (g : Nat) (ts : List Nat)
    (h : ∀ vs : Array Value, aCode P c (aRetI P rs vs st.n st.next g K) ⟨n, envOf 0 avs, (st.next, some (.ghost vs (liveEnv st ts))) :: st.tab, st.next + 1⟩) : aInl P st f avs K :=
  inl_of_scz hf hb hname hnt hrs hn g ts fun vs => scz_of hm hz (h vs)
/-- the ghost where it was laid -/
theorem inl_of_code0 {P : Program} (hm : P.follows .mixedOrders = true) {f : FuncId} {fn : Func} {c : Code} (hf : P.funcs[f]? = some fn) (hb : fn.body = some c) (hname : (fn.name == "runtime.NumGoroutine") = false) {st : ASt} {avs : List AV} {K : AV → ASt → Prop} {n : Nat} (hnt : fn.ntmps = n) {rs : List ResultVar} (hrs : fn.results = rs.toArray)
    (hn : Nat.ble avs.length n = true) (hz : zCode n c = true) (ts : List Nat)
    (h : ∀ vs : Array Value, aCode P c (aRetI P rs vs st.n st.next st.next K) ⟨n, envOf 0 avs, (st.next, some (.ghost vs (liveEnv st ts))) :: st.tab, st.next + 1⟩) : aInl P st f avs K :=
  inl_of_code hm hf hb hname hnt hrs hn hz st.next ts h
/-- a call, gone through within its caller -/
theorem callI {P : Program} {st : ASt} {f : FuncId} {avs : List AV} {K : AV → ASt → Prop} (h : aInl P st f avs K) : aCall none P st f avs K := .inr (.inl ⟨rfl, .inl (.inr (.inr h))⟩)
end
section
def insS (x : Int) (st : List Int × Bool) (y : Int) : List Int × Bool :=
  ((st.1 ++ (if st.2 = false ∧ x ≤ y then [x] else [])) ++ (if y ≠ x then [y] else []), st.2 || decide (x ≤ y))
def insR (x : Int) (l : List Int) : List Int × Bool := l.foldl (insS x) ([], false)
def insP (x : Int) (out : List Int) : List Int := if (insR x out).2 then (insR x out).1 else (insR x out).1 ++ [x]
def sortR (l : List Int) : List Int := l.foldl (fun out x => insP x out) []

theorem insR_snoc (x : Int) (l : List Int) (y : Int) : insR x (l ++ [y]) = insS x (insR x l) y := by simp [insR]
theorem sortR_snoc (l : List Int) (x : Int) : sortR (l ++ [x]) = insP x (sortR l) := by simp [sortR]
theorem snoc_ind {p : List Int → Prop} (h0 : p []) (h1 : ∀ l x, p l → p (l ++ [x])) (l : List Int) : p l := by
  rw [← List.reverse_reverse l]
  induction l.reverse with
  | nil => exact h0
  | cons x r ih => rw [List.reverse_cons]; exact h1 _ _ ih
theorem insR_len (x : Int) (l : List Int) : (insR x l).1.length ≤ l.length + (if (insR x l).2 then 1 else 0) := by
  induction l using snoc_ind with
  | h0 => simp [insR]
  | h1 l y ih =>
    rw [insR_snoc]
    generalize insR x l = st at *
    obtain ⟨n, b⟩ := st
    cases b <;> by_cases h1 : x ≤ y <;> by_cases h2 : y = x <;> simp [insS, h1, h2] at ih ⊢ <;> omega
theorem insP_len (x : Int) (l : List Int) : (insP x l).length ≤ l.length + 1 := by
  have := insR_len x l
  unfold insP
  split <;> rename_i h <;> simp [h] at this ⊢ <;> omega
theorem sortR_len (l : List Int) : (sortR l).length ≤ l.length := by
  induction l using snoc_ind with
  | h0 => simp [sortR]
  | h1 l y ih => rw [sortR_snoc]; have := insP_len y (sortR l); simp; omega

/-- strictly rising -/
def Up (l : List Int) : Prop := l.Pairwise (· < ·)
theorem insR_up (x : Int) (l : List Int) (h : Up l) :
    Up (insR x l).1 ∧ (∀ z, z ∈ (insR x l).1 ↔ z ∈ l ∨ ((insR x l).2 = true ∧ z = x)) ∧ ((insR x l).2 = true ↔ ∃ z ∈ l, x ≤ z) ∧ ((insR x l).2 = true → x ∈ (insR x l).1) := by
  induction l using snoc_ind with
  | h0 => simp [insR, Up]
  | h1 l y ih =>
    have hl : Up l := (List.pairwise_append.1 h).1
    have hy : ∀ z ∈ l, z < y := fun z hz => (List.pairwise_append.1 h).2.2 z hz y (by simp)
    obtain ⟨i1, i2, i3, i4⟩ := ih hl
    rw [insR_snoc]
    generalize insR x l = st at *
    obtain ⟨n, b⟩ := st
    simp only at i1 i2 i3 i4
    cases b with
    | true =>
      obtain ⟨z, hz, hxz⟩ := i3.1 rfl
      have hxy : x < y := by have := hy z hz; omega
      have hne : y ≠ x := by omega
      simp only [insS, Bool.true_or, Bool.true_eq_false, false_and, if_false, List.append_nil, if_pos hne]
      refine ⟨List.pairwise_append.2 ⟨i1, by simp, ?_⟩, ?_, ?_, ?_⟩
      · intro a ha c hc
        rw [List.mem_singleton] at hc; subst hc
        rcases (i2 a).1 ha with h | ⟨_, rfl⟩
        · exact hy a h
        · exact hxy
      · intro a; simp only [List.mem_append, List.mem_singleton, i2]; constructor
        · rintro ((h | h) | h)
          · exact .inl (.inl h)
          · exact .inr h
          · exact .inl (.inr h)
        · rintro ((h | h) | h)
          · exact .inl (.inl h)
          · exact .inr h
          · exact .inl (.inr h)
      · exact ⟨fun _ => ⟨z, by simp [hz], hxz⟩, fun _ => trivial⟩
      · intro _; simp [i4 rfl]
    | false =>
      have hlow : ∀ z ∈ l, z < x := fun z hz => by
        rcases Int.lt_or_le z x with h | h
        · exact h
        · exact absurd (i3.2 ⟨z, hz, h⟩) (by simp)
      have hn : ∀ z, z ∈ n ↔ z ∈ l := fun z => by rw [i2]; simp
      by_cases hxy : x ≤ y
      · by_cases hne : y = x
        · subst hne
          simp only [insS, Int.le_refl, and_self, if_true, ne_eq, not_true, if_false, List.append_nil, decide_true, Bool.or_true]
          refine ⟨List.pairwise_append.2 ⟨i1, by simp, ?_⟩, ?_, ?_, ?_⟩
          · intro a ha c hc
            rw [List.mem_singleton] at hc; subst hc
            exact hy a ((hn a).1 ha)
          · intro a; simp only [List.mem_append, List.mem_singleton, hn]; constructor
            · rintro (h | h)
              · exact .inl (.inl h)
              · exact .inl (.inr h)
            · rintro (h | ⟨_, h⟩)
              · exact h
              · exact .inr h
          · exact ⟨fun _ => ⟨y, by simp, Int.le_refl _⟩, fun _ => trivial⟩
          · intro _; simp
        · simp only [insS, hxy, and_self, if_true, ne_eq, hne, not_false_eq_true, decide_true, Bool.or_true]
          refine ⟨?_, ?_, ?_, ?_⟩
          · unfold Up
            rw [List.append_assoc]
            refine List.pairwise_append.2 ⟨i1, by simp; omega, ?_⟩
            intro a ha c hc
            have hal := (hn a).1 ha
            have h1 := hlow a hal
            have h2 := hy a hal
            simp at hc
            rcases hc with rfl | rfl
            · exact h1
            · exact h2
          · intro a; simp only [List.mem_append, List.mem_singleton, hn]; constructor
            · rintro ((h | h) | h)
              · exact .inl (.inl h)
              · exact .inr ⟨by simp, h⟩
              · exact .inl (.inr h)
            · rintro ((h | h) | ⟨_, h⟩)
              · exact .inl (.inl h)
              · exact .inr h
              · exact .inl (.inr h)
          · exact ⟨fun _ => ⟨y, by simp, hxy⟩, fun _ => trivial⟩
          · intro _; simp
      · have hne : y ≠ x := by omega
        have hd : decide (x ≤ y) = false := decide_eq_false hxy
        simp only [insS, hxy, and_false, if_false, List.append_nil, if_pos hne, hd, Bool.or_false]
        refine ⟨List.pairwise_append.2 ⟨i1, by simp, ?_⟩, ?_, ?_, ?_⟩
        · intro a ha c hc
          rw [List.mem_singleton] at hc; subst hc
          exact hy a ((hn a).1 ha)
        · intro a; simp only [List.mem_append, List.mem_singleton, hn]; simp
        · constructor
          · intro h; cases h
          · rintro ⟨z, hz, hxz⟩
            rcases List.mem_append.1 hz with h | h
            · have := hlow z h; omega
            · rw [List.mem_singleton] at h; subst h; exact absurd hxz hxy
        · intro h; cases h
theorem insP_up (x : Int) (l : List Int) (h : Up l) : Up (insP x l) ∧ ∀ z, z ∈ insP x l ↔ z ∈ l ∨ z = x := by
  obtain ⟨i1, i2, i3, i4⟩ := insR_up x l h
  unfold insP
  split
  · rename_i hb
    refine ⟨i1, fun z => ?_⟩
    rw [i2]; simp [hb]
  · rename_i hb
    have hlow : ∀ z ∈ l, z < x := fun z hz => by
      rcases Int.lt_or_le z x with h | h
      · exact h
      · exact absurd (i3.2 ⟨z, hz, h⟩) hb
    have hn : ∀ z, z ∈ (insR x l).1 ↔ z ∈ l := fun z => by rw [i2]; simp [hb]
    refine ⟨List.pairwise_append.2 ⟨i1, by simp, ?_⟩, fun z => ?_⟩
    · intro a ha c hc
      rw [List.mem_singleton] at hc; subst hc
      exact hlow a ((hn a).1 ha)
    · simp [hn]
theorem sortR_up (l : List Int) : Up (sortR l) ∧ ∀ z, z ∈ sortR l ↔ z ∈ l := by
  induction l using snoc_ind with
  | h0 => simp [sortR, Up]
  | h1 l x ih =>
    obtain ⟨h1, h2⟩ := insP_up x _ ih.1
    rw [sortR_snoc]
    exact ⟨h1, fun z => by rw [h2, ih.2]; simp⟩
theorem up_ext : ∀ (a b : List Int), Up a → Up b → (∀ z, z ∈ a ↔ z ∈ b) → a = b
  | [], [], _, _, _ => rfl
  | [], y :: b, _, _, h => by have := (h y).2 (by simp); simp at this
  | x :: a, [], _, _, h => by have := (h x).1 (by simp); simp at this
  | x :: a, y :: b, ha, hb, h => by
    have ha' := List.pairwise_cons.1 ha
    have hb' := List.pairwise_cons.1 hb
    have hxy : x = y := by
      rcases List.mem_cons.1 ((h x).1 (by simp)) with h1 | h1
      · exact h1
      · rcases List.mem_cons.1 ((h y).2 (by simp)) with h2 | h2
        · exact h2.symm
        · have := hb'.1 x h1; have := ha'.1 y h2; omega
    subst hxy
    rw [up_ext a b ha'.2 hb'.2 (fun z => ?_)]
    constructor
    · intro hz
      rcases List.mem_cons.1 ((h z).1 (by simp [hz])) with h1 | h1
      · subst h1; have := ha'.1 z hz; omega
      · exact h1
    · intro hz
      rcases List.mem_cons.1 ((h z).2 (by simp [hz])) with h1 | h1
      · subst h1; have := hb'.1 z hz; omega
      · exact h1

/-- the library's way -/
theorem compact_up (d : Array Int) (hs : ∀ i j, i < j → j < d.size → d[i]! ≤ d[j]!) (m : Nat) (hm : m ≤ d.size) :
    Up (Lib.compactUpTo d m) ∧ (∀ z, z ∈ Lib.compactUpTo d m ↔ ∃ i, i < m ∧ d[i]! = z) := by
  induction m with
  | zero => simp [Lib.compactUpTo, Up]
  | succ m ih =>
    obtain ⟨h1, h2⟩ := ih (by omega)
    rw [Lib.compactUpTo_succ]
    by_cases hk : Lib.keeps d m = true
    · rw [if_pos hk]
      refine ⟨List.pairwise_append.2 ⟨h1, by simp, ?_⟩, fun z => ?_⟩
      · intro a ha c hc
        rw [List.mem_singleton] at hc; subst hc
        obtain ⟨i, hi, rfl⟩ := (h2 a).1 ha
        simp only [Lib.keeps, decide_eq_true_eq] at hk
        have h3 := hs (m - 1) m (by omega) (by omega)
        have h4 : d[i]! ≤ d[m - 1]! := by
          rcases Nat.lt_or_ge i (m - 1) with h | h
          · exact hs i (m - 1) h (by omega)
          · rw [show i = m - 1 by omega]; exact Int.le_refl _
        rcases hk with h | h
        · omega
        · have : d[m]! ≠ d[m - 1]! := h
          omega
      · simp only [List.mem_append, List.mem_singleton, h2]
        constructor
        · rintro (⟨i, hi, rfl⟩ | rfl)
          · exact ⟨i, by omega, rfl⟩
          · exact ⟨m, by omega, rfl⟩
        · rintro ⟨i, hi, rfl⟩
          rcases Nat.lt_or_ge i m with h | h
          · exact .inl ⟨i, h, rfl⟩
          · exact .inr (by rw [show i = m by omega])
    · rw [if_neg hk, List.append_nil]
      refine ⟨h1, fun z => ?_⟩
      rw [h2]
      simp only [Lib.keeps, decide_eq_true_eq, not_or, ne_eq, Decidable.not_not] at hk
      constructor
      · rintro ⟨i, hi, rfl⟩; exact ⟨i, by omega, rfl⟩
      · rintro ⟨i, hi, rfl⟩
        rcases Nat.lt_or_ge i m with h | h
        · exact ⟨i, h, rfl⟩
        · exact ⟨m - 1, by omega, by rw [← hk.2, show i = m by omega]⟩
def sortL (l : List Int) : List Int := Lib.compact (l.mergeSort fun x y => decide (x ≤ y))
theorem sortL_eq (l : List Int) : sortL l = sortR l := by
  have hp : (l.mergeSort fun x y => decide (x ≤ y)).Pairwise (fun a b => decide (a ≤ b) = true) := List.pairwise_mergeSort (le := fun x y => decide (x ≤ y)) (fun a b c h1 h2 => by simp at *; omega) (fun a b => by simp; omega) l
  have hm : ∀ z, z ∈ (l.mergeSort fun x y => decide (x ≤ y)) ↔ z ∈ l := fun z => List.mem_mergeSort
  unfold sortL Lib.compact
  generalize (l.mergeSort fun x y => decide (x ≤ y)) = s at *
  have hs : ∀ i j, i < j → j < s.toArray.size → s.toArray[i]! ≤ s.toArray[j]! := by
    intro i j hij hj
    have hj' : j < s.length := by simpa using hj
    have h1 := List.pairwise_iff_getElem.1 hp i j (by omega) hj' hij
    rw [getElem!_pos _ i (by simp; omega), getElem!_pos _ j hj]
    simpa using h1
  obtain ⟨h1, h2⟩ := compact_up s.toArray hs s.length (by simp)
  refine up_ext _ _ h1 (sortR_up l).1 (fun z => ?_)
  rw [h2, (sortR_up l).2, ← hm]
  constructor
  · rintro ⟨i, hi, rfl⟩
    rw [getElem!_pos _ i (by simpa using hi)]
    simp
  · intro hz
    obtain ⟨i, hi, rfl⟩ := List.getElem_of_mem hz
    exact ⟨i, hi, by rw [getElem!_pos _ i (by simpa using hi)]; simp⟩
end
section
open Go.RowKit Go.Sort

theorem ins0_any (A : Option Addr) (c : Nat) (w : World) :
    Calls Tryd.prog 35 #[.slice A 0 c, .int .i64 0, .int .i64 0] w fun e w' => e = .returned (.tuple #[]) ∧ Below w.heap.size w w' := by
  go_enter Tryd.func35, Tryd.ntmps35
  go_wp2_with fail
  go_loopw [6] (fun i wr => i = .int .i64 1 ∧ Below w.heap.size w wr) (fun i wr => 0)
  case atStart => exact ⟨rfl, Below.refl _ _⟩
  case round =>
    obtain ⟨rfl, hbl⟩ := hrel
    go_wp2_with fail
    go_end0
    exact ⟨rfl, hbl⟩
theorem pdq0_any (A : Option Addr) (c : Nat) (L : Int) (w : World) :
    Calls Tryd.prog 29 #[.slice A 0 c, .int .i64 0, .int .i64 0, .int .i64 L] w fun e w' => e = .returned (.tuple #[]) ∧ Below w.heap.size w w' := by
  go_enter Tryd.func29, Tryd.ntmps29
  go_wp2_with fail
  go_loopw [1, 2] (fun a b wr => a = .int .i64 0 ∧ b = .int .i64 0 ∧ Below w.heap.size w wr) (fun a b wr => 0)
  case atStart => exact ⟨rfl, rfl, Below.refl _ _⟩
  case round =>
    obtain ⟨rfl, rfl, hbl⟩ := hrel
    have h := ins0_any A c wr
    go_wp2_with fail
    refine h.mono ?_
    rintro e w2 ⟨rfl, hb2⟩
    go_wp2_with fail
    refine bodyPost_ret (results_none rfl _ _ _) rfl ?_
    exact ⟨rfl, hbl.trans (hb2.mono hbl.size)⟩
theorem sort0_any (A : Option Addr) (c : Nat) (w : World) :
    Calls Tryd.prog 26 #[.slice A 0 c] w fun e w' => e = .returned (.tuple #[]) ∧ Below w.heap.size w w' := by
  have h1 := Tryd.bits_Len 0 w (by decide) (by decide)
  generalize Lib.bitLen (0 : Int).toNat = L at *
  have h2 := pdq0_any A c L w
  go_enter Tryd.func26, Tryd.ntmps26
  go_wp2_with fail
  refine h1.mono ?_
  rintro e w2 ⟨rfl, rfl⟩
  go_wp2_with fail
  refine h2.mono ?_
  rintro e w3 ⟨rfl, hb⟩
  go_wp2_with fail
  go_end0
  exact ⟨rfl, hb⟩
abbrev eIs (l : List Int) : List (List AV) := l.map fun n => [eI n]
/-- a row of numbers, as a slice owned -/
theorem row_own {w : World} {S : Nat → Prop} {base : Nat} {v : Value} {l : List Int} (h : RowAt w S base 3 1 v (eIs l)) : OwnsR w base 3 1 v l.length (l.map (Value.int .i64)) := by
  obtain ⟨_, xs, hown, hone, hx⟩ := h
  have e : xs = l.map (Value.int .i64) := by
    have hlen : xs.length = l.length := by simpa using hown.1
    apply List.ext_getElem (by simpa using hlen)
    intro i h1 h2
    have hi : i < l.length := by omega
    obtain ⟨x, hx1, hx2⟩ := hx i 0 [eI l[i]] (eI l[i]) (by simp [hi]) rfl
    rw [Nat.mul_one, Nat.add_zero, List.getElem?_eq_getElem h1] at hx1
    cases hx1
    rw [rtc hx2]
    simp
  rw [e, List.length_map] at hown
  exact hown
theorem own_row {w : World} {S : Nat → Prop} {base : Nat} {v : Value} {l : List Int} (h : OwnsR w base 3 1 v l.length (l.map (Value.int .i64))) : RowAt w S base 3 1 v (eIs l) := by
  refine ⟨fun row hr => ?_, l.map (Value.int .i64), by rw [List.length_map]; exact h, fun x hx => ?_, fun i j row av h1 h2 => ?_⟩
  · obtain ⟨n, _, rfl⟩ := List.mem_map.1 hr
    rfl
  · obtain ⟨n, _, rfl⟩ := List.mem_map.1 hx
    rfl
  · rw [List.getElem?_map] at h1
    cases hi : l[i]? with
    | none => simp [hi] at h1
    | some n =>
      simp [hi] at h1
      subst h1
      cases j with
      | zero =>
        simp at h2
        subst h2
        exact ⟨.int .i64 n, by simp [hi], .c _⟩
      | succ j => simp at h2
theorem own_to {w : World} {base : Nat} {v : Value} {n : Nat} {xs : List Value} (h : OwnsR w base 3 1 v n xs) (hn : 0 < n) : ∃ g cap cur, v = .slice (some ⟨g, 0, none⟩) n cap ∧ base ≤ g ∧ w.heap[g]? = some (.cells cur 3 (0, 0)) ∧ n ≤ cap ∧ cap ≤ maxLen ∧ cap * 1 ≤ cur.size ∧ cur.toList.take (n * 1) = xs := by
  rcases h.2 with ⟨_, h0⟩ | h
  · omega
  · exact h
theorem compact_lenQ (S : List Int) : (Lib.compact S).length ≤ S.length := by
  unfold Lib.compact Lib.compactUpTo
  rw [List.length_map]
  have := List.length_filter_le (Lib.keeps S.toArray) (List.range S.length)
  simpa using this

/-- the empty ways -/
theorem owns_put {w : World} {base g cap n : Nat} {e : TypeId} {os : Array Obj} {cur : Array Value} {ss ts : List Int} (hl : ts.length = ss.length) (hbase : base ≤ g) (hb : w.heap[g]? = some (.cells cur e (0, 0)))
    (h1 : ss.length ≤ cap) (h2 : cap ≤ maxLen) (h3 : cap * 1 ≤ cur.size) :
    OwnsR (Go.Sort.grow (putRow (Value.int .i64) (Sort.ahead w n) g 0 ts.toArray) os) base e 1 (.slice (some ⟨g, 0, none⟩) ss.length cap) ss.length (ts.map (Value.int .i64)) :=
  ⟨by simp [hl], .inr ⟨g, cap, putCells (Value.int .i64) 0 ts.toArray cur, rfl, hbase, heap_sortedI _ hb, h1, h2, by simp [putCells]; omega, by rw [Nat.mul_one, ← hl]; exact take_putCellsI cur ts (by omega)⟩⟩
theorem sort_M (l : List Int) (hl : l.length ≤ 1000000) : AMut Tryd.prog 26 3 1 (eIs l) [] (eIs (l.mergeSort fun x y => decide (x ≤ y))) := by
  refine ⟨enters_of Tryd.func26 rfl (by decide), fun S w base v vs hS hbD hrow hvS hvn hvs => ?_⟩
  obtain rfl : vs = #[] := Array.eq_empty_of_size_eq_zero (by simpa using hvn)
  have hown := row_own hrow
  have hSl : (l.mergeSort fun x y => decide (x ≤ y)).length = l.length := List.length_mergeSort ..
  by_cases h0 : l.length = 0
  · have hl0 : l = [] := List.eq_nil_of_length_eq_zero h0
    subst hl0
    have hv : ∃ A c, v = .slice A 0 c := by
      rcases hown.2 with ⟨rfl, _⟩ | ⟨g, cap, cur, rfl, _⟩
      · exact ⟨_, _, rfl⟩
      · exact ⟨_, _, rfl⟩
    obtain ⟨A, c, rfl⟩ := hv
    have e0 : (([] : List Int).mergeSort fun x y => decide (x ≤ y)) = [] := List.eq_nil_of_length_eq_zero (by rw [List.length_mergeSort]; rfl)
    rw [e0]
    refine (sort0_any A c w).mono ?_
    rintro e w' ⟨rfl, hb⟩
    refine ⟨rfl, ⟨hb.os, hb.tape, hb.output⟩, hb.size, fun k hk _ => hb.block k hk, own_row ⟨by simp, ?_⟩⟩
    rcases hown.2 with h | ⟨g, cap, cur, h1, h2, h3, h4⟩
    · exact .inl h
    · exact .inr ⟨g, cap, cur, h1, h2, (hb.block g (Array.getElem?_eq_some_iff.1 h3).1).trans h3, h4⟩
  obtain ⟨g, cap, cur, rfl, hbase, hblk, hn, hcap, hcs, htake⟩ := own_to hown (by omega)
  rw [Nat.mul_one] at htake
  have hg : g < w.heap.size := (Array.getElem?_eq_some_iff.1 hblk).1
  have hH := holds_of_blockI hblk htake
  have h2 := Tryd.slices_Sort_int g 0 cap l w hH hg (by omega)
  refine h2.mono ?_
  rintro e w2 ⟨rfl, n, os, rfl⟩
  have hown2 := owns_put (n := n) (os := os) (ts := l.mergeSort fun x y => decide (x ≤ y)) hSl hbase hblk hn hcap hcs
  have hgr2 := grownBy_sortedI (w := w) (g := g) (n := n) (os := os) (l.mergeSort fun x y => decide (x ≤ y)).toArray
  generalize Go.Sort.grow (putRow (Value.int .i64) (Sort.ahead w n) g 0 (l.mergeSort fun x y => decide (x ≤ y)).toArray) os = w2 at *
  refine ⟨rfl, ⟨hgr2.os, hgr2.tape, hgr2.output⟩, hgr2.size, fun k hk hne => hgr2.block k hk fun e => hne (by rw [e]; rfl), own_row ?_⟩
  rw [hSl]
  exact hown2
theorem compact_U (l : List Int) (hl : l.length ≤ 1000000) : AUpd Tryd.prog 27 3 1 (l.map fun n => [Value.int .i64 n]) [] ((Lib.compact l).map fun n => [Value.int .i64 n]) := by
  have hfl : ∀ l : List Int, (l.map fun n => [Value.int .i64 n]).flatten = l.map (Value.int .i64) := fun l => by
    induction l with
    | nil => rfl
    | cons a l ih => simp [ih]
  refine ⟨enters_of Tryd.func27 rfl (by decide), fun w v base hown => ?_⟩
  rw [hfl, List.length_map] at hown
  by_cases h0 : l.length = 0
  · have hl0 : l = [] := List.eq_nil_of_length_eq_zero h0
    subst hl0
    have hv : ∃ A c, v = .slice A 0 c := by
      rcases hown.2 with ⟨rfl, _⟩ | ⟨g, cap, cur, rfl, _⟩
      · exact ⟨_, _, rfl⟩
      · exact ⟨_, _, rfl⟩
    obtain ⟨A, c, rfl⟩ := hv
    refine (Tryd.slices_Compact_int_empty A c w).mono ?_
    rintro e w' ⟨rfl, rfl⟩
    exact ⟨_, rfl, hown, ⟨rfl, rfl, rfl, Nat.le_refl _, fun _ _ _ => rfl⟩, rfl⟩
  obtain ⟨g, cap, cur, rfl, hbase, hblk, hn, hcap, hcs, htake⟩ := own_to hown (by omega)
  rw [Nat.mul_one] at htake
  have hg : g < w.heap.size := (Array.getElem?_eq_some_iff.1 hblk).1
  have hH := holds_of_blockI hblk htake
  have h3 := Tryd.slices_Compact_int g 0 cap l w hH (by omega) (by omega)
  have hcl := compact_lenQ l
  refine h3.mono ?_
  rintro e w3 ⟨rfl, q, hw3⟩
  have hown3 := owns_put (n := q) (os := #[]) (ss := l) (ts := Lib.compact l ++ List.replicate (l.length - (Lib.compact l).length) 0) (by simp; omega) hbase hblk hn hcap hcs
  have hgr3 := grownBy_sortedI (w := w) (g := g) (n := q) (os := #[]) (Lib.compact l ++ List.replicate (l.length - (Lib.compact l).length) 0).toArray
  rw [grow_empty] at hown3 hgr3
  rw [← hw3] at hown3 hgr3
  refine ⟨_, rfl, ?_, hgr3, rfl⟩
  rw [hfl, List.length_map]
  obtain ⟨_, ⟨hx, _⟩ | ⟨g', cap', cur', hv, h4, h5, h6, h7, h8, h9⟩⟩ := hown3
  · cases hx
  cases hv
  refine ⟨by simp, .inr ⟨g, cap, cur', rfl, hbase, h5, by omega, hcap, by omega, ?_⟩⟩
  have : cur'.toList.take ((Lib.compact l).length * 1) = (cur'.toList.take (l.length * 1)).take ((Lib.compact l).length * 1) := by rw [List.take_take, Nat.min_eq_left (by omega)]
  rw [this, h9]
  simp
end
section
/-! ### numbers by first places -/
section
variable {κ μ : Type} [DecidableEq κ] [DecidableEq μ]
def addD (D : List κ) (k : κ) : List κ := if k ∈ D then D else D ++ [k]
def distF (ks : List κ) : List κ := ks.foldl addD []
def numF (ks : List κ) : List Int := ks.map fun k => ((distF ks).idxOf k : Int)
theorem distF_snoc (ks : List κ) (k : κ) : distF (ks ++ [k]) = addD (distF ks) k := by simp [distF]
theorem addD_pre (D : List κ) (k : κ) : D <+: addD D k := by
  unfold addD
  split
  · exact List.prefix_rfl
  · exact List.prefix_append _ _
theorem addD_mem (D : List κ) (k x : κ) : x ∈ addD D k ↔ x ∈ D ∨ x = k := by
  unfold addD
  split
  · rename_i h
    constructor
    · exact .inl
    · rintro (h1 | rfl)
      · exact h1
      · exact h
  · simp
omit [DecidableEq κ] in
theorem snocQ {p : List κ → Prop} (h0 : p []) (h1 : ∀ l x, p l → p (l ++ [x])) (l : List κ) : p l := by
  have : ∀ n (l : List κ), l.length = n → p l := by
    intro n
    induction n with
    | zero => intro l hl; rw [List.eq_nil_of_length_eq_zero hl]; exact h0
    | succ n ih =>
      intro l hl
      have hne : l ≠ [] := by intro e; simp [e] at hl
      rw [← List.dropLast_concat_getLast hne]
      exact h1 _ _ (ih _ (by simp [hl]))
  exact this _ l rfl
theorem distF_mem (ks : List κ) : ∀ x, x ∈ distF ks ↔ x ∈ ks := by
  induction ks using snocQ with
  | h0 => intro x; simp [distF]
  | h1 l k ih => intro x; rw [distF_snoc, addD_mem, ih, List.mem_append, List.mem_singleton]
theorem distF_nodup (ks : List κ) : (distF ks).Nodup := by
  induction ks using snocQ with
  | h0 => simp [distF]
  | h1 l k ih =>
    rw [distF_snoc]
    unfold addD
    split
    · exact ih
    · rename_i h
      rw [List.nodup_append]
      refine ⟨ih, by simp, fun a ha b hb => ?_⟩
      simp at hb
      subst hb
      exact fun e => h (e ▸ ha)
theorem distF_app (a b : List κ) : distF a <+: distF (a ++ b) := by
  induction b using snocQ with
  | h0 => simp
  | h1 l k ih =>
    rw [← List.append_assoc, distF_snoc]
    exact ih.trans (addD_pre _ _)
theorem idx_pre {D E : List κ} (h : D <+: E) {k : κ} (hk : k ∈ D) : E.idxOf k = D.idxOf k := by
  obtain ⟨t, rfl⟩ := h
  rw [List.idxOf_append, if_pos hk]
theorem numF_len (ks : List κ) : (numF ks).length = ks.length := by simp [numF]
theorem idx_inj {D : List κ} {a b : κ} (ha : a ∈ D) (hb : b ∈ D) (h : D.idxOf a = D.idxOf b) : a = b := by
  have h1 := List.getElem_idxOf (List.idxOf_lt_length_of_mem ha)
  have h2 := List.getElem_idxOf (List.idxOf_lt_length_of_mem hb)
  rw [← h1, ← h2]
  congr 1
theorem numF_at (ks : List κ) (i : Nat) (hi : i < ks.length) : (numF ks)[i]'(by rw [numF_len]; exact hi) = ((distF ks).idxOf ks[i] : Int) := by simp [numF]
theorem numF_eq (ks : List κ) (i j : Nat) (hi : i < ks.length) (hj : j < ks.length) : (numF ks)[i]'(by rw [numF_len]; exact hi) = (numF ks)[j]'(by rw [numF_len]; exact hj) ↔ ks[i] = ks[j] := by
  rw [numF_at ks i hi, numF_at ks j hj]
  constructor
  · intro h
    exact idx_inj ((distF_mem _ _).2 (List.getElem_mem hi)) ((distF_mem _ _).2 (List.getElem_mem hj)) (by omega)
  · intro h
    rw [h]
theorem distF_map {f : κ → μ} : ∀ (ks : List κ), (∀ a ∈ ks, ∀ b ∈ ks, f a = f b → a = b) → distF (ks.map f) = (distF ks).map f := by
  intro ks
  induction ks using snocQ with
  | h0 => intro _; rfl
  | h1 l k ih =>
    intro h
    have ih' := ih fun a ha b hb => h a (by simp [ha]) b (by simp [hb])
    rw [List.map_append, List.map_singleton, distF_snoc, distF_snoc, ih']
    unfold addD
    by_cases hk : k ∈ distF l
    · rw [if_pos hk, if_pos (List.mem_map_of_mem hk)]
    · rw [if_neg hk, if_neg]
      · simp
      · intro hm
        obtain ⟨x, hx, he⟩ := List.mem_map.1 hm
        have hxl := (distF_mem _ _).1 hx
        have := h x (by simp [hxl]) k (by simp) he
        exact hk (this ▸ hx)
omit [DecidableEq κ] in
theorem nd_inj {D : List κ} (hn : D.Nodup) {i j : Nat} (hi : i < D.length) (hj : j < D.length) (h : D[i] = D[j]) : i = j :=
  (List.getElem?_inj hi hn).1 (by rw [List.getElem?_eq_getElem hi, List.getElem?_eq_getElem hj, h])
theorem idx_at {D : List κ} (hn : D.Nodup) {i : Nat} (hi : i < D.length) : D.idxOf D[i] = i :=
  nd_inj hn (List.idxOf_lt_length_of_mem (List.getElem_mem hi)) hi (List.getElem_idxOf _)
theorem numF_map {f : κ → μ} (ks : List κ) (h : ∀ a ∈ ks, ∀ b ∈ ks, f a = f b → a = b) : numF (ks.map f) = numF ks := by
  unfold numF
  rw [distF_map ks h, List.map_map]
  apply List.map_congr_left
  intro k hk
  simp only [Function.comp]
  have hkD := (distF_mem ks k).2 hk
  have hlt := List.idxOf_lt_length_of_mem hkD
  have hm : f k ∈ (distF ks).map f := List.mem_map_of_mem hkD
  have e1 := List.getElem_idxOf (List.idxOf_lt_length_of_mem hm)
  have hlt2 := List.idxOf_lt_length_of_mem hm
  rw [List.length_map] at hlt2
  rw [List.getElem_map] at e1
  have e2 := h _ ((distF_mem _ _).1 (List.getElem_mem hlt2)) k hk e1
  have e3 := List.getElem_idxOf hlt
  have := nd_inj (distF_nodup ks) hlt2 hlt (e2.trans e3.symm)
  rw [this]
end
/-- how many classes there are -/
def maxF (l : List Int) : Int := l.foldl (fun a b => max a b) (l.headD 0)
def manyF (l : List Int) : Int := if l = [] then 0 else maxF l + 1
theorem foldl_max (l : List Int) : ∀ a : Int, (∀ x ∈ l, x ≤ l.foldl (fun a b => max a b) a) ∧ a ≤ l.foldl (fun a b => max a b) a ∧ (l.foldl (fun a b => max a b) a = a ∨ l.foldl (fun a b => max a b) a ∈ l) := by
  induction l with
  | nil => intro a; exact ⟨by simp, Int.le_refl _, .inl rfl⟩
  | cons b l ih =>
    intro a
    obtain ⟨h1, h2, h3⟩ := ih (max a b)
    simp only [List.foldl_cons]
    refine ⟨fun x hx => ?_, by omega, ?_⟩
    · rcases List.mem_cons.1 hx with rfl | hx
      · omega
      · exact h1 x hx
    · rcases h3 with h3 | h3
      · rw [h3]
        by_cases hab : a ≤ b
        · right
          have : max a b = b := by omega
          rw [this]
          simp
        · left
          omega
      · right
        exact List.mem_cons_of_mem _ h3
theorem many_num {κ : Type} [DecidableEq κ] (ks : List κ) : manyF (numF ks) = (distF ks).length := by
  cases hks : ks with
  | nil => rfl
  | cons k0 r =>
    rw [← hks]
    have hne : numF ks ≠ [] := by rw [hks]; simp [numF]
    unfold manyF
    rw [if_neg hne]
    unfold maxF
    obtain ⟨h1, h2, h3⟩ := foldl_max (numF ks) ((numF ks).headD 0)
    generalize hM : (numF ks).foldl (fun a b => max a b) ((numF ks).headD 0) = M at *
    have hpos : 0 < (distF ks).length := List.length_pos_of_mem ((distF_mem ks k0).2 (by rw [hks]; simp))
    have hmem : M ∈ numF ks := by
      rcases h3 with h3 | h3
      · rw [h3]
        cases hn : numF ks with
        | nil => exact absurd hn hne
        | cons a l => simp
      · exact h3
    have hup : M < (distF ks).length := by
      obtain ⟨k, hk, rfl⟩ := List.mem_map.1 hmem
      have := List.idxOf_lt_length_of_mem ((distF_mem ks k).2 hk)
      omega
    have hlo : ((distF ks).length : Int) - 1 ≤ M := by
      have hlast : (distF ks)[(distF ks).length - 1] ∈ ks := (distF_mem _ _).1 (List.getElem_mem _)
      have hin : (((distF ks).length - 1 : Nat) : Int) ∈ numF ks := by
        refine List.mem_map.2 ⟨_, hlast, ?_⟩
        rw [idx_at (distF_nodup ks)]
      have := h1 _ hin
      omega
    omega
theorem nodup_sub {κ : Type} [DecidableEq κ] : ∀ (D L : List κ), D.Nodup → (∀ x ∈ D, x ∈ L) → D.length ≤ L.length
  | [], L, _, _ => Nat.zero_le _
  | a :: D, L, h, hs => by
    obtain ⟨h1, h2⟩ := List.nodup_cons.1 h
    have ha := hs a (by simp)
    have := nodup_sub D (L.erase a) h2 fun x hx => (List.mem_erase_of_ne (fun e => h1 (by rw [← e]; exact hx))).2 (hs x (by simp [hx]))
    have hl := List.length_erase_of_mem ha
    have hp := List.length_pos_of_mem ha
    simp only [List.length_cons]
    omega
/-- where keys are the finer ones, and there are as many, they tell the same apart -/
theorem as_many {κ μ : Type} [DecidableEq κ] [DecidableEq μ] (zs : List (κ × μ)) (hr : ∀ p ∈ zs, ∀ q ∈ zs, p.2 = q.2 → p.1 = q.1) :
    (distF (zs.map Prod.fst)).length ≤ (distF (zs.map Prod.snd)).length ∧ ((distF (zs.map Prod.fst)).length = (distF (zs.map Prod.snd)).length → ∀ p ∈ zs, ∀ q ∈ zs, p.1 = q.1 → p.2 = q.2) := by
  -- a coarse key of each fine one
  have key : ∀ D : List μ, (∀ y ∈ D, y ∈ zs.map Prod.snd) → ∃ E : List κ, E.length = D.length ∧ ∀ p ∈ zs, p.2 ∈ D → p.1 ∈ E := by
    intro D
    induction D with
    | nil => intro _; exact ⟨[], rfl, fun p _ h => by simp at h⟩
    | cons y D ih =>
      intro h
      obtain ⟨E, hE, hE2⟩ := ih fun z hz => h z (by simp [hz])
      obtain ⟨q, hq, rfl⟩ := List.mem_map.1 (h y (by simp))
      refine ⟨q.1 :: E, by simp [hE], fun p hp hpy => ?_⟩
      rcases List.mem_cons.1 hpy with h1 | h1
      · rw [hr p hp q hq h1]
        simp
      · exact List.mem_cons_of_mem _ (hE2 p hp h1)
  have hsub : ∀ y ∈ distF (zs.map Prod.snd), y ∈ zs.map Prod.snd := fun y hy => (distF_mem _ _).1 hy
  obtain ⟨E, hE, hE2⟩ := key _ hsub
  refine ⟨?_, fun heq p hp q hq hpq => ?_⟩
  · rw [← hE]
    refine nodup_sub _ _ (distF_nodup _) fun x hx => ?_
    obtain ⟨p, hp, rfl⟩ := List.mem_map.1 ((distF_mem _ _).1 hx)
    exact hE2 p hp ((distF_mem _ _).2 (List.mem_map_of_mem hp))
  · refine Classical.byContradiction fun hne => ?_
    -- without the one of the two there are as many still
    have hD' : ∀ y ∈ (distF (zs.map Prod.snd)).erase p.2, y ∈ zs.map Prod.snd := fun y hy => hsub y (List.mem_of_mem_erase hy)
    obtain ⟨E', hE', hE2'⟩ := key _ hD'
    have hpm := (distF_mem (zs.map Prod.snd) p.2).2 (List.mem_map_of_mem hp)
    have hl := List.length_erase_of_mem hpm
    have hpos := List.length_pos_of_mem hpm
    have : (distF (zs.map Prod.fst)).length ≤ E'.length := nodup_sub _ _ (distF_nodup _) fun x hx => by
      obtain ⟨z, hz, rfl⟩ := List.mem_map.1 ((distF_mem _ _).1 hx)
      by_cases hzp : z.2 = p.2
      · have e1 := hr z hz p hp hzp
        rw [e1, hpq]
        refine hE2' q hq ((List.mem_erase_of_ne fun e => hne e.symm).2 ((distF_mem _ _).2 (List.mem_map_of_mem hq)))
      · exact hE2' z hz ((List.mem_erase_of_ne hzp).2 ((distF_mem _ _).2 (List.mem_map_of_mem hz)))
    omega
end
section
def atQ (l : List Int) (i : Int) : Int := if 0 ≤ i ∧ i < l.length then l.getD i.toNat 0 else 0
def inQ (n : Nat) (x : Int) : Bool := decide (0 ≤ x) && decide (x < n)
/-- the classes that follow a place -/
def behS (next : List (List Int)) (c : List Int) (i : Nat) : List Int := ((next.getD i []).filter (inQ next.length)).map (atQ c)
def behF (next : List (List Int)) (c : List Int) (i : Nat) : List Int := sortL (behS next c i)
theorem behF_eq {next : List (List Int)} {c d : List Int} {i j : Nat} : behF next c i = behF next d j ↔ ∀ z, z ∈ behS next c i ↔ z ∈ behS next d j := by
  unfold behF
  rw [sortL_eq, sortL_eq]
  have h1 := sortR_up (behS next c i)
  have h2 := sortR_up (behS next d j)
  constructor
  · intro h z
    rw [← h1.2 z, ← h2.2 z, h]
  · intro h
    exact up_ext _ _ h1.1 h2.1 fun z => by rw [h1.2, h2.2, h]
theorem behS_mem {next : List (List Int)} {c : List Int} {i : Nat} {z : Int} : z ∈ behS next c i ↔ ∃ x ∈ next.getD i [], inQ next.length x = true ∧ atQ c x = z := by
  simp [behS, and_assoc]
def keyQ (next : List (List Int)) (c : List Int) (i : Nat) : List Int := atQ c i :: behF next c i
def keys0 (next : List (List Int)) (col : List Int) : List Int := (List.range next.length).map fun (i : Nat) => atQ col (i : Int)
def keysF (next : List (List Int)) (c : List Int) : List (List Int) := (List.range next.length).map (keyQ next c)
def itF (next : List (List Int)) (col : List Int) : Nat → List Int
  | 0 => numF (keys0 next col)
  | t + 1 => numF (keysF next (itF next col t))
theorem itF_len (next : List (List Int)) (col : List Int) : ∀ t, (itF next col t).length = next.length
  | 0 => by simp [itF, numF, keys0]
  | t + 1 => by simp [itF, numF, keysF]
theorem atQ_nat {c : List Int} {i : Nat} (h : i < c.length) : atQ c (i : Int) = c[i] := by
  unfold atQ
  rw [if_pos ⟨by omega, by omega⟩]
  simp [List.getD, h]
section
variable {next : List (List Int)} {col : List Int}
theorem it0_eq {i j : Nat} (hi : i < next.length) (hj : j < next.length) : atQ (itF next col 0) (i : Int) = atQ (itF next col 0) (j : Int) ↔ atQ col i = atQ col j := by
  have hl := itF_len next col 0
  rw [atQ_nat (by omega), atQ_nat (by omega)]
  have := numF_eq (keys0 next col) i j (by simp [keys0, hi]) (by simp [keys0, hj])
  simp only [itF]
  rw [this]
  simp [keys0]
theorem itS_eq (t : Nat) {i j : Nat} (hi : i < next.length) (hj : j < next.length) : atQ (itF next col (t + 1)) (i : Int) = atQ (itF next col (t + 1)) (j : Int) ↔ atQ (itF next col t) (i : Int) = atQ (itF next col t) (j : Int) ∧ behF next (itF next col t) i = behF next (itF next col t) j := by
  have hl := itF_len next col (t + 1)
  rw [atQ_nat (by omega), atQ_nat (by omega)]
  have := numF_eq (keysF next (itF next col t)) i j (by simp [keysF, hi]) (by simp [keysF, hj])
  simp only [itF]
  rw [this]
  simp [keysF, keyQ]
theorem itF_col (t : Nat) {i j : Nat} (hi : i < next.length) (hj : j < next.length) (h : atQ (itF next col t) (i : Int) = atQ (itF next col t) (j : Int)) : atQ col i = atQ col j := by
  induction t with
  | zero => exact (it0_eq hi hj).1 h
  | succ t ih => exact ih ((itS_eq t hi hj).1 h).1
/-- the keys of a round, with those of the round ahead -/
def pairK (next : List (List Int)) (col : List Int) (t : Nat) : List (Int × Int) := (List.range next.length).map fun (i : Nat) => (atQ (itF next col t) (i : Int), atQ (itF next col (t + 1)) (i : Int))
theorem pairK_fst (t : Nat) : (pairK next col t).map Prod.fst = itF next col t := by
  have hl := itF_len next col t
  apply List.ext_getElem (by simp [pairK, hl])
  intro i h1 h2
  simp [pairK]
  rw [atQ_nat (by omega)]
theorem pairK_snd (t : Nat) : (pairK next col t).map Prod.snd = itF next col (t + 1) := by
  have hl := itF_len next col (t + 1)
  apply List.ext_getElem (by simp [pairK, hl])
  intro i h1 h2
  simp [pairK]
  rw [atQ_nat (by omega)]
theorem dist_num {κ : Type} [DecidableEq κ] (ks : List κ) : (distF (numF ks)).length = (distF ks).length := by
  have : numF ks = ks.map fun k => ((distF ks).idxOf k : Int) := rfl
  rw [this, distF_map, List.length_map]
  intro a ha b hb h
  exact idx_inj ((distF_mem _ _).2 ha) ((distF_mem _ _).2 hb) (by omega)
theorem many_it (t : Nat) : manyF (itF next col t) = (distF (itF next col t)).length := by
  cases t with
  | zero => rw [itF, many_num, dist_num]
  | succ t => rw [itF, many_num, dist_num]
theorem finer (t : Nat) : ∀ p ∈ pairK next col t, ∀ q ∈ pairK next col t, p.2 = q.2 → p.1 = q.1 := by
  intro p hp q hq h
  obtain ⟨i, hi, rfl⟩ := List.mem_map.1 hp
  obtain ⟨j, hj, rfl⟩ := List.mem_map.1 hq
  simp at hi hj
  exact ((itS_eq t hi hj).1 h).1
theorem many_le (t : Nat) : manyF (itF next col t) ≤ manyF (itF next col (t + 1)) := by
  have := (as_many (pairK next col t) (finer t)).1
  rw [pairK_fst, pairK_snd] at this
  rw [many_it, many_it]
  omega
theorem many_bd (t : Nat) : 0 ≤ manyF (itF next col t) ∧ manyF (itF next col t) ≤ next.length := by
  rw [many_it]
  have := nodup_sub _ (itF next col t) (distF_nodup _) fun x hx => (distF_mem _ _).1 hx
  rw [itF_len] at this
  omega
/-- no finer ones: they are stable -/
theorem stable {t : Nat} (h : manyF (itF next col (t + 1)) = manyF (itF next col t)) {i j : Nat} (hi : i < next.length) (hj : j < next.length) (he : atQ (itF next col t) (i : Int) = atQ (itF next col t) (j : Int)) :
    behF next (itF next col t) i = behF next (itF next col t) j := by
  have h2 := (as_many (pairK next col t) (finer t)).2
  rw [pairK_fst, pairK_snd] at h2
  rw [many_it, many_it] at h
  have := h2 (by omega) _ (List.mem_map.2 ⟨i, by simp [hi], rfl⟩) _ (List.mem_map.2 ⟨j, by simp [hj], rfl⟩) he
  exact ((itS_eq t hi hj).1 this).2
/-- whatever classes fit tell apart what these do -/
theorem coarse {d : List Int} (hd : ∀ i j, i < next.length → j < next.length → atQ d (i : Int) = atQ d (j : Int) → atQ col (i : Int) = atQ col (j : Int) ∧ behF next d i = behF next d j) (t : Nat) :
    ∀ i j, i < next.length → j < next.length → atQ d (i : Int) = atQ d (j : Int) → atQ (itF next col t) (i : Int) = atQ (itF next col t) (j : Int) := by
  induction t with
  | zero => intro i j hi hj h; exact (it0_eq hi hj).2 (hd i j hi hj h).1
  | succ t ih =>
    intro i j hi hj h
    refine (itS_eq t hi hj).2 ⟨ih i j hi hj h, behF_eq.2 fun z => ?_⟩
    have hb := behF_eq.1 (hd i j hi hj h).2
    have go : ∀ i j, i < next.length → j < next.length → (∀ z, z ∈ behS next d i ↔ z ∈ behS next d j) → z ∈ behS next (itF next col t) i → z ∈ behS next (itF next col t) j := by
      intro i j hi hj hb hz
      obtain ⟨x, hx, hin, rfl⟩ := behS_mem.1 hz
      obtain ⟨y, hy, hyin, he⟩ := behS_mem.1 ((hb (atQ d x)).1 (behS_mem.2 ⟨x, hx, hin, rfl⟩))
      refine behS_mem.2 ⟨y, hy, hyin, ?_⟩
      simp only [inQ, Bool.and_eq_true, decide_eq_true_eq] at hin hyin
      have := ih y.toNat x.toNat (by omega) (by omega) (by rw [Int.toNat_of_nonneg hin.1, Int.toNat_of_nonneg hyin.1]; exact he)
      rwa [Int.toNat_of_nonneg hin.1, Int.toNat_of_nonneg hyin.1] at this
    exact ⟨go i j hi hj hb, go j i hj hi fun z => (hb z).symm⟩
end
end
section
open Go.RowKit

abbrev eNx (next : List (List Int)) : List (List AV) := next.map fun r => [sI r]
abbrev sNx (next : List (List Int)) : AV := .sl 1 (eNx next)
theorem sI_at {l : List Int} {i : Int} (h : 0 ≤ i) (hl : i < l.length) : (eIs l)[i.toNat]?.getD [] = [eI (l.getD i.toNat 0)] := by
  have : i.toNat < l.length := by omega
  simp [List.getD, this]
theorem sNx_at {l : List (List Int)} {i : Nat} (hl : i < l.length) : (eNx l)[i]?.getD [] = [sI (l.getD i [])] := by
  simp [List.getD, hl]
theorem callUpd {P : Program} {st : ASt} {g : FuncId} {K : AV → ASt → Prop} {id e sz : Nat} {vals vals' : List (List Value)} {rows rows' : List (List AV)} (h : AUpd P g e sz vals [] vals') (hr : rowsC vals = rows) (hr' : rowsC vals' = rows') (hid : st.tab.get id = some (.row e sz rows)) (hv : ∀ r ∈ vals', r.length = sz ∧ ∀ x ∈ r, x.oneCell' = true)
    (hk : K (.osl st.next) { st with tab := appTab st.tab st.next (some id) (.row e sz rows'), next := st.next + 1 }) : aCall none P st g [.osl id] K := by
  subst hr hr'
  exact .inr (.inl ⟨rfl, .inl (.inl ⟨id, e, sz, vals, [], vals', rfl, hid, h, hv, hk⟩)⟩)
theorem rowsC_ints (l : List Int) : rowsC (l.map fun n => [Value.int .i64 n]) = eIs l := by simp [rowsC, Function.comp_def]
theorem atQ_A (l : List Int) (i : Int) (hl : l.length ≤ 1000000) : ADet Tryd.prog 15 [sI l, eI i] (val (.int .i64 (atQ l i))) := by
  refine adet_of_code mixedT Tryd.func15 rfl (by decide) Tryd.ntmps15 Tryd.results15 rfl (val_ok _) ?_
  by_cases h0 : 0 ≤ i
  · by_cases h1 : i < l.length
    · have d0 : decide (i < 0) = false := decide_eq_false (by omega)
      have d1 : decide ((l.length : Int) ≤ i) = false := decide_eq_false (by omega)
      have e : atQ l i = l.getD i.toNat 0 := if_pos ⟨h0, h1⟩
      have h2 : i.toNat < l.length := by omega
      have hr := sI_at h0 h1
      rw [e]
      (repeat' (first | simp (maxSteps := 5000000) (implicitDefEqProofs := false) only [ruA, ruB, aEv, aTake, aLoad, aField, aIndex, aLen, aBin, bin2, aUn, un1, aExtract, aConv, ASt.get, aget, ASt.put, aStore, aBox, aAppend, aBuildSlice, aMake, aBuild, aFill, oneParts, allC, aBinS, yv, aCells, oneC, oneCL, treeC, treeL, treeML, treeM_c, treeM_sl, treeM_rp, treeM_any, treeM_fn, treeM_bfn, aLit, aDst, aSrc, appTab, Value.cells, Value.oneCell', envOf, aResL, aOne, ↓reduceIte, reduceCtorEq, forall_const, Nat.reduceLT, Nat.reduceEqDiff, Nat.reduceAdd, Nat.reduceMul, Nat.reduceSub, Nat.reduceLeDiff, Nat.reduceBEq, eq_self, implies_true, ne_eq, dref, dref1, dref2, aExecS, aStoreB, aTakes, aTakeE, aElder, aFrom, aFresh, isLoad, aBuildSlice1, aDstN, aSrcN, aLitN, dref0, stripA, frzs, frz1, ownIds, AV.frz, AV.frzL, frzEnv, AV.shift, AV.shiftL, aFieldV, aSliceW, aSliceO, aSlice, aSliceR, aSliceS, aBd, aMax, frzAVs, frzAV, frzTab, AObj.frz, aMM, aNilS, aMay, aNil, aLenM, aClear, aLookup, aLookG, aMapUpd, aMapPut, keyV, aLookR, false_or, aExecU, tyK_3, tyE_23, tyK_23, tyA_3, tyS_3, d0, d1, h0, h1, h2, hr] | (with_reducible refine aIf_split (fun _ => ?_) (fun _ => ?_)) | (with_reducible refine aSel_split (fun _ => ?_) (fun _ => ?_)) | (with_reducible refine aGd_split (fun _ => ?_) (fun _ => ?_))))
    · have d0 : decide (i < 0) = false := decide_eq_false (by omega)
      have d1 : decide ((l.length : Int) ≤ i) = true := decide_eq_true (by omega)
      have e : atQ l i = 0 := if_neg fun h => h1 h.2
      rw [e]
      (repeat' (first | simp (maxSteps := 5000000) (implicitDefEqProofs := false) only [ruA, ruB, aEv, aTake, aLoad, aField, aIndex, aLen, aBin, bin2, aUn, un1, aExtract, aConv, ASt.get, aget, ASt.put, aStore, aBox, aAppend, aBuildSlice, aMake, aBuild, aFill, oneParts, allC, aBinS, yv, aCells, oneC, oneCL, treeC, treeL, treeML, treeM_c, treeM_sl, treeM_rp, treeM_any, treeM_fn, treeM_bfn, aLit, aDst, aSrc, appTab, Value.cells, Value.oneCell', envOf, aResL, aOne, ↓reduceIte, reduceCtorEq, forall_const, Nat.reduceLT, Nat.reduceEqDiff, Nat.reduceAdd, Nat.reduceMul, Nat.reduceSub, Nat.reduceLeDiff, Nat.reduceBEq, eq_self, implies_true, ne_eq, dref, dref1, dref2, aExecS, aStoreB, aTakes, aTakeE, aElder, aFrom, aFresh, isLoad, aBuildSlice1, aDstN, aSrcN, aLitN, dref0, stripA, frzs, frz1, ownIds, AV.frz, AV.frzL, frzEnv, AV.shift, AV.shiftL, aFieldV, aSliceW, aSliceO, aSlice, aSliceR, aSliceS, aBd, aMax, frzAVs, frzAV, frzTab, AObj.frz, aMM, aNilS, aMay, aNil, aLenM, aClear, aLookup, aLookG, aMapUpd, aMapPut, keyV, aLookR, false_or, aExecU, tyK_3, tyE_23, tyK_23, tyA_3, tyS_3, d0, d1] | (with_reducible refine aIf_split (fun _ => ?_) (fun _ => ?_)) | (with_reducible refine aSel_split (fun _ => ?_) (fun _ => ?_)) | (with_reducible refine aGd_split (fun _ => ?_) (fun _ => ?_))))
  · have d0 : decide (i < 0) = true := decide_eq_true (by omega)
    have e : atQ l i = 0 := if_neg fun h => h0 h.1
    rw [e]
    (repeat' (first | simp (maxSteps := 5000000) (implicitDefEqProofs := false) only [ruA, ruB, aEv, aTake, aLoad, aField, aIndex, aLen, aBin, bin2, aUn, un1, aExtract, aConv, ASt.get, aget, ASt.put, aStore, aBox, aAppend, aBuildSlice, aMake, aBuild, aFill, oneParts, allC, aBinS, yv, aCells, oneC, oneCL, treeC, treeL, treeML, treeM_c, treeM_sl, treeM_rp, treeM_any, treeM_fn, treeM_bfn, aLit, aDst, aSrc, appTab, Value.cells, Value.oneCell', envOf, aResL, aOne, ↓reduceIte, reduceCtorEq, forall_const, Nat.reduceLT, Nat.reduceEqDiff, Nat.reduceAdd, Nat.reduceMul, Nat.reduceSub, Nat.reduceLeDiff, Nat.reduceBEq, eq_self, implies_true, ne_eq, dref, dref1, dref2, aExecS, aStoreB, aTakes, aTakeE, aElder, aFrom, aFresh, isLoad, aBuildSlice1, aDstN, aSrcN, aLitN, dref0, stripA, frzs, frz1, ownIds, AV.frz, AV.frzL, frzEnv, AV.shift, AV.shiftL, aFieldV, aSliceW, aSliceO, aSlice, aSliceR, aSliceS, aBd, aMax, frzAVs, frzAV, frzTab, AObj.frz, aMM, aNilS, aMay, aNil, aLenM, aClear, aLookup, aLookG, aMapUpd, aMapPut, keyV, aLookR, false_or, aExecU, tyK_3, tyE_23, tyK_23, tyA_3, tyS_3, d0] | (with_reducible refine aIf_split (fun _ => ?_) (fun _ => ?_)) | (with_reducible refine aSel_split (fun _ => ?_) (fun _ => ?_)) | (with_reducible refine aGd_split (fun _ => ?_) (fun _ => ?_))))
theorem atQ_ok {l : List Int} (h : ∀ x ∈ l, ok64 x) (i : Int) : ok64 (atQ l i) := by
  unfold atQ
  split
  · rename_i hi
    have : i.toNat < l.length := by omega
    simp [List.getD, this]
    exact h _ (List.getElem_mem this)
  · simp [ok64]
set_option maxRecDepth 100000 in
set_option maxHeartbeats 4000000 in
theorem behind_A (next : List (List Int)) (c : List Int) (i : Nat) (hn : next.length ≤ 1000) (hr : ∀ r ∈ next, r.length ≤ 1000) (hc : c.length ≤ 1000000) (hi : i < next.length) :
    ADet Tryd.prog 21 [sNx next, sI c, eI (i : Int)] (own 3 1 (eIs (behF next c i))) := by
  refine adet_of_code mixedT Tryd.func21 rfl (by decide) Tryd.ntmps21 Tryd.results21 rfl (own_ok _ _ _) ?_
  obtain ⟨q, hq⟩ : ∃ q, q = next.getD i [] := ⟨_, rfl⟩
  have hql : q.length ≤ 1000 := by
    rw [hq]
    simp [List.getD, hi]
    exact hr _ (List.getElem_mem hi)
  have hrow := sNx_at hi
  rw [← hq] at hrow
  have i0 : (0 : Int) ≤ (i : Int) := by omega
  have i1 : (i : Int) < next.length := by omega
  (repeat' (first | simp (maxSteps := 5000000) (implicitDefEqProofs := false) only [ruA, ruB, aEv, aTake, aLoad, aField, aIndex, aLen, aBin, bin2, aUn, un1, aExtract, aConv, ASt.get, aget, ASt.put, aStore, aBox, aAppend, aBuildSlice, aMake, aBuild, aFill, oneParts, allC, aBinS, yv, aCells, oneC, oneCL, treeC, treeL, treeML, treeM_c, treeM_sl, treeM_rp, treeM_any, treeM_fn, treeM_bfn, aLit, aDst, aSrc, appTab, Value.cells, Value.oneCell', envOf, aResL, aOne, ↓reduceIte, reduceCtorEq, forall_const, Nat.reduceLT, Nat.reduceEqDiff, Nat.reduceAdd, Nat.reduceMul, Nat.reduceSub, Nat.reduceLeDiff, Nat.reduceBEq, eq_self, implies_true, ne_eq, dref, dref1, dref2, aExecS, aStoreB, aTakes, aTakeE, aElder, aFrom, aFresh, isLoad, aBuildSlice1, aDstN, aSrcN, aLitN, dref0, stripA, frzs, frz1, ownIds, AV.frz, AV.frzL, frzEnv, AV.shift, AV.shiftL, aFieldV, aSliceW, aSliceO, aSlice, aSliceR, aSliceS, aBd, aMax, frzAVs, frzAV, frzTab, AObj.frz, aMM, aNilS, aMay, aNil, aLenM, aClear, aLookup, aLookG, aMapUpd, aMapPut, keyV, aLookR, false_or, aExecU, tyE_22, tyA_23, tyS_23, tyE_23, tyK_23, tyK_3, tyA_3, tyS_3, tyK_22, tyR_23, i0, i1, hi, hrow, Int.toNat_natCast] | (with_reducible refine aIf_split (fun _ => ?_) (fun _ => ?_)) | (with_reducible refine aSel_split (fun _ => ?_) (fun _ => ?_)) | (with_reducible refine aGd_split (fun _ => ?_) (fun _ => ?_))))
  refine aLoop_of (fun st => ∃ j : Nat, j ≤ q.length ∧ st = ⟨38, [(0, sNx next), (1, sI c), (7, .osl 0), (13, sI q), (14, eI (q.length : Int)), (15, eI (j : Int))], [(0, some (.row 3 1 (eIs (((q.take j).filter (inQ next.length)).map (atQ c)))))], 1⟩) (fun st => q.length - slotN st 15) ⟨_, ((weak_nil 7 3 1 (by simp only [ruW, ASt.get, aget, ASt.put, ↓reduceIte, reduceCtorEq, Nat.reduceLT, Nat.reduceEqDiff, Nat.reduceAdd, Nat.reduceLeDiff, eq_self, implies_true, List.take_zero, List.filter_nil, List.map_nil])).trans (weak_ren1 [0] ⟨(by decide), (by (first | ((simp only [envInR, tabInR, envLt, tabLt, AObj.lt, AV.lt, AV.ltL, AV.ren, AV.renL, AObj.ren, List.getD_cons_zero, List.getD_cons_succ, List.length_cons, List.length_nil, ruW, ASt.get, aget, ASt.put, ↓reduceIte, reduceCtorEq, Nat.reduceLT, Nat.reduceEqDiff, Nat.reduceAdd, Nat.reduceLeDiff, eq_self, implies_true, List.take_zero, List.filter_nil, List.map_nil]) <;> (repeat' apply And.intro) <;> first | (rw [wrapK (by omega)]; done) | (simp; done) | omega) | fail))⟩)), 0, Nat.zero_le _, rfl⟩ ?_
  rintro _ ⟨j, hj, rfl⟩
  by_cases hlt : j < q.length
  · obtain ⟨x, hx⟩ : ∃ x, x = q[j] := ⟨_, rfl⟩
    have hrx : (eIs q)[j]?.getD [] = [eI x] := by rw [hx]; simp [hlt]
    have htk : q.take (j + 1) = q.take j ++ [x] := by rw [List.take_succ_eq_append_getElem hlt, hx]
    by_cases hin : inQ next.length x = true
    · have hin' := hin
      simp only [inQ, Bool.and_eq_true, decide_eq_true_eq] at hin'
      have d0 : decide (0 ≤ x) = true := decide_eq_true hin'.1
      have d1 : decide (x < (next.length : Int)) = true := decide_eq_true hin'.2
      have hnx : eIs (((q.take (j + 1)).filter (inQ next.length)).map (atQ c)) = eIs (((q.take j).filter (inQ next.length)).map (atQ c)) ++ [[eI (atQ c x)]] := by
        rw [htk]
        simp [hin]
      have hfl : (List.filter (inQ next.length) (List.take j q)).length ≤ 1000 := by
        have := List.length_filter_le (inQ next.length) (List.take j q)
        have := List.length_take_le j q
        omega
      (repeat' (first | simp (maxSteps := 5000000) (implicitDefEqProofs := false) only [ruA, ruB, aEv, aTake, aLoad, aField, aIndex, aLen, aBin, bin2, aUn, un1, aExtract, aConv, ASt.get, aget, ASt.put, aStore, aBox, aAppend, aBuildSlice, aMake, aBuild, aFill, oneParts, allC, aBinS, yv, aCells, oneC, oneCL, treeC, treeL, treeML, treeM_c, treeM_sl, treeM_rp, treeM_any, treeM_fn, treeM_bfn, aLit, aDst, aSrc, appTab, Value.cells, Value.oneCell', envOf, aResL, aOne, ↓reduceIte, reduceCtorEq, forall_const, Nat.reduceLT, Nat.reduceEqDiff, Nat.reduceAdd, Nat.reduceMul, Nat.reduceSub, Nat.reduceLeDiff, Nat.reduceBEq, eq_self, implies_true, ne_eq, dref, dref1, dref2, aExecS, aStoreB, aTakes, aTakeE, aElder, aFrom, aFresh, isLoad, aBuildSlice1, aDstN, aSrcN, aLitN, dref0, stripA, frzs, frz1, ownIds, AV.frz, AV.frzL, frzEnv, AV.shift, AV.shiftL, aFieldV, aSliceW, aSliceO, aSlice, aSliceR, aSliceS, aBd, aMax, frzAVs, frzAV, frzTab, AObj.frz, aMM, aNilS, aMay, aNil, aLenM, aClear, aLookup, aLookG, aMapUpd, aMapPut, keyV, aLookR, false_or, aExecU, tyE_22, tyA_23, tyS_23, tyE_23, tyK_23, tyK_3, tyA_3, tyS_3, tyK_22, tyR_23, hrx, hlt, d0, d1] | (with_reducible refine aIf_split (fun _ => ?_) (fun _ => ?_)) | (with_reducible refine aSel_split (fun _ => ?_) (fun _ => ?_)) | (with_reducible refine aGd_split (fun _ => ?_) (fun _ => ?_))))
      refine callV (atQ_A c x hc) ?_
      (repeat' (first | simp (maxSteps := 5000000) (implicitDefEqProofs := false) only [ruA, ruB, aEv, aTake, aLoad, aField, aIndex, aLen, aBin, bin2, aUn, un1, aExtract, aConv, ASt.get, aget, ASt.put, aStore, aBox, aAppend, aBuildSlice, aMake, aBuild, aFill, oneParts, allC, aBinS, yv, aCells, oneC, oneCL, treeC, treeL, treeML, treeM_c, treeM_sl, treeM_rp, treeM_any, treeM_fn, treeM_bfn, aLit, aDst, aSrc, appTab, Value.cells, Value.oneCell', envOf, aResL, aOne, ↓reduceIte, reduceCtorEq, forall_const, Nat.reduceLT, Nat.reduceEqDiff, Nat.reduceAdd, Nat.reduceMul, Nat.reduceSub, Nat.reduceLeDiff, Nat.reduceBEq, eq_self, implies_true, ne_eq, dref, dref1, dref2, aExecS, aStoreB, aTakes, aTakeE, aElder, aFrom, aFresh, isLoad, aBuildSlice1, aDstN, aSrcN, aLitN, dref0, stripA, frzs, frz1, ownIds, AV.frz, AV.frzL, frzEnv, AV.shift, AV.shiftL, aFieldV, aSliceW, aSliceO, aSlice, aSliceR, aSliceS, aBd, aMax, frzAVs, frzAV, frzTab, AObj.frz, aMM, aNilS, aMay, aNil, aLenM, aClear, aLookup, aLookG, aMapUpd, aMapPut, keyV, aLookR, false_or, aExecU, tyE_22, tyA_23, tyS_23, tyE_23, tyK_23, tyK_3, tyA_3, tyS_3, tyK_22, tyR_23] | (with_reducible refine aIf_split (fun _ => ?_) (fun _ => ?_)) | (with_reducible refine aSel_split (fun _ => ?_) (fun _ => ?_)) | (with_reducible refine aGd_split (fun _ => ?_) (fun _ => ?_))))
      refine ⟨rfl, ⟨by (try simp only [List.length_map]); omega, by (try simp only [List.length_map]); omega⟩, roundI (weak_ren1 [2] ⟨(by decide), (by (first | ((simp only [envInR, tabInR, envLt, tabLt, AObj.lt, AV.lt, AV.ltL, AV.ren, AV.renL, AObj.ren, List.getD_cons_zero, List.getD_cons_succ, List.length_cons, List.length_nil, ruW, ASt.get, aget, ASt.put, ↓reduceIte, reduceCtorEq, Nat.reduceLT, Nat.reduceEqDiff, Nat.reduceAdd, Nat.reduceLeDiff, eq_self, implies_true, hnx]) <;> (repeat' apply And.intro) <;> first | (rw [wrapK (by omega)]; done) | (simp; done) | omega) | fail))⟩) ⟨j + 1, by omega, rfl⟩ (by simp only [slotN, ruW, ASt.get, aget, ASt.put, ↓reduceIte, reduceCtorEq, Nat.reduceLT, Nat.reduceEqDiff, Nat.reduceAdd, Nat.reduceLeDiff, eq_self, implies_true]; omega)⟩
    · have hnx : ((q.take (j + 1)).filter (inQ next.length)).map (atQ c) = ((q.take j).filter (inQ next.length)).map (atQ c) := by
        rw [htk]
        simp [hin]
      have hd : (decide (0 ≤ x) = true ∧ decide (x < (next.length : Int)) = false) ∨ decide (0 ≤ x) = false := by
        simp only [inQ, Bool.and_eq_true, decide_eq_true_eq] at hin
        by_cases h0 : 0 ≤ x
        · exact .inl ⟨decide_eq_true h0, decide_eq_false fun h => hin ⟨h0, h⟩⟩
        · exact .inr (decide_eq_false h0)
      rcases hd with ⟨d0, d1⟩ | d0
      · (repeat' (first | simp (maxSteps := 5000000) (implicitDefEqProofs := false) only [ruA, ruB, aEv, aTake, aLoad, aField, aIndex, aLen, aBin, bin2, aUn, un1, aExtract, aConv, ASt.get, aget, ASt.put, aStore, aBox, aAppend, aBuildSlice, aMake, aBuild, aFill, oneParts, allC, aBinS, yv, aCells, oneC, oneCL, treeC, treeL, treeML, treeM_c, treeM_sl, treeM_rp, treeM_any, treeM_fn, treeM_bfn, aLit, aDst, aSrc, appTab, Value.cells, Value.oneCell', envOf, aResL, aOne, ↓reduceIte, reduceCtorEq, forall_const, Nat.reduceLT, Nat.reduceEqDiff, Nat.reduceAdd, Nat.reduceMul, Nat.reduceSub, Nat.reduceLeDiff, Nat.reduceBEq, eq_self, implies_true, ne_eq, dref, dref1, dref2, aExecS, aStoreB, aTakes, aTakeE, aElder, aFrom, aFresh, isLoad, aBuildSlice1, aDstN, aSrcN, aLitN, dref0, stripA, frzs, frz1, ownIds, AV.frz, AV.frzL, frzEnv, AV.shift, AV.shiftL, aFieldV, aSliceW, aSliceO, aSlice, aSliceR, aSliceS, aBd, aMax, frzAVs, frzAV, frzTab, AObj.frz, aMM, aNilS, aMay, aNil, aLenM, aClear, aLookup, aLookG, aMapUpd, aMapPut, keyV, aLookR, false_or, aExecU, tyE_22, tyA_23, tyS_23, tyE_23, tyK_23, tyK_3, tyA_3, tyS_3, tyK_22, tyR_23, hrx, hlt, d0, d1] | (with_reducible refine aIf_split (fun _ => ?_) (fun _ => ?_)) | (with_reducible refine aSel_split (fun _ => ?_) (fun _ => ?_)) | (with_reducible refine aGd_split (fun _ => ?_) (fun _ => ?_))))
        exact roundI (weak_ren1 [0] ⟨(by decide), (by (first | ((simp only [envInR, tabInR, envLt, tabLt, AObj.lt, AV.lt, AV.ltL, AV.ren, AV.renL, AObj.ren, List.getD_cons_zero, List.getD_cons_succ, List.length_cons, List.length_nil, ruW, ASt.get, aget, ASt.put, ↓reduceIte, reduceCtorEq, Nat.reduceLT, Nat.reduceEqDiff, Nat.reduceAdd, Nat.reduceLeDiff, eq_self, implies_true, hnx]) <;> (repeat' apply And.intro) <;> first | (rw [wrapK (by omega)]; done) | (simp; done) | omega) | fail))⟩) ⟨j + 1, by omega, rfl⟩ (by simp only [slotN, ruW, ASt.get, aget, ASt.put, ↓reduceIte, reduceCtorEq, Nat.reduceLT, Nat.reduceEqDiff, Nat.reduceAdd, Nat.reduceLeDiff, eq_self, implies_true]; omega)
      · (repeat' (first | simp (maxSteps := 5000000) (implicitDefEqProofs := false) only [ruA, ruB, aEv, aTake, aLoad, aField, aIndex, aLen, aBin, bin2, aUn, un1, aExtract, aConv, ASt.get, aget, ASt.put, aStore, aBox, aAppend, aBuildSlice, aMake, aBuild, aFill, oneParts, allC, aBinS, yv, aCells, oneC, oneCL, treeC, treeL, treeML, treeM_c, treeM_sl, treeM_rp, treeM_any, treeM_fn, treeM_bfn, aLit, aDst, aSrc, appTab, Value.cells, Value.oneCell', envOf, aResL, aOne, ↓reduceIte, reduceCtorEq, forall_const, Nat.reduceLT, Nat.reduceEqDiff, Nat.reduceAdd, Nat.reduceMul, Nat.reduceSub, Nat.reduceLeDiff, Nat.reduceBEq, eq_self, implies_true, ne_eq, dref, dref1, dref2, aExecS, aStoreB, aTakes, aTakeE, aElder, aFrom, aFresh, isLoad, aBuildSlice1, aDstN, aSrcN, aLitN, dref0, stripA, frzs, frz1, ownIds, AV.frz, AV.frzL, frzEnv, AV.shift, AV.shiftL, aFieldV, aSliceW, aSliceO, aSlice, aSliceR, aSliceS, aBd, aMax, frzAVs, frzAV, frzTab, AObj.frz, aMM, aNilS, aMay, aNil, aLenM, aClear, aLookup, aLookG, aMapUpd, aMapPut, keyV, aLookR, false_or, aExecU, tyE_22, tyA_23, tyS_23, tyE_23, tyK_23, tyK_3, tyA_3, tyS_3, tyK_22, tyR_23, hrx, hlt, d0] | (with_reducible refine aIf_split (fun _ => ?_) (fun _ => ?_)) | (with_reducible refine aSel_split (fun _ => ?_) (fun _ => ?_)) | (with_reducible refine aGd_split (fun _ => ?_) (fun _ => ?_))))
        exact roundI (weak_ren1 [0] ⟨(by decide), (by (first | ((simp only [envInR, tabInR, envLt, tabLt, AObj.lt, AV.lt, AV.ltL, AV.ren, AV.renL, AObj.ren, List.getD_cons_zero, List.getD_cons_succ, List.length_cons, List.length_nil, ruW, ASt.get, aget, ASt.put, ↓reduceIte, reduceCtorEq, Nat.reduceLT, Nat.reduceEqDiff, Nat.reduceAdd, Nat.reduceLeDiff, eq_self, implies_true, hnx]) <;> (repeat' apply And.intro) <;> first | (rw [wrapK (by omega)]; done) | (simp; done) | omega) | fail))⟩) ⟨j + 1, by omega, rfl⟩ (by simp only [slotN, ruW, ASt.get, aget, ASt.put, ↓reduceIte, reduceCtorEq, Nat.reduceLT, Nat.reduceEqDiff, Nat.reduceAdd, Nat.reduceLeDiff, eq_self, implies_true]; omega)
  obtain rfl : j = q.length := by omega
  obtain ⟨b, hb⟩ : ∃ b, b = ((q.filter (inQ next.length)).map (atQ c)) := ⟨_, rfl⟩
  have hbl : b.length ≤ 1000000 := by
    rw [hb, List.length_map]
    have := List.length_filter_le (inQ next.length) q
    omega
  have hF : behF next c i = Lib.compact (b.mergeSort fun x y => decide (x ≤ y)) := by rw [hb, behF, behS, ← hq, sortL]
  rw [List.take_length, ← hb, hF]
  (repeat' (first | simp (maxSteps := 5000000) (implicitDefEqProofs := false) only [ruA, ruB, aEv, aTake, aLoad, aField, aIndex, aLen, aBin, bin2, aUn, un1, aExtract, aConv, ASt.get, aget, ASt.put, aStore, aBox, aAppend, aBuildSlice, aMake, aBuild, aFill, oneParts, allC, aBinS, yv, aCells, oneC, oneCL, treeC, treeL, treeML, treeM_c, treeM_sl, treeM_rp, treeM_any, treeM_fn, treeM_bfn, aLit, aDst, aSrc, appTab, Value.cells, Value.oneCell', envOf, aResL, aOne, ↓reduceIte, reduceCtorEq, forall_const, Nat.reduceLT, Nat.reduceEqDiff, Nat.reduceAdd, Nat.reduceMul, Nat.reduceSub, Nat.reduceLeDiff, Nat.reduceBEq, eq_self, implies_true, ne_eq, dref, dref1, dref2, aExecS, aStoreB, aTakes, aTakeE, aElder, aFrom, aFresh, isLoad, aBuildSlice1, aDstN, aSrcN, aLitN, dref0, stripA, frzs, frz1, ownIds, AV.frz, AV.frzL, frzEnv, AV.shift, AV.shiftL, aFieldV, aSliceW, aSliceO, aSlice, aSliceR, aSliceS, aBd, aMax, frzAVs, frzAV, frzTab, AObj.frz, aMM, aNilS, aMay, aNil, aLenM, aClear, aLookup, aLookG, aMapUpd, aMapPut, keyV, aLookR, false_or, aExecU, tyE_22, tyA_23, tyS_23, tyE_23, tyK_23, tyK_3, tyA_3, tyS_3, tyK_22, tyR_23, hlt] | (with_reducible refine aIf_split (fun _ => ?_) (fun _ => ?_)) | (with_reducible refine aSel_split (fun _ => ?_) (fun _ => ?_)) | (with_reducible refine aGd_split (fun _ => ?_) (fun _ => ?_))))
  refine callM (sort_M b hbl) rfl trivial ?_
  (repeat' (first | simp (maxSteps := 5000000) (implicitDefEqProofs := false) only [ruA, ruB, aEv, aTake, aLoad, aField, aIndex, aLen, aBin, bin2, aUn, un1, aExtract, aConv, ASt.get, aget, ASt.put, aStore, aBox, aAppend, aBuildSlice, aMake, aBuild, aFill, oneParts, allC, aBinS, yv, aCells, oneC, oneCL, treeC, treeL, treeML, treeM_c, treeM_sl, treeM_rp, treeM_any, treeM_fn, treeM_bfn, aLit, aDst, aSrc, appTab, Value.cells, Value.oneCell', envOf, aResL, aOne, ↓reduceIte, reduceCtorEq, forall_const, Nat.reduceLT, Nat.reduceEqDiff, Nat.reduceAdd, Nat.reduceMul, Nat.reduceSub, Nat.reduceLeDiff, Nat.reduceBEq, eq_self, implies_true, ne_eq, dref, dref1, dref2, aExecS, aStoreB, aTakes, aTakeE, aElder, aFrom, aFresh, isLoad, aBuildSlice1, aDstN, aSrcN, aLitN, dref0, stripA, frzs, frz1, ownIds, AV.frz, AV.frzL, frzEnv, AV.shift, AV.shiftL, aFieldV, aSliceW, aSliceO, aSlice, aSliceR, aSliceS, aBd, aMax, frzAVs, frzAV, frzTab, AObj.frz, aMM, aNilS, aMay, aNil, aLenM, aClear, aLookup, aLookG, aMapUpd, aMapPut, keyV, aLookR, false_or, aExecU, tyE_22, tyA_23, tyS_23, tyE_23, tyK_23, tyK_3, tyA_3, tyS_3, tyK_22, tyR_23] | (with_reducible refine aIf_split (fun _ => ?_) (fun _ => ?_)) | (with_reducible refine aSel_split (fun _ => ?_) (fun _ => ?_)) | (with_reducible refine aGd_split (fun _ => ?_) (fun _ => ?_))))
  refine callUpd (compact_U _ (by rw [List.length_mergeSort]; exact hbl)) (rowsC_ints _) (rowsC_ints _) rfl (fun r hr => by
    obtain ⟨n, _, rfl⟩ := List.mem_map.1 hr
    exact ⟨rfl, fun x hx => by simp at hx; subst hx; rfl⟩) ?_
  (repeat' (first | simp (maxSteps := 5000000) (implicitDefEqProofs := false) only [ruA, ruB, aEv, aTake, aLoad, aField, aIndex, aLen, aBin, bin2, aUn, un1, aExtract, aConv, ASt.get, aget, ASt.put, aStore, aBox, aAppend, aBuildSlice, aMake, aBuild, aFill, oneParts, allC, aBinS, yv, aCells, oneC, oneCL, treeC, treeL, treeML, treeM_c, treeM_sl, treeM_rp, treeM_any, treeM_fn, treeM_bfn, aLit, aDst, aSrc, appTab, Value.cells, Value.oneCell', envOf, aResL, aOne, ↓reduceIte, reduceCtorEq, forall_const, Nat.reduceLT, Nat.reduceEqDiff, Nat.reduceAdd, Nat.reduceMul, Nat.reduceSub, Nat.reduceLeDiff, Nat.reduceBEq, eq_self, implies_true, ne_eq, dref, dref1, dref2, aExecS, aStoreB, aTakes, aTakeE, aElder, aFrom, aFresh, isLoad, aBuildSlice1, aDstN, aSrcN, aLitN, dref0, stripA, frzs, frz1, ownIds, AV.frz, AV.frzL, frzEnv, AV.shift, AV.shiftL, aFieldV, aSliceW, aSliceO, aSlice, aSliceR, aSliceS, aBd, aMax, frzAVs, frzAV, frzTab, AObj.frz, aMM, aNilS, aMay, aNil, aLenM, aClear, aLookup, aLookG, aMapUpd, aMapPut, keyV, aLookR, false_or, aExecU, tyE_22, tyA_23, tyS_23, tyE_23, tyK_23, tyK_3, tyA_3, tyS_3, tyK_22, tyR_23] | (with_reducible refine aIf_split (fun _ => ?_) (fun _ => ?_)) | (with_reducible refine aSel_split (fun _ => ?_) (fun _ => ?_)) | (with_reducible refine aGd_split (fun _ => ?_) (fun _ => ?_))))
  exact aGives_own (by simp [ATab.get_cons])
set_option maxRecDepth 100000 in
theorem max_A (l : List Int) (hl : l.length ≤ 1000000) (h0 : 0 < l.length) : ADet Tryd.prog 23 [sI l] (val (.int .i64 (maxF l))) := by
  refine adet_of_code mixedT Tryd.func23 rfl (by decide) Tryd.ntmps23 Tryd.results23 rfl (val_ok _) ?_
  have d0 : decide ((l.length : Int) < 1) = false := decide_eq_false (by omega)
  have hr := sI_at (l := l) (i := 0) (Int.le_refl 0) (by omega)
  have z0 : (0 : Int) < l.length := by omega
  have zt : Int.toNat 0 = 0 := rfl
  rw [zt] at hr
  have e0 : (l.take 1).foldl (fun a b => max a b) (l.headD 0) = l.getD 0 0 := by
    cases l with
    | nil => simp at h0
    | cons a r => simp [List.getD]
  (repeat' (first | simp (maxSteps := 5000000) (implicitDefEqProofs := false) only [ruA, ruB, aEv, aTake, aLoad, aField, aIndex, aLen, aBin, bin2, aUn, un1, aExtract, aConv, ASt.get, aget, ASt.put, aStore, aBox, aAppend, aBuildSlice, aMake, aBuild, aFill, oneParts, allC, aBinS, yv, aCells, oneC, oneCL, treeC, treeL, treeML, treeM_c, treeM_sl, treeM_rp, treeM_any, treeM_fn, treeM_bfn, aLit, aDst, aSrc, appTab, Value.cells, Value.oneCell', envOf, aResL, aOne, ↓reduceIte, reduceCtorEq, forall_const, Nat.reduceLT, Nat.reduceEqDiff, Nat.reduceAdd, Nat.reduceMul, Nat.reduceSub, Nat.reduceLeDiff, Nat.reduceBEq, eq_self, implies_true, ne_eq, dref, dref1, dref2, aExecS, aStoreB, aTakes, aTakeE, aElder, aFrom, aFresh, isLoad, aBuildSlice1, aDstN, aSrcN, aLitN, dref0, stripA, frzs, frz1, ownIds, AV.frz, AV.frzL, frzEnv, AV.shift, AV.shiftL, aFieldV, aSliceW, aSliceO, aSlice, aSliceR, aSliceS, aBd, aMax, frzAVs, frzAV, frzTab, AObj.frz, aMM, aNilS, aMay, aNil, aLenM, aClear, aLookup, aLookG, aMapUpd, aMapPut, keyV, aLookR, false_or, aExecU, tyE_23, tyK_23, tyK_3, tyA_3, tyS_3, d0, z0, h0, Int.le_refl, zt, hr] | (with_reducible refine aIf_split (fun _ => ?_) (fun _ => ?_)) | (with_reducible refine aSel_split (fun _ => ?_) (fun _ => ?_)) | (with_reducible refine aGd_split (fun _ => ?_) (fun _ => ?_))))
  refine aLoop_of (fun st => ∃ k : Nat, 1 ≤ k ∧ k ≤ l.length ∧ st = ⟨25, [(0, sI l), (3, eI ((l.take k).foldl (fun a b => max a b) (l.headD 0))), (4, eI (k : Int))], [], 0⟩) (fun st => l.length - slotN st 4) ⟨_, ?_, 1, Nat.le_refl _, h0, rfl⟩ ?_
  · exact weak_cut1 ⟨rfl, ⟨⟨rfl, by rw [e0]; rfl, rfl, trivial⟩, trivial⟩, ⟨trivial, trivial, trivial, trivial⟩, trivial⟩
  rintro _ ⟨k, hk1, hk, rfl⟩
  by_cases hlt : k < l.length
  · have hrx := sI_at (l := l) (i := (k : Int)) (by omega) (by omega)
    have e1 : (l.take (k + 1)).foldl (fun a b => max a b) (l.headD 0) = max ((l.take k).foldl (fun a b => max a b) (l.headD 0)) (l.getD k 0) := by
      rw [List.take_succ_eq_append_getElem hlt, List.foldl_append]
      simp [List.getD, hlt]
    rw [Int.toNat_natCast] at hrx
    (repeat' (first | simp (maxSteps := 5000000) (implicitDefEqProofs := false) only [ruA, ruB, aEv, aTake, aLoad, aField, aIndex, aLen, aBin, bin2, aUn, un1, aExtract, aConv, ASt.get, aget, ASt.put, aStore, aBox, aAppend, aBuildSlice, aMake, aBuild, aFill, oneParts, allC, aBinS, yv, aCells, oneC, oneCL, treeC, treeL, treeML, treeM_c, treeM_sl, treeM_rp, treeM_any, treeM_fn, treeM_bfn, aLit, aDst, aSrc, appTab, Value.cells, Value.oneCell', envOf, aResL, aOne, ↓reduceIte, reduceCtorEq, forall_const, Nat.reduceLT, Nat.reduceEqDiff, Nat.reduceAdd, Nat.reduceMul, Nat.reduceSub, Nat.reduceLeDiff, Nat.reduceBEq, eq_self, implies_true, ne_eq, dref, dref1, dref2, aExecS, aStoreB, aTakes, aTakeE, aElder, aFrom, aFresh, isLoad, aBuildSlice1, aDstN, aSrcN, aLitN, dref0, stripA, frzs, frz1, ownIds, AV.frz, AV.frzL, frzEnv, AV.shift, AV.shiftL, aFieldV, aSliceW, aSliceO, aSlice, aSliceR, aSliceS, aBd, aMax, frzAVs, frzAV, frzTab, AObj.frz, aMM, aNilS, aMay, aNil, aLenM, aClear, aLookup, aLookG, aMapUpd, aMapPut, keyV, aLookR, false_or, aExecU, tyE_23, tyK_23, tyK_3, tyA_3, tyS_3, hlt, hrx] | (with_reducible refine aIf_split (fun _ => ?_) (fun _ => ?_)) | (with_reducible refine aSel_split (fun _ => ?_) (fun _ => ?_)) | (with_reducible refine aGd_split (fun _ => ?_) (fun _ => ?_))))
    exact roundI (weak_cut1 (by (first | ((simp only [envIn, tabIn, envLt, tabLt, AObj.lt, AV.lt, AV.ltL, ruW, ASt.get, aget, ASt.put, ↓reduceIte, reduceCtorEq, Nat.reduceLT, Nat.reduceEqDiff, Nat.reduceAdd, Nat.reduceLeDiff, eq_self, implies_true, e1]) <;> (repeat' apply And.intro) <;> first | (rw [wrapK (by omega)]; done) | (simp; done) | omega) | fail))) ⟨k + 1, by omega, by omega, rfl⟩ (by simp only [slotN, ruW, ASt.get, aget, ASt.put, ↓reduceIte, reduceCtorEq, Nat.reduceLT, Nat.reduceEqDiff, Nat.reduceAdd, Nat.reduceLeDiff, eq_self, implies_true]; omega)
  obtain rfl : k = l.length := by omega
  (repeat' (first | simp (maxSteps := 5000000) (implicitDefEqProofs := false) only [ruA, ruB, aEv, aTake, aLoad, aField, aIndex, aLen, aBin, bin2, aUn, un1, aExtract, aConv, ASt.get, aget, ASt.put, aStore, aBox, aAppend, aBuildSlice, aMake, aBuild, aFill, oneParts, allC, aBinS, yv, aCells, oneC, oneCL, treeC, treeL, treeML, treeM_c, treeM_sl, treeM_rp, treeM_any, treeM_fn, treeM_bfn, aLit, aDst, aSrc, appTab, Value.cells, Value.oneCell', envOf, aResL, aOne, ↓reduceIte, reduceCtorEq, forall_const, Nat.reduceLT, Nat.reduceEqDiff, Nat.reduceAdd, Nat.reduceMul, Nat.reduceSub, Nat.reduceLeDiff, Nat.reduceBEq, eq_self, implies_true, ne_eq, dref, dref1, dref2, aExecS, aStoreB, aTakes, aTakeE, aElder, aFrom, aFresh, isLoad, aBuildSlice1, aDstN, aSrcN, aLitN, dref0, stripA, frzs, frz1, ownIds, AV.frz, AV.frzL, frzEnv, AV.shift, AV.shiftL, aFieldV, aSliceW, aSliceO, aSlice, aSliceR, aSliceS, aBd, aMax, frzAVs, frzAV, frzTab, AObj.frz, aMM, aNilS, aMay, aNil, aLenM, aClear, aLookup, aLookG, aMapUpd, aMapPut, keyV, aLookR, false_or, aExecU, tyE_23, tyK_23, tyK_3, tyA_3, tyS_3, hlt] | (with_reducible refine aIf_split (fun _ => ?_) (fun _ => ?_)) | (with_reducible refine aSel_split (fun _ => ?_) (fun _ => ?_)) | (with_reducible refine aGd_split (fun _ => ?_) (fun _ => ?_))))
  simp [maxF]
set_option maxRecDepth 100000 in
theorem many_A (l : List Int) (hl : l.length ≤ 1000000) (hb : ∀ x ∈ l, 0 ≤ x ∧ x ≤ 1000000) : ADet Tryd.prog 18 [sI l] (val (.int .i64 (manyF l))) := by
  refine adet_of_code mixedT Tryd.func18 rfl (by decide) Tryd.ntmps18 Tryd.results18 rfl (val_ok _) ?_
  by_cases h0 : l = []
  · subst h0
    have q1 : (((0 : Nat) : Int) == 0) = true := rfl
    (repeat' (first | simp (maxSteps := 5000000) (implicitDefEqProofs := false) only [ruA, ruB, aEv, aTake, aLoad, aField, aIndex, aLen, aBin, bin2, aUn, un1, aExtract, aConv, ASt.get, aget, ASt.put, aStore, aBox, aAppend, aBuildSlice, aMake, aBuild, aFill, oneParts, allC, aBinS, yv, aCells, oneC, oneCL, treeC, treeL, treeML, treeM_c, treeM_sl, treeM_rp, treeM_any, treeM_fn, treeM_bfn, aLit, aDst, aSrc, appTab, Value.cells, Value.oneCell', envOf, aResL, aOne, ↓reduceIte, reduceCtorEq, forall_const, Nat.reduceLT, Nat.reduceEqDiff, Nat.reduceAdd, Nat.reduceMul, Nat.reduceSub, Nat.reduceLeDiff, Nat.reduceBEq, eq_self, implies_true, ne_eq, dref, dref1, dref2, aExecS, aStoreB, aTakes, aTakeE, aElder, aFrom, aFresh, isLoad, aBuildSlice1, aDstN, aSrcN, aLitN, dref0, stripA, frzs, frz1, ownIds, AV.frz, AV.frzL, frzEnv, AV.shift, AV.shiftL, aFieldV, aSliceW, aSliceO, aSlice, aSliceR, aSliceS, aBd, aMax, frzAVs, frzAV, frzTab, AObj.frz, aMM, aNilS, aMay, aNil, aLenM, aClear, aLookup, aLookG, aMapUpd, aMapPut, keyV, aLookR, false_or, aExecU, tyE_23, tyK_23, tyK_3, List.map_nil, List.length_nil, q1] | (with_reducible refine aIf_split (fun _ => ?_) (fun _ => ?_)) | (with_reducible refine aSel_split (fun _ => ?_) (fun _ => ?_)) | (with_reducible refine aGd_split (fun _ => ?_) (fun _ => ?_))))
    rfl
  · have hp : 0 < l.length := List.length_pos_iff.2 h0
    have q1 : ((l.length : Int) == 0) = false := beq_eq_false_iff_ne.2 (by omega)
    have e : manyF l = maxF l + 1 := if_neg h0
    have hm : 0 ≤ maxF l ∧ maxF l ≤ 1000000 := by
      obtain ⟨h1, h2, h3⟩ := foldl_max l (l.headD 0)
      have hh : l.headD 0 ∈ l := by
        cases l with
        | nil => exact absurd rfl h0
        | cons a r => simp
      unfold maxF
      rcases h3 with h3 | h3
      · rw [h3]; exact hb _ hh
      · exact hb _ h3
    have hw : IntKind.i64.wrap (maxF l + 1) = maxF l + 1 := wrap_in (by omega) (by omega)
    rw [e]
    (repeat' (first | simp (maxSteps := 5000000) (implicitDefEqProofs := false) only [ruA, ruB, aEv, aTake, aLoad, aField, aIndex, aLen, aBin, bin2, aUn, un1, aExtract, aConv, ASt.get, aget, ASt.put, aStore, aBox, aAppend, aBuildSlice, aMake, aBuild, aFill, oneParts, allC, aBinS, yv, aCells, oneC, oneCL, treeC, treeL, treeML, treeM_c, treeM_sl, treeM_rp, treeM_any, treeM_fn, treeM_bfn, aLit, aDst, aSrc, appTab, Value.cells, Value.oneCell', envOf, aResL, aOne, ↓reduceIte, reduceCtorEq, forall_const, Nat.reduceLT, Nat.reduceEqDiff, Nat.reduceAdd, Nat.reduceMul, Nat.reduceSub, Nat.reduceLeDiff, Nat.reduceBEq, eq_self, implies_true, ne_eq, dref, dref1, dref2, aExecS, aStoreB, aTakes, aTakeE, aElder, aFrom, aFresh, isLoad, aBuildSlice1, aDstN, aSrcN, aLitN, dref0, stripA, frzs, frz1, ownIds, AV.frz, AV.frzL, frzEnv, AV.shift, AV.shiftL, aFieldV, aSliceW, aSliceO, aSlice, aSliceR, aSliceS, aBd, aMax, frzAVs, frzAV, frzTab, AObj.frz, aMM, aNilS, aMay, aNil, aLenM, aClear, aLookup, aLookG, aMapUpd, aMapPut, keyV, aLookR, false_or, aExecU, tyE_23, tyK_23, tyK_3, q1] | (with_reducible refine aIf_split (fun _ => ?_) (fun _ => ?_)) | (with_reducible refine aSel_split (fun _ => ?_) (fun _ => ?_)) | (with_reducible refine aGd_split (fun _ => ?_) (fun _ => ?_))))
    refine callV (max_A l hl hp) ?_
    (repeat' (first | simp (maxSteps := 5000000) (implicitDefEqProofs := false) only [ruA, ruB, aEv, aTake, aLoad, aField, aIndex, aLen, aBin, bin2, aUn, un1, aExtract, aConv, ASt.get, aget, ASt.put, aStore, aBox, aAppend, aBuildSlice, aMake, aBuild, aFill, oneParts, allC, aBinS, yv, aCells, oneC, oneCL, treeC, treeL, treeML, treeM_c, treeM_sl, treeM_rp, treeM_any, treeM_fn, treeM_bfn, aLit, aDst, aSrc, appTab, Value.cells, Value.oneCell', envOf, aResL, aOne, ↓reduceIte, reduceCtorEq, forall_const, Nat.reduceLT, Nat.reduceEqDiff, Nat.reduceAdd, Nat.reduceMul, Nat.reduceSub, Nat.reduceLeDiff, Nat.reduceBEq, eq_self, implies_true, ne_eq, dref, dref1, dref2, aExecS, aStoreB, aTakes, aTakeE, aElder, aFrom, aFresh, isLoad, aBuildSlice1, aDstN, aSrcN, aLitN, dref0, stripA, frzs, frz1, ownIds, AV.frz, AV.frzL, frzEnv, AV.shift, AV.shiftL, aFieldV, aSliceW, aSliceO, aSlice, aSliceR, aSliceS, aBd, aMax, frzAVs, frzAV, frzTab, AObj.frz, aMM, aNilS, aMay, aNil, aLenM, aClear, aLookup, aLookG, aMapUpd, aMapPut, keyV, aLookR, false_or, aExecU, tyE_23, tyK_23, tyK_3, hw] | (with_reducible refine aIf_split (fun _ => ?_) (fun _ => ?_)) | (with_reducible refine aSel_split (fun _ => ?_) (fun _ => ?_)) | (with_reducible refine aGd_split (fun _ => ?_) (fun _ => ?_))))
end
section
open Go.RowKit
def toQ (l : List UInt8) : ByteArray := ⟨l.toArray⟩
theorem toQ_inj {a b : List UInt8} (h : toQ a = toQ b) : a = b := by
  have := congrArg (fun x : ByteArray => x.data.toList) h
  simpa [toQ] using this
theorem toQ_append (a b : List UInt8) : toQ a ++ toQ b = toQ (a ++ b) := by
  apply ByteArray.ext
  simp [toQ]
theorem itoaB_toQ (n : Int) : itoaB n = toQ (Lib.itoa n) := rfl
theorem size_toQ (l : List UInt8) : (toQ l).size = l.length := by
  show (toQ l).data.size = _
  simp [toQ]
theorem dec_len : ∀ (k u : Nat), u < 10 ^ (k + 1) → (Lib.decDigits u).length ≤ k + 1
  | 0, u, h => by
    rw [Lib.decDigits, dif_pos (by simpa using h)]
    simp
  | k + 1, u, h => by
    rw [Lib.decDigits]
    split
    · simp
    · have := dec_len k (u / 10) (by rw [Nat.pow_succ] at h; omega)
      rw [List.length_append, List.length_singleton]
      omega
theorem itoa_len {n : Int} (h : ok64 n) : (Lib.itoa n).length ≤ 20 := by
  have hp : (10 : Nat) ^ (18 + 1) = 10000000000000000000 := by decide
  obtain ⟨h1, h2⟩ := h
  unfold Lib.itoa
  split
  · have := dec_len 18 n.natAbs (by omega)
    rw [List.length_cons]
    omega
  · have := dec_len 18 n.toNat (by omega)
    omega
theorem tail_len : ∀ (l : List Int), (∀ n ∈ l, ok64 n) → (Lib.joinTail [32] (l.map Lib.itoa)).length ≤ 21 * l.length
  | [], _ => by simp [Lib.joinTail]
  | n :: l, h => by
    have h1 := itoa_len (h n (List.mem_cons_self ..))
    have h2 := tail_len l fun x hx => h x (List.mem_cons_of_mem _ hx)
    have e : Lib.joinTail [32] ((n :: l).map Lib.itoa) = 32 :: (Lib.itoa n ++ Lib.joinTail [32] (l.map Lib.itoa)) := rfl
    rw [e, List.length_cons, List.length_append, List.length_cons]
    omega
theorem numsT_snoc (n : Int) (l : List Int) (x : Int) : numsT (n :: (l ++ [x])) = numsT (n :: l) ++ (32 :: Lib.itoa x) := by
  rw [numsT_cons, numsT_cons]
  simp [Lib.joinTail]
theorem numsT_len {n : Int} {l : List Int} (hn : ok64 n) (h : ∀ x ∈ l, ok64 x) : (numsT (n :: l)).length ≤ 21 * (l.length + 1) := by
  rw [numsT_cons, List.length_append]
  have h1 := itoa_len hn
  have h2 := tail_len l h
  omega
theorem behF_ok {next : List (List Int)} {c : List Int} {i : Nat} (hc : ∀ x ∈ c, ok64 x) : ∀ x ∈ behF next c i, ok64 x := by
  intro x hx
  unfold behF at hx
  rw [sortL_eq] at hx
  obtain ⟨y, _, _, rfl⟩ := behS_mem.1 (((sortR_up _).2 x).1 hx)
  exact atQ_ok hc y
theorem behF_len {next : List (List Int)} {c : List Int} {i : Nat} (hr : ∀ r ∈ next, r.length ≤ 1000) : (behF next c i).length ≤ 1000 := by
  unfold behF
  rw [sortL_eq]
  have h1 := sortR_len (behS next c i)
  have h2 : (behS next c i).length ≤ 1000 := by
    unfold behS
    rw [List.length_map]
    have h3 := List.length_filter_le (inQ next.length) (next.getD i [])
    have h4 : (next.getD i []).length ≤ 1000 := by
      by_cases hi : i < next.length
      · simp [List.getD, hi]
        exact hr _ (List.getElem_mem hi)
      · simp [List.getD, List.getElem?_eq_none (Nat.le_of_not_lt hi)]
    omega
  omega
def keyB (next : List (List Int)) (c : List Int) (i : Nat) : ByteArray := toQ (numsT (keyQ next c i))
theorem keyB_inj {next : List (List Int)} {c : List Int} {i j : Nat} (h : keyB next c i = keyB next c j) : keyQ next c i = keyQ next c j := numsT_inj (toQ_inj h)
set_option maxRecDepth 100000 in
set_option maxHeartbeats 4000000 in
theorem key_A (next : List (List Int)) (c : List Int) (i : Nat) (hn : next.length ≤ 1000) (hr : ∀ r ∈ next, r.length ≤ 1000) (hc : c.length ≤ 1000000) (hco : ∀ x ∈ c, ok64 x) (hi : i < next.length) :
    ADet Tryd.prog 17 [sNx next, sI c, eI (i : Int)] (val (.string (keyB next c i))) := by
  refine adet_of_code mixedT Tryd.func17 rfl (by decide) Tryd.ntmps17 Tryd.results17 rfl (val_ok _) ?_
  obtain ⟨b, hb⟩ : ∃ b, b = behF next c i := ⟨_, rfl⟩
  have hbl : b.length ≤ 1000 := hb ▸ behF_len hr
  have hbo : ∀ x ∈ b, ok64 x := hb ▸ behF_ok hco
  have ha := atQ_ok hco (i : Int)
  have hbeh := behind_A next c i hn hr hc hi
  rw [← hb] at hbeh
  have hkey : keyB next c i = toQ (numsT (atQ c i :: b)) := by rw [keyB, keyQ, hb]
  rw [hkey]
  obtain ⟨a, haa⟩ : ∃ a, a = atQ c (i : Int) := ⟨_, rfl⟩
  have hatc := atQ_A c (i : Int) hc
  rw [← haa] at ha hatc ⊢
  have e0 : toQ (numsT [a]) = itoaB a := by rw [numsT_cons]; simp [Lib.joinTail, itoaB_toQ]
  (repeat' (first | simp (maxSteps := 5000000) (implicitDefEqProofs := false) only [ruA, ruB, aEv, aTake, aLoad, aField, aIndex, aLen, aBin, bin2, aUn, un1, aExtract, aConv, ASt.get, aget, ASt.put, aStore, aBox, aAppend, aBuildSlice, aMake, aBuild, aFill, oneParts, allC, aBinS, yv, aCells, oneC, oneCL, treeC, treeL, treeML, treeM_c, treeM_sl, treeM_rp, treeM_any, treeM_fn, treeM_bfn, aLit, aDst, aSrc, appTab, Value.cells, Value.oneCell', envOf, aResL, aOne, ↓reduceIte, reduceCtorEq, forall_const, Nat.reduceLT, Nat.reduceEqDiff, Nat.reduceAdd, Nat.reduceMul, Nat.reduceSub, Nat.reduceLeDiff, Nat.reduceBEq, eq_self, implies_true, ne_eq, dref, dref1, dref2, aExecS, aStoreB, aTakes, aTakeE, aElder, aFrom, aFresh, isLoad, aBuildSlice1, aDstN, aSrcN, aLitN, dref0, stripA, frzs, frz1, ownIds, AV.frz, AV.frzL, frzEnv, AV.shift, AV.shiftL, aFieldV, aSliceW, aSliceO, aSlice, aSliceR, aSliceS, aBd, aMax, frzAVs, frzAV, frzTab, AObj.frz, aMM, aNilS, aMay, aNil, aLenM, aClear, aLookup, aLookG, aMapUpd, aMapPut, keyV, aLookR, false_or, aExecU, tyE_23, tyK_23, tyK_3, tyA_3, tyS_3, tyK_9] | (with_reducible refine aIf_split (fun _ => ?_) (fun _ => ?_)) | (with_reducible refine aSel_split (fun _ => ?_) (fun _ => ?_)) | (with_reducible refine aGd_split (fun _ => ?_) (fun _ => ?_))))
  refine callV hatc ?_
  (repeat' (first | simp (maxSteps := 5000000) (implicitDefEqProofs := false) only [ruA, ruB, aEv, aTake, aLoad, aField, aIndex, aLen, aBin, bin2, aUn, un1, aExtract, aConv, ASt.get, aget, ASt.put, aStore, aBox, aAppend, aBuildSlice, aMake, aBuild, aFill, oneParts, allC, aBinS, yv, aCells, oneC, oneCL, treeC, treeL, treeML, treeM_c, treeM_sl, treeM_rp, treeM_any, treeM_fn, treeM_bfn, aLit, aDst, aSrc, appTab, Value.cells, Value.oneCell', envOf, aResL, aOne, ↓reduceIte, reduceCtorEq, forall_const, Nat.reduceLT, Nat.reduceEqDiff, Nat.reduceAdd, Nat.reduceMul, Nat.reduceSub, Nat.reduceLeDiff, Nat.reduceBEq, eq_self, implies_true, ne_eq, dref, dref1, dref2, aExecS, aStoreB, aTakes, aTakeE, aElder, aFrom, aFresh, isLoad, aBuildSlice1, aDstN, aSrcN, aLitN, dref0, stripA, frzs, frz1, ownIds, AV.frz, AV.frzL, frzEnv, AV.shift, AV.shiftL, aFieldV, aSliceW, aSliceO, aSlice, aSliceR, aSliceS, aBd, aMax, frzAVs, frzAV, frzTab, AObj.frz, aMM, aNilS, aMay, aNil, aLenM, aClear, aLookup, aLookG, aMapUpd, aMapPut, keyV, aLookR, false_or, aExecU, tyE_23, tyK_23, tyK_3, tyA_3, tyS_3, tyK_9] | (with_reducible refine aIf_split (fun _ => ?_) (fun _ => ?_)) | (with_reducible refine aSel_split (fun _ => ?_) (fun _ => ?_)) | (with_reducible refine aGd_split (fun _ => ?_) (fun _ => ?_))))
  refine callV (print_A a ha) ?_
  (repeat' (first | simp (maxSteps := 5000000) (implicitDefEqProofs := false) only [ruA, ruB, aEv, aTake, aLoad, aField, aIndex, aLen, aBin, bin2, aUn, un1, aExtract, aConv, ASt.get, aget, ASt.put, aStore, aBox, aAppend, aBuildSlice, aMake, aBuild, aFill, oneParts, allC, aBinS, yv, aCells, oneC, oneCL, treeC, treeL, treeML, treeM_c, treeM_sl, treeM_rp, treeM_any, treeM_fn, treeM_bfn, aLit, aDst, aSrc, appTab, Value.cells, Value.oneCell', envOf, aResL, aOne, ↓reduceIte, reduceCtorEq, forall_const, Nat.reduceLT, Nat.reduceEqDiff, Nat.reduceAdd, Nat.reduceMul, Nat.reduceSub, Nat.reduceLeDiff, Nat.reduceBEq, eq_self, implies_true, ne_eq, dref, dref1, dref2, aExecS, aStoreB, aTakes, aTakeE, aElder, aFrom, aFresh, isLoad, aBuildSlice1, aDstN, aSrcN, aLitN, dref0, stripA, frzs, frz1, ownIds, AV.frz, AV.frzL, frzEnv, AV.shift, AV.shiftL, aFieldV, aSliceW, aSliceO, aSlice, aSliceR, aSliceS, aBd, aMax, frzAVs, frzAV, frzTab, AObj.frz, aMM, aNilS, aMay, aNil, aLenM, aClear, aLookup, aLookG, aMapUpd, aMapPut, keyV, aLookR, false_or, aExecU, tyE_23, tyK_23, tyK_3, tyA_3, tyS_3, tyK_9] | (with_reducible refine aIf_split (fun _ => ?_) (fun _ => ?_)) | (with_reducible refine aSel_split (fun _ => ?_) (fun _ => ?_)) | (with_reducible refine aGd_split (fun _ => ?_) (fun _ => ?_))))
  refine callO hbeh (.inl (by simp [roL, roA, treeL, treeC])) ?_
  (repeat' (first | simp (maxSteps := 5000000) (implicitDefEqProofs := false) only [ruA, ruB, aEv, aTake, aLoad, aField, aIndex, aLen, aBin, bin2, aUn, un1, aExtract, aConv, ASt.get, aget, ASt.put, aStore, aBox, aAppend, aBuildSlice, aMake, aBuild, aFill, oneParts, allC, aBinS, yv, aCells, oneC, oneCL, treeC, treeL, treeML, treeM_c, treeM_sl, treeM_rp, treeM_any, treeM_fn, treeM_bfn, aLit, aDst, aSrc, appTab, Value.cells, Value.oneCell', envOf, aResL, aOne, ↓reduceIte, reduceCtorEq, forall_const, Nat.reduceLT, Nat.reduceEqDiff, Nat.reduceAdd, Nat.reduceMul, Nat.reduceSub, Nat.reduceLeDiff, Nat.reduceBEq, eq_self, implies_true, ne_eq, dref, dref1, dref2, aExecS, aStoreB, aTakes, aTakeE, aElder, aFrom, aFresh, isLoad, aBuildSlice1, aDstN, aSrcN, aLitN, dref0, stripA, frzs, frz1, ownIds, AV.frz, AV.frzL, frzEnv, AV.shift, AV.shiftL, aFieldV, aSliceW, aSliceO, aSlice, aSliceR, aSliceS, aBd, aMax, frzAVs, frzAV, frzTab, AObj.frz, aMM, aNilS, aMay, aNil, aLenM, aClear, aLookup, aLookG, aMapUpd, aMapPut, keyV, aLookR, false_or, aExecU, tyE_23, tyK_23, tyK_3, tyA_3, tyS_3, tyK_9] | (with_reducible refine aIf_split (fun _ => ?_) (fun _ => ?_)) | (with_reducible refine aSel_split (fun _ => ?_) (fun _ => ?_)) | (with_reducible refine aGd_split (fun _ => ?_) (fun _ => ?_))))
  refine aLoop_of (fun st => ∃ k : Nat, k ≤ b.length ∧ st = ⟨30, [(7, .c (.string (toQ (numsT (a :: b.take k))))), (17, .osl 0), (18, eI (b.length : Int)), (19, eI (k : Int))], [(0, some (.row 3 1 (eIs b)))], 1⟩) (fun st => b.length - slotN st 19) ⟨_, (weak_ren1 [0] ⟨(by decide), (by (first | ((simp only [envInR, tabInR, envLt, tabLt, AObj.lt, AV.lt, AV.ltL, AV.ren, AV.renL, AObj.ren, List.getD_cons_zero, List.getD_cons_succ, List.length_cons, List.length_nil, ruW, ASt.get, aget, ASt.put, ↓reduceIte, reduceCtorEq, Nat.reduceLT, Nat.reduceEqDiff, Nat.reduceAdd, Nat.reduceLeDiff, eq_self, implies_true, List.take_zero, e0]) <;> (repeat' apply And.intro) <;> first | (rw [wrapK (by omega)]; done) | (simp; done) | omega) | fail))⟩), 0, Nat.zero_le _, rfl⟩ ?_
  rintro _ ⟨k, hk, rfl⟩
  by_cases hlt : k < b.length
  · obtain ⟨x, hxx⟩ : ∃ x, x = b[k] := ⟨_, rfl⟩
    have hxo : ok64 x := hxx ▸ hbo _ (List.getElem_mem hlt)
    have hrx : (eIs b)[k]?.getD [] = [eI x] := by rw [hxx]; simp [hlt]
    have hl1 := numsT_len (n := a) (l := b.take k) ha (fun y hy => hbo y (List.mem_of_mem_take hy))
    have hl2 := itoa_len hxo
    have hl3 : (b.take k).length ≤ 1000 := by have := List.length_take_le k b; omega
    have hsn : toQ (numsT (a :: b.take (k + 1))) = toQ (numsT (a :: b.take k)) ++ (⟨#[32]⟩ ++ itoaB x) := by
      rw [List.take_succ_eq_append_getElem hlt, ← hxx, numsT_snoc]
      show _ = _ ++ (toQ [32] ++ toQ (Lib.itoa x))
      rw [toQ_append, toQ_append]
      rfl
    have s1 : (⟨#[32]⟩ : ByteArray).size + (itoaB x).size ≤ 9223372036854775807 := by
      show (toQ [32]).size + (toQ (Lib.itoa x)).size ≤ _
      rw [size_toQ, size_toQ]
      simp
      omega
    have s2 : (toQ (numsT (a :: b.take k))).size + ((⟨#[32]⟩ : ByteArray) ++ itoaB x).size ≤ 9223372036854775807 := by
      show _ + (toQ [32] ++ toQ (Lib.itoa x)).size ≤ _
      rw [toQ_append, size_toQ, size_toQ]
      simp
      omega
    (repeat' (first | simp (maxSteps := 5000000) (implicitDefEqProofs := false) only [ruA, ruB, aEv, aTake, aLoad, aField, aIndex, aLen, aBin, bin2, aUn, un1, aExtract, aConv, ASt.get, aget, ASt.put, aStore, aBox, aAppend, aBuildSlice, aMake, aBuild, aFill, oneParts, allC, aBinS, yv, aCells, oneC, oneCL, treeC, treeL, treeML, treeM_c, treeM_sl, treeM_rp, treeM_any, treeM_fn, treeM_bfn, aLit, aDst, aSrc, appTab, Value.cells, Value.oneCell', envOf, aResL, aOne, ↓reduceIte, reduceCtorEq, forall_const, Nat.reduceLT, Nat.reduceEqDiff, Nat.reduceAdd, Nat.reduceMul, Nat.reduceSub, Nat.reduceLeDiff, Nat.reduceBEq, eq_self, implies_true, ne_eq, dref, dref1, dref2, aExecS, aStoreB, aTakes, aTakeE, aElder, aFrom, aFresh, isLoad, aBuildSlice1, aDstN, aSrcN, aLitN, dref0, stripA, frzs, frz1, ownIds, AV.frz, AV.frzL, frzEnv, AV.shift, AV.shiftL, aFieldV, aSliceW, aSliceO, aSlice, aSliceR, aSliceS, aBd, aMax, frzAVs, frzAV, frzTab, AObj.frz, aMM, aNilS, aMay, aNil, aLenM, aClear, aLookup, aLookG, aMapUpd, aMapPut, keyV, aLookR, false_or, aExecU, tyE_23, tyK_23, tyK_3, tyA_3, tyS_3, tyK_9, hrx, hlt] | (with_reducible refine aIf_split (fun _ => ?_) (fun _ => ?_)) | (with_reducible refine aSel_split (fun _ => ?_) (fun _ => ?_)) | (with_reducible refine aGd_split (fun _ => ?_) (fun _ => ?_))))
    refine callV (print_A x hxo) ?_
    (repeat' (first | simp (maxSteps := 5000000) (implicitDefEqProofs := false) only [ruA, ruB, aEv, aTake, aLoad, aField, aIndex, aLen, aBin, bin2, aUn, un1, aExtract, aConv, ASt.get, aget, ASt.put, aStore, aBox, aAppend, aBuildSlice, aMake, aBuild, aFill, oneParts, allC, aBinS, yv, aCells, oneC, oneCL, treeC, treeL, treeML, treeM_c, treeM_sl, treeM_rp, treeM_any, treeM_fn, treeM_bfn, aLit, aDst, aSrc, appTab, Value.cells, Value.oneCell', envOf, aResL, aOne, ↓reduceIte, reduceCtorEq, forall_const, Nat.reduceLT, Nat.reduceEqDiff, Nat.reduceAdd, Nat.reduceMul, Nat.reduceSub, Nat.reduceLeDiff, Nat.reduceBEq, eq_self, implies_true, ne_eq, dref, dref1, dref2, aExecS, aStoreB, aTakes, aTakeE, aElder, aFrom, aFresh, isLoad, aBuildSlice1, aDstN, aSrcN, aLitN, dref0, stripA, frzs, frz1, ownIds, AV.frz, AV.frzL, frzEnv, AV.shift, AV.shiftL, aFieldV, aSliceW, aSliceO, aSlice, aSliceR, aSliceS, aBd, aMax, frzAVs, frzAV, frzTab, AObj.frz, aMM, aNilS, aMay, aNil, aLenM, aClear, aLookup, aLookG, aMapUpd, aMapPut, keyV, aLookR, false_or, aExecU, tyE_23, tyK_23, tyK_3, tyA_3, tyS_3, tyK_9, s1, s2] | (with_reducible refine aIf_split (fun _ => ?_) (fun _ => ?_)) | (with_reducible refine aSel_split (fun _ => ?_) (fun _ => ?_)) | (with_reducible refine aGd_split (fun _ => ?_) (fun _ => ?_))))
    exact roundI (weak_ren1 [0] ⟨(by decide), (by (first | ((simp only [envInR, tabInR, envLt, tabLt, AObj.lt, AV.lt, AV.ltL, AV.ren, AV.renL, AObj.ren, List.getD_cons_zero, List.getD_cons_succ, List.length_cons, List.length_nil, ruW, ASt.get, aget, ASt.put, ↓reduceIte, reduceCtorEq, Nat.reduceLT, Nat.reduceEqDiff, Nat.reduceAdd, Nat.reduceLeDiff, eq_self, implies_true, hsn]) <;> (repeat' apply And.intro) <;> first | (rw [wrapK (by omega)]; done) | (simp; done) | omega) | fail))⟩) ⟨k + 1, by omega, rfl⟩ (by simp only [slotN, ruW, ASt.get, aget, ASt.put, ↓reduceIte, reduceCtorEq, Nat.reduceLT, Nat.reduceEqDiff, Nat.reduceAdd, Nat.reduceLeDiff, eq_self, implies_true]; omega)
  obtain rfl : k = b.length := by omega
  (repeat' (first | simp (maxSteps := 5000000) (implicitDefEqProofs := false) only [ruA, ruB, aEv, aTake, aLoad, aField, aIndex, aLen, aBin, bin2, aUn, un1, aExtract, aConv, ASt.get, aget, ASt.put, aStore, aBox, aAppend, aBuildSlice, aMake, aBuild, aFill, oneParts, allC, aBinS, yv, aCells, oneC, oneCL, treeC, treeL, treeML, treeM_c, treeM_sl, treeM_rp, treeM_any, treeM_fn, treeM_bfn, aLit, aDst, aSrc, appTab, Value.cells, Value.oneCell', envOf, aResL, aOne, ↓reduceIte, reduceCtorEq, forall_const, Nat.reduceLT, Nat.reduceEqDiff, Nat.reduceAdd, Nat.reduceMul, Nat.reduceSub, Nat.reduceLeDiff, Nat.reduceBEq, eq_self, implies_true, ne_eq, dref, dref1, dref2, aExecS, aStoreB, aTakes, aTakeE, aElder, aFrom, aFresh, isLoad, aBuildSlice1, aDstN, aSrcN, aLitN, dref0, stripA, frzs, frz1, ownIds, AV.frz, AV.frzL, frzEnv, AV.shift, AV.shiftL, aFieldV, aSliceW, aSliceO, aSlice, aSliceR, aSliceS, aBd, aMax, frzAVs, frzAV, frzTab, AObj.frz, aMM, aNilS, aMay, aNil, aLenM, aClear, aLookup, aLookG, aMapUpd, aMapPut, keyV, aLookR, false_or, aExecU, tyE_23, tyK_23, tyK_3, tyA_3, tyS_3, tyK_9, hlt, List.take_length] | (with_reducible refine aIf_split (fun _ => ?_) (fun _ => ?_)) | (with_reducible refine aSel_split (fun _ => ?_) (fun _ => ?_)) | (with_reducible refine aGd_split (fun _ => ?_) (fun _ => ?_))))
set_option maxRecDepth 100000 in
theorem cls1_A (col : List Int) (i : Nat) (hl : col.length ≤ 1000000) (ho : ∀ x ∈ col, ok64 x) : ADet Tryd.prog 13 [eI (i : Int), .rp [sI col]] (val (.string (itoaB (atQ col (i : Int))))) := by
  refine adet_of_code mixedT Tryd.func13 rfl (by decide) Tryd.ntmps13 Tryd.results13 rfl (val_ok _) ?_
  (repeat' (first | simp (maxSteps := 5000000) (implicitDefEqProofs := false) only [ruA, ruB, aEv, aTake, aLoad, aField, aIndex, aLen, aBin, bin2, aUn, un1, aExtract, aConv, ASt.get, aget, ASt.put, aStore, aBox, aAppend, aBuildSlice, aMake, aBuild, aFill, oneParts, allC, aBinS, yv, aCells, oneC, oneCL, treeC, treeL, treeML, treeM_c, treeM_sl, treeM_rp, treeM_any, treeM_fn, treeM_bfn, aLit, aDst, aSrc, appTab, Value.cells, Value.oneCell', envOf, aResL, aOne, ↓reduceIte, reduceCtorEq, forall_const, Nat.reduceLT, Nat.reduceEqDiff, Nat.reduceAdd, Nat.reduceMul, Nat.reduceSub, Nat.reduceLeDiff, Nat.reduceBEq, eq_self, implies_true, ne_eq, dref, dref1, dref2, aExecS, aStoreB, aTakes, aTakeE, aElder, aFrom, aFresh, isLoad, aBuildSlice1, aDstN, aSrcN, aLitN, dref0, stripA, frzs, frz1, ownIds, AV.frz, AV.frzL, frzEnv, AV.shift, AV.shiftL, aFieldV, aSliceW, aSliceO, aSlice, aSliceR, aSliceS, aBd, aMax, frzAVs, frzAV, frzTab, AObj.frz, aMM, aNilS, aMay, aNil, aLenM, aClear, aLookup, aLookG, aMapUpd, aMapPut, keyV, aLookR, false_or, aExecU, tyA_23, tyS_23] | (with_reducible refine aIf_split (fun _ => ?_) (fun _ => ?_)) | (with_reducible refine aSel_split (fun _ => ?_) (fun _ => ?_)) | (with_reducible refine aGd_split (fun _ => ?_) (fun _ => ?_))))
  refine callV (atQ_A col (i : Int) hl) ?_
  (repeat' (first | simp (maxSteps := 5000000) (implicitDefEqProofs := false) only [ruA, ruB, aEv, aTake, aLoad, aField, aIndex, aLen, aBin, bin2, aUn, un1, aExtract, aConv, ASt.get, aget, ASt.put, aStore, aBox, aAppend, aBuildSlice, aMake, aBuild, aFill, oneParts, allC, aBinS, yv, aCells, oneC, oneCL, treeC, treeL, treeML, treeM_c, treeM_sl, treeM_rp, treeM_any, treeM_fn, treeM_bfn, aLit, aDst, aSrc, appTab, Value.cells, Value.oneCell', envOf, aResL, aOne, ↓reduceIte, reduceCtorEq, forall_const, Nat.reduceLT, Nat.reduceEqDiff, Nat.reduceAdd, Nat.reduceMul, Nat.reduceSub, Nat.reduceLeDiff, Nat.reduceBEq, eq_self, implies_true, ne_eq, dref, dref1, dref2, aExecS, aStoreB, aTakes, aTakeE, aElder, aFrom, aFresh, isLoad, aBuildSlice1, aDstN, aSrcN, aLitN, dref0, stripA, frzs, frz1, ownIds, AV.frz, AV.frzL, frzEnv, AV.shift, AV.shiftL, aFieldV, aSliceW, aSliceO, aSlice, aSliceR, aSliceS, aBd, aMax, frzAVs, frzAV, frzTab, AObj.frz, aMM, aNilS, aMay, aNil, aLenM, aClear, aLookup, aLookG, aMapUpd, aMapPut, keyV, aLookR, false_or, aExecU, tyA_23, tyS_23] | (with_reducible refine aIf_split (fun _ => ?_) (fun _ => ?_)) | (with_reducible refine aSel_split (fun _ => ?_) (fun _ => ?_)) | (with_reducible refine aGd_split (fun _ => ?_) (fun _ => ?_))))
  refine callV (print_A _ (atQ_ok ho _)) ?_
  (repeat' (first | simp (maxSteps := 5000000) (implicitDefEqProofs := false) only [ruA, ruB, aEv, aTake, aLoad, aField, aIndex, aLen, aBin, bin2, aUn, un1, aExtract, aConv, ASt.get, aget, ASt.put, aStore, aBox, aAppend, aBuildSlice, aMake, aBuild, aFill, oneParts, allC, aBinS, yv, aCells, oneC, oneCL, treeC, treeL, treeML, treeM_c, treeM_sl, treeM_rp, treeM_any, treeM_fn, treeM_bfn, aLit, aDst, aSrc, appTab, Value.cells, Value.oneCell', envOf, aResL, aOne, ↓reduceIte, reduceCtorEq, forall_const, Nat.reduceLT, Nat.reduceEqDiff, Nat.reduceAdd, Nat.reduceMul, Nat.reduceSub, Nat.reduceLeDiff, Nat.reduceBEq, eq_self, implies_true, ne_eq, dref, dref1, dref2, aExecS, aStoreB, aTakes, aTakeE, aElder, aFrom, aFresh, isLoad, aBuildSlice1, aDstN, aSrcN, aLitN, dref0, stripA, frzs, frz1, ownIds, AV.frz, AV.frzL, frzEnv, AV.shift, AV.shiftL, aFieldV, aSliceW, aSliceO, aSlice, aSliceR, aSliceS, aBd, aMax, frzAVs, frzAV, frzTab, AObj.frz, aMM, aNilS, aMay, aNil, aLenM, aClear, aLookup, aLookG, aMapUpd, aMapPut, keyV, aLookR, false_or, aExecU, tyA_23, tyS_23] | (with_reducible refine aIf_split (fun _ => ?_) (fun _ => ?_)) | (with_reducible refine aSel_split (fun _ => ?_) (fun _ => ?_)) | (with_reducible refine aGd_split (fun _ => ?_) (fun _ => ?_))))
set_option maxRecDepth 100000 in
theorem cls2_A (next : List (List Int)) (c : List Int) (i : Nat) (hn : next.length ≤ 1000) (hr : ∀ r ∈ next, r.length ≤ 1000) (hc : c.length ≤ 1000000) (hco : ∀ x ∈ c, ok64 x) (hi : i < next.length) :
    ADet Tryd.prog 16 [eI (i : Int), .rp [sNx next], .rp [sI c]] (val (.string (keyB next c i))) := by
  refine adet_of_code mixedT Tryd.func16 rfl (by decide) Tryd.ntmps16 Tryd.results16 rfl (val_ok _) ?_
  (repeat' (first | simp (maxSteps := 5000000) (implicitDefEqProofs := false) only [ruA, ruB, aEv, aTake, aLoad, aField, aIndex, aLen, aBin, bin2, aUn, un1, aExtract, aConv, ASt.get, aget, ASt.put, aStore, aBox, aAppend, aBuildSlice, aMake, aBuild, aFill, oneParts, allC, aBinS, yv, aCells, oneC, oneCL, treeC, treeL, treeML, treeM_c, treeM_sl, treeM_rp, treeM_any, treeM_fn, treeM_bfn, aLit, aDst, aSrc, appTab, Value.cells, Value.oneCell', envOf, aResL, aOne, ↓reduceIte, reduceCtorEq, forall_const, Nat.reduceLT, Nat.reduceEqDiff, Nat.reduceAdd, Nat.reduceMul, Nat.reduceSub, Nat.reduceLeDiff, Nat.reduceBEq, eq_self, implies_true, ne_eq, dref, dref1, dref2, aExecS, aStoreB, aTakes, aTakeE, aElder, aFrom, aFresh, isLoad, aBuildSlice1, aDstN, aSrcN, aLitN, dref0, stripA, frzs, frz1, ownIds, AV.frz, AV.frzL, frzEnv, AV.shift, AV.shiftL, aFieldV, aSliceW, aSliceO, aSlice, aSliceR, aSliceS, aBd, aMax, frzAVs, frzAV, frzTab, AObj.frz, aMM, aNilS, aMay, aNil, aLenM, aClear, aLookup, aLookG, aMapUpd, aMapPut, keyV, aLookR, false_or, aExecU, tyA_22, tyS_22, tyA_23, tyS_23] | (with_reducible refine aIf_split (fun _ => ?_) (fun _ => ?_)) | (with_reducible refine aSel_split (fun _ => ?_) (fun _ => ?_)) | (with_reducible refine aGd_split (fun _ => ?_) (fun _ => ?_))))
  refine callV (key_A next c i hn hr hc hco hi) ?_
  (repeat' (first | simp (maxSteps := 5000000) (implicitDefEqProofs := false) only [ruA, ruB, aEv, aTake, aLoad, aField, aIndex, aLen, aBin, bin2, aUn, un1, aExtract, aConv, ASt.get, aget, ASt.put, aStore, aBox, aAppend, aBuildSlice, aMake, aBuild, aFill, oneParts, allC, aBinS, yv, aCells, oneC, oneCL, treeC, treeL, treeML, treeM_c, treeM_sl, treeM_rp, treeM_any, treeM_fn, treeM_bfn, aLit, aDst, aSrc, appTab, Value.cells, Value.oneCell', envOf, aResL, aOne, ↓reduceIte, reduceCtorEq, forall_const, Nat.reduceLT, Nat.reduceEqDiff, Nat.reduceAdd, Nat.reduceMul, Nat.reduceSub, Nat.reduceLeDiff, Nat.reduceBEq, eq_self, implies_true, ne_eq, dref, dref1, dref2, aExecS, aStoreB, aTakes, aTakeE, aElder, aFrom, aFresh, isLoad, aBuildSlice1, aDstN, aSrcN, aLitN, dref0, stripA, frzs, frz1, ownIds, AV.frz, AV.frzL, frzEnv, AV.shift, AV.shiftL, aFieldV, aSliceW, aSliceO, aSlice, aSliceR, aSliceS, aBd, aMax, frzAVs, frzAV, frzTab, AObj.frz, aMM, aNilS, aMay, aNil, aLenM, aClear, aLookup, aLookG, aMapUpd, aMapPut, keyV, aLookR, false_or, aExecU, tyA_22, tyS_22, tyA_23, tyS_23] | (with_reducible refine aIf_split (fun _ => ?_) (fun _ => ?_)) | (with_reducible refine aSel_split (fun _ => ?_) (fun _ => ?_)) | (with_reducible refine aGd_split (fun _ => ?_) (fun _ => ?_))))
end
end Go.Proofs.YtbpocemhnmmloaaDoor
