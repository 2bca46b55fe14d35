/-
  Parts of the proof: AlR, AlU, AlV, AlW, E1.
-/
import Derived.Test.YtcindbpnaicemaaSkp12
import Derived.TacticsIn
import Derived.RangeFuncIn
import Derived.RangeFuncCalls
import Derived.RangeFuncRecord
set_option linter.unusedVariables false
set_option linter.unusedSimpArgs false
namespace Go.Proofs.Ytcindbpnaicemaa
section
open Go.RowKit

section
variable {P : Program} {cx : Cx} {a : Act} {w w' w'' : World} {st : ASt} {tab tab' tab'' : ATab} {L L' L'' : Nat → Value} {nx nx' nx'' : Nat}
theorem Fr.refl : Fr cx w tab L nx w tab L nx := ⟨Ext.refl .., Nat.le_refl _, fun _ _ _ => rfl, fun id o g h1 h2 _ => ⟨id, o, h1, h2⟩, Nat.le_refl _⟩
theorem Fr.trans (h : Fr cx w tab L nx w' tab' L' nx') (k : Fr cx w' tab' L' nx' w'' tab'' L'' nx'') : Fr cx w tab L nx w'' tab'' L'' nx'' :=
  ⟨⟨fun b hb => (k.ext.blk b (h.ext.sub b hb)).trans (h.ext.blk b hb), fun b hb => k.ext.sub b (h.ext.sub b hb), fun id p hid hp => h.ext.loc id p hid (k.ext.loc id p (Nat.lt_of_lt_of_le hid h.next) hp)⟩,
   Nat.le_trans h.size k.size,
   fun j hj hn => (k.keep j (Nat.lt_of_lt_of_le hj h.size) fun id o h1 h2 => (h.young id o j h1 h2 hj).elim fun id2 ⟨o2, h3, h4⟩ => hn id2 o2 h3 h4).trans (h.keep j hj hn),
   fun id o g h1 h2 hg => (k.young id o g h1 h2 (Nat.lt_of_lt_of_le hg h.size)).elim fun id2 ⟨o2, h3, h4⟩ => h.young id2 o2 g h3 h4 hg,
   Nat.le_trans h.next k.next⟩
theorem put_tab (st : ASt) (d : Option Nat) (av : AV) : (st.put d av).tab = st.tab := by cases d <;> rfl
theorem put_next (st : ASt) (d : Option Nat) (av : AV) : (st.put d av).next = st.next := by cases d <;> rfl
theorem fr_merge (hy : ∀ id o, tab.get id = some o → id < nx) (hb : Below w.heap.size w w') (hold : ∀ id, id < nx → tab'.get id = tab.get id ∧ L' id = L id) (hnew : ∀ id o g, nx ≤ id → tab'.get id = some o → vblk (L' id) = some g → w.heap.size ≤ g) (hn : nx ≤ nx') : Fr cx w tab L nx w' tab' L' nx' :=
  ⟨ext_merge hb hold hy hnew, hb.size, fun k hk _ => hb.block k hk, fun id o g h1 h2 hg => by
    rcases Nat.lt_or_ge id nx with hlt | hge
    · exact ⟨id, o, by rw [← (hold id hlt).1]; exact h1, by rw [← (hold id hlt).2]; exact h2⟩
    · exact absurd (hnew id o g hge h1 h2) (by omega), hn⟩
theorem fr_new (h : Conc cx a w st L) (hb : Below w.heap.size w w') {v : Value} {ob : AObj} (hnew : ∀ g, vblk v = some g → w.heap.size ≤ g) : Fr cx w st.tab L st.next w' ((st.next, some ob) :: st.tab) (updL L st.next v) (st.next + 1) :=
  fr_merge (fun id o hid => (h.young id o hid).1) hb (fun id hid => by unfold updL; rw [ATab.get_cons, if_neg (by omega), if_neg (by omega)]; exact ⟨rfl, rfl⟩)
    (fun id o g h1 h2 h3 => by
      rw [ATab.get_cons] at h2
      unfold updL at h3
      split at h2
      · rename_i e
        rw [if_pos e] at h3
        exact hnew g h3
      · have := (h.young id o h2).1
        omega) (Nat.le_succ _)
theorem fr_upd {id : Nat} {o o' : AObj} (hid : st.tab.get id = some o) (hsz : o'.sz = o.sz) (hs : w'.heap.size = w.heap.size) (hb : ∀ k, vblk (L id) ≠ some k → w'.heap[k]? = w.heap[k]?) : Fr cx w st.tab L st.next w' ((id, some o') :: st.tab) L st.next := by
  have hget : ∀ k ok, ATab.get ((id, some o') :: st.tab) k = some ok → ∃ ok', st.tab.get k = some ok' ∧ ok.sz = ok'.sz := fun k ok hk => by
    rw [ATab.get_cons] at hk
    split at hk
    · rename_i e
      cases hk
      exact ⟨o, by rw [e]; exact hid, hsz⟩
    · exact ⟨ok, hk, rfl⟩
  refine ⟨⟨fun b hb' => hb b (hb'.2.2 id o hid), fun b hb' => ⟨by rw [hs]; exact hb'.1, hb'.2.1, fun k ok hk => ?_⟩, fun k p _ hk => ?_⟩, by rw [hs]; exact Nat.le_refl _, fun k hk hn => hb k (hn id o hid), fun k ok g h1 h2 _ => ?_, Nat.le_refl _⟩
  · obtain ⟨ok', h1, _⟩ := hget k ok hk
    exact hb'.2.2 k ok' h1
  · unfold Kx at *
    cases ho : ATab.get ((id, some o') :: st.tab) k with
    | none => simp [ho] at hk
    | some ok =>
      obtain ⟨ok', h1, h2⟩ := hget k ok ho
      rw [h1]
      simpa [ho, h2] using hk
  · obtain ⟨ok', h3, _⟩ := hget k ok h1
    exact ⟨k, ok', h3, h2⟩
theorem fr_frz1 (id : Nat) : Fr cx w st.tab L st.next w (frz1 st id).tab L (frz1 st id).next := by
  unfold frz1
  split
  · rename_i e sz rows hid
    have hget : ∀ k ok, ATab.get ((id, none) :: frzTab id sz rows st.tab) k = some ok → ∃ ok', st.tab.get k = some ok' ∧ ok.sz = ok'.sz := fun k ok hk => by
      rw [ATab.get_cons, frzTab_get] at hk
      split at hk
      · cases hk
      · cases hg : st.tab.get k with
        | none => simp [hg] at hk
        | some o' =>
          simp [hg] at hk
          exact ⟨o', rfl, by rw [← hk, frz_sz]⟩
    refine ⟨⟨fun _ _ => rfl, fun b hb' => ⟨hb'.1, hb'.2.1, fun k ok hk => ?_⟩, fun k p _ hk => ?_⟩, Nat.le_refl _, fun k hk hn => rfl, fun k ok g h1 h2 _ => ?_, Nat.le_refl _⟩
    · obtain ⟨ok', h1, _⟩ := hget k ok hk
      exact hb'.2.2 k ok' h1
    · unfold Kx at *
      cases ho : ATab.get ((id, none) :: frzTab id sz rows st.tab) k with
      | none => simp [ho] at hk
      | some ok =>
        obtain ⟨ok', h1, h2⟩ := hget k ok ho
        rw [h1]
        simpa [ho, h2] using hk
    · obtain ⟨ok', h3, _⟩ := hget k ok h1
      exact ⟨k, ok', h3, h2⟩
  · exact Fr.refl
theorem fr_frzs : ∀ (ids : List Nat) {st : ASt}, Fr cx w st.tab L st.next w (frzs st ids).tab L (frzs st ids).next
  | [], _ => Fr.refl
  | id :: ids, st => (fr_frz1 id).trans (fr_frzs ids (st := frz1 st id))
theorem fr_app (h : Conc cx a w st L) {v v' : Value} {oid : Option Nat} {ob : AObj} (hg : w.grownBy w' v.ownBlock) (hv : vblk v' = v.ownBlock ∨ vblk v' = some w.heap.size)
    (hown : ∀ g, v.ownBlock = some g → ∃ id, oid = some id ∧ vblk (L id) = some g) (hoid : ∀ id, oid = some id → ∃ o, st.tab.get id = some o) : Fr cx w st.tab L st.next w' (appTab st.tab st.next oid ob) (updL L st.next v') (st.next + 1) := by
  have hnot : ∀ k, (∀ id o, st.tab.get id = some o → vblk (L id) ≠ some k) → some k ≠ v.ownBlock := fun k hn e => by
    obtain ⟨id, h1, h2⟩ := hown k e.symm
    obtain ⟨o, h3⟩ := hoid id h1
    exact hn id o h3 h2
  have hget : ∀ k ok, (appTab st.tab st.next oid ob).get k = some ok → k = st.next ∨ (k < st.next ∧ st.tab.get k = some ok) := fun k ok hk => by
    rw [appTab_get] at hk
    split at hk
    · exact .inl (by assumption)
    · split at hk
      · cases hk
      · exact .inr ⟨(h.young k ok hk).1, hk⟩
  refine ⟨⟨fun b hb => hg.block b hb.1 (hnot b hb.2.2), fun b hb => ⟨Nat.lt_of_lt_of_le hb.1 hg.size, hb.2.1, fun k ok hk => ?_⟩, fun k p hlt hk => ?_⟩, hg.size, fun k hk hn => hg.block k hk (hnot k hn), fun k ok g h1 h2 hlt => ?_, Nat.le_succ _⟩
  · unfold updL
    rcases hget k ok hk with rfl | ⟨hlt, ho⟩
    · rw [if_pos rfl]
      rcases hv with hv | hv
      · rw [hv]
        exact fun e => hnot b hb.2.2 e.symm
      · rw [hv]
        intro e
        cases e
        exact absurd hb.1 (by omega)
    · rw [if_neg (by omega)]
      exact hb.2.2 k ok ho
  · unfold Kx updL at *
    rw [if_neg (by omega)] at hk
    cases ho : (appTab st.tab st.next oid ob).get k with
    | none => simp [ho] at hk
    | some ok =>
      rcases hget k ok ho with rfl | ⟨_, h1⟩
      · omega
      · rw [h1]
        rw [ho] at hk
        exact hk
  · unfold updL at h2
    rcases hget k ok h1 with rfl | ⟨hlt', ho⟩
    · rw [if_pos rfl] at h2
      rcases hv with hv | hv
      · rw [hv] at h2
        obtain ⟨id, h3, h4⟩ := hown g h2
        obtain ⟨o, h5⟩ := hoid id h3
        exact ⟨id, o, h5, h4⟩
      · rw [hv] at h2
        cases h2
        omega
    · rw [if_neg (by omega)] at h2
      exact ⟨k, ok, ho, h2⟩
/-- what follows an operation, and what stays -/
abbrev AfterF (cx : Cx) (a : Act) (w : World) (st : ASt) (L : Nat → Value) (K : ASt → Prop) : Act → World → Prop := fun a' w' => ∃ st' L', K st' ∧ Conc cx a' w' st' L' ∧ Fr cx w st.tab L st.next w' st'.tab L' st'.next ∧ a'.defers = a.defers
theorem put_defers (a : Act) (d : Option Nat) (v : Value) : (a.put d v).defers = a.defers := by cases d <;> rfl
theorem pure_wpF {o : Oper} {K : ASt → Prop} {Q : Exit → Act → World → Prop} (h : Conc cx a w st L) (hp : aPure P st.tab (aEv st) o.op (aK st o.dst K)) : o.wp P a w (AfterF cx a w st L K) Q := by
  obtain ⟨v, av, h1, h2, h3, h4, _⟩ := pure_ok h.lay (fun id o hid => (h.young id o hid).2) (eval_ok h) hp
  exact wp_value (h4 w (Below.refl _ _)) ⟨_, L, h1, conc_pure h h2 h3 o.dst, (by rw [put_tab, put_next]; exact Fr.refl), put_defers _ _ _⟩
/-- an operation that may stand in a round -/
def fOp (o : Oper) : Bool := match o.op with
  | .defer _ => false
  | _ => true
theorem fr_reslice {id : Nat} {o ob : AObj} {v' : Value} (h : Conc cx a w st L) (hid : st.tab.get id = some o) (hv : vblk v' = vblk (L id)) : Fr cx w st.tab L st.next w (appTab st.tab st.next (some id) ob) (updL L st.next v') (st.next + 1) := by
  have hget : ∀ k ok, (appTab st.tab st.next (some id) ob).get k = some ok → k = st.next ∨ (k < st.next ∧ st.tab.get k = some ok) := fun k ok hk => by
    rw [appTab_get] at hk
    split at hk
    · exact .inl (by assumption)
    · split at hk
      · cases hk
      · exact .inr ⟨(h.young k ok hk).1, hk⟩
  refine ⟨⟨fun _ _ => rfl, fun b hb => ⟨hb.1, hb.2.1, fun k ok hk => ?_⟩, fun k p hlt hk => ?_⟩, Nat.le_refl _, fun _ _ _ => rfl, fun k ok g h1 h2 _ => ?_, Nat.le_succ _⟩
  · unfold updL
    rcases hget k ok hk with rfl | ⟨hlt, ho⟩
    · rw [if_pos rfl, hv]
      exact hb.2.2 id o hid
    · rw [if_neg (by omega)]
      exact hb.2.2 k ok ho
  · unfold Kx updL at *
    rw [if_neg (by omega)] at hk
    cases ho : (appTab st.tab st.next (some id) ob).get k with
    | none => simp [ho] at hk
    | some ok =>
      rcases hget k ok ho with rfl | ⟨_, h1⟩
      · omega
      · rw [h1]
        rw [ho] at hk
        exact hk
  · unfold updL at h2
    rcases hget k ok h1 with rfl | ⟨hlt', ho⟩
    · rw [if_pos rfl, hv] at h2
      exact ⟨id, o, hid, h2⟩
    · rw [if_neg (by omega)] at h2
      exact ⟨k, ok, ho, h2⟩
theorem sliceW_wpF {t : TypeId} {x : Operand} {lo hi mx : Option Operand} {K : ASt → Prop} {Q : Exit → Act → World → Prop} {ty : TypeId} {dst : Option Nat} {pos : String} {aft : Array Edge} {gd : Option (Nat × Bool)} (h : Conc cx a w st L)
    (hp : aSliceW P t st (aEv st x) (lo.map (aEv st)) (hi.map (aEv st)) (mx.map (aEv st)) dst K) : Oper.wp (P := P) ⟨dst, .slice t x lo hi mx, ty, pos, aft, gd⟩ a w (AfterF cx a w st L K) Q := by
  unfold aSliceW at hp
  split at hp
  · rename_i id hx
    have hv := (eval_ok h x).1
    rw [hx] at hv
    split at hp
    · rename_i e sz rows hid
      unfold aSliceO at hp
      split at hp
      · rename_i l h' hl hh
        obtain ⟨⟨h1, h2⟩, ⟨rfl, h4, h5, h6⟩, h7⟩ := hp
        obtain ⟨hu, hsz⟩ := tyElem_pos (P := P) (t := t) (by omega)
        have hvL := hv.osl_inv _ _ (kx_of hid)
        obtain ⟨hrow, xs, hown, hone, hx'⟩ := h.lay.objs id _ hid
        have hs := run_sizeOf' (P := P) (t := (tyElem P t).1) (by omega) w
        rw [hsz, h1] at hs
        have key : ∀ A cap, L id = .slice A rows.length cap → rows.length ≤ cap → ∃ m, h'.toNat ≤ m ∧ m ≤ cap ∧ (Instr.sliceBounds true rows.length cap (lo.map a.eval) (hi.map a.eval) (mx.map a.eval)).run P w = .ok (0, h'.toNat, m) w := by
          intro A cap hL hc
          have hlo := bd_at (d := 0) (n := 0) (fun x => (eval_ok h x).1) hl (by omega) rfl
          have hhi := bd_at (d := rows.length) (n := h'.toNat) (fun x => (eval_ok h x).1) hh (by omega) rfl
          cases mx with
          | none => exact ⟨cap, by omega, Nat.le_refl _, run_bounds hlo hhi (.inl ⟨rfl, rfl⟩) (by omega) (by omega)⟩
          | some q =>
            have hq := (eval_ok h q).1
            simp only [Option.map_some] at h6 ⊢
            unfold aMax at h6
            split at h6
            · rename_i hq'
              cases hq'
            · rename_i k m hq'
              injection hq' with hq'
              rw [hq'] at hq
              obtain ⟨rfl, hb⟩ := h6
              refine ⟨m.toNat, Nat.le_refl _, by omega, run_bounds hlo hhi (.inr ⟨rfl, ⟨k, by rw [hq.c_inv, Int.toNat_of_nonneg h4]⟩, fun hn => ?_⟩) (by omega) (by omega)⟩
              cases hi with
              | none => simp at hb
              | some _ => cases hn
            · exact h6.elim
        rcases hown.2 with ⟨hL, h0⟩ | ⟨g, cap, cur, hL, hb, hh', hc, hm, hcs, htake⟩
        · obtain ⟨m, hm1, hm2, hr⟩ := key none 0 (by rw [hL, h0]) (by omega)
          have hm0 : m = 0 := by omega
          have hn0 : h'.toNat = 0 := by omega
          refine wp_value (v := .slice none 0 0) ?_ ⟨_, _, h7, reslice_ok (n := h'.toNat) h hid (by omega) (.inl ⟨hL, rfl⟩) dst, (by rw [put_tab, put_next]; exact fr_reslice h hid (by rw [hL])), put_defers _ _ _⟩
          rw [h0] at hr
          simp [execOp, Sem.run_bind, hvL, hL, Instr.sliceAt, Instr.slice, run_underlying hu, hr, hs, hm0, hn0]
        · obtain ⟨m, hm1, hm2, hr⟩ := key _ cap hL hc
          refine wp_value (v := .slice (some ⟨g, 0, none⟩) h'.toNat m) ?_ ⟨_, _, h7, reslice_ok (n := h'.toNat) h hid (by omega) (.inr ⟨g, cap, m, hL, rfl, hm1, hm2⟩) dst, (by rw [put_tab, put_next]; exact fr_reslice h hid (by rw [hL]; rfl)), put_defers _ _ _⟩
          simp [execOp, Sem.run_bind, hvL, hL, Instr.sliceAt, Instr.slice, run_underlying hu, hr, hs, Addr.add_lit]
      · exact hp.elim
    · exact hp.elim
  · exact pure_wpF (o := ⟨dst, .slice t x lo hi mx, ty, pos, aft, gd⟩) h (by exact hp)
theorem op_okF {o : Oper} {K : ASt → Prop} {Q : Exit → Act → World → Prop} (h : Conc cx a w st L) (hp : aOp P o K st) (hf : fOp o = true) : o.wp P a w (AfterF cx a w st L K) Q := by
  obtain ⟨dst, op, ty, pos, aft, gd⟩ := o
  unfold aOp at hp
  simp only at hp
  split at hp
  · rename_i t x
    obtain ⟨h1, h2⟩ := hp
    have he := eval_ok h x
    obtain ⟨h3, h4⟩ := box_ok (P := P) (t := t) h he.1 he.2 h1 dst
    exact wp_value (by simp [execOp, h3]) ⟨_, _, h2, h4, (by rw [put_tab, put_next]; exact fr_new h ((Below.refl _ _).alloc (Nat.le_refl _) _) (fun g hg => by simp [vblk] at hg; omega)), put_defers _ _ _⟩
  · rename_i t
    split at hp
    · rename_i z hz
      obtain ⟨h1, h2⟩ := hp
      obtain ⟨h3, h4⟩ := box_ok (P := P) (t := t) (av := .c z) h (.tree (.c z)) trivial h1 dst
      exact wp_value (by simp [execOp, alloc_run hz, h3]) ⟨_, _, h2, h4, (by rw [put_tab, put_next]; exact fr_new h ((Below.refl _ _).alloc (Nat.le_refl _) _) (fun g hg => by simp [vblk] at hg; omega)), put_defers _ _ _⟩
    · exact hp.elim
  · rename_i t p x
    unfold aStore at hp
    split at hp
    · rename_i id i j hpe
      split at hp
      · rename_i ty cells hid
        obtain ⟨rfl, h0, h1, h2, h3, h4⟩ := hp
        have hpv := (eval_ok h p).1
        rw [hpe] at hpv
        have hx := eval_ok h x
        obtain ⟨w', h5, h6, h7, h8⟩ := store_box_ok h hpv hid hx.1 hx.2 h0 h1 h2 h3 dst
        exact wp_skip' (by simp [execOp, h5]) ⟨_, _, h4, h6, (by rw [put_tab, put_next]; exact fr_upd hid (by simp only [AObj.sz, List.length_append, List.length_take, List.length_drop]; omega) h7 h8), put_defers _ _ _⟩
      · rename_i e sz rows hid
        obtain ⟨hi, h0, h1, h2, h3, h3', h4⟩ := hp
        have hpv := (eval_ok h p).1
        rw [hpe] at hpv
        have hx := eval_ok h x
        obtain ⟨w', h5, h6, h7, h8⟩ := store_row_ok h hpv hid hx.1 hx.2 hi h0 h1 h2 h3 h3' dst
        exact wp_skip' (by simp [execOp, h5]) ⟨_, _, h4, h6, (by rw [put_tab, put_next]; exact fr_upd hid rfl h7 h8), put_defers _ _ _⟩
      · rename_i e sz rows hid
        obtain ⟨hi, h0, h1, h2, h3, h4⟩ := hp
        have hpv := (eval_ok h p).1
        rw [hpe] at hpv
        have hx := eval_ok h x
        obtain ⟨w', h5, h6, h7, h8⟩ := store_nest_ok h hpv hid hx.1 hx.2 hi h0 h1 h2 h3 dst
        exact wp_skip' (by simp [execOp, h5]) ⟨_, _, h4, h6, (by rw [put_tab, put_next]; exact fr_upd hid rfl h7 h8), put_defers _ _ _⟩
      · exact hp.elim
    · exact hp.elim
  · rename_i t n parts
    unfold aBuildSlice at hp
    have hfr := fr_frzs (cx := cx) (w := w) (L := L) (st := st) (ownIds (parts.toList.flatMap fun (p : Nat × Operand) => aCells (aEv st p.2)))
    replace h := conc_frzs (ownIds (parts.toList.flatMap fun (p : Nat × Operand) => aCells (aEv st p.2))) h
    unfold aBuildSlice1 at hp
    split at hp
    · rename_i e sz by_ ht
      split at hp
      · obtain ⟨⟨h1, rfl, h3, h5⟩, h6⟩ := hp
        obtain ⟨v', w', L', h7, h8, hb, rfl, hv⟩ := buildSlice_ok h ht h1 h3 h5 dst
        refine wp_value ?_ ⟨_, _, h6, h8, (by rw [put_tab, put_next]; exact hfr.trans (fr_new h hb fun g hg => by rw [hv] at hg; cases hg; exact Nat.le_refl _)), put_defers _ _ _⟩
        simp only [Array.toArray_toList] at h7
        simp [execOp]
        simp at h7
        simp [h7]
      · obtain ⟨⟨h1, rfl, h3, h5⟩, h6⟩ := hp
        obtain ⟨v', w', L', h7, h8, hb, rfl, hv⟩ := buildN_ok h ht h1 h3 h5 dst
        refine wp_value ?_ ⟨_, _, h6, h8, (by rw [put_tab, put_next]; exact hfr.trans (fr_new h hb fun g hg => by rw [hv] at hg; cases hg; exact Nat.le_refl _)), put_defers _ _ _⟩
        simp only [Array.toArray_toList] at h7
        simp [execOp]
        simp at h7
        simp [h7]
    · exact hp.elim
  · rename_i t l c
    unfold aMake at hp
    split at hp
    · rename_i e sz by_ k1 n k2 m ht hl hc
      split at hp
      · rename_i z hz
        obtain ⟨⟨rfl, h1, h2, h3, h4⟩, h5⟩ := hp
        have hl' := (eval_ok h l).1
        have hc' := (eval_ok h c).1
        rw [hl] at hl'
        rw [hc] at hc'
        obtain ⟨v', w', L', h6, h7, hb, rfl, hv⟩ := make_ok (k1 := k1) (k2 := k2) h ht hz h1 h2 h3 h4 dst
        exact wp_value (by simp [execOp, hl'.c_inv, hc'.c_inv, h6]) ⟨_, _, h5, h7, (by rw [put_tab, put_next]; exact fr_new h hb fun g hg => by rw [hv] at hg; cases hg; exact Nat.le_refl _), put_defers _ _ _⟩
      · exact hp.elim
    · exact hp.elim
  · rename_i t parts
    obtain ⟨v, cs, h1, h2, h3, h4⟩ := build_wp h hp
    refine wp_value ?_ ⟨_, _, h4, conc_pure h h1 h2 dst, (by rw [put_tab, put_next]; exact Fr.refl), put_defers _ _ _⟩
    simp [execOp, h3 w]
  · rename_i t x lo hi mx
    exact sliceW_wpF h hp
  · rename_i t r
    obtain ⟨hr, hp⟩ := hp
    cases r with
    | some r => cases hr
    | none =>
      obtain ⟨h1, h2⟩ := makeMap_ok (P := P) (t := t) h dst
      exact wp_value (by simp [execOp, h1]) ⟨_, _, hp, h2, (by rw [put_tab, put_next]; exact fr_new h ((Below.refl _ _).alloc (Nat.le_refl _) _) (fun g hg => by simp [vblk] at hg; omega)), put_defers _ _ _⟩
  · rename_i t m k ok
    obtain ⟨r, av, h1, h2, h3, h4⟩ := lookup_ok (nx := st.next) h.lay (eval_ok h m).1 (eval_ok h k).1 hp
    exact wp_value (by simp [execOp, h4]) ⟨_, _, h1, conc_pure h h2 h3 dst, (by rw [put_tab, put_next]; exact Fr.refl), put_defers _ _ _⟩
  · rename_i t m k v
    obtain ⟨w', st', h1, h2, h3, h4, id, ents, ents', _, h5, rfl, h6⟩ := mapUpd_ok h (eval_ok h m).1 (eval_ok h k).1 (eval_ok h v).1 dst hp
    exact wp_skip' (by simp [execOp, h1]) ⟨_, _, h2, h3, (by rw [put_tab, put_next]; exact fr_upd h5 rfl h4 h6), put_defers _ _ _⟩
  · rename_i c
    obtain ⟨callee, args, argTypes⟩ := c
    simp only at hp
    split at hp
    · split at hp
      · rename_i x y t t' h1 h2
        obtain rfl : args = #[x, y] := by cases args; simp_all
        obtain rfl : argTypes = #[t, t'] := by cases argTypes; simp_all
        obtain ⟨rfl, hp⟩ := hp
        unfold aAppend at hp
        split at hp
        · rename_i e sz by_ ht
          split at hp
          · rename_i oid rows rows2 hx hy
            obtain ⟨⟨h3, h4⟩, h5⟩ := hp
            obtain ⟨v', w', L', h6, h7, hg, rfl, hv, hown⟩ := append_ok (ty := ty) h (eval_ok h x).1 (eval_ok h y).1 ht hx hy (by simpa [maxLen] using h3) h4 dst
            have hoid : ∀ id, oid = some id → ∃ o, st.tab.get id = some o := fun id hid => by
              subst hid
              unfold aDst at hx
              split at hx
              · rename_i id' hid'
                split at hx
                · rename_i e' sz' rows' hget
                  split at hx
                  · cases hx
                    exact ⟨_, hget⟩
                  · cases hx
                · cases hx
              · cases hx
              · cases hx
            exact wp_value (by simp [execOp, resolve, invoke, builtin, h6]) ⟨_, _, h5, h7, (by rw [put_tab, put_next]; exact fr_app h hg hv hown hoid), put_defers _ _ _⟩
          · split at hp
            · rename_i oid rows rows2 hx hy
              obtain ⟨⟨h3, h4⟩, h5⟩ := hp
              obtain ⟨v', w', L', h6, h7, hg, rfl, hv, hown⟩ := appendN_ok (ty := ty) h (eval_ok h x).1 (eval_ok h y).1 ht hx hy (by simpa [maxLen] using h3) h4 dst
              have hoid : ∀ id, oid = some id → ∃ o, st.tab.get id = some o := fun id hid => by
                subst hid
                unfold aDstN at hx
                split at hx
                · rename_i id' hid'
                  split at hx
                  · rename_i e' sz' rows' hget
                    split at hx
                    · cases hx
                      exact ⟨_, hget⟩
                    · cases hx
                  · cases hx
                · cases hx
                · cases hx
              exact wp_value (by simp [execOp, resolve, invoke, builtin, h6]) ⟨_, _, h5, h7, (by rw [put_tab, put_next]; exact fr_app h hg hv hown hoid), put_defers _ _ _⟩
            · exact hp.elim
        · exact hp.elim
      · exact hp.elim
    · unfold aClears at hp
      split at hp
      · rename_i x t h1 h2
        obtain rfl : args = #[x] := by cases args; simp_all
        obtain rfl : argTypes = #[t] := by cases argTypes; simp_all
        obtain ⟨w', st', h3, h4, h5, h6, id, ents, h7, rfl, h8⟩ := clear_ok (ty := ty) h (eval_ok h x).1 dst hp
        exact wp_value (by simp [execOp, resolve, invoke, builtin, h3]) ⟨_, _, h4, h5, (by rw [put_tab, put_next]; exact fr_upd h7 rfl h6 h8), put_defers _ _ _⟩
      · exact hp.elim
    · rcases hp with hp | hp
      · unfold aLenMs at hp
        split at hp
        · rename_i x t h1 h2
          obtain rfl : args = #[x] := by cases args; simp_all
          obtain rfl : argTypes = #[t] := by cases argTypes; simp_all
          obtain ⟨r, av, h3, h4, h5, h6⟩ := lenM_ok (ty := ty) (nx := st.next) h.lay (eval_ok h x).1 hp
          exact wp_value (by simp [execOp, resolve, invoke, builtin, h6]) ⟨_, _, h3, conc_pure h h4 h5 dst, (by rw [put_tab, put_next]; exact Fr.refl), put_defers _ _ _⟩
        · exact hp.elim
      · exact pure_wpF h hp
    · rename_i f
      obtain ⟨g, zs, avs, hrun0, hsz, hlt, hp⟩ := aFnB_inv h hp
      by_cases hmeth : aMeth none P st g avs (aK2 dst K)
      · obtain ⟨hent, ids0, _, hc⟩ := meth_ok h hsz (fun j v av h1 h2 => (hlt j v av h1 h2).1) hmeth dst
        unfold Oper.wp
        rw [hrun0 hent _ argTypes rfl]
        show Calls P g zs w _
        refine hc.mono ?_
        rintro e w' ⟨v, av, st', L', rfl, h1, h2, h3, _⟩
        exact ⟨_, _, h1, h2, (by rw [put_tab, put_next]; exact h3), put_defers _ _ _⟩
      replace hp : aCall0 P st g avs (aK2 dst K) ∨ (none = (none : Option (Nat × List Nat)) ∧ (aUpdM P st g avs (aK2 dst K) ∨ aCallZ P st g avs (aK2 dst K))) := by
        rcases hp with hp | hp | hp
        · exact .inl hp
        · exact .inr hp
        · exact absurd hp hmeth
      have hent : Enters P g := by
        rcases hp with (⟨R, hd, _⟩ | ⟨hd, _⟩) | ⟨_, (⟨_, _, _, _, _, _, _, _, hd, _⟩ | ⟨_, _, _, _, _, _, _, _, _, hd, _⟩ | ⟨hd, _⟩) | ⟨_, (⟨R, hd, _⟩ | ⟨hd, _⟩)⟩⟩
        · exact hd.1
        · exact hd
        · exact hd.1
        · exact hd.1
        · exact hd
        · exact hd.1
        · exact hd
      unfold Oper.wp
      rw [hrun0 hent _ argTypes rfl]
      show Calls P g zs w _
      have hargs : zs.size = avs.length ∧ ∀ (j : Nat) (v : Value) (av : AV), zs[j]? = some v → avs[j]? = some av → RVx cx w st.tab L v av := ⟨hsz, fun j v av h1 h2 => (hlt j v av h1 h2).1⟩
      rcases hp with hp | ⟨_, hp | ⟨ids, hp⟩⟩
      · refine (call_ok h hargs.1 hargs.2 hp dst).mono ?_
        rintro e w' ⟨v, av, st', L', rfl, h1, h2, hb, hold, hnew, hnx⟩
        exact ⟨_, _, h1, h2, (by rw [put_tab, put_next]; exact fr_merge (fun id o hid => (h.young id o hid).1) hb hold hnew hnx), put_defers _ _ _⟩
      rotate_left
      · obtain ⟨h3, h4⟩ := frzAVs_ok ids h hlt
        have hz := conc_frzs ids h
        refine (call_ok hz (by rw [h3]; exact hargs.1) (fun j v av h5 h6 => (h4 j v av h5 h6).1) hp dst).mono ?_
        rintro e w' ⟨v, av, st', L', rfl, h1, h2, hb, hold, hnew, hnx⟩
        exact ⟨_, _, h1, h2, (by rw [put_tab, put_next]; exact (fr_frzs ids).trans (fr_merge (fun id o hid => (hz.young id o hid).1) hb hold hnew hnx)), put_defers _ _ _⟩
      · refine (updM_ok h hargs.1 hlt hp dst).mono ?_
        rintro e w' ⟨v, av, st', L', rfl, h1, h2, h3⟩
        exact ⟨_, _, h1, h2, (by rw [put_tab, put_next]; exact h3), put_defers _ _ _⟩
    · exact pure_wpF h hp
  · exact pure_wpF h hp
end
end
section
open Go.RowKit

section
variable {P : Program} {cx : Cx} {a : Act} {w w' : World} {st : ASt} {L L' : Nat → Value} {l0 n : Nat}
/-- in a round an operation goes as everywhere -/
theorem wpIn_of_wp {o : Oper} {next : Act → World → Prop} {Q : Exit → Act → World → Prop} (hd : ∀ c, o.op ≠ .defer c) (h : o.wp P a w next Q) : o.wpIn (Fence.wide.inRound l0) n P a w next Q := by
  refine ⟨fun _ _ => trivial, ?_⟩
  rw [Oper.semAt_eq _ _ _ hd]
  unfold Oper.wp at h
  generalize (execOp a.eval o).run P w = r at h
  cases r with
  | ok x w1 =>
    cases x with
    | value v => exact h
    | skip => exact h
    | defer d => exact h
    | enter f args => exact ⟨fun h => (by cases h), CallsIn.inRound l0 (callsIn_wide.2 h)⟩
    | row row args =>
      refine ⟨fun h => (by cases h), fun c cs _ => ?_⟩
      obtain ⟨v, w', h1, h2⟩ := h c cs
      exact ⟨v, w', h1, by rw [fenced_inRound]; exact stepsIn_wide.2 h2⟩
    | _ => exact h.elim
  | halt x w1 =>
    cases x <;> first | exact h | exact h.elim
theorem fOp_defer {o : Oper} (h : fOp o = true) : ∀ c, o.op ≠ .defer c := fun c e => by
  unfold fOp at h
  rw [e] at h
  cases h
theorem ops_okF {ops : Array Oper} {K : ASt → Prop} {Q : Exit → Act → World → Prop} : ∀ (l : List Oper) (a : Act) (w : World) (st : ASt) (L : Nat → Value), (∀ o ∈ l, fOp o = true) →
    (∀ a' w' st' L', K st' → Conc cx a' w' st' L' → Fr cx w st.tab L st.next w' st'.tab L' st'.next → Q .normal a' w') → Conc cx a w st L → aOps P ops K l st → wpListIn (Fence.wide.inRound l0) n P ops Q l a w
  | [], a, w, st, L, _, hQ, h, hp => hQ a w st L hp h Fr.refl
  | o :: rest, a, w, st, L, hf, hQ, h, hp => by
    unfold aOps at hp
    have hfo := hf o (List.mem_cons_self ..)
    refine wpListIn_step fun K' hK' => ?_
    rcases guard_ok h hp o rfl with ⟨hw, st', h1, h2, e1, e2⟩ | ⟨hw, st', h1, h2, e1, e2⟩
    · rw [if_pos hw]
      refine wpIn_of_wp (fOp_defer hfo) (Oper.wp_mono (fun a' w' ⟨st'', L', h3, h4, h5, _⟩ => hK' a' w' (ops_okF rest a' w' st'' L' (fun o ho => hf o (List.mem_cons_of_mem _ ho)) (fun a2 w2 st2 L2 h6 h7 h8 => hQ a2 w2 st2 L2 h6 h7 ?_) h4 h3)) (op_okF h2 h1 hfo))
      rw [e1, e2] at h5
      exact h5.trans h8
    · rw [if_neg (by simp [hw])]
      refine ⟨fun _ _ => trivial, hK' _ _ (ops_okF rest _ w _ L (fun o ho => hf o (List.mem_cons_of_mem _ ho)) (fun a2 w2 st2 L2 h6 h7 h8 => hQ a2 w2 st2 L2 h6 h7 ?_) (skip_conc h2 o.dst) h1)⟩
      rw [put_tab, put_next, e1, e2] at h8
      exact h8
/-- code that may stand in a round -/
def fCode : Code → Bool
  | .skip => true
  | .region _ ops draw => !draw && ops.toList.all fOp
  | .seq x y => fCode x && fCode y
  | .cond _ x y => fCode x && fCode y
  | .block _ x => fCode x
  | .exit _ => true
  | .ret => true
  | _ => false
theorem code_okF : ∀ (c : Code), fCode c = true → ∀ (Q : Exit → ASt → Prop) (a : Act) (w : World) (st : ASt) (L : Nat → Value), Conc cx a w st L → aCode P c Q st →
    c.wpIn (Fence.wide.inRound l0) n P (fun e a' w' => ∃ st' L', Q e st' ∧ Conc cx a' w' st' L' ∧ Fr cx w st.tab L st.next w' st'.tab L' st'.next) a w := by
  intro c
  induction c with
  | skip => exact fun _ Q a w st L h hp => wpIn_skip ⟨st, L, hp, h, Fr.refl⟩
  | region id ops draw =>
    intro hf Q a w st L h hp
    unfold aCode aReg at hp
    cases draw with
    | false =>
      simp only [fCode, Bool.not_false, Bool.true_and, List.all_eq_true] at hf
      exact wpIn_region_list (ops_okF _ a w st L hf (fun a' w' st' L' h1 h2 h3 => ⟨st', L', h1, h2, h3⟩) h (by simpa using hp))
    | true => cases hf
  | seq x y ihx ihy =>
    intro hf Q a w st L h hp
    simp only [fCode, Bool.and_eq_true] at hf
    unfold aCode at hp
    refine wpIn_seq (wpIn_mono (ihx hf.1 _ a w st L h hp) (fun e a' w' ⟨st', L', h1, h2, h3⟩ => ?_))
    cases e with
    | normal => exact wpIn_mono (ihy hf.2 Q a' w' st' L' h2 h1) fun e a2 w2 ⟨st2, L2, h4, h5, h6⟩ => ⟨st2, L2, h4, h5, h3.trans h6⟩
    | _ => exact ⟨st', L', h1, h2, h3⟩
  | cond c x y ihx ihy =>
    intro hf Q a w st L h hp
    simp only [fCode, Bool.and_eq_true] at hf
    unfold aCode aCond at hp
    split at hp
    · rename_i b hb
      have hv := (eval_ok h c).1
      rw [hb] at hv
      have hv := hv.c_inv
      cases b
      · exact wpIn_cond_false hv (ihy hf.2 Q a w st L h hp)
      · exact wpIn_cond_true hv (ihx hf.1 Q a w st L h hp)
    · exact hp.elim
  | block id x ih =>
    intro hf Q a w st L h hp
    simp only [fCode] at hf
    unfold aCode at hp
    refine wpIn_block (wpIn_mono (ih hf _ a w st L h hp) (fun e a' w' ⟨st', L', h1, h2, h3⟩ => ?_))
    cases e with
    | exit id' =>
      simp only [aInBlock, Exit.inBlock] at h1 ⊢
      split
      · rename_i e
        rw [if_pos e] at h1
        exact ⟨st', L', h1, h2, h3⟩
      · rename_i e
        rw [if_neg e] at h1
        exact ⟨st', L', h1, h2, h3⟩
    | _ => exact ⟨st', L', h1, h2, h3⟩
  | exit id => exact fun _ Q a w st L h hp => wpIn_exit ⟨st, L, hp, h, Fr.refl⟩
  | ret => exact fun _ Q a w st L h hp => wpIn_ret ⟨st, L, hp, h, Fr.refl⟩
  | _ => exact fun hf => (by cases hf)

/-! ### an iterator -/
/-- memory that the caller does not write: with what was laid since -/
def grow (T : Nat → Prop) (w w' : World) (b : Nat) : Prop := T b ∨ (w.heap.size ≤ b ∧ b < w'.heap.size)
structure Kept (T : Nat → Prop) (w w' : World) : Prop where
  os : w'.os = w.os
  tape : w'.tape = w.tape
  output : w'.output = w.output
  size : w.heap.size ≤ w'.heap.size
  block : ∀ b, T b → w'.heap[b]? = w.heap[b]?
/-- the iterator gf, that holds caps, hands on xs, one behind the other, and stops when it is told to. T: memory that the caller does not write; M: that part of it that the iterator may write, and the caller does not read -/
def ASeq (P : Program) (gf : FuncId) (caps : List AV) (xs : List (List AV)) : Prop :=
  Enters P gf ∧ ∀ (l : Nat) (T0 : Nat → Prop) (lb : Array Value) (W0 : World) (J Jx : List (List AV) → (Nat → Prop) → (Nat → Prop) → World → Prop), lb.size = caps.length → SOk W0 T0 →
    (∀ (j : Nat) (v : Value) (av : AV), lb[j]? = some v → caps[j]? = some av → RT W0 T0 v av) →
    (∀ pre T M W, J pre T M W → ∀ b, T b → b < W.heap.size) →
    (∀ pre T M M' W W', J pre T M W → BelowX M W.heap.size W W' → (∀ b, M' b → M b ∨ (W.heap.size ≤ b ∧ b < W'.heap.size)) → J pre (grow T W W') M' W') →
    (∀ pre T M M' W W', Jx pre T M W → BelowX M W.heap.size W W' → (∀ b, M' b → M b ∨ (W.heap.size ≤ b ∧ b < W'.heap.size)) → Jx pre (grow T W W') M' W') →
    (∀ pre x T M W (vs : Array Value), J pre T M W → (pre ++ [x]) <+: xs → vs.size = x.length → (∀ (j : Nat) (v : Value) (av : AV), vs[j]? = some v → x[j]? = some av → RT W (fun b => T b ∧ ¬ M b) v av) →
      YieldAt Fence.wide 0 P l vs W fun e W' => (e = .returned (.bool true) ∧ J (pre ++ [x]) T M W' ∧ Kept T W W') ∨ (e = .returned (.bool false) ∧ Jx (pre ++ [x]) T M W' ∧ Kept T W W')) →
    J [] T0 (fun _ => False) W0 →
    CallsIn Fence.wide 0 P gf (#[.func (.yield l) #[] #[]] ++ lb) W0 fun e W' => (∃ v, e = .returned v) ∧ ((∃ T M, J xs T M W') ∨ ∃ pre T M, pre <+: xs ∧ Jx pre T M W')

/-! ### the loop -/
theorem conc_move {c c' : Cx} (h : Conc c a w st L) (hw : c'.w0 = c.w0) (hblk : ∀ b, Sx c w st.tab L b → w'.heap[b]? = w.heap[b]?) (hown : ∀ id o g, st.tab.get id = some o → vblk (L id) = some g → w'.heap[g]? = w.heap[g]?) (hS : ∀ b, Sx c w st.tab L b → Sx c' w' st.tab L b)
    (hb : BelowX c'.X c'.w0.heap.size c'.w0 w') (hex : ∀ b, c'.X b → b < w'.heap.size ∧ ∀ id o, st.tab.get id = some o → vblk (L id) ≠ some b) : Conc c' a w' st L := by
  have hrv : ∀ {x av nx}, RVx c w st.tab L x av → av.lt nx → RVx c' w' st.tab L x av := fun hr hl => hr.mono hl (fun p hp => World.cell?_of_block (hblk _ hp)) hS (fun _ _ _ h => h)
  refine ⟨⟨hb, fun id o hid => ?_, h.lay.sep, hex⟩, h.size, by rw [hw]; exact h.defers.mono hblk hS, h.young, fun t => ⟨hrv (h.env t).1 (h.env t).2, (h.env t).2⟩⟩
  have ho := h.lay.objs id o hid
  have hy := (h.young id o hid).2
  cases o with
  | box t cells =>
    obtain ⟨g, cs, h1, h2, h3, h4, h5⟩ := ho
    exact ⟨g, cs, h1, by rw [hw]; exact h2, (hown id _ g hid (by rw [h1]; rfl)).trans h3, h4, fun j x av h6 h7 => ⟨hrv (h5 j x av h6 h7).1 (ltL_iff.1 hy _ (List.mem_of_getElem? h7)), (h5 j x av h6 h7).2⟩⟩
  | row e sz rows =>
    obtain ⟨h1, xs, hown', h2, h3⟩ := ho
    refine ⟨h1, xs, ⟨hown'.1, ?_⟩, h2, fun i j row av ha hb => ?_⟩
    · rcases hown'.2 with hn | ⟨g, cap, cur, h4, hb, hh, rest⟩
      · exact .inl hn
      · exact .inr ⟨g, cap, cur, h4, by rw [hw]; exact hb, (hown id _ g hid (by rw [h4]; rfl)).trans hh, rest⟩
    · obtain ⟨x, hx, hr⟩ := h3 i j row av ha hb
      exact ⟨x, hx, hr.mono (fun p hp => World.cell?_of_block (hblk _ hp)) hS⟩
  | nest e sz rows =>
    obtain ⟨h1, xs, hown', h2, h3⟩ := ho
    refine ⟨h1, xs, ⟨hown'.1, ?_⟩, h2, fun i j row av ha hb => ?_⟩
    · rcases hown'.2 with hn | ⟨g, cap, cur, h4, hb, hh, rest⟩
      · exact .inl hn
      · exact .inr ⟨g, cap, cur, h4, by rw [hw]; exact hb, (hown id _ g hid (by rw [h4]; rfl)).trans hh, rest⟩
    · obtain ⟨x, hx, hr⟩ := h3 i j row av ha hb
      exact ⟨x, hx, hrv hr (ltL_iff.1 (hy row (List.mem_of_getElem? ha)) _ (List.mem_of_getElem? hb))⟩
  | map ents =>
    obtain ⟨b, es, ck, h1, h2, h3, h4⟩ := ho
    exact ⟨b, es, ck, h1, by rw [hw]; exact h2, (hown id _ b hid (by rw [h1]; rfl)).trans h3, h4⟩
  | ghost vs env => exact ⟨ho.1, fun t ht => hrv (ho.2 t ht) (envLt_aget hy t)⟩
def Cx.ex (c : Cx) (M : Nat → Prop) (hM : ∀ b, M b → c.w0.heap.size ≤ b) : Cx := ⟨c.F, c.w0, fun b => c.X b ∨ M b, c.amb, fun b h => h.elim (c.exD b) fun h2 => Nat.le_trans c.amb.le (hM b h2), c.inF⟩
def JAt (cx : Cx) (a0 : Act) (l : Nat) (r : Loop) (I : ASt → Prop) (T M : Nat → Prop) (W : World) : Prop :=
  ∃ (hqq : ∀ b, M b → cx.w0.heap.size ≤ b) (st : ASt) (L : Nat → Value), I st ∧ Conc (cx.ex M hqq) a0 W st L ∧ W.heap[l]? = some (.loop r) ∧ Sx (cx.ex M hqq) W st.tab L l ∧ ¬ T l ∧ (∀ b, M b → T b ∧ cx.w0.heap.size ≤ b) ∧ ∀ b, T b → Sx cx W st.tab L b
theorem sx_below (h : Conc cx a w st L) (hb : w.heap.size ≤ w'.heap.size) {b : Nat} (hs : Sx cx w st.tab L b) : Sx cx w' st.tab L b := ⟨Nat.lt_of_lt_of_le hs.1 hb, hs.2.1, hs.2.2⟩
theorem sx_new (h : Conc cx a w st L) {b : Nat} (h1 : w.heap.size ≤ b) (h2 : b < w'.heap.size) : Sx cx w' st.tab L b :=
  ⟨h2, ⟨.inr (Nat.le_trans h.lay.below.size h1), fun hX => absurd (h.lay.ex b hX).1 (Nat.not_lt.2 h1)⟩, fun id o hid hg => absurd ((h.lay.objs id o hid).ge hg).2 (by omega)⟩
theorem JAt.step {a0 : Act} {l : Nat} {r : Loop} {I : ASt → Prop} {T M M' : Nat → Prop} (h : JAt cx a0 l r I T M w) (hb : BelowX M w.heap.size w w') (hM : ∀ b, M' b → M b ∨ (w.heap.size ≤ b ∧ b < w'.heap.size)) : JAt cx a0 l r I (grow T w w') M' w' := by
  obtain ⟨hqq, st, L, h1, h2, h3, h4, h5, h6, h7⟩ := h
  have hsz : cx.w0.heap.size ≤ w.heap.size := h2.lay.below.size
  have hq' : ∀ b, M' b → cx.w0.heap.size ≤ b := fun b hb2 => (hM b hb2).elim (hqq b) fun h8 => Nat.le_trans hsz h8.1
  have hS : ∀ b, Sx (cx.ex M hqq) w st.tab L b → Sx (cx.ex M' hq') w' st.tab L b := fun b hs => ⟨Nat.lt_of_lt_of_le hs.1 hb.size, ⟨hs.2.1.1, fun hx => by
    rcases hx with hx | hx
    · exact hs.2.1.2 (.inl hx)
    · rcases hM b hx with hm | hm
      · exact hs.2.1.2 (.inr hm)
      · have := hs.1
        omega⟩, hs.2.2⟩
  have hblk : ∀ b, Sx (cx.ex M hqq) w st.tab L b → w'.heap[b]? = w.heap[b]? := fun b hs => hb.block b hs.1 fun hm => hs.2.1.2 (.inr hm)
  have hex : ∀ b, (cx.ex M' hq').X b → b < w'.heap.size ∧ ∀ id o, st.tab.get id = some o → vblk (L id) ≠ some b := fun b hx => by
    have old : (cx.ex M hqq).X b → b < w'.heap.size ∧ ∀ id o, st.tab.get id = some o → vblk (L id) ≠ some b := fun hx => ⟨Nat.lt_of_lt_of_le (h2.lay.ex b hx).1 hb.size, (h2.lay.ex b hx).2⟩
    rcases hx with hx | hx
    · exact old (.inl hx)
    · rcases hM b hx with hm | hm
      · exact old (.inr hm)
      · exact ⟨hm.2, fun id o hid hg => absurd ((h2.lay.objs id o hid).ge hg).2 (by omega)⟩
  have hbel : BelowX (cx.ex M' hq').X (cx.ex M' hq').w0.heap.size (cx.ex M' hq').w0 w' := by
    have h8 : BelowX (cx.ex M hqq).X cx.w0.heap.size cx.w0 w := h2.lay.below
    refine ⟨hb.os.trans h8.os, hb.tape.trans h8.tape, hb.output.trans h8.output, Nat.le_trans h8.size hb.size, fun k (hk : k < cx.w0.heap.size) hx => ?_⟩
    have hm : ¬ M k := fun hm => by
      have := (h6 k hm).2
      omega
    refine (hb.block k (by omega) hm).trans (h8.block k hk fun hx' => ?_)
    rcases hx' with hx' | hx'
    · exact hx (.inl hx')
    · exact hm hx'
  refine ⟨hq', st, L, h1, conc_move h2 rfl hblk (fun id o g hid hg => hb.block g ((h2.lay.objs id o hid).ge hg).2 fun hm => (h2.lay.ex g (.inr hm)).2 id o hid hg) hS hbel hex, (hblk l h4).trans h3, hS l h4, fun hg => ?_, fun b hm => ?_, fun b hg => ?_⟩
  · rcases hg with hg | hg
    · exact h5 hg
    · have := h4.1
      omega
  · rcases hM b hm with hm | hm
    · exact ⟨.inl (h6 b hm).1, (h6 b hm).2⟩
    · exact ⟨.inr hm, by omega⟩
  · rcases hg with hg | hg
    · exact ⟨Nat.lt_of_lt_of_le (h7 b hg).1 hb.size, (h7 b hg).2.1, (h7 b hg).2.2⟩
    · have := sx_new h2 hg.1 hg.2
      exact ⟨this.1, ⟨this.2.1.1, fun hx => this.2.1.2 (.inl hx)⟩, this.2.2⟩
/-- the caller's slots, at what the round has left -/
theorem conc_follow {A a1 : Act} {st1 stA : ASt} {LA : Nat → Value} (h : Conc cx A w st1 L) (hf : Fr cx w st1.tab L st1.next w' stA.tab LA stA.next) (hA : Conc cx a1 w' stA LA) : Conc cx A w' ⟨st1.n, st1.env, stA.tab, stA.next⟩ LA :=
  ⟨hA.lay, h.size, h.defers.mono hf.ext.blk hf.ext.sub, hA.young, fun t => ⟨hf.ext.rv (h.env t).1 (h.env t).2, AV.lt_mono hf.next (h.env t).2⟩⟩
/-- a loop's record turns -/
theorem conc_turn {l : Nat} {r : Loop} (h : Conc cx a w st L) (hb : cx.w0.heap.size ≤ l) (hl : w.heap[l]? = some (.loop r)) (r' : Loop) : Conc cx a (w.putObj l (.loop r')) st L := by
  have := conc_keep h (KeepM.turn hb hl r') (ds := a.defers) ⟨h.defers.1, fun d hd => ?_⟩
  · exact this
  · obtain ⟨k, h1, h2, h3, h4⟩ := h.defers.2 d hd
    have hne : k ≠ l := fun e => by rw [e, hl] at h3; cases h3
    exact ⟨k, h1, h2, (World.putObj_heap_other hne).trans h3, ⟨by simp; exact h4.1, h4.2.1, h4.2.2⟩⟩
def putAll : List (Nat × AV) → ASt → ASt
  | [], st => st
  | (p, av) :: l, st => putAll l (st.put (some p) av)
theorem putAll_tab : ∀ (l : List (Nat × AV)) (st : ASt), (putAll l st).tab = st.tab ∧ (putAll l st).next = st.next ∧ (putAll l st).n = st.n
  | [], _ => ⟨rfl, rfl, rfl⟩
  | (p, av) :: l, st => putAll_tab l (st.put (some p) av)
theorem conc_params : ∀ (ps : List Nat) (vs : List Value) (x : List AV) {t : Array Value} {st : ASt}, Conc cx { tmps := t, defers := [] } w st L → vs.length = ps.length → x.length = ps.length →
    (∀ (j : Nat) (v : Value) (av : AV), vs[j]? = some v → x[j]? = some av → RVx cx w st.tab L v av ∧ av.lt st.next) →
    Conc cx { tmps := (ps.zip vs).foldl (fun t (p : Nat × Value) => t.setIfInBounds p.1 p.2) t, defers := [] } w (putAll (ps.zip x) st) L
  | [], _, _, _, _, h, _, _, _ => h
  | p :: ps, [], _, _, _, _, h1, _, _ => by simp at h1
  | p :: ps, v :: vs, [], _, _, _, _, h2, _ => by simp at h2
  | p :: ps, v :: vs, av :: x, t, st, h, h1, h2, h3 => by
    have h4 := h3 0 v av rfl rfl
    have h5 := conc_pure h h4.1 h4.2 (some p)
    exact conc_params ps vs x (t := t.setIfInBounds p v) (st := st.put (some p) av) h5 (by simpa using h1) (by simpa using h2) fun j v' av' h6 h7 => h3 (j + 1) v' av' (by simpa using h6) (by simpa using h7)
/-- how a round may end -/
def aRnd (I : List (List AV) → ASt → Prop) (Ix : Code → List (List AV) → ASt → Prop) (pre : List (List AV)) (st1 : ASt) : Exit → ASt → Prop
  | .normal, st' => aTo (I pre) ⟨st1.n, st1.env, st'.tab, st'.next⟩
  | .ret, st' => aTo (Ix .ret pre) ⟨st1.n, st1.env, st'.tab, st'.next⟩
  | .exit id, st' => aTo (Ix (.exit id) pre) ⟨st1.n, st1.env, st'.tab, st'.next⟩
  | _, _ => False
def aNone : Exit → ASt → Prop := fun _ _ => False
theorem range_round {a0 : Act} {l fn D : Nat} {T M : Nat → Prop} {ps : Array Tmp} {assign body : Code} {I : List (List AV) → ASt → Prop} {Ix : Code → List (List AV) → ASt → Prop} {pre : List (List AV)} {x : List AV} {vs : Array Value}
    (hfa : fCode assign = true) (hfb : fCode body = true) (hn : x.length = ps.size) (hb : cx.w0.heap.size ≤ l)
    (hr : ∀ st1, I pre st1 → aCode P assign (aThen (aCode P body (aRnd I Ix (pre ++ [x]) st1)) aNone) (putAll (ps.toList.zip x) st1))
    (h : JAt cx a0 l { state := .ready, pending := none, fn, tmps := a0.tmps, params := ps, assign, body, defers := D } (I pre) T M w) (hv : vs.size = x.length) (hrt : ∀ (j : Nat) (v : Value) (av : AV), vs[j]? = some v → x[j]? = some av → RT w (fun b => T b ∧ ¬ M b) v av) :
    YieldAt Fence.wide 0 P l vs w fun e W' => (e = .returned (.bool true) ∧ JAt cx a0 l { state := .ready, pending := none, fn, tmps := a0.tmps, params := ps, assign, body, defers := D } (I (pre ++ [x])) T M W' ∧ Kept T w W') ∨
      (e = .returned (.bool false) ∧ (∃ c, JAt cx a0 l { state := .done, pending := some c, fn, tmps := a0.tmps, params := ps, assign, body, defers := D } (Ix c (pre ++ [x])) T M W') ∧ Kept T w W') := by
  obtain ⟨hqq, st1, L, hI, hC, hl, hSl, hTl, hMT, hT⟩ := h
  have hb : (cx.ex M hqq).w0.heap.size ≤ l := hb
  have hy := run_yield (P := P) (args := vs) hl (by simp; omega)
  refine ⟨fn, _, assign, body, hy, roundIn_of_wpIn trivial ?_⟩
  have hC0 : Conc (cx.ex M hqq) { tmps := a0.tmps, defers := [] } w st1 L := ⟨hC.lay, hC.size, Marks.nil _ _ _, hC.young, hC.env⟩
  have hTS : ∀ b, T b ∧ ¬ M b → Sx (cx.ex M hqq) w st1.tab L b := fun b hb' => ⟨(hT b hb'.1).1, ⟨(hT b hb'.1).2.1.1, fun hx => by
    rcases hx with hx | hx
    · exact (hT b hb'.1).2.1.2 hx
    · exact hb'.2 hx⟩, (hT b hb'.1).2.2⟩
  have hCp := conc_params ps.toList vs.toList x hC0 (by simp; omega) (by simpa using hn) fun j v av h1 h2 => by
    have := hrt j v av (by simpa using h1) h2
    exact ⟨.tree (this.mono (fun _ _ => rfl) hTS), this.lt _⟩
  have ef : (ps.zip vs).foldl (fun tmps (x : Tmp × Value) => match x with | (t, a) => tmps.setIfInBounds t a) a0.tmps = (ps.toList.zip vs.toList).foldl (fun t (p : Nat × Value) => t.setIfInBounds p.1 p.2) a0.tmps := by
    rw [← Array.foldl_toList, Array.toList_zip]
  rw [ef]
  obtain ⟨e1, e2, _⟩ := putAll_tab (ps.toList.zip x) st1
  refine wpIn_mono (code_okF assign hfa _ _ _ _ _ hCp (hr st1 hI)) fun e a1 w1 ⟨stA, LA, hq, hCA, hFA⟩ => ?_
  rw [e1, e2] at hFA
  cases e with
  | normal =>
    have hl1 : w1.heap[l]? = _ := (hFA.keep l hSl.1 hSl.2.2).trans hl
    have hSl1 := hFA.ext.sub l hSl
    refine ⟨_, run_beginRound hl1 rfl, ?_⟩
    have hCA2 := conc_turn hCA hb hl1 { state := .busy, pending := none, fn, tmps := a0.tmps, params := ps, assign, body, defers := D }
    have hF1 := conc_follow hC hFA hCA
    have hF2 := conc_turn hF1 hb hl1 { state := .busy, pending := none, fn, tmps := a0.tmps, params := ps, assign, body, defers := D }
    have hos2 : ∀ o, (w1.putObj l o).os = w1.os ∧ (w1.putObj l o).tape = w1.tape ∧ (w1.putObj l o).output = w1.output := fun o => ⟨rfl, rfl, rfl⟩
    generalize hw2 : w1.putObj l (.loop { state := .busy, pending := none, fn, tmps := a0.tmps, params := ps, assign, body, defers := D }) = w2 at hCA2 hF2
    have hsz2 : w2.heap.size = w1.heap.size := by rw [← hw2]; simp
    have hl2 : w2.heap[l]? = some (.loop { state := .busy, pending := none, fn, tmps := a0.tmps, params := ps, assign, body, defers := D }) := by rw [← hw2]; exact World.putObj_heap_same hSl1.1
    have hoth2 : ∀ b, b ≠ l → w2.heap[b]? = w1.heap[b]? := fun b hb' => by rw [← hw2]; exact World.putObj_heap_other hb'
    have hS2 : ∀ b, Sx (cx.ex M hqq) w1 stA.tab LA b → Sx (cx.ex M hqq) w2 stA.tab LA b := fun b hs => ⟨by rw [hsz2]; exact hs.1, hs.2.1, hs.2.2⟩
    refine wpIn_mono (code_okF body hfb _ _ _ _ _ hCA2 hq) fun e a2 w3 ⟨stB, LB, hq2, hCB, hFB⟩ => ?_
    have hl3 : w3.heap[l]? = _ := (hFB.keep l (hS2 l hSl1).1 (hS2 l hSl1).2.2).trans hl2
    have hSl3 := hFB.ext.sub l (hS2 l hSl1)
    have hF3 := conc_follow (st1 := ⟨st1.n, st1.env, stA.tab, stA.next⟩) hF2 hFB hCB
    have hown2 : ∀ b, T b → ∀ id o, stA.tab.get id = some o → vblk (LA id) ≠ some b := fun b hb' id o hid hg => by
      obtain ⟨id2, o2, h3, h4⟩ := hFA.young id o b hid hg (hT b hb').1
      exact (hT b hb').2.2 id2 o2 h3 h4
    have hkeep : ∀ b, T b → w3.heap[b]? = w.heap[b]? := fun b hb' => by
      have hbl : b ≠ l := fun e => hTl (by rw [← e]; exact hb')
      have h1 := (hT b hb').1
      have h2 := hFA.size
      rw [hFB.keep b (by omega) (hown2 b hb'), hoth2 b hbl, hFA.keep b h1 (hT b hb').2.2]
    have fin : ∀ (jump : Option Code) (s : LoopState) (K : ASt → Prop), (if jump.isNone then LoopState.ready else LoopState.done) = s → aTo K ⟨st1.n, st1.env, stB.tab, stB.next⟩ →
        (Instr.endRound l jump).run P w3 = .ok (.bool jump.isNone) (w3.putObj l (.loop { state := s, pending := jump, fn, tmps := a0.tmps, params := ps, assign, body, defers := D })) ∧
        JAt cx a0 l { state := s, pending := jump, fn, tmps := a0.tmps, params := ps, assign, body, defers := D } K T M (w3.putObj l (.loop { state := s, pending := jump, fn, tmps := a0.tmps, params := ps, assign, body, defers := D })) ∧
        Kept T w (w3.putObj l (.loop { state := s, pending := jump, fn, tmps := a0.tmps, params := ps, assign, body, defers := D })) := fun jump s K hs hK => by
      subst hs
      have hr3 := run_endRound (P := P) jump hl3
      refine ⟨hr3, ?_, ?_⟩
      · obtain ⟨stC, hweak, hKC⟩ := hK
        have hF4 := conc_turn hF3 hb hl3 { state := if jump.isNone then .ready else .done, pending := jump, fn, tmps := a0.tmps, params := ps, assign, body, defers := D }
        obtain ⟨LC, hCC, hSC⟩ := hweak _ _ _ _ hF4
        have up : ∀ b, Sx (cx.ex M hqq) w3 stB.tab LB b → Sx (cx.ex M hqq) (w3.putObj l (.loop { state := if jump.isNone then .ready else .done, pending := jump, fn, tmps := a0.tmps, params := ps, assign, body, defers := D })) stC.tab LC b := fun b hs => hSC b ⟨by simp; exact hs.1, hs.2.1, hs.2.2⟩
        refine ⟨hqq, stC, LC, hKC, hCC, World.putObj_heap_same hSl3.1, up l hSl3, hTl, hMT, fun b hb' => ?_⟩
        by_cases hm : M b
        · refine ⟨(hCC.lay.ex b (.inr hm)).1, (hT b hb').2.1, (hCC.lay.ex b (.inr hm)).2⟩
        · have := up b (hFB.ext.sub b (hS2 b (hFA.ext.sub b (hTS b ⟨hb', hm⟩))))
          exact ⟨this.1, (hT b hb').2.1, this.2.2⟩
      · have hW : BelowX (cx.ex M hqq).X (cx.ex M hqq).w0.heap.size (cx.ex M hqq).w0 w := hC.lay.below
        have hW3 : BelowX (cx.ex M hqq).X (cx.ex M hqq).w0.heap.size (cx.ex M hqq).w0 w3 := hCB.lay.below
        refine ⟨hW3.os.trans hW.os.symm, hW3.tape.trans hW.tape.symm, hW3.output.trans hW.output.symm, ?_, fun b hb' => ?_⟩
        · have := hFA.size
          have := hFB.size
          simp
          omega
        · have hbl : b ≠ l := fun e => hTl (by rw [← e]; exact hb')
          rw [World.putObj_heap_other hbl]
          exact hkeep b hb'
    cases e with
    | normal =>
      obtain ⟨h1, h2, h3⟩ := fin none .ready _ rfl hq2
      exact ⟨_, _, h1, .inl ⟨rfl, h2, h3⟩⟩
    | ret =>
      obtain ⟨h1, h2, h3⟩ := fin (some .ret) .done _ rfl hq2
      exact ⟨_, _, h1, .inr ⟨rfl, ⟨_, h2⟩, h3⟩⟩
    | exit id =>
      obtain ⟨h1, h2, h3⟩ := fin (some (.exit id)) .done _ rfl hq2
      exact ⟨_, _, h1, .inr ⟨rfl, ⟨_, h2⟩, h3⟩⟩
    | goto t => exact hq2.elim
    | panic c => exact hq2.elim
    | outgrown => exact hq2.elim
  | _ => exact hq.elim
/-- A RANGE OVER A FUNCTION. -/
theorem range_ok (hm : P.follows .mixedOrders = true) {g : Operand} {ps : Array Tmp} {assign body : Code} {Q : Exit → ASt → Prop} {gf : FuncId} {caps : List AV} {xs : List (List AV)}
    (I : List (List AV) → ASt → Prop) (Ix : Code → List (List AV) → ASt → Prop)
    (hg : aFn (aEv st g) fun g' cs => g' = gf ∧ cs = caps) (ht : treeL caps) (hseq : ASeq P gf caps xs) (hx : ∀ x ∈ xs, x.length = ps.size) (hfa : fCode assign = true) (hfb : fCode body = true)
    (h0 : aTo (I []) st)
    (hr : ∀ pre x st1, (pre ++ [x]) <+: xs → I pre st1 → aCode P assign (aThen (aCode P body (aRnd I Ix (pre ++ [x]) st1)) aNone) (putAll (ps.toList.zip x) st1))
    (hd : ∀ st', I xs st' → Q .normal st') (hs : ∀ c pre st', pre <+: xs → Ix c pre st' → aCode P c Q st') : aCode P (.rangeFunc g ps assign body) Q st := by
  intro cx a w L h
  obtain ⟨gf', lb, cs, hgv, hlb, hcap, ⟨rfl, rfl⟩, _⟩ := aFn_inv (eval_ok h g).1 (eval_ok h g).2 hg
  refine wpIn_wide.1 (wpIn_rangeFunc (n := 0) ?_)
  intro fn _
  have hbase : cx.w0.heap.size ≤ w.heap.size := h.lay.below.size
  generalize hrec : ({ state := .ready, pending := none, fn, tmps := a.tmps, params := ps, assign, body, defers := w.heap.size } : Loop) = r
  generalize hW1 : (w.alloc (.deferred (some []))).alloc (.loop r) = W1
  have hb01 : Below w.heap.size w W1 := by
    rw [← hW1]
    exact ((Below.refl _ w).alloc (Nat.le_refl _) _).alloc (by simp) _
  have hs1 : W1.heap.size = w.heap.size + 2 := by rw [← hW1]; simp
  have hL1 : W1.heap[w.heap.size + 1]? = some (.loop r) := by
    rw [← hW1]
    have := World.alloc_heap_new (w.alloc (.deferred (some []))) (.loop r)
    rwa [World.size_alloc] at this
  have hK1 : W1.heap[w.heap.size]? = some (.deferred (some [])) := by
    rw [← hW1]
    exact (Below.heap_alloc _ _ _ (by simp)).trans (World.alloc_heap_new w _)
  have hC1 : Conc cx { a with defers := [{ target := .collected w.heap.size, args := #[] }] ++ a.defers } W1 st L := by
    have h1 := conc_below h hb01
    refine ⟨h1.lay, h1.size, ⟨List.nodup_cons.2 ⟨fun hmem => ?_, h1.defers.1⟩, fun d hd => ?_⟩, h1.young, h1.env⟩
    · obtain ⟨k, e, _, _, h2⟩ := h.defers.2 _ hmem
      injection e with e _
      injection e with e
      have := h2.1
      omega
    · rcases List.mem_cons.1 hd with rfl | hd
      · exact ⟨_, rfl, hbase, hK1, sx_new h (Nat.le_refl _) (by omega)⟩
      · exact h1.defers.2 d hd
  obtain ⟨st0, hweak, hI0⟩ := h0
  obtain ⟨L0, hC0, hS0⟩ := hweak _ _ _ _ hC1
  refine ⟨w.heap.size + 1, [{ target := .collected w.heap.size, args := #[] }], W1, { target := .fn (.func gf') lb, args := #[.func (.yield (w.heap.size + 1)) #[] #[]] }, W1, gf',
    #[.func (.yield (w.heap.size + 1)) #[] #[]] ++ lb, W1, ?_, ?_, fun _ _ => trivial, ?_, fun h => (by cases h), ?_⟩
  · rw [← hW1, ← hrec]
    exact run_enterLoop_outer _ _ _ _ _
  · simp only [resolve, hgv]
    simp [go_sem]
  · have := hseq.1 (#[.func (.yield (w.heap.size + 1)) #[] #[]] ++ lb) W1
    simp [invoke, go_sem, this]
  · have hpre : ∀ {pre : List (List AV)} {x : List AV}, (pre ++ [x]) <+: xs → x.length = ps.size := fun hp => hx _ (hp.subset (by simp))
    have hex0 : ∀ {cx' : Cx} {W : World} {st : ASt} {L : Nat → Value} {A : Act}, Conc cx' A W st L → Conc (cx'.ex (fun _ => False) fun _ h => h.elim) A W st L := fun h => by
      refine conc_move h rfl (fun _ _ => rfl) (fun _ _ _ _ _ => rfl) (fun b hs => ⟨hs.1, ⟨hs.2.1.1, fun hx => hs.2.1.2 (hx.resolve_right id)⟩, hs.2.2⟩) ⟨h.lay.below.os, h.lay.below.tape, h.lay.below.output, h.lay.below.size, fun k hk hx => h.lay.below.block k hk fun hx' => hx (.inl hx')⟩ (fun b hx => h.lay.ex b (hx.resolve_right id))
    have hex1 : ∀ {M : Nat → Prop} {W : World} {st : ASt} {L : Nat → Value} {A : Act}, (hq : ∀ b, M b → cx.w0.heap.size ≤ b) → Conc (cx.ex M hq) A W st L → Conc cx A W st L := fun hM h => by
      have hbl : BelowX (cx.ex _ hM).X cx.w0.heap.size cx.w0 _ := h.lay.below
      refine conc_move h rfl (fun _ _ => rfl) (fun _ _ _ _ _ => rfl) (fun b hs => ⟨hs.1, ⟨hs.2.1.1, fun hx => hs.2.1.2 (.inl hx)⟩, hs.2.2⟩) ⟨hbl.os, hbl.tape, hbl.output, hbl.size, fun k hk hx => hbl.block k hk fun hx' => ?_⟩ (fun b hx => h.lay.ex b (.inl hx))
      rcases hx' with hx' | hx'
      · exact hx hx'
      · have := hM k hx'
        omega
    refine (hseq.2 (w.heap.size + 1) (Sx cx w st.tab L) lb W1
      (fun pre T M W => JAt cx { a with defers := [{ target := .collected w.heap.size, args := #[] }] ++ a.defers } (w.heap.size + 1) { state := .ready, pending := none, fn, tmps := a.tmps, params := ps, assign, body, defers := w.heap.size } (I pre) T M W)
      (fun pre T M W => ∃ c, JAt cx { a with defers := [{ target := .collected w.heap.size, args := #[] }] ++ a.defers } (w.heap.size + 1) { state := .done, pending := some c, fn, tmps := a.tmps, params := ps, assign, body, defers := w.heap.size } (Ix c pre) T M W)
      hlb ⟨fun b hb => Nat.lt_of_lt_of_le hb.1 hb01.size, h.lay.amb.below hb01, h.lay.sok.tab⟩ (fun j v av h1 h2 => ?_) (fun pre T M W ⟨_, _, _, _, _, _, _, _, _, hT⟩ b hb => (hT b hb).1) (fun pre T M M' W W' hj hb hm => hj.step hb hm) (fun pre T M M' W W' ⟨c, hj⟩ hb hm => ⟨c, hj.step hb hm⟩)
      (fun pre x T M W vs hj hp hv hrt => range_round (a0 := { a with defers := [{ target := .collected w.heap.size, args := #[] }] ++ a.defers }) hfa hfb (hpre hp) (by omega) (fun st1 hi => hr pre x st1 hp hi) hj hv hrt) ?_).mono ?_
    · have h3 := tree_of (hcap j v av h1 h2) (treeL_iff.1 ht av (List.mem_of_getElem? h2))
      exact h3.mono (fun p hp => World.cell?_of_block (hb01.block p.block hp.1)) fun b hb => hb
    · have hC0' := hex0 hC0
      have hSl := hS0 _ (sx_new (w' := W1) h (b := w.heap.size + 1) (by omega) (by omega))
      refine ⟨fun _ h => h.elim, st0, L0, hI0, hC0', by rw [hL1, ← hrec], ⟨hSl.1, ⟨hSl.2.1.1, fun hx => hSl.2.1.2 (hx.resolve_right id)⟩, hSl.2.2⟩, fun hT => ?_, fun b hb => hb.elim, fun b hb => hS0 b (sx_below h hb01.size hb)⟩
      have := hT.1
      omega
    · rintro e W2 ⟨⟨v, rfl⟩, (⟨T, M, hq2, st2, L2, h1, h2, h3, h4, _, h6, _⟩ | ⟨pre, T, M, hp, c, hq2, st2, L2, h1, h2, h3, h4, _, h6, _⟩)⟩
      · exact ⟨none, _, run_endLoop h3 (by simp), st2, L2, hd st2 h1, conc_turn (hex1 hq2 h2) (by omega) h3 _⟩
      · refine ⟨some c, _, run_endLoop h3 (by simp), wpIn_wide.2 ?_⟩
        exact code_ok hm c Q _ _ st2 L2 (conc_turn (hex1 hq2 h2) (by omega) h3 _) (hs c pre st2 hp h1)
end
end
section
open Go.RowKit

/-- what has been handed on, and whether more is wanted -/
abbrev IG := List (List AV) × Bool
def iK (K : IG → ASt → Prop) (g : IG) (st : ASt) : Prop := K g st
/-- a struct's parts may be handed on, if they are read only -/
def treeA : AV → Prop
  | .agg cs => treeL cs
  | av => treeC av
def treeAL : List AV → Prop
  | [] => True
  | a :: l => treeA a ∧ treeAL l
theorem treeAL_mem : ∀ {l : List AV}, treeAL l → ∀ a ∈ l, treeA a
  | a :: l, h, b, hb => by
    rcases List.mem_cons.1 hb with rfl | hb
    · exact h.1
    · exact treeAL_mem h.2 b hb
theorem tree_ofA {cx : Cx} {w : World} {tab : ATab} {L : Nat → Value} {x : Value} {av : AV} (h : RVx cx w tab L x av) (ht : treeA av) : RT w (Sx cx w tab L) x av := by
  cases av with
  | agg cs =>
    obtain ⟨xs, rfl, hn, hr⟩ := h.agg_inv
    exact .agg xs cs hn fun j x av h1 h2 => tree_of (hr j x av h1 h2) (treeL_iff.1 ht av (List.mem_of_getElem? h2))
  | _ => exact tree_of h ht
def iYield (xs : List (List AV)) (x : List AV) (dst : Option Nat) (K : IG → ASt → Prop) (g : IG) (st : ASt) : Prop :=
  (g.2 = true ∧ treeAL x ∧ (g.1 ++ [x]) <+: xs) ∧ K (g.1 ++ [x], true) (st.put dst (.c (.bool true))) ∧ K (g.1 ++ [x], false) (st.put dst (.c (.bool false)))
def iCallV (P : Program) (l : Nat) (xs : List (List AV)) (f : AV) (o : Oper) (args : List AV) (K : IG → ASt → Prop) (g : IG) (st : ASt) : Prop :=
  match f with
  | .c (.func (.yield l') first caps) => (l' = l ∧ first = #[] ∧ caps = #[]) ∧ iYield xs args o.dst K g st
  | _ => aOp P o (iK K g) st
def iOp (P : Program) (l : Nat) (xs : List (List AV)) (o : Oper) (K : IG → ASt → Prop) (g : IG) (st : ASt) : Prop :=
  match o.op with
  | .call c => match c.callee with
    | .value f => iCallV P l xs (aEv st f) o (c.args.toList.map (aEv st)) K g st
    | _ => aOp P o (iK K g) st
  | _ => aOp P o (iK K g) st
def iOps (P : Program) (l : Nat) (xs : List (List AV)) (ops : Array Oper) (K : IG → ASt → Prop) : List Oper → IG → ASt → Prop
  | [], g, st => K g st
  | o :: rest, g, st => aGuard ops o.guard (iOp P l xs o (iOps P l xs ops K rest) g) (aSkip o.dst (iOps P l xs ops K rest g)) st
def iThen (next : IG → ASt → Prop) (Q : Exit → IG → ASt → Prop) : Exit → IG → ASt → Prop
  | .normal, g, st => next g st
  | e, g, st => Q e g st
def iInBlock (id : Nat) (Q : Exit → IG → ASt → Prop) : Exit → IG → ASt → Prop
  | .exit id', g, st => if id' = id then Q .normal g st else Q (.exit id') g st
  | e, g, st => Q e g st
def iRound (I : IG → ASt → Prop) (μ : IG → ASt → Nat) (n : Nat) (g : IG) (st : ASt) : Prop := ∃ st', Weak st st' ∧ I g st' ∧ μ g st' < n
def iCode (P : Program) (l : Nat) (xs : List (List AV)) : Code → (Exit → IG → ASt → Prop) → IG → ASt → Prop
  | .skip, Q, g, st => Q .normal g st
  | .region _ ops _, Q, g, st => iOps P l xs ops (Q .normal) ops.toList g st
  | .seq x y, Q, g, st => iCode P l xs x (iThen (iCode P l xs y Q) Q) g st
  | .cond c x y, Q, g, st => aCond (aEv st c) (iCode P l xs x Q g) (iCode P l xs y Q g) st
  | .block id x, Q, g, st => iCode P l xs x (iInBlock id Q) g st
  | .loop x, Q, g, st => ∃ (I : IG → ASt → Prop) (μ : IG → ASt → Nat), (∃ st', Weak st st' ∧ I g st') ∧ ∀ g st, I g st → iCode P l xs x (iThen (iRound I μ (μ g st)) Q) g st
  | .exit id, Q, g, st => Q (.exit id) g st
  | .ret, Q, g, st => Q .ret g st
  | _, _, _, _ => False
def iLoop (P : Program) (l : Nat) (xs : List (List AV)) (x : Code) (Q : Exit → IG → ASt → Prop) (g : IG) (st : ASt) : Prop := iCode P l xs (.loop x) Q g st
theorem iLoop_of {P : Program} {l : Nat} {xs : List (List AV)} {x : Code} {Q : Exit → IG → ASt → Prop} {g : IG} {st : ASt} (I : IG → ASt → Prop) (μ : IG → ASt → Nat) (h0 : ∃ st', Weak st st' ∧ I g st') (h : ∀ g st, I g st → iCode P l xs x (iThen (iRound I μ (μ g st)) Q) g st) : iLoop P l xs x Q g st := ⟨I, μ, h0, h⟩
theorem iRoundI {I : IG → ASt → Prop} {μ : IG → ASt → Nat} {n : Nat} {g : IG} {st st' : ASt} (hw : Weak st st') (hI : I g st') (hm : μ g st' < n) : iRound I μ n g st := ⟨st', hw, hI, hm⟩
section
variable {P : Program} {l : Nat} {xs : List (List AV)} {Q : Exit → IG → ASt → Prop} {g : IG} {st : ASt} {K : IG → ASt → Prop} {ops : Array Oper} {dst : Option Tmp} {op : Op} {ty : TypeId} {pos : String} {aft : Array Edge} {gd : Option (Nat × Bool)} {rest : List Oper}
theorem iCode_skip : iCode P l xs .skip Q g st = Q .normal g st := rfl
theorem iCode_reg {id : Nat} {o : List Oper} {b : Bool} : iCode P l xs (.region id o.toArray b) Q g st = iOps P l xs o.toArray (Q .normal) o g st := rfl
theorem iCode_seq {x y : Code} : iCode P l xs (.seq x y) Q g st = iCode P l xs x (iThen (iCode P l xs y Q) Q) g st := rfl
theorem iCode_cond {c : Operand} {x y : Code} : iCode P l xs (.cond c x y) Q g st = aCond (aEv st c) (iCode P l xs x Q g) (iCode P l xs y Q g) st := rfl
theorem iCode_block {id : Nat} {x : Code} : iCode P l xs (.block id x) Q g st = iCode P l xs x (iInBlock id Q) g st := rfl
theorem iCode_loop {x : Code} : iCode P l xs (.loop x) Q g st = iLoop P l xs x Q g st := rfl
theorem iCode_exit {id : Nat} : iCode P l xs (.exit id) Q g st = Q (.exit id) g st := rfl
theorem iCode_ret : iCode P l xs .ret Q g st = Q .ret g st := rfl
theorem iThen_normal {next : IG → ASt → Prop} : iThen next Q .normal g st = next g st := rfl
theorem iThen_exit {next : IG → ASt → Prop} {id : Nat} : iThen next Q (.exit id) g st = Q (.exit id) g st := rfl
theorem iThen_ret {next : IG → ASt → Prop} : iThen next Q .ret g st = Q .ret g st := rfl
theorem iInBlock_normal {id : Nat} : iInBlock id Q .normal g st = Q .normal g st := rfl
theorem iInBlock_ret {id : Nat} : iInBlock id Q .ret g st = Q .ret g st := rfl
theorem iInBlock_exit {id id' : Nat} : iInBlock id Q (.exit id') g st = if id' = id then Q .normal g st else Q (.exit id') g st := rfl
theorem iOps_nil : iOps P l xs ops K [] g st = K g st := rfl
theorem iOps_plain : iOps P l xs ops K (⟨dst, op, ty, pos, aft, none⟩ :: rest) g st = iOp P l xs ⟨dst, op, ty, pos, aft, none⟩ (iOps P l xs ops K rest) g st := rfl
theorem iOps_guard {j : Nat} {want : Bool} : iOps P l xs ops K (⟨dst, op, ty, pos, aft, some (j, want)⟩ :: rest) g st = aGuardD ((ops[j]?).bind (·.dst)) want (iOp P l xs ⟨dst, op, ty, pos, aft, some (j, want)⟩ (iOps P l xs ops K rest) g) (aSkip dst (iOps P l xs ops K rest g)) st := rfl
theorem iOp_move {x : Operand} : iOp P l xs ⟨dst, .move x, ty, pos, aft, gd⟩ K g st = aOp P ⟨dst, .move x, ty, pos, aft, gd⟩ (iK K g) st := rfl
theorem iOp_assign {x : Operand} : iOp P l xs ⟨dst, .assign x, ty, pos, aft, gd⟩ K g st = aOp P ⟨dst, .assign x, ty, pos, aft, gd⟩ (iK K g) st := rfl
theorem iOp_pick {c x y : Operand} : iOp P l xs ⟨dst, .pick c x y, ty, pos, aft, gd⟩ K g st = aOp P ⟨dst, .pick c x y, ty, pos, aft, gd⟩ (iK K g) st := rfl
theorem iOp_load {t : TypeId} {x : Operand} : iOp P l xs ⟨dst, .load t x, ty, pos, aft, gd⟩ K g st = aOp P ⟨dst, .load t x, ty, pos, aft, gd⟩ (iK K g) st := rfl
theorem iOp_field {t : TypeId} {x : Operand} {f : Nat} : iOp P l xs ⟨dst, .fieldAddr t x f, ty, pos, aft, gd⟩ K g st = aOp P ⟨dst, .fieldAddr t x f, ty, pos, aft, gd⟩ (iK K g) st := rfl
theorem iOp_index {t : TypeId} {x i : Operand} : iOp P l xs ⟨dst, .indexAddr t x i, ty, pos, aft, gd⟩ K g st = aOp P ⟨dst, .indexAddr t x i, ty, pos, aft, gd⟩ (iK K g) st := rfl
theorem iOp_fieldV {t : TypeId} {x : Operand} {f : Nat} : iOp P l xs ⟨dst, .field t x f, ty, pos, aft, gd⟩ K g st = aOp P ⟨dst, .field t x f, ty, pos, aft, gd⟩ (iK K g) st := rfl
theorem iOp_bin {o : BinOp} {t t2 : TypeId} {x y : Operand} : iOp P l xs ⟨dst, .binOp o t x y t2, ty, pos, aft, gd⟩ K g st = aOp P ⟨dst, .binOp o t x y t2, ty, pos, aft, gd⟩ (iK K g) st := rfl
theorem iOp_un {o : UnOp} {t : TypeId} {x : Operand} : iOp P l xs ⟨dst, .unOp o t x, ty, pos, aft, gd⟩ K g st = aOp P ⟨dst, .unOp o t x, ty, pos, aft, gd⟩ (iK K g) st := rfl
theorem iOp_extract {x : Operand} {i : Nat} : iOp P l xs ⟨dst, .extract x i, ty, pos, aft, gd⟩ K g st = aOp P ⟨dst, .extract x i, ty, pos, aft, gd⟩ (iK K g) st := rfl
theorem iOp_conv {s d : TypeId} {x : Operand} : iOp P l xs ⟨dst, .convert s d x, ty, pos, aft, gd⟩ K g st = aOp P ⟨dst, .convert s d x, ty, pos, aft, gd⟩ (iK K g) st := rfl
theorem iOp_box {t : TypeId} {x : Operand} : iOp P l xs ⟨dst, .box t x, ty, pos, aft, gd⟩ K g st = aOp P ⟨dst, .box t x, ty, pos, aft, gd⟩ (iK K g) st := rfl
theorem iOp_alloc {t : TypeId} : iOp P l xs ⟨dst, .alloc t, ty, pos, aft, gd⟩ K g st = aOp P ⟨dst, .alloc t, ty, pos, aft, gd⟩ (iK K g) st := rfl
theorem iOp_store {t : TypeId} {p x : Operand} : iOp P l xs ⟨dst, .store t p x, ty, pos, aft, gd⟩ K g st = aOp P ⟨dst, .store t p x, ty, pos, aft, gd⟩ (iK K g) st := rfl
theorem iOp_build {t : TypeId} {parts : Array (Nat × Operand)} : iOp P l xs ⟨dst, .build t parts, ty, pos, aft, gd⟩ K g st = aOp P ⟨dst, .build t parts, ty, pos, aft, gd⟩ (iK K g) st := rfl
theorem iOp_slice {t : TypeId} {x : Operand} {lo hi mx : Option Operand} : iOp P l xs ⟨dst, .slice t x lo hi mx, ty, pos, aft, gd⟩ K g st = aOp P ⟨dst, .slice t x lo hi mx, ty, pos, aft, gd⟩ (iK K g) st := rfl
theorem iOp_len {x : Operand} {t : TypeId} : iOp P l xs ⟨dst, .call ⟨.builtin .len, #[x], #[t]⟩, ty, pos, aft, gd⟩ K g st = aOp P ⟨dst, .call ⟨.builtin .len, #[x], #[t]⟩, ty, pos, aft, gd⟩ (iK K g) st := rfl
theorem iOp_call {f : Operand} {args : List Operand} {ts : Array TypeId} : iOp P l xs ⟨dst, .call ⟨.value f, args.toArray, ts⟩, ty, pos, aft, gd⟩ K g st = iCallV P l xs (aEv st f) ⟨dst, .call ⟨.value f, args.toArray, ts⟩, ty, pos, aft, gd⟩ (args.map (aEv st)) K g st := by simp [iOp]
theorem iCallV_yield {o : Oper} {args : List AV} : iCallV P l xs (.c (.func (.yield l) #[] #[])) o args K g st = iYield xs args o.dst K g st := by simp [iCallV]
theorem iCallV_func {f : FuncId} {o : Oper} {args : List AV} : iCallV P l xs (.c (.func (.func f) #[] #[])) o args K g st = aOp P o (iK K g) st := rfl
theorem iK_eq : iK K g st = K g st := rfl
end
theorem ruI : type_of% (And.intro (And.intro (And.intro (And.intro (And.intro @iCode_skip @iCode_reg) (And.intro @iCode_seq @iCode_cond)) (And.intro (And.intro @iCode_block @iCode_loop) (And.intro @iCode_exit (And.intro @iCode_ret @iThen_normal)))) (And.intro (And.intro (And.intro @iThen_exit @iThen_ret) (And.intro @iInBlock_normal @iInBlock_ret)) (And.intro (And.intro @iInBlock_exit @iOps_nil) (And.intro (And.intro @iOps_plain @iOps_guard) (And.intro @iOp_move @iOp_assign))))) (And.intro (And.intro (And.intro (And.intro @iOp_pick @iOp_load) (And.intro @iOp_field @iOp_index)) (And.intro (And.intro @iOp_fieldV @iOp_bin) (And.intro @iOp_un (And.intro @iOp_extract @iOp_conv)))) (And.intro (And.intro (And.intro @iOp_box @iOp_alloc) (And.intro @iOp_store (And.intro @iOp_build @iOp_slice))) (And.intro (And.intro @iOp_len @iOp_call) (And.intro @iCallV_yield (And.intro @iCallV_func @iK_eq)))))) :=
  (And.intro (And.intro (And.intro (And.intro (And.intro @iCode_skip @iCode_reg) (And.intro @iCode_seq @iCode_cond)) (And.intro (And.intro @iCode_block @iCode_loop) (And.intro @iCode_exit (And.intro @iCode_ret @iThen_normal)))) (And.intro (And.intro (And.intro @iThen_exit @iThen_ret) (And.intro @iInBlock_normal @iInBlock_ret)) (And.intro (And.intro @iInBlock_exit @iOps_nil) (And.intro (And.intro @iOps_plain @iOps_guard) (And.intro @iOp_move @iOp_assign))))) (And.intro (And.intro (And.intro (And.intro @iOp_pick @iOp_load) (And.intro @iOp_field @iOp_index)) (And.intro (And.intro @iOp_fieldV @iOp_bin) (And.intro @iOp_un (And.intro @iOp_extract @iOp_conv)))) (And.intro (And.intro (And.intro @iOp_box @iOp_alloc) (And.intro @iOp_store (And.intro @iOp_build @iOp_slice))) (And.intro (And.intro @iOp_len @iOp_call) (And.intro @iCallV_yield (And.intro @iCallV_func @iK_eq))))))

/-! ### it is so -/
/-- what the caller has given -/
structure IHyp (P : Program) (l : Nat) (xs : List (List AV)) (J Jx : List (List AV) → (Nat → Prop) → (Nat → Prop) → World → Prop) : Prop where
  keep : ∀ pre T M M' W W', J pre T M W → BelowX M W.heap.size W W' → (∀ b, M' b → M b ∨ (W.heap.size ≤ b ∧ b < W'.heap.size)) → J pre (grow T W W') M' W'
  keepx : ∀ pre T M M' W W', Jx pre T M W → BelowX M W.heap.size W W' → (∀ b, M' b → M b ∨ (W.heap.size ≤ b ∧ b < W'.heap.size)) → Jx pre (grow T W W') M' W'
  round : ∀ pre x T M W (vs : Array Value), J pre T M W → (pre ++ [x]) <+: xs → vs.size = x.length → (∀ (j : Nat) (v : Value) (av : AV), vs[j]? = some v → x[j]? = some av → RT W (fun b => T b ∧ ¬ M b) v av) →
      YieldAt Fence.wide 0 P l vs W fun e W' => (e = .returned (.bool true) ∧ J (pre ++ [x]) T M W' ∧ Kept T W W') ∨ (e = .returned (.bool false) ∧ Jx (pre ++ [x]) T M W' ∧ Kept T W W')
def JJ (J Jx : List (List AV) → (Nat → Prop) → (Nat → Prop) → World → Prop) (g : IG) (T M : Nat → Prop) (W : World) : Prop := match g.2 with | true => J g.1 T M W | false => Jx g.1 T M W
/-- somebody else's -/
def xOf (T : Nat → Prop) (W : World) (b : Nat) : Prop := b < W.heap.size ∧ ¬ T b
/-- what the iterator is not to touch begins behind the program's own variables -/
structure IAmb (T0 : Nat → Prop) (W0 : World) (T : Nat → Prop) : Prop where
  amb : Amb W0
  tab0 : ∀ b, b < ambD → T0 b
  tab : ∀ b, b < ambD → T b
def cxI (T0 : Nat → Prop) (W0 : World) (T : Nat → Prop) (W : World) (hq : IAmb T0 W0 T) : Cx := ⟨T0, W0, xOf T W, hq.amb, fun b hb => Nat.le_of_not_lt fun h => hb.2 (hq.tab b h), hq.tab0⟩
def ownB (tab : ATab) (L : Nat → Value) (b : Nat) : Prop := ∃ id o, tab.get id = some o ∧ vblk (L id) = some b
def ISt (T0 : Nat → Prop) (W0 : World) (J Jx : List (List AV) → (Nat → Prop) → (Nat → Prop) → World → Prop) (g : IG) (st : ASt) (a : Act) (W : World) : Prop :=
  ∃ (T : Nat → Prop) (hqq : IAmb T0 W0 T) (L : Nat → Value), Conc (cxI T0 W0 T W hqq) a W st L ∧ a.defers = [] ∧ (∀ b, T b → b < W.heap.size) ∧ JJ J Jx g T (ownB st.tab L) W
section
variable {P : Program} {l : Nat} {xs : List (List AV)} {T0 : Nat → Prop} {W0 : World} {J Jx : List (List AV) → (Nat → Prop) → (Nat → Prop) → World → Prop} {g : IG} {st st' : ASt} {a a' : Act} {W W' : World} {L L' : Nat → Value} {T M M' : Nat → Prop}
theorem xOf_grow (hs : W.heap.size ≤ W'.heap.size) : xOf (grow T W W') W' = xOf T W := by
  funext b
  apply propext
  unfold xOf grow
  constructor
  · rintro ⟨h1, h2⟩
    exact ⟨Nat.lt_of_not_le fun h => h2 (.inr ⟨h, h1⟩), fun h => h2 (.inl h)⟩
  · rintro ⟨h1, h2⟩
    refine ⟨by omega, fun h => ?_⟩
    rcases h with h | h
    · exact h2 h
    · omega
theorem IAmb.grow (hq : IAmb T0 W0 T) : IAmb T0 W0 (grow T W W') := ⟨hq.amb, hq.tab0, fun b hb => .inl (hq.tab b hb)⟩
theorem cxI_grow (hq : IAmb T0 W0 T) (hs : W.heap.size ≤ W'.heap.size) : cxI T0 W0 (grow T W W') W' hq.grow = cxI T0 W0 T W hq := by
  unfold cxI
  congr 1
  exact xOf_grow hs
theorem grow_self : grow T W W = T := by
  funext b
  apply propext
  unfold grow
  constructor
  · rintro (h | h)
    · exact h
    · omega
  · exact .inl
theorem jj_keep (H : IHyp P l xs J Jx) (h : JJ J Jx g T M W) (hb : BelowX M W.heap.size W W') (hM : ∀ b, M' b → M b ∨ (W.heap.size ≤ b ∧ b < W'.heap.size)) : JJ J Jx g (grow T W W') M' W' := by
  obtain ⟨pre, b⟩ := g
  cases b
  · exact H.keepx _ _ _ _ _ _ h hb hM
  · exact H.keep _ _ _ _ _ _ h hb hM
/-- what the iterator may read or write is T -/
theorem in_T {hqq : IAmb T0 W0 T} (h : Conc (cxI T0 W0 T W hqq) a W st L) {b : Nat} (hs : Sx (cxI T0 W0 T W hqq) W st.tab L b) : T b ∧ ¬ ownB st.tab L b :=
  ⟨Classical.byContradiction fun hn => hs.2.1.2 ⟨hs.1, hn⟩, fun ⟨id, o, h1, h2⟩ => hs.2.2 id o h1 h2⟩
theorem own_T {hqq : IAmb T0 W0 T} (h : Conc (cxI T0 W0 T W hqq) a W st L) {id : Nat} {o : AObj} {b : Nat} (h1 : st.tab.get id = some o) (h2 : vblk (L id) = some b) : T b :=
  Classical.byContradiction fun hn => (h.lay.ex b ⟨((h.lay.objs id o h1).ge h2).2, hn⟩).2 id o h1 h2
theorem conc_kept {hqq : IAmb T0 W0 T} (h : Conc (cxI T0 W0 T W hqq) a W st L) (hk : Kept T W W') : Conc (cxI T0 W0 T W' hqq) a W' st L := by
  have hW : BelowX (xOf T W) W0.heap.size W0 W := h.lay.below
  refine conc_move h rfl (fun b hs => hk.block b (in_T h hs).1) (fun id o g h1 h2 => hk.block g (own_T h h1 h2)) (fun b hs => ⟨Nat.lt_of_lt_of_le hs.1 hk.size, ⟨hs.2.1.1, fun hx => hx.2 (in_T h hs).1⟩, hs.2.2⟩) ?_ (fun b hx => ⟨hx.1, fun id o h1 h2 => hx.2 (own_T h h1 h2)⟩)
  refine ⟨hk.os.trans hW.os, hk.tape.trans hW.tape, hk.output.trans hW.output, Nat.le_trans hW.size hk.size, fun k (hk' : k < W0.heap.size) hx => ?_⟩
  have hT : T k := Classical.byContradiction fun hn => hx ⟨Nat.lt_of_lt_of_le hk' (Nat.le_trans hW.size hk.size), hn⟩
  exact (hk.block k hT).trans (hW.block k hk' fun hx' => hx'.2 hT)
theorem wpIn_of_wp0 {o : Oper} {next : Act → World → Prop} {Q : Exit → Act → World → Prop} (h : o.wp P a W next Q) : o.wpIn Fence.wide 0 P a W next Q := by
  refine ⟨fun _ _ => trivial, ?_⟩
  show o.uponIn Fence.wide 0 P a next Q ((execOp a.eval o).run P W)
  unfold Oper.wp at h
  generalize (execOp a.eval o).run P W = r at h
  cases r with
  | ok x w1 =>
    cases x with
    | value v => exact h
    | skip => exact h
    | defer d => exact h
    | enter f args => exact ⟨fun h => (by cases h), callsIn_wide.2 h⟩
    | row row args =>
      refine ⟨fun h => (by cases h), fun c cs _ => ?_⟩
      obtain ⟨v, w', h1, h2⟩ := h c cs
      exact ⟨v, w', h1, stepsIn_wide.2 h2⟩
    | _ => exact h.elim
  | halt x w1 =>
    cases x <;> first | exact h | exact h.elim
theorem iop_ok (H : IHyp P l xs J Jx) {o : Oper} {K : IG → ASt → Prop} {Q : Exit → Act → World → Prop} (hf : fOp o = true) (h : ISt T0 W0 J Jx g st a W) (hp : iOp P l xs o K g st) :
    o.wpIn Fence.wide 0 P a W (fun a' W' => ∃ g' st', K g' st' ∧ ISt T0 W0 J Jx g' st' a' W') Q := by
  obtain ⟨T, hqq, L, hC, hd, hT, hJ⟩ := h
  have plain : aOp P o (iK K g) st → o.wpIn Fence.wide 0 P a W (fun a' W' => ∃ g' st', K g' st' ∧ ISt T0 W0 J Jx g' st' a' W') Q := fun hp => by
    refine wpIn_of_wp0 (Oper.wp_mono (fun a' W' ⟨st', L', h2, h3, h4, h5⟩ => ?_) (op_okF hC hp hf))
    have hW : BelowX (xOf T W) W0.heap.size W0 W := hC.lay.below
    have hW' : BelowX (xOf T W) W0.heap.size W0 W' := h3.lay.below
    refine ⟨g, st', h2, grow T W W', hqq.grow, L', by rw [cxI_grow hqq h4.size]; exact h3, h5.trans hd, fun b hb' => ?_, jj_keep H hJ ⟨hW'.os.trans hW.os.symm, hW'.tape.trans hW.tape.symm, hW'.output.trans hW.output.symm, h4.size, fun k hk hn => h4.keep k hk fun id o h6 h7 => hn ⟨id, o, h6, h7⟩⟩ fun b hb' => ?_⟩
    · rcases hb' with hb' | hb'
      · exact Nat.lt_of_lt_of_le (hT b hb') h4.size
      · exact hb'.2
    · obtain ⟨id, o, h6, h7⟩ := hb'
      rcases Nat.lt_or_ge b W.heap.size with hlt | hge
      · obtain ⟨id2, o2, h8, h9⟩ := h4.young id o b h6 h7 hlt
        exact .inl ⟨id2, o2, h8, h9⟩
      · exact .inr ⟨hge, ((h3.lay.objs id o h6).ge h7).2⟩
  obtain ⟨dst, op, ty, pos, aft, gd⟩ := o
  unfold iOp at hp
  simp only at hp
  split at hp
  · rename_i c
    obtain ⟨callee, args, argTypes⟩ := c
    simp only at hp
    split at hp
    · rename_i f
      unfold iCallV at hp
      split at hp
      · rename_i l' first caps hfv
        obtain ⟨⟨rfl, rfl, rfl⟩, ⟨h1, h2, h3⟩, h4, h5⟩ := hp
        have hfe := (eval_ok hC f).1
        rw [hfv] at hfe
        have hfe := hfe.c_inv
        have hJ' : J g.1 T (ownB st.tab L) W := by
          unfold JJ at hJ
          rw [h1] at hJ
          exact hJ
        have hrt : ∀ (j : Nat) (v : Value) (av : AV), (args.map a.eval)[j]? = some v → (args.toList.map (aEv st))[j]? = some av → RT W (fun b => T b ∧ ¬ ownB st.tab L b) v av := fun j v av h6 h7 => by
          rw [Array.getElem?_map] at h6
          rw [List.getElem?_map, Array.getElem?_toList] at h7
          cases hj : args[j]? with
          | none => simp [hj] at h6
          | some x =>
            simp [hj] at h6 h7
            subst h6 h7
            have htr := treeAL_mem h2 (aEv st x) (List.mem_map.2 ⟨x, List.mem_of_getElem? (by rw [Array.getElem?_toList]; exact hj), rfl⟩)
            exact (tree_ofA (eval_ok hC x).1 htr).mono (fun _ _ => rfl) fun b hb => in_T hC hb
        obtain ⟨fn, tmps, assign, body, hy, hR⟩ := H.round g.1 _ T _ W (args.map a.eval) hJ' h3 (by simp) hrt
        refine ⟨fun _ _ => trivial, ?_⟩
        have hrun : (execOp a.eval { dst := dst, op := .call { callee := .value f, args := args, argTypes := argTypes }, type := ty, pos := pos, after := aft, guard := gd }).run P W = .ok (.round l' fn tmps assign body) W := by
          simp [execOp, resolve, hfe, Deferred.ofValue, invoke, hy]
        have hsem : ∀ o : Oper, Oper.semAt Fence.wide.round a.eval o = execOp a.eval o := fun o => Oper.semAt_none _ _
        rw [hsem, hrun, Oper.uponIn_round]
        refine ⟨fun h => (by cases h), hR.mono ?_⟩
        have hput : ∀ b : Bool, ∀ W', Kept T W W' → Conc (cxI T0 W0 T W' hqq) (a.put dst (.bool b)) W' (st.put dst (.c (.bool b))) L ∧ (a.put dst (.bool b)).defers = [] ∧ ∀ x, T x → x < W'.heap.size := fun b W' hk =>
          ⟨conc_pure (conc_kept hC hk) (.tree (.c _)) trivial dst, by rw [put_defers]; exact hd, fun x hx => Nat.lt_of_lt_of_le (hT x hx) hk.size⟩
        rintro e W' (⟨rfl, hj, hk⟩ | ⟨rfl, hj, hk⟩)
        · obtain ⟨c1, c2, c3⟩ := hput true W' hk
          exact ⟨_, _, h4, T, hqq, L, c1, c2, c3, by rw [put_tab]; exact hj⟩
        · obtain ⟨c1, c2, c3⟩ := hput false W' hk
          exact ⟨_, _, h5, T, hqq, L, c1, c2, c3, by rw [put_tab]; exact hj⟩
      · exact plain hp
    · exact plain hp
  · exact plain hp
theorem iops_ok (H : IHyp P l xs J Jx) {ops : Array Oper} {K : IG → ASt → Prop} {Q : Exit → Act → World → Prop} (hQ : ∀ g st a W, K g st → ISt T0 W0 J Jx g st a W → Q .normal a W) :
    ∀ (s : List Oper) (g : IG) (st : ASt) (a : Act) (W : World), (∀ o ∈ s, fOp o = true) → ISt T0 W0 J Jx g st a W → iOps P l xs ops K s g st → wpListIn Fence.wide 0 P ops Q s a W
  | [], g, st, a, W, _, h, hp => hQ g st a W hp h
  | o :: rest, g, st, a, W, hf, h, hp => by
    unfold iOps at hp
    have hfo := hf o (List.mem_cons_self ..)
    obtain ⟨T, hqq, L, hC, hd, hT, hJ⟩ := h
    refine wpListIn_step fun K' hK' => ?_
    rcases guard_ok hC hp o rfl with ⟨hw, st', h1, h2, e1, e2⟩ | ⟨hw, st', h1, h2, e1, e2⟩
    · rw [if_pos hw]
      have hi := iop_ok (Q := Q) H hfo ⟨T, hqq, L, h2, hd, hT, by rw [e1]; exact hJ⟩ h1
      refine ⟨hi.1, ?_⟩
      have := hi.2
      revert this
      generalize (o.semAt Fence.wide.round a.eval).run P W = r
      intro this
      have hm : ∀ a' W', (∃ g' st', iOps P l xs ops K rest g' st' ∧ ISt T0 W0 J Jx g' st' a' W') → K' a' W' := fun a' W' ⟨g', st'', h3, h4⟩ => hK' a' W' (iops_ok H hQ rest g' st'' a' W' (fun o ho => hf o (List.mem_cons_of_mem _ ho)) h4 h3)
      cases r with
      | ok x w1 =>
        cases x with
        | value v => exact hm _ _ this
        | skip => exact hm _ _ this
        | defer d => exact hm _ _ this
        | enter f args =>
          refine ⟨this.1, this.2.mono ?_⟩
          intro e w'' h5
          cases e with
          | returned v => exact hm _ _ h5
          | panicked c => exact h5
          | outgrown => exact h5
        | row row args => exact ⟨this.1, this.2.mono fun v w'' h5 => hm _ _ h5⟩
        | round l f tmps assign body =>
          refine ⟨this.1, this.2.mono ?_⟩
          intro e w'' h5
          cases e with
          | returned v => exact hm _ _ h5
          | panicked c => exact h5
          | outgrown => exact h5
        | _ => exact this
      | halt x w1 => cases x <;> exact this
    · rw [if_neg (by simp [hw])]
      exact ⟨fun _ _ => trivial, hK' _ _ (iops_ok H hQ rest g _ _ W (fun o ho => hf o (List.mem_cons_of_mem _ ho)) ⟨T, hqq, L, skip_conc h2 o.dst, by rw [put_defers]; exact hd, hT, by rw [put_tab, e1]; exact hJ⟩ h1)⟩
def fCodeI : Code → Bool
  | .skip => true
  | .region _ ops draw => !draw && ops.toList.all fOp
  | .seq x y => fCodeI x && fCodeI y
  | .cond _ x y => fCodeI x && fCodeI y
  | .block _ x => fCodeI x
  | .loop x => fCodeI x
  | .exit _ => true
  | .ret => true
  | _ => false
abbrev AfterI (T0 : Nat → Prop) (W0 : World) (J Jx : List (List AV) → (Nat → Prop) → (Nat → Prop) → World → Prop) (Q : Exit → IG → ASt → Prop) : Exit → Act → World → Prop := fun e a W => ∃ g st, Q e g st ∧ ISt T0 W0 J Jx g st a W
theorem ist_weak (H : IHyp P l xs J Jx) (h : ISt T0 W0 J Jx g st a W) (hw : Weak st st') : ISt T0 W0 J Jx g st' a W := by
  obtain ⟨T, hqq, L, hC, hd, hT, hJ⟩ := h
  obtain ⟨L', hC', hS⟩ := hw _ _ _ _ hC
  refine ⟨T, hqq, L', hC', hd, hT, ?_⟩
  have := jj_keep (M' := ownB st'.tab L') (W' := W) H hJ ⟨rfl, rfl, rfl, Nat.le_refl _, fun _ _ _ => rfl⟩ fun b hb => .inl (Classical.byContradiction fun hn => ?_)
  · rw [grow_self] at this
    exact this
  · obtain ⟨id, o, h1, h2⟩ := hb
    have hge := (hC'.lay.objs id o h1).ge h2
    have hX : ¬ xOf T W b := fun hx => (hC'.lay.ex b hx).2 id o h1 h2
    have hs : Sx (cxI T0 W0 T W hqq) W st.tab L b := ⟨hge.2, ⟨.inr hge.1, hX⟩, fun id2 o2 h3 h4 => hn ⟨id2, o2, h3, h4⟩⟩
    exact (hS b hs).2.2 id o h1 h2
theorem icode_ok (H : IHyp P l xs J Jx) : ∀ (c : Code), fCodeI c = true → ∀ (Q : Exit → IG → ASt → Prop) (g : IG) (st : ASt) (a : Act) (W : World), ISt T0 W0 J Jx g st a W → iCode P l xs c Q g st → c.wpIn Fence.wide 0 P (AfterI T0 W0 J Jx Q) a W := by
  intro c
  induction c with
  | skip => exact fun _ Q g st a W h hp => wpIn_skip ⟨g, st, hp, h⟩
  | region id ops draw =>
    intro hf Q g st a W h hp
    cases draw with
    | false =>
      simp only [fCodeI, Bool.not_false, Bool.true_and, List.all_eq_true] at hf
      exact wpIn_region_list (iops_ok H (fun g st a W h1 h2 => ⟨g, st, h1, h2⟩) _ g st a W hf h hp)
    | true => cases hf
  | seq x y ihx ihy =>
    intro hf Q g st a W h hp
    simp only [fCodeI, Bool.and_eq_true] at hf
    unfold iCode at hp
    refine wpIn_seq (wpIn_mono (ihx hf.1 _ g st a W h hp) (fun e a' W' ⟨g', st', h1, h2⟩ => ?_))
    cases e with
    | normal => exact ihy hf.2 Q g' st' a' W' h2 h1
    | _ => exact ⟨g', st', h1, h2⟩
  | cond c x y ihx ihy =>
    intro hf Q g st a W h hp
    simp only [fCodeI, Bool.and_eq_true] at hf
    unfold iCode aCond at hp
    split at hp
    · rename_i b hb
      obtain ⟨T, hqq, L, hC, _⟩ := id h
      have hv := (eval_ok hC c).1
      rw [hb] at hv
      have hv := hv.c_inv
      cases b
      · exact wpIn_cond_false hv (ihy hf.2 Q g st a W h hp)
      · exact wpIn_cond_true hv (ihx hf.1 Q g st a W h hp)
    · exact hp.elim
  | block id x ih =>
    intro hf Q g st a W h hp
    simp only [fCodeI] at hf
    unfold iCode at hp
    refine wpIn_block (wpIn_mono (ih hf _ g st a W h hp) (fun e a' W' ⟨g', st', h1, h2⟩ => ?_))
    cases e with
    | exit id' =>
      simp only [iInBlock, Exit.inBlock] at h1 ⊢
      split
      · rename_i e
        rw [if_pos e] at h1
        exact ⟨g', st', h1, h2⟩
      · rename_i e
        rw [if_neg e] at h1
        exact ⟨g', st', h1, h2⟩
    | _ => exact ⟨g', st', h1, h2⟩
  | loop x ih =>
    intro hf Q g st a W h hp
    simp only [fCodeI] at hf
    unfold iCode at hp
    obtain ⟨I, μ, ⟨st0, hw0, hI⟩, hr⟩ := hp
    let p : Act → World → Nat → Prop := fun a W n => ∃ g st, I g st ∧ ISt T0 W0 J Jx g st a W ∧ μ g st = n
    refine wpIn_loop (fun a W => ∃ n, p a W n) (fun a W => least (p a W)) ⟨_, g, st0, hI, ist_weak H h hw0, rfl⟩ fun a W hpa => ?_
    obtain ⟨⟨g, st, h1, h2, h3⟩, _⟩ := least_spec hpa
    refine wpIn_mono (ih hf _ g st a W h2 (hr g st h1)) (fun e a' W' ⟨g', st', h4, h5⟩ => ?_)
    cases e with
    | normal =>
      obtain ⟨st'', hw, hI'', hlt⟩ := h4
      have hpn : p a' W' (μ g' st'') := ⟨g', st'', hI'', ist_weak H h5 hw, rfl⟩
      refine ⟨⟨_, hpn⟩, ?_⟩
      have := (least_spec ⟨_, hpn⟩).2 _ hpn
      show least (p a' W') < least (p a W)
      omega
    | _ => exact ⟨g', st', h4, h5⟩
  | exit id => exact fun _ Q g st a W h hp => wpIn_exit ⟨g, st, hp, h⟩
  | ret => exact fun _ Q g st a W h hp => wpIn_ret ⟨g, st, hp, h⟩
  | _ => exact fun hf => (by cases hf)
/-- where an iterator ends -/
def iRet (xs : List (List AV)) : Exit → IG → ASt → Prop
  | .normal, g, _ => (g.2 = true → g.1 = xs) ∧ g.1 <+: xs
  | .ret, g, _ => (g.2 = true → g.1 = xs) ∧ g.1 <+: xs
  | _, _, _ => False
end
theorem conc_init {S : Nat → Prop} {w : World} {vs : Array Value} {args : List AV} {n : Nat} {hqq : IAmb S w S} (hS : ∀ b, S b → b < w.heap.size) (hvs : vs.size = args.length) (hn : args.length ≤ n) (hv : ∀ (j : Nat) (v : Value) (av : AV), vs[j]? = some v → args[j]? = some av → RT w S v av) :
    Conc (cxI S w S w hqq) { tmps := vs ++ Array.replicate (n - vs.size) undef, defers := [] } w ⟨n, envOf 0 args, [], 0⟩ (fun _ => undef) := by
  have hL : Lay (cxI S w S w hqq) w [] (fun _ => undef) := ⟨belowX (Below.refl _ _), fun id o h => (by cases h), fun id id' o o' g h => (by cases h), fun b hb => ⟨hb.1, fun id o h => (by cases h)⟩⟩
  refine ⟨hL, ?_, Marks.nil _ _ _, fun id o h => (by cases h), fun t => ?_⟩
  · simp
    omega
  have e : (⟨n, envOf 0 args, [], 0⟩ : ASt).get t = args.getD t .any := by
    show (if t < n then aget (envOf 0 args) t else .any) = _
    rw [aget_envOf]
    split
    · simp
    · simp [List.getD, List.getElem?_eq_none (show args.length ≤ t by omega)]
  rw [e]
  by_cases ht : t < args.length
  · have ht' : t < vs.size := by omega
    have e2 : (vs ++ Array.replicate (n - vs.size) undef).getD t undef = vs[t] := by
      rw [Array.getD_eq_getD_getElem?, Array.getElem?_append_left ht', Array.getElem?_eq_getElem ht']
      rfl
    have e3 : args.getD t .any = args[t] := by simp [List.getD, ht]
    rw [e2, e3]
    have := hv t _ _ (Array.getElem?_eq_getElem ht') (List.getElem?_eq_getElem ht)
    exact ⟨.tree (this.mono (fun _ _ => rfl) fun b hb => ⟨hS b hb, ⟨.inl hb, fun hx => hx.2 hb⟩, fun id o h => by cases h⟩), this.lt 0⟩
  · have e3 : args.getD t .any = .any := by simp [List.getD, List.getElem?_eq_none (Nat.le_of_not_lt ht)]
    rw [e3]
    exact ⟨.tree (.any _), trivial⟩
/-- AN ITERATOR's CONTRACT OUT OF ITS CODE. -/
theorem aseq_of_code {P : Program} {f : FuncId} {fn : Func} {c : Code} (hf : P.funcs[f]? = some fn) (hb : fn.body = some c) (hname : (fn.name == "runtime.NumGoroutine") = false) {caps : List AV} {xs : List (List AV)} {n : Nat} (hnt : fn.ntmps = n) (hrs : fn.results = #[]) (hn : Nat.ble (caps.length + 1) n = true)
    (hc : fCodeI c = true) (ht : treeL caps) (h : ∀ l, iCode P l xs c (iRet xs) ([], true) ⟨n, envOf 0 (.c (.func (.yield l) #[] #[]) :: caps), [], 0⟩) : ASeq P f caps xs := by
  have hn := Nat.le_of_ble_eq_true hn
  subst hnt
  refine ⟨enters_of hf hb hname, fun l T0 lb W0 J Jx hlb hok0 hcap hlt hkeep hkeepx hround hJ0 => ?_⟩
  have hqq : IAmb T0 W0 T0 := ⟨hok0.amb, hok0.tab, hok0.tab⟩
  refine callsIn_of_wp hf hb trivial ?_ rfl
  have H : IHyp P l xs J Jx := ⟨hkeep, hkeepx, hround⟩
  have hC : Conc (cxI T0 W0 T0 W0 hqq) { tmps := (#[.func (.yield l) #[] #[]] ++ lb) ++ Array.replicate (fn.ntmps - (#[Value.func (.yield l) #[] #[]] ++ lb).size) undef, defers := [] } W0 ⟨fn.ntmps, envOf 0 (.c (.func (.yield l) #[] #[]) :: caps), [], 0⟩ (fun _ => undef) := by
    refine conc_init (args := .c (.func (.yield l) #[] #[]) :: caps) ?_ ?_ (by simpa using hn) fun j v av h1 h2 => ?_
    · exact hlt _ _ _ _ hJ0
    · simp
      omega
    · cases j with
      | zero =>
        rw [Array.getElem?_append_left (by simp)] at h1
        simp at h1 h2
        subst h1
        subst h2
        exact .c _
      | succ j =>
        refine hcap j v av ?_ (by simpa using h2)
        rw [Array.getElem?_append_right (by simp)] at h1
        simpa using h1
  have hJ1 : J [] T0 (ownB (⟨fn.ntmps, envOf 0 (.c (.func (.yield l) #[] #[]) :: caps), [], 0⟩ : ASt).tab fun _ => undef) W0 := by
    have := hkeep [] T0 _ (ownB [] fun _ => undef) W0 W0 hJ0 ⟨rfl, rfl, rfl, Nat.le_refl _, fun _ _ _ => rfl⟩ fun b ⟨id, o, h1, _⟩ => (by cases h1)
    rw [grow_self] at this
    exact this
  refine wpIn_mono (icode_ok H c hc _ ([], true) _ _ _ ⟨T0, hqq, _, hC, rfl, hlt _ _ _ _ hJ0, hJ1⟩ (h l)) fun e a W' ⟨g, st, hq, T, hq3, L, hC', hd, _, hJ⟩ => ?_
  have fin : ((g.2 = true → g.1 = xs) ∧ g.1 <+: xs) → a.defers = [] ∧ ∃ v, (results fn a.tmps).run P W' = .ok v W' ∧ (∃ u, (Ending.returned v : Ending) = .returned u) ∧ ((∃ T M, J xs T M W') ∨ ∃ pre T M, pre <+: xs ∧ Jx pre T M W') := fun ⟨h1, h2⟩ => by
    refine ⟨hd, .tuple #[], by simp [results, hrs], ⟨_, rfl⟩, ?_⟩
    obtain ⟨pre, b⟩ := g
    cases b with
    | true =>
      obtain rfl : pre = xs := h1 rfl
      exact .inl ⟨T, _, hJ⟩
    | false => exact .inr ⟨pre, T, _, h2, hJ⟩
  cases e with
  | normal => exact fin hq
  | ret => exact fin hq
  | _ => exact hq.elim
end
section
open Go.RowKit

mutual
def AV.rpz (id : Nat) (cells : List AV) : AV → AV
  | .op id' i j => if id' = id then (if i = 0 then .rp (cells.drop j) else .any) else .op id' i j
  | .osl id' => if id' = id then .any else .osl id'
  | .agg cs => .agg (AV.rpzL id cells cs)
  | .tup cs => .tup (AV.rpzL id cells cs)
  | .fn f cs => .fn f (AV.rpzL id cells cs)
  | .bfn f cs => .bfn f (AV.rpzL id cells cs)
  | .any => .any
  | .c v => .c v
  | .sl sz rows => .sl sz rows
  | .rp cs => .rp cs
def AV.rpzL (id : Nat) (cells : List AV) : List AV → List AV
  | [] => []
  | a :: l => a.rpz id cells :: AV.rpzL id cells l
end
theorem rpzL_map (id : Nat) (cells : List AV) : ∀ l : List AV, AV.rpzL id cells l = l.map (·.rpz id cells)
  | [] => rfl
  | a :: l => by rw [AV.rpzL, rpzL_map id cells l]; rfl
def rpzEnv (id : Nat) (cells : List AV) : List (Nat × AV) → List (Nat × AV)
  | [] => []
  | (t, av) :: l => (t, av.rpz id cells) :: rpzEnv id cells l
theorem rpzEnv_get (id : Nat) (cells : List AV) : ∀ (l : List (Nat × AV)) (t : Nat), aget (rpzEnv id cells l) t = (aget l t).rpz id cells
  | [], t => rfl
  | (k, av) :: l, t => by
    unfold rpzEnv aget
    split
    · rfl
    · exact rpzEnv_get id cells l t
def treeObj : AObj → Prop
  | .box _ cells => treeL cells
  | .row _ _ _ => True
  | .map _ => True
  | .nest _ _ _ => False
  | .ghost _ _ => False
def treeTab (id : Nat) : ATab → Prop
  | [] => True
  | (k, some o) :: l => (k = id ∨ treeObj o) ∧ treeTab id l
  | (_, none) :: l => treeTab id l
theorem treeTab_get {id : Nat} : ∀ {l : ATab} {k : Nat} {o : AObj}, treeTab id l → l.get k = some o → k = id ∨ treeObj o
  | [], k, o, _, h => by cases h
  | (k', some oo) :: l, k, o, ht, h => by
    rw [ATab.get_cons] at h
    split at h
    · rename_i e
      cases h
      rw [e]
      exact ht.1
    · exact treeTab_get ht.2 h
  | (k', none) :: l, k, o, ht, h => by
    rw [ATab.get_cons] at h
    split at h
    · cases h
    · exact treeTab_get (l := l) ht h
theorem rt_rpz {w : World} {S : Nat → Prop} {x : Value} {av : AV} (h : RT w S x av) (id : Nat) (cells : List AV) : av.rpz id cells = av := by
  induction h with
  | agg xs cs hn hr ih =>
    simp only [AV.rpz, rpzL_map, AV.agg.injEq]
    apply List.ext_getElem?
    intro j
    rw [List.getElem?_map]
    cases hj : cs[j]? with
    | none => rfl
    | some av =>
      have hlt : j < xs.size := by rw [hn]; exact (List.getElem?_eq_some_iff.1 hj).1
      simp [ih j _ av (Array.getElem?_eq_getElem hlt) hj]
  | tup xs cs hn hr ih =>
    simp only [AV.rpz, rpzL_map, AV.tup.injEq]
    apply List.ext_getElem?
    intro j
    rw [List.getElem?_map]
    cases hj : cs[j]? with
    | none => rfl
    | some av =>
      have hlt : j < xs.size := by rw [hn]; exact (List.getElem?_eq_some_iff.1 hj).1
      simp [ih j _ av (Array.getElem?_eq_getElem hlt) hj]
  | fn f xs cs hn hr ih =>
    simp only [AV.rpz, rpzL_map, AV.fn.injEq]
    refine ⟨trivial, ?_⟩
    apply List.ext_getElem?
    intro j
    rw [List.getElem?_map]
    cases hj : cs[j]? with
    | none => rfl
    | some av =>
      have hlt : j < xs.size := by rw [hn]; exact (List.getElem?_eq_some_iff.1 hj).1
      simp [ih j _ av (Array.getElem?_eq_getElem hlt) hj]
  | bfn f xs cs hn hr ih =>
    simp only [AV.rpz, rpzL_map, AV.bfn.injEq]
    refine ⟨trivial, ?_⟩
    apply List.ext_getElem?
    intro j
    rw [List.getElem?_map]
    cases hj : cs[j]? with
    | none => rfl
    | some av =>
      have hlt : j < xs.size := by rw [hn]; exact (List.getElem?_eq_some_iff.1 hj).1
      simp [ih j _ av (Array.getElem?_eq_getElem hlt) hj]
  | _ => rfl
theorem rpz_lt {id nx : Nat} {cells : List AV} : ∀ {av : AV}, av.lt nx → (av.rpz id cells).lt nx := by
  intro av
  induction av using AV.rec (motive_2 := fun _ => True) (motive_3 := fun l => AV.ltL nx l → AV.ltL nx (AV.rpzL id cells l)) <;> simp_all [AV.lt, AV.ltL, AV.rpz, AV.rpzL]
  · split <;> simp_all [AV.lt]
  · split
    · split <;> simp [AV.lt]
    · simp_all [AV.lt]
/-- a variable of its own is written no more: pointers to it are pointers to what is read -/
theorem weak_rpM {n nx : Nat} {env : List (Nat × AV)} {tab : ATab} (id : Nat) {ty : TypeId} {cells : List AV} (hid : tab.get id = some (.box ty cells)) (ht : treeML cells) (hot : treeTab id tab) : Weak ⟨n, env, tab, nx⟩ ⟨n, rpzEnv id cells env, (id, none) :: tab, nx⟩ := by
  intro cx a w L h
  have hget : ∀ k o, ATab.get ((id, none) :: tab) k = some o → k ≠ id ∧ tab.get k = some o := fun k o hk => by
    rw [ATab.get_cons] at hk
    split at hk
    · cases hk
    · exact ⟨by assumption, hk⟩
  have hS : ∀ b, Sx cx w tab L b → Sx cx w ((id, none) :: tab) L b := fun b hb => ⟨hb.1, hb.2.1, fun k o hk => hb.2.2 k o (hget k o hk).2⟩
  have hK : ∀ k p, Kx ((id, none) :: tab) L k = some p → k ≠ id ∧ Kx tab L k = some p := fun k p hk => by
    unfold Kx at *
    cases ho : ATab.get ((id, none) :: tab) k with
    | none => simp [ho] at hk
    | some o =>
      obtain ⟨h1, h2⟩ := hget k o ho
      refine ⟨h1, ?_⟩
      rw [h2]
      simpa [ho] using hk
  obtain ⟨g, cs, hL, hbg, hheap, hcs, hx⟩ := h.lay.objs id _ hid
  have hg : vblk (L id) = some g := by rw [hL]; rfl
  have hSg : Sx cx w ((id, none) :: tab) L g := ⟨(Array.getElem?_eq_some_iff.1 hheap).1, ⟨.inr hbg, fun hX => (h.lay.ex g hX).2 id _ hid hg⟩, fun k o hk hkg => by
    obtain ⟨h1, h2⟩ := hget k o hk
    exact h1 (h.lay.sep k id o _ g h2 hid hkg hg)⟩
  have conv : ∀ x av, RVx cx w tab L x av → RVx cx w ((id, none) :: tab) L x (av.rpz id cells) := fun x av hr => by
    induction hr with
    | tree h0 =>
      rw [rt_rpz h0]
      exact .tree (h0.mono (fun _ _ => rfl) hS)
    | osl x id' h0 =>
      unfold AV.rpz
      split
      · exact .tree (.any _)
      · exact .osl x id' fun sz v e => h0 sz v (hK id' _ e).2
    | op x id' i j h0 =>
      unfold AV.rpz
      split
      · rename_i e
        subst e
        split
        · rename_i e
          subst e
          obtain ⟨g', hg', rfl⟩ := h0 _ _ (kx_of hid)
          rw [hg] at hg'
          cases hg'
          rw [Nat.zero_mul, Nat.zero_add]
          refine .tree (.rp g j _ (fun k => cs[j + k]?.getD undef) hSg (fun k av hk => ?_) (fun k av hk => ?_))
          · rw [List.getElem?_drop] at hk
            have hlt : j + k < cs.size := by rw [hcs]; exact (List.getElem?_eq_some_iff.1 hk).1
            rw [cell_of_row w g (j + k) cs ty (0, 0) hheap, Array.getElem?_eq_getElem hlt]
            rfl
          · rw [List.getElem?_drop] at hk
            have hlt : j + k < cs.size := by rw [hcs]; exact (List.getElem?_eq_some_iff.1 hk).1
            rw [Array.getElem?_eq_getElem hlt, Option.getD_some]
            exact (treeM_of (hx (j + k) _ av (Array.getElem?_eq_getElem hlt) hk).1 (treeML_mem ht (List.mem_of_getElem? hk))).mono (fun _ _ => rfl) hS
        · exact .tree (.any _)
      · exact .op x id' i j fun sz v e => h0 sz v (hK id' _ e).2
    | agg xs cs' hn hr ih =>
      simp only [AV.rpz, rpzL_map]
      refine .agg xs _ (by simpa using hn) fun j x av h1 h2 => ?_
      rw [List.getElem?_map] at h2
      cases hj : cs'[j]? with
      | none => simp [hj] at h2
      | some av' =>
        simp [hj] at h2
        subst h2
        exact ih j x av' h1 hj
    | tup xs cs' hn hr ih =>
      simp only [AV.rpz, rpzL_map]
      refine .tup xs _ (by simpa using hn) fun j x av h1 h2 => ?_
      rw [List.getElem?_map] at h2
      cases hj : cs'[j]? with
      | none => simp [hj] at h2
      | some av' =>
        simp [hj] at h2
        subst h2
        exact ih j x av' h1 hj
    | fn f xs cs' hn hr ih =>
      simp only [AV.rpz, rpzL_map]
      refine .fn f xs _ (by simpa using hn) fun j x av h1 h2 => ?_
      rw [List.getElem?_map] at h2
      cases hj : cs'[j]? with
      | none => simp [hj] at h2
      | some av' =>
        simp [hj] at h2
        subst h2
        exact ih j x av' h1 hj
    | bfn f xs cs' hn hr ih =>
      simp only [AV.rpz, rpzL_map]
      refine .bfn f xs _ (by simpa using hn) fun j x av h1 h2 => ?_
      rw [List.getElem?_map] at h2
      cases hj : cs'[j]? with
      | none => simp [hj] at h2
      | some av' =>
        simp [hj] at h2
        subst h2
        exact ih j x av' h1 hj
  refine ⟨L, ⟨⟨h.lay.below, fun k o hk => ?_, fun k k' o o' g' h1 h2 => h.lay.sep k k' o o' g' (hget k o h1).2 (hget k' o' h2).2, fun b hb => ⟨(h.lay.ex b hb).1, fun k o hk => (h.lay.ex b hb).2 k o (hget k o hk).2⟩⟩, h.size, h.defers.mono (fun _ _ => rfl) hS, fun k o hk => h.young k o (hget k o hk).2, fun t => ?_⟩, hS⟩
  · obtain ⟨h1, h2⟩ := hget k o hk
    have ho := h.lay.objs k o h2
    have htr := (treeTab_get hot h2).resolve_left h1
    cases o with
    | box t cells' =>
      obtain ⟨g', cs', h3, h4, h5, h6, h7⟩ := ho
      exact ⟨g', cs', h3, h4, h5, h6, fun j x av h8 h9 => ⟨.tree ((tree_of (h7 j x av h8 h9).1 (treeL_iff.1 htr av (List.mem_of_getElem? h9))).mono (fun _ _ => rfl) hS), (h7 j x av h8 h9).2⟩⟩
    | row e sz rows =>
      obtain ⟨h3, xs, h4, h5, h6⟩ := ho
      refine ⟨h3, xs, h4, h5, fun i j row av h7 h8 => ?_⟩
      obtain ⟨x, hx, hr⟩ := h6 i j row av h7 h8
      exact ⟨x, hx, hr.mono (fun _ _ => rfl) hS⟩
    | map ents => exact ho
    | nest => exact htr.elim
    | ghost vs env => exact htr.elim
  · have e1 : (⟨n, rpzEnv id cells env, (id, none) :: tab, nx⟩ : ASt).get t = ((⟨n, env, tab, nx⟩ : ASt).get t).rpz id cells := by
      unfold ASt.get
      simp only
      split
      · exact rpzEnv_get ..
      · simp [AV.rpz]
    rw [e1]
    exact ⟨conv _ _ (h.env t).1, rpz_lt (h.env t).2⟩
theorem treeML_of : ∀ {l : List AV}, treeL l → treeML l
  | [], _ => trivial
  | a :: l, h => ⟨by
      have := h.1
      cases a <;> first | exact this | exact this.elim, treeML_of h.2⟩
theorem weak_rp {n nx : Nat} {env : List (Nat × AV)} {tab : ATab} (id : Nat) {ty : TypeId} {cells : List AV} (hid : tab.get id = some (.box ty cells)) (ht : treeL cells) (hot : treeTab id tab) : Weak ⟨n, env, tab, nx⟩ ⟨n, rpzEnv id cells env, (id, none) :: tab, nx⟩ := weak_rpM id hid (treeML_of ht) hot
/-- the answer, seen otherwise -/
def aRetW (P : Program) (rs : List ResultVar) (Post : Res → Prop) (e : Exit) (st : ASt) : Prop := aTo (aRetR P rs Post e) st
theorem arel_of_weak {P : Program} (hm : P.follows .mixedOrders = true) {f : FuncId} {fn : Func} {c : Code} (hf : P.funcs[f]? = some fn) (hb : fn.body = some c) (hname : (fn.name == "runtime.NumGoroutine") = false) {args : List AV} {Post : Res → Prop} {n : Nat} (hnt : fn.ntmps = n) {rs : List ResultVar} (hrs : fn.results = rs.toArray) (hn : Nat.ble args.length n = true)
    (h : aCode P c (aRetW P rs Post) ⟨n, envOf 0 args, [], 0⟩) : ARel P f args Post :=
  arel_of_wp hf hb hname hnt hrs hn fun cx a w L hc => Code.wp_mono (fun e a w ⟨st, L, ⟨st', hw, h1⟩, h2⟩ => (hw _ _ _ _ h2).elim fun L' h3 => ⟨st', L', h1, h3.1⟩) (code_ok hm c _ a w _ L hc h)
theorem aRnd_normal {I : List (List AV) → ASt → Prop} {Ix : Code → List (List AV) → ASt → Prop} {pre : List (List AV)} {st1 st' : ASt} : aRnd I Ix pre st1 .normal st' = aTo (I pre) ⟨st1.n, st1.env, st'.tab, st'.next⟩ := rfl
theorem aRnd_ret {I : List (List AV) → ASt → Prop} {Ix : Code → List (List AV) → ASt → Prop} {pre : List (List AV)} {st1 st' : ASt} : aRnd I Ix pre st1 .ret st' = aTo (Ix .ret pre) ⟨st1.n, st1.env, st'.tab, st'.next⟩ := rfl
theorem aRnd_exit {I : List (List AV) → ASt → Prop} {Ix : Code → List (List AV) → ASt → Prop} {pre : List (List AV)} {st1 st' : ASt} {id : Nat} : aRnd I Ix pre st1 (.exit id) st' = aTo (Ix (.exit id) pre) ⟨st1.n, st1.env, st'.tab, st'.next⟩ := rfl
theorem putAll_nil {st : ASt} : putAll [] st = st := rfl
theorem putAll_cons {p : Nat} {av : AV} {l : List (Nat × AV)} {st : ASt} : putAll ((p, av) :: l) st = putAll l (st.put (some p) av) := rfl
theorem ruL : type_of% (And.intro @aRnd_normal (And.intro @aRnd_ret (And.intro @aRnd_exit (And.intro @putAll_nil (And.intro @putAll_cons (And.intro (@List.zip_cons_cons.{0, 0}) (@List.zip_nil_left.{0, 0}))))))) :=
  And.intro @aRnd_normal (And.intro @aRnd_ret (And.intro @aRnd_exit (And.intro @putAll_nil (And.intro @putAll_cons (And.intro (@List.zip_cons_cons.{0, 0}) (@List.zip_nil_left.{0, 0}))))))
/-- a closure is given back -/
theorem retC {Post : Res → Prop} {st : ASt} {r av : AV} (h : Post ⟨r, [], 0⟩) (hl : r.lt 0) (hr : r.ren [] = av) : ∃ R, Post R ∧ R.Ok ∧ aGives R st av := ⟨_, h, ⟨fun id o h => (by cases h), hl⟩, ⟨[], List.nodup_nil, hr, trivial⟩⟩
end
section
open Go.RowKit
/-- all pairs, by the first one -/
def pairsL (E U : Nat) : List (List AV) := (List.range E).flatMap fun (e : Nat) => (List.range U).map fun (u : Nat) => [eI (e : Int), eI (u : Int)]
theorem pairsL_succ (e U : Nat) : pairsL (e + 1) U = pairsL e U ++ (List.range U).map fun (u : Nat) => [eI (e : Int), eI (u : Int)] := by
  unfold pairsL
  rw [List.range_succ, List.flatMap_append]
  simp
theorem pairsL_pre {E U : Nat} : ∀ {e : Nat}, e ≤ E → pairsL e U <+: pairsL E U := by
  intro e h
  obtain ⟨k, rfl⟩ : ∃ k, E = e + k := ⟨E - e, by omega⟩
  clear h
  induction k with
  | zero => exact List.prefix_rfl
  | succ k ih =>
    rw [← Nat.add_assoc, pairsL_succ]
    exact ih.trans (List.prefix_append ..)
theorem pairsL_pre2 {E U e u : Nat} (he : e < E) (hu : u ≤ U) : pairsL e U ++ ((List.range u).map fun (u : Nat) => [eI (e : Int), eI (u : Int)]) <+: pairsL E U := by
  refine List.IsPrefix.trans ?_ (pairsL_pre (e := e + 1) he)
  rw [pairsL_succ]
  refine List.prefix_append_right_inj _ |>.2 ?_
  refine List.IsPrefix.map _ ?_
  rw [List.prefix_iff_eq_take]
  simp [List.take_range, Nat.min_eq_left hu]
theorem pairsL_snoc (e u U : Nat) : (pairsL e U ++ ((List.range u).map fun (u : Nat) => [eI (e : Int), eI (u : Int)])) ++ [[eI (e : Int), eI (u : Int)]] = pairsL e U ++ ((List.range (u + 1)).map fun (u : Nat) => [eI (e : Int), eI (u : Int)]) := by
  rw [List.range_succ, List.map_append, List.append_assoc]
  rfl
theorem pairsL_mem {E U : Nat} {x : List AV} : x ∈ pairsL E U ↔ ∃ e u : Nat, e < E ∧ u < U ∧ x = [eI (e : Int), eI (u : Int)] := by
  unfold pairsL
  simp only [List.mem_flatMap, List.mem_range, List.mem_map]
  constructor
  · rintro ⟨e, he, u, hu, rfl⟩
    exact ⟨e, u, he, hu, rfl⟩
  · rintro ⟨e, u, he, hu, rfl⟩
    exact ⟨e, he, u, hu, rfl⟩
set_option maxRecDepth 100000 in
set_option maxHeartbeats 8000000 in
theorem pairs1_A (m : Mod) (hl : m.events.length ≤ 1000000) (hl2 : m.users.length ≤ 1000000) : ASeq Try.prog 72 [.rp (eMod m)] (pairsL m.events.length m.users.length) := by
  refine aseq_of_code Try.func72 rfl (by decide) Try.ntmps72 Try.results72 rfl (by kernel_rfl) (by simp [treeL, treeC]) fun l => ?_
  (repeat' (first | simp (maxSteps := 5000000) (implicitDefEqProofs := false) only [ruA, ruB, aEv, aTake, aLoad, aField, aLen, ASt.get, aget, ASt.put, envOf, ↓reduceIte, reduceCtorEq, Nat.reduceLT, Nat.reduceAdd, Nat.reduceLeDiff, eq_self, ne_eq, aLenM, false_or, tyF_32_5, tyA_26, tyS_26, tyE_26, ruI] | (with_reducible refine aIf_split (fun _ => ?_) (fun _ => ?_)) | (with_reducible refine aSel_split (fun _ => ?_) (fun _ => ?_)) | (with_reducible refine aGd_split (fun _ => ?_) (fun _ => ?_))))
  refine iLoop_of (fun g st => ∃ e : Nat, e ≤ m.events.length ∧ g = (pairsL e m.users.length, true) ∧ st = ⟨24, [(0, .c (.func (.yield l) #[] #[])), (1, .rp (eMod m)), (7, eI (m.events.length : Int)), (8, eI (e : Int))], [], 0⟩) (fun g st => m.events.length - slotN st 8) ⟨_, (weak_cut1 (by (first | ((simp only [envIn, tabIn, envLt, tabLt, AV.lt, ruW, ASt.get, aget, ↓reduceIte, reduceCtorEq, Nat.reduceLT, Nat.reduceEqDiff, eq_self]) <;> (repeat' apply And.intro) <;> first | (rw [wrapK (by omega)]; done) | (simp; done) | omega) | fail))), 0, Nat.zero_le _, rfl, rfl⟩ ?_
  rintro _ _ ⟨e, he, rfl, rfl⟩
  by_cases he2 : e < m.events.length
  · (repeat' (first | simp (maxSteps := 5000000) (implicitDefEqProofs := false) only [ruA, ruB, aEv, aTake, aLoad, aField, aLen, aBin, bin2, ASt.get, aget, ASt.put, ↓reduceIte, reduceCtorEq, Nat.reduceLT, Nat.reduceEqDiff, Nat.reduceAdd, Nat.reduceLeDiff, eq_self, ne_eq, aLenM, false_or, tyF_32_2, tyA_22, tyS_22, tyE_22, ruI, he2] | (with_reducible refine aIf_split (fun _ => ?_) (fun _ => ?_)) | (with_reducible refine aSel_split (fun _ => ?_) (fun _ => ?_)) | (with_reducible refine aGd_split (fun _ => ?_) (fun _ => ?_))))
    refine iLoop_of (fun g st => ∃ u : Nat, u ≤ m.users.length ∧ g = (pairsL e m.users.length ++ ((List.range u).map fun (u : Nat) => [eI (e : Int), eI (u : Int)]), true) ∧ st = ⟨24, [(0, .c (.func (.yield l) #[] #[])), (1, .rp (eMod m)), (3, eI (e : Int)), (7, eI (m.events.length : Int)), (8, eI (e : Int)), (13, eI (m.users.length : Int)), (14, eI (u : Int))], [], 0⟩) (fun g st => m.users.length - slotN st 14) ⟨_, (weak_cut1 (by (first | ((simp only [envIn, tabIn, envLt, tabLt, AV.lt, ruW, ASt.get, aget, ↓reduceIte, reduceCtorEq, Nat.reduceLT, Nat.reduceEqDiff, eq_self]) <;> (repeat' apply And.intro) <;> first | (rw [wrapK (by omega)]; done) | (simp; done) | omega) | fail))), 0, Nat.zero_le _, by simp, rfl⟩ ?_
    rintro _ _ ⟨u, hu, rfl, rfl⟩
    by_cases hu2 : u < m.users.length
    · have hp := pairsL_pre2 (u := u + 1) he2 hu2
      rw [← pairsL_snoc] at hp
      (repeat' (first | simp (maxSteps := 5000000) (implicitDefEqProofs := false) only [ruA, ruB, aEv, aBin, bin2, aUn, un1, ASt.get, aget, ASt.put, treeC, ↓reduceIte, reduceCtorEq, Nat.reduceLT, Nat.reduceEqDiff, eq_self, ruI, hu2, iYield, treeAL, treeA, treeC, hp] | (with_reducible refine aIf_split (fun _ => ?_) (fun _ => ?_)) | (with_reducible refine aSel_split (fun _ => ?_) (fun _ => ?_)) | (with_reducible refine aGd_split (fun _ => ?_) (fun _ => ?_))))
      refine ⟨?_, by simp, hp⟩
      exact iRoundI (weak_cut1 (by (first | ((simp only [envIn, tabIn, envLt, tabLt, AV.lt, ruW, ASt.get, aget, ↓reduceIte, reduceCtorEq, Nat.reduceLT, Nat.reduceEqDiff, eq_self]) <;> (repeat' apply And.intro) <;> first | (rw [wrapK (by omega)]; done) | (simp; done) | omega) | fail))) ⟨u + 1, by omega, by rw [pairsL_snoc], rfl⟩ (by simp only [slotN, ruW, ASt.get, aget, ↓reduceIte, Nat.reduceLT, Nat.reduceEqDiff, eq_self]; omega)
    · obtain rfl : u = m.users.length := by omega
      (repeat' (first | simp (maxSteps := 5000000) (implicitDefEqProofs := false) only [ruA, ruB, aEv, aBin, bin2, ASt.get, aget, ASt.put, ↓reduceIte, Nat.reduceLT, Nat.reduceEqDiff, eq_self, ruI, hu2] | (with_reducible refine aIf_split (fun _ => ?_) (fun _ => ?_)) | (with_reducible refine aSel_split (fun _ => ?_) (fun _ => ?_)) | (with_reducible refine aGd_split (fun _ => ?_) (fun _ => ?_))))
      exact iRoundI (weak_cut1 (by (first | ((simp only [envIn, tabIn, envLt, tabLt, AV.lt, ruW, ASt.get, aget, ↓reduceIte, reduceCtorEq, Nat.reduceLT, Nat.reduceEqDiff, eq_self]) <;> (repeat' apply And.intro) <;> first | (rw [wrapK (by omega)]; done) | (simp; done) | omega) | fail))) ⟨e + 1, by omega, by rw [pairsL_succ], rfl⟩ (by simp only [slotN, ruW, ASt.get, aget, ↓reduceIte, Nat.reduceLT, Nat.reduceEqDiff, eq_self]; omega)
  · obtain rfl : e = m.events.length := by omega
    (repeat' (first | simp (maxSteps := 5000000) (implicitDefEqProofs := false) only [ruA, ruB, aEv, aBin, bin2, ASt.get, aget, ASt.put, ↓reduceIte, Nat.reduceLT, Nat.reduceEqDiff, eq_self, ruI, he2, iRet] | (with_reducible refine aIf_split (fun _ => ?_) (fun _ => ?_)) | (with_reducible refine aSel_split (fun _ => ?_) (fun _ => ?_)) | (with_reducible refine aGd_split (fun _ => ?_) (fun _ => ?_))))
    exact List.prefix_rfl
set_option maxRecDepth 100000 in
set_option maxHeartbeats 8000000 in
theorem pairs_A (m : Mod) : ADet Try.prog 59 [.agg (eMod m)] ⟨.fn 72 [.rp (eMod m)], [], 0⟩ := by
  refine arel_of_weak mixedT Try.func59 rfl (by decide) Try.ntmps59 Try.results59 rfl ?_
  (repeat' (first | simp (maxSteps := 5000000) (implicitDefEqProofs := false) only [ruA, ruB, aEv, ASt.get, aget, ASt.put, aBox, aCells, oneC, oneCL, envOf, ↓reduceIte, Nat.reduceLT, Nat.reduceEqDiff, eq_self] | (with_reducible refine aIf_split (fun _ => ?_) (fun _ => ?_)) | (with_reducible refine aSel_split (fun _ => ?_) (fun _ => ?_)) | (with_reducible refine aGd_split (fun _ => ?_) (fun _ => ?_))))
  refine aTo_mk (((weak_cut1 (by (first | ((simp only [envIn, tabIn, envLt, tabLt, AObj.lt, AV.lt, AV.ltL, ruW, ASt.get, aget, ↓reduceIte, Nat.reduceLT, eq_self]) <;> (repeat' apply And.intro) <;> first | (rw [wrapK (by omega)]; done) | (simp; done) | omega) | fail))) : Weak _ ⟨4, [(2, .fn 72 [.op 0 0 0])], [(0, some (.box 32 (eMod m)))], 1⟩).trans (weak_rp 0 (ty := 32) (cells := eMod m) (by simp [ATab.get_cons]) (by simp [treeL, treeC]) (by simp [treeTab]))) ?_
  simp only [rpzEnv, AV.rpz, AV.rpzL, ↓reduceIte, List.drop_zero]
  simp (maxSteps := 5000000) (implicitDefEqProofs := false) only [ruA, ASt.get, aget, aResL, aOne, ↓reduceIte, Nat.reduceLT, eq_self]
  exact retC rfl (by simp [AV.lt, AV.ltL]) (by simp [AV.ren, AV.renL])
set_option maxRecDepth 100000 in
set_option maxHeartbeats 8000000 in
theorem any_A (m : Mod) (s : St) (hl : m.events.length ≤ 1000000) (hl2 : m.users.length ≤ 1000000) (hl3 : m.miles.length ≤ 1000000) (hl4 : m.sods.length ≤ 1000000) : ADet Try.prog 44 [.agg (eMod m), .agg (eSt s)] (val (.bool (anyM m s))) := by
  refine adet_of_code mixedT Try.func44 rfl (by decide) Try.ntmps44 Try.results44 rfl (val_ok _) ?_
  (repeat' (first | simp (maxSteps := 5000000) (implicitDefEqProofs := false) only [ruA, ruB, aEv, aTake, aLoad, ASt.get, aget, ASt.put, aBox, aCells, oneC, oneCL, Value.cells, Value.oneCell', envOf, ↓reduceIte, reduceCtorEq, Nat.reduceLT, Nat.reduceEqDiff, Nat.reduceAdd, eq_self, AV.shift, AV.shiftL, tyZ_4, tyA_32, tyS_32] | (with_reducible refine aIf_split (fun _ => ?_) (fun _ => ?_)) | (with_reducible refine aSel_split (fun _ => ?_) (fun _ => ?_)) | (with_reducible refine aGd_split (fun _ => ?_) (fun _ => ?_)) | (with_reducible refine aDraw_quiet (by kernel_rfl) ?_) | ((with_reducible apply callT (g := 59)); exact (pairs_A m); exact (.inl (by simp [roL, roA, treeL, treeC])))))
  refine range_ok mixedT (fun pre st => (∀ e u : Nat, [eI (e : Int), eI (u : Int)] ∈ pre → enabledM m s (e : Int) (u : Int) = false) ∧ st = ⟨16, [(2, .op 0 0 0), (3, .op 1 0 0), (4, .op 2 0 0)], [(0, some (.box 32 (eMod m))), (1, some (.box 35 (eSt s))), (2, some (.box 4 [eB false]))], 3⟩)
    (fun c pre st => c = .ret ∧ anyM m s = true ∧ st = ⟨16, [(4, .op 2 0 0)], [(2, some (.box 4 [eB true]))], 3⟩) (by simp (maxSteps := 5000000) (implicitDefEqProofs := false) only [ruA, ruB, aEv, ASt.get, aget, ↓reduceIte, Nat.reduceLT, eq_self]) (by simp [treeL, treeC]) (pairs1_A m hl hl2) (fun x hx => by obtain ⟨e, u, _, _, rfl⟩ := pairsL_mem.1 hx; rfl) (by kernel_rfl) (by kernel_rfl) (aTo_mk (weak_cut1 (by (first | ((simp only [envIn, tabIn, envLt, tabLt, AObj.lt, AV.lt, AV.ltL, ruW, ASt.get, aget, ↓reduceIte, reduceCtorEq, Nat.reduceLT, Nat.reduceEqDiff, eq_self]) <;> (repeat' apply And.intro) <;> first | (rw [wrapK (by omega)]; done) | (simp; done) | omega) | fail))) ⟨by simp, rfl⟩) ?_ ?_ ?_
  · rintro pre x _ hp ⟨hpre, rfl⟩
    obtain ⟨e, u, he, hu, rfl⟩ := pairsL_mem.1 (hp.subset (show x ∈ pre ++ [x] by simp))
    (repeat' (first | simp (maxSteps := 5000000) (implicitDefEqProofs := false) only [ruA, ruB, aEv, aTake, aLoad, ASt.get, aget, ASt.put, aStore, aCells, oneC, oneCL, Value.cells, Value.oneCell', ↓reduceIte, Nat.reduceLT, Nat.reduceEqDiff, Nat.reduceAdd, eq_self, tyS_4, tyA_32, tyS_32, tyA_35, tyS_35, ruL] | (with_reducible refine aIf_split (fun _ => ?_) (fun _ => ?_)) | (with_reducible refine aSel_split (fun _ => ?_) (fun _ => ?_)) | (with_reducible refine aGd_split (fun _ => ?_) (fun _ => ?_)) | (with_reducible refine aDraw_quiet (by kernel_rfl) ?_) | ((with_reducible apply callV (g := 43)); exact (enabled_A m s (e : Int) (u : Int) (by omega) (by omega))) | ((with_reducible apply callD (g := 43)); exact (enabled_A m s (e : Int) (u : Int) (by omega) (by omega)))))
    · rename_i hen
      exact aTo_mk (weak_cut1 (by (first | ((simp only [envIn, tabIn, envLt, tabLt, AObj.lt, AV.lt, AV.ltL, ruW, ASt.get, aget, ↓reduceIte, Nat.reduceLT, Nat.reduceEqDiff, eq_self]) <;> (repeat' apply And.intro) <;> first | (rw [wrapK (by omega)]; done) | (simp; done) | omega) | fail))) ⟨(anyN_iff _ _).2 ⟨e, he, (anyN_iff _ _).2 ⟨u, hu, hen⟩⟩, rfl⟩
    · rename_i hen
      refine aTo_mk (weak_cut1 (by (first | ((simp only [envIn, tabIn, envLt, tabLt, AObj.lt, AV.lt, AV.ltL, ruW, ASt.get, aget, ↓reduceIte, Nat.reduceLT, Nat.reduceEqDiff, eq_self]) <;> (repeat' apply And.intro) <;> first | (rw [wrapK (by omega)]; done) | (simp; done) | omega) | fail))) ⟨fun e' u' hm => ?_, rfl⟩
      rcases List.mem_append.1 hm with hm | hm
      · exact hpre e' u' hm
      · simp at hm
        obtain ⟨h1, h2⟩ := hm
        rw [h1, h2]
        exact hen
  · rintro _ ⟨hpre, rfl⟩
    (repeat' (first | simp (maxSteps := 5000000) (implicitDefEqProofs := false) only [ruA, ruB, aEv, aTake, aLoad, ASt.get, aget, ASt.put, aStore, aCells, oneC, oneCL, Value.cells, Value.oneCell', aResL, aOne, ↓reduceIte, reduceCtorEq, Nat.reduceLT, Nat.reduceEqDiff, eq_self, tyA_4, tyS_4] | (with_reducible refine aIf_split (fun _ => ?_) (fun _ => ?_)) | (with_reducible refine aSel_split (fun _ => ?_) (fun _ => ?_)) | (with_reducible refine aGd_split (fun _ => ?_) (fun _ => ?_)) | (with_reducible refine aDraw_quiet (by kernel_rfl) ?_)))
    symm
    rw [Bool.eq_false_iff]
    intro ha
    obtain ⟨e, he, ha⟩ := (anyN_iff _ _).1 ha
    obtain ⟨u, hu, ha⟩ := (anyN_iff _ _).1 ha
    rw [hpre e u (pairsL_mem.2 ⟨e, u, he, hu, rfl⟩)] at ha
    cases ha
  · rintro _ pre _ hp ⟨rfl, ha, rfl⟩
    (repeat' (first | simp (maxSteps := 5000000) (implicitDefEqProofs := false) only [ruA, ruB, aTake, aLoad, ASt.get, aget, aResL, aOne, ↓reduceIte, reduceCtorEq, Nat.reduceLT, eq_self, tyA_4, tyS_4] | (with_reducible refine aIf_split (fun _ => ?_) (fun _ => ?_)) | (with_reducible refine aSel_split (fun _ => ?_) (fun _ => ?_)) | (with_reducible refine aGd_split (fun _ => ?_) (fun _ => ?_)) | (with_reducible refine aDraw_quiet (by kernel_rfl) ?_)))
    exact ha.symm
end
end Go.Proofs.Ytcindbpnaicemaa
