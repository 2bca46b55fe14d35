/-
  Parts of the proof: CO, AlR, AlU, AlV, AlW, AlX, AlM, AlN, H1, H2, H3.
-/
import Derived.Test.YtbijbnfgccdneaaGreatCno5
import Derived.TacticsIn
import Derived.RangeFuncIn
import Derived.RangeFuncCalls
import Derived.RangeFuncRecord
import Derived.DeepKeys4
set_option linter.unusedVariables false
set_option linter.unusedSimpArgs false
namespace Go.Proofs.YtbijbnfgccdneaaGreat
section
open Go.RowKit
def Into {α : Type} (r : Rep α) (f : α → List AV) : Prop := ∀ (w : World) (S : Nat → Prop) (cs : List Value) (x : α), r.at_ w S cs x → (f x).length = r.size ∧ ∀ (j : Nat) (u : Value) (av : AV), cs[j]? = some u → (f x)[j]? = some av → RT w S u av ∧ u.oneCell' = true
theorem Into.slice {α : Type} {r : Rep α} {f : α → List AV} (h : Into r f) {w : World} {S : Nat → Prop} {v : Value} {l : List α} (hv : (sliceR r).one w S v l) : RT w S v (.sl r.size (l.map f)) := by
  obtain ⟨A, c, rfl, h1, h2⟩ := slice_form hv
  by_cases h0 : 0 < l.length
  · obtain ⟨b, o, rfl, hb, hrow⟩ := slice_some hv h0
    classical
    let cs : Nat → List Value := fun i => if hi : i < l.length then (hrow i hi).choose else []
    have hcs : ∀ i (hi : i < l.length), (∀ (j : Nat) (u : Value), (cs i)[j]? = some u → w.cell? ⟨b, o + i * r.size + j, none⟩ = some u) ∧ r.at_ w S (cs i) l[i] := fun i hi => by
      have := (hrow i hi).choose_spec
      simpa [cs, hi] using this
    have key : ∀ (i j : Nat) (row : List AV) (av : AV), (l.map f)[i]? = some row → row[j]? = some av → ∃ hi : i < l.length, (cs i)[j]? = some ((cs i).getD j undef) ∧ RT w S ((cs i).getD j undef) av ∧ ((cs i).getD j undef).oneCell' = true := fun i j row av h3 h4 => by
      have hi : i < l.length := by
        have := (List.getElem?_eq_some_iff.1 h3).1
        simpa using this
      have hf : row = f l[i] := by
        rw [List.getElem?_map, List.getElem?_eq_getElem hi] at h3
        exact (Option.some.inj h3).symm
      subst hf
      obtain ⟨h5, h6⟩ := h w S (cs i) l[i] (hcs i hi).2
      have hj : j < (cs i).length := by
        rw [r.len (hcs i hi).2, ← h5]
        exact (List.getElem?_eq_some_iff.1 h4).1
      have e : (cs i)[j]? = some ((cs i).getD j undef) := by
        rw [List.getD_eq_getElem?_getD, List.getElem?_eq_getElem hj]
        rfl
      exact ⟨hi, e, h6 j _ av e h4⟩
    refine .sl _ _ c r.size _ b o (fun i j => (cs i).getD j undef) (by simp) h1 h2 (fun _ => ⟨rfl, hb⟩) (fun row hr => ?_) (fun _ i j row av h3 h4 => ?_) (fun i j row av h3 h4 => (key i j row av h3 h4).elim fun _ h => h.2.2) (fun i j row av h3 h4 => (key i j row av h3 h4).elim fun _ h => h.2.1)
    · obtain ⟨i, hi, rfl⟩ := List.getElem_of_mem hr
      have hi : i < l.length := by simpa using hi
      simp only [List.getElem_map]
      exact (h w S (cs i) l[i] (hcs i hi).2).1
    · obtain ⟨hi, h5, _⟩ := key i j row av h3 h4
      exact (hcs i hi).1 j _ h5
  · have : l = [] := List.length_eq_zero_iff.1 (by omega)
    subst this
    exact .sl A 0 c r.size [] 0 0 (fun _ _ => undef) rfl h1 h2 (fun h => by omega) (by simp) (fun h => by omega) (by simp) (by simp)
theorem into_cells {α : Type} {r : Rep α} {f : α → List AV} (g : α → List Value) (hg : ∀ w S cs x, r.at_ w S cs x → cs = g x) (hs : ∀ x, (g x).length = r.size) (ho : ∀ x u, u ∈ g x → u.oneCell' = true) (hf : ∀ x, f x = (g x).map .c) : Into r f := fun w S cs x h => by
  obtain rfl := hg w S cs x h
  rw [hf]
  refine ⟨by simp [hs], fun j u av h1 h2 => ?_⟩
  rw [List.getElem?_map, h1] at h2
  cases h2
  exact ⟨.c u, ho x u (List.mem_of_getElem? h1)⟩
theorem into_str : Into strR (fun s => [eS s]) := into_cells (fun s => [.string s]) (fun w S cs x h => h.1) (fun x => rfl) (fun x u h => by simp at h; subst h; rfl) (fun x => rfl)
theorem into_int : Into (intR .i64) (fun n => [eI n]) := into_cells (fun n => [.int .i64 n]) (fun w S cs x h => h.1) (fun x => rfl) (fun x u h => by simp at h; subst h; rfl) (fun x => rfl)
theorem into_ni : Into nameIntR eNI := into_cells (fun p => [.string p.1, .int .i64 p.2]) (fun w S cs x h => h.1) (fun x => rfl) (fun x u h => by simp at h; rcases h with rfl | rfl <;> rfl) (fun x => rfl)
theorem into_ii : Into intIntR eII := into_cells (fun p => [.int .i64 p.1, .int .i64 p.2]) (fun w S cs x h => h.1) (fun x => rfl) (fun x u h => by simp at h; rcases h with rfl | rfl <;> rfl) (fun x => rfl)
theorem into_bi : Into sentryR eBI := into_cells (fun p => [.bool p.1, .int .i64 p.2]) (fun w S cs x h => h.1) (fun x => rfl) (fun x u h => by simp at h; rcases h with rfl | rfl <;> rfl) (fun x => rfl)
theorem into_inst : Into instR eInst := into_cells Inst.cells (fun w S cs x h => h.1) (fun x => rfl) (fun x u h => by simp [Inst.cells] at h; rcases h with rfl | rfl | rfl | rfl | rfl | rfl | rfl <;> rfl) (fun x => rfl)
theorem slice_one {α : Type} {r : Rep α} {w : World} {S : Nat → Prop} {v : Value} {l : List α} (h : (sliceR r).one w S v l) : v.oneCell' = true := by
  obtain ⟨A, c, rfl, _⟩ := slice_form h
  rfl
theorem into_gd : Into gdR eGd := fun w S cs x ⟨cv, h1, h2, _⟩ => by
  subst h1
  refine ⟨rfl, fun j u av h3 h4 => ?_⟩
  match j with
  | 0 => simp at h3 h4; subst h3; subst h4; exact ⟨.c _, rfl⟩
  | 1 => simp at h3 h4; subst h3; subst h4; exact ⟨.c _, rfl⟩
  | 2 => simp at h3 h4; subst h3; subst h4; exact ⟨into_inst.slice h2, slice_one h2⟩
  | j + 3 => simp at h3
theorem into_ml : Into mlR eMl := fun w S cs x ⟨cv, h1, h2, _⟩ => by
  subst h1
  refine ⟨rfl, fun j u av h3 h4 => ?_⟩
  match j with
  | 0 => simp at h3 h4; subst h3; subst h4; exact ⟨.c _, rfl⟩
  | 1 => simp at h3 h4; subst h3; subst h4; exact ⟨.c _, rfl⟩
  | 2 => simp at h3 h4; subst h3; subst h4; exact ⟨.c _, rfl⟩
  | 3 => simp at h3 h4; subst h3; subst h4; exact ⟨into_inst.slice h2, slice_one h2⟩
  | 4 => simp at h3 h4; subst h3; subst h4; exact ⟨.c _, rfl⟩
  | j + 5 => simp at h3
theorem into_ev : Into evR eEv := fun w S cs x ⟨cv, h1, h2, _⟩ => by
  subst h1
  refine ⟨rfl, fun j u av h3 h4 => ?_⟩
  match j with
  | 0 => simp at h3 h4; subst h3; subst h4; exact ⟨.c _, rfl⟩
  | 1 => simp at h3 h4; subst h3; subst h4; exact ⟨.c _, rfl⟩
  | 2 => simp at h3 h4; subst h3; subst h4; exact ⟨.c _, rfl⟩
  | 3 => simp at h3 h4; subst h3; subst h4; exact ⟨into_int.slice h2, slice_one h2⟩
  | 4 => simp at h3 h4; subst h3; subst h4; exact ⟨.c _, rfl⟩
  | j + 5 => simp at h3
theorem rt_mod {w : World} {V : MV} {m : Mod} (h : ModI w V m) : RT w (fun b => b < w.heap.size) (.agg V.cells) (.agg (eMod m)) := by
  refine .agg _ _ rfl fun j u av h1 h2 => ?_
  match j with
  | 0 => simp [MV.cells] at h1 h2; subst h1; subst h2; exact into_str.slice h.attrs
  | 1 => simp [MV.cells] at h1 h2; subst h1; subst h2; exact into_int.slice h.inits
  | 2 => simp [MV.cells] at h1 h2; subst h1; subst h2; exact into_str.slice h.users
  | 3 => simp [MV.cells] at h1 h2; subst h1; subst h2; exact into_ni.slice h.roles
  | 4 => simp [MV.cells] at h1 h2; subst h1; subst h2; exact into_ni.slice h.stages
  | 5 => simp [MV.cells] at h1 h2; subst h1; subst h2; exact into_ev.slice h.events
  | 6 => simp [MV.cells] at h1 h2; subst h1; subst h2; exact into_gd.slice h.guards
  | 7 => simp [MV.cells] at h1 h2; subst h1; subst h2; exact into_ml.slice h.miles
  | 8 => simp [MV.cells] at h1 h2; subst h1; subst h2; exact into_ii.slice h.sods
  | 9 => simp [MV.cells] at h1 h2; subst h1; subst h2; exact into_bi.slice h.order
  | j + 10 => simp at h2
/-- every thing of a slice is one that may be -/
theorem slice_all {α : Type} {r : Rep α} {w : World} {S : Nat → Prop} {v : Value} {l : List α} {Q : α → Prop} (h : (sliceR r).one w S v l) (hq : ∀ cs x, r.at_ w S cs x → Q x) : ∀ x ∈ l, Q x := fun x hx => by
  obtain ⟨i, hi, rfl⟩ := List.getElem_of_mem hx
  obtain ⟨A, c, rfl, _⟩ := slice_form h
  obtain ⟨b, o, rfl, _, hrow⟩ := slice_some h (by omega)
  obtain ⟨cs, _, h2⟩ := hrow i hi
  exact hq cs _ h2
end
section
open Go.RowKit

section
variable {P : Program} {cx : Cx} {a : Act} {w w' w'' : World} {st : ASt} {tab tab' tab'' : ATab} {L L' L'' : Nat → Value} {nx nx' nx'' : Nat}
theorem Fr.refl : Fr cx w tab L nx w tab L nx := ⟨Ext.refl .., Nat.le_refl _, fun _ _ _ => rfl, fun id o g h1 h2 _ => ⟨id, o, h1, h2⟩, Nat.le_refl _⟩
theorem Fr.trans (h : Fr cx w tab L nx w' tab' L' nx') (k : Fr cx w' tab' L' nx' w'' tab'' L'' nx'') : Fr cx w tab L nx w'' tab'' L'' nx'' :=
  ⟨⟨fun b hb => (k.ext.blk b (h.ext.sub b hb)).trans (h.ext.blk b hb), fun b hb => k.ext.sub b (h.ext.sub b hb), fun id p hid hp => h.ext.loc id p hid (k.ext.loc id p (Nat.lt_of_lt_of_le hid h.next) hp)⟩,
   Nat.le_trans h.size k.size,
   fun j hj hn => (k.keep j (Nat.lt_of_lt_of_le hj h.size) fun id o h1 h2 => (h.young id o j h1 h2 hj).elim fun id2 ⟨o2, h3, h4⟩ => hn id2 o2 h3 h4).trans (h.keep j hj hn),
   fun id o g h1 h2 hg => (k.young id o g h1 h2 (Nat.lt_of_lt_of_le hg h.size)).elim fun id2 ⟨o2, h3, h4⟩ => h.young id2 o2 g h3 h4 hg,
   Nat.le_trans h.next k.next⟩
theorem put_tab (st : ASt) (d : Option Nat) (av : AV) : (st.put d av).tab = st.tab := by cases d <;> rfl
theorem put_next (st : ASt) (d : Option Nat) (av : AV) : (st.put d av).next = st.next := by cases d <;> rfl
theorem fr_merge (hy : ∀ id o, tab.get id = some o → id < nx) (hb : Below w.heap.size w w') (hold : ∀ id, id < nx → tab'.get id = tab.get id ∧ L' id = L id) (hnew : ∀ id o g, nx ≤ id → tab'.get id = some o → vblk (L' id) = some g → w.heap.size ≤ g) (hn : nx ≤ nx') : Fr cx w tab L nx w' tab' L' nx' :=
  ⟨ext_merge hb hold hy hnew, hb.size, fun k hk _ => hb.block k hk, fun id o g h1 h2 hg => by
    rcases Nat.lt_or_ge id nx with hlt | hge
    · exact ⟨id, o, by rw [← (hold id hlt).1]; exact h1, by rw [← (hold id hlt).2]; exact h2⟩
    · exact absurd (hnew id o g hge h1 h2) (by omega), hn⟩
theorem fr_new (h : Conc cx a w st L) (hb : Below w.heap.size w w') {v : Value} {ob : AObj} (hnew : ∀ g, vblk v = some g → w.heap.size ≤ g) : Fr cx w st.tab L st.next w' ((st.next, some ob) :: st.tab) (updL L st.next v) (st.next + 1) :=
  fr_merge (fun id o hid => (h.young id o hid).1) hb (fun id hid => by unfold updL; rw [ATab.get_cons, if_neg (by omega), if_neg (by omega)]; exact ⟨rfl, rfl⟩)
    (fun id o g h1 h2 h3 => by
      rw [ATab.get_cons] at h2
      unfold updL at h3
      split at h2
      · rename_i e
        rw [if_pos e] at h3
        exact hnew g h3
      · have := (h.young id o h2).1
        omega) (Nat.le_succ _)
theorem fr_upd {id : Nat} {o o' : AObj} (hid : st.tab.get id = some o) (hsz : o'.sz = o.sz) (hs : w'.heap.size = w.heap.size) (hb : ∀ k, vblk (L id) ≠ some k → w'.heap[k]? = w.heap[k]?) : Fr cx w st.tab L st.next w' ((id, some o') :: st.tab) L st.next := by
  have hget : ∀ k ok, ATab.get ((id, some o') :: st.tab) k = some ok → ∃ ok', st.tab.get k = some ok' ∧ ok.sz = ok'.sz := fun k ok hk => by
    rw [ATab.get_cons] at hk
    split at hk
    · rename_i e
      cases hk
      exact ⟨o, by rw [e]; exact hid, hsz⟩
    · exact ⟨ok, hk, rfl⟩
  refine ⟨⟨fun b hb' => hb b (hb'.2.2 id o hid), fun b hb' => ⟨by rw [hs]; exact hb'.1, hb'.2.1, fun k ok hk => ?_⟩, fun k p _ hk => ?_⟩, by rw [hs]; exact Nat.le_refl _, fun k hk hn => hb k (hn id o hid), fun k ok g h1 h2 _ => ?_, Nat.le_refl _⟩
  · obtain ⟨ok', h1, _⟩ := hget k ok hk
    exact hb'.2.2 k ok' h1
  · unfold Kx at *
    cases ho : ATab.get ((id, some o') :: st.tab) k with
    | none => simp [ho] at hk
    | some ok =>
      obtain ⟨ok', h1, h2⟩ := hget k ok ho
      rw [h1]
      simpa [ho, h2] using hk
  · obtain ⟨ok', h3, _⟩ := hget k ok h1
    exact ⟨k, ok', h3, h2⟩
theorem fr_frz1 (id : Nat) : Fr cx w st.tab L st.next w (frz1 st id).tab L (frz1 st id).next := by
  unfold frz1
  split
  · rename_i e sz rows hid
    have hget : ∀ k ok, ATab.get ((id, none) :: frzTab id sz rows st.tab) k = some ok → ∃ ok', st.tab.get k = some ok' ∧ ok.sz = ok'.sz := fun k ok hk => by
      rw [ATab.get_cons, frzTab_get] at hk
      split at hk
      · cases hk
      · cases hg : st.tab.get k with
        | none => simp [hg] at hk
        | some o' =>
          simp [hg] at hk
          exact ⟨o', rfl, by rw [← hk, frz_sz]⟩
    refine ⟨⟨fun _ _ => rfl, fun b hb' => ⟨hb'.1, hb'.2.1, fun k ok hk => ?_⟩, fun k p _ hk => ?_⟩, Nat.le_refl _, fun k hk hn => rfl, fun k ok g h1 h2 _ => ?_, Nat.le_refl _⟩
    · obtain ⟨ok', h1, _⟩ := hget k ok hk
      exact hb'.2.2 k ok' h1
    · unfold Kx at *
      cases ho : ATab.get ((id, none) :: frzTab id sz rows st.tab) k with
      | none => simp [ho] at hk
      | some ok =>
        obtain ⟨ok', h1, h2⟩ := hget k ok ho
        rw [h1]
        simpa [ho, h2] using hk
    · obtain ⟨ok', h3, _⟩ := hget k ok h1
      exact ⟨k, ok', h3, h2⟩
  · exact Fr.refl
theorem fr_frzs : ∀ (ids : List Nat) {st : ASt}, Fr cx w st.tab L st.next w (frzs st ids).tab L (frzs st ids).next
  | [], _ => Fr.refl
  | id :: ids, st => (fr_frz1 id).trans (fr_frzs ids (st := frz1 st id))
theorem fr_app (h : Conc cx a w st L) {v v' : Value} {oid : Option Nat} {ob : AObj} (hg : w.grownBy w' v.ownBlock) (hv : vblk v' = v.ownBlock ∨ vblk v' = some w.heap.size)
    (hown : ∀ g, v.ownBlock = some g → ∃ id, oid = some id ∧ vblk (L id) = some g) (hoid : ∀ id, oid = some id → ∃ o, st.tab.get id = some o) : Fr cx w st.tab L st.next w' (appTab st.tab st.next oid ob) (updL L st.next v') (st.next + 1) := by
  have hnot : ∀ k, (∀ id o, st.tab.get id = some o → vblk (L id) ≠ some k) → some k ≠ v.ownBlock := fun k hn e => by
    obtain ⟨id, h1, h2⟩ := hown k e.symm
    obtain ⟨o, h3⟩ := hoid id h1
    exact hn id o h3 h2
  have hget : ∀ k ok, (appTab st.tab st.next oid ob).get k = some ok → k = st.next ∨ (k < st.next ∧ st.tab.get k = some ok) := fun k ok hk => by
    rw [appTab_get] at hk
    split at hk
    · exact .inl (by assumption)
    · split at hk
      · cases hk
      · exact .inr ⟨(h.young k ok hk).1, hk⟩
  refine ⟨⟨fun b hb => hg.block b hb.1 (hnot b hb.2.2), fun b hb => ⟨Nat.lt_of_lt_of_le hb.1 hg.size, hb.2.1, fun k ok hk => ?_⟩, fun k p hlt hk => ?_⟩, hg.size, fun k hk hn => hg.block k hk (hnot k hn), fun k ok g h1 h2 hlt => ?_, Nat.le_succ _⟩
  · unfold updL
    rcases hget k ok hk with rfl | ⟨hlt, ho⟩
    · rw [if_pos rfl]
      rcases hv with hv | hv
      · rw [hv]
        exact fun e => hnot b hb.2.2 e.symm
      · rw [hv]
        intro e
        cases e
        exact absurd hb.1 (by omega)
    · rw [if_neg (by omega)]
      exact hb.2.2 k ok ho
  · unfold Kx updL at *
    rw [if_neg (by omega)] at hk
    cases ho : (appTab st.tab st.next oid ob).get k with
    | none => simp [ho] at hk
    | some ok =>
      rcases hget k ok ho with rfl | ⟨_, h1⟩
      · omega
      · rw [h1]
        rw [ho] at hk
        exact hk
  · unfold updL at h2
    rcases hget k ok h1 with rfl | ⟨hlt', ho⟩
    · rw [if_pos rfl] at h2
      rcases hv with hv | hv
      · rw [hv] at h2
        obtain ⟨id, h3, h4⟩ := hown g h2
        obtain ⟨o, h5⟩ := hoid id h3
        exact ⟨id, o, h5, h4⟩
      · rw [hv] at h2
        cases h2
        omega
    · rw [if_neg (by omega)] at h2
      exact ⟨k, ok, ho, h2⟩
/-- what follows an operation, and what stays -/
abbrev AfterF (cx : Cx) (a : Act) (w : World) (st : ASt) (L : Nat → Value) (K : ASt → Prop) : Act → World → Prop := fun a' w' => ∃ st' L', K st' ∧ Conc cx a' w' st' L' ∧ Fr cx w st.tab L st.next w' st'.tab L' st'.next ∧ a'.defers = a.defers
theorem put_defers (a : Act) (d : Option Nat) (v : Value) : (a.put d v).defers = a.defers := by cases d <;> rfl
theorem pure_wpF {o : Oper} {K : ASt → Prop} {Q : Exit → Act → World → Prop} (h : Conc cx a w st L) (hp : aPure P st.tab (aEv st) o.op (aK st o.dst K)) : o.wp P a w (AfterF cx a w st L K) Q := by
  obtain ⟨v, av, h1, h2, h3, h4, _⟩ := pure_ok h.lay (fun id o hid => (h.young id o hid).2) (eval_ok h) hp
  exact wp_value (h4 w (Below.refl _ _)) ⟨_, L, h1, conc_pure h h2 h3 o.dst, (by rw [put_tab, put_next]; exact Fr.refl), put_defers _ _ _⟩
/-- an operation that may stand in a round -/
def fOp (o : Oper) : Bool := match o.op with
  | .defer _ => false
  | _ => true
theorem fr_reslice {id : Nat} {o ob : AObj} {v' : Value} (h : Conc cx a w st L) (hid : st.tab.get id = some o) (hv : vblk v' = vblk (L id)) : Fr cx w st.tab L st.next w (appTab st.tab st.next (some id) ob) (updL L st.next v') (st.next + 1) := by
  have hget : ∀ k ok, (appTab st.tab st.next (some id) ob).get k = some ok → k = st.next ∨ (k < st.next ∧ st.tab.get k = some ok) := fun k ok hk => by
    rw [appTab_get] at hk
    split at hk
    · exact .inl (by assumption)
    · split at hk
      · cases hk
      · exact .inr ⟨(h.young k ok hk).1, hk⟩
  refine ⟨⟨fun _ _ => rfl, fun b hb => ⟨hb.1, hb.2.1, fun k ok hk => ?_⟩, fun k p hlt hk => ?_⟩, Nat.le_refl _, fun _ _ _ => rfl, fun k ok g h1 h2 _ => ?_, Nat.le_succ _⟩
  · unfold updL
    rcases hget k ok hk with rfl | ⟨hlt, ho⟩
    · rw [if_pos rfl, hv]
      exact hb.2.2 id o hid
    · rw [if_neg (by omega)]
      exact hb.2.2 k ok ho
  · unfold Kx updL at *
    rw [if_neg (by omega)] at hk
    cases ho : (appTab st.tab st.next (some id) ob).get k with
    | none => simp [ho] at hk
    | some ok =>
      rcases hget k ok ho with rfl | ⟨_, h1⟩
      · omega
      · rw [h1]
        rw [ho] at hk
        exact hk
  · unfold updL at h2
    rcases hget k ok h1 with rfl | ⟨hlt', ho⟩
    · rw [if_pos rfl, hv] at h2
      exact ⟨id, o, hid, h2⟩
    · rw [if_neg (by omega)] at h2
      exact ⟨k, ok, ho, h2⟩
theorem sliceW_wpF {t : TypeId} {x : Operand} {lo hi mx : Option Operand} {K : ASt → Prop} {Q : Exit → Act → World → Prop} {ty : TypeId} {dst : Option Nat} {pos : String} {aft : Array Edge} {gd : Option (Nat × Bool)} (h : Conc cx a w st L)
    (hp : aSliceW P t st (aEv st x) (lo.map (aEv st)) (hi.map (aEv st)) (mx.map (aEv st)) dst K) : Oper.wp (P := P) ⟨dst, .slice t x lo hi mx, ty, pos, aft, gd⟩ a w (AfterF cx a w st L K) Q := by
  unfold aSliceW at hp
  split at hp
  · rename_i id hx
    have hv := (eval_ok h x).1
    rw [hx] at hv
    split at hp
    · rename_i e sz rows hid
      unfold aSliceO at hp
      split at hp
      · rename_i l h' hl hh
        obtain ⟨⟨h1, h2⟩, ⟨rfl, h4, h5, h6⟩, h7⟩ := hp
        obtain ⟨hu, hsz⟩ := tyElem_pos (P := P) (t := t) (by omega)
        have hvL := hv.osl_inv _ _ (kx_of hid)
        obtain ⟨hrow, xs, hown, hone, hx'⟩ := h.lay.objs id _ hid
        have hs := run_sizeOf' (P := P) (t := (tyElem P t).1) (by omega) w
        rw [hsz, h1] at hs
        have key : ∀ A cap, L id = .slice A rows.length cap → rows.length ≤ cap → ∃ m, h'.toNat ≤ m ∧ m ≤ cap ∧ (Instr.sliceBounds true rows.length cap (lo.map a.eval) (hi.map a.eval) (mx.map a.eval)).run P w = .ok (0, h'.toNat, m) w := by
          intro A cap hL hc
          have hlo := bd_at (d := 0) (n := 0) (fun x => (eval_ok h x).1) hl (by omega) rfl
          have hhi := bd_at (d := rows.length) (n := h'.toNat) (fun x => (eval_ok h x).1) hh (by omega) rfl
          cases mx with
          | none => exact ⟨cap, by omega, Nat.le_refl _, run_bounds hlo hhi (.inl ⟨rfl, rfl⟩) (by omega) (by omega)⟩
          | some q =>
            have hq := (eval_ok h q).1
            simp only [Option.map_some] at h6 ⊢
            unfold aMax at h6
            split at h6
            · rename_i hq'
              cases hq'
            · rename_i k m hq'
              injection hq' with hq'
              rw [hq'] at hq
              obtain ⟨rfl, hb⟩ := h6
              refine ⟨m.toNat, Nat.le_refl _, by omega, run_bounds hlo hhi (.inr ⟨rfl, ⟨k, by rw [hq.c_inv, Int.toNat_of_nonneg h4]⟩, fun hn => ?_⟩) (by omega) (by omega)⟩
              cases hi with
              | none => simp at hb
              | some _ => cases hn
            · exact h6.elim
        rcases hown.2 with ⟨hL, h0⟩ | ⟨g, cap, cur, hL, hb, hh', hc, hm, hcs, htake⟩
        · obtain ⟨m, hm1, hm2, hr⟩ := key none 0 (by rw [hL, h0]) (by omega)
          have hm0 : m = 0 := by omega
          have hn0 : h'.toNat = 0 := by omega
          refine wp_value (v := .slice none 0 0) ?_ ⟨_, _, h7, reslice_ok (n := h'.toNat) h hid (by omega) (.inl ⟨hL, rfl⟩) dst, (by rw [put_tab, put_next]; exact fr_reslice h hid (by rw [hL])), put_defers _ _ _⟩
          rw [h0] at hr
          simp [execOp, Sem.run_bind, hvL, hL, Instr.sliceAt, Instr.slice, run_underlying hu, hr, hs, hm0, hn0]
        · obtain ⟨m, hm1, hm2, hr⟩ := key _ cap hL hc
          refine wp_value (v := .slice (some ⟨g, 0, none⟩) h'.toNat m) ?_ ⟨_, _, h7, reslice_ok (n := h'.toNat) h hid (by omega) (.inr ⟨g, cap, m, hL, rfl, hm1, hm2⟩) dst, (by rw [put_tab, put_next]; exact fr_reslice h hid (by rw [hL]; rfl)), put_defers _ _ _⟩
          simp [execOp, Sem.run_bind, hvL, hL, Instr.sliceAt, Instr.slice, run_underlying hu, hr, hs, Addr.add_lit]
      · exact hp.elim
    · exact hp.elim
  · exact pure_wpF (o := ⟨dst, .slice t x lo hi mx, ty, pos, aft, gd⟩) h (by exact hp)
theorem op_okF {o : Oper} {K : ASt → Prop} {Q : Exit → Act → World → Prop} (h : Conc cx a w st L) (hp : aOp P o K st) (hf : fOp o = true) : o.wp P a w (AfterF cx a w st L K) Q := by
  obtain ⟨dst, op, ty, pos, aft, gd⟩ := o
  unfold aOp at hp
  simp only at hp
  split at hp
  · rename_i t x
    obtain ⟨h1, h2⟩ := hp
    have he := eval_ok h x
    obtain ⟨h3, h4⟩ := box_ok (P := P) (t := t) h he.1 he.2 h1 dst
    exact wp_value (by simp [execOp, Sem.run_bind, h3]) ⟨_, _, h2, h4, (by rw [put_tab, put_next]; exact fr_new h ((Below.refl _ _).alloc (Nat.le_refl _) _) (fun g hg => by simp [vblk] at hg; omega)), put_defers _ _ _⟩
  · rename_i t
    split at hp
    · rename_i z hz
      obtain ⟨h1, h2⟩ := hp
      obtain ⟨h3, h4⟩ := box_ok (P := P) (t := t) (av := .c z) h (.tree (.c z)) trivial h1 dst
      exact wp_value (by simp [execOp, Sem.run_bind, alloc_run hz, h3]) ⟨_, _, h2, h4, (by rw [put_tab, put_next]; exact fr_new h ((Below.refl _ _).alloc (Nat.le_refl _) _) (fun g hg => by simp [vblk] at hg; omega)), put_defers _ _ _⟩
    · exact hp.elim
  · rename_i t p x
    unfold aStore at hp
    split at hp
    · rename_i id i j hpe
      split at hp
      · rename_i ty cells hid
        obtain ⟨rfl, h0, h1, h2, h3, h4⟩ := hp
        have hpv := (eval_ok h p).1
        rw [hpe] at hpv
        have hx := eval_ok h x
        obtain ⟨w', h5, h6, h7, h8⟩ := store_box_ok h hpv hid hx.1 hx.2 h0 h1 h2 h3 dst
        exact wp_skip' (by simp [execOp, Sem.run_bind, h5]) ⟨_, _, h4, h6, (by rw [put_tab, put_next]; exact fr_upd hid (by simp only [AObj.sz, List.length_append, List.length_take, List.length_drop]; omega) h7 h8), put_defers _ _ _⟩
      · rename_i e sz rows hid
        obtain ⟨hi, h0, h1, h2, h3, h3', h4⟩ := hp
        have hpv := (eval_ok h p).1
        rw [hpe] at hpv
        have hx := eval_ok h x
        obtain ⟨w', h5, h6, h7, h8⟩ := store_row_ok h hpv hid hx.1 hx.2 hi h0 h1 h2 h3 h3' dst
        exact wp_skip' (by simp [execOp, Sem.run_bind, h5]) ⟨_, _, h4, h6, (by rw [put_tab, put_next]; exact fr_upd hid rfl h7 h8), put_defers _ _ _⟩
      · exact hp.elim
    · exact hp.elim
  · rename_i t n parts
    unfold aBuildSlice at hp
    have hfr := fr_frzs (cx := cx) (w := w) (L := L) (st := st) (ownIds (parts.toList.flatMap fun (p : Nat × Operand) => aCells (aEv st p.2)))
    replace h := conc_frzs (ownIds (parts.toList.flatMap fun (p : Nat × Operand) => aCells (aEv st p.2))) h
    unfold aBuildSlice1 at hp
    split at hp
    · rename_i e sz by_ ht
      obtain ⟨⟨h1, rfl, h3, h5⟩, h6⟩ := hp
      obtain ⟨v', w', L', h7, h8, hb, rfl, hv⟩ := buildSlice_ok h ht h1 h3 h5 dst
      refine wp_value ?_ ⟨_, _, h6, h8, (by rw [put_tab, put_next]; exact hfr.trans (fr_new h hb fun g hg => by rw [hv] at hg; cases hg; exact Nat.le_refl _)), put_defers _ _ _⟩
      simp only [Array.toArray_toList] at h7
      simp [execOp, Sem.run_bind]
      simp at h7
      simp [h7]
    · exact hp.elim
  · rename_i t l c
    unfold aMake at hp
    split at hp
    · rename_i e sz by_ k1 n k2 m ht hl hc
      split at hp
      · rename_i z hz
        obtain ⟨⟨rfl, h1, h2, h3, h4⟩, h5⟩ := hp
        have hl' := (eval_ok h l).1
        have hc' := (eval_ok h c).1
        rw [hl] at hl'
        rw [hc] at hc'
        obtain ⟨v', w', L', h6, h7, hb, rfl, hv⟩ := make_ok (k1 := k1) (k2 := k2) h ht hz h1 h2 h3 h4 dst
        exact wp_value (by simp [execOp, Sem.run_bind, hl'.c_inv, hc'.c_inv, h6]) ⟨_, _, h5, h7, (by rw [put_tab, put_next]; exact fr_new h hb fun g hg => by rw [hv] at hg; cases hg; exact Nat.le_refl _), put_defers _ _ _⟩
      · exact hp.elim
    · exact hp.elim
  · rename_i t parts
    obtain ⟨v, cs, h1, h2, h3, h4⟩ := build_wp h hp
    refine wp_value ?_ ⟨_, _, h4, conc_pure h h1 h2 dst, (by rw [put_tab, put_next]; exact Fr.refl), put_defers _ _ _⟩
    simp [execOp, Sem.run_bind, h3 w]
  · rename_i t x lo hi mx
    exact sliceW_wpF h hp
  · rename_i t r
    obtain ⟨hr, hp⟩ := hp
    cases r with
    | some r => cases hr
    | none =>
      obtain ⟨h1, h2⟩ := makeMap_ok (P := P) (t := t) h dst
      exact wp_value (by simp [execOp, Sem.run_bind, h1]) ⟨_, _, hp, h2, (by rw [put_tab, put_next]; exact fr_new h ((Below.refl _ _).alloc (Nat.le_refl _) _) (fun g hg => by simp [vblk] at hg; omega)), put_defers _ _ _⟩
  · rename_i t m k ok
    obtain ⟨r, av, h1, h2, h3, h4⟩ := lookup_ok (nx := st.next) h.lay (eval_ok h m).1 (eval_ok h k).1 hp
    exact wp_value (by simp [execOp, Sem.run_bind, h4]) ⟨_, _, h1, conc_pure h h2 h3 dst, (by rw [put_tab, put_next]; exact Fr.refl), put_defers _ _ _⟩
  · rename_i t m k v
    obtain ⟨w', st', h1, h2, h3, h4, id, ents, ents', _, h5, rfl, h6⟩ := mapUpd_ok h (eval_ok h m).1 (eval_ok h k).1 (eval_ok h v).1 dst hp
    exact wp_skip' (by simp [execOp, Sem.run_bind, h1]) ⟨_, _, h2, h3, (by rw [put_tab, put_next]; exact fr_upd h5 rfl h4 h6), put_defers _ _ _⟩
  · rename_i c
    obtain ⟨callee, args, argTypes⟩ := c
    simp only at hp
    split at hp
    · split at hp
      · rename_i x y t t' h1 h2
        obtain rfl : args = #[x, y] := by cases args; simp_all
        obtain rfl : argTypes = #[t, t'] := by cases argTypes; simp_all
        obtain ⟨rfl, hp⟩ := hp
        unfold aAppend at hp
        split at hp
        · rename_i e sz by_ ht
          split at hp
          · rename_i oid rows rows2 hx hy
            obtain ⟨⟨h3, h4⟩, h5⟩ := hp
            obtain ⟨v', w', L', h6, h7, hg, rfl, hv, hown⟩ := append_ok (ty := ty) h (eval_ok h x).1 (eval_ok h y).1 ht hx hy (by simpa [maxLen] using h3) h4 dst
            have hoid : ∀ id, oid = some id → ∃ o, st.tab.get id = some o := fun id hid => by
              subst hid
              unfold aDst at hx
              split at hx
              · rename_i id' hid'
                split at hx
                · rename_i e' sz' rows' hget
                  split at hx
                  · cases hx
                    exact ⟨_, hget⟩
                  · cases hx
                · cases hx
              · cases hx
              · cases hx
            exact wp_value (by simp [execOp, Sem.run_bind, resolve, invoke, builtin, h6]) ⟨_, _, h5, h7, (by rw [put_tab, put_next]; exact fr_app h hg hv hown hoid), put_defers _ _ _⟩
          · exact hp.elim
        · exact hp.elim
      · exact hp.elim
    · unfold aClears at hp
      split at hp
      · rename_i x t h1 h2
        obtain rfl : args = #[x] := by cases args; simp_all
        obtain rfl : argTypes = #[t] := by cases argTypes; simp_all
        obtain ⟨w', st', h3, h4, h5, h6, id, ents, h7, rfl, h8⟩ := clear_ok (ty := ty) h (eval_ok h x).1 dst hp
        exact wp_value (by simp [execOp, Sem.run_bind, resolve, invoke, builtin, h3]) ⟨_, _, h4, h5, (by rw [put_tab, put_next]; exact fr_upd h7 rfl h6 h8), put_defers _ _ _⟩
      · exact hp.elim
    · rcases hp with hp | hp
      · unfold aLenMs at hp
        split at hp
        · rename_i x t h1 h2
          obtain rfl : args = #[x] := by cases args; simp_all
          obtain rfl : argTypes = #[t] := by cases argTypes; simp_all
          obtain ⟨r, av, h3, h4, h5, h6⟩ := lenM_ok (ty := ty) (nx := st.next) h.lay (eval_ok h x).1 hp
          exact wp_value (by simp [execOp, Sem.run_bind, resolve, invoke, builtin, h6]) ⟨_, _, h3, conc_pure h h4 h5 dst, (by rw [put_tab, put_next]; exact Fr.refl), put_defers _ _ _⟩
        · exact hp.elim
      · exact pure_wpF h hp
    · rename_i f
      obtain ⟨g, zs, avs, hrun0, hsz, hlt, hp⟩ := aFnB_inv h hp
      by_cases hmeth : aMeth none P st g avs (aK2 dst K)
      · obtain ⟨hent, ids0, _, hc⟩ := meth_ok h hsz (fun j v av h1 h2 => (hlt j v av h1 h2).1) hmeth dst
        unfold Oper.wp
        rw [hrun0 hent _ argTypes rfl]
        show Calls P g zs w _
        refine hc.mono ?_
        rintro e w' ⟨v, av, st', L', rfl, h1, h2, h3, _⟩
        exact ⟨_, _, h1, h2, (by rw [put_tab, put_next]; exact h3), put_defers _ _ _⟩
      replace hp : aCall0 P st g avs (aK2 dst K) ∨ (none = (none : Option (Nat × List Nat)) ∧ (aUpdM P st g avs (aK2 dst K) ∨ aCallZ P st g avs (aK2 dst K))) := by
        rcases hp with hp | hp | hp
        · exact .inl hp
        · exact .inr hp
        · exact absurd hp hmeth
      have hent : Enters P g := by
        rcases hp with (⟨R, hd, _⟩ | ⟨hd, _⟩) | ⟨_, (⟨_, _, _, _, _, _, _, _, hd, _⟩ | ⟨_, _, _, _, _, _, _, _, _, hd, _⟩ | ⟨hd, _⟩) | ⟨_, (⟨R, hd, _⟩ | ⟨hd, _⟩)⟩⟩
        · exact hd.1
        · exact hd
        · exact hd.1
        · exact hd.1
        · exact hd
        · exact hd.1
        · exact hd
      unfold Oper.wp
      rw [hrun0 hent _ argTypes rfl]
      show Calls P g zs w _
      have hargs : zs.size = avs.length ∧ ∀ (j : Nat) (v : Value) (av : AV), zs[j]? = some v → avs[j]? = some av → RVx cx w st.tab L v av := ⟨hsz, fun j v av h1 h2 => (hlt j v av h1 h2).1⟩
      rcases hp with hp | ⟨_, hp | ⟨ids, hp⟩⟩
      · refine (call_ok h hargs.1 hargs.2 hp dst).mono ?_
        rintro e w' ⟨v, av, st', L', rfl, h1, h2, hb, hold, hnew, hnx⟩
        exact ⟨_, _, h1, h2, (by rw [put_tab, put_next]; exact fr_merge (fun id o hid => (h.young id o hid).1) hb hold hnew hnx), put_defers _ _ _⟩
      rotate_left
      · obtain ⟨h3, h4⟩ := frzAVs_ok ids h hlt
        have hz := conc_frzs ids h
        refine (call_ok hz (by rw [h3]; exact hargs.1) (fun j v av h5 h6 => (h4 j v av h5 h6).1) hp dst).mono ?_
        rintro e w' ⟨v, av, st', L', rfl, h1, h2, hb, hold, hnew, hnx⟩
        exact ⟨_, _, h1, h2, (by rw [put_tab, put_next]; exact (fr_frzs ids).trans (fr_merge (fun id o hid => (hz.young id o hid).1) hb hold hnew hnx)), put_defers _ _ _⟩
      · refine (updM_ok h hargs.1 hlt hp dst).mono ?_
        rintro e w' ⟨v, av, st', L', rfl, h1, h2, h3⟩
        exact ⟨_, _, h1, h2, (by rw [put_tab, put_next]; exact h3), put_defers _ _ _⟩
    · exact pure_wpF h hp
  · exact pure_wpF h hp
end
end
section
open Go.RowKit

section
variable {P : Program} {cx : Cx} {a : Act} {w w' : World} {st : ASt} {L L' : Nat → Value} {l0 n : Nat}
/-- memory that the caller does not write: with what was laid since -/
def grow (T : Nat → Prop) (w w' : World) (b : Nat) : Prop := T b ∨ (w.heap.size ≤ b ∧ b < w'.heap.size)
theorem conc_move {c c' : Cx} (h : Conc c a w st L) (hw : c'.w0 = c.w0) (hblk : ∀ b, Sx c w st.tab L b → w'.heap[b]? = w.heap[b]?) (hown : ∀ id o g, st.tab.get id = some o → vblk (L id) = some g → w'.heap[g]? = w.heap[g]?) (hS : ∀ b, Sx c w st.tab L b → Sx c' w' st.tab L b)
    (hb : BelowX c'.X c'.w0.heap.size c'.w0 w') (hex : ∀ b, c'.X b → b < w'.heap.size ∧ ∀ id o, st.tab.get id = some o → vblk (L id) ≠ some b) : Conc c' a w' st L := by
  have hrv : ∀ {x av nx}, RVx c w st.tab L x av → av.lt nx → RVx c' w' st.tab L x av := fun hr hl => hr.mono hl (fun p hp => World.cell?_of_block (hblk _ hp)) hS (fun _ _ _ h => h)
  refine ⟨⟨hb, fun id o hid => ?_, h.lay.sep, hex⟩, h.size, by rw [hw]; exact h.defers.mono hblk hS, h.young, fun t => ⟨hrv (h.env t).1 (h.env t).2, (h.env t).2⟩⟩
  have ho := h.lay.objs id o hid
  have hy := (h.young id o hid).2
  cases o with
  | box t cells =>
    obtain ⟨g, cs, h1, h2, h3, h4, h5⟩ := ho
    exact ⟨g, cs, h1, by rw [hw]; exact h2, (hown id _ g hid (by rw [h1]; rfl)).trans h3, h4, fun j x av h6 h7 => ⟨hrv (h5 j x av h6 h7).1 (ltL_iff.1 hy _ (List.mem_of_getElem? h7)), (h5 j x av h6 h7).2⟩⟩
  | row e sz rows =>
    obtain ⟨h1, xs, hown', h2, h3⟩ := ho
    refine ⟨h1, xs, ⟨hown'.1, ?_⟩, h2, fun i j row av ha hb => ?_⟩
    · rcases hown'.2 with hn | ⟨g, cap, cur, h4, hb, hh, rest⟩
      · exact .inl hn
      · exact .inr ⟨g, cap, cur, h4, by rw [hw]; exact hb, (hown id _ g hid (by rw [h4]; rfl)).trans hh, rest⟩
    · obtain ⟨x, hx, hr⟩ := h3 i j row av ha hb
      exact ⟨x, hx, hr.mono (fun p hp => World.cell?_of_block (hblk _ hp)) hS⟩
  | map ents =>
    obtain ⟨b, es, ck, h1, h2, h3, h4⟩ := ho
    exact ⟨b, es, ck, h1, by rw [hw]; exact h2, (hown id _ b hid (by rw [h1]; rfl)).trans h3, h4⟩
  | ghost vs env => exact ⟨ho.1, fun t ht => hrv (ho.2 t ht) (envLt_aget hy t)⟩
def Cx.ex (c : Cx) (M : Nat → Prop) (hM : ∀ b, M b → c.w0.heap.size ≤ b) : Cx := ⟨c.F, c.w0, fun b => c.X b ∨ M b, c.amb, fun b h => h.elim (c.exD b) fun h2 => Nat.le_trans c.amb.le (hM b h2), c.inF⟩
def JAt (cx : Cx) (a0 : Act) (l : Nat) (r : Loop) (I : ASt → Prop) (T M : Nat → Prop) (W : World) : Prop :=
  ∃ (hqq : ∀ b, M b → cx.w0.heap.size ≤ b) (st : ASt) (L : Nat → Value), I st ∧ Conc (cx.ex M hqq) a0 W st L ∧ W.heap[l]? = some (.loop r) ∧ Sx (cx.ex M hqq) W st.tab L l ∧ ¬ T l ∧ (∀ b, M b → T b ∧ cx.w0.heap.size ≤ b) ∧ ∀ b, T b → Sx cx W st.tab L b
theorem sx_new (h : Conc cx a w st L) {b : Nat} (h1 : w.heap.size ≤ b) (h2 : b < w'.heap.size) : Sx cx w' st.tab L b :=
  ⟨h2, ⟨.inr (Nat.le_trans h.lay.below.size h1), fun hX => absurd (h.lay.ex b hX).1 (Nat.not_lt.2 h1)⟩, fun id o hid hg => absurd ((h.lay.objs id o hid).ge hg).2 (by omega)⟩
theorem JAt.step {a0 : Act} {l : Nat} {r : Loop} {I : ASt → Prop} {T M M' : Nat → Prop} (h : JAt cx a0 l r I T M w) (hb : BelowX M w.heap.size w w') (hM : ∀ b, M' b → M b ∨ (w.heap.size ≤ b ∧ b < w'.heap.size)) : JAt cx a0 l r I (grow T w w') M' w' := by
  obtain ⟨hqq, st, L, h1, h2, h3, h4, h5, h6, h7⟩ := h
  have hsz : cx.w0.heap.size ≤ w.heap.size := h2.lay.below.size
  have hq' : ∀ b, M' b → cx.w0.heap.size ≤ b := fun b hb2 => (hM b hb2).elim (hqq b) fun h8 => Nat.le_trans hsz h8.1
  have hS : ∀ b, Sx (cx.ex M hqq) w st.tab L b → Sx (cx.ex M' hq') w' st.tab L b := fun b hs => ⟨Nat.lt_of_lt_of_le hs.1 hb.size, ⟨hs.2.1.1, fun hx => by
    rcases hx with hx | hx
    · exact hs.2.1.2 (.inl hx)
    · rcases hM b hx with hm | hm
      · exact hs.2.1.2 (.inr hm)
      · have := hs.1
        omega⟩, hs.2.2⟩
  have hblk : ∀ b, Sx (cx.ex M hqq) w st.tab L b → w'.heap[b]? = w.heap[b]? := fun b hs => hb.block b hs.1 fun hm => hs.2.1.2 (.inr hm)
  have hex : ∀ b, (cx.ex M' hq').X b → b < w'.heap.size ∧ ∀ id o, st.tab.get id = some o → vblk (L id) ≠ some b := fun b hx => by
    have old : (cx.ex M hqq).X b → b < w'.heap.size ∧ ∀ id o, st.tab.get id = some o → vblk (L id) ≠ some b := fun hx => ⟨Nat.lt_of_lt_of_le (h2.lay.ex b hx).1 hb.size, (h2.lay.ex b hx).2⟩
    rcases hx with hx | hx
    · exact old (.inl hx)
    · rcases hM b hx with hm | hm
      · exact old (.inr hm)
      · exact ⟨hm.2, fun id o hid hg => absurd ((h2.lay.objs id o hid).ge hg).2 (by omega)⟩
  have hbel : BelowX (cx.ex M' hq').X (cx.ex M' hq').w0.heap.size (cx.ex M' hq').w0 w' := by
    have h8 : BelowX (cx.ex M hqq).X cx.w0.heap.size cx.w0 w := h2.lay.below
    refine ⟨hb.os.trans h8.os, hb.tape.trans h8.tape, hb.output.trans h8.output, Nat.le_trans h8.size hb.size, fun k (hk : k < cx.w0.heap.size) hx => ?_⟩
    have hm : ¬ M k := fun hm => by
      have := (h6 k hm).2
      omega
    refine (hb.block k (by omega) hm).trans (h8.block k hk fun hx' => ?_)
    rcases hx' with hx' | hx'
    · exact hx (.inl hx')
    · exact hm hx'
  refine ⟨hq', st, L, h1, conc_move h2 rfl hblk (fun id o g hid hg => hb.block g ((h2.lay.objs id o hid).ge hg).2 fun hm => (h2.lay.ex g (.inr hm)).2 id o hid hg) hS hbel hex, (hblk l h4).trans h3, hS l h4, fun hg => ?_, fun b hm => ?_, fun b hg => ?_⟩
  · rcases hg with hg | hg
    · exact h5 hg
    · have := h4.1
      omega
  · rcases hM b hm with hm | hm
    · exact ⟨.inl (h6 b hm).1, (h6 b hm).2⟩
    · exact ⟨.inr hm, by omega⟩
  · rcases hg with hg | hg
    · exact ⟨Nat.lt_of_lt_of_le (h7 b hg).1 hb.size, (h7 b hg).2.1, (h7 b hg).2.2⟩
    · have := sx_new h2 hg.1 hg.2
      exact ⟨this.1, ⟨this.2.1.1, fun hx => this.2.1.2 (.inl hx)⟩, this.2.2⟩
end
end
section
open Go.RowKit

/-- what has been handed on, and whether more is wanted -/
abbrev IG := List (List AV) × Bool
section
variable {P : Program} {l : Nat} {xs : List (List AV)} {Q : Exit → IG → ASt → Prop} {g : IG} {st : ASt} {K : IG → ASt → Prop} {ops : Array Oper} {dst : Option Tmp} {op : Op} {ty : TypeId} {pos : String} {aft : Array Edge} {gd : Option (Nat × Bool)} {rest : List Oper}
end
/-- what the iterator is not to touch begins behind the program's own variables -/
structure IAmb (T0 : Nat → Prop) (W0 : World) (T : Nat → Prop) : Prop where
  amb : Amb W0
  tab0 : ∀ b, b < ambD → T0 b
  tab : ∀ b, b < ambD → T b
section
variable {P : Program} {l : Nat} {xs : List (List AV)} {T0 : Nat → Prop} {W0 : World} {J Jx : List (List AV) → (Nat → Prop) → (Nat → Prop) → World → Prop} {g : IG} {st st' : ASt} {a a' : Act} {W W' : World} {L L' : Nat → Value} {T M M' : Nat → Prop}
theorem IAmb.grow (hq : IAmb T0 W0 T) : IAmb T0 W0 (grow T W W') := ⟨hq.amb, hq.tab0, fun b hb => .inl (hq.tab b hb)⟩
end
end
section
open Go.RowKit

/-- a variable's part that holds no slice, seen as a slice of the call's own that is empty -/
theorem weak_nilbox {st : ASt} (id j e sz : Nat) {t : TypeId} {cells : List AV} (hid : st.tab.get id = some (.box t cells)) (hj : cells[j]? = some (.c (.slice none 0 0))) :
    Weak st ⟨st.n, st.env, (id, some (.box t (cells.set j (.osl st.next)))) :: (st.next, some (.row e sz [])) :: st.tab, st.next + 1⟩ := by
  intro cx a w L h
  have hc1 := conc_new (ob := .row e sz []) (v := .slice none 0 0) (x := .slice none 0 0) (av := .any) h (Below.refl _ _) (fun g hg => by simp [vblk] at hg) (fun hext => ⟨by simp, [], ownsR_nil .., by simp, by simp⟩) trivial (fun hext => .tree (.any _)) trivial none
  have hlt := (h.young id _ hid).1
  have hget1 : ATab.get ((st.next, some (.row e sz [])) :: st.tab) id = some (.box t cells) := by rw [ATab.get_cons, if_neg (by omega)]; exact hid
  generalize hL1 : updL L st.next (.slice none 0 0) = L1 at hc1
  generalize ht1 : (st.next, some (AObj.row e sz [])) :: st.tab = tab1 at hc1 hget1 ⊢
  have hc1 : Conc cx a w ⟨st.n, st.env, tab1, st.next + 1⟩ L1 := hc1
  have hnew : ATab.get tab1 st.next = some (.row e sz []) := by rw [← ht1, ATab.get_cons, if_pos rfl]
  have hLn : L1 st.next = .slice none 0 0 := by rw [← hL1]; simp [updL]
  have hget : ∀ k o, ATab.get ((id, some (.box t (cells.set j (.osl st.next)))) :: tab1) k = some o → ∃ o', ATab.get tab1 k = some o' ∧ o.sz = o'.sz := fun k o hk => by
    rw [ATab.get_cons] at hk
    split at hk
    · rename_i e1
      cases hk
      exact ⟨_, by rw [e1]; exact hget1, by simp [AObj.sz]⟩
    · exact ⟨o, hk, rfl⟩
  have hS1 : ∀ b, Sx cx w tab1 L1 b → Sx cx w ((id, some (.box t (cells.set j (.osl st.next)))) :: tab1) L1 b := fun b hb => ⟨hb.1, hb.2.1, fun k o hk => by
    obtain ⟨o', h1, _⟩ := hget k o hk
    exact hb.2.2 k o' h1⟩
  have hK : ∀ k p, Kx ((id, some (.box t (cells.set j (.osl st.next)))) :: tab1) L1 k = some p → Kx tab1 L1 k = some p := fun k p hk => by
    unfold Kx at *
    cases ho : ATab.get ((id, some (.box t (cells.set j (.osl st.next)))) :: tab1) k with
    | none => simp [ho] at hk
    | some o =>
      obtain ⟨o', h1, h2⟩ := hget k o ho
      rw [h1]
      simpa [ho, h2] using hk
  have hrv : ∀ {x av}, RVx cx w tab1 L1 x av → av.lt (st.next + 1) → RVx cx w ((id, some (.box t (cells.set j (.osl st.next)))) :: tab1) L1 x av := fun hr hl => hr.mono hl (fun _ _ => rfl) hS1 fun k p _ hk => hK k p hk
  refine ⟨L1, ⟨⟨hc1.lay.below, fun k o hk => ?_, fun k k' o o' g h1 h2 => ?_, fun b hb => ⟨(hc1.lay.ex b hb).1, fun k o hk => by
    obtain ⟨o', h1, _⟩ := hget k o hk
    exact (hc1.lay.ex b hb).2 k o' h1⟩⟩, hc1.size, hc1.defers.mono (fun _ _ => rfl) hS1, fun k o hk => ?_, fun t => ⟨hrv (hc1.env t).1 (hc1.env t).2, (hc1.env t).2⟩⟩, fun b hb => hS1 b ?_⟩
  · rw [ATab.get_cons] at hk
    split at hk
    · rename_i e1
      cases hk
      subst e1
      obtain ⟨g, cs, h1, h2, h3, h4, h5⟩ := hc1.lay.objs _ _ hget1
      refine ⟨g, cs, h1, h2, h3, by simpa using h4, fun i x av h6 h7 => ?_⟩
      rw [List.getElem?_set] at h7
      split at h7
      · rename_i e2
        subst e2
        split at h7
        · cases h7
          have h8 := h5 j x _ h6 hj
          refine ⟨.osl x _ fun sz' v hk => ?_, h8.2⟩
          have hk := hK _ _ hk
          unfold Kx at hk
          rw [hnew] at hk
          simp at hk
          rw [h8.1.c_inv, ← hk.2, hLn]
        · cases h7
      · have h8 := h5 i x av h6 h7
        exact ⟨hrv h8.1 (ltL_iff.1 (hc1.young _ _ hget1).2 _ (List.mem_of_getElem? h7)), h8.2⟩
    · have ho := hc1.lay.objs k o hk
      have hy := (hc1.young k o hk).2
      cases o with
      | box t' cells' =>
        obtain ⟨g, cs, h1, h2, h3, h4, h5⟩ := ho
        exact ⟨g, cs, h1, h2, h3, h4, fun i x av h6 h7 => ⟨hrv (h5 i x av h6 h7).1 (ltL_iff.1 hy _ (List.mem_of_getElem? h7)), (h5 i x av h6 h7).2⟩⟩
      | row e' sz' rows' =>
        obtain ⟨h1, xs, h2, h3, h4⟩ := ho
        refine ⟨h1, xs, h2, h3, fun i j row av h5 h6 => ?_⟩
        obtain ⟨x, hx, hr⟩ := h4 i j row av h5 h6
        exact ⟨x, hx, hr.mono (fun _ _ => rfl) hS1⟩
      | map ents => exact ho
      | ghost vs env => exact ⟨ho.1, fun t ht => hrv (ho.2 t ht) (envLt_aget hy t)⟩
  · obtain ⟨o1, h3, _⟩ := hget k o h1
    obtain ⟨o2, h4, _⟩ := hget k' o' h2
    exact hc1.lay.sep k k' o1 o2 g h3 h4
  · rw [ATab.get_cons] at hk
    split at hk
    · rename_i e1
      cases hk
      have hy := hc1.young id _ hget1
      refine ⟨by rw [e1]; exact hy.1, ltL_iff.2 fun x hx => ?_⟩
      rcases List.mem_or_eq_of_mem_set hx with hx | rfl
      · exact ltL_iff.1 hy.2 x hx
      · exact Nat.lt_succ_self _
    · exact hc1.young k o hk
  · refine ⟨hb.1, hb.2.1, fun k o hk hg => ?_⟩
    rw [← ht1, ATab.get_cons] at hk
    rw [← hL1] at hg
    unfold updL at hg
    split at hk
    · rename_i e1
      rw [if_pos e1] at hg
      simp [vblk] at hg
    · rename_i e1
      rw [if_neg e1] at hg
      exact hb.2.2 k o hk hg
end
section
open Go.RowKit
theorem weak_frz (st : ASt) (id : Nat) : Weak st (frz1 st id) := fun cx a w L h => ⟨L, (conc_frz1 h id).1, fun b hb => ⟨hb.1, hb.2.1, fun k o hk => by
  unfold frz1 at hk
  split at hk
  · simp only [ATab.get_cons, frzTab_get] at hk
    split at hk
    · cases hk
    · cases hg : st.tab.get k with
      | none => simp [hg] at hk
      | some o' => exact hb.2.2 k o' hg
  · exact hb.2.2 k o hk⟩⟩
end
section
open Go.RowKit

section
variable {P : Program} {cx : Cx} {a : Act} {w w' w'' : World} {st st' : ASt} {tab tab' tab'' : ATab} {L L' L'' : Nat → Value} {nx nx' : Nat}
theorem Fz.refl : Fz w tab L w tab L := ⟨Nat.le_refl _, fun _ _ _ => rfl, fun id o g h1 h2 _ => ⟨id, o, h1, h2⟩⟩
theorem Fz.trans (h : Fz w tab L w' tab' L') (k : Fz w' tab' L' w'' tab'' L'') : Fz w tab L w'' tab'' L'' :=
  ⟨Nat.le_trans h.size k.size,
   fun j hj hn => (k.keep j (Nat.lt_of_lt_of_le hj h.size) fun id o h1 h2 => (h.young id o j h1 h2 hj).elim fun id2 ⟨o2, h3, h4⟩ => hn id2 o2 h3 h4).trans (h.keep j hj hn),
   fun id o g h1 h2 hg => (k.young id o g h1 h2 (Nat.lt_of_lt_of_le hg h.size)).elim fun id2 ⟨o2, h3, h4⟩ => h.young id2 o2 g h3 h4 hg⟩
theorem Fr.fz (h : Fr cx w tab L nx w' tab' L' nx') : Fz w tab L w' tab' L' := ⟨h.size, h.keep, h.young⟩
theorem weak_fz (hw : Weak st st') (h : Conc cx a w st L) : ∃ L', Conc cx a w st' L' ∧ Fz w st.tab L w st'.tab L' := by
  obtain ⟨L', h1, h2⟩ := hw _ _ _ _ h
  refine ⟨L', h1, Nat.le_refl _, fun _ _ _ => rfl, fun id o g h3 h4 h5 => ?_⟩
  refine Classical.byContradiction fun hno => ?_
  have hS : Sx cx w st.tab L g := ⟨h5, ⟨.inr ((h1.lay.objs id o h3).ge h4).1, fun hX => (h1.lay.ex g hX).2 id o h3 h4⟩, fun id2 o2 h6 h7 => hno ⟨id2, o2, h6, h7⟩⟩
  exact (h2 g hS).2.2 id o h3 h4
theorem ops_okZ {ops : Array Oper} {K : ASt → Prop} {Q : Exit → Act → World → Prop} {T : Nat → Prop} : ∀ (l : List Oper) (a : Act) (w : World) (st : ASt) (L : Nat → Value), (∀ o ∈ l, fOp o = true ∧ ∀ t, T t → o.dst ≠ some t) →
    (∀ a' w' st' L', K st' → Conc cx a' w' st' L' → Fz w st.tab L w' st'.tab L' → ActSame T a a' → Q .normal a' w') → Conc cx a w st L → aOps P ops K l st → wpList P ops Q l a w
  | [], a, w, st, L, _, hQ, h, hp => hQ a w st L hp h Fz.refl (.refl a)
  | o :: rest, a, w, st, L, hf, hQ, h, hp => by
    unfold aOps at hp
    obtain ⟨hfo, hdo⟩ := hf o (List.mem_cons_self ..)
    have hrest := fun o' (ho' : o' ∈ rest) => hf o' (List.mem_cons_of_mem _ ho')
    refine wpList_step fun K' hK' => ?_
    rcases guard_ok h hp o rfl with ⟨hw, st1, h1, h2, e1, e2⟩ | ⟨hw, st1, h1, h2, e1, e2⟩
    · rw [if_pos hw]
      refine Oper.wp_mono (fun a' w' ⟨⟨st2, L2, h3, h4, h5, h6⟩, h7⟩ => hK' a' w' (ops_okZ rest a' w' st2 L2 hrest (fun a3 w3 st3 L3 h8 h9 h10 h11 => hQ a3 w3 st3 L3 h8 h9 ?_ (ActSame.trans ⟨h6, h7⟩ h11)) h4 h3)) (wp_slots hdo (op_okF h2 h1 hfo))
      have h5 := h5.fz
      rw [e1] at h5
      exact h5.trans h10
    · rw [if_neg (by simp [hw])]
      refine hK' _ _ (ops_okZ rest _ w _ L hrest (fun a3 w3 st3 L3 h8 h9 h10 h11 => hQ a3 w3 st3 L3 h8 h9 ?_ (((ActSame.refl a).put hdo).trans h11)) (skip_conc h2 o.dst) h1)
      rw [put_tab, e1] at h10
      exact h10
theorem Fz.below (hy : ∀ id o g, tab.get id = some o → vblk (L id) = some g → g < w.heap.size) (hb : Below w.heap.size w w') : Fz w tab L w' tab L := ⟨hb.size, fun k hk _ => hb.block k hk, fun id o g h1 h2 _ => ⟨id, o, h1, h2⟩⟩
/-- code whose regions go in order, and that does not put into slot t -/
def zCode (t : Nat) : Code → Bool
  | .skip => true
  | .region _ ops _ => ops.toList.all fun o => fOp o && !(o.dst == some t)
  | .seq x y => zCode t x && zCode t y
  | .cond _ x y => zCode t x && zCode t y
  | .block _ x => zCode t x
  | .loop x => zCode t x
  | .exit _ => true
  | .ret => true
  | .label _ => true
  | .scope x => zCode t x
  | _ => false
abbrev AfterZ (cx : Cx) (a : Act) (w : World) (tab : ATab) (L : Nat → Value) (t : Nat) (Q : Exit → ASt → Prop) : Exit → Act → World → Prop := fun e a' w' => ∃ st' L', Q e st' ∧ Conc cx a' w' st' L' ∧ Fz w tab L w' st'.tab L' ∧ ActSame (fun k => k = t) a a'
theorem code_okZ (hm : P.follows .mixedOrders = true) (t : Nat) : ∀ (c : Code), zCode t c = true → ∀ (Q : Exit → ASt → Prop) (a : Act) (w : World) (st : ASt) (L : Nat → Value), Conc cx a w st L → aCode P c Q st → c.wp P (AfterZ cx a w st.tab L t Q) a w := by
  intro c
  induction c with
  | skip => exact fun _ Q a w st L h hp => wp_skip ⟨st, L, hp, h, Fz.refl, .refl a⟩
  | region id ops draw =>
    intro hf Q a w st L h hp
    unfold aCode aReg at hp
    simp only [zCode, List.all_eq_true, Bool.and_eq_true] at hf
    have hf : ∀ o ∈ ops.toList, fOp o = true ∧ ∀ k, k = t → o.dst ≠ some k := fun o ho => ⟨(hf o ho).1, fun k hk => by subst hk; simpa using (hf o ho).2⟩
    have hT : ∀ (i : Nat) (o : Oper), ops[i]? = some o → ∀ k, k = t → o.dst ≠ some k := fun i o ho => (hf o (Array.mem_toList_iff.2 (Array.mem_of_getElem? ho))).2
    have hyg : ∀ id o g, st.tab.get id = some o → vblk (L id) = some g → g < w.heap.size := fun id o g h1 h2 => ((h.lay.objs id o h1).ge h2).2
    cases draw with
    | false => exact wp_region_list (ops_okZ (T := fun k => k = t) _ a w st L hf (fun a' w' st' L' h1 h2 h3 h4 => ⟨st', L', h1, h2, h3, h4⟩) h (by simpa using hp))
    | true =>
      simp only [if_true] at hp
      obtain ⟨l⟩ := ops
      rcases hp with ⟨hB, hp⟩ | ⟨n, hB, hp⟩ | ⟨ids, hd, s, hB, K', hK', hids, hp⟩
      · exact wp_region_quiet (C := fun w' => Below w.heap.size w w') hm hB ((Below.refl _ _).drew) (dops_ok (L := L) (T := fun k => k = t) (a0 := a) (tab0 := st.tab) (fun a' st' h1 h2 h3 h4 w' hw' => ⟨st', L, h1, conc_below h2 hw', by rw [h3]; exact Fz.below hyg hw', h4⟩) _ _ _ (fun o ho => (hf o ho).2) rfl (.refl a) h hp)
      · have h' : Conc cx a w.drew st L := conc_below h ((Below.refl _ _).drew)
        have hz : Fz w st.tab L w.drew st.tab L := Fz.below hyg ((Below.refl _ _).drew)
        exact wp_region_still_tail n hm hB (pops_ok (T := fun k => k = t) (a0 := a) (tab0 := st.tab) (fun a' st' h1 h2 h3 h4 => ops_okZ (T := fun k => k = t) _ a' w.drew st' L (fun o ho => hf o (List.mem_of_mem_drop ho)) (fun a2 w2 st2 L2 h5 h6 h7 h8 => ⟨st2, L2, h5, h6, hz.trans (by rw [← h3]; exact h7), h4.trans h8⟩) h2 h1) _ _ _ (fun o ho => (hf o (List.mem_of_mem_take ho)).2) rfl (.refl a) h' hp)
      · simp only [Bool.and_eq_true] at hB
        have hB := And.intro hB.1 (Nat.le_of_ble_eq_true hB.2)
        have h' : Conc cx a w.drew st L := conc_below h ((Below.refl _ _).drew)
        let G : Nat → Prop := fun k => ∃ id ∈ ids, vblk (L id) = some k
        refine Code.wp_mono (Q := noPanic (AfterZ cx a w st.tab L t Q)) (fun e a w hq => ?_) (wp_region_held (S := fun w' => KeepX w.drew.heap.size G w.drew w') hm ?_)
        · cases e <;> first | exact hq | exact hq.elim
        · refine heldH_ok (T := st.tab) (Tz := fun k => k = t) (a0 := a) (nx := st.next) (ids := ids) hB.1.1 hT s ⟨Nat.le_refl _, fun _ _ _ => rfl⟩ (fun w' b hw' hb o u hu => ?_) (fun listed a' st' hA hT' hN hB' hK h2 fuel hf' => ?_) hd _ _ _ (.refl a) h' rfl rfl hB.1.2 hp _ hB.2
          · have hlt := World.block_lt_of_cell? w.drew _ hu
            refine (World.cell?_of_block (hw'.block b hlt fun ⟨id, hid, hbl⟩ => ?_)).trans hu
            obtain ⟨ob, hob⟩ := Option.isSome_iff_exists.1 (hids id hid)
            rcases hb with hb | ⟨id', o', hni, hget, hbl'⟩
            · exact hb.2.2 id ob hob hbl
            · exact hni (h.lay.sep id' id o' ob b hget hob hbl' hbl ▸ hid)
          · refine held_ok (Q := AfterZ cx a w st.tab L t Q) (T0 := st.tab) (T := fun k => k = t) (a0 := a) (L0 := L) hB.1.1 hT (fun a2 w2 st2 L2 h3 h4 h5 h6 h7 h8 => ?_) s listed a' w.drew st' L h2 ⟨Nat.le_refl _, fun _ _ _ => rfl⟩ (fun id o g h3 h4 _ => by
              rw [hT'] at h4
              have := (h.young id o h4).1
              omega) (fun id hid g hg => ⟨id, hid, hg⟩) (fun id hid => by
              obtain ⟨ob, hob⟩ := Option.isSome_iff_exists.1 (hids id hid)
              rw [hN]
              exact (h.young id ob hob).1) ⟨fun _ _ => rfl, by rw [hN]; exact Nat.le_refl _, fun id o _ hg => ⟨o, by rw [← hT']; exact hg⟩, fun id o g _ hni hg hbl => ?_⟩ hA hB' hK fuel hf'
            · obtain ⟨st3, hw3, h9⟩ := hK' st2 h3
              obtain ⟨L3, h10, h11⟩ := weak_fz hw3 h4
              have hG : ∀ k, G k → ∃ id o, st.tab.get id = some o ∧ vblk (L id) = some k := fun k ⟨id, hid, hbl⟩ => (Option.isSome_iff_exists.1 (hids id hid)).elim fun ob hob => ⟨id, ob, hob, hbl⟩
              have hz : Fz w st.tab L w2 st2.tab L2 := by
                have hsz : w.drew.heap.size = w.heap.size := rfl
                refine ⟨h5.size, fun k hk hn => h5.block k hk fun hg => ?_, fun id o g h12 h13 h14 => ?_⟩
                · obtain ⟨id, ob, h12, h13⟩ := hG k hg
                  exact hn id ob h12 h13
                · rcases Nat.lt_or_ge id st.next with hlt | hge
                  · obtain ⟨o', ho'⟩ := h7.old id o hlt h12
                    exact ⟨id, o', ho', by rw [← h7.loc id hlt]; exact h13⟩
                  · rcases h6 id o g hge h12 h13 with h15 | h15
                    · have : w.heap.size ≤ g := h15
                      omega
                    · exact hG g h15
              exact ⟨st3, L3, h9, h10, hz.trans h11, h8⟩
            · refine ⟨((h'.lay.objs id _ hg).ge hbl).2, fun ⟨id', hid', hbl'⟩ => hni ?_⟩
              obtain ⟨ob, hob⟩ := Option.isSome_iff_exists.1 (hids id' hid')
              exact h.lay.sep id id' _ ob g hg hob hbl hbl' ▸ hid'
  | seq x y ihx ihy =>
    intro hf Q a w st L h hp
    simp only [zCode, Bool.and_eq_true] at hf
    unfold aCode at hp
    refine wp_seq (Code.wp_mono (fun e a' w' ⟨st', L', h1, h2, h3, h4⟩ => ?_) (ihx hf.1 _ a w st L h hp))
    cases e with
    | normal => exact Code.wp_mono (fun e a2 w2 ⟨st2, L2, k1, k2, k3, k4⟩ => ⟨st2, L2, k1, k2, h3.trans k3, h4.trans k4⟩) (ihy hf.2 Q a' w' st' L' h2 h1)
    | _ => exact ⟨st', L', h1, h2, h3, h4⟩
  | cond c x y ihx ihy =>
    intro hf Q a w st L h hp
    simp only [zCode, Bool.and_eq_true] at hf
    unfold aCode aCond at hp
    split at hp
    · rename_i b hb
      have hv := (eval_ok h c).1
      rw [hb] at hv
      have hv := hv.c_inv
      cases b
      · exact wp_cond_false hv (ihy hf.2 Q a w st L h hp)
      · exact wp_cond_true hv (ihx hf.1 Q a w st L h hp)
    · exact hp.elim
  | block id x ih =>
    intro hf Q a w st L h hp
    simp only [zCode] at hf
    unfold aCode at hp
    refine wp_block (Code.wp_mono (fun e a' w' ⟨st', L', h1, h2, h3⟩ => ?_) (ih hf _ a w st L h hp))
    cases e with
    | exit id' =>
      simp only [aInBlock, Exit.inBlock] at h1 ⊢
      split
      · rename_i e
        rw [if_pos e] at h1
        exact ⟨st', L', h1, h2, h3⟩
      · rename_i e
        rw [if_neg e] at h1
        exact ⟨st', L', h1, h2, h3⟩
    | _ => exact ⟨st', L', h1, h2, h3⟩
  | loop x ih =>
    intro hf Q a0 w0 st0 L0 h hp
    simp only [zCode] at hf
    unfold aCode at hp
    obtain ⟨I, μ, ⟨st1, hw1, hI⟩, hr⟩ := hp
    let p : Act → World → Nat → Prop := fun a w n => ∃ st L, I st ∧ Conc cx a w st L ∧ (Fz w0 st0.tab L0 w st.tab L ∧ ActSame (fun k => k = t) a0 a) ∧ μ st = n
    obtain ⟨L1, hL1, hz1⟩ := weak_fz hw1 h
    refine wp_loop (fun a w => ∃ n, p a w n) (fun a w => least (p a w)) ⟨_, st1, L1, hI, hL1, ⟨hz1, .refl a0⟩, rfl⟩ fun a w hpa => ?_
    obtain ⟨⟨st, L, h1, h2, ⟨h3, h3a⟩, h4⟩, _⟩ := least_spec hpa
    refine Code.wp_mono (fun e a' w' ⟨st', L', h5, h6, h7, h8⟩ => ?_) (ih hf _ a w st L h2 (hr st h1))
    cases e with
    | normal =>
      obtain ⟨st'', hw, hI'', hlt⟩ := h5
      obtain ⟨L1, hL1, hz1⟩ := weak_fz hw h6
      have hpn : p a' w' (μ st'') := ⟨st'', L1, hI'', hL1, ⟨(h3.trans h7).trans hz1, h3a.trans h8⟩, rfl⟩
      refine ⟨⟨_, hpn⟩, ?_⟩
      have := (least_spec ⟨_, hpn⟩).2 _ hpn
      show least (p a' w') < least (p a w)
      omega
    | _ => exact ⟨st', L', h5, h6, h3.trans h7, h3a.trans h8⟩
  | exit id => exact fun _ Q a w st L h hp => wp_exit ⟨st, L, hp, h, Fz.refl, .refl a⟩
  | ret => exact fun _ Q a w st L h hp => wp_ret ⟨st, L, hp, h, Fz.refl, .refl a⟩
  | label l => exact fun _ Q a w st L h hp => wp_label ⟨st, L, hp, h, Fz.refl, .refl a⟩
  | scope x ih =>
    intro hf Q a w st L h hp
    simp only [zCode] at hf
    unfold aCode at hp
    refine wp_scope_straight (Code.wp_mono (fun e a' w' ⟨st', L', h1, h2⟩ => ?_) (ih hf _ a w st L h hp))
    cases e with
    | goto l => exact h1
    | _ => exact ⟨st', L', h1, h2⟩
  | _ => exact fun hf => (by cases hf)
end
end
section
open Go.RowKit
section
variable {P : Program} {rs : List ResultVar} {vs : Array Value} {n nx g k i : Nat} {K : AV → ASt → Prop} {st : ASt} {o : AObj} {T : ATab}
end
section
variable {P : Program} {cx : Cx} {a : Act} {w : World} {st : ASt} {L : Nat → Value}
end
theorem fz_of {cx : Cx} {a : Act} {w : World} {st st' : ASt} {L L' : Nat → Value} (h1 : Conc cx a w st' L') (h2 : ∀ b, Sx cx w st.tab L b → Sx cx w st'.tab L' b) : Fz w st.tab L w st'.tab L' := by
  refine ⟨Nat.le_refl _, fun _ _ _ => rfl, fun id o g h3 h4 h5 => ?_⟩
  refine Classical.byContradiction fun hno => ?_
  have hS : Sx cx w st.tab L g := ⟨h5, ⟨.inr ((h1.lay.objs id o h3).ge h4).1, fun hX => (h1.lay.ex g hX).2 id o h3 h4⟩, fun id2 o2 h6 h7 => hno ⟨id2, o2, h6, h7⟩⟩
  exact (h2 g hS).2.2 id o h3 h4
theorem amth_of_code {P : Program} (hm : P.follows .mixedOrders = true) {f : FuncId} {fn : Func} {c : Code} (hf : P.funcs[f]? = some fn) (hb : fn.body = some c) (hname : (fn.name == "runtime.NumGoroutine") = false) {n : Nat} (hnt : fn.ntmps = n) {rs : List ResultVar} (hrs : fn.results = rs.toArray)
    {t : TypeId} {cells : List AV} {objs : List AObj} {rest : List AV} {Post : AV → List AV → List AObj → Prop} (hn : Nat.ble (rest.length + 1) n = true) (hz : zCode 0 c = true) (hlt : AV.ltL (objs.length + 1) cells) (hpl : ∀ o ∈ objs, plainO o)
    (h : aCode P c (aRetH P rs t cells.length Post) ⟨n, envOf 0 (.op 0 0 0 :: rest), tabN 0 (.box t cells :: objs), objs.length + 1⟩) : AMth P f t cells objs rest Post := by
  have hn := Nat.le_of_ble_eq_true hn
  subst hnt
  refine ⟨fun vs w => ?_, hlt, fun cx w L vs hlay hvn hv0 hvr => ?_⟩
  · have : ¬ fn.name = "runtime.NumGoroutine" := by simpa using hname
    simp [callFunc, Sem.run_bind, hf, this, hb]
  obtain ⟨tab0, ht0⟩ : ∃ tab0, tab0 = tabN 0 (AObj.box t cells :: objs) := ⟨_, rfl⟩
  rw [← ht0] at hlay hvr h ⊢
  have hget0 : tab0.get 0 = some (.box t cells) := by rw [ht0, tabN_get]; rfl
  obtain ⟨g, cs, hLb, _, hheap, _⟩ := hlay.objs 0 _ hget0
  have hvz : ∃ x, vs[0]? = some x := ⟨_, Array.getElem?_eq_getElem (by omega)⟩
  obtain ⟨x0, hx0⟩ := hvz
  obtain rfl := hv0 x0 hx0
  have hC : Conc cx { tmps := vs ++ Array.replicate (fn.ntmps - vs.size) undef, defers := [] } w ⟨fn.ntmps, envOf 0 (.op 0 0 0 :: rest), tab0, objs.length + 1⟩ L := by
    refine ⟨hlay, ?_, Marks.nil _ _ _, fun id o ho => ?_, fun k => ?_⟩
    · simp
      omega
    · rw [ht0, tabN_get] at ho
      simp only [Nat.zero_le, if_true, Nat.sub_zero] at ho
      have hlen := (List.getElem?_eq_some_iff.1 ho).1
      refine ⟨by simpa using hlen, ?_⟩
      cases id with
      | zero =>
        simp at ho
        subst ho
        exact hlt
      | succ id => exact plainO_lt (hpl o (List.mem_of_getElem? (by simpa using ho))) _
    have e : (⟨fn.ntmps, envOf 0 (.op 0 0 0 :: rest), tab0, objs.length + 1⟩ : ASt).get k = (AV.op 0 0 0 :: rest).getD k .any := by
      show (if k < fn.ntmps then aget (envOf 0 (.op 0 0 0 :: rest)) k else .any) = _
      rw [aget_envOf]
      split
      · simp
      · simp [List.getD, List.getElem?_eq_none (show (AV.op 0 0 0 :: rest).length ≤ k by simp; omega)]
    rw [e]
    by_cases hlt' : k < rest.length + 1
    · have ht' : k < vs.size := by omega
      have e2 : (vs ++ Array.replicate (fn.ntmps - vs.size) undef).getD k undef = vs[k] := by
        rw [Array.getD_eq_getD_getElem?, Array.getElem?_append_left ht', Array.getElem?_eq_getElem ht']
        rfl
      rw [e2]
      cases k with
      | zero =>
        have e3 : vs[0] = L 0 := by
          have h0 : vs[0]? = some vs[0] := Array.getElem?_eq_getElem (by omega)
          exact Option.some.inj (h0.symm.trans hx0)
        rw [e3, hLb]
        exact ⟨.op _ 0 0 0 fun sz v' hk => by
          simp [Kx, hget0, hLb] at hk
          rw [← hk.2]
          exact ⟨g, rfl, by simp⟩, Nat.succ_pos _⟩
      | succ k =>
        have hr : k < rest.length := by omega
        have e4 : (AV.op 0 0 0 :: rest).getD (k + 1) .any = rest[k] := by simp [List.getD, hr]
        rw [e4]
        have := hvr k _ _ (Array.getElem?_eq_getElem ht') (List.getElem?_eq_getElem hr)
        exact ⟨.tree this, this.lt _⟩
    · have e3 : (AV.op 0 0 0 :: rest).getD k .any = .any := by simp [List.getD, List.getElem?_eq_none (show (AV.op 0 0 0 :: rest).length ≤ k by simp; omega)]
      rw [e3]
      exact ⟨.tree (.any _), trivial⟩
  refine calls_of_wp hf hb (Code.wp_mono (fun ex a' w' ⟨st', L', h1, h2, h3, hA⟩ => ?_) (code_okZ hm 0 c hz _ _ w _ _ hC h))
  have h50 : a'.tmps.getD 0 undef = L 0 := by
    rw [hA.slots 0 rfl, Array.getD_eq_getD_getElem?, Array.getElem?_append_left (by omega), hx0]
    rfl
  have key : (aResL P st' rs fun avs => ∃ cells' objs', Post (aOne avs) cells' objs' ∧ roA (aOne avs) ∧ (cells'.length = cells.length ∧ AV.ltL (objs'.length + 1) cells' ∧ ∀ o ∈ objs', plainO o) ∧ Weak st' ⟨st'.n, [(0, .op 0 0 0)], tabN 0 (.box t cells' :: objs'), objs'.length + 1⟩) →
      a'.defers = [] ∧ ∃ u, (results fn a'.tmps).run P w' = .ok u w' ∧ ∃ v av cells' objs' L', Ending.returned u = .returned v ∧ Post av cells' objs' ∧ Lay cx w' (tabN 0 (.box t cells' :: objs')) L' ∧ RT w' (Sx cx w' (tabN 0 (.box t cells' :: objs')) L') v av ∧ L' 0 = L 0 ∧ cells'.length = cells.length ∧
      AV.ltL (objs'.length + 1) cells' ∧ (∀ o ∈ objs', plainO o) ∧ Fz w tab0 L w' (tabN 0 (.box t cells' :: objs')) L' := fun h1 => by
    obtain ⟨u, av, ⟨cells', objs', hPost, hro, ⟨hl1, hl2, hl3⟩, hw⟩, hrv, hrun⟩ := res_ok (K := fun av => ∃ cells' objs', Post av cells' objs' ∧ roA av ∧ (cells'.length = cells.length ∧ AV.ltL (objs'.length + 1) cells' ∧ ∀ o ∈ objs', plainO o) ∧ Weak st' ⟨st'.n, [(0, .op 0 0 0)], tabN 0 (.box t cells' :: objs'), objs'.length + 1⟩) (fn := fn) h2 (by rw [hrs]; exact h1)
    obtain ⟨L2, hC2, hS2⟩ := hw _ _ _ _ h2
    refine ⟨hA.defers, u, hrun, u, av, cells', objs', L2, rfl, hPost, hC2.lay, (ro_of hrv hro).mono (fun _ _ => rfl) hS2, ?_, hl1, hl2, hl3, h3.trans (fz_of hC2 hS2)⟩
    have hget2 : (tabN 0 (AObj.box t cells' :: objs')).get 0 = some (.box t cells') := by rw [tabN_get]; rfl
    obtain ⟨g2, cs2, hL2, _⟩ := hC2.lay.objs 0 _ hget2
    have hr := (hC2.env 0).1
    have e5 : (⟨st'.n, [(0, .op 0 0 0)], tabN 0 (.box t cells' :: objs'), objs'.length + 1⟩ : ASt).get 0 = .op 0 0 0 := by
      have : 0 < st'.n := by
        have h6 := h2.size
        refine Nat.pos_of_ne_zero fun h7 => ?_
        have h8 : a'.tmps = #[] := Array.eq_empty_of_size_eq_zero (by omega)
        rw [h8, hLb] at h50
        cases h50
      simp [ASt.get, aget, this]
    rw [e5, h50] at hr
    obtain ⟨g3, hg3, he⟩ := hr.op_inv _ _ (kx_of hget2)
    rw [hL2] at hg3 ⊢
    cases hg3
    rw [he]
    simp
  cases ex with
  | normal => exact key h1
  | ret => exact key h1
  | _ => exact h1.elim
/-- a method's call -/
theorem callMth {u : Option (Nat × List Nat)} {P : Program} {st : ASt} {f : FuncId} {K : AV → ASt → Prop} {t : TypeId} {cells : List AV} {objs : List AObj} {rest : List AV} {Post : AV → List AV → List AObj → Prop} {b : Nat} (ids : List Nat) (h : AMth P f t cells objs rest Post) (hro : roL rest)
    (hb : st.tab.get b = some (.box t (AV.renL (b :: ids) cells))) (ho : objsAt st.tab ids objs) (hd : (b :: ids).Nodup) (hu : ∀ p, u = some p → ∀ id ∈ b :: ids, aMay p.1 p.2 id)
    (hk : ∀ av cells' objs', Post av cells' objs' → K av { st with tab := aMethTab st b ids t cells' objs', next := st.next + objs'.length }) : aCall u P st f (.op b 0 0 :: rest) K :=
  .inr (.inr ⟨t, cells, objs, rest, Post, b, ids, h, rfl, hro, hb, ho, hd, hu, hk⟩)
end
section
open Go.RowKit

deriving instance DecidableEq for Inst
structure Stp where
  op : Int
  a : Int
  b : Int
  x : Inst
deriving DecidableEq
def inst0 : Inst := ⟨0, 0, 0, 0, 0, 0, 0⟩
instance : Inhabited Stp := ⟨⟨0, 0, 0, inst0⟩⟩
/-- a step of the list -/
def atS (l : List Stp) (i : Int) : Stp := l.getD i.toNat default
/-- a step's number, and the steps with it -/
def mkF (l : List Stp) (s : Stp) : List Stp × Int :=
  if s.op = 15 ∧ (atS l s.a).op = 15 then (l, (atS l s.a).a) else if s ∈ l then (l, (l.idxOf s : Int)) else (l ++ [s], l.length)
abbrev stN (a : Int) : Stp := ⟨15, a, 0, inst0⟩
abbrev stA (a b : Int) : Stp := ⟨16, a, b, inst0⟩
abbrev stX (a : Int) : Stp := ⟨20, a, 0, inst0⟩
abbrev stU (a b : Int) : Stp := ⟨26, a, b, inst0⟩
abbrev stG (a : Int) : Stp := ⟨24, a, 0, inst0⟩
abbrev stI (x : Inst) : Stp := ⟨x.op, 0, 0, x⟩
/-- of steps: each one's kids stand ahead of it, none stands twice -/
structure StepsOk (l : List Stp) : Prop where
  nd : l.Nodup
  lt : ∀ (i : Nat) (s : Stp), l[i]? = some s → (0 ≤ s.a ∧ (s.a < i ∨ s.a = 0)) ∧ (0 ≤ s.b ∧ (s.b < i ∨ s.b = 0)) ∧ (¬(1 ≤ s.op ∧ s.op ≤ 14) → s.a < i) ∧ (1 ≤ s.op ∧ s.op ≤ 14 → s.x.op = s.op)
/-- a step that may be made -/
def MayS (l : List Stp) (s : Stp) : Prop := (0 ≤ s.a ∧ (s.a < l.length ∨ s.a = 0)) ∧ (0 ≤ s.b ∧ (s.b < l.length ∨ s.b = 0)) ∧ (¬(1 ≤ s.op ∧ s.op ≤ 14) → s.a < l.length) ∧ (1 ≤ s.op ∧ s.op ≤ 14 → s.x.op = s.op)
theorem atS_eq {l : List Stp} {i : Int} (h : 0 ≤ i) (hl : i < l.length) : l[i.toNat]? = some (atS l i) := by
  have : i.toNat < l.length := by omega
  simp [atS, List.getD, this]
theorem mkF_ok {l : List Stp} {s : Stp} (h : StepsOk l) (hs : MayS l s) : StepsOk (mkF l s).1 ∧ (0 ≤ (mkF l s).2 ∧ (mkF l s).2 < (mkF l s).1.length) ∧ l <+: (mkF l s).1 ∧ (mkF l s).1.length ≤ l.length + 1 := by
  unfold mkF
  by_cases h1 : s.op = 15 ∧ (atS l s.a).op = 15
  · rw [if_pos h1]
    have h2 := hs.2.2.1 (by omega)
    have h3 := h.lt _ _ (atS_eq hs.1.1 h2)
    have h4 := h3.2.2.1 (by omega)
    exact ⟨h, ⟨h3.1.1, by simp only; omega⟩, List.prefix_rfl, Nat.le_succ _⟩
  · rw [if_neg h1]
    by_cases h2 : s ∈ l
    · rw [if_pos h2]
      have := List.idxOf_lt_length_of_mem h2
      exact ⟨h, ⟨by simp only; omega, by simp only; omega⟩, List.prefix_rfl, Nat.le_succ _⟩
    · rw [if_neg h2]
      refine ⟨⟨?_, fun i t hi => ?_⟩, ⟨by simp only; omega, by simp only [List.length_append, List.length_singleton]; omega⟩, List.prefix_append _ _, by simp⟩
      · rw [List.nodup_append]
        refine ⟨h.nd, by simp, fun a ha b hb => ?_⟩
        simp at hb
        subst hb
        exact fun e => h2 (e ▸ ha)
      · simp only at hi
        by_cases h3 : i < l.length
        · rw [List.getElem?_append_left h3] at hi
          exact h.lt i t hi
        · rw [List.getElem?_append_right (by omega)] at hi
          have h4 : i - l.length = 0 := by
            have := (List.getElem?_eq_some_iff.1 hi).1
            simp at this
            omega
          rw [h4] at hi
          simp at hi
          subst hi
          have h5 : i = l.length := by omega
          subst h5
          exact hs
/-! ### memory of steps -/
abbrev eStp (s : Stp) : List AV := [eI s.op, eI s.a, eI s.b, eI s.x.op, eI s.x.la, eI s.x.ln, eI s.x.ra, eI s.x.rn, eI s.x.n, eI s.x.u]
def vStp (s : Stp) : List Value := [.int .i64 s.op, .int .i64 s.a, .int .i64 s.b, .int .i64 s.x.op, .int .i64 s.x.la, .int .i64 s.x.ln, .int .i64 s.x.ra, .int .i64 s.x.rn, .int .i64 s.x.n, .int .i64 s.x.u]
def kStp (s : Stp) : Value := .agg (vStp s).toArray
theorem kStp_inj {s t : Stp} (h : kStp s = kStp t) : s = t := by
  obtain ⟨a, b, c, x⟩ := s
  obtain ⟨a', b', c', x'⟩ := t
  obtain ⟨x1, x2, x3, x4, x5, x6, x7⟩ := x
  obtain ⟨y1, y2, y3, y4, y5, y6, y7⟩ := x'
  simp [kStp, vStp] at h
  simp [h]
structure MapOK (ents : List (Value × Value)) (l : List Stp) : Prop where
  of : ∀ e ∈ ents, ∃ (n : Nat) (s : Stp), l[n]? = some s ∧ e = (kStp s, .int .i64 (n : Int))
  all : ∀ (n : Nat) (s : Stp), l[n]? = some s → (kStp s, Value.int .i64 (n : Int)) ∈ ents
theorem mapOK_nil : MapOK [] [] := ⟨fun e he => (by cases he), fun n s h => (by simp at h)⟩
theorem mapOK_has {ents : List (Value × Value)} {l : List Stp} {s : Stp} {r : Option Value} (h : MapOK ents l) (hn : l.Nodup) (hr : MapHas ents (kStp s) r) : (s ∈ l ∧ r = some (.int .i64 (l.idxOf s : Int))) ∨ (s ∉ l ∧ r = none) := by
  cases r with
  | some v =>
    left
    obtain ⟨n, t, h1, h2⟩ := h.of _ hr
    simp only [Prod.mk.injEq] at h2
    have := kStp_inj h2.1
    subst this
    have hlt := (List.getElem?_eq_some_iff.1 h1).1
    have hm := List.mem_of_getElem? h1
    refine ⟨hm, ?_⟩
    rw [h2.2]
    have h3 : l[l.idxOf s]? = some s := by
      rw [List.getElem?_eq_getElem (List.idxOf_lt_length_of_mem hm), List.getElem_idxOf]
    have h4 := (List.getElem?_inj hlt hn).1 (h1.trans h3.symm)
    rw [← h4]
  | none =>
    right
    refine ⟨fun hm => ?_, rfl⟩
    obtain ⟨n, hn'⟩ := List.getElem?_of_mem hm
    exact hr _ (h.all n s hn') rfl
theorem mapOK_put {ents ents' : List (Value × Value)} {l : List Stp} {s : Stp} (h : MapOK ents l) (hs : s ∉ l) (hp : MapPut ents (kStp s) (.int .i64 (l.length : Int)) ents') : MapOK ents' (l ++ [s]) := by
  rcases hp with ⟨j, o, h1, _⟩ | ⟨h1, rfl⟩
  · obtain ⟨n, t, h2, h3⟩ := h.of _ (List.mem_of_getElem? h1)
    simp only [Prod.mk.injEq] at h3
    have := kStp_inj h3.1
    subst this
    exact absurd (List.mem_of_getElem? h2) hs
  · refine ⟨fun e he => ?_, fun n t hn => ?_⟩
    · rcases List.mem_append.1 he with he | he
      · obtain ⟨n, t, h2, h3⟩ := h.of e he
        exact ⟨n, t, by rw [List.getElem?_append_left (List.getElem?_eq_some_iff.1 h2).1]; exact h2, h3⟩
      · simp at he
        exact ⟨l.length, s, by simp, he⟩
    · by_cases h3 : n < l.length
      · rw [List.getElem?_append_left h3] at hn
        exact List.mem_append_left _ (h.all n t hn)
      · have h4 := (List.getElem?_eq_some_iff.1 hn).1
        simp at h4
        have h5 : n = l.length := by omega
        subst h5
        simp at hn
        subst hn
        exact List.mem_append_right _ (by simp)
def Stp.ok (s : Stp) : Prop := ok64 s.op ∧ ok64 s.a ∧ ok64 s.b ∧ s.x.ok
end
section
open Go.RowKit

theorem keyed_stp : Maps.Keyed Tryz.prog 71 := Maps.Keyed.of_law (deep_law (m := 4) (by omega) (by kernel_rfl) (by kernel_rfl) (by kernel_rfl))
theorem wf64 {n : Int} (h : ok64 n) : (Lit.int .i64 n).wf = true := by
  unfold ok64 at h
  have h1 : IntKind.min .i64 = -9223372036854775808 := by rfl
  have h2 : IntKind.max .i64 = 9223372036854775807 := by rfl
  simp [Lit.wf, h1, h2]
  omega
theorem kl_int (d : Nat) {n : Int} (h : ok64 n) : Tryz.prog.keyLits (d + 1) 3 [.int .i64 n] = some [.int .i64 n] := by
  have hu : Tryz.prog.underlying 3 = some (.int .i64) := by kernel_rfl
  simp [Program.keyLits, hu, wf64 h]
theorem kl_struct {P : Program} {d t : Nat} {cs : List Value} {fs : Array Field} (hu : P.underlying t = some (.struct fs)) (hl : cs.length = P.cellsOf t) (ha : fs.all (fun f => f.name != "_") = true) :
    P.keyLits (d + 1) t cs = (fs.toList.mapM fun f => P.keyLits d f.type ((cs.drop f.offset).take (P.cellsOf f.type))).map List.flatten := by
  simp only [Program.keyLits, hu]
  rw [if_pos ⟨hl, ha⟩]
theorem kl_int2 (d : Nat) {n : Int} (h : ok64 n) : Tryz.prog.keyLits (d + 1) 2 [.int .i64 n] = some [.int .i64 n] := by
  have hu : Tryz.prog.underlying 2 = some (.int .i64) := by kernel_rfl
  simp [Program.keyLits, hu, wf64 h]
theorem kl_term (d : Nat) {a b : Int} (ha : ok64 a) (hb : ok64 b) : Tryz.prog.keyLits (d + 2) 44 [.int .i64 a, .int .i64 b] = some [.int .i64 a, .int .i64 b] := by
  have hi : Tryz.prog.cellsOf 3 = 1 := by kernel_rfl
  have hi2 : Tryz.prog.cellsOf 2 = 1 := by kernel_rfl
  have hc : Tryz.prog.cellsOf 44 = 2 := by kernel_rfl
  rw [kl_struct Tryz.underlying44 (by rw [hc]; rfl) (by kernel_rfl)]
  simp [hi, hi2, kl_int d ha, kl_int2 d hb]
theorem kl_inst (d : Nat) {x : Inst} (h : x.ok) : Tryz.prog.keyLits (d + 3) 46 [.int .i64 x.op, .int .i64 x.la, .int .i64 x.ln, .int .i64 x.ra, .int .i64 x.rn, .int .i64 x.n, .int .i64 x.u] = some [.int .i64 x.op, .int .i64 x.la, .int .i64 x.ln, .int .i64 x.ra, .int .i64 x.rn, .int .i64 x.n, .int .i64 x.u] := by
  have hc : Tryz.prog.cellsOf 46 = 7 := by kernel_rfl
  have hc2 : Tryz.prog.cellsOf 44 = 2 := by kernel_rfl
  have hi : Tryz.prog.cellsOf 3 = 1 := by kernel_rfl
  obtain ⟨g1, g2, g3, g4, g5, g6, g7⟩ := h
  rw [kl_struct Tryz.underlying46 (by rw [hc]; rfl) (by kernel_rfl)]
  simp [hi, hc2, kl_int (d + 1) g1, kl_term d g2 g3, kl_term d g4 g5, kl_int (d + 1) g6, kl_int (d + 1) g7]
theorem kl_stp (d : Nat) {s : Stp} (h : s.ok) : Tryz.prog.keyLits (d + 4) 71 (vStp s) = some [.int .i64 s.op, .int .i64 s.a, .int .i64 s.b, .int .i64 s.x.op, .int .i64 s.x.la, .int .i64 s.x.ln, .int .i64 s.x.ra, .int .i64 s.x.rn, .int .i64 s.x.n, .int .i64 s.x.u] := by
  have hc : Tryz.prog.cellsOf 71 = 10 := by kernel_rfl
  have hc7 : Tryz.prog.cellsOf 46 = 7 := by kernel_rfl
  have hi : Tryz.prog.cellsOf 3 = 1 := by kernel_rfl
  obtain ⟨g1, g2, g3, g4⟩ := h
  have k := kl_inst d g4
  rw [kl_struct Tryz.underlying71 (by rw [hc]; rfl) (by kernel_rfl)]
  simp [hi, hc7, kl_int (d + 2) g1, kl_int (d + 2) g2, kl_int (d + 2) g3, vStp, k]
theorem stp_fit {s : Stp} (h : s.ok) : KeyFit Tryz.prog 71 (kStp s) := by
  have hu := Tryz.underlying71
  have h1 : Tryz.prog.keyType 71 = true := by kernel_rfl
  have hc : Tryz.prog.cellsOf 71 = 10 := by kernel_rfl
  obtain ⟨d, hd⟩ : ∃ d, Tryz.prog.types.size + 1 = d + 4 := ⟨Tryz.prog.types.size - 3, by kernel_rfl⟩
  have h2 : (kStp s).formed Tryz.prog 71 = true := by simp [kStp, Value.formed, hu, hc, vStp]
  have h3 : (kStp s).cells.toList = vStp s := rfl
  unfold KeyFit keyOf
  rw [hu]
  simp only [h1, h2, Bool.and_true, if_true, h3, hd, kl_stp d h]
  exact ⟨_, rfl⟩
end
section
open Go.RowKit

abbrev oMk : List AV := [.osl 1, .osl 2, .osl 3]
abbrev oL (l : List Stp) : AObj := .row 71 10 (l.map eStp)
abbrev oR (r : List Int) : AObj := .row 3 1 (r.map fun x => [eI x])
abbrev objsM (l : List Stp) (ents : List (Value × Value)) (r : List Int) : List AObj := [oL l, .map ents, oR r]
def MkPost (l' : List Stp) (r' : List Int) (v : Int) (av : AV) (cells' : List AV) (objs' : List AObj) : Prop := av = eI v ∧ cells' = oMk ∧ ∃ ents', MapOK ents' l' ∧ objs' = objsM l' ents' r'
/-- a method of maker's: which steps, and which row, and which number, it gives -/
def AMk (P : Program) (f : FuncId) (rest : List AV) (l : List Stp) (r : List Int) (l' : List Stp) (r' : List Int) (v : Int) : Prop :=
  ∀ ents, MapOK ents l → AMth P f 85 oMk (objsM l ents r) rest (MkPost l' r' v)
set_option maxRecDepth 100000 in
set_option maxHeartbeats 4000000 in
theorem make_M (s : Stp) (l : List Stp) (r : List Int) (hs : s.ok) (hl : StepsOk l) (hm : MayS l s) (hall : ∀ t ∈ l, t.ok) (hlen : l.length ≤ 100000) : AMk Tryz.prog 32 [.agg (eStp s)] l r (mkF l s).1 r (mkF l s).2 := by
  intro ents hme
  refine amth_of_code mixedT Tryz.func32 rfl (by decide) Tryz.ntmps32 Tryz.results32 rfl (by kernel_rfl) (by simp [AV.ltL, AV.lt]) (by simp [plainO]) ?_
  have n0 : (0 : Int) ≤ s.a := hm.1.1
  by_cases h : s.op = 15 ∧ (atS l s.a).op = 15
  · obtain ⟨h15, h16⟩ := h
    have e15 : (s.op == 15) = true := by simp [h15]
    have e16 : ((atS l s.a).op == 15) = true := by simp [h16]
    have na := hm.2.2.1 (by omega)
    have na2 : s.a.toNat < l.length := by omega
    have hrow : (List.map eStp l)[s.a.toNat]?.getD [] = eStp (atS l s.a) := by
      have := atS_eq n0 na
      rw [List.getElem?_map, this]
      rfl
    have hF : mkF l s = (l, (atS l s.a).a) := by rw [mkF, if_pos ⟨h15, h16⟩]
    rw [hF]
    (repeat' (first | simp (maxSteps := 5000000) (implicitDefEqProofs := false) only [ruA, ruB, aEv, aTake, aLoad, aField, aIndex, aLen, aBin, bin2, aUn, un1, aExtract, aConv, ASt.get, aget, ASt.put, aStore, aBox, aAppend, aBuildSlice, aMake, aBuild, aFill, oneParts, allC, aBinS, yv, aCells, oneC, oneCL, treeC, treeL, treeML, treeM_c, treeM_sl, treeM_rp, treeM_any, treeM_fn, treeM_bfn, aLit, aDst, aSrc, appTab, Value.cells, Value.oneCell', envOf, aResL, aOne, ↓reduceIte, reduceCtorEq, forall_const, Nat.reduceLT, Nat.reduceEqDiff, Nat.reduceAdd, Nat.reduceMul, Nat.reduceSub, Nat.reduceLeDiff, Nat.reduceBEq, eq_self, implies_true, ne_eq, dref, dref1, dref2, aExecS, aStoreB, aTakes, aTakeE, aElder, aFrom, aFresh, isLoad, aBuildSlice1, frzs, frz1, ownIds, AV.frz, AV.frzL, frzEnv, AV.shift, AV.shiftL, aFieldV, aSliceW, aSliceO, aSlice, aSliceR, aSliceS, aBd, aMax, frzAVs, frzAV, frzTab, AObj.frz, aMM, aNilS, aMay, aNil, aLenM, aClear, aLookup, aLookG, aMapUpd, aMapPut, keyV, aLookR, false_or, aExecU, tyF_71_0, tyA_3, tyS_3, tyK_3, tyF_85_0, tyA_61, tyS_61, tyF_71_1, tyE_61, tyF_85_1, tyA_83, tyS_83, tyA_71, tyS_71, tyN_83, tyZ_3, tyK_61, tyR_61, tabN, n0, e15] | (with_reducible refine aIf_split (fun _ => ?_) (fun _ => ?_)) | (with_reducible refine aSel_split (fun _ => ?_) (fun _ => ?_)) | (with_reducible refine aGd_split (fun _ => ?_) (fun _ => ?_))))
    refine aDraw_quiet (by kernel_rfl) ?_
    (repeat' (first | simp (maxSteps := 5000000) (implicitDefEqProofs := false) only [ruA, ruB, aEv, aTake, aLoad, aField, aIndex, aLen, aBin, bin2, aUn, un1, aExtract, aConv, ASt.get, aget, ASt.put, aStore, aBox, aAppend, aBuildSlice, aMake, aBuild, aFill, oneParts, allC, aBinS, yv, aCells, oneC, oneCL, treeC, treeL, treeML, treeM_c, treeM_sl, treeM_rp, treeM_any, treeM_fn, treeM_bfn, aLit, aDst, aSrc, appTab, Value.cells, Value.oneCell', envOf, aResL, aOne, ↓reduceIte, reduceCtorEq, forall_const, Nat.reduceLT, Nat.reduceEqDiff, Nat.reduceAdd, Nat.reduceMul, Nat.reduceSub, Nat.reduceLeDiff, Nat.reduceBEq, eq_self, implies_true, ne_eq, dref, dref1, dref2, aExecS, aStoreB, aTakes, aTakeE, aElder, aFrom, aFresh, isLoad, aBuildSlice1, frzs, frz1, ownIds, AV.frz, AV.frzL, frzEnv, AV.shift, AV.shiftL, aFieldV, aSliceW, aSliceO, aSlice, aSliceR, aSliceS, aBd, aMax, frzAVs, frzAV, frzTab, AObj.frz, aMM, aNilS, aMay, aNil, aLenM, aClear, aLookup, aLookG, aMapUpd, aMapPut, keyV, aLookR, false_or, aExecU, tyF_71_0, tyA_3, tyS_3, tyK_3, tyF_85_0, tyA_61, tyS_61, tyF_71_1, tyE_61, tyF_85_1, tyA_83, tyS_83, tyA_71, tyS_71, tyN_83, tyZ_3, tyK_61, tyR_61, tabN, n0, e15, e16, na, na2, hrow] | (with_reducible refine aIf_split (fun _ => ?_) (fun _ => ?_)) | (with_reducible refine aSel_split (fun _ => ?_) (fun _ => ?_)) | (with_reducible refine aGd_split (fun _ => ?_) (fun _ => ?_))))
    refine aDraw_quiet (by kernel_rfl) ?_
    (repeat' (first | simp (maxSteps := 5000000) (implicitDefEqProofs := false) only [ruA, ruB, aEv, aTake, aLoad, aField, aIndex, aLen, aBin, bin2, aUn, un1, aExtract, aConv, ASt.get, aget, ASt.put, aStore, aBox, aAppend, aBuildSlice, aMake, aBuild, aFill, oneParts, allC, aBinS, yv, aCells, oneC, oneCL, treeC, treeL, treeML, treeM_c, treeM_sl, treeM_rp, treeM_any, treeM_fn, treeM_bfn, aLit, aDst, aSrc, appTab, Value.cells, Value.oneCell', envOf, aResL, aOne, ↓reduceIte, reduceCtorEq, forall_const, Nat.reduceLT, Nat.reduceEqDiff, Nat.reduceAdd, Nat.reduceMul, Nat.reduceSub, Nat.reduceLeDiff, Nat.reduceBEq, eq_self, implies_true, ne_eq, dref, dref1, dref2, aExecS, aStoreB, aTakes, aTakeE, aElder, aFrom, aFresh, isLoad, aBuildSlice1, frzs, frz1, ownIds, AV.frz, AV.frzL, frzEnv, AV.shift, AV.shiftL, aFieldV, aSliceW, aSliceO, aSlice, aSliceR, aSliceS, aBd, aMax, frzAVs, frzAV, frzTab, AObj.frz, aMM, aNilS, aMay, aNil, aLenM, aClear, aLookup, aLookG, aMapUpd, aMapPut, keyV, aLookR, false_or, aExecU, tyF_71_0, tyA_3, tyS_3, tyK_3, tyF_85_0, tyA_61, tyS_61, tyF_71_1, tyE_61, tyF_85_1, tyA_83, tyS_83, tyA_71, tyS_71, tyN_83, tyZ_3, tyK_61, tyR_61, tabN, n0, e15, e16, na, na2, hrow] | (with_reducible refine aIf_split (fun _ => ?_) (fun _ => ?_)) | (with_reducible refine aSel_split (fun _ => ?_) (fun _ => ?_)) | (with_reducible refine aGd_split (fun _ => ?_) (fun _ => ?_))))
    exact ⟨oMk, objsM l ents r, ⟨rfl, rfl, ents, hme, rfl⟩, trivial, ⟨rfl, by simp [AV.ltL, AV.lt], by simp [plainO]⟩, (weak_ren1 [0, 1, 2, 3] ⟨(by decide), (by (first | ((simp only [envInR, tabInR, envLt, tabLt, AObj.lt, AV.lt, AV.ltL, AV.ren, AV.renL, AObj.ren, List.getD_cons_zero, List.getD_cons_succ, List.length_cons, List.length_nil, ruW, ASt.get, aget, ASt.put, ↓reduceIte, reduceCtorEq, Nat.reduceLT, Nat.reduceEqDiff, Nat.reduceAdd, Nat.reduceLeDiff, eq_self, implies_true, tabN]) <;> (repeat' apply And.intro) <;> first | (rw [wrapK (by omega)]; done) | (simp; done) | omega) | fail))⟩)⟩
  · have hF : mkF l s = if s ∈ l then (l, (l.idxOf s : Int)) else (l ++ [s], (l.length : Int)) := by rw [mkF, if_neg h]
    have key : ((s.op == 15) = true ∧ ((atS l s.a).op == 15) = false ∧ s.a < l.length ∧ s.a.toNat < l.length ∧ (List.map eStp l)[s.a.toNat]?.getD [] = eStp (atS l s.a)) ∨ (s.op == 15) = false := by
      by_cases h15 : s.op = 15
      · left
        have na := hm.2.2.1 (by omega)
        refine ⟨by simp [h15], by simpa using fun e => h ⟨h15, e⟩, na, by omega, ?_⟩
        have := atS_eq n0 na
        rw [List.getElem?_map, this]
        rfl
      · right
        simp [h15]
    rw [hF]
    rcases key with ⟨e15, e16, na, na2, hrow⟩ | e15
    · (repeat' (first | simp (maxSteps := 5000000) (implicitDefEqProofs := false) only [ruA, ruB, aEv, aTake, aLoad, aField, aIndex, aLen, aBin, bin2, aUn, un1, aExtract, aConv, ASt.get, aget, ASt.put, aStore, aBox, aAppend, aBuildSlice, aMake, aBuild, aFill, oneParts, allC, aBinS, yv, aCells, oneC, oneCL, treeC, treeL, treeML, treeM_c, treeM_sl, treeM_rp, treeM_any, treeM_fn, treeM_bfn, aLit, aDst, aSrc, appTab, Value.cells, Value.oneCell', envOf, aResL, aOne, ↓reduceIte, reduceCtorEq, forall_const, Nat.reduceLT, Nat.reduceEqDiff, Nat.reduceAdd, Nat.reduceMul, Nat.reduceSub, Nat.reduceLeDiff, Nat.reduceBEq, eq_self, implies_true, ne_eq, dref, dref1, dref2, aExecS, aStoreB, aTakes, aTakeE, aElder, aFrom, aFresh, isLoad, aBuildSlice1, frzs, frz1, ownIds, AV.frz, AV.frzL, frzEnv, AV.shift, AV.shiftL, aFieldV, aSliceW, aSliceO, aSlice, aSliceR, aSliceS, aBd, aMax, frzAVs, frzAV, frzTab, AObj.frz, aMM, aNilS, aMay, aNil, aLenM, aClear, aLookup, aLookG, aMapUpd, aMapPut, keyV, aLookR, false_or, aExecU, tyF_71_0, tyA_3, tyS_3, tyK_3, tyF_85_0, tyA_61, tyS_61, tyF_71_1, tyE_61, tyF_85_1, tyA_83, tyS_83, tyA_71, tyS_71, tyN_83, tyZ_3, tyK_61, tyR_61, tabN, n0, e15] | (with_reducible refine aIf_split (fun _ => ?_) (fun _ => ?_)) | (with_reducible refine aSel_split (fun _ => ?_) (fun _ => ?_)) | (with_reducible refine aGd_split (fun _ => ?_) (fun _ => ?_))))
      refine aDraw_quiet (by kernel_rfl) ?_
      (repeat' (first | simp (maxSteps := 5000000) (implicitDefEqProofs := false) only [ruA, ruB, aEv, aTake, aLoad, aField, aIndex, aLen, aBin, bin2, aUn, un1, aExtract, aConv, ASt.get, aget, ASt.put, aStore, aBox, aAppend, aBuildSlice, aMake, aBuild, aFill, oneParts, allC, aBinS, yv, aCells, oneC, oneCL, treeC, treeL, treeML, treeM_c, treeM_sl, treeM_rp, treeM_any, treeM_fn, treeM_bfn, aLit, aDst, aSrc, appTab, Value.cells, Value.oneCell', envOf, aResL, aOne, ↓reduceIte, reduceCtorEq, forall_const, Nat.reduceLT, Nat.reduceEqDiff, Nat.reduceAdd, Nat.reduceMul, Nat.reduceSub, Nat.reduceLeDiff, Nat.reduceBEq, eq_self, implies_true, ne_eq, dref, dref1, dref2, aExecS, aStoreB, aTakes, aTakeE, aElder, aFrom, aFresh, isLoad, aBuildSlice1, frzs, frz1, ownIds, AV.frz, AV.frzL, frzEnv, AV.shift, AV.shiftL, aFieldV, aSliceW, aSliceO, aSlice, aSliceR, aSliceS, aBd, aMax, frzAVs, frzAV, frzTab, AObj.frz, aMM, aNilS, aMay, aNil, aLenM, aClear, aLookup, aLookG, aMapUpd, aMapPut, keyV, aLookR, false_or, aExecU, tyF_71_0, tyA_3, tyS_3, tyK_3, tyF_85_0, tyA_61, tyS_61, tyF_71_1, tyE_61, tyF_85_1, tyA_83, tyS_83, tyA_71, tyS_71, tyN_83, tyZ_3, tyK_61, tyR_61, tabN, n0, e15, e16, na, na2, hrow] | (with_reducible refine aIf_split (fun _ => ?_) (fun _ => ?_)) | (with_reducible refine aSel_split (fun _ => ?_) (fun _ => ?_)) | (with_reducible refine aGd_split (fun _ => ?_) (fun _ => ?_))))
      refine aDraw_held [] [0, 1, 2, 3, 4] (.exec 5 (.take 6 (.take 7 (.take 8 (.exec 9 (.exec 10 .done)))))) (by kernel_rfl) (by simp [ATab.get_cons]) ?_
      (repeat' (first | simp (maxSteps := 5000000) (implicitDefEqProofs := false) only [ruA, ruB, aEv, aTake, aLoad, aField, aIndex, aLen, aBin, bin2, aUn, un1, aExtract, aConv, ASt.get, aget, ASt.put, aStore, aBox, aAppend, aBuildSlice, aMake, aBuild, aFill, oneParts, allC, aBinS, yv, aCells, oneC, oneCL, treeC, treeL, treeML, treeM_c, treeM_sl, treeM_rp, treeM_any, treeM_fn, treeM_bfn, aLit, aDst, aSrc, appTab, Value.cells, Value.oneCell', envOf, aResL, aOne, ↓reduceIte, reduceCtorEq, forall_const, Nat.reduceLT, Nat.reduceEqDiff, Nat.reduceAdd, Nat.reduceMul, Nat.reduceSub, Nat.reduceLeDiff, Nat.reduceBEq, eq_self, implies_true, ne_eq, dref, dref1, dref2, aExecS, aStoreB, aTakes, aTakeE, aElder, aFrom, aFresh, isLoad, aBuildSlice1, frzs, frz1, ownIds, AV.frz, AV.frzL, frzEnv, AV.shift, AV.shiftL, aFieldV, aSliceW, aSliceO, aSlice, aSliceR, aSliceS, aBd, aMax, frzAVs, frzAV, frzTab, AObj.frz, aMM, aNilS, aMay, aNil, aLenM, aClear, aLookup, aLookG, aMapUpd, aMapPut, keyV, aLookR, false_or, aExecU, tyF_71_0, tyA_3, tyS_3, tyK_3, tyF_85_0, tyA_61, tyS_61, tyF_71_1, tyE_61, tyF_85_1, tyA_83, tyS_83, tyA_71, tyS_71, tyN_83, tyZ_3, tyK_61, tyR_61] | (with_reducible refine aIf_split (fun _ => ?_) (fun _ => ?_)) | (with_reducible refine aSel_split (fun _ => ?_) (fun _ => ?_)) | (with_reducible refine aGd_split (fun _ => ?_) (fun _ => ?_))))
      refine ⟨⟨keyed_stp, stp_fit hs, fun e he => ?_⟩, fun q hq => ?_⟩
      · obtain ⟨n, t, h1, rfl⟩ := hme.of e he
        exact stp_fit (hall t (List.mem_of_getElem? h1))
      rcases mapOK_has hme hl.nd hq with ⟨hin, rfl⟩ | ⟨hin, rfl⟩
      · rw [if_pos hin]
        (repeat' (first | simp (maxSteps := 5000000) (implicitDefEqProofs := false) only [ruA, ruB, aEv, aTake, aLoad, aField, aIndex, aLen, aBin, bin2, aUn, un1, aExtract, aConv, ASt.get, aget, ASt.put, aStore, aBox, aAppend, aBuildSlice, aMake, aBuild, aFill, oneParts, allC, aBinS, yv, aCells, oneC, oneCL, treeC, treeL, treeML, treeM_c, treeM_sl, treeM_rp, treeM_any, treeM_fn, treeM_bfn, aLit, aDst, aSrc, appTab, Value.cells, Value.oneCell', envOf, aResL, aOne, ↓reduceIte, reduceCtorEq, forall_const, Nat.reduceLT, Nat.reduceEqDiff, Nat.reduceAdd, Nat.reduceMul, Nat.reduceSub, Nat.reduceLeDiff, Nat.reduceBEq, eq_self, implies_true, ne_eq, dref, dref1, dref2, aExecS, aStoreB, aTakes, aTakeE, aElder, aFrom, aFresh, isLoad, aBuildSlice1, frzs, frz1, ownIds, AV.frz, AV.frzL, frzEnv, AV.shift, AV.shiftL, aFieldV, aSliceW, aSliceO, aSlice, aSliceR, aSliceS, aBd, aMax, frzAVs, frzAV, frzTab, AObj.frz, aMM, aNilS, aMay, aNil, aLenM, aClear, aLookup, aLookG, aMapUpd, aMapPut, keyV, aLookR, false_or, aExecU, tyF_71_0, tyA_3, tyS_3, tyK_3, tyF_85_0, tyA_61, tyS_61, tyF_71_1, tyE_61, tyF_85_1, tyA_83, tyS_83, tyA_71, tyS_71, tyN_83, tyZ_3, tyK_61, tyR_61] | (with_reducible refine aIf_split (fun _ => ?_) (fun _ => ?_)) | (with_reducible refine aSel_split (fun _ => ?_) (fun _ => ?_)) | (with_reducible refine aGd_split (fun _ => ?_) (fun _ => ?_))))
        exact ⟨oMk, objsM l ents r, ⟨rfl, rfl, ents, hme, rfl⟩, trivial, ⟨rfl, by simp [AV.ltL, AV.lt], by simp [plainO]⟩, (weak_ren1 [0, 1, 2, 3] ⟨(by decide), (by (first | ((simp only [envInR, tabInR, envLt, tabLt, AObj.lt, AV.lt, AV.ltL, AV.ren, AV.renL, AObj.ren, List.getD_cons_zero, List.getD_cons_succ, List.length_cons, List.length_nil, ruW, ASt.get, aget, ASt.put, ↓reduceIte, reduceCtorEq, Nat.reduceLT, Nat.reduceEqDiff, Nat.reduceAdd, Nat.reduceLeDiff, eq_self, implies_true, tabN]) <;> (repeat' apply And.intro) <;> first | (rw [wrapK (by omega)]; done) | (simp; done) | omega) | fail))⟩)⟩
      · rw [if_neg hin]
        (repeat' (first | simp (maxSteps := 5000000) (implicitDefEqProofs := false) only [ruA, ruB, aEv, aTake, aLoad, aField, aIndex, aLen, aBin, bin2, aUn, un1, aExtract, aConv, ASt.get, aget, ASt.put, aStore, aBox, aAppend, aBuildSlice, aMake, aBuild, aFill, oneParts, allC, aBinS, yv, aCells, oneC, oneCL, treeC, treeL, treeML, treeM_c, treeM_sl, treeM_rp, treeM_any, treeM_fn, treeM_bfn, aLit, aDst, aSrc, appTab, Value.cells, Value.oneCell', envOf, aResL, aOne, ↓reduceIte, reduceCtorEq, forall_const, Nat.reduceLT, Nat.reduceEqDiff, Nat.reduceAdd, Nat.reduceMul, Nat.reduceSub, Nat.reduceLeDiff, Nat.reduceBEq, eq_self, implies_true, ne_eq, dref, dref1, dref2, aExecS, aStoreB, aTakes, aTakeE, aElder, aFrom, aFresh, isLoad, aBuildSlice1, frzs, frz1, ownIds, AV.frz, AV.frzL, frzEnv, AV.shift, AV.shiftL, aFieldV, aSliceW, aSliceO, aSlice, aSliceR, aSliceS, aBd, aMax, frzAVs, frzAV, frzTab, AObj.frz, aMM, aNilS, aMay, aNil, aLenM, aClear, aLookup, aLookG, aMapUpd, aMapPut, keyV, aLookR, false_or, aExecU, tyF_71_0, tyA_3, tyS_3, tyK_3, tyF_85_0, tyA_61, tyS_61, tyF_71_1, tyE_61, tyF_85_1, tyA_83, tyS_83, tyA_71, tyS_71, tyN_83, tyZ_3, tyK_61, tyR_61] | (with_reducible refine aIf_split (fun _ => ?_) (fun _ => ?_)) | (with_reducible refine aSel_split (fun _ => ?_) (fun _ => ?_)) | (with_reducible refine aGd_split (fun _ => ?_) (fun _ => ?_))))
        refine aDraw_held [0, 1] [0, 1, 2, 3, 5] (.two 4 (.exec 6 (.exec 7 (.take 8 (.take 9 (.exec 10 .done))))) 6 (.exec 4 (.exec 7 (.take 8 (.take 9 (.exec 10 .done)))))) (by kernel_rfl) (by simp [ATab.get_cons]) ?_
        (repeat' (first | simp (maxSteps := 5000000) (implicitDefEqProofs := false) only [ruA, ruB, aEv, aTake, aLoad, aField, aIndex, aLen, aBin, bin2, aUn, un1, aExtract, aConv, ASt.get, aget, ASt.put, aStore, aBox, aAppend, aBuildSlice, aMake, aBuild, aFill, oneParts, allC, aBinS, yv, aCells, oneC, oneCL, treeC, treeL, treeML, treeM_c, treeM_sl, treeM_rp, treeM_any, treeM_fn, treeM_bfn, aLit, aDst, aSrc, appTab, Value.cells, Value.oneCell', envOf, aResL, aOne, ↓reduceIte, reduceCtorEq, forall_const, Nat.reduceLT, Nat.reduceEqDiff, Nat.reduceAdd, Nat.reduceMul, Nat.reduceSub, Nat.reduceLeDiff, Nat.reduceBEq, eq_self, implies_true, ne_eq, dref, dref1, dref2, aExecS, aStoreB, aTakes, aTakeE, aElder, aFrom, aFresh, isLoad, aBuildSlice1, frzs, frz1, ownIds, AV.frz, AV.frzL, frzEnv, AV.shift, AV.shiftL, aFieldV, aSliceW, aSliceO, aSlice, aSliceR, aSliceS, aBd, aMax, frzAVs, frzAV, frzTab, AObj.frz, aMM, aNilS, aMay, aNil, aLenM, aClear, aLookup, aLookG, aMapUpd, aMapPut, keyV, aLookR, false_or, aExecU, tyF_71_0, tyA_3, tyS_3, tyK_3, tyF_85_0, tyA_61, tyS_61, tyF_71_1, tyE_61, tyF_85_1, tyA_83, tyS_83, tyA_71, tyS_71, tyN_83, tyZ_3, tyK_61, tyR_61] | (with_reducible refine aIf_split (fun _ => ?_) (fun _ => ?_)) | (with_reducible refine aSel_split (fun _ => ?_) (fun _ => ?_)) | (with_reducible refine aGd_split (fun _ => ?_) (fun _ => ?_))))
        refine ⟨⟨rfl, ⟨by omega, by omega⟩, ?_⟩, rfl, ⟨by omega, by omega⟩, ?_⟩
        all_goals
          refine aDraw_held [2] [0, 1, 2, 3, 4, 5] (.exec 6 .done) (by kernel_rfl) (by simp [ATab.get_cons]) ?_
          (repeat' (first | simp (maxSteps := 5000000) (implicitDefEqProofs := false) only [ruA, ruB, aEv, aTake, aLoad, aField, aIndex, aLen, aBin, bin2, aUn, un1, aExtract, aConv, ASt.get, aget, ASt.put, aStore, aBox, aAppend, aBuildSlice, aMake, aBuild, aFill, oneParts, allC, aBinS, yv, aCells, oneC, oneCL, treeC, treeL, treeML, treeM_c, treeM_sl, treeM_rp, treeM_any, treeM_fn, treeM_bfn, aLit, aDst, aSrc, appTab, Value.cells, Value.oneCell', envOf, aResL, aOne, ↓reduceIte, reduceCtorEq, forall_const, Nat.reduceLT, Nat.reduceEqDiff, Nat.reduceAdd, Nat.reduceMul, Nat.reduceSub, Nat.reduceLeDiff, Nat.reduceBEq, eq_self, implies_true, ne_eq, dref, dref1, dref2, aExecS, aStoreB, aTakes, aTakeE, aElder, aFrom, aFresh, isLoad, aBuildSlice1, frzs, frz1, ownIds, AV.frz, AV.frzL, frzEnv, AV.shift, AV.shiftL, aFieldV, aSliceW, aSliceO, aSlice, aSliceR, aSliceS, aBd, aMax, frzAVs, frzAV, frzTab, AObj.frz, aMM, aNilS, aMay, aNil, aLenM, aClear, aLookup, aLookG, aMapUpd, aMapPut, keyV, aLookR, false_or, aExecU, tyF_71_0, tyA_3, tyS_3, tyK_3, tyF_85_0, tyA_61, tyS_61, tyF_71_1, tyE_61, tyF_85_1, tyA_83, tyS_83, tyA_71, tyS_71, tyN_83, tyZ_3, tyK_61, tyR_61] | (with_reducible refine aIf_split (fun _ => ?_) (fun _ => ?_)) | (with_reducible refine aSel_split (fun _ => ?_) (fun _ => ?_)) | (with_reducible refine aGd_split (fun _ => ?_) (fun _ => ?_))))
          refine ⟨⟨keyed_stp, stp_fit hs, fun e he => ?_⟩, fun ents' hp => ?_⟩
          · obtain ⟨n, t, h1, rfl⟩ := hme.of e he
            exact stp_fit (hall t (List.mem_of_getElem? h1))
          (repeat' (first | simp (maxSteps := 5000000) (implicitDefEqProofs := false) only [ruA, ruB, aEv, aTake, aLoad, aField, aIndex, aLen, aBin, bin2, aUn, un1, aExtract, aConv, ASt.get, aget, ASt.put, aStore, aBox, aAppend, aBuildSlice, aMake, aBuild, aFill, oneParts, allC, aBinS, yv, aCells, oneC, oneCL, treeC, treeL, treeML, treeM_c, treeM_sl, treeM_rp, treeM_any, treeM_fn, treeM_bfn, aLit, aDst, aSrc, appTab, Value.cells, Value.oneCell', envOf, aResL, aOne, ↓reduceIte, reduceCtorEq, forall_const, Nat.reduceLT, Nat.reduceEqDiff, Nat.reduceAdd, Nat.reduceMul, Nat.reduceSub, Nat.reduceLeDiff, Nat.reduceBEq, eq_self, implies_true, ne_eq, dref, dref1, dref2, aExecS, aStoreB, aTakes, aTakeE, aElder, aFrom, aFresh, isLoad, aBuildSlice1, frzs, frz1, ownIds, AV.frz, AV.frzL, frzEnv, AV.shift, AV.shiftL, aFieldV, aSliceW, aSliceO, aSlice, aSliceR, aSliceS, aBd, aMax, frzAVs, frzAV, frzTab, AObj.frz, aMM, aNilS, aMay, aNil, aLenM, aClear, aLookup, aLookG, aMapUpd, aMapPut, keyV, aLookR, false_or, aExecU, tyF_71_0, tyA_3, tyS_3, tyK_3, tyF_85_0, tyA_61, tyS_61, tyF_71_1, tyE_61, tyF_85_1, tyA_83, tyS_83, tyA_71, tyS_71, tyN_83, tyZ_3, tyK_61, tyR_61] | (with_reducible refine aIf_split (fun _ => ?_) (fun _ => ?_)) | (with_reducible refine aSel_split (fun _ => ?_) (fun _ => ?_)) | (with_reducible refine aGd_split (fun _ => ?_) (fun _ => ?_))))
          exact ⟨oMk, objsM (l ++ [s]) ents' r, ⟨rfl, rfl, ents', mapOK_put hme hin hp, rfl⟩, trivial, ⟨rfl, by simp [AV.ltL, AV.lt], by simp [plainO]⟩, (weak_ren1 [0, 6, 2, 3] ⟨(by decide), (by (first | ((simp only [envInR, tabInR, envLt, tabLt, AObj.lt, AV.lt, AV.ltL, AV.ren, AV.renL, AObj.ren, List.getD_cons_zero, List.getD_cons_succ, List.length_cons, List.length_nil, ruW, ASt.get, aget, ASt.put, ↓reduceIte, reduceCtorEq, Nat.reduceLT, Nat.reduceEqDiff, Nat.reduceAdd, Nat.reduceLeDiff, eq_self, implies_true, tabN]) <;> (repeat' apply And.intro) <;> first | (rw [wrapK (by omega)]; done) | (simp; done) | omega) | fail))⟩)⟩
    · (repeat' (first | simp (maxSteps := 5000000) (implicitDefEqProofs := false) only [ruA, ruB, aEv, aTake, aLoad, aField, aIndex, aLen, aBin, bin2, aUn, un1, aExtract, aConv, ASt.get, aget, ASt.put, aStore, aBox, aAppend, aBuildSlice, aMake, aBuild, aFill, oneParts, allC, aBinS, yv, aCells, oneC, oneCL, treeC, treeL, treeML, treeM_c, treeM_sl, treeM_rp, treeM_any, treeM_fn, treeM_bfn, aLit, aDst, aSrc, appTab, Value.cells, Value.oneCell', envOf, aResL, aOne, ↓reduceIte, reduceCtorEq, forall_const, Nat.reduceLT, Nat.reduceEqDiff, Nat.reduceAdd, Nat.reduceMul, Nat.reduceSub, Nat.reduceLeDiff, Nat.reduceBEq, eq_self, implies_true, ne_eq, dref, dref1, dref2, aExecS, aStoreB, aTakes, aTakeE, aElder, aFrom, aFresh, isLoad, aBuildSlice1, frzs, frz1, ownIds, AV.frz, AV.frzL, frzEnv, AV.shift, AV.shiftL, aFieldV, aSliceW, aSliceO, aSlice, aSliceR, aSliceS, aBd, aMax, frzAVs, frzAV, frzTab, AObj.frz, aMM, aNilS, aMay, aNil, aLenM, aClear, aLookup, aLookG, aMapUpd, aMapPut, keyV, aLookR, false_or, aExecU, tyF_71_0, tyA_3, tyS_3, tyK_3, tyF_85_0, tyA_61, tyS_61, tyF_71_1, tyE_61, tyF_85_1, tyA_83, tyS_83, tyA_71, tyS_71, tyN_83, tyZ_3, tyK_61, tyR_61, tabN, n0, e15] | (with_reducible refine aIf_split (fun _ => ?_) (fun _ => ?_)) | (with_reducible refine aSel_split (fun _ => ?_) (fun _ => ?_)) | (with_reducible refine aGd_split (fun _ => ?_) (fun _ => ?_))))
      refine aDraw_quiet (by kernel_rfl) ?_
      (repeat' (first | simp (maxSteps := 5000000) (implicitDefEqProofs := false) only [ruA, ruB, aEv, aTake, aLoad, aField, aIndex, aLen, aBin, bin2, aUn, un1, aExtract, aConv, ASt.get, aget, ASt.put, aStore, aBox, aAppend, aBuildSlice, aMake, aBuild, aFill, oneParts, allC, aBinS, yv, aCells, oneC, oneCL, treeC, treeL, treeML, treeM_c, treeM_sl, treeM_rp, treeM_any, treeM_fn, treeM_bfn, aLit, aDst, aSrc, appTab, Value.cells, Value.oneCell', envOf, aResL, aOne, ↓reduceIte, reduceCtorEq, forall_const, Nat.reduceLT, Nat.reduceEqDiff, Nat.reduceAdd, Nat.reduceMul, Nat.reduceSub, Nat.reduceLeDiff, Nat.reduceBEq, eq_self, implies_true, ne_eq, dref, dref1, dref2, aExecS, aStoreB, aTakes, aTakeE, aElder, aFrom, aFresh, isLoad, aBuildSlice1, frzs, frz1, ownIds, AV.frz, AV.frzL, frzEnv, AV.shift, AV.shiftL, aFieldV, aSliceW, aSliceO, aSlice, aSliceR, aSliceS, aBd, aMax, frzAVs, frzAV, frzTab, AObj.frz, aMM, aNilS, aMay, aNil, aLenM, aClear, aLookup, aLookG, aMapUpd, aMapPut, keyV, aLookR, false_or, aExecU, tyF_71_0, tyA_3, tyS_3, tyK_3, tyF_85_0, tyA_61, tyS_61, tyF_71_1, tyE_61, tyF_85_1, tyA_83, tyS_83, tyA_71, tyS_71, tyN_83, tyZ_3, tyK_61, tyR_61, tabN, n0, e15] | (with_reducible refine aIf_split (fun _ => ?_) (fun _ => ?_)) | (with_reducible refine aSel_split (fun _ => ?_) (fun _ => ?_)) | (with_reducible refine aGd_split (fun _ => ?_) (fun _ => ?_))))
      refine aDraw_held [] [0, 1, 2, 3, 4] (.exec 5 (.take 6 (.take 7 (.take 8 (.exec 9 (.exec 10 .done)))))) (by kernel_rfl) (by simp [ATab.get_cons]) ?_
      (repeat' (first | simp (maxSteps := 5000000) (implicitDefEqProofs := false) only [ruA, ruB, aEv, aTake, aLoad, aField, aIndex, aLen, aBin, bin2, aUn, un1, aExtract, aConv, ASt.get, aget, ASt.put, aStore, aBox, aAppend, aBuildSlice, aMake, aBuild, aFill, oneParts, allC, aBinS, yv, aCells, oneC, oneCL, treeC, treeL, treeML, treeM_c, treeM_sl, treeM_rp, treeM_any, treeM_fn, treeM_bfn, aLit, aDst, aSrc, appTab, Value.cells, Value.oneCell', envOf, aResL, aOne, ↓reduceIte, reduceCtorEq, forall_const, Nat.reduceLT, Nat.reduceEqDiff, Nat.reduceAdd, Nat.reduceMul, Nat.reduceSub, Nat.reduceLeDiff, Nat.reduceBEq, eq_self, implies_true, ne_eq, dref, dref1, dref2, aExecS, aStoreB, aTakes, aTakeE, aElder, aFrom, aFresh, isLoad, aBuildSlice1, frzs, frz1, ownIds, AV.frz, AV.frzL, frzEnv, AV.shift, AV.shiftL, aFieldV, aSliceW, aSliceO, aSlice, aSliceR, aSliceS, aBd, aMax, frzAVs, frzAV, frzTab, AObj.frz, aMM, aNilS, aMay, aNil, aLenM, aClear, aLookup, aLookG, aMapUpd, aMapPut, keyV, aLookR, false_or, aExecU, tyF_71_0, tyA_3, tyS_3, tyK_3, tyF_85_0, tyA_61, tyS_61, tyF_71_1, tyE_61, tyF_85_1, tyA_83, tyS_83, tyA_71, tyS_71, tyN_83, tyZ_3, tyK_61, tyR_61] | (with_reducible refine aIf_split (fun _ => ?_) (fun _ => ?_)) | (with_reducible refine aSel_split (fun _ => ?_) (fun _ => ?_)) | (with_reducible refine aGd_split (fun _ => ?_) (fun _ => ?_))))
      refine ⟨⟨keyed_stp, stp_fit hs, fun e he => ?_⟩, fun q hq => ?_⟩
      · obtain ⟨n, t, h1, rfl⟩ := hme.of e he
        exact stp_fit (hall t (List.mem_of_getElem? h1))
      rcases mapOK_has hme hl.nd hq with ⟨hin, rfl⟩ | ⟨hin, rfl⟩
      · rw [if_pos hin]
        (repeat' (first | simp (maxSteps := 5000000) (implicitDefEqProofs := false) only [ruA, ruB, aEv, aTake, aLoad, aField, aIndex, aLen, aBin, bin2, aUn, un1, aExtract, aConv, ASt.get, aget, ASt.put, aStore, aBox, aAppend, aBuildSlice, aMake, aBuild, aFill, oneParts, allC, aBinS, yv, aCells, oneC, oneCL, treeC, treeL, treeML, treeM_c, treeM_sl, treeM_rp, treeM_any, treeM_fn, treeM_bfn, aLit, aDst, aSrc, appTab, Value.cells, Value.oneCell', envOf, aResL, aOne, ↓reduceIte, reduceCtorEq, forall_const, Nat.reduceLT, Nat.reduceEqDiff, Nat.reduceAdd, Nat.reduceMul, Nat.reduceSub, Nat.reduceLeDiff, Nat.reduceBEq, eq_self, implies_true, ne_eq, dref, dref1, dref2, aExecS, aStoreB, aTakes, aTakeE, aElder, aFrom, aFresh, isLoad, aBuildSlice1, frzs, frz1, ownIds, AV.frz, AV.frzL, frzEnv, AV.shift, AV.shiftL, aFieldV, aSliceW, aSliceO, aSlice, aSliceR, aSliceS, aBd, aMax, frzAVs, frzAV, frzTab, AObj.frz, aMM, aNilS, aMay, aNil, aLenM, aClear, aLookup, aLookG, aMapUpd, aMapPut, keyV, aLookR, false_or, aExecU, tyF_71_0, tyA_3, tyS_3, tyK_3, tyF_85_0, tyA_61, tyS_61, tyF_71_1, tyE_61, tyF_85_1, tyA_83, tyS_83, tyA_71, tyS_71, tyN_83, tyZ_3, tyK_61, tyR_61] | (with_reducible refine aIf_split (fun _ => ?_) (fun _ => ?_)) | (with_reducible refine aSel_split (fun _ => ?_) (fun _ => ?_)) | (with_reducible refine aGd_split (fun _ => ?_) (fun _ => ?_))))
        exact ⟨oMk, objsM l ents r, ⟨rfl, rfl, ents, hme, rfl⟩, trivial, ⟨rfl, by simp [AV.ltL, AV.lt], by simp [plainO]⟩, (weak_ren1 [0, 1, 2, 3] ⟨(by decide), (by (first | ((simp only [envInR, tabInR, envLt, tabLt, AObj.lt, AV.lt, AV.ltL, AV.ren, AV.renL, AObj.ren, List.getD_cons_zero, List.getD_cons_succ, List.length_cons, List.length_nil, ruW, ASt.get, aget, ASt.put, ↓reduceIte, reduceCtorEq, Nat.reduceLT, Nat.reduceEqDiff, Nat.reduceAdd, Nat.reduceLeDiff, eq_self, implies_true, tabN]) <;> (repeat' apply And.intro) <;> first | (rw [wrapK (by omega)]; done) | (simp; done) | omega) | fail))⟩)⟩
      · rw [if_neg hin]
        (repeat' (first | simp (maxSteps := 5000000) (implicitDefEqProofs := false) only [ruA, ruB, aEv, aTake, aLoad, aField, aIndex, aLen, aBin, bin2, aUn, un1, aExtract, aConv, ASt.get, aget, ASt.put, aStore, aBox, aAppend, aBuildSlice, aMake, aBuild, aFill, oneParts, allC, aBinS, yv, aCells, oneC, oneCL, treeC, treeL, treeML, treeM_c, treeM_sl, treeM_rp, treeM_any, treeM_fn, treeM_bfn, aLit, aDst, aSrc, appTab, Value.cells, Value.oneCell', envOf, aResL, aOne, ↓reduceIte, reduceCtorEq, forall_const, Nat.reduceLT, Nat.reduceEqDiff, Nat.reduceAdd, Nat.reduceMul, Nat.reduceSub, Nat.reduceLeDiff, Nat.reduceBEq, eq_self, implies_true, ne_eq, dref, dref1, dref2, aExecS, aStoreB, aTakes, aTakeE, aElder, aFrom, aFresh, isLoad, aBuildSlice1, frzs, frz1, ownIds, AV.frz, AV.frzL, frzEnv, AV.shift, AV.shiftL, aFieldV, aSliceW, aSliceO, aSlice, aSliceR, aSliceS, aBd, aMax, frzAVs, frzAV, frzTab, AObj.frz, aMM, aNilS, aMay, aNil, aLenM, aClear, aLookup, aLookG, aMapUpd, aMapPut, keyV, aLookR, false_or, aExecU, tyF_71_0, tyA_3, tyS_3, tyK_3, tyF_85_0, tyA_61, tyS_61, tyF_71_1, tyE_61, tyF_85_1, tyA_83, tyS_83, tyA_71, tyS_71, tyN_83, tyZ_3, tyK_61, tyR_61] | (with_reducible refine aIf_split (fun _ => ?_) (fun _ => ?_)) | (with_reducible refine aSel_split (fun _ => ?_) (fun _ => ?_)) | (with_reducible refine aGd_split (fun _ => ?_) (fun _ => ?_))))
        refine aDraw_held [0, 1] [0, 1, 2, 3, 5] (.two 4 (.exec 6 (.exec 7 (.take 8 (.take 9 (.exec 10 .done))))) 6 (.exec 4 (.exec 7 (.take 8 (.take 9 (.exec 10 .done)))))) (by kernel_rfl) (by simp [ATab.get_cons]) ?_
        (repeat' (first | simp (maxSteps := 5000000) (implicitDefEqProofs := false) only [ruA, ruB, aEv, aTake, aLoad, aField, aIndex, aLen, aBin, bin2, aUn, un1, aExtract, aConv, ASt.get, aget, ASt.put, aStore, aBox, aAppend, aBuildSlice, aMake, aBuild, aFill, oneParts, allC, aBinS, yv, aCells, oneC, oneCL, treeC, treeL, treeML, treeM_c, treeM_sl, treeM_rp, treeM_any, treeM_fn, treeM_bfn, aLit, aDst, aSrc, appTab, Value.cells, Value.oneCell', envOf, aResL, aOne, ↓reduceIte, reduceCtorEq, forall_const, Nat.reduceLT, Nat.reduceEqDiff, Nat.reduceAdd, Nat.reduceMul, Nat.reduceSub, Nat.reduceLeDiff, Nat.reduceBEq, eq_self, implies_true, ne_eq, dref, dref1, dref2, aExecS, aStoreB, aTakes, aTakeE, aElder, aFrom, aFresh, isLoad, aBuildSlice1, frzs, frz1, ownIds, AV.frz, AV.frzL, frzEnv, AV.shift, AV.shiftL, aFieldV, aSliceW, aSliceO, aSlice, aSliceR, aSliceS, aBd, aMax, frzAVs, frzAV, frzTab, AObj.frz, aMM, aNilS, aMay, aNil, aLenM, aClear, aLookup, aLookG, aMapUpd, aMapPut, keyV, aLookR, false_or, aExecU, tyF_71_0, tyA_3, tyS_3, tyK_3, tyF_85_0, tyA_61, tyS_61, tyF_71_1, tyE_61, tyF_85_1, tyA_83, tyS_83, tyA_71, tyS_71, tyN_83, tyZ_3, tyK_61, tyR_61] | (with_reducible refine aIf_split (fun _ => ?_) (fun _ => ?_)) | (with_reducible refine aSel_split (fun _ => ?_) (fun _ => ?_)) | (with_reducible refine aGd_split (fun _ => ?_) (fun _ => ?_))))
        refine ⟨⟨rfl, ⟨by omega, by omega⟩, ?_⟩, rfl, ⟨by omega, by omega⟩, ?_⟩
        all_goals
          refine aDraw_held [2] [0, 1, 2, 3, 4, 5] (.exec 6 .done) (by kernel_rfl) (by simp [ATab.get_cons]) ?_
          (repeat' (first | simp (maxSteps := 5000000) (implicitDefEqProofs := false) only [ruA, ruB, aEv, aTake, aLoad, aField, aIndex, aLen, aBin, bin2, aUn, un1, aExtract, aConv, ASt.get, aget, ASt.put, aStore, aBox, aAppend, aBuildSlice, aMake, aBuild, aFill, oneParts, allC, aBinS, yv, aCells, oneC, oneCL, treeC, treeL, treeML, treeM_c, treeM_sl, treeM_rp, treeM_any, treeM_fn, treeM_bfn, aLit, aDst, aSrc, appTab, Value.cells, Value.oneCell', envOf, aResL, aOne, ↓reduceIte, reduceCtorEq, forall_const, Nat.reduceLT, Nat.reduceEqDiff, Nat.reduceAdd, Nat.reduceMul, Nat.reduceSub, Nat.reduceLeDiff, Nat.reduceBEq, eq_self, implies_true, ne_eq, dref, dref1, dref2, aExecS, aStoreB, aTakes, aTakeE, aElder, aFrom, aFresh, isLoad, aBuildSlice1, frzs, frz1, ownIds, AV.frz, AV.frzL, frzEnv, AV.shift, AV.shiftL, aFieldV, aSliceW, aSliceO, aSlice, aSliceR, aSliceS, aBd, aMax, frzAVs, frzAV, frzTab, AObj.frz, aMM, aNilS, aMay, aNil, aLenM, aClear, aLookup, aLookG, aMapUpd, aMapPut, keyV, aLookR, false_or, aExecU, tyF_71_0, tyA_3, tyS_3, tyK_3, tyF_85_0, tyA_61, tyS_61, tyF_71_1, tyE_61, tyF_85_1, tyA_83, tyS_83, tyA_71, tyS_71, tyN_83, tyZ_3, tyK_61, tyR_61] | (with_reducible refine aIf_split (fun _ => ?_) (fun _ => ?_)) | (with_reducible refine aSel_split (fun _ => ?_) (fun _ => ?_)) | (with_reducible refine aGd_split (fun _ => ?_) (fun _ => ?_))))
          refine ⟨⟨keyed_stp, stp_fit hs, fun e he => ?_⟩, fun ents' hp => ?_⟩
          · obtain ⟨n, t, h1, rfl⟩ := hme.of e he
            exact stp_fit (hall t (List.mem_of_getElem? h1))
          (repeat' (first | simp (maxSteps := 5000000) (implicitDefEqProofs := false) only [ruA, ruB, aEv, aTake, aLoad, aField, aIndex, aLen, aBin, bin2, aUn, un1, aExtract, aConv, ASt.get, aget, ASt.put, aStore, aBox, aAppend, aBuildSlice, aMake, aBuild, aFill, oneParts, allC, aBinS, yv, aCells, oneC, oneCL, treeC, treeL, treeML, treeM_c, treeM_sl, treeM_rp, treeM_any, treeM_fn, treeM_bfn, aLit, aDst, aSrc, appTab, Value.cells, Value.oneCell', envOf, aResL, aOne, ↓reduceIte, reduceCtorEq, forall_const, Nat.reduceLT, Nat.reduceEqDiff, Nat.reduceAdd, Nat.reduceMul, Nat.reduceSub, Nat.reduceLeDiff, Nat.reduceBEq, eq_self, implies_true, ne_eq, dref, dref1, dref2, aExecS, aStoreB, aTakes, aTakeE, aElder, aFrom, aFresh, isLoad, aBuildSlice1, frzs, frz1, ownIds, AV.frz, AV.frzL, frzEnv, AV.shift, AV.shiftL, aFieldV, aSliceW, aSliceO, aSlice, aSliceR, aSliceS, aBd, aMax, frzAVs, frzAV, frzTab, AObj.frz, aMM, aNilS, aMay, aNil, aLenM, aClear, aLookup, aLookG, aMapUpd, aMapPut, keyV, aLookR, false_or, aExecU, tyF_71_0, tyA_3, tyS_3, tyK_3, tyF_85_0, tyA_61, tyS_61, tyF_71_1, tyE_61, tyF_85_1, tyA_83, tyS_83, tyA_71, tyS_71, tyN_83, tyZ_3, tyK_61, tyR_61] | (with_reducible refine aIf_split (fun _ => ?_) (fun _ => ?_)) | (with_reducible refine aSel_split (fun _ => ?_) (fun _ => ?_)) | (with_reducible refine aGd_split (fun _ => ?_) (fun _ => ?_))))
          exact ⟨oMk, objsM (l ++ [s]) ents' r, ⟨rfl, rfl, ents', mapOK_put hme hin hp, rfl⟩, trivial, ⟨rfl, by simp [AV.ltL, AV.lt], by simp [plainO]⟩, (weak_ren1 [0, 6, 2, 3] ⟨(by decide), (by (first | ((simp only [envInR, tabInR, envLt, tabLt, AObj.lt, AV.lt, AV.ltL, AV.ren, AV.renL, AObj.ren, List.getD_cons_zero, List.getD_cons_succ, List.length_cons, List.length_nil, ruW, ASt.get, aget, ASt.put, ↓reduceIte, reduceCtorEq, Nat.reduceLT, Nat.reduceEqDiff, Nat.reduceAdd, Nat.reduceLeDiff, eq_self, implies_true, tabN]) <;> (repeat' apply And.intro) <;> first | (rw [wrapK (by omega)]; done) | (simp; done) | omega) | fail))⟩)⟩
end
end Go.Proofs.YtbijbnfgccdneaaGreat
