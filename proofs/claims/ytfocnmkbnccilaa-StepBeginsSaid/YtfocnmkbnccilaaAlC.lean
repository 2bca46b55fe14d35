/-
  ABSTRACT VALUES: how the call's own memory grows and changes. Of whatever program.
-/
import Derived.Test.YtfocnmkbnccilaaAlB
import Derived.Maps.AppendAt
import Derived.Laws.AppendOwnNone
import Derived.Laws.MakeOwn
set_option linter.unusedVariables false
set_option linter.unusedSimpArgs false
namespace Go.Proofs.Ytfocnmkbnccilaa
open Go.RowKit

section
variable {P : Program} {cx : Cx} {w w' : World} {tab tab' : ATab} {L L' : Nat → Value} {nx : Nat}
/-- what is known stays known -/
structure Ext (cx : Cx) (w : World) (tab : ATab) (L : Nat → Value) (nx : Nat) (w' : World) (tab' : ATab) (L' : Nat → Value) : Prop where
  cell : ∀ p : Addr, Sx cx w tab L p.block → w'.cell? p = w.cell? p
  sub : ∀ b, Sx cx w tab L b → Sx cx w' tab' L' b
  loc : ∀ id p, id < nx → Kx tab' L' id = some p → Kx tab L id = some p
theorem Ext.rv (h : Ext cx w tab L nx w' tab' L') {x : Value} {av : AV} (hr : RVx cx w tab L x av) (hl : av.lt nx) : RVx cx w' tab' L' x av := hr.mono hl h.cell h.sub h.loc
theorem Ext.rt (h : Ext cx w tab L nx w' tab' L') {x : Value} {av : AV} (hr : RT w (Sx cx w tab L) x av) : RT w' (Sx cx w' tab' L') x av := hr.mono h.cell h.sub
theorem Ext.obj (h : Ext cx w tab L nx w' tab' L') {v : Value} {o : AObj} (hr : ObjAt cx w tab L v o) (hl : o.lt nx) (hg : ∀ g, vblk v = some g → w'.heap[g]? = w.heap[g]?) : ObjAt cx w' tab' L' v o := by
  cases o with
  | box t cells =>
    obtain ⟨g, cs, rfl, hb, hh, hn, hx⟩ := hr
    exact ⟨g, cs, rfl, hb, (hg g rfl).trans hh, hn, fun j x av h1 h2 => ⟨h.rv (hx j x av h1 h2).1 (ltL_iff.1 hl _ (List.mem_of_getElem? h2)), (hx j x av h1 h2).2⟩⟩
  | row e sz rows =>
    obtain ⟨h1, xs, hown, h2, h3⟩ := hr
    refine ⟨h1, xs, ⟨hown.1, ?_⟩, h2, fun i j row av ha hb => ?_⟩
    · rcases hown.2 with hn | ⟨g, cap, cur, rfl, hb, hh, rest⟩
      · exact .inl hn
      · exact .inr ⟨g, cap, cur, rfl, hb, (hg g rfl).trans hh, rest⟩
    · obtain ⟨x, hx, hr⟩ := h3 i j row av ha hb
      exact ⟨x, hx, h.rt hr⟩
theorem ObjAt.ge {v : Value} {o : AObj} (h : ObjAt cx w tab L v o) {g : Nat} (hg : vblk v = some g) : cx.w0.heap.size ≤ g ∧ g < w.heap.size := by
  cases o with
  | box t cells =>
    obtain ⟨g', cs, rfl, hb, hh, _⟩ := h
    simp [vblk] at hg
    subst hg
    exact ⟨hb, (Array.getElem?_eq_some_iff.1 hh).1⟩
  | row e sz rows =>
    obtain ⟨_, xs, hown, _⟩ := h
    rcases hown.2 with ⟨rfl, _⟩ | ⟨g', cap, cur, rfl, hb, hh, _⟩
    · simp [vblk] at hg
    · simp [vblk] at hg
      subst hg
      exact ⟨hb, (Array.getElem?_eq_some_iff.1 hh).1⟩
/-- new objects beside the old ones -/
theorem ext_merge (hb : Below w.heap.size w w') (hold : ∀ id, id < nx → tab'.get id = tab.get id ∧ L' id = L id) (hy : ∀ id o, tab.get id = some o → id < nx)
    (hnew : ∀ id o g, nx ≤ id → tab'.get id = some o → vblk (L' id) = some g → w.heap.size ≤ g) : Ext cx w tab L nx w' tab' L' where
  cell p hp := hb.cell hp.1
  sub b h := ⟨Nat.lt_of_lt_of_le h.1 hb.size, h.2.1, fun id o hid hg => by
    rcases Nat.lt_or_ge id nx with hlt | hge
    · rw [(hold id hlt).2] at hg
      rw [(hold id hlt).1] at hid
      exact h.2.2 id o hid hg
    · have := hnew id o b hge hid hg
      have := h.1
      omega⟩
  loc id p hlt h := by
    unfold Kx at *
    rw [(hold id hlt).1, (hold id hlt).2] at h
    exact h
theorem lay_merge (hL : Lay cx w tab L) (hy : ∀ id o, tab.get id = some o → id < nx ∧ o.lt nx) (hb : Below w.heap.size w w') (hold : ∀ id, id < nx → tab'.get id = tab.get id ∧ L' id = L id)
    (hobj : ∀ id o, nx ≤ id → tab'.get id = some o → ObjAt cx w' tab' L' (L' id) o) (hnew : ∀ id o g, nx ≤ id → tab'.get id = some o → vblk (L' id) = some g → w.heap.size ≤ g)
    (hsep : ∀ id id' o o' g, nx ≤ id → nx ≤ id' → tab'.get id = some o → tab'.get id' = some o' → vblk (L' id) = some g → vblk (L' id') = some g → id = id') : Lay cx w' tab' L' := by
  have hext : Ext cx w tab L nx w' tab' L' := ext_merge hb hold (fun id o h => (hy id o h).1) hnew
  refine ⟨hL.below.trans (hb.mono hL.below.size), fun id o hid => ?_, fun id id' o o' g h1 h2 h3 h4 => ?_⟩
  · rcases Nat.lt_or_ge id nx with hlt | hge
    · rw [(hold id hlt).1] at hid
      rw [(hold id hlt).2]
      have ho := hL.objs id o hid
      exact hext.obj ho (hy id o hid).2 fun g hg => hb.block g (ho.ge hg).2
    · exact hobj id o hge hid
  · rcases Nat.lt_or_ge id nx with hlt | hge <;> rcases Nat.lt_or_ge id' nx with hlt' | hge'
    · rw [(hold id hlt).1] at h1
      rw [(hold id' hlt').1] at h2
      rw [(hold id hlt).2] at h3
      rw [(hold id' hlt').2] at h4
      exact hL.sep id id' o o' g h1 h2 h3 h4
    · rw [(hold id hlt).1] at h1
      rw [(hold id hlt).2] at h3
      have := (hL.objs id o h1).ge h3
      have := hnew id' o' g hge' h2 h4
      omega
    · rw [(hold id' hlt').1] at h2
      rw [(hold id' hlt').2] at h4
      have := (hL.objs id' o' h2).ge h4
      have := hnew id o g hge h1 h3
      omega
    · exact hsep id id' o o' g hge hge' h1 h2 h3 h4
end

/-! ### the state behind an operation -/
def updL (L : Nat → Value) (id : Nat) (v : Value) : Nat → Value := fun k => if k = id then v else L k
section
variable {P : Program} {cx : Cx} {a : Act} {w w' : World} {st : ASt} {L L' : Nat → Value}
theorem eval_ok (h : Conc cx a w st L) (x : Operand) : RVx cx w st.tab L (a.eval x) (aEv st x) ∧ (aEv st x).lt st.next := by
  cases x with
  | tmp t => exact h.env t
  | const v => exact ⟨.tree (.c v), trivial⟩
  | global g => exact ⟨.tree (.any _), trivial⟩
  | func f => exact ⟨.tree (.c _), trivial⟩
theorem get_put {dst : Option Nat} {av : AV} (t : Nat) : (st.put dst av).get t = match dst with | some d => if d < st.n ∧ t = d then av else st.get t | none => st.get t := by
  cases dst with
  | none => rfl
  | some d =>
    unfold ASt.put ASt.get
    simp only [aget]
    by_cases ht : t = d
    · subst ht
      by_cases hd : t < st.n <;> simp [hd]
    · simp [ht]
theorem conc_put (h : Conc cx a w st L) {tab' : ATab} {nx' : Nat} {L' : Nat → Value} (hL : Lay cx w' tab' L') (hx : Ext cx w st.tab L st.next w' tab' L') (hn : st.next ≤ nx') (hy : ∀ id o, tab'.get id = some o → id < nx' ∧ o.lt nx')
    {v : Value} {av : AV} (hv : RVx cx w' tab' L' v av) (hl : av.lt nx') (dst : Option Nat) : Conc cx (a.put dst v) w' ({ st with tab := tab', next := nx' }.put dst av) L' := by
  have hdef : (a.put dst v).defers = [] := by
    cases dst
    · exact h.defers
    · exact h.defers
  have hsz : (a.put dst v).tmps.size = st.n := by
    cases dst
    · exact h.size
    · simp [Act.put, h.size]
  have e1 : ({ st with tab := tab', next := nx' }.put dst av).tab = tab' := by
    cases dst <;> simp only [ASt.put]
  have e2 : ({ st with tab := tab', next := nx' }.put dst av).next = nx' := by
    cases dst <;> simp only [ASt.put]
  have e3 : ({ st with tab := tab', next := nx' }.put dst av).n = st.n := by
    cases dst <;> simp only [ASt.put]
  refine ⟨by rw [e1]; exact hL, by rw [e3]; exact hsz, hdef, by rw [e1, e2]; exact hy, fun t => ?_⟩
  rw [e1, e2, get_put]
  have hold := h.env t
  have old : RVx cx w' tab' L' (a.tmps.getD t undef) (st.get t) ∧ (st.get t).lt nx' := ⟨hx.rv hold.1 hold.2, AV.lt_mono hn hold.2⟩
  cases dst with
  | none => exact old
  | some d =>
    simp only [Act.put]
    by_cases hd : d < st.n ∧ t = d
    · rw [if_pos hd]
      obtain ⟨hd, rfl⟩ := hd
      have : t < a.tmps.size := by rw [h.size]; exact hd
      simp only [Array.getD_eq_getD_getElem?, Array.getElem?_setIfInBounds_self_of_lt this, Option.getD_some]
      exact ⟨hv, hl⟩
    · rw [if_neg hd]
      have e : (a.tmps.setIfInBounds d v).getD t undef = a.tmps.getD t undef := by
        by_cases hdt : d = t
        · subst hdt
          have : ¬ d < a.tmps.size := by rw [h.size]; simpa using hd
          rw [Array.setIfInBounds_eq_of_size_le (by omega)]
        · simp [Array.getD_eq_getD_getElem?, Array.getElem?_setIfInBounds_ne hdt]
      rw [e]
      exact old
theorem Ext.refl (w : World) (tab : ATab) (L : Nat → Value) (nx : Nat) : Ext cx w tab L nx w tab L := ⟨fun _ _ => rfl, fun _ h => h, fun _ _ _ h => h⟩
theorem conc_pure (h : Conc cx a w st L) {v : Value} {av : AV} (hv : RVx cx w st.tab L v av) (hl : av.lt st.next) (dst : Option Nat) : Conc cx (a.put dst v) w (st.put dst av) L :=
  conc_put (tab' := st.tab) (nx' := st.next) (L' := L) h h.lay (Ext.refl ..) (Nat.le_refl _) h.young hv hl dst
/-- one new object -/
theorem conc_new (h : Conc cx a w st L) (hb : Below w.heap.size w w') {v : Value} {ob : AObj} (hnew : ∀ g, vblk v = some g → w.heap.size ≤ g) (hob : Ext cx w st.tab L st.next w' ((st.next, some ob) :: st.tab) (updL L st.next v) → ObjAt cx w' ((st.next, some ob) :: st.tab) (updL L st.next v) v ob)
    (hlt : ob.lt (st.next + 1)) {x : Value} {av : AV} (hv : Ext cx w st.tab L st.next w' ((st.next, some ob) :: st.tab) (updL L st.next v) → RVx cx w' ((st.next, some ob) :: st.tab) (updL L st.next v) x av) (hl : av.lt (st.next + 1)) (dst : Option Nat) :
    Conc cx (a.put dst x) w' ({ st with tab := (st.next, some ob) :: st.tab, next := st.next + 1 }.put dst av) (updL L st.next v) := by
  have hold : ∀ id, id < st.next → ATab.get ((st.next, some ob) :: st.tab) id = st.tab.get id ∧ updL L st.next v id = L id := fun id hid => by
    unfold updL
    rw [ATab.get_cons, if_neg (by omega), if_neg (by omega)]
    exact ⟨rfl, rfl⟩
  have hge : ∀ id o, st.next ≤ id → ATab.get ((st.next, some ob) :: st.tab) id = some o → id = st.next ∧ o = ob := fun id o hid hg => by
    rw [ATab.get_cons] at hg
    split at hg
    · rename_i e
      cases hg
      exact ⟨e, rfl⟩
    · have := (h.young id o hg).1
      omega
  have hup : updL L st.next v st.next = v := by simp [updL]
  have hnew' : ∀ id o g, st.next ≤ id → ATab.get ((st.next, some ob) :: st.tab) id = some o → vblk (updL L st.next v id) = some g → w.heap.size ≤ g := fun id o g h1 h2 h3 => by
    obtain ⟨rfl, _⟩ := hge id o h1 h2
    rw [hup] at h3
    exact hnew g h3
  have hext := ext_merge (cx := cx) hb hold (fun id o hid => (h.young id o hid).1) hnew'
  refine conc_put h (lay_merge h.lay h.young hb hold (fun id o h1 h2 => ?_) hnew' fun id id' o o' g h1 h2 h3 h4 _ _ => ?_) hext (by omega) (fun id o hg => ?_) (hv hext) hl dst
  · obtain ⟨rfl, rfl⟩ := hge id o h1 h2
    rw [hup]
    exact hob hext
  · rw [(hge id o h1 h3).1, (hge id' o' h2 h4).1]
  · rcases Nat.lt_or_ge id st.next with hlt' | hge'
    · rw [(hold id hlt').1] at hg
      have := h.young id o hg
      refine ⟨by omega, ?_⟩
      cases o with
      | box t cells => exact ltL_iff.2 fun x hx => AV.lt_mono (Nat.le_succ _) (ltL_iff.1 this.2 x hx)
      | row => trivial
    · obtain ⟨rfl, rfl⟩ := hge id o hge' hg
      exact ⟨by omega, hlt⟩
end
end Go.Proofs.Ytfocnmkbnccilaa
