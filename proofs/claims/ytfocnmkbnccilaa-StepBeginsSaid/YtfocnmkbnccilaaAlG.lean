/-
  ABSTRACT VALUES: what a function gives back, and its call. Of whatever program.
-/
import Derived.Test.YtfocnmkbnccilaaAlF
set_option linter.unusedVariables false
set_option linter.unusedSimpArgs false
namespace Go.Proofs.Ytfocnmkbnccilaa
open Go.RowKit

mutual
def AV.shift (k : Nat) : AV → AV
  | .osl id => .osl (id + k)
  | .op id i j => .op (id + k) i j
  | .agg cs => .agg (AV.shiftL k cs)
  | .tup cs => .tup (AV.shiftL k cs)
  | .fn f cs => .fn f (AV.shiftL k cs)
  | .any => .any
  | .c v => .c v
  | .sl sz rows => .sl sz rows
  | .rp cs => .rp cs
def AV.shiftL (k : Nat) : List AV → List AV
  | [] => []
  | a :: l => a.shift k :: AV.shiftL k l
end
theorem shiftL_map (k : Nat) : ∀ l : List AV, AV.shiftL k l = l.map (·.shift k)
  | [] => rfl
  | a :: l => by simp [AV.shiftL, shiftL_map k l]
mutual
/-- it names no memory but the objects of its own -/
def AV.plain : AV → Prop
  | .sl _ _ => False
  | .rp _ => False
  | .agg cs => AV.plainL cs
  | .tup cs => AV.plainL cs
  | .fn _ cs => AV.plainL cs
  | _ => True
def AV.plainL : List AV → Prop
  | [] => True
  | a :: l => a.plain ∧ AV.plainL l
end
theorem plainL_iff : ∀ {l : List AV}, AV.plainL l ↔ ∀ a ∈ l, a.plain
  | [] => by simp [AV.plainL]
  | a :: l => by simp [AV.plainL, plainL_iff (l := l)]
def AObj.shift (k : Nat) : AObj → AObj
  | .box t cells => .box t (AV.shiftL k cells)
  | .row e sz rows => .row e sz rows
def AObj.plain : AObj → Prop
  | .box _ cells => AV.plainL cells
  | .row _ _ rows => ∀ row ∈ rows, ∀ av ∈ row, av.plain
def ATab.shift (k : Nat) (T : ATab) : ATab := T.map fun p => (p.1 + k, p.2.map (AObj.shift k))
def ATab.plain : ATab → Prop
  | [] => True
  | (_, some o) :: T => o.plain ∧ ATab.plain T
  | (_, none) :: T => ATab.plain T
theorem plain_get {o : AObj} : ∀ {T : ATab} {id : Nat}, T.plain → T.get id = some o → o.plain
  | [], _, _, h => by cases h
  | (k, oo) :: T, id, hp, h => by
    rw [ATab.get_cons] at h
    split at h
    · subst h
      exact hp.1
    · cases oo with
      | none => exact plain_get (T := T) hp h
      | some o' => exact plain_get (T := T) hp.2 h
theorem shift_get {tab : ATab} {k : Nat} (hy : ∀ id o, tab.get id = some o → id < k) : ∀ (T : ATab) (id : Nat), (T.shift k ++ tab).get id = if id < k then tab.get id else (T.get (id - k)).map (AObj.shift k)
  | [], id => by
    simp only [ATab.shift, List.map_nil, List.nil_append]
    split
    · rfl
    · rename_i h
      cases hg : tab.get id with
      | none => rfl
      | some o => exact absurd (hy id o hg) h
  | (j, o) :: T, id => by
    have ih := shift_get hy T id
    simp only [ATab.shift, List.map_cons, List.cons_append, ATab.get_cons] at ih ⊢
    by_cases h1 : id = j + k
    · rw [if_pos h1, if_neg (by omega), if_pos (by omega)]
    · rw [if_neg h1, ih]
      by_cases h2 : id < k
      · rw [if_pos h2, if_pos h2]
      · rw [if_neg h2, if_neg h2, if_neg (by omega)]
theorem RT.shift {w : World} {S : Nat → Prop} {x : Value} {av : AV} (h : RT w S x av) (k : Nat) : av.shift k = av := by
  induction h with
  | agg xs cs hn hr ih =>
    simp only [AV.shift, shiftL_map, AV.agg.injEq]
    apply List.ext_getElem?
    intro j
    rw [List.getElem?_map]
    cases hj : cs[j]? with
    | none => rfl
    | some av =>
      have hlt : j < xs.size := by rw [hn]; exact (List.getElem?_eq_some_iff.1 hj).1
      simp [ih j _ av (Array.getElem?_eq_getElem hlt) hj]
  | tup xs cs hn hr ih =>
    simp only [AV.shift, shiftL_map, AV.tup.injEq]
    apply List.ext_getElem?
    intro j
    rw [List.getElem?_map]
    cases hj : cs[j]? with
    | none => rfl
    | some av =>
      have hlt : j < xs.size := by rw [hn]; exact (List.getElem?_eq_some_iff.1 hj).1
      simp [ih j _ av (Array.getElem?_eq_getElem hlt) hj]
  | fn fi xs cs hn hr ih =>
    simp only [AV.shift, shiftL_map, AV.fn.injEq, true_and]
    apply List.ext_getElem?
    intro j
    rw [List.getElem?_map]
    cases hj : cs[j]? with
    | none => rfl
    | some av =>
      have hlt : j < xs.size := by rw [hn]; exact (List.getElem?_eq_some_iff.1 hj).1
      simp [ih j _ av (Array.getElem?_eq_getElem hlt) hj]
  | _ => simp [AV.shift]
theorem RT.plain {w : World} {S S' : Nat → Prop} {x : Value} {av : AV} (h : RT w S x av) (hp : av.plain) : RT w S' x av := by
  induction h with
  | any x => exact .any x
  | c v => exact .c v
  | sl => exact hp.elim
  | rp => exact hp.elim
  | agg xs cs hn hr ih => exact .agg xs cs hn fun j x av h1 h2 => ih j x av h1 h2 (plainL_iff.1 hp _ (List.mem_of_getElem? h2))
  | tup xs cs hn hr ih => exact .tup xs cs hn fun j x av h1 h2 => ih j x av h1 h2 (plainL_iff.1 hp _ (List.mem_of_getElem? h2))
  | fn fi xs cs hn hr ih => exact .fn fi xs cs hn fun j x av h1 h2 => ih j x av h1 h2 (plainL_iff.1 hp _ (List.mem_of_getElem? h2))
theorem RV.conv {w : World} {S S' : Nat → Prop} {K K' : Nat → Option (Nat × Value)} {k : Nat} {x : Value} {av : AV} (h : RV w S K x av) (hS : (∀ b, S b → S' b) ∨ av.plain) (hK : ∀ id p, K' (id + k) = some p → K id = some p) : RV w S' K' x (av.shift k) := by
  induction h with
  | tree h =>
    rw [h.shift k]
    rcases hS with hS | hS
    · exact .tree (h.mono (fun _ _ => rfl) hS)
    · exact .tree (h.plain hS)
  | osl x id h => exact .osl x _ fun sz v e => h sz v (hK id _ e)
  | op x id i j h => exact .op x _ i j fun sz v e => h sz v (hK id _ e)
  | agg xs cs hn hr ih =>
    simp only [AV.shift, shiftL_map]
    refine .agg xs _ (by simpa using hn) fun j x av h1 h2 => ?_
    rw [List.getElem?_map] at h2
    cases hj : cs[j]? with
    | none => simp [hj] at h2
    | some av' =>
      simp [hj] at h2
      subst h2
      exact ih j x av' h1 hj (hS.imp id fun hp => plainL_iff.1 hp _ (List.mem_of_getElem? hj))
  | tup xs cs hn hr ih =>
    simp only [AV.shift, shiftL_map]
    refine .tup xs _ (by simpa using hn) fun j x av h1 h2 => ?_
    rw [List.getElem?_map] at h2
    cases hj : cs[j]? with
    | none => simp [hj] at h2
    | some av' =>
      simp [hj] at h2
      subst h2
      exact ih j x av' h1 hj (hS.imp id fun hp => plainL_iff.1 hp _ (List.mem_of_getElem? hj))
  | fn fi xs cs hn hr ih =>
    simp only [AV.shift, shiftL_map]
    refine .fn fi xs _ (by simpa using hn) fun j x av h1 h2 => ?_
    rw [List.getElem?_map] at h2
    cases hj : cs[j]? with
    | none => simp [hj] at h2
    | some av' =>
      simp [hj] at h2
      subst h2
      exact ih j x av' h1 hj (hS.imp id fun hp => plainL_iff.1 hp _ (List.mem_of_getElem? hj))
theorem lt_shift {n k : Nat} : ∀ {av : AV}, av.lt n → (av.shift k).lt (k + n) := by
  intro av
  induction av using AV.rec (motive_2 := fun _ => True) (motive_3 := fun l => AV.ltL n l → AV.ltL (k + n) (AV.shiftL k l)) <;> simp_all [AV.lt, AV.ltL, AV.shift, AV.shiftL] <;> omega

/-! ### a function's answer -/
/-- what it gives back: its value, and the objects that it has made for it, numbered from 0 -/
structure Res where
  r : AV
  tab : ATab := []
  n : Nat := 0
structure Res.Ok (R : Res) : Prop where
  young : ∀ id o, R.tab.get id = some o → id < R.n ∧ o.lt R.n
  lt : R.r.lt R.n
def Enters (P : Program) (f : FuncId) : Prop := ∀ (args : Array Value) (w : World), (callFunc f args).run P w = .ok (.enter f args) w
/-- whatever order is drawn and wherever memory lies: it gives back one of these answers -/
def ARel (P : Program) (f : FuncId) (args : List AV) (Post : Res → Prop) : Prop :=
  Enters P f ∧ ∀ (S : Nat → Prop) (w : World) (vs : Array Value), (∀ b, S b → b < w.heap.size) → vs.size = args.length → (∀ (j : Nat) (v : Value) (av : AV), vs[j]? = some v → args[j]? = some av → RT w S v av) →
    Calls P f vs w fun e w' => ∃ v L R, Post R ∧ R.Ok ∧ e = .returned v ∧ Lay ⟨S, w⟩ w' R.tab L ∧ RVx ⟨S, w⟩ w' R.tab L v R.r
/-- it gives back this answer -/
def ADet (P : Program) (f : FuncId) (args : List AV) (R : Res) : Prop := ARel P f args fun R' => R' = R
theorem ARel.mono {P : Program} {f : FuncId} {args : List AV} {Post Post' : Res → Prop} (h : ARel P f args Post) (hp : ∀ R, Post R → Post' R) : ARel P f args Post' :=
  ⟨h.1, fun S w vs h1 h2 h3 => (h.2 S w vs h1 h2 h3).mono fun e w' ⟨v, L, R, h4, h5⟩ => ⟨v, L, R, hp R h4, h5⟩⟩
def dref1 (tab : ATab) : AV → AV
  | .osl id => match tab.get id with
    | some (.row _ sz rows) => .sl sz rows
    | _ => .any
  | .op _ _ _ => .any
  | .agg _ => .any
  | .tup _ => .any
  | .fn _ _ => .any
  | .any => .any
  | .c v => .c v
  | .sl sz rows => .sl sz rows
  | .rp cs => .rp cs
/-- as an argument, not a closure -/
def dref2 (tab : ATab) : AV → AV
  | .agg cs => .agg (cs.map (dref1 tab))
  | .op id i j => match tab.get id with
    | some (.box _ cells) => if i = 0 then .rp ((cells.drop j).map (dref1 tab)) else .any
    | some (.row _ _ rows) => if i < rows.length then .rp ((rows[i]?.getD []).drop j) else .any
    | none => .any
  | .osl id => dref1 tab (.osl id)
  | .tup _ => .any
  | .fn _ _ => .any
  | .any => .any
  | .c v => .c v
  | .sl sz rows => .sl sz rows
  | .rp cs => .rp cs
/-- as an argument: what it is, no object named -/
def dref (tab : ATab) : AV → AV
  | .fn f cs => .fn f (cs.map (dref2 tab))
  | .agg cs => .agg (cs.map (dref1 tab))
  | .op id i j => match tab.get id with
    | some (.box _ cells) => if i = 0 then .rp ((cells.drop j).map (dref1 tab)) else .any
    | some (.row _ _ rows) => if i < rows.length then .rp ((rows[i]?.getD []).drop j) else .any
    | none => .any
  | .osl id => dref1 tab (.osl id)
  | .tup _ => .any
  | .any => .any
  | .c v => .c v
  | .sl sz rows => .sl sz rows
  | .rp cs => .rp cs
/-- it names no object -/
def roA : AV → Prop
  | .osl _ => False
  | .op _ _ _ => False
  | .tup _ => False
  | .agg cs => treeL cs
  | .fn _ cs => treeL cs
  | _ => True
def roL : List AV → Prop
  | [] => True
  | a :: l => roA a ∧ roL l
theorem roL_iff : ∀ {l : List AV}, roL l ↔ ∀ a ∈ l, roA a
  | [] => by simp [roL]
  | a :: l => by simp [roL, roL_iff (l := l)]
def aCall0 (P : Program) (st : ASt) (f : FuncId) (avs : List AV) (K : AV → ASt → Prop) : Prop :=
  ∃ Post : Res → Prop, ARel P f (avs.map (dref st.tab)) Post ∧ ∀ R, Post R → (roL avs ∨ (R.r.plain ∧ R.tab.plain)) ∧ K (R.r.shift st.next) { st with tab := R.tab.shift st.next ++ st.tab, next := st.next + R.n }
/-- it changes a slice in place, and gives it back -/
def AUpd (P : Program) (f : FuncId) (e : TypeId) (sz : Nat) (vals : List (List Value)) (rest : List Value) (vals' : List (List Value)) : Prop :=
  Enters P f ∧ ∀ (w : World) (v : Value) (base : Nat), OwnsR w base e sz v vals.length vals.flatten → Calls P f (v :: rest).toArray w fun ex w' => ∃ v', ex = .returned v' ∧ OwnsR w' base e sz v' vals'.length vals'.flatten ∧ w.grownBy w' v.ownBlock ∧ v'.ownBlock = v.ownBlock
def rowsC (vals : List (List Value)) : List (List AV) := vals.map fun r => r.map AV.c
def aUpd (P : Program) (st : ASt) (f : FuncId) (avs : List AV) (K : AV → ASt → Prop) : Prop :=
  ∃ (id e sz : Nat) (vals : List (List Value)) (rest : List Value) (vals' : List (List Value)), avs = .osl id :: rest.map .c ∧ st.tab.get id = some (.row e sz (rowsC vals)) ∧ AUpd P f e sz vals rest vals' ∧ (∀ r ∈ vals', r.length = sz ∧ ∀ x ∈ r, x.oneCell' = true) ∧
    K (.osl st.next) { st with tab := appTab st.tab st.next (some id) (.row e sz (rowsC vals')), next := st.next + 1 }
/-- slices of the call's own that it names are written no more -/
def aCallZ (P : Program) (st : ASt) (f : FuncId) (avs : List AV) (K : AV → ASt → Prop) : Prop := ∃ ids, aCall0 P (frzs st ids) f (frzAVs st ids avs) K
/-- a call; u: one that may change a slice of the call's own -/
def aCall (u : Bool) (P : Program) (st : ASt) (f : FuncId) (avs : List AV) (K : AV → ASt → Prop) : Prop := aCall0 P st f avs K ∨ (u = true ∧ (aUpd P st f avs K ∨ aCallZ P st f avs K))
section
variable {P : Program} {cx : Cx} {a : Act} {w w' : World} {tab : ATab} {st : ASt} {L : Nat → Value} {nx : Nat}
theorem row_tree {e : TypeId} {sz : Nat} {v : Value} {rows : List (List AV)} (h : ObjAt cx w tab L v (.row e sz rows)) : RT w (fun b => b < w.heap.size) v (.sl sz rows) := by
  obtain ⟨hrow, xs, hown, hone, hx⟩ := h
  have hm : ∀ i j row av, rows[i]? = some row → row[j]? = some av → (xs[i * sz + j]?.getD undef).oneCell' = true ∧ RT w (fun b => b < w.heap.size) (xs[i * sz + j]?.getD undef) av ∧ ∃ x, xs[i * sz + j]? = some x := fun i j row av h1 h2 => by
    obtain ⟨x, hx1, hx2⟩ := hx i j row av h1 h2
    rw [hx1]
    exact ⟨hone x (List.mem_of_getElem? hx1), hx2.mono (fun _ _ => rfl) (fun b hb => hb.1), x, rfl⟩
  rcases hown.2 with ⟨rfl, h0⟩ | ⟨g, cap, cur, rfl, hb, hg, hc, hm', _⟩
  · exact .sl none _ 0 sz rows 0 0 (fun i j => xs[i * sz + j]?.getD undef) h0.symm (Nat.le_refl _) (by omega) (fun h => by omega) hrow (fun h => by omega) (fun i j row av h1 h2 => (hm i j row av h1 h2).1) (fun i j row av h1 h2 => (hm i j row av h1 h2).2.1)
  · refine .sl _ _ cap sz rows g 0 (fun i j => xs[i * sz + j]?.getD undef) rfl hc (by simpa [maxLen] using hm') (fun _ => ⟨rfl, (Array.getElem?_eq_some_iff.1 hg).1⟩) hrow (fun _ i j row av h1 h2 => ?_) (fun i j row av h1 h2 => (hm i j row av h1 h2).1) (fun i j row av h1 h2 => (hm i j row av h1 h2).2.1)
    obtain ⟨x, hx⟩ := (hm i j row av h1 h2).2.2
    have := hown.cells (g := g) rfl _ x hx
    rw [addAddr0] at this
    rw [hx, Nat.zero_add]
    exact this
theorem dref1_ok (hL : Lay cx w tab L) {x : Value} {av : AV} (h : RVx cx w tab L x av) : RT w (fun b => b < w.heap.size) x (dref1 tab av) := by
  cases av with
  | osl id =>
    unfold dref1
    simp only
    split
    · rename_i e sz rows hid
      rw [h.osl_inv _ _ (kx_of hid)]
      exact row_tree (hL.objs id _ hid)
    · exact .any _
  | op => exact .any _
  | agg => exact .any _
  | tup => exact .any _
  | fn => exact .any _
  | _ =>
    cases h with
    | tree h => exact h.mono (fun _ _ => rfl) (fun b hb => hb.1)
theorem dref2_ok (hL : Lay cx w tab L) {x : Value} {av : AV} (h : RVx cx w tab L x av) : RT w (fun b => b < w.heap.size) x (dref2 tab av) := by
  cases av with
  | agg cs =>
    obtain ⟨xs, rfl, hn, hr⟩ := h.agg_inv
    refine .agg xs _ (by simpa using hn) fun j x av h1 h2 => ?_
    rw [List.getElem?_map] at h2
    cases hj : cs[j]? with
    | none => simp [hj] at h2
    | some av' =>
      simp [hj] at h2
      subst h2
      exact dref1_ok hL (hr j x av' h1 hj)
  | op id i j =>
    unfold dref2
    simp only
    split
    · rename_i t cells hid
      split
      · rename_i h0
        subst h0
        obtain ⟨g, hg, rfl⟩ := h.op_inv _ _ (kx_of hid)
        have hob := hL.objs id _ hid
        rw [Nat.zero_mul, Nat.zero_add]
        have key : ∀ k av, ((cells.drop j).map (dref1 tab))[k]? = some av → ∃ u, w.cell? ⟨g, j + k, none⟩ = some u ∧ RT w (fun b => b < w.heap.size) u av := fun k av hk => by
          rw [List.getElem?_map, List.getElem?_drop] at hk
          cases hc : cells[j + k]? with
          | none => simp [hc] at hk
          | some av' =>
            simp [hc] at hk
            subst hk
            obtain ⟨u, h1, h2⟩ := box_cells hob hg (j + k) av' hc
            exact ⟨u, h1, dref1_ok hL h2⟩
        refine .rp g j _ (fun k => (w.cell? ⟨g, j + k, none⟩).getD undef) (hob.ge hg).2 (fun k av hk => ?_) (fun k av hk => ?_)
        · obtain ⟨u, h1, h2⟩ := key k av hk
          simp [h1]
        · obtain ⟨u, h1, h2⟩ := key k av hk
          simpa [h1] using h2
      · exact .any _
    · rename_i e sz rows hid
      split
      · rename_i hi
        obtain ⟨g, hg, rfl⟩ := h.op_inv _ _ (kx_of hid)
        have hob := hL.objs id _ hid
        have key : ∀ k av, ((rows[i]?.getD []).drop j)[k]? = some av → ∃ u, w.cell? ⟨g, i * sz + j + k, none⟩ = some u ∧ RT w (fun b => b < w.heap.size) u av := fun k av hk => by
          rw [List.getElem?_drop] at hk
          obtain ⟨u, h1, h2⟩ := row_cells hob hg hi (j + k) av hk
          rw [← Nat.add_assoc] at h1
          exact ⟨u, h1, h2.mono (fun _ _ => rfl) (fun b hb => hb.1)⟩
        refine .rp g (i * sz + j) _ (fun k => (w.cell? ⟨g, i * sz + j + k, none⟩).getD undef) (hob.ge hg).2 (fun k av hk => ?_) (fun k av hk => ?_)
        · obtain ⟨u, h1, h2⟩ := key k av hk
          simp [h1]
        · obtain ⟨u, h1, h2⟩ := key k av hk
          simpa [h1] using h2
      · exact .any _
    · exact .any _
  | osl id => exact dref1_ok hL h
  | tup => exact .any _
  | fn => exact .any _
  | any => exact dref1_ok hL h
  | c v => exact dref1_ok hL h
  | sl sz rows => exact dref1_ok hL h
  | rp cs => exact dref1_ok hL h
theorem dref_ok (hL : Lay cx w tab L) {x : Value} {av : AV} (h : RVx cx w tab L x av) : RT w (fun b => b < w.heap.size) x (dref tab av) := by
  cases av with
  | agg cs =>
    obtain ⟨xs, rfl, hn, hr⟩ := h.agg_inv
    refine .agg xs _ (by simpa using hn) fun j x av h1 h2 => ?_
    rw [List.getElem?_map] at h2
    cases hj : cs[j]? with
    | none => simp [hj] at h2
    | some av' =>
      simp [hj] at h2
      subst h2
      exact dref1_ok hL (hr j x av' h1 hj)
  | op id i j =>
    unfold dref
    simp only
    split
    · rename_i t cells hid
      split
      · rename_i h0
        subst h0
        obtain ⟨g, hg, rfl⟩ := h.op_inv _ _ (kx_of hid)
        have hob := hL.objs id _ hid
        rw [Nat.zero_mul, Nat.zero_add]
        have key : ∀ k av, ((cells.drop j).map (dref1 tab))[k]? = some av → ∃ u, w.cell? ⟨g, j + k, none⟩ = some u ∧ RT w (fun b => b < w.heap.size) u av := fun k av hk => by
          rw [List.getElem?_map, List.getElem?_drop] at hk
          cases hc : cells[j + k]? with
          | none => simp [hc] at hk
          | some av' =>
            simp [hc] at hk
            subst hk
            obtain ⟨u, h1, h2⟩ := box_cells hob hg (j + k) av' hc
            exact ⟨u, h1, dref1_ok hL h2⟩
        refine .rp g j _ (fun k => (w.cell? ⟨g, j + k, none⟩).getD undef) (hob.ge hg).2 (fun k av hk => ?_) (fun k av hk => ?_)
        · obtain ⟨u, h1, h2⟩ := key k av hk
          simp [h1]
        · obtain ⟨u, h1, h2⟩ := key k av hk
          simpa [h1] using h2
      · exact .any _
    · rename_i e sz rows hid
      split
      · rename_i hi
        obtain ⟨g, hg, rfl⟩ := h.op_inv _ _ (kx_of hid)
        have hob := hL.objs id _ hid
        have key : ∀ k av, ((rows[i]?.getD []).drop j)[k]? = some av → ∃ u, w.cell? ⟨g, i * sz + j + k, none⟩ = some u ∧ RT w (fun b => b < w.heap.size) u av := fun k av hk => by
          rw [List.getElem?_drop] at hk
          obtain ⟨u, h1, h2⟩ := row_cells hob hg hi (j + k) av hk
          rw [← Nat.add_assoc] at h1
          exact ⟨u, h1, h2.mono (fun _ _ => rfl) (fun b hb => hb.1)⟩
        refine .rp g (i * sz + j) _ (fun k => (w.cell? ⟨g, i * sz + j + k, none⟩).getD undef) (hob.ge hg).2 (fun k av hk => ?_) (fun k av hk => ?_)
        · obtain ⟨u, h1, h2⟩ := key k av hk
          simp [h1]
        · obtain ⟨u, h1, h2⟩ := key k av hk
          simpa [h1] using h2
      · exact .any _
    · exact .any _
  | osl id => exact dref1_ok hL h
  | tup => exact .any _
  | fn f cs =>
    obtain ⟨xs, rfl, hn, hr⟩ := h.fn_inv
    refine .fn f xs _ (by simpa using hn) fun j x av h1 h2 => ?_
    rw [List.getElem?_map] at h2
    cases hj : cs[j]? with
    | none => simp [hj] at h2
    | some av' =>
      simp [hj] at h2
      subst h2
      exact dref2_ok hL (hr j x av' h1 hj)
  | any => exact dref1_ok hL h
  | c v => exact dref1_ok hL h
  | sl sz rows => exact dref1_ok hL h
  | rp cs => exact dref1_ok hL h
theorem dref_ro {x : Value} {av : AV} (h : RVx cx w tab L x av) (hr : roA av) : RT w (Sx cx w tab L) x (dref tab av) := by
  cases av with
  | agg cs =>
    obtain ⟨xs, rfl, hn, hx⟩ := h.agg_inv
    refine .agg xs _ (by simpa using hn) fun j x av h1 h2 => ?_
    rw [List.getElem?_map] at h2
    cases hj : cs[j]? with
    | none => simp [hj] at h2
    | some av' =>
      simp [hj] at h2
      subst h2
      have ht := treeL_iff.1 hr av' (List.mem_of_getElem? hj)
      have := tree_of (hx j x av' h1 hj) ht
      cases av' <;> first | exact ht.elim | exact this
  | osl => exact hr.elim
  | op => exact hr.elim
  | tup => exact hr.elim
  | fn f cs =>
    obtain ⟨xs, rfl, hn, hx⟩ := h.fn_inv
    refine .fn f xs _ (by simpa using hn) fun j x av h1 h2 => ?_
    rw [List.getElem?_map] at h2
    cases hj : cs[j]? with
    | none => simp [hj] at h2
    | some av' =>
      simp [hj] at h2
      subst h2
      have ht := treeL_iff.1 hr av' (List.mem_of_getElem? hj)
      have := tree_of (hx j x av' h1 hj) ht
      cases av' <;> first | exact ht.elim | exact this
  | any => exact tree_of h trivial
  | c v => exact tree_of h trivial
  | sl sz rows => exact tree_of h trivial
  | rp cs => exact tree_of h trivial
theorem call_ok {f : FuncId} {vs : Array Value} {avs : List AV} {K : AV → ASt → Prop} (h : Conc cx a w st L) (hn : vs.size = avs.length) (hv : ∀ (j : Nat) (v : Value) (av : AV), vs[j]? = some v → avs[j]? = some av → RVx cx w st.tab L v av) (hK : aCall0 P st f avs K) (dst : Option Nat) :
    Calls P f vs w fun e w' => ∃ v av st' L', e = .returned v ∧ K av st' ∧ Conc cx (a.put dst v) w' (st'.put dst av) L' ∧ Below w.heap.size w w' ∧ (∀ id, id < st.next → st'.tab.get id = st.tab.get id ∧ L' id = L id) ∧ (∀ id o g, st.next ≤ id → st'.tab.get id = some o → vblk (L' id) = some g → w.heap.size ≤ g) ∧ st.next ≤ st'.next := by
  obtain ⟨Post, ⟨_, hdet⟩, hK⟩ := hK
  obtain ⟨S, hS1, hS2, hSv⟩ : ∃ S : Nat → Prop, (∀ b, S b → b < w.heap.size) ∧ ((∀ b, S b → Sx cx w st.tab L b) ∨ ¬ roL avs) ∧ ∀ (j : Nat) (v : Value) (av : AV), vs[j]? = some v → (avs.map (dref st.tab))[j]? = some av → RT w S v av := by
    by_cases hro : roL avs
    · refine ⟨Sx cx w st.tab L, fun b hb => hb.1, .inl fun b hb => hb, fun j v av h1 h2 => ?_⟩
      rw [List.getElem?_map] at h2
      cases hj : avs[j]? with
      | none => simp [hj] at h2
      | some av' =>
        simp [hj] at h2
        subst h2
        exact dref_ro (hv j v av' h1 hj) (roL_iff.1 hro av' (List.mem_of_getElem? hj))
    · refine ⟨fun b => b < w.heap.size, fun b hb => hb, .inr hro, fun j v av h1 h2 => ?_⟩
      rw [List.getElem?_map] at h2
      cases hj : avs[j]? with
      | none => simp [hj] at h2
      | some av' =>
        simp [hj] at h2
        subst h2
        exact dref_ok h.lay (hv j v av' h1 hj)
  refine (hdet S w vs hS1 (by simpa using hn) hSv).mono ?_
  rintro e w' ⟨v, L2, R, hPost, hok, rfl, hlay, hr⟩
  obtain ⟨hro, hK⟩ := hK R hPost
  have hS2 : (∀ b, S b → Sx cx w st.tab L b) ∨ (R.r.plain ∧ R.tab.plain) := by
    rcases hro with hro | hp
    · exact .inl (hS2.resolve_right fun hn => hn hro)
    · exact .inr hp
  have hbw : cx.w0.heap.size ≤ w.heap.size := h.lay.below.size
  have hbel : Below w.heap.size w w' := hlay.below
  have hget := shift_get (tab := st.tab) (k := st.next) (fun id o hid => (h.young id o hid).1) R.tab
  let L' : Nat → Value := fun id => if id < st.next then L id else L2 (id - st.next)
  have hL1 : ∀ id, id < st.next → L' id = L id := fun id hid => if_pos hid
  have hL2 : ∀ id, ¬ id < st.next → L' id = L2 (id - st.next) := fun id hid => if_neg hid
  have hnew : ∀ id o, st.next ≤ id → (R.tab.shift st.next ++ st.tab).get id = some o → ∃ o', R.tab.get (id - st.next) = some o' ∧ o = o'.shift st.next := fun id o h1 h2 => by
    rw [hget, if_neg (by omega)] at h2
    cases ho : R.tab.get (id - st.next) with
    | none => simp [ho] at h2
    | some o' =>
      simp [ho] at h2
      exact ⟨o', rfl, h2.symm⟩
  have hge : ∀ id o g, R.tab.get id = some o → vblk (L2 id) = some g → w.heap.size ≤ g := fun id o g h1 h2 => ((hlay.objs id o h1).ge h2).1
  have hold : ∀ id, id < st.next → (R.tab.shift st.next ++ st.tab).get id = st.tab.get id ∧ L' id = L id := fun id hid => ⟨by rw [hget, if_pos hid], hL1 id hid⟩
  have hnew' : ∀ id o g, st.next ≤ id → (R.tab.shift st.next ++ st.tab).get id = some o → vblk (L' id) = some g → w.heap.size ≤ g := fun id o g h1 h2 h3 => by
    obtain ⟨o', ho, _⟩ := hnew id o h1 h2
    rw [hL2 id (by omega)] at h3
    exact hge _ o' g ho h3
  have hext : Ext cx w st.tab L st.next w' (R.tab.shift st.next ++ st.tab) L' := ext_merge hbel hold (fun id o hid => (h.young id o hid).1) hnew'
  have hsz : ∀ (o : AObj) k, (o.shift k).sz = o.sz := fun o k => by cases o <;> simp [AObj.shift, AObj.sz, shiftL_map]
  have hKx : ∀ id p, Kx (R.tab.shift st.next ++ st.tab) L' (id + st.next) = some p → Kx R.tab L2 id = some p := fun id p hk => by
    unfold Kx at *
    rw [hget, if_neg (by omega), hL2 _ (by omega), Nat.add_sub_cancel] at hk
    cases ho : R.tab.get id with
    | none => simp [ho] at hk
    | some o => simpa [ho, hsz] using hk
  have hsub : (∀ b, Sx ⟨S, w⟩ w' R.tab L2 b → Sx cx w' (R.tab.shift st.next ++ st.tab) L' b) ∨ (R.r.plain ∧ R.tab.plain) := by
    rcases hS2 with hS2 | hp
    · refine .inl fun b hb => ⟨hb.1, ?_, fun id o hid hg => ?_⟩
      · rcases hb.2.1 with h1 | h1
        · exact (hS2 b h1).2.1
        · exact .inr (Nat.le_trans hbw h1)
      · by_cases hlt : id < st.next
        · rw [hget, if_pos hlt] at hid
          rw [hL1 id hlt] at hg
          rcases hb.2.1 with h1 | h1
          · exact (hS2 b h1).2.2 id o hid hg
          · have := ((h.lay.objs id o hid).ge hg).2
            have h1 : w.heap.size ≤ b := h1
            omega
        · obtain ⟨o', ho, _⟩ := hnew id o (by omega) hid
          rw [hL2 id hlt] at hg
          exact hb.2.2 _ o' ho hg
    · exact .inr hp
  refine ⟨v, R.r.shift st.next, { st with tab := R.tab.shift st.next ++ st.tab, next := st.next + R.n }, L', rfl, hK, conc_put h (lay_merge h.lay h.young hbel hold (fun id o h1 h2 => ?_) hnew' fun id id' o o' g h1 h2 h3 h4 h5 h6 => ?_) hext (Nat.le_add_right _ _) (fun id o hid => ?_) (hr.conv (hsub.imp (fun h => h) (·.1)) hKx) (lt_shift hok.lt) dst, hbel, hold, hnew', Nat.le_add_right _ _⟩
  · obtain ⟨o', ho, rfl⟩ := hnew id o h1 h2
    rw [hL2 id (by omega)]
    have hob := hlay.objs _ o' ho
    have hpl : R.tab.plain → o'.plain := fun hp => plain_get hp ho
    cases o' with
    | box t cells =>
      obtain ⟨g, cs, h3, h4, h5, h6, h7⟩ := hob
      refine ⟨g, cs, h3, Nat.le_trans hbw h4, h5, by simpa [shiftL_map] using h6, fun j x av h8 h9 => ?_⟩
      rw [shiftL_map, List.getElem?_map] at h9
      cases hj : cells[j]? with
      | none => simp [hj] at h9
      | some av' =>
        simp [hj] at h9
        subst h9
        exact ⟨(h7 j x av' h8 hj).1.conv (hsub.imp (fun h => h) fun hp => plainL_iff.1 (hpl hp.2) _ (List.mem_of_getElem? hj)) hKx, (h7 j x av' h8 hj).2⟩
    | row e sz rows =>
      obtain ⟨h3, xs, hown, h5, h6⟩ := hob
      refine ⟨h3, xs, hown.base hbw, h5, fun i j row av h7 h8 => ?_⟩
      obtain ⟨x, hx, hrt⟩ := h6 i j row av h7 h8
      refine ⟨x, hx, ?_⟩
      rcases hsub with hs | hp
      · exact hrt.mono (fun _ _ => rfl) hs
      · exact hrt.plain (hpl hp.2 row (List.mem_of_getElem? h7) av (List.mem_of_getElem? h8))
  · obtain ⟨o1, ho1, _⟩ := hnew id o h1 h3
    obtain ⟨o2, ho2, _⟩ := hnew id' o' h2 h4
    rw [hL2 id (by omega)] at h5
    rw [hL2 id' (by omega)] at h6
    have := hlay.sep _ _ o1 o2 g ho1 ho2 h5 h6
    omega
  · by_cases hlt : id < st.next
    · rw [hget, if_pos hlt] at hid
      have hy := h.young id o hid
      refine ⟨by omega, ?_⟩
      cases o with
      | box t cells => exact ltL_iff.2 fun x hx => AV.lt_mono (Nat.le_add_right _ _) (ltL_iff.1 hy.2 x hx)
      | row => trivial
    · obtain ⟨o', ho, rfl⟩ := hnew id o (by omega) hid
      have hy := hok.young _ o' ho
      refine ⟨by omega, ?_⟩
      cases o' with
      | box t cells =>
        simp only [AObj.shift, AObj.lt, shiftL_map]
        refine ltL_iff.2 fun x hx => ?_
        obtain ⟨y, hy', rfl⟩ := List.mem_map.1 hx
        exact lt_shift (ltL_iff.1 hy.2 y hy')
      | row => trivial
theorem flatten_ext {sz : Nat} {vals : List (List Value)} {xs : List Value} (hs : ∀ r ∈ vals, r.length = sz) (hl : xs.length = vals.length * sz) (hx : ∀ (i j : Nat) (hi : i < vals.length) (hj : j < (vals[i]).length), xs[i * sz + j]? = some (vals[i])[j]) : xs = vals.flatten := by
  have hfl : vals.flatten.length = vals.length * sz := by
    have := flat_len id sz vals hs
    rwa [List.flatMap_id] at this
  apply List.ext_getElem?
  intro k
  by_cases hk : k < vals.length * sz
  · have h0 : 0 < sz := by
      rcases Nat.eq_zero_or_pos sz with h | h
      · subst h; omega
      · exact h
    have hi : k / sz < vals.length := (Nat.div_lt_iff_lt_mul h0).2 hk
    have hj : k % sz < sz := Nat.mod_lt _ h0
    have e : k = k / sz * sz + k % sz := by rw [Nat.mul_comm]; exact (Nat.div_add_mod k sz).symm
    have hj' : k % sz < (vals[k / sz]).length := by rw [hs _ (List.getElem_mem hi)]; exact hj
    have h1 := hx (k / sz) (k % sz) hi hj'
    have h2 := flat_get id sz vals hs (k / sz) (k % sz) hi hj
    rw [List.flatMap_id] at h2
    rw [← e] at h1 h2
    rw [h1, h2]
    exact (List.getElem?_eq_getElem hj').symm
  · rw [List.getElem?_eq_none (by omega), List.getElem?_eq_none (by omega)]
/-- a slice of its own, changed in place by a call -/
theorem upd_ok {f : FuncId} {vs : Array Value} {avs : List AV} {K : AV → ASt → Prop} (h : Conc cx a w st L) (hn : vs.size = avs.length) (hv : ∀ (j : Nat) (v : Value) (av : AV), vs[j]? = some v → avs[j]? = some av → RVx cx w st.tab L v av) (hK : aUpd P st f avs K) (dst : Option Nat) :
    Calls P f vs w fun e w' => ∃ v av st' L', e = .returned v ∧ K av st' ∧ Conc cx (a.put dst v) w' (st'.put dst av) L' := by
  obtain ⟨id, e, sz, vals, rest, vals', rfl, hid, hupd, hval, hk⟩ := hK
  have hvs : ∃ v, vs = (v :: rest).toArray ∧ v = L id := by
    simp only [List.length_cons, List.length_map] at hn
    have h0 : 0 < vs.size := by omega
    refine ⟨vs[0], ?_, (hv 0 _ _ (Array.getElem?_eq_getElem h0) rfl).osl_inv _ _ (kx_of hid)⟩
    apply Array.ext
    · simp [hn]
    · intro k h1 h2
      cases k with
      | zero => rfl
      | succ k =>
        have hk' : k < rest.length := by simp at h2; omega
        have := (hv (k + 1) vs[k + 1] (.c rest[k]) (Array.getElem?_eq_getElem h1) (by simp [hk'])).c_inv
        simpa using this
  obtain ⟨v, rfl, hvL⟩ := hvs
  have hbase : cx.w0.heap.size ≤ w.heap.size := h.lay.below.size
  obtain ⟨hrow, xs, hown, hone, hx⟩ := h.lay.objs id _ hid
  have hs : ∀ r ∈ vals, r.length = sz := fun r hr => by
    have := hrow (r.map .c) (List.mem_map.2 ⟨r, hr, rfl⟩)
    simpa using this
  have hxs : xs = vals.flatten := flatten_ext hs (by simpa [rowsC] using hown.1) fun i j hi hj => by
    obtain ⟨x, hx1, hx2⟩ := hx i j ((vals[i]).map .c) (.c (vals[i])[j]) (by simp [rowsC, hi]) (by simp [hj])
    rw [hx1]
    cases hx2
    rfl
  subst hxs
  have hown : OwnsR w cx.w0.heap.size e sz v vals.length vals.flatten := by rw [hvL]; simpa [rowsC] using hown
  refine (hupd.2 w v _ hown).mono ?_
  rintro ex w' ⟨v', rfl, hown', hgrow, hblk⟩
  have vb : ∀ {x : Value} {n : Nat} {l : List Value} {w : World}, OwnsR w cx.w0.heap.size e sz x n l → vblk x = x.ownBlock := fun hh => by
    rcases hh.2 with ⟨rfl, _⟩ | ⟨g, cap, cur, rfl, _⟩ <;> rfl
  have hvb := vb hown
  have hvb' := vb hown'
  have hold_block : ∀ g, v.ownBlock = some g → ∃ id', some id = some id' ∧ st.tab.get id' = some (.row e sz (rowsC vals)) ∧ vblk (L id') = some g := fun g hg => ⟨id, rfl, hid, by rw [← hvL, hvb]; exact hg⟩
  have hy' := h.young
  have hget : ∀ k, k < st.next → (appTab st.tab st.next (some id) (.row e sz (rowsC vals'))).get k = if (some id) = some k then none else st.tab.get k := fun k hk => by
    rw [appTab_get, if_neg (by omega)]
  have hgetS : ∀ k o, (appTab st.tab st.next (some id) (.row e sz (rowsC vals'))).get k = some o → (k = st.next ∧ o = .row e sz (rowsC vals')) ∨ (k < st.next ∧ (some id) ≠ some k ∧ st.tab.get k = some o) := fun k o hk => by
    rw [appTab_get] at hk
    split at hk
    · rename_i e'
      cases hk
      exact .inl ⟨e', rfl⟩
    · split at hk
      · cases hk
      · rename_i h1
        exact .inr ⟨(hy' k o hk).1, h1, hk⟩
  have hLn : ∀ k, k < st.next → updL L st.next v' k = L k := fun k hk => by unfold updL; rw [if_neg (by omega)]
  have hLx : updL L st.next v' st.next = v' := by simp [updL]
  -- the blocks of other objects
  have hother : ∀ k o g, k < st.next → (some id) ≠ some k → st.tab.get k = some o → vblk (L k) = some g → some g ≠ v.ownBlock ∧ some g ≠ v'.ownBlock := fun k o g hk hne ho hg => by
    have h1 : some g ≠ v.ownBlock := fun e' => by
      obtain ⟨id', hid', hti, hbi⟩ := hold_block g e'.symm
      exact hne (by rw [hid', h.lay.sep id' k _ o g hti ho hbi hg])
    refine ⟨h1, fun e' => ?_⟩
    exact h1 (by rw [e', hblk])
  have hext : Ext cx w st.tab L st.next w' (appTab st.tab st.next (some id) (.row e sz (rowsC vals'))) (updL L st.next v') := by
    refine ⟨fun p hp => World.cell?_of_block (hgrow.block p.block hp.1 fun e' => ?_), fun b hS => ⟨Nat.lt_of_lt_of_le hS.1 hgrow.size, hS.2.1, fun k o hk hg => ?_⟩, fun k p hk hK => ?_⟩
    · obtain ⟨id', _, hti, hbi⟩ := hold_block p.block e'.symm
      exact hp.2.2 id' _ hti hbi
    · rcases hgetS k o hk with ⟨rfl, _⟩ | ⟨hlt, _, ho⟩
      · rw [hLx, hvb'] at hg
        rw [hblk] at hg
        obtain ⟨id', _, hti, hbi⟩ := hold_block b hg
        exact hS.2.2 id' _ hti hbi
      · rw [hLn k hlt] at hg
        exact hS.2.2 k o ho hg
    · unfold Kx at *
      rw [hget k hk, hLn k hk] at hK
      split at hK
      · cases hK
      · exact hK
  have hbel : Below cx.w0.heap.size cx.w0 w' := h.lay.below.grown hgrow hbase fun k hk => (hown.lt k hk).1
  refine ⟨v', .osl st.next, { st with tab := appTab st.tab st.next (some id) (.row e sz (rowsC vals')), next := st.next + 1 }, updL L st.next v', rfl, hk, ?_⟩
  refine conc_put h ⟨hbel, fun k o hk => ?_, fun k k' o o' g h1 h2 h3 h4 => ?_⟩ hext (Nat.le_succ _) (fun k o hk => ?_) ?_ (Nat.lt_succ_self _) dst
  · rcases hgetS k o hk with ⟨rfl, rfl⟩ | ⟨hlt, hne, ho⟩
    · rw [hLx]
      refine ⟨fun row hr => ?_, vals'.flatten, by simpa [rowsC] using hown', fun x hx => ?_, fun i j row av h1 h2 => ?_⟩
      · obtain ⟨r, hr', rfl⟩ := List.mem_map.1 hr
        simpa using (hval r hr').1
      · obtain ⟨r, hr', hx⟩ := List.mem_flatten.1 hx
        exact (hval r hr').2 x hx
      · unfold rowsC at h1
        rw [List.getElem?_map] at h1
        have hi' : i < vals'.length := by
          rcases Nat.lt_or_ge i vals'.length with hlt | hge
          · exact hlt
          · rw [List.getElem?_eq_none hge] at h1; cases h1
        rw [List.getElem?_eq_getElem hi'] at h1
        simp only [Option.map_some, Option.some.injEq] at h1
        subst h1
        have hj : j < (vals'[i]).length := by
          have := (List.getElem?_eq_some_iff.1 h2).1
          simpa using this
        have hsz := (hval _ (List.getElem_mem hi')).1
        rw [List.getElem?_map, List.getElem?_eq_getElem hj] at h2
        cases h2
        have hg := flat_get (_root_.id) sz vals' (fun a ha => (hval a ha).1) i j hi' (by omega)
        rw [List.flatMap_id] at hg
        exact ⟨_, hg.trans (List.getElem?_eq_getElem hj), .c _⟩
    · rw [hLn k hlt]
      have hob := h.lay.objs k o ho
      exact hext.obj hob (hy' k o ho).2 fun g hg => hgrow.block g (hob.ge hg).2 (hother k o g hlt hne ho hg).1
  · rcases hgetS k o h1 with ⟨rfl, rfl⟩ | ⟨hlt, hne, ho⟩ <;> rcases hgetS k' o' h2 with ⟨rfl, rfl⟩ | ⟨hlt', hne', ho'⟩
    · rfl
    · rw [hLx, hvb'] at h3
      rw [hLn k' hlt'] at h4
      exact absurd h3.symm (hother k' o' g hlt' hne' ho' h4).2
    · rw [hLx, hvb'] at h4
      rw [hLn k hlt] at h3
      exact absurd h4.symm (hother k o g hlt hne ho h3).2
    · rw [hLn k hlt] at h3
      rw [hLn k' hlt'] at h4
      exact h.lay.sep k k' o o' g ho ho' h3 h4
  · rcases hgetS k o hk with ⟨rfl, rfl⟩ | ⟨hlt, _, ho⟩
    · exact ⟨Nat.lt_succ_self _, trivial⟩
    · refine ⟨by omega, ?_⟩
      have := (hy' k o ho).2
      cases o with
      | box t cells => exact ltL_iff.2 fun x hx => AV.lt_mono (Nat.le_succ _) (ltL_iff.1 this x hx)
      | row => trivial
  · refine .osl _ _ fun sz' v'' hk => ?_
    unfold Kx at hk
    rw [appTab_get, if_pos rfl] at hk
    simp at hk
    rw [hLx] at hk
    exact hk.2
end
/-- an answer whose slices are written no more -/
def Res.frz (R : Res) (id : Nat) : Res :=
  match R.tab.get id with
  | some (.row _ sz rows) => ⟨R.r.frz id sz rows, (id, none) :: frzTab id sz rows R.tab, R.n⟩
  | _ => R
def Res.frzs : Res → List Nat → Res
  | R, [] => R
  | R, id :: ids => Res.frzs (R.frz id) ids
theorem ARel.frz {P : Program} {f : FuncId} {args : List AV} {Post : Res → Prop} (h : ARel P f args Post) (id : Nat) : ARel P f args fun R => ∃ R', Post R' ∧ R = R'.frz id :=
  ⟨h.1, fun S w vs h1 h2 h3 => (h.2 S w vs h1 h2 h3).mono fun e w' ⟨v, L, R, h4, h5, h6, h7, h8⟩ => by
    have key : (R.frz id).Ok ∧ Lay ⟨S, w⟩ w' (R.frz id).tab L ∧ RVx ⟨S, w⟩ w' (R.frz id).tab L v (R.frz id).r := by
      unfold Res.frz
      split
      · rename_i e' sz rows hid
        obtain ⟨h9, h10⟩ := frz_core h7 (fun k o hk => (h5.young k o hk).2) hid
        refine ⟨⟨fun k o hk => ?_, frz_lt h5.lt⟩, h9, h10 v _ h8 h5.lt⟩
        simp only [ATab.get_cons, frzTab_get] at hk
        split at hk
        · cases hk
        · cases hg : R.tab.get k with
          | none => simp [hg] at hk
          | some o' =>
            simp [hg] at hk
            subst hk
            exact ⟨(h5.young k o' hg).1, frz_obj_lt (h5.young k o' hg).2⟩
      · exact ⟨h5, h7, h8⟩
    exact ⟨v, L, R.frz id, ⟨R, h4, rfl⟩, key.1, h6, key.2.1, key.2.2⟩⟩
/-- an answer that is plain enough has no objects -/
theorem ARel.drop {P : Program} {f : FuncId} {args : List AV} {Post : Res → Prop} (h : ARel P f args Post) : ARel P f args fun R => ∃ R', Post R' ∧ ((R'.r.lt 0 ∧ R = ⟨R'.r, [], 0⟩) ∨ (¬ R'.r.lt 0 ∧ R = R')) :=
  ⟨h.1, fun S w vs h1 h2 h3 => (h.2 S w vs h1 h2 h3).mono fun e w' ⟨v, L, R, h4, h5, h6, h7, h8⟩ => by
    by_cases hl : R.r.lt 0
    · have hext : Ext ⟨S, w⟩ w' R.tab L 0 w' [] L := ⟨fun _ _ => rfl, fun b hb => ⟨hb.1, hb.2.1, fun k o hk => (by cases hk)⟩, fun k p _ hk => by simp [Kx, ATab.get] at hk⟩
      exact ⟨v, L, ⟨R.r, [], 0⟩, ⟨R, h4, .inl ⟨hl, rfl⟩⟩, ⟨fun id o hk => (by cases hk), hl⟩, h6, ⟨h7.below, fun id o hk => (by cases hk), fun id id' o o' g hk => (by cases hk)⟩, hext.rv h8 hl⟩
    · exact ⟨v, L, R, ⟨R, h4, .inr ⟨hl, rfl⟩⟩, h5, h6, h7, h8⟩⟩
theorem ADet.frzs {P : Program} {f : FuncId} {args : List AV} {R : Res} : ∀ (ids : List Nat) {R : Res}, ADet P f args R → ADet P f args (R.frzs ids)
  | [], _, h => h
  | id :: ids, R, h => ADet.frzs ids (R := R.frz id) ((ARel.frz h id).mono fun R' ⟨R'', h1, h2⟩ => by rw [h2, h1])
/-- the answer's slices are written no more -/
theorem ADet.still {P : Program} {f : FuncId} {args : List AV} {R : Res} {r : AV} (ids : List Nat) (h : ADet P f args R) (hr : (R.frzs ids).r = r) (hl : r.lt 0) : ADet P f args ⟨r, [], 0⟩ :=
  (ARel.drop (ADet.frzs (R := R) ids h)).mono fun R' ⟨R'', h1, h2⟩ => by
    subst h1
    rcases h2 with ⟨_, h2⟩ | ⟨h2, _⟩
    · rw [h2, hr]
    · exact absurd (hr ▸ hl) h2
theorem callZ {P : Program} {st : ASt} {g : FuncId} {args : List AV} {K : AV → ASt → Prop} {R : Res} (ids : List Nat) (h : ADet P g ((frzAVs st ids args).map (dref (frzs st ids).tab)) R) (ho : roL (frzAVs st ids args) ∨ (R.r.plain ∧ R.tab.plain))
    (hk : K (R.r.shift (frzs st ids).next) { frzs st ids with tab := R.tab.shift (frzs st ids).next ++ (frzs st ids).tab, next := (frzs st ids).next + R.n }) : aCall true P st g args K :=
  .inr ⟨rfl, .inr ⟨ids, _, h, fun R' hR => by subst hR; exact ⟨ho, hk⟩⟩⟩
end Go.Proofs.Ytfocnmkbnccilaa
