/-
  ABSTRACT VALUES: literals, make, a store into a slice of its own. Of whatever program.
-/
import Derived.Test.YtfocnmkbnccilaaAlE
set_option linter.unusedVariables false
set_option linter.unusedSimpArgs false
namespace Go.Proofs.Ytfocnmkbnccilaa
open Go.RowKit

theorem foldl_set_get (off : Nat) : ∀ (l : List Value) (n : Nat) (cells : Array Value), off + n + l.length ≤ cells.size → ∀ k, ((l.zipIdx n).foldl (fun cs (p : Value × Nat) => cs.setIfInBounds (off + p.2) p.1) cells)[k]? = if off + n ≤ k ∧ k < off + n + l.length then l[k - (off + n)]? else cells[k]?
  | [], n, cells, _, k => by simp; omega
  | v :: l, n, cells, h, k => by
    simp only [List.zipIdx_cons, List.foldl_cons, List.length_cons] at h ⊢
    rw [foldl_set_get off l (n + 1) _ (by simp; omega)]
    by_cases h1 : off + n = k
    · subst h1
      rw [if_neg (by omega), if_pos (by omega), Array.getElem?_setIfInBounds_self_of_lt (by omega)]
      simp
    · by_cases h2 : off + (n + 1) ≤ k ∧ k < off + (n + 1) + l.length
      · rw [if_pos h2, if_pos (by omega)]
        rw [show k - (off + n) = (k - (off + (n + 1))) + 1 by omega, List.getElem?_cons_succ]
      · rw [if_neg h2, if_neg (by omega), Array.getElem?_setIfInBounds_ne h1]
theorem fill_one (off : Nat) (v : Array Value) (cells : Array Value) (h : off + v.size ≤ cells.size) : (v.zipIdx.foldl (fun cs (p : Value × Nat) => cs.setIfInBounds (off + p.2) p.1) cells) = (cells.toList.take off ++ v.toList ++ cells.toList.drop (off + v.size)).toArray := by
  have e : v.zipIdx.foldl (fun cs (p : Value × Nat) => cs.setIfInBounds (off + p.2) p.1) cells = (v.toList.zipIdx 0).foldl (fun cs (p : Value × Nat) => cs.setIfInBounds (off + p.2) p.1) cells := by
    rw [← Array.foldl_toList]
    congr 1
    simp
  rw [e]
  apply Array.ext_getElem?
  intro k
  rw [foldl_set_get off v.toList 0 cells (by simpa using h) k]
  have := splice_get cells.toList off v.toList (by simpa using h) k
  simp only [Array.length_toList] at this
  simp only [List.getElem?_toArray, this, Array.length_toList, Nat.add_zero]
  simp
/-- every part in its order, each of so many cells -/
theorem fill_all (sz : Nat) : ∀ (parts : List (Nat × Value)) (k : Nat) (cells : Array Value), parts.map (·.1) = List.range' k parts.length → (∀ p ∈ parts, p.2.cells.size = sz) → cells.size = (k + parts.length) * sz →
    ∃ c : Array Value, Instr.fill (fun i => some (i * sz, sz)) cells parts = some c ∧ c.toList = cells.toList.take (k * sz) ++ parts.flatMap (·.2.cells.toList)
  | [], k, cells, _, _, hs => ⟨cells, rfl, by simp at hs; simp [List.take_of_length_le, hs]⟩
  | (i, v) :: rest, k, cells, hi, hp, hs => by
    simp only [List.map_cons, List.length_cons, List.range'_succ, List.cons.injEq] at hi hs
    obtain ⟨rfl, hi⟩ := hi
    have hv := hp (i, v) (by simp)
    simp only at hv
    have hmul : (i + (rest.length + 1)) * sz = i * sz + sz + rest.length * sz := by rw [Nat.add_mul, Nat.add_mul]; omega
    have hfit : i * sz + v.cells.size ≤ cells.size := by rw [hs, hmul, hv]; omega
    have hone := fill_one (i * sz) v.cells cells hfit
    obtain ⟨c, h1, h2⟩ := fill_all sz rest (i + 1) (cells.toList.take (i * sz) ++ v.cells.toList ++ cells.toList.drop (i * sz + v.cells.size)).toArray hi (fun p hp' => hp p (by simp [hp'])) (by
      simp [hs, hv, hmul, Nat.add_mul] <;> omega)
    refine ⟨c, ?_, ?_⟩
    · unfold Instr.fill
      simp only
      rw [if_neg (by simp [hv]; omega)]
      rw [hone]
      exact h1
    · rw [h2]
      simp only [List.flatMap_cons]
      rw [← List.append_assoc]
      congr 1
      have hl : ((cells.toList.take (i * sz)).length) = i * sz := by
        rw [List.length_take]
        simp
        omega
      rw [List.take_append_of_le_length (by simp [hl, hv, Nat.add_mul])]
      rw [List.take_of_length_le (by simp [hl, hv, Nat.add_mul])]
theorem flat_get {α β : Type} (f : α → List β) (sz : Nat) : ∀ (l : List α), (∀ a ∈ l, (f a).length = sz) → ∀ i j (h : i < l.length), j < sz → (l.flatMap f)[i * sz + j]? = (f l[i])[j]?
  | [], _, i, _, h, _ => absurd h (by simp)
  | a :: l, hs, i, j, h, hj => by
    rw [List.flatMap_cons]
    have ha := hs a (by simp)
    cases i with
    | zero => rw [Nat.zero_mul, Nat.zero_add, List.getElem?_append_left (by omega)]; rfl
    | succ i =>
      rw [List.getElem?_append_right (by rw [ha, Nat.add_mul]; omega), ha, show (i + 1) * sz + j - sz = i * sz + j by rw [Nat.add_mul]; omega]
      exact flat_get f sz l (fun a h => hs a (by simp [h])) i j (by simpa using h) hj
theorem flat_len {α β : Type} (f : α → List β) (sz : Nat) : ∀ (l : List α), (∀ a ∈ l, (f a).length = sz) → (l.flatMap f).length = l.length * sz
  | [], _ => by simp
  | a :: l, hs => by
    rw [List.flatMap_cons, List.length_append, hs a (by simp), flat_len f sz l (fun a h => hs a (by simp [h])), List.length_cons, Nat.add_mul]
    omega

/-- it names no object of the call's own -/
def treeC : AV → Prop
  | .osl _ => False
  | .op _ _ _ => False
  | .agg _ => False
  | .tup _ => False
  | .fn _ _ => False
  | _ => True
def treeL : List AV → Prop
  | [] => True
  | a :: l => treeC a ∧ treeL l
theorem treeL_iff : ∀ {l : List AV}, treeL l ↔ ∀ a ∈ l, treeC a
  | [] => by simp [treeL]
  | a :: l => by simp [treeL, treeL_iff (l := l)]
section
variable {P : Program} {cx : Cx} {a : Act} {w w' : World} {tab : ATab} {st : ASt} {L : Nat → Value} {nx : Nat}
theorem tree_of {x : Value} {av : AV} (h : RVx cx w tab L x av) (ht : treeC av) : RT w (Sx cx w tab L) x av := by
  cases h with
  | tree h => exact h
  | osl => exact ht.elim
  | op => exact ht.elim
  | agg => exact ht.elim
  | tup => exact ht.elim
  | fn => exact ht.elim

/-- a new slice of its own, made whole -/
theorem conc_row {t e sz by_ : Nat} (h : Conc cx a w st L) (h0 : 0 < sz) {cells : Array Value} {rows : List (List AV)} (hr : ∀ row ∈ rows, row.length = sz) (hn : cells.size = rows.length * sz) (hm : rows.length ≤ 9223372036854775807) (h1 : ∀ x ∈ cells, x.oneCell' = true)
    (hx : ∀ (i j : Nat) (row : List AV) (av : AV), rows[i]? = some row → row[j]? = some av → ∃ x, cells[i * sz + j]? = some x ∧ RT w (Sx cx w st.tab L) x av) (dst : Option Nat) :
    Conc cx (a.put dst (.slice (some ⟨w.heap.size, 0, none⟩) rows.length rows.length)) (w.alloc (.cells cells e)) ({ st with tab := (st.next, some (.row e sz rows)) :: st.tab, next := st.next + 1 }.put dst (.osl st.next)) (updL L st.next (.slice (some ⟨w.heap.size, 0, none⟩) rows.length rows.length)) := by
  refine conc_new (ob := .row e sz rows) (v := .slice (some ⟨w.heap.size, 0, none⟩) rows.length rows.length) h ((Below.refl _ _).alloc (Nat.le_refl _) _) (fun g hg => ?_) (fun hext => ⟨hr, cells.toList, ⟨by simpa using hn, .inr ⟨w.heap.size, _, cells, rfl, h.lay.below.size, heap_alloc_new w _, Nat.le_refl _, by simpa [maxLen] using hm, Nat.le_of_eq hn.symm, ?_⟩⟩, fun x hx' => h1 x (by simpa using hx'), fun i j row av ha hb => ?_⟩) trivial (fun hext => ?_) (Nat.lt_succ_self _) dst
  · simp [vblk] at hg
    omega
  · exact List.take_of_length_le (by simp [hn])
  · obtain ⟨x, hx1, hx2⟩ := hx i j row av ha hb
    exact ⟨x, by simpa using hx1, hext.rt hx2⟩
  · refine .osl _ _ fun sz' v'' hk => ?_
    simp [Kx, ATab.get_cons, updL] at hk
    exact hk.2

/-! ### a slice of the call's own is written no more -/
mutual
def AV.frz (id sz : Nat) (rows : List (List AV)) : AV → AV
  | .osl k => if k = id then .sl sz rows else .osl k
  | .agg cs => .agg (AV.frzL id sz rows cs)
  | .tup cs => .tup (AV.frzL id sz rows cs)
  | .fn f cs => .fn f (AV.frzL id sz rows cs)
  | .op k i j => .op k i j
  | .any => .any
  | .c v => .c v
  | .sl sz rows => .sl sz rows
  | .rp cs => .rp cs
def AV.frzL (id sz : Nat) (rows : List (List AV)) : List AV → List AV
  | [] => []
  | a :: l => a.frz id sz rows :: AV.frzL id sz rows l
end
theorem frzL_map (id sz : Nat) (rows : List (List AV)) : ∀ l : List AV, AV.frzL id sz rows l = l.map (·.frz id sz rows)
  | [] => rfl
  | a :: l => by simp [AV.frzL, frzL_map id sz rows l]
def frzEnv (id sz : Nat) (rows : List (List AV)) : List (Nat × AV) → List (Nat × AV)
  | [] => []
  | (t, av) :: l => (t, av.frz id sz rows) :: frzEnv id sz rows l
def AObj.frz (id sz : Nat) (rows : List (List AV)) : AObj → AObj
  | .box t cells => .box t (AV.frzL id sz rows cells)
  | .row e s r => .row e s r
def frzTab (id sz : Nat) (rows : List (List AV)) : ATab → ATab
  | [] => []
  | (k, o) :: l => (k, o.map (AObj.frz id sz rows)) :: frzTab id sz rows l
theorem frzTab_get (id sz : Nat) (rows : List (List AV)) : ∀ (l : ATab) (k : Nat), (frzTab id sz rows l).get k = (l.get k).map (AObj.frz id sz rows)
  | [], k => by simp [frzTab, ATab.get]
  | (q, o) :: l, k => by
    simp only [frzTab, ATab.get_cons]
    split
    · rfl
    · exact frzTab_get id sz rows l k
theorem frz_sz (id sz : Nat) (rows : List (List AV)) (o : AObj) : (o.frz id sz rows).sz = o.sz := by cases o <;> simp [AObj.frz, AObj.sz, frzL_map]
def frz1 (st : ASt) (id : Nat) : ASt :=
  match st.tab.get id with
  | some (.row _ sz rows) => { st with env := frzEnv id sz rows st.env, tab := (id, none) :: frzTab id sz rows st.tab }
  | _ => st
def frzs (st : ASt) : List Nat → ASt
  | [] => st
  | id :: ids => frzs (frz1 st id) ids
/-- the slices of its own that these cells name -/
def ownIds : List AV → List Nat
  | [] => []
  | .osl id :: l => id :: ownIds l
  | _ :: l => ownIds l
theorem frzEnv_get (id sz : Nat) (rows : List (List AV)) : ∀ (l : List (Nat × AV)) (t : Nat), aget (frzEnv id sz rows l) t = (aget l t).frz id sz rows
  | [], t => by simp [frzEnv, aget, AV.frz]
  | (k, av) :: l, t => by
    simp only [frzEnv, aget]
    split
    · rfl
    · exact frzEnv_get id sz rows l t
theorem frz_lt {id sz nx : Nat} {rows : List (List AV)} : ∀ {av : AV}, av.lt nx → (av.frz id sz rows).lt nx := by
  intro av
  induction av using AV.rec (motive_2 := fun _ => True) (motive_3 := fun l => AV.ltL nx l → AV.ltL nx (AV.frzL id sz rows l)) <;> simp_all [AV.lt, AV.ltL, AV.frz, AV.frzL]
  split <;> simp_all [AV.lt]
theorem rt_row {e : TypeId} {sz : Nat} {v : Value} {rows : List (List AV)} {S : Nat → Prop} (h : ObjAt cx w tab L v (.row e sz rows)) (hS : ∀ b, Sx cx w tab L b → S b) (hg : ∀ g, vblk v = some g → S g) : RT w S v (.sl sz rows) := by
  obtain ⟨hrow, xs, hown, hone, hx⟩ := h
  have hm : ∀ i j row av, rows[i]? = some row → row[j]? = some av → (xs[i * sz + j]?.getD undef).oneCell' = true ∧ RT w S (xs[i * sz + j]?.getD undef) av ∧ ∃ x, xs[i * sz + j]? = some x := fun i j row av h1 h2 => by
    obtain ⟨x, hx1, hx2⟩ := hx i j row av h1 h2
    rw [hx1]
    exact ⟨hone x (List.mem_of_getElem? hx1), hx2.mono (fun _ _ => rfl) hS, x, rfl⟩
  rcases hown.2 with ⟨rfl, h0⟩ | ⟨g, cap, cur, rfl, hb, hgh, hc, hm', _⟩
  · exact .sl none _ 0 sz rows 0 0 (fun i j => xs[i * sz + j]?.getD undef) h0.symm (Nat.le_refl _) (by omega) (fun h => by omega) hrow (fun h => by omega) (fun i j row av h1 h2 => (hm i j row av h1 h2).1) (fun i j row av h1 h2 => (hm i j row av h1 h2).2.1)
  · refine .sl _ _ cap sz rows g 0 (fun i j => xs[i * sz + j]?.getD undef) rfl hc (by simpa [maxLen] using hm') (fun _ => ⟨rfl, hg g rfl⟩) hrow (fun _ i j row av h1 h2 => ?_) (fun i j row av h1 h2 => (hm i j row av h1 h2).1) (fun i j row av h1 h2 => (hm i j row av h1 h2).2.1)
    obtain ⟨x, hx⟩ := (hm i j row av h1 h2).2.2
    have := hown.cells (g := g) rfl _ x hx
    rw [addAddr0] at this
    rw [hx, Nat.zero_add]
    exact this
theorem frz_core {e id sz : Nat} {rows : List (List AV)} (hL : Lay cx w tab L) (hy : ∀ id o, tab.get id = some o → o.lt nx) (hid : tab.get id = some (.row e sz rows)) :
    Lay cx w ((id, none) :: frzTab id sz rows tab) L ∧ ∀ x av, RVx cx w tab L x av → av.lt nx → RVx cx w ((id, none) :: frzTab id sz rows tab) L x (av.frz id sz rows) := by
    have ht : ∀ k, ATab.get ((id, none) :: frzTab id sz rows tab) k = if k = id then none else (tab.get k).map (AObj.frz id sz rows) := fun k => by rw [ATab.get_cons, frzTab_get]
    have hsub : ∀ k o, ATab.get ((id, none) :: frzTab id sz rows tab) k = some o → k ≠ id ∧ ∃ o', tab.get k = some o' ∧ o = o'.frz id sz rows := fun k o hk => by
      rw [ht] at hk
      split at hk
      · cases hk
      · cases hg : tab.get k with
        | none => simp [hg] at hk
        | some o' =>
          simp [hg] at hk
          exact ⟨by assumption, o', rfl, hk.symm⟩
    have hext : Ext cx w tab L nx w ((id, none) :: frzTab id sz rows tab) L := by
      refine ⟨fun _ _ => rfl, fun b hb => ⟨hb.1, hb.2.1, fun k o hk => by obtain ⟨_, o', h1, _⟩ := hsub k o hk; exact hb.2.2 k o' h1⟩, fun k p _ hk => ?_⟩
      unfold Kx at *
      rw [ht] at hk
      split at hk
      · cases hk
      · cases hg : tab.get k with
        | none => simp [hg] at hk
        | some o' =>
          simp [hg, frz_sz] at hk ⊢
          exact hk
    have hob := hL.objs id _ hid
    have hrow : RT w (Sx cx w ((id, none) :: frzTab id sz rows tab) L) (L id) (.sl sz rows) := rt_row hob hext.sub fun g hg => ⟨(hob.ge hg).2, .inr (hob.ge hg).1, fun k o hk hg' => by
      obtain ⟨h1, o', h2, _⟩ := hsub k o hk
      exact h1 (hL.sep k id o' _ g h2 hid hg' hg)⟩
    have conv : ∀ x av, RVx cx w tab L x av → av.lt nx → RVx cx w ((id, none) :: frzTab id sz rows tab) L x (av.frz id sz rows) := fun x av hr => by
      induction hr with
      | tree h0 =>
        intro hl
        have e1 : ∀ {x av}, RT w (Sx cx w tab L) x av → av.frz id sz rows = av := fun hh => by
          induction hh with
          | agg xs cs hn hr ih =>
            simp only [AV.frz, frzL_map, AV.agg.injEq]
            apply List.ext_getElem?
            intro j
            rw [List.getElem?_map]
            cases hj : cs[j]? with
            | none => rfl
            | some av =>
              have hlt : j < xs.size := by rw [hn]; exact (List.getElem?_eq_some_iff.1 hj).1
              simp [ih j _ av (Array.getElem?_eq_getElem hlt) hj]
          | tup xs cs hn hr ih =>
            simp only [AV.frz, frzL_map, AV.tup.injEq]
            apply List.ext_getElem?
            intro j
            rw [List.getElem?_map]
            cases hj : cs[j]? with
            | none => rfl
            | some av =>
              have hlt : j < xs.size := by rw [hn]; exact (List.getElem?_eq_some_iff.1 hj).1
              simp [ih j _ av (Array.getElem?_eq_getElem hlt) hj]
          | fn fi xs cs hn hr ih =>
            simp only [AV.frz, frzL_map, AV.fn.injEq, true_and]
            apply List.ext_getElem?
            intro j
            rw [List.getElem?_map]
            cases hj : cs[j]? with
            | none => rfl
            | some av =>
              have hlt : j < xs.size := by rw [hn]; exact (List.getElem?_eq_some_iff.1 hj).1
              simp [ih j _ av (Array.getElem?_eq_getElem hlt) hj]
          | _ => simp [AV.frz]
        rw [e1 h0]
        exact .tree (hext.rt h0)
      | osl x k hk =>
        intro hl
        simp only [AV.frz]
        split
        · rename_i e1
          subst e1
          rw [hk _ _ (kx_of hid)]
          exact .tree hrow
        · exact hext.rv (.osl x k hk) hl
      | op x k i j hk =>
        intro hl
        exact hext.rv (.op x k i j hk) hl
      | agg xs cs hn hr ih =>
        intro hl
        simp only [AV.frz, frzL_map]
        refine .agg xs _ (by simpa using hn) fun j x av h1 h2 => ?_
        rw [List.getElem?_map] at h2
        cases hj : cs[j]? with
        | none => simp [hj] at h2
        | some av' =>
          simp [hj] at h2
          subst h2
          exact ih j x av' h1 hj (ltL_iff.1 hl _ (List.mem_of_getElem? hj))
      | tup xs cs hn hr ih =>
        intro hl
        simp only [AV.frz, frzL_map]
        refine .tup xs _ (by simpa using hn) fun j x av h1 h2 => ?_
        rw [List.getElem?_map] at h2
        cases hj : cs[j]? with
        | none => simp [hj] at h2
        | some av' =>
          simp [hj] at h2
          subst h2
          exact ih j x av' h1 hj (ltL_iff.1 hl _ (List.mem_of_getElem? hj))
      | fn fi xs cs hn hr ih =>
        intro hl
        simp only [AV.frz, frzL_map]
        refine .fn fi xs _ (by simpa using hn) fun j x av h1 h2 => ?_
        rw [List.getElem?_map] at h2
        cases hj : cs[j]? with
        | none => simp [hj] at h2
        | some av' =>
          simp [hj] at h2
          subst h2
          exact ih j x av' h1 hj (ltL_iff.1 hl _ (List.mem_of_getElem? hj))
    refine ⟨⟨hL.below, fun k o hk => ?_, fun k k' o o' g h1 h2 => ?_⟩, conv⟩
    · obtain ⟨_, o', h1, rfl⟩ := hsub k o hk
      have ho := hL.objs k o' h1
      have hlo := hy k o' h1
      cases o' with
      | row e' s r => exact hext.obj ho hlo fun _ _ => rfl
      | box t cells =>
        obtain ⟨g, cs, h2, h3, h4, h5, h6⟩ := ho
        refine ⟨g, cs, h2, h3, h4, by simpa [frzL_map] using h5, fun j x av h7 h8 => ?_⟩
        rw [frzL_map, List.getElem?_map] at h8
        cases hj : cells[j]? with
        | none => simp [hj] at h8
        | some av' =>
          simp [hj] at h8
          subst h8
          exact ⟨conv x av' (h6 j x av' h7 hj).1 (ltL_iff.1 hlo _ (List.mem_of_getElem? hj)), (h6 j x av' h7 hj).2⟩
    · obtain ⟨_, o1, h3, _⟩ := hsub k o h1
      obtain ⟨_, o2, h4, _⟩ := hsub k' o' h2
      exact hL.sep k k' o1 o2 g h3 h4
theorem frz_obj_lt {id sz nx : Nat} {rows : List (List AV)} {o : AObj} (h : o.lt nx) : (o.frz id sz rows).lt nx := by
  cases o with
  | row => trivial
  | box t cells =>
    show AV.ltL nx _
    rw [frzL_map]
    refine ltL_iff.2 fun a ha => ?_
    obtain ⟨b, hb, rfl⟩ := List.mem_map.1 ha
    exact frz_lt (ltL_iff.1 h b hb)
def frzAV (st : ASt) (id : Nat) (av : AV) : AV :=
  match st.tab.get id with
  | some (.row _ sz rows) => av.frz id sz rows
  | _ => av
theorem conc_frz1 (h : Conc cx a w st L) (id : Nat) : Conc cx a w (frz1 st id) L ∧ ∀ x av, RVx cx w st.tab L x av → av.lt st.next → RVx cx w (frz1 st id).tab L x (frzAV st id av) ∧ (frzAV st id av).lt (frz1 st id).next := by
  unfold frz1 frzAV
  split
  · rename_i e sz rows hid
    obtain ⟨h1, h2⟩ := frz_core h.lay (fun k o hk => (h.young k o hk).2) hid
    refine ⟨⟨h1, h.size, h.defers, fun k o hk => ?_, fun t => ?_⟩, fun x av h3 h4 => ⟨h2 x av h3 h4, frz_lt h4⟩⟩
    · simp only [ATab.get_cons, frzTab_get] at hk
      split at hk
      · cases hk
      · cases hg : st.tab.get k with
        | none => simp [hg] at hk
        | some o' =>
          simp [hg] at hk
          subst hk
          exact ⟨(h.young k o' hg).1, frz_obj_lt (h.young k o' hg).2⟩
    · have e1 : ({ st with env := frzEnv id sz rows st.env, tab := (id, none) :: frzTab id sz rows st.tab } : ASt).get t = (st.get t).frz id sz rows := by
        unfold ASt.get
        simp only
        split
        · exact frzEnv_get ..
        · simp [AV.frz]
      rw [e1]
      exact ⟨h2 _ _ (h.env t).1 (h.env t).2, frz_lt (h.env t).2⟩
  · exact ⟨h, fun x av h1 h2 => ⟨h1, h2⟩⟩
/-- values, those slices being written no more -/
def frzAVs (st : ASt) : List Nat → List AV → List AV
  | [], l => l
  | id :: ids, l => frzAVs (frz1 st id) ids (l.map (frzAV st id))
theorem conc_frzs : ∀ (ids : List Nat) {st : ASt}, Conc cx a w st L → Conc cx a w (frzs st ids) L
  | [], _, h => h
  | id :: ids, _, h => conc_frzs ids (conc_frz1 h id).1
theorem frzAVs_ok : ∀ (ids : List Nat) {st : ASt} {vs : Array Value} {avs : List AV}, Conc cx a w st L → (∀ (j : Nat) (v : Value) (av : AV), vs[j]? = some v → avs[j]? = some av → RVx cx w st.tab L v av ∧ av.lt st.next) →
    (frzAVs st ids avs).length = avs.length ∧ ∀ (j : Nat) (v : Value) (av : AV), vs[j]? = some v → (frzAVs st ids avs)[j]? = some av → RVx cx w (frzs st ids).tab L v av ∧ av.lt (frzs st ids).next
  | [], _, _, _, _, hv => ⟨rfl, hv⟩
  | id :: ids, st, vs, avs, h, hv => by
    have h1 := conc_frz1 h id
    obtain ⟨h2, h3⟩ := frzAVs_ok ids (vs := vs) (avs := avs.map (frzAV st id)) h1.1 fun j v av h4 h5 => by
      rw [List.getElem?_map] at h5
      cases hj : avs[j]? with
      | none => simp [hj] at h5
      | some av' =>
        simp [hj] at h5
        subst h5
        exact h1.2 v av' (hv j v av' h4 hj).1 (hv j v av' h4 hj).2
    exact ⟨by rw [frzAVs, h2, List.length_map], h3⟩

/-! ### a literal of a slice, each element told -/
def aLit (tab : ATab) (sz : Nat) : List AV → Prop
  | [] => True
  | x :: l => (aCells x).length = sz ∧ oneCL tab (aCells x) ∧ treeL (aCells x) ∧ aLit tab sz l
theorem aLit_iff {sz : Nat} : ∀ {l : List AV}, aLit tab sz l ↔ ∀ x ∈ l, (aCells x).length = sz ∧ oneCL tab (aCells x) ∧ treeL (aCells x)
  | [] => by simp [aLit]
  | x :: l => by simp [aLit, aLit_iff (l := l), and_assoc]
theorem buildSlice_ok {t e sz by_ : Nat} {parts : List (Nat × Operand)} (h : Conc cx a w st L) (ht : tyRow P t = some (e, sz, by_)) (hp : parts.map (·.1) = List.range' 0 parts.length) (hlen : parts.length * sz ≤ 16777216)
    (hl : aLit st.tab sz (parts.map fun p => aEv st p.2)) (dst : Option Nat) :
    ∃ v' w' L', (Instr.buildSlice t parts.length (parts.toArray.map fun (p : Nat × Operand) => (p.1, a.eval p.2))).run P w = .ok v' w' ∧
      Conc cx (a.put dst v') w' ({ st with tab := (st.next, some (.row e sz (parts.map fun (p : Nat × Operand) => aCells (aEv st p.2)))) :: st.tab, next := st.next + 1 }.put dst (.osl st.next)) L' ∧
      Below w.heap.size w w' ∧ L' = updL L st.next v' ∧ vblk v' = some w.heap.size := by
  obtain ⟨i, z, hund, hi, hz, hs, hb, hzs, hsz⟩ := tyRow_some ht
  have hl' := aLit_iff.1 hl
  have hcell : ∀ p ∈ parts, (a.eval p.2).cells.size = sz ∧ ∀ (j : Nat) (x : Value) (av : AV), (a.eval p.2).cells[j]? = some x → (aCells (aEv st p.2))[j]? = some av → RVx cx w st.tab L x av ∧ x.oneCell' = true := fun p hp' => by
    have hm := hl' (aEv st p.2) (List.mem_map.2 ⟨p, hp', rfl⟩)
    have he := eval_ok h p.2
    have := cells_ok h.lay he.1 he.2 hm.2.1
    exact ⟨this.1.trans hm.1, this.2.2⟩
  obtain ⟨c, hc1, hc2⟩ := fill_all sz (parts.map fun p => (p.1, a.eval p.2)) 0 ((Array.range (parts.length * sz)).map (z.cells[· % z.cells.size]!)) (by simpa [List.map_map, Function.comp_def] using hp) (fun p hp' => by
    simp at hp'
    obtain ⟨i', o', hio, rfl⟩ := hp'
    exact (hcell _ hio).1) (by simp)
  simp only [Nat.zero_mul, List.take_zero, List.nil_append, List.flatMap_map] at hc2
  have hrun : (Instr.buildSlice t parts.length (parts.toArray.map fun (p : Nat × Operand) => (p.1, a.eval p.2))).run P w = .ok (.slice (some ⟨w.heap.size, 0, none⟩) parts.length parts.length) (w.alloc (.cells c e)) := by
    have hnb : ¬ (2 ^ 24 < parts.length * sz) := by omega
    rcases Nat.eq_zero_or_pos parts.length with h0 | hpos
    · have : parts = [] := List.length_eq_zero_iff.1 h0
      subst this
      have hce : c = #[] := by
        rw [List.flatMap_nil] at hc2
        exact Array.toList_eq_nil_iff.1 hc2
      subst hce
      simp [Instr.buildSlice, Sem.run_bind, run_underlying hund, sizeOf, typeInfo, hi, hs, zeroValue, hz, newRow, Instr.fill]
      congr 2
      exact Array.eq_empty_of_size_eq_zero (by simp)
    have hne : ¬ parts.length * sz = 0 := by
      intro e
      rcases Nat.mul_eq_zero.1 e with e | e <;> omega
    simp [Instr.buildSlice, Sem.run_bind, run_underlying hund, sizeOf, typeInfo, hi, hs, hne, zeroValue, hz, newRow]
    rw [if_neg (by omega)]
    simp [hzs] at hc1
    simp [hzs, hc1]
  have hflat : ∀ (i j : Nat) (hi' : i < parts.length), j < sz → c[i * sz + j]? = (a.eval parts[i].2).cells[j]? := fun i j hi' hj => by
    have := flat_get (fun p : Nat × Operand => (a.eval p.2).cells.toList) sz parts (fun p hp' => by simpa using (hcell p hp').1) i j hi' hj
    rw [← Array.getElem?_toList, hc2, this]
    simp
  have hcs : c.size = parts.length * sz := by
    rw [← Array.length_toList, hc2]
    exact flat_len _ _ _ fun p hp' => by simpa using (hcell p hp').1
  have hrl : (parts.map fun p => aCells (aEv st p.2)).length = parts.length := by simp
  suffices hs : Conc cx (a.put dst (.slice (some ⟨w.heap.size, 0, none⟩) (parts.map fun (p : Nat × Operand) => aCells (aEv st p.2)).length (parts.map fun (p : Nat × Operand) => aCells (aEv st p.2)).length)) (w.alloc (.cells c e)) ({ st with tab := (st.next, some (.row e sz (parts.map fun (p : Nat × Operand) => aCells (aEv st p.2)))) :: st.tab, next := st.next + 1 }.put dst (.osl st.next)) (updL L st.next (.slice (some ⟨w.heap.size, 0, none⟩) (parts.map fun (p : Nat × Operand) => aCells (aEv st p.2)).length (parts.map fun (p : Nat × Operand) => aCells (aEv st p.2)).length)) by
    rw [hrl] at hs
    exact ⟨_, _, _, hrun, hs, (Below.refl _ _).alloc (Nat.le_refl _) _, rfl, rfl⟩
  refine conc_row (t := t) (by_ := by_) h hsz (fun row hr => ?_) (by rw [hrl]; exact hcs) (by rw [hrl]; have : parts.length ≤ parts.length * sz := Nat.le_mul_of_pos_right _ hsz; omega) (fun x hx => ?_) (fun i j row av ha hb => ?_) dst
  · obtain ⟨p, hp', rfl⟩ := List.mem_map.1 hr
    exact (hl' _ (List.mem_map.2 ⟨p, hp', rfl⟩)).1
  · rw [← Array.mem_toList_iff, hc2] at hx
    obtain ⟨p, hp', hx⟩ := List.mem_flatMap.1 hx
    obtain ⟨k, hk, rfl⟩ := List.getElem_of_mem hx
    have hsz' := hcell p hp'
    have hk' : k < (aCells (aEv st p.2)).length := by
      rw [(hl' _ (List.mem_map.2 ⟨p, hp', rfl⟩)).1]
      simp at hk
      omega
    simp at hk
    exact (hsz'.2 k _ _ (Array.getElem?_eq_getElem hk) (List.getElem?_eq_getElem hk')).2
  · rw [List.getElem?_map] at ha
    have hi' : i < parts.length := by
      rcases Nat.lt_or_ge i parts.length with hlt | hge
      · exact hlt
      · rw [List.getElem?_eq_none hge] at ha; cases ha
    rw [List.getElem?_eq_getElem hi'] at ha
    simp only [Option.map_some, Option.some.injEq] at ha
    subst ha
    have hm := hl' _ (List.mem_map.2 ⟨_, List.getElem_mem hi', rfl⟩)
    have hj : j < sz := by rw [← hm.1]; exact (List.getElem?_eq_some_iff.1 hb).1
    have hc := hcell _ (List.getElem_mem hi')
    have hjc : j < (a.eval parts[i].2).cells.size := by omega
    exact ⟨_, by rw [hflat i j hi' hj]; exact Array.getElem?_eq_getElem hjc, tree_of (hc.2 j _ _ (Array.getElem?_eq_getElem hjc) hb).1 (treeL_iff.1 hm.2.2 _ (List.mem_of_getElem? hb))⟩
/-! ### make -/
theorem made_get (z : Array Value) (n k : Nat) (h : k < n) : (madeCells z n)[k]? = some (z[k % z.size]!) := by
  simp [madeCells, h]
theorem make_ok {t e sz by_ : Nat} {z : Value} {n : Int} {k1 k2 : IntKind} (h : Conc cx a w st L) (ht : tyRow P t = some (e, sz, by_)) (hz : tyZero P e = some z) (h1 : oneCL [] (aCells (.c z))) (h0 : 0 ≤ n) (hn : n ≤ 16777216) (hb : (by_ : Int) * n ≤ 281474976710656) (dst : Option Nat) :
    ∃ v' w' L', (Instr.makeSlice t (.int k1 n) (.int k2 n)).run P w = .ok v' w' ∧
      Conc cx (a.put dst v') w' ({ st with tab := (st.next, some (.row e sz (List.replicate n.toNat (aCells (.c z))))) :: st.tab, next := st.next + 1 }.put dst (.osl st.next)) L' ∧ Below w.heap.size w w' ∧ L' = updL L st.next v' ∧ vblk v' = some w.heap.size := by
  obtain ⟨i, z', hund, hi, hz', hs, hby, hzs, hsz⟩ := tyRow_some ht
  have : z' = z := by simpa [tyZero, hi, hz'] using hz
  subst this
  have hrun := run_make (P := P) w t e i z' hund hi hz' k1 k2 n n h0 (Int.le_refl _) (by rw [hby]; exact hb) (by omega)
  have hcl : (aCells (.c z')).length = sz := by simp [aCells, hzs]
  have hrl : (List.replicate n.toNat (aCells (.c z'))).length = n.toNat := by simp
  suffices hs2 : Conc cx (a.put dst (.slice (some ⟨w.heap.size, 0, none⟩) (List.replicate n.toNat (aCells (.c z'))).length (List.replicate n.toNat (aCells (.c z'))).length)) (w.alloc (.cells (madeCells z'.cells (n.toNat * i.size)) e)) ({ st with tab := (st.next, some (.row e sz (List.replicate n.toNat (aCells (.c z'))))) :: st.tab, next := st.next + 1 }.put dst (.osl st.next)) (updL L st.next (.slice (some ⟨w.heap.size, 0, none⟩) (List.replicate n.toNat (aCells (.c z'))).length (List.replicate n.toNat (aCells (.c z'))).length)) by
    rw [hrl] at hs2
    exact ⟨_, _, _, hrun, hs2, (Below.refl _ _).alloc (Nat.le_refl _) _, rfl, rfl⟩
  have hzone : ∀ k, k < sz → (z'.cells[k]!).oneCell' = true := fun k hk => by
    have hk' : k < z'.cells.size := by omega
    have := oneCL_iff.1 h1 (.c z'.cells[k]) (List.mem_map.2 ⟨z'.cells[k], by simp, rfl⟩)
    rw [getElem!_pos z'.cells k hk']
    exact this
  refine conc_row (t := t) (by_ := by_) h hsz (fun row hr => ?_) (by rw [hrl, size_madeCells, hs]) (by rw [hrl]; omega) (fun x hx => ?_) (fun i' j row av ha hb => ?_) dst
  · rw [List.eq_of_mem_replicate hr, hcl]
  · obtain ⟨k, hk, rfl⟩ := Array.getElem_of_mem hx
    have hk' : k < n.toNat * i.size := by simpa [size_madeCells] using hk
    have := made_get z'.cells (n.toNat * i.size) k hk'
    rw [Array.getElem?_eq_getElem hk] at this
    rw [Option.some.inj this]
    exact hzone _ (by rw [hzs]; exact Nat.mod_lt _ hsz)
  · have hi' : i' < n.toNat := by
      have := (List.getElem?_eq_some_iff.1 ha).1
      simpa using this
    rw [List.getElem?_replicate, if_pos hi'] at ha
    cases ha
    have hj : j < sz := by rw [← hcl]; exact (List.getElem?_eq_some_iff.1 hb).1
    have hlt : i' * sz + j < n.toNat * sz := by
      have := Nat.mul_le_mul_right sz (show i' + 1 ≤ n.toNat from hi')
      rw [Nat.add_mul] at this
      omega
    have e2 : (i' * sz + j) % sz = j := by rw [Nat.add_comm, Nat.add_mul_mod_self_right, Nat.mod_eq_of_lt hj]
    refine ⟨_, by rw [hs]; exact made_get _ _ _ hlt, ?_⟩
    rw [hzs, e2]
    have hj' : j < z'.cells.size := by omega
    simp only [aCells, List.getElem?_map, Array.getElem?_toList, Array.getElem?_eq_getElem hj', Option.map_some, Option.some.injEq] at hb
    subst hb
    rw [getElem!_pos z'.cells j hj']
    exact .c _

/-! ### a store into a slice of its own -/
theorem store_row_ok {t e sz : Nat} {p v : Value} {id i j : Nat} {rows : List (List AV)} {av : AV} (h : Conc cx a w st L) (hp : RVx cx w st.tab L p (.op id i j)) (hid : st.tab.get id = some (.row e sz rows)) (hv : RVx cx w st.tab L v av) (hl : av.lt st.next)
    (hi : i < rows.length) (h0 : 0 < tySize P t) (hs : (aCells av).length = tySize P t) (ho : j + tySize P t ≤ sz) (h1 : oneCL st.tab (aCells av)) (h2 : treeL (aCells av)) (dst : Option Nat) :
    ∃ w', (Instr.storeAt t p v).run P w = .ok () w' ∧ Conc cx (a.put dst undef) w' ({ st with tab := (id, some (.row e sz (rows.set i ((rows[i]?.getD []).take j ++ aCells av ++ (rows[i]?.getD []).drop (j + tySize P t))))) :: st.tab }.put dst .any) L ∧
      w'.heap.size = w.heap.size ∧ ∀ k, vblk (L id) ≠ some k → w'.heap[k]? = w.heap[k]? := by
  obtain ⟨hn, hlt, hc⟩ := cells_ok h.lay hv hl h1
  obtain ⟨g, hg, rfl⟩ := hp.op_inv _ _ (kx_of hid)
  obtain ⟨hrow, xs, hown, hone, hx⟩ := h.lay.objs id _ hid
  simp only [AObj.sz] at hg ⊢
  rw [List.getElem?_eq_getElem hi, Option.getD_some]
  have hri : rows[i].length = sz := hrow _ (List.getElem_mem hi)
  rcases hown.2 with ⟨hL, hz⟩ | ⟨g', cap, cur, hL, hbg, hheap, hcap, hcm, hcs, htake⟩
  · omega
  have hgg : g = g' := by
    rw [hL] at hg
    simpa [vblk] using hg.symm
  subst hgg
  have hmul : i * sz + sz ≤ rows.length * sz := by
    have := Nat.mul_le_mul_right sz (show i + 1 ≤ rows.length from hi)
    rw [Nat.add_mul] at this
    omega
  have hcapm : rows.length * sz ≤ cap * sz := Nat.mul_le_mul_right _ hcap
  have hvl : v.cells.toList.length = tySize P t := by simp [hn, hs]
  have hget := splice_get cur.toList (i * sz + j) v.cells.toList (by simp only [Array.length_toList, hcs]; omega)
  rw [hvl] at hget
  refine ⟨_, run_storeAt' h0 (by omega) hheap (by omega) (fun x hx' => ?_), ?_, by simp, fun k hk => setRow_other w g k _ fun e => hk (by rw [e]; exact hg)⟩
  · obtain ⟨k, hk, rfl⟩ := Array.getElem_of_mem hx'
    have hk' : k < (aCells av).length := by omega
    exact (hc k _ _ (Array.getElem?_eq_getElem hk) (List.getElem?_eq_getElem hk')).2
  have hxs : ∀ k, k < rows.length * sz → xs[k]? = cur.toList[k]? := fun k hk => by
    rw [← htake, List.getElem?_take, if_pos hk]
  have hrl : (rows[i].take j ++ aCells av ++ rows[i].drop (j + tySize P t)).length = sz := by
    simp only [List.length_append, List.length_take, List.length_drop]
    omega
  refine conc_upd (o' := .row e sz (rows.set i (rows[i].take j ++ aCells av ++ rows[i].drop (j + tySize P t)))) h hid hg rfl (fun k hk => setRow_other w g k _ hk) ?_ (by simp) (fun hext => ⟨fun row hr => ?_, (cur.toList.take (i * sz + j) ++ v.cells.toList ++ cur.toList.drop (i * sz + j + tySize P t)).take (rows.length * sz), ?_, fun x hx' => ?_, fun i' j' row av' h3 h4 => ?_⟩) trivial dst
  · exact ⟨h.lay.below.os, h.lay.below.tape, h.lay.below.output, by simpa using h.lay.below.size, fun k hk => (setRow_other w g k _ (by omega)).trans (h.lay.below.block k hk)⟩
  · rcases List.mem_or_eq_of_mem_set hr with hr | rfl
    · exact hrow row hr
    · exact hrl
  · rw [List.length_set]
    refine ⟨?_, .inr ⟨g, cap, _, hL, hbg, setRow_heap w g cur _ e (0, 0) hheap, hcap, hcm, ?_, rfl⟩⟩
    · simp only [List.length_take, List.length_append, List.length_drop, Array.length_toList, hcs, hn, hs]
      omega
    · simp only [List.size_toArray, List.length_append, List.length_take, List.length_drop, Array.length_toList, hcs, hn, hs]
      omega
  · obtain ⟨k, hk⟩ := List.getElem?_of_mem hx'
    rw [List.getElem?_take] at hk
    split at hk
    · rename_i hkl
      rw [hget] at hk
      split at hk
      · rename_i hr
        have hk' : k - (i * sz + j) < (aCells av).length := by omega
        exact (hc _ x _ (by simpa using hk) (List.getElem?_eq_getElem hk')).2
      · exact hone x (List.mem_of_getElem? ((hxs k hkl).trans hk))
    · cases hk
  · rw [List.getElem?_set] at h3
    split at h3
    · rename_i e1
      subst e1
      first | rw [if_pos hi] at h3 | skip
      cases h3
      have hj' : j' < sz := by rw [← hrl]; exact (List.getElem?_eq_some_iff.1 h4).1
      have h4' := splice_get rows[i] j (aCells av) (by omega) j'
      rw [hs] at h4'
      rw [h4'] at h4
      have hki : i * sz + j' < rows.length * sz := by omega
      rw [List.getElem?_take, if_pos hki, hget]
      split at h4
      · rename_i hr
        rw [if_pos (by omega)]
        rw [show i * sz + j' - (i * sz + j) = j' - j by omega]
        have hk' : j' - j < v.cells.size := by omega
        refine ⟨v.cells[j' - j], by simp [hk'], hext.rt (tree_of (hc _ _ av' (Array.getElem?_eq_getElem hk') h4).1 (treeL_iff.1 h2 _ (List.mem_of_getElem? h4)))⟩
      · rename_i hr
        rw [if_neg (by omega)]
        obtain ⟨x, hx1, hx2⟩ := hx i j' _ av' (List.getElem?_eq_getElem hi) h4
        exact ⟨x, by rw [← hxs _ hki]; exact hx1, hext.rt hx2⟩
    · rename_i hne
      have hi2 : i' < rows.length := (List.getElem?_eq_some_iff.1 h3).1
      have hj' : j' < sz := by rw [← hrow row (List.mem_of_getElem? h3)]; exact (List.getElem?_eq_some_iff.1 h4).1
      have hki : i' * sz + j' < rows.length * sz := by
        have := Nat.mul_le_mul_right sz (show i' + 1 ≤ rows.length from hi2)
        rw [Nat.add_mul] at this
        omega
      obtain ⟨x, hx1, hx2⟩ := hx i' j' row av' h3 h4
      refine ⟨x, ?_, hext.rt hx2⟩
      rw [List.getElem?_take, if_pos hki, hget, if_neg, ← hxs _ hki]
      · exact hx1
      · intro hr
        rcases Nat.lt_trichotomy i i' with hlt' | he | hlt'
        · have := Nat.mul_le_mul_right sz (show i + 1 ≤ i' from hlt')
          rw [Nat.add_mul] at this
          omega
        · exact hne he
        · have := Nat.mul_le_mul_right sz (show i' + 1 ≤ i from hlt')
          rw [Nat.add_mul] at this
          omega
/-! ### a literal of a struct -/
def tyParts (P : Program) (t : TypeId) : Option (List (Nat × Nat) × List Value) :=
  match P.info? t, P.underlying t with
  | some it, some (.struct fields) => match it.zero, fields.toList.mapM (fun f => (P.info? f.type).map fun i => (f.offset, i.size)) with
    | some z, some places => some (places, z.cells.toList)
    | _, _ => none
  | _, _ => none
def aFill (places : List (Nat × Nat)) : List AV → List (Nat × AV) → Option (List AV)
  | cs, [] => some cs
  | cs, (i, x) :: rest => match places[i]? with
    | some (off, size) => if (aCells x).length = size ∧ off + size ≤ cs.length then aFill places (cs.take off ++ aCells x ++ cs.drop (off + size)) rest else none
    | none => none
def oneParts (tab : ATab) : List (Nat × AV) → Prop
  | [] => True
  | (_, x) :: rest => oneCL tab (aCells x) ∧ oneParts tab rest
theorem fill_ok (hL : Lay cx w tab L) (places : List (Nat × Nat)) : ∀ (parts : List (Nat × Value)) (avs : List (Nat × AV)) (cells : Array Value) (cs cs' : List AV), parts.length = avs.length →
    (∀ (k i : Nat) (v : Value) (j : Nat) (av : AV), parts[k]? = some (i, v) → avs[k]? = some (j, av) → i = j ∧ RVx cx w tab L v av ∧ av.lt nx) → oneParts tab avs → cells.size = cs.length → AV.ltL nx cs → (∀ (j : Nat) (x : Value) (av : AV), cells[j]? = some x → cs[j]? = some av → RVx cx w tab L x av) → aFill places cs avs = some cs' →
    ∃ cells', Instr.fill (places.toArray[·]?) cells parts = some cells' ∧ cells'.size = cs'.length ∧ AV.ltL nx cs' ∧ ∀ (j : Nat) (x : Value) (av : AV), cells'[j]? = some x → cs'[j]? = some av → RVx cx w tab L x av
  | [], [], cells, cs, cs', _, _, _, hn, hl, hr, h => by
    cases h
    exact ⟨cells, rfl, hn, hl, hr⟩
  | (i, v) :: parts, (j, x) :: avs, cells, cs, cs', hlen, hp, hone, hn, hl, hr, h => by
    obtain ⟨rfl, hv, hlx⟩ := hp 0 i v j x rfl rfl
    obtain ⟨hc1, hc2, hc3⟩ := cells_ok hL hv hlx hone.1
    unfold aFill at h
    split at h
    · rename_i off size hpl
      split at h
      · rename_i hsz
        have hfit : off + v.cells.size ≤ cells.size := by omega
        have hone' := fill_one off v.cells cells hfit
        obtain ⟨cells', h1, h2⟩ := fill_ok hL places parts avs (cells.toList.take off ++ v.cells.toList ++ cells.toList.drop (off + v.cells.size)).toArray (cs.take off ++ aCells x ++ cs.drop (off + size)) cs' (by simpa using hlen)
          (fun k i v j av h3 h4 => hp (k + 1) i v j av (by simpa using h3) (by simpa using h4)) hone.2 (by simp [hc1, hsz.1, hn]) (ltL_iff.2 fun y hy => by
            rcases List.mem_append.1 hy with hy | hy
            · rcases List.mem_append.1 hy with hy | hy
              · exact ltL_iff.1 hl y (List.mem_of_mem_take hy)
              · exact ltL_iff.1 hc2 y hy
            · exact ltL_iff.1 hl y (List.mem_of_mem_drop hy)) (fun k y av h3 h4 => by
            have e1 := splice_get cells.toList off v.cells.toList (by simpa using hfit) k
            have e2 := splice_get cs off (aCells x) (by omega) k
            simp only [Array.length_toList] at e1
            rw [hsz.1] at e2
            rw [List.getElem?_toArray, e1] at h3
            rw [e2] at h4
            split at h4
            · rename_i hk
              rw [if_pos (by omega)] at h3
              exact (hc3 _ y av (by simpa using h3) h4).1
            · rename_i hk
              rw [if_neg (by omega)] at h3
              exact hr k y av (by simpa using h3) h4) h
        refine ⟨cells', ?_, h2⟩
        unfold Instr.fill
        simp only [List.getElem?_toArray, hpl]
        rw [if_neg (by simp; omega), hone']
        simpa using h1
      · cases h
    · cases h
  | [], _ :: _, _, _, _, h, _, _, _, _, _, _ => by simp at h
  | _ :: _, [], _, _, _, h, _, _, _, _, _, _ => by simp at h
theorem tyParts_some {t : TypeId} {places : List (Nat × Nat)} {zs : List Value} (h : tyParts P t = some (places, zs)) : ∃ z : Value, z.cells.toList = zs ∧ ∀ parts, P.built t parts = Instr.fill (places.toArray[·]?) z.cells parts := by
  unfold tyParts at h
  split at h
  · rename_i it fields h1 h2
    split at h
    · rename_i z pl h3 h4
      cases h
      refine ⟨z, rfl, fun parts => ?_⟩
      unfold Program.built
      rw [h1, h2]
      simp only [h3]
      simp only [h4]
    · cases h
  · cases h
theorem build_ok {t : TypeId} {places : List (Nat × Nat)} {zs : List Value} {cs' : List AV} {parts : List (Nat × Operand)} (h : Conc cx a w st L) (ht : tyParts P t = some (places, zs)) (hf : aFill places (zs.map .c) (parts.map fun p => (p.1, aEv st p.2)) = some cs') (h1 : oneParts st.tab (parts.map fun p => (p.1, aEv st p.2))) :
    ∃ v, RVx cx w st.tab L v (.agg cs') ∧ (AV.agg cs').lt st.next ∧ ∀ w', (Instr.build t (parts.toArray.map fun (p : Nat × Operand) => (p.1, a.eval p.2))).run P w' = .ok v w' := by
  obtain ⟨z, rfl, hb⟩ := tyParts_some ht
  obtain ⟨cells', h2, h3, h4, h5⟩ := fill_ok h.lay places (parts.map fun p => (p.1, a.eval p.2)) (parts.map fun p => (p.1, aEv st p.2)) z.cells (z.cells.toList.map .c) cs' (by simp) (fun k i v j av h6 h7 => by
    rw [List.getElem?_map] at h6 h7
    cases hk : parts[k]? with
    | none => simp [hk] at h6
    | some p =>
      simp [hk] at h6 h7
      obtain ⟨rfl, rfl⟩ := h6
      obtain ⟨rfl, rfl⟩ := h7
      exact ⟨rfl, eval_ok h p.2⟩) h1 (by simp) (ltL_iff.2 fun y hy => by
      obtain ⟨u, _, rfl⟩ := List.mem_map.1 hy
      trivial) (fun j x av h6 h7 => by
      rw [List.getElem?_map, Array.getElem?_toList, h6] at h7
      cases h7
      exact .tree (.c x)) hf
  refine ⟨.agg cells', .agg cells' cs' h3 h5, h4, fun w' => run_build w' t _ cells' ?_⟩
  rw [hb]
  simpa using h2
end
end Go.Proofs.Ytfocnmkbnccilaa
