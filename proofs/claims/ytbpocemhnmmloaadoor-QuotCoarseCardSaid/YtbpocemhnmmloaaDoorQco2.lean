/-
  Parts of the proof: AlF, AlG.
-/
import Derived.Test.YtbpocemhnmmloaaDoorQco1
set_option linter.unusedVariables false
set_option linter.unusedSimpArgs false
namespace Go.Proofs.YtbpocemhnmmloaaDoor
section
open Go.RowKit

theorem foldl_set_get (off : Nat) : ∀ (l : List Value) (n : Nat) (cells : Array Value), off + n + l.length ≤ cells.size → ∀ k, ((l.zipIdx n).foldl (fun cs (p : Value × Nat) => cs.setIfInBounds (off + p.2) p.1) cells)[k]? = if off + n ≤ k ∧ k < off + n + l.length then l[k - (off + n)]? else cells[k]?
  | [], n, cells, _, k => by simp; omega
  | v :: l, n, cells, h, k => by
    simp only [List.zipIdx_cons, List.foldl_cons, List.length_cons] at h ⊢
    rw [foldl_set_get off l (n + 1) _ (by simp; omega)]
    by_cases h1 : off + n = k
    · subst h1
      rw [if_neg (by omega), if_pos (by omega), Array.getElem?_setIfInBounds_self_of_lt (by omega)]
      simp
    · by_cases h2 : off + (n + 1) ≤ k ∧ k < off + (n + 1) + l.length
      · rw [if_pos h2, if_pos (by omega)]
        rw [show k - (off + n) = (k - (off + (n + 1))) + 1 by omega, List.getElem?_cons_succ]
      · rw [if_neg h2, if_neg (by omega), Array.getElem?_setIfInBounds_ne h1]
theorem fill_one (off : Nat) (v : Array Value) (cells : Array Value) (h : off + v.size ≤ cells.size) : (v.zipIdx.foldl (fun cs (p : Value × Nat) => cs.setIfInBounds (off + p.2) p.1) cells) = (cells.toList.take off ++ v.toList ++ cells.toList.drop (off + v.size)).toArray := by
  have e : v.zipIdx.foldl (fun cs (p : Value × Nat) => cs.setIfInBounds (off + p.2) p.1) cells = (v.toList.zipIdx 0).foldl (fun cs (p : Value × Nat) => cs.setIfInBounds (off + p.2) p.1) cells := by
    rw [← Array.foldl_toList]
    congr 1
    simp
  rw [e]
  apply Array.ext_getElem?
  intro k
  rw [foldl_set_get off v.toList 0 cells (by simpa using h) k]
  have := splice_get cells.toList off v.toList (by simpa using h) k
  simp only [Array.length_toList] at this
  simp only [List.getElem?_toArray, this, Array.length_toList, Nat.add_zero]
  simp
/-- every part in its order, each of so many cells -/
theorem fill_all (sz : Nat) : ∀ (parts : List (Nat × Value)) (k : Nat) (cells : Array Value), parts.map (·.1) = List.range' k parts.length → (∀ p ∈ parts, p.2.cells.size = sz) → cells.size = (k + parts.length) * sz →
    ∃ c : Array Value, Instr.fill (fun i => some (i * sz, sz)) cells parts = some c ∧ c.toList = cells.toList.take (k * sz) ++ parts.flatMap (·.2.cells.toList)
  | [], k, cells, _, _, hs => ⟨cells, rfl, by simp at hs; simp [List.take_of_length_le, hs]⟩
  | (i, v) :: rest, k, cells, hi, hp, hs => by
    simp only [List.map_cons, List.length_cons, List.range'_succ, List.cons.injEq] at hi hs
    obtain ⟨rfl, hi⟩ := hi
    have hv := hp (i, v) (by simp)
    simp only at hv
    have hmul : (i + (rest.length + 1)) * sz = i * sz + sz + rest.length * sz := by rw [Nat.add_mul, Nat.add_mul]; omega
    have hfit : i * sz + v.cells.size ≤ cells.size := by rw [hs, hmul, hv]; omega
    have hone := fill_one (i * sz) v.cells cells hfit
    obtain ⟨c, h1, h2⟩ := fill_all sz rest (i + 1) (cells.toList.take (i * sz) ++ v.cells.toList ++ cells.toList.drop (i * sz + v.cells.size)).toArray hi (fun p hp' => hp p (by simp [hp'])) (by
      simp [hs, hv, hmul, Nat.add_mul] <;> omega)
    refine ⟨c, ?_, ?_⟩
    · unfold Instr.fill
      simp only
      rw [if_neg (by simp [hv]; omega)]
      rw [hone]
      exact h1
    · rw [h2]
      simp only [List.flatMap_cons]
      rw [← List.append_assoc]
      congr 1
      have hl : ((cells.toList.take (i * sz)).length) = i * sz := by
        rw [List.length_take]
        simp
        omega
      rw [List.take_append_of_le_length (by simp [hl, hv, Nat.add_mul])]
      rw [List.take_of_length_le (by simp [hl, hv, Nat.add_mul])]
theorem flat_get {α β : Type} (f : α → List β) (sz : Nat) : ∀ (l : List α), (∀ a ∈ l, (f a).length = sz) → ∀ i j (h : i < l.length), j < sz → (l.flatMap f)[i * sz + j]? = (f l[i])[j]?
  | [], _, i, _, h, _ => absurd h (by simp)
  | a :: l, hs, i, j, h, hj => by
    rw [List.flatMap_cons]
    have ha := hs a (by simp)
    cases i with
    | zero => rw [Nat.zero_mul, Nat.zero_add, List.getElem?_append_left (by omega)]; rfl
    | succ i =>
      rw [List.getElem?_append_right (by rw [ha, Nat.add_mul]; omega), ha, show (i + 1) * sz + j - sz = i * sz + j by rw [Nat.add_mul]; omega]
      exact flat_get f sz l (fun a h => hs a (by simp [h])) i j (by simpa using h) hj
theorem flat_len {α β : Type} (f : α → List β) (sz : Nat) : ∀ (l : List α), (∀ a ∈ l, (f a).length = sz) → (l.flatMap f).length = l.length * sz
  | [], _ => by simp
  | a :: l, hs => by
    rw [List.flatMap_cons, List.length_append, hs a (by simp), flat_len f sz l (fun a h => hs a (by simp [h])), List.length_cons, Nat.add_mul]
    omega

/-- it names no object of the call's own -/
def treeC : AV → Prop
  | .osl _ => False
  | .op _ _ _ => False
  | .agg _ => False
  | .tup _ => False
  | .fn _ _ => False
  | .bfn _ _ => False
  | _ => True
def treeL : List AV → Prop
  | [] => True
  | a :: l => treeC a ∧ treeL l
theorem treeL_iff : ∀ {l : List AV}, treeL l ↔ ∀ a ∈ l, treeC a
  | [] => by simp [treeL]
  | a :: l => by simp [treeL, treeL_iff (l := l)]
section
variable {P : Program} {cx : Cx} {a : Act} {w w' : World} {tab : ATab} {st : ASt} {L : Nat → Value} {nx : Nat}
theorem tree_of {x : Value} {av : AV} (h : RVx cx w tab L x av) (ht : treeC av) : RT w (Sx cx w tab L) x av := by
  cases h with
  | tree h => exact h
  | osl => exact ht.elim
  | op => exact ht.elim
  | agg => exact ht.elim
  | tup => exact ht.elim
  | fn => exact ht.elim
  | bfn => exact ht.elim

/-- a new slice of its own, made whole -/
theorem conc_row {t e sz by_ : Nat} (h : Conc cx a w st L) (h0 : 0 < sz) {cells : Array Value} {rows : List (List AV)} (hr : ∀ row ∈ rows, row.length = sz) (hn : cells.size = rows.length * sz) (hm : rows.length ≤ 9223372036854775807) (h1 : ∀ x ∈ cells, x.oneCell' = true)
    (hx : ∀ (i j : Nat) (row : List AV) (av : AV), rows[i]? = some row → row[j]? = some av → ∃ x, cells[i * sz + j]? = some x ∧ RT w (Sx cx w st.tab L) x av) (dst : Option Nat) :
    Conc cx (a.put dst (.slice (some ⟨w.heap.size, 0, none⟩) rows.length rows.length)) (w.alloc (.cells cells e)) ({ st with tab := (st.next, some (.row e sz rows)) :: st.tab, next := st.next + 1 }.put dst (.osl st.next)) (updL L st.next (.slice (some ⟨w.heap.size, 0, none⟩) rows.length rows.length)) := by
  refine conc_new (ob := .row e sz rows) (v := .slice (some ⟨w.heap.size, 0, none⟩) rows.length rows.length) h ((Below.refl _ _).alloc (Nat.le_refl _) _) (fun g hg => ?_) (fun hext => ⟨hr, cells.toList, ⟨by simpa using hn, .inr ⟨w.heap.size, _, cells, rfl, h.lay.below.size, heap_alloc_new w _, Nat.le_refl _, by simpa [maxLen] using hm, Nat.le_of_eq hn.symm, ?_⟩⟩, fun x hx' => h1 x (by simpa using hx'), fun i j row av ha hb => ?_⟩) trivial (fun hext => ?_) (Nat.lt_succ_self _) dst
  · simp [vblk] at hg
    omega
  · exact List.take_of_length_le (by simp [hn])
  · obtain ⟨x, hx1, hx2⟩ := hx i j row av ha hb
    exact ⟨x, by simpa using hx1, hext.rt hx2⟩
  · refine .osl _ _ fun sz' v'' hk => ?_
    simp [Kx, ATab.get_cons, updL] at hk
    exact hk.2

/-! ### a slice of the call's own is written no more -/
mutual
def AV.frz (id sz : Nat) (rows : List (List AV)) : AV → AV
  | .osl k => if k = id then .sl sz rows else .osl k
  | .agg cs => .agg (AV.frzL id sz rows cs)
  | .tup cs => .tup (AV.frzL id sz rows cs)
  | .fn f cs => .fn f (AV.frzL id sz rows cs)
  | .bfn f cs => .bfn f (AV.frzL id sz rows cs)
  | .op k i j => .op k i j
  | .any => .any
  | .c v => .c v
  | .sl sz rows => .sl sz rows
  | .rp cs => .rp cs
def AV.frzL (id sz : Nat) (rows : List (List AV)) : List AV → List AV
  | [] => []
  | a :: l => a.frz id sz rows :: AV.frzL id sz rows l
end
theorem frzL_map (id sz : Nat) (rows : List (List AV)) : ∀ l : List AV, AV.frzL id sz rows l = l.map (·.frz id sz rows)
  | [] => rfl
  | a :: l => by simp [AV.frzL, frzL_map id sz rows l]
def frzEnv (id sz : Nat) (rows : List (List AV)) : List (Nat × AV) → List (Nat × AV)
  | [] => []
  | (t, av) :: l => (t, av.frz id sz rows) :: frzEnv id sz rows l
def AObj.frz (id sz : Nat) (rows : List (List AV)) : AObj → AObj
  | .box t cells => .box t (AV.frzL id sz rows cells)
  | .row e s r => .row e s r
  | .map ents => .map ents
  | .ghost vs env => .ghost vs (frzEnv id sz rows env)
def frzTab (id sz : Nat) (rows : List (List AV)) : ATab → ATab
  | [] => []
  | (k, o) :: l => (k, o.map (AObj.frz id sz rows)) :: frzTab id sz rows l
theorem frzTab_get (id sz : Nat) (rows : List (List AV)) : ∀ (l : ATab) (k : Nat), (frzTab id sz rows l).get k = (l.get k).map (AObj.frz id sz rows)
  | [], k => by simp [frzTab, ATab.get]
  | (q, o) :: l, k => by
    simp only [frzTab, ATab.get_cons]
    split
    · rfl
    · exact frzTab_get id sz rows l k
theorem frz_sz (id sz : Nat) (rows : List (List AV)) (o : AObj) : (o.frz id sz rows).sz = o.sz := by cases o <;> simp [AObj.frz, AObj.sz, frzL_map]
def frz1 (st : ASt) (id : Nat) : ASt :=
  match st.tab.get id with
  | some (.row _ sz rows) => { st with env := frzEnv id sz rows st.env, tab := (id, none) :: frzTab id sz rows st.tab }
  | _ => st
def frzs (st : ASt) : List Nat → ASt
  | [] => st
  | id :: ids => frzs (frz1 st id) ids
/-- the slices of its own that these cells name -/
def ownIds : List AV → List Nat
  | [] => []
  | .osl id :: l => id :: ownIds l
  | _ :: l => ownIds l
theorem frzEnv_get (id sz : Nat) (rows : List (List AV)) : ∀ (l : List (Nat × AV)) (t : Nat), aget (frzEnv id sz rows l) t = (aget l t).frz id sz rows
  | [], t => by simp [frzEnv, aget, AV.frz]
  | (k, av) :: l, t => by
    simp only [frzEnv, aget]
    split
    · rfl
    · exact frzEnv_get id sz rows l t
theorem frz_lt {id sz nx : Nat} {rows : List (List AV)} : ∀ {av : AV}, av.lt nx → (av.frz id sz rows).lt nx := by
  intro av
  induction av using AV.rec (motive_2 := fun _ => True) (motive_3 := fun l => AV.ltL nx l → AV.ltL nx (AV.frzL id sz rows l)) <;> simp_all [AV.lt, AV.ltL, AV.frz, AV.frzL]
  split <;> simp_all [AV.lt]
theorem rt_row {e : TypeId} {sz : Nat} {v : Value} {rows : List (List AV)} {S : Nat → Prop} (h : ObjAt cx w tab L v (.row e sz rows)) (hS : ∀ b, Sx cx w tab L b → S b) (hg : ∀ g, vblk v = some g → S g) : RT w S v (.sl sz rows) := by
  obtain ⟨hrow, xs, hown, hone, hx⟩ := h
  have hm : ∀ i j row av, rows[i]? = some row → row[j]? = some av → (xs[i * sz + j]?.getD undef).oneCell' = true ∧ RT w S (xs[i * sz + j]?.getD undef) av ∧ ∃ x, xs[i * sz + j]? = some x := fun i j row av h1 h2 => by
    obtain ⟨x, hx1, hx2⟩ := hx i j row av h1 h2
    rw [hx1]
    exact ⟨hone x (List.mem_of_getElem? hx1), hx2.mono (fun _ _ => rfl) hS, x, rfl⟩
  rcases hown.2 with ⟨rfl, h0⟩ | ⟨g, cap, cur, rfl, hb, hgh, hc, hm', _⟩
  · exact .sl none _ 0 sz rows 0 0 (fun i j => xs[i * sz + j]?.getD undef) h0.symm (Nat.le_refl _) (by omega) (fun h => by omega) hrow (fun h => by omega) (fun i j row av h1 h2 => (hm i j row av h1 h2).1) (fun i j row av h1 h2 => (hm i j row av h1 h2).2.1)
  · refine .sl _ _ cap sz rows g 0 (fun i j => xs[i * sz + j]?.getD undef) rfl hc (by simpa [maxLen] using hm') (fun _ => ⟨rfl, hg g rfl⟩) hrow (fun _ i j row av h1 h2 => ?_) (fun i j row av h1 h2 => (hm i j row av h1 h2).1) (fun i j row av h1 h2 => (hm i j row av h1 h2).2.1)
    obtain ⟨x, hx⟩ := (hm i j row av h1 h2).2.2
    have := hown.cells (g := g) rfl _ x hx
    rw [addAddr0] at this
    rw [hx, Nat.zero_add]
    exact this
theorem frz_core {e id sz : Nat} {rows : List (List AV)} (hL : Lay cx w tab L) (hy : ∀ id o, tab.get id = some o → o.lt nx) (hid : tab.get id = some (.row e sz rows)) :
    Lay cx w ((id, none) :: frzTab id sz rows tab) L ∧ ∀ x av, RVx cx w tab L x av → av.lt nx → RVx cx w ((id, none) :: frzTab id sz rows tab) L x (av.frz id sz rows) := by
    have ht : ∀ k, ATab.get ((id, none) :: frzTab id sz rows tab) k = if k = id then none else (tab.get k).map (AObj.frz id sz rows) := fun k => by rw [ATab.get_cons, frzTab_get]
    have hsub : ∀ k o, ATab.get ((id, none) :: frzTab id sz rows tab) k = some o → k ≠ id ∧ ∃ o', tab.get k = some o' ∧ o = o'.frz id sz rows := fun k o hk => by
      rw [ht] at hk
      split at hk
      · cases hk
      · cases hg : tab.get k with
        | none => simp [hg] at hk
        | some o' =>
          simp [hg] at hk
          exact ⟨by assumption, o', rfl, hk.symm⟩
    have hext : Ext cx w tab L nx w ((id, none) :: frzTab id sz rows tab) L := by
      refine ⟨fun _ _ => rfl, fun b hb => ⟨hb.1, hb.2.1, fun k o hk => by obtain ⟨_, o', h1, _⟩ := hsub k o hk; exact hb.2.2 k o' h1⟩, fun k p _ hk => ?_⟩
      unfold Kx at *
      rw [ht] at hk
      split at hk
      · cases hk
      · cases hg : tab.get k with
        | none => simp [hg] at hk
        | some o' =>
          simp [hg, frz_sz] at hk ⊢
          exact hk
    have hob := hL.objs id _ hid
    have hrow : RT w (Sx cx w ((id, none) :: frzTab id sz rows tab) L) (L id) (.sl sz rows) := rt_row hob hext.sub fun g hg => ⟨(hob.ge hg).2, ⟨.inr (hob.ge hg).1, fun hX => (hL.ex g hX).2 id _ hid hg⟩, fun k o hk hg' => by
      obtain ⟨h1, o', h2, _⟩ := hsub k o hk
      exact h1 (hL.sep k id o' _ g h2 hid hg' hg)⟩
    have conv : ∀ x av, RVx cx w tab L x av → av.lt nx → RVx cx w ((id, none) :: frzTab id sz rows tab) L x (av.frz id sz rows) := fun x av hr => by
      induction hr with
      | tree h0 =>
        intro hl
        have e1 : ∀ {x av}, RT w (Sx cx w tab L) x av → av.frz id sz rows = av := fun hh => by
          induction hh with
          | agg xs cs hn hr ih =>
            simp only [AV.frz, frzL_map, AV.agg.injEq]
            apply List.ext_getElem?
            intro j
            rw [List.getElem?_map]
            cases hj : cs[j]? with
            | none => rfl
            | some av =>
              have hlt : j < xs.size := by rw [hn]; exact (List.getElem?_eq_some_iff.1 hj).1
              simp [ih j _ av (Array.getElem?_eq_getElem hlt) hj]
          | tup xs cs hn hr ih =>
            simp only [AV.frz, frzL_map, AV.tup.injEq]
            apply List.ext_getElem?
            intro j
            rw [List.getElem?_map]
            cases hj : cs[j]? with
            | none => rfl
            | some av =>
              have hlt : j < xs.size := by rw [hn]; exact (List.getElem?_eq_some_iff.1 hj).1
              simp [ih j _ av (Array.getElem?_eq_getElem hlt) hj]
          | fn fi xs cs hn hr ih =>
            simp only [AV.frz, frzL_map, AV.fn.injEq, true_and]
            apply List.ext_getElem?
            intro j
            rw [List.getElem?_map]
            cases hj : cs[j]? with
            | none => rfl
            | some av =>
              have hlt : j < xs.size := by rw [hn]; exact (List.getElem?_eq_some_iff.1 hj).1
              simp [ih j _ av (Array.getElem?_eq_getElem hlt) hj]
          | bfn fi xs cs hn hr ih =>
            simp only [AV.frz, frzL_map, AV.bfn.injEq, true_and]
            apply List.ext_getElem?
            intro j
            rw [List.getElem?_map]
            cases hj : cs[j]? with
            | none => rfl
            | some av =>
              have hlt : j < xs.size := by rw [hn]; exact (List.getElem?_eq_some_iff.1 hj).1
              simp [ih j _ av (Array.getElem?_eq_getElem hlt) hj]
          | _ => simp [AV.frz]
        rw [e1 h0]
        exact .tree (hext.rt h0)
      | osl x k hk =>
        intro hl
        simp only [AV.frz]
        split
        · rename_i e1
          subst e1
          rw [hk _ _ (kx_of hid)]
          exact .tree hrow
        · exact hext.rv (.osl x k hk) hl
      | op x k i j hk =>
        intro hl
        exact hext.rv (.op x k i j hk) hl
      | agg xs cs hn hr ih =>
        intro hl
        simp only [AV.frz, frzL_map]
        refine .agg xs _ (by simpa using hn) fun j x av h1 h2 => ?_
        rw [List.getElem?_map] at h2
        cases hj : cs[j]? with
        | none => simp [hj] at h2
        | some av' =>
          simp [hj] at h2
          subst h2
          exact ih j x av' h1 hj (ltL_iff.1 hl _ (List.mem_of_getElem? hj))
      | tup xs cs hn hr ih =>
        intro hl
        simp only [AV.frz, frzL_map]
        refine .tup xs _ (by simpa using hn) fun j x av h1 h2 => ?_
        rw [List.getElem?_map] at h2
        cases hj : cs[j]? with
        | none => simp [hj] at h2
        | some av' =>
          simp [hj] at h2
          subst h2
          exact ih j x av' h1 hj (ltL_iff.1 hl _ (List.mem_of_getElem? hj))
      | fn fi xs cs hn hr ih =>
        intro hl
        simp only [AV.frz, frzL_map]
        refine .fn fi xs _ (by simpa using hn) fun j x av h1 h2 => ?_
        rw [List.getElem?_map] at h2
        cases hj : cs[j]? with
        | none => simp [hj] at h2
        | some av' =>
          simp [hj] at h2
          subst h2
          exact ih j x av' h1 hj (ltL_iff.1 hl _ (List.mem_of_getElem? hj))
      | bfn fi xs cs hn hr ih =>
        intro hl
        simp only [AV.frz, frzL_map]
        refine .bfn fi xs _ (by simpa using hn) fun j x av h1 h2 => ?_
        rw [List.getElem?_map] at h2
        cases hj : cs[j]? with
        | none => simp [hj] at h2
        | some av' =>
          simp [hj] at h2
          subst h2
          exact ih j x av' h1 hj (ltL_iff.1 hl _ (List.mem_of_getElem? hj))
    refine ⟨⟨hL.below, fun k o hk => ?_, fun k k' o o' g h1 h2 => ?_, fun b hb' => ⟨(hL.ex b hb').1, fun k o hk => ?_⟩⟩, conv⟩
    rotate_left 2
    · obtain ⟨_, o', h1, _⟩ := hsub k o hk
      exact (hL.ex b hb').2 k o' h1
    · obtain ⟨_, o', h1, rfl⟩ := hsub k o hk
      have ho := hL.objs k o' h1
      have hlo := hy k o' h1
      cases o' with
      | row e' s r => exact hext.obj ho hlo fun _ _ => rfl
      | box t cells =>
        obtain ⟨g, cs, h2, h3, h4, h5, h6⟩ := ho
        refine ⟨g, cs, h2, h3, h4, by simpa [frzL_map] using h5, fun j x av h7 h8 => ?_⟩
        rw [frzL_map, List.getElem?_map] at h8
        cases hj : cells[j]? with
        | none => simp [hj] at h8
        | some av' =>
          simp [hj] at h8
          subst h8
          exact ⟨conv x av' (h6 j x av' h7 hj).1 (ltL_iff.1 hlo _ (List.mem_of_getElem? hj)), (h6 j x av' h7 hj).2⟩
      | map ents => exact hext.obj (o := .map ents) ho hlo fun _ _ => rfl
      | ghost vs env =>
        refine ⟨ho.1, fun t ht => ?_⟩
        rw [frzEnv_get]
        exact conv _ _ (ho.2 t ht) (envLt_aget hlo t)
    · obtain ⟨_, o1, h3, _⟩ := hsub k o h1
      obtain ⟨_, o2, h4, _⟩ := hsub k' o' h2
      exact hL.sep k k' o1 o2 g h3 h4
theorem envLt_frz {id sz nx : Nat} {rows : List (List AV)} : ∀ {l : List (Nat × AV)}, envLt nx l → envLt nx (frzEnv id sz rows l)
  | [], _ => trivial
  | (_, _) :: _, h => ⟨frz_lt h.1, envLt_frz h.2⟩
theorem frz_obj_lt {id sz nx : Nat} {rows : List (List AV)} {o : AObj} (h : o.lt nx) : (o.frz id sz rows).lt nx := by
  cases o with
  | row => trivial
  | box t cells =>
    show AV.ltL nx _
    rw [frzL_map]
    refine ltL_iff.2 fun a ha => ?_
    obtain ⟨b, hb, rfl⟩ := List.mem_map.1 ha
    exact frz_lt (ltL_iff.1 h b hb)
  | map => trivial
  | ghost vs env => exact envLt_frz h
def frzAV (st : ASt) (id : Nat) (av : AV) : AV :=
  match st.tab.get id with
  | some (.row _ sz rows) => av.frz id sz rows
  | _ => av
theorem conc_frz1 (h : Conc cx a w st L) (id : Nat) : Conc cx a w (frz1 st id) L ∧ ∀ x av, RVx cx w st.tab L x av → av.lt st.next → RVx cx w (frz1 st id).tab L x (frzAV st id av) ∧ (frzAV st id av).lt (frz1 st id).next := by
  unfold frz1 frzAV
  split
  · rename_i e sz rows hid
    obtain ⟨h1, h2⟩ := frz_core h.lay (fun k o hk => (h.young k o hk).2) hid
    refine ⟨⟨h1, h.size, h.defers.mono (fun _ _ => rfl) fun b hb => ⟨hb.1, hb.2.1, fun k o hk => ?_⟩, fun k o hk => ?_, fun t => ?_⟩, fun x av h3 h4 => ⟨h2 x av h3 h4, frz_lt h4⟩⟩
    · rw [ATab.get_cons, frzTab_get] at hk
      split at hk
      · cases hk
      · cases hg : st.tab.get k with
        | none => simp [hg] at hk
        | some o' => exact hb.2.2 k o' hg
    · simp only [ATab.get_cons, frzTab_get] at hk
      split at hk
      · cases hk
      · cases hg : st.tab.get k with
        | none => simp [hg] at hk
        | some o' =>
          simp [hg] at hk
          subst hk
          exact ⟨(h.young k o' hg).1, frz_obj_lt (h.young k o' hg).2⟩
    · have e1 : ({ st with env := frzEnv id sz rows st.env, tab := (id, none) :: frzTab id sz rows st.tab } : ASt).get t = (st.get t).frz id sz rows := by
        unfold ASt.get
        simp only
        split
        · exact frzEnv_get ..
        · simp [AV.frz]
      rw [e1]
      exact ⟨h2 _ _ (h.env t).1 (h.env t).2, frz_lt (h.env t).2⟩
  · exact ⟨h, fun x av h1 h2 => ⟨h1, h2⟩⟩
/-- values, those slices being written no more -/
def frzAVs (st : ASt) : List Nat → List AV → List AV
  | [], l => l
  | id :: ids, l => frzAVs (frz1 st id) ids (l.map (frzAV st id))
theorem conc_frzs : ∀ (ids : List Nat) {st : ASt}, Conc cx a w st L → Conc cx a w (frzs st ids) L
  | [], _, h => h
  | id :: ids, _, h => conc_frzs ids (conc_frz1 h id).1
theorem frzAVs_ok : ∀ (ids : List Nat) {st : ASt} {vs : Array Value} {avs : List AV}, Conc cx a w st L → (∀ (j : Nat) (v : Value) (av : AV), vs[j]? = some v → avs[j]? = some av → RVx cx w st.tab L v av ∧ av.lt st.next) →
    (frzAVs st ids avs).length = avs.length ∧ ∀ (j : Nat) (v : Value) (av : AV), vs[j]? = some v → (frzAVs st ids avs)[j]? = some av → RVx cx w (frzs st ids).tab L v av ∧ av.lt (frzs st ids).next
  | [], _, _, _, _, hv => ⟨rfl, hv⟩
  | id :: ids, st, vs, avs, h, hv => by
    have h1 := conc_frz1 h id
    obtain ⟨h2, h3⟩ := frzAVs_ok ids (vs := vs) (avs := avs.map (frzAV st id)) h1.1 fun j v av h4 h5 => by
      rw [List.getElem?_map] at h5
      cases hj : avs[j]? with
      | none => simp [hj] at h5
      | some av' =>
        simp [hj] at h5
        subst h5
        exact h1.2 v av' (hv j v av' h4 hj).1 (hv j v av' h4 hj).2
    exact ⟨by rw [frzAVs, h2, List.length_map], h3⟩

/-! ### a literal of a slice, each element told -/
/-- it names no object of the call's own, or is a closure that names none -/
def treeM : AV → Prop
  | .fn _ cs => treeL cs
  | .bfn _ cs => treeL cs
  | a => treeC a
def treeML : List AV → Prop
  | [] => True
  | a :: l => treeM a ∧ treeML l
theorem treeML_mem : ∀ {l : List AV} {a : AV}, treeML l → a ∈ l → treeM a
  | b :: l, a, h, hm => (List.mem_cons.1 hm).elim (fun e => e ▸ h.1) fun h2 => treeML_mem h.2 h2
theorem treeM_c {v : Value} : treeM (.c v) = True := rfl
theorem treeM_sl {sz : Nat} {rows : List (List AV)} : treeM (.sl sz rows) = True := rfl
theorem treeM_rp {cs : List AV} : treeM (.rp cs) = True := rfl
theorem treeM_any : treeM .any = True := rfl
theorem treeM_fn {f : FuncId} {cs : List AV} : treeM (.fn f cs) = treeL cs := rfl
theorem treeM_bfn {f : FuncId} {cs : List AV} : treeM (.bfn f cs) = treeL cs := rfl
theorem treeM_of {x : Value} {av : AV} (h : RVx cx w tab L x av) (ht : treeM av) : RT w (Sx cx w tab L) x av := by
  cases av with
  | fn f cs =>
    obtain ⟨xs, rfl, hn, hr⟩ := h.fn_inv
    exact .fn f xs cs hn fun j x av h1 h2 => tree_of (hr j x av h1 h2) (treeL_iff.1 ht _ (List.mem_of_getElem? h2))
  | bfn f cs =>
    obtain ⟨xs, rfl, hn, hr⟩ := h.bfn_inv
    exact .bfn f xs cs hn fun j x av h1 h2 => tree_of (hr j x av h1 h2) (treeL_iff.1 ht _ (List.mem_of_getElem? h2))
  | _ => exact tree_of h ht
def aLit (tab : ATab) (sz : Nat) : List AV → Prop
  | [] => True
  | x :: l => (aCells x).length = sz ∧ oneCL tab (aCells x) ∧ treeML (aCells x) ∧ aLit tab sz l
theorem aLit_iff {sz : Nat} : ∀ {l : List AV}, aLit tab sz l ↔ ∀ x ∈ l, (aCells x).length = sz ∧ oneCL tab (aCells x) ∧ treeML (aCells x)
  | [] => by simp [aLit]
  | x :: l => by simp [aLit, aLit_iff (l := l), and_assoc]
theorem buildSlice_ok {t e sz by_ : Nat} {parts : List (Nat × Operand)} (h : Conc cx a w st L) (ht : tyRow P t = some (e, sz, by_)) (hp : parts.map (·.1) = List.range' 0 parts.length) (hlen : parts.length * sz ≤ 16777216)
    (hl : aLit st.tab sz (parts.map fun p => aEv st p.2)) (dst : Option Nat) :
    ∃ v' w' L', (Instr.buildSlice t parts.length (parts.toArray.map fun (p : Nat × Operand) => (p.1, a.eval p.2))).run P w = .ok v' w' ∧
      Conc cx (a.put dst v') w' ({ st with tab := (st.next, some (.row e sz (parts.map fun (p : Nat × Operand) => aCells (aEv st p.2)))) :: st.tab, next := st.next + 1 }.put dst (.osl st.next)) L' ∧
      Below w.heap.size w w' ∧ L' = updL L st.next v' ∧ vblk v' = some w.heap.size := by
  obtain ⟨i, z, hund, hi, hz, hs, hb, hzs, hsz⟩ := tyRow_some ht
  have hl' := aLit_iff.1 hl
  have hcell : ∀ p ∈ parts, (a.eval p.2).cells.size = sz ∧ ∀ (j : Nat) (x : Value) (av : AV), (a.eval p.2).cells[j]? = some x → (aCells (aEv st p.2))[j]? = some av → RVx cx w st.tab L x av ∧ x.oneCell' = true := fun p hp' => by
    have hm := hl' (aEv st p.2) (List.mem_map.2 ⟨p, hp', rfl⟩)
    have he := eval_ok h p.2
    have := cells_ok h.lay he.1 he.2 hm.2.1
    exact ⟨this.1.trans hm.1, this.2.2⟩
  obtain ⟨c, hc1, hc2⟩ := fill_all sz (parts.map fun p => (p.1, a.eval p.2)) 0 ((Array.range (parts.length * sz)).map (z.cells[· % z.cells.size]!)) (by simpa [List.map_map, Function.comp_def] using hp) (fun p hp' => by
    simp at hp'
    obtain ⟨i', o', hio, rfl⟩ := hp'
    exact (hcell _ hio).1) (by simp)
  simp only [Nat.zero_mul, List.take_zero, List.nil_append, List.flatMap_map] at hc2
  have hrun : (Instr.buildSlice t parts.length (parts.toArray.map fun (p : Nat × Operand) => (p.1, a.eval p.2))).run P w = .ok (.slice (some ⟨w.heap.size, 0, none⟩) parts.length parts.length) (w.alloc (.cells c e)) := by
    have hnb : ¬ (2 ^ 24 < parts.length * sz) := by omega
    rcases Nat.eq_zero_or_pos parts.length with h0 | hpos
    · have : parts = [] := List.length_eq_zero_iff.1 h0
      subst this
      have hce : c = #[] := by
        rw [List.flatMap_nil] at hc2
        exact Array.toList_eq_nil_iff.1 hc2
      subst hce
      simp [Instr.buildSlice, Sem.run_bind, run_underlying hund, sizeOf, typeInfo, hi, hs, zeroValue, hz, newRow, Instr.fill]
      congr 2
      exact Array.eq_empty_of_size_eq_zero (by simp)
    have hne : ¬ parts.length * sz = 0 := by
      intro e
      rcases Nat.mul_eq_zero.1 e with e | e <;> omega
    simp [Instr.buildSlice, Sem.run_bind, run_underlying hund, sizeOf, typeInfo, hi, hs, hne, zeroValue, hz, newRow]
    rw [if_neg (by omega)]
    simp [hzs] at hc1
    simp [hzs, hc1]
  have hflat : ∀ (i j : Nat) (hi' : i < parts.length), j < sz → c[i * sz + j]? = (a.eval parts[i].2).cells[j]? := fun i j hi' hj => by
    have := flat_get (fun p : Nat × Operand => (a.eval p.2).cells.toList) sz parts (fun p hp' => by simpa using (hcell p hp').1) i j hi' hj
    rw [← Array.getElem?_toList, hc2, this]
    simp
  have hcs : c.size = parts.length * sz := by
    rw [← Array.length_toList, hc2]
    exact flat_len _ _ _ fun p hp' => by simpa using (hcell p hp').1
  have hrl : (parts.map fun p => aCells (aEv st p.2)).length = parts.length := by simp
  suffices hs : Conc cx (a.put dst (.slice (some ⟨w.heap.size, 0, none⟩) (parts.map fun (p : Nat × Operand) => aCells (aEv st p.2)).length (parts.map fun (p : Nat × Operand) => aCells (aEv st p.2)).length)) (w.alloc (.cells c e)) ({ st with tab := (st.next, some (.row e sz (parts.map fun (p : Nat × Operand) => aCells (aEv st p.2)))) :: st.tab, next := st.next + 1 }.put dst (.osl st.next)) (updL L st.next (.slice (some ⟨w.heap.size, 0, none⟩) (parts.map fun (p : Nat × Operand) => aCells (aEv st p.2)).length (parts.map fun (p : Nat × Operand) => aCells (aEv st p.2)).length)) by
    rw [hrl] at hs
    exact ⟨_, _, _, hrun, hs, (Below.refl _ _).alloc (Nat.le_refl _) _, rfl, rfl⟩
  refine conc_row (t := t) (by_ := by_) h hsz (fun row hr => ?_) (by rw [hrl]; exact hcs) (by rw [hrl]; have : parts.length ≤ parts.length * sz := Nat.le_mul_of_pos_right _ hsz; omega) (fun x hx => ?_) (fun i j row av ha hb => ?_) dst
  · obtain ⟨p, hp', rfl⟩ := List.mem_map.1 hr
    exact (hl' _ (List.mem_map.2 ⟨p, hp', rfl⟩)).1
  · rw [← Array.mem_toList_iff, hc2] at hx
    obtain ⟨p, hp', hx⟩ := List.mem_flatMap.1 hx
    obtain ⟨k, hk, rfl⟩ := List.getElem_of_mem hx
    have hsz' := hcell p hp'
    have hk' : k < (aCells (aEv st p.2)).length := by
      rw [(hl' _ (List.mem_map.2 ⟨p, hp', rfl⟩)).1]
      simp at hk
      omega
    simp at hk
    exact (hsz'.2 k _ _ (Array.getElem?_eq_getElem hk) (List.getElem?_eq_getElem hk')).2
  · rw [List.getElem?_map] at ha
    have hi' : i < parts.length := by
      rcases Nat.lt_or_ge i parts.length with hlt | hge
      · exact hlt
      · rw [List.getElem?_eq_none hge] at ha; cases ha
    rw [List.getElem?_eq_getElem hi'] at ha
    simp only [Option.map_some, Option.some.injEq] at ha
    subst ha
    have hm := hl' _ (List.mem_map.2 ⟨_, List.getElem_mem hi', rfl⟩)
    have hj : j < sz := by rw [← hm.1]; exact (List.getElem?_eq_some_iff.1 hb).1
    have hc := hcell _ (List.getElem_mem hi')
    have hjc : j < (a.eval parts[i].2).cells.size := by omega
    exact ⟨_, by rw [hflat i j hi' hj]; exact Array.getElem?_eq_getElem hjc, treeM_of (hc.2 j _ _ (Array.getElem?_eq_getElem hjc) hb).1 (treeML_mem hm.2.2 (List.mem_of_getElem? hb))⟩
/-! ### make -/
theorem made_get (z : Array Value) (n k : Nat) (h : k < n) : (madeCells z n)[k]? = some (z[k % z.size]!) := by
  simp [madeCells, h]
theorem make_ok {t e sz by_ : Nat} {z : Value} {n : Int} {k1 k2 : IntKind} (h : Conc cx a w st L) (ht : tyRow P t = some (e, sz, by_)) (hz : tyZero P e = some z) (h1 : oneCL [] (aCells (.c z))) (h0 : 0 ≤ n) (hn : n ≤ 16777216) (hb : (by_ : Int) * n ≤ 281474976710656) (dst : Option Nat) :
    ∃ v' w' L', (Instr.makeSlice t (.int k1 n) (.int k2 n)).run P w = .ok v' w' ∧
      Conc cx (a.put dst v') w' ({ st with tab := (st.next, some (.row e sz (List.replicate n.toNat (aCells (.c z))))) :: st.tab, next := st.next + 1 }.put dst (.osl st.next)) L' ∧ Below w.heap.size w w' ∧ L' = updL L st.next v' ∧ vblk v' = some w.heap.size := by
  obtain ⟨i, z', hund, hi, hz', hs, hby, hzs, hsz⟩ := tyRow_some ht
  have : z' = z := by simpa [tyZero, hi, hz'] using hz
  subst this
  have hrun := run_make (P := P) w t e i z' hund hi hz' k1 k2 n n h0 (Int.le_refl _) (by rw [hby]; exact hb) (by omega)
  have hcl : (aCells (.c z')).length = sz := by simp [aCells, hzs]
  have hrl : (List.replicate n.toNat (aCells (.c z'))).length = n.toNat := by simp
  suffices hs2 : Conc cx (a.put dst (.slice (some ⟨w.heap.size, 0, none⟩) (List.replicate n.toNat (aCells (.c z'))).length (List.replicate n.toNat (aCells (.c z'))).length)) (w.alloc (.cells (madeCells z'.cells (n.toNat * i.size)) e)) ({ st with tab := (st.next, some (.row e sz (List.replicate n.toNat (aCells (.c z'))))) :: st.tab, next := st.next + 1 }.put dst (.osl st.next)) (updL L st.next (.slice (some ⟨w.heap.size, 0, none⟩) (List.replicate n.toNat (aCells (.c z'))).length (List.replicate n.toNat (aCells (.c z'))).length)) by
    rw [hrl] at hs2
    exact ⟨_, _, _, hrun, hs2, (Below.refl _ _).alloc (Nat.le_refl _) _, rfl, rfl⟩
  have hzone : ∀ k, k < sz → (z'.cells[k]!).oneCell' = true := fun k hk => by
    have hk' : k < z'.cells.size := by omega
    have := oneCL_iff.1 h1 (.c z'.cells[k]) (List.mem_map.2 ⟨z'.cells[k], by simp, rfl⟩)
    rw [getElem!_pos z'.cells k hk']
    exact this
  refine conc_row (t := t) (by_ := by_) h hsz (fun row hr => ?_) (by rw [hrl, size_madeCells, hs]) (by rw [hrl]; omega) (fun x hx => ?_) (fun i' j row av ha hb => ?_) dst
  · rw [List.eq_of_mem_replicate hr, hcl]
  · obtain ⟨k, hk, rfl⟩ := Array.getElem_of_mem hx
    have hk' : k < n.toNat * i.size := by simpa [size_madeCells] using hk
    have := made_get z'.cells (n.toNat * i.size) k hk'
    rw [Array.getElem?_eq_getElem hk] at this
    rw [Option.some.inj this]
    exact hzone _ (by rw [hzs]; exact Nat.mod_lt _ hsz)
  · have hi' : i' < n.toNat := by
      have := (List.getElem?_eq_some_iff.1 ha).1
      simpa using this
    rw [List.getElem?_replicate, if_pos hi'] at ha
    cases ha
    have hj : j < sz := by rw [← hcl]; exact (List.getElem?_eq_some_iff.1 hb).1
    have hlt : i' * sz + j < n.toNat * sz := by
      have := Nat.mul_le_mul_right sz (show i' + 1 ≤ n.toNat from hi')
      rw [Nat.add_mul] at this
      omega
    have e2 : (i' * sz + j) % sz = j := by rw [Nat.add_comm, Nat.add_mul_mod_self_right, Nat.mod_eq_of_lt hj]
    refine ⟨_, by rw [hs]; exact made_get _ _ _ hlt, ?_⟩
    rw [hzs, e2]
    have hj' : j < z'.cells.size := by omega
    simp only [aCells, List.getElem?_map, Array.getElem?_toList, Array.getElem?_eq_getElem hj', Option.map_some, Option.some.injEq] at hb
    subst hb
    rw [getElem!_pos z'.cells j hj']
    exact .c _

/-! ### a store into a slice of its own -/
theorem store_row_ok {t e sz : Nat} {p v : Value} {id i j : Nat} {rows : List (List AV)} {av : AV} (h : Conc cx a w st L) (hp : RVx cx w st.tab L p (.op id i j)) (hid : st.tab.get id = some (.row e sz rows)) (hv : RVx cx w st.tab L v av) (hl : av.lt st.next)
    (hi : i < rows.length) (h0 : 0 < tySize P t) (hs : (aCells av).length = tySize P t) (ho : j + tySize P t ≤ sz) (h1 : oneCL st.tab (aCells av)) (h2 : treeL (aCells av)) (dst : Option Nat) :
    ∃ w', (Instr.storeAt t p v).run P w = .ok () w' ∧ Conc cx (a.put dst undef) w' ({ st with tab := (id, some (.row e sz (rows.set i ((rows[i]?.getD []).take j ++ aCells av ++ (rows[i]?.getD []).drop (j + tySize P t))))) :: st.tab }.put dst .any) L ∧
      w'.heap.size = w.heap.size ∧ ∀ k, vblk (L id) ≠ some k → w'.heap[k]? = w.heap[k]? := by
  obtain ⟨hn, hlt, hc⟩ := cells_ok h.lay hv hl h1
  obtain ⟨g, hg, rfl⟩ := hp.op_inv _ _ (kx_of hid)
  obtain ⟨hrow, xs, hown, hone, hx⟩ := h.lay.objs id _ hid
  simp only [AObj.sz] at hg ⊢
  rw [List.getElem?_eq_getElem hi, Option.getD_some]
  have hri : rows[i].length = sz := hrow _ (List.getElem_mem hi)
  rcases hown.2 with ⟨hL, hz⟩ | ⟨g', cap, cur, hL, hbg, hheap, hcap, hcm, hcs, htake⟩
  · omega
  have hgg : g = g' := by
    rw [hL] at hg
    simpa [vblk] using hg.symm
  subst hgg
  have hmul : i * sz + sz ≤ rows.length * sz := by
    have := Nat.mul_le_mul_right sz (show i + 1 ≤ rows.length from hi)
    rw [Nat.add_mul] at this
    omega
  have hcapm : rows.length * sz ≤ cap * sz := Nat.mul_le_mul_right _ hcap
  have hvl : v.cells.toList.length = tySize P t := by simp [hn, hs]
  have hget := splice_get cur.toList (i * sz + j) v.cells.toList (by simp only [Array.length_toList, hcs]; omega)
  rw [hvl] at hget
  refine ⟨_, run_storeAt' h0 (by omega) hheap (by omega) (fun x hx' => ?_), ?_, by simp, fun k hk => setRow_other w g k _ fun e => hk (by rw [e]; exact hg)⟩
  · obtain ⟨k, hk, rfl⟩ := Array.getElem_of_mem hx'
    have hk' : k < (aCells av).length := by omega
    exact (hc k _ _ (Array.getElem?_eq_getElem hk) (List.getElem?_eq_getElem hk')).2
  have hxs : ∀ k, k < rows.length * sz → xs[k]? = cur.toList[k]? := fun k hk => by
    rw [← htake, List.getElem?_take, if_pos hk]
  have hrl : (rows[i].take j ++ aCells av ++ rows[i].drop (j + tySize P t)).length = sz := by
    simp only [List.length_append, List.length_take, List.length_drop]
    omega
  refine conc_upd (o' := .row e sz (rows.set i (rows[i].take j ++ aCells av ++ rows[i].drop (j + tySize P t)))) h hid hg rfl (fun k hk => setRow_other w g k _ hk) ?_ (by simp) (fun hext => ⟨fun row hr => ?_, (cur.toList.take (i * sz + j) ++ v.cells.toList ++ cur.toList.drop (i * sz + j + tySize P t)).take (rows.length * sz), ?_, fun x hx' => ?_, fun i' j' row av' h3 h4 => ?_⟩) trivial dst
  · exact ⟨h.lay.below.os, h.lay.below.tape, h.lay.below.output, by simpa using h.lay.below.size, fun k hk hX => (setRow_other w g k _ (by omega)).trans (h.lay.below.block k hk hX)⟩
  · rcases List.mem_or_eq_of_mem_set hr with hr | rfl
    · exact hrow row hr
    · exact hrl
  · rw [List.length_set]
    refine ⟨?_, .inr ⟨g, cap, _, hL, hbg, setRow_heap w g cur _ e (0, 0) hheap, hcap, hcm, ?_, rfl⟩⟩
    · simp only [List.length_take, List.length_append, List.length_drop, Array.length_toList, hcs, hn, hs]
      omega
    · simp only [List.size_toArray, List.length_append, List.length_take, List.length_drop, Array.length_toList, hcs, hn, hs]
      omega
  · obtain ⟨k, hk⟩ := List.getElem?_of_mem hx'
    rw [List.getElem?_take] at hk
    split at hk
    · rename_i hkl
      rw [hget] at hk
      split at hk
      · rename_i hr
        have hk' : k - (i * sz + j) < (aCells av).length := by omega
        exact (hc _ x _ (by simpa using hk) (List.getElem?_eq_getElem hk')).2
      · exact hone x (List.mem_of_getElem? ((hxs k hkl).trans hk))
    · cases hk
  · rw [List.getElem?_set] at h3
    split at h3
    · rename_i e1
      subst e1
      first | rw [if_pos hi] at h3 | skip
      cases h3
      have hj' : j' < sz := by rw [← hrl]; exact (List.getElem?_eq_some_iff.1 h4).1
      have h4' := splice_get rows[i] j (aCells av) (by omega) j'
      rw [hs] at h4'
      rw [h4'] at h4
      have hki : i * sz + j' < rows.length * sz := by omega
      rw [List.getElem?_take, if_pos hki, hget]
      split at h4
      · rename_i hr
        rw [if_pos (by omega)]
        rw [show i * sz + j' - (i * sz + j) = j' - j by omega]
        have hk' : j' - j < v.cells.size := by omega
        refine ⟨v.cells[j' - j], by simp [hk'], hext.rt (tree_of (hc _ _ av' (Array.getElem?_eq_getElem hk') h4).1 (treeL_iff.1 h2 _ (List.mem_of_getElem? h4)))⟩
      · rename_i hr
        rw [if_neg (by omega)]
        obtain ⟨x, hx1, hx2⟩ := hx i j' _ av' (List.getElem?_eq_getElem hi) h4
        exact ⟨x, by rw [← hxs _ hki]; exact hx1, hext.rt hx2⟩
    · rename_i hne
      have hi2 : i' < rows.length := (List.getElem?_eq_some_iff.1 h3).1
      have hj' : j' < sz := by rw [← hrow row (List.mem_of_getElem? h3)]; exact (List.getElem?_eq_some_iff.1 h4).1
      have hki : i' * sz + j' < rows.length * sz := by
        have := Nat.mul_le_mul_right sz (show i' + 1 ≤ rows.length from hi2)
        rw [Nat.add_mul] at this
        omega
      obtain ⟨x, hx1, hx2⟩ := hx i' j' row av' h3 h4
      refine ⟨x, ?_, hext.rt hx2⟩
      rw [List.getElem?_take, if_pos hki, hget, if_neg, ← hxs _ hki]
      · exact hx1
      · intro hr
        rcases Nat.lt_trichotomy i i' with hlt' | he | hlt'
        · have := Nat.mul_le_mul_right sz (show i + 1 ≤ i' from hlt')
          rw [Nat.add_mul] at this
          omega
        · exact hne he
        · have := Nat.mul_le_mul_right sz (show i' + 1 ≤ i from hlt')
          rw [Nat.add_mul] at this
          omega
/-! ### a literal of a struct -/
def tyParts (P : Program) (t : TypeId) : Option (List (Nat × Nat) × List Value) :=
  match P.info? t, P.underlying t with
  | some it, some (.struct fields) => match it.zero, fields.toList.mapM (fun f => (P.info? f.type).map fun i => (f.offset, i.size)) with
    | some z, some places => some (places, z.cells.toList)
    | _, _ => none
  | _, _ => none
def aFill (places : List (Nat × Nat)) : List AV → List (Nat × AV) → Option (List AV)
  | cs, [] => some cs
  | cs, (i, x) :: rest => match places[i]? with
    | some (off, size) => if (aCells x).length = size ∧ off + size ≤ cs.length then aFill places (cs.take off ++ aCells x ++ cs.drop (off + size)) rest else none
    | none => none
def oneParts (tab : ATab) : List (Nat × AV) → Prop
  | [] => True
  | (_, x) :: rest => oneCL tab (aCells x) ∧ oneParts tab rest
theorem fill_ok (hL : Lay cx w tab L) (places : List (Nat × Nat)) : ∀ (parts : List (Nat × Value)) (avs : List (Nat × AV)) (cells : Array Value) (cs cs' : List AV), parts.length = avs.length →
    (∀ (k i : Nat) (v : Value) (j : Nat) (av : AV), parts[k]? = some (i, v) → avs[k]? = some (j, av) → i = j ∧ RVx cx w tab L v av ∧ av.lt nx) → oneParts tab avs → cells.size = cs.length → AV.ltL nx cs → (∀ (j : Nat) (x : Value) (av : AV), cells[j]? = some x → cs[j]? = some av → RVx cx w tab L x av) → aFill places cs avs = some cs' →
    ∃ cells', Instr.fill (places.toArray[·]?) cells parts = some cells' ∧ cells'.size = cs'.length ∧ AV.ltL nx cs' ∧ ∀ (j : Nat) (x : Value) (av : AV), cells'[j]? = some x → cs'[j]? = some av → RVx cx w tab L x av
  | [], [], cells, cs, cs', _, _, _, hn, hl, hr, h => by
    cases h
    exact ⟨cells, rfl, hn, hl, hr⟩
  | (i, v) :: parts, (j, x) :: avs, cells, cs, cs', hlen, hp, hone, hn, hl, hr, h => by
    obtain ⟨rfl, hv, hlx⟩ := hp 0 i v j x rfl rfl
    obtain ⟨hc1, hc2, hc3⟩ := cells_ok hL hv hlx hone.1
    unfold aFill at h
    split at h
    · rename_i off size hpl
      split at h
      · rename_i hsz
        have hfit : off + v.cells.size ≤ cells.size := by omega
        have hone' := fill_one off v.cells cells hfit
        obtain ⟨cells', h1, h2⟩ := fill_ok hL places parts avs (cells.toList.take off ++ v.cells.toList ++ cells.toList.drop (off + v.cells.size)).toArray (cs.take off ++ aCells x ++ cs.drop (off + size)) cs' (by simpa using hlen)
          (fun k i v j av h3 h4 => hp (k + 1) i v j av (by simpa using h3) (by simpa using h4)) hone.2 (by simp [hc1, hsz.1, hn]) (ltL_iff.2 fun y hy => by
            rcases List.mem_append.1 hy with hy | hy
            · rcases List.mem_append.1 hy with hy | hy
              · exact ltL_iff.1 hl y (List.mem_of_mem_take hy)
              · exact ltL_iff.1 hc2 y hy
            · exact ltL_iff.1 hl y (List.mem_of_mem_drop hy)) (fun k y av h3 h4 => by
            have e1 := splice_get cells.toList off v.cells.toList (by simpa using hfit) k
            have e2 := splice_get cs off (aCells x) (by omega) k
            simp only [Array.length_toList] at e1
            rw [hsz.1] at e2
            rw [List.getElem?_toArray, e1] at h3
            rw [e2] at h4
            split at h4
            · rename_i hk
              rw [if_pos (by omega)] at h3
              exact (hc3 _ y av (by simpa using h3) h4).1
            · rename_i hk
              rw [if_neg (by omega)] at h3
              exact hr k y av (by simpa using h3) h4) h
        refine ⟨cells', ?_, h2⟩
        unfold Instr.fill
        simp only [List.getElem?_toArray, hpl]
        rw [if_neg (by simp; omega), hone']
        simpa using h1
      · cases h
    · cases h
  | [], _ :: _, _, _, _, h, _, _, _, _, _, _ => by simp at h
  | _ :: _, [], _, _, _, h, _, _, _, _, _, _ => by simp at h
theorem tyParts_some {t : TypeId} {places : List (Nat × Nat)} {zs : List Value} (h : tyParts P t = some (places, zs)) : ∃ z : Value, z.cells.toList = zs ∧ ∀ parts, P.built t parts = Instr.fill (places.toArray[·]?) z.cells parts := by
  unfold tyParts at h
  split at h
  · rename_i it fields h1 h2
    split at h
    · rename_i z pl h3 h4
      cases h
      refine ⟨z, rfl, fun parts => ?_⟩
      unfold Program.built
      rw [h1, h2]
      simp only [h3]
      simp only [h4]
    · cases h
  · cases h
theorem build_ok {t : TypeId} {places : List (Nat × Nat)} {zs : List Value} {cs' : List AV} {parts : List (Nat × Operand)} (h : Conc cx a w st L) (ht : tyParts P t = some (places, zs)) (hf : aFill places (zs.map .c) (parts.map fun p => (p.1, aEv st p.2)) = some cs') (h1 : oneParts st.tab (parts.map fun p => (p.1, aEv st p.2))) :
    ∃ v, RVx cx w st.tab L v (.agg cs') ∧ (AV.agg cs').lt st.next ∧ ∀ w', (Instr.build t (parts.toArray.map fun (p : Nat × Operand) => (p.1, a.eval p.2))).run P w' = .ok v w' := by
  obtain ⟨z, rfl, hb⟩ := tyParts_some ht
  obtain ⟨cells', h2, h3, h4, h5⟩ := fill_ok h.lay places (parts.map fun p => (p.1, a.eval p.2)) (parts.map fun p => (p.1, aEv st p.2)) z.cells (z.cells.toList.map .c) cs' (by simp) (fun k i v j av h6 h7 => by
    rw [List.getElem?_map] at h6 h7
    cases hk : parts[k]? with
    | none => simp [hk] at h6
    | some p =>
      simp [hk] at h6 h7
      obtain ⟨rfl, rfl⟩ := h6
      obtain ⟨rfl, rfl⟩ := h7
      exact ⟨rfl, eval_ok h p.2⟩) h1 (by simp) (ltL_iff.2 fun y hy => by
      obtain ⟨u, _, rfl⟩ := List.mem_map.1 hy
      trivial) (fun j x av h6 h7 => by
      rw [List.getElem?_map, Array.getElem?_toList, h6] at h7
      cases h7
      exact .tree (.c x)) hf
  refine ⟨.agg cells', .agg cells' cs' h3 h5, h4, fun w' => run_build w' t _ cells' ?_⟩
  rw [hb]
  simpa using h2
end
end
section
open Go.RowKit

mutual
def AV.shift (k : Nat) : AV → AV
  | .osl id => .osl (id + k)
  | .op id i j => .op (id + k) i j
  | .agg cs => .agg (AV.shiftL k cs)
  | .tup cs => .tup (AV.shiftL k cs)
  | .fn f cs => .fn f (AV.shiftL k cs)
  | .bfn f cs => .bfn f (AV.shiftL k cs)
  | .any => .any
  | .c v => .c v
  | .sl sz rows => .sl sz rows
  | .rp cs => .rp cs
def AV.shiftL (k : Nat) : List AV → List AV
  | [] => []
  | a :: l => a.shift k :: AV.shiftL k l
end
theorem shiftL_map (k : Nat) : ∀ l : List AV, AV.shiftL k l = l.map (·.shift k)
  | [] => rfl
  | a :: l => by simp [AV.shiftL, shiftL_map k l]
mutual
/-- it names no memory but the objects of its own -/
def AV.plain : AV → Prop
  | .sl _ _ => False
  | .rp _ => False
  | .agg cs => AV.plainL cs
  | .tup cs => AV.plainL cs
  | .fn _ cs => AV.plainL cs
  | .bfn _ cs => AV.plainL cs
  | _ => True
def AV.plainL : List AV → Prop
  | [] => True
  | a :: l => a.plain ∧ AV.plainL l
end
theorem plainL_iff : ∀ {l : List AV}, AV.plainL l ↔ ∀ a ∈ l, a.plain
  | [] => by simp [AV.plainL]
  | a :: l => by simp [AV.plainL, plainL_iff (l := l)]
def shiftEnv (k : Nat) : List (Nat × AV) → List (Nat × AV)
  | [] => []
  | (t, av) :: l => (t, av.shift k) :: shiftEnv k l
theorem shiftEnv_get (k : Nat) : ∀ (l : List (Nat × AV)) (t : Nat), aget (shiftEnv k l) t = (aget l t).shift k
  | [], t => rfl
  | (q, av) :: l, t => by
    unfold shiftEnv aget
    split
    · rfl
    · exact shiftEnv_get k l t
def AObj.shift (k : Nat) : AObj → AObj
  | .box t cells => .box t (AV.shiftL k cells)
  | .row e sz rows => .row e sz rows
  | .map ents => .map ents
  | .ghost vs env => .ghost vs (shiftEnv k env)
def AObj.plain : AObj → Prop
  | .box _ cells => AV.plainL cells
  | .row _ _ rows => ∀ row ∈ rows, ∀ av ∈ row, av.plain
  | .map _ => False
  | .ghost _ _ => False
def ATab.shift (k : Nat) (T : ATab) : ATab := T.map fun p => (p.1 + k, p.2.map (AObj.shift k))
def ATab.plain : ATab → Prop
  | [] => True
  | (_, some o) :: T => o.plain ∧ ATab.plain T
  | (_, none) :: T => ATab.plain T
theorem plain_get {o : AObj} : ∀ {T : ATab} {id : Nat}, T.plain → T.get id = some o → o.plain
  | [], _, _, h => by cases h
  | (k, oo) :: T, id, hp, h => by
    rw [ATab.get_cons] at h
    split at h
    · subst h
      exact hp.1
    · cases oo with
      | none => exact plain_get (T := T) hp h
      | some o' => exact plain_get (T := T) hp.2 h
theorem shift_get {tab : ATab} {k : Nat} (hy : ∀ id o, tab.get id = some o → id < k) : ∀ (T : ATab) (id : Nat), (T.shift k ++ tab).get id = if id < k then tab.get id else (T.get (id - k)).map (AObj.shift k)
  | [], id => by
    simp only [ATab.shift, List.map_nil, List.nil_append]
    split
    · rfl
    · rename_i h
      cases hg : tab.get id with
      | none => rfl
      | some o => exact absurd (hy id o hg) h
  | (j, o) :: T, id => by
    have ih := shift_get hy T id
    simp only [ATab.shift, List.map_cons, List.cons_append, ATab.get_cons] at ih ⊢
    by_cases h1 : id = j + k
    · rw [if_pos h1, if_neg (by omega), if_pos (by omega)]
    · rw [if_neg h1, ih]
      by_cases h2 : id < k
      · rw [if_pos h2, if_pos h2]
      · rw [if_neg h2, if_neg h2, if_neg (by omega)]
theorem RT.shift {w : World} {S : Nat → Prop} {x : Value} {av : AV} (h : RT w S x av) (k : Nat) : av.shift k = av := by
  induction h with
  | agg xs cs hn hr ih =>
    simp only [AV.shift, shiftL_map, AV.agg.injEq]
    apply List.ext_getElem?
    intro j
    rw [List.getElem?_map]
    cases hj : cs[j]? with
    | none => rfl
    | some av =>
      have hlt : j < xs.size := by rw [hn]; exact (List.getElem?_eq_some_iff.1 hj).1
      simp [ih j _ av (Array.getElem?_eq_getElem hlt) hj]
  | tup xs cs hn hr ih =>
    simp only [AV.shift, shiftL_map, AV.tup.injEq]
    apply List.ext_getElem?
    intro j
    rw [List.getElem?_map]
    cases hj : cs[j]? with
    | none => rfl
    | some av =>
      have hlt : j < xs.size := by rw [hn]; exact (List.getElem?_eq_some_iff.1 hj).1
      simp [ih j _ av (Array.getElem?_eq_getElem hlt) hj]
  | fn fi xs cs hn hr ih =>
    simp only [AV.shift, shiftL_map, AV.fn.injEq, true_and]
    apply List.ext_getElem?
    intro j
    rw [List.getElem?_map]
    cases hj : cs[j]? with
    | none => rfl
    | some av =>
      have hlt : j < xs.size := by rw [hn]; exact (List.getElem?_eq_some_iff.1 hj).1
      simp [ih j _ av (Array.getElem?_eq_getElem hlt) hj]
  | bfn fi xs cs hn hr ih =>
    simp only [AV.shift, shiftL_map, AV.bfn.injEq, true_and]
    apply List.ext_getElem?
    intro j
    rw [List.getElem?_map]
    cases hj : cs[j]? with
    | none => rfl
    | some av =>
      have hlt : j < xs.size := by rw [hn]; exact (List.getElem?_eq_some_iff.1 hj).1
      simp [ih j _ av (Array.getElem?_eq_getElem hlt) hj]
  | _ => simp [AV.shift]
theorem RT.plain {w : World} {S S' : Nat → Prop} {x : Value} {av : AV} (h : RT w S x av) (hp : av.plain) : RT w S' x av := by
  induction h with
  | any x => exact .any x
  | c v => exact .c v
  | sl => exact hp.elim
  | rp => exact hp.elim
  | agg xs cs hn hr ih => exact .agg xs cs hn fun j x av h1 h2 => ih j x av h1 h2 (plainL_iff.1 hp _ (List.mem_of_getElem? h2))
  | tup xs cs hn hr ih => exact .tup xs cs hn fun j x av h1 h2 => ih j x av h1 h2 (plainL_iff.1 hp _ (List.mem_of_getElem? h2))
  | fn fi xs cs hn hr ih => exact .fn fi xs cs hn fun j x av h1 h2 => ih j x av h1 h2 (plainL_iff.1 hp _ (List.mem_of_getElem? h2))
  | bfn fi xs cs hn hr ih => exact .bfn fi xs cs hn fun j x av h1 h2 => ih j x av h1 h2 (plainL_iff.1 hp _ (List.mem_of_getElem? h2))
theorem RV.conv {w : World} {S S' : Nat → Prop} {K K' : Nat → Option (Nat × Value)} {k : Nat} {x : Value} {av : AV} (h : RV w S K x av) (hS : (∀ b, S b → S' b) ∨ av.plain) (hK : ∀ id p, K' (id + k) = some p → K id = some p) : RV w S' K' x (av.shift k) := by
  induction h with
  | tree h =>
    rw [h.shift k]
    rcases hS with hS | hS
    · exact .tree (h.mono (fun _ _ => rfl) hS)
    · exact .tree (h.plain hS)
  | osl x id h => exact .osl x _ fun sz v e => h sz v (hK id _ e)
  | op x id i j h => exact .op x _ i j fun sz v e => h sz v (hK id _ e)
  | agg xs cs hn hr ih =>
    simp only [AV.shift, shiftL_map]
    refine .agg xs _ (by simpa using hn) fun j x av h1 h2 => ?_
    rw [List.getElem?_map] at h2
    cases hj : cs[j]? with
    | none => simp [hj] at h2
    | some av' =>
      simp [hj] at h2
      subst h2
      exact ih j x av' h1 hj (hS.imp id fun hp => plainL_iff.1 hp _ (List.mem_of_getElem? hj))
  | tup xs cs hn hr ih =>
    simp only [AV.shift, shiftL_map]
    refine .tup xs _ (by simpa using hn) fun j x av h1 h2 => ?_
    rw [List.getElem?_map] at h2
    cases hj : cs[j]? with
    | none => simp [hj] at h2
    | some av' =>
      simp [hj] at h2
      subst h2
      exact ih j x av' h1 hj (hS.imp id fun hp => plainL_iff.1 hp _ (List.mem_of_getElem? hj))
  | fn fi xs cs hn hr ih =>
    simp only [AV.shift, shiftL_map]
    refine .fn fi xs _ (by simpa using hn) fun j x av h1 h2 => ?_
    rw [List.getElem?_map] at h2
    cases hj : cs[j]? with
    | none => simp [hj] at h2
    | some av' =>
      simp [hj] at h2
      subst h2
      exact ih j x av' h1 hj (hS.imp id fun hp => plainL_iff.1 hp _ (List.mem_of_getElem? hj))
  | bfn fi xs cs hn hr ih =>
    simp only [AV.shift, shiftL_map]
    refine .bfn fi xs _ (by simpa using hn) fun j x av h1 h2 => ?_
    rw [List.getElem?_map] at h2
    cases hj : cs[j]? with
    | none => simp [hj] at h2
    | some av' =>
      simp [hj] at h2
      subst h2
      exact ih j x av' h1 hj (hS.imp id fun hp => plainL_iff.1 hp _ (List.mem_of_getElem? hj))
theorem lt_shift {n k : Nat} : ∀ {av : AV}, av.lt n → (av.shift k).lt (k + n) := by
  intro av
  induction av using AV.rec (motive_2 := fun _ => True) (motive_3 := fun l => AV.ltL n l → AV.ltL (k + n) (AV.shiftL k l)) <;> simp_all [AV.lt, AV.ltL, AV.shift, AV.shiftL] <;> omega

/-! ### a function's answer -/
theorem envLt_shift {n k : Nat} : ∀ {l : List (Nat × AV)}, envLt n l → envLt (k + n) (shiftEnv k l)
  | [], _ => trivial
  | (_, _) :: _, h => ⟨lt_shift h.1, envLt_shift h.2⟩
/-- what it gives back: its value, and the objects that it has made for it, numbered from 0 -/
structure Res where
  r : AV
  tab : ATab := []
  n : Nat := 0
structure Res.Ok (R : Res) : Prop where
  young : ∀ id o, R.tab.get id = some o → id < R.n ∧ o.lt R.n
  lt : R.r.lt R.n
def Enters (P : Program) (f : FuncId) : Prop := ∀ (args : Array Value) (w : World), (callFunc f args).run P w = .ok (.enter f args) w
/-- whatever order is drawn and wherever memory lies: it gives back one of these answers -/
def ARel (P : Program) (f : FuncId) (args : List AV) (Post : Res → Prop) : Prop :=
  Enters P f ∧ ∀ (S : Nat → Prop) (w : World) (vs : Array Value) (hS : SOk w S), vs.size = args.length → (∀ (j : Nat) (v : Value) (av : AV), vs[j]? = some v → args[j]? = some av → RT w S v av) →
    Calls P f vs w fun e w' => ∃ v L R, Post R ∧ R.Ok ∧ e = .returned v ∧ Lay (Cx.mk0 S w hS) w' R.tab L ∧ RVx (Cx.mk0 S w hS) w' R.tab L v R.r
/-- it gives back this answer -/
def ADet (P : Program) (f : FuncId) (args : List AV) (R : Res) : Prop := ARel P f args fun R' => R' = R
theorem ARel.mono {P : Program} {f : FuncId} {args : List AV} {Post Post' : Res → Prop} (h : ARel P f args Post) (hp : ∀ R, Post R → Post' R) : ARel P f args Post' :=
  ⟨h.1, fun S w vs h1 h2 h3 => (h.2 S w vs h1 h2 h3).mono fun e w' ⟨v, L, R, h4, h5⟩ => ⟨v, L, R, hp R h4, h5⟩⟩
def dref1 (tab : ATab) : AV → AV
  | .osl id => match tab.get id with
    | some (.row _ sz rows) => .sl sz rows
    | _ => .any
  | .op _ _ _ => .any
  | .agg _ => .any
  | .tup _ => .any
  | .fn _ _ => .any
  | .bfn _ _ => .any
  | .any => .any
  | .c v => .c v
  | .sl sz rows => .sl sz rows
  | .rp cs => .rp cs
/-- as an argument, not a closure -/
def dref2 (tab : ATab) : AV → AV
  | .agg cs => .agg (cs.map (dref1 tab))
  | .op id i j => match tab.get id with
    | some (.box _ cells) => if i = 0 then .rp ((cells.drop j).map (dref1 tab)) else .any
    | some (.row _ _ rows) => if i < rows.length then .rp ((rows[i]?.getD []).drop j) else .any
    | _ => .any
  | .osl id => dref1 tab (.osl id)
  | .tup _ => .any
  | .fn _ _ => .any
  | .bfn _ _ => .any
  | .any => .any
  | .c v => .c v
  | .sl sz rows => .sl sz rows
  | .rp cs => .rp cs
/-- as an argument: what it is, no object named -/
def dref (tab : ATab) : AV → AV
  | .fn f cs => .fn f (cs.map (dref2 tab))
  | .bfn f cs => .bfn f (cs.map (dref2 tab))
  | .agg cs => .agg (cs.map (dref1 tab))
  | .op id i j => match tab.get id with
    | some (.box _ cells) => if i = 0 then .rp ((cells.drop j).map (dref1 tab)) else .any
    | some (.row _ _ rows) => if i < rows.length then .rp ((rows[i]?.getD []).drop j) else .any
    | _ => .any
  | .osl id => dref1 tab (.osl id)
  | .tup _ => .any
  | .any => .any
  | .c v => .c v
  | .sl sz rows => .sl sz rows
  | .rp cs => .rp cs
/-- it names no object -/
def roA : AV → Prop
  | .osl _ => False
  | .op _ _ _ => False
  | .tup _ => False
  | .agg cs => treeL cs
  | .fn _ cs => treeL cs
  | .bfn _ cs => treeL cs
  | _ => True
def roL : List AV → Prop
  | [] => True
  | a :: l => roA a ∧ roL l
theorem roL_iff : ∀ {l : List AV}, roL l ↔ ∀ a ∈ l, roA a
  | [] => by simp [roL]
  | a :: l => by simp [roL, roL_iff (l := l)]
def aCallA (P : Program) (st : ASt) (f : FuncId) (avs : List AV) (K : AV → ASt → Prop) : Prop :=
  ∃ Post : Res → Prop, ARel P f (avs.map (dref st.tab)) Post ∧ ∀ R, Post R → (roL avs ∨ (R.r.plain ∧ R.tab.plain)) ∧ K (R.r.shift st.next) { st with tab := R.tab.shift st.next ++ st.tab, next := st.next + R.n }
/-- it gives back this, and all stays as it was -/
def aSame (P : Program) (st : ASt) (f : FuncId) (avs : List AV) (K : AV → ASt → Prop) : Prop :=
  Enters P f ∧ ∃ v : Value, K (.c v) st ∧ ∀ (cx : Cx) (a : Act) (w : World) (L : Nat → Value) (vs : Array Value), Conc cx a w st L → vs.size = avs.length → (∀ (j : Nat) (v : Value) (av : AV), vs[j]? = some v → avs[j]? = some av → RVx cx w st.tab L v av) →
    Calls P f vs w fun e w' => e = .returned v ∧ Below w.heap.size w w'
def aCall0 (P : Program) (st : ASt) (f : FuncId) (avs : List AV) (K : AV → ASt → Prop) : Prop := aCallA P st f avs K ∨ aSame P st f avs K
/-- it changes a slice in place, and gives it back -/
def AUpd (P : Program) (f : FuncId) (e : TypeId) (sz : Nat) (vals : List (List Value)) (rest : List Value) (vals' : List (List Value)) : Prop :=
  Enters P f ∧ ∀ (w : World) (v : Value) (base : Nat), OwnsR w base e sz v vals.length vals.flatten → Calls P f (v :: rest).toArray w fun ex w' => ∃ v', ex = .returned v' ∧ OwnsR w' base e sz v' vals'.length vals'.flatten ∧ w.grownBy w' v.ownBlock ∧ v'.ownBlock = v.ownBlock
def rowsC (vals : List (List Value)) : List (List AV) := vals.map fun r => r.map AV.c
def aUpd (P : Program) (st : ASt) (f : FuncId) (avs : List AV) (K : AV → ASt → Prop) : Prop :=
  ∃ (id e sz : Nat) (vals : List (List Value)) (rest : List Value) (vals' : List (List Value)), avs = .osl id :: rest.map .c ∧ st.tab.get id = some (.row e sz (rowsC vals)) ∧ AUpd P f e sz vals rest vals' ∧ (∀ r ∈ vals', r.length = sz ∧ ∀ x ∈ r, x.oneCell' = true) ∧
    K (.osl st.next) { st with tab := appTab st.tab st.next (some id) (.row e sz (rowsC vals')), next := st.next + 1 }
/-- slices of the call's own that it names are written no more -/
def aCallZ (P : Program) (st : ASt) (f : FuncId) (avs : List AV) (K : AV → ASt → Prop) : Prop := ∃ ids, aCall0 P (frzs st ids) f (frzAVs st ids avs) K
/-- a slice of somebody's: its rows -/
def RowAt (w : World) (S : Nat → Prop) (base : Nat) (e : TypeId) (sz : Nat) (v : Value) (rows : List (List AV)) : Prop :=
  (∀ row ∈ rows, row.length = sz) ∧ ∃ xs, OwnsR w base e sz v rows.length xs ∧ (∀ x ∈ xs, x.oneCell' = true) ∧ ∀ (i j : Nat) (row : List AV) (av : AV), rows[i]? = some row → row[j]? = some av → ∃ x, xs[i * sz + j]? = some x ∧ RT w S x av
/-- it changes the rows of a slice that it is given, and gives back nothing -/
def AMut (P : Program) (f : FuncId) (e : TypeId) (sz : Nat) (rows : List (List AV)) (args : List AV) (rows' : List (List AV)) : Prop :=
  Enters P f ∧ ∀ (S : Nat → Prop) (w : World) (base : Nat) (v : Value) (vs : Array Value), SOk w S → ambD ≤ base → RowAt w S base e sz v rows → (∀ g, vblk v = some g → ¬ S g) → vs.size = args.length → (∀ (j : Nat) (x : Value) (av : AV), vs[j]? = some x → args[j]? = some av → RT w S x av) →
    Calls P f (#[v] ++ vs) w fun ex w' => ex = .returned (.tuple #[]) ∧ (w'.os = w.os ∧ w'.tape = w.tape ∧ w'.output = w.output) ∧ w.heap.size ≤ w'.heap.size ∧ (∀ k, k < w.heap.size → vblk v ≠ some k → w'.heap[k]? = w.heap[k]?) ∧ RowAt w' (fun b => (S b ∨ w.heap.size ≤ b) ∧ b < w'.heap.size) base e sz v rows'
def aMut (P : Program) (st : ASt) (f : FuncId) (avs : List AV) (K : AV → ASt → Prop) : Prop :=
  ∃ (id e sz : Nat) (rows rows' : List (List AV)) (rest : List AV), avs = .osl id :: rest ∧ st.tab.get id = some (.row e sz rows) ∧ treeML rest ∧ AMut P f e sz rows rest rows' ∧ K (.tup []) { st with tab := (id, some (.row e sz rows')) :: st.tab }
/-- it is gone through within the caller: whatever it does with what the caller has -/
def aInl (P : Program) (st : ASt) (f : FuncId) (avs : List AV) (K : AV → ASt → Prop) : Prop :=
  Enters P f ∧ ∀ (cx : Cx) (a : Act) (w : World) (L : Nat → Value) (vs : Array Value) (dst : Option Nat), Conc cx a w st L → vs.size = avs.length → (∀ (j : Nat) (v : Value) (av : AV), vs[j]? = some v → avs[j]? = some av → RVx cx w st.tab L v av ∧ av.lt st.next) →
    Calls P f vs w fun e w' => ∃ v av st' L', e = .returned v ∧ K av st' ∧ Conc cx (a.put dst v) w' (st'.put dst av) L' ∧ Fr cx w st.tab L st.next w' st'.tab L' st'.next
def aUpdM (P : Program) (st : ASt) (f : FuncId) (avs : List AV) (K : AV → ASt → Prop) : Prop := aUpd P st f avs K ∨ aMut P st f avs K ∨ aInl P st f avs K
mutual
/-- objects named anew: k by the k-th of a list -/
def AV.ren (l : List Nat) : AV → AV
  | .osl id => .osl (l.getD id 0)
  | .op id i j => .op (l.getD id 0) i j
  | .agg cs => .agg (AV.renL l cs)
  | .tup cs => .tup (AV.renL l cs)
  | .fn f cs => .fn f (AV.renL l cs)
  | .bfn f cs => .bfn f (AV.renL l cs)
  | .any => .any
  | .c v => .c v
  | .sl sz rows => .sl sz rows
  | .rp cs => .rp cs
def AV.renL (l : List Nat) : List AV → List AV
  | [] => []
  | a :: l2 => a.ren l :: AV.renL l l2
end
theorem renL_map (l : List Nat) : ∀ l2 : List AV, AV.renL l l2 = l2.map (·.ren l)
  | [] => rfl
  | a :: l2 => by simp [AV.renL, renL_map l l2]
/-- an elder object that is written, or a new one -/
def aMay (nx0 : Nat) (ids : List Nat) (id : Nat) : Prop := id ∈ ids ∨ nx0 ≤ id
/-- objects, numbered from k on -/
def tabN : Nat → List AObj → ATab
  | _, [] => []
  | k, o :: l => (k, some o) :: tabN (k + 1) l
def plainO : AObj → Prop
  | .row _ _ _ => True
  | .map _ => True
  | _ => False
/-- a method: what it is handed a pointer to, and what that holds, is the call's own, and is changed -/
def AMth (P : Program) (f : FuncId) (t : TypeId) (cells : List AV) (objs : List AObj) (rest : List AV) (Post : AV → List AV → List AObj → Prop) : Prop :=
  Enters P f ∧ AV.ltL (objs.length + 1) cells ∧ ∀ (cx : Cx) (w : World) (L : Nat → Value) (vs : Array Value), Lay cx w (tabN 0 (.box t cells :: objs)) L → vs.size = rest.length + 1 → (∀ x, vs[0]? = some x → x = L 0) →
    (∀ (j : Nat) (x : Value) (av : AV), vs[j + 1]? = some x → rest[j]? = some av → RT w (Sx cx w (tabN 0 (.box t cells :: objs)) L) x av) →
    Calls P f vs w fun e w' => ∃ v av cells' objs' L', e = .returned v ∧ Post av cells' objs' ∧ Lay cx w' (tabN 0 (.box t cells' :: objs')) L' ∧ RT w' (Sx cx w' (tabN 0 (.box t cells' :: objs')) L') v av ∧ L' 0 = L 0 ∧ cells'.length = cells.length ∧
      AV.ltL (objs'.length + 1) cells' ∧ (∀ o ∈ objs', plainO o) ∧ Fz w (tabN 0 (.box t cells :: objs)) L w' (tabN 0 (.box t cells' :: objs')) L'
def objsAt (tab : ATab) : List Nat → List AObj → Prop
  | [], [] => True
  | i :: is, o :: os => (tab.get i = some o ∧ plainO o) ∧ objsAt tab is os
  | _, _ => False
def aMethTab (st : ASt) (b : Nat) (ids : List Nat) (t : TypeId) (cells : List AV) (objs : List AObj) : ATab :=
  (b, some (.box t (AV.renL (b :: List.range' st.next objs.length) cells))) :: (tabN st.next objs ++ (ids.map (fun i => (i, none)) ++ st.tab))
def aMeth (u : Option (Nat × List Nat)) (P : Program) (st : ASt) (f : FuncId) (avs : List AV) (K : AV → ASt → Prop) : Prop :=
  ∃ (t : TypeId) (cells : List AV) (objs : List AObj) (rest : List AV) (Post : AV → List AV → List AObj → Prop) (b : Nat) (ids : List Nat), AMth P f t cells objs rest Post ∧ avs = .op b 0 0 :: rest ∧ roL rest ∧
    st.tab.get b = some (.box t (AV.renL (b :: ids) cells)) ∧ objsAt st.tab ids objs ∧ (b :: ids).Nodup ∧ (∀ p, u = some p → ∀ id ∈ b :: ids, aMay p.1 p.2 id) ∧
    ∀ av cells' objs', Post av cells' objs' → K av { st with tab := aMethTab st b ids t cells' objs', next := st.next + objs'.length }
/-- a call; u: none: one that may change the call's own; otherwise what it may change -/
def aCall (u : Option (Nat × List Nat)) (P : Program) (st : ASt) (f : FuncId) (avs : List AV) (K : AV → ASt → Prop) : Prop := aCall0 P st f avs K ∨ (u = none ∧ (aUpdM P st f avs K ∨ aCallZ P st f avs K)) ∨ aMeth u P st f avs K
section
variable {P : Program} {cx : Cx} {a : Act} {w w' : World} {tab : ATab} {st : ASt} {L : Nat → Value} {nx : Nat}
theorem row_tree {e : TypeId} {sz : Nat} {v : Value} {rows : List (List AV)} (h : ObjAt cx w tab L v (.row e sz rows)) : RT w (fun b => b < w.heap.size) v (.sl sz rows) := by
  obtain ⟨hrow, xs, hown, hone, hx⟩ := h
  have hm : ∀ i j row av, rows[i]? = some row → row[j]? = some av → (xs[i * sz + j]?.getD undef).oneCell' = true ∧ RT w (fun b => b < w.heap.size) (xs[i * sz + j]?.getD undef) av ∧ ∃ x, xs[i * sz + j]? = some x := fun i j row av h1 h2 => by
    obtain ⟨x, hx1, hx2⟩ := hx i j row av h1 h2
    rw [hx1]
    exact ⟨hone x (List.mem_of_getElem? hx1), hx2.mono (fun _ _ => rfl) (fun b hb => hb.1), x, rfl⟩
  rcases hown.2 with ⟨rfl, h0⟩ | ⟨g, cap, cur, rfl, hb, hg, hc, hm', _⟩
  · exact .sl none _ 0 sz rows 0 0 (fun i j => xs[i * sz + j]?.getD undef) h0.symm (Nat.le_refl _) (by omega) (fun h => by omega) hrow (fun h => by omega) (fun i j row av h1 h2 => (hm i j row av h1 h2).1) (fun i j row av h1 h2 => (hm i j row av h1 h2).2.1)
  · refine .sl _ _ cap sz rows g 0 (fun i j => xs[i * sz + j]?.getD undef) rfl hc (by simpa [maxLen] using hm') (fun _ => ⟨rfl, (Array.getElem?_eq_some_iff.1 hg).1⟩) hrow (fun _ i j row av h1 h2 => ?_) (fun i j row av h1 h2 => (hm i j row av h1 h2).1) (fun i j row av h1 h2 => (hm i j row av h1 h2).2.1)
    obtain ⟨x, hx⟩ := (hm i j row av h1 h2).2.2
    have := hown.cells (g := g) rfl _ x hx
    rw [addAddr0] at this
    rw [hx, Nat.zero_add]
    exact this
theorem dref1_ok (hL : Lay cx w tab L) {x : Value} {av : AV} (h : RVx cx w tab L x av) : RT w (fun b => b < w.heap.size) x (dref1 tab av) := by
  cases av with
  | osl id =>
    unfold dref1
    simp only
    split
    · rename_i e sz rows hid
      rw [h.osl_inv _ _ (kx_of hid)]
      exact row_tree (hL.objs id _ hid)
    · exact .any _
  | op => exact .any _
  | agg => exact .any _
  | tup => exact .any _
  | fn => exact .any _
  | bfn => exact .any _
  | _ =>
    cases h with
    | tree h => exact h.mono (fun _ _ => rfl) (fun b hb => hb.1)
theorem dref2_ok (hL : Lay cx w tab L) {x : Value} {av : AV} (h : RVx cx w tab L x av) : RT w (fun b => b < w.heap.size) x (dref2 tab av) := by
  cases av with
  | agg cs =>
    obtain ⟨xs, rfl, hn, hr⟩ := h.agg_inv
    refine .agg xs _ (by simpa using hn) fun j x av h1 h2 => ?_
    rw [List.getElem?_map] at h2
    cases hj : cs[j]? with
    | none => simp [hj] at h2
    | some av' =>
      simp [hj] at h2
      subst h2
      exact dref1_ok hL (hr j x av' h1 hj)
  | op id i j =>
    unfold dref2
    simp only
    split
    · rename_i t cells hid
      split
      · rename_i h0
        subst h0
        obtain ⟨g, hg, rfl⟩ := h.op_inv _ _ (kx_of hid)
        have hob := hL.objs id _ hid
        rw [Nat.zero_mul, Nat.zero_add]
        have key : ∀ k av, ((cells.drop j).map (dref1 tab))[k]? = some av → ∃ u, w.cell? ⟨g, j + k, none⟩ = some u ∧ RT w (fun b => b < w.heap.size) u av := fun k av hk => by
          rw [List.getElem?_map, List.getElem?_drop] at hk
          cases hc : cells[j + k]? with
          | none => simp [hc] at hk
          | some av' =>
            simp [hc] at hk
            subst hk
            obtain ⟨u, h1, h2⟩ := box_cells hob hg (j + k) av' hc
            exact ⟨u, h1, dref1_ok hL h2⟩
        refine .rp g j _ (fun k => (w.cell? ⟨g, j + k, none⟩).getD undef) (hob.ge hg).2 (fun k av hk => ?_) (fun k av hk => ?_)
        · obtain ⟨u, h1, h2⟩ := key k av hk
          simp [h1]
        · obtain ⟨u, h1, h2⟩ := key k av hk
          simpa [h1] using h2
      · exact .any _
    · rename_i e sz rows hid
      split
      · rename_i hi
        obtain ⟨g, hg, rfl⟩ := h.op_inv _ _ (kx_of hid)
        have hob := hL.objs id _ hid
        have key : ∀ k av, ((rows[i]?.getD []).drop j)[k]? = some av → ∃ u, w.cell? ⟨g, i * sz + j + k, none⟩ = some u ∧ RT w (fun b => b < w.heap.size) u av := fun k av hk => by
          rw [List.getElem?_drop] at hk
          obtain ⟨u, h1, h2⟩ := row_cells hob hg hi (j + k) av hk
          rw [← Nat.add_assoc] at h1
          exact ⟨u, h1, h2.mono (fun _ _ => rfl) (fun b hb => hb.1)⟩
        refine .rp g (i * sz + j) _ (fun k => (w.cell? ⟨g, i * sz + j + k, none⟩).getD undef) (hob.ge hg).2 (fun k av hk => ?_) (fun k av hk => ?_)
        · obtain ⟨u, h1, h2⟩ := key k av hk
          simp [h1]
        · obtain ⟨u, h1, h2⟩ := key k av hk
          simpa [h1] using h2
      · exact .any _
    · exact .any _
  | osl id => exact dref1_ok hL h
  | tup => exact .any _
  | fn => exact .any _
  | bfn => exact .any _
  | any => exact dref1_ok hL h
  | c v => exact dref1_ok hL h
  | sl sz rows => exact dref1_ok hL h
  | rp cs => exact dref1_ok hL h
theorem dref_ok (hL : Lay cx w tab L) {x : Value} {av : AV} (h : RVx cx w tab L x av) : RT w (fun b => b < w.heap.size) x (dref tab av) := by
  cases av with
  | agg cs =>
    obtain ⟨xs, rfl, hn, hr⟩ := h.agg_inv
    refine .agg xs _ (by simpa using hn) fun j x av h1 h2 => ?_
    rw [List.getElem?_map] at h2
    cases hj : cs[j]? with
    | none => simp [hj] at h2
    | some av' =>
      simp [hj] at h2
      subst h2
      exact dref1_ok hL (hr j x av' h1 hj)
  | op id i j =>
    unfold dref
    simp only
    split
    · rename_i t cells hid
      split
      · rename_i h0
        subst h0
        obtain ⟨g, hg, rfl⟩ := h.op_inv _ _ (kx_of hid)
        have hob := hL.objs id _ hid
        rw [Nat.zero_mul, Nat.zero_add]
        have key : ∀ k av, ((cells.drop j).map (dref1 tab))[k]? = some av → ∃ u, w.cell? ⟨g, j + k, none⟩ = some u ∧ RT w (fun b => b < w.heap.size) u av := fun k av hk => by
          rw [List.getElem?_map, List.getElem?_drop] at hk
          cases hc : cells[j + k]? with
          | none => simp [hc] at hk
          | some av' =>
            simp [hc] at hk
            subst hk
            obtain ⟨u, h1, h2⟩ := box_cells hob hg (j + k) av' hc
            exact ⟨u, h1, dref1_ok hL h2⟩
        refine .rp g j _ (fun k => (w.cell? ⟨g, j + k, none⟩).getD undef) (hob.ge hg).2 (fun k av hk => ?_) (fun k av hk => ?_)
        · obtain ⟨u, h1, h2⟩ := key k av hk
          simp [h1]
        · obtain ⟨u, h1, h2⟩ := key k av hk
          simpa [h1] using h2
      · exact .any _
    · rename_i e sz rows hid
      split
      · rename_i hi
        obtain ⟨g, hg, rfl⟩ := h.op_inv _ _ (kx_of hid)
        have hob := hL.objs id _ hid
        have key : ∀ k av, ((rows[i]?.getD []).drop j)[k]? = some av → ∃ u, w.cell? ⟨g, i * sz + j + k, none⟩ = some u ∧ RT w (fun b => b < w.heap.size) u av := fun k av hk => by
          rw [List.getElem?_drop] at hk
          obtain ⟨u, h1, h2⟩ := row_cells hob hg hi (j + k) av hk
          rw [← Nat.add_assoc] at h1
          exact ⟨u, h1, h2.mono (fun _ _ => rfl) (fun b hb => hb.1)⟩
        refine .rp g (i * sz + j) _ (fun k => (w.cell? ⟨g, i * sz + j + k, none⟩).getD undef) (hob.ge hg).2 (fun k av hk => ?_) (fun k av hk => ?_)
        · obtain ⟨u, h1, h2⟩ := key k av hk
          simp [h1]
        · obtain ⟨u, h1, h2⟩ := key k av hk
          simpa [h1] using h2
      · exact .any _
    · exact .any _
  | osl id => exact dref1_ok hL h
  | tup => exact .any _
  | fn f cs =>
    obtain ⟨xs, rfl, hn, hr⟩ := h.fn_inv
    refine .fn f xs _ (by simpa using hn) fun j x av h1 h2 => ?_
    rw [List.getElem?_map] at h2
    cases hj : cs[j]? with
    | none => simp [hj] at h2
    | some av' =>
      simp [hj] at h2
      subst h2
      exact dref2_ok hL (hr j x av' h1 hj)
  | bfn f cs =>
    obtain ⟨xs, rfl, hn, hr⟩ := h.bfn_inv
    refine .bfn f xs _ (by simpa using hn) fun j x av h1 h2 => ?_
    rw [List.getElem?_map] at h2
    cases hj : cs[j]? with
    | none => simp [hj] at h2
    | some av' =>
      simp [hj] at h2
      subst h2
      exact dref2_ok hL (hr j x av' h1 hj)
  | any => exact dref1_ok hL h
  | c v => exact dref1_ok hL h
  | sl sz rows => exact dref1_ok hL h
  | rp cs => exact dref1_ok hL h
theorem dref_ro {x : Value} {av : AV} (h : RVx cx w tab L x av) (hr : roA av) : RT w (Sx cx w tab L) x (dref tab av) := by
  cases av with
  | agg cs =>
    obtain ⟨xs, rfl, hn, hx⟩ := h.agg_inv
    refine .agg xs _ (by simpa using hn) fun j x av h1 h2 => ?_
    rw [List.getElem?_map] at h2
    cases hj : cs[j]? with
    | none => simp [hj] at h2
    | some av' =>
      simp [hj] at h2
      subst h2
      have ht := treeL_iff.1 hr av' (List.mem_of_getElem? hj)
      have := tree_of (hx j x av' h1 hj) ht
      cases av' <;> first | exact ht.elim | exact this
  | osl => exact hr.elim
  | op => exact hr.elim
  | tup => exact hr.elim
  | fn f cs =>
    obtain ⟨xs, rfl, hn, hx⟩ := h.fn_inv
    refine .fn f xs _ (by simpa using hn) fun j x av h1 h2 => ?_
    rw [List.getElem?_map] at h2
    cases hj : cs[j]? with
    | none => simp [hj] at h2
    | some av' =>
      simp [hj] at h2
      subst h2
      have ht := treeL_iff.1 hr av' (List.mem_of_getElem? hj)
      have := tree_of (hx j x av' h1 hj) ht
      cases av' <;> first | exact ht.elim | exact this
  | bfn f cs =>
    obtain ⟨xs, rfl, hn, hx⟩ := h.bfn_inv
    refine .bfn f xs _ (by simpa using hn) fun j x av h1 h2 => ?_
    rw [List.getElem?_map] at h2
    cases hj : cs[j]? with
    | none => simp [hj] at h2
    | some av' =>
      simp [hj] at h2
      subst h2
      have ht := treeL_iff.1 hr av' (List.mem_of_getElem? hj)
      have := tree_of (hx j x av' h1 hj) ht
      cases av' <;> first | exact ht.elim | exact this
  | any => exact tree_of h trivial
  | c v => exact tree_of h trivial
  | sl sz rows => exact tree_of h trivial
  | rp cs => exact tree_of h trivial
theorem call_okA {f : FuncId} {vs : Array Value} {avs : List AV} {K : AV → ASt → Prop} (h : Conc cx a w st L) (hn : vs.size = avs.length) (hv : ∀ (j : Nat) (v : Value) (av : AV), vs[j]? = some v → avs[j]? = some av → RVx cx w st.tab L v av) (hK : aCallA P st f avs K) (dst : Option Nat) :
    Calls P f vs w fun e w' => ∃ v av st' L', e = .returned v ∧ K av st' ∧ Conc cx (a.put dst v) w' (st'.put dst av) L' ∧ Below w.heap.size w w' ∧ (∀ id, id < st.next → st'.tab.get id = st.tab.get id ∧ L' id = L id) ∧ (∀ id o g, st.next ≤ id → st'.tab.get id = some o → vblk (L' id) = some g → w.heap.size ≤ g) ∧ st.next ≤ st'.next := by
  obtain ⟨Post, ⟨_, hdet⟩, hK⟩ := hK
  obtain ⟨S, hS1, hS2, hSv⟩ : ∃ S : Nat → Prop, SOk w S ∧ ((∀ b, S b → Sx cx w st.tab L b) ∨ ¬ roL avs) ∧ ∀ (j : Nat) (v : Value) (av : AV), vs[j]? = some v → (avs.map (dref st.tab))[j]? = some av → RT w S v av := by
    by_cases hro : roL avs
    · refine ⟨Sx cx w st.tab L, h.lay.sok, .inl fun b hb => hb, fun j v av h1 h2 => ?_⟩
      rw [List.getElem?_map] at h2
      cases hj : avs[j]? with
      | none => simp [hj] at h2
      | some av' =>
        simp [hj] at h2
        subst h2
        exact dref_ro (hv j v av' h1 hj) (roL_iff.1 hro av' (List.mem_of_getElem? hj))
    · refine ⟨fun b => b < w.heap.size, ⟨fun b hb => hb, h.lay.amb, fun b hb => Nat.lt_of_lt_of_le hb h.lay.amb.le⟩, .inr hro, fun j v av h1 h2 => ?_⟩
      rw [List.getElem?_map] at h2
      cases hj : avs[j]? with
      | none => simp [hj] at h2
      | some av' =>
        simp [hj] at h2
        subst h2
        exact dref_ok h.lay (hv j v av' h1 hj)
  refine (hdet S w vs hS1 (by simpa using hn) hSv).mono ?_
  rintro e w' ⟨v, L2, R, hPost, hok, rfl, hlay, hr⟩
  obtain ⟨hro, hK⟩ := hK R hPost
  have hS2 : (∀ b, S b → Sx cx w st.tab L b) ∨ (R.r.plain ∧ R.tab.plain) := by
    rcases hro with hro | hp
    · exact .inl (hS2.resolve_right fun hn => hn hro)
    · exact .inr hp
  have hbw : cx.w0.heap.size ≤ w.heap.size := h.lay.below.size
  have hbel : Below w.heap.size w w' := hlay.below.below fun b hb => hb
  have hget := shift_get (tab := st.tab) (k := st.next) (fun id o hid => (h.young id o hid).1) R.tab
  let L' : Nat → Value := fun id => if id < st.next then L id else L2 (id - st.next)
  have hL1 : ∀ id, id < st.next → L' id = L id := fun id hid => if_pos hid
  have hL2 : ∀ id, ¬ id < st.next → L' id = L2 (id - st.next) := fun id hid => if_neg hid
  have hnew : ∀ id o, st.next ≤ id → (R.tab.shift st.next ++ st.tab).get id = some o → ∃ o', R.tab.get (id - st.next) = some o' ∧ o = o'.shift st.next := fun id o h1 h2 => by
    rw [hget, if_neg (by omega)] at h2
    cases ho : R.tab.get (id - st.next) with
    | none => simp [ho] at h2
    | some o' =>
      simp [ho] at h2
      exact ⟨o', rfl, h2.symm⟩
  have hge : ∀ id o g, R.tab.get id = some o → vblk (L2 id) = some g → w.heap.size ≤ g := fun id o g h1 h2 => ((hlay.objs id o h1).ge h2).1
  have hold : ∀ id, id < st.next → (R.tab.shift st.next ++ st.tab).get id = st.tab.get id ∧ L' id = L id := fun id hid => ⟨by rw [hget, if_pos hid], hL1 id hid⟩
  have hnew' : ∀ id o g, st.next ≤ id → (R.tab.shift st.next ++ st.tab).get id = some o → vblk (L' id) = some g → w.heap.size ≤ g := fun id o g h1 h2 h3 => by
    obtain ⟨o', ho, _⟩ := hnew id o h1 h2
    rw [hL2 id (by omega)] at h3
    exact hge _ o' g ho h3
  have hext : Ext cx w st.tab L st.next w' (R.tab.shift st.next ++ st.tab) L' := ext_merge hbel hold (fun id o hid => (h.young id o hid).1) hnew'
  have hsz : ∀ (o : AObj) k, (o.shift k).sz = o.sz := fun o k => by cases o <;> simp [AObj.shift, AObj.sz, shiftL_map]
  have hKx : ∀ id p, Kx (R.tab.shift st.next ++ st.tab) L' (id + st.next) = some p → Kx R.tab L2 id = some p := fun id p hk => by
    unfold Kx at *
    rw [hget, if_neg (by omega), hL2 _ (by omega), Nat.add_sub_cancel] at hk
    cases ho : R.tab.get id with
    | none => simp [ho] at hk
    | some o => simpa [ho, hsz] using hk
  have hsub : (∀ b, Sx (Cx.mk0 S w hS1) w' R.tab L2 b → Sx cx w' (R.tab.shift st.next ++ st.tab) L' b) ∨ (R.r.plain ∧ R.tab.plain) := by
    rcases hS2 with hS2 | hp
    · refine .inl fun b hb => ⟨hb.1, ?_, fun id o hid hg => ?_⟩
      · rcases hb.2.1.1 with h1 | h1
        · exact (hS2 b h1).2.1
        · exact ⟨.inr (Nat.le_trans hbw h1), fun hX => absurd (h.lay.ex b hX).1 (Nat.not_lt.2 h1)⟩
      · by_cases hlt : id < st.next
        · rw [hget, if_pos hlt] at hid
          rw [hL1 id hlt] at hg
          rcases hb.2.1.1 with h1 | h1
          · exact (hS2 b h1).2.2 id o hid hg
          · have := ((h.lay.objs id o hid).ge hg).2
            have h1 : w.heap.size ≤ b := h1
            omega
        · obtain ⟨o', ho, _⟩ := hnew id o (by omega) hid
          rw [hL2 id hlt] at hg
          exact hb.2.2 _ o' ho hg
    · exact .inr hp
  refine ⟨v, R.r.shift st.next, { st with tab := R.tab.shift st.next ++ st.tab, next := st.next + R.n }, L', rfl, hK, conc_put h (lay_merge h.lay h.young hbel hold (fun id o h1 h2 => ?_) hnew' fun id id' o o' g h1 h2 h3 h4 h5 h6 => ?_) hext (Nat.le_add_right _ _) (fun id o hid => ?_) (hr.conv (hsub.imp (fun h => h) (·.1)) hKx) (lt_shift hok.lt) dst, hbel, hold, hnew', Nat.le_add_right _ _⟩
  · obtain ⟨o', ho, rfl⟩ := hnew id o h1 h2
    rw [hL2 id (by omega)]
    have hob := hlay.objs _ o' ho
    have hpl : R.tab.plain → o'.plain := fun hp => plain_get hp ho
    cases o' with
    | box t cells =>
      obtain ⟨g, cs, h3, h4, h5, h6, h7⟩ := hob
      refine ⟨g, cs, h3, Nat.le_trans hbw h4, h5, by simpa [shiftL_map] using h6, fun j x av h8 h9 => ?_⟩
      rw [shiftL_map, List.getElem?_map] at h9
      cases hj : cells[j]? with
      | none => simp [hj] at h9
      | some av' =>
        simp [hj] at h9
        subst h9
        exact ⟨(h7 j x av' h8 hj).1.conv (hsub.imp (fun h => h) fun hp => plainL_iff.1 (hpl hp.2) _ (List.mem_of_getElem? hj)) hKx, (h7 j x av' h8 hj).2⟩
    | row e sz rows =>
      obtain ⟨h3, xs, hown, h5, h6⟩ := hob
      refine ⟨h3, xs, hown.base hbw, h5, fun i j row av h7 h8 => ?_⟩
      obtain ⟨x, hx, hrt⟩ := h6 i j row av h7 h8
      refine ⟨x, hx, ?_⟩
      rcases hsub with hs | hp
      · exact hrt.mono (fun _ _ => rfl) hs
      · exact hrt.plain (hpl hp.2 row (List.mem_of_getElem? h7) av (List.mem_of_getElem? h8))
    | map ents =>
      obtain ⟨g, es, ck, h3, h4, h5, h6⟩ := hob
      exact ⟨g, es, ck, h3, Nat.le_trans hbw h4, h5, h6⟩
    | ghost vs env =>
      refine ⟨hob.1, fun t ht => ?_⟩
      rw [shiftEnv_get]
      exact (hob.2 t ht).conv (hsub.imp (fun h => h) fun hp => (hpl hp.2).elim) hKx
  · obtain ⟨o1, ho1, _⟩ := hnew id o h1 h3
    obtain ⟨o2, ho2, _⟩ := hnew id' o' h2 h4
    rw [hL2 id (by omega)] at h5
    rw [hL2 id' (by omega)] at h6
    have := hlay.sep _ _ o1 o2 g ho1 ho2 h5 h6
    omega
  · by_cases hlt : id < st.next
    · rw [hget, if_pos hlt] at hid
      have hy := h.young id o hid
      refine ⟨by omega, ?_⟩
      cases o with
      | box t cells => exact ltL_iff.2 fun x hx => AV.lt_mono (Nat.le_add_right _ _) (ltL_iff.1 hy.2 x hx)
      | row => trivial
      | map => trivial
      | ghost vs env => exact envLt_mono (Nat.le_add_right _ _) hy.2
    · obtain ⟨o', ho, rfl⟩ := hnew id o (by omega) hid
      have hy := hok.young _ o' ho
      refine ⟨by omega, ?_⟩
      cases o' with
      | box t cells =>
        simp only [AObj.shift, AObj.lt, shiftL_map]
        refine ltL_iff.2 fun x hx => ?_
        obtain ⟨y, hy', rfl⟩ := List.mem_map.1 hx
        exact lt_shift (ltL_iff.1 hy.2 y hy')
      | row => trivial
      | map => trivial
      | ghost vs env => exact envLt_shift hy.2
theorem conc_belowG (h : Conc cx a w st L) (hb : Below w.heap.size w w') : Conc cx a w' st L := by
  have hext : Ext cx w st.tab L st.next w' st.tab L := ext_merge hb (fun id _ => ⟨rfl, rfl⟩) (fun id o hid => (h.young id o hid).1) (fun id o g h1 h2 _ => by have := (h.young id o h2).1; omega)
  refine ⟨lay_merge h.lay h.young hb (fun id _ => ⟨rfl, rfl⟩) (fun id o h1 h2 => ?_) (fun id o g h1 h2 _ => ?_) (fun id id' o o' g h1 _ h2 _ _ _ => ?_), h.size, h.defers.mono hext.blk hext.sub, h.young, fun t => ⟨hext.rv (h.env t).1 (h.env t).2, (h.env t).2⟩⟩
  · have := (h.young id o h2).1
    omega
  · have := (h.young id o h2).1
    omega
  · have := (h.young id o h2).1
    omega
theorem call_ok {f : FuncId} {vs : Array Value} {avs : List AV} {K : AV → ASt → Prop} (h : Conc cx a w st L) (hn : vs.size = avs.length) (hv : ∀ (j : Nat) (v : Value) (av : AV), vs[j]? = some v → avs[j]? = some av → RVx cx w st.tab L v av) (hK : aCall0 P st f avs K) (dst : Option Nat) :
    Calls P f vs w fun e w' => ∃ v av st' L', e = .returned v ∧ K av st' ∧ Conc cx (a.put dst v) w' (st'.put dst av) L' ∧ Below w.heap.size w w' ∧ (∀ id, id < st.next → st'.tab.get id = st.tab.get id ∧ L' id = L id) ∧ (∀ id o g, st.next ≤ id → st'.tab.get id = some o → vblk (L' id) = some g → w.heap.size ≤ g) ∧ st.next ≤ st'.next := by
  rcases hK with hK | ⟨_, v, hK, hs⟩
  · exact call_okA h hn hv hK dst
  · refine (hs cx a w L vs h hn hv).mono fun e w' ⟨h1, h2⟩ => ⟨v, .c v, st, L, h1, hK, conc_pure (conc_belowG h h2) (.tree (.c v)) trivial dst, h2, fun id _ => ⟨rfl, rfl⟩, fun id o g h3 h4 _ => ?_, Nat.le_refl _⟩
    have := (h.young id o h4).1
    omega
theorem flatten_ext {sz : Nat} {vals : List (List Value)} {xs : List Value} (hs : ∀ r ∈ vals, r.length = sz) (hl : xs.length = vals.length * sz) (hx : ∀ (i j : Nat) (hi : i < vals.length) (hj : j < (vals[i]).length), xs[i * sz + j]? = some (vals[i])[j]) : xs = vals.flatten := by
  have hfl : vals.flatten.length = vals.length * sz := by
    have := flat_len id sz vals hs
    rwa [List.flatMap_id] at this
  apply List.ext_getElem?
  intro k
  by_cases hk : k < vals.length * sz
  · have h0 : 0 < sz := by
      rcases Nat.eq_zero_or_pos sz with h | h
      · subst h; omega
      · exact h
    have hi : k / sz < vals.length := (Nat.div_lt_iff_lt_mul h0).2 hk
    have hj : k % sz < sz := Nat.mod_lt _ h0
    have e : k = k / sz * sz + k % sz := by rw [Nat.mul_comm]; exact (Nat.div_add_mod k sz).symm
    have hj' : k % sz < (vals[k / sz]).length := by rw [hs _ (List.getElem_mem hi)]; exact hj
    have h1 := hx (k / sz) (k % sz) hi hj'
    have h2 := flat_get id sz vals hs (k / sz) (k % sz) hi hj
    rw [List.flatMap_id] at h2
    rw [← e] at h1 h2
    rw [h1, h2]
    exact (List.getElem?_eq_getElem hj').symm
  · rw [List.getElem?_eq_none (by omega), List.getElem?_eq_none (by omega)]
/-- a slice of its own, changed in place by a call -/
theorem upd_ok {f : FuncId} {vs : Array Value} {avs : List AV} {K : AV → ASt → Prop} (h : Conc cx a w st L) (hn : vs.size = avs.length) (hv : ∀ (j : Nat) (v : Value) (av : AV), vs[j]? = some v → avs[j]? = some av → RVx cx w st.tab L v av) (hK : aUpd P st f avs K) (dst : Option Nat) :
    Calls P f vs w fun e w' => ∃ v av st' L', e = .returned v ∧ K av st' ∧ Conc cx (a.put dst v) w' (st'.put dst av) L' ∧ Fr cx w st.tab L st.next w' st'.tab L' st'.next := by
  obtain ⟨id, e, sz, vals, rest, vals', rfl, hid, hupd, hval, hk⟩ := hK
  have hvs : ∃ v, vs = (v :: rest).toArray ∧ v = L id := by
    simp only [List.length_cons, List.length_map] at hn
    have h0 : 0 < vs.size := by omega
    refine ⟨vs[0], ?_, (hv 0 _ _ (Array.getElem?_eq_getElem h0) rfl).osl_inv _ _ (kx_of hid)⟩
    apply Array.ext
    · simp [hn]
    · intro k h1 h2
      cases k with
      | zero => rfl
      | succ k =>
        have hk' : k < rest.length := by simp at h2; omega
        have := (hv (k + 1) vs[k + 1] (.c rest[k]) (Array.getElem?_eq_getElem h1) (by simp [hk'])).c_inv
        simpa using this
  obtain ⟨v, rfl, hvL⟩ := hvs
  have hbase : cx.w0.heap.size ≤ w.heap.size := h.lay.below.size
  obtain ⟨hrow, xs, hown, hone, hx⟩ := h.lay.objs id _ hid
  have hs : ∀ r ∈ vals, r.length = sz := fun r hr => by
    have := hrow (r.map .c) (List.mem_map.2 ⟨r, hr, rfl⟩)
    simpa using this
  have hxs : xs = vals.flatten := flatten_ext hs (by simpa [rowsC] using hown.1) fun i j hi hj => by
    obtain ⟨x, hx1, hx2⟩ := hx i j ((vals[i]).map .c) (.c (vals[i])[j]) (by simp [rowsC, hi]) (by simp [hj])
    rw [hx1]
    cases hx2
    rfl
  subst hxs
  have hown : OwnsR w cx.w0.heap.size e sz v vals.length vals.flatten := by rw [hvL]; simpa [rowsC] using hown
  refine (hupd.2 w v _ hown).mono ?_
  rintro ex w' ⟨v', rfl, hown', hgrow, hblk⟩
  have vb : ∀ {x : Value} {n : Nat} {l : List Value} {w : World}, OwnsR w cx.w0.heap.size e sz x n l → vblk x = x.ownBlock := fun hh => by
    rcases hh.2 with ⟨rfl, _⟩ | ⟨g, cap, cur, rfl, _⟩ <;> rfl
  have hvb := vb hown
  have hvb' := vb hown'
  have hold_block : ∀ g, v.ownBlock = some g → ∃ id', some id = some id' ∧ st.tab.get id' = some (.row e sz (rowsC vals)) ∧ vblk (L id') = some g := fun g hg => ⟨id, rfl, hid, by rw [← hvL, hvb]; exact hg⟩
  have hy' := h.young
  have hget : ∀ k, k < st.next → (appTab st.tab st.next (some id) (.row e sz (rowsC vals'))).get k = if (some id) = some k then none else st.tab.get k := fun k hk => by
    rw [appTab_get, if_neg (by omega)]
  have hgetS : ∀ k o, (appTab st.tab st.next (some id) (.row e sz (rowsC vals'))).get k = some o → (k = st.next ∧ o = .row e sz (rowsC vals')) ∨ (k < st.next ∧ (some id) ≠ some k ∧ st.tab.get k = some o) := fun k o hk => by
    rw [appTab_get] at hk
    split at hk
    · rename_i e'
      cases hk
      exact .inl ⟨e', rfl⟩
    · split at hk
      · cases hk
      · rename_i h1
        exact .inr ⟨(hy' k o hk).1, h1, hk⟩
  have hLn : ∀ k, k < st.next → updL L st.next v' k = L k := fun k hk => by unfold updL; rw [if_neg (by omega)]
  have hLx : updL L st.next v' st.next = v' := by simp [updL]
  -- the blocks of other objects
  have hother : ∀ k o g, k < st.next → (some id) ≠ some k → st.tab.get k = some o → vblk (L k) = some g → some g ≠ v.ownBlock ∧ some g ≠ v'.ownBlock := fun k o g hk hne ho hg => by
    have h1 : some g ≠ v.ownBlock := fun e' => by
      obtain ⟨id', hid', hti, hbi⟩ := hold_block g e'.symm
      exact hne (by rw [hid', h.lay.sep id' k _ o g hti ho hbi hg])
    refine ⟨h1, fun e' => ?_⟩
    exact h1 (by rw [e', hblk])
  have hext : Ext cx w st.tab L st.next w' (appTab st.tab st.next (some id) (.row e sz (rowsC vals'))) (updL L st.next v') := by
    refine ⟨fun p hp => hgrow.block p hp.1 fun e' => ?_, fun b hS => ⟨Nat.lt_of_lt_of_le hS.1 hgrow.size, hS.2.1, fun k o hk hg => ?_⟩, fun k p hk hK => ?_⟩
    · obtain ⟨id', _, hti, hbi⟩ := hold_block p e'.symm
      exact hp.2.2 id' _ hti hbi
    · rcases hgetS k o hk with ⟨rfl, _⟩ | ⟨hlt, _, ho⟩
      · rw [hLx, hvb'] at hg
        rw [hblk] at hg
        obtain ⟨id', _, hti, hbi⟩ := hold_block b hg
        exact hS.2.2 id' _ hti hbi
      · rw [hLn k hlt] at hg
        exact hS.2.2 k o ho hg
    · unfold Kx at *
      rw [hget k hk, hLn k hk] at hK
      split at hK
      · cases hK
      · exact hK
  have hbel : BelowX cx.X cx.w0.heap.size cx.w0 w' := h.lay.below.grown hgrow hbase fun k hk => (hown.lt k hk).1
  refine ⟨v', .osl st.next, { st with tab := appTab st.tab st.next (some id) (.row e sz (rowsC vals')), next := st.next + 1 }, updL L st.next v', rfl, hk, ?_, hext, hgrow.size, fun k hk hne => hgrow.block k hk fun e' => ?_, fun k o g hk hg hlt => ?_, Nat.le_succ _⟩
  rotate_left
  · obtain ⟨id', _, hti, hbi⟩ := hold_block k e'.symm
    exact hne id' _ hti hbi
  · rcases hgetS k o hk with ⟨rfl, _⟩ | ⟨hlt', _, ho⟩
    · rw [hLx, hvb', hblk] at hg
      obtain ⟨id', _, hti, hbi⟩ := hold_block g hg
      exact ⟨id', _, hti, hbi⟩
    · rw [hLn k hlt'] at hg
      exact ⟨k, o, ho, hg⟩
  have hex : ∀ id2 o2 g, (appTab st.tab st.next (some id) (.row e sz (rowsC vals'))).get id2 = some o2 → vblk (updL L st.next v' id2) = some g → g < w.heap.size → ∃ id3 o3, st.tab.get id3 = some o3 ∧ vblk (L id3) = some g := fun k ok g hk hg' hlt => by
    rcases hgetS k ok hk with ⟨rfl, _⟩ | ⟨hlt', _, ho⟩
    · rw [hLx, hvb', hblk] at hg'
      obtain ⟨id', _, hti, hbi⟩ := hold_block g hg'
      exact ⟨id', _, hti, hbi⟩
    · rw [hLn k hlt'] at hg'
      exact ⟨k, ok, ho, hg'⟩
  refine conc_put h ⟨hbel, fun k o hk => ?_, fun k k' o o' g h1 h2 h3 h4 => ?_, ex_of h.lay hgrow.size hex⟩ hext (Nat.le_succ _) (fun k o hk => ?_) ?_ (Nat.lt_succ_self _) dst
  · rcases hgetS k o hk with ⟨rfl, rfl⟩ | ⟨hlt, hne, ho⟩
    · rw [hLx]
      refine ⟨fun row hr => ?_, vals'.flatten, by simpa [rowsC] using hown', fun x hx => ?_, fun i j row av h1 h2 => ?_⟩
      · obtain ⟨r, hr', rfl⟩ := List.mem_map.1 hr
        simpa using (hval r hr').1
      · obtain ⟨r, hr', hx⟩ := List.mem_flatten.1 hx
        exact (hval r hr').2 x hx
      · unfold rowsC at h1
        rw [List.getElem?_map] at h1
        have hi' : i < vals'.length := by
          rcases Nat.lt_or_ge i vals'.length with hlt | hge
          · exact hlt
          · rw [List.getElem?_eq_none hge] at h1; cases h1
        rw [List.getElem?_eq_getElem hi'] at h1
        simp only [Option.map_some, Option.some.injEq] at h1
        subst h1
        have hj : j < (vals'[i]).length := by
          have := (List.getElem?_eq_some_iff.1 h2).1
          simpa using this
        have hsz := (hval _ (List.getElem_mem hi')).1
        rw [List.getElem?_map, List.getElem?_eq_getElem hj] at h2
        cases h2
        have hg := flat_get (_root_.id) sz vals' (fun a ha => (hval a ha).1) i j hi' (by omega)
        rw [List.flatMap_id] at hg
        exact ⟨_, hg.trans (List.getElem?_eq_getElem hj), .c _⟩
    · rw [hLn k hlt]
      have hob := h.lay.objs k o ho
      exact hext.obj hob (hy' k o ho).2 fun g hg => hgrow.block g (hob.ge hg).2 (hother k o g hlt hne ho hg).1
  · rcases hgetS k o h1 with ⟨rfl, rfl⟩ | ⟨hlt, hne, ho⟩ <;> rcases hgetS k' o' h2 with ⟨rfl, rfl⟩ | ⟨hlt', hne', ho'⟩
    · rfl
    · rw [hLx, hvb'] at h3
      rw [hLn k' hlt'] at h4
      exact absurd h3.symm (hother k' o' g hlt' hne' ho' h4).2
    · rw [hLx, hvb'] at h4
      rw [hLn k hlt] at h3
      exact absurd h4.symm (hother k o g hlt hne ho h3).2
    · rw [hLn k hlt] at h3
      rw [hLn k' hlt'] at h4
      exact h.lay.sep k k' o o' g ho ho' h3 h4
  · rcases hgetS k o hk with ⟨rfl, rfl⟩ | ⟨hlt, _, ho⟩
    · exact ⟨Nat.lt_succ_self _, trivial⟩
    · refine ⟨by omega, ?_⟩
      have := (hy' k o ho).2
      cases o with
      | box t cells => exact ltL_iff.2 fun x hx => AV.lt_mono (Nat.le_succ _) (ltL_iff.1 this x hx)
      | row => trivial
      | map => trivial
      | ghost vs env => exact envLt_mono (Nat.le_succ _) this
  · refine .osl _ _ fun sz' v'' hk => ?_
    unfold Kx at hk
    rw [appTab_get, if_pos rfl] at hk
    simp at hk
    rw [hLx] at hk
    exact hk.2
theorem RowAt.mono {w w' : World} {S S' : Nat → Prop} {base : Nat} {e : TypeId} {sz : Nat} {v : Value} {rows : List (List AV)} (h : RowAt w S base e sz v rows) (hS : ∀ b, S b → S' b) : RowAt w S' base e sz v rows :=
  ⟨h.1, h.2.elim fun xs ⟨h1, h2, h3⟩ => ⟨xs, h1, h2, fun i j row av h4 h5 => (h3 i j row av h4 h5).elim fun x hx => ⟨x, hx.1, hx.2.mono (fun _ _ => rfl) hS⟩⟩⟩
/-- a slice of its own, whose rows a call changes -/
theorem mut_ok {f : FuncId} {vs : Array Value} {avs : List AV} {K : AV → ASt → Prop} (h : Conc cx a w st L) (hn : vs.size = avs.length) (hv : ∀ (j : Nat) (v : Value) (av : AV), vs[j]? = some v → avs[j]? = some av → RVx cx w st.tab L v av) (hK : aMut P st f avs K) (dst : Option Nat) :
    Calls P f vs w fun e w' => ∃ v av st' L', e = .returned v ∧ K av st' ∧ Conc cx (a.put dst v) w' (st'.put dst av) L' ∧ Fr cx w st.tab L st.next w' st'.tab L' st'.next := by
  obtain ⟨id, e, sz, rows, rows', rest, rfl, hid, htree, hmut, hk⟩ := hK
  have hob : ObjAt cx w st.tab L (L id) (.row e sz rows) := h.lay.objs id _ hid
  have hvs : ∃ vr : Array Value, vs = #[L id] ++ vr ∧ vr.size = rest.length ∧ ∀ (j : Nat) (x : Value) (av : AV), vr[j]? = some x → rest[j]? = some av → RT w (Sx cx w st.tab L) x av := by
    simp only [List.length_cons] at hn
    have h0 : 0 < vs.size := by omega
    have hv0 : vs[0] = L id := (hv 0 _ _ (Array.getElem?_eq_getElem h0) rfl).osl_inv _ _ (kx_of hid)
    refine ⟨vs.extract 1 vs.size, ?_, by simp; omega, fun j x av h1 h2 => ?_⟩
    · apply Array.ext
      · simp; omega
      · intro k h1 h2
        cases k with
        | zero => simpa using hv0
        | succ k => simp [Nat.add_comm]
    · rw [Array.getElem?_extract] at h1
      split at h1
      · exact treeM_of (hv (j + 1) x av (by rw [Nat.add_comm]; exact h1) (by simpa using h2)) (treeML_mem htree (List.mem_of_getElem? h2))
      · cases h1
  obtain ⟨vr, rfl, hvn, hvr⟩ := hvs
  have hbase : cx.w0.heap.size ≤ w.heap.size := h.lay.below.size
  refine (hmut.2 (Sx cx w st.tab L) w cx.w0.heap.size (L id) vr h.lay.sok cx.amb.le hob (fun g hg hS => hS.2.2 id _ hid hg) hvn hvr).mono ?_
  rintro ex w' ⟨rfl, ⟨hos, htape, hout⟩, hsize, hkeep, hrow'⟩
  have ht : ∀ k, ATab.get ((id, some (AObj.row e sz rows')) :: st.tab) k = if k = id then some (AObj.row e sz rows') else st.tab.get k := fun k => ATab.get_cons ..
  have hold : ∀ k ok, ATab.get ((id, some (AObj.row e sz rows')) :: st.tab) k = some ok → ∃ ok', st.tab.get k = some ok' := fun k ok hk' => by
    rw [ht] at hk'
    split at hk'
    · rename_i e'
      exact ⟨_, by rw [e']; exact hid⟩
    · exact ⟨ok, hk'⟩
  have hext : Ext cx w st.tab L st.next w' ((id, some (AObj.row e sz rows')) :: st.tab) L := by
    refine ⟨fun p hp => hkeep p hp.1 (hp.2.2 id _ hid), fun b hb => ⟨Nat.lt_of_lt_of_le hb.1 hsize, hb.2.1, fun k ok hk' => ?_⟩, fun k p hlt hp => ?_⟩
    · obtain ⟨ok', h1⟩ := hold k ok hk'
      exact hb.2.2 k ok' h1
    · unfold Kx at *
      rw [ht] at hp
      split at hp
      · rename_i e'
        subst e'
        rw [hid]
        simpa [AObj.sz] using hp
      · exact hp
  have hy := h.young id _ hid
  have hbel : BelowX cx.X cx.w0.heap.size cx.w0 w' := h.lay.below.trans ⟨hos, htape, hout, hsize, fun k hk' _ => hkeep k (by omega) fun e' => by
    have := (hob.ge e').1
    omega⟩
  have hnewS : ∀ b, (Sx cx w st.tab L b ∨ w.heap.size ≤ b) ∧ b < w'.heap.size → Sx cx w' ((id, some (AObj.row e sz rows')) :: st.tab) L b := fun b hb => by
    rcases hb.1 with h1 | h1
    · exact hext.sub b h1
    · refine ⟨hb.2, ⟨.inr (by omega), fun hX => ?_⟩, fun k ok hk' hg => ?_⟩
      · have := (h.lay.ex b hX).1
        omega
      · obtain ⟨ok', h2⟩ := hold k ok hk'
        have := ((h.lay.objs k ok' h2).ge hg).2
        omega
  have hex : ∀ id2 o2 g, ATab.get ((id, some (AObj.row e sz rows')) :: st.tab) id2 = some o2 → vblk (L id2) = some g → g < w.heap.size → ∃ id3 o3, st.tab.get id3 = some o3 ∧ vblk (L id3) = some g := fun k ok g hk' hg' _ => by
    obtain ⟨ok', h2⟩ := hold k ok hk'
    exact ⟨k, ok', h2, hg'⟩
  refine ⟨.tuple #[], .tup [], { st with tab := (id, some (.row e sz rows')) :: st.tab }, L, rfl, hk, conc_put (nx' := st.next) (L' := L) h ⟨hbel, fun k ok hk' => ?_, fun k k' ok ok' g' h1 h2 h3 h4 => ?_, ex_of h.lay hsize hex⟩ hext (Nat.le_refl _) (fun k ok hk' => ?_) (.tree (.tup #[] [] rfl fun j x av h1 _ => by simp at h1)) (show AV.lt st.next (.tup []) from trivial) dst, hext, hsize, fun k hk' hn' => hkeep k hk' (hn' id _ hid), fun k ok g h1 h2 h3 => hex k ok g h1 h2 h3, Nat.le_refl _⟩
  · rw [ht] at hk'
    split at hk'
    · rename_i e'
      subst e'
      cases hk'
      exact hrow'.mono (w' := w') hnewS
    · rename_i hne
      exact hext.obj (h.lay.objs k ok hk') (h.young k ok hk').2 fun g' hg' => hkeep g' ((h.lay.objs k ok hk').ge hg').2 fun e' => hne (h.lay.sep k id ok _ g' hk' hid hg' e')
  · obtain ⟨o1, ho1⟩ := hold k ok h1
    obtain ⟨o2, ho2⟩ := hold k' ok' h2
    exact h.lay.sep k k' o1 o2 g' ho1 ho2 h3 h4
  · rw [ht] at hk'
    split at hk'
    · rename_i e'
      cases hk'
      exact ⟨by rw [e']; exact hy.1, trivial⟩
    · exact h.young k ok hk'
theorem updM_ok {f : FuncId} {vs : Array Value} {avs : List AV} {K : AV → ASt → Prop} (h : Conc cx a w st L) (hn : vs.size = avs.length) (hv : ∀ (j : Nat) (v : Value) (av : AV), vs[j]? = some v → avs[j]? = some av → RVx cx w st.tab L v av ∧ av.lt st.next) (hK : aUpdM P st f avs K) (dst : Option Nat) :
    Calls P f vs w fun e w' => ∃ v av st' L', e = .returned v ∧ K av st' ∧ Conc cx (a.put dst v) w' (st'.put dst av) L' ∧ Fr cx w st.tab L st.next w' st'.tab L' st'.next :=
  hK.elim (fun hp => upd_ok h hn (fun j v av h1 h2 => (hv j v av h1 h2).1) hp dst) fun hK => hK.elim (fun hp => mut_ok h hn (fun j v av h1 h2 => (hv j v av h1 h2).1) hp dst) fun hp => hp.2 cx a w L vs dst h hn hv
end
/-- an answer whose slices are written no more -/
def Res.frz (R : Res) (id : Nat) : Res :=
  match R.tab.get id with
  | some (.row _ sz rows) => ⟨R.r.frz id sz rows, (id, none) :: frzTab id sz rows R.tab, R.n⟩
  | _ => R
def Res.frzs : Res → List Nat → Res
  | R, [] => R
  | R, id :: ids => Res.frzs (R.frz id) ids
theorem ARel.frz {P : Program} {f : FuncId} {args : List AV} {Post : Res → Prop} (h : ARel P f args Post) (id : Nat) : ARel P f args fun R => ∃ R', Post R' ∧ R = R'.frz id :=
  ⟨h.1, fun S w vs h1 h2 h3 => (h.2 S w vs h1 h2 h3).mono fun e w' ⟨v, L, R, h4, h5, h6, h7, h8⟩ => by
    have key : (R.frz id).Ok ∧ Lay (Cx.mk0 S w h1) w' (R.frz id).tab L ∧ RVx (Cx.mk0 S w h1) w' (R.frz id).tab L v (R.frz id).r := by
      unfold Res.frz
      split
      · rename_i e' sz rows hid
        obtain ⟨h9, h10⟩ := frz_core h7 (fun k o hk => (h5.young k o hk).2) hid
        refine ⟨⟨fun k o hk => ?_, frz_lt h5.lt⟩, h9, h10 v _ h8 h5.lt⟩
        simp only [ATab.get_cons, frzTab_get] at hk
        split at hk
        · cases hk
        · cases hg : R.tab.get k with
          | none => simp [hg] at hk
          | some o' =>
            simp [hg] at hk
            subst hk
            exact ⟨(h5.young k o' hg).1, frz_obj_lt (h5.young k o' hg).2⟩
      · exact ⟨h5, h7, h8⟩
    exact ⟨v, L, R.frz id, ⟨R, h4, rfl⟩, key.1, h6, key.2.1, key.2.2⟩⟩
/-- an answer that is plain enough has no objects -/
theorem ARel.drop {P : Program} {f : FuncId} {args : List AV} {Post : Res → Prop} (h : ARel P f args Post) : ARel P f args fun R => ∃ R', Post R' ∧ ((R'.r.lt 0 ∧ R = ⟨R'.r, [], 0⟩) ∨ (¬ R'.r.lt 0 ∧ R = R')) :=
  ⟨h.1, fun S w vs h1 h2 h3 => (h.2 S w vs h1 h2 h3).mono fun e w' ⟨v, L, R, h4, h5, h6, h7, h8⟩ => by
    by_cases hl : R.r.lt 0
    · have hext : Ext (Cx.mk0 S w h1) w' R.tab L 0 w' [] L := ⟨fun _ _ => rfl, fun b hb => ⟨hb.1, hb.2.1, fun k o hk => (by cases hk)⟩, fun k p _ hk => by simp [Kx, ATab.get] at hk⟩
      exact ⟨v, L, ⟨R.r, [], 0⟩, ⟨R, h4, .inl ⟨hl, rfl⟩⟩, ⟨fun id o hk => (by cases hk), hl⟩, h6, ⟨h7.below, fun id o hk => (by cases hk), fun id id' o o' g hk => (by cases hk), fun b hb => hb.elim⟩, hext.rv h8 hl⟩
    · exact ⟨v, L, R, ⟨R, h4, .inr ⟨hl, rfl⟩⟩, h5, h6, h7, h8⟩⟩
theorem ADet.frzs {P : Program} {f : FuncId} {args : List AV} {R : Res} : ∀ (ids : List Nat) {R : Res}, ADet P f args R → ADet P f args (R.frzs ids)
  | [], _, h => h
  | id :: ids, R, h => ADet.frzs ids (R := R.frz id) ((ARel.frz h id).mono fun R' ⟨R'', h1, h2⟩ => by rw [h2, h1])
/-- the answer's slices are written no more -/
theorem ADet.still {P : Program} {f : FuncId} {args : List AV} {R : Res} {r : AV} (ids : List Nat) (h : ADet P f args R) (hr : (R.frzs ids).r = r) (hl : r.lt 0) : ADet P f args ⟨r, [], 0⟩ :=
  (ARel.drop (ADet.frzs (R := R) ids h)).mono fun R' ⟨R'', h1, h2⟩ => by
    subst h1
    rcases h2 with ⟨_, h2⟩ | ⟨h2, _⟩
    · rw [h2, hr]
    · exact absurd (hr ▸ hl) h2
theorem callZ {P : Program} {st : ASt} {g : FuncId} {args : List AV} {K : AV → ASt → Prop} {R : Res} (ids : List Nat) (h : ADet P g ((frzAVs st ids args).map (dref (frzs st ids).tab)) R) (ho : roL (frzAVs st ids args) ∨ (R.r.plain ∧ R.tab.plain))
    (hk : K (R.r.shift (frzs st ids).next) { frzs st ids with tab := R.tab.shift (frzs st ids).next ++ (frzs st ids).tab, next := (frzs st ids).next + R.n }) : aCall none P st g args K :=
  .inr (.inl ⟨rfl, .inr ⟨ids, .inl ⟨_, h, fun R' hR => by subst hR; exact ⟨ho, hk⟩⟩⟩⟩)
end
end Go.Proofs.YtbpocemhnmmloaaDoor
