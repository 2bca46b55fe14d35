/-
  ABSTRACT VALUES: what plain data a Go value stands for, whatever memory it lies in. Of whatever program.
-/
import Derived.Test.YtfocnmkbnccilaaMem
import Derived.ProofKit
set_option linter.unusedVariables false
set_option linter.unusedSimpArgs false
namespace Go.Proofs.Ytfocnmkbnccilaa
open Go.RowKit

/-- any: nothing is said · c: this very value · sl: a slice of these rows, not to be written · osl: the call's own slice · rp: a pointer to these cells, not to be written · op: a pointer into an object of the call's own · fn: a closure of that function, with what it holds -/
inductive AV where
  | any
  | c (v : Value)
  | sl (sz : Nat) (rows : List (List AV))
  | osl (id : Nat)
  | agg (cs : List AV)
  | tup (vs : List AV)
  | fn (f : FuncId) (cs : List AV)
  | rp (cs : List AV)
  | op (id i j : Nat)
instance : Inhabited AV := ⟨.any⟩

/-- v stands for the tree av; all its memory lies in S -/
inductive RT (w : World) (S : Nat → Prop) : Value → AV → Prop
  | any (x : Value) : RT w S x .any
  | c (v : Value) : RT w S v (.c v)
  | sl (A : Option Addr) (n cap sz : Nat) (rows : List (List AV)) (b o : Nat) (U : Nat → Nat → Value) (hn : n = rows.length) (hc : n ≤ cap) (hm : cap ≤ 9223372036854775807)
      (hA : 0 < n → A = some ⟨b, o, none⟩ ∧ S b) (hs : ∀ row ∈ rows, row.length = sz)
      (hcell : 0 < n → ∀ i j row av, rows[i]? = some row → row[j]? = some av → w.cell? ⟨b, o + i * sz + j, none⟩ = some (U i j))
      (hone : ∀ i j row av, rows[i]? = some row → row[j]? = some av → (U i j).oneCell' = true)
      (hr : ∀ i j row av, rows[i]? = some row → row[j]? = some av → RT w S (U i j) av) : RT w S (.slice A n cap) (.sl sz rows)
  | agg (xs : Array Value) (cs : List AV) (hn : xs.size = cs.length) (hr : ∀ (j : Nat) (x : Value) (av : AV), xs[j]? = some x → cs[j]? = some av → RT w S x av) : RT w S (.agg xs) (.agg cs)
  | tup (xs : Array Value) (cs : List AV) (hn : xs.size = cs.length) (hr : ∀ (j : Nat) (x : Value) (av : AV), xs[j]? = some x → cs[j]? = some av → RT w S x av) : RT w S (.tuple xs) (.tup cs)
  | fn (f : FuncId) (xs : Array Value) (cs : List AV) (hn : xs.size = cs.length) (hr : ∀ (j : Nat) (x : Value) (av : AV), xs[j]? = some x → cs[j]? = some av → RT w S x av) : RT w S (.func (.func f) #[] xs) (.fn f cs)
  | rp (b o : Nat) (cs : List AV) (U : Nat → Value) (hb : S b) (hcell : ∀ j av, cs[j]? = some av → w.cell? ⟨b, o + j, none⟩ = some (U j)) (hr : ∀ j av, cs[j]? = some av → RT w S (U j) av) :
      RT w S (.pointer (some ⟨b, o, none⟩)) (.rp cs)

theorem RT.mono {w w' : World} {S S' : Nat → Prop} {x : Value} {av : AV} (h : RT w S x av) (hk : ∀ p : Addr, S p.block → w'.cell? p = w.cell? p) (hS : ∀ b, S b → S' b) : RT w' S' x av := by
  induction h with
  | any x => exact .any x
  | c v => exact .c v
  | sl A n cap sz rows b o U hn hc hm hA hs hcell hone hr ih =>
    exact .sl A n cap sz rows b o U hn hc hm (fun h => ⟨(hA h).1, hS _ (hA h).2⟩) hs (fun h i j row av h1 h2 => (hk _ (hA h).2).trans (hcell h i j row av h1 h2)) hone ih
  | agg xs cs hn hr ih => exact .agg xs cs hn ih
  | tup xs cs hn hr ih => exact .tup xs cs hn ih
  | fn fi xs cs hn hr ih => exact .fn fi xs cs hn ih
  | rp b o cs U hb hcell hr ih => exact .rp b o cs U (hS _ hb) (fun j av h => (hk _ hb).trans (hcell j av h)) ih

def vblk : Value → Option Nat
  | .pointer (some a) => some a.block
  | .slice (some a) _ _ => some a.block
  | _ => none

/-- K: the call's own objects: the cells of one of its rows, and where it lies -/
inductive RV (w : World) (S : Nat → Prop) (K : Nat → Option (Nat × Value)) : Value → AV → Prop
  | tree {x : Value} {av : AV} (h : RT w S x av) : RV w S K x av
  | osl (x : Value) (id : Nat) (h : ∀ sz v, K id = some (sz, v) → x = v) : RV w S K x (.osl id)
  | op (x : Value) (id i j : Nat) (h : ∀ sz v, K id = some (sz, v) → ∃ g, vblk v = some g ∧ x = .pointer (some ⟨g, i * sz + j, none⟩)) : RV w S K x (.op id i j)
  | agg (xs : Array Value) (cs : List AV) (hn : xs.size = cs.length) (hr : ∀ (j : Nat) (x : Value) (av : AV), xs[j]? = some x → cs[j]? = some av → RV w S K x av) : RV w S K (.agg xs) (.agg cs)
  | tup (xs : Array Value) (cs : List AV) (hn : xs.size = cs.length) (hr : ∀ (j : Nat) (x : Value) (av : AV), xs[j]? = some x → cs[j]? = some av → RV w S K x av) : RV w S K (.tuple xs) (.tup cs)
  | fn (f : FuncId) (xs : Array Value) (cs : List AV) (hn : xs.size = cs.length) (hr : ∀ (j : Nat) (x : Value) (av : AV), xs[j]? = some x → cs[j]? = some av → RV w S K x av) : RV w S K (.func (.func f) #[] xs) (.fn f cs)

mutual
/-- the objects that it names are older -/
def AV.lt (nx : Nat) : AV → Prop
  | .osl id => id < nx
  | .op id _ _ => id < nx
  | .agg cs => AV.ltL nx cs
  | .tup cs => AV.ltL nx cs
  | .fn _ cs => AV.ltL nx cs
  | _ => True
def AV.ltL (nx : Nat) : List AV → Prop
  | [] => True
  | a :: l => a.lt nx ∧ AV.ltL nx l
end
theorem ltL_iff {nx : Nat} : ∀ {l : List AV}, AV.ltL nx l ↔ ∀ a ∈ l, a.lt nx
  | [] => by simp [AV.ltL]
  | a :: l => by simp [AV.ltL, ltL_iff (l := l)]
theorem AV.lt_mono {n m : Nat} (hnm : n ≤ m) : ∀ {av : AV}, av.lt n → av.lt m := by
  intro av
  induction av using AV.rec (motive_2 := fun _ => True) (motive_3 := fun l => AV.ltL n l → AV.ltL m l) <;> simp_all [AV.lt, AV.ltL] <;> omega

theorem RT.lt {w : World} {S : Nat → Prop} {x : Value} {av : AV} (h : RT w S x av) (nx : Nat) : av.lt nx := by
  induction h with
  | agg xs cs hn hr ih =>
    refine ltL_iff.2 fun a ha => ?_
    obtain ⟨j, hj⟩ := List.getElem?_of_mem ha
    have hlt : j < xs.size := by rw [hn]; exact (List.getElem?_eq_some_iff.1 hj).1
    exact ih j _ a (Array.getElem?_eq_getElem hlt) hj
  | tup xs cs hn hr ih =>
    refine ltL_iff.2 fun a ha => ?_
    obtain ⟨j, hj⟩ := List.getElem?_of_mem ha
    have hlt : j < xs.size := by rw [hn]; exact (List.getElem?_eq_some_iff.1 hj).1
    exact ih j _ a (Array.getElem?_eq_getElem hlt) hj
  | fn fi xs cs hn hr ih =>
    refine ltL_iff.2 fun a ha => ?_
    obtain ⟨j, hj⟩ := List.getElem?_of_mem ha
    have hlt : j < xs.size := by rw [hn]; exact (List.getElem?_eq_some_iff.1 hj).1
    exact ih j _ a (Array.getElem?_eq_getElem hlt) hj
  | _ => trivial
theorem RV.mono {w w' : World} {S S' : Nat → Prop} {K K' : Nat → Option (Nat × Value)} {nx : Nat} {x : Value} {av : AV} (h : RV w S K x av) (hl : av.lt nx) (hk : ∀ p : Addr, S p.block → w'.cell? p = w.cell? p) (hS : ∀ b, S b → S' b)
    (hK : ∀ id p, id < nx → K' id = some p → K id = some p) : RV w' S' K' x av := by
  induction h with
  | tree h => exact .tree (h.mono hk hS)
  | osl x id h => exact .osl x id fun sz v e => h sz v (hK id _ hl e)
  | op x id i j h => exact .op x id i j fun sz v e => h sz v (hK id _ hl e)
  | agg xs cs hn hr ih => exact .agg xs cs hn fun j x av h1 h2 => ih j x av h1 h2 (ltL_iff.1 hl _ (List.mem_of_getElem? h2))
  | tup xs cs hn hr ih => exact .tup xs cs hn fun j x av h1 h2 => ih j x av h1 h2 (ltL_iff.1 hl _ (List.mem_of_getElem? h2))
  | fn fi xs cs hn hr ih => exact .fn fi xs cs hn fun j x av h1 h2 => ih j x av h1 h2 (ltL_iff.1 hl _ (List.mem_of_getElem? h2))

/-! ### what a value is -/
section
variable {w : World} {S : Nat → Prop} {K : Nat → Option (Nat × Value)} {x : Value}
theorem RV.c_inv {v : Value} (h : RV w S K x (.c v)) : x = v := by
  cases h with
  | tree h => cases h; rfl
theorem RV.agg_inv {cs : List AV} (h : RV w S K x (.agg cs)) : ∃ xs : Array Value, x = .agg xs ∧ xs.size = cs.length ∧ ∀ (j : Nat) (x : Value) (av : AV), xs[j]? = some x → cs[j]? = some av → RV w S K x av := by
  cases h with
  | tree h => cases h with | agg xs cs hn hr => exact ⟨xs, rfl, hn, fun j x av h1 h2 => .tree (hr j x av h1 h2)⟩
  | agg xs cs hn hr => exact ⟨xs, rfl, hn, hr⟩
theorem RV.tup_inv {cs : List AV} (h : RV w S K x (.tup cs)) : ∃ xs : Array Value, x = .tuple xs ∧ xs.size = cs.length ∧ ∀ (j : Nat) (x : Value) (av : AV), xs[j]? = some x → cs[j]? = some av → RV w S K x av := by
  cases h with
  | tree h => cases h with | tup xs cs hn hr => exact ⟨xs, rfl, hn, fun j x av h1 h2 => .tree (hr j x av h1 h2)⟩
  | tup xs cs hn hr => exact ⟨xs, rfl, hn, hr⟩
theorem RV.fn_inv {f : FuncId} {cs : List AV} (h : RV w S K x (.fn f cs)) : ∃ xs : Array Value, x = .func (.func f) #[] xs ∧ xs.size = cs.length ∧ ∀ (j : Nat) (x : Value) (av : AV), xs[j]? = some x → cs[j]? = some av → RV w S K x av := by
  cases h with
  | tree h => cases h with | fn _ xs cs hn hr => exact ⟨xs, rfl, hn, fun j x av h1 h2 => .tree (hr j x av h1 h2)⟩
  | fn _ xs cs hn hr => exact ⟨xs, rfl, hn, hr⟩
theorem RT.sl_inv {sz : Nat} {rows : List (List AV)} (h : RT w S x (.sl sz rows)) : ∃ A cap, x = .slice A rows.length cap ∧ rows.length ≤ cap ∧ cap ≤ 9223372036854775807 ∧ (∀ row ∈ rows, row.length = sz) ∧
    (0 < rows.length → ∃ b o, A = some ⟨b, o, none⟩ ∧ S b ∧ ∃ U : Nat → Nat → Value, (∀ i j row av, rows[i]? = some row → row[j]? = some av → w.cell? ⟨b, o + i * sz + j, none⟩ = some (U i j)) ∧
      (∀ i j row av, rows[i]? = some row → row[j]? = some av → RT w S (U i j) av) ∧ ∀ i j row av, rows[i]? = some row → row[j]? = some av → (U i j).oneCell' = true) := by
  cases h with
  | sl A n cap sz rows b o U hn hc hm hA hs hcell hone hr =>
    subst hn
    exact ⟨A, cap, rfl, hc, hm, hs, fun h => ⟨b, o, (hA h).1, (hA h).2, U, hcell h, hr, hone⟩⟩
theorem RV.sl_inv {sz : Nat} {rows : List (List AV)} (h : RV w S K x (.sl sz rows)) : RT w S x (.sl sz rows) := by
  cases h with
  | tree h => exact h
theorem RV.rp_inv {cs : List AV} (h : RV w S K x (.rp cs)) : ∃ b o, ∃ U : Nat → Value, x = .pointer (some ⟨b, o, none⟩) ∧ S b ∧ (∀ j av, cs[j]? = some av → w.cell? ⟨b, o + j, none⟩ = some (U j)) ∧ ∀ j av, cs[j]? = some av → RT w S (U j) av := by
  cases h with
  | tree h => cases h with | rp b o cs U hb hcell hr => exact ⟨b, o, U, rfl, hb, hcell, hr⟩
theorem RV.osl_inv {id : Nat} (h : RV w S K x (.osl id)) : ∀ sz v, K id = some (sz, v) → x = v := by
  cases h with
  | tree h => cases h
  | osl x id h => exact h
theorem RV.op_inv {id i j : Nat} (h : RV w S K x (.op id i j)) : ∀ sz v, K id = some (sz, v) → ∃ g, vblk v = some g ∧ x = .pointer (some ⟨g, i * sz + j, none⟩) := by
  cases h with
  | tree h => cases h
  | op x id i j h => exact h
end

/-! ### the call's own objects, and its state -/
/-- a variable of its own; a slice of its own -/
inductive AObj where
  | box (t : TypeId) (cells : List AV)
  | row (e : TypeId) (sz : Nat) (rows : List (List AV))
def AObj.sz : AObj → Nat
  | .box _ cells => cells.length
  | .row _ sz _ => sz
def AObj.lt (nx : Nat) : AObj → Prop
  | .box _ cells => AV.ltL nx cells
  | .row _ _ _ => True
abbrev ATab := List (Nat × Option AObj)
def ATab.get : ATab → Nat → Option AObj
  | [], _ => none
  | (k, o) :: l, id => if id = k then o else ATab.get l id
theorem ATab.get_cons (k : Nat) (o : Option AObj) (l : ATab) (id : Nat) : ATab.get ((k, o) :: l) id = if id = k then o else l.get id := rfl
def aget : List (Nat × AV) → Nat → AV
  | [], _ => .any
  | (k, v) :: l, t => if t = k then v else aget l t
structure ASt where
  n : Nat
  env : List (Nat × AV)
  tab : ATab
  next : Nat
def ASt.get (st : ASt) (t : Nat) : AV := if t < st.n then aget st.env t else .any
def ASt.put (st : ASt) (dst : Option Nat) (av : AV) : ASt :=
  match dst with
  | some d => { st with env := (d, av) :: st.env }
  | none => st
/-- where a call begins: its world, and the old memory that its arguments may lie in -/
structure Cx where
  F : Nat → Prop
  w0 : World
/-- the memory that is not to be written -/
def Sx (c : Cx) (w : World) (tab : ATab) (L : Nat → Value) (b : Nat) : Prop := b < w.heap.size ∧ (c.F b ∨ c.w0.heap.size ≤ b) ∧ ∀ id o, tab.get id = some o → vblk (L id) ≠ some b
def Kx (tab : ATab) (L : Nat → Value) (id : Nat) : Option (Nat × Value) := (tab.get id).map fun o => (o.sz, L id)
abbrev RVx (c : Cx) (w : World) (tab : ATab) (L : Nat → Value) : Value → AV → Prop := RV w (Sx c w tab L) (Kx tab L)
/-- v owns these cells, n of size each; its row may have more than it tells -/
def OwnsR (w : World) (base : Nat) (e : TypeId) (size : Nat) (v : Value) (n : Nat) (xs : List Value) : Prop :=
  xs.length = n * size ∧
  ((v = .slice none 0 0 ∧ n = 0) ∨
   ∃ g cap cur, v = .slice (some ⟨g, 0, none⟩) n cap ∧ base ≤ g ∧ w.heap[g]? = some (.cells cur e (0, 0)) ∧ n ≤ cap ∧ cap ≤ maxLen ∧ cap * size ≤ cur.size ∧ cur.toList.take (n * size) = xs)
theorem ownsR_of {w : World} {base e size n : Nat} {v : Value} {xs : List Value} (h : w.ownsRow base e size v n xs) : OwnsR w base e size v n xs := by
  refine ⟨h.1, ?_⟩
  rcases h.2 with hn | ⟨g, cap, cur, h1, h2, h3, h4, h5, h6, h7⟩
  · exact .inl hn
  · exact .inr ⟨g, cap, cur, h1, h2, h3, h4, h5, by omega, h7⟩
theorem ownsR_nil (w : World) (base : Nat) (e : TypeId) (size : Nat) : OwnsR w base e size (.slice none 0 0) 0 [] := ⟨by simp, .inl ⟨rfl, rfl⟩⟩
theorem OwnsR.lt {w : World} {base e size n : Nat} {v : Value} {xs : List Value} (h : OwnsR w base e size v n xs) : ∀ k, v.ownBlock = some k → base ≤ k ∧ k < w.heap.size := by
  intro k hk
  rcases h.2 with ⟨rfl, _⟩ | ⟨g, cap, cur, rfl, hb, hg, _⟩
  · simp [Value.ownBlock] at hk
  · simp [Value.ownBlock] at hk
    subst hk
    exact ⟨hb, (Array.getElem?_eq_some_iff.1 hg).1⟩
theorem OwnsR.base {w : World} {base base' e size n : Nat} {v : Value} {xs : List Value} (h : OwnsR w base e size v n xs) (hb : base' ≤ base) : OwnsR w base' e size v n xs := by
  refine ⟨h.1, ?_⟩
  rcases h.2 with hn | ⟨g, cap, cur, h1, h2, rest⟩
  · exact .inl hn
  · exact .inr ⟨g, cap, cur, h1, Nat.le_trans hb h2, rest⟩
theorem OwnsR.cells {w : World} {base e size n : Nat} {v : Value} {xs : List Value} (h : OwnsR w base e size v n xs) {g : Nat} (hg : v.ownBlock = some g) : ∀ j u, xs[j]? = some u → w.cell? ((⟨g, 0, none⟩ : Addr).add j) = some u := by
  intro j u hu
  rcases h.2 with ⟨rfl, _⟩ | ⟨g', cap, cur, rfl, _, hgg, _, _, _, htake⟩
  · simp [Value.ownBlock] at hg
  · simp [Value.ownBlock] at hg
    subst hg
    have hadd : (⟨g', 0, none⟩ : Addr).add j = ⟨g', j, none⟩ := by unfold Addr.add; split <;> simp_all
    rw [hadd, cell_of_row w g' j cur e (0, 0) hgg]
    rw [← htake, List.getElem?_take] at hu
    split at hu
    · simpa using hu
    · cases hu
def ObjAt (c : Cx) (w : World) (tab : ATab) (L : Nat → Value) (v : Value) : AObj → Prop
  | .box t cells => ∃ g cs, v = .pointer (some ⟨g, 0, none⟩) ∧ c.w0.heap.size ≤ g ∧ w.heap[g]? = some (.cells cs t (0, 0)) ∧ cs.size = cells.length ∧ ∀ (j : Nat) (x : Value) (av : AV), cs[j]? = some x → cells[j]? = some av → RVx c w tab L x av ∧ x.oneCell' = true
  | .row e sz rows => (∀ row ∈ rows, row.length = sz) ∧ ∃ xs, OwnsR w c.w0.heap.size e sz v rows.length xs ∧ (∀ x ∈ xs, x.oneCell' = true) ∧ ∀ (i j : Nat) (row : List AV) (av : AV), rows[i]? = some row → row[j]? = some av → ∃ x, xs[i * sz + j]? = some x ∧ RT w (Sx c w tab L) x av
structure Lay (c : Cx) (w : World) (tab : ATab) (L : Nat → Value) : Prop where
  below : Below c.w0.heap.size c.w0 w
  objs : ∀ id o, tab.get id = some o → ObjAt c w tab L (L id) o
  sep : ∀ id id' o o' g, tab.get id = some o → tab.get id' = some o' → vblk (L id) = some g → vblk (L id') = some g → id = id'
structure Conc (c : Cx) (a : Act) (w : World) (st : ASt) (L : Nat → Value) : Prop where
  lay : Lay c w st.tab L
  size : a.tmps.size = st.n
  defers : a.defers = []
  young : ∀ id o, st.tab.get id = some o → id < st.next ∧ o.lt st.next
  env : ∀ t, RVx c w st.tab L (a.tmps.getD t undef) (st.get t) ∧ (st.get t).lt st.next
end Go.Proofs.Ytfocnmkbnccilaa
