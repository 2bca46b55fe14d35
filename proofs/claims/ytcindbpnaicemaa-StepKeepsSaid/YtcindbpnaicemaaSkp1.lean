/-
  Parts of the proof: Mem, Amb, AlA, AlB, AlC, AlD.
-/
import Derived.WalkKit
import Derived.WalkLawsBesides
import Derived.Handy
import Derived.Lib.OthersKept
import Derived.Deep.Draws
import Derived.Maps.AppendAt
import Derived.Test.YtcindbpnaicemaaProg
import Derived.ProofKit
import Derived.Laws.AppendOwnNone
import Derived.Laws.MakeOwn
set_option linter.unusedVariables false
set_option linter.unusedSimpArgs false
namespace Go.Proofs.Ytcindbpnaicemaa
section
open Go.RowKit

theorem hide {p : Prop} (h : p) : Hid p := h
theorem nil_or_snoc {α : Type} (l : List α) : l = [] ∨ ∃ q x, l = q ++ [x] := by
  rcases List.eq_nil_or_concat l with h | ⟨q, x, h⟩
  · exact .inl h
  · exact .inr ⟨q, x, by rw [h, List.concat_eq_append]⟩
theorem addAddr0 (g j : Nat) : (⟨g, 0, none⟩ : Addr).add j = ⟨g, j, none⟩ := by unfold Addr.add; split <;> simp_all

/-! ### a block known whole -/
def Blk (w : World) (g : Nat) (t : TypeId) (cs : Array Value) : Prop := w.heap[g]? = some (.cells cs t (0, 0))
section
variable {w w' : World} {g : Nat} {t : TypeId} {cs : Array Value}
theorem Blk.lt (h : Blk w g t cs) : g < w.heap.size := by
  rcases Nat.lt_or_ge g w.heap.size with hlt | hge
  · exact hlt
  · unfold Blk at h; rw [Array.getElem?_eq_none hge] at h; cases h
theorem Blk.cell (h : Blk w g t cs) (i : Nat) : w.cell? ⟨g, i, none⟩ = cs[i]? := cell_of_row w g i cs t (0, 0) h
theorem Blk.frozen (h : Blk w g t cs) (i : Nat) : w.frozen? ⟨g, i, none⟩ = false := by
  unfold Blk at h
  simp [World.frozen?, h]
theorem Blk.new (w : World) (t : TypeId) (cs : Array Value) : Blk (w.alloc (.cells cs t)) w.heap.size t cs := heap_alloc_new w _
theorem Blk.alloc (h : Blk w g t cs) (o : Obj) : Blk (w.alloc o) g t cs := (Below.heap_alloc w o g h.lt).trans h
theorem Blk.set_ (h : Blk w g t cs) (i : Nat) (u : Value) : Blk (w.setCell ⟨g, i, none⟩ u) g t (cs.setIfInBounds i u) := by
  unfold Blk at h ⊢
  simp [World.setCell, Array.getElem?_modify, h]
theorem Blk.far (h : Blk w g t cs) {p : Addr} (hp : g ≠ p.block) (u : Value) : Blk (w.setCell p u) g t cs := (Below.heap_setCell w p u g hp).trans h
theorem Blk.below {B : Nat} (h : Blk w g t cs) (hb : Below B w w') (hg : g < B) : Blk w' g t cs := (hb.block g hg).trans h
theorem Blk.grown {row : Option Nat} (h : Blk w g t cs) (hb : w.grownBy w' row) (hg : some g ≠ row) : Blk w' g t cs := (hb.block g h.lt hg).trans h
end

/-! ### an owned row -/
section
variable {w w' : World} {base : Nat} {e : TypeId} {size n : Nat} {v : Value} {xs : List Value}
theorem own_form (h : w.ownsRow base e size v n xs) : ∃ A c, v = .slice A n c ∧ n ≤ c := by
  rcases h.2 with ⟨rfl, rfl⟩ | ⟨g, cap, cur, rfl, _, _, hn, _⟩
  · exact ⟨none, 0, rfl, Nat.le_refl _⟩
  · exact ⟨_, cap, rfl, hn⟩
theorem own_some (h : w.ownsRow base e size v n xs) (hn : 0 < n) : ∃ g c, v = .slice (some ⟨g, 0, none⟩) n c ∧ n ≤ c ∧ base ≤ g ∧ g < w.heap.size := by
  rcases h.2 with ⟨rfl, rfl⟩ | ⟨g, cap, cur, rfl, hb, hg, hn, _⟩
  · omega
  · exact ⟨g, cap, rfl, hn, hb, (Array.getElem?_eq_some_iff.1 hg).1⟩
theorem own_ne (h : w.ownsRow base e size v n xs) {g : Nat} (hg : g < base) : some g ≠ v.ownBlock := by
  intro he
  have := (h.lt g he.symm).1
  omega
theorem own_below {B : Nat} (h : w.ownsRow base e size v n xs) (hb : Below B w w') (hB : ∀ g, v.ownBlock = some g → g < B) : w'.ownsRow base e size v n xs := by
  refine ⟨h.1, ?_⟩
  rcases h.2 with hn | ⟨g, cap, cur, rfl, hbg, hg, rest⟩
  · exact .inl hn
  · exact .inr ⟨g, cap, cur, rfl, hbg, (hb.block g (hB g (by simp [Value.ownBlock]))).trans hg, rest⟩
theorem own_below' (h : w.ownsRow base e size v n xs) (hb : Below w.heap.size w w') : w'.ownsRow base e size v n xs := own_below h hb fun g hg => (h.lt g hg).2
theorem own_far (h : w.ownsRow base e size v n xs) {p : Addr} (hp : p.block < base) (u : Value) : (w.setCell p u).ownsRow base e size v n xs := ownsRow_setCell_below h hp u
theorem own_cell (h : w.ownsRow base e size v n xs) {g c : Nat} (hv : v = .slice (some ⟨g, 0, none⟩) n c) {j : Nat} {u : Value} (hu : xs[j]? = some u) : w.cell? ⟨g, j, none⟩ = some u := by
  subst hv
  have := h.cells (g := g) rfl j u hu
  rwa [addAddr0] at this
end

theorem cells_new (w : World) (L : List Value) (t : TypeId) : ∀ j u, L[j]? = some u → (w.alloc (.cells L.toArray t)).cell? ((⟨w.heap.size, 0, none⟩ : Addr).add j) = some u := by
  intro j u hu
  rw [addAddr0, (Blk.new w t L.toArray).cell j]
  simpa using hu
end
section
open Go.RowKit
/-- so many blocks at the beginning are the program's own variables -/
def ambD : Nat := 0
structure Amb (w : World) : Prop where
  le : ambD ≤ w.heap.size
  tab : True
theorem Amb.keep {w w' : World} (h : Amb w) (hs : ambD ≤ w'.heap.size) (hk : ∀ k, k < ambD → w'.heap[k]? = w.heap[k]?) : Amb w' := ⟨hs, trivial⟩
theorem amb_any (w : World) : Amb w := ⟨Nat.zero_le _, trivial⟩
end
section
open Go.RowKit

/-- any: nothing is said · c: this very value · sl: a slice of these rows, not to be written · osl: the call's own slice · rp: a pointer to these cells, not to be written · op: a pointer into an object of the call's own · fn: a closure of that function, with what it holds -/
inductive AV where
  | any
  | c (v : Value)
  | sl (sz : Nat) (rows : List (List AV))
  | osl (id : Nat)
  | agg (cs : List AV)
  | tup (vs : List AV)
  | fn (f : FuncId) (cs : List AV)
  | bfn (f : FuncId) (cs : List AV)
  | rp (cs : List AV)
  | op (id i j : Nat)
instance : Inhabited AV := ⟨.any⟩

/-- v stands for the tree av; all its memory lies in S -/
inductive RT (w : World) (S : Nat → Prop) : Value → AV → Prop
  | any (x : Value) : RT w S x .any
  | c (v : Value) : RT w S v (.c v)
  | sl (A : Option Addr) (n cap sz : Nat) (rows : List (List AV)) (b o : Nat) (U : Nat → Nat → Value) (hn : n = rows.length) (hc : n ≤ cap) (hm : cap ≤ 9223372036854775807)
      (hA : 0 < n → A = some ⟨b, o, none⟩ ∧ S b) (hs : ∀ row ∈ rows, row.length = sz)
      (hcell : 0 < n → ∀ i j row av, rows[i]? = some row → row[j]? = some av → w.cell? ⟨b, o + i * sz + j, none⟩ = some (U i j))
      (hone : ∀ i j row av, rows[i]? = some row → row[j]? = some av → (U i j).oneCell' = true)
      (hr : ∀ i j row av, rows[i]? = some row → row[j]? = some av → RT w S (U i j) av) : RT w S (.slice A n cap) (.sl sz rows)
  | agg (xs : Array Value) (cs : List AV) (hn : xs.size = cs.length) (hr : ∀ (j : Nat) (x : Value) (av : AV), xs[j]? = some x → cs[j]? = some av → RT w S x av) : RT w S (.agg xs) (.agg cs)
  | tup (xs : Array Value) (cs : List AV) (hn : xs.size = cs.length) (hr : ∀ (j : Nat) (x : Value) (av : AV), xs[j]? = some x → cs[j]? = some av → RT w S x av) : RT w S (.tuple xs) (.tup cs)
  | fn (f : FuncId) (xs : Array Value) (cs : List AV) (hn : xs.size = cs.length) (hr : ∀ (j : Nat) (x : Value) (av : AV), xs[j]? = some x → cs[j]? = some av → RT w S x av) : RT w S (.func (.func f) #[] xs) (.fn f cs)
  | bfn (f : FuncId) (xs : Array Value) (cs : List AV) (hn : xs.size = cs.length) (hr : ∀ (j : Nat) (x : Value) (av : AV), xs[j]? = some x → cs[j]? = some av → RT w S x av) : RT w S (.func (.func f) xs #[]) (.bfn f cs)
  | rp (b o : Nat) (cs : List AV) (U : Nat → Value) (hb : S b) (hcell : ∀ j av, cs[j]? = some av → w.cell? ⟨b, o + j, none⟩ = some (U j)) (hr : ∀ j av, cs[j]? = some av → RT w S (U j) av) :
      RT w S (.pointer (some ⟨b, o, none⟩)) (.rp cs)

theorem RT.mono {w w' : World} {S S' : Nat → Prop} {x : Value} {av : AV} (h : RT w S x av) (hk : ∀ p : Addr, S p.block → w'.cell? p = w.cell? p) (hS : ∀ b, S b → S' b) : RT w' S' x av := by
  induction h with
  | any x => exact .any x
  | c v => exact .c v
  | sl A n cap sz rows b o U hn hc hm hA hs hcell hone hr ih =>
    exact .sl A n cap sz rows b o U hn hc hm (fun h => ⟨(hA h).1, hS _ (hA h).2⟩) hs (fun h i j row av h1 h2 => (hk _ (hA h).2).trans (hcell h i j row av h1 h2)) hone ih
  | agg xs cs hn hr ih => exact .agg xs cs hn ih
  | tup xs cs hn hr ih => exact .tup xs cs hn ih
  | fn fi xs cs hn hr ih => exact .fn fi xs cs hn ih
  | bfn fi xs cs hn hr ih => exact .bfn fi xs cs hn ih
  | rp b o cs U hb hcell hr ih => exact .rp b o cs U (hS _ hb) (fun j av h => (hk _ hb).trans (hcell j av h)) ih

def vblk : Value → Option Nat
  | .pointer (some a) => some a.block
  | .slice (some a) _ _ => some a.block
  | .map (some b) => some b
  | _ => none

/-- K: the call's own objects: the cells of one of its rows, and where it lies -/
inductive RV (w : World) (S : Nat → Prop) (K : Nat → Option (Nat × Value)) : Value → AV → Prop
  | tree {x : Value} {av : AV} (h : RT w S x av) : RV w S K x av
  | osl (x : Value) (id : Nat) (h : ∀ sz v, K id = some (sz, v) → x = v) : RV w S K x (.osl id)
  | op (x : Value) (id i j : Nat) (h : ∀ sz v, K id = some (sz, v) → ∃ g, vblk v = some g ∧ x = .pointer (some ⟨g, i * sz + j, none⟩)) : RV w S K x (.op id i j)
  | agg (xs : Array Value) (cs : List AV) (hn : xs.size = cs.length) (hr : ∀ (j : Nat) (x : Value) (av : AV), xs[j]? = some x → cs[j]? = some av → RV w S K x av) : RV w S K (.agg xs) (.agg cs)
  | tup (xs : Array Value) (cs : List AV) (hn : xs.size = cs.length) (hr : ∀ (j : Nat) (x : Value) (av : AV), xs[j]? = some x → cs[j]? = some av → RV w S K x av) : RV w S K (.tuple xs) (.tup cs)
  | fn (f : FuncId) (xs : Array Value) (cs : List AV) (hn : xs.size = cs.length) (hr : ∀ (j : Nat) (x : Value) (av : AV), xs[j]? = some x → cs[j]? = some av → RV w S K x av) : RV w S K (.func (.func f) #[] xs) (.fn f cs)
  | bfn (f : FuncId) (xs : Array Value) (cs : List AV) (hn : xs.size = cs.length) (hr : ∀ (j : Nat) (x : Value) (av : AV), xs[j]? = some x → cs[j]? = some av → RV w S K x av) : RV w S K (.func (.func f) xs #[]) (.bfn f cs)

mutual
/-- the objects that it names are older -/
def AV.lt (nx : Nat) : AV → Prop
  | .osl id => id < nx
  | .op id _ _ => id < nx
  | .agg cs => AV.ltL nx cs
  | .tup cs => AV.ltL nx cs
  | .fn _ cs => AV.ltL nx cs
  | .bfn _ cs => AV.ltL nx cs
  | _ => True
def AV.ltL (nx : Nat) : List AV → Prop
  | [] => True
  | a :: l => a.lt nx ∧ AV.ltL nx l
end
theorem ltL_iff {nx : Nat} : ∀ {l : List AV}, AV.ltL nx l ↔ ∀ a ∈ l, a.lt nx
  | [] => by simp [AV.ltL]
  | a :: l => by simp [AV.ltL, ltL_iff (l := l)]
theorem AV.lt_mono {n m : Nat} (hnm : n ≤ m) : ∀ {av : AV}, av.lt n → av.lt m := by
  intro av
  induction av using AV.rec (motive_2 := fun _ => True) (motive_3 := fun l => AV.ltL n l → AV.ltL m l) <;> simp_all [AV.lt, AV.ltL] <;> omega

theorem RT.lt {w : World} {S : Nat → Prop} {x : Value} {av : AV} (h : RT w S x av) (nx : Nat) : av.lt nx := by
  induction h with
  | agg xs cs hn hr ih =>
    refine ltL_iff.2 fun a ha => ?_
    obtain ⟨j, hj⟩ := List.getElem?_of_mem ha
    have hlt : j < xs.size := by rw [hn]; exact (List.getElem?_eq_some_iff.1 hj).1
    exact ih j _ a (Array.getElem?_eq_getElem hlt) hj
  | tup xs cs hn hr ih =>
    refine ltL_iff.2 fun a ha => ?_
    obtain ⟨j, hj⟩ := List.getElem?_of_mem ha
    have hlt : j < xs.size := by rw [hn]; exact (List.getElem?_eq_some_iff.1 hj).1
    exact ih j _ a (Array.getElem?_eq_getElem hlt) hj
  | fn fi xs cs hn hr ih =>
    refine ltL_iff.2 fun a ha => ?_
    obtain ⟨j, hj⟩ := List.getElem?_of_mem ha
    have hlt : j < xs.size := by rw [hn]; exact (List.getElem?_eq_some_iff.1 hj).1
    exact ih j _ a (Array.getElem?_eq_getElem hlt) hj
  | bfn fi xs cs hn hr ih =>
    refine ltL_iff.2 fun a ha => ?_
    obtain ⟨j, hj⟩ := List.getElem?_of_mem ha
    have hlt : j < xs.size := by rw [hn]; exact (List.getElem?_eq_some_iff.1 hj).1
    exact ih j _ a (Array.getElem?_eq_getElem hlt) hj
  | _ => trivial
theorem RV.mono {w w' : World} {S S' : Nat → Prop} {K K' : Nat → Option (Nat × Value)} {nx : Nat} {x : Value} {av : AV} (h : RV w S K x av) (hl : av.lt nx) (hk : ∀ p : Addr, S p.block → w'.cell? p = w.cell? p) (hS : ∀ b, S b → S' b)
    (hK : ∀ id p, id < nx → K' id = some p → K id = some p) : RV w' S' K' x av := by
  induction h with
  | tree h => exact .tree (h.mono hk hS)
  | osl x id h => exact .osl x id fun sz v e => h sz v (hK id _ hl e)
  | op x id i j h => exact .op x id i j fun sz v e => h sz v (hK id _ hl e)
  | agg xs cs hn hr ih => exact .agg xs cs hn fun j x av h1 h2 => ih j x av h1 h2 (ltL_iff.1 hl _ (List.mem_of_getElem? h2))
  | tup xs cs hn hr ih => exact .tup xs cs hn fun j x av h1 h2 => ih j x av h1 h2 (ltL_iff.1 hl _ (List.mem_of_getElem? h2))
  | fn fi xs cs hn hr ih => exact .fn fi xs cs hn fun j x av h1 h2 => ih j x av h1 h2 (ltL_iff.1 hl _ (List.mem_of_getElem? h2))
  | bfn fi xs cs hn hr ih => exact .bfn fi xs cs hn fun j x av h1 h2 => ih j x av h1 h2 (ltL_iff.1 hl _ (List.mem_of_getElem? h2))

/-! ### what a value is -/
section
variable {w : World} {S : Nat → Prop} {K : Nat → Option (Nat × Value)} {x : Value}
theorem RV.c_inv {v : Value} (h : RV w S K x (.c v)) : x = v := by
  cases h with
  | tree h => cases h; rfl
theorem RV.agg_inv {cs : List AV} (h : RV w S K x (.agg cs)) : ∃ xs : Array Value, x = .agg xs ∧ xs.size = cs.length ∧ ∀ (j : Nat) (x : Value) (av : AV), xs[j]? = some x → cs[j]? = some av → RV w S K x av := by
  cases h with
  | tree h => cases h with | agg xs cs hn hr => exact ⟨xs, rfl, hn, fun j x av h1 h2 => .tree (hr j x av h1 h2)⟩
  | agg xs cs hn hr => exact ⟨xs, rfl, hn, hr⟩
theorem RV.tup_inv {cs : List AV} (h : RV w S K x (.tup cs)) : ∃ xs : Array Value, x = .tuple xs ∧ xs.size = cs.length ∧ ∀ (j : Nat) (x : Value) (av : AV), xs[j]? = some x → cs[j]? = some av → RV w S K x av := by
  cases h with
  | tree h => cases h with | tup xs cs hn hr => exact ⟨xs, rfl, hn, fun j x av h1 h2 => .tree (hr j x av h1 h2)⟩
  | tup xs cs hn hr => exact ⟨xs, rfl, hn, hr⟩
theorem RV.fn_inv {f : FuncId} {cs : List AV} (h : RV w S K x (.fn f cs)) : ∃ xs : Array Value, x = .func (.func f) #[] xs ∧ xs.size = cs.length ∧ ∀ (j : Nat) (x : Value) (av : AV), xs[j]? = some x → cs[j]? = some av → RV w S K x av := by
  cases h with
  | tree h => cases h with | fn _ xs cs hn hr => exact ⟨xs, rfl, hn, fun j x av h1 h2 => .tree (hr j x av h1 h2)⟩
  | fn _ xs cs hn hr => exact ⟨xs, rfl, hn, hr⟩
theorem RV.bfn_inv {f : FuncId} {cs : List AV} (h : RV w S K x (.bfn f cs)) : ∃ xs : Array Value, x = .func (.func f) xs #[] ∧ xs.size = cs.length ∧ ∀ (j : Nat) (x : Value) (av : AV), xs[j]? = some x → cs[j]? = some av → RV w S K x av := by
  cases h with
  | tree h => cases h with | bfn _ xs cs hn hr => exact ⟨xs, rfl, hn, fun j x av h1 h2 => .tree (hr j x av h1 h2)⟩
  | bfn _ xs cs hn hr => exact ⟨xs, rfl, hn, hr⟩
theorem RT.sl_inv {sz : Nat} {rows : List (List AV)} (h : RT w S x (.sl sz rows)) : ∃ A cap, x = .slice A rows.length cap ∧ rows.length ≤ cap ∧ cap ≤ 9223372036854775807 ∧ (∀ row ∈ rows, row.length = sz) ∧
    (0 < rows.length → ∃ b o, A = some ⟨b, o, none⟩ ∧ S b ∧ ∃ U : Nat → Nat → Value, (∀ i j row av, rows[i]? = some row → row[j]? = some av → w.cell? ⟨b, o + i * sz + j, none⟩ = some (U i j)) ∧
      (∀ i j row av, rows[i]? = some row → row[j]? = some av → RT w S (U i j) av) ∧ ∀ i j row av, rows[i]? = some row → row[j]? = some av → (U i j).oneCell' = true) := by
  cases h with
  | sl A n cap sz rows b o U hn hc hm hA hs hcell hone hr =>
    subst hn
    exact ⟨A, cap, rfl, hc, hm, hs, fun h => ⟨b, o, (hA h).1, (hA h).2, U, hcell h, hr, hone⟩⟩
theorem RV.sl_inv {sz : Nat} {rows : List (List AV)} (h : RV w S K x (.sl sz rows)) : RT w S x (.sl sz rows) := by
  cases h with
  | tree h => exact h
theorem RV.rp_inv {cs : List AV} (h : RV w S K x (.rp cs)) : ∃ b o, ∃ U : Nat → Value, x = .pointer (some ⟨b, o, none⟩) ∧ S b ∧ (∀ j av, cs[j]? = some av → w.cell? ⟨b, o + j, none⟩ = some (U j)) ∧ ∀ j av, cs[j]? = some av → RT w S (U j) av := by
  cases h with
  | tree h => cases h with | rp b o cs U hb hcell hr => exact ⟨b, o, U, rfl, hb, hcell, hr⟩
theorem RV.osl_inv {id : Nat} (h : RV w S K x (.osl id)) : ∀ sz v, K id = some (sz, v) → x = v := by
  cases h with
  | tree h => cases h
  | osl x id h => exact h
theorem RV.op_inv {id i j : Nat} (h : RV w S K x (.op id i j)) : ∀ sz v, K id = some (sz, v) → ∃ g, vblk v = some g ∧ x = .pointer (some ⟨g, i * sz + j, none⟩) := by
  cases h with
  | tree h => cases h
  | op x id i j h => exact h
end

/-! ### the call's own objects, and its state -/
/-- slots and their values name elder objects alone -/
def envLt (nx : Nat) : List (Nat × AV) → Prop
  | [] => True
  | (_, av) :: l => av.lt nx ∧ envLt nx l
/-- a variable of its own; a slice of its own; one whose cells may name its own; a map of its own; ghost: the slots of a caller, that wait -/
inductive AObj where
  | box (t : TypeId) (cells : List AV)
  | nest (e : TypeId) (sz : Nat) (rows : List (List AV))
  | row (e : TypeId) (sz : Nat) (rows : List (List AV))
  | map (ents : List (Value × Value))
  | ghost (vs : Array Value) (env : List (Nat × AV))
def AObj.sz : AObj → Nat
  | .box _ cells => cells.length
  | .nest _ sz _ => sz
  | .row _ sz _ => sz
  | .map _ => 0
  | .ghost _ _ => 0
def AObj.lt (nx : Nat) : AObj → Prop
  | .box _ cells => AV.ltL nx cells
  | .nest _ _ rows => ∀ row ∈ rows, AV.ltL nx row
  | .row _ _ _ => True
  | .map _ => True
  | .ghost _ env => envLt nx env
/-- slices of these types are made as such whose cells may name its own (chosen for each seat) -/
def nestMk : List TypeId := [23]
def isMk (t : TypeId) : Bool := nestMk.contains t
def mkO (b : Bool) (e : TypeId) (sz : Nat) (rows : List (List AV)) : AObj := match b with
  | true => .nest e sz rows
  | false => .row e sz rows
abbrev ATab := List (Nat × Option AObj)
def ATab.get : ATab → Nat → Option AObj
  | [], _ => none
  | (k, o) :: l, id => if id = k then o else ATab.get l id
theorem ATab.get_cons (k : Nat) (o : Option AObj) (l : ATab) (id : Nat) : ATab.get ((k, o) :: l) id = if id = k then o else l.get id := rfl
def aget : List (Nat × AV) → Nat → AV
  | [], _ => .any
  | (k, v) :: l, t => if t = k then v else aget l t
theorem envLt_aget {nx : Nat} : ∀ {l : List (Nat × AV)}, envLt nx l → ∀ t, (aget l t).lt nx
  | [], _, _ => trivial
  | (k, av) :: l, h, t => by
    unfold aget
    split
    · exact h.1
    · exact envLt_aget h.2 t
theorem envLt_mono {n m : Nat} (hnm : n ≤ m) : ∀ {l : List (Nat × AV)}, envLt n l → envLt m l
  | [], _ => trivial
  | (_, _) :: _, h => ⟨AV.lt_mono hnm h.1, envLt_mono hnm h.2⟩
structure ASt where
  n : Nat
  env : List (Nat × AV)
  tab : ATab
  next : Nat
def ASt.get (st : ASt) (t : Nat) : AV := if t < st.n then aget st.env t else .any
def ASt.put (st : ASt) (dst : Option Nat) (av : AV) : ASt :=
  match dst with
  | some d => { st with env := (d, av) :: st.env }
  | none => st
/-- where a call begins: its world, and the old memory that its arguments may lie in -/
structure Cx where
  F : Nat → Prop
  w0 : World
  /-- memory of somebody else's: neither read nor written -/
  X : Nat → Prop
  amb : Amb w0
  exD : ∀ b, X b → ambD ≤ b
  inF : ∀ b, b < ambD → F b
/-- old memory that may be read, and what holds of the world around -/
structure SOk (w : World) (S : Nat → Prop) : Prop where
  sub : ∀ b, S b → b < w.heap.size
  amb : Amb w
  tab : ∀ b, b < ambD → S b
instance {w : World} {S : Nat → Prop} : CoeFun (SOk w S) fun _ => ∀ b, S b → b < w.heap.size := ⟨fun h => h.sub⟩
abbrev Cx.mk0 (S : Nat → Prop) (w : World) (hS : SOk w S) : Cx := ⟨S, w, fun _ => False, hS.amb, fun _ h => h.elim, hS.tab⟩
theorem Amb.below {w w' : World} (h : Amb w) (hb : Below w.heap.size w w') : Amb w' := h.keep (Nat.le_trans h.le hb.size) fun k hk => hb.block k (Nat.lt_of_lt_of_le hk h.le)
theorem Amb.all {w : World} (h : Amb w) : SOk w (fun b => b < w.heap.size) := ⟨fun b hb => hb, h, fun b hb => Nat.lt_of_lt_of_le hb h.le⟩
/-- but for some blocks what lay lies as it lay -/
structure BelowX (X : Nat → Prop) (n : Nat) (w w' : World) : Prop where
  os : w'.os = w.os
  tape : w'.tape = w.tape
  output : w'.output = w.output
  size : w.heap.size ≤ w'.heap.size
  block : ∀ k, k < n → ¬ X k → w'.heap[k]? = w.heap[k]?
theorem BelowX.trans {X : Nat → Prop} {n : Nat} {a b c : World} (h : BelowX X n a b) (k : BelowX X n b c) : BelowX X n a c :=
  ⟨k.os.trans h.os, k.tape.trans h.tape, k.output.trans h.output, Nat.le_trans h.size k.size, fun i hi hx => (k.block i hi hx).trans (h.block i hi hx)⟩
theorem belowX {X : Nat → Prop} {n : Nat} {a b : World} (h : Below n a b) : BelowX X n a b := ⟨h.os, h.tape, h.output, h.size, fun i hi _ => h.block i hi⟩
theorem BelowX.below {X : Nat → Prop} {n : Nat} {a b : World} (h : BelowX X n a b) (hx : ∀ b, ¬ X b) : Below n a b := ⟨h.os, h.tape, h.output, h.size, fun i hi => h.block i hi (hx i)⟩
/-- the memory that is not to be written -/
def Sx (c : Cx) (w : World) (tab : ATab) (L : Nat → Value) (b : Nat) : Prop := b < w.heap.size ∧ ((c.F b ∨ c.w0.heap.size ≤ b) ∧ ¬ c.X b) ∧ ∀ id o, tab.get id = some o → vblk (L id) ≠ some b
def Kx (tab : ATab) (L : Nat → Value) (id : Nat) : Option (Nat × Value) := (tab.get id).map fun o => (o.sz, L id)
abbrev RVx (c : Cx) (w : World) (tab : ATab) (L : Nat → Value) : Value → AV → Prop := RV w (Sx c w tab L) (Kx tab L)
/-- v owns these cells, n of size each; its row may have more than it tells -/
def OwnsR (w : World) (base : Nat) (e : TypeId) (size : Nat) (v : Value) (n : Nat) (xs : List Value) : Prop :=
  xs.length = n * size ∧
  ((v = .slice none 0 0 ∧ n = 0) ∨
   ∃ g cap cur, v = .slice (some ⟨g, 0, none⟩) n cap ∧ base ≤ g ∧ w.heap[g]? = some (.cells cur e (0, 0)) ∧ n ≤ cap ∧ cap ≤ maxLen ∧ cap * size ≤ cur.size ∧ cur.toList.take (n * size) = xs)
theorem ownsR_of {w : World} {base e size n : Nat} {v : Value} {xs : List Value} (h : w.ownsRow base e size v n xs) : OwnsR w base e size v n xs := by
  refine ⟨h.1, ?_⟩
  rcases h.2 with hn | ⟨g, cap, cur, h1, h2, h3, h4, h5, h6, h7⟩
  · exact .inl hn
  · exact .inr ⟨g, cap, cur, h1, h2, h3, h4, h5, by omega, h7⟩
theorem ownsR_nil (w : World) (base : Nat) (e : TypeId) (size : Nat) : OwnsR w base e size (.slice none 0 0) 0 [] := ⟨by simp, .inl ⟨rfl, rfl⟩⟩
theorem OwnsR.lt {w : World} {base e size n : Nat} {v : Value} {xs : List Value} (h : OwnsR w base e size v n xs) : ∀ k, v.ownBlock = some k → base ≤ k ∧ k < w.heap.size := by
  intro k hk
  rcases h.2 with ⟨rfl, _⟩ | ⟨g, cap, cur, rfl, hb, hg, _⟩
  · simp [Value.ownBlock] at hk
  · simp [Value.ownBlock] at hk
    subst hk
    exact ⟨hb, (Array.getElem?_eq_some_iff.1 hg).1⟩
theorem OwnsR.base {w : World} {base base' e size n : Nat} {v : Value} {xs : List Value} (h : OwnsR w base e size v n xs) (hb : base' ≤ base) : OwnsR w base' e size v n xs := by
  refine ⟨h.1, ?_⟩
  rcases h.2 with hn | ⟨g, cap, cur, h1, h2, rest⟩
  · exact .inl hn
  · exact .inr ⟨g, cap, cur, h1, Nat.le_trans hb h2, rest⟩
theorem OwnsR.cells {w : World} {base e size n : Nat} {v : Value} {xs : List Value} (h : OwnsR w base e size v n xs) {g : Nat} (hg : v.ownBlock = some g) : ∀ j u, xs[j]? = some u → w.cell? ((⟨g, 0, none⟩ : Addr).add j) = some u := by
  intro j u hu
  rcases h.2 with ⟨rfl, _⟩ | ⟨g', cap, cur, rfl, _, hgg, _, _, _, htake⟩
  · simp [Value.ownBlock] at hg
  · simp [Value.ownBlock] at hg
    subst hg
    have hadd : (⟨g', 0, none⟩ : Addr).add j = ⟨g', j, none⟩ := by unfold Addr.add; split <;> simp_all
    rw [hadd, cell_of_row w g' j cur e (0, 0) hgg]
    rw [← htake, List.getElem?_take] at hu
    split at hu
    · simpa using hu
    · cases hu
def ObjAt (c : Cx) (w : World) (tab : ATab) (L : Nat → Value) (v : Value) : AObj → Prop
  | .box t cells => ∃ g cs, v = .pointer (some ⟨g, 0, none⟩) ∧ c.w0.heap.size ≤ g ∧ w.heap[g]? = some (.cells cs t (0, 0)) ∧ cs.size = cells.length ∧ ∀ (j : Nat) (x : Value) (av : AV), cs[j]? = some x → cells[j]? = some av → RVx c w tab L x av ∧ x.oneCell' = true
  | .nest e sz rows => (∀ row ∈ rows, row.length = sz) ∧ ∃ xs, OwnsR w c.w0.heap.size e sz v rows.length xs ∧ (∀ x ∈ xs, x.oneCell' = true) ∧ ∀ (i j : Nat) (row : List AV) (av : AV), rows[i]? = some row → row[j]? = some av → ∃ x, xs[i * sz + j]? = some x ∧ RVx c w tab L x av
  | .row e sz rows => (∀ row ∈ rows, row.length = sz) ∧ ∃ xs, OwnsR w c.w0.heap.size e sz v rows.length xs ∧ (∀ x ∈ xs, x.oneCell' = true) ∧ ∀ (i j : Nat) (row : List AV) (av : AV), rows[i]? = some row → row[j]? = some av → ∃ x, xs[i * sz + j]? = some x ∧ RT w (Sx c w tab L) x av
  | .map ents => ∃ b es ck, v = .map (some b) ∧ c.w0.heap.size ≤ b ∧ w.heap[b]? = some (.map es ck) ∧ es.toList.map (fun e => (e.key, e.val)) = ents
  | .ghost vs env => v = .bool false ∧ ∀ t, t < vs.size → RVx c w tab L (vs.getD t undef) (aget env t)
structure Lay (c : Cx) (w : World) (tab : ATab) (L : Nat → Value) : Prop where
  below : BelowX c.X c.w0.heap.size c.w0 w
  objs : ∀ id o, tab.get id = some o → ObjAt c w tab L (L id) o
  sep : ∀ id id' o o' g, tab.get id = some o → tab.get id' = some o' → vblk (L id) = some g → vblk (L id') = some g → id = id'
  ex : ∀ b, c.X b → b < w.heap.size ∧ ∀ id o, tab.get id = some o → vblk (L id) ≠ some b
theorem Lay.amb {c : Cx} {w : World} {tab : ATab} {L : Nat → Value} (h : Lay c w tab L) : Amb w :=
  c.amb.keep (Nat.le_trans c.amb.le h.below.size) fun k hk => h.below.block k (Nat.lt_of_lt_of_le hk c.amb.le) fun hx => by have := c.exD k hx; omega
theorem Lay.sok {c : Cx} {w : World} {tab : ATab} {L : Nat → Value} (h : Lay c w tab L) : SOk w (Sx c w tab L) :=
  ⟨fun b hb => hb.1, h.amb, fun b hb => ⟨Nat.lt_of_lt_of_le hb h.amb.le, ⟨.inl (c.inF b hb), fun hx => by have := c.exD b hx; omega⟩, fun id o hid hg => by
    have h1 := h.objs id o hid
    have h2 : c.w0.heap.size ≤ b := by
      cases o with
      | box t cells =>
        obtain ⟨g, cs, h3, h4, _⟩ := h1
        rw [h3] at hg
        cases hg
        exact h4
      | row e sz rows =>
        obtain ⟨_, xs, h3, _⟩ := h1
        rcases h3.2 with ⟨h4, _⟩ | ⟨g, cap, cur, h4, h5, _⟩
        · rw [h4] at hg
          cases hg
        · rw [h4] at hg
          cases hg
          exact h5
      | nest e sz rows =>
        obtain ⟨_, xs, h3, _⟩ := h1
        rcases h3.2 with ⟨h4, _⟩ | ⟨g, cap, cur, h4, h5, _⟩
        · rw [h4] at hg
          cases hg
        · rw [h4] at hg
          cases hg
          exact h5
      | map ents =>
        obtain ⟨b', es, ck, h3, h4, _⟩ := h1
        rw [h3] at hg
        cases hg
        exact h4
      | ghost vs env =>
        rw [h1.1] at hg
        cases hg
    have := c.amb.le
    omega⟩⟩
/-- what was deferred is the end of loops over a function, whose rounds deferred nothing -/
def Marks (base : Nat) (w : World) (S : Nat → Prop) (ds : List Deferred) : Prop :=
  ds.Nodup ∧ ∀ d ∈ ds, ∃ k, d = { target := .collected k, args := #[] } ∧ base ≤ k ∧ w.heap[k]? = some (.deferred (some [])) ∧ S k
theorem Marks.nil (base : Nat) (w : World) (S : Nat → Prop) : Marks base w S [] := ⟨List.nodup_nil, fun d hd => (by cases hd)⟩
theorem Marks.mono {base : Nat} {w w' : World} {S S' : Nat → Prop} {ds : List Deferred} (h : Marks base w S ds) (hb : ∀ b, S b → w'.heap[b]? = w.heap[b]?) (hS : ∀ b, S b → S' b) : Marks base w' S' ds :=
  ⟨h.1, fun d hd => (h.2 d hd).elim fun k hk => ⟨k, hk.1, hk.2.1, (hb k hk.2.2.2).trans hk.2.2.1, hS k hk.2.2.2⟩⟩
structure Conc (c : Cx) (a : Act) (w : World) (st : ASt) (L : Nat → Value) : Prop where
  lay : Lay c w st.tab L
  size : a.tmps.size = st.n
  defers : Marks c.w0.heap.size w (Sx c w st.tab L) a.defers
  young : ∀ id o, st.tab.get id = some o → id < st.next ∧ o.lt st.next
  env : ∀ t, RVx c w st.tab L (a.tmps.getD t undef) (st.get t) ∧ (st.get t).lt st.next
end
section
open Go.RowKit

/-! ### what is asked of types -/
def tyAgg (P : Program) (t : TypeId) : Bool := match P.underlying t with | some (.struct _) | some (.array _ _) => true | _ => false
/-- cells; 0: no such type -/
def tySize (P : Program) (t : TypeId) : Nat := match P.underlying t, P.info? t with | some _, some i => i.size | _, _ => 0
/-- a slice's type of elements, and their cells -/
def tyElem (P : Program) (t : TypeId) : Nat × Nat := match P.underlying t with | some (.slice e) => (e, tySize P e) | _ => (0, 0)
/-- where a field lies; none: it has no cells, or there is none such -/
def fOff (P : Program) (s : TypeId) (f : Nat) : Option Nat := match P.underlying s with
  | some (.struct fields) => match fields[f]? with
    | some fd => if tySize P fd.type = 0 then none else some fd.offset
    | none => none
  | _ => none
/-- a field's type -/
def fTyp (P : Program) (s : TypeId) (f : Nat) : TypeId := match P.underlying s with
  | some (.struct fields) => match fields[f]? with
    | some fd => fd.type
    | none => 0
  | _ => 0
def tyInt (P : Program) (t : TypeId) : Option IntKind := match P.underlying t with | some (.int k) => some k | _ => none
inductive TyK where | bool | int | str | slice | other
def tyK (P : Program) (t : TypeId) : TyK := match P.underlying t with | some .bool => .bool | some (.int _) => .int | some .string => .str | some (.slice _) => .slice | _ => .other

section
variable {P : Program} {t : TypeId}
theorem tyAgg_true (h : tyAgg P t = true) (w : World) : (isAgg t).run P w = .ok true w := by
  unfold tyAgg at h
  cases hu : P.underlying t with
  | none => simp [hu] at h
  | some d =>
    unfold isAgg
    rw [Sem.run_bind, run_underlying hu w]
    cases d <;> simp_all
theorem tyAgg_false {d : TypeDesc} (hu : P.underlying t = some d) (h : tyAgg P t = false) (w : World) : (isAgg t).run P w = .ok false w := by
  unfold tyAgg at h
  unfold isAgg
  rw [Sem.run_bind, run_underlying hu w]
  cases d <;> simp_all
theorem tySize_pos (h : 0 < tySize P t) : ∃ d i, P.underlying t = some d ∧ P.info? t = some i ∧ i.size = tySize P t := by
  unfold tySize at *
  cases hu : P.underlying t <;> cases hi : P.info? t <;> simp_all
theorem run_sizeOf' (h : 0 < tySize P t) (w : World) : (sizeOf t).run P w = .ok (tySize P t) w := by
  obtain ⟨d, i, _, hi, he⟩ := tySize_pos h
  simp [sizeOf, typeInfo, hi, he]
end

/-! ### abstractly -/
def aEv (st : ASt) : Operand → AV
  | .tmp t => st.get t
  | .const v => .c v
  | .func f => .c (.func (.func f) #[] #[])
  | .global _ => .any
/-- a variable of type t at these cells -/
def aTake (P : Program) (t : TypeId) (cs : List AV) (K : AV → Prop) : Prop :=
  0 < tySize P t ∧ tySize P t ≤ cs.length ∧ if tyAgg P t = true then K (.agg (cs.take (tySize P t))) else K (cs.headD .any)
def aLoad (P : Program) (t : TypeId) (tab : ATab) (x : AV) (K : AV → Prop) : Prop :=
  match x with
  | .rp cs => aTake P t cs K
  | .op id i j => match tab.get id with
    | some (.box _ cells) => i = 0 ∧ aTake P t (cells.drop j) K
    | some (.row _ _ rows) => i < rows.length ∧ aTake P t ((rows[i]?.getD []).drop j) K
    | some (.nest _ _ rows) => i < rows.length ∧ aTake P t ((rows[i]?.getD []).drop j) K
    | _ => False
  | _ => False
def aField (P : Program) (s : TypeId) (tab : ATab) (x : AV) (f : Nat) (K : AV → Prop) : Prop :=
  match fOff P s f with
  | some d => match x with
    | .rp cs => K (.rp (cs.drop d))
    | .op id i j => match tab.get id with
      | some _ => K (.op id i (j + d))
      | none => False
    | _ => False
  | none => False
/-- an array: how many, and the size of each -/
def tyArr (P : Program) (t : TypeId) : Nat × Nat := match P.underlying t with | some (.array n e) => (n, tySize P e) | _ => (0, 0)
def aIndex (P : Program) (t : TypeId) (tab : ATab) (x ix : AV) (K : AV → Prop) : Prop :=
  match ix with
  | .c (.int _ n) => match x with
    | .op id i j => match tab.get id with
      | some _ => 0 < (tyArr P t).2 ∧ 0 ≤ n ∧ n < (tyArr P t).1 ∧ K (.op id i (j + n.toNat * (tyArr P t).2))
      | none => False
    | .sl sz rows => (tyElem P t).2 = sz ∧ 0 < sz ∧ 0 ≤ n ∧ n < rows.length ∧ K (.rp (rows[n.toNat]?.getD []))
    | .osl id => match tab.get id with
      | some (.row _ sz rows) => (tyElem P t).2 = sz ∧ 0 < sz ∧ 0 ≤ n ∧ n < rows.length ∧ K (.op id n.toNat 0)
      | some (.nest _ sz rows) => (tyElem P t).2 = sz ∧ 0 < sz ∧ 0 ≤ n ∧ n < rows.length ∧ K (.op id n.toNat 0)
      | _ => False
    | _ => False
  | _ => False
def aLen (P : Program) (t : TypeId) (tab : ATab) (x : AV) (K : AV → Prop) : Prop :=
  match x with
  | .sl _ rows => (tyElem P t).2 ≠ 0 ∧ K (.c (.int .i64 rows.length))
  | .osl id => match tab.get id with
    | some (.row _ _ rows) => (tyElem P t).2 ≠ 0 ∧ K (.c (.int .i64 rows.length))
    | some (.nest _ _ rows) => (tyElem P t).2 ≠ 0 ∧ K (.c (.int .i64 rows.length))
    | _ => False
  | .c (.slice _ n _) => (tyElem P t).2 ≠ 0 ∧ K (.c (.int .i64 n))
  | .c (.string s) => tyK P t = .str ∧ K (.c (.int .i64 s.size))
  | _ => False
def bin2 (op : BinOp) (k : TyK) : Value → Value → Option Value
  | .int i a, .int j b => if i = j then
      match op with
      | .add => some (.int i (i.wrap (a + b)))
      | .sub => some (.int i (i.wrap (a - b)))
      | .mul => some (.int i (i.wrap (a * b)))
      | .quo => if b = 0 then none else some (.int i (i.wrap (a.tdiv b)))
      | .rem => if b = 0 then none else some (.int i (a.tmod b))
      | .eql => some (.bool (a == b))
      | .neq => some (.bool (a != b))
      | .lss => some (.bool (decide (a < b)))
      | .leq => some (.bool (decide (a ≤ b)))
      | .gtr => some (.bool (decide (b < a)))
      | .geq => some (.bool (decide (b ≤ a)))
      | .and => some (.int i (bits .and i a b))
      | .or => some (.int i (bits .or i a b))
      | .xor => some (.int i (bits .xor i a b))
      | .andNot => some (.int i (bits .andNot i a b))
      | .shl => if b < 0 then none else some (.int i (i.wrap (a * 2 ^ (min b.toNat i.bits))))
      | .shr => if b < 0 then none else some (.int i (a.fdiv (2 ^ (min b.toNat i.bits))))
    else none
  | .bool a, .bool b => match k, op with
      | .bool, .eql => some (.bool (a == b))
      | .bool, .neq => some (.bool (!(a == b)))
      | _, _ => none
  | .string a, .string b => match op with
      | .eql => some (.bool (a == b))
      | .neq => some (.bool (!(a == b)))
      | .add => if a.size + b.size ≤ 9223372036854775807 then some (.string (a ++ b)) else none
      | _ => none
  | .slice none _ _, .slice none _ _ => match k, op with
      | .slice, .eql => some (.bool true)
      | .slice, .neq => some (.bool false)
      | _, _ => none
  | _, _ => none
/-- a slice that is read is nil, or not: it may be, if it has nothing -/
def aNilS (op : BinOp) (k : TyK) (rows : List (List AV)) (b : Value) (K : AV → Prop) : Prop :=
  match k, op, b with
  | .slice, .eql, .slice none 0 0 => ∀ c : Bool, (c = true → rows = []) → K (.c (.bool c))
  | .slice, .neq, .slice none 0 0 => ∀ c : Bool, (c = false → rows = []) → K (.c (.bool c))
  | _, _, _ => False
/-- the greater one, or the less, of two -/
def aMM (f : Int → Int → Int) : List AV → (AV → Prop) → Prop
  | [.c (.int k a), .c (.int _ b)], K => K (.c (.int k (f a b)))
  | _, _ => False
def un1 (op : UnOp) : Value → Option Value
  | .bool b => match op with | .not => some (.bool (!b)) | _ => none
  | .int k n => match op with | .neg => some (.int k (k.wrap (0 - n))) | _ => none
  | _ => none
/-- values, if all are told -/
def allC : List AV → Option (List Value)
  | [] => some []
  | .c v :: l => match allC l with
    | some vs => some (v :: vs)
    | none => none
  | _ => none
def BinRun (P : Program) (op : BinOp) (t : TypeId) (a b r : Value) : Prop := ∀ (w : World) (x y : Operand), (do eqGuard op t x y a b; binOp op t a b : Sem Value).run P w = .ok r w
def aBinS (P : Program) (op : BinOp) (t : TypeId) (K : AV → Prop) : Option (List Value) → Option (List Value) → Prop
  | some vs, some us => ∃ r, BinRun P op t (.agg vs.toArray) (.agg us.toArray) r ∧ K (.c r)
  | _, _ => False
def aBin (P : Program) (op : BinOp) (t : TypeId) (x y : AV) (K : AV → Prop) : Prop :=
  match x, y with
  | .c a, .c b => match bin2 op (tyK P t) a b with
    | some v => K (.c v)
    | none => False
  | .agg xs, .agg ys => aBinS P op t K (allC xs) (allC ys)
  | .sl _ rows, .c b => aNilS op (tyK P t) rows b K
  | _, _ => False
def aUn (op : UnOp) (x : AV) (K : AV → Prop) : Prop :=
  match x with
  | .c a => match un1 op a with
    | some v => K (.c v)
    | none => False
  | _ => False
/-- one of two, by a truth -/
def aIfV (t : Bool) (a b : AV) (K : AV → Prop) : Prop := match t with | true => K a | false => K b
def aPick (c a b : AV) (K : AV → Prop) : Prop :=
  match c with
  | .c (.bool t) => aIfV t a b K
  | _ => False
def aExtract (x : AV) (i : Nat) (K : AV → Prop) : Prop :=
  match x with
  | .tup vs => i < vs.length ∧ K (vs[i]?.getD .any)
  | _ => False
def aConv (P : Program) (src dst : TypeId) (x : AV) (K : AV → Prop) : Prop :=
  match tyInt P src, tyInt P dst, x with
  | some _, some k, .c (.int _ n) => K (.c (.int k (k.wrap n)))
  | _, _, _ => False
/-- a field of a struct's value: x: its offset, its type -/
def aFieldV (P : Program) (s : TypeId) (x : AV) (f : Nat) (K : AV → Prop) : Prop :=
  match fOff P s f with
  | some d => match x with
    | .agg cs => d + tySize P (fTyp P s f) ≤ cs.length ∧ if tyAgg P (fTyp P s f) = true then K (.agg ((cs.drop d).take (tySize P (fTyp P s f)))) else K ((cs.drop d).headD .any)
    | _ => False
  | none => False
def aClo (f : Fn) (b : Bool) (cs : List AV) (K : AV → Prop) : Prop :=
  match f, b with
  | .func g, true => K (.fn g cs)
  | _, _ => False
/-- a method with its receiver -/
def aCloB (f : Fn) (b : Bool) (bs : List AV) (K : AV → Prop) : Prop :=
  match f, b with
  | .func g, true => K (.bfn g bs)
  | _, _ => False
/-- a bound, or its default -/
def aBd (d : Int) : Option AV → Option Int
  | none => some d
  | some (.c (.int _ n)) => some n
  | _ => none
def aSliceR (P : Program) (t : TypeId) (sz : Nat) (rows : List (List AV)) (K : AV → Prop) : Option Int → Option Int → Option AV → Prop
  | some l, some h, none => ((tyElem P t).2 = sz ∧ 0 < sz) ∧ (0 ≤ l ∧ l ≤ h ∧ h ≤ (rows.length : Int)) ∧ K (.sl sz ((rows.take h.toNat).drop l.toNat))
  | _, _, _ => False
def aSliceS (P : Program) (t : TypeId) (s : ByteArray) (K : AV → Prop) : Option Int → Option Int → Option AV → Prop
  | some l, some h, none => tyK P t = .str ∧ (0 ≤ l ∧ l ≤ h ∧ h ≤ (s.size : Int)) ∧ K (.c (.string (s.extract l.toNat h.toNat)))
  | _, _, _ => False
/-- a part of what is read -/
def aSlice (P : Program) (t : TypeId) (x : AV) (lo hi mx : Option AV) (K : AV → Prop) : Prop :=
  match x with
  | .sl sz rows => aSliceR P t sz rows K (aBd 0 lo) (aBd rows.length hi) mx
  | .c (.string s) => aSliceS P t s K (aBd 0 lo) (aBd s.size hi) mx
  | _ => False
/-- a pointer, that is not nil -/
def aNil (tab : ATab) (x : AV) (K : AV → Prop) : Prop :=
  match x with
  | .rp cs => K (.rp cs)
  | .op id i j => match tab.get id with
    | some _ => K (.op id i j)
    | none => False
  | _ => False
def aPure (P : Program) (tab : ATab) (ev : Operand → AV) (o : Op) (K : AV → Prop) : Prop :=
  match o with
  | .move x => K (ev x)
  | .assign x => K (ev x)
  | .pick c a b => aPick (ev c) (ev a) (ev b) K
  | .load t x => aLoad P t tab (ev x) K
  | .fieldAddr s x f => aField P s tab (ev x) f K
  | .indexAddr t x ix => aIndex P t tab (ev x) (ev ix) K
  | .field s x f => aFieldV P s (ev x) f K
  | .binOp op t x y _ => aBin P op t (ev x) (ev y) K
  | .unOp op _ x => aUn op (ev x) K
  | .extract x i => aExtract (ev x) i K
  | .convert s d x => aConv P s d (ev x) K
  | .call c => match c.callee with
    | .builtin .len => match c.args.toList, c.argTypes.toList with
      | [x], [t] => aLen P t tab (ev x) K
      | _, _ => False
    | .builtin .max => aMM (fun a b => max a b) (c.args.toList.map ev) K
    | .builtin .min => aMM (fun a b => min a b) (c.args.toList.map ev) K
    | _ => False
  | .makeFunc f first caps => aClo f (first.size == 0) (caps.toList.map ev) K ∨ aCloB f (caps.size == 0 && !(first.size == 0)) (first.toList.map ev) K
  | .slice t x lo hi mx => aSlice P t (ev x) (lo.map ev) (hi.map ev) (mx.map ev) K
  | .nilCheck x => aNil tab (ev x) K
  | _ => False

/-! ### it is so -/
def Yields1 (P : Program) (cx : Cx) (w : World) (tab : ATab) (L : Nat → Value) (nx : Nat) (K : AV → Prop) (s : Sem Value) : Prop :=
  ∃ v av, K av ∧ RVx cx w tab L v av ∧ av.lt nx ∧ ∀ w', Below w.heap.size w w' → s.run P w' = .ok v w'

/-- whatever memory is -/
def Yields0 (P : Program) (cx : Cx) (w : World) (tab : ATab) (L : Nat → Value) (nx : Nat) (K : AV → Prop) (s : Sem Value) : Prop :=
  ∃ v av, K av ∧ RVx cx w tab L v av ∧ av.lt nx ∧ ∀ w', s.run P w' = .ok v w'
section
variable {P : Program} {cx : Cx} {w : World} {tab : ATab} {L : Nat → Value} {nx : Nat} {K : AV → Prop}
/-- whatever memory is but that block -/
def SameB (b : Nat) (w w' : World) : Prop := ∀ (o : Nat) (u : Value), w.cell? ⟨b, o, none⟩ = some u → w'.cell? ⟨b, o, none⟩ = some u
def YieldsL (P : Program) (cx : Cx) (w : World) (tab : ATab) (L : Nat → Value) (nx : Nat) (K : AV → Prop) (v : Value) (s : Sem Value) : Prop :=
  ∃ u av, K av ∧ RVx cx w tab L u av ∧ av.lt nx ∧ ∃ b, vblk v = some b ∧ ∀ w', SameB b w w' → s.run P w' = .ok u w'
theorem YieldsL.one {v : Value} {s : Sem Value} (h : YieldsL P cx w tab L nx K v s) : Yields1 P cx w tab L nx K s := by
  obtain ⟨u, av, h1, h2, h3, b, _, h4⟩ := h
  exact ⟨u, av, h1, h2, h3, fun w' hw' => h4 w' fun o u hu => (hw'.cell (World.block_lt_of_cell? w _ hu)).trans hu⟩
theorem Yields0.one {s : Sem Value} (h : Yields0 P cx w tab L nx K s) : Yields1 P cx w tab L nx K s := by
  obtain ⟨v, av, h1, h2, h3, h4⟩ := h
  exact ⟨v, av, h1, h2, h3, fun w' _ => h4 w'⟩
omit tab L nx K in
theorem range_get {f : Nat → Value} {n j : Nat} {x : Value} (h : ((List.range n).map f)[j]? = some x) : j < n ∧ f j = x := by
  obtain ⟨hj, he⟩ := List.getElem?_eq_some_iff.1 h
  simp at hj he
  exact ⟨hj, he⟩
theorem take_ok {t : TypeId} {b o : Nat} {cs : List AV} (hc : ∀ j av, cs[j]? = some av → ∃ u, w.cell? ⟨b, o + j, none⟩ = some u ∧ RVx cx w tab L u av) (hl : AV.ltL nx cs) (h : aTake P t cs K) :
    YieldsL P cx w tab L nx K (.pointer (some ⟨b, o, none⟩)) (Instr.loadAt t (.pointer (some ⟨b, o, none⟩))) := by
  obtain ⟨h0, h1, h2⟩ := h
  obtain ⟨d, i, hu, hi, he⟩ := tySize_pos h0
  cases ha : tyAgg P t with
  | true =>
    rw [if_pos ha] at h2
    obtain ⟨f, hf⟩ : ∃ f : Nat → Value, ∀ j av, (cs.take (tySize P t))[j]? = some av → w.cell? ⟨b, o + j, none⟩ = some (f j) ∧ RVx cx w tab L (f j) av := by
      refine ⟨fun j => (w.cell? ⟨b, o + j, none⟩).getD undef, fun j av hj => ?_⟩
      rw [List.getElem?_take] at hj
      split at hj
      · obtain ⟨u, hu, hr⟩ := hc j av hj
        simp only [hu, Option.getD_some]
        exact ⟨trivial, hr⟩
      · cases hj
    have hlen : (cs.take (tySize P t)).length = tySize P t := by rw [List.length_take]; omega
    refine ⟨.agg ((List.range (tySize P t)).map f).toArray, _, h2, .agg _ _ (by simp [hlen]) (fun j x av hx hav => ?_), ?_, b, rfl, fun w' hb => ?_⟩
    · have := (hf j av hav).2
      rw [List.getElem?_toArray] at hx
      obtain ⟨_, rfl⟩ := range_get hx
      exact this
    · show AV.ltL nx _
      rw [ltL_iff] at hl ⊢
      exact fun a ha => hl a (List.mem_of_mem_take ha)
    · have hcl := run_loadCells_list (P := P) w' ⟨b, o, none⟩ ((List.range (tySize P t)).map f) (fun j v hv => by
        obtain ⟨hj, rfl⟩ := range_get hv
        rw [Addr.add_lit]
        have hx : j < (cs.take (tySize P t)).length := by omega
        exact hb _ _ (hf j _ (List.getElem?_eq_getElem hx)).1)
      rw [List.length_map, List.length_range] at hcl
      simp [Instr.loadAt, Instr.sureAddr, loadVar, Sem.run_bind, tyAgg_true ha, run_sizeOf' h0, hcl]
  | false =>
    rw [if_neg (by simp [ha])] at h2
    obtain ⟨av, cs', rfl⟩ : ∃ av cs', cs = av :: cs' := by
      cases cs with
      | nil => simp at h1; omega
      | cons a l => exact ⟨a, l, rfl⟩
    obtain ⟨u, hcell, hr⟩ := hc 0 av rfl
    refine ⟨u, av, h2, hr, hl.1, b, rfl, fun w' hb => ?_⟩
    have := hb _ _ hcell
    rw [Nat.add_zero] at this
    simp [Instr.loadAt, Instr.sureAddr, loadVar, Sem.run_bind, tyAgg_false hu ha, run_load, this]
theorem ltL_drop {cs : List AV} (h : AV.ltL nx cs) (n : Nat) : AV.ltL nx (cs.drop n) := by
  rw [ltL_iff] at h ⊢
  exact fun a ha => h a (List.mem_of_mem_drop ha)
theorem kx_of {id : Nat} {o : AObj} (h : tab.get id = some o) : Kx tab L id = some (o.sz, L id) := by simp [Kx, h]
theorem below_take {t : TypeId} {b o : Nat} {cs : List AV} {S : Nat → Prop} (hc : ∀ j av, cs[j]? = some av → ∃ u, w.cell? ⟨b, o + j, none⟩ = some u ∧ RT w (Sx cx w tab L) u av) (h : aTake P t cs K) :
    YieldsL P cx w tab L nx K (.pointer (some ⟨b, o, none⟩)) (Instr.loadAt t (.pointer (some ⟨b, o, none⟩))) :=
  take_ok (fun j av hj => by obtain ⟨u, h1, h2⟩ := hc j av hj; exact ⟨u, h1, .tree h2⟩) (ltL_iff.2 fun a ha => by
    obtain ⟨j, hj⟩ := List.getElem?_of_mem ha
    obtain ⟨u, _, h2⟩ := hc j a hj
    exact h2.lt nx) h
theorem row_cells {e : TypeId} {sz : Nat} {v : Value} {rows : List (List AV)} {g : Nat} (h : ObjAt cx w tab L v (.row e sz rows)) (hg : vblk v = some g) {i : Nat} (hi : i < rows.length) (j : Nat) (av : AV) (hj : (rows[i]?.getD [])[j]? = some av) :
    ∃ u, w.cell? ⟨g, i * sz + j, none⟩ = some u ∧ RT w (Sx cx w tab L) u av := by
  obtain ⟨hsz, xs, hown, _, hx⟩ := h
  rw [List.getElem?_eq_getElem hi, Option.getD_some] at hj
  obtain ⟨x, h1, h2⟩ := hx i j _ av (List.getElem?_eq_getElem hi) hj
  refine ⟨x, ?_, h2⟩
  rcases hown.2 with ⟨rfl, h0⟩ | ⟨g', cap, cur, rfl, _⟩
  · omega
  · have hc := hown.cells (g := g') rfl _ x h1
    simp [vblk] at hg
    subst hg
    rwa [addAddr0] at hc
theorem nest_cells {e : TypeId} {sz : Nat} {v : Value} {rows : List (List AV)} {g : Nat} (h : ObjAt cx w tab L v (.nest e sz rows)) (hg : vblk v = some g) {i : Nat} (hi : i < rows.length) (j : Nat) (av : AV) (hj : (rows[i]?.getD [])[j]? = some av) :
    ∃ u, w.cell? ⟨g, i * sz + j, none⟩ = some u ∧ RVx cx w tab L u av := by
  obtain ⟨hsz, xs, hown, _, hx⟩ := h
  rw [List.getElem?_eq_getElem hi, Option.getD_some] at hj
  obtain ⟨x, h1, h2⟩ := hx i j _ av (List.getElem?_eq_getElem hi) hj
  refine ⟨x, ?_, h2⟩
  rcases hown.2 with ⟨rfl, h0⟩ | ⟨g', cap, cur, rfl, _⟩
  · omega
  · have hc := hown.cells (g := g') rfl _ x h1
    simp [vblk] at hg
    subst hg
    rwa [addAddr0] at hc
theorem box_cells {t : TypeId} {v : Value} {cells : List AV} {g : Nat} (h : ObjAt cx w tab L v (.box t cells)) (hg : vblk v = some g) (j : Nat) (av : AV) (hj : cells[j]? = some av) :
    ∃ u, w.cell? ⟨g, j, none⟩ = some u ∧ RVx cx w tab L u av := by
  obtain ⟨g', cs, rfl, _, hheap, hn, hx⟩ := h
  simp [vblk] at hg
  subst hg
  have hlt : j < cs.size := by rw [hn]; exact (List.getElem?_eq_some_iff.1 hj).1
  exact ⟨cs[j], by rw [cell_of_row w g' j cs t (0, 0) hheap]; exact Array.getElem?_eq_getElem hlt, (hx j _ av (Array.getElem?_eq_getElem hlt) hj).1⟩
theorem load_ok {t : TypeId} {v : Value} {x : AV} (hL : Lay cx w tab L) (hy : ∀ id o, tab.get id = some o → o.lt nx) (hv : RVx cx w tab L v x) (h : aLoad P t tab x K) : YieldsL P cx w tab L nx K v (Instr.loadAt t v) := by
  unfold aLoad at h
  split at h
  · rename_i cs
    obtain ⟨b, o, U, rfl, hb, hcell, hr⟩ := hv.rp_inv
    exact below_take (S := fun _ => True) (fun j av hj => ⟨U j, hcell j av hj, hr j av hj⟩) h
  · rename_i id i j
    split at h
    · rename_i ty cells hid
      obtain ⟨rfl, h⟩ := h
      obtain ⟨g, hg, rfl⟩ := hv.op_inv _ _ (kx_of hid)
      have ho := hL.objs id _ hid
      simp only [AObj.sz, Nat.zero_mul, Nat.zero_add]
      refine take_ok (fun k av hk => ?_) (ltL_drop (hy id _ hid) j) h
      rw [List.getElem?_drop] at hk
      exact box_cells ho hg (j + k) av hk
    · rename_i e sz rows hid
      obtain ⟨hi, h⟩ := h
      obtain ⟨g, hg, rfl⟩ := hv.op_inv _ _ (kx_of hid)
      have ho := hL.objs id _ hid
      refine below_take (S := fun _ => True) (fun k av hk => ?_) h
      rw [List.getElem?_drop] at hk
      have := row_cells ho hg hi (j + k) av hk
      rwa [← Nat.add_assoc] at this
    · rename_i e sz rows hid
      obtain ⟨hi, h⟩ := h
      obtain ⟨g, hg, rfl⟩ := hv.op_inv _ _ (kx_of hid)
      have ho := hL.objs id _ hid
      refine take_ok (fun k av hk => ?_) (ltL_drop (hy id _ hid _ (by rw [List.getElem?_eq_getElem hi, Option.getD_some]; exact List.getElem_mem hi)) j) h
      rw [List.getElem?_drop] at hk
      have := nest_cells ho hg hi (j + k) av hk
      rwa [← Nat.add_assoc] at this
    · exact h.elim
  · exact h.elim
theorem fOff_some {s : TypeId} {f d : Nat} (h : fOff P s f = some d) : ∃ fields fd, P.underlying s = some (.struct fields) ∧ fields[f]? = some fd ∧ 0 < tySize P fd.type ∧ fd.offset = d := by
  unfold fOff at h
  split at h
  · rename_i fields hu
    split at h
    · rename_i fd hf
      split at h
      · cases h
      · rename_i h0
        cases h
        exact ⟨fields, fd, hu, hf, by omega, rfl⟩
    · cases h
  · cases h
theorem run_fieldAt {s : TypeId} {f d : Nat} (h : fOff P s f = some d) (b o : Nat) (w : World) : (Instr.fieldAt s (.pointer (some ⟨b, o, none⟩)) f).run P w = .ok (.pointer (some ⟨b, o + d, none⟩)) w := by
  obtain ⟨fields, fd, hu, hf, h0, rfl⟩ := fOff_some h
  simp [Instr.fieldAt, Sem.run_bind, run_underlying hu, hf, Instr.sureAddr, fieldPlace, run_sizeOf' h0, Nat.ne_of_gt h0, Addr.add_lit]
theorem field_ok {s : TypeId} {v : Value} {x : AV} {f : Nat} (hl : x.lt nx) (hv : RVx cx w tab L v x) (h : aField P s tab x f K) : Yields0 P cx w tab L nx K (Instr.fieldAt s v f) := by
  unfold aField at h
  split at h
  · rename_i d hd
    split at h
    · rename_i cs
      obtain ⟨b, o, U, rfl, hb, hcell, hr⟩ := hv.rp_inv
      refine ⟨_, _, h, .tree (.rp b (o + d) (cs.drop d) (fun j => U (d + j)) hb (fun j av hj => ?_) (fun j av hj => ?_)), trivial, fun w' => run_fieldAt hd b o w'⟩
      · rw [List.getElem?_drop] at hj
        rw [Nat.add_assoc]
        exact hcell _ av hj
      · rw [List.getElem?_drop] at hj
        exact hr _ av hj
    · rename_i id i j
      split at h
      · rename_i ob hid
        obtain ⟨g, hg, rfl⟩ := hv.op_inv _ _ (kx_of hid)
        refine ⟨_, _, h, .op _ id i (j + d) (fun sz' u' hk' => ?_), hl, fun w' => run_fieldAt hd _ _ w'⟩
        rw [kx_of hid] at hk'
        cases hk'
        exact ⟨g, hg, by rw [Nat.add_assoc]⟩
      · exact h.elim
    · exact h.elim
  · exact h.elim
theorem fieldV_ok {s : TypeId} {v : Value} {x : AV} {f : Nat} (hl : x.lt nx) (hv : RVx cx w tab L v x) (h : aFieldV P s x f K) : Yields0 P cx w tab L nx K (Instr.field s v f) := by
  unfold aFieldV at h
  split at h
  · rename_i d hd
    obtain ⟨fields, fd, hu, hf, h0, rfl⟩ := fOff_some hd
    have ht : fTyp P s f = fd.type := by simp [fTyp, hu, hf]
    rw [ht] at h
    obtain ⟨dd, i, hdu, hi, he⟩ := tySize_pos h0
    split at h
    · rename_i cs
      obtain ⟨xs, rfl, hn, hr⟩ := hv.agg_inv
      obtain ⟨hsz, h⟩ := h
      cases ha : tyAgg P fd.type with
      | true =>
        rw [if_pos ha] at h
        refine ⟨.agg (xs.extract fd.offset (fd.offset + tySize P fd.type)), _, h, .agg _ _ (by simp; omega) (fun j y av h1 h2 => ?_), ?_, fun w' => ?_⟩
        · rw [List.getElem?_take] at h2
          split at h2
          · rename_i hj
            rw [List.getElem?_drop] at h2
            rw [Array.getElem?_extract] at h1
            split at h1
            · exact hr _ y av h1 h2
            · cases h1
          · cases h2
        · exact ltL_iff.2 fun y hy => ltL_iff.1 hl y (List.mem_of_mem_drop (List.mem_of_mem_take hy))
        · simp [Instr.field, Sem.run_bind, run_underlying hu, hf, asAgg, part, tyAgg_true ha, run_sizeOf' h0]
      | false =>
        rw [if_neg (by simp [ha])] at h
        have hlt : fd.offset < cs.length := by omega
        have hlt' : fd.offset < xs.size := by omega
        rw [List.drop_eq_getElem_cons hlt, List.headD_cons] at h
        exact ⟨xs[fd.offset], _, h, hr _ _ _ (Array.getElem?_eq_getElem hlt') (List.getElem?_eq_getElem hlt), ltL_iff.1 hl _ (List.getElem_mem hlt), fun w' => by
          simp [Instr.field, Sem.run_bind, run_underlying hu, hf, asAgg, part, tyAgg_false hdu ha, Array.getElem?_eq_getElem hlt']⟩
    · exact h.elim
  · exact h.elim
theorem tyElem_pos {t : TypeId} (h : 0 < (tyElem P t).2) : P.underlying t = some (.slice (tyElem P t).1) ∧ tySize P (tyElem P t).1 = (tyElem P t).2 := by
  unfold tyElem at *
  split at h
  · rename_i e he
    exact ⟨he, rfl⟩
  · simp at h
theorem run_indexAt' {t : TypeId} (h : 0 < (tyElem P t).2) (b o n cap : Nat) (k : IntKind) (i : Int) (h0 : 0 ≤ i) (h1 : i < n) (w : World) : (Instr.indexAt t (.slice (some ⟨b, o, none⟩) n cap) (.int k i)).run P w = .ok (.pointer (some ⟨b, o + i.toNat * (tyElem P t).2, none⟩)) w := by
  obtain ⟨hu, he⟩ := tyElem_pos h
  have hs := run_sizeOf' (P := P) (t := (tyElem P t).1) (by omega) w
  rw [he] at hs
  simp [Instr.indexAt, Sem.run_bind, run_underlying hu, asIntOf, h0, h1, hs, Addr.add_lit]
theorem osl_row {id : Nat} {v : Value} {e : TypeId} {sz : Nat} {rows : List (List AV)} (hL : Lay cx w tab L) (hid : tab.get id = some (.row e sz rows)) (hv : RVx cx w tab L v (.osl id)) : v = L id ∧ ∃ A cap, v = .slice A rows.length cap ∧ (0 < rows.length → ∃ g, A = some ⟨g, 0, none⟩) := by
  have e1 := hv.osl_inv _ _ (kx_of hid)
  refine ⟨e1, ?_⟩
  obtain ⟨_, xs, hown, _⟩ := hL.objs id _ hid
  rw [e1]
  rcases hown.2 with ⟨h1, h0⟩ | ⟨g, cap, cur, h1, _⟩
  · rw [h1, h0]
    exact ⟨none, 0, rfl, fun h => by omega⟩
  · rw [h1]
    exact ⟨_, cap, rfl, fun _ => ⟨g, rfl⟩⟩
theorem osl_nest {id : Nat} {v : Value} {e : TypeId} {sz : Nat} {rows : List (List AV)} (hL : Lay cx w tab L) (hid : tab.get id = some (.nest e sz rows)) (hv : RVx cx w tab L v (.osl id)) : v = L id ∧ ∃ A cap, v = .slice A rows.length cap ∧ (0 < rows.length → ∃ g, A = some ⟨g, 0, none⟩) := by
  have e1 := hv.osl_inv _ _ (kx_of hid)
  refine ⟨e1, ?_⟩
  obtain ⟨_, xs, hown, _⟩ := hL.objs id _ hid
  rw [e1]
  rcases hown.2 with ⟨h1, h0⟩ | ⟨g, cap, cur, h1, _⟩
  · rw [h1, h0]
    exact ⟨none, 0, rfl, fun h => by omega⟩
  · rw [h1]
    exact ⟨_, cap, rfl, fun _ => ⟨g, rfl⟩⟩
theorem tyArr_pos {t : TypeId} (h : 0 < (tyArr P t).2) : ∃ e, P.underlying t = some (.array (tyArr P t).1 e) ∧ tySize P e = (tyArr P t).2 := by
  unfold tyArr at *
  split at h
  · rename_i n e he
    exact ⟨e, he, rfl⟩
  · simp at h
theorem run_indexArr {t : TypeId} (h : 0 < (tyArr P t).2) (b o : Nat) (k : IntKind) (i : Int) (h0 : 0 ≤ i) (h1 : i < (tyArr P t).1) (w : World) : (Instr.indexAt t (.pointer (some ⟨b, o, none⟩)) (.int k i)).run P w = .ok (.pointer (some ⟨b, o + i.toNat * (tyArr P t).2, none⟩)) w := by
  obtain ⟨e, hu, he⟩ := tyArr_pos h
  have hs := run_sizeOf' (P := P) (t := e) (by omega) w
  rw [he] at hs
  simp [Instr.indexAt, Sem.run_bind, run_underlying hu, asIntOf, Instr.sureAddr, h0, h1, hs, Addr.add_lit]
theorem index_ok {t : TypeId} {v u : Value} {x ix : AV} (hL : Lay cx w tab L) (hl : x.lt nx) (hv : RVx cx w tab L v x) (hu : RVx cx w tab L u ix) (h : aIndex P t tab x ix K) : Yields0 P cx w tab L nx K (Instr.indexAt t v u) := by
  unfold aIndex at h
  split at h
  · rename_i k n
    obtain rfl := hu.c_inv
    split at h
    · rename_i id i j
      split at h
      · rename_i o hid
        obtain ⟨hpos, h0, h1, h⟩ := h
        obtain ⟨g, hg, rfl⟩ := hv.op_inv _ _ (kx_of hid)
        refine ⟨_, _, h, .op _ id i _ (fun sz' u' hk' => ?_), hl, fun w' => run_indexArr hpos g _ k n h0 h1 w'⟩
        rw [kx_of hid] at hk'
        cases hk'
        exact ⟨g, hg, by simp [Nat.add_assoc]⟩
      · exact h.elim
    · rename_i sz rows
      obtain ⟨hsz, hpos, h0, h1, h⟩ := h
      obtain ⟨A, cap, rfl, _, _, hrow, hA⟩ := hv.sl_inv.sl_inv
      obtain ⟨b, o, rfl, hb, U, hcell, hr, _⟩ := hA (by omega)
      have hn : n.toNat < rows.length := by omega
      rw [List.getElem?_eq_getElem hn, Option.getD_some] at h
      refine ⟨_, _, h, .tree (.rp b (o + n.toNat * (tyElem P t).2) _ (U n.toNat) hb (fun j av hj => ?_) (fun j av hj => ?_)), trivial, fun w' => run_indexAt' (by omega) b o _ cap k n h0 h1 w'⟩
      · rw [hsz]
        exact hcell n.toNat j _ av (List.getElem?_eq_getElem hn) hj
      · exact hr n.toNat j _ av (List.getElem?_eq_getElem hn) hj
    · rename_i id
      split at h
      · rename_i e sz rows hid
        obtain ⟨hsz, hpos, h0, h1, h⟩ := h
        obtain ⟨hvL, A, cap, rfl, hA⟩ := osl_row hL hid hv
        obtain ⟨g, rfl⟩ := hA (by omega)
        refine ⟨_, _, h, .op _ id n.toNat 0 (fun sz' u' hk' => ?_), hl, fun w' => run_indexAt' (by omega) g 0 _ cap k n h0 h1 w'⟩
        rw [kx_of hid] at hk'
        cases hk'
        exact ⟨g, by rw [← hvL]; rfl, by simp [AObj.sz, hsz]⟩
      · rename_i e sz rows hid
        obtain ⟨hsz, hpos, h0, h1, h⟩ := h
        obtain ⟨hvL, A, cap, rfl, hA⟩ := osl_nest hL hid hv
        obtain ⟨g, rfl⟩ := hA (by omega)
        refine ⟨_, _, h, .op _ id n.toNat 0 (fun sz' u' hk' => ?_), hl, fun w' => run_indexAt' (by omega) g 0 _ cap k n h0 h1 w'⟩
        rw [kx_of hid] at hk'
        cases hk'
        exact ⟨g, by rw [← hvL]; rfl, by simp [AObj.sz, hsz]⟩
      · exact h.elim
    · exact h.elim
  · exact h.elim
theorem run_len_slice {t : TypeId} (h : (tyElem P t).2 ≠ 0) (ty : TypeId) (A : Option Addr) (n cap : Nat) (w : World) : (Builtin.len_ #[t] ty #[.slice A n cap]).run P w = .ok (.int .i64 n) w := by
  obtain ⟨hu, he⟩ := tyElem_pos (Nat.pos_of_ne_zero h)
  simp [Builtin.len_, Sem.run_bind, run_underlying hu, goInt]
theorem len_ok {t ty : TypeId} {v : Value} {x : AV} (hL : Lay cx w tab L) (hv : RVx cx w tab L v x) (h : aLen P t tab x K) : Yields0 P cx w tab L nx K (Builtin.len_ #[t] ty #[v]) := by
  unfold aLen at h
  split at h
  · rename_i sz rows
    obtain ⟨h1, h⟩ := h
    obtain ⟨A, cap, rfl, _⟩ := hv.sl_inv.sl_inv
    exact ⟨_, _, h, .tree (.c _), trivial, fun w' => run_len_slice h1 ty A _ cap w'⟩
  · rename_i id
    split at h
    · rename_i e sz rows hid
      obtain ⟨h1, h⟩ := h
      obtain ⟨_, A, cap, rfl, _⟩ := osl_row hL hid hv
      exact ⟨_, _, h, .tree (.c _), trivial, fun w' => run_len_slice h1 ty A _ cap w'⟩
    · rename_i e sz rows hid
      obtain ⟨h1, h⟩ := h
      obtain ⟨_, A, cap, rfl, _⟩ := osl_nest hL hid hv
      exact ⟨_, _, h, .tree (.c _), trivial, fun w' => run_len_slice h1 ty A _ cap w'⟩
    · exact h.elim
  · obtain ⟨h1, h⟩ := h
    obtain rfl := hv.c_inv
    exact ⟨_, _, h, .tree (.c _), trivial, fun w' => run_len_slice h1 ty _ _ _ w'⟩
  · rename_i s
    obtain ⟨h1, h⟩ := h
    obtain rfl := hv.c_inv
    have hu : P.underlying t = some .string := by
      unfold tyK at h1
      split at h1 <;> first | assumption | cases h1
    exact ⟨_, _, h, .tree (.c _), trivial, fun w' => by simp [Builtin.len_, Sem.run_bind, run_underlying hu, goInt]⟩
  · exact h.elim
theorem run_nilS {op : BinOp} {t : TypeId} {A : Option Addr} {n c n' c' : Nat} (hk : tyK P t = .slice) (h : op = .eql ∨ op = .neq) (w : World) (x y : Operand) : (do eqGuard op t x y (.slice A n c) (.slice none n' c'); binOp op t (.slice A n c) (.slice none n' c') : Sem Value).run P w = .ok (.bool (if op = .eql then A.isNone else !A.isNone)) w := by
  obtain ⟨e, hu⟩ : ∃ e, P.underlying t = some (.slice e) := by
    unfold tyK at hk
    split at hk <;> first | (rename_i e he; exact ⟨e, he⟩) | cases hk
  have hg : (eqGuard op t x y (.slice A n c) (.slice none n' c')).run P w = .ok () w := by
    rcases h with rfl | rfl <;> simp [eqGuard]
  have he0 : ∀ d, (Op.equalIn (d + 1) t (.slice A n c) (.slice none n' c')).run P w = .ok A.isNone w := fun d => by
    cases A <;> simp [Op.equalIn, run_underlying hu]
  have he := he0 9999
  rw [Sem.run_bind, hg]
  simp only [Result.andThen_ok]
  rcases h with rfl | rfl <;> simp only [binOp, Op.equal, Op.maxDepth, Sem.run_bind, he, Result.andThen_ok] <;> simp
theorem bin2_run {op : BinOp} {t : TypeId} {a b v : Value} {x y : Operand} (h : bin2 op (tyK P t) a b = some v) (w : World) : (do eqGuard op t x y a b; binOp op t a b : Sem Value).run P w = .ok v w := by
  have hg : (eqGuard op t x y a b).run P w = .ok () w := by
    unfold bin2 at h
    split at h <;> first | (cases h; done) | (cases op <;> simp [eqGuard])
  rw [Sem.run_bind, hg]
  simp only [Result.andThen_ok]
  unfold bin2 at h
  split at h
  · rename_i i p j q
    split at h
    · rename_i hij
      subst hij
      cases op <;> simp at h <;> first
        | (obtain ⟨h0, rfl⟩ := h; simp [binOp, Op.intDiv, h0]; done)
        | (obtain ⟨h0, rfl⟩ := h; simp [binOp, Op.shift, Int.not_lt.2 h0]; done)
        | (subst h; simp [binOp, intBits_and, intBits_or, intBits_xor, intBits_andNot]; done)
        | (subst h; simp [binOp, Op.intArith, Op.intCmp]; done)
    · cases h
  · rename_i p q
    split at h
    · rename_i hk
      have hu : P.underlying t = some .bool := by
        unfold tyK at hk
        split at hk <;> first | assumption | cases hk
      cases h
      simp [binOp, Op.equal, Op.maxDepth, run_equalIn_bool' w 9999 t p q hu]
    · rename_i hk
      have hu : P.underlying t = some .bool := by
        unfold tyK at hk
        split at hk <;> first | assumption | cases hk
      cases h
      simp [binOp, Op.equal, Op.maxDepth, run_equalIn_bool' w 9999 t p q hu]
    · cases h
  · rename_i p q
    cases op <;> simp at h
    case add =>
      obtain ⟨h1, rfl⟩ := h
      have h2 : ¬ (((p.size + q.size : Nat) : Int) > IntKind.i64.max) := by
        have : IntKind.i64.max = 9223372036854775807 := by decide
        omega
      have h3 : IntKind.i64.max = 9223372036854775807 := by decide
      simp [binOp, Op.stringOp, h3]
      omega
    all_goals
      subst h
      simp [binOp, Op.stringOp, beq_toListBytes]
  · rename_i n1 c1 n2 c2
    split at h
    · rename_i hk
      have := run_nilS (A := none) (n := n1) (c := c1) (n' := n2) (c' := c2) hk (.inl rfl) w x y
      rw [Sem.run_bind, hg] at this
      cases h
      simpa using this
    · rename_i hk
      have := run_nilS (A := none) (n := n1) (c := c1) (n' := n2) (c' := c2) hk (.inr rfl) w x y
      rw [Sem.run_bind, hg] at this
      cases h
      simpa using this
    · cases h
  · cases h
theorem un1_run {op : UnOp} {a v : Value} (h : un1 op a = some v) (w : World) : (Op.unary op a).run P w = .ok v w := by
  unfold un1 at h
  split at h
  · cases op <;> simp at h
    subst h
    simp [Op.unary]
  · cases op <;> simp at h
    subst h
    simp [Op.unary, Op.intArith]
  · cases h
theorem allC_val : ∀ {cs : List AV} {vs : List Value} {xs : Array Value}, allC cs = some vs → xs.size = cs.length → (∀ (j : Nat) (x : Value) (av : AV), xs[j]? = some x → cs[j]? = some av → RVx cx w tab L x av) → xs = vs.toArray := by
  intro cs vs xs h hn hr
  have key : ∀ (cs : List AV) (vs : List Value), allC cs = some vs → ∀ (l : List Value), l.length = cs.length → (∀ (j : Nat) (x : Value) (av : AV), l[j]? = some x → cs[j]? = some av → RVx cx w tab L x av) → l = vs := by
    intro cs
    induction cs with
    | nil =>
      intro vs h l hl _
      cases h
      exact List.eq_nil_of_length_eq_zero hl
    | cons a cs ih =>
      intro vs h l hl hr
      cases l with
      | nil => simp at hl
      | cons x l =>
        cases a with
        | c v =>
          simp only [allC] at h
          split at h
          · rename_i vs' hv
            cases h
            have h0 := (hr 0 x (.c v) rfl rfl).c_inv
            rw [h0, ih vs' hv l (by simpa using hl) (fun j y av h1 h2 => hr (j + 1) y av (by simpa using h1) (by simpa using h2))]
          · cases h
        | _ => simp [allC] at h
  have := key cs vs h xs.toList (by simpa using hn) (fun j x av h1 h2 => hr j x av (by simpa using h1) h2)
  rw [← this]
/-- a part of a slice that is read -/
theorem rt_part {S : Nat → Prop} {v : Value} {sz l h' : Nat} {rows : List (List AV)} (hr : RT w S v (.sl sz rows)) (hlh : l ≤ h') (hh : h' ≤ rows.length) :
    ∃ A cap, v = .slice A rows.length cap ∧ rows.length ≤ cap ∧ ∀ s, s = sz → RT w S (sliced A l h' cap s) (.sl sz ((rows.take h').drop l)) := by
  obtain ⟨A, cap, rfl, hc, hm, hs, hA⟩ := hr.sl_inv
  refine ⟨A, cap, rfl, hc, fun s hs' => ?_⟩
  subst hs'
  have hlen : ((rows.take h').drop l).length = h' - l := by simp only [List.length_drop, List.length_take]; omega
  have hget : ∀ i row, ((rows.take h').drop l)[i]? = some row → rows[l + i]? = some row := fun i row hi => by
    rw [List.getElem?_drop, List.getElem?_take] at hi
    split at hi
    · exact hi
    · cases hi
  unfold sliced
  by_cases h0 : h' - l = 0
  · refine .sl _ _ _ _ _ 0 0 (fun _ _ => undef) (by omega) (by omega) (by omega) (fun h => by omega) (fun row hr' => hs row (List.mem_of_mem_take (List.mem_of_mem_drop hr'))) (fun h => by omega) (fun i j row av h1 h2 => ?_) (fun i j row av h1 h2 => ?_)
    all_goals
      have := (List.getElem?_eq_some_iff.1 h1).1
      omega
  · obtain ⟨b, o, rfl, hSb, U, h1, h2, h3⟩ := hA (by omega)
    rw [if_neg (by omega), Option.map_some, Addr.add_lit]
    refine .sl _ _ _ _ _ b (o + l * s) (fun i j => U (l + i) j) hlen.symm (by omega) (by omega) (fun _ => ⟨rfl, hSb⟩) (fun row hr' => hs row (List.mem_of_mem_take (List.mem_of_mem_drop hr'))) (fun _ i j row av h4 h5 => ?_) (fun i j row av h4 h5 => ?_) (fun i j row av h4 h5 => ?_)
    · have := h1 (l + i) j row av (hget i row h4) h5
      rwa [Nat.add_mul, ← Nat.add_assoc] at this
    · exact h3 (l + i) j row av (hget i row h4) h5
    · exact h2 (l + i) j row av (hget i row h4) h5
/-- a bound, or its default -/
def optAt (d n : Nat) (o : Option Value) : Prop := (o = none ∧ n = d) ∨ ∃ k, o = some (.int k n)
theorem run_bounds {isS : Bool} {w : World} {len cap l h' m : Nat} {lo hi mx : Option Value} (h1 : optAt 0 l lo) (h2 : optAt len h' hi) (h3 : (mx = none ∧ m = cap) ∨ (m = h' ∧ (∃ k, mx = some (.int k m)) ∧ hi ≠ none)) (hlh : l ≤ h') (hh : h' ≤ cap) : (Instr.sliceBounds isS len cap lo hi mx).run P w = .ok (l, h', m) w := by
  rcases h1 with ⟨rfl, rfl⟩ | ⟨k1, rfl⟩ <;> rcases h2 with ⟨rfl, rfl⟩ | ⟨k2, rfl⟩ <;> rcases h3 with ⟨rfl, rfl⟩ | ⟨rfl, ⟨k3, rfl⟩, h4⟩ <;>
    first
    | exact absurd rfl h4
    | (simp [Instr.sliceBounds, run_sliceBound, hlh, hh]; done)
    | (simp [Instr.sliceBounds, run_sliceBound, hlh, hh]; omega)
theorem bd_at {d n : Nat} {o : Option Operand} {ρ : Operand → Value} {ev : Operand → AV} {l : Int} (he : ∀ x, RVx cx w tab L (ρ x) (ev x)) (h : aBd (d : Int) (o.map ev) = some l) (h0 : 0 ≤ l) (hn : n = l.toNat) : optAt d n (o.map ρ) := by
  cases o with
  | none =>
    simp [aBd] at h
    exact .inl ⟨rfl, by omega⟩
  | some x =>
    simp only [Option.map_some] at h ⊢
    unfold aBd at h
    split at h
    · rename_i hx
      cases hx
    · rename_i k m hx
      injection hx with hx
      have := he x
      rw [hx] at this
      injection h with h
      subst h
      rw [this.c_inv]
      exact .inr ⟨k, by rw [hn, Int.toNat_of_nonneg h0]⟩
    · cases h
theorem slice_ok {t : TypeId} {v : Value} {x : AV} {lo hi mx : Option Operand} {ρ : Operand → Value} {ev : Operand → AV} (he : ∀ x, RVx cx w tab L (ρ x) (ev x)) (hv : RVx cx w tab L v x) (h : aSlice P t x (lo.map ev) (hi.map ev) (mx.map ev) K) :
    Yields0 P cx w tab L nx K (Instr.sliceAt t v (lo.map ρ) (hi.map ρ) (mx.map ρ)) := by
  unfold aSlice at h
  split at h
  · rename_i sz rows
    unfold aSliceR at h
    split at h
    · rename_i l h' hl hh hmx
      obtain ⟨⟨h1, h2⟩, ⟨h3, h4, h5⟩, h6⟩ := h
      obtain ⟨hu, hsz⟩ := tyElem_pos (P := P) (t := t) (by omega)
      obtain ⟨A, cap, rfl, hc, hp⟩ := rt_part (l := l.toNat) (h' := h'.toNat) hv.sl_inv (by omega) (by omega)
      have hmx' : mx = none := by cases mx <;> first | rfl | cases hmx
      subst hmx'
      refine ⟨_, _, h6, .tree (hp sz rfl), trivial, fun w' => ?_⟩
      have hb := run_bounds (P := P) (w := w') (isS := true) (cap := cap) (m := cap) (mx := none) (bd_at (d := 0) he hl h3 rfl) (bd_at he hh (by omega) rfl) (.inl ⟨rfl, rfl⟩) (by omega) (by omega)
      have hs := run_sizeOf' (P := P) (t := (tyElem P t).1) (by omega) w'
      rw [hsz, h1] at hs
      simp [Instr.sliceAt, Instr.slice, Sem.run_bind, run_underlying hu, hb, hs, sliced]
    · exact h.elim
  · rename_i s
    unfold aSliceS at h
    split at h
    · rename_i l h' hl hh hmx
      obtain ⟨h1, ⟨h3, h4, h5⟩, h6⟩ := h
      obtain rfl := hv.c_inv
      have hu : P.underlying t = some .string := by
        unfold tyK at h1
        split at h1 <;> first | assumption | cases h1
      have hmx' : mx = none := by cases mx <;> first | rfl | cases hmx
      subst hmx'
      refine ⟨_, _, h6, .tree (.c _), trivial, fun w' => ?_⟩
      have hb := run_bounds (P := P) (w := w') (isS := false) (cap := s.size) (m := s.size) (mx := none) (bd_at (d := 0) he hl h3 rfl) (bd_at he hh (by omega) rfl) (.inl ⟨rfl, rfl⟩) (by omega) (by omega)
      simp [Instr.sliceAt, Instr.slice, Sem.run_bind, run_underlying hu, hb]
    · exact h.elim
  · exact h.elim
theorem mm_args {f : Int → Int → Int} {args : Array Operand} {ev : Operand → AV} {K : AV → Prop} (h : aMM f (args.toList.map ev) K) : ∃ x y k a k' b, args = #[x, y] ∧ ev x = .c (.int k a) ∧ ev y = .c (.int k' b) ∧ K (.c (.int k (f a b))) := by
  obtain ⟨l⟩ := args
  unfold aMM at h
  split at h
  · rename_i k a k' b hl
    cases l with
    | nil => simp at hl
    | cons x l =>
      cases l with
      | nil => simp at hl
      | cons y l =>
        cases l with
        | nil =>
          simp at hl
          exact ⟨x, y, k, a, k', b, rfl, hl.1, hl.2, h⟩
        | cons z l => simp at hl
  · exact h.elim
def isLoad : Op → Bool
  | .load _ _ => true
  | _ => false
theorem pure_ok {o : Oper} {ρ : Operand → Value} {ev : Operand → AV} (hL : Lay cx w tab L) (hy : ∀ id o, tab.get id = some o → o.lt nx) (he : ∀ x, RVx cx w tab L (ρ x) (ev x) ∧ (ev x).lt nx) (h : aPure P tab ev o.op K) :
    ∃ v av, K av ∧ RVx cx w tab L v av ∧ av.lt nx ∧ (∀ w', Below w.heap.size w w' → (execOp ρ o).run P w' = .ok (.value v) w') ∧ (isLoad o.op = false → ∀ w', (execOp ρ o).run P w' = .ok (.value v) w') ∧ (∀ t x, o.op = .load t x → ∃ b, vblk (ρ x) = some b ∧ ∀ w', SameB b w w' → (execOp ρ o).run P w' = .ok (.value v) w') := by
  have mk : isLoad o.op = false → ∀ v av, K av → RVx cx w tab L v av → av.lt nx → (∀ w', (execOp ρ o).run P w' = .ok (.value v) w') → ∃ v av, K av ∧ RVx cx w tab L v av ∧ av.lt nx ∧ (∀ w', Below w.heap.size w w' → (execOp ρ o).run P w' = .ok (.value v) w') ∧ (isLoad o.op = false → ∀ w', (execOp ρ o).run P w' = .ok (.value v) w') ∧ (∀ t x, o.op = .load t x → ∃ b, vblk (ρ x) = some b ∧ ∀ w', SameB b w w' → (execOp ρ o).run P w' = .ok (.value v) w') :=
    fun hl v av h1 h2 h3 h4 => ⟨v, av, h1, h2, h3, fun w' _ => h4 w', fun _ w' => h4 w', fun t x he => by rw [he] at hl; cases hl⟩
  have lift0 : isLoad o.op = false → ∀ s : Sem Value, Yields0 P cx w tab L nx K s → (∀ w', (execOp ρ o).run P w' = (s.run P w').andThen fun v w'' => .ok (.value v) w'') → ∃ v av, K av ∧ RVx cx w tab L v av ∧ av.lt nx ∧ (∀ w', Below w.heap.size w w' → (execOp ρ o).run P w' = .ok (.value v) w') ∧ (isLoad o.op = false → ∀ w', (execOp ρ o).run P w' = .ok (.value v) w') ∧ (∀ t x, o.op = .load t x → ∃ b, vblk (ρ x) = some b ∧ ∀ w', SameB b w w' → (execOp ρ o).run P w' = .ok (.value v) w') := by
    rintro hl s ⟨v, av, h1, h2, h3, h4⟩ hs
    exact mk hl v av h1 h2 h3 fun w' => (by rw [hs, h4 w']; rfl)
  obtain ⟨dst, op, ty, pos, aft, gd⟩ := o
  simp only at h
  unfold aPure at h
  split at h
  · rename_i x
    exact mk rfl _ _ h (he x).1 (he x).2 fun w' => by simp [execOp]
  · rename_i x
    exact mk rfl _ _ h (he x).1 (he x).2 fun w' => by simp [execOp]
  · rename_i c a b
    have hc := (he c).1
    unfold aPick at h
    split at h
    · rename_i t hcv
      rw [hcv] at hc
      have hc := hc.c_inv
      cases t
      · exact mk rfl _ _ h (he b).1 (he b).2 fun w' => by simp [execOp, hc, asBool]
      · exact mk rfl _ _ h (he a).1 (he a).2 fun w' => by simp [execOp, hc, asBool]
    · exact h.elim
  · rename_i t x
    obtain ⟨u, av, h1, h2, h3, b, hb, h4⟩ := load_ok hL hy (he x).1 h
    have h5 : ∀ w', SameB b w w' → (execOp ρ { dst := dst, op := .load t x, type := ty, pos := pos, after := aft, guard := gd }).run P w' = .ok (.value u) w' := fun w' hw' => by simp [execOp, h4 w' hw']
    refine ⟨u, av, h1, h2, h3, fun w' hw' => h5 w' fun o v hv => (hw'.cell (World.block_lt_of_cell? w _ hv)).trans hv, fun h0 => (by cases h0), fun t' x' he' => ?_⟩
    cases he'
    exact ⟨b, hb, h5⟩
  · rename_i s x f
    exact lift0 rfl _ (field_ok (he x).2 (he x).1 h) fun w' => by simp [execOp]
  · rename_i t x ix
    exact lift0 rfl _ (index_ok hL (he x).2 (he x).1 (he ix).1 h) fun w' => by simp [execOp]
  · rename_i s x f
    exact lift0 rfl _ (fieldV_ok (he x).2 (he x).1 h) fun w' => by simp [execOp]
  · rename_i op t x y _
    have hx := (he x).1
    have hy := (he y).1
    unfold aBin at h
    split at h
    · rename_i a b ha hb
      rw [ha] at hx
      rw [hb] at hy
      have hx := hx.c_inv
      have hy := hy.c_inv
      split at h
      · rename_i v hv
        refine lift0 rfl _ ⟨v, _, h, .tree (.c v), trivial, fun w' => bin2_run (x := x) (y := y) hv w'⟩ fun w' => ?_
        simp [execOp, Sem.run_bind, hx, hy]
        cases (Sem.run P (eqGuard op t x y a b) w') <;> rfl
      · exact h.elim
    · rename_i xs ys ha hb
      rw [ha] at hx
      rw [hb] at hy
      obtain ⟨as1, hx, hnx, hrx⟩ := hx.agg_inv
      obtain ⟨bs1, hy, hny, hry⟩ := hy.agg_inv
      unfold aBinS at h
      split at h
      · rename_i vs us hvs hus
        obtain rfl := allC_val hvs hnx hrx
        obtain rfl := allC_val hus hny hry
        obtain ⟨r, hr, h⟩ := h
        refine lift0 rfl _ ⟨r, _, h, .tree (.c r), trivial, fun w' => hr w' x y⟩ fun w' => ?_
        simp [execOp, Sem.run_bind, hx, hy]
        cases (Sem.run P (eqGuard op t x y (.agg vs.toArray) (.agg us.toArray)) w') <;> rfl
      · exact h.elim
    · rename_i sz rows b ha hb
      rw [ha] at hx
      rw [hb] at hy
      have hy := hy.c_inv
      obtain ⟨A, cap, hA, hc1, hc2, hc3, hc4⟩ := hx.sl_inv.sl_inv
      have hnil : A.isNone = true → rows = [] := fun h1 => by
        rcases Nat.eq_zero_or_pos rows.length with h2 | h2
        · exact List.length_eq_zero_iff.1 h2
        · obtain ⟨b', o', h3, _⟩ := hc4 h2
          rw [h3] at h1
          cases h1
      unfold aNilS at h
      split at h
      · have hk : tyK P t = .slice := by assumption
        have h := h A.isNone hnil
        refine lift0 rfl _ ⟨_, _, h, .tree (.c _), trivial, fun w' => run_nilS (x := x) (y := y) (A := A) (n := rows.length) (c := cap) (n' := 0) (c' := 0) hk (.inl rfl) w'⟩ fun w' => ?_
        simp [execOp, Sem.run_bind, hA, hy]
        cases (Sem.run P (eqGuard _ t x y (.slice A rows.length cap) (.slice none 0 0)) w') <;> rfl
      · have hk : tyK P t = .slice := by assumption
        have h := h (!A.isNone) (fun h1 => hnil (by simpa using h1))
        refine lift0 rfl _ ⟨_, _, h, .tree (.c _), trivial, fun w' => run_nilS (x := x) (y := y) (A := A) (n := rows.length) (c := cap) (n' := 0) (c' := 0) hk (.inr rfl) w'⟩ fun w' => ?_
        simp [execOp, Sem.run_bind, hA, hy]
        cases (Sem.run P (eqGuard _ t x y (.slice A rows.length cap) (.slice none 0 0)) w') <;> rfl
      · exact h.elim
    · exact h.elim
  · rename_i op t x
    have hx := (he x).1
    unfold aUn at h
    split at h
    · rename_i a ha
      rw [ha] at hx
      have hx := hx.c_inv
      split at h
      · rename_i v hv
        exact lift0 rfl _ ⟨v, _, h, .tree (.c v), trivial, fun w' => un1_run hv w'⟩ fun w' => by simp [execOp, hx]
      · exact h.elim
    · exact h.elim
  · rename_i x i
    have hx := (he x).1
    have hl := (he x).2
    unfold aExtract at h
    split at h
    · rename_i vs hvs
      rw [hvs] at hx hl
      obtain ⟨xs, hxe, hn, hr⟩ := hx.tup_inv
      obtain ⟨hi, h⟩ := h
      rw [List.getElem?_eq_getElem hi, Option.getD_some] at h
      have hi' : i < xs.size := by omega
      exact mk rfl xs[i] _ h (hr i _ _ (Array.getElem?_eq_getElem hi') (List.getElem?_eq_getElem hi)) (ltL_iff.1 hl _ (List.getElem_mem hi)) fun w' => by simp [execOp, hxe, Instr.extract, Array.getElem?_eq_getElem hi']
    · exact h.elim
  · rename_i s d x
    have hx := (he x).1
    unfold aConv at h
    split at h
    · rename_i k0 k k1 n hs hd hxe
      rw [hxe] at hx
      have hx := hx.c_inv
      have e1 : P.underlying s = some (.int k0) := by
        unfold tyInt at hs
        split at hs <;> simp_all
      have e2 : P.underlying d = some (.int k) := by
        unfold tyInt at hd
        split at hd <;> simp_all
      refine lift0 rfl _ ⟨_, _, h, .tree (.c _), trivial, fun w' => ?_⟩ fun w' => by simp [execOp]; rfl
      rw [hx]
      simp [convert, Sem.run_bind, run_underlying e1, run_underlying e2, Conv.intToInt]
    · exact h.elim
  · rename_i c
    obtain ⟨callee, args, argTypes⟩ := c
    simp only at h
    split at h
    · split at h
      · rename_i x t h1 h2
        obtain rfl : args = #[x] := by cases args; simp_all
        obtain rfl : argTypes = #[t] := by cases argTypes; simp_all
        exact lift0 rfl _ (len_ok (ty := ty) hL (he x).1 h) fun w' => by simp [execOp, resolve, invoke, builtin]
      · exact h.elim
    · obtain ⟨x, y, k, a, k', b, rfl, h1, h2, h3⟩ := mm_args h
      have hx := (he x).1
      have hy := (he y).1
      rw [h1] at hx
      rw [h2] at hy
      have hx := hx.c_inv
      have hy := hy.c_inv
      refine lift0 rfl (pure (.int k (max a b))) ⟨_, _, h3, .tree (.c _), trivial, fun w' => rfl⟩ fun w' => ?_
      have hm : (if b > a then b else a) = max a b := by rw [Int.max_def]; split <;> split <;> omega
      simp [execOp, resolve, invoke, builtin, Builtin.max_, Builtin.max2, hx, hy, hm]
    · obtain ⟨x, y, k, a, k', b, rfl, h1, h2, h3⟩ := mm_args h
      have hx := (he x).1
      have hy := (he y).1
      rw [h1] at hx
      rw [h2] at hy
      have hx := hx.c_inv
      have hy := hy.c_inv
      refine lift0 rfl (pure (.int k (min a b))) ⟨_, _, h3, .tree (.c _), trivial, fun w' => rfl⟩ fun w' => ?_
      have hm : (if b < a then b else a) = min a b := by rw [Int.min_def]; split <;> split <;> omega
      simp [execOp, resolve, invoke, builtin, Builtin.min_, Builtin.min2, hx, hy, hm]
    · exact h.elim
  · rename_i f first caps
    rcases h with h | h
    rotate_left
    · unfold aCloB at h
      split at h
      · rename_i g hb
        obtain rfl : caps = #[] := by
          rw [Bool.and_eq_true] at hb
          simpa using hb.1
        refine mk rfl (.func (.func g) (first.map ρ) #[]) _ h (.bfn g _ _ (by simp) fun j x av h1 h2 => ?_) (ltL_iff.2 fun a ha => ?_) fun w' => by simp [execOp, Instr.makeFunc]
        · rw [List.getElem?_map] at h2
          rw [Array.getElem?_map] at h1
          cases hj : first[j]? with
          | none => simp [hj] at h1
          | some x =>
            rw [Array.getElem?_toList] at h2
            simp [hj] at h1 h2
            subst h1
            subst h2
            exact (he x).1
        · obtain ⟨x, _, rfl⟩ := List.mem_map.1 ha
          exact (he x).2
      · exact h.elim
    unfold aClo at h
    split at h
    · rename_i g hb
      obtain rfl : first = #[] := by simpa using hb
      refine mk rfl (.func (.func g) #[] (caps.map ρ)) _ h (.fn g _ _ (by simp) fun j x av h1 h2 => ?_) (ltL_iff.2 fun a ha => ?_) fun w' => by simp [execOp, Instr.makeFunc]
      · rw [List.getElem?_map] at h2
        rw [Array.getElem?_map] at h1
        cases hj : caps[j]? with
        | none => simp [hj] at h1
        | some x =>
          rw [Array.getElem?_toList] at h2
          simp [hj] at h1 h2
          subst h1
          subst h2
          exact (he x).1
      · obtain ⟨x, _, rfl⟩ := List.mem_map.1 ha
        exact (he x).2
    · exact h.elim
  · rename_i t x lo hi mx
    exact lift0 rfl _ (slice_ok (fun x => (he x).1) (he x).1 h) fun w' => by simp [execOp]
  · rename_i x
    have hx := he x
    unfold aNil at h
    split at h
    · rename_i cs hxe
      rw [hxe] at hx
      obtain ⟨b, o, U, hv, _⟩ := hx.1.rp_inv
      exact mk rfl (ρ x) _ h hx.1 hx.2 fun w' => by simp [execOp, hv]
    · rename_i id i j hxe
      rw [hxe] at hx
      split at h
      · rename_i ob hid
        obtain ⟨g, hg, hv⟩ := hx.1.op_inv _ _ (kx_of hid)
        exact mk rfl (ρ x) _ h hx.1 hx.2 fun w' => by simp [execOp, hv]
      · exact h.elim
    · exact h.elim
  · exact h.elim
end
end
section
open Go.RowKit

section
variable {P : Program} {cx : Cx} {w w' : World} {tab tab' : ATab} {L L' : Nat → Value} {nx : Nat}
/-- what is known stays known -/
structure Ext (cx : Cx) (w : World) (tab : ATab) (L : Nat → Value) (nx : Nat) (w' : World) (tab' : ATab) (L' : Nat → Value) : Prop where
  blk : ∀ b, Sx cx w tab L b → w'.heap[b]? = w.heap[b]?
  sub : ∀ b, Sx cx w tab L b → Sx cx w' tab' L' b
  loc : ∀ id p, id < nx → Kx tab' L' id = some p → Kx tab L id = some p
theorem Ext.cell (h : Ext cx w tab L nx w' tab' L') : ∀ p : Addr, Sx cx w tab L p.block → w'.cell? p = w.cell? p := fun p hp => World.cell?_of_block (h.blk p.block hp)
theorem Ext.rv (h : Ext cx w tab L nx w' tab' L') {x : Value} {av : AV} (hr : RVx cx w tab L x av) (hl : av.lt nx) : RVx cx w' tab' L' x av := hr.mono hl h.cell h.sub h.loc
theorem Ext.rt (h : Ext cx w tab L nx w' tab' L') {x : Value} {av : AV} (hr : RT w (Sx cx w tab L) x av) : RT w' (Sx cx w' tab' L') x av := hr.mono h.cell h.sub
theorem Ext.obj (h : Ext cx w tab L nx w' tab' L') {v : Value} {o : AObj} (hr : ObjAt cx w tab L v o) (hl : o.lt nx) (hg : ∀ g, vblk v = some g → w'.heap[g]? = w.heap[g]?) : ObjAt cx w' tab' L' v o := by
  cases o with
  | box t cells =>
    obtain ⟨g, cs, rfl, hb, hh, hn, hx⟩ := hr
    exact ⟨g, cs, rfl, hb, (hg g rfl).trans hh, hn, fun j x av h1 h2 => ⟨h.rv (hx j x av h1 h2).1 (ltL_iff.1 hl _ (List.mem_of_getElem? h2)), (hx j x av h1 h2).2⟩⟩
  | row e sz rows =>
    obtain ⟨h1, xs, hown, h2, h3⟩ := hr
    refine ⟨h1, xs, ⟨hown.1, ?_⟩, h2, fun i j row av ha hb => ?_⟩
    · rcases hown.2 with hn | ⟨g, cap, cur, rfl, hb, hh, rest⟩
      · exact .inl hn
      · exact .inr ⟨g, cap, cur, rfl, hb, (hg g rfl).trans hh, rest⟩
    · obtain ⟨x, hx, hr⟩ := h3 i j row av ha hb
      exact ⟨x, hx, h.rt hr⟩
  | nest e sz rows =>
    obtain ⟨h1, xs, hown, h2, h3⟩ := hr
    refine ⟨h1, xs, ⟨hown.1, ?_⟩, h2, fun i j row av ha hb => ?_⟩
    · rcases hown.2 with hn | ⟨g, cap, cur, rfl, hb, hh, rest⟩
      · exact .inl hn
      · exact .inr ⟨g, cap, cur, rfl, hb, (hg g rfl).trans hh, rest⟩
    · obtain ⟨x, hx, hr⟩ := h3 i j row av ha hb
      exact ⟨x, hx, h.rv hr (ltL_iff.1 (hl row (List.mem_of_getElem? ha)) _ (List.mem_of_getElem? hb))⟩
  | map ents =>
    obtain ⟨g, es, ck, rfl, hb, hh, he⟩ := hr
    exact ⟨g, es, ck, rfl, hb, (hg g rfl).trans hh, he⟩
  | ghost vs env => exact ⟨hr.1, fun t ht => h.rv (hr.2 t ht) (envLt_aget hl t)⟩
theorem ObjAt.ge {v : Value} {o : AObj} (h : ObjAt cx w tab L v o) {g : Nat} (hg : vblk v = some g) : cx.w0.heap.size ≤ g ∧ g < w.heap.size := by
  cases o with
  | box t cells =>
    obtain ⟨g', cs, rfl, hb, hh, _⟩ := h
    simp [vblk] at hg
    subst hg
    exact ⟨hb, (Array.getElem?_eq_some_iff.1 hh).1⟩
  | row e sz rows =>
    obtain ⟨_, xs, hown, _⟩ := h
    rcases hown.2 with ⟨rfl, _⟩ | ⟨g', cap, cur, rfl, hb, hh, _⟩
    · simp [vblk] at hg
    · simp [vblk] at hg
      subst hg
      exact ⟨hb, (Array.getElem?_eq_some_iff.1 hh).1⟩
  | nest e sz rows =>
    obtain ⟨_, xs, hown, _⟩ := h
    rcases hown.2 with ⟨rfl, _⟩ | ⟨g', cap, cur, rfl, hb, hh, _⟩
    · simp [vblk] at hg
    · simp [vblk] at hg
      subst hg
      exact ⟨hb, (Array.getElem?_eq_some_iff.1 hh).1⟩
  | map ents =>
    obtain ⟨b, es, ck, rfl, hb, hh, _⟩ := h
    simp [vblk] at hg
    subst hg
    exact ⟨hb, (Array.getElem?_eq_some_iff.1 hh).1⟩
  | ghost vs env =>
    obtain ⟨rfl, _⟩ := h
    simp [vblk] at hg
/-- new objects beside the old ones -/
theorem ext_merge (hb : Below w.heap.size w w') (hold : ∀ id, id < nx → tab'.get id = tab.get id ∧ L' id = L id) (hy : ∀ id o, tab.get id = some o → id < nx)
    (hnew : ∀ id o g, nx ≤ id → tab'.get id = some o → vblk (L' id) = some g → w.heap.size ≤ g) : Ext cx w tab L nx w' tab' L' where
  blk b hp := hb.block b hp.1
  sub b h := ⟨Nat.lt_of_lt_of_le h.1 hb.size, h.2.1, fun id o hid hg => by
    rcases Nat.lt_or_ge id nx with hlt | hge
    · rw [(hold id hlt).2] at hg
      rw [(hold id hlt).1] at hid
      exact h.2.2 id o hid hg
    · have := hnew id o b hge hid hg
      have := h.1
      omega⟩
  loc id p hlt h := by
    unfold Kx at *
    rw [(hold id hlt).1, (hold id hlt).2] at h
    exact h
theorem BelowX.grown {X : Nat → Prop} {n : Nat} {a b c : World} {row : Option Nat} (h : BelowX X n a b) (hg : b.grownBy c row) (hn : n ≤ b.heap.size) (hr : ∀ k, row = some k → n ≤ k) : BelowX X n a c := h.trans (belowX ((Below.refl n b).grown hg hn hr))
theorem ex_of (hL : Lay cx w tab L) (hs : w.heap.size ≤ w'.heap.size) (hy : ∀ id o g, tab'.get id = some o → vblk (L' id) = some g → g < w.heap.size → ∃ id2 o2, tab.get id2 = some o2 ∧ vblk (L id2) = some g) :
    ∀ b, cx.X b → b < w'.heap.size ∧ ∀ id o, tab'.get id = some o → vblk (L' id) ≠ some b := fun b hb =>
  ⟨Nat.lt_of_lt_of_le (hL.ex b hb).1 hs, fun id o hid hg => by
    obtain ⟨id2, o2, h1, h2⟩ := hy id o b hid hg (hL.ex b hb).1
    exact (hL.ex b hb).2 id2 o2 h1 h2⟩
theorem lay_merge (hL : Lay cx w tab L) (hy : ∀ id o, tab.get id = some o → id < nx ∧ o.lt nx) (hb : Below w.heap.size w w') (hold : ∀ id, id < nx → tab'.get id = tab.get id ∧ L' id = L id)
    (hobj : ∀ id o, nx ≤ id → tab'.get id = some o → ObjAt cx w' tab' L' (L' id) o) (hnew : ∀ id o g, nx ≤ id → tab'.get id = some o → vblk (L' id) = some g → w.heap.size ≤ g)
    (hsep : ∀ id id' o o' g, nx ≤ id → nx ≤ id' → tab'.get id = some o → tab'.get id' = some o' → vblk (L' id) = some g → vblk (L' id') = some g → id = id') : Lay cx w' tab' L' := by
  have hext : Ext cx w tab L nx w' tab' L' := ext_merge hb hold (fun id o h => (hy id o h).1) hnew
  refine ⟨hL.below.trans (belowX (hb.mono hL.below.size)), fun id o hid => ?_, fun id id' o o' g h1 h2 h3 h4 => ?_, fun b hb' => ⟨Nat.lt_of_lt_of_le (hL.ex b hb').1 hb.size, fun id o hid hg => ?_⟩⟩
  rotate_left 2
  · rcases Nat.lt_or_ge id nx with hlt | hge
    · rw [(hold id hlt).1] at hid
      rw [(hold id hlt).2] at hg
      exact (hL.ex b hb').2 id o hid hg
    · have := hnew id o b hge hid hg
      have := (hL.ex b hb').1
      omega
  · rcases Nat.lt_or_ge id nx with hlt | hge
    · rw [(hold id hlt).1] at hid
      rw [(hold id hlt).2]
      have ho := hL.objs id o hid
      exact hext.obj ho (hy id o hid).2 fun g hg => hb.block g (ho.ge hg).2
    · exact hobj id o hge hid
  · rcases Nat.lt_or_ge id nx with hlt | hge <;> rcases Nat.lt_or_ge id' nx with hlt' | hge'
    · rw [(hold id hlt).1] at h1
      rw [(hold id' hlt').1] at h2
      rw [(hold id hlt).2] at h3
      rw [(hold id' hlt').2] at h4
      exact hL.sep id id' o o' g h1 h2 h3 h4
    · rw [(hold id hlt).1] at h1
      rw [(hold id hlt).2] at h3
      have := (hL.objs id o h1).ge h3
      have := hnew id' o' g hge' h2 h4
      omega
    · rw [(hold id' hlt').1] at h2
      rw [(hold id' hlt').2] at h4
      have := (hL.objs id' o' h2).ge h4
      have := hnew id o g hge h1 h3
      omega
    · exact hsep id id' o o' g hge hge' h1 h2 h3 h4
end

/-- what lay when it began, and what the call's own memory has become -/
structure Fr (cx : Cx) (w : World) (tab : ATab) (L : Nat → Value) (nx : Nat) (w' : World) (tab' : ATab) (L' : Nat → Value) (nx' : Nat) : Prop where
  ext : Ext cx w tab L nx w' tab' L'
  size : w.heap.size ≤ w'.heap.size
  keep : ∀ k, k < w.heap.size → (∀ id o, tab.get id = some o → vblk (L id) ≠ some k) → w'.heap[k]? = w.heap[k]?
  young : ∀ id o g, tab'.get id = some o → vblk (L' id) = some g → g < w.heap.size → ∃ id2 o2, tab.get id2 = some o2 ∧ vblk (L id2) = some g
  next : nx ≤ nx'
/-- what lies outside of the call's own stays -/
structure Fz (w : World) (tab : ATab) (L : Nat → Value) (w' : World) (tab' : ATab) (L' : Nat → Value) : Prop where
  size : w.heap.size ≤ w'.heap.size
  keep : ∀ k, k < w.heap.size → (∀ id o, tab.get id = some o → vblk (L id) ≠ some k) → w'.heap[k]? = w.heap[k]?
  young : ∀ id o g, tab'.get id = some o → vblk (L' id) = some g → g < w.heap.size → ∃ id2 o2, tab.get id2 = some o2 ∧ vblk (L id2) = some g
/-! ### the state behind an operation -/
def updL (L : Nat → Value) (id : Nat) (v : Value) : Nat → Value := fun k => if k = id then v else L k
section
variable {P : Program} {cx : Cx} {a : Act} {w w' : World} {st : ASt} {L L' : Nat → Value}
theorem eval_ok (h : Conc cx a w st L) (x : Operand) : RVx cx w st.tab L (a.eval x) (aEv st x) ∧ (aEv st x).lt st.next := by
  cases x with
  | tmp t => exact h.env t
  | const v => exact ⟨.tree (.c v), trivial⟩
  | global g => exact ⟨.tree (.any _), trivial⟩
  | func f => exact ⟨.tree (.c _), trivial⟩
theorem get_put {dst : Option Nat} {av : AV} (t : Nat) : (st.put dst av).get t = match dst with | some d => if d < st.n ∧ t = d then av else st.get t | none => st.get t := by
  cases dst with
  | none => rfl
  | some d =>
    unfold ASt.put ASt.get
    simp only [aget]
    by_cases ht : t = d
    · subst ht
      by_cases hd : t < st.n <;> simp [hd]
    · simp [ht]
theorem conc_put (h : Conc cx a w st L) {tab' : ATab} {nx' : Nat} {L' : Nat → Value} (hL : Lay cx w' tab' L') (hx : Ext cx w st.tab L st.next w' tab' L') (hn : st.next ≤ nx') (hy : ∀ id o, tab'.get id = some o → id < nx' ∧ o.lt nx')
    {v : Value} {av : AV} (hv : RVx cx w' tab' L' v av) (hl : av.lt nx') (dst : Option Nat) : Conc cx (a.put dst v) w' ({ st with tab := tab', next := nx' }.put dst av) L' := by
  have hdef : (a.put dst v).defers = a.defers := by
    cases dst <;> rfl
  have hsz : (a.put dst v).tmps.size = st.n := by
    cases dst
    · exact h.size
    · simp [Act.put, h.size]
  have e1 : ({ st with tab := tab', next := nx' }.put dst av).tab = tab' := by
    cases dst <;> simp only [ASt.put]
  have e2 : ({ st with tab := tab', next := nx' }.put dst av).next = nx' := by
    cases dst <;> simp only [ASt.put]
  have e3 : ({ st with tab := tab', next := nx' }.put dst av).n = st.n := by
    cases dst <;> simp only [ASt.put]
  refine ⟨by rw [e1]; exact hL, by rw [e3]; exact hsz, by rw [e1, hdef]; exact h.defers.mono hx.blk hx.sub, by rw [e1, e2]; exact hy, fun t => ?_⟩
  rw [e1, e2, get_put]
  have hold := h.env t
  have old : RVx cx w' tab' L' (a.tmps.getD t undef) (st.get t) ∧ (st.get t).lt nx' := ⟨hx.rv hold.1 hold.2, AV.lt_mono hn hold.2⟩
  cases dst with
  | none => exact old
  | some d =>
    simp only [Act.put]
    by_cases hd : d < st.n ∧ t = d
    · rw [if_pos hd]
      obtain ⟨hd, rfl⟩ := hd
      have : t < a.tmps.size := by rw [h.size]; exact hd
      simp only [Array.getD_eq_getD_getElem?, Array.getElem?_setIfInBounds_self_of_lt this, Option.getD_some]
      exact ⟨hv, hl⟩
    · rw [if_neg hd]
      have e : (a.tmps.setIfInBounds d v).getD t undef = a.tmps.getD t undef := by
        by_cases hdt : d = t
        · subst hdt
          have : ¬ d < a.tmps.size := by rw [h.size]; simpa using hd
          rw [Array.setIfInBounds_eq_of_size_le (by omega)]
        · simp [Array.getD_eq_getD_getElem?, Array.getElem?_setIfInBounds_ne hdt]
      rw [e]
      exact old
theorem Ext.refl (w : World) (tab : ATab) (L : Nat → Value) (nx : Nat) : Ext cx w tab L nx w tab L := ⟨fun _ _ => rfl, fun _ h => h, fun _ _ _ h => h⟩
theorem conc_pure (h : Conc cx a w st L) {v : Value} {av : AV} (hv : RVx cx w st.tab L v av) (hl : av.lt st.next) (dst : Option Nat) : Conc cx (a.put dst v) w (st.put dst av) L :=
  conc_put (tab' := st.tab) (nx' := st.next) (L' := L) h h.lay (Ext.refl ..) (Nat.le_refl _) h.young hv hl dst
/-- one new object -/
theorem conc_new (h : Conc cx a w st L) (hb : Below w.heap.size w w') {v : Value} {ob : AObj} (hnew : ∀ g, vblk v = some g → w.heap.size ≤ g) (hob : Ext cx w st.tab L st.next w' ((st.next, some ob) :: st.tab) (updL L st.next v) → ObjAt cx w' ((st.next, some ob) :: st.tab) (updL L st.next v) v ob)
    (hlt : ob.lt (st.next + 1)) {x : Value} {av : AV} (hv : Ext cx w st.tab L st.next w' ((st.next, some ob) :: st.tab) (updL L st.next v) → RVx cx w' ((st.next, some ob) :: st.tab) (updL L st.next v) x av) (hl : av.lt (st.next + 1)) (dst : Option Nat) :
    Conc cx (a.put dst x) w' ({ st with tab := (st.next, some ob) :: st.tab, next := st.next + 1 }.put dst av) (updL L st.next v) := by
  have hold : ∀ id, id < st.next → ATab.get ((st.next, some ob) :: st.tab) id = st.tab.get id ∧ updL L st.next v id = L id := fun id hid => by
    unfold updL
    rw [ATab.get_cons, if_neg (by omega), if_neg (by omega)]
    exact ⟨rfl, rfl⟩
  have hge : ∀ id o, st.next ≤ id → ATab.get ((st.next, some ob) :: st.tab) id = some o → id = st.next ∧ o = ob := fun id o hid hg => by
    rw [ATab.get_cons] at hg
    split at hg
    · rename_i e
      cases hg
      exact ⟨e, rfl⟩
    · have := (h.young id o hg).1
      omega
  have hup : updL L st.next v st.next = v := by simp [updL]
  have hnew' : ∀ id o g, st.next ≤ id → ATab.get ((st.next, some ob) :: st.tab) id = some o → vblk (updL L st.next v id) = some g → w.heap.size ≤ g := fun id o g h1 h2 h3 => by
    obtain ⟨rfl, _⟩ := hge id o h1 h2
    rw [hup] at h3
    exact hnew g h3
  have hext := ext_merge (cx := cx) hb hold (fun id o hid => (h.young id o hid).1) hnew'
  refine conc_put h (lay_merge h.lay h.young hb hold (fun id o h1 h2 => ?_) hnew' fun id id' o o' g h1 h2 h3 h4 _ _ => ?_) hext (by omega) (fun id o hg => ?_) (hv hext) hl dst
  · obtain ⟨rfl, rfl⟩ := hge id o h1 h2
    rw [hup]
    exact hob hext
  · rw [(hge id o h1 h3).1, (hge id' o' h2 h4).1]
  · rcases Nat.lt_or_ge id st.next with hlt' | hge'
    · rw [(hold id hlt').1] at hg
      have := h.young id o hg
      refine ⟨by omega, ?_⟩
      cases o with
      | box t cells => exact ltL_iff.2 fun x hx => AV.lt_mono (Nat.le_succ _) (ltL_iff.1 this.2 x hx)
      | row => trivial
      | map => trivial
      | nest e sz rows => exact fun row hr => ltL_iff.2 fun x hx => AV.lt_mono (Nat.le_succ _) (ltL_iff.1 (this.2 row hr) x hx)
      | ghost vs env => exact envLt_mono (Nat.le_succ _) this.2
    · obtain ⟨rfl, rfl⟩ := hge id o hge' hg
      exact ⟨by omega, hlt⟩
end
end
section
open Go.RowKit

def oneC (tab : ATab) : AV → Prop
  | .c v => v.oneCell' = true
  | .sl _ _ => True
  | .rp _ => True
  | .osl id => (tab.get id).isSome = true
  | .op id _ _ => (tab.get id).isSome = true
  | .fn _ _ => True
  | .bfn _ _ => True
  | _ => False
def oneCL (tab : ATab) : List AV → Prop
  | [] => True
  | a :: l => oneC tab a ∧ oneCL tab l
def aCells : AV → List AV
  | .agg cs => cs
  | .c v => v.cells.toList.map .c
  | av => [av]
theorem oneCL_iff {tab : ATab} : ∀ {l : List AV}, oneCL tab l ↔ ∀ a ∈ l, oneC tab a
  | [] => by simp [oneCL]
  | a :: l => by simp [oneCL, oneCL_iff (l := l)]
section
variable {P : Program} {cx : Cx} {a : Act} {w w' : World} {tab : ATab} {st : ASt} {L : Nat → Value} {nx : Nat}
theorem obj_one {v : Value} {o : AObj} (h : ObjAt cx w tab L v o) : v.oneCell' = true ∧ v.cells = #[v] := by
  cases o with
  | box t cells =>
    obtain ⟨g, cs, rfl, _⟩ := h
    exact ⟨rfl, rfl⟩
  | row e sz rows =>
    obtain ⟨_, xs, hown, _⟩ := h
    rcases hown.2 with ⟨rfl, _⟩ | ⟨g, cap, cur, rfl, _⟩ <;> exact ⟨rfl, rfl⟩
  | nest e sz rows =>
    obtain ⟨_, xs, hown, _⟩ := h
    rcases hown.2 with ⟨rfl, _⟩ | ⟨g, cap, cur, rfl, _⟩ <;> exact ⟨rfl, rfl⟩
  | map ents =>
    obtain ⟨b, es, ck, rfl, _⟩ := h
    exact ⟨rfl, rfl⟩
  | ghost vs env =>
    obtain ⟨rfl, _⟩ := h
    exact ⟨rfl, rfl⟩
theorem one_val (hL : Lay cx w tab L) {x : Value} {av : AV} (hv : RVx cx w tab L x av) (h : oneC tab av) : x.oneCell' = true ∧ x.cells = #[x] := by
  cases av with
  | any => exact h.elim
  | c v =>
    obtain rfl := hv.c_inv
    refine ⟨h, ?_⟩
    cases x <;> first | rfl | cases h
  | sl sz rows =>
    obtain ⟨A, cap, rfl, _⟩ := hv.sl_inv.sl_inv
    exact ⟨rfl, rfl⟩
  | rp cs =>
    obtain ⟨b, o, U, rfl, _⟩ := hv.rp_inv
    exact ⟨rfl, rfl⟩
  | osl id =>
    obtain ⟨o, ho⟩ := Option.isSome_iff_exists.1 h
    rw [hv.osl_inv _ _ (kx_of ho)]
    exact obj_one (hL.objs id o ho)
  | op id i j =>
    obtain ⟨o, ho⟩ := Option.isSome_iff_exists.1 h
    obtain ⟨g, _, rfl⟩ := hv.op_inv _ _ (kx_of ho)
    exact ⟨rfl, rfl⟩
  | agg => exact h.elim
  | tup => exact h.elim
  | fn f cs =>
    obtain ⟨xs, rfl, _⟩ := hv.fn_inv
    exact ⟨rfl, rfl⟩
  | bfn f cs =>
    obtain ⟨xs, rfl, _⟩ := hv.bfn_inv
    exact ⟨rfl, rfl⟩
theorem cells_ok (hL : Lay cx w tab L) {v : Value} {av : AV} (hv : RVx cx w tab L v av) (hl : av.lt nx) (h : oneCL tab (aCells av)) :
    v.cells.size = (aCells av).length ∧ AV.ltL nx (aCells av) ∧ ∀ (j : Nat) (x : Value) (a : AV), v.cells[j]? = some x → (aCells av)[j]? = some a → RVx cx w tab L x a ∧ x.oneCell' = true := by
  cases av with
  | agg cs =>
    obtain ⟨xs, rfl, hn, hr⟩ := hv.agg_inv
    exact ⟨hn, hl, fun j x a h1 h2 => ⟨hr j x a h1 h2, (one_val hL (hr j x a h1 h2) (oneCL_iff.1 h a (List.mem_of_getElem? h2))).1⟩⟩
  | c v' =>
    obtain rfl := hv.c_inv
    refine ⟨by simp [aCells], ltL_iff.2 fun a ha => ?_, fun j x a h1 h2 => ?_⟩
    · simp [aCells] at ha
      obtain ⟨y, _, rfl⟩ := ha
      trivial
    · have h3 := h2
      simp only [aCells, List.getElem?_map, Array.getElem?_toList, h1, Option.map_some, Option.some.injEq] at h2
      subst h2
      exact ⟨.tree (.c x), oneCL_iff.1 h _ (List.mem_of_getElem? h3)⟩
  | _ =>
    first
    | (have h1 := one_val hL hv h.1
       simp only [aCells]
       refine ⟨by simp [h1.2], ⟨hl, trivial⟩, fun j x a h2 h3 => ?_⟩
       rw [h1.2] at h2
       cases j with
       | zero =>
         simp at h2 h3
         subst h2
         subst h3
         exact ⟨hv, h1.1⟩
       | succ j => simp at h2)
    | exact h.1.elim

/-! ### box, alloc -/
theorem box_ok {t : TypeId} {v : Value} {av : AV} (h : Conc cx a w st L) (hv : RVx cx w st.tab L v av) (hl : av.lt st.next) (h1 : oneCL st.tab (aCells av)) (dst : Option Nat) :
    (Instr.box t v).run P w = .ok (.pointer (some ⟨w.heap.size, 0, none⟩)) (w.alloc (.cells v.cells t)) ∧
    Conc cx (a.put dst (.pointer (some ⟨w.heap.size, 0, none⟩))) (w.alloc (.cells v.cells t)) ({ st with tab := (st.next, some (.box t (aCells av))) :: st.tab, next := st.next + 1 }.put dst (.op st.next 0 0)) (updL L st.next (.pointer (some ⟨w.heap.size, 0, none⟩))) := by
  obtain ⟨hn, hlt, hc⟩ := cells_ok h.lay hv hl h1
  refine ⟨by simp [Instr.box, newVar, newRow], conc_new h ((Below.refl _ _).alloc (Nat.le_refl _) _) (fun g hg => ?_) (fun hx => ?_) ?_ (fun hx => ?_) ?_ dst⟩
  · simp [vblk] at hg
    omega
  · refine ⟨w.heap.size, v.cells, rfl, h.lay.below.size, heap_alloc_new w _, hn, fun j x av' h2 h3 => ⟨hx.rv (hc j x av' h2 h3).1 (ltL_iff.1 hlt _ (List.mem_of_getElem? h3)), (hc j x av' h2 h3).2⟩⟩
  · exact ltL_iff.2 fun x hx => AV.lt_mono (Nat.le_succ _) (ltL_iff.1 hlt x hx)
  · refine .op _ _ _ _ fun sz u hk => ?_
    simp [Kx, ATab.get_cons, updL] at hk
    obtain ⟨_, rfl⟩ := hk
    exact ⟨w.heap.size, rfl, by simp⟩
  · exact Nat.lt_succ_self _
def tyZero (P : Program) (t : TypeId) : Option Value := (P.info? t).bind (·.zero)
theorem run_zero {t : TypeId} {z : Value} (h : tyZero P t = some z) (w : World) : (zeroValue t).run P w = .ok z w := by
  unfold tyZero at h
  cases hi : P.info? t with
  | none => simp [hi] at h
  | some i =>
    have hz : i.zero = some z := by simpa [hi] using h
    simp [zeroValue, typeInfo, hi, hz]
theorem alloc_run {t : TypeId} {z : Value} (h : tyZero P t = some z) (w : World) : (Instr.alloc t true (.tuple #[])).run P w = (Instr.box t z).run P w := by
  simp [Instr.alloc, Sem.run_bind, run_zero h, Instr.box]

/-! ### store -/
theorem ext_upd {tab' : ATab} {o o' : AObj} {id g : Nat} (hid : tab.get id = some o) (hg : vblk (L id) = some g) (hsz : o'.sz = o.sz) (ht : ∀ k, tab'.get k = if k = id then some o' else tab.get k)
    (hb : ∀ k, k ≠ g → w'.heap[k]? = w.heap[k]?) (hs : w'.heap.size = w.heap.size) : Ext cx w tab L nx w' tab' L where
  blk p hp := hb p fun e => hp.2.2 id o hid (by rw [hg, e])
  sub b h := ⟨by rw [hs]; exact h.1, h.2.1, fun k ok hk => by
    rw [ht] at hk
    split at hk
    · rename_i e
      subst e
      exact h.2.2 _ o hid
    · exact h.2.2 k ok hk⟩
  loc k p hlt h := by
    unfold Kx at *
    rw [ht] at h
    split at h
    · rename_i e
      subst e
      rw [hid]
      simpa [hsz] using h
    · exact h
theorem conc_upd (h : Conc cx a w st L) {o o' : AObj} {id g : Nat} (hid : st.tab.get id = some o) (hg : vblk (L id) = some g) (hsz : o'.sz = o.sz) (hb : ∀ k, k ≠ g → w'.heap[k]? = w.heap[k]?) (hbel : BelowX cx.X cx.w0.heap.size cx.w0 w') (hs : w'.heap.size = w.heap.size)
    (hob : Ext cx w st.tab L st.next w' ((id, some o') :: st.tab) L → ObjAt cx w' ((id, some o') :: st.tab) L (L id) o') (hlt : o'.lt st.next) (dst : Option Nat) : Conc cx (a.put dst undef) w' ({ st with tab := (id, some o') :: st.tab }.put dst .any) L := by
  have ht : ∀ k, ATab.get ((id, some o') :: st.tab) k = if k = id then some o' else st.tab.get k := fun k => ATab.get_cons ..
  have hext : Ext cx w st.tab L st.next w' ((id, some o') :: st.tab) L := ext_upd hid hg hsz ht hb hs
  have hy := h.young id o hid
  have hex : ∀ id2 o2 g, ATab.get ((id, some o') :: st.tab) id2 = some o2 → vblk (L id2) = some g → g < w.heap.size → ∃ id3 o3, st.tab.get id3 = some o3 ∧ vblk (L id3) = some g := fun k ok g hk hg' _ => by
    rw [ht] at hk
    split at hk
    · rename_i e
      exact ⟨k, o, by rw [e]; exact hid, hg'⟩
    · exact ⟨k, ok, hk, hg'⟩
  refine conc_put (nx' := st.next) (L' := L) h ⟨hbel, fun k ok hk => ?_, fun k k' ok ok' g' h1 h2 h3 h4 => ?_, ex_of h.lay (by omega) hex⟩ hext (Nat.le_refl _) (fun k ok hk => ?_) (.tree (.any _)) trivial dst
  · rw [ht] at hk
    split at hk
    · rename_i e
      subst e
      cases hk
      exact hob hext
    · rename_i hne
      exact hext.obj (h.lay.objs k ok hk) (h.young k ok hk).2 fun g' hg' => hb g' fun e => by
        subst e
        exact hne (h.lay.sep k id ok o _ hk hid hg' hg)
  · have : ∀ k ok, ATab.get ((id, some o') :: st.tab) k = some ok → ∃ ok', st.tab.get k = some ok' := fun k ok hk => by
      rw [ht] at hk
      split at hk
      · rename_i e
        exact ⟨o, by rw [e]; exact hid⟩
      · exact ⟨ok, hk⟩
    obtain ⟨o1, ho1⟩ := this k ok h1
    obtain ⟨o2, ho2⟩ := this k' ok' h2
    exact h.lay.sep k k' o1 o2 g' ho1 ho2 h3 h4
  · rw [ht] at hk
    split at hk
    · rename_i e
      cases hk
      exact ⟨by rw [e]; exact hy.1, hlt⟩
    · exact h.young k ok hk
theorem run_storeAt' {t : TypeId} {v : Value} {g o : Nat} {cur : Array Value} {e : TypeId} (h0 : 0 < tySize P t) (hs : v.cells.size = tySize P t) (hg : w.heap[g]? = some (.cells cur e (0, 0))) (ho : o + tySize P t ≤ cur.size) (h1 : ∀ x ∈ v.cells, x.oneCell' = true) :
    (Instr.storeAt t (.pointer (some ⟨g, o, none⟩)) v).run P w = .ok () (w.setRow g (cur.toList.take o ++ v.cells.toList ++ cur.toList.drop (o + tySize P t)).toArray) := by
  have := run_storeCells_at P g o e v.cells.toList 0 cur w hg (by simp [hs]; omega) (by simpa using h1)
  simp [hs] at this
  simp [Instr.storeAt, Instr.sureAddr, storeVar, Sem.run_bind, run_sizeOf' h0, hs, this]
theorem splice_get {α : Type} (l : List α) (o : Nat) (vs : List α) (h : o + vs.length ≤ l.length) (j : Nat) : (l.take o ++ vs ++ l.drop (o + vs.length))[j]? = if o ≤ j ∧ j < o + vs.length then vs[j - o]? else l[j]? := by
  have ht : (l.take o).length = o := by rw [List.length_take]; omega
  rw [List.append_assoc]
  by_cases h1 : j < o
  · rw [if_neg (by omega), List.getElem?_append_left (by omega), List.getElem?_take, if_pos h1]
  · rw [List.getElem?_append_right (by omega), ht]
    by_cases h2 : j < o + vs.length
    · rw [if_pos ⟨by omega, h2⟩, List.getElem?_append_left (by omega)]
    · rw [if_neg (by omega), List.getElem?_append_right (by omega), List.getElem?_drop]
      congr 1
      omega
theorem store_box_ok {t ty : TypeId} {p v : Value} {id j : Nat} {cells : List AV} {av : AV} (h : Conc cx a w st L) (hp : RVx cx w st.tab L p (.op id 0 j)) (hid : st.tab.get id = some (.box ty cells)) (hv : RVx cx w st.tab L v av) (hl : av.lt st.next)
    (h0 : 0 < tySize P t) (hs : (aCells av).length = tySize P t) (ho : j + tySize P t ≤ cells.length) (h1 : oneCL st.tab (aCells av)) (dst : Option Nat) :
    ∃ w', (Instr.storeAt t p v).run P w = .ok () w' ∧ Conc cx (a.put dst undef) w' ({ st with tab := (id, some (.box ty (cells.take j ++ aCells av ++ cells.drop (j + tySize P t)))) :: st.tab }.put dst .any) L ∧
      w'.heap.size = w.heap.size ∧ ∀ k, vblk (L id) ≠ some k → w'.heap[k]? = w.heap[k]? := by
  obtain ⟨hn, hlt, hc⟩ := cells_ok h.lay hv hl h1
  obtain ⟨g, hg, rfl⟩ := hp.op_inv _ _ (kx_of hid)
  have hob := h.lay.objs id _ hid
  obtain ⟨g', cs, hL, hbg, hheap, hcs, hx⟩ := hob
  have hgg : g = g' := by
    rw [hL] at hg
    simpa [vblk] using hg.symm
  subst hgg
  simp only [Nat.zero_mul, Nat.zero_add]
  refine ⟨_, run_storeAt' h0 (by omega) hheap (by omega) (fun x hx' => ?_), ?_, by simp, fun k hk => setRow_other w g k _ fun e => hk (by rw [hg, e])⟩
  · obtain ⟨k, hk, rfl⟩ := Array.getElem_of_mem hx'
    have hk' : k < (aCells av).length := by omega
    exact (hc k _ _ (Array.getElem?_eq_getElem hk) (List.getElem?_eq_getElem hk')).2
  · have hyl := (h.young id _ hid).2
    have hlen : (cells.take j ++ aCells av ++ cells.drop (j + tySize P t)).length = cells.length := by
      simp; omega
    refine conc_upd (o' := .box ty (cells.take j ++ aCells av ++ cells.drop (j + tySize P t))) h hid hg (by simpa [AObj.sz] using hlen) (fun k hk => setRow_other w g k _ hk) ?_ (by simp) (fun hext => ⟨g, _, hL, hbg, setRow_heap w g cs _ ty (0, 0) hheap, ?_, fun k x av' h2 h3 => ?_⟩) ?_ dst
    · exact ⟨h.lay.below.os, h.lay.below.tape, h.lay.below.output, by simpa using h.lay.below.size, fun k hk hX => (setRow_other w g k _ (by omega)).trans (h.lay.below.block k hk hX)⟩
    · rw [hlen]
      simp [hcs, hn, hs]
      omega
    · rw [← hs] at h3
      rw [splice_get _ _ _ (by omega)] at h3
      have hvl : v.cells.toList.length = tySize P t := by simp [hn, hs]
      rw [List.getElem?_toArray, ← hvl, splice_get _ _ _ (by simp [hcs]; omega), hvl] at h2
      rw [← hs] at h2
      split at h3
      · rename_i hr
        rw [if_pos hr] at h2
        have := hc (k - j) x av' (by simpa using h2) h3
        exact ⟨hext.rv this.1 (ltL_iff.1 hlt _ (List.mem_of_getElem? h3)), this.2⟩
      · rename_i hr
        rw [if_neg hr] at h2
        have := hx k x av' (by simpa using h2) h3
        exact ⟨hext.rv this.1 (ltL_iff.1 hyl _ (List.mem_of_getElem? h3)), this.2⟩
    · refine ltL_iff.2 fun x hx => ?_
      rcases List.mem_append.1 hx with hx | hx
      · rcases List.mem_append.1 hx with hx | hx
        · exact ltL_iff.1 hyl x (List.mem_of_mem_take hx)
        · exact ltL_iff.1 hlt x hx
      · exact ltL_iff.1 hyl x (List.mem_of_mem_drop hx)
end
end
end Go.Proofs.Ytcindbpnaicemaa
