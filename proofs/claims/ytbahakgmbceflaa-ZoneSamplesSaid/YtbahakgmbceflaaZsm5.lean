/-
  Parts of the proof: AlTy, EvSpec, Rep, EvRep, Struct, Mod, EvA, Bits, C1, NestSpec, Law, Nest, CL, NestB, NestC, EvAsk2, C2, SoA, D1, D5, D6, D7, NumSpec, NumSortA, ZSortA, NumSortP.
-/
import Derived.Test.YtbahakgmbceflaaZsm4
import Derived.Test.YtbahakgmbceflaaProg
import Derived.WalkKit
import Derived.WalkLawsBesides
import Derived.ProofKit
import Derived.OpenShut
import Derived.Deep.Slices
import Derived.BigQuiet
import Derived.Deep.QuietTactic
import Derived.Test.YtbahakgmbceflaaRows
import Derived.SizedLaws
import Derived.WalkSpells
import Derived.ScopeJumps
import Derived.WalkMore
import Derived.Handy
import Derived.Deep.DeepCutAuto
import Derived.Deep.CutBlock
import Derived.Test.YtbahakgmbceflaaSortShelf
import Derived.Deep.LoopGhost
import Derived.Deep.Draws
import Derived.Lib.SlicesCompact
set_option linter.unusedVariables false
set_option linter.unusedSimpArgs false
namespace Go.Proofs.Ytbahakgmbceflaa
section
open Go.RowKit
theorem tyE_27 : tyElem Try.prog 27 = (0, 0) := by kernel_rfl
theorem tyY_27 : tyArr Try.prog 27 = (2, 1) := by kernel_rfl
theorem tyA_3 : tyAgg Try.prog 3 = false := by kernel_rfl
theorem tyS_3 : tySize Try.prog 3 = 1 := by kernel_rfl
theorem tyA_25 : tyAgg Try.prog 25 = true := by kernel_rfl
theorem tyS_25 : tySize Try.prog 25 = 2 := by kernel_rfl
theorem tyE_26 : tyElem Try.prog 26 = (2, 1) := by kernel_rfl
theorem tyK_26 : tyK Try.prog 26 = TyK.slice := by kernel_rfl
theorem tyK_3 : tyK Try.prog 3 = TyK.int := by kernel_rfl
theorem tyA_2 : tyAgg Try.prog 2 = false := by kernel_rfl
theorem tyS_2 : tySize Try.prog 2 = 1 := by kernel_rfl
theorem tyK_2 : tyK Try.prog 2 = TyK.int := by kernel_rfl
theorem tyK_4 : tyK Try.prog 4 = TyK.bool := by kernel_rfl
theorem tyF_25_0 : fOff Try.prog 25 0 = some 0 := by kernel_rfl
theorem tyA_22 : tyAgg Try.prog 22 = false := by kernel_rfl
theorem tyS_22 : tySize Try.prog 22 = 1 := by kernel_rfl
theorem tyE_22 : tyElem Try.prog 22 = (37, 2) := by kernel_rfl
theorem tyK_22 : tyK Try.prog 22 = TyK.slice := by kernel_rfl
theorem tyF_25_1 : fOff Try.prog 25 1 = some 1 := by kernel_rfl
theorem tyA_23 : tyAgg Try.prog 23 = false := by kernel_rfl
theorem tyS_23 : tySize Try.prog 23 = 1 := by kernel_rfl
theorem tyE_23 : tyElem Try.prog 23 = (3, 1) := by kernel_rfl
theorem tyK_23 : tyK Try.prog 23 = TyK.slice := by kernel_rfl
theorem tyR_26 : tyRow Try.prog 26 = some (2, 1, 8) := by kernel_rfl
theorem tyZ_25 : tyZero Try.prog 25 = some (Value.agg #[Value.slice none 0 0, Value.slice none 0 0]) := by kernel_rfl
theorem tyB_37 : tyParts Try.prog 37 = some ([(0, 1), (1, 1)], [Value.int IntKind.i64 0, Value.int IntKind.i64 0]) := by kernel_rfl
theorem tyR_22 : tyRow Try.prog 22 = some (37, 2, 16) := by kernel_rfl
theorem tyR_23 : tyRow Try.prog 23 = some (3, 1, 8) := by kernel_rfl
theorem tyB_25 : tyParts Try.prog 25 = some ([(0, 1), (1, 1)], [Value.slice none 0 0, Value.slice none 0 0]) := by kernel_rfl
theorem tyB_41 : tyParts Try.prog 41 = some ([(0, 2), (2, 1), (3, 1), (4, 1)], [Value.slice none 0 0, Value.slice none 0 0, Value.int IntKind.i64 0, Value.slice none 0 0, Value.bool false]) := by kernel_rfl
theorem tyF_41_2 : fOff Try.prog 41 2 = some 3 := by kernel_rfl
theorem tyA_26 : tyAgg Try.prog 26 = false := by kernel_rfl
theorem tyS_26 : tySize Try.prog 26 = 1 := by kernel_rfl
theorem tyF_41_3 : fOff Try.prog 41 3 = some 4 := by kernel_rfl
theorem tyA_4 : tyAgg Try.prog 4 = false := by kernel_rfl
theorem tyS_4 : tySize Try.prog 4 = 1 := by kernel_rfl
theorem tyA_37 : tyAgg Try.prog 37 = true := by kernel_rfl
theorem tyS_37 : tySize Try.prog 37 = 2 := by kernel_rfl
theorem tyZ_37 : tyZero Try.prog 37 = some (Value.agg #[Value.int IntKind.i64 0, Value.int IntKind.i64 0]) := by kernel_rfl
theorem tyF_37_0 : fOff Try.prog 37 0 = some 0 := by kernel_rfl
theorem tyF_37_1 : fOff Try.prog 37 1 = some 1 := by kernel_rfl
theorem tyK_37 : tyK Try.prog 37 = TyK.other := by kernel_rfl
theorem tyE_52 : tyElem Try.prog 52 = (55, 3) := by kernel_rfl
theorem tyK_52 : tyK Try.prog 52 = TyK.slice := by kernel_rfl
theorem tyA_55 : tyAgg Try.prog 55 = true := by kernel_rfl
theorem tyS_55 : tySize Try.prog 55 = 3 := by kernel_rfl
theorem tyZ_55 : tyZero Try.prog 55 = some (Value.agg #[Value.int IntKind.i64 0, Value.int IntKind.i64 0, Value.int IntKind.i64 0]) := by kernel_rfl
theorem tyF_55_1 : fOff Try.prog 55 1 = some 1 := by kernel_rfl
theorem tyF_55_0 : fOff Try.prog 55 0 = some 0 := by kernel_rfl
theorem tyF_41_0 : fOff Try.prog 41 0 = some 0 := by kernel_rfl
theorem tyF_41_1 : fOff Try.prog 41 1 = some 2 := by kernel_rfl
theorem tyE_61 : tyElem Try.prog 61 = (4, 1) := by kernel_rfl
theorem tyB_55 : tyParts Try.prog 55 = some ([(0, 1), (1, 2)], [Value.int IntKind.i64 0, Value.int IntKind.i64 0, Value.int IntKind.i64 0]) := by kernel_rfl
theorem tyR_52 : tyRow Try.prog 52 = some (55, 3, 24) := by kernel_rfl
theorem tyI_2 : tyInt Try.prog 2 = some IntKind.i64 := by kernel_rfl
theorem tyI_68 : tyInt Try.prog 68 = some IntKind.u64 := by kernel_rfl
theorem tyK_68 : tyK Try.prog 68 = TyK.int := by kernel_rfl
theorem tyI_3 : tyInt Try.prog 3 = some IntKind.i64 := by kernel_rfl
theorem tyI_71 : tyInt Try.prog 71 = some IntKind.u64 := by kernel_rfl
theorem tyR_61 : tyRow Try.prog 61 = some (4, 1, 1) := by kernel_rfl
theorem tyK_61 : tyK Try.prog 61 = TyK.slice := by kernel_rfl
theorem tyK_71 : tyK Try.prog 71 = TyK.int := by kernel_rfl
theorem tyZ_2 : tyZero Try.prog 2 = some (Value.int IntKind.i64 0) := by kernel_rfl
end
section
open Go.RowKit

theorem and_one_i64 (x : Int) : bits .and .i64 x 1 = x % 2 := by
  show IntKind.i64.wrap ((BitVec.ofInt 64 x &&& BitVec.ofInt 64 1).toNat : Int) = _
  have h : (BitVec.ofInt 64 x &&& BitVec.ofInt 64 1).toNat = (x % 2).toNat := by
    rw [BitVec.toNat_and, show (BitVec.ofInt 64 1).toNat = 1 from rfl, Nat.and_one_is_mod, BitVec.toNat_ofInt]
    omega
  rw [h]
  have : IntKind.i64.wrap (((x % 2).toNat : Nat) : Int) = ((x % 2).toNat : Int) := by
    simp [IntKind.wrap, IntKind.bits, IntKind.signed]
    omega
  rw [this]
  omega

structure Inst where
  op : Int
  la : Int
  ln : Int
  ra : Int
  rn : Int
  n : Int
  u : Int
def hasB (s i : Int) : Bool := decide (0 ≤ i) && decide (i < 31) && (s / 2 ^ i.toNat % 2 == 1)
def cmpI (a b : Int) : Int := if a < b then -1 else if b < a then 1 else 0
end
section
open Go.RowKit Go.ChangeShapes Go.WideShapes Go.Deep

/-- S: the blocks that the data may lie in -/
structure Rep (α : Type) where
  size : Nat
  at_ : World → (Nat → Prop) → List Value → α → Prop
  len : ∀ {w : World} {S : Nat → Prop} {cs : List Value} {a : α}, at_ w S cs a → cs.length = size
  keep : ∀ {w w' : World} {S : Nat → Prop} {cs : List Value} {a : α}, at_ w S cs a → (∀ p : Addr, S p.block → w'.cell? p = w.cell? p) → at_ w' S cs a
  mono : ∀ {w : World} {S S' : Nat → Prop} {cs : List Value} {a : α}, at_ w S cs a → (∀ b, S b → S' b) → at_ w S' cs a

/-- the value v of one cell holds the plain value a -/
def Rep.one {α : Type} (r : Rep α) (w : World) (S : Nat → Prop) (v : Value) (a : α) : Prop := r.at_ w S [v] a
/-- the struct's value v holds the plain value a -/
def Rep.agg {α : Type} (r : Rep α) (w : World) (S : Nat → Prop) (v : Value) (a : α) : Prop := ∃ cs : Array Value, v = .agg cs ∧ r.at_ w S cs.toList a

def intR (k : IntKind) : Rep Int where
  size := 1
  at_ := fun _ _ cs n => cs = [.int k n] ∧ (Lit.int k n).wf = true
  len := fun h => by rw [h.1]; rfl
  keep := fun h _ => h
  mono := fun h _ => h
def strR : Rep ByteArray where
  size := 1
  at_ := fun _ _ cs s => cs = [.string s] ∧ s.size ≤ 9223372036854775807
  len := fun h => by rw [h.1]; rfl
  keep := fun h _ => h
  mono := fun h _ => h

/-- the cells of a list of things, one behind the other, at an address -/
def rowAt {α : Type} (r : Rep α) (w : World) (S : Nat → Prop) (b o : Nat) (l : List α) : Prop :=
  ∀ i (h : i < l.length), ∃ cs, (∀ j u, cs[j]? = some u → w.cell? ⟨b, o + i * r.size + j, none⟩ = some u) ∧ r.at_ w S cs l[i]
theorem rowAt_keep {α : Type} {r : Rep α} {w w' : World} {S : Nat → Prop} {b o : Nat} {l : List α} (h : rowAt r w S b o l) (hb : S b) (hk : ∀ p : Addr, S p.block → w'.cell? p = w.cell? p) : rowAt r w' S b o l := by
  intro i hi
  obtain ⟨cs, h1, h2⟩ := h i hi
  exact ⟨cs, fun j u hu => (hk _ hb).trans (h1 j u hu), r.keep h2 hk⟩
theorem rowAt_mono {α : Type} {r : Rep α} {w : World} {S S' : Nat → Prop} {b o : Nat} {l : List α} (h : rowAt r w S b o l) (hB : ∀ b, S b → S' b) : rowAt r w S' b o l := by
  intro i hi
  obtain ⟨cs, h1, h2⟩ := h i hi
  exact ⟨cs, h1, r.mono h2 hB⟩

def sliceR {α : Type} (r : Rep α) : Rep (List α) where
  size := 1
  at_ := fun w S cs l => ∃ A c, cs = [.slice A l.length c] ∧ l.length ≤ c ∧ c ≤ 9223372036854775807 ∧ (0 < l.length → ∃ b o, A = some ⟨b, o, none⟩ ∧ S b ∧ rowAt r w S b o l)
  len := fun ⟨A, c, h, _⟩ => by rw [h]; rfl
  keep := fun ⟨A, c, h1, h2, h3, h4⟩ hk => ⟨A, c, h1, h2, h3, fun hl => by
    obtain ⟨b, o, e, hb, hr⟩ := h4 hl
    exact ⟨b, o, e, hb, rowAt_keep hr hb hk⟩⟩
  mono := fun ⟨A, c, h1, h2, h3, h4⟩ hB => ⟨A, c, h1, h2, h3, fun hl => by
    obtain ⟨b, o, e, hb, hr⟩ := h4 hl
    exact ⟨b, o, e, hB b hb, rowAt_mono hr hB⟩⟩

/-- a struct of two parts -/
def pairR {α β : Type} (r : Rep α) (s : Rep β) : Rep (α × β) where
  size := r.size + s.size
  at_ := fun w S cs x => ∃ c1 c2, cs = c1 ++ c2 ∧ r.at_ w S c1 x.1 ∧ s.at_ w S c2 x.2
  len := fun ⟨c1, c2, h, h1, h2⟩ => by rw [h, List.length_append, r.len h1, s.len h2]
  keep := fun ⟨c1, c2, h, h1, h2⟩ hk => ⟨c1, c2, h, r.keep h1 hk, s.keep h2 hk⟩
  mono := fun ⟨c1, c2, h, h1, h2⟩ hB => ⟨c1, c2, h, r.mono h1 hB, s.mono h2 hB⟩
def nilR : Rep Unit where
  size := 0
  at_ := fun _ _ cs _ => cs = []
  len := fun h => by rw [h]; rfl
  keep := fun h _ => h
  mono := fun h _ => h
theorem Rep.below {α : Type} {r : Rep α} {w w' : World} {S : Nat → Prop} {B' : Nat} {cs : List Value} {a : α} (h : r.at_ w S cs a) (hb : Below B' w w') (hB : ∀ b, S b → b < B') : r.at_ w' S cs a :=
  r.keep h fun p hp => hb.cell (hB _ hp)
theorem Rep.one_below {α : Type} {r : Rep α} {w w' : World} {S : Nat → Prop} {B' : Nat} {v : Value} {a : α} (h : r.one w S v a) (hb : Below B' w w') (hB : ∀ b, S b → b < B') : r.one w' S v a := Rep.below (r := r) h hb hB
/-- an int's range -/
theorem wf_i64 {n : Int} (h : (Lit.int .i64 n).wf = true) : -9223372036854775808 ≤ n ∧ n ≤ 9223372036854775807 := by
  simpa [Lit.wf, IntKind.min, IntKind.max, IntKind.signed, IntKind.bits] using h
theorem wf_i64_mk {n : Int} (h1 : -9223372036854775808 ≤ n) (h2 : n ≤ 9223372036854775807) : (Lit.int .i64 n).wf = true := by
  simp [Lit.wf, IntKind.min, IntKind.max, IntKind.signed, IntKind.bits]; omega

/-! ### the elements of a slice, met in a walk -/
section
variable {α : Type} {r : Rep α} {w w' : World} {S : Nat → Prop} {v : Value} {l : List α}
theorem slice_form (h : (sliceR r).one w S v l) : ∃ A c, v = .slice A l.length c ∧ l.length ≤ c ∧ c ≤ 9223372036854775807 := by
  obtain ⟨A, c, h1, h2, h3, _⟩ := h
  exact ⟨A, c, by simpa using h1, h2, h3⟩
theorem slice_some {A : Option Addr} {n c : Nat} (h : (sliceR r).one w S (.slice A n c) l) (hn : 0 < l.length) : ∃ b o, A = some ⟨b, o, none⟩ ∧ S b ∧ rowAt r w S b o l := by
  obtain ⟨A', c', h1, _, _, h4⟩ := h
  simp at h1
  obtain ⟨rfl, _, _⟩ := h1
  exact h4 hn
theorem slice_at1 (hs : r.size = 1) {b o c : Nat} {n : Nat} (h : (sliceR r).one w S (.slice (some ⟨b, o, none⟩) n c) l) {k : Nat} (hk : k < l.length) : ∃ u, w.cell? ⟨b, o + k, none⟩ = some u ∧ r.at_ w S [u] l[k] := by
  obtain ⟨b', o', e, _, hr⟩ := slice_some h (by omega)
  simp at e
  obtain ⟨rfl, rfl⟩ := e
  obtain ⟨cs, h1, h2⟩ := hr k hk
  have hl := r.len h2
  rw [hs] at hl h1
  match cs, hl with
  | [u], _ => exact ⟨u, by simpa using h1 0 u rfl, h2⟩
theorem slice_nil (w : World) (S : Nat → Prop) (r : Rep α) : (sliceR r).one w S (.slice none 0 0) [] := ⟨none, 0, rfl, Nat.le_refl _, by omega, fun h => absurd h (by simp)⟩
/-- an owned row, seen as a slice of things -/
theorem slice_own {base : Nat} {e : TypeId} {size n : Nat} {xs : List Value} (h : w.ownsRow base e size v n xs) (hs : r.size = size) (hn : n = l.length) (hx : ∀ i (hi : i < l.length), r.at_ w (fun b => base ≤ b ∧ b < w.heap.size) ((xs.drop (i * size)).take size) l[i]) :
    (sliceR r).one w (fun b => base ≤ b ∧ b < w.heap.size) v l := by
  subst hn
  rcases h.2 with ⟨rfl, h0⟩ | ⟨g, cap, cur, rfl, hb, hg, hc, hm, hcs, ht⟩
  · refine ⟨none, 0, by rw [h0], by omega, by omega, fun hl => by omega⟩
  · refine ⟨some ⟨g, 0, none⟩, cap, rfl, hc, by simpa [maxLen] using hm, fun hl => ⟨g, 0, rfl, ⟨hb, (Array.getElem?_eq_some_iff.1 hg).1⟩, fun i hi => ⟨_, fun j u hu => ?_, hx i hi⟩⟩⟩
    have hj : j < size := by
      have := (List.getElem?_eq_some_iff.1 hu).1
      simp at this; omega
    rw [List.getElem?_take, if_pos hj, List.getElem?_drop] at hu
    have := h.cells (g := g) rfl _ u hu
    rw [addAddr0] at this
    rw [hs, Nat.zero_add]
    exact this
theorem slice_own1 {base : Nat} {e : TypeId} {n : Nat} (f : α → Value) (h : w.ownsRow base e 1 v n (l.map f)) (hs : r.size = 1) (hx : ∀ a ∈ l, r.at_ w (fun b => base ≤ b ∧ b < w.heap.size) [f a] a) : (sliceR r).one w (fun b => base ≤ b ∧ b < w.heap.size) v l := by
  have hn : n = l.length := by have := h.1; simp at this; omega
  refine slice_own h hs hn fun i hi => ?_
  have e : (((l.map f).drop (i * 1)).take 1) = [f l[i]] := by
    rw [Nat.mul_one, List.drop_eq_getElem_cons (by simpa using hi)]
    simp
  rw [e]
  exact hx _ (List.getElem_mem hi)
theorem slice_below (h : (sliceR r).one w S v l) {B' : Nat} (hb : Below B' w w') (hB : ∀ b, S b → b < B') : (sliceR r).one w' S v l := Rep.one_below h hb hB
theorem slice_mono (h : (sliceR r).one w S v l) {S' : Nat → Prop} (hB : ∀ b, S b → S' b) : (sliceR r).one w S' v l := Rep.mono (sliceR r) h hB
theorem slice_keep (h : (sliceR r).one w S v l) (hk : ∀ p : Addr, S p.block → w'.cell? p = w.cell? p) : (sliceR r).one w' S v l := Rep.keep (sliceR r) h hk
end
theorem ints_at {w : World} {S : Nat → Prop} {b o c n : Nat} {l : List Int} (h : (sliceR (intR .i64)).one w S (.slice (some ⟨b, o, none⟩) n c) l) {k : Nat} (hk : k < l.length) :
    w.cell? ⟨b, o + k, none⟩ = some (.int .i64 l[k]) ∧ -9223372036854775808 ≤ l[k] ∧ l[k] ≤ 9223372036854775807 := by
  obtain ⟨u, h1, h2⟩ := slice_at1 (r := intR .i64) rfl h hk
  obtain ⟨h2, h3⟩ := h2
  simp at h2
  subst h2
  exact ⟨h1, wf_i64 h3⟩
theorem exists_list {α : Type} {p : Nat → α → Prop} : ∀ {n : Nat}, (∀ i, i < n → ∃ y, p i y) → ∃ l : List α, l.length = n ∧ ∀ i (h : i < l.length), p i l[i] := by
  intro n
  induction n with
  | zero => intro _; exact ⟨[], rfl, fun i h => absurd h (by simp)⟩
  | succ n ih =>
    intro h
    obtain ⟨l, h1, h2⟩ := ih fun i hi => h i (by omega)
    obtain ⟨y, hy⟩ := h n (by omega)
    refine ⟨l ++ [y], by simp [h1], fun i hi => ?_⟩
    by_cases hin : i < l.length
    · rw [List.getElem_append_left hin]; exact h2 i hin
    · have : i = l.length := by simp at hi; omega
      subst this
      rw [List.getElem_append_right (by omega)]
      simpa [h1] using hy

/-! ### arguments open into it -/
def Opens {α : Type} (P : Program) (t : TypeId) (r : Rep α) : Prop := ∀ (H : Type) (enc : TypeId × Value → H) (w : World) (fuel : Nat) (cs : List Value) (x : DataW H × List MemPlace),
  DataW.trod enc P w 0 (fun _ => true) true fuel t cs = some x → ∃ a, r.at_ w (fun b => b < w.heap.size) cs a
section
variable {P : Program}
theorem opens_int {t : TypeId} {k : IntKind} (h : P.underlying t = some (.int k)) : Opens P t (intR k) := by
  intro H enc w fuel cs x hx
  obtain ⟨n, rfl, _, hw⟩ := DataW.trod_int h hx
  exact ⟨n, rfl, hw⟩
theorem opens_slice {α : Type} {t e : TypeId} {r : Rep α} (ht : P.underlying t = some (.slice e)) (hs : P.cellsOf e = r.size) (hp : 0 < r.size) (ho : Opens P e r) : Opens P t (sliceR r) := by
  intro H enc w fuel cs x hx
  rcases Go.Deep.open_slice ht hx with ⟨rfl, _⟩ | ⟨a, len, cap, m, n, D, Pl, rfl, _, hl, hm, hmm, _, hi⟩
  · exact ⟨[], slice_nil _ _ _⟩
  · simp only [if_true] at hmm
    subst hmm
    obtain ⟨l, hll, hl2⟩ := exists_list (n := len) (p := fun i y => ∃ cs', w.cells? 0 (a.add (i * P.cellsOf e)) (P.cellsOf e) = some cs' ∧ r.at_ w (fun b => b < w.heap.size) cs' y) (fun i hil => by
      obtain ⟨cs', h1, h2⟩ := hi i (by omega)
      obtain ⟨y, hy⟩ := ho H enc w n cs' _ h2
      exact ⟨y, cs', h1, hy⟩)
    subst hll
    refine ⟨l, some a, _, rfl, hl, by simpa [maxLen] using hm, fun h0 => ?_⟩
    obtain ⟨cs0, h1, h2⟩ := hl2 0 h0
    obtain ⟨_, hlen, hc⟩ := World.cells?_some h1
    have hc0 := hc 0 (by omega)
    have hlt : 0 < cs0.length := by rw [hlen]; omega
    rw [List.getElem?_eq_getElem hlt] at hc0
    have e0 : (a.add (0 * P.cellsOf e)).add 0 = a := by simp [Addr.add]
    rw [e0] at hc0
    have hb := World.block_lt_of_cell? w a hc0
    have hsp : a.spot = none := by
      unfold World.cell? at hc0
      split at hc0
      · split at hc0
        · cases hc0
        · rename_i h5; simpa using h5
      · cases hc0
    obtain ⟨b, o, sp⟩ := a
    simp only at hsp hb
    subst hsp
    refine ⟨b, o, rfl, hb, fun i hi' => ?_⟩
    obtain ⟨cs', h1, h2⟩ := hl2 i hi'
    refine ⟨cs', fun j u hu => ?_, h2⟩
    obtain ⟨_, hlen', hc'⟩ := World.cells?_some h1
    have hj : j < P.cellsOf e := by
      have := (List.getElem?_eq_some_iff.1 hu).1
      omega
    have := hc' j hj
    rw [hu, Go.Deep.add_add, hs] at this
    rw [← this]
    congr 1
    unfold Addr.add
    split
    · rename_i h6; simp_all
    · simp [Nat.add_assoc]

end
end
section
open Go.RowKit

def ok64 (n : Int) : Prop := -9223372036854775808 ≤ n ∧ n ≤ 9223372036854775807
def Inst.cells (x : Inst) : List Value := [.int .i64 x.op, .int .i64 x.la, .int .i64 x.ln, .int .i64 x.ra, .int .i64 x.rn, .int .i64 x.n, .int .i64 x.u]
def Inst.ok (x : Inst) : Prop := ok64 x.op ∧ ok64 x.la ∧ ok64 x.ln ∧ ok64 x.ra ∧ ok64 x.rn ∧ ok64 x.n ∧ ok64 x.u
def instR : Rep Inst where
  size := 7
  at_ := fun _ _ cs x => cs = x.cells ∧ x.ok
  len := fun h => by rw [h.1]; rfl
  keep := fun h _ => h
  mono := fun h _ => h

structure Item where
  op : Int
  ln : ByteArray
  lv : Int
  rn : ByteArray
  rv : Int
  name : ByteArray
  user : ByteArray
  line : Int
  col : Int
def Item.cells (x : Item) : List Value := [.int .i64 x.op, .string x.ln, .int .i64 x.lv, .string x.rn, .int .i64 x.rv, .string x.name, .string x.user, .int .i64 x.line, .int .i64 x.col]
def Item.ok (x : Item) : Prop := ok64 x.op ∧ ok64 x.lv ∧ ok64 x.rv ∧ ok64 x.line ∧ ok64 x.col ∧ x.ln.size ≤ 9223372036854775807 ∧ x.rn.size ≤ 9223372036854775807 ∧ x.name.size ≤ 9223372036854775807 ∧ x.user.size ≤ 9223372036854775807
end
section
open Go.RowKit Go.ChangeShapes Go.WideShapes Go.Deep

/-- the fields from an offset on open into r -/
def OpensF {α : Type} (P : Program) (fs : List Field) (off : Nat) (r : Rep α) : Prop := ∀ (H : Type) (enc : TypeId × Value → H) (w : World) (fuel : Nat) (cs : List Value),
  off + r.size ≤ cs.length → (∀ (i : Nat) (f : Field), fs[i]? = some f → ∃ x, DataW.trod enc P w 0 (fun _ => true) true fuel f.type ((cs.drop f.offset).take (P.cellsOf f.type)) = some x) →
  ∃ a, r.at_ w (fun b => b < w.heap.size) ((cs.drop off).take r.size) a
theorem opensF_nil (P : Program) (off : Nat) : OpensF P [] off nilR := fun _ _ _ _ _ _ _ => ⟨(), by simp [nilR]⟩
theorem opensF_cons {α β : Type} {P : Program} {f : Field} {fs : List Field} {off : Nat} {r : Rep α} {s : Rep β} (ho : f.offset = off) (hc : P.cellsOf f.type = r.size) (h1 : Opens P f.type r) (h2 : OpensF P fs (off + r.size) s) : OpensF P (f :: fs) off (pairR r s) := by
  intro H enc w fuel cs hl hf
  have hlr : off + (r.size + s.size) ≤ cs.length := hl
  obtain ⟨x, hx⟩ := hf 0 f rfl
  obtain ⟨a, ha⟩ := h1 H enc w fuel _ _ hx
  obtain ⟨b, hb⟩ := h2 H enc w fuel cs (by omega) (fun i g hg => hf (i + 1) g (by simpa using hg))
  refine ⟨(a, b), _, _, ?_, ha, hb⟩
  rw [ho, hc]
  show List.take (r.size + s.size) (cs.drop off) = _
  rw [List.take_add, List.drop_drop]
theorem opens_struct {α : Type} {P : Program} {t : TypeId} {fs : Array Field} {r : Rep α} (ht : P.underlying t = some (.struct fs)) (hc : P.cellsOf t = r.size) (ho : OpensF P fs.toList 0 r) : Opens P t r := by
  intro H enc w fuel cs x hx
  obtain ⟨xs, n, _, _, hl, hlen, hf⟩ := DataW.trod_struct ht hx
  obtain ⟨a, ha⟩ := ho H enc w n cs (by omega) (fun i f hfi => by
    have hfi' : fs[i]? = some f := by simpa using hfi
    have h1 := hf i f hfi'
    have hi : i < xs.length := by rw [hlen]; exact (Array.getElem?_eq_some_iff.1 hfi').1
    exact ⟨xs[i], by rw [h1, List.getElem?_eq_getElem hi]⟩)
  refine ⟨a, ?_⟩
  rwa [List.drop_zero, List.take_of_length_le (by omega)] at ha
theorem opens_map {α β : Type} {P : Program} {t : TypeId} {r : Rep α} {s : Rep β} (h : Opens P t r) (f : α → β) (hf : ∀ w S cs a, r.at_ w S cs a → s.at_ w S cs (f a)) : Opens P t s := by
  intro H enc w fuel cs x hx
  obtain ⟨a, ha⟩ := h H enc w fuel cs x hx
  exact ⟨f a, hf _ _ _ _ ha⟩
theorem okWide_struct {P : Program} {W : World} {r : Reach} {b : Nat} {t : TypeId} {fs : Array Field} {v : Value} (ht : P.underlying t = some (.struct fs)) (h : Value.okWide P W r b t v) : ∃ cs, v = .agg cs ∧ cs.size = P.cellsOf t := by
  simp only [Value.okWide, ht] at h
  obtain ⟨cs, h1, h2, _⟩ := h
  exact ⟨cs, h1, h2⟩
theorem pair_inv {α β : Type} {r : Rep α} {s : Rep β} {w : World} {S : Nat → Prop} {cs : List Value} {p : α × β} (h : (pairR r s).at_ w S cs p) : ∃ c1 c2, cs = c1 ++ c2 ∧ r.at_ w S c1 p.1 ∧ s.at_ w S c2 p.2 := h
/-- one cell is one cell -/
theorem one_inv {α : Type} {r : Rep α} {w : World} {S : Nat → Prop} {cs : List Value} {a : α} (hr : r.size = 1) (h : r.at_ w S cs a) : ∃ v, cs = [v] ∧ r.one w S v a := by
  have := r.len h
  rw [hr] at this
  match cs, this with
  | [v], _ => exact ⟨v, rfl, h⟩
end
section
open Go.RowKit

structure Gd where
  stage : Int
  event : Int
  cond : List Inst
structure Ml where
  name : ByteArray
  stage : Int
  event : Int
  cond : List Inst
  final : Bool
structure Ev where
  name : ByteArray
  role : Int
  stage : Int
  sets : List Int
  times : Int
structure Mod where
  attrs : List ByteArray
  inits : List Int
  users : List ByteArray
  roles : List (ByteArray × Int)
  stages : List (ByteArray × Int)
  events : List Ev
  guards : List Gd
  miles : List Ml
  sods : List (Int × Int)
  order : List (Bool × Int)
def strOk (s : ByteArray) : Prop := s.size ≤ 9223372036854775807
def nameIntR : Rep (ByteArray × Int) where
  size := 2
  at_ := fun _ _ cs x => cs = [.string x.1, .int .i64 x.2] ∧ strOk x.1 ∧ ok64 x.2
  len := fun h => by rw [h.1]; rfl
  keep := fun h _ => h
  mono := fun h _ => h
def intIntR : Rep (Int × Int) where
  size := 2
  at_ := fun _ _ cs x => cs = [.int .i64 x.1, .int .i64 x.2] ∧ ok64 x.1 ∧ ok64 x.2
  len := fun h => by rw [h.1]; rfl
  keep := fun h _ => h
  mono := fun h _ => h
def sentryR : Rep (Bool × Int) where
  size := 2
  at_ := fun _ _ cs x => cs = [.bool x.1, .int .i64 x.2] ∧ ok64 x.2
  len := fun h => by rw [h.1]; rfl
  keep := fun h _ => h
  mono := fun h _ => h
def gdR : Rep Gd where
  size := 3
  at_ := fun w S cs g => ∃ cv, cs = [.int .i64 g.stage, .int .i64 g.event, cv] ∧ (sliceR instR).one w S cv g.cond ∧ ok64 g.stage ∧ ok64 g.event
  len := fun ⟨_, h, _⟩ => by rw [h]; rfl
  keep := fun ⟨cv, h, h2, h3⟩ hk => ⟨cv, h, slice_keep h2 hk, h3⟩
  mono := fun ⟨cv, h, h2, h3⟩ hB => ⟨cv, h, slice_mono h2 hB, h3⟩
def mlR : Rep Ml where
  size := 5
  at_ := fun w S cs g => ∃ cv, cs = [.string g.name, .int .i64 g.stage, .int .i64 g.event, cv, .bool g.final] ∧ (sliceR instR).one w S cv g.cond ∧ ok64 g.stage ∧ ok64 g.event ∧ strOk g.name
  len := fun ⟨_, h, _⟩ => by rw [h]; rfl
  keep := fun ⟨cv, h, h2, h3⟩ hk => ⟨cv, h, slice_keep h2 hk, h3⟩
  mono := fun ⟨cv, h, h2, h3⟩ hB => ⟨cv, h, slice_mono h2 hB, h3⟩
def evR : Rep Ev where
  size := 5
  at_ := fun w S cs g => ∃ cv, cs = [.string g.name, .int .i64 g.role, .int .i64 g.stage, cv, .int .i64 g.times] ∧ (sliceR (intR .i64)).one w S cv g.sets ∧ ok64 g.role ∧ ok64 g.stage ∧ ok64 g.times ∧ strOk g.name
  len := fun ⟨_, h, _⟩ => by rw [h]; rfl
  keep := fun ⟨cv, h, h2, h3⟩ hk => ⟨cv, h, slice_keep h2 hk, h3⟩
  mono := fun ⟨cv, h, h2, h3⟩ hB => ⟨cv, h, slice_mono h2 hB, h3⟩

/-- a slice whose things lie anywhere in memory -/
def SI {α : Type} (r : Rep α) (w : World) (v : Value) (l : List α) : Prop := (sliceR r).one w (fun b => b < w.heap.size) v l
theorem SI.below {α : Type} {r : Rep α} {w w' : World} {v : Value} {l : List α} (h : SI r w v l) (hb : Below w.heap.size w w') : SI r w' v l := slice_mono (slice_below h hb fun b h => h) fun b h => Nat.lt_of_lt_of_le h hb.size
theorem SI.mk {α : Type} {r : Rep α} {w : World} {S : Nat → Prop} {v : Value} {l : List α} (h : (sliceR r).one w S v l) (hS : ∀ b, S b → b < w.heap.size) : SI r w v l := slice_mono h hS
/-- the values of a model's ten lists -/
structure MV where
  attrs : Value
  inits : Value
  users : Value
  roles : Value
  stages : Value
  events : Value
  guards : Value
  miles : Value
  sods : Value
  order : Value
abbrev MV.cells (V : MV) : Array Value := #[V.attrs, V.inits, V.users, V.roles, V.stages, V.events, V.guards, V.miles, V.sods, V.order]
structure ModI (w : World) (V : MV) (m : Mod) : Prop where
  attrs : SI strR w V.attrs m.attrs
  inits : SI (intR .i64) w V.inits m.inits
  users : SI strR w V.users m.users
  roles : SI nameIntR w V.roles m.roles
  stages : SI nameIntR w V.stages m.stages
  events : SI evR w V.events m.events
  guards : SI gdR w V.guards m.guards
  miles : SI mlR w V.miles m.miles
  sods : SI intIntR w V.sods m.sods
  order : SI sentryR w V.order m.order
theorem ModI.below {w w' : World} {V : MV} {m : Mod} (h : ModI w V m) (hb : Below w.heap.size w w') : ModI w' V m :=
  ⟨h.attrs.below hb, h.inits.below hb, h.users.below hb, h.roles.below hb, h.stages.below hb, h.events.below hb, h.guards.below hb, h.miles.below hb, h.sods.below hb, h.order.below hb⟩
end
section
open Go.RowKit

theorem number_any (i : Int) (w : World) : Calls Try.prog 47 #[.int .i64 i] w fun e w' => e = .returned (.bool (decide (0 ≤ i) && decide (i < 31))) ∧ w = w' := by
  by_cases h : 0 ≤ i <;> (go_enter Try.func47, Try.ntmps47; go_wp2; go_ret; exact ⟨by congr 2; simp [h] <;> omega, rfl⟩)
theorem ret_bool {a b : Bool} (h : a = b) : Ending.returned (.bool a) = .returned (.bool b) := by rw [h]
theorem ret_i64 {a b : Int} (h : a = b) : Ending.returned (.int .i64 a) = .returned (.int .i64 b) := by rw [h]
theorem has_any (s i : Int) (w : World) : Calls Try.prog 35 #[.int .i64 s, .int .i64 i] w fun e w' => e = .returned (.bool (hasB s i)) ∧ w = w' := by
  by_cases h0 : 0 ≤ i
  · by_cases h1 : i < 31
    · have e0 : decide (0 ≤ i) = true := by simp; omega
      have e1 : decide (i < 31) = true := by simp; omega
      go_enter Try.func35, Try.ntmps35
      go_wp2_with (go_at_call 47; refine (number_any _ _).mono ?_; rintro e w' ⟨rfl, rfl⟩)
      go_ret
      exact ⟨ret_bool (by unfold hasB; rw [and_one_i64, e0, e1]; rfl), rfl⟩
    · have e0 : decide (0 ≤ i) = true := by simp; omega
      have e1 : decide (i < 31) = false := by simp; omega
      go_enter Try.func35, Try.ntmps35
      go_wp2_with (go_at_call 47; refine (number_any _ _).mono ?_; rintro e w' ⟨rfl, rfl⟩)
      go_ret
      exact ⟨ret_bool (by unfold hasB; rw [e0, e1]; rfl), rfl⟩
  · have e0 : decide (0 ≤ i) = false := by simp; omega
    go_enter Try.func35, Try.ntmps35
    go_wp2_with (go_at_call 47; refine (number_any _ _).mono ?_; rintro e w' ⟨rfl, rfl⟩)
    go_ret
    exact ⟨ret_bool (by unfold hasB; rw [e0]; rfl), rfl⟩
end
section
open Go.RowKit

/-- a set's lowest 31 bits -/
def low (s : Int) : Nat := (s % 2147483648).toNat
theorem low_lt (s : Int) : low s < 2 ^ 31 := by unfold low; omega
theorem low_of (n : Nat) (h : n < 2 ^ 31) : low (n : Int) = n := by unfold low; omega
def withB (s i : Int) : Int := if 0 ≤ i ∧ i < 31 then ((low s ||| 2 ^ i.toNat : Nat) : Int) else (low s : Int)
def withoutB (s i : Int) : Int := if 0 ≤ i ∧ i < 31 then ((low s ^^^ (low s &&& 2 ^ i.toNat) : Nat) : Int) else (low s : Int)
theorem hasB_low (s : Int) (j : Nat) (hj : j < 31) : hasB s (j : Int) = (low s).testBit j := by
  have h1 : hasB s (j : Int) = (s / 2 ^ j % 2 == 1) := by
    unfold hasB
    rw [show decide (0 ≤ (j : Int)) = true by simp, show decide ((j : Int) < 31) = true by simp; omega]
    rfl
  rw [h1, Nat.testBit_eq_decide_div_mod_eq]
  have hs : s = 2 ^ j * (2 ^ (30 - j) * 2 * (s / 2147483648)) + s % 2147483648 := by
    have e : (2 : Int) ^ j * (2 ^ (30 - j) * 2 * (s / 2147483648)) = (2 ^ j * 2 ^ (30 - j) * 2) * (s / 2147483648) := by
      rw [← Int.mul_assoc, ← Int.mul_assoc]
    rw [e, ← Int.pow_add, show j + (30 - j) = 30 by omega]
    have := Int.mul_ediv_add_emod s 2147483648
    omega
  have h2 : s / 2 ^ j % 2 = ((low s / 2 ^ j % 2 : Nat) : Int) := by
    have hr : ((low s : Nat) : Int) = s % 2147483648 := by unfold low; omega
    rw [Int.natCast_emod, Int.natCast_ediv, hr]
    have hp : ((2 ^ j : Nat) : Int) = 2 ^ j := by simp
    rw [hp]
    conv => lhs; rw [hs]
    rw [Int.add_comm, Int.add_mul_ediv_left _ _ (by have : (0 : Int) < 2 ^ j := Int.pow_pos (by omega); omega)]
    rw [show (2 : Int) ^ (30 - j) * 2 * (s / 2147483648) = 2 * (2 ^ (30 - j) * (s / 2147483648)) by rw [Int.mul_comm ((2 : Int) ^ (30 - j)) 2, Int.mul_assoc]]
    omega
  rw [h2]
  generalize low s / 2 ^ j % 2 = n
  rw [Bool.eq_iff_iff]
  simp
  omega
theorem hasB_out (s j : Int) (hj : ¬ (0 ≤ j ∧ j < 31)) : hasB s j = false := by
  unfold hasB
  by_cases h : 0 ≤ j
  · rw [show decide (j < 31) = false by simp; omega]; simp
  · rw [show decide (0 ≤ j) = false by simp; omega]; rfl
theorem hasB_with (s i j : Int) : hasB (withB s i) j = ((decide (0 ≤ i ∧ i < 31) && (j == i)) || hasB s j) := by
  by_cases hj : 0 ≤ j ∧ j < 31
  · obtain ⟨n, rfl⟩ : ∃ n : Nat, j = (n : Int) := ⟨j.toNat, by omega⟩
    unfold withB
    by_cases hi : 0 ≤ i ∧ i < 31
    · obtain ⟨k, rfl⟩ : ∃ k : Nat, i = (k : Int) := ⟨i.toNat, by omega⟩
      have hl : low s ||| 2 ^ k < 2 ^ 31 := Nat.or_lt_two_pow (low_lt s) (Nat.pow_lt_pow_right (by omega) (by omega))
      rw [if_pos hi, Int.toNat_natCast, hasB_low _ _ (by omega), low_of _ hl, Nat.testBit_or, hasB_low _ _ (by omega), Nat.testBit_two_pow, Bool.or_comm]
      congr 1
      rw [Bool.eq_iff_iff]
      simp
      omega
    · rw [if_neg hi, hasB_low _ _ (by omega), low_of _ (low_lt s), hasB_low _ _ (by omega)]
      simp [hi]
  · rw [hasB_out _ _ hj, hasB_out _ _ hj, Bool.or_false]
    symm
    rw [Bool.and_eq_false_iff]
    by_cases hi : 0 ≤ i ∧ i < 31
    · right
      exact beq_eq_false_iff_ne.2 (by omega)
    · left; simpa using hi
theorem hasB_without (s i j : Int) : hasB (withoutB s i) j = (!(j == i) && hasB s j) := by
  by_cases hj : 0 ≤ j ∧ j < 31
  · obtain ⟨n, rfl⟩ : ∃ n : Nat, j = (n : Int) := ⟨j.toNat, by omega⟩
    unfold withoutB
    by_cases hi : 0 ≤ i ∧ i < 31
    · obtain ⟨k, rfl⟩ : ∃ k : Nat, i = (k : Int) := ⟨i.toNat, by omega⟩
      have hl : low s ^^^ (low s &&& 2 ^ k) < 2 ^ 31 := Nat.xor_lt_two_pow (low_lt s) (Nat.lt_of_le_of_lt Nat.and_le_left (low_lt s))
      rw [if_pos hi, Int.toNat_natCast, hasB_low _ _ (by omega), low_of _ hl, Nat.testBit_xor, Nat.testBit_and, Nat.testBit_two_pow, hasB_low _ _ (by omega)]
      by_cases e : n = k
      · subst e; cases (low s).testBit n <;> simp
      · rw [show ((n : Int) == (k : Int)) = false from beq_eq_false_iff_ne.2 (by omega), show decide (k = n) = false by simp; omega]; simp
    · rw [if_neg hi, hasB_low _ _ (by omega), low_of _ (low_lt s), hasB_low _ _ (by omega), show ((n : Int) == i) = false from beq_eq_false_iff_ne.2 (by omega)]; rfl
  · rw [hasB_out _ _ hj, hasB_out _ _ hj, Bool.and_false]

theorem ofInt_nat64 (a : Nat) (ha : a < 2 ^ 64) : (BitVec.ofInt 64 (a : Int)).toNat = a := by
  rw [BitVec.ofInt_natCast, BitVec.toNat_ofNat]; exact Nat.mod_eq_of_lt ha
theorem wrap_nat (n : Nat) (h : n < 2 ^ 63) : IntKind.i64.wrap (n : Int) = (n : Int) := by
  simp [IntKind.wrap, IntKind.bits, IntKind.signed]
  omega
theorem and_all (s : Int) : bits .and .i64 s 2147483647 = (low s : Int) := by
  show IntKind.i64.wrap ((BitVec.ofInt 64 s &&& BitVec.ofInt 64 2147483647).toNat : Int) = _
  have h : (BitVec.ofInt 64 s &&& BitVec.ofInt 64 2147483647).toNat = low s := by
    rw [BitVec.toNat_and, show (BitVec.ofInt 64 2147483647).toNat = 2 ^ 31 - 1 from rfl, Nat.and_two_pow_sub_one_eq_mod, BitVec.toNat_ofInt]
    unfold low
    omega
  rw [h]
  exact wrap_nat _ (Nat.lt_trans (low_lt s) (by decide))
theorem or_nat (a b : Nat) (ha : a < 2 ^ 62) (hb : b < 2 ^ 62) : bits .or .i64 (a : Int) (b : Int) = ((a ||| b : Nat) : Int) := by
  show IntKind.i64.wrap ((BitVec.ofInt 64 (a : Int) ||| BitVec.ofInt 64 (b : Int)).toNat : Int) = _
  rw [BitVec.toNat_or, ofInt_nat64 a (by omega), ofInt_nat64 b (by omega)]
  exact wrap_nat _ (Nat.lt_trans (Nat.or_lt_two_pow ha hb) (by decide))
theorem pow_wrap (i : Int) (h0 : 0 ≤ i) (h1 : i < 31) : wrap64 (2 ^ i.toNat) = ((2 ^ i.toNat : Nat) : Int) := by
  have h2 : (2 : Nat) ^ i.toNat < 2 ^ 31 := Nat.pow_lt_pow_right (by omega) (by omega)
  have e : (2 : Int) ^ i.toNat = ((2 ^ i.toNat : Nat) : Int) := by simp
  rw [e]
  clear e
  generalize (2 : Nat) ^ i.toNat = n at *
  exact IntWalk.wrap64_in _ ⟨by omega, by omega⟩

theorem with_any (s i : Int) (w : World) : Calls Try.prog 49 #[.int .i64 s, .int .i64 i] w fun e w' => e = .returned (.int .i64 (withB s i)) ∧ w = w' := by
  unfold withB
  by_cases h0 : 0 ≤ i
  · by_cases h1 : i < 31
    · have e0 : decide (0 ≤ i) = true := by simp; omega
      have e1 : decide (i < 31) = true := by simp; omega
      rw [if_pos ⟨h0, h1⟩]
      go_enter Try.func49, Try.ntmps49
      go_wp2_with (go_at_call 47; refine (number_any _ _).mono ?_; rintro e w' ⟨rfl, rfl⟩)
      go_ret
      exact ⟨ret_i64 (by rw [and_all, pow_wrap i h0 h1, or_nat _ _ (Nat.lt_trans (low_lt s) (by decide)) (Nat.pow_lt_pow_right (by omega) (by omega))]), rfl⟩
    · have e0 : decide (0 ≤ i) = true := by simp; omega
      have e1 : decide (i < 31) = false := by simp; omega
      rw [if_neg (by omega)]
      go_enter Try.func49, Try.ntmps49
      go_wp2_with (go_at_call 47; refine (number_any _ _).mono ?_; rintro e w' ⟨rfl, rfl⟩)
      go_ret
      exact ⟨ret_i64 (and_all s), rfl⟩
  · have e0 : decide (0 ≤ i) = false := by simp; omega
    rw [if_neg (by omega)]
    go_enter Try.func49, Try.ntmps49
    go_wp2_with (go_at_call 47; refine (number_any _ _).mono ?_; rintro e w' ⟨rfl, rfl⟩)
    go_ret
    exact ⟨ret_i64 (and_all s), rfl⟩
end
section
open Go.RowKit
theorem mixedT : Try.prog.follows .mixedOrders = true := by kernel_rfl
end
section
theorem nodup_len : ∀ (n : Nat) (l : List Int), l.Nodup → (∀ x ∈ l, 0 ≤ x ∧ x < (n : Int)) → l.length ≤ n := by
  intro n
  induction n with
  | zero =>
    intro l _ h
    cases l with
    | nil => simp
    | cons x l => have := h x (by simp); omega
  | succ n ih =>
    intro l hn h
    by_cases hm : (n : Int) ∈ l
    · have h1 := ih (l.erase (n : Int)) (hn.erase _) (fun x hx => by
        have := (hn.mem_erase_iff).1 hx
        have := h x this.2
        omega)
      rw [List.length_erase_of_mem hm] at h1
      omega
    · have := ih l hn (fun x hx => by
        have h2 := h x hx
        have : x ≠ (n : Int) := fun e => hm (e ▸ hx)
        omega)
      omega

/-- is it a place? -/
def isAt (l : List Int) (i : Int) : Prop := 0 ≤ i ∧ i < (l.length : Int)
instance (l : List Int) (i : Int) : Decidable (isAt l i) := by unfold isAt; infer_instance
/-- the place itself; -1: it is none -/
def norm (l : List Int) (i : Int) : Int := if isAt l i then i else -1
/-- the place that a place lies in; -1: none -/
def par (l : List Int) (i : Int) : Int := if isAt l i then norm l (l.getD i.toNat 0) else -1
def upN (l : List Int) (i : Int) : Nat → Int
  | 0 => norm l i
  | k + 1 => par l (upN l i k)
/-- the places above, so many at the most -/
def goUp (l : List Int) (i : Int) : Nat → Int → List Int → List Int
  | 0, _, out => out
  | f + 1, p, out => if par l p = -1 ∨ par l p = i ∨ par l p ∈ out then out else goUp l i f (par l p) (out ++ [par l p])
def aboveL (l : List Int) (i : Int) : List Int := goUp l i l.length i []

theorem norm_cases (l : List Int) (i : Int) : (isAt l i ∧ norm l i = i) ∨ (¬ isAt l i ∧ norm l i = -1) := by
  unfold norm; split <;> simp [*]
theorem norm_at (l : List Int) (i : Int) : norm l i = -1 ∨ isAt l (norm l i) := by
  rcases norm_cases l i with ⟨h, e⟩ | ⟨_, e⟩ <;> rw [e]
  · exact .inr h
  · exact .inl rfl
theorem par_at (l : List Int) (i : Int) : par l i = -1 ∨ isAt l (par l i) := by
  unfold par; split
  · exact norm_at _ _
  · exact .inl rfl
theorem par_norm (l : List Int) (i : Int) : par l (norm l i) = par l i := by
  rcases norm_cases l i with ⟨h, e⟩ | ⟨h, e⟩
  · rw [e]
  · rw [e]; unfold par; rw [if_neg h, if_neg (by simp [isAt])]
theorem upN_one (l : List Int) (i : Int) : upN l i 1 = par l i := par_norm l i

/-- the state of the way up: so many places told, all unlike, none the first one -/
structure UpAt (l : List Int) (i : Int) (m : Nat) (p : Int) (out : List Int) : Prop where
  len : out.length = m
  eq : ∀ j, j < m → out[j]? = some (upN l i (j + 1))
  cur : par l p = upN l i (m + 1)
  nodup : out.Nodup
  at_ : ∀ x ∈ out, isAt l x
  not : i ∉ out
  room : m ≤ l.length
  rest : goUp l i (l.length - m) p out = aboveL l i
theorem UpAt.start (l : List Int) (i : Int) : UpAt l i 0 i [] :=
  ⟨rfl, fun j h => by omega, (upN_one l i).symm, List.nodup_nil, fun x h => by simp at h, by simp, by omega, rfl⟩
def stops (l : List Int) (i : Int) (p : Int) (out : List Int) : Prop := par l p = -1 ∨ par l p = i ∨ par l p ∈ out
instance (l : List Int) (i p : Int) (out : List Int) : Decidable (stops l i p out) := by unfold stops; infer_instance
theorem UpAt.next {l : List Int} {i : Int} {m : Nat} {p : Int} {out : List Int} (h : UpAt l i m p out) (hs : ¬ stops l i p out) : UpAt l i (m + 1) (par l p) (out ++ [par l p]) ∧ m + 1 ≤ l.length := by
  unfold stops at hs
  simp only [not_or] at hs
  have hat : isAt l (par l p) := (par_at l p).resolve_left hs.1
  have hnd : (out ++ [par l p]).Nodup := by
    rw [List.nodup_append]
    refine ⟨h.nodup, by simp, fun a ha b hb e => ?_⟩
    simp at hb
    subst hb; subst e
    exact hs.2.2 ha
  have hall : ∀ x ∈ out ++ [par l p], isAt l x := by
    intro x hx
    rcases List.mem_append.1 hx with hx | hx
    · exact h.at_ x hx
    · simp at hx; subst hx; exact hat
  have hlen : m + 1 ≤ l.length := by
    have := nodup_len l.length _ hnd hall
    simp [h.len] at this
    exact this
  refine ⟨⟨by simp [h.len], fun j hj => ?_, by rw [show upN l i (m + 1 + 1) = par l (upN l i (m + 1)) from rfl, h.cur], hnd, hall, ?_, hlen, ?_⟩, hlen⟩
  · by_cases hjm : j < m
    · rw [List.getElem?_append_left (by rw [h.len]; exact hjm)]; exact h.eq j hjm
    · have : j = m := by omega
      subst this
      rw [List.getElem?_append_right (by rw [h.len]; omega), h.len, Nat.sub_self]
      simp [h.cur]
  · intro hi
    rcases List.mem_append.1 hi with hi | hi
    · exact h.not hi
    · simp at hi; exact hs.2.1 hi.symm
  · have := h.rest
    rw [show l.length - m = (l.length - (m + 1)) + 1 from by omega, goUp, if_neg (by simp only [not_or]; exact hs)] at this
    exact this
/-- does the way up come back to where it began? -/
def circ (l : List Int) (i : Int) : Prop := isAt l i ∧ par l (((aboveL l i).getLast?).getD i) = i
instance (l : List Int) (i : Int) : Decidable (circ l i) := by unfold circ; infer_instance
def isL (l : List Int) (a i : Int) : Prop := ∃ j, 1 ≤ j ∧ j ≤ l.length ∧ 0 ≤ a ∧ upN l i j = a
end
section
open Go.ChangeShapes Go.WideShapes Go.ChangeAt Go.RowKit

theorem lawOwn : ownKnob Try.prog.godebug = none := by kernel_rfl
theorem lawLaid : laidOutB Try.prog = true := by kernel_rfl
theorem lawBool : Try.prog.underlying 4 = some .bool := Try.underlying4

theorem trodAll_below {H : Type} {enc : TypeId × Value → H} {P : Program} (hl : laidOutB P = true) {W W' : World} (hb : Below W.heap.size W W') (sp : Nat → Bool) :
    ∀ {ts : List TypeId} {vs : List Value} {ds : List (DataW H)} {ps : List MemPlace}, (ts.all fun t => P.readableRec t && decide (t < P.types.size)) = true →
      DataW.TrodAll enc P W 0 (fun _ => true) true ts vs ds ps → (∀ x ∈ ps, x.block < W.heap.size) → (∀ p ∈ ps, sp p.block = true) → DataW.TrodAll enc P W' 0 sp true ts vs ds ps
  | [], [], [], _, _, h, _, _ => h
  | t :: ts, v :: vs, d :: ds, ps, ht, h, hlt, hs => by
    obtain ⟨p, q, h1, h2, rfl⟩ := h
    simp only [List.all_cons, Bool.and_eq_true, decide_eq_true_eq] at ht
    refine ⟨p, q, WideElems.Trod_stays hl ht.1.1 ht.1.2 h1 (fun x hx => hb.same (hlt x (List.mem_append.2 (.inl hx)))) (fun x hx => hs x (List.mem_append.2 (.inl hx))), ?_, rfl⟩
    exact trodAll_below hl hb sp (by simpa using ht.2) h2 (fun x hx => hlt x (List.mem_append.2 (.inr hx))) (fun x hx => hs x (List.mem_append.2 (.inr hx)))
  | [], [], _ :: _, _, _, h, _, _ => h.elim
  | [], _ :: _, _, _, _, h, _, _ => h.elim
  | _ :: _, [], _, _, _, h, _, _ => h.elim
  | _ :: _, _ :: _, [], _, _, h, _, _ => h.elim

theorem law_calls {H : Type} {enc : TypeId × Value → H} {f : Func} {s : ChangeSpec} {fid : FuncId} {W : World} {args : Array Value} {ds gs : List (DataW H)} {before : List MemPlace}
    (hts : (f.params.toList.all fun t => Try.prog.readableRec t && decide (t < Try.prog.types.size)) = true) (hrt : f.resultTypes = #[4]) (hsv : s.vars = [])
    (hW : DataW.Whole enc Try.prog f.params.toList s.vars false W args.toList ds gs before)
    (hfn : ∀ gs', gs' = [] → s.fn H (ds ++ gs') = { results := [.lit (.bool true)], args := ds })
    (hc : Calls Try.prog fid args W fun e W' => e = .returned (.bool true) ∧ Below W.heap.size W W') :
    Calls Try.prog fid args W fun e W' => ∃ v, e = .returned v ∧ s.post enc Try.prog f false true false false W args v W' := by
  refine hc.mono fun e W' ⟨he, hb⟩ => ⟨_, he, ?_⟩
  have hW' := hW
  obtain ⟨p, q, hA, hV, rfl, hfz, hnd⟩ := hW
  rw [hsv] at hV
  obtain ⟨rfl, rfl⟩ := trodVars_none hV
  have hlt : ∀ x ∈ p, x.block < W.heap.size := fun x hx => hW'.lt x (List.mem_append.2 (.inl hx))
  have e1 := hfn [] rfl
  refine ⟨ds, [], p ++ [], [], p, [], hW', ?_, ?_, ?_, hb.frame _, fun h => by cases h⟩
  · rw [e1, hrt]
    exact trodAll_mk1 (shut_bool lawBool true)
  · rw [e1]
    exact trodAll_below lawLaid hb _ hts hA hlt (fun x hx => by simpa using hlt x hx)
  · rw [e1, hsv]
    rfl
end
section
open Go.RowKit

/-- a slice of ints reads as a list -/
def RI (w : World) (v : Value) (l : List Int) : Prop := (sliceR (intR .i64)).one w (fun b => b < w.heap.size) v l
theorem RI.below {w w' : World} {v : Value} {l : List Int} (h : RI w v l) (hb : Below w.heap.size w w') : RI w' v l := slice_mono (slice_below h hb fun b h => h) fun b h => Nat.lt_of_lt_of_le h hb.size
theorem RI.at_ {w : World} {A : Option Addr} {n c : Nat} {l : List Int} (h : RI w (.slice A n c) l) {k : Nat} (hk : k < l.length) :
    ∃ b o, A = some ⟨b, o, none⟩ ∧ w.cell? ⟨b, o + k, none⟩ = some (.int .i64 (l.getD k 0)) ∧ -9223372036854775808 ≤ l.getD k 0 ∧ l.getD k 0 ≤ 9223372036854775807 := by
  obtain ⟨b, o, rfl, hb, _⟩ := slice_some h (by omega)
  have := ints_at h hk
  rw [List.getD, List.getElem?_eq_getElem hk]
  exact ⟨b, o, rfl, this⟩
theorem RI.own {w : World} {base : Nat} {v : Value} {n : Nat} {l : List Int} (h : w.ownsRow base 3 1 v n (l.map (Value.int .i64))) (hx : ∀ x ∈ l, -9223372036854775808 ≤ x ∧ x ≤ 9223372036854775807) : RI w v l :=
  slice_mono (slice_own1 (r := intR .i64) _ h rfl fun a ha => ⟨rfl, wf_i64_mk (hx a ha).1 (hx a ha).2⟩) fun b h => h.2

def lenOf : Value → Nat | .slice _ n _ => n | _ => 0
end
section
open Go.RowKit
theorem two_args {vs : Array Value} (h : vs.size = 2) : ∃ a b, vs = #[a, b] := ⟨vs[0], vs[1], by apply Array.ext (by simpa using h); intro i h1 h2; simp at h2; match i with | 0 => rfl | 1 => rfl⟩
theorem gives_tree {r av : AV} {st : ASt} (h : r.ren [] = av) : aGives ⟨r, [], 0⟩ st av := ⟨[], List.nodup_nil, h, trivial⟩
end
section
open Go.RowKit

noncomputable instance (l : List Int) (a i : Int) : Decidable (isL l a i) := Classical.propDecidable _
end
section
open Go.RowKit

def fl (p : Nat → Bool) (k : Nat) : List Int := ((List.range k).filter p).map fun (n : Nat) => (n : Int)
end
section
open Go.RowKit
def bv (b : Bool) : Value := .iface 4 (.bool b)
/-- blocks from H on are as they were -/
def Past (H : Nat) (w w' : World) : Prop := ∀ g, H ≤ g → g < w.heap.size → w'.heap[g]? = w.heap[g]?
theorem Past.cell {H : Nat} {w w' : World} (h : Past H w w') {g i : Nat} (h1 : H ≤ g) (h2 : g < w.heap.size) : w'.cell? ⟨g, i, none⟩ = w.cell? ⟨g, i, none⟩ := World.cell?_of_block (h g h1 h2)
end
section
open Go.RowKit

theorem has_A (s i : Int) : ADet Try.prog 35 [eI s, eI i] (val (.bool (hasB s i))) :=
  adet_of_calls (enters_of Try.func35 rfl (by decide)) fun S w vs hS hn hv => by
    obtain ⟨a, b, rfl⟩ := two_args hn
    obtain rfl := rtc (hv 0 a _ rfl rfl)
    obtain rfl := rtc (hv 1 b _ rfl rfl)
    exact (has_any s i w).mono fun e w' ⟨h1, h2⟩ => ⟨h1, h2 ▸ Below.refl _ _⟩
theorem with_A (s i : Int) : ADet Try.prog 49 [eI s, eI i] (val (.int .i64 (withB s i))) :=
  adet_of_calls (enters_of Try.func49 rfl (by decide)) fun S w vs hS hn hv => by
    obtain ⟨a, b, rfl⟩ := two_args hn
    obtain rfl := rtc (hv 0 a _ rfl rfl)
    obtain rfl := rtc (hv 1 b _ rfl rfl)
    exact (with_any s i w).mono fun e w' ⟨h1, h2⟩ => ⟨h1, h2 ▸ Below.refl _ _⟩
end
section
open Go.RowKit
def encP (x : Pt) : List AV := [eI x.n, eI x.a, eI x.c]
theorem sw_map {l : List Pt} {i j : Nat} (hi : i < l.length) (hj : j < l.length) : ((l.map encP).set i [eI l[j].n, eI l[j].a, eI l[j].c]).set j [eI l[i].n, eI l[i].a, eI l[i].c] = (sw l i j).map encP := by
  unfold sw
  rw [List.map_set, List.map_set, List.getD_eq_getElem?_getD, List.getD_eq_getElem?_getD, List.getElem?_eq_getElem hi, List.getElem?_eq_getElem hj]
  rfl
theorem drop3 {m : List Pt} {i j : Nat} {a b c : AV} : List.drop 3 (((m.map encP).set i [a, b, c])[j]?.getD []) = [] := by
  cases h : ((m.map encP).set i [a, b, c])[j]? with
  | none => rfl
  | some row =>
    have hm := List.mem_of_getElem? h
    rcases List.mem_or_eq_of_mem_set hm with h1 | h1
    · obtain ⟨x, _, rfl⟩ := List.mem_map.1 h1
      rfl
    · rw [h1]
      rfl
set_option maxRecDepth 100000 in
set_option maxHeartbeats 8000000 in
theorem swapRange_M (l : List Pt) (p q n : Nat) (g : FuncId) (hpq : p + n ≤ q) (hq : q + n ≤ l.length) (hl : l.length ≤ 1000000) : AMut Try.prog 72 55 3 (l.map encP) [eI (p : Int), eI (q : Int), eI (n : Int), .fn g []] ((swp l p q n).map encP) := by
  refine amut_of_code mixedT Try.func72 rfl (by decide) Try.ntmps72 Try.results72 rfl (by kernel_rfl) ?_
  (repeat' (first | simp (maxSteps := 5000000) (implicitDefEqProofs := false) only [ruA, ruB, aEv, aTake, aLoad, aField, aIndex, aLen, aBin, bin2, aUn, un1, aExtract, aConv, ASt.get, aget, ASt.put, aStore, aBox, aAppend, aBuildSlice, aMake, aBuild, aFill, oneParts, allC, aBinS, yv, aCells, oneC, oneCL, treeC, treeL, aLit, aDst, aSrc, appTab, Value.cells, Value.oneCell', envOf, aResL, aOne, ↓reduceIte, reduceCtorEq, forall_const, Nat.reduceLT, Nat.reduceEqDiff, Nat.reduceAdd, Nat.reduceMul, Nat.reduceSub, Nat.reduceLeDiff, Nat.reduceBEq, eq_self, implies_true, ne_eq, dref, dref1, dref2, aExecS, aStoreB, aTakes, aTakeE, aElder, aFrom, aFresh, isLoad, aBuildSlice1, frzs, frz1, ownIds, AV.frz, AV.frzL, frzEnv, AV.shift, AV.shiftL, aFieldV, aSliceW, aSliceO, aSlice, aSliceR, aSliceS, aBd, aMax, frzAVs, frzAV, frzTab, AObj.frz, aMM, aNilS, aMay, tyK_3, tyE_52, tyA_55, tyS_55] | (with_reducible refine aIf_split (fun _ => ?_) (fun _ => ?_)) | (with_reducible refine aSel_split (fun _ => ?_) (fun _ => ?_)) | (with_reducible refine aGd_split (fun _ => ?_) (fun _ => ?_))))
  refine aLoop_of (fun st => ∃ k : Nat, k ≤ n ∧ st = ⟨38, [(0, .osl 0), (1, eI (p : Int)), (2, eI (q : Int)), (3, eI (n : Int)), (10, eI (k : Int))], [(0, some (.row 55 3 ((swp l p q k).map encP)))], 1⟩) (fun st => n - slotN st 10) ⟨_, (weak_cut1 (by (first | ((simp only [envIn, tabIn, envLt, tabLt, AObj.lt, AV.lt, AV.ltL, ruW, ASt.get, aget, ASt.put, ↓reduceIte, reduceCtorEq, Nat.reduceLT, Nat.reduceEqDiff, Nat.reduceAdd, Nat.reduceLeDiff, eq_self, implies_true, swp]) <;> (repeat' apply And.intro) <;> first | (rw [wrapK (by omega)]; done) | (simp; done) | omega) | fail))), 0, Nat.zero_le _, rfl⟩ ?_
  rintro _ ⟨k, hk, rfl⟩
  have hlen := swp_len l p q k
  by_cases hlt : k < n
  · have e1 : IntKind.i64.wrap ((p : Int) + (k : Int)) = ((p + k : Nat) : Int) := by rw [wrap_in (by omega) (by omega)]; omega
    have e2 : IntKind.i64.wrap ((q : Int) + (k : Int)) = ((q + k : Nat) : Int) := by rw [wrap_in (by omega) (by omega)]; omega
    have hst : swp l p q (k + 1) = sw (swp l p q k) (p + k) (q + k) := rfl
    obtain ⟨m, hm⟩ : ∃ m, swp l p q k = m := ⟨_, rfl⟩
    rw [hm] at hlen hst ⊢
    have hi : p + k < m.length := by omega
    have hj : q + k < m.length := by omega
    have hsw := sw_map hi hj
    rw [← hst] at hsw
    (repeat' (first | simp (maxSteps := 5000000) (implicitDefEqProofs := false) only [ruA, ruB, aEv, aTake, aLoad, aField, aIndex, aLen, aBin, bin2, aUn, un1, aExtract, aConv, ASt.get, aget, ASt.put, aStore, aBox, aAppend, aBuildSlice, aMake, aBuild, aFill, oneParts, allC, aBinS, yv, aCells, oneC, oneCL, treeC, treeL, aLit, aDst, aSrc, appTab, Value.cells, Value.oneCell', envOf, aResL, aOne, ↓reduceIte, reduceCtorEq, forall_const, Nat.reduceLT, Nat.reduceEqDiff, Nat.reduceAdd, Nat.reduceMul, Nat.reduceSub, Nat.reduceLeDiff, Nat.reduceBEq, eq_self, implies_true, ne_eq, dref, dref1, dref2, aExecS, aStoreB, aTakes, aTakeE, aElder, aFrom, aFresh, isLoad, aBuildSlice1, frzs, frz1, ownIds, AV.frz, AV.frzL, frzEnv, AV.shift, AV.shiftL, aFieldV, aSliceW, aSliceO, aSlice, aSliceR, aSliceS, aBd, aMax, frzAVs, frzAV, frzTab, AObj.frz, aMM, aNilS, aMay, tyK_3, tyE_52, tyA_55, tyS_55, hlt] | (with_reducible refine aIf_split (fun _ => ?_) (fun _ => ?_)) | (with_reducible refine aSel_split (fun _ => ?_) (fun _ => ?_)) | (with_reducible refine aGd_split (fun _ => ?_) (fun _ => ?_))))
    refine aDraw_held [0] [0, 1, 2, 3, 4, 5, 6, 7, 8, 9, 10, 11, 12, 14, 15, 16, 17, 18] (.two 13 (.exec 19 (.take 20 (.exec 21 (.take 22 (.exec 23 .done))))) 19 (.exec 13 (.take 20 (.exec 21 (.take 22 (.exec 23 .done)))))) (by kernel_rfl) (by simp [ATab.get_cons]) ?_
    (repeat' (first | simp (maxSteps := 5000000) (implicitDefEqProofs := false) only [ruA, ruB, aEv, aTake, aLoad, aField, aIndex, aLen, aBin, bin2, aUn, un1, aExtract, aConv, ASt.get, aget, ASt.put, aStore, aBox, aAppend, aBuildSlice, aMake, aBuild, aFill, oneParts, allC, aBinS, yv, aCells, oneC, oneCL, treeC, treeL, aLit, aDst, aSrc, appTab, Value.cells, Value.oneCell', envOf, aResL, aOne, ↓reduceIte, reduceCtorEq, forall_const, Nat.reduceLT, Nat.reduceEqDiff, Nat.reduceAdd, Nat.reduceMul, Nat.reduceSub, Nat.reduceLeDiff, Nat.reduceBEq, eq_self, implies_true, ne_eq, dref, dref1, dref2, aExecS, aStoreB, aTakes, aTakeE, aElder, aFrom, aFresh, isLoad, aBuildSlice1, frzs, frz1, ownIds, AV.frz, AV.frzL, frzEnv, AV.shift, AV.shiftL, aFieldV, aSliceW, aSliceO, aSlice, aSliceR, aSliceS, aBd, aMax, frzAVs, frzAV, frzTab, AObj.frz, aMM, aNilS, aMay, tyK_3, tyE_52, tyA_55, tyS_55, row_at, hlt, e1, e2, hi, hj, encP, drop3, List.length_set, List.length_map] | (with_reducible refine aIf_split (fun _ => ?_) (fun _ => ?_)) | (with_reducible refine aSel_split (fun _ => ?_) (fun _ => ?_)) | (with_reducible refine aGd_split (fun _ => ?_) (fun _ => ?_)) | (with_reducible refine aDraw_quiet (by kernel_rfl) ?_) | (with_reducible apply And.intro)))
    all_goals first
      | rfl
      | omega
      | exact roundI (weak_cut1 (by (first | ((simp only [envIn, tabIn, envLt, tabLt, AObj.lt, AV.lt, AV.ltL, ruW, ASt.get, aget, ASt.put, ↓reduceIte, reduceCtorEq, Nat.reduceLT, Nat.reduceEqDiff, Nat.reduceAdd, Nat.reduceLeDiff, eq_self, implies_true, hsw]) <;> (repeat' apply And.intro) <;> first | (rw [wrapK (by omega)]; done) | (simp; done) | omega) | fail))) ⟨k + 1, by omega, rfl⟩ (by simp only [slotN, ruW, ASt.get, aget, ASt.put, ↓reduceIte, reduceCtorEq, Nat.reduceLT, Nat.reduceEqDiff, Nat.reduceAdd, Nat.reduceLeDiff, eq_self, implies_true]; omega)
      | trace_state
  · obtain rfl : k = n := by omega
    (repeat' (first | simp (maxSteps := 5000000) (implicitDefEqProofs := false) only [ruA, ruB, aEv, aTake, aLoad, aField, aIndex, aLen, aBin, bin2, aUn, un1, aExtract, aConv, ASt.get, aget, ASt.put, aStore, aBox, aAppend, aBuildSlice, aMake, aBuild, aFill, oneParts, allC, aBinS, yv, aCells, oneC, oneCL, treeC, treeL, aLit, aDst, aSrc, appTab, Value.cells, Value.oneCell', envOf, aResL, aOne, ↓reduceIte, reduceCtorEq, forall_const, Nat.reduceLT, Nat.reduceEqDiff, Nat.reduceAdd, Nat.reduceMul, Nat.reduceSub, Nat.reduceLeDiff, Nat.reduceBEq, eq_self, implies_true, ne_eq, dref, dref1, dref2, aExecS, aStoreB, aTakes, aTakeE, aElder, aFrom, aFresh, isLoad, aBuildSlice1, frzs, frz1, ownIds, AV.frz, AV.frzL, frzEnv, AV.shift, AV.shiftL, aFieldV, aSliceW, aSliceO, aSlice, aSliceR, aSliceS, aBd, aMax, frzAVs, frzAV, frzTab, AObj.frz, aMM, aNilS, aMay, tyK_3, tyE_52, tyA_55, tyS_55, hlt, aRetM_n, aRetM_r] | (with_reducible refine aIf_split (fun _ => ?_) (fun _ => ?_)) | (with_reducible refine aSel_split (fun _ => ?_) (fun _ => ?_)) | (with_reducible refine aGd_split (fun _ => ?_) (fun _ => ?_)) | (with_reducible refine aDraw_quiet (by kernel_rfl) ?_)))
    all_goals trace_state
set_option maxRecDepth 100000 in
set_option maxHeartbeats 8000000 in
theorem rotate_M (pre L R post : List Pt) (g : FuncId) (a m b : Nat) (ha : a = pre.length) (hm : m = a + L.length) (hb : b = m + R.length) (hL : 0 < L.length) (hR : 0 < R.length) (hl : (pre ++ L ++ R ++ post).length ≤ 1000000) : AMut Try.prog 70 55 3 ((pre ++ L ++ R ++ post).map encP) [eI (a : Int), eI (m : Int), eI (b : Int), .fn g []] ((pre ++ R ++ L ++ post).map encP) := by
  have hl0 : pre.length + L.length + R.length + post.length ≤ 1000000 := by simpa [Nat.add_assoc] using hl
  have e1 : IntKind.i64.wrap ((m : Int) - (a : Int)) = ((L.length : Nat) : Int) := by rw [wrap_in (by omega) (by omega)]; omega
  have e2 : IntKind.i64.wrap ((b : Int) - (m : Int)) = ((R.length : Nat) : Int) := by rw [wrap_in (by omega) (by omega)]; omega
  refine amut_of_code mixedT Try.func70 rfl (by decide) Try.ntmps70 Try.results70 rfl (by kernel_rfl) ?_
  (repeat' (first | simp (maxSteps := 5000000) (implicitDefEqProofs := false) only [ruA, ruB, aEv, aTake, aLoad, aField, aIndex, aLen, aBin, bin2, aUn, un1, aExtract, aConv, ASt.get, aget, ASt.put, aStore, aBox, aAppend, aBuildSlice, aMake, aBuild, aFill, oneParts, allC, aBinS, yv, aCells, oneC, oneCL, treeC, treeL, aLit, aDst, aSrc, appTab, Value.cells, Value.oneCell', envOf, aResL, aOne, ↓reduceIte, reduceCtorEq, forall_const, Nat.reduceLT, Nat.reduceEqDiff, Nat.reduceAdd, Nat.reduceMul, Nat.reduceSub, Nat.reduceLeDiff, Nat.reduceBEq, eq_self, implies_true, ne_eq, dref, dref1, dref2, aExecS, aStoreB, aTakes, aTakeE, aElder, aFrom, aFresh, isLoad, aBuildSlice1, frzs, frz1, ownIds, AV.frz, AV.frzL, frzEnv, AV.shift, AV.shiftL, aFieldV, aSliceW, aSliceO, aSlice, aSliceR, aSliceS, aBd, aMax, frzAVs, frzAV, frzTab, AObj.frz, aMM, aNilS, aMay, tyK_3, e1, e2] | (with_reducible refine aIf_split (fun _ => ?_) (fun _ => ?_)) | (with_reducible refine aSel_split (fun _ => ?_) (fun _ => ?_)) | (with_reducible refine aGd_split (fun _ => ?_) (fun _ => ?_))))
  refine aLoop_of (fun st => ∃ (P A B Q : List Pt), 0 < A.length ∧ 0 < B.length ∧ m = P.length + A.length ∧ P.length + A.length + B.length + Q.length ≤ 1000000 ∧ P ++ B ++ A ++ Q = pre ++ R ++ L ++ post ∧ st = ⟨58, [(0, .osl 0), (2, eI (m : Int)), (4, .fn g []), (10, eI (A.length : Int)), (11, eI (B.length : Int))], [(0, some (.row 55 3 ((P ++ A ++ B ++ Q).map encP)))], 1⟩) (fun st => slotN st 10 + slotN st 11) ⟨_, (weak_cut1 (by (first | ((simp only [envIn, tabIn, envLt, tabLt, AObj.lt, AV.lt, AV.ltL, ruW, ASt.get, aget, ASt.put, ↓reduceIte, reduceCtorEq, Nat.reduceLT, Nat.reduceEqDiff, Nat.reduceAdd, Nat.reduceLeDiff, eq_self, implies_true]) <;> (repeat' apply And.intro) <;> first | (rw [wrapK (by omega)]; done) | (simp; done) | omega) | fail))), pre, L, R, post, hL, hR, by omega, hl0, rfl, rfl⟩ ?_
  rintro _ ⟨P, A, B, Q, hA, hB, hmP, hlen, htar, rfl⟩
  have hll : (P ++ A ++ B ++ Q).length ≤ 1000000 := by simp; omega
  have e3 : IntKind.i64.wrap ((m : Int) - (A.length : Int)) = ((P.length : Nat) : Int) := by rw [wrap_in (by omega) (by omega)]; omega
  by_cases heq : A.length = B.length
  · have d1 : ((A.length : Int) != (B.length : Int)) = false := by simp [heq]
    have hsw : swp (P ++ A ++ B ++ Q) P.length m A.length = pre ++ R ++ L ++ post := by
      rw [show P ++ A ++ B ++ Q = P ++ A ++ [] ++ B ++ Q by simp, swp_all heq rfl (by simp; omega) rfl, ← htar]
      simp
    have hM := swapRange_M (P ++ A ++ B ++ Q) P.length m A.length g (by omega) (by simp; omega) hll
    rw [hsw] at hM
    (repeat' (first | simp (maxSteps := 5000000) (implicitDefEqProofs := false) only [ruA, ruB, aEv, aTake, aLoad, aField, aIndex, aLen, aBin, bin2, aUn, un1, aExtract, aConv, ASt.get, aget, ASt.put, aStore, aBox, aAppend, aBuildSlice, aMake, aBuild, aFill, oneParts, allC, aBinS, yv, aCells, oneC, oneCL, treeC, treeL, aLit, aDst, aSrc, appTab, Value.cells, Value.oneCell', envOf, aResL, aOne, ↓reduceIte, reduceCtorEq, forall_const, Nat.reduceLT, Nat.reduceEqDiff, Nat.reduceAdd, Nat.reduceMul, Nat.reduceSub, Nat.reduceLeDiff, Nat.reduceBEq, eq_self, implies_true, ne_eq, dref, dref1, dref2, aExecS, aStoreB, aTakes, aTakeE, aElder, aFrom, aFresh, isLoad, aBuildSlice1, frzs, frz1, ownIds, AV.frz, AV.frzL, frzEnv, AV.shift, AV.shiftL, aFieldV, aSliceW, aSliceO, aSlice, aSliceR, aSliceS, aBd, aMax, frzAVs, frzAV, frzTab, AObj.frz, aMM, aNilS, aMay, tyK_3, d1, e3] | (with_reducible refine aIf_split (fun _ => ?_) (fun _ => ?_)) | (with_reducible refine aSel_split (fun _ => ?_) (fun _ => ?_)) | (with_reducible refine aGd_split (fun _ => ?_) (fun _ => ?_))))
    refine callM hM (by simp [ATab.get_cons]) (by simp [treeML, treeM, treeL, treeC]) ?_
    (repeat' (first | simp (maxSteps := 5000000) (implicitDefEqProofs := false) only [ruA, ruB, aEv, aTake, aLoad, aField, aIndex, aLen, aBin, bin2, aUn, un1, aExtract, aConv, ASt.get, aget, ASt.put, aStore, aBox, aAppend, aBuildSlice, aMake, aBuild, aFill, oneParts, allC, aBinS, yv, aCells, oneC, oneCL, treeC, treeL, aLit, aDst, aSrc, appTab, Value.cells, Value.oneCell', envOf, aResL, aOne, ↓reduceIte, reduceCtorEq, forall_const, Nat.reduceLT, Nat.reduceEqDiff, Nat.reduceAdd, Nat.reduceMul, Nat.reduceSub, Nat.reduceLeDiff, Nat.reduceBEq, eq_self, implies_true, ne_eq, dref, dref1, dref2, aExecS, aStoreB, aTakes, aTakeE, aElder, aFrom, aFresh, isLoad, aBuildSlice1, frzs, frz1, ownIds, AV.frz, AV.frzL, frzEnv, AV.shift, AV.shiftL, aFieldV, aSliceW, aSliceO, aSlice, aSliceR, aSliceS, aBd, aMax, frzAVs, frzAV, frzTab, AObj.frz, aMM, aNilS, aMay, tyK_3, aRetM_n, aRetM_r, true_and, and_true] | (with_reducible refine aIf_split (fun _ => ?_) (fun _ => ?_)) | (with_reducible refine aSel_split (fun _ => ?_) (fun _ => ?_)) | (with_reducible refine aGd_split (fun _ => ?_) (fun _ => ?_)) | (with_reducible refine aDraw_quiet (by kernel_rfl) ?_)))
  · have d1 : ((A.length : Int) != (B.length : Int)) = true := by simp; omega
    by_cases hlt : B.length < A.length
    · have d2 : decide ((B.length : Int) < (A.length : Int)) = true := by simp only [decide_eq_true_eq]; omega
      have d2' : decide (B.length < A.length) = true := by simp only [decide_eq_true_eq]; omega
      have e4 : IntKind.i64.wrap ((A.length : Int) - (B.length : Int)) = ((A.length - B.length : Nat) : Int) := by rw [wrap_in (by omega) (by omega)]; omega
      obtain ⟨A1, A2, rfl, hA1⟩ : ∃ A1 A2, A = A1 ++ A2 ∧ A1.length = B.length := ⟨A.take B.length, A.drop B.length, (List.take_append_drop ..).symm, by rw [List.length_take]; omega⟩
      have hlA : (A1 ++ A2).length = A1.length + A2.length := List.length_append
      rw [hlA] at hmP hlen hA hlt d1 d2 d2' e3 e4 ⊢
      have hsw : swp (P ++ (A1 ++ A2) ++ B ++ Q) P.length m B.length = (P ++ B) ++ A2 ++ A1 ++ Q := by
        rw [show P ++ (A1 ++ A2) ++ B ++ Q = P ++ A1 ++ A2 ++ B ++ Q by simp, swp_all hA1 rfl (by simp; omega) hA1.symm]
      have hM := swapRange_M (P ++ (A1 ++ A2) ++ B ++ Q) P.length m B.length g (by omega) (by simp; omega) hll
      rw [hsw] at hM
      have e5 : A1.length + A2.length - B.length = A2.length := by omega
      rw [e5] at e4
      (repeat' (first | simp (maxSteps := 5000000) (implicitDefEqProofs := false) only [ruA, ruB, aEv, aTake, aLoad, aField, aIndex, aLen, aBin, bin2, aUn, un1, aExtract, aConv, ASt.get, aget, ASt.put, aStore, aBox, aAppend, aBuildSlice, aMake, aBuild, aFill, oneParts, allC, aBinS, yv, aCells, oneC, oneCL, treeC, treeL, aLit, aDst, aSrc, appTab, Value.cells, Value.oneCell', envOf, aResL, aOne, ↓reduceIte, reduceCtorEq, forall_const, Nat.reduceLT, Nat.reduceEqDiff, Nat.reduceAdd, Nat.reduceMul, Nat.reduceSub, Nat.reduceLeDiff, Nat.reduceBEq, eq_self, implies_true, ne_eq, dref, dref1, dref2, aExecS, aStoreB, aTakes, aTakeE, aElder, aFrom, aFresh, isLoad, aBuildSlice1, frzs, frz1, ownIds, AV.frz, AV.frzL, frzEnv, AV.shift, AV.shiftL, aFieldV, aSliceW, aSliceO, aSlice, aSliceR, aSliceS, aBd, aMax, frzAVs, frzAV, frzTab, AObj.frz, aMM, aNilS, aMay, tyK_3, d1, d2, d2', e3] | (with_reducible refine aIf_split (fun _ => ?_) (fun _ => ?_)) | (with_reducible refine aSel_split (fun _ => ?_) (fun _ => ?_)) | (with_reducible refine aGd_split (fun _ => ?_) (fun _ => ?_))))
      refine callM hM (by simp [ATab.get_cons]) (by simp [treeML, treeM, treeL, treeC]) ?_
      (repeat' (first | simp (maxSteps := 5000000) (implicitDefEqProofs := false) only [ruA, ruB, aEv, aTake, aLoad, aField, aIndex, aLen, aBin, bin2, aUn, un1, aExtract, aConv, ASt.get, aget, ASt.put, aStore, aBox, aAppend, aBuildSlice, aMake, aBuild, aFill, oneParts, allC, aBinS, yv, aCells, oneC, oneCL, treeC, treeL, aLit, aDst, aSrc, appTab, Value.cells, Value.oneCell', envOf, aResL, aOne, ↓reduceIte, reduceCtorEq, forall_const, Nat.reduceLT, Nat.reduceEqDiff, Nat.reduceAdd, Nat.reduceMul, Nat.reduceSub, Nat.reduceLeDiff, Nat.reduceBEq, eq_self, implies_true, ne_eq, dref, dref1, dref2, aExecS, aStoreB, aTakes, aTakeE, aElder, aFrom, aFresh, isLoad, aBuildSlice1, frzs, frz1, ownIds, AV.frz, AV.frzL, frzEnv, AV.shift, AV.shiftL, aFieldV, aSliceW, aSliceO, aSlice, aSliceR, aSliceS, aBd, aMax, frzAVs, frzAV, frzTab, AObj.frz, aMM, aNilS, aMay, tyK_3, e4] | (with_reducible refine aIf_split (fun _ => ?_) (fun _ => ?_)) | (with_reducible refine aSel_split (fun _ => ?_) (fun _ => ?_)) | (with_reducible refine aGd_split (fun _ => ?_) (fun _ => ?_))))
      exact roundI (weak_cut1 (by (first | ((simp only [envIn, tabIn, envLt, tabLt, AObj.lt, AV.lt, AV.ltL, ruW, ASt.get, aget, ASt.put, ↓reduceIte, reduceCtorEq, Nat.reduceLT, Nat.reduceEqDiff, Nat.reduceAdd, Nat.reduceLeDiff, eq_self, implies_true, hA1]) <;> (repeat' apply And.intro) <;> first | (rw [wrapK (by omega)]; done) | (simp; done) | omega) | fail))) ⟨P ++ B, A2, A1, Q, by omega, by omega, by simp; omega, by simp; omega, by rw [← htar]; simp, rfl⟩ (by simp only [slotN, ruW, ASt.get, aget, ASt.put, ↓reduceIte, reduceCtorEq, Nat.reduceLT, Nat.reduceEqDiff, Nat.reduceAdd, Nat.reduceLeDiff, eq_self, implies_true]; omega)
    · have d2 : decide ((B.length : Int) < (A.length : Int)) = false := by simp only [decide_eq_false_iff_not]; omega
      have d2' : decide (B.length < A.length) = false := by simp only [decide_eq_false_iff_not]; omega
      obtain ⟨B1, B2, rfl, hB2⟩ : ∃ B1 B2, B = B1 ++ B2 ∧ B2.length = A.length := ⟨B.take (B.length - A.length), B.drop (B.length - A.length), (List.take_append_drop ..).symm, by rw [List.length_drop]; omega⟩
      have hlB : (B1 ++ B2).length = B1.length + B2.length := List.length_append
      rw [hlB] at hlen hB hlt d1 d2 d2' ⊢
      have e4 : IntKind.i64.wrap (((B1.length + B2.length : Nat) : Int) - (A.length : Int)) = ((B1.length : Nat) : Int) := by rw [wrap_in (by omega) (by omega)]; omega
      have e5 : IntKind.i64.wrap (IntKind.i64.wrap ((m : Int) + ((B1.length + B2.length : Nat) : Int)) - (A.length : Int)) = ((m + B1.length : Nat) : Int) := by rw [wrap_in (x := (m : Int) + _) (by omega) (by omega), wrap_in (by omega) (by omega)]; omega
      have hsw : swp (P ++ A ++ (B1 ++ B2) ++ Q) P.length (m + B1.length) A.length = P ++ B2 ++ B1 ++ (A ++ Q) := by
        rw [show P ++ A ++ (B1 ++ B2) ++ Q = P ++ A ++ B1 ++ B2 ++ Q by simp, swp_all hB2.symm rfl (by simp; omega) rfl]
        simp
      have hM := swapRange_M (P ++ A ++ (B1 ++ B2) ++ Q) P.length (m + B1.length) A.length g (by omega) (by simp; omega) hll
      rw [hsw] at hM
      (repeat' (first | simp (maxSteps := 5000000) (implicitDefEqProofs := false) only [ruA, ruB, aEv, aTake, aLoad, aField, aIndex, aLen, aBin, bin2, aUn, un1, aExtract, aConv, ASt.get, aget, ASt.put, aStore, aBox, aAppend, aBuildSlice, aMake, aBuild, aFill, oneParts, allC, aBinS, yv, aCells, oneC, oneCL, treeC, treeL, aLit, aDst, aSrc, appTab, Value.cells, Value.oneCell', envOf, aResL, aOne, ↓reduceIte, reduceCtorEq, forall_const, Nat.reduceLT, Nat.reduceEqDiff, Nat.reduceAdd, Nat.reduceMul, Nat.reduceSub, Nat.reduceLeDiff, Nat.reduceBEq, eq_self, implies_true, ne_eq, dref, dref1, dref2, aExecS, aStoreB, aTakes, aTakeE, aElder, aFrom, aFresh, isLoad, aBuildSlice1, frzs, frz1, ownIds, AV.frz, AV.frzL, frzEnv, AV.shift, AV.shiftL, aFieldV, aSliceW, aSliceO, aSlice, aSliceR, aSliceS, aBd, aMax, frzAVs, frzAV, frzTab, AObj.frz, aMM, aNilS, aMay, tyK_3, d1, d2, d2', e3, e5] | (with_reducible refine aIf_split (fun _ => ?_) (fun _ => ?_)) | (with_reducible refine aSel_split (fun _ => ?_) (fun _ => ?_)) | (with_reducible refine aGd_split (fun _ => ?_) (fun _ => ?_))))
      refine callM hM (by simp [ATab.get_cons]) (by simp [treeML, treeM, treeL, treeC]) ?_
      (repeat' (first | simp (maxSteps := 5000000) (implicitDefEqProofs := false) only [ruA, ruB, aEv, aTake, aLoad, aField, aIndex, aLen, aBin, bin2, aUn, un1, aExtract, aConv, ASt.get, aget, ASt.put, aStore, aBox, aAppend, aBuildSlice, aMake, aBuild, aFill, oneParts, allC, aBinS, yv, aCells, oneC, oneCL, treeC, treeL, aLit, aDst, aSrc, appTab, Value.cells, Value.oneCell', envOf, aResL, aOne, ↓reduceIte, reduceCtorEq, forall_const, Nat.reduceLT, Nat.reduceEqDiff, Nat.reduceAdd, Nat.reduceMul, Nat.reduceSub, Nat.reduceLeDiff, Nat.reduceBEq, eq_self, implies_true, ne_eq, dref, dref1, dref2, aExecS, aStoreB, aTakes, aTakeE, aElder, aFrom, aFresh, isLoad, aBuildSlice1, frzs, frz1, ownIds, AV.frz, AV.frzL, frzEnv, AV.shift, AV.shiftL, aFieldV, aSliceW, aSliceO, aSlice, aSliceR, aSliceS, aBd, aMax, frzAVs, frzAV, frzTab, AObj.frz, aMM, aNilS, aMay, tyK_3, e4] | (with_reducible refine aIf_split (fun _ => ?_) (fun _ => ?_)) | (with_reducible refine aSel_split (fun _ => ?_) (fun _ => ?_)) | (with_reducible refine aGd_split (fun _ => ?_) (fun _ => ?_))))
      exact roundI (weak_cut1 (by (first | ((simp only [envIn, tabIn, envLt, tabLt, AObj.lt, AV.lt, AV.ltL, ruW, ASt.get, aget, ASt.put, ↓reduceIte, reduceCtorEq, Nat.reduceLT, Nat.reduceEqDiff, Nat.reduceAdd, Nat.reduceLeDiff, eq_self, implies_true, hB2]) <;> (repeat' apply And.intro) <;> first | (rw [wrapK (by omega)]; done) | (simp; done) | omega) | fail))) ⟨P, B2, B1, A ++ Q, by omega, by omega, by omega, by simp; omega, by rw [← htar]; simp, rfl⟩ (by simp only [slotN, ruW, ASt.get, aget, ASt.put, ↓reduceIte, reduceCtorEq, Nat.reduceLT, Nat.reduceEqDiff, Nat.reduceAdd, Nat.reduceLeDiff, eq_self, implies_true]; omega)
end
section
open Go.RowKit
theorem two_no : ((2 : Int) = 0) = False := by simp
set_option maxRecDepth 100000 in
set_option maxHeartbeats 4000000 in
theorem hasR_A (s i : Int) (hs : ok64 s) : ADet Try.prog 48 [eI s, eI i] (val (.bool (hasB s i))) := by
  refine adet_of_code mixedT Try.func48 rfl (by decide) Try.ntmps48 Try.results48 rfl (val_ok _) ?_
  (repeat' (first | simp (maxSteps := 5000000) (implicitDefEqProofs := false) only [ruA, ruB, aEv, aTake, aLoad, aField, aIndex, aLen, aBin, bin2, aUn, un1, aExtract, aConv, ASt.get, aget, ASt.put, aStore, aBox, aAppend, aBuildSlice, aMake, aBuild, aFill, oneParts, allC, aBinS, yv, aCells, oneC, oneCL, treeC, treeL, aLit, aDst, aSrc, appTab, Value.cells, Value.oneCell', envOf, aResL, aOne, ↓reduceIte, reduceCtorEq, forall_const, Nat.reduceLT, Nat.reduceEqDiff, Nat.reduceAdd, Nat.reduceMul, Nat.reduceSub, Nat.reduceLeDiff, Nat.reduceBEq, eq_self, implies_true, ne_eq, dref, dref1, dref2, aExecS, aStoreB, aTakes, aTakeE, aElder, aFrom, aFresh, isLoad, aBuildSlice1, frzs, frz1, ownIds, AV.frz, AV.frzL, frzEnv, AV.shift, AV.shiftL, aFieldV, aSliceW, aSliceO, aSlice, aSliceR, aSliceS, aBd, aMax, frzAVs, frzAV, frzTab, AObj.frz, aMM, aNilS, aMay, tyK_3] | (with_reducible refine aIf_split (fun _ => ?_) (fun _ => ?_)) | (with_reducible refine aSel_split (fun _ => ?_) (fun _ => ?_)) | (with_reducible refine aGd_split (fun _ => ?_) (fun _ => ?_))))
  · rename_i h
    simp at h
    simp [hasB]
    omega
  · rename_i h1 h2
    simp at h1 h2
    simp [hasB]
    omega
  · rename_i h1 h2
    simp at h1 h2
    obtain ⟨q, rfl⟩ : ∃ q : Nat, i = (q : Int) := ⟨i.toNat, by omega⟩
    have e0 : s / 2 ^ 0 = s := by simp
    refine aLoop_of (fun st => ∃ k : Nat, k ≤ q ∧ st = ⟨31, [(0, eI (s / 2 ^ k)), (1, eI (q : Int)), (5, eI (k : Int))], [], 0⟩) (fun st => q - slotN st 5) ⟨_, (weak_cut1 (by (first | ((simp only [envIn, tabIn, envLt, tabLt, AObj.lt, AV.lt, AV.ltL, ruW, ASt.get, aget, ASt.put, ↓reduceIte, reduceCtorEq, Nat.reduceLT, Nat.reduceEqDiff, Nat.reduceAdd, Nat.reduceLeDiff, eq_self, implies_true, e0]) <;> (repeat' apply And.intro) <;> first | (rw [wrapK (by omega)]; done) | (simp; done) | omega) | fail))), 0, Nat.zero_le _, rfl⟩ ?_
    rintro _ ⟨k, hk, rfl⟩
    have hp : (1 : Int) ≤ 2 ^ k := Int.pow_pos (by omega)
    have hd0 : -9223372036854775808 ≤ s / 2 ^ k := by
      refine Int.le_ediv_of_mul_le (by omega) ?_
      have := hs.1
      generalize (2 : Int) ^ k = p at *
      omega
    have hd1 : s / 2 ^ k ≤ 9223372036854775807 := by
      by_cases h : s < 0
      · have := Int.ediv_neg_of_neg_of_pos h (by omega : (0 : Int) < 2 ^ k)
        omega
      · exact Int.le_trans (Int.ediv_le_self _ (by omega)) hs.2
    have ed : s / 2 ^ (k + 1) = s / 2 ^ k / 2 := by
      rw [Int.pow_succ, Int.ediv_ediv_of_nonneg (Int.le_of_lt (Int.pow_pos (by omega)))]
    generalize hx : s / 2 ^ k = x at *
    by_cases hxn : x % 2 = 1 ∧ x < 0
    · have et : x.tmod 2 = -1 := by
        have h3 : x.tmod 2 = -((-x) % 2) := by
          rw [← Int.tmod_eq_emod_of_nonneg (by omega), Int.neg_tmod]
          omega
        omega
      have en : decide ((-1 : Int) < 0) = true := by decide
      have em : IntKind.i64.wrap (0 - (-1)) = 1 := by decide
      have ew : IntKind.i64.wrap (x - 1) = x - 1 := wrap_in (by omega) (by omega)
      have eq : (x - 1).tdiv 2 = x / 2 := by
        have h3 : (2 : Int) ∣ x - 1 := ⟨x / 2, by omega⟩
        rw [Int.tdiv_eq_ediv_of_dvd h3]
        omega
      by_cases hlt : k < q
      · (repeat' (first | simp (maxSteps := 5000000) (implicitDefEqProofs := false) only [ruA, ruB, aEv, aTake, aLoad, aField, aIndex, aLen, aBin, bin2, aUn, un1, aExtract, aConv, ASt.get, aget, ASt.put, aStore, aBox, aAppend, aBuildSlice, aMake, aBuild, aFill, oneParts, allC, aBinS, yv, aCells, oneC, oneCL, treeC, treeL, aLit, aDst, aSrc, appTab, Value.cells, Value.oneCell', envOf, aResL, aOne, ↓reduceIte, reduceCtorEq, forall_const, Nat.reduceLT, Nat.reduceEqDiff, Nat.reduceAdd, Nat.reduceMul, Nat.reduceSub, Nat.reduceLeDiff, Nat.reduceBEq, eq_self, implies_true, ne_eq, dref, dref1, dref2, aExecS, aStoreB, aTakes, aTakeE, aElder, aFrom, aFresh, isLoad, aBuildSlice1, frzs, frz1, ownIds, AV.frz, AV.frzL, frzEnv, AV.shift, AV.shiftL, aFieldV, aSliceW, aSliceO, aSlice, aSliceR, aSliceS, aBd, aMax, frzAVs, frzAV, frzTab, AObj.frz, aMM, aNilS, aMay, tyK_3, hlt, two_no, et, en, em, ew, eq] | (with_reducible refine aIf_split (fun _ => ?_) (fun _ => ?_)) | (with_reducible refine aSel_split (fun _ => ?_) (fun _ => ?_)) | (with_reducible refine aGd_split (fun _ => ?_) (fun _ => ?_))))
        have ew2 : IntKind.i64.wrap (x / 2) = x / 2 := wrap_in (by omega) (by omega)
        exact roundI (weak_cut1 (by (first | ((simp only [envIn, tabIn, envLt, tabLt, AObj.lt, AV.lt, AV.ltL, ruW, ASt.get, aget, ASt.put, ↓reduceIte, reduceCtorEq, Nat.reduceLT, Nat.reduceEqDiff, Nat.reduceAdd, Nat.reduceLeDiff, eq_self, implies_true, ed, ew2]) <;> (repeat' apply And.intro) <;> first | (rw [wrapK (by omega)]; done) | (simp; done) | omega) | fail))) ⟨k + 1, by omega, rfl⟩ (by simp only [slotN, ruW, ASt.get, aget, ASt.put, ↓reduceIte, reduceCtorEq, Nat.reduceLT, Nat.reduceEqDiff, Nat.reduceAdd, Nat.reduceLeDiff, eq_self, implies_true]; omega)
      · obtain rfl : k = q := by omega
        (repeat' (first | simp (maxSteps := 5000000) (implicitDefEqProofs := false) only [ruA, ruB, aEv, aTake, aLoad, aField, aIndex, aLen, aBin, bin2, aUn, un1, aExtract, aConv, ASt.get, aget, ASt.put, aStore, aBox, aAppend, aBuildSlice, aMake, aBuild, aFill, oneParts, allC, aBinS, yv, aCells, oneC, oneCL, treeC, treeL, aLit, aDst, aSrc, appTab, Value.cells, Value.oneCell', envOf, aResL, aOne, ↓reduceIte, reduceCtorEq, forall_const, Nat.reduceLT, Nat.reduceEqDiff, Nat.reduceAdd, Nat.reduceMul, Nat.reduceSub, Nat.reduceLeDiff, Nat.reduceBEq, eq_self, implies_true, ne_eq, dref, dref1, dref2, aExecS, aStoreB, aTakes, aTakeE, aElder, aFrom, aFresh, isLoad, aBuildSlice1, frzs, frz1, ownIds, AV.frz, AV.frzL, frzEnv, AV.shift, AV.shiftL, aFieldV, aSliceW, aSliceO, aSlice, aSliceR, aSliceS, aBd, aMax, frzAVs, frzAV, frzTab, AObj.frz, aMM, aNilS, aMay, tyK_3, hlt, two_no, et] | (with_reducible refine aIf_split (fun _ => ?_) (fun _ => ?_)) | (with_reducible refine aSel_split (fun _ => ?_) (fun _ => ?_)) | (with_reducible refine aGd_split (fun _ => ?_) (fun _ => ?_))))
        have hk31 : (k : Int) < 31 := by omega
        simp [hasB, hx, hk31, hxn.1]
    have et : x.tmod 2 = x % 2 := by
      by_cases h : x < 0
      · have h0 : x % 2 = 0 := by omega
        rw [h0]
        exact Int.tmod_eq_zero_of_dvd ⟨x / 2, by omega⟩
      · exact Int.tmod_eq_emod_of_nonneg (by omega)
    have en : decide (x % 2 < 0) = false := by simp; omega
    have ew : IntKind.i64.wrap (x - x % 2) = x - x % 2 := wrap_in (by omega) (by omega)
    have eq : (x - x % 2).tdiv 2 = x / 2 := by
      have h3 : (2 : Int) ∣ x - x % 2 := ⟨x / 2, by omega⟩
      rw [Int.tdiv_eq_ediv_of_dvd h3]
      omega
    by_cases hlt : k < q
    · (repeat' (first | simp (maxSteps := 5000000) (implicitDefEqProofs := false) only [ruA, ruB, aEv, aTake, aLoad, aField, aIndex, aLen, aBin, bin2, aUn, un1, aExtract, aConv, ASt.get, aget, ASt.put, aStore, aBox, aAppend, aBuildSlice, aMake, aBuild, aFill, oneParts, allC, aBinS, yv, aCells, oneC, oneCL, treeC, treeL, aLit, aDst, aSrc, appTab, Value.cells, Value.oneCell', envOf, aResL, aOne, ↓reduceIte, reduceCtorEq, forall_const, Nat.reduceLT, Nat.reduceEqDiff, Nat.reduceAdd, Nat.reduceMul, Nat.reduceSub, Nat.reduceLeDiff, Nat.reduceBEq, eq_self, implies_true, ne_eq, dref, dref1, dref2, aExecS, aStoreB, aTakes, aTakeE, aElder, aFrom, aFresh, isLoad, aBuildSlice1, frzs, frz1, ownIds, AV.frz, AV.frzL, frzEnv, AV.shift, AV.shiftL, aFieldV, aSliceW, aSliceO, aSlice, aSliceR, aSliceS, aBd, aMax, frzAVs, frzAV, frzTab, AObj.frz, aMM, aNilS, aMay, tyK_3, hlt, two_no, et, en, ew, eq] | (with_reducible refine aIf_split (fun _ => ?_) (fun _ => ?_)) | (with_reducible refine aSel_split (fun _ => ?_) (fun _ => ?_)) | (with_reducible refine aGd_split (fun _ => ?_) (fun _ => ?_))))
      have ew2 : IntKind.i64.wrap (x / 2) = x / 2 := wrap_in (by omega) (by omega)
      exact roundI (weak_cut1 (by (first | ((simp only [envIn, tabIn, envLt, tabLt, AObj.lt, AV.lt, AV.ltL, ruW, ASt.get, aget, ASt.put, ↓reduceIte, reduceCtorEq, Nat.reduceLT, Nat.reduceEqDiff, Nat.reduceAdd, Nat.reduceLeDiff, eq_self, implies_true, ed, ew2]) <;> (repeat' apply And.intro) <;> first | (rw [wrapK (by omega)]; done) | (simp; done) | omega) | fail))) ⟨k + 1, by omega, rfl⟩ (by simp only [slotN, ruW, ASt.get, aget, ASt.put, ↓reduceIte, reduceCtorEq, Nat.reduceLT, Nat.reduceEqDiff, Nat.reduceAdd, Nat.reduceLeDiff, eq_self, implies_true]; omega)
    · obtain rfl : k = q := by omega
      (repeat' (first | simp (maxSteps := 5000000) (implicitDefEqProofs := false) only [ruA, ruB, aEv, aTake, aLoad, aField, aIndex, aLen, aBin, bin2, aUn, un1, aExtract, aConv, ASt.get, aget, ASt.put, aStore, aBox, aAppend, aBuildSlice, aMake, aBuild, aFill, oneParts, allC, aBinS, yv, aCells, oneC, oneCL, treeC, treeL, aLit, aDst, aSrc, appTab, Value.cells, Value.oneCell', envOf, aResL, aOne, ↓reduceIte, reduceCtorEq, forall_const, Nat.reduceLT, Nat.reduceEqDiff, Nat.reduceAdd, Nat.reduceMul, Nat.reduceSub, Nat.reduceLeDiff, Nat.reduceBEq, eq_self, implies_true, ne_eq, dref, dref1, dref2, aExecS, aStoreB, aTakes, aTakeE, aElder, aFrom, aFresh, isLoad, aBuildSlice1, frzs, frz1, ownIds, AV.frz, AV.frzL, frzEnv, AV.shift, AV.shiftL, aFieldV, aSliceW, aSliceO, aSlice, aSliceR, aSliceS, aBd, aMax, frzAVs, frzAV, frzTab, AObj.frz, aMM, aNilS, aMay, tyK_3, hlt, two_no, et] | (with_reducible refine aIf_split (fun _ => ?_) (fun _ => ?_)) | (with_reducible refine aSel_split (fun _ => ?_) (fun _ => ?_)) | (with_reducible refine aGd_split (fun _ => ?_) (fun _ => ?_))))
      have hk31 : (k : Int) < 31 := by omega
      simp [hasB, hx, hk31]
      rcases Int.emod_two_eq x with h | h <;> simp [h]
/-- the truths as a number -/
def bitsN (f : Nat → Bool) : Nat → Nat
  | 0 => 0
  | k + 1 => bitsN f k + if f k = true then 2 ^ k else 0
theorem bitsN_lt (f : Nat → Bool) : ∀ k, bitsN f k < 2 ^ k
  | 0 => by simp [bitsN]
  | k + 1 => by
    have := bitsN_lt f k
    unfold bitsN
    rw [Nat.pow_succ]
    split <;> omega
theorem bitsN_bit (f : Nat → Bool) : ∀ k j, (bitsN f k).testBit j = (decide (j < k) && f j)
  | 0, j => by simp [bitsN]
  | k + 1, j => by
    have hl := bitsN_lt f k
    unfold bitsN
    split
    · rename_i hf
      rw [Nat.add_comm]
      rcases Nat.lt_trichotomy j k with h | h | h
      · rw [Nat.testBit_two_pow_add_gt h, bitsN_bit f k j]
        simp [h, show j < k + 1 by omega]
      · subst h
        rw [Nat.testBit_two_pow_add_eq, bitsN_bit f j j]
        simp [hf]
      · rw [Nat.testBit_lt_two_pow, Eq.comm]
        · simp
          omega
        · have : 2 ^ (k + 1) ≤ 2 ^ j := Nat.pow_le_pow_right (by omega) h
          rw [Nat.pow_succ] at this
          omega
    · rename_i hf
      rw [Nat.add_zero, bitsN_bit f k j]
      rcases Nat.lt_trichotomy j k with h | h | h
      · simp [h, show j < k + 1 by omega]
      · subst h
        simp [hf]
      · simp [show ¬ j < k by omega, show ¬ j < k + 1 by omega]
theorem bitsN_has (f : Nat → Bool) (j : Nat) (hj : j < 31) : hasB (bitsN f 31 : Nat) (j : Int) = f j := by
  rw [hasB_low _ j hj, low_of _ (bitsN_lt f 31), bitsN_bit]
  simp [hj]
/-- sets of the lowest 31 bits are the same, if the same is in them -/
theorem set_ext {a b : Int} (ha : 0 ≤ a ∧ a < 2147483648) (hb : 0 ≤ b ∧ b < 2147483648) (h : ∀ j : Nat, j < 31 → hasB a j = hasB b j) : a = b := by
  have e1 : ((low a : Nat) : Int) = a := by unfold low; omega
  have e2 : ((low b : Nat) : Int) = b := by unfold low; omega
  rw [← e1, ← e2]
  congr 1
  apply Nat.eq_of_testBit_eq
  intro j
  by_cases hj : j < 31
  · rw [← hasB_low a j hj, ← hasB_low b j hj]
    exact h j hj
  · rw [Nat.testBit_lt_two_pow (Nat.lt_of_lt_of_le (low_lt a) (Nat.pow_le_pow_right (by omega) (by omega))), Nat.testBit_lt_two_pow (Nat.lt_of_lt_of_le (low_lt b) (Nat.pow_le_pow_right (by omega) (by omega)))]
abbrev sB (l : List Bool) : AV := .sl 1 (l.map fun b => [eB b])
def sumF (l : List Bool) (k : Nat) : Int := (bitsN (fun i => l.getD i false) k : Nat)
def powF (k : Nat) : Int := (2 ^ k : Nat)
theorem powF_succ {k : Nat} (hk : k ≤ 31) : IntKind.i64.wrap (powF k * 2) = powF (k + 1) := by
  have h2 : 2 ^ k ≤ 2 ^ 31 := Nat.pow_le_pow_right (by omega) hk
  unfold powF
  rw [Nat.pow_succ]
  generalize 2 ^ k = p at *
  rw [wrap_in (by omega) (by omega)]
  simp
theorem sumF_yes {l : List Bool} {k : Nat} (hk : k ≤ 31) (h : l.getD k false = true) : IntKind.i64.wrap (sumF l k + powF k) = sumF l (k + 1) := by
  have h2 : 2 ^ k ≤ 2 ^ 31 := Nat.pow_le_pow_right (by omega) hk
  have h1 := bitsN_lt (fun i => l.getD i false) k
  unfold sumF powF
  rw [bitsN, if_pos h]
  generalize bitsN (fun i => l.getD i false) k = b at *
  generalize 2 ^ k = p at *
  rw [wrap_in (by omega) (by omega)]
  simp
theorem sumF_no {l : List Bool} {k : Nat} (h : l.getD k false = false) : sumF l k = sumF l (k + 1) := by
  unfold sumF
  rw [bitsN, if_neg (by rw [h]; simp)]
  rfl
set_option maxRecDepth 100000 in
theorem sum_A (l : List Bool) (hl : l.length ≤ 31) : ADet Try.prog 38 [sB l] (val (.int .i64 (sumF l l.length))) := by
  refine adet_of_code mixedT Try.func38 rfl (by decide) Try.ntmps38 Try.results38 rfl (val_ok _) ?_
  (repeat' (first | simp (maxSteps := 5000000) (implicitDefEqProofs := false) only [ruA, ruB, aEv, aTake, aLoad, aField, aIndex, aLen, aBin, bin2, aUn, un1, aExtract, aConv, ASt.get, aget, ASt.put, aStore, aBox, aAppend, aBuildSlice, aMake, aBuild, aFill, oneParts, allC, aBinS, yv, aCells, oneC, oneCL, treeC, treeL, aLit, aDst, aSrc, appTab, Value.cells, Value.oneCell', envOf, aResL, aOne, ↓reduceIte, reduceCtorEq, forall_const, Nat.reduceLT, Nat.reduceEqDiff, Nat.reduceAdd, Nat.reduceMul, Nat.reduceSub, Nat.reduceLeDiff, Nat.reduceBEq, eq_self, implies_true, ne_eq, dref, dref1, dref2, aExecS, aStoreB, aTakes, aTakeE, aElder, aFrom, aFresh, isLoad, aBuildSlice1, frzs, frz1, ownIds, AV.frz, AV.frzL, frzEnv, AV.shift, AV.shiftL, aFieldV, aSliceW, aSliceO, aSlice, aSliceR, aSliceS, aBd, aMax, frzAVs, frzAV, frzTab, AObj.frz, aMM, aNilS, aMay, tyE_61, tyK_61, tyK_3, tyA_4, tyS_4] | (with_reducible refine aIf_split (fun _ => ?_) (fun _ => ?_)) | (with_reducible refine aSel_split (fun _ => ?_) (fun _ => ?_)) | (with_reducible refine aGd_split (fun _ => ?_) (fun _ => ?_))))
  have e0 : sumF l 0 = 0 := rfl
  have e1 : powF 0 = 1 := rfl
  refine aLoop_of (fun st => ∃ k : Nat, k ≤ l.length ∧ st = ⟨22, [(0, sB l), (3, eI (sumF l k)), (4, eI (powF k)), (5, eI (k : Int))], [], 0⟩) (fun st => l.length - slotN st 5) ⟨_, (weak_cut1 (by (first | ((simp only [envIn, tabIn, envLt, tabLt, AObj.lt, AV.lt, AV.ltL, ruW, ASt.get, aget, ASt.put, ↓reduceIte, reduceCtorEq, Nat.reduceLT, Nat.reduceEqDiff, Nat.reduceAdd, Nat.reduceLeDiff, eq_self, implies_true, e0, e1]) <;> (repeat' apply And.intro) <;> first | (rw [wrapK (by omega)]; done) | (simp; done) | omega) | fail))), 0, Nat.zero_le _, rfl⟩ ?_
  rintro _ ⟨k, hk, rfl⟩
  by_cases hlt : k < l.length
  · have ep := powF_succ (k := k) (by omega)
    have eg : l.getD k false = l[k] := by simp [hlt]
    (repeat' (first | simp (maxSteps := 5000000) (implicitDefEqProofs := false) only [ruA, ruB, aEv, aTake, aLoad, aField, aIndex, aLen, aBin, bin2, aUn, un1, aExtract, aConv, ASt.get, aget, ASt.put, aStore, aBox, aAppend, aBuildSlice, aMake, aBuild, aFill, oneParts, allC, aBinS, yv, aCells, oneC, oneCL, treeC, treeL, aLit, aDst, aSrc, appTab, Value.cells, Value.oneCell', envOf, aResL, aOne, ↓reduceIte, reduceCtorEq, forall_const, Nat.reduceLT, Nat.reduceEqDiff, Nat.reduceAdd, Nat.reduceMul, Nat.reduceSub, Nat.reduceLeDiff, Nat.reduceBEq, eq_self, implies_true, ne_eq, dref, dref1, dref2, aExecS, aStoreB, aTakes, aTakeE, aElder, aFrom, aFresh, isLoad, aBuildSlice1, frzs, frz1, ownIds, AV.frz, AV.frzL, frzEnv, AV.shift, AV.shiftL, aFieldV, aSliceW, aSliceO, aSlice, aSliceR, aSliceS, aBd, aMax, frzAVs, frzAV, frzTab, AObj.frz, aMM, aNilS, aMay, tyE_61, tyK_61, tyK_3, tyA_4, tyS_4, row_at, hlt] | (with_reducible refine aIf_split (fun _ => ?_) (fun _ => ?_)) | (with_reducible refine aSel_split (fun _ => ?_) (fun _ => ?_)) | (with_reducible refine aGd_split (fun _ => ?_) (fun _ => ?_))))
    · rename_i hb
      have ew := sumF_yes (l := l) (k := k) (by omega) (by rw [eg]; exact hb)
      exact roundI (weak_cut1 (by (first | ((simp only [envIn, tabIn, envLt, tabLt, AObj.lt, AV.lt, AV.ltL, ruW, ASt.get, aget, ASt.put, ↓reduceIte, reduceCtorEq, Nat.reduceLT, Nat.reduceEqDiff, Nat.reduceAdd, Nat.reduceLeDiff, eq_self, implies_true, ew, ep]) <;> (repeat' apply And.intro) <;> first | (rw [wrapK (by omega)]; done) | (simp; done) | omega) | fail))) ⟨k + 1, by omega, rfl⟩ (by simp only [slotN, ruW, ASt.get, aget, ASt.put, ↓reduceIte, reduceCtorEq, Nat.reduceLT, Nat.reduceEqDiff, Nat.reduceAdd, Nat.reduceLeDiff, eq_self, implies_true]; omega)
    · rename_i hb
      have ew := sumF_no (l := l) (k := k) (by rw [eg]; exact hb)
      rw [ew]
      exact roundI (weak_cut1 (by (first | ((simp only [envIn, tabIn, envLt, tabLt, AObj.lt, AV.lt, AV.ltL, ruW, ASt.get, aget, ASt.put, ↓reduceIte, reduceCtorEq, Nat.reduceLT, Nat.reduceEqDiff, Nat.reduceAdd, Nat.reduceLeDiff, eq_self, implies_true, ep]) <;> (repeat' apply And.intro) <;> first | (rw [wrapK (by omega)]; done) | (simp; done) | omega) | fail))) ⟨k + 1, by omega, rfl⟩ (by simp only [slotN, ruW, ASt.get, aget, ASt.put, ↓reduceIte, reduceCtorEq, Nat.reduceLT, Nat.reduceEqDiff, Nat.reduceAdd, Nat.reduceLeDiff, eq_self, implies_true]; omega)
  · obtain rfl : k = l.length := by omega
    (repeat' (first | simp (maxSteps := 5000000) (implicitDefEqProofs := false) only [ruA, ruB, aEv, aTake, aLoad, aField, aIndex, aLen, aBin, bin2, aUn, un1, aExtract, aConv, ASt.get, aget, ASt.put, aStore, aBox, aAppend, aBuildSlice, aMake, aBuild, aFill, oneParts, allC, aBinS, yv, aCells, oneC, oneCL, treeC, treeL, aLit, aDst, aSrc, appTab, Value.cells, Value.oneCell', envOf, aResL, aOne, ↓reduceIte, reduceCtorEq, forall_const, Nat.reduceLT, Nat.reduceEqDiff, Nat.reduceAdd, Nat.reduceMul, Nat.reduceSub, Nat.reduceLeDiff, Nat.reduceBEq, eq_self, implies_true, ne_eq, dref, dref1, dref2, aExecS, aStoreB, aTakes, aTakeE, aElder, aFrom, aFresh, isLoad, aBuildSlice1, frzs, frz1, ownIds, AV.frz, AV.frzL, frzEnv, AV.shift, AV.shiftL, aFieldV, aSliceW, aSliceO, aSlice, aSliceR, aSliceS, aBd, aMax, frzAVs, frzAV, frzTab, AObj.frz, aMM, aNilS, aMay, tyE_61, tyK_61, tyK_3, tyA_4, tyS_4, row_at, hlt] | (with_reducible refine aIf_split (fun _ => ?_) (fun _ => ?_)) | (with_reducible refine aSel_split (fun _ => ?_) (fun _ => ?_)) | (with_reducible refine aGd_split (fun _ => ?_) (fun _ => ?_))))
def inL (s : Int) : List Bool := (List.range 31).map fun (i : Nat) => hasB s (i : Int)
set_option maxRecDepth 100000 in
theorem inR_A (s : Int) (hs : ok64 s) : ADet Try.prog 37 [eI s] (own 4 1 ((inL s).map fun b => [eB b])) := by
  refine adet_of_code mixedT Try.func37 rfl (by decide) Try.ntmps37 Try.results37 rfl (own_ok _ _ _) ?_
  (repeat' (first | simp (maxSteps := 5000000) (implicitDefEqProofs := false) only [ruA, ruB, aEv, aTake, aLoad, aField, aIndex, aLen, aBin, bin2, aUn, un1, aExtract, aConv, ASt.get, aget, ASt.put, aStore, aBox, aAppend, aBuildSlice, aMake, aBuild, aFill, oneParts, allC, aBinS, yv, aCells, oneC, oneCL, treeC, treeL, aLit, aDst, aSrc, appTab, Value.cells, Value.oneCell', envOf, aResL, aOne, ↓reduceIte, reduceCtorEq, forall_const, Nat.reduceLT, Nat.reduceEqDiff, Nat.reduceAdd, Nat.reduceMul, Nat.reduceSub, Nat.reduceLeDiff, Nat.reduceBEq, eq_self, implies_true, ne_eq, dref, dref1, dref2, aExecS, aStoreB, aTakes, aTakeE, aElder, aFrom, aFresh, isLoad, aBuildSlice1, frzs, frz1, ownIds, AV.frz, AV.frzL, frzEnv, AV.shift, AV.shiftL, aFieldV, aSliceW, aSliceO, aSlice, aSliceR, aSliceS, aBd, aMax, frzAVs, frzAV, frzTab, AObj.frz, aMM, aNilS, aMay, tyK_3, tyR_61] | (with_reducible refine aIf_split (fun _ => ?_) (fun _ => ?_)) | (with_reducible refine aSel_split (fun _ => ?_) (fun _ => ?_)) | (with_reducible refine aGd_split (fun _ => ?_) (fun _ => ?_))))
  have hil : (inL s).length = 31 := by simp [inL]
  refine aLoop_of (fun st => ∃ k : Nat, k ≤ 31 ∧ st = ⟨16, [(0, eI s), (3, .osl 0), (4, eI (k : Int))], [(0, some (.row 4 1 (((inL s).take k).map fun b => [eB b])))], 1⟩) (fun st => 31 - slotN st 4) ⟨_, ((weak_nil 3 4 1 (by simp only [ruW, ASt.get, aget, ASt.put, ↓reduceIte, reduceCtorEq, Nat.reduceLT, Nat.reduceEqDiff, Nat.reduceAdd, Nat.reduceLeDiff, eq_self, implies_true, List.take_zero])).trans (weak_ren1 [0] ⟨(by decide), (by (first | ((simp only [envInR, tabInR, envLt, tabLt, AObj.lt, AV.lt, AV.ltL, AV.ren, AV.renL, AObj.ren, List.getD_cons_zero, List.getD_cons_succ, List.length_cons, List.length_nil, ruW, ASt.get, aget, ASt.put, ↓reduceIte, reduceCtorEq, Nat.reduceLT, Nat.reduceEqDiff, Nat.reduceAdd, Nat.reduceLeDiff, eq_self, implies_true, List.take_zero]) <;> (repeat' apply And.intro) <;> first | (rw [wrapK (by omega)]; done) | (simp; done) | omega) | fail))⟩)), 0, Nat.zero_le _, rfl⟩ ?_
  rintro _ ⟨k, hk, rfl⟩
  by_cases hlt : k < 31
  · have et : ((inL s).take (k + 1)).map (fun b => [eB b]) = ((inL s).take k).map (fun b => [eB b]) ++ [[eB (hasB s (k : Int))]] := by
      rw [take_snoc (fun b => [eB b]) (inL s) (show k < (inL s).length by omega)]
      simp [inL]
    have hkl : ((inL s).take k).length = k := by rw [List.length_take]; omega
    have e1 : decide ((k : Int) < 31) = true := by simp; omega
    (repeat' (first | simp (maxSteps := 5000000) (implicitDefEqProofs := false) only [ruA, ruB, aEv, aTake, aLoad, aField, aIndex, aLen, aBin, bin2, aUn, un1, aExtract, aConv, ASt.get, aget, ASt.put, aStore, aBox, aAppend, aBuildSlice, aMake, aBuild, aFill, oneParts, allC, aBinS, yv, aCells, oneC, oneCL, treeC, treeL, aLit, aDst, aSrc, appTab, Value.cells, Value.oneCell', envOf, aResL, aOne, ↓reduceIte, reduceCtorEq, forall_const, Nat.reduceLT, Nat.reduceEqDiff, Nat.reduceAdd, Nat.reduceMul, Nat.reduceSub, Nat.reduceLeDiff, Nat.reduceBEq, eq_self, implies_true, ne_eq, dref, dref1, dref2, aExecS, aStoreB, aTakes, aTakeE, aElder, aFrom, aFresh, isLoad, aBuildSlice1, frzs, frz1, ownIds, AV.frz, AV.frzL, frzEnv, AV.shift, AV.shiftL, aFieldV, aSliceW, aSliceO, aSlice, aSliceR, aSliceS, aBd, aMax, frzAVs, frzAV, frzTab, AObj.frz, aMM, aNilS, aMay, tyK_3, tyR_61, e1] | (with_reducible refine aIf_split (fun _ => ?_) (fun _ => ?_)) | (with_reducible refine aSel_split (fun _ => ?_) (fun _ => ?_)) | (with_reducible refine aGd_split (fun _ => ?_) (fun _ => ?_))))
    refine callV (hasR_A s k hs) ?_
    (repeat' (first | simp (maxSteps := 5000000) (implicitDefEqProofs := false) only [ruA, ruB, aEv, aTake, aLoad, aField, aIndex, aLen, aBin, bin2, aUn, un1, aExtract, aConv, ASt.get, aget, ASt.put, aStore, aBox, aAppend, aBuildSlice, aMake, aBuild, aFill, oneParts, allC, aBinS, yv, aCells, oneC, oneCL, treeC, treeL, aLit, aDst, aSrc, appTab, Value.cells, Value.oneCell', envOf, aResL, aOne, ↓reduceIte, reduceCtorEq, forall_const, Nat.reduceLT, Nat.reduceEqDiff, Nat.reduceAdd, Nat.reduceMul, Nat.reduceSub, Nat.reduceLeDiff, Nat.reduceBEq, eq_self, implies_true, ne_eq, dref, dref1, dref2, aExecS, aStoreB, aTakes, aTakeE, aElder, aFrom, aFresh, isLoad, aBuildSlice1, frzs, frz1, ownIds, AV.frz, AV.frzL, frzEnv, AV.shift, AV.shiftL, aFieldV, aSliceW, aSliceO, aSlice, aSliceR, aSliceS, aBd, aMax, frzAVs, frzAV, frzTab, AObj.frz, aMM, aNilS, aMay, tyK_3, tyR_61, e1] | (with_reducible refine aIf_split (fun _ => ?_) (fun _ => ?_)) | (with_reducible refine aSel_split (fun _ => ?_) (fun _ => ?_)) | (with_reducible refine aGd_split (fun _ => ?_) (fun _ => ?_))))
    refine ⟨rfl, by omega, roundI (weak_ren1 [2] ⟨(by decide), (by (first | ((simp only [envInR, tabInR, envLt, tabLt, AObj.lt, AV.lt, AV.ltL, AV.ren, AV.renL, AObj.ren, List.getD_cons_zero, List.getD_cons_succ, List.length_cons, List.length_nil, ruW, ASt.get, aget, ASt.put, ↓reduceIte, reduceCtorEq, Nat.reduceLT, Nat.reduceEqDiff, Nat.reduceAdd, Nat.reduceLeDiff, eq_self, implies_true, et]) <;> (repeat' apply And.intro) <;> first | (rw [wrapK (by omega)]; done) | (simp; done) | omega) | fail))⟩) ⟨k + 1, by omega, rfl⟩ (by simp only [slotN, ruW, ASt.get, aget, ASt.put, ↓reduceIte, reduceCtorEq, Nat.reduceLT, Nat.reduceEqDiff, Nat.reduceAdd, Nat.reduceLeDiff, eq_self, implies_true]; omega)⟩
  · obtain rfl : k = 31 := by omega
    have e1 : decide (((31 : Nat) : Int) < 31) = false := by decide
    (repeat' (first | simp (maxSteps := 5000000) (implicitDefEqProofs := false) only [ruA, ruB, aEv, aTake, aLoad, aField, aIndex, aLen, aBin, bin2, aUn, un1, aExtract, aConv, ASt.get, aget, ASt.put, aStore, aBox, aAppend, aBuildSlice, aMake, aBuild, aFill, oneParts, allC, aBinS, yv, aCells, oneC, oneCL, treeC, treeL, aLit, aDst, aSrc, appTab, Value.cells, Value.oneCell', envOf, aResL, aOne, ↓reduceIte, reduceCtorEq, forall_const, Nat.reduceLT, Nat.reduceEqDiff, Nat.reduceAdd, Nat.reduceMul, Nat.reduceSub, Nat.reduceLeDiff, Nat.reduceBEq, eq_self, implies_true, ne_eq, dref, dref1, dref2, aExecS, aStoreB, aTakes, aTakeE, aElder, aFrom, aFresh, isLoad, aBuildSlice1, frzs, frz1, ownIds, AV.frz, AV.frzL, frzEnv, AV.shift, AV.shiftL, aFieldV, aSliceW, aSliceO, aSlice, aSliceR, aSliceS, aBd, aMax, frzAVs, frzAV, frzTab, AObj.frz, aMM, aNilS, aMay, tyK_3, tyR_61, e1] | (with_reducible refine aIf_split (fun _ => ?_) (fun _ => ?_)) | (with_reducible refine aSel_split (fun _ => ?_) (fun _ => ?_)) | (with_reducible refine aGd_split (fun _ => ?_) (fun _ => ?_))))
    refine aGives_own ?_
    simp [ATab.get_cons, List.take_of_length_le (Nat.le_of_eq hil)]
/-- a set by its truths -/
theorem put_set (s : Int) (i : Int) (b : Bool) (h0 : 0 ≤ i) (h1 : i < 31) : sumF ((inL s).set i.toNat b) 31 = if b = true then withB s i else withoutB s i := by
  have hr := bitsN_lt (fun j => ((inL s).set i.toNat b).getD j false) 31
  have hw : (0 : Int) ≤ (if b = true then withB s i else withoutB s i) ∧ (if b = true then withB s i else withoutB s i) < 2147483648 := by
    split
    · unfold withB
      rw [if_pos ⟨h0, h1⟩]
      have : low s ||| 2 ^ i.toNat < 2 ^ 31 := Nat.or_lt_two_pow (low_lt s) (Nat.pow_lt_pow_right (by omega) (by omega))
      omega
    · unfold withoutB
      rw [if_pos ⟨h0, h1⟩]
      have : low s ^^^ (low s &&& 2 ^ i.toNat) < 2 ^ 31 := Nat.xor_lt_two_pow (low_lt s) (Nat.lt_of_le_of_lt Nat.and_le_left (low_lt s))
      omega
  unfold sumF
  refine set_ext (by omega) hw fun j hj => ?_
  rw [bitsN_has _ j hj]
  have hlen : (inL s).length = 31 := by simp [inL]
  have hg : ((inL s).set i.toNat b).getD j false = if i.toNat = j then b else hasB s (j : Int) := by
    rw [List.getD_eq_getElem?_getD, List.getElem?_set]
    split
    · rename_i h
      rw [hlen, if_pos (by omega)]
      rfl
    · simp [inL, hj]
  rw [hg]
  have e1 : (decide (0 ≤ i ∧ i < 31)) = true := by simp [h0, h1]
  split
  · rename_i h
    have h2 : ((j : Int) == i) = true := by simp; omega
    cases b
    · simp [hasB_without, h2]
    · simp [hasB_with, e1, h2]
  · rename_i h
    have h2 : ((j : Int) == i) = false := by simp; omega
    cases b
    · simp [hasB_without, h2]
    · simp [hasB_with, h2]
set_option maxRecDepth 100000 in
theorem put_A (s i : Int) (b : Bool) (hs : ok64 s) (h0 : 0 ≤ i) (h1 : i < 31) : ADet Try.prog 24 [eI s, eI i, eB b] (val (.int .i64 (if b = true then withB s i else withoutB s i))) := by
  refine adet_of_code mixedT Try.func24 rfl (by decide) Try.ntmps24 Try.results24 rfl (val_ok _) ?_
  rw [← put_set s i b h0 h1]
  have hlen : (inL s).length = 31 := by simp [inL]
  obtain ⟨q, rfl⟩ : ∃ q : Nat, i = (q : Int) := ⟨i.toNat, by omega⟩
  have e1 : decide ((q : Int) ≤ 30) = true := by simp; omega
  have hq : q < (inL s).length := by omega
  have bools_plain : ∀ row ∈ (inL s).map (fun b => [eB b]), ∀ av ∈ row, av.plain := fun row hr av ha => by
    obtain ⟨n, _, rfl⟩ := List.mem_map.1 hr
    simp at ha
    subst ha
    trivial
  have hset : (((inL s).map fun b => [eB b]).set q [eB b]) = ((inL s).set q b).map fun b => [eB b] := by rw [List.map_set]
  (repeat' (first | simp (maxSteps := 5000000) (implicitDefEqProofs := false) only [ruA, ruB, aEv, aTake, aLoad, aField, aIndex, aLen, aBin, bin2, aUn, un1, aExtract, aConv, ASt.get, aget, ASt.put, aStore, aBox, aAppend, aBuildSlice, aMake, aBuild, aFill, oneParts, allC, aBinS, yv, aCells, oneC, oneCL, treeC, treeL, aLit, aDst, aSrc, appTab, Value.cells, Value.oneCell', envOf, aResL, aOne, ↓reduceIte, reduceCtorEq, forall_const, Nat.reduceLT, Nat.reduceEqDiff, Nat.reduceAdd, Nat.reduceMul, Nat.reduceSub, Nat.reduceLeDiff, Nat.reduceBEq, eq_self, implies_true, ne_eq, dref, dref1, dref2, aExecS, aStoreB, aTakes, aTakeE, aElder, aFrom, aFresh, isLoad, aBuildSlice1, frzs, frz1, ownIds, AV.frz, AV.frzL, frzEnv, AV.shift, AV.shiftL, aFieldV, aSliceW, aSliceO, aSlice, aSliceR, aSliceS, aBd, aMax, frzAVs, frzAV, frzTab, AObj.frz, aMM, aNilS, aMay, tyK_3, tyE_61, tyS_4, e1] | (with_reducible refine aIf_split (fun _ => ?_) (fun _ => ?_)) | (with_reducible refine aSel_split (fun _ => ?_) (fun _ => ?_)) | (with_reducible refine aGd_split (fun _ => ?_) (fun _ => ?_))))
  refine callO (inR_A s hs) (.inr bools_plain) ?_
  (repeat' (first | simp (maxSteps := 5000000) (implicitDefEqProofs := false) only [ruA, ruB, aEv, aTake, aLoad, aField, aIndex, aLen, aBin, bin2, aUn, un1, aExtract, aConv, ASt.get, aget, ASt.put, aStore, aBox, aAppend, aBuildSlice, aMake, aBuild, aFill, oneParts, allC, aBinS, yv, aCells, oneC, oneCL, treeC, treeL, aLit, aDst, aSrc, appTab, Value.cells, Value.oneCell', envOf, aResL, aOne, ↓reduceIte, reduceCtorEq, forall_const, Nat.reduceLT, Nat.reduceEqDiff, Nat.reduceAdd, Nat.reduceMul, Nat.reduceSub, Nat.reduceLeDiff, Nat.reduceBEq, eq_self, implies_true, ne_eq, dref, dref1, dref2, aExecS, aStoreB, aTakes, aTakeE, aElder, aFrom, aFresh, isLoad, aBuildSlice1, frzs, frz1, ownIds, AV.frz, AV.frzL, frzEnv, AV.shift, AV.shiftL, aFieldV, aSliceW, aSliceO, aSlice, aSliceR, aSliceS, aBd, aMax, frzAVs, frzAV, frzTab, AObj.frz, aMM, aNilS, aMay, tyK_3, tyE_61, tyS_4, e1] | (with_reducible refine aIf_split (fun _ => ?_) (fun _ => ?_)) | (with_reducible refine aSel_split (fun _ => ?_) (fun _ => ?_)) | (with_reducible refine aGd_split (fun _ => ?_) (fun _ => ?_))))
  have hs' := sum_A ((inL s).set q b) (by simp; omega)
  rw [List.length_set, hlen] at hs'
  refine ⟨by omega, ?_⟩
  (repeat' (first | simp (maxSteps := 5000000) (implicitDefEqProofs := false) only [ruA, ruB, aEv, aTake, aLoad, aField, aIndex, aLen, aBin, bin2, aUn, un1, aExtract, aConv, ASt.get, aget, ASt.put, aStore, aBox, aAppend, aBuildSlice, aMake, aBuild, aFill, oneParts, allC, aBinS, yv, aCells, oneC, oneCL, treeC, treeL, aLit, aDst, aSrc, appTab, Value.cells, Value.oneCell', envOf, aResL, aOne, ↓reduceIte, reduceCtorEq, forall_const, Nat.reduceLT, Nat.reduceEqDiff, Nat.reduceAdd, Nat.reduceMul, Nat.reduceSub, Nat.reduceLeDiff, Nat.reduceBEq, eq_self, implies_true, ne_eq, dref, dref1, dref2, aExecS, aStoreB, aTakes, aTakeE, aElder, aFrom, aFresh, isLoad, aBuildSlice1, frzs, frz1, ownIds, AV.frz, AV.frzL, frzEnv, AV.shift, AV.shiftL, aFieldV, aSliceW, aSliceO, aSlice, aSliceR, aSliceS, aBd, aMax, frzAVs, frzAV, frzTab, AObj.frz, aMM, aNilS, aMay, tyK_3, tyE_61, tyS_4, e1, row_at, hq] | (with_reducible refine aIf_split (fun _ => ?_) (fun _ => ?_)) | (with_reducible refine aSel_split (fun _ => ?_) (fun _ => ?_)) | (with_reducible refine aGd_split (fun _ => ?_) (fun _ => ?_))))
  rw [hset]
  refine callV (by exact hs') ?_
  (repeat' (first | simp (maxSteps := 5000000) (implicitDefEqProofs := false) only [ruA, ruB, aEv, aTake, aLoad, aField, aIndex, aLen, aBin, bin2, aUn, un1, aExtract, aConv, ASt.get, aget, ASt.put, aStore, aBox, aAppend, aBuildSlice, aMake, aBuild, aFill, oneParts, allC, aBinS, yv, aCells, oneC, oneCL, treeC, treeL, aLit, aDst, aSrc, appTab, Value.cells, Value.oneCell', envOf, aResL, aOne, ↓reduceIte, reduceCtorEq, forall_const, Nat.reduceLT, Nat.reduceEqDiff, Nat.reduceAdd, Nat.reduceMul, Nat.reduceSub, Nat.reduceLeDiff, Nat.reduceBEq, eq_self, implies_true, ne_eq, dref, dref1, dref2, aExecS, aStoreB, aTakes, aTakeE, aElder, aFrom, aFresh, isLoad, aBuildSlice1, frzs, frz1, ownIds, AV.frz, AV.frzL, frzEnv, AV.shift, AV.shiftL, aFieldV, aSliceW, aSliceO, aSlice, aSliceR, aSliceS, aBd, aMax, frzAVs, frzAV, frzTab, AObj.frz, aMM, aNilS, aMay, tyK_3, tyE_61, tyS_4] | (with_reducible refine aIf_split (fun _ => ?_) (fun _ => ?_)) | (with_reducible refine aSel_split (fun _ => ?_) (fun _ => ?_)) | (with_reducible refine aGd_split (fun _ => ?_) (fun _ => ?_))))
end
section
open Go.RowKit
def in31 (o : Int) : Prop := 0 ≤ o ∧ o < 2147483648
theorem in31_ok {o : Int} (h : in31 o) : ok64 o := by unfold in31 at h; unfold ok64; omega
theorem low_31 (s : Int) : in31 (low s : Int) := by
  have := low_lt s
  unfold in31
  omega
theorem withB_31 (s i : Int) : in31 (withB s i) := by
  unfold withB
  split
  · have h1 : low s ||| 2 ^ i.toNat < 2 ^ 31 := Nat.or_lt_two_pow (low_lt s) (Nat.pow_lt_pow_right (by omega) (by omega))
    unfold in31
    omega
  · exact low_31 s
def upto (q : Nat → Bool) (k : Nat) : Nat → Bool := fun i => decide (i < k) && q i
theorem bools_plain {l : List Bool} : ∀ row ∈ l.map (fun b => [eB b]), ∀ av ∈ row, av.plain := fun row hr av ha => by
  obtain ⟨n, _, rfl⟩ := List.mem_map.1 hr
  simp at ha
  subst ha
  trivial
end
section
open Go.RowKit
/-- the set of so many -/
def firstI (n : Int) : Int := 2 ^ (max 0 (min n 31)).toNat - 1
theorem first_A (n : Int) : ADet Try.prog 43 [eI n] (val (.int .i64 (firstI n))) := by
  refine adet_of_code mixedT Try.func43 rfl (by decide) Try.ntmps43 Try.results43 rfl (val_ok _) ?_
  have h0 : ¬ (max 0 (min n 31) < 0) := by omega
  have h2 : (max 0 (min n 31)).toNat ≤ 31 := by omega
  have h1 : min (max 0 (min n 31)).toNat IntKind.i64.bits = (max 0 (min n 31)).toNat := by
    have : IntKind.i64.bits = 64 := rfl
    omega
  have hp : (1 : Int) ≤ 2 ^ (max 0 (min n 31)).toNat ∧ (2 : Int) ^ (max 0 (min n 31)).toNat ≤ 2147483648 := by
    have h3 : 2 ^ (max 0 (min n 31)).toNat ≤ 2 ^ 31 := Nat.pow_le_pow_right (by omega) h2
    have h4 : 1 ≤ 2 ^ (max 0 (min n 31)).toNat := Nat.one_le_two_pow
    have e : (2 : Int) ^ (max 0 (min n 31)).toNat = ((2 ^ (max 0 (min n 31)).toNat : Nat) : Int) := by simp
    rw [e]
    omega
  have w1 : IntKind.i64.wrap (1 * 2 ^ (max 0 (min n 31)).toNat) = 2 ^ (max 0 (min n 31)).toNat := by
    rw [Int.one_mul]
    exact wrap_in (by omega) (by omega)
  have w2 : IntKind.i64.wrap (2 ^ (max 0 (min n 31)).toNat - 1) = 2 ^ (max 0 (min n 31)).toNat - 1 := wrap_in (by omega) (by omega)
  unfold firstI
  (repeat' (first | simp (maxSteps := 5000000) (implicitDefEqProofs := false) only [ruA, ruB, aEv, aTake, aLoad, aField, aIndex, aLen, aBin, bin2, aUn, un1, aExtract, aConv, ASt.get, aget, ASt.put, aStore, aBox, aAppend, aBuildSlice, aMake, aBuild, aFill, oneParts, allC, aBinS, yv, aCells, oneC, oneCL, treeC, treeL, aLit, aDst, aSrc, appTab, Value.cells, Value.oneCell', envOf, aResL, aOne, ↓reduceIte, reduceCtorEq, forall_const, Nat.reduceLT, Nat.reduceEqDiff, Nat.reduceAdd, Nat.reduceMul, Nat.reduceSub, Nat.reduceLeDiff, Nat.reduceBEq, eq_self, implies_true, ne_eq, dref, dref1, dref2, aExecS, aStoreB, aTakes, aTakeE, aElder, aFrom, aFresh, isLoad, aBuildSlice1, frzs, frz1, ownIds, AV.frz, AV.frzL, frzEnv, AV.shift, AV.shiftL, aFieldV, aSliceW, aSliceO, aSlice, aSliceR, aSliceS, aBd, aMax, frzAVs, frzAV, frzTab, AObj.frz, aMM, aNilS, aMay, tyK_3, h0, h1, w1, w2] | (with_reducible refine aIf_split (fun _ => ?_) (fun _ => ?_)) | (with_reducible refine aSel_split (fun _ => ?_) (fun _ => ?_)) | (with_reducible refine aGd_split (fun _ => ?_) (fun _ => ?_))))
end
section
open Go.RowKit
section
variable {P : Program} {f : FuncId} {args : List AV}
theorem res_frz {cx : Cx} {w' : World} {L : Nat → Value} {v : Value} {R : Res} (h5 : R.Ok) (h7 : Lay cx w' R.tab L) (h8 : RVx cx w' R.tab L v R.r) (id : Nat) : (R.frz id).Ok ∧ Lay cx w' (R.frz id).tab L ∧ RVx cx w' (R.frz id).tab L v (R.frz id).r := by
  unfold Res.frz
  split
  · rename_i e' sz rows hid
    obtain ⟨h9, h10⟩ := frz_core h7 (fun k o hk => (h5.young k o hk).2) hid
    refine ⟨⟨fun k o hk => ?_, frz_lt h5.lt⟩, h9, h10 v _ h8 h5.lt⟩
    simp only [ATab.get_cons, frzTab_get] at hk
    split at hk
    · cases hk
    · cases hg : R.tab.get k with
      | none => simp [hg] at hk
      | some o' =>
        simp [hg] at hk
        subst hk
        exact ⟨(h5.young k o' hg).1, frz_obj_lt (h5.young k o' hg).2⟩
  · exact ⟨h5, h7, h8⟩
theorem res_frzs {cx : Cx} {w' : World} {L : Nat → Value} {v : Value} : ∀ (ids : List Nat) {R : Res}, R.Ok → Lay cx w' R.tab L → RVx cx w' R.tab L v R.r → (R.frzs ids).Ok ∧ Lay cx w' (R.frzs ids).tab L ∧ RVx cx w' (R.frzs ids).tab L v (R.frzs ids).r
  | [], R, h1, h2, h3 => ⟨h1, h2, h3⟩
  | id :: ids, R, h1, h2, h3 => by
    obtain ⟨h4, h5, h6⟩ := res_frz h1 h2 h3 id
    exact res_frzs ids h4 h5 h6
inductive FitsT : AV → AV → Prop
  | one {a b : AV} (h : FitsA a b) : FitsT a b
  | tup {l l' : List AV} (h : FitsAs l l') : FitsT (.tup l) (.tup l')
theorem rt_of_rv {w : World} {S : Nat → Prop} {K : Nat → Option (Nat × Value)} {x : Value} {av : AV} (h : RV w S K x av) : av.lt 0 → RT w S x av := by
  induction h with
  | tree h => exact fun _ => h
  | osl x id h => exact fun h2 => by simp [AV.lt] at h2
  | op x id i j h => exact fun h2 => by simp [AV.lt] at h2
  | agg xs cs hn hr ih =>
    intro h2
    simp only [AV.lt] at h2
    exact .agg xs cs hn fun j x av h3 h4 => ih j x av h3 h4 (ltL_iff.1 h2 av (List.mem_of_getElem? h4))
  | tup xs cs hn hr ih =>
    intro h2
    simp only [AV.lt] at h2
    exact .tup xs cs hn fun j x av h3 h4 => ih j x av h3 h4 (ltL_iff.1 h2 av (List.mem_of_getElem? h4))
  | fn f xs cs hn hr ih =>
    intro h2
    simp only [AV.lt] at h2
    exact .fn f xs cs hn fun j x av h3 h4 => ih j x av h3 h4 (ltL_iff.1 h2 av (List.mem_of_getElem? h4))
theorem RT.tup_inv {w : World} {S : Nat → Prop} {x : Value} {cs : List AV} (h : RT w S x (.tup cs)) : ∃ xs : Array Value, x = .tuple xs ∧ xs.size = cs.length ∧ ∀ (j : Nat) (x : Value) (av : AV), xs[j]? = some x → cs[j]? = some av → RT w S x av := by
  cases h with
  | tup xs _ hn hr => exact ⟨xs, rfl, hn, hr⟩
theorem FitsT.rt {w : World} {S : Nat → Prop} {v : Value} {a b : AV} (h : FitsT a b) (hr : RT w S v a) : RT w S v b := by
  cases h with
  | one h => exact h.rt hr
  | @tup l l' h =>
    obtain ⟨xs, rfl, hn, hx⟩ := hr.tup_inv
    obtain ⟨h1, h2⟩ := h.spec
    refine .tup xs l' (by omega) fun j x av h3 h4 => ?_
    have hj : j < l.length := by
      have := (List.getElem?_eq_some_iff.1 h4).1
      omega
    have h5 : l[j]? = some l[j] := List.getElem?_eq_getElem hj
    exact (h2 j _ av h5 h4).rt (hx j x _ h3 h5)
theorem tab_ok {R : Res} (h1 : tabLt R.n R.tab) (h2 : R.r.lt R.n) : R.Ok := by
  refine ⟨?_, h2⟩
  revert h1
  generalize R.tab = T
  induction T with
  | nil => exact fun _ id o h => by cases h
  | cons p T ih =>
    obtain ⟨k, ob⟩ := p
    intro h1 id o h
    rw [ATab.get_cons] at h
    cases ob with
    | none =>
      simp only [tabLt] at h1
      split at h
      · cases h
      · exact ih h1 id o h
    | some ob =>
      simp only [tabLt] at h1
      split at h
      · rename_i e
        cases h
        exact ⟨by rw [e]; exact h1.1.1, h1.1.2⟩
      · exact ih h1.2 id o h
/-- an answer that nobody writes any more -/
theorem ARel.tree {Post : Res → Prop} {r' : AV} (h : ARel P f args Post) (hl : r'.lt 0) (hp : ∀ R, Post R → ∃ ids, (R.frzs ids).r.lt 0 ∧ FitsT (R.frzs ids).r r') : ADet P f args ⟨r', [], 0⟩ :=
  ⟨h.1, fun S w vs h1 h2 h3 => (h.2 S w vs h1 h2 h3).mono fun e w' ⟨v, L, R, h4, h5, h6, h7, h8⟩ => by
    obtain ⟨ids, ha, hc⟩ := hp R h4
    obtain ⟨h9, h10, h11⟩ := res_frzs ids h5 h7 h8
    have hext : Ext (Cx.mk0 S w h1) w' (R.frzs ids).tab L 0 w' [] L := ⟨fun _ _ => rfl, fun b hb => ⟨hb.1, hb.2.1, fun k o hk => (by cases hk)⟩, fun k p _ hk => by simp [Kx, ATab.get] at hk⟩
    have h12 := rt_of_rv (hext.rv h11 ha) ha
    exact ⟨v, L, ⟨r', [], 0⟩, rfl, ⟨fun id o hk => (by cases hk), hl⟩, h6, ⟨h10.below, fun id o hk => (by cases hk), fun id id' o o' g hk => (by cases hk), fun b hb => hb.elim⟩, .tree (hc.rt h12)⟩⟩
end
end
section
def isD (b : Nat) : Bool := decide (48 ≤ b) && decide (b ≤ 57)
def valL (l : List Nat) : Nat := l.foldl (fun n b => n * 10 + (b - 48)) 0
def formedL (l : List Nat) : Bool := !l.isEmpty && l.all isD
/-- the number, and the error's number -/
def signed (neg : Bool) (l : List Nat) : Int × Int :=
  if formedL l = false then (0, 17) else if (if neg = true then 9223372036854775808 else 9223372036854775807) < valL l then (0, 2) else (if neg = true then -(valL l : Int) else (valL l : Int), 0)
end
section
open Go.RowKit

/-- v holds the numbers l -/
def LI (w : World) (v : Value) (l : List Int) : Prop :=
  ∃ A c, v = .slice A l.length c ∧ l.length ≤ c ∧ (0 < l.length → ∃ b o, A = some ⟨b, o, none⟩ ∧ b < w.heap.size ∧ ∀ i (h : i < l.length), w.cell? ⟨b, o + i, none⟩ = some (.int .i64 l[i]))
theorem LI.below {w w' : World} {v : Value} {l : List Int} (h : LI w v l) (hb : Below w.heap.size w w') : LI w' v l := by
  obtain ⟨A, c, rfl, hc, hr⟩ := h
  refine ⟨A, c, rfl, hc, fun hp => ?_⟩
  obtain ⟨b, o, hA, hb1, hcell⟩ := hr hp
  exact ⟨b, o, hA, Nat.lt_of_lt_of_le hb1 hb.size, fun i hi => (hb.cell hb1).trans (hcell i hi)⟩
theorem LI.some_ {w : World} {v : Value} {l : List Int} (h : LI w v l) (hp : 0 < l.length) : ∃ b o c, v = .slice (some ⟨b, o, none⟩) l.length c ∧ l.length ≤ c ∧ b < w.heap.size ∧ ∀ i (h : i < l.length), w.cell? ⟨b, o + i, none⟩ = some (.int .i64 l[i]) := by
  obtain ⟨A, c, rfl, hc, hr⟩ := h
  obtain ⟨b, o, rfl, hb, hcell⟩ := hr hp
  exact ⟨b, o, c, rfl, hc, hb, hcell⟩
theorem LI.at_ {w : World} {A : Option Addr} {c : Nat} {l : List Int} (h : LI w (.slice A l.length c) l) {i : Nat} (hi : i < l.length) : ∃ b o, A = some ⟨b, o, none⟩ ∧ b < w.heap.size ∧ w.cell? ⟨b, o + i, none⟩ = some (.int .i64 l[i]) := by
  obtain ⟨A', c', e, hc, hr⟩ := h
  obtain ⟨rfl, _, rfl⟩ : A = A' ∧ l.length = l.length ∧ c = c' := by simpa using e
  obtain ⟨b, o, rfl, hb, hcell⟩ := hr (by omega)
  exact ⟨b, o, rfl, hb, hcell i hi⟩
theorem LI.of_own {w : World} {base n : Nat} {v : Value} {l : List Int} (h : w.ownsRow base 2 1 v n (l.map (Value.int .i64))) (hn : n = l.length) : LI w v l := by
  subst hn
  obtain ⟨A, c, rfl, hc⟩ := own_form h
  refine ⟨A, c, rfl, hc, fun hp => ?_⟩
  obtain ⟨g, c', e, _, _, hg⟩ := own_some h hp
  obtain ⟨rfl, _, rfl⟩ : A = some ⟨g, 0, none⟩ ∧ l.length = l.length ∧ c = c' := by simpa using e
  exact ⟨g, 0, rfl, hg, fun i hi => by rw [Nat.zero_add]; exact own_cell h rfl (by simp [hi])⟩
end
section
open Go.RowKit
def LN (B : Nat) (w : World) (v : Value) (l : List Int) : Prop :=
  ∃ A c, v = .slice A l.length c ∧ l.length ≤ c ∧ c ≤ 9223372036854775807 ∧ (0 < l.length → ∃ b o, A = some ⟨b, o, none⟩ ∧ B ≤ b ∧ b < w.heap.size ∧ ∀ i (h : i < l.length), w.cell? ⟨b, o + i, none⟩ = some (.int .i64 l[i]))
theorem LN.of_own {w : World} {base n : Nat} {v : Value} {l : List Int} (h : w.ownsRow base 2 1 v n (l.map (Value.int .i64))) (hn : n = l.length) : LN base w v l := by
  subst hn
  have h0 := h
  rcases h0.2 with ⟨rfl, h1⟩ | ⟨g, cap, cur, rfl, hb, hg, h2, h3, _⟩
  · exact ⟨none, 0, by rw [h1], by omega, by omega, fun hp => by omega⟩
  · refine ⟨_, cap, rfl, h2, by unfold maxLen at h3; omega, fun hp => ⟨g, 0, rfl, hb, (Array.getElem?_eq_some_iff.1 hg).1, fun i hi => ?_⟩⟩
    rw [Nat.zero_add]
    exact own_cell h rfl (by simp [hi])
theorem LN.rt {B : Nat} {w : World} {S : Nat → Prop} {v : Value} {l : List Int} (h : LN B w v l) (hS : ∀ b, B ≤ b → b < w.heap.size → S b) : RT w S v (sI l) := by
  obtain ⟨A, c, rfl, h1, h2, h3⟩ := h
  have key : ∀ (i j : Nat) (row : List AV) (av : AV), (l.map fun n => [eI n])[i]? = some row → row[j]? = some av → ∃ hi : i < l.length, j = 0 ∧ av = eI l[i] := fun i j row av h4 h5 => by
    have hi : i < l.length := by
      have := (List.getElem?_eq_some_iff.1 h4).1
      simpa using this
    rw [List.getElem?_map, List.getElem?_eq_getElem hi] at h4
    cases h4
    match j with
    | 0 => exact ⟨hi, rfl, by simpa using h5.symm⟩
    | j + 1 => simp at h5
  by_cases h0 : 0 < l.length
  · obtain ⟨b, o, rfl, hb, hbs, hcell⟩ := h3 h0
    refine .sl _ _ c 1 _ b o (fun i _ => .int .i64 (l.getD i 0)) (by simp) h1 h2 (fun _ => ⟨rfl, hS b hb hbs⟩) (fun row hr => by obtain ⟨n, _, rfl⟩ := List.mem_map.1 hr; rfl) (fun _ i j row av h4 h5 => ?_) (fun _ _ _ _ _ _ => rfl) (fun i j row av h4 h5 => ?_)
    · obtain ⟨hi, rfl, _⟩ := key i j row av h4 h5
      rw [Nat.mul_one, Nat.add_zero, hcell i hi, List.getD_eq_getElem?_getD, List.getElem?_eq_getElem hi]
      rfl
    · obtain ⟨hi, rfl, rfl⟩ := key i j row av h4 h5
      rw [List.getD_eq_getElem?_getD, List.getElem?_eq_getElem hi]
      exact .c _
  · have : l = [] := List.length_eq_zero_iff.1 (by omega)
    subst this
    exact .sl A 0 c 1 [] 0 0 (fun _ _ => undef) rfl h1 h2 (fun h => by omega) (by simp) (fun h => by omega) (by simp) (by simp)
theorem LI.of_rt {w : World} {S : Nat → Prop} {v : Value} {l : List Int} (h : RT w S v (sI l)) (hS : SOk w S) : LI w v l := by
  obtain ⟨A, cap, rfl, hc, hm, _, hA⟩ := h.sl_inv
  refine ⟨A, cap, by simp, by simpa using hc, fun h0 => ?_⟩
  obtain ⟨b, o, rfl, hb, U, hcell, hr, _⟩ := hA (by simpa using h0)
  refine ⟨b, o, rfl, hS b hb, fun i hi => ?_⟩
  have h1 : (l.map fun n => [eI n])[i]? = some [eI l[i]] := by simp [hi]
  have h2 := hcell i 0 _ _ h1 rfl
  have h3 := rtc (hr i 0 _ _ h1 rfl)
  rw [h3] at h2
  simpa using h2
theorem adet_of_sl {P : Program} {f : FuncId} {args : List AV} {sz : Nat} {rows : List (List AV)} (he : Enters P f)
    (h : ∀ (S : Nat → Prop) (w : World) (vs : Array Value), SOk w S → vs.size = args.length → (∀ (j : Nat) (v : Value) (av : AV), vs[j]? = some v → args[j]? = some av → RT w S v av) →
      Calls P f vs w fun e w' => ∃ v, e = .returned v ∧ (∀ S', (∀ b, w.heap.size ≤ b → b < w'.heap.size → S' b) → RT w' S' v (.sl sz rows)) ∧ Below w.heap.size w w') : ADet P f args ⟨.sl sz rows, [], 0⟩ :=
  ⟨he, fun S w vs h1 h2 h3 => (h S w vs h1 h2 h3).mono fun e w' ⟨v, h4, h5, h6⟩ => ⟨v, fun _ => undef, ⟨.sl sz rows, [], 0⟩, rfl, ⟨fun id o h => (by cases h), by simp [AV.lt]⟩, h4, ⟨belowX h6, fun id o h => (by cases h), fun id id' o o' g h => (by cases h), fun b hb => hb.elim⟩, .tree (h5 _ fun b hb hb2 => ⟨hb2, ⟨.inr hb, fun hX => hX⟩, fun id o h => (by cases h)⟩)⟩⟩
end
section
def insS (x : Int) (st : List Int × Bool) (y : Int) : List Int × Bool :=
  ((st.1 ++ (if st.2 = false ∧ x ≤ y then [x] else [])) ++ (if y ≠ x then [y] else []), st.2 || decide (x ≤ y))
def insR (x : Int) (l : List Int) : List Int × Bool := l.foldl (insS x) ([], false)
def insP (x : Int) (out : List Int) : List Int := if (insR x out).2 then (insR x out).1 else (insR x out).1 ++ [x]
def sortR (l : List Int) : List Int := l.foldl (fun out x => insP x out) []

theorem insR_snoc (x : Int) (l : List Int) (y : Int) : insR x (l ++ [y]) = insS x (insR x l) y := by simp [insR]
theorem insR_take (x : Int) (l : List Int) (k : Nat) (h : k < l.length) : insR x (l.take (k + 1)) = insS x (insR x (l.take k)) l[k] := by
  rw [List.take_succ_eq_append_getElem h, insR_snoc]
theorem sortR_snoc (l : List Int) (x : Int) : sortR (l ++ [x]) = insP x (sortR l) := by simp [sortR]
theorem sortR_take (l : List Int) (k : Nat) (h : k < l.length) : sortR (l.take (k + 1)) = insP l[k] (sortR (l.take k)) := by
  rw [List.take_succ_eq_append_getElem h, sortR_snoc]
theorem snoc_ind {p : List Int → Prop} (h0 : p []) (h1 : ∀ l x, p l → p (l ++ [x])) (l : List Int) : p l := by
  rw [← List.reverse_reverse l]
  induction l.reverse with
  | nil => exact h0
  | cons x r ih => rw [List.reverse_cons]; exact h1 _ _ ih
theorem insR_len (x : Int) (l : List Int) : (insR x l).1.length ≤ l.length + (if (insR x l).2 then 1 else 0) := by
  induction l using snoc_ind with
  | h0 => simp [insR]
  | h1 l y ih =>
    rw [insR_snoc]
    generalize insR x l = st at *
    obtain ⟨n, b⟩ := st
    cases b <;> by_cases h1 : x ≤ y <;> by_cases h2 : y = x <;> simp [insS, h1, h2] at ih ⊢ <;> omega
theorem insP_len (x : Int) (l : List Int) : (insP x l).length ≤ l.length + 1 := by
  have := insR_len x l
  unfold insP
  split <;> rename_i h <;> simp [h] at this ⊢ <;> omega
theorem sortR_len (l : List Int) : (sortR l).length ≤ l.length := by
  induction l using snoc_ind with
  | h0 => simp [sortR]
  | h1 l y ih => rw [sortR_snoc]; have := insP_len y (sortR l); simp; omega

/-- strictly rising -/
def Up (l : List Int) : Prop := l.Pairwise (· < ·)
theorem insR_up (x : Int) (l : List Int) (h : Up l) :
    Up (insR x l).1 ∧ (∀ z, z ∈ (insR x l).1 ↔ z ∈ l ∨ ((insR x l).2 = true ∧ z = x)) ∧ ((insR x l).2 = true ↔ ∃ z ∈ l, x ≤ z) ∧ ((insR x l).2 = true → x ∈ (insR x l).1) := by
  induction l using snoc_ind with
  | h0 => simp [insR, Up]
  | h1 l y ih =>
    have hl : Up l := (List.pairwise_append.1 h).1
    have hy : ∀ z ∈ l, z < y := fun z hz => (List.pairwise_append.1 h).2.2 z hz y (by simp)
    obtain ⟨i1, i2, i3, i4⟩ := ih hl
    rw [insR_snoc]
    generalize insR x l = st at *
    obtain ⟨n, b⟩ := st
    simp only at i1 i2 i3 i4
    cases b with
    | true =>
      obtain ⟨z, hz, hxz⟩ := i3.1 rfl
      have hxy : x < y := by have := hy z hz; omega
      have hne : y ≠ x := by omega
      simp only [insS, Bool.true_or, Bool.true_eq_false, false_and, if_false, List.append_nil, if_pos hne]
      refine ⟨List.pairwise_append.2 ⟨i1, by simp, ?_⟩, ?_, ?_, ?_⟩
      · intro a ha c hc
        rw [List.mem_singleton] at hc; subst hc
        rcases (i2 a).1 ha with h | ⟨_, rfl⟩
        · exact hy a h
        · exact hxy
      · intro a; simp only [List.mem_append, List.mem_singleton, i2]; constructor
        · rintro ((h | h) | h)
          · exact .inl (.inl h)
          · exact .inr h
          · exact .inl (.inr h)
        · rintro ((h | h) | h)
          · exact .inl (.inl h)
          · exact .inr h
          · exact .inl (.inr h)
      · exact ⟨fun _ => ⟨z, by simp [hz], hxz⟩, fun _ => trivial⟩
      · intro _; simp [i4 rfl]
    | false =>
      have hlow : ∀ z ∈ l, z < x := fun z hz => by
        rcases Int.lt_or_le z x with h | h
        · exact h
        · exact absurd (i3.2 ⟨z, hz, h⟩) (by simp)
      have hn : ∀ z, z ∈ n ↔ z ∈ l := fun z => by rw [i2]; simp
      by_cases hxy : x ≤ y
      · by_cases hne : y = x
        · subst hne
          simp only [insS, Int.le_refl, and_self, if_true, ne_eq, not_true, if_false, List.append_nil, decide_true, Bool.or_true]
          refine ⟨List.pairwise_append.2 ⟨i1, by simp, ?_⟩, ?_, ?_, ?_⟩
          · intro a ha c hc
            rw [List.mem_singleton] at hc; subst hc
            exact hy a ((hn a).1 ha)
          · intro a; simp only [List.mem_append, List.mem_singleton, hn]; constructor
            · rintro (h | h)
              · exact .inl (.inl h)
              · exact .inl (.inr h)
            · rintro (h | ⟨_, h⟩)
              · exact h
              · exact .inr h
          · exact ⟨fun _ => ⟨y, by simp, Int.le_refl _⟩, fun _ => trivial⟩
          · intro _; simp
        · simp only [insS, hxy, and_self, if_true, ne_eq, hne, not_false_eq_true, decide_true, Bool.or_true]
          refine ⟨?_, ?_, ?_, ?_⟩
          · unfold Up
            rw [List.append_assoc]
            refine List.pairwise_append.2 ⟨i1, by simp; omega, ?_⟩
            intro a ha c hc
            have hal := (hn a).1 ha
            have h1 := hlow a hal
            have h2 := hy a hal
            simp at hc
            rcases hc with rfl | rfl
            · exact h1
            · exact h2
          · intro a; simp only [List.mem_append, List.mem_singleton, hn]; constructor
            · rintro ((h | h) | h)
              · exact .inl (.inl h)
              · exact .inr ⟨by simp, h⟩
              · exact .inl (.inr h)
            · rintro ((h | h) | ⟨_, h⟩)
              · exact .inl (.inl h)
              · exact .inr h
              · exact .inl (.inr h)
          · exact ⟨fun _ => ⟨y, by simp, hxy⟩, fun _ => trivial⟩
          · intro _; simp
      · have hne : y ≠ x := by omega
        have hd : decide (x ≤ y) = false := decide_eq_false hxy
        simp only [insS, hxy, and_false, if_false, List.append_nil, if_pos hne, hd, Bool.or_false]
        refine ⟨List.pairwise_append.2 ⟨i1, by simp, ?_⟩, ?_, ?_, ?_⟩
        · intro a ha c hc
          rw [List.mem_singleton] at hc; subst hc
          exact hy a ((hn a).1 ha)
        · intro a; simp only [List.mem_append, List.mem_singleton, hn]; simp
        · constructor
          · intro h; cases h
          · rintro ⟨z, hz, hxz⟩
            rcases List.mem_append.1 hz with h | h
            · have := hlow z h; omega
            · rw [List.mem_singleton] at h; subst h; exact absurd hxz hxy
        · intro h; cases h
theorem insP_up (x : Int) (l : List Int) (h : Up l) : Up (insP x l) ∧ ∀ z, z ∈ insP x l ↔ z ∈ l ∨ z = x := by
  obtain ⟨i1, i2, i3, i4⟩ := insR_up x l h
  unfold insP
  split
  · rename_i hb
    refine ⟨i1, fun z => ?_⟩
    rw [i2]; simp [hb]
  · rename_i hb
    have hlow : ∀ z ∈ l, z < x := fun z hz => by
      rcases Int.lt_or_le z x with h | h
      · exact h
      · exact absurd (i3.2 ⟨z, hz, h⟩) hb
    have hn : ∀ z, z ∈ (insR x l).1 ↔ z ∈ l := fun z => by rw [i2]; simp [hb]
    refine ⟨List.pairwise_append.2 ⟨i1, by simp, ?_⟩, fun z => ?_⟩
    · intro a ha c hc
      rw [List.mem_singleton] at hc; subst hc
      exact hlow a ((hn a).1 ha)
    · simp [hn]
theorem sortR_up (l : List Int) : Up (sortR l) ∧ ∀ z, z ∈ sortR l ↔ z ∈ l := by
  induction l using snoc_ind with
  | h0 => simp [sortR, Up]
  | h1 l x ih =>
    obtain ⟨h1, h2⟩ := insP_up x _ ih.1
    rw [sortR_snoc]
    exact ⟨h1, fun z => by rw [h2, ih.2]; simp⟩
theorem up_ext : ∀ (a b : List Int), Up a → Up b → (∀ z, z ∈ a ↔ z ∈ b) → a = b
  | [], [], _, _, _ => rfl
  | [], y :: b, _, _, h => by have := (h y).2 (by simp); simp at this
  | x :: a, [], _, _, h => by have := (h x).1 (by simp); simp at this
  | x :: a, y :: b, ha, hb, h => by
    have ha' := List.pairwise_cons.1 ha
    have hb' := List.pairwise_cons.1 hb
    have hxy : x = y := by
      rcases List.mem_cons.1 ((h x).1 (by simp)) with h1 | h1
      · exact h1
      · rcases List.mem_cons.1 ((h y).2 (by simp)) with h2 | h2
        · exact h2.symm
        · have := hb'.1 x h1; have := ha'.1 y h2; omega
    subst hxy
    rw [up_ext a b ha'.2 hb'.2 (fun z => ?_)]
    constructor
    · intro hz
      rcases List.mem_cons.1 ((h z).1 (by simp [hz])) with h1 | h1
      · subst h1; have := ha'.1 z hz; omega
      · exact h1
    · intro hz
      rcases List.mem_cons.1 ((h z).2 (by simp [hz])) with h1 | h1
      · subst h1; have := hb'.1 z hz; omega
      · exact h1

/-- the library's way -/
theorem compact_up (d : Array Int) (hs : ∀ i j, i < j → j < d.size → d[i]! ≤ d[j]!) (m : Nat) (hm : m ≤ d.size) :
    Up (Lib.compactUpTo d m) ∧ (∀ z, z ∈ Lib.compactUpTo d m ↔ ∃ i, i < m ∧ d[i]! = z) := by
  induction m with
  | zero => simp [Lib.compactUpTo, Up]
  | succ m ih =>
    obtain ⟨h1, h2⟩ := ih (by omega)
    rw [Lib.compactUpTo_succ]
    by_cases hk : Lib.keeps d m = true
    · rw [if_pos hk]
      refine ⟨List.pairwise_append.2 ⟨h1, by simp, ?_⟩, fun z => ?_⟩
      · intro a ha c hc
        rw [List.mem_singleton] at hc; subst hc
        obtain ⟨i, hi, rfl⟩ := (h2 a).1 ha
        simp only [Lib.keeps, decide_eq_true_eq] at hk
        have h3 := hs (m - 1) m (by omega) (by omega)
        have h4 : d[i]! ≤ d[m - 1]! := by
          rcases Nat.lt_or_ge i (m - 1) with h | h
          · exact hs i (m - 1) h (by omega)
          · rw [show i = m - 1 by omega]; exact Int.le_refl _
        rcases hk with h | h
        · omega
        · have : d[m]! ≠ d[m - 1]! := h
          omega
      · simp only [List.mem_append, List.mem_singleton, h2]
        constructor
        · rintro (⟨i, hi, rfl⟩ | rfl)
          · exact ⟨i, by omega, rfl⟩
          · exact ⟨m, by omega, rfl⟩
        · rintro ⟨i, hi, rfl⟩
          rcases Nat.lt_or_ge i m with h | h
          · exact .inl ⟨i, h, rfl⟩
          · exact .inr (by rw [show i = m by omega])
    · rw [if_neg hk, List.append_nil]
      refine ⟨h1, fun z => ?_⟩
      rw [h2]
      simp only [Lib.keeps, decide_eq_true_eq, not_or, ne_eq, Decidable.not_not] at hk
      constructor
      · rintro ⟨i, hi, rfl⟩; exact ⟨i, by omega, rfl⟩
      · rintro ⟨i, hi, rfl⟩
        rcases Nat.lt_or_ge i m with h | h
        · exact ⟨i, h, rfl⟩
        · exact ⟨m - 1, by omega, by rw [← hk.2, show i = m by omega]⟩
def sortL (l : List Int) : List Int := Lib.compact (l.mergeSort fun x y => decide (x ≤ y))
theorem sortL_eq (l : List Int) : sortL l = sortR l := by
  have hp : (l.mergeSort fun x y => decide (x ≤ y)).Pairwise (fun a b => decide (a ≤ b) = true) := List.pairwise_mergeSort (le := fun x y => decide (x ≤ y)) (fun a b c h1 h2 => by simp at *; omega) (fun a b => by simp; omega) l
  have hm : ∀ z, z ∈ (l.mergeSort fun x y => decide (x ≤ y)) ↔ z ∈ l := fun z => List.mem_mergeSort
  unfold sortL Lib.compact
  generalize (l.mergeSort fun x y => decide (x ≤ y)) = s at *
  have hs : ∀ i j, i < j → j < s.toArray.size → s.toArray[i]! ≤ s.toArray[j]! := by
    intro i j hij hj
    have hj' : j < s.length := by simpa using hj
    have h1 := List.pairwise_iff_getElem.1 hp i j (by omega) hj' hij
    rw [getElem!_pos _ i (by simp; omega), getElem!_pos _ j hj]
    simpa using h1
  obtain ⟨h1, h2⟩ := compact_up s.toArray hs s.length (by simp)
  refine up_ext _ _ h1 (sortR_up l).1 (fun z => ?_)
  rw [h2, (sortR_up l).2, ← hm]
  constructor
  · rintro ⟨i, hi, rfl⟩
    rw [getElem!_pos _ i (by simpa using hi)]
    simp
  · intro hz
    obtain ⟨i, hi, rfl⟩ := List.getElem_of_mem hz
    exact ⟨i, hi, by rw [getElem!_pos _ i (by simpa using hi)]; simp⟩
end
end Go.Proofs.Ytbahakgmbceflaa
