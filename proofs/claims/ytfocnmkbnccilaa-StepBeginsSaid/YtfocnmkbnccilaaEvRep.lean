/-
  HOW instructions, items and states lie in memory.
-/
import Derived.Test.YtfocnmkbnccilaaEvSpec
import Derived.Test.YtfocnmkbnccilaaRep
set_option linter.unusedVariables false
set_option linter.unusedSimpArgs false
namespace Go.Proofs.Ytfocnmkbnccilaa
open Go.RowKit

def ok64 (n : Int) : Prop := -9223372036854775808 ≤ n ∧ n ≤ 9223372036854775807
def Inst.cells (x : Inst) : List Value := [.int .i64 x.op, .int .i64 x.la, .int .i64 x.ln, .int .i64 x.ra, .int .i64 x.rn, .int .i64 x.n, .int .i64 x.u]
def Inst.ok (x : Inst) : Prop := ok64 x.op ∧ ok64 x.la ∧ ok64 x.ln ∧ ok64 x.ra ∧ ok64 x.rn ∧ ok64 x.n ∧ ok64 x.u
def instR : Rep Inst where
  size := 7
  at_ := fun _ _ cs x => cs = x.cells ∧ x.ok
  len := fun h => by rw [h.1]; rfl
  keep := fun h _ => h
  mono := fun h _ => h

structure Item where
  op : Int
  ln : ByteArray
  lv : Int
  rn : ByteArray
  rv : Int
  name : ByteArray
  user : ByteArray
  line : Int
  col : Int
def Item.cells (x : Item) : List Value := [.int .i64 x.op, .string x.ln, .int .i64 x.lv, .string x.rn, .int .i64 x.rv, .string x.name, .string x.user, .int .i64 x.line, .int .i64 x.col]
def Item.ok (x : Item) : Prop := ok64 x.op ∧ ok64 x.lv ∧ ok64 x.rv ∧ ok64 x.line ∧ ok64 x.col ∧ x.ln.size ≤ 9223372036854775807 ∧ x.rn.size ≤ 9223372036854775807 ∧ x.name.size ≤ 9223372036854775807 ∧ x.user.size ≤ 9223372036854775807
def itemR : Rep Item where
  size := 9
  at_ := fun _ _ cs x => cs = x.cells ∧ x.ok
  len := fun h => by rw [h.1]; rfl
  keep := fun h _ => h
  mono := fun h _ => h

/-- the cells of one thing in a slice of things that are plain cells -/
theorem plain_at {α : Type} {r : Rep α} {cells : α → List Value} {ok : α → Prop} (hr : ∀ w S cs x, r.at_ w S cs x → cs = cells x ∧ ok x) {w : World} {S : Nat → Prop} {b o c n : Nat} {l : List α} (h : (sliceR r).one w S (.slice (some ⟨b, o, none⟩) n c) l) {k : Nat} (hk : k < l.length) :
    (∀ j u, (cells l[k])[j]? = some u → w.cell? ⟨b, o + k * r.size + j, none⟩ = some u) ∧ ok l[k] := by
  obtain ⟨b', o', e, _, hrow⟩ := slice_some h (by omega)
  simp at e
  obtain ⟨rfl, rfl⟩ := e
  obtain ⟨cs, h1, h2⟩ := hrow k hk
  obtain ⟨rfl, h3⟩ := hr _ _ _ _ h2
  exact ⟨h1, h3⟩
theorem insts_at {w : World} {S : Nat → Prop} {b o c n : Nat} {l : List Inst} (h : (sliceR instR).one w S (.slice (some ⟨b, o, none⟩) n c) l) {k : Nat} (hk : k < l.length) :
    (∀ j u, (l[k].cells)[j]? = some u → w.cell? ⟨b, o + k * 7 + j, none⟩ = some u) ∧ l[k].ok := plain_at (r := instR) (cells := Inst.cells) (ok := Inst.ok) (fun _ _ _ _ h => h) h hk
theorem items_at {w : World} {S : Nat → Prop} {b o c n : Nat} {l : List Item} (h : (sliceR itemR).one w S (.slice (some ⟨b, o, none⟩) n c) l) {k : Nat} (hk : k < l.length) :
    (∀ j u, (l[k].cells)[j]? = some u → w.cell? ⟨b, o + k * 9 + j, none⟩ = some u) ∧ l[k].ok := plain_at (r := itemR) (cells := Item.cells) (ok := Item.ok) (fun _ _ _ _ h => h) h hk

/-- an owned row of things that are plain cells -/
theorem slice_ownP {α : Type} {r : Rep α} (cells : α → List Value) {l : List α} {w : World} {v : Value} {base : Nat} {e : TypeId} {n : Nat} (hx : ∀ x ∈ l, r.at_ w (fun b => base ≤ b ∧ b < w.heap.size) (cells x) x) (h : w.ownsRow base e r.size v n (l.flatMap cells)) (h0 : 0 < r.size) :
    (sliceR r).one w (fun b => base ≤ b ∧ b < w.heap.size) v l := by
  have hlen : ∀ x ∈ l, (cells x).length = r.size := fun x hx' => r.len (hx x hx')
  have key : ∀ (l : List α), (∀ x ∈ l, (cells x).length = r.size) → (l.flatMap cells).length = l.length * r.size ∧ ∀ i (hi : i < l.length), ((l.flatMap cells).drop (i * r.size)).take r.size = cells l[i] := by
    intro l
    induction l with
    | nil => intro _; exact ⟨by simp, fun i hi => by simp at hi⟩
    | cons a l ih =>
      intro hl
      obtain ⟨h1, h2⟩ := ih (fun x hx => hl x (by simp [hx]))
      have ha := hl a (by simp)
      refine ⟨by rw [List.flatMap_cons, List.length_append, h1, ha, List.length_cons, Nat.succ_mul]; omega, fun i hi => ?_⟩
      rw [List.flatMap_cons]
      cases i with
      | zero => rw [Nat.zero_mul, List.drop_zero, ← ha, List.take_left]; rfl
      | succ i =>
        rw [Nat.succ_mul, Nat.add_comm, ← ha, List.drop_append, ha, List.drop_of_length_le (by omega), List.nil_append, show r.size + i * r.size - r.size = i * r.size by omega]
        exact h2 i (by simpa using hi)
  obtain ⟨h1, h2⟩ := key l hlen
  have hn : n = l.length := by
    have := h.1
    rw [h1] at this
    exact (Nat.eq_of_mul_eq_mul_right h0 this).symm
  exact slice_own h rfl hn fun i hi => by rw [h2 i hi]; exact hx _ (List.getElem_mem hi)
end Go.Proofs.Ytfocnmkbnccilaa
