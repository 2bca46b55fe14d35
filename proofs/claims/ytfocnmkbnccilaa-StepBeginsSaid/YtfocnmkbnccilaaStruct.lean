/-
  ARGUMENTS THAT ARE STRUCTS OPEN into nested pairs, field by field. Of whatever program.
-/
import Derived.Test.YtfocnmkbnccilaaRep
set_option linter.unusedVariables false
set_option linter.unusedSimpArgs false
namespace Go.Proofs.Ytfocnmkbnccilaa
open Go.RowKit Go.ChangeShapes Go.WideShapes Go.Deep

/-- the fields from an offset on open into r -/
def OpensF {α : Type} (P : Program) (fs : List Field) (off : Nat) (r : Rep α) : Prop := ∀ (H : Type) (enc : TypeId × Value → H) (w : World) (fuel : Nat) (cs : List Value),
  off + r.size ≤ cs.length → (∀ (i : Nat) (f : Field), fs[i]? = some f → ∃ x, DataW.trod enc P w 0 (fun _ => true) true fuel f.type ((cs.drop f.offset).take (P.cellsOf f.type)) = some x) →
  ∃ a, r.at_ w (fun b => b < w.heap.size) ((cs.drop off).take r.size) a
theorem opensF_nil (P : Program) (off : Nat) : OpensF P [] off nilR := fun _ _ _ _ _ _ _ => ⟨(), by simp [nilR]⟩
theorem opensF_cons {α β : Type} {P : Program} {f : Field} {fs : List Field} {off : Nat} {r : Rep α} {s : Rep β} (ho : f.offset = off) (hc : P.cellsOf f.type = r.size) (h1 : Opens P f.type r) (h2 : OpensF P fs (off + r.size) s) : OpensF P (f :: fs) off (pairR r s) := by
  intro H enc w fuel cs hl hf
  have hlr : off + (r.size + s.size) ≤ cs.length := hl
  obtain ⟨x, hx⟩ := hf 0 f rfl
  obtain ⟨a, ha⟩ := h1 H enc w fuel _ _ hx
  obtain ⟨b, hb⟩ := h2 H enc w fuel cs (by omega) (fun i g hg => hf (i + 1) g (by simpa using hg))
  refine ⟨(a, b), _, _, ?_, ha, hb⟩
  rw [ho, hc]
  show List.take (r.size + s.size) (cs.drop off) = _
  rw [List.take_add, List.drop_drop]
theorem opens_struct {α : Type} {P : Program} {t : TypeId} {fs : Array Field} {r : Rep α} (ht : P.underlying t = some (.struct fs)) (hc : P.cellsOf t = r.size) (ho : OpensF P fs.toList 0 r) : Opens P t r := by
  intro H enc w fuel cs x hx
  obtain ⟨xs, n, _, _, hl, hlen, hf⟩ := DataW.trod_struct ht hx
  obtain ⟨a, ha⟩ := ho H enc w n cs (by omega) (fun i f hfi => by
    have hfi' : fs[i]? = some f := by simpa using hfi
    have h1 := hf i f hfi'
    have hi : i < xs.length := by rw [hlen]; exact (Array.getElem?_eq_some_iff.1 hfi').1
    exact ⟨xs[i], by rw [h1, List.getElem?_eq_getElem hi]⟩)
  refine ⟨a, ?_⟩
  rwa [List.drop_zero, List.take_of_length_le (by omega)] at ha
theorem opens_string {P : Program} {t : TypeId} (h : P.underlying t = some .string) : Opens P t strR := by
  intro H enc w fuel cs x hx
  obtain ⟨s, rfl, _, hs⟩ := DataW.trod_string h hx
  exact ⟨s, rfl, by simpa [maxLen] using hs⟩
theorem opens_map {α β : Type} {P : Program} {t : TypeId} {r : Rep α} {s : Rep β} (h : Opens P t r) (f : α → β) (hf : ∀ w S cs a, r.at_ w S cs a → s.at_ w S cs (f a)) : Opens P t s := by
  intro H enc w fuel cs x hx
  obtain ⟨a, ha⟩ := h H enc w fuel cs x hx
  exact ⟨f a, hf _ _ _ _ ha⟩
theorem okWide_struct {P : Program} {W : World} {r : Reach} {b : Nat} {t : TypeId} {fs : Array Field} {v : Value} (ht : P.underlying t = some (.struct fs)) (h : Value.okWide P W r b t v) : ∃ cs, v = .agg cs ∧ cs.size = P.cellsOf t := by
  simp only [Value.okWide, ht] at h
  obtain ⟨cs, h1, h2, _⟩ := h
  exact ⟨cs, h1, h2⟩
theorem pair_inv {α β : Type} {r : Rep α} {s : Rep β} {w : World} {S : Nat → Prop} {cs : List Value} {p : α × β} (h : (pairR r s).at_ w S cs p) : ∃ c1 c2, cs = c1 ++ c2 ∧ r.at_ w S c1 p.1 ∧ s.at_ w S c2 p.2 := h
/-- one cell is one cell -/
theorem one_inv {α : Type} {r : Rep α} {w : World} {S : Nat → Prop} {cs : List Value} {a : α} (hr : r.size = 1) (h : r.at_ w S cs a) : ∃ v, cs = [v] ∧ r.one w S v a := by
  have := r.len h
  rw [hr] at this
  match cs, this with
  | [v], _ => exact ⟨v, rfl, h⟩
end Go.Proofs.Ytfocnmkbnccilaa
