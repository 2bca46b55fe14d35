/-
  Arguments of layer 35 open.
-/
import Derived.Test.YtcdeidedcbnhaaaPathLaws
import Derived.Test.YtcdeidedcbnhaaaLabelOpen
set_option linter.unusedVariables false
set_option linter.unusedSimpArgs false
namespace Go.Proofs.Ytcdeidedcbnhaaa
open Go.ChangeShapes Go.WideShapes Go.ChangeAt Go.RowKit

theorem opens_two {α : Type} {P : Program} {t e : TypeId} {r : Rep α} (ht : P.underlying t = some (.array 2 e)) (hs : P.cellsOf e = r.size) (hc : P.cellsOf t = r.size + r.size) (ho : Opens P e r) : Opens P t (pairR r r) := by
  intro H enc w fuel cs x hx
  obtain ⟨xs, m, rfl, _, hl, hn, hi⟩ := DataW.trod_array ht hx
  have h0 := hi 0 (by omega)
  have h1 := hi 1 (by omega)
  rw [List.getElem?_eq_getElem (by omega)] at h0 h1
  obtain ⟨a, ha⟩ := ho H enc w m _ _ h0
  obtain ⟨b, hb⟩ := ho H enc w m _ _ h1
  refine ⟨(a, b), _, _, ?_, ha, hb⟩
  rw [hs, Nat.zero_mul, Nat.one_mul, List.drop_zero]
  rw [List.take_of_length_le (l := cs.drop r.size) (by rw [List.length_drop]; omega), List.take_append_drop]
theorem okWide_two {P : Program} {W : World} {r : Reach} {b : Nat} {t e : TypeId} {v : Value} (ht : P.underlying t = some (.array 2 e)) (hc : P.cellsOf t = 2) (h : Value.okWide P W r b t v) : ∃ x y, v = .agg #[x, y] := by
  simp only [Value.okWide, ht] at h
  obtain ⟨cs, h1, h2, _⟩ := h
  rw [hc] at h2
  exact ⟨cs[0], cs[1], by rw [h1]; congr 1; apply Array.ext <;> simp [h2]; intro i hi; match i, hi with | 0, _ => exact fun _ => rfl | 1, _ => exact fun _ => rfl⟩
theorem pair_one {α β : Type} {r : Rep α} {s : Rep β} {w : World} {S : Nat → Prop} {x y : Value} {p : α × β} (hr : r.size = 1) (hs : s.size = 1) (h : (pairR r s).at_ w S [x, y] p) : r.one w S x p.1 ∧ s.one w S y p.2 := by
  obtain ⟨c1, c2, e, h1, h2⟩ := h
  have l1 := r.len h1
  have l2 := s.len h2
  rw [hr] at l1
  rw [hs] at l2
  match c1, c2, l1, l2 with
  | [a], [b], _, _ =>
    simp at e
    obtain ⟨rfl, rfl⟩ := e
    exact ⟨h1, h2⟩
theorem opensAsk : Opens Try.prog 42 (pairR (sliceR boolR) (sliceR boolR)) := opens_two Try.underlying42 (by kernel_rfl) (by kernel_rfl) opensBools
end Go.Proofs.Ytcdeidedcbnhaaa
