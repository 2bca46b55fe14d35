/-
  A LAW OF append: what is appended to a row of the call's own is a slice of things, nil or not. Of whatever program.
-/
import Derived.Test.YtpaedlocijgkaaaRep
import Derived.Laws.OwnMore
import Derived.Laws.AppendOwnNone
set_option linter.unusedVariables false
set_option linter.unusedSimpArgs false
namespace Go.Proofs.Ytpaedlocijgkaaa
open Go.RowKit

theorem run_append_none {P : Program} {w : World} (base : Nat) (t ty e : TypeId) (i : TypeInfo) (size : Nat) (ht : P.underlying t = some (.slice e)) (hi : P.info? e = some i)
    (v : Value) (n c : Nat) (xs : List Value) (hown : w.ownsRow base e size v n xs) :
    (Builtin.append_ #[t, t] ty #[v, .slice none 0 c]).run P w = .ok v w := by
  rcases hown.2 with ⟨rfl, rfl⟩ | ⟨g, cap, cur, rfl, _, _, hnc, _⟩
  · simp [Builtin.append_, run_underlying ht, sizeOf, typeInfo, hi, Builtin.lenOf, Builtin.firstCells]
  · simp [Builtin.append_, run_underlying ht, sizeOf, typeInfo, hi, Builtin.lenOf, Builtin.firstCells, hnc, storeCells]
theorem wpList_append_none {P : Program} {w : World} {ops : Array Oper} {rest : List Oper} {o : Oper} {a : Act} {Q : Exit → Act → World → Prop} (hgd : o.guard = none) (s x : Operand) (t : TypeId)
    (ho : o.op = .call { callee := .builtin .append, args := #[s, x], argTypes := #[t, t] })
    (base : Nat) (e : TypeId) (i : TypeInfo) (size : Nat) (ht : P.underlying t = some (.slice e)) (hi : P.info? e = some i)
    (v : Value) (n c : Nat) (xs : List Value) (hs : a.eval s = v) (hown : w.ownsRow base e size v n xs) (hx : a.eval x = .slice none 0 c)
    (h : wpList P ops Q rest (a.put o.dst v) w) : wpList P ops Q (o :: rest) a w := by
  refine wpList_plain hgd fun K hK => ?_
  have hrun := run_append_none (P := P) (w := w) base t o.type e i size ht hi v n c xs hown
  unfold Oper.wp
  simp [execOp, ho, resolve, invoke, builtin, hs, hx, hrun, Result.andThen]
  exact hK _ _ h
theorem flat_at {α : Type} {cellsF : α → List Value} {size : Nat} : ∀ (l : List α), (∀ x ∈ l, (cellsF x).length = size) → (l.flatMap cellsF).length = l.length * size ∧ (0 < size → ∀ j u, (l.flatMap cellsF)[j]? = some u → ∃ (h : j / size < l.length), (cellsF (l[j / size]'h))[j % size]? = some u) := by
  intro l
  induction l with
  | nil => intro _; exact ⟨by simp, fun _ j u hu => by simp at hu⟩
  | cons a l ih =>
    intro hl
    obtain ⟨h1, h2⟩ := ih (fun x hx => hl x (by simp [hx]))
    have ha := hl a (by simp)
    refine ⟨by rw [List.flatMap_cons, List.length_append, h1, ha, List.length_cons, Nat.succ_mul]; omega, fun h0 j u hu => ?_⟩
    rw [List.flatMap_cons] at hu
    by_cases hj : j < size
    · rw [List.getElem?_append_left (by omega)] at hu
      refine ⟨by rw [Nat.div_eq_of_lt hj]; simp, ?_⟩
      simp only [Nat.div_eq_of_lt hj, Nat.mod_eq_of_lt hj]
      exact hu
    · rw [List.getElem?_append_right (by omega), ha] at hu
      obtain ⟨h3, h4⟩ := h2 h0 _ _ hu
      have e1 : j / size = (j - size) / size + 1 := by
        rw [show j = (j - size) + size by omega, Nat.add_div_right _ h0]; simp
      have e2 : j % size = (j - size) % size := by
        conv => lhs; rw [show j = (j - size) + size by omega]
        rw [Nat.add_mod_right]
      refine ⟨by rw [e1]; simp; exact h3, ?_⟩
      simp only [e1, e2, List.getElem_cons_succ]
      exact h4
theorem wpList_append_sl {α : Type} {P : Program} {w : World} {ops : Array Oper} {rest : List Oper} {o : Oper} {a : Act} {Q : Exit → Act → World → Prop} (hgd : o.guard = none) (s x : Operand) (t : TypeId)
    (ho : o.op = .call { callee := .builtin .append, args := #[s, x], argTypes := #[t, t] })
    (base : Nat) (e : TypeId) (i : TypeInfo) (z : Value) (size bytes : Nat) (ht : P.underlying t = some (.slice e)) (hi : P.info? e = some i) (hz : i.zero = some z)
    (hsize : i.size = size) (hby : i.bytes = bytes) (hzs : z.cells.size = size) (hsz : 0 < size)
    (v : Value) (n : Nat) (xs : List Value) (hs : a.eval s = v) (hown : w.ownsRow base e size v n xs)
    (r : Rep α) (cellsF : α → List Value) (l : List α) (S : Nat → Prop) (xv : Value) (hx : a.eval x = xv) (hsl : (sliceR r).one w S xv l) (hr : r.size = size) (hcell : ∀ S cs x, r.at_ w S cs x → cs = cellsF x) (hone : ∀ x ∈ l, ∀ u ∈ cellsF x, u.oneCell' = true)
    (h63 : n + l.length ≤ maxLen) (hbytes : (n + l.length) * bytes ≤ 140737488355328) (hbase : base ≤ w.heap.size)
    (h : ∀ v' w', w'.ownsRow base e size v' (n + l.length) (xs ++ l.flatMap cellsF) → w.grownBy w' v.ownBlock → wpList P ops Q rest (a.put o.dst v') w') : wpList P ops Q (o :: rest) a w := by
  obtain ⟨A, c, rfl, hc, hc2⟩ := slice_form hsl
  cases A with
  | none =>
    have hl : l = [] := by
      rcases Nat.eq_zero_or_pos l.length with h0 | h0
      · exact List.eq_nil_of_length_eq_zero h0
      · obtain ⟨b, o', e, _⟩ := slice_some hsl h0; cases e
    subst hl
    refine wpList_append_none hgd s x t ho base e i size ht hi v n c xs hs hown hx ?_
    exact h v w (by simpa using hown) (World.grownBy.refl _ _)
  | some ad =>
    have hlen : ∀ x ∈ l, (cellsF x).length = size := by
      intro x hx
      obtain ⟨k, hk, rfl⟩ := List.getElem_of_mem hx
      obtain ⟨b, o', _, _, hrow⟩ := slice_some hsl (by omega)
      obtain ⟨cs, _, h2⟩ := hrow k hk
      rw [← hcell _ _ _ h2, r.len h2, hr]
    obtain ⟨hf1, hf2⟩ := flat_at l hlen
    refine wpList_append_own w hgd s x t ho base e i z size bytes ht hi hz hsize hby hzs hsz v n xs hs hown ad l.length c (l.flatMap cellsF) hx hf1 ?_ ?_ h63 hbytes hbase (fun v' w' h2 h3 _ => h v' w' h2 h3)
    · intro j u hu
      obtain ⟨h3, h4⟩ := hf2 hsz j u hu
      obtain ⟨b, o', e, _, hrow⟩ := slice_some hsl (Nat.lt_of_le_of_lt (Nat.zero_le _) h3)
      cases e
      obtain ⟨cs, h5, h6⟩ := hrow _ h3
      have h7 := hcell _ _ _ h6
      subst h7
      have := h5 _ _ h4
      rw [hr] at this
      have e2 : o' + j / size * size + j % size = o' + j := by have := Nat.div_add_mod j size; rw [Nat.mul_comm] at this; omega
      rw [e2] at this
      rw [← this]
      congr 1
      unfold Addr.add
      split <;> simp_all
    · intro u hu
      obtain ⟨x, hx, hu⟩ := List.mem_flatMap.1 hu
      exact hone x hx u hu
end Go.Proofs.Ytpaedlocijgkaaa
