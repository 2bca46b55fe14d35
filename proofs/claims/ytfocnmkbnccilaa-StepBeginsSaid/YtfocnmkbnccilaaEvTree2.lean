/-
  The walk of tree.built, tree.Check and eval.shape. No condition.
-/
import Derived.Test.YtfocnmkbnccilaaEvTree
import Derived.Test.YtfocnmkbnccilaaEvRep
set_option linter.unusedVariables false
set_option linter.unusedSimpArgs false
namespace Go.Proofs.Ytfocnmkbnccilaa
open Go.RowKit

theorem rowN_append (a b : List Int) : ∀ d, rowN (a ++ b) d = (rowN a d).bind (rowN b) := by
  induction a with
  | nil => intro d; rfl
  | cons x a ih => intro d; rw [List.cons_append, rowN, rowN]; cases pushN d x <;> simp [ih]
theorem rowN_snoc (a : List Int) (x : Int) (d : Nat) : rowN (a ++ [x]) d = (rowN a d).bind fun d' => pushN d' x := by
  rw [rowN_append]
  cases rowN a d with
  | none => rfl
  | some d' => simp [rowN]; cases pushN d' x <;> rfl
theorem pushN_le {d op : _} {d' : Nat} (h : pushN d op = some d') : d' ≤ d + 1 := by
  unfold pushN at h
  split at h
  · cases h; omega
  · split at h
    · cases h; omega
    · split at h
      · cases h; omega
      · cases h
def BuiltPost (r : Int) (w : World) (e : Ending) (w' : World) : Prop := ∃ v, e = .returned (.tuple #[v, .int .i64 r]) ∧ Below w.heap.size w w'

set_option maxRecDepth 100000 in
set_option maxHeartbeats 2000000 in
theorem built_any (l : List Item) (v : Value) (S : Nat → Prop) (w : World) (h : (sliceR itemR).one w S v l) (hS : ∀ b, S b → b < w.heap.size) :
    Calls Try.prog 133 #[v] w (BuiltPost (checkE (l.map Item.op)) w) := by
  obtain ⟨A, c, rfl, hc, hc2⟩ := slice_form h
  by_cases h0 : l.length = 0
  · have e : checkE (l.map Item.op) = 12 := by unfold checkE; rw [if_pos (by simpa using h0)]
    rw [e, h0]
    go_enter Try.func133, Try.ntmps133
    go_wp2_with fail
    go_ret2
    exact ⟨_, rfl, Below.refl _ _⟩
  · by_cases h1 : 64 < l.length
    · have e : checkE (l.map Item.op) = 3 := by unfold checkE; rw [if_neg (by simpa using h0), if_pos (by simpa using h1)]
      rw [e]
      have hd : (((l.length : Nat) : Int) == 0) = false := beq_eq_false_iff_ne.2 (by omega)
      have hd2 : decide ((64 : Int) < (l.length : Int)) = true := by simp; omega
      go_enter Try.func133, Try.ntmps133
      go_wp2_with fail
      go_ret2
      exact ⟨_, rfl, Below.refl _ _⟩
    · obtain ⟨b, o, rfl, hSb, hrow⟩ := slice_some h (by omega)
      have e : checkE (l.map Item.op) = if rowN (l.map Item.op) 0 = some 1 then 0 else 17 := by unfold checkE; rw [if_neg (by simpa using h0), if_neg (by simpa using h1)]
      rw [e]
      clear e
      obtain ⟨R, hR⟩ : ∃ R, R = rowN (l.map Item.op) 0 := ⟨_, rfl⟩
      rw [← hR]
      obtain ⟨E, hE⟩ : ∃ E : Int, E = if R = some 1 then 0 else 17 := ⟨_, rfl⟩
      rw [← hE]
      have HR := hide hR
      have HE := hide hE
      have Hsl := hide h
      clear hR hrow hE h
      have hd : (((l.length : Nat) : Int) == 0) = false := beq_eq_false_iff_ne.2 (by omega)
      have hd2 : decide ((64 : Int) < (l.length : Int)) = false := by simp; omega
      go_enter Try.func133, Try.ntmps133
      go_wp2_with fail
      go_loopw [4, 19] (fun rv iv wr => ∃ (k d : Nat) (xs : List (TypeId × Value)), k ≤ l.length ∧ d ≤ k ∧ iv = .int .i64 (k : Int) ∧ rowN ((l.take k).map Item.op) 0 = some d ∧ wr.ownsRow w.heap.size 172 1 rv d (xs.map ifc) ∧ Below w.heap.size w wr)
        (fun rv iv wr => l.length - (intOf iv).toNat)
      case atStart => exact ⟨0, 0, [], Nat.zero_le _, Nat.le_refl _, rfl, rfl, World.ownsRow_nil _ _ _ _, Below.refl _ _⟩
      case round =>
        obtain ⟨k, d, xs, hk, hdk, rfl, hrn, hown, hbl⟩ := hrel
        have Hrn := hide hrn
        clear hrn
        by_cases hlt : k < l.length
        · obtain ⟨hcs, hok⟩ := items_at (slice_below Hsl.out hbl hS) hlt
          have hnx := rowN_snoc ((l.take k).map Item.op) l[k].op 0
          rw [Hrn.out] at hnx
          have hall : rowN (l.map Item.op) 0 = (rowN ((l.take k).map Item.op ++ [l[k].op]) 0).bind (rowN ((l.drop (k + 1)).map Item.op)) := by
            rw [← rowN_append, List.append_assoc, List.singleton_append, ← List.map_cons, ← List.drop_eq_getElem_cons hlt, ← List.map_append, List.take_append_drop]
          rw [← HR.out] at hall
          have htk : (l.take (k + 1)).map Item.op = (l.take k).map Item.op ++ [l[k].op] := by
            rw [List.take_succ_eq_append_getElem hlt, List.map_append]; rfl
          have Hnx := hide hnx
          have Hall := hide hall
          have Htk := hide htk
          have Hok := hide hok
          have c0 := hcs 0 _ rfl
          have c1 := hcs 1 _ rfl
          have c2 := hcs 2 _ rfl
          have c3 := hcs 3 _ rfl
          have c4 := hcs 4 _ rfl
          have c5 := hcs 5 _ rfl
          have c6 := hcs 6 _ rfl
          have c7 := hcs 7 _ rfl
          have c8 := hcs 8 _ rfl
          clear hnx hall htk hok hcs
          generalize l[k] = x at *
          obtain ⟨xop, xln, xlv, xrn, xrv, xnm, xus, xli, xco⟩ := x
          simp only [Nat.add_zero] at c0 c1 c2 c3 c4 c5 c6 c7 c8
          have hsz : w.heap.size ≤ wr.heap.size := hbl.size
          cases hp : pushN d xop with
          | none =>
            have Hp := hide hp
            clear hp
            go_wp2_with fail
            refine (pushNo _ _ _ d w.heap.size 0 xs _ Hp.out (hown.alloc _) (by omega) (Nat.zero_le _) (by simp; omega)).mono ?_
            rintro e w' ⟨rfl, rfl⟩
            go_wp2_with fail
            go_ret2
            have e17 : E = 17 := by
              rw [HE.out, Hall.out, Hnx.out]
              simp [Hp.out]
            exact ⟨_, by rw [e17]; rfl, hbl.alloc hsz _⟩
          | some d' =>
            have Hp := hide hp
            clear hp
            go_wp2_with fail
            refine (push_any _ _ _ d w.heap.size w.heap.size xs _ Hp.out (hown.alloc _) (by omega) (Nat.le_refl _) (by simp; omega)).mono ?_
            rintro e w' ⟨v', xs', rfl, hown', hbl'⟩
            have Hown := hide hown
            clear hown
            go_wp2_with fail
            go_roundw
            case rel => exact ⟨k + 1, d', xs', by omega, by have := pushN_le Hp.out; omega, by go_num, by rw [Htk.out, Hnx.out]; exact Hp.out, hown', (hbl.alloc hsz _).trans hbl'⟩
            case measure => simp [intOf]; omega
        · obtain rfl : k = l.length := by omega
          have hf := Hrn.out
          rw [List.take_length, ← HR.out] at hf
          have Hf := hide hf
          clear hf
          obtain ⟨A, c', rfl, hc'⟩ := own_form hown
          cases hd1 : ((d : Int) != 1) with
          | true =>
            have e17 : E = 17 := by
              rw [HE.out, Hf.out, if_neg (by simp at hd1 ⊢; omega)]
            have E17 := hide e17
            clear e17
            go_wp2_with fail
            go_ret2
            exact ⟨_, by rw [E17.out]; rfl, hbl⟩
          | false =>
            obtain rfl : d = 1 := by simp at hd1; omega
            have e0 : E = 0 := by rw [HE.out, Hf.out, if_pos rfl]
            have E0 := hide e0
            clear e0
            have hxl : xs.length = 1 := by have := hown.1; simpa using this
            obtain ⟨x, rfl⟩ : ∃ x, xs = [x] := List.length_eq_one_iff.1 hxl
            obtain ⟨g, c2, hv, hc2', _, _⟩ := own_some hown (by omega)
            cases hv
            have hcell := own_cell hown rfl (j := 0) (u := ifc x) rfl
            clear hown hxl
            go_wp2_with fail
            go_ret2
            exact ⟨_, by rw [E0.out]; rfl, hbl⟩

set_option maxRecDepth 100000 in
theorem check_any (l : List Item) (v : Value) (S : Nat → Prop) (w : World) (h : (sliceR itemR).one w S v l) (hS : ∀ b, S b → b < w.heap.size) :
    Calls Try.prog 123 #[v] w fun e w' => e = .returned (.int .i64 (checkE (l.map Item.op))) ∧ Below w.heap.size w w' := by
  have H := hide (built_any l v S w h hS)
  clear h hS
  go_enter Try.func123, Try.ntmps123
  go_wp2_with (go_at_call 133; refine H.out.mono ?_; rintro e w' ⟨nv, rfl, hb⟩)
  go_ret
  exact ⟨rfl, hb⟩

def itemOf (x : Inst) : Item := ⟨x.op, ⟨#[]⟩, 0, ⟨#[]⟩, 0, ⟨#[]⟩, ⟨#[]⟩, 0, 0⟩
theorem itemOf_op (l : List Inst) : (l.map itemOf).map Item.op = l.map Inst.op := by rw [List.map_map]; rfl
theorem itemInfo : (Try.prog.info? 132).map (fun i => (i.zero, i.size, i.bytes)) = some (some (.agg #[.int .i64 0, .string ⟨#[]⟩, .int .i64 0, .string ⟨#[]⟩, .int .i64 0, .string ⟨#[]⟩, .string ⟨#[]⟩, .int .i64 0, .int .i64 0]), 9, 104) := by kernel_rfl
theorem cells_at_new (w : World) (g : Nat) (L : List Value) (t : TypeId) (hg : g = w.heap.size) : ∀ j u, L[j]? = some u → (w.alloc (.cells L.toArray t)).cell? ((⟨g, 0, none⟩ : Addr).add j) = some u := by
  subst hg; exact cells_new w L t
theorem item_one (x : Item) : ∀ u ∈ x.cells, u.oneCell' = true := by
  intro u hu
  simp only [Item.cells, List.mem_cons, List.not_mem_nil, or_false] at hu
  rcases hu with rfl | rfl | rfl | rfl | rfl | rfl | rfl | rfl | rfl <;> rfl

set_option maxRecDepth 100000 in
set_option maxHeartbeats 2000000 in
theorem shape_any (l : List Inst) (v : Value) (S : Nat → Prop) (w : World) (h : (sliceR instR).one w S v l) (hS : ∀ b, S b → b < w.heap.size) (hl : l.length ≤ 1000) :
    Calls Try.prog 124 #[v] w fun e w' => ∃ u, e = .returned u ∧ w'.ownsRow w.heap.size 132 9 u l.length ((l.map itemOf).flatMap Item.cells) ∧ Below w.heap.size w w' := by
  obtain ⟨i0, hi0, hz0, hz1, hz2⟩ := info_parts itemInfo
  obtain ⟨A, c, rfl, hc, hc2⟩ := slice_form h
  have Hsl := hide h
  clear h
  go_enter Try.func124, Try.ntmps124
  go_wp2_with fail
  go_loopw [3, 8] (fun rv iv wr => ∃ (k : Nat), k ≤ l.length ∧ iv = .int .i64 (k : Int) ∧ wr.ownsRow w.heap.size 132 9 rv k (((l.take k).map itemOf).flatMap Item.cells) ∧ Below w.heap.size w wr)
    (fun rv iv wr => l.length - (intOf iv).toNat)
  case atStart => exact ⟨0, Nat.zero_le _, rfl, World.ownsRow_nil _ _ _ _, Below.refl _ _⟩
  case round =>
    obtain ⟨k, hk, rfl, hown, hbl⟩ := hrel
    by_cases hlt : k < l.length
    · have hsl := slice_below Hsl.out hbl hS
      obtain ⟨b, o, hv, _, _⟩ := slice_some hsl (by omega)
      subst hv
      obtain ⟨hcs, hok⟩ := insts_at hsl hlt
      have htk : ((l.take (k + 1)).map itemOf).flatMap Item.cells = ((l.take k).map itemOf).flatMap Item.cells ++ (itemOf l[k]).cells := by
        rw [List.take_succ_eq_append_getElem hlt, List.map_append, List.flatMap_append]; simp
      have Htk := hide htk
      have c0 := hcs 0 _ rfl
      have c1 := hcs 1 _ rfl
      have c2 := hcs 2 _ rfl
      have c3 := hcs 3 _ rfl
      have c4 := hcs 4 _ rfl
      have c5 := hcs 5 _ rfl
      have c6 := hcs 6 _ rfl
      clear htk hok hcs hsl
      generalize l[k] = x at *
      obtain ⟨xop, xla, xln, xra, xrn, xn, xu⟩ := x
      simp only [Nat.add_zero] at c0 c1 c2 c3 c4 c5 c6
      have hsz : w.heap.size ≤ wr.heap.size := hbl.size
      go_wp2_with (at_builtin; refine wpList_append_own _ rfl _ _ 126 rfl w.heap.size 132 i0 (.agg #[.int .i64 0, .string ⟨#[]⟩, .int .i64 0, .string ⟨#[]⟩, .int .i64 0, .string ⟨#[]⟩, .string ⟨#[]⟩, .int .i64 0, .int .i64 0]) 9 104 Try.underlying126 hi0 hz0 hz1 hz2 rfl (by decide) _ _ _ rfl ((hown.alloc _).alloc _) ⟨wr.heap.size + 1, 0, none⟩ 1 1 [.int .i64 xop, .string ⟨#[]⟩, .int .i64 0, .string ⟨#[]⟩, .int .i64 0, .string ⟨#[]⟩, .string ⟨#[]⟩, .int .i64 0, .int .i64 0] rfl rfl (cells_at_new _ _ _ _ (by simp)) (item_one (itemOf ⟨xop, 0, 0, 0, 0, 0, 0⟩)) (by unfold maxLen; omega) (by omega) (by simp; omega) ?_; intro v2 w2 hown2 hg2 _)
      have hb2 : Below w.heap.size w w2 := ((hbl.alloc hsz _).alloc (by simp; omega) _).grown hg2 (by simp; omega) (fun j hj => (hown.lt j hj).1)
      have Hown := hide hown
      have Hown2 := hide hown2
      clear hown hown2 hg2
      go_wp2_with fail
      go_roundw
      case rel => exact ⟨k + 1, by omega, by go_num, by rw [Htk.out]; exact Hown2.out, hb2⟩
      case measure => simp [intOf]; omega
    · obtain rfl : k = l.length := by omega
      rw [List.take_length] at hown
      have Hown := hide hown
      clear hown
      go_wp2_with fail
      go_ret
      exact ⟨_, rfl, Hown.out, hbl⟩
end Go.Proofs.Ytfocnmkbnccilaa
