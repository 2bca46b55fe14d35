/-
  slices.Delete of one sentry: it changes the slice in place. No condition but the place.
-/
import Derived.Test.YtfocnmkbnccilaaS4
import Derived.WalkKit
import Derived.WalkMore
import Derived.Deep.RegionLaw
import Derived.Lib.SliceRun
import Derived.Deep.MidRow
import Derived.Deep.Upon
import Derived.Shelf.RegionOpenPlain
import Derived.Deep.LoopGhost
import Derived.Sort.WalkB12
set_option linter.unusedVariables false
set_option linter.unusedSimpArgs false
namespace Go.Proofs.Ytfocnmkbnccilaa
open Go.RowKit
theorem heap_setCell_at {w : World} {g o : Nat} {cur : Array Value} {e : TypeId} {f : Nat × Nat} (hg : w.heap[g]? = some (.cells cur e f)) (v : Value) : (w.setCell ⟨g, o, none⟩ v).heap[g]? = some (.cells (cur.setIfInBounds o v) e f) := by
  simp [World.setCell, Array.getElem?_modify, hg]
theorem heap_setCells_at {g : Nat} {e : TypeId} {f : Nat × Nat} : ∀ (vs : List Value) (o : Nat) (w : World) (cur : Array Value), w.heap[g]? = some (.cells cur e f) → o + vs.length ≤ cur.size → ∃ cur' : Array Value, (w.setCells g o vs).heap[g]? = some (.cells cur' e f) ∧ cur'.toList = cur.toList.take o ++ vs ++ cur.toList.drop (o + vs.length)
  | [], o, w, cur, hg, _ => ⟨cur, hg, by simp⟩
  | v :: vs, o, w, cur, hg, hl => by
    simp only [List.length_cons] at hl
    obtain ⟨cur', h1, h2⟩ := heap_setCells_at vs (o + 1) _ _ (heap_setCell_at hg v) (by simp; omega)
    refine ⟨cur', h1, ?_⟩
    rw [h2]
    have ho : o < cur.toList.length := by simp; omega
    rw [Array.toList_setIfInBounds]
    simp only [List.length_cons]
    rw [List.take_succ_eq_append_getElem (by simpa using ho)]
    simp only [List.getElem_set_self, List.append_assoc, List.cons_append, List.nil_append]
    rw [List.take_set_of_le (Nat.le_refl _), List.drop_set_of_lt (by omega), show o + 1 + vs.length = o + (vs.length + 1) by omega]
set_option maxRecDepth 100000 in
theorem clear_two (w : World) (b o : Nat) (c : Nat) (hc : ∀ j, j < 2 → (w.cell? ⟨b, o + j, none⟩).isSome = true) (hf : ∀ j, j < 2 → w.frozen? ⟨b, o + j, none⟩ = false) (ty : TypeId) :
    (Builtin.clear_ #[30] ty #[.slice (some ⟨b, o, none⟩) 1 c]).run Try.prog w = .ok (.tuple #[]) (w.setCells b o [.bool false, .int .i64 0]) := by
  have hz : ∀ w, (zeroValue 57).run Try.prog w = .ok (.agg #[.bool false, .int .i64 0]) w := Try.zeroValue57
  have ht : Try.prog.underlying 30 = some (.slice 57) := Try.underlying30
  have hst := run_storeCells_cells (P := Try.prog) b o [.bool false, .int .i64 0] 0 w (by simpa using hc) (by simpa using hf) (by intro v hv; simp at hv; rcases hv with rfl | rfl <;> rfl)
  simp only [Nat.add_zero] at hst
  simp [Builtin.clear_, Sem.run_bind, run_underlying ht, hz]
  rw [show (Builtin.zeroCells (Value.agg #[Value.bool false, Value.int IntKind.i64 0]).cells 1).toList = [Value.bool false, Value.int IntKind.i64 0] by kernel_rfl, hst]
  rfl
set_option maxRecDepth 100000 in
set_option maxHeartbeats 4000000 in
theorem delete_any (w : World) (g cap n i : Nat) (cur : Array Value) (hg : w.heap[g]? = some (.cells cur 57 (0, 0))) (hcs : cur.size = cap * 2) (hcn : n ≤ cap) (hm : cap ≤ 9223372036854775807) (hi : i < n) (hone : ∀ x ∈ cur.toList.take (n * 2), x.oneCell' = true) :
    Calls Try.prog 49 #[.slice (some ⟨g, 0, none⟩) n cap, .int .i64 (i : Int), .int .i64 ((i + 1 : Nat) : Int)] w fun e w' =>
      e = .returned (.slice (some ⟨g, 0, none⟩) (n - 1) cap) ∧ w' = (w.drew.setCells g (i * 2) ((cur.toList.drop ((i + 1) * 2)).take ((n - 1 - i) * 2))).setCells g ((n - 1) * 2) [.bool false, .int .i64 0] := by
  obtain ⟨j, hj⟩ : ∃ j, j = i + 1 := ⟨_, rfl⟩
  rw [← hj]
  obtain ⟨news, hnews⟩ : ∃ news, news = (cur.toList.drop ((j) * 2)).take ((n - 1 - i) * 2) := ⟨_, rfl⟩
  have hlen : news.length = (n - (j)) * 2 := by rw [hnews]; simp [hcs]; omega
  have hcell : ∀ k, k < cap * 2 → w.cell? ⟨g, k, none⟩ = cur[k]? := fun k hk => by simp [World.cell?, hg]
  have hfz : ∀ k, w.frozen? ⟨g, k, none⟩ = false := fun k => by simp [World.frozen?, hg]
  have hget : ∀ t u, news[t]? = some u → w.cell? ⟨g, (j) * 2 + t, none⟩ = some u := fun t u hu => by
    have ht := (List.getElem?_eq_some_iff.1 hu).1
    rw [hlen] at ht
    rw [hnews, List.getElem?_take_of_lt (by omega), List.getElem?_drop, Array.getElem?_toList] at hu
    rw [hcell _ (by omega)]
    exact hu
  have hone' : ∀ u ∈ news, u.oneCell' = true := fun u hu => by
    refine hone u ?_
    rw [hnews] at hu
    obtain ⟨k, hk, rfl⟩ := List.getElem_of_mem hu
    simp only [List.length_take, List.length_drop, Array.length_toList] at hk
    rw [List.getElem_take, List.getElem_drop]
    exact List.mem_take_iff_getElem.2 ⟨(j) * 2 + k, by simp; omega, rfl⟩
  obtain ⟨A, hA, hsrc⟩ : ∃ A : Addr, (if cap = j then some (⟨g, 0, none⟩ : Addr) else some ⟨g, (j) * 2, none⟩) = some A ∧ Hid (∀ t u, news[t]? = some u → w.drew.cell? (A.add t) = some u) := by
    by_cases h : cap = j
    · refine ⟨⟨g, 0, none⟩, by simp [h], fun t u hu => ?_⟩
      have h0 : news.length = 0 := by rw [hlen]; omega
      rw [List.length_eq_zero_iff.1 h0] at hu
      simp at hu
    · exact ⟨⟨g, (j) * 2, none⟩, by simp [h], fun t u hu => by rw [Addr.add_lit]; exact hget t u hu⟩
  have s1 : Hid (news.length = (n - (j)) * 2) := hlen
  have s2 : Hid (∀ u ∈ news, u.oneCell' = true) := hone'
  have s3 : Hid (∀ t, t < news.length → (w.drew.cell? ⟨g, 0 + i * 2 + t, none⟩).isSome = true ∧ w.drew.frozen? ⟨g, 0 + i * 2 + t, none⟩ = false) := by
    intro t ht
    rw [hlen] at ht
    refine ⟨?_, hfz _⟩
    show (w.cell? _).isSome = true
    rw [hcell _ (by omega)]
    have : 0 + i * 2 + t < cur.size := by omega
    rw [Array.getElem?_eq_getElem this]
    rfl
  obtain ⟨W1, hW1⟩ : ∃ W1, W1 = w.drew.setCells g (0 + i * 2) news := ⟨_, rfl⟩
  have hcl : ∀ ty c, (Builtin.clear_ #[30] ty #[.slice (some ⟨g, (n - 1) * 2, none⟩) (n - (n - 1)) c]).run Try.prog W1 = .ok (.tuple #[]) (W1.setCells g ((n - 1) * 2) [.bool false, .int .i64 0]) := fun ty c => by
    rw [show n - (n - 1) = 1 by omega]
    refine clear_two W1 g ((n - 1) * 2) c (fun j hj => ?_) (fun j hj => ?_) ty
    · rw [hW1]
      refine World.isSome_setCells _ _ _ _ _ ?_
      show (w.cell? _).isSome = true
      rw [hcell _ (by omega), Array.getElem?_eq_getElem (by omega)]
      rfl
    · rw [hW1, World.frozen?_setCells]
      exact hfz _
  rw [← hnews]
  have mixed := mixedT
  have hic : i ≤ cap := by omega
  have hjc : j ≤ cap := by omega
  have hin : j ≤ n := by omega
  have hne : i ≠ j := by omega
  have hij : i < j := by omega
  have hc1 : ¬ cap = n - 1 := by omega
  have hn1 : n - 1 ≤ n := by omega
  have hn2 : n - 1 ≤ cap := by omega
  have hsum : i + (n - j) = n - 1 := by omega
  have ht : Try.prog.underlying 30 = some (.slice 57) := Try.underlying30
  obtain ⟨i0, hi0, hz0⟩ : ∃ i0, Try.prog.info? 57 = some i0 ∧ i0.size = 2 := by
    have h2 := tyR_30
    obtain ⟨i1, z, hund, hi, hz, hs, hb, hzs, hsz⟩ := tyRow_some h2
    exact ⟨i1, hi, hs⟩
  have hW : Hid (W1 = w.drew.setCells g (0 + i * 2) news) := hW1
  clear hj hget hone' hnews hcell hfz hone hlen hW1 hg hcs
  go_enter Try.func49, Try.ntmps49
  go_wp2_with fail
  go_region_law_o (refine step_append_room rfl (.tmp 22) (.tmp 25) 30 rfl 57 i0 2 ht hi0 hz0 g 0 i cap (by simp [Act.eval, Act.put]) A (n - (j)) (cap - (j)) news (by simp [Act.eval, Act.put]) s1.out hsrc.out s2.out (by omega) s3.out ?_; rw [← hW.out])
  go_wp2
  go_ret
  exact ⟨rfl, by rw [hW.out, Nat.zero_add]⟩
theorem grow_setCell (w : World) (g o : Nat) (v : Value) : w.grownBy (w.setCell ⟨g, o, none⟩ v) (some g) :=
  ⟨rfl, rfl, rfl, by simp [World.setCell], fun k _ hne => by
    have : g ≠ k := fun e => hne (by rw [e])
    simp [World.setCell, Array.getElem?_modify, this]⟩
theorem grow_trans {w w' w'' : World} {r : Option Nat} (h : w.grownBy w' r) (h' : w'.grownBy w'' r) : w.grownBy w'' r :=
  ⟨h'.os.trans h.os, h'.tape.trans h.tape, h'.output.trans h.output, Nat.le_trans h.size h'.size, fun k hk hne => (h'.block k (Nat.lt_of_lt_of_le hk h.size) hne).trans (h.block k hk hne)⟩
theorem grow_setCells (g : Nat) : ∀ (vs : List Value) (o : Nat) (w : World), w.grownBy (w.setCells g o vs) (some g)
  | [], _, w => ⟨rfl, rfl, rfl, Nat.le_refl _, fun _ _ _ => rfl⟩
  | v :: vs, o, w => grow_trans (grow_setCell w g o v) (grow_setCells g vs (o + 1) _)
theorem flatten_take {α : Type} {sz : Nat} : ∀ {vals : List (List α)} (i : Nat), (∀ r ∈ vals, r.length = sz) → vals.flatten.take (i * sz) = (vals.take i).flatten
  | [], i, _ => by simp
  | r :: vals, 0, _ => by simp
  | r :: vals, i + 1, h => by
    have hr := h r (by simp)
    rw [List.flatten_cons, List.take_succ_cons, List.flatten_cons, Nat.add_mul, Nat.one_mul, List.take_append, hr]
    rw [List.take_of_length_le (by omega), show i * sz + sz - sz = i * sz by omega, flatten_take i fun r hr => h r (by simp [hr])]
theorem flatten_drop {α : Type} {sz : Nat} : ∀ {vals : List (List α)} (i : Nat), (∀ r ∈ vals, r.length = sz) → vals.flatten.drop (i * sz) = (vals.drop i).flatten
  | [], i, _ => by simp
  | r :: vals, 0, _ => by simp
  | r :: vals, i + 1, h => by
    have hr := h r (by simp)
    rw [List.flatten_cons, List.drop_succ_cons, Nat.add_mul, Nat.one_mul, List.drop_append, hr]
    rw [List.drop_of_length_le (by omega), show i * sz + sz - sz = i * sz by omega, List.nil_append, flatten_drop i fun r hr => h r (by simp [hr])]
theorem delete_upd (vals : List (List Value)) (i : Nat) (hi : i < vals.length) (h2 : ∀ r ∈ vals, r.length = 2 ∧ ∀ x ∈ r, x.oneCell' = true) : AUpd Try.prog 49 57 2 vals [.int .i64 (i : Int), .int .i64 ((i + 1 : Nat) : Int)] (vals.eraseIdx i) := by
  refine ⟨enters_of Try.func49 rfl (by decide), fun w v base hown => ?_⟩
  obtain ⟨hl, hown⟩ := hown
  rcases hown with ⟨_, h0⟩ | ⟨g, cap, cur, rfl, hb, hg, hcn, hm, hcs, htk⟩
  · omega
  have hlen : vals.flatten.length = vals.length * 2 := by
    have := flat_len _root_.id 2 vals (fun r hr => (h2 r hr).1)
    rwa [List.flatMap_id] at this
  have h2' : ∀ r ∈ vals, r.length = 2 := fun r hr => (h2 r hr).1
  have hlt := (Array.getElem?_eq_some_iff.1 hg).1
  refine (delete_any w g cap vals.length i cur hg hcs hcn (by simpa [maxLen] using hm) hi (fun x hx => ?_)).mono ?_
  · rw [htk] at hx
    obtain ⟨r, hr, hx⟩ := List.mem_flatten.1 hx
    exact (h2 r hr).2 x hx
  rintro ex w' ⟨rfl, rfl⟩
  have hnews : ((cur.toList.drop ((i + 1) * 2)).take ((vals.length - 1 - i) * 2)) = (vals.drop (i + 1)).flatten := by
    rw [← flatten_drop (i + 1) h2', ← htk, List.drop_take]
    congr 1
    omega
  rw [hnews]
  have hnl : (vals.drop (i + 1)).flatten.length = (vals.length - (i + 1)) * 2 := by
    have := flat_len _root_.id 2 (vals.drop (i + 1)) (fun r hr => h2' r (List.mem_of_mem_drop hr))
    rw [List.flatMap_id] at this
    rw [this, List.length_drop]
  obtain ⟨c1, hc1, hc1'⟩ := heap_setCells_at (vals.drop (i + 1)).flatten (i * 2) w.drew cur hg (by omega)
  have hs1 : c1.size = cur.size := by
    have := congrArg List.length hc1'
    simp only [Array.length_toList, List.length_append, List.length_take, List.length_drop] at this
    omega
  obtain ⟨c2, hc2, hc2'⟩ := heap_setCells_at [.bool false, .int .i64 0] ((vals.length - 1) * 2) _ c1 hc1 (by simp; omega)
  have hs2 : c2.size = cur.size := by
    have := congrArg List.length hc2'
    simp only [Array.length_toList, List.length_append, List.length_take, List.length_drop, List.length_cons, List.length_nil] at this
    omega
  have htake : c2.toList.take ((vals.length - 1) * 2) = (vals.eraseIdx i).flatten := by
    rw [hc2', List.append_assoc, List.take_append_of_le_length (by simp; omega), List.take_take, Nat.min_self, hc1', List.append_assoc]
    have e1 : cur.toList.take (i * 2) = (vals.take i).flatten := by
      rw [← flatten_take i h2', ← htk, List.take_take, Nat.min_eq_left (by omega)]
    rw [e1, ← List.append_assoc, ← List.flatten_append, ← List.eraseIdx_eq_take_drop_succ]
    have e2 : (vals.eraseIdx i).flatten.length = (vals.length - 1) * 2 := by
      have := flat_len _root_.id 2 (vals.eraseIdx i) (fun r hr => h2' r (List.mem_of_mem_eraseIdx hr))
      rw [List.flatMap_id] at this
      rw [this, List.length_eraseIdx_of_lt hi]
    rw [List.take_append_of_le_length (by omega), List.take_of_length_le (by omega)]
  have hel : (vals.eraseIdx i).length = vals.length - 1 := List.length_eraseIdx_of_lt hi
  refine ⟨_, rfl, ?_, ?_, rfl⟩
  · rw [hel]
    refine ⟨?_, .inr ⟨g, cap, c2, rfl, hb, hc2, by omega, hm, by omega, htake⟩⟩
    have e3 : c2.toList.length = cap * 2 := by rw [Array.length_toList, hs2, hcs]
    rw [← htake, List.length_take, e3]
    omega
  · exact grow_trans (w' := w.drew) ⟨rfl, rfl, rfl, Nat.le_refl _, fun _ _ _ => rfl⟩ (grow_trans (grow_setCells g _ _ _) (grow_setCells g _ _ _))
end Go.Proofs.Ytfocnmkbnccilaa
