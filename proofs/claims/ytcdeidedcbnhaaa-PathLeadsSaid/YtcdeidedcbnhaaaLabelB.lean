/-
  THE WALKS of label.Not, And, EX and of warderref32's EX, Same, Great.
-/
import Derived.Test.YtcdeidedcbnhaaaLabel
import Derived.Deep.OwnRows
import Derived.Deep.RegionWith
set_option linter.unusedVariables false
set_option linter.unusedSimpArgs false
namespace Go.Proofs.Ytcdeidedcbnhaaa
open Go.RowKit

/-- an own row of bools -/
def OB (w : World) (base : Nat) (v : Value) (l : List Bool) : Prop := w.ownsRow base 4 1 v l.length (l.map Value.bool)
theorem OB.made (w : World) (n : Nat) (hn : n ≤ 9223372036854775807) : OB (w.alloc (.cells (madeCells #[.bool false] n) 4)) w.heap.size (.slice (some ⟨w.heap.size, 0, none⟩) n n) (List.replicate n false) := by
  have := World.ownsRow_lit (e := 4) (size := 1) (base := w.heap.size) w (madeCells #[.bool false] n) n (Nat.le_refl _) (by simpa [maxLen] using hn) (by rw [size_madeCells, Nat.mul_one])
  rw [toList_madeCells_one] at this
  unfold OB
  rw [List.length_replicate, List.map_replicate]
  exact this
theorem OB.cell {w : World} {base g n c : Nat} {l : List Bool} (h : OB w base (.slice (some ⟨g, 0, none⟩) n c) l) {k : Nat} (hk : k < l.length) : w.cell? ⟨g, k, none⟩ = some (.bool (l.getD k false)) := by
  have hn : n = l.length := by
    obtain ⟨A, c', e, _⟩ := own_form h
    cases e; rfl
  subst hn
  refine own_cell h rfl ?_
  rw [List.getElem?_map, List.getD, List.getElem?_eq_getElem hk]; rfl
theorem OB.frozen {w : World} {base g n c : Nat} {l : List Bool} (h : OB w base (.slice (some ⟨g, 0, none⟩) n c) l) (k : Nat) : w.frozen? ⟨g, k, none⟩ = false := by
  have hn : n = l.length := by
    obtain ⟨A, c', e, _⟩ := own_form h
    cases e; rfl
  subst hn
  exact World.ownsRow.frozenAt h k
theorem OB.set {w : World} {base g n c : Nat} {l : List Bool} (h : OB w base (.slice (some ⟨g, 0, none⟩) n c) l) (k : Nat) (x : Bool) : OB (w.setCell ⟨g, k, none⟩ (.bool x)) base (.slice (some ⟨g, 0, none⟩) n c) (l.set k x) := by
  have hn : n = l.length := by
    obtain ⟨A, c', e, _⟩ := own_form h
    cases e; rfl
  subst hn
  have := (World.ownsRow.stored h k (.bool x)).1
  unfold OB
  rw [List.length_set, List.map_set]
  exact this
theorem set_getD (l : List Bool) (k : Nat) (x : Bool) (h : k < l.length) (j : Nat) : (l.set k x).getD j false = if j = k then x else l.getD j false := by
  simp only [List.getD, List.getElem?_set]
  by_cases e : j = k
  · subst e; simp [h]
  · rw [if_neg (fun h => e h.symm), if_neg e]
theorem rep_getD (n j : Nat) : (List.replicate n false).getD j false = false := by
  rw [List.getD, List.getElem?_replicate]; split <;> rfl
theorem list_eq {a b : List Bool} (hl : a.length = b.length) (h : ∀ j, j < a.length → a.getD j false = b.getD j false) : a = b := by
  apply List.ext_getElem hl
  intro i h1 h2
  have := h i h1
  rwa [List.getD, List.getElem?_eq_getElem h1, List.getD, List.getElem?_eq_getElem h2] at this

/-- what a function that makes a set hands back -/
def SetPost (L : List Bool) (w : World) (e : Ending) (w' : World) : Prop := ∃ g, e = .returned (.slice (some ⟨g, 0, none⟩) L.length L.length) ∧ OB w' w.heap.size (.slice (some ⟨g, 0, none⟩) L.length L.length) L ∧ Below w.heap.size w w'

set_option maxHeartbeats 400000 in
theorem not_any (a : List Bool) (v : Value) (w : World) (hl : a.length ≤ 281474976710656) (hv : RB w v a) : Calls Try.prog 26 #[v] w (SetPost (a.map (!·)) w) := by
  obtain ⟨A, c, rfl, hc⟩ := hv.form
  have hmk := run_make_row' (P := Try.prog) 32 4 (.bool false) 1 Try.underlying32 boolInfo rfl .i64 .i64 a.length (by omega) (by omega)
  go_enter Try.func26, Try.ntmps26
  go_wp2_with fail
  have ho := OB.made w a.length (by omega)
  have hb0 := (Below.refl w.heap.size w).alloc (Nat.le_refl _) (.cells (madeCells #[.bool false] a.length) 4)
  clear hmk
  go_loopw [11] (fun i wr => ∃ (k : Nat) (L : List Bool), k ≤ a.length ∧ i = .int .i64 (k : Int) ∧ L.length = a.length ∧ (∀ j, j < k → L.getD j false = !(a.getD j false)) ∧ OB wr w.heap.size (.slice (some ⟨w.heap.size, 0, none⟩) a.length a.length) L ∧ Below w.heap.size w wr) (fun i wr => a.length - (intOf i).toNat)
  case atStart => exact ⟨0, _, Nat.zero_le _, rfl, List.length_replicate, fun j hj => by omega, ho, hb0⟩
  case round =>
    clear ho hb0
    obtain ⟨k, L, hk, rfl, hL, hpre, ho, hb⟩ := hrel
    have HL := hide hL
    have Hpre := hide hpre
    clear hL hpre
    by_cases hlt : k < a.length
    · obtain ⟨b, o, rfl, hcell⟩ := (hv.below hb).at_ hlt
      have c1 := ho.cell (k := k) (by have := HL.out; omega)
      have f1 := ho.frozen k
      generalize hx : a.getD k false = x at *
      have Hx := hide hx
      clear hx
      go_wp2_with fail
      go_roundw
      case rel =>
        refine ⟨k + 1, L.set k (!x), by omega, by go_num, by rw [List.length_set, HL.out], fun j hj => ?_, ho.set k _, hb.setCell (Nat.le_refl _) _⟩
        rw [set_getD _ _ _ (by rw [HL.out]; exact hlt)]
        split
        · rename_i e; subst e; rw [Hx.out]
        · exact Hpre.out j (by omega)
      case measure => simp [intOf]; omega
    · obtain rfl : k = a.length := by omega
      go_wp2_with fail
      go_ret
      have e : L = a.map (!·) := list_eq (by rw [HL.out, List.length_map]) fun j hj => by
        rw [Hpre.out j (by rw [← HL.out]; exact hj), List.getD, List.getD, List.getElem?_map]
        rw [HL.out] at hj
        rw [List.getElem?_eq_getElem hj]; rfl
      refine ⟨w.heap.size, by rw [← e, HL.out]; rfl, ?_, hb⟩
      rw [← e, HL.out]; exact ho

set_option maxHeartbeats 400000 in
theorem and_any (a b : List Bool) (va vb : Value) (w : World) (hla : a.length ≤ 281474976710656) (hlb : b.length ≤ 281474976710656) (ha : RB w va a) (hb : RB w vb b) : Calls Try.prog 27 #[va, vb] w (SetPost (andL a b) w) := by
  obtain ⟨A, ca, rfl, hca⟩ := ha.form
  obtain ⟨B, cb, rfl, hcb⟩ := hb.form
  by_cases hab : a.length < b.length
  · have hmk := run_make_row' (P := Try.prog) 32 4 (.bool false) 1 Try.underlying32 boolInfo rfl .i64 .i64 b.length (by omega) (by omega)
    go_enter Try.func27, Try.ntmps27
    go_wp2_with fail
    have ho := OB.made w b.length (by omega)
    have hb0 := (Below.refl w.heap.size w).alloc (Nat.le_refl _) (.cells (madeCells #[.bool false] b.length) 4)
    clear hmk
    go_loopw [15] (fun i wr => ∃ (k : Nat) (L : List Bool), k ≤ b.length ∧ i = .int .i64 (k : Int) ∧ L.length = b.length ∧ (∀ j, j < k → L.getD j false = (a.getD j false && b.getD j false)) ∧ OB wr w.heap.size (.slice (some ⟨w.heap.size, 0, none⟩) b.length b.length) L ∧ Below w.heap.size w wr) (fun i wr => b.length - (intOf i).toNat)
    case atStart => exact ⟨0, _, Nat.zero_le _, rfl, List.length_replicate, fun j hj => by omega, ho, hb0⟩
    case round =>
      clear ho hb0
      obtain ⟨k, L, hk, rfl, hL, hpre, ho, hbl⟩ := hrel
      have HL := hide hL
      have Hpre := hide hpre
      clear hL hpre
      by_cases hlt : k < b.length
      · have h1 := labelIs_any a _ (k : Int) wr (by omega) (ha.below hbl)
        have h2 := labelIs_any b _ (k : Int) wr (by omega) (hb.below hbl)
        rw [isB_nat] at h1 h2
        have c1 := ho.cell (k := k) (by have := HL.out; omega)
        have f1 := ho.frozen k
        have hpk : (a.getD k false && b.getD k false) = (a.getD k false && b.getD k false) := rfl
        have H1 := hide h1
        have H2 := hide h2
        clear h1 h2 hpk
        obtain ⟨x, hx⟩ : ∃ x, x = a.getD k false := ⟨_, rfl⟩
        obtain ⟨y, hy⟩ : ∃ y, y = b.getD k false := ⟨_, rfl⟩
        rw [← hx] at H1
        rw [← hy] at H2
        have Hx := hide hx
        have Hy := hide hy
        clear hx hy
        have hrel : ∀ z, z = (x && y) → ∃ (k_1 : Nat) (L_1 : List Bool), k_1 ≤ b.length ∧ Value.int .i64 ((k : Int) + 1) = .int .i64 (k_1 : Int) ∧ L_1.length = b.length ∧ (∀ j, j < k_1 → L_1.getD j false = (a.getD j false && b.getD j false)) ∧ OB (wr.setCell ⟨w.heap.size, k, none⟩ (.bool z)) w.heap.size (.slice (some ⟨w.heap.size, 0, none⟩) b.length b.length) L_1 ∧ Below w.heap.size w (wr.setCell ⟨w.heap.size, k, none⟩ (.bool z)) := by
          rintro z rfl
          refine ⟨k + 1, L.set k (x && y), by omega, by go_num, by rw [List.length_set, HL.out], fun j hj => ?_, ho.set k _, hbl.setCell (Nat.le_refl _) _⟩
          rw [set_getD _ _ _ (by rw [HL.out]; exact hlt)]
          split
          · rename_i e; subst e; rw [Hx.out, Hy.out]
          · exact Hpre.out j (by omega)
        have Hrel := hide hrel
        clear hrel
        cases x with
        | true =>
          go_wp2_with (first
            | (go_at_call_of 49 (Value.slice A a.length ca); refine H1.out.mono ?_; rintro e w2 ⟨rfl, rfl⟩)
            | (go_at_call_of 49 (Value.slice B b.length cb); refine H2.out.mono ?_; rintro e w2 ⟨rfl, rfl⟩))
          go_roundw
          case rel => exact Hrel.out _ (by simp)
          case measure => simp [intOf]; omega
        | false =>
          go_wp2_with (go_at_call_of 49 (Value.slice A a.length ca); refine H1.out.mono ?_; rintro e w2 ⟨rfl, rfl⟩)
          go_roundw
          case rel => exact Hrel.out _ rfl
          case measure => simp [intOf]; omega
      · obtain rfl : k = b.length := by omega
        go_wp2_with fail
        go_ret
        have e : L = andL a b := list_eq (by rw [HL.out]; unfold andL; simp; omega) fun j hj => by
          rw [Hpre.out j (by rw [← HL.out]; exact hj), andL_at]
        refine ⟨w.heap.size, by rw [← e, HL.out]; rfl, ?_, hbl⟩
        rw [← e, HL.out]; exact ho
  · have hmk := run_make_row' (P := Try.prog) 32 4 (.bool false) 1 Try.underlying32 boolInfo rfl .i64 .i64 a.length (by omega) (by omega)
    go_enter Try.func27, Try.ntmps27
    go_wp2_with fail
    have ho := OB.made w a.length (by omega)
    have hb0 := (Below.refl w.heap.size w).alloc (Nat.le_refl _) (.cells (madeCells #[.bool false] a.length) 4)
    clear hmk
    go_loopw [15] (fun i wr => ∃ (k : Nat) (L : List Bool), k ≤ a.length ∧ i = .int .i64 (k : Int) ∧ L.length = a.length ∧ (∀ j, j < k → L.getD j false = (a.getD j false && b.getD j false)) ∧ OB wr w.heap.size (.slice (some ⟨w.heap.size, 0, none⟩) a.length a.length) L ∧ Below w.heap.size w wr) (fun i wr => a.length - (intOf i).toNat)
    case atStart => exact ⟨0, _, Nat.zero_le _, rfl, List.length_replicate, fun j hj => by omega, ho, hb0⟩
    case round =>
      clear ho hb0
      obtain ⟨k, L, hk, rfl, hL, hpre, ho, hbl⟩ := hrel
      have HL := hide hL
      have Hpre := hide hpre
      clear hL hpre
      by_cases hlt : k < a.length
      · have h1 := labelIs_any a _ (k : Int) wr (by omega) (ha.below hbl)
        have h2 := labelIs_any b _ (k : Int) wr (by omega) (hb.below hbl)
        rw [isB_nat] at h1 h2
        have c1 := ho.cell (k := k) (by have := HL.out; omega)
        have f1 := ho.frozen k
        have hpk : (a.getD k false && b.getD k false) = (a.getD k false && b.getD k false) := rfl
        have H1 := hide h1
        have H2 := hide h2
        clear h1 h2 hpk
        obtain ⟨x, hx⟩ : ∃ x, x = a.getD k false := ⟨_, rfl⟩
        obtain ⟨y, hy⟩ : ∃ y, y = b.getD k false := ⟨_, rfl⟩
        rw [← hx] at H1
        rw [← hy] at H2
        have Hx := hide hx
        have Hy := hide hy
        clear hx hy
        have hrel : ∀ z, z = (x && y) → ∃ (k_1 : Nat) (L_1 : List Bool), k_1 ≤ a.length ∧ Value.int .i64 ((k : Int) + 1) = .int .i64 (k_1 : Int) ∧ L_1.length = a.length ∧ (∀ j, j < k_1 → L_1.getD j false = (a.getD j false && b.getD j false)) ∧ OB (wr.setCell ⟨w.heap.size, k, none⟩ (.bool z)) w.heap.size (.slice (some ⟨w.heap.size, 0, none⟩) a.length a.length) L_1 ∧ Below w.heap.size w (wr.setCell ⟨w.heap.size, k, none⟩ (.bool z)) := by
          rintro z rfl
          refine ⟨k + 1, L.set k (x && y), by omega, by go_num, by rw [List.length_set, HL.out], fun j hj => ?_, ho.set k _, hbl.setCell (Nat.le_refl _) _⟩
          rw [set_getD _ _ _ (by rw [HL.out]; exact hlt)]
          split
          · rename_i e; subst e; rw [Hx.out, Hy.out]
          · exact Hpre.out j (by omega)
        have Hrel := hide hrel
        clear hrel
        cases x with
        | true =>
          go_wp2_with (first
            | (go_at_call_of 49 (Value.slice A a.length ca); refine H1.out.mono ?_; rintro e w2 ⟨rfl, rfl⟩)
            | (go_at_call_of 49 (Value.slice B b.length cb); refine H2.out.mono ?_; rintro e w2 ⟨rfl, rfl⟩))
          go_roundw
          case rel => exact Hrel.out _ (by simp)
          case measure => simp [intOf]; omega
        | false =>
          go_wp2_with (go_at_call_of 49 (Value.slice A a.length ca); refine H1.out.mono ?_; rintro e w2 ⟨rfl, rfl⟩)
          go_roundw
          case rel => exact Hrel.out _ rfl
          case measure => simp [intOf]; omega
      · obtain rfl : k = a.length := by omega
        go_wp2_with fail
        go_ret
        have e : L = andL a b := list_eq (by rw [HL.out]; unfold andL; simp; omega) fun j hj => by
          rw [Hpre.out j (by rw [← HL.out]; exact hj), andL_at]
        refine ⟨w.heap.size, by rw [← e, HL.out]; rfl, ?_, hbl⟩
        rw [← e, HL.out]; exact ho

theorem same_bools (a b : List Bool) (va vb : Value) (w : World) (hl : a.length ≤ 4294967296) (ha : RB w va a) (hb : RB w vb b) (heq : a = b) :
    Calls Try.prog 31 #[va, vb] w fun e w' => e = .returned (.bool true) ∧ Below w.heap.size w w' := by
  subst heq
  obtain ⟨A, ca, rfl, hca⟩ := ha.form
  obtain ⟨B, cb, rfl, hcb⟩ := hb.form
  have hne : ((a.length : Int) != (a.length : Int)) = false := by simp
  go_enter Try.func31, Try.ntmps31
  go_wp2_with fail
  go_loopw [5] (fun i wr => ∃ k : Nat, k ≤ a.length ∧ i = .int .i64 (k : Int) ∧ Below w.heap.size w wr) (fun i wr => a.length - (intOf i).toNat)
  case atStart => exact ⟨0, Nat.zero_le _, rfl, Below.refl _ _⟩
  case round =>
    obtain ⟨k, hk, rfl, hbl⟩ := hrel
    by_cases hlt : k < a.length
    · obtain ⟨b1, o1, rfl, hcell⟩ := (ha.below hbl).at_ hlt
      obtain ⟨b2, o2, rfl, hcell2⟩ := (hb.below hbl).at_ hlt
      have hi : (k : Int) < (a.length : Int) := by omega
      generalize a.getD k false = x at *
      have h1 : (x != x) = false := by simp
      go_wp2_with fail
      go_quiet (fail)
      go_wp2_with fail
      go_roundw
      case rel => exact ⟨k + 1, by omega, by go_num, below_drewN hbl _⟩
      case measure => simp [intOf]; omega
    · obtain rfl : k = a.length := by omega
      go_wp2_with fail
      go_ret
      exact ⟨rfl, hbl⟩

/-- are places too much to be asked? -/
def greatL (next : List (List Int)) : Bool := next.any (fun r => decide (200 < r.length)) || decide (100 < next.length)
set_option maxHeartbeats 400000 in
theorem great_any (next : List (List Int)) (v : Value) (w : World) (hl : next.length ≤ 9223372036854775807) (hv : RR w v next) :
    Calls Try.prog 30 #[v] w fun e w' => e = .returned (.bool (greatL next)) ∧ w = w' := by
  obtain ⟨A, c, rfl, hc⟩ := hv.form
  go_enter Try.func30, Try.ntmps30
  go_wp2_with fail
  go_loop [3] (fun i => ∃ k : Nat, k ≤ next.length ∧ i = .int .i64 (k : Int) ∧ ∀ r ∈ next.take k, r.length ≤ 200) (fun i => next.length - (intOf i).toNat)
  case atStart => exact ⟨0, Nat.zero_le _, rfl, fun r hr => by simp at hr⟩
  case round =>
    obtain ⟨k, hk, rfl, hno⟩ := hrel
    have Hno := hide hno
    clear hno
    by_cases hlt : k < next.length
    · obtain ⟨b, o, A', c', rfl, hcell, hc1, hc2, hri⟩ := hv.at_ hlt
      have hgk : next.getD k [] = next[k] := by rw [List.getD, List.getElem?_eq_getElem hlt]; rfl
      rw [hgk] at hcell hc1 hri
      have htk := hide (List.take_succ_eq_append_getElem hlt)
      have hyes : 200 < next[k].length → greatL next = true := fun h => by
        unfold greatL
        rw [Bool.or_eq_true, List.any_eq_true]
        exact .inl ⟨next[k], List.getElem_mem hlt, by simpa using h⟩
      have Hyes := hide hyes
      clear hyes hgk
      generalize next[k] = row at *
      by_cases hg : 200 < row.length
      · have E := hide (Hyes.out hg)
        go_wp2_with fail
        go_ret
        rw [E.out]; exact ⟨rfl, rfl⟩
      · go_wp2_with fail
        go_round
        case rel =>
          refine ⟨k + 1, by omega, by go_num, fun r hr => ?_⟩
          rw [htk.out] at hr
          rcases List.mem_append.1 hr with hr | hr
          · exact Hno.out r hr
          · simp at hr; subst hr; omega
        case measure => simp [intOf]; omega
    · obtain rfl : k = next.length := by omega
      have e : greatL next = decide (100 < next.length) := by
        unfold greatL
        have : next.any (fun r => decide (200 < r.length)) = false := by
          rw [List.any_eq_false]
          intro r hr
          have := Hno.out r (by rwa [List.take_length])
          simp; omega
        rw [this]; rfl
      have E := hide e
      clear e
      by_cases h100 : 100 < next.length
      · go_wp2_with fail
        go_ret
        rw [E.out]; exact ⟨by simp; omega, rfl⟩
      · go_wp2_with fail
        go_ret
        rw [E.out]; exact ⟨by simp; omega, rfl⟩
theorem great_false {next : List (List Int)} (h : greatL next = false) : next.length ≤ 100 ∧ ∀ r ∈ next, r.length ≤ 200 := by
  unfold greatL at h
  rw [Bool.or_eq_false_iff, List.any_eq_false] at h
  refine ⟨by simpa using h.2, fun r hr => by simpa using h.1 r hr⟩

end Go.Proofs.Ytcdeidedcbnhaaa
