/-
  THE WALKS of EX, in label and in warderref32.
-/
import Derived.Test.YtcdeidedcbnhaaaLabelB
set_option linter.unusedVariables false
set_option linter.unusedSimpArgs false
namespace Go.Proofs.Ytcdeidedcbnhaaa
open Go.RowKit

theorem exL_row (next : List (List Int)) (a : List Bool) (k : Nat) (h : k < next.length) : (exL next a).getD k false = exRow next.length a (next.getD k []) := by
  unfold exL
  rw [List.getD, List.getElem?_map, List.getElem?_eq_getElem h, List.getD, List.getElem?_eq_getElem h]; rfl
theorem exRow_snoc (n : Nat) (a : List Bool) (row : List Int) (m : Nat) (h : m < row.length) : exRow n a (row.take (m + 1)) = (exRow n a (row.take m) || (decide (row.getD m 0 < (n : Int)) && isB a (row.getD m 0))) := by
  rw [List.take_succ_eq_append_getElem h, exRow, List.any_append, List.getD, List.getElem?_eq_getElem h]
  simp [exRow]

/-- how far EX has come: the rows before k whole, of row k so many -/
structure ExAt (next : List (List Int)) (a : List Bool) (k m : Nat) (L : List Bool) : Prop where
  len : L.length = next.length
  pre : ∀ j, j < k → L.getD j false = (exL next a).getD j false
  cur : L.getD k false = exRow next.length a ((next.getD k []).take m)
  post : ∀ j, k < j → L.getD j false = false
theorem ExAt.start (next : List (List Int)) (a : List Bool) : ExAt next a 0 0 (List.replicate next.length false) :=
  ⟨by simp, fun j h => by omega, by rw [rep_getD]; simp [exRow], fun j _ => rep_getD _ _⟩
theorem ExAt.next {next : List (List Int)} {a : List Bool} {k m : Nat} {L : List Bool} (h : ExAt next a k m L) (hk : k < next.length) (hm : m < (next.getD k []).length) (x : Bool)
    (hx : x = (L.getD k false || (decide ((next.getD k []).getD m 0 < (next.length : Int)) && isB a ((next.getD k []).getD m 0)))) : ExAt next a k (m + 1) (L.set k x) := by
  refine ⟨by rw [List.length_set, h.len], fun j hj => ?_, ?_, fun j hj => ?_⟩
  · rw [set_getD _ _ _ (by rw [h.len]; exact hk), if_neg (by omega)]; exact h.pre j hj
  · rw [set_getD _ _ _ (by rw [h.len]; exact hk), if_pos rfl, hx, exRow_snoc _ _ _ _ hm, h.cur]
  · rw [set_getD _ _ _ (by rw [h.len]; exact hk), if_neg (by omega)]; exact h.post j hj
theorem ExAt.same {next : List (List Int)} {a : List Bool} {k m : Nat} {L : List Bool} (h : ExAt next a k m L) (hm : m < (next.getD k []).length)
    (hx : (decide ((next.getD k []).getD m 0 < (next.length : Int)) && isB a ((next.getD k []).getD m 0)) = false) : ExAt next a k (m + 1) L :=
  ⟨h.len, h.pre, by rw [exRow_snoc _ _ _ _ hm, hx, Bool.or_false]; exact h.cur, h.post⟩
theorem ExAt.row {next : List (List Int)} {a : List Bool} {k : Nat} {L : List Bool} (h : ExAt next a k (next.getD k []).length L) (hk : k < next.length) : ExAt next a (k + 1) 0 L := by
  refine ⟨h.len, fun j hj => ?_, ?_, fun j hj => h.post j (by omega)⟩
  · by_cases e : j = k
    · subst e
      rw [h.cur, List.take_length, exL_row _ _ _ hk]
    · exact h.pre j (by omega)
  · rw [h.post (k + 1) (by omega)]; simp [exRow]
theorem ExAt.done {next : List (List Int)} {a : List Bool} {m : Nat} {L : List Bool} (h : ExAt next a next.length m L) : L = exL next a :=
  list_eq (by rw [h.len, exL_length]) fun j hj => h.pre j (by rw [h.len] at hj; exact hj)

set_option maxHeartbeats 1000000 in
theorem ex_any (next : List (List Int)) (a : List Bool) (vn va : Value) (w : World) (hl : next.length ≤ 4294967296) (hr : ∀ r ∈ next, r.length ≤ 4294967296) (hla : a.length ≤ 9223372036854775807) (hn : RR w vn next) (ha : RB w va a) :
    Calls Try.prog 32 #[vn, va] w (SetPost (exL next a) w) := by
  obtain ⟨A, c, rfl, hc⟩ := hn.form
  obtain ⟨B, cb, rfl, hcb⟩ := ha.form
  have hmk := run_make_row' (P := Try.prog) 32 4 (.bool false) 1 Try.underlying32 boolInfo rfl .i64 .i64 next.length (by omega) (by omega)
  have Hr := hide hr
  clear hr
  go_enter Try.func32, Try.ntmps32
  go_wp2_with fail
  have ho := OB.made w next.length (by omega)
  have hb0 := (Below.refl w.heap.size w).alloc (Nat.le_refl _) (.cells (madeCells #[.bool false] next.length) 4)
  clear hmk
  go_loopw [15] (fun i wr => ∃ (k : Nat) (L : List Bool), k ≤ next.length ∧ i = .int .i64 (k : Int) ∧ ExAt next a k 0 L ∧ OB wr w.heap.size (.slice (some ⟨w.heap.size, 0, none⟩) next.length next.length) L ∧ Below w.heap.size w wr) (fun i wr => next.length - (intOf i).toNat)
  case atStart => exact ⟨0, _, Nat.zero_le _, rfl, ExAt.start next a, ho, hb0⟩
  case round =>
    clear ho hb0
    obtain ⟨k, L, hk, rfl, hL, ho, hb⟩ := hrel
    by_cases hlt : k < next.length
    · obtain ⟨b, o, A', c', rfl, hcell0, hc1, hc2, hri⟩ := hn.at_ hlt
      have hcell := (hb.cell (World.block_lt_of_cell? w _ hcell0)).trans hcell0
      have hrow : (next.getD k []).length ≤ 4294967296 := by
        rw [List.getD, List.getElem?_eq_getElem hlt]; exact Hr.out _ (List.getElem_mem hlt)
      obtain ⟨row, hrw⟩ : ∃ row, row = next.getD k [] := ⟨_, rfl⟩
      rw [← hrw] at hcell hc1 hri hrow
      have Hrw := hide hrw
      have HL0 := hide hL
      have Hb := hide hb
      have Ho := hide ho
      clear hrw hcell0 hL hb ho
      go_wp2_with fail
      go_loopw [22] (fun i wx => ∃ (m : Nat) (L : List Bool), m ≤ row.length ∧ i = .int .i64 (m : Int) ∧ ExAt next a k m L ∧ OB wx w.heap.size (.slice (some ⟨w.heap.size, 0, none⟩) next.length next.length) L ∧ Below w.heap.size w wx) (fun i wx => row.length - (intOf i).toNat)
      case atStart => exact ⟨0, L, Nat.zero_le _, rfl, HL0.out, Ho.out, Hb.out⟩
      case round =>
        clear hcell HL0 Hb Ho
        obtain ⟨m, L, hm, rfl, hL, ho, hb⟩ := hrel
        by_cases hmlt : m < row.length
        · obtain ⟨b2, o2, rfl, hcell2, hy1, hy2⟩ := (hri.below hb).at_ hmlt
          have hlen := hL.len
          have c1 := ho.cell (k := k) (by omega)
          have f1 := ho.frozen k
          have hpl := labelPlace_any next _ (row.getD m 0) wr (by omega) (hn.below hb)
          have his := labelIs_any a _ (row.getD m 0) wr (by omega) (ha.below hb)
          have hnx := fun (x : Bool) => hL.next hlt (by rw [← Hrw.out]; exact hmlt) x
          rw [← Hrw.out] at hnx
          generalize row.getD m 0 = y at *
          generalize L.getD k false = z at *
          have hset := fun x => ho.set k x
          have Hpl := hide hpl
          have His := hide his
          have Hnx := hide hnx
          have Hlen := hide hlen
          have HL := hide hL
          have Hset := hide hset
          have hB := hide hb
          clear hpl his hnx hlen hL hset
          have hrelx : ∀ x, x = (z || (decide (y < (next.length : Int)) && isB a y)) → ∃ (m_1 : Nat) (L_1 : List Bool), m_1 ≤ row.length ∧ Value.int .i64 ((m : Int) + 1) = .int .i64 (m_1 : Int) ∧ ExAt next a k m_1 L_1 ∧ OB (wr.setCell ⟨w.heap.size, k, none⟩ (.bool x)) w.heap.size (.slice (some ⟨w.heap.size, 0, none⟩) next.length next.length) L_1 ∧ Below w.heap.size w (wr.setCell ⟨w.heap.size, k, none⟩ (.bool x)) := fun x hx =>
            ⟨m + 1, L.set k x, by omega, by go_num, Hnx.out x hx, Hset.out x, hB.out.setCell (Nat.le_refl _) _⟩
          have Hrelx := hide hrelx
          clear hrelx hB
          cases z with
          | true =>
            go_wp2_with fail
            go_roundw
            case rel => exact Hrelx.out _ (by simp)
            case measure => simp [intOf]; omega
          | false =>
            by_cases hp : 0 ≤ y ∧ y < (next.length : Int)
            · cases hy : isB a y with
              | true =>
                have hd : decide (y < (next.length : Int)) = true := decide_eq_true hp.2
                rw [hy] at His
                have hpp : decide (0 ≤ y ∧ y < (next.length : Int)) = true := decide_eq_true hp
                rw [hpp] at Hpl
                rw [hd, hy] at Hrelx
                have HP := hide hp
                clear hd hpp hy hp
                go_wp2_with (first
                  | (go_at_call 50; refine Hpl.out.mono ?_; rintro e w2 ⟨rfl, rfl⟩)
                  | (go_at_call 49; refine His.out.mono ?_; rintro e w2 ⟨rfl, rfl⟩))
                go_roundw
                case rel => exact Hrelx.out _ (by simp)
                case measure => simp [intOf]; omega
              | false =>
                rw [hy] at His
                have hpp : decide (0 ≤ y ∧ y < (next.length : Int)) = true := decide_eq_true hp
                rw [hpp] at Hpl
                rw [hy] at Hrelx
                have HP := hide hp
                clear hpp hy hp
                go_wp2_with (first
                  | (go_at_call 50; refine Hpl.out.mono ?_; rintro e w2 ⟨rfl, rfl⟩)
                  | (go_at_call 49; refine His.out.mono ?_; rintro e w2 ⟨rfl, rfl⟩))
                go_roundw
                case rel => exact Hrelx.out _ (by simp)
                case measure => simp [intOf]; omega
            · have hx : (decide (y < (next.length : Int)) && isB a y) = false := by
                rw [Bool.and_eq_false_iff]
                by_cases h0 : 0 ≤ y
                · exact .inl (decide_eq_false (fun h => hp ⟨h0, h⟩))
                · exact .inr (by simp [isB, h0])
              have hpp : decide (0 ≤ y ∧ y < (next.length : Int)) = false := decide_eq_false hp
              rw [hpp] at Hpl
              rw [hx] at Hrelx
              have HP := hide hp
              clear hpp hx hp
              go_wp2_with (go_at_call 50; refine Hpl.out.mono ?_; rintro e w2 ⟨rfl, rfl⟩)
              go_roundw
              case rel => exact Hrelx.out _ (by simp)
              case measure => simp [intOf]; omega
        · obtain rfl : m = row.length := by omega
          rw [Hrw.out] at hL
          have hL2 := hL.row hlt
          have HL2 := hide hL2
          clear hL hL2
          go_wp2_with fail
          go_roundw
          case rel => exact ⟨k + 1, L, by omega, by go_num, HL2.out, ho, hb⟩
          case measure => simp [intOf]; omega
    · obtain rfl : k = next.length := by omega
      have e := hL.done
      have hlen := hL.len
      have E := hide e
      have HL := hide hlen
      clear e hlen hL
      go_wp2_with fail
      go_ret
      refine ⟨w.heap.size, by rw [← E.out, HL.out]; rfl, ?_, hb⟩
      rw [← E.out, HL.out]; exact ho

end Go.Proofs.Ytcdeidedcbnhaaa
