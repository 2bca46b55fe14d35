/-
  THE WALK of EX, in warderref32.
-/
import Derived.Test.YtcdeidedcbnhaaaLabelC
set_option linter.unusedVariables false
set_option linter.unusedSimpArgs false
namespace Go.Proofs.Ytcdeidedcbnhaaa
open Go.RowKit

set_option maxHeartbeats 1000000 in
theorem refEx_any (next : List (List Int)) (a : List Bool) (vn va : Value) (w : World) (hl : next.length ≤ 4294967296) (hr : ∀ r ∈ next, r.length ≤ 4294967296) (hla : a.length ≤ 9223372036854775807) (hn : RR w vn next) (ha : RB w va a) :
    Calls Try.prog 33 #[vn, va] w (SetPost (exL next a) w) := by
  obtain ⟨A, c, rfl, hc⟩ := hn.form
  obtain ⟨B, cb, rfl, hcb⟩ := ha.form
  have hmk := run_make_row' (P := Try.prog) 32 4 (.bool false) 1 Try.underlying32 boolInfo rfl .i64 .i64 next.length (by omega) (by omega)
  have Hr := hide hr
  clear hr
  go_enter Try.func33, Try.ntmps33
  go_wp2_with fail
  have ho := OB.made w next.length (by omega)
  have hb0 := (Below.refl w.heap.size w).alloc (Nat.le_refl _) (.cells (madeCells #[.bool false] next.length) 4)
  clear hmk
  go_loopw [6] (fun i wr => ∃ (k : Nat) (L : List Bool), k ≤ next.length ∧ i = .int .i64 (k : Int) ∧ ExAt next a k 0 L ∧ OB wr w.heap.size (.slice (some ⟨w.heap.size, 0, none⟩) next.length next.length) L ∧ Below w.heap.size w wr) (fun i wr => next.length - (intOf i).toNat)
  case atStart => exact ⟨0, _, Nat.zero_le _, rfl, ExAt.start next a, ho, hb0⟩
  case round =>
    clear ho hb0
    obtain ⟨k, L, hk, rfl, hL, ho, hb⟩ := hrel
    by_cases hlt : k < next.length
    · obtain ⟨b, o, A', c', rfl, hcell0, hc1, hc2, hri⟩ := hn.at_ hlt
      have hrow : (next.getD k []).length ≤ 4294967296 := by
        rw [List.getD, List.getElem?_eq_getElem hlt]; exact Hr.out _ (List.getElem_mem hlt)
      obtain ⟨row, hrw⟩ : ∃ row, row = next.getD k [] := ⟨_, rfl⟩
      rw [← hrw] at hcell0 hc1 hri hrow
      have Hrw := hide hrw
      have HL0 := hide hL
      have Hb := hide hb
      have Ho := hide ho
      clear hrw hL hb ho
      go_wp2_with fail
      go_loopw [7] (fun i wx => ∃ (m : Nat) (L : List Bool), m ≤ row.length ∧ i = .int .i64 (m : Int) ∧ ExAt next a k m L ∧ OB wx w.heap.size (.slice (some ⟨w.heap.size, 0, none⟩) next.length next.length) L ∧ Below w.heap.size w wx) (fun i wx => row.length - (intOf i).toNat)
      case atStart => exact ⟨0, L, Nat.zero_le _, rfl, HL0.out, Ho.out, Hb.out⟩
      case round =>
        clear HL0 Hb Ho
        obtain ⟨m, L, hm, rfl, hL, ho, hb⟩ := hrel
        have hcell := (hb.cell (World.block_lt_of_cell? w _ hcell0)).trans hcell0
        by_cases hmlt : m < row.length
        · obtain ⟨b2, o2, rfl, hcell2, hy1, hy2⟩ := (hri.below hb).at_ hmlt
          have hlen := hL.len
          have f1 := ho.frozen k
          have c1 := ho.cell (k := k) (by omega)
          generalize L.getD k false = z at c1
          have his := refIs_any a _ (row.getD m 0) wr (by omega) (ha.below hb)
          have hnx := fun (x : Bool) => hL.next hlt (by rw [← Hrw.out]; exact hmlt) x
          have hsm := hL.same (by rw [← Hrw.out]; exact hmlt)
          rw [← Hrw.out] at hnx hsm
          generalize row.getD m 0 = y at *
          have hset := ho.set k true
          have Hlen := hide hlen
          have hrelx : (decide (y < (next.length : Int)) && isB a y) = true → ∃ (m_1 : Nat) (L_1 : List Bool), m_1 ≤ row.length ∧ Value.int .i64 ((m : Int) + 1) = .int .i64 (m_1 : Int) ∧ ExAt next a k m_1 L_1 ∧ OB (wr.setCell ⟨w.heap.size, k, none⟩ (.bool true)) w.heap.size (.slice (some ⟨w.heap.size, 0, none⟩) next.length next.length) L_1 ∧ Below w.heap.size w (wr.setCell ⟨w.heap.size, k, none⟩ (.bool true)) := fun hx =>
            ⟨m + 1, L.set k true, by omega, by go_num, hnx true (by rw [hx]; simp), hset, hb.setCell (Nat.le_refl _) _⟩
          have hrely : (decide (y < (next.length : Int)) && isB a y) = false → ∃ (m_1 : Nat) (L_1 : List Bool), m_1 ≤ row.length ∧ Value.int .i64 ((m : Int) + 1) = .int .i64 (m_1 : Int) ∧ ExAt next a k m_1 L_1 ∧ OB wr w.heap.size (.slice (some ⟨w.heap.size, 0, none⟩) next.length next.length) L_1 ∧ Below w.heap.size w wr := fun hx =>
            ⟨m + 1, L, by omega, by go_num, hsm hx, ho, hb⟩
          have Hrelx := hide hrelx
          have Hrely := hide hrely
          have His := hide his
          clear hrelx hrely his hnx hsm hset hlen hL hb
          by_cases hyn : y < (next.length : Int)
          · rw [decide_eq_true hyn, Bool.true_and] at Hrelx Hrely
            generalize isB a y = q at *
            cases q with
            | true =>
              go_wp2_with (go_at_call 28; refine His.out.mono ?_; rintro e w2 ⟨rfl, rfl⟩)
              go_roundw
              case rel => exact Hrelx.out (by simp)
              case measure => simp [intOf]; omega
            | false =>
              go_wp2_with (go_at_call 28; refine His.out.mono ?_; rintro e w2 ⟨rfl, rfl⟩)
              go_roundw
              case rel => exact Hrely.out (by simp)
              case measure => simp [intOf]; omega
          · have hd : decide (y < (next.length : Int)) = false := decide_eq_false hyn
            rw [hd, Bool.false_and] at Hrely
            clear hd
            go_wp2_with fail
            go_roundw
            case rel => exact Hrely.out (by simp)
            case measure => simp [intOf]; omega
        · obtain rfl : m = row.length := by omega
          rw [Hrw.out] at hL
          have hL2 := hL.row hlt
          have HL2 := hide hL2
          clear hL hL2
          go_wp2_with fail
          go_roundw
          case rel => exact ⟨k + 1, L, by omega, by go_num, HL2.out, ho, hb⟩
          case measure => simp [intOf]; omega
    · obtain rfl : k = next.length := by omega
      have e := hL.done
      have hlen := hL.len
      have E := hide e
      have HL := hide hlen
      clear e hlen hL
      go_wp2_with fail
      go_ret
      refine ⟨w.heap.size, by rw [← E.out, HL.out]; rfl, ?_, hb⟩
      rw [← E.out, HL.out]; exact ho

end Go.Proofs.Ytcdeidedcbnhaaa
