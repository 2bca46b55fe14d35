/-
  THE WALK of label.EU.
-/
import Derived.Test.YtcdeidedcbnhaaaLabelH
set_option linter.unusedVariables false
set_option linter.unusedSimpArgs false
namespace Go.Proofs.Ytcdeidedcbnhaaa
open Go.RowKit

theorem rows_ok {next rows : List (List Int)} (h : BackAt next next.length 0 rows) (hl : next.length ≤ 100) : ∀ r ∈ rows, ∀ x ∈ r, -9223372036854775808 ≤ x ∧ x ≤ 9223372036854775807 := fun r hr x hx => by
  obtain ⟨i, rfl, hi⟩ := h.only r hr x hx
  omega

theorem EuMem.start {w w0 w1 : World} {n lo : Nat} {L : List Bool} {rows : List (List Int)} (ho : OB w0 w.heap.size (.slice (some ⟨w.heap.size, 0, none⟩) n n) L) (hn : n = L.length) (hb0 : Below w.heap.size w w0) (hor : OwnRws w1 lo rows) (hlo : w0.heap.size ≤ lo) (hlw : w.heap.size < lo) (hb1 : Below w0.heap.size w0 w1)
    (hx : ∀ r ∈ rows, ∀ x ∈ r, -9223372036854775808 ≤ x ∧ x ≤ 9223372036854775807) (hl : rows.length ≤ 9223372036854775807) :
    EuMem w lo w1.heap.size (.slice (some ⟨lo, 0, none⟩) rows.length rows.length) rows (w1.alloc (.cells #[.slice none 0 0] 58)) L [] := by
  subst hn
  have hlt : lo < w1.heap.size := by
    obtain ⟨f, h1, _⟩ := hor; exact h1.lt
  refine ⟨hlw, by omega, by simp, (ho.below hb1).below (Below.refl _ _ |>.alloc (Nat.le_refl _) _), StackAt.new _, ?_, (hb0.trans (hb1.mono hb0.size)).alloc (Nat.le_trans hb0.size hb1.size) _⟩
  exact slice_keep (hor.read hx hl) (Kp.below ((Below.refl w1.heap.size w1).alloc (Nat.le_refl _) _) fun b hb => hb.2)

theorem rowS_at {w : World} {S : Nat → Prop} {A : Option Addr} {n c : Nat} {l : List Int} (h : (sliceR (intR .i64)).one w S (.slice A n c) l) {k : Nat} (hk : k < l.length) : ∃ b o, A = some ⟨b, o, none⟩ ∧ w.cell? ⟨b, o + k, none⟩ = some (.int .i64 (l.getD k 0)) := by
  obtain ⟨b, o, rfl, hb, _⟩ := slice_some h (by omega)
  have := ints_at h hk
  rw [getD_get _ _ hk]
  exact ⟨b, o, rfl, this.1⟩
theorem EuMem.row {w wx : World} {lo gs n : Nat} {rows : List (List Int)} {L : List Bool} {F : List Int} (h : EuMem w lo gs (.slice (some ⟨lo, 0, none⟩) n n) rows wx L F) {k : Nat} (hk : k < rows.length) :
    ∃ A' c', wx.cell? ⟨lo, k, none⟩ = some (.slice A' (rows.getD k []).length c') ∧ (rows.getD k []).length ≤ c' ∧ c' ≤ 9223372036854775807 ∧ (sliceR (intR .i64)).one wx (SB lo gs) (.slice A' (rows.getD k []).length c') (rows.getD k []) := by
  have := rows_at h.rows hk
  rw [List.getD, List.getElem?_eq_getElem hk]
  simpa using this
/-- the head of the worklist's loop -/
def Head (next : List (List Int)) (a b : List Bool) (o : Bool) (x : Int) (L : List Bool) (W : List Int) : Prop := (o = false ∧ W = [] ∧ WU next a b noEx L []) ∨ (o = true ∧ WU next a b noEx L (W ++ [x]))

set_option maxHeartbeats 4000000 in
theorem eu_any (next : List (List Int)) (a b : List Bool) (vn va vb : Value) (w : World) (hl : next.length ≤ 100) (hr : ∀ r ∈ next, r.length ≤ 200) (hla : a.length ≤ 9223372036854775807) (hlb : b.length ≤ 9223372036854775807) (hn : RR w vn next) (ha : RB w va a) (hbb : RB w vb b) :
    Calls Try.prog 34 #[vn, va, vb] w (SetPost (euL next a b) w) := by
  obtain ⟨A, c, rfl, hc⟩ := hn.form
  obtain ⟨B, cb, rfl, hcb⟩ := ha.form
  obtain ⟨C, cc, rfl, hcc⟩ := hbb.form
  have hmk := run_make_row' (P := Try.prog) 32 4 (.bool false) 1 Try.underlying32 boolInfo rfl .i64 .i64 next.length (by omega) (by omega)
  have hb0 := (Below.refl w.heap.size w).alloc (Nat.le_refl _) (.cells (madeCells #[.bool false] next.length) 4)
  have ho := OB.made w next.length (by omega)
  have hbk := back_any next _ (w.alloc (.cells (madeCells #[.bool false] next.length) 4)) hl hr (hn.below hb0)
  have Hbk := hide hbk
  have Ho := hide ho
  have Hb0 := hide hb0
  clear hbk ho hb0 hr
  go_enter Try.func34, Try.ntmps34
  go_wp2_with (go_at_call 51; refine Hbk.out.mono ?_; rintro e w1 ⟨rfl, rows, hrows, hor, hb1⟩)
  have hrl : rows.length = next.length := hrows.len
  have hst := EuMem.start Ho.out (by simp) Hb0.out hor (Nat.le_refl _) (by simp) hb1 (rows_ok hrows hl) (by omega)
  rw [hrl, Go.Deep.nblk_alloc] at hst
  have hrl2 : next.length ≤ rows.length := by omega
  have Hst := hide hst
  have Hrows := hide hrows
  have Hrl := hide hrl
  have hgs : w.heap.size + 1 ≤ w1.heap.size := by simpa using hb1.size
  clear hst hrows hor hb1 hrl Ho Hb0 Hbk hmk
  go_loopw [22] (fun i wx => ∃ (k : Nat) (L : List Bool) (F : List Int), k ≤ next.length ∧ i = .int .i64 (k : Int) ∧ IU next b k L F ∧ EuMem w (w.heap.size + 1) w1.heap.size (.slice (some ⟨w.heap.size + 1, 0, none⟩) next.length next.length) rows wx L F) (fun i wx => next.length - (intOf i).toNat)
  case atStart => exact ⟨0, _, _, Nat.zero_le _, rfl, IU.start next b, Hst.out⟩
  case round =>
    clear Hst
    obtain ⟨k, L, F, hk, rfl, hI, hM⟩ := hrel
    rename World => wx
    by_cases hlt : k < next.length
    · have his := labelIs_any b _ (k : Int) wx (by omega) (hbb.below hM.below)
      rw [isB_nat] at his
      have hLl := hI.len
      have c1 := hM.out.cell (k := k) (by omega)
      have f1 := hM.out.frozen k
      have hpu := push_any F (k : Int) w1.heap.size _ (by have := hI.small; have := cnt_le L; omega) (hM.set k true).stack
      have hs1 := hI.push (F := F) hlt
      have hs0 := hI.skip (F := F) (i := k)
      generalize b.getD k false = q at *
      generalize L.getD k false = z at c1
      have His := hide his
      have Hpu := hide hpu
      have Hs1 := hide hs1
      have Hs0 := hide hs0
      have HM := hide hM
      have HLl := hide hLl
      clear his hpu hs1 hs0 hM hI hLl
      cases q with
      | true =>
        go_wp2_with (first
          | (go_at_call 49; refine His.out.mono ?_; rintro e w2 ⟨rfl, rfl⟩)
          | (go_at_call 52; refine Hpu.out.mono ?_; rintro e w3 ⟨rfl, hs3, hb3⟩))
        go_roundw
        case rel => exact ⟨k + 1, _, _, by omega, by go_num, Hs1.out (by simp), (HM.out.set k true).stacked hs3 hb3⟩
        case measure => simp [intOf]; omega
      | false =>
        go_wp2_with (go_at_call 49; refine His.out.mono ?_; rintro e w2 ⟨rfl, rfl⟩)
        go_roundw
        case rel => exact ⟨k + 1, _, _, by omega, by go_num, Hs0.out (by simp), HM.out⟩
        case measure => simp [intOf]; omega
    · obtain rfl : k = next.length := by omega
      have hW := hI.done (a := a)
      have hpop := pop_any F w1.heap.size wx (by have := hW.small; have := hW.cnt; omega) hM.stack
      have Hpop := hide hpop
      have HW := hide hW
      have HM := hide hM
      clear hpop hW hM hI
      go_wp2_with (go_at_call 53; refine Hpop.out.mono ?_; rintro e w2 ⟨x, o, W, rfl, hs2, hb2, ho2⟩)
      have hM2 := HM.out.stacked hs2 hb2
      have hH : Head next a b o x L W := by
        rcases ho2 with ⟨rfl, rfl, rfl⟩ | ⟨rfl, rfl⟩
        · exact .inl ⟨rfl, rfl, HW.out⟩
        · exact .inr ⟨rfl, HW.out⟩
      have HH := hide hH
      have HM2 := hide hM2
      clear hs2 hb2 ho2 hH hM2 HW HM
      go_loopw [11, 12] (fun i ok wx => ∃ (x : Int) (o : Bool) (L : List Bool) (W : List Int), i = .int .i64 x ∧ ok = .bool o ∧ Head next a b o x L W ∧ EuMem w (w.heap.size + 1) w1.heap.size (.slice (some ⟨w.heap.size + 1, 0, none⟩) next.length next.length) rows wx L W) (fun i ok wx => 2 * (next.length - cnt (boolsAt wx w.heap.size next.length)) + lenAt wx w1.heap.size + okOf ok)
      case atStart => exact ⟨x, o, L, W, rfl, rfl, HH.out, HM2.out⟩
      case round =>
        clear HH HM2
        obtain ⟨x, o, L, W, rfl, rfl, hH, hM⟩ := hrel
        rename World => wy
        rcases hH with ⟨rfl, rfl, hW⟩ | ⟨rfl, hW⟩
        · have hd := hW.done
          have Hd := hide hd
          have HM := hide hM
          clear hd hM hW
          go_wp2_with fail
          go_ret
          refine ⟨w.heap.size, by rw [euL_length]; rfl, ?_, HM.out.below⟩
          rw [← Hd.out]; exact HM.out.out
        · have hLl := hW.len
          have hcn := hW.cnt
          have hsm := hW.small
          obtain ⟨k0, rfl, hk0, hLk, hW2⟩ := hW.pop Hrows.out
          obtain ⟨A', c', hcell, hc1, hc2, hri⟩ := hM.row (k := k0) (by omega)
          have hbA := fun (m : Nat) hm => back_at Hrows.out hk0 (m := m) hm
          obtain ⟨row, hrw⟩ : ∃ row, row = rows.getD k0 [] := ⟨_, rfl⟩
          have hrowl : row.length ≤ 20000 := by rw [hrw]; have := Hrows.out.small k0; omega
          rw [← hrw] at hcell hc1 hri hW2 hbA
          have e1 : boolsAt wy w.heap.size next.length = L := boolsAt_of (by have := hM.out; rw [hLl] at this; exact this) hLl.symm
          have e2 : lenAt wy w1.heap.size = W.length := lenAt_of hM.stack
          obtain ⟨M0, hM0⟩ : ∃ M0, M0 = 2 * (next.length - cnt L) + W.length := ⟨_, rfl⟩
          have HE1 := hide e1
          have HE2 := hide e2
          have HM0 := hide hM0
          have HbA := hide hbA
          have HW2 := hide hW2
          have HLk := hide hLk
          have HM := hide hM
          have Hri := hide hri
          have hWs : W.length ≤ 100 := by simp at hsm; omega
          clear e1 e2 hM0 hbA hW2 hLk hM hri hrw hW hsm hcn hLl
          go_wp2_with fail
          go_loopw [48] (fun j wx => ∃ (m : Nat) (L : List Bool) (F : List Int), m ≤ row.length ∧ j = .int .i64 (m : Int) ∧ WU next a b (rowEx row k0 m) L F ∧ L.getD k0 false = true ∧ 2 * (next.length - cnt L) + F.length ≤ M0 ∧ EuMem w (w.heap.size + 1) w1.heap.size (.slice (some ⟨w.heap.size + 1, 0, none⟩) next.length next.length) rows wx L F ∧ Kp (SB (w.heap.size + 1) w1.heap.size) wy wx) (fun j wx => row.length - (intOf j).toNat)
          case atStart => exact ⟨0, L, W, Nat.zero_le _, rfl, HW2.out, HLk.out, by rw [HM0.out]; exact Nat.le_refl _, HM.out, Kp.refl _ _⟩
          case round =>
            obtain ⟨m, L2, F, hm, rfl, hW, hLk, hmea, hM, hKp⟩ := hrel
            rename World => wx
            have hLl := hW.len
            have hcn := hW.cnt
            have hsm := hW.small
            by_cases hlt : m < row.length
            · obtain ⟨i, hi, hin, hed⟩ := HbA.out m hlt
              obtain ⟨b2, o2, rfl, hcell2⟩ := rowS_at (slice_keep Hri.out hKp) hlt
              rw [hi] at hcell2
              have c1 := hM.out.cell (k := i) (by omega)
              have f1 := hM.out.frozen i
              have his := labelIs_any a _ (i : Int) wx (by omega) (ha.below hM.below)
              rw [isB_nat] at his
              have hpu := push_any F (i : Int) w1.heap.size _ (by omega) (hM.set i true).stack
              have hskip := hW.skip hlt hi
              have hpush := hW.push hlt hi hin hed hLk
              have hset : (L2.set i true).getD k0 false = true := by rw [set_getD _ _ _ (by omega)]; split; rfl; exact hLk
              have hcs := cnt_set L2 i (by omega)
              have hcl := cnt_le (L2.set i true)
              rw [List.length_set] at hcl
              have his2 := his
              generalize hz : L2.getD i false = z at *
              generalize a.getD i false = q at *
              have His := hide his
              have Hpu := hide hpu
              have Hskip := hide hskip
              have Hpush := hide hpush
              have Hset := hide hset
              have Hcs := hide hcs
              have HM3 := hide hM
              have HLk3 := hide hLk
              have HKp := hide hKp
              have Hcl := hide hcl
              clear his his2 hpu hskip hpush hset hcs hM hLk hKp hW hz hi hed hcl
              cases z with
              | true =>
                go_wp2_with fail
                go_roundw
                case rel => exact ⟨m + 1, L2, F, by omega, by go_num, Hskip.out (by simp), HLk3.out, hmea, HM3.out, HKp.out⟩
                case measure => simp [intOf]; omega
              | false =>
                cases q with
                | false =>
                  go_wp2_with (go_at_call 49; refine His.out.mono ?_; rintro e w2 ⟨rfl, rfl⟩)
                  go_roundw
                  case rel => exact ⟨m + 1, L2, F, by omega, by go_num, Hskip.out (by simp), HLk3.out, hmea, HM3.out, HKp.out⟩
                  case measure => simp [intOf]; omega
                | true =>
                  go_wp2_with (first
                    | (go_at_call 49; refine His.out.mono ?_; rintro e w2 ⟨rfl, rfl⟩)
                    | (go_at_call 52; refine Hpu.out.mono ?_; rintro e w3 ⟨rfl, hs3, hb3⟩))
                  go_roundw
                  case rel =>
                    have hM4 := (HM3.out.set i true).stacked hs3 hb3
                    refine ⟨m + 1, _, _, by omega, by go_num, Hpush.out (by simp) (by simp), Hset.out, ?_, hM4, ?_⟩
                    · have := Hcs.out (by simp); have := Hcl.out; simp; omega
                    · exact (HKp.out.trans (Kp.set _ _ _ (fun h => by have := h.1; simp at this; omega))).trans (Kp.below hb3 fun b hb => hb.2)
                  case measure => simp [intOf]; omega
            · have hW3 := hW.close (by omega)
              have hpop := pop_any F w1.heap.size wx (by omega) hM.stack
              have Hpop := hide hpop
              have HW3 := hide hW3
              have HM3 := hide hM
              have hme := hmea
              clear hpop hW3 hM hW hKp hLk
              obtain rfl : m = row.length := by omega
              go_wp2_with (go_at_call 53; refine Hpop.out.mono ?_; rintro e w2 ⟨x2, o2, W2, rfl, hs2, hb2, ho2⟩)
              have hM2 := HM3.out.stacked hs2 hb2
              have hH : Head next a b o2 x2 L2 W2 := by
                rcases ho2 with ⟨rfl, rfl, rfl⟩ | ⟨rfl, rfl⟩
                · exact .inl ⟨rfl, rfl, HW3.out⟩
                · exact .inr ⟨rfl, HW3.out⟩
              go_roundw
              case rel => exact ⟨x2, o2, L2, W2, rfl, rfl, hH, hM2⟩
              case measure =>
                rw [HE1.out, HE2.out, boolsAt_of (L := L2) (by have := hM2.out; rw [hLl] at this; exact this) hLl.symm, lenAt_of hM2.stack]
                have := HM0.out
                rcases ho2 with ⟨rfl, rfl, rfl⟩ | ⟨rfl, rfl⟩
                · simp [okOf] at hme ⊢; omega
                · simp [okOf] at hme ⊢; omega

end Go.Proofs.Ytcdeidedcbnhaaa
