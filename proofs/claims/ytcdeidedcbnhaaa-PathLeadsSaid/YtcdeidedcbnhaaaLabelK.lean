/-
  THE WALK of label.EG.
-/
import Derived.Test.YtcdeidedcbnhaaaLabelJ
set_option linter.unusedVariables false
set_option linter.unusedSimpArgs false
namespace Go.Proofs.Ytcdeidedcbnhaaa
open Go.RowKit

theorem GM0.row {w wx : World} {hi n : Nat} {rows : List (List Int)} {L : List Bool} {lf : List Int} (h : GM0 w hi (.slice (some ⟨w.heap.size + 2, 0, none⟩) n n) rows wx L lf) {k : Nat} (hk : k < rows.length) :
    ∃ A' c', wx.cell? ⟨w.heap.size + 2, k, none⟩ = some (.slice A' (rows.getD k []).length c') ∧ (rows.getD k []).length ≤ c' ∧ c' ≤ 9223372036854775807 ∧ (sliceR (intR .i64)).one wx (SB (w.heap.size + 2) hi) (.slice A' (rows.getD k []).length c') (rows.getD k []) := by
  have := rows_at h.rows hk
  rw [List.getD, List.getElem?_eq_getElem hk]
  simpa using this
theorem GM0.start {w w0 w1 : World} {n : Nat} {L : List Bool} {lf : List Int} {rows : List (List Int)} (ho : OB w0 w.heap.size (.slice (some ⟨w.heap.size, 0, none⟩) n n) L) (hn : n = L.length)
    (hlf : OI w0 (w.heap.size + 1) (.slice (some ⟨w.heap.size + 1, 0, none⟩) n n) lf) (hn2 : n = lf.length) (hb0 : Below w.heap.size w w0) (hor : OwnRws w1 (w.heap.size + 2) rows) (hs : w0.heap.size = w.heap.size + 2) (hb1 : Below (w.heap.size + 2) w0 w1)
    (hx : ∀ r ∈ rows, ∀ x ∈ r, -9223372036854775808 ≤ x ∧ x ≤ 9223372036854775807) (hl : rows.length ≤ 9223372036854775807) :
    GM0 w w1.heap.size (.slice (some ⟨w.heap.size + 2, 0, none⟩) rows.length rows.length) rows w1 L lf := by
  have h1 : OB w0 w.heap.size (.slice (some ⟨w.heap.size, 0, none⟩) L.length L.length) L := by rw [← hn]; exact ho
  have h2 : OI w0 (w.heap.size + 1) (.slice (some ⟨w.heap.size + 1, 0, none⟩) lf.length lf.length) lf := by rw [← hn2]; exact hlf
  rw [← hs] at hb1
  exact ⟨by have := hb1.size; omega, Nat.le_refl _, own_below' h1 hb1, own_below' h2 hb1, hor.read hx hl, hb0.trans (hb1.mono (by omega))⟩
/-- the head of the worklist's loop -/
def HeadG (next : List (List Int)) (a : List Bool) (o : Bool) (x : Int) (L : List Bool) (W lf : List Int) : Prop := (o = false ∧ W = [] ∧ GU next a noQ noX L [] lf) ∨ (o = true ∧ GU next a noQ noX L (W ++ [x]) lf)

set_option maxRecDepth 100000 in
set_option maxHeartbeats 8000000 in
theorem eg_any (next : List (List Int)) (a : List Bool) (vn va : Value) (w : World) (hl : next.length ≤ 100) (hr : ∀ r ∈ next, r.length ≤ 200) (hla : a.length ≤ 9223372036854775807) (hn : RR w vn next) (ha : RB w va a) :
    Calls Try.prog 36 #[vn, va] w (SetPost (egL next a) w) := by
  obtain ⟨A, c, rfl, hc⟩ := hn.form
  obtain ⟨B, cb, rfl, hcb⟩ := ha.form
  have hmk := run_make_row' (P := Try.prog) 32 4 (.bool false) 1 Try.underlying32 boolInfo rfl .i64 .i64 next.length (by omega) (by omega)
  have hmk2 := run_make_row' (P := Try.prog) 22 3 (.int .i64 0) 8 Try.underlying22 intInfo rfl .i64 .i64 next.length (by omega) (by omega)
  have hb0 := ((Below.refl w.heap.size w).alloc (Nat.le_refl _) (.cells (madeCells #[.bool false] next.length) 4)).alloc (by simp) (.cells (madeCells #[.int .i64 0] next.length) 3)
  have ho := (OB.made w next.length (by omega)).below ((Below.refl _ _).alloc (Nat.le_refl _) (.cells (madeCells #[.int .i64 0] next.length) 3))
  have hlf := OI.made (w.alloc (.cells (madeCells #[.bool false] next.length) 4)) next.length (by omega)
  have hbk := back_any next _ ((w.alloc (.cells (madeCells #[.bool false] next.length) 4)).alloc (.cells (madeCells #[.int .i64 0] next.length) 3)) hl hr (hn.below hb0)
  have hsz : ((w.alloc (.cells (madeCells #[.bool false] next.length) 4)).alloc (.cells (madeCells #[.int .i64 0] next.length) 3)).heap.size = w.heap.size + 2 := by simp
  rw [hsz] at hbk
  rw [Go.Deep.nblk_alloc] at hlf
  have Hbk := hide hbk
  have Ho := hide ho
  have Hlf := hide hlf
  have Hb0 := hide hb0
  have Hsz := hide hsz
  have Hr := hide hr
  clear hbk ho hlf hb0 hsz hr
  go_enter Try.func36, Try.ntmps36
  go_wp2_with (go_at_call 51; refine Hbk.out.mono ?_; rintro e w1 ⟨rfl, rows, hrows, hor, hb1⟩)
  have hrl : rows.length = next.length := hrows.len
  have hst := GM0.start Ho.out (by simp) Hlf.out (by simp) Hb0.out hor Hsz.out hb1 (rows_ok hrows hl) (by omega)
  rw [hrl] at hst
  have hrl2 : next.length ≤ rows.length := by omega
  have Hst := hide hst
  have Hrows := hide hrows
  have Hrl := hide hrl
  have hgs : w.heap.size + 2 ≤ w1.heap.size := hst.hi1
  clear hst hrows hor hb1 hrl Ho Hlf Hb0 Hbk Hsz hmk hmk2
  go_loopw [29] (fun i wx => ∃ (k : Nat) (L : List Bool) (s : Bool), k ≤ next.length ∧ i = .int .i64 (k : Int) ∧ UAt (List.replicate next.length false) (itG next a 0) k L s ∧ GM0 w w1.heap.size (.slice (some ⟨w.heap.size + 2, 0, none⟩) next.length next.length) rows wx L (List.replicate next.length 0) ∧ wx.heap.size = w1.heap.size) (fun i wx => next.length - (intOf i).toNat)
  case atStart => exact ⟨0, _, true, Nat.zero_le _, rfl, UAt.start _ _ (by rw [itG_length, List.length_replicate]), Hst.out, rfl⟩
  case round =>
    clear Hst
    obtain ⟨k, L, sx, hk, rfl, hL, hM, hws⟩ := hrel
    rename World => wx
    by_cases hlt : k < next.length
    · have h1 := labelIs_any a _ (k : Int) wx (by omega) (ha.below hM.below)
      rw [isB_nat] at h1
      have hLl := hL.len
      rw [List.length_replicate] at hLl
      have c1 := hM.out.cell (k := k) (by omega)
      have f1 := hM.out.frozen k
      have hst := hL.next (by rw [List.length_replicate]; exact hlt)
      have hg0 : (itG next a 0).getD k false = a.getD k false := by
        rw [Bool.eq_iff_iff, itG_zero]; exact ⟨fun h => h.2, fun h => ⟨hlt, h⟩⟩
      rw [hg0] at hst
      have hrel : ∀ v, v = a.getD k false → ∃ (k_1 : Nat) (L_1 : List Bool) (s_1 : Bool), k_1 ≤ next.length ∧ Value.int .i64 ((k : Int) + 1) = .int .i64 (k_1 : Int) ∧ UAt (List.replicate next.length false) (itG next a 0) k_1 L_1 s_1 ∧ GM0 w w1.heap.size (.slice (some ⟨w.heap.size + 2, 0, none⟩) next.length next.length) rows (wx.setCell ⟨w.heap.size, k, none⟩ (.bool v)) L_1 (List.replicate next.length 0) ∧ (wx.setCell ⟨w.heap.size, k, none⟩ (.bool v)).heap.size = w1.heap.size := by
        rintro v rfl
        exact ⟨k + 1, _, _, by omega, by go_num, hst, hM.set k _, by simpa using hws⟩
      have Hrel := hide hrel
      have H1 := hide h1
      have Hws := hide hws
      clear hrel h1 hLl hst hL hM hg0 hws
      generalize L.getD k false = y at *
      generalize a.getD k false = p at *
      go_wp2_with (go_at_call 49; refine H1.out.mono ?_; rintro e w2 ⟨rfl, rfl⟩)
      go_roundw
      case rel => exact Hrel.out _ rfl
      case measure => simp [intOf]; omega
    · obtain rfl : k = next.length := by omega
      have hLd := hL
      have e1 : (List.replicate next.length false).length = next.length := List.length_replicate
      rw [show UAt (List.replicate next.length false) (itG next a 0) next.length L sx = UAt (List.replicate next.length false) (itG next a 0) (List.replicate next.length false).length L sx from by rw [e1]] at hLd
      have hLe := hLd.done.1
      subst hLe
      clear hL hLd e1
      have hLl := itG_length next a 0
      have hss := fun lf h => GU.start (a := a) Hrows.out (lf := lf) h
      generalize itG next a 0 = L at *
      have HM := hide hM
      have Hws := hide hws
      have HLl := hide hLl
      have Hss := hide hss
      clear hM hws hLl hss
      go_wp2_with fail
      go_loopw [41] (fun i wy => ∃ (k : Nat) (lf : List Int), k ≤ next.length ∧ i = .int .i64 (k : Int) ∧ LAt next rows L k 0 lf ∧ GM0 w w1.heap.size (.slice (some ⟨w.heap.size + 2, 0, none⟩) next.length next.length) rows wy L lf ∧ wy.heap.size = w1.heap.size) (fun i wx => next.length - (intOf i).toNat)
      case atStart => exact ⟨0, _, Nat.zero_le _, rfl, LAt.start next rows L, HM.out, Hws.out⟩
      case round =>
        clear HM Hws
        obtain ⟨k, lf, hk, rfl, hA, hM, hws⟩ := hrel
        rename World => wy
        by_cases hlt : k < next.length
        · obtain ⟨A', c', hcell, hc1, hc2, hri⟩ := hM.row (k := k) (by omega)
          have hbA := fun (m : Nat) hm => back_at Hrows.out hlt (m := m) hm
          obtain ⟨row, hrw⟩ : ∃ row, row = rows.getD k [] := ⟨_, rfl⟩
          have hrowl : row.length ≤ 20000 := by rw [hrw]; have := Hrows.out.small k; omega
          rw [← hrw] at hcell hc1 hri hbA
          have HA := hide hA
          have HM := hide hM
          have Hws := hide hws
          have HbA := hide hbA
          have Hri := hide hri
          have Hrw := hide hrw
          clear hA hM hws hbA hri hrw
          go_wp2_with fail
          go_loopw [48] (fun i wz => ∃ (m : Nat) (lf : List Int), m ≤ row.length ∧ i = .int .i64 (m : Int) ∧ LAt next rows L k m lf ∧ GM0 w w1.heap.size (.slice (some ⟨w.heap.size + 2, 0, none⟩) next.length next.length) rows wz L lf ∧ wz.heap.size = w1.heap.size ∧ Kp (SB (w.heap.size + 2) w1.heap.size) wy wz) (fun i wx => row.length - (intOf i).toNat)
          case atStart => exact ⟨0, lf, Nat.zero_le _, rfl, HA.out, HM.out, Hws.out, Kp.refl _ _⟩
          case round =>
            clear HA HM Hws
            obtain ⟨m, lf, hm, rfl, hA, hM, hws, hKp⟩ := hrel
            rename World => wz
            by_cases hmlt : m < row.length
            · obtain ⟨i, hi, hin, hed⟩ := HbA.out m hmlt
              obtain ⟨b2, o2, rfl, hcell2⟩ := rowS_at (slice_keep Hri.out hKp) hmlt
              rw [hi] at hcell2
              have hlfl := hA.len
              have c1 := hM.out.cell (k := k) (by have := HLl.out; omega)
              have c2 := hM.left.cell (k := i) (by omega)
              have f2 := hM.left.frozen i
              have hsk := hA.skip (m := m)
              have had := hA.add (m := m) (q := i)
              rw [← Hrw.out] at had
              have hsm := hA.small i
              have hM2 := hM.setL i (lf.getD i 0 + 1)
              have hK2 := hKp.trans (Kp.set (S := SB (w.heap.size + 2) w1.heap.size) wz ⟨w.heap.size + 1, i, none⟩ (.int .i64 (lf.getD i 0 + 1)) (fun h => by have := h.1; simp at this <;> omega))
              have hadd := fun h => had h hmlt hi hin
              generalize lf.getD i 0 = z at *
              generalize L.getD k false = y at *
              have Hsk := hide hsk
              have Hadd := hide hadd
              have HM := hide hM
              have HM2 := hide hM2
              have HK2 := hide hK2
              have HKp := hide hKp
              have Hws := hide hws
              clear hsk hadd had hM hM2 hK2 hKp hws hi hed hA hlfl
              cases y with
              | true =>
                go_wp2_with fail
                go_roundw
                case rel => exact ⟨m + 1, _, by omega, by go_num, Hadd.out (by simp), HM2.out, by simpa using Hws.out, HK2.out⟩
                case measure => simp [intOf]; omega
              | false =>
                go_wp2_with fail
                go_roundw
                case rel => exact ⟨m + 1, _, by omega, by go_num, Hsk.out (by simp), HM.out, Hws.out, HKp.out⟩
                case measure => simp [intOf]; omega
            · obtain rfl : m = row.length := by omega
              rw [Hrw.out] at hA
              have hA2 := hA.row Hrows.out hlt (by rw [← Hrw.out]; exact hrowl)
              have HA2 := hide hA2
              have HM2 := hide hM
              have Hws2 := hide hws
              clear hA hA2 hM hws hKp
              go_wp2_with fail
              go_roundw
              case rel => exact ⟨k + 1, lf, by omega, by go_num, HA2.out, HM2.out, Hws2.out⟩
              case measure => simp [intOf]; omega
        · obtain rfl : k = next.length := by omega
          have hG := Hss.out _ hA
          rw [← hws] at hM hgs
          have hM2 := hM.later ((Below.refl wy.heap.size wy).alloc (Nat.le_refl _) (.cells #[.slice none 0 0] 58))
          have hS2 := StackAt.new wy
          have HG := hide hG
          have HM := hide hM2
          have HS := hide hS2
          clear hG hM hws hA hM2 hS2
          go_wp2_with fail
          go_loopw [66] (fun i wx => ∃ (k : Nat) (L : List Bool) (F : List Int), k ≤ next.length ∧ i = .int .i64 (k : Int) ∧ GU next a (fun j => k ≤ j) noX L F lf ∧ GM0 w wy.heap.size (.slice (some ⟨w.heap.size + 2, 0, none⟩) next.length next.length) rows wx L lf ∧ StackAt wx wy.heap.size F) (fun i wx => next.length - (intOf i).toNat)
          case atStart => exact ⟨0, L, [], Nat.zero_le _, rfl, HG.out, HM.out, HS.out⟩
          case round =>
            clear HG HM HS HLl
            obtain ⟨k, L, F, hk, rfl, hG, hM, hS⟩ := hrel
            rename World => wx
            have hLl := hG.len
            have hlfl := hG.lenF
            have hsm := hG.small
            by_cases hlt : k < next.length
            · have c1 := hM.out.cell (k := k) (by omega)
              have f1 := hM.out.frozen k
              have c2 := hM.left.cell (k := k) (by omega)
              have hbd := hG.bound hl Hr.out (fun _ => by unfold noX; omega) k
              have hpu := push_any F (k : Int) wy.heap.size (wx.setCell ⟨w.heap.size, k, none⟩ (.bool false)) (by omega) (hS.far (by simp; omega) _)
              have hM2 := hM.set k false
              have hse := hG.settle (q' := fun j => k + 1 ≤ j) k (fun j hj => by omega)
              have hta := hG.take (q' := fun j => k + 1 ≤ j) k (fun j hj => by omega)
              generalize L.getD k false = y at *
              generalize lf.getD k 0 = z at *
              have Hpu := hide hpu
              have HM := hide hM
              have HM2 := hide hM2
              have Hse := hide hse
              have Hta := hide hta
              have HS := hide hS
              clear hpu hM hM2 hse hta hS hG
              cases y with
              | false =>
                go_wp2_with fail
                go_roundw
                case rel => exact ⟨k + 1, L, F, by omega, by go_num, Hse.out (by simp), HM.out, HS.out⟩
                case measure => simp [intOf]; omega
              | true =>
                by_cases hz : z = 0
                · subst hz
                  go_wp2_with (go_at_call 52; refine Hpu.out.mono ?_; rintro e w3 ⟨rfl, hs3, hb3⟩)
                  go_roundw
                  case rel => exact ⟨k + 1, _, _, by omega, by go_num, Hta.out (by simp) (by simp), HM2.out.later hb3, hs3⟩
                  case measure => simp [intOf]; omega
                · have hzz : (z == 0) = false := by simp [hz]
                  go_wp2_with fail
                  go_roundw
                  case rel => exact ⟨k + 1, L, F, by omega, by go_num, Hse.out (by simp [hz]), HM.out, HS.out⟩
                  case measure => simp [intOf]; omega
            · obtain rfl : k = next.length := by omega
              have hG2 : GU next a noQ noX L F lf := ⟨hG.len, hG.lenF, hG.nodup, hG.inW, hG.inA, hG.sup, hG.val, fun j hj _ => hG.pos j hj (by omega), hG.small⟩
              have hpop := pop_any F wy.heap.size wx (by omega) hS
              have Hpop := hide hpop
              have HG := hide hG2
              have HM := hide hM
              clear hpop hG hG2 hM hS
              go_wp2_with (go_at_call 53; refine Hpop.out.mono ?_; rintro e w2 ⟨x, o, W, rfl, hs2, hb2, ho2⟩)
              have hM2 := HM.out.later hb2
              have hH : HeadG next a o x L W lf := by
                rcases ho2 with ⟨rfl, rfl, rfl⟩ | ⟨rfl, rfl⟩
                · exact .inl ⟨rfl, rfl, HG.out⟩
                · exact .inr ⟨rfl, HG.out⟩
              have HH := hide hH
              have HM2 := hide hM2
              have HS2 := hide hs2
              clear hs2 hb2 ho2 hH hM2 HG HM
              go_loopw [15, 16] (fun i ok wx => ∃ (x : Int) (o : Bool) (L : List Bool) (W lf : List Int), i = .int .i64 x ∧ ok = .bool o ∧ HeadG next a o x L W lf ∧ GM0 w wy.heap.size (.slice (some ⟨w.heap.size + 2, 0, none⟩) next.length next.length) rows wx L lf ∧ StackAt wx wy.heap.size W) (fun i ok wx => 2 * cnt (boolsAt wx w.heap.size next.length) + lenAt wx wy.heap.size + okOf ok)
              case atStart => exact ⟨x, o, L, W, lf, rfl, rfl, HH.out, HM2.out, HS2.out⟩
              case round =>
                clear HH HM2 HS2 hlfl hLl hsm
                obtain ⟨x, o, L, W, lf, rfl, rfl, hH, hM, hS⟩ := hrel
                rename World => wp
                rcases hH with ⟨rfl, rfl, hW⟩ | ⟨rfl, hW⟩
                · have hd := hW.done
                  have Hd := hide hd
                  have HM := hide hM
                  clear hd hM hW hS
                  go_wp2_with fail
                  go_ret
                  refine ⟨w.heap.size, by rw [egL_length]; rfl, ?_, HM.out.below⟩
                  rw [← Hd.out]; exact HM.out.out
                · have hLl := hW.len
                  have hsm := hW.small
                  obtain ⟨k0, rfl, hk0, hW2⟩ := hW.pop Hrows.out
                  obtain ⟨A', c', hcell, hc1, hc2, hri⟩ := hM.row (k := k0) (by omega)
                  have hbA := fun (m : Nat) hm => back_at Hrows.out hk0 (m := m) hm
                  obtain ⟨row, hrw⟩ : ∃ row, row = rows.getD k0 [] := ⟨_, rfl⟩
                  have hrowl : row.length ≤ 20000 := by rw [hrw]; have := Hrows.out.small k0; omega
                  rw [← hrw] at hcell hc1 hri hW2 hbA
                  have e1 : boolsAt wp w.heap.size next.length = L := boolsAt_of (by have := hM.out; rw [hLl] at this; exact this) hLl.symm
                  have e2 : lenAt wp wy.heap.size = W.length := lenAt_of hS
                  obtain ⟨M0, hM0⟩ : ∃ M0, M0 = 2 * cnt L + W.length := ⟨_, rfl⟩
                  have HE1 := hide e1
                  have HE2 := hide e2
                  have HM0 := hide hM0
                  have HbA := hide hbA
                  have HW2 := hide hW2
                  have HM := hide hM
                  have HS := hide hS
                  have Hri := hide hri
                  clear e1 e2 hM0 hbA hW2 hM hS hri hrw hW hsm hLl
                  go_wp2_with fail
                  go_loopw [100] (fun j wx => ∃ (m : Nat) (L : List Bool) (F lf : List Int), m ≤ row.length ∧ j = .int .i64 (m : Int) ∧ GU next a noQ (fun k => (row.drop m).count (k : Int)) L F lf ∧ 2 * cnt L + F.length ≤ M0 ∧ GM0 w wy.heap.size (.slice (some ⟨w.heap.size + 2, 0, none⟩) next.length next.length) rows wx L lf ∧ StackAt wx wy.heap.size F ∧ Kp (SB (w.heap.size + 2) wy.heap.size) wp wx) (fun j wx => row.length - (intOf j).toNat)
                  case atStart => exact ⟨0, L, W, lf, Nat.zero_le _, rfl, HW2.out, by rw [HM0.out]; exact Nat.le_refl _, HM.out, HS.out, Kp.refl _ _⟩
                  case round =>
                    obtain ⟨m, L2, F, lf2, hm, rfl, hW, hmea, hM, hS, hKp⟩ := hrel
                    rename World => wq
                    have hLl := hW.len
                    have hlfl := hW.lenF
                    have hsm := hW.small
                    by_cases hlt : m < row.length
                    · obtain ⟨k, hi, hin, hed⟩ := HbA.out m hlt
                      obtain ⟨b2, o2, rfl, hcell2⟩ := rowS_at (slice_keep Hri.out hKp) hlt
                      rw [hi] at hcell2
                      have hbd := hW.bound hl Hr.out (fun k => Nat.le_trans List.count_le_length (by simp; omega)) k
                      have hdec := hW.dec hlt hi hin
                      have hse := hdec.settle (q' := noQ) k (fun j hj => .inl hj)
                      have hta := hdec.take (q' := noQ) k (fun j hj => .inl hj)
                      have hM1 := hM.setL k (lf2.getD k 0 - 1)
                      have hK1 := hKp.trans (Kp.set (S := SB (w.heap.size + 2) wy.heap.size) wq ⟨w.heap.size + 1, k, none⟩ (.int .i64 (lf2.getD k 0 - 1)) (fun h => by have := h.1; simp at this <;> omega))
                      have hS1 := hS.far (p := ⟨w.heap.size + 1, k, none⟩) (by simp; omega) (.int .i64 (lf2.getD k 0 - 1))
                      have hgk : (lf2.set k (lf2.getD k 0 - 1)).getD k 0 = lf2.getD k 0 - 1 := by rw [iget_set _ _ _ (by omega), if_pos rfl]
                      have c1 := hM.left.cell (k := k) (by omega)
                      have f1 := hM.left.frozen k
                      have c2 := hM1.left.cell (k := k) (by rw [List.length_set]; omega)
                      have c3 := hM1.out.cell (k := k) (by omega)
                      have f3 := hM1.out.frozen k
                      rw [hgk] at hse hta c2
                      have hM2 := hM1.set k false
                      have hK2 := hK1.trans (Kp.set (S := SB (w.heap.size + 2) wy.heap.size) _ ⟨w.heap.size, k, none⟩ (.bool false) (fun h => by have := h.1; simp at this <;> omega))
                      have hS2 := hS1.far (p := ⟨w.heap.size, k, none⟩) (by simp; omega) (.bool false)
                      have hpu := push_any F (k : Int) wy.heap.size _ (by omega) hS2
                      have hcs := fun h => cnt_unset L2 k (by omega) h
                      generalize lf2.getD k 0 = z at *
                      generalize L2.getD k false = y at *
                      have Hse := hide hse
                      have Hta := hide hta
                      have HM1 := hide hM1
                      have HK1 := hide hK1
                      have HS1 := hide hS1
                      have HM2 := hide hM2
                      have HK2 := hide hK2
                      have Hpu := hide hpu
                      have Hcs := hide hcs
                      clear hse hta hM1 hK1 hS1 hM2 hK2 hS2 hpu hcs hdec hM hS hKp hW hgk hi hed HM HS HW2
                      cases y with
                      | false =>
                        go_wp2_with fail
                        go_roundw
                        case rel => exact ⟨m + 1, _, _, _, by omega, by go_num, Hse.out (by simp), hmea, HM1.out, HS1.out, HK1.out⟩
                        case measure => simp [intOf]; omega
                      | true =>
                        by_cases hz : z - 1 = 0
                        · have hzz : (z - 1 == 0) = true := by rw [hz]; rfl
                          have Hz := hide hz
                          clear hz
                          go_wp2_with (go_at_call 52; refine Hpu.out.mono ?_; rintro e w3 ⟨rfl, hs3, hb3⟩)
                          go_roundw
                          case rel =>
                            refine ⟨m + 1, _, _, _, by omega, by go_num, Hta.out (by simp) Hz.out, ?_, HM2.out.later hb3, hs3, HK2.out.trans (Kp.below hb3 fun b hb => hb.2)⟩
                            have := Hcs.out (by simp); simp; omega
                          case measure => simp [intOf]; omega
                        · have hzz : (z - 1 == 0) = false := by simp; omega
                          go_wp2_with fail
                          go_roundw
                          case rel => exact ⟨m + 1, _, _, _, by omega, by go_num, Hse.out (fun h => hz h.2), hmea, HM1.out, HS1.out, HK1.out⟩
                          case measure => simp [intOf]; omega
                    · have hW3 := hW.close (by omega)
                      have hpop := pop_any F wy.heap.size wq (by omega) hS
                      have Hpop := hide hpop
                      have HW3 := hide hW3
                      have HM3 := hide hM
                      have hme := hmea
                      clear hpop hW3 hM hS hW hKp HM HS HW2
                      obtain rfl : m = row.length := by omega
                      go_wp2_with (go_at_call 53; refine Hpop.out.mono ?_; rintro e w2 ⟨x2, o2, W2, rfl, hs2, hb2, ho2⟩)
                      have hM2 := HM3.out.later hb2
                      have hH : HeadG next a o2 x2 L2 W2 lf2 := by
                        rcases ho2 with ⟨rfl, rfl, rfl⟩ | ⟨rfl, rfl⟩
                        · exact .inl ⟨rfl, rfl, HW3.out⟩
                        · exact .inr ⟨rfl, HW3.out⟩
                      go_roundw
                      case rel => exact ⟨x2, o2, L2, W2, lf2, rfl, rfl, hH, hM2, hs2⟩
                      case measure =>
                        rw [HE1.out, HE2.out, boolsAt_of (L := L2) (by have := hM2.out; rw [hLl] at this; exact this) hLl.symm, lenAt_of hs2]
                        have := HM0.out
                        rcases ho2 with ⟨rfl, rfl, rfl⟩ | ⟨rfl, rfl⟩
                        · simp [okOf] at hme ⊢; omega
                        · simp [okOf] at hme ⊢; omega

end Go.Proofs.Ytcdeidedcbnhaaa
