import Derived.Test.YtoepogdkagmphaaTextSpec
import Derived.Test.YtoepogdkagmphaaMem
import Derived.Test.YtoepogdkagmphaaLaw
import Derived.WalkSpells
import Derived.WalkLawsBesides
import Derived.Handy
import Derived.Lib.OthersKept
import Derived.Deep.DeepCutAuto
import Derived.Deep.CutBlock
import Derived.Maps.AppendAt
set_option linter.unusedVariables false
set_option linter.unusedSimpArgs false
namespace Go.Proofs.Ytoepogdkagmphaa
open Go.RowKit

set_option maxHeartbeats 400000 in
theorem next_any (l c : Nat) (r : Int) (w : World) (hl : l ≤ 4294967296) (hc : c ≤ 4294967296) :
    Calls Try.prog 22 #[.agg #[.int .i64 l, .int .i64 c], .int .i32 r] w fun e w' =>
      e = .returned (.agg #[.int .i64 ((lcNext r (l, c)).1 : Nat), .int .i64 ((lcNext r (l, c)).2 : Nat)]) ∧ Below w.heap.size w w' := by
  by_cases h : r = 10
  · go_enter Try.func22, Try.ntmps22
    go_wp2
    go_returns
    exact ⟨by simp [lcNext, h], by go_grown⟩
  · have h' : (r == 10) = false := by simpa using h
    go_enter Try.func22, Try.ntmps22
    go_wp2
    go_returns
    exact ⟨by simp [lcNext, h], by go_grown⟩

theorem runeInfo : (Try.prog.info? 35).map (fun i => (i.zero, i.size, i.bytes)) = some (some (.agg #[.int .i32 0, .int .i64 0, .int .i64 0, .int .i64 0, .int .i64 0]), 5, 40) := by kernel_rfl

set_option maxHeartbeats 400000 in
theorem runes_any (s : ByteArray) (most : Int) (w : World) (hs : s.size ≤ 4294967296) (h0 : 0 ≤ most) (hm : most ≤ 4294967296) :
    Calls Try.prog 20 #[.string s, .int .i64 most] w fun e w' => ∃ v n, e = .returned v ∧
      w'.ownsRow w.heap.size 35 5 v n (cellsOf .i32 (((raw s).take most.toNat).map Ru.fix)) ∧ Below w.heap.size w w' := by
  obtain ⟨i0, hi0, hz0, hz1, hz2⟩ := info_parts runeInfo
  go_enter Try.func20, Try.ntmps20
  go_upto_block 0 with (fail)
  go_cut [5] (fun v wx => ∃ L, L = (raw s).take most.toNat ∧ wx.ownsRow (w.heap.size + 2) 35 5 v L.length (cellsOf .i32 L) ∧ Below w.heap.size w wx)
  case first =>
    go_wp2
    go_loopw [5] (fun v wr => ∃ pos lc pre, pos ≤ s.size ∧ pre ++ rest s pos lc = raw s ∧ (∀ q x, pre = q ++ [x] → x.t = pos) ∧ (pre.length : Int) ≤ most ∧ pre.length ≤ pos ∧ lc.1 ≤ pos + 1 ∧ lc.2 ≤ pos + 1 ∧
        Blk wr w.heap.size 33 #[.int .i64 (lc.1 : Int), .int .i64 (lc.2 : Int)] ∧ wr.heap[w.heap.size + 1]? = some (.stringIter s pos) ∧
        wr.ownsRow (w.heap.size + 2) 35 5 v pre.length (cellsOf .i32 (openEnd pre s.size)) ∧ Below w.heap.size w wr)
      (fun v wr => s.size - wr.iterPos (w.heap.size + 1))
    case atStart =>
      exact ⟨0, (1, 1), [], Nat.zero_le _, rfl, fun q x h => by simp at h, by simpa using h0, Nat.le_refl _, by omega, by omega, (Blk.new w _ _).alloc _, by simpa using World.iter_heap (w.alloc _) s 0,
        World.ownsRow_nil _ _ _ _, ((Below.refl _ _).alloc (Nat.le_refl _) _).alloc (by simp) _⟩
    case round =>
      obtain ⟨pos, lc, pre, hpos, hraw, hlast, hlm, hlp, hl1, hl2, hat, hit, hown, hb⟩ := hrel
      by_cases hlt : pos < s.size
      · have hn := fun ty => Lib.run_next_any_at (P := Try.prog) wr (w.heap.size + 1) s pos ty hit hlt
        go_upto_region 5 with (fail)
        have hat1 := hat.iterAt (k := w.heap.size + 1) (by omega) s (pos + (Utf8.decode s pos).2)
        have hit1 := iter_heap hit (pos + (Utf8.decode s pos).2)
        have hown1 := own_iterAt hown (k := w.heap.size + 1) (by omega) s (pos + (Utf8.decode s pos).2)
        have hb1 := Lib.below_iterAt hb (k := w.heap.size + 1) (by omega) s (pos + (Utf8.decode s pos).2)
        generalize wr.iterAt (w.heap.size + 1) s (pos + (Utf8.decode s pos).2) = w1 at *
        clear hn hat hown hb
        have Hit := hide hit
        clear hit
        obtain ⟨A, cap, rfl, hcap⟩ := own_form hown1
        go_upto_if 22 with (fail)
        go_cut [5] (fun v wx => v = .slice A pre.length cap ∧ wx.ownsRow (w.heap.size + 2) 35 5 v pre.length (cellsOf .i32 pre) ∧
          Blk wx w.heap.size 33 #[.int .i64 (lc.1 : Int), .int .i64 (lc.2 : Int)] ∧ wx.heap[w.heap.size + 1]? = some (.stringIter s (pos + (Utf8.decode s pos).2)) ∧ Below w.heap.size w wx)
        case first =>
          by_cases hp : 0 < pre.length
          · obtain ⟨g, c, hv, _, hg1, hg2⟩ := own_some hown1 hp
            cases hv
            have hq : pre.length ≤ 4294967296 := by omega
            have hc := own_cell hown1 rfl (j := (pre.length - 1) * 5 + 2) (open_cell .i32 pre s.size hp)
            have hf := hown1.frozenAt ((pre.length - 1) * 5 + 2)
            go_wp2
            go_meet
            case rel =>
              obtain ⟨ho, hgr⟩ := hown1.stored ((pre.length - 1) * 5 + 2) (.int .i64 (pos : Int))
              rw [open_set _ _ _ _ hp, openEnd_self _ pos hlast] at ho
              refine ⟨by simp, ho, hat1.far (by show _ ≠ g; omega) _, iter_far hit1 (by show _ ≠ g; omega) _, hb1.setCell (by show _ ≤ g; omega) _⟩
          · go_wp2
            go_meet
            case rel =>
              obtain rfl : pre = [] := List.eq_nil_of_length_eq_zero (by omega)
              exact ⟨rfl, hown1, hat1, hit1, hb1⟩
        case rest =>
          obtain ⟨rfl, hown2, hat2, hit2, hb2⟩ := hcut
          clear hat1 hit1 hown1 hb1
          by_cases hmm : (pre.length : Int) = most
          · have hmb : ((pre.length : Int) == most) = true := by simpa using hmm
            go_wp2
            go_meet
            case rel =>
              exact ⟨pre, length_le_of s pos lc pre hraw _ (by omega), hown2, hb2⟩
          · have hmb : ((pre.length : Int) == most) = false := by simpa using hmm
            go_upto_region 10 with (fail)
            have c0 := hat2.cell 0
            have c1 := hat2.cell 1
            simp at c0 c1
            have hpl : pre.length + 1 ≤ 4294967296 := by omega
            go_wp2_with (at_builtin; refine wpList_append_own _ rfl (.tmp 33) (.tmp 40) 23 rfl (w.heap.size + 2) 35 i0 _ 5 40 Try.underlying23 hi0 hz0 hz1 hz2 rfl (by omega) _ pre.length _ rfl (hown2.alloc _) ⟨wc.heap.size, 0, none⟩ 1 1 (Ru.cells .i32 ⟨((Utf8.decode s pos).1 : Int), pos, s.size, lc.1, lc.2⟩) rfl rfl ?_ ?_ ?_ ?_ ?_ ?_)
            · exact cells_new _ _ _
            · intro u hu; simp [Ru.cells] at hu; rcases hu with rfl | rfl | rfl | rfl | rfl <;> rfl
            · unfold maxLen; omega
            · omega
            · have := hb2.size; have := iter_lt hit2; simp; omega
            intro v' w2 hown3 hg3 _
            have hat3 := (hat2.alloc (.cells (Ru.cells .i32 ⟨((Utf8.decode s pos).1 : Int), pos, s.size, lc.1, lc.2⟩).toArray 35)).grown hg3 (own_ne hown2 (by omega))
            have hit3 := iter_grown (iter_alloc hit2 (.cells (Ru.cells .i32 ⟨((Utf8.decode s pos).1 : Int), pos, s.size, lc.1, lc.2⟩).toArray 35)) hg3 (own_ne hown2 (by omega))
            have hb3 := (hb2.alloc hb2.size (.cells (Ru.cells .i32 ⟨((Utf8.decode s pos).1 : Int), pos, s.size, lc.1, lc.2⟩).toArray 35)).grown hg3 (by have := hb2.size; simp; omega) (fun g hg => by have := (hown2.lt g hg).1; omega)
            clear hg3 hown2 hat2 hit2 hb2 c0 c1
            have c0 := hat3.cell 0
            have c1 := hat3.cell 1
            simp at c0 c1
            go_wp2_with (go_at_call 22; refine (next_any lc.1 lc.2 _ _ (by omega) (by omega)).mono ?_; rintro e w3 ⟨rfl, hb4⟩; have hat4 := hat3.below hb4 hat3.lt; have d0 := hat4.cell 0; have d1 := hat4.cell 1; simp at d0 d1; have f0 := hat4.frozen 0; have f1 := hat4.frozen 1)
            go_roundw
            case rel =>
              have hdi := decode_in s pos hlt
              have hdl := decode_len s pos
              have hown4 := own_below' hown3 hb4
              refine ⟨pos + (Utf8.decode s pos).2, lcNext ((Utf8.decode s pos).1 : Int) lc, pre ++ [⟨((Utf8.decode s pos).1 : Int), pos, pos + (Utf8.decode s pos).2, lc.1, lc.2⟩], hdi, ?_, ?_, ?_, ?_, ?_, ?_, ?_, ?_, ?_, ?_⟩
              · rw [← hraw, rest_step s pos lc hlt]; simp
              · intro q x h
                have := List.append_inj_right' h rfl
                simp at this
                rw [← this]
              · simp; omega
              · simp; omega
              · unfold lcNext; split <;> simp <;> omega
              · unfold lcNext; split <;> simp <;> omega
              · have := (hat4.set_ 0 (.int .i64 ((lcNext ((Utf8.decode s pos).1 : Int) lc).1 : Int))).set_ 1 (.int .i64 ((lcNext ((Utf8.decode s pos).1 : Int) lc).2 : Int))
                simpa using this
              · have hk := iter_below hit3 hb4 (iter_lt hit3)
                exact iter_far (iter_far hk (by show _ ≠ w.heap.size; omega) _) (by show _ ≠ w.heap.size; omega) _
              · rw [openEnd_snoc, cellsOf_append, cellsOf_one]
                simp only [List.length_append, List.length_cons, List.length_nil, Nat.zero_add]
                exact own_far (own_far hown4 (by show w.heap.size < _; omega) _) (by show w.heap.size < _; omega) _
              · exact ((hb3.trans (hb4.mono hb3.size)).setCell (Nat.le_refl _) _).setCell (Nat.le_refl _) _
            case measure =>
              have hdl := decode_len s pos
              have hk := iter_below hit3 hb4 (iter_lt hit3)
              have hk2 := iter_far (iter_far hk (a := ⟨w.heap.size, 0, none⟩) (by show _ ≠ w.heap.size; omega) (.int .i64 ((lcNext ((Utf8.decode s pos).1 : Int) lc).1 : Int))) (a := ⟨w.heap.size, 1, none⟩) (by show _ ≠ w.heap.size; omega) (.int .i64 ((lcNext ((Utf8.decode s pos).1 : Int) lc).2 : Int))
              rw [iter_pos Hit.out, iter_pos hk2]
              omega
      · have hn := fun ty => Lib.run_next_end_at (P := Try.prog) wr (w.heap.size + 1) s pos ty hit hlt
        go_wp2
        go_meet
        case rel =>
          rw [rest_end s pos lc hlt, List.append_nil] at hraw
          refine ⟨pre, by rw [← hraw, List.take_of_length_le (by omega)], ?_, hb⟩
          rcases nil_or_snoc pre with rfl | ⟨q, x, rfl⟩
          · exact hown
          · have := hlast q x rfl
            have e : openEnd (q ++ [x]) s.size = q ++ [x] := by rw [openEnd_snoc, show s.size = x.t by omega]
            rwa [e] at hown
  case rest =>
    obtain ⟨L, hL, hown, hb⟩ := hcut
    have hin : ∀ x ∈ L, x.f < x.t ∧ x.t ≤ s.size := fun x hx => by
      rw [hL] at hx
      have := raw_in s x (List.mem_of_mem_take hx)
      omega
    have hLl : L.length ≤ 4294967296 := by
      have := raw_length s
      rw [hL, List.length_take]; omega
    have HL := hide hL
    have Hin := hide hin
    clear hL hin
    obtain ⟨A, cap, rfl, hcap⟩ := own_form hown
    go_wp2
    go_loopw [47] (fun i wr => ∃ k : Nat, k ≤ L.length ∧ i = .int .i64 (k : Int) ∧ wr.ownsRow (w.heap.size + 2) 35 5 (.slice A L.length cap) L.length (cellsOf .i32 (fixed L k)) ∧ Below w.heap.size w wr)
      (fun i wr => L.length - (intOf i).toNat)
    case atStart => exact ⟨0, Nat.zero_le _, rfl, by rw [fixed_zero]; exact hown, hb⟩
    case round =>
      clear hown hb
      obtain ⟨k, hk, rfl, hown, hb⟩ := hrel
      by_cases hlt : k < L.length
      · obtain ⟨g, c, hv, _, hg1, hg2⟩ := own_some hown (by omega)
        cases hv
        have c0 := own_cell hown rfl (fixed_cell .i32 L k hlt 0 (by omega))
        have c1 := own_cell hown rfl (fixed_cell .i32 L k hlt 1 (by omega))
        have c2 := own_cell hown rfl (fixed_cell .i32 L k hlt 2 (by omega))
        have c3 := own_cell hown rfl (fixed_cell .i32 L k hlt 3 (by omega))
        have c4 := own_cell hown rfl (fixed_cell .i32 L k hlt 4 (by omega))
        have hx := Hin.out L[k] (List.getElem_mem hlt)
        have HS := hide (fixed_set .i32 L k hlt)
        have HK := hide (fixed_keep .i32 L k hlt)
        have HS0 := hide (fixed_cell .i32 L k hlt 0 (by omega))
        generalize L[k] = x at *
        obtain ⟨xr, xf, xt, xl, xc⟩ := x
        simp only [Ru.cells] at c0 c1 c2 c3 c4
        simp at c0 c1 c2 c3 c4 hx
        have f0 := (hown.alloc (.cells (Ru.cells .i32 ⟨xr, xf, xt, xl, xc⟩).toArray 35)).frozenAt (k * 5)
        have d0 := own_cell (hown.alloc (.cells (Ru.cells .i32 ⟨xr, xf, xt, xl, xc⟩).toArray 35)) rfl (j := k * 5) (u := .int .i32 xr) (by
          have := HS0.out; simpa [Ru.cells] using this)
        simp only [Ru.cells] at f0 d0
        by_cases hr : xr = 65533
        · by_cases ht : xt = xf + 1
          · have h1 : (xr == 65533) = true := by simpa using hr
            have h2 : ((xt : Int) - xf == 1) = true := by simp; omega
            have HP := hide (HS.out ⟨hr, ht⟩)
            clear HS HK hr ht
            go_wp2
            go_roundw
            case rel =>
              refine ⟨k + 1, by omega, by go_num, ?_, ?_⟩
              · have := (hown.stored (k * 5) (.int .i32 (-1))).1.alloc (.cells (Ru.cells .i32 ⟨xr, xf, xt, xl, xc⟩).toArray 35)
                rw [HP.out] at this
                exact this
              · have h1 := hb.setCell (p := ⟨g, k * 5, none⟩) (by show _ ≤ g; omega) (.int .i32 (-1))
                exact h1.alloc h1.size _
            case measure => simp [intOf]; omega
          · have h1 : (xr == 65533) = true := by simpa using hr
            have h2 : ((xt : Int) - xf == 1) = false := by simp; omega
            have HP := hide (HK.out (fun hh => ht hh.2))
            clear HS HK hr ht
            go_wp2
            go_roundw
            case rel =>
              refine ⟨k + 1, by omega, by go_num, ?_, ?_⟩
              · rw [HP.out]; exact hown.alloc _
              · exact hb.alloc hb.size _
            case measure => simp [intOf]; omega
        · have h1 : (xr == 65533) = false := by simpa using hr
          have HP := hide (HK.out (fun hh => hr hh.1))
          clear HS HK hr
          go_wp2
          go_roundw
          case rel =>
            refine ⟨k + 1, by omega, by go_num, ?_, ?_⟩
            · rw [HP.out]; exact hown.alloc _
            · exact hb.alloc hb.size _
          case measure => simp [intOf]; omega
      · obtain rfl : k = L.length := by omega
        go_wp2
        go_ret
        rw [fixed_all] at hown
        exact ⟨_, _, rfl, by rw [← HL.out]; exact own_base hown (by omega), hb⟩

end Go.Proofs.Ytoepogdkagmphaa
