/-
  TextWhole: for every text the law returns true, and the text reads as it did. No condition.
-/
import Derived.Test.YtoepogdkagmphaaTextLaws
set_option linter.unusedVariables false
set_option linter.unusedSimpArgs false
namespace Go.Proofs.Ytoepogdkagmphaa
open Go.RowKit

theorem decN_ten {b0 b1 b2 b3 : Nat} {c1 c2 c3 : Bool} (h : (decN b0 b1 b2 b3 c1 c2 c3).1 = 10) : b0 = 10 ∧ (decN b0 b1 b2 b3 c1 c2 c3).2 = 1 := by
  unfold decN at h ⊢
  repeat' split at h
  all_goals simp_all
  all_goals omega
theorem decF_ten (s : ByteArray) (i : Nat) (n : Int) (h : decF s i = (10, n)) : bt s i = 10 ∧ n = 1 := by
  unfold decF fixD at h
  split at h
  · simp at h
  · rw [decode_eq] at h
    simp only [Prod.mk.injEq] at h
    have hg := bt_get s i 0
    simp at hg
    have e1 : (decN (s.get! (i + 0)).toNat (s.get! (i + 1)).toNat (s.get! (i + 2)).toNat (s.get! (i + 3)).toNat (decide (i + 1 < s.size) && (s.get! (i + 1)).toNat / 64 == 2) (decide (i + 2 < s.size) && (s.get! (i + 2)).toNat / 64 == 2) (decide (i + 3 < s.size) && (s.get! (i + 3)).toNat / 64 == 2)).1 = 10 := by omega
    have := decN_ten e1
    rw [← decode_eq, Nat.add_zero] at this
    rw [hg]
    refine ⟨by omega, ?_⟩
    rw [← h.2, ← decode_eq, this.2]; rfl

theorem lc_after {s : ByteArray} {pos n : Nat} {r : Int} (hdec : decF s pos = (r, (n : Int))) (hn : 1 ≤ n) (l c : Nat) :
    ((lcNext r (l, c)).1 = l ∧ (lcNext r (l, c)).2 = c + 1) ∨ ((lcNext r (l, c)).1 = l + 1 ∧ (lcNext r (l, c)).2 = 1 ∧ 0 < pos + n ∧ bt s (((pos + n : Nat) : Int) - 1) = 10) := by
  unfold lcNext
  by_cases h : r = 10
  · subst h
    obtain ⟨h1, h2⟩ := decF_ten s pos _ hdec
    refine .inr ⟨rfl, rfl, by omega, ?_⟩
    rw [show ((pos + n : Nat) : Int) - 1 = (pos : Int) by omega]
    exact h1
  · exact .inl (by rw [if_neg h]; exact ⟨rfl, rfl⟩)
theorem undef_not {b : Bool} : some undef ≠ some (Value.bool b) := by simp [undef]

set_option maxRecDepth 100000 in
set_option maxHeartbeats 20000000 in
theorem textWhole_law (s : ByteArray) (w : World) (hs : s.size ≤ 9223372036854775807) : Calls Try.prog 4 #[.string s] w fun e w' => e = .returned (.bool true) ∧ Below w.heap.size w w' := by
  by_cases h : s.size ≤ 16384
  · go_enter Try.func4, Try.ntmps4
    go_upto_region 4 with (go_at_call 9; refine (textRunes_any s _ (by omega)).mono ?_; rintro e w1 ⟨v, er, L, rfl, hown, hL, hb⟩)
    have hfl : (full s).length ≤ 16384 := by have := raw_length s; simp [full]; omega
    have hL' : L = full s ∧ er = 0 := by
      rcases hL with ⟨_, h2, h3⟩ | ⟨h1, _, _⟩
      · exact ⟨h2, h3⟩
      · omega
    obtain ⟨hL1, rfl⟩ := hL'
    clear hL
    have HL := hide hL1
    have hLn : L.length ≤ 16384 := by rw [hL1]; exact hfl
    clear hL1 hfl
    obtain ⟨A, cap, rfl, hcap⟩ := own_form hown
    have hgl : ∀ g, (Value.slice A L.length cap).ownBlock = some g → g < w1.heap.size := fun g hg => (hown.lt g hg).2
    have Hgl := hide hgl
    clear hgl
    go_wp2
    go_loopw [5, 7] (fun a i wr => ∃ (k pos l c pl pc : Nat), k ≤ L.length ∧ pos ≤ s.size ∧ a = .int .i64 (pos : Int) ∧ i = .int .i64 (k : Int) ∧ L.drop k = restF s pos (l, c) ∧ ((l = pl ∧ c = pc + 1) ∨ (l = pl + 1 ∧ c = 1 ∧ 0 < pos ∧ bt s ((pos : Int) - 1) = 10)) ∧
        pl ≤ pos + 1 ∧ pc ≤ pos + 1 ∧ Blk wr w1.heap.size 33 #[.int .i64 (pl : Int), .int .i64 (pc : Int)] ∧ wr.ownsRow w.heap.size 35 5 (.slice A L.length cap) L.length (cellsOf .i32 L) ∧ Below w1.heap.size w1 wr)
      (fun a i wr => L.length - (intOf i).toNat)
    case atStart =>
      refine ⟨0, 0, 1, 1, 1, 0, Nat.zero_le _, Nat.zero_le _, rfl, rfl, ?_, .inl ⟨rfl, rfl⟩, by omega, by omega, Blk.new w1 _ _, hown.alloc _, (Below.refl _ _).alloc (Nat.le_refl _) _⟩
      rw [List.drop_zero, HL.out]; rfl
    case round =>
      clear hown
      obtain ⟨k, pos, l, c, pl, pc, hk, hpos, rfl, rfl, hdrop, hlc, hpl, hpc, hp, hown, hb1⟩ := hrel
      by_cases hlt : k < L.length
      · have hps : pos < s.size := by
          rcases Nat.lt_or_ge pos s.size with h1 | h1
          · exact h1
          · rw [restF_end s pos _ (by omega)] at hdrop
            have := congrArg List.length hdrop
            simp at this; omega
        obtain ⟨r, n, hdec, hn1, hn4, hin, hr1, hr2, hstep⟩ := decF_facts s pos hps
        rw [hstep, List.drop_eq_getElem_cons hlt] at hdrop
        simp only [List.cons.injEq] at hdrop
        obtain ⟨hx, hdrop⟩ := hdrop
        obtain ⟨g, c', hv, _, hg1, hg2⟩ := own_some hown (by omega)
        cases hv
        have hgw := Hgl.out g rfl
        have at' : ∀ j, j < 5 → (cellsOf .i32 L)[k * 5 + j]? = (L[k].cells .i32)[j]? := by
          intro j hj
          have e := cells_at .i32 (L.take k) L[k] (L.drop (k + 1)) j hj
          rwa [← List.drop_eq_getElem_cons hlt, List.take_append_drop, List.length_take, Nat.min_eq_left hk] at e
        rw [hx] at at'
        have a0 := own_cell hown rfl (at' 0 (by omega))
        have a1 := own_cell hown rfl (at' 1 (by omega))
        have a2 := own_cell hown rfl (at' 2 (by omega))
        have a3 := own_cell hown rfl (at' 3 (by omega))
        have a4 := own_cell hown rfl (at' 4 (by omega))
        simp at a0 a1 a2 a3 a4
        have p0 := hp.cell 0
        have p1 := hp.cell 1
        have q0 := hp.frozen 0
        have q1 := hp.frozen 1
        simp at p0 p1
        have hplt := hp.lt
        have Hdec := hide hdec
        have Hstep := hide hstep
        have Hdrop := hide hdrop
        have Hb := hide hb
        have Hown := hide hown
        have Hp := hide hp
        have Hb1 := hide hb1
        clear hdec hstep hdrop hx at' hb hown hp hb1
        have hrel : (l + 1 = l + 1 ∧ (r = 10 → lcNext r (l, c) = (l + 1, 1)) ∧ (r ≠ 10 → lcNext r (l, c) = (l, c + 1))) := ⟨rfl, fun h => by simp [lcNext, h], fun h => by simp [lcNext, h]⟩
        have Hrel := hide hrel
        clear hrel
        have hz1 : (pos : Int) < (pos : Int) + (n : Int) := by omega
        have hz2 : (pos : Int) + (n : Int) ≤ (s.size : Int) := by omega
        have hz3 : decide ((pos : Int) + (n : Int) ≤ (pos : Int)) = false := by simp; omega
        have hz4 : decide ((s.size : Int) < (pos : Int) + (n : Int)) = false := by simp; omega
        have hz5 : ((pos : Int) != (pos : Int)) = false := by simp
        have hki : (k : Int) < (L.length : Int) := by omega
        have hset := fun (u v : Nat) => (Hp.out.set_ 0 (.int .i64 (u : Int))).set_ 1 (.int .i64 (v : Int))
        have Hset := hide hset
        clear hset
        rcases hlc with ⟨rfl, rfl⟩ | ⟨rfl, rfl, hp0, hbt⟩
        · have hl1 : ((l : Int) == (l : Int)) = true := by simp
          have hl2 : ((l : Int) != (l : Int)) = false := by simp
          have hl3 : (((pc : Int) + 1) != ((pc : Int) + 1)) = false := by simp
          simp at a3 a4
          have hpci : (pc : Int) ≤ 16400 := by omega
          go_wp2_with fail
          all_goals (try exact (undef_not ‹some undef = some (Value.bool _)›).elim)
          go_roundw
          case rel =>
            have hlc := lc_after Hdec.out hn1 (l) (pc + 1)
            have hdr := Hdrop.out
            generalize lcNext r (l, pc + 1) = lc at *
            obtain ⟨l2, c2⟩ := lc
            refine ⟨k + 1, pos + n, l2, c2, l, pc + 1, by omega, by omega, by go_num, by go_num, hdr, hlc, by omega, by omega, ?_, ?_, ?_⟩
            · have := (Hset.out (l) (pc + 1)).alloc (.cells #[.int .i32 r, .int .i64 (pos : Int), .int .i64 ((pos : Int) + (n : Int)), .int .i64 (l : Int), .int .i64 ((pc : Int) + 1 : Int)] 35)
              simpa using this
            · exact (ownsRow_setCell_other (ownsRow_setCell_other Hown.out (by simp [Value.ownBlock]; omega) _) (by simp [Value.ownBlock]; omega) _).alloc _
            · exact ((Hb1.out.setCell (Nat.le_refl _) _).setCell (Nat.le_refl _) _).alloc (by simpa using Hb1.out.size) _
          case measure => simp [intOf]; omega
        · have hbp : (s[pos - 1]'(by omega)).toNat = 10 := by
            have := bt_at s (pos - 1) (by omega)
            rw [show (((pos - 1 : Nat)) : Int) = (pos : Int) - 1 from by omega, hbt] at this
            omega
          have hidx : ∀ W : World, (Instr.index 9 (.string s) (.int .i64 ((pos : Int) - 1))).run Try.prog W = .ok (.int .u8 10) W := by
            intro W
            have h1 : 0 ≤ (pos : Int) - 1 ∧ (pos : Int) - 1 < s.size := by omega
            rw [run_index_string W 9 s .i64 _ Try.underlying9]
            rw [dif_pos h1]
            have h2 : ((pos : Int) - 1).toNat = pos - 1 := by omega
            simp only [h2, hbp]
            rfl
          clear hbp hbt
          have hll : ((pl : Int) + 1 == (pl : Int)) = false := by simp; omega
          have hlm : ((pl : Int) + 1 != (pl : Int)) = true := by simp; omega
          have hln : (((pl : Int) + 1) != ((pl : Int) + 1)) = false := by simp
          have hlo : ((1 : Int) != (1 : Int)) = false := by simp
          have hlp : ((10 : Int) != (10 : Int)) = false := by simp
          simp at a3 a4
          have hpli : (pl : Int) ≤ 16400 := by omega
          clear hll hlm hln hlo hlp
          go_wp2_with (exact (undef_not ‹some undef = some (Value.bool _)›).elim)
          all_goals (try exact (undef_not ‹some undef = some (Value.bool _)›).elim)
          go_roundw
          case rel =>
            have hlc := lc_after Hdec.out hn1 (pl + 1) (1)
            have hdr := Hdrop.out
            generalize lcNext r (pl + 1, 1) = lc at *
            obtain ⟨l2, c2⟩ := lc
            refine ⟨k + 1, pos + n, l2, c2, pl + 1, 1, by omega, by omega, by go_num, by go_num, hdr, hlc, by omega, by omega, ?_, ?_, ?_⟩
            · have := (Hset.out (pl + 1) (1)).alloc (.cells #[.int .i32 r, .int .i64 (pos : Int), .int .i64 ((pos : Int) + (n : Int)), .int .i64 ((pl : Int) + 1), .int .i64 (1 : Int)] 35)
              simpa using this
            · exact (ownsRow_setCell_other (ownsRow_setCell_other Hown.out (by simp [Value.ownBlock]; omega) _) (by simp [Value.ownBlock]; omega) _).alloc _
            · exact ((Hb1.out.setCell (Nat.le_refl _) _).setCell (Nat.le_refl _) _).alloc (by simpa using Hb1.out.size) _
          case measure => simp [intOf]; omega
      · obtain rfl : k = L.length := by omega
        have hpe : pos = s.size := by
          rcases Nat.lt_or_ge pos s.size with h1 | h1
          · obtain ⟨r, n, _, _, _, _, _, _, hstep⟩ := decF_facts s pos h1
            rw [hstep, List.drop_length] at hdrop
            simp at hdrop
          · omega
        subst hpe
        have hss : ((s.size : Int) == (s.size : Int)) = true := by simp
        have Hb := hide hb
        have Hb1 := hide hb1
        clear hdrop hlc hown hp hb hb1
        go_wp2_with (go_at_call 8; refine (awake_any _).mono ?_; rintro e w' ⟨rfl, hb3⟩)
        go_ret
        exact ⟨rfl, (Hb.out.trans (Hb1.out.mono Hb.out.size)).trans (hb3.mono (Nat.le_trans Hb.out.size Hb1.out.size))⟩
  · go_enter Try.func4, Try.ntmps4
    go_wp2_with (go_at_call 8; refine (awake_any _).mono ?_; rintro e w' ⟨rfl, hb⟩)
    go_ret
    exact ⟨rfl, hb⟩

end Go.Proofs.Ytoepogdkagmphaa
