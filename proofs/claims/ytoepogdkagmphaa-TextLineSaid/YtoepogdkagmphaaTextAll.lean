import Derived.Test.YtoepogdkagmphaaTextFirst
import Derived.Test.YtoepogdkagmphaaTextRunes
set_option linter.unusedVariables false
set_option linter.unusedSimpArgs false
namespace Go.Proofs.Ytoepogdkagmphaa
open Go.RowKit

theorem refInfo : (Try.prog.info? 43).map (fun i => (i.zero, i.size, i.bytes)) = some (some (.agg #[.int .i64 0, .int .i64 0, .int .i64 0, .int .i64 0, .int .i64 0]), 5, 40) := by kernel_rfl

/-- the runes from a byte on, as the document has them -/
def restF (s : ByteArray) (pos : Nat) (lc : Nat × Nat) : List Ru := (rest s pos lc).map Ru.fix
theorem decF_facts (s : ByteArray) (pos : Nat) (h : pos < s.size) : ∃ (r : Int) (n : Nat), decF s pos = (r, (n : Int)) ∧ 1 ≤ n ∧ n ≤ 4 ∧ pos + n ≤ s.size ∧ -1 ≤ r ∧ r ≤ 2147483647 ∧
    ∀ lc, restF s pos lc = ⟨r, pos, pos + n, lc.1, lc.2⟩ :: restF s (pos + n) (lcNext r lc) := by
  have hd := decode_len s pos
  have hi := decode_in s pos h
  have hr := decode_le s pos
  unfold decF fixD
  by_cases hb : (Utf8.decode s pos).1 = 65533 ∧ (Utf8.decode s pos).2 = 1
  · refine ⟨-1, 1, by rw [if_pos hb]; rfl, by omega, by omega, by omega, by omega, by omega, fun lc => ?_⟩
    unfold restF
    rw [rest_step s pos lc h, hb.1, hb.2]
    simp [Ru.fix, lcNext]
  · refine ⟨((Utf8.decode s pos).1 : Int), (Utf8.decode s pos).2, by rw [if_neg hb], hd.1, hd.2, hi, by omega, by omega, fun lc => ?_⟩
    unfold restF
    rw [rest_step s pos lc h, List.map_cons]
    have e : Ru.fix ⟨((Utf8.decode s pos).1 : Int), pos, pos + (Utf8.decode s pos).2, lc.1, lc.2⟩ = ⟨((Utf8.decode s pos).1 : Int), pos, pos + (Utf8.decode s pos).2, lc.1, lc.2⟩ := by
      unfold Ru.fix
      rw [if_neg (by simp; intro h1 h2; exact hb ⟨by omega, by omega⟩)]
    rw [e]
theorem restF_end (s : ByteArray) (pos : Nat) (lc : Nat × Nat) (h : ¬ pos < s.size) : restF s pos lc = [] := by rw [restF, rest_end s pos lc h]; rfl

theorem first_any' (s : ByteArray) (i : Nat) (w : World) (r n : Int) (hs : s.size ≤ 4294967296) (hi : i < s.size) (h : decF s i = (r, n)) :
    Calls Try.prog 25 #[.string s, .int .i64 (i : Int)] w fun e w' => e = .returned (.tuple #[.int .i64 r, .int .i64 n]) ∧ w = w' :=
  (first_any s i w hs hi).mono fun _ _ hh => by unfold FirstPost at hh; rw [h] at hh; exact hh
theorem Ru.one (k : IntKind) (x : Ru) : ∀ u ∈ x.cells k, u.oneCell' = true := by
  intro u hu
  simp [Ru.cells] at hu
  rcases hu with rfl | rfl | rfl | rfl | rfl <;> rfl

set_option maxHeartbeats 400000 in
theorem all_any (s : ByteArray) (w : World) (hs : s.size ≤ 4294967296) :
    Calls Try.prog 21 #[.string s] w fun e w' => ∃ v, e = .returned v ∧
      w'.ownsRow w.heap.size 43 5 v (full s).length (cellsOf .i64 (full s)) ∧ Below w.heap.size w w' := by
  obtain ⟨i0, hi0, hz0, hz1, hz2⟩ := info_parts refInfo
  go_enter Try.func21, Try.ntmps21
  go_wp2_with fail
  go_loopw [3, 4, 5, 6] (fun v l c i wr => ∃ pos lc pre, pos ≤ s.size ∧ l = .int .i64 ((lc.1 : Nat) : Int) ∧ c = .int .i64 ((lc.2 : Nat) : Int) ∧ i = .int .i64 ((pos : Nat) : Int) ∧ pre ++ restF s pos lc = full s ∧ pre.length ≤ pos ∧ lc.1 ≤ pos + 1 ∧ lc.2 ≤ pos + 1 ∧
        wr.ownsRow w.heap.size 43 5 v pre.length (cellsOf .i64 pre) ∧ Below w.heap.size w wr)
      (fun v l c i wr => s.size - (intOf i).toNat)
  case atStart =>
    exact ⟨0, (1, 1), [], Nat.zero_le _, rfl, rfl, rfl, rfl, Nat.le_refl _, by omega, by omega, World.ownsRow_nil _ _ _ _, Below.refl _ _⟩
  case round =>
    obtain ⟨pos, ⟨l, c⟩, pre, hpos, rfl, rfl, rfl, hraw, hlp, hl1, hl2, hown, hb⟩ := hrel
    simp only at hl1 hl2
    by_cases hlt : pos < s.size
    · obtain ⟨r, n, hdec, hn1, hn4, hin, hr1, hr2, hstep⟩ := decF_facts s pos hlt
      have hstep := hide (hstep (l, c))
      have Hdec := hide hdec
      have hpl : pre.length + 1 ≤ 4294967296 := by omega
      have hnp : pos + n ≤ 4294967296 := by omega
      obtain ⟨A, cap, rfl, hcap⟩ := own_form hown
      clear hdec
      have Hraw := hide hraw
      clear hraw
      by_cases h10 : r = 10
      · have hr : (r == 10) = true := by simpa using h10
        have H10 := hide h10
        clear h10
        go_wp2_with (first
          | (go_at_call 25; refine (first_any' s pos _ r n hs hlt Hdec.out).mono ?_; rintro e w' ⟨rfl, rfl⟩)
          | (at_builtin; refine wpList_append_own _ rfl (.tmp 19) (.tmp 29) 27 rfl w.heap.size 43 i0 _ 5 40 Try.underlying27 hi0 hz0 hz1 hz2 rfl (by omega) _ pre.length _ rfl (hown.alloc _) ⟨wr.heap.size, 0, none⟩ 1 1 (Ru.cells .i64 ⟨r, pos, pos + n, l, c⟩) rfl rfl (cells_new _ _ _) (Ru.one _ _) (by unfold maxLen; omega) (by omega) (by have := hb.size; simp; omega) ?_; intro v' w1 hown1 hg1 _))
        go_roundw
        case rel =>
          refine ⟨pos + n, (l + 1, 1), pre ++ [⟨r, pos, pos + n, l, c⟩], hin, by go_num, rfl, by go_num, ?_, by simp; omega, by simp; omega, by simp, ?_, ?_⟩
          · rw [← Hraw.out, hstep.out]; simp [lcNext, H10.out]
          · rw [cellsOf_append, cellsOf_one, List.length_append]; exact hown1
          · exact (hb.alloc hb.size _).grown hg1 (by have := hb.size; simp; omega) (fun g hg => (hown.lt g hg).1)
        case measure => simp [intOf]; omega
      · have hr : (r == 10) = false := by simpa using h10
        have H10 := hide h10
        clear h10
        go_wp2_with (first
          | (go_at_call 25; refine (first_any' s pos _ r n hs hlt Hdec.out).mono ?_; rintro e w' ⟨rfl, rfl⟩)
          | (at_builtin; refine wpList_append_own _ rfl (.tmp 19) (.tmp 29) 27 rfl w.heap.size 43 i0 _ 5 40 Try.underlying27 hi0 hz0 hz1 hz2 rfl (by omega) _ pre.length _ rfl (hown.alloc _) ⟨wr.heap.size, 0, none⟩ 1 1 (Ru.cells .i64 ⟨r, pos, pos + n, l, c⟩) rfl rfl (cells_new _ _ _) (Ru.one _ _) (by unfold maxLen; omega) (by omega) (by have := hb.size; simp; omega) ?_; intro v' w1 hown1 hg1 _))
        go_roundw
        case rel =>
          refine ⟨pos + n, (l, c + 1), pre ++ [⟨r, pos, pos + n, l, c⟩], hin, rfl, by go_num, by go_num, ?_, by simp; omega, by simp; omega, by simp; omega, ?_, ?_⟩
          · rw [← Hraw.out, hstep.out]; simp [lcNext, H10.out]
          · rw [cellsOf_append, cellsOf_one, List.length_append]; exact hown1
          · exact (hb.alloc hb.size _).grown hg1 (by have := hb.size; simp; omega) (fun g hg => (hown.lt g hg).1)
        case measure => simp [intOf]; omega
    · rw [restF_end s pos _ hlt, List.append_nil] at hraw
      subst hraw
      go_wp2_with fail
      go_ret
      exact ⟨_, rfl, hown, hb⟩

end Go.Proofs.Ytoepogdkagmphaa
