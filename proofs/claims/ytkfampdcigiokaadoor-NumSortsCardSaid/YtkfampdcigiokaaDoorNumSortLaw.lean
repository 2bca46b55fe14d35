/-
  CHAPTER 3: the law NumSorts.
-/
import Derived.Test.YtkfampdcigiokaaDoorNumSortB
import Derived.Test.YtkfampdcigiokaaDoorNumSortE
import Derived.Test.YtkfampdcigiokaaDoorNumDoor
set_option linter.unusedVariables false
set_option linter.unusedSimpArgs false
namespace Go.Proofs.YtkfampdcigiokaaDoor
open Go.RowKit

set_option maxHeartbeats 2000000 in
theorem numSorts_law (l : List Int) (n : Int) (v : Value) (w : World) (htab : ∀ w' : World, Below w.heap.size w w' → Tab w') (h : LI w v l) :
    Calls Tryd.prog 7 #[v, .int .i64 n] w fun e w' => e = .returned (.bool true) ∧ Below w.heap.size w w' := by
  have h0 := h
  obtain ⟨A, c, rfl, hc, hr0⟩ := h0
  clear hr0
  have HT := hide htab
  have H := hide h
  clear htab h
  by_cases hbig : 200 < l.length
  · have e0 : decide ((200 : Int) < (l.length : Int)) = true := decide_eq_true (by omega)
    have haw := hide (numAwake_any w (HT.out w (Below.refl _ _)))
    clear hbig
    go_enter Tryd.func7, Tryd.ntmps7
    go_wp2_with fail
    refine haw.out.mono ?_
    rintro e w2 ⟨rfl, hb2⟩
    go_wp2_with fail
    go_ret
    exact ⟨rfl, hb2⟩
  · have e0 : decide ((200 : Int) < (l.length : Int)) = false := decide_eq_false (by omega)
    have h1 := numSorted_any l (.slice A l.length c) w (by omega) H.out
    rw [sortL_eq] at h1
    have hup := (sortR_up l).1
    have hmem := (sortR_up l).2 n
    have hlen := sortR_len l
    have H1 := hide h1
    have href := hide (fun w (h : LI w (.slice A l.length c) l) => refSorted_any l (.slice A l.length c) w (by omega) h)
    clear h1
    generalize sortR l = s at *
    have HUp := hide hup
    have HMem := hide hmem
    clear hup hmem
    go_enter Tryd.func7, Tryd.ntmps7
    go_wp2_with fail
    refine H1.out.mono ?_
    rintro e w1 ⟨v1, rfl, hs1, hb1⟩
    clear H1
    have HB1 := hide hb1
    have HS1 := hide hs1
    have HL1 := hide (H.out.below hb1)
    clear hb1 hs1
    go_wp2_with fail
    refine (href.out w1 HL1.out).mono ?_
    rintro e w2 ⟨v2, rfl, hs2, hb2⟩
    have HB2 := hide (HB1.out.trans (hb2.mono HB1.out.size))
    have HS2 := hide hs2
    have HS1' := hide (HS1.out.below hb2)
    have HL2 := hide (HL1.out.below hb2)
    clear hs2 hb2 HB1 HS1 HL1
    have hsame := sameL_any s s v1 v2 w2 (by omega) HS1'.out HS2.out
    rw [show decide (s = s) = true by simp] at hsame
    have Hsame := hide hsame
    clear hsame
    go_wp2_with fail
    refine Hsame.out.mono ?_
    rintro e w3 ⟨rfl, hb3⟩
    have HB3 := hide (HB2.out.trans (hb3.mono HB2.out.size))
    have HS3 := hide (HS1'.out.below hb3)
    have HL3 := hide (HL2.out.below hb3)
    clear hb3 HB2 HS2 HS1' HL2 Hsame
    have Hf := hide (find_any s n v1 w3 (by omega) HS3.out)
    go_wp2_with fail
    refine Hf.out.mono ?_
    rintro e w4 ⟨⟨r, rfl, hFd⟩, hb4⟩
    have hse := search_up s n HUp.out r hFd.le (fun h0 => hFd.lo h0 (by have := hFd.le; omega)) hFd.hi
    rw [hse.2]
    have hin : decide (n ∈ s) = decide (n ∈ l) := by simp [HMem.out]
    rw [hin]
    have HB4 := hide (HB3.out.trans (hb4.mono HB3.out.size))
    have HS4 := hide (HS3.out.below hb4)
    have HL4 := hide (HL3.out.below hb4)
    have Hcnt := hide hse.1
    have hrl := hFd.le
    clear hb4 hse hin hFd HB3 HS3 HL3 Hf
    have Hf2 := hide (find_any l n (.slice A l.length c) w4 (by omega) HL4.out)
    generalize hdd : decide (n ∈ l) = D at *
    have HD := hide hdd
    clear hdd
    go_wp2_with fail
    refine Hf2.out.mono ?_
    rintro e w5 ⟨⟨r2, rfl, hFd2⟩, hb5⟩
    have HB5 := hide (HB4.out.trans (hb5.mono HB4.out.size))
    have HS5 := hide (HS4.out.below hb5)
    have HL5 := hide (HL4.out.below hb5)
    have hr2 := hFd2.le
    generalize (decide (r2 < l.length) && (l[r2]? == some n)) = D2 at *
    clear hb5 hFd2 HB4 HS4 HL4 Hf2
    have hbe := belowL_any s n v1 w5 (by omega) HS5.out
    unfold belowN at hbe
    rw [Hcnt.out] at hbe
    have Hbe := hide hbe
    have hha := fun (w6 : World) (hb6 : Below w5.heap.size w5 w6) => hasL_any l n (.slice A l.length c) w6 (by omega) (HL5.out.below hb6)
    rw [HD.out] at hha
    have Hha := hide hha
    have Haw := hide (fun (w6 : World) (hb6 : Below w.heap.size w w6) => numAwake_any w6 (HT.out w6 hb6))
    clear hbe hha
    have e1 : ((r : Int) == (r : Int)) = true := by simp
    have e2 : (D == D) = true := by simp
    have e3 : decide ((0 : Int) ≤ (r2 : Int)) = true := decide_eq_true (by omega)
    have e4 : decide ((r2 : Int) ≤ (l.length : Int)) = true := decide_eq_true (by omega)
    go_wp2_with fail
    refine Hbe.out.mono ?_
    rintro e w6 ⟨rfl, hb6⟩
    have HB6 := hide (HB5.out.trans (hb6.mono HB5.out.size))
    have hh := Hha.out w6 hb6
    clear hb6
    go_wp2_with fail
    refine hh.mono ?_
    rintro e w7 ⟨rfl, hb7⟩
    have HB7 := hide (HB6.out.trans (hb7.mono HB6.out.size))
    clear hb7
    go_wp2_with fail
    refine (Haw.out w7 HB7.out).mono ?_
    rintro e w8 ⟨rfl, hb8⟩
    have HB8 := hide (HB7.out.trans (hb8.mono HB7.out.size))
    clear hb8
    go_wp2_with fail
    go_ret
    exact ⟨rfl, HB8.out⟩
end Go.Proofs.YtkfampdcigiokaaDoor
