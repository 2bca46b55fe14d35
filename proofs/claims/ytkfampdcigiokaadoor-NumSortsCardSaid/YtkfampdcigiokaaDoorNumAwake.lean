/-
  CHAPTER 3's EXAMPLE: num.Print, and awake.
-/
import Derived.Test.YtkfampdcigiokaaDoorNumRead
import Derived.Test.YtkfampdcigiokaaDoorNumGap
import Derived.Test.YtkfampdcigiokaaDoorShelf
import Derived.WalkSmall
set_option linter.unusedVariables false
set_option linter.unusedSimpArgs false
namespace Go.Proofs.YtkfampdcigiokaaDoor
open Go.RowKit

def Tab (w : World) : Prop := Lib.TabIs Tryd.prog w Tryd.powName .u64 Lib.pow10Tab
theorem grow_below (w : World) (k : Nat) (os : Array Obj) : Below w.heap.size w (Sort.grow (w.drewN k) os) :=
  ⟨rfl, rfl, rfl, by simp, fun i hi => by rw [Sort.heap_grow_old _ _ (by simpa using hi)]; rfl⟩

set_option maxHeartbeats 1000000 in
theorem print_any (n : Int) (w : World) (h : -9223372036854775808 ≤ n ∧ n ≤ 9223372036854775807) (htab : Tab w) :
    Calls Tryd.prog 11 #[.int .i64 n] w fun e w' => e = .returned (.string ⟨(Lib.itoa n).toArray⟩) ∧ Below w.heap.size w w' := by
  have hfi := Tryd.internal_strconv_FormatInt_10 n h.1 h.2 w htab
  have Hfi := hide hfi
  clear hfi
  go_enter Tryd.func11, Tryd.ntmps11
  go_wp2_with (first
    | (go_at_call 31; refine Hfi.out.mono ?_; rintro e w2 ⟨rfl, k, os, rfl⟩)
    | go_in)
  go_ret
  exact ⟨rfl, grow_below _ _ _⟩

theorem itoa_len20 : (Lib.itoa (-9223372036854775808)).length = 20 := by
  have h : (-9223372036854775808 : Int) = -((9223372036854775808 : Nat) : Int) := by decide
  rw [h, Lib.itoa_neg _ (by omega), List.length_cons, Lib.decDigits_length]
  decide +kernel

set_option maxHeartbeats 1000000 in
theorem numAwake_any (w : World) (htab : Tab w) : Calls Tryd.prog 10 #[] w fun e w' => e = .returned (.bool true) ∧ Below w.heap.size w w' := by
  have hr := numRead_any ⟨#[45, 57, 50, 50, 51, 51, 55, 50, 48, 51, 54, 56, 53, 52, 55, 55, 53, 56, 48, 56]⟩ w (by decide)
  have hrv : readL (byL ⟨#[45, 57, 50, 50, 51, 51, 55, 50, 48, 51, 54, 56, 53, 52, 55, 55, 53, 56, 48, 56]⟩) = (-9223372036854775808, 0) := by decide +kernel
  rw [hrv] at hr
  have hg1 := gap_any 2 9 100 w (by omega) (by omega) (by omega)
  have hg2 := gap_any 9 2 100 w (by omega) (by omega) (by omega)
  rw [show gapP 2 9 100 = 6 from by decide] at hg1
  rw [show gapP 9 2 100 = 0 from by decide] at hg2
  have hp := print_any (-9223372036854775808) w (by omega) htab
  have hsz : (⟨(Lib.itoa (-9223372036854775808)).toArray⟩ : ByteArray).size = 20 := by
    show (Lib.itoa (-9223372036854775808)).toArray.size = 20
    rw [List.size_toArray]; exact itoa_len20
  generalize (⟨(Lib.itoa (-9223372036854775808)).toArray⟩ : ByteArray) = S at *
  have Hr := hide hr
  have Hg1 := hide hg1
  have Hg2 := hide hg2
  have Hp := hide hp
  clear hr hrv hg1 hg2 hp
  go_enter Tryd.func10, Tryd.ntmps10
  go_wp2_with fail
  refine Hr.out.mono ?_
  rintro e w2 ⟨rfl, rfl⟩
  clear Hr
  go_wp2_with fail
  refine Hg1.out.mono ?_
  rintro e w2 ⟨rfl, rfl⟩
  clear Hg1
  go_wp2_with fail
  refine Hg2.out.mono ?_
  rintro e w2 ⟨rfl, rfl⟩
  clear Hg2
  go_wp2_with fail
  refine Hp.out.mono ?_
  rintro e w2 ⟨rfl, hb2⟩
  clear Hp
  go_wp2_with fail
  go_ret
  exact ⟨rfl, hb2⟩
end Go.Proofs.YtkfampdcigiokaaDoor
