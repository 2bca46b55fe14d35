/-
  THE WALK of path.Lasso.
-/
import Derived.Test.YtcdeidedcbnhaaaPathLasR
import Derived.Maps.OwnSet
set_option linter.unusedVariables false
set_option linter.unusedSimpArgs false
namespace Go.Proofs.Ytcdeidedcbnhaaa
open Go.RowKit

theorem intKeyed : Maps.Keyed Try.prog 3 := Maps.int_keyed Try.underlying3
theorem intZero (w : World) : (zeroValue 3).run Try.prog w = .ok (.int .i64 0) w := by kernel_rfl
/-- the map holds where each place was met -/
def MapFor (next : List (List Int)) (ever : List Bool) (x : Nat) (D : DataW Unit) (m : Nat) : Prop :=
  (∀ y : Nat, Maps.has D (.int .i64 (y : Int)) = true ↔ ∃ j, j < m ∧ lV next ever x j = y) ∧ ∀ j, j < m → D.atKey (.int .i64 ((lV next ever x j : Nat) : Int)) (.lit (.int .i64 0)) = .lit (.int .i64 (j : Int))
theorem MapFor.zero {next : List (List Int)} {ever : List Bool} {x : Nat} : MapFor next ever x (.map []) 0 := ⟨fun y => by simp [Maps.has_eq], fun j h => by omega⟩
theorem MapFor.more {next : List (List Int)} {ever : List Bool} {x : Nat} {D : DataW Unit} {m : Nat} (h : MapFor next ever x D m) (hD : Maps.IsMap D) (hf : Fresh next ever x (m + 1)) : MapFor next ever x (D.put (.int .i64 ((lV next ever x m : Nat) : Int)) (.lit (.int .i64 (m : Int)))) (m + 1) := by
  refine ⟨fun y => ?_, fun j hj => ?_⟩
  · by_cases e : y = lV next ever x m
    · subst e
      rw [Maps.has_put_same hD (by trivial)]
      exact ⟨fun _ => ⟨m, Nat.lt_succ_self _, rfl⟩, fun _ => rfl⟩
    · rw [Maps.has_put_other (fun h2 => e (by injection h2 with _ h3; omega)), h.1 y]
      refine ⟨fun ⟨j, h1, h2⟩ => ⟨j, by omega, h2⟩, fun ⟨j, h1, h2⟩ => ⟨j, ?_, h2⟩⟩
      rcases Nat.lt_or_ge j m with h3 | h3
      · exact h3
      · obtain rfl : j = m := by omega
        exact absurd h2.symm e
  · by_cases e : j = m
    · subst e
      exact Maps.atKey_put_same hD (by trivial) _ _
    · have := hf j m (by omega) (Nat.lt_succ_self _)
      rw [Maps.atKey_put_other (fun h2 => this (by injection h2 with _ h3; omega))]
      exact h.2 j (by omega)

set_option maxRecDepth 100000 in
set_option maxHeartbeats 4000000 in
theorem lasso_any (next : List (List Int)) (i : Int) (a : List Bool) (vn va : Value) (w : World) (hl : next.length ≤ 100) (hr : ∀ r ∈ next, r.length ≤ 200) (hla : a.length ≤ 9223372036854775807) (hn : RR w vn next) (ha : RB w va a) :
    Calls Try.prog 42 #[vn, .int .i64 i, va] w (LasPost next (egL next a) i w) := by
  have heg := eg_any next a vn va w hl hr hla hn ha
  obtain ⟨A, c, rfl, hc⟩ := hn.form
  obtain ⟨B, cb, rfl, hcb⟩ := ha.form
  obtain ⟨i0, hi0, hz0, hz1, hz2⟩ := info_parts intInfo
  have hE := egL_ever next a
  have hel := egL_length next a
  generalize egL next a = ever at *
  have Heg := hide heg
  have Hr := hide hr
  have HE := hide hE
  have Hel := hide hel
  clear heg hr hE hel
  cases his : isB ever i with
  | false =>
    have hres : LRes next ever i [] 0 := .inl ⟨his, rfl, rfl⟩
    have Hres := hide hres
    clear hres
    go_enter Try.func42, Try.ntmps42
    go_wp2_with (first
      | (go_at_call 36; refine Heg.out.mono ?_; intro e w1 hp1; obtain ⟨v1, rfl, q1, b1⟩ := hp1.own; have hi1 := pathIs_any ever _ i w1 (by rw [Hel.out]; omega) q1; rw [his] at hi1)
      | (go_at_call 55; refine hi1.mono ?_; rintro e w2 ⟨rfl, rfl⟩))
    go_ret3
    exact ⟨_, [], 0, by rw [his]; rfl, Hres.out, World.ownsRow_nil _ _ _ _, b1⟩
  | true =>
    obtain ⟨h0, hil⟩ := isB_lt his
    obtain ⟨x0, rfl⟩ := Int.eq_ofNat_of_zero_le h0
    have hx0 : ever.getD x0 false = true := by rw [isB_nat] at his; exact his
    have Hx0 := hide hx0
    have Hil := hide hil
    clear h0 hx0 hil
    go_enter Try.func42, Try.ntmps42
    go_wp2_with fail
    refine Heg.out.mono ?_
    intro e w1 hp1
    obtain ⟨v1, rfl, q1, b1⟩ := hp1.own
    have hi1 := pathIs_any ever _ (x0 : Int) w1 (by rw [Hel.out]; omega) q1
    rw [his] at hi1
    obtain ⟨AE, cE, rfl, hcE⟩ := q1.form
    have Hi1 := hide hi1
    have Q1 := hide q1
    have B1 := hide b1
    clear hp1 hi1 q1 b1 Heg his
    go_wp2_with fail
    refine Hi1.out.mono ?_
    rintro e w2 ⟨rfl, rfl⟩
    clear Hi1
    have hmm := run_makeMap (P := Try.prog) 66 w1
    go_wp2_with fail
    have hm0 : (w1.alloc (.map #[] 0)).ownsMap Try.prog 3 (plainElem (H := Unit) Try.prog 3) w1.heap.size 0 (.map []) := World.ownsMap_made _ _ _ _
    have hbm : Below w1.heap.size w1 (w1.alloc (.map #[] 0)) := (Below.refl _ _).alloc (Nat.le_refl _) _
    have Hm0 := hide hm0
    have Hbm := hide hbm
    clear hm0 hbm hmm
    go_loopw [11, 12] (fun vw at_ wr => ∃ (m : Nat) (D : DataW Unit), at_ = .int .i64 ((lV next ever x0 m : Nat) : Int) ∧ Fresh next ever x0 m ∧ wr.ownsRow (w1.heap.size + 1) 3 1 vw m ((lWay next ever x0 m).map (Value.int .i64)) ∧ wr.ownsMap Try.prog 3 (plainElem (H := Unit) Try.prog 3) w1.heap.size m D ∧ MapFor next ever x0 D m ∧ Below w1.heap.size w1 wr) (fun vw at_ wr => next.length + 1 - lenOf vw)
    case atStart => exact ⟨0, _, rfl, Fresh.zero, World.ownsRow_nil _ _ _ _, Hm0.out, MapFor.zero, Hbm.out⟩
    case round =>
      clear Hm0 Hbm
      obtain ⟨m, D, rfl, hfr, how, hom, hfor, hbw⟩ := hrel
      rename World => wr
      have hml := hfr.le HE.out Hx0.out
      have hyl := lV_lt HE.out Hx0.out m
      obtain ⟨Aw, cw, rfl, hcw⟩ := own_form how
      have hkey := Maps.keyOf_int_mk (P := Try.prog) (k := 3) Try.underlying3 (a := ((lV next ever x0 m : Nat) : Int)) (wf_i64_mk (by omega) (by omega))
      by_cases hseen : ∃ j, j < m ∧ lV next ever x0 j = lV next ever x0 m
      · have hh := (hfor.1 (lV next ever x0 m)).2 hseen
        obtain ⟨j, hj, hje⟩ := hseen
        have hat := hfor.2 j hj
        rw [hje] at hat
        have hfirst : First next ever x0 m j := ⟨hj, hje.symm, hfr⟩
        have Hfirst := hide hfirst
        have How := hide how
        have Hom := hide hom
        have Hbw := hide hbw
        have Hat := hide hat
        have Hh := hide hh
        have Hkey := hide hkey
        generalize lV next ever x0 m = y at *
        clear hfirst how hom hbw hat hh hkey hje hfr hfor
        go_wp2_with (at_lookup; refine wpList_lookup_own_ok_int _ rfl _ _ 66 rfl 3 3 .i64 intKeyed Try.underlying66 Try.underlying3 (intZero _) w1.heap.size m D rfl Hom.out _ _ rfl Hkey.out ?_; intro c hc hwc; rw [Hat.out] at hc; rw [Hh.out])
        go_ret3
        have hcj : c = (j : Int) := by injection hc with h1; injection h1 with _ h2; exact h2.symm
        subst hcj
        refine ⟨_, lWay next ever x0 m, (j : Int), by rw [isB_nat, Hx0.out]; rfl, .inr ⟨by rw [isB_nat, Hx0.out], m, j, Hfirst.out, rfl, rfl⟩, ?_, B1.out.trans (Hbw.out.mono B1.out.size)⟩
        rw [lWay_len]
        exact own_base How.out (Nat.le_succ_of_le B1.out.size)
      · have hh : Maps.has D (.int .i64 ((lV next ever x0 m : Nat) : Int)) = false := by
          cases h : Maps.has D (.int .i64 ((lV next ever x0 m : Nat) : Int)) with
          | false => rfl
          | true => exact absurd ((hfor.1 _).1 h) hseen
        have hfr2 := hfr.more (fun i hi h => hseen ⟨i, hi, h⟩)
        have hfor2 := hfor.more hom.isMap hfr2
        obtain ⟨y, hy⟩ : ∃ y, y = lV next ever x0 m := ⟨_, rfl⟩
        have hyv : ever.getD y false = true := by rw [hy]; exact lV_ok HE.out Hx0.out m
        obtain ⟨hyn, _⟩ := HE.out y hyv
        obtain ⟨hk1, hk2, hk3⟩ := stay_ok HE.out hyv
        have hfi := fun k h1 h2 => stay_first (next := next) (ever := ever) (x := y) (k := k) h1 h2
        have hyV : stayV next ever y = lV next ever x0 (m + 1) := by rw [hy]; rfl
        have hyK : stayK next ever y = lK next ever x0 m := by rw [hy]; rfl
        have hb0r := B1.out.trans (hbw.mono B1.out.size)
        obtain ⟨b6, o6, A6, c6, rfl, hcell60, hc6, _, hri⟩ := hn.at_ hyn
        have hcell6 := (hb0r.cell (World.block_lt_of_cell? w _ hcell60)).trans hcell60
        obtain ⟨row, hrw⟩ : ∃ row, row = next.getD y [] := ⟨_, rfl⟩
        have hrow : row.length ≤ 200 := by rw [hrw, List.getD, List.getElem?_eq_getElem hyn]; exact Hr.out _ (List.getElem_mem hyn)
        have hyi : (y : Int) < (next.length : Int) := by omega
        rw [← hrw] at hcell6 hcell60 hc6 hri hk1 hk2 hfi
        rw [← hy] at hkey hh hfor2 hyl
        rw [← hy]
        have hwfm : (Lit.int .i64 (m : Int)).wf = true := wf_i64_mk (by omega) (by omega)
        have hsz := hbw.size
        generalize stayK next ever y = K at *
        generalize stayV next ever y = V at *
        have Hcell60 := hide hcell60
        have Hk2 := hide hk2
        have Hk3 := hide hk3
        have Hfi := hide hfi
        have HyV := hide hyV
        have HyK := hide hyK
        have Hfr2 := hide hfr2
        have Hyv := hide hyv
        have How := hide how
        have Hom := hide hom
        have Hbw := hide hbw
        have Hh := hide hh
        have Hkey := hide hkey
        have Hfor2 := hide hfor2
        have Hri := hide hri
        have Hwfm := hide hwfm
        clear hcell60 hk2 hk3 hfi hyV hyK hfr2 hyv how hom hbw hh hkey hfor2 hri hb0r hrw hseen hfr hfor hwfm hy
        go_wp2_with (first
          | (at_lookup; refine wpList_lookup_own_ok_int _ rfl _ _ 66 rfl 3 3 .i64 intKeyed Try.underlying66 Try.underlying3 (intZero _) w1.heap.size m D rfl Hom.out _ _ rfl Hkey.out ?_; intro c0 hc0 hwc0; rw [Hh.out])
          | (at_mapUpdate; refine wpList_mapUpdate_own _ rfl _ _ _ 66 rfl 3 3 intKeyed Try.underlying66 _ w1.heap.size m D rfl Hom.out (by unfold maxLen; omega) _ _ _ rfl rfl Hkey.out _ [] (plainElem_int Try.underlying3 Hwfm.out) ?_; intro w2 hom2 hgr2; have hb2 : Below w1.heap.size w1 w2 := Hbw.out.grown hgr2 hsz (fun g hg => by cases hg; exact Nat.le_refl _); have how2 := How.out.kept hgr2 (.inr (own_ne How.out (Nat.lt_succ_self _)).symm); have hcell62 := ((B1.out.trans (hb2.mono B1.out.size)).cell (World.block_lt_of_cell? w _ Hcell60.out)).trans Hcell60.out))
        have Hom2 := hide hom2
        have Hb2 := hide hb2
        have How2 := hide how2
        have hri2 := Hri.out.below (B1.out.trans (hb2.mono B1.out.size))
        have hex := Q1.out.below hb2
        have Hri2 := hide hri2
        have Hex := hide hex
        have hsz2 := hb2.size
        have hlt2 := hom2.lt
        clear hom2 hb2 how2 hgr2 hri2 hex hcell62 hcell6 Hri Hom Hbw How
        go_loopw [11, 12, 44] (fun vw at_ k wy => vw = .slice Aw m cw ∧ at_ = .int .i64 (y : Int) ∧ ∃ kk : Nat, kk ≤ K ∧ k = .int .i64 (kk : Int) ∧ w2 = wy) (fun vw at_ k wy => row.length - (intOf k).toNat)
        case atStart => exact ⟨rfl, rfl, 0, Nat.zero_le _, rfl, rfl⟩
        case round =>
          obtain ⟨rfl, rfl, kk, hkK, rfl, rfl⟩ := hrel
          have hkl : kk < row.length := by omega
          obtain ⟨b9, o9, rfl, hcell9, _, _⟩ := Hri2.out.at_ hkl
          by_cases heK : kk = K
          · subst heK
            rw [Hk2.out] at hcell9
            have hi := pathIs_any ever _ (V : Int) w2 (by rw [Hel.out]; omega) Hex.out
            rw [isB_nat, Hk3.out] at hi
            have Hi := hide hi
            clear hi
            go_wp2_with (first
              | (go_at_call 55; refine Hi.out.mono ?_; rintro e w3 ⟨rfl, rfl⟩)
              | (at_builtin; refine wpList_append_own _ rfl (.tmp 52) (.tmp 54) 22 rfl (w1.heap.size + 1) 3 i0 _ 1 8 Try.underlying22 hi0 hz0 hz1 hz2 rfl (by omega) _ m _ rfl (How2.out.alloc _) ⟨w2.heap.size, 0, none⟩ 1 1 [.int .i64 (kk : Int)] rfl rfl (one_new _ _ _) (one_one _) (by unfold maxLen; omega) (by omega) (by simp; omega) ?_; intro v3 w3 hown3 hg3 _; have hom3 := (Hom2.out.alloc (.cells #[.int .i64 (kk : Int)] 3)).kept hg3 (own_ne How2.out (Nat.lt_succ_self _)); have hb3 : Below w1.heap.size w1 w3 := (Hb2.out.alloc hsz2 (.cells #[.int .i64 (kk : Int)] 3)).grown hg3 (by simp; omega) (fun g hg => by have := (World.ownsRow.lt How2.out g hg).1; omega); obtain ⟨A3, cc3, rfl, _⟩ := own_form hown3; have Hom3 := hide hom3; have Hb3 := hide hb3; have Hown3 := hide hown3; clear hom3 hb3 hown3 hg3))
            go_roundw
            case rel =>
              refine ⟨m + 1, _, by rw [← HyV.out], Hfr2.out, ?_, Hom3.out, Hfor2.out, Hb3.out⟩
              rw [lWay_snoc, List.map_append, ← HyK.out]; exact Hown3.out
            case measure => simp [lenOf]; omega
          · have hi := pathIs_any ever _ (row.getD kk 0) w2 (by rw [Hel.out]; omega) Hex.out
            rw [Hfi.out kk (by omega) hkl] at hi
            generalize row.getD kk 0 = x at *
            have Hi := hide hi
            clear hi
            go_wp2_with (go_at_call 55; refine Hi.out.mono ?_; rintro e w3 ⟨rfl, rfl⟩)
            go_roundw
            case rel => exact ⟨rfl, rfl, kk + 1, by omega, by go_num, by first | rfl | trivial⟩
            case measure => simp [intOf]; omega
end Go.Proofs.Ytcdeidedcbnhaaa
