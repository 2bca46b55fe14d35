/-
  THE WALK of warderref35.Shortest.
-/
import Derived.Test.YtcdeidedcbnhaaaPathFarW
set_option linter.unusedVariables false
set_option linter.unusedSimpArgs false
namespace Go.Proofs.Ytcdeidedcbnhaaa
open Go.RowKit

def greedyL (next : List (List Int)) (far : List Int) (x D : Nat) : List Int := (List.range D).map fun j => (eAt next far x j : Int)
theorem greedy_len (next : List (List Int)) (far : List Int) (x D : Nat) : (greedyL next far x D).length = D := by simp [greedyL]
theorem greedy_snoc (next : List (List Int)) (far : List Int) (x D : Nat) : greedyL next far x (D + 1) = greedyL next far x D ++ [(eAt next far x D : Int)] := by
  unfold greedyL
  rw [List.range_succ, List.map_append]; rfl
def shortP (next : List (List Int)) (i : Int) (th tg : List Bool) : Option (List Int) :=
  if 0 ≤ i ∧ i < (next.length : Int) then (if (farL next th tg).getD i.toNat 0 < 0 then none else some (greedyL next (farL next th tg) i.toNat ((farL next th tg).getD i.toNat 0).toNat)) else none
/-- what Shortest hands back -/
def WayPost (o : Option (List Int)) (w : World) (e : Ending) (w' : World) : Prop := ∃ v, e = .returned (.tuple #[v, .bool o.isSome]) ∧ w'.ownsRow w.heap.size 3 1 v (o.getD []).length ((o.getD []).map (Value.int .i64)) ∧ Below w.heap.size w w'

theorem far_rg {next : List (List Int)} {th tg : List Bool} {far : List Int} (h : Dist next th tg far) (hl : next.length ≤ 100) : ∀ y ∈ far, -9223372036854775808 ≤ y ∧ y ≤ 9223372036854775807 := fun y hy => by
  obtain ⟨j, hj, rfl⟩ := List.getElem_of_mem hy
  have := h.lo j (by rw [← h.len]; exact hj)
  rw [getD_get _ _ hj] at this
  omega

set_option maxRecDepth 100000 in
set_option maxHeartbeats 4000000 in
theorem refShort_any (next : List (List Int)) (i : Int) (th tg : List Bool) (vn va vb : Value) (w : World) (hl : next.length ≤ 100) (hr : ∀ r ∈ next, r.length ≤ 200) (hla : th.length ≤ 9223372036854775807) (hlb : tg.length ≤ 9223372036854775807) (hn : RR w vn next) (ha : RB w va th) (hb : RB w vb tg) :
    Calls Try.prog 40 #[vn, .int .i64 i, va, vb] w (WayPost (shortP next i th tg) w) := by
  have hfa := far_any next th tg vn va vb w hl hr hla hlb hn ha hb
  obtain ⟨A, c, rfl, hc⟩ := hn.form
  obtain ⟨B, cb, rfl, hcb⟩ := ha.form
  obtain ⟨C, cc, rfl, hcc⟩ := hb.form
  obtain ⟨i0, hi0, hz0, hz1, hz2⟩ := info_parts intInfo
  have hD := farL_dist next th tg
  have hrg := far_rg hD hl
  obtain ⟨sh, hsh⟩ : ∃ sh, sh = shortP next i th tg := ⟨_, rfl⟩
  rw [← hsh]
  unfold shortP at hsh
  generalize farL next th tg = far at *
  have Hfa := hide hfa
  have Hr := hide hr
  have HD := hide hD
  have Hrg := hide hrg
  have hfl := hD.len
  clear hfa hr hD hrg
  by_cases hp : 0 ≤ i ∧ i < (next.length : Int)
  · rw [if_pos hp] at hsh
    obtain ⟨x0, rfl⟩ := Int.eq_ofNat_of_zero_le hp.1
    have hx0 : x0 < next.length := by omega
    rw [Int.toNat_natCast] at hsh
    have hxi : (x0 : Int) < (next.length : Int) := hp.2
    clear hp
    by_cases hneg : far.getD x0 0 < 0
    · rw [if_pos hneg] at hsh
      subst hsh
      obtain ⟨z, hz⟩ : ∃ z, far.getD x0 0 = z := ⟨_, rfl⟩
      rw [hz] at hneg
      have Hz := hide hz
      clear hz
      go_enter Try.func40, Try.ntmps40
      go_wp2_with (go_at_call 57; refine Hfa.out.mono ?_; rintro e w1 ⟨v1, rfl, hown1, hb1⟩; obtain ⟨gf, cf, rfl, hncf, hgf1, hgf2⟩ := own_some hown1 (by omega); have hRI := RI.own hown1 Hrg.out; obtain ⟨b4, o4, eq4, hcell4, _, _⟩ := hRI.at_ (k := x0) (by rw [hfl]; exact hx0); cases eq4; rw [Nat.zero_add, Hz.out] at hcell4)
      go_ret2
      exact ⟨_, rfl, World.ownsRow_nil _ _ _ _, hb1⟩
    · rw [if_neg hneg] at hsh
      obtain ⟨D, hDD⟩ := Int.eq_ofNat_of_zero_le (show 0 ≤ far.getD x0 0 by omega)
      rw [hDD, Int.toNat_natCast] at hsh
      have hv := vAt_ok HD.out hx0 hDD
      have Hsh := hide hsh
      have Hv := hide hv
      have HDD := hide hDD
      clear hsh hv hneg
      have hDn : D < next.length := by have := (HD.out.lo x0 hx0).2; omega
      have hq1 : decide ((x0 : Int) < 0) = false := decide_eq_false (by omega)
      have hq2 : decide (next.length ≤ x0) = false := decide_eq_false (by omega)
      have hq3 : decide ((D : Int) < 0) = false := decide_eq_false (by omega)
      go_enter Try.func40, Try.ntmps40
      go_wp2_with (go_at_call 57; refine Hfa.out.mono ?_; rintro e w1 ⟨v1, rfl, hown1, hb1⟩; obtain ⟨gf, cf, rfl, hncf, hgf1, hgf2⟩ := own_some hown1 (by omega); have hRI := RI.own hown1 Hrg.out; obtain ⟨b4, o4, eq4, hcell4, _, _⟩ := hRI.at_ (k := x0) (by rw [hfl]; exact hx0); cases eq4; rw [Nat.zero_add] at hcell4; rw [hDD] at hcell4)
      have HRI := hide hRI
      have Hb1 := hide hb1
      clear hRI hb1 hown1 Hfa hcell4 hDD
      go_loopw [11, 12] (fun u a wr => ∃ j : Nat, j ≤ D ∧ a = .int .i64 ((vAt next far x0 j : Nat) : Int) ∧ wr.ownsRow w1.heap.size 3 1 u j ((greedyL next far x0 j).map (Value.int .i64)) ∧ Below w1.heap.size w1 wr) (fun u a wr => D - lenOf u)
      case atStart => exact ⟨0, Nat.zero_le _, rfl, World.ownsRow_nil _ _ _ _, Below.refl _ _⟩
      case round =>
        obtain ⟨j, hj, rfl, hown, hbd⟩ := hrel
        rename World => wr
        obtain ⟨hvn, hvf⟩ := Hv.out j hj
        obtain ⟨y, hy⟩ : ∃ y, y = vAt next far x0 j := ⟨_, rfl⟩
        rw [← hy] at hvn hvf
        rw [← hy]
        have hb0r := Hb1.out.trans (hbd.mono Hb1.out.size)
        obtain ⟨Au, cu, rfl, hcu⟩ := own_form hown
        obtain ⟨b5, o5, eq5, hcell5, _, _⟩ := (HRI.out.below hbd).at_ (k := y) (by rw [hfl]; exact hvn)
        cases eq5
        rw [Nat.zero_add, hvf] at hcell5
        have hyi : (y : Int) < (next.length : Int) := by omega
        by_cases hjD : j < D
        · have hpos : (0 : Int) < ((D - j : Nat) : Int) := by omega
          have hupp : ((D - j : Nat) : Int) ≤ 100 := by omega
          have hq4 : decide (0 < D - j) = true := decide_eq_true (by omega)
          obtain ⟨hk1, hk2, hk3, hk4⟩ := next_ok HD.out (m := D - (j + 1)) hvn (by omega)
          have hfi := fun k h1 h2 => next_first (next := next) (far := far) (x := y) (k := k) h1 h2
          have hyv : nextV next far y = vAt next far x0 (j + 1) := by rw [hy]; rfl
          have hye : nextK next far y = eAt next far x0 j := by rw [hy]; rfl
          obtain ⟨b6, o6, A6, c6, rfl, hcell6, hc6, _, hri⟩ := (hn.below hb0r).at_ hvn
          obtain ⟨row, hrw⟩ : ∃ row, row = next.getD y [] := ⟨_, rfl⟩
          have hrow : row.length ≤ 200 := by rw [hrw, List.getD, List.getElem?_eq_getElem hvn]; exact Hr.out _ (List.getElem_mem hvn)
          rw [← hrw] at hcell6 hc6 hri hk1 hk2 hfi
          rw [hvf] at hfi
          generalize nextK next far y = K at *
          generalize nextV next far y = V at *
          have Hrw := hide hrw
          have Hk2 := hide hk2
          have Hfi := hide hfi
          have Hyv := hide hyv
          have Hye := hide hye
          have Hk4 := hide hk4
          have Hown := hide hown
          have Hbd := hide hbd
          have Hri := hide hri
          have Hvf := hide hvf
          clear hk2 hfi hyv hye hk4 hown hri hvf hrw hy
          go_wp2_with fail
          go_loopw [13, 14] (fun s k wx => ∃ kk : Nat, kk ≤ row.length ∧ k = .int .i64 (kk : Int) ∧ ((kk ≤ K ∧ s = .int .i64 (-1)) ∨ (kk = K + 1 ∧ s = .int .i64 (K : Int))) ∧ Below w1.heap.size w1 wx ∧ wx.ownsRow w1.heap.size 3 1 (.slice Au j cu) j ((greedyL next far x0 j).map (Value.int .i64))) (fun s k wx => row.length - (intOf k).toNat)
          case atStart => exact ⟨0, Nat.zero_le _, rfl, .inl ⟨Nat.zero_le _, rfl⟩, Hbd.out, Hown.out⟩
          case round =>
            clear Hown Hbd
            obtain ⟨kk, hkk, rfl, hs, hbx, hox⟩ := hrel
            rename World => wx
            have hb0x := Hb1.out.trans (hbx.mono Hb1.out.size)
            obtain ⟨b7, o7, A7, c7, eq7, hcell7, hc7, _, hri7⟩ := (hn.below hb0x).at_ hvn
            cases eq7
            have hfx := HRI.out.below hbx
            obtain ⟨b8, o8, eq8, hcell8, _, _⟩ := hfx.at_ (k := y) (by rw [hfl]; exact hvn)
            cases eq8
            rw [Nat.zero_add, Hvf.out] at hcell8
            rw [← Hrw.out] at hcell7 hc7 hri7
            have Hox := hide hox
            rcases hs with ⟨hkK, rfl⟩ | ⟨rfl, rfl⟩
            · have hkl : kk < row.length := by omega
              obtain ⟨b9, o9, rfl, hcell9, _, _⟩ := hri7.at_ hkl
              by_cases heK : kk = K
              · subst heK
                obtain ⟨ba, oa, eqa, hcella, _, _⟩ := hfx.at_ (k := V) (by rw [hfl]; exact hk3)
                cases eqa
                rw [Nat.zero_add, Hk4.out] at hcella
                rw [Hk2.out] at hcell9
                have hVi : (V : Int) < (next.length : Int) := by omega
                have heq : (((D - (j + 1) : Nat) : Int) == ((D - j : Nat) : Int) - 1) = true := by simp; omega
                generalize ((D - (j + 1) : Nat) : Int) = z1 at *
                generalize ((D - j : Nat) : Int) = z2 at *
                clear hox
                go_wp2_with fail
                go_quiet (fail)
                go_wp2_with fail
                go_roundw
                case rel => exact ⟨kk + 1, by omega, by go_num, .inr ⟨rfl, rfl⟩, below_drewN hbx _, own_below' Hox.out (below_drewN (Below.refl _ _) _)⟩
                case measure => simp [intOf]; omega
              · have hno := Hfi.out kk (by omega) hkl
                generalize row.getD kk 0 = x at *
                by_cases hx : 0 ≤ x ∧ x < (next.length : Int)
                · obtain ⟨q, rfl⟩ := Int.eq_ofNat_of_zero_le hx.1
                  have hqn : q < next.length := by omega
                  have hqi := hx.2
                  obtain ⟨ba, oa, eqa, hcella, _, _⟩ := hfx.at_ (k := q) (by rw [hfl]; exact hqn)
                  cases eqa
                  rw [Nat.zero_add] at hcella
                  have hne : ¬ far.getD q 0 = ((D - j : Nat) : Int) - 1 := fun h => by
                    have := (near_nat (next := next) (far := far)).2 ⟨hqn, h⟩
                    rw [this] at hno; simp at hno
                  have heq : (far.getD q 0 == ((D - j : Nat) : Int) - 1) = false := by rw [beq_eq_false_iff_ne]; exact hne
                  generalize far.getD q 0 = z1 at *
                  generalize ((D - j : Nat) : Int) = z2 at *
                  clear hox hno hne hx
                  go_wp2_with fail
                  go_quiet (fail)
                  go_wp2_with fail
                  go_roundw
                  case rel => exact ⟨kk + 1, by omega, by go_num, .inl ⟨by omega, rfl⟩, below_drewN hbx _, own_below' Hox.out (below_drewN (Below.refl _ _) _)⟩
                  case measure => simp [intOf]; omega
                · generalize ((D - j : Nat) : Int) = z2 at *
                  clear hno hox
                  by_cases hx0' : 0 ≤ x
                  · have hx1 : decide (x < (next.length : Int)) = false := decide_eq_false (fun h => hx ⟨hx0', h⟩)
                    have hx2 : (next.length : Int) ≤ x := by omega
                    clear hx
                    go_wp2_with fail
                    go_quiet (fail)
                    go_wp2_with fail
                    go_roundw
                    case rel => exact ⟨kk + 1, by omega, by go_num, .inl ⟨by omega, rfl⟩, below_drewN hbx _, own_below' Hox.out (below_drewN (Below.refl _ _) _)⟩
                    case measure => simp [intOf]; omega
                  · have hx1 : decide (0 ≤ x) = false := decide_eq_false hx0'
                    clear hx
                    go_wp2_with fail
                    go_quiet (fail)
                    go_wp2_with fail
                    go_roundw
                    case rel => exact ⟨kk + 1, by omega, by go_num, .inl ⟨by omega, rfl⟩, below_drewN hbx _, own_below' Hox.out (below_drewN (Below.refl _ _) _)⟩
                    case measure => simp [intOf]; omega
            · obtain ⟨b9, o9, rfl, hcell9, _, _⟩ := hri7.at_ hk1
              rw [Hk2.out] at hcell9
              have hgl := greedy_len next far x0 j
              by_cases hlast : K + 1 < row.length
              · go_wp2_with (at_builtin; refine wpList_append_own _ rfl (.tmp 82) (.tmp 84) 22 rfl w1.heap.size 3 i0 _ 1 8 Try.underlying22 hi0 hz0 hz1 hz2 rfl (by omega) _ j _ rfl (hox.alloc _) ⟨wx.heap.size, 0, none⟩ 1 1 [.int .i64 (K : Int)] rfl rfl (one_new _ _ _) (one_one _) (by unfold maxLen; omega) (by omega) (by have := hbx.size; simp; omega) ?_; intro v2 w2 hown2 hg2 _; obtain ⟨A2, cc2, rfl, _⟩ := own_form hown2; have hb2 : Below w1.heap.size w1 w2 := (hbx.alloc hbx.size (.cells #[.int .i64 (K : Int)] 3)).grown hg2 (by have := hbx.size; simp; omega) (fun g hg => (World.ownsRow.lt hox g hg).1); have hb02 := Hb1.out.trans (hb2.mono Hb1.out.size); obtain ⟨b10, o10, A10, c10, eq10, hcell10, hc10, _, hri10⟩ := (hn.below hb02).at_ hvn; cases eq10; rw [← Hrw.out] at hcell10 hc10 hri10; obtain ⟨b11, o11, rfl, hcell11, _, _⟩ := hri10.at_ hk1; rw [Hk2.out] at hcell11)
                go_roundw
                case rel =>
                  refine ⟨j + 1, by omega, by first | rw [← Hyv.out] | (simp only [← Hyv.out]), ?_, hb2⟩
                  rw [greedy_snoc, List.map_append, ← Hye.out]
                  exact hown2
                case measure => simp [lenOf]; omega
              · go_wp2_with (at_builtin; refine wpList_append_own _ rfl (.tmp 82) (.tmp 84) 22 rfl w1.heap.size 3 i0 _ 1 8 Try.underlying22 hi0 hz0 hz1 hz2 rfl (by omega) _ j _ rfl (hox.alloc _) ⟨wx.heap.size, 0, none⟩ 1 1 [.int .i64 (K : Int)] rfl rfl (one_new _ _ _) (one_one _) (by unfold maxLen; omega) (by omega) (by have := hbx.size; simp; omega) ?_; intro v2 w2 hown2 hg2 _; obtain ⟨A2, cc2, rfl, _⟩ := own_form hown2; have hb2 : Below w1.heap.size w1 w2 := (hbx.alloc hbx.size (.cells #[.int .i64 (K : Int)] 3)).grown hg2 (by have := hbx.size; simp; omega) (fun g hg => (World.ownsRow.lt hox g hg).1); have hb02 := Hb1.out.trans (hb2.mono Hb1.out.size); obtain ⟨b10, o10, A10, c10, eq10, hcell10, hc10, _, hri10⟩ := (hn.below hb02).at_ hvn; cases eq10; rw [← Hrw.out] at hcell10 hc10 hri10; obtain ⟨b11, o11, rfl, hcell11, _, _⟩ := hri10.at_ hk1; rw [Hk2.out] at hcell11)
                go_roundw
                case rel =>
                  refine ⟨j + 1, by omega, by first | rw [← Hyv.out] | (simp only [← Hyv.out]), ?_, hb2⟩
                  rw [greedy_snoc, List.map_append, ← Hye.out]
                  exact hown2
                case measure => simp [lenOf]; omega
        · obtain rfl : j = D := by omega
          have hz : ((j - j : Nat) : Int) = 0 := by omega
          rw [hz] at hcell5
          have Hown := hide hown
          clear hown hz hvf hy
          go_wp2_with fail
          go_ret2
          refine ⟨_, by rw [Hsh.out]; rfl, ?_, hb0r⟩
          rw [Hsh.out, Option.getD_some, greedy_len]
          exact own_base Hown.out Hb1.out.size
  · rw [if_neg hp] at hsh
    subst hsh
    by_cases h0 : 0 ≤ i
    · have h1 : (next.length : Int) ≤ i := by omega
      clear hp
      go_enter Try.func40, Try.ntmps40
      go_wp2_with (go_at_call 57; refine Hfa.out.mono ?_; rintro e w1 ⟨v1, rfl, hown1, hb1⟩; obtain ⟨Af, cf, rfl, hncf⟩ := own_form hown1)
      go_ret2
      exact ⟨_, rfl, World.ownsRow_nil _ _ _ _, hb1⟩
    · have h1 : i < 0 := by omega
      clear hp h0
      go_enter Try.func40, Try.ntmps40
      go_wp2_with (go_at_call 57; refine Hfa.out.mono ?_; rintro e w1 ⟨v1, rfl, hown1, hb1⟩; obtain ⟨Af, cf, rfl, hncf⟩ := own_form hown1)
      go_ret2
      exact ⟨_, rfl, World.ownsRow_nil _ _ _ _, hb1⟩

end Go.Proofs.Ytcdeidedcbnhaaa
