/-
  THE WALK of warderref35.Lasso.
-/
import Derived.Test.YtcdeidedcbnhaaaPathLas
import Derived.Test.YtcdeidedcbnhaaaPathSm
import Derived.Test.YtcdeidedcbnhaaaLabelK
import Derived.Test.YtcdeidedcbnhaaaLabelLaws
set_option linter.unusedVariables false
set_option linter.unusedSimpArgs false
namespace Go.Proofs.Ytcdeidedcbnhaaa
open Go.RowKit

def Apart (a b : Value) : Prop := ∀ g, a.ownBlock = some g → b.ownBlock ≠ some g
theorem Apart.symm {a b : Value} (h : Apart a b) : Apart b a := fun g h1 h2 => h g h2 h1
/-- one of two rows grows -/
theorem two_push {w w2 : World} {base n : Nat} {e : TypeId} {v1 v2 v3 : Value} {x2 : List Value} {o : Obj} (h2 : w.ownsRow base e 1 v2 n x2) (hap : Apart v1 v2) (hg : (w.alloc o).grownBy w2 v1.ownBlock)
    (hat : v3.ownBlock = v1.ownBlock ∨ v3.ownBlock = some (w.alloc o).heap.size) : w2.ownsRow base e 1 v2 n x2 ∧ Apart v3 v2 := by
  refine ⟨(h2.alloc o).kept hg ?_, fun g h3 h4 => ?_⟩
  · cases hb : v2.ownBlock with
    | none => exact .inl rfl
    | some g => exact .inr fun h => hap g h.symm hb
  · rcases hat with h | h
    · exact hap g (h ▸ h3) h4
    · rw [h] at h3
      have := (h2.lt g h4).2
      simp at h3; omega
/-- what Lasso hands back -/
def LasPost (next : List (List Int)) (ever : List Bool) (i : Int) (w : World) (e : Ending) (w' : World) : Prop :=
  ∃ v way n, e = .returned (.tuple #[v, .int .i64 n, .bool (isB ever i)]) ∧ LRes next ever i way n ∧ w'.ownsRow w.heap.size 3 1 v way.length (way.map (Value.int .i64)) ∧ Below w.heap.size w w'

set_option maxRecDepth 100000 in
set_option maxHeartbeats 4000000 in
theorem refLasso_any (next : List (List Int)) (i : Int) (a : List Bool) (vn va : Value) (w : World) (hl : next.length ≤ 100) (hr : ∀ r ∈ next, r.length ≤ 200) (hla : a.length ≤ 9223372036854775807) (hn : RR w vn next) (ha : RB w va a) :
    Calls Try.prog 43 #[vn, .int .i64 i, va] w (LasPost next (egL next a) i w) := by
  have heg := refEg_any next a vn va w (by omega) (fun r h => Nat.le_trans (hr r h) (by omega)) hla hn ha
  obtain ⟨A, c, rfl, hc⟩ := hn.form
  obtain ⟨B, cb, rfl, hcb⟩ := ha.form
  obtain ⟨i0, hi0, hz0, hz1, hz2⟩ := info_parts intInfo
  have hE := egL_ever next a
  have hel := egL_length next a
  generalize egL next a = ever at *
  have Heg := hide heg
  have Hr := hide hr
  have HE := hide hE
  clear heg hr hE
  cases his : isB ever i with
  | false =>
    have hres : LRes next ever i [] 0 := .inl ⟨his, rfl, rfl⟩
    have Hres := hide hres
    clear hres
    go_enter Try.func43, Try.ntmps43
    go_wp2_with (first
      | (go_at_call 37; refine Heg.out.mono ?_; intro e w1 hp1; obtain ⟨v1, rfl, q1, b1⟩ := hp1.own; have hi1 := refIs_any ever _ i w1 (by omega) q1; rw [his] at hi1)
      | (go_at_call 28; refine hi1.mono ?_; rintro e w2 ⟨rfl, rfl⟩))
    go_ret3
    exact ⟨_, [], 0, by rw [his]; rfl, Hres.out, World.ownsRow_nil _ _ _ _, b1⟩
  | true =>
    obtain ⟨h0, hil⟩ := isB_lt his
    obtain ⟨x0, rfl⟩ := Int.eq_ofNat_of_zero_le h0
    have hx0 : ever.getD x0 false = true := by rw [isB_nat] at his; exact his
    have Hx0 := hide hx0
    have Hel := hide hel
    have Hil := hide hil
    clear h0 hx0 hel hil
    go_enter Try.func43, Try.ntmps43
    go_wp2_with fail
    refine Heg.out.mono ?_
    intro e w1 hp1
    obtain ⟨v1, rfl, q1, b1⟩ := hp1.own
    have hi1 := refIs_any ever _ (x0 : Int) w1 (by rw [Hel.out]; omega) q1
    rw [his] at hi1
    obtain ⟨AE, cE, rfl, hcE⟩ := q1.form
    have Hi1 := hide hi1
    have Q1 := hide q1
    have B1 := hide b1
    clear hp1 hi1 q1 b1 Heg his
    go_wp2_with fail
    refine Hi1.out.mono ?_
    rintro e w2 ⟨rfl, rfl⟩
    clear Hi1
    go_wp2_with fail
    go_loopw [10, 11, 12] (fun va vp at_ wr => ∃ m : Nat, at_ = .int .i64 ((lV next ever x0 m : Nat) : Int) ∧ Fresh next ever x0 m ∧ wr.ownsRow w1.heap.size 3 1 va m ((lWay next ever x0 m).map (Value.int .i64)) ∧ wr.ownsRow w1.heap.size 3 1 vp m (rowI (lPl next ever x0 m)) ∧ Apart va vp ∧ Below w1.heap.size w1 wr) (fun va vp at_ wr => next.length + 1 - lenOf va)
    case atStart => exact ⟨0, rfl, Fresh.zero, World.ownsRow_nil _ _ _ _, World.ownsRow_nil _ _ _ _, (fun g h => by simp [Value.ownBlock] at h), Below.refl _ _⟩
    case round =>
      obtain ⟨m, rfl, hfr, hoa, hop, hap, hbw⟩ := hrel
      rename World => wr
      have hml := hfr.le HE.out Hx0.out
      obtain ⟨Aa, ca, rfl, hca⟩ := own_form hoa
      obtain ⟨Ap, cp, rfl, hcp⟩ := own_form hop
      obtain ⟨y, hy⟩ : ∃ y, y = lV next ever x0 m := ⟨_, rfl⟩
      have Hfr := hide hfr
      have Hoa := hide hoa
      have Hop := hide hop
      have Hap := hide hap
      have Hbw := hide hbw
      rw [← hy]
      have Hy := hide hy
      clear hfr hoa hop hap hbw hy
      go_wp2_with fail
      go_loopw [13] (fun i wx => ∃ q : Nat, q ≤ m ∧ i = .int .i64 (q : Int) ∧ (∀ j, j < q → lV next ever x0 j ≠ y) ∧ wr = wx) (fun i wx => m - (intOf i).toNat)
      case atStart => exact ⟨0, Nat.zero_le _, rfl, fun j h => absurd h (by omega), rfl⟩
      case round =>
        obtain ⟨q, hq, rfl, hno, rfl⟩ := hrel
        by_cases hqm : q < m
        · obtain ⟨gp, cp2, eqp, _⟩ := own_some Hop.out (by omega)
          cases eqp
          have hcell := own_cell Hop.out rfl (rowI_get (k := q) (by rw [lPl_len]; exact hqm))
          rw [lPl_at hqm] at hcell
          by_cases hh : lV next ever x0 q = y
          · have hfirst : First next ever x0 m q := ⟨hqm, by rw [hh]; exact Hy.out.symm, Hfr.out⟩
            rw [hh] at hcell
            have Hfirst := hide hfirst
            clear hfirst hno hh
            go_wp2_with fail
            go_ret3
            refine ⟨_, lWay next ever x0 m, (q : Int), by rw [isB_nat, Hx0.out]; rfl, .inr ⟨by rw [isB_nat, Hx0.out], m, q, Hfirst.out, rfl, rfl⟩, ?_, B1.out.trans (Hbw.out.mono B1.out.size)⟩
            rw [lWay_len]
            exact own_base Hoa.out B1.out.size
          · have hh' : ((lV next ever x0 q : Nat) : Int) ≠ (y : Int) := fun h => hh (by omega)
            have hno2 : ∀ j, j < q + 1 → lV next ever x0 j ≠ y := fun j hj => by
              by_cases e : j = q
              · subst e; exact hh
              · exact hno j (by omega)
            generalize lV next ever x0 q = z at *
            have heq : ((z : Int) == (y : Int)) = false := by rw [beq_eq_false_iff_ne]; exact hh'
            have Hno := hide hno2
            clear hno hno2 hh hh'
            go_wp2_with fail
            go_roundw
            case rel => exact ⟨q + 1, by omega, by go_num, Hno.out, by first | rfl | trivial⟩
            case measure => simp [intOf]; omega
        · obtain rfl : q = m := by omega
          have hyv : ever.getD y false = true := by rw [Hy.out]; exact lV_ok HE.out Hx0.out q
          obtain ⟨hyn, _⟩ := HE.out y hyv
          obtain ⟨hk1, hk2, hk3⟩ := stay_ok HE.out hyv
          obtain ⟨hvn, _⟩ := HE.out _ hk3
          have hfi := fun k h1 h2 => stay_first (next := next) (ever := ever) (x := y) (k := k) h1 h2
          have hfr2 := Hfr.out.more (fun i hi => by rw [← Hy.out]; exact hno i hi)
          have hyV : stayV next ever y = lV next ever x0 (q + 1) := by rw [Hy.out]; rfl
          have hyK : stayK next ever y = lK next ever x0 q := by rw [Hy.out]; rfl
          have hb0r := B1.out.trans (Hbw.out.mono B1.out.size)
          obtain ⟨b6, o6, A6, c6, rfl, hcell6, hc6, _, hri⟩ := (hn.below hb0r).at_ hyn
          obtain ⟨row, hrw⟩ : ∃ row, row = next.getD y [] := ⟨_, rfl⟩
          have hrow : row.length ≤ 200 := by rw [hrw, List.getD, List.getElem?_eq_getElem hyn]; exact Hr.out _ (List.getElem_mem hyn)
          have hyi : (y : Int) < (next.length : Int) := by omega
          rw [← hrw] at hcell6 hc6 hri hk1 hk2 hfi
          generalize stayK next ever y = K at *
          generalize stayV next ever y = V at *
          have Hrw := hide hrw
          have Hk2 := hide hk2
          have Hk3 := hide hk3
          have Hfi := hide hfi
          have HyV := hide hyV
          have HyK := hide hyK
          have Hfr2 := hide hfr2
          have Hb0r := hide hb0r
          have Hyv := hide hyv
          clear hk2 hk3 hfi hyV hyK hfr2 hb0r hri hrw hno hyv
          go_wp2_with (at_builtin; refine wpList_append_own_at _ rfl (.tmp 38) (.tmp 40) 22 rfl w1.heap.size 3 i0 _ 1 8 Try.underlying22 hi0 hz0 hz1 hz2 rfl (by omega) _ q _ rfl (Hop.out.alloc _) ⟨wr.heap.size, 0, none⟩ 1 1 [.int .i64 (y : Int)] rfl rfl (one_new _ _ _) (one_one _) (by unfold maxLen; omega) (by omega) (by have := Hbw.out.size; simp; omega) ?_; intro v2 w2 hown2 hg2 _ hat2)
          have htp := two_push Hoa.out Hap.out.symm hg2 hat2
          have hb2 : Below w1.heap.size w1 w2 := (Hbw.out.alloc Hbw.out.size (.cells #[.int .i64 (y : Int)] 3)).grown hg2 (by have := Hbw.out.size; simp; omega) (fun g hg => (World.ownsRow.lt Hop.out g hg).1)
          obtain ⟨A2, cc2, rfl, hcc2⟩ := own_form hown2
          have Htp := hide htp
          have Hown2 := hide hown2
          have Hb2 := hide hb2
          have hsz2 := hb2.size
          clear htp hown2 hg2 hat2 hb2 hcell6 hc6 Hoa Hop Hap Hbw Hb0r
          go_loopw [14, 15] (fun s k wx => ∃ kk : Nat, kk ≤ row.length ∧ k = .int .i64 (kk : Int) ∧ ((kk ≤ K ∧ s = .int .i64 (-1)) ∨ (kk = K + 1 ∧ s = .int .i64 (K : Int))) ∧ Below w2.heap.size w2 wx) (fun s k wx => row.length - (intOf k).toNat)
          case atStart => exact ⟨0, Nat.zero_le _, rfl, .inl ⟨Nat.zero_le _, rfl⟩, Below.refl _ _⟩
          case round =>
            obtain ⟨kk, hkk, rfl, hs, hbx⟩ := hrel
            rename World => wx
            have hbx1 := Hb2.out.trans (hbx.mono hsz2)
            have hb0x := B1.out.trans (hbx1.mono B1.out.size)
            obtain ⟨b7, o7, A7, c7, eq7, hcell7, hc7, _, hri7⟩ := (hn.below hb0x).at_ hyn
            cases eq7
            rw [← Hrw.out] at hcell7 hc7 hri7
            have hex := Q1.out.below hbx1
            rcases hs with ⟨hkK, rfl⟩ | ⟨rfl, rfl⟩
            · have hkl : kk < row.length := by omega
              obtain ⟨b9, o9, rfl, hcell9, _, _⟩ := hri7.at_ hkl
              by_cases heK : kk = K
              · subst heK
                rw [Hk2.out] at hcell9
                have hi := refIs_any ever _ (V : Int) wx (by rw [Hel.out]; omega) hex
                rw [isB_nat, Hk3.out] at hi
                have Hi := hide hi
                have Hbx := hide hbx
                clear hi hex hbx hbx1 hb0x hri7
                go_wp2_with (go_at_call 28; refine Hi.out.mono ?_; rintro e w3 ⟨rfl, rfl⟩)
                go_roundw
                case rel => exact ⟨kk + 1, by omega, by go_num, .inr ⟨rfl, rfl⟩, Hbx.out⟩
                case measure => simp [intOf]; omega
              · have hi := refIs_any ever _ (row.getD kk 0) wx (by rw [Hel.out]; omega) hex
                rw [Hfi.out kk (by omega) hkl] at hi
                generalize row.getD kk 0 = x at *
                have Hi := hide hi
                have Hbx := hide hbx
                clear hi hex hbx hbx1 hb0x hri7
                go_wp2_with (go_at_call 28; refine Hi.out.mono ?_; rintro e w3 ⟨rfl, rfl⟩)
                go_roundw
                case rel => exact ⟨kk + 1, by omega, by go_num, .inl ⟨by omega, rfl⟩, Hbx.out⟩
                case measure => simp [intOf]; omega
            · obtain ⟨b9, o9, rfl, hcell9, _, _⟩ := hri7.at_ hk1
              rw [Hk2.out] at hcell9
              have hoa := own_below' Htp.out.1 hbx
              have hop := own_below' Hown2.out hbx
              have hap := Htp.out.2
              have Hoa := hide hoa
              have Hop := hide hop
              have Hap := hide hap
              have Hbx1 := hide hbx1
              clear hoa hop hap hbx hbx1 hb0x hri7 hex Htp Hown2
              by_cases hlast : K + 1 < row.length
              · go_wp2_with (at_builtin; refine wpList_append_own_at _ rfl (.tmp 65) (.tmp 67) 22 rfl w1.heap.size 3 i0 _ 1 8 Try.underlying22 hi0 hz0 hz1 hz2 rfl (by omega) _ q _ rfl (Hoa.out.alloc _) ⟨wx.heap.size, 0, none⟩ 1 1 [.int .i64 (K : Int)] rfl rfl (one_new _ _ _) (one_one _) (by unfold maxLen; omega) (by omega) (by have := Hbx1.out.size; simp; omega) ?_; intro v3 w3 hown3 hg3 _ hat3; have htp3 := two_push Hop.out Hap.out.symm hg3 hat3; have hb3 : Below w1.heap.size w1 w3 := (Hbx1.out.alloc Hbx1.out.size (.cells #[.int .i64 (K : Int)] 3)).grown hg3 (by have := Hbx1.out.size; simp; omega) (fun g hg => (World.ownsRow.lt Hoa.out g hg).1); have Htp3 := hide htp3; have Hb3 := hide hb3; obtain ⟨b10, o10, A10, c10, eq10, hcell10, hc10, _, hri10⟩ := (hn.below (B1.out.trans (Hb3.out.mono B1.out.size))).at_ hyn; cases eq10; rw [← Hrw.out] at hcell10 hc10 hri10; obtain ⟨b11, o11, rfl, hcell11, _, _⟩ := hri10.at_ hk1; rw [Hk2.out] at hcell11; obtain ⟨A3, cc3, rfl, _⟩ := own_form hown3; have Hown3 := hide hown3; clear hown3 hg3 hat3 htp3 hb3)
                go_roundw
                case rel =>
                  refine ⟨q + 1, by rw [← HyV.out], Hfr2.out, ?_, ?_, Htp3.out.2.symm.symm, Hb3.out⟩
                  · rw [lWay_snoc, List.map_append, ← HyK.out]; exact Hown3.out
                  · rw [lPl_snoc, ← Hy.out]; unfold rowI; rw [List.map_append]; exact Htp3.out.1
                case measure => simp [lenOf]; omega
              · go_wp2_with (at_builtin; refine wpList_append_own_at _ rfl (.tmp 65) (.tmp 67) 22 rfl w1.heap.size 3 i0 _ 1 8 Try.underlying22 hi0 hz0 hz1 hz2 rfl (by omega) _ q _ rfl (Hoa.out.alloc _) ⟨wx.heap.size, 0, none⟩ 1 1 [.int .i64 (K : Int)] rfl rfl (one_new _ _ _) (one_one _) (by unfold maxLen; omega) (by omega) (by have := Hbx1.out.size; simp; omega) ?_; intro v3 w3 hown3 hg3 _ hat3; have htp3 := two_push Hop.out Hap.out.symm hg3 hat3; have hb3 : Below w1.heap.size w1 w3 := (Hbx1.out.alloc Hbx1.out.size (.cells #[.int .i64 (K : Int)] 3)).grown hg3 (by have := Hbx1.out.size; simp; omega) (fun g hg => (World.ownsRow.lt Hoa.out g hg).1); have Htp3 := hide htp3; have Hb3 := hide hb3; obtain ⟨b10, o10, A10, c10, eq10, hcell10, hc10, _, hri10⟩ := (hn.below (B1.out.trans (Hb3.out.mono B1.out.size))).at_ hyn; cases eq10; rw [← Hrw.out] at hcell10 hc10 hri10; obtain ⟨b11, o11, rfl, hcell11, _, _⟩ := hri10.at_ hk1; rw [Hk2.out] at hcell11; obtain ⟨A3, cc3, rfl, _⟩ := own_form hown3; have Hown3 := hide hown3; clear hown3 hg3 hat3 htp3 hb3)
                go_roundw
                case rel =>
                  refine ⟨q + 1, by rw [← HyV.out], Hfr2.out, ?_, ?_, Htp3.out.2.symm.symm, Hb3.out⟩
                  · rw [lWay_snoc, List.map_append, ← HyK.out]; exact Hown3.out
                  · rw [lPl_snoc, ← Hy.out]; unfold rowI; rw [List.map_append]; exact Htp3.out.1
                case measure => simp [lenOf]; omega
end Go.Proofs.Ytcdeidedcbnhaaa
