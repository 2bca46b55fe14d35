/-
  THE LAW PathLeads.
-/
import Derived.Test.YtcdeidedcbnhaaaPathOpen
import Derived.Test.YtcdeidedcbnhaaaPathEnds
import Derived.Test.YtcdeidedcbnhaaaPathLasW
import Derived.Test.YtcdeidedcbnhaaaPathLaws3
import Derived.Test.YtcdeidedcbnhaaaPathLd
set_option linter.unusedVariables false
set_option linter.unusedSimpArgs false
namespace Go.Proofs.Ytcdeidedcbnhaaa
open Go.RowKit

theorem RI.take {w : World} {A : Option Addr} {n c : Nat} {l : List Int} (h : RI w (.slice A n c) l) {j : Nat} (hj : j ≤ l.length) : RI w (.slice A j c) (l.take j) := by
  obtain ⟨A', c', e, h1, h2, h3⟩ := h
  simp at e
  obtain ⟨rfl, rfl, rfl⟩ := e
  have hl : (l.take j).length = j := by rw [List.length_take]; omega
  refine ⟨A, c, by rw [hl], by rw [hl]; omega, h2, fun h0 => ?_⟩
  rw [hl] at h0
  obtain ⟨b, o, rfl, hS, hr⟩ := h3 (by omega)
  refine ⟨b, o, rfl, hS, fun i hi => ?_⟩
  rw [hl] at hi
  obtain ⟨cs, h4, h5⟩ := hr i (by omega)
  exact ⟨cs, h4, by rw [List.getElem_take]; exact h5⟩

set_option maxRecDepth 100000 in
set_option maxHeartbeats 4000000 in
theorem pathLeads_law (next : List (List Int)) (i : Int) (a b : List Bool) (vn va vb : Value) (w : World) (hln : next.length ≤ 9223372036854775807) (hla : a.length ≤ 9223372036854775807) (hlb : b.length ≤ 9223372036854775807) (hn : RR w vn next) (ha : RB w va a) (hbb : RB w vb b) :
    Calls Try.prog 13 #[vn, .int .i64 i, .agg #[va, vb]] w fun e w' => e = .returned (.bool true) ∧ Below w.heap.size w w' := by
  obtain ⟨A, c, rfl, hc⟩ := hn.form
  obtain ⟨B, cb, rfl, hcb⟩ := ha.form
  obtain ⟨C, cc, rfl, hcc⟩ := hbb.form
  obtain ⟨W, hW⟩ : ∃ W, W = w.alloc (.cells #[.slice B a.length cb, .slice C b.length cc] 42) := ⟨_, rfl⟩
  have hb0 : Below w.heap.size w W := by rw [hW]; exact (Below.refl _ _).alloc (Nat.le_refl _) _
  have hblk : Blk W w.heap.size 42 #[.slice B a.length cb, .slice C b.length cc] := by rw [hW]; exact Blk.new _ _ _
  have hnW := hn.below hb0
  have haW := ha.below hb0
  have hbW := hbb.below hb0
  have hgr := great_any next _ W hln hnW
  cases hg : greatL next with
  | true =>
    rw [hg, hW] at hgr
    have Hgr := hide hgr
    rw [hW] at hb0
    have Hb0 := hide hb0
    clear hb0 hblk hnW haW hbW hgr hW
    go_enter Try.func13, Try.ntmps13
    go_wp2_with (first
      | (go_at_call 30; refine Hgr.out.mono ?_; rintro e w2 ⟨rfl, rfl⟩)
      | (go_at_call 38; refine (pathAwake_any _).mono ?_; rintro e w2 ⟨rfl, hb2⟩))
    go_ret
    exact ⟨rfl, Hb0.out.trans (hb2.mono (by simp))⟩
  | false =>
    rw [hg] at hgr
    obtain ⟨hl, hr⟩ := great_false hg
    have hc0 : W.cell? ⟨w.heap.size, 0, none⟩ = some (.slice B a.length cb) := hblk.cell 0
    have hc1 : W.cell? ⟨w.heap.size, 1, none⟩ = some (.slice C b.length cc) := hblk.cell 1
    have hlt := hblk.lt
    have hpa := shortest_any next i a b _ _ _ W (by omega) hr hla hlb hnW haW hbW
    have hso := short_some next i a b
    have hld := fun way h j hj => short_leads (next := next) (i := i) (th := a) (tg := b) (way := way) h (j := j) hj
    have hsr := shortP_rg (i := i) (th := a) (tg := b) hl hr
    have heul := euL_length next a b
    have hegl := egL_length next a
    have hEv := egL_ever next a
    obtain ⟨o, ho⟩ : ∃ o, o = shortP next i a b := ⟨_, rfl⟩
    rw [← ho] at hpa hso hsr
    have hld := fun way h j hj => hld way (ho.symm.trans h) j hj
    -- the contracts, at whatever later world
    have heu := fun (X : World) (hX : Below W.heap.size W X) => refEu_any next a b _ _ _ X (by omega) (fun r h => Nat.le_trans (hr r h) (by omega)) hla hlb (hnW.below hX) (haW.below hX) (hbW.below hX)
    have heg := fun (X : World) (hX : Below W.heap.size W X) => refEg_any next a _ _ X (by omega) (fun r h => Nat.le_trans (hr r h) (by omega)) hla (hnW.below hX) (haW.below hX)
    have hlas := fun (X : World) (hX : Below W.heap.size W X) => lasso_any next i a _ _ X hl hr hla (hnW.below hX) (haW.below hX)
    have hends := fun (X : World) (hX : Below W.heap.size W X) (way : List Int) (vw : Value) (hwl : way.length ≤ 100) (hw : RI X vw way) => ends_any next i way _ vw X hln (fun r h => by have := hr r h; omega) (by omega) (hnW.below hX) hw
    have hisa := fun (X : World) (hX : Below W.heap.size W X) (y : Int) => refIs_any a _ y X hla (haW.below hX)
    have hisb := fun (X : World) (hX : Below W.heap.size W X) (y : Int) => refIs_any b _ y X hlb (hbW.below hX)
    have hcel := fun (X : World) (hX : Below W.heap.size W X) => (⟨(hX.cell (p := ⟨w.heap.size, 0, none⟩) hlt).trans hc0, (hX.cell (p := ⟨w.heap.size, 1, none⟩) hlt).trans hc1⟩ : X.cell? ⟨w.heap.size, 0, none⟩ = some (.slice B a.length cb) ∧ X.cell? ⟨w.heap.size, 1, none⟩ = some (.slice C b.length cc))
    have hlsl := fun n way h hi => las_leads (next := next) (a := a) (i := i) (n := n) (way := way) h hi
    have hlrg := fun n way h => LRes.rg (i := i) (way := way) (n := n) hl hr hEv h
    have hend : ∀ n way, LRes next (egL next a) i way n → isB (egL next a) i = false → way = [] ∧ n = 0 := fun n way h h2 => by
      rcases h with ⟨_, h3, h4⟩ | ⟨h3, _⟩
      · exact ⟨h3, h4⟩
      · rw [h2] at h3; simp at h3
    have Hgr := hide hgr
    have Hpa := hide hpa
    have Hso := hide hso
    have Hld := hide hld
    have Hsr := hide hsr
    have Heul := hide heul
    have Hegl := hide hegl
    have Heu := hide heu
    have Heg := hide heg
    have Hlas := hide hlas
    have Hends := hide hends
    have Hisa := hide hisa
    have Hisb := hide hisb
    have Hcel := hide hcel
    have Hlsl := hide hlsl
    have Hlrg := hide hlrg
    have Hend := hide hend
    have Hb0 := hide hb0
    have HW := hide hW
    clear hgr hpa hso hld hsr heul hegl heu heg hlas hends hisa hisb hcel hlsl hlrg hend hb0 hW hnW haW hbW hr hg hEv ho hblk hn ha hbb
    generalize euL next a b = eu at *
    generalize egL next a = eg at *
    cases o with
    | none =>
      have hso := Hso.out
      rw [Option.isSome_none] at hso
      have Hso2 := hide hso
      clear hso
      go_enter Try.func13, Try.ntmps13
      go_wp2_with fail
      rw [← HW.out]
      go_wp2_with (go_at_call 30; refine Hgr.out.mono ?_; rintro e w2 ⟨rfl, rfl⟩)
      refine Hpa.out.mono ?_
      rintro e w1 ⟨v1, rfl, hown1, hb1⟩
      rw [Option.isSome_none]
      rw [Option.getD_none] at hown1
      obtain ⟨hc01, hc11⟩ := Hcel.out w1 hb1
      obtain ⟨A1, c1, rfl, hcw1⟩ := own_form hown1
      have Hown1 := hide hown1
      have Hb1 := hide hb1
      clear hown1 hb1 Hpa hc0 hc1
      go_wp2_with fail
      refine (Heu.out w1 Hb1.out).mono ?_
      intro e w2 hp2
      obtain ⟨v2, rfl, q2, b2⟩ := hp2.own
      have hie := refIs_any eu _ i w2 (by rw [Heul.out]; omega) q2
      rw [← Hso2.out] at hie
      obtain ⟨A2, c2, rfl, _⟩ := q2.form
      have b02 := Hb1.out.trans (b2.mono Hb1.out.size)
      have q1 := (RI.own Hown1.out (by have := Hsr.out.2; rw [Option.getD_none] at this; exact this)).below b2
      have Hie := hide hie
      have Hb2 := hide b02
      have Q1 := hide q1
      have hsz2 := b02.size
      clear hp2 q2 b2 hie b02 q1 Hown1
      go_wp2_with fail
      refine Hie.out.mono ?_
      rintro e w3 ⟨rfl, rfl⟩
      clear Hie hc01 hc11
      go_wp2_with fail
      go_loopw [9, 10, 11] (fun k _ _ wx => k = .int .i64 0 ∧ w2 = wx) (fun k _ _ wx => 0)
      case atStart => exact ⟨rfl, rfl⟩
      case round =>
        obtain ⟨rfl, rfl⟩ := hrel
        have hlas := Hlas.out w2 Hb2.out
        obtain ⟨hcX0, hcX1⟩ := Hcel.out w2 Hb2.out
        have bsz := Hb2.out.size
        go_wp2_with fail
        refine hlas.mono ?_
        clear hlas hcX0 hcX1
        rintro e w5 ⟨v5, l, n, rfl, hres, hown5, hb5⟩
        have b05 := Hb2.out.trans (hb5.mono bsz)
        obtain ⟨hc05, hc15⟩ := Hcel.out w5 b05
        obtain ⟨A5, c5, rfl, hcw5⟩ := own_form hown5
        obtain ⟨hll, hlr⟩ := Hlrg.out _ _ hres
        have q5 := RI.own hown5 hlr
        have hsz5 := b05.size
        have Hres := hide hres
        have Q5 := hide q5
        have B05 := hide b05
        clear hres hown5 hb5 b05 q5 hlr
        cases hs : isB eg i with
        | false =>
          obtain ⟨rfl, rfl⟩ := Hend.out _ _ Hres.out hs
          have Hs := hide hs
          clear hs
          go_wp2_with fail
          refine (Heg.out w5 B05.out).mono ?_
          intro e w6 hp6
          obtain ⟨v6, rfl, q6, b6⟩ := hp6.own
          have hie := refIs_any eg _ i w6 (by rw [Hegl.out]; omega) q6
          rw [Hs.out] at hie
          obtain ⟨A6, c6, rfl, _⟩ := q6.form
          have b06 := B05.out.trans (b6.mono hsz5)
          have B06 := hide b06
          have Hie := hide hie
          clear hp6 q6 b6 hie b06 hc05 hc15
          go_wp2_with fail
          refine Hie.out.mono ?_
          rintro e w7 ⟨rfl, rfl⟩
          clear Hie
          go_wp2_with (go_at_call 38; refine (pathAwake_any _).mono ?_; rintro e w8 ⟨rfl, b8⟩)
          go_ret
          exact ⟨rfl, (Hb0.out.trans (B06.out.mono Hb0.out.size)).trans (b8.mono (Nat.le_trans Hb0.out.size B06.out.size))⟩
        | true =>
          obtain ⟨k, rfl, hkl, hlj, hlk⟩ := Hlsl.out _ _ Hres.out hs
          have Hs := hide hs
          have Hlj := hide hlj
          have Hlk := hide hlk
          clear hs hlj hlk
          go_wp2_with fail
          refine (Heg.out w5 B05.out).mono ?_
          intro e w6 hp6
          obtain ⟨v6, rfl, q6, b6⟩ := hp6.own
          have hie := refIs_any eg _ i w6 (by rw [Hegl.out]; omega) q6
          rw [Hs.out] at hie
          obtain ⟨A6, c6, rfl, _⟩ := q6.form
          have b06 := B05.out.trans (b6.mono hsz5)
          have q56 := Q5.out.below b6
          have B06 := hide b06
          have Q56 := hide q56
          have Hie := hide hie
          have hsz6 := b06.size
          have hki : (k : Int) < (l.length : Int) := by omega
          have f1 : decide ((k : Int) < 0) = false := decide_eq_false (by omega)
          have f2 : decide ((l.length : Int) ≤ (k : Int)) = false := decide_eq_false (by omega)
          have f3 : decide (l.length ≤ k) = false := decide_eq_false (by omega)
          clear hp6 q6 b6 hie b06 q56 hc05 hc15
          go_wp2_with fail
          refine Hie.out.mono ?_
          rintro e w7 ⟨rfl, rfl⟩
          clear Hie
          go_wp2_with fail
          go_loopw [15, 16, 17] (fun k _ _ wy => ∃ j : Nat, j ≤ l.length + 1 ∧ k = .int .i64 (j : Int) ∧ Below w6.heap.size w6 wy) (fun k _ _ wy => l.length + 1 - (intOf k).toNat)
          case atStart => exact ⟨0, by omega, rfl, Below.refl _ _⟩
          case round =>
            obtain ⟨j, hj, rfl, hby⟩ := hrel
            rename World => wy
            have b0y := B06.out.trans (hby.mono hsz6)
            have hwy := Q56.out.below hby
            have By := hide b0y
            have By2 := hide hby
            by_cases hjl : j ≤ l.length
            · obtain ⟨y, hy1, hy2⟩ := Hlj.out j hjl
              have hen := Hends.out wy By.out _ _ (by rw [List.length_take]; omega) (hwy.take hjl)
              rw [hy1, show numO (some y) = (y : Int) from rfl, Option.isSome_some] at hen
              have hia := Hisa.out wy By.out (y : Int)
              rw [hy2] at hia
              obtain ⟨hc0, hc1⟩ := Hcel.out wy By.out
              have hji : (j : Int) ≤ (l.length : Int) := by omega
              have Hen := hide hen
              have Hia := hide hia
              clear hen hia hby b0y hwy hy1 hy2
              go_wp2_with (first
                | (go_at_call 41; refine Hen.out.mono ?_; rintro e w4 ⟨rfl, rfl⟩)
                | (go_at_call_of 28 (Value.slice B a.length cb); refine Hia.out.mono ?_; rintro e w4 ⟨rfl, rfl⟩))
              go_roundw
              case rel => exact ⟨j + 1, by omega, by go_num, By2.out⟩
              case measure => simp [intOf]; omega
            · obtain ⟨y, hy1, _⟩ := Hlj.out l.length (Nat.le_refl _)
              rw [List.take_of_length_le (Nat.le_refl _)] at hy1
              have hen1 := Hends.out wy By.out _ _ (by rw [List.length_take]; omega) (hwy.take (Nat.le_of_lt hkl))
              have hen2 := Hends.out wy By.out _ _ hll hwy
              rw [Hlk.out, hy1, show numO (some y) = (y : Int) from rfl, Option.isSome_some] at hen1
              rw [hy1, show numO (some y) = (y : Int) from rfl, Option.isSome_some] at hen2
              have d5 : decide ((j : Int) ≤ (l.length : Int)) = false := decide_eq_false (by omega)
              have hyy : ((y : Int) == (y : Int)) = true := by simp
              have Hen1 := hide hen1
              have Hen2 := hide hen2
              clear hen1 hen2 hby b0y hwy hy1
              go_wp2_with (first
                | (go_at_call_of 41 (Value.slice A5 k c5); refine Hen1.out.mono ?_; rintro e w4 ⟨rfl, rfl⟩)
                | (go_at_call_of 41 (Value.slice A5 l.length c5); refine Hen2.out.mono ?_; rintro e w4 ⟨rfl, rfl⟩)
                | (go_at_call 38; refine (pathAwake_any _).mono ?_; rintro e w8 ⟨rfl, b8⟩))
              go_ret
              exact ⟨rfl, (Hb0.out.trans (By.out.mono Hb0.out.size)).trans (b8.mono (Nat.le_trans Hb0.out.size By.out.size))⟩
    | some way =>
      have hso := Hso.out
      rw [Option.isSome_some] at hso
      have Hso2 := hide hso
      clear hso
      go_enter Try.func13, Try.ntmps13
      go_wp2_with fail
      rw [← HW.out]
      go_wp2_with (go_at_call 30; refine Hgr.out.mono ?_; rintro e w2 ⟨rfl, rfl⟩)
      refine Hpa.out.mono ?_
      rintro e w1 ⟨v1, rfl, hown1, hb1⟩
      rw [Option.isSome_some]
      rw [Option.getD_some] at hown1
      obtain ⟨hc01, hc11⟩ := Hcel.out w1 hb1
      obtain ⟨A1, c1, rfl, hcw1⟩ := own_form hown1
      have Hown1 := hide hown1
      have Hb1 := hide hb1
      clear hown1 hb1 Hpa hc0 hc1
      go_wp2_with fail
      refine (Heu.out w1 Hb1.out).mono ?_
      intro e w2 hp2
      obtain ⟨v2, rfl, q2, b2⟩ := hp2.own
      have hie := refIs_any eu _ i w2 (by rw [Heul.out]; omega) q2
      rw [← Hso2.out] at hie
      obtain ⟨A2, c2, rfl, _⟩ := q2.form
      have b02 := Hb1.out.trans (b2.mono Hb1.out.size)
      have q1 := (RI.own Hown1.out (by have := Hsr.out.2; rw [Option.getD_some] at this; exact this)).below b2
      have Hie := hide hie
      have Hb2 := hide b02
      have Q1 := hide q1
      have hsz2 := b02.size
      clear hp2 q2 b2 hie b02 q1 Hown1
      go_wp2_with fail
      refine Hie.out.mono ?_
      rintro e w3 ⟨rfl, rfl⟩
      clear Hie hc01 hc11
      go_wp2_with fail
      have hwl : way.length ≤ 100 := by have := Hsr.out.1; rw [Option.getD_some] at this; exact this
      go_loopw [9, 10, 11] (fun k _ _ wx => ∃ j : Nat, j ≤ way.length + 1 ∧ k = .int .i64 (j : Int) ∧ Below w2.heap.size w2 wx) (fun k _ _ wx => way.length + 1 - (intOf k).toNat)
      case atStart => exact ⟨0, by omega, rfl, Below.refl _ _⟩
      case round =>
        obtain ⟨j, hj, rfl, hbx⟩ := hrel
        rename World => wx
        have b0x := Hb2.out.trans (hbx.mono hsz2)
        have hwx := Q1.out.below hbx
        have Bx := hide b0x
        have Bx2 := hide hbx
        by_cases hjl : j ≤ way.length
        · obtain ⟨y, hy1, hy2, hy3⟩ := Hld.out way rfl j hjl
          have hen := Hends.out wx Bx.out _ _ (by rw [List.length_take]; omega) (hwx.take hjl)
          rw [hy1, show numO (some y) = (y : Int) from rfl, Option.isSome_some] at hen
          have hia := Hisa.out wx Bx.out (y : Int)
          have hib := Hisb.out wx Bx.out (y : Int)
          obtain ⟨hc0, hc1⟩ := Hcel.out wx Bx.out
          have Hen := hide hen
          have hji : (j : Int) ≤ (way.length : Int) := by omega
          clear hen hbx b0x hwx
          by_cases hjj : j < way.length
          · obtain ⟨e1, e2⟩ := hy2 hjj
            rw [e1] at hia
            rw [e2] at hib
            have d1 : decide (j < way.length) = true := decide_eq_true hjj
            have d2 : ((j : Int) == (way.length : Int)) = false := by rw [beq_eq_false_iff_ne]; omega
            have d3 : decide ((j : Int) < (way.length : Int)) = true := decide_eq_true (by omega)
            have d4 : decide (j = way.length) = false := decide_eq_false (by omega)
            have Hia := hide hia
            have Hib := hide hib
            clear hia hib hy2 hy3 hy1 e1 e2
            go_wp2_with (first
              | (go_at_call 41; refine Hen.out.mono ?_; rintro e w4 ⟨rfl, rfl⟩)
              | (go_at_call_of 28 (Value.slice B a.length cb); refine Hia.out.mono ?_; rintro e w4 ⟨rfl, rfl⟩)
              | (go_at_call_of 28 (Value.slice C b.length cc); refine Hib.out.mono ?_; rintro e w4 ⟨rfl, rfl⟩))
            go_roundw
            case rel => exact ⟨j + 1, by omega, by go_num, Bx2.out⟩
            case measure => simp [intOf]; omega
          · have hje : j = way.length := by omega
            have e2 := hy3 hje
            rw [e2] at hib
            have d1 : decide (j < way.length) = false := decide_eq_false hjj
            have d2 : ((j : Int) == (way.length : Int)) = true := by simp [hje]
            have d3 : decide ((j : Int) < (way.length : Int)) = false := decide_eq_false (by omega)
            have d4 : decide (j = way.length) = true := decide_eq_true hje
            have Hib := hide hib
            have Hia := hide hia
            have Hje := hide hje
            clear hib hia hy2 hy3 hy1 e2 hje
            go_wp2_with (first
              | (go_at_call 41; refine Hen.out.mono ?_; rintro e w4 ⟨rfl, rfl⟩)
              | (go_at_call_of 28 (Value.slice B a.length cb); refine Hia.out.mono ?_; rintro e w4 ⟨rfl, rfl⟩)
              | (go_at_call_of 28 (Value.slice C b.length cc); refine Hib.out.mono ?_; rintro e w4 ⟨rfl, rfl⟩))
            go_roundw
            case rel => exact ⟨j + 1, by omega, by go_num, Bx2.out⟩
            case measure => simp [intOf]; omega
        · have d5 : decide ((j : Int) ≤ (way.length : Int)) = false := decide_eq_false (by omega)
          have hlas := Hlas.out wx Bx.out
          obtain ⟨hcX0, hcX1⟩ := Hcel.out wx Bx.out
          have bsz := Bx.out.size
          go_wp2_with fail
          refine hlas.mono ?_
          clear hlas hcX0 hcX1
          rintro e w5 ⟨v5, l, n, rfl, hres, hown5, hb5⟩
          have b05 := Bx.out.trans (hb5.mono bsz)
          obtain ⟨hc05, hc15⟩ := Hcel.out w5 b05
          obtain ⟨A5, c5, rfl, hcw5⟩ := own_form hown5
          obtain ⟨hll, hlr⟩ := Hlrg.out _ _ hres
          have q5 := RI.own hown5 hlr
          have hsz5 := b05.size
          have Hres := hide hres
          have Q5 := hide q5
          have B05 := hide b05
          clear hres hown5 hb5 b05 q5 hlr
          cases hs : isB eg i with
          | false =>
            obtain ⟨rfl, rfl⟩ := Hend.out _ _ Hres.out hs
            have Hs := hide hs
            clear hs
            go_wp2_with fail
            refine (Heg.out w5 B05.out).mono ?_
            intro e w6 hp6
            obtain ⟨v6, rfl, q6, b6⟩ := hp6.own
            have hie := refIs_any eg _ i w6 (by rw [Hegl.out]; omega) q6
            rw [Hs.out] at hie
            obtain ⟨A6, c6, rfl, _⟩ := q6.form
            have b06 := B05.out.trans (b6.mono hsz5)
            have B06 := hide b06
            have Hie := hide hie
            clear hp6 q6 b6 hie b06 hc05 hc15
            go_wp2_with fail
            refine Hie.out.mono ?_
            rintro e w7 ⟨rfl, rfl⟩
            clear Hie
            go_wp2_with (go_at_call 38; refine (pathAwake_any _).mono ?_; rintro e w8 ⟨rfl, b8⟩)
            go_ret
            exact ⟨rfl, (Hb0.out.trans (B06.out.mono Hb0.out.size)).trans (b8.mono (Nat.le_trans Hb0.out.size B06.out.size))⟩
          | true =>
            obtain ⟨k, rfl, hkl, hlj, hlk⟩ := Hlsl.out _ _ Hres.out hs
            have Hs := hide hs
            have Hlj := hide hlj
            have Hlk := hide hlk
            clear hs hlj hlk
            go_wp2_with fail
            refine (Heg.out w5 B05.out).mono ?_
            intro e w6 hp6
            obtain ⟨v6, rfl, q6, b6⟩ := hp6.own
            have hie := refIs_any eg _ i w6 (by rw [Hegl.out]; omega) q6
            rw [Hs.out] at hie
            obtain ⟨A6, c6, rfl, _⟩ := q6.form
            have b06 := B05.out.trans (b6.mono hsz5)
            have q56 := Q5.out.below b6
            have B06 := hide b06
            have Q56 := hide q56
            have Hie := hide hie
            have hsz6 := b06.size
            have hki : (k : Int) < (l.length : Int) := by omega
            have f1 : decide ((k : Int) < 0) = false := decide_eq_false (by omega)
            have f2 : decide ((l.length : Int) ≤ (k : Int)) = false := decide_eq_false (by omega)
            have f3 : decide (l.length ≤ k) = false := decide_eq_false (by omega)
            clear hp6 q6 b6 hie b06 q56 hc05 hc15
            go_wp2_with fail
            refine Hie.out.mono ?_
            rintro e w7 ⟨rfl, rfl⟩
            clear Hie
            go_wp2_with fail
            go_loopw [15, 16, 17] (fun k _ _ wy => ∃ j : Nat, j ≤ l.length + 1 ∧ k = .int .i64 (j : Int) ∧ Below w6.heap.size w6 wy) (fun k _ _ wy => l.length + 1 - (intOf k).toNat)
            case atStart => exact ⟨0, by omega, rfl, Below.refl _ _⟩
            case round =>
              obtain ⟨j, hj, rfl, hby⟩ := hrel
              rename World => wy
              have b0y := B06.out.trans (hby.mono hsz6)
              have hwy := Q56.out.below hby
              have By := hide b0y
              have By2 := hide hby
              by_cases hjl : j ≤ l.length
              · obtain ⟨y, hy1, hy2⟩ := Hlj.out j hjl
                have hen := Hends.out wy By.out _ _ (by rw [List.length_take]; omega) (hwy.take hjl)
                rw [hy1, show numO (some y) = (y : Int) from rfl, Option.isSome_some] at hen
                have hia := Hisa.out wy By.out (y : Int)
                rw [hy2] at hia
                obtain ⟨hc0, hc1⟩ := Hcel.out wy By.out
                have hji : (j : Int) ≤ (l.length : Int) := by omega
                have Hen := hide hen
                have Hia := hide hia
                clear hen hia hby b0y hwy hy1 hy2
                go_wp2_with (first
                  | (go_at_call 41; refine Hen.out.mono ?_; rintro e w4 ⟨rfl, rfl⟩)
                  | (go_at_call_of 28 (Value.slice B a.length cb); refine Hia.out.mono ?_; rintro e w4 ⟨rfl, rfl⟩))
                go_roundw
                case rel => exact ⟨j + 1, by omega, by go_num, By2.out⟩
                case measure => simp [intOf]; omega
              · obtain ⟨y, hy1, _⟩ := Hlj.out l.length (Nat.le_refl _)
                rw [List.take_of_length_le (Nat.le_refl _)] at hy1
                have hen1 := Hends.out wy By.out _ _ (by rw [List.length_take]; omega) (hwy.take (Nat.le_of_lt hkl))
                have hen2 := Hends.out wy By.out _ _ hll hwy
                rw [Hlk.out, hy1, show numO (some y) = (y : Int) from rfl, Option.isSome_some] at hen1
                rw [hy1, show numO (some y) = (y : Int) from rfl, Option.isSome_some] at hen2
                have d5 : decide ((j : Int) ≤ (l.length : Int)) = false := decide_eq_false (by omega)
                have hyy : ((y : Int) == (y : Int)) = true := by simp
                have Hen1 := hide hen1
                have Hen2 := hide hen2
                clear hen1 hen2 hby b0y hwy hy1
                go_wp2_with (first
                  | (go_at_call_of 41 (Value.slice A5 k c5); refine Hen1.out.mono ?_; rintro e w4 ⟨rfl, rfl⟩)
                  | (go_at_call_of 41 (Value.slice A5 l.length c5); refine Hen2.out.mono ?_; rintro e w4 ⟨rfl, rfl⟩)
                  | (go_at_call 38; refine (pathAwake_any _).mono ?_; rintro e w8 ⟨rfl, b8⟩))
                go_ret
                exact ⟨rfl, (Hb0.out.trans (By.out.mono Hb0.out.size)).trans (b8.mono (Nat.le_trans Hb0.out.size By.out.size))⟩

end Go.Proofs.Ytcdeidedcbnhaaa
