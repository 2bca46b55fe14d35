/-
  THE WALK of path.Shortest.
-/
import Derived.Test.YtcdeidedcbnhaaaPathSh
import Derived.Test.YtcdeidedcbnhaaaPathSI
import Derived.WalkMore
set_option linter.unusedVariables false
set_option linter.unusedSimpArgs false
namespace Go.Proofs.Ytcdeidedcbnhaaa
open Go.RowKit

theorem cameInfo : (Try.prog.info? 63).map (fun i => (i.zero, i.size, i.bytes)) = some (some (.agg #[.int .i64 0, .int .i64 0]), 2, 16) := by kernel_rfl
/-- the row of places as ints -/
def rowI (row : List Nat) : List Value := row.map fun (x : Nat) => Value.int .i64 (x : Int)
theorem rowI_get {row : List Nat} {k : Nat} (h : k < row.length) : (rowI row)[k]? = some (.int .i64 ((row.getD k 0 : Nat) : Int)) := by
  unfold rowI
  rw [List.getElem?_map, List.getD, List.getElem?_eq_getElem h]; rfl

theorem own_one (W : World) (base : Nat) (x : Int) (hb : base ≤ W.heap.size) : (W.alloc (.cells #[.int .i64 x] 3)).ownsRow base 3 1 (.slice (some ⟨W.heap.size, 0, none⟩) 1 1) 1 [.int .i64 x] := by
  have := World.ownsRow_lit (e := 3) (size := 1) (base := base) W #[.int .i64 x] 1 hb (by simp [maxLen]) rfl
  exact this
/-- the row while it is filled -/
def fillC (N k : Nat) : List Came := List.replicate k noC ++ List.replicate (N - k) (0, 0)
theorem fillC_len {N k : Nat} (h : k ≤ N) : (fillC N k).length = N := by simp [fillC]; omega
theorem fillC_set {N k : Nat} (h : k < N) : (fillC N k).set k (-1, -1) = fillC N (k + 1) := by
  unfold fillC
  rw [List.set_append_right _ _ (by simp), List.length_replicate, Nat.sub_self, show N - k = (N - (k + 1)) + 1 by omega, List.replicate_succ, List.set_cons_zero, List.replicate_succ', List.append_assoc]; rfl
theorem fillC_all (N : Nat) : fillC N N = List.replicate N noC := by simp [fillC]

set_option maxRecDepth 100000 in
set_option maxHeartbeats 4000000 in
theorem shortest_any (next : List (List Int)) (i : Int) (th tg : List Bool) (vn va vb : Value) (w : World) (hl : next.length ≤ 100) (hr : ∀ r ∈ next, r.length ≤ 200) (hla : th.length ≤ 9223372036854775807) (hlb : tg.length ≤ 9223372036854775807) (hn : RR w vn next) (ha : RB w va th) (hb : RB w vb tg) :
    Calls Try.prog 39 #[vn, .int .i64 i, va, vb] w (WayPost (shortP next i th tg) w) := by
  have hpl := pathPlace_any next vn i w (by omega) hn
  obtain ⟨A, c, rfl, hc⟩ := hn.form
  obtain ⟨B, cb, rfl, hcb⟩ := ha.form
  obtain ⟨C, cc, rfl, hcc⟩ := hb.form
  obtain ⟨i0, hi0, hz0, hz1, hz2⟩ := info_parts intInfo
  obtain ⟨ic, hc0, hcz0, hcz1, hcz2⟩ := info_parts cameInfo
  have hD := farL_dist next th tg
  have hrg := far_rg hD hl
  obtain ⟨sh, hsh⟩ : ∃ sh, sh = shortP next i th tg := ⟨_, rfl⟩
  rw [← hsh]
  unfold shortP at hsh
  generalize farL next th tg = far at *
  have Hr := hide hr
  have HD := hide hD
  have Hrg := hide hrg
  have hfl := hD.len
  clear hr hD hrg
  by_cases hp : 0 ≤ i ∧ i < (next.length : Int)
  · rw [if_pos hp] at hsh
    rw [decide_eq_true hp] at hpl
    obtain ⟨x0, rfl⟩ := Int.eq_ofNat_of_zero_le hp.1
    have hx0 : x0 < next.length := by omega
    rw [Int.toNat_natCast] at hsh
    have Hsh := hide hsh
    have Hpl := hide hpl
    clear hp hsh hpl
    have hmk := fun W : World => run_make (P := Try.prog) W 61 63 ic _ Try.underlying61 hc0 hcz0 .i64 .i64 (next.length : Int) (next.length : Int) (by omega) (by omega) (by rw [hcz2]; omega) (by omega)
    rw [hcz1] at hmk
    simp only [Int.toNat_natCast] at hmk
    have hmk : ∀ W : World, (Instr.makeSlice 61 (.int .i64 (next.length : Int)) (.int .i64 (next.length : Int))).run Try.prog W = .ok (.slice (some ⟨W.heap.size, 0, none⟩) next.length next.length) (W.alloc (.cells (madeCells #[.int .i64 0, .int .i64 0] (next.length * 2)) 63)) := hmk
    go_enter Try.func39, Try.ntmps39
    go_wp2_with fail
    go_step3
    go_wp2_with (go_at_call 54; refine Hpl.out.mono ?_; rintro e w2 ⟨rfl, rfl⟩)
    have hby := ByAt.made w next.length
    have hb0 := (Below.refl w.heap.size w).alloc (Nat.le_refl _) (.cells (madeCells #[.int .i64 0, .int .i64 0] (next.length * 2)) 63)
    clear hmk
    go_loopw [26] (fun i wr => ∃ k : Nat, k ≤ next.length ∧ i = .int .i64 (k : Int) ∧ ByAt wr w.heap.size (fillC next.length k) ∧ Below w.heap.size w wr) (fun i wr => next.length - (intOf i).toNat)
    case atStart => exact ⟨0, Nat.zero_le _, rfl, by simpa [fillC] using hby, hb0⟩
    case round =>
      clear hby hb0
      obtain ⟨k, hk, rfl, hby, hbw⟩ := hrel
      by_cases hlt : k < next.length
      · have hset := fillC_set hlt
        have hfl2 := fillC_len hk
        have c1 := hby.cell1 (k := k) (by omega)
        have c2 := hby.cell2 (k := k) (by omega)
        have f1 := hby.frozen (k * 2)
        have f2 := hby.frozen (k * 2 + 1)
        have hby2 := hby.set_ (k := k) (by omega) (-1) (-1)
        rw [hset] at hby2
        generalize (fillC next.length k).getD k noC = z at *
        obtain ⟨z1, z2⟩ := z
        have Hby2 := hide hby2
        have Hbw := hide hbw
        clear hset hfl2 hby hby2 hbw
        go_wp2_with fail
        go_roundw
        case rel => exact ⟨k + 1, by omega, by go_num, Hby2.out, (Hbw.out.setCell (Nat.le_refl _) _).setCell (Nat.le_refl _) _⟩
        case measure => simp [intOf]; omega
      · obtain rfl : k = next.length := by omega
        rw [fillC_all] at hby
        have hrl : (List.replicate next.length noC).length = next.length := by simp
        have c1 := hby.cell1 (k := x0) (by omega)
        have c2 := hby.cell2 (k := x0) (by omega)
        have f1 := hby.frozen (x0 * 2)
        have f2 := hby.frozen (x0 * 2 + 1)
        have hby2 := hby.set_ (k := x0) (by omega) (x0 : Int) (-1)
        have hlt := hby.lt
        have hst := SI.start HD.out hx0
        generalize (List.replicate next.length noC).getD x0 noC = z at *
        obtain ⟨z1, z2⟩ := z
        have Hby2 := hide hby2
        have Hbw := hide hbw
        have Hst := hide hst
        clear hby hby2 hbw hst hrl
        go_wp2_with fail
        go_step3
        go_wp2_with fail
        have hby3 : ByAt (((wr.setCell ⟨w.heap.size, x0 * 2, none⟩ (.int .i64 (x0 : Int))).setCell ⟨w.heap.size, x0 * 2 + 1, none⟩ (.int .i64 (-1))).alloc (.cells #[.int .i64 (x0 : Int)] 3)) w.heap.size _ := Hby2.out.alloc _
        have hb3 := (((Hbw.out.setCell (p := ⟨w.heap.size, x0 * 2, none⟩) (Nat.le_refl _) (.int .i64 (x0 : Int))).setCell (p := ⟨w.heap.size, x0 * 2 + 1, none⟩) (Nat.le_refl _) (.int .i64 (-1))).alloc (by simpa using Hbw.out.size) (.cells #[.int .i64 (x0 : Int)] 3))
        have ho3 : (((wr.setCell ⟨w.heap.size, x0 * 2, none⟩ (.int .i64 (x0 : Int))).setCell ⟨w.heap.size, x0 * 2 + 1, none⟩ (.int .i64 (-1))).alloc (.cells #[.int .i64 (x0 : Int)] 3)).ownsRow (w.heap.size + 1) 3 1 (.slice (some ⟨wr.heap.size, 0, none⟩) 1 1) [x0].length (rowI [x0]) := by
          have := own_one ((wr.setCell ⟨w.heap.size, x0 * 2, none⟩ (.int .i64 (x0 : Int))).setCell ⟨w.heap.size, x0 * 2 + 1, none⟩ (.int .i64 (-1))) (w.heap.size + 1) (x0 : Int) (by simp; omega)
          simpa [rowI] using this
        have Hby3 := hide hby3
        have Hb3 := hide hb3
        have Ho3 := hide ho3
        clear c1 c2 f1 f2 Hby2 Hbw hby3 hb3 ho3 hlt
        go_loopw [12, 13] (fun r a wx => ∃ (row : List Nat) (by_ : List Came) (n : Nat), a = .int .i64 (n : Int) ∧ SI next th tg far x0 by_ row n 0 ∧ ByAt wx w.heap.size by_ ∧ wx.ownsRow (w.heap.size + 1) 3 1 r row.length (rowI row) ∧ Below w.heap.size w wx) (fun r a wx => next.length - (intOf a).toNat)
        case atStart => exact ⟨[x0], _, 0, rfl, Hst.out, Hby3.out, Ho3.out, Hb3.out⟩
        case round =>
          clear Hby3 Hb3 Ho3 Hst
          obtain ⟨row, by_, n, rfl, hsi, hby, ho, hbw⟩ := hrel
          rename World => wx
          obtain ⟨hl1, hl2, hl3⟩ := hsi.len
          by_cases hlt : n < row.length
          · obtain ⟨gr, cr, rfl, hcr, hgr1, hgr2⟩ := own_some ho (by omega)
            have hcu := own_cell ho rfl (rowI_get hlt)
            have hun := hsi.lt hlt
            have hui : ((row.getD n 0 : Nat) : Int) < (next.length : Int) := by omega
            have his := pathIs_any tg _ ((row.getD n 0 : Nat) : Int) wx hlb (hb.below hbw)
            have his2 := pathIs_any th _ ((row.getD n 0 : Nat) : Int) wx hla (ha.below hbw)
            rw [isB_nat] at his his2
            obtain ⟨u, hu⟩ : ∃ u, u = row.getD n 0 := ⟨_, rfl⟩
            rw [← hu] at hcu hun hui his his2
            by_cases htg : tg.getD u false = true
            · rw [htg] at his
              obtain ⟨D, hDD, huv, h0, hch⟩ := hsi.target HD.out hx0 hlt (hu ▸ htg)
              rw [← hu] at huv
              have hv := vAt_ok HD.out hx0 hDD
              have hDn : D < next.length := by have := (HD.out.lo x0 hx0).2; omega
              have hbk := pathBack_any w.heap.size next.length (vAt next far x0) (eAt next far x0) hl D wx (by omega) hby.lt (fun i hi => (hv i hi).1) (fun i hi => by
                have hvi := (hv i hi).1
                have h1 : eAt next far x0 i ≤ (next.getD (vAt next far x0 i) []).length := List.findIdx_le_length
                have h2 : (next.getD (vAt next far x0 i) []).length ≤ 200 := by rw [List.getD, List.getElem?_eq_getElem hvi]; exact Hr.out _ (List.getElem_mem hvi)
                omega) (fun i hi => by
                have hvi := (hv (i + 1) (by omega)).1
                have e1 := hby.cell1 (k := vAt next far x0 (i + 1)) (by omega)
                have e2 := hby.cell2 (k := vAt next far x0 (i + 1)) (by omega)
                rw [hch i hi] at e1 e2
                exact ⟨e1, e2⟩) (by
                have e2 := hby.cell2 (k := x0) (by omega)
                rw [h0] at e2
                exact e2)
              rw [← huv] at hbk
              have hsh : sh = some (greedyL next far x0 D) := by rw [Hsh.out, if_neg (by omega), hDD, Int.toNat_natCast]
              have His := hide his
              have Hbk := hide hbk
              have Hbw := hide hbw
              have Hsh := hide hsh
              clear his his2 hbk hbw hsh hv hch h0 hDD huv hby ho hsi hu htg
              go_wp2_with (first | (go_at_call 55; refine His.out.mono ?_; rintro e w2 ⟨rfl, rfl⟩) | (go_at_call 56; refine Hbk.out.mono ?_; rintro e w2 ⟨v, rfl, hown, hb2⟩))
              try rw [Exit.noGoto_ret]
              go_ret2
              refine ⟨_, by rw [Hsh.out]; rfl, ?_, Hbw.out.trans (hb2.mono Hbw.out.size)⟩
              rw [Hsh.out, Option.getD_some, greedy_len]
              exact own_base hown Hbw.out.size
            · have htg : tg.getD u false = false := by simpa using htg
              rw [htg] at his
              by_cases hth : th.getD u false = true
              · rw [hth] at his2
                obtain ⟨b6, o6, A6, c6, rfl, hcell60, hc6, _, hri⟩ := hn.at_ hun
                have hcell6 := (hbw.cell (World.block_lt_of_cell? w _ hcell60)).trans hcell60
                obtain ⟨es, hes⟩ : ∃ es, es = next.getD u [] := ⟨_, rfl⟩
                have hesl : es.length ≤ 200 := by rw [hes, List.getD, List.getElem?_eq_getElem hun]; exact Hr.out _ (List.getElem_mem hun)
                rw [← hes] at hcell6 hc6 hri
                clear hcell60
                have His := hide his
                have His2 := hide his2
                have Hsi := hide hsi
                have Hby := hide hby
                have Ho := hide ho
                have Hbw := hide hbw
                have Hu := hide hu
                have Hes := hide hes
                have Htg := hide htg
                have Hth := hide hth
                have Hri := hide hri
                clear his his2 hby ho hbw hsi hu htg hth hes hri hl1 hl2 hl3
                go_wp2_with (first | (go_at_call_of 55 (Value.slice C tg.length cc); refine His.out.mono ?_; rintro e w2 ⟨rfl, rfl⟩) | (go_at_call_of 55 (Value.slice B th.length cb); refine His2.out.mono ?_; rintro e w2 ⟨rfl, rfl⟩))
                go_loopw [12, 68] (fun r k wy => ∃ (row : List Nat) (by_ : List Came) (m : Nat), m ≤ es.length ∧ k = .int .i64 (m : Int) ∧ n < row.length ∧ row.getD n 0 = u ∧ SI next th tg far x0 by_ row n m ∧ ByAt wy w.heap.size by_ ∧ wy.ownsRow (w.heap.size + 1) 3 1 r row.length (rowI row) ∧ Below w.heap.size w wy) (fun r k wy => es.length - (intOf k).toNat)
                case atStart => exact ⟨row, by_, 0, Nat.zero_le _, rfl, hlt, Hu.out.symm, Hsi.out, Hby.out, Ho.out, Hbw.out⟩
                case round =>
                  clear Hsi Hby Ho Hbw Hu hcell6 hc6 hcu hgr1 hgr2 hcr hlt His His2
                  obtain ⟨row, by_, m, hm, rfl, hlt, hu, hsi, hby, ho, hbw⟩ := hrel
                  rename World => wy
                  obtain ⟨hl1, hl2, hl3⟩ := hsi.len
                  obtain ⟨gr, cr, rfl, hcr, hgr1, hgr2⟩ := own_some ho (by omega)
                  have hri := Hri.out.below hbw
                  by_cases hmlt : m < es.length
                  · obtain ⟨b8, o8, rfl, hcell8, hy1, hy2⟩ := hri.at_ hmlt
                    have hpl2 := pathPlace_any next _ (es.getD m 0) wy (by omega) (hn.below hbw)
                    have hpas := fun h => hsi.pass (k := m) HD.out hx0 hlt (hu ▸ Htg.out) h
                    by_cases hp2 : 0 ≤ es.getD m 0 ∧ es.getD m 0 < (next.length : Int)
                    · obtain ⟨q, hq⟩ := Int.eq_ofNat_of_zero_le hp2.1
                      have hqn : q < next.length := by omega
                      rw [decide_eq_true hp2, hq] at hpl2
                      rw [hq] at hcell8 hy1 hy2
                      have hqi : (q : Int) < (next.length : Int) := by omega
                      have cf := hby.cell1 (k := q) (by omega)
                      have cg := hby.cell2 (k := q) (by omega)
                      have ff := hby.frozen (q * 2)
                      have fg := hby.frozen (q * 2 + 1)
                      have hdc := hsi.disc hqn
                      have hset := hby.set_ (k := q) (by omega) (u : Int) (m : Int)
                      have hwl := hby.lt
                      by_cases hfr : (by_.getD q noC).1 < 0
                      · have hadd := hsi.add HD.out hx0 hlt (hu ▸ Hth.out) (hu ▸ Htg.out) (k := m) (by rw [hu, ← Hes.out]; exact hmlt) (x := q) (by rw [hu, ← Hes.out]; exact hq) hqn (fun h => by have := hdc.2 h; omega)
                        rw [hu] at hadd
                        have hrow2 : (row ++ [q]).length ≤ next.length := hadd.len.1
                        generalize by_.getD q noC = z at *
                        obtain ⟨z1, z2⟩ := z
                        have hfr : z1 < 0 := hfr
                        have Hpl2 := hide hpl2
                        have Hadd := hide hadd
                        have Hset := hide hset
                        have Hbw := hide hbw
                        have Hu := hide hu
                        have hon := (ho.alloc (.cells #[] 0))
                        have ho2 := own_far (own_far ho (p := ⟨w.heap.size, q * 2, none⟩) (by simp) (.int .i64 (u : Int))) (p := ⟨w.heap.size, q * 2 + 1, none⟩) (by simp) (.int .i64 (m : Int))
                        have hone : ∀ i uu, [Value.int .i64 (q : Int)][i]? = some uu → (((wy.setCell ⟨w.heap.size, q * 2, none⟩ (.int .i64 (u : Int))).setCell ⟨w.heap.size, q * 2 + 1, none⟩ (.int .i64 (m : Int))).alloc (.cells #[.int .i64 (q : Int)] 3)).cell? ((⟨wy.heap.size, 0, none⟩ : Addr).add i) = some uu := fun i uu hi => by
                          have := one_new ((wy.setCell ⟨w.heap.size, q * 2, none⟩ (.int .i64 (u : Int))).setCell ⟨w.heap.size, q * 2 + 1, none⟩ (.int .i64 (m : Int))) (q : Int) 3 i uu hi
                          simpa using this
                        have Hone := hide hone
                        have Ho2 := hide ho2
                        have Hhl : row.length ≤ 100 := by simp at hrow2; omega
                        clear hpl2 hpas hadd hset ho hbw hu hsi hp2 hri hdc hby hq hrow2 hon hone ho2
                        go_wp2_with (first | (go_at_call 54; refine Hpl2.out.mono ?_; rintro e w2 ⟨rfl, rfl⟩) | (at_builtin; refine wpList_append_own _ rfl (.tmp 90) (.tmp 92) 22 rfl (w.heap.size + 1) 3 i0 _ 1 8 Try.underlying22 hi0 hz0 hz1 hz2 rfl (by omega) _ row.length _ rfl (Ho2.out.alloc _) ⟨wy.heap.size, 0, none⟩ 1 1 [.int .i64 (q : Int)] rfl rfl Hone.out (one_one _) (by unfold maxLen; omega) (by omega) (by simp; omega) ?_; intro v2 w2 hown2 hg2 hat))
                        have hb5 := ((((Hbw.out.setCell (p := ⟨w.heap.size, q * 2, none⟩) (Nat.le_refl _) (.int .i64 (u : Int))).setCell (p := ⟨w.heap.size, q * 2 + 1, none⟩) (Nat.le_refl _) (.int .i64 (m : Int))).alloc (by simpa using Hbw.out.size) (.cells #[.int .i64 (q : Int)] 3))).grown hg2 (by simp; omega) (fun g hg => by have := (World.ownsRow.lt (Ho2.out.alloc (.cells #[.int .i64 (q : Int)] 3)) g hg).1; omega)
                        have hby5 := (Hset.out.alloc (.cells #[.int .i64 (q : Int)] 3)).grown hg2 (own_ne (Ho2.out.alloc (.cells #[.int .i64 (q : Int)] 3)) (Nat.lt_succ_self _))
                        have hown5 : w2.ownsRow (w.heap.size + 1) 3 1 v2 (row ++ [q]).length (rowI (row ++ [q])) := by
                          rw [List.length_append]
                          unfold rowI at hown2 ⊢
                          rw [List.map_append]
                          exact hown2
                        go_roundw
                        case rel => exact ⟨row ++ [q], _, m + 1, by omega, by go_num, by simp; omega, by rw [nget_app, if_pos hlt]; exact Hu.out, Hadd.out, hby5, hown5, hb5⟩
                        case measure => simp [intOf]; omega
                      · have hpas2 := hpas (fun x hx hxn => by
                          have : (x : Int) = (q : Int) := by rw [← hx, hu, ← Hes.out]; exact hq
                          have : x = q := by omega
                          rw [this]; exact hdc.1 (by omega))
                        generalize by_.getD q noC = z at *
                        obtain ⟨z1, z2⟩ := z
                        have hfr : ¬ z1 < 0 := hfr
                        have Hpl2 := hide hpl2
                        have Hpas := hide hpas2
                        have Hby := hide hby
                        have Ho := hide ho
                        have Hbw := hide hbw
                        have Hu := hide hu
                        clear hpl2 hpas hpas2 hset ho hbw hu hsi hp2 hri hdc hby hq
                        go_wp2_with (go_at_call 54; refine Hpl2.out.mono ?_; rintro e w2 ⟨rfl, rfl⟩)
                        go_roundw
                        case rel => exact ⟨row, by_, m + 1, by omega, by go_num, hlt, Hu.out, Hpas.out, Hby.out, Ho.out, Hbw.out⟩
                        case measure => simp [intOf]; omega
                    · rw [decide_eq_false hp2] at hpl2
                      have hpas2 := hpas (fun x hx hxn => absurd (show 0 ≤ es.getD m 0 ∧ es.getD m 0 < (next.length : Int) by rw [hu, ← Hes.out] at hx; rw [hx]; omega) hp2)
                      generalize es.getD m 0 = y at *
                      have Hpl2 := hide hpl2
                      have Hpas := hide hpas2
                      have Hby := hide hby
                      have Ho := hide ho
                      have Hbw := hide hbw
                      have Hu := hide hu
                      clear hpl2 hpas hpas2 hby ho hbw hu hsi hp2 hri
                      go_wp2_with (go_at_call 54; refine Hpl2.out.mono ?_; rintro e w2 ⟨rfl, rfl⟩)
                      go_roundw
                      case rel => exact ⟨row, by_, m + 1, by omega, by go_num, hlt, Hu.out, Hpas.out, Hby.out, Ho.out, Hbw.out⟩
                      case measure => simp [intOf]; omega
                  · obtain rfl : m = es.length := by omega
                    have hmore := hsi.more HD.out hx0 hlt (hu ▸ Htg.out) (.inl (by rw [hu, ← Hes.out]; exact Nat.le_refl _))
                    have Hmore := hide hmore
                    have Hby := hide hby
                    have Ho := hide ho
                    have Hbw := hide hbw
                    clear hmore hby ho hbw hsi hu hri
                    go_wp2_with fail
                    go_roundw
                    case rel => exact ⟨row, by_, n + 1, by go_num, Hmore.out, Hby.out, Ho.out, Hbw.out⟩
                    case measure => simp [intOf]; omega
              · rw [show th.getD u false = false by simpa using hth] at his2
                have hmore := hsi.more HD.out hx0 hlt (hu ▸ htg) (.inr (hu ▸ hth))
                have His := hide his
                have His2 := hide his2
                have Hmore := hide hmore
                have Hby := hide hby
                have Ho := hide ho
                have Hbw := hide hbw
                clear his his2 hmore hby ho hbw hsi hu htg hth
                go_wp2_with (first | (go_at_call_of 55 (Value.slice C tg.length cc); refine His.out.mono ?_; rintro e w2 ⟨rfl, rfl⟩) | (go_at_call_of 55 (Value.slice B th.length cb); refine His2.out.mono ?_; rintro e w2 ⟨rfl, rfl⟩))
                go_roundw
                case rel => exact ⟨row, by_, n + 1, by go_num, Hmore.out, Hby.out, Ho.out, Hbw.out⟩
                case measure => simp [intOf]; omega
          · obtain rfl : n = row.length := by omega
            obtain ⟨Ar, cr, rfl, hcr⟩ := own_form ho
            have hneg := hsi.none
            have hsh : sh = none := by rw [Hsh.out, if_pos hneg]
            subst hsh
            have Hbw := hide hbw
            clear hneg hsi hby ho hbw Hsh
            go_wp2_with fail
            try rw [Exit.noGoto_ret]
            go_ret2
            exact ⟨_, rfl, World.ownsRow_nil _ _ _ _, Hbw.out⟩
  · rw [if_neg hp] at hsh
    rw [decide_eq_false hp] at hpl
    subst hsh
    have Hpl := hide hpl
    clear hp hpl
    go_enter Try.func39, Try.ntmps39
    go_wp2_with fail
    go_step3
    go_wp2_with (go_at_call 54; refine Hpl.out.mono ?_; rintro e w2 ⟨rfl, rfl⟩)
    try rw [Exit.noGoto_ret]
    go_ret2
    exact ⟨_, rfl, World.ownsRow_nil _ _ _ _, Below.refl _ _⟩

end Go.Proofs.Ytcdeidedcbnhaaa
