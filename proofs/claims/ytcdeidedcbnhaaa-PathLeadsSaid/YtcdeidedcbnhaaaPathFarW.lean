/-
  THE WALK of warderref35.Far.
-/
import Derived.Test.YtcdeidedcbnhaaaPathFar
import Derived.Test.YtcdeidedcbnhaaaLabelK
set_option linter.unusedVariables false
set_option linter.unusedSimpArgs false
namespace Go.Proofs.Ytcdeidedcbnhaaa
open Go.RowKit

theorem ilist_eq {a b : List Int} (hl : a.length = b.length) (h : ∀ j, j < a.length → a.getD j 0 = b.getD j 0) : a = b := by
  apply List.ext_getElem hl
  intro i h1 h2
  have := h i h1
  rwa [List.getD, List.getElem?_eq_getElem h1, List.getD, List.getElem?_eq_getElem h2] at this

/-- how far one round has come: the places before i are new, of place i so many edges are looked at -/
structure NAt (next : List (List Int)) (th : List Bool) (n : Nat) (far : List Int) (i m : Nat) (L : List Int) : Prop where
  len : L.length = next.length
  pre : ∀ j, j < i → j < next.length → L.getD j 0 = (farStep next th n far).getD j 0
  cur : L.getD i 0 = if far.getD i 0 < 0 ∧ th.getD i false = true ∧ ((next.getD i []).take m).any (nearTo next far ((n : Int) - 1)) = true then (n : Int) else far.getD i 0
  post : ∀ j, i < j → L.getD j 0 = far.getD j 0
section
variable {next : List (List Int)} {th : List Bool} {n : Nat} {far L : List Int}
theorem NAt.start (h : far.length = next.length) : NAt next th n far 0 0 far := ⟨h, fun j hj => by omega, by simp, fun _ _ => rfl⟩
theorem NAt.step {i m : Nat} (h : NAt next th n far i m L) (hi : i < next.length) (hm : m < (next.getD i []).length) (hf : far.getD i 0 < 0) (ht : th.getD i false = true) (hn : nearTo next far ((n : Int) - 1) ((next.getD i []).getD m 0) = true) : NAt next th n far i (m + 1) (L.set i (n : Int)) := by
  have hil : i < L.length := by rw [h.len]; exact hi
  refine ⟨by rw [List.length_set, h.len], fun j hj hj2 => ?_, ?_, fun j hj => ?_⟩
  · rw [iget_set _ _ _ hil, if_neg (by omega)]; exact h.pre j hj hj2
  · rw [iget_set _ _ _ hil, if_pos rfl, if_pos]
    refine ⟨hf, ht, ?_⟩
    rw [getD_get _ _ hm] at hn
    rw [List.take_succ_eq_append_getElem hm, List.any_append]
    simp only [List.any_cons, List.any_nil, Bool.or_false, Bool.or_eq_true]
    exact .inr hn
  · rw [iget_set _ _ _ hil, if_neg (by omega)]; exact h.post j hj
theorem NAt.skip {i m : Nat} (h : NAt next th n far i m L) (hm : m < (next.getD i []).length) (hn : ¬ (far.getD i 0 < 0 ∧ th.getD i false = true ∧ nearTo next far ((n : Int) - 1) ((next.getD i []).getD m 0) = true)) : NAt next th n far i (m + 1) L := by
  refine ⟨h.len, h.pre, ?_, h.post⟩
  rw [h.cur, List.take_succ_eq_append_getElem hm, List.any_append]
  rw [getD_get _ _ hm] at hn
  simp only [List.any_cons, List.any_nil, Bool.or_false, Bool.or_eq_true]
  by_cases h1 : far.getD i 0 < 0 ∧ th.getD i false = true ∧ ((next.getD i []).take m).any (nearTo next far ((n : Int) - 1)) = true
  · rw [if_pos h1, if_pos ⟨h1.1, h1.2.1, .inl h1.2.2⟩]
  · rw [if_neg h1, if_neg]
    rintro ⟨h2, h3, h4⟩
    rcases h4 with h5 | h5
    · exact h1 ⟨h2, h3, h5⟩
    · exact hn ⟨h2, h3, h5⟩
theorem NAt.row {i : Nat} (h : NAt next th n far i (next.getD i []).length L) (hi : i < next.length) : NAt next th n far (i + 1) 0 L := by
  refine ⟨h.len, fun j hj hj2 => ?_, ?_, fun j hj => h.post j (by omega)⟩
  · by_cases e : j = i
    · subst e
      rw [h.cur, List.take_length, farStep_at hi]
    · exact h.pre j (by omega) hj2
  · rw [h.post (i + 1) (by omega)]; simp
theorem NAt.done {m : Nat} (h : NAt next th n far next.length m L) : L = farStep next th n far :=
  ilist_eq (by rw [h.len]; simp [farStep]) fun j hj => by rw [h.len] at hj; exact h.pre j hj hj
end

theorem near_nat {next : List (List Int)} {far : List Int} {n : Int} {q : Nat} : nearTo next far n (q : Int) = true ↔ q < next.length ∧ far.getD q 0 = n := by
  unfold nearTo
  simp only [Bool.and_eq_true, decide_eq_true_eq]
  constructor
  · rintro ⟨⟨h1, h2⟩, h3⟩
    exact ⟨by omega, by simpa using h3⟩
  · rintro ⟨h1, h2⟩
    exact ⟨⟨by omega, by omega⟩, by simpa using h2⟩
theorem near_out {next : List (List Int)} {far : List Int} {n y : Int} (h : ¬ (0 ≤ y ∧ y < (next.length : Int))) : ¬ nearTo next far n y = true := by
  unfold nearTo
  simp only [Bool.and_eq_true, decide_eq_true_eq]
  exact fun h2 => h h2.1

set_option maxRecDepth 100000 in
set_option maxHeartbeats 4000000 in
theorem far_any (next : List (List Int)) (th tg : List Bool) (vn va vb : Value) (w : World) (hl : next.length ≤ 100) (hr : ∀ r ∈ next, r.length ≤ 200) (hla : th.length ≤ 9223372036854775807) (hlb : tg.length ≤ 9223372036854775807) (hn : RR w vn next) (ha : RB w va th) (hb : RB w vb tg) :
    Calls Try.prog 57 #[vn, va, vb] w fun e w' => ∃ v, e = .returned v ∧ w'.ownsRow w.heap.size 3 1 v next.length ((farL next th tg).map (Value.int .i64)) ∧ Below w.heap.size w w' := by
  obtain ⟨A, c, rfl, hc⟩ := hn.form
  obtain ⟨B, cb, rfl, hcb⟩ := ha.form
  obtain ⟨C, cc, rfl, hcc⟩ := hb.form
  have hmk2 := run_make_row' (P := Try.prog) 22 3 (.int .i64 0) 8 Try.underlying22 intInfo rfl .i64 .i64 next.length (by omega) (by omega)
  obtain ⟨i0, hi0, hz0, hz1, hz2⟩ := info_parts intInfo
  have ho := OI.made w next.length (by omega)
  have hb0 := (Below.refl w.heap.size w).alloc (Nat.le_refl _) (.cells (madeCells #[.int .i64 0] next.length) 3)
  have Ho := hide ho
  have Hb0 := hide hb0
  have Hr := hide hr
  clear ho hb0 hr
  go_enter Try.func57, Try.ntmps57
  go_wp2_with fail
  clear hmk2
  go_loopw [8] (fun i wr => ∃ (k : Nat) (L : List Int), k ≤ next.length ∧ i = .int .i64 (k : Int) ∧ L.length = next.length ∧ (∀ j, j < k → L.getD j 0 = (far0 next tg).getD j 0) ∧ OI wr w.heap.size (.slice (some ⟨w.heap.size, 0, none⟩) next.length next.length) L ∧ Below w.heap.size w wr) (fun i wr => next.length - (intOf i).toNat)
  case atStart => exact ⟨0, _, Nat.zero_le _, rfl, by simp, fun j hj => by omega, Ho.out, Hb0.out⟩
  case round =>
    clear Ho Hb0
    obtain ⟨k, L, hk, rfl, hLl, hpre, ho, hbl⟩ := hrel
    rename World => wr
    by_cases hlt : k < next.length
    · have his := fun W h => refIs_any tg _ (k : Int) W (by omega) (hb.below (w' := W) h)
      rw [isB_nat] at his
      have hfz := far0_at (tg := tg) hlt
      have c1 := ho.cell (k := k) (by omega)
      have f1 := ho.frozen k
      have ho1 := ho.set k (-1)
      have ho2 := ho1.set k 0
      have hb1 := hbl.setCell (p := ⟨w.heap.size, k, none⟩) (Nat.le_refl _) (.int .i64 (-1))
      have hb2 := hb1.setCell (p := ⟨w.heap.size, k, none⟩) (Nat.le_refl _) (.int .i64 0)
      have hi1 := his _ hb1
      have c2 := ho1.cell (k := k) (by rw [List.length_set]; omega)
      have f2 := ho1.frozen k
      have hst1 : tg.getD k false = false → ∀ j, j < k + 1 → (L.set k (-1)).getD j 0 = (far0 next tg).getD j 0 := fun h j hj => by
        rw [iget_set _ _ _ (by omega)]
        split
        · rename_i e; subst e; rw [hfz, if_neg (by rw [h]; simp)]
        · exact hpre j (by omega)
      have hst2 : tg.getD k false = true → ∀ j, j < k + 1 → ((L.set k (-1)).set k 0).getD j 0 = (far0 next tg).getD j 0 := fun h j hj => by
        rw [iget_set _ _ _ (by rw [List.length_set]; omega)]
        split
        · rename_i e; subst e; rw [hfz, if_pos h]
        · rw [iget_set _ _ _ (by omega), if_neg (by assumption)]; exact hpre j (by omega)
      have hl1 : (L.set k (-1)).length = next.length := by rw [List.length_set, hLl]
      have hl2 : ((L.set k (-1)).set k 0).length = next.length := by rw [List.length_set, hl1]
      generalize tg.getD k false = p at *
      generalize L.getD k 0 = z at *
      generalize (L.set k (-1)).getD k 0 = z2 at c2
      have Hi1 := hide hi1
      have Ho1 := hide ho1
      have Ho2 := hide ho2
      have Hb1 := hide hb1
      have Hb2 := hide hb2
      have Hst1 := hide hst1
      have Hst2 := hide hst2
      have Hl1 := hide hl1
      have Hl2 := hide hl2
      have HLl := hide hLl
      clear his hi1 ho1 ho2 hb1 hb2 hst1 hst2 hl1 hl2 hfz ho hbl hpre hLl
      cases p with
      | true =>
        go_wp2_with (go_at_call 28; refine Hi1.out.mono ?_; rintro e w2 ⟨rfl, rfl⟩)
        go_roundw
        case rel => exact ⟨k + 1, _, by omega, by go_num, Hl2.out, Hst2.out (by simp), Ho2.out, Hb2.out⟩
        case measure => simp [intOf]; omega
      | false =>
        go_wp2_with (go_at_call 28; refine Hi1.out.mono ?_; rintro e w2 ⟨rfl, rfl⟩)
        go_roundw
        case rel => exact ⟨k + 1, _, by omega, by go_num, Hl1.out, Hst1.out (by simp), Ho1.out, Hb1.out⟩
        case measure => simp [intOf]; omega
    · obtain rfl : k = next.length := by omega
      have hLe : L = farIt next th tg 0 := ilist_eq (by rw [hLl, farIt_len]) fun j hj => hpre j (by omega)
      subst hLe
      have hown : wr.ownsRow w.heap.size 3 1 (.slice (some ⟨w.heap.size, 0, none⟩) next.length next.length) next.length ((farIt next th tg 0).map (Value.int .i64)) := by
        have := ho
        unfold OI at this
        rw [hLl] at this; exact this
      have Hown := hide hown
      have Hbl := hide hbl
      clear hpre ho hown hbl hLl
      go_wp2_with fail
      go_loopw [7, 9] (fun v i wx => ∃ m : Nat, m ≤ next.length ∧ i = .int .i64 ((m : Int) + 1) ∧ wx.ownsRow w.heap.size 3 1 v next.length ((farIt next th tg m).map (Value.int .i64)) ∧ Below w.heap.size w wx) (fun v i wx => next.length + 1 - (intOf i).toNat)
      case atStart => exact ⟨0, Nat.zero_le _, rfl, Hown.out, Hbl.out⟩
      case round =>
        clear Hown Hbl
        obtain ⟨m, hm, rfl, hown, hbl⟩ := hrel
        rename World => wx
        by_cases hmlt : m < next.length
        · obtain ⟨gf, cf, rfl, hncf, hgf1, hgf2⟩ := own_some hown (by omega)
          have hm2 : (m : Int) + 1 ≤ (next.length : Int) := by omega
          have hfl : (farIt next th tg m).length = next.length := farIt_len m
          have hlit : (wx.alloc (.cells #[] 3)).ownsRow wx.heap.size 3 1 (.slice (some ⟨wx.heap.size, 0, none⟩) 0 0) 0 [] := World.ownsRow_lit wx #[] 0 (Nat.le_refl _) (Nat.zero_le _) (by simp)
          have hrg : ∀ y ∈ farIt next th tg m, -9223372036854775808 ≤ y ∧ y ≤ 9223372036854775807 := fun y hy => by
            obtain ⟨j, hj, rfl⟩ := List.getElem_of_mem hy
            have := far_range (th := th) (tg := tg) (i := j) (by rw [← hfl]; exact hj) m
            rw [getD_get _ _ hj] at this
            omega
          have hRI := RI.own hown hrg
          have hstep : farIt next th tg (m + 1) = farStep next th (m + 1) (farIt next th tg m) := rfl
          have hgt : (farIt next th tg m).length ≤ 100 := by omega
          have hones : ∀ u ∈ (farIt next th tg m).map (Value.int .i64), u.oneCell' = true := fun u hu => by
            obtain ⟨y, _, rfl⟩ := List.mem_map.1 hu; rfl
          have hnews := (hown.alloc (.cells #[] 3)).cells (g := gf) rfl
          have hNs := NAt.start (th := th) (n := m + 1) hfl
          generalize farIt next th tg m = far at *
          have Hstep := hide hstep
          have HRI := hide hRI
          have HNs := hide hNs
          have Hfl := hide hfl
          clear hstep hRI hrg hNs hown
          go_wp2_with (at_builtin; refine wpList_append_own _ rfl (.tmp 38) (.tmp 39) 22 rfl wx.heap.size 3 i0 _ 1 8 Try.underlying22 hi0 hz0 hz1 hz2 rfl (by omega) _ 0 _ rfl hlit ⟨gf, 0, none⟩ next.length cf (far.map (Value.int .i64)) rfl (by simp; omega) hnews hones (by unfold maxLen; omega) (by omega) (by simp) ?_; intro v2 w2 hown2 hg2 _)
          rw [Nat.zero_add, List.nil_append] at hown2
          have hb2 : Below wx.heap.size wx w2 := ((Below.refl wx.heap.size wx).alloc (Nat.le_refl _) (.cells #[] 3)).grown hg2 (by simp) (fun j hj => by have hj2 : some wx.heap.size = some j := hj; have := Option.some.inj hj2; omega)
          obtain ⟨g2, c2, rfl, hnc2, hg21, hg22⟩ := own_some hown2 (by omega)
          have hoi : OI w2 wx.heap.size (.slice (some ⟨g2, 0, none⟩) next.length c2) far := by unfold OI; rw [Hfl.out]; exact hown2
          have Hoi := hide hoi
          have Hb2 := hide hb2
          have Hbl := hide hbl
          clear hoi hb2 hown2 hg2 hlit hones hnews hbl
          go_loopw [11] (fun i wr => ∃ (k : Nat) (L : List Int), k ≤ next.length ∧ i = .int .i64 (k : Int) ∧ NAt next th (m + 1) far k 0 L ∧ OI wr wx.heap.size (.slice (some ⟨g2, 0, none⟩) next.length c2) L ∧ Below wx.heap.size wx wr) (fun i wr => next.length - (intOf i).toNat)
          case atStart => exact ⟨0, far, Nat.zero_le _, rfl, HNs.out, Hoi.out, Hb2.out⟩
          case round =>
            obtain ⟨k, L, hk, rfl, hN, ho, hbz⟩ := hrel
            rename World => wz
            by_cases hlt : k < next.length
            · obtain ⟨b, o, A', c', rfl, hcell0, hc1, hc2, hri⟩ := hn.at_ hlt
              obtain ⟨row, hrw⟩ : ∃ row, row = next.getD k [] := ⟨_, rfl⟩
              have hrow : row.length ≤ 200 := by rw [hrw, List.getD, List.getElem?_eq_getElem hlt]; exact Hr.out _ (List.getElem_mem hlt)
              rw [← hrw] at hcell0 hc1 hri
              have Hrw := hide hrw
              have HN := hide hN
              have Hoz := hide ho
              have Hbz := hide hbz
              clear hrw hN ho hbz
              have hgw0 := World.block_lt_of_cell? w _ hcell0
              go_wp2_with fail
              go_loopw [12] (fun i wr => ∃ (j : Nat) (L : List Int), j ≤ row.length ∧ i = .int .i64 (j : Int) ∧ NAt next th (m + 1) far k j L ∧ OI wr wx.heap.size (.slice (some ⟨g2, 0, none⟩) next.length c2) L ∧ Below wx.heap.size wx wr) (fun i wr => row.length - (intOf i).toNat)
              case atStart => exact ⟨0, L, Nat.zero_le _, rfl, HN.out, Hoz.out, Hbz.out⟩
              case round =>
                clear HN Hoz Hbz
                obtain ⟨j, L, hj, rfl, hN, ho, hbz⟩ := hrel
                rename World => wq
                have hb03 := Hbl.out.trans (hbz.mono Hbl.out.size)
                have hcell := (hb03.cell (p := ⟨b, o + k, none⟩) hgw0).trans hcell0
                by_cases hjlt : j < row.length
                · obtain ⟨b3, o3, rfl, hcell3, hz1, hz2⟩ := (hri.below hb03).at_ hjlt
                  have hfx := HRI.out.below hbz
                  obtain ⟨b4, o4, eq4, hcell4, _, _⟩ := hfx.at_ (k := k) (by rw [Hfl.out]; exact hlt)
                  cases eq4
                  rw [Nat.zero_add] at hcell4
                  have hNl := hN.len
                  have c1 := ho.cell (k := k) (by omega)
                  have f1 := ho.frozen k
                  have his := refIs_any th _ (k : Int) wq (by omega) (ha.below hb03)
                  rw [isB_nat] at his
                  have hsk := hN.skip (by rw [← Hrw.out]; exact hjlt)
                  have hst := hN.step hlt (by rw [← Hrw.out]; exact hjlt)
                  rw [← Hrw.out] at hsk hst
                  rw [show ((m + 1 : Nat) : Int) - 1 = (m : Int) by omega] at hsk hst
                  have hos := ho.set k (((m + 1 : Nat)) : Int)
                  have hbs := hbz.setCell (p := ⟨g2, k, none⟩) hg21 (.int .i64 ((m + 1 : Nat) : Int))
                  rw [show (((m + 1 : Nat)) : Int) = (m : Int) + 1 by omega] at hst hos hbs
                  generalize far.getD k 0 = fk at *
                  generalize th.getD k false = p at *
                  generalize L.getD k 0 = z at c1
                  have Hsk := hide hsk
                  have Hst := hide hst
                  have Hos := hide hos
                  have Hbs := hide hbs
                  have His := hide his
                  have Ho := hide ho
                  have HNl := hide hNl
                  clear hsk hst hos hbs his ho hNl hN
                  by_cases hf : fk < 0
                  · cases p with
                    | false =>
                      go_wp2_with (go_at_call 28; refine His.out.mono ?_; rintro e w2 ⟨rfl, rfl⟩)
                      go_roundw
                      case rel => exact ⟨j + 1, L, by omega, by go_num, Hsk.out (fun h => by have := h.2.1; simp at this), Ho.out, hbz⟩
                      case measure => simp [intOf]; omega
                    | true =>
                      by_cases hy : 0 ≤ row.getD j 0 ∧ row.getD j 0 < (next.length : Int)
                      · obtain ⟨q, hq⟩ := Int.eq_ofNat_of_zero_le hy.1
                        have hqn : q < next.length := by omega
                        rw [hq] at hcell3 Hsk Hst
                        obtain ⟨b5, o5, eq5, hcell5, _, _⟩ := hfx.at_ (k := q) (by rw [Hfl.out]; exact hqn)
                        cases eq5
                        rw [Nat.zero_add] at hcell5
                        have hqi : (q : Int) < (next.length : Int) := by omega
                        clear hq hy
                        by_cases hd : far.getD q 0 = (m : Int)
                        · have hs2 := Hst.out hf (by simp) (near_nat.2 ⟨hqn, hd⟩)
                          have Hs2 := hide hs2
                          rw [hd] at hcell5
                          have Hd := hide hd
                          clear hs2 hd
                          go_wp2_with (go_at_call 28; refine His.out.mono ?_; rintro e w2 ⟨rfl, rfl⟩)
                          go_roundw
                          case rel => exact ⟨j + 1, _, by omega, by go_num, Hs2.out, Hos.out, Hbs.out⟩
                          case measure => simp [intOf]; omega
                        · have hs2 := Hsk.out (fun h => hd (near_nat.1 h.2.2).2)
                          have Hs2 := hide hs2
                          generalize far.getD q 0 = fq at *
                          have hdd : (fq == (m : Int)) = false := by simp [hd]
                          clear hs2
                          go_wp2_with (go_at_call 28; refine His.out.mono ?_; rintro e w2 ⟨rfl, rfl⟩)
                          go_roundw
                          case rel => exact ⟨j + 1, L, by omega, by go_num, Hs2.out, Ho.out, hbz⟩
                          case measure => simp [intOf]; omega
                      · have hs2 := Hsk.out (fun h => near_out hy h.2.2)
                        have Hs2 := hide hs2
                        generalize row.getD j 0 = y at *
                        clear hs2
                        by_cases hy0 : 0 ≤ y
                        · have hy1 : (next.length : Int) ≤ y := by omega
                          clear hy
                          go_wp2_with (go_at_call 28; refine His.out.mono ?_; rintro e w2 ⟨rfl, rfl⟩)
                          go_roundw
                          case rel => exact ⟨j + 1, L, by omega, by go_num, Hs2.out, Ho.out, hbz⟩
                          case measure => simp [intOf]; omega
                        · have hy1 : y < 0 := by omega
                          clear hy
                          go_wp2_with (go_at_call 28; refine His.out.mono ?_; rintro e w2 ⟨rfl, rfl⟩)
                          go_roundw
                          case rel => exact ⟨j + 1, L, by omega, by go_num, Hs2.out, Ho.out, hbz⟩
                          case measure => simp [intOf]; omega
                  · have hf2 : 0 ≤ fk := by omega
                    have hs2 := Hsk.out (fun h => hf h.1)
                    have Hs2 := hide hs2
                    clear hs2 hf
                    generalize row.getD j 0 = y at *
                    go_wp2_with fail
                    go_roundw
                    case rel => exact ⟨j + 1, L, by omega, by go_num, Hs2.out, Ho.out, hbz⟩
                    case measure => simp [intOf]; omega
                · obtain rfl : j = row.length := by omega
                  rw [Hrw.out] at hN
                  have hN2 := hN.row hlt
                  have HN2 := hide hN2
                  have Hoz := hide ho
                  have Hbz := hide hbz
                  clear hN hN2 ho hbz hb03
                  go_wp2_with fail
                  go_roundw
                  case rel => exact ⟨k + 1, L, by omega, by go_num, HN2.out, Hoz.out, Hbz.out⟩
                  case measure => simp [intOf]; omega
            · obtain rfl : k = next.length := by omega
              have hd := hN.done
              rw [← Hstep.out] at hd
              have hb3 := Hbl.out.trans (hbz.mono Hbl.out.size)
              have hown3 : wz.ownsRow w.heap.size 3 1 (.slice (some ⟨g2, 0, none⟩) next.length c2) next.length ((farIt next th tg (m + 1)).map (Value.int .i64)) := by
                have := ho
                unfold OI at this
                rw [hN.len, hd] at this
                exact own_base this Hbl.out.size
              have Hown3 := hide hown3
              have Hb3 := hide hb3
              clear hd hb3 hown3 ho hN hbz
              go_wp2_with fail
              go_roundw
              case rel => exact ⟨m + 1, by omega, by go_num, Hown3.out, Hb3.out⟩
              case measure => simp [intOf]; omega
        · obtain rfl : m = next.length := by omega
          have Hown := hide hown
          clear hown
          go_wp2_with fail
          go_ret
          exact ⟨_, rfl, Hown.out, hbl⟩

end Go.Proofs.Ytcdeidedcbnhaaa
