/-
  LabelSets: the law's walk.
-/
import Derived.Test.YtcdeidedcbnhaaaLabelLaws
set_option linter.unusedVariables false
set_option linter.unusedSimpArgs false
namespace Go.Proofs.Ytcdeidedcbnhaaa
open Go.RowKit

theorem andL_length (a b : List Bool) : (andL a b).length = max a.length b.length := by unfold andL; simp
theorem not_at (a : List Bool) (k : Nat) (hk : k < a.length) : (a.map (!·)).getD k false = !(a.getD k false) := by
  rw [List.getD, List.getElem?_map, List.getElem?_eq_getElem hk, List.getD, List.getElem?_eq_getElem hk]; rfl

/-- a call that changes nothing, within a region that draws -/
theorem quietOf {P : Program} {f : FuncId} {args : Array Value} {w : World} {n : Nat} {v : Value} (h : Calls P f args (w.drewN n) fun e w' => e = .returned v ∧ w.drewN n = w') : Calls P f args (w.drewN n) fun e w'' => e = .returned v ∧ ∃ m, w'' = w.drewN m :=
  h.mono fun _ _ ⟨he, hm⟩ => ⟨he, n, hm.symm⟩

set_option maxHeartbeats 2000000 in
theorem labelSets_law (a b : List Bool) (va vb : Value) (w : World) (hla : a.length ≤ 281474976710656) (hlb : b.length ≤ 281474976710656) (ha : RB w va a) (hbb : RB w vb b) :
    Calls Try.prog 6 #[va, vb] w fun e w' => e = .returned (.bool true) ∧ Below w.heap.size w w' := by
  obtain ⟨B, cb, rfl, hcb⟩ := ha.form
  obtain ⟨C, cc, rfl, hcc⟩ := hbb.form
  by_cases hab : a.length < b.length
  · go_enter Try.func6, Try.ntmps6
    go_wp2_with fail
    refine (not_any a _ _ (by omega) ha).mono ?_
    intro e w1 hp1
    obtain ⟨v1, rfl, q1, b1⟩ := hp1.own
    clear hp1
    go_wp2_with fail
    refine (and_any a b _ _ _ (by omega) (by omega) (ha.below b1) (hbb.below b1)).mono ?_
    intro e w2 hp2
    obtain ⟨v2, rfl, q2, b2⟩ := hp2.own
    clear hp2
    have b02 := b1.trans (b2.mono b1.size)
    have q1' := q1.below b2
    obtain ⟨n, hn⟩ : ∃ n, n = a.map (!·) := ⟨_, rfl⟩
    obtain ⟨both, hbo⟩ : ∃ both, both = andL a b := ⟨_, rfl⟩
    have hnl : n.length = a.length := by rw [hn, List.length_map]
    have hbl : both.length = b.length := by rw [hbo, andL_length]; omega
    have hnat := fun k hk => not_at a k hk
    have hbat := fun k => andL_at a b k
    rw [← hn] at q1' hnat
    rw [← hbo] at q2 hbat
    obtain ⟨A1, c1, rfl, hc1⟩ := q1'.form
    obtain ⟨A2, c2, rfl, hc2⟩ := q2.form
    rw [hnl] at q1'
    rw [hbl] at q2
    rw [hnl, hbl]
    have Q1 := hide q1'
    have Q2 := hide q2
    have Ha := hide (ha.below b02)
    have Hbb := hide (hbb.below b02)
    have Hnat := hide hnat
    have Hbat := hide hbat
    have B02 := hide b02
    rw [hnl] at hc1
    rw [hbl] at hc2
    clear q1 q1' q2 b1 b2 hnat hbat hn hbo b02 ha hbb
    go_wp2_with fail
    go_loopw [7] (fun i wr => ∃ k : Nat, k ≤ a.length ∧ i = .int .i64 (k : Int) ∧ Below w2.heap.size w2 wr) (fun i wr => a.length - (intOf i).toNat)
    case atStart => exact ⟨0, Nat.zero_le _, rfl, Below.refl _ _⟩
    case round =>
      obtain ⟨k, hk, rfl, hbd⟩ := hrel
      rename World => wr
      by_cases hlt : k < a.length
      · obtain ⟨g1, o1, rfl, hcell⟩ := (Q1.out.below hbd).at_ (k := k) (by omega)
        obtain ⟨g2, o2, rfl, hcell2⟩ := (Ha.out.below hbd).at_ hlt
        rw [Hnat.out k hlt] at hcell
        have hi : (k : Int) < (a.length : Int) := by omega
        generalize a.getD k false = x at *
        have h1 : (!x == x) = false := by cases x <;> rfl
        go_wp2_with fail
        go_quiet (fail)
        go_wp2_with fail
        go_roundw
        case rel => exact ⟨k + 1, by omega, by go_num, below_drewN hbd _⟩
        case measure => simp [intOf]; omega
      · obtain rfl : k = a.length := by omega
        go_wp2_with fail
        go_loopw [8] (fun i wx => ∃ k : Nat, k ≤ b.length ∧ i = .int .i64 (k : Int) ∧ Below w2.heap.size w2 wx) (fun i wr => b.length - (intOf i).toNat)
        case atStart => exact ⟨0, Nat.zero_le _, rfl, hbd⟩
        case round =>
          obtain ⟨k, hk, rfl, hbd⟩ := hrel
          rename World => wx
          by_cases hlt : k < b.length
          · obtain ⟨g2, o2, rfl, hcell2⟩ := (Q2.out.below hbd).at_ (k := k) (by omega)
            rw [Hbat.out k] at hcell2
            have h1 := fun m => refIs_any a _ (k : Int) (wx.drewN m) (by omega) (Ha.out.below (below_drewN hbd m))
            have h2 := fun m => refIs_any b _ (k : Int) (wx.drewN m) (by omega) (Hbb.out.below (below_drewN hbd m))
            rw [isB_nat] at h1 h2
            have hi : (k : Int) < (b.length : Int) := by omega
            generalize a.getD k false = x at *
            generalize b.getD k false = y at *
            have H1 := hide h1
            have H2 := hide h2
            clear h1 h2
            have hyy : (y != y) = false := by simp
            have hff : (false != false) = false := rfl
            cases x with
            | true =>
              simp only [Bool.true_and] at hcell2
              go_wp2_with fail
              go_quiet (first
                | (go_at_call_of 28 (Value.slice B a.length cb); exact quietOf (H1.out _))
                | (go_at_call_of 28 (Value.slice C b.length cc); exact quietOf (H2.out _)))
              go_wp2_with fail
              go_roundw
              case rel => exact ⟨k + 1, by omega, by go_num, below_drewN hbd _⟩
              case measure => simp [intOf]; omega
            | false =>
              simp only [Bool.false_and] at hcell2
              go_wp2_with fail
              go_quiet (first
                | (go_at_call_of 28 (Value.slice B a.length cb); exact quietOf (H1.out _))
                | (go_at_call_of 28 (Value.slice C b.length cc); exact quietOf (H2.out _)))
              go_wp2_with fail
              go_roundw
              case rel => exact ⟨k + 1, by omega, by go_num, below_drewN hbd _⟩
              case measure => simp [intOf]; omega
          · obtain rfl : k = b.length := by omega
            go_wp2_with fail
            refine (labelAwake_any _).mono ?_
            rintro e w10 ⟨rfl, b10⟩
            have b010 := B02.out.trans ((hbd.trans (b10.mono hbd.size)).mono B02.out.size)
            go_wp2_with fail
            go_ret
            exact ⟨rfl, b010⟩
  · go_enter Try.func6, Try.ntmps6
    go_wp2_with fail
    refine (not_any a _ _ (by omega) ha).mono ?_
    intro e w1 hp1
    obtain ⟨v1, rfl, q1, b1⟩ := hp1.own
    clear hp1
    go_wp2_with fail
    refine (and_any a b _ _ _ (by omega) (by omega) (ha.below b1) (hbb.below b1)).mono ?_
    intro e w2 hp2
    obtain ⟨v2, rfl, q2, b2⟩ := hp2.own
    clear hp2
    have b02 := b1.trans (b2.mono b1.size)
    have q1' := q1.below b2
    obtain ⟨n, hn⟩ : ∃ n, n = a.map (!·) := ⟨_, rfl⟩
    obtain ⟨both, hbo⟩ : ∃ both, both = andL a b := ⟨_, rfl⟩
    have hnl : n.length = a.length := by rw [hn, List.length_map]
    have hbl : both.length = a.length := by rw [hbo, andL_length]; omega
    have hnat := fun k hk => not_at a k hk
    have hbat := fun k => andL_at a b k
    rw [← hn] at q1' hnat
    rw [← hbo] at q2 hbat
    obtain ⟨A1, c1, rfl, hc1⟩ := q1'.form
    obtain ⟨A2, c2, rfl, hc2⟩ := q2.form
    rw [hnl] at q1'
    rw [hbl] at q2
    rw [hnl, hbl]
    have Q1 := hide q1'
    have Q2 := hide q2
    have Ha := hide (ha.below b02)
    have Hbb := hide (hbb.below b02)
    have Hnat := hide hnat
    have Hbat := hide hbat
    have B02 := hide b02
    rw [hnl] at hc1
    rw [hbl] at hc2
    clear q1 q1' q2 b1 b2 hnat hbat hn hbo b02 ha hbb
    go_wp2_with fail
    go_loopw [7] (fun i wr => ∃ k : Nat, k ≤ a.length ∧ i = .int .i64 (k : Int) ∧ Below w2.heap.size w2 wr) (fun i wr => a.length - (intOf i).toNat)
    case atStart => exact ⟨0, Nat.zero_le _, rfl, Below.refl _ _⟩
    case round =>
      obtain ⟨k, hk, rfl, hbd⟩ := hrel
      rename World => wr
      by_cases hlt : k < a.length
      · obtain ⟨g1, o1, rfl, hcell⟩ := (Q1.out.below hbd).at_ (k := k) (by omega)
        obtain ⟨g2, o2, rfl, hcell2⟩ := (Ha.out.below hbd).at_ hlt
        rw [Hnat.out k hlt] at hcell
        have hi : (k : Int) < (a.length : Int) := by omega
        generalize a.getD k false = x at *
        have h1 : (!x == x) = false := by cases x <;> rfl
        go_wp2_with fail
        go_quiet (fail)
        go_wp2_with fail
        go_roundw
        case rel => exact ⟨k + 1, by omega, by go_num, below_drewN hbd _⟩
        case measure => simp [intOf]; omega
      · obtain rfl : k = a.length := by omega
        go_wp2_with fail
        go_loopw [8] (fun i wx => ∃ k : Nat, k ≤ a.length ∧ i = .int .i64 (k : Int) ∧ Below w2.heap.size w2 wx) (fun i wr => a.length - (intOf i).toNat)
        case atStart => exact ⟨0, Nat.zero_le _, rfl, hbd⟩
        case round =>
          obtain ⟨k, hk, rfl, hbd⟩ := hrel
          rename World => wx
          by_cases hlt : k < a.length
          · obtain ⟨g2, o2, rfl, hcell2⟩ := (Q2.out.below hbd).at_ (k := k) (by omega)
            rw [Hbat.out k] at hcell2
            have h1 := fun m => refIs_any a _ (k : Int) (wx.drewN m) (by omega) (Ha.out.below (below_drewN hbd m))
            have h2 := fun m => refIs_any b _ (k : Int) (wx.drewN m) (by omega) (Hbb.out.below (below_drewN hbd m))
            rw [isB_nat] at h1 h2
            have hi : (k : Int) < (a.length : Int) := by omega
            generalize a.getD k false = x at *
            generalize b.getD k false = y at *
            have H1 := hide h1
            have H2 := hide h2
            clear h1 h2
            have hyy : (y != y) = false := by simp
            have hff : (false != false) = false := rfl
            cases x with
            | true =>
              simp only [Bool.true_and] at hcell2
              go_wp2_with fail
              go_quiet (first
                | (go_at_call_of 28 (Value.slice B a.length cb); exact quietOf (H1.out _))
                | (go_at_call_of 28 (Value.slice C b.length cc); exact quietOf (H2.out _)))
              go_wp2_with fail
              go_roundw
              case rel => exact ⟨k + 1, by omega, by go_num, below_drewN hbd _⟩
              case measure => simp [intOf]; omega
            | false =>
              simp only [Bool.false_and] at hcell2
              go_wp2_with fail
              go_quiet (first
                | (go_at_call_of 28 (Value.slice B a.length cb); exact quietOf (H1.out _))
                | (go_at_call_of 28 (Value.slice C b.length cc); exact quietOf (H2.out _)))
              go_wp2_with fail
              go_roundw
              case rel => exact ⟨k + 1, by omega, by go_num, below_drewN hbd _⟩
              case measure => simp [intOf]; omega
          · obtain rfl : k = a.length := by omega
            go_wp2_with fail
            refine (labelAwake_any _).mono ?_
            rintro e w10 ⟨rfl, b10⟩
            have b010 := B02.out.trans ((hbd.trans (b10.mono hbd.size)).mono B02.out.size)
            go_wp2_with fail
            go_ret
            exact ⟨rfl, b010⟩

end Go.Proofs.Ytcdeidedcbnhaaa
