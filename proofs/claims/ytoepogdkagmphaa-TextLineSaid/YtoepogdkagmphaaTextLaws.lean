import Derived.Test.YtoepogdkagmphaaTextAll
import Derived.BigQuiet
import Derived.Deep.QuietTactic
set_option linter.unusedVariables false
set_option linter.unusedSimpArgs false
namespace Go.Proofs.Ytoepogdkagmphaa
open Go.RowKit

theorem full_bounds (s : ByteArray) : ∀ x ∈ full s, -1 ≤ x.r ∧ x.r ≤ 2147483647 ∧ x.f < x.t ∧ x.t ≤ s.size := by
  intro x hx
  obtain ⟨y, hy, rfl⟩ := List.mem_map.1 hx
  have hi := raw_in s y hy
  have hr : ∀ (n pos : Nat) (lc : Nat × Nat), ∀ y ∈ decs s n pos lc, 0 ≤ y.r ∧ y.r ≤ 2147483647 := by
    intro n
    induction n with
    | zero => intro pos lc y hy; simp [decs] at hy
    | succ n ih =>
      intro pos lc y hy
      rw [decs] at hy
      split at hy
      · have := decode_le s pos
        rcases List.mem_cons.1 hy with rfl | hy
        · exact ⟨by simp, by simp; omega⟩
        · exact ih _ _ y hy
      · simp at hy
  have hb := hr _ _ _ y hy
  unfold Ru.fix
  split
  · simp; omega
  · omega

set_option maxRecDepth 100000 in
set_option maxHeartbeats 1000000 in
theorem same_any (L : List Ru) (va vb : Value) (ba bb : Nat) (w : World) (hl : L.length ≤ 4294967296) (hx : ∀ x ∈ L, -1 ≤ x.r ∧ x.r ≤ 2147483647)
    (ha : w.ownsRow ba 35 5 va L.length (cellsOf .i32 L)) (hb : w.ownsRow bb 43 5 vb L.length (cellsOf .i64 L)) :
    Calls Try.prog 11 #[va, vb] w fun e w' => e = .returned (.bool true) ∧ Below w.heap.size w w' := by
  obtain ⟨A, ca, rfl, hca⟩ := own_form ha
  obtain ⟨B, cb, rfl, hcb⟩ := own_form hb
  have hne : ((L.length : Int) != (L.length : Int)) = false := by simp
  have Hx := hide hx
  clear hx
  go_enter Try.func11, Try.ntmps11
  go_wp2
  go_loopw [5] (fun i wr => ∃ k : Nat, k ≤ L.length ∧ i = .int .i64 (k : Int) ∧ Below w.heap.size w wr) (fun i wr => L.length - (intOf i).toNat)
  case atStart => exact ⟨0, Nat.zero_le _, rfl, Below.refl _ _⟩
  case round =>
    obtain ⟨k, hk, rfl, hbl⟩ := hrel
    by_cases hlt : k < L.length
    · have ha1 := own_below' ha hbl
      have hb1 := own_below' hb hbl
      obtain ⟨g, c, hv, _, hg1, hg2⟩ := own_some ha1 (by omega)
      cases hv
      obtain ⟨g', c', hv, _, hg1', hg2'⟩ := own_some hb1 (by omega)
      cases hv
      have at' : ∀ kd j, j < 5 → (cellsOf kd L)[k * 5 + j]? = (L[k].cells kd)[j]? := by
        intro kd j hj
        have e := cells_at kd (L.take k) L[k] (L.drop (k + 1)) j hj
        rwa [← List.drop_eq_getElem_cons hlt, List.take_append_drop, List.length_take, Nat.min_eq_left hk] at e
      have a0 := own_cell ha1 rfl (at' .i32 0 (by omega))
      have a1 := own_cell ha1 rfl (at' .i32 1 (by omega))
      have a2 := own_cell ha1 rfl (at' .i32 2 (by omega))
      have a3 := own_cell ha1 rfl (at' .i32 3 (by omega))
      have a4 := own_cell ha1 rfl (at' .i32 4 (by omega))
      have b0 := own_cell hb1 rfl (at' .i64 0 (by omega))
      have b1 := own_cell hb1 rfl (at' .i64 1 (by omega))
      have b2 := own_cell hb1 rfl (at' .i64 2 (by omega))
      have b3 := own_cell hb1 rfl (at' .i64 3 (by omega))
      have b4 := own_cell hb1 rfl (at' .i64 4 (by omega))
      have hbd := Hx.out L[k] (List.getElem_mem hlt)
      clear ha hb ha1 hb1
      generalize L[k] = x at *
      obtain ⟨xr, xf, xt, xl, xc⟩ := x
      simp only [Ru.cells] at a0 a1 a2 a3 a4 b0 b1 b2 b3 b4
      simp at a0 a1 a2 a3 a4 b0 b1 b2 b3 b4 hbd
      clear at'
      have hi : (k : Int) < (L.length : Int) := by omega
      go_wp2_with fail
      go_quiet (fail)
      go_wp2
      go_roundw
      case rel => exact ⟨k + 1, by omega, by go_num, below_drewN hbl _⟩
      case measure => simp [intOf]; omega
    · obtain rfl : k = L.length := by omega
      go_wp2
      go_ret
      exact ⟨rfl, hbl⟩


/-- what text.Runes hands back -/
def RunesPost (s : ByteArray) (w : World) (T : TypeId) (k : IntKind) (e : Ending) (w' : World) : Prop := ∃ v er L, e = .returned (.tuple #[v, .int .i64 er]) ∧ w'.ownsRow w.heap.size T 5 v (L : List Ru).length (cellsOf k L) ∧
  (((full s).length ≤ 16384 ∧ L = full s ∧ er = 0) ∨ (16384 < (full s).length ∧ L = [] ∧ er = 3)) ∧ Below w.heap.size w w'

theorem take_full (s : ByteArray) (n : Nat) : ((raw s).take n).map Ru.fix = (full s).take n := by rw [full, List.map_take]

set_option maxHeartbeats 400000 in
theorem textRunes_any (s : ByteArray) (w : World) (hs : s.size ≤ 4294967296) : Calls Try.prog 9 #[.string s] w (RunesPost s w 35 .i32) := by
  go_enter Try.func9, Try.ntmps9
  go_upto_region 2 with (go_at_call 20; refine (runes_any s _ _ hs (by omega) (by omega)).mono ?_; rintro e w1 ⟨v, n, rfl, hown, hb⟩)
  have hn : n = (((raw s).take 16385).map Ru.fix).length := by
    have := hown.1
    rw [cellsOf_length] at this
    simp at this ⊢
    omega
  rw [show ((16385 : Int)).toNat = 16385 from rfl, take_full] at hown
  rw [take_full] at hn
  subst hn
  obtain ⟨A, cap, rfl, hcap⟩ := own_form hown
  by_cases h : (full s).length ≤ 16384
  · have e : (full s).take 16385 = full s := List.take_of_length_le (by omega)
    rw [e] at hown ⊢
    go_wp2
    go_ret2
    exact ⟨_, _, full s, rfl, hown, .inl ⟨h, rfl, rfl⟩, hb⟩
  · have e : ((full s).take 16385).length = 16385 := by rw [List.length_take]; omega
    rw [e]
    go_wp2
    go_ret2
    exact ⟨_, _, [], rfl, World.ownsRow_nil _ _ _ _, .inr ⟨by omega, rfl, rfl⟩, hb⟩

set_option maxHeartbeats 400000 in
theorem refRunes_any (s : ByteArray) (w : World) (hs : s.size ≤ 4294967296) : Calls Try.prog 10 #[.string s] w (RunesPost s w 43 .i64) := by
  go_enter Try.func10, Try.ntmps10
  go_upto_region 2 with (go_at_call 21; refine (all_any s _ hs).mono ?_; rintro e w1 ⟨v, rfl, hown, hb⟩)
  obtain ⟨A, cap, rfl, hcap⟩ := own_form hown
  have hlen : (full s).length ≤ 4294967296 := by
    have := raw_length s
    simp [full]; omega
  by_cases h : (full s).length ≤ 16384
  · go_wp2
    go_ret2
    exact ⟨_, _, full s, rfl, hown, .inl ⟨h, rfl, rfl⟩, hb⟩
  · go_wp2
    go_ret2
    exact ⟨_, _, [], rfl, World.ownsRow_nil _ _ _ _, .inr ⟨by omega, rfl, rfl⟩, hb⟩

theorem awakeList : full ⟨#[97, 10, 255]⟩ = [⟨97, 0, 1, 1, 1⟩, ⟨10, 1, 2, 1, 2⟩, ⟨-1, 2, 3, 2, 1⟩] := by kernel_rfl

set_option maxRecDepth 100000 in
set_option maxHeartbeats 1000000 in
theorem awake_any (w : World) : Calls Try.prog 8 #[] w fun e w' => e = .returned (.bool true) ∧ Below w.heap.size w w' := by
  go_enter Try.func8, Try.ntmps8
  go_upto_region 2 with (go_at_call 9; refine (textRunes_any _ _ (by decide)).mono ?_; rintro e w1 ⟨v, er, L, rfl, hown, hL, hb⟩)
  rw [awakeList] at hL
  rcases hL with ⟨_, rfl, rfl⟩ | ⟨hh, _, _⟩
  · change w1.ownsRow _ _ 5 v 3 _ at hown
    obtain ⟨g, c, rfl, _, hg1, hg2⟩ := own_some hown (by decide)
    have c0 := own_cell hown rfl (j := 0) rfl
    have c8 := own_cell hown rfl (j := 8) rfl
    have c9 := own_cell hown rfl (j := 9) rfl
    have c10 := own_cell hown rfl (j := 10) rfl
    have c13 := own_cell hown rfl (j := 13) rfl
    have c14 := own_cell hown rfl (j := 14) rfl
    clear hown
    go_wp2
    go_ret
    exact ⟨rfl, hb⟩
  · exact absurd hh (by decide)

set_option maxHeartbeats 400000 in
theorem textRunes_law (s : ByteArray) (w : World) (hs : s.size ≤ 9223372036854775807) : Calls Try.prog 3 #[.string s] w fun e w' => e = .returned (.bool true) ∧ Below w.heap.size w w' := by
  by_cases h : s.size ≤ 70000
  · go_enter Try.func3, Try.ntmps3
    go_wp2_with fail
    refine (textRunes_any s _ (by omega)).mono ?_
    rintro e w1 ⟨va, ea, La, rfl, howna, hLa, hb1⟩
    go_wp2_with fail
    refine (refRunes_any s _ (by omega)).mono ?_
    rintro e w2 ⟨vb, eb, Lb, rfl, hownb, hLb, hb2⟩
    have hE : ea = eb ∧ La = Lb := by
      rcases hLa with ⟨h1, h2, h3⟩ | ⟨h1, h2, h3⟩ <;> rcases hLb with ⟨h4, h5, h6⟩ | ⟨h4, h5, h6⟩ <;> first | omega | (subst h2 h3 h5 h6; exact ⟨rfl, rfl⟩)
    obtain ⟨rfl, rfl⟩ := hE
    have hLl : La.length ≤ 16384 ∧ ∀ x ∈ La, -1 ≤ x.r ∧ x.r ≤ 2147483647 := by
      rcases hLa with ⟨h1, h2, h3⟩ | ⟨h1, h2, h3⟩
      · subst h2; exact ⟨h1, fun x hx => by have := full_bounds s x hx; omega⟩
      · subst h2; exact ⟨by simp, fun x hx => by simp at hx⟩
    have H1 := hide hLl
    clear hLl hLa hLb
    go_wp2_with (first
      | (go_at_call 11; refine (same_any La va vb w.heap.size w1.heap.size _ (by have := H1.out.1; omega) H1.out.2 (own_below' howna hb2) hownb).mono ?_; rintro e w3 ⟨rfl, hb3⟩)
      | (go_at_call 8; refine (awake_any _).mono ?_; rintro e w4 ⟨rfl, hb4⟩))
    go_ret
    have h1 := hb1.trans (hb2.mono hb1.size)
    have h2 := h1.trans (hb3.mono h1.size)
    exact ⟨rfl, h2.trans (hb4.mono h2.size)⟩
  · go_enter Try.func3, Try.ntmps3
    go_wp2_with (go_at_call 8; refine (awake_any _).mono ?_; rintro e w' ⟨rfl, hb⟩)
    go_ret
    exact ⟨rfl, hb⟩

end Go.Proofs.Ytoepogdkagmphaa
