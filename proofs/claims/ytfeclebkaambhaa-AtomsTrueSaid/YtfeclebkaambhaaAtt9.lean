/-
  Parts of the proof: NumSortC, ZSortD, ZSortE, Z1, Z2, Z3, Y1, Y2.
-/
import Derived.Test.YtfeclebkaambhaaAtt8
import Derived.Sort.OwnSortedInts
import Derived.Deep.DeepCutAuto
set_option linter.unusedVariables false
set_option linter.unusedSimpArgs false
namespace Go.Proofs.Ytfeclebkaambhaa
section
open Go.RowKit Go.Sort

theorem i64Info : (Try.prog.info? 2).map (fun i => (i.zero, i.size, i.bytes)) = some (some (.int .i64 0), 1, 8) := by kernel_rfl

/-- the closure of Find: l and n in their boxes -/
theorem findC_any (ba bn b o c : Nat) (l : List Int) (n : Int) (i : Nat) (W : World) (hi : i < l.length)
    (ha : W.cell? ⟨ba, 0, none⟩ = some (.slice (some ⟨b, o, none⟩) l.length c)) (hn : W.cell? ⟨bn, 0, none⟩ = some (.int .i64 n)) (hc : W.cell? ⟨b, o + i, none⟩ = some (.int .i64 l[i])) :
    Calls Try.prog 80 (#[.int .i64 (i : Int)] ++ #[.pointer (some ⟨ba, 0, none⟩), .pointer (some ⟨bn, 0, none⟩)]) W fun e w' => e = .returned (.bool (decide (n ≤ l[i]))) ∧ ∃ q, w' = W.drewN q := by
  generalize l[i] = y at *
  have hiz : (i : Int) < (l.length : Int) := by omega
  go_enter Try.func80, Try.ntmps80
  go_wp2_with fail
  go_quiet (fail)
  go_wp2_with fail
  go_ret
  exact ⟨rfl, _, rfl⟩

/-- the library's Search with Find's closure -/
theorem search_any (g : FuncId) (cb : Array Value) (n : Nat) (p : Nat → Bool) (w : World) (eg : ∀ args w, (callFunc g args).run Try.prog w = .ok (.enter g args) w) (hsz : n < 4611686018427387904)
    (hf : ∀ (m : Nat) (i : Nat), i < n → Calls Try.prog g (#[.int .i64 i] ++ cb) (w.drewN m) fun e w' => e = .returned (.bool (p i)) ∧ ∃ q, w' = (w.drewN m).drewN q) :
    Calls Try.prog 79 #[.int .i64 n, .func (.func g) #[] cb] w fun e w' => ∃ r : Nat, e = .returned (.int .i64 (r : Int)) ∧ r ≤ n ∧ (0 < r → p (r - 1) = false) ∧ (r < n → p r = true) ∧ ∃ q, w' = w.drewN q := by
  have HF := hide hf
  clear hf
  go_enter Try.func79, Try.ntmps79
  go_wp2_with fail
  go_loopw [5, 6] (fun s5 s6 wr => ∃ (lo hi q : Nat), s5 = .int .i64 (lo : Int) ∧ s6 = .int .i64 (hi : Int) ∧ lo ≤ hi ∧ hi ≤ n ∧ Hid ((0 < lo → p (lo - 1) = false) ∧ (hi < n → p hi = true)) ∧ wr = w.drewN q) (fun s5 s6 wr => (intOf s6).toNat - (intOf s5).toNat)
  case atStart => exact ⟨0, n, 0, rfl, rfl, Nat.zero_le _, Nat.le_refl _, hide ⟨fun h => absurd h (Nat.lt_irrefl _), fun h => absurd h (Nat.lt_irrefl _)⟩, rfl⟩
  case round =>
    obtain ⟨lo, hi, q, rfl, rfl, hlh, hin, I, rfl⟩ := hrel
    by_cases hlt : lo < hi
    · have hc := HF.out q ((lo + hi) / 2) (by omega)
      rw [show (((lo + hi) / 2 : Nat) : Int) = ((lo : Int) + (hi : Int)) / 2 by omega] at hc
      cases hp : p ((lo + hi) / 2) <;> rw [hp] at hc
      · have HP := hide hp
        clear hp
        go_wp2_with (go_at_fn g; refine hc.mono ?_; rintro e w' ⟨rfl, nq, rfl⟩)
        go_roundw
        case rel => exact ⟨(lo + hi) / 2 + 1, hi, q + nq, by rw [show ((lo : Int) + (hi : Int)) / 2 + 1 = (((lo + hi) / 2 + 1 : Nat) : Int) by omega], rfl, by omega, hin, hide ⟨fun _ => by rw [Nat.add_sub_cancel]; exact HP.out, I.out.2⟩, rfl⟩
        case measure => simp [intOf]; omega
      · have HP := hide hp
        clear hp
        go_wp2_with (go_at_fn g; refine hc.mono ?_; rintro e w' ⟨rfl, nq, rfl⟩)
        go_roundw
        case rel => exact ⟨lo, (lo + hi) / 2, q + nq, rfl, by rw [show ((lo : Int) + (hi : Int)) / 2 = (((lo + hi) / 2 : Nat) : Int) by omega], by omega, by omega, hide ⟨I.out.1, fun _ => HP.out⟩, rfl⟩
        case measure => simp [intOf]; omega
    · obtain rfl : hi = lo := by omega
      go_wp2_with fail
      go_ret
      exact ⟨hi, rfl, hin, I.out.1, I.out.2, q, rfl⟩

/-- where Find ends -/
structure Fd (l : List Int) (n : Int) (r : Nat) : Prop where
  le : r ≤ l.length
  lo : ∀ (h0 : 0 < r) (h1 : r - 1 < l.length), l[r - 1] < n
  hi : ∀ (h1 : r < l.length), n ≤ l[r]
theorem cell_new' (W : World) (v : Value) (t : TypeId) : (W.alloc (.cells #[v] t)).cell? ⟨W.heap.size, 0, none⟩ = some v := by
  rw [World.cell?_alloc_at _ _ _ _ (by simp)]; rfl
set_option maxHeartbeats 2000000 in
theorem find_any (l : List Int) (n : Int) (v : Value) (w : World) (hl : l.length ≤ 1000000) (h : LI w v l) :
    Calls Try.prog 62 #[v, .int .i64 n] w fun e w' => (∃ r : Nat, e = .returned (.tuple #[.int .i64 (r : Int), .bool (decide (r < l.length) && (l[r]? == some n))]) ∧ Fd l n r) ∧ Below w.heap.size w w' := by
  have hcf : ∀ args w, (callFunc 80 args).run Try.prog w = .ok (.enter 80 args) w := by intro args w; simp [go_sem, Try.func80]
  have h0 := h
  obtain ⟨A, c, rfl, hc, hr⟩ := h0
  generalize hW : (w.alloc (.cells #[.slice A l.length c] 23)).alloc (.cells #[.int .i64 n] 2) = W
  have hWl : W.cell? ⟨w.heap.size, 0, none⟩ = some (.slice A l.length c) := by
    rw [← hW]
    exact (Below.cell ((Below.refl (w.heap.size + 1) (w.alloc (.cells #[.slice A l.length c] 23))).alloc (by simp) _) (by simp)).trans (cell_new' w _ _)
  have hWn : W.cell? ⟨w.heap.size + 1, 0, none⟩ = some (.int .i64 n) := by
    rw [← hW]
    have := cell_new' (w.alloc (.cells #[.slice A l.length c] 23)) (.int .i64 n) 2
    rwa [show (w.alloc (.cells #[.slice A l.length c] 23)).heap.size = w.heap.size + 1 by simp] at this
  have hbW : Below w.heap.size w W := by rw [← hW]; exact ((Below.refl _ _).alloc (Nat.le_refl _) _).alloc (by simp) _
  have hLW := LI.below h hbW
  have hse := search_any 80 #[.pointer (some ⟨w.heap.size, 0, none⟩), .pointer (some ⟨w.heap.size + 1, 0, none⟩)] l.length (fun i => decide (n ≤ l.getD i 0)) W hcf (by omega) (fun m i hi => by
    obtain ⟨b, o, rfl, hb, hcell⟩ := hLW.at_ hi
    have := findC_any w.heap.size (w.heap.size + 1) b o c l n i (W.drewN m) hi hWl hWn hcell
    rw [show l.getD i 0 = l[i] by simp [List.getD, hi]]
    exact this)
  have Hse := hide hse
  have HbW := hide hbW
  have HLW := hide hLW
  clear hse hbW hLW h hr
  go_enter Try.func62, Try.ntmps62
  go_wp2_with fail
  refine Hse.out.mono ?_
  rintro e w2 ⟨r, rfl, hrl, hlo, hhi, q, rfl⟩
  have hF : Fd l n r := ⟨hrl, fun h0 h1 => by
      have := hlo h0
      rw [show l.getD (r - 1) 0 = l[r - 1] by simp [List.getD, h1]] at this
      have := of_decide_eq_false this
      omega, fun h1 => by
      have := hhi h1
      rw [show l.getD r 0 = l[r] by simp [List.getD, h1]] at this
      exact of_decide_eq_true this⟩
  have HF := hide hF
  clear Hse hF hlo hhi hW
  have hb2 := hide (below_drewN' HbW.out q)
  by_cases hlt : r < l.length
  · obtain ⟨b, o, rfl, _, hcell⟩ := HLW.out.at_ hlt
    have hri : (r : Int) < (l.length : Int) := by omega
    have E := hide (show (decide (r < l.length) && (l[r]? == some n)) = (l[r] == n) by simp [hlt])
    generalize l[r] = y at *
    have hyn : ∃ B, B = (y == n) := ⟨_, rfl⟩
    obtain ⟨B, hB⟩ := hyn
    rw [← hB] at E
    have hB2 := hB.symm
    clear hB
    go_wp2_with fail
    go_quiet (fail)
    go_wp2_with fail
    go_ret2
    exact ⟨⟨r, by rw [E.out]; rfl, HF.out⟩, below_drewN' hb2.out _⟩
  · obtain rfl : r = l.length := by omega
    have E := hide (show (decide (l.length < l.length) && (l[l.length]? == some n)) = false by simp)
    go_wp2_with fail
    go_quiet (fail)
    go_wp2_with fail
    go_ret2
    exact ⟨⟨l.length, by rw [E.out]; rfl, HF.out⟩, below_drewN' hb2.out _⟩
end
section
open Go.RowKit Go.Sort

theorem compact_len (S : List Int) : (Lib.compact S).length ≤ S.length := by
  unfold Lib.compact Lib.compactUpTo
  rw [List.length_map]
  have := List.length_filter_le (Lib.keeps S.toArray) (List.range S.length)
  simpa using this

/-- the empty ways -/
theorem clone0_any (A : Option Addr) (c : Nat) (w : World) :
    Calls Try.prog 81 #[.slice A 0 c] w fun e w' => (∃ A' c', e = .returned (.slice A' 0 c') ∧ c' ≤ 9223372036854775807) ∧ Below w.heap.size w w' := by
  cases A with
  | none => exact (Try.slices_Clone_nil 0 c w).mono (by rintro e w' ⟨rfl, rfl⟩; exact ⟨⟨_, _, rfl, by decide⟩, Below.refl _ _⟩)
  | some a =>
    obtain ⟨i0, hi0, hz0, hz1, hz2⟩ := info_parts i64Info
    have q22 : ∀ (w : World) (a : Option Addr) (n c n' c' : Nat), (binOp .eql 23 (.slice a n c) (.slice none n' c')).run Try.prog w = .ok (.bool a.isNone) w := fun w a n c n' c' => Lib.run_eql_slice_nil w _ _ a n c n' c' Try.underlying23
    go_enter Try.func81, Try.ntmps81
    go_wp2_with fail
    go_ret
    exact ⟨⟨_, _, rfl, by decide⟩, (Below.refl _ _).alloc (Nat.le_refl _) _⟩
theorem ins0_any (A : Option Addr) (c : Nat) (w : World) :
    Calls Try.prog 93 #[.slice A 0 c, .int .i64 0, .int .i64 0] w fun e w' => e = .returned (.tuple #[]) ∧ Below w.heap.size w w' := by
  go_enter Try.func93, Try.ntmps93
  go_wp2_with fail
  go_loopw [6] (fun i wr => i = .int .i64 1 ∧ Below w.heap.size w wr) (fun i wr => 0)
  case atStart => exact ⟨rfl, Below.refl _ _⟩
  case round =>
    obtain ⟨rfl, hbl⟩ := hrel
    go_wp2_with fail
    go_end0
    exact ⟨rfl, hbl⟩
theorem pdq0_any (A : Option Addr) (c : Nat) (L : Int) (w : World) :
    Calls Try.prog 89 #[.slice A 0 c, .int .i64 0, .int .i64 0, .int .i64 L] w fun e w' => e = .returned (.tuple #[]) ∧ Below w.heap.size w w' := by
  go_enter Try.func89, Try.ntmps89
  go_wp2_with fail
  go_loopw [1, 2] (fun a b wr => a = .int .i64 0 ∧ b = .int .i64 0 ∧ Below w.heap.size w wr) (fun a b wr => 0)
  case atStart => exact ⟨rfl, rfl, Below.refl _ _⟩
  case round =>
    obtain ⟨rfl, rfl, hbl⟩ := hrel
    have h := ins0_any A c wr
    go_wp2_with fail
    refine h.mono ?_
    rintro e w2 ⟨rfl, hb2⟩
    go_wp2_with fail
    refine bodyPost_ret (results_none rfl _ _ _) rfl ?_
    exact ⟨rfl, hbl.trans (hb2.mono hbl.size)⟩
theorem sort0_any (A : Option Addr) (c : Nat) (w : World) :
    Calls Try.prog 82 #[.slice A 0 c] w fun e w' => e = .returned (.tuple #[]) ∧ Below w.heap.size w w' := by
  have h1 := Try.bits_Len 0 w (by decide) (by decide)
  generalize Lib.bitLen (0 : Int).toNat = L at *
  have h2 := pdq0_any A c L w
  go_enter Try.func82, Try.ntmps82
  go_wp2_with fail
  refine h1.mono ?_
  rintro e w2 ⟨rfl, rfl⟩
  go_wp2_with fail
  refine h2.mono ?_
  rintro e w3 ⟨rfl, hb⟩
  go_wp2_with fail
  go_end0
  exact ⟨rfl, hb⟩
theorem numSorted0_any (v : Value) (w : World) (h : LI w v []) :
    Calls Try.prog 63 #[v] w fun e w' => ∃ v', e = .returned v' ∧ LN w.heap.size w' v' (sortL []) ∧ Below w.heap.size w w' := by
  obtain ⟨A, c, rfl, hc, _⟩ := h
  have h1 := clone0_any A c w
  simp only [List.length_nil]
  go_enter Try.func63, Try.ntmps63
  go_wp2_with fail
  refine h1.mono ?_
  rintro e w2 ⟨⟨A', c', rfl, hc9⟩, hb2⟩
  have h2 := sort0_any A' c' w2
  go_wp2_with fail
  refine h2.mono ?_
  rintro e w3 ⟨rfl, hb3⟩
  have h3 := Try.slices_Compact_int_empty A' c' w3
  go_wp2_with fail
  refine h3.mono ?_
  rintro e w4 ⟨rfl, rfl⟩
  go_wp2_with fail
  go_ret
  rw [show sortL [] = [] by simp [sortL, Lib.compact, Lib.compactUpTo]]
  exact ⟨_, rfl, ⟨A', c', rfl, Nat.zero_le _, hc9, fun h => absurd h (by simp)⟩, hb2.trans (hb3.mono hb2.size)⟩
end
section
open Go.RowKit Go.Sort

theorem numSorted1_any (l : List Int) (v : Value) (w : World) (hl : l.length ≤ 1000000) (hp : 0 < l.length) (h : LI w v l) :
    Calls Try.prog 63 #[v] w fun e w' => ∃ v', e = .returned v' ∧ LN w.heap.size w' v' (sortL l) ∧ Below w.heap.size w w' := by
  obtain ⟨i0, hi0, hz0, hz1, hz2⟩ := info_parts i64Info
  obtain ⟨b, o, c, rfl, hc, hb, hcell⟩ := h.some_ hp
  have h1 := Try.slices_Clone i0 (.int .i64 0) 1 8 hi0 hz0 hz1 hz2 rfl (by decide) Try.sizeOf2 b o l.length c (l.map (Value.int .i64)) w (by simp) (by unfold maxLen; omega) (by omega)
    (fun j u hj => by
      rw [List.getElem?_map] at hj
      rcases Nat.lt_or_ge j l.length with hlt | hge
      · rw [List.getElem?_eq_getElem hlt] at hj
        obtain rfl : Value.int .i64 l[j] = u := by simpa using hj
        exact hcell j hlt
      · rw [List.getElem?_eq_none hge] at hj; simp at hj)
    (fun u hu => by obtain ⟨x, _, rfl⟩ := List.mem_map.1 hu; rfl)
  have H1 := hide h1
  clear h1
  unfold sortL
  have hSl : (l.mergeSort fun x y => decide (x ≤ y)).length = l.length := List.length_mergeSort ..
  generalize hSd : (l.mergeSort fun x y => decide (x ≤ y)) = S at *
  have HSd := hide hSd
  have HSl := hide hSl
  clear hSd hSl
  go_enter Try.func63, Try.ntmps63
  go_wp2_with fail
  refine H1.out.mono ?_
  rintro e w1 ⟨v', rfl, hown, hnn, hb1⟩
  obtain ⟨_, ⟨_, hn0⟩ | ⟨g, cap, cur, rfl, hbase, hblk, hn, hcap, hcs, htake⟩⟩ := hown
  · omega
  rw [Nat.mul_one] at htake
  have hg : g < w1.heap.size := (Array.getElem?_eq_some_iff.1 hblk).1
  have hH := holds_of_blockI hblk htake
  have h2 := Try.slices_Sort_int g 0 cap l w1 hH hg (by omega)
  rw [HSd.out] at h2
  have H2 := hide h2
  clear h2 H1 hH
  go_wp2_with fail
  refine H2.out.mono ?_
  rintro e w2 ⟨rfl, n, os, rfl⟩
  have hSl := HSl.out
  have hown2 := ownsRow_sortedI (n := n) (os := os) (ts := S) hSl hbase hblk hn hcap hcs
  have hgr2 := grownBy_sortedI (w := w1) (g := g) (n := n) (os := os) S.toArray
  generalize Go.Sort.grow (putRow (Value.int .i64) (Sort.ahead w1 n) g 0 S.toArray) os = w2 at *
  have hb2 : Below w.heap.size w w2 := hb1.grown hgr2 hb1.size (fun j hj => by cases hj; exact hbase)
  obtain ⟨_, ⟨hx, _⟩ | ⟨g', cap', cur2, hv, _, hblk2, _, _, hcs2, htake2⟩⟩ := hown2
  · cases hx
  cases hv
  rw [Nat.mul_one, ← hSl] at htake2
  have hg2 : g < w2.heap.size := (Array.getElem?_eq_some_iff.1 hblk2).1
  have hH2 := holds_of_blockI hblk2 htake2
  have h3 := Try.slices_Compact_int g 0 cap S w2 hH2 (by omega) (by omega)
  rw [hSl] at h3
  have H3 := hide h3
  have hcl := compact_len S
  clear h3 H2 hH2
  go_wp2_with fail
  refine H3.out.mono ?_
  rintro e w3 ⟨rfl, q, hw3⟩
  have hown3 := ownsRow_sortedI (n := q) (os := #[]) (ss := S) (ts := Lib.compact S ++ List.replicate (S.length - (Lib.compact S).length) 0) (by simp; omega) hbase hblk2 (by omega) hcap hcs2
  have hgr3 := grownBy_sortedI (w := w2) (g := g) (n := q) (os := #[]) (Lib.compact S ++ List.replicate (S.length - (Lib.compact S).length) 0).toArray
  rw [grow_empty] at hown3 hgr3
  rw [hSl] at hown3 hgr3
  rw [← hw3] at hown3 hgr3
  have hb3 : Below w.heap.size w w3 := hb2.grown hgr3 hb2.size (fun j hj => by cases hj; exact hbase)
  have hLI : LN w.heap.size w3 (.slice (some ⟨g, 0, none⟩) (Lib.compact S).length cap) (Lib.compact S) := by
    refine ⟨_, _, rfl, by omega, by unfold maxLen at hcap; omega, fun _ => ⟨g, 0, rfl, hbase, ?_, fun i hi => ?_⟩⟩
    · have := hgr3.size; omega
    · rw [Nat.zero_add]
      exact own_cell hown3 rfl (by rw [List.getElem?_map, List.getElem?_append_left hi, List.getElem?_eq_getElem hi]; rfl)
  clear hw3 H3 hown3 hgr3 hblk hblk2 htake htake2
  go_wp2_with fail
  go_ret
  exact ⟨_, rfl, hLI, hb3⟩
theorem numSorted_any (l : List Int) (v : Value) (w : World) (hl : l.length ≤ 1000000) (h : LI w v l) :
    Calls Try.prog 63 #[v] w fun e w' => ∃ v', e = .returned v' ∧ LN w.heap.size w' v' (sortL l) ∧ Below w.heap.size w w' := by
  cases l with
  | nil => exact numSorted0_any v w h
  | cons x l => exact numSorted1_any (x :: l) v w hl (by simp) h
end
section
open Go.RowKit
theorem one_arg {vs : Array Value} {a : AV} (hn : vs.size = [a].length) : ∃ x, vs = #[x] := ⟨vs[0]'(by simp at hn; omega), by
  apply Array.ext (by simpa using hn)
  intro i h1 h2
  simp at h2
  subst h2
  rfl⟩
theorem numSorted_A (l : List Int) (hl : l.length ≤ 1000000) : ADet Try.prog 63 [sI l] ⟨sI (sortR l), [], 0⟩ :=
  adet_of_sl (enters_of Try.func63 rfl (by decide)) fun S w vs hS hn hv => by
    obtain ⟨a, rfl⟩ := one_arg hn
    refine (numSorted_any l a w hl (LI.of_rt (hv 0 a _ rfl rfl) hS)).mono fun e w' ⟨v', h1, h2, h3⟩ => ?_
    rw [sortL_eq] at h2
    exact ⟨v', h1, fun S' hS' => h2.rt hS', h3⟩
theorem refSorted_A (l : List Int) (hl : l.length ≤ 100000) : ADet Try.prog 17 [sI l] ⟨sI (sortR l), [], 0⟩ :=
  adet_of_sl (enters_of Try.func17 rfl (by decide)) fun S w vs hS hn hv => by
    obtain ⟨a, rfl⟩ := one_arg hn
    refine (refSorted_any l a w hl (LI.of_rt (hv 0 a _ rfl rfl) hS)).mono fun e w' ⟨v', h1, h2, h3⟩ => ?_
    exact ⟨v', h1, fun S' hS' => h2.rt hS', h3⟩
/-- how many of a list are below a number -/
def lessN (c : List Int) (n : Int) : Nat := c.countP (fun x => decide (x < n))
theorem numFind_A (c : List Int) (n : Int) (hc : Up c) (hl : c.length ≤ 1000000) : ADet Try.prog 62 [sI c, eI n] ⟨.tup [eI (lessN c n : Int), eB (decide (n ∈ c))], [], 0⟩ :=
  ⟨enters_of Try.func62 rfl (by decide), fun S w vs hS hn hv => by
    obtain ⟨a, b, rfl⟩ := two_args hn
    obtain rfl := rtc (hv 1 b _ rfl rfl)
    refine (find_any c n a w hl (LI.of_rt (hv 0 a _ rfl rfl) hS)).mono fun e w' ⟨⟨r, h1, hF⟩, h2⟩ => ?_
    obtain ⟨e1, e2⟩ := search_up c n hc r hF.le (fun h0 => hF.lo h0 (by have := hF.le; omega)) hF.hi
    rw [e2, ← e1] at h1
    refine ⟨_, fun _ => undef, _, rfl, ⟨fun id o h => (by cases h), ⟨trivial, trivial, trivial⟩⟩, h1, ⟨belowX h2, fun id o h => (by cases h), fun id id' o o' g h => (by cases h), fun b hb => hb.elim⟩, .tree (.tup _ _ rfl fun j x av h3 h4 => ?_)⟩
    match j with
    | 0 => simp at h3 h4; subst h3; subst h4; exact .c _
    | 1 => simp at h3 h4; subst h3; subst h4; exact .c _
    | j + 2 => simp at h3⟩
/-! ### zones -/
structure Cls where
  attrs : Int
  const : Int
structure Zn where
  cls : List Cls
  gaps : List Int
abbrev eCls (x : Cls) : List AV := [eI x.attrs, eI x.const]
abbrev eZn (z : Zn) : List AV := [.sl 2 (z.cls.map eCls), sI z.gaps]
/-- the first place of what is so; -1: there is none -/
def fstI {α : Type} (p : α → Bool) (l : List α) : Int := match l.findIdx? p with | some k => (k : Int) | none => -1
theorem fstI_at {α : Type} {p : α → Bool} {l : List α} {k : Nat} (hk : k < l.length) (h : p l[k] = true) (hn : ∀ i (h : i < k), p (l[i]'(by omega)) = false) : fstI p l = (k : Int) := by
  have : l.findIdx? p = some k := List.findIdx?_eq_some_iff_getElem.2 ⟨hk, h, fun j hj => by simp [hn j hj]⟩
  unfold fstI
  rw [this]
theorem fstI_none {α : Type} {p : α → Bool} {l : List α} (h : ∀ x ∈ l, p x = false) : fstI p l = -1 := by
  have : l.findIdx? p = none := List.findIdx?_eq_none_iff.2 h
  unfold fstI
  rw [this]
theorem fstI_cases {α : Type} (p : α → Bool) (l : List α) : (fstI p l = -1 ∧ ∀ x ∈ l, p x = false) ∨ ∃ k : Nat, ∃ h : k < l.length, fstI p l = (k : Int) ∧ p l[k] = true ∧ ∀ i (h : i < k), p (l[i]'(by omega)) = false := by
  unfold fstI
  cases hf : l.findIdx? p with
  | none => exact .inl ⟨rfl, List.findIdx?_eq_none_iff.1 hf⟩
  | some k =>
    obtain ⟨h1, h2, h3⟩ := List.findIdx?_eq_some_iff_getElem.1 hf
    exact .inr ⟨k, h1, rfl, h2, fun i hi => by simpa using h3 i hi⟩
theorem fstI_any {α : Type} (p : α → Bool) (l : List α) : decide (0 ≤ fstI p l) = l.any p := by
  rcases fstI_cases p l with ⟨h1, h2⟩ | ⟨k, hk, h1, h2, _⟩
  · rw [h1]
    symm
    simpa using h2
  · rw [h1]
    have : l.any p = true := List.any_eq_true.2 ⟨_, List.getElem_mem hk, h2⟩
    rw [this]
    simp
/-- is a value in a class? c: the constants, rising -/
def hitP (c : List Int) (a n : Int) (x : Cls) : Bool := (a != -1 && hasB x.attrs a) || (a == -1 && decide (n ∈ c) && x.const == (lessN c n : Int))
def placeM (z : Zn) (consts : List Int) (a n : Int) : Int := fstI (hitP (sortR consts) a n) z.cls
def cmpZ (z : Zn) (consts : List Int) (la ln ra rn : Int) : Int :=
  if placeM z consts la ln < 0 ∨ placeM z consts ra rn < 0 then 0 else cmpI (placeM z consts la ln) (placeM z consts ra rn)
set_option maxRecDepth 100000 in
theorem indexFc_A (g : FuncId) (caps : List AV) (l : List Cls) (p : Cls → Bool) (hl : l.length ≤ 1000000) (ht : treeL caps) (hp : ∀ x ∈ l, ADet Try.prog g (.agg (eCls x) :: caps) (val (.bool (p x)))) : ADet Try.prog 64 [.sl 2 (l.map eCls), .fn g caps] (val (.int .i64 (fstI p l))) := by
  refine adet_of_code mixedT Try.func64 rfl (by decide) Try.ntmps64 Try.results64 rfl (val_ok _) ?_
  have hlt0 : AV.ltL 0 caps := ltL_tree ht
  (repeat' (first | simp (maxSteps := 5000000) (implicitDefEqProofs := false) only [ruA, ruB, aEv, aTake, aLoad, aField, aIndex, aLen, aBin, bin2, aUn, un1, aExtract, aConv, ASt.get, aget, ASt.put, aStore, aBox, aAppend, aBuildSlice, aMake, aBuild, aFill, oneParts, allC, aBinS, yv, aCells, oneC, oneCL, treeC, treeL, aLit, aDst, aSrc, appTab, Value.cells, Value.oneCell', envOf, aResL, aOne, ↓reduceIte, reduceCtorEq, forall_const, Nat.reduceLT, Nat.reduceEqDiff, Nat.reduceAdd, Nat.reduceMul, Nat.reduceSub, Nat.reduceLeDiff, Nat.reduceBEq, eq_self, implies_true, ne_eq, dref, dref1, dref2, aExecS, aStoreB, aTakes, aTakeE, aElder, aFrom, aFresh, isLoad, aBuildSlice1, frzs, frz1, ownIds, AV.frz, AV.frzL, frzEnv, AV.shift, AV.shiftL, aFieldV, aSliceW, aSliceO, aSlice, aSliceR, aSliceS, aBd, aMax, frzAVs, frzAV, frzTab, AObj.frz, aMM, aNilS, aMay, tyE_32, tyK_32, tyK_3, tyA_61, tyS_61] | (with_reducible refine aIf_split (fun _ => ?_) (fun _ => ?_)) | (with_reducible refine aSel_split (fun _ => ?_) (fun _ => ?_)) | (with_reducible refine aGd_split (fun _ => ?_) (fun _ => ?_))))
  refine aLoop_of (fun st => ∃ k : Nat, k ≤ l.length ∧ (∀ i (h : i < l.length), i < k → p l[i] = false) ∧ st = ⟨19, [(0, .sl 2 (l.map eCls)), (1, .fn g caps), (7, eI (l.length : Int)), (8, eI (k : Int))], [], 0⟩) (fun st => l.length - slotN st 8) ⟨_, (weak_cut1 (by (first | ((simp only [envIn, tabIn, envLt, tabLt, AObj.lt, AV.lt, AV.ltL, ruW, ASt.get, aget, ASt.put, ↓reduceIte, reduceCtorEq, Nat.reduceLT, Nat.reduceEqDiff, Nat.reduceAdd, Nat.reduceLeDiff, eq_self, implies_true, hlt0]) <;> (repeat' apply And.intro) <;> first | (rw [wrapK (by omega)]; done) | (simp; done) | omega) | fail))), 0, Nat.zero_le _, fun i _ h => by omega, rfl⟩ ?_
  rintro _ ⟨k, hk, hn, rfl⟩
  by_cases hlt : k < l.length
  · (repeat' (first | simp (maxSteps := 5000000) (implicitDefEqProofs := false) only [ruA, ruB, aEv, aTake, aLoad, aField, aIndex, aLen, aBin, bin2, aUn, un1, aExtract, aConv, ASt.get, aget, ASt.put, aStore, aBox, aAppend, aBuildSlice, aMake, aBuild, aFill, oneParts, allC, aBinS, yv, aCells, oneC, oneCL, treeC, treeL, aLit, aDst, aSrc, appTab, Value.cells, Value.oneCell', envOf, aResL, aOne, ↓reduceIte, reduceCtorEq, forall_const, Nat.reduceLT, Nat.reduceEqDiff, Nat.reduceAdd, Nat.reduceMul, Nat.reduceSub, Nat.reduceLeDiff, Nat.reduceBEq, eq_self, implies_true, ne_eq, dref, dref1, dref2, aExecS, aStoreB, aTakes, aTakeE, aElder, aFrom, aFresh, isLoad, aBuildSlice1, frzs, frz1, ownIds, AV.frz, AV.frzL, frzEnv, AV.shift, AV.shiftL, aFieldV, aSliceW, aSliceO, aSlice, aSliceR, aSliceS, aBd, aMax, frzAVs, frzAV, frzTab, AObj.frz, aMM, aNilS, aMay, tyE_32, tyK_32, tyK_3, tyA_61, tyS_61, row_at, hlt] | (with_reducible refine aIf_split (fun _ => ?_) (fun _ => ?_)) | (with_reducible refine aSel_split (fun _ => ?_) (fun _ => ?_)) | (with_reducible refine aGd_split (fun _ => ?_) (fun _ => ?_))))
    refine callClo (args := [_]) ht (hp _ (List.getElem_mem hlt)) ?_
    (repeat' (first | simp (maxSteps := 5000000) (implicitDefEqProofs := false) only [ruA, ruB, aEv, aTake, aLoad, aField, aIndex, aLen, aBin, bin2, aUn, un1, aExtract, aConv, ASt.get, aget, ASt.put, aStore, aBox, aAppend, aBuildSlice, aMake, aBuild, aFill, oneParts, allC, aBinS, yv, aCells, oneC, oneCL, treeC, treeL, aLit, aDst, aSrc, appTab, Value.cells, Value.oneCell', envOf, aResL, aOne, ↓reduceIte, reduceCtorEq, forall_const, Nat.reduceLT, Nat.reduceEqDiff, Nat.reduceAdd, Nat.reduceMul, Nat.reduceSub, Nat.reduceLeDiff, Nat.reduceBEq, eq_self, implies_true, ne_eq, dref, dref1, dref2, aExecS, aStoreB, aTakes, aTakeE, aElder, aFrom, aFresh, isLoad, aBuildSlice1, frzs, frz1, ownIds, AV.frz, AV.frzL, frzEnv, AV.shift, AV.shiftL, aFieldV, aSliceW, aSliceO, aSlice, aSliceR, aSliceS, aBd, aMax, frzAVs, frzAV, frzTab, AObj.frz, aMM, aNilS, aMay, tyE_32, tyK_32, tyK_3, tyA_61, tyS_61, row_at, hlt] | (with_reducible refine aIf_split (fun _ => ?_) (fun _ => ?_)) | (with_reducible refine aSel_split (fun _ => ?_) (fun _ => ?_)) | (with_reducible refine aGd_split (fun _ => ?_) (fun _ => ?_))))
    · rename_i h
      rw [fstI_at hlt h fun i hi => hn i (by omega) hi]
    · rename_i h
      refine roundI (weak_cut1 (by (first | ((simp only [envIn, tabIn, envLt, tabLt, AObj.lt, AV.lt, AV.ltL, ruW, ASt.get, aget, ASt.put, ↓reduceIte, reduceCtorEq, Nat.reduceLT, Nat.reduceEqDiff, Nat.reduceAdd, Nat.reduceLeDiff, eq_self, implies_true, hlt0]) <;> (repeat' apply And.intro) <;> first | (rw [wrapK (by omega)]; done) | (simp; done) | omega) | fail))) ⟨k + 1, by omega, fun i hi h2 => ?_, rfl⟩ (by simp only [slotN, ruW, ASt.get, aget, ASt.put, ↓reduceIte, reduceCtorEq, Nat.reduceLT, Nat.reduceEqDiff, Nat.reduceAdd, Nat.reduceLeDiff, eq_self, implies_true]; omega)
      rcases Nat.lt_or_ge i k with h3 | h3
      · exact hn i hi h3
      · obtain rfl : i = k := by omega
        exact h
  · obtain rfl : k = l.length := by omega
    (repeat' (first | simp (maxSteps := 5000000) (implicitDefEqProofs := false) only [ruA, ruB, aEv, aTake, aLoad, aField, aIndex, aLen, aBin, bin2, aUn, un1, aExtract, aConv, ASt.get, aget, ASt.put, aStore, aBox, aAppend, aBuildSlice, aMake, aBuild, aFill, oneParts, allC, aBinS, yv, aCells, oneC, oneCL, treeC, treeL, aLit, aDst, aSrc, appTab, Value.cells, Value.oneCell', envOf, aResL, aOne, ↓reduceIte, reduceCtorEq, forall_const, Nat.reduceLT, Nat.reduceEqDiff, Nat.reduceAdd, Nat.reduceMul, Nat.reduceSub, Nat.reduceLeDiff, Nat.reduceBEq, eq_self, implies_true, ne_eq, dref, dref1, dref2, aExecS, aStoreB, aTakes, aTakeE, aElder, aFrom, aFresh, isLoad, aBuildSlice1, frzs, frz1, ownIds, AV.frz, AV.frzL, frzEnv, AV.shift, AV.shiftL, aFieldV, aSliceW, aSliceO, aSlice, aSliceR, aSliceS, aBd, aMax, frzAVs, frzAV, frzTab, AObj.frz, aMM, aNilS, aMay, tyE_32, tyK_32, tyK_3, tyA_61, tyS_61, hlt] | (with_reducible refine aIf_split (fun _ => ?_) (fun _ => ?_)) | (with_reducible refine aSel_split (fun _ => ?_) (fun _ => ?_)) | (with_reducible refine aGd_split (fun _ => ?_) (fun _ => ?_))))
    rw [fstI_none fun x hx => by obtain ⟨i, hi, rfl⟩ := List.getElem_of_mem hx; exact hn i hi hi]
set_option maxRecDepth 100000 in
theorem place1_A (c : List Int) (a n : Int) (x : Cls) : ADet Try.prog 65 [.agg (eCls x), .rp [eI a, eI n], .rp [eB (decide (n ∈ c))], .rp [eI (lessN c n : Int)]] (val (.bool (hitP c a n x))) := by
  refine adet_of_code mixedT Try.func65 rfl (by decide) Try.ntmps65 Try.results65 rfl (val_ok _) ?_
  (repeat' (first | simp (maxSteps := 5000000) (implicitDefEqProofs := false) only [ruA, ruB, aEv, aTake, aLoad, aField, aIndex, aLen, aBin, bin2, aUn, un1, aExtract, aConv, ASt.get, aget, ASt.put, aStore, aBox, aAppend, aBuildSlice, aMake, aBuild, aFill, oneParts, allC, aBinS, yv, aCells, oneC, oneCL, treeC, treeL, aLit, aDst, aSrc, appTab, Value.cells, Value.oneCell', envOf, aResL, aOne, ↓reduceIte, reduceCtorEq, forall_const, Nat.reduceLT, Nat.reduceEqDiff, Nat.reduceAdd, Nat.reduceMul, Nat.reduceSub, Nat.reduceLeDiff, Nat.reduceBEq, eq_self, implies_true, ne_eq, dref, dref1, dref2, aExecS, aStoreB, aTakes, aTakeE, aElder, aFrom, aFresh, isLoad, aBuildSlice1, frzs, frz1, ownIds, AV.frz, AV.frzL, frzEnv, AV.shift, AV.shiftL, aFieldV, aSliceW, aSliceO, aSlice, aSliceR, aSliceS, aBd, aMax, frzAVs, frzAV, frzTab, AObj.frz, aMM, aNilS, aMay, tyF_49_0, tyA_3, tyS_3, tyK_3, tyF_61_0, tyA_4, tyS_4, tyF_61_1] | (with_reducible refine aIf_split (fun _ => ?_) (fun _ => ?_)) | (with_reducible refine aSel_split (fun _ => ?_) (fun _ => ?_)) | (with_reducible refine aGd_split (fun _ => ?_) (fun _ => ?_)) | (with_reducible refine aDraw_quiet (by kernel_rfl) ?_) | ((with_reducible apply callV (g := 53)); exact (has_A x.attrs a)) | ((with_reducible apply callD (g := 53)); exact (has_A x.attrs a))))
  all_goals simp_all [hitP]
set_option maxRecDepth 100000 in
set_option maxHeartbeats 8000000 in
theorem place_A (z : Zn) (consts : List Int) (a n : Int) (h1 : z.cls.length ≤ 1000000) (h2 : consts.length ≤ 1000000) : ADet Try.prog 37 [.agg (eZn z), sI consts, .agg [eI a, eI n]] (val (.int .i64 (placeM z consts a n))) := by
  refine adet_of_code mixedT Try.func37 rfl (by decide) Try.ntmps37 Try.results37 rfl (val_ok _) ?_
  have hlen := sortR_len consts
  have hS := numSorted_A consts h2
  have hF := numFind_A (sortR consts) n (sortR_up consts).1 (by omega)
  have hI := indexFc_A 65 [.rp [eI a, eI n], .rp [eB (decide (n ∈ sortR consts))], .rp [eI (lessN (sortR consts) n : Int)]] z.cls (hitP (sortR consts) a n) h1 (by simp [treeL, treeC]) (fun x _ => place1_A (sortR consts) a n x)
  (repeat' (first | simp (maxSteps := 5000000) (implicitDefEqProofs := false) only [ruA, ruB, aEv, aTake, aLoad, aField, aIndex, aLen, aBin, bin2, aUn, un1, aExtract, aConv, ASt.get, aget, ASt.put, aStore, aBox, aAppend, aBuildSlice, aMake, aBuild, aFill, oneParts, allC, aBinS, yv, aCells, oneC, oneCL, treeC, treeL, aLit, aDst, aSrc, appTab, Value.cells, Value.oneCell', envOf, aResL, aOne, ↓reduceIte, reduceCtorEq, forall_const, Nat.reduceLT, Nat.reduceEqDiff, Nat.reduceAdd, Nat.reduceMul, Nat.reduceSub, Nat.reduceLeDiff, Nat.reduceBEq, eq_self, implies_true, ne_eq, dref, dref1, dref2, aExecS, aStoreB, aTakes, aTakeE, aElder, aFrom, aFresh, isLoad, aBuildSlice1, frzs, frz1, ownIds, AV.frz, AV.frzL, frzEnv, AV.shift, AV.shiftL, aFieldV, aSliceW, aSliceO, aSlice, aSliceR, aSliceS, aBd, aMax, frzAVs, frzAV, frzTab, AObj.frz, aMM, aNilS, aMay, tyF_49_1, tyA_2, tyS_2, tyZ_3, tyZ_4, tyS_3, tyS_4, tyF_34_0, tyA_32, tyS_32] | (with_reducible refine aIf_split (fun _ => ?_) (fun _ => ?_)) | (with_reducible refine aSel_split (fun _ => ?_) (fun _ => ?_)) | (with_reducible refine aGd_split (fun _ => ?_) (fun _ => ?_))))
  refine aDraw_held [] [0, 2, 3] (.three 1 (.three 4 (.take 5 (.take 6 (.take 7 (.two 8 (.exec 9 (.exec 10 (.exec 11 .done))) 9 (.exec 8 (.exec 10 (.exec 11 .done))))))) 8 (.two 4 (.take 5 (.take 6 (.take 7 (.exec 9 (.exec 10 (.exec 11 .done)))))) 9 (.exec 4 (.take 5 (.take 6 (.take 7 (.exec 10 (.exec 11 .done))))))) 9 (.two 4 (.take 5 (.take 6 (.take 7 (.exec 8 (.exec 10 (.exec 11 .done)))))) 8 (.exec 4 (.take 5 (.take 6 (.take 7 (.exec 10 (.exec 11 .done)))))))) 8 (.two 1 (.two 4 (.take 5 (.take 6 (.take 7 (.exec 9 (.exec 10 (.exec 11 .done)))))) 9 (.exec 4 (.take 5 (.take 6 (.take 7 (.exec 10 (.exec 11 .done))))))) 9 (.exec 1 (.exec 4 (.take 5 (.take 6 (.take 7 (.exec 10 (.exec 11 .done)))))))) 9 (.two 1 (.two 4 (.take 5 (.take 6 (.take 7 (.exec 8 (.exec 10 (.exec 11 .done)))))) 8 (.exec 4 (.take 5 (.take 6 (.take 7 (.exec 10 (.exec 11 .done))))))) 8 (.exec 1 (.exec 4 (.take 5 (.take 6 (.take 7 (.exec 10 (.exec 11 .done))))))))) (by kernel_rfl) (by simp [ATab.get_cons]) ?_
  (repeat' (first | simp (maxSteps := 5000000) (implicitDefEqProofs := false) only [ruA, ruB, aEv, aTake, aLoad, aField, aIndex, aLen, aBin, bin2, aUn, un1, aExtract, aConv, ASt.get, aget, ASt.put, aStore, aBox, aAppend, aBuildSlice, aMake, aBuild, aFill, oneParts, allC, aBinS, yv, aCells, oneC, oneCL, treeC, treeL, aLit, aDst, aSrc, appTab, Value.cells, Value.oneCell', envOf, aResL, aOne, ↓reduceIte, reduceCtorEq, forall_const, Nat.reduceLT, Nat.reduceEqDiff, Nat.reduceAdd, Nat.reduceMul, Nat.reduceSub, Nat.reduceLeDiff, Nat.reduceBEq, eq_self, implies_true, ne_eq, dref, dref1, dref2, aExecS, aStoreB, aTakes, aTakeE, aElder, aFrom, aFresh, isLoad, aBuildSlice1, frzs, frz1, ownIds, AV.frz, AV.frzL, frzEnv, AV.shift, AV.shiftL, aFieldV, aSliceW, aSliceO, aSlice, aSliceR, aSliceS, aBd, aMax, frzAVs, frzAV, frzTab, AObj.frz, aMM, aNilS, aMay, tyF_49_1, tyA_2, tyS_2, tyZ_3, tyZ_4, tyS_3, tyS_4, tyF_34_0, tyA_32, tyS_32] | (with_reducible refine aIf_split (fun _ => ?_) (fun _ => ?_)) | (with_reducible refine aSel_split (fun _ => ?_) (fun _ => ?_)) | (with_reducible refine aGd_split (fun _ => ?_) (fun _ => ?_)) | (with_reducible refine aDraw_quiet (by kernel_rfl) ?_) | ((with_reducible apply callT); exact (hS); exact (.inl (by simp [roL, roA, treeL, treeC]))) | ((with_reducible apply callT); exact (hF); exact (.inl (by simp [roL, roA, treeL, treeC]))) | (with_reducible apply And.intro) | ((with_reducible apply callV); exact (hI)) | ((with_reducible apply callD); exact (hI))))
  all_goals rfl
end
section
open Go.RowKit
theorem isNaNI_A (a : Int) : ADet Try.prog 69 [eI a] (val (.bool false)) := by
  refine adet_of_code mixedT Try.func69 rfl (by decide) Try.ntmps69 Try.results69 rfl (val_ok _) ?_
  have h : (a != a) = false := by simp
  (repeat' (first | simp (maxSteps := 5000000) (implicitDefEqProofs := false) only [ruA, ruB, aEv, aTake, aLoad, aField, aIndex, aLen, aBin, bin2, aUn, un1, aExtract, aConv, ASt.get, aget, ASt.put, aStore, aBox, aAppend, aBuildSlice, aMake, aBuild, aFill, oneParts, allC, aBinS, yv, aCells, oneC, oneCL, treeC, treeL, aLit, aDst, aSrc, appTab, Value.cells, Value.oneCell', envOf, aResL, aOne, ↓reduceIte, reduceCtorEq, forall_const, Nat.reduceLT, Nat.reduceEqDiff, Nat.reduceAdd, Nat.reduceMul, Nat.reduceSub, Nat.reduceLeDiff, Nat.reduceBEq, eq_self, implies_true, ne_eq, dref, dref1, dref2, aExecS, aStoreB, aTakes, aTakeE, aElder, aFrom, aFresh, isLoad, aBuildSlice1, frzs, frz1, ownIds, AV.frz, AV.frzL, frzEnv, AV.shift, AV.shiftL, aFieldV, aSliceW, aSliceO, aSlice, aSliceR, aSliceS, aBd, aMax, frzAVs, frzAV, frzTab, AObj.frz, aMM, aNilS, aMay, tyK_3, h] | (with_reducible refine aIf_split (fun _ => ?_) (fun _ => ?_)) | (with_reducible refine aSel_split (fun _ => ?_) (fun _ => ?_)) | (with_reducible refine aGd_split (fun _ => ?_) (fun _ => ?_)) | (with_reducible refine aDraw_quiet (by kernel_rfl) ?_)))
theorem cmpI_A (a b : Int) : ADet Try.prog 44 [eI a, eI b] (val (.int .i64 (cmpI a b))) := by
  refine adet_of_code mixedT Try.func44 rfl (by decide) Try.ntmps44 Try.results44 rfl (val_ok _) ?_
  (repeat' (first | simp (maxSteps := 5000000) (implicitDefEqProofs := false) only [ruA, ruB, aEv, aTake, aLoad, aField, aIndex, aLen, aBin, bin2, aUn, un1, aExtract, aConv, ASt.get, aget, ASt.put, aStore, aBox, aAppend, aBuildSlice, aMake, aBuild, aFill, oneParts, allC, aBinS, yv, aCells, oneC, oneCL, treeC, treeL, aLit, aDst, aSrc, appTab, Value.cells, Value.oneCell', envOf, aResL, aOne, ↓reduceIte, reduceCtorEq, forall_const, Nat.reduceLT, Nat.reduceEqDiff, Nat.reduceAdd, Nat.reduceMul, Nat.reduceSub, Nat.reduceLeDiff, Nat.reduceBEq, eq_self, implies_true, ne_eq, dref, dref1, dref2, aExecS, aStoreB, aTakes, aTakeE, aElder, aFrom, aFresh, isLoad, aBuildSlice1, frzs, frz1, ownIds, AV.frz, AV.frzL, frzEnv, AV.shift, AV.shiftL, aFieldV, aSliceW, aSliceO, aSlice, aSliceR, aSliceS, aBd, aMax, frzAVs, frzAV, frzTab, AObj.frz, aMM, aNilS, aMay, tyK_3] | (with_reducible refine aIf_split (fun _ => ?_) (fun _ => ?_)) | (with_reducible refine aSel_split (fun _ => ?_) (fun _ => ?_)) | (with_reducible refine aGd_split (fun _ => ?_) (fun _ => ?_)) | (with_reducible refine aDraw_quiet (by kernel_rfl) ?_) | ((with_reducible apply callV (g := 69)); exact (isNaNI_A a)) | ((with_reducible apply callD (g := 69)); exact (isNaNI_A a)) | ((with_reducible apply callV (g := 69)); exact (isNaNI_A b)) | ((with_reducible apply callD (g := 69)); exact (isNaNI_A b))))
  all_goals (simp only [cmpI]; simp_all; try omega)
set_option maxRecDepth 100000 in
set_option maxHeartbeats 8000000 in
theorem compareZ_A (z : Zn) (consts : List Int) (la ln ra rn : Int) (h1 : z.cls.length ≤ 1000000) (h2 : consts.length ≤ 1000000) : ADet Try.prog 21 [.agg (eZn z), sI consts, .agg [eI la, eI ln], .agg [eI ra, eI rn]] (val (.int .i64 (cmpZ z consts la ln ra rn))) := by
  refine adet_of_code mixedT Try.func21 rfl (by decide) Try.ntmps21 Try.results21 rfl (val_ok _) ?_
  unfold cmpZ
  (repeat' (first | simp (maxSteps := 5000000) (implicitDefEqProofs := false) only [ruA, ruB, aEv, aTake, aLoad, aField, aIndex, aLen, aBin, bin2, aUn, un1, aExtract, aConv, ASt.get, aget, ASt.put, aStore, aBox, aAppend, aBuildSlice, aMake, aBuild, aFill, oneParts, allC, aBinS, yv, aCells, oneC, oneCL, treeC, treeL, aLit, aDst, aSrc, appTab, Value.cells, Value.oneCell', envOf, aResL, aOne, ↓reduceIte, reduceCtorEq, forall_const, Nat.reduceLT, Nat.reduceEqDiff, Nat.reduceAdd, Nat.reduceMul, Nat.reduceSub, Nat.reduceLeDiff, Nat.reduceBEq, eq_self, implies_true, ne_eq, dref, dref1, dref2, aExecS, aStoreB, aTakes, aTakeE, aElder, aFrom, aFresh, isLoad, aBuildSlice1, frzs, frz1, ownIds, AV.frz, AV.frzL, frzEnv, AV.shift, AV.shiftL, aFieldV, aSliceW, aSliceO, aSlice, aSliceR, aSliceS, aBd, aMax, frzAVs, frzAV, frzTab, AObj.frz, aMM, aNilS, aMay, tyA_34, tyS_34, tyA_49, tyS_49, tyK_3] | (with_reducible refine aIf_split (fun _ => ?_) (fun _ => ?_)) | (with_reducible refine aSel_split (fun _ => ?_) (fun _ => ?_)) | (with_reducible refine aGd_split (fun _ => ?_) (fun _ => ?_)) | (with_reducible refine aDraw_quiet (by kernel_rfl) ?_) | ((with_reducible apply callV (g := 37)); exact (place_A z consts la ln h1 h2)) | ((with_reducible apply callD (g := 37)); exact (place_A z consts la ln h1 h2)) | ((with_reducible apply callV (g := 37)); exact (place_A z consts ra rn h1 h2)) | ((with_reducible apply callD (g := 37)); exact (place_A z consts ra rn h1 h2)) | ((with_reducible apply callV (g := 44)); exact (cmpI_A _ _)) | ((with_reducible apply callD (g := 44)); exact (cmpI_A _ _))))
  all_goals (simp_all; try omega)
set_option maxRecDepth 100000 in
theorem indexFi_A (g : FuncId) (caps : List AV) (l : List (Inst)) (p : Inst → Bool) (hl : l.length ≤ 1000000) (ht : treeL caps) (hp : ∀ x ∈ l, ADet Try.prog g (.agg (eInst x) :: caps) (val (.bool (p x)))) : ADet Try.prog 61 [sInsts l, .fn g caps] (val (.int .i64 (fstI p l))) := by
  refine adet_of_code mixedT Try.func61 rfl (by decide) Try.ntmps61 Try.results61 rfl (val_ok _) ?_
  have hlt0 : AV.ltL 0 caps := ltL_tree ht
  (repeat' (first | simp (maxSteps := 5000000) (implicitDefEqProofs := false) only [ruA, ruB, aEv, aTake, aLoad, aField, aIndex, aLen, aBin, bin2, aUn, un1, aExtract, aConv, ASt.get, aget, ASt.put, aStore, aBox, aAppend, aBuildSlice, aMake, aBuild, aFill, oneParts, allC, aBinS, yv, aCells, oneC, oneCL, treeC, treeL, aLit, aDst, aSrc, appTab, Value.cells, Value.oneCell', envOf, aResL, aOne, ↓reduceIte, reduceCtorEq, forall_const, Nat.reduceLT, Nat.reduceEqDiff, Nat.reduceAdd, Nat.reduceMul, Nat.reduceSub, Nat.reduceLeDiff, Nat.reduceBEq, eq_self, implies_true, ne_eq, dref, dref1, dref2, aExecS, aStoreB, aTakes, aTakeE, aElder, aFrom, aFresh, isLoad, aBuildSlice1, frzs, frz1, ownIds, AV.frz, AV.frzL, frzEnv, AV.shift, AV.shiftL, aFieldV, aSliceW, aSliceO, aSlice, aSliceR, aSliceS, aBd, aMax, frzAVs, frzAV, frzTab, AObj.frz, aMM, aNilS, aMay, tyE_22, tyK_22, tyK_3, tyA_51, tyS_51] | (with_reducible refine aIf_split (fun _ => ?_) (fun _ => ?_)) | (with_reducible refine aSel_split (fun _ => ?_) (fun _ => ?_)) | (with_reducible refine aGd_split (fun _ => ?_) (fun _ => ?_))))
  refine aLoop_of (fun st => ∃ k : Nat, k ≤ l.length ∧ (∀ i (h : i < l.length), i < k → p l[i] = false) ∧ st = ⟨19, [(0, sInsts l), (1, .fn g caps), (7, eI (l.length : Int)), (8, eI (k : Int))], [], 0⟩) (fun st => l.length - slotN st 8) ⟨_, (weak_cut1 (by (first | ((simp only [envIn, tabIn, envLt, tabLt, AObj.lt, AV.lt, AV.ltL, ruW, ASt.get, aget, ASt.put, ↓reduceIte, reduceCtorEq, Nat.reduceLT, Nat.reduceEqDiff, Nat.reduceAdd, Nat.reduceLeDiff, eq_self, implies_true, hlt0]) <;> (repeat' apply And.intro) <;> first | (rw [wrapK (by omega)]; done) | (simp; done) | omega) | fail))), 0, Nat.zero_le _, fun i _ h => by omega, rfl⟩ ?_
  rintro _ ⟨k, hk, hn, rfl⟩
  by_cases hlt : k < l.length
  · (repeat' (first | simp (maxSteps := 5000000) (implicitDefEqProofs := false) only [ruA, ruB, aEv, aTake, aLoad, aField, aIndex, aLen, aBin, bin2, aUn, un1, aExtract, aConv, ASt.get, aget, ASt.put, aStore, aBox, aAppend, aBuildSlice, aMake, aBuild, aFill, oneParts, allC, aBinS, yv, aCells, oneC, oneCL, treeC, treeL, aLit, aDst, aSrc, appTab, Value.cells, Value.oneCell', envOf, aResL, aOne, ↓reduceIte, reduceCtorEq, forall_const, Nat.reduceLT, Nat.reduceEqDiff, Nat.reduceAdd, Nat.reduceMul, Nat.reduceSub, Nat.reduceLeDiff, Nat.reduceBEq, eq_self, implies_true, ne_eq, dref, dref1, dref2, aExecS, aStoreB, aTakes, aTakeE, aElder, aFrom, aFresh, isLoad, aBuildSlice1, frzs, frz1, ownIds, AV.frz, AV.frzL, frzEnv, AV.shift, AV.shiftL, aFieldV, aSliceW, aSliceO, aSlice, aSliceR, aSliceS, aBd, aMax, frzAVs, frzAV, frzTab, AObj.frz, aMM, aNilS, aMay, tyE_22, tyK_22, tyK_3, tyA_51, tyS_51, row_at, hlt] | (with_reducible refine aIf_split (fun _ => ?_) (fun _ => ?_)) | (with_reducible refine aSel_split (fun _ => ?_) (fun _ => ?_)) | (with_reducible refine aGd_split (fun _ => ?_) (fun _ => ?_))))
    refine callClo (args := [_]) ht (hp _ (List.getElem_mem hlt)) ?_
    (repeat' (first | simp (maxSteps := 5000000) (implicitDefEqProofs := false) only [ruA, ruB, aEv, aTake, aLoad, aField, aIndex, aLen, aBin, bin2, aUn, un1, aExtract, aConv, ASt.get, aget, ASt.put, aStore, aBox, aAppend, aBuildSlice, aMake, aBuild, aFill, oneParts, allC, aBinS, yv, aCells, oneC, oneCL, treeC, treeL, aLit, aDst, aSrc, appTab, Value.cells, Value.oneCell', envOf, aResL, aOne, ↓reduceIte, reduceCtorEq, forall_const, Nat.reduceLT, Nat.reduceEqDiff, Nat.reduceAdd, Nat.reduceMul, Nat.reduceSub, Nat.reduceLeDiff, Nat.reduceBEq, eq_self, implies_true, ne_eq, dref, dref1, dref2, aExecS, aStoreB, aTakes, aTakeE, aElder, aFrom, aFresh, isLoad, aBuildSlice1, frzs, frz1, ownIds, AV.frz, AV.frzL, frzEnv, AV.shift, AV.shiftL, aFieldV, aSliceW, aSliceO, aSlice, aSliceR, aSliceS, aBd, aMax, frzAVs, frzAV, frzTab, AObj.frz, aMM, aNilS, aMay, tyE_22, tyK_22, tyK_3, tyA_51, tyS_51, row_at, hlt] | (with_reducible refine aIf_split (fun _ => ?_) (fun _ => ?_)) | (with_reducible refine aSel_split (fun _ => ?_) (fun _ => ?_)) | (with_reducible refine aGd_split (fun _ => ?_) (fun _ => ?_))))
    · rename_i h
      rw [fstI_at hlt h fun i hi => hn i (by omega) hi]
    · rename_i h
      refine roundI (weak_cut1 (by (first | ((simp only [envIn, tabIn, envLt, tabLt, AObj.lt, AV.lt, AV.ltL, ruW, ASt.get, aget, ASt.put, ↓reduceIte, reduceCtorEq, Nat.reduceLT, Nat.reduceEqDiff, Nat.reduceAdd, Nat.reduceLeDiff, eq_self, implies_true, hlt0]) <;> (repeat' apply And.intro) <;> first | (rw [wrapK (by omega)]; done) | (simp; done) | omega) | fail))) ⟨k + 1, by omega, fun i hi h2 => ?_, rfl⟩ (by simp only [slotN, ruW, ASt.get, aget, ASt.put, ↓reduceIte, reduceCtorEq, Nat.reduceLT, Nat.reduceEqDiff, Nat.reduceAdd, Nat.reduceLeDiff, eq_self, implies_true]; omega)
      rcases Nat.lt_or_ge i k with h3 | h3
      · exact hn i hi h3
      · obtain rfl : i = k := by omega
        exact h
  · obtain rfl : k = l.length := by omega
    (repeat' (first | simp (maxSteps := 5000000) (implicitDefEqProofs := false) only [ruA, ruB, aEv, aTake, aLoad, aField, aIndex, aLen, aBin, bin2, aUn, un1, aExtract, aConv, ASt.get, aget, ASt.put, aStore, aBox, aAppend, aBuildSlice, aMake, aBuild, aFill, oneParts, allC, aBinS, yv, aCells, oneC, oneCL, treeC, treeL, aLit, aDst, aSrc, appTab, Value.cells, Value.oneCell', envOf, aResL, aOne, ↓reduceIte, reduceCtorEq, forall_const, Nat.reduceLT, Nat.reduceEqDiff, Nat.reduceAdd, Nat.reduceMul, Nat.reduceSub, Nat.reduceLeDiff, Nat.reduceBEq, eq_self, implies_true, ne_eq, dref, dref1, dref2, aExecS, aStoreB, aTakes, aTakeE, aElder, aFrom, aFresh, isLoad, aBuildSlice1, frzs, frz1, ownIds, AV.frz, AV.frzL, frzEnv, AV.shift, AV.shiftL, aFieldV, aSliceW, aSliceO, aSlice, aSliceR, aSliceS, aBd, aMax, frzAVs, frzAV, frzTab, AObj.frz, aMM, aNilS, aMay, tyE_22, tyK_22, tyK_3, tyA_51, tyS_51, hlt] | (with_reducible refine aIf_split (fun _ => ?_) (fun _ => ?_)) | (with_reducible refine aSel_split (fun _ => ?_) (fun _ => ?_)) | (with_reducible refine aGd_split (fun _ => ?_) (fun _ => ?_))))
    rw [fstI_none fun x hx => by obtain ⟨i, hi, rfl⟩ := List.getElem_of_mem hx; exact hn i hi hi]
set_option maxRecDepth 100000 in
theorem containsFi_A (g : FuncId) (caps : List AV) (l : List (Inst)) (p : Inst → Bool) (hl : l.length ≤ 1000000) (ht : treeL caps) (hp : ∀ x ∈ l, ADet Try.prog g (.agg (eInst x) :: caps) (val (.bool (p x)))) : ADet Try.prog 34 [sInsts l, .fn g caps] (val (.bool (l.any p))) := by
  refine adet_of_code mixedT Try.func34 rfl (by decide) Try.ntmps34 Try.results34 rfl (val_ok _) ?_
  (repeat' (first | simp (maxSteps := 5000000) (implicitDefEqProofs := false) only [ruA, ruB, aEv, aTake, aLoad, aField, aIndex, aLen, aBin, bin2, aUn, un1, aExtract, aConv, ASt.get, aget, ASt.put, aStore, aBox, aAppend, aBuildSlice, aMake, aBuild, aFill, oneParts, allC, aBinS, yv, aCells, oneC, oneCL, treeC, treeL, aLit, aDst, aSrc, appTab, Value.cells, Value.oneCell', envOf, aResL, aOne, ↓reduceIte, reduceCtorEq, forall_const, Nat.reduceLT, Nat.reduceEqDiff, Nat.reduceAdd, Nat.reduceMul, Nat.reduceSub, Nat.reduceLeDiff, Nat.reduceBEq, eq_self, implies_true, ne_eq, dref, dref1, dref2, aExecS, aStoreB, aTakes, aTakeE, aElder, aFrom, aFresh, isLoad, aBuildSlice1, frzs, frz1, ownIds, AV.frz, AV.frzL, frzEnv, AV.shift, AV.shiftL, aFieldV, aSliceW, aSliceO, aSlice, aSliceR, aSliceS, aBd, aMax, frzAVs, frzAV, frzTab, AObj.frz, aMM, aNilS, aMay, tyK_3] | (with_reducible refine aIf_split (fun _ => ?_) (fun _ => ?_)) | (with_reducible refine aSel_split (fun _ => ?_) (fun _ => ?_)) | (with_reducible refine aGd_split (fun _ => ?_) (fun _ => ?_))))
  refine callV (by simp only [List.map_cons, List.map_nil, dref]; rw [show caps.map (dref2 []) = caps from dref2s_tree ht]; exact indexFi_A g caps l p hl ht hp) ?_
  (repeat' (first | simp (maxSteps := 5000000) (implicitDefEqProofs := false) only [ruA, ruB, aEv, aTake, aLoad, aField, aIndex, aLen, aBin, bin2, aUn, un1, aExtract, aConv, ASt.get, aget, ASt.put, aStore, aBox, aAppend, aBuildSlice, aMake, aBuild, aFill, oneParts, allC, aBinS, yv, aCells, oneC, oneCL, treeC, treeL, aLit, aDst, aSrc, appTab, Value.cells, Value.oneCell', envOf, aResL, aOne, ↓reduceIte, reduceCtorEq, forall_const, Nat.reduceLT, Nat.reduceEqDiff, Nat.reduceAdd, Nat.reduceMul, Nat.reduceSub, Nat.reduceLeDiff, Nat.reduceBEq, eq_self, implies_true, ne_eq, dref, dref1, dref2, aExecS, aStoreB, aTakes, aTakeE, aElder, aFrom, aFresh, isLoad, aBuildSlice1, frzs, frz1, ownIds, AV.frz, AV.frzL, frzEnv, AV.shift, AV.shiftL, aFieldV, aSliceW, aSliceO, aSlice, aSliceR, aSliceS, aBd, aMax, frzAVs, frzAV, frzTab, AObj.frz, aMM, aNilS, aMay, tyK_3] | (with_reducible refine aIf_split (fun _ => ?_) (fun _ => ?_)) | (with_reducible refine aSel_split (fun _ => ?_) (fun _ => ?_)) | (with_reducible refine aGd_split (fun _ => ?_) (fun _ => ?_))))
  rw [fstI_any]
def isCmp (x : Inst) : Bool := decide (3 ≤ x.op) && decide (x.op ≤ 8)
theorem comparesZ_A (x : Inst) : ADet Try.prog 36 [.agg (eInst x)] (val (.bool (isCmp x))) := by
  refine adet_of_code mixedT Try.func36 rfl (by decide) Try.ntmps36 Try.results36 rfl (val_ok _) ?_
  unfold isCmp
  (repeat' (first | simp (maxSteps := 5000000) (implicitDefEqProofs := false) only [ruA, ruB, aEv, aTake, aLoad, aField, aIndex, aLen, aBin, bin2, aUn, un1, aExtract, aConv, ASt.get, aget, ASt.put, aStore, aBox, aAppend, aBuildSlice, aMake, aBuild, aFill, oneParts, allC, aBinS, yv, aCells, oneC, oneCL, treeC, treeL, aLit, aDst, aSrc, appTab, Value.cells, Value.oneCell', envOf, aResL, aOne, ↓reduceIte, reduceCtorEq, forall_const, Nat.reduceLT, Nat.reduceEqDiff, Nat.reduceAdd, Nat.reduceMul, Nat.reduceSub, Nat.reduceLeDiff, Nat.reduceBEq, eq_self, implies_true, ne_eq, dref, dref1, dref2, aExecS, aStoreB, aTakes, aTakeE, aElder, aFrom, aFresh, isLoad, aBuildSlice1, frzs, frz1, ownIds, AV.frz, AV.frzL, frzEnv, AV.shift, AV.shiftL, aFieldV, aSliceW, aSliceO, aSlice, aSliceR, aSliceS, aBd, aMax, frzAVs, frzAV, frzTab, AObj.frz, aMM, aNilS, aMay, tyF_51_0, tyA_3, tyS_3, tyK_3] | (with_reducible refine aIf_split (fun _ => ?_) (fun _ => ?_)) | (with_reducible refine aSel_split (fun _ => ?_) (fun _ => ?_)) | (with_reducible refine aGd_split (fun _ => ?_) (fun _ => ?_)) | (with_reducible refine aDraw_quiet (by kernel_rfl) ?_)))
  all_goals grind
def lostB (z : Zn) (c : List Int) (x : Inst) : Bool := isCmp x && (decide (placeM z c x.la x.ln < 0) || decide (placeM z c x.ra x.rn < 0))
def knowsM (l : List Inst) (z : Zn) (c : List Int) : Bool := !(l.any (lostB z c))
set_option maxRecDepth 100000 in
theorem knows1_A (z : Zn) (c : List Int) (x : Inst) (h1 : z.cls.length ≤ 1000000) (h2 : c.length ≤ 1000000) : ADet Try.prog 35 [.agg (eInst x), .rp (eZn z), .rp [sI c]] (val (.bool (lostB z c x))) := by
  refine adet_of_code mixedT Try.func35 rfl (by decide) Try.ntmps35 Try.results35 rfl (val_ok _) ?_
  unfold lostB
  (repeat' (first | simp (maxSteps := 5000000) (implicitDefEqProofs := false) only [ruA, ruB, aEv, aTake, aLoad, aField, aIndex, aLen, aBin, bin2, aUn, un1, aExtract, aConv, ASt.get, aget, ASt.put, aStore, aBox, aAppend, aBuildSlice, aMake, aBuild, aFill, oneParts, allC, aBinS, yv, aCells, oneC, oneCL, treeC, treeL, aLit, aDst, aSrc, appTab, Value.cells, Value.oneCell', envOf, aResL, aOne, ↓reduceIte, reduceCtorEq, forall_const, Nat.reduceLT, Nat.reduceEqDiff, Nat.reduceAdd, Nat.reduceMul, Nat.reduceSub, Nat.reduceLeDiff, Nat.reduceBEq, eq_self, implies_true, ne_eq, dref, dref1, dref2, aExecS, aStoreB, aTakes, aTakeE, aElder, aFrom, aFresh, isLoad, aBuildSlice1, frzs, frz1, ownIds, AV.frz, AV.frzL, frzEnv, AV.shift, AV.shiftL, aFieldV, aSliceW, aSliceO, aSlice, aSliceR, aSliceS, aBd, aMax, frzAVs, frzAV, frzTab, AObj.frz, aMM, aNilS, aMay, tyA_51, tyS_51, tyA_34, tyS_34, tyA_23, tyS_23, tyF_51_1, tyA_49, tyS_49, tyK_3, tyF_51_2] | (with_reducible refine aIf_split (fun _ => ?_) (fun _ => ?_)) | (with_reducible refine aSel_split (fun _ => ?_) (fun _ => ?_)) | (with_reducible refine aGd_split (fun _ => ?_) (fun _ => ?_)) | (with_reducible refine aDraw_quiet (by kernel_rfl) ?_) | ((with_reducible apply callV (g := 36)); exact (comparesZ_A x)) | ((with_reducible apply callD (g := 36)); exact (comparesZ_A x)) | ((with_reducible apply callV (g := 37)); exact (place_A z c x.la x.ln h1 h2)) | ((with_reducible apply callD (g := 37)); exact (place_A z c x.la x.ln h1 h2)) | ((with_reducible apply callV (g := 37)); exact (place_A z c x.ra x.rn h1 h2)) | ((with_reducible apply callD (g := 37)); exact (place_A z c x.ra x.rn h1 h2))))
  all_goals (simp_all; try omega)
set_option maxRecDepth 100000 in
theorem knows_A (l : List Inst) (z : Zn) (c : List Int) (hl : l.length ≤ 1000000) (h1 : z.cls.length ≤ 1000000) (h2 : c.length ≤ 1000000) : ADet Try.prog 18 [sInsts l, .agg (eZn z), sI c] (val (.bool (knowsM l z c))) := by
  refine adet_of_code mixedT Try.func18 rfl (by decide) Try.ntmps18 Try.results18 rfl (val_ok _) ?_
  unfold knowsM
  have hC := containsFi_A 35 [.rp (eZn z), .rp [sI c]] l (lostB z c) hl (by simp [treeL, treeC]) (fun x _ => knows1_A z c x h1 h2)
  (repeat' (first | simp (maxSteps := 5000000) (implicitDefEqProofs := false) only [ruA, ruB, aEv, aTake, aLoad, aField, aIndex, aLen, aBin, bin2, aUn, un1, aExtract, aConv, ASt.get, aget, ASt.put, aStore, aBox, aAppend, aBuildSlice, aMake, aBuild, aFill, oneParts, allC, aBinS, yv, aCells, oneC, oneCL, treeC, treeL, aLit, aDst, aSrc, appTab, Value.cells, Value.oneCell', envOf, aResL, aOne, ↓reduceIte, reduceCtorEq, forall_const, Nat.reduceLT, Nat.reduceEqDiff, Nat.reduceAdd, Nat.reduceMul, Nat.reduceSub, Nat.reduceLeDiff, Nat.reduceBEq, eq_self, implies_true, ne_eq, dref, dref1, dref2, aExecS, aStoreB, aTakes, aTakeE, aElder, aFrom, aFresh, isLoad, aBuildSlice1, frzs, frz1, ownIds, AV.frz, AV.frzL, frzEnv, AV.shift, AV.shiftL, aFieldV, aSliceW, aSliceO, aSlice, aSliceR, aSliceS, aBd, aMax, frzAVs, frzAV, frzTab, AObj.frz, aMM, aNilS, aMay] | (with_reducible refine aIf_split (fun _ => ?_) (fun _ => ?_)) | (with_reducible refine aSel_split (fun _ => ?_) (fun _ => ?_)) | (with_reducible refine aGd_split (fun _ => ?_) (fun _ => ?_)) | (with_reducible refine aDraw_quiet (by kernel_rfl) ?_) | ((with_reducible apply callV); exact (hC)) | ((with_reducible apply callD); exact (hC))))
set_option maxRecDepth 100000 in
theorem zholds1_A (z : Zn) (c : List Int) (la ln ra rn : Int) (h1 : z.cls.length ≤ 1000000) (h2 : c.length ≤ 1000000) : ADet Try.prog 20 [.agg [eI la, eI ln], .agg [eI ra, eI rn], .rp (eZn z), .rp [sI c]] (val (.int .i64 (cmpZ z c la ln ra rn))) := by
  refine adet_of_code mixedT Try.func20 rfl (by decide) Try.ntmps20 Try.results20 rfl (val_ok _) ?_
  (repeat' (first | simp (maxSteps := 5000000) (implicitDefEqProofs := false) only [ruA, ruB, aEv, aTake, aLoad, aField, aIndex, aLen, aBin, bin2, aUn, un1, aExtract, aConv, ASt.get, aget, ASt.put, aStore, aBox, aAppend, aBuildSlice, aMake, aBuild, aFill, oneParts, allC, aBinS, yv, aCells, oneC, oneCL, treeC, treeL, aLit, aDst, aSrc, appTab, Value.cells, Value.oneCell', envOf, aResL, aOne, ↓reduceIte, reduceCtorEq, forall_const, Nat.reduceLT, Nat.reduceEqDiff, Nat.reduceAdd, Nat.reduceMul, Nat.reduceSub, Nat.reduceLeDiff, Nat.reduceBEq, eq_self, implies_true, ne_eq, dref, dref1, dref2, aExecS, aStoreB, aTakes, aTakeE, aElder, aFrom, aFresh, isLoad, aBuildSlice1, frzs, frz1, ownIds, AV.frz, AV.frzL, frzEnv, AV.shift, AV.shiftL, aFieldV, aSliceW, aSliceO, aSlice, aSliceR, aSliceS, aBd, aMax, frzAVs, frzAV, frzTab, AObj.frz, aMM, aNilS, aMay, tyA_34, tyS_34, tyA_23, tyS_23, tyA_49, tyS_49] | (with_reducible refine aIf_split (fun _ => ?_) (fun _ => ?_)) | (with_reducible refine aSel_split (fun _ => ?_) (fun _ => ?_)) | (with_reducible refine aGd_split (fun _ => ?_) (fun _ => ?_)) | (with_reducible refine aDraw_quiet (by kernel_rfl) ?_) | ((with_reducible apply callV (g := 21)); exact (compareZ_A z c la ln ra rn h1 h2)) | ((with_reducible apply callD (g := 21)); exact (compareZ_A z c la ln ra rn h1 h2))))
/-- conditions by whatever compares -/
theorem sides_A (g : FuncId) (caps : List AV) (l : List Inst) (s : St) (f : Int → Int → Int → Int → Int) (hl : l.length ≤ 900) (ho : ∀ x ∈ l, x.ok)
    (hg : ∀ la ln ra rn, ADet Try.prog g (.agg [eI la, eI ln] :: .agg [eI ra, eI rn] :: caps) (val (.int .i64 (f la ln ra rn)))) :
    ADet Try.prog 19 [sInsts l, .fn g caps, .agg (eSt s)] ⟨.tup [eB (optB (holdsG (fun x => some (f x.la x.ln x.ra x.rn)) s.opn s.don l)), eI (optE (holdsG (fun x => some (f x.la x.ln x.ra x.rn)) s.opn s.don l))], [], 0⟩ :=
  ⟨enters_of Try.func19 rfl (by decide), fun S w vs hS hn hv => by
    obtain ⟨a, fv, b, rfl⟩ : ∃ a fv b, vs = #[a, fv, b] := ⟨vs[0]'(by simp at hn; omega), vs[1]'(by simp at hn; omega), vs[2]'(by simp at hn; omega), by
      apply Array.ext (by simpa using hn)
      intro i h1 h2
      simp at h2
      match i with
      | 0 => rfl
      | 1 => rfl
      | 2 => rfl
      | i + 3 => omega⟩
    have hf := hv 1 fv _ rfl rfl
    have hb := hv 2 b _ rfl rfl
    cases hf with
    | fn _ ys _ hyn hyr =>
    cases hb with
    | agg xs cs hxn hr =>
      have hx : ∀ j (hj : j < 5), ∃ x, xs[j]? = some x := fun j hj => ⟨_, Array.getElem?_eq_getElem (by simp at hxn; omega)⟩
      obtain ⟨x0, e0⟩ := hx 0 (by omega)
      obtain ⟨x1, e1⟩ := hx 1 (by omega)
      obtain ⟨x2, e2⟩ := hx 2 (by omega)
      obtain ⟨x3, e3⟩ := hx 3 (by omega)
      obtain ⟨x4, e4⟩ := hx 4 (by omega)
      have hxs : xs = #[x0, x1, x2, x3, x4] := by
        apply Array.ext_getElem?
        intro j
        match j with
        | 0 => simpa using e0
        | 1 => simpa using e1
        | 2 => simpa using e2
        | 3 => simpa using e3
        | 4 => simpa using e4
        | j + 5 =>
          rw [Array.getElem?_eq_none (by simp at hxn; omega)]
          simp
      obtain rfl := rtc (hr 1 x1 _ e1 rfl)
      obtain rfl := rtc (hr 2 x2 _ e2 rfl)
      subst hxs
      have hles : ∀ x ∈ l, LessOK g ys (fun x => some (f x.la x.ln x.ra x.rn)) x w := fun x _ w' hw' => by
        refine (hg x.la x.ln x.ra x.rn).calls (by simp [hyn]; omega) fun j v av h3 h4 => ?_
        match j with
        | 0 =>
          rw [Array.getElem?_append_left (by simp)] at h3
          simp at h3 h4
          subst h3
          subst h4
          refine .agg _ _ rfl fun i u av h5 h6 => ?_
          match i with
          | 0 => simp at h5 h6; subst h5; subst h6; exact .c _
          | 1 => simp at h5 h6; subst h5; subst h6; exact .c _
          | i + 2 => simp at h5
        | 1 =>
          rw [Array.getElem?_append_left (by simp)] at h3
          simp at h3 h4
          subst h3
          subst h4
          refine .agg _ _ rfl fun i u av h5 h6 => ?_
          match i with
          | 0 => simp at h5 h6; subst h5; subst h6; exact .c _
          | 1 => simp at h5 h6; subst h5; subst h6; exact .c _
          | i + 2 => simp at h5
        | j + 2 =>
          have h3' : ys[j]? = some v := by
            rw [Array.getElem?_append_right (by simp)] at h3
            simpa using h3
          have h4' : caps[j]? = some av := by simpa using h4
          exact (hyr j v av h3' h4').mono (fun p hp => hw'.cell (hS _ hp)) (fun b hb => Nat.lt_of_lt_of_le (hS b hb) hw'.size)
      have hcf : ∀ (args : Array Value) (w : World), (callFunc g args).run Try.prog w = .ok (.enter g args) w := (hg 0 0 0 0).1
      refine (sides_any l a S g ys x0 s.opn s.don x3 x4 w (rt_insts (hv 0 a _ rfl rfl) ho) hS hl hcf _ hles).mono fun e w' ⟨h1, h2⟩ => ?_
      refine ⟨_, fun _ => undef, _, rfl, ⟨fun id o h => (by cases h), ⟨trivial, trivial, trivial⟩⟩, h1, ⟨belowX h2, fun id o h => (by cases h), fun id id' o o' g h => (by cases h), fun b hb => hb.elim⟩, .tree (.tup _ _ rfl fun j x av h3 h4 => ?_)⟩
      match j with
      | 0 => simp at h3 h4; subst h3; subst h4; exact .c _
      | 1 => simp at h3 h4; subst h3; subst h4; exact .c _
      | j + 2 => simp at h3⟩
def zholdsO (l : List Inst) (z : Zn) (c : List Int) (s : St) : Option Bool := if knowsM l z c = true then holdsG (fun x => some (cmpZ z c x.la x.ln x.ra x.rn)) s.opn s.don l else none
set_option maxRecDepth 100000 in
set_option maxHeartbeats 8000000 in
theorem zholds_A (l : List Inst) (z : Zn) (c : List Int) (s : St) (hl : l.length ≤ 900) (ho : ∀ x ∈ l, x.ok) (h1 : z.cls.length ≤ 1000000) (h2 : c.length ≤ 1000000) : ADet Try.prog 7 [sInsts l, .agg (eZn z), sI c, .agg (eSt s)] ⟨.tup [eB (optB (zholdsO l z c s)), eI (optE (zholdsO l z c s))], [], 0⟩ := by
  have hok : (⟨.tup [eB (optB (zholdsO l z c s)), eI (optE (zholdsO l z c s))], [], 0⟩ : Res).Ok := ⟨fun id o h => (by cases h), by simp [AV.lt, AV.ltL]⟩
  refine adet_of_code mixedT Try.func7 rfl (by decide) Try.ntmps7 Try.results7 rfl (hok) ?_
  have hK := knows_A l z c (by omega) h1 h2
  have hS := sides_A 20 [.rp (eZn z), .rp [sI c]] l s (cmpZ z c) hl ho (fun la ln ra rn => zholds1_A z c la ln ra rn h1 h2)
  cases hk : knowsM l z c with
  | true =>
    rw [hk] at hK
    have hz : zholdsO l z c s = holdsG (fun x => some (cmpZ z c x.la x.ln x.ra x.rn)) s.opn s.don l := by unfold zholdsO; rw [if_pos hk]
    rw [hz]
    (repeat' (first | simp (maxSteps := 5000000) (implicitDefEqProofs := false) only [ruA, ruB, aEv, aTake, aLoad, aField, aIndex, aLen, aBin, bin2, aUn, un1, aExtract, aConv, ASt.get, aget, ASt.put, aStore, aBox, aAppend, aBuildSlice, aMake, aBuild, aFill, oneParts, allC, aBinS, yv, aCells, oneC, oneCL, treeC, treeL, aLit, aDst, aSrc, appTab, Value.cells, Value.oneCell', envOf, aResL, aOne, ↓reduceIte, reduceCtorEq, forall_const, Nat.reduceLT, Nat.reduceEqDiff, Nat.reduceAdd, Nat.reduceMul, Nat.reduceSub, Nat.reduceLeDiff, Nat.reduceBEq, eq_self, implies_true, ne_eq, dref, dref1, dref2, aExecS, aStoreB, aTakes, aTakeE, aElder, aFrom, aFresh, isLoad, aBuildSlice1, frzs, frz1, ownIds, AV.frz, AV.frzL, frzEnv, AV.shift, AV.shiftL, aFieldV, aSliceW, aSliceO, aSlice, aSliceR, aSliceS, aBd, aMax, frzAVs, frzAV, frzTab, AObj.frz, aMM, aNilS, aMay, tyA_34, tyS_34, tyA_23, tyS_23, tyA_26, tyS_26] | (with_reducible refine aIf_split (fun _ => ?_) (fun _ => ?_)) | (with_reducible refine aSel_split (fun _ => ?_) (fun _ => ?_)) | (with_reducible refine aGd_split (fun _ => ?_) (fun _ => ?_)) | (with_reducible refine aDraw_quiet (by kernel_rfl) ?_) | ((with_reducible apply callV); exact (hK)) | ((with_reducible apply callD); exact (hK)) | (((with_reducible apply callT); exact hS; exact (.inr (by simp [AV.plain, AV.plainL]))))))
    all_goals exact gives_tree (by first | rfl | simp [AV.ren, AV.renL])
  | false =>
    rw [hk] at hK
    have hz : zholdsO l z c s = none := by unfold zholdsO; rw [if_neg (by simp [hk])]
    rw [hz]
    (repeat' (first | simp (maxSteps := 5000000) (implicitDefEqProofs := false) only [ruA, ruB, aEv, aTake, aLoad, aField, aIndex, aLen, aBin, bin2, aUn, un1, aExtract, aConv, ASt.get, aget, ASt.put, aStore, aBox, aAppend, aBuildSlice, aMake, aBuild, aFill, oneParts, allC, aBinS, yv, aCells, oneC, oneCL, treeC, treeL, aLit, aDst, aSrc, appTab, Value.cells, Value.oneCell', envOf, aResL, aOne, ↓reduceIte, reduceCtorEq, forall_const, Nat.reduceLT, Nat.reduceEqDiff, Nat.reduceAdd, Nat.reduceMul, Nat.reduceSub, Nat.reduceLeDiff, Nat.reduceBEq, eq_self, implies_true, ne_eq, dref, dref1, dref2, aExecS, aStoreB, aTakes, aTakeE, aElder, aFrom, aFresh, isLoad, aBuildSlice1, frzs, frz1, ownIds, AV.frz, AV.frzL, frzEnv, AV.shift, AV.shiftL, aFieldV, aSliceW, aSliceO, aSlice, aSliceR, aSliceS, aBd, aMax, frzAVs, frzAV, frzTab, AObj.frz, aMM, aNilS, aMay, tyA_34, tyS_34, tyA_23, tyS_23, tyA_26, tyS_26] | (with_reducible refine aIf_split (fun _ => ?_) (fun _ => ?_)) | (with_reducible refine aSel_split (fun _ => ?_) (fun _ => ?_)) | (with_reducible refine aGd_split (fun _ => ?_) (fun _ => ?_)) | (with_reducible refine aDraw_quiet (by kernel_rfl) ?_) | ((with_reducible apply callV); exact (hK)) | ((with_reducible apply callD); exact (hK))))
    all_goals exact gives_tree (by first | rfl | simp [AV.ren, AV.renL, optB, optE])
end
section
open Go.RowKit
theorem below_at {c : List Int} (hc : Up c) {n : Int} {q : Nat} (hq : q < c.length) (h : c[q] = n) : lessN c n = q := by
  have hp := List.pairwise_iff_getElem.1 hc
  exact (search_up c n hc q (by omega) (fun h0 => by rw [← h]; exact hp (q - 1) q (by omega) hq (by omega)) (fun _ => by omega)).1
end
section
open Go.RowKit
def numsL (vals c : List Int) : List Int := sortR (vals ++ c)
def attrsN (vals : List Int) (n : Int) : Nat → Int
  | 0 => 0
  | k + 1 => if vals.getD k 0 = n then withB (attrsN vals n k) (k : Int) else attrsN vals n k
def constN (c : List Int) (n : Int) : Nat → Int
  | 0 => -1
  | k + 1 => if c.getD k 0 = n then (k : Int) else constN c n k
def clsOf (vals c : List Int) (n : Int) : Cls := ⟨attrsN vals n vals.length, constN (sortR c) n (sortR c).length⟩
def clsL (vals c : List Int) : List Cls := (numsL vals c).map (clsOf vals c)
theorem hasB_zero (a : Int) : hasB 0 a = false := by simp [hasB]
theorem attrs_has (vals : List Int) (n : Int) : ∀ k, k ≤ 31 → ∀ a : Int, hasB (attrsN vals n k) a = true ↔ ∃ q : Nat, a = (q : Int) ∧ q < k ∧ vals.getD q 0 = n
  | 0, _, a => by
    unfold attrsN
    rw [hasB_zero]
    constructor
    · intro h
      cases h
    · rintro ⟨q, _, h, _⟩
      omega
  | k + 1, hk, a => by
    have ih := attrs_has vals n k (by omega) a
    unfold attrsN
    by_cases hv : vals.getD k 0 = n
    · rw [if_pos hv, hasB_with]
      have h1 : decide (0 ≤ (k : Int) ∧ (k : Int) < 31) = true := by simp only [decide_eq_true_eq]; omega
      rw [h1, Bool.true_and, Bool.or_eq_true, ih]
      constructor
      · rintro (h | ⟨q, h2, h3, h4⟩)
        · exact ⟨k, by simpa using h, by omega, hv⟩
        · exact ⟨q, h2, by omega, h4⟩
      · rintro ⟨q, h2, h3, h4⟩
        rcases Nat.lt_or_ge q k with h5 | h5
        · exact .inr ⟨q, h2, h5, h4⟩
        · obtain rfl : q = k := by omega
          exact .inl (by simp [h2])
    · rw [if_neg hv, ih]
      constructor
      · rintro ⟨q, h2, h3, h4⟩
        exact ⟨q, h2, by omega, h4⟩
      · rintro ⟨q, h2, h3, h4⟩
        rcases Nat.lt_or_ge q k with h5 | h5
        · exact ⟨q, h2, h5, h4⟩
        · obtain rfl : q = k := by omega
          exact absurd h4 hv
theorem const_spec (c : List Int) (n : Int) : ∀ k, (constN c n k = -1 ∧ ∀ q, q < k → c.getD q 0 ≠ n) ∨ ∃ q : Nat, constN c n k = (q : Int) ∧ q < k ∧ c.getD q 0 = n
  | 0 => .inl ⟨rfl, fun q h => by omega⟩
  | k + 1 => by
    unfold constN
    by_cases hv : c.getD k 0 = n
    · rw [if_pos hv]
      exact .inr ⟨k, rfl, by omega, hv⟩
    · rw [if_neg hv]
      rcases const_spec c n k with ⟨h1, h2⟩ | ⟨q, h1, h2, h3⟩
      · refine .inl ⟨h1, fun q h => ?_⟩
        rcases Nat.lt_or_ge q k with h5 | h5
        · exact h2 q h5
        · obtain rfl : q = k := by omega
          exact hv
      · exact .inr ⟨q, h1, by omega, h3⟩
theorem getD_atZ {c : List Int} {q : Nat} (h : q < c.length) : c.getD q 0 = c[q] := by
  rw [List.getD_eq_getElem?_getD, List.getElem?_eq_getElem h]
  rfl
theorem less_mem {c : List Int} (hc : Up c) {n : Int} (h : n ∈ c) : ∃ h : lessN c n < c.length, c[lessN c n] = n := by
  obtain ⟨i, hi, he⟩ := List.getElem_of_mem h
  have h1 := below_at hc hi he
  rw [h1]
  exact ⟨hi, he⟩
/-- a constant is in the class of its number alone -/
theorem hit_const (vals c : List Int) (n m : Int) : hitP (sortR c) (-1) n (clsOf vals c m) = true ↔ n ∈ sortR c ∧ m = n := by
  have hup := (sortR_up c).1
  have hne : ((-1 : Int) != -1) = false := by decide
  have heq : ((-1 : Int) == -1) = true := by decide
  unfold hitP
  rw [hne, heq, Bool.false_and, Bool.false_or, Bool.true_and, Bool.and_eq_true, decide_eq_true_eq, beq_iff_eq]
  constructor
  · rintro ⟨h1, h2⟩
    refine ⟨h1, ?_⟩
    obtain ⟨h3, h4⟩ := less_mem hup h1
    rcases const_spec (sortR c) m (sortR c).length with ⟨h5, _⟩ | ⟨q, h5, h6, h7⟩
    · unfold clsOf at h2
      simp only [h5] at h2
      omega
    · unfold clsOf at h2
      simp only [h5] at h2
      have : q = lessN (sortR c) n := by omega
      subst this
      rw [getD_atZ h6, h4] at h7
      exact h7.symm
  · rintro ⟨h1, rfl⟩
    refine ⟨h1, ?_⟩
    obtain ⟨h3, h4⟩ := less_mem hup h1
    rcases const_spec (sortR c) m (sortR c).length with ⟨h5, h6⟩ | ⟨q, h5, h6, h7⟩
    · exact absurd (by rw [getD_atZ h3]; exact h4) (h6 _ h3)
    · unfold clsOf
      simp only [h5]
      rw [getD_atZ h6] at h7
      rw [below_at hup h6 h7]
/-- an attribute is in the class of its number alone -/
theorem hit_attr (vals c : List Int) (hv : vals.length ≤ 31) (a n m : Int) (ha : a ≠ -1) : hitP (sortR c) a n (clsOf vals c m) = true ↔ valO vals a n = some m := by
  have hne : (a != -1) = true := by simpa using ha
  have heq : (a == -1) = false := by simpa using ha
  unfold hitP
  rw [hne, heq, Bool.true_and, Bool.false_and, Bool.false_and, Bool.or_false]
  unfold clsOf
  rw [attrs_has vals m vals.length hv a]
  unfold valO
  rw [if_neg ha]
  constructor
  · rintro ⟨q, rfl, h1, h2⟩
    rw [if_neg (by omega), Int.toNat_natCast, List.getElem?_eq_getElem h1, ← getD_atZ h1, h2]
  · intro h
    split at h
    · cases h
    · obtain ⟨h1, h2⟩ := List.getElem?_eq_some_iff.1 h
      exact ⟨a.toNat, by omega, h1, by rw [getD_atZ h1, h2]⟩
theorem hit_val (vals c : List Int) (hv : vals.length ≤ 31) (a n m : Int) (hc : a = -1 → n ∈ c) : hitP (sortR c) a n (clsOf vals c m) = true ↔ valO vals a n = some m := by
  by_cases ha : a = -1
  · subst ha
    have h1 : valO vals (-1) n = some n := rfl
    rw [hit_const, h1]
    constructor
    · rintro ⟨_, rfl⟩
      rfl
    · intro h
      exact ⟨(sortR_up c).2 n |>.2 (hc rfl), (Option.some.inj h).symm⟩
  · exact hit_attr vals c hv a n m ha
theorem place_some (z : Zn) (vals c : List Int) (hz : z.cls = clsL vals c) (hv : vals.length ≤ 31) (a n v : Int) (hc : a = -1 → n ∈ c) (h : valO vals a n = some v) : v ∈ numsL vals c ∧ placeM z c a n = (lessN (numsL vals c) v : Int) := by
  have hup : Up (numsL vals c) := (sortR_up (vals ++ c)).1
  have hm : v ∈ numsL vals c := by
    refine ((sortR_up (vals ++ c)).2 v).2 (List.mem_append.2 ?_)
    unfold valO at h
    split at h
    · rename_i ha
      right
      have := hc ha
      rw [Option.some.inj h] at this
      exact this
    · split at h
      · cases h
      · exact .inl (List.mem_of_getElem? h)
  refine ⟨hm, ?_⟩
  obtain ⟨h1, h2⟩ := less_mem hup hm
  have hlen : (clsL vals c).length = (numsL vals c).length := by simp [clsL]
  unfold placeM
  rw [hz]
  have h1' : lessN (numsL vals c) v < (clsL vals c).length := by rw [hlen]; exact h1
  have hat : ∀ i (hi : i < (clsL vals c).length), (clsL vals c)[i] = clsOf vals c ((numsL vals c)[i]'(by rw [← hlen]; exact hi)) := fun i hi => by simp [clsL]
  refine fstI_at h1' ?_ fun i hi => ?_
  · rw [hat, hit_val vals c hv a n _ hc, h]
    exact congrArg some h2.symm
  · rw [hat _ (by omega), Bool.eq_false_iff]
    intro hh
    rw [hit_val vals c hv a n _ hc, h] at hh
    have := Option.some.inj hh
    have hil : i < (numsL vals c).length := by omega
    have hp := List.pairwise_iff_getElem.1 hup i (lessN (numsL vals c) v) hil h1 hi
    rw [h2] at hp
    omega
theorem place_no (z : Zn) (vals c : List Int) (hz : z.cls = clsL vals c) (hv : vals.length ≤ 31) (a n : Int) (hc : a = -1 → n ∈ c) (h : valO vals a n = none) : placeM z c a n = -1 := by
  unfold placeM
  rw [hz]
  refine fstI_none fun x hx => ?_
  obtain ⟨m, _, rfl⟩ := List.mem_map.1 hx
  rw [Bool.eq_false_iff]
  intro hh
  rw [hit_val vals c hv a n _ hc, h] at hh
  cases hh
theorem less_cmp {L : List Int} (hL : Up L) {v w : Int} (hv : v ∈ L) (hw : w ∈ L) : cmpI (lessN L v : Int) (lessN L w : Int) = cmpI v w := by
  obtain ⟨h1, h2⟩ := less_mem hL hv
  obtain ⟨h3, h4⟩ := less_mem hL hw
  have hp := List.pairwise_iff_getElem.1 hL
  unfold cmpI
  rcases Nat.lt_trichotomy (lessN L v) (lessN L w) with h | h | h
  · have := hp _ _ h1 h3 h
    rw [h2, h4] at this
    rw [if_pos (by omega), if_pos this]
  · have e : v = w := by
      rw [← h2, ← h4]
      congr 1
    subst e
    simp
  · have := hp _ _ h3 h1 h
    rw [h2, h4] at this
    rw [if_neg (by omega), if_pos (by omega), if_neg (by omega), if_pos (by omega)]
/-- all numbers of a condition's comparisons are constants -/
def Nums (l : List Inst) (c : List Int) : Prop := ∀ x ∈ l, isCmp x = true → (x.la = -1 → x.ln ∈ c) ∧ (x.ra = -1 → x.rn ∈ c)
theorem cm_zone (z : Zn) (vals c : List Int) (hz : z.cls = clsL vals c) (hv : vals.length ≤ 31) (x : Inst) (hx : (x.la = -1 → x.ln ∈ c) ∧ (x.ra = -1 → x.rn ∈ c)) :
    (cmS vals x = none ∧ (placeM z c x.la x.ln < 0 ∨ placeM z c x.ra x.rn < 0)) ∨ (cmS vals x = some (cmpZ z c x.la x.ln x.ra x.rn) ∧ ¬ (placeM z c x.la x.ln < 0 ∨ placeM z c x.ra x.rn < 0)) := by
  unfold cmS
  cases h1 : valO vals x.la x.ln with
  | none =>
    left
    have := place_no z vals c hz hv x.la x.ln hx.1 h1
    exact ⟨rfl, .inl (by omega)⟩
  | some v =>
    obtain ⟨m1, p1⟩ := place_some z vals c hz hv x.la x.ln v hx.1 h1
    cases h2 : valO vals x.ra x.rn with
    | none =>
      left
      have := place_no z vals c hz hv x.ra x.rn hx.2 h2
      exact ⟨rfl, .inr (by omega)⟩
    | some w =>
      right
      obtain ⟨m2, p2⟩ := place_some z vals c hz hv x.ra x.rn w hx.2 h2
      refine ⟨?_, by omega⟩
      unfold cmpZ
      have hup : Up (numsL vals c) := (sortR_up (vals ++ c)).1
      rw [if_neg (by omega), p1, p2, less_cmp hup m1 m2]
theorem run_none (cm : Inst → Option Int) (o d : Int) : ∀ (l : List Inst) (r : List Bool), (∃ x ∈ l, isCmp x = true ∧ cm x = none) → runG cm o d l r = none
  | [], r, h => by
    obtain ⟨x, hx, _⟩ := h
    cases hx
  | y :: l, r, ⟨x, hx, h1, h2⟩ => by
    unfold runG
    rcases List.mem_cons.1 hx with rfl | hx
    · have h3 : 3 ≤ x.op ∧ x.op ≤ 8 := by simpa [isCmp] using h1
      have : stepG cm o d x r = none := by
        unfold stepG
        simp only [show ¬ (x.op = 1 ∨ x.op = 2) by omega, if_false, h3, and_self, if_true, h2]
      rw [this]
    · cases stepG cm o d y r with
      | none => rfl
      | some r' => exact run_none cm o d l r' ⟨x, hx, h1, h2⟩
theorem step_cm (cm cm' : Inst → Option Int) (o d : Int) (x : Inst) (r : List Bool) (h : isCmp x = true → cm x = cm' x) : stepG cm o d x r = stepG cm' o d x r := by
  by_cases hc : isCmp x = true
  · unfold stepG
    rw [h hc]
  · have h3 : ¬ (3 ≤ x.op ∧ x.op ≤ 8) := by simpa [isCmp] using hc
    unfold stepG
    simp only [h3, if_false]
theorem run_cm (cm cm' : Inst → Option Int) (o d : Int) : ∀ (l : List Inst) (r : List Bool), (∀ x ∈ l, isCmp x = true → cm x = cm' x) → runG cm o d l r = runG cm' o d l r
  | [], r, _ => rfl
  | x :: l, r, h => by
    rw [runG, runG, step_cm cm cm' o d x r (h x (List.mem_cons_self ..))]
    cases stepG cm' o d x r with
    | none => rfl
    | some r' => exact run_cm cm cm' o d l r' fun y hy => h y (List.mem_cons_of_mem _ hy)
/-- the same holds of numbers and of their zone -/
theorem zone_true (z : Zn) (c : List Int) (s : St) (l : List Inst) (hz : z.cls = clsL s.vals c) (hv : s.vals.length ≤ 31) (hn : Nums l c) : zholdsO l z c s = holdsO l s := by
  unfold zholdsO
  by_cases hk : knowsM l z c = true
  · rw [if_pos hk]
    have hlost : ∀ x ∈ l, lostB z c x = false := by
      unfold knowsM at hk
      simpa using hk
    unfold holdsO holdsG
    rw [run_cm (cmS s.vals) (fun x => some (cmpZ z c x.la x.ln x.ra x.rn)) s.opn s.don l [] fun x hx hcx => by
      rcases cm_zone z s.vals c hz hv x (hn x hx hcx) with ⟨_, h2⟩ | ⟨h1, _⟩
      · have := hlost x hx
        unfold lostB at this
        rw [hcx] at this
        simp at this
        omega
      · exact h1]
  · rw [if_neg hk]
    have : ∃ x ∈ l, isCmp x = true ∧ cmS s.vals x = none := by
      unfold knowsM at hk
      have hk2 : l.any (lostB z c) = true := by simpa using hk
      obtain ⟨x, hx, h1⟩ := List.any_eq_true.1 hk2
      unfold lostB at h1
      simp only [Bool.and_eq_true, Bool.or_eq_true, decide_eq_true_eq] at h1
      refine ⟨x, hx, h1.1, ?_⟩
      rcases cm_zone z s.vals c hz hv x (hn x hx h1.1) with ⟨h2, _⟩ | ⟨_, h2⟩
      · exact h2
      · exact absurd h1.2 h2
    unfold holdsO holdsG
    rw [run_none (cmS s.vals) s.opn s.don l [] this]
    split <;> rfl
end
section
open Go.RowKit
def capV (r : Int) : Int := 2 ^ (min r.toNat 20) - 1
set_option maxRecDepth 100000 in
theorem cap_A (r : Int) : ADet Try.prog 25 [eI r] (val (.int .i64 (capV r))) := by
  refine adet_of_code mixedT Try.func25 rfl (by decide) Try.ntmps25 Try.results25 rfl (val_ok _) ?_
  (repeat' (first | simp (maxSteps := 5000000) (implicitDefEqProofs := false) only [ruA, ruB, aEv, aTake, aLoad, aField, aIndex, aLen, aBin, bin2, aUn, un1, aExtract, aConv, ASt.get, aget, ASt.put, aStore, aBox, aAppend, aBuildSlice, aMake, aBuild, aFill, oneParts, allC, aBinS, yv, aCells, oneC, oneCL, treeC, treeL, aLit, aDst, aSrc, appTab, Value.cells, Value.oneCell', envOf, aResL, aOne, ↓reduceIte, reduceCtorEq, forall_const, Nat.reduceLT, Nat.reduceEqDiff, Nat.reduceAdd, Nat.reduceMul, Nat.reduceSub, Nat.reduceLeDiff, Nat.reduceBEq, eq_self, implies_true, ne_eq, dref, dref1, dref2, aExecS, aStoreB, aTakes, aTakeE, aElder, aFrom, aFresh, isLoad, aBuildSlice1, frzs, frz1, ownIds, AV.frz, AV.frzL, frzEnv, AV.shift, AV.shiftL, aFieldV, aSliceW, aSliceO, aSlice, aSliceR, aSliceS, aBd, aMax, frzAVs, frzAV, frzTab, AObj.frz, aMM, aNilS, aMay, tyK_3] | (with_reducible refine aIf_split (fun _ => ?_) (fun _ => ?_)) | (with_reducible refine aSel_split (fun _ => ?_) (fun _ => ?_)) | (with_reducible refine aGd_split (fun _ => ?_) (fun _ => ?_))))
  refine aLoop_of (fun st => ∃ k : Nat, k ≤ 20 ∧ (k = 0 ∨ (k : Int) ≤ r) ∧ st = ⟨18, [(0, eI r), (3, eI (2 ^ k - 1)), (4, eI (k : Int))], [], 0⟩) (fun st => 20 - slotN st 4) ⟨_, (weak_cut1 (by (first | ((simp only [envIn, tabIn, envLt, tabLt, AObj.lt, AV.lt, AV.ltL, ruW, ASt.get, aget, ASt.put, ↓reduceIte, reduceCtorEq, Nat.reduceLT, Nat.reduceEqDiff, Nat.reduceAdd, Nat.reduceLeDiff, eq_self, implies_true]) <;> (repeat' apply And.intro) <;> first | (rw [wrapK (by omega)]; done) | (simp; done) | omega) | fail))), 0, Nat.zero_le _, .inl rfl, rfl⟩ ?_
  rintro _ ⟨k, hk, hr, rfl⟩
  have hp : (2 : Int) ^ k ≤ 1048576 := by
    have h1 : (2 : Nat) ^ k ≤ 2 ^ 20 := Nat.pow_le_pow_right (by omega) hk
    have h2 : ((2 ^ k : Nat) : Int) = (2 : Int) ^ k := by simp
    omega
  have hp0 : (0 : Int) < 2 ^ k := Int.pow_pos (by omega)
  have hps : (2 : Int) ^ (k + 1) = 2 * 2 ^ k := by rw [Int.pow_succ, Int.mul_comm]
  have ew1 : IntKind.i64.wrap (2 * (2 ^ k - 1)) = 2 * (2 ^ k - 1) := wrap_in (by omega) (by omega)
  have ew2 : IntKind.i64.wrap (2 * (2 ^ k - 1) + 1) = 2 ^ (k + 1) - 1 := by rw [wrap_in (by omega) (by omega)]; omega
  by_cases h1 : (k : Int) < r
  · by_cases h2 : k < 20
    · have d1 : decide ((k : Int) < r) = true := by simpa using h1
      have d2 : decide ((k : Int) < 20) = true := by simp only [decide_eq_true_eq]; omega
      (repeat' (first | simp (maxSteps := 5000000) (implicitDefEqProofs := false) only [ruA, ruB, aEv, aTake, aLoad, aField, aIndex, aLen, aBin, bin2, aUn, un1, aExtract, aConv, ASt.get, aget, ASt.put, aStore, aBox, aAppend, aBuildSlice, aMake, aBuild, aFill, oneParts, allC, aBinS, yv, aCells, oneC, oneCL, treeC, treeL, aLit, aDst, aSrc, appTab, Value.cells, Value.oneCell', envOf, aResL, aOne, ↓reduceIte, reduceCtorEq, forall_const, Nat.reduceLT, Nat.reduceEqDiff, Nat.reduceAdd, Nat.reduceMul, Nat.reduceSub, Nat.reduceLeDiff, Nat.reduceBEq, eq_self, implies_true, ne_eq, dref, dref1, dref2, aExecS, aStoreB, aTakes, aTakeE, aElder, aFrom, aFresh, isLoad, aBuildSlice1, frzs, frz1, ownIds, AV.frz, AV.frzL, frzEnv, AV.shift, AV.shiftL, aFieldV, aSliceW, aSliceO, aSlice, aSliceR, aSliceS, aBd, aMax, frzAVs, frzAV, frzTab, AObj.frz, aMM, aNilS, aMay, tyK_3, d1, d2, ew1, ew2] | (with_reducible refine aIf_split (fun _ => ?_) (fun _ => ?_)) | (with_reducible refine aSel_split (fun _ => ?_) (fun _ => ?_)) | (with_reducible refine aGd_split (fun _ => ?_) (fun _ => ?_)) | (with_reducible refine aDraw_quiet (by kernel_rfl) ?_)))
      exact roundI (weak_cut1 (by (first | ((simp only [envIn, tabIn, envLt, tabLt, AObj.lt, AV.lt, AV.ltL, ruW, ASt.get, aget, ASt.put, ↓reduceIte, reduceCtorEq, Nat.reduceLT, Nat.reduceEqDiff, Nat.reduceAdd, Nat.reduceLeDiff, eq_self, implies_true]) <;> (repeat' apply And.intro) <;> first | (rw [wrapK (by omega)]; done) | (simp; done) | omega) | fail))) ⟨k + 1, by omega, by omega, rfl⟩ (by simp only [slotN, ruW, ASt.get, aget, ASt.put, ↓reduceIte, reduceCtorEq, Nat.reduceLT, Nat.reduceEqDiff, Nat.reduceAdd, Nat.reduceLeDiff, eq_self, implies_true]; omega)
    · have d1 : decide ((k : Int) < r) = true := by simpa using h1
      have d2 : decide ((k : Int) < 20) = false := by simp only [decide_eq_false_iff_not]; omega
      (repeat' (first | simp (maxSteps := 5000000) (implicitDefEqProofs := false) only [ruA, ruB, aEv, aTake, aLoad, aField, aIndex, aLen, aBin, bin2, aUn, un1, aExtract, aConv, ASt.get, aget, ASt.put, aStore, aBox, aAppend, aBuildSlice, aMake, aBuild, aFill, oneParts, allC, aBinS, yv, aCells, oneC, oneCL, treeC, treeL, aLit, aDst, aSrc, appTab, Value.cells, Value.oneCell', envOf, aResL, aOne, ↓reduceIte, reduceCtorEq, forall_const, Nat.reduceLT, Nat.reduceEqDiff, Nat.reduceAdd, Nat.reduceMul, Nat.reduceSub, Nat.reduceLeDiff, Nat.reduceBEq, eq_self, implies_true, ne_eq, dref, dref1, dref2, aExecS, aStoreB, aTakes, aTakeE, aElder, aFrom, aFresh, isLoad, aBuildSlice1, frzs, frz1, ownIds, AV.frz, AV.frzL, frzEnv, AV.shift, AV.shiftL, aFieldV, aSliceW, aSliceO, aSlice, aSliceR, aSliceS, aBd, aMax, frzAVs, frzAV, frzTab, AObj.frz, aMM, aNilS, aMay, tyK_3, d1, d2] | (with_reducible refine aIf_split (fun _ => ?_) (fun _ => ?_)) | (with_reducible refine aSel_split (fun _ => ?_) (fun _ => ?_)) | (with_reducible refine aGd_split (fun _ => ?_) (fun _ => ?_)) | (with_reducible refine aDraw_quiet (by kernel_rfl) ?_)))
      unfold capV
      rw [show min r.toNat 20 = k by omega]
  · have d1 : decide ((k : Int) < r) = false := by simpa using h1
    (repeat' (first | simp (maxSteps := 5000000) (implicitDefEqProofs := false) only [ruA, ruB, aEv, aTake, aLoad, aField, aIndex, aLen, aBin, bin2, aUn, un1, aExtract, aConv, ASt.get, aget, ASt.put, aStore, aBox, aAppend, aBuildSlice, aMake, aBuild, aFill, oneParts, allC, aBinS, yv, aCells, oneC, oneCL, treeC, treeL, aLit, aDst, aSrc, appTab, Value.cells, Value.oneCell', envOf, aResL, aOne, ↓reduceIte, reduceCtorEq, forall_const, Nat.reduceLT, Nat.reduceEqDiff, Nat.reduceAdd, Nat.reduceMul, Nat.reduceSub, Nat.reduceLeDiff, Nat.reduceBEq, eq_self, implies_true, ne_eq, dref, dref1, dref2, aExecS, aStoreB, aTakes, aTakeE, aElder, aFrom, aFresh, isLoad, aBuildSlice1, frzs, frz1, ownIds, AV.frz, AV.frzL, frzEnv, AV.shift, AV.shiftL, aFieldV, aSliceW, aSliceO, aSlice, aSliceR, aSliceS, aBd, aMax, frzAVs, frzAV, frzTab, AObj.frz, aMM, aNilS, aMay, tyK_3, d1] | (with_reducible refine aIf_split (fun _ => ?_) (fun _ => ?_)) | (with_reducible refine aSel_split (fun _ => ?_) (fun _ => ?_)) | (with_reducible refine aGd_split (fun _ => ?_) (fun _ => ?_)) | (with_reducible refine aDraw_quiet (by kernel_rfl) ?_)))
    unfold capV
    rw [show min r.toNat 20 = k by omega]
def gapV (a b m : Int) : Int := max 0 (min (b - a - 1) m)
set_option maxRecDepth 100000 in
theorem gap_A (a b m : Int) (ha : ok64 a) (hb : ok64 b) (hm : m ≤ 4294967296) : ADet Try.prog 24 [eI a, eI b, eI m] (val (.int .i64 (gapV a b m))) := by
  refine adet_of_code mixedT Try.func24 rfl (by decide) Try.ntmps24 Try.results24 rfl (val_ok _) ?_
  (repeat' (first | simp (maxSteps := 5000000) (implicitDefEqProofs := false) only [ruA, ruB, aEv, aTake, aLoad, aField, aIndex, aLen, aBin, bin2, aUn, un1, aExtract, aConv, ASt.get, aget, ASt.put, aStore, aBox, aAppend, aBuildSlice, aMake, aBuild, aFill, oneParts, allC, aBinS, yv, aCells, oneC, oneCL, treeC, treeL, aLit, aDst, aSrc, appTab, Value.cells, Value.oneCell', envOf, aResL, aOne, ↓reduceIte, reduceCtorEq, forall_const, Nat.reduceLT, Nat.reduceEqDiff, Nat.reduceAdd, Nat.reduceMul, Nat.reduceSub, Nat.reduceLeDiff, Nat.reduceBEq, eq_self, implies_true, ne_eq, dref, dref1, dref2, aExecS, aStoreB, aTakes, aTakeE, aElder, aFrom, aFresh, isLoad, aBuildSlice1, frzs, frz1, ownIds, AV.frz, AV.frzL, frzEnv, AV.shift, AV.shiftL, aFieldV, aSliceW, aSliceO, aSlice, aSliceR, aSliceS, aBd, aMax, frzAVs, frzAV, frzTab, AObj.frz, aMM, aNilS, aMay, tyK_3, tyK_2] | (with_reducible refine aIf_split (fun _ => ?_) (fun _ => ?_)) | (with_reducible refine aSel_split (fun _ => ?_) (fun _ => ?_)) | (with_reducible refine aGd_split (fun _ => ?_) (fun _ => ?_))))
  unfold ok64 at ha hb
  refine aLoop_of (fun st => ∃ (k : Nat) (a' : Int), (k : Int) ≤ gapV a b m ∧ a' = a + k ∧ st = ⟨27, [(0, eI a'), (1, eI b), (2, eI m), (7, eI (k : Int))], [], 0⟩) (fun st => m.toNat - slotN st 7) ⟨_, (weak_cut1 (by (first | ((simp only [envIn, tabIn, envLt, tabLt, AObj.lt, AV.lt, AV.ltL, ruW, ASt.get, aget, ASt.put, ↓reduceIte, reduceCtorEq, Nat.reduceLT, Nat.reduceEqDiff, Nat.reduceAdd, Nat.reduceLeDiff, eq_self, implies_true]) <;> (repeat' apply And.intro) <;> first | (rw [wrapK (by omega)]; done) | (simp; done) | omega) | fail))), 0, a, by unfold gapV; omega, by omega, rfl⟩ ?_
  rintro _ ⟨k, a', hk, ha', rfl⟩
  by_cases h : (k : Int) < m ∧ a' < b ∧ a' + 1 < b
  · have d1 : decide ((k : Int) < m) = true := by simpa using h.1
    have d2 : decide (a' < b) = true := by simpa using h.2.1
    have d3 : decide (a' + 1 < b) = true := by simpa using h.2.2
    have ew : IntKind.i64.wrap (a' + 1) = a' + 1 := wrap_in (by omega) (by omega)
    (repeat' (first | simp (maxSteps := 5000000) (implicitDefEqProofs := false) only [ruA, ruB, aEv, aTake, aLoad, aField, aIndex, aLen, aBin, bin2, aUn, un1, aExtract, aConv, ASt.get, aget, ASt.put, aStore, aBox, aAppend, aBuildSlice, aMake, aBuild, aFill, oneParts, allC, aBinS, yv, aCells, oneC, oneCL, treeC, treeL, aLit, aDst, aSrc, appTab, Value.cells, Value.oneCell', envOf, aResL, aOne, ↓reduceIte, reduceCtorEq, forall_const, Nat.reduceLT, Nat.reduceEqDiff, Nat.reduceAdd, Nat.reduceMul, Nat.reduceSub, Nat.reduceLeDiff, Nat.reduceBEq, eq_self, implies_true, ne_eq, dref, dref1, dref2, aExecS, aStoreB, aTakes, aTakeE, aElder, aFrom, aFresh, isLoad, aBuildSlice1, frzs, frz1, ownIds, AV.frz, AV.frzL, frzEnv, AV.shift, AV.shiftL, aFieldV, aSliceW, aSliceO, aSlice, aSliceR, aSliceS, aBd, aMax, frzAVs, frzAV, frzTab, AObj.frz, aMM, aNilS, aMay, tyK_3, tyK_2, d1, d2, ew, d3] | (with_reducible refine aIf_split (fun _ => ?_) (fun _ => ?_)) | (with_reducible refine aSel_split (fun _ => ?_) (fun _ => ?_)) | (with_reducible refine aGd_split (fun _ => ?_) (fun _ => ?_)) | (with_reducible refine aDraw_quiet (by kernel_rfl) ?_)))
    exact roundI (weak_cut1 (by (first | ((simp only [envIn, tabIn, envLt, tabLt, AObj.lt, AV.lt, AV.ltL, ruW, ASt.get, aget, ASt.put, ↓reduceIte, reduceCtorEq, Nat.reduceLT, Nat.reduceEqDiff, Nat.reduceAdd, Nat.reduceLeDiff, eq_self, implies_true]) <;> (repeat' apply And.intro) <;> first | (rw [wrapK (by omega)]; done) | (simp; done) | omega) | fail))) ⟨k + 1, a' + 1, by unfold gapV at *; omega, by omega, rfl⟩ (by simp only [slotN, ruW, ASt.get, aget, ASt.put, ↓reduceIte, reduceCtorEq, Nat.reduceLT, Nat.reduceEqDiff, Nat.reduceAdd, Nat.reduceLeDiff, eq_self, implies_true]; omega)
  · have hg : (k : Int) = gapV a b m := by unfold gapV at *; omega
    by_cases h1 : (k : Int) < m
    · have d1 : decide ((k : Int) < m) = true := by simpa using h1
      by_cases h2 : a' < b
      · have d2 : decide (a' < b) = true := by simpa using h2
        have d3 : decide (a' + 1 < b) = false := by simp only [decide_eq_false_iff_not]; omega
        have ew : IntKind.i64.wrap (a' + 1) = a' + 1 := wrap_in (by omega) (by omega)
        (repeat' (first | simp (maxSteps := 5000000) (implicitDefEqProofs := false) only [ruA, ruB, aEv, aTake, aLoad, aField, aIndex, aLen, aBin, bin2, aUn, un1, aExtract, aConv, ASt.get, aget, ASt.put, aStore, aBox, aAppend, aBuildSlice, aMake, aBuild, aFill, oneParts, allC, aBinS, yv, aCells, oneC, oneCL, treeC, treeL, aLit, aDst, aSrc, appTab, Value.cells, Value.oneCell', envOf, aResL, aOne, ↓reduceIte, reduceCtorEq, forall_const, Nat.reduceLT, Nat.reduceEqDiff, Nat.reduceAdd, Nat.reduceMul, Nat.reduceSub, Nat.reduceLeDiff, Nat.reduceBEq, eq_self, implies_true, ne_eq, dref, dref1, dref2, aExecS, aStoreB, aTakes, aTakeE, aElder, aFrom, aFresh, isLoad, aBuildSlice1, frzs, frz1, ownIds, AV.frz, AV.frzL, frzEnv, AV.shift, AV.shiftL, aFieldV, aSliceW, aSliceO, aSlice, aSliceR, aSliceS, aBd, aMax, frzAVs, frzAV, frzTab, AObj.frz, aMM, aNilS, aMay, tyK_3, tyK_2, d1, d2, ew, d3] | (with_reducible refine aIf_split (fun _ => ?_) (fun _ => ?_)) | (with_reducible refine aSel_split (fun _ => ?_) (fun _ => ?_)) | (with_reducible refine aGd_split (fun _ => ?_) (fun _ => ?_)) | (with_reducible refine aDraw_quiet (by kernel_rfl) ?_)))
        exact hg
      · have d2 : decide (a' < b) = false := by simpa using h2
        (repeat' (first | simp (maxSteps := 5000000) (implicitDefEqProofs := false) only [ruA, ruB, aEv, aTake, aLoad, aField, aIndex, aLen, aBin, bin2, aUn, un1, aExtract, aConv, ASt.get, aget, ASt.put, aStore, aBox, aAppend, aBuildSlice, aMake, aBuild, aFill, oneParts, allC, aBinS, yv, aCells, oneC, oneCL, treeC, treeL, aLit, aDst, aSrc, appTab, Value.cells, Value.oneCell', envOf, aResL, aOne, ↓reduceIte, reduceCtorEq, forall_const, Nat.reduceLT, Nat.reduceEqDiff, Nat.reduceAdd, Nat.reduceMul, Nat.reduceSub, Nat.reduceLeDiff, Nat.reduceBEq, eq_self, implies_true, ne_eq, dref, dref1, dref2, aExecS, aStoreB, aTakes, aTakeE, aElder, aFrom, aFresh, isLoad, aBuildSlice1, frzs, frz1, ownIds, AV.frz, AV.frzL, frzEnv, AV.shift, AV.shiftL, aFieldV, aSliceW, aSliceO, aSlice, aSliceR, aSliceS, aBd, aMax, frzAVs, frzAV, frzTab, AObj.frz, aMM, aNilS, aMay, tyK_3, tyK_2, d1, d2] | (with_reducible refine aIf_split (fun _ => ?_) (fun _ => ?_)) | (with_reducible refine aSel_split (fun _ => ?_) (fun _ => ?_)) | (with_reducible refine aGd_split (fun _ => ?_) (fun _ => ?_)) | (with_reducible refine aDraw_quiet (by kernel_rfl) ?_)))
        exact hg
    · have d1 : decide ((k : Int) < m) = false := by simpa using h1
      (repeat' (first | simp (maxSteps := 5000000) (implicitDefEqProofs := false) only [ruA, ruB, aEv, aTake, aLoad, aField, aIndex, aLen, aBin, bin2, aUn, un1, aExtract, aConv, ASt.get, aget, ASt.put, aStore, aBox, aAppend, aBuildSlice, aMake, aBuild, aFill, oneParts, allC, aBinS, yv, aCells, oneC, oneCL, treeC, treeL, aLit, aDst, aSrc, appTab, Value.cells, Value.oneCell', envOf, aResL, aOne, ↓reduceIte, reduceCtorEq, forall_const, Nat.reduceLT, Nat.reduceEqDiff, Nat.reduceAdd, Nat.reduceMul, Nat.reduceSub, Nat.reduceLeDiff, Nat.reduceBEq, eq_self, implies_true, ne_eq, dref, dref1, dref2, aExecS, aStoreB, aTakes, aTakeE, aElder, aFrom, aFresh, isLoad, aBuildSlice1, frzs, frz1, ownIds, AV.frz, AV.frzL, frzEnv, AV.shift, AV.shiftL, aFieldV, aSliceW, aSliceO, aSlice, aSliceR, aSliceS, aBd, aMax, frzAVs, frzAV, frzTab, AObj.frz, aMM, aNilS, aMay, tyK_3, tyK_2, d1] | (with_reducible refine aIf_split (fun _ => ?_) (fun _ => ?_)) | (with_reducible refine aSel_split (fun _ => ?_) (fun _ => ?_)) | (with_reducible refine aGd_split (fun _ => ?_) (fun _ => ?_)) | (with_reducible refine aDraw_quiet (by kernel_rfl) ?_)))
      exact hg
set_option maxRecDepth 100000 in
theorem numbers22_A (vals c : List Int) (h1 : vals.length ≤ 400) (h2 : c.length ≤ 400) : ADet Try.prog 22 [sI vals, sI c] ⟨sI (numsL vals c), [], 0⟩ := by
  have hok : (⟨sI (numsL vals c), [], 0⟩ : Res).Ok := ⟨fun id o h => (by cases h), by simp [AV.lt]⟩
  refine adet_of_code mixedT Try.func22 rfl (by decide) Try.ntmps22 Try.results22 rfl (hok) ?_
  have hS := refSorted_A (vals ++ c) (by simp; omega)
  have em : (vals.map fun n => [eI n]) ++ (c.map fun n => [eI n]) = (vals ++ c).map fun n => [eI n] := by rw [List.map_append]
  (repeat' (first | simp (maxSteps := 5000000) (implicitDefEqProofs := false) only [ruA, ruB, aEv, aTake, aLoad, aField, aIndex, aLen, aBin, bin2, aUn, un1, aExtract, aConv, ASt.get, aget, ASt.put, aStore, aBox, aAppend, aBuildSlice, aMake, aBuild, aFill, oneParts, allC, aBinS, yv, aCells, oneC, oneCL, treeC, treeL, aLit, aDst, aSrc, appTab, Value.cells, Value.oneCell', envOf, aResL, aOne, ↓reduceIte, reduceCtorEq, forall_const, Nat.reduceLT, Nat.reduceEqDiff, Nat.reduceAdd, Nat.reduceMul, Nat.reduceSub, Nat.reduceLeDiff, Nat.reduceBEq, eq_self, implies_true, ne_eq, dref, dref1, dref2, aExecS, aStoreB, aTakes, aTakeE, aElder, aFrom, aFresh, isLoad, aBuildSlice1, frzs, frz1, ownIds, AV.frz, AV.frzL, frzEnv, AV.shift, AV.shiftL, aFieldV, aSliceW, aSliceO, aSlice, aSliceR, aSliceS, aBd, aMax, frzAVs, frzAV, frzTab, AObj.frz, aMM, aNilS, aMay, tyR_23, em] | (with_reducible refine aIf_split (fun _ => ?_) (fun _ => ?_)) | (with_reducible refine aSel_split (fun _ => ?_) (fun _ => ?_)) | (with_reducible refine aGd_split (fun _ => ?_) (fun _ => ?_)) | (with_reducible refine aDraw_quiet (by kernel_rfl) ?_) | (with_reducible apply And.intro)))
  all_goals first
    | rfl
    | omega
    | skip
  refine callZ [2] (R := ⟨sI (sortR (vals ++ c)), [], 0⟩) ?_ ?_ ?_
  · simp (maxSteps := 5000000) (implicitDefEqProofs := false) only [ruA, ruB, aEv, aTake, aLoad, aField, aIndex, aLen, aBin, bin2, aUn, un1, aExtract, aConv, ASt.get, aget, ASt.put, aStore, aBox, aAppend, aBuildSlice, aMake, aBuild, aFill, oneParts, allC, aBinS, yv, aCells, oneC, oneCL, treeC, treeL, aLit, aDst, aSrc, appTab, Value.cells, Value.oneCell', envOf, aResL, aOne, ↓reduceIte, reduceCtorEq, forall_const, Nat.reduceLT, Nat.reduceEqDiff, Nat.reduceAdd, Nat.reduceMul, Nat.reduceSub, Nat.reduceLeDiff, Nat.reduceBEq, eq_self, implies_true, ne_eq, dref, dref1, dref2, aExecS, aStoreB, aTakes, aTakeE, aElder, aFrom, aFresh, isLoad, aBuildSlice1, frzs, frz1, ownIds, AV.frz, AV.frzL, frzEnv, AV.shift, AV.shiftL, aFieldV, aSliceW, aSliceO, aSlice, aSliceR, aSliceS, aBd, aMax, frzAVs, frzAV, frzTab, AObj.frz, aMM, aNilS, aMay, tyR_23]
    exact hS
  · simp (maxSteps := 5000000) (implicitDefEqProofs := false) only [ruA, ruB, aEv, aTake, aLoad, aField, aIndex, aLen, aBin, bin2, aUn, un1, aExtract, aConv, ASt.get, aget, ASt.put, aStore, aBox, aAppend, aBuildSlice, aMake, aBuild, aFill, oneParts, allC, aBinS, yv, aCells, oneC, oneCL, treeC, treeL, aLit, aDst, aSrc, appTab, Value.cells, Value.oneCell', envOf, aResL, aOne, ↓reduceIte, reduceCtorEq, forall_const, Nat.reduceLT, Nat.reduceEqDiff, Nat.reduceAdd, Nat.reduceMul, Nat.reduceSub, Nat.reduceLeDiff, Nat.reduceBEq, eq_self, implies_true, ne_eq, dref, dref1, dref2, aExecS, aStoreB, aTakes, aTakeE, aElder, aFrom, aFresh, isLoad, aBuildSlice1, frzs, frz1, ownIds, AV.frz, AV.frzL, frzEnv, AV.shift, AV.shiftL, aFieldV, aSliceW, aSliceO, aSlice, aSliceR, aSliceS, aBd, aMax, frzAVs, frzAV, frzTab, AObj.frz, aMM, aNilS, aMay, tyR_23]
    left
    simp [roL, roA, treeL, treeC]
  · (repeat' (first | simp (maxSteps := 5000000) (implicitDefEqProofs := false) only [ruA, ruB, aEv, aTake, aLoad, aField, aIndex, aLen, aBin, bin2, aUn, un1, aExtract, aConv, ASt.get, aget, ASt.put, aStore, aBox, aAppend, aBuildSlice, aMake, aBuild, aFill, oneParts, allC, aBinS, yv, aCells, oneC, oneCL, treeC, treeL, aLit, aDst, aSrc, appTab, Value.cells, Value.oneCell', envOf, aResL, aOne, ↓reduceIte, reduceCtorEq, forall_const, Nat.reduceLT, Nat.reduceEqDiff, Nat.reduceAdd, Nat.reduceMul, Nat.reduceSub, Nat.reduceLeDiff, Nat.reduceBEq, eq_self, implies_true, ne_eq, dref, dref1, dref2, aExecS, aStoreB, aTakes, aTakeE, aElder, aFrom, aFresh, isLoad, aBuildSlice1, frzs, frz1, ownIds, AV.frz, AV.frzL, frzEnv, AV.shift, AV.shiftL, aFieldV, aSliceW, aSliceO, aSlice, aSliceR, aSliceS, aBd, aMax, frzAVs, frzAV, frzTab, AObj.frz, aMM, aNilS, aMay, tyR_23] | (with_reducible refine aIf_split (fun _ => ?_) (fun _ => ?_)) | (with_reducible refine aSel_split (fun _ => ?_) (fun _ => ?_)) | (with_reducible refine aGd_split (fun _ => ?_) (fun _ => ?_)) | (with_reducible refine aDraw_quiet (by kernel_rfl) ?_)))
    all_goals exact gives_tree (by first | rfl | simp [AV.ren, AV.renL])
def numsAt (x : Inst) : List Int := if isCmp x = true then (if x.la = -1 then [x.ln] else []) ++ (if x.ra = -1 then [x.rn] else []) else []
def numsOf (l : List Inst) : List Int := l.flatMap numsAt
theorem numsAt_len (x : Inst) : (numsAt x).length ≤ 2 := by
  unfold numsAt
  split
  · split <;> split <;> simp
  · simp
theorem numsOf_len : ∀ l : List Inst, (numsOf l).length ≤ 2 * l.length
  | [] => by simp [numsOf]
  | x :: l => by
    have h1 := numsAt_len x
    have h2 := numsOf_len l
    unfold numsOf at *
    simp only [List.flatMap_cons, List.length_append, List.length_cons]
    omega
theorem numsOf_nums (l : List Inst) : Nums l (sortR (numsOf l)) := fun x hx hc => by
  have hm : ∀ n, n ∈ numsAt x → n ∈ sortR (numsOf l) := fun n hn => ((sortR_up (numsOf l)).2 n).2 (List.mem_flatMap.2 ⟨x, hx, hn⟩)
  refine ⟨fun h => hm _ ?_, fun h => hm _ ?_⟩
  · unfold numsAt
    rw [if_pos hc, if_pos h]
    simp
  · unfold numsAt
    rw [if_pos hc, if_pos h]
    simp
set_option maxRecDepth 100000 in
set_option maxHeartbeats 8000000 in
theorem numbers11_A (l : List Inst) (hl : l.length ≤ 400) : ADet Try.prog 6 [sInsts l] ⟨sI (sortR (numsOf l)), [], 0⟩ := by
  have hok : (⟨sI (sortR (numsOf l)), [], 0⟩ : Res).Ok := ⟨fun id o h => (by cases h), by simp [AV.lt]⟩
  refine adet_of_code mixedT Try.func6 rfl (by decide) Try.ntmps6 Try.results6 rfl (hok) ?_
  have hlen := numsOf_len l
  have hS := refSorted_A (numsOf l) (by omega)
  (repeat' (first | simp (maxSteps := 5000000) (implicitDefEqProofs := false) only [ruA, ruB, aEv, aTake, aLoad, aField, aIndex, aLen, aBin, bin2, aUn, un1, aExtract, aConv, ASt.get, aget, ASt.put, aStore, aBox, aAppend, aBuildSlice, aMake, aBuild, aFill, oneParts, allC, aBinS, yv, aCells, oneC, oneCL, treeC, treeL, aLit, aDst, aSrc, appTab, Value.cells, Value.oneCell', envOf, aResL, aOne, ↓reduceIte, reduceCtorEq, forall_const, Nat.reduceLT, Nat.reduceEqDiff, Nat.reduceAdd, Nat.reduceMul, Nat.reduceSub, Nat.reduceLeDiff, Nat.reduceBEq, eq_self, implies_true, ne_eq, dref, dref1, dref2, aExecS, aStoreB, aTakes, aTakeE, aElder, aFrom, aFresh, isLoad, aBuildSlice1, frzs, frz1, ownIds, AV.frz, AV.frzL, frzEnv, AV.shift, AV.shiftL, aFieldV, aSliceW, aSliceO, aSlice, aSliceR, aSliceS, aBd, aMax, frzAVs, frzAV, frzTab, AObj.frz, aMM, aNilS, aMay, tyE_22, tyK_22, tyK_3, tyF_51_0, tyA_3, tyS_3, tyF_51_1, tyF_49_0, tyF_49_1, tyA_2, tyS_2, tyR_23, tyF_51_2] | (with_reducible refine aIf_split (fun _ => ?_) (fun _ => ?_)) | (with_reducible refine aSel_split (fun _ => ?_) (fun _ => ?_)) | (with_reducible refine aGd_split (fun _ => ?_) (fun _ => ?_))))
  refine aLoop_of (fun st => ∃ k : Nat, k ≤ l.length ∧ st = ⟨59, [(0, sInsts l), (3, .osl 0), (4, eI (k : Int))], [(0, some (.row 2 1 ((numsOf (l.take k)).map fun n => [eI n])))], 1⟩) (fun st => l.length - slotN st 4) ⟨_, ((weak_nil 3 2 1 (by simp only [ruW, ASt.get, aget, ASt.put, ↓reduceIte, reduceCtorEq, Nat.reduceLT, Nat.reduceEqDiff, Nat.reduceAdd, Nat.reduceLeDiff, eq_self, implies_true, List.take_zero, numsOf, List.flatMap_nil, List.map_nil])).trans (weak_ren1 [0] ⟨(by decide), (by (first | ((simp only [envInR, tabInR, envLt, tabLt, AObj.lt, AV.lt, AV.ltL, AV.ren, AV.renL, AObj.ren, List.getD_cons_zero, List.getD_cons_succ, List.length_cons, List.length_nil, ruW, ASt.get, aget, ASt.put, ↓reduceIte, reduceCtorEq, Nat.reduceLT, Nat.reduceEqDiff, Nat.reduceAdd, Nat.reduceLeDiff, eq_self, implies_true, List.take_zero, numsOf, List.flatMap_nil, List.map_nil]) <;> (repeat' apply And.intro) <;> first | (rw [wrapK (by omega)]; done) | (simp; done) | omega) | fail))⟩)), 0, Nat.zero_le _, rfl⟩ ?_
  rintro _ ⟨k, hk, rfl⟩
  by_cases hlt : k < l.length
  · obtain ⟨x, hx⟩ : ∃ x, l[k] = x := ⟨_, rfl⟩
    have hsn : numsOf (l.take (k + 1)) = numsOf (l.take k) ++ numsAt x := by
      unfold numsOf
      rw [List.take_add_one, List.getElem?_eq_getElem hlt, hx]
      simp
    have htl : (numsOf (l.take k)).length ≤ 800 := by
      have := numsOf_len (l.take k)
      rw [List.length_take] at this
      omega
    obtain ⟨op, la, ln, ra, rn, xn, xu⟩ := x
    by_cases hc : 3 ≤ op ∧ op ≤ 8
    · have hcm : isCmp ⟨op, la, ln, ra, rn, xn, xu⟩ = true := by simp [isCmp, hc]
      have d1 : decide (op < 3) = false := by simp only [decide_eq_false_iff_not]; omega
      have d2 : decide (8 < op) = false := by simp only [decide_eq_false_iff_not]; omega
      have hna : numsAt ⟨op, la, ln, ra, rn, xn, xu⟩ = (if la = -1 then [ln] else []) ++ (if ra = -1 then [rn] else []) := by unfold numsAt; rw [if_pos hcm]
      rw [hna] at hsn
      by_cases ha : la = -1
      · have ha1 : (la == -1) = true := by simpa using ha
        by_cases hb : ra = -1
        · have hb1 : (ra == -1) = true := by simpa using hb
          rw [if_pos ha, if_pos hb] at hsn
          have hs2 : (numsOf (l.take (k + 1))).map (fun n => [eI n]) = ((numsOf (l.take k)).map (fun n => [eI n]) ++ [[eI ln]]) ++ [[eI rn]] := by rw [hsn]; simp
          (repeat' (first | simp (maxSteps := 5000000) (implicitDefEqProofs := false) only [ruA, ruB, aEv, aTake, aLoad, aField, aIndex, aLen, aBin, bin2, aUn, un1, aExtract, aConv, ASt.get, aget, ASt.put, aStore, aBox, aAppend, aBuildSlice, aMake, aBuild, aFill, oneParts, allC, aBinS, yv, aCells, oneC, oneCL, treeC, treeL, aLit, aDst, aSrc, appTab, Value.cells, Value.oneCell', envOf, aResL, aOne, ↓reduceIte, reduceCtorEq, forall_const, Nat.reduceLT, Nat.reduceEqDiff, Nat.reduceAdd, Nat.reduceMul, Nat.reduceSub, Nat.reduceLeDiff, Nat.reduceBEq, eq_self, implies_true, ne_eq, dref, dref1, dref2, aExecS, aStoreB, aTakes, aTakeE, aElder, aFrom, aFresh, isLoad, aBuildSlice1, frzs, frz1, ownIds, AV.frz, AV.frzL, frzEnv, AV.shift, AV.shiftL, aFieldV, aSliceW, aSliceO, aSlice, aSliceR, aSliceS, aBd, aMax, frzAVs, frzAV, frzTab, AObj.frz, aMM, aNilS, aMay, tyE_22, tyK_22, tyK_3, tyF_51_0, tyA_3, tyS_3, tyF_51_1, tyF_49_0, tyF_49_1, tyA_2, tyS_2, tyR_23, tyF_51_2, row_at, hlt, hx, d1, d2, ha1, hb1] | (with_reducible refine aIf_split (fun _ => ?_) (fun _ => ?_)) | (with_reducible refine aSel_split (fun _ => ?_) (fun _ => ?_)) | (with_reducible refine aGd_split (fun _ => ?_) (fun _ => ?_)) | (with_reducible refine aDraw_quiet (by kernel_rfl) ?_) | (with_reducible apply And.intro)))
          all_goals first
            | rfl
            | omega
            | (simp; omega)
            | exact roundI (weak_ren1 [4] ⟨(by decide), (by (first | ((simp only [envInR, tabInR, envLt, tabLt, AObj.lt, AV.lt, AV.ltL, AV.ren, AV.renL, AObj.ren, List.getD_cons_zero, List.getD_cons_succ, List.length_cons, List.length_nil, ruW, ASt.get, aget, ASt.put, ↓reduceIte, reduceCtorEq, Nat.reduceLT, Nat.reduceEqDiff, Nat.reduceAdd, Nat.reduceLeDiff, eq_self, implies_true, hs2]) <;> (repeat' apply And.intro) <;> first | (rw [wrapK (by omega)]; done) | (simp; done) | omega) | fail))⟩) ⟨k + 1, by omega, rfl⟩ (by simp only [slotN, ruW, ASt.get, aget, ASt.put, ↓reduceIte, reduceCtorEq, Nat.reduceLT, Nat.reduceEqDiff, Nat.reduceAdd, Nat.reduceLeDiff, eq_self, implies_true]; omega)
            | trace_state
        · have hb1 : (ra == -1) = false := by simpa using hb
          rw [if_pos ha, if_neg hb] at hsn
          have hs2 : (numsOf (l.take (k + 1))).map (fun n => [eI n]) = (numsOf (l.take k)).map (fun n => [eI n]) ++ [[eI ln]] := by rw [hsn]; simp
          (repeat' (first | simp (maxSteps := 5000000) (implicitDefEqProofs := false) only [ruA, ruB, aEv, aTake, aLoad, aField, aIndex, aLen, aBin, bin2, aUn, un1, aExtract, aConv, ASt.get, aget, ASt.put, aStore, aBox, aAppend, aBuildSlice, aMake, aBuild, aFill, oneParts, allC, aBinS, yv, aCells, oneC, oneCL, treeC, treeL, aLit, aDst, aSrc, appTab, Value.cells, Value.oneCell', envOf, aResL, aOne, ↓reduceIte, reduceCtorEq, forall_const, Nat.reduceLT, Nat.reduceEqDiff, Nat.reduceAdd, Nat.reduceMul, Nat.reduceSub, Nat.reduceLeDiff, Nat.reduceBEq, eq_self, implies_true, ne_eq, dref, dref1, dref2, aExecS, aStoreB, aTakes, aTakeE, aElder, aFrom, aFresh, isLoad, aBuildSlice1, frzs, frz1, ownIds, AV.frz, AV.frzL, frzEnv, AV.shift, AV.shiftL, aFieldV, aSliceW, aSliceO, aSlice, aSliceR, aSliceS, aBd, aMax, frzAVs, frzAV, frzTab, AObj.frz, aMM, aNilS, aMay, tyE_22, tyK_22, tyK_3, tyF_51_0, tyA_3, tyS_3, tyF_51_1, tyF_49_0, tyF_49_1, tyA_2, tyS_2, tyR_23, tyF_51_2, row_at, hlt, hx, d1, d2, ha1, hb1] | (with_reducible refine aIf_split (fun _ => ?_) (fun _ => ?_)) | (with_reducible refine aSel_split (fun _ => ?_) (fun _ => ?_)) | (with_reducible refine aGd_split (fun _ => ?_) (fun _ => ?_)) | (with_reducible refine aDraw_quiet (by kernel_rfl) ?_) | (with_reducible apply And.intro)))
          all_goals first
            | rfl
            | omega
            | (simp; omega)
            | exact roundI (weak_ren1 [2] ⟨(by decide), (by (first | ((simp only [envInR, tabInR, envLt, tabLt, AObj.lt, AV.lt, AV.ltL, AV.ren, AV.renL, AObj.ren, List.getD_cons_zero, List.getD_cons_succ, List.length_cons, List.length_nil, ruW, ASt.get, aget, ASt.put, ↓reduceIte, reduceCtorEq, Nat.reduceLT, Nat.reduceEqDiff, Nat.reduceAdd, Nat.reduceLeDiff, eq_self, implies_true, hs2]) <;> (repeat' apply And.intro) <;> first | (rw [wrapK (by omega)]; done) | (simp; done) | omega) | fail))⟩) ⟨k + 1, by omega, rfl⟩ (by simp only [slotN, ruW, ASt.get, aget, ASt.put, ↓reduceIte, reduceCtorEq, Nat.reduceLT, Nat.reduceEqDiff, Nat.reduceAdd, Nat.reduceLeDiff, eq_self, implies_true]; omega)
            | trace_state
      · have ha1 : (la == -1) = false := by simpa using ha
        by_cases hb : ra = -1
        · have hb1 : (ra == -1) = true := by simpa using hb
          rw [if_neg ha, if_pos hb] at hsn
          have hs2 : (numsOf (l.take (k + 1))).map (fun n => [eI n]) = (numsOf (l.take k)).map (fun n => [eI n]) ++ [[eI rn]] := by rw [hsn]; simp
          (repeat' (first | simp (maxSteps := 5000000) (implicitDefEqProofs := false) only [ruA, ruB, aEv, aTake, aLoad, aField, aIndex, aLen, aBin, bin2, aUn, un1, aExtract, aConv, ASt.get, aget, ASt.put, aStore, aBox, aAppend, aBuildSlice, aMake, aBuild, aFill, oneParts, allC, aBinS, yv, aCells, oneC, oneCL, treeC, treeL, aLit, aDst, aSrc, appTab, Value.cells, Value.oneCell', envOf, aResL, aOne, ↓reduceIte, reduceCtorEq, forall_const, Nat.reduceLT, Nat.reduceEqDiff, Nat.reduceAdd, Nat.reduceMul, Nat.reduceSub, Nat.reduceLeDiff, Nat.reduceBEq, eq_self, implies_true, ne_eq, dref, dref1, dref2, aExecS, aStoreB, aTakes, aTakeE, aElder, aFrom, aFresh, isLoad, aBuildSlice1, frzs, frz1, ownIds, AV.frz, AV.frzL, frzEnv, AV.shift, AV.shiftL, aFieldV, aSliceW, aSliceO, aSlice, aSliceR, aSliceS, aBd, aMax, frzAVs, frzAV, frzTab, AObj.frz, aMM, aNilS, aMay, tyE_22, tyK_22, tyK_3, tyF_51_0, tyA_3, tyS_3, tyF_51_1, tyF_49_0, tyF_49_1, tyA_2, tyS_2, tyR_23, tyF_51_2, row_at, hlt, hx, d1, d2, ha1, hb1] | (with_reducible refine aIf_split (fun _ => ?_) (fun _ => ?_)) | (with_reducible refine aSel_split (fun _ => ?_) (fun _ => ?_)) | (with_reducible refine aGd_split (fun _ => ?_) (fun _ => ?_)) | (with_reducible refine aDraw_quiet (by kernel_rfl) ?_) | (with_reducible apply And.intro)))
          all_goals first
            | rfl
            | omega
            | (simp; omega)
            | exact roundI (weak_ren1 [2] ⟨(by decide), (by (first | ((simp only [envInR, tabInR, envLt, tabLt, AObj.lt, AV.lt, AV.ltL, AV.ren, AV.renL, AObj.ren, List.getD_cons_zero, List.getD_cons_succ, List.length_cons, List.length_nil, ruW, ASt.get, aget, ASt.put, ↓reduceIte, reduceCtorEq, Nat.reduceLT, Nat.reduceEqDiff, Nat.reduceAdd, Nat.reduceLeDiff, eq_self, implies_true, hs2]) <;> (repeat' apply And.intro) <;> first | (rw [wrapK (by omega)]; done) | (simp; done) | omega) | fail))⟩) ⟨k + 1, by omega, rfl⟩ (by simp only [slotN, ruW, ASt.get, aget, ASt.put, ↓reduceIte, reduceCtorEq, Nat.reduceLT, Nat.reduceEqDiff, Nat.reduceAdd, Nat.reduceLeDiff, eq_self, implies_true]; omega)
            | trace_state
        · have hb1 : (ra == -1) = false := by simpa using hb
          rw [if_neg ha, if_neg hb] at hsn
          have hs2 : (numsOf (l.take (k + 1))).map (fun n => [eI n]) = (numsOf (l.take k)).map (fun n => [eI n]) := by rw [hsn]; simp
          (repeat' (first | simp (maxSteps := 5000000) (implicitDefEqProofs := false) only [ruA, ruB, aEv, aTake, aLoad, aField, aIndex, aLen, aBin, bin2, aUn, un1, aExtract, aConv, ASt.get, aget, ASt.put, aStore, aBox, aAppend, aBuildSlice, aMake, aBuild, aFill, oneParts, allC, aBinS, yv, aCells, oneC, oneCL, treeC, treeL, aLit, aDst, aSrc, appTab, Value.cells, Value.oneCell', envOf, aResL, aOne, ↓reduceIte, reduceCtorEq, forall_const, Nat.reduceLT, Nat.reduceEqDiff, Nat.reduceAdd, Nat.reduceMul, Nat.reduceSub, Nat.reduceLeDiff, Nat.reduceBEq, eq_self, implies_true, ne_eq, dref, dref1, dref2, aExecS, aStoreB, aTakes, aTakeE, aElder, aFrom, aFresh, isLoad, aBuildSlice1, frzs, frz1, ownIds, AV.frz, AV.frzL, frzEnv, AV.shift, AV.shiftL, aFieldV, aSliceW, aSliceO, aSlice, aSliceR, aSliceS, aBd, aMax, frzAVs, frzAV, frzTab, AObj.frz, aMM, aNilS, aMay, tyE_22, tyK_22, tyK_3, tyF_51_0, tyA_3, tyS_3, tyF_51_1, tyF_49_0, tyF_49_1, tyA_2, tyS_2, tyR_23, tyF_51_2, row_at, hlt, hx, d1, d2, ha1, hb1] | (with_reducible refine aIf_split (fun _ => ?_) (fun _ => ?_)) | (with_reducible refine aSel_split (fun _ => ?_) (fun _ => ?_)) | (with_reducible refine aGd_split (fun _ => ?_) (fun _ => ?_)) | (with_reducible refine aDraw_quiet (by kernel_rfl) ?_)))
          exact roundI (weak_cut1 (by (first | ((simp only [envIn, tabIn, envLt, tabLt, AObj.lt, AV.lt, AV.ltL, ruW, ASt.get, aget, ASt.put, ↓reduceIte, reduceCtorEq, Nat.reduceLT, Nat.reduceEqDiff, Nat.reduceAdd, Nat.reduceLeDiff, eq_self, implies_true, hs2]) <;> (repeat' apply And.intro) <;> first | (rw [wrapK (by omega)]; done) | (simp; done) | omega) | fail))) ⟨k + 1, by omega, rfl⟩ (by simp only [slotN, ruW, ASt.get, aget, ASt.put, ↓reduceIte, reduceCtorEq, Nat.reduceLT, Nat.reduceEqDiff, Nat.reduceAdd, Nat.reduceLeDiff, eq_self, implies_true]; omega)
    · have hcm : isCmp ⟨op, la, ln, ra, rn, xn, xu⟩ = false := by
        rw [Bool.eq_false_iff]
        intro h
        exact hc (by simpa [isCmp] using h)
      have hna : numsAt ⟨op, la, ln, ra, rn, xn, xu⟩ = [] := by unfold numsAt; rw [if_neg (by simp [hcm])]
      rw [hna, List.append_nil] at hsn
      have hs2 : (numsOf (l.take (k + 1))).map (fun n => [eI n]) = (numsOf (l.take k)).map (fun n => [eI n]) := by rw [hsn]
      (repeat' (first | simp (maxSteps := 5000000) (implicitDefEqProofs := false) only [ruA, ruB, aEv, aTake, aLoad, aField, aIndex, aLen, aBin, bin2, aUn, un1, aExtract, aConv, ASt.get, aget, ASt.put, aStore, aBox, aAppend, aBuildSlice, aMake, aBuild, aFill, oneParts, allC, aBinS, yv, aCells, oneC, oneCL, treeC, treeL, aLit, aDst, aSrc, appTab, Value.cells, Value.oneCell', envOf, aResL, aOne, ↓reduceIte, reduceCtorEq, forall_const, Nat.reduceLT, Nat.reduceEqDiff, Nat.reduceAdd, Nat.reduceMul, Nat.reduceSub, Nat.reduceLeDiff, Nat.reduceBEq, eq_self, implies_true, ne_eq, dref, dref1, dref2, aExecS, aStoreB, aTakes, aTakeE, aElder, aFrom, aFresh, isLoad, aBuildSlice1, frzs, frz1, ownIds, AV.frz, AV.frzL, frzEnv, AV.shift, AV.shiftL, aFieldV, aSliceW, aSliceO, aSlice, aSliceR, aSliceS, aBd, aMax, frzAVs, frzAV, frzTab, AObj.frz, aMM, aNilS, aMay, tyE_22, tyK_22, tyK_3, tyF_51_0, tyA_3, tyS_3, tyF_51_1, tyF_49_0, tyF_49_1, tyA_2, tyS_2, tyR_23, tyF_51_2, row_at, hlt, hx] | (with_reducible refine aIf_split (fun _ => ?_) (fun _ => ?_)) | (with_reducible refine aSel_split (fun _ => ?_) (fun _ => ?_)) | (with_reducible refine aGd_split (fun _ => ?_) (fun _ => ?_)) | (with_reducible refine aDraw_quiet (by kernel_rfl) ?_)))
      all_goals first
        | exact roundI (weak_cut1 (by (first | ((simp only [envIn, tabIn, envLt, tabLt, AObj.lt, AV.lt, AV.ltL, ruW, ASt.get, aget, ASt.put, ↓reduceIte, reduceCtorEq, Nat.reduceLT, Nat.reduceEqDiff, Nat.reduceAdd, Nat.reduceLeDiff, eq_self, implies_true, hs2]) <;> (repeat' apply And.intro) <;> first | (rw [wrapK (by omega)]; done) | (simp; done) | omega) | fail))) ⟨k + 1, by omega, rfl⟩ (by simp only [slotN, ruW, ASt.get, aget, ASt.put, ↓reduceIte, reduceCtorEq, Nat.reduceLT, Nat.reduceEqDiff, Nat.reduceAdd, Nat.reduceLeDiff, eq_self, implies_true]; omega)
        | (exfalso; simp at *; omega)
        | trace_state
  · obtain rfl : k = l.length := by omega
    (repeat' (first | simp (maxSteps := 5000000) (implicitDefEqProofs := false) only [ruA, ruB, aEv, aTake, aLoad, aField, aIndex, aLen, aBin, bin2, aUn, un1, aExtract, aConv, ASt.get, aget, ASt.put, aStore, aBox, aAppend, aBuildSlice, aMake, aBuild, aFill, oneParts, allC, aBinS, yv, aCells, oneC, oneCL, treeC, treeL, aLit, aDst, aSrc, appTab, Value.cells, Value.oneCell', envOf, aResL, aOne, ↓reduceIte, reduceCtorEq, forall_const, Nat.reduceLT, Nat.reduceEqDiff, Nat.reduceAdd, Nat.reduceMul, Nat.reduceSub, Nat.reduceLeDiff, Nat.reduceBEq, eq_self, implies_true, ne_eq, dref, dref1, dref2, aExecS, aStoreB, aTakes, aTakeE, aElder, aFrom, aFresh, isLoad, aBuildSlice1, frzs, frz1, ownIds, AV.frz, AV.frzL, frzEnv, AV.shift, AV.shiftL, aFieldV, aSliceW, aSliceO, aSlice, aSliceR, aSliceS, aBd, aMax, frzAVs, frzAV, frzTab, AObj.frz, aMM, aNilS, aMay, tyE_22, tyK_22, tyK_3, tyF_51_0, tyA_3, tyS_3, tyF_51_1, tyF_49_0, tyF_49_1, tyA_2, tyS_2, tyR_23, tyF_51_2, hlt, List.take_length] | (with_reducible refine aIf_split (fun _ => ?_) (fun _ => ?_)) | (with_reducible refine aSel_split (fun _ => ?_) (fun _ => ?_)) | (with_reducible refine aGd_split (fun _ => ?_) (fun _ => ?_))))
    refine callZ [0] (R := ⟨sI (sortR (numsOf l)), [], 0⟩) ?_ ?_ ?_
    · simp (maxSteps := 5000000) (implicitDefEqProofs := false) only [ruA, ruB, aEv, aTake, aLoad, aField, aIndex, aLen, aBin, bin2, aUn, un1, aExtract, aConv, ASt.get, aget, ASt.put, aStore, aBox, aAppend, aBuildSlice, aMake, aBuild, aFill, oneParts, allC, aBinS, yv, aCells, oneC, oneCL, treeC, treeL, aLit, aDst, aSrc, appTab, Value.cells, Value.oneCell', envOf, aResL, aOne, ↓reduceIte, reduceCtorEq, forall_const, Nat.reduceLT, Nat.reduceEqDiff, Nat.reduceAdd, Nat.reduceMul, Nat.reduceSub, Nat.reduceLeDiff, Nat.reduceBEq, eq_self, implies_true, ne_eq, dref, dref1, dref2, aExecS, aStoreB, aTakes, aTakeE, aElder, aFrom, aFresh, isLoad, aBuildSlice1, frzs, frz1, ownIds, AV.frz, AV.frzL, frzEnv, AV.shift, AV.shiftL, aFieldV, aSliceW, aSliceO, aSlice, aSliceR, aSliceS, aBd, aMax, frzAVs, frzAV, frzTab, AObj.frz, aMM, aNilS, aMay, tyE_22, tyK_22, tyK_3, tyF_51_0, tyA_3, tyS_3, tyF_51_1, tyF_49_0, tyF_49_1, tyA_2, tyS_2, tyR_23, tyF_51_2]
      exact hS
    · simp (maxSteps := 5000000) (implicitDefEqProofs := false) only [ruA, ruB, aEv, aTake, aLoad, aField, aIndex, aLen, aBin, bin2, aUn, un1, aExtract, aConv, ASt.get, aget, ASt.put, aStore, aBox, aAppend, aBuildSlice, aMake, aBuild, aFill, oneParts, allC, aBinS, yv, aCells, oneC, oneCL, treeC, treeL, aLit, aDst, aSrc, appTab, Value.cells, Value.oneCell', envOf, aResL, aOne, ↓reduceIte, reduceCtorEq, forall_const, Nat.reduceLT, Nat.reduceEqDiff, Nat.reduceAdd, Nat.reduceMul, Nat.reduceSub, Nat.reduceLeDiff, Nat.reduceBEq, eq_self, implies_true, ne_eq, dref, dref1, dref2, aExecS, aStoreB, aTakes, aTakeE, aElder, aFrom, aFresh, isLoad, aBuildSlice1, frzs, frz1, ownIds, AV.frz, AV.frzL, frzEnv, AV.shift, AV.shiftL, aFieldV, aSliceW, aSliceO, aSlice, aSliceR, aSliceS, aBd, aMax, frzAVs, frzAV, frzTab, AObj.frz, aMM, aNilS, aMay, tyE_22, tyK_22, tyK_3, tyF_51_0, tyA_3, tyS_3, tyF_51_1, tyF_49_0, tyF_49_1, tyA_2, tyS_2, tyR_23, tyF_51_2]
      left
      simp [roL, roA, treeL, treeC]
    · (repeat' (first | simp (maxSteps := 5000000) (implicitDefEqProofs := false) only [ruA, ruB, aEv, aTake, aLoad, aField, aIndex, aLen, aBin, bin2, aUn, un1, aExtract, aConv, ASt.get, aget, ASt.put, aStore, aBox, aAppend, aBuildSlice, aMake, aBuild, aFill, oneParts, allC, aBinS, yv, aCells, oneC, oneCL, treeC, treeL, aLit, aDst, aSrc, appTab, Value.cells, Value.oneCell', envOf, aResL, aOne, ↓reduceIte, reduceCtorEq, forall_const, Nat.reduceLT, Nat.reduceEqDiff, Nat.reduceAdd, Nat.reduceMul, Nat.reduceSub, Nat.reduceLeDiff, Nat.reduceBEq, eq_self, implies_true, ne_eq, dref, dref1, dref2, aExecS, aStoreB, aTakes, aTakeE, aElder, aFrom, aFresh, isLoad, aBuildSlice1, frzs, frz1, ownIds, AV.frz, AV.frzL, frzEnv, AV.shift, AV.shiftL, aFieldV, aSliceW, aSliceO, aSlice, aSliceR, aSliceS, aBd, aMax, frzAVs, frzAV, frzTab, AObj.frz, aMM, aNilS, aMay, tyE_22, tyK_22, tyK_3, tyF_51_0, tyA_3, tyS_3, tyF_51_1, tyF_49_0, tyF_49_1, tyA_2, tyS_2, tyR_23, tyF_51_2] | (with_reducible refine aIf_split (fun _ => ?_) (fun _ => ?_)) | (with_reducible refine aSel_split (fun _ => ?_) (fun _ => ?_)) | (with_reducible refine aGd_split (fun _ => ?_) (fun _ => ?_)) | (with_reducible refine aDraw_quiet (by kernel_rfl) ?_)))
      all_goals exact gives_tree (by first | rfl | simp [AV.ren, AV.renL])
end
end Go.Proofs.Ytfeclebkaambhaa
