/-
  Parts of the proof: NumSortP, ZSortB, NumSortC, ZSortD, ZSortE, Z1, SoB, SoR, SoC, SoD.
-/
import Derived.Test.YtbahakgmbceflaaGreatNsm6
import Derived.Lib.SlicesCompact
import Derived.Deep.AppendLies
import Derived.Deep.DeepCutAuto
import Derived.Sort.OwnSortedInts
set_option linter.unusedVariables false
set_option linter.unusedSimpArgs false
namespace Go.Proofs.YtbahakgmbceflaaGreat
section
def insS (x : Int) (st : List Int × Bool) (y : Int) : List Int × Bool :=
  ((st.1 ++ (if st.2 = false ∧ x ≤ y then [x] else [])) ++ (if y ≠ x then [y] else []), st.2 || decide (x ≤ y))
def insR (x : Int) (l : List Int) : List Int × Bool := l.foldl (insS x) ([], false)
def insP (x : Int) (out : List Int) : List Int := if (insR x out).2 then (insR x out).1 else (insR x out).1 ++ [x]
def sortR (l : List Int) : List Int := l.foldl (fun out x => insP x out) []

theorem insR_snoc (x : Int) (l : List Int) (y : Int) : insR x (l ++ [y]) = insS x (insR x l) y := by simp [insR]
theorem insR_take (x : Int) (l : List Int) (k : Nat) (h : k < l.length) : insR x (l.take (k + 1)) = insS x (insR x (l.take k)) l[k] := by
  rw [List.take_succ_eq_append_getElem h, insR_snoc]
theorem sortR_snoc (l : List Int) (x : Int) : sortR (l ++ [x]) = insP x (sortR l) := by simp [sortR]
theorem sortR_take (l : List Int) (k : Nat) (h : k < l.length) : sortR (l.take (k + 1)) = insP l[k] (sortR (l.take k)) := by
  rw [List.take_succ_eq_append_getElem h, sortR_snoc]
theorem snoc_ind {p : List Int → Prop} (h0 : p []) (h1 : ∀ l x, p l → p (l ++ [x])) (l : List Int) : p l := by
  rw [← List.reverse_reverse l]
  induction l.reverse with
  | nil => exact h0
  | cons x r ih => rw [List.reverse_cons]; exact h1 _ _ ih
theorem insR_len (x : Int) (l : List Int) : (insR x l).1.length ≤ l.length + (if (insR x l).2 then 1 else 0) := by
  induction l using snoc_ind with
  | h0 => simp [insR]
  | h1 l y ih =>
    rw [insR_snoc]
    generalize insR x l = st at *
    obtain ⟨n, b⟩ := st
    cases b <;> by_cases h1 : x ≤ y <;> by_cases h2 : y = x <;> simp [insS, h1, h2] at ih ⊢ <;> omega
theorem insP_len (x : Int) (l : List Int) : (insP x l).length ≤ l.length + 1 := by
  have := insR_len x l
  unfold insP
  split <;> rename_i h <;> simp [h] at this ⊢ <;> omega
theorem sortR_len (l : List Int) : (sortR l).length ≤ l.length := by
  induction l using snoc_ind with
  | h0 => simp [sortR]
  | h1 l y ih => rw [sortR_snoc]; have := insP_len y (sortR l); simp; omega

def Up (l : List Int) : Prop := l.Pairwise (· < ·)
theorem insR_up (x : Int) (l : List Int) (h : Up l) :
    Up (insR x l).1 ∧ (∀ z, z ∈ (insR x l).1 ↔ z ∈ l ∨ ((insR x l).2 = true ∧ z = x)) ∧ ((insR x l).2 = true ↔ ∃ z ∈ l, x ≤ z) ∧ ((insR x l).2 = true → x ∈ (insR x l).1) := by
  induction l using snoc_ind with
  | h0 => simp [insR, Up]
  | h1 l y ih =>
    have hl : Up l := (List.pairwise_append.1 h).1
    have hy : ∀ z ∈ l, z < y := fun z hz => (List.pairwise_append.1 h).2.2 z hz y (by simp)
    obtain ⟨i1, i2, i3, i4⟩ := ih hl
    rw [insR_snoc]
    generalize insR x l = st at *
    obtain ⟨n, b⟩ := st
    simp only at i1 i2 i3 i4
    cases b with
    | true =>
      obtain ⟨z, hz, hxz⟩ := i3.1 rfl
      have hxy : x < y := by have := hy z hz; omega
      have hne : y ≠ x := by omega
      simp only [insS, Bool.true_or, Bool.true_eq_false, false_and, if_false, List.append_nil, if_pos hne]
      refine ⟨List.pairwise_append.2 ⟨i1, by simp, ?_⟩, ?_, ?_, ?_⟩
      · intro a ha c hc
        rw [List.mem_singleton] at hc; subst hc
        rcases (i2 a).1 ha with h | ⟨_, rfl⟩
        · exact hy a h
        · exact hxy
      · intro a; simp only [List.mem_append, List.mem_singleton, i2]; constructor
        · rintro ((h | h) | h)
          · exact .inl (.inl h)
          · exact .inr h
          · exact .inl (.inr h)
        · rintro ((h | h) | h)
          · exact .inl (.inl h)
          · exact .inr h
          · exact .inl (.inr h)
      · exact ⟨fun _ => ⟨z, by simp [hz], hxz⟩, fun _ => trivial⟩
      · intro _; simp [i4 rfl]
    | false =>
      have hlow : ∀ z ∈ l, z < x := fun z hz => by
        rcases Int.lt_or_le z x with h | h
        · exact h
        · exact absurd (i3.2 ⟨z, hz, h⟩) (by simp)
      have hn : ∀ z, z ∈ n ↔ z ∈ l := fun z => by rw [i2]; simp
      by_cases hxy : x ≤ y
      · by_cases hne : y = x
        · subst hne
          simp only [insS, Int.le_refl, and_self, if_true, ne_eq, not_true, if_false, List.append_nil, decide_true, Bool.or_true]
          refine ⟨List.pairwise_append.2 ⟨i1, by simp, ?_⟩, ?_, ?_, ?_⟩
          · intro a ha c hc
            rw [List.mem_singleton] at hc; subst hc
            exact hy a ((hn a).1 ha)
          · intro a; simp only [List.mem_append, List.mem_singleton, hn]; constructor
            · rintro (h | h)
              · exact .inl (.inl h)
              · exact .inl (.inr h)
            · rintro (h | ⟨_, h⟩)
              · exact h
              · exact .inr h
          · exact ⟨fun _ => ⟨y, by simp, Int.le_refl _⟩, fun _ => trivial⟩
          · intro _; simp
        · simp only [insS, hxy, and_self, if_true, ne_eq, hne, not_false_eq_true, decide_true, Bool.or_true]
          refine ⟨?_, ?_, ?_, ?_⟩
          · unfold Up
            rw [List.append_assoc]
            refine List.pairwise_append.2 ⟨i1, by simp; omega, ?_⟩
            intro a ha c hc
            have hal := (hn a).1 ha
            have h1 := hlow a hal
            have h2 := hy a hal
            simp at hc
            rcases hc with rfl | rfl
            · exact h1
            · exact h2
          · intro a; simp only [List.mem_append, List.mem_singleton, hn]; constructor
            · rintro ((h | h) | h)
              · exact .inl (.inl h)
              · exact .inr ⟨by simp, h⟩
              · exact .inl (.inr h)
            · rintro ((h | h) | ⟨_, h⟩)
              · exact .inl (.inl h)
              · exact .inr h
              · exact .inl (.inr h)
          · exact ⟨fun _ => ⟨y, by simp, hxy⟩, fun _ => trivial⟩
          · intro _; simp
      · have hne : y ≠ x := by omega
        have hd : decide (x ≤ y) = false := decide_eq_false hxy
        simp only [insS, hxy, and_false, if_false, List.append_nil, if_pos hne]
        refine ⟨List.pairwise_append.2 ⟨i1, by simp, ?_⟩, ?_, ?_, ?_⟩
        · intro a ha c hc
          rw [List.mem_singleton] at hc; subst hc
          exact hy a ((hn a).1 ha)
        · intro a; simp only [List.mem_append, List.mem_singleton, hn]; simp
        · constructor
          · intro h; cases h
          · rintro ⟨z, hz, hxz⟩
            rcases List.mem_append.1 hz with h | h
            · have := hlow z h; omega
            · rw [List.mem_singleton] at h; subst h; exact absurd hxz hxy
        · intro h; cases h
theorem insP_up (x : Int) (l : List Int) (h : Up l) : Up (insP x l) ∧ ∀ z, z ∈ insP x l ↔ z ∈ l ∨ z = x := by
  obtain ⟨i1, i2, i3, i4⟩ := insR_up x l h
  unfold insP
  split
  · rename_i hb
    refine ⟨i1, fun z => ?_⟩
    rw [i2]; simp [hb]
  · rename_i hb
    have hlow : ∀ z ∈ l, z < x := fun z hz => by
      rcases Int.lt_or_le z x with h | h
      · exact h
      · exact absurd (i3.2 ⟨z, hz, h⟩) hb
    have hn : ∀ z, z ∈ (insR x l).1 ↔ z ∈ l := fun z => by rw [i2]; simp [hb]
    refine ⟨List.pairwise_append.2 ⟨i1, by simp, ?_⟩, fun z => ?_⟩
    · intro a ha c hc
      rw [List.mem_singleton] at hc; subst hc
      exact hlow a ((hn a).1 ha)
    · simp [hn]
theorem sortR_up (l : List Int) : Up (sortR l) ∧ ∀ z, z ∈ sortR l ↔ z ∈ l := by
  induction l using snoc_ind with
  | h0 => simp [sortR, Up]
  | h1 l x ih =>
    obtain ⟨h1, h2⟩ := insP_up x _ ih.1
    rw [sortR_snoc]
    exact ⟨h1, fun z => by rw [h2, ih.2]; simp⟩
theorem up_ext : ∀ (a b : List Int), Up a → Up b → (∀ z, z ∈ a ↔ z ∈ b) → a = b
  | [], [], _, _, _ => rfl
  | [], y :: b, _, _, h => by have := (h y).2 (by simp); simp at this
  | x :: a, [], _, _, h => by have := (h x).1 (by simp); simp at this
  | x :: a, y :: b, ha, hb, h => by
    have ha' := List.pairwise_cons.1 ha
    have hb' := List.pairwise_cons.1 hb
    have hxy : x = y := by
      rcases List.mem_cons.1 ((h x).1 (by simp)) with h1 | h1
      · exact h1
      · rcases List.mem_cons.1 ((h y).2 (by simp)) with h2 | h2
        · exact h2.symm
        · have := hb'.1 x h1; have := ha'.1 y h2; omega
    subst hxy
    rw [up_ext a b ha'.2 hb'.2 (fun z => ?_)]
    constructor
    · intro hz
      rcases List.mem_cons.1 ((h z).1 (by simp [hz])) with h1 | h1
      · subst h1; have := ha'.1 z hz; omega
      · exact h1
    · intro hz
      rcases List.mem_cons.1 ((h z).2 (by simp [hz])) with h1 | h1
      · subst h1; have := hb'.1 z hz; omega
      · exact h1

theorem compact_up (d : Array Int) (hs : ∀ i j, i < j → j < d.size → d[i]! ≤ d[j]!) (m : Nat) (hm : m ≤ d.size) :
    Up (Lib.compactUpTo d m) ∧ (∀ z, z ∈ Lib.compactUpTo d m ↔ ∃ i, i < m ∧ d[i]! = z) := by
  induction m with
  | zero => simp [Lib.compactUpTo, Up]
  | succ m ih =>
    obtain ⟨h1, h2⟩ := ih (by omega)
    rw [Lib.compactUpTo_succ]
    by_cases hk : Lib.keeps d m = true
    · rw [if_pos hk]
      refine ⟨List.pairwise_append.2 ⟨h1, by simp, ?_⟩, fun z => ?_⟩
      · intro a ha c hc
        rw [List.mem_singleton] at hc; subst hc
        obtain ⟨i, hi, rfl⟩ := (h2 a).1 ha
        simp only [Lib.keeps, decide_eq_true_eq] at hk
        have h3 := hs (m - 1) m (by omega) (by omega)
        have h4 : d[i]! ≤ d[m - 1]! := by
          rcases Nat.lt_or_ge i (m - 1) with h | h
          · exact hs i (m - 1) h (by omega)
          · rw [show i = m - 1 by omega]; exact Int.le_refl _
        rcases hk with h | h
        · omega
        · have : d[m]! ≠ d[m - 1]! := h
          omega
      · simp only [List.mem_append, List.mem_singleton, h2]
        constructor
        · rintro (⟨i, hi, rfl⟩ | rfl)
          · exact ⟨i, by omega, rfl⟩
          · exact ⟨m, by omega, rfl⟩
        · rintro ⟨i, hi, rfl⟩
          rcases Nat.lt_or_ge i m with h | h
          · exact .inl ⟨i, h, rfl⟩
          · exact .inr (by rw [show i = m by omega])
    · rw [if_neg hk, List.append_nil]
      refine ⟨h1, fun z => ?_⟩
      rw [h2]
      simp only [Lib.keeps, decide_eq_true_eq, not_or, ne_eq, Decidable.not_not] at hk
      constructor
      · rintro ⟨i, hi, rfl⟩; exact ⟨i, by omega, rfl⟩
      · rintro ⟨i, hi, rfl⟩
        rcases Nat.lt_or_ge i m with h | h
        · exact ⟨i, h, rfl⟩
        · exact ⟨m - 1, by omega, by rw [← hk.2, show i = m by omega]⟩
def sortL (l : List Int) : List Int := Lib.compact (l.mergeSort fun x y => decide (x ≤ y))
theorem sortL_eq (l : List Int) : sortL l = sortR l := by
  have hp : (l.mergeSort fun x y => decide (x ≤ y)).Pairwise (fun a b => decide (a ≤ b) = true) := List.pairwise_mergeSort (le := fun x y => decide (x ≤ y)) (fun a b c h1 h2 => by simp at *; omega) (fun a b => by simp; omega) l
  have hm : ∀ z, z ∈ (l.mergeSort fun x y => decide (x ≤ y)) ↔ z ∈ l := fun z => List.mem_mergeSort
  unfold sortL Lib.compact
  generalize (l.mergeSort fun x y => decide (x ≤ y)) = s at *
  have hs : ∀ i j, i < j → j < s.toArray.size → s.toArray[i]! ≤ s.toArray[j]! := by
    intro i j hij hj
    have hj' : j < s.length := by simpa using hj
    have h1 := List.pairwise_iff_getElem.1 hp i j (by omega) hj' hij
    rw [getElem!_pos _ i (by simp; omega), getElem!_pos _ j hj]
    simpa using h1
  obtain ⟨h1, h2⟩ := compact_up s.toArray hs s.length (by simp)
  refine up_ext _ _ h1 (sortR_up l).1 (fun z => ?_)
  rw [h2, (sortR_up l).2, ← hm]
  constructor
  · rintro ⟨i, hi, rfl⟩
    rw [getElem!_pos _ i (by simpa using hi)]
    simp
  · intro hz
    obtain ⟨i, hi, rfl⟩ := List.getElem_of_mem hz
    exact ⟨i, hi, by rw [getElem!_pos _ i (by simpa using hi)]; simp⟩
end
section
open Go.RowKit

theorem i64InfoZ : (Tryz.prog.info? 2).map (fun i => (i.zero, i.size, i.bytes)) = some (some (.int .i64 0), 1, 8) := by kernel_rfl
theorem one_oneZ (n : Int) : ∀ u ∈ [Value.int .i64 n], u.oneCell' = true := by intro u hu; simp at hu; subst hu; rfl
theorem cells_at_newZ (w : World) (t : TypeId) (a : Value) : ∀ (j : Nat) (u : Value), [a][j]? = some u → (w.alloc (.cells #[a] t)).cell? ((⟨w.heap.size, 0, none⟩ : Addr).add j) = some u := fun j u h => cells_new w [a] t j u h
theorem insS_tf (x y : Int) (n : List Int) (h : y = x) : insS x (n, true) y = (n, true) := by simp [insS, h]
theorem insS_tn (x y : Int) (n : List Int) (h : y ≠ x) : insS x (n, true) y = (n ++ [y], true) := by simp [insS, h]
theorem insS_fy (x y : Int) (n : List Int) (h1 : x ≤ y) (h : y = x) : insS x (n, false) y = (n ++ [x], true) := by simp [insS, h]
theorem insS_fyn (x y : Int) (n : List Int) (h1 : x ≤ y) (h : y ≠ x) : insS x (n, false) y = ((n ++ [x]) ++ [y], true) := by simp [insS, h, h1]
theorem insS_fn (x y : Int) (n : List Int) (h1 : ¬ x ≤ y) : insS x (n, false) y = (n ++ [y], false) := by
  have : y ≠ x := by omega
  simp [insS, h1, this]

set_option maxRecDepth 100000 in
set_option maxHeartbeats 4000000 in
theorem refSortedO_any (l : List Int) (v : Value) (w : World) (hl : l.length ≤ 100000) (h : LI w v l) :
    Calls Tryz.prog 40 #[v] w fun e w' => ∃ v', e = .returned v' ∧ w'.ownsRow w.heap.size 2 1 v' (sortR l).length ((sortR l).map (Value.int .i64)) ∧ Below w.heap.size w w' := by
  obtain ⟨i0, hi0, hz0, hz1, hz2⟩ := info_parts i64InfoZ
  have h0 := h
  obtain ⟨A, ca, rfl, hca, hr0⟩ := h0
  have H := hide h
  clear h hr0
  go_enter Tryz.func40, Tryz.ntmps40
  go_wp2_with fail
  go_loopw [3, 4] (fun ov iv wr => ∃ (k : Nat) (out : List Int), out = sortR (l.take k) ∧ k ≤ l.length ∧ iv = .int .i64 (k : Int) ∧ out.length ≤ k ∧ wr.ownsRow w.heap.size 2 1 ov out.length (out.map (Value.int .i64)) ∧ Below w.heap.size w wr)
    (fun ov iv wr => l.length - (intOf iv).toNat)
  case atStart => exact ⟨0, [], by simp [sortR], Nat.zero_le _, rfl, Nat.le_refl _, World.ownsRow_nil _ _ _ _, Below.refl _ _⟩
  case round =>
    obtain ⟨k, out, hout, hk, rfl, holen, hown, hbl⟩ := hrel
    obtain ⟨O, co, rfl, hco⟩ := own_form hown
    by_cases hlt : k < l.length
    · obtain ⟨b1, o1, rfl, _, hcell⟩ := (H.out.below hbl).at_ hlt
      have hlow : b1 < wr.heap.size := by
        obtain ⟨b2, o2, e, hb2, _⟩ := (H.out.below hbl).at_ hlt
        cases e; exact hb2
      have hi : (k : Int) < (l.length : Int) := by omega
      have hst := sortR_take l k hlt
      rw [← hout] at hst
      have Hst := hide hst
      have LO := hide (LI.of_own hown rfl)
      clear hst hout
      generalize l[k] = x at *
      have Hown := hide hown
      clear hown
      go_wp2_with fail
      have hBs : w.heap.size ≤ wr.heap.size := hbl.size
      have hlenX : Hid (∀ m, (insR x (out.take m)).1.length ≤ m + 1) := hide (fun m => by have := insR_len x (out.take m); have h2 := List.length_take_le m out; split at this <;> omega)
      obtain ⟨W1, hW1⟩ : ∃ W, W = wr := ⟨wr, rfl⟩
      subst hW1
      generalize hB : W1.heap.size = B at *
      go_loopw [5, 6, 7] (fun nv bv jv wr => ∃ (m : Nat) (nx : List Int) (fl : Bool), insR x (out.take m) = (nx, fl) ∧ m ≤ out.length ∧ jv = .int .i64 (m : Int) ∧ bv = .bool fl ∧ nx.length ≤ m + 1 ∧ wr.ownsRow B 2 1 nv nx.length (nx.map (Value.int .i64)) ∧ Below B W1 wr)
        (fun nv bv jv wr => out.length - (intOf jv).toNat)
      case atStart => exact ⟨0, [], false, rfl, Nat.zero_le _, rfl, rfl, Nat.zero_le _, World.ownsRow_nil _ _ _ _, by rw [← hB]; exact Below.refl _ _⟩
      case round =>
        obtain ⟨m, nx, fl, hir, hm, rfl, rfl, hnl, hownn, hbli⟩ := hrel
        have hsz0 : B ≤ wr.heap.size := by have := hbli.size; rw [hB] at this; exact this
        have hcx0 : wr.cell? ⟨b1, o1 + k, none⟩ = some (.int .i64 x) := (hbli.cell (by omega)).trans hcell
        have Hownn := hide hownn
        clear hownn
        by_cases hmlt : m < out.length
        · obtain ⟨b2, o2, rfl, hb2l, hcell2⟩ := LO.out.at_ hmlt
          rw [hB] at hb2l
          have hmi : (m : Int) < (out.length : Int) := by omega
          have ht := insR_take x out m hmlt
          rw [hir] at ht
          generalize out[m] = y at *
          have hcy0 : wr.cell? ⟨b2, o2 + m, none⟩ = some (.int .i64 y) := (hbli.cell (by omega)).trans hcell2
          have hlx := hlenX.out (m + 1)
          rw [ht] at hlx
          clear hir
          by_cases hyx : y = x
          · have h1 : (y != x) = false := by simp [hyx]
            cases fl with
            | true =>
              rw [insS_tf x y nx hyx] at ht hlx
              clear hyx
              have Ht := hide ht
              have hlx2 := hide hlx
              clear ht hlx
              go_wp2_with fail
              go_quiet (fail)
              have Hownq1 := hide (own_below' Hownn.out (below_drewN (Below.refl _ _) nq))
              have hblq1 := below_drewN hbli nq
              generalize wr.drewN nq = W2 at *
              have hsz1 : B ≤ W2.heap.size := by have := hblq1.size; rw [hB] at this; exact this
              have hcx1 : W2.cell? ⟨b1, o1 + k, none⟩ = some (.int .i64 x) := (hblq1.cell (by omega)).trans hcell
              have hcy1 : W2.cell? ⟨b2, o2 + m, none⟩ = some (.int .i64 y) := (hblq1.cell (by omega)).trans hcell2
              go_wp2_with fail
              go_quiet (fail)
              have Hownq2 := hide (own_below' Hownq1.out (below_drewN (Below.refl _ _) nq))
              have hblq2 := below_drewN hblq1 nq
              generalize W2.drewN nq = W3 at *
              have hsz2 : B ≤ W3.heap.size := by have := hblq2.size; rw [hB] at this; exact this
              have hcx2 : W3.cell? ⟨b1, o1 + k, none⟩ = some (.int .i64 x) := (hblq2.cell (by omega)).trans hcell
              have hcy2 : W3.cell? ⟨b2, o2 + m, none⟩ = some (.int .i64 y) := (hblq2.cell (by omega)).trans hcell2
              go_wp2_with fail
              go_roundw
              case rel => exact ⟨m + 1, _, _, Ht.out, by omega, by go_num, rfl, hlx2.out, Hownq2.out, hblq2⟩
              case measure => simp [intOf]; omega
            | false =>
              have h2 : decide (x ≤ y) = true := decide_eq_true (by omega)
              rw [insS_fy x y nx (by omega) hyx] at ht hlx
              clear hyx
              have Ht := hide ht
              have hlx2 := hide hlx
              clear ht hlx
              go_wp2_with fail
              go_quiet (fail)
              have Hownq1 := hide (own_below' Hownn.out (below_drewN (Below.refl _ _) nq))
              have hblq1 := below_drewN hbli nq
              generalize wr.drewN nq = W2 at *
              have hsz1 : B ≤ W2.heap.size := by have := hblq1.size; rw [hB] at this; exact this
              have hcx1 : W2.cell? ⟨b1, o1 + k, none⟩ = some (.int .i64 x) := (hblq1.cell (by omega)).trans hcell
              have hcy1 : W2.cell? ⟨b2, o2 + m, none⟩ = some (.int .i64 y) := (hblq1.cell (by omega)).trans hcell2
              go_wp2_with (at_builtin; refine wpList_append_own _ rfl _ _ 23 rfl B 2 i0 (.int .i64 0) 1 8 Tryz.underlying23 hi0 hz0 hz1 hz2 rfl (by decide) _ _ _ rfl (Hownq1.out.alloc _) ⟨W2.heap.size, 0, none⟩ 1 1 [.int .i64 x] rfl rfl (cells_at_newZ _ _ _) (one_oneZ _) (by unfold maxLen; first | omega | (simp; omega)) (by first | omega | (simp; omega)) (by simp; omega) ?_; intro v2 w2 hown2 hg2 _)
              have hbl2 : Below B W1 w2 := (hblq1.alloc hsz1 _).grown hg2 (by simp; omega) (fun j hj => (World.ownsRow.lt Hownq1.out j hj).1)
              have hcx2 : w2.cell? ⟨b1, o1 + k, none⟩ = some (.int .i64 x) := (hbl2.cell (by omega)).trans hcell
              have hcy2 : w2.cell? ⟨b2, o2 + m, none⟩ = some (.int .i64 y) := (hbl2.cell (by omega)).trans hcell2
              have hsz2 : B ≤ w2.heap.size := (by have := hbl2.size; rw [hB] at this; exact this)
              rw [show (nx).map (Value.int .i64) ++ [Value.int .i64 x] = (nx ++ [x]).map (Value.int .i64) by simp, show (nx).length + 1 = (nx ++ [x]).length by simp] at hown2
              have Hown2 := hide hown2
              clear hown2 hg2
              go_quiet (fail)
              have Hownq3 := hide (own_below' Hown2.out (below_drewN (Below.refl _ _) nq))
              have hblq3 := below_drewN hbl2 nq
              generalize w2.drewN nq = W4 at *
              have hsz3 : B ≤ W4.heap.size := by have := hblq3.size; rw [hB] at this; exact this
              have hcx3 : W4.cell? ⟨b1, o1 + k, none⟩ = some (.int .i64 x) := (hblq3.cell (by omega)).trans hcell
              have hcy3 : W4.cell? ⟨b2, o2 + m, none⟩ = some (.int .i64 y) := (hblq3.cell (by omega)).trans hcell2
              go_wp2_with fail
              go_roundw
              case rel => exact ⟨m + 1, _, _, Ht.out, by omega, by go_num, rfl, hlx2.out, Hownq3.out, hblq3⟩
              case measure => simp [intOf]; omega
          · have h1 : (y != x) = true := by simp [hyx]
            cases fl with
            | true =>
              rw [insS_tn x y nx hyx] at ht hlx
              clear hyx
              have Ht := hide ht
              have hlx2 := hide hlx
              clear ht hlx
              go_wp2_with fail
              go_quiet (fail)
              have Hownq1 := hide (own_below' Hownn.out (below_drewN (Below.refl _ _) nq))
              have hblq1 := below_drewN hbli nq
              generalize wr.drewN nq = W2 at *
              have hsz1 : B ≤ W2.heap.size := by have := hblq1.size; rw [hB] at this; exact this
              have hcx1 : W2.cell? ⟨b1, o1 + k, none⟩ = some (.int .i64 x) := (hblq1.cell (by omega)).trans hcell
              have hcy1 : W2.cell? ⟨b2, o2 + m, none⟩ = some (.int .i64 y) := (hblq1.cell (by omega)).trans hcell2
              go_wp2_with fail
              go_quiet (fail)
              have Hownq2 := hide (own_below' Hownq1.out (below_drewN (Below.refl _ _) nq))
              have hblq2 := below_drewN hblq1 nq
              generalize W2.drewN nq = W3 at *
              have hsz2 : B ≤ W3.heap.size := by have := hblq2.size; rw [hB] at this; exact this
              have hcx2 : W3.cell? ⟨b1, o1 + k, none⟩ = some (.int .i64 x) := (hblq2.cell (by omega)).trans hcell
              have hcy2 : W3.cell? ⟨b2, o2 + m, none⟩ = some (.int .i64 y) := (hblq2.cell (by omega)).trans hcell2
              go_wp2_with (at_builtin; refine wpList_append_own _ rfl _ _ 23 rfl B 2 i0 (.int .i64 0) 1 8 Tryz.underlying23 hi0 hz0 hz1 hz2 rfl (by decide) _ _ _ rfl (Hownq2.out.alloc _) ⟨W3.heap.size, 0, none⟩ 1 1 [.int .i64 y] rfl rfl (cells_at_newZ _ _ _) (one_oneZ _) (by unfold maxLen; first | omega | (simp; omega)) (by first | omega | (simp; omega)) (by simp; omega) ?_; intro v3 w3 hown3 hg3 _)
              have hbl3 : Below B W1 w3 := (hblq2.alloc hsz2 _).grown hg3 (by simp; omega) (fun j hj => (World.ownsRow.lt Hownq2.out j hj).1)
              have hcx3 : w3.cell? ⟨b1, o1 + k, none⟩ = some (.int .i64 x) := (hbl3.cell (by omega)).trans hcell
              have hcy3 : w3.cell? ⟨b2, o2 + m, none⟩ = some (.int .i64 y) := (hbl3.cell (by omega)).trans hcell2
              have hsz3 : B ≤ w3.heap.size := (by have := hbl3.size; rw [hB] at this; exact this)
              rw [show (nx).map (Value.int .i64) ++ [Value.int .i64 y] = (nx ++ [y]).map (Value.int .i64) by simp, show (nx).length + 1 = (nx ++ [y]).length by simp] at hown3
              have Hown3 := hide hown3
              clear hown3 hg3
              go_roundw
              case rel => exact ⟨m + 1, _, _, Ht.out, by omega, by go_num, rfl, hlx2.out, Hown3.out, hbl3⟩
              case measure => simp [intOf]; omega
            | false =>
              by_cases hxy : x ≤ y
              · have h2 : decide (x ≤ y) = true := decide_eq_true hxy
                rw [insS_fyn x y nx hxy hyx] at ht hlx
                clear hyx hxy
                have Ht := hide ht
                have hlx2 := hide hlx
                clear ht hlx
                go_wp2_with fail
                go_quiet (fail)
                have Hownq1 := hide (own_below' Hownn.out (below_drewN (Below.refl _ _) nq))
                have hblq1 := below_drewN hbli nq
                generalize wr.drewN nq = W2 at *
                have hsz1 : B ≤ W2.heap.size := by have := hblq1.size; rw [hB] at this; exact this
                have hcx1 : W2.cell? ⟨b1, o1 + k, none⟩ = some (.int .i64 x) := (hblq1.cell (by omega)).trans hcell
                have hcy1 : W2.cell? ⟨b2, o2 + m, none⟩ = some (.int .i64 y) := (hblq1.cell (by omega)).trans hcell2
                go_wp2_with (at_builtin; refine wpList_append_own _ rfl _ _ 23 rfl B 2 i0 (.int .i64 0) 1 8 Tryz.underlying23 hi0 hz0 hz1 hz2 rfl (by decide) _ _ _ rfl (Hownq1.out.alloc _) ⟨W2.heap.size, 0, none⟩ 1 1 [.int .i64 x] rfl rfl (cells_at_newZ _ _ _) (one_oneZ _) (by unfold maxLen; first | omega | (simp; omega)) (by first | omega | (simp; omega)) (by simp; omega) ?_; intro v2 w2 hown2 hg2 _)
                have hbl2 : Below B W1 w2 := (hblq1.alloc hsz1 _).grown hg2 (by simp; omega) (fun j hj => (World.ownsRow.lt Hownq1.out j hj).1)
                have hcx2 : w2.cell? ⟨b1, o1 + k, none⟩ = some (.int .i64 x) := (hbl2.cell (by omega)).trans hcell
                have hcy2 : w2.cell? ⟨b2, o2 + m, none⟩ = some (.int .i64 y) := (hbl2.cell (by omega)).trans hcell2
                have hsz2 : B ≤ w2.heap.size := (by have := hbl2.size; rw [hB] at this; exact this)
                rw [show (nx).map (Value.int .i64) ++ [Value.int .i64 x] = (nx ++ [x]).map (Value.int .i64) by simp, show (nx).length + 1 = (nx ++ [x]).length by simp] at hown2
                have Hown2 := hide hown2
                clear hown2 hg2
                go_quiet (fail)
                have Hownq3 := hide (own_below' Hown2.out (below_drewN (Below.refl _ _) nq))
                have hblq3 := below_drewN hbl2 nq
                generalize w2.drewN nq = W4 at *
                have hsz3 : B ≤ W4.heap.size := by have := hblq3.size; rw [hB] at this; exact this
                have hcx3 : W4.cell? ⟨b1, o1 + k, none⟩ = some (.int .i64 x) := (hblq3.cell (by omega)).trans hcell
                have hcy3 : W4.cell? ⟨b2, o2 + m, none⟩ = some (.int .i64 y) := (hblq3.cell (by omega)).trans hcell2
                go_wp2_with (at_builtin; refine wpList_append_own _ rfl _ _ 23 rfl B 2 i0 (.int .i64 0) 1 8 Tryz.underlying23 hi0 hz0 hz1 hz2 rfl (by decide) _ _ _ rfl (Hownq3.out.alloc _) ⟨W4.heap.size, 0, none⟩ 1 1 [.int .i64 y] rfl rfl (cells_at_newZ _ _ _) (one_oneZ _) (by unfold maxLen; first | omega | (simp; omega)) (by first | omega | (simp; omega)) (by simp; omega) ?_; intro v4 w4 hown4 hg4 _)
                have hbl4 : Below B W1 w4 := (hblq3.alloc hsz3 _).grown hg4 (by simp; omega) (fun j hj => (World.ownsRow.lt Hownq3.out j hj).1)
                have hcx4 : w4.cell? ⟨b1, o1 + k, none⟩ = some (.int .i64 x) := (hbl4.cell (by omega)).trans hcell
                have hcy4 : w4.cell? ⟨b2, o2 + m, none⟩ = some (.int .i64 y) := (hbl4.cell (by omega)).trans hcell2
                have hsz4 : B ≤ w4.heap.size := (by have := hbl4.size; rw [hB] at this; exact this)
                rw [show (nx ++ [x]).map (Value.int .i64) ++ [Value.int .i64 y] = (nx ++ [x] ++ [y]).map (Value.int .i64) by simp, show (nx ++ [x]).length + 1 = (nx ++ [x] ++ [y]).length by simp] at hown4
                have Hown4 := hide hown4
                clear hown4 hg4
                go_roundw
                case rel => exact ⟨m + 1, _, _, Ht.out, by omega, by go_num, rfl, hlx2.out, Hown4.out, hbl4⟩
                case measure => simp [intOf]; omega
              · have h2 : decide (x ≤ y) = false := decide_eq_false hxy
                rw [insS_fn x y nx hxy] at ht hlx
                clear hyx hxy
                have Ht := hide ht
                have hlx2 := hide hlx
                clear ht hlx
                go_wp2_with fail
                go_quiet (fail)
                have Hownq1 := hide (own_below' Hownn.out (below_drewN (Below.refl _ _) nq))
                have hblq1 := below_drewN hbli nq
                generalize wr.drewN nq = W2 at *
                have hsz1 : B ≤ W2.heap.size := by have := hblq1.size; rw [hB] at this; exact this
                have hcx1 : W2.cell? ⟨b1, o1 + k, none⟩ = some (.int .i64 x) := (hblq1.cell (by omega)).trans hcell
                have hcy1 : W2.cell? ⟨b2, o2 + m, none⟩ = some (.int .i64 y) := (hblq1.cell (by omega)).trans hcell2
                go_wp2_with fail
                go_quiet (fail)
                have Hownq2 := hide (own_below' Hownq1.out (below_drewN (Below.refl _ _) nq))
                have hblq2 := below_drewN hblq1 nq
                generalize W2.drewN nq = W3 at *
                have hsz2 : B ≤ W3.heap.size := by have := hblq2.size; rw [hB] at this; exact this
                have hcx2 : W3.cell? ⟨b1, o1 + k, none⟩ = some (.int .i64 x) := (hblq2.cell (by omega)).trans hcell
                have hcy2 : W3.cell? ⟨b2, o2 + m, none⟩ = some (.int .i64 y) := (hblq2.cell (by omega)).trans hcell2
                go_wp2_with (at_builtin; refine wpList_append_own _ rfl _ _ 23 rfl B 2 i0 (.int .i64 0) 1 8 Tryz.underlying23 hi0 hz0 hz1 hz2 rfl (by decide) _ _ _ rfl (Hownq2.out.alloc _) ⟨W3.heap.size, 0, none⟩ 1 1 [.int .i64 y] rfl rfl (cells_at_newZ _ _ _) (one_oneZ _) (by unfold maxLen; first | omega | (simp; omega)) (by first | omega | (simp; omega)) (by simp; omega) ?_; intro v3 w3 hown3 hg3 _)
                have hbl3 : Below B W1 w3 := (hblq2.alloc hsz2 _).grown hg3 (by simp; omega) (fun j hj => (World.ownsRow.lt Hownq2.out j hj).1)
                have hcx3 : w3.cell? ⟨b1, o1 + k, none⟩ = some (.int .i64 x) := (hbl3.cell (by omega)).trans hcell
                have hcy3 : w3.cell? ⟨b2, o2 + m, none⟩ = some (.int .i64 y) := (hbl3.cell (by omega)).trans hcell2
                have hsz3 : B ≤ w3.heap.size := (by have := hbl3.size; rw [hB] at this; exact this)
                rw [show (nx).map (Value.int .i64) ++ [Value.int .i64 y] = (nx ++ [y]).map (Value.int .i64) by simp, show (nx).length + 1 = (nx ++ [y]).length by simp] at hown3
                have Hown3 := hide hown3
                clear hown3 hg3
                go_roundw
                case rel => exact ⟨m + 1, _, _, Ht.out, by omega, by go_num, rfl, hlx2.out, Hown3.out, hbl3⟩
                case measure => simp [intOf]; omega
        · obtain rfl : m = out.length := by omega
          rw [List.take_length] at hir
          have hil := insP_len x out
          cases fl with
          | true =>
            have hP : insP x out = nx := by unfold insP; rw [hir]; rfl
            rw [hP] at Hst hil
            have hol2 := hide (show nx.length ≤ k + 1 by omega)
            clear hir hP hil
            go_wp2_with fail
            go_roundw
            case rel => exact ⟨k + 1, _, Hst.out.symm, by omega, by go_num, hol2.out, own_base Hownn.out hBs, (hbl.trans (hbli.mono hBs))⟩
            case measure => simp [intOf]; omega
          | false =>
            have hP : insP x out = nx ++ [x] := by unfold insP; rw [hir]; rfl
            rw [hP] at Hst hil
            have hol2 := hide (show (nx ++ [x]).length ≤ k + 1 by omega)
            clear hir hP hil
            go_wp2_with (at_builtin; refine wpList_append_own _ rfl _ _ 23 rfl B 2 i0 (.int .i64 0) 1 8 Tryz.underlying23 hi0 hz0 hz1 hz2 rfl (by decide) _ _ _ rfl (Hownn.out.alloc _) ⟨wr.heap.size, 0, none⟩ 1 1 [.int .i64 x] rfl rfl (cells_at_newZ _ _ _) (one_oneZ _) (by unfold maxLen; first | omega | (simp; omega)) (by first | omega | (simp; omega)) (by simp; omega) ?_; intro v1 w1 hown1 hg1 _)
            have hbl1 : Below B W1 w1 := (hbli.alloc hsz0 _).grown hg1 (by simp; omega) (fun j hj => (World.ownsRow.lt Hownn.out j hj).1)
            have hcx1 : w1.cell? ⟨b1, o1 + k, none⟩ = some (.int .i64 x) := (hbl1.cell (by omega)).trans hcell
            have hsz1 : B ≤ w1.heap.size := (by have := hbl1.size; rw [hB] at this; exact this)
            rw [show (nx).map (Value.int .i64) ++ [Value.int .i64 x] = (nx ++ [x]).map (Value.int .i64) by simp, show (nx).length + 1 = (nx ++ [x]).length by simp] at hown1
            have Hown1 := hide hown1
            clear hown1 hg1
            go_roundw
            case rel => exact ⟨k + 1, _, Hst.out.symm, by omega, by go_num, hol2.out, own_base Hown1.out hBs, (hbl.trans (hbl1.mono hBs))⟩
            case measure => simp [intOf]; omega
    · obtain rfl : k = l.length := by omega
      rw [List.take_length] at hout
      have Ho := hide hout
      have Hown := hide hown
      clear hown hout
      go_wp2_with fail
      go_ret
      rw [← Ho.out]
      exact ⟨_, rfl, Hown.out, hbl⟩
theorem refSorted_any (l : List Int) (v : Value) (w : World) (hl : l.length ≤ 100000) (h : LI w v l) :
    Calls Tryz.prog 40 #[v] w fun e w' => ∃ v', e = .returned v' ∧ LN w.heap.size w' v' (sortR l) ∧ Below w.heap.size w w' :=
  (refSortedO_any l v w hl h).mono fun e w' ⟨v', h1, h2, h3⟩ => ⟨v', h1, LN.of_own h2 rfl, h3⟩
end
section
open Go.RowKit Go.Sort

theorem i64Info : (Tryz.prog.info? 2).map (fun i => (i.zero, i.size, i.bytes)) = some (some (.int .i64 0), 1, 8) := by kernel_rfl
end
section
open Go.RowKit Go.Sort

theorem compact_len (S : List Int) : (Lib.compact S).length ≤ S.length := by
  unfold Lib.compact Lib.compactUpTo
  rw [List.length_map]
  have := List.length_filter_le (Lib.keeps S.toArray) (List.range S.length)
  simpa using this

theorem clone0_any (A : Option Addr) (c : Nat) (w : World) :
    Calls Tryz.prog 77 #[.slice A 0 c] w fun e w' => (∃ A' c', e = .returned (.slice A' 0 c') ∧ c' ≤ 9223372036854775807) ∧ Below w.heap.size w w' := by
  cases A with
  | none => exact (Tryz.slices_Clone_nil 0 c w).mono (by rintro e w' ⟨rfl, rfl⟩; exact ⟨⟨_, _, rfl, by decide⟩, Below.refl _ _⟩)
  | some a =>
    obtain ⟨i0, hi0, hz0, hz1, hz2⟩ := info_parts i64Info
    have q22 : ∀ (w : World) (a : Option Addr) (n c n' c' : Nat), (binOp .eql 23 (.slice a n c) (.slice none n' c')).run Tryz.prog w = .ok (.bool a.isNone) w := fun w a n c n' c' => Lib.run_eql_slice_nil w _ _ a n c n' c' Tryz.underlying23
    go_enter Tryz.func77, Tryz.ntmps77
    go_wp2_with fail
    go_ret
    exact ⟨⟨_, _, rfl, by decide⟩, (Below.refl _ _).alloc (Nat.le_refl _) _⟩
theorem ins0_any (A : Option Addr) (c : Nat) (w : World) :
    Calls Tryz.prog 107 #[.slice A 0 c, .int .i64 0, .int .i64 0] w fun e w' => e = .returned (.tuple #[]) ∧ Below w.heap.size w w' := by
  go_enter Tryz.func107, Tryz.ntmps107
  go_wp2_with fail
  go_loopw [6] (fun i wr => i = .int .i64 1 ∧ Below w.heap.size w wr) (fun i wr => 0)
  case atStart => exact ⟨rfl, Below.refl _ _⟩
  case round =>
    obtain ⟨rfl, hbl⟩ := hrel
    go_wp2_with fail
    go_end0
    exact ⟨rfl, hbl⟩
theorem pdq0_any (A : Option Addr) (c : Nat) (L : Int) (w : World) :
    Calls Tryz.prog 91 #[.slice A 0 c, .int .i64 0, .int .i64 0, .int .i64 L] w fun e w' => e = .returned (.tuple #[]) ∧ Below w.heap.size w w' := by
  go_enter Tryz.func91, Tryz.ntmps91
  go_wp2_with fail
  go_loopw [1, 2] (fun a b wr => a = .int .i64 0 ∧ b = .int .i64 0 ∧ Below w.heap.size w wr) (fun a b wr => 0)
  case atStart => exact ⟨rfl, rfl, Below.refl _ _⟩
  case round =>
    obtain ⟨rfl, rfl, hbl⟩ := hrel
    have h := ins0_any A c wr
    go_wp2_with fail
    refine h.mono ?_
    rintro e w2 ⟨rfl, hb2⟩
    go_wp2_with fail
    refine bodyPost_ret (results_none rfl _ _ _) rfl ?_
    exact ⟨rfl, hbl.trans (hb2.mono hbl.size)⟩
theorem sort0_any (A : Option Addr) (c : Nat) (w : World) :
    Calls Tryz.prog 78 #[.slice A 0 c] w fun e w' => e = .returned (.tuple #[]) ∧ Below w.heap.size w w' := by
  have h1 := Tryz.bits_Len 0 w (by decide) (by decide)
  generalize Lib.bitLen (0 : Int).toNat = L at *
  have h2 := pdq0_any A c L w
  go_enter Tryz.func78, Tryz.ntmps78
  go_wp2_with fail
  refine h1.mono ?_
  rintro e w2 ⟨rfl, rfl⟩
  go_wp2_with fail
  refine h2.mono ?_
  rintro e w3 ⟨rfl, hb⟩
  go_wp2_with fail
  go_end0
  exact ⟨rfl, hb⟩
theorem numSorted0_any (v : Value) (w : World) (h : LI w v []) :
    Calls Tryz.prog 51 #[v] w fun e w' => ∃ v', e = .returned v' ∧ LN w.heap.size w' v' (sortL []) ∧ Below w.heap.size w w' := by
  obtain ⟨A, c, rfl, hc, _⟩ := h
  have h1 := clone0_any A c w
  simp only [List.length_nil]
  go_enter Tryz.func51, Tryz.ntmps51
  go_wp2_with fail
  refine h1.mono ?_
  rintro e w2 ⟨⟨A', c', rfl, hc9⟩, hb2⟩
  have h2 := sort0_any A' c' w2
  go_wp2_with fail
  refine h2.mono ?_
  rintro e w3 ⟨rfl, hb3⟩
  have h3 := Tryz.slices_Compact_int_empty A' c' w3
  go_wp2_with fail
  refine h3.mono ?_
  rintro e w4 ⟨rfl, rfl⟩
  go_wp2_with fail
  go_ret
  rw [show sortL [] = [] by simp [sortL, Lib.compact, Lib.compactUpTo]]
  exact ⟨_, rfl, ⟨A', c', rfl, Nat.zero_le _, hc9, fun h => absurd h (by simp)⟩, hb2.trans (hb3.mono hb2.size)⟩
end
section
open Go.RowKit Go.Sort

theorem numSorted1_any (l : List Int) (v : Value) (w : World) (hl : l.length ≤ 1000000) (hp : 0 < l.length) (h : LI w v l) :
    Calls Tryz.prog 51 #[v] w fun e w' => ∃ v', e = .returned v' ∧ LN w.heap.size w' v' (sortL l) ∧ Below w.heap.size w w' := by
  obtain ⟨i0, hi0, hz0, hz1, hz2⟩ := info_parts i64Info
  obtain ⟨b, o, c, rfl, hc, hb, hcell⟩ := h.some_ hp
  have h1 := Tryz.slices_Clone i0 (.int .i64 0) 1 8 hi0 hz0 hz1 hz2 rfl (by decide) Tryz.sizeOf2 b o l.length c (l.map (Value.int .i64)) w (by simp) (by unfold maxLen; omega) (by omega)
    (fun j u hj => by
      rw [List.getElem?_map] at hj
      rcases Nat.lt_or_ge j l.length with hlt | hge
      · rw [List.getElem?_eq_getElem hlt] at hj
        obtain rfl : Value.int .i64 l[j] = u := by simpa using hj
        exact hcell j hlt
      · rw [List.getElem?_eq_none hge] at hj; simp at hj)
    (fun u hu => by obtain ⟨x, _, rfl⟩ := List.mem_map.1 hu; rfl)
  have H1 := hide h1
  clear h1
  unfold sortL
  have hSl : (l.mergeSort fun x y => decide (x ≤ y)).length = l.length := List.length_mergeSort ..
  generalize hSd : (l.mergeSort fun x y => decide (x ≤ y)) = S at *
  have HSd := hide hSd
  have HSl := hide hSl
  clear hSd hSl
  go_enter Tryz.func51, Tryz.ntmps51
  go_wp2_with fail
  refine H1.out.mono ?_
  rintro e w1 ⟨v', rfl, hown, hnn, hb1⟩
  obtain ⟨_, ⟨_, hn0⟩ | ⟨g, cap, cur, rfl, hbase, hblk, hn, hcap, hcs, htake⟩⟩ := hown
  · omega
  rw [Nat.mul_one] at htake
  have hg : g < w1.heap.size := (Array.getElem?_eq_some_iff.1 hblk).1
  have hH := holds_of_blockI hblk htake
  have h2 := Tryz.slices_Sort_int g 0 cap l w1 hH hg (by omega)
  rw [HSd.out] at h2
  have H2 := hide h2
  clear h2 H1 hH
  go_wp2_with fail
  refine H2.out.mono ?_
  rintro e w2 ⟨rfl, n, os, rfl⟩
  have hSl := HSl.out
  have hown2 := ownsRow_sortedI (n := n) (os := os) (ts := S) hSl hbase hblk hn hcap hcs
  have hgr2 := grownBy_sortedI (w := w1) (g := g) (n := n) (os := os) S.toArray
  generalize Go.Sort.grow (putRow (Value.int .i64) (Sort.ahead w1 n) g 0 S.toArray) os = w2 at *
  have hb2 : Below w.heap.size w w2 := hb1.grown hgr2 hb1.size (fun j hj => by cases hj; exact hbase)
  obtain ⟨_, ⟨hx, _⟩ | ⟨g', cap', cur2, hv, _, hblk2, _, _, hcs2, htake2⟩⟩ := hown2
  · cases hx
  cases hv
  rw [Nat.mul_one, ← hSl] at htake2
  have hg2 : g < w2.heap.size := (Array.getElem?_eq_some_iff.1 hblk2).1
  have hH2 := holds_of_blockI hblk2 htake2
  have h3 := Tryz.slices_Compact_int g 0 cap S w2 hH2 (by omega) (by omega)
  rw [hSl] at h3
  have H3 := hide h3
  have hcl := compact_len S
  clear h3 H2 hH2
  go_wp2_with fail
  refine H3.out.mono ?_
  rintro e w3 ⟨rfl, q, hw3⟩
  have hown3 := ownsRow_sortedI (n := q) (os := #[]) (ss := S) (ts := Lib.compact S ++ List.replicate (S.length - (Lib.compact S).length) 0) (by simp; omega) hbase hblk2 (by omega) hcap hcs2
  have hgr3 := grownBy_sortedI (w := w2) (g := g) (n := q) (os := #[]) (Lib.compact S ++ List.replicate (S.length - (Lib.compact S).length) 0).toArray
  rw [grow_empty] at hown3 hgr3
  rw [hSl] at hown3 hgr3
  rw [← hw3] at hown3 hgr3
  have hb3 : Below w.heap.size w w3 := hb2.grown hgr3 hb2.size (fun j hj => by cases hj; exact hbase)
  have hLI : LN w.heap.size w3 (.slice (some ⟨g, 0, none⟩) (Lib.compact S).length cap) (Lib.compact S) := by
    refine ⟨_, _, rfl, by omega, by unfold maxLen at hcap; omega, fun _ => ⟨g, 0, rfl, hbase, ?_, fun i hi => ?_⟩⟩
    · have := hgr3.size; omega
    · rw [Nat.zero_add]
      exact own_cell hown3 rfl (by rw [List.getElem?_map, List.getElem?_append_left hi, List.getElem?_eq_getElem hi]; rfl)
  clear hw3 H3 hown3 hgr3 hblk hblk2 htake htake2
  go_wp2_with fail
  go_ret
  exact ⟨_, rfl, hLI, hb3⟩
theorem numSorted_any (l : List Int) (v : Value) (w : World) (hl : l.length ≤ 1000000) (h : LI w v l) :
    Calls Tryz.prog 51 #[v] w fun e w' => ∃ v', e = .returned v' ∧ LN w.heap.size w' v' (sortL l) ∧ Below w.heap.size w w' := by
  cases l with
  | nil => exact numSorted0_any v w h
  | cons x l => exact numSorted1_any (x :: l) v w hl (by simp) h
end
section
open Go.RowKit
theorem one_arg {vs : Array Value} {a : AV} (hn : vs.size = [a].length) : ∃ x, vs = #[x] := ⟨vs[0]'(by simp at hn; omega), by
  apply Array.ext (by simpa using hn)
  intro i h1 h2
  simp at h2
  subst h2
  rfl⟩
theorem numSorted_A (l : List Int) (hl : l.length ≤ 1000000) : ADet Tryz.prog 51 [sI l] ⟨sI (sortR l), [], 0⟩ :=
  adet_of_sl (enters_of Tryz.func51 rfl (by decide)) fun S w vs hS hn hv => by
    obtain ⟨a, rfl⟩ := one_arg hn
    refine (numSorted_any l a w hl (LI.of_rt (hv 0 a _ rfl rfl) hS)).mono fun e w' ⟨v', h1, h2, h3⟩ => ?_
    rw [sortL_eq] at h2
    exact ⟨v', h1, fun S' hS' => h2.rt hS', h3⟩
theorem refSorted_A (l : List Int) (hl : l.length ≤ 100000) : ADet Tryz.prog 40 [sI l] ⟨sI (sortR l), [], 0⟩ :=
  adet_of_sl (enters_of Tryz.func40 rfl (by decide)) fun S w vs hS hn hv => by
    obtain ⟨a, rfl⟩ := one_arg hn
    refine (refSorted_any l a w hl (LI.of_rt (hv 0 a _ rfl rfl) hS)).mono fun e w' ⟨v', h1, h2, h3⟩ => ?_
    exact ⟨v', h1, fun S' hS' => h2.rt hS', h3⟩
structure Cls where
  attrs : Int
  const : Int
structure Zn where
  cls : List Cls
  gaps : List Int
abbrev eCls (x : Cls) : List AV := [eI x.attrs, eI x.const]
abbrev eZn (z : Zn) : List AV := [.sl 2 (z.cls.map eCls), sI z.gaps]
end
section
open Go.RowKit
def CmpOk (g : FuncId) : Prop := ∀ x y : Pt, ADet Tryz.prog g [.agg [eI x.n, eI x.a, eI x.c], .agg [eI y.n, eI y.a, eI y.c]] (val (.int .i64 (cmpI x.n y.n)))
theorem cmpI_neg (a b : Int) : decide (cmpI a b < 0) = decide (a < b) := by
  unfold cmpI
  split
  · rename_i h
    simp [h]
  · rename_i h
    split <;> simp [h]
theorem getEl {l : List Pt} {i : Nat} {x : Pt} (h : l[i]? = some x) : ∃ hi : i < l.length, l[i] = x := List.getElem?_eq_some_iff.1 h
set_option maxRecDepth 100000 in
set_option maxHeartbeats 8000000 in
theorem insertion_M (g : FuncId) (hg : CmpOk g) (pre seg post : List Pt) (a b : Nat) (ha : a = pre.length) (hb : b = a + seg.length) (ht : Tg seg) (hl : (pre ++ seg ++ post).length ≤ 1000000) : AMut Tryz.prog 131 141 3 ((pre ++ seg ++ post).map encP) [eI (a : Int), eI (b : Int), .fn g []] ((pre ++ srt seg ++ post).map encP) := by
  have hl0 : pre.length + seg.length + post.length ≤ 1000000 := by simpa [Nat.add_assoc] using hl
  have e1 : IntKind.i64.wrap ((a : Int) + 1) = ((a + 1 : Nat) : Int) := by rw [wrap_in (by omega) (by omega)]; omega
  have hs0 : pre ++ srt (seg.take 1) ++ seg.drop 1 ++ post = pre ++ seg ++ post := by
    have : srt (seg.take 1) = seg.take 1 := by
      match seg with
      | [] => exact srt_nil
      | x :: l => exact srt_of (List.pairwise_singleton _ _)
    rw [this, List.append_assoc pre, List.take_append_drop]
  refine amut_of_code mixedT Tryz.func131 rfl (by decide) Tryz.ntmps131 Tryz.results131 rfl (by kernel_rfl) ?_
  (repeat' (first | simp (maxSteps := 5000000) (implicitDefEqProofs := false) only [ruA, ruB, aEv, aBin, bin2, ASt.get, aget, ASt.put, envOf, ↓reduceIte, Nat.reduceLT, Nat.reduceAdd, eq_self, e1] | (with_reducible refine aIf_split (fun _ => ?_) (fun _ => ?_)) | (with_reducible refine aSel_split (fun _ => ?_) (fun _ => ?_)) | (with_reducible refine aGd_split (fun _ => ?_) (fun _ => ?_))))
  refine aLoop_of (fun st => ∃ k : Nat, 1 ≤ k ∧ (k ≤ seg.length ∨ k = 1) ∧ st = ⟨53, [(0, .osl 0), (1, eI (a : Int)), (2, eI (b : Int)), (3, .fn g []), (8, eI ((a + k : Nat) : Int))], [(0, some (.row 141 3 ((pre ++ srt (seg.take k) ++ seg.drop k ++ post).map encP)))], 1⟩) (fun st => b - slotN st 8) ⟨_, (weak_cut1 (by (first | ((simp only [envIn, tabIn, envLt, tabLt, AObj.lt, AV.lt, AV.ltL, ruW, ASt.get, aget, ↓reduceIte, reduceCtorEq, Nat.reduceLT, Nat.reduceEqDiff, eq_self, hs0]) <;> (repeat' apply And.intro) <;> first | (rw [wrapK (by omega)]; done) | (simp; done) | omega) | fail))), 1, Nat.le_refl _, .inr rfl, rfl⟩ ?_
  rintro _ ⟨k, hk1, hk2, rfl⟩
  by_cases hlt : k < seg.length
  · have d1 : decide (((a + k : Nat) : Int) < (b : Int)) = true := by simp only [decide_eq_true_eq]; omega
    have d1' : decide (a + k < b) = true := by simp only [decide_eq_true_eq]; omega
    have hdrop : seg.drop k = seg[k] :: seg.drop (k + 1) := List.drop_eq_getElem_cons hlt
    have htake : seg.take (k + 1) = seg.take k ++ [seg[k]] := List.take_succ_eq_append_getElem hlt
    have hSl : (srt (seg.take k)).length = k := by rw [srt_len, List.length_take]; omega
    have hSs : Srt (srt (seg.take k)) := srt_sorted (ht.take k).dt
    have hSt : ∀ y ∈ srt (seg.take k), y.t < seg[k].t := fun y hy => ht.lt hlt y (srt_mem.1 hy)
    have hfin : srt (seg.take (k + 1)) = srt (srt (seg.take k) ++ [seg[k]]) := by
      rw [htake, srt_snoc]
      rw [← htake]
      exact (ht.take _).dt
    rw [hdrop]
    generalize hrest : seg.drop (k + 1) = rest at *
    generalize seg[k] = x at *
    generalize hS : srt (seg.take k) = S at *
    have hrl : k + (rest.length + 1) = seg.length := by
      have := congrArg List.length hdrop
      rw [List.length_drop, List.length_cons] at this
      omega
    have hst0 : pre ++ S ++ x :: rest ++ post = pre ++ S.take k ++ x :: (S.drop k ++ rest ++ post) := by
      rw [List.take_of_length_le (by omega), List.drop_of_length_le (by omega)]
      simp
    (repeat' (first | simp (maxSteps := 5000000) (implicitDefEqProofs := false) only [ruA, ruB, aEv, aBin, bin2, ASt.get, aget, ASt.put, ↓reduceIte, Nat.reduceLT, Nat.reduceEqDiff, eq_self, d1'] | (with_reducible refine aIf_split (fun _ => ?_) (fun _ => ?_)) | (with_reducible refine aSel_split (fun _ => ?_) (fun _ => ?_)) | (with_reducible refine aGd_split (fun _ => ?_) (fun _ => ?_))))
    refine aLoop_of (fun st => ∃ q : Nat, q ≤ S.length ∧ (∀ t (h : t < S.length), q ≤ t → x.n < S[t].n) ∧ st = ⟨53, [(0, .osl 0), (1, eI (a : Int)), (2, eI (b : Int)), (3, .fn g []), (8, eI ((a + k : Nat) : Int)), (9, eI ((a + q : Nat) : Int))], [(0, some (.row 141 3 ((pre ++ S.take q ++ x :: (S.drop q ++ rest ++ post)).map encP)))], 1⟩) (fun st => slotN st 9) ⟨_, (weak_cut1 (by (first | ((simp only [envIn, tabIn, envLt, tabLt, AObj.lt, AV.lt, AV.ltL, ruW, ASt.get, aget, ↓reduceIte, reduceCtorEq, Nat.reduceLT, Nat.reduceEqDiff, eq_self, hst0]) <;> (repeat' apply And.intro) <;> first | (rw [wrapK (by omega)]; done) | (simp; done) | omega) | fail))), k, by omega, fun t h h2 => by omega, rfl⟩ ?_
    rintro _ ⟨q, hq, hbig, rfl⟩
    have e2 : IntKind.i64.wrap (((a + k : Nat) : Int) + 1) = ((a + (k + 1) : Nat) : Int) := by rw [wrap_in (by omega) (by omega)]; omega
    have done : (∀ t (h : t < S.length), t < q → ¬ x.n < S[t].n) → pre ++ S.take q ++ x :: (S.drop q ++ rest ++ post) = pre ++ srt (seg.take (k + 1)) ++ rest ++ post := fun h => by
      rw [hfin, ins_last hSs hSt h hbig]
      simp
    cases q with
    | zero =>
      have d2 : decide ((a : Int) < ((a + 0 : Nat) : Int)) = false := by simp
      have d2' : decide (a < a + 0) = false := by simp
      have d2'' : decide (a < a) = false := by simp
      rw [done fun t h h2 => by omega]
      (repeat' (first | simp (maxSteps := 5000000) (implicitDefEqProofs := false) only [ruA, ruB] | (with_reducible refine aIf_split (fun _ => ?_) (fun _ => ?_)) | (with_reducible refine aSel_split (fun _ => ?_) (fun _ => ?_)) | (with_reducible refine aGd_split (fun _ => ?_) (fun _ => ?_))))
      refine aDraw_held [] [0, 1, 2, 3, 4, 5, 6, 7, 8, 9, 10, 11, 12, 13] (.exec 14 (.take 15 (.take 16 .done))) (by kernel_rfl) (by simp [ATab.get_cons]) ?_
      (repeat' (first | simp (maxSteps := 5000000) (implicitDefEqProofs := false) only [ruA, ruB, aEv, aBin, bin2, ASt.get, aget, ASt.put, ↓reduceIte, Nat.reduceLT, Nat.reduceEqDiff, eq_self, aTakes, aTakeE, d2''] | (with_reducible refine aIf_split (fun _ => ?_) (fun _ => ?_)) | (with_reducible refine aSel_split (fun _ => ?_) (fun _ => ?_)) | (with_reducible refine aGd_split (fun _ => ?_) (fun _ => ?_)) | (with_reducible refine aDraw_quiet (by kernel_rfl) ?_)))
      all_goals first
        | exact roundI (weak_cut1 (by (first | ((simp only [envIn, tabIn, envLt, tabLt, AObj.lt, AV.lt, AV.ltL, ruW, ASt.get, aget, ↓reduceIte, reduceCtorEq, Nat.reduceLT, Nat.reduceEqDiff, eq_self, e2, hrest]) <;> (repeat' apply And.intro) <;> first | (rw [wrapK (by omega)]; done) | (simp; done) | omega) | fail))) ⟨k + 1, by omega, .inl (by omega), rfl⟩ (by simp only [slotN, ruW, ASt.get, aget, ↓reduceIte, Nat.reduceLT, Nat.reduceEqDiff, eq_self]; omega)
        | trace_state
    | succ q =>
      have hqS : q < S.length := by omega
      have d2 : decide ((a : Int) < ((a + (q + 1) : Nat) : Int)) = true := by simp only [decide_eq_true_eq]; omega
      have d2' : decide (a < a + (q + 1)) = true := by simp only [decide_eq_true_eq]; omega
      have e3 : IntKind.i64.wrap (((a + (q + 1) : Nat) : Int) - 1) = ((a + q : Nat) : Int) := by rw [wrap_in (by omega) (by omega)]; omega
      have tS : S.take (q + 1) = S.take q ++ [S[q]] := List.take_succ_eq_append_getElem hqS
      have dS : S.drop q = S[q] :: S.drop (q + 1) := List.drop_eq_getElem_cons hqS
      have ltS : (S.take q).length = q := by rw [List.length_take]; omega
      have hyq : ∀ t (h : t < S.length), t ≤ q → S[t].n ≤ S[q].n := fun t h h2 => n_mono hSs h2 hqS
      by_cases hxy : x.n < S[q].n
      · have d3 : decide (cmpI x.n S[q].n < 0) = true := by rw [cmpI_neg]; simpa using hxy
        have hbig2 : ∀ t (h : t < S.length), q ≤ t → x.n < S[t].n := fun t h h2 => by
          rcases Nat.lt_or_ge q t with h3 | h3
          · exact hbig t h h3
          · obtain rfl : q = t := by omega
            exact hxy
        have hnew : pre ++ S.take q ++ x :: (S.drop q ++ rest ++ post) = (pre ++ S.take q) ++ x :: ([] ++ S[q] :: (S.drop (q + 1) ++ rest ++ post)) := by rw [dS]; simp only [List.append_assoc, List.cons_append, List.nil_append]
        have hold : pre ++ S.take (q + 1) ++ x :: (S.drop (q + 1) ++ rest ++ post) = (pre ++ S.take q) ++ S[q] :: ([] ++ x :: (S.drop (q + 1) ++ rest ++ post)) := by rw [tS]; simp only [List.append_assoc, List.cons_append, List.nil_append]
        have hsw := sw_app (X := pre ++ S.take q) (Y := []) (Z := S.drop (q + 1) ++ rest ++ post) (a := S[q]) (b := x) (i := a + q) (j := a + (q + 1)) (by rw [List.length_append]; omega) (by rw [List.length_append]; simp; omega)
        rw [← hold, ← hnew, sw_comm _ (by omega)] at hsw
        obtain ⟨hj, hxj⟩ := getEl (show (pre ++ S.take (q + 1) ++ x :: (S.drop (q + 1) ++ rest ++ post))[a + (q + 1)]? = some x from get_mid (by rw [List.length_append, List.length_take]; omega))
        obtain ⟨hi, hyi⟩ := getEl (show (pre ++ S.take (q + 1) ++ x :: (S.drop (q + 1) ++ rest ++ post))[a + q]? = some S[q] from by rw [hold]; exact get_mid (by rw [List.length_append]; omega))
        generalize S[q] = y at *
        generalize hm : pre ++ S.take (q + 1) ++ x :: (S.drop (q + 1) ++ rest ++ post) = m at *
        have hsm := sw_map hj hi
        rw [hsw, hxj, hyi] at hsm
        have hc := hg x y
        (repeat' (first | simp (maxSteps := 5000000) (implicitDefEqProofs := false) only [ruA] | (with_reducible refine aIf_split (fun _ => ?_) (fun _ => ?_)) | (with_reducible refine aSel_split (fun _ => ?_) (fun _ => ?_)) | (with_reducible refine aGd_split (fun _ => ?_) (fun _ => ?_))))
        refine aDraw_held [] [0, 1, 2, 3, 4, 5, 6, 7, 8, 9, 10, 11, 12, 13] (.exec 14 (.take 15 (.take 16 .done))) (by kernel_rfl) (by simp [ATab.get_cons]) ?_
        (repeat' (first | simp (maxSteps := 5000000) (implicitDefEqProofs := false) only [ruA, ruB, aEv, aTake, aLoad, aIndex, aBin, bin2, ASt.get, aget, ASt.put, ↓reduceIte, reduceCtorEq, Nat.reduceLT, Nat.reduceEqDiff, Nat.reduceAdd, eq_self, aTakes, aFrom, tyE_138, tyA_141, tyS_141, row_at, d2', e3, hj, hi, hxj, hyi, encP] | (with_reducible refine aIf_split (fun _ => ?_) (fun _ => ?_)) | (with_reducible refine aSel_split (fun _ => ?_) (fun _ => ?_)) | (with_reducible refine aGd_split (fun _ => ?_) (fun _ => ?_))))
        refine callV hc ?_
        (repeat' (first | simp (maxSteps := 5000000) (implicitDefEqProofs := false) only [ruA, ruB, aEv, aBin, bin2, ASt.get, aget, ASt.put, ↓reduceIte, Nat.reduceLT, Nat.reduceEqDiff, eq_self, aTakeE, d3] | (with_reducible refine aIf_split (fun _ => ?_) (fun _ => ?_)) | (with_reducible refine aSel_split (fun _ => ?_) (fun _ => ?_)) | (with_reducible refine aGd_split (fun _ => ?_) (fun _ => ?_))))
        refine aDraw_held [0] [0, 1, 2, 3, 4, 5, 6, 7, 8, 10, 11, 12] (.two 9 (.exec 13 (.take 14 (.exec 15 (.take 16 (.exec 17 .done))))) 13 (.exec 9 (.take 14 (.exec 15 (.take 16 (.exec 17 .done)))))) (by kernel_rfl) (by simp [ATab.get_cons]) ?_
        (repeat' (first | simp (maxSteps := 5000000) (implicitDefEqProofs := false) only [ruA, ruB, aEv, aTake, aLoad, aIndex, aBin, bin2, ASt.get, aget, ASt.put, aCells, oneC, oneCL, treeC, treeL, Value.oneCell', ↓reduceIte, reduceCtorEq, Nat.reduceLT, Nat.reduceEqDiff, Nat.reduceAdd, Nat.reduceLeDiff, eq_self, aExecS, aStoreB, aTakes, aTakeE, aMay, tyE_138, tyA_141, tyS_141, row_at, e3, hj, hi, hxj, hyi, encP, drop3, List.length_set] | (with_reducible refine aIf_split (fun _ => ?_) (fun _ => ?_)) | (with_reducible refine aSel_split (fun _ => ?_) (fun _ => ?_)) | (with_reducible refine aGd_split (fun _ => ?_) (fun _ => ?_)) | (with_reducible refine aDraw_quiet (by kernel_rfl) ?_) | (with_reducible apply And.intro)))
        all_goals first
          | rfl
          | omega
          | exact roundI (weak_cut1 (by (first | ((simp only [envIn, tabIn, envLt, tabLt, AObj.lt, AV.lt, AV.ltL, ruW, ASt.get, aget, ↓reduceIte, reduceCtorEq, Nat.reduceLT, Nat.reduceEqDiff, eq_self, hsm]) <;> (repeat' apply And.intro) <;> first | (rw [wrapK (by omega)]; done) | (simp; done) | omega) | fail))) ⟨q, by omega, hbig2, rfl⟩ (by simp only [slotN, ruW, ASt.get, aget, ↓reduceIte, Nat.reduceLT, Nat.reduceEqDiff, eq_self]; omega)
          | trace_state
      · have d3 : decide (cmpI x.n S[q].n < 0) = false := by rw [cmpI_neg]; simpa using hxy
        obtain ⟨hj, hxj⟩ := getEl (show (pre ++ S.take (q + 1) ++ x :: (S.drop (q + 1) ++ rest ++ post))[a + (q + 1)]? = some x from get_mid (by rw [List.length_append, List.length_take]; omega))
        have hold : pre ++ S.take (q + 1) ++ x :: (S.drop (q + 1) ++ rest ++ post) = (pre ++ S.take q) ++ S[q] :: ([] ++ x :: (S.drop (q + 1) ++ rest ++ post)) := by rw [tS]; simp only [List.append_assoc, List.cons_append, List.nil_append]
        obtain ⟨hi, hyi⟩ := getEl (show (pre ++ S.take (q + 1) ++ x :: (S.drop (q + 1) ++ rest ++ post))[a + q]? = some S[q] from by rw [hold]; exact get_mid (by rw [List.length_append]; omega))
        have hdn := done fun t h h2 => by
          have := hyq t h (by omega)
          omega
        clear hold
        generalize S[q] = y at *
        generalize hm : pre ++ S.take (q + 1) ++ x :: (S.drop (q + 1) ++ rest ++ post) = m at *
        have hc := hg x y
        have hmm : m.map encP = (pre ++ srt (seg.take (k + 1)) ++ rest ++ post).map encP := by rw [hdn]
        (repeat' (first | simp (maxSteps := 5000000) (implicitDefEqProofs := false) only [ruA] | (with_reducible refine aIf_split (fun _ => ?_) (fun _ => ?_)) | (with_reducible refine aSel_split (fun _ => ?_) (fun _ => ?_)) | (with_reducible refine aGd_split (fun _ => ?_) (fun _ => ?_))))
        refine aDraw_held [] [0, 1, 2, 3, 4, 5, 6, 7, 8, 9, 10, 11, 12, 13] (.exec 14 (.take 15 (.take 16 .done))) (by kernel_rfl) (by simp [ATab.get_cons]) ?_
        (repeat' (first | simp (maxSteps := 5000000) (implicitDefEqProofs := false) only [ruA, ruB, aEv, aTake, aLoad, aIndex, aBin, bin2, ASt.get, aget, ASt.put, ↓reduceIte, reduceCtorEq, Nat.reduceLT, Nat.reduceEqDiff, Nat.reduceAdd, eq_self, aTakes, aTakeE, aFrom, tyE_138, tyA_141, tyS_141, row_at, d2', e3, hj, hi, hxj, hyi, encP, d3] | (with_reducible refine aIf_split (fun _ => ?_) (fun _ => ?_)) | (with_reducible refine aSel_split (fun _ => ?_) (fun _ => ?_)) | (with_reducible refine aGd_split (fun _ => ?_) (fun _ => ?_)) | (with_reducible refine aDraw_quiet (by kernel_rfl) ?_) | ((with_reducible apply callV); exact (hc)) | ((with_reducible apply callD); exact (hc))))
        all_goals first
          | exact roundI (weak_cut1 (by (first | ((simp only [envIn, tabIn, envLt, tabLt, AObj.lt, AV.lt, AV.ltL, ruW, ASt.get, aget, ↓reduceIte, reduceCtorEq, Nat.reduceLT, Nat.reduceEqDiff, eq_self, e2, hrest, hmm]) <;> (repeat' apply And.intro) <;> first | (rw [wrapK (by omega)]; done) | (simp; done) | omega) | fail))) ⟨k + 1, by omega, .inl (by omega), rfl⟩ (by simp only [slotN, ruW, ASt.get, aget, ↓reduceIte, Nat.reduceLT, Nat.reduceEqDiff, eq_self]; omega)
          | trace_state
  · have d1 : decide (((a + k : Nat) : Int) < (b : Int)) = false := by simp only [decide_eq_false_iff_not]; omega
    have d1' : decide (a + k < b) = false := by simp only [decide_eq_false_iff_not]; omega
    have hfin : pre ++ srt (seg.take k) ++ seg.drop k ++ post = pre ++ srt seg ++ post := by
      rw [List.take_of_length_le (by omega), List.drop_of_length_le (by omega)]
      simp
    rw [hfin]
    (repeat' (first | simp (maxSteps := 5000000) (implicitDefEqProofs := false) only [ruA, ruB, aEv, aBin, bin2, ASt.get, aget, ASt.put, ↓reduceIte, reduceCtorEq, Nat.reduceLT, Nat.reduceEqDiff, eq_self, d1', aRetM_n] | (with_reducible refine aIf_split (fun _ => ?_) (fun _ => ?_)) | (with_reducible refine aSel_split (fun _ => ?_) (fun _ => ?_)) | (with_reducible refine aGd_split (fun _ => ?_) (fun _ => ?_)) | (with_reducible refine aDraw_quiet (by kernel_rfl) ?_)))
end
section
def CutLo (A B : List Pt) (M u : Nat) : Prop := ∀ t (h : t < A.length) (h' : M - 1 - t < B.length), M - B.length ≤ t → t < u → ¬ B[M - 1 - t].n < A[t].n
def CutHi (A B : List Pt) (M u : Nat) : Prop := ∀ t (h : t < A.length) (h' : M - 1 - t < B.length), u ≤ t → t < M → B[M - 1 - t].n < A[t].n
theorem cutLo_step {A B : List Pt} (hA : Srt A) (hB : Srt B) {M h : Nat} (hh : h < A.length) (hh' : M - 1 - h < B.length) (hM : h < M) (hc : ¬ B[M - 1 - h].n < A[h].n) : CutLo A B M (h + 1) := fun t ht ht' _ h2 => by
  have h3 := n_mono hA (show t ≤ h by omega) hh
  have h4 := n_mono hB (show M - 1 - h ≤ M - 1 - t by omega) ht'
  omega
theorem cutHi_step {A B : List Pt} (hA : Srt A) (hB : Srt B) {M h : Nat} (hh : h < A.length) (hh' : M - 1 - h < B.length) (hc : B[M - 1 - h].n < A[h].n) : CutHi A B M h := fun t ht ht' h1 h2 => by
  have h3 := n_mono hA h1 ht
  have h4 := n_mono hB (show M - 1 - t ≤ M - 1 - h by omega) hh'
  omega
theorem sym_cut {A B : List Pt} (hA : Srt A) (hB : Srt B) (ht : ∀ x ∈ A, ∀ y ∈ B, x.t < y.t) {M u : Nat} (hlo : M - B.length ≤ u) (hhi : u ≤ M) (hhi2 : u ≤ A.length) (h1 : CutLo A B M u) (h2 : CutHi A B M u) :
    srt (A ++ B) = srt (A.take u ++ B.take (M - u)) ++ srt (A.drop u ++ B.drop (M - u)) := by
  have e := srt_cut (A1 := A.take u) (A2 := A.drop u) (B1 := B.take (M - u)) (B2 := B.drop (M - u)) (by rw [List.take_append_drop]; exact hA) (by rw [List.take_append_drop]; exact hB) (by rw [List.take_append_drop, List.take_append_drop]; exact ht) ?_ ?_
  · rwa [List.take_append_drop, List.take_append_drop] at e
  · intro x hx y hy
    obtain ⟨i, hi, rfl⟩ := List.getElem_of_mem hx
    obtain ⟨j, hj, rfl⟩ := List.getElem_of_mem hy
    rw [List.length_take] at hi
    rw [List.length_drop] at hj
    rw [List.getElem_take, List.getElem_drop]
    have hiA : i < A.length := by omega
    have hjB : M - u + j < B.length := by omega
    have h3 := ht _ (List.getElem_mem hiA) _ (List.getElem_mem hjB)
    have h4 := h1 (u - 1) (by omega) (by omega) (by omega) (by omega)
    have h5 := n_mono hA (show i ≤ u - 1 by omega) (by omega)
    have h6 := n_mono hB (show M - 1 - (u - 1) ≤ M - u + j by omega) hjB
    unfold ltE
    omega
  · intro y hy x hx
    obtain ⟨i, hi, rfl⟩ := List.getElem_of_mem hx
    obtain ⟨j, hj, rfl⟩ := List.getElem_of_mem hy
    rw [List.length_drop] at hi
    rw [List.length_take] at hj
    rw [List.getElem_take, List.getElem_drop]
    have hiA : u + i < A.length := by omega
    have hjB : j < B.length := by omega
    have h4 := h2 u (by omega) (by omega) (Nat.le_refl _) (by omega)
    have h5 := n_mono hA (show u ≤ u + i by omega) hiA
    have h6 := n_mono hB (show j ≤ M - 1 - u by omega) (by omega)
    unfold ltE
    omega
theorem Srt.take {l : List Pt} (h : Srt l) (k : Nat) : Srt (l.take k) := h.sublist (List.take_sublist k l)
theorem Srt.drop {l : List Pt} (h : Srt l) (k : Nat) : Srt (l.drop k) := h.sublist (List.drop_sublist k l)
end
section
open Go.RowKit
theorem u64_in {n : Nat} (h : n ≤ 4000000) : IntKind.u64.wrap (n : Int) = (n : Int) := by simp [IntKind.wrap, IntKind.bits, IntKind.signed]; omega
theorem half_in (x y : Nat) (h : x + y ≤ 4000000) : (if (1 : Int) < 0 then (none : Option Value) else some (Value.int IntKind.u64 ((IntKind.u64.wrap (IntKind.i64.wrap ((x : Int) + (y : Int)))).fdiv (2 ^ min (Int.toNat 1) IntKind.u64.bits)))) = some (.int .u64 (((x + y) / 2 : Nat) : Int)) := by
  rw [if_neg (by decide), wrap_in (by omega) (by omega), show ((x : Int) + (y : Int)) = ((x + y : Nat) : Int) by omega, u64_in h]
  have : ((x + y : Nat) : Int).fdiv (2 ^ min (Int.toNat 1) IntKind.u64.bits) = (((x + y) / 2 : Nat) : Int) := by
    rw [show (2 : Int) ^ min (Int.toNat 1) IntKind.u64.bits = 2 from rfl, Int.fdiv_eq_ediv_of_nonneg _ (by omega)]
    omega
  rw [this]
set_option maxRecDepth 100000 in
set_option maxHeartbeats 8000000 in
theorem symOne_M (g : FuncId) (hg : CmpOk g) (pre B post : List Pt) (x : Pt) (a m b : Nat) (ha : a = pre.length) (hm : m = a + 1) (hb : b = m + B.length) (hB : Srt B) (ht : ∀ y ∈ B, x.t < y.t) (hl : pre.length + B.length + post.length ≤ 1000000) : AMut Tryz.prog 132 141 3 ((pre ++ x :: (B ++ post)).map encP) [eI (a : Int), eI (m : Int), eI (b : Int), .fn g []] ((pre ++ srt ([x] ++ B) ++ post).map encP) := by
  have e0 : IntKind.i64.wrap ((m : Int) - (a : Int)) = 1 := by rw [wrap_in (by omega) (by omega)]; omega
  have d0 : ((1 : Int) == 1) = true := by decide
  obtain ⟨T, hT⟩ : ∃ T, pre ++ srt ([x] ++ B) ++ post = T := ⟨_, rfl⟩
  rw [hT]
  refine amut_of_code mixedT Tryz.func132 rfl (by decide) Tryz.ntmps132 Tryz.results132 rfl (by kernel_rfl) ?_
  (repeat' (first | simp (maxSteps := 5000000) (implicitDefEqProofs := false) only [ruA, ruB, aEv, aBin, bin2, ASt.get, aget, ASt.put, envOf, ↓reduceIte, Nat.reduceLT, Nat.reduceEqDiff, Nat.reduceAdd, eq_self, e0, d0] | (with_reducible refine aIf_split (fun _ => ?_) (fun _ => ?_)) | (with_reducible refine aSel_split (fun _ => ?_) (fun _ => ?_)) | (with_reducible refine aGd_split (fun _ => ?_) (fun _ => ?_))))
  refine aLoop_of (fun st => ∃ i j : Nat, i ≤ j ∧ j ≤ B.length ∧ (∀ t (h : t < B.length), t < i → B[t].n < x.n) ∧ (∀ t (h : t < B.length), j ≤ t → ¬ B[t].n < x.n) ∧ st = ⟨220, [(0, .osl 0), (1, eI (a : Int)), (4, .fn g []), (10, eI ((m + i : Nat) : Int)), (11, eI ((m + j : Nat) : Int))], [(0, some (.row 141 3 ((pre ++ x :: (B ++ post)).map encP)))], 1⟩) (fun st => slotN st 11 - slotN st 10) ⟨_, (weak_cut1 (by (first | ((simp only [envIn, tabIn, envLt, tabLt, AObj.lt, AV.lt, AV.ltL, ruW, ASt.get, aget, ↓reduceIte, reduceCtorEq, Nat.reduceLT, Nat.reduceEqDiff, eq_self, hb]) <;> (repeat' apply And.intro) <;> first | (rw [wrapK (by omega)]; done) | (simp; done) | omega) | fail))), 0, B.length, Nat.zero_le _, Nat.le_refl _, fun t h h2 => by omega, fun t h h2 => by omega, rfl⟩ ?_
  rintro _ ⟨i, j, hij, hjB, h1, h2, rfl⟩
  by_cases hlt : i < j
  · have d1 : decide (((m + i : Nat) : Int) < ((m + j : Nat) : Int)) = true := by simp only [decide_eq_true_eq]; omega
    have d1' : decide (m + i < m + j) = true := by simp only [decide_eq_true_eq]; omega
    have hH := half_in (m + i) (m + j) (by omega)
    obtain ⟨h, hh, hih, hhj⟩ : ∃ h, (m + i + (m + j)) / 2 = m + h ∧ i ≤ h ∧ h < j := ⟨(m + i + (m + j)) / 2 - m, by omega, by omega, by omega⟩
    rw [hh] at hH
    have eH : IntKind.i64.wrap ((m + h : Nat) : Int) = ((m + h : Nat) : Int) := wrap_in (by omega) (by omega)
    have eH1 : IntKind.i64.wrap (((m + h : Nat) : Int) + 1) = ((m + (h + 1) : Nat) : Int) := by rw [wrap_in (by omega) (by omega)]; omega
    have hhB : h < B.length := by omega
    obtain ⟨hia, hxa⟩ := getEl (show (pre ++ x :: (B ++ post))[a]? = some x from get_mid ha)
    obtain ⟨hih2, hyh⟩ := getEl (show (pre ++ x :: (B ++ post))[m + h]? = some B[h] from by
      rw [show pre ++ x :: (B ++ post) = (pre ++ [x]) ++ (B ++ post) by simp, List.getElem?_append_right (by simp; omega), List.getElem?_append_left (by simp; omega), List.getElem?_eq_getElem (by simp; omega)]
      congr 2
      simp
      omega)
    have hc := hg B[h] x
    have hmono1 : ∀ t (h' : t < B.length), t ≤ h → B[t].n ≤ B[h].n := fun t h' h3 => n_mono hB h3 hhB
    have hmono2 : ∀ t (h' : t < B.length), h ≤ t → B[h].n ≤ B[t].n := fun t h' h3 => n_mono hB h3 h'
    by_cases hxy : B[h].n < x.n
    · have d3 : decide (cmpI B[h].n x.n < 0) = true := by rw [cmpI_neg]; simpa using hxy
      have h1' : ∀ t (h' : t < B.length), t < h + 1 → B[t].n < x.n := fun t h' h3 => by have := hmono1 t h' (by omega); omega
      generalize B[h] = y at *
      generalize pre ++ x :: (B ++ post) = l at *
      (repeat' (first | simp (maxSteps := 5000000) (implicitDefEqProofs := false) only [ruA, ruB, aEv, aBin, bin2, aConv, ASt.get, aget, ASt.put, ↓reduceIte, Nat.reduceLT, Nat.reduceEqDiff, eq_self, tyI_3, tyI_146, d1', hH, eH] | (with_reducible refine aIf_split (fun _ => ?_) (fun _ => ?_)) | (with_reducible refine aSel_split (fun _ => ?_) (fun _ => ?_)) | (with_reducible refine aGd_split (fun _ => ?_) (fun _ => ?_))))
      refine aDraw_held [] [0, 1, 2, 3, 4, 5, 6, 7, 8] (.exec 9 (.take 10 .done)) (by kernel_rfl) (by simp [ATab.get_cons]) ?_
      (repeat' (first | simp (maxSteps := 5000000) (implicitDefEqProofs := false) only [ruA, ruB, aEv, aTake, aLoad, aIndex, ASt.get, aget, ASt.put, ↓reduceIte, reduceCtorEq, Nat.reduceLT, Nat.reduceEqDiff, Nat.reduceAdd, eq_self, aTakes, aFrom, tyE_138, tyA_141, tyS_141, row_at, hia, hxa, hih2, hyh, encP] | (with_reducible refine aIf_split (fun _ => ?_) (fun _ => ?_)) | (with_reducible refine aSel_split (fun _ => ?_) (fun _ => ?_)) | (with_reducible refine aGd_split (fun _ => ?_) (fun _ => ?_))))
      refine callV hc ?_
      (repeat' (first | simp (maxSteps := 5000000) (implicitDefEqProofs := false) only [ruA, ruB, aEv, aBin, bin2, ASt.get, aget, ASt.put, ↓reduceIte, Nat.reduceLT, Nat.reduceEqDiff, eq_self, aTakeE, d3, eH1] | (with_reducible refine aIf_split (fun _ => ?_) (fun _ => ?_)) | (with_reducible refine aSel_split (fun _ => ?_) (fun _ => ?_)) | (with_reducible refine aGd_split (fun _ => ?_) (fun _ => ?_))))
      exact roundI (weak_cut1 (by (first | ((simp only [envIn, tabIn, envLt, tabLt, AObj.lt, AV.lt, AV.ltL, ruW, ASt.get, aget, ↓reduceIte, reduceCtorEq, Nat.reduceLT, Nat.reduceEqDiff, eq_self]) <;> (repeat' apply And.intro) <;> first | (rw [wrapK (by omega)]; done) | (simp; done) | omega) | fail))) ⟨h + 1, j, by omega, hjB, h1', h2, rfl⟩ (by simp only [slotN, ruW, ASt.get, aget, ↓reduceIte, Nat.reduceLT, Nat.reduceEqDiff, eq_self]; omega)
    · have d3 : decide (cmpI B[h].n x.n < 0) = false := by rw [cmpI_neg]; simpa using hxy
      have h2' : ∀ t (h' : t < B.length), h ≤ t → ¬ B[t].n < x.n := fun t h' h3 => by have := hmono2 t h' h3; omega
      generalize B[h] = y at *
      generalize pre ++ x :: (B ++ post) = l at *
      (repeat' (first | simp (maxSteps := 5000000) (implicitDefEqProofs := false) only [ruA, ruB, aEv, aBin, bin2, aConv, ASt.get, aget, ASt.put, ↓reduceIte, Nat.reduceLT, Nat.reduceEqDiff, eq_self, tyI_3, tyI_146, d1', hH, eH] | (with_reducible refine aIf_split (fun _ => ?_) (fun _ => ?_)) | (with_reducible refine aSel_split (fun _ => ?_) (fun _ => ?_)) | (with_reducible refine aGd_split (fun _ => ?_) (fun _ => ?_))))
      refine aDraw_held [] [0, 1, 2, 3, 4, 5, 6, 7, 8] (.exec 9 (.take 10 .done)) (by kernel_rfl) (by simp [ATab.get_cons]) ?_
      (repeat' (first | simp (maxSteps := 5000000) (implicitDefEqProofs := false) only [ruA, ruB, aEv, aTake, aLoad, aIndex, ASt.get, aget, ASt.put, ↓reduceIte, reduceCtorEq, Nat.reduceLT, Nat.reduceEqDiff, Nat.reduceAdd, eq_self, aTakes, aFrom, tyE_138, tyA_141, tyS_141, row_at, hia, hxa, hih2, hyh, encP] | (with_reducible refine aIf_split (fun _ => ?_) (fun _ => ?_)) | (with_reducible refine aSel_split (fun _ => ?_) (fun _ => ?_)) | (with_reducible refine aGd_split (fun _ => ?_) (fun _ => ?_))))
      refine callV hc ?_
      (repeat' (first | simp (maxSteps := 5000000) (implicitDefEqProofs := false) only [ruA, ruB, aEv, aBin, bin2, ASt.get, aget, ASt.put, ↓reduceIte, Nat.reduceLT, Nat.reduceEqDiff, eq_self, aTakeE, d3] | (with_reducible refine aIf_split (fun _ => ?_) (fun _ => ?_)) | (with_reducible refine aSel_split (fun _ => ?_) (fun _ => ?_)) | (with_reducible refine aGd_split (fun _ => ?_) (fun _ => ?_))))
      exact roundI (weak_cut1 (by (first | ((simp only [envIn, tabIn, envLt, tabLt, AObj.lt, AV.lt, AV.ltL, ruW, ASt.get, aget, ↓reduceIte, reduceCtorEq, Nat.reduceLT, Nat.reduceEqDiff, eq_self]) <;> (repeat' apply And.intro) <;> first | (rw [wrapK (by omega)]; done) | (simp; done) | omega) | fail))) ⟨i, h, by omega, by omega, h1, h2', rfl⟩ (by simp only [slotN, ruW, ASt.get, aget, ↓reduceIte, Nat.reduceLT, Nat.reduceEqDiff, eq_self]; omega)
  · obtain rfl : i = j := by omega
    have d1 : decide (((m + i : Nat) : Int) < ((m + i : Nat) : Int)) = false := by simp
    have d1' : decide (m + i < m + i) = false := by simp
    have hst0 : pre ++ x :: (B ++ post) = pre ++ B.take 0 ++ x :: (B.drop 0 ++ post) := by simp
    have hfin : T = pre ++ B.take i ++ x :: (B.drop i ++ post) := by
      rw [← hT, ins_first hB ht h1 h2]
      simp
    rw [hfin]
    have eI1 : IntKind.i64.wrap (((m + i : Nat) : Int) - 1) = ((a + i : Nat) : Int) := by rw [wrap_in (by omega) (by omega)]; omega
    (repeat' (first | simp (maxSteps := 5000000) (implicitDefEqProofs := false) only [ruA, ruB, aEv, aBin, bin2, ASt.get, aget, ASt.put, ↓reduceIte, Nat.reduceLT, Nat.reduceEqDiff, eq_self, d1'] | (with_reducible refine aIf_split (fun _ => ?_) (fun _ => ?_)) | (with_reducible refine aSel_split (fun _ => ?_) (fun _ => ?_)) | (with_reducible refine aGd_split (fun _ => ?_) (fun _ => ?_))))
    refine aLoop_of (fun st => ∃ q : Nat, q ≤ i ∧ st = ⟨220, [(0, .osl 0), (10, eI ((m + i : Nat) : Int)), (13, eI ((a + q : Nat) : Int))], [(0, some (.row 141 3 ((pre ++ B.take q ++ x :: (B.drop q ++ post)).map encP)))], 1⟩) (fun st => a + i - slotN st 13) ⟨_, (weak_cut1 (by (first | ((simp only [envIn, tabIn, envLt, tabLt, AObj.lt, AV.lt, ruW, ASt.get, aget, ↓reduceIte, reduceCtorEq, Nat.reduceLT, Nat.reduceEqDiff, eq_self, hst0, Nat.add_zero]) <;> (repeat' apply And.intro) <;> first | (rw [wrapK (by omega)]; done) | (simp; done) | omega) | fail))), 0, Nat.zero_le _, rfl⟩ ?_
    rintro _ ⟨q, hq, rfl⟩
    by_cases hlt2 : q < i
    · have d2 : decide (((a + q : Nat) : Int) < ((a + i : Nat) : Int)) = true := by simp only [decide_eq_true_eq]; omega
      have d2' : decide (a + q < a + i) = true := by simp only [decide_eq_true_eq]; omega
      have e3 : IntKind.i64.wrap (((a + q : Nat) : Int) + 1) = ((a + (q + 1) : Nat) : Int) := by rw [wrap_in (by omega) (by omega)]; omega
      have hqB : q < B.length := by omega
      have tB : B.take (q + 1) = B.take q ++ [B[q]] := List.take_succ_eq_append_getElem hqB
      have dB : B.drop q = B[q] :: B.drop (q + 1) := List.drop_eq_getElem_cons hqB
      have lB : (B.take q).length = q := by rw [List.length_take]; omega
      have hold : pre ++ B.take q ++ x :: (B.drop q ++ post) = (pre ++ B.take q) ++ x :: ([] ++ B[q] :: (B.drop (q + 1) ++ post)) := by rw [dB]; simp only [List.append_assoc, List.cons_append, List.nil_append]
      have hnew : pre ++ B.take (q + 1) ++ x :: (B.drop (q + 1) ++ post) = (pre ++ B.take q) ++ B[q] :: ([] ++ x :: (B.drop (q + 1) ++ post)) := by rw [tB]; simp only [List.append_assoc, List.cons_append, List.nil_append]
      have hsw := sw_app (X := pre ++ B.take q) (Y := []) (Z := B.drop (q + 1) ++ post) (a := x) (b := B[q]) (i := a + q) (j := a + (q + 1)) (by rw [List.length_append]; omega) (by rw [List.length_append]; simp; omega)
      obtain ⟨hi, hxi⟩ := getEl (show (pre ++ B.take q ++ x :: (B.drop q ++ post))[a + q]? = some x from get_mid (by rw [List.length_append]; omega))
      obtain ⟨hj, hyj⟩ := getEl (show (pre ++ B.take q ++ x :: (B.drop q ++ post))[a + (q + 1)]? = some B[q] from by
        rw [hold, show (pre ++ B.take q) ++ x :: ([] ++ B[q] :: (B.drop (q + 1) ++ post)) = ((pre ++ B.take q) ++ [x]) ++ B[q] :: (B.drop (q + 1) ++ post) by simp only [List.append_assoc, List.cons_append, List.nil_append]]
        exact get_mid (by rw [List.length_append, List.length_append]; simp; omega))
      rw [← hold, ← hnew] at hsw
      generalize B[q] = y at *
      generalize hmm : pre ++ B.take q ++ x :: (B.drop q ++ post) = l at *
      have hsm := sw_map hi hj
      rw [hsw, hxi, hyj] at hsm
      (repeat' (first | simp (maxSteps := 5000000) (implicitDefEqProofs := false) only [ruA, ruB, aEv, aBin, bin2, ASt.get, aget, ASt.put, ↓reduceIte, Nat.reduceLT, Nat.reduceEqDiff, eq_self, eI1, d2'] | (with_reducible refine aIf_split (fun _ => ?_) (fun _ => ?_)) | (with_reducible refine aSel_split (fun _ => ?_) (fun _ => ?_)) | (with_reducible refine aGd_split (fun _ => ?_) (fun _ => ?_))))
      refine aDraw_held [0] [0, 1, 2, 3, 4, 5, 6, 7, 8, 10, 11, 12] (.two 9 (.exec 13 (.take 14 (.exec 15 (.take 16 (.exec 17 .done))))) 13 (.exec 9 (.take 14 (.exec 15 (.take 16 (.exec 17 .done)))))) (by kernel_rfl) (by simp [ATab.get_cons]) ?_
      (repeat' (first | simp (maxSteps := 5000000) (implicitDefEqProofs := false) only [ruA, ruB, aEv, aTake, aLoad, aIndex, aBin, bin2, ASt.get, aget, ASt.put, aCells, oneC, oneCL, treeC, treeL, Value.oneCell', ↓reduceIte, reduceCtorEq, Nat.reduceLT, Nat.reduceEqDiff, Nat.reduceAdd, Nat.reduceLeDiff, eq_self, aExecS, aStoreB, aTakes, aTakeE, aMay, tyE_138, tyA_141, tyS_141, row_at, e3, hj, hi, hxi, hyj, encP, drop3, List.length_set] | (with_reducible refine aIf_split (fun _ => ?_) (fun _ => ?_)) | (with_reducible refine aSel_split (fun _ => ?_) (fun _ => ?_)) | (with_reducible refine aGd_split (fun _ => ?_) (fun _ => ?_)) | (with_reducible refine aDraw_quiet (by kernel_rfl) ?_) | (with_reducible apply And.intro)))
      all_goals first
        | rfl
        | omega
        | exact roundI (weak_cut1 (by (first | ((simp only [envIn, tabIn, envLt, tabLt, AObj.lt, AV.lt, ruW, ASt.get, aget, ↓reduceIte, reduceCtorEq, Nat.reduceLT, Nat.reduceEqDiff, eq_self, hsm]) <;> (repeat' apply And.intro) <;> first | (rw [wrapK (by omega)]; done) | (simp; done) | omega) | fail))) ⟨q + 1, by omega, rfl⟩ (by simp only [slotN, ruW, ASt.get, aget, ↓reduceIte, Nat.reduceLT, Nat.reduceEqDiff, eq_self]; omega)
        | trace_state
    · obtain rfl : q = i := by omega
      have d2 : decide (((a + q : Nat) : Int) < ((a + q : Nat) : Int)) = false := by simp
      have d2' : decide (a + q < a + q) = false := by simp
      (repeat' (first | simp (maxSteps := 5000000) (implicitDefEqProofs := false) only [ruA, ruB, aEv, aBin, bin2, ASt.get, aget, ASt.put, ↓reduceIte, reduceCtorEq, Nat.reduceLT, Nat.reduceEqDiff, eq_self, eI1, d2', aRetM_r] | (with_reducible refine aIf_split (fun _ => ?_) (fun _ => ?_)) | (with_reducible refine aSel_split (fun _ => ?_) (fun _ => ?_)) | (with_reducible refine aGd_split (fun _ => ?_) (fun _ => ?_)) | (with_reducible refine aDraw_quiet (by kernel_rfl) ?_)))
end
section
open Go.RowKit
set_option maxRecDepth 100000 in
set_option maxHeartbeats 8000000 in
theorem symTwo_M (g : FuncId) (hg : CmpOk g) (pre A post : List Pt) (x : Pt) (a m b : Nat) (ha : a = pre.length) (hm : m = a + A.length) (hb : b = m + 1) (hA : Srt A) (hA2 : 2 ≤ A.length) (ht : ∀ y ∈ A, y.t < x.t) (hl : pre.length + A.length + post.length ≤ 1000000) : AMut Tryz.prog 132 141 3 ((pre ++ A ++ x :: post).map encP) [eI (a : Int), eI (m : Int), eI (b : Int), .fn g []] ((pre ++ srt (A ++ [x]) ++ post).map encP) := by
  have e0 : IntKind.i64.wrap ((m : Int) - (a : Int)) = (A.length : Int) := by rw [wrap_in (by omega) (by omega)]; omega
  have d0 : ((A.length : Int) == 1) = false := by simp; omega
  have e0' : IntKind.i64.wrap ((b : Int) - (m : Int)) = 1 := by rw [wrap_in (by omega) (by omega)]; omega
  have d0' : ((1 : Int) == 1) = true := by decide
  obtain ⟨T, hT⟩ : ∃ T, pre ++ srt (A ++ [x]) ++ post = T := ⟨_, rfl⟩
  rw [hT]
  refine amut_of_code mixedT Tryz.func132 rfl (by decide) Tryz.ntmps132 Tryz.results132 rfl (by kernel_rfl) ?_
  (repeat' (first | simp (maxSteps := 5000000) (implicitDefEqProofs := false) only [ruA, ruB, aEv, aBin, bin2, ASt.get, aget, ASt.put, envOf, ↓reduceIte, Nat.reduceLT, Nat.reduceEqDiff, Nat.reduceAdd, eq_self, e0, d0, e0', d0'] | (with_reducible refine aIf_split (fun _ => ?_) (fun _ => ?_)) | (with_reducible refine aSel_split (fun _ => ?_) (fun _ => ?_)) | (with_reducible refine aGd_split (fun _ => ?_) (fun _ => ?_))))
  refine aLoop_of (fun st => ∃ i j : Nat, i ≤ j ∧ j ≤ A.length ∧ (∀ t (h : t < A.length), t < i → ¬ x.n < A[t].n) ∧ (∀ t (h : t < A.length), j ≤ t → x.n < A[t].n) ∧ st = ⟨220, [(0, .osl 0), (2, eI (m : Int)), (4, .fn g []), (14, eI ((a + i : Nat) : Int)), (15, eI ((a + j : Nat) : Int))], [(0, some (.row 141 3 ((pre ++ A ++ x :: post).map encP)))], 1⟩) (fun st => slotN st 15 - slotN st 14) ⟨_, (weak_cut1 (by (first | ((simp only [envIn, tabIn, envLt, tabLt, AObj.lt, AV.lt, AV.ltL, ruW, ASt.get, aget, ↓reduceIte, reduceCtorEq, Nat.reduceLT, Nat.reduceEqDiff, eq_self, hm, Nat.add_zero]) <;> (repeat' apply And.intro) <;> first | (rw [wrapK (by omega)]; done) | (simp; done) | omega) | fail))), 0, A.length, Nat.zero_le _, Nat.le_refl _, fun t h h2 => by omega, fun t h h2 => by omega, rfl⟩ ?_
  rintro _ ⟨i, j, hij, hjA, h1, h2, rfl⟩
  by_cases hlt : i < j
  · have d1 : decide (((a + i : Nat) : Int) < ((a + j : Nat) : Int)) = true := by simp only [decide_eq_true_eq]; omega
    have d1' : decide (a + i < a + j) = true := by simp only [decide_eq_true_eq]; omega
    have hH := half_in (a + i) (a + j) (by omega)
    obtain ⟨h, hh, hih, hhj⟩ : ∃ h, (a + i + (a + j)) / 2 = a + h ∧ i ≤ h ∧ h < j := ⟨(a + i + (a + j)) / 2 - a, by omega, by omega, by omega⟩
    rw [hh] at hH
    have eH : IntKind.i64.wrap ((a + h : Nat) : Int) = ((a + h : Nat) : Int) := wrap_in (by omega) (by omega)
    have eH1 : IntKind.i64.wrap (((a + h : Nat) : Int) + 1) = ((a + (h + 1) : Nat) : Int) := by rw [wrap_in (by omega) (by omega)]; omega
    have hhA : h < A.length := by omega
    obtain ⟨hia, hxa⟩ := getEl (show (pre ++ A ++ x :: post)[m]? = some x from get_mid (by rw [List.length_append]; omega))
    obtain ⟨hih2, hyh⟩ := getEl (show (pre ++ A ++ x :: post)[a + h]? = some A[h] from by
      rw [List.append_assoc, List.getElem?_append_right (by omega), List.getElem?_append_left (by omega), List.getElem?_eq_getElem (by omega)]
      congr 2
      omega)
    have hc := hg x A[h]
    have hmono1 : ∀ t (h' : t < A.length), t ≤ h → A[t].n ≤ A[h].n := fun t h' h3 => n_mono hA h3 hhA
    have hmono2 : ∀ t (h' : t < A.length), h ≤ t → A[h].n ≤ A[t].n := fun t h' h3 => n_mono hA h3 h'
    by_cases hxy : x.n < A[h].n
    · have d3 : decide (cmpI x.n A[h].n < 0) = true := by rw [cmpI_neg]; simpa using hxy
      have h2' : ∀ t (h' : t < A.length), h ≤ t → x.n < A[t].n := fun t h' h3 => by have := hmono2 t h' h3; omega
      generalize A[h] = y at *
      generalize pre ++ A ++ x :: post = l at *
      (repeat' (first | simp (maxSteps := 5000000) (implicitDefEqProofs := false) only [ruA, ruB, aEv, aBin, bin2, aConv, ASt.get, aget, ASt.put, ↓reduceIte, Nat.reduceLT, Nat.reduceEqDiff, eq_self, tyI_3, tyI_146, d1', hH, eH] | (with_reducible refine aIf_split (fun _ => ?_) (fun _ => ?_)) | (with_reducible refine aSel_split (fun _ => ?_) (fun _ => ?_)) | (with_reducible refine aGd_split (fun _ => ?_) (fun _ => ?_))))
      refine aDraw_held [] [0, 1, 2, 3, 4, 5, 6, 7, 8] (.exec 9 (.take 10 (.take 11 .done))) (by kernel_rfl) (by simp [ATab.get_cons]) ?_
      (repeat' (first | simp (maxSteps := 5000000) (implicitDefEqProofs := false) only [ruA, ruB, aEv, aTake, aLoad, aIndex, ASt.get, aget, ASt.put, ↓reduceIte, reduceCtorEq, Nat.reduceLT, Nat.reduceEqDiff, Nat.reduceAdd, eq_self, aTakes, aFrom, tyE_138, tyA_141, tyS_141, row_at, hia, hxa, hih2, hyh, encP] | (with_reducible refine aIf_split (fun _ => ?_) (fun _ => ?_)) | (with_reducible refine aSel_split (fun _ => ?_) (fun _ => ?_)) | (with_reducible refine aGd_split (fun _ => ?_) (fun _ => ?_))))
      refine callV hc ?_
      (repeat' (first | simp (maxSteps := 5000000) (implicitDefEqProofs := false) only [ruA, ruB, aEv, aBin, bin2, aUn, un1, ASt.get, aget, ASt.put, ↓reduceIte, Nat.reduceLT, Nat.reduceEqDiff, eq_self, aTakeE, d3] | (with_reducible refine aIf_split (fun _ => ?_) (fun _ => ?_)) | (with_reducible refine aSel_split (fun _ => ?_) (fun _ => ?_)) | (with_reducible refine aGd_split (fun _ => ?_) (fun _ => ?_))))
      exact roundI (weak_cut1 (by (first | ((simp only [envIn, tabIn, envLt, tabLt, AObj.lt, AV.lt, AV.ltL, ruW, ASt.get, aget, ↓reduceIte, reduceCtorEq, Nat.reduceLT, Nat.reduceEqDiff, eq_self]) <;> (repeat' apply And.intro) <;> first | (rw [wrapK (by omega)]; done) | (simp; done) | omega) | fail))) ⟨i, h, by omega, by omega, h1, h2', rfl⟩ (by simp only [slotN, ruW, ASt.get, aget, ↓reduceIte, Nat.reduceLT, Nat.reduceEqDiff, eq_self]; omega)
    · have d3 : decide (cmpI x.n A[h].n < 0) = false := by rw [cmpI_neg]; simpa using hxy
      have h1' : ∀ t (h' : t < A.length), t < h + 1 → ¬ x.n < A[t].n := fun t h' h3 => by have := hmono1 t h' (by omega); omega
      generalize A[h] = y at *
      generalize pre ++ A ++ x :: post = l at *
      (repeat' (first | simp (maxSteps := 5000000) (implicitDefEqProofs := false) only [ruA, ruB, aEv, aBin, bin2, aConv, ASt.get, aget, ASt.put, ↓reduceIte, Nat.reduceLT, Nat.reduceEqDiff, eq_self, tyI_3, tyI_146, d1', hH, eH] | (with_reducible refine aIf_split (fun _ => ?_) (fun _ => ?_)) | (with_reducible refine aSel_split (fun _ => ?_) (fun _ => ?_)) | (with_reducible refine aGd_split (fun _ => ?_) (fun _ => ?_))))
      refine aDraw_held [] [0, 1, 2, 3, 4, 5, 6, 7, 8] (.exec 9 (.take 10 (.take 11 .done))) (by kernel_rfl) (by simp [ATab.get_cons]) ?_
      (repeat' (first | simp (maxSteps := 5000000) (implicitDefEqProofs := false) only [ruA, ruB, aEv, aTake, aLoad, aIndex, ASt.get, aget, ASt.put, ↓reduceIte, reduceCtorEq, Nat.reduceLT, Nat.reduceEqDiff, Nat.reduceAdd, eq_self, aTakes, aFrom, tyE_138, tyA_141, tyS_141, row_at, hia, hxa, hih2, hyh, encP] | (with_reducible refine aIf_split (fun _ => ?_) (fun _ => ?_)) | (with_reducible refine aSel_split (fun _ => ?_) (fun _ => ?_)) | (with_reducible refine aGd_split (fun _ => ?_) (fun _ => ?_))))
      refine callV hc ?_
      (repeat' (first | simp (maxSteps := 5000000) (implicitDefEqProofs := false) only [ruA, ruB, aEv, aBin, bin2, aUn, un1, ASt.get, aget, ASt.put, ↓reduceIte, Nat.reduceLT, Nat.reduceEqDiff, eq_self, aTakeE, d3, eH1] | (with_reducible refine aIf_split (fun _ => ?_) (fun _ => ?_)) | (with_reducible refine aSel_split (fun _ => ?_) (fun _ => ?_)) | (with_reducible refine aGd_split (fun _ => ?_) (fun _ => ?_))))
      exact roundI (weak_cut1 (by (first | ((simp only [envIn, tabIn, envLt, tabLt, AObj.lt, AV.lt, AV.ltL, ruW, ASt.get, aget, ↓reduceIte, reduceCtorEq, Nat.reduceLT, Nat.reduceEqDiff, eq_self]) <;> (repeat' apply And.intro) <;> first | (rw [wrapK (by omega)]; done) | (simp; done) | omega) | fail))) ⟨h + 1, j, by omega, hjA, h1', h2, rfl⟩ (by simp only [slotN, ruW, ASt.get, aget, ↓reduceIte, Nat.reduceLT, Nat.reduceEqDiff, eq_self]; omega)
  · obtain rfl : i = j := by omega
    have d1 : decide (((a + i : Nat) : Int) < ((a + i : Nat) : Int)) = false := by simp
    have d1' : decide (a + i < a + i) = false := by simp
    have hst0 : pre ++ A ++ x :: post = pre ++ A.take A.length ++ x :: (A.drop A.length ++ post) := by simp
    have hfin : T = pre ++ A.take i ++ x :: (A.drop i ++ post) := by
      rw [← hT, ins_last hA ht h1 h2]
      simp
    rw [hfin]
    (repeat' (first | simp (maxSteps := 5000000) (implicitDefEqProofs := false) only [ruA, ruB, aEv, aBin, bin2, ASt.get, aget, ASt.put, ↓reduceIte, Nat.reduceLT, Nat.reduceEqDiff, eq_self, d1'] | (with_reducible refine aIf_split (fun _ => ?_) (fun _ => ?_)) | (with_reducible refine aSel_split (fun _ => ?_) (fun _ => ?_)) | (with_reducible refine aGd_split (fun _ => ?_) (fun _ => ?_))))
    refine aLoop_of (fun st => ∃ q : Nat, i ≤ q ∧ q ≤ A.length ∧ st = ⟨220, [(0, .osl 0), (14, eI ((a + i : Nat) : Int)), (17, eI ((a + q : Nat) : Int))], [(0, some (.row 141 3 ((pre ++ A.take q ++ x :: (A.drop q ++ post)).map encP)))], 1⟩) (fun st => slotN st 17) ⟨_, (weak_cut1 (by (first | ((simp only [envIn, tabIn, envLt, tabLt, AObj.lt, AV.lt, ruW, ASt.get, aget, ↓reduceIte, reduceCtorEq, Nat.reduceLT, Nat.reduceEqDiff, eq_self, hst0, hm]) <;> (repeat' apply And.intro) <;> first | (rw [wrapK (by omega)]; done) | (simp; done) | omega) | fail))), A.length, hjA, Nat.le_refl _, rfl⟩ ?_
    rintro _ ⟨q, hiq, hqA, rfl⟩
    cases q with
    | zero =>
      obtain rfl : i = 0 := by omega
      have d2 : decide (((a + 0 : Nat) : Int) < ((a + 0 : Nat) : Int)) = false := by simp
      have d2' : decide (a < a) = false := by simp
      have d2'' : decide ((a : Int) < (a : Int)) = false := by simp
      (repeat' (first | simp (maxSteps := 5000000) (implicitDefEqProofs := false) only [ruA, ruB, aEv, aBin, bin2, ASt.get, aget, ASt.put, ↓reduceIte, reduceCtorEq, Nat.reduceLT, Nat.reduceEqDiff, eq_self, d2', aRetM_r] | (with_reducible refine aIf_split (fun _ => ?_) (fun _ => ?_)) | (with_reducible refine aSel_split (fun _ => ?_) (fun _ => ?_)) | (with_reducible refine aGd_split (fun _ => ?_) (fun _ => ?_)) | (with_reducible refine aDraw_quiet (by kernel_rfl) ?_)))
    | succ q =>
      by_cases hlt2 : i < q + 1
      · have d2 : decide (((a + i : Nat) : Int) < ((a + (q + 1) : Nat) : Int)) = true := by simp only [decide_eq_true_eq]; omega
        have d2' : decide (a + i < a + (q + 1)) = true := by simp only [decide_eq_true_eq]; omega
        have e3 : IntKind.i64.wrap (((a + (q + 1) : Nat) : Int) - 1) = ((a + q : Nat) : Int) := by rw [wrap_in (by omega) (by omega)]; omega
        have hqA2 : q < A.length := by omega
        have tA : A.take (q + 1) = A.take q ++ [A[q]] := List.take_succ_eq_append_getElem hqA2
        have dA : A.drop q = A[q] :: A.drop (q + 1) := List.drop_eq_getElem_cons hqA2
        have lA : (A.take q).length = q := by rw [List.length_take]; omega
        have hold : pre ++ A.take (q + 1) ++ x :: (A.drop (q + 1) ++ post) = (pre ++ A.take q) ++ A[q] :: ([] ++ x :: (A.drop (q + 1) ++ post)) := by rw [tA]; simp only [List.append_assoc, List.cons_append, List.nil_append]
        have hnew : pre ++ A.take q ++ x :: (A.drop q ++ post) = (pre ++ A.take q) ++ x :: ([] ++ A[q] :: (A.drop (q + 1) ++ post)) := by rw [dA]; simp only [List.append_assoc, List.cons_append, List.nil_append]
        have hsw := sw_app (X := pre ++ A.take q) (Y := []) (Z := A.drop (q + 1) ++ post) (a := A[q]) (b := x) (i := a + q) (j := a + (q + 1)) (by rw [List.length_append]; omega) (by rw [List.length_append]; simp; omega)
        obtain ⟨hj, hxj⟩ := getEl (show (pre ++ A.take (q + 1) ++ x :: (A.drop (q + 1) ++ post))[a + (q + 1)]? = some x from get_mid (by rw [List.length_append, List.length_take]; omega))
        obtain ⟨hi, hyi⟩ := getEl (show (pre ++ A.take (q + 1) ++ x :: (A.drop (q + 1) ++ post))[a + q]? = some A[q] from by rw [hold]; exact get_mid (by rw [List.length_append]; omega))
        rw [← hold, ← hnew, sw_comm _ (by omega)] at hsw
        generalize A[q] = y at *
        generalize hmm : pre ++ A.take (q + 1) ++ x :: (A.drop (q + 1) ++ post) = l at *
        have hsm := sw_map hj hi
        rw [hsw, hxj, hyi] at hsm
        (repeat' (first | simp (maxSteps := 5000000) (implicitDefEqProofs := false) only [ruA, ruB, aEv, aBin, bin2, ASt.get, aget, ASt.put, ↓reduceIte, Nat.reduceLT, Nat.reduceEqDiff, eq_self, d2'] | (with_reducible refine aIf_split (fun _ => ?_) (fun _ => ?_)) | (with_reducible refine aSel_split (fun _ => ?_) (fun _ => ?_)) | (with_reducible refine aGd_split (fun _ => ?_) (fun _ => ?_))))
        refine aDraw_held [0] [0, 1, 2, 3, 4, 5, 6, 7, 8, 10, 11, 12] (.two 9 (.exec 13 (.take 14 (.exec 15 (.take 16 (.exec 17 .done))))) 13 (.exec 9 (.take 14 (.exec 15 (.take 16 (.exec 17 .done)))))) (by kernel_rfl) (by simp [ATab.get_cons]) ?_
        (repeat' (first | simp (maxSteps := 5000000) (implicitDefEqProofs := false) only [ruA, ruB, aEv, aTake, aLoad, aIndex, aBin, bin2, ASt.get, aget, ASt.put, aCells, oneC, oneCL, treeC, treeL, Value.oneCell', ↓reduceIte, reduceCtorEq, Nat.reduceLT, Nat.reduceEqDiff, Nat.reduceAdd, Nat.reduceLeDiff, eq_self, aExecS, aStoreB, aTakes, aTakeE, aMay, tyE_138, tyA_141, tyS_141, row_at, e3, hj, hi, hxj, hyi, encP, drop3, List.length_set] | (with_reducible refine aIf_split (fun _ => ?_) (fun _ => ?_)) | (with_reducible refine aSel_split (fun _ => ?_) (fun _ => ?_)) | (with_reducible refine aGd_split (fun _ => ?_) (fun _ => ?_)) | (with_reducible refine aDraw_quiet (by kernel_rfl) ?_) | (with_reducible apply And.intro)))
        all_goals first
          | rfl
          | omega
          | exact roundI (weak_cut1 (by (first | ((simp only [envIn, tabIn, envLt, tabLt, AObj.lt, AV.lt, ruW, ASt.get, aget, ↓reduceIte, reduceCtorEq, Nat.reduceLT, Nat.reduceEqDiff, eq_self, hsm]) <;> (repeat' apply And.intro) <;> first | (rw [wrapK (by omega)]; done) | (simp; done) | omega) | fail))) ⟨q, by omega, by omega, rfl⟩ (by simp only [slotN, ruW, ASt.get, aget, ↓reduceIte, Nat.reduceLT, Nat.reduceEqDiff, eq_self]; omega)
          | trace_state
      · obtain rfl : i = q + 1 := by omega
        have d2 : decide (((a + (q + 1) : Nat) : Int) < ((a + (q + 1) : Nat) : Int)) = false := by simp
        have d2' : decide (a + (q + 1) < a + (q + 1)) = false := by simp
        (repeat' (first | simp (maxSteps := 5000000) (implicitDefEqProofs := false) only [ruA, ruB, aEv, aBin, bin2, ASt.get, aget, ASt.put, ↓reduceIte, reduceCtorEq, Nat.reduceLT, Nat.reduceEqDiff, eq_self, d2', aRetM_r] | (with_reducible refine aIf_split (fun _ => ?_) (fun _ => ?_)) | (with_reducible refine aSel_split (fun _ => ?_) (fun _ => ?_)) | (with_reducible refine aGd_split (fun _ => ?_) (fun _ => ?_)) | (with_reducible refine aDraw_quiet (by kernel_rfl) ?_)))
end
end Go.Proofs.YtbahakgmbceflaaGreat
