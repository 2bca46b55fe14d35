/-
  THE WALKS of nest, of warderref10 and of the statements of layer 10.
-/
import Derived.Test.YtfocnmkbnccilaaNestSpec
import Derived.Test.YtfocnmkbnccilaaRep
import Derived.Test.YtfocnmkbnccilaaLaw
import Derived.WalkSpells
import Derived.ScopeJumps
import Derived.WalkMore
import Derived.WalkLawsBesides
import Derived.Handy
import Derived.Deep.DeepCutAuto
import Derived.Deep.CutBlock
import Derived.BigQuiet
import Derived.Deep.QuietTactic
set_option linter.unusedVariables false
set_option linter.unusedSimpArgs false
namespace Go.Proofs.Ytfocnmkbnccilaa
open Go.RowKit

/-- a slice of ints reads as a list -/
def RI (w : World) (v : Value) (l : List Int) : Prop := (sliceR (intR .i64)).one w (fun b => b < w.heap.size) v l
theorem RI.below {w w' : World} {v : Value} {l : List Int} (h : RI w v l) (hb : Below w.heap.size w w') : RI w' v l := slice_mono (slice_below h hb fun b h => h) fun b h => Nat.lt_of_lt_of_le h hb.size
theorem RI.form {w : World} {v : Value} {l : List Int} (h : RI w v l) : ∃ A c, v = .slice A l.length c ∧ l.length ≤ c := by
  obtain ⟨A, c, h1, h2, _⟩ := slice_form h
  exact ⟨A, c, h1, h2⟩
theorem RI.at_ {w : World} {A : Option Addr} {n c : Nat} {l : List Int} (h : RI w (.slice A n c) l) {k : Nat} (hk : k < l.length) :
    ∃ b o, A = some ⟨b, o, none⟩ ∧ w.cell? ⟨b, o + k, none⟩ = some (.int .i64 (l.getD k 0)) ∧ -9223372036854775808 ≤ l.getD k 0 ∧ l.getD k 0 ≤ 9223372036854775807 := by
  obtain ⟨b, o, rfl, hb, _⟩ := slice_some h (by omega)
  have := ints_at h hk
  rw [List.getD, List.getElem?_eq_getElem hk]
  exact ⟨b, o, rfl, this⟩
theorem RI.own {w : World} {base : Nat} {v : Value} {n : Nat} {l : List Int} (h : w.ownsRow base 3 1 v n (l.map (Value.int .i64))) (hx : ∀ x ∈ l, -9223372036854775808 ≤ x ∧ x ≤ 9223372036854775807) : RI w v l :=
  slice_mono (slice_own1 (r := intR .i64) _ h rfl fun a ha => ⟨rfl, wf_i64_mk (hx a ha).1 (hx a ha).2⟩) fun b h => h.2

theorem intInfo : (Try.prog.info? 3).map (fun i => (i.zero, i.size, i.bytes)) = some (some (.int .i64 0), 1, 8) := by kernel_rfl
theorem one_new (w : World) (n : Int) (t : TypeId) : ∀ j u, [Value.int .i64 n][j]? = some u → (w.alloc (.cells #[.int .i64 n] t)).cell? ((⟨w.heap.size, 0, none⟩ : Addr).add j) = some u := cells_new w [.int .i64 n] t
theorem one_one (n : Int) : ∀ u ∈ [Value.int .i64 n], u.oneCell' = true := by intro u hu; simp at hu; subst hu; rfl

set_option maxHeartbeats 400000 in
theorem index_any (l : List Int) (v : Value) (x : Int) (w : World) (hl : l.length ≤ 4294967296) (hv : RI w v l) :
    Calls Try.prog 119 #[v, .int .i64 x] w fun e w' => e = .returned (.int .i64 (((l.findIdx? (· == x)).map fun (n : Nat) => (n : Int)).getD (-1))) ∧ w = w' := by
  obtain ⟨A, c, rfl, hc⟩ := hv.form
  go_enter Try.func119, Try.ntmps119
  go_wp2_with fail
  go_loop [8] (fun i => ∃ k : Nat, k ≤ l.length ∧ i = .int .i64 (k : Int) ∧ ∀ y ∈ l.take k, ¬ y = x) (fun i => l.length - (intOf i).toNat)
  case atStart => exact ⟨0, Nat.zero_le _, rfl, fun y hy => by simp at hy⟩
  case round =>
    obtain ⟨k, hk, rfl, hno⟩ := hrel
    have Hno := hide hno
    clear hno
    by_cases hlt : k < l.length
    · obtain ⟨b, o, rfl, hcell, hb1, hb2⟩ := hv.at_ hlt
      have htk := hide (List.take_succ_eq_append_getElem hlt)
      have hgk : l.getD k 0 = l[k] := by rw [List.getD, List.getElem?_eq_getElem hlt]; rfl
      rw [hgk] at hcell
      have hfi : (∀ y ∈ l.take k, ¬ y = x) → l[k] = x → l.findIdx? (· == x) = some k := by
        intro h1 h2
        rw [List.findIdx?_eq_some_iff_getElem]
        refine ⟨hlt, by simpa using h2, fun j hj => ?_⟩
        have := h1 l[j] (List.mem_take_iff_getElem.2 ⟨j, by omega, rfl⟩)
        simpa using this
      have Hfi := hide hfi
      clear hgk hfi
      generalize l[k] = y at *
      by_cases hy : y = x
      · have h1 : (x == y) = true := by simp [hy]
        have HE := hide (Hfi.out Hno.out hy)
        clear hy
        go_wp2_with fail
        go_ret
        rw [HE.out]
        exact ⟨rfl, rfl⟩
      · have h1 : (x == y) = false := by simp; exact fun e => hy e.symm
        go_wp2_with fail
        go_round
        case rel =>
          refine ⟨k + 1, by omega, by go_num, fun z hz => ?_⟩
          rw [htk.out] at hz
          rcases List.mem_append.1 hz with hz | hz
          · exact Hno.out z hz
          · simp at hz; subst hz; exact hy
        case measure => simp [intOf]; omega
    · obtain rfl : k = l.length := by omega
      go_wp2_with fail
      go_ret
      have : l.findIdx? (· == x) = none := by
        rw [List.findIdx?_eq_none_iff]
        intro y hy
        have := Hno.out y (by rwa [List.take_length])
        simpa using this
      rw [this]
      exact ⟨rfl, rfl⟩

set_option maxHeartbeats 400000 in
theorem contains_any (l : List Int) (v : Value) (x : Int) (w : World) (hl : l.length ≤ 4294967296) (hv : RI w v l) :
    Calls Try.prog 102 #[v, .int .i64 x] w fun e w' => e = .returned (.bool (decide (x ∈ l))) ∧ w = w' := by
  have hcase : (∃ n : Nat, l.findIdx? (· == x) = some n ∧ x ∈ l) ∨ (l.findIdx? (· == x) = none ∧ x ∉ l) := by
    cases h : l.findIdx? (· == x) with
    | none =>
      right
      rw [List.findIdx?_eq_none_iff] at h
      exact ⟨rfl, fun hx => by have := h x hx; simp at this⟩
    | some n =>
      left
      rw [List.findIdx?_eq_some_iff_getElem] at h
      obtain ⟨h1, h2, _⟩ := h
      simp at h2
      exact ⟨n, rfl, by rw [← h2]; exact List.getElem_mem _⟩
  have hix := index_any l v x w hl hv
  rcases hcase with ⟨n, h1, h2⟩ | ⟨h1, h2⟩
  · rw [h1] at hix
    have Hix := hide hix
    clear hix h1
    go_enter Try.func102, Try.ntmps102
    go_wp2_with (go_at_call 119; refine Hix.out.mono ?_; rintro e w' ⟨rfl, rfl⟩; simp only [Option.map_some, Option.getD_some])
    go_ret
    exact ⟨by simp [h2], rfl⟩
  · rw [h1] at hix
    have Hix := hide hix
    clear hix h1
    go_enter Try.func102, Try.ntmps102
    go_wp2_with (go_at_call 119; refine Hix.out.mono ?_; rintro e w' ⟨rfl, rfl⟩; simp only [Option.map_none, Option.getD_none])
    go_ret
    exact ⟨by simp [h2], rfl⟩

/-- what nest.in hands back -/
def InPost (l : List Int) (i : Int) (w : World) (e : Ending) (w' : World) : Prop := (par l i = -1 ∧ e = .returned (.tuple #[.int .i64 0, .bool false]) ∨ isAt l (par l i) ∧ e = .returned (.tuple #[.int .i64 (par l i), .bool true])) ∧ w = w'
set_option maxHeartbeats 400000 in
theorem in_any (l : List Int) (v : Value) (i : Int) (w : World) (hl : l.length ≤ 4294967296) (hv : RI w v l) :
    Calls Try.prog 120 #[v, .int .i64 i] w (InPost l i w) := by
  obtain ⟨A, c, rfl, hc⟩ := hv.form
  by_cases h1 : isAt l i
  · obtain ⟨h1a, h1b⟩ := h1
    obtain ⟨k, rfl⟩ := Int.eq_ofNat_of_zero_le h1a
    have hk : k < l.length := by omega
    obtain ⟨b, o, rfl, hcell, hb1, hb2⟩ := hv.at_ hk
    have hp : par l (k : Int) = norm l (l.getD k 0) := by unfold par; rw [if_pos ⟨h1a, h1b⟩]; simp
    have hn := norm_cases l (l.getD k 0)
    rw [← hp] at hn
    have Hn := hide hn
    clear hn hp
    generalize l.getD k 0 = y at *
    by_cases h2 : 0 ≤ y
    · by_cases h3 : y < (l.length : Int)
      · have e : par l k = y := by
          rcases Hn.out with ⟨_, e⟩ | ⟨h, _⟩
          · exact e
          · exact absurd ⟨h2, h3⟩ h
        have E := hide e
        clear e
        go_enter Try.func120, Try.ntmps120
        go_wp2_with fail
        go_ret2
        refine ⟨.inr ⟨?_, ?_⟩, rfl⟩
        · rw [E.out]; exact ⟨h2, h3⟩
        · rw [E.out]; rfl
      · have e : par l k = -1 := by
          rcases Hn.out with ⟨h, _⟩ | ⟨_, e⟩
          · exact absurd h.2 h3
          · exact e
        have E := hide e
        clear e
        go_enter Try.func120, Try.ntmps120
        go_wp2_with fail
        go_ret2
        exact ⟨.inl ⟨E.out, rfl⟩, rfl⟩
    · have e : par l k = -1 := by
        rcases Hn.out with ⟨h, _⟩ | ⟨_, e⟩
        · exact absurd h.1 h2
        · exact e
      have E := hide e
      clear e
      go_enter Try.func120, Try.ntmps120
      go_wp2_with fail
      go_ret2
      exact ⟨.inl ⟨E.out, rfl⟩, rfl⟩
  · have e : par l i = -1 := by unfold par; rw [if_neg h1]
    have E := hide e
    clear e
    by_cases h2 : 0 ≤ i
    · have h3 : (l.length : Int) ≤ i := by
        unfold isAt at h1; omega
      go_enter Try.func120, Try.ntmps120
      go_wp2_with fail
      go_ret2
      exact ⟨.inl ⟨E.out, rfl⟩, rfl⟩
    · go_enter Try.func120, Try.ntmps120
      go_wp2_with fail
      go_ret2
      exact ⟨.inl ⟨E.out, rfl⟩, rfl⟩


/-- what a function that makes a list of ints hands back -/
def ListPost (L : List Int) (w : World) (e : Ending) (w' : World) : Prop := ∃ v, e = .returned v ∧ w'.ownsRow w.heap.size 3 1 v L.length (L.map (Value.int .i64)) ∧ Below w.heap.size w w'

theorem in_no (l : List Int) (v : Value) (i : Int) (w : World) (hl : l.length ≤ 4294967296) (hv : RI w v l) (h : par l i = -1) :
    Calls Try.prog 120 #[v, .int .i64 i] w fun e w' => e = .returned (.tuple #[.int .i64 0, .bool false]) ∧ w = w' :=
  (in_any l v i w hl hv).mono fun e w' ⟨hh, hw⟩ => by
    rcases hh with ⟨_, he⟩ | ⟨hat, _⟩
    · exact ⟨he, hw⟩
    · rw [h] at hat; exact absurd hat.1 (by omega)
theorem in_yes (l : List Int) (v : Value) (i y : Int) (w : World) (hl : l.length ≤ 4294967296) (hv : RI w v l) (h : par l i = y) (hy : isAt l y) :
    Calls Try.prog 120 #[v, .int .i64 i] w fun e w' => e = .returned (.tuple #[.int .i64 y, .bool true]) ∧ w = w' :=
  (in_any l v i w hl hv).mono fun e w' ⟨hh, hw⟩ => by
    rcases hh with ⟨hp, _⟩ | ⟨hat, he⟩
    · rw [h] at hp; exact absurd hy.1 (by omega)
    · rw [h] at he; exact ⟨he, hw⟩

def lenOf : Value → Nat | .slice _ n _ => n | _ => 0
/-- a scope that is gone through from a label again and again: what holds at the label suffices -/
theorem wp_scope_label {P : Program} {a : Act} {w : World} {Q : Exit → Act → World → Prop} {c X : Code} (l : Nat) (J : Act → World → Prop) (μ : Act → World → Nat) (hf : findLabel c l = some (Code.skip.seq X))
    (pass : ∀ a w, J a w → X.wp P (Exit.jump l (fun a' w' => J a' w' ∧ μ a' w' < μ a w) Q) a w)
    (first : (∀ a w, J a w → X.wp P (Exit.jump l J Q) a w) → c.wp P (Exit.jump l J Q) a w) : (Code.scope c).wp P Q a w := by
  refine wp_scope_jumps l J μ hf (first fun a w h => wp_mono (pass a w h) ?_) (fun a w h => ?_)
  · intro e a' w' hq
    cases e with
    | goto l' => exact ⟨hq.1, hq.2.1⟩
    | normal => exact hq
    | exit id => exact hq
    | ret => exact hq
    | panic ch => exact hq
    | outgrown => exact hq
  · exact wp_seq (wp_skip (pass a w h))

set_option maxHeartbeats 1000000 in
theorem above_any (l : List Int) (v : Value) (i : Int) (w : World) (hl : l.length ≤ 1073741824) (hv : RI w v l) :
    Calls Try.prog 103 #[v, .int .i64 i] w (ListPost (aboveL l i) w) := by
  obtain ⟨i0, hi0, hz0, hz1, hz2⟩ := info_parts intInfo
  have hl : l.length ≤ 4294967296 := by omega
  obtain ⟨A, c, rfl, hc⟩ := hv.form
  go_enter Try.func103, Try.ntmps103
  go_wp2_with fail
  refine wp_scope_label 0 (fun a' w' => ∃ (m : Nat) (q : Int) (out : List Int) (v' : Value) (u7 u8 u9 u10 u11 u12 u13 u14 u15 u16 u17 u18 u19 u20 u21 u22 u23 u24 u25 u26 u27 u28 u29 u30 u31 u32 u33 : Value),
      a' = { tmps := #[.slice A l.length c, .int .i64 i, undef, undef, .slice none 0 0, v', .int .i64 q, u7, u8, u9, u10, u11, u12, u13, u14, u15, u16, u17, u18, u19, u20, u21, u22, u23, u24, u25, u26, u27, u28, u29, u30, u31, u32, u33], defers := [] } ∧
      UpAt l i m q out ∧ w'.ownsRow w.heap.size 3 1 v' out.length (out.map (Value.int .i64)) ∧ Below w.heap.size w w') (fun a' w' => l.length + 1 - lenOf (a'.tmps.getD 5 undef)) (by rfl) ?_ ?_
  · rintro a' w1 ⟨m, q, out, v', u7, u8, u9, u10, u11, u12, u13, u14, u15, u16, u17, u18, u19, u20, u21, u22, u23, u24, u25, u26, u27, u28, u29, u30, u31, u32, u33, rfl, hup, hown, hb⟩
    have hat := hup.at_
    have hroom := hup.room
    have hlen := hup.len
    have hri : RI w1 v' out := RI.own hown (fun x hx => by have := hat x hx; unfold isAt at this; omega)
    have hl1 : out.length ≤ 4294967296 := by omega
    have hv1 := hv.below hb
    obtain ⟨A', c', rfl, hc'⟩ := hri.form
    have Hstop := hide (hup.stop)
    have Hnext := hide (hup.next)
    have Hlen := hide hlen
    have Hat := hide hat
    clear hat hlen
    rcases par_at l q with hp | hp
    · have hin := in_no l _ q w1 hl hv1 hp
      have Hin := hide hin
      have E := hide (Hstop.out (.inl hp))
      clear hin hp
      go_wp2_with (go_at_call 120; refine Hin.out.mono ?_; rintro e w2 ⟨rfl, rfl⟩)
      simp only [Exit.jump]
      go_ret
      rw [← E.out]
      exact ⟨_, rfl, hown, hb⟩
    · have hin := in_yes l _ q (par l q) w1 hl hv1 rfl hp
      have hpr : 0 ≤ par l q ∧ par l q < (l.length : Int) := hp
      have Hin := hide hin
      have hs1 : par l q = i → out = aboveL l i := fun h => Hstop.out (.inr (.inl h))
      have hs2 : par l q ∈ out → out = aboveL l i := fun h => Hstop.out (.inr (.inr h))
      have hs3 : par l q ≠ i → par l q ∉ out → UpAt l i (m + 1) (par l q) (out ++ [par l q]) ∧ m + 1 ≤ l.length := fun h1 h2 => Hnext.out (fun hh => by
        rcases hh with hh | hh | hh
        · have := hp.1; omega
        · exact h1 hh
        · exact h2 hh)
      have Hs1 := hide hs1
      have Hs2 := hide hs2
      have Hs3 := hide hs3
      clear hin hp hs1 hs2 hs3 Hstop Hnext
      generalize par l q = y at *
      cases h1 : (y == i) with
      | true =>
        have E := hide (Hs1.out (by simpa using h1))
        go_wp2_with (go_at_call 120; refine Hin.out.mono ?_; rintro e w2 ⟨rfl, rfl⟩)
        simp only [Exit.jump]
        go_ret
        rw [← E.out]
        exact ⟨_, rfl, hown, hb⟩
      | false =>
        have hne : y ≠ i := by simpa using h1
        have hcn := contains_any out _ y w1 hl1 hri
        by_cases h2 : y ∈ out
        · rw [show decide (y ∈ out) = true from decide_eq_true h2] at hcn
          have Hcn := hide hcn
          have E := hide (Hs2.out h2)
          clear hcn h2 hne
          go_wp2_with (first
            | (go_at_call 120; refine Hin.out.mono ?_; rintro e w2 ⟨rfl, rfl⟩)
            | (go_at_call 102; refine Hcn.out.mono ?_; rintro e w2 ⟨rfl, rfl⟩))
          simp only [Exit.jump]
          go_ret
          rw [← E.out]
          exact ⟨_, rfl, hown, hb⟩
        · rw [show decide (y ∈ out) = false from decide_eq_false h2] at hcn
          have Hcn := hide hcn
          have E := hide (Hs3.out hne h2)
          clear hcn h2 hne
          have hB := hb.size
          go_wp2_with (first
            | (go_at_call 120; refine Hin.out.mono ?_; rintro e w2 ⟨rfl, rfl⟩)
            | (go_at_call 102; refine Hcn.out.mono ?_; rintro e w2 ⟨rfl, rfl⟩)
            | (at_builtin; refine wpList_append_own _ rfl (.tmp 29) (.tmp 31) 36 rfl w.heap.size 3 i0 _ 1 8 Try.underlying36 hi0 hz0 hz1 hz2 rfl (by omega) _ out.length _ rfl (hown.alloc _) ⟨w1.heap.size, 0, none⟩ 1 1 [.int .i64 y] rfl rfl (one_new _ _ _) (one_one _) (by unfold maxLen; omega) (by omega) (by simp; omega) ?_; intro v2 w2 hown2 hg2 _))
          go_step3
          obtain ⟨e1, e2⟩ := E.out
          have hb2 := (hb.alloc hb.size (.cells #[.int .i64 y] 3)).grown hg2 (by simp; omega) (fun g hg => (hown.lt g hg).1)

          refine ⟨rfl, ⟨m + 1, y, out ++ [y], v2, _, _, _, _, _, _, _, _, _, _, _, _, _, _, _, _, _, _, _, _, _, _, _, _, _, _, _, rfl, e1, ?_, hb2⟩, ?_⟩
          · have := hown2
            rw [List.length_append, List.map_append]
            exact this
          · obtain ⟨A2, c2, rfl, _⟩ := own_form hown2
            show l.length + 1 - (out.length + 1) < l.length + 1 - out.length
            have := Hlen.out
            omega
  · intro hpass
    go_wp2
    go_step3
    rename_i hK
    exact hK _ _ (hpass _ _ ⟨0, i, [], _, _, _, _, _, _, _, _, _, _, _, _, _, _, _, _, _, _, _, _, _, _, _, _, _, _, _, _, rfl, UpAt.start l i, World.ownsRow_nil _ _ _ _, Below.refl _ _⟩)

end Go.Proofs.Ytfocnmkbnccilaa
