/-
  THE WORKLIST of EU, in plain Lean; what lies in memory meanwhile.
-/
import Derived.Test.YtcdeidedcbnhaaaLabelG
set_option linter.unusedVariables false
set_option linter.unusedSimpArgs false
namespace Go.Proofs.Ytcdeidedcbnhaaa
open Go.RowKit

theorem getD_lt {L : List Bool} {i : Nat} (h : L.getD i false = true) : i < L.length := by
  rcases Nat.lt_or_ge i L.length with h1 | h1
  · exact h1
  · rw [List.getD, List.getElem?_eq_none h1] at h; simp at h
theorem cnt_set : ∀ (L : List Bool) (i : Nat), i < L.length → L.getD i false = false → cnt (L.set i true) = cnt L + 1
  | [], i, h, _ => by simp at h
  | x :: L, 0, _, h => by
    have : x = false := by simpa using h
    subst this; simp [cnt]
  | x :: L, i + 1, h, h2 => by
    have := cnt_set L i (by simpa using h) (by simpa using h2)
    unfold cnt at this ⊢
    cases x <;> simp_all
theorem cnt_unset : ∀ (L : List Bool) (i : Nat), i < L.length → L.getD i false = true → cnt (L.set i false) + 1 = cnt L
  | [], i, h, _ => by simp at h
  | x :: L, 0, _, h => by
    have : x = true := by simpa using h
    subst this; simp [cnt]
  | x :: L, i + 1, h, h2 => by
    have := cnt_unset L i (by simpa using h) (by simpa using h2)
    unfold cnt at this ⊢
    cases x <;> simp_all

theorem back_mem {next rows : List (List Int)} (h : BackAt next next.length 0 rows) {k : Nat} (hk : k < next.length) (i : Nat) : (i : Int) ∈ rows.getD k [] ↔ i < next.length ∧ edge next i k := by
  rw [← List.count_pos_iff, h.count k hk i]
  unfold edge
  constructor
  · intro h
    split at h
    · rename_i hi; exact ⟨hi, List.count_pos_iff.1 h, hk⟩
    · split at h
      · simp at h
      · simp at h
  · rintro ⟨hi, h2, _⟩
    rw [if_pos hi]
    exact List.count_pos_iff.2 h2
theorem back_at {next rows : List (List Int)} (h : BackAt next next.length 0 rows) {k m : Nat} (hk : k < next.length) (hm : m < (rows.getD k []).length) : ∃ i : Nat, (rows.getD k []).getD m 0 = (i : Int) ∧ i < next.length ∧ edge next i k := by
  have hmem : (rows.getD k []).getD m 0 ∈ rows.getD k [] := by rw [getD_get _ _ hm]; exact List.getElem_mem hm
  have hr : rows.getD k [] ∈ rows := by
    have : k < rows.length := by rw [h.len]; exact hk
    rw [List.getD, List.getElem?_eq_getElem this]; exact List.getElem_mem this
  obtain ⟨i, hi, hin⟩ := h.only _ hr _ hmem
  rw [hi] at hmem
  exact ⟨i, hi, (back_mem h hk i).1 hmem⟩

/-- the worklist of EU: ex: the steps that still wait beside it -/
structure WU (next : List (List Int)) (a b : List Bool) (ex : Nat → Nat → Prop) (L : List Bool) (F : List Int) : Prop where
  len : L.length = next.length
  sound : ∀ i, L.getD i false = true → EUp next a b i
  base : ∀ i, i < next.length → b.getD i false = true → L.getD i false = true
  inW : ∀ x ∈ F, ∃ j : Nat, x = (j : Int) ∧ L.getD j false = true
  closed : ∀ k, L.getD k false = true → (k : Int) ∈ F ∨ ∀ i, i < next.length → edge next i k → a.getD i false = true → L.getD i false = true ∨ ex i k
  small : F.length ≤ cnt L
def noEx : Nat → Nat → Prop := fun _ _ => False
def rowEx (row : List Int) (k0 m : Nat) : Nat → Nat → Prop := fun i k => k = k0 ∧ (i : Int) ∈ row.drop m
section
variable {next : List (List Int)} {a b : List Bool} {L : List Bool} {F : List Int} {rows : List (List Int)}
theorem WU.pop {W : List Int} {x : Int} (h : WU next a b noEx L (W ++ [x])) (hB : BackAt next next.length 0 rows) : ∃ k0 : Nat, x = (k0 : Int) ∧ k0 < next.length ∧ L.getD k0 false = true ∧ WU next a b (rowEx (rows.getD k0 []) k0 0) L W := by
  obtain ⟨k0, rfl, hk0⟩ := h.inW x (by simp)
  have hkn : k0 < next.length := by rw [← h.len]; exact getD_lt hk0
  refine ⟨k0, rfl, hkn, hk0, h.len, h.sound, h.base, fun y hy => h.inW y (by simp [hy]), fun k hk => ?_, by have := h.small; simp at this; omega⟩
  rcases h.closed k hk with h1 | h1
  · rcases List.mem_append.1 h1 with h2 | h2
    · exact .inl h2
    · have : k = k0 := by simp at h2; omega
      subst this
      exact .inr fun i hi he ha => .inr ⟨rfl, by rw [List.drop_zero]; exact (back_mem hB hkn i).2 ⟨hi, he⟩⟩
  · exact .inr fun i hi he ha => (h1 i hi he ha).elim .inl (fun h => h.elim)
theorem drop_mem {row : List Int} {m : Nat} (hm : m < row.length) {x : Int} (h : x ∈ row.drop m) : x = row.getD m 0 ∨ x ∈ row.drop (m + 1) := by
  rw [List.drop_eq_getElem_cons hm] at h
  rw [getD_get _ _ hm]
  exact List.mem_cons.1 h
theorem WU.skip {row : List Int} {k0 m i : Nat} (h : WU next a b (rowEx row k0 m) L F) (hm : m < row.length) (hi : row.getD m 0 = (i : Int)) (hs : L.getD i false = true ∨ a.getD i false = false) : WU next a b (rowEx row k0 (m + 1)) L F := by
  refine ⟨h.len, h.sound, h.base, h.inW, fun k hk => ?_, h.small⟩
  rcases h.closed k hk with h1 | h1
  · exact .inl h1
  · refine .inr fun j hj he ha => ?_
    rcases h1 j hj he ha with h2 | ⟨h2, h3⟩
    · exact .inl h2
    · rcases drop_mem hm h3 with h4 | h4
      · rw [hi] at h4
        have : j = i := by omega
        subst this
        rcases hs with h5 | h5
        · exact .inl h5
        · rw [h5] at ha; simp at ha
      · exact .inr ⟨h2, h4⟩
theorem WU.push {row : List Int} {k0 m i : Nat} (h : WU next a b (rowEx row k0 m) L F) (hm : m < row.length) (hi : row.getD m 0 = (i : Int)) (hin : i < next.length) (he : edge next i k0) (hk0 : L.getD k0 false = true) (hL : L.getD i false = false) (ha : a.getD i false = true) :
    WU next a b (rowEx row k0 (m + 1)) (L.set i true) (F ++ [(i : Int)]) := by
  have hil : i < L.length := by rw [h.len]; exact hin
  have hset : ∀ j, L.getD j false = true → (L.set i true).getD j false = true := fun j hj => by rw [set_getD _ _ _ hil]; split; rfl; exact hj
  refine ⟨by rw [List.length_set, h.len], fun j hj => ?_, fun j hj hb => hset j (h.base j hj hb), fun x hx => ?_, fun k hk => ?_, by rw [cnt_set _ _ hil hL]; have := h.small; simp; omega⟩
  · rw [set_getD _ _ _ hil] at hj
    split at hj
    · rename_i e; subst e; exact .step _ _ hin ha he (h.sound _ hk0)
    · exact h.sound j hj
  · rcases List.mem_append.1 hx with h1 | h1
    · obtain ⟨j, h2, h3⟩ := h.inW x h1
      exact ⟨j, h2, hset j h3⟩
    · simp at h1
      exact ⟨i, h1, by rw [set_getD _ _ _ hil, if_pos rfl]⟩
  · rw [set_getD _ _ _ hil] at hk
    split at hk
    · rename_i e; subst e; exact .inl (by simp)
    · rcases h.closed k hk with h1 | h1
      · exact .inl (by simp [h1])
      · refine .inr fun j hj he2 ha2 => ?_
        rcases h1 j hj he2 ha2 with h2 | ⟨h2, h3⟩
        · exact .inl (hset j h2)
        · rcases drop_mem hm h3 with h4 | h4
          · rw [hi] at h4
            have : j = i := by omega
            subst this
            exact .inl (by rw [set_getD _ _ _ hil, if_pos rfl])
          · exact .inr ⟨h2, h4⟩
theorem WU.close {row : List Int} {k0 m : Nat} (h : WU next a b (rowEx row k0 m) L F) (hm : row.length ≤ m) : WU next a b noEx L F := by
  refine ⟨h.len, h.sound, h.base, h.inW, fun k hk => ?_, h.small⟩
  rcases h.closed k hk with h1 | h1
  · exact .inl h1
  · refine .inr fun j hj he ha => ?_
    rcases h1 j hj he ha with h2 | ⟨h2, h3⟩
    · exact .inl h2
    · rw [List.drop_eq_nil_of_le hm] at h3; simp at h3
theorem WU.done (h : WU next a b noEx L []) : L = euL next a b := by
  refine set_ext (by rw [h.len, euL_length]) fun i _ => ?_
  rw [euL_at]
  refine ⟨h.sound i, eu_closed next a b L (fun i hi hh => ?_) i⟩
  rcases hh with h1 | ⟨h1, k, h2, h3⟩
  · exact h.base i hi h1
  · rcases h.closed k h3 with h4 | h4
    · simp at h4
    · exact (h4 i hi h2 h1).elim id (fun h => h.elim)
theorem WU.cnt {ex : Nat → Nat → Prop} (h : WU next a b ex L F) : cnt L ≤ next.length := by rw [← h.len]; exact cnt_le L

/-- the beginning of the worklist -/
structure IU (next : List (List Int)) (b : List Bool) (i : Nat) (L : List Bool) (F : List Int) : Prop where
  len : L.length = next.length
  sound : ∀ j, L.getD j false = true → j < i ∧ j < next.length ∧ b.getD j false = true
  base : ∀ j, j < i → b.getD j false = true → L.getD j false = true
  inW : ∀ x ∈ F, ∃ j : Nat, x = (j : Int) ∧ L.getD j false = true
  all : ∀ k, L.getD k false = true → (k : Int) ∈ F
  small : F.length ≤ cnt L
theorem IU.start (next : List (List Int)) (b : List Bool) : IU next b 0 (List.replicate next.length false) [] := by
  refine ⟨by simp, fun j hj => ?_, fun j hj => by omega, fun x hx => by simp at hx, fun k hk => ?_, by simp⟩
  · rw [rep_getD] at hj; simp at hj
  · rw [rep_getD] at hk; simp at hk
theorem IU.skip {i : Nat} (h : IU next b i L F) (hb : b.getD i false = false) : IU next b (i + 1) L F := by
  refine ⟨h.len, fun j hj => ?_, fun j hj hb2 => ?_, h.inW, h.all, h.small⟩
  · have := h.sound j hj; exact ⟨by omega, this.2⟩
  · by_cases e : j = i
    · subst e; rw [hb] at hb2; simp at hb2
    · exact h.base j (by omega) hb2
theorem IU.push {i : Nat} (h : IU next b i L F) (hi : i < next.length) (hb : b.getD i false = true) : IU next b (i + 1) (L.set i true) (F ++ [(i : Int)]) := by
  have hil : i < L.length := by rw [h.len]; exact hi
  have hL : L.getD i false = false := by
    cases h2 : L.getD i false with
    | false => rfl
    | true => have := (h.sound i h2).1; omega
  refine ⟨by rw [List.length_set, h.len], fun j hj => ?_, fun j hj hb2 => ?_, fun x hx => ?_, fun k hk => ?_, by rw [cnt_set _ _ hil hL]; have := h.small; simp; omega⟩
  · rw [set_getD _ _ _ hil] at hj
    split at hj
    · rename_i e; subst e; exact ⟨by omega, hi, hb⟩
    · have := h.sound j hj; exact ⟨by omega, this.2⟩
  · rw [set_getD _ _ _ hil]
    split
    · rfl
    · exact h.base j (by omega) hb2
  · rcases List.mem_append.1 hx with h1 | h1
    · obtain ⟨j, h2, h3⟩ := h.inW x h1
      exact ⟨j, h2, by rw [set_getD _ _ _ hil]; split; rfl; exact h3⟩
    · simp at h1
      exact ⟨i, h1, by rw [set_getD _ _ _ hil, if_pos rfl]⟩
  · rw [set_getD _ _ _ hil] at hk
    split at hk
    · rename_i e; subst e; simp
    · have := h.all k hk; simp [this]
theorem IU.done (h : IU next b next.length L F) : WU next a b noEx L F :=
  ⟨h.len, fun i hi => .here i (h.sound i hi).2.1 (h.sound i hi).2.2, fun i hi hb => h.base i hi hb, h.inW, fun k hk => .inl (h.all k hk), h.small⟩
end

/-! ### memory -/
def Kp (S : Nat → Prop) (w w' : World) : Prop := ∀ p : Addr, S p.block → w'.cell? p = w.cell? p
theorem Kp.refl (S : Nat → Prop) (w : World) : Kp S w w := fun _ _ => rfl
theorem Kp.trans {S : Nat → Prop} {w w' w'' : World} (h : Kp S w w') (k : Kp S w' w'') : Kp S w w'' := fun p hp => (k p hp).trans (h p hp)
theorem Kp.set {S : Nat → Prop} (w : World) (p : Addr) (u : Value) (hp : ¬ S p.block) : Kp S w (w.setCell p u) := fun q hq => World.cell?_of_block (Below.heap_setCell w p u q.block (fun e => hp (e ▸ hq)))
theorem Kp.below {S : Nat → Prop} {w w' : World} {B : Nat} (h : Below B w w') (hS : ∀ b, S b → b < B) : Kp S w w' := fun p hp => h.cell (hS _ hp)

/-- the blocks of EU's and EG's rows of what lies ahead -/
def SB (lo hi : Nat) : Nat → Prop := fun b => lo ≤ b ∧ b < hi
structure EuMem (w : World) (lo gs : Nat) (va : Value) (rows : List (List Int)) (wx : World) (L : List Bool) (F : List Int) : Prop where
  lo1 : w.heap.size < lo
  lo2 : lo ≤ gs
  gsl : gs < wx.heap.size
  out : OB wx w.heap.size (.slice (some ⟨w.heap.size, 0, none⟩) L.length L.length) L
  stack : StackAt wx gs F
  rows : (sliceR (sliceR (intR .i64))).one wx (SB lo gs) va rows
  below : Below w.heap.size w wx
theorem EuMem.set {w wx : World} {lo gs : Nat} {va : Value} {rows : List (List Int)} {L : List Bool} {F : List Int} (h : EuMem w lo gs va rows wx L F) (k : Nat) (x : Bool) : EuMem w lo gs va rows (wx.setCell ⟨w.heap.size, k, none⟩ (.bool x)) (L.set k x) F := by
  have := h.lo1
  have := h.lo2
  refine ⟨h.lo1, h.lo2, by simpa using h.gsl, by rw [List.length_set]; exact h.out.set k x, h.stack.far (by simp; omega) _, slice_keep h.rows (Kp.set _ _ _ (fun hs => by have := hs.1; simp at this; omega)), h.below.setCell (Nat.le_refl _) _⟩
theorem EuMem.stacked {w wx w' : World} {lo gs : Nat} {va : Value} {rows : List (List Int)} {L : List Bool} {F F' : List Int} (h : EuMem w lo gs va rows wx L F) (hs : StackAt w' gs F') (hb : Below gs wx w') : EuMem w lo gs va rows w' L F' := by
  have := h.lo1
  have := h.lo2
  exact ⟨h.lo1, h.lo2, Nat.lt_of_lt_of_le h.gsl hb.size, own_below h.out hb (fun g hg => by simp [Value.ownBlock] at hg; omega), hs, slice_keep h.rows (Kp.below hb fun b hb => hb.2), h.below.trans (hb.mono (by omega))⟩

/-- what lies at the row of bools, read off memory -/
def boolsAt (w : World) (g n : Nat) : List Bool := (List.range n).map fun k => match w.cell? ⟨g, k, none⟩ with | some (.bool b) => b | _ => false
theorem boolsAt_of {w : World} {base g n c : Nat} {L : List Bool} (h : OB w base (.slice (some ⟨g, 0, none⟩) n c) L) (hn : n = L.length) : boolsAt w g n = L := by
  subst hn
  refine list_eq (by simp [boolsAt]) fun j hj => ?_
  have hj : j < L.length := by simpa [boolsAt] using hj
  unfold boolsAt
  rw [List.getD, List.getElem?_map, List.getElem?_range hj]
  simp only [Option.map_some, Option.getD_some]
  rw [h.cell hj]
def lenAt (w : World) (g : Nat) : Nat := match w.cell? ⟨g, 0, none⟩ with | some (.slice _ n _) => n | _ => 0
theorem lenAt_of {w : World} {g : Nat} {F : List Int} (h : StackAt w g F) : lenAt w g = F.length := by
  obtain ⟨v, h1, h2⟩ := h
  obtain ⟨A, c, rfl, _⟩ := own_form h2
  unfold lenAt
  rw [h1.cell 0]; rfl
def okOf : Value → Nat
  | .bool true => 1
  | _ => 0

/-- pop, whatever waits -/
theorem pop_any (F : List Int) (g : Nat) (w : World) (hF : F.length ≤ 1073741824) (h : StackAt w g F) :
    Calls Try.prog 53 #[.pointer (some ⟨g, 0, none⟩)] w fun e w' => ∃ (x : Int) (o : Bool) (W : List Int), e = .returned (.tuple #[.int .i64 x, .bool o]) ∧ StackAt w' g W ∧ Below g w w' ∧ ((o = false ∧ F = [] ∧ W = []) ∨ (o = true ∧ F = W ++ [x])) := by
  rcases nil_or_snoc F with rfl | ⟨W, x, rfl⟩
  · refine (pop_none g w h).mono ?_
    rintro e w' ⟨rfl, rfl⟩
    exact ⟨0, false, [], rfl, h, Below.refl _ _, .inl ⟨rfl, rfl, rfl⟩⟩
  · refine (pop_some W x g w (by simp at hF; omega) h).mono ?_
    rintro e w' ⟨rfl, h1, h2⟩
    exact ⟨x, true, W, rfl, h1, h2, .inr ⟨rfl, rfl⟩⟩

end Go.Proofs.Ytcdeidedcbnhaaa
