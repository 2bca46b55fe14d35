/-
  Parts of the proof: LabelH, LabelI, LabelJ, LabelK, H6, H7.
-/
import Derived.Test.YtbijbnfgccdneaaGreatCno8
set_option linter.unusedVariables false
set_option linter.unusedSimpArgs false
namespace Go.Proofs.YtbijbnfgccdneaaGreat
section
open Go.RowKit

theorem getD_lt {L : List Bool} {i : Nat} (h : L.getD i false = true) : i < L.length := by
  rcases Nat.lt_or_ge i L.length with h1 | h1
  · exact h1
  · rw [List.getD, List.getElem?_eq_none h1] at h; simp at h
theorem cnt_set : ∀ (L : List Bool) (i : Nat), i < L.length → L.getD i false = false → cnt (L.set i true) = cnt L + 1
  | [], i, h, _ => by simp at h
  | x :: L, 0, _, h => by
    have : x = false := by simpa using h
    subst this; simp [cnt]
  | x :: L, i + 1, h, h2 => by
    have := cnt_set L i (by simpa using h) (by simpa using h2)
    unfold cnt at this ⊢
    cases x <;> simp_all
theorem cnt_unset : ∀ (L : List Bool) (i : Nat), i < L.length → L.getD i false = true → cnt (L.set i false) + 1 = cnt L
  | [], i, h, _ => by simp at h
  | x :: L, 0, _, h => by
    have : x = true := by simpa using h
    subst this; simp [cnt]
  | x :: L, i + 1, h, h2 => by
    have := cnt_unset L i (by simpa using h) (by simpa using h2)
    unfold cnt at this ⊢
    cases x <;> simp_all

theorem back_mem {next rows : List (List Int)} (h : BackAt next next.length 0 rows) {k : Nat} (hk : k < next.length) (i : Nat) : (i : Int) ∈ rows.getD k [] ↔ i < next.length ∧ edge next i k := by
  rw [← List.count_pos_iff, h.count k hk i]
  unfold edge
  constructor
  · intro h
    split at h
    · rename_i hi; exact ⟨hi, List.count_pos_iff.1 h, hk⟩
    · split at h
      · simp at h
      · simp at h
  · rintro ⟨hi, h2, _⟩
    rw [if_pos hi]
    exact List.count_pos_iff.2 h2
theorem back_at {next rows : List (List Int)} (h : BackAt next next.length 0 rows) {k m : Nat} (hk : k < next.length) (hm : m < (rows.getD k []).length) : ∃ i : Nat, (rows.getD k []).getD m 0 = (i : Int) ∧ i < next.length ∧ edge next i k := by
  have hmem : (rows.getD k []).getD m 0 ∈ rows.getD k [] := by rw [getD_get _ _ hm]; exact List.getElem_mem hm
  have hr : rows.getD k [] ∈ rows := by
    have : k < rows.length := by rw [h.len]; exact hk
    rw [List.getD, List.getElem?_eq_getElem this]; exact List.getElem_mem this
  obtain ⟨i, hi, hin⟩ := h.only _ hr _ hmem
  rw [hi] at hmem
  exact ⟨i, hi, (back_mem h hk i).1 hmem⟩

/-- the worklist of EU: ex: the steps that still wait beside it -/
structure WU (next : List (List Int)) (a b : List Bool) (ex : Nat → Nat → Prop) (L : List Bool) (F : List Int) : Prop where
  len : L.length = next.length
  sound : ∀ i, L.getD i false = true → EUp next a b i
  base : ∀ i, i < next.length → b.getD i false = true → L.getD i false = true
  inW : ∀ x ∈ F, ∃ j : Nat, x = (j : Int) ∧ L.getD j false = true
  closed : ∀ k, L.getD k false = true → (k : Int) ∈ F ∨ ∀ i, i < next.length → edge next i k → a.getD i false = true → L.getD i false = true ∨ ex i k
  small : F.length ≤ cnt L
def noEx : Nat → Nat → Prop := fun _ _ => False
def rowEx (row : List Int) (k0 m : Nat) : Nat → Nat → Prop := fun i k => k = k0 ∧ (i : Int) ∈ row.drop m
section
variable {next : List (List Int)} {a b : List Bool} {L : List Bool} {F : List Int} {rows : List (List Int)}
theorem WU.pop {W : List Int} {x : Int} (h : WU next a b noEx L (W ++ [x])) (hB : BackAt next next.length 0 rows) : ∃ k0 : Nat, x = (k0 : Int) ∧ k0 < next.length ∧ L.getD k0 false = true ∧ WU next a b (rowEx (rows.getD k0 []) k0 0) L W := by
  obtain ⟨k0, rfl, hk0⟩ := h.inW x (by simp)
  have hkn : k0 < next.length := by rw [← h.len]; exact getD_lt hk0
  refine ⟨k0, rfl, hkn, hk0, h.len, h.sound, h.base, fun y hy => h.inW y (by simp [hy]), fun k hk => ?_, by have := h.small; simp at this; omega⟩
  rcases h.closed k hk with h1 | h1
  · rcases List.mem_append.1 h1 with h2 | h2
    · exact .inl h2
    · have : k = k0 := by simp at h2; omega
      subst this
      exact .inr fun i hi he ha => .inr ⟨rfl, by rw [List.drop_zero]; exact (back_mem hB hkn i).2 ⟨hi, he⟩⟩
  · exact .inr fun i hi he ha => (h1 i hi he ha).elim .inl (fun h => h.elim)
theorem drop_mem {row : List Int} {m : Nat} (hm : m < row.length) {x : Int} (h : x ∈ row.drop m) : x = row.getD m 0 ∨ x ∈ row.drop (m + 1) := by
  rw [List.drop_eq_getElem_cons hm] at h
  rw [getD_get _ _ hm]
  exact List.mem_cons.1 h
theorem WU.skip {row : List Int} {k0 m i : Nat} (h : WU next a b (rowEx row k0 m) L F) (hm : m < row.length) (hi : row.getD m 0 = (i : Int)) (hs : L.getD i false = true ∨ a.getD i false = false) : WU next a b (rowEx row k0 (m + 1)) L F := by
  refine ⟨h.len, h.sound, h.base, h.inW, fun k hk => ?_, h.small⟩
  rcases h.closed k hk with h1 | h1
  · exact .inl h1
  · refine .inr fun j hj he ha => ?_
    rcases h1 j hj he ha with h2 | ⟨h2, h3⟩
    · exact .inl h2
    · rcases drop_mem hm h3 with h4 | h4
      · rw [hi] at h4
        have : j = i := by omega
        subst this
        rcases hs with h5 | h5
        · exact .inl h5
        · rw [h5] at ha; simp at ha
      · exact .inr ⟨h2, h4⟩
theorem WU.push {row : List Int} {k0 m i : Nat} (h : WU next a b (rowEx row k0 m) L F) (hm : m < row.length) (hi : row.getD m 0 = (i : Int)) (hin : i < next.length) (he : edge next i k0) (hk0 : L.getD k0 false = true) (hL : L.getD i false = false) (ha : a.getD i false = true) :
    WU next a b (rowEx row k0 (m + 1)) (L.set i true) (F ++ [(i : Int)]) := by
  have hil : i < L.length := by rw [h.len]; exact hin
  have hset : ∀ j, L.getD j false = true → (L.set i true).getD j false = true := fun j hj => by rw [set_getD _ _ _ hil]; split; rfl; exact hj
  refine ⟨by rw [List.length_set, h.len], fun j hj => ?_, fun j hj hb => hset j (h.base j hj hb), fun x hx => ?_, fun k hk => ?_, by rw [cnt_set _ _ hil hL]; have := h.small; simp; omega⟩
  · rw [set_getD _ _ _ hil] at hj
    split at hj
    · rename_i e; subst e; exact .step _ _ hin ha he (h.sound _ hk0)
    · exact h.sound j hj
  · rcases List.mem_append.1 hx with h1 | h1
    · obtain ⟨j, h2, h3⟩ := h.inW x h1
      exact ⟨j, h2, hset j h3⟩
    · simp at h1
      exact ⟨i, h1, by rw [set_getD _ _ _ hil, if_pos rfl]⟩
  · rw [set_getD _ _ _ hil] at hk
    split at hk
    · rename_i e; subst e; exact .inl (by simp)
    · rcases h.closed k hk with h1 | h1
      · exact .inl (by simp [h1])
      · refine .inr fun j hj he2 ha2 => ?_
        rcases h1 j hj he2 ha2 with h2 | ⟨h2, h3⟩
        · exact .inl (hset j h2)
        · rcases drop_mem hm h3 with h4 | h4
          · rw [hi] at h4
            have : j = i := by omega
            subst this
            exact .inl (by rw [set_getD _ _ _ hil, if_pos rfl])
          · exact .inr ⟨h2, h4⟩
theorem WU.close {row : List Int} {k0 m : Nat} (h : WU next a b (rowEx row k0 m) L F) (hm : row.length ≤ m) : WU next a b noEx L F := by
  refine ⟨h.len, h.sound, h.base, h.inW, fun k hk => ?_, h.small⟩
  rcases h.closed k hk with h1 | h1
  · exact .inl h1
  · refine .inr fun j hj he ha => ?_
    rcases h1 j hj he ha with h2 | ⟨h2, h3⟩
    · exact .inl h2
    · rw [List.drop_eq_nil_of_le hm] at h3; simp at h3
theorem WU.done (h : WU next a b noEx L []) : L = euL next a b := by
  refine set_ext (by rw [h.len, euL_length]) fun i _ => ?_
  rw [euL_at]
  refine ⟨h.sound i, eu_closed next a b L (fun i hi hh => ?_) i⟩
  rcases hh with h1 | ⟨h1, k, h2, h3⟩
  · exact h.base i hi h1
  · rcases h.closed k h3 with h4 | h4
    · simp at h4
    · exact (h4 i hi h2 h1).elim id (fun h => h.elim)
theorem WU.cnt {ex : Nat → Nat → Prop} (h : WU next a b ex L F) : cnt L ≤ next.length := by rw [← h.len]; exact cnt_le L

/-- the beginning of the worklist -/
structure IU (next : List (List Int)) (b : List Bool) (i : Nat) (L : List Bool) (F : List Int) : Prop where
  len : L.length = next.length
  sound : ∀ j, L.getD j false = true → j < i ∧ j < next.length ∧ b.getD j false = true
  base : ∀ j, j < i → b.getD j false = true → L.getD j false = true
  inW : ∀ x ∈ F, ∃ j : Nat, x = (j : Int) ∧ L.getD j false = true
  all : ∀ k, L.getD k false = true → (k : Int) ∈ F
  small : F.length ≤ cnt L
theorem IU.start (next : List (List Int)) (b : List Bool) : IU next b 0 (List.replicate next.length false) [] := by
  refine ⟨by simp, fun j hj => ?_, fun j hj => by omega, fun x hx => by simp at hx, fun k hk => ?_, by simp⟩
  · rw [rep_getD] at hj; simp at hj
  · rw [rep_getD] at hk; simp at hk
theorem IU.skip {i : Nat} (h : IU next b i L F) (hb : b.getD i false = false) : IU next b (i + 1) L F := by
  refine ⟨h.len, fun j hj => ?_, fun j hj hb2 => ?_, h.inW, h.all, h.small⟩
  · have := h.sound j hj; exact ⟨by omega, this.2⟩
  · by_cases e : j = i
    · subst e; rw [hb] at hb2; simp at hb2
    · exact h.base j (by omega) hb2
theorem IU.push {i : Nat} (h : IU next b i L F) (hi : i < next.length) (hb : b.getD i false = true) : IU next b (i + 1) (L.set i true) (F ++ [(i : Int)]) := by
  have hil : i < L.length := by rw [h.len]; exact hi
  have hL : L.getD i false = false := by
    cases h2 : L.getD i false with
    | false => rfl
    | true => have := (h.sound i h2).1; omega
  refine ⟨by rw [List.length_set, h.len], fun j hj => ?_, fun j hj hb2 => ?_, fun x hx => ?_, fun k hk => ?_, by rw [cnt_set _ _ hil hL]; have := h.small; simp; omega⟩
  · rw [set_getD _ _ _ hil] at hj
    split at hj
    · rename_i e; subst e; exact ⟨by omega, hi, hb⟩
    · have := h.sound j hj; exact ⟨by omega, this.2⟩
  · rw [set_getD _ _ _ hil]
    split
    · rfl
    · exact h.base j (by omega) hb2
  · rcases List.mem_append.1 hx with h1 | h1
    · obtain ⟨j, h2, h3⟩ := h.inW x h1
      exact ⟨j, h2, by rw [set_getD _ _ _ hil]; split; rfl; exact h3⟩
    · simp at h1
      exact ⟨i, h1, by rw [set_getD _ _ _ hil, if_pos rfl]⟩
  · rw [set_getD _ _ _ hil] at hk
    split at hk
    · rename_i e; subst e; simp
    · have := h.all k hk; simp [this]
theorem IU.done (h : IU next b next.length L F) : WU next a b noEx L F :=
  ⟨h.len, fun i hi => .here i (h.sound i hi).2.1 (h.sound i hi).2.2, fun i hi hb => h.base i hi hb, h.inW, fun k hk => .inl (h.all k hk), h.small⟩
end

/-! ### memory -/
def Kp (S : Nat → Prop) (w w' : World) : Prop := ∀ p : Addr, S p.block → w'.cell? p = w.cell? p
theorem Kp.refl (S : Nat → Prop) (w : World) : Kp S w w := fun _ _ => rfl
theorem Kp.trans {S : Nat → Prop} {w w' w'' : World} (h : Kp S w w') (k : Kp S w' w'') : Kp S w w'' := fun p hp => (k p hp).trans (h p hp)
theorem Kp.set {S : Nat → Prop} (w : World) (p : Addr) (u : Value) (hp : ¬ S p.block) : Kp S w (w.setCell p u) := fun q hq => World.cell?_of_block (Below.heap_setCell w p u q.block (fun e => hp (e ▸ hq)))
theorem Kp.below {S : Nat → Prop} {w w' : World} {B : Nat} (h : Below B w w') (hS : ∀ b, S b → b < B) : Kp S w w' := fun p hp => h.cell (hS _ hp)

/-- the blocks of EU's and EG's rows of what lies ahead -/
def SB (lo hi : Nat) : Nat → Prop := fun b => lo ≤ b ∧ b < hi
structure EuMem (w : World) (lo gs : Nat) (va : Value) (rows : List (List Int)) (wx : World) (L : List Bool) (F : List Int) : Prop where
  lo1 : w.heap.size < lo
  lo2 : lo ≤ gs
  gsl : gs < wx.heap.size
  out : OB wx w.heap.size (.slice (some ⟨w.heap.size, 0, none⟩) L.length L.length) L
  stack : StackAt wx gs F
  rows : (sliceR (sliceR (intR .i64))).one wx (SB lo gs) va rows
  below : Below w.heap.size w wx
theorem EuMem.set {w wx : World} {lo gs : Nat} {va : Value} {rows : List (List Int)} {L : List Bool} {F : List Int} (h : EuMem w lo gs va rows wx L F) (k : Nat) (x : Bool) : EuMem w lo gs va rows (wx.setCell ⟨w.heap.size, k, none⟩ (.bool x)) (L.set k x) F := by
  have := h.lo1
  have := h.lo2
  refine ⟨h.lo1, h.lo2, by simpa using h.gsl, by rw [List.length_set]; exact h.out.set k x, h.stack.far (by simp; omega) _, slice_keep h.rows (Kp.set _ _ _ (fun hs => by have := hs.1; simp at this; omega)), h.below.setCell (Nat.le_refl _) _⟩
theorem EuMem.stacked {w wx w' : World} {lo gs : Nat} {va : Value} {rows : List (List Int)} {L : List Bool} {F F' : List Int} (h : EuMem w lo gs va rows wx L F) (hs : StackAt w' gs F') (hb : Below gs wx w') : EuMem w lo gs va rows w' L F' := by
  have := h.lo1
  have := h.lo2
  exact ⟨h.lo1, h.lo2, Nat.lt_of_lt_of_le h.gsl hb.size, own_below h.out hb (fun g hg => by simp [Value.ownBlock] at hg; omega), hs, slice_keep h.rows (Kp.below hb fun b hb => hb.2), h.below.trans (hb.mono (by omega))⟩

/-- what lies at the row of bools, read off memory -/
def boolsAt (w : World) (g n : Nat) : List Bool := (List.range n).map fun k => match w.cell? ⟨g, k, none⟩ with | some (.bool b) => b | _ => false
theorem boolsAt_of {w : World} {base g n c : Nat} {L : List Bool} (h : OB w base (.slice (some ⟨g, 0, none⟩) n c) L) (hn : n = L.length) : boolsAt w g n = L := by
  subst hn
  refine list_eq (by simp [boolsAt]) fun j hj => ?_
  have hj : j < L.length := by simpa [boolsAt] using hj
  unfold boolsAt
  rw [List.getD, List.getElem?_map, List.getElem?_range hj]
  simp only [Option.map_some, Option.getD_some]
  rw [h.cell hj]
def lenAt (w : World) (g : Nat) : Nat := match w.cell? ⟨g, 0, none⟩ with | some (.slice _ n _) => n | _ => 0
theorem lenAt_of {w : World} {g : Nat} {F : List Int} (h : StackAt w g F) : lenAt w g = F.length := by
  obtain ⟨v, h1, h2⟩ := h
  obtain ⟨A, c, rfl, _⟩ := own_form h2
  unfold lenAt
  rw [h1.cell 0]; rfl
def okOf : Value → Nat
  | .bool true => 1
  | _ => 0

/-- pop, whatever waits -/
theorem pop_any (F : List Int) (g : Nat) (w : World) (hF : F.length ≤ 1073741824) (h : StackAt w g F) :
    Calls Tryz.prog 40 #[.pointer (some ⟨g, 0, none⟩)] w fun e w' => ∃ (x : Int) (o : Bool) (W : List Int), e = .returned (.tuple #[.int .i64 x, .bool o]) ∧ StackAt w' g W ∧ Below g w w' ∧ ((o = false ∧ F = [] ∧ W = []) ∨ (o = true ∧ F = W ++ [x])) := by
  rcases nil_or_snoc F with rfl | ⟨W, x, rfl⟩
  · refine (pop_none g w h).mono ?_
    rintro e w' ⟨rfl, rfl⟩
    exact ⟨0, false, [], rfl, h, Below.refl _ _, .inl ⟨rfl, rfl, rfl⟩⟩
  · refine (pop_some W x g w (by simp at hF; omega) h).mono ?_
    rintro e w' ⟨rfl, h1, h2⟩
    exact ⟨x, true, W, rfl, h1, h2, .inr ⟨rfl, rfl⟩⟩
end
section
open Go.RowKit

theorem rows_ok {next rows : List (List Int)} (h : BackAt next next.length 0 rows) (hl : next.length ≤ 100) : ∀ r ∈ rows, ∀ x ∈ r, -9223372036854775808 ≤ x ∧ x ≤ 9223372036854775807 := fun r hr x hx => by
  obtain ⟨i, rfl, hi⟩ := h.only r hr x hx
  omega

theorem EuMem.start {w w0 w1 : World} {n lo : Nat} {L : List Bool} {rows : List (List Int)} (ho : OB w0 w.heap.size (.slice (some ⟨w.heap.size, 0, none⟩) n n) L) (hn : n = L.length) (hb0 : Below w.heap.size w w0) (hor : OwnRws w1 lo rows) (hlo : w0.heap.size ≤ lo) (hlw : w.heap.size < lo) (hb1 : Below w0.heap.size w0 w1)
    (hx : ∀ r ∈ rows, ∀ x ∈ r, -9223372036854775808 ≤ x ∧ x ≤ 9223372036854775807) (hl : rows.length ≤ 9223372036854775807) :
    EuMem w lo w1.heap.size (.slice (some ⟨lo, 0, none⟩) rows.length rows.length) rows (w1.alloc (.cells #[.slice none 0 0] 116)) L [] := by
  subst hn
  have hlt : lo < w1.heap.size := by
    obtain ⟨f, h1, _⟩ := hor; exact h1.lt
  refine ⟨hlw, by omega, by simp, (ho.below hb1).below (Below.refl _ _ |>.alloc (Nat.le_refl _) _), StackAt.new _, ?_, (hb0.trans (hb1.mono hb0.size)).alloc (Nat.le_trans hb0.size hb1.size) _⟩
  exact slice_keep (hor.read hx hl) (Kp.below ((Below.refl w1.heap.size w1).alloc (Nat.le_refl _) _) fun b hb => hb.2)

theorem rowS_at {w : World} {S : Nat → Prop} {A : Option Addr} {n c : Nat} {l : List Int} (h : (sliceR (intR .i64)).one w S (.slice A n c) l) {k : Nat} (hk : k < l.length) : ∃ b o, A = some ⟨b, o, none⟩ ∧ w.cell? ⟨b, o + k, none⟩ = some (.int .i64 (l.getD k 0)) := by
  obtain ⟨b, o, rfl, hb, _⟩ := slice_some h (by omega)
  have := ints_at h hk
  rw [getD_get _ _ hk]
  exact ⟨b, o, rfl, this.1⟩
theorem EuMem.row {w wx : World} {lo gs n : Nat} {rows : List (List Int)} {L : List Bool} {F : List Int} (h : EuMem w lo gs (.slice (some ⟨lo, 0, none⟩) n n) rows wx L F) {k : Nat} (hk : k < rows.length) :
    ∃ A' c', wx.cell? ⟨lo, k, none⟩ = some (.slice A' (rows.getD k []).length c') ∧ (rows.getD k []).length ≤ c' ∧ c' ≤ 9223372036854775807 ∧ (sliceR (intR .i64)).one wx (SB lo gs) (.slice A' (rows.getD k []).length c') (rows.getD k []) := by
  have := rows_at h.rows hk
  rw [List.getD, List.getElem?_eq_getElem hk]
  simpa using this
/-- the head of the worklist's loop -/
def Head (next : List (List Int)) (a b : List Bool) (o : Bool) (x : Int) (L : List Bool) (W : List Int) : Prop := (o = false ∧ W = [] ∧ WU next a b noEx L []) ∨ (o = true ∧ WU next a b noEx L (W ++ [x]))

set_option maxHeartbeats 4000000 in
theorem eu_any (next : List (List Int)) (a b : List Bool) (vn va vb : Value) (w : World) (hl : next.length ≤ 100) (hr : ∀ r ∈ next, r.length ≤ 200) (hla : a.length ≤ 9223372036854775807) (hlb : b.length ≤ 9223372036854775807) (hn : RR w vn next) (ha : RB w va a) (hbb : RB w vb b) :
    Calls Tryz.prog 22 #[vn, va, vb] w (SetPost (euL next a b) w) := by
  obtain ⟨A, c, rfl, hc⟩ := hn.form
  obtain ⟨B, cb, rfl, hcb⟩ := ha.form
  obtain ⟨C, cc, rfl, hcc⟩ := hbb.form
  have hmk := run_make_row' (P := Tryz.prog) 47 4 (.bool false) 1 Tryz.underlying47 boolInfo rfl .i64 .i64 next.length (by omega) (by omega)
  have hb0 := (Below.refl w.heap.size w).alloc (Nat.le_refl _) (.cells (madeCells #[.bool false] next.length) 4)
  have ho := OB.made w next.length (by omega)
  have hbk := back_any next _ (w.alloc (.cells (madeCells #[.bool false] next.length) 4)) hl hr (hn.below hb0)
  have Hbk := hide hbk
  have Ho := hide ho
  have Hb0 := hide hb0
  clear hbk ho hb0 hr
  go_enter Tryz.func22, Tryz.ntmps22
  go_wp2_with (go_at_call 38; refine Hbk.out.mono ?_; rintro e w1 ⟨rfl, rows, hrows, hor, hb1⟩)
  have hrl : rows.length = next.length := hrows.len
  have hst := EuMem.start Ho.out (by simp) Hb0.out hor (Nat.le_refl _) (by simp) hb1 (rows_ok hrows hl) (by omega)
  rw [hrl, Go.Deep.nblk_alloc] at hst
  have hrl2 : next.length ≤ rows.length := by omega
  have Hst := hide hst
  have Hrows := hide hrows
  have Hrl := hide hrl
  have hgs : w.heap.size + 1 ≤ w1.heap.size := by simpa using hb1.size
  clear hst hrows hor hb1 hrl Ho Hb0 Hbk hmk
  go_loopw [22] (fun i wx => ∃ (k : Nat) (L : List Bool) (F : List Int), k ≤ next.length ∧ i = .int .i64 (k : Int) ∧ IU next b k L F ∧ EuMem w (w.heap.size + 1) w1.heap.size (.slice (some ⟨w.heap.size + 1, 0, none⟩) next.length next.length) rows wx L F) (fun i wx => next.length - (intOf i).toNat)
  case atStart => exact ⟨0, _, _, Nat.zero_le _, rfl, IU.start next b, Hst.out⟩
  case round =>
    clear Hst
    obtain ⟨k, L, F, hk, rfl, hI, hM⟩ := hrel
    rename World => wx
    by_cases hlt : k < next.length
    · have his := labelIs_any b _ (k : Int) wx (by omega) (hbb.below hM.below)
      rw [isB_nat] at his
      have hLl := hI.len
      have c1 := hM.out.cell (k := k) (by omega)
      have f1 := hM.out.frozen k
      have hpu := pushL_any F (k : Int) w1.heap.size _ (by have := hI.small; have := cnt_le L; omega) (hM.set k true).stack
      have hs1 := hI.push (F := F) hlt
      have hs0 := hI.skip (F := F) (i := k)
      generalize b.getD k false = q at *
      generalize L.getD k false = z at c1
      have His := hide his
      have Hpu := hide hpu
      have Hs1 := hide hs1
      have Hs0 := hide hs0
      have HM := hide hM
      have HLl := hide hLl
      clear his hpu hs1 hs0 hM hI hLl
      cases q with
      | true =>
        go_wp2_with (first
          | (go_at_call 36; refine His.out.mono ?_; rintro e w2 ⟨rfl, rfl⟩)
          | (go_at_call 39; refine Hpu.out.mono ?_; rintro e w3 ⟨rfl, hs3, hb3⟩))
        go_roundw
        case rel => exact ⟨k + 1, _, _, by omega, by go_num, Hs1.out (by simp), (HM.out.set k true).stacked hs3 hb3⟩
        case measure => simp [intOf]; omega
      | false =>
        go_wp2_with (go_at_call 36; refine His.out.mono ?_; rintro e w2 ⟨rfl, rfl⟩)
        go_roundw
        case rel => exact ⟨k + 1, _, _, by omega, by go_num, Hs0.out (by simp), HM.out⟩
        case measure => simp [intOf]; omega
    · obtain rfl : k = next.length := by omega
      have hW := hI.done (a := a)
      have hpop := pop_any F w1.heap.size wx (by have := hW.small; have := hW.cnt; omega) hM.stack
      have Hpop := hide hpop
      have HW := hide hW
      have HM := hide hM
      clear hpop hW hM hI
      go_wp2_with (go_at_call 40; refine Hpop.out.mono ?_; rintro e w2 ⟨x, o, W, rfl, hs2, hb2, ho2⟩)
      have hM2 := HM.out.stacked hs2 hb2
      have hH : Head next a b o x L W := by
        rcases ho2 with ⟨rfl, rfl, rfl⟩ | ⟨rfl, rfl⟩
        · exact .inl ⟨rfl, rfl, HW.out⟩
        · exact .inr ⟨rfl, HW.out⟩
      have HH := hide hH
      have HM2 := hide hM2
      clear hs2 hb2 ho2 hH hM2 HW HM
      go_loopw [11, 12] (fun i ok wx => ∃ (x : Int) (o : Bool) (L : List Bool) (W : List Int), i = .int .i64 x ∧ ok = .bool o ∧ Head next a b o x L W ∧ EuMem w (w.heap.size + 1) w1.heap.size (.slice (some ⟨w.heap.size + 1, 0, none⟩) next.length next.length) rows wx L W) (fun i ok wx => 2 * (next.length - cnt (boolsAt wx w.heap.size next.length)) + lenAt wx w1.heap.size + okOf ok)
      case atStart => exact ⟨x, o, L, W, rfl, rfl, HH.out, HM2.out⟩
      case round =>
        clear HH HM2
        obtain ⟨x, o, L, W, rfl, rfl, hH, hM⟩ := hrel
        rename World => wy
        rcases hH with ⟨rfl, rfl, hW⟩ | ⟨rfl, hW⟩
        · have hd := hW.done
          have Hd := hide hd
          have HM := hide hM
          clear hd hM hW
          go_wp2_with fail
          go_ret
          refine ⟨w.heap.size, by rw [euL_length]; rfl, ?_, HM.out.below⟩
          rw [← Hd.out]; exact HM.out.out
        · have hLl := hW.len
          have hcn := hW.cnt
          have hsm := hW.small
          obtain ⟨k0, rfl, hk0, hLk, hW2⟩ := hW.pop Hrows.out
          obtain ⟨A', c', hcell, hc1, hc2, hri⟩ := hM.row (k := k0) (by omega)
          have hbA := fun (m : Nat) hm => back_at Hrows.out hk0 (m := m) hm
          obtain ⟨row, hrw⟩ : ∃ row, row = rows.getD k0 [] := ⟨_, rfl⟩
          have hrowl : row.length ≤ 20000 := by rw [hrw]; have := Hrows.out.small k0; omega
          rw [← hrw] at hcell hc1 hri hW2 hbA
          have e1 : boolsAt wy w.heap.size next.length = L := boolsAt_of (by have := hM.out; rw [hLl] at this; exact this) hLl.symm
          have e2 : lenAt wy w1.heap.size = W.length := lenAt_of hM.stack
          obtain ⟨M0, hM0⟩ : ∃ M0, M0 = 2 * (next.length - cnt L) + W.length := ⟨_, rfl⟩
          have HE1 := hide e1
          have HE2 := hide e2
          have HM0 := hide hM0
          have HbA := hide hbA
          have HW2 := hide hW2
          have HLk := hide hLk
          have HM := hide hM
          have Hri := hide hri
          have hWs : W.length ≤ 100 := by simp at hsm; omega
          clear e1 e2 hM0 hbA hW2 hLk hM hri hrw hW hsm hcn hLl
          go_wp2_with fail
          go_loopw [48] (fun j wx => ∃ (m : Nat) (L : List Bool) (F : List Int), m ≤ row.length ∧ j = .int .i64 (m : Int) ∧ WU next a b (rowEx row k0 m) L F ∧ L.getD k0 false = true ∧ 2 * (next.length - cnt L) + F.length ≤ M0 ∧ EuMem w (w.heap.size + 1) w1.heap.size (.slice (some ⟨w.heap.size + 1, 0, none⟩) next.length next.length) rows wx L F ∧ Kp (SB (w.heap.size + 1) w1.heap.size) wy wx) (fun j wx => row.length - (intOf j).toNat)
          case atStart => exact ⟨0, L, W, Nat.zero_le _, rfl, HW2.out, HLk.out, by rw [HM0.out]; exact Nat.le_refl _, HM.out, Kp.refl _ _⟩
          case round =>
            obtain ⟨m, L2, F, hm, rfl, hW, hLk, hmea, hM, hKp⟩ := hrel
            rename World => wx
            have hLl := hW.len
            have hcn := hW.cnt
            have hsm := hW.small
            by_cases hlt : m < row.length
            · obtain ⟨i, hi, hin, hed⟩ := HbA.out m hlt
              obtain ⟨b2, o2, rfl, hcell2⟩ := rowS_at (slice_keep Hri.out hKp) hlt
              rw [hi] at hcell2
              have c1 := hM.out.cell (k := i) (by omega)
              have f1 := hM.out.frozen i
              have his := labelIs_any a _ (i : Int) wx (by omega) (ha.below hM.below)
              rw [isB_nat] at his
              have hpu := pushL_any F (i : Int) w1.heap.size _ (by omega) (hM.set i true).stack
              have hskip := hW.skip hlt hi
              have hpush := hW.push hlt hi hin hed hLk
              have hset : (L2.set i true).getD k0 false = true := by rw [set_getD _ _ _ (by omega)]; split; rfl; exact hLk
              have hcs := cnt_set L2 i (by omega)
              have hcl := cnt_le (L2.set i true)
              rw [List.length_set] at hcl
              have his2 := his
              generalize hz : L2.getD i false = z at *
              generalize a.getD i false = q at *
              have His := hide his
              have Hpu := hide hpu
              have Hskip := hide hskip
              have Hpush := hide hpush
              have Hset := hide hset
              have Hcs := hide hcs
              have HM3 := hide hM
              have HLk3 := hide hLk
              have HKp := hide hKp
              have Hcl := hide hcl
              clear his his2 hpu hskip hpush hset hcs hM hLk hKp hW hz hi hed hcl
              cases z with
              | true =>
                go_wp2_with fail
                go_roundw
                case rel => exact ⟨m + 1, L2, F, by omega, by go_num, Hskip.out (by simp), HLk3.out, hmea, HM3.out, HKp.out⟩
                case measure => simp [intOf]; omega
              | false =>
                cases q with
                | false =>
                  go_wp2_with (go_at_call 36; refine His.out.mono ?_; rintro e w2 ⟨rfl, rfl⟩)
                  go_roundw
                  case rel => exact ⟨m + 1, L2, F, by omega, by go_num, Hskip.out (by simp), HLk3.out, hmea, HM3.out, HKp.out⟩
                  case measure => simp [intOf]; omega
                | true =>
                  go_wp2_with (first
                    | (go_at_call 36; refine His.out.mono ?_; rintro e w2 ⟨rfl, rfl⟩)
                    | (go_at_call 39; refine Hpu.out.mono ?_; rintro e w3 ⟨rfl, hs3, hb3⟩))
                  go_roundw
                  case rel =>
                    have hM4 := (HM3.out.set i true).stacked hs3 hb3
                    refine ⟨m + 1, _, _, by omega, by go_num, Hpush.out (by simp) (by simp), Hset.out, ?_, hM4, ?_⟩
                    · have := Hcs.out (by simp); have := Hcl.out; simp; omega
                    · exact (HKp.out.trans (Kp.set _ _ _ (fun h => by have := h.1; simp at this; omega))).trans (Kp.below hb3 fun b hb => hb.2)
                  case measure => simp [intOf]; omega
            · have hW3 := hW.close (by omega)
              have hpop := pop_any F w1.heap.size wx (by omega) hM.stack
              have Hpop := hide hpop
              have HW3 := hide hW3
              have HM3 := hide hM
              have hme := hmea
              clear hpop hW3 hM hW hKp hLk
              obtain rfl : m = row.length := by omega
              go_wp2_with (go_at_call 40; refine Hpop.out.mono ?_; rintro e w2 ⟨x2, o2, W2, rfl, hs2, hb2, ho2⟩)
              have hM2 := HM3.out.stacked hs2 hb2
              have hH : Head next a b o2 x2 L2 W2 := by
                rcases ho2 with ⟨rfl, rfl, rfl⟩ | ⟨rfl, rfl⟩
                · exact .inl ⟨rfl, rfl, HW3.out⟩
                · exact .inr ⟨rfl, HW3.out⟩
              go_roundw
              case rel => exact ⟨x2, o2, L2, W2, rfl, rfl, hH, hM2⟩
              case measure =>
                rw [HE1.out, HE2.out, boolsAt_of (L := L2) (by have := hM2.out; rw [hLl] at this; exact this) hLl.symm, lenAt_of hM2.stack]
                have := HM0.out
                rcases ho2 with ⟨rfl, rfl, rfl⟩ | ⟨rfl, rfl⟩
                · simp [okOf] at hme ⊢; omega
                · simp [okOf] at hme ⊢; omega
end
section
open Go.RowKit

def sumTo : Nat → (Nat → Nat) → Nat
  | 0, _ => 0
  | n + 1, f => sumTo n f + f n
theorem sumTo_congr : ∀ (n : Nat) {f g : Nat → Nat}, (∀ i, i < n → f i = g i) → sumTo n f = sumTo n g
  | 0, _, _, _ => rfl
  | n + 1, f, g, h => by rw [sumTo, sumTo, sumTo_congr n (fun i hi => h i (by omega)), h n (by omega)]
theorem sumTo_upd : ∀ (n : Nat) {f g : Nat → Nat} (i0 : Nat), i0 < n → (∀ i, i < n → i ≠ i0 → f i = g i) → sumTo n f + g i0 = sumTo n g + f i0
  | 0, _, _, i0, h, _ => by omega
  | n + 1, f, g, i0, h, hh => by
    rw [sumTo, sumTo]
    by_cases e : i0 = n
    · subst e
      rw [sumTo_congr i0 (f := f) (g := g) (fun i hi => hh i (by omega) (by omega))]; omega
    · have := sumTo_upd n (f := f) (g := g) i0 (by omega) (fun i hi => hh i (by omega))
      have := hh n (by omega) (fun h => e h.symm)
      omega
theorem sumTo_pos : ∀ (n : Nat) {f : Nat → Nat}, sumTo n f ≠ 0 → ∃ i, i < n ∧ f i ≠ 0
  | 0, f, h => absurd rfl h
  | n + 1, f, h => by
    rw [sumTo] at h
    by_cases e : f n = 0
    · obtain ⟨i, h1, h2⟩ := sumTo_pos n (f := f) (by omega)
      exact ⟨i, by omega, h2⟩
    · exact ⟨n, by omega, e⟩
theorem sumTo_mem : ∀ (n : Nat) (f : Nat → Nat) (i : Nat), i < n → f i ≤ sumTo n f
  | 0, f, i, h => by omega
  | n + 1, f, i, h => by
    rw [sumTo]
    by_cases e : i = n
    · subst e; omega
    · have := sumTo_mem n f i (by omega); omega
theorem sumTo_le : ∀ (n : Nat) {f : Nat → Nat} (B : Nat), (∀ i, i < n → f i ≤ B) → sumTo n f ≤ n * B
  | 0, _, B, _ => by simp [sumTo]
  | n + 1, f, B, h => by
    rw [sumTo, Nat.succ_mul]
    have := sumTo_le n B (fun i hi => h i (by omega)); have := h n (by omega); omega

/-- how often k leads to i -/
def cE (next : List (List Int)) (k i : Nat) : Nat := (next.getD k []).count (i : Int)
theorem cE_le {next : List (List Int)} (hr : ∀ r ∈ next, r.length ≤ 200) (k i : Nat) : cE next k i ≤ 200 := by
  unfold cE
  refine Nat.le_trans List.count_le_length ?_
  rcases Nat.lt_or_ge k next.length with h | h
  · rw [List.getD, List.getElem?_eq_getElem h]; exact hr _ (List.getElem_mem h)
  · rw [List.getD, List.getElem?_eq_none h]; simp
theorem back_count {next rows : List (List Int)} (h : BackAt next next.length 0 rows) {i k : Nat} (hi : i < next.length) (hk : k < next.length) : (rows.getD i []).count (k : Int) = cE next k i := by
  rw [h.count i hi k, if_pos hk]; rfl
theorem iget_set (l : List Int) (k : Nat) (x : Int) (h : k < l.length) (j : Nat) : (l.set k x).getD j 0 = if j = k then x else l.getD j 0 := by
  simp only [List.getD, List.getElem?_set]
  by_cases e : j = k
  · subst e; simp [h]
  · rw [if_neg (fun h => e h.symm), if_neg e]

/-- the counts while they are made -/
structure LAt (next rows : List (List Int)) (L : List Bool) (i m : Nat) (lf : List Int) : Prop where
  len : lf.length = next.length
  val : ∀ k, k < next.length → lf.getD k 0 = ((sumTo i (fun j => if L.getD j false = true then cE next k j else 0) + (if L.getD i false = true then ((rows.getD i []).take m).count (k : Int) else 0) : Nat) : Int)
  small : ∀ k, 0 ≤ lf.getD k 0 ∧ lf.getD k 0 ≤ 20000 * i + m
theorem irep_getD (n j : Nat) : (List.replicate n (0 : Int)).getD j 0 = 0 := by
  rw [List.getD, List.getElem?_replicate]; split <;> rfl
section
variable {next rows : List (List Int)} {L : List Bool} {lf : List Int}
theorem LAt.start (next rows : List (List Int)) (L : List Bool) : LAt next rows L 0 0 (List.replicate next.length 0) :=
  ⟨by simp, fun k hk => by rw [irep_getD]; simp [sumTo], fun k => by rw [irep_getD]; simp⟩
theorem LAt.skip {i m : Nat} (h : LAt next rows L i m lf) (hL : L.getD i false = false) : LAt next rows L i (m + 1) lf :=
  ⟨h.len, fun k hk => by rw [h.val k hk, hL]; simp, fun k => by have := h.small k; omega⟩
theorem LAt.add {i m q : Nat} (h : LAt next rows L i m lf) (hL : L.getD i false = true) (hm : m < (rows.getD i []).length) (hq : (rows.getD i []).getD m 0 = (q : Int)) (hqn : q < next.length) : LAt next rows L i (m + 1) (lf.set q (lf.getD q 0 + 1)) := by
  have hql : q < lf.length := by rw [h.len]; exact hqn
  rw [getD_get _ _ hm] at hq
  refine ⟨by rw [List.length_set, h.len], fun k hk => ?_, fun k => ?_⟩
  · rw [iget_set _ _ _ hql, List.take_succ_eq_append_getElem hm, List.count_append, List.count_singleton, hq]
    have := h.val k hk
    have hv := h.val q hqn
    rw [if_pos hL] at this hv ⊢
    by_cases e : k = q
    · subst e
      rw [if_pos rfl, this]; simp; omega
    · have e2 : ((q : Int) == (k : Int)) = false := by simp; omega
      rw [if_neg e, this, e2]; simp
  · rw [iget_set _ _ _ hql]
    split
    · have := h.small q; omega
    · have := h.small k; omega
theorem LAt.row {i : Nat} (h : LAt next rows L i (rows.getD i []).length lf) (hB : BackAt next next.length 0 rows) (hi : i < next.length) (hr : (rows.getD i []).length ≤ 20000) : LAt next rows L (i + 1) 0 lf := by
  refine ⟨h.len, fun k hk => ?_, fun k => by have := h.small k; omega⟩
  rw [h.val k hk, List.take_length, sumTo, back_count hB hi hk]; simp
end

/-- who still counts: those in the set and those that wait -/
def al (L : List Bool) (F : List Int) (i : Nat) : Bool := L.getD i false || decide ((i : Int) ∈ F)
def sumG (next : List (List Int)) (L : List Bool) (F : List Int) (k : Nat) : Nat := sumTo next.length (fun i => if al L F i = true then cE next k i else 0)
/-- the worklist of EG: q: those that are not yet looked at; ex: what is yet to be taken off -/
structure GU (next : List (List Int)) (a : List Bool) (q : Nat → Prop) (ex : Nat → Nat) (L : List Bool) (F : List Int) (lf : List Int) : Prop where
  len : L.length = next.length
  lenF : lf.length = next.length
  nodup : F.Nodup
  inW : ∀ x ∈ F, ∃ j : Nat, x = (j : Int) ∧ j < next.length ∧ L.getD j false = false
  inA : ∀ j, L.getD j false = true → a.getD j false = true
  sup : ∀ j, EGp next a j → L.getD j false = true
  val : ∀ k, k < next.length → lf.getD k 0 = ((sumG next L F k + ex k : Nat) : Int)
  pos : ∀ k, k < next.length → ¬ q k → L.getD k false = true → lf.getD k 0 ≠ 0
  small : F.length + cnt L ≤ next.length
def noQ : Nat → Prop := fun _ => False
def noX : Nat → Nat := fun _ => 0
section
variable {next rows : List (List Int)} {a : List Bool} {q q' : Nat → Prop} {ex : Nat → Nat} {L : List Bool} {F : List Int} {lf : List Int}
theorem GU.settle (h : GU next a q ex L F lf) (k : Nat) (hq : ∀ j, q j → j = k ∨ q' j) (hk : ¬ (L.getD k false = true ∧ lf.getD k 0 = 0)) : GU next a q' ex L F lf :=
  ⟨h.len, h.lenF, h.nodup, h.inW, h.inA, h.sup, h.val, fun j hj hnq hL => by
    by_cases e : q j
    · rcases hq j e with rfl | h2
      · exact fun h0 => hk ⟨hL, h0⟩
      · exact absurd h2 hnq
    · exact h.pos j hj e hL, h.small⟩
theorem GU.take (h : GU next a q ex L F lf) (k : Nat) (hq : ∀ j, q j → j = k ∨ q' j) (hk : L.getD k false = true) (h0 : lf.getD k 0 = 0) : GU next a q' ex (L.set k false) (F ++ [(k : Int)]) lf := by
  have hkl := getD_lt hk
  have hkn : k < next.length := by rw [← h.len]; exact hkl
  have hal : ∀ i, al (L.set k false) (F ++ [(k : Int)]) i = al L F i := fun i => by
    unfold al
    rw [set_getD _ _ _ hkl]
    by_cases e : i = k
    · subst e; rw [if_pos rfl, hk]; simp
    · have e2 : ((i : Int) ∈ F ++ [(k : Int)]) ↔ (i : Int) ∈ F := by simp; omega
      rw [if_neg e, decide_eq_decide.2 e2]
  have hsum : ∀ j, sumG next (L.set k false) (F ++ [(k : Int)]) j = sumG next L F j := fun j => sumTo_congr _ fun i _ => by rw [hal]
  have hz : sumG next L F k = 0 := by have := h.val k hkn; omega
  have hnot : ¬ EGp next a k := by
    rintro ⟨S, h1, h2⟩
    obtain ⟨_, _, k', he, hs⟩ := h2 k h1
    have hE : EGp next a k' := ⟨S, hs, h2⟩
    have hL := h.sup k' hE
    have := sumTo_mem next.length (fun i => if al L F i = true then cE next k i else 0) k' he.2
    have hal2 : al L F k' = true := by unfold al; rw [hL]; rfl
    have hc : 0 < cE next k k' := List.count_pos_iff.2 he.1
    unfold sumG at hz
    simp only [hal2, if_true] at this
    omega
  have hkF : (k : Int) ∉ F := fun hm => by
    obtain ⟨j, h1, _, h3⟩ := h.inW _ hm
    have : j = k := by omega
    subst this; rw [hk] at h3; simp at h3
  refine ⟨by rw [List.length_set, h.len], h.lenF, ?_, fun x hx => ?_, fun j hj => ?_, fun j hj => ?_, fun j hj => by rw [hsum]; exact h.val j hj, fun j hj hnq hL => ?_, ?_⟩
  · rw [List.nodup_append]
    refine ⟨h.nodup, by simp, fun x hx y hy => ?_⟩
    simp at hy; subst hy; exact fun e => hkF (e ▸ hx)
  · rcases List.mem_append.1 hx with h1 | h1
    · obtain ⟨j, h2, h3, h4⟩ := h.inW x h1
      refine ⟨j, h2, h3, ?_⟩
      rw [set_getD _ _ _ hkl]; split; rfl; exact h4
    · simp at h1
      exact ⟨k, h1, hkn, by rw [set_getD _ _ _ hkl, if_pos rfl]⟩
  · rw [set_getD _ _ _ hkl] at hj
    split at hj
    · simp at hj
    · exact h.inA j hj
  · rw [set_getD _ _ _ hkl]
    split
    · rename_i e; subst e; exact absurd hj hnot
    · exact h.sup j hj
  · rw [set_getD _ _ _ hkl] at hL
    split at hL
    · simp at hL
    · rename_i e
      refine h.pos j hj (fun hqj => ?_) hL
      rcases hq j hqj with h2 | h2
      · exact e h2
      · exact hnq h2
  · have := cnt_unset L k hkl hk
    have := h.small
    simp; omega
theorem GU.pop {W : List Int} {x : Int} (h : GU next a noQ noX L (W ++ [x]) lf) (hB : BackAt next next.length 0 rows) : ∃ i0 : Nat, x = (i0 : Int) ∧ i0 < next.length ∧ GU next a noQ (fun k => ((rows.getD i0 []).drop 0).count (k : Int)) L W lf := by
  obtain ⟨i0, rfl, hi0, hL0⟩ := h.inW x (by simp)
  have hnd := h.nodup
  rw [List.nodup_append] at hnd
  have hni : (i0 : Int) ∉ W := fun hm => hnd.2.2 _ hm _ (by simp) rfl
  refine ⟨i0, rfl, hi0, h.len, h.lenF, hnd.1, fun y hy => h.inW y (by simp [hy]), h.inA, h.sup, fun k hk => ?_, h.pos, by have := h.small; simp at this; omega⟩
  rw [h.val k hk, List.drop_zero, back_count hB hi0 hk]
  have hu := sumTo_upd next.length (f := fun i => if al L (W ++ [(i0 : Int)]) i = true then cE next k i else 0) (g := fun i => if al L W i = true then cE next k i else 0) i0 hi0 (fun i _ hne => by
    have : al L (W ++ [(i0 : Int)]) i = al L W i := by
      unfold al
      have e2 : ((i : Int) ∈ W ++ [(i0 : Int)]) ↔ (i : Int) ∈ W := by simp; omega
      rw [decide_eq_decide.2 e2]
    rw [this])
  have h1 : al L (W ++ [(i0 : Int)]) i0 = true := by unfold al; simp
  have h2 : al L W i0 = false := by unfold al; rw [hL0]; simp [hni]
  simp only [h1, h2, if_true] at hu
  unfold sumG noX
  simp at hu ⊢
  omega
theorem GU.dec {row : List Int} {m k : Nat} (h : GU next a noQ (fun k => (row.drop m).count (k : Int)) L F lf) (hm : m < row.length) (hk : row.getD m 0 = (k : Int)) (hkn : k < next.length) :
    GU next a (fun j => j = k) (fun k => (row.drop (m + 1)).count (k : Int)) L F (lf.set k (lf.getD k 0 - 1)) := by
  have hkl : k < lf.length := by rw [h.lenF]; exact hkn
  rw [getD_get _ _ hm] at hk
  refine ⟨h.len, by rw [List.length_set, h.lenF], h.nodup, h.inW, h.inA, h.sup, fun j hj => ?_, fun j hj hne hL => ?_, h.small⟩
  · have hv := h.val j hj
    have hvk := h.val k hkn
    rw [iget_set _ _ _ hkl]
    rw [List.drop_eq_getElem_cons hm, List.count_cons, hk] at hv hvk
    by_cases e : j = k
    · subst e
      rw [if_pos rfl]; simp at hv ⊢; omega
    · have e2 : ((k : Int) == (j : Int)) = false := by simp; omega
      rw [if_neg e, hv, e2]; simp
  · rw [iget_set _ _ _ hkl, if_neg hne]
    exact h.pos j hj (fun h => h) hL
theorem GU.bound (h : GU next a q ex L F lf) (hl : next.length ≤ 100) (hr : ∀ r ∈ next, r.length ≤ 200) (hx : ∀ k, ex k ≤ 20000) (k : Nat) : 0 ≤ lf.getD k 0 ∧ lf.getD k 0 ≤ 40000 := by
  rcases Nat.lt_or_ge k next.length with hk | hk
  · have := h.val k hk
    have h2 : sumG next L F k ≤ next.length * 200 := sumTo_le _ _ fun i _ => by
      split
      · exact cE_le hr k i
      · omega
    have := hx k
    omega
  · rw [List.getD, List.getElem?_eq_none (by rw [h.lenF]; exact hk)]; simp
theorem GU.close {row : List Int} {m : Nat} (h : GU next a noQ (fun k => (row.drop m).count (k : Int)) L F lf) (hm : row.length ≤ m) : GU next a noQ noX L F lf :=
  ⟨h.len, h.lenF, h.nodup, h.inW, h.inA, h.sup, fun k hk => by rw [h.val k hk, List.drop_eq_nil_of_le hm]; simp [noX], h.pos, h.small⟩
theorem GU.done (h : GU next a noQ noX L [] lf) : L = egL next a := by
  refine set_ext (by rw [h.len, egL_length]) fun i _ => ?_
  rw [egL_at]
  refine ⟨eg_closed next a L (fun i hi => ?_) i, h.sup i⟩
  have hin : i < next.length := by rw [← h.len]; exact getD_lt hi
  refine ⟨hin, h.inA i hi, ?_⟩
  have h1 := h.val i hin
  have h2 := h.pos i hin (fun h => h) hi
  obtain ⟨k, hk, hk2⟩ := sumTo_pos next.length (f := fun j => if al L [] j = true then cE next i j else 0) (by unfold sumG noX at h1; omega)
  have hak : al L [] k = true := by
    cases e : al L [] k with
    | true => rfl
    | false => rw [e] at hk2; simp at hk2
  simp only [hak, if_true] at hk2
  refine ⟨k, ⟨List.count_pos_iff.1 (Nat.pos_of_ne_zero hk2), hk⟩, ?_⟩
  unfold al at hak; simpa using hak
theorem GU.start (hB : BackAt next next.length 0 rows) (h : LAt next rows (itG next a 0) next.length 0 lf) : GU next a (fun j => 0 ≤ j) noX (itG next a 0) [] lf := by
  refine ⟨itG_length _ _ _, h.len, by simp, fun x hx => by simp at hx, fun j hj => ((itG_zero next a j).1 hj).2, itG_sup next a 0, fun k hk => ?_, fun k _ hq => absurd (Nat.zero_le _) hq, ?_⟩
  · rw [h.val k hk]
    unfold sumG noX al
    simp
  · have := cnt_le (itG next a 0); rw [itG_length] at this; simpa using this
end

/-! ### memory -/
/-- an own row of ints -/
def OI (w : World) (base : Nat) (v : Value) (l : List Int) : Prop := w.ownsRow base 3 1 v l.length (l.map (Value.int .i64))
theorem OI.made (w : World) (n : Nat) (hn : n ≤ 9223372036854775807) : OI (w.alloc (.cells (madeCells #[.int .i64 0] n) 3)) w.heap.size (.slice (some ⟨w.heap.size, 0, none⟩) n n) (List.replicate n 0) := by
  have := World.ownsRow_lit (e := 3) (size := 1) (base := w.heap.size) w (madeCells #[.int .i64 0] n) n (Nat.le_refl _) (by simpa [maxLen] using hn) (by rw [size_madeCells, Nat.mul_one])
  rw [toList_madeCells_one] at this
  unfold OI
  rw [List.length_replicate, List.map_replicate]
  exact this
theorem OI.len {w : World} {base g n c : Nat} {l : List Int} (h : OI w base (.slice (some ⟨g, 0, none⟩) n c) l) : n = l.length := by
  obtain ⟨A, c', e, _⟩ := own_form h
  cases e; rfl
theorem OI.cell {w : World} {base g n c : Nat} {l : List Int} (h : OI w base (.slice (some ⟨g, 0, none⟩) n c) l) {k : Nat} (hk : k < l.length) : w.cell? ⟨g, k, none⟩ = some (.int .i64 (l.getD k 0)) := by
  have hn := h.len
  subst hn
  refine own_cell h rfl ?_
  rw [List.getElem?_map, List.getD, List.getElem?_eq_getElem hk]; rfl
theorem OI.frozen {w : World} {base g n c : Nat} {l : List Int} (h : OI w base (.slice (some ⟨g, 0, none⟩) n c) l) (k : Nat) : w.frozen? ⟨g, k, none⟩ = false := by
  have hn := h.len
  subst hn
  exact World.ownsRow.frozenAt h k
theorem OI.set {w : World} {base g n c : Nat} {l : List Int} (h : OI w base (.slice (some ⟨g, 0, none⟩) n c) l) (k : Nat) (x : Int) : OI (w.setCell ⟨g, k, none⟩ (.int .i64 x)) base (.slice (some ⟨g, 0, none⟩) n c) (l.set k x) := by
  have hn := h.len
  subst hn
  have := (World.ownsRow.stored h k (.int .i64 x)).1
  unfold OI
  rw [List.length_set, List.map_set]
  exact this

structure GM0 (w : World) (hi : Nat) (va : Value) (rows : List (List Int)) (wx : World) (L : List Bool) (lf : List Int) : Prop where
  hi1 : w.heap.size + 2 ≤ hi
  hi2 : hi ≤ wx.heap.size
  out : OB wx w.heap.size (.slice (some ⟨w.heap.size, 0, none⟩) L.length L.length) L
  left : OI wx (w.heap.size + 1) (.slice (some ⟨w.heap.size + 1, 0, none⟩) lf.length lf.length) lf
  rows : (sliceR (sliceR (intR .i64))).one wx (SB (w.heap.size + 2) hi) va rows
  below : Below w.heap.size w wx
section
variable {w wx w' : World} {hi : Nat} {va : Value} {rows : List (List Int)} {L : List Bool} {F F' : List Int} {lf : List Int}
theorem GM0.set (h : GM0 w hi va rows wx L lf) (k : Nat) (x : Bool) : GM0 w hi va rows (wx.setCell ⟨w.heap.size, k, none⟩ (.bool x)) (L.set k x) lf := by
  have := h.hi1
  exact ⟨h.hi1, by simpa using h.hi2, by rw [List.length_set]; exact h.out.set k x, own_far h.left (by simp) _, slice_keep h.rows (Kp.set _ _ _ (fun hs => by have := hs.1; simp at this <;> omega)), h.below.setCell (Nat.le_refl _) _⟩
theorem GM0.setL (h : GM0 w hi va rows wx L lf) (k : Nat) (x : Int) : GM0 w hi va rows (wx.setCell ⟨w.heap.size + 1, k, none⟩ (.int .i64 x)) L (lf.set k x) := by
  have := h.hi1
  exact ⟨h.hi1, by simpa using h.hi2, ownsRow_setCell_other h.out (by simp [Value.ownBlock]) _, by rw [List.length_set]; exact h.left.set k x, slice_keep h.rows (Kp.set _ _ _ (fun hs => by have := hs.1; simp at this <;> omega)), h.below.setCell (by simp) _⟩
theorem GM0.later (h : GM0 w hi va rows wx L lf) (hb : Below hi wx w') : GM0 w hi va rows w' L lf := by
  have := h.hi1
  exact ⟨h.hi1, Nat.le_trans h.hi2 hb.size, own_below h.out hb (fun g hg => by simp [Value.ownBlock] at hg; omega), own_below h.left hb (fun g hg => by simp [Value.ownBlock] at hg; omega), slice_keep h.rows (Kp.below hb fun b hb => hb.2), h.below.trans (hb.mono (by omega))⟩
end
end
section
open Go.RowKit

theorem GM0.row {w wx : World} {hi n : Nat} {rows : List (List Int)} {L : List Bool} {lf : List Int} (h : GM0 w hi (.slice (some ⟨w.heap.size + 2, 0, none⟩) n n) rows wx L lf) {k : Nat} (hk : k < rows.length) :
    ∃ A' c', wx.cell? ⟨w.heap.size + 2, k, none⟩ = some (.slice A' (rows.getD k []).length c') ∧ (rows.getD k []).length ≤ c' ∧ c' ≤ 9223372036854775807 ∧ (sliceR (intR .i64)).one wx (SB (w.heap.size + 2) hi) (.slice A' (rows.getD k []).length c') (rows.getD k []) := by
  have := rows_at h.rows hk
  rw [List.getD, List.getElem?_eq_getElem hk]
  simpa using this
theorem GM0.start {w w0 w1 : World} {n : Nat} {L : List Bool} {lf : List Int} {rows : List (List Int)} (ho : OB w0 w.heap.size (.slice (some ⟨w.heap.size, 0, none⟩) n n) L) (hn : n = L.length)
    (hlf : OI w0 (w.heap.size + 1) (.slice (some ⟨w.heap.size + 1, 0, none⟩) n n) lf) (hn2 : n = lf.length) (hb0 : Below w.heap.size w w0) (hor : OwnRws w1 (w.heap.size + 2) rows) (hs : w0.heap.size = w.heap.size + 2) (hb1 : Below (w.heap.size + 2) w0 w1)
    (hx : ∀ r ∈ rows, ∀ x ∈ r, -9223372036854775808 ≤ x ∧ x ≤ 9223372036854775807) (hl : rows.length ≤ 9223372036854775807) :
    GM0 w w1.heap.size (.slice (some ⟨w.heap.size + 2, 0, none⟩) rows.length rows.length) rows w1 L lf := by
  have h1 : OB w0 w.heap.size (.slice (some ⟨w.heap.size, 0, none⟩) L.length L.length) L := by rw [← hn]; exact ho
  have h2 : OI w0 (w.heap.size + 1) (.slice (some ⟨w.heap.size + 1, 0, none⟩) lf.length lf.length) lf := by rw [← hn2]; exact hlf
  rw [← hs] at hb1
  exact ⟨by have := hb1.size; omega, Nat.le_refl _, own_below' h1 hb1, own_below' h2 hb1, hor.read hx hl, hb0.trans (hb1.mono (by omega))⟩
/-- the head of the worklist's loop -/
def HeadG (next : List (List Int)) (a : List Bool) (o : Bool) (x : Int) (L : List Bool) (W lf : List Int) : Prop := (o = false ∧ W = [] ∧ GU next a noQ noX L [] lf) ∨ (o = true ∧ GU next a noQ noX L (W ++ [x]) lf)

set_option maxRecDepth 100000 in
set_option maxHeartbeats 8000000 in
theorem eg_any (next : List (List Int)) (a : List Bool) (vn va : Value) (w : World) (hl : next.length ≤ 100) (hr : ∀ r ∈ next, r.length ≤ 200) (hla : a.length ≤ 9223372036854775807) (hn : RR w vn next) (ha : RB w va a) :
    Calls Tryz.prog 23 #[vn, va] w (SetPost (egL next a) w) := by
  obtain ⟨A, c, rfl, hc⟩ := hn.form
  obtain ⟨B, cb, rfl, hcb⟩ := ha.form
  have hmk := run_make_row' (P := Tryz.prog) 47 4 (.bool false) 1 Tryz.underlying47 boolInfo rfl .i64 .i64 next.length (by omega) (by omega)
  have hmk2 := run_make_row' (P := Tryz.prog) 55 3 (.int .i64 0) 8 Tryz.underlying55 intInfo rfl .i64 .i64 next.length (by omega) (by omega)
  have hb0 := ((Below.refl w.heap.size w).alloc (Nat.le_refl _) (.cells (madeCells #[.bool false] next.length) 4)).alloc (by simp) (.cells (madeCells #[.int .i64 0] next.length) 3)
  have ho := (OB.made w next.length (by omega)).below ((Below.refl _ _).alloc (Nat.le_refl _) (.cells (madeCells #[.int .i64 0] next.length) 3))
  have hlf := OI.made (w.alloc (.cells (madeCells #[.bool false] next.length) 4)) next.length (by omega)
  have hbk := back_any next _ ((w.alloc (.cells (madeCells #[.bool false] next.length) 4)).alloc (.cells (madeCells #[.int .i64 0] next.length) 3)) hl hr (hn.below hb0)
  have hsz : ((w.alloc (.cells (madeCells #[.bool false] next.length) 4)).alloc (.cells (madeCells #[.int .i64 0] next.length) 3)).heap.size = w.heap.size + 2 := by simp
  rw [hsz] at hbk
  rw [Go.Deep.nblk_alloc] at hlf
  have Hbk := hide hbk
  have Ho := hide ho
  have Hlf := hide hlf
  have Hb0 := hide hb0
  have Hsz := hide hsz
  have Hr := hide hr
  clear hbk ho hlf hb0 hsz hr
  go_enter Tryz.func23, Tryz.ntmps23
  go_wp2_with (go_at_call 38; refine Hbk.out.mono ?_; rintro e w1 ⟨rfl, rows, hrows, hor, hb1⟩)
  have hrl : rows.length = next.length := hrows.len
  have hst := GM0.start Ho.out (by simp) Hlf.out (by simp) Hb0.out hor Hsz.out hb1 (rows_ok hrows hl) (by omega)
  rw [hrl] at hst
  have hrl2 : next.length ≤ rows.length := by omega
  have Hst := hide hst
  have Hrows := hide hrows
  have Hrl := hide hrl
  have hgs : w.heap.size + 2 ≤ w1.heap.size := hst.hi1
  clear hst hrows hor hb1 hrl Ho Hlf Hb0 Hbk Hsz hmk hmk2
  go_loopw [29] (fun i wx => ∃ (k : Nat) (L : List Bool) (s : Bool), k ≤ next.length ∧ i = .int .i64 (k : Int) ∧ UAt (List.replicate next.length false) (itG next a 0) k L s ∧ GM0 w w1.heap.size (.slice (some ⟨w.heap.size + 2, 0, none⟩) next.length next.length) rows wx L (List.replicate next.length 0) ∧ wx.heap.size = w1.heap.size) (fun i wx => next.length - (intOf i).toNat)
  case atStart => exact ⟨0, _, true, Nat.zero_le _, rfl, UAt.start _ _ (by rw [itG_length, List.length_replicate]), Hst.out, rfl⟩
  case round =>
    clear Hst
    obtain ⟨k, L, sx, hk, rfl, hL, hM, hws⟩ := hrel
    rename World => wx
    by_cases hlt : k < next.length
    · have h1 := labelIs_any a _ (k : Int) wx (by omega) (ha.below hM.below)
      rw [isB_nat] at h1
      have hLl := hL.len
      rw [List.length_replicate] at hLl
      have c1 := hM.out.cell (k := k) (by omega)
      have f1 := hM.out.frozen k
      have hst := hL.next (by rw [List.length_replicate]; exact hlt)
      have hg0 : (itG next a 0).getD k false = a.getD k false := by
        rw [Bool.eq_iff_iff, itG_zero]; exact ⟨fun h => h.2, fun h => ⟨hlt, h⟩⟩
      rw [hg0] at hst
      have hrel : ∀ v, v = a.getD k false → ∃ (k_1 : Nat) (L_1 : List Bool) (s_1 : Bool), k_1 ≤ next.length ∧ Value.int .i64 ((k : Int) + 1) = .int .i64 (k_1 : Int) ∧ UAt (List.replicate next.length false) (itG next a 0) k_1 L_1 s_1 ∧ GM0 w w1.heap.size (.slice (some ⟨w.heap.size + 2, 0, none⟩) next.length next.length) rows (wx.setCell ⟨w.heap.size, k, none⟩ (.bool v)) L_1 (List.replicate next.length 0) ∧ (wx.setCell ⟨w.heap.size, k, none⟩ (.bool v)).heap.size = w1.heap.size := by
        rintro v rfl
        exact ⟨k + 1, _, _, by omega, by go_num, hst, hM.set k _, by simpa using hws⟩
      have Hrel := hide hrel
      have H1 := hide h1
      have Hws := hide hws
      clear hrel h1 hLl hst hL hM hg0 hws
      generalize L.getD k false = y at *
      generalize a.getD k false = p at *
      go_wp2_with (go_at_call 36; refine H1.out.mono ?_; rintro e w2 ⟨rfl, rfl⟩)
      go_roundw
      case rel => exact Hrel.out _ rfl
      case measure => simp [intOf]; omega
    · obtain rfl : k = next.length := by omega
      have hLd := hL
      have e1 : (List.replicate next.length false).length = next.length := List.length_replicate
      rw [show UAt (List.replicate next.length false) (itG next a 0) next.length L sx = UAt (List.replicate next.length false) (itG next a 0) (List.replicate next.length false).length L sx from by rw [e1]] at hLd
      have hLe := hLd.done.1
      subst hLe
      clear hL hLd e1
      have hLl := itG_length next a 0
      have hss := fun lf h => GU.start (a := a) Hrows.out (lf := lf) h
      generalize itG next a 0 = L at *
      have HM := hide hM
      have Hws := hide hws
      have HLl := hide hLl
      have Hss := hide hss
      clear hM hws hLl hss
      go_wp2_with fail
      go_loopw [41] (fun i wy => ∃ (k : Nat) (lf : List Int), k ≤ next.length ∧ i = .int .i64 (k : Int) ∧ LAt next rows L k 0 lf ∧ GM0 w w1.heap.size (.slice (some ⟨w.heap.size + 2, 0, none⟩) next.length next.length) rows wy L lf ∧ wy.heap.size = w1.heap.size) (fun i wx => next.length - (intOf i).toNat)
      case atStart => exact ⟨0, _, Nat.zero_le _, rfl, LAt.start next rows L, HM.out, Hws.out⟩
      case round =>
        clear HM Hws
        obtain ⟨k, lf, hk, rfl, hA, hM, hws⟩ := hrel
        rename World => wy
        by_cases hlt : k < next.length
        · obtain ⟨A', c', hcell, hc1, hc2, hri⟩ := hM.row (k := k) (by omega)
          have hbA := fun (m : Nat) hm => back_at Hrows.out hlt (m := m) hm
          obtain ⟨row, hrw⟩ : ∃ row, row = rows.getD k [] := ⟨_, rfl⟩
          have hrowl : row.length ≤ 20000 := by rw [hrw]; have := Hrows.out.small k; omega
          rw [← hrw] at hcell hc1 hri hbA
          have HA := hide hA
          have HM := hide hM
          have Hws := hide hws
          have HbA := hide hbA
          have Hri := hide hri
          have Hrw := hide hrw
          clear hA hM hws hbA hri hrw
          go_wp2_with fail
          go_loopw [48] (fun i wz => ∃ (m : Nat) (lf : List Int), m ≤ row.length ∧ i = .int .i64 (m : Int) ∧ LAt next rows L k m lf ∧ GM0 w w1.heap.size (.slice (some ⟨w.heap.size + 2, 0, none⟩) next.length next.length) rows wz L lf ∧ wz.heap.size = w1.heap.size ∧ Kp (SB (w.heap.size + 2) w1.heap.size) wy wz) (fun i wx => row.length - (intOf i).toNat)
          case atStart => exact ⟨0, lf, Nat.zero_le _, rfl, HA.out, HM.out, Hws.out, Kp.refl _ _⟩
          case round =>
            clear HA HM Hws
            obtain ⟨m, lf, hm, rfl, hA, hM, hws, hKp⟩ := hrel
            rename World => wz
            by_cases hmlt : m < row.length
            · obtain ⟨i, hi, hin, hed⟩ := HbA.out m hmlt
              obtain ⟨b2, o2, rfl, hcell2⟩ := rowS_at (slice_keep Hri.out hKp) hmlt
              rw [hi] at hcell2
              have hlfl := hA.len
              have c1 := hM.out.cell (k := k) (by have := HLl.out; omega)
              have c2 := hM.left.cell (k := i) (by omega)
              have f2 := hM.left.frozen i
              have hsk := hA.skip (m := m)
              have had := hA.add (m := m) (q := i)
              rw [← Hrw.out] at had
              have hsm := hA.small i
              have hM2 := hM.setL i (lf.getD i 0 + 1)
              have hK2 := hKp.trans (Kp.set (S := SB (w.heap.size + 2) w1.heap.size) wz ⟨w.heap.size + 1, i, none⟩ (.int .i64 (lf.getD i 0 + 1)) (fun h => by have := h.1; simp at this <;> omega))
              have hadd := fun h => had h hmlt hi hin
              generalize lf.getD i 0 = z at *
              generalize L.getD k false = y at *
              have Hsk := hide hsk
              have Hadd := hide hadd
              have HM := hide hM
              have HM2 := hide hM2
              have HK2 := hide hK2
              have HKp := hide hKp
              have Hws := hide hws
              clear hsk hadd had hM hM2 hK2 hKp hws hi hed hA hlfl
              cases y with
              | true =>
                go_wp2_with fail
                go_roundw
                case rel => exact ⟨m + 1, _, by omega, by go_num, Hadd.out (by simp), HM2.out, by simpa using Hws.out, HK2.out⟩
                case measure => simp [intOf]; omega
              | false =>
                go_wp2_with fail
                go_roundw
                case rel => exact ⟨m + 1, _, by omega, by go_num, Hsk.out (by simp), HM.out, Hws.out, HKp.out⟩
                case measure => simp [intOf]; omega
            · obtain rfl : m = row.length := by omega
              rw [Hrw.out] at hA
              have hA2 := hA.row Hrows.out hlt (by rw [← Hrw.out]; exact hrowl)
              have HA2 := hide hA2
              have HM2 := hide hM
              have Hws2 := hide hws
              clear hA hA2 hM hws hKp
              go_wp2_with fail
              go_roundw
              case rel => exact ⟨k + 1, lf, by omega, by go_num, HA2.out, HM2.out, Hws2.out⟩
              case measure => simp [intOf]; omega
        · obtain rfl : k = next.length := by omega
          have hG := Hss.out _ hA
          rw [← hws] at hM hgs
          have hM2 := hM.later ((Below.refl wy.heap.size wy).alloc (Nat.le_refl _) (.cells #[.slice none 0 0] 116))
          have hS2 := StackAt.new wy
          have HG := hide hG
          have HM := hide hM2
          have HS := hide hS2
          clear hG hM hws hA hM2 hS2
          go_wp2_with fail
          go_loopw [66] (fun i wx => ∃ (k : Nat) (L : List Bool) (F : List Int), k ≤ next.length ∧ i = .int .i64 (k : Int) ∧ GU next a (fun j => k ≤ j) noX L F lf ∧ GM0 w wy.heap.size (.slice (some ⟨w.heap.size + 2, 0, none⟩) next.length next.length) rows wx L lf ∧ StackAt wx wy.heap.size F) (fun i wx => next.length - (intOf i).toNat)
          case atStart => exact ⟨0, L, [], Nat.zero_le _, rfl, HG.out, HM.out, HS.out⟩
          case round =>
            clear HG HM HS HLl
            obtain ⟨k, L, F, hk, rfl, hG, hM, hS⟩ := hrel
            rename World => wx
            have hLl := hG.len
            have hlfl := hG.lenF
            have hsm := hG.small
            by_cases hlt : k < next.length
            · have c1 := hM.out.cell (k := k) (by omega)
              have f1 := hM.out.frozen k
              have c2 := hM.left.cell (k := k) (by omega)
              have hbd := hG.bound hl Hr.out (fun _ => by unfold noX; omega) k
              have hpu := pushL_any F (k : Int) wy.heap.size (wx.setCell ⟨w.heap.size, k, none⟩ (.bool false)) (by omega) (hS.far (by simp; omega) _)
              have hM2 := hM.set k false
              have hse := hG.settle (q' := fun j => k + 1 ≤ j) k (fun j hj => by omega)
              have hta := hG.take (q' := fun j => k + 1 ≤ j) k (fun j hj => by omega)
              generalize L.getD k false = y at *
              generalize lf.getD k 0 = z at *
              have Hpu := hide hpu
              have HM := hide hM
              have HM2 := hide hM2
              have Hse := hide hse
              have Hta := hide hta
              have HS := hide hS
              clear hpu hM hM2 hse hta hS hG
              cases y with
              | false =>
                go_wp2_with fail
                go_roundw
                case rel => exact ⟨k + 1, L, F, by omega, by go_num, Hse.out (by simp), HM.out, HS.out⟩
                case measure => simp [intOf]; omega
              | true =>
                by_cases hz : z = 0
                · subst hz
                  go_wp2_with (go_at_call 39; refine Hpu.out.mono ?_; rintro e w3 ⟨rfl, hs3, hb3⟩)
                  go_roundw
                  case rel => exact ⟨k + 1, _, _, by omega, by go_num, Hta.out (by simp) (by simp), HM2.out.later hb3, hs3⟩
                  case measure => simp [intOf]; omega
                · have hzz : (z == 0) = false := by simp [hz]
                  go_wp2_with fail
                  go_roundw
                  case rel => exact ⟨k + 1, L, F, by omega, by go_num, Hse.out (by simp [hz]), HM.out, HS.out⟩
                  case measure => simp [intOf]; omega
            · obtain rfl : k = next.length := by omega
              have hG2 : GU next a noQ noX L F lf := ⟨hG.len, hG.lenF, hG.nodup, hG.inW, hG.inA, hG.sup, hG.val, fun j hj _ => hG.pos j hj (by omega), hG.small⟩
              have hpop := pop_any F wy.heap.size wx (by omega) hS
              have Hpop := hide hpop
              have HG := hide hG2
              have HM := hide hM
              clear hpop hG hG2 hM hS
              go_wp2_with (go_at_call 40; refine Hpop.out.mono ?_; rintro e w2 ⟨x, o, W, rfl, hs2, hb2, ho2⟩)
              have hM2 := HM.out.later hb2
              have hH : HeadG next a o x L W lf := by
                rcases ho2 with ⟨rfl, rfl, rfl⟩ | ⟨rfl, rfl⟩
                · exact .inl ⟨rfl, rfl, HG.out⟩
                · exact .inr ⟨rfl, HG.out⟩
              have HH := hide hH
              have HM2 := hide hM2
              have HS2 := hide hs2
              clear hs2 hb2 ho2 hH hM2 HG HM
              go_loopw [15, 16] (fun i ok wx => ∃ (x : Int) (o : Bool) (L : List Bool) (W lf : List Int), i = .int .i64 x ∧ ok = .bool o ∧ HeadG next a o x L W lf ∧ GM0 w wy.heap.size (.slice (some ⟨w.heap.size + 2, 0, none⟩) next.length next.length) rows wx L lf ∧ StackAt wx wy.heap.size W) (fun i ok wx => 2 * cnt (boolsAt wx w.heap.size next.length) + lenAt wx wy.heap.size + okOf ok)
              case atStart => exact ⟨x, o, L, W, lf, rfl, rfl, HH.out, HM2.out, HS2.out⟩
              case round =>
                clear HH HM2 HS2 hlfl hLl hsm
                obtain ⟨x, o, L, W, lf, rfl, rfl, hH, hM, hS⟩ := hrel
                rename World => wp
                rcases hH with ⟨rfl, rfl, hW⟩ | ⟨rfl, hW⟩
                · have hd := hW.done
                  have Hd := hide hd
                  have HM := hide hM
                  clear hd hM hW hS
                  go_wp2_with fail
                  go_ret
                  refine ⟨w.heap.size, by rw [egL_length]; rfl, ?_, HM.out.below⟩
                  rw [← Hd.out]; exact HM.out.out
                · have hLl := hW.len
                  have hsm := hW.small
                  obtain ⟨k0, rfl, hk0, hW2⟩ := hW.pop Hrows.out
                  obtain ⟨A', c', hcell, hc1, hc2, hri⟩ := hM.row (k := k0) (by omega)
                  have hbA := fun (m : Nat) hm => back_at Hrows.out hk0 (m := m) hm
                  obtain ⟨row, hrw⟩ : ∃ row, row = rows.getD k0 [] := ⟨_, rfl⟩
                  have hrowl : row.length ≤ 20000 := by rw [hrw]; have := Hrows.out.small k0; omega
                  rw [← hrw] at hcell hc1 hri hW2 hbA
                  have e1 : boolsAt wp w.heap.size next.length = L := boolsAt_of (by have := hM.out; rw [hLl] at this; exact this) hLl.symm
                  have e2 : lenAt wp wy.heap.size = W.length := lenAt_of hS
                  obtain ⟨M0, hM0⟩ : ∃ M0, M0 = 2 * cnt L + W.length := ⟨_, rfl⟩
                  have HE1 := hide e1
                  have HE2 := hide e2
                  have HM0 := hide hM0
                  have HbA := hide hbA
                  have HW2 := hide hW2
                  have HM := hide hM
                  have HS := hide hS
                  have Hri := hide hri
                  clear e1 e2 hM0 hbA hW2 hM hS hri hrw hW hsm hLl
                  go_wp2_with fail
                  go_loopw [100] (fun j wx => ∃ (m : Nat) (L : List Bool) (F lf : List Int), m ≤ row.length ∧ j = .int .i64 (m : Int) ∧ GU next a noQ (fun k => (row.drop m).count (k : Int)) L F lf ∧ 2 * cnt L + F.length ≤ M0 ∧ GM0 w wy.heap.size (.slice (some ⟨w.heap.size + 2, 0, none⟩) next.length next.length) rows wx L lf ∧ StackAt wx wy.heap.size F ∧ Kp (SB (w.heap.size + 2) wy.heap.size) wp wx) (fun j wx => row.length - (intOf j).toNat)
                  case atStart => exact ⟨0, L, W, lf, Nat.zero_le _, rfl, HW2.out, by rw [HM0.out]; exact Nat.le_refl _, HM.out, HS.out, Kp.refl _ _⟩
                  case round =>
                    obtain ⟨m, L2, F, lf2, hm, rfl, hW, hmea, hM, hS, hKp⟩ := hrel
                    rename World => wq
                    have hLl := hW.len
                    have hlfl := hW.lenF
                    have hsm := hW.small
                    by_cases hlt : m < row.length
                    · obtain ⟨k, hi, hin, hed⟩ := HbA.out m hlt
                      obtain ⟨b2, o2, rfl, hcell2⟩ := rowS_at (slice_keep Hri.out hKp) hlt
                      rw [hi] at hcell2
                      have hbd := hW.bound hl Hr.out (fun k => Nat.le_trans List.count_le_length (by simp; omega)) k
                      have hdec := hW.dec hlt hi hin
                      have hse := hdec.settle (q' := noQ) k (fun j hj => .inl hj)
                      have hta := hdec.take (q' := noQ) k (fun j hj => .inl hj)
                      have hM1 := hM.setL k (lf2.getD k 0 - 1)
                      have hK1 := hKp.trans (Kp.set (S := SB (w.heap.size + 2) wy.heap.size) wq ⟨w.heap.size + 1, k, none⟩ (.int .i64 (lf2.getD k 0 - 1)) (fun h => by have := h.1; simp at this <;> omega))
                      have hS1 := hS.far (p := ⟨w.heap.size + 1, k, none⟩) (by simp; omega) (.int .i64 (lf2.getD k 0 - 1))
                      have hgk : (lf2.set k (lf2.getD k 0 - 1)).getD k 0 = lf2.getD k 0 - 1 := by rw [iget_set _ _ _ (by omega), if_pos rfl]
                      have c1 := hM.left.cell (k := k) (by omega)
                      have f1 := hM.left.frozen k
                      have c2 := hM1.left.cell (k := k) (by rw [List.length_set]; omega)
                      have c3 := hM1.out.cell (k := k) (by omega)
                      have f3 := hM1.out.frozen k
                      rw [hgk] at hse hta c2
                      have hM2 := hM1.set k false
                      have hK2 := hK1.trans (Kp.set (S := SB (w.heap.size + 2) wy.heap.size) _ ⟨w.heap.size, k, none⟩ (.bool false) (fun h => by have := h.1; simp at this <;> omega))
                      have hS2 := hS1.far (p := ⟨w.heap.size, k, none⟩) (by simp; omega) (.bool false)
                      have hpu := pushL_any F (k : Int) wy.heap.size _ (by omega) hS2
                      have hcs := fun h => cnt_unset L2 k (by omega) h
                      generalize lf2.getD k 0 = z at *
                      generalize L2.getD k false = y at *
                      have Hse := hide hse
                      have Hta := hide hta
                      have HM1 := hide hM1
                      have HK1 := hide hK1
                      have HS1 := hide hS1
                      have HM2 := hide hM2
                      have HK2 := hide hK2
                      have Hpu := hide hpu
                      have Hcs := hide hcs
                      clear hse hta hM1 hK1 hS1 hM2 hK2 hS2 hpu hcs hdec hM hS hKp hW hgk hi hed HM HS HW2
                      cases y with
                      | false =>
                        go_wp2_with fail
                        go_roundw
                        case rel => exact ⟨m + 1, _, _, _, by omega, by go_num, Hse.out (by simp), hmea, HM1.out, HS1.out, HK1.out⟩
                        case measure => simp [intOf]; omega
                      | true =>
                        by_cases hz : z - 1 = 0
                        · have hzz : (z - 1 == 0) = true := by rw [hz]; rfl
                          have Hz := hide hz
                          clear hz
                          go_wp2_with (go_at_call 39; refine Hpu.out.mono ?_; rintro e w3 ⟨rfl, hs3, hb3⟩)
                          go_roundw
                          case rel =>
                            refine ⟨m + 1, _, _, _, by omega, by go_num, Hta.out (by simp) Hz.out, ?_, HM2.out.later hb3, hs3, HK2.out.trans (Kp.below hb3 fun b hb => hb.2)⟩
                            have := Hcs.out (by simp); simp; omega
                          case measure => simp [intOf]; omega
                        · have hzz : (z - 1 == 0) = false := by simp; omega
                          go_wp2_with fail
                          go_roundw
                          case rel => exact ⟨m + 1, _, _, _, by omega, by go_num, Hse.out (fun h => hz h.2), hmea, HM1.out, HS1.out, HK1.out⟩
                          case measure => simp [intOf]; omega
                    · have hW3 := hW.close (by omega)
                      have hpop := pop_any F wy.heap.size wq (by omega) hS
                      have Hpop := hide hpop
                      have HW3 := hide hW3
                      have HM3 := hide hM
                      have hme := hmea
                      clear hpop hW3 hM hS hW hKp HM HS HW2
                      obtain rfl : m = row.length := by omega
                      go_wp2_with (go_at_call 40; refine Hpop.out.mono ?_; rintro e w2 ⟨x2, o2, W2, rfl, hs2, hb2, ho2⟩)
                      have hM2 := HM3.out.later hb2
                      have hH : HeadG next a o2 x2 L2 W2 lf2 := by
                        rcases ho2 with ⟨rfl, rfl, rfl⟩ | ⟨rfl, rfl⟩
                        · exact .inl ⟨rfl, rfl, HW3.out⟩
                        · exact .inr ⟨rfl, HW3.out⟩
                      go_roundw
                      case rel => exact ⟨x2, o2, L2, W2, lf2, rfl, rfl, hH, hM2, hs2⟩
                      case measure =>
                        rw [HE1.out, HE2.out, boolsAt_of (L := L2) (by have := hM2.out; rw [hLl] at this; exact this) hLl.symm, lenAt_of hs2]
                        have := HM0.out
                        rcases ho2 with ⟨rfl, rfl, rfl⟩ | ⟨rfl, rfl⟩
                        · simp [okOf] at hme ⊢; omega
                        · simp [okOf] at hme ⊢; omega
end
section
open Go.RowKit

abbrev eBr (l : List Bool) : List (List AV) := l.map fun b => [eB b]
abbrev sB (l : List Bool) : AV := .sl 1 (eBr l)
abbrev eNx (next : List (List Int)) : List (List AV) := next.map fun r => [sI r]
abbrev sNx (next : List (List Int)) : AV := .sl 1 (eNx next)
theorem rt_bools {w : World} {S : Nat → Prop} {v : Value} {l : List Bool} (h : RT w S v (sB l)) (hS : SOk w S) : RB w v l := by
  obtain ⟨A, cap, rfl, hc, hm, _, hA⟩ := h.sl_inv
  refine ⟨A, cap, by simp, by simpa using hc, hm, fun h0 => ?_⟩
  obtain ⟨b, o, rfl, hb, U, hcell, hr, _⟩ := hA (by simpa using h0)
  refine ⟨b, o, rfl, hS b hb, fun i hi => ⟨[.bool l[i]], fun j u hu => ?_, rfl⟩⟩
  have h1 : (eBr l)[i]? = some [eB l[i]] := by simp [hi]
  have h2 := hcell i 0 _ _ h1 rfl
  have h3 := rtc (hr i 0 _ _ h1 rfl)
  cases j with
  | zero =>
    simp at hu
    subst hu
    rw [h3] at h2
    simpa [boolR] using h2
  | succ j => simp at hu
theorem rt_next {w : World} {S : Nat → Prop} {v : Value} {l : List (List Int)} (h : RT w S v (sNx l)) (hS : SOk w S) (hl : ∀ r ∈ l, ∀ x ∈ r, ok64 x) : RR w v l := by
  obtain ⟨A, cap, rfl, hc, hm, _, hA⟩ := h.sl_inv
  refine ⟨A, cap, by simp, by simpa using hc, hm, fun h0 => ?_⟩
  obtain ⟨b, o, rfl, hb, U, hcell, hr, _⟩ := hA (by simpa using h0)
  refine ⟨b, o, rfl, hS b hb, fun i hi => ?_⟩
  have h1 : (eNx l)[i]? = some [sI l[i]] := by simp [hi]
  have h2 := hcell i 0 _ _ h1 rfl
  have h3 := rt_ints (hr i 0 _ _ h1 rfl) hS (hl _ (List.getElem_mem hi))
  obtain ⟨A', c', h4, h5⟩ := h3
  refine ⟨[U i 0], fun j u hu => ?_, A', c', by rw [h4], h5⟩
  cases j with
  | zero =>
    simp at hu
    subst hu
    simpa [sliceR] using h2
  | succ j => simp at hu
theorem adet_of_bools {f : FuncId} {args : List AV} {l : List Bool} (he : Enters Tryz.prog f)
    (h : ∀ (S : Nat → Prop) (w : World) (vs : Array Value), SOk w S → vs.size = args.length → (∀ (j : Nat) (v : Value) (av : AV), vs[j]? = some v → args[j]? = some av → RT w S v av) → Calls Tryz.prog f vs w (SetPost l w)) : ADet Tryz.prog f args (own 4 1 (eBr l)) :=
  ⟨he, fun S w vs h1 h2 h3 => (h S w vs h1 h2 h3).mono fun e w' ⟨g, h4, h5, h6⟩ => by
    have hget : ∀ id o, (own 4 1 (eBr l)).tab.get id = some o → id = 0 ∧ o = .row 4 1 (eBr l) := fun id o ho => by
      simp only [own, ATab.get_cons] at ho
      split at ho
      · cases ho
        exact ⟨by assumption, rfl⟩
      · cases ho
    obtain ⟨v, hv⟩ : ∃ v : Value, v = .slice (some ⟨g, 0, none⟩) l.length l.length := ⟨_, rfl⟩
    rw [← hv] at h4 h5
    refine ⟨v, fun _ => v, _, rfl, own_ok .., h4, ⟨belowX h6, fun id o ho => ?_, fun id id' o o' g h7 h8 _ _ => ?_, fun b hb => hb.elim⟩, .osl _ _ fun sz u hk => ?_⟩
    · obtain ⟨_, rfl⟩ := hget id o ho
      refine ⟨fun row hr => ?_, _, by rw [List.length_map]; exact ownsR_of h5, fun x hx => ?_, fun i j row av ha hb => ?_⟩
      · obtain ⟨n, _, rfl⟩ := List.mem_map.1 hr
        rfl
      · obtain ⟨n, _, rfl⟩ := List.mem_map.1 hx
        rfl
      · rw [List.getElem?_map] at ha
        cases hi : l[i]? with
        | none => simp [hi] at ha
        | some n =>
          simp [hi] at ha
          subst ha
          cases j with
          | zero =>
            simp at hb
            subst hb
            exact ⟨.bool n, by simp [hi], .c _⟩
          | succ j => simp at hb
    · rw [(hget id o h7).1, (hget id' o' h8).1]
    · unfold Kx at hk
      cases ho : (own 4 1 (eBr l)).tab.get 0 with
      | none => simp [ho] at hk
      | some o => simp [ho] at hk; exact hk.2⟩
theorem threeA {vs : Array Value} (h : vs.size = 3) : ∃ a b c, vs = #[a, b, c] := ⟨vs[0], vs[1], vs[2], by apply Array.ext (by simpa using h); intro i h1 h2; simp at h2; match i with | 0 => rfl | 1 => rfl | 2 => rfl⟩
/-- places that are not too many -/
structure NxOk (next : List (List Int)) : Prop where
  len : next.length ≤ 100
  row : ∀ r ∈ next, r.length ≤ 200
  ok : ∀ r ∈ next, ∀ x ∈ r, ok64 x
theorem not_A (a : List Bool) (ha : a.length ≤ 1000000) : ADet Tryz.prog 19 [sB a] (own 4 1 (eBr (a.map (!·)))) :=
  adet_of_bools (enters_of Tryz.func19 rfl (by decide)) fun S w vs hS hn hv => by
    obtain ⟨x, rfl⟩ := oneA hn
    exact not_any a x w (by omega) (rt_bools (hv 0 x _ rfl rfl) hS)
theorem and_A (a b : List Bool) (ha : a.length ≤ 1000000) (hb : b.length ≤ 1000000) : ADet Tryz.prog 20 [sB a, sB b] (own 4 1 (eBr (andL a b))) :=
  adet_of_bools (enters_of Tryz.func20 rfl (by decide)) fun S w vs hS hn hv => by
    obtain ⟨x, y, rfl⟩ := two_args hn
    exact and_any a b x y w (by omega) (by omega) (rt_bools (hv 0 x _ rfl rfl) hS) (rt_bools (hv 1 y _ rfl rfl) hS)
theorem ex_A (next : List (List Int)) (a : List Bool) (hx : NxOk next) (ha : a.length ≤ 1000000) : ADet Tryz.prog 21 [sNx next, sB a] (own 4 1 (eBr (exL next a))) :=
  adet_of_bools (enters_of Tryz.func21 rfl (by decide)) fun S w vs hS hn hv => by
    obtain ⟨x, y, rfl⟩ := two_args hn
    exact ex_any next a x y w (by have := hx.len; omega) (fun r hr => by have := hx.row r hr; omega) (by omega) (rt_next (hv 0 x _ rfl rfl) hS hx.ok) (rt_bools (hv 1 y _ rfl rfl) hS)
theorem eu_A (next : List (List Int)) (a b : List Bool) (hx : NxOk next) (ha : a.length ≤ 1000000) (hb : b.length ≤ 1000000) : ADet Tryz.prog 22 [sNx next, sB a, sB b] (own 4 1 (eBr (euL next a b))) :=
  adet_of_bools (enters_of Tryz.func22 rfl (by decide)) fun S w vs hS hn hv => by
    obtain ⟨x, y, z, rfl⟩ := threeA hn
    exact eu_any next a b x y z w hx.len hx.row (by omega) (by omega) (rt_next (hv 0 x _ rfl rfl) hS hx.ok) (rt_bools (hv 1 y _ rfl rfl) hS) (rt_bools (hv 2 z _ rfl rfl) hS)
theorem eg_A (next : List (List Int)) (a : List Bool) (hx : NxOk next) (ha : a.length ≤ 1000000) : ADet Tryz.prog 23 [sNx next, sB a] (own 4 1 (eBr (egL next a))) :=
  adet_of_bools (enters_of Tryz.func23 rfl (by decide)) fun S w vs hS hn hv => by
    obtain ⟨x, y, rfl⟩ := two_args hn
    exact eg_any next a x y w hx.len hx.row (by omega) (rt_next (hv 0 x _ rfl rfl) hS hx.ok) (rt_bools (hv 1 y _ rfl rfl) hS)
end
section
open Go.RowKit

structure Edg where
  ev : Int
  us : Int
  dst : Int
abbrev eEd (e : Edg) : List AV := [eI e.ev, eI e.us, eI e.dst]
abbrev eEds (l : List (List Edg)) : List (List AV) := l.map fun r => [.sl 3 (r.map eEd)]
abbrev nextOf (l : List (List Edg)) : List (List Int) := l.map fun r => r.map Edg.dst
set_option maxRecDepth 100000 in
theorem gnext_A (sz : Nat) (rows : List (List AV)) (l : List (List Edg)) (hl : l.length ≤ 1000000) (hr : ∀ r ∈ l, r.length ≤ 1000000) : ADet Tryz.prog 9 [.agg [.sl sz rows, .sl 1 (eEds l)]] (own 55 1 (eNx (nextOf l))) := by
  refine adet_of_code mixedT Tryz.func9 rfl (by decide) Tryz.ntmps9 Tryz.results9 rfl (own_ok _ _ _) ?_
  (repeat' (first | simp (maxSteps := 5000000) (implicitDefEqProofs := false) only [ruA, ruB, aEv, aTake, aLoad, aField, aIndex, aLen, aBin, bin2, aUn, un1, aExtract, aConv, ASt.get, aget, ASt.put, aStore, aBox, aAppend, aBuildSlice, aMake, aBuild, aFill, oneParts, allC, aBinS, yv, aCells, oneC, oneCL, treeC, treeL, treeML, treeM_c, treeM_sl, treeM_rp, treeM_any, treeM_fn, treeM_bfn, aLit, aDst, aSrc, appTab, Value.cells, Value.oneCell', envOf, aResL, aOne, ↓reduceIte, reduceCtorEq, forall_const, Nat.reduceLT, Nat.reduceEqDiff, Nat.reduceAdd, Nat.reduceMul, Nat.reduceSub, Nat.reduceLeDiff, Nat.reduceBEq, eq_self, implies_true, ne_eq, dref, dref1, dref2, aExecS, aStoreB, aTakes, aTakeE, aElder, aFrom, aFresh, isLoad, aBuildSlice1, frzs, frz1, ownIds, AV.frz, AV.frzL, frzEnv, AV.shift, AV.shiftL, aFieldV, aSliceW, aSliceO, aSlice, aSliceR, aSliceS, aBd, aMax, frzAVs, frzAV, frzTab, AObj.frz, aMM, aNilS, aMay, aNil, aLenM, aClear, aLookup, aLookG, aMapUpd, aMapPut, keyV, aLookR, false_or, aExecU, tyF_42_1, tyA_40, tyS_40, tyE_40, tyK_40, tyK_3, tyA_60, tyS_60, tyE_60, tyK_60, tyA_59, tyS_59, tyZ_59, tyF_59_2, tyA_3, tyS_3, tyR_55, tyR_65] | (with_reducible refine aIf_split (fun _ => ?_) (fun _ => ?_)) | (with_reducible refine aSel_split (fun _ => ?_) (fun _ => ?_)) | (with_reducible refine aGd_split (fun _ => ?_) (fun _ => ?_))))
  refine aLoop_of (fun st => ∃ k : Nat, k ≤ l.length ∧ st = ⟨34, [(3, .osl 0), (10, .sl 1 (eEds l)), (11, eI (l.length : Int)), (12, eI (k : Int))], [(0, some (.row 55 1 (eNx (nextOf (l.take k)))))], 1⟩) (fun st => l.length - slotN st 12) ⟨_, ((weak_nil 3 55 1 (by simp only [ruW, ASt.get, aget, ASt.put, ↓reduceIte, reduceCtorEq, Nat.reduceLT, Nat.reduceEqDiff, Nat.reduceAdd, Nat.reduceLeDiff, eq_self, implies_true, nextOf, eNx, List.take_zero])).trans (weak_ren1 [1] ⟨(by decide), (by (first | ((simp only [envInR, tabInR, envLt, tabLt, AObj.lt, AV.lt, AV.ltL, AV.ren, AV.renL, AObj.ren, List.getD_cons_zero, List.getD_cons_succ, List.length_cons, List.length_nil, ruW, ASt.get, aget, ASt.put, ↓reduceIte, reduceCtorEq, Nat.reduceLT, Nat.reduceEqDiff, Nat.reduceAdd, Nat.reduceLeDiff, eq_self, implies_true, nextOf, eNx, List.take_zero]) <;> (repeat' apply And.intro) <;> first | (rw [wrapK (by omega)]; done) | (simp; done) | omega) | fail))⟩)), 0, Nat.zero_le _, rfl⟩ ?_
  rintro _ ⟨k, hk, rfl⟩
  by_cases hlt : k < l.length
  · have hrk := hr _ (List.getElem_mem hlt)
    obtain ⟨q, hq⟩ : ∃ q, q = l[k] := ⟨_, rfl⟩
    have hrow : (eEds l)[k]?.getD [] = [.sl 3 (q.map eEd)] := by rw [hq]; simp [eEds, hlt]
    rw [← hq] at hrk
    (repeat' (first | simp (maxSteps := 5000000) (implicitDefEqProofs := false) only [ruA, ruB, aEv, aTake, aLoad, aField, aIndex, aLen, aBin, bin2, aUn, un1, aExtract, aConv, ASt.get, aget, ASt.put, aStore, aBox, aAppend, aBuildSlice, aMake, aBuild, aFill, oneParts, allC, aBinS, yv, aCells, oneC, oneCL, treeC, treeL, treeML, treeM_c, treeM_sl, treeM_rp, treeM_any, treeM_fn, treeM_bfn, aLit, aDst, aSrc, appTab, Value.cells, Value.oneCell', envOf, aResL, aOne, ↓reduceIte, reduceCtorEq, forall_const, Nat.reduceLT, Nat.reduceEqDiff, Nat.reduceAdd, Nat.reduceMul, Nat.reduceSub, Nat.reduceLeDiff, Nat.reduceBEq, eq_self, implies_true, ne_eq, dref, dref1, dref2, aExecS, aStoreB, aTakes, aTakeE, aElder, aFrom, aFresh, isLoad, aBuildSlice1, frzs, frz1, ownIds, AV.frz, AV.frzL, frzEnv, AV.shift, AV.shiftL, aFieldV, aSliceW, aSliceO, aSlice, aSliceR, aSliceS, aBd, aMax, frzAVs, frzAV, frzTab, AObj.frz, aMM, aNilS, aMay, aNil, aLenM, aClear, aLookup, aLookG, aMapUpd, aMapPut, keyV, aLookR, false_or, aExecU, tyF_42_1, tyA_40, tyS_40, tyE_40, tyK_40, tyK_3, tyA_60, tyS_60, tyE_60, tyK_60, tyA_59, tyS_59, tyZ_59, tyF_59_2, tyA_3, tyS_3, tyR_55, tyR_65, hrow, hlt] | (with_reducible refine aIf_split (fun _ => ?_) (fun _ => ?_)) | (with_reducible refine aSel_split (fun _ => ?_) (fun _ => ?_)) | (with_reducible refine aGd_split (fun _ => ?_) (fun _ => ?_))))
    refine aLoop_of (fun st => ∃ j : Nat, j ≤ q.length ∧ st = ⟨34, [(3, .osl 0), (10, .sl 1 (eEds l)), (11, eI (l.length : Int)), (12, eI (k : Int)), (6, .osl 1), (16, .sl 3 (q.map eEd)), (17, eI (q.length : Int)), (18, eI (j : Int))], [(0, some (.row 55 1 (eNx (nextOf (l.take k))))), (1, some (.row 3 1 ((q.take j).map fun e => [eI e.dst])))], 2⟩) (fun st => q.length - slotN st 18) ⟨_, ((weak_nil 6 3 1 (by simp only [ruW, ASt.get, aget, ASt.put, ↓reduceIte, reduceCtorEq, Nat.reduceLT, Nat.reduceEqDiff, Nat.reduceAdd, Nat.reduceLeDiff, eq_self, implies_true, List.take_zero])).trans (weak_ren1 [0, 1] ⟨(by decide), (by (first | ((simp only [envInR, tabInR, envLt, tabLt, AObj.lt, AV.lt, AV.ltL, AV.ren, AV.renL, AObj.ren, List.getD_cons_zero, List.getD_cons_succ, List.length_cons, List.length_nil, ruW, ASt.get, aget, ASt.put, ↓reduceIte, reduceCtorEq, Nat.reduceLT, Nat.reduceEqDiff, Nat.reduceAdd, Nat.reduceLeDiff, eq_self, implies_true, List.take_zero]) <;> (repeat' apply And.intro) <;> first | (rw [wrapK (by omega)]; done) | (simp; done) | omega) | fail))⟩)), 0, Nat.zero_le _, rfl⟩ ?_
    · rintro _ ⟨j, hj, rfl⟩
      by_cases hlt2 : j < q.length
      · have et : (q.take (j + 1)).map (fun e => [eI e.dst]) = (q.take j).map (fun e => [eI e.dst]) ++ [[eI q[j].dst]] := take_snoc _ _ hlt2
        (repeat' (first | simp (maxSteps := 5000000) (implicitDefEqProofs := false) only [ruA, ruB, aEv, aTake, aLoad, aField, aIndex, aLen, aBin, bin2, aUn, un1, aExtract, aConv, ASt.get, aget, ASt.put, aStore, aBox, aAppend, aBuildSlice, aMake, aBuild, aFill, oneParts, allC, aBinS, yv, aCells, oneC, oneCL, treeC, treeL, treeML, treeM_c, treeM_sl, treeM_rp, treeM_any, treeM_fn, treeM_bfn, aLit, aDst, aSrc, appTab, Value.cells, Value.oneCell', envOf, aResL, aOne, ↓reduceIte, reduceCtorEq, forall_const, Nat.reduceLT, Nat.reduceEqDiff, Nat.reduceAdd, Nat.reduceMul, Nat.reduceSub, Nat.reduceLeDiff, Nat.reduceBEq, eq_self, implies_true, ne_eq, dref, dref1, dref2, aExecS, aStoreB, aTakes, aTakeE, aElder, aFrom, aFresh, isLoad, aBuildSlice1, frzs, frz1, ownIds, AV.frz, AV.frzL, frzEnv, AV.shift, AV.shiftL, aFieldV, aSliceW, aSliceO, aSlice, aSliceR, aSliceS, aBd, aMax, frzAVs, frzAV, frzTab, AObj.frz, aMM, aNilS, aMay, aNil, aLenM, aClear, aLookup, aLookG, aMapUpd, aMapPut, keyV, aLookR, false_or, aExecU, tyF_42_1, tyA_40, tyS_40, tyE_40, tyK_40, tyK_3, tyA_60, tyS_60, tyE_60, tyK_60, tyA_59, tyS_59, tyZ_59, tyF_59_2, tyA_3, tyS_3, tyR_55, tyR_65, row_at, hlt2] | (with_reducible refine aIf_split (fun _ => ?_) (fun _ => ?_)) | (with_reducible refine aSel_split (fun _ => ?_) (fun _ => ?_)) | (with_reducible refine aGd_split (fun _ => ?_) (fun _ => ?_))))
        refine ⟨rfl, ⟨by simp only [List.length_take]; omega, by simp only [List.length_take]; omega⟩, roundI (weak_ren1 [0, 4] ⟨(by decide), (by (first | ((simp only [envInR, tabInR, envLt, tabLt, AObj.lt, AV.lt, AV.ltL, AV.ren, AV.renL, AObj.ren, List.getD_cons_zero, List.getD_cons_succ, List.length_cons, List.length_nil, ruW, ASt.get, aget, ASt.put, ↓reduceIte, reduceCtorEq, Nat.reduceLT, Nat.reduceEqDiff, Nat.reduceAdd, Nat.reduceLeDiff, eq_self, implies_true, et]) <;> (repeat' apply And.intro) <;> first | (rw [wrapK (by omega)]; done) | (simp; done) | omega) | fail))⟩) ⟨j + 1, by omega, rfl⟩ (by simp only [slotN, ASt.get, aget, ASt.put, ↓reduceIte, Nat.reduceLT, Nat.reduceEqDiff]; omega)⟩
      obtain rfl : j = q.length := by omega
      (repeat' (first | simp (maxSteps := 5000000) (implicitDefEqProofs := false) only [ruA, ruB, aEv, aTake, aLoad, aField, aIndex, aLen, aBin, bin2, aUn, un1, aExtract, aConv, ASt.get, aget, ASt.put, aStore, aBox, aAppend, aBuildSlice, aMake, aBuild, aFill, oneParts, allC, aBinS, yv, aCells, oneC, oneCL, treeC, treeL, treeML, treeM_c, treeM_sl, treeM_rp, treeM_any, treeM_fn, treeM_bfn, aLit, aDst, aSrc, appTab, Value.cells, Value.oneCell', envOf, aResL, aOne, ↓reduceIte, reduceCtorEq, forall_const, Nat.reduceLT, Nat.reduceEqDiff, Nat.reduceAdd, Nat.reduceMul, Nat.reduceSub, Nat.reduceLeDiff, Nat.reduceBEq, eq_self, implies_true, ne_eq, dref, dref1, dref2, aExecS, aStoreB, aTakes, aTakeE, aElder, aFrom, aFresh, isLoad, aBuildSlice1, frzs, frz1, ownIds, AV.frz, AV.frzL, frzEnv, AV.shift, AV.shiftL, aFieldV, aSliceW, aSliceO, aSlice, aSliceR, aSliceS, aBd, aMax, frzAVs, frzAV, frzTab, AObj.frz, aMM, aNilS, aMay, aNil, aLenM, aClear, aLookup, aLookG, aMapUpd, aMapPut, keyV, aLookR, false_or, aExecU, tyF_42_1, tyA_40, tyS_40, tyE_40, tyK_40, tyK_3, tyA_60, tyS_60, tyE_60, tyK_60, tyA_59, tyS_59, tyZ_59, tyF_59_2, tyA_3, tyS_3, tyR_55, tyR_65, row_at, hlt2, List.take_length] | (with_reducible refine aIf_split (fun _ => ?_) (fun _ => ?_)) | (with_reducible refine aSel_split (fun _ => ?_) (fun _ => ?_)) | (with_reducible refine aGd_split (fun _ => ?_) (fun _ => ?_))))
      have et : eNx (nextOf (l.take (k + 1))) = eNx (nextOf (l.take k)) ++ [[.sl 1 (q.map fun e => [eI e.dst])]] := by
        rw [List.take_succ_eq_append_getElem hlt, ← hq]
        simp [eNx, nextOf, sI, Function.comp_def]
      refine ⟨rfl, ⟨by simp only [List.length_take]; omega, by simp only [List.length_take]; omega⟩, roundI (weak_ren1 [3] ⟨(by decide), (by (first | ((simp only [envInR, tabInR, envLt, tabLt, AObj.lt, AV.lt, AV.ltL, AV.ren, AV.renL, AObj.ren, List.getD_cons_zero, List.getD_cons_succ, List.length_cons, List.length_nil, ruW, ASt.get, aget, ASt.put, ↓reduceIte, reduceCtorEq, Nat.reduceLT, Nat.reduceEqDiff, Nat.reduceAdd, Nat.reduceLeDiff, eq_self, implies_true, et]) <;> (repeat' apply And.intro) <;> first | (rw [wrapK (by omega)]; done) | (simp; done) | omega) | fail))⟩) ⟨k + 1, by omega, rfl⟩ (by simp only [slotN, ASt.get, aget, ASt.put, ↓reduceIte, Nat.reduceLT, Nat.reduceEqDiff]; omega)⟩
  obtain rfl : k = l.length := by omega
  (repeat' (first | simp (maxSteps := 5000000) (implicitDefEqProofs := false) only [ruA, ruB, aEv, aTake, aLoad, aField, aIndex, aLen, aBin, bin2, aUn, un1, aExtract, aConv, ASt.get, aget, ASt.put, aStore, aBox, aAppend, aBuildSlice, aMake, aBuild, aFill, oneParts, allC, aBinS, yv, aCells, oneC, oneCL, treeC, treeL, treeML, treeM_c, treeM_sl, treeM_rp, treeM_any, treeM_fn, treeM_bfn, aLit, aDst, aSrc, appTab, Value.cells, Value.oneCell', envOf, aResL, aOne, ↓reduceIte, reduceCtorEq, forall_const, Nat.reduceLT, Nat.reduceEqDiff, Nat.reduceAdd, Nat.reduceMul, Nat.reduceSub, Nat.reduceLeDiff, Nat.reduceBEq, eq_self, implies_true, ne_eq, dref, dref1, dref2, aExecS, aStoreB, aTakes, aTakeE, aElder, aFrom, aFresh, isLoad, aBuildSlice1, frzs, frz1, ownIds, AV.frz, AV.frzL, frzEnv, AV.shift, AV.shiftL, aFieldV, aSliceW, aSliceO, aSlice, aSliceR, aSliceS, aBd, aMax, frzAVs, frzAV, frzTab, AObj.frz, aMM, aNilS, aMay, aNil, aLenM, aClear, aLookup, aLookG, aMapUpd, aMapPut, keyV, aLookR, false_or, aExecU, tyF_42_1, tyA_40, tyS_40, tyE_40, tyK_40, tyK_3, tyA_60, tyS_60, tyE_60, tyK_60, tyA_59, tyS_59, tyZ_59, tyF_59_2, tyA_3, tyS_3, tyR_55, tyR_65, hlt, List.take_length] | (with_reducible refine aIf_split (fun _ => ?_) (fun _ => ?_)) | (with_reducible refine aSel_split (fun _ => ?_) (fun _ => ?_)) | (with_reducible refine aGd_split (fun _ => ?_) (fun _ => ?_))))
  exact aGives_own (by simp [ATab.get_cons])
noncomputable def signF (next : List (List Int)) (sets : List (List Bool)) (s : Stp) : List Bool :=
  let a := sets.getD s.a.toNat []
  let b := sets.getD s.b.toNat []
  if (s.op == 15) = true then a.map (!·) else if (s.op == 16) = true then andL a b else if (s.op == 20) = true then exL next a else if (s.op == 26) = true then euL next a b else egL next a
abbrev eSets (l : List (List Bool)) : List (List AV) := l.map fun a => [sB a]
theorem eSets_at {l : List (List Bool)} {i : Int} (h : 0 ≤ i) (hl : i < l.length) : (eSets l)[i.toNat]?.getD [] = [sB (l.getD i.toNat [])] := by
  have : i.toNat < l.length := by omega
  simp [eSets, List.getD, this]
theorem getD_mem {l : List (List Bool)} {i : Int} (h : 0 ≤ i) (hl : i < l.length) : l.getD i.toNat [] ∈ l := by
  have : i.toNat < l.length := by omega
  simp [List.getD, this]
theorem bools_plain (l : List Bool) : ∀ row ∈ eBr l, ∀ a ∈ row, AV.plain a := by
  intro row hr a ha
  obtain ⟨x, _, rfl⟩ := List.mem_map.1 hr
  simp at ha
  subst ha
  trivial
set_option maxRecDepth 100000 in
set_option maxHeartbeats 4000000 in
theorem sign_A (next : List (List Int)) (sets : List (List Bool)) (s : Stp) (hx : NxOk next) (hs : ∀ a ∈ sets, a.length ≤ 1000000) (ha : 0 ≤ s.a ∧ s.a < sets.length) (hb : 0 ≤ s.b ∧ s.b < sets.length) :
    ADet Tryz.prog 11 [.rp [sNx next, .sl 1 (eSets sets)], .agg (eStp s)] (own 4 1 (eBr (signF next sets s))) := by
  refine adet_of_code mixedT Tryz.func11 rfl (by decide) Tryz.ntmps11 Tryz.results11 rfl (own_ok _ _ _) ?_
  obtain ⟨a0, a1⟩ := ha
  obtain ⟨b0, b1⟩ := hb
  have a2 : s.a.toNat < sets.length := by omega
  have b2 : s.b.toNat < sets.length := by omega
  have ra := eSets_at a0 a1
  have rb := eSets_at b0 b1
  have la := hs _ (getD_mem a0 a1)
  have lb := hs _ (getD_mem b0 b1)
  (repeat' (first | simp (maxSteps := 5000000) (implicitDefEqProofs := false) only [ruA, ruB, aEv, aTake, aLoad, aField, aIndex, aLen, aBin, bin2, aUn, un1, aExtract, aConv, ASt.get, aget, ASt.put, aStore, aBox, aAppend, aBuildSlice, aMake, aBuild, aFill, oneParts, allC, aBinS, yv, aCells, oneC, oneCL, treeC, treeL, treeML, treeM_c, treeM_sl, treeM_rp, treeM_any, treeM_fn, treeM_bfn, aLit, aDst, aSrc, appTab, Value.cells, Value.oneCell', envOf, aResL, aOne, ↓reduceIte, reduceCtorEq, forall_const, Nat.reduceLT, Nat.reduceEqDiff, Nat.reduceAdd, Nat.reduceMul, Nat.reduceSub, Nat.reduceLeDiff, Nat.reduceBEq, eq_self, implies_true, ne_eq, dref, dref1, dref2, aExecS, aStoreB, aTakes, aTakeE, aElder, aFrom, aFresh, isLoad, aBuildSlice1, frzs, frz1, ownIds, AV.frz, AV.frzL, frzEnv, AV.shift, AV.shiftL, aFieldV, aSliceW, aSliceO, aSlice, aSliceR, aSliceS, aBd, aMax, frzAVs, frzAV, frzTab, AObj.frz, aMM, aNilS, aMay, aNil, aLenM, aClear, aLookup, aLookG, aMapUpd, aMapPut, keyV, aLookR, false_or, aExecU, tyF_69_1, tyA_67, tyS_67, tyF_71_1, tyA_3, tyS_3, tyE_67, tyA_47, tyS_47, tyF_71_0, tyK_3, tyF_71_2, tyF_69_0, tyA_65, tyS_65] | (with_reducible refine aIf_split (fun _ => ?_) (fun _ => ?_)) | (with_reducible refine aSel_split (fun _ => ?_) (fun _ => ?_)) | (with_reducible refine aGd_split (fun _ => ?_) (fun _ => ?_))))
  refine aDraw_quiet (by kernel_rfl) ?_
  (repeat' (first | simp (maxSteps := 5000000) (implicitDefEqProofs := false) only [ruA, ruB, aEv, aTake, aLoad, aField, aIndex, aLen, aBin, bin2, aUn, un1, aExtract, aConv, ASt.get, aget, ASt.put, aStore, aBox, aAppend, aBuildSlice, aMake, aBuild, aFill, oneParts, allC, aBinS, yv, aCells, oneC, oneCL, treeC, treeL, treeML, treeM_c, treeM_sl, treeM_rp, treeM_any, treeM_fn, treeM_bfn, aLit, aDst, aSrc, appTab, Value.cells, Value.oneCell', envOf, aResL, aOne, ↓reduceIte, reduceCtorEq, forall_const, Nat.reduceLT, Nat.reduceEqDiff, Nat.reduceAdd, Nat.reduceMul, Nat.reduceSub, Nat.reduceLeDiff, Nat.reduceBEq, eq_self, implies_true, ne_eq, dref, dref1, dref2, aExecS, aStoreB, aTakes, aTakeE, aElder, aFrom, aFresh, isLoad, aBuildSlice1, frzs, frz1, ownIds, AV.frz, AV.frzL, frzEnv, AV.shift, AV.shiftL, aFieldV, aSliceW, aSliceO, aSlice, aSliceR, aSliceS, aBd, aMax, frzAVs, frzAV, frzTab, AObj.frz, aMM, aNilS, aMay, aNil, aLenM, aClear, aLookup, aLookG, aMapUpd, aMapPut, keyV, aLookR, false_or, aExecU, tyF_69_1, tyA_67, tyS_67, tyF_71_1, tyA_3, tyS_3, tyE_67, tyA_47, tyS_47, tyF_71_0, tyK_3, tyF_71_2, tyF_69_0, tyA_65, tyS_65, a0, a1, a2, ra] | (with_reducible refine aIf_split (fun _ => ?_) (fun _ => ?_)) | (with_reducible refine aSel_split (fun _ => ?_) (fun _ => ?_)) | (with_reducible refine aGd_split (fun _ => ?_) (fun _ => ?_))))
  · rename_i h1
    have e : signF next sets s = (sets.getD s.a.toNat []).map (!·) := by simp only [signF, h1, ↓reduceIte, Bool.false_eq_true]
    rw [e]
    refine callO (not_A _ la) (.inr (bools_plain _)) ?_
    (repeat' (first | simp (maxSteps := 5000000) (implicitDefEqProofs := false) only [ruA, ruB, aEv, aTake, aLoad, aField, aIndex, aLen, aBin, bin2, aUn, un1, aExtract, aConv, ASt.get, aget, ASt.put, aStore, aBox, aAppend, aBuildSlice, aMake, aBuild, aFill, oneParts, allC, aBinS, yv, aCells, oneC, oneCL, treeC, treeL, treeML, treeM_c, treeM_sl, treeM_rp, treeM_any, treeM_fn, treeM_bfn, aLit, aDst, aSrc, appTab, Value.cells, Value.oneCell', envOf, aResL, aOne, ↓reduceIte, reduceCtorEq, forall_const, Nat.reduceLT, Nat.reduceEqDiff, Nat.reduceAdd, Nat.reduceMul, Nat.reduceSub, Nat.reduceLeDiff, Nat.reduceBEq, eq_self, implies_true, ne_eq, dref, dref1, dref2, aExecS, aStoreB, aTakes, aTakeE, aElder, aFrom, aFresh, isLoad, aBuildSlice1, frzs, frz1, ownIds, AV.frz, AV.frzL, frzEnv, AV.shift, AV.shiftL, aFieldV, aSliceW, aSliceO, aSlice, aSliceR, aSliceS, aBd, aMax, frzAVs, frzAV, frzTab, AObj.frz, aMM, aNilS, aMay, aNil, aLenM, aClear, aLookup, aLookG, aMapUpd, aMapPut, keyV, aLookR, false_or, aExecU, tyF_69_1, tyA_67, tyS_67, tyF_71_1, tyA_3, tyS_3, tyE_67, tyA_47, tyS_47, tyF_71_0, tyK_3, tyF_71_2, tyF_69_0, tyA_65, tyS_65] | (with_reducible refine aIf_split (fun _ => ?_) (fun _ => ?_)) | (with_reducible refine aSel_split (fun _ => ?_) (fun _ => ?_)) | (with_reducible refine aGd_split (fun _ => ?_) (fun _ => ?_))))
    exact aGives_own (by simp [ATab.get_cons])
  · rename_i h1 h2
    have e : signF next sets s = andL (sets.getD s.a.toNat []) (sets.getD s.b.toNat []) := by simp only [signF, h1, h2, ↓reduceIte, Bool.false_eq_true]
    rw [e]
    refine aDraw_held [] [0, 1, 2, 3, 4, 5, 6, 7, 8] (.exec 9 (.exec 10 .done)) (by kernel_rfl) (by simp [ATab.get_cons]) ?_
    (repeat' (first | simp (maxSteps := 5000000) (implicitDefEqProofs := false) only [ruA, ruB, aEv, aTake, aLoad, aField, aIndex, aLen, aBin, bin2, aUn, un1, aExtract, aConv, ASt.get, aget, ASt.put, aStore, aBox, aAppend, aBuildSlice, aMake, aBuild, aFill, oneParts, allC, aBinS, yv, aCells, oneC, oneCL, treeC, treeL, treeML, treeM_c, treeM_sl, treeM_rp, treeM_any, treeM_fn, treeM_bfn, aLit, aDst, aSrc, appTab, Value.cells, Value.oneCell', envOf, aResL, aOne, ↓reduceIte, reduceCtorEq, forall_const, Nat.reduceLT, Nat.reduceEqDiff, Nat.reduceAdd, Nat.reduceMul, Nat.reduceSub, Nat.reduceLeDiff, Nat.reduceBEq, eq_self, implies_true, ne_eq, dref, dref1, dref2, aExecS, aStoreB, aTakes, aTakeE, aElder, aFrom, aFresh, isLoad, aBuildSlice1, frzs, frz1, ownIds, AV.frz, AV.frzL, frzEnv, AV.shift, AV.shiftL, aFieldV, aSliceW, aSliceO, aSlice, aSliceR, aSliceS, aBd, aMax, frzAVs, frzAV, frzTab, AObj.frz, aMM, aNilS, aMay, aNil, aLenM, aClear, aLookup, aLookG, aMapUpd, aMapPut, keyV, aLookR, false_or, aExecU, tyF_69_1, tyA_67, tyS_67, tyF_71_1, tyA_3, tyS_3, tyE_67, tyA_47, tyS_47, tyF_71_0, tyK_3, tyF_71_2, tyF_69_0, tyA_65, tyS_65, b0, b1, b2, rb] | (with_reducible refine aIf_split (fun _ => ?_) (fun _ => ?_)) | (with_reducible refine aSel_split (fun _ => ?_) (fun _ => ?_)) | (with_reducible refine aGd_split (fun _ => ?_) (fun _ => ?_))))
    refine callO (and_A _ _ la lb) (.inr (bools_plain _)) ?_
    (repeat' (first | simp (maxSteps := 5000000) (implicitDefEqProofs := false) only [ruA, ruB, aEv, aTake, aLoad, aField, aIndex, aLen, aBin, bin2, aUn, un1, aExtract, aConv, ASt.get, aget, ASt.put, aStore, aBox, aAppend, aBuildSlice, aMake, aBuild, aFill, oneParts, allC, aBinS, yv, aCells, oneC, oneCL, treeC, treeL, treeML, treeM_c, treeM_sl, treeM_rp, treeM_any, treeM_fn, treeM_bfn, aLit, aDst, aSrc, appTab, Value.cells, Value.oneCell', envOf, aResL, aOne, ↓reduceIte, reduceCtorEq, forall_const, Nat.reduceLT, Nat.reduceEqDiff, Nat.reduceAdd, Nat.reduceMul, Nat.reduceSub, Nat.reduceLeDiff, Nat.reduceBEq, eq_self, implies_true, ne_eq, dref, dref1, dref2, aExecS, aStoreB, aTakes, aTakeE, aElder, aFrom, aFresh, isLoad, aBuildSlice1, frzs, frz1, ownIds, AV.frz, AV.frzL, frzEnv, AV.shift, AV.shiftL, aFieldV, aSliceW, aSliceO, aSlice, aSliceR, aSliceS, aBd, aMax, frzAVs, frzAV, frzTab, AObj.frz, aMM, aNilS, aMay, aNil, aLenM, aClear, aLookup, aLookG, aMapUpd, aMapPut, keyV, aLookR, false_or, aExecU, tyF_69_1, tyA_67, tyS_67, tyF_71_1, tyA_3, tyS_3, tyE_67, tyA_47, tyS_47, tyF_71_0, tyK_3, tyF_71_2, tyF_69_0, tyA_65, tyS_65] | (with_reducible refine aIf_split (fun _ => ?_) (fun _ => ?_)) | (with_reducible refine aSel_split (fun _ => ?_) (fun _ => ?_)) | (with_reducible refine aGd_split (fun _ => ?_) (fun _ => ?_))))
    exact aGives_own (by simp [ATab.get_cons])
  · rename_i h1 h2 h3
    have e : signF next sets s = exL next (sets.getD s.a.toNat []) := by simp only [signF, h1, h2, h3, ↓reduceIte, Bool.false_eq_true]
    rw [e]
    refine callO (ex_A next _ hx la) (.inr (bools_plain _)) ?_
    (repeat' (first | simp (maxSteps := 5000000) (implicitDefEqProofs := false) only [ruA, ruB, aEv, aTake, aLoad, aField, aIndex, aLen, aBin, bin2, aUn, un1, aExtract, aConv, ASt.get, aget, ASt.put, aStore, aBox, aAppend, aBuildSlice, aMake, aBuild, aFill, oneParts, allC, aBinS, yv, aCells, oneC, oneCL, treeC, treeL, treeML, treeM_c, treeM_sl, treeM_rp, treeM_any, treeM_fn, treeM_bfn, aLit, aDst, aSrc, appTab, Value.cells, Value.oneCell', envOf, aResL, aOne, ↓reduceIte, reduceCtorEq, forall_const, Nat.reduceLT, Nat.reduceEqDiff, Nat.reduceAdd, Nat.reduceMul, Nat.reduceSub, Nat.reduceLeDiff, Nat.reduceBEq, eq_self, implies_true, ne_eq, dref, dref1, dref2, aExecS, aStoreB, aTakes, aTakeE, aElder, aFrom, aFresh, isLoad, aBuildSlice1, frzs, frz1, ownIds, AV.frz, AV.frzL, frzEnv, AV.shift, AV.shiftL, aFieldV, aSliceW, aSliceO, aSlice, aSliceR, aSliceS, aBd, aMax, frzAVs, frzAV, frzTab, AObj.frz, aMM, aNilS, aMay, aNil, aLenM, aClear, aLookup, aLookG, aMapUpd, aMapPut, keyV, aLookR, false_or, aExecU, tyF_69_1, tyA_67, tyS_67, tyF_71_1, tyA_3, tyS_3, tyE_67, tyA_47, tyS_47, tyF_71_0, tyK_3, tyF_71_2, tyF_69_0, tyA_65, tyS_65] | (with_reducible refine aIf_split (fun _ => ?_) (fun _ => ?_)) | (with_reducible refine aSel_split (fun _ => ?_) (fun _ => ?_)) | (with_reducible refine aGd_split (fun _ => ?_) (fun _ => ?_))))
    exact aGives_own (by simp [ATab.get_cons])
  · rename_i h1 h2 h3 h4
    have e : signF next sets s = euL next (sets.getD s.a.toNat []) (sets.getD s.b.toNat []) := by simp only [signF, h1, h2, h3, h4, ↓reduceIte, Bool.false_eq_true]
    rw [e]
    refine aDraw_held [] [0, 1, 2, 3, 4, 5, 6, 7, 8, 9, 10, 11, 12] (.exec 13 (.exec 14 .done)) (by kernel_rfl) (by simp [ATab.get_cons]) ?_
    (repeat' (first | simp (maxSteps := 5000000) (implicitDefEqProofs := false) only [ruA, ruB, aEv, aTake, aLoad, aField, aIndex, aLen, aBin, bin2, aUn, un1, aExtract, aConv, ASt.get, aget, ASt.put, aStore, aBox, aAppend, aBuildSlice, aMake, aBuild, aFill, oneParts, allC, aBinS, yv, aCells, oneC, oneCL, treeC, treeL, treeML, treeM_c, treeM_sl, treeM_rp, treeM_any, treeM_fn, treeM_bfn, aLit, aDst, aSrc, appTab, Value.cells, Value.oneCell', envOf, aResL, aOne, ↓reduceIte, reduceCtorEq, forall_const, Nat.reduceLT, Nat.reduceEqDiff, Nat.reduceAdd, Nat.reduceMul, Nat.reduceSub, Nat.reduceLeDiff, Nat.reduceBEq, eq_self, implies_true, ne_eq, dref, dref1, dref2, aExecS, aStoreB, aTakes, aTakeE, aElder, aFrom, aFresh, isLoad, aBuildSlice1, frzs, frz1, ownIds, AV.frz, AV.frzL, frzEnv, AV.shift, AV.shiftL, aFieldV, aSliceW, aSliceO, aSlice, aSliceR, aSliceS, aBd, aMax, frzAVs, frzAV, frzTab, AObj.frz, aMM, aNilS, aMay, aNil, aLenM, aClear, aLookup, aLookG, aMapUpd, aMapPut, keyV, aLookR, false_or, aExecU, tyF_69_1, tyA_67, tyS_67, tyF_71_1, tyA_3, tyS_3, tyE_67, tyA_47, tyS_47, tyF_71_0, tyK_3, tyF_71_2, tyF_69_0, tyA_65, tyS_65, b0, b1, b2, rb] | (with_reducible refine aIf_split (fun _ => ?_) (fun _ => ?_)) | (with_reducible refine aSel_split (fun _ => ?_) (fun _ => ?_)) | (with_reducible refine aGd_split (fun _ => ?_) (fun _ => ?_))))
    refine callO (eu_A next _ _ hx la lb) (.inr (bools_plain _)) ?_
    (repeat' (first | simp (maxSteps := 5000000) (implicitDefEqProofs := false) only [ruA, ruB, aEv, aTake, aLoad, aField, aIndex, aLen, aBin, bin2, aUn, un1, aExtract, aConv, ASt.get, aget, ASt.put, aStore, aBox, aAppend, aBuildSlice, aMake, aBuild, aFill, oneParts, allC, aBinS, yv, aCells, oneC, oneCL, treeC, treeL, treeML, treeM_c, treeM_sl, treeM_rp, treeM_any, treeM_fn, treeM_bfn, aLit, aDst, aSrc, appTab, Value.cells, Value.oneCell', envOf, aResL, aOne, ↓reduceIte, reduceCtorEq, forall_const, Nat.reduceLT, Nat.reduceEqDiff, Nat.reduceAdd, Nat.reduceMul, Nat.reduceSub, Nat.reduceLeDiff, Nat.reduceBEq, eq_self, implies_true, ne_eq, dref, dref1, dref2, aExecS, aStoreB, aTakes, aTakeE, aElder, aFrom, aFresh, isLoad, aBuildSlice1, frzs, frz1, ownIds, AV.frz, AV.frzL, frzEnv, AV.shift, AV.shiftL, aFieldV, aSliceW, aSliceO, aSlice, aSliceR, aSliceS, aBd, aMax, frzAVs, frzAV, frzTab, AObj.frz, aMM, aNilS, aMay, aNil, aLenM, aClear, aLookup, aLookG, aMapUpd, aMapPut, keyV, aLookR, false_or, aExecU, tyF_69_1, tyA_67, tyS_67, tyF_71_1, tyA_3, tyS_3, tyE_67, tyA_47, tyS_47, tyF_71_0, tyK_3, tyF_71_2, tyF_69_0, tyA_65, tyS_65] | (with_reducible refine aIf_split (fun _ => ?_) (fun _ => ?_)) | (with_reducible refine aSel_split (fun _ => ?_) (fun _ => ?_)) | (with_reducible refine aGd_split (fun _ => ?_) (fun _ => ?_))))
    exact aGives_own (by simp [ATab.get_cons])
  · rename_i h1 h2 h3 h4
    have e : signF next sets s = egL next (sets.getD s.a.toNat []) := by simp only [signF, h1, h2, h3, h4, ↓reduceIte, Bool.false_eq_true]
    rw [e]
    refine callO (eg_A next _ hx la) (.inr (bools_plain _)) ?_
    (repeat' (first | simp (maxSteps := 5000000) (implicitDefEqProofs := false) only [ruA, ruB, aEv, aTake, aLoad, aField, aIndex, aLen, aBin, bin2, aUn, un1, aExtract, aConv, ASt.get, aget, ASt.put, aStore, aBox, aAppend, aBuildSlice, aMake, aBuild, aFill, oneParts, allC, aBinS, yv, aCells, oneC, oneCL, treeC, treeL, treeML, treeM_c, treeM_sl, treeM_rp, treeM_any, treeM_fn, treeM_bfn, aLit, aDst, aSrc, appTab, Value.cells, Value.oneCell', envOf, aResL, aOne, ↓reduceIte, reduceCtorEq, forall_const, Nat.reduceLT, Nat.reduceEqDiff, Nat.reduceAdd, Nat.reduceMul, Nat.reduceSub, Nat.reduceLeDiff, Nat.reduceBEq, eq_self, implies_true, ne_eq, dref, dref1, dref2, aExecS, aStoreB, aTakes, aTakeE, aElder, aFrom, aFresh, isLoad, aBuildSlice1, frzs, frz1, ownIds, AV.frz, AV.frzL, frzEnv, AV.shift, AV.shiftL, aFieldV, aSliceW, aSliceO, aSlice, aSliceR, aSliceS, aBd, aMax, frzAVs, frzAV, frzTab, AObj.frz, aMM, aNilS, aMay, aNil, aLenM, aClear, aLookup, aLookG, aMapUpd, aMapPut, keyV, aLookR, false_or, aExecU, tyF_69_1, tyA_67, tyS_67, tyF_71_1, tyA_3, tyS_3, tyE_67, tyA_47, tyS_47, tyF_71_0, tyK_3, tyF_71_2, tyF_69_0, tyA_65, tyS_65] | (with_reducible refine aIf_split (fun _ => ?_) (fun _ => ?_)) | (with_reducible refine aSel_split (fun _ => ?_) (fun _ => ?_)) | (with_reducible refine aGd_split (fun _ => ?_) (fun _ => ?_))))
    exact aGives_own (by simp [ATab.get_cons])

/-- in which nodes a step holds -/
noncomputable def setF (next : List (List Int)) (at_ : Inst → List Bool) (sets : List (List Bool)) (s : Stp) : List Bool := if 1 ≤ s.op ∧ s.op ≤ 14 then at_ s.x else signF next sets s
noncomputable def setsF (next : List (List Int)) (at_ : Inst → List Bool) (l : List Stp) : List (List Bool) := l.foldl (fun sets s => sets ++ [setF next at_ sets s]) []
theorem setsF_take {next : List (List Int)} {at_ : Inst → List Bool} {l : List Stp} {k : Nat} (hk : k < l.length) : setsF next at_ (l.take (k + 1)) = setsF next at_ (l.take k) ++ [setF next at_ (setsF next at_ (l.take k)) l[k]] := by
  unfold setsF
  rw [List.take_succ_eq_append_getElem hk, List.foldl_append]
  rfl
theorem setsF_length {next : List (List Int)} {at_ : Inst → List Bool} (l : List Stp) : ∀ k, k ≤ l.length → (setsF next at_ (l.take k)).length = k
  | 0, _ => by simp [setsF]
  | k + 1, hk => by
    rw [setsF_take (by omega), List.length_append, setsF_length l k (by omega)]
    rfl
theorem signF_len {next : List (List Int)} {sets : List (List Bool)} {s : Stp} {n : Nat} (hs : ∀ a ∈ sets, a.length = n) (ha : 0 ≤ s.a ∧ s.a < sets.length) (hb : 0 ≤ s.b ∧ s.b < sets.length) (hn : next.length = n) : (signF next sets s).length = n := by
  have la := hs _ (getD_mem ha.1 ha.2)
  have lb := hs _ (getD_mem hb.1 hb.2)
  unfold signF
  simp only
  split
  · simp only [List.length_map]
    exact la
  · split
    · unfold andL
      simp only [List.length_map, List.length_range, la, lb, Nat.max_self]
    · split
      · rw [exL_length]; exact hn
      · split
        · rw [euL_length]; exact hn
        · rw [egL_length]; exact hn
theorem setsF_len {next : List (List Int)} {at_ : Inst → List Bool} {l : List Stp} {n : Nat} (hl : StepsOk l) (hn : next.length = n) (hat : ∀ s ∈ l, 1 ≤ s.op ∧ s.op ≤ 14 → (at_ s.x).length = n) : ∀ k, k ≤ l.length → ∀ a ∈ setsF next at_ (l.take k), a.length = n
  | 0, _, a, ha => by simp [setsF] at ha
  | k + 1, hk, a, ha => by
    rw [setsF_take (by omega)] at ha
    rcases List.mem_append.1 ha with ha | ha
    · exact setsF_len hl hn hat k (by omega) a ha
    · simp at ha
      subst ha
      unfold setF
      split
      · rename_i h
        exact hat _ (List.getElem_mem (by omega)) h
      · rename_i h
        have h1 := hl.lt k l[k] (List.getElem?_eq_getElem (by omega))
        have h2 := h1.2.2.1 h
        have h3 := setsF_length (next := next) (at_ := at_) l k (by omega)
        exact signF_len (setsF_len hl hn hat k (by omega)) ⟨h1.1.1, by omega⟩ ⟨h1.2.1.1, by omega⟩ hn
end
end Go.Proofs.YtbijbnfgccdneaaGreat
