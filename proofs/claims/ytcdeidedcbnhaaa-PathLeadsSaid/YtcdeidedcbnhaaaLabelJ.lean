/-
  THE WORKLIST of EG, in plain Lean; what lies in memory meanwhile.
-/
import Derived.Test.YtcdeidedcbnhaaaLabelI
set_option linter.unusedVariables false
set_option linter.unusedSimpArgs false
namespace Go.Proofs.Ytcdeidedcbnhaaa
open Go.RowKit

def sumTo : Nat → (Nat → Nat) → Nat
  | 0, _ => 0
  | n + 1, f => sumTo n f + f n
theorem sumTo_congr : ∀ (n : Nat) {f g : Nat → Nat}, (∀ i, i < n → f i = g i) → sumTo n f = sumTo n g
  | 0, _, _, _ => rfl
  | n + 1, f, g, h => by rw [sumTo, sumTo, sumTo_congr n (fun i hi => h i (by omega)), h n (by omega)]
theorem sumTo_upd : ∀ (n : Nat) {f g : Nat → Nat} (i0 : Nat), i0 < n → (∀ i, i < n → i ≠ i0 → f i = g i) → sumTo n f + g i0 = sumTo n g + f i0
  | 0, _, _, i0, h, _ => by omega
  | n + 1, f, g, i0, h, hh => by
    rw [sumTo, sumTo]
    by_cases e : i0 = n
    · subst e
      rw [sumTo_congr i0 (f := f) (g := g) (fun i hi => hh i (by omega) (by omega))]; omega
    · have := sumTo_upd n (f := f) (g := g) i0 (by omega) (fun i hi => hh i (by omega))
      have := hh n (by omega) (fun h => e h.symm)
      omega
theorem sumTo_pos : ∀ (n : Nat) {f : Nat → Nat}, sumTo n f ≠ 0 → ∃ i, i < n ∧ f i ≠ 0
  | 0, f, h => absurd rfl h
  | n + 1, f, h => by
    rw [sumTo] at h
    by_cases e : f n = 0
    · obtain ⟨i, h1, h2⟩ := sumTo_pos n (f := f) (by omega)
      exact ⟨i, by omega, h2⟩
    · exact ⟨n, by omega, e⟩
theorem sumTo_mem : ∀ (n : Nat) (f : Nat → Nat) (i : Nat), i < n → f i ≤ sumTo n f
  | 0, f, i, h => by omega
  | n + 1, f, i, h => by
    rw [sumTo]
    by_cases e : i = n
    · subst e; omega
    · have := sumTo_mem n f i (by omega); omega
theorem sumTo_le : ∀ (n : Nat) {f : Nat → Nat} (B : Nat), (∀ i, i < n → f i ≤ B) → sumTo n f ≤ n * B
  | 0, _, B, _ => by simp [sumTo]
  | n + 1, f, B, h => by
    rw [sumTo, Nat.succ_mul]
    have := sumTo_le n B (fun i hi => h i (by omega)); have := h n (by omega); omega

/-- how often k leads to i -/
def cE (next : List (List Int)) (k i : Nat) : Nat := (next.getD k []).count (i : Int)
theorem cE_le {next : List (List Int)} (hr : ∀ r ∈ next, r.length ≤ 200) (k i : Nat) : cE next k i ≤ 200 := by
  unfold cE
  refine Nat.le_trans List.count_le_length ?_
  rcases Nat.lt_or_ge k next.length with h | h
  · rw [List.getD, List.getElem?_eq_getElem h]; exact hr _ (List.getElem_mem h)
  · rw [List.getD, List.getElem?_eq_none h]; simp
theorem back_count {next rows : List (List Int)} (h : BackAt next next.length 0 rows) {i k : Nat} (hi : i < next.length) (hk : k < next.length) : (rows.getD i []).count (k : Int) = cE next k i := by
  rw [h.count i hi k, if_pos hk]; rfl
theorem iget_set (l : List Int) (k : Nat) (x : Int) (h : k < l.length) (j : Nat) : (l.set k x).getD j 0 = if j = k then x else l.getD j 0 := by
  simp only [List.getD, List.getElem?_set]
  by_cases e : j = k
  · subst e; simp [h]
  · rw [if_neg (fun h => e h.symm), if_neg e]

/-- the counts while they are made -/
structure LAt (next rows : List (List Int)) (L : List Bool) (i m : Nat) (lf : List Int) : Prop where
  len : lf.length = next.length
  val : ∀ k, k < next.length → lf.getD k 0 = ((sumTo i (fun j => if L.getD j false = true then cE next k j else 0) + (if L.getD i false = true then ((rows.getD i []).take m).count (k : Int) else 0) : Nat) : Int)
  small : ∀ k, 0 ≤ lf.getD k 0 ∧ lf.getD k 0 ≤ 20000 * i + m
theorem irep_getD (n j : Nat) : (List.replicate n (0 : Int)).getD j 0 = 0 := by
  rw [List.getD, List.getElem?_replicate]; split <;> rfl
section
variable {next rows : List (List Int)} {L : List Bool} {lf : List Int}
theorem LAt.start (next rows : List (List Int)) (L : List Bool) : LAt next rows L 0 0 (List.replicate next.length 0) :=
  ⟨by simp, fun k hk => by rw [irep_getD]; simp [sumTo], fun k => by rw [irep_getD]; simp⟩
theorem LAt.skip {i m : Nat} (h : LAt next rows L i m lf) (hL : L.getD i false = false) : LAt next rows L i (m + 1) lf :=
  ⟨h.len, fun k hk => by rw [h.val k hk, hL]; simp, fun k => by have := h.small k; omega⟩
theorem LAt.add {i m q : Nat} (h : LAt next rows L i m lf) (hL : L.getD i false = true) (hm : m < (rows.getD i []).length) (hq : (rows.getD i []).getD m 0 = (q : Int)) (hqn : q < next.length) : LAt next rows L i (m + 1) (lf.set q (lf.getD q 0 + 1)) := by
  have hql : q < lf.length := by rw [h.len]; exact hqn
  rw [getD_get _ _ hm] at hq
  refine ⟨by rw [List.length_set, h.len], fun k hk => ?_, fun k => ?_⟩
  · rw [iget_set _ _ _ hql, List.take_succ_eq_append_getElem hm, List.count_append, List.count_singleton, hq]
    have := h.val k hk
    have hv := h.val q hqn
    rw [if_pos hL] at this hv ⊢
    by_cases e : k = q
    · subst e
      rw [if_pos rfl, this]; simp; omega
    · have e2 : ((q : Int) == (k : Int)) = false := by simp; omega
      rw [if_neg e, this, e2]; simp
  · rw [iget_set _ _ _ hql]
    split
    · have := h.small q; omega
    · have := h.small k; omega
theorem LAt.row {i : Nat} (h : LAt next rows L i (rows.getD i []).length lf) (hB : BackAt next next.length 0 rows) (hi : i < next.length) (hr : (rows.getD i []).length ≤ 20000) : LAt next rows L (i + 1) 0 lf := by
  refine ⟨h.len, fun k hk => ?_, fun k => by have := h.small k; omega⟩
  rw [h.val k hk, List.take_length, sumTo, back_count hB hi hk]; simp
end

/-- who still counts: those in the set and those that wait -/
def al (L : List Bool) (F : List Int) (i : Nat) : Bool := L.getD i false || decide ((i : Int) ∈ F)
def sumG (next : List (List Int)) (L : List Bool) (F : List Int) (k : Nat) : Nat := sumTo next.length (fun i => if al L F i = true then cE next k i else 0)
/-- the worklist of EG: q: those that are not yet looked at; ex: what is yet to be taken off -/
structure GU (next : List (List Int)) (a : List Bool) (q : Nat → Prop) (ex : Nat → Nat) (L : List Bool) (F : List Int) (lf : List Int) : Prop where
  len : L.length = next.length
  lenF : lf.length = next.length
  nodup : F.Nodup
  inW : ∀ x ∈ F, ∃ j : Nat, x = (j : Int) ∧ j < next.length ∧ L.getD j false = false
  inA : ∀ j, L.getD j false = true → a.getD j false = true
  sup : ∀ j, EGp next a j → L.getD j false = true
  val : ∀ k, k < next.length → lf.getD k 0 = ((sumG next L F k + ex k : Nat) : Int)
  pos : ∀ k, k < next.length → ¬ q k → L.getD k false = true → lf.getD k 0 ≠ 0
  small : F.length + cnt L ≤ next.length
def noQ : Nat → Prop := fun _ => False
def noX : Nat → Nat := fun _ => 0
section
variable {next rows : List (List Int)} {a : List Bool} {q q' : Nat → Prop} {ex : Nat → Nat} {L : List Bool} {F : List Int} {lf : List Int}
theorem GU.settle (h : GU next a q ex L F lf) (k : Nat) (hq : ∀ j, q j → j = k ∨ q' j) (hk : ¬ (L.getD k false = true ∧ lf.getD k 0 = 0)) : GU next a q' ex L F lf :=
  ⟨h.len, h.lenF, h.nodup, h.inW, h.inA, h.sup, h.val, fun j hj hnq hL => by
    by_cases e : q j
    · rcases hq j e with rfl | h2
      · exact fun h0 => hk ⟨hL, h0⟩
      · exact absurd h2 hnq
    · exact h.pos j hj e hL, h.small⟩
theorem GU.take (h : GU next a q ex L F lf) (k : Nat) (hq : ∀ j, q j → j = k ∨ q' j) (hk : L.getD k false = true) (h0 : lf.getD k 0 = 0) : GU next a q' ex (L.set k false) (F ++ [(k : Int)]) lf := by
  have hkl := getD_lt hk
  have hkn : k < next.length := by rw [← h.len]; exact hkl
  have hal : ∀ i, al (L.set k false) (F ++ [(k : Int)]) i = al L F i := fun i => by
    unfold al
    rw [set_getD _ _ _ hkl]
    by_cases e : i = k
    · subst e; rw [if_pos rfl, hk]; simp
    · have e2 : ((i : Int) ∈ F ++ [(k : Int)]) ↔ (i : Int) ∈ F := by simp; omega
      rw [if_neg e, decide_eq_decide.2 e2]
  have hsum : ∀ j, sumG next (L.set k false) (F ++ [(k : Int)]) j = sumG next L F j := fun j => sumTo_congr _ fun i _ => by rw [hal]
  have hz : sumG next L F k = 0 := by have := h.val k hkn; omega
  have hnot : ¬ EGp next a k := by
    rintro ⟨S, h1, h2⟩
    obtain ⟨_, _, k', he, hs⟩ := h2 k h1
    have hE : EGp next a k' := ⟨S, hs, h2⟩
    have hL := h.sup k' hE
    have := sumTo_mem next.length (fun i => if al L F i = true then cE next k i else 0) k' he.2
    have hal2 : al L F k' = true := by unfold al; rw [hL]; rfl
    have hc : 0 < cE next k k' := List.count_pos_iff.2 he.1
    unfold sumG at hz
    simp only [hal2, if_true] at this
    omega
  have hkF : (k : Int) ∉ F := fun hm => by
    obtain ⟨j, h1, _, h3⟩ := h.inW _ hm
    have : j = k := by omega
    subst this; rw [hk] at h3; simp at h3
  refine ⟨by rw [List.length_set, h.len], h.lenF, ?_, fun x hx => ?_, fun j hj => ?_, fun j hj => ?_, fun j hj => by rw [hsum]; exact h.val j hj, fun j hj hnq hL => ?_, ?_⟩
  · rw [List.nodup_append]
    refine ⟨h.nodup, by simp, fun x hx y hy => ?_⟩
    simp at hy; subst hy; exact fun e => hkF (e ▸ hx)
  · rcases List.mem_append.1 hx with h1 | h1
    · obtain ⟨j, h2, h3, h4⟩ := h.inW x h1
      refine ⟨j, h2, h3, ?_⟩
      rw [set_getD _ _ _ hkl]; split; rfl; exact h4
    · simp at h1
      exact ⟨k, h1, hkn, by rw [set_getD _ _ _ hkl, if_pos rfl]⟩
  · rw [set_getD _ _ _ hkl] at hj
    split at hj
    · simp at hj
    · exact h.inA j hj
  · rw [set_getD _ _ _ hkl]
    split
    · rename_i e; subst e; exact absurd hj hnot
    · exact h.sup j hj
  · rw [set_getD _ _ _ hkl] at hL
    split at hL
    · simp at hL
    · rename_i e
      refine h.pos j hj (fun hqj => ?_) hL
      rcases hq j hqj with h2 | h2
      · exact e h2
      · exact hnq h2
  · have := cnt_unset L k hkl hk
    have := h.small
    simp; omega
theorem GU.pop {W : List Int} {x : Int} (h : GU next a noQ noX L (W ++ [x]) lf) (hB : BackAt next next.length 0 rows) : ∃ i0 : Nat, x = (i0 : Int) ∧ i0 < next.length ∧ GU next a noQ (fun k => ((rows.getD i0 []).drop 0).count (k : Int)) L W lf := by
  obtain ⟨i0, rfl, hi0, hL0⟩ := h.inW x (by simp)
  have hnd := h.nodup
  rw [List.nodup_append] at hnd
  have hni : (i0 : Int) ∉ W := fun hm => hnd.2.2 _ hm _ (by simp) rfl
  refine ⟨i0, rfl, hi0, h.len, h.lenF, hnd.1, fun y hy => h.inW y (by simp [hy]), h.inA, h.sup, fun k hk => ?_, h.pos, by have := h.small; simp at this; omega⟩
  rw [h.val k hk, List.drop_zero, back_count hB hi0 hk]
  have hu := sumTo_upd next.length (f := fun i => if al L (W ++ [(i0 : Int)]) i = true then cE next k i else 0) (g := fun i => if al L W i = true then cE next k i else 0) i0 hi0 (fun i _ hne => by
    have : al L (W ++ [(i0 : Int)]) i = al L W i := by
      unfold al
      have e2 : ((i : Int) ∈ W ++ [(i0 : Int)]) ↔ (i : Int) ∈ W := by simp; omega
      rw [decide_eq_decide.2 e2]
    rw [this])
  have h1 : al L (W ++ [(i0 : Int)]) i0 = true := by unfold al; simp
  have h2 : al L W i0 = false := by unfold al; rw [hL0]; simp [hni]
  simp only [h1, h2, if_true] at hu
  unfold sumG noX
  simp at hu ⊢
  omega
theorem GU.dec {row : List Int} {m k : Nat} (h : GU next a noQ (fun k => (row.drop m).count (k : Int)) L F lf) (hm : m < row.length) (hk : row.getD m 0 = (k : Int)) (hkn : k < next.length) :
    GU next a (fun j => j = k) (fun k => (row.drop (m + 1)).count (k : Int)) L F (lf.set k (lf.getD k 0 - 1)) := by
  have hkl : k < lf.length := by rw [h.lenF]; exact hkn
  rw [getD_get _ _ hm] at hk
  refine ⟨h.len, by rw [List.length_set, h.lenF], h.nodup, h.inW, h.inA, h.sup, fun j hj => ?_, fun j hj hne hL => ?_, h.small⟩
  · have hv := h.val j hj
    have hvk := h.val k hkn
    rw [iget_set _ _ _ hkl]
    rw [List.drop_eq_getElem_cons hm, List.count_cons, hk] at hv hvk
    by_cases e : j = k
    · subst e
      rw [if_pos rfl]; simp at hv ⊢; omega
    · have e2 : ((k : Int) == (j : Int)) = false := by simp; omega
      rw [if_neg e, hv, e2]; simp
  · rw [iget_set _ _ _ hkl, if_neg hne]
    exact h.pos j hj (fun h => h) hL
theorem GU.bound (h : GU next a q ex L F lf) (hl : next.length ≤ 100) (hr : ∀ r ∈ next, r.length ≤ 200) (hx : ∀ k, ex k ≤ 20000) (k : Nat) : 0 ≤ lf.getD k 0 ∧ lf.getD k 0 ≤ 40000 := by
  rcases Nat.lt_or_ge k next.length with hk | hk
  · have := h.val k hk
    have h2 : sumG next L F k ≤ next.length * 200 := sumTo_le _ _ fun i _ => by
      split
      · exact cE_le hr k i
      · omega
    have := hx k
    omega
  · rw [List.getD, List.getElem?_eq_none (by rw [h.lenF]; exact hk)]; simp
theorem GU.close {row : List Int} {m : Nat} (h : GU next a noQ (fun k => (row.drop m).count (k : Int)) L F lf) (hm : row.length ≤ m) : GU next a noQ noX L F lf :=
  ⟨h.len, h.lenF, h.nodup, h.inW, h.inA, h.sup, fun k hk => by rw [h.val k hk, List.drop_eq_nil_of_le hm]; simp [noX], h.pos, h.small⟩
theorem GU.done (h : GU next a noQ noX L [] lf) : L = egL next a := by
  refine set_ext (by rw [h.len, egL_length]) fun i _ => ?_
  rw [egL_at]
  refine ⟨eg_closed next a L (fun i hi => ?_) i, h.sup i⟩
  have hin : i < next.length := by rw [← h.len]; exact getD_lt hi
  refine ⟨hin, h.inA i hi, ?_⟩
  have h1 := h.val i hin
  have h2 := h.pos i hin (fun h => h) hi
  obtain ⟨k, hk, hk2⟩ := sumTo_pos next.length (f := fun j => if al L [] j = true then cE next i j else 0) (by unfold sumG noX at h1; omega)
  have hak : al L [] k = true := by
    cases e : al L [] k with
    | true => rfl
    | false => rw [e] at hk2; simp at hk2
  simp only [hak, if_true] at hk2
  refine ⟨k, ⟨List.count_pos_iff.1 (Nat.pos_of_ne_zero hk2), hk⟩, ?_⟩
  unfold al at hak; simpa using hak
theorem GU.start (hB : BackAt next next.length 0 rows) (h : LAt next rows (itG next a 0) next.length 0 lf) : GU next a (fun j => 0 ≤ j) noX (itG next a 0) [] lf := by
  refine ⟨itG_length _ _ _, h.len, by simp, fun x hx => by simp at hx, fun j hj => ((itG_zero next a j).1 hj).2, itG_sup next a 0, fun k hk => ?_, fun k _ hq => absurd (Nat.zero_le _) hq, ?_⟩
  · rw [h.val k hk]
    unfold sumG noX al
    simp
  · have := cnt_le (itG next a 0); rw [itG_length] at this; simpa using this
end

/-! ### memory -/
/-- an own row of ints -/
def OI (w : World) (base : Nat) (v : Value) (l : List Int) : Prop := w.ownsRow base 3 1 v l.length (l.map (Value.int .i64))
theorem OI.made (w : World) (n : Nat) (hn : n ≤ 9223372036854775807) : OI (w.alloc (.cells (madeCells #[.int .i64 0] n) 3)) w.heap.size (.slice (some ⟨w.heap.size, 0, none⟩) n n) (List.replicate n 0) := by
  have := World.ownsRow_lit (e := 3) (size := 1) (base := w.heap.size) w (madeCells #[.int .i64 0] n) n (Nat.le_refl _) (by simpa [maxLen] using hn) (by rw [size_madeCells, Nat.mul_one])
  rw [toList_madeCells_one] at this
  unfold OI
  rw [List.length_replicate, List.map_replicate]
  exact this
theorem OI.len {w : World} {base g n c : Nat} {l : List Int} (h : OI w base (.slice (some ⟨g, 0, none⟩) n c) l) : n = l.length := by
  obtain ⟨A, c', e, _⟩ := own_form h
  cases e; rfl
theorem OI.cell {w : World} {base g n c : Nat} {l : List Int} (h : OI w base (.slice (some ⟨g, 0, none⟩) n c) l) {k : Nat} (hk : k < l.length) : w.cell? ⟨g, k, none⟩ = some (.int .i64 (l.getD k 0)) := by
  have hn := h.len
  subst hn
  refine own_cell h rfl ?_
  rw [List.getElem?_map, List.getD, List.getElem?_eq_getElem hk]; rfl
theorem OI.frozen {w : World} {base g n c : Nat} {l : List Int} (h : OI w base (.slice (some ⟨g, 0, none⟩) n c) l) (k : Nat) : w.frozen? ⟨g, k, none⟩ = false := by
  have hn := h.len
  subst hn
  exact World.ownsRow.frozenAt h k
theorem OI.set {w : World} {base g n c : Nat} {l : List Int} (h : OI w base (.slice (some ⟨g, 0, none⟩) n c) l) (k : Nat) (x : Int) : OI (w.setCell ⟨g, k, none⟩ (.int .i64 x)) base (.slice (some ⟨g, 0, none⟩) n c) (l.set k x) := by
  have hn := h.len
  subst hn
  have := (World.ownsRow.stored h k (.int .i64 x)).1
  unfold OI
  rw [List.length_set, List.map_set]
  exact this

structure GM0 (w : World) (hi : Nat) (va : Value) (rows : List (List Int)) (wx : World) (L : List Bool) (lf : List Int) : Prop where
  hi1 : w.heap.size + 2 ≤ hi
  hi2 : hi ≤ wx.heap.size
  out : OB wx w.heap.size (.slice (some ⟨w.heap.size, 0, none⟩) L.length L.length) L
  left : OI wx (w.heap.size + 1) (.slice (some ⟨w.heap.size + 1, 0, none⟩) lf.length lf.length) lf
  rows : (sliceR (sliceR (intR .i64))).one wx (SB (w.heap.size + 2) hi) va rows
  below : Below w.heap.size w wx
section
variable {w wx w' : World} {hi : Nat} {va : Value} {rows : List (List Int)} {L : List Bool} {F F' : List Int} {lf : List Int}
theorem GM0.set (h : GM0 w hi va rows wx L lf) (k : Nat) (x : Bool) : GM0 w hi va rows (wx.setCell ⟨w.heap.size, k, none⟩ (.bool x)) (L.set k x) lf := by
  have := h.hi1
  exact ⟨h.hi1, by simpa using h.hi2, by rw [List.length_set]; exact h.out.set k x, own_far h.left (by simp) _, slice_keep h.rows (Kp.set _ _ _ (fun hs => by have := hs.1; simp at this <;> omega)), h.below.setCell (Nat.le_refl _) _⟩
theorem GM0.setL (h : GM0 w hi va rows wx L lf) (k : Nat) (x : Int) : GM0 w hi va rows (wx.setCell ⟨w.heap.size + 1, k, none⟩ (.int .i64 x)) L (lf.set k x) := by
  have := h.hi1
  exact ⟨h.hi1, by simpa using h.hi2, ownsRow_setCell_other h.out (by simp [Value.ownBlock]) _, by rw [List.length_set]; exact h.left.set k x, slice_keep h.rows (Kp.set _ _ _ (fun hs => by have := hs.1; simp at this <;> omega)), h.below.setCell (by simp) _⟩
theorem GM0.later (h : GM0 w hi va rows wx L lf) (hb : Below hi wx w') : GM0 w hi va rows w' L lf := by
  have := h.hi1
  exact ⟨h.hi1, Nat.le_trans h.hi2 hb.size, own_below h.out hb (fun g hg => by simp [Value.ownBlock] at hg; omega), own_below h.left hb (fun g hg => by simp [Value.ownBlock] at hg; omega), slice_keep h.rows (Kp.below hb fun b hb => hb.2), h.below.trans (hb.mono (by omega))⟩
end

end Go.Proofs.Ytcdeidedcbnhaaa
