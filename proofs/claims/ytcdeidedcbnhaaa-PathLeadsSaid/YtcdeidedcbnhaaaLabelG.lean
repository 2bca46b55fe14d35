/-
  THE WALK of label.back: of each place those that it follows.
-/
import Derived.Test.YtcdeidedcbnhaaaLabelF
set_option linter.unusedVariables false
set_option linter.unusedSimpArgs false
namespace Go.Proofs.Ytcdeidedcbnhaaa
open Go.RowKit

/-- rows of ints that the call owns: block g holds the rows' values -/
def OwnRws (w : World) (g : Nat) (rows : List (List Int)) : Prop := ∃ f : Nat → Value, w.rowIs g 22 rows.length f ∧
  (∀ j, j < rows.length → w.ownsRow (g + 1) 3 1 (f j) (rows.getD j []).length ((rows.getD j []).map (Value.int .i64))) ∧
  (∀ i j b, i < rows.length → j < rows.length → i ≠ j → (f i).ownBlock = some b → (f j).ownBlock ≠ some b)
theorem OwnRws.made (w : World) (n : Nat) : OwnRws (w.alloc (.cells (madeCells #[.slice none 0 0] n) 22)) w.heap.size (List.replicate n []) := by
  refine ⟨fun _ => .slice none 0 0, ?_, fun j hj => ?_, fun i j b _ _ _ h => by simp [Value.ownBlock] at h⟩
  · rw [List.length_replicate]; exact World.rowIs_made _ _ _ _
  · have : (List.replicate n ([] : List Int)).getD j [] = [] := by rw [List.getD, List.getElem?_replicate]; split <;> rfl
    rw [this]; exact World.ownsRow_nil _ _ _ _
theorem own_block {w w' : World} {base e size n : Nat} {v : Value} {xs : List Value} (h : w.ownsRow base e size v n xs) (hk : ∀ b, v.ownBlock = some b → w'.heap[b]? = w.heap[b]?) : w'.ownsRow base e size v n xs := by
  refine ⟨h.1, ?_⟩
  rcases h.2 with hn | ⟨g, cap, cur, rfl, hbg, hg, rest⟩
  · exact .inl hn
  · exact .inr ⟨g, cap, cur, rfl, hbg, (hk g (by simp [Value.ownBlock])).trans hg, rest⟩
theorem OwnRws.below {w w' : World} {g : Nat} {rows : List (List Int)} (h : OwnRws w g rows) (hb : Below w.heap.size w w') : OwnRws w' g rows := by
  obtain ⟨f, h1, h2, h3⟩ := h
  exact ⟨f, h1.of_block (hb.block g h1.lt), fun j hj => own_below' (h2 j hj) hb, h3⟩
theorem rows_set (rows : List (List Int)) (k : Nat) (x : List Int) (h : k < rows.length) (j : Nat) : (rows.set k x).getD j [] = if j = k then x else rows.getD j [] := by
  simp only [List.getD, List.getElem?_set]
  by_cases e : j = k
  · subst e; simp [h]
  · rw [if_neg (fun h => e h.symm), if_neg e]
/-- one append to one of the rows -/
theorem OwnRws.push {w w2 : World} {g k : Nat} {rows : List (List Int)} {x : Int} {v v2 : Value} {f : Nat → Value} {o : Obj} (h1 : w.rowIs g 22 rows.length f)
    (h2 : ∀ j, j < rows.length → w.ownsRow (g + 1) 3 1 (f j) (rows.getD j []).length ((rows.getD j []).map (Value.int .i64)))
    (h3 : ∀ i j b, i < rows.length → j < rows.length → i ≠ j → (f i).ownBlock = some b → (f j).ownBlock ≠ some b)
    (hk : k < rows.length) (hv : f k = v) (hown : w2.ownsRow (g + 1) 3 1 v2 ((rows.getD k []).length + 1) ((rows.getD k []).map (Value.int .i64) ++ [Value.int .i64 x]))
    (hg : (w.alloc o).grownBy w2 v.ownBlock) (hat : v2.ownBlock = v.ownBlock ∨ v2.ownBlock = some (w.alloc o).heap.size) :
    OwnRws (w2.setCell ⟨g, k, none⟩ v2) g (rows.set k (rows.getD k [] ++ [x])) := by
  subst hv
  have hgw := h1.lt
  have hne := own_ne (h2 k hk) (g := g) (by omega)
  have hkeep : ∀ b, b < w.heap.size → some b ≠ (f k).ownBlock → w2.heap[b]? = w.heap[b]? := fun b hb hb2 => (hg.block b (by simp; omega) hb2).trans (Below.heap_alloc w o b hb)
  have h1' := (h1.of_block (hkeep g hgw hne)).set k v2
  refine ⟨_, by rw [List.length_set]; exact h1', fun j hj => ?_, fun i j b hi hj hij => ?_⟩
  · rw [List.length_set] at hj
    rw [rows_set _ _ _ hk]
    by_cases e : j = k
    · rw [if_pos e, if_pos e, List.length_append, List.map_append]
      exact own_far hown (by simp) _
    · rw [if_neg e, if_neg e]
      refine own_far (own_block (h2 j hj) fun b hb => hkeep b ((h2 j hj).lt b hb).2 fun hb2 => ?_) (by simp) _
      exact h3 j k b hj hk e hb hb2.symm
  · rw [List.length_set] at hi hj
    have hfresh : ∀ j, j < rows.length → j ≠ k → ∀ b, (f j).ownBlock = some b → v2.ownBlock ≠ some b := by
      intro j hj hjk b hb hb2
      rcases hat with h | h
      · exact h3 j k b hj hk hjk hb (h ▸ hb2)
      · rw [h] at hb2
        have := ((h2 j hj).lt b hb).2
        simp at hb2; omega
    intro h
    split at h
    · rw [if_neg (by omega)]
      exact fun hb => hfresh j hj (by omega) b hb h
    · rename_i hik
      split
      · exact hfresh i hi hik b h
      · exact h3 i j b hi hj hij h
/-- the rows, to be read -/
theorem OwnRws.read {w : World} {g : Nat} {rows : List (List Int)} (h : OwnRws w g rows) (hx : ∀ r ∈ rows, ∀ x ∈ r, -9223372036854775808 ≤ x ∧ x ≤ 9223372036854775807) (hl : rows.length ≤ 9223372036854775807) :
    (sliceR (sliceR (intR .i64))).one w (fun b => g ≤ b ∧ b < w.heap.size) (.slice (some ⟨g, 0, none⟩) rows.length rows.length) rows := by
  obtain ⟨f, h1, h2, h3⟩ := h
  refine ⟨_, _, rfl, Nat.le_refl _, hl, fun h0 => ⟨g, 0, rfl, ⟨Nat.le_refl _, h1.lt⟩, fun i hi => ⟨[f i], fun j u hu => ?_, ?_⟩⟩⟩
  · cases j with
    | succ j => simp at hu
    | zero =>
      simp only [List.getElem?_cons_zero, Option.some.injEq] at hu
      subst hu
      have : (sliceR (intR .i64)).size = 1 := rfl
      rw [this]
      simpa using h1.cell hi
  · have := h2 i hi
    rw [List.getD, List.getElem?_eq_getElem hi] at this
    have h4 := slice_own1 (r := intR .i64) (Value.int .i64) this rfl (fun a ha => ⟨rfl, by
      have := hx _ (List.getElem_mem hi) a ha
      exact wf_i64_mk this.1 this.2⟩)
    exact slice_mono h4 fun b hb => ⟨by omega, hb.2⟩

theorem getD_get (l : List Int) (m : Nat) (h : m < l.length) : l.getD m 0 = l[m] := by rw [List.getD, List.getElem?_eq_getElem h]; rfl
/-- how far back has come: the rows before i whole, of row i so many -/
structure BackAt (next : List (List Int)) (i m : Nat) (rows : List (List Int)) : Prop where
  len : rows.length = next.length
  count : ∀ k, k < next.length → ∀ x : Nat, ((rows.getD k []).count (x : Int)) = if x < i then (next.getD x []).count (k : Int) else if x = i then ((next.getD i []).take m).count (k : Int) else 0
  only : ∀ r ∈ rows, ∀ y ∈ r, ∃ x : Nat, y = (x : Int) ∧ x < next.length
  small : ∀ k, (rows.getD k []).length ≤ 200 * i + m
theorem BackAt.start (next : List (List Int)) : BackAt next 0 0 (List.replicate next.length []) := by
  have e : ∀ k, (List.replicate next.length ([] : List Int)).getD k [] = [] := fun k => by rw [List.getD, List.getElem?_replicate]; split <;> rfl
  refine ⟨by simp, fun k hk x => ?_, fun r hr y hy => ?_, fun k => by rw [e]; simp⟩
  · rw [e]; simp
  · rw [List.mem_replicate] at hr; rw [hr.2] at hy; simp at hy
theorem BackAt.skip {next : List (List Int)} {i m : Nat} {rows : List (List Int)} (h : BackAt next i m rows) (hm : m < (next.getD i []).length) (hy : ¬ (0 ≤ (next.getD i []).getD m 0 ∧ (next.getD i []).getD m 0 < (next.length : Int))) : BackAt next i (m + 1) rows := by
  refine ⟨h.len, fun k hk x => ?_, h.only, fun k => by have := h.small k; omega⟩
  rw [h.count k hk x]
  split
  · rfl
  · split
    · have : ((next.getD i []))[m] ≠ (k : Int) := by
        intro e
        rw [getD_get _ _ hm, e] at hy; omega
      rw [List.take_succ_eq_append_getElem hm, List.count_append, List.count_singleton, beq_eq_false_iff_ne.2 this]; rfl
    · rfl
theorem BackAt.push {next : List (List Int)} {i m : Nat} {rows : List (List Int)} (h : BackAt next i m rows) (hi : i < next.length) (hm : m < (next.getD i []).length) (q : Nat) (hq : (next.getD i []).getD m 0 = (q : Int)) (hql : q < next.length) :
    BackAt next i (m + 1) (rows.set q (rows.getD q [] ++ [(i : Int)])) := by
  have hq' : ((next.getD i []))[m] = (q : Int) := by rw [← hq, getD_get _ _ hm]
  have hqr : q < rows.length := by rw [h.len]; exact hql
  refine ⟨by rw [List.length_set, h.len], fun k hk x => ?_, fun r hr y hy => ?_, fun k => ?_⟩
  · rw [rows_set _ _ _ hqr]
    have hc := h.count k hk x
    by_cases e : k = q
    · subst e
      rw [if_pos rfl, List.count_append, hc, List.count_singleton]
      by_cases ex : x = i
      · subst ex
        simp only [Nat.lt_irrefl, if_false, if_true, ↓reduceIte, beq_self_eq_true]
        rw [List.take_succ_eq_append_getElem hm, List.count_append, List.count_singleton, hq']
        simp
      · have : ((i : Int) == (x : Int)) = false := by simp; omega
        rw [this, if_neg ex]; simp [ex]
    · rw [if_neg e, hc]
      by_cases ex : x = i
      · subst ex
        simp only [Nat.lt_irrefl, if_false, if_true, ↓reduceIte]
        rw [List.take_succ_eq_append_getElem hm, List.count_append, List.count_singleton, hq']
        have : ((q : Int) == (k : Int)) = false := by simp; omega
        rw [this]; simp
      · rw [if_neg ex, if_neg ex]
  · rcases List.mem_or_eq_of_mem_set hr with h1 | h1
    · exact h.only r h1 y hy
    · subst h1
      rcases List.mem_append.1 hy with h2 | h2
      · have : rows.getD q [] ∈ rows := by rw [List.getD, List.getElem?_eq_getElem hqr]; exact List.getElem_mem hqr
        exact h.only _ this y h2
      · simp at h2; exact ⟨i, h2, hi⟩
  · rw [rows_set _ _ _ hqr]
    split
    · rename_i e; subst e; have := h.small k; rw [List.length_append, List.length_singleton]; omega
    · have := h.small k; omega
theorem BackAt.row {next : List (List Int)} {i : Nat} {rows : List (List Int)} (h : BackAt next i (next.getD i []).length rows) (hr : (next.getD i []).length ≤ 200) : BackAt next (i + 1) 0 rows := by
  refine ⟨h.len, fun k hk x => ?_, h.only, fun k => by have := h.small k; omega⟩
  rw [h.count k hk x]
  by_cases ex : x = i
  · subst ex
    rw [if_neg (by omega), if_pos rfl, if_pos (by omega), List.take_length]
  · by_cases h2 : x < i
    · rw [if_pos h2, if_pos (by omega)]
    · rw [if_neg h2, if_neg ex, if_neg (by omega)]; simp

set_option maxHeartbeats 1000000 in
theorem back_any (next : List (List Int)) (vn : Value) (w : World) (hl : next.length ≤ 100) (hr : ∀ r ∈ next, r.length ≤ 200) (hn : RR w vn next) :
    Calls Try.prog 51 #[vn] w fun e w' => e = .returned (.slice (some ⟨w.heap.size, 0, none⟩) next.length next.length) ∧ ∃ rows, BackAt next next.length 0 rows ∧ OwnRws w' w.heap.size rows ∧ Below w.heap.size w w' := by
  obtain ⟨A, c, rfl, hc⟩ := hn.form
  have hmk := run_make_row' (P := Try.prog) 37 22 (.slice none 0 0) 24 Try.underlying37 rowInfo rfl .i64 .i64 next.length (by omega) (by omega)
  obtain ⟨i0, hi0, hz0, hz1, hz2⟩ := info_parts intInfo
  have Hr := hide hr
  clear hr
  go_enter Try.func51, Try.ntmps51
  go_wp2_with fail
  have ho := OwnRws.made w next.length
  have hb0 := (Below.refl w.heap.size w).alloc (Nat.le_refl _) (.cells (madeCells #[.slice none 0 0] next.length) 22)
  clear hmk
  go_loopw [13] (fun i wr => ∃ (k : Nat) (L : List (List Int)), k ≤ next.length ∧ i = .int .i64 (k : Int) ∧ BackAt next k 0 L ∧ OwnRws wr w.heap.size L ∧ Below w.heap.size w wr) (fun i wr => next.length - (intOf i).toNat)
  case atStart => exact ⟨0, _, Nat.zero_le _, rfl, BackAt.start next, ho, hb0⟩
  case round =>
    clear ho hb0
    obtain ⟨k, L, hk, rfl, hL, ho, hb⟩ := hrel
    by_cases hlt : k < next.length
    · obtain ⟨b, o, A', c', rfl, hcell0, hc1, hc2, hri⟩ := hn.at_ hlt
      have hcell := (hb.cell (World.block_lt_of_cell? w _ hcell0)).trans hcell0
      have hrow : (next.getD k []).length ≤ 200 := by
        rw [List.getD, List.getElem?_eq_getElem hlt]; exact Hr.out _ (List.getElem_mem hlt)
      obtain ⟨row, hrw⟩ : ∃ row, row = next.getD k [] := ⟨_, rfl⟩
      rw [← hrw] at hcell hc1 hri hrow
      have Hrw := hide hrw
      have HL0 := hide hL
      have Hb := hide hb
      have Ho := hide ho
      clear hrw hcell0 hL hb ho
      go_wp2_with fail
      go_loopw [20] (fun i wx => ∃ (m : Nat) (L : List (List Int)), m ≤ row.length ∧ i = .int .i64 (m : Int) ∧ BackAt next k m L ∧ OwnRws wx w.heap.size L ∧ Below w.heap.size w wx) (fun i wx => row.length - (intOf i).toNat)
      case atStart => exact ⟨0, L, Nat.zero_le _, rfl, HL0.out, Ho.out, Hb.out⟩
      case round =>
        clear hcell HL0 Hb Ho
        obtain ⟨m, L, hm, rfl, hL, ho, hb⟩ := hrel
        by_cases hmlt : m < row.length
        · obtain ⟨b2, o2, rfl, hcell2, hy1, hy2⟩ := (hri.below hb).at_ hmlt
          have hpl := labelPlace_any next _ (row.getD m 0) wr (by omega) (hn.below hb)
          by_cases hp : 0 ≤ row.getD m 0 ∧ row.getD m 0 < (next.length : Int)
          · obtain ⟨q, hq⟩ := Int.eq_ofNat_of_zero_le hp.1
            have hql : q < next.length := by omega
            have hpp : decide (0 ≤ row.getD m 0 ∧ row.getD m 0 < (next.length : Int)) = true := decide_eq_true hp
            rw [hpp] at hpl
            rw [hq] at hpl hcell2
            have hst := hL.push hlt (by rw [← Hrw.out]; exact hmlt) q (by rw [← Hrw.out]; exact hq) hql
            have hlen := hL.len
            have hsm := hL.small q
            have Hpl := hide hpl
            clear hpl hpp hp hq hL
            obtain ⟨f, r1, r2, r3⟩ := ho
            obtain ⟨ql, hqq⟩ : ∃ ql, ql = L.getD q [] := ⟨_, rfl⟩
            have hown := r2 q (by omega)
            rw [← hqq] at hown hsm
            have c1 := r1.cell (i := q) (by omega)
            have f1 := r1.frozen q
            have hgl := r1.lt
            obtain ⟨v, hv⟩ : ∃ v, f q = v := ⟨_, rfl⟩
            rw [hv] at c1 hown
            obtain ⟨A1, cp1, rfl, hcp1⟩ := own_form hown
            have R1 := hide r1
            have R2 := hide r2
            have R3 := hide r3
            have Hqq := hide hqq
            have Hv := hide hv
            have Hst := hide hst
            have Hlen := hide hlen
            clear r1 r2 r3 hqq hv hst hlen
            go_wp2_with (first
              | (go_at_call 50; refine Hpl.out.mono ?_; rintro e w2 ⟨rfl, rfl⟩)
              | (at_builtin; refine wpList_append_own_at _ rfl (.tmp 32) (.tmp 34) 22 rfl (w.heap.size + 1) 3 i0 _ 1 8 Try.underlying22 hi0 hz0 hz1 hz2 rfl (by omega) _ ql.length _ rfl (hown.alloc _) ⟨wr.heap.size, 0, none⟩ 1 1 [.int .i64 (k : Int)] rfl rfl (one_new _ _ _) (one_one _) (by unfold maxLen; omega) (by omega) (by simp; omega) ?_; intro v2 w2 hown2 hg2 _ hat; obtain ⟨A2, c2, rfl, _⟩ := own_form hown2; have hb2 := (hb.alloc (by omega) (.cells #[.int .i64 (k : Int)] 3)).grown hg2 (by simp; omega) (fun j hj => by have := (World.ownsRow.lt hown j hj).1; omega); have hne := own_ne hown (g := w.heap.size) (by omega); have hbk : w2.heap[w.heap.size]? = wr.heap[w.heap.size]? := (hg2.block _ (by simp; omega) hne).trans (Below.heap_alloc wr _ _ hgl); have hcx := (World.cell?_of_block (a := ⟨w.heap.size, q, none⟩) hbk).trans c1; have hfx := (World.frozen?_of_block (a := ⟨w.heap.size, q, none⟩) hbk).trans f1))
            go_roundw
            case rel =>
              refine ⟨m + 1, _, by omega, by go_num, Hst.out, ?_, hb2.setCell (Nat.le_refl _) _⟩
              exact OwnRws.push (o := .cells #[.int .i64 (k : Int)] 3) R1.out R2.out R3.out (by rw [Hlen.out]; exact hql) Hv.out (by rw [← Hqq.out]; exact hown2) hg2 hat
            case measure => simp [intOf]; omega
          · have hpp : decide (0 ≤ row.getD m 0 ∧ row.getD m 0 < (next.length : Int)) = false := decide_eq_false hp
            rw [hpp] at hpl
            have hst := hL.skip (by rw [← Hrw.out]; exact hmlt) (by rw [← Hrw.out]; exact hp)
            have Hpl := hide hpl
            have Hst := hide hst
            clear hpl hpp hp hst hL
            generalize row.getD m 0 = y at *
            go_wp2_with (go_at_call 50; refine Hpl.out.mono ?_; rintro e w2 ⟨rfl, rfl⟩)
            go_roundw
            case rel => exact ⟨m + 1, L, by omega, by go_num, Hst.out, ho, hb⟩
            case measure => simp [intOf]; omega
        · obtain rfl : m = row.length := by omega
          rw [Hrw.out] at hL
          have hL2 := hL.row (by rw [← Hrw.out]; exact hrow)
          have HL2 := hide hL2
          clear hL hL2
          go_wp2_with fail
          go_roundw
          case rel => exact ⟨k + 1, L, by omega, by go_num, HL2.out, ho, hb⟩
          case measure => simp [intOf]; omega
    · obtain rfl : k = next.length := by omega
      have HL := hide hL
      clear hL
      go_wp2_with fail
      go_ret
      exact ⟨rfl, L, HL.out, ho, hb⟩

end Go.Proofs.Ytcdeidedcbnhaaa
