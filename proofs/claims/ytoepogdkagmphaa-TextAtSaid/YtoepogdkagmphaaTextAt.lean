/-
  TextAt: for every text and every byte's number the law returns true. No condition.
-/
import Derived.Test.YtoepogdkagmphaaTextLaws
set_option linter.unusedVariables false
set_option linter.unusedSimpArgs false
namespace Go.Proofs.Ytoepogdkagmphaa
open Go.ChangeShapes Go.WideShapes Go.ChangeAt Go.RowKit

/-- the place of the first of these runes that does not begin ahead of a byte -/
def findAt (off : Int) : List Ru → Nat × Nat → Nat × Nat
  | [], lc => lc
  | x :: L, lc => if off ≤ (x.f : Int) then (x.l, x.c) else findAt off L (lcNext x.r (x.l, x.c))
theorem findAt_fix (off : Int) : ∀ (L : List Ru) (lc : Nat × Nat), findAt off (L.map Ru.fix) lc = findAt off L lc := by
  intro L
  induction L with
  | nil => intro lc; rfl
  | cons x L ih =>
    intro lc
    have e : (Ru.fix x).f = x.f ∧ (Ru.fix x).l = x.l ∧ (Ru.fix x).c = x.c ∧ lcNext (Ru.fix x).r (x.l, x.c) = lcNext x.r (x.l, x.c) := by
      unfold Ru.fix
      split
      · rename_i h; simp [lcNext, h.1]
      · simp
    rw [List.map_cons, findAt, findAt, e.1, e.2.1, e.2.2.1, e.2.2.2, ih]
theorem findAt_bounds (off : Int) (s : ByteArray) : ∀ (n pos : Nat) (lc : Nat × Nat), lc.1 ≤ pos + 1 → lc.2 ≤ pos + 1 → pos ≤ s.size → (findAt off (decs s n pos lc) lc).1 ≤ s.size + 1 ∧ (findAt off (decs s n pos lc) lc).2 ≤ s.size + 1 := by
  intro n
  induction n with
  | zero => intro pos lc h1 h2 h3; simp [decs, findAt]; omega
  | succ n ih =>
    intro pos lc h1 h2 h3
    rw [decs]
    split
    · rename_i hlt
      have hd := decode_len s pos
      have hi := decode_in s pos hlt
      rw [findAt]
      split
      · simp; omega
      · refine ih _ _ ?_ ?_ hi
        · unfold lcNext; split <;> simp <;> omega
        · unfold lcNext; split <;> simp <;> omega
    · simp [findAt]; omega

def atL (s : ByteArray) (off : Int) : Nat × Nat := findAt off (full s) (1, 1)

set_option maxHeartbeats 1000000 in
theorem textAt_any (s : ByteArray) (off : Int) (w : World) (hs : s.size ≤ 4294967296) :
    Calls Try.prog 16 #[.string s, .int .i64 off] w fun e w' => e = .returned (.agg #[.int .i64 ((atL s off).1 : Int), .int .i64 ((atL s off).2 : Int)]) ∧ Below w.heap.size w w' := by
  go_enter Try.func16, Try.ntmps16
  go_wp2_with fail
  go_loopw [6] (fun v wr => ∃ pos lc, pos ≤ s.size ∧ findAt off (rest s pos lc) lc = atL s off ∧ lc.1 ≤ pos + 1 ∧ lc.2 ≤ pos + 1 ∧
        Blk wr w.heap.size 33 #[.int .i64 0, .int .i64 0] ∧ Blk wr (w.heap.size + 1) 33 #[.int .i64 (lc.1 : Int), .int .i64 (lc.2 : Int)] ∧ wr.heap[w.heap.size + 2]? = some (.stringIter s pos) ∧ Below w.heap.size w wr)
      (fun v wr => s.size - wr.iterPos (w.heap.size + 2))
  case atStart =>
    refine ⟨0, (1, 1), Nat.zero_le _, ?_, by omega, by omega, ((Blk.new w _ _).alloc _).alloc _, ?_, ?_, ?_⟩
    · rw [atL, full, findAt_fix]; rfl
    · have := (Blk.new (w.alloc (.cells #[.int .i64 0, .int .i64 0] 33)) 33 #[.int .i64 1, .int .i64 1]).alloc (.stringIter s 0)
      rw [World.size_alloc] at this
      exact this
    · have := World.iter_heap ((w.alloc (.cells #[.int .i64 0, .int .i64 0] 33)).alloc (.cells #[.int .i64 1, .int .i64 1] 33)) s 0
      simpa using this
    · have h1 := (Below.refl w.heap.size w).alloc (Nat.le_refl _) (.cells #[.int .i64 0, .int .i64 0] 33)
      have h2 := h1.alloc h1.size (.cells #[.int .i64 1, .int .i64 1] 33)
      exact h2.alloc h2.size _
  case round =>
    obtain ⟨pos, ⟨l, c⟩, hpos, hf, hl1, hl2, hr, hat, hit, hb⟩ := hrel
    simp only at hl1 hl2 hat
    by_cases hlt : pos < s.size
    · have hn := fun ty => Lib.run_next_any_at (P := Try.prog) wr (w.heap.size + 2) s pos ty hit hlt
      go_upto_region 4 with (fail)
      have hr1 := hr.iterAt (k := w.heap.size + 2) (by omega) s (pos + (Utf8.decode s pos).2)
      have hat1 := hat.iterAt (k := w.heap.size + 2) (by omega) s (pos + (Utf8.decode s pos).2)
      have hit1 := iter_heap hit (pos + (Utf8.decode s pos).2)
      have hb1 := Lib.below_iterAt hb (k := w.heap.size + 2) (by omega) s (pos + (Utf8.decode s pos).2)
      have Hit := hide hit
      generalize wr.iterAt (w.heap.size + 2) s (pos + (Utf8.decode s pos).2) = w1 at *
      clear hn hat hit hb hr
      rw [rest_step s pos _ hlt, findAt] at hf
      have hdl := decode_len s pos
      have hdi := decode_in s pos hlt
      have c0 := hat1.cell 0
      have c1 := hat1.cell 1
      have f0 := hat1.frozen 0
      have f1 := hat1.frozen 1
      have r0 := hr1.cell 0
      have r1 := hr1.cell 1
      have g0 := hr1.frozen 0
      have g1 := hr1.frozen 1
      simp at c0 c1 r0 r1
      by_cases ho : off ≤ (pos : Int)
      · rw [if_pos ho] at hf
        have Hf := hide hf
        clear hf
        have q0 := (hr1.set_ 0 (.int .i64 (l : Int))).cell 0
        have q1 := ((hr1.set_ 0 (.int .i64 (l : Int))).set_ 1 (.int .i64 (c : Int))).cell 1
        simp at q0 q1
        go_wp2
        refine bodyPost_ret (v := .agg #[.int .i64 (l : Int), .int .i64 (c : Int)]) (by simp [results, Try.results16, go_sem, q0, q1]) rfl ?_
        rw [← Hf.out]
        exact ⟨rfl, (hb1.setCell (Nat.le_refl _) _).setCell (Nat.le_refl _) _⟩
      · rw [if_neg ho] at hf
        have Hf := hide hf
        clear hf
        go_upto_region 7 with (fail)
        go_wp2_with (go_at_call 22; refine (next_any l c _ _ (by omega) (by omega)).mono ?_; rintro e w3 ⟨rfl, hb4⟩; have hat4 := hat1.below hb4 hat1.lt; have d0 := hat4.cell 0; have d1 := hat4.cell 1; simp at d0 d1; have k0 := hat4.frozen 0; have k1 := hat4.frozen 1)
        go_roundw
        case rel =>
          refine ⟨pos + (Utf8.decode s pos).2, lcNext ((Utf8.decode s pos).1 : Int) (l, c), hdi, Hf.out, ?_, ?_, ?_, ?_, ?_, ?_⟩
          · unfold lcNext; split <;> simp <;> omega
          · unfold lcNext; split <;> simp <;> omega
          · exact ((hr1.below hb4 hr1.lt).far (by show _ ≠ w.heap.size + 1; omega) _).far (by show _ ≠ w.heap.size + 1; omega) _
          · have := (hat4.set_ 0 (.int .i64 ((lcNext ((Utf8.decode s pos).1 : Int) (l, c)).1 : Int))).set_ 1 (.int .i64 ((lcNext ((Utf8.decode s pos).1 : Int) (l, c)).2 : Int))
            simpa using this
          · exact iter_far (iter_far (iter_below hit1 hb4 (iter_lt hit1)) (by show _ ≠ w.heap.size + 1; omega) _) (by show _ ≠ w.heap.size + 1; omega) _
          · exact ((hb1.trans (hb4.mono hb1.size)).setCell (by show _ ≤ w.heap.size + 1; omega) _).setCell (by show _ ≤ w.heap.size + 1; omega) _
        case measure =>
          have hk := iter_below hit1 hb4 (iter_lt hit1)
          have hk2 := iter_far (iter_far hk (a := ⟨w.heap.size + 1, 0, none⟩) (by show _ ≠ w.heap.size + 1; omega) (.int .i64 ((lcNext ((Utf8.decode s pos).1 : Int) (l, c)).1 : Int))) (a := ⟨w.heap.size + 1, 1, none⟩) (by show _ ≠ w.heap.size + 1; omega) (.int .i64 ((lcNext ((Utf8.decode s pos).1 : Int) (l, c)).2 : Int))
          rw [iter_pos Hit.out, iter_pos hk2]
          omega
    · have hn := fun ty => Lib.run_next_end_at (P := Try.prog) wr (w.heap.size + 2) s pos ty hit hlt
      rw [rest_end s pos _ hlt, findAt] at hf
      have Hf := hide hf
      clear hf
      have c0 := hat.cell 0
      have c1 := hat.cell 1
      have r0 := hr.cell 0
      have r1 := hr.cell 1
      have g0 := hr.frozen 0
      have g1 := hr.frozen 1
      simp at c0 c1 r0 r1
      have q0 := (hr.set_ 0 (.int .i64 (l : Int))).cell 0
      have q1 := ((hr.set_ 0 (.int .i64 (l : Int))).set_ 1 (.int .i64 (c : Int))).cell 1
      simp at q0 q1
      go_wp2
      refine bodyPost_ret (v := .agg #[.int .i64 (l : Int), .int .i64 (c : Int)]) (by simp [results, Try.results16, go_sem, q0, q1]) rfl ?_
      rw [← Hf.out]
      exact ⟨rfl, (hb.setCell (Nat.le_refl _) _).setCell (Nat.le_refl _) _⟩


/-- the place behind the last rune -/
theorem findAt_all (off : Int) : ∀ (L : List Ru) (lc : Nat × Nat), (∀ x ∈ L, ¬ off ≤ (x.f : Int)) → findAt off L lc = (L.getLast?.map fun x => lcNext x.r (x.l, x.c)).getD lc := by
  intro L
  induction L with
  | nil => intro lc _; rfl
  | cons x L ih =>
    intro lc h
    rw [findAt, if_neg (h x (by simp)), ih _ fun y hy => h y (by simp [hy])]
    cases L with
    | nil => rfl
    | cons y L => simp [List.getLast?_cons]

def endL (s : ByteArray) : Nat × Nat := ((full s).getLast?.map fun x => lcNext x.r (x.l, x.c)).getD (1, 1)

theorem full_lc (s : ByteArray) : ∀ x ∈ full s, x.l ≤ s.size + 1 ∧ x.c ≤ s.size + 1 := by
  have key : ∀ (n pos : Nat) (lc : Nat × Nat), lc.1 ≤ pos + 1 → lc.2 ≤ pos + 1 → ∀ x ∈ decs s n pos lc, x.l ≤ s.size + 1 ∧ x.c ≤ s.size + 1 := by
    intro n
    induction n with
    | zero => intro pos lc _ _ x hx; simp [decs] at hx
    | succ n ih =>
      intro pos lc h1 h2 x hx
      rw [decs] at hx
      split at hx
      · have hd := decode_len s pos
        rcases List.mem_cons.1 hx with rfl | hx
        · simp; omega
        · refine ih _ _ ?_ ?_ x hx
          · unfold lcNext; split <;> simp <;> omega
          · unfold lcNext; split <;> simp <;> omega
      · simp at hx
  intro x hx
  obtain ⟨y, hy, rfl⟩ := List.mem_map.1 hx
  have := key _ _ _ (by simp) (by simp) y hy
  unfold Ru.fix
  split <;> exact this

theorem last_cell (k : IntKind) (L q : List Ru) (x : Ru) (h : L = q ++ [x]) (j : Nat) (hj : j < 5) : (cellsOf k L)[(L.length - 1) * 5 + j]? = (x.cells k)[j]? := by
  subst h
  have := cells_at k q x [] j hj
  simpa using this

set_option maxHeartbeats 1000000 in
theorem end_any (s : ByteArray) (w : World) (hs : s.size ≤ 4294967296) :
    Calls Try.prog 23 #[.string s] w fun e w' => e = .returned (.agg #[.int .i64 ((endL s).1 : Int), .int .i64 ((endL s).2 : Int)]) ∧ Below w.heap.size w w' := by
  have hlen : (full s).length ≤ 4294967296 := by
    have := raw_length s
    simp [full]; omega
  have hall := all_any s ((w.alloc (.cells #[.int .i64 0, .int .i64 0] 33)).alloc (.cells #[.int .i64 1, .int .i64 1] 33)) hs
  have hbd := full_lc s
  obtain ⟨E, hE⟩ : ∃ E, E = endL s := ⟨_, rfl⟩
  rw [← hE]
  unfold endL at hE
  generalize full s = L at *
  have Hall := hide hall
  have Hbd := hide hbd
  have HE := hide hE
  clear hall hbd hE
  go_enter Try.func23, Try.ntmps23
  go_wp2_with fail
  refine Hall.out.mono ?_
  rintro e w1 ⟨v, rfl, hown, hb⟩
  obtain ⟨A, cap, rfl, hcap⟩ := own_form hown
  have hbr : Blk w1 w.heap.size 33 #[.int .i64 0, .int .i64 0] := ((Blk.new w _ _).alloc _).below hb (by simp; omega)
  have hbp : Blk w1 (w.heap.size + 1) 33 #[.int .i64 1, .int .i64 1] := by
    have := Blk.new (w.alloc (.cells #[.int .i64 0, .int .i64 0] 33)) 33 #[.int .i64 1, .int .i64 1]
    rw [World.size_alloc] at this
    exact this.below hb (by simp)
  have hb0 : Below w.heap.size w w1 := by
    have h1 := (Below.refl w.heap.size w).alloc (Nat.le_refl _) (.cells #[.int .i64 0, .int .i64 0] 33)
    have h2 := h1.alloc h1.size (.cells #[.int .i64 1, .int .i64 1] 33)
    exact h2.trans (hb.mono (by simp; omega))
  have hown1 := own_base (base' := w.heap.size + 2) hown (by simp)
  clear hb hown
  go_upto_if 10 with fail
  go_cut [10] (fun v wx => Blk wx w.heap.size 33 #[.int .i64 0, .int .i64 0] ∧ Blk wx (w.heap.size + 1) 33 #[.int .i64 (E.1 : Int), .int .i64 (E.2 : Int)] ∧ Below w.heap.size w wx)
  case first =>
    by_cases hpos : 0 < L.length
    · obtain ⟨g, c, hv, _, hg1, hg2⟩ := own_some hown1 hpos
      cases hv
      have hx : ∃ q x, L = q ++ [x] := by
        rcases nil_or_snoc L with rfl | h
        · simp at hpos
        · exact h
      obtain ⟨q, x, hL⟩ := hx
      have a0 := own_cell hown1 rfl (last_cell .i64 L q x hL 0 (by omega))
      have a3 := own_cell hown1 rfl (last_cell .i64 L q x hL 3 (by omega))
      have a4 := own_cell hown1 rfl (last_cell .i64 L q x hL 4 (by omega))
      have hx := Hbd.out x (by rw [hL]; simp)
      have HE2 := hide (show E = lcNext x.r (x.l, x.c) by rw [HE.out, hL]; simp)
      clear hL
      obtain ⟨r, xf, xt, l, cc⟩ := x
      simp only [Ru.cells] at a0 a3 a4
      simp at a0 a3 a4 hx
      have p0 := hbp.cell 0
      have p1 := hbp.cell 1
      have f0 := hbp.frozen 0
      have f1 := hbp.frozen 1
      simp at p0 p1
      have hb1 := (hbp.set_ 0 (.int .i64 (l : Int))).set_ 1 (.int .i64 (cc : Int))
      have s1 := hb1.cell 1
      have hb2 := hb1.set_ 1 (.int .i64 ((cc : Int) + 1))
      have s0 := (hbp.set_ 0 (.int .i64 (l : Int))).cell 0
      have s2 := hb2.cell 0
      have hgn : w.heap.size + 1 ≠ g := by omega
      have Hown := hide hown1
      have Hb2 := hide hb2
      have Hbr := hide hbr
      have Hb0 := hide hb0
      clear hown1 hb1 hb2 hbr hb0
      simp at s0 s1 s2
      cases h10 : (r == 10) with
      | false =>
        go_wp2
        go_meet
        case rel =>
          rw [HE2.out]
          simp only [lcNext, show ¬ r = 10 from by simpa using h10, if_false]
          refine ⟨((Hbr.out.far (by show _ ≠ w.heap.size + 1; omega) _).far (by show _ ≠ w.heap.size + 1; omega) _).far (by show _ ≠ w.heap.size + 1; omega) _, ?_, ((Hb0.out.setCell (by show _ ≤ w.heap.size + 1; omega) _).setCell (by show _ ≤ w.heap.size + 1; omega) _).setCell (by show _ ≤ w.heap.size + 1; omega) _⟩
          have := Hb2.out
          simpa using this
      | true =>
        go_wp2
        go_meet
        case rel =>
          rw [HE2.out]
          simp only [lcNext, show r = 10 from by simpa using h10, if_true]
          refine ⟨((((Hbr.out.far (by show _ ≠ w.heap.size + 1; omega) _).far (by show _ ≠ w.heap.size + 1; omega) _).far (by show _ ≠ w.heap.size + 1; omega) _).far (by show _ ≠ w.heap.size + 1; omega) _).far (by show _ ≠ w.heap.size + 1; omega) _, ?_, ((((Hb0.out.setCell (by show _ ≤ w.heap.size + 1; omega) _).setCell (by show _ ≤ w.heap.size + 1; omega) _).setCell (by show _ ≤ w.heap.size + 1; omega) _).setCell (by show _ ≤ w.heap.size + 1; omega) _).setCell (by show _ ≤ w.heap.size + 1; omega) _⟩
          have := (Hb2.out.set_ 0 (.int .i64 ((l : Int) + 1))).set_ 1 (.int .i64 1)
          simpa using this
    · go_wp2
      go_meet
      case rel =>
        obtain rfl : L = [] := List.eq_nil_of_length_eq_zero (by omega)
        rw [HE.out]
        exact ⟨hbr, hbp, hb0⟩
  case rest =>
    obtain ⟨hr, hp, hbx⟩ := hcut
    have r0 := hr.cell 0
    have r1 := hr.cell 1
    have p0 := hp.cell 0
    have p1 := hp.cell 1
    have g0 := hr.frozen 0
    have g1 := hr.frozen 1
    simp at p0 p1 r0 r1
    have q0 := (hr.set_ 0 (.int .i64 (E.1 : Int))).cell 0
    have q1 := ((hr.set_ 0 (.int .i64 (E.1 : Int))).set_ 1 (.int .i64 (E.2 : Int))).cell 1
    simp at q0 q1
    go_wp2
    refine bodyPost_ret (v := .agg #[.int .i64 (E.1 : Int), .int .i64 (E.2 : Int)]) (by simp [results, Try.results23, go_sem, q0, q1]) rfl ?_
    exact ⟨rfl, (hbx.setCell (Nat.le_refl _) _).setCell (Nat.le_refl _) _⟩


set_option maxHeartbeats 1000000 in
theorem refAt_any (s : ByteArray) (off : Int) (w : World) (hs : s.size ≤ 4294967296) :
    Calls Try.prog 17 #[.string s, .int .i64 off] w fun e w' => e = .returned (.agg #[.int .i64 ((atL s off).1 : Int), .int .i64 ((atL s off).2 : Int)]) ∧ Below w.heap.size w w' := by
  have hlen : (full s).length ≤ 4294967296 := by
    have := raw_length s
    simp [full]; omega
  have hall := all_any s (w.alloc (.cells #[.int .i64 0, .int .i64 0] 33)) hs
  have hend : (∀ x ∈ full s, (x.f : Int) < off) → endL s = atL s off := fun h => (findAt_all off (full s) (1, 1) (fun x hx => by have := h x hx; omega)).symm
  have hend2 := end_any s
  obtain ⟨E, hE⟩ : ∃ E, E = endL s := ⟨_, rfl⟩
  rw [← hE] at hend hend2
  have hat : ∀ (k : Nat) (h : k < (full s).length), (∀ x ∈ (full s).take k, (x.f : Int) < off) → off ≤ ((full s)[k].f : Int) → atL s off = ((full s)[k].l, (full s)[k].c) := by
    intro k h h1 h2
    have key : ∀ (L : List Ru) (lc : Nat × Nat) (k : Nat) (h : k < L.length), (∀ x ∈ L.take k, (x.f : Int) < off) → off ≤ (L[k].f : Int) → findAt off L lc = (L[k].l, L[k].c) := by
      intro L
      induction L with
      | nil => intro lc k h; simp at h
      | cons x L ih =>
        intro lc k h h1 h2
        cases k with
        | zero => rw [findAt, if_pos (by simpa using h2)]; rfl
        | succ k => rw [findAt, if_neg (by have := h1 x (by simp); omega)]; exact ih _ k (by simpa using h) (fun y hy => h1 y (by simp [hy])) (by simpa using h2)
    exact key _ _ k h h1 h2
  obtain ⟨R, hR⟩ : ∃ R, R = atL s off := ⟨_, rfl⟩
  rw [← hR] at hend hat ⊢
  generalize full s = L at *
  clear hE hR
  have Hall := hide hall
  have Hend := hide hend
  have Hend2 := hide hend2
  have Hat := hide hat
  clear hall hend hend2 hat
  go_enter Try.func17, Try.ntmps17
  go_wp2_with fail
  refine Hall.out.mono ?_
  rintro e w1 ⟨v, rfl, hown, hb⟩
  obtain ⟨A, cap, rfl, hcap⟩ := own_form hown
  have hbr : Blk w1 w.heap.size 33 #[.int .i64 0, .int .i64 0] := (Blk.new w _ _).below hb (by simp)
  have hb0 : Below w.heap.size w w1 := ((Below.refl w.heap.size w).alloc (Nat.le_refl _) (.cells #[.int .i64 0, .int .i64 0] 33)).trans (hb.mono (by simp))
  have r0 := hbr.cell 0
  have r1 := hbr.cell 1
  have g0 := hbr.frozen 0
  have g1 := hbr.frozen 1
  simp at r0 r1
  go_wp2_with fail
  go_loop [6] (fun i => ∃ k : Nat, k ≤ L.length ∧ i = .int .i64 (k : Int) ∧ ∀ x ∈ L.take k, (x.f : Int) < off) (fun i => L.length - (intOf i).toNat)
  case atStart => exact ⟨0, Nat.zero_le _, rfl, fun x hx => by simp at hx⟩
  case round =>
    obtain ⟨k, hk, rfl, hno⟩ := hrel
    have Hno := hide hno
    clear hno
    by_cases hlt : k < L.length
    · obtain ⟨g, c, hv, _, hg1, hg2⟩ := own_some hown (by omega)
      cases hv
      have at' : ∀ j, j < 5 → (cellsOf .i64 L)[k * 5 + j]? = (L[k].cells .i64)[j]? := by
        intro j hj
        have e := cells_at .i64 (L.take k) L[k] (L.drop (k + 1)) j hj
        rwa [← List.drop_eq_getElem_cons hlt, List.take_append_drop, List.length_take, Nat.min_eq_left hk] at e
      have a1 := own_cell hown rfl (at' 1 (by omega))
      have a3 := own_cell hown rfl (at' 3 (by omega))
      have a4 := own_cell hown rfl (at' 4 (by omega))
      have hRk := hide (Hat.out k hlt Hno.out)
      have htk := hide (List.take_succ_eq_append_getElem hlt)
      have Hown := hide hown
      clear hown at'
      generalize L[k] = x at *
      obtain ⟨r, xf, xt, l, cc⟩ := x
      simp only [Ru.cells] at a1 a3 a4
      have e1 : w1.cell? ⟨g, k * 5 + 1, none⟩ = some (.int .i64 (xf : Int)) := a1
      have e3 : w1.cell? ⟨g, k * 5 + 3, none⟩ = some (.int .i64 (l : Int)) := a3
      have e4 : w1.cell? ⟨g, k * 5 + 4, none⟩ = some (.int .i64 (cc : Int)) := a4
      clear a1 a3 a4
      by_cases ho : off ≤ (xf : Int)
      · have hR := hRk.out ho
        have HR := hide hR
        clear hR
        have q0 := (hbr.set_ 0 (.int .i64 (l : Int))).cell 0
        have q1 := ((hbr.set_ 0 (.int .i64 (l : Int))).set_ 1 (.int .i64 (cc : Int))).cell 1
        simp at q0 q1
        have hgn : w.heap.size ≠ g := by simp at hg1; omega
        go_wp2_with fail
        refine bodyPost_ret (v := .agg #[.int .i64 (l : Int), .int .i64 (cc : Int)]) (by simp [results, Try.results17, go_sem, q0, q1]) rfl ?_
        rw [HR.out]
        exact ⟨rfl, (hb0.setCell (Nat.le_refl _) _).setCell (Nat.le_refl _) _⟩
      · go_wp2_with fail
        go_round
        case rel =>
          refine ⟨k + 1, by omega, by go_num, fun x hx => ?_⟩
          rw [htk.out] at hx
          rcases List.mem_append.1 hx with hx | hx
          · exact Hno.out x hx
          · simp at hx; subst hx; simp; omega
        case measure => simp [intOf]; omega
    · obtain rfl : k = L.length := by omega
      have HE := hide (Hend.out (by have := Hno.out; rwa [List.take_length] at this))
      go_wp2_with fail
      refine (Hend2.out _ hs).mono ?_
      rintro e w2 ⟨rfl, hb2⟩
      have hbr2 := hbr.below hb2 hbr.lt
      have u0 := hbr2.cell 0
      have u1 := hbr2.cell 1
      have v0 := hbr2.frozen 0
      have v1 := hbr2.frozen 1
      simp at u0 u1
      have q0 := (hbr2.set_ 0 (.int .i64 (E.1 : Int))).cell 0
      have q1 := ((hbr2.set_ 0 (.int .i64 (E.1 : Int))).set_ 1 (.int .i64 (E.2 : Int))).cell 1
      simp at q0 q1
      go_wp2_with fail
      refine bodyPost_ret (v := .agg #[.int .i64 (E.1 : Int), .int .i64 (E.2 : Int)]) (by simp [results, Try.results17, go_sem, q0, q1]) rfl ?_
      rw [← HE.out]
      exact ⟨rfl, ((hb0.trans (hb2.mono hb0.size)).setCell (Nat.le_refl _) _).setCell (Nat.le_refl _) _⟩

set_option maxHeartbeats 400000 in
theorem textAt_law (s : ByteArray) (off : Int) (w : World) (hs : s.size ≤ 9223372036854775807) : Calls Try.prog 6 #[.string s, .int .i64 off] w fun e w' => e = .returned (.bool true) ∧ Below w.heap.size w w' := by
  by_cases h : s.size ≤ 5000
  · have c1 := textAt_any s off
    have c2 := refAt_any s off
    generalize atL s off = R at *
    obtain ⟨l, c⟩ := R
    have C1 := hide c1
    have C2 := hide c2
    clear c1 c2
    go_enter Try.func6, Try.ntmps6
    go_wp2_with (first
      | (go_at_call 16; refine (C1.out _ (by omega)).mono ?_; rintro e w1 ⟨rfl, hb1⟩)
      | (go_at_call 17; refine (C2.out _ (by omega)).mono ?_; rintro e w2 ⟨rfl, hb2⟩)
      | (go_at_call 8; refine (awake_any _).mono ?_; rintro e w4 ⟨rfl, hb4⟩))
    go_ret
    have h1 := hb1.trans (hb2.mono hb1.size)
    exact ⟨rfl, h1.trans (hb4.mono h1.size)⟩
  · go_enter Try.func6, Try.ntmps6
    go_wp2_with (go_at_call 8; refine (awake_any _).mono ?_; rintro e w' ⟨rfl, hb⟩)
    go_ret
    exact ⟨rfl, hb⟩


set_option maxRecDepth 100000 in
theorem textAt_lifted (os : Os) (started : os.Started) (H : Type) (enc : TypeId × Value → H) :
    ReturnsInHanded {} Try.checked os 6 .any (Rows.textAtSpec.pre6 enc Try.prog Try.f6 Rows.textAtRow.domain false) (Rows.textAtSpec.post enc Try.prog Try.f6 false true false false) := by
  refine returnsInHanded_of_change (C := Try.checked) lawOwn started (by kernel_rfl) Try.func6
    (ChangeSpec.witness6 (enc := enc) (C := Try.checked) false ⟨#[], #[.string ⟨#[]⟩, .int .i64 0], []⟩ 8 (by kernel_rfl) (by kernel_rfl) (by kernel_rfl) (by kernel_rfl)) ?_
  intro W base args ds gs before hval0 hW hcnd _
  have hval : ∀ (j : Nat) t v, Try.f6.params[j]? = some t → args[j]? = some v → Value.okWide Try.prog W .any base t v := hval0
  have hW' := hW
  obtain ⟨p, q, hA, _⟩ := hW'
  have hA' : DataW.TrodAll enc Try.prog W 0 (fun _ => true) true Try.f6.params.toList args.toList ds p := hA
  rw [Try.params6] at hA' hval
  obtain ⟨v0, vs0, d0, ds0, p0, q0, hargs, hds, _, h0, r0⟩ := trodAll_cons hA'
  obtain ⟨v1, vs1, d1, ds1, p1, q1, rfl, rfl, _, h1, r1⟩ := trodAll_cons r0
  obtain ⟨rfl, rfl, _⟩ := trodAll_nil r1
  obtain rfl : args = #[v0, v1] := by cases args; simp_all
  subst hds
  refine law_calls (by kernel_rfl) (by kernel_rfl) rfl hW (fun gs' h => by subst h; rfl) ?_
  obtain ⟨s, rfl, rfl, rfl, hs_s⟩ := Go.ChangeMaps.open_string Try.underlying9 (hval 0 9 _ rfl rfl) h0
  obtain ⟨off, rfl, rfl, rfl, woff⟩ := open_int Try.underlying3 (hval 1 3 _ rfl rfl) h1
  exact textAt_law s off W hs_s

theorem textAt_holds : Rows.TextAtSaid :=
  OpenClaim.holds_of_wide 6 Try.f6 rfl rfl rfl rfl rfl rfl rfl ⟨rfl, rfl, rfl, rfl, rfl⟩ rfl rfl rfl rfl rfl (by kernel_rfl) Try.func6 (by kernel_rfl)
    (of_decide_eq_true (by kernel_rfl)) (by unfold Func.isWrapper; first | (rw [if_pos (by decide +kernel)]; kernel_rfl) | (rw [if_neg (by decide +kernel)]; exact ⟨rfl, rfl⟩))
    (fun os started H enc _ => textAt_lifted os started H enc)
#print axioms textAt_holds

end Go.Proofs.Ytoepogdkagmphaa
