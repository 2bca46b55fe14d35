/-
  ABSTRACT VALUES: append, literals of slices, make. Of whatever program.
-/
import Derived.Test.YtfocnmkbnccilaaAlD
set_option linter.unusedVariables false
set_option linter.unusedSimpArgs false
namespace Go.Proofs.Ytfocnmkbnccilaa
open Go.RowKit

/-- a slice's type: its element's type, cells, bytes -/
def tyRow (P : Program) (t : TypeId) : Option (TypeId × Nat × Nat) :=
  match P.underlying t with
  | some (.slice e) => match P.info? e with
    | some i => match i.zero with
      | some z => if z.cells.size = i.size ∧ 0 < i.size then some (e, i.size, i.bytes) else none
      | none => none
    | none => none
  | _ => none
def aSrc (tab : ATab) (sz : Nat) : AV → Option (List (List AV))
  | .sl sz' rows => if sz' = sz then some rows else none
  | .osl id => match tab.get id with
    | some (.row _ sz' rows) => if sz' = sz then some rows else none
    | _ => none
  | .c (.slice none 0 _) => some []
  | _ => none
/-- what is appended to: the object, if it is one; its rows -/
def aDst (tab : ATab) (e sz : Nat) : AV → Option (Option Nat × List (List AV))
  | .osl id => match tab.get id with
    | some (.row e' sz' rows) => if e' = e ∧ sz' = sz then some (some id, rows) else none
    | _ => none
  | .c (.slice none 0 0) => some (none, [])
  | _ => none
section
variable {P : Program} {cx : Cx} {a : Act} {w w' : World} {tab : ATab} {st : ASt} {L : Nat → Value} {nx : Nat}
theorem tyRow_some {t e sz by_ : Nat} (h : tyRow P t = some (e, sz, by_)) : ∃ i z, P.underlying t = some (.slice e) ∧ P.info? e = some i ∧ i.zero = some z ∧ i.size = sz ∧ i.bytes = by_ ∧ z.cells.size = sz ∧ 0 < sz := by
  unfold tyRow at h
  split at h
  · rename_i e' hu
    split at h
    · rename_i i hi
      split at h
      · rename_i z hz
        split at h
        · rename_i hc
          cases h
          exact ⟨i, z, hu, hi, hz, rfl, rfl, hc.1, hc.2⟩
        · cases h
      · cases h
    · cases h
  · cases h
theorem run_append_none (base : Nat) {t ty e : TypeId} {i : TypeInfo} {size c : Nat} (ht : P.underlying t = some (.slice e)) (hi : P.info? e = some i)
    {v : Value} {n : Nat} {xs : List Value} (hown : OwnsR w base e size v n xs) : (Builtin.append_ #[t, t] ty #[v, .slice none 0 c]).run P w = .ok v w := by
  rcases hown.2 with ⟨rfl, rfl⟩ | ⟨g, cap, cur, rfl, _, _, hnc, _⟩
  · simp [Builtin.append_, run_underlying ht, sizeOf, typeInfo, hi, Builtin.lenOf, Builtin.firstCells]
  · simp [Builtin.append_, run_underlying ht, sizeOf, typeInfo, hi, Builtin.lenOf, Builtin.firstCells, hnc, storeCells]
theorem run_append_R {w : World} (base : Nat) (t ty e : TypeId) (i : TypeInfo) (z : Value) (size bytes : Nat) (ht : P.underlying t = some (.slice e)) (hi : P.info? e = some i) (hz : i.zero = some z)
    (hsize : i.size = size) (hby : i.bytes = bytes) (hzs : z.cells.size = size) (hsz : 0 < size)
    (v : Value) (n : Nat) (xs : List Value) (hown : OwnsR w base e size v n xs)
    (a : Addr) (m c : Nat) (news : List Value) (hl : news.length = m * size) (hnews : ∀ j u, news[j]? = some u → w.cell? (a.add j) = some u) (h1 : ∀ u ∈ news, u.oneCell' = true)
    (h63 : n + m ≤ maxLen) (hbytes : (n + m) * bytes ≤ 140737488355328) (hbase : base ≤ w.heap.size) :
    ∃ v' w', (Builtin.append_ #[t, t] ty #[v, .slice (some a) m c]).run P w = .ok v' w' ∧ OwnsR w' base e size v' (n + m) (xs ++ news) ∧ w.grownBy w' v.ownBlock ∧ (v'.ownBlock = v.ownBlock ∨ v'.ownBlock = some w.heap.size) := by
  rcases hown.2 with ⟨rfl, rfl⟩ | ⟨g, cap, cur, rfl, hbg, hg, hnc, hcm, hcs, htake⟩
  · obtain ⟨v', w', h2, h3, h4, _, h5⟩ := run_append_own_at (P := P) w base t ty e i z size bytes ht hi hz hsize hby hzs hsz (.slice none 0 0) 0 xs ⟨hown.1, .inl ⟨rfl, rfl⟩⟩ a m c news hl hnews h1 h63 hbytes hbase
    exact ⟨v', w', h2, ownsR_of h3, h4, h5⟩
  · subst hsize
    subst hby
    have hsmall : n + m ≤ 9223372036854775807 := by simp only [maxLen] at h63; omega
    have hlen : (xs ++ news).length = (n + m) * i.size := by rw [List.length_append, hown.1, hl, Nat.add_mul]
    by_cases hroom : n + m ≤ cap
    · have hfit : n * i.size + news.length ≤ cur.size := by
        rw [hl, ← Nat.add_mul]
        exact Nat.le_trans (Nat.mul_le_mul_right _ hroom) hcs
      have hr := run_append_room (P := P) w t ty e i ht hi g n cap cur hg a m c news hl hnews h1 hroom hfit
      refine ⟨_, _, hr, ⟨hlen, .inr ⟨g, cap, _, rfl, hbg, setRow_heap w g cur _ e _ hg, hroom, hcm, ?_, ?_⟩⟩, ⟨rfl, rfl, rfl, by simp, fun k _ hk => setRow_other w g k _ (fun e => hk (by simp [Value.ownBlock, e]))⟩, Or.inl rfl⟩
      · simp only [List.size_toArray, List.length_append, List.length_take, List.length_drop, Array.length_toList]
        omega
      · rw [htake, ← hlen]
        exact List.take_left
    · have holds : ∀ j u, xs[j]? = some u → w.cell? ((⟨g, 0, none⟩ : Addr).add j) = some u := hown.cells (g := g) rfl
      have hr := run_append_grow (P := P) w t ty e i z ht hi hz ⟨g, 0, none⟩ n cap xs hown.1 holds a m c news hl hnews (by omega) (by omega) (growslice_fits (by omega) hbytes)
      have hge := grownCap_ge w (n + m) cap e
      have hcm' : grownCap w (n + m) cap e ≤ maxLen := grownCap_le_maxLen w (n + m) cap e h63
      refine ⟨_, _, hr, ⟨hlen, .inr ⟨w.heap.size, _, _, rfl, hbase, heap_alloc_new w.drew _, hge, hcm', ?_, ?_⟩⟩, ⟨rfl, rfl, rfl, by simp, fun k hk _ => heap_alloc_old w.drew _ hk⟩, Or.inr rfl⟩
      · simp only [Array.size_append, List.size_toArray, size_zeroCells, hzs, hown.1, hl, ← Nat.add_mul]
        refine Nat.le_of_eq ?_
        congr 1
        omega
      · simp only [Array.toList_append, List.append_assoc]
        rw [← List.append_assoc, ← hlen]
        exact List.take_left
theorem src_ok (hL : Lay cx w tab L) {v : Value} {av : AV} {sz : Nat} {rows : List (List AV)} (h0 : 0 < sz) (hv : RVx cx w tab L v av) (h : aSrc tab sz av = some rows) : ∃ A c, v = .slice A rows.length c ∧ (∀ row ∈ rows, row.length = sz) ∧
    ∃ news : List Value, news.length = rows.length * sz ∧ (∀ u ∈ news, u.oneCell' = true) ∧ (∀ (i j : Nat) (row : List AV) (av : AV), rows[i]? = some row → row[j]? = some av → ∃ x, news[i * sz + j]? = some x ∧ RT w (Sx cx w tab L) x av) ∧
      ((A = none ∧ rows.length = 0) ∨ ∃ ad, A = some ad ∧ ∀ j u, news[j]? = some u → w.cell? (ad.add j) = some u) := by
  unfold aSrc at h
  split at h
  · rename_i sz' rows'
    split at h
    · rename_i e
      subst e
      cases h
      obtain ⟨A, cap, rfl, _, _, hrow, hA⟩ := hv.sl_inv.sl_inv
      refine ⟨A, cap, rfl, hrow, ?_⟩
      by_cases hz : rows.length = 0
      · have : rows = [] := List.eq_nil_of_length_eq_zero hz
        subst this
        refine ⟨[], by simp, by simp, by simp, ?_⟩
        cases A with
        | none => exact .inl ⟨rfl, rfl⟩
        | some ad => exact .inr ⟨ad, rfl, by simp⟩
      · obtain ⟨b, o, rfl, hb, U, hcell, hr, hone⟩ := hA (by omega)
        have key : ∀ k, k < rows.length * sz' → ∃ row av, rows[k / sz']? = some row ∧ row[k % sz']? = some av := fun k hk => by
          have h1 : k / sz' < rows.length := Nat.div_lt_of_lt_mul (by rwa [Nat.mul_comm] at hk)
          have h2 : k % sz' < (rows[k / sz']).length := by rw [hrow _ (List.getElem_mem h1)]; exact Nat.mod_lt _ h0
          exact ⟨_, _, List.getElem?_eq_getElem h1, List.getElem?_eq_getElem h2⟩
        refine ⟨(List.range (rows.length * sz')).map fun k => U (k / sz') (k % sz'), by simp, fun u hu => ?_, fun i j row av h1 h2 => ⟨U i j, ?_, hr i j row av h1 h2⟩, .inr ⟨_, rfl, fun k u hu => ?_⟩⟩
        · simp at hu
          obtain ⟨k, hk, rfl⟩ := hu
          obtain ⟨row, av, h1, h2⟩ := key k hk
          exact hone _ _ row av h1 h2
        · have hj : j < sz' := by
            rw [← hrow row (List.mem_of_getElem? h1)]
            exact (List.getElem?_eq_some_iff.1 h2).1
          have hi : i < rows.length := (List.getElem?_eq_some_iff.1 h1).1
          have hlt : i * sz' + j < rows.length * sz' := by
            have := Nat.mul_le_mul_right sz' (show i + 1 ≤ rows.length from hi)
            rw [Nat.add_mul] at this
            omega
          have e1 : (i * sz' + j) / sz' = i := by rw [Nat.add_comm, Nat.add_mul_div_right _ _ h0, Nat.div_eq_of_lt hj]; omega
          have e2 : (i * sz' + j) % sz' = j := by rw [Nat.add_comm, Nat.add_mul_mod_self_right, Nat.mod_eq_of_lt hj]
          rw [List.getElem?_map, List.getElem?_range hlt, Option.map_some, e1, e2]
        · obtain ⟨hk, rfl⟩ := range_get hu
          obtain ⟨row, av, h1, h2⟩ := key k hk
          have := hcell _ _ row av h1 h2
          rw [Nat.add_assoc, Nat.mul_comm, Nat.div_add_mod] at this
          rwa [Addr.add_lit]
    · cases h
  · rename_i id
    split at h
    · rename_i e sz' rows' hid
      split at h
      · rename_i e
        subst e
        cases h
        obtain ⟨hvL, A, cap, rfl, hA⟩ := osl_row hL hid hv
        obtain ⟨hrow, xs, hown, hone, hx⟩ := hL.objs id _ hid
        refine ⟨A, cap, rfl, hrow, xs, hown.1, hone, hx, ?_⟩
        rw [← hvL] at hown
        rcases hown.2 with ⟨h1, h2⟩ | ⟨g, cap', cur, h1, _⟩
        · injection h1 with h1
          exact .inl ⟨h1, h2⟩
        · injection h1 with h1
          subst h1
          exact .inr ⟨_, rfl, hown.cells (g := g) rfl⟩
      · cases h
    · cases h
  · cases h
    obtain rfl := hv.c_inv
    exact ⟨none, _, rfl, by simp, [], by simp, by simp, by simp, .inl ⟨rfl, rfl⟩⟩
  · cases h
def dstIs (tab : ATab) (L : Nat → Value) (e sz : Nat) (rows : List (List AV)) (v : Value) : Option Nat → Prop
  | some id => tab.get id = some (.row e sz rows) ∧ v = L id
  | none => v = .slice none 0 0
theorem dst_ok (hL : Lay cx w tab L) (hb : cx.w0.heap.size ≤ w.heap.size) {v : Value} {av : AV} {e sz : Nat} {rows : List (List AV)} {oid : Option Nat} (hv : RVx cx w tab L v av) (h : aDst tab e sz av = some (oid, rows)) :
    (∀ row ∈ rows, row.length = sz) ∧ (∃ xs, OwnsR w cx.w0.heap.size e sz v rows.length xs ∧ (∀ x ∈ xs, x.oneCell' = true) ∧ ∀ (i j : Nat) (row : List AV) (av : AV), rows[i]? = some row → row[j]? = some av → ∃ x, xs[i * sz + j]? = some x ∧ RT w (Sx cx w tab L) x av) ∧
    dstIs tab L e sz rows v oid := by
  unfold aDst at h
  split at h
  · rename_i id
    split at h
    · rename_i e' sz' rows' hid
      split at h
      · rename_i e
        obtain ⟨rfl, rfl⟩ := e
        cases h
        obtain ⟨hvL, _⟩ := osl_row hL hid hv
        obtain ⟨hrow, xs, hown, hone, hx⟩ := hL.objs id _ hid
        exact ⟨hrow, ⟨xs, by rw [hvL]; exact hown, hone, hx⟩, hid, hvL⟩
      · cases h
    · cases h
  · cases h
    obtain rfl := hv.c_inv
    exact ⟨by simp, ⟨[], ownsR_nil .., by simp, by simp⟩, rfl⟩
  · cases h
/-- the table behind an append: the elder object is gone -/
def appTab (tab : ATab) (nx : Nat) (oid : Option Nat) (o : AObj) : ATab :=
  match oid with
  | some id => (nx, some o) :: (id, none) :: tab
  | none => (nx, some o) :: tab
theorem appTab_get (tab : ATab) (nx : Nat) (oid : Option Nat) (o : AObj) (k : Nat) : (appTab tab nx oid o).get k = if k = nx then some o else if oid = some k then none else tab.get k := by
  unfold appTab
  cases oid with
  | none => simp [ATab.get_cons]
  | some id =>
    simp only [ATab.get_cons, Option.some.injEq]
    split
    · rfl
    · by_cases h : k = id
      · simp [h]
      · simp [h, Ne.symm h]
theorem append_ok {t ty e sz by_ : Nat} {v u : Value} {x y : AV} {oid : Option Nat} {rows rows2 : List (List AV)} (h : Conc cx a w st L) (hv : RVx cx w st.tab L v x) (hu : RVx cx w st.tab L u y) (ht : tyRow P t = some (e, sz, by_))
    (hx : aDst st.tab e sz x = some (oid, rows)) (hy : aSrc st.tab sz y = some rows2) (h63 : rows.length + rows2.length ≤ maxLen) (hby : (rows.length + rows2.length) * by_ ≤ 140737488355328) (dst : Option Nat) :
    ∃ v' w' L', (Builtin.append_ #[t, t] ty #[v, u]).run P w = .ok v' w' ∧ Conc cx (a.put dst v') w' ({ st with tab := appTab st.tab st.next oid (.row e sz (rows ++ rows2)), next := st.next + 1 }.put dst (.osl st.next)) L' ∧
      w.grownBy w' v.ownBlock ∧ L' = updL L st.next v' ∧ (vblk v' = v.ownBlock ∨ vblk v' = some w.heap.size) ∧ (∀ g, v.ownBlock = some g → ∃ id, oid = some id ∧ vblk (L id) = some g) := by
  obtain ⟨i, z, hund, hi, hz, hs, hb, hzs, h0⟩ := tyRow_some ht
  have hbase : cx.w0.heap.size ≤ w.heap.size := h.lay.below.size
  obtain ⟨hrow1, ⟨xs, hown, hone, hxs⟩, hoid⟩ := dst_ok h.lay hbase hv hx
  obtain ⟨A, c, rfl, hrow2, news, hnl, hn1, hnr, hA⟩ := src_ok h.lay h0 hu hy
  have hrun : ∃ v' w', (Builtin.append_ #[t, t] ty #[v, .slice A rows2.length c]).run P w = .ok v' w' ∧ OwnsR w' cx.w0.heap.size e sz v' (rows.length + rows2.length) (xs ++ news) ∧ w.grownBy w' v.ownBlock ∧ (v'.ownBlock = v.ownBlock ∨ v'.ownBlock = some w.heap.size) := by
    rcases hA with ⟨rfl, hz0⟩ | ⟨ad, rfl, hcell⟩
    · rw [hz0] at hnl ⊢
      have : news = [] := List.eq_nil_of_length_eq_zero (by simpa using hnl)
      subst this
      exact ⟨v, w, run_append_none _ hund hi hown, by simpa using hown, ⟨rfl, rfl, rfl, Nat.le_refl _, fun _ _ _ => rfl⟩, .inl rfl⟩
    · obtain ⟨v', w', h1, h2, h3, h5⟩ := run_append_R (P := P) cx.w0.heap.size t ty e i z sz by_ hund hi hz hs hb hzs h0 v rows.length xs hown ad rows2.length c news hnl hcell hn1 h63 hby hbase
      exact ⟨v', w', h1, h2, h3, h5⟩
  obtain ⟨v', w', hrun, hown', hgrow, hblk⟩ := hrun
  have vb : ∀ {x : Value} {n : Nat} {l : List Value} {w : World}, OwnsR w cx.w0.heap.size e sz x n l → vblk x = x.ownBlock := fun hh => by
    rcases hh.2 with ⟨rfl, _⟩ | ⟨g, cap, cur, rfl, _⟩ <;> rfl
  have hvb := vb hown
  have hvb' := vb hown'
  have hold_block : ∀ g, v.ownBlock = some g → ∃ id, oid = some id ∧ st.tab.get id = some (.row e sz rows) ∧ vblk (L id) = some g := fun g hg => by
    cases oid with
    | none => rw [show v = .slice none 0 0 from hoid] at hg; cases hg
    | some id => exact ⟨id, rfl, hoid.1, by rw [← hoid.2, hvb]; exact hg⟩
  have hy' := h.young
  have hget : ∀ k, k < st.next → (appTab st.tab st.next oid (.row e sz (rows ++ rows2))).get k = if oid = some k then none else st.tab.get k := fun k hk => by
    rw [appTab_get, if_neg (by omega)]
  have hgetS : ∀ k o, (appTab st.tab st.next oid (.row e sz (rows ++ rows2))).get k = some o → (k = st.next ∧ o = .row e sz (rows ++ rows2)) ∨ (k < st.next ∧ oid ≠ some k ∧ st.tab.get k = some o) := fun k o hk => by
    rw [appTab_get] at hk
    split at hk
    · rename_i e'
      cases hk
      exact .inl ⟨e', rfl⟩
    · split at hk
      · cases hk
      · rename_i h1
        exact .inr ⟨(hy' k o hk).1, h1, hk⟩
  have hLn : ∀ k, k < st.next → updL L st.next v' k = L k := fun k hk => by unfold updL; rw [if_neg (by omega)]
  have hLx : updL L st.next v' st.next = v' := by simp [updL]
  -- the blocks of other objects
  have hother : ∀ k o g, k < st.next → oid ≠ some k → st.tab.get k = some o → vblk (L k) = some g → some g ≠ v.ownBlock ∧ some g ≠ v'.ownBlock := fun k o g hk hne ho hg => by
    have h1 : some g ≠ v.ownBlock := fun e' => by
      obtain ⟨id, hid, hti, hbi⟩ := hold_block g e'.symm
      exact hne (by rw [hid, h.lay.sep id k _ o g hti ho hbi hg])
    refine ⟨h1, fun e' => ?_⟩
    rcases hblk with hb1 | hb1
    · exact h1 (by rw [e', hb1])
    · have := ((h.lay.objs k o ho).ge hg).2
      rw [hb1] at e'
      cases e'
      omega
  have hext : Ext cx w st.tab L st.next w' (appTab st.tab st.next oid (.row e sz (rows ++ rows2))) (updL L st.next v') := by
    refine ⟨fun p hp => World.cell?_of_block (hgrow.block p.block hp.1 fun e' => ?_), fun b hS => ⟨Nat.lt_of_lt_of_le hS.1 hgrow.size, hS.2.1, fun k o hk hg => ?_⟩, fun k p hk hK => ?_⟩
    · obtain ⟨id, _, hti, hbi⟩ := hold_block p.block e'.symm
      exact hp.2.2 id _ hti hbi
    · rcases hgetS k o hk with ⟨rfl, _⟩ | ⟨hlt, _, ho⟩
      · rw [hLx, hvb'] at hg
        rcases hblk with hb1 | hb1
        · rw [hb1] at hg
          obtain ⟨id, _, hti, hbi⟩ := hold_block b hg
          exact hS.2.2 id _ hti hbi
        · rw [hb1] at hg
          cases hg
          exact Nat.lt_irrefl _ hS.1
      · rw [hLn k hlt] at hg
        exact hS.2.2 k o ho hg
    · unfold Kx at *
      rw [hget k hk, hLn k hk] at hK
      split at hK
      · cases hK
      · exact hK
  have hbel : Below cx.w0.heap.size cx.w0 w' := h.lay.below.grown hgrow hbase fun k hk => (hown.lt k hk).1
  refine ⟨v', w', updL L st.next v', hrun, ?_, hgrow, rfl, by rw [hvb']; exact hblk, fun g hg => by obtain ⟨id, h1, _, h2⟩ := hold_block g hg; exact ⟨id, h1, h2⟩⟩
  refine conc_put h ⟨hbel, fun k o hk => ?_, fun k k' o o' g h1 h2 h3 h4 => ?_⟩ hext (Nat.le_succ _) (fun k o hk => ?_) ?_ (Nat.lt_succ_self _) dst
  · rcases hgetS k o hk with ⟨rfl, rfl⟩ | ⟨hlt, hne, ho⟩
    · rw [hLx]
      refine ⟨fun row hr => ?_, xs ++ news, by rw [List.length_append]; exact hown', fun x hx => ?_, fun i j row av h1 h2 => ?_⟩
      · rcases List.mem_append.1 hr with hr | hr
        · exact hrow1 row hr
        · exact hrow2 row hr
      · rcases List.mem_append.1 hx with hx | hx
        · exact hone x hx
        · exact hn1 x hx
      · by_cases hlt : i < rows.length
        · rw [List.getElem?_append_left hlt] at h1
          obtain ⟨x, hx, hr⟩ := hxs i j row av h1 h2
          exact ⟨x, by rw [List.getElem?_append_left ((List.getElem?_eq_some_iff.1 hx).1)]; exact hx, hext.rt hr⟩
        · rw [List.getElem?_append_right (by omega)] at h1
          obtain ⟨x, hx, hr⟩ := hnr _ j row av h1 h2
          refine ⟨x, ?_, hext.rt hr⟩
          have e1 : rows.length * sz ≤ i * sz := Nat.mul_le_mul_right _ (by omega)
          rw [List.getElem?_append_right (by rw [hown.1]; omega), hown.1]
          rw [Nat.sub_mul] at hx
          rwa [show i * sz + j - rows.length * sz = i * sz - rows.length * sz + j by omega]
    · rw [hLn k hlt]
      have hob := h.lay.objs k o ho
      exact hext.obj hob (hy' k o ho).2 fun g hg => hgrow.block g (hob.ge hg).2 (hother k o g hlt hne ho hg).1
  · rcases hgetS k o h1 with ⟨rfl, rfl⟩ | ⟨hlt, hne, ho⟩ <;> rcases hgetS k' o' h2 with ⟨rfl, rfl⟩ | ⟨hlt', hne', ho'⟩
    · rfl
    · rw [hLx, hvb'] at h3
      rw [hLn k' hlt'] at h4
      exact absurd h3.symm (hother k' o' g hlt' hne' ho' h4).2
    · rw [hLx, hvb'] at h4
      rw [hLn k hlt] at h3
      exact absurd h4.symm (hother k o g hlt hne ho h3).2
    · rw [hLn k hlt] at h3
      rw [hLn k' hlt'] at h4
      exact h.lay.sep k k' o o' g ho ho' h3 h4
  · rcases hgetS k o hk with ⟨rfl, rfl⟩ | ⟨hlt, _, ho⟩
    · exact ⟨Nat.lt_succ_self _, trivial⟩
    · refine ⟨by omega, ?_⟩
      have := (hy' k o ho).2
      cases o with
      | box t cells => exact ltL_iff.2 fun x hx => AV.lt_mono (Nat.le_succ _) (ltL_iff.1 this x hx)
      | row => trivial
  · refine .osl _ _ fun sz' v'' hk => ?_
    unfold Kx at hk
    rw [appTab_get, if_pos rfl] at hk
    simp at hk
    rw [hLx] at hk
    exact hk.2
/-- the head of a slice of its own; the elder one is gone -/
theorem reslice_ok {id e sz n : Nat} {rows : List (List AV)} {v' : Value} (h : Conc cx a w st L) (hid : st.tab.get id = some (.row e sz rows)) (hn : n ≤ rows.length)
    (hv' : (L id = .slice none 0 0 ∧ v' = .slice none 0 0) ∨ ∃ g cap cap', L id = .slice (some ⟨g, 0, none⟩) rows.length cap ∧ v' = .slice (some ⟨g, 0, none⟩) n cap' ∧ n ≤ cap' ∧ cap' ≤ cap) (dst : Option Nat) :
    Conc cx (a.put dst v') w ({ st with tab := appTab st.tab st.next (some id) (.row e sz (rows.take n)), next := st.next + 1 }.put dst (.osl st.next)) (updL L st.next v') := by
  have hvb : vblk v' = vblk (L id) := by
    rcases hv' with ⟨h1, rfl⟩ | ⟨g, cap, cap', h1, rfl, _⟩ <;> rw [h1] <;> rfl
  have hy' := h.young
  have hget : ∀ k, k < st.next → (appTab st.tab st.next (some id) (.row e sz (rows.take n))).get k = if some id = some k then none else st.tab.get k := fun k hk => by
    rw [appTab_get, if_neg (by omega)]
  have hgetS : ∀ k o, (appTab st.tab st.next (some id) (.row e sz (rows.take n))).get k = some o → (k = st.next ∧ o = .row e sz (rows.take n)) ∨ (k < st.next ∧ id ≠ k ∧ st.tab.get k = some o) := fun k o hk => by
    rw [appTab_get] at hk
    split at hk
    · rename_i e'
      cases hk
      exact .inl ⟨e', rfl⟩
    · split at hk
      · cases hk
      · rename_i h1
        exact .inr ⟨(hy' k o hk).1, fun e' => h1 (by rw [e']), hk⟩
  have hLn : ∀ k, k < st.next → updL L st.next v' k = L k := fun k hk => by unfold updL; rw [if_neg (by omega)]
  have hLx : updL L st.next v' st.next = v' := by simp [updL]
  have hext : Ext cx w st.tab L st.next w (appTab st.tab st.next (some id) (.row e sz (rows.take n))) (updL L st.next v') := by
    refine ⟨fun p hp => rfl, fun b hS => ⟨hS.1, hS.2.1, fun k o hk hg => ?_⟩, fun k p hk hK => ?_⟩
    · rcases hgetS k o hk with ⟨rfl, _⟩ | ⟨hlt, _, ho⟩
      · rw [hLx, hvb] at hg
        exact hS.2.2 id _ hid hg
      · rw [hLn k hlt] at hg
        exact hS.2.2 k o ho hg
    · unfold Kx at *
      rw [hget k hk, hLn k hk] at hK
      split at hK
      · cases hK
      · exact hK
  obtain ⟨hrow, xs, hown, hone, hx⟩ := h.lay.objs id _ hid
  have hmul : n * sz ≤ rows.length * sz := Nat.mul_le_mul_right _ hn
  have hlen : (rows.take n).length = n := by rw [List.length_take]; omega
  refine conc_put h ⟨h.lay.below, fun k o hk => ?_, fun k k' o o' g h1 h2 h3 h4 => ?_⟩ hext (Nat.le_succ _) (fun k o hk => ?_) ?_ (Nat.lt_succ_self _) dst
  · rcases hgetS k o hk with ⟨rfl, rfl⟩ | ⟨hlt, hne, ho⟩
    · rw [hLx]
      refine ⟨fun row hr => hrow row (List.mem_of_mem_take hr), xs.take (n * sz), ⟨?_, ?_⟩, fun x hx' => hone x (List.mem_of_mem_take hx'), fun i j row av h1 h2 => ?_⟩
      · rw [List.length_take, hown.1, hlen]
        omega
      · rw [hlen]
        rcases hown.2 with ⟨h1, h0⟩ | ⟨g, cap, cur, h1, hb, hh, hc, hm, hcs, htake⟩
        · rcases hv' with ⟨_, rfl⟩ | ⟨g', cap1, cap2, h2, rfl, _⟩
          · exact .inl ⟨rfl, by omega⟩
          · rw [h1] at h2
            cases h2
        · rcases hv' with ⟨h2, _⟩ | ⟨g', cap1, cap2, h2, rfl, h3, h4⟩
          · rw [h1] at h2
            cases h2
          · rw [h1] at h2
            cases h2
            refine .inr ⟨g, cap2, cur, rfl, hb, hh, h3, by omega, Nat.le_trans (Nat.mul_le_mul_right _ h4) hcs, ?_⟩
            rw [← htake, List.take_take, Nat.min_eq_left hmul]
      · rw [List.getElem?_take] at h1
        split at h1
        · rename_i hi
          obtain ⟨x, hx1, hx2⟩ := hx i j row av h1 h2
          refine ⟨x, ?_, hext.rt hx2⟩
          have hj : j < sz := by rw [← hrow row (List.mem_of_getElem? h1)]; exact (List.getElem?_eq_some_iff.1 h2).1
          have : (i + 1) * sz ≤ n * sz := Nat.mul_le_mul_right _ hi
          rw [Nat.add_mul] at this
          rw [List.getElem?_take, if_pos (by omega)]
          exact hx1
        · cases h1
    · rw [hLn k hlt]
      exact hext.obj (h.lay.objs k o ho) (hy' k o ho).2 fun g hg => rfl
  · rcases hgetS k o h1 with ⟨rfl, _⟩ | ⟨hlt, hne, ho⟩ <;> rcases hgetS k' o' h2 with ⟨rfl, _⟩ | ⟨hlt', hne', ho'⟩
    · rfl
    · rw [hLx, hvb] at h3
      rw [hLn k' hlt'] at h4
      exact absurd (h.lay.sep id k' _ o' g hid ho' h3 h4) hne'
    · rw [hLx, hvb] at h4
      rw [hLn k hlt] at h3
      exact absurd (h.lay.sep id k _ o g hid ho h4 h3) hne
    · rw [hLn k hlt] at h3
      rw [hLn k' hlt'] at h4
      exact h.lay.sep k k' o o' g ho ho' h3 h4
  · rcases hgetS k o hk with ⟨rfl, rfl⟩ | ⟨hlt, _, ho⟩
    · exact ⟨Nat.lt_succ_self _, trivial⟩
    · refine ⟨by omega, ?_⟩
      have := (hy' k o ho).2
      cases o with
      | box t cells => exact ltL_iff.2 fun x hx => AV.lt_mono (Nat.le_succ _) (ltL_iff.1 this x hx)
      | row => trivial
  · refine .osl _ _ fun sz' v'' hk => ?_
    unfold Kx at hk
    rw [appTab_get, if_pos rfl] at hk
    simp at hk
    rw [hLx] at hk
    exact hk.2
end
end Go.Proofs.Ytfocnmkbnccilaa
