/-
  Parts of the proof: AlE, AlF.
-/
import Derived.Test.YtcindbpnaicemaaSkp1
set_option linter.unusedVariables false
set_option linter.unusedSimpArgs false
namespace Go.Proofs.Ytcindbpnaicemaa
section
open Go.RowKit

/-- a slice's type: its element's type, cells, bytes -/
def tyRow (P : Program) (t : TypeId) : Option (TypeId × Nat × Nat) :=
  match P.underlying t with
  | some (.slice e) => match P.info? e with
    | some i => match i.zero with
      | some z => if z.cells.size = i.size ∧ 0 < i.size then some (e, i.size, i.bytes) else none
      | none => none
    | none => none
  | _ => none
def aSrc (tab : ATab) (sz : Nat) : AV → Option (List (List AV))
  | .sl sz' rows => if sz' = sz then some rows else none
  | .osl id => match tab.get id with
    | some (.row _ sz' rows) => if sz' = sz then some rows else none
    | _ => none
  | .c (.slice none 0 _) => some []
  | _ => none
/-- what is appended to: the object, if it is one; its rows -/
def aDst (tab : ATab) (e sz : Nat) : AV → Option (Option Nat × List (List AV))
  | .osl id => match tab.get id with
    | some (.row e' sz' rows) => if e' = e ∧ sz' = sz then some (some id, rows) else none
    | _ => none
  | .c (.slice none 0 0) => some (none, [])
  | _ => none
def aSrcN (tab : ATab) (sz : Nat) : AV → Option (List (List AV))
  | .osl id => match tab.get id with
    | some (.nest _ sz' rows) => if sz' = sz then some rows else none
    | _ => none
  | _ => none
def aDstN (tab : ATab) (e sz : Nat) : AV → Option (Option Nat × List (List AV))
  | .osl id => match tab.get id with
    | some (.nest e' sz' rows) => if e' = e ∧ sz' = sz then some (some id, rows) else none
    | _ => none
  | .c (.slice none 0 0) => some (none, [])
  | _ => none
section
variable {P : Program} {cx : Cx} {a : Act} {w w' : World} {tab : ATab} {st : ASt} {L : Nat → Value} {nx : Nat}
theorem tyRow_some {t e sz by_ : Nat} (h : tyRow P t = some (e, sz, by_)) : ∃ i z, P.underlying t = some (.slice e) ∧ P.info? e = some i ∧ i.zero = some z ∧ i.size = sz ∧ i.bytes = by_ ∧ z.cells.size = sz ∧ 0 < sz := by
  unfold tyRow at h
  split at h
  · rename_i e' hu
    split at h
    · rename_i i hi
      split at h
      · rename_i z hz
        split at h
        · rename_i hc
          cases h
          exact ⟨i, z, hu, hi, hz, rfl, rfl, hc.1, hc.2⟩
        · cases h
      · cases h
    · cases h
  · cases h
theorem run_append_none (base : Nat) {t ty e : TypeId} {i : TypeInfo} {size c : Nat} (ht : P.underlying t = some (.slice e)) (hi : P.info? e = some i)
    {v : Value} {n : Nat} {xs : List Value} (hown : OwnsR w base e size v n xs) : (Builtin.append_ #[t, t] ty #[v, .slice none 0 c]).run P w = .ok v w := by
  rcases hown.2 with ⟨rfl, rfl⟩ | ⟨g, cap, cur, rfl, _, _, hnc, _⟩
  · simp [Builtin.append_, run_underlying ht, sizeOf, typeInfo, hi, Builtin.lenOf, Builtin.firstCells]
  · simp [Builtin.append_, run_underlying ht, sizeOf, typeInfo, hi, Builtin.lenOf, Builtin.firstCells, hnc, storeCells]
theorem run_append_R {w : World} (base : Nat) (t ty e : TypeId) (i : TypeInfo) (z : Value) (size bytes : Nat) (ht : P.underlying t = some (.slice e)) (hi : P.info? e = some i) (hz : i.zero = some z)
    (hsize : i.size = size) (hby : i.bytes = bytes) (hzs : z.cells.size = size) (hsz : 0 < size)
    (v : Value) (n : Nat) (xs : List Value) (hown : OwnsR w base e size v n xs)
    (a : Addr) (m c : Nat) (news : List Value) (hl : news.length = m * size) (hnews : ∀ j u, news[j]? = some u → w.cell? (a.add j) = some u) (h1 : ∀ u ∈ news, u.oneCell' = true)
    (h63 : n + m ≤ maxLen) (hbytes : (n + m) * bytes ≤ 140737488355328) (hbase : base ≤ w.heap.size) :
    ∃ v' w', (Builtin.append_ #[t, t] ty #[v, .slice (some a) m c]).run P w = .ok v' w' ∧ OwnsR w' base e size v' (n + m) (xs ++ news) ∧ w.grownBy w' v.ownBlock ∧ (v'.ownBlock = v.ownBlock ∨ v'.ownBlock = some w.heap.size) := by
  rcases hown.2 with ⟨rfl, rfl⟩ | ⟨g, cap, cur, rfl, hbg, hg, hnc, hcm, hcs, htake⟩
  · obtain ⟨v', w', h2, h3, h4, _, h5⟩ := run_append_own_at (P := P) w base t ty e i z size bytes ht hi hz hsize hby hzs hsz (.slice none 0 0) 0 xs ⟨hown.1, .inl ⟨rfl, rfl⟩⟩ a m c news hl hnews h1 h63 hbytes hbase
    exact ⟨v', w', h2, ownsR_of h3, h4, h5⟩
  · subst hsize
    subst hby
    have hsmall : n + m ≤ 9223372036854775807 := by simp only [maxLen] at h63; omega
    have hlen : (xs ++ news).length = (n + m) * i.size := by rw [List.length_append, hown.1, hl, Nat.add_mul]
    by_cases hroom : n + m ≤ cap
    · have hfit : n * i.size + news.length ≤ cur.size := by
        rw [hl, ← Nat.add_mul]
        exact Nat.le_trans (Nat.mul_le_mul_right _ hroom) hcs
      have hr := run_append_room (P := P) w t ty e i ht hi g n cap cur hg a m c news hl hnews h1 hroom hfit
      refine ⟨_, _, hr, ⟨hlen, .inr ⟨g, cap, _, rfl, hbg, setRow_heap w g cur _ e _ hg, hroom, hcm, ?_, ?_⟩⟩, ⟨rfl, rfl, rfl, by simp, fun k _ hk => setRow_other w g k _ (fun e => hk (by simp [Value.ownBlock, e]))⟩, Or.inl rfl⟩
      · simp only [List.size_toArray, List.length_append, List.length_take, List.length_drop, Array.length_toList]
        omega
      · rw [htake, ← hlen]
        exact List.take_left
    · have holds : ∀ j u, xs[j]? = some u → w.cell? ((⟨g, 0, none⟩ : Addr).add j) = some u := hown.cells (g := g) rfl
      have hr := run_append_grow (P := P) w t ty e i z ht hi hz ⟨g, 0, none⟩ n cap xs hown.1 holds a m c news hl hnews (by omega) (by omega) (growslice_fits (by omega) hbytes)
      have hge := grownCap_ge w (n + m) cap e
      have hcm' : grownCap w (n + m) cap e ≤ maxLen := grownCap_le_maxLen w (n + m) cap e h63
      refine ⟨_, _, hr, ⟨hlen, .inr ⟨w.heap.size, _, _, rfl, hbase, heap_alloc_new w.drew _, hge, hcm', ?_, ?_⟩⟩, ⟨rfl, rfl, rfl, by simp, fun k hk _ => heap_alloc_old w.drew _ hk⟩, Or.inr rfl⟩
      · simp only [Array.size_append, List.size_toArray, size_zeroCells, hzs, hown.1, hl, ← Nat.add_mul]
        refine Nat.le_of_eq ?_
        congr 1
        omega
      · simp only [Array.toList_append, List.append_assoc]
        rw [← List.append_assoc, ← hlen]
        exact List.take_left
theorem src_ok (hL : Lay cx w tab L) {v : Value} {av : AV} {sz : Nat} {rows : List (List AV)} (h0 : 0 < sz) (hv : RVx cx w tab L v av) (h : aSrc tab sz av = some rows) : ∃ A c, v = .slice A rows.length c ∧ (∀ row ∈ rows, row.length = sz) ∧
    ∃ news : List Value, news.length = rows.length * sz ∧ (∀ u ∈ news, u.oneCell' = true) ∧ (∀ (i j : Nat) (row : List AV) (av : AV), rows[i]? = some row → row[j]? = some av → ∃ x, news[i * sz + j]? = some x ∧ RT w (Sx cx w tab L) x av) ∧
      ((A = none ∧ rows.length = 0) ∨ ∃ ad, A = some ad ∧ ∀ j u, news[j]? = some u → w.cell? (ad.add j) = some u) := by
  unfold aSrc at h
  split at h
  · rename_i sz' rows'
    split at h
    · rename_i e
      subst e
      cases h
      obtain ⟨A, cap, rfl, _, _, hrow, hA⟩ := hv.sl_inv.sl_inv
      refine ⟨A, cap, rfl, hrow, ?_⟩
      by_cases hz : rows.length = 0
      · have : rows = [] := List.eq_nil_of_length_eq_zero hz
        subst this
        refine ⟨[], by simp, by simp, by simp, ?_⟩
        cases A with
        | none => exact .inl ⟨rfl, rfl⟩
        | some ad => exact .inr ⟨ad, rfl, by simp⟩
      · obtain ⟨b, o, rfl, hb, U, hcell, hr, hone⟩ := hA (by omega)
        have key : ∀ k, k < rows.length * sz' → ∃ row av, rows[k / sz']? = some row ∧ row[k % sz']? = some av := fun k hk => by
          have h1 : k / sz' < rows.length := Nat.div_lt_of_lt_mul (by rwa [Nat.mul_comm] at hk)
          have h2 : k % sz' < (rows[k / sz']).length := by rw [hrow _ (List.getElem_mem h1)]; exact Nat.mod_lt _ h0
          exact ⟨_, _, List.getElem?_eq_getElem h1, List.getElem?_eq_getElem h2⟩
        refine ⟨(List.range (rows.length * sz')).map fun k => U (k / sz') (k % sz'), by simp, fun u hu => ?_, fun i j row av h1 h2 => ⟨U i j, ?_, hr i j row av h1 h2⟩, .inr ⟨_, rfl, fun k u hu => ?_⟩⟩
        · simp at hu
          obtain ⟨k, hk, rfl⟩ := hu
          obtain ⟨row, av, h1, h2⟩ := key k hk
          exact hone _ _ row av h1 h2
        · have hj : j < sz' := by
            rw [← hrow row (List.mem_of_getElem? h1)]
            exact (List.getElem?_eq_some_iff.1 h2).1
          have hi : i < rows.length := (List.getElem?_eq_some_iff.1 h1).1
          have hlt : i * sz' + j < rows.length * sz' := by
            have := Nat.mul_le_mul_right sz' (show i + 1 ≤ rows.length from hi)
            rw [Nat.add_mul] at this
            omega
          have e1 : (i * sz' + j) / sz' = i := by rw [Nat.add_comm, Nat.add_mul_div_right _ _ h0, Nat.div_eq_of_lt hj]; omega
          have e2 : (i * sz' + j) % sz' = j := by rw [Nat.add_comm, Nat.add_mul_mod_self_right, Nat.mod_eq_of_lt hj]
          rw [List.getElem?_map, List.getElem?_range hlt, Option.map_some, e1, e2]
        · obtain ⟨hk, rfl⟩ := range_get hu
          obtain ⟨row, av, h1, h2⟩ := key k hk
          have := hcell _ _ row av h1 h2
          rw [Nat.add_assoc, Nat.mul_comm, Nat.div_add_mod] at this
          rwa [Addr.add_lit]
    · cases h
  · rename_i id
    split at h
    · rename_i e sz' rows' hid
      split at h
      · rename_i e
        subst e
        cases h
        obtain ⟨hvL, A, cap, rfl, hA⟩ := osl_row hL hid hv
        obtain ⟨hrow, xs, hown, hone, hx⟩ := hL.objs id _ hid
        refine ⟨A, cap, rfl, hrow, xs, hown.1, hone, hx, ?_⟩
        rw [← hvL] at hown
        rcases hown.2 with ⟨h1, h2⟩ | ⟨g, cap', cur, h1, _⟩
        · injection h1 with h1
          exact .inl ⟨h1, h2⟩
        · injection h1 with h1
          subst h1
          exact .inr ⟨_, rfl, hown.cells (g := g) rfl⟩
      · cases h
    · cases h
  · cases h
    obtain rfl := hv.c_inv
    exact ⟨none, _, rfl, by simp, [], by simp, by simp, by simp, .inl ⟨rfl, rfl⟩⟩
  · cases h
def dstIs (tab : ATab) (L : Nat → Value) (e sz : Nat) (rows : List (List AV)) (v : Value) : Option Nat → Prop
  | some id => tab.get id = some (.row e sz rows) ∧ v = L id
  | none => v = .slice none 0 0
theorem dst_ok (hL : Lay cx w tab L) (hb : cx.w0.heap.size ≤ w.heap.size) {v : Value} {av : AV} {e sz : Nat} {rows : List (List AV)} {oid : Option Nat} (hv : RVx cx w tab L v av) (h : aDst tab e sz av = some (oid, rows)) :
    (∀ row ∈ rows, row.length = sz) ∧ (∃ xs, OwnsR w cx.w0.heap.size e sz v rows.length xs ∧ (∀ x ∈ xs, x.oneCell' = true) ∧ ∀ (i j : Nat) (row : List AV) (av : AV), rows[i]? = some row → row[j]? = some av → ∃ x, xs[i * sz + j]? = some x ∧ RT w (Sx cx w tab L) x av) ∧
    dstIs tab L e sz rows v oid := by
  unfold aDst at h
  split at h
  · rename_i id
    split at h
    · rename_i e' sz' rows' hid
      split at h
      · rename_i e
        obtain ⟨rfl, rfl⟩ := e
        cases h
        obtain ⟨hvL, _⟩ := osl_row hL hid hv
        obtain ⟨hrow, xs, hown, hone, hx⟩ := hL.objs id _ hid
        exact ⟨hrow, ⟨xs, by rw [hvL]; exact hown, hone, hx⟩, hid, hvL⟩
      · cases h
    · cases h
  · cases h
    obtain rfl := hv.c_inv
    exact ⟨by simp, ⟨[], ownsR_nil .., by simp, by simp⟩, rfl⟩
  · cases h
/-- the table behind an append: the elder object is gone -/
def appTab (tab : ATab) (nx : Nat) (oid : Option Nat) (o : AObj) : ATab :=
  match oid with
  | some id => (nx, some o) :: (id, none) :: tab
  | none => (nx, some o) :: tab
theorem appTab_get (tab : ATab) (nx : Nat) (oid : Option Nat) (o : AObj) (k : Nat) : (appTab tab nx oid o).get k = if k = nx then some o else if oid = some k then none else tab.get k := by
  unfold appTab
  cases oid with
  | none => simp [ATab.get_cons]
  | some id =>
    simp only [ATab.get_cons, Option.some.injEq]
    split
    · rfl
    · by_cases h : k = id
      · simp [h]
      · simp [h, Ne.symm h]
theorem append_ok {t ty e sz by_ : Nat} {v u : Value} {x y : AV} {oid : Option Nat} {rows rows2 : List (List AV)} (h : Conc cx a w st L) (hv : RVx cx w st.tab L v x) (hu : RVx cx w st.tab L u y) (ht : tyRow P t = some (e, sz, by_))
    (hx : aDst st.tab e sz x = some (oid, rows)) (hy : aSrc st.tab sz y = some rows2) (h63 : rows.length + rows2.length ≤ maxLen) (hby : (rows.length + rows2.length) * by_ ≤ 140737488355328) (dst : Option Nat) :
    ∃ v' w' L', (Builtin.append_ #[t, t] ty #[v, u]).run P w = .ok v' w' ∧ Conc cx (a.put dst v') w' ({ st with tab := appTab st.tab st.next oid (.row e sz (rows ++ rows2)), next := st.next + 1 }.put dst (.osl st.next)) L' ∧
      w.grownBy w' v.ownBlock ∧ L' = updL L st.next v' ∧ (vblk v' = v.ownBlock ∨ vblk v' = some w.heap.size) ∧ (∀ g, v.ownBlock = some g → ∃ id, oid = some id ∧ vblk (L id) = some g) := by
  obtain ⟨i, z, hund, hi, hz, hs, hb, hzs, h0⟩ := tyRow_some ht
  have hbase : cx.w0.heap.size ≤ w.heap.size := h.lay.below.size
  obtain ⟨hrow1, ⟨xs, hown, hone, hxs⟩, hoid⟩ := dst_ok h.lay hbase hv hx
  obtain ⟨A, c, rfl, hrow2, news, hnl, hn1, hnr, hA⟩ := src_ok h.lay h0 hu hy
  have hrun : ∃ v' w', (Builtin.append_ #[t, t] ty #[v, .slice A rows2.length c]).run P w = .ok v' w' ∧ OwnsR w' cx.w0.heap.size e sz v' (rows.length + rows2.length) (xs ++ news) ∧ w.grownBy w' v.ownBlock ∧ (v'.ownBlock = v.ownBlock ∨ v'.ownBlock = some w.heap.size) := by
    rcases hA with ⟨rfl, hz0⟩ | ⟨ad, rfl, hcell⟩
    · rw [hz0] at hnl ⊢
      have : news = [] := List.eq_nil_of_length_eq_zero (by simpa using hnl)
      subst this
      exact ⟨v, w, run_append_none _ hund hi hown, by simpa using hown, ⟨rfl, rfl, rfl, Nat.le_refl _, fun _ _ _ => rfl⟩, .inl rfl⟩
    · obtain ⟨v', w', h1, h2, h3, h5⟩ := run_append_R (P := P) cx.w0.heap.size t ty e i z sz by_ hund hi hz hs hb hzs h0 v rows.length xs hown ad rows2.length c news hnl hcell hn1 h63 hby hbase
      exact ⟨v', w', h1, h2, h3, h5⟩
  obtain ⟨v', w', hrun, hown', hgrow, hblk⟩ := hrun
  have vb : ∀ {x : Value} {n : Nat} {l : List Value} {w : World}, OwnsR w cx.w0.heap.size e sz x n l → vblk x = x.ownBlock := fun hh => by
    rcases hh.2 with ⟨rfl, _⟩ | ⟨g, cap, cur, rfl, _⟩ <;> rfl
  have hvb := vb hown
  have hvb' := vb hown'
  have hold_block : ∀ g, v.ownBlock = some g → ∃ id, oid = some id ∧ st.tab.get id = some (.row e sz rows) ∧ vblk (L id) = some g := fun g hg => by
    cases oid with
    | none => rw [show v = .slice none 0 0 from hoid] at hg; cases hg
    | some id => exact ⟨id, rfl, hoid.1, by rw [← hoid.2, hvb]; exact hg⟩
  have hy' := h.young
  have hget : ∀ k, k < st.next → (appTab st.tab st.next oid (.row e sz (rows ++ rows2))).get k = if oid = some k then none else st.tab.get k := fun k hk => by
    rw [appTab_get, if_neg (by omega)]
  have hgetS : ∀ k o, (appTab st.tab st.next oid (.row e sz (rows ++ rows2))).get k = some o → (k = st.next ∧ o = .row e sz (rows ++ rows2)) ∨ (k < st.next ∧ oid ≠ some k ∧ st.tab.get k = some o) := fun k o hk => by
    rw [appTab_get] at hk
    split at hk
    · rename_i e'
      cases hk
      exact .inl ⟨e', rfl⟩
    · split at hk
      · cases hk
      · rename_i h1
        exact .inr ⟨(hy' k o hk).1, h1, hk⟩
  have hLn : ∀ k, k < st.next → updL L st.next v' k = L k := fun k hk => by unfold updL; rw [if_neg (by omega)]
  have hLx : updL L st.next v' st.next = v' := by simp [updL]
  -- the blocks of other objects
  have hother : ∀ k o g, k < st.next → oid ≠ some k → st.tab.get k = some o → vblk (L k) = some g → some g ≠ v.ownBlock ∧ some g ≠ v'.ownBlock := fun k o g hk hne ho hg => by
    have h1 : some g ≠ v.ownBlock := fun e' => by
      obtain ⟨id, hid, hti, hbi⟩ := hold_block g e'.symm
      exact hne (by rw [hid, h.lay.sep id k _ o g hti ho hbi hg])
    refine ⟨h1, fun e' => ?_⟩
    rcases hblk with hb1 | hb1
    · exact h1 (by rw [e', hb1])
    · have := ((h.lay.objs k o ho).ge hg).2
      rw [hb1] at e'
      cases e'
      omega
  have hext : Ext cx w st.tab L st.next w' (appTab st.tab st.next oid (.row e sz (rows ++ rows2))) (updL L st.next v') := by
    refine ⟨fun p hp => hgrow.block p hp.1 fun e' => ?_, fun b hS => ⟨Nat.lt_of_lt_of_le hS.1 hgrow.size, hS.2.1, fun k o hk hg => ?_⟩, fun k p hk hK => ?_⟩
    · obtain ⟨id, _, hti, hbi⟩ := hold_block p e'.symm
      exact hp.2.2 id _ hti hbi
    · rcases hgetS k o hk with ⟨rfl, _⟩ | ⟨hlt, _, ho⟩
      · rw [hLx, hvb'] at hg
        rcases hblk with hb1 | hb1
        · rw [hb1] at hg
          obtain ⟨id, _, hti, hbi⟩ := hold_block b hg
          exact hS.2.2 id _ hti hbi
        · rw [hb1] at hg
          cases hg
          exact Nat.lt_irrefl _ hS.1
      · rw [hLn k hlt] at hg
        exact hS.2.2 k o ho hg
    · unfold Kx at *
      rw [hget k hk, hLn k hk] at hK
      split at hK
      · cases hK
      · exact hK
  have hbel : BelowX cx.X cx.w0.heap.size cx.w0 w' := h.lay.below.grown hgrow hbase fun k hk => (hown.lt k hk).1
  refine ⟨v', w', updL L st.next v', hrun, ?_, hgrow, rfl, by rw [hvb']; exact hblk, fun g hg => by obtain ⟨id, h1, _, h2⟩ := hold_block g hg; exact ⟨id, h1, h2⟩⟩
  have hex : ∀ id2 o2 g, (appTab st.tab st.next oid (.row e sz (rows ++ rows2))).get id2 = some o2 → vblk (updL L st.next v' id2) = some g → g < w.heap.size → ∃ id3 o3, st.tab.get id3 = some o3 ∧ vblk (L id3) = some g := fun k ok g hk hg' hlt => by
    rcases hgetS k ok hk with ⟨rfl, _⟩ | ⟨hlt', _, ho⟩
    · rw [hLx, hvb'] at hg'
      rcases hblk with hb1 | hb1
      · rw [hb1] at hg'
        obtain ⟨id, _, hti, hbi⟩ := hold_block g hg'
        exact ⟨id, _, hti, hbi⟩
      · rw [hb1] at hg'
        cases hg'
        omega
    · rw [hLn k hlt'] at hg'
      exact ⟨k, ok, ho, hg'⟩
  refine conc_put h ⟨hbel, fun k o hk => ?_, fun k k' o o' g h1 h2 h3 h4 => ?_, ex_of h.lay hgrow.size hex⟩ hext (Nat.le_succ _) (fun k o hk => ?_) ?_ (Nat.lt_succ_self _) dst
  · rcases hgetS k o hk with ⟨rfl, rfl⟩ | ⟨hlt, hne, ho⟩
    · rw [hLx]
      refine ⟨fun row hr => ?_, xs ++ news, by rw [List.length_append]; exact hown', fun x hx => ?_, fun i j row av h1 h2 => ?_⟩
      · rcases List.mem_append.1 hr with hr | hr
        · exact hrow1 row hr
        · exact hrow2 row hr
      · rcases List.mem_append.1 hx with hx | hx
        · exact hone x hx
        · exact hn1 x hx
      · by_cases hlt : i < rows.length
        · rw [List.getElem?_append_left hlt] at h1
          obtain ⟨x, hx, hr⟩ := hxs i j row av h1 h2
          exact ⟨x, by rw [List.getElem?_append_left ((List.getElem?_eq_some_iff.1 hx).1)]; exact hx, hext.rt hr⟩
        · rw [List.getElem?_append_right (by omega)] at h1
          obtain ⟨x, hx, hr⟩ := hnr _ j row av h1 h2
          refine ⟨x, ?_, hext.rt hr⟩
          have e1 : rows.length * sz ≤ i * sz := Nat.mul_le_mul_right _ (by omega)
          rw [List.getElem?_append_right (by rw [hown.1]; omega), hown.1]
          rw [Nat.sub_mul] at hx
          rwa [show i * sz + j - rows.length * sz = i * sz - rows.length * sz + j by omega]
    · rw [hLn k hlt]
      have hob := h.lay.objs k o ho
      exact hext.obj hob (hy' k o ho).2 fun g hg => hgrow.block g (hob.ge hg).2 (hother k o g hlt hne ho hg).1
  · rcases hgetS k o h1 with ⟨rfl, rfl⟩ | ⟨hlt, hne, ho⟩ <;> rcases hgetS k' o' h2 with ⟨rfl, rfl⟩ | ⟨hlt', hne', ho'⟩
    · rfl
    · rw [hLx, hvb'] at h3
      rw [hLn k' hlt'] at h4
      exact absurd h3.symm (hother k' o' g hlt' hne' ho' h4).2
    · rw [hLx, hvb'] at h4
      rw [hLn k hlt] at h3
      exact absurd h4.symm (hother k o g hlt hne ho h3).2
    · rw [hLn k hlt] at h3
      rw [hLn k' hlt'] at h4
      exact h.lay.sep k k' o o' g ho ho' h3 h4
  · rcases hgetS k o hk with ⟨rfl, rfl⟩ | ⟨hlt, _, ho⟩
    · exact ⟨Nat.lt_succ_self _, trivial⟩
    · refine ⟨by omega, ?_⟩
      have := (hy' k o ho).2
      cases o with
      | box t cells => exact ltL_iff.2 fun x hx => AV.lt_mono (Nat.le_succ _) (ltL_iff.1 this x hx)
      | row => trivial
      | map => trivial
      | nest e sz rows => exact fun row hr => ltL_iff.2 fun x hx => AV.lt_mono (Nat.le_succ _) (ltL_iff.1 (this row hr) x hx)
      | ghost vs env => exact envLt_mono (Nat.le_succ _) this
  · refine .osl _ _ fun sz' v'' hk => ?_
    unfold Kx at hk
    rw [appTab_get, if_pos rfl] at hk
    simp at hk
    rw [hLx] at hk
    exact hk.2
/-! ### rows that may name the call's own -/
theorem srcN_ok (hL : Lay cx w tab L) {v : Value} {av : AV} {sz : Nat} {rows : List (List AV)} (h0 : 0 < sz) (hv : RVx cx w tab L v av) (h : aSrcN tab sz av = some rows) : ∃ A c, v = .slice A rows.length c ∧ (∀ row ∈ rows, row.length = sz) ∧
    ∃ news : List Value, news.length = rows.length * sz ∧ (∀ u ∈ news, u.oneCell' = true) ∧ (∀ (i j : Nat) (row : List AV) (av : AV), rows[i]? = some row → row[j]? = some av → ∃ x, news[i * sz + j]? = some x ∧ RVx cx w tab L x av) ∧
      ((A = none ∧ rows.length = 0) ∨ ∃ ad, A = some ad ∧ ∀ j u, news[j]? = some u → w.cell? (ad.add j) = some u) := by
  unfold aSrcN at h
  split at h
  · rename_i id
    split at h
    · rename_i e sz' rows' hid
      split at h
      · rename_i e
        subst e
        cases h
        obtain ⟨hvL, A, cap, rfl, hA⟩ := osl_nest hL hid hv
        obtain ⟨hrow, xs, hown, hone, hx⟩ := hL.objs id _ hid
        refine ⟨A, cap, rfl, hrow, xs, hown.1, hone, hx, ?_⟩
        rw [← hvL] at hown
        rcases hown.2 with ⟨h1, h2⟩ | ⟨g, cap', cur, h1, _⟩
        · injection h1 with h1
          exact .inl ⟨h1, h2⟩
        · injection h1 with h1
          subst h1
          exact .inr ⟨_, rfl, hown.cells (g := g) rfl⟩
      · cases h
    · cases h
  · cases h
def dstNIs (tab : ATab) (L : Nat → Value) (e sz : Nat) (rows : List (List AV)) (v : Value) : Option Nat → Prop
  | some id => tab.get id = some (.nest e sz rows) ∧ v = L id
  | none => v = .slice none 0 0
theorem dstN_ok (hL : Lay cx w tab L) (hb : cx.w0.heap.size ≤ w.heap.size) {v : Value} {av : AV} {e sz : Nat} {rows : List (List AV)} {oid : Option Nat} (hv : RVx cx w tab L v av) (h : aDstN tab e sz av = some (oid, rows)) :
    (∀ row ∈ rows, row.length = sz) ∧ (∃ xs, OwnsR w cx.w0.heap.size e sz v rows.length xs ∧ (∀ x ∈ xs, x.oneCell' = true) ∧ ∀ (i j : Nat) (row : List AV) (av : AV), rows[i]? = some row → row[j]? = some av → ∃ x, xs[i * sz + j]? = some x ∧ RVx cx w tab L x av) ∧
    dstNIs tab L e sz rows v oid := by
  unfold aDstN at h
  split at h
  · rename_i id
    split at h
    · rename_i e' sz' rows' hid
      split at h
      · rename_i e
        obtain ⟨rfl, rfl⟩ := e
        cases h
        obtain ⟨hvL, _⟩ := osl_nest hL hid hv
        obtain ⟨hrow, xs, hown, hone, hx⟩ := hL.objs id _ hid
        exact ⟨hrow, ⟨xs, by rw [hvL]; exact hown, hone, hx⟩, hid, hvL⟩
      · cases h
    · cases h
  · cases h
    obtain rfl := hv.c_inv
    exact ⟨by simp, ⟨[], ownsR_nil .., by simp, by simp⟩, rfl⟩
  · cases h
theorem srcN_lt (hy : ∀ id o, tab.get id = some o → o.lt nx) {av : AV} {sz : Nat} {rows : List (List AV)} (h : aSrcN tab sz av = some rows) : ∀ row ∈ rows, AV.ltL nx row := by
  unfold aSrcN at h
  split at h
  · split at h
    · rename_i hid
      split at h
      · cases h
        exact hy _ _ hid
      · cases h
    · cases h
  · cases h
theorem dstN_lt (hy : ∀ id o, tab.get id = some o → o.lt nx) {av : AV} {e sz : Nat} {oid : Option Nat} {rows : List (List AV)} (h : aDstN tab e sz av = some (oid, rows)) : ∀ row ∈ rows, AV.ltL nx row := by
  unfold aDstN at h
  split at h
  · split at h
    · rename_i hid
      split at h
      · cases h
        exact hy _ _ hid
      · cases h
    · cases h
  · cases h
    intro row hr
    cases hr
  · cases h
theorem appendN_ok {t ty e sz by_ : Nat} {v u : Value} {x y : AV} {oid : Option Nat} {rows rows2 : List (List AV)} (h : Conc cx a w st L) (hv : RVx cx w st.tab L v x) (hu : RVx cx w st.tab L u y) (ht : tyRow P t = some (e, sz, by_))
    (hx : aDstN st.tab e sz x = some (oid, rows)) (hy : aSrcN st.tab sz y = some rows2) (h63 : rows.length + rows2.length ≤ maxLen) (hby : (rows.length + rows2.length) * by_ ≤ 140737488355328) (dst : Option Nat) :
    ∃ v' w' L', (Builtin.append_ #[t, t] ty #[v, u]).run P w = .ok v' w' ∧ Conc cx (a.put dst v') w' ({ st with tab := appTab st.tab st.next oid (.nest e sz (rows ++ rows2)), next := st.next + 1 }.put dst (.osl st.next)) L' ∧
      w.grownBy w' v.ownBlock ∧ L' = updL L st.next v' ∧ (vblk v' = v.ownBlock ∨ vblk v' = some w.heap.size) ∧ (∀ g, v.ownBlock = some g → ∃ id, oid = some id ∧ vblk (L id) = some g) := by
  obtain ⟨i, z, hund, hi, hz, hs, hb, hzs, h0⟩ := tyRow_some ht
  have hbase : cx.w0.heap.size ≤ w.heap.size := h.lay.below.size
  obtain ⟨hrow1, ⟨xs, hown, hone, hxs⟩, hoid⟩ := dstN_ok h.lay hbase hv hx
  obtain ⟨A, c, rfl, hrow2, news, hnl, hn1, hnr, hA⟩ := srcN_ok h.lay h0 hu hy
  have hl1 := dstN_lt (fun id o ho => (h.young id o ho).2) hx
  have hl2 := srcN_lt (fun id o ho => (h.young id o ho).2) hy
  have hrun : ∃ v' w', (Builtin.append_ #[t, t] ty #[v, .slice A rows2.length c]).run P w = .ok v' w' ∧ OwnsR w' cx.w0.heap.size e sz v' (rows.length + rows2.length) (xs ++ news) ∧ w.grownBy w' v.ownBlock ∧ (v'.ownBlock = v.ownBlock ∨ v'.ownBlock = some w.heap.size) := by
    rcases hA with ⟨rfl, hz0⟩ | ⟨ad, rfl, hcell⟩
    · rw [hz0] at hnl ⊢
      have : news = [] := List.eq_nil_of_length_eq_zero (by simpa using hnl)
      subst this
      exact ⟨v, w, run_append_none _ hund hi hown, by simpa using hown, ⟨rfl, rfl, rfl, Nat.le_refl _, fun _ _ _ => rfl⟩, .inl rfl⟩
    · obtain ⟨v', w', h1, h2, h3, h5⟩ := run_append_R (P := P) cx.w0.heap.size t ty e i z sz by_ hund hi hz hs hb hzs h0 v rows.length xs hown ad rows2.length c news hnl hcell hn1 h63 hby hbase
      exact ⟨v', w', h1, h2, h3, h5⟩
  obtain ⟨v', w', hrun, hown', hgrow, hblk⟩ := hrun
  have vb : ∀ {x : Value} {n : Nat} {l : List Value} {w : World}, OwnsR w cx.w0.heap.size e sz x n l → vblk x = x.ownBlock := fun hh => by
    rcases hh.2 with ⟨rfl, _⟩ | ⟨g, cap, cur, rfl, _⟩ <;> rfl
  have hvb := vb hown
  have hvb' := vb hown'
  have hold_block : ∀ g, v.ownBlock = some g → ∃ id, oid = some id ∧ st.tab.get id = some (.nest e sz rows) ∧ vblk (L id) = some g := fun g hg => by
    cases oid with
    | none => rw [show v = .slice none 0 0 from hoid] at hg; cases hg
    | some id => exact ⟨id, rfl, hoid.1, by rw [← hoid.2, hvb]; exact hg⟩
  have hy' := h.young
  have hget : ∀ k, k < st.next → (appTab st.tab st.next oid (.nest e sz (rows ++ rows2))).get k = if oid = some k then none else st.tab.get k := fun k hk => by
    rw [appTab_get, if_neg (by omega)]
  have hgetS : ∀ k o, (appTab st.tab st.next oid (.nest e sz (rows ++ rows2))).get k = some o → (k = st.next ∧ o = .nest e sz (rows ++ rows2)) ∨ (k < st.next ∧ oid ≠ some k ∧ st.tab.get k = some o) := fun k o hk => by
    rw [appTab_get] at hk
    split at hk
    · rename_i e'
      cases hk
      exact .inl ⟨e', rfl⟩
    · split at hk
      · cases hk
      · rename_i h1
        exact .inr ⟨(hy' k o hk).1, h1, hk⟩
  have hLn : ∀ k, k < st.next → updL L st.next v' k = L k := fun k hk => by unfold updL; rw [if_neg (by omega)]
  have hLx : updL L st.next v' st.next = v' := by simp [updL]
  -- the blocks of other objects
  have hother : ∀ k o g, k < st.next → oid ≠ some k → st.tab.get k = some o → vblk (L k) = some g → some g ≠ v.ownBlock ∧ some g ≠ v'.ownBlock := fun k o g hk hne ho hg => by
    have h1 : some g ≠ v.ownBlock := fun e' => by
      obtain ⟨id, hid, hti, hbi⟩ := hold_block g e'.symm
      exact hne (by rw [hid, h.lay.sep id k _ o g hti ho hbi hg])
    refine ⟨h1, fun e' => ?_⟩
    rcases hblk with hb1 | hb1
    · exact h1 (by rw [e', hb1])
    · have := ((h.lay.objs k o ho).ge hg).2
      rw [hb1] at e'
      cases e'
      omega
  have hext : Ext cx w st.tab L st.next w' (appTab st.tab st.next oid (.nest e sz (rows ++ rows2))) (updL L st.next v') := by
    refine ⟨fun p hp => hgrow.block p hp.1 fun e' => ?_, fun b hS => ⟨Nat.lt_of_lt_of_le hS.1 hgrow.size, hS.2.1, fun k o hk hg => ?_⟩, fun k p hk hK => ?_⟩
    · obtain ⟨id, _, hti, hbi⟩ := hold_block p e'.symm
      exact hp.2.2 id _ hti hbi
    · rcases hgetS k o hk with ⟨rfl, _⟩ | ⟨hlt, _, ho⟩
      · rw [hLx, hvb'] at hg
        rcases hblk with hb1 | hb1
        · rw [hb1] at hg
          obtain ⟨id, _, hti, hbi⟩ := hold_block b hg
          exact hS.2.2 id _ hti hbi
        · rw [hb1] at hg
          cases hg
          exact Nat.lt_irrefl _ hS.1
      · rw [hLn k hlt] at hg
        exact hS.2.2 k o ho hg
    · unfold Kx at *
      rw [hget k hk, hLn k hk] at hK
      split at hK
      · cases hK
      · exact hK
  have hbel : BelowX cx.X cx.w0.heap.size cx.w0 w' := h.lay.below.grown hgrow hbase fun k hk => (hown.lt k hk).1
  refine ⟨v', w', updL L st.next v', hrun, ?_, hgrow, rfl, by rw [hvb']; exact hblk, fun g hg => by obtain ⟨id, h1, _, h2⟩ := hold_block g hg; exact ⟨id, h1, h2⟩⟩
  have hex : ∀ id2 o2 g, (appTab st.tab st.next oid (.nest e sz (rows ++ rows2))).get id2 = some o2 → vblk (updL L st.next v' id2) = some g → g < w.heap.size → ∃ id3 o3, st.tab.get id3 = some o3 ∧ vblk (L id3) = some g := fun k ok g hk hg' hlt => by
    rcases hgetS k ok hk with ⟨rfl, _⟩ | ⟨hlt', _, ho⟩
    · rw [hLx, hvb'] at hg'
      rcases hblk with hb1 | hb1
      · rw [hb1] at hg'
        obtain ⟨id, _, hti, hbi⟩ := hold_block g hg'
        exact ⟨id, _, hti, hbi⟩
      · rw [hb1] at hg'
        cases hg'
        omega
    · rw [hLn k hlt'] at hg'
      exact ⟨k, ok, ho, hg'⟩
  refine conc_put h ⟨hbel, fun k o hk => ?_, fun k k' o o' g h1 h2 h3 h4 => ?_, ex_of h.lay hgrow.size hex⟩ hext (Nat.le_succ _) (fun k o hk => ?_) ?_ (Nat.lt_succ_self _) dst
  · rcases hgetS k o hk with ⟨rfl, rfl⟩ | ⟨hlt, hne, ho⟩
    · rw [hLx]
      refine ⟨fun row hr => ?_, xs ++ news, by rw [List.length_append]; exact hown', fun x hx => ?_, fun i j row av h1 h2 => ?_⟩
      · rcases List.mem_append.1 hr with hr | hr
        · exact hrow1 row hr
        · exact hrow2 row hr
      · rcases List.mem_append.1 hx with hx | hx
        · exact hone x hx
        · exact hn1 x hx
      · by_cases hlt : i < rows.length
        · rw [List.getElem?_append_left hlt] at h1
          obtain ⟨x, hx, hr⟩ := hxs i j row av h1 h2
          exact ⟨x, by rw [List.getElem?_append_left ((List.getElem?_eq_some_iff.1 hx).1)]; exact hx, hext.rv hr (ltL_iff.1 (hl1 row (List.mem_of_getElem? h1)) _ (List.mem_of_getElem? h2))⟩
        · rw [List.getElem?_append_right (by omega)] at h1
          obtain ⟨x, hx, hr⟩ := hnr _ j row av h1 h2
          refine ⟨x, ?_, hext.rv hr (ltL_iff.1 (hl2 row (List.mem_of_getElem? h1)) _ (List.mem_of_getElem? h2))⟩
          have e1 : rows.length * sz ≤ i * sz := Nat.mul_le_mul_right _ (by omega)
          rw [List.getElem?_append_right (by rw [hown.1]; omega), hown.1]
          rw [Nat.sub_mul] at hx
          rwa [show i * sz + j - rows.length * sz = i * sz - rows.length * sz + j by omega]
    · rw [hLn k hlt]
      have hob := h.lay.objs k o ho
      exact hext.obj hob (hy' k o ho).2 fun g hg => hgrow.block g (hob.ge hg).2 (hother k o g hlt hne ho hg).1
  · rcases hgetS k o h1 with ⟨rfl, rfl⟩ | ⟨hlt, hne, ho⟩ <;> rcases hgetS k' o' h2 with ⟨rfl, rfl⟩ | ⟨hlt', hne', ho'⟩
    · rfl
    · rw [hLx, hvb'] at h3
      rw [hLn k' hlt'] at h4
      exact absurd h3.symm (hother k' o' g hlt' hne' ho' h4).2
    · rw [hLx, hvb'] at h4
      rw [hLn k hlt] at h3
      exact absurd h4.symm (hother k o g hlt hne ho h3).2
    · rw [hLn k hlt] at h3
      rw [hLn k' hlt'] at h4
      exact h.lay.sep k k' o o' g ho ho' h3 h4
  · rcases hgetS k o hk with ⟨rfl, rfl⟩ | ⟨hlt, _, ho⟩
    · refine ⟨Nat.lt_succ_self _, fun row hr => ltL_iff.2 fun x hx => AV.lt_mono (Nat.le_succ _) ?_⟩
      rcases List.mem_append.1 hr with hr | hr
      · exact ltL_iff.1 (hl1 row hr) x hx
      · exact ltL_iff.1 (hl2 row hr) x hx
    · refine ⟨by omega, ?_⟩
      have := (hy' k o ho).2
      cases o with
      | box t cells => exact ltL_iff.2 fun x hx => AV.lt_mono (Nat.le_succ _) (ltL_iff.1 this x hx)
      | row => trivial
      | map => trivial
      | nest e sz rows => exact fun row hr => ltL_iff.2 fun x hx => AV.lt_mono (Nat.le_succ _) (ltL_iff.1 (this row hr) x hx)
      | ghost vs env => exact envLt_mono (Nat.le_succ _) this
  · refine .osl _ _ fun sz' v'' hk => ?_
    unfold Kx at hk
    rw [appTab_get, if_pos rfl] at hk
    simp at hk
    rw [hLx] at hk
    exact hk.2
/-- the head of a slice of its own; the elder one is gone -/
theorem reslice_ok {id e sz n : Nat} {rows : List (List AV)} {v' : Value} (h : Conc cx a w st L) (hid : st.tab.get id = some (.row e sz rows)) (hn : n ≤ rows.length)
    (hv' : (L id = .slice none 0 0 ∧ v' = .slice none 0 0) ∨ ∃ g cap cap', L id = .slice (some ⟨g, 0, none⟩) rows.length cap ∧ v' = .slice (some ⟨g, 0, none⟩) n cap' ∧ n ≤ cap' ∧ cap' ≤ cap) (dst : Option Nat) :
    Conc cx (a.put dst v') w ({ st with tab := appTab st.tab st.next (some id) (.row e sz (rows.take n)), next := st.next + 1 }.put dst (.osl st.next)) (updL L st.next v') := by
  have hvb : vblk v' = vblk (L id) := by
    rcases hv' with ⟨h1, rfl⟩ | ⟨g, cap, cap', h1, rfl, _⟩ <;> rw [h1] <;> rfl
  have hy' := h.young
  have hget : ∀ k, k < st.next → (appTab st.tab st.next (some id) (.row e sz (rows.take n))).get k = if some id = some k then none else st.tab.get k := fun k hk => by
    rw [appTab_get, if_neg (by omega)]
  have hgetS : ∀ k o, (appTab st.tab st.next (some id) (.row e sz (rows.take n))).get k = some o → (k = st.next ∧ o = .row e sz (rows.take n)) ∨ (k < st.next ∧ id ≠ k ∧ st.tab.get k = some o) := fun k o hk => by
    rw [appTab_get] at hk
    split at hk
    · rename_i e'
      cases hk
      exact .inl ⟨e', rfl⟩
    · split at hk
      · cases hk
      · rename_i h1
        exact .inr ⟨(hy' k o hk).1, fun e' => h1 (by rw [e']), hk⟩
  have hLn : ∀ k, k < st.next → updL L st.next v' k = L k := fun k hk => by unfold updL; rw [if_neg (by omega)]
  have hLx : updL L st.next v' st.next = v' := by simp [updL]
  have hext : Ext cx w st.tab L st.next w (appTab st.tab st.next (some id) (.row e sz (rows.take n))) (updL L st.next v') := by
    refine ⟨fun p hp => rfl, fun b hS => ⟨hS.1, hS.2.1, fun k o hk hg => ?_⟩, fun k p hk hK => ?_⟩
    · rcases hgetS k o hk with ⟨rfl, _⟩ | ⟨hlt, _, ho⟩
      · rw [hLx, hvb] at hg
        exact hS.2.2 id _ hid hg
      · rw [hLn k hlt] at hg
        exact hS.2.2 k o ho hg
    · unfold Kx at *
      rw [hget k hk, hLn k hk] at hK
      split at hK
      · cases hK
      · exact hK
  obtain ⟨hrow, xs, hown, hone, hx⟩ := h.lay.objs id _ hid
  have hmul : n * sz ≤ rows.length * sz := Nat.mul_le_mul_right _ hn
  have hlen : (rows.take n).length = n := by rw [List.length_take]; omega
  have hex : ∀ id2 o2 g, (appTab st.tab st.next (some id) (.row e sz (rows.take n))).get id2 = some o2 → vblk (updL L st.next v' id2) = some g → g < w.heap.size → ∃ id3 o3, st.tab.get id3 = some o3 ∧ vblk (L id3) = some g := fun k ok g hk hg' hlt => by
    rcases hgetS k ok hk with ⟨rfl, _⟩ | ⟨hlt', _, ho⟩
    · rw [hLx, hvb] at hg'
      exact ⟨id, _, hid, hg'⟩
    · rw [hLn k hlt'] at hg'
      exact ⟨k, ok, ho, hg'⟩
  refine conc_put h ⟨h.lay.below, fun k o hk => ?_, fun k k' o o' g h1 h2 h3 h4 => ?_, ex_of h.lay (Nat.le_refl _) hex⟩ hext (Nat.le_succ _) (fun k o hk => ?_) ?_ (Nat.lt_succ_self _) dst
  · rcases hgetS k o hk with ⟨rfl, rfl⟩ | ⟨hlt, hne, ho⟩
    · rw [hLx]
      refine ⟨fun row hr => hrow row (List.mem_of_mem_take hr), xs.take (n * sz), ⟨?_, ?_⟩, fun x hx' => hone x (List.mem_of_mem_take hx'), fun i j row av h1 h2 => ?_⟩
      · rw [List.length_take, hown.1, hlen]
        omega
      · rw [hlen]
        rcases hown.2 with ⟨h1, h0⟩ | ⟨g, cap, cur, h1, hb, hh, hc, hm, hcs, htake⟩
        · rcases hv' with ⟨_, rfl⟩ | ⟨g', cap1, cap2, h2, rfl, _⟩
          · exact .inl ⟨rfl, by omega⟩
          · rw [h1] at h2
            cases h2
        · rcases hv' with ⟨h2, _⟩ | ⟨g', cap1, cap2, h2, rfl, h3, h4⟩
          · rw [h1] at h2
            cases h2
          · rw [h1] at h2
            cases h2
            refine .inr ⟨g, cap2, cur, rfl, hb, hh, h3, by omega, Nat.le_trans (Nat.mul_le_mul_right _ h4) hcs, ?_⟩
            rw [← htake, List.take_take, Nat.min_eq_left hmul]
      · rw [List.getElem?_take] at h1
        split at h1
        · rename_i hi
          obtain ⟨x, hx1, hx2⟩ := hx i j row av h1 h2
          refine ⟨x, ?_, hext.rt hx2⟩
          have hj : j < sz := by rw [← hrow row (List.mem_of_getElem? h1)]; exact (List.getElem?_eq_some_iff.1 h2).1
          have : (i + 1) * sz ≤ n * sz := Nat.mul_le_mul_right _ hi
          rw [Nat.add_mul] at this
          rw [List.getElem?_take, if_pos (by omega)]
          exact hx1
        · cases h1
    · rw [hLn k hlt]
      exact hext.obj (h.lay.objs k o ho) (hy' k o ho).2 fun g hg => rfl
  · rcases hgetS k o h1 with ⟨rfl, _⟩ | ⟨hlt, hne, ho⟩ <;> rcases hgetS k' o' h2 with ⟨rfl, _⟩ | ⟨hlt', hne', ho'⟩
    · rfl
    · rw [hLx, hvb] at h3
      rw [hLn k' hlt'] at h4
      exact absurd (h.lay.sep id k' _ o' g hid ho' h3 h4) hne'
    · rw [hLx, hvb] at h4
      rw [hLn k hlt] at h3
      exact absurd (h.lay.sep id k _ o g hid ho h4 h3) hne
    · rw [hLn k hlt] at h3
      rw [hLn k' hlt'] at h4
      exact h.lay.sep k k' o o' g ho ho' h3 h4
  · rcases hgetS k o hk with ⟨rfl, rfl⟩ | ⟨hlt, _, ho⟩
    · exact ⟨Nat.lt_succ_self _, trivial⟩
    · refine ⟨by omega, ?_⟩
      have := (hy' k o ho).2
      cases o with
      | box t cells => exact ltL_iff.2 fun x hx => AV.lt_mono (Nat.le_succ _) (ltL_iff.1 this x hx)
      | row => trivial
      | map => trivial
      | nest e sz rows => exact fun row hr => ltL_iff.2 fun x hx => AV.lt_mono (Nat.le_succ _) (ltL_iff.1 (this row hr) x hx)
      | ghost vs env => exact envLt_mono (Nat.le_succ _) this
  · refine .osl _ _ fun sz' v'' hk => ?_
    unfold Kx at hk
    rw [appTab_get, if_pos rfl] at hk
    simp at hk
    rw [hLx] at hk
    exact hk.2
end
end
section
open Go.RowKit

theorem foldl_set_get (off : Nat) : ∀ (l : List Value) (n : Nat) (cells : Array Value), off + n + l.length ≤ cells.size → ∀ k, ((l.zipIdx n).foldl (fun cs (p : Value × Nat) => cs.setIfInBounds (off + p.2) p.1) cells)[k]? = if off + n ≤ k ∧ k < off + n + l.length then l[k - (off + n)]? else cells[k]?
  | [], n, cells, _, k => by simp; omega
  | v :: l, n, cells, h, k => by
    simp only [List.zipIdx_cons, List.foldl_cons, List.length_cons] at h ⊢
    rw [foldl_set_get off l (n + 1) _ (by simp; omega)]
    by_cases h1 : off + n = k
    · subst h1
      rw [if_neg (by omega), if_pos (by omega), Array.getElem?_setIfInBounds_self_of_lt (by omega)]
      simp
    · by_cases h2 : off + (n + 1) ≤ k ∧ k < off + (n + 1) + l.length
      · rw [if_pos h2, if_pos (by omega)]
        rw [show k - (off + n) = (k - (off + (n + 1))) + 1 by omega, List.getElem?_cons_succ]
      · rw [if_neg h2, if_neg (by omega), Array.getElem?_setIfInBounds_ne h1]
theorem fill_one (off : Nat) (v : Array Value) (cells : Array Value) (h : off + v.size ≤ cells.size) : (v.zipIdx.foldl (fun cs (p : Value × Nat) => cs.setIfInBounds (off + p.2) p.1) cells) = (cells.toList.take off ++ v.toList ++ cells.toList.drop (off + v.size)).toArray := by
  have e : v.zipIdx.foldl (fun cs (p : Value × Nat) => cs.setIfInBounds (off + p.2) p.1) cells = (v.toList.zipIdx 0).foldl (fun cs (p : Value × Nat) => cs.setIfInBounds (off + p.2) p.1) cells := by
    rw [← Array.foldl_toList]
    congr 1
    simp
  rw [e]
  apply Array.ext_getElem?
  intro k
  rw [foldl_set_get off v.toList 0 cells (by simpa using h) k]
  have := splice_get cells.toList off v.toList (by simpa using h) k
  simp only [Array.length_toList] at this
  simp only [List.getElem?_toArray, this, Array.length_toList, Nat.add_zero]
  simp
/-- every part in its order, each of so many cells -/
theorem fill_all (sz : Nat) : ∀ (parts : List (Nat × Value)) (k : Nat) (cells : Array Value), parts.map (·.1) = List.range' k parts.length → (∀ p ∈ parts, p.2.cells.size = sz) → cells.size = (k + parts.length) * sz →
    ∃ c : Array Value, Instr.fill (fun i => some (i * sz, sz)) cells parts = some c ∧ c.toList = cells.toList.take (k * sz) ++ parts.flatMap (·.2.cells.toList)
  | [], k, cells, _, _, hs => ⟨cells, rfl, by simp at hs; simp [List.take_of_length_le, hs]⟩
  | (i, v) :: rest, k, cells, hi, hp, hs => by
    simp only [List.map_cons, List.length_cons, List.range'_succ, List.cons.injEq] at hi hs
    obtain ⟨rfl, hi⟩ := hi
    have hv := hp (i, v) (by simp)
    simp only at hv
    have hmul : (i + (rest.length + 1)) * sz = i * sz + sz + rest.length * sz := by rw [Nat.add_mul, Nat.add_mul]; omega
    have hfit : i * sz + v.cells.size ≤ cells.size := by rw [hs, hmul, hv]; omega
    have hone := fill_one (i * sz) v.cells cells hfit
    obtain ⟨c, h1, h2⟩ := fill_all sz rest (i + 1) (cells.toList.take (i * sz) ++ v.cells.toList ++ cells.toList.drop (i * sz + v.cells.size)).toArray hi (fun p hp' => hp p (by simp [hp'])) (by
      simp [hs, hv, hmul, Nat.add_mul] <;> omega)
    refine ⟨c, ?_, ?_⟩
    · unfold Instr.fill
      simp only
      rw [if_neg (by simp [hv]; omega)]
      rw [hone]
      exact h1
    · rw [h2]
      simp only [List.flatMap_cons]
      rw [← List.append_assoc]
      congr 1
      have hl : ((cells.toList.take (i * sz)).length) = i * sz := by
        rw [List.length_take]
        simp
        omega
      rw [List.take_append_of_le_length (by simp [hl, hv, Nat.add_mul])]
      rw [List.take_of_length_le (by simp [hl, hv, Nat.add_mul])]
theorem flat_get {α β : Type} (f : α → List β) (sz : Nat) : ∀ (l : List α), (∀ a ∈ l, (f a).length = sz) → ∀ i j (h : i < l.length), j < sz → (l.flatMap f)[i * sz + j]? = (f l[i])[j]?
  | [], _, i, _, h, _ => absurd h (by simp)
  | a :: l, hs, i, j, h, hj => by
    rw [List.flatMap_cons]
    have ha := hs a (by simp)
    cases i with
    | zero => rw [Nat.zero_mul, Nat.zero_add, List.getElem?_append_left (by omega)]; rfl
    | succ i =>
      rw [List.getElem?_append_right (by rw [ha, Nat.add_mul]; omega), ha, show (i + 1) * sz + j - sz = i * sz + j by rw [Nat.add_mul]; omega]
      exact flat_get f sz l (fun a h => hs a (by simp [h])) i j (by simpa using h) hj
theorem flat_len {α β : Type} (f : α → List β) (sz : Nat) : ∀ (l : List α), (∀ a ∈ l, (f a).length = sz) → (l.flatMap f).length = l.length * sz
  | [], _ => by simp
  | a :: l, hs => by
    rw [List.flatMap_cons, List.length_append, hs a (by simp), flat_len f sz l (fun a h => hs a (by simp [h])), List.length_cons, Nat.add_mul]
    omega

/-- it names no object of the call's own -/
def treeC : AV → Prop
  | .osl _ => False
  | .op _ _ _ => False
  | .agg _ => False
  | .tup _ => False
  | .fn _ _ => False
  | .bfn _ _ => False
  | _ => True
def treeL : List AV → Prop
  | [] => True
  | a :: l => treeC a ∧ treeL l
theorem treeL_iff : ∀ {l : List AV}, treeL l ↔ ∀ a ∈ l, treeC a
  | [] => by simp [treeL]
  | a :: l => by simp [treeL, treeL_iff (l := l)]
section
variable {P : Program} {cx : Cx} {a : Act} {w w' : World} {tab : ATab} {st : ASt} {L : Nat → Value} {nx : Nat}
theorem tree_of {x : Value} {av : AV} (h : RVx cx w tab L x av) (ht : treeC av) : RT w (Sx cx w tab L) x av := by
  cases h with
  | tree h => exact h
  | osl => exact ht.elim
  | op => exact ht.elim
  | agg => exact ht.elim
  | tup => exact ht.elim
  | fn => exact ht.elim
  | bfn => exact ht.elim

/-- a new slice of its own, made whole -/
theorem conc_row {t e sz by_ : Nat} (h : Conc cx a w st L) (h0 : 0 < sz) {cells : Array Value} {rows : List (List AV)} (hr : ∀ row ∈ rows, row.length = sz) (hn : cells.size = rows.length * sz) (hm : rows.length ≤ 9223372036854775807) (h1 : ∀ x ∈ cells, x.oneCell' = true)
    (hx : ∀ (i j : Nat) (row : List AV) (av : AV), rows[i]? = some row → row[j]? = some av → ∃ x, cells[i * sz + j]? = some x ∧ RT w (Sx cx w st.tab L) x av) (dst : Option Nat) :
    Conc cx (a.put dst (.slice (some ⟨w.heap.size, 0, none⟩) rows.length rows.length)) (w.alloc (.cells cells e)) ({ st with tab := (st.next, some (.row e sz rows)) :: st.tab, next := st.next + 1 }.put dst (.osl st.next)) (updL L st.next (.slice (some ⟨w.heap.size, 0, none⟩) rows.length rows.length)) := by
  refine conc_new (ob := .row e sz rows) (v := .slice (some ⟨w.heap.size, 0, none⟩) rows.length rows.length) h ((Below.refl _ _).alloc (Nat.le_refl _) _) (fun g hg => ?_) (fun hext => ⟨hr, cells.toList, ⟨by simpa using hn, .inr ⟨w.heap.size, _, cells, rfl, h.lay.below.size, heap_alloc_new w _, Nat.le_refl _, by simpa [maxLen] using hm, Nat.le_of_eq hn.symm, ?_⟩⟩, fun x hx' => h1 x (by simpa using hx'), fun i j row av ha hb => ?_⟩) trivial (fun hext => ?_) (Nat.lt_succ_self _) dst
  · simp [vblk] at hg
    omega
  · exact List.take_of_length_le (by simp [hn])
  · obtain ⟨x, hx1, hx2⟩ := hx i j row av ha hb
    exact ⟨x, by simpa using hx1, hext.rt hx2⟩
  · refine .osl _ _ fun sz' v'' hk => ?_
    simp [Kx, ATab.get_cons, updL] at hk
    exact hk.2

/-- such a one, whose cells may name the call's own -/
theorem conc_nest {t e sz by_ : Nat} (h : Conc cx a w st L) (h0 : 0 < sz) {cells : Array Value} {rows : List (List AV)} (hr : ∀ row ∈ rows, row.length = sz) (hn : cells.size = rows.length * sz) (hm : rows.length ≤ 9223372036854775807) (h1 : ∀ x ∈ cells, x.oneCell' = true)
    (hx : ∀ (i j : Nat) (row : List AV) (av : AV), rows[i]? = some row → row[j]? = some av → ∃ x, cells[i * sz + j]? = some x ∧ RVx cx w st.tab L x av) (hlt : ∀ row ∈ rows, AV.ltL st.next row) (dst : Option Nat) :
    Conc cx (a.put dst (.slice (some ⟨w.heap.size, 0, none⟩) rows.length rows.length)) (w.alloc (.cells cells e)) ({ st with tab := (st.next, some (.nest e sz rows)) :: st.tab, next := st.next + 1 }.put dst (.osl st.next)) (updL L st.next (.slice (some ⟨w.heap.size, 0, none⟩) rows.length rows.length)) := by
  refine conc_new (ob := .nest e sz rows) (v := .slice (some ⟨w.heap.size, 0, none⟩) rows.length rows.length) h ((Below.refl _ _).alloc (Nat.le_refl _) _) (fun g hg => ?_) (fun hext => ⟨hr, cells.toList, ⟨by simpa using hn, .inr ⟨w.heap.size, _, cells, rfl, h.lay.below.size, heap_alloc_new w _, Nat.le_refl _, by simpa [maxLen] using hm, Nat.le_of_eq hn.symm, ?_⟩⟩, fun x hx' => h1 x (by simpa using hx'), fun i j row av ha hb => ?_⟩) (fun row hr => ltL_iff.2 fun x hx => AV.lt_mono (Nat.le_succ _) (ltL_iff.1 (hlt row hr) x hx)) (fun hext => ?_) (Nat.lt_succ_self _) dst
  · simp [vblk] at hg
    omega
  · exact List.take_of_length_le (by simp [hn])
  · obtain ⟨x, hx1, hx2⟩ := hx i j row av ha hb
    exact ⟨x, by simpa using hx1, hext.rv hx2 (ltL_iff.1 (hlt row (List.mem_of_getElem? ha)) _ (List.mem_of_getElem? hb))⟩
  · refine .osl _ _ fun sz' v'' hk => ?_
    simp [Kx, ATab.get_cons, updL] at hk
    exact hk.2

/-! ### a slice of the call's own is written no more -/
mutual
def AV.frz (id sz : Nat) (rows : List (List AV)) : AV → AV
  | .osl k => if k = id then .sl sz rows else .osl k
  | .agg cs => .agg (AV.frzL id sz rows cs)
  | .tup cs => .tup (AV.frzL id sz rows cs)
  | .fn f cs => .fn f (AV.frzL id sz rows cs)
  | .bfn f cs => .bfn f (AV.frzL id sz rows cs)
  | .op k i j => .op k i j
  | .any => .any
  | .c v => .c v
  | .sl sz rows => .sl sz rows
  | .rp cs => .rp cs
def AV.frzL (id sz : Nat) (rows : List (List AV)) : List AV → List AV
  | [] => []
  | a :: l => a.frz id sz rows :: AV.frzL id sz rows l
end
theorem frzL_map (id sz : Nat) (rows : List (List AV)) : ∀ l : List AV, AV.frzL id sz rows l = l.map (·.frz id sz rows)
  | [] => rfl
  | a :: l => by simp [AV.frzL, frzL_map id sz rows l]
def frzEnv (id sz : Nat) (rows : List (List AV)) : List (Nat × AV) → List (Nat × AV)
  | [] => []
  | (t, av) :: l => (t, av.frz id sz rows) :: frzEnv id sz rows l
def AObj.frz (id sz : Nat) (rows : List (List AV)) : AObj → AObj
  | .box t cells => .box t (AV.frzL id sz rows cells)
  | .row e s r => .row e s r
  | .nest e s r => .nest e s (r.map (AV.frzL id sz rows))
  | .map ents => .map ents
  | .ghost vs env => .ghost vs (frzEnv id sz rows env)
def frzTab (id sz : Nat) (rows : List (List AV)) : ATab → ATab
  | [] => []
  | (k, o) :: l => (k, o.map (AObj.frz id sz rows)) :: frzTab id sz rows l
theorem frzTab_get (id sz : Nat) (rows : List (List AV)) : ∀ (l : ATab) (k : Nat), (frzTab id sz rows l).get k = (l.get k).map (AObj.frz id sz rows)
  | [], k => by simp [frzTab, ATab.get]
  | (q, o) :: l, k => by
    simp only [frzTab, ATab.get_cons]
    split
    · rfl
    · exact frzTab_get id sz rows l k
theorem frz_sz (id sz : Nat) (rows : List (List AV)) (o : AObj) : (o.frz id sz rows).sz = o.sz := by cases o <;> simp [AObj.frz, AObj.sz, frzL_map]
def frz1 (st : ASt) (id : Nat) : ASt :=
  match st.tab.get id with
  | some (.row _ sz rows) => { st with env := frzEnv id sz rows st.env, tab := (id, none) :: frzTab id sz rows st.tab }
  | _ => st
def frzs (st : ASt) : List Nat → ASt
  | [] => st
  | id :: ids => frzs (frz1 st id) ids
/-- the slices of its own that these cells name -/
def ownIds : List AV → List Nat
  | [] => []
  | .osl id :: l => id :: ownIds l
  | _ :: l => ownIds l
theorem frzEnv_get (id sz : Nat) (rows : List (List AV)) : ∀ (l : List (Nat × AV)) (t : Nat), aget (frzEnv id sz rows l) t = (aget l t).frz id sz rows
  | [], t => by simp [frzEnv, aget, AV.frz]
  | (k, av) :: l, t => by
    simp only [frzEnv, aget]
    split
    · rfl
    · exact frzEnv_get id sz rows l t
theorem frz_lt {id sz nx : Nat} {rows : List (List AV)} : ∀ {av : AV}, av.lt nx → (av.frz id sz rows).lt nx := by
  intro av
  induction av using AV.rec (motive_2 := fun _ => True) (motive_3 := fun l => AV.ltL nx l → AV.ltL nx (AV.frzL id sz rows l)) <;> simp_all [AV.lt, AV.ltL, AV.frz, AV.frzL]
  split <;> simp_all [AV.lt]
theorem rt_row {e : TypeId} {sz : Nat} {v : Value} {rows : List (List AV)} {S : Nat → Prop} (h : ObjAt cx w tab L v (.row e sz rows)) (hS : ∀ b, Sx cx w tab L b → S b) (hg : ∀ g, vblk v = some g → S g) : RT w S v (.sl sz rows) := by
  obtain ⟨hrow, xs, hown, hone, hx⟩ := h
  have hm : ∀ i j row av, rows[i]? = some row → row[j]? = some av → (xs[i * sz + j]?.getD undef).oneCell' = true ∧ RT w S (xs[i * sz + j]?.getD undef) av ∧ ∃ x, xs[i * sz + j]? = some x := fun i j row av h1 h2 => by
    obtain ⟨x, hx1, hx2⟩ := hx i j row av h1 h2
    rw [hx1]
    exact ⟨hone x (List.mem_of_getElem? hx1), hx2.mono (fun _ _ => rfl) hS, x, rfl⟩
  rcases hown.2 with ⟨rfl, h0⟩ | ⟨g, cap, cur, rfl, hb, hgh, hc, hm', _⟩
  · exact .sl none _ 0 sz rows 0 0 (fun i j => xs[i * sz + j]?.getD undef) h0.symm (Nat.le_refl _) (by omega) (fun h => by omega) hrow (fun h => by omega) (fun i j row av h1 h2 => (hm i j row av h1 h2).1) (fun i j row av h1 h2 => (hm i j row av h1 h2).2.1)
  · refine .sl _ _ cap sz rows g 0 (fun i j => xs[i * sz + j]?.getD undef) rfl hc (by simpa [maxLen] using hm') (fun _ => ⟨rfl, hg g rfl⟩) hrow (fun _ i j row av h1 h2 => ?_) (fun i j row av h1 h2 => (hm i j row av h1 h2).1) (fun i j row av h1 h2 => (hm i j row av h1 h2).2.1)
    obtain ⟨x, hx⟩ := (hm i j row av h1 h2).2.2
    have := hown.cells (g := g) rfl _ x hx
    rw [addAddr0] at this
    rw [hx, Nat.zero_add]
    exact this
theorem frz_core {e id sz : Nat} {rows : List (List AV)} (hL : Lay cx w tab L) (hy : ∀ id o, tab.get id = some o → o.lt nx) (hid : tab.get id = some (.row e sz rows)) :
    Lay cx w ((id, none) :: frzTab id sz rows tab) L ∧ ∀ x av, RVx cx w tab L x av → av.lt nx → RVx cx w ((id, none) :: frzTab id sz rows tab) L x (av.frz id sz rows) := by
    have ht : ∀ k, ATab.get ((id, none) :: frzTab id sz rows tab) k = if k = id then none else (tab.get k).map (AObj.frz id sz rows) := fun k => by rw [ATab.get_cons, frzTab_get]
    have hsub : ∀ k o, ATab.get ((id, none) :: frzTab id sz rows tab) k = some o → k ≠ id ∧ ∃ o', tab.get k = some o' ∧ o = o'.frz id sz rows := fun k o hk => by
      rw [ht] at hk
      split at hk
      · cases hk
      · cases hg : tab.get k with
        | none => simp [hg] at hk
        | some o' =>
          simp [hg] at hk
          exact ⟨by assumption, o', rfl, hk.symm⟩
    have hext : Ext cx w tab L nx w ((id, none) :: frzTab id sz rows tab) L := by
      refine ⟨fun _ _ => rfl, fun b hb => ⟨hb.1, hb.2.1, fun k o hk => by obtain ⟨_, o', h1, _⟩ := hsub k o hk; exact hb.2.2 k o' h1⟩, fun k p _ hk => ?_⟩
      unfold Kx at *
      rw [ht] at hk
      split at hk
      · cases hk
      · cases hg : tab.get k with
        | none => simp [hg] at hk
        | some o' =>
          simp [hg, frz_sz] at hk ⊢
          exact hk
    have hob := hL.objs id _ hid
    have hrow : RT w (Sx cx w ((id, none) :: frzTab id sz rows tab) L) (L id) (.sl sz rows) := rt_row hob hext.sub fun g hg => ⟨(hob.ge hg).2, ⟨.inr (hob.ge hg).1, fun hX => (hL.ex g hX).2 id _ hid hg⟩, fun k o hk hg' => by
      obtain ⟨h1, o', h2, _⟩ := hsub k o hk
      exact h1 (hL.sep k id o' _ g h2 hid hg' hg)⟩
    have conv : ∀ x av, RVx cx w tab L x av → av.lt nx → RVx cx w ((id, none) :: frzTab id sz rows tab) L x (av.frz id sz rows) := fun x av hr => by
      induction hr with
      | tree h0 =>
        intro hl
        have e1 : ∀ {x av}, RT w (Sx cx w tab L) x av → av.frz id sz rows = av := fun hh => by
          induction hh with
          | agg xs cs hn hr ih =>
            simp only [AV.frz, frzL_map, AV.agg.injEq]
            apply List.ext_getElem?
            intro j
            rw [List.getElem?_map]
            cases hj : cs[j]? with
            | none => rfl
            | some av =>
              have hlt : j < xs.size := by rw [hn]; exact (List.getElem?_eq_some_iff.1 hj).1
              simp [ih j _ av (Array.getElem?_eq_getElem hlt) hj]
          | tup xs cs hn hr ih =>
            simp only [AV.frz, frzL_map, AV.tup.injEq]
            apply List.ext_getElem?
            intro j
            rw [List.getElem?_map]
            cases hj : cs[j]? with
            | none => rfl
            | some av =>
              have hlt : j < xs.size := by rw [hn]; exact (List.getElem?_eq_some_iff.1 hj).1
              simp [ih j _ av (Array.getElem?_eq_getElem hlt) hj]
          | fn fi xs cs hn hr ih =>
            simp only [AV.frz, frzL_map, AV.fn.injEq, true_and]
            apply List.ext_getElem?
            intro j
            rw [List.getElem?_map]
            cases hj : cs[j]? with
            | none => rfl
            | some av =>
              have hlt : j < xs.size := by rw [hn]; exact (List.getElem?_eq_some_iff.1 hj).1
              simp [ih j _ av (Array.getElem?_eq_getElem hlt) hj]
          | bfn fi xs cs hn hr ih =>
            simp only [AV.frz, frzL_map, AV.bfn.injEq, true_and]
            apply List.ext_getElem?
            intro j
            rw [List.getElem?_map]
            cases hj : cs[j]? with
            | none => rfl
            | some av =>
              have hlt : j < xs.size := by rw [hn]; exact (List.getElem?_eq_some_iff.1 hj).1
              simp [ih j _ av (Array.getElem?_eq_getElem hlt) hj]
          | _ => simp [AV.frz]
        rw [e1 h0]
        exact .tree (hext.rt h0)
      | osl x k hk =>
        intro hl
        simp only [AV.frz]
        split
        · rename_i e1
          subst e1
          rw [hk _ _ (kx_of hid)]
          exact .tree hrow
        · exact hext.rv (.osl x k hk) hl
      | op x k i j hk =>
        intro hl
        exact hext.rv (.op x k i j hk) hl
      | agg xs cs hn hr ih =>
        intro hl
        simp only [AV.frz, frzL_map]
        refine .agg xs _ (by simpa using hn) fun j x av h1 h2 => ?_
        rw [List.getElem?_map] at h2
        cases hj : cs[j]? with
        | none => simp [hj] at h2
        | some av' =>
          simp [hj] at h2
          subst h2
          exact ih j x av' h1 hj (ltL_iff.1 hl _ (List.mem_of_getElem? hj))
      | tup xs cs hn hr ih =>
        intro hl
        simp only [AV.frz, frzL_map]
        refine .tup xs _ (by simpa using hn) fun j x av h1 h2 => ?_
        rw [List.getElem?_map] at h2
        cases hj : cs[j]? with
        | none => simp [hj] at h2
        | some av' =>
          simp [hj] at h2
          subst h2
          exact ih j x av' h1 hj (ltL_iff.1 hl _ (List.mem_of_getElem? hj))
      | fn fi xs cs hn hr ih =>
        intro hl
        simp only [AV.frz, frzL_map]
        refine .fn fi xs _ (by simpa using hn) fun j x av h1 h2 => ?_
        rw [List.getElem?_map] at h2
        cases hj : cs[j]? with
        | none => simp [hj] at h2
        | some av' =>
          simp [hj] at h2
          subst h2
          exact ih j x av' h1 hj (ltL_iff.1 hl _ (List.mem_of_getElem? hj))
      | bfn fi xs cs hn hr ih =>
        intro hl
        simp only [AV.frz, frzL_map]
        refine .bfn fi xs _ (by simpa using hn) fun j x av h1 h2 => ?_
        rw [List.getElem?_map] at h2
        cases hj : cs[j]? with
        | none => simp [hj] at h2
        | some av' =>
          simp [hj] at h2
          subst h2
          exact ih j x av' h1 hj (ltL_iff.1 hl _ (List.mem_of_getElem? hj))
    refine ⟨⟨hL.below, fun k o hk => ?_, fun k k' o o' g h1 h2 => ?_, fun b hb' => ⟨(hL.ex b hb').1, fun k o hk => ?_⟩⟩, conv⟩
    rotate_left 2
    · obtain ⟨_, o', h1, _⟩ := hsub k o hk
      exact (hL.ex b hb').2 k o' h1
    · obtain ⟨_, o', h1, rfl⟩ := hsub k o hk
      have ho := hL.objs k o' h1
      have hlo := hy k o' h1
      cases o' with
      | row e' s r => exact hext.obj ho hlo fun _ _ => rfl
      | box t cells =>
        obtain ⟨g, cs, h2, h3, h4, h5, h6⟩ := ho
        refine ⟨g, cs, h2, h3, h4, by simpa [frzL_map] using h5, fun j x av h7 h8 => ?_⟩
        rw [frzL_map, List.getElem?_map] at h8
        cases hj : cells[j]? with
        | none => simp [hj] at h8
        | some av' =>
          simp [hj] at h8
          subst h8
          exact ⟨conv x av' (h6 j x av' h7 hj).1 (ltL_iff.1 hlo _ (List.mem_of_getElem? hj)), (h6 j x av' h7 hj).2⟩
      | map ents => exact hext.obj (o := .map ents) ho hlo fun _ _ => rfl
      | nest e' s r =>
        obtain ⟨h2, xs, h3, h4, h5⟩ := ho
        refine ⟨fun row hr => ?_, xs, by simpa using h3, h4, fun i j row av h7 h8 => ?_⟩
        · obtain ⟨row', hr', rfl⟩ := List.mem_map.1 hr
          rw [frzL_map, List.length_map]
          exact h2 row' hr'
        · rw [List.getElem?_map] at h7
          cases hi : r[i]? with
          | none => simp [hi] at h7
          | some row' =>
            simp [hi] at h7
            subst h7
            rw [frzL_map, List.getElem?_map] at h8
            cases hj : row'[j]? with
            | none => simp [hj] at h8
            | some av' =>
              simp [hj] at h8
              subst h8
              obtain ⟨x, h9, h10⟩ := h5 i j row' av' hi hj
              exact ⟨x, h9, conv x av' h10 (ltL_iff.1 (hlo row' (List.mem_of_getElem? hi)) _ (List.mem_of_getElem? hj))⟩
      | ghost vs env =>
        refine ⟨ho.1, fun t ht => ?_⟩
        rw [frzEnv_get]
        exact conv _ _ (ho.2 t ht) (envLt_aget hlo t)
    · obtain ⟨_, o1, h3, _⟩ := hsub k o h1
      obtain ⟨_, o2, h4, _⟩ := hsub k' o' h2
      exact hL.sep k k' o1 o2 g h3 h4
theorem envLt_frz {id sz nx : Nat} {rows : List (List AV)} : ∀ {l : List (Nat × AV)}, envLt nx l → envLt nx (frzEnv id sz rows l)
  | [], _ => trivial
  | (_, _) :: _, h => ⟨frz_lt h.1, envLt_frz h.2⟩
theorem frz_obj_lt {id sz nx : Nat} {rows : List (List AV)} {o : AObj} (h : o.lt nx) : (o.frz id sz rows).lt nx := by
  cases o with
  | row => trivial
  | box t cells =>
    show AV.ltL nx _
    rw [frzL_map]
    refine ltL_iff.2 fun a ha => ?_
    obtain ⟨b, hb, rfl⟩ := List.mem_map.1 ha
    exact frz_lt (ltL_iff.1 h b hb)
  | map => trivial
  | nest e s r =>
    intro row hr
    obtain ⟨row', hr', rfl⟩ := List.mem_map.1 hr
    rw [frzL_map]
    refine ltL_iff.2 fun a ha => ?_
    obtain ⟨b, hb, rfl⟩ := List.mem_map.1 ha
    exact frz_lt (ltL_iff.1 (h row' hr') b hb)
  | ghost vs env => exact envLt_frz h
def frzAV (st : ASt) (id : Nat) (av : AV) : AV :=
  match st.tab.get id with
  | some (.row _ sz rows) => av.frz id sz rows
  | _ => av
theorem conc_frz1 (h : Conc cx a w st L) (id : Nat) : Conc cx a w (frz1 st id) L ∧ ∀ x av, RVx cx w st.tab L x av → av.lt st.next → RVx cx w (frz1 st id).tab L x (frzAV st id av) ∧ (frzAV st id av).lt (frz1 st id).next := by
  unfold frz1 frzAV
  split
  · rename_i e sz rows hid
    obtain ⟨h1, h2⟩ := frz_core h.lay (fun k o hk => (h.young k o hk).2) hid
    refine ⟨⟨h1, h.size, h.defers.mono (fun _ _ => rfl) fun b hb => ⟨hb.1, hb.2.1, fun k o hk => ?_⟩, fun k o hk => ?_, fun t => ?_⟩, fun x av h3 h4 => ⟨h2 x av h3 h4, frz_lt h4⟩⟩
    · rw [ATab.get_cons, frzTab_get] at hk
      split at hk
      · cases hk
      · cases hg : st.tab.get k with
        | none => simp [hg] at hk
        | some o' => exact hb.2.2 k o' hg
    · simp only [ATab.get_cons, frzTab_get] at hk
      split at hk
      · cases hk
      · cases hg : st.tab.get k with
        | none => simp [hg] at hk
        | some o' =>
          simp [hg] at hk
          subst hk
          exact ⟨(h.young k o' hg).1, frz_obj_lt (h.young k o' hg).2⟩
    · have e1 : ({ st with env := frzEnv id sz rows st.env, tab := (id, none) :: frzTab id sz rows st.tab } : ASt).get t = (st.get t).frz id sz rows := by
        unfold ASt.get
        simp only
        split
        · exact frzEnv_get ..
        · simp [AV.frz]
      rw [e1]
      exact ⟨h2 _ _ (h.env t).1 (h.env t).2, frz_lt (h.env t).2⟩
  · exact ⟨h, fun x av h1 h2 => ⟨h1, h2⟩⟩
/-- values, those slices being written no more -/
def frzAVs (st : ASt) : List Nat → List AV → List AV
  | [], l => l
  | id :: ids, l => frzAVs (frz1 st id) ids (l.map (frzAV st id))
theorem conc_frzs : ∀ (ids : List Nat) {st : ASt}, Conc cx a w st L → Conc cx a w (frzs st ids) L
  | [], _, h => h
  | id :: ids, _, h => conc_frzs ids (conc_frz1 h id).1
theorem frzAVs_ok : ∀ (ids : List Nat) {st : ASt} {vs : Array Value} {avs : List AV}, Conc cx a w st L → (∀ (j : Nat) (v : Value) (av : AV), vs[j]? = some v → avs[j]? = some av → RVx cx w st.tab L v av ∧ av.lt st.next) →
    (frzAVs st ids avs).length = avs.length ∧ ∀ (j : Nat) (v : Value) (av : AV), vs[j]? = some v → (frzAVs st ids avs)[j]? = some av → RVx cx w (frzs st ids).tab L v av ∧ av.lt (frzs st ids).next
  | [], _, _, _, _, hv => ⟨rfl, hv⟩
  | id :: ids, st, vs, avs, h, hv => by
    have h1 := conc_frz1 h id
    obtain ⟨h2, h3⟩ := frzAVs_ok ids (vs := vs) (avs := avs.map (frzAV st id)) h1.1 fun j v av h4 h5 => by
      rw [List.getElem?_map] at h5
      cases hj : avs[j]? with
      | none => simp [hj] at h5
      | some av' =>
        simp [hj] at h5
        subst h5
        exact h1.2 v av' (hv j v av' h4 hj).1 (hv j v av' h4 hj).2
    exact ⟨by rw [frzAVs, h2, List.length_map], h3⟩

/-! ### a literal of a slice, each element told -/
/-- it names no object of the call's own, or is a closure that names none -/
def treeM : AV → Prop
  | .fn _ cs => treeL cs
  | .bfn _ cs => treeL cs
  | a => treeC a
def treeML : List AV → Prop
  | [] => True
  | a :: l => treeM a ∧ treeML l
theorem treeML_mem : ∀ {l : List AV} {a : AV}, treeML l → a ∈ l → treeM a
  | b :: l, a, h, hm => (List.mem_cons.1 hm).elim (fun e => e ▸ h.1) fun h2 => treeML_mem h.2 h2
theorem treeM_c {v : Value} : treeM (.c v) = True := rfl
theorem treeM_sl {sz : Nat} {rows : List (List AV)} : treeM (.sl sz rows) = True := rfl
theorem treeM_rp {cs : List AV} : treeM (.rp cs) = True := rfl
theorem treeM_any : treeM .any = True := rfl
theorem treeM_fn {f : FuncId} {cs : List AV} : treeM (.fn f cs) = treeL cs := rfl
theorem treeM_bfn {f : FuncId} {cs : List AV} : treeM (.bfn f cs) = treeL cs := rfl
theorem treeM_of {x : Value} {av : AV} (h : RVx cx w tab L x av) (ht : treeM av) : RT w (Sx cx w tab L) x av := by
  cases av with
  | fn f cs =>
    obtain ⟨xs, rfl, hn, hr⟩ := h.fn_inv
    exact .fn f xs cs hn fun j x av h1 h2 => tree_of (hr j x av h1 h2) (treeL_iff.1 ht _ (List.mem_of_getElem? h2))
  | bfn f cs =>
    obtain ⟨xs, rfl, hn, hr⟩ := h.bfn_inv
    exact .bfn f xs cs hn fun j x av h1 h2 => tree_of (hr j x av h1 h2) (treeL_iff.1 ht _ (List.mem_of_getElem? h2))
  | _ => exact tree_of h ht
def aLit (tab : ATab) (sz : Nat) : List AV → Prop
  | [] => True
  | x :: l => (aCells x).length = sz ∧ oneCL tab (aCells x) ∧ treeML (aCells x) ∧ aLit tab sz l
theorem aLit_iff {sz : Nat} : ∀ {l : List AV}, aLit tab sz l ↔ ∀ x ∈ l, (aCells x).length = sz ∧ oneCL tab (aCells x) ∧ treeML (aCells x)
  | [] => by simp [aLit]
  | x :: l => by simp [aLit, aLit_iff (l := l), and_assoc]
theorem buildSlice_ok {t e sz by_ : Nat} {parts : List (Nat × Operand)} (h : Conc cx a w st L) (ht : tyRow P t = some (e, sz, by_)) (hp : parts.map (·.1) = List.range' 0 parts.length) (hlen : parts.length * sz ≤ 16777216)
    (hl : aLit st.tab sz (parts.map fun p => aEv st p.2)) (dst : Option Nat) :
    ∃ v' w' L', (Instr.buildSlice t parts.length (parts.toArray.map fun (p : Nat × Operand) => (p.1, a.eval p.2))).run P w = .ok v' w' ∧
      Conc cx (a.put dst v') w' ({ st with tab := (st.next, some (.row e sz (parts.map fun (p : Nat × Operand) => aCells (aEv st p.2)))) :: st.tab, next := st.next + 1 }.put dst (.osl st.next)) L' ∧
      Below w.heap.size w w' ∧ L' = updL L st.next v' ∧ vblk v' = some w.heap.size := by
  obtain ⟨i, z, hund, hi, hz, hs, hb, hzs, hsz⟩ := tyRow_some ht
  have hl' := aLit_iff.1 hl
  have hcell : ∀ p ∈ parts, (a.eval p.2).cells.size = sz ∧ ∀ (j : Nat) (x : Value) (av : AV), (a.eval p.2).cells[j]? = some x → (aCells (aEv st p.2))[j]? = some av → RVx cx w st.tab L x av ∧ x.oneCell' = true := fun p hp' => by
    have hm := hl' (aEv st p.2) (List.mem_map.2 ⟨p, hp', rfl⟩)
    have he := eval_ok h p.2
    have := cells_ok h.lay he.1 he.2 hm.2.1
    exact ⟨this.1.trans hm.1, this.2.2⟩
  obtain ⟨c, hc1, hc2⟩ := fill_all sz (parts.map fun p => (p.1, a.eval p.2)) 0 ((Array.range (parts.length * sz)).map (z.cells[· % z.cells.size]!)) (by simpa [List.map_map, Function.comp_def] using hp) (fun p hp' => by
    simp at hp'
    obtain ⟨i', o', hio, rfl⟩ := hp'
    exact (hcell _ hio).1) (by simp)
  simp only [Nat.zero_mul, List.take_zero, List.nil_append, List.flatMap_map] at hc2
  have hrun : (Instr.buildSlice t parts.length (parts.toArray.map fun (p : Nat × Operand) => (p.1, a.eval p.2))).run P w = .ok (.slice (some ⟨w.heap.size, 0, none⟩) parts.length parts.length) (w.alloc (.cells c e)) := by
    have hnb : ¬ (2 ^ 24 < parts.length * sz) := by omega
    rcases Nat.eq_zero_or_pos parts.length with h0 | hpos
    · have : parts = [] := List.length_eq_zero_iff.1 h0
      subst this
      have hce : c = #[] := by
        rw [List.flatMap_nil] at hc2
        exact Array.toList_eq_nil_iff.1 hc2
      subst hce
      simp [Instr.buildSlice, Sem.run_bind, run_underlying hund, sizeOf, typeInfo, hi, newRow, Instr.fill]
      congr 2
      exact Array.eq_empty_of_size_eq_zero (by simp)
    have hne : ¬ parts.length * sz = 0 := by
      intro e
      rcases Nat.mul_eq_zero.1 e with e | e <;> omega
    simp [Instr.buildSlice, Sem.run_bind, run_underlying hund, sizeOf, typeInfo, hi, hs, hne, zeroValue, hz, newRow]
    rw [if_neg (by omega)]
    simp [hzs] at hc1
    simp [hzs, hc1]
  have hflat : ∀ (i j : Nat) (hi' : i < parts.length), j < sz → c[i * sz + j]? = (a.eval parts[i].2).cells[j]? := fun i j hi' hj => by
    have := flat_get (fun p : Nat × Operand => (a.eval p.2).cells.toList) sz parts (fun p hp' => by simpa using (hcell p hp').1) i j hi' hj
    rw [← Array.getElem?_toList, hc2, this]
    simp
  have hcs : c.size = parts.length * sz := by
    rw [← Array.length_toList, hc2]
    exact flat_len _ _ _ fun p hp' => by simpa using (hcell p hp').1
  have hrl : (parts.map fun p => aCells (aEv st p.2)).length = parts.length := by simp
  suffices hs : Conc cx (a.put dst (.slice (some ⟨w.heap.size, 0, none⟩) (parts.map fun (p : Nat × Operand) => aCells (aEv st p.2)).length (parts.map fun (p : Nat × Operand) => aCells (aEv st p.2)).length)) (w.alloc (.cells c e)) ({ st with tab := (st.next, some (.row e sz (parts.map fun (p : Nat × Operand) => aCells (aEv st p.2)))) :: st.tab, next := st.next + 1 }.put dst (.osl st.next)) (updL L st.next (.slice (some ⟨w.heap.size, 0, none⟩) (parts.map fun (p : Nat × Operand) => aCells (aEv st p.2)).length (parts.map fun (p : Nat × Operand) => aCells (aEv st p.2)).length)) by
    rw [hrl] at hs
    exact ⟨_, _, _, hrun, hs, (Below.refl _ _).alloc (Nat.le_refl _) _, rfl, rfl⟩
  refine conc_row (t := t) (by_ := by_) h hsz (fun row hr => ?_) (by rw [hrl]; exact hcs) (by rw [hrl]; have : parts.length ≤ parts.length * sz := Nat.le_mul_of_pos_right _ hsz; omega) (fun x hx => ?_) (fun i j row av ha hb => ?_) dst
  · obtain ⟨p, hp', rfl⟩ := List.mem_map.1 hr
    exact (hl' _ (List.mem_map.2 ⟨p, hp', rfl⟩)).1
  · rw [← Array.mem_toList_iff, hc2] at hx
    obtain ⟨p, hp', hx⟩ := List.mem_flatMap.1 hx
    obtain ⟨k, hk, rfl⟩ := List.getElem_of_mem hx
    have hsz' := hcell p hp'
    have hk' : k < (aCells (aEv st p.2)).length := by
      rw [(hl' _ (List.mem_map.2 ⟨p, hp', rfl⟩)).1]
      simp at hk
      omega
    simp at hk
    exact (hsz'.2 k _ _ (Array.getElem?_eq_getElem hk) (List.getElem?_eq_getElem hk')).2
  · rw [List.getElem?_map] at ha
    have hi' : i < parts.length := by
      rcases Nat.lt_or_ge i parts.length with hlt | hge
      · exact hlt
      · rw [List.getElem?_eq_none hge] at ha; cases ha
    rw [List.getElem?_eq_getElem hi'] at ha
    simp only [Option.map_some, Option.some.injEq] at ha
    subst ha
    have hm := hl' _ (List.mem_map.2 ⟨_, List.getElem_mem hi', rfl⟩)
    have hj : j < sz := by rw [← hm.1]; exact (List.getElem?_eq_some_iff.1 hb).1
    have hc := hcell _ (List.getElem_mem hi')
    have hjc : j < (a.eval parts[i].2).cells.size := by omega
    exact ⟨_, by rw [hflat i j hi' hj]; exact Array.getElem?_eq_getElem hjc, treeM_of (hc.2 j _ _ (Array.getElem?_eq_getElem hjc) hb).1 (treeML_mem hm.2.2 (List.mem_of_getElem? hb))⟩
/-- a literal whose cells may name the call's own -/
def aLitN (tab : ATab) (sz : Nat) : List AV → Prop
  | [] => True
  | x :: l => (aCells x).length = sz ∧ oneCL tab (aCells x) ∧ aLitN tab sz l
theorem aLitN_iff {sz : Nat} : ∀ {l : List AV}, aLitN tab sz l ↔ ∀ x ∈ l, (aCells x).length = sz ∧ oneCL tab (aCells x)
  | [] => by simp [aLitN]
  | x :: l => by simp [aLitN, aLitN_iff (l := l), and_assoc]
theorem buildN_ok {t e sz by_ : Nat} {parts : List (Nat × Operand)} (h : Conc cx a w st L) (ht : tyRow P t = some (e, sz, by_)) (hp : parts.map (·.1) = List.range' 0 parts.length) (hlen : parts.length * sz ≤ 16777216)
    (hl : aLitN st.tab sz (parts.map fun p => aEv st p.2)) (dst : Option Nat) :
    ∃ v' w' L', (Instr.buildSlice t parts.length (parts.toArray.map fun (p : Nat × Operand) => (p.1, a.eval p.2))).run P w = .ok v' w' ∧
      Conc cx (a.put dst v') w' ({ st with tab := (st.next, some (.nest e sz (parts.map fun (p : Nat × Operand) => aCells (aEv st p.2)))) :: st.tab, next := st.next + 1 }.put dst (.osl st.next)) L' ∧
      Below w.heap.size w w' ∧ L' = updL L st.next v' ∧ vblk v' = some w.heap.size := by
  obtain ⟨i, z, hund, hi, hz, hs, hb, hzs, hsz⟩ := tyRow_some ht
  have hl' := aLitN_iff.1 hl
  have hcell : ∀ p ∈ parts, (a.eval p.2).cells.size = sz ∧ ∀ (j : Nat) (x : Value) (av : AV), (a.eval p.2).cells[j]? = some x → (aCells (aEv st p.2))[j]? = some av → RVx cx w st.tab L x av ∧ x.oneCell' = true := fun p hp' => by
    have hm := hl' (aEv st p.2) (List.mem_map.2 ⟨p, hp', rfl⟩)
    have he := eval_ok h p.2
    have := cells_ok h.lay he.1 he.2 hm.2
    exact ⟨this.1.trans hm.1, this.2.2⟩
  have hltp : ∀ p ∈ parts, AV.ltL st.next (aCells (aEv st p.2)) := fun p hp' => by
    have hm := hl' (aEv st p.2) (List.mem_map.2 ⟨p, hp', rfl⟩)
    have he := eval_ok h p.2
    exact (cells_ok h.lay he.1 he.2 hm.2).2.1
  obtain ⟨c, hc1, hc2⟩ := fill_all sz (parts.map fun p => (p.1, a.eval p.2)) 0 ((Array.range (parts.length * sz)).map (z.cells[· % z.cells.size]!)) (by simpa [List.map_map, Function.comp_def] using hp) (fun p hp' => by
    simp at hp'
    obtain ⟨i', o', hio, rfl⟩ := hp'
    exact (hcell _ hio).1) (by simp)
  simp only [Nat.zero_mul, List.take_zero, List.nil_append, List.flatMap_map] at hc2
  have hrun : (Instr.buildSlice t parts.length (parts.toArray.map fun (p : Nat × Operand) => (p.1, a.eval p.2))).run P w = .ok (.slice (some ⟨w.heap.size, 0, none⟩) parts.length parts.length) (w.alloc (.cells c e)) := by
    have hnb : ¬ (2 ^ 24 < parts.length * sz) := by omega
    rcases Nat.eq_zero_or_pos parts.length with h0 | hpos
    · have : parts = [] := List.length_eq_zero_iff.1 h0
      subst this
      have hce : c = #[] := by
        rw [List.flatMap_nil] at hc2
        exact Array.toList_eq_nil_iff.1 hc2
      subst hce
      simp [Instr.buildSlice, Sem.run_bind, run_underlying hund, sizeOf, typeInfo, hi, newRow, Instr.fill]
      congr 2
      exact Array.eq_empty_of_size_eq_zero (by simp)
    have hne : ¬ parts.length * sz = 0 := by
      intro e
      rcases Nat.mul_eq_zero.1 e with e | e <;> omega
    simp [Instr.buildSlice, Sem.run_bind, run_underlying hund, sizeOf, typeInfo, hi, hs, hne, zeroValue, hz, newRow]
    rw [if_neg (by omega)]
    simp [hzs] at hc1
    simp [hzs, hc1]
  have hflat : ∀ (i j : Nat) (hi' : i < parts.length), j < sz → c[i * sz + j]? = (a.eval parts[i].2).cells[j]? := fun i j hi' hj => by
    have := flat_get (fun p : Nat × Operand => (a.eval p.2).cells.toList) sz parts (fun p hp' => by simpa using (hcell p hp').1) i j hi' hj
    rw [← Array.getElem?_toList, hc2, this]
    simp
  have hcs : c.size = parts.length * sz := by
    rw [← Array.length_toList, hc2]
    exact flat_len _ _ _ fun p hp' => by simpa using (hcell p hp').1
  have hrl : (parts.map fun p => aCells (aEv st p.2)).length = parts.length := by simp
  suffices hs : Conc cx (a.put dst (.slice (some ⟨w.heap.size, 0, none⟩) (parts.map fun (p : Nat × Operand) => aCells (aEv st p.2)).length (parts.map fun (p : Nat × Operand) => aCells (aEv st p.2)).length)) (w.alloc (.cells c e)) ({ st with tab := (st.next, some (.nest e sz (parts.map fun (p : Nat × Operand) => aCells (aEv st p.2)))) :: st.tab, next := st.next + 1 }.put dst (.osl st.next)) (updL L st.next (.slice (some ⟨w.heap.size, 0, none⟩) (parts.map fun (p : Nat × Operand) => aCells (aEv st p.2)).length (parts.map fun (p : Nat × Operand) => aCells (aEv st p.2)).length)) by
    rw [hrl] at hs
    exact ⟨_, _, _, hrun, hs, (Below.refl _ _).alloc (Nat.le_refl _) _, rfl, rfl⟩
  refine conc_nest (t := t) (by_ := by_) h hsz (fun row hr => ?_) (by rw [hrl]; exact hcs) (by rw [hrl]; have : parts.length ≤ parts.length * sz := Nat.le_mul_of_pos_right _ hsz; omega) (fun x hx => ?_) (fun i j row av ha hb => ?_) (fun row hr => by
    obtain ⟨p, hp', rfl⟩ := List.mem_map.1 hr
    exact hltp p hp') dst
  · obtain ⟨p, hp', rfl⟩ := List.mem_map.1 hr
    exact (hl' _ (List.mem_map.2 ⟨p, hp', rfl⟩)).1
  · rw [← Array.mem_toList_iff, hc2] at hx
    obtain ⟨p, hp', hx⟩ := List.mem_flatMap.1 hx
    obtain ⟨k, hk, rfl⟩ := List.getElem_of_mem hx
    have hsz' := hcell p hp'
    have hk' : k < (aCells (aEv st p.2)).length := by
      rw [(hl' _ (List.mem_map.2 ⟨p, hp', rfl⟩)).1]
      simp at hk
      omega
    simp at hk
    exact (hsz'.2 k _ _ (Array.getElem?_eq_getElem hk) (List.getElem?_eq_getElem hk')).2
  · rw [List.getElem?_map] at ha
    have hi' : i < parts.length := by
      rcases Nat.lt_or_ge i parts.length with hlt | hge
      · exact hlt
      · rw [List.getElem?_eq_none hge] at ha; cases ha
    rw [List.getElem?_eq_getElem hi'] at ha
    simp only [Option.map_some, Option.some.injEq] at ha
    subst ha
    have hm := hl' _ (List.mem_map.2 ⟨_, List.getElem_mem hi', rfl⟩)
    have hj : j < sz := by rw [← hm.1]; exact (List.getElem?_eq_some_iff.1 hb).1
    have hc := hcell _ (List.getElem_mem hi')
    have hjc : j < (a.eval parts[i].2).cells.size := by omega
    exact ⟨_, by rw [hflat i j hi' hj]; exact Array.getElem?_eq_getElem hjc, (hc.2 j _ _ (Array.getElem?_eq_getElem hjc) hb).1⟩
/-! ### make -/
theorem made_get (z : Array Value) (n k : Nat) (h : k < n) : (madeCells z n)[k]? = some (z[k % z.size]!) := by
  simp [madeCells, h]
theorem conc_mk (b : Bool) {t e sz by_ : Nat} (h : Conc cx a w st L) (h0 : 0 < sz) {cells : Array Value} {rows : List (List AV)} (hr : ∀ row ∈ rows, row.length = sz) (hn : cells.size = rows.length * sz) (hm : rows.length ≤ 9223372036854775807) (h1 : ∀ x ∈ cells, x.oneCell' = true)
    (hx : ∀ (i j : Nat) (row : List AV) (av : AV), rows[i]? = some row → row[j]? = some av → ∃ x, cells[i * sz + j]? = some x ∧ RT w (Sx cx w st.tab L) x av) (dst : Option Nat) :
    Conc cx (a.put dst (.slice (some ⟨w.heap.size, 0, none⟩) rows.length rows.length)) (w.alloc (.cells cells e)) ({ st with tab := (st.next, some (mkO b e sz rows)) :: st.tab, next := st.next + 1 }.put dst (.osl st.next)) (updL L st.next (.slice (some ⟨w.heap.size, 0, none⟩) rows.length rows.length)) := by
  cases b with
  | false => exact conc_row (t := t) (by_ := by_) h h0 hr hn hm h1 hx dst
  | true => exact conc_nest (t := t) (by_ := by_) h h0 hr hn hm h1 (fun i j row av ha hb => (hx i j row av ha hb).elim fun x hx => ⟨x, hx.1, .tree hx.2⟩) (fun row hr' => ltL_iff.2 fun av ha => by
      obtain ⟨i, hi⟩ := List.getElem?_of_mem hr'
      obtain ⟨j, hj⟩ := List.getElem?_of_mem ha
      obtain ⟨x, _, hx⟩ := hx i j row av hi hj
      exact hx.lt _) dst
theorem make_ok {t e sz by_ : Nat} {z : Value} {n : Int} {k1 k2 : IntKind} (h : Conc cx a w st L) (ht : tyRow P t = some (e, sz, by_)) (hz : tyZero P e = some z) (h1 : oneCL [] (aCells (.c z))) (h0 : 0 ≤ n) (hn : n ≤ 16777216) (hb : (by_ : Int) * n ≤ 281474976710656) (dst : Option Nat) :
    ∃ v' w' L', (Instr.makeSlice t (.int k1 n) (.int k2 n)).run P w = .ok v' w' ∧
      Conc cx (a.put dst v') w' ({ st with tab := (st.next, some (mkO (isMk t) e sz (List.replicate n.toNat (aCells (.c z))))) :: st.tab, next := st.next + 1 }.put dst (.osl st.next)) L' ∧ Below w.heap.size w w' ∧ L' = updL L st.next v' ∧ vblk v' = some w.heap.size := by
  obtain ⟨i, z', hund, hi, hz', hs, hby, hzs, hsz⟩ := tyRow_some ht
  have : z' = z := by simpa [tyZero, hi, hz'] using hz
  subst this
  have hrun := run_make (P := P) w t e i z' hund hi hz' k1 k2 n n h0 (Int.le_refl _) (by rw [hby]; exact hb) (by omega)
  have hcl : (aCells (.c z')).length = sz := by simp [aCells, hzs]
  have hrl : (List.replicate n.toNat (aCells (.c z'))).length = n.toNat := by simp
  suffices hs2 : Conc cx (a.put dst (.slice (some ⟨w.heap.size, 0, none⟩) (List.replicate n.toNat (aCells (.c z'))).length (List.replicate n.toNat (aCells (.c z'))).length)) (w.alloc (.cells (madeCells z'.cells (n.toNat * i.size)) e)) ({ st with tab := (st.next, some (mkO (isMk t) e sz (List.replicate n.toNat (aCells (.c z'))))) :: st.tab, next := st.next + 1 }.put dst (.osl st.next)) (updL L st.next (.slice (some ⟨w.heap.size, 0, none⟩) (List.replicate n.toNat (aCells (.c z'))).length (List.replicate n.toNat (aCells (.c z'))).length)) by
    rw [hrl] at hs2
    exact ⟨_, _, _, hrun, hs2, (Below.refl _ _).alloc (Nat.le_refl _) _, rfl, rfl⟩
  have hzone : ∀ k, k < sz → (z'.cells[k]!).oneCell' = true := fun k hk => by
    have hk' : k < z'.cells.size := by omega
    have := oneCL_iff.1 h1 (.c z'.cells[k]) (List.mem_map.2 ⟨z'.cells[k], by simp, rfl⟩)
    rw [getElem!_pos z'.cells k hk']
    exact this
  refine conc_mk (isMk t) (t := t) (by_ := by_) h hsz (fun row hr => ?_) (by rw [hrl, size_madeCells, hs]) (by rw [hrl]; omega) (fun x hx => ?_) (fun i' j row av ha hb => ?_) dst
  · rw [List.eq_of_mem_replicate hr, hcl]
  · obtain ⟨k, hk, rfl⟩ := Array.getElem_of_mem hx
    have hk' : k < n.toNat * i.size := by simpa [size_madeCells] using hk
    have := made_get z'.cells (n.toNat * i.size) k hk'
    rw [Array.getElem?_eq_getElem hk] at this
    rw [Option.some.inj this]
    exact hzone _ (by rw [hzs]; exact Nat.mod_lt _ hsz)
  · have hi' : i' < n.toNat := by
      have := (List.getElem?_eq_some_iff.1 ha).1
      simpa using this
    rw [List.getElem?_replicate, if_pos hi'] at ha
    cases ha
    have hj : j < sz := by rw [← hcl]; exact (List.getElem?_eq_some_iff.1 hb).1
    have hlt : i' * sz + j < n.toNat * sz := by
      have := Nat.mul_le_mul_right sz (show i' + 1 ≤ n.toNat from hi')
      rw [Nat.add_mul] at this
      omega
    have e2 : (i' * sz + j) % sz = j := by rw [Nat.add_comm, Nat.add_mul_mod_self_right, Nat.mod_eq_of_lt hj]
    refine ⟨_, by rw [hs]; exact made_get _ _ _ hlt, ?_⟩
    rw [hzs, e2]
    have hj' : j < z'.cells.size := by omega
    simp only [aCells, List.getElem?_map, Array.getElem?_toList, Array.getElem?_eq_getElem hj', Option.map_some, Option.some.injEq] at hb
    subst hb
    rw [getElem!_pos z'.cells j hj']
    exact .c _

/-! ### a store into a slice of its own -/
theorem store_row_ok {t e sz : Nat} {p v : Value} {id i j : Nat} {rows : List (List AV)} {av : AV} (h : Conc cx a w st L) (hp : RVx cx w st.tab L p (.op id i j)) (hid : st.tab.get id = some (.row e sz rows)) (hv : RVx cx w st.tab L v av) (hl : av.lt st.next)
    (hi : i < rows.length) (h0 : 0 < tySize P t) (hs : (aCells av).length = tySize P t) (ho : j + tySize P t ≤ sz) (h1 : oneCL st.tab (aCells av)) (h2 : treeL (aCells av)) (dst : Option Nat) :
    ∃ w', (Instr.storeAt t p v).run P w = .ok () w' ∧ Conc cx (a.put dst undef) w' ({ st with tab := (id, some (.row e sz (rows.set i ((rows[i]?.getD []).take j ++ aCells av ++ (rows[i]?.getD []).drop (j + tySize P t))))) :: st.tab }.put dst .any) L ∧
      w'.heap.size = w.heap.size ∧ ∀ k, vblk (L id) ≠ some k → w'.heap[k]? = w.heap[k]? := by
  obtain ⟨hn, hlt, hc⟩ := cells_ok h.lay hv hl h1
  obtain ⟨g, hg, rfl⟩ := hp.op_inv _ _ (kx_of hid)
  obtain ⟨hrow, xs, hown, hone, hx⟩ := h.lay.objs id _ hid
  simp only [AObj.sz] at hg ⊢
  rw [List.getElem?_eq_getElem hi, Option.getD_some]
  have hri : rows[i].length = sz := hrow _ (List.getElem_mem hi)
  rcases hown.2 with ⟨hL, hz⟩ | ⟨g', cap, cur, hL, hbg, hheap, hcap, hcm, hcs, htake⟩
  · omega
  have hgg : g = g' := by
    rw [hL] at hg
    simpa [vblk] using hg.symm
  subst hgg
  have hmul : i * sz + sz ≤ rows.length * sz := by
    have := Nat.mul_le_mul_right sz (show i + 1 ≤ rows.length from hi)
    rw [Nat.add_mul] at this
    omega
  have hcapm : rows.length * sz ≤ cap * sz := Nat.mul_le_mul_right _ hcap
  have hvl : v.cells.toList.length = tySize P t := by simp [hn, hs]
  have hget := splice_get cur.toList (i * sz + j) v.cells.toList (by simp only [Array.length_toList]; omega)
  rw [hvl] at hget
  refine ⟨_, run_storeAt' h0 (by omega) hheap (by omega) (fun x hx' => ?_), ?_, by simp, fun k hk => setRow_other w g k _ fun e => hk (by rw [e]; exact hg)⟩
  · obtain ⟨k, hk, rfl⟩ := Array.getElem_of_mem hx'
    have hk' : k < (aCells av).length := by omega
    exact (hc k _ _ (Array.getElem?_eq_getElem hk) (List.getElem?_eq_getElem hk')).2
  have hxs : ∀ k, k < rows.length * sz → xs[k]? = cur.toList[k]? := fun k hk => by
    rw [← htake, List.getElem?_take, if_pos hk]
  have hrl : (rows[i].take j ++ aCells av ++ rows[i].drop (j + tySize P t)).length = sz := by
    simp only [List.length_append, List.length_take, List.length_drop]
    omega
  refine conc_upd (o' := .row e sz (rows.set i (rows[i].take j ++ aCells av ++ rows[i].drop (j + tySize P t)))) h hid hg rfl (fun k hk => setRow_other w g k _ hk) ?_ (by simp) (fun hext => ⟨fun row hr => ?_, (cur.toList.take (i * sz + j) ++ v.cells.toList ++ cur.toList.drop (i * sz + j + tySize P t)).take (rows.length * sz), ?_, fun x hx' => ?_, fun i' j' row av' h3 h4 => ?_⟩) trivial dst
  · exact ⟨h.lay.below.os, h.lay.below.tape, h.lay.below.output, by simpa using h.lay.below.size, fun k hk hX => (setRow_other w g k _ (by omega)).trans (h.lay.below.block k hk hX)⟩
  · rcases List.mem_or_eq_of_mem_set hr with hr | rfl
    · exact hrow row hr
    · exact hrl
  · rw [List.length_set]
    refine ⟨?_, .inr ⟨g, cap, _, hL, hbg, setRow_heap w g cur _ e (0, 0) hheap, hcap, hcm, ?_, rfl⟩⟩
    · simp only [List.length_take, List.length_append, List.length_drop, Array.length_toList, hn, hs]
      omega
    · simp only [List.size_toArray, List.length_append, List.length_take, List.length_drop, Array.length_toList, hn, hs]
      omega
  · obtain ⟨k, hk⟩ := List.getElem?_of_mem hx'
    rw [List.getElem?_take] at hk
    split at hk
    · rename_i hkl
      rw [hget] at hk
      split at hk
      · rename_i hr
        have hk' : k - (i * sz + j) < (aCells av).length := by omega
        exact (hc _ x _ (by simpa using hk) (List.getElem?_eq_getElem hk')).2
      · exact hone x (List.mem_of_getElem? ((hxs k hkl).trans hk))
    · cases hk
  · rw [List.getElem?_set] at h3
    split at h3
    · rename_i e1
      subst e1
      first | rw [if_pos hi] at h3 | skip
      cases h3
      have hj' : j' < sz := by rw [← hrl]; exact (List.getElem?_eq_some_iff.1 h4).1
      have h4' := splice_get rows[i] j (aCells av) (by omega) j'
      rw [hs] at h4'
      rw [h4'] at h4
      have hki : i * sz + j' < rows.length * sz := by omega
      rw [List.getElem?_take, if_pos hki, hget]
      split at h4
      · rename_i hr
        rw [if_pos (by omega)]
        rw [show i * sz + j' - (i * sz + j) = j' - j by omega]
        have hk' : j' - j < v.cells.size := by omega
        refine ⟨v.cells[j' - j], by simp [hk'], hext.rt (tree_of (hc _ _ av' (Array.getElem?_eq_getElem hk') h4).1 (treeL_iff.1 h2 _ (List.mem_of_getElem? h4)))⟩
      · rename_i hr
        rw [if_neg (by omega)]
        obtain ⟨x, hx1, hx2⟩ := hx i j' _ av' (List.getElem?_eq_getElem hi) h4
        exact ⟨x, by rw [← hxs _ hki]; exact hx1, hext.rt hx2⟩
    · rename_i hne
      have hi2 : i' < rows.length := (List.getElem?_eq_some_iff.1 h3).1
      have hj' : j' < sz := by rw [← hrow row (List.mem_of_getElem? h3)]; exact (List.getElem?_eq_some_iff.1 h4).1
      have hki : i' * sz + j' < rows.length * sz := by
        have := Nat.mul_le_mul_right sz (show i' + 1 ≤ rows.length from hi2)
        rw [Nat.add_mul] at this
        omega
      obtain ⟨x, hx1, hx2⟩ := hx i' j' row av' h3 h4
      refine ⟨x, ?_, hext.rt hx2⟩
      rw [List.getElem?_take, if_pos hki, hget, if_neg, ← hxs _ hki]
      · exact hx1
      · intro hr
        rcases Nat.lt_trichotomy i i' with hlt' | he | hlt'
        · have := Nat.mul_le_mul_right sz (show i + 1 ≤ i' from hlt')
          rw [Nat.add_mul] at this
          omega
        · exact hne he
        · have := Nat.mul_le_mul_right sz (show i' + 1 ≤ i from hlt')
          rw [Nat.add_mul] at this
          omega
theorem store_nest_ok {t e sz : Nat} {p v : Value} {id i j : Nat} {rows : List (List AV)} {av : AV} (h : Conc cx a w st L) (hp : RVx cx w st.tab L p (.op id i j)) (hid : st.tab.get id = some (.nest e sz rows)) (hv : RVx cx w st.tab L v av) (hl : av.lt st.next)
    (hi : i < rows.length) (h0 : 0 < tySize P t) (hs : (aCells av).length = tySize P t) (ho : j + tySize P t ≤ sz) (h1 : oneCL st.tab (aCells av)) (dst : Option Nat) :
    ∃ w', (Instr.storeAt t p v).run P w = .ok () w' ∧ Conc cx (a.put dst undef) w' ({ st with tab := (id, some (.nest e sz (rows.set i ((rows[i]?.getD []).take j ++ aCells av ++ (rows[i]?.getD []).drop (j + tySize P t))))) :: st.tab }.put dst .any) L ∧
      w'.heap.size = w.heap.size ∧ ∀ k, vblk (L id) ≠ some k → w'.heap[k]? = w.heap[k]? := by
  obtain ⟨hn, hlt, hc⟩ := cells_ok h.lay hv hl h1
  obtain ⟨g, hg, rfl⟩ := hp.op_inv _ _ (kx_of hid)
  have hyl : ∀ row ∈ rows, AV.ltL st.next row := (h.young id _ hid).2
  obtain ⟨hrow, xs, hown, hone, hx⟩ := h.lay.objs id _ hid
  simp only [AObj.sz] at hg ⊢
  rw [List.getElem?_eq_getElem hi, Option.getD_some]
  have hri : rows[i].length = sz := hrow _ (List.getElem_mem hi)
  rcases hown.2 with ⟨hL, hz⟩ | ⟨g', cap, cur, hL, hbg, hheap, hcap, hcm, hcs, htake⟩
  · omega
  have hgg : g = g' := by
    rw [hL] at hg
    simpa [vblk] using hg.symm
  subst hgg
  have hmul : i * sz + sz ≤ rows.length * sz := by
    have := Nat.mul_le_mul_right sz (show i + 1 ≤ rows.length from hi)
    rw [Nat.add_mul] at this
    omega
  have hcapm : rows.length * sz ≤ cap * sz := Nat.mul_le_mul_right _ hcap
  have hvl : v.cells.toList.length = tySize P t := by simp [hn, hs]
  have hget := splice_get cur.toList (i * sz + j) v.cells.toList (by simp only [Array.length_toList]; omega)
  rw [hvl] at hget
  refine ⟨_, run_storeAt' h0 (by omega) hheap (by omega) (fun x hx' => ?_), ?_, by simp, fun k hk => setRow_other w g k _ fun e => hk (by rw [e]; exact hg)⟩
  · obtain ⟨k, hk, rfl⟩ := Array.getElem_of_mem hx'
    have hk' : k < (aCells av).length := by omega
    exact (hc k _ _ (Array.getElem?_eq_getElem hk) (List.getElem?_eq_getElem hk')).2
  have hxs : ∀ k, k < rows.length * sz → xs[k]? = cur.toList[k]? := fun k hk => by
    rw [← htake, List.getElem?_take, if_pos hk]
  have hrl : (rows[i].take j ++ aCells av ++ rows[i].drop (j + tySize P t)).length = sz := by
    simp only [List.length_append, List.length_take, List.length_drop]
    omega
  refine conc_upd (o' := .nest e sz (rows.set i (rows[i].take j ++ aCells av ++ rows[i].drop (j + tySize P t)))) h hid hg rfl (fun k hk => setRow_other w g k _ hk) ?_ (by simp) (fun hext => ⟨fun row hr => ?_, (cur.toList.take (i * sz + j) ++ v.cells.toList ++ cur.toList.drop (i * sz + j + tySize P t)).take (rows.length * sz), ?_, fun x hx' => ?_, fun i' j' row av' h3 h4 => ?_⟩) (fun row hr => by
    rcases List.mem_or_eq_of_mem_set hr with hr | rfl
    · exact hyl row hr
    · have hyi := hyl _ (List.getElem_mem hi)
      refine ltL_iff.2 fun x hx => ?_
      rcases List.mem_append.1 hx with hx | hx
      · rcases List.mem_append.1 hx with hx | hx
        · exact ltL_iff.1 hyi x (List.mem_of_mem_take hx)
        · exact ltL_iff.1 hlt x hx
      · exact ltL_iff.1 hyi x (List.mem_of_mem_drop hx)) dst
  · exact ⟨h.lay.below.os, h.lay.below.tape, h.lay.below.output, by simpa using h.lay.below.size, fun k hk hX => (setRow_other w g k _ (by omega)).trans (h.lay.below.block k hk hX)⟩
  · rcases List.mem_or_eq_of_mem_set hr with hr | rfl
    · exact hrow row hr
    · exact hrl
  · rw [List.length_set]
    refine ⟨?_, .inr ⟨g, cap, _, hL, hbg, setRow_heap w g cur _ e (0, 0) hheap, hcap, hcm, ?_, rfl⟩⟩
    · simp only [List.length_take, List.length_append, List.length_drop, Array.length_toList, hn, hs]
      omega
    · simp only [List.size_toArray, List.length_append, List.length_take, List.length_drop, Array.length_toList, hn, hs]
      omega
  · obtain ⟨k, hk⟩ := List.getElem?_of_mem hx'
    rw [List.getElem?_take] at hk
    split at hk
    · rename_i hkl
      rw [hget] at hk
      split at hk
      · rename_i hr
        have hk' : k - (i * sz + j) < (aCells av).length := by omega
        exact (hc _ x _ (by simpa using hk) (List.getElem?_eq_getElem hk')).2
      · exact hone x (List.mem_of_getElem? ((hxs k hkl).trans hk))
    · cases hk
  · rw [List.getElem?_set] at h3
    split at h3
    · rename_i e1
      subst e1
      first | rw [if_pos hi] at h3 | skip
      cases h3
      have hj' : j' < sz := by rw [← hrl]; exact (List.getElem?_eq_some_iff.1 h4).1
      have h4' := splice_get rows[i] j (aCells av) (by omega) j'
      rw [hs] at h4'
      rw [h4'] at h4
      have hki : i * sz + j' < rows.length * sz := by omega
      rw [List.getElem?_take, if_pos hki, hget]
      split at h4
      · rename_i hr
        rw [if_pos (by omega)]
        rw [show i * sz + j' - (i * sz + j) = j' - j by omega]
        have hk' : j' - j < v.cells.size := by omega
        refine ⟨v.cells[j' - j], by simp [hk'], hext.rv (hc _ _ av' (Array.getElem?_eq_getElem hk') h4).1 (ltL_iff.1 hlt _ (List.mem_of_getElem? h4))⟩
      · rename_i hr
        rw [if_neg (by omega)]
        obtain ⟨x, hx1, hx2⟩ := hx i j' _ av' (List.getElem?_eq_getElem hi) h4
        exact ⟨x, by rw [← hxs _ hki]; exact hx1, hext.rv hx2 (ltL_iff.1 (hyl _ (List.getElem_mem hi)) _ (List.mem_of_getElem? h4))⟩
    · rename_i hne
      have hi2 : i' < rows.length := (List.getElem?_eq_some_iff.1 h3).1
      have hj' : j' < sz := by rw [← hrow row (List.mem_of_getElem? h3)]; exact (List.getElem?_eq_some_iff.1 h4).1
      have hki : i' * sz + j' < rows.length * sz := by
        have := Nat.mul_le_mul_right sz (show i' + 1 ≤ rows.length from hi2)
        rw [Nat.add_mul] at this
        omega
      obtain ⟨x, hx1, hx2⟩ := hx i' j' row av' h3 h4
      refine ⟨x, ?_, hext.rv hx2 (ltL_iff.1 (hyl row (List.mem_of_getElem? h3)) _ (List.mem_of_getElem? h4))⟩
      rw [List.getElem?_take, if_pos hki, hget, if_neg, ← hxs _ hki]
      · exact hx1
      · intro hr
        rcases Nat.lt_trichotomy i i' with hlt' | he | hlt'
        · have := Nat.mul_le_mul_right sz (show i + 1 ≤ i' from hlt')
          rw [Nat.add_mul] at this
          omega
        · exact hne he
        · have := Nat.mul_le_mul_right sz (show i' + 1 ≤ i from hlt')
          rw [Nat.add_mul] at this
          omega
/-! ### a literal of a struct -/
def tyParts (P : Program) (t : TypeId) : Option (List (Nat × Nat) × List Value) :=
  match P.info? t, P.underlying t with
  | some it, some (.struct fields) => match it.zero, fields.toList.mapM (fun f => (P.info? f.type).map fun i => (f.offset, i.size)) with
    | some z, some places => some (places, z.cells.toList)
    | _, _ => none
  | _, _ => none
def aFill (places : List (Nat × Nat)) : List AV → List (Nat × AV) → Option (List AV)
  | cs, [] => some cs
  | cs, (i, x) :: rest => match places[i]? with
    | some (off, size) => if (aCells x).length = size ∧ off + size ≤ cs.length then aFill places (cs.take off ++ aCells x ++ cs.drop (off + size)) rest else none
    | none => none
def oneParts (tab : ATab) : List (Nat × AV) → Prop
  | [] => True
  | (_, x) :: rest => oneCL tab (aCells x) ∧ oneParts tab rest
theorem fill_ok (hL : Lay cx w tab L) (places : List (Nat × Nat)) : ∀ (parts : List (Nat × Value)) (avs : List (Nat × AV)) (cells : Array Value) (cs cs' : List AV), parts.length = avs.length →
    (∀ (k i : Nat) (v : Value) (j : Nat) (av : AV), parts[k]? = some (i, v) → avs[k]? = some (j, av) → i = j ∧ RVx cx w tab L v av ∧ av.lt nx) → oneParts tab avs → cells.size = cs.length → AV.ltL nx cs → (∀ (j : Nat) (x : Value) (av : AV), cells[j]? = some x → cs[j]? = some av → RVx cx w tab L x av) → aFill places cs avs = some cs' →
    ∃ cells', Instr.fill (places.toArray[·]?) cells parts = some cells' ∧ cells'.size = cs'.length ∧ AV.ltL nx cs' ∧ ∀ (j : Nat) (x : Value) (av : AV), cells'[j]? = some x → cs'[j]? = some av → RVx cx w tab L x av
  | [], [], cells, cs, cs', _, _, _, hn, hl, hr, h => by
    cases h
    exact ⟨cells, rfl, hn, hl, hr⟩
  | (i, v) :: parts, (j, x) :: avs, cells, cs, cs', hlen, hp, hone, hn, hl, hr, h => by
    obtain ⟨rfl, hv, hlx⟩ := hp 0 i v j x rfl rfl
    obtain ⟨hc1, hc2, hc3⟩ := cells_ok hL hv hlx hone.1
    unfold aFill at h
    split at h
    · rename_i off size hpl
      split at h
      · rename_i hsz
        have hfit : off + v.cells.size ≤ cells.size := by omega
        have hone' := fill_one off v.cells cells hfit
        obtain ⟨cells', h1, h2⟩ := fill_ok hL places parts avs (cells.toList.take off ++ v.cells.toList ++ cells.toList.drop (off + v.cells.size)).toArray (cs.take off ++ aCells x ++ cs.drop (off + size)) cs' (by simpa using hlen)
          (fun k i v j av h3 h4 => hp (k + 1) i v j av (by simpa using h3) (by simpa using h4)) hone.2 (by simp [hc1, hsz.1, hn]) (ltL_iff.2 fun y hy => by
            rcases List.mem_append.1 hy with hy | hy
            · rcases List.mem_append.1 hy with hy | hy
              · exact ltL_iff.1 hl y (List.mem_of_mem_take hy)
              · exact ltL_iff.1 hc2 y hy
            · exact ltL_iff.1 hl y (List.mem_of_mem_drop hy)) (fun k y av h3 h4 => by
            have e1 := splice_get cells.toList off v.cells.toList (by simpa using hfit) k
            have e2 := splice_get cs off (aCells x) (by omega) k
            simp only [Array.length_toList] at e1
            rw [hsz.1] at e2
            rw [List.getElem?_toArray, e1] at h3
            rw [e2] at h4
            split at h4
            · rename_i hk
              rw [if_pos (by omega)] at h3
              exact (hc3 _ y av (by simpa using h3) h4).1
            · rename_i hk
              rw [if_neg (by omega)] at h3
              exact hr k y av (by simpa using h3) h4) h
        refine ⟨cells', ?_, h2⟩
        unfold Instr.fill
        simp only [List.getElem?_toArray, hpl]
        rw [if_neg (by simp; omega), hone']
        simpa using h1
      · cases h
    · cases h
  | [], _ :: _, _, _, _, h, _, _, _, _, _, _ => by simp at h
  | _ :: _, [], _, _, _, h, _, _, _, _, _, _ => by simp at h
theorem tyParts_some {t : TypeId} {places : List (Nat × Nat)} {zs : List Value} (h : tyParts P t = some (places, zs)) : ∃ z : Value, z.cells.toList = zs ∧ ∀ parts, P.built t parts = Instr.fill (places.toArray[·]?) z.cells parts := by
  unfold tyParts at h
  split at h
  · rename_i it fields h1 h2
    split at h
    · rename_i z pl h3 h4
      cases h
      refine ⟨z, rfl, fun parts => ?_⟩
      unfold Program.built
      rw [h1, h2]
      simp only [h3]
      simp only [h4]
    · cases h
  · cases h
theorem build_ok {t : TypeId} {places : List (Nat × Nat)} {zs : List Value} {cs' : List AV} {parts : List (Nat × Operand)} (h : Conc cx a w st L) (ht : tyParts P t = some (places, zs)) (hf : aFill places (zs.map .c) (parts.map fun p => (p.1, aEv st p.2)) = some cs') (h1 : oneParts st.tab (parts.map fun p => (p.1, aEv st p.2))) :
    ∃ v, RVx cx w st.tab L v (.agg cs') ∧ (AV.agg cs').lt st.next ∧ ∀ w', (Instr.build t (parts.toArray.map fun (p : Nat × Operand) => (p.1, a.eval p.2))).run P w' = .ok v w' := by
  obtain ⟨z, rfl, hb⟩ := tyParts_some ht
  obtain ⟨cells', h2, h3, h4, h5⟩ := fill_ok h.lay places (parts.map fun p => (p.1, a.eval p.2)) (parts.map fun p => (p.1, aEv st p.2)) z.cells (z.cells.toList.map .c) cs' (by simp) (fun k i v j av h6 h7 => by
    rw [List.getElem?_map] at h6 h7
    cases hk : parts[k]? with
    | none => simp [hk] at h6
    | some p =>
      simp [hk] at h6 h7
      obtain ⟨rfl, rfl⟩ := h6
      obtain ⟨rfl, rfl⟩ := h7
      exact ⟨rfl, eval_ok h p.2⟩) h1 (by simp) (ltL_iff.2 fun y hy => by
      obtain ⟨u, _, rfl⟩ := List.mem_map.1 hy
      trivial) (fun j x av h6 h7 => by
      rw [List.getElem?_map, Array.getElem?_toList, h6] at h7
      cases h7
      exact .tree (.c x)) hf
  refine ⟨.agg cells', .agg cells' cs' h3 h5, h4, fun w' => run_build w' t _ cells' ?_⟩
  rw [hb]
  simpa using h2
end
end
end Go.Proofs.Ytcindbpnaicemaa
