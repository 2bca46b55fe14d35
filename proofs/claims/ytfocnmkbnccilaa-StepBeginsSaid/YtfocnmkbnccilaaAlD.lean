/-
  ABSTRACT VALUES: the operations that make and write the call's own memory, and calls. Of whatever program.
-/
import Derived.Test.YtfocnmkbnccilaaAlC
set_option linter.unusedVariables false
set_option linter.unusedSimpArgs false
namespace Go.Proofs.Ytfocnmkbnccilaa
open Go.RowKit

def oneC (tab : ATab) : AV → Prop
  | .c v => v.oneCell' = true
  | .sl _ _ => True
  | .rp _ => True
  | .osl id => (tab.get id).isSome = true
  | .op id _ _ => (tab.get id).isSome = true
  | _ => False
def oneCL (tab : ATab) : List AV → Prop
  | [] => True
  | a :: l => oneC tab a ∧ oneCL tab l
def aCells : AV → List AV
  | .agg cs => cs
  | .c v => v.cells.toList.map .c
  | av => [av]
theorem oneCL_iff {tab : ATab} : ∀ {l : List AV}, oneCL tab l ↔ ∀ a ∈ l, oneC tab a
  | [] => by simp [oneCL]
  | a :: l => by simp [oneCL, oneCL_iff (l := l)]
section
variable {P : Program} {cx : Cx} {a : Act} {w w' : World} {tab : ATab} {st : ASt} {L : Nat → Value} {nx : Nat}
theorem obj_one {v : Value} {o : AObj} (h : ObjAt cx w tab L v o) : v.oneCell' = true ∧ v.cells = #[v] := by
  cases o with
  | box t cells =>
    obtain ⟨g, cs, rfl, _⟩ := h
    exact ⟨rfl, rfl⟩
  | row e sz rows =>
    obtain ⟨_, xs, hown, _⟩ := h
    rcases hown.2 with ⟨rfl, _⟩ | ⟨g, cap, cur, rfl, _⟩ <;> exact ⟨rfl, rfl⟩
theorem one_val (hL : Lay cx w tab L) {x : Value} {av : AV} (hv : RVx cx w tab L x av) (h : oneC tab av) : x.oneCell' = true ∧ x.cells = #[x] := by
  cases av with
  | any => exact h.elim
  | c v =>
    obtain rfl := hv.c_inv
    refine ⟨h, ?_⟩
    cases x <;> first | rfl | cases h
  | sl sz rows =>
    obtain ⟨A, cap, rfl, _⟩ := hv.sl_inv.sl_inv
    exact ⟨rfl, rfl⟩
  | rp cs =>
    obtain ⟨b, o, U, rfl, _⟩ := hv.rp_inv
    exact ⟨rfl, rfl⟩
  | osl id =>
    obtain ⟨o, ho⟩ := Option.isSome_iff_exists.1 h
    rw [hv.osl_inv _ _ (kx_of ho)]
    exact obj_one (hL.objs id o ho)
  | op id i j =>
    obtain ⟨o, ho⟩ := Option.isSome_iff_exists.1 h
    obtain ⟨g, _, rfl⟩ := hv.op_inv _ _ (kx_of ho)
    exact ⟨rfl, rfl⟩
  | agg => exact h.elim
  | tup => exact h.elim
  | fn => exact h.elim
theorem cells_ok (hL : Lay cx w tab L) {v : Value} {av : AV} (hv : RVx cx w tab L v av) (hl : av.lt nx) (h : oneCL tab (aCells av)) :
    v.cells.size = (aCells av).length ∧ AV.ltL nx (aCells av) ∧ ∀ (j : Nat) (x : Value) (a : AV), v.cells[j]? = some x → (aCells av)[j]? = some a → RVx cx w tab L x a ∧ x.oneCell' = true := by
  cases av with
  | agg cs =>
    obtain ⟨xs, rfl, hn, hr⟩ := hv.agg_inv
    exact ⟨hn, hl, fun j x a h1 h2 => ⟨hr j x a h1 h2, (one_val hL (hr j x a h1 h2) (oneCL_iff.1 h a (List.mem_of_getElem? h2))).1⟩⟩
  | c v' =>
    obtain rfl := hv.c_inv
    refine ⟨by simp [aCells], ltL_iff.2 fun a ha => ?_, fun j x a h1 h2 => ?_⟩
    · simp [aCells] at ha
      obtain ⟨y, _, rfl⟩ := ha
      trivial
    · have h3 := h2
      simp only [aCells, List.getElem?_map, Array.getElem?_toList, h1, Option.map_some, Option.some.injEq] at h2
      subst h2
      exact ⟨.tree (.c x), oneCL_iff.1 h _ (List.mem_of_getElem? h3)⟩
  | _ =>
    first
    | (have h1 := one_val hL hv h.1
       simp only [aCells]
       refine ⟨by simp [h1.2], ⟨hl, trivial⟩, fun j x a h2 h3 => ?_⟩
       rw [h1.2] at h2
       cases j with
       | zero =>
         simp at h2 h3
         subst h2
         subst h3
         exact ⟨hv, h1.1⟩
       | succ j => simp at h2)
    | exact h.1.elim

/-! ### box, alloc -/
theorem box_ok {t : TypeId} {v : Value} {av : AV} (h : Conc cx a w st L) (hv : RVx cx w st.tab L v av) (hl : av.lt st.next) (h1 : oneCL st.tab (aCells av)) (dst : Option Nat) :
    (Instr.box t v).run P w = .ok (.pointer (some ⟨w.heap.size, 0, none⟩)) (w.alloc (.cells v.cells t)) ∧
    Conc cx (a.put dst (.pointer (some ⟨w.heap.size, 0, none⟩))) (w.alloc (.cells v.cells t)) ({ st with tab := (st.next, some (.box t (aCells av))) :: st.tab, next := st.next + 1 }.put dst (.op st.next 0 0)) (updL L st.next (.pointer (some ⟨w.heap.size, 0, none⟩))) := by
  obtain ⟨hn, hlt, hc⟩ := cells_ok h.lay hv hl h1
  refine ⟨by simp [Instr.box, newVar, newRow], conc_new h ((Below.refl _ _).alloc (Nat.le_refl _) _) (fun g hg => ?_) (fun hx => ?_) ?_ (fun hx => ?_) ?_ dst⟩
  · simp [vblk] at hg
    omega
  · refine ⟨w.heap.size, v.cells, rfl, h.lay.below.size, heap_alloc_new w _, hn, fun j x av' h2 h3 => ⟨hx.rv (hc j x av' h2 h3).1 (ltL_iff.1 hlt _ (List.mem_of_getElem? h3)), (hc j x av' h2 h3).2⟩⟩
  · exact ltL_iff.2 fun x hx => AV.lt_mono (Nat.le_succ _) (ltL_iff.1 hlt x hx)
  · refine .op _ _ _ _ fun sz u hk => ?_
    simp [Kx, ATab.get_cons, updL] at hk
    obtain ⟨_, rfl⟩ := hk
    exact ⟨w.heap.size, rfl, by simp⟩
  · exact Nat.lt_succ_self _
def tyZero (P : Program) (t : TypeId) : Option Value := (P.info? t).bind (·.zero)
theorem run_zero {t : TypeId} {z : Value} (h : tyZero P t = some z) (w : World) : (zeroValue t).run P w = .ok z w := by
  unfold tyZero at h
  cases hi : P.info? t with
  | none => simp [hi] at h
  | some i =>
    have hz : i.zero = some z := by simpa [hi] using h
    simp [zeroValue, typeInfo, hi, hz]
theorem alloc_run {t : TypeId} {z : Value} (h : tyZero P t = some z) (w : World) : (Instr.alloc t true (.tuple #[])).run P w = (Instr.box t z).run P w := by
  simp [Instr.alloc, Sem.run_bind, run_zero h, Instr.box]

/-! ### store -/
theorem ext_upd {tab' : ATab} {o o' : AObj} {id g : Nat} (hid : tab.get id = some o) (hg : vblk (L id) = some g) (hsz : o'.sz = o.sz) (ht : ∀ k, tab'.get k = if k = id then some o' else tab.get k)
    (hb : ∀ k, k ≠ g → w'.heap[k]? = w.heap[k]?) (hs : w'.heap.size = w.heap.size) : Ext cx w tab L nx w' tab' L where
  cell p hp := World.cell?_of_block (hb p.block fun e => hp.2.2 id o hid (by rw [hg, e]))
  sub b h := ⟨by rw [hs]; exact h.1, h.2.1, fun k ok hk => by
    rw [ht] at hk
    split at hk
    · rename_i e
      subst e
      exact h.2.2 _ o hid
    · exact h.2.2 k ok hk⟩
  loc k p hlt h := by
    unfold Kx at *
    rw [ht] at h
    split at h
    · rename_i e
      subst e
      rw [hid]
      simpa [hsz] using h
    · exact h
theorem conc_upd (h : Conc cx a w st L) {o o' : AObj} {id g : Nat} (hid : st.tab.get id = some o) (hg : vblk (L id) = some g) (hsz : o'.sz = o.sz) (hb : ∀ k, k ≠ g → w'.heap[k]? = w.heap[k]?) (hbel : Below cx.w0.heap.size cx.w0 w') (hs : w'.heap.size = w.heap.size)
    (hob : Ext cx w st.tab L st.next w' ((id, some o') :: st.tab) L → ObjAt cx w' ((id, some o') :: st.tab) L (L id) o') (hlt : o'.lt st.next) (dst : Option Nat) : Conc cx (a.put dst undef) w' ({ st with tab := (id, some o') :: st.tab }.put dst .any) L := by
  have ht : ∀ k, ATab.get ((id, some o') :: st.tab) k = if k = id then some o' else st.tab.get k := fun k => ATab.get_cons ..
  have hext : Ext cx w st.tab L st.next w' ((id, some o') :: st.tab) L := ext_upd hid hg hsz ht hb hs
  have hy := h.young id o hid
  refine conc_put (nx' := st.next) (L' := L) h ⟨hbel, fun k ok hk => ?_, fun k k' ok ok' g' h1 h2 h3 h4 => ?_⟩ hext (Nat.le_refl _) (fun k ok hk => ?_) (.tree (.any _)) trivial dst
  · rw [ht] at hk
    split at hk
    · rename_i e
      subst e
      cases hk
      exact hob hext
    · rename_i hne
      exact hext.obj (h.lay.objs k ok hk) (h.young k ok hk).2 fun g' hg' => hb g' fun e => by
        subst e
        exact hne (h.lay.sep k id ok o _ hk hid hg' hg)
  · have : ∀ k ok, ATab.get ((id, some o') :: st.tab) k = some ok → ∃ ok', st.tab.get k = some ok' := fun k ok hk => by
      rw [ht] at hk
      split at hk
      · rename_i e
        exact ⟨o, by rw [e]; exact hid⟩
      · exact ⟨ok, hk⟩
    obtain ⟨o1, ho1⟩ := this k ok h1
    obtain ⟨o2, ho2⟩ := this k' ok' h2
    exact h.lay.sep k k' o1 o2 g' ho1 ho2 h3 h4
  · rw [ht] at hk
    split at hk
    · rename_i e
      cases hk
      exact ⟨by rw [e]; exact hy.1, hlt⟩
    · exact h.young k ok hk
theorem run_storeAt' {t : TypeId} {v : Value} {g o : Nat} {cur : Array Value} {e : TypeId} (h0 : 0 < tySize P t) (hs : v.cells.size = tySize P t) (hg : w.heap[g]? = some (.cells cur e (0, 0))) (ho : o + tySize P t ≤ cur.size) (h1 : ∀ x ∈ v.cells, x.oneCell' = true) :
    (Instr.storeAt t (.pointer (some ⟨g, o, none⟩)) v).run P w = .ok () (w.setRow g (cur.toList.take o ++ v.cells.toList ++ cur.toList.drop (o + tySize P t)).toArray) := by
  have := run_storeCells_at P g o e v.cells.toList 0 cur w hg (by simp [hs]; omega) (by simpa using h1)
  simp [hs] at this
  simp [Instr.storeAt, Instr.sureAddr, storeVar, Sem.run_bind, run_sizeOf' h0, hs, this]
theorem splice_get {α : Type} (l : List α) (o : Nat) (vs : List α) (h : o + vs.length ≤ l.length) (j : Nat) : (l.take o ++ vs ++ l.drop (o + vs.length))[j]? = if o ≤ j ∧ j < o + vs.length then vs[j - o]? else l[j]? := by
  have ht : (l.take o).length = o := by rw [List.length_take]; omega
  rw [List.append_assoc]
  by_cases h1 : j < o
  · rw [if_neg (by omega), List.getElem?_append_left (by omega), List.getElem?_take, if_pos h1]
  · rw [List.getElem?_append_right (by omega), ht]
    by_cases h2 : j < o + vs.length
    · rw [if_pos ⟨by omega, h2⟩, List.getElem?_append_left (by omega)]
    · rw [if_neg (by omega), List.getElem?_append_right (by omega), List.getElem?_drop]
      congr 1
      omega
theorem store_box_ok {t ty : TypeId} {p v : Value} {id j : Nat} {cells : List AV} {av : AV} (h : Conc cx a w st L) (hp : RVx cx w st.tab L p (.op id 0 j)) (hid : st.tab.get id = some (.box ty cells)) (hv : RVx cx w st.tab L v av) (hl : av.lt st.next)
    (h0 : 0 < tySize P t) (hs : (aCells av).length = tySize P t) (ho : j + tySize P t ≤ cells.length) (h1 : oneCL st.tab (aCells av)) (dst : Option Nat) :
    ∃ w', (Instr.storeAt t p v).run P w = .ok () w' ∧ Conc cx (a.put dst undef) w' ({ st with tab := (id, some (.box ty (cells.take j ++ aCells av ++ cells.drop (j + tySize P t)))) :: st.tab }.put dst .any) L ∧
      w'.heap.size = w.heap.size ∧ ∀ k, vblk (L id) ≠ some k → w'.heap[k]? = w.heap[k]? := by
  obtain ⟨hn, hlt, hc⟩ := cells_ok h.lay hv hl h1
  obtain ⟨g, hg, rfl⟩ := hp.op_inv _ _ (kx_of hid)
  have hob := h.lay.objs id _ hid
  obtain ⟨g', cs, hL, hbg, hheap, hcs, hx⟩ := hob
  have hgg : g = g' := by
    rw [hL] at hg
    simpa [vblk] using hg.symm
  subst hgg
  simp only [Nat.zero_mul, Nat.zero_add]
  refine ⟨_, run_storeAt' h0 (by omega) hheap (by omega) (fun x hx' => ?_), ?_, by simp, fun k hk => setRow_other w g k _ fun e => hk (by rw [hg, e])⟩
  · obtain ⟨k, hk, rfl⟩ := Array.getElem_of_mem hx'
    have hk' : k < (aCells av).length := by omega
    exact (hc k _ _ (Array.getElem?_eq_getElem hk) (List.getElem?_eq_getElem hk')).2
  · have hyl := (h.young id _ hid).2
    have hlen : (cells.take j ++ aCells av ++ cells.drop (j + tySize P t)).length = cells.length := by
      simp; omega
    refine conc_upd (o' := .box ty (cells.take j ++ aCells av ++ cells.drop (j + tySize P t))) h hid hg (by simpa [AObj.sz] using hlen) (fun k hk => setRow_other w g k _ hk) ?_ (by simp) (fun hext => ⟨g, _, hL, hbg, setRow_heap w g cs _ ty (0, 0) hheap, ?_, fun k x av' h2 h3 => ?_⟩) ?_ dst
    · exact ⟨h.lay.below.os, h.lay.below.tape, h.lay.below.output, by simpa using h.lay.below.size, fun k hk => (setRow_other w g k _ (by omega)).trans (h.lay.below.block k hk)⟩
    · rw [hlen]
      simp [hcs, hn, hs]
      omega
    · rw [← hs] at h3
      rw [splice_get _ _ _ (by omega)] at h3
      have hvl : v.cells.toList.length = tySize P t := by simp [hn, hs]
      rw [List.getElem?_toArray, ← hvl, splice_get _ _ _ (by simp [hcs]; omega), hvl] at h2
      rw [← hs] at h2
      split at h3
      · rename_i hr
        rw [if_pos hr] at h2
        have := hc (k - j) x av' (by simpa using h2) h3
        exact ⟨hext.rv this.1 (ltL_iff.1 hlt _ (List.mem_of_getElem? h3)), this.2⟩
      · rename_i hr
        rw [if_neg hr] at h2
        have := hx k x av' (by simpa using h2) h3
        exact ⟨hext.rv this.1 (ltL_iff.1 hyl _ (List.mem_of_getElem? h3)), this.2⟩
    · refine ltL_iff.2 fun x hx => ?_
      rcases List.mem_append.1 hx with hx | hx
      · rcases List.mem_append.1 hx with hx | hx
        · exact ltL_iff.1 hyl x (List.mem_of_mem_take hx)
        · exact ltL_iff.1 hlt x hx
      · exact ltL_iff.1 hyl x (List.mem_of_mem_drop hx)
end
end Go.Proofs.Ytfocnmkbnccilaa
