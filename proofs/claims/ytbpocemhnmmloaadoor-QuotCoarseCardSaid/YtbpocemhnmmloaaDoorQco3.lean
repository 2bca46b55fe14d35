/-
  Parts of the proof: AlMp.
-/
import Derived.Test.YtbpocemhnmmloaaDoorQco2
import Derived.Maps.Own
set_option linter.unusedVariables false
set_option linter.unusedSimpArgs false
namespace Go.Proofs.YtbpocemhnmmloaaDoor
section
open Go.RowKit

/-- a map's type: its keys, its values -/
def tyMap (P : Program) (t : TypeId) : Option (TypeId × TypeId) := match P.underlying t with | some (.map k e) => some (k, e) | _ => none
/-- a value without memory -/
def keyV : AV → Option Value
  | .c v => some v
  | .agg cs => match allC cs with
    | some vs => some (.agg vs.toArray)
    | none => none
  | _ => none
/-- what a map has at a key -/
def MapHas (ents : List (Value × Value)) (k : Value) : Option Value → Prop
  | some v => (k, v) ∈ ents
  | none => ∀ e ∈ ents, e.1 ≠ k
/-- a map with a value put -/
def MapPut (ents : List (Value × Value)) (k v : Value) (ents' : List (Value × Value)) : Prop :=
  (∃ j o, ents[j]? = some (k, o) ∧ ents' = ents.set j (k, v)) ∨ ((∀ e ∈ ents, e.1 ≠ k) ∧ ents' = ents ++ [(k, v)])
def KeyFit (P : Program) (k : TypeId) (v : Value) : Prop := ∃ l, keyOf P k v = some l
/-- keys by which one may look up -/
structure MapFit (P : Program) (k : TypeId) (ents : List (Value × Value)) (kv : Value) : Prop where
  keyed : Maps.Keyed P k
  key : KeyFit P k kv
  all : ∀ e ∈ ents, KeyFit P k e.1
def aMakeMap (st : ASt) (r : Bool) (dst : Option Nat) (K : ASt → Prop) : Prop :=
  r = true ∧ K ({ st with tab := (st.next, some (.map [])) :: st.tab, next := st.next + 1 }.put dst (.osl st.next))
def aLookR (ok : Bool) (z : Value) : Option Value → AV
  | some v => if ok = true then .tup [.c v, .c (.bool true)] else .c v
  | none => if ok = true then .tup [.c z, .c (.bool false)] else .c z
def aLookG (P : Program) (kt et : TypeId) (ents : List (Value × Value)) (kv : Option Value) (ok : Bool) (K : AV → Prop) : Prop :=
  match kv, tyZero P et with
  | some kv, some z => MapFit P kt ents kv ∧ ∀ r, MapHas ents kv r → K (aLookR ok z r)
  | _, _ => False
def aLookup (P : Program) (t : TypeId) (tab : ATab) (m k : AV) (ok : Bool) (K : AV → Prop) : Prop :=
  match m with
  | .osl id => match tab.get id, tyMap P t with
    | some (.map ents), some (kt, et) => aLookG P kt et ents (keyV k) ok K
    | _, _ => False
  | _ => False
def aMapPut (P : Program) (kt : TypeId) (st : ASt) (id : Nat) (ents : List (Value × Value)) (k v : Option Value) (K : ASt → Prop) : Prop :=
  match k, v with
  | some kv, some vv => MapFit P kt ents kv ∧ ∀ ents', MapPut ents kv vv ents' → K { st with tab := (id, some (.map ents')) :: st.tab }
  | _, _ => False
def aMapUpd (P : Program) (t : TypeId) (st : ASt) (m k v : AV) (K : ASt → Prop) : Prop :=
  match m with
  | .osl id => match st.tab.get id, tyMap P t with
    | some (.map ents), some (kt, _) => aMapPut P kt st id ents (keyV k) (keyV v) K
    | _, _ => False
  | _ => False
def aLenM (P : Program) (t : TypeId) (tab : ATab) (m : AV) (K : AV → Prop) : Prop :=
  match m with
  | .osl id => match tab.get id, tyMap P t with
    | some (.map ents), some _ => K (.c (.int .i64 ents.length))
    | _, _ => False
  | _ => False
def aLenMs (P : Program) (tab : ATab) (ev : Operand → AV) (args : List Operand) (ts : List TypeId) (K : AV → Prop) : Prop :=
  match args, ts with
  | [x], [t] => aLenM P t tab (ev x) K
  | _, _ => False
def aClear (P : Program) (t : TypeId) (st : ASt) (m : AV) (dst : Option Nat) (K : ASt → Prop) : Prop :=
  match m with
  | .osl id => match st.tab.get id, tyMap P t with
    | some (.map _), some _ => K ({ st with tab := (id, some (.map [])) :: st.tab }.put dst .any)
    | _, _ => False
  | _ => False
def aClears (P : Program) (st : ASt) (args : List Operand) (ts : List TypeId) (dst : Option Nat) (K : ASt → Prop) : Prop :=
  match args, ts with
  | [x], [t] => aClear P t st (aEv st x) dst K
  | _, _ => False
section
variable {P : Program} {cx : Cx} {a : Act} {w w' : World} {tab : ATab} {st : ASt} {L : Nat → Value} {nx : Nat}
mutual
theorem rv_ren {tab' : ATab} {L' : Nat → Value} {ren : List Nat} (hS : ∀ b, Sx cx w tab L b → Sx cx w tab' L' b) (hK : ∀ k p, Kx tab' L' k = some p → Kx tab L (ren.getD k 0) = some p) :
    ∀ (r : AV) (v : Value), RVx cx w tab L v (r.ren ren) → RVx cx w tab' L' v r
  | .any, v, _ => .tree (.any v)
  | .c x, v, h => by
    obtain rfl := RV.c_inv (v := x) h
    exact .tree (.c v)
  | .sl sz rows, v, h => .tree ((RV.sl_inv h).mono (fun _ _ => rfl) hS)
  | .osl id, v, h => .osl v id fun sz u hk => RV.osl_inv h sz u (hK id _ hk)
  | .agg cs, v, h => by
    simp only [AV.ren, renL_map] at h
    obtain ⟨xs, rfl, hn, hr⟩ := h.agg_inv
    exact .agg xs cs (by simpa using hn) fun j x av h1 h2 => rv_renL hS hK cs j x av h2 (hr j x _ h1 (by simp [h2]))
  | .tup cs, v, h => by
    simp only [AV.ren, renL_map] at h
    obtain ⟨xs, rfl, hn, hr⟩ := h.tup_inv
    exact .tup xs cs (by simpa using hn) fun j x av h1 h2 => rv_renL hS hK cs j x av h2 (hr j x _ h1 (by simp [h2]))
  | .fn f cs, v, h => by
    simp only [AV.ren, renL_map] at h
    obtain ⟨xs, rfl, hn, hr⟩ := h.fn_inv
    exact .fn f xs cs (by simpa using hn) fun j x av h1 h2 => rv_renL hS hK cs j x av h2 (hr j x _ h1 (by simp [h2]))
  | .bfn f cs, v, h => by
    simp only [AV.ren, renL_map] at h
    obtain ⟨xs, rfl, hn, hr⟩ := h.bfn_inv
    exact .bfn f xs cs (by simpa using hn) fun j x av h1 h2 => rv_renL hS hK cs j x av h2 (hr j x _ h1 (by simp [h2]))
  | .rp cs, v, h => by
    have : RT w (Sx cx w tab L) v (.rp cs) := by
      cases h with
      | tree h => exact h
    exact .tree (this.mono (fun _ _ => rfl) hS)
  | .op id i j, v, h => .op v id i j fun sz u hk => RV.op_inv h sz u (hK id _ hk)
theorem rv_renL {tab' : ATab} {L' : Nat → Value} {ren : List Nat} (hS : ∀ b, Sx cx w tab L b → Sx cx w tab' L' b) (hK : ∀ k p, Kx tab' L' k = some p → Kx tab L (ren.getD k 0) = some p) :
    ∀ (l : List AV) (j : Nat) (v : Value) (av : AV), l[j]? = some av → RVx cx w tab L v (av.ren ren) → RVx cx w tab' L' v av
  | [], j, v, av, h, _ => by simp at h
  | a :: l, 0, v, av, h, hr => by
    simp at h
    subst h
    exact rv_ren hS hK a v hr
  | a :: l, j + 1, v, av, h, hr => rv_renL hS hK l j v av (by simpa using h) hr
end
mutual
theorem rv_unren {S S' : Nat → Prop} {K K' : Nat → Option (Nat × Value)} {ren : List Nat} (hS : ∀ b, S b → S' b) (hK : ∀ k p, K' k = some p → K (ren.getD k 0) = some p) :
    ∀ (r : AV) (v : Value), RV w S K v (r.ren ren) → RV w S' K' v r
  | .any, v, _ => .tree (.any v)
  | .c x, v, h => by
    obtain rfl := RV.c_inv (v := x) h
    exact .tree (.c v)
  | .sl sz rows, v, h => .tree ((RV.sl_inv h).mono (fun _ _ => rfl) hS)
  | .osl id, v, h => .osl v id fun sz u hk => RV.osl_inv h sz u (hK id _ hk)
  | .agg cs, v, h => by
    simp only [AV.ren, renL_map] at h
    obtain ⟨xs, rfl, hn, hr⟩ := h.agg_inv
    exact .agg xs cs (by simpa using hn) fun j x av h1 h2 => rv_unrenL hS hK cs j x av h2 (hr j x _ h1 (by simp [h2]))
  | .tup cs, v, h => by
    simp only [AV.ren, renL_map] at h
    obtain ⟨xs, rfl, hn, hr⟩ := h.tup_inv
    exact .tup xs cs (by simpa using hn) fun j x av h1 h2 => rv_unrenL hS hK cs j x av h2 (hr j x _ h1 (by simp [h2]))
  | .fn f cs, v, h => by
    simp only [AV.ren, renL_map] at h
    obtain ⟨xs, rfl, hn, hr⟩ := h.fn_inv
    exact .fn f xs cs (by simpa using hn) fun j x av h1 h2 => rv_unrenL hS hK cs j x av h2 (hr j x _ h1 (by simp [h2]))
  | .bfn f cs, v, h => by
    simp only [AV.ren, renL_map] at h
    obtain ⟨xs, rfl, hn, hr⟩ := h.bfn_inv
    exact .bfn f xs cs (by simpa using hn) fun j x av h1 h2 => rv_unrenL hS hK cs j x av h2 (hr j x _ h1 (by simp [h2]))
  | .rp cs, v, h => by
    have : RT w S v (.rp cs) := by
      cases h with
      | tree h => exact h
    exact .tree (this.mono (fun _ _ => rfl) hS)
  | .op id i j, v, h => .op v id i j fun sz u hk => RV.op_inv h sz u (hK id _ hk)
theorem rv_unrenL {S S' : Nat → Prop} {K K' : Nat → Option (Nat × Value)} {ren : List Nat} (hS : ∀ b, S b → S' b) (hK : ∀ k p, K' k = some p → K (ren.getD k 0) = some p) :
    ∀ (l : List AV) (j : Nat) (v : Value) (av : AV), l[j]? = some av → RV w S K v (av.ren ren) → RV w S' K' v av
  | [], j, v, av, h, _ => by simp at h
  | a :: l, 0, v, av, h, hr => by
    simp at h
    subst h
    exact rv_unren hS hK a v hr
  | a :: l, j + 1, v, av, h, hr => rv_unrenL hS hK l j v av (by simpa using h) hr
end
theorem RT.ren {w : World} {S : Nat → Prop} {x : Value} {av : AV} (h : RT w S x av) (l : List Nat) : av.ren l = av := by
  have key : ∀ (xs : Array Value) (cs : List AV), xs.size = cs.length → (∀ (j : Nat) (x : Value) (av : AV), xs[j]? = some x → cs[j]? = some av → av.ren l = av) → AV.renL l cs = cs := fun xs cs hn ih => by
    rw [renL_map]
    apply List.ext_getElem?
    intro j
    rw [List.getElem?_map]
    cases hj : cs[j]? with
    | none => rfl
    | some av =>
      have hlt : j < xs.size := by rw [hn]; exact (List.getElem?_eq_some_iff.1 hj).1
      simp [ih j _ av (Array.getElem?_eq_getElem hlt) hj]
  induction h with
  | agg xs cs hn hr ih => rw [AV.ren, key xs cs hn ih]
  | tup xs cs hn hr ih => rw [AV.ren, key xs cs hn ih]
  | fn fi xs cs hn hr ih => rw [AV.ren, key xs cs hn ih]
  | bfn fi xs cs hn hr ih => rw [AV.ren, key xs cs hn ih]
  | _ => rfl
theorem RV.rename {w : World} {S S' : Nat → Prop} {K K' : Nat → Option (Nat × Value)} {l : List Nat} {m : Nat} {x : Value} {av : AV} (h : RV w S K x av) (hl : av.lt m) (hS : ∀ b, S b → S' b) (hK : ∀ id p, id < m → K' (l.getD id 0) = some p → K id = some p) : RV w S' K' x (av.ren l) := by
  have sub : ∀ (xs : Array Value) (cs : List AV), AV.ltL m cs → (∀ (j : Nat) (x : Value) (av : AV), xs[j]? = some x → cs[j]? = some av → av.lt m → RV w S' K' x (av.ren l)) → ∀ (j : Nat) (x : Value) (av : AV), xs[j]? = some x → (cs.map (·.ren l))[j]? = some av → RV w S' K' x av := fun xs cs hl ih j x av h1 h2 => by
    rw [List.getElem?_map] at h2
    cases hj : cs[j]? with
    | none => simp [hj] at h2
    | some av' =>
      simp [hj] at h2
      subst h2
      exact ih j x av' h1 hj (ltL_iff.1 hl _ (List.mem_of_getElem? hj))
  induction h with
  | tree h =>
    rw [h.ren l]
    exact .tree (h.mono (fun _ _ => rfl) hS)
  | osl x id h => exact .osl x _ fun sz v e => h sz v (hK id _ hl e)
  | op x id i j h => exact .op x _ i j fun sz v e => h sz v (hK id _ hl e)
  | agg xs cs hn hr ih =>
    simp only [AV.ren, renL_map]
    exact .agg xs _ (by simpa using hn) (sub xs cs hl ih)
  | tup xs cs hn hr ih =>
    simp only [AV.ren, renL_map]
    exact .tup xs _ (by simpa using hn) (sub xs cs hl ih)
  | fn fi xs cs hn hr ih =>
    simp only [AV.ren, renL_map]
    exact .fn fi xs _ (by simpa using hn) (sub xs cs hl ih)
  | bfn fi xs cs hn hr ih =>
    simp only [AV.ren, renL_map]
    exact .bfn fi xs _ (by simpa using hn) (sub xs cs hl ih)
theorem lt_ren {l : List Nat} {n m : Nat} : ∀ {av : AV}, av.lt m → (∀ j, j < m → l.getD j 0 < n) → (av.ren l).lt n := by
  intro av hl hj
  induction av using AV.rec (motive_2 := fun _ => True) (motive_3 := fun l2 => AV.ltL m l2 → AV.ltL n (AV.renL l l2)) with
  | _ => simp_all [AV.lt, AV.ltL, AV.ren, AV.renL]
theorem tyMap_some {t k e : TypeId} (h : tyMap P t = some (k, e)) : P.underlying t = some (.map k e) := by
  unfold tyMap at h
  split at h
  · rename_i k' e' hu
    cases h
    exact hu
  · cases h
theorem keyV_val {v x : Value} {av : AV} (hv : RVx cx w tab L v av) (h : keyV av = some x) : v = x := by
  cases av with
  | c u =>
    cases h
    exact hv.c_inv
  | agg cs =>
    simp only [keyV] at h
    split at h
    · rename_i vs hvs
      cases h
      obtain ⟨xs, rfl, hn, hr⟩ := hv.agg_inv
      rw [allC_val hvs hn hr]
    · cases h
  | _ => simp [keyV] at h
theorem map_at (hL : Lay cx w tab L) {id : Nat} {ents : List (Value × Value)} (hid : tab.get id = some (.map ents)) {v : Value} (hv : RVx cx w tab L v (.osl id)) :
    ∃ b es ck, v = .map (some b) ∧ L id = .map (some b) ∧ cx.w0.heap.size ≤ b ∧ w.heap[b]? = some (.map es ck) ∧ es.toList.map (fun e => (e.key, e.val)) = ents := by
  obtain ⟨b, es, ck, h1, h2, h3, h4⟩ := hL.objs id _ hid
  refine ⟨b, es, ck, ?_, h1, h2, h3, h4⟩
  rw [hv.osl_inv _ _ (kx_of hid), h1]
/-- how a key is found -/
theorem find_ent {kt : TypeId} {es : Array MapEntry} {kv : Value} (F : MapFit P kt (es.toList.map fun e => (e.key, e.val)) kv) (w : World) :
    (Instr.checkKey es.isEmpty 10000 kt kv).run P w = .ok () w ∧ (Instr.checkKey false 10000 kt kv).run P w = .ok () w ∧
    ((((Instr.findKey kt kv es.toList).run P w = .ok none w) ∧ ∀ e ∈ es.toList, e.key ≠ kv) ∨ ∃ j e, (Instr.findKey kt kv es.toList).run P w = .ok (some (j, e.val)) w ∧ es.toList[j]? = some e ∧ e.key = kv) := by
  obtain ⟨K, ⟨l, hl⟩, hall⟩ := F
  refine ⟨K.check w _ hl, K.check w _ hl, ?_⟩
  exact K.find w hl es.toList fun e he => hall (e.key, e.val) (List.mem_map.2 ⟨e, he, rfl⟩)
theorem lookup_run {t kt et : TypeId} {z : Value} {es : Array MapEntry} {ck : Nat} {b : Nat} {kv : Value} (ht : tyMap P t = some (kt, et)) (hz : tyZero P et = some z) (hb : w.heap[b]? = some (.map es ck)) (F : MapFit P kt (es.toList.map fun e => (e.key, e.val)) kv) (ok : Bool) :
    ∃ r, MapHas (es.toList.map fun e => (e.key, e.val)) kv r ∧ ∃ u, (Instr.lookup t (.map (some b)) kv ok).run P w = .ok u w ∧ ∀ (S : Nat → Prop) (K : Nat → Option (Nat × Value)), RV w S K u (aLookR ok z r) := by
  obtain ⟨h1, _, h3⟩ := find_ent F w
  have hu := tyMap_some ht
  have tup2 : ∀ (S : Nat → Prop) (K : Nat → Option (Nat × Value)) (x y : Value), RV w S K (.tuple #[x, y]) (.tup [.c x, .c y]) := fun S K x y => .tree (.tup _ _ rfl fun j v av h4 h5 => by
    match j with
    | 0 => simp at h4 h5; subst h4; subst h5; exact .c _
    | 1 => simp at h4 h5; subst h4; subst h5; exact .c _
    | j + 2 => simp at h4)
  rcases h3 with ⟨h3, hno⟩ | ⟨j, e, h3, hj, hk⟩
  · refine ⟨none, fun e he => ?_, if ok = true then .tuple #[z, .bool false] else z, ?_, fun S K => ?_⟩
    · obtain ⟨x, hx, rfl⟩ := List.mem_map.1 he
      exact hno x hx
    · simp [Instr.lookup, Sem.run_bind, run_underlying hu, MapKept.run_getObj_map hb, h1, h3, run_zero hz]
    · unfold aLookR
      cases ok
      · exact .tree (.c _)
      · exact tup2 S K _ _
  · refine ⟨some e.val, ?_, if ok = true then .tuple #[e.val, .bool true] else e.val, ?_, fun S K => ?_⟩
    · refine List.mem_map.2 ⟨e, List.mem_of_getElem? hj, ?_⟩
      rw [hk]
    · simp [Instr.lookup, Sem.run_bind, run_underlying hu, MapKept.run_getObj_map hb, h1, h3]
    · unfold aLookR
      cases ok
      · exact .tree (.c _)
      · exact tup2 S K _ _
theorem lookR_lt (ok : Bool) (z : Value) (r : Option Value) : (aLookR ok z r).lt nx := by
  unfold aLookR
  cases r <;> cases ok <;> simp [AV.lt, AV.ltL]
theorem lookup_ok {t : TypeId} {v u : Value} {m k : AV} {ok : Bool} {K : AV → Prop} (hL : Lay cx w tab L) (hv : RVx cx w tab L v m) (hk : RVx cx w tab L u k) (h : aLookup P t tab m k ok K) :
    ∃ r av, K av ∧ RVx cx w tab L r av ∧ av.lt nx ∧ (Instr.lookup t v u ok).run P w = .ok r w := by
  unfold aLookup at h
  split at h
  · rename_i id
    split at h
    · rename_i ents kt et hid ht
      unfold aLookG at h
      split at h
      · rename_i kv z hkv hz
        obtain ⟨F, h⟩ := h
        obtain ⟨b, es, ck, rfl, _, _, hb, rfl⟩ := map_at hL hid hv
        obtain rfl := keyV_val hk hkv
        obtain ⟨r, hr, x, hx, hrv⟩ := lookup_run ht hz hb F ok
        exact ⟨x, _, h r hr, hrv _ _, lookR_lt _ _ _, hx⟩
      · exact h.elim
    · exact h.elim
  · exact h.elim
theorem setObj_heap {b : Nat} {es : Array MapEntry} {ck : Nat} {o' : Obj} (hb : w.heap[b]? = some (.map es ck)) : ∃ w', (setObj b o').run P w = .ok () w' ∧ w'.heap[b]? = some o' ∧ w'.heap.size = w.heap.size ∧ (∀ k, k ≠ b → w'.heap[k]? = w.heap[k]?) ∧ w'.os = w.os ∧ w'.tape = w.tape ∧ w'.output = w.output := by
  have hlt : b < w.heap.size := (Array.getElem?_eq_some_iff.1 hb).1
  have hr := MapKept.run_setObj_map (P := P) o' hb
  refine ⟨{ w with heap := w.heap.setIfInBounds b o' }, ?_, ?_, ?_, fun k hk => ?_, rfl, rfl, rfl⟩
  · exact hr
  · simp [hlt]
  · simp
  · simp [Array.getElem?_setIfInBounds_ne (Ne.symm hk)]
theorem map_upd_ok {id : Nat} {ents ents' : List (Value × Value)} {b : Nat} {es es' : Array MapEntry} {ck ck' : Nat} (h : Conc cx a w st L) (hid : st.tab.get id = some (.map ents)) (hLb : L id = .map (some b)) (hb : w.heap[b]? = some (.map es ck))
    (hes : es'.toList.map (fun e => (e.key, e.val)) = ents') (hw : w'.heap[b]? = some (.map es' ck')) (hs : w'.heap.size = w.heap.size) (ho : ∀ k, k ≠ b → w'.heap[k]? = w.heap[k]?) (hos : w'.os = w.os) (htp : w'.tape = w.tape) (hout : w'.output = w.output) (dst : Option Nat) :
    Conc cx (a.put dst undef) w' ({ st with tab := (id, some (.map ents')) :: st.tab }.put dst .any) L := by
  obtain ⟨b', es2, ck2, h1, h2, h3, h4⟩ := h.lay.objs id _ hid
  rw [hLb] at h1
  cases h1
  refine conc_upd (o' := .map ents') (g := b) h hid (by rw [hLb]; rfl) rfl ho ⟨hos.trans h.lay.below.os, htp.trans h.lay.below.tape, hout.trans h.lay.below.output, by rw [hs]; exact h.lay.below.size, fun k hk hX => (ho k (by omega)).trans (h.lay.below.block k hk hX)⟩ hs (fun _ => ⟨b, es', ck', hLb, h2, hw, hes⟩) trivial dst
theorem mapUpd_ok {t : TypeId} {v u x : Value} {m k y : AV} {K : ASt → Prop} (h : Conc cx a w st L) (hv : RVx cx w st.tab L v m) (hk : RVx cx w st.tab L u k) (hx : RVx cx w st.tab L x y) (dst : Option Nat) (hp : aMapUpd P t st m k y fun st => K (st.put dst .any)) :
    ∃ w' st', (Instr.mapUpdate t v u x).run P w = .ok () w' ∧ K st' ∧ Conc cx (a.put dst undef) w' st' L ∧ w'.heap.size = w.heap.size ∧ ∃ id ents ents', m = .osl id ∧ st.tab.get id = some (.map ents) ∧ st' = { st with tab := (id, some (.map ents')) :: st.tab }.put dst .any ∧ ∀ k, vblk (L id) ≠ some k → w'.heap[k]? = w.heap[k]? := by
  unfold aMapUpd at hp
  split at hp
  · rename_i id
    split at hp
    · rename_i ents kt et hid ht
      unfold aMapPut at hp
      split at hp
      · rename_i kv vv hkv hvv
        obtain ⟨F, hp⟩ := hp
        obtain ⟨b, es, ck, rfl, hLb, _, hb, rfl⟩ := map_at h.lay hid hv
        obtain rfl := keyV_val hk hkv
        obtain rfl := keyV_val hx hvv
        have hu := tyMap_some ht
        obtain ⟨_, h1, h3⟩ := find_ent F w
        rcases h3 with ⟨h3, hno⟩ | ⟨j, e, h3, hj, hke⟩
        · obtain ⟨w', hr, hw, hs, ho, hos, htp, hout⟩ := setObj_heap (P := P) (o' := .map (es.push { key := u, val := x, born := ck }) (ck + 1)) hb
          refine ⟨w', _, ?_, hp (es.toList.map (fun e => (e.key, e.val)) ++ [(u, x)]) (.inr ⟨fun e he => ?_, rfl⟩), map_upd_ok h hid hLb hb (by simp) hw hs ho hos htp hout dst, hs, id, _, _, rfl, hid, rfl, fun k hk => ho k fun e => hk (by rw [hLb, e]; rfl)⟩
          · simp [Instr.mapUpdate, Sem.run_bind, run_underlying hu, MapKept.run_getObj_map hb, h1, h3, hr]
          · obtain ⟨x', hx', rfl⟩ := List.mem_map.1 he
            exact hno x' hx'
        · have hjl : j < es.size := by simpa using (List.getElem?_eq_some_iff.1 hj).1
          have hje : es[j]? = some e := by simpa using hj
          obtain ⟨w', hr, hw, hs, ho, hos, htp, hout⟩ := setObj_heap (P := P) (o' := .map (es.modify j fun e => { e with key := u, val := x }) ck) hb
          obtain ⟨l, hl⟩ := F.key
          refine ⟨w', _, ?_, hp ((es.toList.map (fun e => (e.key, e.val))).set j (u, x)) (.inl ⟨j, e.val, ?_, rfl⟩), map_upd_ok h hid hLb hb ?_ hw hs ho hos htp hout dst, hs, id, _, _, rfl, hid, rfl, fun k hk => ho k fun e => hk (by rw [hLb, e]; rfl)⟩
          · have hks := F.keyed.stays w hl
            simp [Instr.mapUpdate, Sem.run_bind, run_underlying hu, MapKept.run_getObj_map hb, h1, h3, hje, hke, hks, hr]
          · rw [List.getElem?_map, hj]
            simp [hke]
          · apply List.ext_getElem?
            intro i
            simp only [List.getElem?_map, Array.toList_modify, List.getElem?_set, List.getElem?_modify, List.length_map, Array.length_toList]
            by_cases hi : j = i
            · subst hi
              simp [hjl, hje]
            · simp [hi]
      · exact hp.elim
    · exact hp.elim
  · exact hp.elim
theorem clear_ok {t ty : TypeId} {v : Value} {m : AV} {K : ASt → Prop} (h : Conc cx a w st L) (hv : RVx cx w st.tab L v m) (dst : Option Nat) (hp : aClear P t st m dst K) :
    ∃ w' st', (Builtin.clear_ #[t] ty #[v]).run P w = .ok (.tuple #[]) w' ∧ K st' ∧ Conc cx (a.put dst (.tuple #[])) w' st' L ∧ w'.heap.size = w.heap.size ∧ ∃ id ents, st.tab.get id = some (.map ents) ∧ st' = { st with tab := (id, some (.map [])) :: st.tab }.put dst .any ∧ ∀ k, vblk (L id) ≠ some k → w'.heap[k]? = w.heap[k]? := by
  unfold aClear at hp
  split at hp
  · rename_i id
    split at hp
    · rename_i ents p hid ht
      obtain ⟨kt, et⟩ := p
      obtain ⟨b, es, ck, rfl, hLb, _, hb, rfl⟩ := map_at h.lay hid hv
      have hu := tyMap_some ht
      obtain ⟨w', hr, hw, hs, ho, hos, htp, hout⟩ := setObj_heap (P := P) (o' := .map #[] ck) hb
      have hc := map_upd_ok (a := a) h hid hLb hb (es' := #[]) (ents' := []) (by simp) hw hs ho hos htp hout none
      refine ⟨w', _, ?_, hp, conc_pure hc (.tree (.any _)) trivial dst, hs, id, _, hid, rfl, fun k hk => ho k fun e => hk (by rw [hLb, e]; rfl)⟩
      simp [Builtin.clear_, Sem.run_bind, run_underlying hu, MapKept.run_getObj_map hb, hr]
    · exact hp.elim
  · exact hp.elim
theorem lenM_ok {t ty : TypeId} {v : Value} {m : AV} {K : AV → Prop} (hL : Lay cx w tab L) (hv : RVx cx w tab L v m) (h : aLenM P t tab m K) : ∃ r av, K av ∧ RVx cx w tab L r av ∧ av.lt nx ∧ (Builtin.len_ #[t] ty #[v]).run P w = .ok r w := by
  unfold aLenM at h
  split at h
  · rename_i id
    split at h
    · rename_i ents p hid ht
      obtain ⟨kt, et⟩ := p
      obtain ⟨b, es, ck, rfl, _, _, hb, rfl⟩ := map_at hL hid hv
      refine ⟨.int .i64 es.size, _, h, ?_, trivial, ?_⟩
      · have : (es.toList.map fun e => (e.key, e.val)).length = es.size := by simp
        rw [this]
        exact .tree (.c _)
      · simp [Builtin.len_, Sem.run_bind, run_underlying (tyMap_some ht), MapKept.run_getObj_map hb, goInt]
    · exact h.elim
  · exact h.elim
theorem tabN_get : ∀ (l : List AObj) (k id : Nat), (tabN k l).get id = if k ≤ id then l[id - k]? else none
  | [], k, id => by simp [tabN, ATab.get]
  | o :: l, k, id => by
    simp only [tabN, ATab.get_cons]
    rw [tabN_get l (k + 1) id]
    by_cases h : id = k
    · subst h
      simp
    · rw [if_neg h]
      by_cases h2 : k ≤ id
      · rw [if_pos (by omega), if_pos h2, show id - k = (id - (k + 1)) + 1 by omega]
        simp
      · rw [if_neg (by omega), if_neg h2]
theorem tab_none : ∀ (l : List Nat) (b : ATab) (id : Nat), ATab.get (l.map (fun i => (i, none)) ++ b) id = if id ∈ l then none else b.get id
  | [], b, id => by simp
  | k :: l, b, id => by
    simp only [List.map_cons, List.cons_append, ATab.get_cons, List.mem_cons]
    rw [tab_none l b id]
    by_cases h : id = k <;> simp [h]
theorem tabN_app : ∀ (l : List AObj) (k id : Nat) (b : ATab), ATab.get (tabN k l ++ b) id = if k ≤ id ∧ id < k + l.length then l[id - k]? else b.get id
  | [], k, id, b => by simp [tabN]; omega
  | o :: l, k, id, b => by
    simp only [tabN, List.cons_append, ATab.get_cons, List.length_cons]
    rw [tabN_app l (k + 1) id b]
    by_cases h : id = k
    · subst h
      simp
    · rw [if_neg h]
      by_cases h2 : k ≤ id ∧ id < k + (l.length + 1)
      · rw [if_pos (by omega), if_pos h2, show id - k = (id - (k + 1)) + 1 by omega]
        simp
      · rw [if_neg (by omega), if_neg h2]
theorem objsAt_get : ∀ {ids : List Nat} {os : List AObj}, objsAt tab ids os → ids.length = os.length ∧ ∀ (k : Nat) (o : AObj), os[k]? = some o → ∃ i, ids[k]? = some i ∧ tab.get i = some o ∧ plainO o
  | [], [], _ => ⟨rfl, fun k o h => by simp at h⟩
  | i :: is, o :: os, h => by
    obtain ⟨h1, h2⟩ := objsAt_get h.2
    refine ⟨by simp [h1], fun k o' hk => ?_⟩
    cases k with
    | zero =>
      simp at hk
      subst hk
      exact ⟨i, by simp, h.1.1, h.1.2⟩
    | succ k => simpa using h2 k o' (by simpa using hk)
  | [], _ :: _, h => h.elim
  | _ :: _, [], h => h.elim
theorem ro_of {x : Value} {av : AV} (h : RVx cx w tab L x av) (ht : roA av) : RT w (Sx cx w tab L) x av := by
  have sub : ∀ (xs : Array Value) (cs : List AV), treeL cs → (∀ (j : Nat) (x : Value) (av : AV), xs[j]? = some x → cs[j]? = some av → RVx cx w tab L x av) → ∀ (j : Nat) (x : Value) (av : AV), xs[j]? = some x → cs[j]? = some av → RT w (Sx cx w tab L) x av :=
    fun xs cs hl hr j x av h1 h2 => tree_of (hr j x av h1 h2) (treeL_iff.1 hl _ (List.mem_of_getElem? h2))
  cases h with
  | tree h => exact h
  | osl => exact ht.elim
  | op => exact ht.elim
  | agg xs cs hn hr => exact .agg xs cs hn (sub xs cs ht hr)
  | tup => exact ht.elim
  | fn f xs cs hn hr => exact .fn f xs cs hn (sub xs cs ht hr)
  | bfn f xs cs hn hr => exact .bfn f xs cs hn (sub xs cs ht hr)
theorem plainO_lt {o : AObj} (h : plainO o) (n : Nat) : o.lt n := by cases o <;> first | trivial | exact h.elim
/-- a method's call -/
theorem meth_ok {u : Option (Nat × List Nat)} {f : FuncId} {vs : Array Value} {avs : List AV} {K : AV → ASt → Prop} (h : Conc cx a w st L) (hn : vs.size = avs.length) (hv : ∀ (j : Nat) (v : Value) (av : AV), vs[j]? = some v → avs[j]? = some av → RVx cx w st.tab L v av) (hK : aMeth u P st f avs K) (dst : Option Nat) :
    Enters P f ∧ ∃ ids0 : List Nat, (∀ p, u = some p → ∀ id ∈ ids0, aMay p.1 p.2 id) ∧ Calls P f vs w fun e w' => ∃ v av st' L', e = .returned v ∧ K av st' ∧ Conc cx (a.put dst v) w' (st'.put dst av) L' ∧ Fr cx w st.tab L st.next w' st'.tab L' st'.next ∧ (∀ id, id < st.next → L' id = L id) ∧ (∀ id o, id < st.next → st'.tab.get id = some o → ∃ o', st.tab.get id = some o') ∧
      (∀ k, k < w.heap.size → (∀ id ∈ ids0, ∀ o, st.tab.get id = some o → vblk (L id) ≠ some k) → w'.heap[k]? = w.heap[k]?) ∧ ∀ id o g, st.next ≤ id → st'.tab.get id = some o → vblk (L' id) = some g → w.heap.size ≤ g ∨ ∃ id' ∈ ids0, (∃ o, st.tab.get id' = some o) ∧ vblk (L id') = some g := by
  obtain ⟨t, cells, objs, rest, Post, b, ids, ⟨hent, hlt, hm⟩, rfl, hro, hb, hobjs, hnd, hu, hk⟩ := hK
  obtain ⟨hil, hobj⟩ := objsAt_get hobjs
  refine ⟨hent, b :: ids, hu, ?_⟩
  have hidl : ∀ i ∈ b :: ids, i < st.next := fun i hi => by
    rcases List.mem_cons.1 hi with rfl | hi
    · exact (h.young _ _ hb).1
    · obtain ⟨k, hk'⟩ := List.getElem?_of_mem hi
      have hlen := (List.getElem?_eq_some_iff.1 hk').1
      obtain ⟨i', h1, h2, _⟩ := hobj k _ (List.getElem?_eq_getElem (show k < objs.length by omega))
      rw [h1] at hk'
      cases hk'
      exact (h.young _ _ h2).1
  obtain ⟨T0, hT0⟩ : ∃ T0, T0 = tabN 0 (AObj.box t cells :: objs) := ⟨_, rfl⟩
  obtain ⟨L0, hL0⟩ : ∃ L0 : Nat → Value, L0 = fun k => L ((b :: ids).getD k 0) := ⟨_, rfl⟩
  have hget : ∀ k o, T0.get k = some o → ∃ i o', (b :: ids)[k]? = some i ∧ (b :: ids).getD k 0 = i ∧ st.tab.get i = some o' ∧ o'.sz = o.sz ∧ ((k = 0 ∧ i = b ∧ o = .box t cells) ∨ (o' = o ∧ plainO o)) := fun k o hk' => by
    rw [hT0, tabN_get] at hk'
    simp only [Nat.zero_le, if_true, Nat.sub_zero] at hk'
    cases k with
    | zero =>
      simp at hk'
      subst hk'
      exact ⟨b, _, rfl, rfl, hb, by simp [AObj.sz, renL_map], .inl ⟨rfl, rfl, rfl⟩⟩
    | succ k =>
      obtain ⟨i, h1, h2, h3⟩ := hobj k o (by simpa using hk')
      exact ⟨i, o, by simpa using h1, by simp [List.getD, h1], h2, rfl, .inr ⟨rfl, h3⟩⟩
  have hXown : ∀ blk, (∃ id o, st.tab.get id = some o ∧ vblk (L id) = some blk ∧ id ∉ b :: ids) → cx.w0.heap.size ≤ blk ∧ blk < w.heap.size := fun blk ⟨id, o, h1, h2, _⟩ => (h.lay.objs id o h1).ge h2
  let cx' : Cx := ⟨cx.F, cx.w0, fun blk => cx.X blk ∨ ∃ id o, st.tab.get id = some o ∧ vblk (L id) = some blk ∧ id ∉ b :: ids, cx.amb, fun blk hX => hX.elim (cx.exD blk) fun hX => Nat.le_trans cx.amb.le (hXown blk hX).1, cx.inF⟩
  have hS1 : ∀ blk, Sx cx w st.tab L blk → Sx cx' w T0 L0 blk := fun blk hS => ⟨hS.1, ⟨hS.2.1.1, fun hX => hX.elim hS.2.1.2 fun ⟨id, o, h1, h2, _⟩ => hS.2.2 id o h1 h2⟩, fun k o h1 h2 => by
    obtain ⟨i, o', _, h3, h4, _⟩ := hget k o h1
    rw [hL0] at h2
    simp only [h3] at h2
    exact hS.2.2 i o' h4 h2⟩
  have hK1 : ∀ k p, Kx T0 L0 k = some p → Kx st.tab L ((b :: ids).getD k 0) = some p := fun k p hp => by
    unfold Kx at *
    cases ho : T0.get k with
    | none => simp [ho] at hp
    | some o =>
      obtain ⟨i, o', _, h3, h4, h5, _⟩ := hget k o ho
      rw [h3, h4]
      rw [ho, hL0] at hp
      simp only [h3] at hp
      simpa [h5] using hp
  have hLay0 : Lay cx' w T0 L0 := by
    refine ⟨⟨h.lay.below.os, h.lay.below.tape, h.lay.below.output, h.lay.below.size, fun k h1 h2 => h.lay.below.block k h1 fun hX => h2 (.inl hX)⟩, fun k o hk' => ?_, fun k k' o o' g h1 h2 h3 h4 => ?_, fun blk hX => ⟨?_, fun k o h1 h2 => ?_⟩⟩
    · obtain ⟨i, o', _, h3, h4, _, h6⟩ := hget k o hk'
      have hLk : L0 k = L i := by rw [hL0]; simp only [h3]
      rw [hLk]
      have hob := h.lay.objs i o' h4
      rcases h6 with ⟨rfl, rfl, rfl⟩ | ⟨rfl, hpl⟩
      · rw [hb] at h4
        cases h4
        obtain ⟨g, cs, h7, h8, h9, h10, h11⟩ := hob
        refine ⟨g, cs, h7, h8, h9, by simpa [renL_map] using h10, fun j x av h12 h13 => ?_⟩
        have := h11 j x (av.ren (i :: ids)) h12 (by rw [renL_map, List.getElem?_map, h13]; rfl)
        exact ⟨rv_unren hS1 hK1 av x this.1, this.2⟩
      · cases o' with
        | box => exact hpl.elim
        | ghost => exact hpl.elim
        | map ents => exact hob
        | row e sz rows =>
          obtain ⟨h7, xs, h8, h9, h10⟩ := hob
          exact ⟨h7, xs, h8, h9, fun i' j row av h11 h12 => (h10 i' j row av h11 h12).elim fun x ⟨h13, h14⟩ => ⟨x, h13, h14.mono (fun _ _ => rfl) hS1⟩⟩
    · obtain ⟨i, o1, h5, h6, h7, _⟩ := hget k o h1
      obtain ⟨i', o2, h8, h9, h10, _⟩ := hget k' o' h2
      rw [hL0] at h3 h4
      simp only [h6, h9] at h3 h4
      have := h.lay.sep i i' o1 o2 g h7 h10 h3 h4
      subst this
      exact (List.getElem?_inj (List.getElem?_eq_some_iff.1 h5).1 hnd).1 (h5.trans h8.symm)
    · rcases hX with hX | hX
      · exact (h.lay.ex blk hX).1
      · exact (hXown blk hX).2
    · obtain ⟨i, o1, h5, h6, h7, _⟩ := hget k o h1
      rw [hL0] at h2
      simp only [h6] at h2
      rcases hX with hX | ⟨id, o', h8, h9, h10⟩
      · exact (h.lay.ex blk hX).2 i o1 h7 h2
      · have h11 := h2
        have := h.lay.sep i id o1 o' blk h7 h8 h11 h9
        subst this
        exact h10 (List.mem_of_getElem? h5)
  have hcall := hm cx' w L0 vs (by rw [← hT0]; exact hLay0) (by simpa using hn) (fun x hx => ?_) (fun j x av hx hav => ?_)
  rotate_left
  · obtain ⟨g, h1, h2⟩ := (hv 0 x _ hx rfl).op_inv _ _ (kx_of hb)
    obtain ⟨g', cs, h3, _⟩ := h.lay.objs b _ hb
    rw [hL0]
    simp only [List.getD_cons_zero]
    rw [h3] at h1 ⊢
    cases h1
    simpa using h2
  · rw [← hT0]
    exact (ro_of (hv (j + 1) x av hx (by simpa using hav)) (roL_iff.1 hro av (List.mem_of_getElem? hav))).mono (fun _ _ => rfl) hS1
  refine hcall.mono ?_
  rintro e w' ⟨v, av, cells', objs', L1, rfl, hPost, hlay1, hrt, hL1, hcl, hlt', hpl, hz⟩
  rw [← hT0] at hz
  obtain ⟨T1, hT1⟩ : ∃ T1, T1 = tabN 0 (AObj.box t cells' :: objs') := ⟨_, rfl⟩
  rw [← hT1] at hz hlay1 hrt
  obtain ⟨tab', htab'⟩ : ∃ tab', tab' = aMethTab st b ids t cells' objs' := ⟨_, rfl⟩
  have hbn := hidl b (List.mem_cons_self ..)
  have hget' : ∀ id, tab'.get id = if id = b then some (.box t (AV.renL (b :: List.range' st.next objs'.length) cells')) else if st.next ≤ id then objs'[id - st.next]? else if id ∈ ids then none else st.tab.get id := fun id => by
    rw [htab', aMethTab, ATab.get_cons, tabN_app, tab_none]
    by_cases h1 : id = b
    · simp [h1]
    · rw [if_neg h1, if_neg h1]
      by_cases h2 : st.next ≤ id
      · rw [if_pos h2]
        by_cases h3 : id < st.next + objs'.length
        · rw [if_pos ⟨h2, h3⟩]
        · rw [if_neg (by omega), List.getElem?_eq_none (by omega), if_neg (fun h4 => by have := hidl id (List.mem_cons_of_mem _ h4); omega)]
          cases hg : st.tab.get id with
          | none => rfl
          | some o => have := (h.young id o hg).1; omega
      · rw [if_neg (by omega), if_neg h2]
  obtain ⟨L', hL'⟩ : ∃ L' : Nat → Value, L' = fun id => if id < st.next then L id else L1 (id - st.next + 1) := ⟨_, rfl⟩
  have hL'o : ∀ id, id < st.next → L' id = L id := fun id hid => by rw [hL']; simp [hid]
  have hL'n : ∀ k, L' (st.next + k) = L1 (k + 1) := fun k => by
    rw [hL']
    simp only
    rw [if_neg (by omega), Nat.add_sub_cancel_left]
  have hL1b : L1 0 = L b := by rw [hL1, hL0]; rfl
  have hT1get : ∀ k, T1.get k = if k = 0 then some (.box t cells') else objs'[k - 1]? := fun k => by
    rw [hT1, tabN_get]
    cases k with
    | zero => simp
    | succ k => simp
  -- an object behind it
  have hcases : ∀ id o, tab'.get id = some o → (id = b ∧ o = .box t (AV.renL (b :: List.range' st.next objs'.length) cells')) ∨ (∃ k, id = st.next + k ∧ objs'[k]? = some o) ∨ (id < st.next ∧ id ≠ b ∧ id ∉ ids ∧ st.tab.get id = some o) := fun id o ho => by
    rw [hget'] at ho
    split at ho
    · rename_i e
      cases ho
      exact .inl ⟨e, rfl⟩
    · split at ho
      · rename_i h1 h2
        exact .inr (.inl ⟨id - st.next, by omega, ho⟩)
      · split at ho
        · cases ho
        · rename_i h1 h2 h3
          exact .inr (.inr ⟨by omega, h1, h3, ho⟩)
  have hT0blk : ∀ k o g, T0.get k = some o → vblk (L0 k) = some g → ∃ i ∈ b :: ids, (∃ o', st.tab.get i = some o') ∧ vblk (L i) = some g := fun k o g h1 h2 => by
    obtain ⟨i, o', h3, h4, h5, _⟩ := hget k o h1
    rw [hL0] at h2
    simp only [h4] at h2
    exact ⟨i, List.mem_of_getElem? h3, ⟨o', h5⟩, h2⟩
  have hnewblk : ∀ k o g, objs'[k]? = some o → vblk (L1 (k + 1)) = some g → w.heap.size ≤ g ∨ ∃ i ∈ b :: ids, (∃ o', st.tab.get i = some o') ∧ vblk (L i) = some g := fun k o g h1 h2 => by
    rcases Nat.lt_or_ge g w.heap.size with hg | hg
    · obtain ⟨id2, o2, h3, h4⟩ := hz.young (k + 1) o g (by rw [hT1get]; simpa using h1) h2 hg
      exact .inr (hT0blk id2 o2 g h3 h4)
    · exact .inl hg
  have hkeep : ∀ k, k < w.heap.size → (∀ id ∈ b :: ids, ∀ o, st.tab.get id = some o → vblk (L id) ≠ some k) → w'.heap[k]? = w.heap[k]? := fun k hk' hno => hz.keep k hk' fun id o h1 h2 => by
    obtain ⟨i, hi, ⟨o', h3⟩, h4⟩ := hT0blk id o k h1 h2
    exact hno i hi o' h3 h4
  have hyoung' : ∀ id o g, tab'.get id = some o → vblk (L' id) = some g → g < w.heap.size → ∃ id2 o2, st.tab.get id2 = some o2 ∧ vblk (L id2) = some g := fun id o g h1 h2 h3 => by
    rcases hcases id o h1 with ⟨rfl, _⟩ | ⟨k, rfl, h4⟩ | ⟨h4, _, _, h5⟩
    · rw [hL'o _ hbn] at h2
      exact ⟨_, _, hb, h2⟩
    · rw [hL'n] at h2
      rcases hnewblk k o g h4 h2 with h5 | ⟨i, _, ⟨o', h5⟩, h6⟩
      · omega
      · exact ⟨i, o', h5, h6⟩
    · rw [hL'o _ h4] at h2
      exact ⟨id, o, h5, h2⟩
  have hsub : ∀ blk, Sx cx w st.tab L blk → Sx cx w' tab' L' blk := fun blk hS => ⟨Nat.lt_of_lt_of_le hS.1 hz.size, hS.2.1, fun id o h1 h2 => by
    obtain ⟨id2, o2, h3, h4⟩ := hyoung' id o blk h1 h2 hS.1
    exact hS.2.2 id2 o2 h3 h4⟩
  have hext : Ext cx w st.tab L st.next w' tab' L' := by
    refine ⟨fun blk hS => hkeep blk hS.1 fun id _ o ho => hS.2.2 id o ho, hsub, fun id p hid hp => ?_⟩
    unfold Kx at *
    rw [hL'o id hid] at hp
    cases ho : tab'.get id with
    | none => simp [ho] at hp
    | some o =>
      rcases hcases id o ho with ⟨rfl, rfl⟩ | ⟨k, rfl, _⟩ | ⟨_, _, _, h5⟩
      · rw [hb]
        rw [ho] at hp
        simpa [AObj.sz, renL_map, hcl] using hp
      · omega
      · rw [h5]
        rwa [ho] at hp
  have hS2 : ∀ blk, Sx cx' w' T1 L1 blk → Sx cx w' tab' L' blk := fun blk hS => ⟨hS.1, ⟨hS.2.1.1, fun hX => hS.2.1.2 (.inl hX)⟩, fun id o h1 h2 => by
    rcases hcases id o h1 with ⟨rfl, _⟩ | ⟨k, rfl, h4⟩ | ⟨h4, h5, h6, h7⟩
    · rw [hL'o _ hbn, ← hL1b] at h2
      exact hS.2.2 0 _ (by rw [hT1get]; rfl) h2
    · rw [hL'n] at h2
      exact hS.2.2 (k + 1) o (by rw [hT1get]; simpa using h4) h2
    · rw [hL'o _ h4] at h2
      exact hS.2.1.2 (.inr ⟨id, o, h7, h2, fun hm => (List.mem_cons.1 hm).elim h5 h6⟩)⟩
  have hK2 : ∀ id p, id < objs'.length + 1 → Kx tab' L' ((b :: List.range' st.next objs'.length).getD id 0) = some p → Kx T1 L1 id = some p := fun id p hid hp => by
    unfold Kx at *
    cases id with
    | zero =>
      rw [List.getD_cons_zero, hget', if_pos rfl, hL'o _ hbn] at hp
      rw [hT1get, hL1b]
      simpa [AObj.sz, renL_map] using hp
    | succ k =>
      have e : (b :: List.range' st.next objs'.length).getD (k + 1) 0 = st.next + k := by
        have hk2 : k < objs'.length := by omega
        simp [List.getD, hk2]
      rw [e, hget', if_neg (by omega), if_pos (by omega), hL'n] at hp
      rw [hT1get]
      simpa using hp
  have hobjs' : ∀ id o, tab'.get id = some o → ObjAt cx w' tab' L' (L' id) o := fun id o ho => by
    rcases hcases id o ho with ⟨rfl, rfl⟩ | ⟨k, rfl, h4⟩ | ⟨h4, h5, h6, h7⟩
    · obtain ⟨g, cs, h1, h2, h3, h4, h5⟩ := hlay1.objs 0 _ (by rw [hT1get]; rfl)
      rw [hL'o _ hbn, ← hL1b]
      refine ⟨g, cs, h1, h2, h3, by simpa [renL_map] using h4, fun j x av h6 h7 => ?_⟩
      rw [renL_map, List.getElem?_map] at h7
      cases hj : cells'[j]? with
      | none => simp [hj] at h7
      | some av' =>
        simp [hj] at h7
        subst h7
        have := h5 j x av' h6 hj
        exact ⟨this.1.rename (ltL_iff.1 hlt' _ (List.mem_of_getElem? hj)) hS2 hK2, this.2⟩
    · have hob := hlay1.objs (k + 1) o (by rw [hT1get]; simpa using h4)
      rw [hL'n]
      cases o with
      | box => exact (hpl _ (List.mem_of_getElem? h4)).elim
      | ghost => exact (hpl _ (List.mem_of_getElem? h4)).elim
      | map ents => exact hob
      | row e sz rows =>
        obtain ⟨h7, xs, h8, h9, h10⟩ := hob
        exact ⟨h7, xs, h8, h9, fun i' j row av h11 h12 => (h10 i' j row av h11 h12).elim fun x ⟨h13, h14⟩ => ⟨x, h13, h14.mono (fun _ _ => rfl) hS2⟩⟩
    · rw [hL'o _ h4]
      have hob := h.lay.objs id o h7
      refine hext.obj hob (h.young id o h7).2 fun g hg => hkeep g (hob.ge hg).2 fun i hi o' h8 h9 => ?_
      have := h.lay.sep id i o o' g h7 h8 hg h9
      subst this
      exact (List.mem_cons.1 hi).elim h5 h6
  have hin : ∀ id o, tab'.get id = some o → (id = b ∨ ∃ k, id = st.next + k) → ∃ k, T1.get k ≠ none ∧ L' id = L1 k ∧ (id = b → k = 0) ∧ ∀ j, id = st.next + j → k = j + 1 := fun id o ho hor => by
    rcases hcases id o ho with ⟨rfl, rfl⟩ | ⟨k, rfl, h4⟩ | ⟨h4, h5, _⟩
    · exact ⟨0, by rw [hT1get]; simp, by rw [hL'o _ hbn, hL1b], fun _ => rfl, fun j hj => by omega⟩
    · exact ⟨k + 1, by rw [hT1get]; simp [h4], hL'n k, fun e => by omega, fun j hj => by omega⟩
    · rcases hor with e | ⟨k, e⟩
      · exact absurd e h5
      · omega
  have hout : ∀ id o id2 o2 g, tab'.get id = some o → (id = b ∨ ∃ k, id = st.next + k) → id2 < st.next → id2 ≠ b → id2 ∉ ids → st.tab.get id2 = some o2 → vblk (L' id) = some g → vblk (L id2) ≠ some g := fun id o id2 o2 g h1 h2 h3 h4 h5 h6 h7 h8 => by
    obtain ⟨k, h9, h10, _⟩ := hin id o h1 h2
    obtain ⟨o3, h11⟩ := Option.ne_none_iff_exists'.1 h9
    rw [h10] at h7
    exact (hlay1.ex g (.inr ⟨id2, o2, h6, h8, fun hm => (List.mem_cons.1 hm).elim h4 h5⟩)).2 k o3 h11 h7
  have hkind : ∀ id o, tab'.get id = some o → (id = b ∨ ∃ k, id = st.next + k) ∨ (id < st.next ∧ id ≠ b ∧ id ∉ ids ∧ st.tab.get id = some o) := fun id o ho => by
    rcases hcases id o ho with ⟨rfl, _⟩ | ⟨k, rfl, _⟩ | h4
    · exact .inl (.inl rfl)
    · exact .inl (.inr ⟨k, rfl⟩)
    · exact .inr h4
  have hlay' : Lay cx w' tab' L' := by
    refine ⟨⟨hlay1.below.os, hlay1.below.tape, hlay1.below.output, hlay1.below.size, fun k h1 h2 => ?_⟩, hobjs', fun id id' o o' g h1 h2 h3 h4 => ?_, fun blk hX => ⟨Nat.lt_of_lt_of_le (h.lay.ex blk hX).1 hz.size, fun id o h1 h2 => ?_⟩⟩
    · refine (hkeep k (Nat.lt_of_lt_of_le h1 h.lay.below.size) fun id _ o ho hg => ?_).trans (h.lay.below.block k h1 h2)
      have := ((h.lay.objs id o ho).ge hg).1
      omega
    · rcases hkind id o h1 with h5 | ⟨h5, h6, h7, h8⟩ <;> rcases hkind id' o' h2 with h9 | ⟨h9, h10, h11, h12⟩
      · obtain ⟨k, h13, h14, h15, h16⟩ := hin id o h1 h5
        obtain ⟨k', h17, h18, h19, h20⟩ := hin id' o' h2 h9
        obtain ⟨o3, h21⟩ := Option.ne_none_iff_exists'.1 h13
        obtain ⟨o4, h22⟩ := Option.ne_none_iff_exists'.1 h17
        rw [h14] at h3
        rw [h18] at h4
        have e := hlay1.sep k k' o3 o4 g h21 h22 h3 h4
        rcases h5 with h5 | ⟨j, h5⟩ <;> rcases h9 with h9 | ⟨j', h9⟩
        · rw [h5, h9]
        · have := h15 h5
          have := h20 j' h9
          omega
        · have := h16 j h5
          have := h19 h9
          omega
        · have := h16 j h5
          have := h20 j' h9
          omega
      · rw [hL'o _ h9] at h4
        exact absurd h4 (hout id o id' o' g h1 h5 h9 h10 h11 h12 h3)
      · rw [hL'o _ h5] at h3
        exact absurd h3 (hout id' o' id o g h2 h9 h5 h6 h7 h8 h4)
      · rw [hL'o _ h5] at h3
        rw [hL'o _ h9] at h4
        exact h.lay.sep id id' o o' g h8 h12 h3 h4
    · obtain ⟨id2, o2, h3, h4⟩ := hyoung' id o blk h1 h2 (h.lay.ex blk hX).1
      exact (h.lay.ex blk hX).2 id2 o2 h3 h4
  have hy' : ∀ id o, tab'.get id = some o → id < st.next + objs'.length ∧ o.lt (st.next + objs'.length) := fun id o ho => by
    rcases hcases id o ho with ⟨rfl, rfl⟩ | ⟨k, rfl, h4⟩ | ⟨h4, _, _, h5⟩
    · refine ⟨by omega, ltL_iff.2 fun x hx => ?_⟩
      rw [renL_map] at hx
      obtain ⟨y, hy, rfl⟩ := List.mem_map.1 hx
      exact lt_ren (ltL_iff.1 hlt' y hy) fun j hj => by
        cases j with
        | zero => simpa using by omega
        | succ j =>
          have hj' : j < objs'.length := by omega
          simp [List.getD, hj']
    · have := (List.getElem?_eq_some_iff.1 h4).1
      exact ⟨by omega, plainO_lt (hpl _ (List.mem_of_getElem? h4)) _⟩
    · have := h.young id o h5
      refine ⟨by omega, ?_⟩
      have h6 : st.next ≤ st.next + objs'.length := by omega
      cases o with
      | box t cells => exact ltL_iff.2 fun x hx => AV.lt_mono h6 (ltL_iff.1 this.2 x hx)
      | row => trivial
      | map => trivial
      | ghost vs env => exact envLt_mono h6 this.2
  have hC := conc_put (w' := w') h hlay' hext (Nat.le_add_right _ _) hy' (.tree (hrt.mono (fun _ _ => rfl) hS2)) (hrt.lt _) dst
  rw [htab'] at hC
  refine ⟨v, av, _, L', rfl, hk av cells' objs' hPost, hC, ?_, hL'o, fun id o hid ho => ?_, hkeep, fun id o g h1 h2 h3 => ?_⟩
  · rw [← htab']
    exact ⟨hext, hz.size, fun k h1 h2 => hkeep k h1 fun id _ o ho => h2 id o ho, hyoung', Nat.le_add_right _ _⟩
  · rw [← htab'] at ho
    rcases hcases id o ho with ⟨rfl, _⟩ | ⟨k, rfl, _⟩ | ⟨_, _, _, h5⟩
    · exact ⟨_, hb⟩
    · omega
    · exact ⟨o, h5⟩
  · rw [← htab'] at h2
    rcases hcases id o h2 with ⟨rfl, _⟩ | ⟨k, rfl, h4⟩ | ⟨h4, _⟩
    · omega
    · rw [hL'n] at h3
      rcases hnewblk k o g h4 h3 with h5 | ⟨i, h5, h6, h7⟩
      · exact .inl h5
      · exact .inr ⟨i, h5, h6, h7⟩
    · omega
theorem makeMap_ok {t : TypeId} (h : Conc cx a w st L) (dst : Option Nat) :
    (Instr.makeMap t none).run P w = .ok (.map (some w.heap.size)) (w.alloc (.map #[] 0)) ∧
    Conc cx (a.put dst (.map (some w.heap.size))) (w.alloc (.map #[] 0)) ({ st with tab := (st.next, some (.map [])) :: st.tab, next := st.next + 1 }.put dst (.osl st.next)) (updL L st.next (.map (some w.heap.size))) := by
  refine ⟨run_makeMap t w, conc_new h ((Below.refl _ _).alloc (Nat.le_refl _) _) (ob := .map []) (fun g hg => ?_) (fun hx => ?_) trivial (fun hx => ?_) (Nat.lt_succ_self _) dst⟩
  · simp [vblk] at hg
    omega
  · exact ⟨w.heap.size, #[], 0, rfl, h.lay.below.size, heap_alloc_new w _, rfl⟩
  · refine .osl _ _ fun sz u hk => ?_
    simp [Kx, ATab.get_cons, updL] at hk
    exact hk.2
end
end
end Go.Proofs.YtbpocemhnmmloaaDoor
