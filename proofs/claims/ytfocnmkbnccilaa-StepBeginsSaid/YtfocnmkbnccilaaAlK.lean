/-
  ABSTRACT VALUES: calls by what is known of their answers; lists; structs compared. Of whatever program.
-/
import Derived.Test.YtfocnmkbnccilaaAlJ
import Derived.Laws.StructEq
set_option linter.unusedVariables false
set_option linter.unusedSimpArgs false
namespace Go.Proofs.Ytfocnmkbnccilaa
open Go.RowKit
theorem enters_of {P : Program} {f : FuncId} {fn : Func} {c : Code} (hf : P.funcs[f]? = some fn) (hb : fn.body = some c) (hname : (fn.name == "runtime.NumGoroutine") = false) : Enters P f := fun args w => by
  have : ¬ fn.name = "runtime.NumGoroutine" := by simpa using hname
  simp [callFunc, Sem.run_bind, hf, this, hb]
theorem rtc {w : World} {S : Nat → Prop} {v u : Value} (h : RT w S v (.c u)) : v = u := by cases h; rfl
theorem dref_tree {tab : ATab} {a : AV} (h : treeC a) : dref tab a = a := by
  cases a <;> first | rfl | exact h.elim
theorem drefs_tree {tab : ATab} : ∀ {l : List AV}, treeL l → l.map (dref tab) = l
  | [], _ => rfl
  | a :: l, h => by rw [List.map_cons, dref_tree h.1, drefs_tree h.2]
theorem dref2s_tree {tab : ATab} : ∀ {l : List AV}, treeL l → l.map (dref2 tab) = l
  | [], _ => rfl
  | a :: l, h => by
    have h1 : dref2 tab a = a := by
      have := h.1
      cases a <;> first | rfl | exact this.elim
    rw [List.map_cons, h1, dref2s_tree h.2]
theorem ltL_tree {nx : Nat} : ∀ {l : List AV}, treeL l → AV.ltL nx l
  | [], _ => trivial
  | a :: l, h => ⟨by
      have := h.1
      cases a <;> first | trivial | exact this.elim, ltL_tree h.2⟩
/-- a closure's call that gives back one value -/
theorem callClo {u : Bool} {P : Program} {st : ASt} {g : FuncId} {args caps : List AV} {dst : Option Nat} {K : ASt → Prop} {v : Value} (ht : treeL caps) (h : ADet P g (args.map (dref st.tab) ++ caps) (val v)) (hk : K (st.put dst (.c v))) : aCall u P st g (args ++ caps) (aK2 dst K) :=
  callV (by rw [List.map_append, drefs_tree ht]; exact h) hk
theorem callT {u : Bool} {P : Program} {st : ASt} {g : FuncId} {args : List AV} {K : AV → ASt → Prop} {r : AV} (h : ADet P g (args.map (dref st.tab)) ⟨r, [], 0⟩) (ho : roL args ∨ r.plain) (hk : K (r.shift st.next) st) : aCall u P st g args K :=
  callR h (ho.imp id fun h => ⟨h, trivial⟩) hk
theorem take_snoc {α β : Type} (f : α → β) (l : List α) {k : Nat} (h : k < l.length) : (l.take (k + 1)).map f = (l.take k).map f ++ [f l[k]] := by
  rw [List.take_add_one, List.getElem?_eq_getElem h, List.map_append]
  rfl
theorem callO {u : Bool} {P : Program} {st : ASt} {g : FuncId} {args : List AV} {K : AV → ASt → Prop} {e : TypeId} {sz : Nat} {rows : List (List AV)} (h : ADet P g (args.map (dref st.tab)) (own e sz rows)) (ho : roL args ∨ ∀ row ∈ rows, ∀ av ∈ row, av.plain) (hk : K (.osl st.next) ⟨st.n, st.env, (st.next, some (.row e sz rows)) :: st.tab, st.next + 1⟩) : aCall u P st g args K :=
  callR h (ho.imp id fun h => ⟨trivial, h, trivial⟩) (by
    have e1 : (own e sz rows).r.shift st.next = .osl st.next := by simp [own, AV.shift]
    have e2 : (own e sz rows).tab.shift st.next = [(st.next, some (.row e sz rows))] := by simp [own, ATab.shift, AObj.shift]
    rw [e1, e2]
    exact hk)
theorem ints_plain {l : List Int} : ∀ row ∈ l.map (fun n => [eI n]), ∀ av ∈ row, av.plain := fun row hr av ha => by
  obtain ⟨n, _, rfl⟩ := List.mem_map.1 hr
  simp at ha
  subst ha
  trivial
theorem fold_snoc {α β : Type} (f : β → α → β) (b : β) (l : List α) {k : Nat} (h : k < l.length) : (l.take (k + 1)).foldl f b = f ((l.take k).foldl f b) l[k] := by
  rw [List.take_add_one, List.getElem?_eq_getElem h, List.foldl_append]
  rfl
/-- what is a value of the one is one of the other -/
inductive Fits0 : AV → AV → Prop
  | refl (a : AV) : Fits0 a a
  | nil (sz : Nat) : Fits0 (.c (.slice none 0 0)) (.sl sz [])
def RowFit : List AV → List AV → Prop
  | [], [] => True
  | a :: l, b :: l' => Fits0 a b ∧ RowFit l l'
  | _, _ => False
def RowsFit : List (List AV) → List (List AV) → Prop
  | [], [] => True
  | a :: l, b :: l' => RowFit a b ∧ RowsFit l l'
  | _, _ => False
inductive Fits1 : AV → AV → Prop
  | refl (a : AV) : Fits1 a a
  | nil (sz : Nat) : Fits1 (.c (.slice none 0 0)) (.sl sz [])
  | rows {sz : Nat} {r r' : List (List AV)} (h : RowsFit r r') : Fits1 (.sl sz r) (.sl sz r')
def FitsL : List AV → List AV → Prop
  | [], [] => True
  | a :: l, b :: l' => Fits1 a b ∧ FitsL l l'
  | _, _ => False
inductive FitsA : AV → AV → Prop
  | one {a b : AV} (h : Fits1 a b) : FitsA a b
  | agg {l l' : List AV} (h : FitsL l l') : FitsA (.agg l) (.agg l')
def FitsAs : List AV → List AV → Prop
  | [], [] => True
  | a :: l, b :: l' => FitsA a b ∧ FitsAs l l'
  | _, _ => False
theorem Fits0.rt {w : World} {S : Nat → Prop} {v : Value} {a b : AV} (h : Fits0 a b) (hr : RT w S v a) : RT w S v b := by
  cases h with
  | refl => exact hr
  | nil sz =>
    rw [rtc hr]
    exact .sl none 0 0 sz [] 0 0 (fun _ _ => undef) rfl (Nat.le_refl _) (by omega) (fun h => by omega) (by simp) (fun h => by omega) (by simp) (by simp)
theorem RowFit.spec : ∀ {l l' : List AV}, RowFit l l' → l.length = l'.length ∧ ∀ (j : Nat) (b : AV), l'[j]? = some b → ∃ a, l[j]? = some a ∧ Fits0 a b
  | [], [], _ => ⟨rfl, fun j b h => by simp at h⟩
  | a :: l, b :: l', h => by
    obtain ⟨h1, h2⟩ := RowFit.spec h.2
    refine ⟨by simp [h1], fun j b' h3 => ?_⟩
    cases j with
    | zero =>
      simp at h3
      subst h3
      exact ⟨a, rfl, h.1⟩
    | succ j => exact h2 j b' (by simpa using h3)
  | [], _ :: _, h => h.elim
  | _ :: _, [], h => h.elim
theorem RowsFit.spec : ∀ {l l' : List (List AV)}, RowsFit l l' → l.length = l'.length ∧ ∀ (j : Nat) (b : List AV), l'[j]? = some b → ∃ a, l[j]? = some a ∧ RowFit a b
  | [], [], _ => ⟨rfl, fun j b h => by simp at h⟩
  | a :: l, b :: l', h => by
    obtain ⟨h1, h2⟩ := RowsFit.spec h.2
    refine ⟨by simp [h1], fun j b' h3 => ?_⟩
    cases j with
    | zero =>
      simp at h3
      subst h3
      exact ⟨a, rfl, h.1⟩
    | succ j => exact h2 j b' (by simpa using h3)
  | [], _ :: _, h => h.elim
  | _ :: _, [], h => h.elim
theorem Fits1.rt {w : World} {S : Nat → Prop} {v : Value} {a b : AV} (h : Fits1 a b) (hr : RT w S v a) : RT w S v b := by
  cases h with
  | refl => exact hr
  | nil sz => exact (Fits0.nil sz).rt hr
  | rows h =>
    rename_i sz r r'
    obtain ⟨hl, hx⟩ := h.spec
    cases hr with
    | sl A n cap sz rows b o U hn hc hm hA hs hcell hone hr =>
      have key : ∀ i j row' av', r'[i]? = some row' → row'[j]? = some av' → ∃ row av, r[i]? = some row ∧ row[j]? = some av ∧ Fits0 av av' := fun i j row' av' h1 h2 => by
        obtain ⟨row, h3, h4⟩ := hx i row' h1
        obtain ⟨av, h5, h6⟩ := h4.spec.2 j av' h2
        exact ⟨row, av, h3, h5, h6⟩
      refine .sl A n cap sz r' b o U (hn.trans hl) hc hm hA (fun row' hrow => ?_) (fun h0 i j row' av' h1 h2 => ?_) (fun i j row' av' h1 h2 => ?_) (fun i j row' av' h1 h2 => ?_)
      · obtain ⟨i, hi⟩ := List.getElem?_of_mem hrow
        obtain ⟨row, h3, h4⟩ := hx i row' hi
        rw [← h4.spec.1]
        exact hs row (List.mem_of_getElem? h3)
      · obtain ⟨row, av, h3, h4, _⟩ := key i j row' av' h1 h2
        exact hcell h0 i j row av h3 h4
      · obtain ⟨row, av, h3, h4, _⟩ := key i j row' av' h1 h2
        exact hone i j row av h3 h4
      · obtain ⟨row, av, h3, h4, h5⟩ := key i j row' av' h1 h2
        exact h5.rt (hr i j row av h3 h4)
theorem FitsL.spec : ∀ {l l' : List AV}, FitsL l l' → l.length = l'.length ∧ ∀ (j : Nat) (a b : AV), l[j]? = some a → l'[j]? = some b → Fits1 a b
  | [], [], _ => ⟨rfl, fun j a b h => by simp at h⟩
  | a :: l, b :: l', h => by
    obtain ⟨h1, h2⟩ := FitsL.spec h.2
    refine ⟨by simp [h1], fun j a' b' h3 h4 => ?_⟩
    cases j with
    | zero =>
      simp at h3 h4
      subst h3 h4
      exact h.1
    | succ j => exact h2 j a' b' (by simpa using h3) (by simpa using h4)
  | [], _ :: _, h => h.elim
  | _ :: _, [], h => h.elim
theorem FitsA.rt {w : World} {S : Nat → Prop} {v : Value} {a b : AV} (h : FitsA a b) (hr : RT w S v a) : RT w S v b := by
  cases h with
  | one h => exact h.rt hr
  | agg h =>
    obtain ⟨hl, hx⟩ := h.spec
    cases hr with
    | agg xs cs hn hc =>
      refine .agg xs _ (hn.trans hl) fun j x av h1 h2 => ?_
      rename_i l l'
      have hj : j < l'.length := (List.getElem?_eq_some_iff.1 h2).1
      obtain ⟨a, ha⟩ : ∃ a, l[j]? = some a := ⟨_, List.getElem?_eq_getElem (by omega)⟩
      exact (hx j a av ha h2).rt (hc j x a h1 ha)
theorem FitsAs.spec : ∀ {l l' : List AV}, FitsAs l l' → l.length = l'.length ∧ ∀ (j : Nat) (a b : AV), l[j]? = some a → l'[j]? = some b → FitsA a b
  | [], [], _ => ⟨rfl, fun j a b h => by simp at h⟩
  | a :: l, b :: l', h => by
    obtain ⟨h1, h2⟩ := FitsAs.spec h.2
    refine ⟨by simp [h1], fun j a' b' h3 h4 => ?_⟩
    cases j with
    | zero =>
      simp at h3 h4
      subst h3 h4
      exact h.1
    | succ j => exact h2 j a' b' (by simpa using h3) (by simpa using h4)
  | [], _ :: _, h => h.elim
  | _ :: _, [], h => h.elim
theorem ADet.fits {P : Program} {f : FuncId} {args args' : List AV} {R : Res} (h : ADet P f args' R) (hf : FitsAs args args') : ADet P f args R :=
  ⟨h.1, fun S w vs h1 h2 h3 => h.2 S w vs h1 (h2.trans hf.spec.1) fun j v av h4 h5 => by
    have hj : j < args'.length := (List.getElem?_eq_some_iff.1 h5).1
    obtain ⟨a, ha⟩ : ∃ a, args[j]? = some a := ⟨_, List.getElem?_eq_getElem (by rw [hf.spec.1]; exact hj)⟩
    exact (hf.spec.2 j a av ha h5).rt (h3 j v a h4 ha)⟩
theorem ARel.fits {P : Program} {f : FuncId} {args args' : List AV} {Post : Res → Prop} (h : ARel P f args' Post) (hf : FitsAs args args') : ARel P f args Post :=
  ⟨h.1, fun S w vs h1 h2 h3 => h.2 S w vs h1 (h2.trans hf.spec.1) fun j v av h4 h5 => by
    have hj : j < args'.length := (List.getElem?_eq_some_iff.1 h5).1
    obtain ⟨a, ha⟩ : ∃ a, args[j]? = some a := ⟨_, List.getElem?_eq_getElem (by rw [hf.spec.1]; exact hj)⟩
    exact (hf.spec.2 j a av ha h5).rt (h3 j v a h4 ha)⟩
/-- a call that gives back some number -/
theorem callPI {u : Bool} {P : Program} {st : ASt} {g : FuncId} {args : List AV} {dst : Option Nat} {K : ASt → Prop} (h : ARel P g (args.map (dref st.tab)) fun R => ∃ n, R = val (.int .i64 n)) (hk : ∀ n, K (st.put dst (.c (.int .i64 n)))) : aCall u P st g args (aK2 dst K) :=
  callP h fun R ⟨n, hR⟩ => by subst hR; exact ⟨.inr ⟨trivial, trivial⟩, hk n⟩
/-- a call that gives back some truth -/
theorem callPB {u : Bool} {P : Program} {st : ASt} {g : FuncId} {args : List AV} {dst : Option Nat} {K : ASt → Prop} {Q : Bool → Prop} (h : ARel P g (args.map (dref st.tab)) fun R => ∃ b, R = val (.bool b) ∧ Q b) (hk : ∀ b, Q b → K (st.put dst (.c (.bool b)))) : aCall u P st g args (aK2 dst K) :=
  callP h fun R ⟨b, hR, hq⟩ => by subst hR; exact ⟨.inr ⟨trivial, trivial⟩, hk b hq⟩
/-- a call that gives back some numbers of its own -/
theorem callPO {u : Bool} {P : Program} {st : ASt} {g : FuncId} {args : List AV} {K : AV → ASt → Prop} {e : TypeId} {Q : List Int → Prop} (h : ARel P g (args.map (dref st.tab)) fun R => ∃ o : List Int, R = own e 1 (o.map fun n => [eI n]) ∧ Q o) (hk : ∀ o, Q o → K (.osl st.next) ⟨st.n, st.env, (st.next, some (.row e 1 (o.map fun n => [eI n]))) :: st.tab, st.next + 1⟩) : aCall u P st g args K :=
  callP h fun R ⟨o, hR, hq⟩ => by
    subst hR
    have e1 : (own e 1 (o.map fun n => [eI n])).r.shift st.next = .osl st.next := by simp [own, AV.shift]
    have e2 : (own e 1 (o.map fun n => [eI n])).tab.shift st.next = [(st.next, some (.row e 1 (o.map fun n => [eI n])))] := by simp [own, ATab.shift, AObj.shift]
    rw [e1, e2]
    exact ⟨.inr ⟨trivial, ints_plain, trivial⟩, hk o hq⟩
theorem map_snoc (l : List Int) (n : Int) : (l ++ [n]).map (fun n => [eI n]) = l.map (fun n => [eI n]) ++ [[eI n]] := by simp
theorem map_app (a b : List Int) : (a ++ b).map (fun n => [eI n]) = a.map (fun n => [eI n]) ++ b.map (fun n => [eI n]) := by simp
section
variable {P : Program} {w : World} {d : Nat} {xs ys : Array Value} {f : Field} {fs : List Field}
theorem eqF_cons {x y : Value} {b : Bool} {u : TypeDesc} (hn : f.name ≠ "_") (hu : P.underlying f.type = some u) (hs : ∀ fs, u ≠ .struct fs) (ha : ∀ n e, u ≠ .array n e) (hx : xs[f.offset]? = some x) (hy : ys[f.offset]? = some y) (he : (Op.equalIn d f.type x y).run P w = .ok b w) : (Op.eqFields d xs ys (f :: fs)).run P w = if b = true then (Op.eqFields d xs ys fs).run P w else .ok false w := by
  have hp : ∀ (zs : Array Value) (z : Value), zs[f.offset]? = some z → (part f.type zs f.offset).run P w = .ok z w := fun zs z hz => by
    simp only [part, Sem.run_bind, isAgg, run_underlying hu, Result.andThen_ok]
    cases u with
    | struct fs => exact absurd rfl (hs fs)
    | array n e => exact absurd rfl (ha n e)
    | _ => simp [hz]
  simp only [Op.eqFields, hn, ne_eq, not_false_eq_true, if_true, Sem.run_bind, hp xs x hx, hp ys y hy, Result.andThen_ok, he]
  cases b <;> simp
/-- a struct's cells compared, one behind the other: each a truth, a number or a text -/
def cellEq : Value → Value → Option Bool
  | .bool a, .bool b => some (a == b)
  | .int k a, .int k' b => if k = k' then some (a == b) else none
  | .string a, .string b => some (a == b)
  | _, _ => none
def tyFits (P : Program) (t : TypeId) : Value → Bool
  | .bool _ => match P.underlying t with | some .bool => true | _ => false
  | .int k _ => match P.underlying t with | some (.int _) => true | _ => false
  | .string _ => match P.underlying t with | some .string => true | _ => false
  | _ => false
theorem cell_eq {t : TypeId} {x y : Value} {b : Bool} (h : cellEq x y = some b) (hx : tyFits P t x = true) : (Op.equalIn (d + 1) t x y).run P w = .ok b w ∧ ∃ u, P.underlying t = some u ∧ (∀ fs, u ≠ .struct fs) ∧ ∀ n e, u ≠ .array n e := by
  cases x <;> cases y <;> simp [cellEq] at h
  all_goals (unfold tyFits at hx; simp only at hx; split at hx)
  all_goals try cases hx
  · rename_i hu
    exact ⟨by simp [Op.equalIn, run_underlying hu, h], _, hu, by simp, by simp⟩
  · rename_i hu
    obtain ⟨rfl, rfl⟩ := h
    exact ⟨by simp [Op.equalIn, run_underlying hu], _, hu, by simp, by simp⟩
  · rename_i hu
    exact ⟨by simp [Op.equalIn, run_underlying hu, h], _, hu, by simp, by simp⟩
def cellsEq : List (Value × Value) → Option Bool
  | [] => some true
  | (x, y) :: l => match cellEq x y, cellsEq l with
    | some b, some c => some (b && c)
    | _, _ => none
theorem fields_eq : ∀ (fs : List Field) (l : List (Value × Value)) (b : Bool), fs.length = l.length → (∀ (k : Nat) (f : Field) (p : Value × Value), fs[k]? = some f → l[k]? = some p → f.name ≠ "_" ∧ tyFits P f.type p.1 = true ∧ xs[f.offset]? = some p.1 ∧ ys[f.offset]? = some p.2) → cellsEq l = some b → (Op.eqFields (d + 1) xs ys fs).run P w = .ok b w
  | [], [], b, _, _, h => by
    cases h
    simp [Op.eqFields]
  | f :: fs, (x, y) :: l, b, hl, hf, h => by
    unfold cellsEq at h
    split at h
    · rename_i b1 b2 h1 h2
      cases h
      obtain ⟨h3, h4, h5, h6⟩ := hf 0 f (x, y) rfl rfl
      obtain ⟨h7, u, hu, h8, h9⟩ := cell_eq (P := P) (w := w) (d := d) h1 h4
      rw [eqF_cons h3 hu h8 h9 h5 h6 h7, fields_eq fs l b2 (by simpa using hl) (fun k f p hk hp => hf (k + 1) f p (by simpa using hk) (by simpa using hp)) h2]
      cases b1 <;> simp
    · cases h
theorem structRun {t : TypeId} {op : BinOp} (l : List (Value × Value)) {b : Bool} (ht : P.underlying t = some (.struct (P.fieldsOf t))) (hs : P.stoodInHeld t = false) (hg : P.eqGuardType P.depth t = false) (hl : (P.fieldsOf t).toList.length = l.length)
    (hf : ∀ (k : Nat) (f : Field) (p : Value × Value), (P.fieldsOf t).toList[k]? = some f → l[k]? = some p → f.name ≠ "_" ∧ tyFits P f.type p.1 = true ∧ xs[f.offset]? = some p.1 ∧ ys[f.offset]? = some p.2) (h : cellsEq l = some b) (hop : op = .eql ∨ op = .neq) : BinRun P op t (.agg xs) (.agg ys) (.bool (if op matches .eql then b else !b)) := fun w x y => by
  have he : ∀ w, (Op.equalIn 10000 t (.agg xs) (.agg ys)).run P w = .ok b w := fun w => by
    rw [run_equalIn_agg w 9999 t xs ys ht hs]
    exact fields_eq (P := P) (d := 9998) _ l b hl hf h
  rcases hop with rfl | rfl
  · simp only [Sem.run_bind, run_eqGuard_agg w _ t x y xs ys hg, Result.andThen_ok, run_eql_struct, he]
    rfl
  · simp only [Sem.run_bind, run_eqGuard_agg w _ t x y xs ys hg, Result.andThen_ok, run_neq_struct, he]
    rfl
end
end Go.Proofs.Ytfocnmkbnccilaa
