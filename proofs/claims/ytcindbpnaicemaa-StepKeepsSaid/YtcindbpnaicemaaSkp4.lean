/-
  Parts of the proof: AlH.
-/
import Derived.Test.YtcindbpnaicemaaSkp3
import Derived.Deep.Quiet
import Derived.StillTail
import Derived.OrdersHeld
import Derived.Scope
set_option linter.unusedVariables false
set_option linter.unusedSimpArgs false
namespace Go.Proofs.Ytcindbpnaicemaa
section
open Go.RowKit

def aStore (P : Program) (t : TypeId) (st : ASt) (p x : AV) (K : ASt → Prop) : Prop :=
  match p with
  | .op id i j => match st.tab.get id with
    | some (.box ty cells) => i = 0 ∧ 0 < tySize P t ∧ (aCells x).length = tySize P t ∧ j + tySize P t ≤ cells.length ∧ oneCL st.tab (aCells x) ∧ K { st with tab := (id, some (.box ty (cells.take j ++ aCells x ++ cells.drop (j + tySize P t)))) :: st.tab }
    | some (.row e sz rows) => i < rows.length ∧ 0 < tySize P t ∧ (aCells x).length = tySize P t ∧ j + tySize P t ≤ sz ∧ oneCL st.tab (aCells x) ∧ treeL (aCells x) ∧ K { st with tab := (id, some (.row e sz (rows.set i ((rows[i]?.getD []).take j ++ aCells x ++ (rows[i]?.getD []).drop (j + tySize P t))))) :: st.tab }
    | some (.nest e sz rows) => i < rows.length ∧ 0 < tySize P t ∧ (aCells x).length = tySize P t ∧ j + tySize P t ≤ sz ∧ oneCL st.tab (aCells x) ∧ K { st with tab := (id, some (.nest e sz (rows.set i ((rows[i]?.getD []).take j ++ aCells x ++ (rows[i]?.getD []).drop (j + tySize P t))))) :: st.tab }
    | _ => False
  | _ => False
def aStoreB (P : Program) (t : TypeId) (st : ASt) (id i j : Nat) (x : AV) (K : ASt → Prop) : Prop :=
  match st.tab.get id with
  | some (.box ty cells) => i = 0 ∧ 0 < tySize P t ∧ (aCells x).length = tySize P t ∧ j + tySize P t ≤ cells.length ∧ oneCL st.tab (aCells x) ∧ K { st with tab := (id, some (.box ty (cells.take j ++ aCells x ++ cells.drop (j + tySize P t)))) :: st.tab }
  | some (.row e sz rows) => i < rows.length ∧ 0 < tySize P t ∧ (aCells x).length = tySize P t ∧ j + tySize P t ≤ sz ∧ oneCL st.tab (aCells x) ∧ treeL (aCells x) ∧ K { st with tab := (id, some (.row e sz (rows.set i ((rows[i]?.getD []).take j ++ aCells x ++ (rows[i]?.getD []).drop (j + tySize P t))))) :: st.tab }
  | some (.nest e sz rows) => i < rows.length ∧ 0 < tySize P t ∧ (aCells x).length = tySize P t ∧ j + tySize P t ≤ sz ∧ oneCL st.tab (aCells x) ∧ K { st with tab := (id, some (.nest e sz (rows.set i ((rows[i]?.getD []).take j ++ aCells x ++ (rows[i]?.getD []).drop (j + tySize P t))))) :: st.tab }
  | _ => False
def aBox (t : TypeId) (st : ASt) (x : AV) (dst : Option Nat) (K : ASt → Prop) : Prop :=
  oneCL st.tab (aCells x) ∧ K ({ st with tab := (st.next, some (.box t (aCells x))) :: st.tab, next := st.next + 1 }.put dst (.op st.next 0 0))
def aAppend (P : Program) (t : TypeId) (st : ASt) (x y : AV) (dst : Option Nat) (K : ASt → Prop) : Prop :=
  match tyRow P t with
  | some (e, sz, by_) => match aDst st.tab e sz x, aSrc st.tab sz y with
    | some (oid, rows), some rows2 => (rows.length + rows2.length ≤ 9223372036854775807 ∧ (rows.length + rows2.length) * by_ ≤ 140737488355328) ∧ K ({ st with tab := appTab st.tab st.next oid (.row e sz (rows ++ rows2)), next := st.next + 1 }.put dst (.osl st.next))
    | _, _ => match aDstN st.tab e sz x, aSrcN st.tab sz y with
      | some (oid, rows), some rows2 => (rows.length + rows2.length ≤ 9223372036854775807 ∧ (rows.length + rows2.length) * by_ ≤ 140737488355328) ∧ K ({ st with tab := appTab st.tab st.next oid (.nest e sz (rows ++ rows2)), next := st.next + 1 }.put dst (.osl st.next))
      | _, _ => False
  | none => False
def aBuildSlice1 (P : Program) (t : TypeId) (n : Nat) (parts : List (Nat × Operand)) (dst : Option Nat) (K : ASt → Prop) (st : ASt) : Prop :=
  match tyRow P t with
  | some (e, sz, _) => match ownIds (parts.flatMap fun (p : Nat × Operand) => aCells (aEv st p.2)) with
    | [] => (parts.map (·.1) = List.range' 0 parts.length ∧ n = parts.length ∧ parts.length * sz ≤ 16777216 ∧ aLit st.tab sz (parts.map fun p => aEv st p.2)) ∧
      K ({ st with tab := (st.next, some (.row e sz (parts.map fun (p : Nat × Operand) => aCells (aEv st p.2)))) :: st.tab, next := st.next + 1 }.put dst (.osl st.next))
    | _ :: _ => (parts.map (·.1) = List.range' 0 parts.length ∧ n = parts.length ∧ parts.length * sz ≤ 16777216 ∧ aLitN st.tab sz (parts.map fun p => aEv st p.2)) ∧
      K ({ st with tab := (st.next, some (.nest e sz (parts.map fun (p : Nat × Operand) => aCells (aEv st p.2)))) :: st.tab, next := st.next + 1 }.put dst (.osl st.next))
  | none => False
/-- the slices that it names are written no more -/
def aBuildSlice (P : Program) (t : TypeId) (n : Nat) (parts : List (Nat × Operand)) (st : ASt) (dst : Option Nat) (K : ASt → Prop) : Prop :=
  aBuildSlice1 P t n parts dst K (frzs st (ownIds (parts.flatMap fun (p : Nat × Operand) => aCells (aEv st p.2))))
def aMake (P : Program) (t : TypeId) (st : ASt) (l c : AV) (dst : Option Nat) (K : ASt → Prop) : Prop :=
  match tyRow P t, l, c with
  | some (e, sz, by_), .c (.int _ n), .c (.int _ m) => match tyZero P e with
    | some z => (m = n ∧ oneCL [] (aCells (.c z)) ∧ 0 ≤ n ∧ n ≤ 16777216 ∧ (by_ : Int) * n ≤ 281474976710656) ∧ K ({ st with tab := (st.next, some (mkO (isMk t) e sz (List.replicate n.toNat (aCells (.c z))))) :: st.tab, next := st.next + 1 }.put dst (.osl st.next))
    | none => False
  | _, _, _ => False
def aBuild (P : Program) (t : TypeId) (st : ASt) (parts : List (Nat × Operand)) (dst : Option Nat) (K : ASt → Prop) : Prop :=
  match tyParts P t with
  | some (places, zs) => match aFill places (zs.map .c) (parts.map fun p => (p.1, aEv st p.2)) with
    | some cs => oneParts st.tab (parts.map fun p => (p.1, aEv st p.2)) ∧ K (st.put dst (.agg cs))
    | none => False
  | none => False
def aMax (h : Int) (b : Bool) : Option AV → Prop
  | none => True
  | some (.c (.int _ m)) => m = h ∧ b = true
  | _ => False
def aSliceO (P : Program) (t : TypeId) (st : ASt) (id e sz : Nat) (rows : List (List AV)) (b : Bool) (mx : Option AV) (dst : Option Nat) (K : ASt → Prop) : Option Int → Option Int → Prop
  | some l, some h => ((tyElem P t).2 = sz ∧ 0 < sz) ∧ (l = 0 ∧ 0 ≤ h ∧ h ≤ (rows.length : Int) ∧ aMax h b mx) ∧ K ({ st with tab := appTab st.tab st.next (some id) (.row e sz (rows.take h.toNat)), next := st.next + 1 }.put dst (.osl st.next))
  | _, _ => False
/-- a part; a head, if it is the call's own -/
def aSliceW (P : Program) (t : TypeId) (st : ASt) (x : AV) (lo hi mx : Option AV) (dst : Option Nat) (K : ASt → Prop) : Prop :=
  match x with
  | .osl id => match st.tab.get id with
    | some (.row e sz rows) => aSliceO P t st id e sz rows hi.isSome mx dst K (aBd 0 lo) (aBd rows.length hi)
    | _ => False
  | x => aSlice P t x lo hi mx fun av => K (st.put dst av)
def aFn (f : AV) (K : FuncId → List AV → Prop) : Prop :=
  match f with
  | .c (.func (.func g) first caps) => (first = #[] ∧ caps = #[]) ∧ K g []
  | .fn g cs => K g cs
  | _ => False
/-- a function, or a method with its receiver -/
def aFnB (f : AV) (KB K : FuncId → List AV → Prop) : Prop :=
  match f with
  | .bfn g bs => KB g bs
  | f => aFn f K
/-! what follows, without a bound variable: for simp -/
def aK (st : ASt) (dst : Option Nat) (K : ASt → Prop) (av : AV) : Prop := K (st.put dst av)
def aK2 (dst : Option Nat) (K : ASt → Prop) (av : AV) (st : ASt) : Prop := K (st.put dst av)
def aKs (dst : Option Nat) (K : ASt → Prop) (st : ASt) : Prop := K (st.put dst .any)
def aSkip (dst : Option Nat) (K : ASt → Prop) (st : ASt) : Prop := K (st.put dst (.c undef))
def aCallF (P : Program) (st : ASt) (args : List Operand) (dst : Option Nat) (K : ASt → Prop) (g : FuncId) (cs : List AV) : Prop := aCall none P st g (args.map (aEv st) ++ cs) (aK2 dst K)
def aCallB (P : Program) (st : ASt) (args : List Operand) (dst : Option Nat) (K : ASt → Prop) (g : FuncId) (bs : List AV) : Prop := aCall none P st g (bs ++ args.map (aEv st)) (aK2 dst K)
def aCallE (P : Program) (nx0 : Nat) (ids : List Nat) (st : ASt) (args : List Operand) (dst : Option Nat) (K : ASt → Prop) (g : FuncId) (cs : List AV) : Prop := aCall (some (nx0, ids)) P st g (args.map (aEv st) ++ cs) (aK2 dst K)
def aCallD (P : Program) (st : ASt) (args : List Operand) (dst : Option Nat) (K : ASt → Prop) (g : FuncId) (cs : List AV) : Prop := ∃ v, ADet P g ((args.map (aEv st) ++ cs).map (dref st.tab)) ⟨.c v, [], 0⟩ ∧ K (st.put dst (.c v))
def aOp (P : Program) (o : Oper) (K : ASt → Prop) (st : ASt) : Prop :=
  match o.op with
  | .box t x => aBox t st (aEv st x) o.dst K
  | .alloc t => match tyZero P t with
    | some z => aBox t st (.c z) o.dst K
    | none => False
  | .store t p x => aStore P t st (aEv st p) (aEv st x) (aKs o.dst K)
  | .buildSlice t n parts => aBuildSlice P t n parts.toList st o.dst K
  | .makeSlice t l c => aMake P t st (aEv st l) (aEv st c) o.dst K
  | .build t parts => aBuild P t st parts.toList o.dst K
  | .slice t x lo hi mx => aSliceW P t st (aEv st x) (lo.map (aEv st)) (hi.map (aEv st)) (mx.map (aEv st)) o.dst K
  | .makeMap _ r => aMakeMap st r.isNone o.dst K
  | .lookup t m k ok => aLookup P t st.tab (aEv st m) (aEv st k) ok (aK st o.dst K)
  | .mapUpdate t m k v => aMapUpd P t st (aEv st m) (aEv st k) (aEv st v) (aKs o.dst K)
  | .call c => match c.callee with
    | .builtin .append => match c.args.toList, c.argTypes.toList with
      | [x, y], [t, t'] => t = t' ∧ aAppend P t st (aEv st x) (aEv st y) o.dst K
      | _, _ => False
    | .builtin .clear => aClears P st c.args.toList c.argTypes.toList o.dst K
    | .builtin .len => aLenMs P st.tab (aEv st) c.args.toList c.argTypes.toList (aK st o.dst K) ∨ aPure P st.tab (aEv st) (.call c) (aK st o.dst K)
    | .value f => aFnB (aEv st f) (aCallB P st c.args.toList o.dst K) (aCallF P st c.args.toList o.dst K)
    | _ => aPure P st.tab (aEv st) (.call c) (aK st o.dst K)
  | op => aPure P st.tab (aEv st) op (aK st o.dst K)
def yv : Value → Option Bool
  | .bool b => some b
  | _ => none
/-- what waits for the outcome of a test in slot d -/
def aGd (b want : Bool) (d : Nat) (yes no : ASt → Prop) (st : ASt) : Prop :=
  match b, want with
  | true, true => yes (st.put (some d) (.c (.bool true)))
  | false, false => yes (st.put (some d) (.c (.bool false)))
  | true, false => no (st.put (some d) (.c (.bool true)))
  | false, true => no (st.put (some d) (.c (.bool false)))
section
variable {b want : Bool} {d : Nat} {yes no : ASt → Prop} {st : ASt}
theorem aGd_tt : aGd true true d yes no st = yes (st.put (some d) (.c (.bool true))) := rfl
theorem aGd_ff : aGd false false d yes no st = yes (st.put (some d) (.c (.bool false))) := rfl
theorem aGd_tf : aGd true false d yes no st = no (st.put (some d) (.c (.bool true))) := rfl
theorem aGd_ft : aGd false true d yes no st = no (st.put (some d) (.c (.bool false))) := rfl
theorem aGd_split (h1 : b = true → aGd true want d yes no st) (h2 : b = false → aGd false want d yes no st) : aGd b want d yes no st := by
  cases b
  · exact h2 rfl
  · exact h1 rfl
end
def aGuard (ops : Array Oper) (g : Option (Nat × Bool)) (yes no : ASt → Prop) (st : ASt) : Prop :=
  match g with
  | none => yes st
  | some (j, want) => match (ops[j]?).bind (·.dst) with
    | some d => match st.get d with
      | .c v => match yv v with
        | some b => aGd b want d yes no st
        | none => no st
      | _ => False
    | none => False
def aOps (P : Program) (ops : Array Oper) (K : ASt → Prop) : List Oper → ASt → Prop
  | [], st => K st
  | o :: rest, st => aGuard ops o.guard (aOp P o (aOps P ops K rest)) (aSkip o.dst (aOps P ops K rest)) st
/-- an operation of a region in any order: it computes, reads, or calls what gives back one value -/
def aDop (P : Program) (o : Oper) (K : ASt → Prop) (st : ASt) : Prop :=
  match o.op with
  | .call c => match c.callee with
    | .value f => aFn (aEv st f) (aCallD P st c.args.toList o.dst K)
    | _ => aPure P st.tab (aEv st) (.call c) (aK st o.dst K)
  | .build t parts => aBuild P t st parts.toList o.dst K
  | op => aPure P st.tab (aEv st) op (aK st o.dst K)
def aDops (P : Program) (ops : Array Oper) (K : ASt → Prop) : List Oper → ASt → Prop
  | [], st => K st
  | o :: rest, st => aGuard ops o.guard (aDop P o (aDops P ops K rest)) (aSkip o.dst (aDops P ops K rest)) st
/-- a head that computes and reads, in any order -/
def aPops (P : Program) (ops : Array Oper) (K : ASt → Prop) : List Oper → ASt → Prop
  | [], st => K st
  | o :: rest, st => aGuard ops o.guard (aPop P o (aPops P ops K rest)) (aSkip o.dst (aPops P ops K rest)) st
where aPop (P : Program) (o : Oper) (K : ASt → Prop) (st : ASt) : Prop := aPure P st.tab (aEv st) o.op (aK st o.dst K)
/-- a schedule. take: what computes may come first · exec: what alone may come now · two: either of two -/
inductive Sch where
  | done
  | take (i : Nat) (s : Sch)
  | exec (i : Nat) (s : Sch)
  | two (i : Nat) (s : Sch) (j : Nat) (t : Sch)
  | three (i : Nat) (s : Sch) (j : Nat) (t : Sch) (k : Nat) (u : Sch)
  | four (i : Nat) (s : Sch) (j : Nat) (t : Sch) (k : Nat) (u : Sch) (l : Nat) (v : Sch)
def Sch.len : Sch → Nat
  | .done => 0
  | .take _ s => s.len + 1
  | .exec _ s => s.len + 1
  | .two _ s _ t => Nat.max s.len t.len + 1
  | .three _ s _ t _ u => Nat.max s.len (Nat.max t.len u.len) + 1
  | .four _ s _ t _ u _ v => Nat.max s.len (Nat.max t.len (Nat.max u.len v.len)) + 1
def schedS (ops : Array Oper) : Sch → Array Bool → Bool
  | .take i s, listed => Region.free .any ops listed i && (Region.ready .any ops listed).contains i && schedS ops s (listed.setIfInBounds i true)
  | .exec i s, listed => decide (Region.ready .any ops listed = [i]) && schedS ops s (listed.setIfInBounds i true)
  | .two i s j t, listed => decide (Region.ready .any ops listed = [i, j]) && schedS ops s (listed.setIfInBounds i true) && schedS ops t (listed.setIfInBounds j true)
  | .three i s j t k u, listed => decide (Region.ready .any ops listed = [i, j, k]) && schedS ops s (listed.setIfInBounds i true) && schedS ops t (listed.setIfInBounds j true) && schedS ops u (listed.setIfInBounds k true)
  | .four i s j t k u l v, listed => decide (Region.ready .any ops listed = [i, j, k, l]) && schedS ops s (listed.setIfInBounds i true) && schedS ops t (listed.setIfInBounds j true) && schedS ops u (listed.setIfInBounds k true) && schedS ops v (listed.setIfInBounds l true)
  | .done, listed => (Region.ready .any ops listed).isEmpty
def schedB (ops : Array Oper) : List Nat → Sch → Array Bool → Bool
  | i :: h, s, listed => Region.free .any ops listed i && (Region.ready .any ops listed).contains i && schedB ops h s (listed.setIfInBounds i true)
  | [], s, listed => schedS ops s listed
def aFresh (nx0 : Nat) (ids : List Nat) : AV → Prop
  | .osl id => aMay nx0 ids id
  | _ => True
/-- what may be carried out while others float: ids: the elder objects that are written -/
def aExec (P : Program) (nx0 : Nat) (ids : List Nat) (o : Oper) (K : ASt → Prop) (st : ASt) : Prop :=
  match o.op with
  | .assign x => K (st.put o.dst (aEv st x))
  | .load _ _ => aPure P st.tab (aEv st) o.op (aK st o.dst K)
  | .lookup t m k ok => aLookup P t st.tab (aEv st m) (aEv st k) ok (aK st o.dst K)
  | .mapUpdate t m k v => match aEv st m with
    | .osl id => aMay nx0 ids id ∧ aMapUpd P t st (.osl id) (aEv st k) (aEv st v) (aKs o.dst K)
    | _ => False
  | .store t p x => match aEv st p with
    | .op id i j => aMay nx0 ids id ∧ aStoreB P t st id i j (aEv st x) (aKs o.dst K)
    | _ => False
  | .alloc t => match tyZero P t with
    | some z => aBox t st (.c z) o.dst K
    | none => False
  | .box t x => aBox t st (aEv st x) o.dst K
  | .buildSlice t n parts => aBuildSlice P t n parts.toList st o.dst K
  | .makeSlice t l c => aMake P t st (aEv st l) (aEv st c) o.dst K
  | .call c => match c.callee with
    | .builtin .append => match c.args.toList, c.argTypes.toList with
      | [x, y], [t, t'] => (t = t' ∧ aFresh nx0 ids (aEv st x)) ∧ aAppend P t st (aEv st x) (aEv st y) o.dst K
      | _, _ => False
    | .value f => aFn (aEv st f) (aCallE P nx0 ids st c.args.toList o.dst K)
    | _ => False
  | _ => False
/-- it is loaded from none of these -/
def aFrom (ids : List Nat) : AV → Prop
  | .op id _ _ => id ∉ ids
  | .rp _ => True
  | _ => False
def aTakes (ids : List Nat) (st : ASt) : Op → Prop
  | .load _ x => aFrom ids (aEv st x)
  | _ => True
/-- it computes; a struct put together too -/
def aTakeP (P : Program) (dst : Option Nat) (op : Op) (K : ASt → Prop) (st : ASt) : Prop :=
  match op with
  | .build t parts => aBuild P t st parts.toList dst K
  | op => aPure P st.tab (aEv st) op (aK st dst K)
def aTakeY (P : Program) (ids : List Nat) (o : Oper) (K : ASt → Prop) (st : ASt) : Prop := aTakes ids st o.op ∧ aTakeP P o.dst o.op K st
/-- it is loaded from an elder variable that is not written -/
def aElder (nx0 : Nat) (ids : List Nat) (tab : ATab) : AV → Prop
  | .op id _ _ => id < nx0 ∧ id ∉ ids ∧ match tab.get id with
    | some _ => True
    | none => False
  | _ => False
def aTakeE (nx0 : Nat) (ids : List Nat) (st : ASt) : Op → Prop
  | .load _ x => aElder nx0 ids st.tab (aEv st x)
  | _ => True
def aTakeN (P : Program) (nx0 : Nat) (ids : List Nat) (o : Oper) (K : ASt → Prop) (st : ASt) : Prop := aTakeE nx0 ids st o.op ∧ aTakeP P o.dst o.op K st
def aHeldT (P : Program) (ops : Array Oper) (nx0 : Nat) (ids : List Nat) (o : Option Oper) (K : ASt → Prop) (st : ASt) : Prop :=
  match o with
  | some o => aGuard ops o.guard (aTakeN P nx0 ids o K) (aSkip o.dst K) st
  | none => False
def aHeldL (P : Program) (ops : Array Oper) (ids : List Nat) (o : Option Oper) (K : ASt → Prop) (st : ASt) : Prop :=
  match o with
  | some o => aGuard ops o.guard (aTakeY P ids o K) (aSkip o.dst K) st
  | none => False
def aHeldE (P : Program) (ops : Array Oper) (nx0 : Nat) (ids : List Nat) (o : Option Oper) (K : ASt → Prop) (st : ASt) : Prop :=
  match o with
  | some o => aGuard ops o.guard (aExec P nx0 ids o K) (aSkip o.dst K) st
  | none => False
def aHeld (P : Program) (ops : Array Oper) (nx0 : Nat) (ids : List Nat) (K : ASt → Prop) : Sch → ASt → Prop
  | .done, st => K st
  | .take i s, st => aHeldT P ops nx0 ids ops[i]? (aHeld P ops nx0 ids K s) st
  | .exec i s, st => aHeldE P ops nx0 ids ops[i]? (aHeld P ops nx0 ids K s) st
  | .two i s j t, st => aHeldE P ops nx0 ids ops[i]? (aHeld P ops nx0 ids K s) st ∧ aHeldE P ops nx0 ids ops[j]? (aHeld P ops nx0 ids K t) st
  | .three i s j t k u, st => aHeldE P ops nx0 ids ops[i]? (aHeld P ops nx0 ids K s) st ∧ aHeldE P ops nx0 ids ops[j]? (aHeld P ops nx0 ids K t) st ∧ aHeldE P ops nx0 ids ops[k]? (aHeld P ops nx0 ids K u) st
  | .four i s j t k u l v, st => aHeldE P ops nx0 ids ops[i]? (aHeld P ops nx0 ids K s) st ∧ aHeldE P ops nx0 ids ops[j]? (aHeld P ops nx0 ids K t) st ∧ aHeldE P ops nx0 ids ops[k]? (aHeld P ops nx0 ids K u) st ∧ aHeldE P ops nx0 ids ops[l]? (aHeld P ops nx0 ids K v) st
def aHeldH (P : Program) (ops : Array Oper) (ids : List Nat) (K : ASt → Prop) : List Nat → ASt → Prop
  | [], st => K st
  | i :: s, st => aHeldL P ops ids ops[i]? (aHeldH P ops ids K s) st
def Weak (st st' : ASt) : Prop := ∀ cx a w L, Conc cx a w st L → ∃ L', Conc cx a w st' L' ∧ ∀ b, Sx cx w st.tab L b → Sx cx w st'.tab L' b
theorem Weak.reflH (st : ASt) : Weak st st := fun _ _ _ L h => ⟨L, h, fun _ hb => hb⟩
/-- a region in any order: three ways to meet it -/
inductive aDraw (P : Program) (ops : Array Oper) (K : ASt → Prop) (st : ASt) : Prop
  | quiet (hB : Region.lexB .any ops = true) (h : aDops P ops K ops.toList st)
  | tail (n : Nat) (hB : Region.lexTailB .any ops n = true) (h : aPops P ops (aOps P ops K (ops.toList.drop n)) (ops.toList.take n) st)
  | held (ids : List Nat) (hd : List Nat) (s : Sch) (hB : (Region.noSelect ops && schedB ops hd s (Array.replicate ops.size false) && Nat.ble (hd.length + s.len) ops.size) = true) (K' : ASt → Prop) (hK : ∀ st, K' st → ∃ st', Weak st st' ∧ K st') (h : (∀ id ∈ ids, (st.tab.get id).isSome = true) ∧ aHeldH P ops ids (aHeld P ops st.next ids K' s) hd st)
theorem aDraw_quiet {P : Program} {l : List Oper} {K : ASt → Prop} {st : ASt} (hB : Region.lexB .any l.toArray = true) (h : aDops P l.toArray K l st) : aDraw P l.toArray K st := .quiet hB h
theorem aDraw_held {P : Program} {l : List Oper} {K : ASt → Prop} {st : ASt} (ids : List Nat) (hd : List Nat) (s : Sch) (hB : (Region.noSelect l.toArray && schedB l.toArray hd s (Array.replicate l.toArray.size false) && Nat.ble (hd.length + s.len) l.toArray.size) = true) (hids : ∀ id ∈ ids, (st.tab.get id).isSome = true) (h : aHeldH P l.toArray ids (aHeld P l.toArray st.next ids K s) hd st) : aDraw P l.toArray K st := .held ids hd s hB K (fun st h1 => ⟨st, .reflH st, h1⟩) ⟨hids, h⟩
/-- behind it one of I, whichever way it came -/
def aTo (I : ASt → Prop) (st : ASt) : Prop := ∃ st', Weak st st' ∧ I st'
/-- whichever order is drawn, what follows is proved once -/
theorem aDraw_join {P : Program} {l : List Oper} {K : ASt → Prop} {st : ASt} (J : ASt → Prop) (ids : List Nat) (hd : List Nat) (s : Sch) (hB : (Region.noSelect l.toArray && schedB l.toArray hd s (Array.replicate l.toArray.size false) && Nat.ble (hd.length + s.len) l.toArray.size) = true) (hids : ∀ id ∈ ids, (st.tab.get id).isSome = true) (h : aHeldH P l.toArray ids (aHeld P l.toArray st.next ids (aTo J) s) hd st) (hJ : ∀ st, J st → K st) : aDraw P l.toArray K st :=
  .held ids hd s hB (aTo J) (fun st ⟨st', hw, h1⟩ => ⟨st', hw, hJ st' h1⟩) ⟨hids, h⟩
def aThen (next : ASt → Prop) (Q : Exit → ASt → Prop) : Exit → ASt → Prop
  | .normal, st => next st
  | e, st => Q e st
def aInBlock (id : Nat) (Q : Exit → ASt → Prop) : Exit → ASt → Prop
  | .exit id', st => if id' = id then Q .normal st else Q (.exit id') st
  | e, st => Q e st
/-- one of two, by a truth -/
def aIf (t : Bool) (x y : ASt → Prop) (st : ASt) : Prop := match t with | true => x st | false => y st
theorem aIf_true {x y : ASt → Prop} {st : ASt} : aIf true x y st = x st := rfl
theorem aIf_false {x y : ASt → Prop} {st : ASt} : aIf false x y st = y st := rfl
theorem aIf_split {t : Bool} {x y : ASt → Prop} {st : ASt} (h1 : t = true → aIf true x y st) (h2 : t = false → aIf false x y st) : aIf t x y st := by
  cases t
  · exact h2 rfl
  · exact h1 rfl
def aCond (c : AV) (x y : ASt → Prop) (st : ASt) : Prop :=
  match c with
  | .c (.bool b) => aIf b x y st
  | _ => False
def aRound (I : ASt → Prop) (μ : ASt → Nat) (n : Nat) (st : ASt) : Prop := ∃ st', Weak st st' ∧ I st' ∧ μ st' < n
def aReg (P : Program) (ops : Array Oper) (draw : Bool) (K : ASt → Prop) (st : ASt) : Prop := if draw = true then aDraw P ops K st else aOps P ops K ops.toList st
/-- no jump to a label -/
def aNoGoto (Q : Exit → ASt → Prop) : Exit → ASt → Prop
  | .goto _, _ => False
  | e, st => Q e st
def aCode (P : Program) : Code → (Exit → ASt → Prop) → ASt → Prop
  | .skip, Q, st => Q .normal st
  | .region _ ops draw, Q, st => aReg P ops draw (Q .normal) st
  | .seq x y, Q, st => aCode P x (aThen (aCode P y Q) Q) st
  | .cond c x y, Q, st => aCond (aEv st c) (aCode P x Q) (aCode P y Q) st
  | .block id x, Q, st => aCode P x (aInBlock id Q) st
  | .loop x, Q, st => ∃ (I : ASt → Prop) (μ : ASt → Nat), (∃ st', Weak st st' ∧ I st') ∧ ∀ st, I st → aCode P x (aThen (aRound I μ (μ st)) Q) st
  | .exit id, Q, st => Q (.exit id) st
  | .ret, Q, st => Q .ret st
  | .rangeFunc g ps assign body, Q, st => ∀ (cx : Cx) (a : Act) (w : World) (L : Nat → Value), Conc cx a w st L → (Code.rangeFunc g ps assign body).wp P (fun e a w => ∃ st L, Q e st ∧ Conc cx a w st L) a w
  | .label _, Q, st => Q .normal st
  | .scope x, Q, st => aCode P x (aNoGoto Q) st
  | _, _, _ => False
/-- a loop -/
def aLoop (P : Program) (x : Code) (Q : Exit → ASt → Prop) (st : ASt) : Prop := aCode P (.loop x) Q st
theorem aLoop_of {P : Program} {x : Code} {Q : Exit → ASt → Prop} {st : ASt} (I : ASt → Prop) (μ : ASt → Nat) (h0 : ∃ st', Weak st st' ∧ I st') (h : ∀ st, I st → aCode P x (aThen (aRound I μ (μ st)) Q) st) : aLoop P x Q st := ⟨I, μ, h0, h⟩

section
variable {P : Program} {Q : Exit → ASt → Prop} {st : ASt}
theorem aCode_skip : aCode P .skip Q st = Q .normal st := rfl
theorem aCode_regF {id : Nat} {l : List Oper} : aCode P (.region id l.toArray false) Q st = aOps P l.toArray (Q .normal) l st := by simp [aCode, aReg]
theorem aCode_regT {id : Nat} {l : List Oper} : aCode P (.region id l.toArray true) Q st = aDraw P l.toArray (Q .normal) st := by simp [aCode, aReg]
theorem aCode_seq {x y : Code} : aCode P (.seq x y) Q st = aCode P x (aThen (aCode P y Q) Q) st := rfl
theorem aCode_cond {c : Operand} {x y : Code} : aCode P (.cond c x y) Q st = aCond (aEv st c) (aCode P x Q) (aCode P y Q) st := rfl
theorem aCode_block {id : Nat} {x : Code} : aCode P (.block id x) Q st = aCode P x (aInBlock id Q) st := rfl
theorem aCode_loop {x : Code} : aCode P (.loop x) Q st = aLoop P x Q st := rfl
theorem aCode_exit {id : Nat} : aCode P (.exit id) Q st = Q (.exit id) st := rfl
theorem aCode_ret : aCode P .ret Q st = Q .ret st := rfl
theorem aCode_label {l : Nat} : aCode P (.label l) Q st = Q .normal st := rfl
theorem aCode_scope {x : Code} : aCode P (.scope x) Q st = aCode P x (aNoGoto Q) st := rfl
theorem aNoGoto_normal : aNoGoto Q .normal st = Q .normal st := rfl
theorem aNoGoto_ret : aNoGoto Q .ret st = Q .ret st := rfl
theorem aNoGoto_exit {id : Nat} : aNoGoto Q (.exit id) st = Q (.exit id) st := rfl
theorem aThen_normal {next : ASt → Prop} : aThen next Q .normal st = next st := rfl
theorem aThen_exit {next : ASt → Prop} {id : Nat} : aThen next Q (.exit id) st = Q (.exit id) st := rfl
theorem aThen_ret {next : ASt → Prop} : aThen next Q .ret st = Q .ret st := rfl
theorem aInBlock_normal {id : Nat} : aInBlock id Q .normal st = Q .normal st := rfl
theorem aInBlock_ret {id : Nat} : aInBlock id Q .ret st = Q .ret st := rfl
theorem aInBlock_exit {id id' : Nat} : aInBlock id Q (.exit id') st = if id' = id then Q .normal st else Q (.exit id') st := rfl
theorem aCond_bool {b : Bool} {x y : ASt → Prop} : aCond (.c (.bool b)) x y st = aIf b x y st := rfl
theorem aSkip_eq {dst : Option Nat} {K : ASt → Prop} : aSkip dst K st = K (st.put dst (.c undef)) := rfl
theorem aKs_eq {dst : Option Nat} {K : ASt → Prop} : aKs dst K st = K (st.put dst .any) := rfl
theorem aK_eq {dst : Option Nat} {K : ASt → Prop} {av : AV} : aK st dst K av = K (st.put dst av) := rfl
theorem aK2_eq {dst : Option Nat} {K : ASt → Prop} {av : AV} : aK2 dst K av st = K (st.put dst av) := rfl
theorem aFn_eq {g : FuncId} {K : FuncId → List AV → Prop} : aFn (.c (.func (.func g) #[] #[])) K = K g [] := by simp [aFn]
theorem aFnB_eq {g : FuncId} {KB K : FuncId → List AV → Prop} : aFnB (.c (.func (.func g) #[] #[])) KB K = K g [] := by simp [aFnB, aFn]
theorem aFnB_clo {g : FuncId} {cs : List AV} {KB K : FuncId → List AV → Prop} : aFnB (.fn g cs) KB K = K g cs := rfl
theorem aFnB_bfn {g : FuncId} {cs : List AV} {KB K : FuncId → List AV → Prop} : aFnB (.bfn g cs) KB K = KB g cs := rfl
theorem aFn_clo {g : FuncId} {cs : List AV} {K : FuncId → List AV → Prop} : aFn (.fn g cs) K = K g cs := rfl
theorem aCallF_eq {args : List Operand} {dst : Option Nat} {K : ASt → Prop} {g : FuncId} {cs : List AV} : aCallF P st args dst K g cs = aCall none P st g (args.map (aEv st) ++ cs) (aK2 dst K) := rfl
theorem aCallB_eq {args : List Operand} {dst : Option Nat} {K : ASt → Prop} {g : FuncId} {cs : List AV} : aCallB P st args dst K g cs = aCall none P st g (cs ++ args.map (aEv st)) (aK2 dst K) := rfl
theorem aCallE_eq {nx0 : Nat} {ids : List Nat} {args : List Operand} {dst : Option Nat} {K : ASt → Prop} {g : FuncId} {cs : List AV} : aCallE P nx0 ids st args dst K g cs = aCall (some (nx0, ids)) P st g (args.map (aEv st) ++ cs) (aK2 dst K) := rfl
theorem aCallD_eq {args : List Operand} {dst : Option Nat} {K : ASt → Prop} {g : FuncId} {cs : List AV} : aCallD P st args dst K g cs = ∃ v, ADet P g ((args.map (aEv st) ++ cs).map (dref st.tab)) ⟨.c v, [], 0⟩ ∧ K (st.put dst (.c v)) := rfl
section
variable {ops : Array Oper} {K : ASt → Prop} {dst : Option Tmp} {op : Op} {ty : TypeId} {pos : String} {aft : Array Edge} {gd : Option (Nat × Bool)} {rest : List Oper} {j : Nat} {want : Bool}
theorem aOps_nil : aOps P ops K [] st = K st := rfl
theorem aOps_plain : aOps P ops K (⟨dst, op, ty, pos, aft, none⟩ :: rest) st = aOp P ⟨dst, op, ty, pos, aft, none⟩ (aOps P ops K rest) st := rfl
def aGuardV (v : AV) (want : Bool) (d : Nat) (yes no : ASt → Prop) (st : ASt) : Prop :=
  match v with
  | .c v => match yv v with
    | some b => aGd b want d yes no st
    | none => no st
  | _ => False
def aGuardD (d : Option Nat) (want : Bool) (yes no : ASt → Prop) (st : ASt) : Prop := match d with | some d => aGuardV (st.get d) want d yes no st | none => False
theorem aGuardD_eq {d : Nat} {yes no : ASt → Prop} : aGuardD (some d) want yes no st = aGuardV (st.get d) want d yes no st := rfl
theorem aGuardV_bool {b : Bool} {d : Nat} {yes no : ASt → Prop} : aGuardV (.c (.bool b)) want d yes no st = aGd b want d yes no st := rfl
theorem aGuardV_undef {d : Nat} {yes no : ASt → Prop} : aGuardV (.c undef) want d yes no st = no st := rfl
theorem aOps_guard : aOps P ops K (⟨dst, op, ty, pos, aft, some (j, want)⟩ :: rest) st = aGuardD ((ops[j]?).bind (·.dst)) want (aOp P ⟨dst, op, ty, pos, aft, some (j, want)⟩ (aOps P ops K rest)) (aSkip dst (aOps P ops K rest)) st := rfl
theorem aPops_nil : aPops P ops K [] st = K st := rfl
theorem aPops_plain : aPops P ops K (⟨dst, op, ty, pos, aft, none⟩ :: rest) st = aPure P st.tab (aEv st) op (aK st dst (aPops P ops K rest)) := rfl
theorem aPops_guard : aPops P ops K (⟨dst, op, ty, pos, aft, some (j, want)⟩ :: rest) st = aGuardD ((ops[j]?).bind (·.dst)) want (aPops.aPop P ⟨dst, op, ty, pos, aft, some (j, want)⟩ (aPops P ops K rest)) (aSkip dst (aPops P ops K rest)) st := rfl
theorem aPop_eq : aPops.aPop P ⟨dst, op, ty, pos, aft, gd⟩ K st = aPure P st.tab (aEv st) op (aK st dst K) := rfl
theorem aHeldH_nil {ids : List Nat} : aHeldH P ops ids K [] st = K st := rfl
theorem aHeldH_cons {ids : List Nat} {i : Nat} {s : List Nat} : aHeldH P ops ids K (i :: s) st = aHeldL P ops ids ops[i]? (aHeldH P ops ids K s) st := rfl
theorem aHeld_nil {nx0 : Nat} {ids : List Nat} : aHeld P ops nx0 ids K .done st = K st := rfl
theorem aHeld_take {nx0 i : Nat} {ids : List Nat} {s : Sch} : aHeld P ops nx0 ids K (.take i s) st = aHeldT P ops nx0 ids ops[i]? (aHeld P ops nx0 ids K s) st := rfl
theorem aHeld_exec {nx0 i : Nat} {ids : List Nat} {s : Sch} : aHeld P ops nx0 ids K (.exec i s) st = aHeldE P ops nx0 ids ops[i]? (aHeld P ops nx0 ids K s) st := rfl
theorem aHeld_two {nx0 i j : Nat} {ids : List Nat} {s t : Sch} : aHeld P ops nx0 ids K (.two i s j t) st = (aHeldE P ops nx0 ids ops[i]? (aHeld P ops nx0 ids K s) st ∧ aHeldE P ops nx0 ids ops[j]? (aHeld P ops nx0 ids K t) st) := rfl
theorem aHeld_three {nx0 i j k : Nat} {ids : List Nat} {s t u : Sch} : aHeld P ops nx0 ids K (.three i s j t k u) st = (aHeldE P ops nx0 ids ops[i]? (aHeld P ops nx0 ids K s) st ∧ aHeldE P ops nx0 ids ops[j]? (aHeld P ops nx0 ids K t) st ∧ aHeldE P ops nx0 ids ops[k]? (aHeld P ops nx0 ids K u) st) := rfl
theorem aHeld_four {nx0 i j k l : Nat} {ids : List Nat} {s t u v : Sch} : aHeld P ops nx0 ids K (.four i s j t k u l v) st = (aHeldE P ops nx0 ids ops[i]? (aHeld P ops nx0 ids K s) st ∧ aHeldE P ops nx0 ids ops[j]? (aHeld P ops nx0 ids K t) st ∧ aHeldE P ops nx0 ids ops[k]? (aHeld P ops nx0 ids K u) st ∧ aHeldE P ops nx0 ids ops[l]? (aHeld P ops nx0 ids K v) st) := rfl
theorem aHeldL_plain {ids : List Nat} : aHeldL P ops ids (some ⟨dst, op, ty, pos, aft, none⟩) K st = (aTakes ids st op ∧ aTakeP P dst op K st) := rfl
theorem aHeldL_guard {ids : List Nat} : aHeldL P ops ids (some ⟨dst, op, ty, pos, aft, some (j, want)⟩) K st = aGuardD ((ops[j]?).bind (·.dst)) want (aTakeY P ids ⟨dst, op, ty, pos, aft, some (j, want)⟩ K) (aSkip dst K) st := rfl
theorem aHeldT_plain {nx0 : Nat} {ids : List Nat} : aHeldT P ops nx0 ids (some ⟨dst, op, ty, pos, aft, none⟩) K st = (aTakeE nx0 ids st op ∧ aTakeP P dst op K st) := rfl
theorem aHeldT_guard {nx0 : Nat} {ids : List Nat} : aHeldT P ops nx0 ids (some ⟨dst, op, ty, pos, aft, some (j, want)⟩) K st = aGuardD ((ops[j]?).bind (·.dst)) want (aTakeN P nx0 ids ⟨dst, op, ty, pos, aft, some (j, want)⟩ K) (aSkip dst K) st := rfl
theorem aTakeY_eq {ids : List Nat} : aTakeY P ids ⟨dst, op, ty, pos, aft, gd⟩ K st = (aTakes ids st op ∧ aTakeP P dst op K st) := rfl
theorem aTakeP_build {t : TypeId} {parts : List (Nat × Operand)} : aTakeP P dst (.build t parts.toArray) K st = aBuild P t st parts dst K := by simp [aTakeP]
theorem aTakeP_move {x : Operand} : aTakeP P dst (.move x) K st = aPure P st.tab (aEv st) (.move x) (aK st dst K) := rfl
theorem aTakeP_assign {x : Operand} : aTakeP P dst (.assign x) K st = aPure P st.tab (aEv st) (.assign x) (aK st dst K) := rfl
theorem aTakeP_pick {c x y : Operand} : aTakeP P dst (.pick c x y) K st = aPure P st.tab (aEv st) (.pick c x y) (aK st dst K) := rfl
theorem aTakeP_load {t : TypeId} {x : Operand} : aTakeP P dst (.load t x) K st = aPure P st.tab (aEv st) (.load t x) (aK st dst K) := rfl
theorem aTakeP_field {s : TypeId} {x : Operand} {f : Nat} : aTakeP P dst (.fieldAddr s x f) K st = aPure P st.tab (aEv st) (.fieldAddr s x f) (aK st dst K) := rfl
theorem aTakeP_index {t : TypeId} {x y : Operand} : aTakeP P dst (.indexAddr t x y) K st = aPure P st.tab (aEv st) (.indexAddr t x y) (aK st dst K) := rfl
theorem aTakeP_fieldV {s : TypeId} {x : Operand} {f : Nat} : aTakeP P dst (.field s x f) K st = aPure P st.tab (aEv st) (.field s x f) (aK st dst K) := rfl
theorem aTakeP_bin {o : BinOp} {t r : TypeId} {x y : Operand} : aTakeP P dst (.binOp o t x y r) K st = aPure P st.tab (aEv st) (.binOp o t x y r) (aK st dst K) := rfl
theorem aTakeP_nilChk {x : Operand} : aTakeP P dst (.nilCheck x) K st = aPure P st.tab (aEv st) (.nilCheck x) (aK st dst K) := rfl
theorem aTakeP_un {o : UnOp} {t : TypeId} {x : Operand} : aTakeP P dst (.unOp o t x) K st = aPure P st.tab (aEv st) (.unOp o t x) (aK st dst K) := rfl
theorem aTakeP_extract {x : Operand} {i : Nat} : aTakeP P dst (.extract x i) K st = aPure P st.tab (aEv st) (.extract x i) (aK st dst K) := rfl
theorem aTakeP_conv {s d : TypeId} {x : Operand} : aTakeP P dst (.convert s d x) K st = aPure P st.tab (aEv st) (.convert s d x) (aK st dst K) := rfl
theorem aTakeP_call {c : Call} : aTakeP P dst (.call c) K st = aPure P st.tab (aEv st) (.call c) (aK st dst K) := rfl
theorem aTakeP_clo {f : Fn} {a b : Array Operand} : aTakeP P dst (.makeFunc f a b) K st = aPure P st.tab (aEv st) (.makeFunc f a b) (aK st dst K) := rfl
theorem aTakeN_eq {nx0 : Nat} {ids : List Nat} : aTakeN P nx0 ids ⟨dst, op, ty, pos, aft, gd⟩ K st = (aTakeE nx0 ids st op ∧ aTakeP P dst op K st) := rfl
theorem aHeldE_eq {nx0 : Nat} {ids : List Nat} : aHeldE P ops nx0 ids (some ⟨dst, op, ty, pos, aft, none⟩) K st = aExec P nx0 ids ⟨dst, op, ty, pos, aft, none⟩ K st := rfl
def aExecK (P : Program) (nx0 : Nat) (ids : List Nat) (o : Oper) (K : ASt → Prop) (st : ASt) : Prop := aExec P nx0 ids o K st
theorem aExecK_eq {nx0 : Nat} {ids : List Nat} {o : Oper} : aExecK P nx0 ids o K st = aExec P nx0 ids o K st := rfl
theorem aHeldE_guard {nx0 : Nat} {ids : List Nat} : aHeldE P ops nx0 ids (some ⟨dst, op, ty, pos, aft, some (j, want)⟩) K st = aGuardD ((ops[j]?).bind (·.dst)) want (aExecK P nx0 ids ⟨dst, op, ty, pos, aft, some (j, want)⟩ K) (aSkip dst K) st := rfl
theorem aExec_assign {nx0 : Nat} {ids : List Nat} {x : Operand} : aExec P nx0 ids ⟨dst, .assign x, ty, pos, aft, gd⟩ K st = K (st.put dst (aEv st x)) := rfl
def aExecS (P : Program) (nx0 : Nat) (ids : List Nat) (t : TypeId) (p x : AV) (dst : Option Nat) (K : ASt → Prop) (st : ASt) : Prop :=
  match p with
  | .op id i j => aMay nx0 ids id ∧ aStoreB P t st id i j x (aKs dst K)
  | _ => False
theorem aExec_load {nx0 : Nat} {ids : List Nat} {t : TypeId} {x : Operand} : aExec P nx0 ids ⟨dst, .load t x, ty, pos, aft, gd⟩ K st = aLoad P t st.tab (aEv st x) (aK st dst K) := rfl
theorem aExec_lookup {nx0 : Nat} {ids : List Nat} {t : TypeId} {m k : Operand} {ok : Bool} : aExec P nx0 ids ⟨dst, .lookup t m k ok, ty, pos, aft, gd⟩ K st = aLookup P t st.tab (aEv st m) (aEv st k) ok (aK st dst K) := rfl
def aExecU (P : Program) (nx0 : Nat) (ids : List Nat) (t : TypeId) (m k v : AV) (dst : Option Nat) (K : ASt → Prop) (st : ASt) : Prop :=
  match m with
  | .osl id => aMay nx0 ids id ∧ aMapUpd P t st (.osl id) k v (aKs dst K)
  | _ => False
theorem aExec_mapUpdate {nx0 : Nat} {ids : List Nat} {t : TypeId} {m k v : Operand} : aExec P nx0 ids ⟨dst, .mapUpdate t m k v, ty, pos, aft, gd⟩ K st = aExecU P nx0 ids t (aEv st m) (aEv st k) (aEv st v) dst K st := rfl
theorem aExec_store {nx0 : Nat} {ids : List Nat} {t : TypeId} {p x : Operand} : aExec P nx0 ids ⟨dst, .store t p x, ty, pos, aft, gd⟩ K st = aExecS P nx0 ids t (aEv st p) (aEv st x) dst K st := rfl
theorem aExec_box {nx0 : Nat} {ids : List Nat} {t : TypeId} {x : Operand} : aExec P nx0 ids ⟨dst, .box t x, ty, pos, aft, gd⟩ K st = aBox t st (aEv st x) dst K := rfl
theorem aExec_alloc {nx0 : Nat} {ids : List Nat} {t : TypeId} : aExec P nx0 ids ⟨dst, .alloc t, ty, pos, aft, gd⟩ K st = match tyZero P t with | some z => aBox t st (.c z) dst K | none => False := rfl
theorem aExec_append {nx0 : Nat} {ids : List Nat} {x y : Operand} {t t' : TypeId} : aExec P nx0 ids ⟨dst, .call ⟨.builtin .append, #[x, y], #[t, t']⟩, ty, pos, aft, gd⟩ K st = ((t = t' ∧ aFresh nx0 ids (aEv st x)) ∧ aAppend P t st (aEv st x) (aEv st y) dst K) := rfl
theorem aExec_call {nx0 : Nat} {ids : List Nat} {f : Operand} {args : List Operand} {ts : Array TypeId} : aExec P nx0 ids ⟨dst, .call ⟨.value f, args.toArray, ts⟩, ty, pos, aft, gd⟩ K st = aFn (aEv st f) (aCallE P nx0 ids st args dst K) := by simp [aExec]
theorem aExec_makeSlice {nx0 : Nat} {ids : List Nat} {t : TypeId} {l c : Operand} : aExec P nx0 ids ⟨dst, .makeSlice t l c, ty, pos, aft, gd⟩ K st = aMake P t st (aEv st l) (aEv st c) dst K := rfl
theorem aExec_buildSlice {nx0 : Nat} {ids : List Nat} {t : TypeId} {n : Nat} {parts : List (Nat × Operand)} : aExec P nx0 ids ⟨dst, .buildSlice t n parts.toArray, ty, pos, aft, gd⟩ K st = aBuildSlice P t n parts st dst K := by simp [aExec]
theorem aPure_move {k : AV → Prop} {tab : ATab} {ev : Operand → AV} {x : Operand} : aPure P tab ev (.move x) k = k (ev x) := rfl
theorem aPure_assign {k : AV → Prop} {tab : ATab} {ev : Operand → AV} {x : Operand} : aPure P tab ev (.assign x) k = k (ev x) := rfl
theorem aPure_load {k : AV → Prop} {tab : ATab} {ev : Operand → AV} {t : TypeId} {x : Operand} : aPure P tab ev (.load t x) k = aLoad P t tab (ev x) k := rfl
theorem aPure_field {k : AV → Prop} {tab : ATab} {ev : Operand → AV} {t : TypeId} {x : Operand} {f : Nat} : aPure P tab ev (.fieldAddr t x f) k = aField P t tab (ev x) f k := rfl
theorem aPure_index {k : AV → Prop} {tab : ATab} {ev : Operand → AV} {t : TypeId} {x i : Operand} : aPure P tab ev (.indexAddr t x i) k = aIndex P t tab (ev x) (ev i) k := rfl
theorem aPure_bin {k : AV → Prop} {tab : ATab} {ev : Operand → AV} {o : BinOp} {t t2 : TypeId} {x y : Operand} : aPure P tab ev (.binOp o t x y t2) k = aBin P o t (ev x) (ev y) k := rfl
theorem aPure_nilChk {k : AV → Prop} {tab : ATab} {ev : Operand → AV} {x : Operand} : aPure P tab ev (.nilCheck x) k = aNil tab (ev x) k := rfl
theorem aPure_un {k : AV → Prop} {tab : ATab} {ev : Operand → AV} {o : UnOp} {t : TypeId} {x : Operand} : aPure P tab ev (.unOp o t x) k = aUn o (ev x) k := rfl
theorem aPure_extract {k : AV → Prop} {tab : ATab} {ev : Operand → AV} {x : Operand} {i : Nat} : aPure P tab ev (.extract x i) k = aExtract (ev x) i k := rfl
theorem aPure_max {k : AV → Prop} {tab : ATab} {ev : Operand → AV} {x y : Operand} {t t' : TypeId} : aPure P tab ev (.call ⟨.builtin .max, #[x, y], #[t, t']⟩) k = aMM (fun a b => max a b) [ev x, ev y] k := rfl
theorem aPure_min {k : AV → Prop} {tab : ATab} {ev : Operand → AV} {x y : Operand} {t t' : TypeId} : aPure P tab ev (.call ⟨.builtin .min, #[x, y], #[t, t']⟩) k = aMM (fun a b => min a b) [ev x, ev y] k := rfl
theorem aPure_len {k : AV → Prop} {tab : ATab} {ev : Operand → AV} {x : Operand} {t : TypeId} : aPure P tab ev (.call ⟨.builtin .len, #[x], #[t]⟩) k = aLen P t tab (ev x) k := rfl
theorem aDops_nil : aDops P ops K [] st = K st := rfl
theorem aDops_plain : aDops P ops K (⟨dst, op, ty, pos, aft, none⟩ :: rest) st = aDop P ⟨dst, op, ty, pos, aft, none⟩ (aDops P ops K rest) st := rfl
theorem aDops_guard : aDops P ops K (⟨dst, op, ty, pos, aft, some (j, want)⟩ :: rest) st = aGuardD ((ops[j]?).bind (·.dst)) want (aDop P ⟨dst, op, ty, pos, aft, some (j, want)⟩ (aDops P ops K rest)) (aSkip dst (aDops P ops K rest)) st := rfl
def aPickK (c a b : AV) (dst : Option Nat) (K : ASt → Prop) (st : ASt) : Prop := aPick c a b (aK st dst K)
/-- one of two values, by a truth -/
def aSel (t : Bool) (a b : AV) (dst : Option Nat) (K : ASt → Prop) (st : ASt) : Prop := match t with | true => K (st.put dst a) | false => K (st.put dst b)
theorem aSel_true {a b : AV} : aSel true a b dst K st = K (st.put dst a) := rfl
theorem aSel_false {a b : AV} : aSel false a b dst K st = K (st.put dst b) := rfl
theorem aSel_split {t : Bool} {a b : AV} (h1 : t = true → aSel true a b dst K st) (h2 : t = false → aSel false a b dst K st) : aSel t a b dst K st := by
  cases t
  · exact h2 rfl
  · exact h1 rfl
theorem aPickK_bool {t : Bool} {a b : AV} : aPickK (.c (.bool t)) a b dst K st = aSel t a b dst K st := by cases t <;> rfl
theorem aPure_pick {tab : ATab} {ev : Operand → AV} {dst : Option Nat} {x y z : Operand} : aPure P tab ev (.pick x y z) (aK st dst K) = aPickK (ev x) (ev y) (ev z) dst K st := rfl
theorem aOp_move {x : Operand} : aOp P ⟨dst, .move x, ty, pos, aft, gd⟩ K st = K (st.put dst (aEv st x)) := rfl
theorem aOp_assign {x : Operand} : aOp P ⟨dst, .assign x, ty, pos, aft, gd⟩ K st = K (st.put dst (aEv st x)) := rfl
theorem aOp_pick {c x y : Operand} : aOp P ⟨dst, .pick c x y, ty, pos, aft, gd⟩ K st = aPickK (aEv st c) (aEv st x) (aEv st y) dst K st := rfl
theorem aOp_load {t : TypeId} {x : Operand} : aOp P ⟨dst, .load t x, ty, pos, aft, gd⟩ K st = aLoad P t st.tab (aEv st x) (aK st dst K) := rfl
theorem aOp_field {t : TypeId} {x : Operand} {f : Nat} : aOp P ⟨dst, .fieldAddr t x f, ty, pos, aft, gd⟩ K st = aField P t st.tab (aEv st x) f (aK st dst K) := rfl
theorem aOp_fieldV {t : TypeId} {x : Operand} {f : Nat} : aOp P ⟨dst, .field t x f, ty, pos, aft, gd⟩ K st = aFieldV P t (aEv st x) f (aK st dst K) := rfl
theorem aDop_fieldV {t : TypeId} {x : Operand} {f : Nat} : aDop P ⟨dst, .field t x f, ty, pos, aft, gd⟩ K st = aFieldV P t (aEv st x) f (aK st dst K) := rfl
theorem aPure_fieldV {k : AV → Prop} {tab : ATab} {ev : Operand → AV} {t : TypeId} {x : Operand} {f : Nat} : aPure P tab ev (.field t x f) k = aFieldV P t (ev x) f k := rfl
theorem aOp_index {t : TypeId} {x i : Operand} : aOp P ⟨dst, .indexAddr t x i, ty, pos, aft, gd⟩ K st = aIndex P t st.tab (aEv st x) (aEv st i) (aK st dst K) := rfl
theorem aOp_bin {o : BinOp} {t t2 : TypeId} {x y : Operand} : aOp P ⟨dst, .binOp o t x y t2, ty, pos, aft, gd⟩ K st = aBin P o t (aEv st x) (aEv st y) (aK st dst K) := rfl
theorem aOp_nilChk {x : Operand} : aOp P ⟨dst, .nilCheck x, ty, pos, aft, gd⟩ K st = aNil st.tab (aEv st x) (aK st dst K) := rfl
theorem aOp_un {o : UnOp} {t : TypeId} {x : Operand} : aOp P ⟨dst, .unOp o t x, ty, pos, aft, gd⟩ K st = aUn o (aEv st x) (aK st dst K) := rfl
theorem aOp_extract {x : Operand} {i : Nat} : aOp P ⟨dst, .extract x i, ty, pos, aft, gd⟩ K st = aExtract (aEv st x) i (aK st dst K) := rfl
theorem aOp_conv {s d : TypeId} {x : Operand} : aOp P ⟨dst, .convert s d x, ty, pos, aft, gd⟩ K st = aConv P s d (aEv st x) (aK st dst K) := rfl
theorem aOp_max {x y : Operand} {t t' : TypeId} : aOp P ⟨dst, .call ⟨.builtin .max, #[x, y], #[t, t']⟩, ty, pos, aft, gd⟩ K st = aMM (fun a b => max a b) [aEv st x, aEv st y] (aK st dst K) := rfl
theorem aOp_min {x y : Operand} {t t' : TypeId} : aOp P ⟨dst, .call ⟨.builtin .min, #[x, y], #[t, t']⟩, ty, pos, aft, gd⟩ K st = aMM (fun a b => min a b) [aEv st x, aEv st y] (aK st dst K) := rfl
theorem aOp_len {x : Operand} {t : TypeId} : aOp P ⟨dst, .call ⟨.builtin .len, #[x], #[t]⟩, ty, pos, aft, gd⟩ K st = (aLenM P t st.tab (aEv st x) (aK st dst K) ∨ aLen P t st.tab (aEv st x) (aK st dst K)) := rfl
theorem aOp_clear {x : Operand} {t : TypeId} : aOp P ⟨dst, .call ⟨.builtin .clear, #[x], #[t]⟩, ty, pos, aft, gd⟩ K st = aClear P t st (aEv st x) dst K := rfl
theorem aOp_makeMap {t : TypeId} : aOp P ⟨dst, .makeMap t none, ty, pos, aft, gd⟩ K st = K ({ st with tab := (st.next, some (.map [])) :: st.tab, next := st.next + 1 }.put dst (.osl st.next)) := by simp [aOp, aMakeMap]
theorem aOp_lookup {t : TypeId} {m k : Operand} {ok : Bool} : aOp P ⟨dst, .lookup t m k ok, ty, pos, aft, gd⟩ K st = aLookup P t st.tab (aEv st m) (aEv st k) ok (aK st dst K) := rfl
theorem aOp_mapUpdate {t : TypeId} {m k v : Operand} : aOp P ⟨dst, .mapUpdate t m k v, ty, pos, aft, gd⟩ K st = aMapUpd P t st (aEv st m) (aEv st k) (aEv st v) (aKs dst K) := rfl
theorem aOp_append {x y : Operand} {t t' : TypeId} : aOp P ⟨dst, .call ⟨.builtin .append, #[x, y], #[t, t']⟩, ty, pos, aft, gd⟩ K st = (t = t' ∧ aAppend P t st (aEv st x) (aEv st y) dst K) := rfl
theorem aOp_makeFuncB {g : FuncId} {x : Operand} : aOp P ⟨dst, .makeFunc (.func g) [x].toArray #[], ty, pos, aft, gd⟩ K st = aK st dst K (.bfn g [aEv st x]) := by simp [aOp, aPure, aClo, aCloB]
theorem aOp_makeFunc {g : FuncId} {caps : List Operand} : aOp P ⟨dst, .makeFunc (.func g) #[] caps.toArray, ty, pos, aft, gd⟩ K st = aK st dst K (.fn g (caps.map (aEv st))) := by simp [aOp, aPure, aClo, aCloB]
theorem aOp_call {f : Operand} {args : List Operand} {ts : Array TypeId} : aOp P ⟨dst, .call ⟨.value f, args.toArray, ts⟩, ty, pos, aft, gd⟩ K st = aFnB (aEv st f) (aCallB P st args dst K) (aCallF P st args dst K) := by simp [aOp]
theorem aOp_box {t : TypeId} {x : Operand} : aOp P ⟨dst, .box t x, ty, pos, aft, gd⟩ K st = aBox t st (aEv st x) dst K := rfl
theorem aOp_alloc {t : TypeId} : aOp P ⟨dst, .alloc t, ty, pos, aft, gd⟩ K st = match tyZero P t with | some z => aBox t st (.c z) dst K | none => False := rfl
theorem aOp_store {t : TypeId} {p x : Operand} : aOp P ⟨dst, .store t p x, ty, pos, aft, gd⟩ K st = aStore P t st (aEv st p) (aEv st x) (aKs dst K) := rfl
theorem aOp_buildSlice {t : TypeId} {n : Nat} {parts : List (Nat × Operand)} : aOp P ⟨dst, .buildSlice t n parts.toArray, ty, pos, aft, gd⟩ K st = aBuildSlice P t n parts st dst K := by simp [aOp]
theorem aOp_makeSlice {t : TypeId} {l c : Operand} : aOp P ⟨dst, .makeSlice t l c, ty, pos, aft, gd⟩ K st = aMake P t st (aEv st l) (aEv st c) dst K := rfl
theorem aOp_slice {t : TypeId} {x : Operand} {lo hi mx : Option Operand} : aOp P ⟨dst, .slice t x lo hi mx, ty, pos, aft, gd⟩ K st = aSliceW P t st (aEv st x) (lo.map (aEv st)) (hi.map (aEv st)) (mx.map (aEv st)) dst K := rfl
theorem aDop_slice {t : TypeId} {x : Operand} {lo hi mx : Option Operand} : aDop P ⟨dst, .slice t x lo hi mx, ty, pos, aft, gd⟩ K st = aSlice P t (aEv st x) (lo.map (aEv st)) (hi.map (aEv st)) (mx.map (aEv st)) (aK st dst K) := rfl
theorem aPure_slice {tab : ATab} {ev : Operand → AV} {t : TypeId} {x : Operand} {lo hi mx : Option Operand} {k : AV → Prop} : aPure P tab ev (.slice t x lo hi mx) k = aSlice P t (ev x) (lo.map ev) (hi.map ev) (mx.map ev) k := rfl
theorem aTakeP_slice {t : TypeId} {x : Operand} {lo hi mx : Option Operand} : aTakeP P dst (.slice t x lo hi mx) K st = aPure P st.tab (aEv st) (.slice t x lo hi mx) (aK st dst K) := rfl
theorem aOp_build {t : TypeId} {parts : List (Nat × Operand)} : aOp P ⟨dst, .build t parts.toArray, ty, pos, aft, gd⟩ K st = aBuild P t st parts dst K := by simp [aOp]
theorem aDop_move {x : Operand} : aDop P ⟨dst, .move x, ty, pos, aft, gd⟩ K st = K (st.put dst (aEv st x)) := rfl
theorem aDop_assign {x : Operand} : aDop P ⟨dst, .assign x, ty, pos, aft, gd⟩ K st = K (st.put dst (aEv st x)) := rfl
theorem aDop_pick {c x y : Operand} : aDop P ⟨dst, .pick c x y, ty, pos, aft, gd⟩ K st = aPickK (aEv st c) (aEv st x) (aEv st y) dst K st := rfl
theorem aDop_load {t : TypeId} {x : Operand} : aDop P ⟨dst, .load t x, ty, pos, aft, gd⟩ K st = aLoad P t st.tab (aEv st x) (aK st dst K) := rfl
theorem aDop_field {t : TypeId} {x : Operand} {f : Nat} : aDop P ⟨dst, .fieldAddr t x f, ty, pos, aft, gd⟩ K st = aField P t st.tab (aEv st x) f (aK st dst K) := rfl
theorem aDop_index {t : TypeId} {x i : Operand} : aDop P ⟨dst, .indexAddr t x i, ty, pos, aft, gd⟩ K st = aIndex P t st.tab (aEv st x) (aEv st i) (aK st dst K) := rfl
theorem aDop_bin {o : BinOp} {t t2 : TypeId} {x y : Operand} : aDop P ⟨dst, .binOp o t x y t2, ty, pos, aft, gd⟩ K st = aBin P o t (aEv st x) (aEv st y) (aK st dst K) := rfl
theorem aDop_nilChk {x : Operand} : aDop P ⟨dst, .nilCheck x, ty, pos, aft, gd⟩ K st = aNil st.tab (aEv st x) (aK st dst K) := rfl
theorem aDop_un {o : UnOp} {t : TypeId} {x : Operand} : aDop P ⟨dst, .unOp o t x, ty, pos, aft, gd⟩ K st = aUn o (aEv st x) (aK st dst K) := rfl
theorem aDop_extract {x : Operand} {i : Nat} : aDop P ⟨dst, .extract x i, ty, pos, aft, gd⟩ K st = aExtract (aEv st x) i (aK st dst K) := rfl
theorem aDop_conv {s d : TypeId} {x : Operand} : aDop P ⟨dst, .convert s d x, ty, pos, aft, gd⟩ K st = aConv P s d (aEv st x) (aK st dst K) := rfl
theorem aDop_max {x y : Operand} {t t' : TypeId} : aDop P ⟨dst, .call ⟨.builtin .max, #[x, y], #[t, t']⟩, ty, pos, aft, gd⟩ K st = aMM (fun a b => max a b) [aEv st x, aEv st y] (aK st dst K) := rfl
theorem aDop_min {x y : Operand} {t t' : TypeId} : aDop P ⟨dst, .call ⟨.builtin .min, #[x, y], #[t, t']⟩, ty, pos, aft, gd⟩ K st = aMM (fun a b => min a b) [aEv st x, aEv st y] (aK st dst K) := rfl
theorem aDop_len {x : Operand} {t : TypeId} : aDop P ⟨dst, .call ⟨.builtin .len, #[x], #[t]⟩, ty, pos, aft, gd⟩ K st = aLen P t st.tab (aEv st x) (aK st dst K) := rfl
theorem aDop_makeFunc {g : FuncId} {caps : List Operand} : aDop P ⟨dst, .makeFunc (.func g) #[] caps.toArray, ty, pos, aft, gd⟩ K st = aK st dst K (.fn g (caps.map (aEv st))) := by simp [aDop, aPure, aClo, aCloB]
theorem aPure_makeFunc {tab : ATab} {ev : Operand → AV} {g : FuncId} {caps : List Operand} {K : AV → Prop} : aPure P tab ev (.makeFunc (.func g) #[] caps.toArray) K = K (.fn g (caps.map ev)) := by simp [aPure, aClo, aCloB]
theorem aDop_call {f : Operand} {args : List Operand} {ts : Array TypeId} : aDop P ⟨dst, .call ⟨.value f, args.toArray, ts⟩, ty, pos, aft, gd⟩ K st = aFn (aEv st f) (aCallD P st args dst K) := by simp [aDop]
theorem aDop_build {t : TypeId} {parts : List (Nat × Operand)} : aDop P ⟨dst, .build t parts.toArray, ty, pos, aft, gd⟩ K st = aBuild P t st parts dst K := by simp [aDop]
end
end

section
variable {P : Program} {cx : Cx} {a : Act} {w w' : World} {tab : ATab} {st : ASt} {L : Nat → Value} {nx : Nat}
/-- what follows an operation -/
abbrev After (cx : Cx) (K : ASt → Prop) : Act → World → Prop := fun a w => ∃ st L, K st ∧ Conc cx a w st L
theorem wp_value {o : Oper} {v : Value} {w' : World} {K : Act → World → Prop} {Q : Exit → Act → World → Prop} (h : (execOp a.eval o).run P w = .ok (.value v) w') (hk : K (a.put o.dst v) w') : o.wp P a w K Q := by
  unfold Oper.wp
  rw [h]
  exact hk
theorem wp_skip' {o : Oper} {w' : World} {K : Act → World → Prop} {Q : Exit → Act → World → Prop} (h : (execOp a.eval o).run P w = .ok .skip w') (hk : K (a.put o.dst undef) w') : o.wp P a w K Q := by
  unfold Oper.wp
  rw [h]
  exact hk
theorem pure_wp {o : Oper} {K : ASt → Prop} {Q : Exit → Act → World → Prop} (h : Conc cx a w st L) (hp : aPure P st.tab (aEv st) o.op (aK st o.dst K)) : o.wp P a w (After cx K) Q := by
  obtain ⟨v, av, h1, h2, h3, h4, _⟩ := pure_ok h.lay (fun id o hid => (h.young id o hid).2) (eval_ok h) hp
  exact wp_value (h4 w (Below.refl _ _)) ⟨_, L, h1, conc_pure h h2 h3 o.dst⟩
theorem aFn_inv {f : AV} {K : FuncId → List AV → Prop} {v : Value} (hv : RVx cx w tab L v f) (hl : f.lt nx) (h : aFn f K) : ∃ g xs cs, v = .func (.func g) #[] xs ∧ xs.size = cs.length ∧ (∀ (j : Nat) (x : Value) (av : AV), xs[j]? = some x → cs[j]? = some av → RVx cx w tab L x av) ∧ K g cs ∧ ∀ av ∈ cs, av.lt nx := by
  unfold aFn at h
  split at h
  · rename_i g first caps
    obtain ⟨⟨rfl, rfl⟩, h⟩ := h
    exact ⟨g, #[], [], hv.c_inv, rfl, fun j x av h1 _ => by simp at h1, h, by simp⟩
  · rename_i g cs
    obtain ⟨xs, h1, h2, h3⟩ := hv.fn_inv
    exact ⟨g, xs, cs, h1, h2, h3, h, ltL_iff.1 hl⟩
  · exact h.elim
/-- what a method is handed: its receiver, and the call's arguments -/
theorem argsB_rv (h : Conc cx a w st L) {args : Array Operand} {xs : Array Value} {cs : List AV} (hn : xs.size = cs.length) (hx : ∀ (j : Nat) (x : Value) (av : AV), xs[j]? = some x → cs[j]? = some av → RVx cx w st.tab L x av) :
    (xs ++ args.map a.eval).size = (cs ++ args.toList.map (aEv st)).length ∧ ∀ (j : Nat) (v : Value) (av : AV), (xs ++ args.map a.eval)[j]? = some v → (cs ++ args.toList.map (aEv st))[j]? = some av → RVx cx w st.tab L v av := by
  refine ⟨by simp [hn], fun j v av h1 h2 => ?_⟩
  by_cases hj : j < xs.size
  · rw [Array.getElem?_append_left hj] at h1
    rw [List.getElem?_append_left (by omega)] at h2
    exact hx j v av h1 h2
  · rw [Array.getElem?_append_right (by omega)] at h1
    rw [List.getElem?_append_right (by omega), ← hn] at h2
    rw [Array.getElem?_map] at h1
    rw [List.getElem?_map, Array.getElem?_toList] at h2
    cases hk : args[j - xs.size]? with
    | none => simp [hk] at h1
    | some x =>
      simp [hk] at h1 h2
      subst h1
      subst h2
      exact (eval_ok h x).1
/-- what a call is handed, and what its closure holds -/
theorem args_rv (h : Conc cx a w st L) {args : Array Operand} {xs : Array Value} {cs : List AV} (hn : xs.size = cs.length) (hx : ∀ (j : Nat) (x : Value) (av : AV), xs[j]? = some x → cs[j]? = some av → RVx cx w st.tab L x av) :
    (args.map a.eval ++ xs).size = (args.toList.map (aEv st) ++ cs).length ∧ ∀ (j : Nat) (v : Value) (av : AV), (args.map a.eval ++ xs)[j]? = some v → (args.toList.map (aEv st) ++ cs)[j]? = some av → RVx cx w st.tab L v av := by
  refine ⟨by simp [hn], fun j v av h1 h2 => ?_⟩
  by_cases hj : j < args.size
  · rw [Array.getElem?_append_left (by simpa using hj), Array.getElem?_map, Array.getElem?_eq_getElem hj] at h1
    rw [List.getElem?_append_left (by simpa using hj), List.getElem?_map, Array.getElem?_toList, Array.getElem?_eq_getElem hj] at h2
    simp at h1 h2
    subst h1
    subst h2
    exact (eval_ok h _).1
  · rw [Array.getElem?_append_right (by simpa using hj)] at h1
    rw [List.getElem?_append_right (by simpa using hj)] at h2
    simp at h1 h2
    exact hx _ v av h1 h2
/-- what is called, and what it is handed -/
theorem aFnB_inv (h : Conc cx a w st L) {f : Operand} {args : Array Operand} {dst : Option Nat} {K : ASt → Prop} (hp : aFnB (aEv st f) (aCallB P st args.toList dst K) (aCallF P st args.toList dst K)) :
    ∃ (g : FuncId) (zs : Array Value) (avs : List AV), (Enters P g → ∀ (o : Oper) (ts : Array TypeId), o.op = .call ⟨.value f, args, ts⟩ → (execOp a.eval o).run P w = .ok (.enter g zs) w) ∧ zs.size = avs.length ∧
      (∀ (j : Nat) (v : Value) (av : AV), zs[j]? = some v → avs[j]? = some av → RVx cx w st.tab L v av ∧ av.lt st.next) ∧ aCall none P st g avs (aK2 dst K) := by
  unfold aFnB at hp
  split at hp
  · rename_i g bs hf
    have hv := (eval_ok h f).1
    have hl := (eval_ok h f).2
    rw [hf] at hv hl
    obtain ⟨xs, hg, hxn, hxr⟩ := hv.bfn_inv
    have hargs := argsB_rv h (args := args) hxn hxr
    refine ⟨g, xs ++ args.map a.eval, bs ++ args.toList.map (aEv st), fun hent o ts ho => ?_, hargs.1, fun j v av h1 h2 => ⟨hargs.2 j v av h1 h2, ?_⟩, hp⟩
    · have := hent (xs ++ args.map a.eval) w
      simp [execOp, ho, resolve, hg, Deferred.ofValue, invoke, this]
    · rcases List.mem_append.1 (List.mem_of_getElem? h2) with h3 | h3
      · exact ltL_iff.1 hl av h3
      · obtain ⟨x, _, rfl⟩ := List.mem_map.1 h3
        exact (eval_ok h x).2
  · obtain ⟨g, xs, cs, hg, hxn, hxr, hp, hcs⟩ := aFn_inv (eval_ok h f).1 (eval_ok h f).2 hp
    have hargs := args_rv h (args := args) hxn hxr
    refine ⟨g, args.map a.eval ++ xs, args.toList.map (aEv st) ++ cs, fun hent o ts ho => ?_, hargs.1, fun j v av h1 h2 => ⟨hargs.2 j v av h1 h2, ?_⟩, hp⟩
    · have := hent (args.map a.eval ++ xs) w
      simp [execOp, ho, resolve, hg, Deferred.ofValue, invoke, this]
    · rcases List.mem_append.1 (List.mem_of_getElem? h2) with h3 | h3
      · obtain ⟨x, _, rfl⟩ := List.mem_map.1 h3
        exact (eval_ok h x).2
      · exact hcs av h3
theorem build_wp {t : TypeId} {parts : Array (Nat × Operand)} {dst : Option Nat} {K : ASt → Prop} (h : Conc cx a w st L) (hp : aBuild P t st parts.toList dst K) : ∃ v, ∃ cs, RVx cx w st.tab L v (.agg cs) ∧ (AV.agg cs).lt st.next ∧ (∀ w', (Instr.build t (parts.map fun (p : Nat × Operand) => (p.1, a.eval p.2))).run P w' = .ok v w') ∧ K (st.put dst (.agg cs)) := by
  unfold aBuild at hp
  split at hp
  · rename_i places zs ht
    split at hp
    · rename_i cs hf
      obtain ⟨h1, h2⟩ := hp
      obtain ⟨v, h3, h4, h5⟩ := build_ok h ht hf h1
      exact ⟨v, cs, h3, h4, by simpa using h5, h2⟩
    · exact hp.elim
  · exact hp.elim
theorem sliceW_wp {t : TypeId} {x : Operand} {lo hi mx : Option Operand} {K : ASt → Prop} {Q : Exit → Act → World → Prop} {ty : TypeId} {dst : Option Nat} {pos : String} {aft : Array Edge} {gd : Option (Nat × Bool)} (h : Conc cx a w st L)
    (hp : aSliceW P t st (aEv st x) (lo.map (aEv st)) (hi.map (aEv st)) (mx.map (aEv st)) dst K) : Oper.wp (P := P) ⟨dst, .slice t x lo hi mx, ty, pos, aft, gd⟩ a w (After cx K) Q := by
  unfold aSliceW at hp
  split at hp
  · rename_i id hx
    have hv := (eval_ok h x).1
    rw [hx] at hv
    split at hp
    · rename_i e sz rows hid
      unfold aSliceO at hp
      split at hp
      · rename_i l h' hl hh
        obtain ⟨⟨h1, h2⟩, ⟨rfl, h4, h5, h6⟩, h7⟩ := hp
        obtain ⟨hu, hsz⟩ := tyElem_pos (P := P) (t := t) (by omega)
        have hvL := hv.osl_inv _ _ (kx_of hid)
        obtain ⟨hrow, xs, hown, hone, hx'⟩ := h.lay.objs id _ hid
        have hs := run_sizeOf' (P := P) (t := (tyElem P t).1) (by omega) w
        rw [hsz, h1] at hs
        have key : ∀ A cap, L id = .slice A rows.length cap → rows.length ≤ cap → ∃ m, h'.toNat ≤ m ∧ m ≤ cap ∧ (Instr.sliceBounds true rows.length cap (lo.map a.eval) (hi.map a.eval) (mx.map a.eval)).run P w = .ok (0, h'.toNat, m) w := by
          intro A cap hL hc
          have hlo := bd_at (d := 0) (n := 0) (fun x => (eval_ok h x).1) hl (by omega) rfl
          have hhi := bd_at (d := rows.length) (n := h'.toNat) (fun x => (eval_ok h x).1) hh (by omega) rfl
          cases mx with
          | none => exact ⟨cap, by omega, Nat.le_refl _, run_bounds hlo hhi (.inl ⟨rfl, rfl⟩) (by omega) (by omega)⟩
          | some q =>
            have hq := (eval_ok h q).1
            simp only [Option.map_some] at h6 ⊢
            unfold aMax at h6
            split at h6
            · rename_i hq'
              cases hq'
            · rename_i k m hq'
              injection hq' with hq'
              rw [hq'] at hq
              obtain ⟨rfl, hb⟩ := h6
              refine ⟨m.toNat, Nat.le_refl _, by omega, run_bounds hlo hhi (.inr ⟨rfl, ⟨k, by rw [hq.c_inv, Int.toNat_of_nonneg h4]⟩, fun hn => ?_⟩) (by omega) (by omega)⟩
              cases hi with
              | none => simp at hb
              | some _ => cases hn
            · exact h6.elim
        rcases hown.2 with ⟨hL, h0⟩ | ⟨g, cap, cur, hL, hb, hh', hc, hm, hcs, htake⟩
        · obtain ⟨m, hm1, hm2, hr⟩ := key none 0 (by rw [hL, h0]) (by omega)
          have hm0 : m = 0 := by omega
          have hn0 : h'.toNat = 0 := by omega
          refine wp_value (v := .slice none 0 0) ?_ ⟨_, _, h7, reslice_ok (n := h'.toNat) h hid (by omega) (.inl ⟨hL, rfl⟩) dst⟩
          rw [h0] at hr
          simp [execOp, Sem.run_bind, hvL, hL, Instr.sliceAt, Instr.slice, run_underlying hu, hr, hs, hm0, hn0]
        · obtain ⟨m, hm1, hm2, hr⟩ := key _ cap hL hc
          refine wp_value (v := .slice (some ⟨g, 0, none⟩) h'.toNat m) ?_ ⟨_, _, h7, reslice_ok (n := h'.toNat) h hid (by omega) (.inr ⟨g, cap, m, hL, rfl, hm1, hm2⟩) dst⟩
          simp [execOp, Sem.run_bind, hvL, hL, Instr.sliceAt, Instr.slice, run_underlying hu, hr, hs, Addr.add_lit]
      · exact hp.elim
    · exact hp.elim
  · exact pure_wp (o := ⟨dst, .slice t x lo hi mx, ty, pos, aft, gd⟩) h (by exact hp)
theorem op_ok {o : Oper} {K : ASt → Prop} {Q : Exit → Act → World → Prop} (h : Conc cx a w st L) (hp : aOp P o K st) : o.wp P a w (After cx K) Q := by
  obtain ⟨dst, op, ty, pos, aft, gd⟩ := o
  unfold aOp at hp
  simp only at hp
  split at hp
  · rename_i t x
    obtain ⟨h1, h2⟩ := hp
    have he := eval_ok h x
    obtain ⟨h3, h4⟩ := box_ok (P := P) (t := t) h he.1 he.2 h1 dst
    exact wp_value (by simp [execOp, h3]) ⟨_, _, h2, h4⟩
  · rename_i t
    split at hp
    · rename_i z hz
      obtain ⟨h1, h2⟩ := hp
      obtain ⟨h3, h4⟩ := box_ok (P := P) (t := t) (av := .c z) h (.tree (.c z)) trivial h1 dst
      exact wp_value (by simp [execOp, alloc_run hz, h3]) ⟨_, _, h2, h4⟩
    · exact hp.elim
  · rename_i t p x
    unfold aStore at hp
    split at hp
    · rename_i id i j hpe
      split at hp
      · rename_i ty cells hid
        obtain ⟨rfl, h0, h1, h2, h3, h4⟩ := hp
        have hpv := (eval_ok h p).1
        rw [hpe] at hpv
        have hx := eval_ok h x
        obtain ⟨w', h5, h6, _⟩ := store_box_ok h hpv hid hx.1 hx.2 h0 h1 h2 h3 dst
        exact wp_skip' (by simp [execOp, h5]) ⟨_, _, h4, h6⟩
      · rename_i e sz rows hid
        obtain ⟨hi, h0, h1, h2, h3, h3', h4⟩ := hp
        have hpv := (eval_ok h p).1
        rw [hpe] at hpv
        have hx := eval_ok h x
        obtain ⟨w', h5, h6, _⟩ := store_row_ok h hpv hid hx.1 hx.2 hi h0 h1 h2 h3 h3' dst
        exact wp_skip' (by simp [execOp, h5]) ⟨_, _, h4, h6⟩
      · rename_i e sz rows hid
        obtain ⟨hi, h0, h1, h2, h3, h4⟩ := hp
        have hpv := (eval_ok h p).1
        rw [hpe] at hpv
        have hx := eval_ok h x
        obtain ⟨w', h5, h6, _⟩ := store_nest_ok h hpv hid hx.1 hx.2 hi h0 h1 h2 h3 dst
        exact wp_skip' (by simp [execOp, h5]) ⟨_, _, h4, h6⟩
      · exact hp.elim
    · exact hp.elim
  · rename_i t n parts
    unfold aBuildSlice at hp
    replace h := conc_frzs (ownIds (parts.toList.flatMap fun (p : Nat × Operand) => aCells (aEv st p.2))) h
    unfold aBuildSlice1 at hp
    split at hp
    · rename_i e sz by_ ht
      split at hp
      · obtain ⟨⟨h1, rfl, h3, h5⟩, h6⟩ := hp
        obtain ⟨v', w', L', h7, h8, _⟩ := buildSlice_ok h ht h1 h3 h5 dst
        refine wp_value ?_ ⟨_, _, h6, h8⟩
        simp only [Array.toArray_toList] at h7
        simp [execOp]
        simp at h7
        simp [h7]
      · obtain ⟨⟨h1, rfl, h3, h5⟩, h6⟩ := hp
        obtain ⟨v', w', L', h7, h8, _⟩ := buildN_ok h ht h1 h3 h5 dst
        refine wp_value ?_ ⟨_, _, h6, h8⟩
        simp only [Array.toArray_toList] at h7
        simp [execOp]
        simp at h7
        simp [h7]
    · exact hp.elim
  · rename_i t l c
    unfold aMake at hp
    split at hp
    · rename_i e sz by_ k1 n k2 m ht hl hc
      split at hp
      · rename_i z hz
        obtain ⟨⟨rfl, h1, h2, h3, h4⟩, h5⟩ := hp
        have hl' := (eval_ok h l).1
        have hc' := (eval_ok h c).1
        rw [hl] at hl'
        rw [hc] at hc'
        obtain ⟨v', w', L', h6, h7, _⟩ := make_ok (k1 := k1) (k2 := k2) h ht hz h1 h2 h3 h4 dst
        exact wp_value (by simp [execOp, hl'.c_inv, hc'.c_inv, h6]) ⟨_, _, h5, h7⟩
      · exact hp.elim
    · exact hp.elim
  · rename_i t parts
    obtain ⟨v, cs, h1, h2, h3, h4⟩ := build_wp h hp
    refine wp_value ?_ ⟨_, _, h4, conc_pure h h1 h2 dst⟩
    simp [execOp, h3 w]
  · rename_i t x lo hi mx
    exact sliceW_wp h hp
  · rename_i t r
    obtain ⟨hr, hp⟩ := hp
    cases r with
    | some r => cases hr
    | none =>
      obtain ⟨h1, h2⟩ := makeMap_ok (P := P) (t := t) h dst
      exact wp_value (by simp [execOp, h1]) ⟨_, _, hp, h2⟩
  · rename_i t m k ok
    obtain ⟨r, av, h1, h2, h3, h4⟩ := lookup_ok (nx := st.next) h.lay (eval_ok h m).1 (eval_ok h k).1 hp
    exact wp_value (by simp [execOp, h4]) ⟨_, _, h1, conc_pure h h2 h3 dst⟩
  · rename_i t m k v
    obtain ⟨w', st', h1, h2, h3, _⟩ := mapUpd_ok h (eval_ok h m).1 (eval_ok h k).1 (eval_ok h v).1 dst hp
    exact wp_skip' (by simp [execOp, h1]) ⟨_, _, h2, h3⟩
  · rename_i c
    obtain ⟨callee, args, argTypes⟩ := c
    simp only at hp
    split at hp
    · split at hp
      · rename_i x y t t' h1 h2
        obtain rfl : args = #[x, y] := by cases args; simp_all
        obtain rfl : argTypes = #[t, t'] := by cases argTypes; simp_all
        obtain ⟨rfl, hp⟩ := hp
        unfold aAppend at hp
        split at hp
        · rename_i e sz by_ ht
          split at hp
          · rename_i oid rows rows2 hx hy
            obtain ⟨⟨h3, h4⟩, h5⟩ := hp
            obtain ⟨v', w', L', h6, h7, _⟩ := append_ok (ty := ty) h (eval_ok h x).1 (eval_ok h y).1 ht hx hy (by simpa [maxLen] using h3) h4 dst
            exact wp_value (by simp [execOp, resolve, invoke, builtin, h6]) ⟨_, _, h5, h7⟩
          · split at hp
            · rename_i oid rows rows2 hx hy
              obtain ⟨⟨h3, h4⟩, h5⟩ := hp
              obtain ⟨v', w', L', h6, h7, _⟩ := appendN_ok (ty := ty) h (eval_ok h x).1 (eval_ok h y).1 ht hx hy (by simpa [maxLen] using h3) h4 dst
              exact wp_value (by simp [execOp, resolve, invoke, builtin, h6]) ⟨_, _, h5, h7⟩
            · exact hp.elim
        · exact hp.elim
      · exact hp.elim
    · unfold aClears at hp
      split at hp
      · rename_i x t h1 h2
        obtain rfl : args = #[x] := by cases args; simp_all
        obtain rfl : argTypes = #[t] := by cases argTypes; simp_all
        obtain ⟨w', st', h3, h4, h5, _⟩ := clear_ok (ty := ty) h (eval_ok h x).1 dst hp
        exact wp_value (by simp [execOp, resolve, invoke, builtin, h3]) ⟨_, _, h4, h5⟩
      · exact hp.elim
    · rcases hp with hp | hp
      · unfold aLenMs at hp
        split at hp
        · rename_i x t h1 h2
          obtain rfl : args = #[x] := by cases args; simp_all
          obtain rfl : argTypes = #[t] := by cases argTypes; simp_all
          obtain ⟨r, av, h3, h4, h5, h6⟩ := lenM_ok (ty := ty) (nx := st.next) h.lay (eval_ok h x).1 hp
          exact wp_value (by simp [execOp, resolve, invoke, builtin, h6]) ⟨_, _, h3, conc_pure h h4 h5 dst⟩
        · exact hp.elim
      · exact pure_wp h hp
    · rename_i f
      obtain ⟨g, zs, avs, hrun0, hsz, hlt, hp⟩ := aFnB_inv h hp
      by_cases hmeth : aMeth none P st g avs (aK2 dst K)
      · obtain ⟨hent, ids0, _, hc⟩ := meth_ok h hsz (fun j v av h1 h2 => (hlt j v av h1 h2).1) hmeth dst
        unfold Oper.wp
        rw [hrun0 hent _ argTypes rfl]
        show Calls P g zs w _
        refine hc.mono ?_
        rintro e w' ⟨v, av, st', L', rfl, h1, h2, h3, _⟩
        exact ⟨_, _, h1, h2⟩
      replace hp : aCall0 P st g avs (aK2 dst K) ∨ (none = (none : Option (Nat × List Nat)) ∧ (aUpdM P st g avs (aK2 dst K) ∨ aCallZ P st g avs (aK2 dst K))) := by
        rcases hp with hp | hp | hp
        · exact .inl hp
        · exact .inr hp
        · exact absurd hp hmeth
      have hent : Enters P g := by
        rcases hp with (⟨R, hd, _⟩ | ⟨hd, _⟩) | ⟨_, (⟨_, _, _, _, _, _, _, _, hd, _⟩ | ⟨_, _, _, _, _, _, _, _, _, hd, _⟩ | ⟨hd, _⟩) | ⟨_, (⟨R, hd, _⟩ | ⟨hd, _⟩)⟩⟩
        · exact hd.1
        · exact hd
        · exact hd.1
        · exact hd.1
        · exact hd
        · exact hd.1
        · exact hd
      unfold Oper.wp
      rw [hrun0 hent _ argTypes rfl]
      show Calls P g zs w _
      have hargs : zs.size = avs.length ∧ ∀ (j : Nat) (v : Value) (av : AV), zs[j]? = some v → avs[j]? = some av → RVx cx w st.tab L v av := ⟨hsz, fun j v av h1 h2 => (hlt j v av h1 h2).1⟩
      rcases hp with hp | ⟨_, hp | ⟨ids, hp⟩⟩
      · refine (call_ok h hargs.1 hargs.2 hp dst).mono ?_
        rintro e w' ⟨v, av, st', L', rfl, h1, h2, _⟩
        exact ⟨_, _, h1, h2⟩
      rotate_left
      · obtain ⟨h3, h4⟩ := frzAVs_ok ids h hlt
        refine (call_ok (conc_frzs ids h) (by rw [h3]; exact hargs.1) (fun j v av h5 h6 => (h4 j v av h5 h6).1) hp dst).mono ?_
        rintro e w' ⟨v, av, st', L', rfl, h1, h2, _⟩
        exact ⟨_, _, h1, h2⟩
      · refine (updM_ok h hargs.1 hlt hp dst).mono ?_
        rintro e w' ⟨v, av, st', L', rfl, h1, h2, _⟩
        exact ⟨_, _, h1, h2⟩
    · exact pure_wp h hp
  · exact pure_wp h hp
theorem guard_ok {ops : Array Oper} {g : Option (Nat × Bool)} {yes no : ASt → Prop} (h : Conc cx a w st L) (hp : aGuard ops g yes no st) (o : Oper) (ho : o.guard = g) :
    (Region.wanted o (yielded ops a.tmps) = true ∧ ∃ st', yes st' ∧ Conc cx a w st' L ∧ st'.tab = st.tab ∧ st'.next = st.next) ∨ (Region.wanted o (yielded ops a.tmps) = false ∧ ∃ st', no st' ∧ Conc cx a w st' L ∧ st'.tab = st.tab ∧ st'.next = st.next) := by
  subst ho
  unfold aGuard at hp
  unfold Region.wanted
  split at hp
  · rename_i hg
    rw [hg]
    exact .inl ⟨rfl, st, hp, h, rfl, rfl⟩
  · rename_i j want hg
    rw [hg]
    simp only
    split at hp
    · rename_i d hd
      split at hp
      · rename_i v hv
        have hval := (h.env d).1
        rw [hv] at hval
        have hval := hval.c_inv
        have hy : yielded ops a.tmps j = yv v := by
          unfold yielded
          rw [hd]
          simp only [Option.bind_some]
          rw [← hval]
          rw [Array.getD_eq_getD_getElem?]
          cases ht : a.tmps[d]? with
          | none => rfl
          | some u => cases u <;> rfl
        rw [hy]
        have same : ∀ b, v = .bool b → Conc cx a w (st.put (some d) (.c (.bool b))) L ∧ (st.put (some d) (.c (.bool b))).tab = st.tab ∧ (st.put (some d) (.c (.bool b))).next = st.next := fun b hb => by
          subst hb
          have e1 : (st.put (some d) (.c (.bool b))).tab = st.tab := rfl
          have e2 : (st.put (some d) (.c (.bool b))).next = st.next := rfl
          have e3 : (st.put (some d) (.c (.bool b))).n = st.n := rfl
          refine ⟨⟨by rw [e1]; exact h.lay, by rw [e3]; exact h.size, by rw [e1]; exact h.defers, by rw [e1, e2]; exact h.young, fun t => ?_⟩, e1, e2⟩
          rw [e1, e2, get_put]
          simp only
          split
          · rename_i ht
            rw [ht.2, hval]
            exact ⟨.tree (.c _), trivial⟩
          · exact h.env t
        split at hp
        · rename_i b hb
          have hvb : v = .bool b := by
            cases v <;> simp [yv] at hb
            rw [hb]
          by_cases hw : b = want
          · subst hw
            have hp : yes (st.put (some d) (.c (.bool b))) := by cases b <;> exact hp
            exact .inl ⟨by simp [hb], _, hp, same _ hvb⟩
          · have hp : no (st.put (some d) (.c (.bool b))) := by cases b <;> cases want <;> first | exact hp | exact absurd rfl hw
            exact .inr ⟨by simp [hb, hw], _, hp, same _ hvb⟩
        · rename_i hb
          exact .inr ⟨by simp [hb], st, hp, h, rfl, rfl⟩
      · exact hp.elim
    · exact hp.elim
theorem skip_conc (h : Conc cx a w st L) (dst : Option Nat) : Conc cx (a.put dst undef) w (st.put dst (.c undef)) L := conc_pure h (.tree (.c _)) trivial dst
theorem ops_ok {ops : Array Oper} {K : ASt → Prop} {Q : Exit → Act → World → Prop} (hQ : ∀ a w st L, K st → Conc cx a w st L → Q .normal a w) : ∀ (l : List Oper) (a : Act) (w : World) (st : ASt) (L : Nat → Value), Conc cx a w st L → aOps P ops K l st → wpList P ops Q l a w
  | [], a, w, st, L, h, hp => hQ a w st L hp h
  | o :: rest, a, w, st, L, h, hp => by
    unfold aOps at hp
    refine wpList_step fun K' hK' => ?_
    rcases guard_ok h hp o rfl with ⟨hw, st', h1, h2, _⟩ | ⟨hw, st', h1, h2, _⟩
    · rw [if_pos hw]
      exact Oper.wp_mono (fun a' w' ⟨st'', L', h3, h4⟩ => hK' a' w' (ops_ok hQ rest a' w' st'' L' h4 h3)) (op_ok h2 h1)
    · rw [if_neg (by simp [hw])]
      exact hK' _ _ (ops_ok hQ rest _ w _ L (skip_conc h2 o.dst) h1)
theorem conc_below (h : Conc cx a w st L) (hb : Below w.heap.size w w') : Conc cx a w' st L := by
  have hext : Ext cx w st.tab L st.next w' st.tab L := ext_merge hb (fun id _ => ⟨rfl, rfl⟩) (fun id o hid => (h.young id o hid).1) (fun id o g h1 h2 _ => by have := (h.young id o h2).1; omega)
  refine ⟨lay_merge h.lay h.young hb (fun id _ => ⟨rfl, rfl⟩) (fun id o h1 h2 => ?_) (fun id o g h1 h2 _ => ?_) (fun id id' o o' g h1 _ h2 _ _ _ => ?_), h.size, h.defers.mono hext.blk hext.sub, h.young, fun t => ⟨hext.rv (h.env t).1 (h.env t).2, (h.env t).2⟩⟩
  · have := (h.young id o h2).1
    omega
  · have := (h.young id o h2).1
    omega
  · have := (h.young id o h2).1
    omega
/-- an act in whose slots T nothing was put, and that deferred nothing more -/
structure ActSame (T : Nat → Prop) (a a' : Act) : Prop where
  defers : a'.defers = a.defers
  slots : ∀ t, T t → a'.tmps.getD t undef = a.tmps.getD t undef
theorem ActSame.refl {T : Nat → Prop} (a : Act) : ActSame T a a := ⟨rfl, fun _ _ => rfl⟩
theorem ActSame.trans {T : Nat → Prop} {a b c : Act} (h : ActSame T a b) (k : ActSame T b c) : ActSame T a c := ⟨k.defers.trans h.defers, fun t ht => (k.slots t ht).trans (h.slots t ht)⟩
theorem put_defersH (a : Act) (d : Option Nat) (v : Value) : (a.put d v).defers = a.defers := by cases d <;> rfl
theorem put_tabH (st : ASt) (d : Option Nat) (av : AV) : (st.put d av).tab = st.tab := by cases d <;> rfl
theorem put_slot {a : Act} {dst : Option Nat} {v : Value} {t : Nat} (h : dst ≠ some t) : (a.put dst v).tmps.getD t undef = a.tmps.getD t undef := by
  cases dst with
  | none => rfl
  | some d =>
    have hd : d ≠ t := fun e => h (by rw [e])
    simp [Act.put, Array.getD_eq_getD_getElem?, hd]
theorem ActSame.put {T : Nat → Prop} {a b : Act} {dst : Option Nat} {v : Value} (h : ActSame T a b) (hd : ∀ t, T t → dst ≠ some t) : ActSame T a (b.put dst v) := ⟨(put_defersH _ _ _).trans h.defers, fun t ht => (put_slot (hd t ht)).trans (h.slots t ht)⟩
/-- an operation leaves the slots as they are that it does not put -/
theorem wp_slots {o : Oper} {K : Act → World → Prop} {Q : Exit → Act → World → Prop} {T : Nat → Prop} (hd : ∀ t, T t → o.dst ≠ some t) (h : o.wp P a w K Q) : o.wp P a w (fun a' w' => K a' w' ∧ ∀ t, T t → a'.tmps.getD t undef = a.tmps.getD t undef) Q := by
  unfold Oper.wp Oper.upon at *
  generalize (execOp a.eval o).run P w = r at h
  cases r with
  | ok x w1 =>
    cases x with
    | value v => exact ⟨h, fun t ht => put_slot (hd t ht)⟩
    | skip => exact ⟨h, fun t ht => put_slot (hd t ht)⟩
    | defer d => exact ⟨h, fun t ht => put_slot (a := { a with defers := d :: a.defers }) (hd t ht)⟩
    | enter f args =>
      refine Calls.mono h fun e w2 h2 => ?_
      cases e with
      | returned v => exact ⟨h2, fun t ht => put_slot (hd t ht)⟩
      | panicked chain => exact h2
      | outgrown => exact h2
    | row row args => exact Rows.mono h fun v w2 h2 => ⟨h2, fun t ht => put_slot (hd t ht)⟩
    | _ => exact h.elim
  | halt x w1 =>
    cases x <;> first | exact h | exact h.elim
theorem dops_ok {ops : Array Oper} {K : ASt → Prop} {Q : Act → Prop} {T : Nat → Prop} {a0 : Act} {tab0 : ATab} (hQ : ∀ a st, K st → Conc cx a w st L → st.tab = tab0 → ActSame T a0 a → Q a) : ∀ (l : List Oper) (a : Act) (st : ASt), (∀ o ∈ l, ∀ t, T t → o.dst ≠ some t) → st.tab = tab0 → ActSame T a0 a → Conc cx a w st L → aDops P ops K l st → wpQuiet P ops (fun w' => Below w.heap.size w w') Q l a
  | [], a, st, _, hT, hA, h, hp => hQ a st hp h hT hA
  | o :: rest, a, st, hd0, hT, hA, h, hp => by
    have hdo := hd0 o (List.mem_cons_self ..)
    have hdr := fun o' (ho : o' ∈ rest) => hd0 o' (List.mem_cons_of_mem _ ho)
    unfold aDops at hp
    refine wpQuiet_step fun K' hK' => ?_
    rcases guard_ok h hp o rfl with ⟨hw, st', h1, h2, ht', _⟩ | ⟨hw, st', h1, h2, ht', _⟩
    · rw [if_pos hw]
      have pureCase : ∀ op, o.op = op → aPure P st'.tab (aEv st') op (aK st' o.dst (aDops P ops K rest)) → o.quiet P a (fun w' => Below w.heap.size w w') K' := fun op hop hp' => by
        subst hop
        obtain ⟨v, av, h3, h4, h5, h6, _⟩ := pure_ok h2.lay (fun id o hid => (h2.young id o hid).2) (eval_ok h2) hp'
        refine ⟨v, fun w' hw' => ?_, hK' _ (dops_ok hQ rest _ _ hdr (by rw [put_tabH, ht', hT]) (hA.put hdo) (conc_pure h2 h4 h5 o.dst) h3)⟩
        unfold Oper.quietAt
        rw [h6 w' hw']
        exact ⟨rfl, rfl⟩
      unfold aDop at h1
      split at h1
      · rename_i c hc
        split at h1
        · rename_i f hf
          obtain ⟨g, xs, cs, hg, hxn, hxr, ⟨v, hd, h3⟩, _⟩ := aFn_inv (eval_ok h2 f).1 (eval_ok h2 f).2 h1
          refine ⟨v, fun w' hw' => ?_, hK' _ (dops_ok hQ rest _ _ hdr (by rw [put_tabH, ht', hT]) (hA.put hdo) (conc_pure h2 (.tree (.c v)) trivial o.dst) h3)⟩
          have hrun : (execOp a.eval o).run P w' = .ok (.enter g (c.args.map a.eval ++ xs)) w' := by
            have := hd.1 (c.args.map a.eval ++ xs) w'
            simp [execOp, hc, resolve, hf, hg, Deferred.ofValue, invoke, this]
          have hargs := args_rv h2 (args := c.args) hxn hxr
          unfold Oper.quietAt
          rw [hrun]
          refine ⟨rfl, (hd.2 (fun b => b < w'.heap.size) w' (c.args.map a.eval ++ xs) (h2.lay.amb.below hw').all (by simpa using hargs.1) (fun j x av h4 h5 => ?_)).mono ?_⟩
          · rw [List.getElem?_map] at h5
            cases hj : (c.args.toList.map (aEv st') ++ cs)[j]? with
            | none => simp [hj] at h5
            | some y =>
              simp [hj] at h5
              subst h5
              exact (dref_ok h2.lay (hargs.2 j x y h4 hj)).mono (fun p hp => hw'.cell hp) (fun b hb => Nat.lt_of_lt_of_le hb hw'.size)
          · rintro e w'' ⟨v', L2, R, rfl, _, rfl, hl, hr⟩
            obtain rfl := hr.c_inv
            exact ⟨rfl, hw'.trans ((hl.below.below fun b hb => hb).mono hw'.size)⟩
        · exact pureCase _ hc h1
      · rename_i t parts hb
        obtain ⟨v, cs, h3, h4, h5, h6⟩ := build_wp h2 h1
        refine ⟨v, fun w' hw' => ?_, hK' _ (dops_ok hQ rest _ _ hdr (by rw [put_tabH, ht', hT]) (hA.put hdo) (conc_pure h2 h3 h4 o.dst) h6)⟩
        have hrun : (execOp a.eval o).run P w' = .ok (.value v) w' := by simp [execOp, hb, h5 w']
        unfold Oper.quietAt
        rw [hrun]
        exact ⟨rfl, rfl⟩
      · exact pureCase _ rfl h1
    · rw [if_neg (by simp [hw])]
      exact hK' _ (dops_ok hQ rest _ _ hdr (by rw [put_tabH, ht', hT]) (hA.put hdo) (skip_conc h2 o.dst) h1)
theorem pops_ok {ops : Array Oper} {K : ASt → Prop} {Q : Act → Prop} {T : Nat → Prop} {a0 : Act} {tab0 : ATab} (hQ : ∀ a st, K st → Conc cx a w st L → st.tab = tab0 → ActSame T a0 a → Q a) : ∀ (l : List Oper) (a : Act) (st : ASt), (∀ o ∈ l, ∀ t, T t → o.dst ≠ some t) → st.tab = tab0 → ActSame T a0 a → Conc cx a w st L → aPops P ops K l st → wpStill P ops w Q l a
  | [], a, st, _, hT, hA, h, hp => hQ a st hp h hT hA
  | o :: rest, a, st, hd0, hT, hA, h, hp => by
    have hdo := hd0 o (List.mem_cons_self ..)
    have hdr := fun o' (ho : o' ∈ rest) => hd0 o' (List.mem_cons_of_mem _ ho)
    unfold aPops at hp
    refine wpStill_step fun K' hK' => ?_
    rcases guard_ok h hp o rfl with ⟨hw, st', h1, h2, ht', _⟩ | ⟨hw, st', h1, h2, ht', _⟩
    · rw [if_pos hw]
      unfold aPops.aPop at h1
      obtain ⟨v, av, h3, h4, h5, h6, _⟩ := pure_ok h2.lay (fun id o hid => (h2.young id o hid).2) (eval_ok h2) h1
      unfold Oper.still
      rw [h6 w (Below.refl _ _), Oper.stillUpon_value]
      exact hK' _ (pops_ok hQ rest _ _ hdr (by rw [put_tabH, ht', hT]) (hA.put hdo) (conc_pure h2 h4 h5 o.dst) h3)
    · rw [if_neg (by simp [hw])]
      exact hK' _ (pops_ok hQ rest _ _ hdr (by rw [put_tabH, ht', hT]) (hA.put hdo) (skip_conc h2 o.dst) h1)
/-- objects from nx0 on are younger than the world w0 -/
def Young (nx0 : Nat) (B : Nat) (G : Nat → Prop) (tab : ATab) (L : Nat → Value) : Prop := ∀ id o g, nx0 ≤ id → tab.get id = some o → vblk (L id) = some g → B ≤ g ∨ G g
/-- old memory is as it was, but for some blocks -/
structure KeepX (B : Nat) (G : Nat → Prop) (wr w : World) : Prop where
  size : B ≤ w.heap.size
  block : ∀ k, k < B → ¬ G k → w.heap[k]? = wr.heap[k]?
theorem KeepX.step {B : Nat} {G : Nat → Prop} {wr w w' : World} (h : KeepX B G wr w) (hs : w.heap.size ≤ w'.heap.size) (hb : ∀ k, k < B → ¬ G k → w'.heap[k]? = w.heap[k]?) : KeepX B G wr w' :=
  ⟨Nat.le_trans h.size hs, fun k hk hG => (hb k hk hG).trans (h.block k hk hG)⟩
theorem frzs_next : ∀ (ids : List Nat) (st : ASt), (frzs st ids).next = st.next
  | [], _ => rfl
  | id :: ids, st => by
    show (frzs (frz1 st id) ids).next = _
    rw [frzs_next ids]
    unfold frz1
    split <;> rfl
theorem young_frzs {nx0 B : Nat} {G : Nat → Prop} {L : Nat → Value} : ∀ (ids : List Nat) {st : ASt}, Young nx0 B G st.tab L → Young nx0 B G (frzs st ids).tab L
  | [], _, h => h
  | id :: ids, st, h => young_frzs ids (st := frz1 st id) fun k o g h1 h2 h3 => by
    unfold frz1 at h2
    split at h2
    · rw [ATab.get_cons, frzTab_get] at h2
      split at h2
      · cases h2
      · cases hg : st.tab.get k with
        | none => simp [hg] at h2
        | some o' => exact h k o' g h1 hg h3
    · exact h k o g h1 h2 h3
theorem any_frzs : ∀ (ids : List Nat) {st : ASt} (k : Nat) (o : AObj), (frzs st ids).tab.get k = some o → ∃ o', st.tab.get k = some o'
  | [], _, _, o, h => ⟨o, h⟩
  | id :: ids, st, k, o, h => by
    obtain ⟨o1, h⟩ := any_frzs ids (st := frz1 st id) k o h
    unfold frz1 at h
    split at h
    · rw [ATab.get_cons, frzTab_get] at h
      split at h
      · cases h
      · cases hg : st.tab.get k with
        | none => simp [hg] at h
        | some o' => exact ⟨o', rfl⟩
    · exact ⟨o1, h⟩
theorem exec_ok {o : Oper} {K : ASt → Prop} {Q : Exit → Act → World → Prop} {B nx0 : Nat} {ids : List Nat} {G : Nat → Prop} {wr : World} (h : Conc cx a w st L) (hS : KeepX B G wr w) (hy : Young nx0 B G st.tab L) (hG : ∀ id ∈ ids, ∀ g, vblk (L id) = some g → G g) (hnx : ∀ id ∈ ids, id < st.next) (hp : aExec P nx0 ids o K st) :
    o.wp P a w (fun a' w' => ∃ st' L', K st' ∧ Conc cx a' w' st' L' ∧ a'.defers = a.defers ∧ KeepX B G wr w' ∧ Young nx0 B G st'.tab L' ∧ (∀ id, id < st.next → L' id = L id) ∧ st.next ≤ st'.next ∧ ∀ id o, id < st.next → st'.tab.get id = some o → ∃ o', st.tab.get id = some o') Q := by
  have hB := hS.size
  have etab : ∀ (st : ASt) d av, (st.put d av).tab = st.tab := fun st d av => by cases d <;> rfl
  have enext : ∀ (st : ASt) d av, (st.put d av).next = st.next := fun st d av => by cases d <;> rfl
  obtain ⟨dst, op, ty, pos, aft, gd⟩ := o
  unfold aExec at hp
  simp only at hp
  split at hp
  · rename_i x
    have he := eval_ok h x
    refine wp_value (by simp [execOp]) ⟨_, L, hp, conc_pure h he.1 he.2 dst, put_defersH _ _ _, hS, by rw [etab]; exact hy, fun _ _ => rfl, by rw [enext]; exact Nat.le_refl _, fun id o _ hg => ⟨o, by rw [etab] at hg; exact hg⟩⟩
  · rename_i t x
    obtain ⟨v, av, h1, h2, h3, h4, _⟩ := pure_ok (o := ⟨dst, .load t x, ty, pos, aft, gd⟩) h.lay (fun id o hid => (h.young id o hid).2) (eval_ok h) hp
    exact wp_value (h4 w (Below.refl _ _)) ⟨_, L, h1, conc_pure h h2 h3 dst, put_defersH _ _ _, hS, by rw [etab]; exact hy, fun _ _ => rfl, by rw [enext]; exact Nat.le_refl _, fun id o _ hg => ⟨o, by rw [etab] at hg; exact hg⟩⟩
  · rename_i t m k ok
    obtain ⟨r, av, h1, h2, h3, h4⟩ := lookup_ok (nx := st.next) h.lay (eval_ok h m).1 (eval_ok h k).1 hp
    exact wp_value (by simp [execOp, h4]) ⟨_, L, h1, conc_pure h h2 h3 dst, put_defersH _ _ _, hS, by rw [etab]; exact hy, fun _ _ => rfl, by rw [enext]; exact Nat.le_refl _, fun id o _ hg => ⟨o, by rw [etab] at hg; exact hg⟩⟩
  · rename_i t m k v
    split at hp
    · rename_i id hme
      obtain ⟨hid, hp⟩ := hp
      have hmv := (eval_ok h m).1
      rw [hme] at hmv
      obtain ⟨w', st', h1, h2, h3, h4, id', ents, ents', hidd, h5, rfl, h6⟩ := mapUpd_ok h hmv (eval_ok h k).1 (eval_ok h v).1 dst hp
      cases hidd
      have hmay : ∀ k, k < B → ¬ G k → vblk (L id) = some k → False := fun k hk hGk e => by
        rcases hid with hid | hge
        · exact hGk (hG id hid k e)
        · rcases hy id _ k hge h5 e with h9 | h9
          · omega
          · exact hGk h9
      refine wp_skip' (by simp [execOp, h1]) ⟨_, L, h2, h3, put_defersH _ _ _, hS.step (by omega) (fun k hk hGk => h6 k fun e => hmay k hk hGk e), ?_, fun _ _ => rfl, by rw [enext]; exact Nat.le_refl _, fun k o' _ hg => by
        rw [etab, ATab.get_cons] at hg
        split at hg
        · rename_i e
          exact ⟨_, by rw [e]; exact h5⟩
        · exact ⟨o', hg⟩⟩
      rw [etab]
      intro k ob g h9 h10 h11
      rw [ATab.get_cons] at h10
      split at h10
      · rename_i e
        exact hy k (.map ents) g h9 (by rw [e]; exact h5) h11
      · exact hy k ob g h9 h10 h11
    · exact hp.elim
  · rename_i t p x
    split at hp
    · rename_i id i j hpe
      obtain ⟨hid, hp⟩ := hp
      have hmay : ∀ k, k < B → ¬ G k → vblk (L id) = some k → False := fun k hk hGk e => by
        rcases hid with hid | hge
        · exact hGk (hG id hid k e)
        · have hn : ∃ o, st.tab.get id = some o := by
            unfold aStoreB at hp
            split at hp <;> first | exact ⟨_, by assumption⟩ | exact hp.elim
          obtain ⟨o, ho⟩ := hn
          rcases hy id o k hge ho e with h9 | h9
          · omega
          · exact hGk h9
      unfold aStoreB at hp
      split at hp
      · rename_i ty cells hget
        obtain ⟨rfl, h0, h1, h2, h3, h4⟩ := hp
        have hpv := (eval_ok h p).1
        rw [hpe] at hpv
        have hx := eval_ok h x
        obtain ⟨w', h5, h6, h7, h8⟩ := store_box_ok h hpv hget hx.1 hx.2 h0 h1 h2 h3 dst
        refine wp_skip' (by simp [execOp, h5]) ⟨_, L, h4, h6, put_defersH _ _ _, hS.step (by omega) (fun k hk hGk => h8 k fun e => hmay k hk hGk e), ?_, fun _ _ => rfl, by rw [enext]; exact Nat.le_refl _, fun k o' _ hg => by
          rw [etab, ATab.get_cons] at hg
          split at hg
          · rename_i e
            exact ⟨_, by rw [e]; exact hget⟩
          · exact ⟨o', hg⟩⟩
        rw [etab]
        intro k ob g h9 h10 h11
        rw [ATab.get_cons] at h10
        split at h10
        · rename_i e
          exact hy k (.box ty cells) g h9 (by rw [e]; exact hget) h11
        · exact hy k ob g h9 h10 h11
      · rename_i e sz rows hget
        obtain ⟨h0, h1, h2, h3, h3', h3'', h4⟩ := hp
        have hpv := (eval_ok h p).1
        rw [hpe] at hpv
        have hx := eval_ok h x
        obtain ⟨w', h5, h6, h7, h8⟩ := store_row_ok h hpv hget hx.1 hx.2 h0 h1 h2 h3 h3' h3'' dst
        refine wp_skip' (by simp [execOp, h5]) ⟨_, L, h4, h6, put_defersH _ _ _, hS.step (by omega) (fun k hk hGk => h8 k fun e => hmay k hk hGk e), ?_, fun _ _ => rfl, by rw [enext]; exact Nat.le_refl _, fun k o' _ hg => by
          rw [etab, ATab.get_cons] at hg
          split at hg
          · rename_i e'
            exact ⟨_, by rw [e']; exact hget⟩
          · exact ⟨o', hg⟩⟩
        rw [etab]
        intro k ob g h9 h10 h11
        rw [ATab.get_cons] at h10
        split at h10
        · rename_i e'
          exact hy k (.row e sz rows) g h9 (by rw [e']; exact hget) h11
        · exact hy k ob g h9 h10 h11
      · rename_i e sz rows hget
        obtain ⟨h0, h1, h2, h3, h3', h4⟩ := hp
        have hpv := (eval_ok h p).1
        rw [hpe] at hpv
        have hx := eval_ok h x
        obtain ⟨w', h5, h6, h7, h8⟩ := store_nest_ok h hpv hget hx.1 hx.2 h0 h1 h2 h3 h3' dst
        refine wp_skip' (by simp [execOp, h5]) ⟨_, L, h4, h6, put_defersH _ _ _, hS.step (by omega) (fun k hk hGk => h8 k fun e => hmay k hk hGk e), ?_, fun _ _ => rfl, by rw [enext]; exact Nat.le_refl _, fun k o' _ hg => by
          rw [etab, ATab.get_cons] at hg
          split at hg
          · rename_i e'
            exact ⟨_, by rw [e']; exact hget⟩
          · exact ⟨o', hg⟩⟩
        rw [etab]
        intro k ob g h9 h10 h11
        rw [ATab.get_cons] at h10
        split at h10
        · rename_i e'
          exact hy k (.nest e sz rows) g h9 (by rw [e']; exact hget) h11
        · exact hy k ob g h9 h10 h11
      · exact hp.elim
    · exact hp.elim
  · rename_i t
    split at hp
    · rename_i z hz
      obtain ⟨h1, h2⟩ := hp
      obtain ⟨h3, h4⟩ := box_ok (P := P) (t := t) (av := .c z) h (.tree (.c z)) trivial h1 dst
      have hbw : Below w.heap.size w (w.alloc (.cells z.cells t)) := (Below.refl _ _).alloc (Nat.le_refl _) _
      refine wp_value (by simp [execOp, alloc_run hz, h3]) ⟨_, _, h2, h4, put_defersH _ _ _, hS.step hbw.size (fun k hk _ => hbw.block k (Nat.lt_of_lt_of_le hk hB)), ?_, fun id hid => ?_, ?_, fun k o' hk hg => ?_⟩
      · rw [etab]
        intro id ob g h5 h6 h7
        rw [ATab.get_cons] at h6
        unfold updL at h7
        split at h6
        · rename_i e
          rw [if_pos e] at h7
          simp [vblk] at h7
          left
          omega
        · rename_i e
          rw [if_neg e] at h7
          exact hy id ob g h5 h6 h7
      · unfold updL
        rw [if_neg (by omega)]
      · rw [enext]
        exact Nat.le_succ _
      · rw [etab, ATab.get_cons, if_neg (by omega)] at hg
        exact ⟨o', hg⟩
    · exact hp.elim
  · rename_i t x
    obtain ⟨h1, h2⟩ := hp
    have he := eval_ok h x
    obtain ⟨h3, h4⟩ := box_ok (P := P) (t := t) h he.1 he.2 h1 dst
    have hbw : Below w.heap.size w (w.alloc (.cells (a.eval x).cells t)) := (Below.refl _ _).alloc (Nat.le_refl _) _
    refine wp_value (by simp [execOp, h3]) ⟨_, _, h2, h4, put_defersH _ _ _, hS.step hbw.size (fun k hk _ => hbw.block k (Nat.lt_of_lt_of_le hk hB)), ?_, fun id hid => ?_, ?_, fun k o' hk hg => ?_⟩
    · rw [etab]
      intro id ob g h5 h6 h7
      rw [ATab.get_cons] at h6
      unfold updL at h7
      split at h6
      · rename_i e
        rw [if_pos e] at h7
        simp [vblk] at h7
        left
        omega
      · rename_i e
        rw [if_neg e] at h7
        exact hy id ob g h5 h6 h7
    · unfold updL
      rw [if_neg (by omega)]
    · rw [enext]
      exact Nat.le_succ _
    · rw [etab, ATab.get_cons, if_neg (by omega)] at hg
      exact ⟨o', hg⟩
  · rename_i t n parts
    unfold aBuildSlice at hp
    have hy' : Young nx0 B G (frzs st (ownIds (parts.toList.flatMap fun (p : Nat × Operand) => aCells (aEv st p.2)))).tab L := young_frzs _ hy
    replace h := conc_frzs (ownIds (parts.toList.flatMap fun (p : Nat × Operand) => aCells (aEv st p.2))) h
    clear hy
    have hy := hy'
    have hnext : (frzs st (ownIds (parts.toList.flatMap fun (p : Nat × Operand) => aCells (aEv st p.2)))).next = st.next := frzs_next _ _
    unfold aBuildSlice1 at hp
    split at hp
    · rename_i e sz by_ ht
      split at hp
      · obtain ⟨⟨h1, rfl, h3, h5⟩, h6⟩ := hp
        obtain ⟨v', w', L', h7, h8, hb, rfl, hv⟩ := buildSlice_ok h ht h1 h3 h5 dst
        refine wp_value ?_ ⟨_, _, h6, h8, put_defersH _ _ _, hS.step hb.size (fun k hk _ => hb.block k (Nat.lt_of_lt_of_le hk hB)), ?_, fun id hid => ?_, ?_, fun k o' hk hg => ?_⟩
        · simp only [Array.toArray_toList] at h7
          simp [execOp]
          simp at h7
          simp [h7]
        · rw [etab]
          intro id ob g h1 h2 h3
          rw [ATab.get_cons] at h2
          unfold updL at h3
          split at h2
          · rename_i e
            rw [if_pos e, hv] at h3
            cases h3
            exact .inl hB
          · rename_i e
            rw [if_neg e] at h3
            exact hy id ob g h1 h2 h3
        · unfold updL
          rw [if_neg (by omega)]
        · rw [enext]
          show st.next ≤ (frzs st _).next + 1
          omega
        · rw [etab] at hg
          simp only [ATab.get_cons] at hg
          rw [if_neg (by omega)] at hg
          exact any_frzs _ k o' hg
      · obtain ⟨⟨h1, rfl, h3, h5⟩, h6⟩ := hp
        obtain ⟨v', w', L', h7, h8, hb, rfl, hv⟩ := buildN_ok h ht h1 h3 h5 dst
        refine wp_value ?_ ⟨_, _, h6, h8, put_defersH _ _ _, hS.step hb.size (fun k hk _ => hb.block k (Nat.lt_of_lt_of_le hk hB)), ?_, fun id hid => ?_, ?_, fun k o' hk hg => ?_⟩
        · simp only [Array.toArray_toList] at h7
          simp [execOp]
          simp at h7
          simp [h7]
        · rw [etab]
          intro id ob g h1 h2 h3
          rw [ATab.get_cons] at h2
          unfold updL at h3
          split at h2
          · rename_i e
            rw [if_pos e, hv] at h3
            cases h3
            exact .inl hB
          · rename_i e
            rw [if_neg e] at h3
            exact hy id ob g h1 h2 h3
        · unfold updL
          rw [if_neg (by omega)]
        · rw [enext]
          show st.next ≤ (frzs st _).next + 1
          omega
        · rw [etab] at hg
          simp only [ATab.get_cons] at hg
          rw [if_neg (by omega)] at hg
          exact any_frzs _ k o' hg
    · exact hp.elim
  · rename_i t l c
    unfold aMake at hp
    split at hp
    · rename_i e sz by_ k1 n k2 m ht hl hc
      split at hp
      · rename_i z hz
        obtain ⟨⟨rfl, h1, h2, h3, h4⟩, h5⟩ := hp
        have hl' := (eval_ok h l).1
        have hc' := (eval_ok h c).1
        rw [hl] at hl'
        rw [hc] at hc'
        obtain ⟨v', w', L', h6, h7, hb, rfl, hv⟩ := make_ok (k1 := k1) (k2 := k2) h ht hz h1 h2 h3 h4 dst
        refine wp_value (by simp [execOp, hl'.c_inv, hc'.c_inv, h6]) ⟨_, _, h5, h7, put_defersH _ _ _, hS.step hb.size (fun k hk _ => hb.block k (Nat.lt_of_lt_of_le hk hB)), ?_, fun id hid => ?_, ?_, fun k o' hk hg => ?_⟩
        · rw [etab]
          intro id ob g h1 h2 h3
          rw [ATab.get_cons] at h2
          unfold updL at h3
          split at h2
          · rename_i e
            rw [if_pos e, hv] at h3
            cases h3
            exact .inl hB
          · rename_i e
            rw [if_neg e] at h3
            exact hy id ob g h1 h2 h3
        · unfold updL
          rw [if_neg (by omega)]
        · rw [enext]
          exact Nat.le_succ _
        · rw [etab, ATab.get_cons, if_neg (by omega)] at hg
          exact ⟨o', hg⟩
      · exact hp.elim
    · exact hp.elim
  · rename_i c
    obtain ⟨callee, args, argTypes⟩ := c
    simp only at hp
    split at hp
    · split at hp
      · rename_i x y t t' h1 h2
        obtain rfl : args = #[x, y] := by cases args; simp_all
        obtain rfl : argTypes = #[t, t'] := by cases argTypes; simp_all
        obtain ⟨⟨rfl, hfr⟩, hp⟩ := hp
        unfold aAppend at hp
        split at hp
        · rename_i e sz by_ ht
          split at hp
          · rename_i oid rows rows2 hx hy2
            obtain ⟨⟨h3, h4⟩, h5⟩ := hp
            obtain ⟨v', w', L', h6, h7, hg, rfl, hv, hown⟩ := append_ok (ty := ty) h (eval_ok h x).1 (eval_ok h y).1 ht hx hy2 (by simpa [maxLen] using h3) h4 dst
            have hoid : ∀ id, oid = some id → aMay nx0 ids id ∧ ∃ o, st.tab.get id = some o := fun id hid => by
              subst hid
              unfold aDst at hx
              split at hx
              · rename_i id' hid'
                rw [hid'] at hfr
                split at hx
                · rename_i e' sz' rows' hget
                  split at hx
                  · cases hx
                    exact ⟨hfr, _, hget⟩
                  · cases hx
                · cases hx
              · cases hx
              · cases hx
            have hown2 : ∀ g, (a.eval x).ownBlock = some g → B ≤ g ∨ G g := fun g hg' => by
              obtain ⟨id, hid, hbl⟩ := hown g hg'
              obtain ⟨h8, o, h9⟩ := hoid id hid
              rcases h8 with h8 | h8
              · exact .inr (hG id h8 g hbl)
              · exact hy id o g h8 h9 hbl
            refine wp_value (by simp [execOp, resolve, invoke, builtin, h6]) ⟨_, _, h5, h7, put_defersH _ _ _, hS.step hg.size (fun k hk hnk => hg.block k (Nat.lt_of_lt_of_le hk hB) fun e => by rcases hown2 k e.symm with h9 | h9; omega; exact hnk h9), ?_, fun id hid => by unfold updL; rw [if_neg (by omega)], by rw [enext]; exact Nat.le_succ _, fun k o' hk hg => by
              rw [etab] at hg
              simp only [appTab_get] at hg
              rw [if_neg (by omega)] at hg
              split at hg
              · cases hg
              · exact ⟨o', hg⟩⟩
            rw [etab]
            intro id ob g h8 h9 h10
            rw [appTab_get] at h9
            unfold updL at h10
            split at h9
            · rename_i e1
              rw [if_pos e1] at h10
              rcases hv with hv | hv
              · exact hown2 g (by rw [← hv]; exact h10)
              · rw [hv] at h10
                cases h10
                exact .inl hB
            · rename_i e1
              rw [if_neg e1] at h10
              split at h9
              · cases h9
              · exact hy id ob g h8 h9 h10
          · split at hp
            · rename_i oid rows rows2 hx hy2
              obtain ⟨⟨h3, h4⟩, h5⟩ := hp
              obtain ⟨v', w', L', h6, h7, hg, rfl, hv, hown⟩ := appendN_ok (ty := ty) h (eval_ok h x).1 (eval_ok h y).1 ht hx hy2 (by simpa [maxLen] using h3) h4 dst
              have hoid : ∀ id, oid = some id → aMay nx0 ids id ∧ ∃ o, st.tab.get id = some o := fun id hid => by
                subst hid
                unfold aDstN at hx
                split at hx
                · rename_i id' hid'
                  rw [hid'] at hfr
                  split at hx
                  · rename_i e' sz' rows' hget
                    split at hx
                    · cases hx
                      exact ⟨hfr, _, hget⟩
                    · cases hx
                  · cases hx
                · cases hx
                · cases hx
              have hown2 : ∀ g, (a.eval x).ownBlock = some g → B ≤ g ∨ G g := fun g hg' => by
                obtain ⟨id, hid, hbl⟩ := hown g hg'
                obtain ⟨h8, o, h9⟩ := hoid id hid
                rcases h8 with h8 | h8
                · exact .inr (hG id h8 g hbl)
                · exact hy id o g h8 h9 hbl
              refine wp_value (by simp [execOp, resolve, invoke, builtin, h6]) ⟨_, _, h5, h7, put_defersH _ _ _, hS.step hg.size (fun k hk hnk => hg.block k (Nat.lt_of_lt_of_le hk hB) fun e => by rcases hown2 k e.symm with h9 | h9; omega; exact hnk h9), ?_, fun id hid => by unfold updL; rw [if_neg (by omega)], by rw [enext]; exact Nat.le_succ _, fun k o' hk hg => by
                rw [etab] at hg
                simp only [appTab_get] at hg
                rw [if_neg (by omega)] at hg
                split at hg
                · cases hg
                · exact ⟨o', hg⟩⟩
              rw [etab]
              intro id ob g h8 h9 h10
              rw [appTab_get] at h9
              unfold updL at h10
              split at h9
              · rename_i e1
                rw [if_pos e1] at h10
                rcases hv with hv | hv
                · exact hown2 g (by rw [← hv]; exact h10)
                · rw [hv] at h10
                  cases h10
                  exact .inl hB
              · rename_i e1
                rw [if_neg e1] at h10
                split at h9
                · cases h9
                · exact hy id ob g h8 h9 h10
            · exact hp.elim
        · exact hp.elim
      · exact hp.elim
    · rename_i f
      obtain ⟨g, xs, cs, hg, hxn, hxr, hp, hcs⟩ := aFn_inv (eval_ok h f).1 (eval_ok h f).2 hp
      have hargs := args_rv h (args := args) hxn hxr
      by_cases hmeth : aMeth (some (nx0, ids)) P st g (args.toList.map (aEv st) ++ cs) (aK2 dst K)
      · obtain ⟨hent, ids0, hmay, hc⟩ := meth_ok h hargs.1 hargs.2 hmeth dst
        have hrun : (execOp a.eval { dst := dst, op := .call { callee := .value f, args := args, argTypes := argTypes }, type := ty, pos := pos, after := aft, guard := gd }).run P w = .ok (.enter g (args.map a.eval ++ xs)) w := by
          have := hent (args.map a.eval ++ xs) w
          simp [execOp, resolve, hg, Deferred.ofValue, invoke, this]
        unfold Oper.wp
        rw [hrun]
        show Calls P g (args.map a.eval ++ xs) w _
        refine hc.mono ?_
        rintro e w' ⟨v, av, st', L', rfl, h1, h2, h3, h4, h5, h6, h7⟩
        have hblk : ∀ id ∈ ids0, ∀ o k, st.tab.get id = some o → vblk (L id) = some k → B ≤ k ∨ G k := fun id hid o k h8 h9 => by
          rcases hmay _ rfl id hid with h10 | h10
          · exact .inr (hG id h10 k h9)
          · exact hy id o k h10 h8 h9
        refine ⟨_, L', h1, h2, put_defersH _ _ _, hS.step h3.size (fun k hk hGk => h6 k (Nat.lt_of_lt_of_le hk hB) fun id hid o ho e => ?_), ?_, h4, by rw [enext]; exact h3.next, fun id o hid ho => h5 id o hid (by rw [etab] at ho; exact ho)⟩
        · rcases hblk id hid o k ho e with h8 | h8
          · omega
          · exact hGk h8
        · rw [etab]
          intro id ob g' h8 h9 h10
          rcases Nat.lt_or_ge id st.next with hlt | hge
          · obtain ⟨o', h11⟩ := h5 id ob hlt h9
            rw [h4 id hlt] at h10
            exact hy id o' g' h8 h11 h10
          · rcases h7 id ob g' hge h9 h10 with h11 | ⟨id', h11, ⟨o', h12⟩, h13⟩
            · exact .inl (Nat.le_trans hB h11)
            · exact hblk id' h11 o' g' h12 h13
      replace hp : aCall0 P st g (args.toList.map (aEv st) ++ cs) (aK2 dst K) := by
        rcases hp with hp | hp | hp
        · exact hp
        · cases hp.1
        · exact absurd hp hmeth
      have hent : Enters P g := by
        rcases hp with ⟨R, hd, _⟩ | ⟨hd, _⟩
        · exact hd.1
        · exact hd
      have hrun : (execOp a.eval { dst := dst, op := .call { callee := .value f, args := args, argTypes := argTypes }, type := ty, pos := pos, after := aft, guard := gd }).run P w = .ok (.enter g (args.map a.eval ++ xs)) w := by
        have := hent (args.map a.eval ++ xs) w
        simp [execOp, resolve, hg, Deferred.ofValue, invoke, this]
      unfold Oper.wp
      rw [hrun]
      show Calls P g (args.map a.eval ++ xs) w _
      have hargs := args_rv h (args := args) hxn hxr
      refine (call_ok h hargs.1 hargs.2 hp dst).mono ?_
      · rintro e w' ⟨v, av, st', L', rfl, h1, h2, hb, hold, hnew, hnx'⟩
        refine ⟨_, _, h1, h2, put_defersH _ _ _, hS.step hb.size (fun k hk _ => hb.block k (Nat.lt_of_lt_of_le hk hB)), ?_, fun id hid => (hold id hid).2, by rw [enext]; exact hnx', fun k o' hk hg => ⟨o', by rw [etab, (hold k hk).1] at hg; exact hg⟩⟩
        rw [etab]
        intro id ob g h8 h9 h10
        rcases Nat.lt_or_ge id st.next with hlt | hge
        · rw [(hold id hlt).1] at h9
          rw [(hold id hlt).2] at h10
          exact hy id ob g h8 h9 h10
        · exact .inl (Nat.le_trans hB (hnew id ob g hge h9 h10))
    · exact hp.elim
  · exact hp.elim
/-- the post, False at a panic -/
def noPanic (Q : Exit → Act → World → Prop) : Exit → Act → World → Prop
  | .panic _, _, _ => False
  | e, a, w => Q e a w
/-- elder variables that are not written lie where nothing is written -/
structure ElderOk (nx0 B : Nat) (ids : List Nat) (G : Nat → Prop) (T0 : ATab) (L0 : Nat → Value) (st : ASt) (L : Nat → Value) : Prop where
  loc : ∀ id, id < nx0 → L id = L0 id
  le : nx0 ≤ st.next
  old : ∀ id o, id < nx0 → st.tab.get id = some o → ∃ o', T0.get id = some o'
  far : ∀ id o g, id < nx0 → id ∉ ids → T0.get id = some o → vblk (L id) = some g → g < B ∧ ¬ G g
theorem ElderOk.same {nx0 B : Nat} {ids : List Nat} {G : Nat → Prop} {T0 : ATab} {L0 : Nat → Value} {st st' : ASt} {L : Nat → Value} (h : ElderOk nx0 B ids G T0 L0 st L) (ht : st'.tab = st.tab) (hn : st'.next = st.next) : ElderOk nx0 B ids G T0 L0 st' L :=
  ⟨h.loc, by rw [hn]; exact h.le, by rw [ht]; exact h.old, h.far⟩
theorem ElderOk.step {nx0 B : Nat} {ids : List Nat} {G : Nat → Prop} {T0 : ATab} {L0 : Nat → Value} {st st' : ASt} {L L' : Nat → Value} (h : ElderOk nx0 B ids G T0 L0 st L) (h1 : ∀ id, id < st.next → L' id = L id) (h2 : st.next ≤ st'.next) (h3 : ∀ id o, id < st.next → st'.tab.get id = some o → ∃ o', st.tab.get id = some o') : ElderOk nx0 B ids G T0 L0 st' L' :=
  ⟨fun id hi => (h1 id (Nat.lt_of_lt_of_le hi h.le)).trans (h.loc id hi), Nat.le_trans h.le h2, fun id o hi hg => (h3 id o (Nat.lt_of_lt_of_le hi h.le) hg).elim fun o' hg' => h.old id o' hi hg', fun id o g hi hn hT hg => h.far id o g hi hn hT (by rw [← h1 id (Nat.lt_of_lt_of_le hi h.le)]; exact hg)⟩
theorem held_ok {ops : Array Oper} {K : ASt → Prop} {T0 : ATab} {nx0 B : Nat} {ids : List Nat} {G : Nat → Prop} {wr : World} {Q : Exit → Act → World → Prop} (hsel : Region.noSelect ops = true) {T : Nat → Prop} {a0 : Act} {L0 : Nat → Value} (hT : ∀ (i : Nat) (o : Oper), ops[i]? = some o → ∀ t, T t → o.dst ≠ some t) (hQ : ∀ a w st L, K st → Conc cx a w st L → KeepX B G wr w → Young nx0 B G st.tab L → ElderOk nx0 B ids G T0 L0 st L → ActSame T a0 a → Q .normal a w) : ∀ (s : Sch) (listed : Array Bool) (a : Act) (w : World) (st : ASt) (L : Nat → Value),
    Conc cx a w st L → KeepX B G wr w → Young nx0 B G st.tab L → (∀ id ∈ ids, ∀ g, vblk (L id) = some g → G g) → (∀ id ∈ ids, id < st.next) → ElderOk nx0 B ids G T0 L0 st L → ActSame T a0 a → schedS ops s listed = true → aHeld P ops nx0 ids K s st → ∀ fuel, s.len ≤ fuel → wpAnyH P .any ops (noPanic Q) (fun w' => KeepX B G wr w') fuel listed a w
  | .done, listed, a, w, st, L, h, hS, hy, _, _, hE, hA, hB, hp, fuel, _ => wpAnyH_done (Q := noPanic Q) (by simpa [schedS] using hB) (hQ a w st L hp h hS hy hE hA) fuel
  | .take i s, listed, a, w, st, L, h, hS, hy, hG, hnx, hE, hA, hB, hp, fuel, hf => by
    simp only [schedS, Bool.and_eq_true] at hB
    unfold aHeld aHeldT at hp
    have etab : ∀ (st : ASt) d av, (st.put d av).tab = st.tab := fun st d av => by cases d <;> rfl
    have enext : ∀ (st : ASt) d av, (st.put d av).next = st.next := fun st d av => by cases d <;> rfl
    split at hp
    · rename_i o ho
      obtain ⟨fuel', rfl⟩ : ∃ f, fuel = f + 1 := ⟨fuel - 1, by simp [Sch.len] at hf; omega⟩
      rcases guard_ok h hp o rfl with ⟨hw, st', ⟨hl, h0⟩, h2', ht', hn'⟩ | ⟨hw, st', h0, h2', ht', hn'⟩
      · by_cases hbld : ∃ t parts, o.op = .build t parts
        · obtain ⟨t, parts, hop⟩ := hbld
          rw [hop] at h0
          obtain ⟨v, cs, h3, h4, h5, h6⟩ := build_wp h2' h0
          refine wpAnyH_take (v := v) ho hsel hB.1.1 hB.1.2 (fun _ _ _ h => h) (.inl ⟨hw, fun w' _ => by simp [execOp, hop, h5 w']⟩) hS ?_
          exact held_ok hsel hT hQ s _ _ w _ L (conc_pure h2' h3 h4 o.dst) hS (by rw [etab, ht']; exact hy) hG (fun id hid => by rw [enext, hn']; exact hnx id hid) (hE.same (by rw [etab, ht']) (by rw [enext, hn'])) (hA.put (hT _ _ ho)) hB.2 h6 fuel' (by simp [Sch.len] at hf; omega)
        replace h0 : aPure P st'.tab (aEv st') o.op (aK st' o.dst (aHeld P ops nx0 ids K s)) := by
          unfold aTakeP at h0
          split at h0
          · rename_i t parts hop
            exact absurd ⟨t, parts, hop⟩ hbld
          · exact h0
        obtain ⟨v, av, h1, h2, h3, _, h5, h6⟩ := pure_ok h2'.lay (fun id o hid => (h2'.young id o hid).2) (eval_ok h2') h0
        have hrd : ∀ w', KeepX B G wr w' → (execOp a.eval o).run P w' = .ok (.value v) w' := fun w' hw' => by
          cases hld : isLoad o.op with
          | false => exact h5 hld w'
          | true =>
            obtain ⟨t, x, hop⟩ : ∃ t x, o.op = .load t x := by
              cases hop : o.op <;> simp [hop, isLoad] at hld
              exact ⟨_, _, rfl⟩
            obtain ⟨b, hb, hr⟩ := h6 t x hop
            rw [hop] at hl
            have hev := (eval_ok h2' x).1
            unfold aTakeE aElder at hl
            simp only at hl
            split at hl
            · rename_i id i j he
              obtain ⟨hl1, hl2, hl3⟩ := hl
              split at hl3
              · rename_i o' hg
                rw [he] at hev
                obtain ⟨g, hg1, hg2⟩ := hev.op_inv _ _ (kx_of hg)
                rw [hg2] at hb
                simp [vblk] at hb
                subst hb
                obtain ⟨o2, hT⟩ := hE.old id o' hl1 (by rw [← ht']; exact hg)
                obtain ⟨h7, h8⟩ := hE.far id o2 g hl1 hl2 hT hg1
                exact hr w' fun o' u hu => (World.cell?_of_block ((hw'.block g h7 h8).trans (hS.block g h7 h8).symm)).trans hu
              · exact hl3.elim
            · exact hl.elim
        refine wpAnyH_take ho hsel hB.1.1 hB.1.2 (fun _ _ _ h => h) (.inl ⟨hw, hrd⟩) hS ?_
        exact held_ok hsel hT hQ s _ _ w _ L (conc_pure h2' h2 h3 o.dst) hS (by rw [etab, ht']; exact hy) hG (fun id hid => by rw [enext, hn']; exact hnx id hid) (hE.same (by rw [etab, ht']) (by rw [enext, hn'])) (hA.put (hT _ _ ho)) hB.2 h1 fuel' (by simp [Sch.len] at hf; omega)
      · refine wpAnyH_take (v := undef) ho hsel hB.1.1 hB.1.2 (fun _ _ _ h => h) (.inr ⟨hw, rfl⟩) hS ?_
        exact held_ok hsel hT hQ s _ _ w _ L (skip_conc h2' o.dst) hS (by rw [etab, ht']; exact hy) hG (fun id hid => by rw [enext, hn']; exact hnx id hid) (hE.same (by rw [etab, ht']) (by rw [enext, hn'])) (hA.put (hT _ _ ho)) hB.2 h0 fuel' (by simp [Sch.len] at hf; omega)
    · exact hp.elim
  | .exec i s, listed, a, w, st, L, h, hS, hy, hG, hnx, hE, hA, hB, hp, fuel, hf => by
    simp only [schedS, Bool.and_eq_true, decide_eq_true_eq] at hB
    unfold aHeld aHeldE at hp
    have etab : ∀ (st : ASt) d av, (st.put d av).tab = st.tab := fun st d av => by cases d <;> rfl
    have enext : ∀ (st : ASt) d av, (st.put d av).next = st.next := fun st d av => by cases d <;> rfl
    split at hp
    · rename_i o ho
      obtain ⟨fuel', rfl⟩ : ∃ f, fuel = f + 1 := ⟨fuel - 1, by simp [Sch.len] at hf; omega⟩
      refine wpAnyH_all hB.1 (by simp) fun j hj => ?_
      obtain rfl : j = i := by simpa using hj
      unfold wpOp
      rw [ho]
      rcases guard_ok h hp o rfl with ⟨hw, st1, h0, h2', ht', hn'⟩ | ⟨hw, st1, h0, h2', ht', hn'⟩
      · simp only [hw, if_true]
        refine .inl (Oper.wp_mono (fun a' w' ⟨⟨st', L', h1, h2, h8, h3, h4, h5, h6, h7⟩, h9⟩ => ⟨h3, ?_⟩) (wp_slots (hT _ _ ho) (exec_ok h2' hS (by rw [ht']; exact hy) hG (fun id hid => by rw [hn']; exact hnx id hid) h0)))
        rw [hn'] at h5 h6 h7
        exact held_ok hsel hT hQ s _ a' w' st' L' h2 h3 h4 (fun id hid g hg' => hG id hid g (by rw [← h5 id (hnx id hid)]; exact hg')) (fun id hid => Nat.lt_of_lt_of_le (hnx id hid) h6) (hE.step h5 h6 (by rw [ht'] at h7; exact h7)) (hA.trans ⟨h8, h9⟩) hB.2 h1 fuel' (by simp [Sch.len] at hf; omega)
      · simp only [hw, Bool.false_eq_true, if_false]
        refine ⟨hS, held_ok hsel hT hQ s _ _ w _ L (skip_conc h2' o.dst) hS (by rw [etab, ht']; exact hy) hG (fun id hid => by rw [enext, hn']; exact hnx id hid) (hE.same (by rw [etab, ht']) (by rw [enext, hn'])) (hA.put (hT _ _ ho)) hB.2 h0 fuel' (by simp [Sch.len] at hf; omega)⟩
    · exact hp.elim
  | .two i s k t, listed, a, w, st, L, h, hS, hy, hG, hnx, hE, hA, hB, hp, fuel, hf => by
    simp only [schedS, Bool.and_eq_true, decide_eq_true_eq] at hB
    unfold aHeld at hp
    obtain ⟨hp, hp2⟩ := hp
    unfold aHeldE at hp hp2
    have etab : ∀ (st : ASt) d av, (st.put d av).tab = st.tab := fun st d av => by cases d <;> rfl
    have enext : ∀ (st : ASt) d av, (st.put d av).next = st.next := fun st d av => by cases d <;> rfl
    have hf1 : s.len + 1 ≤ fuel := Nat.le_trans (Nat.succ_le_succ (Nat.le_max_left s.len t.len)) hf
    have hf2 : t.len + 1 ≤ fuel := Nat.le_trans (Nat.succ_le_succ (Nat.le_max_right s.len t.len)) hf
    obtain ⟨fuel', rfl⟩ : ∃ f, fuel = f + 1 := ⟨fuel - 1, by omega⟩
    refine wpAnyH_all hB.1.1 (by simp) fun j hj => ?_
    have hj : j = i ∨ j = k := by simpa using hj
    rcases hj with rfl | rfl
    · split at hp
      · rename_i o ho
        unfold wpOp
        rw [ho]
        rcases guard_ok h hp o rfl with ⟨hw, st1, h0, h2', ht', hn'⟩ | ⟨hw, st1, h0, h2', ht', hn'⟩
        · simp only [hw, if_true]
          refine .inl (Oper.wp_mono (fun a' w' ⟨⟨st', L', h1, h2, h8, h3, h4, h5, h6, h7⟩, h9⟩ => ⟨h3, ?_⟩) (wp_slots (hT _ _ ho) (exec_ok h2' hS (by rw [ht']; exact hy) hG (fun id hid => by rw [hn']; exact hnx id hid) h0)))
          rw [hn'] at h5 h6 h7
          exact held_ok hsel hT hQ s _ a' w' st' L' h2 h3 h4 (fun id hid g hg' => hG id hid g (by rw [← h5 id (hnx id hid)]; exact hg')) (fun id hid => Nat.lt_of_lt_of_le (hnx id hid) h6) (hE.step h5 h6 (by rw [ht'] at h7; exact h7)) (hA.trans ⟨h8, h9⟩) hB.1.2 h1 fuel' (by omega)
        · simp only [hw, Bool.false_eq_true, if_false]
          refine ⟨hS, held_ok hsel hT hQ s _ _ w _ L (skip_conc h2' o.dst) hS (by rw [etab, ht']; exact hy) hG (fun id hid => by rw [enext, hn']; exact hnx id hid) (hE.same (by rw [etab, ht']) (by rw [enext, hn'])) (hA.put (hT _ _ ho)) hB.1.2 h0 fuel' (by omega)⟩
      · exact hp.elim
    · split at hp2
      · rename_i o ho
        unfold wpOp
        rw [ho]
        rcases guard_ok h hp2 o rfl with ⟨hw, st1, h0, h2', ht', hn'⟩ | ⟨hw, st1, h0, h2', ht', hn'⟩
        · simp only [hw, if_true]
          refine .inl (Oper.wp_mono (fun a' w' ⟨⟨st', L', h1, h2, h8, h3, h4, h5, h6, h7⟩, h9⟩ => ⟨h3, ?_⟩) (wp_slots (hT _ _ ho) (exec_ok h2' hS (by rw [ht']; exact hy) hG (fun id hid => by rw [hn']; exact hnx id hid) h0)))
          rw [hn'] at h5 h6 h7
          exact held_ok hsel hT hQ t _ a' w' st' L' h2 h3 h4 (fun id hid g hg' => hG id hid g (by rw [← h5 id (hnx id hid)]; exact hg')) (fun id hid => Nat.lt_of_lt_of_le (hnx id hid) h6) (hE.step h5 h6 (by rw [ht'] at h7; exact h7)) (hA.trans ⟨h8, h9⟩) hB.2 h1 fuel' (by omega)
        · simp only [hw, Bool.false_eq_true, if_false]
          refine ⟨hS, held_ok hsel hT hQ t _ _ w _ L (skip_conc h2' o.dst) hS (by rw [etab, ht']; exact hy) hG (fun id hid => by rw [enext, hn']; exact hnx id hid) (hE.same (by rw [etab, ht']) (by rw [enext, hn'])) (hA.put (hT _ _ ho)) hB.2 h0 fuel' (by omega)⟩
      · exact hp2.elim
  | .three i s k t m u, listed, a, w, st, L, h, hS, hy, hG, hnx, hE, hA, hB, hp, fuel, hf => by
    simp only [schedS, Bool.and_eq_true, decide_eq_true_eq] at hB
    unfold aHeld at hp
    obtain ⟨hp, hp2, hp3⟩ := hp
    unfold aHeldE at hp hp2 hp3
    have etab : ∀ (st : ASt) d av, (st.put d av).tab = st.tab := fun st d av => by cases d <;> rfl
    have enext : ∀ (st : ASt) d av, (st.put d av).next = st.next := fun st d av => by cases d <;> rfl
    have hf1 : s.len + 1 ≤ fuel := Nat.le_trans (Nat.succ_le_succ (Nat.le_max_left s.len _)) hf
    have hf2 : t.len + 1 ≤ fuel := Nat.le_trans (Nat.succ_le_succ (Nat.le_trans (Nat.le_max_left t.len u.len) (Nat.le_max_right s.len _))) hf
    have hf3 : u.len + 1 ≤ fuel := Nat.le_trans (Nat.succ_le_succ (Nat.le_trans (Nat.le_max_right t.len u.len) (Nat.le_max_right s.len _))) hf
    obtain ⟨fuel', rfl⟩ : ∃ f, fuel = f + 1 := ⟨fuel - 1, by omega⟩
    refine wpAnyH_all hB.1.1.1 (by simp) fun j hj => ?_
    have hj : j = i ∨ j = k ∨ j = m := by simpa using hj
    rcases hj with rfl | rfl | rfl
    · split at hp
      · rename_i o ho
        unfold wpOp
        rw [ho]
        rcases guard_ok h hp o rfl with ⟨hw, st1, h0, h2', ht', hn'⟩ | ⟨hw, st1, h0, h2', ht', hn'⟩
        · simp only [hw, if_true]
          refine .inl (Oper.wp_mono (fun a' w' ⟨⟨st', L', h1, h2, h8, h3, h4, h5, h6, h7⟩, h9⟩ => ⟨h3, ?_⟩) (wp_slots (hT _ _ ho) (exec_ok h2' hS (by rw [ht']; exact hy) hG (fun id hid => by rw [hn']; exact hnx id hid) h0)))
          rw [hn'] at h5 h6 h7
          exact held_ok hsel hT hQ s _ a' w' st' L' h2 h3 h4 (fun id hid g hg' => hG id hid g (by rw [← h5 id (hnx id hid)]; exact hg')) (fun id hid => Nat.lt_of_lt_of_le (hnx id hid) h6) (hE.step h5 h6 (by rw [ht'] at h7; exact h7)) (hA.trans ⟨h8, h9⟩) hB.1.1.2 h1 fuel' (by omega)
        · simp only [hw, Bool.false_eq_true, if_false]
          refine ⟨hS, held_ok hsel hT hQ s _ _ w _ L (skip_conc h2' o.dst) hS (by rw [etab, ht']; exact hy) hG (fun id hid => by rw [enext, hn']; exact hnx id hid) (hE.same (by rw [etab, ht']) (by rw [enext, hn'])) (hA.put (hT _ _ ho)) hB.1.1.2 h0 fuel' (by omega)⟩
      · exact hp.elim
    · split at hp2
      · rename_i o ho
        unfold wpOp
        rw [ho]
        rcases guard_ok h hp2 o rfl with ⟨hw, st1, h0, h2', ht', hn'⟩ | ⟨hw, st1, h0, h2', ht', hn'⟩
        · simp only [hw, if_true]
          refine .inl (Oper.wp_mono (fun a' w' ⟨⟨st', L', h1, h2, h8, h3, h4, h5, h6, h7⟩, h9⟩ => ⟨h3, ?_⟩) (wp_slots (hT _ _ ho) (exec_ok h2' hS (by rw [ht']; exact hy) hG (fun id hid => by rw [hn']; exact hnx id hid) h0)))
          rw [hn'] at h5 h6 h7
          exact held_ok hsel hT hQ t _ a' w' st' L' h2 h3 h4 (fun id hid g hg' => hG id hid g (by rw [← h5 id (hnx id hid)]; exact hg')) (fun id hid => Nat.lt_of_lt_of_le (hnx id hid) h6) (hE.step h5 h6 (by rw [ht'] at h7; exact h7)) (hA.trans ⟨h8, h9⟩) hB.1.2 h1 fuel' (by omega)
        · simp only [hw, Bool.false_eq_true, if_false]
          refine ⟨hS, held_ok hsel hT hQ t _ _ w _ L (skip_conc h2' o.dst) hS (by rw [etab, ht']; exact hy) hG (fun id hid => by rw [enext, hn']; exact hnx id hid) (hE.same (by rw [etab, ht']) (by rw [enext, hn'])) (hA.put (hT _ _ ho)) hB.1.2 h0 fuel' (by omega)⟩
      · exact hp2.elim
    · split at hp3
      · rename_i o ho
        unfold wpOp
        rw [ho]
        rcases guard_ok h hp3 o rfl with ⟨hw, st1, h0, h2', ht', hn'⟩ | ⟨hw, st1, h0, h2', ht', hn'⟩
        · simp only [hw, if_true]
          refine .inl (Oper.wp_mono (fun a' w' ⟨⟨st', L', h1, h2, h8, h3, h4, h5, h6, h7⟩, h9⟩ => ⟨h3, ?_⟩) (wp_slots (hT _ _ ho) (exec_ok h2' hS (by rw [ht']; exact hy) hG (fun id hid => by rw [hn']; exact hnx id hid) h0)))
          rw [hn'] at h5 h6 h7
          exact held_ok hsel hT hQ u _ a' w' st' L' h2 h3 h4 (fun id hid g hg' => hG id hid g (by rw [← h5 id (hnx id hid)]; exact hg')) (fun id hid => Nat.lt_of_lt_of_le (hnx id hid) h6) (hE.step h5 h6 (by rw [ht'] at h7; exact h7)) (hA.trans ⟨h8, h9⟩) hB.2 h1 fuel' (by omega)
        · simp only [hw, Bool.false_eq_true, if_false]
          refine ⟨hS, held_ok hsel hT hQ u _ _ w _ L (skip_conc h2' o.dst) hS (by rw [etab, ht']; exact hy) hG (fun id hid => by rw [enext, hn']; exact hnx id hid) (hE.same (by rw [etab, ht']) (by rw [enext, hn'])) (hA.put (hT _ _ ho)) hB.2 h0 fuel' (by omega)⟩
      · exact hp3.elim
  | .four i s k t m u n v, listed, a, w, st, L, h, hS, hy, hG, hnx, hE, hA, hB, hp, fuel, hf => by
    simp only [schedS, Bool.and_eq_true, decide_eq_true_eq] at hB
    unfold aHeld at hp
    obtain ⟨hp, hp2, hp3, hp4⟩ := hp
    unfold aHeldE at hp hp2 hp3 hp4
    have etab : ∀ (st : ASt) d av, (st.put d av).tab = st.tab := fun st d av => by cases d <;> rfl
    have enext : ∀ (st : ASt) d av, (st.put d av).next = st.next := fun st d av => by cases d <;> rfl
    have hf1 : s.len + 1 ≤ fuel := Nat.le_trans (Nat.succ_le_succ (Nat.le_max_left s.len _)) hf
    have hf2 : t.len + 1 ≤ fuel := Nat.le_trans (Nat.succ_le_succ (Nat.le_trans (Nat.le_max_left t.len _) (Nat.le_max_right s.len _))) hf
    have hf3 : u.len + 1 ≤ fuel := Nat.le_trans (Nat.succ_le_succ (Nat.le_trans (Nat.le_trans (Nat.le_max_left u.len v.len) (Nat.le_max_right t.len _)) (Nat.le_max_right s.len _))) hf
    have hf4 : v.len + 1 ≤ fuel := Nat.le_trans (Nat.succ_le_succ (Nat.le_trans (Nat.le_trans (Nat.le_max_right u.len v.len) (Nat.le_max_right t.len _)) (Nat.le_max_right s.len _))) hf
    obtain ⟨fuel', rfl⟩ : ∃ f, fuel = f + 1 := ⟨fuel - 1, by omega⟩
    refine wpAnyH_all hB.1.1.1.1 (by simp) fun j hj => ?_
    have hj : j = i ∨ j = k ∨ j = m ∨ j = n := by simpa using hj
    rcases hj with rfl | rfl | rfl | rfl
    · split at hp
      · rename_i o ho
        unfold wpOp
        rw [ho]
        rcases guard_ok h hp o rfl with ⟨hw, st1, h0, h2', ht', hn'⟩ | ⟨hw, st1, h0, h2', ht', hn'⟩
        · simp only [hw, if_true]
          refine .inl (Oper.wp_mono (fun a' w' ⟨⟨st', L', h1, h2, h8, h3, h4, h5, h6, h7⟩, h9⟩ => ⟨h3, ?_⟩) (wp_slots (hT _ _ ho) (exec_ok h2' hS (by rw [ht']; exact hy) hG (fun id hid => by rw [hn']; exact hnx id hid) h0)))
          rw [hn'] at h5 h6 h7
          exact held_ok hsel hT hQ s _ a' w' st' L' h2 h3 h4 (fun id hid g hg' => hG id hid g (by rw [← h5 id (hnx id hid)]; exact hg')) (fun id hid => Nat.lt_of_lt_of_le (hnx id hid) h6) (hE.step h5 h6 (by rw [ht'] at h7; exact h7)) (hA.trans ⟨h8, h9⟩) hB.1.1.1.2 h1 fuel' (by omega)
        · simp only [hw, Bool.false_eq_true, if_false]
          refine ⟨hS, held_ok hsel hT hQ s _ _ w _ L (skip_conc h2' o.dst) hS (by rw [etab, ht']; exact hy) hG (fun id hid => by rw [enext, hn']; exact hnx id hid) (hE.same (by rw [etab, ht']) (by rw [enext, hn'])) (hA.put (hT _ _ ho)) hB.1.1.1.2 h0 fuel' (by omega)⟩
      · exact hp.elim
    · split at hp2
      · rename_i o ho
        unfold wpOp
        rw [ho]
        rcases guard_ok h hp2 o rfl with ⟨hw, st1, h0, h2', ht', hn'⟩ | ⟨hw, st1, h0, h2', ht', hn'⟩
        · simp only [hw, if_true]
          refine .inl (Oper.wp_mono (fun a' w' ⟨⟨st', L', h1, h2, h8, h3, h4, h5, h6, h7⟩, h9⟩ => ⟨h3, ?_⟩) (wp_slots (hT _ _ ho) (exec_ok h2' hS (by rw [ht']; exact hy) hG (fun id hid => by rw [hn']; exact hnx id hid) h0)))
          rw [hn'] at h5 h6 h7
          exact held_ok hsel hT hQ t _ a' w' st' L' h2 h3 h4 (fun id hid g hg' => hG id hid g (by rw [← h5 id (hnx id hid)]; exact hg')) (fun id hid => Nat.lt_of_lt_of_le (hnx id hid) h6) (hE.step h5 h6 (by rw [ht'] at h7; exact h7)) (hA.trans ⟨h8, h9⟩) hB.1.1.2 h1 fuel' (by omega)
        · simp only [hw, Bool.false_eq_true, if_false]
          refine ⟨hS, held_ok hsel hT hQ t _ _ w _ L (skip_conc h2' o.dst) hS (by rw [etab, ht']; exact hy) hG (fun id hid => by rw [enext, hn']; exact hnx id hid) (hE.same (by rw [etab, ht']) (by rw [enext, hn'])) (hA.put (hT _ _ ho)) hB.1.1.2 h0 fuel' (by omega)⟩
      · exact hp2.elim
    · split at hp3
      · rename_i o ho
        unfold wpOp
        rw [ho]
        rcases guard_ok h hp3 o rfl with ⟨hw, st1, h0, h2', ht', hn'⟩ | ⟨hw, st1, h0, h2', ht', hn'⟩
        · simp only [hw, if_true]
          refine .inl (Oper.wp_mono (fun a' w' ⟨⟨st', L', h1, h2, h8, h3, h4, h5, h6, h7⟩, h9⟩ => ⟨h3, ?_⟩) (wp_slots (hT _ _ ho) (exec_ok h2' hS (by rw [ht']; exact hy) hG (fun id hid => by rw [hn']; exact hnx id hid) h0)))
          rw [hn'] at h5 h6 h7
          exact held_ok hsel hT hQ u _ a' w' st' L' h2 h3 h4 (fun id hid g hg' => hG id hid g (by rw [← h5 id (hnx id hid)]; exact hg')) (fun id hid => Nat.lt_of_lt_of_le (hnx id hid) h6) (hE.step h5 h6 (by rw [ht'] at h7; exact h7)) (hA.trans ⟨h8, h9⟩) hB.1.2 h1 fuel' (by omega)
        · simp only [hw, Bool.false_eq_true, if_false]
          refine ⟨hS, held_ok hsel hT hQ u _ _ w _ L (skip_conc h2' o.dst) hS (by rw [etab, ht']; exact hy) hG (fun id hid => by rw [enext, hn']; exact hnx id hid) (hE.same (by rw [etab, ht']) (by rw [enext, hn'])) (hA.put (hT _ _ ho)) hB.1.2 h0 fuel' (by omega)⟩
      · exact hp3.elim
    · split at hp4
      · rename_i o ho
        unfold wpOp
        rw [ho]
        rcases guard_ok h hp4 o rfl with ⟨hw, st1, h0, h2', ht', hn'⟩ | ⟨hw, st1, h0, h2', ht', hn'⟩
        · simp only [hw, if_true]
          refine .inl (Oper.wp_mono (fun a' w' ⟨⟨st', L', h1, h2, h8, h3, h4, h5, h6, h7⟩, h9⟩ => ⟨h3, ?_⟩) (wp_slots (hT _ _ ho) (exec_ok h2' hS (by rw [ht']; exact hy) hG (fun id hid => by rw [hn']; exact hnx id hid) h0)))
          rw [hn'] at h5 h6 h7
          exact held_ok hsel hT hQ v _ a' w' st' L' h2 h3 h4 (fun id hid g hg' => hG id hid g (by rw [← h5 id (hnx id hid)]; exact hg')) (fun id hid => Nat.lt_of_lt_of_le (hnx id hid) h6) (hE.step h5 h6 (by rw [ht'] at h7; exact h7)) (hA.trans ⟨h8, h9⟩) hB.2 h1 fuel' (by omega)
        · simp only [hw, Bool.false_eq_true, if_false]
          refine ⟨hS, held_ok hsel hT hQ v _ _ w _ L (skip_conc h2' o.dst) hS (by rw [etab, ht']; exact hy) hG (fun id hid => by rw [enext, hn']; exact hnx id hid) (hE.same (by rw [etab, ht']) (by rw [enext, hn'])) (hA.put (hT _ _ ho)) hB.2 h0 fuel' (by omega)⟩
      · exact hp4.elim
theorem heldH_ok {ops : Array Oper} {K : ASt → Prop} {T : ATab} {Tz : Nat → Prop} {a0 : Act} {nx : Nat} {ids : List Nat} {S : World → Prop} {Q : Exit → Act → World → Prop} (hsel : Region.noSelect ops = true) (hTz : ∀ (i : Nat) (o : Oper), ops[i]? = some o → ∀ t, Tz t → o.dst ≠ some t) (s : Sch) (hS : S w)
    (hSw : ∀ w' b, S w' → (Sx cx w T L b ∨ ∃ id o, id ∉ ids ∧ T.get id = some o ∧ vblk (L id) = some b) → SameB b w w')
    (hQ : ∀ listed a st, ActSame Tz a0 a → st.tab = T → st.next = nx → schedS ops s listed = true → K st → Conc cx a w st L → ∀ fuel, s.len ≤ fuel → wpAnyH P .any ops (noPanic Q) S fuel listed a w) : ∀ (hd : List Nat) (listed : Array Bool) (a : Act) (st : ASt),
    ActSame Tz a0 a → Conc cx a w st L → st.tab = T → st.next = nx → schedB ops hd s listed = true → aHeldH P ops ids K hd st → ∀ fuel, hd.length + s.len ≤ fuel → wpAnyH P .any ops (noPanic Q) S fuel listed a w
  | [], listed, a, st, hA, h, hT, hN, hB, hp, fuel, hf => hQ listed a st hA hT hN hB hp h fuel (by simpa using hf)
  | i :: hd, listed, a, st, hA, h, hT, hN, hB, hp, fuel, hf => by
    simp only [schedB, Bool.and_eq_true] at hB
    unfold aHeldH aHeldL at hp
    have etab : ∀ (st : ASt) d av, (st.put d av).tab = st.tab := fun st d av => by cases d <;> rfl
    have enext : ∀ (st : ASt) d av, (st.put d av).next = st.next := fun st d av => by cases d <;> rfl
    split at hp
    · rename_i o ho
      obtain ⟨fuel', rfl⟩ : ∃ f, fuel = f + 1 := ⟨fuel - 1, by simp at hf; omega⟩
      rcases guard_ok h hp o rfl with ⟨hw, st', ⟨hl, h0⟩, h2', ht', hn'⟩ | ⟨hw, st', h0, h2', ht', hn'⟩
      · by_cases hbld : ∃ t parts, o.op = .build t parts
        · obtain ⟨t, parts, hop⟩ := hbld
          rw [hop] at h0
          obtain ⟨v, cs, h3, h4, h5, h6⟩ := build_wp h2' h0
          refine wpAnyH_take (v := v) ho hsel hB.1.1 hB.1.2 (fun _ _ _ h => h) (.inl ⟨hw, fun w' _ => by simp [execOp, hop, h5 w']⟩) hS ?_
          exact heldH_ok hsel hTz s hS hSw hQ hd _ _ _ (hA.put (hTz _ _ ho)) (conc_pure h2' h3 h4 o.dst) (by rw [etab, ht', hT]) (by rw [enext, hn', hN]) hB.2 h6 fuel' (by simp at hf; omega)
        replace h0 : aPure P st'.tab (aEv st') o.op (aK st' o.dst (aHeldH P ops ids K hd)) := by
          unfold aTakeP at h0
          split at h0
          · rename_i t parts hop
            exact absurd ⟨t, parts, hop⟩ hbld
          · exact h0
        obtain ⟨v, av, h1, h2, h3, _, h5, h6⟩ := pure_ok h2'.lay (fun id o hid => (h2'.young id o hid).2) (eval_ok h2') h0
        have hy : ∀ w', S w' → (execOp a.eval o).run P w' = .ok (.value v) w' := fun w' hw' => by
          cases hld : isLoad o.op with
          | false => exact h5 hld w'
          | true =>
            obtain ⟨t, x, hop⟩ : ∃ t x, o.op = .load t x := by
              cases hop : o.op <;> simp [hop, isLoad] at hld
              exact ⟨_, _, rfl⟩
            obtain ⟨b, hb, hr⟩ := h6 t x hop
            refine hr w' (hSw w' b hw' ?_)
            rw [hop] at hl
            have hev := (eval_ok h2' x).1
            unfold aTakes aFrom at hl
            simp only at hl
            split at hl
            · rename_i id i j he
              rw [he] at hev
              rw [hop] at h0
              simp only [aPure, aLoad, he] at h0
              cases hg : st'.tab.get id with
              | none => rw [hg] at h0; exact h0.elim
              | some ob =>
                obtain ⟨g, hg1, hg2⟩ := hev.op_inv _ _ (kx_of hg)
                rw [hg2] at hb
                simp [vblk] at hb
                subst hb
                exact .inr ⟨id, ob, hl, by rw [← hT, ← ht']; exact hg, hg1⟩
            · rename_i cs he
              rw [he] at hev
              obtain ⟨b', o', U, hg2, hb', _⟩ := hev.rp_inv
              rw [hg2] at hb
              simp [vblk] at hb
              subst hb
              refine .inl ?_
              rw [← hT, ← ht']
              exact hb'
            · exact hl.elim
        refine wpAnyH_take ho hsel hB.1.1 hB.1.2 (fun _ _ _ h => h) (.inl ⟨hw, hy⟩) hS ?_
        exact heldH_ok hsel hTz s hS hSw hQ hd _ _ _ (hA.put (hTz _ _ ho)) (conc_pure h2' h2 h3 o.dst) (by rw [etab, ht', hT]) (by rw [enext, hn', hN]) hB.2 h1 fuel' (by simp at hf; omega)
      · refine wpAnyH_take (v := undef) ho hsel hB.1.1 hB.1.2 (fun _ _ _ h => h) (.inr ⟨hw, rfl⟩) hS ?_
        exact heldH_ok hsel hTz s hS hSw hQ hd _ _ _ (hA.put (hTz _ _ ho)) (skip_conc h2' o.dst) (by rw [etab, ht', hT]) (by rw [enext, hn', hN]) hB.2 h0 fuel' (by simp at hf; omega)
    · exact hp.elim
theorem exists_least {p : Nat → Prop} (h : ∃ n, p n) : ∃ n, p n ∧ ∀ m, p m → n ≤ m := by
  obtain ⟨n, hn⟩ := h
  induction n using Nat.strongRecOn with
  | _ n ih =>
    by_cases hx : ∃ m, m < n ∧ p m
    · obtain ⟨m, hm, hp⟩ := hx
      exact ih m hm hp
    · exact ⟨n, hn, fun m hm => Nat.le_of_not_lt fun hlt => hx ⟨m, hlt, hm⟩⟩
open Classical in
noncomputable def least (p : Nat → Prop) : Nat := if h : ∃ n, p n then (exists_least h).choose else 0
theorem least_spec {p : Nat → Prop} (h : ∃ n, p n) : p (least p) ∧ ∀ m, p m → least p ≤ m := by
  unfold least
  rw [dif_pos h]
  exact (exists_least h).choose_spec
/-- what is known behind code -/
abbrev AfterC (cx : Cx) (Q : Exit → ASt → Prop) : Exit → Act → World → Prop := fun e a w => ∃ st L, Q e st ∧ Conc cx a w st L
theorem code_ok (hm : P.follows .mixedOrders = true) : ∀ (c : Code) (Q : Exit → ASt → Prop) (a : Act) (w : World) (st : ASt) (L : Nat → Value), Conc cx a w st L → aCode P c Q st → c.wp P (AfterC cx Q) a w := by
  intro c
  induction c with
  | skip => exact fun Q a w st L h hp => wp_skip ⟨st, L, hp, h⟩
  | region id ops draw =>
    intro Q a w st L h hp
    unfold aCode aReg at hp
    cases draw with
    | false => exact wp_region_list (ops_ok (fun a w st L h1 h2 => ⟨st, L, h1, h2⟩) _ _ _ _ _ h (by simpa using hp))
    | true =>
      simp only [if_true] at hp
      obtain ⟨l⟩ := ops
      rcases hp with ⟨hB, hp⟩ | ⟨n, hB, hp⟩ | ⟨ids, hd, s, hB, K', hK', hids, hp⟩
      · exact wp_region_quiet (C := fun w' => Below w.heap.size w w') hm hB ((Below.refl _ _).drew) (dops_ok (L := L) (T := fun _ => False) (a0 := a) (tab0 := st.tab) (fun a' st' h1 h2 _ _ w' hw' => ⟨st', L, h1, conc_below h2 hw'⟩) _ _ _ (fun _ _ _ h => h.elim) rfl (.refl a) h hp)
      · have h' : Conc cx a w.drew st L := conc_below h ((Below.refl _ _).drew)
        exact wp_region_still_tail n hm hB (pops_ok (T := fun _ => False) (a0 := a) (tab0 := st.tab) (fun a' st' h1 h2 _ _ => ops_ok (fun a w st L h1 h2 => ⟨st, L, h1, h2⟩) _ _ _ _ _ h2 h1) _ _ _ (fun _ _ _ h => h.elim) rfl (.refl a) h' hp)
      · simp only [Bool.and_eq_true] at hB
        have hB := And.intro hB.1 (Nat.le_of_ble_eq_true hB.2)
        have h' : Conc cx a w.drew st L := conc_below h ((Below.refl _ _).drew)
        let G : Nat → Prop := fun k => ∃ id ∈ ids, vblk (L id) = some k
        refine Code.wp_mono (Q := noPanic (AfterC cx Q)) (fun e a w hq => ?_) (wp_region_held (S := fun w' => KeepX w.drew.heap.size G w.drew w') hm ?_)
        · cases e <;> first | exact hq | exact hq.elim
        · refine heldH_ok (T := st.tab) (Tz := fun _ => False) (a0 := a) (nx := st.next) (ids := ids) hB.1.1 (fun _ _ _ _ h => h.elim) s ⟨Nat.le_refl _, fun _ _ _ => rfl⟩ (fun w' b hw' hb o u hu => ?_) (fun listed a' st' _ hT hN hB' hK h2 fuel hf => ?_) hd _ _ _ (.refl a) h' rfl rfl hB.1.2 hp _ hB.2
          · have hlt := World.block_lt_of_cell? w.drew _ hu
            refine (World.cell?_of_block (hw'.block b hlt fun ⟨id, hid, hbl⟩ => ?_)).trans hu
            obtain ⟨ob, hob⟩ := Option.isSome_iff_exists.1 (hids id hid)
            rcases hb with hb | ⟨id', o', hni, hget, hbl'⟩
            · exact hb.2.2 id ob hob hbl
            · exact hni (h.lay.sep id' id o' ob b hget hob hbl' hbl ▸ hid)
          · refine held_ok (Q := AfterC cx Q) (T0 := st.tab) (T := fun _ => False) (a0 := a') (L0 := L) hB.1.1 (fun _ _ _ _ h => h.elim) (fun a w st L h1 h2 _ _ _ _ => (hK' st h1).elim fun st' h3 => (h3.1 cx a w L h2).elim fun L' h4 => ⟨st', L', h3.2, h4.1⟩) s listed a' w.drew st' L h2 ⟨Nat.le_refl _, fun _ _ _ => rfl⟩ (fun id o g h3 h4 _ => by
              rw [hT] at h4
              have := (h.young id o h4).1
              omega) (fun id hid g hg => ⟨id, hid, hg⟩) (fun id hid => by
              obtain ⟨ob, hob⟩ := Option.isSome_iff_exists.1 (hids id hid)
              rw [hN]
              exact (h.young id ob hob).1) ⟨fun _ _ => rfl, by rw [hN]; exact Nat.le_refl _, fun id o _ hg => ⟨o, by rw [← hT]; exact hg⟩, fun id o g _ hni hg hbl => ?_⟩ (.refl a') hB' hK fuel hf
            refine ⟨((h'.lay.objs id _ hg).ge hbl).2, fun ⟨id', hid', hbl'⟩ => hni ?_⟩
            obtain ⟨ob, hob⟩ := Option.isSome_iff_exists.1 (hids id' hid')
            exact h.lay.sep id id' _ ob g hg hob hbl hbl' ▸ hid'
  | seq x y ihx ihy =>
    intro Q a w st L h hp
    unfold aCode at hp
    refine wp_seq (Code.wp_mono (fun e a' w' ⟨st', L', h1, h2⟩ => ?_) (ihx _ a w st L h hp))
    cases e with
    | normal => exact ihy Q a' w' st' L' h2 h1
    | _ => exact ⟨st', L', h1, h2⟩
  | cond c x y ihx ihy =>
    intro Q a w st L h hp
    unfold aCode aCond at hp
    split at hp
    · rename_i b hb
      have hv := (eval_ok h c).1
      rw [hb] at hv
      have hv := hv.c_inv
      cases b
      · exact wp_cond_false hv (ihy Q a w st L h hp)
      · exact wp_cond_true hv (ihx Q a w st L h hp)
    · exact hp.elim
  | block id x ih =>
    intro Q a w st L h hp
    unfold aCode at hp
    refine wp_block (Code.wp_mono (fun e a' w' ⟨st', L', h1, h2⟩ => ?_) (ih _ a w st L h hp))
    cases e with
    | exit id' =>
      simp only [aInBlock, Exit.inBlock] at h1 ⊢
      split
      · rename_i e
        rw [if_pos e] at h1
        exact ⟨st', L', h1, h2⟩
      · rename_i e
        rw [if_neg e] at h1
        exact ⟨st', L', h1, h2⟩
    | _ => exact ⟨st', L', h1, h2⟩
  | loop x ih =>
    intro Q a w st L h hp
    unfold aCode at hp
    obtain ⟨I, μ, ⟨st0, hw0, hI⟩, hr⟩ := hp
    let p : Act → World → Nat → Prop := fun a w n => ∃ st L, I st ∧ Conc cx a w st L ∧ μ st = n
    obtain ⟨L0, hL0, _⟩ := hw0 _ _ _ _ h
    refine wp_loop (fun a w => ∃ n, p a w n) (fun a w => least (p a w)) ⟨_, st0, L0, hI, hL0, rfl⟩ fun a w hpa => ?_
    obtain ⟨⟨st, L, h1, h2, h3⟩, _⟩ := least_spec hpa
    refine Code.wp_mono (fun e a' w' ⟨st', L', h4, h5⟩ => ?_) (ih _ a w st L h2 (hr st h1))
    cases e with
    | normal =>
      obtain ⟨st'', hw, hI'', hlt⟩ := h4
      obtain ⟨L1, hL1, _⟩ := hw _ _ _ _ h5
      have hpn : p a' w' (μ st'') := ⟨st'', L1, hI'', hL1, rfl⟩
      refine ⟨⟨_, hpn⟩, ?_⟩
      have := (least_spec ⟨_, hpn⟩).2 _ hpn
      show least (p a' w') < least (p a w)
      omega
    | _ => exact ⟨st', L', h4, h5⟩
  | exit id => exact fun Q a w st L h hp => wp_exit ⟨st, L, hp, h⟩
  | ret => exact fun Q a w st L h hp => wp_ret ⟨st, L, hp, h⟩
  | rangeFunc g ps assign body => exact fun Q a w st L h hp => hp cx a w L h
  | label l => exact fun Q a w st L h hp => wp_label ⟨st, L, hp, h⟩
  | scope x ih =>
    intro Q a w st L h hp
    unfold aCode at hp
    refine wp_scope_straight (Code.wp_mono (fun e a' w' ⟨st', L', h1, h2⟩ => ?_) (ih _ a w st L h hp))
    cases e with
    | goto l => exact h1
    | _ => exact ⟨st', L', h1, h2⟩
  | _ => exact fun Q a w st L h hp => hp.elim
end
end
end Go.Proofs.Ytcindbpnaicemaa
