/-
  ABSTRACT VALUES: the operations that only compute and read. Of whatever program.
-/
import Derived.Test.YtfocnmkbnccilaaAlA
set_option linter.unusedVariables false
set_option linter.unusedSimpArgs false
namespace Go.Proofs.Ytfocnmkbnccilaa
open Go.RowKit

/-! ### what is asked of types -/
def tyAgg (P : Program) (t : TypeId) : Bool := match P.underlying t with | some (.struct _) | some (.array _ _) => true | _ => false
/-- cells; 0: no such type -/
def tySize (P : Program) (t : TypeId) : Nat := match P.underlying t, P.info? t with | some _, some i => i.size | _, _ => 0
/-- a slice's type of elements, and their cells -/
def tyElem (P : Program) (t : TypeId) : Nat × Nat := match P.underlying t with | some (.slice e) => (e, tySize P e) | _ => (0, 0)
/-- where a field lies; none: it has no cells, or there is none such -/
def fOff (P : Program) (s : TypeId) (f : Nat) : Option Nat := match P.underlying s with
  | some (.struct fields) => match fields[f]? with
    | some fd => if tySize P fd.type = 0 then none else some fd.offset
    | none => none
  | _ => none
/-- a field's type -/
def fTyp (P : Program) (s : TypeId) (f : Nat) : TypeId := match P.underlying s with
  | some (.struct fields) => match fields[f]? with
    | some fd => fd.type
    | none => 0
  | _ => 0
def tyInt (P : Program) (t : TypeId) : Option IntKind := match P.underlying t with | some (.int k) => some k | _ => none
inductive TyK where | bool | int | str | slice | other
def tyK (P : Program) (t : TypeId) : TyK := match P.underlying t with | some .bool => .bool | some (.int _) => .int | some .string => .str | some (.slice _) => .slice | _ => .other

section
variable {P : Program} {t : TypeId}
theorem tyAgg_true (h : tyAgg P t = true) (w : World) : (isAgg t).run P w = .ok true w := by
  unfold tyAgg at h
  cases hu : P.underlying t with
  | none => simp [hu] at h
  | some d =>
    unfold isAgg
    rw [Sem.run_bind, run_underlying hu w]
    cases d <;> simp_all
theorem tyAgg_false {d : TypeDesc} (hu : P.underlying t = some d) (h : tyAgg P t = false) (w : World) : (isAgg t).run P w = .ok false w := by
  unfold tyAgg at h
  unfold isAgg
  rw [Sem.run_bind, run_underlying hu w]
  cases d <;> simp_all
theorem tySize_pos (h : 0 < tySize P t) : ∃ d i, P.underlying t = some d ∧ P.info? t = some i ∧ i.size = tySize P t := by
  unfold tySize at *
  cases hu : P.underlying t <;> cases hi : P.info? t <;> simp_all
theorem run_sizeOf' (h : 0 < tySize P t) (w : World) : (sizeOf t).run P w = .ok (tySize P t) w := by
  obtain ⟨d, i, _, hi, he⟩ := tySize_pos h
  simp [sizeOf, typeInfo, hi, he]
end

/-! ### abstractly -/
def aEv (st : ASt) : Operand → AV
  | .tmp t => st.get t
  | .const v => .c v
  | .func f => .c (.func (.func f) #[] #[])
  | .global _ => .any
/-- a variable of type t at these cells -/
def aTake (P : Program) (t : TypeId) (cs : List AV) (K : AV → Prop) : Prop :=
  0 < tySize P t ∧ tySize P t ≤ cs.length ∧ if tyAgg P t = true then K (.agg (cs.take (tySize P t))) else K (cs.headD .any)
def aLoad (P : Program) (t : TypeId) (tab : ATab) (x : AV) (K : AV → Prop) : Prop :=
  match x with
  | .rp cs => aTake P t cs K
  | .op id i j => match tab.get id with
    | some (.box _ cells) => i = 0 ∧ aTake P t (cells.drop j) K
    | some (.row _ _ rows) => i < rows.length ∧ aTake P t ((rows[i]?.getD []).drop j) K
    | none => False
  | _ => False
def aField (P : Program) (s : TypeId) (tab : ATab) (x : AV) (f : Nat) (K : AV → Prop) : Prop :=
  match fOff P s f with
  | some d => match x with
    | .rp cs => K (.rp (cs.drop d))
    | .op id i j => match tab.get id with
      | some _ => K (.op id i (j + d))
      | none => False
    | _ => False
  | none => False
def aIndex (P : Program) (t : TypeId) (tab : ATab) (x ix : AV) (K : AV → Prop) : Prop :=
  match ix with
  | .c (.int _ n) => match x with
    | .sl sz rows => (tyElem P t).2 = sz ∧ 0 < sz ∧ 0 ≤ n ∧ n < rows.length ∧ K (.rp (rows[n.toNat]?.getD []))
    | .osl id => match tab.get id with
      | some (.row _ sz rows) => (tyElem P t).2 = sz ∧ 0 < sz ∧ 0 ≤ n ∧ n < rows.length ∧ K (.op id n.toNat 0)
      | _ => False
    | _ => False
  | _ => False
def aLen (P : Program) (t : TypeId) (tab : ATab) (x : AV) (K : AV → Prop) : Prop :=
  match x with
  | .sl _ rows => (tyElem P t).2 ≠ 0 ∧ K (.c (.int .i64 rows.length))
  | .osl id => match tab.get id with
    | some (.row _ _ rows) => (tyElem P t).2 ≠ 0 ∧ K (.c (.int .i64 rows.length))
    | _ => False
  | .c (.slice _ n _) => (tyElem P t).2 ≠ 0 ∧ K (.c (.int .i64 n))
  | .c (.string s) => tyK P t = .str ∧ K (.c (.int .i64 s.size))
  | _ => False
def bin2 (op : BinOp) (k : TyK) : Value → Value → Option Value
  | .int i a, .int j b => if i = j then
      match op with
      | .add => some (.int i (i.wrap (a + b)))
      | .sub => some (.int i (i.wrap (a - b)))
      | .mul => some (.int i (i.wrap (a * b)))
      | .quo => if b = 0 then none else some (.int i (i.wrap (a.tdiv b)))
      | .rem => if b = 0 then none else some (.int i (a.tmod b))
      | .eql => some (.bool (a == b))
      | .neq => some (.bool (a != b))
      | .lss => some (.bool (decide (a < b)))
      | .leq => some (.bool (decide (a ≤ b)))
      | .gtr => some (.bool (decide (b < a)))
      | .geq => some (.bool (decide (b ≤ a)))
      | .and => some (.int i (bits .and i a b))
      | .or => some (.int i (bits .or i a b))
      | .xor => some (.int i (bits .xor i a b))
      | .andNot => some (.int i (bits .andNot i a b))
      | .shl => if b < 0 then none else some (.int i (i.wrap (a * 2 ^ (min b.toNat i.bits))))
      | .shr => if b < 0 then none else some (.int i (a.fdiv (2 ^ (min b.toNat i.bits))))
    else none
  | .bool a, .bool b => match k, op with
      | .bool, .eql => some (.bool (a == b))
      | .bool, .neq => some (.bool (!(a == b)))
      | _, _ => none
  | .string a, .string b => match op with
      | .eql => some (.bool (a == b))
      | .neq => some (.bool (!(a == b)))
      | .add => if a.size + b.size ≤ 9223372036854775807 then some (.string (a ++ b)) else none
      | _ => none
  | .slice none _ _, .slice none _ _ => match k, op with
      | .slice, .eql => some (.bool true)
      | .slice, .neq => some (.bool false)
      | _, _ => none
  | _, _ => none
/-- a slice that is read is nil, or not: it may be, if it has nothing -/
def aNilS (op : BinOp) (k : TyK) (rows : List (List AV)) (b : Value) (K : AV → Prop) : Prop :=
  match k, op, b with
  | .slice, .eql, .slice none 0 0 => ∀ c : Bool, (c = true → rows = []) → K (.c (.bool c))
  | .slice, .neq, .slice none 0 0 => ∀ c : Bool, (c = false → rows = []) → K (.c (.bool c))
  | _, _, _ => False
/-- the greater one, or the less, of two -/
def aMM (f : Int → Int → Int) : List AV → (AV → Prop) → Prop
  | [.c (.int k a), .c (.int _ b)], K => K (.c (.int k (f a b)))
  | _, _ => False
def un1 (op : UnOp) : Value → Option Value
  | .bool b => match op with | .not => some (.bool (!b)) | _ => none
  | .int k n => match op with | .neg => some (.int k (k.wrap (0 - n))) | _ => none
  | _ => none
/-- values, if all are told -/
def allC : List AV → Option (List Value)
  | [] => some []
  | .c v :: l => match allC l with
    | some vs => some (v :: vs)
    | none => none
  | _ => none
def BinRun (P : Program) (op : BinOp) (t : TypeId) (a b r : Value) : Prop := ∀ (w : World) (x y : Operand), (do eqGuard op t x y a b; binOp op t a b : Sem Value).run P w = .ok r w
def aBinS (P : Program) (op : BinOp) (t : TypeId) (K : AV → Prop) : Option (List Value) → Option (List Value) → Prop
  | some vs, some us => ∃ r, BinRun P op t (.agg vs.toArray) (.agg us.toArray) r ∧ K (.c r)
  | _, _ => False
def aBin (P : Program) (op : BinOp) (t : TypeId) (x y : AV) (K : AV → Prop) : Prop :=
  match x, y with
  | .c a, .c b => match bin2 op (tyK P t) a b with
    | some v => K (.c v)
    | none => False
  | .agg xs, .agg ys => aBinS P op t K (allC xs) (allC ys)
  | .sl _ rows, .c b => aNilS op (tyK P t) rows b K
  | _, _ => False
def aUn (op : UnOp) (x : AV) (K : AV → Prop) : Prop :=
  match x with
  | .c a => match un1 op a with
    | some v => K (.c v)
    | none => False
  | _ => False
/-- one of two, by a truth -/
def aIfV (t : Bool) (a b : AV) (K : AV → Prop) : Prop := match t with | true => K a | false => K b
theorem aIfV_true {a b : AV} {K : AV → Prop} : aIfV true a b K = K a := rfl
theorem aIfV_false {a b : AV} {K : AV → Prop} : aIfV false a b K = K b := rfl
theorem aIfV_split {t : Bool} {a b : AV} {K : AV → Prop} (h1 : t = true → aIfV true a b K) (h2 : t = false → aIfV false a b K) : aIfV t a b K := by
  cases t
  · exact h2 rfl
  · exact h1 rfl
def aPick (c a b : AV) (K : AV → Prop) : Prop :=
  match c with
  | .c (.bool t) => aIfV t a b K
  | _ => False
def aExtract (x : AV) (i : Nat) (K : AV → Prop) : Prop :=
  match x with
  | .tup vs => i < vs.length ∧ K (vs[i]?.getD .any)
  | _ => False
def aConv (P : Program) (src dst : TypeId) (x : AV) (K : AV → Prop) : Prop :=
  match tyInt P src, tyInt P dst, x with
  | some _, some k, .c (.int _ n) => K (.c (.int k (k.wrap n)))
  | _, _, _ => False
/-- a field of a struct's value: x: its offset, its type -/
def aFieldV (P : Program) (s : TypeId) (x : AV) (f : Nat) (K : AV → Prop) : Prop :=
  match fOff P s f with
  | some d => match x with
    | .agg cs => d + tySize P (fTyp P s f) ≤ cs.length ∧ if tyAgg P (fTyp P s f) = true then K (.agg ((cs.drop d).take (tySize P (fTyp P s f)))) else K ((cs.drop d).headD .any)
    | _ => False
  | none => False
def aClo (f : Fn) (b : Bool) (cs : List AV) (K : AV → Prop) : Prop :=
  match f, b with
  | .func g, true => K (.fn g cs)
  | _, _ => False
/-- a bound, or its default -/
def aBd (d : Int) : Option AV → Option Int
  | none => some d
  | some (.c (.int _ n)) => some n
  | _ => none
def aSliceR (P : Program) (t : TypeId) (sz : Nat) (rows : List (List AV)) (K : AV → Prop) : Option Int → Option Int → Option AV → Prop
  | some l, some h, none => ((tyElem P t).2 = sz ∧ 0 < sz) ∧ (0 ≤ l ∧ l ≤ h ∧ h ≤ (rows.length : Int)) ∧ K (.sl sz ((rows.take h.toNat).drop l.toNat))
  | _, _, _ => False
def aSliceS (P : Program) (t : TypeId) (s : ByteArray) (K : AV → Prop) : Option Int → Option Int → Option AV → Prop
  | some l, some h, none => tyK P t = .str ∧ (0 ≤ l ∧ l ≤ h ∧ h ≤ (s.size : Int)) ∧ K (.c (.string (s.extract l.toNat h.toNat)))
  | _, _, _ => False
/-- a part of what is read -/
def aSlice (P : Program) (t : TypeId) (x : AV) (lo hi mx : Option AV) (K : AV → Prop) : Prop :=
  match x with
  | .sl sz rows => aSliceR P t sz rows K (aBd 0 lo) (aBd rows.length hi) mx
  | .c (.string s) => aSliceS P t s K (aBd 0 lo) (aBd s.size hi) mx
  | _ => False
def aPure (P : Program) (tab : ATab) (ev : Operand → AV) (o : Op) (K : AV → Prop) : Prop :=
  match o with
  | .move x => K (ev x)
  | .assign x => K (ev x)
  | .pick c a b => aPick (ev c) (ev a) (ev b) K
  | .load t x => aLoad P t tab (ev x) K
  | .fieldAddr s x f => aField P s tab (ev x) f K
  | .indexAddr t x ix => aIndex P t tab (ev x) (ev ix) K
  | .field s x f => aFieldV P s (ev x) f K
  | .binOp op t x y _ => aBin P op t (ev x) (ev y) K
  | .unOp op _ x => aUn op (ev x) K
  | .extract x i => aExtract (ev x) i K
  | .convert s d x => aConv P s d (ev x) K
  | .call c => match c.callee with
    | .builtin .len => match c.args.toList, c.argTypes.toList with
      | [x], [t] => aLen P t tab (ev x) K
      | _, _ => False
    | .builtin .max => aMM (fun a b => max a b) (c.args.toList.map ev) K
    | .builtin .min => aMM (fun a b => min a b) (c.args.toList.map ev) K
    | _ => False
  | .makeFunc f first caps => aClo f (first.size == 0) (caps.toList.map ev) K
  | .slice t x lo hi mx => aSlice P t (ev x) (lo.map ev) (hi.map ev) (mx.map ev) K
  | _ => False

/-! ### it is so -/
def Yields1 (P : Program) (cx : Cx) (w : World) (tab : ATab) (L : Nat → Value) (nx : Nat) (K : AV → Prop) (s : Sem Value) : Prop :=
  ∃ v av, K av ∧ RVx cx w tab L v av ∧ av.lt nx ∧ ∀ w', Below w.heap.size w w' → s.run P w' = .ok v w'

/-- whatever memory is -/
def Yields0 (P : Program) (cx : Cx) (w : World) (tab : ATab) (L : Nat → Value) (nx : Nat) (K : AV → Prop) (s : Sem Value) : Prop :=
  ∃ v av, K av ∧ RVx cx w tab L v av ∧ av.lt nx ∧ ∀ w', s.run P w' = .ok v w'
section
variable {P : Program} {cx : Cx} {w : World} {tab : ATab} {L : Nat → Value} {nx : Nat} {K : AV → Prop}
/-- whatever memory is but that block -/
def SameB (b : Nat) (w w' : World) : Prop := ∀ (o : Nat) (u : Value), w.cell? ⟨b, o, none⟩ = some u → w'.cell? ⟨b, o, none⟩ = some u
def YieldsL (P : Program) (cx : Cx) (w : World) (tab : ATab) (L : Nat → Value) (nx : Nat) (K : AV → Prop) (v : Value) (s : Sem Value) : Prop :=
  ∃ u av, K av ∧ RVx cx w tab L u av ∧ av.lt nx ∧ ∃ b, vblk v = some b ∧ ∀ w', SameB b w w' → s.run P w' = .ok u w'
theorem YieldsL.one {v : Value} {s : Sem Value} (h : YieldsL P cx w tab L nx K v s) : Yields1 P cx w tab L nx K s := by
  obtain ⟨u, av, h1, h2, h3, b, _, h4⟩ := h
  exact ⟨u, av, h1, h2, h3, fun w' hw' => h4 w' fun o u hu => (hw'.cell (World.block_lt_of_cell? w _ hu)).trans hu⟩
theorem Yields0.one {s : Sem Value} (h : Yields0 P cx w tab L nx K s) : Yields1 P cx w tab L nx K s := by
  obtain ⟨v, av, h1, h2, h3, h4⟩ := h
  exact ⟨v, av, h1, h2, h3, fun w' _ => h4 w'⟩
theorem below_cell {w w' : World} (hb : Below w.heap.size w w') {p : Addr} {v : Value} (h : w.cell? p = some v) : w'.cell? p = some v :=
  (hb.cell (World.block_lt_of_cell? w p h)).trans h
omit tab L nx K in
theorem range_get {f : Nat → Value} {n j : Nat} {x : Value} (h : ((List.range n).map f)[j]? = some x) : j < n ∧ f j = x := by
  obtain ⟨hj, he⟩ := List.getElem?_eq_some_iff.1 h
  simp at hj he
  exact ⟨hj, he⟩
theorem take_ok {t : TypeId} {b o : Nat} {cs : List AV} (hc : ∀ j av, cs[j]? = some av → ∃ u, w.cell? ⟨b, o + j, none⟩ = some u ∧ RVx cx w tab L u av) (hl : AV.ltL nx cs) (h : aTake P t cs K) :
    YieldsL P cx w tab L nx K (.pointer (some ⟨b, o, none⟩)) (Instr.loadAt t (.pointer (some ⟨b, o, none⟩))) := by
  obtain ⟨h0, h1, h2⟩ := h
  obtain ⟨d, i, hu, hi, he⟩ := tySize_pos h0
  cases ha : tyAgg P t with
  | true =>
    rw [if_pos ha] at h2
    obtain ⟨f, hf⟩ : ∃ f : Nat → Value, ∀ j av, (cs.take (tySize P t))[j]? = some av → w.cell? ⟨b, o + j, none⟩ = some (f j) ∧ RVx cx w tab L (f j) av := by
      refine ⟨fun j => (w.cell? ⟨b, o + j, none⟩).getD undef, fun j av hj => ?_⟩
      rw [List.getElem?_take] at hj
      split at hj
      · obtain ⟨u, hu, hr⟩ := hc j av hj
        simp only [hu, Option.getD_some]
        exact ⟨trivial, hr⟩
      · cases hj
    have hlen : (cs.take (tySize P t)).length = tySize P t := by rw [List.length_take]; omega
    refine ⟨.agg ((List.range (tySize P t)).map f).toArray, _, h2, .agg _ _ (by simp [hlen]) (fun j x av hx hav => ?_), ?_, b, rfl, fun w' hb => ?_⟩
    · have := (hf j av hav).2
      rw [List.getElem?_toArray] at hx
      obtain ⟨_, rfl⟩ := range_get hx
      exact this
    · show AV.ltL nx _
      rw [ltL_iff] at hl ⊢
      exact fun a ha => hl a (List.mem_of_mem_take ha)
    · have hcl := run_loadCells_list (P := P) w' ⟨b, o, none⟩ ((List.range (tySize P t)).map f) (fun j v hv => by
        obtain ⟨hj, rfl⟩ := range_get hv
        rw [Addr.add_lit]
        have hx : j < (cs.take (tySize P t)).length := by omega
        exact hb _ _ (hf j _ (List.getElem?_eq_getElem hx)).1)
      rw [List.length_map, List.length_range] at hcl
      simp [Instr.loadAt, Instr.sureAddr, loadVar, Sem.run_bind, tyAgg_true ha, run_sizeOf' h0, hcl]
  | false =>
    rw [if_neg (by simp [ha])] at h2
    obtain ⟨av, cs', rfl⟩ : ∃ av cs', cs = av :: cs' := by
      cases cs with
      | nil => simp at h1; omega
      | cons a l => exact ⟨a, l, rfl⟩
    obtain ⟨u, hcell, hr⟩ := hc 0 av rfl
    refine ⟨u, av, h2, hr, hl.1, b, rfl, fun w' hb => ?_⟩
    have := hb _ _ hcell
    rw [Nat.add_zero] at this
    simp [Instr.loadAt, Instr.sureAddr, loadVar, Sem.run_bind, tyAgg_false hu ha, run_load, this]
theorem ltL_drop {cs : List AV} (h : AV.ltL nx cs) (n : Nat) : AV.ltL nx (cs.drop n) := by
  rw [ltL_iff] at h ⊢
  exact fun a ha => h a (List.mem_of_mem_drop ha)
theorem kx_of {id : Nat} {o : AObj} (h : tab.get id = some o) : Kx tab L id = some (o.sz, L id) := by simp [Kx, h]
theorem below_take {t : TypeId} {b o : Nat} {cs : List AV} {S : Nat → Prop} (hc : ∀ j av, cs[j]? = some av → ∃ u, w.cell? ⟨b, o + j, none⟩ = some u ∧ RT w (Sx cx w tab L) u av) (h : aTake P t cs K) :
    YieldsL P cx w tab L nx K (.pointer (some ⟨b, o, none⟩)) (Instr.loadAt t (.pointer (some ⟨b, o, none⟩))) :=
  take_ok (fun j av hj => by obtain ⟨u, h1, h2⟩ := hc j av hj; exact ⟨u, h1, .tree h2⟩) (ltL_iff.2 fun a ha => by
    obtain ⟨j, hj⟩ := List.getElem?_of_mem ha
    obtain ⟨u, _, h2⟩ := hc j a hj
    exact h2.lt nx) h
theorem row_cells {e : TypeId} {sz : Nat} {v : Value} {rows : List (List AV)} {g : Nat} (h : ObjAt cx w tab L v (.row e sz rows)) (hg : vblk v = some g) {i : Nat} (hi : i < rows.length) (j : Nat) (av : AV) (hj : (rows[i]?.getD [])[j]? = some av) :
    ∃ u, w.cell? ⟨g, i * sz + j, none⟩ = some u ∧ RT w (Sx cx w tab L) u av := by
  obtain ⟨hsz, xs, hown, _, hx⟩ := h
  rw [List.getElem?_eq_getElem hi, Option.getD_some] at hj
  obtain ⟨x, h1, h2⟩ := hx i j _ av (List.getElem?_eq_getElem hi) hj
  refine ⟨x, ?_, h2⟩
  rcases hown.2 with ⟨rfl, h0⟩ | ⟨g', cap, cur, rfl, _⟩
  · omega
  · have hc := hown.cells (g := g') rfl _ x h1
    simp [vblk] at hg
    subst hg
    rwa [addAddr0] at hc
theorem box_cells {t : TypeId} {v : Value} {cells : List AV} {g : Nat} (h : ObjAt cx w tab L v (.box t cells)) (hg : vblk v = some g) (j : Nat) (av : AV) (hj : cells[j]? = some av) :
    ∃ u, w.cell? ⟨g, j, none⟩ = some u ∧ RVx cx w tab L u av := by
  obtain ⟨g', cs, rfl, _, hheap, hn, hx⟩ := h
  simp [vblk] at hg
  subst hg
  have hlt : j < cs.size := by rw [hn]; exact (List.getElem?_eq_some_iff.1 hj).1
  exact ⟨cs[j], by rw [cell_of_row w g' j cs t (0, 0) hheap]; exact Array.getElem?_eq_getElem hlt, (hx j _ av (Array.getElem?_eq_getElem hlt) hj).1⟩
theorem load_ok {t : TypeId} {v : Value} {x : AV} (hL : Lay cx w tab L) (hy : ∀ id o, tab.get id = some o → o.lt nx) (hv : RVx cx w tab L v x) (h : aLoad P t tab x K) : YieldsL P cx w tab L nx K v (Instr.loadAt t v) := by
  unfold aLoad at h
  split at h
  · rename_i cs
    obtain ⟨b, o, U, rfl, hb, hcell, hr⟩ := hv.rp_inv
    exact below_take (S := fun _ => True) (fun j av hj => ⟨U j, hcell j av hj, hr j av hj⟩) h
  · rename_i id i j
    split at h
    · rename_i ty cells hid
      obtain ⟨rfl, h⟩ := h
      obtain ⟨g, hg, rfl⟩ := hv.op_inv _ _ (kx_of hid)
      have ho := hL.objs id _ hid
      simp only [AObj.sz, Nat.zero_mul, Nat.zero_add]
      refine take_ok (fun k av hk => ?_) (ltL_drop (hy id _ hid) j) h
      rw [List.getElem?_drop] at hk
      exact box_cells ho hg (j + k) av hk
    · rename_i e sz rows hid
      obtain ⟨hi, h⟩ := h
      obtain ⟨g, hg, rfl⟩ := hv.op_inv _ _ (kx_of hid)
      have ho := hL.objs id _ hid
      refine below_take (S := fun _ => True) (fun k av hk => ?_) h
      rw [List.getElem?_drop] at hk
      have := row_cells ho hg hi (j + k) av hk
      rwa [← Nat.add_assoc] at this
    · exact h.elim
  · exact h.elim
theorem fOff_some {s : TypeId} {f d : Nat} (h : fOff P s f = some d) : ∃ fields fd, P.underlying s = some (.struct fields) ∧ fields[f]? = some fd ∧ 0 < tySize P fd.type ∧ fd.offset = d := by
  unfold fOff at h
  split at h
  · rename_i fields hu
    split at h
    · rename_i fd hf
      split at h
      · cases h
      · rename_i h0
        cases h
        exact ⟨fields, fd, hu, hf, by omega, rfl⟩
    · cases h
  · cases h
theorem run_fieldAt {s : TypeId} {f d : Nat} (h : fOff P s f = some d) (b o : Nat) (w : World) : (Instr.fieldAt s (.pointer (some ⟨b, o, none⟩)) f).run P w = .ok (.pointer (some ⟨b, o + d, none⟩)) w := by
  obtain ⟨fields, fd, hu, hf, h0, rfl⟩ := fOff_some h
  simp [Instr.fieldAt, Sem.run_bind, run_underlying hu, hf, Instr.sureAddr, fieldPlace, run_sizeOf' h0, Nat.ne_of_gt h0, Addr.add_lit]
theorem field_ok {s : TypeId} {v : Value} {x : AV} {f : Nat} (hl : x.lt nx) (hv : RVx cx w tab L v x) (h : aField P s tab x f K) : Yields0 P cx w tab L nx K (Instr.fieldAt s v f) := by
  unfold aField at h
  split at h
  · rename_i d hd
    split at h
    · rename_i cs
      obtain ⟨b, o, U, rfl, hb, hcell, hr⟩ := hv.rp_inv
      refine ⟨_, _, h, .tree (.rp b (o + d) (cs.drop d) (fun j => U (d + j)) hb (fun j av hj => ?_) (fun j av hj => ?_)), trivial, fun w' => run_fieldAt hd b o w'⟩
      · rw [List.getElem?_drop] at hj
        rw [Nat.add_assoc]
        exact hcell _ av hj
      · rw [List.getElem?_drop] at hj
        exact hr _ av hj
    · rename_i id i j
      split at h
      · rename_i ob hid
        obtain ⟨g, hg, rfl⟩ := hv.op_inv _ _ (kx_of hid)
        refine ⟨_, _, h, .op _ id i (j + d) (fun sz' u' hk' => ?_), hl, fun w' => run_fieldAt hd _ _ w'⟩
        rw [kx_of hid] at hk'
        cases hk'
        exact ⟨g, hg, by rw [Nat.add_assoc]⟩
      · exact h.elim
    · exact h.elim
  · exact h.elim
theorem fieldV_ok {s : TypeId} {v : Value} {x : AV} {f : Nat} (hl : x.lt nx) (hv : RVx cx w tab L v x) (h : aFieldV P s x f K) : Yields0 P cx w tab L nx K (Instr.field s v f) := by
  unfold aFieldV at h
  split at h
  · rename_i d hd
    obtain ⟨fields, fd, hu, hf, h0, rfl⟩ := fOff_some hd
    have ht : fTyp P s f = fd.type := by simp [fTyp, hu, hf]
    rw [ht] at h
    obtain ⟨dd, i, hdu, hi, he⟩ := tySize_pos h0
    split at h
    · rename_i cs
      obtain ⟨xs, rfl, hn, hr⟩ := hv.agg_inv
      obtain ⟨hsz, h⟩ := h
      cases ha : tyAgg P fd.type with
      | true =>
        rw [if_pos ha] at h
        refine ⟨.agg (xs.extract fd.offset (fd.offset + tySize P fd.type)), _, h, .agg _ _ (by simp; omega) (fun j y av h1 h2 => ?_), ?_, fun w' => ?_⟩
        · rw [List.getElem?_take] at h2
          split at h2
          · rename_i hj
            rw [List.getElem?_drop] at h2
            rw [Array.getElem?_extract] at h1
            split at h1
            · exact hr _ y av h1 h2
            · cases h1
          · cases h2
        · exact ltL_iff.2 fun y hy => ltL_iff.1 hl y (List.mem_of_mem_drop (List.mem_of_mem_take hy))
        · simp [Instr.field, Sem.run_bind, run_underlying hu, hf, asAgg, part, tyAgg_true ha, run_sizeOf' h0]
      | false =>
        rw [if_neg (by simp [ha])] at h
        have hlt : fd.offset < cs.length := by omega
        have hlt' : fd.offset < xs.size := by omega
        rw [List.drop_eq_getElem_cons hlt, List.headD_cons] at h
        exact ⟨xs[fd.offset], _, h, hr _ _ _ (Array.getElem?_eq_getElem hlt') (List.getElem?_eq_getElem hlt), ltL_iff.1 hl _ (List.getElem_mem hlt), fun w' => by
          simp [Instr.field, Sem.run_bind, run_underlying hu, hf, asAgg, part, tyAgg_false hdu ha, Array.getElem?_eq_getElem hlt']⟩
    · exact h.elim
  · exact h.elim
theorem tyElem_pos {t : TypeId} (h : 0 < (tyElem P t).2) : P.underlying t = some (.slice (tyElem P t).1) ∧ tySize P (tyElem P t).1 = (tyElem P t).2 := by
  unfold tyElem at *
  split at h
  · rename_i e he
    exact ⟨he, rfl⟩
  · simp at h
theorem run_indexAt' {t : TypeId} (h : 0 < (tyElem P t).2) (b o n cap : Nat) (k : IntKind) (i : Int) (h0 : 0 ≤ i) (h1 : i < n) (w : World) : (Instr.indexAt t (.slice (some ⟨b, o, none⟩) n cap) (.int k i)).run P w = .ok (.pointer (some ⟨b, o + i.toNat * (tyElem P t).2, none⟩)) w := by
  obtain ⟨hu, he⟩ := tyElem_pos h
  have hs := run_sizeOf' (P := P) (t := (tyElem P t).1) (by omega) w
  rw [he] at hs
  simp [Instr.indexAt, Sem.run_bind, run_underlying hu, asIntOf, h0, h1, hs, Addr.add_lit]
theorem osl_row {id : Nat} {v : Value} {e : TypeId} {sz : Nat} {rows : List (List AV)} (hL : Lay cx w tab L) (hid : tab.get id = some (.row e sz rows)) (hv : RVx cx w tab L v (.osl id)) : v = L id ∧ ∃ A cap, v = .slice A rows.length cap ∧ (0 < rows.length → ∃ g, A = some ⟨g, 0, none⟩) := by
  have e1 := hv.osl_inv _ _ (kx_of hid)
  refine ⟨e1, ?_⟩
  obtain ⟨_, xs, hown, _⟩ := hL.objs id _ hid
  rw [e1]
  rcases hown.2 with ⟨h1, h0⟩ | ⟨g, cap, cur, h1, _⟩
  · rw [h1, h0]
    exact ⟨none, 0, rfl, fun h => by omega⟩
  · rw [h1]
    exact ⟨_, cap, rfl, fun _ => ⟨g, rfl⟩⟩
theorem index_ok {t : TypeId} {v u : Value} {x ix : AV} (hL : Lay cx w tab L) (hl : x.lt nx) (hv : RVx cx w tab L v x) (hu : RVx cx w tab L u ix) (h : aIndex P t tab x ix K) : Yields0 P cx w tab L nx K (Instr.indexAt t v u) := by
  unfold aIndex at h
  split at h
  · rename_i k n
    obtain rfl := hu.c_inv
    split at h
    · rename_i sz rows
      obtain ⟨hsz, hpos, h0, h1, h⟩ := h
      obtain ⟨A, cap, rfl, _, _, hrow, hA⟩ := hv.sl_inv.sl_inv
      obtain ⟨b, o, rfl, hb, U, hcell, hr, _⟩ := hA (by omega)
      have hn : n.toNat < rows.length := by omega
      rw [List.getElem?_eq_getElem hn, Option.getD_some] at h
      refine ⟨_, _, h, .tree (.rp b (o + n.toNat * (tyElem P t).2) _ (U n.toNat) hb (fun j av hj => ?_) (fun j av hj => ?_)), trivial, fun w' => run_indexAt' (by omega) b o _ cap k n h0 h1 w'⟩
      · rw [hsz]
        exact hcell n.toNat j _ av (List.getElem?_eq_getElem hn) hj
      · exact hr n.toNat j _ av (List.getElem?_eq_getElem hn) hj
    · rename_i id
      split at h
      · rename_i e sz rows hid
        obtain ⟨hsz, hpos, h0, h1, h⟩ := h
        obtain ⟨hvL, A, cap, rfl, hA⟩ := osl_row hL hid hv
        obtain ⟨g, rfl⟩ := hA (by omega)
        refine ⟨_, _, h, .op _ id n.toNat 0 (fun sz' u' hk' => ?_), hl, fun w' => run_indexAt' (by omega) g 0 _ cap k n h0 h1 w'⟩
        rw [kx_of hid] at hk'
        cases hk'
        exact ⟨g, by rw [← hvL]; rfl, by simp [AObj.sz, hsz]⟩
      · exact h.elim
    · exact h.elim
  · exact h.elim
theorem run_len_slice {t : TypeId} (h : (tyElem P t).2 ≠ 0) (ty : TypeId) (A : Option Addr) (n cap : Nat) (w : World) : (Builtin.len_ #[t] ty #[.slice A n cap]).run P w = .ok (.int .i64 n) w := by
  obtain ⟨hu, he⟩ := tyElem_pos (Nat.pos_of_ne_zero h)
  simp [Builtin.len_, Sem.run_bind, run_underlying hu, goInt]
theorem len_ok {t ty : TypeId} {v : Value} {x : AV} (hL : Lay cx w tab L) (hv : RVx cx w tab L v x) (h : aLen P t tab x K) : Yields0 P cx w tab L nx K (Builtin.len_ #[t] ty #[v]) := by
  unfold aLen at h
  split at h
  · rename_i sz rows
    obtain ⟨h1, h⟩ := h
    obtain ⟨A, cap, rfl, _⟩ := hv.sl_inv.sl_inv
    exact ⟨_, _, h, .tree (.c _), trivial, fun w' => run_len_slice h1 ty A _ cap w'⟩
  · rename_i id
    split at h
    · rename_i e sz rows hid
      obtain ⟨h1, h⟩ := h
      obtain ⟨_, A, cap, rfl, _⟩ := osl_row hL hid hv
      exact ⟨_, _, h, .tree (.c _), trivial, fun w' => run_len_slice h1 ty A _ cap w'⟩
    · exact h.elim
  · obtain ⟨h1, h⟩ := h
    obtain rfl := hv.c_inv
    exact ⟨_, _, h, .tree (.c _), trivial, fun w' => run_len_slice h1 ty _ _ _ w'⟩
  · rename_i s
    obtain ⟨h1, h⟩ := h
    obtain rfl := hv.c_inv
    have hu : P.underlying t = some .string := by
      unfold tyK at h1
      split at h1 <;> first | assumption | cases h1
    exact ⟨_, _, h, .tree (.c _), trivial, fun w' => by simp [Builtin.len_, Sem.run_bind, run_underlying hu, goInt]⟩
  · exact h.elim
theorem run_nilS {op : BinOp} {t : TypeId} {A : Option Addr} {n c n' c' : Nat} (hk : tyK P t = .slice) (h : op = .eql ∨ op = .neq) (w : World) (x y : Operand) : (do eqGuard op t x y (.slice A n c) (.slice none n' c'); binOp op t (.slice A n c) (.slice none n' c') : Sem Value).run P w = .ok (.bool (if op = .eql then A.isNone else !A.isNone)) w := by
  obtain ⟨e, hu⟩ : ∃ e, P.underlying t = some (.slice e) := by
    unfold tyK at hk
    split at hk <;> first | (rename_i e he; exact ⟨e, he⟩) | cases hk
  have hg : (eqGuard op t x y (.slice A n c) (.slice none n' c')).run P w = .ok () w := by
    rcases h with rfl | rfl <;> simp [eqGuard]
  have he0 : ∀ d, (Op.equalIn (d + 1) t (.slice A n c) (.slice none n' c')).run P w = .ok A.isNone w := fun d => by
    cases A <;> simp [Op.equalIn, run_underlying hu]
  have he := he0 9999
  rw [Sem.run_bind, hg]
  simp only [Result.andThen_ok]
  rcases h with rfl | rfl <;> simp only [binOp, Op.equal, Op.maxDepth, Sem.run_bind, he, Result.andThen_ok] <;> simp
theorem bin2_run {op : BinOp} {t : TypeId} {a b v : Value} {x y : Operand} (h : bin2 op (tyK P t) a b = some v) (w : World) : (do eqGuard op t x y a b; binOp op t a b : Sem Value).run P w = .ok v w := by
  have hg : (eqGuard op t x y a b).run P w = .ok () w := by
    unfold bin2 at h
    split at h <;> first | (cases h; done) | (cases op <;> simp [eqGuard])
  rw [Sem.run_bind, hg]
  simp only [Result.andThen_ok]
  unfold bin2 at h
  split at h
  · rename_i i p j q
    split at h
    · rename_i hij
      subst hij
      cases op <;> simp at h <;> first
        | (obtain ⟨h0, rfl⟩ := h; simp [binOp, Op.intDiv, h0]; done)
        | (obtain ⟨h0, rfl⟩ := h; simp [binOp, Op.shift, Int.not_lt.2 h0]; done)
        | (subst h; simp [binOp, intBits_and, intBits_or, intBits_xor, intBits_andNot]; done)
        | (subst h; simp [binOp, Op.intArith, Op.intCmp]; done)
    · cases h
  · rename_i p q
    split at h
    · rename_i hk
      have hu : P.underlying t = some .bool := by
        unfold tyK at hk
        split at hk <;> first | assumption | cases hk
      cases h
      simp [binOp, Op.equal, Op.maxDepth, Sem.run_bind, run_equalIn_bool' w 9999 t p q hu]
    · rename_i hk
      have hu : P.underlying t = some .bool := by
        unfold tyK at hk
        split at hk <;> first | assumption | cases hk
      cases h
      simp [binOp, Op.equal, Op.maxDepth, Sem.run_bind, run_equalIn_bool' w 9999 t p q hu]
    · cases h
  · rename_i p q
    cases op <;> simp at h
    case add =>
      obtain ⟨h1, rfl⟩ := h
      have h2 : ¬ (((p.size + q.size : Nat) : Int) > IntKind.i64.max) := by
        have : IntKind.i64.max = 9223372036854775807 := by decide
        omega
      have h3 : IntKind.i64.max = 9223372036854775807 := by decide
      simp [binOp, Op.stringOp, h3]
      omega
    all_goals
      subst h
      simp [binOp, Op.stringOp, beq_toListBytes]
  · rename_i n1 c1 n2 c2
    split at h
    · rename_i hk
      have := run_nilS (A := none) (n := n1) (c := c1) (n' := n2) (c' := c2) hk (.inl rfl) w x y
      rw [Sem.run_bind, hg] at this
      cases h
      simpa using this
    · rename_i hk
      have := run_nilS (A := none) (n := n1) (c := c1) (n' := n2) (c' := c2) hk (.inr rfl) w x y
      rw [Sem.run_bind, hg] at this
      cases h
      simpa using this
    · cases h
  · cases h
theorem un1_run {op : UnOp} {a v : Value} (h : un1 op a = some v) (w : World) : (Op.unary op a).run P w = .ok v w := by
  unfold un1 at h
  split at h
  · cases op <;> simp at h
    subst h
    simp [Op.unary]
  · cases op <;> simp at h
    subst h
    simp [Op.unary, Op.intArith]
  · cases h
theorem allC_val : ∀ {cs : List AV} {vs : List Value} {xs : Array Value}, allC cs = some vs → xs.size = cs.length → (∀ (j : Nat) (x : Value) (av : AV), xs[j]? = some x → cs[j]? = some av → RVx cx w tab L x av) → xs = vs.toArray := by
  intro cs vs xs h hn hr
  have key : ∀ (cs : List AV) (vs : List Value), allC cs = some vs → ∀ (l : List Value), l.length = cs.length → (∀ (j : Nat) (x : Value) (av : AV), l[j]? = some x → cs[j]? = some av → RVx cx w tab L x av) → l = vs := by
    intro cs
    induction cs with
    | nil =>
      intro vs h l hl _
      cases h
      exact List.eq_nil_of_length_eq_zero hl
    | cons a cs ih =>
      intro vs h l hl hr
      cases l with
      | nil => simp at hl
      | cons x l =>
        cases a with
        | c v =>
          simp only [allC] at h
          split at h
          · rename_i vs' hv
            cases h
            have h0 := (hr 0 x (.c v) rfl rfl).c_inv
            rw [h0, ih vs' hv l (by simpa using hl) (fun j y av h1 h2 => hr (j + 1) y av (by simpa using h1) (by simpa using h2))]
          · cases h
        | _ => simp [allC] at h
  have := key cs vs h xs.toList (by simpa using hn) (fun j x av h1 h2 => hr j x av (by simpa using h1) h2)
  rw [← this]
/-- a part of a slice that is read -/
theorem rt_part {S : Nat → Prop} {v : Value} {sz l h' : Nat} {rows : List (List AV)} (hr : RT w S v (.sl sz rows)) (hlh : l ≤ h') (hh : h' ≤ rows.length) :
    ∃ A cap, v = .slice A rows.length cap ∧ rows.length ≤ cap ∧ ∀ s, s = sz → RT w S (sliced A l h' cap s) (.sl sz ((rows.take h').drop l)) := by
  obtain ⟨A, cap, rfl, hc, hm, hs, hA⟩ := hr.sl_inv
  refine ⟨A, cap, rfl, hc, fun s hs' => ?_⟩
  subst hs'
  have hlen : ((rows.take h').drop l).length = h' - l := by simp only [List.length_drop, List.length_take]; omega
  have hget : ∀ i row, ((rows.take h').drop l)[i]? = some row → rows[l + i]? = some row := fun i row hi => by
    rw [List.getElem?_drop, List.getElem?_take] at hi
    split at hi
    · exact hi
    · cases hi
  unfold sliced
  by_cases h0 : h' - l = 0
  · refine .sl _ _ _ _ _ 0 0 (fun _ _ => undef) (by omega) (by omega) (by omega) (fun h => by omega) (fun row hr' => hs row (List.mem_of_mem_take (List.mem_of_mem_drop hr'))) (fun h => by omega) (fun i j row av h1 h2 => ?_) (fun i j row av h1 h2 => ?_)
    all_goals
      have := (List.getElem?_eq_some_iff.1 h1).1
      omega
  · obtain ⟨b, o, rfl, hSb, U, h1, h2, h3⟩ := hA (by omega)
    rw [if_neg (by omega), Option.map_some, Addr.add_lit]
    refine .sl _ _ _ _ _ b (o + l * s) (fun i j => U (l + i) j) hlen.symm (by omega) (by omega) (fun _ => ⟨rfl, hSb⟩) (fun row hr' => hs row (List.mem_of_mem_take (List.mem_of_mem_drop hr'))) (fun _ i j row av h4 h5 => ?_) (fun i j row av h4 h5 => ?_) (fun i j row av h4 h5 => ?_)
    · have := h1 (l + i) j row av (hget i row h4) h5
      rwa [Nat.add_mul, ← Nat.add_assoc] at this
    · exact h3 (l + i) j row av (hget i row h4) h5
    · exact h2 (l + i) j row av (hget i row h4) h5
/-- a bound, or its default -/
def optAt (d n : Nat) (o : Option Value) : Prop := (o = none ∧ n = d) ∨ ∃ k, o = some (.int k n)
theorem run_bounds {isS : Bool} {w : World} {len cap l h' m : Nat} {lo hi mx : Option Value} (h1 : optAt 0 l lo) (h2 : optAt len h' hi) (h3 : (mx = none ∧ m = cap) ∨ (m = h' ∧ (∃ k, mx = some (.int k m)) ∧ hi ≠ none)) (hlh : l ≤ h') (hh : h' ≤ cap) : (Instr.sliceBounds isS len cap lo hi mx).run P w = .ok (l, h', m) w := by
  rcases h1 with ⟨rfl, rfl⟩ | ⟨k1, rfl⟩ <;> rcases h2 with ⟨rfl, rfl⟩ | ⟨k2, rfl⟩ <;> rcases h3 with ⟨rfl, rfl⟩ | ⟨rfl, ⟨k3, rfl⟩, h4⟩ <;>
    first
    | exact absurd rfl h4
    | (simp [Instr.sliceBounds, run_sliceBound, hlh, hh]; done)
    | (simp [Instr.sliceBounds, run_sliceBound, hlh, hh]; omega)
theorem bd_at {d n : Nat} {o : Option Operand} {ρ : Operand → Value} {ev : Operand → AV} {l : Int} (he : ∀ x, RVx cx w tab L (ρ x) (ev x)) (h : aBd (d : Int) (o.map ev) = some l) (h0 : 0 ≤ l) (hn : n = l.toNat) : optAt d n (o.map ρ) := by
  cases o with
  | none =>
    simp [aBd] at h
    exact .inl ⟨rfl, by omega⟩
  | some x =>
    simp only [Option.map_some] at h ⊢
    unfold aBd at h
    split at h
    · rename_i hx
      cases hx
    · rename_i k m hx
      injection hx with hx
      have := he x
      rw [hx] at this
      injection h with h
      subst h
      rw [this.c_inv]
      exact .inr ⟨k, by rw [hn, Int.toNat_of_nonneg h0]⟩
    · cases h
theorem slice_ok {t : TypeId} {v : Value} {x : AV} {lo hi mx : Option Operand} {ρ : Operand → Value} {ev : Operand → AV} (he : ∀ x, RVx cx w tab L (ρ x) (ev x)) (hv : RVx cx w tab L v x) (h : aSlice P t x (lo.map ev) (hi.map ev) (mx.map ev) K) :
    Yields0 P cx w tab L nx K (Instr.sliceAt t v (lo.map ρ) (hi.map ρ) (mx.map ρ)) := by
  unfold aSlice at h
  split at h
  · rename_i sz rows
    unfold aSliceR at h
    split at h
    · rename_i l h' hl hh hmx
      obtain ⟨⟨h1, h2⟩, ⟨h3, h4, h5⟩, h6⟩ := h
      obtain ⟨hu, hsz⟩ := tyElem_pos (P := P) (t := t) (by omega)
      obtain ⟨A, cap, rfl, hc, hp⟩ := rt_part (l := l.toNat) (h' := h'.toNat) hv.sl_inv (by omega) (by omega)
      have hmx' : mx = none := by cases mx <;> first | rfl | cases hmx
      subst hmx'
      refine ⟨_, _, h6, .tree (hp sz rfl), trivial, fun w' => ?_⟩
      have hb := run_bounds (P := P) (w := w') (isS := true) (cap := cap) (m := cap) (mx := none) (bd_at (d := 0) he hl h3 rfl) (bd_at he hh (by omega) rfl) (.inl ⟨rfl, rfl⟩) (by omega) (by omega)
      have hs := run_sizeOf' (P := P) (t := (tyElem P t).1) (by omega) w'
      rw [hsz, h1] at hs
      simp [Instr.sliceAt, Instr.slice, Sem.run_bind, run_underlying hu, hb, hs, sliced]
    · exact h.elim
  · rename_i s
    unfold aSliceS at h
    split at h
    · rename_i l h' hl hh hmx
      obtain ⟨h1, ⟨h3, h4, h5⟩, h6⟩ := h
      obtain rfl := hv.c_inv
      have hu : P.underlying t = some .string := by
        unfold tyK at h1
        split at h1 <;> first | assumption | cases h1
      have hmx' : mx = none := by cases mx <;> first | rfl | cases hmx
      subst hmx'
      refine ⟨_, _, h6, .tree (.c _), trivial, fun w' => ?_⟩
      have hb := run_bounds (P := P) (w := w') (isS := false) (cap := s.size) (m := s.size) (mx := none) (bd_at (d := 0) he hl h3 rfl) (bd_at he hh (by omega) rfl) (.inl ⟨rfl, rfl⟩) (by omega) (by omega)
      simp [Instr.sliceAt, Instr.slice, Sem.run_bind, run_underlying hu, hb]
    · exact h.elim
  · exact h.elim
theorem mm_args {f : Int → Int → Int} {args : Array Operand} {ev : Operand → AV} {K : AV → Prop} (h : aMM f (args.toList.map ev) K) : ∃ x y k a k' b, args = #[x, y] ∧ ev x = .c (.int k a) ∧ ev y = .c (.int k' b) ∧ K (.c (.int k (f a b))) := by
  obtain ⟨l⟩ := args
  unfold aMM at h
  split at h
  · rename_i k a k' b hl
    cases l with
    | nil => simp at hl
    | cons x l =>
      cases l with
      | nil => simp at hl
      | cons y l =>
        cases l with
        | nil =>
          simp at hl
          exact ⟨x, y, k, a, k', b, rfl, hl.1, hl.2, h⟩
        | cons z l => simp at hl
  · exact h.elim
def isLoad : Op → Bool
  | .load _ _ => true
  | _ => false
theorem pure_ok {o : Oper} {ρ : Operand → Value} {ev : Operand → AV} (hL : Lay cx w tab L) (hy : ∀ id o, tab.get id = some o → o.lt nx) (he : ∀ x, RVx cx w tab L (ρ x) (ev x) ∧ (ev x).lt nx) (h : aPure P tab ev o.op K) :
    ∃ v av, K av ∧ RVx cx w tab L v av ∧ av.lt nx ∧ (∀ w', Below w.heap.size w w' → (execOp ρ o).run P w' = .ok (.value v) w') ∧ (isLoad o.op = false → ∀ w', (execOp ρ o).run P w' = .ok (.value v) w') ∧ (∀ t x, o.op = .load t x → ∃ b, vblk (ρ x) = some b ∧ ∀ w', SameB b w w' → (execOp ρ o).run P w' = .ok (.value v) w') := by
  have mk : isLoad o.op = false → ∀ v av, K av → RVx cx w tab L v av → av.lt nx → (∀ w', (execOp ρ o).run P w' = .ok (.value v) w') → ∃ v av, K av ∧ RVx cx w tab L v av ∧ av.lt nx ∧ (∀ w', Below w.heap.size w w' → (execOp ρ o).run P w' = .ok (.value v) w') ∧ (isLoad o.op = false → ∀ w', (execOp ρ o).run P w' = .ok (.value v) w') ∧ (∀ t x, o.op = .load t x → ∃ b, vblk (ρ x) = some b ∧ ∀ w', SameB b w w' → (execOp ρ o).run P w' = .ok (.value v) w') :=
    fun hl v av h1 h2 h3 h4 => ⟨v, av, h1, h2, h3, fun w' _ => h4 w', fun _ w' => h4 w', fun t x he => by rw [he] at hl; cases hl⟩
  have lift0 : isLoad o.op = false → ∀ s : Sem Value, Yields0 P cx w tab L nx K s → (∀ w', (execOp ρ o).run P w' = (s.run P w').andThen fun v w'' => .ok (.value v) w'') → ∃ v av, K av ∧ RVx cx w tab L v av ∧ av.lt nx ∧ (∀ w', Below w.heap.size w w' → (execOp ρ o).run P w' = .ok (.value v) w') ∧ (isLoad o.op = false → ∀ w', (execOp ρ o).run P w' = .ok (.value v) w') ∧ (∀ t x, o.op = .load t x → ∃ b, vblk (ρ x) = some b ∧ ∀ w', SameB b w w' → (execOp ρ o).run P w' = .ok (.value v) w') := by
    rintro hl s ⟨v, av, h1, h2, h3, h4⟩ hs
    exact mk hl v av h1 h2 h3 fun w' => (by rw [hs, h4 w']; rfl)
  obtain ⟨dst, op, ty, pos, aft, gd⟩ := o
  simp only at h
  unfold aPure at h
  split at h
  · rename_i x
    exact mk rfl _ _ h (he x).1 (he x).2 fun w' => by simp [execOp]
  · rename_i x
    exact mk rfl _ _ h (he x).1 (he x).2 fun w' => by simp [execOp]
  · rename_i c a b
    have hc := (he c).1
    unfold aPick at h
    split at h
    · rename_i t hcv
      rw [hcv] at hc
      have hc := hc.c_inv
      cases t
      · exact mk rfl _ _ h (he b).1 (he b).2 fun w' => by simp [execOp, hc, asBool]
      · exact mk rfl _ _ h (he a).1 (he a).2 fun w' => by simp [execOp, hc, asBool]
    · exact h.elim
  · rename_i t x
    obtain ⟨u, av, h1, h2, h3, b, hb, h4⟩ := load_ok hL hy (he x).1 h
    have h5 : ∀ w', SameB b w w' → (execOp ρ { dst := dst, op := .load t x, type := ty, pos := pos, after := aft, guard := gd }).run P w' = .ok (.value u) w' := fun w' hw' => by simp [execOp, Sem.run_bind, h4 w' hw']
    refine ⟨u, av, h1, h2, h3, fun w' hw' => h5 w' fun o v hv => (hw'.cell (World.block_lt_of_cell? w _ hv)).trans hv, fun h0 => (by cases h0), fun t' x' he' => ?_⟩
    cases he'
    exact ⟨b, hb, h5⟩
  · rename_i s x f
    exact lift0 rfl _ (field_ok (he x).2 (he x).1 h) fun w' => by simp [execOp, Sem.run_bind]
  · rename_i t x ix
    exact lift0 rfl _ (index_ok hL (he x).2 (he x).1 (he ix).1 h) fun w' => by simp [execOp, Sem.run_bind]
  · rename_i s x f
    exact lift0 rfl _ (fieldV_ok (he x).2 (he x).1 h) fun w' => by simp [execOp, Sem.run_bind]
  · rename_i op t x y _
    have hx := (he x).1
    have hy := (he y).1
    unfold aBin at h
    split at h
    · rename_i a b ha hb
      rw [ha] at hx
      rw [hb] at hy
      have hx := hx.c_inv
      have hy := hy.c_inv
      split at h
      · rename_i v hv
        refine lift0 rfl _ ⟨v, _, h, .tree (.c v), trivial, fun w' => bin2_run (x := x) (y := y) hv w'⟩ fun w' => ?_
        simp [execOp, Sem.run_bind, hx, hy]
        cases (Sem.run P (eqGuard op t x y a b) w') <;> rfl
      · exact h.elim
    · rename_i xs ys ha hb
      rw [ha] at hx
      rw [hb] at hy
      obtain ⟨as1, hx, hnx, hrx⟩ := hx.agg_inv
      obtain ⟨bs1, hy, hny, hry⟩ := hy.agg_inv
      unfold aBinS at h
      split at h
      · rename_i vs us hvs hus
        obtain rfl := allC_val hvs hnx hrx
        obtain rfl := allC_val hus hny hry
        obtain ⟨r, hr, h⟩ := h
        refine lift0 rfl _ ⟨r, _, h, .tree (.c r), trivial, fun w' => hr w' x y⟩ fun w' => ?_
        simp [execOp, Sem.run_bind, hx, hy]
        cases (Sem.run P (eqGuard op t x y (.agg vs.toArray) (.agg us.toArray)) w') <;> rfl
      · exact h.elim
    · rename_i sz rows b ha hb
      rw [ha] at hx
      rw [hb] at hy
      have hy := hy.c_inv
      obtain ⟨A, cap, hA, hc1, hc2, hc3, hc4⟩ := hx.sl_inv.sl_inv
      have hnil : A.isNone = true → rows = [] := fun h1 => by
        rcases Nat.eq_zero_or_pos rows.length with h2 | h2
        · exact List.length_eq_zero_iff.1 h2
        · obtain ⟨b', o', h3, _⟩ := hc4 h2
          rw [h3] at h1
          cases h1
      unfold aNilS at h
      split at h
      · have hk : tyK P t = .slice := by assumption
        have h := h A.isNone hnil
        refine lift0 rfl _ ⟨_, _, h, .tree (.c _), trivial, fun w' => run_nilS (x := x) (y := y) (A := A) (n := rows.length) (c := cap) (n' := 0) (c' := 0) hk (.inl rfl) w'⟩ fun w' => ?_
        simp [execOp, Sem.run_bind, hA, hy]
        cases (Sem.run P (eqGuard _ t x y (.slice A rows.length cap) (.slice none 0 0)) w') <;> rfl
      · have hk : tyK P t = .slice := by assumption
        have h := h (!A.isNone) (fun h1 => hnil (by simpa using h1))
        refine lift0 rfl _ ⟨_, _, h, .tree (.c _), trivial, fun w' => run_nilS (x := x) (y := y) (A := A) (n := rows.length) (c := cap) (n' := 0) (c' := 0) hk (.inr rfl) w'⟩ fun w' => ?_
        simp [execOp, Sem.run_bind, hA, hy]
        cases (Sem.run P (eqGuard _ t x y (.slice A rows.length cap) (.slice none 0 0)) w') <;> rfl
      · exact h.elim
    · exact h.elim
  · rename_i op t x
    have hx := (he x).1
    unfold aUn at h
    split at h
    · rename_i a ha
      rw [ha] at hx
      have hx := hx.c_inv
      split at h
      · rename_i v hv
        exact lift0 rfl _ ⟨v, _, h, .tree (.c v), trivial, fun w' => un1_run hv w'⟩ fun w' => by simp [execOp, Sem.run_bind, hx]
      · exact h.elim
    · exact h.elim
  · rename_i x i
    have hx := (he x).1
    have hl := (he x).2
    unfold aExtract at h
    split at h
    · rename_i vs hvs
      rw [hvs] at hx hl
      obtain ⟨xs, hxe, hn, hr⟩ := hx.tup_inv
      obtain ⟨hi, h⟩ := h
      rw [List.getElem?_eq_getElem hi, Option.getD_some] at h
      have hi' : i < xs.size := by omega
      exact mk rfl xs[i] _ h (hr i _ _ (Array.getElem?_eq_getElem hi') (List.getElem?_eq_getElem hi)) (ltL_iff.1 hl _ (List.getElem_mem hi)) fun w' => by simp [execOp, Sem.run_bind, hxe, Instr.extract, Array.getElem?_eq_getElem hi']
    · exact h.elim
  · rename_i s d x
    have hx := (he x).1
    unfold aConv at h
    split at h
    · rename_i k0 k k1 n hs hd hxe
      rw [hxe] at hx
      have hx := hx.c_inv
      have e1 : P.underlying s = some (.int k0) := by
        unfold tyInt at hs
        split at hs <;> simp_all
      have e2 : P.underlying d = some (.int k) := by
        unfold tyInt at hd
        split at hd <;> simp_all
      refine lift0 rfl _ ⟨_, _, h, .tree (.c _), trivial, fun w' => ?_⟩ fun w' => by simp [execOp, Sem.run_bind]; rfl
      rw [hx]
      simp [convert, Sem.run_bind, run_underlying e1, run_underlying e2, Conv.intToInt]
    · exact h.elim
  · rename_i c
    obtain ⟨callee, args, argTypes⟩ := c
    simp only at h
    split at h
    · split at h
      · rename_i x t h1 h2
        obtain rfl : args = #[x] := by cases args; simp_all
        obtain rfl : argTypes = #[t] := by cases argTypes; simp_all
        exact lift0 rfl _ (len_ok (ty := ty) hL (he x).1 h) fun w' => by simp [execOp, Sem.run_bind, resolve, invoke, builtin]
      · exact h.elim
    · obtain ⟨x, y, k, a, k', b, rfl, h1, h2, h3⟩ := mm_args h
      have hx := (he x).1
      have hy := (he y).1
      rw [h1] at hx
      rw [h2] at hy
      have hx := hx.c_inv
      have hy := hy.c_inv
      refine lift0 rfl (pure (.int k (max a b))) ⟨_, _, h3, .tree (.c _), trivial, fun w' => rfl⟩ fun w' => ?_
      have hm : (if b > a then b else a) = max a b := by rw [Int.max_def]; split <;> split <;> omega
      simp [execOp, Sem.run_bind, resolve, invoke, builtin, Builtin.max_, Builtin.max2, hx, hy, hm]
    · obtain ⟨x, y, k, a, k', b, rfl, h1, h2, h3⟩ := mm_args h
      have hx := (he x).1
      have hy := (he y).1
      rw [h1] at hx
      rw [h2] at hy
      have hx := hx.c_inv
      have hy := hy.c_inv
      refine lift0 rfl (pure (.int k (min a b))) ⟨_, _, h3, .tree (.c _), trivial, fun w' => rfl⟩ fun w' => ?_
      have hm : (if b < a then b else a) = min a b := by rw [Int.min_def]; split <;> split <;> omega
      simp [execOp, Sem.run_bind, resolve, invoke, builtin, Builtin.min_, Builtin.min2, hx, hy, hm]
    · exact h.elim
  · rename_i f first caps
    unfold aClo at h
    split at h
    · rename_i g hb
      obtain rfl : first = #[] := by simpa using hb
      refine mk rfl (.func (.func g) #[] (caps.map ρ)) _ h (.fn g _ _ (by simp) fun j x av h1 h2 => ?_) (ltL_iff.2 fun a ha => ?_) fun w' => by simp [execOp, Sem.run_bind, Instr.makeFunc]
      · rw [List.getElem?_map] at h2
        rw [Array.getElem?_map] at h1
        cases hj : caps[j]? with
        | none => simp [hj] at h1
        | some x =>
          rw [Array.getElem?_toList] at h2
          simp [hj] at h1 h2
          subst h1
          subst h2
          exact (he x).1
      · obtain ⟨x, _, rfl⟩ := List.mem_map.1 ha
        exact (he x).2
    · exact h.elim
  · rename_i t x lo hi mx
    exact lift0 rfl _ (slice_ok (fun x => (he x).1) (he x).1 h) fun w' => by simp [execOp, Sem.run_bind]
  · exact h.elim
end
end Go.Proofs.Ytfocnmkbnccilaa
