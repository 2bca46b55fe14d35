/-
  Parts of the proof: AlV, AlW, AlM, AlN, AlTy, EvSpec, Rep, EvRep, Mod, EvA, Bits, C1.
-/
import Derived.Test.YtmochnclbcbijaaGreatSpk4
import Derived.Test.YtmochnclbcbijaaGreatProg
import Derived.WalkKit
import Derived.WalkLawsBesides
import Derived.ProofKit
import Derived.OpenShut
import Derived.Deep.Slices
import Derived.BigQuiet
import Derived.Deep.QuietTactic
set_option linter.unusedVariables false
set_option linter.unusedSimpArgs false
namespace Go.Proofs.YtmochnclbcbijaaGreat
section
open Go.RowKit

/-- what has been handed on, and whether more is wanted -/
abbrev IG := List (List AV) × Bool
def iK (K : IG → ASt → Prop) (g : IG) (st : ASt) : Prop := K g st
/-- a struct's parts may be handed on, if they are read only -/
def treeA : AV → Prop
  | .agg cs => treeL cs
  | av => treeC av
def treeAL : List AV → Prop
  | [] => True
  | a :: l => treeA a ∧ treeAL l
theorem treeAL_mem : ∀ {l : List AV}, treeAL l → ∀ a ∈ l, treeA a
  | a :: l, h, b, hb => by
    rcases List.mem_cons.1 hb with rfl | hb
    · exact h.1
    · exact treeAL_mem h.2 b hb
theorem tree_ofA {cx : Cx} {w : World} {tab : ATab} {L : Nat → Value} {x : Value} {av : AV} (h : RVx cx w tab L x av) (ht : treeA av) : RT w (Sx cx w tab L) x av := by
  cases av with
  | agg cs =>
    obtain ⟨xs, rfl, hn, hr⟩ := h.agg_inv
    exact .agg xs cs hn fun j x av h1 h2 => tree_of (hr j x av h1 h2) (treeL_iff.1 ht av (List.mem_of_getElem? h2))
  | _ => exact tree_of h ht
def iYield (xs : List (List AV)) (x : List AV) (dst : Option Nat) (K : IG → ASt → Prop) (g : IG) (st : ASt) : Prop :=
  (g.2 = true ∧ treeAL x ∧ (g.1 ++ [x]) <+: xs) ∧ K (g.1 ++ [x], true) (st.put dst (.c (.bool true))) ∧ K (g.1 ++ [x], false) (st.put dst (.c (.bool false)))
def iCallV (P : Program) (l : Nat) (xs : List (List AV)) (f : AV) (o : Oper) (args : List AV) (K : IG → ASt → Prop) (g : IG) (st : ASt) : Prop :=
  match f with
  | .c (.func (.yield l') first caps) => (l' = l ∧ first = #[] ∧ caps = #[]) ∧ iYield xs args o.dst K g st
  | _ => aOp P o (iK K g) st
def iOp (P : Program) (l : Nat) (xs : List (List AV)) (o : Oper) (K : IG → ASt → Prop) (g : IG) (st : ASt) : Prop :=
  match o.op with
  | .call c => match c.callee with
    | .value f => iCallV P l xs (aEv st f) o (c.args.toList.map (aEv st)) K g st
    | _ => aOp P o (iK K g) st
  | _ => aOp P o (iK K g) st
def iOps (P : Program) (l : Nat) (xs : List (List AV)) (ops : Array Oper) (K : IG → ASt → Prop) : List Oper → IG → ASt → Prop
  | [], g, st => K g st
  | o :: rest, g, st => aGuard ops o.guard (iOp P l xs o (iOps P l xs ops K rest) g) (aSkip o.dst (iOps P l xs ops K rest g)) st
def iThen (next : IG → ASt → Prop) (Q : Exit → IG → ASt → Prop) : Exit → IG → ASt → Prop
  | .normal, g, st => next g st
  | e, g, st => Q e g st
def iInBlock (id : Nat) (Q : Exit → IG → ASt → Prop) : Exit → IG → ASt → Prop
  | .exit id', g, st => if id' = id then Q .normal g st else Q (.exit id') g st
  | e, g, st => Q e g st
def iRound (I : IG → ASt → Prop) (μ : IG → ASt → Nat) (n : Nat) (g : IG) (st : ASt) : Prop := ∃ st', Weak st st' ∧ I g st' ∧ μ g st' < n
def iCode (P : Program) (l : Nat) (xs : List (List AV)) : Code → (Exit → IG → ASt → Prop) → IG → ASt → Prop
  | .skip, Q, g, st => Q .normal g st
  | .region _ ops _, Q, g, st => iOps P l xs ops (Q .normal) ops.toList g st
  | .seq x y, Q, g, st => iCode P l xs x (iThen (iCode P l xs y Q) Q) g st
  | .cond c x y, Q, g, st => aCond (aEv st c) (iCode P l xs x Q g) (iCode P l xs y Q g) st
  | .block id x, Q, g, st => iCode P l xs x (iInBlock id Q) g st
  | .loop x, Q, g, st => ∃ (I : IG → ASt → Prop) (μ : IG → ASt → Nat), (∃ st', Weak st st' ∧ I g st') ∧ ∀ g st, I g st → iCode P l xs x (iThen (iRound I μ (μ g st)) Q) g st
  | .exit id, Q, g, st => Q (.exit id) g st
  | .ret, Q, g, st => Q .ret g st
  | _, _, _, _ => False
def iLoop (P : Program) (l : Nat) (xs : List (List AV)) (x : Code) (Q : Exit → IG → ASt → Prop) (g : IG) (st : ASt) : Prop := iCode P l xs (.loop x) Q g st
theorem iLoop_of {P : Program} {l : Nat} {xs : List (List AV)} {x : Code} {Q : Exit → IG → ASt → Prop} {g : IG} {st : ASt} (I : IG → ASt → Prop) (μ : IG → ASt → Nat) (h0 : ∃ st', Weak st st' ∧ I g st') (h : ∀ g st, I g st → iCode P l xs x (iThen (iRound I μ (μ g st)) Q) g st) : iLoop P l xs x Q g st := ⟨I, μ, h0, h⟩
theorem iRoundI {I : IG → ASt → Prop} {μ : IG → ASt → Nat} {n : Nat} {g : IG} {st st' : ASt} (hw : Weak st st') (hI : I g st') (hm : μ g st' < n) : iRound I μ n g st := ⟨st', hw, hI, hm⟩
section
variable {P : Program} {l : Nat} {xs : List (List AV)} {Q : Exit → IG → ASt → Prop} {g : IG} {st : ASt} {K : IG → ASt → Prop} {ops : Array Oper} {dst : Option Tmp} {op : Op} {ty : TypeId} {pos : String} {aft : Array Edge} {gd : Option (Nat × Bool)} {rest : List Oper}
theorem iCode_skip : iCode P l xs .skip Q g st = Q .normal g st := rfl
theorem iCode_reg {id : Nat} {o : List Oper} {b : Bool} : iCode P l xs (.region id o.toArray b) Q g st = iOps P l xs o.toArray (Q .normal) o g st := rfl
theorem iCode_seq {x y : Code} : iCode P l xs (.seq x y) Q g st = iCode P l xs x (iThen (iCode P l xs y Q) Q) g st := rfl
theorem iCode_cond {c : Operand} {x y : Code} : iCode P l xs (.cond c x y) Q g st = aCond (aEv st c) (iCode P l xs x Q g) (iCode P l xs y Q g) st := rfl
theorem iCode_block {id : Nat} {x : Code} : iCode P l xs (.block id x) Q g st = iCode P l xs x (iInBlock id Q) g st := rfl
theorem iCode_loop {x : Code} : iCode P l xs (.loop x) Q g st = iLoop P l xs x Q g st := rfl
theorem iCode_exit {id : Nat} : iCode P l xs (.exit id) Q g st = Q (.exit id) g st := rfl
theorem iCode_ret : iCode P l xs .ret Q g st = Q .ret g st := rfl
theorem iThen_normal {next : IG → ASt → Prop} : iThen next Q .normal g st = next g st := rfl
theorem iThen_exit {next : IG → ASt → Prop} {id : Nat} : iThen next Q (.exit id) g st = Q (.exit id) g st := rfl
theorem iThen_ret {next : IG → ASt → Prop} : iThen next Q .ret g st = Q .ret g st := rfl
theorem iInBlock_normal {id : Nat} : iInBlock id Q .normal g st = Q .normal g st := rfl
theorem iInBlock_ret {id : Nat} : iInBlock id Q .ret g st = Q .ret g st := rfl
theorem iInBlock_exit {id id' : Nat} : iInBlock id Q (.exit id') g st = if id' = id then Q .normal g st else Q (.exit id') g st := rfl
theorem iOps_nil : iOps P l xs ops K [] g st = K g st := rfl
theorem iOps_plain : iOps P l xs ops K (⟨dst, op, ty, pos, aft, none⟩ :: rest) g st = iOp P l xs ⟨dst, op, ty, pos, aft, none⟩ (iOps P l xs ops K rest) g st := rfl
theorem iOps_guard {j : Nat} {want : Bool} : iOps P l xs ops K (⟨dst, op, ty, pos, aft, some (j, want)⟩ :: rest) g st = aGuardD ((ops[j]?).bind (·.dst)) want (iOp P l xs ⟨dst, op, ty, pos, aft, some (j, want)⟩ (iOps P l xs ops K rest) g) (aSkip dst (iOps P l xs ops K rest g)) st := rfl
theorem iOp_move {x : Operand} : iOp P l xs ⟨dst, .move x, ty, pos, aft, gd⟩ K g st = aOp P ⟨dst, .move x, ty, pos, aft, gd⟩ (iK K g) st := rfl
theorem iOp_assign {x : Operand} : iOp P l xs ⟨dst, .assign x, ty, pos, aft, gd⟩ K g st = aOp P ⟨dst, .assign x, ty, pos, aft, gd⟩ (iK K g) st := rfl
theorem iOp_pick {c x y : Operand} : iOp P l xs ⟨dst, .pick c x y, ty, pos, aft, gd⟩ K g st = aOp P ⟨dst, .pick c x y, ty, pos, aft, gd⟩ (iK K g) st := rfl
theorem iOp_load {t : TypeId} {x : Operand} : iOp P l xs ⟨dst, .load t x, ty, pos, aft, gd⟩ K g st = aOp P ⟨dst, .load t x, ty, pos, aft, gd⟩ (iK K g) st := rfl
theorem iOp_field {t : TypeId} {x : Operand} {f : Nat} : iOp P l xs ⟨dst, .fieldAddr t x f, ty, pos, aft, gd⟩ K g st = aOp P ⟨dst, .fieldAddr t x f, ty, pos, aft, gd⟩ (iK K g) st := rfl
theorem iOp_index {t : TypeId} {x i : Operand} : iOp P l xs ⟨dst, .indexAddr t x i, ty, pos, aft, gd⟩ K g st = aOp P ⟨dst, .indexAddr t x i, ty, pos, aft, gd⟩ (iK K g) st := rfl
theorem iOp_fieldV {t : TypeId} {x : Operand} {f : Nat} : iOp P l xs ⟨dst, .field t x f, ty, pos, aft, gd⟩ K g st = aOp P ⟨dst, .field t x f, ty, pos, aft, gd⟩ (iK K g) st := rfl
theorem iOp_bin {o : BinOp} {t t2 : TypeId} {x y : Operand} : iOp P l xs ⟨dst, .binOp o t x y t2, ty, pos, aft, gd⟩ K g st = aOp P ⟨dst, .binOp o t x y t2, ty, pos, aft, gd⟩ (iK K g) st := rfl
theorem iOp_un {o : UnOp} {t : TypeId} {x : Operand} : iOp P l xs ⟨dst, .unOp o t x, ty, pos, aft, gd⟩ K g st = aOp P ⟨dst, .unOp o t x, ty, pos, aft, gd⟩ (iK K g) st := rfl
theorem iOp_extract {x : Operand} {i : Nat} : iOp P l xs ⟨dst, .extract x i, ty, pos, aft, gd⟩ K g st = aOp P ⟨dst, .extract x i, ty, pos, aft, gd⟩ (iK K g) st := rfl
theorem iOp_conv {s d : TypeId} {x : Operand} : iOp P l xs ⟨dst, .convert s d x, ty, pos, aft, gd⟩ K g st = aOp P ⟨dst, .convert s d x, ty, pos, aft, gd⟩ (iK K g) st := rfl
theorem iOp_box {t : TypeId} {x : Operand} : iOp P l xs ⟨dst, .box t x, ty, pos, aft, gd⟩ K g st = aOp P ⟨dst, .box t x, ty, pos, aft, gd⟩ (iK K g) st := rfl
theorem iOp_alloc {t : TypeId} : iOp P l xs ⟨dst, .alloc t, ty, pos, aft, gd⟩ K g st = aOp P ⟨dst, .alloc t, ty, pos, aft, gd⟩ (iK K g) st := rfl
theorem iOp_store {t : TypeId} {p x : Operand} : iOp P l xs ⟨dst, .store t p x, ty, pos, aft, gd⟩ K g st = aOp P ⟨dst, .store t p x, ty, pos, aft, gd⟩ (iK K g) st := rfl
theorem iOp_build {t : TypeId} {parts : Array (Nat × Operand)} : iOp P l xs ⟨dst, .build t parts, ty, pos, aft, gd⟩ K g st = aOp P ⟨dst, .build t parts, ty, pos, aft, gd⟩ (iK K g) st := rfl
theorem iOp_slice {t : TypeId} {x : Operand} {lo hi mx : Option Operand} : iOp P l xs ⟨dst, .slice t x lo hi mx, ty, pos, aft, gd⟩ K g st = aOp P ⟨dst, .slice t x lo hi mx, ty, pos, aft, gd⟩ (iK K g) st := rfl
theorem iOp_len {x : Operand} {t : TypeId} : iOp P l xs ⟨dst, .call ⟨.builtin .len, #[x], #[t]⟩, ty, pos, aft, gd⟩ K g st = aOp P ⟨dst, .call ⟨.builtin .len, #[x], #[t]⟩, ty, pos, aft, gd⟩ (iK K g) st := rfl
theorem iOp_call {f : Operand} {args : List Operand} {ts : Array TypeId} : iOp P l xs ⟨dst, .call ⟨.value f, args.toArray, ts⟩, ty, pos, aft, gd⟩ K g st = iCallV P l xs (aEv st f) ⟨dst, .call ⟨.value f, args.toArray, ts⟩, ty, pos, aft, gd⟩ (args.map (aEv st)) K g st := by simp [iOp]
theorem iCallV_yield {o : Oper} {args : List AV} : iCallV P l xs (.c (.func (.yield l) #[] #[])) o args K g st = iYield xs args o.dst K g st := by simp [iCallV]
theorem iCallV_func {f : FuncId} {o : Oper} {args : List AV} : iCallV P l xs (.c (.func (.func f) #[] #[])) o args K g st = aOp P o (iK K g) st := rfl
theorem iK_eq : iK K g st = K g st := rfl
end
theorem ruI : type_of% (And.intro (And.intro (And.intro (And.intro (And.intro @iCode_skip @iCode_reg) (And.intro @iCode_seq @iCode_cond)) (And.intro (And.intro @iCode_block @iCode_loop) (And.intro @iCode_exit (And.intro @iCode_ret @iThen_normal)))) (And.intro (And.intro (And.intro @iThen_exit @iThen_ret) (And.intro @iInBlock_normal @iInBlock_ret)) (And.intro (And.intro @iInBlock_exit @iOps_nil) (And.intro (And.intro @iOps_plain @iOps_guard) (And.intro @iOp_move @iOp_assign))))) (And.intro (And.intro (And.intro (And.intro @iOp_pick @iOp_load) (And.intro @iOp_field @iOp_index)) (And.intro (And.intro @iOp_fieldV @iOp_bin) (And.intro @iOp_un (And.intro @iOp_extract @iOp_conv)))) (And.intro (And.intro (And.intro @iOp_box @iOp_alloc) (And.intro @iOp_store (And.intro @iOp_build @iOp_slice))) (And.intro (And.intro @iOp_len @iOp_call) (And.intro @iCallV_yield (And.intro @iCallV_func @iK_eq)))))) :=
  (And.intro (And.intro (And.intro (And.intro (And.intro @iCode_skip @iCode_reg) (And.intro @iCode_seq @iCode_cond)) (And.intro (And.intro @iCode_block @iCode_loop) (And.intro @iCode_exit (And.intro @iCode_ret @iThen_normal)))) (And.intro (And.intro (And.intro @iThen_exit @iThen_ret) (And.intro @iInBlock_normal @iInBlock_ret)) (And.intro (And.intro @iInBlock_exit @iOps_nil) (And.intro (And.intro @iOps_plain @iOps_guard) (And.intro @iOp_move @iOp_assign))))) (And.intro (And.intro (And.intro (And.intro @iOp_pick @iOp_load) (And.intro @iOp_field @iOp_index)) (And.intro (And.intro @iOp_fieldV @iOp_bin) (And.intro @iOp_un (And.intro @iOp_extract @iOp_conv)))) (And.intro (And.intro (And.intro @iOp_box @iOp_alloc) (And.intro @iOp_store (And.intro @iOp_build @iOp_slice))) (And.intro (And.intro @iOp_len @iOp_call) (And.intro @iCallV_yield (And.intro @iCallV_func @iK_eq))))))

/-! ### it is so -/
/-- what the caller has given -/
structure IHyp (P : Program) (l : Nat) (xs : List (List AV)) (J Jx : List (List AV) → (Nat → Prop) → (Nat → Prop) → World → Prop) : Prop where
  keep : ∀ pre T M M' W W', J pre T M W → BelowX M W.heap.size W W' → (∀ b, M' b → M b ∨ (W.heap.size ≤ b ∧ b < W'.heap.size)) → J pre (grow T W W') M' W'
  keepx : ∀ pre T M M' W W', Jx pre T M W → BelowX M W.heap.size W W' → (∀ b, M' b → M b ∨ (W.heap.size ≤ b ∧ b < W'.heap.size)) → Jx pre (grow T W W') M' W'
  round : ∀ pre x T M W (vs : Array Value), J pre T M W → (pre ++ [x]) <+: xs → vs.size = x.length → (∀ (j : Nat) (v : Value) (av : AV), vs[j]? = some v → x[j]? = some av → RT W (fun b => T b ∧ ¬ M b) v av) →
      YieldAt Fence.wide 0 P l vs W fun e W' => (e = .returned (.bool true) ∧ J (pre ++ [x]) T M W' ∧ Kept T W W') ∨ (e = .returned (.bool false) ∧ Jx (pre ++ [x]) T M W' ∧ Kept T W W')
def JJ (J Jx : List (List AV) → (Nat → Prop) → (Nat → Prop) → World → Prop) (g : IG) (T M : Nat → Prop) (W : World) : Prop := match g.2 with | true => J g.1 T M W | false => Jx g.1 T M W
/-- somebody else's -/
def xOf (T : Nat → Prop) (W : World) (b : Nat) : Prop := b < W.heap.size ∧ ¬ T b
/-- what the iterator is not to touch begins behind the program's own variables -/
structure IAmb (T0 : Nat → Prop) (W0 : World) (T : Nat → Prop) : Prop where
  amb : Amb W0
  tab0 : ∀ b, b < ambD → T0 b
  tab : ∀ b, b < ambD → T b
def cxI (T0 : Nat → Prop) (W0 : World) (T : Nat → Prop) (W : World) (hq : IAmb T0 W0 T) : Cx := ⟨T0, W0, xOf T W, hq.amb, fun b hb => Nat.le_of_not_lt fun h => hb.2 (hq.tab b h), hq.tab0⟩
def ownB (tab : ATab) (L : Nat → Value) (b : Nat) : Prop := ∃ id o, tab.get id = some o ∧ vblk (L id) = some b
def ISt (T0 : Nat → Prop) (W0 : World) (J Jx : List (List AV) → (Nat → Prop) → (Nat → Prop) → World → Prop) (g : IG) (st : ASt) (a : Act) (W : World) : Prop :=
  ∃ (T : Nat → Prop) (hqq : IAmb T0 W0 T) (L : Nat → Value), Conc (cxI T0 W0 T W hqq) a W st L ∧ a.defers = [] ∧ (∀ b, T b → b < W.heap.size) ∧ JJ J Jx g T (ownB st.tab L) W
section
variable {P : Program} {l : Nat} {xs : List (List AV)} {T0 : Nat → Prop} {W0 : World} {J Jx : List (List AV) → (Nat → Prop) → (Nat → Prop) → World → Prop} {g : IG} {st st' : ASt} {a a' : Act} {W W' : World} {L L' : Nat → Value} {T M M' : Nat → Prop}
theorem xOf_grow (hs : W.heap.size ≤ W'.heap.size) : xOf (grow T W W') W' = xOf T W := by
  funext b
  apply propext
  unfold xOf grow
  constructor
  · rintro ⟨h1, h2⟩
    exact ⟨Nat.lt_of_not_le fun h => h2 (.inr ⟨h, h1⟩), fun h => h2 (.inl h)⟩
  · rintro ⟨h1, h2⟩
    refine ⟨by omega, fun h => ?_⟩
    rcases h with h | h
    · exact h2 h
    · omega
theorem IAmb.grow (hq : IAmb T0 W0 T) : IAmb T0 W0 (grow T W W') := ⟨hq.amb, hq.tab0, fun b hb => .inl (hq.tab b hb)⟩
theorem cxI_grow (hq : IAmb T0 W0 T) (hs : W.heap.size ≤ W'.heap.size) : cxI T0 W0 (grow T W W') W' hq.grow = cxI T0 W0 T W hq := by
  unfold cxI
  congr 1
  exact xOf_grow hs
theorem grow_self : grow T W W = T := by
  funext b
  apply propext
  unfold grow
  constructor
  · rintro (h | h)
    · exact h
    · omega
  · exact .inl
theorem jj_keep (H : IHyp P l xs J Jx) (h : JJ J Jx g T M W) (hb : BelowX M W.heap.size W W') (hM : ∀ b, M' b → M b ∨ (W.heap.size ≤ b ∧ b < W'.heap.size)) : JJ J Jx g (grow T W W') M' W' := by
  obtain ⟨pre, b⟩ := g
  cases b
  · exact H.keepx _ _ _ _ _ _ h hb hM
  · exact H.keep _ _ _ _ _ _ h hb hM
/-- what the iterator may read or write is T -/
theorem in_T {hqq : IAmb T0 W0 T} (h : Conc (cxI T0 W0 T W hqq) a W st L) {b : Nat} (hs : Sx (cxI T0 W0 T W hqq) W st.tab L b) : T b ∧ ¬ ownB st.tab L b :=
  ⟨Classical.byContradiction fun hn => hs.2.1.2 ⟨hs.1, hn⟩, fun ⟨id, o, h1, h2⟩ => hs.2.2 id o h1 h2⟩
theorem own_T {hqq : IAmb T0 W0 T} (h : Conc (cxI T0 W0 T W hqq) a W st L) {id : Nat} {o : AObj} {b : Nat} (h1 : st.tab.get id = some o) (h2 : vblk (L id) = some b) : T b :=
  Classical.byContradiction fun hn => (h.lay.ex b ⟨((h.lay.objs id o h1).ge h2).2, hn⟩).2 id o h1 h2
theorem conc_kept {hqq : IAmb T0 W0 T} (h : Conc (cxI T0 W0 T W hqq) a W st L) (hk : Kept T W W') : Conc (cxI T0 W0 T W' hqq) a W' st L := by
  have hW : BelowX (xOf T W) W0.heap.size W0 W := h.lay.below
  refine conc_move h rfl (fun b hs => hk.block b (in_T h hs).1) (fun id o g h1 h2 => hk.block g (own_T h h1 h2)) (fun b hs => ⟨Nat.lt_of_lt_of_le hs.1 hk.size, ⟨hs.2.1.1, fun hx => hx.2 (in_T h hs).1⟩, hs.2.2⟩) ?_ (fun b hx => ⟨hx.1, fun id o h1 h2 => hx.2 (own_T h h1 h2)⟩)
  refine ⟨hk.os.trans hW.os, hk.tape.trans hW.tape, hk.output.trans hW.output, Nat.le_trans hW.size hk.size, fun k (hk' : k < W0.heap.size) hx => ?_⟩
  have hT : T k := Classical.byContradiction fun hn => hx ⟨Nat.lt_of_lt_of_le hk' (Nat.le_trans hW.size hk.size), hn⟩
  exact (hk.block k hT).trans (hW.block k hk' fun hx' => hx'.2 hT)
theorem wpIn_of_wp0 {o : Oper} {next : Act → World → Prop} {Q : Exit → Act → World → Prop} (h : o.wp P a W next Q) : o.wpIn Fence.wide 0 P a W next Q := by
  refine ⟨fun _ _ => trivial, ?_⟩
  show o.uponIn Fence.wide 0 P a next Q ((execOp a.eval o).run P W)
  unfold Oper.wp at h
  generalize (execOp a.eval o).run P W = r at h
  cases r with
  | ok x w1 =>
    cases x with
    | value v => exact h
    | skip => exact h
    | defer d => exact h
    | enter f args => exact ⟨fun h => (by cases h), callsIn_wide.2 h⟩
    | row row args =>
      refine ⟨fun h => (by cases h), fun c cs _ => ?_⟩
      obtain ⟨v, w', h1, h2⟩ := h c cs
      exact ⟨v, w', h1, stepsIn_wide.2 h2⟩
    | _ => exact h.elim
  | halt x w1 =>
    cases x <;> first | exact h | exact h.elim
theorem iop_ok (H : IHyp P l xs J Jx) {o : Oper} {K : IG → ASt → Prop} {Q : Exit → Act → World → Prop} (hf : fOp o = true) (h : ISt T0 W0 J Jx g st a W) (hp : iOp P l xs o K g st) :
    o.wpIn Fence.wide 0 P a W (fun a' W' => ∃ g' st', K g' st' ∧ ISt T0 W0 J Jx g' st' a' W') Q := by
  obtain ⟨T, hqq, L, hC, hd, hT, hJ⟩ := h
  have plain : aOp P o (iK K g) st → o.wpIn Fence.wide 0 P a W (fun a' W' => ∃ g' st', K g' st' ∧ ISt T0 W0 J Jx g' st' a' W') Q := fun hp => by
    refine wpIn_of_wp0 (Oper.wp_mono (fun a' W' ⟨st', L', h2, h3, h4, h5⟩ => ?_) (op_okF hC hp hf))
    have hW : BelowX (xOf T W) W0.heap.size W0 W := hC.lay.below
    have hW' : BelowX (xOf T W) W0.heap.size W0 W' := h3.lay.below
    refine ⟨g, st', h2, grow T W W', hqq.grow, L', by rw [cxI_grow hqq h4.size]; exact h3, h5.trans hd, fun b hb' => ?_, jj_keep H hJ ⟨hW'.os.trans hW.os.symm, hW'.tape.trans hW.tape.symm, hW'.output.trans hW.output.symm, h4.size, fun k hk hn => h4.keep k hk fun id o h6 h7 => hn ⟨id, o, h6, h7⟩⟩ fun b hb' => ?_⟩
    · rcases hb' with hb' | hb'
      · exact Nat.lt_of_lt_of_le (hT b hb') h4.size
      · exact hb'.2
    · obtain ⟨id, o, h6, h7⟩ := hb'
      rcases Nat.lt_or_ge b W.heap.size with hlt | hge
      · obtain ⟨id2, o2, h8, h9⟩ := h4.young id o b h6 h7 hlt
        exact .inl ⟨id2, o2, h8, h9⟩
      · exact .inr ⟨hge, ((h3.lay.objs id o h6).ge h7).2⟩
  obtain ⟨dst, op, ty, pos, aft, gd⟩ := o
  unfold iOp at hp
  simp only at hp
  split at hp
  · rename_i c
    obtain ⟨callee, args, argTypes⟩ := c
    simp only at hp
    split at hp
    · rename_i f
      unfold iCallV at hp
      split at hp
      · rename_i l' first caps hfv
        obtain ⟨⟨rfl, rfl, rfl⟩, ⟨h1, h2, h3⟩, h4, h5⟩ := hp
        have hfe := (eval_ok hC f).1
        rw [hfv] at hfe
        have hfe := hfe.c_inv
        have hJ' : J g.1 T (ownB st.tab L) W := by
          unfold JJ at hJ
          rw [h1] at hJ
          exact hJ
        have hrt : ∀ (j : Nat) (v : Value) (av : AV), (args.map a.eval)[j]? = some v → (args.toList.map (aEv st))[j]? = some av → RT W (fun b => T b ∧ ¬ ownB st.tab L b) v av := fun j v av h6 h7 => by
          rw [Array.getElem?_map] at h6
          rw [List.getElem?_map, Array.getElem?_toList] at h7
          cases hj : args[j]? with
          | none => simp [hj] at h6
          | some x =>
            simp [hj] at h6 h7
            subst h6 h7
            have htr := treeAL_mem h2 (aEv st x) (List.mem_map.2 ⟨x, List.mem_of_getElem? (by rw [Array.getElem?_toList]; exact hj), rfl⟩)
            exact (tree_ofA (eval_ok hC x).1 htr).mono (fun _ _ => rfl) fun b hb => in_T hC hb
        obtain ⟨fn, tmps, assign, body, hy, hR⟩ := H.round g.1 _ T _ W (args.map a.eval) hJ' h3 (by simp) hrt
        refine ⟨fun _ _ => trivial, ?_⟩
        have hrun : (execOp a.eval { dst := dst, op := .call { callee := .value f, args := args, argTypes := argTypes }, type := ty, pos := pos, after := aft, guard := gd }).run P W = .ok (.round l' fn tmps assign body) W := by
          simp [execOp, Sem.run_bind, resolve, hfe, Deferred.ofValue, invoke, hy]
        have hsem : ∀ o : Oper, Oper.semAt Fence.wide.round a.eval o = execOp a.eval o := fun o => Oper.semAt_none _ _
        rw [hsem, hrun, Oper.uponIn_round]
        refine ⟨fun h => (by cases h), hR.mono ?_⟩
        have hput : ∀ b : Bool, ∀ W', Kept T W W' → Conc (cxI T0 W0 T W' hqq) (a.put dst (.bool b)) W' (st.put dst (.c (.bool b))) L ∧ (a.put dst (.bool b)).defers = [] ∧ ∀ x, T x → x < W'.heap.size := fun b W' hk =>
          ⟨conc_pure (conc_kept hC hk) (.tree (.c _)) trivial dst, by rw [put_defers]; exact hd, fun x hx => Nat.lt_of_lt_of_le (hT x hx) hk.size⟩
        rintro e W' (⟨rfl, hj, hk⟩ | ⟨rfl, hj, hk⟩)
        · obtain ⟨c1, c2, c3⟩ := hput true W' hk
          exact ⟨_, _, h4, T, hqq, L, c1, c2, c3, by rw [put_tab]; exact hj⟩
        · obtain ⟨c1, c2, c3⟩ := hput false W' hk
          exact ⟨_, _, h5, T, hqq, L, c1, c2, c3, by rw [put_tab]; exact hj⟩
      · exact plain hp
    · exact plain hp
  · exact plain hp
theorem iops_ok (H : IHyp P l xs J Jx) {ops : Array Oper} {K : IG → ASt → Prop} {Q : Exit → Act → World → Prop} (hQ : ∀ g st a W, K g st → ISt T0 W0 J Jx g st a W → Q .normal a W) :
    ∀ (s : List Oper) (g : IG) (st : ASt) (a : Act) (W : World), (∀ o ∈ s, fOp o = true) → ISt T0 W0 J Jx g st a W → iOps P l xs ops K s g st → wpListIn Fence.wide 0 P ops Q s a W
  | [], g, st, a, W, _, h, hp => hQ g st a W hp h
  | o :: rest, g, st, a, W, hf, h, hp => by
    unfold iOps at hp
    have hfo := hf o (List.mem_cons_self ..)
    obtain ⟨T, hqq, L, hC, hd, hT, hJ⟩ := h
    refine wpListIn_step fun K' hK' => ?_
    rcases guard_ok hC hp o rfl with ⟨hw, st', h1, h2, e1, e2⟩ | ⟨hw, st', h1, h2, e1, e2⟩
    · rw [if_pos hw]
      have hi := iop_ok (Q := Q) H hfo ⟨T, hqq, L, h2, hd, hT, by rw [e1]; exact hJ⟩ h1
      refine ⟨hi.1, ?_⟩
      have := hi.2
      revert this
      generalize (o.semAt Fence.wide.round a.eval).run P W = r
      intro this
      have hm : ∀ a' W', (∃ g' st', iOps P l xs ops K rest g' st' ∧ ISt T0 W0 J Jx g' st' a' W') → K' a' W' := fun a' W' ⟨g', st'', h3, h4⟩ => hK' a' W' (iops_ok H hQ rest g' st'' a' W' (fun o ho => hf o (List.mem_cons_of_mem _ ho)) h4 h3)
      cases r with
      | ok x w1 =>
        cases x with
        | value v => exact hm _ _ this
        | skip => exact hm _ _ this
        | defer d => exact hm _ _ this
        | enter f args =>
          refine ⟨this.1, this.2.mono ?_⟩
          intro e w'' h5
          cases e with
          | returned v => exact hm _ _ h5
          | panicked c => exact h5
          | outgrown => exact h5
        | row row args => exact ⟨this.1, this.2.mono fun v w'' h5 => hm _ _ h5⟩
        | round l f tmps assign body =>
          refine ⟨this.1, this.2.mono ?_⟩
          intro e w'' h5
          cases e with
          | returned v => exact hm _ _ h5
          | panicked c => exact h5
          | outgrown => exact h5
        | _ => exact this
      | halt x w1 => cases x <;> exact this
    · rw [if_neg (by simp [hw])]
      exact ⟨fun _ _ => trivial, hK' _ _ (iops_ok H hQ rest g _ _ W (fun o ho => hf o (List.mem_cons_of_mem _ ho)) ⟨T, hqq, L, skip_conc h2 o.dst, by rw [put_defers]; exact hd, hT, by rw [put_tab, e1]; exact hJ⟩ h1)⟩
def fCodeI : Code → Bool
  | .skip => true
  | .region _ ops draw => !draw && ops.toList.all fOp
  | .seq x y => fCodeI x && fCodeI y
  | .cond _ x y => fCodeI x && fCodeI y
  | .block _ x => fCodeI x
  | .loop x => fCodeI x
  | .exit _ => true
  | .ret => true
  | _ => false
abbrev AfterI (T0 : Nat → Prop) (W0 : World) (J Jx : List (List AV) → (Nat → Prop) → (Nat → Prop) → World → Prop) (Q : Exit → IG → ASt → Prop) : Exit → Act → World → Prop := fun e a W => ∃ g st, Q e g st ∧ ISt T0 W0 J Jx g st a W
theorem ist_weak (H : IHyp P l xs J Jx) (h : ISt T0 W0 J Jx g st a W) (hw : Weak st st') : ISt T0 W0 J Jx g st' a W := by
  obtain ⟨T, hqq, L, hC, hd, hT, hJ⟩ := h
  obtain ⟨L', hC', hS⟩ := hw _ _ _ _ hC
  refine ⟨T, hqq, L', hC', hd, hT, ?_⟩
  have := jj_keep (M' := ownB st'.tab L') (W' := W) H hJ ⟨rfl, rfl, rfl, Nat.le_refl _, fun _ _ _ => rfl⟩ fun b hb => .inl (Classical.byContradiction fun hn => ?_)
  · rw [grow_self] at this
    exact this
  · obtain ⟨id, o, h1, h2⟩ := hb
    have hge := (hC'.lay.objs id o h1).ge h2
    have hX : ¬ xOf T W b := fun hx => (hC'.lay.ex b hx).2 id o h1 h2
    have hs : Sx (cxI T0 W0 T W hqq) W st.tab L b := ⟨hge.2, ⟨.inr hge.1, hX⟩, fun id2 o2 h3 h4 => hn ⟨id2, o2, h3, h4⟩⟩
    exact (hS b hs).2.2 id o h1 h2
theorem icode_ok (H : IHyp P l xs J Jx) : ∀ (c : Code), fCodeI c = true → ∀ (Q : Exit → IG → ASt → Prop) (g : IG) (st : ASt) (a : Act) (W : World), ISt T0 W0 J Jx g st a W → iCode P l xs c Q g st → c.wpIn Fence.wide 0 P (AfterI T0 W0 J Jx Q) a W := by
  intro c
  induction c with
  | skip => exact fun _ Q g st a W h hp => wpIn_skip ⟨g, st, hp, h⟩
  | region id ops draw =>
    intro hf Q g st a W h hp
    cases draw with
    | false =>
      simp only [fCodeI, Bool.not_false, Bool.true_and, List.all_eq_true] at hf
      exact wpIn_region_list (iops_ok H (fun g st a W h1 h2 => ⟨g, st, h1, h2⟩) _ g st a W hf h hp)
    | true => cases hf
  | seq x y ihx ihy =>
    intro hf Q g st a W h hp
    simp only [fCodeI, Bool.and_eq_true] at hf
    unfold iCode at hp
    refine wpIn_seq (wpIn_mono (ihx hf.1 _ g st a W h hp) (fun e a' W' ⟨g', st', h1, h2⟩ => ?_))
    cases e with
    | normal => exact ihy hf.2 Q g' st' a' W' h2 h1
    | _ => exact ⟨g', st', h1, h2⟩
  | cond c x y ihx ihy =>
    intro hf Q g st a W h hp
    simp only [fCodeI, Bool.and_eq_true] at hf
    unfold iCode aCond at hp
    split at hp
    · rename_i b hb
      obtain ⟨T, hqq, L, hC, _⟩ := id h
      have hv := (eval_ok hC c).1
      rw [hb] at hv
      have hv := hv.c_inv
      cases b
      · exact wpIn_cond_false hv (ihy hf.2 Q g st a W h hp)
      · exact wpIn_cond_true hv (ihx hf.1 Q g st a W h hp)
    · exact hp.elim
  | block id x ih =>
    intro hf Q g st a W h hp
    simp only [fCodeI] at hf
    unfold iCode at hp
    refine wpIn_block (wpIn_mono (ih hf _ g st a W h hp) (fun e a' W' ⟨g', st', h1, h2⟩ => ?_))
    cases e with
    | exit id' =>
      simp only [iInBlock, Exit.inBlock] at h1 ⊢
      split
      · rename_i e
        rw [if_pos e] at h1
        exact ⟨g', st', h1, h2⟩
      · rename_i e
        rw [if_neg e] at h1
        exact ⟨g', st', h1, h2⟩
    | _ => exact ⟨g', st', h1, h2⟩
  | loop x ih =>
    intro hf Q g st a W h hp
    simp only [fCodeI] at hf
    unfold iCode at hp
    obtain ⟨I, μ, ⟨st0, hw0, hI⟩, hr⟩ := hp
    let p : Act → World → Nat → Prop := fun a W n => ∃ g st, I g st ∧ ISt T0 W0 J Jx g st a W ∧ μ g st = n
    refine wpIn_loop (fun a W => ∃ n, p a W n) (fun a W => least (p a W)) ⟨_, g, st0, hI, ist_weak H h hw0, rfl⟩ fun a W hpa => ?_
    obtain ⟨⟨g, st, h1, h2, h3⟩, _⟩ := least_spec hpa
    refine wpIn_mono (ih hf _ g st a W h2 (hr g st h1)) (fun e a' W' ⟨g', st', h4, h5⟩ => ?_)
    cases e with
    | normal =>
      obtain ⟨st'', hw, hI'', hlt⟩ := h4
      have hpn : p a' W' (μ g' st'') := ⟨g', st'', hI'', ist_weak H h5 hw, rfl⟩
      refine ⟨⟨_, hpn⟩, ?_⟩
      have := (least_spec ⟨_, hpn⟩).2 _ hpn
      show least (p a' W') < least (p a W)
      omega
    | _ => exact ⟨g', st', h4, h5⟩
  | exit id => exact fun _ Q g st a W h hp => wpIn_exit ⟨g, st, hp, h⟩
  | ret => exact fun _ Q g st a W h hp => wpIn_ret ⟨g, st, hp, h⟩
  | _ => exact fun hf => (by cases hf)
/-- where an iterator ends -/
def iRet (xs : List (List AV)) : Exit → IG → ASt → Prop
  | .normal, g, _ => (g.2 = true → g.1 = xs) ∧ g.1 <+: xs
  | .ret, g, _ => (g.2 = true → g.1 = xs) ∧ g.1 <+: xs
  | _, _, _ => False
end
theorem conc_init {S : Nat → Prop} {w : World} {vs : Array Value} {args : List AV} {n : Nat} {hqq : IAmb S w S} (hS : ∀ b, S b → b < w.heap.size) (hvs : vs.size = args.length) (hn : args.length ≤ n) (hv : ∀ (j : Nat) (v : Value) (av : AV), vs[j]? = some v → args[j]? = some av → RT w S v av) :
    Conc (cxI S w S w hqq) { tmps := vs ++ Array.replicate (n - vs.size) undef, defers := [] } w ⟨n, envOf 0 args, [], 0⟩ (fun _ => undef) := by
  have hL : Lay (cxI S w S w hqq) w [] (fun _ => undef) := ⟨belowX (Below.refl _ _), fun id o h => (by cases h), fun id id' o o' g h => (by cases h), fun b hb => ⟨hb.1, fun id o h => (by cases h)⟩⟩
  refine ⟨hL, ?_, Marks.nil _ _ _, fun id o h => (by cases h), fun t => ?_⟩
  · simp
    omega
  have e : (⟨n, envOf 0 args, [], 0⟩ : ASt).get t = args.getD t .any := by
    show (if t < n then aget (envOf 0 args) t else .any) = _
    rw [aget_envOf]
    split
    · simp
    · simp [List.getD, List.getElem?_eq_none (show args.length ≤ t by omega)]
  rw [e]
  by_cases ht : t < args.length
  · have ht' : t < vs.size := by omega
    have e2 : (vs ++ Array.replicate (n - vs.size) undef).getD t undef = vs[t] := by
      rw [Array.getD_eq_getD_getElem?, Array.getElem?_append_left ht', Array.getElem?_eq_getElem ht']
      rfl
    have e3 : args.getD t .any = args[t] := by simp [List.getD, ht]
    rw [e2, e3]
    have := hv t _ _ (Array.getElem?_eq_getElem ht') (List.getElem?_eq_getElem ht)
    exact ⟨.tree (this.mono (fun _ _ => rfl) fun b hb => ⟨hS b hb, ⟨.inl hb, fun hx => hx.2 hb⟩, fun id o h => by cases h⟩), this.lt 0⟩
  · have e3 : args.getD t .any = .any := by simp [List.getD, List.getElem?_eq_none (Nat.le_of_not_lt ht)]
    rw [e3]
    exact ⟨.tree (.any _), trivial⟩
/-- AN ITERATOR's CONTRACT OUT OF ITS CODE. -/
theorem aseq_of_code {P : Program} {f : FuncId} {fn : Func} {c : Code} (hf : P.funcs[f]? = some fn) (hb : fn.body = some c) (hname : (fn.name == "runtime.NumGoroutine") = false) {caps : List AV} {xs : List (List AV)} {n : Nat} (hnt : fn.ntmps = n) (hrs : fn.results = #[]) (hn : Nat.ble (caps.length + 1) n = true)
    (hc : fCodeI c = true) (ht : treeL caps) (h : ∀ l, iCode P l xs c (iRet xs) ([], true) ⟨n, envOf 0 (.c (.func (.yield l) #[] #[]) :: caps), [], 0⟩) : ASeq P f caps xs := by
  have hn := Nat.le_of_ble_eq_true hn
  subst hnt
  refine ⟨enters_of hf hb hname, fun l T0 lb W0 J Jx hlb hok0 hcap hlt hkeep hkeepx hround hJ0 => ?_⟩
  have hqq : IAmb T0 W0 T0 := ⟨hok0.amb, hok0.tab, hok0.tab⟩
  refine callsIn_of_wp hf hb trivial ?_ rfl
  have H : IHyp P l xs J Jx := ⟨hkeep, hkeepx, hround⟩
  have hC : Conc (cxI T0 W0 T0 W0 hqq) { tmps := (#[.func (.yield l) #[] #[]] ++ lb) ++ Array.replicate (fn.ntmps - (#[Value.func (.yield l) #[] #[]] ++ lb).size) undef, defers := [] } W0 ⟨fn.ntmps, envOf 0 (.c (.func (.yield l) #[] #[]) :: caps), [], 0⟩ (fun _ => undef) := by
    refine conc_init (args := .c (.func (.yield l) #[] #[]) :: caps) ?_ ?_ (by simpa using hn) fun j v av h1 h2 => ?_
    · exact hlt _ _ _ _ hJ0
    · simp
      omega
    · cases j with
      | zero =>
        rw [Array.getElem?_append_left (by simp)] at h1
        simp at h1 h2
        subst h1
        subst h2
        exact .c _
      | succ j =>
        refine hcap j v av ?_ (by simpa using h2)
        rw [Array.getElem?_append_right (by simp)] at h1
        simpa using h1
  have hJ1 : J [] T0 (ownB (⟨fn.ntmps, envOf 0 (.c (.func (.yield l) #[] #[]) :: caps), [], 0⟩ : ASt).tab fun _ => undef) W0 := by
    have := hkeep [] T0 _ (ownB [] fun _ => undef) W0 W0 hJ0 ⟨rfl, rfl, rfl, Nat.le_refl _, fun _ _ _ => rfl⟩ fun b ⟨id, o, h1, _⟩ => (by cases h1)
    rw [grow_self] at this
    exact this
  refine wpIn_mono (icode_ok H c hc _ ([], true) _ _ _ ⟨T0, hqq, _, hC, rfl, hlt _ _ _ _ hJ0, hJ1⟩ (h l)) fun e a W' ⟨g, st, hq, T, hq3, L, hC', hd, _, hJ⟩ => ?_
  have fin : ((g.2 = true → g.1 = xs) ∧ g.1 <+: xs) → a.defers = [] ∧ ∃ v, (results fn a.tmps).run P W' = .ok v W' ∧ (∃ u, (Ending.returned v : Ending) = .returned u) ∧ ((∃ T M, J xs T M W') ∨ ∃ pre T M, pre <+: xs ∧ Jx pre T M W') := fun ⟨h1, h2⟩ => by
    refine ⟨hd, .tuple #[], by simp [results, hrs], ⟨_, rfl⟩, ?_⟩
    obtain ⟨pre, b⟩ := g
    cases b with
    | true =>
      obtain rfl : pre = xs := h1 rfl
      exact .inl ⟨T, _, hJ⟩
    | false => exact .inr ⟨pre, T, _, h2, hJ⟩
  cases e with
  | normal => exact fin hq
  | ret => exact fin hq
  | _ => exact hq.elim
end
section
open Go.RowKit

mutual
def AV.rpz (id : Nat) (cells : List AV) : AV → AV
  | .op id' i j => if id' = id then (if i = 0 then .rp (cells.drop j) else .any) else .op id' i j
  | .osl id' => if id' = id then .any else .osl id'
  | .agg cs => .agg (AV.rpzL id cells cs)
  | .tup cs => .tup (AV.rpzL id cells cs)
  | .fn f cs => .fn f (AV.rpzL id cells cs)
  | .bfn f cs => .bfn f (AV.rpzL id cells cs)
  | .any => .any
  | .c v => .c v
  | .sl sz rows => .sl sz rows
  | .rp cs => .rp cs
def AV.rpzL (id : Nat) (cells : List AV) : List AV → List AV
  | [] => []
  | a :: l => a.rpz id cells :: AV.rpzL id cells l
end
theorem rpzL_map (id : Nat) (cells : List AV) : ∀ l : List AV, AV.rpzL id cells l = l.map (·.rpz id cells)
  | [] => rfl
  | a :: l => by rw [AV.rpzL, rpzL_map id cells l]; rfl
def rpzEnv (id : Nat) (cells : List AV) : List (Nat × AV) → List (Nat × AV)
  | [] => []
  | (t, av) :: l => (t, av.rpz id cells) :: rpzEnv id cells l
theorem rpzEnv_get (id : Nat) (cells : List AV) : ∀ (l : List (Nat × AV)) (t : Nat), aget (rpzEnv id cells l) t = (aget l t).rpz id cells
  | [], t => rfl
  | (k, av) :: l, t => by
    unfold rpzEnv aget
    split
    · rfl
    · exact rpzEnv_get id cells l t
def treeObj : AObj → Prop
  | .box _ cells => treeL cells
  | .row _ _ _ => True
  | .map _ => True
  | .ghost _ _ => False
def treeTab (id : Nat) : ATab → Prop
  | [] => True
  | (k, some o) :: l => (k = id ∨ treeObj o) ∧ treeTab id l
  | (_, none) :: l => treeTab id l
theorem treeTab_get {id : Nat} : ∀ {l : ATab} {k : Nat} {o : AObj}, treeTab id l → l.get k = some o → k = id ∨ treeObj o
  | [], k, o, _, h => by cases h
  | (k', some oo) :: l, k, o, ht, h => by
    rw [ATab.get_cons] at h
    split at h
    · rename_i e
      cases h
      rw [e]
      exact ht.1
    · exact treeTab_get ht.2 h
  | (k', none) :: l, k, o, ht, h => by
    rw [ATab.get_cons] at h
    split at h
    · cases h
    · exact treeTab_get (l := l) ht h
theorem rt_rpz {w : World} {S : Nat → Prop} {x : Value} {av : AV} (h : RT w S x av) (id : Nat) (cells : List AV) : av.rpz id cells = av := by
  induction h with
  | agg xs cs hn hr ih =>
    simp only [AV.rpz, rpzL_map, AV.agg.injEq]
    apply List.ext_getElem?
    intro j
    rw [List.getElem?_map]
    cases hj : cs[j]? with
    | none => rfl
    | some av =>
      have hlt : j < xs.size := by rw [hn]; exact (List.getElem?_eq_some_iff.1 hj).1
      simp [ih j _ av (Array.getElem?_eq_getElem hlt) hj]
  | tup xs cs hn hr ih =>
    simp only [AV.rpz, rpzL_map, AV.tup.injEq]
    apply List.ext_getElem?
    intro j
    rw [List.getElem?_map]
    cases hj : cs[j]? with
    | none => rfl
    | some av =>
      have hlt : j < xs.size := by rw [hn]; exact (List.getElem?_eq_some_iff.1 hj).1
      simp [ih j _ av (Array.getElem?_eq_getElem hlt) hj]
  | fn f xs cs hn hr ih =>
    simp only [AV.rpz, rpzL_map, AV.fn.injEq]
    refine ⟨trivial, ?_⟩
    apply List.ext_getElem?
    intro j
    rw [List.getElem?_map]
    cases hj : cs[j]? with
    | none => rfl
    | some av =>
      have hlt : j < xs.size := by rw [hn]; exact (List.getElem?_eq_some_iff.1 hj).1
      simp [ih j _ av (Array.getElem?_eq_getElem hlt) hj]
  | bfn f xs cs hn hr ih =>
    simp only [AV.rpz, rpzL_map, AV.bfn.injEq]
    refine ⟨trivial, ?_⟩
    apply List.ext_getElem?
    intro j
    rw [List.getElem?_map]
    cases hj : cs[j]? with
    | none => rfl
    | some av =>
      have hlt : j < xs.size := by rw [hn]; exact (List.getElem?_eq_some_iff.1 hj).1
      simp [ih j _ av (Array.getElem?_eq_getElem hlt) hj]
  | _ => rfl
theorem rpz_lt {id nx : Nat} {cells : List AV} : ∀ {av : AV}, av.lt nx → (av.rpz id cells).lt nx := by
  intro av
  induction av using AV.rec (motive_2 := fun _ => True) (motive_3 := fun l => AV.ltL nx l → AV.ltL nx (AV.rpzL id cells l)) <;> simp_all [AV.lt, AV.ltL, AV.rpz, AV.rpzL]
  · split <;> simp_all [AV.lt]
  · split
    · split <;> simp [AV.lt]
    · simp_all [AV.lt]
/-- a variable of its own is written no more: pointers to it are pointers to what is read -/
theorem weak_rp {n nx : Nat} {env : List (Nat × AV)} {tab : ATab} (id : Nat) {ty : TypeId} {cells : List AV} (hid : tab.get id = some (.box ty cells)) (ht : treeL cells) (hot : treeTab id tab) : Weak ⟨n, env, tab, nx⟩ ⟨n, rpzEnv id cells env, (id, none) :: tab, nx⟩ := by
  intro cx a w L h
  have hget : ∀ k o, ATab.get ((id, none) :: tab) k = some o → k ≠ id ∧ tab.get k = some o := fun k o hk => by
    rw [ATab.get_cons] at hk
    split at hk
    · cases hk
    · exact ⟨by assumption, hk⟩
  have hS : ∀ b, Sx cx w tab L b → Sx cx w ((id, none) :: tab) L b := fun b hb => ⟨hb.1, hb.2.1, fun k o hk => hb.2.2 k o (hget k o hk).2⟩
  have hK : ∀ k p, Kx ((id, none) :: tab) L k = some p → k ≠ id ∧ Kx tab L k = some p := fun k p hk => by
    unfold Kx at *
    cases ho : ATab.get ((id, none) :: tab) k with
    | none => simp [ho] at hk
    | some o =>
      obtain ⟨h1, h2⟩ := hget k o ho
      refine ⟨h1, ?_⟩
      rw [h2]
      simpa [ho] using hk
  obtain ⟨g, cs, hL, hbg, hheap, hcs, hx⟩ := h.lay.objs id _ hid
  have hg : vblk (L id) = some g := by rw [hL]; rfl
  have hSg : Sx cx w ((id, none) :: tab) L g := ⟨(Array.getElem?_eq_some_iff.1 hheap).1, ⟨.inr hbg, fun hX => (h.lay.ex g hX).2 id _ hid hg⟩, fun k o hk hkg => by
    obtain ⟨h1, h2⟩ := hget k o hk
    exact h1 (h.lay.sep k id o _ g h2 hid hkg hg)⟩
  have conv : ∀ x av, RVx cx w tab L x av → RVx cx w ((id, none) :: tab) L x (av.rpz id cells) := fun x av hr => by
    induction hr with
    | tree h0 =>
      rw [rt_rpz h0]
      exact .tree (h0.mono (fun _ _ => rfl) hS)
    | osl x id' h0 =>
      unfold AV.rpz
      split
      · exact .tree (.any _)
      · exact .osl x id' fun sz v e => h0 sz v (hK id' _ e).2
    | op x id' i j h0 =>
      unfold AV.rpz
      split
      · rename_i e
        subst e
        split
        · rename_i e
          subst e
          obtain ⟨g', hg', rfl⟩ := h0 _ _ (kx_of hid)
          rw [hg] at hg'
          cases hg'
          rw [Nat.zero_mul, Nat.zero_add]
          refine .tree (.rp g j _ (fun k => cs[j + k]?.getD undef) hSg (fun k av hk => ?_) (fun k av hk => ?_))
          · rw [List.getElem?_drop] at hk
            have hlt : j + k < cs.size := by rw [hcs]; exact (List.getElem?_eq_some_iff.1 hk).1
            rw [cell_of_row w g (j + k) cs ty (0, 0) hheap, Array.getElem?_eq_getElem hlt]
            rfl
          · rw [List.getElem?_drop] at hk
            have hlt : j + k < cs.size := by rw [hcs]; exact (List.getElem?_eq_some_iff.1 hk).1
            rw [Array.getElem?_eq_getElem hlt, Option.getD_some]
            exact (tree_of (hx (j + k) _ av (Array.getElem?_eq_getElem hlt) hk).1 (treeL_iff.1 ht av (List.mem_of_getElem? hk))).mono (fun _ _ => rfl) hS
        · exact .tree (.any _)
      · exact .op x id' i j fun sz v e => h0 sz v (hK id' _ e).2
    | agg xs cs' hn hr ih =>
      simp only [AV.rpz, rpzL_map]
      refine .agg xs _ (by simpa using hn) fun j x av h1 h2 => ?_
      rw [List.getElem?_map] at h2
      cases hj : cs'[j]? with
      | none => simp [hj] at h2
      | some av' =>
        simp [hj] at h2
        subst h2
        exact ih j x av' h1 hj
    | tup xs cs' hn hr ih =>
      simp only [AV.rpz, rpzL_map]
      refine .tup xs _ (by simpa using hn) fun j x av h1 h2 => ?_
      rw [List.getElem?_map] at h2
      cases hj : cs'[j]? with
      | none => simp [hj] at h2
      | some av' =>
        simp [hj] at h2
        subst h2
        exact ih j x av' h1 hj
    | fn f xs cs' hn hr ih =>
      simp only [AV.rpz, rpzL_map]
      refine .fn f xs _ (by simpa using hn) fun j x av h1 h2 => ?_
      rw [List.getElem?_map] at h2
      cases hj : cs'[j]? with
      | none => simp [hj] at h2
      | some av' =>
        simp [hj] at h2
        subst h2
        exact ih j x av' h1 hj
    | bfn f xs cs' hn hr ih =>
      simp only [AV.rpz, rpzL_map]
      refine .bfn f xs _ (by simpa using hn) fun j x av h1 h2 => ?_
      rw [List.getElem?_map] at h2
      cases hj : cs'[j]? with
      | none => simp [hj] at h2
      | some av' =>
        simp [hj] at h2
        subst h2
        exact ih j x av' h1 hj
  refine ⟨L, ⟨⟨h.lay.below, fun k o hk => ?_, fun k k' o o' g' h1 h2 => h.lay.sep k k' o o' g' (hget k o h1).2 (hget k' o' h2).2, fun b hb => ⟨(h.lay.ex b hb).1, fun k o hk => (h.lay.ex b hb).2 k o (hget k o hk).2⟩⟩, h.size, h.defers.mono (fun _ _ => rfl) hS, fun k o hk => h.young k o (hget k o hk).2, fun t => ?_⟩, hS⟩
  · obtain ⟨h1, h2⟩ := hget k o hk
    have ho := h.lay.objs k o h2
    have htr := (treeTab_get hot h2).resolve_left h1
    cases o with
    | box t cells' =>
      obtain ⟨g', cs', h3, h4, h5, h6, h7⟩ := ho
      exact ⟨g', cs', h3, h4, h5, h6, fun j x av h8 h9 => ⟨.tree ((tree_of (h7 j x av h8 h9).1 (treeL_iff.1 htr av (List.mem_of_getElem? h9))).mono (fun _ _ => rfl) hS), (h7 j x av h8 h9).2⟩⟩
    | row e sz rows =>
      obtain ⟨h3, xs, h4, h5, h6⟩ := ho
      refine ⟨h3, xs, h4, h5, fun i j row av h7 h8 => ?_⟩
      obtain ⟨x, hx, hr⟩ := h6 i j row av h7 h8
      exact ⟨x, hx, hr.mono (fun _ _ => rfl) hS⟩
    | map ents => exact ho
    | ghost vs env => exact htr.elim
  · have e1 : (⟨n, rpzEnv id cells env, (id, none) :: tab, nx⟩ : ASt).get t = ((⟨n, env, tab, nx⟩ : ASt).get t).rpz id cells := by
      unfold ASt.get
      simp only
      split
      · exact rpzEnv_get ..
      · simp [AV.rpz]
    rw [e1]
    exact ⟨conv _ _ (h.env t).1, rpz_lt (h.env t).2⟩
/-- the answer, seen otherwise -/
def aRetW (P : Program) (rs : List ResultVar) (Post : Res → Prop) (e : Exit) (st : ASt) : Prop := aTo (aRetR P rs Post e) st
theorem arel_of_weak {P : Program} (hm : P.follows .mixedOrders = true) {f : FuncId} {fn : Func} {c : Code} (hf : P.funcs[f]? = some fn) (hb : fn.body = some c) (hname : (fn.name == "runtime.NumGoroutine") = false) {args : List AV} {Post : Res → Prop} {n : Nat} (hnt : fn.ntmps = n) {rs : List ResultVar} (hrs : fn.results = rs.toArray) (hn : Nat.ble args.length n = true)
    (h : aCode P c (aRetW P rs Post) ⟨n, envOf 0 args, [], 0⟩) : ARel P f args Post :=
  arel_of_wp hf hb hname hnt hrs hn fun cx a w L hc => Code.wp_mono (fun e a w ⟨st, L, ⟨st', hw, h1⟩, h2⟩ => (hw _ _ _ _ h2).elim fun L' h3 => ⟨st', L', h1, h3.1⟩) (code_ok hm c _ a w _ L hc h)
theorem aRnd_normal {I : List (List AV) → ASt → Prop} {Ix : Code → List (List AV) → ASt → Prop} {pre : List (List AV)} {st1 st' : ASt} : aRnd I Ix pre st1 .normal st' = aTo (I pre) ⟨st1.n, st1.env, st'.tab, st'.next⟩ := rfl
theorem aRnd_ret {I : List (List AV) → ASt → Prop} {Ix : Code → List (List AV) → ASt → Prop} {pre : List (List AV)} {st1 st' : ASt} : aRnd I Ix pre st1 .ret st' = aTo (Ix .ret pre) ⟨st1.n, st1.env, st'.tab, st'.next⟩ := rfl
theorem aRnd_exit {I : List (List AV) → ASt → Prop} {Ix : Code → List (List AV) → ASt → Prop} {pre : List (List AV)} {st1 st' : ASt} {id : Nat} : aRnd I Ix pre st1 (.exit id) st' = aTo (Ix (.exit id) pre) ⟨st1.n, st1.env, st'.tab, st'.next⟩ := rfl
theorem putAll_nil {st : ASt} : putAll [] st = st := rfl
theorem putAll_cons {p : Nat} {av : AV} {l : List (Nat × AV)} {st : ASt} : putAll ((p, av) :: l) st = putAll l (st.put (some p) av) := rfl
theorem ruL : type_of% (And.intro @aRnd_normal (And.intro @aRnd_ret (And.intro @aRnd_exit (And.intro @putAll_nil (And.intro @putAll_cons (And.intro (@List.zip_cons_cons.{0, 0}) (@List.zip_nil_left.{0, 0}))))))) :=
  And.intro @aRnd_normal (And.intro @aRnd_ret (And.intro @aRnd_exit (And.intro @putAll_nil (And.intro @putAll_cons (And.intro (@List.zip_cons_cons.{0, 0}) (@List.zip_nil_left.{0, 0}))))))
/-- a closure is given back -/
theorem retC {Post : Res → Prop} {st : ASt} {r av : AV} (h : Post ⟨r, [], 0⟩) (hl : r.lt 0) (hr : r.ren [] = av) : ∃ R, Post R ∧ R.Ok ∧ aGives R st av := ⟨_, h, ⟨fun id o h => (by cases h), hl⟩, ⟨[], List.nodup_nil, hr, trivial⟩⟩
end
section
open Go.RowKit

/-- what lies outside of the call's own stays -/
structure Fz (w : World) (tab : ATab) (L : Nat → Value) (w' : World) (tab' : ATab) (L' : Nat → Value) : Prop where
  size : w.heap.size ≤ w'.heap.size
  keep : ∀ k, k < w.heap.size → (∀ id o, tab.get id = some o → vblk (L id) ≠ some k) → w'.heap[k]? = w.heap[k]?
  young : ∀ id o g, tab'.get id = some o → vblk (L' id) = some g → g < w.heap.size → ∃ id2 o2, tab.get id2 = some o2 ∧ vblk (L id2) = some g
section
variable {P : Program} {cx : Cx} {a : Act} {w w' w'' : World} {st st' : ASt} {tab tab' tab'' : ATab} {L L' L'' : Nat → Value} {nx nx' : Nat}
theorem Fz.refl : Fz w tab L w tab L := ⟨Nat.le_refl _, fun _ _ _ => rfl, fun id o g h1 h2 _ => ⟨id, o, h1, h2⟩⟩
theorem Fz.trans (h : Fz w tab L w' tab' L') (k : Fz w' tab' L' w'' tab'' L'') : Fz w tab L w'' tab'' L'' :=
  ⟨Nat.le_trans h.size k.size,
   fun j hj hn => (k.keep j (Nat.lt_of_lt_of_le hj h.size) fun id o h1 h2 => (h.young id o j h1 h2 hj).elim fun id2 ⟨o2, h3, h4⟩ => hn id2 o2 h3 h4).trans (h.keep j hj hn),
   fun id o g h1 h2 hg => (k.young id o g h1 h2 (Nat.lt_of_lt_of_le hg h.size)).elim fun id2 ⟨o2, h3, h4⟩ => h.young id2 o2 g h3 h4 hg⟩
theorem Fr.fz (h : Fr cx w tab L nx w' tab' L' nx') : Fz w tab L w' tab' L' := ⟨h.size, h.keep, h.young⟩
theorem weak_fz (hw : Weak st st') (h : Conc cx a w st L) : ∃ L', Conc cx a w st' L' ∧ Fz w st.tab L w st'.tab L' := by
  obtain ⟨L', h1, h2⟩ := hw _ _ _ _ h
  refine ⟨L', h1, Nat.le_refl _, fun _ _ _ => rfl, fun id o g h3 h4 h5 => ?_⟩
  refine Classical.byContradiction fun hno => ?_
  have hS : Sx cx w st.tab L g := ⟨h5, ⟨.inr ((h1.lay.objs id o h3).ge h4).1, fun hX => (h1.lay.ex g hX).2 id o h3 h4⟩, fun id2 o2 h6 h7 => hno ⟨id2, o2, h6, h7⟩⟩
  exact (h2 g hS).2.2 id o h3 h4
theorem ops_okZ {ops : Array Oper} {K : ASt → Prop} {Q : Exit → Act → World → Prop} {T : Nat → Prop} : ∀ (l : List Oper) (a : Act) (w : World) (st : ASt) (L : Nat → Value), (∀ o ∈ l, fOp o = true ∧ ∀ t, T t → o.dst ≠ some t) →
    (∀ a' w' st' L', K st' → Conc cx a' w' st' L' → Fz w st.tab L w' st'.tab L' → ActSame T a a' → Q .normal a' w') → Conc cx a w st L → aOps P ops K l st → wpList P ops Q l a w
  | [], a, w, st, L, _, hQ, h, hp => hQ a w st L hp h Fz.refl (.refl a)
  | o :: rest, a, w, st, L, hf, hQ, h, hp => by
    unfold aOps at hp
    obtain ⟨hfo, hdo⟩ := hf o (List.mem_cons_self ..)
    have hrest := fun o' (ho' : o' ∈ rest) => hf o' (List.mem_cons_of_mem _ ho')
    refine wpList_step fun K' hK' => ?_
    rcases guard_ok h hp o rfl with ⟨hw, st1, h1, h2, e1, e2⟩ | ⟨hw, st1, h1, h2, e1, e2⟩
    · rw [if_pos hw]
      refine Oper.wp_mono (fun a' w' ⟨⟨st2, L2, h3, h4, h5, h6⟩, h7⟩ => hK' a' w' (ops_okZ rest a' w' st2 L2 hrest (fun a3 w3 st3 L3 h8 h9 h10 h11 => hQ a3 w3 st3 L3 h8 h9 ?_ (ActSame.trans ⟨h6, h7⟩ h11)) h4 h3)) (wp_slots hdo (op_okF h2 h1 hfo))
      have h5 := h5.fz
      rw [e1] at h5
      exact h5.trans h10
    · rw [if_neg (by simp [hw])]
      refine hK' _ _ (ops_okZ rest _ w _ L hrest (fun a3 w3 st3 L3 h8 h9 h10 h11 => hQ a3 w3 st3 L3 h8 h9 ?_ (((ActSame.refl a).put hdo).trans h11)) (skip_conc h2 o.dst) h1)
      rw [put_tab, e1] at h10
      exact h10
theorem Fz.below (hy : ∀ id o g, tab.get id = some o → vblk (L id) = some g → g < w.heap.size) (hb : Below w.heap.size w w') : Fz w tab L w' tab L := ⟨hb.size, fun k hk _ => hb.block k hk, fun id o g h1 h2 _ => ⟨id, o, h1, h2⟩⟩
/-- code whose regions go in order, and that does not put into slot t -/
def zCode (t : Nat) : Code → Bool
  | .skip => true
  | .region _ ops _ => ops.toList.all fun o => fOp o && !(o.dst == some t)
  | .seq x y => zCode t x && zCode t y
  | .cond _ x y => zCode t x && zCode t y
  | .block _ x => zCode t x
  | .loop x => zCode t x
  | .exit _ => true
  | .ret => true
  | .label _ => true
  | .scope x => zCode t x
  | _ => false
abbrev AfterZ (cx : Cx) (a : Act) (w : World) (tab : ATab) (L : Nat → Value) (t : Nat) (Q : Exit → ASt → Prop) : Exit → Act → World → Prop := fun e a' w' => ∃ st' L', Q e st' ∧ Conc cx a' w' st' L' ∧ Fz w tab L w' st'.tab L' ∧ ActSame (fun k => k = t) a a'
theorem code_okZ (hm : P.follows .mixedOrders = true) (t : Nat) : ∀ (c : Code), zCode t c = true → ∀ (Q : Exit → ASt → Prop) (a : Act) (w : World) (st : ASt) (L : Nat → Value), Conc cx a w st L → aCode P c Q st → c.wp P (AfterZ cx a w st.tab L t Q) a w := by
  intro c
  induction c with
  | skip => exact fun _ Q a w st L h hp => wp_skip ⟨st, L, hp, h, Fz.refl, .refl a⟩
  | region id ops draw =>
    intro hf Q a w st L h hp
    unfold aCode aReg at hp
    simp only [zCode, List.all_eq_true, Bool.and_eq_true] at hf
    have hf : ∀ o ∈ ops.toList, fOp o = true ∧ ∀ k, k = t → o.dst ≠ some k := fun o ho => ⟨(hf o ho).1, fun k hk => by subst hk; simpa using (hf o ho).2⟩
    have hT : ∀ (i : Nat) (o : Oper), ops[i]? = some o → ∀ k, k = t → o.dst ≠ some k := fun i o ho => (hf o (Array.mem_toList_iff.2 (Array.mem_of_getElem? ho))).2
    have hyg : ∀ id o g, st.tab.get id = some o → vblk (L id) = some g → g < w.heap.size := fun id o g h1 h2 => ((h.lay.objs id o h1).ge h2).2
    cases draw with
    | false => exact wp_region_list (ops_okZ (T := fun k => k = t) _ a w st L hf (fun a' w' st' L' h1 h2 h3 h4 => ⟨st', L', h1, h2, h3, h4⟩) h (by simpa using hp))
    | true =>
      simp only [if_true] at hp
      obtain ⟨l⟩ := ops
      rcases hp with ⟨hB, hp⟩ | ⟨n, hB, hp⟩ | ⟨ids, hd, s, hB, K', hK', hids, hp⟩
      · exact wp_region_quiet (C := fun w' => Below w.heap.size w w') hm hB ((Below.refl _ _).drew) (dops_ok (L := L) (T := fun k => k = t) (a0 := a) (tab0 := st.tab) (fun a' st' h1 h2 h3 h4 w' hw' => ⟨st', L, h1, conc_below h2 hw', by rw [h3]; exact Fz.below hyg hw', h4⟩) _ _ _ (fun o ho => (hf o ho).2) rfl (.refl a) h hp)
      · have h' : Conc cx a w.drew st L := conc_below h ((Below.refl _ _).drew)
        have hz : Fz w st.tab L w.drew st.tab L := Fz.below hyg ((Below.refl _ _).drew)
        exact wp_region_still_tail n hm hB (pops_ok (T := fun k => k = t) (a0 := a) (tab0 := st.tab) (fun a' st' h1 h2 h3 h4 => ops_okZ (T := fun k => k = t) _ a' w.drew st' L (fun o ho => hf o (List.mem_of_mem_drop ho)) (fun a2 w2 st2 L2 h5 h6 h7 h8 => ⟨st2, L2, h5, h6, hz.trans (by rw [← h3]; exact h7), h4.trans h8⟩) h2 h1) _ _ _ (fun o ho => (hf o (List.mem_of_mem_take ho)).2) rfl (.refl a) h' hp)
      · simp only [Bool.and_eq_true] at hB
        have hB := And.intro hB.1 (Nat.le_of_ble_eq_true hB.2)
        have h' : Conc cx a w.drew st L := conc_below h ((Below.refl _ _).drew)
        let G : Nat → Prop := fun k => ∃ id ∈ ids, vblk (L id) = some k
        refine Code.wp_mono (Q := noPanic (AfterZ cx a w st.tab L t Q)) (fun e a w hq => ?_) (wp_region_held (S := fun w' => KeepX w.drew.heap.size G w.drew w') hm ?_)
        · cases e <;> first | exact hq | exact hq.elim
        · refine heldH_ok (T := st.tab) (Tz := fun k => k = t) (a0 := a) (nx := st.next) (ids := ids) hB.1.1 hT s ⟨Nat.le_refl _, fun _ _ _ => rfl⟩ (fun w' b hw' hb o u hu => ?_) (fun listed a' st' hA hT' hN hB' hK h2 fuel hf' => ?_) hd _ _ _ (.refl a) h' rfl rfl hB.1.2 hp _ hB.2
          · have hlt := World.block_lt_of_cell? w.drew _ hu
            refine (World.cell?_of_block (hw'.block b hlt fun ⟨id, hid, hbl⟩ => ?_)).trans hu
            obtain ⟨ob, hob⟩ := Option.isSome_iff_exists.1 (hids id hid)
            rcases hb with hb | ⟨id', o', hni, hget, hbl'⟩
            · exact hb.2.2 id ob hob hbl
            · exact hni (h.lay.sep id' id o' ob b hget hob hbl' hbl ▸ hid)
          · refine held_ok (Q := AfterZ cx a w st.tab L t Q) (T0 := st.tab) (T := fun k => k = t) (a0 := a) (L0 := L) hB.1.1 hT (fun a2 w2 st2 L2 h3 h4 h5 h6 h7 h8 => ?_) s listed a' w.drew st' L h2 ⟨Nat.le_refl _, fun _ _ _ => rfl⟩ (fun id o g h3 h4 _ => by
              rw [hT'] at h4
              have := (h.young id o h4).1
              omega) (fun id hid g hg => ⟨id, hid, hg⟩) (fun id hid => by
              obtain ⟨ob, hob⟩ := Option.isSome_iff_exists.1 (hids id hid)
              rw [hN]
              exact (h.young id ob hob).1) ⟨fun _ _ => rfl, by rw [hN]; exact Nat.le_refl _, fun id o _ hg => ⟨o, by rw [← hT']; exact hg⟩, fun id o g _ hni hg hbl => ?_⟩ hA hB' hK fuel hf'
            · obtain ⟨st3, hw3, h9⟩ := hK' st2 h3
              obtain ⟨L3, h10, h11⟩ := weak_fz hw3 h4
              have hG : ∀ k, G k → ∃ id o, st.tab.get id = some o ∧ vblk (L id) = some k := fun k ⟨id, hid, hbl⟩ => (Option.isSome_iff_exists.1 (hids id hid)).elim fun ob hob => ⟨id, ob, hob, hbl⟩
              have hz : Fz w st.tab L w2 st2.tab L2 := by
                have hsz : w.drew.heap.size = w.heap.size := rfl
                refine ⟨h5.size, fun k hk hn => h5.block k hk fun hg => ?_, fun id o g h12 h13 h14 => ?_⟩
                · obtain ⟨id, ob, h12, h13⟩ := hG k hg
                  exact hn id ob h12 h13
                · rcases Nat.lt_or_ge id st.next with hlt | hge
                  · obtain ⟨o', ho'⟩ := h7.old id o hlt h12
                    exact ⟨id, o', ho', by rw [← h7.loc id hlt]; exact h13⟩
                  · rcases h6 id o g hge h12 h13 with h15 | h15
                    · have : w.heap.size ≤ g := h15
                      omega
                    · exact hG g h15
              exact ⟨st3, L3, h9, h10, hz.trans h11, h8⟩
            · refine ⟨((h'.lay.objs id _ hg).ge hbl).2, fun ⟨id', hid', hbl'⟩ => hni ?_⟩
              obtain ⟨ob, hob⟩ := Option.isSome_iff_exists.1 (hids id' hid')
              exact h.lay.sep id id' _ ob g hg hob hbl hbl' ▸ hid'
  | seq x y ihx ihy =>
    intro hf Q a w st L h hp
    simp only [zCode, Bool.and_eq_true] at hf
    unfold aCode at hp
    refine wp_seq (Code.wp_mono (fun e a' w' ⟨st', L', h1, h2, h3, h4⟩ => ?_) (ihx hf.1 _ a w st L h hp))
    cases e with
    | normal => exact Code.wp_mono (fun e a2 w2 ⟨st2, L2, k1, k2, k3, k4⟩ => ⟨st2, L2, k1, k2, h3.trans k3, h4.trans k4⟩) (ihy hf.2 Q a' w' st' L' h2 h1)
    | _ => exact ⟨st', L', h1, h2, h3, h4⟩
  | cond c x y ihx ihy =>
    intro hf Q a w st L h hp
    simp only [zCode, Bool.and_eq_true] at hf
    unfold aCode aCond at hp
    split at hp
    · rename_i b hb
      have hv := (eval_ok h c).1
      rw [hb] at hv
      have hv := hv.c_inv
      cases b
      · exact wp_cond_false hv (ihy hf.2 Q a w st L h hp)
      · exact wp_cond_true hv (ihx hf.1 Q a w st L h hp)
    · exact hp.elim
  | block id x ih =>
    intro hf Q a w st L h hp
    simp only [zCode] at hf
    unfold aCode at hp
    refine wp_block (Code.wp_mono (fun e a' w' ⟨st', L', h1, h2, h3⟩ => ?_) (ih hf _ a w st L h hp))
    cases e with
    | exit id' =>
      simp only [aInBlock, Exit.inBlock] at h1 ⊢
      split
      · rename_i e
        rw [if_pos e] at h1
        exact ⟨st', L', h1, h2, h3⟩
      · rename_i e
        rw [if_neg e] at h1
        exact ⟨st', L', h1, h2, h3⟩
    | _ => exact ⟨st', L', h1, h2, h3⟩
  | loop x ih =>
    intro hf Q a0 w0 st0 L0 h hp
    simp only [zCode] at hf
    unfold aCode at hp
    obtain ⟨I, μ, ⟨st1, hw1, hI⟩, hr⟩ := hp
    let p : Act → World → Nat → Prop := fun a w n => ∃ st L, I st ∧ Conc cx a w st L ∧ (Fz w0 st0.tab L0 w st.tab L ∧ ActSame (fun k => k = t) a0 a) ∧ μ st = n
    obtain ⟨L1, hL1, hz1⟩ := weak_fz hw1 h
    refine wp_loop (fun a w => ∃ n, p a w n) (fun a w => least (p a w)) ⟨_, st1, L1, hI, hL1, ⟨hz1, .refl a0⟩, rfl⟩ fun a w hpa => ?_
    obtain ⟨⟨st, L, h1, h2, ⟨h3, h3a⟩, h4⟩, _⟩ := least_spec hpa
    refine Code.wp_mono (fun e a' w' ⟨st', L', h5, h6, h7, h8⟩ => ?_) (ih hf _ a w st L h2 (hr st h1))
    cases e with
    | normal =>
      obtain ⟨st'', hw, hI'', hlt⟩ := h5
      obtain ⟨L1, hL1, hz1⟩ := weak_fz hw h6
      have hpn : p a' w' (μ st'') := ⟨st'', L1, hI'', hL1, ⟨(h3.trans h7).trans hz1, h3a.trans h8⟩, rfl⟩
      refine ⟨⟨_, hpn⟩, ?_⟩
      have := (least_spec ⟨_, hpn⟩).2 _ hpn
      show least (p a' w') < least (p a w)
      omega
    | _ => exact ⟨st', L', h5, h6, h3.trans h7, h3a.trans h8⟩
  | exit id => exact fun _ Q a w st L h hp => wp_exit ⟨st, L, hp, h, Fz.refl, .refl a⟩
  | ret => exact fun _ Q a w st L h hp => wp_ret ⟨st, L, hp, h, Fz.refl, .refl a⟩
  | label l => exact fun _ Q a w st L h hp => wp_label ⟨st, L, hp, h, Fz.refl, .refl a⟩
  | scope x ih =>
    intro hf Q a w st L h hp
    simp only [zCode] at hf
    unfold aCode at hp
    refine wp_scope_straight (Code.wp_mono (fun e a' w' ⟨st', L', h1, h2⟩ => ?_) (ih hf _ a w st L h hp))
    cases e with
    | goto l => exact h1
    | _ => exact ⟨st', L', h1, h2⟩
  | _ => exact fun hf => (by cases hf)
end
end
section
open Go.RowKit
/-- these slots, as they stand -/
def liveEnv (st : ASt) (ts : List Nat) : List (Nat × AV) := ts.map fun t => (t, st.get t)
theorem aget_live (st : ASt) (t : Nat) : ∀ ts : List Nat, aget (liveEnv st ts) t = st.get t ∨ aget (liveEnv st ts) t = .any
  | [] => .inr rfl
  | k :: ts => by
    show (if t = k then st.get k else aget (liveEnv st ts) t) = _ ∨ (if t = k then st.get k else aget (liveEnv st ts) t) = _
    split
    · rename_i e
      subst e
      exact .inl rfl
    · exact aget_live st t ts
theorem live_nil (st : ASt) : liveEnv st [] = [] := rfl
theorem live_cons (st : ASt) (t : Nat) (ts : List Nat) : liveEnv st (t :: ts) = (t, st.get t) :: liveEnv st ts := rfl
/-- back in the caller: what the call had of its own is numbered anew -/
def aBack (vs : Array Value) (n nx g : Nat) (K : AV → ASt → Prop) (st : ASt) (av : AV) : Prop :=
  match st.tab.get g with
  | some (.ghost vs' env) => vs' = vs ∧ K (av.shift nx) ⟨n, shiftEnv nx env, (g + nx, none) :: st.tab.shift nx, nx + st.next⟩
  | _ => False
def aRetI (P : Program) (rs : List ResultVar) (vs : Array Value) (n nx g : Nat) (K : AV → ASt → Prop) : Exit → ASt → Prop
  | .normal, st => aResL P st rs fun avs => aBack vs n nx g K st (aOne avs)
  | .ret, st => aResL P st rs fun avs => aBack vs n nx g K st (aOne avs)
  | _, _ => False
section
variable {P : Program} {rs : List ResultVar} {vs : Array Value} {n nx g k i : Nat} {K : AV → ASt → Prop} {st : ASt} {o : AObj} {T : ATab}
theorem aRetI_n : aRetI P rs vs n nx g K .normal st = aResL P st rs fun avs => aBack vs n nx g K st (aOne avs) := rfl
theorem aRetI_r : aRetI P rs vs n nx g K .ret st = aResL P st rs fun avs => aBack vs n nx g K st (aOne avs) := rfl
theorem shiftT_nil : ATab.shift k [] = [] := rfl
theorem shiftT_some : ATab.shift k ((i, some o) :: T) = (i + k, some (o.shift k)) :: ATab.shift k T := rfl
theorem shiftT_none : ATab.shift k ((i, none) :: T) = (i + k, none) :: ATab.shift k T := rfl
end
theorem objLt_mono {n m : Nat} (hnm : n ≤ m) : ∀ {o : AObj}, o.lt n → o.lt m
  | .box _ _, h => ltL_iff.2 fun x hx => AV.lt_mono hnm (ltL_iff.1 h x hx)
  | .row _ _ _, _ => trivial
  | .map _, _ => trivial
  | .ghost _ _, h => envLt_mono hnm h
theorem objLt_shift {n k : Nat} : ∀ {o : AObj}, o.lt n → (o.shift k).lt (k + n)
  | .box _ cells, h => by
    show AV.ltL _ (AV.shiftL k cells)
    rw [shiftL_map]
    refine ltL_iff.2 fun x hx => ?_
    obtain ⟨y, hy, rfl⟩ := List.mem_map.1 hx
    exact lt_shift (ltL_iff.1 h y hy)
  | .row _ _ _, _ => trivial
  | .map _, _ => trivial
  | .ghost _ _, h => envLt_shift h
theorem shift_sz (k : Nat) (o : AObj) : (o.shift k).sz = o.sz := by cases o <;> simp [AObj.shift, AObj.sz, shiftL_map]
theorem envLt_live {cx : Cx} {a : Act} {w : World} {st : ASt} {L : Nat → Value} (h : Conc cx a w st L) : ∀ ts : List Nat, envLt st.next (liveEnv st ts)
  | [] => trivial
  | t :: ts => ⟨(h.env t).2, envLt_live h ts⟩
section
variable {P : Program} {cx : Cx} {a : Act} {w : World} {st : ASt} {L : Nat → Value}
theorem resL_okL (h : Conc cx a w st L) : ∀ (l : List ResultVar) (K : List AV → Prop), aResL P st l K →
    ∃ vs avs, K avs ∧ vs.length = avs.length ∧ AV.ltL st.next avs ∧ (∀ (j : Nat) (v : Value) (av : AV), vs[j]? = some v → avs[j]? = some av → RVx cx w st.tab L v av) ∧
      (l.mapM (resVar a.tmps) : Sem (List Value)).run P w = .ok vs w
  | [], K, hp => ⟨[], [], hp, rfl, trivial, by simp, by simp⟩
  | .tmp t :: l, K, hp => by
    obtain ⟨vs, avs, h1, h2, hl, h3, h4⟩ := resL_okL h l _ hp
    refine ⟨a.tmps.getD t undef :: vs, st.get t :: avs, h1, by simp [h2], ⟨(h.env t).2, hl⟩, fun j v av h5 h6 => ?_, ?_⟩
    · cases j with
      | zero =>
        cases h5
        cases h6
        exact (h.env t).1
      | succ j => exact h3 j v av (by simpa using h5) (by simpa using h6)
    · simp only [List.mapM_cons, resVar, Sem.run_bind, Sem.run_pure, Result.andThen_ok, h4]
  | .cell p ty :: l, K, hp => by
    obtain ⟨u, au, h1, h2, h3, h4⟩ := (load_ok (nx := st.next) h.lay (fun id o hid => (h.young id o hid).2) (h.env p).1 hp).one
    obtain ⟨vs, avs, h5, h6, hl, h7, h8⟩ := resL_okL h l _ h1
    refine ⟨u :: vs, au :: avs, h5, by simp [h6], ⟨h3, hl⟩, fun j v av h9 h10 => ?_, ?_⟩
    · cases j with
      | zero =>
        cases h9
        cases h10
        exact h2
      | succ j => exact h7 j v av (by simpa using h9) (by simpa using h10)
    · have := asAddr_of_load (h4 w (Below.refl _ _))
      simp only [List.mapM_cons, resVar]
      rw [Sem.run_bind, this]
      simp only [Sem.run_bind, Sem.run_pure, Result.andThen_ok, h8]
theorem res_okL {fn : Func} {K : AV → Prop} (h : Conc cx a w st L) (hp : aResL P st fn.results.toList fun avs => K (aOne avs)) : ∃ v av, K av ∧ RVx cx w st.tab L v av ∧ av.lt st.next ∧ (results fn a.tmps).run P w = .ok v w := by
  obtain ⟨vs, avs, h1, h2, hl, h3, h4⟩ := resL_okL h _ _ hp
  have hm : (results fn a.tmps).run P w = .ok (if h : vs.toArray.size = 1 then vs.toArray[0] else .tuple vs.toArray) w := by
    rw [results_eq, Sem.run_bind, Array.mapM_eq_mapM_toList]
    simp only [bind_pure_comp, Sem.run_map, h4]
    rfl
  refine ⟨_, aOne avs, h1, ?_, ?_, hm⟩
  · clear hm h4 h1 hl
    match vs, avs, h2, h3 with
    | [v], [av], _, h3 => exact h3 0 v av rfl rfl
    | [], [], _, h3 => exact .tup _ _ rfl (by simp)
    | v :: v' :: vs, av :: av' :: avs, h2, h3 =>
      simp only [aOne, List.size_toArray, List.length_cons]
      rw [dif_neg (by omega)]
      exact .tup _ _ (by simpa using h2) fun j x av h4 h5 => h3 j x av (by simpa using h4) h5
  · clear hm h4 h1 h3 h2
    match avs, hl with
    | [av], hl => exact hl.1
    | [], hl => exact hl
    | av :: av' :: avs, hl => exact hl
end
/-- code, as it is, and what lies outside of the call's own stays -/
def SCZ (P : Program) (c : Code) (t : Nat) (Q : Exit → ASt → Prop) (st : ASt) : Prop := ∀ (cx : Cx) (a : Act) (w : World) (L : Nat → Value), Conc cx a w st L → c.wp P (AfterZ cx a w st.tab L t Q) a w
theorem scz_of {P : Program} (hm : P.follows .mixedOrders = true) {c : Code} {t : Nat} (hz : zCode t c = true) {Q : Exit → ASt → Prop} {st : ASt} (h : aCode P c Q st) : SCZ P c t Q st := fun cx a w L hc => code_okZ hm t c hz Q a w st L hc h
theorem inl_of_scz {P : Program} {f : FuncId} {fn : Func} {c : Code} (hf : P.funcs[f]? = some fn) (hb : fn.body = some c) (hname : (fn.name == "runtime.NumGoroutine") = false) {st : ASt} {avs : List AV} {K : AV → ASt → Prop} {n : Nat} (hnt : fn.ntmps = n) {rs : List ResultVar} (hrs : fn.results = rs.toArray)
    (hn : Nat.ble avs.length n = true) (g : Nat) (ts : List Nat)
    (h : ∀ vs : Array Value, SCZ P c n (aRetI P rs vs st.n st.next g K) ⟨n, envOf 0 avs, (st.next, some (.ghost vs (liveEnv st ts))) :: st.tab, st.next + 1⟩) : aInl P st f avs K := by
  have hn := Nat.le_of_ble_eq_true hn
  subst hnt
  refine ⟨fun vs w => ?_, fun cx a w L vs dst hc hvn hv => ?_⟩
  · have : ¬ fn.name = "runtime.NumGoroutine" := by simpa using hname
    simp [callFunc, Sem.run_bind, hf, this, hb]
  obtain ⟨tab2, ht2⟩ : ∃ tab2 : ATab, tab2 = (st.next, some (.ghost a.tmps (liveEnv st ts))) :: st.tab := ⟨_, rfl⟩
  have hget : ∀ id, tab2.get id = if id = st.next then some (.ghost a.tmps (liveEnv st ts)) else st.tab.get id := fun id => by rw [ht2, ATab.get_cons]
  have hnone : ∀ id o, st.next ≤ id → st.tab.get id = some o → False := fun id o h1 h2 => by have := (hc.young id o h2).1; omega
  have hold : ∀ id, id < st.next → tab2.get id = st.tab.get id ∧ updL L st.next (.bool false) id = L id := fun id hid => ⟨by rw [hget, if_neg (by omega)], by unfold updL; rw [if_neg (by omega)]⟩
  have hLG : updL L st.next (.bool false) st.next = .bool false := by unfold updL; rw [if_pos rfl]
  have hge : ∀ id o, st.next ≤ id → tab2.get id = some o → id = st.next ∧ o = .ghost a.tmps (liveEnv st ts) := fun id o h1 h2 => by
    rw [hget] at h2
    split at h2
    · rename_i e
      cases h2
      exact ⟨e, rfl⟩
    · exact (hnone id o h1 h2).elim
  have hnew : ∀ id o b, st.next ≤ id → tab2.get id = some o → vblk (updL L st.next (.bool false) id) = some b → w.heap.size ≤ b := fun id o b h1 h2 h3 => by
    obtain ⟨rfl, _⟩ := hge id o h1 h2
    rw [hLG] at h3
    cases h3
  have hext := ext_merge (cx := cx) (Below.refl w.heap.size w) hold (fun id o hid => (hc.young id o hid).1) hnew
  have hlay : Lay cx w tab2 (updL L st.next (.bool false)) := lay_merge hc.lay hc.young (Below.refl _ _) hold (fun id o h1 h2 => by
      obtain ⟨rfl, rfl⟩ := hge id o h1 h2
      refine ⟨hLG, fun t ht => ?_⟩
      rcases aget_live st t ts with e | e
      · rw [e]
        exact hext.rv (hc.env t).1 (hc.env t).2
      · rw [e]
        exact .tree (.any _)) hnew fun id id' o o' b h1 h2 h3 h4 _ _ => by rw [(hge id o h1 h3).1, (hge id' o' h2 h4).1]
  have hyoung : ∀ id o, tab2.get id = some o → id < st.next + 1 ∧ o.lt (st.next + 1) := fun id o hid => by
    rcases Nat.lt_or_ge id st.next with hlt | hge'
    · rw [(hold id hlt).1] at hid
      have := hc.young id o hid
      exact ⟨by omega, objLt_mono (Nat.le_succ _) this.2⟩
    · obtain ⟨rfl, rfl⟩ := hge id o hge' hid
      exact ⟨Nat.lt_succ_self _, envLt_mono (Nat.le_succ _) (envLt_live hc ts)⟩
  have hC : Conc cx { tmps := vs ++ Array.replicate (fn.ntmps - vs.size) undef, defers := [] } w ⟨fn.ntmps, envOf 0 avs, tab2, st.next + 1⟩ (updL L st.next (.bool false)) := by
    refine ⟨hlay, ?_, Marks.nil _ _ _, hyoung, fun t => ?_⟩
    · simp
      omega
    have e : (⟨fn.ntmps, envOf 0 avs, tab2, st.next + 1⟩ : ASt).get t = avs.getD t .any := by
      show (if t < fn.ntmps then aget (envOf 0 avs) t else .any) = _
      rw [aget_envOf]
      split
      · simp
      · simp [List.getD, List.getElem?_eq_none (show avs.length ≤ t by omega)]
    rw [e]
    by_cases ht : t < avs.length
    · have ht' : t < vs.size := by omega
      have e2 : (vs ++ Array.replicate (fn.ntmps - vs.size) undef).getD t undef = vs[t] := by
        rw [Array.getD_eq_getD_getElem?, Array.getElem?_append_left ht', Array.getElem?_eq_getElem ht']
        rfl
      have e3 : avs.getD t .any = avs[t] := by simp [List.getD, ht]
      rw [e2, e3]
      have := hv t _ _ (Array.getElem?_eq_getElem ht') (List.getElem?_eq_getElem ht)
      exact ⟨hext.rv this.1 this.2, AV.lt_mono (Nat.le_succ _) this.2⟩
    · have e3 : avs.getD t .any = .any := by simp [List.getD, List.getElem?_eq_none (Nat.le_of_not_lt ht)]
      rw [e3]
      exact ⟨.tree (.any _), trivial⟩
  have hcode := h a.tmps
  rw [← ht2] at hcode
  refine calls_of_wp hf hb (Code.wp_mono (fun ex a' w' ⟨st', L', h1, h2, h3, hA⟩ => ?_) (hcode cx _ w _ hC))
  have hown2 : ∀ b, (∀ id o, st.tab.get id = some o → vblk (L id) ≠ some b) → ∀ id o, tab2.get id = some o → vblk (updL L st.next (.bool false) id) ≠ some b := fun b hb id o hid hg => by
    rcases Nat.lt_or_ge id st.next with hlt | hge'
    · rw [(hold id hlt).1] at hid
      rw [(hold id hlt).2] at hg
      exact hb id o hid hg
    · obtain ⟨rfl, _⟩ := hge id o hge' hid
      rw [hLG] at hg
      cases hg
  have hback : ∀ id o b, tab2.get id = some o → vblk (updL L st.next (.bool false) id) = some b → ∃ id2 o2, st.tab.get id2 = some o2 ∧ vblk (L id2) = some b := fun id o b hid hg => by
    rcases Nat.lt_or_ge id st.next with hlt | hge'
    · rw [(hold id hlt).1] at hid
      rw [(hold id hlt).2] at hg
      exact ⟨id, o, hid, hg⟩
    · obtain ⟨rfl, _⟩ := hge id o hge' hid
      rw [hLG] at hg
      cases hg
  have key : (aResL P st' rs fun avs => aBack a.tmps st.n st.next g K st' (aOne avs)) → a'.defers = [] ∧ ∃ u, (results fn a'.tmps).run P w' = .ok u w' ∧ ∃ v av st'' L'', Ending.returned u = .returned v ∧ K av st'' ∧ Conc cx (a.put dst v) w' (st''.put dst av) L'' ∧ Fr cx w st.tab L st.next w' st''.tab L'' st''.next := fun h1 => by
    obtain ⟨v, av, hbk, hrv, hlv, hrun⟩ := res_okL (K := fun av => aBack a.tmps st.n st.next g K st' av) (fn := fn) h2 (by rw [hrs]; exact h1)
    refine ⟨hA.defers, v, hrun, ?_⟩
    unfold aBack at hbk
    split at hbk
    case h_2 => exact hbk.elim
    rename_i vs' env hg
    obtain ⟨rfl, hK⟩ := hbk
    obtain ⟨_, hgh⟩ := h2.lay.objs g _ hg
    have hghl := (h2.young g _ hg).2
    obtain ⟨tab3, ht3⟩ : ∃ tab3 : ATab, tab3 = (g + st.next, none) :: st'.tab.shift st.next := ⟨_, rfl⟩
    rw [← ht3] at hK
    have hsh : ∀ id, (ATab.shift st.next st'.tab).get id = if id < st.next then none else (st'.tab.get (id - st.next)).map (AObj.shift st.next) := fun id => by
      have := shift_get (tab := []) (k := st.next) (fun id o h => by cases h) st'.tab id
      rw [List.append_nil] at this
      exact this
    have hget3 : ∀ id o, tab3.get id = some o → st.next ≤ id ∧ ∃ o', st'.tab.get (id - st.next) = some o' ∧ o = o'.shift st.next := fun id o hid => by
      rw [ht3, ATab.get_cons] at hid
      split at hid
      · cases hid
      · rw [hsh] at hid
        split at hid
        · cases hid
        · rename_i hlt
          cases ho : st'.tab.get (id - st.next) with
          | none => rw [ho] at hid; cases hid
          | some o' =>
            rw [ho] at hid
            cases hid
            exact ⟨by omega, o', rfl, rfl⟩
    have hS3 : ∀ b, Sx cx w' st'.tab L' b → Sx cx w' tab3 (fun id => L' (id - st.next)) b := fun b hb => ⟨hb.1, hb.2.1, fun id o hid hg => by
      obtain ⟨_, o', h4, _⟩ := hget3 id o hid
      exact hb.2.2 _ o' h4 hg⟩
    have hK3 : ∀ id p, Kx tab3 (fun id => L' (id - st.next)) (id + st.next) = some p → Kx st'.tab L' id = some p := fun id p hk => by
      unfold Kx at *
      cases ho : tab3.get (id + st.next) with
      | none => rw [ho] at hk; cases hk
      | some o =>
        obtain ⟨_, o', h4, h5⟩ := hget3 _ o ho
        rw [Nat.add_sub_cancel] at h4
        rw [ho] at hk
        rw [h4]
        simp only [Option.map_some, Nat.add_sub_cancel, h5, shift_sz] at hk ⊢
        exact hk
    have hrv3 : ∀ {x av}, RVx cx w' st'.tab L' x av → RVx cx w' tab3 (fun id => L' (id - st.next)) x (av.shift st.next) := fun hr => hr.conv (.inl hS3) hK3
    have hlay3 : Lay cx w' tab3 (fun id => L' (id - st.next)) := by
      refine ⟨h2.lay.below, fun id o hid => ?_, fun id id' o o' b h4 h5 h6 h7 => ?_, fun b hb => ⟨(h2.lay.ex b hb).1, fun id o hid => ?_⟩⟩
      · obtain ⟨_, o', h4, rfl⟩ := hget3 id o hid
        have hob := h2.lay.objs _ o' h4
        cases o' with
        | box t cells =>
          obtain ⟨g', cs, h5, h6, h7, h8, h9⟩ := hob
          refine ⟨g', cs, h5, h6, h7, by simpa [shiftL_map] using h8, fun j x av h10 h11 => ?_⟩
          rw [shiftL_map, List.getElem?_map] at h11
          cases hj : cells[j]? with
          | none => simp [hj] at h11
          | some av' =>
            simp [hj] at h11
            subst h11
            exact ⟨hrv3 (h9 j x av' h10 hj).1, (h9 j x av' h10 hj).2⟩
        | row e sz rows =>
          obtain ⟨h5, xs, h6, h7, h8⟩ := hob
          refine ⟨h5, xs, h6, h7, fun i j row av h9 h10 => ?_⟩
          obtain ⟨x, hx, hrt⟩ := h8 i j row av h9 h10
          exact ⟨x, hx, hrt.mono (fun _ _ => rfl) hS3⟩
        | map ents => exact hob
        | ghost vs2 env2 =>
          refine ⟨hob.1, fun t ht => ?_⟩
          rw [shiftEnv_get]
          exact hrv3 (hob.2 t ht)
      · obtain ⟨k1, o1, h8, _⟩ := hget3 id o h4
        obtain ⟨k2, o2, h9, _⟩ := hget3 id' o' h5
        have := h2.lay.sep _ _ o1 o2 b h8 h9 h6 h7
        omega
      · obtain ⟨_, o', h4, _⟩ := hget3 id o hid
        exact (h2.lay.ex b hb).2 _ o' h4
    have hblk : ∀ b, Sx cx w st.tab L b → w'.heap[b]? = w.heap[b]? := fun b hb => h3.keep b hb.1 (hown2 b hb.2.2)
    have hsub : ∀ b, Sx cx w st.tab L b → Sx cx w' tab3 (fun id => L' (id - st.next)) b := fun b hb => ⟨Nat.lt_of_lt_of_le hb.1 h3.size, hb.2.1, fun id o hid hg => by
      obtain ⟨_, o', h4, _⟩ := hget3 id o hid
      obtain ⟨id2, o2, h5, h6⟩ := h3.young _ o' b h4 hg hb.1
      exact hown2 b hb.2.2 id2 o2 h5 h6⟩
    have hC3 : Conc cx a w' ⟨st.n, shiftEnv st.next env, tab3, st.next + st'.next⟩ (fun id => L' (id - st.next)) := by
      refine ⟨hlay3, hc.size, hc.defers.mono hblk hsub, fun id o hid => ?_, fun t => ?_⟩
      · obtain ⟨h4, o', h5, rfl⟩ := hget3 id o hid
        have := h2.young _ o' h5
        refine ⟨?_, objLt_shift this.2⟩
        show id < st.next + st'.next
        omega
      · show RVx cx w' tab3 _ _ (if t < st.n then aget (shiftEnv st.next env) t else .any) ∧ AV.lt _ (if t < st.n then aget (shiftEnv st.next env) t else .any)
        split
        · rename_i htn
          rw [shiftEnv_get]
          exact ⟨hrv3 (hgh t (by rw [hc.size]; exact htn)), lt_shift (envLt_aget hghl t)⟩
        · exact ⟨.tree (.any _), trivial⟩
    refine ⟨v, _, _, _, rfl, hK, conc_pure hC3 (hrv3 hrv) (lt_shift hlv) dst, ⟨⟨hblk, hsub, fun id p hid hk => ?_⟩, h3.size, fun k hk hn => h3.keep k hk (hown2 k hn), fun id o b h4 h5 h6 => ?_, Nat.le_add_right _ _⟩⟩
    · unfold Kx at hk
      cases ho : tab3.get id with
      | none => rw [ho] at hk; cases hk
      | some o =>
        have := (hget3 id o ho).1
        omega
    · obtain ⟨_, o', h7, _⟩ := hget3 id o h4
      obtain ⟨id2, o2, h8, h9⟩ := h3.young _ o' b h7 h5 h6
      exact hback id2 o2 b h8 h9
  cases ex with
  | normal => exact key h1
  | ret => exact key h1
  | _ => exact h1.elim
theorem inl_of_code {P : Program} (hm : P.follows .mixedOrders = true) {f : FuncId} {fn : Func} {c : Code} (hf : P.funcs[f]? = some fn) (hb : fn.body = some c) (hname : (fn.name == "runtime.NumGoroutine") = false) {st : ASt} {avs : List AV} {K : AV → ASt → Prop} {n : Nat} (hnt : fn.ntmps = n) {rs : List ResultVar} (hrs : fn.results = rs.toArray)
    (hn : Nat.ble avs.length n = true) (hz : zCode n c = true) (g : Nat) (ts : List Nat)
    (h : ∀ vs : Array Value, aCode P c (aRetI P rs vs st.n st.next g K) ⟨n, envOf 0 avs, (st.next, some (.ghost vs (liveEnv st ts))) :: st.tab, st.next + 1⟩) : aInl P st f avs K :=
  inl_of_scz hf hb hname hnt hrs hn g ts fun vs => scz_of hm hz (h vs)
/-- the ghost where it was laid -/
theorem inl_of_code0 {P : Program} (hm : P.follows .mixedOrders = true) {f : FuncId} {fn : Func} {c : Code} (hf : P.funcs[f]? = some fn) (hb : fn.body = some c) (hname : (fn.name == "runtime.NumGoroutine") = false) {st : ASt} {avs : List AV} {K : AV → ASt → Prop} {n : Nat} (hnt : fn.ntmps = n) {rs : List ResultVar} (hrs : fn.results = rs.toArray)
    (hn : Nat.ble avs.length n = true) (hz : zCode n c = true) (ts : List Nat)
    (h : ∀ vs : Array Value, aCode P c (aRetI P rs vs st.n st.next st.next K) ⟨n, envOf 0 avs, (st.next, some (.ghost vs (liveEnv st ts))) :: st.tab, st.next + 1⟩) : aInl P st f avs K :=
  inl_of_code hm hf hb hname hnt hrs hn hz st.next ts h
/-- a call, gone through within its caller -/
theorem callI {P : Program} {st : ASt} {f : FuncId} {avs : List AV} {K : AV → ASt → Prop} (h : aInl P st f avs K) : aCall true P st f avs K := .inr ⟨rfl, .inl (.inr (.inr h))⟩
end
section
open Go.RowKit
theorem tyK_22 : tyK Tryz.prog 22 = TyK.int := by kernel_rfl
theorem tyK_3 : tyK Tryz.prog 3 = TyK.int := by kernel_rfl
theorem tyI_3 : tyInt Tryz.prog 3 = some IntKind.i64 := by kernel_rfl
theorem tyI_22 : tyInt Tryz.prog 22 = some IntKind.u64 := by kernel_rfl
theorem tyB_41 : tyParts Tryz.prog 41 = some ([(0, 1), (1, 1), (2, 1), (3, 1), (4, 1), (5, 1), (6, 1), (7, 1), (8, 1), (9, 1)], [Value.slice none 0 0, Value.slice none 0 0, Value.slice none 0 0, Value.slice none 0 0, Value.slice none 0 0, Value.slice none 0 0, Value.slice none 0 0, Value.slice none 0 0, Value.slice none 0 0, Value.slice none 0 0]) := by kernel_rfl
theorem tyE_28 : tyElem Tryz.prog 28 = (43, 3) := by kernel_rfl
theorem tyK_28 : tyK Tryz.prog 28 = TyK.slice := by kernel_rfl
theorem tyF_43_0 : fOff Tryz.prog 43 0 = some 0 := by kernel_rfl
theorem tyA_3 : tyAgg Tryz.prog 3 = false := by kernel_rfl
theorem tyS_3 : tySize Tryz.prog 3 = 1 := by kernel_rfl
theorem tyA_41 : tyAgg Tryz.prog 41 = true := by kernel_rfl
theorem tyS_41 : tySize Tryz.prog 41 = 10 := by kernel_rfl
theorem tyB_47 : tyParts Tryz.prog 47 = some ([(0, 1)], [Value.int IntKind.u64 0]) := by kernel_rfl
theorem tyZ_51 : tyZero Tryz.prog 51 = some (Value.agg #[Value.slice none 0 0, Value.int IntKind.i64 0, Value.int IntKind.i64 0, Value.slice none 0 0, Value.slice none 0 0]) := by kernel_rfl
theorem tyS_51 : tySize Tryz.prog 51 = 5 := by kernel_rfl
theorem tyA_51 : tyAgg Tryz.prog 51 = true := by kernel_rfl
theorem tyA_43 : tyAgg Tryz.prog 43 = true := by kernel_rfl
theorem tyS_43 : tySize Tryz.prog 43 = 3 := by kernel_rfl
theorem tyZ_43 : tyZero Tryz.prog 43 = some (Value.agg #[Value.int IntKind.i64 0, Value.int IntKind.i64 0, Value.slice none 0 0]) := by kernel_rfl
theorem tyF_43_2 : fOff Tryz.prog 43 2 = some 2 := by kernel_rfl
theorem tyA_32 : tyAgg Tryz.prog 32 = false := by kernel_rfl
theorem tyS_32 : tySize Tryz.prog 32 = 1 := by kernel_rfl
theorem tyE_32 : tyElem Tryz.prog 32 = (2, 1) := by kernel_rfl
theorem tyK_32 : tyK Tryz.prog 32 = TyK.slice := by kernel_rfl
theorem tyS_2 : tySize Tryz.prog 2 = 1 := by kernel_rfl
theorem tyR_28 : tyRow Tryz.prog 28 = some (43, 3, 40) := by kernel_rfl
theorem tyF_47_0 : fOff Tryz.prog 47 0 = some 0 := by kernel_rfl
theorem tyA_22 : tyAgg Tryz.prog 22 = false := by kernel_rfl
theorem tyS_22 : tySize Tryz.prog 22 = 1 := by kernel_rfl
theorem tyF_41_5 : fOff Tryz.prog 41 5 = some 5 := by kernel_rfl
theorem tyA_35 : tyAgg Tryz.prog 35 = false := by kernel_rfl
theorem tyS_35 : tySize Tryz.prog 35 = 1 := by kernel_rfl
theorem tyK_56 : tyK Tryz.prog 56 = TyK.int := by kernel_rfl
theorem tyF_41_9 : fOff Tryz.prog 41 9 = some 9 := by kernel_rfl
theorem tyA_39 : tyAgg Tryz.prog 39 = false := by kernel_rfl
theorem tyS_39 : tySize Tryz.prog 39 = 1 := by kernel_rfl
theorem tyE_35 : tyElem Tryz.prog 35 = (71, 5) := by kernel_rfl
theorem tyK_35 : tyK Tryz.prog 35 = TyK.slice := by kernel_rfl
theorem tyA_71 : tyAgg Tryz.prog 71 = true := by kernel_rfl
theorem tyS_71 : tySize Tryz.prog 71 = 5 := by kernel_rfl
theorem tyZ_71 : tyZero Tryz.prog 71 = some (Value.agg #[Value.string ByteArray.empty, Value.int IntKind.i64 0, Value.int IntKind.i64 0, Value.slice none 0 0, Value.int IntKind.i64 0]) := by kernel_rfl
theorem tyE_49 : tyElem Tryz.prog 49 = (3, 1) := by kernel_rfl
theorem tyK_49 : tyK Tryz.prog 49 = TyK.slice := by kernel_rfl
theorem tyF_71_3 : fOff Tryz.prog 71 3 = some 3 := by kernel_rfl
theorem tyA_49 : tyAgg Tryz.prog 49 = false := by kernel_rfl
theorem tyS_49 : tySize Tryz.prog 49 = 1 := by kernel_rfl
theorem tyR_32 : tyRow Tryz.prog 32 = some (2, 1, 8) := by kernel_rfl
theorem tyB_43 : tyParts Tryz.prog 43 = some ([(0, 1), (1, 1), (2, 1)], [Value.int IntKind.i64 0, Value.int IntKind.i64 0, Value.slice none 0 0]) := by kernel_rfl
theorem tyF_51_0 : fOff Tryz.prog 51 0 = some 0 := by kernel_rfl
theorem tyA_2 : tyAgg Tryz.prog 2 = false := by kernel_rfl
theorem tyB_51 : tyParts Tryz.prog 51 = some ([(0, 1), (1, 1), (2, 1), (3, 1), (4, 1)], [Value.slice none 0 0, Value.int IntKind.i64 0, Value.int IntKind.i64 0, Value.slice none 0 0, Value.slice none 0 0]) := by kernel_rfl
theorem tyF_41_0 : fOff Tryz.prog 41 0 = some 0 := by kernel_rfl
theorem tyA_31 : tyAgg Tryz.prog 31 = false := by kernel_rfl
theorem tyS_31 : tySize Tryz.prog 31 = 1 := by kernel_rfl
theorem tyE_31 : tyElem Tryz.prog 31 = (9, 1) := by kernel_rfl
theorem tyK_31 : tyK Tryz.prog 31 = TyK.slice := by kernel_rfl
theorem tyF_41_1 : fOff Tryz.prog 41 1 = some 1 := by kernel_rfl
theorem tyF_41_2 : fOff Tryz.prog 41 2 = some 2 := by kernel_rfl
theorem tyF_41_3 : fOff Tryz.prog 41 3 = some 3 := by kernel_rfl
theorem tyA_33 : tyAgg Tryz.prog 33 = false := by kernel_rfl
theorem tyS_33 : tySize Tryz.prog 33 = 1 := by kernel_rfl
theorem tyE_33 : tyElem Tryz.prog 33 = (81, 2) := by kernel_rfl
theorem tyK_33 : tyK Tryz.prog 33 = TyK.slice := by kernel_rfl
theorem tyF_41_4 : fOff Tryz.prog 41 4 = some 4 := by kernel_rfl
theorem tyA_34 : tyAgg Tryz.prog 34 = false := by kernel_rfl
theorem tyS_34 : tySize Tryz.prog 34 = 1 := by kernel_rfl
theorem tyE_34 : tyElem Tryz.prog 34 = (83, 2) := by kernel_rfl
theorem tyK_34 : tyK Tryz.prog 34 = TyK.slice := by kernel_rfl
theorem tyF_41_6 : fOff Tryz.prog 41 6 = some 6 := by kernel_rfl
theorem tyA_36 : tyAgg Tryz.prog 36 = false := by kernel_rfl
theorem tyS_36 : tySize Tryz.prog 36 = 1 := by kernel_rfl
theorem tyE_36 : tyElem Tryz.prog 36 = (88, 3) := by kernel_rfl
theorem tyK_36 : tyK Tryz.prog 36 = TyK.slice := by kernel_rfl
theorem tyF_41_7 : fOff Tryz.prog 41 7 = some 7 := by kernel_rfl
theorem tyA_37 : tyAgg Tryz.prog 37 = false := by kernel_rfl
theorem tyS_37 : tySize Tryz.prog 37 = 1 := by kernel_rfl
theorem tyE_37 : tyElem Tryz.prog 37 = (91, 5) := by kernel_rfl
theorem tyK_37 : tyK Tryz.prog 37 = TyK.slice := by kernel_rfl
theorem tyF_41_8 : fOff Tryz.prog 41 8 = some 8 := by kernel_rfl
theorem tyA_38 : tyAgg Tryz.prog 38 = false := by kernel_rfl
theorem tyS_38 : tySize Tryz.prog 38 = 1 := by kernel_rfl
theorem tyE_38 : tyElem Tryz.prog 38 = (93, 2) := by kernel_rfl
theorem tyK_38 : tyK Tryz.prog 38 = TyK.slice := by kernel_rfl
theorem tyA_81 : tyAgg Tryz.prog 81 = true := by kernel_rfl
theorem tyS_81 : tySize Tryz.prog 81 = 2 := by kernel_rfl
theorem tyZ_81 : tyZero Tryz.prog 81 = some (Value.agg #[Value.string ByteArray.empty, Value.int IntKind.i64 0]) := by kernel_rfl
theorem tyF_81_1 : fOff Tryz.prog 81 1 = some 1 := by kernel_rfl
theorem tyA_83 : tyAgg Tryz.prog 83 = true := by kernel_rfl
theorem tyS_83 : tySize Tryz.prog 83 = 2 := by kernel_rfl
theorem tyZ_83 : tyZero Tryz.prog 83 = some (Value.agg #[Value.string ByteArray.empty, Value.int IntKind.i64 0]) := by kernel_rfl
theorem tyF_83_1 : fOff Tryz.prog 83 1 = some 1 := by kernel_rfl
theorem tyA_88 : tyAgg Tryz.prog 88 = true := by kernel_rfl
theorem tyS_88 : tySize Tryz.prog 88 = 3 := by kernel_rfl
theorem tyZ_88 : tyZero Tryz.prog 88 = some (Value.agg #[Value.int IntKind.i64 0, Value.int IntKind.i64 0, Value.slice none 0 0]) := by kernel_rfl
theorem tyF_88_0 : fOff Tryz.prog 88 0 = some 0 := by kernel_rfl
theorem tyF_88_1 : fOff Tryz.prog 88 1 = some 1 := by kernel_rfl
theorem tyF_88_2 : fOff Tryz.prog 88 2 = some 2 := by kernel_rfl
theorem tyA_86 : tyAgg Tryz.prog 86 = false := by kernel_rfl
theorem tyS_86 : tySize Tryz.prog 86 = 1 := by kernel_rfl
theorem tyA_91 : tyAgg Tryz.prog 91 = true := by kernel_rfl
theorem tyS_91 : tySize Tryz.prog 91 = 5 := by kernel_rfl
theorem tyZ_91 : tyZero Tryz.prog 91 = some (Value.agg #[Value.string ByteArray.empty, Value.int IntKind.i64 0, Value.int IntKind.i64 0, Value.slice none 0 0, Value.bool false]) := by kernel_rfl
theorem tyF_91_1 : fOff Tryz.prog 91 1 = some 1 := by kernel_rfl
theorem tyF_91_2 : fOff Tryz.prog 91 2 = some 2 := by kernel_rfl
theorem tyF_91_3 : fOff Tryz.prog 91 3 = some 3 := by kernel_rfl
theorem tyA_93 : tyAgg Tryz.prog 93 = true := by kernel_rfl
theorem tyS_93 : tySize Tryz.prog 93 = 2 := by kernel_rfl
theorem tyZ_93 : tyZero Tryz.prog 93 = some (Value.agg #[Value.int IntKind.i64 0, Value.int IntKind.i64 0]) := by kernel_rfl
theorem tyF_93_0 : fOff Tryz.prog 93 0 = some 0 := by kernel_rfl
theorem tyF_93_1 : fOff Tryz.prog 93 1 = some 1 := by kernel_rfl
theorem tyF_71_4 : fOff Tryz.prog 71 4 = some 4 := by kernel_rfl
theorem tyR_49 : tyRow Tryz.prog 49 = some (3, 1, 8) := by kernel_rfl
theorem tyZ_39 : tyZero Tryz.prog 39 = some (Value.slice none 0 0) := by kernel_rfl
theorem tyE_39 : tyElem Tryz.prog 39 = (67, 2) := by kernel_rfl
theorem tyK_39 : tyK Tryz.prog 39 = TyK.slice := by kernel_rfl
theorem tyA_67 : tyAgg Tryz.prog 67 = true := by kernel_rfl
theorem tyS_67 : tySize Tryz.prog 67 = 2 := by kernel_rfl
theorem tyR_39 : tyRow Tryz.prog 39 = some (67, 2, 16) := by kernel_rfl
theorem tyK_67 : tyK Tryz.prog 67 = TyK.other := by kernel_rfl
theorem tyZ_67 : tyZero Tryz.prog 67 = some (Value.agg #[Value.bool false, Value.int IntKind.i64 0]) := by kernel_rfl
theorem tyF_51_3 : fOff Tryz.prog 51 3 = some 3 := by kernel_rfl
theorem tyF_51_4 : fOff Tryz.prog 51 4 = some 4 := by kernel_rfl
theorem tyF_51_1 : fOff Tryz.prog 51 1 = some 1 := by kernel_rfl
theorem tyF_51_2 : fOff Tryz.prog 51 2 = some 2 := by kernel_rfl
theorem tyK_4 : tyK Tryz.prog 4 = TyK.bool := by kernel_rfl
theorem tyF_43_1 : fOff Tryz.prog 43 1 = some 1 := by kernel_rfl
theorem tyF_71_1 : fOff Tryz.prog 71 1 = some 1 := by kernel_rfl
theorem tyF_71_2 : fOff Tryz.prog 71 2 = some 2 := by kernel_rfl
theorem tyE_112 : tyElem Tryz.prog 112 = (115, 2) := by kernel_rfl
theorem tyK_112 : tyK Tryz.prog 112 = TyK.slice := by kernel_rfl
theorem tyA_115 : tyAgg Tryz.prog 115 = true := by kernel_rfl
theorem tyS_115 : tySize Tryz.prog 115 = 2 := by kernel_rfl
theorem tyZ_115 : tyZero Tryz.prog 115 = some (Value.agg #[Value.int IntKind.i64 0, Value.int IntKind.i64 0]) := by kernel_rfl
theorem tyF_115_0 : fOff Tryz.prog 115 0 = some 0 := by kernel_rfl
theorem tyF_115_1 : fOff Tryz.prog 115 1 = some 1 := by kernel_rfl
theorem tyB_67 : tyParts Tryz.prog 67 = some ([(0, 1), (1, 1)], [Value.bool false, Value.int IntKind.i64 0]) := by kernel_rfl
theorem tyZ_124 : tyZero Tryz.prog 124 = some (Value.agg #[Value.int IntKind.i64 0, Value.int IntKind.i64 0, Value.slice none 0 0, Value.int IntKind.i64 0]) := by kernel_rfl
theorem tyS_124 : tySize Tryz.prog 124 = 4 := by kernel_rfl
theorem tyF_124_2 : fOff Tryz.prog 124 2 = some 2 := by kernel_rfl
theorem tyF_67_0 : fOff Tryz.prog 67 0 = some 0 := by kernel_rfl
theorem tyA_4 : tyAgg Tryz.prog 4 = false := by kernel_rfl
theorem tyS_4 : tySize Tryz.prog 4 = 1 := by kernel_rfl
theorem tyF_124_3 : fOff Tryz.prog 124 3 = some 3 := by kernel_rfl
theorem tyF_124_0 : fOff Tryz.prog 124 0 = some 0 := by kernel_rfl
theorem tyZ_4 : tyZero Tryz.prog 4 = some (Value.bool false) := by kernel_rfl
theorem tyE_86 : tyElem Tryz.prog 86 = (119, 7) := by kernel_rfl
theorem tyK_86 : tyK Tryz.prog 86 = TyK.slice := by kernel_rfl
theorem tyA_119 : tyAgg Tryz.prog 119 = true := by kernel_rfl
theorem tyS_119 : tySize Tryz.prog 119 = 7 := by kernel_rfl
theorem tyZ_119 : tyZero Tryz.prog 119 = some (Value.agg #[Value.int IntKind.i64 0, Value.int IntKind.i64 0, Value.int IntKind.i64 0, Value.int IntKind.i64 0, Value.int IntKind.i64 0, Value.int IntKind.i64 0, Value.int IntKind.i64 0]) := by kernel_rfl
theorem tyF_119_0 : fOff Tryz.prog 119 0 = some 0 := by kernel_rfl
theorem tyF_119_1 : fOff Tryz.prog 119 1 = some 1 := by kernel_rfl
theorem tyF_119_2 : fOff Tryz.prog 119 2 = some 3 := by kernel_rfl
theorem tyR_112 : tyRow Tryz.prog 112 = some (115, 2, 16) := by kernel_rfl
theorem tyF_67_1 : fOff Tryz.prog 67 1 = some 1 := by kernel_rfl
theorem tyF_124_1 : fOff Tryz.prog 124 1 = some 1 := by kernel_rfl
theorem tyA_124 : tyAgg Tryz.prog 124 = true := by kernel_rfl
theorem tyB_124 : tyParts Tryz.prog 124 = some ([(0, 1), (1, 1), (2, 1), (3, 1)], [Value.int IntKind.i64 0, Value.int IntKind.i64 0, Value.slice none 0 0, Value.int IntKind.i64 0]) := by kernel_rfl
theorem tyF_91_4 : fOff Tryz.prog 91 4 = some 4 := by kernel_rfl
theorem tyZ_3 : tyZero Tryz.prog 3 = some (Value.int IntKind.i64 0) := by kernel_rfl
theorem tyZ_2 : tyZero Tryz.prog 2 = some (Value.int IntKind.i64 0) := by kernel_rfl
end
section
open Go.RowKit

theorem and_one_i64 (x : Int) : bits .and .i64 x 1 = x % 2 := by
  show IntKind.i64.wrap ((BitVec.ofInt 64 x &&& BitVec.ofInt 64 1).toNat : Int) = _
  have h : (BitVec.ofInt 64 x &&& BitVec.ofInt 64 1).toNat = (x % 2).toNat := by
    rw [BitVec.toNat_and, show (BitVec.ofInt 64 1).toNat = 1 from rfl, Nat.and_one_is_mod, BitVec.toNat_ofInt]
    omega
  rw [h]
  have : IntKind.i64.wrap (((x % 2).toNat : Nat) : Int) = ((x % 2).toNat : Int) := by
    simp [IntKind.wrap, IntKind.bits, IntKind.signed]
    omega
  rw [this]
  omega

structure Inst where
  op : Int
  la : Int
  ln : Int
  ra : Int
  rn : Int
  n : Int
  u : Int
structure St where
  vals : List Int
  opn : Int
  don : Int
  did : List Int
  cnt : List Int

def hasB (s i : Int) : Bool := decide (0 ≤ i) && decide (i < 31) && (s / 2 ^ i.toNat % 2 == 1)
def soB (op c : Int) : Bool :=
  if op = 3 then decide (c < 0) else if op = 4 then decide (c ≤ 0) else if op = 5 then decide (0 < c) else if op = 6 then decide (0 ≤ c) else if op = 7 then c == 0 else if op = 8 then c != 0 else false
def cmpI (a b : Int) : Int := if a < b then -1 else if b < a then 1 else 0
def valO (vals : List Int) (a n : Int) : Option Int := if a = -1 then some n else if a < 0 then none else vals[a.toNat]?
def arity (op : Int) : Int :=
  if 1 ≤ op ∧ op ≤ 14 then 0 else if op = 15 ∨ (19 ≤ op ∧ op ≤ 24) then 1 else if (16 ≤ op ∧ op ≤ 18) ∨ op = 25 ∨ op = 26 then 2 else -1
/-- how many formulas stand in the row behind one more sign -/
def pushN (d : Nat) (op : Int) : Option Nat :=
  if arity op = 0 then some (d + 1) else if arity op = 1 ∧ 1 ≤ d then some d else if arity op = 2 ∧ 2 ≤ d then some (d - 1) else none
def rowN : List Int → Nat → Option Nat
  | [], d => some d
  | op :: l, d => match pushN d op with
    | some d' => rowN l d'
    | none => none
/-- why a list of signs may be no formula -/
def checkE (l : List Int) : Int := if l.length = 0 then 12 else if 64 < l.length then 3 else if rowN l 0 = some 1 then 0 else 17
/-- one instruction, on a row of truths (the last one first); cm: what a comparison's two sides are to one another -/
def stepG (cm : Inst → Option Int) (opn don : Int) (x : Inst) (r : List Bool) : Option (List Bool) :=
  if x.op = 1 ∨ x.op = 2 then some ((x.op == 1) :: r)
  else if 3 ≤ x.op ∧ x.op ≤ 8 then
    match cm x with
    | some c => some (soB x.op c :: r)
    | none => none
  else if x.op = 9 then some (hasB opn x.n :: r)
  else if x.op = 10 then some (hasB don x.n :: r)
  else if x.op = 15 then
    match r with
    | a :: r => some ((!a) :: r)
    | [] => none
  else if 16 ≤ x.op ∧ x.op ≤ 18 then
    match r with
    | b :: a :: r => some ((if x.op = 16 then a && b else if x.op = 17 then a || b else !a || b) :: r)
    | _ => none
  else none
def runG (cm : Inst → Option Int) (opn don : Int) : List Inst → List Bool → Option (List Bool)
  | [], r => some r
  | x :: l, r => match stepG cm opn don x r with
    | some r' => runG cm opn don l r'
    | none => none
/-- what a condition is: its truth, or that it is none -/
def holdsG (cm : Inst → Option Int) (opn don : Int) (l : List Inst) : Option Bool :=
  if checkE (l.map Inst.op) ≠ 0 then none else
    match runG cm opn don l [] with
    | some (b :: _) => some b
    | _ => none
def cmS (vals : List Int) (x : Inst) : Option Int := match valO vals x.la x.ln, valO vals x.ra x.rn with
  | some a, some b => some (cmpI a b)
  | _, _ => none
def holdsO (l : List Inst) (s : St) : Option Bool := holdsG (cmS s.vals) s.opn s.don l
def optB (o : Option Bool) : Bool := o.getD false
def optE (o : Option Bool) : Int := if o.isSome then 0 else 17
end
section
open Go.RowKit Go.ChangeShapes Go.WideShapes Go.Deep

/-- S: the blocks that the data may lie in -/
structure Rep (α : Type) where
  size : Nat
  at_ : World → (Nat → Prop) → List Value → α → Prop
  len : ∀ {w : World} {S : Nat → Prop} {cs : List Value} {a : α}, at_ w S cs a → cs.length = size
  keep : ∀ {w w' : World} {S : Nat → Prop} {cs : List Value} {a : α}, at_ w S cs a → (∀ p : Addr, S p.block → w'.cell? p = w.cell? p) → at_ w' S cs a
  mono : ∀ {w : World} {S S' : Nat → Prop} {cs : List Value} {a : α}, at_ w S cs a → (∀ b, S b → S' b) → at_ w S' cs a

/-- the value v of one cell holds the plain value a -/
def Rep.one {α : Type} (r : Rep α) (w : World) (S : Nat → Prop) (v : Value) (a : α) : Prop := r.at_ w S [v] a
/-- the struct's value v holds the plain value a -/
def Rep.agg {α : Type} (r : Rep α) (w : World) (S : Nat → Prop) (v : Value) (a : α) : Prop := ∃ cs : Array Value, v = .agg cs ∧ r.at_ w S cs.toList a

def intR (k : IntKind) : Rep Int where
  size := 1
  at_ := fun _ _ cs n => cs = [.int k n] ∧ (Lit.int k n).wf = true
  len := fun h => by rw [h.1]; rfl
  keep := fun h _ => h
  mono := fun h _ => h
def strR : Rep ByteArray where
  size := 1
  at_ := fun _ _ cs s => cs = [.string s] ∧ s.size ≤ 9223372036854775807
  len := fun h => by rw [h.1]; rfl
  keep := fun h _ => h
  mono := fun h _ => h

/-- the cells of a list of things, one behind the other, at an address -/
def rowAt {α : Type} (r : Rep α) (w : World) (S : Nat → Prop) (b o : Nat) (l : List α) : Prop :=
  ∀ i (h : i < l.length), ∃ cs, (∀ j u, cs[j]? = some u → w.cell? ⟨b, o + i * r.size + j, none⟩ = some u) ∧ r.at_ w S cs l[i]
theorem rowAt_keep {α : Type} {r : Rep α} {w w' : World} {S : Nat → Prop} {b o : Nat} {l : List α} (h : rowAt r w S b o l) (hb : S b) (hk : ∀ p : Addr, S p.block → w'.cell? p = w.cell? p) : rowAt r w' S b o l := by
  intro i hi
  obtain ⟨cs, h1, h2⟩ := h i hi
  exact ⟨cs, fun j u hu => (hk _ hb).trans (h1 j u hu), r.keep h2 hk⟩
theorem rowAt_mono {α : Type} {r : Rep α} {w : World} {S S' : Nat → Prop} {b o : Nat} {l : List α} (h : rowAt r w S b o l) (hB : ∀ b, S b → S' b) : rowAt r w S' b o l := by
  intro i hi
  obtain ⟨cs, h1, h2⟩ := h i hi
  exact ⟨cs, h1, r.mono h2 hB⟩

def sliceR {α : Type} (r : Rep α) : Rep (List α) where
  size := 1
  at_ := fun w S cs l => ∃ A c, cs = [.slice A l.length c] ∧ l.length ≤ c ∧ c ≤ 9223372036854775807 ∧ (0 < l.length → ∃ b o, A = some ⟨b, o, none⟩ ∧ S b ∧ rowAt r w S b o l)
  len := fun ⟨A, c, h, _⟩ => by rw [h]; rfl
  keep := fun ⟨A, c, h1, h2, h3, h4⟩ hk => ⟨A, c, h1, h2, h3, fun hl => by
    obtain ⟨b, o, e, hb, hr⟩ := h4 hl
    exact ⟨b, o, e, hb, rowAt_keep hr hb hk⟩⟩
  mono := fun ⟨A, c, h1, h2, h3, h4⟩ hB => ⟨A, c, h1, h2, h3, fun hl => by
    obtain ⟨b, o, e, hb, hr⟩ := h4 hl
    exact ⟨b, o, e, hB b hb, rowAt_mono hr hB⟩⟩

theorem Rep.below {α : Type} {r : Rep α} {w w' : World} {S : Nat → Prop} {B' : Nat} {cs : List Value} {a : α} (h : r.at_ w S cs a) (hb : Below B' w w') (hB : ∀ b, S b → b < B') : r.at_ w' S cs a :=
  r.keep h fun p hp => hb.cell (hB _ hp)
theorem Rep.one_below {α : Type} {r : Rep α} {w w' : World} {S : Nat → Prop} {B' : Nat} {v : Value} {a : α} (h : r.one w S v a) (hb : Below B' w w') (hB : ∀ b, S b → b < B') : r.one w' S v a := Rep.below (r := r) h hb hB
/-- an int's range -/
theorem wf_i64 {n : Int} (h : (Lit.int .i64 n).wf = true) : -9223372036854775808 ≤ n ∧ n ≤ 9223372036854775807 := by
  simpa [Lit.wf, IntKind.min, IntKind.max, IntKind.signed, IntKind.bits] using h
theorem wf_i64_mk {n : Int} (h1 : -9223372036854775808 ≤ n) (h2 : n ≤ 9223372036854775807) : (Lit.int .i64 n).wf = true := by
  simp [Lit.wf, IntKind.min, IntKind.max, IntKind.signed, IntKind.bits]; omega

/-! ### the elements of a slice, met in a walk -/
section
variable {α : Type} {r : Rep α} {w w' : World} {S : Nat → Prop} {v : Value} {l : List α}
theorem slice_form (h : (sliceR r).one w S v l) : ∃ A c, v = .slice A l.length c ∧ l.length ≤ c ∧ c ≤ 9223372036854775807 := by
  obtain ⟨A, c, h1, h2, h3, _⟩ := h
  exact ⟨A, c, by simpa using h1, h2, h3⟩
theorem slice_some {A : Option Addr} {n c : Nat} (h : (sliceR r).one w S (.slice A n c) l) (hn : 0 < l.length) : ∃ b o, A = some ⟨b, o, none⟩ ∧ S b ∧ rowAt r w S b o l := by
  obtain ⟨A', c', h1, _, _, h4⟩ := h
  simp at h1
  obtain ⟨rfl, _, _⟩ := h1
  exact h4 hn
theorem slice_at1 (hs : r.size = 1) {b o c : Nat} {n : Nat} (h : (sliceR r).one w S (.slice (some ⟨b, o, none⟩) n c) l) {k : Nat} (hk : k < l.length) : ∃ u, w.cell? ⟨b, o + k, none⟩ = some u ∧ r.at_ w S [u] l[k] := by
  obtain ⟨b', o', e, _, hr⟩ := slice_some h (by omega)
  simp at e
  obtain ⟨rfl, rfl⟩ := e
  obtain ⟨cs, h1, h2⟩ := hr k hk
  have hl := r.len h2
  rw [hs] at hl h1
  match cs, hl with
  | [u], _ => exact ⟨u, by simpa using h1 0 u rfl, h2⟩
/-- an owned row, seen as a slice of things -/
theorem slice_own {base : Nat} {e : TypeId} {size n : Nat} {xs : List Value} (h : w.ownsRow base e size v n xs) (hs : r.size = size) (hn : n = l.length) (hx : ∀ i (hi : i < l.length), r.at_ w (fun b => base ≤ b ∧ b < w.heap.size) ((xs.drop (i * size)).take size) l[i]) :
    (sliceR r).one w (fun b => base ≤ b ∧ b < w.heap.size) v l := by
  subst hn
  rcases h.2 with ⟨rfl, h0⟩ | ⟨g, cap, cur, rfl, hb, hg, hc, hm, hcs, ht⟩
  · refine ⟨none, 0, by rw [h0], by omega, by omega, fun hl => by omega⟩
  · refine ⟨some ⟨g, 0, none⟩, cap, rfl, hc, by simpa [maxLen] using hm, fun hl => ⟨g, 0, rfl, ⟨hb, (Array.getElem?_eq_some_iff.1 hg).1⟩, fun i hi => ⟨_, fun j u hu => ?_, hx i hi⟩⟩⟩
    have hj : j < size := by
      have := (List.getElem?_eq_some_iff.1 hu).1
      simp at this; omega
    rw [List.getElem?_take, if_pos hj, List.getElem?_drop] at hu
    have := h.cells (g := g) rfl _ u hu
    rw [addAddr0] at this
    rw [hs, Nat.zero_add]
    exact this
theorem slice_own1 {base : Nat} {e : TypeId} {n : Nat} (f : α → Value) (h : w.ownsRow base e 1 v n (l.map f)) (hs : r.size = 1) (hx : ∀ a ∈ l, r.at_ w (fun b => base ≤ b ∧ b < w.heap.size) [f a] a) : (sliceR r).one w (fun b => base ≤ b ∧ b < w.heap.size) v l := by
  have hn : n = l.length := by have := h.1; simp at this; omega
  refine slice_own h hs hn fun i hi => ?_
  have e : (((l.map f).drop (i * 1)).take 1) = [f l[i]] := by
    rw [Nat.mul_one, List.drop_eq_getElem_cons (by simpa using hi)]
    simp
  rw [e]
  exact hx _ (List.getElem_mem hi)
theorem slice_below (h : (sliceR r).one w S v l) {B' : Nat} (hb : Below B' w w') (hB : ∀ b, S b → b < B') : (sliceR r).one w' S v l := Rep.one_below h hb hB
theorem slice_mono (h : (sliceR r).one w S v l) {S' : Nat → Prop} (hB : ∀ b, S b → S' b) : (sliceR r).one w S' v l := Rep.mono (sliceR r) h hB
theorem slice_keep (h : (sliceR r).one w S v l) (hk : ∀ p : Addr, S p.block → w'.cell? p = w.cell? p) : (sliceR r).one w' S v l := Rep.keep (sliceR r) h hk
end
theorem ints_at {w : World} {S : Nat → Prop} {b o c n : Nat} {l : List Int} (h : (sliceR (intR .i64)).one w S (.slice (some ⟨b, o, none⟩) n c) l) {k : Nat} (hk : k < l.length) :
    w.cell? ⟨b, o + k, none⟩ = some (.int .i64 l[k]) ∧ -9223372036854775808 ≤ l[k] ∧ l[k] ≤ 9223372036854775807 := by
  obtain ⟨u, h1, h2⟩ := slice_at1 (r := intR .i64) rfl h hk
  obtain ⟨h2, h3⟩ := h2
  simp at h2
  subst h2
  exact ⟨h1, wf_i64 h3⟩
section
variable {P : Program}
end
end
section
open Go.RowKit

def ok64 (n : Int) : Prop := -9223372036854775808 ≤ n ∧ n ≤ 9223372036854775807
def Inst.cells (x : Inst) : List Value := [.int .i64 x.op, .int .i64 x.la, .int .i64 x.ln, .int .i64 x.ra, .int .i64 x.rn, .int .i64 x.n, .int .i64 x.u]
def Inst.ok (x : Inst) : Prop := ok64 x.op ∧ ok64 x.la ∧ ok64 x.ln ∧ ok64 x.ra ∧ ok64 x.rn ∧ ok64 x.n ∧ ok64 x.u
def instR : Rep Inst where
  size := 7
  at_ := fun _ _ cs x => cs = x.cells ∧ x.ok
  len := fun h => by rw [h.1]; rfl
  keep := fun h _ => h
  mono := fun h _ => h

structure Item where
  op : Int
  ln : ByteArray
  lv : Int
  rn : ByteArray
  rv : Int
  name : ByteArray
  user : ByteArray
  line : Int
  col : Int
def Item.cells (x : Item) : List Value := [.int .i64 x.op, .string x.ln, .int .i64 x.lv, .string x.rn, .int .i64 x.rv, .string x.name, .string x.user, .int .i64 x.line, .int .i64 x.col]
def Item.ok (x : Item) : Prop := ok64 x.op ∧ ok64 x.lv ∧ ok64 x.rv ∧ ok64 x.line ∧ ok64 x.col ∧ x.ln.size ≤ 9223372036854775807 ∧ x.rn.size ≤ 9223372036854775807 ∧ x.name.size ≤ 9223372036854775807 ∧ x.user.size ≤ 9223372036854775807
def itemR : Rep Item where
  size := 9
  at_ := fun _ _ cs x => cs = x.cells ∧ x.ok
  len := fun h => by rw [h.1]; rfl
  keep := fun h _ => h
  mono := fun h _ => h

/-- the cells of one thing in a slice of things that are plain cells -/
theorem plain_at {α : Type} {r : Rep α} {cells : α → List Value} {ok : α → Prop} (hr : ∀ w S cs x, r.at_ w S cs x → cs = cells x ∧ ok x) {w : World} {S : Nat → Prop} {b o c n : Nat} {l : List α} (h : (sliceR r).one w S (.slice (some ⟨b, o, none⟩) n c) l) {k : Nat} (hk : k < l.length) :
    (∀ j u, (cells l[k])[j]? = some u → w.cell? ⟨b, o + k * r.size + j, none⟩ = some u) ∧ ok l[k] := by
  obtain ⟨b', o', e, _, hrow⟩ := slice_some h (by omega)
  simp at e
  obtain ⟨rfl, rfl⟩ := e
  obtain ⟨cs, h1, h2⟩ := hrow k hk
  obtain ⟨rfl, h3⟩ := hr _ _ _ _ h2
  exact ⟨h1, h3⟩
theorem insts_at {w : World} {S : Nat → Prop} {b o c n : Nat} {l : List Inst} (h : (sliceR instR).one w S (.slice (some ⟨b, o, none⟩) n c) l) {k : Nat} (hk : k < l.length) :
    (∀ j u, (l[k].cells)[j]? = some u → w.cell? ⟨b, o + k * 7 + j, none⟩ = some u) ∧ l[k].ok := plain_at (r := instR) (cells := Inst.cells) (ok := Inst.ok) (fun _ _ _ _ h => h) h hk
theorem items_at {w : World} {S : Nat → Prop} {b o c n : Nat} {l : List Item} (h : (sliceR itemR).one w S (.slice (some ⟨b, o, none⟩) n c) l) {k : Nat} (hk : k < l.length) :
    (∀ j u, (l[k].cells)[j]? = some u → w.cell? ⟨b, o + k * 9 + j, none⟩ = some u) ∧ l[k].ok := plain_at (r := itemR) (cells := Item.cells) (ok := Item.ok) (fun _ _ _ _ h => h) h hk

/-- an owned row of things that are plain cells -/
theorem slice_ownP {α : Type} {r : Rep α} (cells : α → List Value) {l : List α} {w : World} {v : Value} {base : Nat} {e : TypeId} {n : Nat} (hx : ∀ x ∈ l, r.at_ w (fun b => base ≤ b ∧ b < w.heap.size) (cells x) x) (h : w.ownsRow base e r.size v n (l.flatMap cells)) (h0 : 0 < r.size) :
    (sliceR r).one w (fun b => base ≤ b ∧ b < w.heap.size) v l := by
  have hlen : ∀ x ∈ l, (cells x).length = r.size := fun x hx' => r.len (hx x hx')
  have key : ∀ (l : List α), (∀ x ∈ l, (cells x).length = r.size) → (l.flatMap cells).length = l.length * r.size ∧ ∀ i (hi : i < l.length), ((l.flatMap cells).drop (i * r.size)).take r.size = cells l[i] := by
    intro l
    induction l with
    | nil => intro _; exact ⟨by simp, fun i hi => by simp at hi⟩
    | cons a l ih =>
      intro hl
      obtain ⟨h1, h2⟩ := ih (fun x hx => hl x (by simp [hx]))
      have ha := hl a (by simp)
      refine ⟨by rw [List.flatMap_cons, List.length_append, h1, ha, List.length_cons, Nat.succ_mul]; omega, fun i hi => ?_⟩
      rw [List.flatMap_cons]
      cases i with
      | zero => rw [Nat.zero_mul, List.drop_zero, ← ha, List.take_left]; rfl
      | succ i =>
        rw [Nat.succ_mul, Nat.add_comm, ← ha, List.drop_append, ha, List.drop_of_length_le (by omega), List.nil_append, show r.size + i * r.size - r.size = i * r.size by omega]
        exact h2 i (by simpa using hi)
  obtain ⟨h1, h2⟩ := key l hlen
  have hn : n = l.length := by
    have := h.1
    rw [h1] at this
    exact (Nat.eq_of_mul_eq_mul_right h0 this).symm
  exact slice_own h rfl hn fun i hi => by rw [h2 i hi]; exact hx _ (List.getElem_mem hi)
end
section
open Go.RowKit

structure Gd where
  stage : Int
  event : Int
  cond : List Inst
structure Ml where
  name : ByteArray
  stage : Int
  event : Int
  cond : List Inst
  final : Bool
structure Ev where
  name : ByteArray
  role : Int
  stage : Int
  sets : List Int
  times : Int
structure Mod where
  attrs : List ByteArray
  inits : List Int
  users : List ByteArray
  roles : List (ByteArray × Int)
  stages : List (ByteArray × Int)
  events : List Ev
  guards : List Gd
  miles : List Ml
  sods : List (Int × Int)
  order : List (Bool × Int)
def strOk (s : ByteArray) : Prop := s.size ≤ 9223372036854775807
def nameIntR : Rep (ByteArray × Int) where
  size := 2
  at_ := fun _ _ cs x => cs = [.string x.1, .int .i64 x.2] ∧ strOk x.1 ∧ ok64 x.2
  len := fun h => by rw [h.1]; rfl
  keep := fun h _ => h
  mono := fun h _ => h
def intIntR : Rep (Int × Int) where
  size := 2
  at_ := fun _ _ cs x => cs = [.int .i64 x.1, .int .i64 x.2] ∧ ok64 x.1 ∧ ok64 x.2
  len := fun h => by rw [h.1]; rfl
  keep := fun h _ => h
  mono := fun h _ => h
def sentryR : Rep (Bool × Int) where
  size := 2
  at_ := fun _ _ cs x => cs = [.bool x.1, .int .i64 x.2] ∧ ok64 x.2
  len := fun h => by rw [h.1]; rfl
  keep := fun h _ => h
  mono := fun h _ => h
def gdR : Rep Gd where
  size := 3
  at_ := fun w S cs g => ∃ cv, cs = [.int .i64 g.stage, .int .i64 g.event, cv] ∧ (sliceR instR).one w S cv g.cond ∧ ok64 g.stage ∧ ok64 g.event
  len := fun ⟨_, h, _⟩ => by rw [h]; rfl
  keep := fun ⟨cv, h, h2, h3⟩ hk => ⟨cv, h, slice_keep h2 hk, h3⟩
  mono := fun ⟨cv, h, h2, h3⟩ hB => ⟨cv, h, slice_mono h2 hB, h3⟩
def mlR : Rep Ml where
  size := 5
  at_ := fun w S cs g => ∃ cv, cs = [.string g.name, .int .i64 g.stage, .int .i64 g.event, cv, .bool g.final] ∧ (sliceR instR).one w S cv g.cond ∧ ok64 g.stage ∧ ok64 g.event ∧ strOk g.name
  len := fun ⟨_, h, _⟩ => by rw [h]; rfl
  keep := fun ⟨cv, h, h2, h3⟩ hk => ⟨cv, h, slice_keep h2 hk, h3⟩
  mono := fun ⟨cv, h, h2, h3⟩ hB => ⟨cv, h, slice_mono h2 hB, h3⟩
def evR : Rep Ev where
  size := 5
  at_ := fun w S cs g => ∃ cv, cs = [.string g.name, .int .i64 g.role, .int .i64 g.stage, cv, .int .i64 g.times] ∧ (sliceR (intR .i64)).one w S cv g.sets ∧ ok64 g.role ∧ ok64 g.stage ∧ ok64 g.times ∧ strOk g.name
  len := fun ⟨_, h, _⟩ => by rw [h]; rfl
  keep := fun ⟨cv, h, h2, h3⟩ hk => ⟨cv, h, slice_keep h2 hk, h3⟩
  mono := fun ⟨cv, h, h2, h3⟩ hB => ⟨cv, h, slice_mono h2 hB, h3⟩

/-- a slice whose things lie anywhere in memory -/
def SI {α : Type} (r : Rep α) (w : World) (v : Value) (l : List α) : Prop := (sliceR r).one w (fun b => b < w.heap.size) v l
theorem SI.below {α : Type} {r : Rep α} {w w' : World} {v : Value} {l : List α} (h : SI r w v l) (hb : Below w.heap.size w w') : SI r w' v l := slice_mono (slice_below h hb fun b h => h) fun b h => Nat.lt_of_lt_of_le h hb.size
theorem SI.mk {α : Type} {r : Rep α} {w : World} {S : Nat → Prop} {v : Value} {l : List α} (h : (sliceR r).one w S v l) (hS : ∀ b, S b → b < w.heap.size) : SI r w v l := slice_mono h hS
theorem SI.form {α : Type} {r : Rep α} {w : World} {v : Value} {l : List α} (h : SI r w v l) : ∃ A c, v = .slice A l.length c ∧ l.length ≤ c ∧ c ≤ 9223372036854775807 := slice_form h
/-- the values of a model's ten lists -/
structure MV where
  attrs : Value
  inits : Value
  users : Value
  roles : Value
  stages : Value
  events : Value
  guards : Value
  miles : Value
  sods : Value
  order : Value
abbrev MV.cells (V : MV) : Array Value := #[V.attrs, V.inits, V.users, V.roles, V.stages, V.events, V.guards, V.miles, V.sods, V.order]
structure ModI (w : World) (V : MV) (m : Mod) : Prop where
  attrs : SI strR w V.attrs m.attrs
  inits : SI (intR .i64) w V.inits m.inits
  users : SI strR w V.users m.users
  roles : SI nameIntR w V.roles m.roles
  stages : SI nameIntR w V.stages m.stages
  events : SI evR w V.events m.events
  guards : SI gdR w V.guards m.guards
  miles : SI mlR w V.miles m.miles
  sods : SI intIntR w V.sods m.sods
  order : SI sentryR w V.order m.order
theorem ModI.below {w w' : World} {V : MV} {m : Mod} (h : ModI w V m) (hb : Below w.heap.size w w') : ModI w' V m :=
  ⟨h.attrs.below hb, h.inits.below hb, h.users.below hb, h.roles.below hb, h.stages.below hb, h.events.below hb, h.guards.below hb, h.miles.below hb, h.sods.below hb, h.order.below hb⟩
end
section
open Go.RowKit

theorem number_any (i : Int) (w : World) : Calls Tryz.prog 80 #[.int .i64 i] w fun e w' => e = .returned (.bool (decide (0 ≤ i) && decide (i < 31))) ∧ w = w' := by
  by_cases h : 0 ≤ i <;> (go_enter Tryz.func80, Tryz.ntmps80; go_wp2; go_ret; exact ⟨by congr 2; simp [h] <;> omega, rfl⟩)
theorem ret_bool {a b : Bool} (h : a = b) : Ending.returned (.bool a) = .returned (.bool b) := by rw [h]
theorem ret_i64 {a b : Int} (h : a = b) : Ending.returned (.int .i64 a) = .returned (.int .i64 b) := by rw [h]
theorem has_any (s i : Int) (w : World) : Calls Tryz.prog 89 #[.int .i64 s, .int .i64 i] w fun e w' => e = .returned (.bool (hasB s i)) ∧ w = w' := by
  by_cases h0 : 0 ≤ i
  · by_cases h1 : i < 31
    · have e0 : decide (0 ≤ i) = true := by simp; omega
      have e1 : decide (i < 31) = true := by simp; omega
      go_enter Tryz.func89, Tryz.ntmps89
      go_wp2_with (go_at_call 80; refine (number_any _ _).mono ?_; rintro e w' ⟨rfl, rfl⟩)
      go_ret
      exact ⟨ret_bool (by unfold hasB; rw [and_one_i64, e0, e1]; rfl), rfl⟩
    · have e0 : decide (0 ≤ i) = true := by simp; omega
      have e1 : decide (i < 31) = false := by simp; omega
      go_enter Tryz.func89, Tryz.ntmps89
      go_wp2_with (go_at_call 80; refine (number_any _ _).mono ?_; rintro e w' ⟨rfl, rfl⟩)
      go_ret
      exact ⟨ret_bool (by unfold hasB; rw [e0, e1]; rfl), rfl⟩
  · have e0 : decide (0 ≤ i) = false := by simp; omega
    go_enter Tryz.func89, Tryz.ntmps89
    go_wp2_with (go_at_call 80; refine (number_any _ _).mono ?_; rintro e w' ⟨rfl, rfl⟩)
    go_ret
    exact ⟨ret_bool (by unfold hasB; rw [e0]; rfl), rfl⟩

theorem isNaN_any (a : Int) (w : World) : Calls Tryz.prog 119 #[.int .i64 a] w fun e w' => e = .returned (.bool false) ∧ w = w' := by
  go_enter Tryz.func119, Tryz.ntmps119
  go_wp2
  go_ret
  exact ⟨ret_bool (by simp), rfl⟩
theorem cmp_any (a b : Int) (w : World) : Calls Tryz.prog 93 #[.int .i64 a, .int .i64 b] w fun e w' => e = .returned (.int .i64 (cmpI a b)) ∧ w = w' := by
  by_cases h1 : a < b
  · go_enter Tryz.func93, Tryz.ntmps93
    go_wp2_with (go_at_call 119; refine (isNaN_any _ _).mono ?_; rintro e w' ⟨rfl, rfl⟩)
    go_ret
    exact ⟨ret_i64 (by unfold cmpI; (repeat' split) <;> omega), rfl⟩
  · by_cases h2 : b < a
    · go_enter Tryz.func93, Tryz.ntmps93
      go_wp2_with (go_at_call 119; refine (isNaN_any _ _).mono ?_; rintro e w' ⟨rfl, rfl⟩)
      go_ret
      exact ⟨ret_i64 (by unfold cmpI; (repeat' split) <;> omega), rfl⟩
    · go_enter Tryz.func93, Tryz.ntmps93
      go_wp2_with (go_at_call 119; refine (isNaN_any _ _).mono ?_; rintro e w' ⟨rfl, rfl⟩)
      go_ret
      exact ⟨ret_i64 (by unfold cmpI; (repeat' split) <;> omega), rfl⟩

theorem so_any (op c : Int) (w : World) : Calls Tryz.prog 127 #[.int .i64 op, .int .i64 c] w fun e w' => e = .returned (.bool (soB op c)) ∧ w = w' := by
  have key : (op = 3 ∨ op = 4 ∨ op = 5 ∨ op = 6 ∨ op = 7 ∨ op = 8) ∨ ((op == 3) = false ∧ (op == 4) = false ∧ (op == 5) = false ∧ (op == 6) = false ∧ (op == 7) = false ∧ (op == 8) = false) := by
    simp; omega
  rcases key with (rfl | rfl | rfl | rfl | rfl | rfl) | ⟨h3, h4, h5, h6, h7, h8⟩
  all_goals
    go_enter Tryz.func127, Tryz.ntmps127
    go_wp2
    go_ret
    refine ⟨ret_bool ?_, rfl⟩
    first | rfl | (simp at h3 h4 h5 h6 h7 h8; simp [soB, *])
theorem arity_any (op : Int) (w : World) : Calls Tryz.prog 129 #[.int .i64 op] w fun e w' => e = .returned (.int .i64 (arity op)) ∧ w = w' := by
  have key : (1 ≤ op ∧ op ≤ 14) ∨ op = 15 ∨ (19 ≤ op ∧ op ≤ 24) ∨ (16 ≤ op ∧ op ≤ 18) ∨ op = 25 ∨ op = 26 ∨ op < 1 ∨ 26 < op := by omega
  rcases key with ⟨h1, h2⟩ | rfl | ⟨h1, h2⟩ | ⟨h1, h2⟩ | rfl | rfl | h1 | h1
  all_goals
    go_enter Tryz.func129, Tryz.ntmps129
    go_wp2
    all_goals go_ret
    all_goals refine ⟨ret_i64 ?_, rfl⟩
    all_goals (unfold arity; (repeat' split) <;> first | rfl | omega)
end
section
open Go.RowKit

/-- a set's lowest 31 bits -/
def low (s : Int) : Nat := (s % 2147483648).toNat
theorem low_lt (s : Int) : low s < 2 ^ 31 := by unfold low; omega
def withB (s i : Int) : Int := if 0 ≤ i ∧ i < 31 then ((low s ||| 2 ^ i.toNat : Nat) : Int) else (low s : Int)
def withoutB (s i : Int) : Int := if 0 ≤ i ∧ i < 31 then ((low s ^^^ (low s &&& 2 ^ i.toNat) : Nat) : Int) else (low s : Int)
theorem ofInt_nat64 (a : Nat) (ha : a < 2 ^ 64) : (BitVec.ofInt 64 (a : Int)).toNat = a := by
  rw [BitVec.ofInt_natCast, BitVec.toNat_ofNat]; exact Nat.mod_eq_of_lt ha
theorem wrap_nat (n : Nat) (h : n < 2 ^ 63) : IntKind.i64.wrap (n : Int) = (n : Int) := by
  simp [IntKind.wrap, IntKind.bits, IntKind.signed]
  omega
theorem and_all (s : Int) : bits .and .i64 s 2147483647 = (low s : Int) := by
  show IntKind.i64.wrap ((BitVec.ofInt 64 s &&& BitVec.ofInt 64 2147483647).toNat : Int) = _
  have h : (BitVec.ofInt 64 s &&& BitVec.ofInt 64 2147483647).toNat = low s := by
    rw [BitVec.toNat_and, show (BitVec.ofInt 64 2147483647).toNat = 2 ^ 31 - 1 from rfl, Nat.and_two_pow_sub_one_eq_mod, BitVec.toNat_ofInt]
    unfold low
    omega
  rw [h]
  exact wrap_nat _ (Nat.lt_trans (low_lt s) (by decide))
theorem or_nat (a b : Nat) (ha : a < 2 ^ 62) (hb : b < 2 ^ 62) : bits .or .i64 (a : Int) (b : Int) = ((a ||| b : Nat) : Int) := by
  show IntKind.i64.wrap ((BitVec.ofInt 64 (a : Int) ||| BitVec.ofInt 64 (b : Int)).toNat : Int) = _
  rw [BitVec.toNat_or, ofInt_nat64 a (by omega), ofInt_nat64 b (by omega)]
  exact wrap_nat _ (Nat.lt_trans (Nat.or_lt_two_pow ha hb) (by decide))
theorem andNot_nat (a b : Nat) (ha : a < 2 ^ 62) (hb : b < 2 ^ 62) : bits .andNot .i64 (a : Int) (b : Int) = ((a ^^^ (a &&& b) : Nat) : Int) := by
  show IntKind.i64.wrap ((BitVec.ofInt 64 (a : Int) &&& ~~~ BitVec.ofInt 64 (b : Int)).toNat : Int) = _
  have h : (BitVec.ofInt 64 (a : Int) &&& ~~~ BitVec.ofInt 64 (b : Int)).toNat = a ^^^ (a &&& b) := by
    apply Nat.eq_of_testBit_eq
    intro i
    rw [BitVec.toNat_and, Nat.testBit_and, ofInt_nat64 a (by omega), BitVec.testBit_toNat, BitVec.getLsbD_not, Nat.testBit_xor, Nat.testBit_and, ← BitVec.testBit_toNat, ofInt_nat64 b (by omega)]
    by_cases hi : i < 64
    · simp [hi]; cases a.testBit i <;> cases b.testBit i <;> rfl
    · have : a.testBit i = false := Nat.testBit_lt_two_pow (Nat.lt_of_lt_of_le ha (Nat.pow_le_pow_right (by omega) (by omega)))
      simp [this]
  rw [h]
  exact wrap_nat _ (Nat.lt_trans (Nat.xor_lt_two_pow ha (Nat.lt_of_le_of_lt Nat.and_le_left ha)) (by decide))
theorem pow_wrap (i : Int) (h0 : 0 ≤ i) (h1 : i < 31) : wrap64 (2 ^ i.toNat) = ((2 ^ i.toNat : Nat) : Int) := by
  have h2 : (2 : Nat) ^ i.toNat < 2 ^ 31 := Nat.pow_lt_pow_right (by omega) (by omega)
  have e : (2 : Int) ^ i.toNat = ((2 ^ i.toNat : Nat) : Int) := by simp
  rw [e]
  clear e
  generalize (2 : Nat) ^ i.toNat = n at *
  exact IntWalk.wrap64_in _ ⟨by omega, by omega⟩

theorem with_any (s i : Int) (w : World) : Calls Tryz.prog 58 #[.int .i64 s, .int .i64 i] w fun e w' => e = .returned (.int .i64 (withB s i)) ∧ w = w' := by
  unfold withB
  by_cases h0 : 0 ≤ i
  · by_cases h1 : i < 31
    · have e0 : decide (0 ≤ i) = true := by simp; omega
      have e1 : decide (i < 31) = true := by simp; omega
      rw [if_pos ⟨h0, h1⟩]
      go_enter Tryz.func58, Tryz.ntmps58
      go_wp2_with (go_at_call 80; refine (number_any _ _).mono ?_; rintro e w' ⟨rfl, rfl⟩)
      go_ret
      exact ⟨ret_i64 (by rw [and_all, pow_wrap i h0 h1, or_nat _ _ (Nat.lt_trans (low_lt s) (by decide)) (Nat.pow_lt_pow_right (by omega) (by omega))]), rfl⟩
    · have e0 : decide (0 ≤ i) = true := by simp; omega
      have e1 : decide (i < 31) = false := by simp; omega
      rw [if_neg (by omega)]
      go_enter Tryz.func58, Tryz.ntmps58
      go_wp2_with (go_at_call 80; refine (number_any _ _).mono ?_; rintro e w' ⟨rfl, rfl⟩)
      go_ret
      exact ⟨ret_i64 (and_all s), rfl⟩
  · have e0 : decide (0 ≤ i) = false := by simp; omega
    rw [if_neg (by omega)]
    go_enter Tryz.func58, Tryz.ntmps58
    go_wp2_with (go_at_call 80; refine (number_any _ _).mono ?_; rintro e w' ⟨rfl, rfl⟩)
    go_ret
    exact ⟨ret_i64 (and_all s), rfl⟩
theorem without_any (s i : Int) (w : World) : Calls Tryz.prog 73 #[.int .i64 s, .int .i64 i] w fun e w' => e = .returned (.int .i64 (withoutB s i)) ∧ w = w' := by
  unfold withoutB
  by_cases h0 : 0 ≤ i
  · by_cases h1 : i < 31
    · have e0 : decide (0 ≤ i) = true := by simp; omega
      have e1 : decide (i < 31) = true := by simp; omega
      rw [if_pos ⟨h0, h1⟩]
      go_enter Tryz.func73, Tryz.ntmps73
      go_wp2_with (go_at_call 80; refine (number_any _ _).mono ?_; rintro e w' ⟨rfl, rfl⟩)
      go_ret
      exact ⟨ret_i64 (by rw [and_all, pow_wrap i h0 h1, andNot_nat _ _ (Nat.lt_trans (low_lt s) (by decide)) (Nat.pow_lt_pow_right (by omega) (by omega))]), rfl⟩
    · have e0 : decide (0 ≤ i) = true := by simp; omega
      have e1 : decide (i < 31) = false := by simp; omega
      rw [if_neg (by omega)]
      go_enter Tryz.func73, Tryz.ntmps73
      go_wp2_with (go_at_call 80; refine (number_any _ _).mono ?_; rintro e w' ⟨rfl, rfl⟩)
      go_ret
      exact ⟨ret_i64 (and_all s), rfl⟩
  · have e0 : decide (0 ≤ i) = false := by simp; omega
    rw [if_neg (by omega)]
    go_enter Tryz.func73, Tryz.ntmps73
    go_wp2_with (go_at_call 80; refine (number_any _ _).mono ?_; rintro e w' ⟨rfl, rfl⟩)
    go_ret
    exact ⟨ret_i64 (and_all s), rfl⟩
end
section
open Go.RowKit
abbrev eInst (x : Inst) : List AV := [eI x.op, eI x.la, eI x.ln, eI x.ra, eI x.rn, eI x.n, eI x.u]
abbrev sInsts (l : List Inst) : AV := .sl 7 (l.map eInst)
abbrev eGd (g : Gd) : List AV := [eI g.stage, eI g.event, sInsts g.cond]
abbrev eMl (g : Ml) : List AV := [eS g.name, eI g.stage, eI g.event, sInsts g.cond, eB g.final]
abbrev eEv (g : Ev) : List AV := [eS g.name, eI g.role, eI g.stage, sI g.sets, eI g.times]
abbrev eNI (p : ByteArray × Int) : List AV := [eS p.1, eI p.2]
abbrev eII (p : Int × Int) : List AV := [eI p.1, eI p.2]
abbrev eBI (p : Bool × Int) : List AV := [eB p.1, eI p.2]
abbrev eMod (m : Mod) : List AV := [.sl 1 (m.attrs.map fun s => [eS s]), sI m.inits, .sl 1 (m.users.map fun s => [eS s]), .sl 2 (m.roles.map eNI), .sl 2 (m.stages.map eNI), .sl 5 (m.events.map eEv), .sl 3 (m.guards.map eGd), .sl 5 (m.miles.map eMl), .sl 2 (m.sods.map eII), .sl 2 (m.order.map eBI)]
abbrev eSt (s : St) : List AV := [sI s.vals, eI s.opn, eI s.don, sI s.did, sI s.cnt]
def pars (m : Mod) : List Int := m.stages.map (·.2)
def condOk (m : Mod) : Prop := (∀ g ∈ m.guards, ∀ x ∈ g.cond, x.ok) ∧ ∀ g ∈ m.miles, ∀ x ∈ g.cond, x.ok
theorem mixedT : Tryz.prog.follows .mixedOrders = true := by kernel_rfl

def greatS (m : Mod) : Prop := m.guards.length ≤ 14 ∧ m.miles.length ≤ 10 ∧ m.stages.length ≤ 10 ∧ m.events.length ≤ 10 ∧ m.attrs.length ≤ 10 ∧ m.users.length ≤ 10 ∧ m.roles.length ≤ 10 ∧ m.sods.length ≤ 10 ∧ m.order.length ≤ 40 ∧ m.inits.length ≤ 10
/-- a model that is not too much -/
structure Fit (m : Mod) : Prop where
  sizes : greatS m
  guards : ∀ g ∈ m.guards, g.cond.length ≤ 80
  miles : ∀ g ∈ m.miles, g.cond.length ≤ 80
  events : ∀ g ∈ m.events, g.sets.length ≤ 10
def FitS (s : St) : Prop := s.vals.length ≤ 150 ∧ s.did.length ≤ 150 ∧ s.cnt.length ≤ 150
end
end Go.Proofs.YtmochnclbcbijaaGreat
