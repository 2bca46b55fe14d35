/-
  Parts of the proof: AlV, AlW, E1, E2, E3, E4.
-/
import Derived.Test.YtfeclebkaambhaaGreatAta7
set_option linter.unusedVariables false
set_option linter.unusedSimpArgs false
namespace Go.Proofs.YtfeclebkaambhaaGreat
section
open Go.RowKit

/-- what has been handed on, and whether more is wanted -/
abbrev IG := List (List AV) × Bool
def iK (K : IG → ASt → Prop) (g : IG) (st : ASt) : Prop := K g st
/-- a struct's parts may be handed on, if they are read only -/
def treeA : AV → Prop
  | .agg cs => treeL cs
  | av => treeC av
def treeAL : List AV → Prop
  | [] => True
  | a :: l => treeA a ∧ treeAL l
theorem treeAL_mem : ∀ {l : List AV}, treeAL l → ∀ a ∈ l, treeA a
  | a :: l, h, b, hb => by
    rcases List.mem_cons.1 hb with rfl | hb
    · exact h.1
    · exact treeAL_mem h.2 b hb
theorem tree_ofA {cx : Cx} {w : World} {tab : ATab} {L : Nat → Value} {x : Value} {av : AV} (h : RVx cx w tab L x av) (ht : treeA av) : RT w (Sx cx w tab L) x av := by
  cases av with
  | agg cs =>
    obtain ⟨xs, rfl, hn, hr⟩ := h.agg_inv
    exact .agg xs cs hn fun j x av h1 h2 => tree_of (hr j x av h1 h2) (treeL_iff.1 ht av (List.mem_of_getElem? h2))
  | _ => exact tree_of h ht
def iYield (xs : List (List AV)) (x : List AV) (dst : Option Nat) (K : IG → ASt → Prop) (g : IG) (st : ASt) : Prop :=
  (g.2 = true ∧ treeAL x ∧ (g.1 ++ [x]) <+: xs) ∧ K (g.1 ++ [x], true) (st.put dst (.c (.bool true))) ∧ K (g.1 ++ [x], false) (st.put dst (.c (.bool false)))
def iCallV (P : Program) (l : Nat) (xs : List (List AV)) (f : AV) (o : Oper) (args : List AV) (K : IG → ASt → Prop) (g : IG) (st : ASt) : Prop :=
  match f with
  | .c (.func (.yield l') first caps) => (l' = l ∧ first = #[] ∧ caps = #[]) ∧ iYield xs args o.dst K g st
  | _ => aOp P o (iK K g) st
def iOp (P : Program) (l : Nat) (xs : List (List AV)) (o : Oper) (K : IG → ASt → Prop) (g : IG) (st : ASt) : Prop :=
  match o.op with
  | .call c => match c.callee with
    | .value f => iCallV P l xs (aEv st f) o (c.args.toList.map (aEv st)) K g st
    | _ => aOp P o (iK K g) st
  | _ => aOp P o (iK K g) st
def iOps (P : Program) (l : Nat) (xs : List (List AV)) (ops : Array Oper) (K : IG → ASt → Prop) : List Oper → IG → ASt → Prop
  | [], g, st => K g st
  | o :: rest, g, st => aGuard ops o.guard (iOp P l xs o (iOps P l xs ops K rest) g) (aSkip o.dst (iOps P l xs ops K rest g)) st
def iThen (next : IG → ASt → Prop) (Q : Exit → IG → ASt → Prop) : Exit → IG → ASt → Prop
  | .normal, g, st => next g st
  | e, g, st => Q e g st
def iInBlock (id : Nat) (Q : Exit → IG → ASt → Prop) : Exit → IG → ASt → Prop
  | .exit id', g, st => if id' = id then Q .normal g st else Q (.exit id') g st
  | e, g, st => Q e g st
def iRound (I : IG → ASt → Prop) (μ : IG → ASt → Nat) (n : Nat) (g : IG) (st : ASt) : Prop := ∃ st', Weak st st' ∧ I g st' ∧ μ g st' < n
def iCode (P : Program) (l : Nat) (xs : List (List AV)) : Code → (Exit → IG → ASt → Prop) → IG → ASt → Prop
  | .skip, Q, g, st => Q .normal g st
  | .region _ ops _, Q, g, st => iOps P l xs ops (Q .normal) ops.toList g st
  | .seq x y, Q, g, st => iCode P l xs x (iThen (iCode P l xs y Q) Q) g st
  | .cond c x y, Q, g, st => aCond (aEv st c) (iCode P l xs x Q g) (iCode P l xs y Q g) st
  | .block id x, Q, g, st => iCode P l xs x (iInBlock id Q) g st
  | .loop x, Q, g, st => ∃ (I : IG → ASt → Prop) (μ : IG → ASt → Nat), (∃ st', Weak st st' ∧ I g st') ∧ ∀ g st, I g st → iCode P l xs x (iThen (iRound I μ (μ g st)) Q) g st
  | .exit id, Q, g, st => Q (.exit id) g st
  | .ret, Q, g, st => Q .ret g st
  | _, _, _, _ => False
def iLoop (P : Program) (l : Nat) (xs : List (List AV)) (x : Code) (Q : Exit → IG → ASt → Prop) (g : IG) (st : ASt) : Prop := iCode P l xs (.loop x) Q g st
theorem iLoop_of {P : Program} {l : Nat} {xs : List (List AV)} {x : Code} {Q : Exit → IG → ASt → Prop} {g : IG} {st : ASt} (I : IG → ASt → Prop) (μ : IG → ASt → Nat) (h0 : ∃ st', Weak st st' ∧ I g st') (h : ∀ g st, I g st → iCode P l xs x (iThen (iRound I μ (μ g st)) Q) g st) : iLoop P l xs x Q g st := ⟨I, μ, h0, h⟩
theorem iRoundI {I : IG → ASt → Prop} {μ : IG → ASt → Nat} {n : Nat} {g : IG} {st st' : ASt} (hw : Weak st st') (hI : I g st') (hm : μ g st' < n) : iRound I μ n g st := ⟨st', hw, hI, hm⟩
section
variable {P : Program} {l : Nat} {xs : List (List AV)} {Q : Exit → IG → ASt → Prop} {g : IG} {st : ASt} {K : IG → ASt → Prop} {ops : Array Oper} {dst : Option Tmp} {op : Op} {ty : TypeId} {pos : String} {aft : Array Edge} {gd : Option (Nat × Bool)} {rest : List Oper}
theorem iCode_skip : iCode P l xs .skip Q g st = Q .normal g st := rfl
theorem iCode_reg {id : Nat} {o : List Oper} {b : Bool} : iCode P l xs (.region id o.toArray b) Q g st = iOps P l xs o.toArray (Q .normal) o g st := rfl
theorem iCode_seq {x y : Code} : iCode P l xs (.seq x y) Q g st = iCode P l xs x (iThen (iCode P l xs y Q) Q) g st := rfl
theorem iCode_cond {c : Operand} {x y : Code} : iCode P l xs (.cond c x y) Q g st = aCond (aEv st c) (iCode P l xs x Q g) (iCode P l xs y Q g) st := rfl
theorem iCode_block {id : Nat} {x : Code} : iCode P l xs (.block id x) Q g st = iCode P l xs x (iInBlock id Q) g st := rfl
theorem iCode_loop {x : Code} : iCode P l xs (.loop x) Q g st = iLoop P l xs x Q g st := rfl
theorem iCode_exit {id : Nat} : iCode P l xs (.exit id) Q g st = Q (.exit id) g st := rfl
theorem iCode_ret : iCode P l xs .ret Q g st = Q .ret g st := rfl
theorem iThen_normal {next : IG → ASt → Prop} : iThen next Q .normal g st = next g st := rfl
theorem iThen_exit {next : IG → ASt → Prop} {id : Nat} : iThen next Q (.exit id) g st = Q (.exit id) g st := rfl
theorem iThen_ret {next : IG → ASt → Prop} : iThen next Q .ret g st = Q .ret g st := rfl
theorem iInBlock_normal {id : Nat} : iInBlock id Q .normal g st = Q .normal g st := rfl
theorem iInBlock_ret {id : Nat} : iInBlock id Q .ret g st = Q .ret g st := rfl
theorem iInBlock_exit {id id' : Nat} : iInBlock id Q (.exit id') g st = if id' = id then Q .normal g st else Q (.exit id') g st := rfl
theorem iOps_nil : iOps P l xs ops K [] g st = K g st := rfl
theorem iOps_plain : iOps P l xs ops K (⟨dst, op, ty, pos, aft, none⟩ :: rest) g st = iOp P l xs ⟨dst, op, ty, pos, aft, none⟩ (iOps P l xs ops K rest) g st := rfl
theorem iOps_guard {j : Nat} {want : Bool} : iOps P l xs ops K (⟨dst, op, ty, pos, aft, some (j, want)⟩ :: rest) g st = aGuardD ((ops[j]?).bind (·.dst)) want (iOp P l xs ⟨dst, op, ty, pos, aft, some (j, want)⟩ (iOps P l xs ops K rest) g) (aSkip dst (iOps P l xs ops K rest g)) st := rfl
theorem iOp_move {x : Operand} : iOp P l xs ⟨dst, .move x, ty, pos, aft, gd⟩ K g st = aOp P ⟨dst, .move x, ty, pos, aft, gd⟩ (iK K g) st := rfl
theorem iOp_assign {x : Operand} : iOp P l xs ⟨dst, .assign x, ty, pos, aft, gd⟩ K g st = aOp P ⟨dst, .assign x, ty, pos, aft, gd⟩ (iK K g) st := rfl
theorem iOp_pick {c x y : Operand} : iOp P l xs ⟨dst, .pick c x y, ty, pos, aft, gd⟩ K g st = aOp P ⟨dst, .pick c x y, ty, pos, aft, gd⟩ (iK K g) st := rfl
theorem iOp_load {t : TypeId} {x : Operand} : iOp P l xs ⟨dst, .load t x, ty, pos, aft, gd⟩ K g st = aOp P ⟨dst, .load t x, ty, pos, aft, gd⟩ (iK K g) st := rfl
theorem iOp_field {t : TypeId} {x : Operand} {f : Nat} : iOp P l xs ⟨dst, .fieldAddr t x f, ty, pos, aft, gd⟩ K g st = aOp P ⟨dst, .fieldAddr t x f, ty, pos, aft, gd⟩ (iK K g) st := rfl
theorem iOp_index {t : TypeId} {x i : Operand} : iOp P l xs ⟨dst, .indexAddr t x i, ty, pos, aft, gd⟩ K g st = aOp P ⟨dst, .indexAddr t x i, ty, pos, aft, gd⟩ (iK K g) st := rfl
theorem iOp_fieldV {t : TypeId} {x : Operand} {f : Nat} : iOp P l xs ⟨dst, .field t x f, ty, pos, aft, gd⟩ K g st = aOp P ⟨dst, .field t x f, ty, pos, aft, gd⟩ (iK K g) st := rfl
theorem iOp_bin {o : BinOp} {t t2 : TypeId} {x y : Operand} : iOp P l xs ⟨dst, .binOp o t x y t2, ty, pos, aft, gd⟩ K g st = aOp P ⟨dst, .binOp o t x y t2, ty, pos, aft, gd⟩ (iK K g) st := rfl
theorem iOp_un {o : UnOp} {t : TypeId} {x : Operand} : iOp P l xs ⟨dst, .unOp o t x, ty, pos, aft, gd⟩ K g st = aOp P ⟨dst, .unOp o t x, ty, pos, aft, gd⟩ (iK K g) st := rfl
theorem iOp_extract {x : Operand} {i : Nat} : iOp P l xs ⟨dst, .extract x i, ty, pos, aft, gd⟩ K g st = aOp P ⟨dst, .extract x i, ty, pos, aft, gd⟩ (iK K g) st := rfl
theorem iOp_conv {s d : TypeId} {x : Operand} : iOp P l xs ⟨dst, .convert s d x, ty, pos, aft, gd⟩ K g st = aOp P ⟨dst, .convert s d x, ty, pos, aft, gd⟩ (iK K g) st := rfl
theorem iOp_box {t : TypeId} {x : Operand} : iOp P l xs ⟨dst, .box t x, ty, pos, aft, gd⟩ K g st = aOp P ⟨dst, .box t x, ty, pos, aft, gd⟩ (iK K g) st := rfl
theorem iOp_alloc {t : TypeId} : iOp P l xs ⟨dst, .alloc t, ty, pos, aft, gd⟩ K g st = aOp P ⟨dst, .alloc t, ty, pos, aft, gd⟩ (iK K g) st := rfl
theorem iOp_store {t : TypeId} {p x : Operand} : iOp P l xs ⟨dst, .store t p x, ty, pos, aft, gd⟩ K g st = aOp P ⟨dst, .store t p x, ty, pos, aft, gd⟩ (iK K g) st := rfl
theorem iOp_build {t : TypeId} {parts : Array (Nat × Operand)} : iOp P l xs ⟨dst, .build t parts, ty, pos, aft, gd⟩ K g st = aOp P ⟨dst, .build t parts, ty, pos, aft, gd⟩ (iK K g) st := rfl
theorem iOp_slice {t : TypeId} {x : Operand} {lo hi mx : Option Operand} : iOp P l xs ⟨dst, .slice t x lo hi mx, ty, pos, aft, gd⟩ K g st = aOp P ⟨dst, .slice t x lo hi mx, ty, pos, aft, gd⟩ (iK K g) st := rfl
theorem iOp_len {x : Operand} {t : TypeId} : iOp P l xs ⟨dst, .call ⟨.builtin .len, #[x], #[t]⟩, ty, pos, aft, gd⟩ K g st = aOp P ⟨dst, .call ⟨.builtin .len, #[x], #[t]⟩, ty, pos, aft, gd⟩ (iK K g) st := rfl
theorem iOp_call {f : Operand} {args : List Operand} {ts : Array TypeId} : iOp P l xs ⟨dst, .call ⟨.value f, args.toArray, ts⟩, ty, pos, aft, gd⟩ K g st = iCallV P l xs (aEv st f) ⟨dst, .call ⟨.value f, args.toArray, ts⟩, ty, pos, aft, gd⟩ (args.map (aEv st)) K g st := by simp [iOp]
theorem iCallV_yield {o : Oper} {args : List AV} : iCallV P l xs (.c (.func (.yield l) #[] #[])) o args K g st = iYield xs args o.dst K g st := by simp [iCallV]
theorem iCallV_func {f : FuncId} {o : Oper} {args : List AV} : iCallV P l xs (.c (.func (.func f) #[] #[])) o args K g st = aOp P o (iK K g) st := rfl
theorem iK_eq : iK K g st = K g st := rfl
end
theorem ruI : type_of% (And.intro (And.intro (And.intro (And.intro (And.intro @iCode_skip @iCode_reg) (And.intro @iCode_seq @iCode_cond)) (And.intro (And.intro @iCode_block @iCode_loop) (And.intro @iCode_exit (And.intro @iCode_ret @iThen_normal)))) (And.intro (And.intro (And.intro @iThen_exit @iThen_ret) (And.intro @iInBlock_normal @iInBlock_ret)) (And.intro (And.intro @iInBlock_exit @iOps_nil) (And.intro (And.intro @iOps_plain @iOps_guard) (And.intro @iOp_move @iOp_assign))))) (And.intro (And.intro (And.intro (And.intro @iOp_pick @iOp_load) (And.intro @iOp_field @iOp_index)) (And.intro (And.intro @iOp_fieldV @iOp_bin) (And.intro @iOp_un (And.intro @iOp_extract @iOp_conv)))) (And.intro (And.intro (And.intro @iOp_box @iOp_alloc) (And.intro @iOp_store (And.intro @iOp_build @iOp_slice))) (And.intro (And.intro @iOp_len @iOp_call) (And.intro @iCallV_yield (And.intro @iCallV_func @iK_eq)))))) :=
  (And.intro (And.intro (And.intro (And.intro (And.intro @iCode_skip @iCode_reg) (And.intro @iCode_seq @iCode_cond)) (And.intro (And.intro @iCode_block @iCode_loop) (And.intro @iCode_exit (And.intro @iCode_ret @iThen_normal)))) (And.intro (And.intro (And.intro @iThen_exit @iThen_ret) (And.intro @iInBlock_normal @iInBlock_ret)) (And.intro (And.intro @iInBlock_exit @iOps_nil) (And.intro (And.intro @iOps_plain @iOps_guard) (And.intro @iOp_move @iOp_assign))))) (And.intro (And.intro (And.intro (And.intro @iOp_pick @iOp_load) (And.intro @iOp_field @iOp_index)) (And.intro (And.intro @iOp_fieldV @iOp_bin) (And.intro @iOp_un (And.intro @iOp_extract @iOp_conv)))) (And.intro (And.intro (And.intro @iOp_box @iOp_alloc) (And.intro @iOp_store (And.intro @iOp_build @iOp_slice))) (And.intro (And.intro @iOp_len @iOp_call) (And.intro @iCallV_yield (And.intro @iCallV_func @iK_eq))))))

/-! ### it is so -/
/-- what the caller has given -/
structure IHyp (P : Program) (l : Nat) (xs : List (List AV)) (J Jx : List (List AV) → (Nat → Prop) → (Nat → Prop) → World → Prop) : Prop where
  keep : ∀ pre T M M' W W', J pre T M W → BelowX M W.heap.size W W' → (∀ b, M' b → M b ∨ (W.heap.size ≤ b ∧ b < W'.heap.size)) → J pre (grow T W W') M' W'
  keepx : ∀ pre T M M' W W', Jx pre T M W → BelowX M W.heap.size W W' → (∀ b, M' b → M b ∨ (W.heap.size ≤ b ∧ b < W'.heap.size)) → Jx pre (grow T W W') M' W'
  round : ∀ pre x T M W (vs : Array Value), J pre T M W → (pre ++ [x]) <+: xs → vs.size = x.length → (∀ (j : Nat) (v : Value) (av : AV), vs[j]? = some v → x[j]? = some av → RT W (fun b => T b ∧ ¬ M b) v av) →
      YieldAt Fence.wide 0 P l vs W fun e W' => (e = .returned (.bool true) ∧ J (pre ++ [x]) T M W' ∧ Kept T W W') ∨ (e = .returned (.bool false) ∧ Jx (pre ++ [x]) T M W' ∧ Kept T W W')
def JJ (J Jx : List (List AV) → (Nat → Prop) → (Nat → Prop) → World → Prop) (g : IG) (T M : Nat → Prop) (W : World) : Prop := match g.2 with | true => J g.1 T M W | false => Jx g.1 T M W
/-- somebody else's -/
def xOf (T : Nat → Prop) (W : World) (b : Nat) : Prop := b < W.heap.size ∧ ¬ T b
def ownB (tab : ATab) (L : Nat → Value) (b : Nat) : Prop := ∃ id o, tab.get id = some o ∧ vblk (L id) = some b
def ISt (T0 : Nat → Prop) (W0 : World) (J Jx : List (List AV) → (Nat → Prop) → (Nat → Prop) → World → Prop) (g : IG) (st : ASt) (a : Act) (W : World) : Prop :=
  ∃ T L, Conc ⟨T0, W0, xOf T W⟩ a W st L ∧ a.defers = [] ∧ (∀ b, T b → b < W.heap.size) ∧ JJ J Jx g T (ownB st.tab L) W
section
variable {P : Program} {l : Nat} {xs : List (List AV)} {T0 : Nat → Prop} {W0 : World} {J Jx : List (List AV) → (Nat → Prop) → (Nat → Prop) → World → Prop} {g : IG} {st st' : ASt} {a a' : Act} {W W' : World} {L L' : Nat → Value} {T M M' : Nat → Prop}
theorem xOf_grow (hs : W.heap.size ≤ W'.heap.size) : xOf (grow T W W') W' = xOf T W := by
  funext b
  apply propext
  unfold xOf grow
  constructor
  · rintro ⟨h1, h2⟩
    exact ⟨Nat.lt_of_not_le fun h => h2 (.inr ⟨h, h1⟩), fun h => h2 (.inl h)⟩
  · rintro ⟨h1, h2⟩
    refine ⟨by omega, fun h => ?_⟩
    rcases h with h | h
    · exact h2 h
    · omega
theorem grow_self : grow T W W = T := by
  funext b
  apply propext
  unfold grow
  constructor
  · rintro (h | h)
    · exact h
    · omega
  · exact .inl
theorem jj_keep (H : IHyp P l xs J Jx) (h : JJ J Jx g T M W) (hb : BelowX M W.heap.size W W') (hM : ∀ b, M' b → M b ∨ (W.heap.size ≤ b ∧ b < W'.heap.size)) : JJ J Jx g (grow T W W') M' W' := by
  obtain ⟨pre, b⟩ := g
  cases b
  · exact H.keepx _ _ _ _ _ _ h hb hM
  · exact H.keep _ _ _ _ _ _ h hb hM
/-- what the iterator may read or write is T -/
theorem in_T (h : Conc ⟨T0, W0, xOf T W⟩ a W st L) {b : Nat} (hs : Sx ⟨T0, W0, xOf T W⟩ W st.tab L b) : T b ∧ ¬ ownB st.tab L b :=
  ⟨Classical.byContradiction fun hn => hs.2.1.2 ⟨hs.1, hn⟩, fun ⟨id, o, h1, h2⟩ => hs.2.2 id o h1 h2⟩
theorem own_T (h : Conc ⟨T0, W0, xOf T W⟩ a W st L) {id : Nat} {o : AObj} {b : Nat} (h1 : st.tab.get id = some o) (h2 : vblk (L id) = some b) : T b :=
  Classical.byContradiction fun hn => (h.lay.ex b ⟨((h.lay.objs id o h1).ge h2).2, hn⟩).2 id o h1 h2
theorem conc_kept (h : Conc ⟨T0, W0, xOf T W⟩ a W st L) (hk : Kept T W W') : Conc ⟨T0, W0, xOf T W'⟩ a W' st L := by
  have hW : BelowX (xOf T W) W0.heap.size W0 W := h.lay.below
  refine conc_move h rfl (fun b hs => hk.block b (in_T h hs).1) (fun id o g h1 h2 => hk.block g (own_T h h1 h2)) (fun b hs => ⟨Nat.lt_of_lt_of_le hs.1 hk.size, ⟨hs.2.1.1, fun hx => hx.2 (in_T h hs).1⟩, hs.2.2⟩) ?_ (fun b hx => ⟨hx.1, fun id o h1 h2 => hx.2 (own_T h h1 h2)⟩)
  refine ⟨hk.os.trans hW.os, hk.tape.trans hW.tape, hk.output.trans hW.output, Nat.le_trans hW.size hk.size, fun k (hk' : k < W0.heap.size) hx => ?_⟩
  have hT : T k := Classical.byContradiction fun hn => hx ⟨Nat.lt_of_lt_of_le hk' (Nat.le_trans hW.size hk.size), hn⟩
  exact (hk.block k hT).trans (hW.block k hk' fun hx' => hx'.2 hT)
theorem wpIn_of_wp0 {o : Oper} {next : Act → World → Prop} {Q : Exit → Act → World → Prop} (h : o.wp P a W next Q) : o.wpIn Fence.wide 0 P a W next Q := by
  refine ⟨fun _ _ => trivial, ?_⟩
  show o.uponIn Fence.wide 0 P a next Q ((execOp a.eval o).run P W)
  unfold Oper.wp at h
  generalize (execOp a.eval o).run P W = r at h
  cases r with
  | ok x w1 =>
    cases x with
    | value v => exact h
    | skip => exact h
    | defer d => exact h
    | enter f args => exact ⟨fun h => (by cases h), callsIn_wide.2 h⟩
    | row row args =>
      refine ⟨fun h => (by cases h), fun c cs _ => ?_⟩
      obtain ⟨v, w', h1, h2⟩ := h c cs
      exact ⟨v, w', h1, stepsIn_wide.2 h2⟩
    | _ => exact h.elim
  | halt x w1 =>
    cases x <;> first | exact h | exact h.elim
theorem iop_ok (H : IHyp P l xs J Jx) {o : Oper} {K : IG → ASt → Prop} {Q : Exit → Act → World → Prop} (hf : fOp o = true) (h : ISt T0 W0 J Jx g st a W) (hp : iOp P l xs o K g st) :
    o.wpIn Fence.wide 0 P a W (fun a' W' => ∃ g' st', K g' st' ∧ ISt T0 W0 J Jx g' st' a' W') Q := by
  obtain ⟨T, L, hC, hd, hT, hJ⟩ := h
  have plain : aOp P o (iK K g) st → o.wpIn Fence.wide 0 P a W (fun a' W' => ∃ g' st', K g' st' ∧ ISt T0 W0 J Jx g' st' a' W') Q := fun hp => by
    refine wpIn_of_wp0 (Oper.wp_mono (fun a' W' ⟨st', L', h2, h3, h4, h5⟩ => ?_) (op_okF hC hp hf))
    have hW : BelowX (xOf T W) W0.heap.size W0 W := hC.lay.below
    have hW' : BelowX (xOf T W) W0.heap.size W0 W' := h3.lay.below
    refine ⟨g, st', h2, grow T W W', L', by rw [xOf_grow h4.size]; exact h3, h5.trans hd, fun b hb' => ?_, jj_keep H hJ ⟨hW'.os.trans hW.os.symm, hW'.tape.trans hW.tape.symm, hW'.output.trans hW.output.symm, h4.size, fun k hk hn => h4.keep k hk fun id o h6 h7 => hn ⟨id, o, h6, h7⟩⟩ fun b hb' => ?_⟩
    · rcases hb' with hb' | hb'
      · exact Nat.lt_of_lt_of_le (hT b hb') h4.size
      · exact hb'.2
    · obtain ⟨id, o, h6, h7⟩ := hb'
      rcases Nat.lt_or_ge b W.heap.size with hlt | hge
      · obtain ⟨id2, o2, h8, h9⟩ := h4.young id o b h6 h7 hlt
        exact .inl ⟨id2, o2, h8, h9⟩
      · exact .inr ⟨hge, ((h3.lay.objs id o h6).ge h7).2⟩
  obtain ⟨dst, op, ty, pos, aft, gd⟩ := o
  unfold iOp at hp
  simp only at hp
  split at hp
  · rename_i c
    obtain ⟨callee, args, argTypes⟩ := c
    simp only at hp
    split at hp
    · rename_i f
      unfold iCallV at hp
      split at hp
      · rename_i l' first caps hfv
        obtain ⟨⟨rfl, rfl, rfl⟩, ⟨h1, h2, h3⟩, h4, h5⟩ := hp
        have hfe := (eval_ok hC f).1
        rw [hfv] at hfe
        have hfe := hfe.c_inv
        have hJ' : J g.1 T (ownB st.tab L) W := by
          unfold JJ at hJ
          rw [h1] at hJ
          exact hJ
        have hrt : ∀ (j : Nat) (v : Value) (av : AV), (args.map a.eval)[j]? = some v → (args.toList.map (aEv st))[j]? = some av → RT W (fun b => T b ∧ ¬ ownB st.tab L b) v av := fun j v av h6 h7 => by
          rw [Array.getElem?_map] at h6
          rw [List.getElem?_map, Array.getElem?_toList] at h7
          cases hj : args[j]? with
          | none => simp [hj] at h6
          | some x =>
            simp [hj] at h6 h7
            subst h6 h7
            have htr := treeAL_mem h2 (aEv st x) (List.mem_map.2 ⟨x, List.mem_of_getElem? (by rw [Array.getElem?_toList]; exact hj), rfl⟩)
            exact (tree_ofA (eval_ok hC x).1 htr).mono (fun _ _ => rfl) fun b hb => in_T hC hb
        obtain ⟨fn, tmps, assign, body, hy, hR⟩ := H.round g.1 _ T _ W (args.map a.eval) hJ' h3 (by simp) hrt
        refine ⟨fun _ _ => trivial, ?_⟩
        have hrun : (execOp a.eval { dst := dst, op := .call { callee := .value f, args := args, argTypes := argTypes }, type := ty, pos := pos, after := aft, guard := gd }).run P W = .ok (.round l' fn tmps assign body) W := by
          simp [execOp, Sem.run_bind, resolve, hfe, Deferred.ofValue, invoke, hy]
        have hsem : ∀ o : Oper, Oper.semAt Fence.wide.round a.eval o = execOp a.eval o := fun o => Oper.semAt_none _ _
        rw [hsem, hrun, Oper.uponIn_round]
        refine ⟨fun h => (by cases h), hR.mono ?_⟩
        have hput : ∀ b : Bool, ∀ W', Kept T W W' → Conc ⟨T0, W0, xOf T W'⟩ (a.put dst (.bool b)) W' (st.put dst (.c (.bool b))) L ∧ (a.put dst (.bool b)).defers = [] ∧ ∀ x, T x → x < W'.heap.size := fun b W' hk =>
          ⟨conc_pure (conc_kept hC hk) (.tree (.c _)) trivial dst, by rw [put_defers]; exact hd, fun x hx => Nat.lt_of_lt_of_le (hT x hx) hk.size⟩
        rintro e W' (⟨rfl, hj, hk⟩ | ⟨rfl, hj, hk⟩)
        · obtain ⟨c1, c2, c3⟩ := hput true W' hk
          exact ⟨_, _, h4, T, L, c1, c2, c3, by rw [put_tab]; exact hj⟩
        · obtain ⟨c1, c2, c3⟩ := hput false W' hk
          exact ⟨_, _, h5, T, L, c1, c2, c3, by rw [put_tab]; exact hj⟩
      · exact plain hp
    · exact plain hp
  · exact plain hp
theorem iops_ok (H : IHyp P l xs J Jx) {ops : Array Oper} {K : IG → ASt → Prop} {Q : Exit → Act → World → Prop} (hQ : ∀ g st a W, K g st → ISt T0 W0 J Jx g st a W → Q .normal a W) :
    ∀ (s : List Oper) (g : IG) (st : ASt) (a : Act) (W : World), (∀ o ∈ s, fOp o = true) → ISt T0 W0 J Jx g st a W → iOps P l xs ops K s g st → wpListIn Fence.wide 0 P ops Q s a W
  | [], g, st, a, W, _, h, hp => hQ g st a W hp h
  | o :: rest, g, st, a, W, hf, h, hp => by
    unfold iOps at hp
    have hfo := hf o (List.mem_cons_self ..)
    obtain ⟨T, L, hC, hd, hT, hJ⟩ := h
    refine wpListIn_step fun K' hK' => ?_
    rcases guard_ok hC hp o rfl with ⟨hw, st', h1, h2, e1, e2⟩ | ⟨hw, st', h1, h2, e1, e2⟩
    · rw [if_pos hw]
      have hi := iop_ok (Q := Q) H hfo ⟨T, L, h2, hd, hT, by rw [e1]; exact hJ⟩ h1
      refine ⟨hi.1, ?_⟩
      have := hi.2
      revert this
      generalize (o.semAt Fence.wide.round a.eval).run P W = r
      intro this
      have hm : ∀ a' W', (∃ g' st', iOps P l xs ops K rest g' st' ∧ ISt T0 W0 J Jx g' st' a' W') → K' a' W' := fun a' W' ⟨g', st'', h3, h4⟩ => hK' a' W' (iops_ok H hQ rest g' st'' a' W' (fun o ho => hf o (List.mem_cons_of_mem _ ho)) h4 h3)
      cases r with
      | ok x w1 =>
        cases x with
        | value v => exact hm _ _ this
        | skip => exact hm _ _ this
        | defer d => exact hm _ _ this
        | enter f args =>
          refine ⟨this.1, this.2.mono ?_⟩
          intro e w'' h5
          cases e with
          | returned v => exact hm _ _ h5
          | panicked c => exact h5
          | outgrown => exact h5
        | row row args => exact ⟨this.1, this.2.mono fun v w'' h5 => hm _ _ h5⟩
        | round l f tmps assign body =>
          refine ⟨this.1, this.2.mono ?_⟩
          intro e w'' h5
          cases e with
          | returned v => exact hm _ _ h5
          | panicked c => exact h5
          | outgrown => exact h5
        | _ => exact this
      | halt x w1 => cases x <;> exact this
    · rw [if_neg (by simp [hw])]
      exact ⟨fun _ _ => trivial, hK' _ _ (iops_ok H hQ rest g _ _ W (fun o ho => hf o (List.mem_cons_of_mem _ ho)) ⟨T, L, skip_conc h2 o.dst, by rw [put_defers]; exact hd, hT, by rw [put_tab, e1]; exact hJ⟩ h1)⟩
def fCodeI : Code → Bool
  | .skip => true
  | .region _ ops draw => !draw && ops.toList.all fOp
  | .seq x y => fCodeI x && fCodeI y
  | .cond _ x y => fCodeI x && fCodeI y
  | .block _ x => fCodeI x
  | .loop x => fCodeI x
  | .exit _ => true
  | .ret => true
  | _ => false
abbrev AfterI (T0 : Nat → Prop) (W0 : World) (J Jx : List (List AV) → (Nat → Prop) → (Nat → Prop) → World → Prop) (Q : Exit → IG → ASt → Prop) : Exit → Act → World → Prop := fun e a W => ∃ g st, Q e g st ∧ ISt T0 W0 J Jx g st a W
theorem ist_weak (H : IHyp P l xs J Jx) (h : ISt T0 W0 J Jx g st a W) (hw : Weak st st') : ISt T0 W0 J Jx g st' a W := by
  obtain ⟨T, L, hC, hd, hT, hJ⟩ := h
  obtain ⟨L', hC', hS⟩ := hw _ _ _ _ hC
  refine ⟨T, L', hC', hd, hT, ?_⟩
  have := jj_keep (M' := ownB st'.tab L') (W' := W) H hJ ⟨rfl, rfl, rfl, Nat.le_refl _, fun _ _ _ => rfl⟩ fun b hb => .inl (Classical.byContradiction fun hn => ?_)
  · rw [grow_self] at this
    exact this
  · obtain ⟨id, o, h1, h2⟩ := hb
    have hge := (hC'.lay.objs id o h1).ge h2
    have hX : ¬ xOf T W b := fun hx => (hC'.lay.ex b hx).2 id o h1 h2
    have hs : Sx ⟨T0, W0, xOf T W⟩ W st.tab L b := ⟨hge.2, ⟨.inr hge.1, hX⟩, fun id2 o2 h3 h4 => hn ⟨id2, o2, h3, h4⟩⟩
    exact (hS b hs).2.2 id o h1 h2
theorem icode_ok (H : IHyp P l xs J Jx) : ∀ (c : Code), fCodeI c = true → ∀ (Q : Exit → IG → ASt → Prop) (g : IG) (st : ASt) (a : Act) (W : World), ISt T0 W0 J Jx g st a W → iCode P l xs c Q g st → c.wpIn Fence.wide 0 P (AfterI T0 W0 J Jx Q) a W := by
  intro c
  induction c with
  | skip => exact fun _ Q g st a W h hp => wpIn_skip ⟨g, st, hp, h⟩
  | region id ops draw =>
    intro hf Q g st a W h hp
    cases draw with
    | false =>
      simp only [fCodeI, Bool.not_false, Bool.true_and, List.all_eq_true] at hf
      exact wpIn_region_list (iops_ok H (fun g st a W h1 h2 => ⟨g, st, h1, h2⟩) _ g st a W hf h hp)
    | true => cases hf
  | seq x y ihx ihy =>
    intro hf Q g st a W h hp
    simp only [fCodeI, Bool.and_eq_true] at hf
    unfold iCode at hp
    refine wpIn_seq (wpIn_mono (ihx hf.1 _ g st a W h hp) (fun e a' W' ⟨g', st', h1, h2⟩ => ?_))
    cases e with
    | normal => exact ihy hf.2 Q g' st' a' W' h2 h1
    | _ => exact ⟨g', st', h1, h2⟩
  | cond c x y ihx ihy =>
    intro hf Q g st a W h hp
    simp only [fCodeI, Bool.and_eq_true] at hf
    unfold iCode aCond at hp
    split at hp
    · rename_i b hb
      obtain ⟨T, L, hC, _⟩ := id h
      have hv := (eval_ok hC c).1
      rw [hb] at hv
      have hv := hv.c_inv
      cases b
      · exact wpIn_cond_false hv (ihy hf.2 Q g st a W h hp)
      · exact wpIn_cond_true hv (ihx hf.1 Q g st a W h hp)
    · exact hp.elim
  | block id x ih =>
    intro hf Q g st a W h hp
    simp only [fCodeI] at hf
    unfold iCode at hp
    refine wpIn_block (wpIn_mono (ih hf _ g st a W h hp) (fun e a' W' ⟨g', st', h1, h2⟩ => ?_))
    cases e with
    | exit id' =>
      simp only [iInBlock, Exit.inBlock] at h1 ⊢
      split
      · rename_i e
        rw [if_pos e] at h1
        exact ⟨g', st', h1, h2⟩
      · rename_i e
        rw [if_neg e] at h1
        exact ⟨g', st', h1, h2⟩
    | _ => exact ⟨g', st', h1, h2⟩
  | loop x ih =>
    intro hf Q g st a W h hp
    simp only [fCodeI] at hf
    unfold iCode at hp
    obtain ⟨I, μ, ⟨st0, hw0, hI⟩, hr⟩ := hp
    let p : Act → World → Nat → Prop := fun a W n => ∃ g st, I g st ∧ ISt T0 W0 J Jx g st a W ∧ μ g st = n
    refine wpIn_loop (fun a W => ∃ n, p a W n) (fun a W => least (p a W)) ⟨_, g, st0, hI, ist_weak H h hw0, rfl⟩ fun a W hpa => ?_
    obtain ⟨⟨g, st, h1, h2, h3⟩, _⟩ := least_spec hpa
    refine wpIn_mono (ih hf _ g st a W h2 (hr g st h1)) (fun e a' W' ⟨g', st', h4, h5⟩ => ?_)
    cases e with
    | normal =>
      obtain ⟨st'', hw, hI'', hlt⟩ := h4
      have hpn : p a' W' (μ g' st'') := ⟨g', st'', hI'', ist_weak H h5 hw, rfl⟩
      refine ⟨⟨_, hpn⟩, ?_⟩
      have := (least_spec ⟨_, hpn⟩).2 _ hpn
      show least (p a' W') < least (p a W)
      omega
    | _ => exact ⟨g', st', h4, h5⟩
  | exit id => exact fun _ Q g st a W h hp => wpIn_exit ⟨g, st, hp, h⟩
  | ret => exact fun _ Q g st a W h hp => wpIn_ret ⟨g, st, hp, h⟩
  | _ => exact fun hf => (by cases hf)
/-- where an iterator ends -/
def iRet (xs : List (List AV)) : Exit → IG → ASt → Prop
  | .normal, g, _ => (g.2 = true → g.1 = xs) ∧ g.1 <+: xs
  | .ret, g, _ => (g.2 = true → g.1 = xs) ∧ g.1 <+: xs
  | _, _, _ => False
end
theorem conc_init {S : Nat → Prop} {w : World} {vs : Array Value} {args : List AV} {n : Nat} (hS : ∀ b, S b → b < w.heap.size) (hvs : vs.size = args.length) (hn : args.length ≤ n) (hv : ∀ (j : Nat) (v : Value) (av : AV), vs[j]? = some v → args[j]? = some av → RT w S v av) :
    Conc ⟨S, w, xOf S w⟩ { tmps := vs ++ Array.replicate (n - vs.size) undef, defers := [] } w ⟨n, envOf 0 args, [], 0⟩ (fun _ => undef) := by
  have hL : Lay ⟨S, w, xOf S w⟩ w [] (fun _ => undef) := ⟨belowX (Below.refl _ _), fun id o h => (by cases h), fun id id' o o' g h => (by cases h), fun b hb => ⟨hb.1, fun id o h => (by cases h)⟩⟩
  refine ⟨hL, ?_, Marks.nil _ _ _, fun id o h => (by cases h), fun t => ?_⟩
  · simp
    omega
  have e : (⟨n, envOf 0 args, [], 0⟩ : ASt).get t = args.getD t .any := by
    show (if t < n then aget (envOf 0 args) t else .any) = _
    rw [aget_envOf]
    split
    · simp
    · simp [List.getD, List.getElem?_eq_none (show args.length ≤ t by omega)]
  rw [e]
  by_cases ht : t < args.length
  · have ht' : t < vs.size := by omega
    have e2 : (vs ++ Array.replicate (n - vs.size) undef).getD t undef = vs[t] := by
      rw [Array.getD_eq_getD_getElem?, Array.getElem?_append_left ht', Array.getElem?_eq_getElem ht']
      rfl
    have e3 : args.getD t .any = args[t] := by simp [List.getD, ht]
    rw [e2, e3]
    have := hv t _ _ (Array.getElem?_eq_getElem ht') (List.getElem?_eq_getElem ht)
    exact ⟨.tree (this.mono (fun _ _ => rfl) fun b hb => ⟨hS b hb, ⟨.inl hb, fun hx => hx.2 hb⟩, fun id o h => by cases h⟩), this.lt 0⟩
  · have e3 : args.getD t .any = .any := by simp [List.getD, List.getElem?_eq_none (Nat.le_of_not_lt ht)]
    rw [e3]
    exact ⟨.tree (.any _), trivial⟩
/-- AN ITERATOR's CONTRACT OUT OF ITS CODE. -/
theorem aseq_of_code {P : Program} {f : FuncId} {fn : Func} {c : Code} (hf : P.funcs[f]? = some fn) (hb : fn.body = some c) (hname : (fn.name == "runtime.NumGoroutine") = false) {caps : List AV} {xs : List (List AV)} {n : Nat} (hnt : fn.ntmps = n) (hrs : fn.results = #[]) (hn : Nat.ble (caps.length + 1) n = true)
    (hc : fCodeI c = true) (ht : treeL caps) (h : ∀ l, iCode P l xs c (iRet xs) ([], true) ⟨n, envOf 0 (.c (.func (.yield l) #[] #[]) :: caps), [], 0⟩) : ASeq P f caps xs := by
  have hn := Nat.le_of_ble_eq_true hn
  subst hnt
  refine ⟨enters_of hf hb hname, fun l T0 lb W0 J Jx hlb hcap hlt hkeep hkeepx hround hJ0 => ?_⟩
  refine callsIn_of_wp hf hb trivial ?_ rfl
  have H : IHyp P l xs J Jx := ⟨hkeep, hkeepx, hround⟩
  have hC : Conc ⟨T0, W0, xOf T0 W0⟩ { tmps := (#[.func (.yield l) #[] #[]] ++ lb) ++ Array.replicate (fn.ntmps - (#[Value.func (.yield l) #[] #[]] ++ lb).size) undef, defers := [] } W0 ⟨fn.ntmps, envOf 0 (.c (.func (.yield l) #[] #[]) :: caps), [], 0⟩ (fun _ => undef) := by
    refine conc_init (args := .c (.func (.yield l) #[] #[]) :: caps) ?_ ?_ (by simpa using hn) fun j v av h1 h2 => ?_
    · exact hlt _ _ _ _ hJ0
    · simp
      omega
    · cases j with
      | zero =>
        rw [Array.getElem?_append_left (by simp)] at h1
        simp at h1 h2
        subst h1
        subst h2
        exact .c _
      | succ j =>
        refine hcap j v av ?_ (by simpa using h2)
        rw [Array.getElem?_append_right (by simp)] at h1
        simpa using h1
  have hJ1 : J [] T0 (ownB (⟨fn.ntmps, envOf 0 (.c (.func (.yield l) #[] #[]) :: caps), [], 0⟩ : ASt).tab fun _ => undef) W0 := by
    have := hkeep [] T0 _ (ownB [] fun _ => undef) W0 W0 hJ0 ⟨rfl, rfl, rfl, Nat.le_refl _, fun _ _ _ => rfl⟩ fun b ⟨id, o, h1, _⟩ => (by cases h1)
    rw [grow_self] at this
    exact this
  refine wpIn_mono (icode_ok H c hc _ ([], true) _ _ _ ⟨T0, _, hC, rfl, hlt _ _ _ _ hJ0, hJ1⟩ (h l)) fun e a W' ⟨g, st, hq, T, L, hC', hd, _, hJ⟩ => ?_
  have fin : ((g.2 = true → g.1 = xs) ∧ g.1 <+: xs) → a.defers = [] ∧ ∃ v, (results fn a.tmps).run P W' = .ok v W' ∧ (∃ u, (Ending.returned v : Ending) = .returned u) ∧ ((∃ T M, J xs T M W') ∨ ∃ pre T M, pre <+: xs ∧ Jx pre T M W') := fun ⟨h1, h2⟩ => by
    refine ⟨hd, .tuple #[], by simp [results, hrs], ⟨_, rfl⟩, ?_⟩
    obtain ⟨pre, b⟩ := g
    cases b with
    | true =>
      obtain rfl : pre = xs := h1 rfl
      exact .inl ⟨T, _, hJ⟩
    | false => exact .inr ⟨pre, T, _, h2, hJ⟩
  cases e with
  | normal => exact fin hq
  | ret => exact fin hq
  | _ => exact hq.elim
end
section
open Go.RowKit

mutual
def AV.rpz (id : Nat) (cells : List AV) : AV → AV
  | .op id' i j => if id' = id then (if i = 0 then .rp (cells.drop j) else .any) else .op id' i j
  | .osl id' => if id' = id then .any else .osl id'
  | .agg cs => .agg (AV.rpzL id cells cs)
  | .tup cs => .tup (AV.rpzL id cells cs)
  | .fn f cs => .fn f (AV.rpzL id cells cs)
  | .any => .any
  | .c v => .c v
  | .sl sz rows => .sl sz rows
  | .rp cs => .rp cs
def AV.rpzL (id : Nat) (cells : List AV) : List AV → List AV
  | [] => []
  | a :: l => a.rpz id cells :: AV.rpzL id cells l
end
theorem rpzL_map (id : Nat) (cells : List AV) : ∀ l : List AV, AV.rpzL id cells l = l.map (·.rpz id cells)
  | [] => rfl
  | a :: l => by rw [AV.rpzL, rpzL_map id cells l]; rfl
def rpzEnv (id : Nat) (cells : List AV) : List (Nat × AV) → List (Nat × AV)
  | [] => []
  | (t, av) :: l => (t, av.rpz id cells) :: rpzEnv id cells l
theorem rpzEnv_get (id : Nat) (cells : List AV) : ∀ (l : List (Nat × AV)) (t : Nat), aget (rpzEnv id cells l) t = (aget l t).rpz id cells
  | [], t => rfl
  | (k, av) :: l, t => by
    unfold rpzEnv aget
    split
    · rfl
    · exact rpzEnv_get id cells l t
def treeObj : AObj → Prop
  | .box _ cells => treeL cells
  | .row _ _ _ => True
def treeTab (id : Nat) : ATab → Prop
  | [] => True
  | (k, some o) :: l => (k = id ∨ treeObj o) ∧ treeTab id l
  | (_, none) :: l => treeTab id l
theorem treeTab_get {id : Nat} : ∀ {l : ATab} {k : Nat} {o : AObj}, treeTab id l → l.get k = some o → k = id ∨ treeObj o
  | [], k, o, _, h => by cases h
  | (k', some oo) :: l, k, o, ht, h => by
    rw [ATab.get_cons] at h
    split at h
    · rename_i e
      cases h
      rw [e]
      exact ht.1
    · exact treeTab_get ht.2 h
  | (k', none) :: l, k, o, ht, h => by
    rw [ATab.get_cons] at h
    split at h
    · cases h
    · exact treeTab_get (l := l) ht h
theorem rt_rpz {w : World} {S : Nat → Prop} {x : Value} {av : AV} (h : RT w S x av) (id : Nat) (cells : List AV) : av.rpz id cells = av := by
  induction h with
  | agg xs cs hn hr ih =>
    simp only [AV.rpz, rpzL_map, AV.agg.injEq]
    apply List.ext_getElem?
    intro j
    rw [List.getElem?_map]
    cases hj : cs[j]? with
    | none => rfl
    | some av =>
      have hlt : j < xs.size := by rw [hn]; exact (List.getElem?_eq_some_iff.1 hj).1
      simp [ih j _ av (Array.getElem?_eq_getElem hlt) hj]
  | tup xs cs hn hr ih =>
    simp only [AV.rpz, rpzL_map, AV.tup.injEq]
    apply List.ext_getElem?
    intro j
    rw [List.getElem?_map]
    cases hj : cs[j]? with
    | none => rfl
    | some av =>
      have hlt : j < xs.size := by rw [hn]; exact (List.getElem?_eq_some_iff.1 hj).1
      simp [ih j _ av (Array.getElem?_eq_getElem hlt) hj]
  | fn f xs cs hn hr ih =>
    simp only [AV.rpz, rpzL_map, AV.fn.injEq]
    refine ⟨trivial, ?_⟩
    apply List.ext_getElem?
    intro j
    rw [List.getElem?_map]
    cases hj : cs[j]? with
    | none => rfl
    | some av =>
      have hlt : j < xs.size := by rw [hn]; exact (List.getElem?_eq_some_iff.1 hj).1
      simp [ih j _ av (Array.getElem?_eq_getElem hlt) hj]
  | _ => rfl
theorem rpz_lt {id nx : Nat} {cells : List AV} : ∀ {av : AV}, av.lt nx → (av.rpz id cells).lt nx := by
  intro av
  induction av using AV.rec (motive_2 := fun _ => True) (motive_3 := fun l => AV.ltL nx l → AV.ltL nx (AV.rpzL id cells l)) <;> simp_all [AV.lt, AV.ltL, AV.rpz, AV.rpzL]
  · split <;> simp_all [AV.lt]
  · split
    · split <;> simp [AV.lt]
    · simp_all [AV.lt]
/-- a variable of its own is written no more: pointers to it are pointers to what is read -/
theorem weak_rp {n nx : Nat} {env : List (Nat × AV)} {tab : ATab} (id : Nat) {ty : TypeId} {cells : List AV} (hid : tab.get id = some (.box ty cells)) (ht : treeL cells) (hot : treeTab id tab) : Weak ⟨n, env, tab, nx⟩ ⟨n, rpzEnv id cells env, (id, none) :: tab, nx⟩ := by
  intro cx a w L h
  have hget : ∀ k o, ATab.get ((id, none) :: tab) k = some o → k ≠ id ∧ tab.get k = some o := fun k o hk => by
    rw [ATab.get_cons] at hk
    split at hk
    · cases hk
    · exact ⟨by assumption, hk⟩
  have hS : ∀ b, Sx cx w tab L b → Sx cx w ((id, none) :: tab) L b := fun b hb => ⟨hb.1, hb.2.1, fun k o hk => hb.2.2 k o (hget k o hk).2⟩
  have hK : ∀ k p, Kx ((id, none) :: tab) L k = some p → k ≠ id ∧ Kx tab L k = some p := fun k p hk => by
    unfold Kx at *
    cases ho : ATab.get ((id, none) :: tab) k with
    | none => simp [ho] at hk
    | some o =>
      obtain ⟨h1, h2⟩ := hget k o ho
      refine ⟨h1, ?_⟩
      rw [h2]
      simpa [ho] using hk
  obtain ⟨g, cs, hL, hbg, hheap, hcs, hx⟩ := h.lay.objs id _ hid
  have hg : vblk (L id) = some g := by rw [hL]; rfl
  have hSg : Sx cx w ((id, none) :: tab) L g := ⟨(Array.getElem?_eq_some_iff.1 hheap).1, ⟨.inr hbg, fun hX => (h.lay.ex g hX).2 id _ hid hg⟩, fun k o hk hkg => by
    obtain ⟨h1, h2⟩ := hget k o hk
    exact h1 (h.lay.sep k id o _ g h2 hid hkg hg)⟩
  have conv : ∀ x av, RVx cx w tab L x av → RVx cx w ((id, none) :: tab) L x (av.rpz id cells) := fun x av hr => by
    induction hr with
    | tree h0 =>
      rw [rt_rpz h0]
      exact .tree (h0.mono (fun _ _ => rfl) hS)
    | osl x id' h0 =>
      unfold AV.rpz
      split
      · exact .tree (.any _)
      · exact .osl x id' fun sz v e => h0 sz v (hK id' _ e).2
    | op x id' i j h0 =>
      unfold AV.rpz
      split
      · rename_i e
        subst e
        split
        · rename_i e
          subst e
          obtain ⟨g', hg', rfl⟩ := h0 _ _ (kx_of hid)
          rw [hg] at hg'
          cases hg'
          rw [Nat.zero_mul, Nat.zero_add]
          refine .tree (.rp g j _ (fun k => cs[j + k]?.getD undef) hSg (fun k av hk => ?_) (fun k av hk => ?_))
          · rw [List.getElem?_drop] at hk
            have hlt : j + k < cs.size := by rw [hcs]; exact (List.getElem?_eq_some_iff.1 hk).1
            rw [cell_of_row w g (j + k) cs ty (0, 0) hheap, Array.getElem?_eq_getElem hlt]
            rfl
          · rw [List.getElem?_drop] at hk
            have hlt : j + k < cs.size := by rw [hcs]; exact (List.getElem?_eq_some_iff.1 hk).1
            rw [Array.getElem?_eq_getElem hlt, Option.getD_some]
            exact (tree_of (hx (j + k) _ av (Array.getElem?_eq_getElem hlt) hk).1 (treeL_iff.1 ht av (List.mem_of_getElem? hk))).mono (fun _ _ => rfl) hS
        · exact .tree (.any _)
      · exact .op x id' i j fun sz v e => h0 sz v (hK id' _ e).2
    | agg xs cs' hn hr ih =>
      simp only [AV.rpz, rpzL_map]
      refine .agg xs _ (by simpa using hn) fun j x av h1 h2 => ?_
      rw [List.getElem?_map] at h2
      cases hj : cs'[j]? with
      | none => simp [hj] at h2
      | some av' =>
        simp [hj] at h2
        subst h2
        exact ih j x av' h1 hj
    | tup xs cs' hn hr ih =>
      simp only [AV.rpz, rpzL_map]
      refine .tup xs _ (by simpa using hn) fun j x av h1 h2 => ?_
      rw [List.getElem?_map] at h2
      cases hj : cs'[j]? with
      | none => simp [hj] at h2
      | some av' =>
        simp [hj] at h2
        subst h2
        exact ih j x av' h1 hj
    | fn f xs cs' hn hr ih =>
      simp only [AV.rpz, rpzL_map]
      refine .fn f xs _ (by simpa using hn) fun j x av h1 h2 => ?_
      rw [List.getElem?_map] at h2
      cases hj : cs'[j]? with
      | none => simp [hj] at h2
      | some av' =>
        simp [hj] at h2
        subst h2
        exact ih j x av' h1 hj
  refine ⟨L, ⟨⟨h.lay.below, fun k o hk => ?_, fun k k' o o' g' h1 h2 => h.lay.sep k k' o o' g' (hget k o h1).2 (hget k' o' h2).2, fun b hb => ⟨(h.lay.ex b hb).1, fun k o hk => (h.lay.ex b hb).2 k o (hget k o hk).2⟩⟩, h.size, h.defers.mono (fun _ _ => rfl) hS, fun k o hk => h.young k o (hget k o hk).2, fun t => ?_⟩, hS⟩
  · obtain ⟨h1, h2⟩ := hget k o hk
    have ho := h.lay.objs k o h2
    have htr := (treeTab_get hot h2).resolve_left h1
    cases o with
    | box t cells' =>
      obtain ⟨g', cs', h3, h4, h5, h6, h7⟩ := ho
      exact ⟨g', cs', h3, h4, h5, h6, fun j x av h8 h9 => ⟨.tree ((tree_of (h7 j x av h8 h9).1 (treeL_iff.1 htr av (List.mem_of_getElem? h9))).mono (fun _ _ => rfl) hS), (h7 j x av h8 h9).2⟩⟩
    | row e sz rows =>
      obtain ⟨h3, xs, h4, h5, h6⟩ := ho
      refine ⟨h3, xs, h4, h5, fun i j row av h7 h8 => ?_⟩
      obtain ⟨x, hx, hr⟩ := h6 i j row av h7 h8
      exact ⟨x, hx, hr.mono (fun _ _ => rfl) hS⟩
  · have e1 : (⟨n, rpzEnv id cells env, (id, none) :: tab, nx⟩ : ASt).get t = ((⟨n, env, tab, nx⟩ : ASt).get t).rpz id cells := by
      unfold ASt.get
      simp only
      split
      · exact rpzEnv_get ..
      · simp [AV.rpz]
    rw [e1]
    exact ⟨conv _ _ (h.env t).1, rpz_lt (h.env t).2⟩
/-- the answer, seen otherwise -/
def aRetW (P : Program) (rs : List ResultVar) (Post : Res → Prop) (e : Exit) (st : ASt) : Prop := aTo (aRetR P rs Post e) st
theorem arel_of_weak {P : Program} (hm : P.follows .mixedOrders = true) {f : FuncId} {fn : Func} {c : Code} (hf : P.funcs[f]? = some fn) (hb : fn.body = some c) (hname : (fn.name == "runtime.NumGoroutine") = false) {args : List AV} {Post : Res → Prop} {n : Nat} (hnt : fn.ntmps = n) {rs : List ResultVar} (hrs : fn.results = rs.toArray) (hn : Nat.ble args.length n = true)
    (h : aCode P c (aRetW P rs Post) ⟨n, envOf 0 args, [], 0⟩) : ARel P f args Post :=
  arel_of_wp hf hb hname hnt hrs hn fun cx a w L hc => Code.wp_mono (fun e a w ⟨st, L, ⟨st', hw, h1⟩, h2⟩ => (hw _ _ _ _ h2).elim fun L' h3 => ⟨st', L', h1, h3.1⟩) (code_ok hm c _ a w _ L hc h)
theorem aRnd_normal {I : List (List AV) → ASt → Prop} {Ix : Code → List (List AV) → ASt → Prop} {pre : List (List AV)} {st1 st' : ASt} : aRnd I Ix pre st1 .normal st' = aTo (I pre) ⟨st1.n, st1.env, st'.tab, st'.next⟩ := rfl
theorem aRnd_ret {I : List (List AV) → ASt → Prop} {Ix : Code → List (List AV) → ASt → Prop} {pre : List (List AV)} {st1 st' : ASt} : aRnd I Ix pre st1 .ret st' = aTo (Ix .ret pre) ⟨st1.n, st1.env, st'.tab, st'.next⟩ := rfl
theorem aRnd_exit {I : List (List AV) → ASt → Prop} {Ix : Code → List (List AV) → ASt → Prop} {pre : List (List AV)} {st1 st' : ASt} {id : Nat} : aRnd I Ix pre st1 (.exit id) st' = aTo (Ix (.exit id) pre) ⟨st1.n, st1.env, st'.tab, st'.next⟩ := rfl
theorem putAll_nil {st : ASt} : putAll [] st = st := rfl
theorem putAll_cons {p : Nat} {av : AV} {l : List (Nat × AV)} {st : ASt} : putAll ((p, av) :: l) st = putAll l (st.put (some p) av) := rfl
theorem ruL : type_of% (And.intro @aRnd_normal (And.intro @aRnd_ret (And.intro @aRnd_exit (And.intro @putAll_nil (And.intro @putAll_cons (And.intro (@List.zip_cons_cons.{0, 0}) (@List.zip_nil_left.{0, 0}))))))) :=
  And.intro @aRnd_normal (And.intro @aRnd_ret (And.intro @aRnd_exit (And.intro @putAll_nil (And.intro @putAll_cons (And.intro (@List.zip_cons_cons.{0, 0}) (@List.zip_nil_left.{0, 0}))))))
/-- a closure is given back -/
theorem retC {Post : Res → Prop} {st : ASt} {r av : AV} (h : Post ⟨r, [], 0⟩) (hl : r.lt 0) (hr : r.ren [] = av) : ∃ R, Post R ∧ R.Ok ∧ aGives R st av := ⟨_, h, ⟨fun id o h => (by cases h), hl⟩, ⟨[], List.nodup_nil, hr, trivial⟩⟩
end
section
open Go.RowKit
/-- all pairs, by the first one -/
def pairsL (E U : Nat) : List (List AV) := (List.range E).flatMap fun (e : Nat) => (List.range U).map fun (u : Nat) => [eI (e : Int), eI (u : Int)]
theorem pairsL_succ (e U : Nat) : pairsL (e + 1) U = pairsL e U ++ (List.range U).map fun (u : Nat) => [eI (e : Int), eI (u : Int)] := by
  unfold pairsL
  rw [List.range_succ, List.flatMap_append]
  simp
theorem pairsL_pre {E U : Nat} : ∀ {e : Nat}, e ≤ E → pairsL e U <+: pairsL E U := by
  intro e h
  obtain ⟨k, rfl⟩ : ∃ k, E = e + k := ⟨E - e, by omega⟩
  clear h
  induction k with
  | zero => exact List.prefix_rfl
  | succ k ih =>
    rw [← Nat.add_assoc, pairsL_succ]
    exact ih.trans (List.prefix_append ..)
theorem pairsL_pre2 {E U e u : Nat} (he : e < E) (hu : u ≤ U) : pairsL e U ++ ((List.range u).map fun (u : Nat) => [eI (e : Int), eI (u : Int)]) <+: pairsL E U := by
  refine List.IsPrefix.trans ?_ (pairsL_pre (e := e + 1) he)
  rw [pairsL_succ]
  refine List.prefix_append_right_inj _ |>.2 ?_
  refine List.IsPrefix.map _ ?_
  rw [List.prefix_iff_eq_take]
  simp [List.take_range, Nat.min_eq_left hu]
theorem pairsL_snoc (e u U : Nat) : (pairsL e U ++ ((List.range u).map fun (u : Nat) => [eI (e : Int), eI (u : Int)])) ++ [[eI (e : Int), eI (u : Int)]] = pairsL e U ++ ((List.range (u + 1)).map fun (u : Nat) => [eI (e : Int), eI (u : Int)]) := by
  rw [List.range_succ, List.map_append, List.append_assoc]
  rfl
theorem pairsL_mem {E U : Nat} {x : List AV} : x ∈ pairsL E U ↔ ∃ e u : Nat, e < E ∧ u < U ∧ x = [eI (e : Int), eI (u : Int)] := by
  unfold pairsL
  simp only [List.mem_flatMap, List.mem_range, List.mem_map]
  constructor
  · rintro ⟨e, he, u, hu, rfl⟩
    exact ⟨e, u, he, hu, rfl⟩
  · rintro ⟨e, u, he, hu, rfl⟩
    exact ⟨e, he, u, hu, rfl⟩
set_option maxRecDepth 100000 in
set_option maxHeartbeats 8000000 in
theorem pairs1_A (m : Mod) (hl : m.events.length ≤ 1000000) (hl2 : m.users.length ≤ 1000000) : ASeq Tryz.prog 72 [.rp (eMod m)] (pairsL m.events.length m.users.length) := by
  refine aseq_of_code Tryz.func72 rfl (by decide) Tryz.ntmps72 Tryz.results72 rfl (by kernel_rfl) (by simp [treeL, treeC]) fun l => ?_
  (repeat' (first | simp (maxSteps := 5000000) (implicitDefEqProofs := false) only [ruA, ruB, aEv, aTake, aLoad, aField, aIndex, aLen, aBin, bin2, aUn, un1, aExtract, aConv, ASt.get, aget, ASt.put, aStore, aBox, aAppend, aBuildSlice, aMake, aBuild, aFill, oneParts, allC, aBinS, yv, aCells, oneC, oneCL, treeC, treeL, aLit, aDst, aSrc, appTab, Value.cells, Value.oneCell', envOf, aResL, aOne, ↓reduceIte, reduceCtorEq, forall_const, Nat.reduceLT, Nat.reduceEqDiff, Nat.reduceAdd, Nat.reduceMul, Nat.reduceSub, Nat.reduceLeDiff, Nat.reduceBEq, eq_self, implies_true, ne_eq, dref, dref1, dref2, aExecS, aStoreB, aTakes, aTakeE, aElder, aFrom, aFresh, isLoad, aBuildSlice1, frzs, frz1, ownIds, AV.frz, AV.frzL, frzEnv, AV.shift, AV.shiftL, aFieldV, aSliceW, aSliceO, aSlice, aSliceR, aSliceS, aBd, aMax, frzAVs, frzAV, frzTab, AObj.frz, aMM, aNilS, aMay, tyF_32_5, tyA_26, tyS_26, tyE_26, tyK_26, tyK_3, tyF_32_2, tyA_22, tyS_22, tyE_22, tyK_22, ruI] | (with_reducible refine aIf_split (fun _ => ?_) (fun _ => ?_)) | (with_reducible refine aSel_split (fun _ => ?_) (fun _ => ?_)) | (with_reducible refine aGd_split (fun _ => ?_) (fun _ => ?_))))
  refine iLoop_of (fun g st => ∃ e : Nat, e ≤ m.events.length ∧ g = (pairsL e m.users.length, true) ∧ st = ⟨24, [(0, .c (.func (.yield l) #[] #[])), (1, .rp (eMod m)), (7, eI (m.events.length : Int)), (8, eI (e : Int))], [], 0⟩) (fun g st => m.events.length - slotN st 8) ⟨_, (weak_cut1 (by (first | ((simp only [envIn, tabIn, envLt, tabLt, AObj.lt, AV.lt, AV.ltL, ruW, ASt.get, aget, ASt.put, ↓reduceIte, reduceCtorEq, Nat.reduceLT, Nat.reduceEqDiff, Nat.reduceAdd, Nat.reduceLeDiff, eq_self, implies_true]) <;> (repeat' apply And.intro) <;> first | (rw [wrapK (by omega)]; done) | (simp; done) | omega) | fail))), 0, Nat.zero_le _, rfl, rfl⟩ ?_
  rintro _ _ ⟨e, he, rfl, rfl⟩
  by_cases he2 : e < m.events.length
  · (repeat' (first | simp (maxSteps := 5000000) (implicitDefEqProofs := false) only [ruA, ruB, aEv, aTake, aLoad, aField, aIndex, aLen, aBin, bin2, aUn, un1, aExtract, aConv, ASt.get, aget, ASt.put, aStore, aBox, aAppend, aBuildSlice, aMake, aBuild, aFill, oneParts, allC, aBinS, yv, aCells, oneC, oneCL, treeC, treeL, aLit, aDst, aSrc, appTab, Value.cells, Value.oneCell', envOf, aResL, aOne, ↓reduceIte, reduceCtorEq, forall_const, Nat.reduceLT, Nat.reduceEqDiff, Nat.reduceAdd, Nat.reduceMul, Nat.reduceSub, Nat.reduceLeDiff, Nat.reduceBEq, eq_self, implies_true, ne_eq, dref, dref1, dref2, aExecS, aStoreB, aTakes, aTakeE, aElder, aFrom, aFresh, isLoad, aBuildSlice1, frzs, frz1, ownIds, AV.frz, AV.frzL, frzEnv, AV.shift, AV.shiftL, aFieldV, aSliceW, aSliceO, aSlice, aSliceR, aSliceS, aBd, aMax, frzAVs, frzAV, frzTab, AObj.frz, aMM, aNilS, aMay, tyF_32_5, tyA_26, tyS_26, tyE_26, tyK_26, tyK_3, tyF_32_2, tyA_22, tyS_22, tyE_22, tyK_22, ruI, he2] | (with_reducible refine aIf_split (fun _ => ?_) (fun _ => ?_)) | (with_reducible refine aSel_split (fun _ => ?_) (fun _ => ?_)) | (with_reducible refine aGd_split (fun _ => ?_) (fun _ => ?_))))
    refine iLoop_of (fun g st => ∃ u : Nat, u ≤ m.users.length ∧ g = (pairsL e m.users.length ++ ((List.range u).map fun (u : Nat) => [eI (e : Int), eI (u : Int)]), true) ∧ st = ⟨24, [(0, .c (.func (.yield l) #[] #[])), (1, .rp (eMod m)), (3, eI (e : Int)), (7, eI (m.events.length : Int)), (8, eI (e : Int)), (13, eI (m.users.length : Int)), (14, eI (u : Int))], [], 0⟩) (fun g st => m.users.length - slotN st 14) ⟨_, (weak_cut1 (by (first | ((simp only [envIn, tabIn, envLt, tabLt, AObj.lt, AV.lt, AV.ltL, ruW, ASt.get, aget, ASt.put, ↓reduceIte, reduceCtorEq, Nat.reduceLT, Nat.reduceEqDiff, Nat.reduceAdd, Nat.reduceLeDiff, eq_self, implies_true]) <;> (repeat' apply And.intro) <;> first | (rw [wrapK (by omega)]; done) | (simp; done) | omega) | fail))), 0, Nat.zero_le _, by simp, rfl⟩ ?_
    rintro _ _ ⟨u, hu, rfl, rfl⟩
    by_cases hu2 : u < m.users.length
    · have hp := pairsL_pre2 (u := u + 1) he2 hu2
      rw [← pairsL_snoc] at hp
      (repeat' (first | simp (maxSteps := 5000000) (implicitDefEqProofs := false) only [ruA, ruB, aEv, aTake, aLoad, aField, aIndex, aLen, aBin, bin2, aUn, un1, aExtract, aConv, ASt.get, aget, ASt.put, aStore, aBox, aAppend, aBuildSlice, aMake, aBuild, aFill, oneParts, allC, aBinS, yv, aCells, oneC, oneCL, treeC, treeL, aLit, aDst, aSrc, appTab, Value.cells, Value.oneCell', envOf, aResL, aOne, ↓reduceIte, reduceCtorEq, forall_const, Nat.reduceLT, Nat.reduceEqDiff, Nat.reduceAdd, Nat.reduceMul, Nat.reduceSub, Nat.reduceLeDiff, Nat.reduceBEq, eq_self, implies_true, ne_eq, dref, dref1, dref2, aExecS, aStoreB, aTakes, aTakeE, aElder, aFrom, aFresh, isLoad, aBuildSlice1, frzs, frz1, ownIds, AV.frz, AV.frzL, frzEnv, AV.shift, AV.shiftL, aFieldV, aSliceW, aSliceO, aSlice, aSliceR, aSliceS, aBd, aMax, frzAVs, frzAV, frzTab, AObj.frz, aMM, aNilS, aMay, tyF_32_5, tyA_26, tyS_26, tyE_26, tyK_26, tyK_3, tyF_32_2, tyA_22, tyS_22, tyE_22, tyK_22, ruI, hu2, iYield, treeAL, treeA, treeL, treeC, hp] | (with_reducible refine aIf_split (fun _ => ?_) (fun _ => ?_)) | (with_reducible refine aSel_split (fun _ => ?_) (fun _ => ?_)) | (with_reducible refine aGd_split (fun _ => ?_) (fun _ => ?_))))
      refine ⟨?_, by simp, hp⟩
      exact iRoundI (weak_cut1 (by (first | ((simp only [envIn, tabIn, envLt, tabLt, AObj.lt, AV.lt, AV.ltL, ruW, ASt.get, aget, ASt.put, ↓reduceIte, reduceCtorEq, Nat.reduceLT, Nat.reduceEqDiff, Nat.reduceAdd, Nat.reduceLeDiff, eq_self, implies_true]) <;> (repeat' apply And.intro) <;> first | (rw [wrapK (by omega)]; done) | (simp; done) | omega) | fail))) ⟨u + 1, by omega, by rw [pairsL_snoc], rfl⟩ (by simp only [slotN, ruW, ASt.get, aget, ASt.put, ↓reduceIte, reduceCtorEq, Nat.reduceLT, Nat.reduceEqDiff, Nat.reduceAdd, Nat.reduceLeDiff, eq_self, implies_true]; omega)
    · obtain rfl : u = m.users.length := by omega
      (repeat' (first | simp (maxSteps := 5000000) (implicitDefEqProofs := false) only [ruA, ruB, aEv, aTake, aLoad, aField, aIndex, aLen, aBin, bin2, aUn, un1, aExtract, aConv, ASt.get, aget, ASt.put, aStore, aBox, aAppend, aBuildSlice, aMake, aBuild, aFill, oneParts, allC, aBinS, yv, aCells, oneC, oneCL, treeC, treeL, aLit, aDst, aSrc, appTab, Value.cells, Value.oneCell', envOf, aResL, aOne, ↓reduceIte, reduceCtorEq, forall_const, Nat.reduceLT, Nat.reduceEqDiff, Nat.reduceAdd, Nat.reduceMul, Nat.reduceSub, Nat.reduceLeDiff, Nat.reduceBEq, eq_self, implies_true, ne_eq, dref, dref1, dref2, aExecS, aStoreB, aTakes, aTakeE, aElder, aFrom, aFresh, isLoad, aBuildSlice1, frzs, frz1, ownIds, AV.frz, AV.frzL, frzEnv, AV.shift, AV.shiftL, aFieldV, aSliceW, aSliceO, aSlice, aSliceR, aSliceS, aBd, aMax, frzAVs, frzAV, frzTab, AObj.frz, aMM, aNilS, aMay, tyF_32_5, tyA_26, tyS_26, tyE_26, tyK_26, tyK_3, tyF_32_2, tyA_22, tyS_22, tyE_22, tyK_22, ruI, hu2] | (with_reducible refine aIf_split (fun _ => ?_) (fun _ => ?_)) | (with_reducible refine aSel_split (fun _ => ?_) (fun _ => ?_)) | (with_reducible refine aGd_split (fun _ => ?_) (fun _ => ?_))))
      exact iRoundI (weak_cut1 (by (first | ((simp only [envIn, tabIn, envLt, tabLt, AObj.lt, AV.lt, AV.ltL, ruW, ASt.get, aget, ASt.put, ↓reduceIte, reduceCtorEq, Nat.reduceLT, Nat.reduceEqDiff, Nat.reduceAdd, Nat.reduceLeDiff, eq_self, implies_true]) <;> (repeat' apply And.intro) <;> first | (rw [wrapK (by omega)]; done) | (simp; done) | omega) | fail))) ⟨e + 1, by omega, by rw [pairsL_succ], rfl⟩ (by simp only [slotN, ruW, ASt.get, aget, ASt.put, ↓reduceIte, reduceCtorEq, Nat.reduceLT, Nat.reduceEqDiff, Nat.reduceAdd, Nat.reduceLeDiff, eq_self, implies_true]; omega)
  · obtain rfl : e = m.events.length := by omega
    (repeat' (first | simp (maxSteps := 5000000) (implicitDefEqProofs := false) only [ruA, ruB, aEv, aTake, aLoad, aField, aIndex, aLen, aBin, bin2, aUn, un1, aExtract, aConv, ASt.get, aget, ASt.put, aStore, aBox, aAppend, aBuildSlice, aMake, aBuild, aFill, oneParts, allC, aBinS, yv, aCells, oneC, oneCL, treeC, treeL, aLit, aDst, aSrc, appTab, Value.cells, Value.oneCell', envOf, aResL, aOne, ↓reduceIte, reduceCtorEq, forall_const, Nat.reduceLT, Nat.reduceEqDiff, Nat.reduceAdd, Nat.reduceMul, Nat.reduceSub, Nat.reduceLeDiff, Nat.reduceBEq, eq_self, implies_true, ne_eq, dref, dref1, dref2, aExecS, aStoreB, aTakes, aTakeE, aElder, aFrom, aFresh, isLoad, aBuildSlice1, frzs, frz1, ownIds, AV.frz, AV.frzL, frzEnv, AV.shift, AV.shiftL, aFieldV, aSliceW, aSliceO, aSlice, aSliceR, aSliceS, aBd, aMax, frzAVs, frzAV, frzTab, AObj.frz, aMM, aNilS, aMay, tyF_32_5, tyA_26, tyS_26, tyE_26, tyK_26, tyK_3, tyF_32_2, tyA_22, tyS_22, tyE_22, tyK_22, ruI, he2, iRet] | (with_reducible refine aIf_split (fun _ => ?_) (fun _ => ?_)) | (with_reducible refine aSel_split (fun _ => ?_) (fun _ => ?_)) | (with_reducible refine aGd_split (fun _ => ?_) (fun _ => ?_))))
    exact List.prefix_rfl
set_option maxRecDepth 100000 in
set_option maxHeartbeats 8000000 in
theorem pairs_A (m : Mod) : ADet Tryz.prog 52 [.agg (eMod m)] ⟨.fn 72 [.rp (eMod m)], [], 0⟩ := by
  refine arel_of_weak mixedT Tryz.func52 rfl (by decide) Tryz.ntmps52 Tryz.results52 rfl ?_
  (repeat' (first | simp (maxSteps := 5000000) (implicitDefEqProofs := false) only [ruA, ruB, aEv, aTake, aLoad, aField, aIndex, aLen, aBin, bin2, aUn, un1, aExtract, aConv, ASt.get, aget, ASt.put, aStore, aBox, aAppend, aBuildSlice, aMake, aBuild, aFill, oneParts, allC, aBinS, yv, aCells, oneC, oneCL, treeC, treeL, aLit, aDst, aSrc, appTab, Value.cells, Value.oneCell', envOf, aResL, aOne, ↓reduceIte, reduceCtorEq, forall_const, Nat.reduceLT, Nat.reduceEqDiff, Nat.reduceAdd, Nat.reduceMul, Nat.reduceSub, Nat.reduceLeDiff, Nat.reduceBEq, eq_self, implies_true, ne_eq, dref, dref1, dref2, aExecS, aStoreB, aTakes, aTakeE, aElder, aFrom, aFresh, isLoad, aBuildSlice1, frzs, frz1, ownIds, AV.frz, AV.frzL, frzEnv, AV.shift, AV.shiftL, aFieldV, aSliceW, aSliceO, aSlice, aSliceR, aSliceS, aBd, aMax, frzAVs, frzAV, frzTab, AObj.frz, aMM, aNilS, aMay] | (with_reducible refine aIf_split (fun _ => ?_) (fun _ => ?_)) | (with_reducible refine aSel_split (fun _ => ?_) (fun _ => ?_)) | (with_reducible refine aGd_split (fun _ => ?_) (fun _ => ?_))))
  refine aTo_mk (((weak_cut1 (by (first | ((simp only [envIn, tabIn, envLt, tabLt, AObj.lt, AV.lt, AV.ltL, ruW, ASt.get, aget, ASt.put, ↓reduceIte, reduceCtorEq, Nat.reduceLT, Nat.reduceEqDiff, Nat.reduceAdd, Nat.reduceLeDiff, eq_self, implies_true]) <;> (repeat' apply And.intro) <;> first | (rw [wrapK (by omega)]; done) | (simp; done) | omega) | fail))) : Weak _ ⟨4, [(2, .fn 72 [.op 0 0 0])], [(0, some (.box 32 (eMod m)))], 1⟩).trans (weak_rp 0 (ty := 32) (cells := eMod m) (by simp [ATab.get_cons]) (by simp [treeL, treeC]) (by simp [treeTab]))) ?_
  simp only [rpzEnv, AV.rpz, AV.rpzL, ↓reduceIte, List.drop_zero]
  simp (maxSteps := 5000000) (implicitDefEqProofs := false) only [ruA, ruB, aEv, aTake, aLoad, aField, aIndex, aLen, aBin, bin2, aUn, un1, aExtract, aConv, ASt.get, aget, ASt.put, aStore, aBox, aAppend, aBuildSlice, aMake, aBuild, aFill, oneParts, allC, aBinS, yv, aCells, oneC, oneCL, treeC, treeL, aLit, aDst, aSrc, appTab, Value.cells, Value.oneCell', envOf, aResL, aOne, ↓reduceIte, reduceCtorEq, forall_const, Nat.reduceLT, Nat.reduceEqDiff, Nat.reduceAdd, Nat.reduceMul, Nat.reduceSub, Nat.reduceLeDiff, Nat.reduceBEq, eq_self, implies_true, ne_eq, dref, dref1, dref2, aExecS, aStoreB, aTakes, aTakeE, aElder, aFrom, aFresh, isLoad, aBuildSlice1, frzs, frz1, ownIds, AV.frz, AV.frzL, frzEnv, AV.shift, AV.shiftL, aFieldV, aSliceW, aSliceO, aSlice, aSliceR, aSliceS, aBd, aMax, frzAVs, frzAV, frzTab, AObj.frz, aMM, aNilS, aMay]
  exact retC rfl (by simp [AV.lt, AV.ltL]) (by simp [AV.ren, AV.renL])
set_option maxRecDepth 100000 in
set_option maxHeartbeats 8000000 in
theorem any_A (m : Mod) (s : St) (hl : m.events.length ≤ 1000000) (hl2 : m.users.length ≤ 1000000) (hl3 : m.miles.length ≤ 1000000) (hl4 : m.sods.length ≤ 1000000) : ADet Tryz.prog 51 [.agg (eMod m), .agg (eSt s)] (val (.bool (anyM m s))) := by
  refine adet_of_code mixedT Tryz.func51 rfl (by decide) Tryz.ntmps51 Tryz.results51 rfl (val_ok _) ?_
  (repeat' (first | simp (maxSteps := 5000000) (implicitDefEqProofs := false) only [ruA, ruB, aEv, aTake, aLoad, aField, aIndex, aLen, aBin, bin2, aUn, un1, aExtract, aConv, ASt.get, aget, ASt.put, aStore, aBox, aAppend, aBuildSlice, aMake, aBuild, aFill, oneParts, allC, aBinS, yv, aCells, oneC, oneCL, treeC, treeL, aLit, aDst, aSrc, appTab, Value.cells, Value.oneCell', envOf, aResL, aOne, ↓reduceIte, reduceCtorEq, forall_const, Nat.reduceLT, Nat.reduceEqDiff, Nat.reduceAdd, Nat.reduceMul, Nat.reduceSub, Nat.reduceLeDiff, Nat.reduceBEq, eq_self, implies_true, ne_eq, dref, dref1, dref2, aExecS, aStoreB, aTakes, aTakeE, aElder, aFrom, aFresh, isLoad, aBuildSlice1, frzs, frz1, ownIds, AV.frz, AV.frzL, frzEnv, AV.shift, AV.shiftL, aFieldV, aSliceW, aSliceO, aSlice, aSliceR, aSliceS, aBd, aMax, frzAVs, frzAV, frzTab, AObj.frz, aMM, aNilS, aMay, tyA_4, tyS_4, tyZ_4, tyA_32, tyS_32, tyA_62, tyS_62] | (with_reducible refine aIf_split (fun _ => ?_) (fun _ => ?_)) | (with_reducible refine aSel_split (fun _ => ?_) (fun _ => ?_)) | (with_reducible refine aGd_split (fun _ => ?_) (fun _ => ?_)) | (with_reducible refine aDraw_quiet (by kernel_rfl) ?_) | ((with_reducible apply callT (g := 52)); exact (pairs_A m); exact (.inl (by simp [roL, roA, treeL, treeC])))))
  refine range_ok mixedT (fun pre st => (∀ e u : Nat, [eI (e : Int), eI (u : Int)] ∈ pre → enabledM m s (e : Int) (u : Int) = false) ∧ st = ⟨16, [(2, .op 0 0 0), (3, .op 1 0 0), (4, .op 2 0 0)], [(0, some (.box 32 (eMod m))), (1, some (.box 62 (eSt s))), (2, some (.box 4 [eB false]))], 3⟩)
    (fun c pre st => c = .ret ∧ anyM m s = true ∧ st = ⟨16, [(4, .op 2 0 0)], [(2, some (.box 4 [eB true]))], 3⟩) (by simp (maxSteps := 5000000) (implicitDefEqProofs := false) only [ruA, ruB, aEv, aTake, aLoad, aField, aIndex, aLen, aBin, bin2, aUn, un1, aExtract, aConv, ASt.get, aget, ASt.put, aStore, aBox, aAppend, aBuildSlice, aMake, aBuild, aFill, oneParts, allC, aBinS, yv, aCells, oneC, oneCL, treeC, treeL, aLit, aDst, aSrc, appTab, Value.cells, Value.oneCell', envOf, aResL, aOne, ↓reduceIte, reduceCtorEq, forall_const, Nat.reduceLT, Nat.reduceEqDiff, Nat.reduceAdd, Nat.reduceMul, Nat.reduceSub, Nat.reduceLeDiff, Nat.reduceBEq, eq_self, implies_true, ne_eq, dref, dref1, dref2, aExecS, aStoreB, aTakes, aTakeE, aElder, aFrom, aFresh, isLoad, aBuildSlice1, frzs, frz1, ownIds, AV.frz, AV.frzL, frzEnv, AV.shift, AV.shiftL, aFieldV, aSliceW, aSliceO, aSlice, aSliceR, aSliceS, aBd, aMax, frzAVs, frzAV, frzTab, AObj.frz, aMM, aNilS, aMay, tyA_4, tyS_4, tyZ_4, tyA_32, tyS_32, tyA_62, tyS_62]) (by simp [treeL, treeC]) (pairs1_A m hl hl2) (fun x hx => by obtain ⟨e, u, _, _, rfl⟩ := pairsL_mem.1 hx; rfl) (by kernel_rfl) (by kernel_rfl) (aTo_mk (weak_cut1 (by (first | ((simp only [envIn, tabIn, envLt, tabLt, AObj.lt, AV.lt, AV.ltL, ruW, ASt.get, aget, ASt.put, ↓reduceIte, reduceCtorEq, Nat.reduceLT, Nat.reduceEqDiff, Nat.reduceAdd, Nat.reduceLeDiff, eq_self, implies_true]) <;> (repeat' apply And.intro) <;> first | (rw [wrapK (by omega)]; done) | (simp; done) | omega) | fail))) ⟨by simp, rfl⟩) ?_ ?_ ?_
  · rintro pre x _ hp ⟨hpre, rfl⟩
    obtain ⟨e, u, he, hu, rfl⟩ := pairsL_mem.1 (hp.subset (show x ∈ pre ++ [x] by simp))
    (repeat' (first | simp (maxSteps := 5000000) (implicitDefEqProofs := false) only [ruA, ruB, aEv, aTake, aLoad, aField, aIndex, aLen, aBin, bin2, aUn, un1, aExtract, aConv, ASt.get, aget, ASt.put, aStore, aBox, aAppend, aBuildSlice, aMake, aBuild, aFill, oneParts, allC, aBinS, yv, aCells, oneC, oneCL, treeC, treeL, aLit, aDst, aSrc, appTab, Value.cells, Value.oneCell', envOf, aResL, aOne, ↓reduceIte, reduceCtorEq, forall_const, Nat.reduceLT, Nat.reduceEqDiff, Nat.reduceAdd, Nat.reduceMul, Nat.reduceSub, Nat.reduceLeDiff, Nat.reduceBEq, eq_self, implies_true, ne_eq, dref, dref1, dref2, aExecS, aStoreB, aTakes, aTakeE, aElder, aFrom, aFresh, isLoad, aBuildSlice1, frzs, frz1, ownIds, AV.frz, AV.frzL, frzEnv, AV.shift, AV.shiftL, aFieldV, aSliceW, aSliceO, aSlice, aSliceR, aSliceS, aBd, aMax, frzAVs, frzAV, frzTab, AObj.frz, aMM, aNilS, aMay, tyA_4, tyS_4, tyZ_4, tyA_32, tyS_32, tyA_62, tyS_62, ruL] | (with_reducible refine aIf_split (fun _ => ?_) (fun _ => ?_)) | (with_reducible refine aSel_split (fun _ => ?_) (fun _ => ?_)) | (with_reducible refine aGd_split (fun _ => ?_) (fun _ => ?_)) | (with_reducible refine aDraw_quiet (by kernel_rfl) ?_) | ((with_reducible apply callV (g := 71)); exact (enabled_A m s (e : Int) (u : Int) (by omega) (by omega))) | ((with_reducible apply callD (g := 71)); exact (enabled_A m s (e : Int) (u : Int) (by omega) (by omega)))))
    · rename_i hen
      exact aTo_mk (weak_cut1 (by (first | ((simp only [envIn, tabIn, envLt, tabLt, AObj.lt, AV.lt, AV.ltL, ruW, ASt.get, aget, ASt.put, ↓reduceIte, reduceCtorEq, Nat.reduceLT, Nat.reduceEqDiff, Nat.reduceAdd, Nat.reduceLeDiff, eq_self, implies_true]) <;> (repeat' apply And.intro) <;> first | (rw [wrapK (by omega)]; done) | (simp; done) | omega) | fail))) ⟨(anyN_iff _ _).2 ⟨e, he, (anyN_iff _ _).2 ⟨u, hu, hen⟩⟩, rfl⟩
    · rename_i hen
      refine aTo_mk (weak_cut1 (by (first | ((simp only [envIn, tabIn, envLt, tabLt, AObj.lt, AV.lt, AV.ltL, ruW, ASt.get, aget, ASt.put, ↓reduceIte, reduceCtorEq, Nat.reduceLT, Nat.reduceEqDiff, Nat.reduceAdd, Nat.reduceLeDiff, eq_self, implies_true]) <;> (repeat' apply And.intro) <;> first | (rw [wrapK (by omega)]; done) | (simp; done) | omega) | fail))) ⟨fun e' u' hm => ?_, rfl⟩
      rcases List.mem_append.1 hm with hm | hm
      · exact hpre e' u' hm
      · simp at hm
        obtain ⟨h1, h2⟩ := hm
        rw [h1, h2]
        exact hen
  · rintro _ ⟨hpre, rfl⟩
    (repeat' (first | simp (maxSteps := 5000000) (implicitDefEqProofs := false) only [ruA, ruB, aEv, aTake, aLoad, aField, aIndex, aLen, aBin, bin2, aUn, un1, aExtract, aConv, ASt.get, aget, ASt.put, aStore, aBox, aAppend, aBuildSlice, aMake, aBuild, aFill, oneParts, allC, aBinS, yv, aCells, oneC, oneCL, treeC, treeL, aLit, aDst, aSrc, appTab, Value.cells, Value.oneCell', envOf, aResL, aOne, ↓reduceIte, reduceCtorEq, forall_const, Nat.reduceLT, Nat.reduceEqDiff, Nat.reduceAdd, Nat.reduceMul, Nat.reduceSub, Nat.reduceLeDiff, Nat.reduceBEq, eq_self, implies_true, ne_eq, dref, dref1, dref2, aExecS, aStoreB, aTakes, aTakeE, aElder, aFrom, aFresh, isLoad, aBuildSlice1, frzs, frz1, ownIds, AV.frz, AV.frzL, frzEnv, AV.shift, AV.shiftL, aFieldV, aSliceW, aSliceO, aSlice, aSliceR, aSliceS, aBd, aMax, frzAVs, frzAV, frzTab, AObj.frz, aMM, aNilS, aMay, tyA_4, tyS_4, tyZ_4, tyA_32, tyS_32, tyA_62, tyS_62, ruL] | (with_reducible refine aIf_split (fun _ => ?_) (fun _ => ?_)) | (with_reducible refine aSel_split (fun _ => ?_) (fun _ => ?_)) | (with_reducible refine aGd_split (fun _ => ?_) (fun _ => ?_)) | (with_reducible refine aDraw_quiet (by kernel_rfl) ?_)))
    symm
    rw [Bool.eq_false_iff]
    intro ha
    obtain ⟨e, he, ha⟩ := (anyN_iff _ _).1 ha
    obtain ⟨u, hu, ha⟩ := (anyN_iff _ _).1 ha
    rw [hpre e u (pairsL_mem.2 ⟨e, u, he, hu, rfl⟩)] at ha
    cases ha
  · rintro _ pre _ hp ⟨rfl, ha, rfl⟩
    (repeat' (first | simp (maxSteps := 5000000) (implicitDefEqProofs := false) only [ruA, ruB, aEv, aTake, aLoad, aField, aIndex, aLen, aBin, bin2, aUn, un1, aExtract, aConv, ASt.get, aget, ASt.put, aStore, aBox, aAppend, aBuildSlice, aMake, aBuild, aFill, oneParts, allC, aBinS, yv, aCells, oneC, oneCL, treeC, treeL, aLit, aDst, aSrc, appTab, Value.cells, Value.oneCell', envOf, aResL, aOne, ↓reduceIte, reduceCtorEq, forall_const, Nat.reduceLT, Nat.reduceEqDiff, Nat.reduceAdd, Nat.reduceMul, Nat.reduceSub, Nat.reduceLeDiff, Nat.reduceBEq, eq_self, implies_true, ne_eq, dref, dref1, dref2, aExecS, aStoreB, aTakes, aTakeE, aElder, aFrom, aFresh, isLoad, aBuildSlice1, frzs, frz1, ownIds, AV.frz, AV.frzL, frzEnv, AV.shift, AV.shiftL, aFieldV, aSliceW, aSliceO, aSlice, aSliceR, aSliceS, aBd, aMax, frzAVs, frzAV, frzTab, AObj.frz, aMM, aNilS, aMay, tyA_4, tyS_4, tyZ_4, tyA_32, tyS_32, tyA_62, tyS_62, ruL] | (with_reducible refine aIf_split (fun _ => ?_) (fun _ => ?_)) | (with_reducible refine aSel_split (fun _ => ?_) (fun _ => ?_)) | (with_reducible refine aGd_split (fun _ => ?_) (fun _ => ?_)) | (with_reducible refine aDraw_quiet (by kernel_rfl) ?_)))
    exact ha.symm
end
section
open Go.RowKit
set_option maxRecDepth 100000 in
theorem completeR_A (m : Mod) (s : St) (hl : m.miles.length ≤ 1000000) (hd : ok64 s.don) : ADet Tryz.prog 26 [.agg (eMod m), .agg (eSt s)] (val (.bool (completeM m s))) := by
  refine adet_of_code mixedT Tryz.func26 rfl (by decide) Tryz.ntmps26 Tryz.results26 rfl (val_ok _) ?_
  (repeat' (first | simp (maxSteps := 5000000) (implicitDefEqProofs := false) only [ruA, ruB, aEv, aTake, aLoad, aField, aIndex, aLen, aBin, bin2, aUn, un1, aExtract, aConv, ASt.get, aget, ASt.put, aStore, aBox, aAppend, aBuildSlice, aMake, aBuild, aFill, oneParts, allC, aBinS, yv, aCells, oneC, oneCL, treeC, treeL, aLit, aDst, aSrc, appTab, Value.cells, Value.oneCell', envOf, aResL, aOne, ↓reduceIte, reduceCtorEq, forall_const, Nat.reduceLT, Nat.reduceEqDiff, Nat.reduceAdd, Nat.reduceMul, Nat.reduceSub, Nat.reduceLeDiff, Nat.reduceBEq, eq_self, implies_true, ne_eq, dref, dref1, dref2, aExecS, aStoreB, aTakes, aTakeE, aElder, aFrom, aFresh, isLoad, aBuildSlice1, frzs, frz1, ownIds, AV.frz, AV.frzL, frzEnv, AV.shift, AV.shiftL, aFieldV, aSliceW, aSliceO, aSlice, aSliceR, aSliceS, aBd, aMax, frzAVs, frzAV, frzTab, AObj.frz, aMM, aNilS, aMay, tyF_32_7, tyA_28, tyS_28, tyE_28, tyK_28, tyK_3, tyF_57_4, tyA_4, tyS_4, tyF_62_2, tyA_3, tyS_3] | (with_reducible refine aIf_split (fun _ => ?_) (fun _ => ?_)) | (with_reducible refine aSel_split (fun _ => ?_) (fun _ => ?_)) | (with_reducible refine aGd_split (fun _ => ?_) (fun _ => ?_)) | (with_reducible refine aDraw_quiet (by kernel_rfl) ?_)))
  unfold completeM
  refine aLoop_of (fun st => ∃ k : Nat, k ≤ m.miles.length ∧ anyN (completeAt m s) k = false ∧ st = ⟨25, [(2, .op 0 0 0), (3, .op 1 0 0), (5, eI (k : Int))], [(0, some (.box 32 (eMod m))), (1, some (.box 62 (eSt s)))], 2⟩) (fun st => m.miles.length - slotN st 5) ⟨_, (weak_cut1 (by (first | ((simp only [envIn, tabIn, envLt, tabLt, AObj.lt, AV.lt, AV.ltL, ruW, ASt.get, aget, ASt.put, ↓reduceIte, reduceCtorEq, Nat.reduceLT, Nat.reduceEqDiff, Nat.reduceAdd, Nat.reduceLeDiff, eq_self, implies_true]) <;> (repeat' apply And.intro) <;> first | (rw [wrapK (by omega)]; done) | (simp; done) | omega) | fail))), 0, Nat.zero_le _, rfl, rfl⟩ ?_
  rintro _ ⟨k, hk, hI, rfl⟩
  by_cases hlt : k < m.miles.length
  · have eF : completeAt m s k = (m.miles[k].final && hasB s.don (k : Int)) := by simp [completeAt, hlt]
    (repeat' (first | simp (maxSteps := 5000000) (implicitDefEqProofs := false) only [ruA, ruB, aEv, aTake, aLoad, aField, aIndex, aLen, aBin, bin2, aUn, un1, aExtract, aConv, ASt.get, aget, ASt.put, aStore, aBox, aAppend, aBuildSlice, aMake, aBuild, aFill, oneParts, allC, aBinS, yv, aCells, oneC, oneCL, treeC, treeL, aLit, aDst, aSrc, appTab, Value.cells, Value.oneCell', envOf, aResL, aOne, ↓reduceIte, reduceCtorEq, forall_const, Nat.reduceLT, Nat.reduceEqDiff, Nat.reduceAdd, Nat.reduceMul, Nat.reduceSub, Nat.reduceLeDiff, Nat.reduceBEq, eq_self, implies_true, ne_eq, dref, dref1, dref2, aExecS, aStoreB, aTakes, aTakeE, aElder, aFrom, aFresh, isLoad, aBuildSlice1, frzs, frz1, ownIds, AV.frz, AV.frzL, frzEnv, AV.shift, AV.shiftL, aFieldV, aSliceW, aSliceO, aSlice, aSliceR, aSliceS, aBd, aMax, frzAVs, frzAV, frzTab, AObj.frz, aMM, aNilS, aMay, tyF_32_7, tyA_28, tyS_28, tyE_28, tyK_28, tyK_3, tyF_57_4, tyA_4, tyS_4, tyF_62_2, tyA_3, tyS_3, row_at, hlt] | (with_reducible refine aIf_split (fun _ => ?_) (fun _ => ?_)) | (with_reducible refine aSel_split (fun _ => ?_) (fun _ => ?_)) | (with_reducible refine aGd_split (fun _ => ?_) (fun _ => ?_)) | (with_reducible refine aDraw_quiet (by kernel_rfl) ?_) | ((with_reducible apply callV (g := 23)); exact (hasR_A _ _ hd)) | ((with_reducible apply callD (g := 23)); exact (hasR_A _ _ hd))))
    all_goals first
      | (symm; refine anyN_yes hlt ?_; rw [eF]; grind)
      | exact roundI (weak_cut1 (by (first | ((simp only [envIn, tabIn, envLt, tabLt, AObj.lt, AV.lt, AV.ltL, ruW, ASt.get, aget, ASt.put, ↓reduceIte, reduceCtorEq, Nat.reduceLT, Nat.reduceEqDiff, Nat.reduceAdd, Nat.reduceLeDiff, eq_self, implies_true]) <;> (repeat' apply And.intro) <;> first | (rw [wrapK (by omega)]; done) | (simp; done) | omega) | fail))) ⟨k + 1, by omega, anyN_step hI (by rw [eF]; grind), rfl⟩ (by simp only [slotN, ruW, ASt.get, aget, ASt.put, ↓reduceIte, reduceCtorEq, Nat.reduceLT, Nat.reduceEqDiff, Nat.reduceAdd, Nat.reduceLeDiff, eq_self, implies_true]; omega)
      | trace_state
  · obtain rfl : k = m.miles.length := by omega
    (repeat' (first | simp (maxSteps := 5000000) (implicitDefEqProofs := false) only [ruA, ruB, aEv, aTake, aLoad, aField, aIndex, aLen, aBin, bin2, aUn, un1, aExtract, aConv, ASt.get, aget, ASt.put, aStore, aBox, aAppend, aBuildSlice, aMake, aBuild, aFill, oneParts, allC, aBinS, yv, aCells, oneC, oneCL, treeC, treeL, aLit, aDst, aSrc, appTab, Value.cells, Value.oneCell', envOf, aResL, aOne, ↓reduceIte, reduceCtorEq, forall_const, Nat.reduceLT, Nat.reduceEqDiff, Nat.reduceAdd, Nat.reduceMul, Nat.reduceSub, Nat.reduceLeDiff, Nat.reduceBEq, eq_self, implies_true, ne_eq, dref, dref1, dref2, aExecS, aStoreB, aTakes, aTakeE, aElder, aFrom, aFresh, isLoad, aBuildSlice1, frzs, frz1, ownIds, AV.frz, AV.frzL, frzEnv, AV.shift, AV.shiftL, aFieldV, aSliceW, aSliceO, aSlice, aSliceR, aSliceS, aBd, aMax, frzAVs, frzAV, frzTab, AObj.frz, aMM, aNilS, aMay, tyF_32_7, tyA_28, tyS_28, tyE_28, tyK_28, tyK_3, tyF_57_4, tyA_4, tyS_4, tyF_62_2, tyA_3, tyS_3, hlt] | (with_reducible refine aIf_split (fun _ => ?_) (fun _ => ?_)) | (with_reducible refine aSel_split (fun _ => ?_) (fun _ => ?_)) | (with_reducible refine aGd_split (fun _ => ?_) (fun _ => ?_)) | (with_reducible refine aDraw_quiet (by kernel_rfl) ?_)))
    exact hI.symm
theorem in17_A (n most : Int) : ADet Tryz.prog 45 [eI n, eI most] (val (.bool (inB n most))) := by
  refine adet_of_code mixedT Tryz.func45 rfl (by decide) Tryz.ntmps45 Tryz.results45 rfl (val_ok _) ?_
  unfold inB
  (repeat' (first | simp (maxSteps := 5000000) (implicitDefEqProofs := false) only [ruA, ruB, aEv, aTake, aLoad, aField, aIndex, aLen, aBin, bin2, aUn, un1, aExtract, aConv, ASt.get, aget, ASt.put, aStore, aBox, aAppend, aBuildSlice, aMake, aBuild, aFill, oneParts, allC, aBinS, yv, aCells, oneC, oneCL, treeC, treeL, aLit, aDst, aSrc, appTab, Value.cells, Value.oneCell', envOf, aResL, aOne, ↓reduceIte, reduceCtorEq, forall_const, Nat.reduceLT, Nat.reduceEqDiff, Nat.reduceAdd, Nat.reduceMul, Nat.reduceSub, Nat.reduceLeDiff, Nat.reduceBEq, eq_self, implies_true, ne_eq, dref, dref1, dref2, aExecS, aStoreB, aTakes, aTakeE, aElder, aFrom, aFresh, isLoad, aBuildSlice1, frzs, frz1, ownIds, AV.frz, AV.frzL, frzEnv, AV.shift, AV.shiftL, aFieldV, aSliceW, aSliceO, aSlice, aSliceR, aSliceS, aBd, aMax, frzAVs, frzAV, frzTab, AObj.frz, aMM, aNilS, aMay, tyK_3] | (with_reducible refine aIf_split (fun _ => ?_) (fun _ => ?_)) | (with_reducible refine aSel_split (fun _ => ?_) (fun _ => ?_)) | (with_reducible refine aGd_split (fun _ => ?_) (fun _ => ?_))))
  all_goals grind
set_option maxRecDepth 100000 in
set_option maxHeartbeats 8000000 in
theorem freeR_A (m : Mod) (s : St) (event user : Int) (hl : m.miles.length ≤ 1000000) (ho : ok64 s.opn) (hd : ok64 s.don) (hr : ∀ p ∈ m.roles, ok64 p.2) : ADet Tryz.prog 46 [.agg (eMod m), .agg (eSt s), eI event, eI user] (val (.bool (freeM m s event user))) := by
  refine adet_of_code mixedT Tryz.func46 rfl (by decide) Tryz.ntmps46 Tryz.results46 rfl (val_ok _) ?_
  by_cases h : 0 ≤ event ∧ event < (m.events.length : Int)
  · obtain ⟨k, rfl⟩ : ∃ k : Nat, event = (k : Int) := ⟨event.toNat, by omega⟩
    have hk : k < m.events.length := by omega
    obtain ⟨x, hx⟩ : ∃ x, m.events[k] = x := ⟨_, rfl⟩
    have ee : evAt m (k : Int) = some x := by simp [evAt, hk, hx]
    have eR : freeM m s k user = (!completeM m s && decide (x.stage < (m.stages.length : Int)) && hasB s.opn x.stage && ofR m x.role user && (decide (x.times ≤ 0) || decide (atI s.cnt k < x.times))) := by simp only [freeM, ee]
    have eN : ¬ 0 ≤ x.stage → hasB s.opn x.stage = false := fun h => hasB_out _ _ (by omega)
    rw [eR]
    by_cases hc : k < s.cnt.length
    · have eA : atI s.cnt k = s.cnt[k] := by simp [atI, hc]
      by_cases hro : 0 ≤ x.role ∧ x.role < (m.roles.length : Int)
      · obtain ⟨q, hq⟩ : ∃ q : Nat, x.role = (q : Int) := ⟨x.role.toNat, by omega⟩
        have hq2 : q < m.roles.length := by omega
        have eO : ofR m x.role user = (decide (0 ≤ user) && decide (user < (m.users.length : Int)) && hasB m.roles[q].2 user) := by simp [ofR, hq, hq2]
        have hrq := hr _ (List.getElem_mem hq2)
        rw [eA, eO]
        unfold inB at *
        (repeat' (first | simp (maxSteps := 5000000) (implicitDefEqProofs := false) only [ruA, ruB, aEv, aTake, aLoad, aField, aIndex, aLen, aBin, bin2, aUn, un1, aExtract, aConv, ASt.get, aget, ASt.put, aStore, aBox, aAppend, aBuildSlice, aMake, aBuild, aFill, oneParts, allC, aBinS, yv, aCells, oneC, oneCL, treeC, treeL, aLit, aDst, aSrc, appTab, Value.cells, Value.oneCell', envOf, aResL, aOne, ↓reduceIte, reduceCtorEq, forall_const, Nat.reduceLT, Nat.reduceEqDiff, Nat.reduceAdd, Nat.reduceMul, Nat.reduceSub, Nat.reduceLeDiff, Nat.reduceBEq, eq_self, implies_true, ne_eq, dref, dref1, dref2, aExecS, aStoreB, aTakes, aTakeE, aElder, aFrom, aFresh, isLoad, aBuildSlice1, frzs, frz1, ownIds, AV.frz, AV.frzL, frzEnv, AV.shift, AV.shiftL, aFieldV, aSliceW, aSliceO, aSlice, aSliceR, aSliceS, aBd, aMax, frzAVs, frzAV, frzTab, AObj.frz, aMM, aNilS, aMay, tyF_32_5, tyA_26, tyS_26, tyE_26, tyK_26, tyF_32_2, tyA_22, tyS_22, tyE_22, tyK_22, tyA_59, tyS_59, tyZ_59, tyF_62_4, tyA_44, tyS_44, tyE_44, tyK_44, tyA_3, tyS_3, tyA_32, tyS_32, tyA_62, tyS_62, tyF_59_2, tyF_32_4, tyA_25, tyS_25, tyE_25, tyK_25, tyF_62_1, tyF_59_4, tyK_3, tyF_59_1, tyF_32_3, tyA_24, tyS_24, tyE_24, tyK_24, tyF_124_1, row_at, hk, hx, hc, hq, hq2] | (with_reducible refine aIf_split (fun _ => ?_) (fun _ => ?_)) | (with_reducible refine aSel_split (fun _ => ?_) (fun _ => ?_)) | (with_reducible refine aGd_split (fun _ => ?_) (fun _ => ?_)) | (with_reducible refine aDraw_quiet (by kernel_rfl) ?_) | ((with_reducible apply callV (g := 23)); exact (hasR_A _ _ ho)) | ((with_reducible apply callD (g := 23)); exact (hasR_A _ _ ho)) | ((with_reducible apply callV (g := 23)); exact (hasR_A _ _ hrq)) | ((with_reducible apply callD (g := 23)); exact (hasR_A _ _ hrq)) | ((with_reducible apply callV (g := 26)); exact (completeR_A _ _ hl hd)) | ((with_reducible apply callD (g := 26)); exact (completeR_A _ _ hl hd)) | ((with_reducible apply callV (g := 45)); exact (in17_A _ _)) | ((with_reducible apply callD (g := 45)); exact (in17_A _ _))))
        all_goals (unfold inB at *; grind)
      · have eO : ofR m x.role user = false := by
          have : (decide (0 ≤ x.role) && decide (x.role < (m.roles.length : Int))) = false := by
            rw [Bool.and_eq_false_iff]
            simp only [decide_eq_false_iff_not]
            omega
          simp [ofR, this]
        have eI' : inB x.role (m.roles.length : Int) = false := by unfold inB; grind
        rw [eA, eO]
        (repeat' (first | simp (maxSteps := 5000000) (implicitDefEqProofs := false) only [ruA, ruB, aEv, aTake, aLoad, aField, aIndex, aLen, aBin, bin2, aUn, un1, aExtract, aConv, ASt.get, aget, ASt.put, aStore, aBox, aAppend, aBuildSlice, aMake, aBuild, aFill, oneParts, allC, aBinS, yv, aCells, oneC, oneCL, treeC, treeL, aLit, aDst, aSrc, appTab, Value.cells, Value.oneCell', envOf, aResL, aOne, ↓reduceIte, reduceCtorEq, forall_const, Nat.reduceLT, Nat.reduceEqDiff, Nat.reduceAdd, Nat.reduceMul, Nat.reduceSub, Nat.reduceLeDiff, Nat.reduceBEq, eq_self, implies_true, ne_eq, dref, dref1, dref2, aExecS, aStoreB, aTakes, aTakeE, aElder, aFrom, aFresh, isLoad, aBuildSlice1, frzs, frz1, ownIds, AV.frz, AV.frzL, frzEnv, AV.shift, AV.shiftL, aFieldV, aSliceW, aSliceO, aSlice, aSliceR, aSliceS, aBd, aMax, frzAVs, frzAV, frzTab, AObj.frz, aMM, aNilS, aMay, tyF_32_5, tyA_26, tyS_26, tyE_26, tyK_26, tyF_32_2, tyA_22, tyS_22, tyE_22, tyK_22, tyA_59, tyS_59, tyZ_59, tyF_62_4, tyA_44, tyS_44, tyE_44, tyK_44, tyA_3, tyS_3, tyA_32, tyS_32, tyA_62, tyS_62, tyF_59_2, tyF_32_4, tyA_25, tyS_25, tyE_25, tyK_25, tyF_62_1, tyF_59_4, tyK_3, tyF_59_1, tyF_32_3, tyA_24, tyS_24, tyE_24, tyK_24, tyF_124_1, row_at, hk, hx, hc, eI'] | (with_reducible refine aIf_split (fun _ => ?_) (fun _ => ?_)) | (with_reducible refine aSel_split (fun _ => ?_) (fun _ => ?_)) | (with_reducible refine aGd_split (fun _ => ?_) (fun _ => ?_)) | (with_reducible refine aDraw_quiet (by kernel_rfl) ?_) | ((with_reducible apply callV (g := 23)); exact (hasR_A _ _ ho)) | ((with_reducible apply callD (g := 23)); exact (hasR_A _ _ ho)) | ((with_reducible apply callV (g := 26)); exact (completeR_A _ _ hl hd)) | ((with_reducible apply callD (g := 26)); exact (completeR_A _ _ hl hd)) | ((with_reducible apply callV (g := 45)); exact (in17_A _ _)) | ((with_reducible apply callD (g := 45)); exact (in17_A _ _))))
        all_goals (unfold inB at *; grind)
    · have eA : atI s.cnt k = 0 := by simp [atI]; omega
      by_cases hro : 0 ≤ x.role ∧ x.role < (m.roles.length : Int)
      · obtain ⟨q, hq⟩ : ∃ q : Nat, x.role = (q : Int) := ⟨x.role.toNat, by omega⟩
        have hq2 : q < m.roles.length := by omega
        have eO : ofR m x.role user = (decide (0 ≤ user) && decide (user < (m.users.length : Int)) && hasB m.roles[q].2 user) := by simp [ofR, hq, hq2]
        have hrq := hr _ (List.getElem_mem hq2)
        rw [eA, eO]
        (repeat' (first | simp (maxSteps := 5000000) (implicitDefEqProofs := false) only [ruA, ruB, aEv, aTake, aLoad, aField, aIndex, aLen, aBin, bin2, aUn, un1, aExtract, aConv, ASt.get, aget, ASt.put, aStore, aBox, aAppend, aBuildSlice, aMake, aBuild, aFill, oneParts, allC, aBinS, yv, aCells, oneC, oneCL, treeC, treeL, aLit, aDst, aSrc, appTab, Value.cells, Value.oneCell', envOf, aResL, aOne, ↓reduceIte, reduceCtorEq, forall_const, Nat.reduceLT, Nat.reduceEqDiff, Nat.reduceAdd, Nat.reduceMul, Nat.reduceSub, Nat.reduceLeDiff, Nat.reduceBEq, eq_self, implies_true, ne_eq, dref, dref1, dref2, aExecS, aStoreB, aTakes, aTakeE, aElder, aFrom, aFresh, isLoad, aBuildSlice1, frzs, frz1, ownIds, AV.frz, AV.frzL, frzEnv, AV.shift, AV.shiftL, aFieldV, aSliceW, aSliceO, aSlice, aSliceR, aSliceS, aBd, aMax, frzAVs, frzAV, frzTab, AObj.frz, aMM, aNilS, aMay, tyF_32_5, tyA_26, tyS_26, tyE_26, tyK_26, tyF_32_2, tyA_22, tyS_22, tyE_22, tyK_22, tyA_59, tyS_59, tyZ_59, tyF_62_4, tyA_44, tyS_44, tyE_44, tyK_44, tyA_3, tyS_3, tyA_32, tyS_32, tyA_62, tyS_62, tyF_59_2, tyF_32_4, tyA_25, tyS_25, tyE_25, tyK_25, tyF_62_1, tyF_59_4, tyK_3, tyF_59_1, tyF_32_3, tyA_24, tyS_24, tyE_24, tyK_24, tyF_124_1, row_at, hk, hx, hc, hq, hq2] | (with_reducible refine aIf_split (fun _ => ?_) (fun _ => ?_)) | (with_reducible refine aSel_split (fun _ => ?_) (fun _ => ?_)) | (with_reducible refine aGd_split (fun _ => ?_) (fun _ => ?_)) | (with_reducible refine aDraw_quiet (by kernel_rfl) ?_) | ((with_reducible apply callV (g := 23)); exact (hasR_A _ _ ho)) | ((with_reducible apply callD (g := 23)); exact (hasR_A _ _ ho)) | ((with_reducible apply callV (g := 23)); exact (hasR_A _ _ hrq)) | ((with_reducible apply callD (g := 23)); exact (hasR_A _ _ hrq)) | ((with_reducible apply callV (g := 26)); exact (completeR_A _ _ hl hd)) | ((with_reducible apply callD (g := 26)); exact (completeR_A _ _ hl hd)) | ((with_reducible apply callV (g := 45)); exact (in17_A _ _)) | ((with_reducible apply callD (g := 45)); exact (in17_A _ _))))
        all_goals (unfold inB at *; grind)
      · have eO : ofR m x.role user = false := by
          have : (decide (0 ≤ x.role) && decide (x.role < (m.roles.length : Int))) = false := by
            rw [Bool.and_eq_false_iff]
            simp only [decide_eq_false_iff_not]
            omega
          simp [ofR, this]
        have eI' : inB x.role (m.roles.length : Int) = false := by unfold inB; grind
        rw [eA, eO]
        (repeat' (first | simp (maxSteps := 5000000) (implicitDefEqProofs := false) only [ruA, ruB, aEv, aTake, aLoad, aField, aIndex, aLen, aBin, bin2, aUn, un1, aExtract, aConv, ASt.get, aget, ASt.put, aStore, aBox, aAppend, aBuildSlice, aMake, aBuild, aFill, oneParts, allC, aBinS, yv, aCells, oneC, oneCL, treeC, treeL, aLit, aDst, aSrc, appTab, Value.cells, Value.oneCell', envOf, aResL, aOne, ↓reduceIte, reduceCtorEq, forall_const, Nat.reduceLT, Nat.reduceEqDiff, Nat.reduceAdd, Nat.reduceMul, Nat.reduceSub, Nat.reduceLeDiff, Nat.reduceBEq, eq_self, implies_true, ne_eq, dref, dref1, dref2, aExecS, aStoreB, aTakes, aTakeE, aElder, aFrom, aFresh, isLoad, aBuildSlice1, frzs, frz1, ownIds, AV.frz, AV.frzL, frzEnv, AV.shift, AV.shiftL, aFieldV, aSliceW, aSliceO, aSlice, aSliceR, aSliceS, aBd, aMax, frzAVs, frzAV, frzTab, AObj.frz, aMM, aNilS, aMay, tyF_32_5, tyA_26, tyS_26, tyE_26, tyK_26, tyF_32_2, tyA_22, tyS_22, tyE_22, tyK_22, tyA_59, tyS_59, tyZ_59, tyF_62_4, tyA_44, tyS_44, tyE_44, tyK_44, tyA_3, tyS_3, tyA_32, tyS_32, tyA_62, tyS_62, tyF_59_2, tyF_32_4, tyA_25, tyS_25, tyE_25, tyK_25, tyF_62_1, tyF_59_4, tyK_3, tyF_59_1, tyF_32_3, tyA_24, tyS_24, tyE_24, tyK_24, tyF_124_1, row_at, hk, hx, hc, eI'] | (with_reducible refine aIf_split (fun _ => ?_) (fun _ => ?_)) | (with_reducible refine aSel_split (fun _ => ?_) (fun _ => ?_)) | (with_reducible refine aGd_split (fun _ => ?_) (fun _ => ?_)) | (with_reducible refine aDraw_quiet (by kernel_rfl) ?_) | ((with_reducible apply callV (g := 23)); exact (hasR_A _ _ ho)) | ((with_reducible apply callD (g := 23)); exact (hasR_A _ _ ho)) | ((with_reducible apply callV (g := 26)); exact (completeR_A _ _ hl hd)) | ((with_reducible apply callD (g := 26)); exact (completeR_A _ _ hl hd)) | ((with_reducible apply callV (g := 45)); exact (in17_A _ _)) | ((with_reducible apply callD (g := 45)); exact (in17_A _ _))))
        all_goals (unfold inB at *; grind)
  · have ee : evAt m event = none := by
      unfold evAt
      split
      · exact List.getElem?_eq_none (by omega)
      · rfl
    have eR : freeM m s event user = false := by simp only [freeM, ee]
    have eI' : inB event (m.events.length : Int) = false := by unfold inB; grind
    rw [eR]
    (repeat' (first | simp (maxSteps := 5000000) (implicitDefEqProofs := false) only [ruA, ruB, aEv, aTake, aLoad, aField, aIndex, aLen, aBin, bin2, aUn, un1, aExtract, aConv, ASt.get, aget, ASt.put, aStore, aBox, aAppend, aBuildSlice, aMake, aBuild, aFill, oneParts, allC, aBinS, yv, aCells, oneC, oneCL, treeC, treeL, aLit, aDst, aSrc, appTab, Value.cells, Value.oneCell', envOf, aResL, aOne, ↓reduceIte, reduceCtorEq, forall_const, Nat.reduceLT, Nat.reduceEqDiff, Nat.reduceAdd, Nat.reduceMul, Nat.reduceSub, Nat.reduceLeDiff, Nat.reduceBEq, eq_self, implies_true, ne_eq, dref, dref1, dref2, aExecS, aStoreB, aTakes, aTakeE, aElder, aFrom, aFresh, isLoad, aBuildSlice1, frzs, frz1, ownIds, AV.frz, AV.frzL, frzEnv, AV.shift, AV.shiftL, aFieldV, aSliceW, aSliceO, aSlice, aSliceR, aSliceS, aBd, aMax, frzAVs, frzAV, frzTab, AObj.frz, aMM, aNilS, aMay, tyF_32_5, tyA_26, tyS_26, tyE_26, tyK_26, tyF_32_2, tyA_22, tyS_22, tyE_22, tyK_22, tyA_59, tyS_59, tyZ_59, tyF_62_4, tyA_44, tyS_44, tyE_44, tyK_44, tyA_3, tyS_3, tyA_32, tyS_32, tyA_62, tyS_62, tyF_59_2, tyF_32_4, tyA_25, tyS_25, tyE_25, tyK_25, tyF_62_1, tyF_59_4, tyK_3, tyF_59_1, tyF_32_3, tyA_24, tyS_24, tyE_24, tyK_24, tyF_124_1, eI'] | (with_reducible refine aIf_split (fun _ => ?_) (fun _ => ?_)) | (with_reducible refine aSel_split (fun _ => ?_) (fun _ => ?_)) | (with_reducible refine aGd_split (fun _ => ?_) (fun _ => ?_)) | (with_reducible refine aDraw_quiet (by kernel_rfl) ?_) | ((with_reducible apply callV (g := 45)); exact (in17_A _ _)) | ((with_reducible apply callD (g := 45)); exact (in17_A _ _))))
end
section
open Go.RowKit
set_option maxRecDepth 100000 in
theorem hadR_A (s : St) (event user : Int) (hd : ∀ x ∈ s.did, ok64 x) : ADet Tryz.prog 25 [.agg (eSt s), eI event, eI user] (val (.bool (hasB (atI s.did event) user))) := by
  refine adet_of_code mixedT Tryz.func25 rfl (by decide) Tryz.ntmps25 Tryz.results25 rfl (val_ok _) ?_
  by_cases h : 0 ≤ event ∧ event < (s.did.length : Int)
  · obtain ⟨k, rfl⟩ : ∃ k : Nat, event = (k : Int) := ⟨event.toNat, by omega⟩
    have hk : k < s.did.length := by omega
    have eA : atI s.did k = s.did[k] := by simp [atI, hk]
    have eI' : inB (k : Int) (s.did.length : Int) = true := by unfold inB; simp; omega
    rw [eA]
    (repeat' (first | simp (maxSteps := 5000000) (implicitDefEqProofs := false) only [ruA, ruB, aEv, aTake, aLoad, aField, aIndex, aLen, aBin, bin2, aUn, un1, aExtract, aConv, ASt.get, aget, ASt.put, aStore, aBox, aAppend, aBuildSlice, aMake, aBuild, aFill, oneParts, allC, aBinS, yv, aCells, oneC, oneCL, treeC, treeL, aLit, aDst, aSrc, appTab, Value.cells, Value.oneCell', envOf, aResL, aOne, ↓reduceIte, reduceCtorEq, forall_const, Nat.reduceLT, Nat.reduceEqDiff, Nat.reduceAdd, Nat.reduceMul, Nat.reduceSub, Nat.reduceLeDiff, Nat.reduceBEq, eq_self, implies_true, ne_eq, dref, dref1, dref2, aExecS, aStoreB, aTakes, aTakeE, aElder, aFrom, aFresh, isLoad, aBuildSlice1, frzs, frz1, ownIds, AV.frz, AV.frzL, frzEnv, AV.shift, AV.shiftL, aFieldV, aSliceW, aSliceO, aSlice, aSliceR, aSliceS, aBd, aMax, frzAVs, frzAV, frzTab, AObj.frz, aMM, aNilS, aMay, tyF_62_3, tyA_44, tyS_44, tyE_44, tyK_44, tyA_3, tyS_3, row_at, hk, eI'] | (with_reducible refine aIf_split (fun _ => ?_) (fun _ => ?_)) | (with_reducible refine aSel_split (fun _ => ?_) (fun _ => ?_)) | (with_reducible refine aGd_split (fun _ => ?_) (fun _ => ?_)) | (with_reducible refine aDraw_quiet (by kernel_rfl) ?_) | ((with_reducible apply callV (g := 45)); exact (in17_A _ _)) | ((with_reducible apply callD (g := 45)); exact (in17_A _ _)) | ((with_reducible apply callV (g := 23)); exact (hasR_A _ _ (hd _ (List.getElem_mem hk)))) | ((with_reducible apply callD (g := 23)); exact (hasR_A _ _ (hd _ (List.getElem_mem hk))))))
  · have eA : atI s.did event = 0 := by unfold atI; rw [if_neg h]
    have eI' : inB event (s.did.length : Int) = false := by unfold inB; grind
    have eB' : hasB 0 user = false := by simp [hasB]
    rw [eA, eB']
    (repeat' (first | simp (maxSteps := 5000000) (implicitDefEqProofs := false) only [ruA, ruB, aEv, aTake, aLoad, aField, aIndex, aLen, aBin, bin2, aUn, un1, aExtract, aConv, ASt.get, aget, ASt.put, aStore, aBox, aAppend, aBuildSlice, aMake, aBuild, aFill, oneParts, allC, aBinS, yv, aCells, oneC, oneCL, treeC, treeL, aLit, aDst, aSrc, appTab, Value.cells, Value.oneCell', envOf, aResL, aOne, ↓reduceIte, reduceCtorEq, forall_const, Nat.reduceLT, Nat.reduceEqDiff, Nat.reduceAdd, Nat.reduceMul, Nat.reduceSub, Nat.reduceLeDiff, Nat.reduceBEq, eq_self, implies_true, ne_eq, dref, dref1, dref2, aExecS, aStoreB, aTakes, aTakeE, aElder, aFrom, aFresh, isLoad, aBuildSlice1, frzs, frz1, ownIds, AV.frz, AV.frzL, frzEnv, AV.shift, AV.shiftL, aFieldV, aSliceW, aSliceO, aSlice, aSliceR, aSliceS, aBd, aMax, frzAVs, frzAV, frzTab, AObj.frz, aMM, aNilS, aMay, tyF_62_3, tyA_44, tyS_44, tyE_44, tyK_44, tyA_3, tyS_3, eI'] | (with_reducible refine aIf_split (fun _ => ?_) (fun _ => ?_)) | (with_reducible refine aSel_split (fun _ => ?_) (fun _ => ?_)) | (with_reducible refine aGd_split (fun _ => ?_) (fun _ => ?_)) | (with_reducible refine aDraw_quiet (by kernel_rfl) ?_) | ((with_reducible apply callV (g := 45)); exact (in17_A _ _)) | ((with_reducible apply callD (g := 45)); exact (in17_A _ _))))
set_option maxRecDepth 100000 in
set_option maxHeartbeats 8000000 in
theorem enabledR_A (m : Mod) (s : St) (event user : Int) (hl : m.miles.length ≤ 1000000) (hl2 : m.sods.length ≤ 1000000) (ho : ok64 s.opn) (hd : ok64 s.don) (hr : ∀ p ∈ m.roles, ok64 p.2) (hdid : ∀ x ∈ s.did, ok64 x) : ADet Tryz.prog 44 [.agg (eMod m), .agg (eSt s), eI event, eI user] (val (.bool (enabledM m s event user))) := by
  refine adet_of_code mixedT Tryz.func44 rfl (by decide) Tryz.ntmps44 Tryz.results44 rfl (val_ok _) ?_
  unfold enabledM
  cases hfr : freeM m s event user with
  | false =>
    (repeat' (first | simp (maxSteps := 5000000) (implicitDefEqProofs := false) only [ruA, ruB, aEv, aTake, aLoad, aField, aIndex, aLen, aBin, bin2, aUn, un1, aExtract, aConv, ASt.get, aget, ASt.put, aStore, aBox, aAppend, aBuildSlice, aMake, aBuild, aFill, oneParts, allC, aBinS, yv, aCells, oneC, oneCL, treeC, treeL, aLit, aDst, aSrc, appTab, Value.cells, Value.oneCell', envOf, aResL, aOne, ↓reduceIte, reduceCtorEq, forall_const, Nat.reduceLT, Nat.reduceEqDiff, Nat.reduceAdd, Nat.reduceMul, Nat.reduceSub, Nat.reduceLeDiff, Nat.reduceBEq, eq_self, implies_true, ne_eq, dref, dref1, dref2, aExecS, aStoreB, aTakes, aTakeE, aElder, aFrom, aFresh, isLoad, aBuildSlice1, frzs, frz1, ownIds, AV.frz, AV.frzL, frzEnv, AV.shift, AV.shiftL, aFieldV, aSliceW, aSliceO, aSlice, aSliceR, aSliceS, aBd, aMax, frzAVs, frzAV, frzTab, AObj.frz, aMM, aNilS, aMay, tyA_32, tyS_32, tyA_62, tyS_62, tyF_32_8, tyA_29, tyS_29, tyE_29, tyK_29, tyK_3, tyF_122_0, tyA_3, tyS_3, tyF_122_1, hfr] | (with_reducible refine aIf_split (fun _ => ?_) (fun _ => ?_)) | (with_reducible refine aSel_split (fun _ => ?_) (fun _ => ?_)) | (with_reducible refine aGd_split (fun _ => ?_) (fun _ => ?_)) | (with_reducible refine aDraw_quiet (by kernel_rfl) ?_) | ((with_reducible apply callV (g := 46)); exact (freeR_A m s event user hl ho hd hr)) | ((with_reducible apply callD (g := 46)); exact (freeR_A m s event user hl ho hd hr))))
    rfl
  | true =>
    (repeat' (first | simp (maxSteps := 5000000) (implicitDefEqProofs := false) only [ruA, ruB, aEv, aTake, aLoad, aField, aIndex, aLen, aBin, bin2, aUn, un1, aExtract, aConv, ASt.get, aget, ASt.put, aStore, aBox, aAppend, aBuildSlice, aMake, aBuild, aFill, oneParts, allC, aBinS, yv, aCells, oneC, oneCL, treeC, treeL, aLit, aDst, aSrc, appTab, Value.cells, Value.oneCell', envOf, aResL, aOne, ↓reduceIte, reduceCtorEq, forall_const, Nat.reduceLT, Nat.reduceEqDiff, Nat.reduceAdd, Nat.reduceMul, Nat.reduceSub, Nat.reduceLeDiff, Nat.reduceBEq, eq_self, implies_true, ne_eq, dref, dref1, dref2, aExecS, aStoreB, aTakes, aTakeE, aElder, aFrom, aFresh, isLoad, aBuildSlice1, frzs, frz1, ownIds, AV.frz, AV.frzL, frzEnv, AV.shift, AV.shiftL, aFieldV, aSliceW, aSliceO, aSlice, aSliceR, aSliceS, aBd, aMax, frzAVs, frzAV, frzTab, AObj.frz, aMM, aNilS, aMay, tyA_32, tyS_32, tyA_62, tyS_62, tyF_32_8, tyA_29, tyS_29, tyE_29, tyK_29, tyK_3, tyF_122_0, tyA_3, tyS_3, tyF_122_1, hfr] | (with_reducible refine aIf_split (fun _ => ?_) (fun _ => ?_)) | (with_reducible refine aSel_split (fun _ => ?_) (fun _ => ?_)) | (with_reducible refine aGd_split (fun _ => ?_) (fun _ => ?_)) | (with_reducible refine aDraw_quiet (by kernel_rfl) ?_) | ((with_reducible apply callV (g := 46)); exact (freeR_A m s event user hl ho hd hr)) | ((with_reducible apply callD (g := 46)); exact (freeR_A m s event user hl ho hd hr))))
    unfold apartM
    refine aLoop_of (fun st => ∃ k : Nat, k ≤ m.sods.length ∧ anyN (apartAt m s event user) k = false ∧ st = ⟨57, [(2, eI event), (3, eI user), (4, .op 0 0 0), (5, .op 1 0 0), (9, eI (k : Int))], [(0, some (.box 32 (eMod m))), (1, some (.box 62 (eSt s)))], 2⟩) (fun st => m.sods.length - slotN st 9) ⟨_, (weak_cut1 (by (first | ((simp only [envIn, tabIn, envLt, tabLt, AObj.lt, AV.lt, AV.ltL, ruW, ASt.get, aget, ASt.put, ↓reduceIte, reduceCtorEq, Nat.reduceLT, Nat.reduceEqDiff, Nat.reduceAdd, Nat.reduceLeDiff, eq_self, implies_true]) <;> (repeat' apply And.intro) <;> first | (rw [wrapK (by omega)]; done) | (simp; done) | omega) | fail))), 0, Nat.zero_le _, rfl, rfl⟩ ?_
    rintro _ ⟨k, hk, hI, rfl⟩
    by_cases hlt : k < m.sods.length
    · obtain ⟨⟨a, b⟩, hx⟩ : ∃ x, m.sods[k] = x := ⟨_, rfl⟩
      have ex : eII m.sods[k] = [eI a, eI b] := by rw [hx]
      have eF : apartAt m s event user k = (((a == event) && hasB (atI s.did b) user) || ((b == event) && hasB (atI s.did a) user)) := by simp [apartAt, hlt, hx]
      (repeat' (first | simp (maxSteps := 5000000) (implicitDefEqProofs := false) only [ruA, ruB, aEv, aTake, aLoad, aField, aIndex, aLen, aBin, bin2, aUn, un1, aExtract, aConv, ASt.get, aget, ASt.put, aStore, aBox, aAppend, aBuildSlice, aMake, aBuild, aFill, oneParts, allC, aBinS, yv, aCells, oneC, oneCL, treeC, treeL, aLit, aDst, aSrc, appTab, Value.cells, Value.oneCell', envOf, aResL, aOne, ↓reduceIte, reduceCtorEq, forall_const, Nat.reduceLT, Nat.reduceEqDiff, Nat.reduceAdd, Nat.reduceMul, Nat.reduceSub, Nat.reduceLeDiff, Nat.reduceBEq, eq_self, implies_true, ne_eq, dref, dref1, dref2, aExecS, aStoreB, aTakes, aTakeE, aElder, aFrom, aFresh, isLoad, aBuildSlice1, frzs, frz1, ownIds, AV.frz, AV.frzL, frzEnv, AV.shift, AV.shiftL, aFieldV, aSliceW, aSliceO, aSlice, aSliceR, aSliceS, aBd, aMax, frzAVs, frzAV, frzTab, AObj.frz, aMM, aNilS, aMay, tyA_32, tyS_32, tyA_62, tyS_62, tyF_32_8, tyA_29, tyS_29, tyE_29, tyK_29, tyK_3, tyF_122_0, tyA_3, tyS_3, tyF_122_1, hlt] | (with_reducible refine aIf_split (fun _ => ?_) (fun _ => ?_)) | (with_reducible refine aSel_split (fun _ => ?_) (fun _ => ?_)) | (with_reducible refine aGd_split (fun _ => ?_) (fun _ => ?_))))
      refine aDraw_held [] [0, 1, 2, 3, 4, 5, 6, 7, 8, 9, 10, 11] (.exec 12 (.exec 13 .done)) (by kernel_rfl) (by simp [ATab.get_cons]) ?_
      (repeat' (first | simp (maxSteps := 5000000) (implicitDefEqProofs := false) only [ruA, ruB, aEv, aTake, aLoad, aField, aIndex, aLen, aBin, bin2, aUn, un1, aExtract, aConv, ASt.get, aget, ASt.put, aStore, aBox, aAppend, aBuildSlice, aMake, aBuild, aFill, oneParts, allC, aBinS, yv, aCells, oneC, oneCL, treeC, treeL, aLit, aDst, aSrc, appTab, Value.cells, Value.oneCell', envOf, aResL, aOne, ↓reduceIte, reduceCtorEq, forall_const, Nat.reduceLT, Nat.reduceEqDiff, Nat.reduceAdd, Nat.reduceMul, Nat.reduceSub, Nat.reduceLeDiff, Nat.reduceBEq, eq_self, implies_true, ne_eq, dref, dref1, dref2, aExecS, aStoreB, aTakes, aTakeE, aElder, aFrom, aFresh, isLoad, aBuildSlice1, frzs, frz1, ownIds, AV.frz, AV.frzL, frzEnv, AV.shift, AV.shiftL, aFieldV, aSliceW, aSliceO, aSlice, aSliceR, aSliceS, aBd, aMax, frzAVs, frzAV, frzTab, AObj.frz, aMM, aNilS, aMay, tyA_32, tyS_32, tyA_62, tyS_62, tyF_32_8, tyA_29, tyS_29, tyE_29, tyK_29, tyK_3, tyF_122_0, tyA_3, tyS_3, tyF_122_1, row_at, hlt, ex] | (with_reducible refine aIf_split (fun _ => ?_) (fun _ => ?_)) | (with_reducible refine aSel_split (fun _ => ?_) (fun _ => ?_)) | (with_reducible refine aGd_split (fun _ => ?_) (fun _ => ?_)) | (with_reducible refine aDraw_quiet (by kernel_rfl) ?_) | ((with_reducible apply callV (g := 25)); exact (hadR_A s b user hdid)) | ((with_reducible apply callD (g := 25)); exact (hadR_A s b user hdid)) | ((with_reducible apply callV (g := 25)); exact (hadR_A s a user hdid)) | ((with_reducible apply callD (g := 25)); exact (hadR_A s a user hdid))))
      all_goals first
        | (rw [show anyN (apartAt m s event user) m.sods.length = true from anyN_yes hlt (by rw [eF]; grind)]; rfl)
        | exact roundI (weak_cut1 (by (first | ((simp only [envIn, tabIn, envLt, tabLt, AObj.lt, AV.lt, AV.ltL, ruW, ASt.get, aget, ASt.put, ↓reduceIte, reduceCtorEq, Nat.reduceLT, Nat.reduceEqDiff, Nat.reduceAdd, Nat.reduceLeDiff, eq_self, implies_true]) <;> (repeat' apply And.intro) <;> first | (rw [wrapK (by omega)]; done) | (simp; done) | omega) | fail))) ⟨k + 1, by omega, anyN_step hI (by rw [eF]; grind), rfl⟩ (by simp only [slotN, ruW, ASt.get, aget, ASt.put, ↓reduceIte, reduceCtorEq, Nat.reduceLT, Nat.reduceEqDiff, Nat.reduceAdd, Nat.reduceLeDiff, eq_self, implies_true]; omega)
        | trace_state
    · obtain rfl : k = m.sods.length := by omega
      (repeat' (first | simp (maxSteps := 5000000) (implicitDefEqProofs := false) only [ruA, ruB, aEv, aTake, aLoad, aField, aIndex, aLen, aBin, bin2, aUn, un1, aExtract, aConv, ASt.get, aget, ASt.put, aStore, aBox, aAppend, aBuildSlice, aMake, aBuild, aFill, oneParts, allC, aBinS, yv, aCells, oneC, oneCL, treeC, treeL, aLit, aDst, aSrc, appTab, Value.cells, Value.oneCell', envOf, aResL, aOne, ↓reduceIte, reduceCtorEq, forall_const, Nat.reduceLT, Nat.reduceEqDiff, Nat.reduceAdd, Nat.reduceMul, Nat.reduceSub, Nat.reduceLeDiff, Nat.reduceBEq, eq_self, implies_true, ne_eq, dref, dref1, dref2, aExecS, aStoreB, aTakes, aTakeE, aElder, aFrom, aFresh, isLoad, aBuildSlice1, frzs, frz1, ownIds, AV.frz, AV.frzL, frzEnv, AV.shift, AV.shiftL, aFieldV, aSliceW, aSliceO, aSlice, aSliceR, aSliceS, aBd, aMax, frzAVs, frzAV, frzTab, AObj.frz, aMM, aNilS, aMay, tyA_32, tyS_32, tyA_62, tyS_62, tyF_32_8, tyA_29, tyS_29, tyE_29, tyK_29, tyK_3, tyF_122_0, tyA_3, tyS_3, tyF_122_1, hlt] | (with_reducible refine aIf_split (fun _ => ?_) (fun _ => ?_)) | (with_reducible refine aSel_split (fun _ => ?_) (fun _ => ?_)) | (with_reducible refine aGd_split (fun _ => ?_) (fun _ => ?_)) | (with_reducible refine aDraw_quiet (by kernel_rfl) ?_)))
      rw [hI]
      rfl
set_option maxRecDepth 100000 in
set_option maxHeartbeats 8000000 in
theorem whoR_A (m : Mod) (s : St) (event : Int) (hl : m.miles.length ≤ 1000000) (hl2 : m.sods.length ≤ 1000000) (hl3 : m.users.length ≤ 1000000) (ho : ok64 s.opn) (hd : ok64 s.don) (hr : ∀ p ∈ m.roles, ok64 p.2) (hdid : ∀ x ∈ s.did, ok64 x) : ADet Tryz.prog 24 [.agg (eMod m), .agg (eSt s), eI event] (own 3 1 ((whoM m s event).map fun n => [eI n])) := by
  refine adet_of_code mixedT Tryz.func24 rfl (by decide) Tryz.ntmps24 Tryz.results24 rfl (own_ok _ _ _) ?_
  (repeat' (first | simp (maxSteps := 5000000) (implicitDefEqProofs := false) only [ruA, ruB, aEv, aTake, aLoad, aField, aIndex, aLen, aBin, bin2, aUn, un1, aExtract, aConv, ASt.get, aget, ASt.put, aStore, aBox, aAppend, aBuildSlice, aMake, aBuild, aFill, oneParts, allC, aBinS, yv, aCells, oneC, oneCL, treeC, treeL, aLit, aDst, aSrc, appTab, Value.cells, Value.oneCell', envOf, aResL, aOne, ↓reduceIte, reduceCtorEq, forall_const, Nat.reduceLT, Nat.reduceEqDiff, Nat.reduceAdd, Nat.reduceMul, Nat.reduceSub, Nat.reduceLeDiff, Nat.reduceBEq, eq_self, implies_true, ne_eq, dref, dref1, dref2, aExecS, aStoreB, aTakes, aTakeE, aElder, aFrom, aFresh, isLoad, aBuildSlice1, frzs, frz1, ownIds, AV.frz, AV.frzL, frzEnv, AV.shift, AV.shiftL, aFieldV, aSliceW, aSliceO, aSlice, aSliceR, aSliceS, aBd, aMax, frzAVs, frzAV, frzTab, AObj.frz, aMM, aNilS, aMay, tyF_32_2, tyA_22, tyS_22, tyE_22, tyK_22, tyK_3, tyA_32, tyS_32, tyA_62, tyS_62, tyR_44] | (with_reducible refine aIf_split (fun _ => ?_) (fun _ => ?_)) | (with_reducible refine aSel_split (fun _ => ?_) (fun _ => ?_)) | (with_reducible refine aGd_split (fun _ => ?_) (fun _ => ?_))))
  unfold whoM
  obtain ⟨f, hf⟩ : ∃ f : Nat → Bool, f = fun u : Nat => enabledM m s event (u : Int) := ⟨_, rfl⟩
  rw [← hf]
  have e0 : filtN f 0 = [] := rfl
  refine aLoop_of (fun st => ∃ k : Nat, k ≤ m.users.length ∧ st = ⟨26, [(2, eI event), (3, .op 0 0 0), (4, .op 1 0 0), (7, .osl 2), (8, eI (k : Int))], [(0, some (.box 32 (eMod m))), (1, some (.box 62 (eSt s))), (2, some (.row 3 1 ((filtN f k).map fun n => [eI n])))], 3⟩) (fun st => m.users.length - slotN st 8) ⟨_, ((weak_nil 7 3 1 (by simp only [ruW, ASt.get, aget, ASt.put, ↓reduceIte, reduceCtorEq, Nat.reduceLT, Nat.reduceEqDiff, Nat.reduceAdd, Nat.reduceLeDiff, eq_self, implies_true, e0, List.map_nil])).trans (weak_ren1 [0, 1, 2] ⟨(by decide), (by (first | ((simp only [envInR, tabInR, envLt, tabLt, AObj.lt, AV.lt, AV.ltL, AV.ren, AV.renL, AObj.ren, List.getD_cons_zero, List.getD_cons_succ, List.length_cons, List.length_nil, ruW, ASt.get, aget, ASt.put, ↓reduceIte, reduceCtorEq, Nat.reduceLT, Nat.reduceEqDiff, Nat.reduceAdd, Nat.reduceLeDiff, eq_self, implies_true, e0, List.map_nil]) <;> (repeat' apply And.intro) <;> first | (rw [wrapK (by omega)]; done) | (simp; done) | omega) | fail))⟩)), 0, Nat.zero_le _, rfl⟩ ?_
  rintro _ ⟨k, hk, rfl⟩
  have hlen := filtN_len f k
  by_cases hlt : k < m.users.length
  · have hef : enabledM m s event (k : Int) = f k := by rw [hf]
    (repeat' (first | simp (maxSteps := 5000000) (implicitDefEqProofs := false) only [ruA, ruB, aEv, aTake, aLoad, aField, aIndex, aLen, aBin, bin2, aUn, un1, aExtract, aConv, ASt.get, aget, ASt.put, aStore, aBox, aAppend, aBuildSlice, aMake, aBuild, aFill, oneParts, allC, aBinS, yv, aCells, oneC, oneCL, treeC, treeL, aLit, aDst, aSrc, appTab, Value.cells, Value.oneCell', envOf, aResL, aOne, ↓reduceIte, reduceCtorEq, forall_const, Nat.reduceLT, Nat.reduceEqDiff, Nat.reduceAdd, Nat.reduceMul, Nat.reduceSub, Nat.reduceLeDiff, Nat.reduceBEq, eq_self, implies_true, ne_eq, dref, dref1, dref2, aExecS, aStoreB, aTakes, aTakeE, aElder, aFrom, aFresh, isLoad, aBuildSlice1, frzs, frz1, ownIds, AV.frz, AV.frzL, frzEnv, AV.shift, AV.shiftL, aFieldV, aSliceW, aSliceO, aSlice, aSliceR, aSliceS, aBd, aMax, frzAVs, frzAV, frzTab, AObj.frz, aMM, aNilS, aMay, tyF_32_2, tyA_22, tyS_22, tyE_22, tyK_22, tyK_3, tyA_32, tyS_32, tyA_62, tyS_62, tyR_44, hlt] | (with_reducible refine aIf_split (fun _ => ?_) (fun _ => ?_)) | (with_reducible refine aSel_split (fun _ => ?_) (fun _ => ?_)) | (with_reducible refine aGd_split (fun _ => ?_) (fun _ => ?_)) | (with_reducible refine aDraw_quiet (by kernel_rfl) ?_) | ((refine callV (enabledR_A m s event (k : Int) hl hl2 ho hd hr hdid) ?_; rw [hef]))))
    · rename_i h
      have et : (filtN f (k + 1)).map (fun n => [eI n]) = (filtN f k).map (fun n => [eI n]) ++ [[eI (k : Int)]] := by
        rw [filtN, if_pos h]
        simp
      refine ⟨rfl, by omega, roundI (weak_ren1 [0, 1, 4] ⟨(by decide), (by (first | ((simp only [envInR, tabInR, envLt, tabLt, AObj.lt, AV.lt, AV.ltL, AV.ren, AV.renL, AObj.ren, List.getD_cons_zero, List.getD_cons_succ, List.length_cons, List.length_nil, ruW, ASt.get, aget, ASt.put, ↓reduceIte, reduceCtorEq, Nat.reduceLT, Nat.reduceEqDiff, Nat.reduceAdd, Nat.reduceLeDiff, eq_self, implies_true, et]) <;> (repeat' apply And.intro) <;> first | (rw [wrapK (by omega)]; done) | (simp; done) | omega) | fail))⟩) ⟨k + 1, by omega, rfl⟩ (by simp only [slotN, ruW, ASt.get, aget, ASt.put, ↓reduceIte, reduceCtorEq, Nat.reduceLT, Nat.reduceEqDiff, Nat.reduceAdd, Nat.reduceLeDiff, eq_self, implies_true]; omega)⟩
    · rename_i h
      have et : filtN f (k + 1) = filtN f k := by
        rw [filtN, if_neg (by simp [h])]
      exact roundI (weak_cut1 (by (first | ((simp only [envIn, tabIn, envLt, tabLt, AObj.lt, AV.lt, AV.ltL, ruW, ASt.get, aget, ASt.put, ↓reduceIte, reduceCtorEq, Nat.reduceLT, Nat.reduceEqDiff, Nat.reduceAdd, Nat.reduceLeDiff, eq_self, implies_true, et]) <;> (repeat' apply And.intro) <;> first | (rw [wrapK (by omega)]; done) | (simp; done) | omega) | fail))) ⟨k + 1, by omega, rfl⟩ (by simp only [slotN, ruW, ASt.get, aget, ASt.put, ↓reduceIte, reduceCtorEq, Nat.reduceLT, Nat.reduceEqDiff, Nat.reduceAdd, Nat.reduceLeDiff, eq_self, implies_true]; omega)
  · obtain rfl : k = m.users.length := by omega
    (repeat' (first | simp (maxSteps := 5000000) (implicitDefEqProofs := false) only [ruA, ruB, aEv, aTake, aLoad, aField, aIndex, aLen, aBin, bin2, aUn, un1, aExtract, aConv, ASt.get, aget, ASt.put, aStore, aBox, aAppend, aBuildSlice, aMake, aBuild, aFill, oneParts, allC, aBinS, yv, aCells, oneC, oneCL, treeC, treeL, aLit, aDst, aSrc, appTab, Value.cells, Value.oneCell', envOf, aResL, aOne, ↓reduceIte, reduceCtorEq, forall_const, Nat.reduceLT, Nat.reduceEqDiff, Nat.reduceAdd, Nat.reduceMul, Nat.reduceSub, Nat.reduceLeDiff, Nat.reduceBEq, eq_self, implies_true, ne_eq, dref, dref1, dref2, aExecS, aStoreB, aTakes, aTakeE, aElder, aFrom, aFresh, isLoad, aBuildSlice1, frzs, frz1, ownIds, AV.frz, AV.frzL, frzEnv, AV.shift, AV.shiftL, aFieldV, aSliceW, aSliceO, aSlice, aSliceR, aSliceS, aBd, aMax, frzAVs, frzAV, frzTab, AObj.frz, aMM, aNilS, aMay, tyF_32_2, tyA_22, tyS_22, tyE_22, tyK_22, tyK_3, tyA_32, tyS_32, tyA_62, tyS_62, tyR_44, hlt] | (with_reducible refine aIf_split (fun _ => ?_) (fun _ => ?_)) | (with_reducible refine aSel_split (fun _ => ?_) (fun _ => ?_)) | (with_reducible refine aGd_split (fun _ => ?_) (fun _ => ?_)) | (with_reducible refine aDraw_quiet (by kernel_rfl) ?_)))
    exact aGives_own (by simp [ATab.get_cons])
theorem filtN_pos (f : Nat → Bool) : ∀ n, decide (0 < ((filtN f n).length : Int)) = anyN f n
  | 0 => rfl
  | n + 1 => by
    have := filtN_pos f n
    unfold filtN anyN
    split
    · rename_i h
      simp [h]
    · rename_i h
      simp only [h, Bool.or_false, this]
set_option maxRecDepth 100000 in
set_option maxHeartbeats 8000000 in
theorem anyR_A (m : Mod) (s : St) (hle : m.events.length ≤ 1000000) (hl : m.miles.length ≤ 1000000) (hl2 : m.sods.length ≤ 1000000) (hl3 : m.users.length ≤ 1000000) (ho : ok64 s.opn) (hd : ok64 s.don) (hr : ∀ p ∈ m.roles, ok64 p.2) (hdid : ∀ x ∈ s.did, ok64 x) : ADet Tryz.prog 47 [.agg (eMod m), .agg (eSt s)] (val (.bool (anyM m s))) := by
  refine adet_of_code mixedT Tryz.func47 rfl (by decide) Tryz.ntmps47 Tryz.results47 rfl (val_ok _) ?_
  (repeat' (first | simp (maxSteps := 5000000) (implicitDefEqProofs := false) only [ruA, ruB, aEv, aTake, aLoad, aField, aIndex, aLen, aBin, bin2, aUn, un1, aExtract, aConv, ASt.get, aget, ASt.put, aStore, aBox, aAppend, aBuildSlice, aMake, aBuild, aFill, oneParts, allC, aBinS, yv, aCells, oneC, oneCL, treeC, treeL, aLit, aDst, aSrc, appTab, Value.cells, Value.oneCell', envOf, aResL, aOne, ↓reduceIte, reduceCtorEq, forall_const, Nat.reduceLT, Nat.reduceEqDiff, Nat.reduceAdd, Nat.reduceMul, Nat.reduceSub, Nat.reduceLeDiff, Nat.reduceBEq, eq_self, implies_true, ne_eq, dref, dref1, dref2, aExecS, aStoreB, aTakes, aTakeE, aElder, aFrom, aFresh, isLoad, aBuildSlice1, frzs, frz1, ownIds, AV.frz, AV.frzL, frzEnv, AV.shift, AV.shiftL, aFieldV, aSliceW, aSliceO, aSlice, aSliceR, aSliceS, aBd, aMax, frzAVs, frzAV, frzTab, AObj.frz, aMM, aNilS, aMay, tyF_32_5, tyA_26, tyS_26, tyE_26, tyK_26, tyK_3, tyA_32, tyS_32, tyA_62, tyS_62, tyE_44, tyK_44] | (with_reducible refine aIf_split (fun _ => ?_) (fun _ => ?_)) | (with_reducible refine aSel_split (fun _ => ?_) (fun _ => ?_)) | (with_reducible refine aGd_split (fun _ => ?_) (fun _ => ?_))))
  unfold anyM
  obtain ⟨f, hf⟩ : ∃ f : Nat → Bool, f = fun e : Nat => anyN (fun u => enabledM m s (e : Int) (u : Int)) m.users.length := ⟨_, rfl⟩
  rw [← hf]
  refine aLoop_of (fun st => ∃ k : Nat, k ≤ m.events.length ∧ anyN f k = false ∧ st = ⟨19, [(2, .op 0 0 0), (3, .op 1 0 0), (5, eI (k : Int))], [(0, some (.box 32 (eMod m))), (1, some (.box 62 (eSt s)))], 2⟩) (fun st => m.events.length - slotN st 5) ⟨_, (weak_cut1 (by (first | ((simp only [envIn, tabIn, envLt, tabLt, AObj.lt, AV.lt, AV.ltL, ruW, ASt.get, aget, ASt.put, ↓reduceIte, reduceCtorEq, Nat.reduceLT, Nat.reduceEqDiff, Nat.reduceAdd, Nat.reduceLeDiff, eq_self, implies_true]) <;> (repeat' apply And.intro) <;> first | (rw [wrapK (by omega)]; done) | (simp; done) | omega) | fail))), 0, Nat.zero_le _, rfl, rfl⟩ ?_
  rintro _ ⟨k, hk, hI, rfl⟩
  by_cases hlt : k < m.events.length
  · have hef : decide (0 < ((whoM m s (k : Int)).length : Int)) = f k := by rw [hf]; exact filtN_pos _ _
    (repeat' (first | simp (maxSteps := 5000000) (implicitDefEqProofs := false) only [ruA, ruB, aEv, aTake, aLoad, aField, aIndex, aLen, aBin, bin2, aUn, un1, aExtract, aConv, ASt.get, aget, ASt.put, aStore, aBox, aAppend, aBuildSlice, aMake, aBuild, aFill, oneParts, allC, aBinS, yv, aCells, oneC, oneCL, treeC, treeL, aLit, aDst, aSrc, appTab, Value.cells, Value.oneCell', envOf, aResL, aOne, ↓reduceIte, reduceCtorEq, forall_const, Nat.reduceLT, Nat.reduceEqDiff, Nat.reduceAdd, Nat.reduceMul, Nat.reduceSub, Nat.reduceLeDiff, Nat.reduceBEq, eq_self, implies_true, ne_eq, dref, dref1, dref2, aExecS, aStoreB, aTakes, aTakeE, aElder, aFrom, aFresh, isLoad, aBuildSlice1, frzs, frz1, ownIds, AV.frz, AV.frzL, frzEnv, AV.shift, AV.shiftL, aFieldV, aSliceW, aSliceO, aSlice, aSliceR, aSliceS, aBd, aMax, frzAVs, frzAV, frzTab, AObj.frz, aMM, aNilS, aMay, tyF_32_5, tyA_26, tyS_26, tyE_26, tyK_26, tyK_3, tyA_32, tyS_32, tyA_62, tyS_62, tyE_44, tyK_44, hlt] | (with_reducible refine aIf_split (fun _ => ?_) (fun _ => ?_)) | (with_reducible refine aSel_split (fun _ => ?_) (fun _ => ?_)) | (with_reducible refine aGd_split (fun _ => ?_) (fun _ => ?_)) | (with_reducible refine aDraw_quiet (by kernel_rfl) ?_) | ((with_reducible apply callO (g := 24)); exact (whoR_A m s (k : Int) hl hl2 hl3 ho hd hr hdid); exact (.inr ints_plain))))
    all_goals rename_i h
    all_goals simp only [List.length_map, hef] at h
    · symm
      exact anyN_yes hlt h
    · exact roundI (weak_cut1 (by (first | ((simp only [envIn, tabIn, envLt, tabLt, AObj.lt, AV.lt, AV.ltL, ruW, ASt.get, aget, ASt.put, ↓reduceIte, reduceCtorEq, Nat.reduceLT, Nat.reduceEqDiff, Nat.reduceAdd, Nat.reduceLeDiff, eq_self, implies_true]) <;> (repeat' apply And.intro) <;> first | (rw [wrapK (by omega)]; done) | (simp; done) | omega) | fail))) ⟨k + 1, by omega, anyN_step hI h, rfl⟩ (by simp only [slotN, ruW, ASt.get, aget, ASt.put, ↓reduceIte, reduceCtorEq, Nat.reduceLT, Nat.reduceEqDiff, Nat.reduceAdd, Nat.reduceLeDiff, eq_self, implies_true]; omega)
  · obtain rfl : k = m.events.length := by omega
    (repeat' (first | simp (maxSteps := 5000000) (implicitDefEqProofs := false) only [ruA, ruB, aEv, aTake, aLoad, aField, aIndex, aLen, aBin, bin2, aUn, un1, aExtract, aConv, ASt.get, aget, ASt.put, aStore, aBox, aAppend, aBuildSlice, aMake, aBuild, aFill, oneParts, allC, aBinS, yv, aCells, oneC, oneCL, treeC, treeL, aLit, aDst, aSrc, appTab, Value.cells, Value.oneCell', envOf, aResL, aOne, ↓reduceIte, reduceCtorEq, forall_const, Nat.reduceLT, Nat.reduceEqDiff, Nat.reduceAdd, Nat.reduceMul, Nat.reduceSub, Nat.reduceLeDiff, Nat.reduceBEq, eq_self, implies_true, ne_eq, dref, dref1, dref2, aExecS, aStoreB, aTakes, aTakeE, aElder, aFrom, aFresh, isLoad, aBuildSlice1, frzs, frz1, ownIds, AV.frz, AV.frzL, frzEnv, AV.shift, AV.shiftL, aFieldV, aSliceW, aSliceO, aSlice, aSliceR, aSliceS, aBd, aMax, frzAVs, frzAV, frzTab, AObj.frz, aMM, aNilS, aMay, tyF_32_5, tyA_26, tyS_26, tyE_26, tyK_26, tyK_3, tyA_32, tyS_32, tyA_62, tyS_62, tyE_44, tyK_44, hlt] | (with_reducible refine aIf_split (fun _ => ?_) (fun _ => ?_)) | (with_reducible refine aSel_split (fun _ => ?_) (fun _ => ?_)) | (with_reducible refine aGd_split (fun _ => ?_) (fun _ => ?_)) | (with_reducible refine aDraw_quiet (by kernel_rfl) ?_)))
    exact hI.symm
end
section
open Go.RowKit
theorem firstI_nat (n : Nat) : firstI (n : Int) = ((2 ^ (min n 31) - 1 : Nat) : Int) := by
  have h1 : (max 0 (min (n : Int) 31)).toNat = min n 31 := by omega
  have h2 : 0 < 2 ^ (min n 31) := Nat.two_pow_pos _
  unfold firstI
  rw [h1]
  generalize min n 31 = k at *
  have : ((2 ^ k : Nat) : Int) = (2 : Int) ^ k := by simp
  omega
theorem firstI_31 (n : Nat) : firstI (n : Int) < 2147483648 := by
  rw [firstI_nat]
  have : 2 ^ (min n 31) ≤ 2 ^ 31 := Nat.pow_le_pow_right (by omega) (by omega)
  have h2 : 0 < 2 ^ (min n 31) := Nat.two_pow_pos _
  omega
end
end Go.Proofs.YtfeclebkaambhaaGreat
