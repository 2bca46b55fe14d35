/-
  Parts of the proof: Sgp18, Sgp19, Sgp20.
-/
import Derived.Test.YtcindbpnaicemaaGreatSgq5
import Derived.WalkKit
import Derived.WalkLawsBesides
import Derived.Test.YtcindbpnaicemaaGreatSortShelf
import Derived.Deep.LoopGhost
import Derived.Deep.Draws
import Derived.Deep.QuietTactic
import Derived.OpenShut
import Derived.ProofKit
import Derived.Lib.SlicesCompact
import Derived.Deep.AppendLies
import Derived.Deep.DeepCutAuto
import Derived.Sort.OwnSortedInts
import Derived.WalkMore
import Derived.Deep.RegionLaw
import Derived.Lib.SliceRun
import Derived.Deep.MidRow
import Derived.Deep.Upon
import Derived.Shelf.RegionOpenPlain
import Derived.Sort.WalkB12
set_option linter.unusedVariables false
set_option linter.unusedSimpArgs false
set_option linter.defProp false
set_option maxRecDepth 100000
set_option maxHeartbeats 16000000
namespace Go.Proofs.YtcindbpnaicemaaGreat
section
section
open Go.RowKit
abbrev IG:=List (List AV) × Bool
def iK (K:IG → ASt → Prop) (g:IG) (st:ASt):Prop:=K g st
def treeA:AV → Prop
 | .agg cs=>treeL cs
 | av=>treeC av
def treeAL:List AV → Prop
 | []=>True
 | a :: l=>treeA a ∧ treeAL l
theorem treeAL_mem:∀ {l:List AV},treeAL l → ∀ a ∈ l,treeA a
 | a :: l,h,b,hb=>by
  rcases List.mem_cons.1 hb with rfl|hb
  ·exact h.1
  ·exact treeAL_mem h.2 b hb
theorem tree_ofA {cx:Cx} {w:World} {tab:ATab} {L:Nat → Value} {x:Value} {av:AV} (h:RVx cx w tab L x av) (ht:treeA av):RT w (Sx cx w tab L) x av:=by
 cases av with
 | agg cs=>
  obtain ⟨xs,rfl,hn,hr⟩:=h.agg_inv
  exact .agg xs cs hn fun j x av h1 h2=>tree_of (hr j x av h1 h2) (treeL_iff.1 ht av (List.mem_of_getElem? h2))
 | _=>exact tree_of h ht
def iYield (xs:List (List AV)) (x:List AV) (dst:Option Nat) (K:IG → ASt → Prop) (g:IG) (st:ASt):Prop:=
 (g.2=true ∧ treeAL x ∧ (g.1 ++ [x]) <+: xs) ∧ K (g.1 ++ [x],true) (st.put dst (.c (.bool true))) ∧ K (g.1 ++ [x],false) (st.put dst (.c (.bool false)))
def iCallV (P:Program) (l:Nat) (xs:List (List AV)) (f:AV) (o:Oper) (args:List AV) (K:IG → ASt → Prop) (g:IG) (st:ASt):Prop:=
 match f with
 | .c (.func (.yield l') first caps)=>(l'=l ∧ first = #[] ∧ caps = #[]) ∧ iYield xs args o.dst K g st
 | _=>aOp P o (iK K g) st
def iOp (P:Program) (l:Nat) (xs:List (List AV)) (o:Oper) (K:IG → ASt → Prop) (g:IG) (st:ASt):Prop:=
 match o.op with
 | .call c=>match c.callee with
  | .value f=>iCallV P l xs (aEv st f) o (c.args.toList.map (aEv st)) K g st
  | _=>aOp P o (iK K g) st
 | _=>aOp P o (iK K g) st
def iOps (P:Program) (l:Nat) (xs:List (List AV)) (ops:Array Oper) (K:IG → ASt → Prop):List Oper → IG → ASt → Prop
 | [],g,st=>K g st
 | o :: rest,g,st=>aGuard ops o.guard (iOp P l xs o (iOps P l xs ops K rest) g) (aSkip o.dst (iOps P l xs ops K rest g)) st
def iThen (next:IG → ASt → Prop) (Q:Exit → IG → ASt → Prop):Exit → IG → ASt → Prop
 | .normal,g,st=>next g st
 | e,g,st=>Q e g st
def iInBlock (id:Nat) (Q:Exit → IG → ASt → Prop):Exit → IG → ASt → Prop
 | .exit id',g,st=>if id'=id then Q .normal g st else Q (.exit id') g st
 | e,g,st=>Q e g st
def iRound (I:IG → ASt → Prop) (μ:IG → ASt → Nat) (n:Nat) (g:IG) (st:ASt):Prop:=∃ st',Weak st st' ∧ I g st' ∧ μ g st'<n
def iCode (P:Program) (l:Nat) (xs:List (List AV)):Code → (Exit → IG → ASt → Prop) → IG → ASt → Prop
 | .skip,Q,g,st=>Q .normal g st
 | .region _ ops _,Q,g,st=>iOps P l xs ops (Q .normal) ops.toList g st
 | .seq x y,Q,g,st=>iCode P l xs x (iThen (iCode P l xs y Q) Q) g st
 | .cond c x y,Q,g,st=>aCond (aEv st c) (iCode P l xs x Q g) (iCode P l xs y Q g) st
 | .block id x,Q,g,st=>iCode P l xs x (iInBlock id Q) g st
 | .loop x,Q,g,st=>∃ (I:IG → ASt → Prop) (μ:IG → ASt → Nat),(∃ st',Weak st st' ∧ I g st') ∧ ∀ g st,I g st → iCode P l xs x (iThen (iRound I μ (μ g st)) Q) g st
 | .exit id,Q,g,st=>Q (.exit id) g st
 | .ret,Q,g,st=>Q .ret g st
 | _,_,_,_=>False
def iLoop (P:Program) (l:Nat) (xs:List (List AV)) (x:Code) (Q:Exit → IG → ASt → Prop) (g:IG) (st:ASt):Prop:=iCode P l xs (.loop x) Q g st
theorem iLoop_of {P:Program} {l:Nat} {xs:List (List AV)} {x:Code} {Q:Exit → IG → ASt → Prop} {g:IG} {st:ASt} (I:IG → ASt → Prop) (μ:IG → ASt → Nat) (h0:∃ st',Weak st st' ∧ I g st') (h:∀ g st,I g st → iCode P l xs x (iThen (iRound I μ (μ g st)) Q) g st):iLoop P l xs x Q g st:=⟨I,μ,h0,h⟩
theorem iRoundI {I:IG → ASt → Prop} {μ:IG → ASt → Nat} {n:Nat} {g:IG} {st st':ASt} (hw:Weak st st') (hI:I g st') (hm:μ g st'<n):iRound I μ n g st:=⟨st',hw,hI,hm⟩
section
variable {P:Program} {l:Nat} {xs:List (List AV)} {Q:Exit → IG → ASt → Prop} {g:IG} {st:ASt} {K:IG → ASt → Prop} {ops:Array Oper} {dst:Option Tmp} {op:Op} {ty:TypeId} {pos:String} {aft:Array Edge} {gd:Option (Nat × Bool)} {rest:List Oper}
theorem iCode_skip:iCode P l xs .skip Q g st=Q .normal g st:=rfl
theorem iCode_reg {id:Nat} {o:List Oper} {b:Bool}:iCode P l xs (.region id o.toArray b) Q g st=iOps P l xs o.toArray (Q .normal) o g st:=rfl
theorem iCode_seq {x y:Code}:iCode P l xs (.seq x y) Q g st=iCode P l xs x (iThen (iCode P l xs y Q) Q) g st:=rfl
theorem iCode_cond {c:Operand} {x y:Code}:iCode P l xs (.cond c x y) Q g st=aCond (aEv st c) (iCode P l xs x Q g) (iCode P l xs y Q g) st:=rfl
theorem iCode_block {id:Nat} {x:Code}:iCode P l xs (.block id x) Q g st=iCode P l xs x (iInBlock id Q) g st:=rfl
theorem iCode_loop {x:Code}:iCode P l xs (.loop x) Q g st=iLoop P l xs x Q g st:=rfl
theorem iCode_exit {id:Nat}:iCode P l xs (.exit id) Q g st=Q (.exit id) g st:=rfl
theorem iCode_ret:iCode P l xs .ret Q g st=Q .ret g st:=rfl
theorem iThen_normal {next:IG → ASt → Prop}:iThen next Q .normal g st=next g st:=rfl
theorem iThen_exit {next:IG → ASt → Prop} {id:Nat}:iThen next Q (.exit id) g st=Q (.exit id) g st:=rfl
theorem iThen_ret {next:IG → ASt → Prop}:iThen next Q .ret g st=Q .ret g st:=rfl
theorem iInBlock_normal {id:Nat}:iInBlock id Q .normal g st=Q .normal g st:=rfl
theorem iInBlock_ret {id:Nat}:iInBlock id Q .ret g st=Q .ret g st:=rfl
theorem iInBlock_exit {id id':Nat}:iInBlock id Q (.exit id') g st=if id'=id then Q .normal g st else Q (.exit id') g st:=rfl
theorem iOps_nil:iOps P l xs ops K [] g st=K g st:=rfl
theorem iOps_plain:iOps P l xs ops K (⟨dst,op,ty,pos,aft,none⟩ :: rest) g st=iOp P l xs ⟨dst,op,ty,pos,aft,none⟩ (iOps P l xs ops K rest) g st:=rfl
theorem iOp_move {x:Operand}:iOp P l xs ⟨dst,.move x,ty,pos,aft,gd⟩ K g st=aOp P ⟨dst,.move x,ty,pos,aft,gd⟩ (iK K g) st:=rfl
theorem iOp_assign {x:Operand}:iOp P l xs ⟨dst,.assign x,ty,pos,aft,gd⟩ K g st=aOp P ⟨dst,.assign x,ty,pos,aft,gd⟩ (iK K g) st:=rfl
theorem iOp_load {t:TypeId} {x:Operand}:iOp P l xs ⟨dst,.load t x,ty,pos,aft,gd⟩ K g st=aOp P ⟨dst,.load t x,ty,pos,aft,gd⟩ (iK K g) st:=rfl
theorem iOp_field {t:TypeId} {x:Operand} {f:Nat}:iOp P l xs ⟨dst,.fieldAddr t x f,ty,pos,aft,gd⟩ K g st=aOp P ⟨dst,.fieldAddr t x f,ty,pos,aft,gd⟩ (iK K g) st:=rfl
theorem iOp_bin {o:BinOp} {t t2:TypeId} {x y:Operand}:iOp P l xs ⟨dst,.binOp o t x y t2,ty,pos,aft,gd⟩ K g st=aOp P ⟨dst,.binOp o t x y t2,ty,pos,aft,gd⟩ (iK K g) st:=rfl
theorem iOp_un {o:UnOp} {t:TypeId} {x:Operand}:iOp P l xs ⟨dst,.unOp o t x,ty,pos,aft,gd⟩ K g st=aOp P ⟨dst,.unOp o t x,ty,pos,aft,gd⟩ (iK K g) st:=rfl
theorem iOp_len {x:Operand} {t:TypeId}:iOp P l xs ⟨dst,.call ⟨.builtin .len,#[x],#[t]⟩,ty,pos,aft,gd⟩ K g st=aOp P ⟨dst,.call ⟨.builtin .len,#[x],#[t]⟩,ty,pos,aft,gd⟩ (iK K g) st:=rfl
theorem iOp_call {f:Operand} {args:List Operand} {ts:Array TypeId}:iOp P l xs ⟨dst,.call ⟨.value f,args.toArray,ts⟩,ty,pos,aft,gd⟩ K g st=iCallV P l xs (aEv st f) ⟨dst,.call ⟨.value f,args.toArray,ts⟩,ty,pos,aft,gd⟩ (args.map (aEv st)) K g st:=by simp [iOp]
theorem iCallV_yield {o:Oper} {args:List AV}:iCallV P l xs (.c (.func (.yield l) #[] #[])) o args K g st=iYield xs args o.dst K g st:=by simp [iCallV]
theorem iK_eq:iK K g st=K g st:=rfl
end
def ruI:=(And.intro (And.intro (And.intro (And.intro @iCode_skip (And.intro @iCode_reg @iCode_seq)) (And.intro @iCode_cond (And.intro @iCode_block @iCode_loop))) (And.intro (And.intro @iCode_exit (And.intro @iCode_ret @iThen_normal)) (And.intro (And.intro @iThen_exit @iThen_ret) (And.intro @iInBlock_normal @iInBlock_ret)))) (And.intro (And.intro (And.intro @iInBlock_exit (And.intro @iOps_nil @iOps_plain)) (And.intro @iOp_move (And.intro @iOp_assign @iOp_load))) (And.intro (And.intro @iOp_field (And.intro @iOp_bin @iOp_un)) (And.intro (And.intro @iOp_len @iOp_call) (And.intro @iCallV_yield @iK_eq)))))
structure IHyp (P:Program) (l:Nat) (xs:List (List AV)) (J Jx:List (List AV) → (Nat → Prop) → (Nat → Prop) → World → Prop):Prop where
 keep:∀ pre T M M' W W',J pre T M W → BelowX M W.heap.size W W' → (∀ b,M' b → M b ∨ (W.heap.size≤b ∧ b<W'.heap.size)) → J pre (grow T W W') M' W'
 keepx:∀ pre T M M' W W',Jx pre T M W → BelowX M W.heap.size W W' → (∀ b,M' b → M b ∨ (W.heap.size≤b ∧ b<W'.heap.size)) → Jx pre (grow T W W') M' W'
 round:∀ pre x T M W (vs:Array Value),J pre T M W → (pre ++ [x]) <+: xs → vs.size=x.length → (∀ (j:Nat) (v:Value) (av:AV),vs[j]? = some v → x[j]? = some av → RT W (fun b=>T b ∧ ¬ M b) v av) →
   YieldAt Fence.wide 0 P l vs W fun e W'=>(e=.returned (.bool true) ∧ J (pre ++ [x]) T M W' ∧ Kept T W W') ∨ (e=.returned (.bool false) ∧ Jx (pre ++ [x]) T M W' ∧ Kept T W W')
def JJ (J Jx:List (List AV) → (Nat → Prop) → (Nat → Prop) → World → Prop) (g:IG) (T M:Nat → Prop) (W:World):Prop:=match g.2 with | true=>J g.1 T M W | false=>Jx g.1 T M W
def xOf (T:Nat → Prop) (W:World) (b:Nat):Prop:=b<W.heap.size ∧ ¬ T b
structure IAmb (T0:Nat → Prop) (W0:World) (T:Nat → Prop):Prop where
 amb:Amb W0
 tab0:∀ b,b<ambD → T0 b
 tab:∀ b,b<ambD → T b
def cxI (T0:Nat → Prop) (W0:World) (T:Nat → Prop) (W:World) (hq:IAmb T0 W0 T):Cx:=⟨T0,W0,xOf T W,hq.amb,fun b hb=>Nat.le_of_not_lt fun h=>hb.2 (hq.tab b h),hq.tab0⟩
def ownB (tab:ATab) (L:Nat → Value) (b:Nat):Prop:=∃ id o,tab.get id=some o ∧ vblk (L id)=some b
def ISt (T0:Nat → Prop) (W0:World) (J Jx:List (List AV) → (Nat → Prop) → (Nat → Prop) → World → Prop) (g:IG) (st:ASt) (a:Act) (W:World):Prop:=
 ∃ (T:Nat → Prop) (hqq:IAmb T0 W0 T) (L:Nat → Value),Conc (cxI T0 W0 T W hqq) a W st L ∧ a.defers=[] ∧ (∀ b,T b → b<W.heap.size) ∧ JJ J Jx g T (ownB st.tab L) W
section
variable {P:Program} {l:Nat} {xs:List (List AV)} {T0:Nat → Prop} {W0:World} {J Jx:List (List AV) → (Nat → Prop) → (Nat → Prop) → World → Prop} {g:IG} {st st':ASt} {a a':Act} {W W':World} {L L':Nat → Value} {T M M':Nat → Prop}
theorem xOf_grow (hs:W.heap.size≤W'.heap.size):xOf (grow T W W') W'=xOf T W:=by
 funext b
 apply propext
 unfold xOf grow
 constructor
 ·rintro ⟨h1,h2⟩
  exact ⟨Nat.lt_of_not_le fun h=>h2 (.inr ⟨h,h1⟩),fun h=>h2 (.inl h)⟩
 ·rintro ⟨h1,h2⟩
  refine ⟨by omega,fun h=>?_⟩
  rcases h with h|h
  ·exact h2 h
  ·omega
theorem IAmb.grow (hq:IAmb T0 W0 T):IAmb T0 W0 (grow T W W'):=⟨hq.amb,hq.tab0,fun b hb=>.inl (hq.tab b hb)⟩
theorem cxI_grow (hq:IAmb T0 W0 T) (hs:W.heap.size≤W'.heap.size):cxI T0 W0 (grow T W W') W' hq.grow=cxI T0 W0 T W hq:=by
 unfold cxI
 congr 1
 exact xOf_grow hs
theorem grow_self:grow T W W=T:=by
 funext b
 apply propext
 unfold grow
 constructor
 ·rintro (h | h)
  ·exact h
  ·omega
 ·exact .inl
theorem jj_keep (H:IHyp P l xs J Jx) (h:JJ J Jx g T M W) (hb:BelowX M W.heap.size W W') (hM:∀ b,M' b → M b ∨ (W.heap.size≤b ∧ b<W'.heap.size)):JJ J Jx g (grow T W W') M' W':=by
 obtain ⟨pre,b⟩:=g
 cases b
 ·exact H.keepx _ _ _ _ _ _ h hb hM
 ·exact H.keep _ _ _ _ _ _ h hb hM
theorem in_T {hqq:IAmb T0 W0 T} (h:Conc (cxI T0 W0 T W hqq) a W st L) {b:Nat} (hs:Sx (cxI T0 W0 T W hqq) W st.tab L b):T b ∧ ¬ ownB st.tab L b:=
 ⟨Classical.byContradiction fun hn=>hs.2.1.2 ⟨hs.1,hn⟩,fun ⟨id,o,h1,h2⟩=>hs.2.2 id o h1 h2⟩
theorem own_T {hqq:IAmb T0 W0 T} (h:Conc (cxI T0 W0 T W hqq) a W st L) {id:Nat} {o:AObj} {b:Nat} (h1:st.tab.get id=some o) (h2:vblk (L id)=some b):T b:=
 Classical.byContradiction fun hn=>(h.lay.ex b ⟨((h.lay.objs id o h1).ge h2).2,hn⟩).2 id o h1 h2
theorem conc_kept {hqq:IAmb T0 W0 T} (h:Conc (cxI T0 W0 T W hqq) a W st L) (hk:Kept T W W'):Conc (cxI T0 W0 T W' hqq) a W' st L:=by
 have hW:BelowX (xOf T W) W0.heap.size W0 W:=h.lay.below
 refine conc_move h rfl (fun b hs=>hk.block b (in_T h hs).1) (fun id o g h1 h2=>hk.block g (own_T h h1 h2)) (fun b hs=>⟨Nat.lt_of_lt_of_le hs.1 hk.size,⟨hs.2.1.1,fun hx=>hx.2 (in_T h hs).1⟩,hs.2.2⟩) ?_ (fun b hx=>⟨hx.1,fun id o h1 h2=>hx.2 (own_T h h1 h2)⟩)
 refine ⟨hk.os.trans hW.os,hk.tape.trans hW.tape,hk.output.trans hW.output,Nat.le_trans hW.size hk.size,fun k (hk':k<W0.heap.size) hx=>?_⟩
 have hT:T k:=Classical.byContradiction fun hn=>hx ⟨Nat.lt_of_lt_of_le hk' (Nat.le_trans hW.size hk.size),hn⟩
 exact (hk.block k hT).trans (hW.block k hk' fun hx'=>hx'.2 hT)
theorem wpIn_of_wp0 {o:Oper} {next:Act → World → Prop} {Q:Exit → Act → World → Prop} (h:o.wp P a W next Q):o.wpIn Fence.wide 0 P a W next Q:=by
 refine ⟨fun _ _=>trivial,?_⟩
 show o.uponIn Fence.wide 0 P a next Q ((execOp a.eval o).run P W)
 unfold Oper.wp at h
 generalize (execOp a.eval o).run P W=r at h
 cases r with
 | ok x w1=>
  cases x with
  | value v=>exact h
  | skip=>exact h
  | defer d=>exact h
  | enter f args=>exact ⟨fun h=>(by cases h),callsIn_wide.2 h⟩
  | row row args=>
   refine ⟨fun h=>(by cases h),fun c cs _=>?_⟩
   obtain ⟨v,w',h1,h2⟩:=h c cs
   exact ⟨v,w',h1,stepsIn_wide.2 h2⟩
  | _=>exact h.elim
 | halt x w1=>
  cases x <;> first | exact h | exact h.elim
theorem iop_ok (H:IHyp P l xs J Jx) {o:Oper} {K:IG → ASt → Prop} {Q:Exit → Act → World → Prop} (hf:fOp o=true) (h:ISt T0 W0 J Jx g st a W) (hp:iOp P l xs o K g st) :
  o.wpIn Fence.wide 0 P a W (fun a' W'=>∃ g' st',K g' st' ∧ ISt T0 W0 J Jx g' st' a' W') Q:=by
 obtain ⟨T,hqq,L,hC,hd,hT,hJ⟩:=h
 have plain:aOp P o (iK K g) st → o.wpIn Fence.wide 0 P a W (fun a' W'=>∃ g' st',K g' st' ∧ ISt T0 W0 J Jx g' st' a' W') Q:=fun hp=>by
  refine wpIn_of_wp0 (Oper.wp_mono (fun a' W' ⟨st',L',h2,h3,h4,h5⟩=>?_) (op_okF hC hp hf))
  have hW:BelowX (xOf T W) W0.heap.size W0 W:=hC.lay.below
  have hW':BelowX (xOf T W) W0.heap.size W0 W':=h3.lay.below
  refine ⟨g,st',h2,grow T W W',hqq.grow,L',by rw [cxI_grow hqq h4.size];exact h3,h5.trans hd,fun b hb'=>?_,jj_keep H hJ ⟨hW'.os.trans hW.os.symm,hW'.tape.trans hW.tape.symm,hW'.output.trans hW.output.symm,h4.size,fun k hk hn=>h4.keep k hk fun id o h6 h7=>hn ⟨id,o,h6,h7⟩⟩ fun b hb'=>?_⟩
  ·rcases hb' with hb' | hb'
   ·exact Nat.lt_of_lt_of_le (hT b hb') h4.size
   ·exact hb'.2
  ·obtain ⟨id,o,h6,h7⟩:=hb'
   rcases Nat.lt_or_ge b W.heap.size with hlt|hge
   ·obtain ⟨id2,o2,h8,h9⟩:=h4.young id o b h6 h7 hlt
    exact .inl ⟨id2,o2,h8,h9⟩
   ·exact .inr ⟨hge,((h3.lay.objs id o h6).ge h7).2⟩
 obtain ⟨dst,op,ty,pos,aft,gd⟩:=o
 unfold iOp at hp
 simp only at hp
 split at hp
 ·rename_i c
  obtain ⟨callee,args,argTypes⟩:=c
  simp only at hp
  split at hp
  ·rename_i f
   unfold iCallV at hp
   split at hp
   ·rename_i l' first caps hfv
    obtain ⟨⟨rfl,rfl,rfl⟩,⟨h1,h2,h3⟩,h4,h5⟩:=hp
    have hfe:=(eval_ok hC f).1
    rw [hfv] at hfe
    have hfe:=hfe.c_inv
    have hJ':J g.1 T (ownB st.tab L) W:=by
     unfold JJ at hJ
     rw [h1] at hJ
     exact hJ
    have hrt:∀ (j:Nat) (v:Value) (av:AV),(args.map a.eval)[j]? = some v → (args.toList.map (aEv st))[j]? = some av → RT W (fun b=>T b ∧ ¬ ownB st.tab L b) v av:=fun j v av h6 h7=>by
     rw [Array.getElem?_map] at h6
     rw [List.getElem?_map,Array.getElem?_toList] at h7
     cases hj:args[j]? with
     | none=>simp [hj] at h6
     | some x=>
      simp [hj] at h6 h7
      subst h6 h7
      have htr:=treeAL_mem h2 (aEv st x) (List.mem_map.2 ⟨x,List.mem_of_getElem? (by rw [Array.getElem?_toList];exact hj),rfl⟩)
      exact (tree_ofA (eval_ok hC x).1 htr).mono (fun _ _=>rfl) fun b hb=>in_T hC hb
    obtain ⟨fn,tmps,assign,body,hy,hR⟩:=H.round g.1 _ T _ W (args.map a.eval) hJ' h3 (by simp) hrt
    refine ⟨fun _ _=>trivial,?_⟩
    have hrun:(execOp a.eval { dst:=dst,op:=.call { callee:=.value f,args:=args,argTypes:=argTypes },type:=ty,pos:=pos,after:=aft,guard:=gd }).run P W=.ok (.round l' fn tmps assign body) W:=by
     simp [execOp,Sem.run_bind,resolve,hfe,Deferred.ofValue,invoke,hy]
    have hsem:∀ o:Oper,Oper.semAt Fence.wide.round a.eval o=execOp a.eval o:=fun o=>Oper.semAt_none _ _
    rw [hsem,hrun,Oper.uponIn_round]
    refine ⟨fun h=>(by cases h),hR.mono ?_⟩
    have hput:∀ b:Bool,∀ W',Kept T W W' → Conc (cxI T0 W0 T W' hqq) (a.put dst (.bool b)) W' (st.put dst (.c (.bool b))) L ∧ (a.put dst (.bool b)).defers=[] ∧ ∀ x,T x → x<W'.heap.size:=fun b W' hk=>
     ⟨conc_pure (conc_kept hC hk) (.tree (.c _)) trivial dst,by rw [put_defers];exact hd,fun x hx=>Nat.lt_of_lt_of_le (hT x hx) hk.size⟩
    rintro e W' (⟨rfl,hj,hk⟩ | ⟨rfl,hj,hk⟩)
    ·obtain ⟨c1,c2,c3⟩:=hput true W' hk
     exact ⟨_,_,h4,T,hqq,L,c1,c2,c3,by rw [put_tab];exact hj⟩
    ·obtain ⟨c1,c2,c3⟩:=hput false W' hk
     exact ⟨_,_,h5,T,hqq,L,c1,c2,c3,by rw [put_tab];exact hj⟩
   ·exact plain hp
  ·exact plain hp
 ·exact plain hp
theorem iops_ok (H:IHyp P l xs J Jx) {ops:Array Oper} {K:IG → ASt → Prop} {Q:Exit → Act → World → Prop} (hQ:∀ g st a W,K g st → ISt T0 W0 J Jx g st a W → Q .normal a W) :
  ∀ (s:List Oper) (g:IG) (st:ASt) (a:Act) (W:World),(∀ o ∈ s,fOp o=true) → ISt T0 W0 J Jx g st a W → iOps P l xs ops K s g st → wpListIn Fence.wide 0 P ops Q s a W
 | [],g,st,a,W,_,h,hp=>hQ g st a W hp h
 | o :: rest,g,st,a,W,hf,h,hp=>by
  unfold iOps at hp
  have hfo:=hf o (List.mem_cons_self ..)
  obtain ⟨T,hqq,L,hC,hd,hT,hJ⟩:=h
  refine wpListIn_step fun K' hK'=>?_
  rcases guard_ok hC hp o rfl with ⟨hw,st',h1,h2,e1,e2⟩|⟨hw,st',h1,h2,e1,e2⟩
  ·rw [if_pos hw]
   have hi:=iop_ok (Q:=Q) H hfo ⟨T,hqq,L,h2,hd,hT,by rw [e1];exact hJ⟩ h1
   refine ⟨hi.1,?_⟩
   have:=hi.2
   revert this
   generalize (o.semAt Fence.wide.round a.eval).run P W=r
   intro this
   have hm:∀ a' W',(∃ g' st',iOps P l xs ops K rest g' st' ∧ ISt T0 W0 J Jx g' st' a' W') → K' a' W':=fun a' W' ⟨g',st'',h3,h4⟩=>hK' a' W' (iops_ok H hQ rest g' st'' a' W' (fun o ho=>hf o (List.mem_cons_of_mem _ ho)) h4 h3)
   cases r with
   | ok x w1=>
    cases x with
    | value v=>exact hm _ _ this
    | skip=>exact hm _ _ this
    | defer d=>exact hm _ _ this
    | enter f args=>
     refine ⟨this.1,this.2.mono ?_⟩
     intro e w'' h5
     cases e with
     | returned v=>exact hm _ _ h5
     | panicked c=>exact h5
     | outgrown=>exact h5
    | row row args=>exact ⟨this.1,this.2.mono fun v w'' h5=>hm _ _ h5⟩
    | round l f tmps assign body=>
     refine ⟨this.1,this.2.mono ?_⟩
     intro e w'' h5
     cases e with
     | returned v=>exact hm _ _ h5
     | panicked c=>exact h5
     | outgrown=>exact h5
    | _=>exact this
   | halt x w1=>cases x <;> exact this
  ·rw [if_neg (by simp [hw])]
   exact ⟨fun _ _=>trivial,hK' _ _ (iops_ok H hQ rest g _ _ W (fun o ho=>hf o (List.mem_cons_of_mem _ ho)) ⟨T,hqq,L,skip_conc h2 o.dst,by rw [put_defers];exact hd,hT,by rw [put_tab,e1];exact hJ⟩ h1)⟩
def fCodeI:Code → Bool
 | .skip=>true
 | .region _ ops draw=>!draw && ops.toList.all fOp
 | .seq x y=>fCodeI x && fCodeI y
 | .cond _ x y=>fCodeI x && fCodeI y
 | .block _ x=>fCodeI x
 | .loop x=>fCodeI x
 | .exit _=>true
 | .ret=>true
 | _=>false
abbrev AfterI (T0:Nat → Prop) (W0:World) (J Jx:List (List AV) → (Nat → Prop) → (Nat → Prop) → World → Prop) (Q:Exit → IG → ASt → Prop):Exit → Act → World → Prop:=fun e a W=>∃ g st,Q e g st ∧ ISt T0 W0 J Jx g st a W
theorem ist_weak (H:IHyp P l xs J Jx) (h:ISt T0 W0 J Jx g st a W) (hw:Weak st st'):ISt T0 W0 J Jx g st' a W:=by
 obtain ⟨T,hqq,L,hC,hd,hT,hJ⟩:=h
 obtain ⟨L',hC',hS⟩:=hw _ _ _ _ hC
 refine ⟨T,hqq,L',hC',hd,hT,?_⟩
 have:=jj_keep (M':=ownB st'.tab L') (W':=W) H hJ ⟨rfl,rfl,rfl,Nat.le_refl _,fun _ _ _=>rfl⟩ fun b hb=>.inl (Classical.byContradiction fun hn=>?_)
 ·rw [grow_self] at this
  exact this
 ·obtain ⟨id,o,h1,h2⟩:=hb
  have hge:=(hC'.lay.objs id o h1).ge h2
  have hX:¬ xOf T W b:=fun hx=>(hC'.lay.ex b hx).2 id o h1 h2
  have hs:Sx (cxI T0 W0 T W hqq) W st.tab L b:=⟨hge.2,⟨.inr hge.1,hX⟩,fun id2 o2 h3 h4=>hn ⟨id2,o2,h3,h4⟩⟩
  exact (hS b hs).2.2 id o h1 h2
theorem icode_ok (H:IHyp P l xs J Jx):∀ (c:Code),fCodeI c=true → ∀ (Q:Exit → IG → ASt → Prop) (g:IG) (st:ASt) (a:Act) (W:World),ISt T0 W0 J Jx g st a W → iCode P l xs c Q g st → c.wpIn Fence.wide 0 P (AfterI T0 W0 J Jx Q) a W:=by
 intro c
 induction c with
 | skip=>exact fun _ Q g st a W h hp=>wpIn_skip ⟨g,st,hp,h⟩
 | region id ops draw=>
  intro hf Q g st a W h hp
  cases draw with
  | false=>
   simp only [fCodeI,Bool.not_false,Bool.true_and,List.all_eq_true] at hf
   exact wpIn_region_list (iops_ok H (fun g st a W h1 h2=>⟨g,st,h1,h2⟩) _ g st a W hf h hp)
  | true=>cases hf
 | seq x y ihx ihy=>
  intro hf Q g st a W h hp
  simp only [fCodeI,Bool.and_eq_true] at hf
  unfold iCode at hp
  refine wpIn_seq (wpIn_mono (ihx hf.1 _ g st a W h hp) (fun e a' W' ⟨g',st',h1,h2⟩=>?_))
  cases e with
  | normal=>exact ihy hf.2 Q g' st' a' W' h2 h1
  | _=>exact ⟨g',st',h1,h2⟩
 | cond c x y ihx ihy=>
  intro hf Q g st a W h hp
  simp only [fCodeI,Bool.and_eq_true] at hf
  unfold iCode aCond at hp
  split at hp
  ·rename_i b hb
   obtain ⟨T,hqq,L,hC,_⟩:=id h
   have hv:=(eval_ok hC c).1
   rw [hb] at hv
   have hv:=hv.c_inv
   cases b
   ·exact wpIn_cond_false hv (ihy hf.2 Q g st a W h hp)
   ·exact wpIn_cond_true hv (ihx hf.1 Q g st a W h hp)
  ·exact hp.elim
 | block id x ih=>
  intro hf Q g st a W h hp
  simp only [fCodeI] at hf
  unfold iCode at hp
  refine wpIn_block (wpIn_mono (ih hf _ g st a W h hp) (fun e a' W' ⟨g',st',h1,h2⟩=>?_))
  cases e with
  | exit id'=>
   simp only [iInBlock,Exit.inBlock] at h1 ⊢
   split
   ·rename_i e
    rw [if_pos e] at h1
    exact ⟨g',st',h1,h2⟩
   ·rename_i e
    rw [if_neg e] at h1
    exact ⟨g',st',h1,h2⟩
  | _=>exact ⟨g',st',h1,h2⟩
 | loop x ih=>
  intro hf Q g st a W h hp
  simp only [fCodeI] at hf
  unfold iCode at hp
  obtain ⟨I,μ,⟨st0,hw0,hI⟩,hr⟩:=hp
  let p:Act → World → Nat → Prop:=fun a W n=>∃ g st,I g st ∧ ISt T0 W0 J Jx g st a W ∧ μ g st=n
  refine wpIn_loop (fun a W=>∃ n,p a W n) (fun a W=>least (p a W)) ⟨_,g,st0,hI,ist_weak H h hw0,rfl⟩ fun a W hpa=>?_
  obtain ⟨⟨g,st,h1,h2,h3⟩,_⟩:=least_spec hpa
  refine wpIn_mono (ih hf _ g st a W h2 (hr g st h1)) (fun e a' W' ⟨g',st',h4,h5⟩=>?_)
  cases e with
  | normal=>
   obtain ⟨st'',hw,hI'',hlt⟩:=h4
   have hpn:p a' W' (μ g' st''):=⟨g',st'',hI'',ist_weak H h5 hw,rfl⟩
   refine ⟨⟨_,hpn⟩,?_⟩
   have:=(least_spec ⟨_,hpn⟩).2 _ hpn
   show least (p a' W')<least (p a W)
   omega
  | _=>exact ⟨g',st',h4,h5⟩
 | exit id=>exact fun _ Q g st a W h hp=>wpIn_exit ⟨g,st,hp,h⟩
 | ret=>exact fun _ Q g st a W h hp=>wpIn_ret ⟨g,st,hp,h⟩
 | _=>exact fun hf=>(by cases hf)
def iRet (xs:List (List AV)):Exit → IG → ASt → Prop
 | .normal,g,_=>(g.2=true → g.1=xs) ∧ g.1 <+: xs
 | .ret,g,_=>(g.2=true → g.1=xs) ∧ g.1 <+: xs
 | _,_,_=>False
end
theorem conc_init {S:Nat → Prop} {w:World} {vs:Array Value} {args:List AV} {n:Nat} {hqq:IAmb S w S} (hS:∀ b,S b → b<w.heap.size) (hvs:vs.size=args.length) (hn:args.length≤n) (hv:∀ (j:Nat) (v:Value) (av:AV),vs[j]? = some v → args[j]? = some av → RT w S v av) :
  Conc (cxI S w S w hqq) { tmps:=vs ++ Array.replicate (n - vs.size) undef,defers:=[] } w ⟨n,envOf 0 args,[],0⟩ (fun _=>undef):=by
 have hL:Lay (cxI S w S w hqq) w [] (fun _=>undef):=⟨belowX (Below.refl _ _),fun id o h=>(by cases h),fun id id' o o' g h=>(by cases h),fun b hb=>⟨hb.1,fun id o h=>(by cases h)⟩⟩
 refine ⟨hL,?_,Marks.nil _ _ _,fun id o h=>(by cases h),fun t=>?_⟩
 ·simp
  omega
 have e:(⟨n,envOf 0 args,[],0⟩:ASt).get t=args.getD t .any:=by
  show (if t<n then aget (envOf 0 args) t else .any)=_
  rw [aget_envOf]
  split
  ·simp
  ·simp [List.getD,List.getElem?_eq_none (show args.length≤t by omega)]
 rw [e]
 by_cases ht:t<args.length
 ·have ht':t<vs.size:=by omega
  have e2:(vs ++ Array.replicate (n - vs.size) undef).getD t undef=vs[t]:=by
   rw [Array.getD_eq_getD_getElem?,Array.getElem?_append_left ht',Array.getElem?_eq_getElem ht']
   rfl
  have e3:args.getD t .any=args[t]:=by simp [List.getD,ht]
  rw [e2,e3]
  have:=hv t _ _ (Array.getElem?_eq_getElem ht') (List.getElem?_eq_getElem ht)
  exact ⟨.tree (this.mono (fun _ _=>rfl) fun b hb=>⟨hS b hb,⟨.inl hb,fun hx=>hx.2 hb⟩,fun id o h=>by cases h⟩),this.lt 0⟩
 ·have e3:args.getD t .any=.any:=by simp [List.getD,List.getElem?_eq_none (Nat.le_of_not_lt ht)]
  rw [e3]
  exact ⟨.tree (.any _),trivial⟩
theorem aseq_of_code {P : Program} {f : FuncId} {fn : Func} {c : Code} (hf : P.funcs[f]? = some fn) (hb : fn.body = some c) (hname : (fn.name == "runtime.NumGoroutine") = false) {caps : List AV} {xs : List (List AV)} {n : Nat} (hnt : fn.ntmps = n) (hrs : fn.results = #[]) (hn : Nat.ble (caps.length + 1) n = true)
  (hc:fCodeI c=true) (ht:treeL caps) (h:∀ l,iCode P l xs c (iRet xs) ([],true) ⟨n,envOf 0 (.c (.func (.yield l) #[] #[]) :: caps),[],0⟩):ASeq P f caps xs:=by
 have hn:=Nat.le_of_ble_eq_true hn
 subst hnt
 refine ⟨enters_of hf hb hname,fun l T0 lb W0 J Jx hlb hok0 hcap hlt hkeep hkeepx hround hJ0=>?_⟩
 have hqq:IAmb T0 W0 T0:=⟨hok0.amb,hok0.tab,hok0.tab⟩
 refine callsIn_of_wp hf hb trivial ?_ rfl
 have H:IHyp P l xs J Jx:=⟨hkeep,hkeepx,hround⟩
 have hC:Conc (cxI T0 W0 T0 W0 hqq) { tmps:=(#[.func (.yield l) #[] #[]] ++ lb) ++ Array.replicate (fn.ntmps - (#[Value.func (.yield l) #[] #[]] ++ lb).size) undef,defers:=[] } W0 ⟨fn.ntmps,envOf 0 (.c (.func (.yield l) #[] #[]) :: caps),[],0⟩ (fun _=>undef):=by
  refine conc_init (args:=.c (.func (.yield l) #[] #[]) :: caps) ?_ ?_ (by simpa using hn) fun j v av h1 h2=>?_
  ·exact hlt _ _ _ _ hJ0
  ·simp
   omega
  ·cases j with
   | zero=>
    rw [Array.getElem?_append_left (by simp)] at h1
    simp at h1 h2
    subst h1
    subst h2
    exact .c _
   | succ j=>
    refine hcap j v av ?_ (by simpa using h2)
    rw [Array.getElem?_append_right (by simp)] at h1
    simpa using h1
 have hJ1:J [] T0 (ownB (⟨fn.ntmps,envOf 0 (.c (.func (.yield l) #[] #[]) :: caps),[],0⟩:ASt).tab fun _=>undef) W0:=by
  have:=hkeep [] T0 _ (ownB [] fun _=>undef) W0 W0 hJ0 ⟨rfl,rfl,rfl,Nat.le_refl _,fun _ _ _=>rfl⟩ fun b ⟨id,o,h1,_⟩=>(by cases h1)
  rw [grow_self] at this
  exact this
 refine wpIn_mono (icode_ok H c hc _ ([],true) _ _ _ ⟨T0,hqq,_,hC,rfl,hlt _ _ _ _ hJ0,hJ1⟩ (h l)) fun e a W' ⟨g,st,hq,T,hq3,L,hC',hd,_,hJ⟩=>?_
 have fin:((g.2=true → g.1=xs) ∧ g.1 <+: xs) → a.defers=[] ∧ ∃ v,(results fn a.tmps).run P W'=.ok v W' ∧ (∃ u,(Ending.returned v:Ending)=.returned u) ∧ ((∃ T M,J xs T M W') ∨ ∃ pre T M,pre <+: xs ∧ Jx pre T M W'):=fun ⟨h1,h2⟩=>by
  refine ⟨hd,.tuple #[],by simp [results,hrs],⟨_,rfl⟩,?_⟩
  obtain ⟨pre,b⟩:=g
  cases b with
  | true=>
   obtain rfl:pre=xs:=h1 rfl
   exact .inl ⟨T,_,hJ⟩
  | false=>exact .inr ⟨pre,T,_,h2,hJ⟩
 cases e with
 | normal=>exact fin hq
 | ret=>exact fin hq
 | _=>exact hq.elim
end
section
open Go.RowKit
mutual
def AV.rpz (id:Nat) (cells:List AV):AV → AV
 | .op id' i j=>if id'=id then (if i=0 then .rp (cells.drop j) else .any) else .op id' i j
 | .osl id'=>if id'=id then .any else .osl id'
 | .agg cs=>.agg (AV.rpzL id cells cs)
 | .tup cs=>.tup (AV.rpzL id cells cs)
 | .fn f cs=>.fn f (AV.rpzL id cells cs)
 | .bfn f cs=>.bfn f (AV.rpzL id cells cs)
 | .any=>.any
 | .c v=>.c v
 | .sl sz rows=>.sl sz rows
 | .rp cs=>.rp cs
def AV.rpzL (id:Nat) (cells:List AV):List AV → List AV
 | []=>[]
 | a :: l=>a.rpz id cells :: AV.rpzL id cells l
end
theorem rpzL_map (id:Nat) (cells:List AV):∀ l:List AV,AV.rpzL id cells l=l.map (·.rpz id cells)
 | []=>rfl
 | a :: l=>by rw [AV.rpzL,rpzL_map id cells l];rfl
def rpzEnv (id:Nat) (cells:List AV):List (Nat × AV) → List (Nat × AV)
 | []=>[]
 | (t,av) :: l=>(t,av.rpz id cells) :: rpzEnv id cells l
theorem rpzEnv_get (id:Nat) (cells:List AV):∀ (l:List (Nat × AV)) (t:Nat),aget (rpzEnv id cells l) t=(aget l t).rpz id cells
 | [],t=>rfl
 | (k,av) :: l,t=>by
  unfold rpzEnv aget
  split
  ·rfl
  ·exact rpzEnv_get id cells l t
def treeObj:AObj → Prop
 | .box _ cells=>treeL cells
 | .row _ _ _=>True
 | .map _=>True
 | .nest _ _ _=>False
 | .ghost _ _=>False
def treeTab (id:Nat):ATab → Prop
 | []=>True
 | (k,some o) :: l=>(k=id ∨ treeObj o) ∧ treeTab id l
 | (_,none) :: l=>treeTab id l
theorem treeTab_get {id:Nat}:∀ {l:ATab} {k:Nat} {o:AObj},treeTab id l → l.get k=some o → k=id ∨ treeObj o
 | [],k,o,_,h=>by cases h
 | (k',some oo) :: l,k,o,ht,h=>by
  rw [ATab.get_cons] at h
  split at h
  ·rename_i e
   cases h
   rw [e]
   exact ht.1
  ·exact treeTab_get ht.2 h
 | (k',none) :: l,k,o,ht,h=>by
  rw [ATab.get_cons] at h
  split at h
  ·cases h
  ·exact treeTab_get (l:=l) ht h
theorem rt_rpz {w:World} {S:Nat → Prop} {x:Value} {av:AV} (h:RT w S x av) (id:Nat) (cells:List AV):av.rpz id cells=av:=by
 induction h with
 | agg xs cs hn hr ih=>
  simp only [AV.rpz,rpzL_map,AV.agg.injEq]
  apply List.ext_getElem?
  intro j
  rw [List.getElem?_map]
  cases hj:cs[j]? with
  | none=>rfl
  | some av=>
   have hlt:j<xs.size:=by rw [hn];exact (List.getElem?_eq_some_iff.1 hj).1
   simp [ih j _ av (Array.getElem?_eq_getElem hlt) hj]
 | tup xs cs hn hr ih=>
  simp only [AV.rpz,rpzL_map,AV.tup.injEq]
  apply List.ext_getElem?
  intro j
  rw [List.getElem?_map]
  cases hj:cs[j]? with
  | none=>rfl
  | some av=>
   have hlt:j<xs.size:=by rw [hn];exact (List.getElem?_eq_some_iff.1 hj).1
   simp [ih j _ av (Array.getElem?_eq_getElem hlt) hj]
 | fn f xs cs hn hr ih=>
  simp only [AV.rpz,rpzL_map,AV.fn.injEq]
  refine ⟨trivial,?_⟩
  apply List.ext_getElem?
  intro j
  rw [List.getElem?_map]
  cases hj:cs[j]? with
  | none=>rfl
  | some av=>
   have hlt:j<xs.size:=by rw [hn];exact (List.getElem?_eq_some_iff.1 hj).1
   simp [ih j _ av (Array.getElem?_eq_getElem hlt) hj]
 | bfn f xs cs hn hr ih=>
  simp only [AV.rpz,rpzL_map,AV.bfn.injEq]
  refine ⟨trivial,?_⟩
  apply List.ext_getElem?
  intro j
  rw [List.getElem?_map]
  cases hj:cs[j]? with
  | none=>rfl
  | some av=>
   have hlt:j<xs.size:=by rw [hn];exact (List.getElem?_eq_some_iff.1 hj).1
   simp [ih j _ av (Array.getElem?_eq_getElem hlt) hj]
 | _=>rfl
theorem rpz_lt {id nx:Nat} {cells:List AV}:∀ {av:AV},av.lt nx → (av.rpz id cells).lt nx:=by
 intro av
 induction av using AV.rec (motive_2:=fun _=>True) (motive_3:=fun l=>AV.ltL nx l → AV.ltL nx (AV.rpzL id cells l)) <;> simp_all [AV.lt,AV.ltL,AV.rpz,AV.rpzL]
 ·split <;> simp_all [AV.lt]
 ·split
  ·split <;> simp [AV.lt]
  ·simp_all [AV.lt]
theorem weak_rpM {n nx:Nat} {env:List (Nat × AV)} {tab:ATab} (id:Nat) {ty:TypeId} {cells:List AV} (hid:tab.get id=some (.box ty cells)) (ht:treeML cells) (hot:treeTab id tab):Weak ⟨n,env,tab,nx⟩ ⟨n,rpzEnv id cells env,(id,none) :: tab,nx⟩:=by
 intro cx a w L h
 have hget:∀ k o,ATab.get ((id,none) :: tab) k=some o → k ≠ id ∧ tab.get k=some o:=fun k o hk=>by
  rw [ATab.get_cons] at hk
  split at hk
  ·cases hk
  ·exact ⟨by assumption,hk⟩
 have hS:∀ b,Sx cx w tab L b → Sx cx w ((id,none) :: tab) L b:=fun b hb=>⟨hb.1,hb.2.1,fun k o hk=>hb.2.2 k o (hget k o hk).2⟩
 have hK:∀ k p,Kx ((id,none) :: tab) L k=some p → k ≠ id ∧ Kx tab L k=some p:=fun k p hk=>by
  unfold Kx at *
  cases ho:ATab.get ((id,none) :: tab) k with
  | none=>simp [ho] at hk
  | some o=>
   obtain ⟨h1,h2⟩:=hget k o ho
   refine ⟨h1,?_⟩
   rw [h2]
   simpa [ho] using hk
 obtain ⟨g,cs,hL,hbg,hheap,hcs,hx⟩:=h.lay.objs id _ hid
 have hg:vblk (L id)=some g:=by rw [hL];rfl
 have hSg:Sx cx w ((id,none) :: tab) L g:=⟨(Array.getElem?_eq_some_iff.1 hheap).1,⟨.inr hbg,fun hX=>(h.lay.ex g hX).2 id _ hid hg⟩,fun k o hk hkg=>by
  obtain ⟨h1,h2⟩:=hget k o hk
  exact h1 (h.lay.sep k id o _ g h2 hid hkg hg)⟩
 have conv:∀ x av,RVx cx w tab L x av → RVx cx w ((id,none) :: tab) L x (av.rpz id cells):=fun x av hr=>by
  induction hr with
  | tree h0=>
   rw [rt_rpz h0]
   exact .tree (h0.mono (fun _ _=>rfl) hS)
  | osl x id' h0=>
   unfold AV.rpz
   split
   ·exact .tree (.any _)
   ·exact .osl x id' fun sz v e=>h0 sz v (hK id' _ e).2
  | op x id' i j h0=>
   unfold AV.rpz
   split
   ·rename_i e
    subst e
    split
    ·rename_i e
     subst e
     obtain ⟨g',hg',rfl⟩:=h0 _ _ (kx_of hid)
     rw [hg] at hg'
     cases hg'
     rw [Nat.zero_mul,Nat.zero_add]
     refine .tree (.rp g j _ (fun k=>cs[j+k]?.getD undef) hSg (fun k av hk=>?_) (fun k av hk=>?_))
     ·rw [List.getElem?_drop] at hk
      have hlt:j+k<cs.size:=by rw [hcs];exact (List.getElem?_eq_some_iff.1 hk).1
      rw [cell_of_row w g (j+k) cs ty (0,0) hheap,Array.getElem?_eq_getElem hlt]
      rfl
     ·rw [List.getElem?_drop] at hk
      have hlt:j+k<cs.size:=by rw [hcs];exact (List.getElem?_eq_some_iff.1 hk).1
      rw [Array.getElem?_eq_getElem hlt,Option.getD_some]
      exact (treeM_of (hx (j+k) _ av (Array.getElem?_eq_getElem hlt) hk).1 (treeML_mem ht (List.mem_of_getElem? hk))).mono (fun _ _=>rfl) hS
    ·exact .tree (.any _)
   ·exact .op x id' i j fun sz v e=>h0 sz v (hK id' _ e).2
  | agg xs cs' hn hr ih=>
   simp only [AV.rpz,rpzL_map]
   refine .agg xs _ (by simpa using hn) fun j x av h1 h2=>?_
   rw [List.getElem?_map] at h2
   cases hj:cs'[j]? with
   | none=>simp [hj] at h2
   | some av'=>
    simp [hj] at h2
    subst h2
    exact ih j x av' h1 hj
  | tup xs cs' hn hr ih=>
   simp only [AV.rpz,rpzL_map]
   refine .tup xs _ (by simpa using hn) fun j x av h1 h2=>?_
   rw [List.getElem?_map] at h2
   cases hj:cs'[j]? with
   | none=>simp [hj] at h2
   | some av'=>
    simp [hj] at h2
    subst h2
    exact ih j x av' h1 hj
  | fn f xs cs' hn hr ih=>
   simp only [AV.rpz,rpzL_map]
   refine .fn f xs _ (by simpa using hn) fun j x av h1 h2=>?_
   rw [List.getElem?_map] at h2
   cases hj:cs'[j]? with
   | none=>simp [hj] at h2
   | some av'=>
    simp [hj] at h2
    subst h2
    exact ih j x av' h1 hj
  | bfn f xs cs' hn hr ih=>
   simp only [AV.rpz,rpzL_map]
   refine .bfn f xs _ (by simpa using hn) fun j x av h1 h2=>?_
   rw [List.getElem?_map] at h2
   cases hj:cs'[j]? with
   | none=>simp [hj] at h2
   | some av'=>
    simp [hj] at h2
    subst h2
    exact ih j x av' h1 hj
 refine ⟨L,⟨⟨h.lay.below,fun k o hk=>?_,fun k k' o o' g' h1 h2=>h.lay.sep k k' o o' g' (hget k o h1).2 (hget k' o' h2).2,fun b hb=>⟨(h.lay.ex b hb).1,fun k o hk=>(h.lay.ex b hb).2 k o (hget k o hk).2⟩⟩,h.size,h.defers.mono (fun _ _=>rfl) hS,fun k o hk=>h.young k o (hget k o hk).2,fun t=>?_⟩,hS⟩
 ·obtain ⟨h1,h2⟩:=hget k o hk
  have ho:=h.lay.objs k o h2
  have htr:=(treeTab_get hot h2).resolve_left h1
  cases o with
  | box t cells'=>
   obtain ⟨g',cs',h3,h4,h5,h6,h7⟩:=ho
   exact ⟨g',cs',h3,h4,h5,h6,fun j x av h8 h9=>⟨.tree ((tree_of (h7 j x av h8 h9).1 (treeL_iff.1 htr av (List.mem_of_getElem? h9))).mono (fun _ _=>rfl) hS),(h7 j x av h8 h9).2⟩⟩
  | row e sz rows=>
   obtain ⟨h3,xs,h4,h5,h6⟩:=ho
   refine ⟨h3,xs,h4,h5,fun i j row av h7 h8=>?_⟩
   obtain ⟨x,hx,hr⟩:=h6 i j row av h7 h8
   exact ⟨x,hx,hr.mono (fun _ _=>rfl) hS⟩
  | map ents=>exact ho
  | nest=>exact htr.elim
  | ghost vs env=>exact htr.elim
 ·have e1:(⟨n,rpzEnv id cells env,(id,none) :: tab,nx⟩:ASt).get t=((⟨n,env,tab,nx⟩:ASt).get t).rpz id cells:=by
   unfold ASt.get
   simp only
   split
   ·exact rpzEnv_get ..
   ·simp [AV.rpz]
  rw [e1]
  exact ⟨conv _ _ (h.env t).1,rpz_lt (h.env t).2⟩
theorem treeML_of:∀ {l:List AV},treeL l → treeML l
 | [],_=>trivial
 | a :: l,h=>⟨by
   have:=h.1
   cases a <;> first | exact this | exact this.elim,treeML_of h.2⟩
theorem weak_rp {n nx:Nat} {env:List (Nat × AV)} {tab:ATab} (id:Nat) {ty:TypeId} {cells:List AV} (hid:tab.get id=some (.box ty cells)) (ht:treeL cells) (hot:treeTab id tab):Weak ⟨n,env,tab,nx⟩ ⟨n,rpzEnv id cells env,(id,none) :: tab,nx⟩:=weak_rpM id hid (treeML_of ht) hot
theorem weak_nilbox {st:ASt} (id j e sz:Nat) {t:TypeId} {cells:List AV} (hid:st.tab.get id=some (.box t cells)) (hj:cells[j]? = some (.c (.slice none 0 0))) :
  Weak st ⟨st.n,st.env,(id,some (.box t (cells.set j (.osl st.next)))) :: (st.next,some (.row e sz [])) :: st.tab,st.next+1⟩:=by
 intro cx a w L h
 have hc1:=conc_new (ob:=.row e sz []) (v:=.slice none 0 0) (x:=.slice none 0 0) (av:=.any) h (Below.refl _ _) (fun g hg=>by simp [vblk] at hg) (fun hext=>⟨by simp,[],ownsR_nil ..,by simp,by simp⟩) trivial (fun hext=>.tree (.any _)) trivial none
 have hlt:=(h.young id _ hid).1
 have hget1:ATab.get ((st.next,some (.row e sz [])) :: st.tab) id=some (.box t cells):=by rw [ATab.get_cons,if_neg (by omega)];exact hid
 generalize hL1:updL L st.next (.slice none 0 0)=L1 at hc1
 generalize ht1:(st.next,some (AObj.row e sz [])) :: st.tab=tab1 at hc1 hget1 ⊢
 have hc1:Conc cx a w ⟨st.n,st.env,tab1,st.next+1⟩ L1:=hc1
 have hnew:ATab.get tab1 st.next=some (.row e sz []):=by rw [← ht1,ATab.get_cons,if_pos rfl]
 have hLn:L1 st.next=.slice none 0 0:=by rw [← hL1];simp [updL]
 have hget:∀ k o,ATab.get ((id,some (.box t (cells.set j (.osl st.next)))) :: tab1) k=some o → ∃ o',ATab.get tab1 k=some o' ∧ o.sz=o'.sz:=fun k o hk=>by
  rw [ATab.get_cons] at hk
  split at hk
  ·rename_i e1
   cases hk
   exact ⟨_,by rw [e1];exact hget1,by simp [AObj.sz]⟩
  ·exact ⟨o,hk,rfl⟩
 have hS1:∀ b,Sx cx w tab1 L1 b → Sx cx w ((id,some (.box t (cells.set j (.osl st.next)))) :: tab1) L1 b:=fun b hb=>⟨hb.1,hb.2.1,fun k o hk=>by
  obtain ⟨o',h1,_⟩:=hget k o hk
  exact hb.2.2 k o' h1⟩
 have hK:∀ k p,Kx ((id,some (.box t (cells.set j (.osl st.next)))) :: tab1) L1 k=some p → Kx tab1 L1 k=some p:=fun k p hk=>by
  unfold Kx at *
  cases ho:ATab.get ((id,some (.box t (cells.set j (.osl st.next)))) :: tab1) k with
  | none=>simp [ho] at hk
  | some o=>
   obtain ⟨o',h1,h2⟩:=hget k o ho
   rw [h1]
   simpa [ho,h2] using hk
 have hrv:∀ {x av},RVx cx w tab1 L1 x av → av.lt (st.next+1) → RVx cx w ((id,some (.box t (cells.set j (.osl st.next)))) :: tab1) L1 x av:=fun hr hl=>hr.mono hl (fun _ _=>rfl) hS1 fun k p _ hk=>hK k p hk
 refine ⟨L1,⟨⟨hc1.lay.below,fun k o hk=>?_,fun k k' o o' g h1 h2=>?_,fun b hb=>⟨(hc1.lay.ex b hb).1,fun k o hk=>by
  obtain ⟨o',h1,_⟩:=hget k o hk
  exact (hc1.lay.ex b hb).2 k o' h1⟩⟩,hc1.size,hc1.defers.mono (fun _ _=>rfl) hS1,fun k o hk=>?_,fun t=>⟨hrv (hc1.env t).1 (hc1.env t).2,(hc1.env t).2⟩⟩,fun b hb=>hS1 b ?_⟩
 ·rw [ATab.get_cons] at hk
  split at hk
  ·rename_i e1
   cases hk
   subst e1
   obtain ⟨g,cs,h1,h2,h3,h4,h5⟩:=hc1.lay.objs _ _ hget1
   refine ⟨g,cs,h1,h2,h3,by simpa using h4,fun i x av h6 h7=>?_⟩
   rw [List.getElem?_set] at h7
   split at h7
   ·rename_i e2
    subst e2
    split at h7
    ·cases h7
     have h8:=h5 j x _ h6 hj
     refine ⟨.osl x _ fun sz' v hk=>?_,h8.2⟩
     have hk:=hK _ _ hk
     unfold Kx at hk
     rw [hnew] at hk
     simp at hk
     rw [h8.1.c_inv,← hk.2,hLn]
    ·cases h7
   ·have h8:=h5 i x av h6 h7
    exact ⟨hrv h8.1 (ltL_iff.1 (hc1.young _ _ hget1).2 _ (List.mem_of_getElem? h7)),h8.2⟩
  ·have ho:=hc1.lay.objs k o hk
   have hy:=(hc1.young k o hk).2
   cases o with
   | box t' cells'=>
    obtain ⟨g,cs,h1,h2,h3,h4,h5⟩:=ho
    exact ⟨g,cs,h1,h2,h3,h4,fun i x av h6 h7=>⟨hrv (h5 i x av h6 h7).1 (ltL_iff.1 hy _ (List.mem_of_getElem? h7)),(h5 i x av h6 h7).2⟩⟩
   | row e' sz' rows'=>
    obtain ⟨h1,xs,h2,h3,h4⟩:=ho
    refine ⟨h1,xs,h2,h3,fun i j row av h5 h6=>?_⟩
    obtain ⟨x,hx,hr⟩:=h4 i j row av h5 h6
    exact ⟨x,hx,hr.mono (fun _ _=>rfl) hS1⟩
   | map ents=>exact ho
   | nest e' sz' rows'=>
    obtain ⟨h1,xs,h2,h3,h4⟩:=ho
    refine ⟨h1,xs,h2,h3,fun i j row av h5 h6=>?_⟩
    obtain ⟨x,hx,hr⟩:=h4 i j row av h5 h6
    exact ⟨x,hx,hrv hr (ltL_iff.1 (hy row (List.mem_of_getElem? h5)) _ (List.mem_of_getElem? h6))⟩
   | ghost vs env=>exact ⟨ho.1,fun t ht=>hrv (ho.2 t ht) (envLt_aget hy t)⟩
 ·obtain ⟨o1,h3,_⟩:=hget k o h1
  obtain ⟨o2,h4,_⟩:=hget k' o' h2
  exact hc1.lay.sep k k' o1 o2 g h3 h4
 ·rw [ATab.get_cons] at hk
  split at hk
  ·rename_i e1
   cases hk
   have hy:=hc1.young id _ hget1
   refine ⟨by rw [e1];exact hy.1,ltL_iff.2 fun x hx=>?_⟩
   rcases List.mem_or_eq_of_mem_set hx with hx|rfl
   ·exact ltL_iff.1 hy.2 x hx
   ·exact Nat.lt_succ_self _
  ·exact hc1.young k o hk
 ·refine ⟨hb.1,hb.2.1,fun k o hk hg=>?_⟩
  rw [← ht1,ATab.get_cons] at hk
  rw [← hL1] at hg
  unfold updL at hg
  split at hk
  ·rename_i e1
   rw [if_pos e1] at hg
   simp [vblk] at hg
  ·rename_i e1
   rw [if_neg e1] at hg
   exact hb.2.2 k o hk hg
def aRetW (P:Program) (rs:List ResultVar) (Post:Res → Prop) (e:Exit) (st:ASt):Prop:=aTo (aRetR P rs Post e) st
theorem arel_of_weak {P : Program} (hm : P.follows .mixedOrders = true) {f : FuncId} {fn : Func} {c : Code} (hf : P.funcs[f]? = some fn) (hb : fn.body = some c) (hname : (fn.name == "runtime.NumGoroutine") = false) {args : List AV} {Post : Res → Prop} {n : Nat} (hnt : fn.ntmps = n) {rs : List ResultVar} (hrs : fn.results = rs.toArray) (hn : Nat.ble args.length n = true)
  (h:aCode P c (aRetW P rs Post) ⟨n,envOf 0 args,[],0⟩):ARel P f args Post:=
 arel_of_wp hf hb hname hnt hrs hn fun cx a w L hc=>Code.wp_mono (fun e a w ⟨st,L,⟨st',hw,h1⟩,h2⟩=>(hw _ _ _ _ h2).elim fun L' h3=>⟨st',L',h1,h3.1⟩) (code_ok hm c _ a w _ L hc h)
theorem aRnd_normal {I:List (List AV) → ASt → Prop} {Ix:Code → List (List AV) → ASt → Prop} {pre:List (List AV)} {st1 st':ASt}:aRnd I Ix pre st1 .normal st'=aTo (I pre) ⟨st1.n,st1.env,st'.tab,st'.next⟩:=rfl
theorem aRnd_ret {I:List (List AV) → ASt → Prop} {Ix:Code → List (List AV) → ASt → Prop} {pre:List (List AV)} {st1 st':ASt}:aRnd I Ix pre st1 .ret st'=aTo (Ix .ret pre) ⟨st1.n,st1.env,st'.tab,st'.next⟩:=rfl
theorem putAll_nil {st:ASt}:putAll [] st=st:=rfl
theorem putAll_cons {p:Nat} {av:AV} {l:List (Nat × AV)} {st:ASt}:putAll ((p,av) :: l) st=putAll l (st.put (some p) av):=rfl
def ruL:=(And.intro (And.intro @aRnd_normal (And.intro @aRnd_ret @putAll_nil)) (And.intro @putAll_cons (And.intro @List.zip_cons_cons.{0,0} @List.zip_nil_left.{0,0})))
theorem retC {Post:Res → Prop} {st:ASt} {r av:AV} (h:Post ⟨r,[],0⟩) (hl:r.lt 0) (hr:r.ren []=av):∃ R,Post R ∧ R.Ok ∧ aGives R st av:=⟨_,h,⟨fun id o h=>(by cases h),hl⟩,⟨[],List.nodup_nil,hr,trivial⟩⟩
end
section
open Go.RowKit
def pairsL (E U:Nat):List (List AV):=(List.range E).flatMap fun (e:Nat)=>(List.range U).map fun (u:Nat)=>[eI (e:Int),eI (u:Int)]
theorem pairsL_succ (e U:Nat):pairsL (e+1) U=pairsL e U ++ (List.range U).map fun (u:Nat)=>[eI (e:Int),eI (u:Int)]:=by
 unfold pairsL
 rw [List.range_succ,List.flatMap_append]
 simp
theorem pairsL_pre {E U:Nat}:∀ {e:Nat},e≤E → pairsL e U <+: pairsL E U:=by
 intro e h
 obtain ⟨k,rfl⟩:∃ k,E=e+k:=⟨E - e,by omega⟩
 clear h
 induction k with
 | zero=>exact List.prefix_rfl
 | succ k ih=>
  rw [← Nat.add_assoc,pairsL_succ]
  exact ih.trans (List.prefix_append ..)
theorem pairsL_pre2 {E U e u:Nat} (he:e<E) (hu:u≤U):pairsL e U ++ ((List.range u).map fun (u:Nat)=>[eI (e:Int),eI (u:Int)]) <+: pairsL E U:=by
 refine List.IsPrefix.trans ?_ (pairsL_pre (e:=e+1) he)
 rw [pairsL_succ]
 refine List.prefix_append_right_inj _ |>.2 ?_
 refine List.IsPrefix.map _ ?_
 rw [List.prefix_iff_eq_take]
 simp [List.take_range,Nat.min_eq_left hu]
theorem pairsL_snoc (e u U:Nat):(pairsL e U ++ ((List.range u).map fun (u:Nat)=>[eI (e:Int),eI (u:Int)])) ++ [[eI (e:Int),eI (u:Int)]]=pairsL e U ++ ((List.range (u+1)).map fun (u:Nat)=>[eI (e:Int),eI (u:Int)]):=by
 rw [List.range_succ,List.map_append,List.append_assoc]
 rfl
theorem pairsL_mem {E U:Nat} {x:List AV}:x ∈ pairsL E U ↔ ∃ e u:Nat,e<E ∧ u<U ∧ x=[eI (e:Int),eI (u:Int)]:=by
 unfold pairsL
 simp only [List.mem_flatMap,List.mem_range,List.mem_map]
 constructor
 ·rintro ⟨e,he,u,hu,rfl⟩
  exact ⟨e,u,he,hu,rfl⟩
 ·rintro ⟨e,u,he,hu,rfl⟩
  exact ⟨e,he,u,hu,rfl⟩
theorem pairs1_A (m:Mod) (hl:m.events.length≤1000000) (hl2:m.users.length≤1000000):ASeq Tryz.prog 159 [.rp (eMod m)] (pairsL m.events.length m.users.length):=by
 refine aseq_of_code Tryz.func159 rfl (by decide) Tryz.ntmps159 Tryz.results159 rfl (by kernel_rfl) (by simp [treeL,treeC]) fun l=>?_
 (repeat' (first | simp -implicitDefEqProofs (maxSteps:=5000000) only [ruX,↓reduceIte,reduceCtorEq,Nat.reduceLT,Nat.reduceEqDiff,Nat.reduceAdd,Nat.reduceMul,Nat.reduceSub,Nat.reduceLeDiff,Nat.reduceBEq,ruI] | refine sp (fun _=>?_) fun _=>?_))
 refine iLoop_of (fun g st=>∃ e:Nat,e≤m.events.length ∧ g=(pairsL e m.users.length,true) ∧ st=⟨24,[(0,.c (.func (.yield l) #[] #[])),(1,.rp (eMod m)),(7,eI (m.events.length:Int)),(8,eI (e:Int))],[],0⟩) (fun g st=>m.events.length - slotN st 8) ⟨_,wC,0,Nat.zero_le _,rfl,rfl⟩ ?_
 rintro _ _ ⟨e,he,rfl,rfl⟩
 by_cases he2:e<m.events.length
 ·(repeat' (first | simp -implicitDefEqProofs (maxSteps:=5000000) only [ruX,↓reduceIte,reduceCtorEq,Nat.reduceLT,Nat.reduceEqDiff,Nat.reduceAdd,Nat.reduceMul,Nat.reduceSub,Nat.reduceLeDiff,Nat.reduceBEq,ruI,he2] | refine sp (fun _=>?_) fun _=>?_))
  refine iLoop_of (fun g st=>∃ u:Nat,u≤m.users.length ∧ g=(pairsL e m.users.length ++ ((List.range u).map fun (u:Nat)=>[eI (e:Int),eI (u:Int)]),true) ∧ st=⟨24,[(0,.c (.func (.yield l) #[] #[])),(1,.rp (eMod m)),(3,eI (e:Int)),(7,eI (m.events.length:Int)),(8,eI (e:Int)),(13,eI (m.users.length:Int)),(14,eI (u:Int))],[],0⟩) (fun g st=>m.users.length - slotN st 14) ⟨_,wC,0,Nat.zero_le _,by simp,rfl⟩ ?_
  rintro _ _ ⟨u,hu,rfl,rfl⟩
  by_cases hu2:u<m.users.length
  ·have hp:=pairsL_pre2 (u:=u+1) he2 hu2
   rw [← pairsL_snoc] at hp
   (repeat' (first | simp -implicitDefEqProofs (maxSteps:=5000000) only [ruX,↓reduceIte,reduceCtorEq,Nat.reduceLT,Nat.reduceEqDiff,Nat.reduceAdd,Nat.reduceMul,Nat.reduceSub,Nat.reduceLeDiff,Nat.reduceBEq,ruI,hu2,iYield,treeAL,treeA,treeL,treeC,hp] | refine sp (fun _=>?_) fun _=>?_))
   refine ⟨?_,by simp,hp⟩
   exact iRoundI wC ⟨u+1,by omega,by rw [pairsL_snoc],rfl⟩ (by simp only [slotN,ruW,ASt.get,aget,ASt.put,↓reduceIte,reduceCtorEq,Nat.reduceLT,Nat.reduceEqDiff,Nat.reduceAdd,Nat.reduceLeDiff,eq_self,implies_true];omega)
  ·obtain rfl:u=m.users.length:=by omega
   (repeat' (first | simp -implicitDefEqProofs (maxSteps:=5000000) only [ruX,↓reduceIte,reduceCtorEq,Nat.reduceLT,Nat.reduceEqDiff,Nat.reduceAdd,Nat.reduceMul,Nat.reduceSub,Nat.reduceLeDiff,Nat.reduceBEq,ruI,hu2] | refine sp (fun _=>?_) fun _=>?_))
   exact iRoundI wC ⟨e+1,by omega,by rw [pairsL_succ],rfl⟩ (by simp only [slotN,ruW,ASt.get,aget,ASt.put,↓reduceIte,reduceCtorEq,Nat.reduceLT,Nat.reduceEqDiff,Nat.reduceAdd,Nat.reduceLeDiff,eq_self,implies_true];omega)
 ·obtain rfl:e=m.events.length:=by omega
  (repeat' (first | simp -implicitDefEqProofs (maxSteps:=5000000) only [ruX,↓reduceIte,reduceCtorEq,Nat.reduceLT,Nat.reduceEqDiff,Nat.reduceAdd,Nat.reduceMul,Nat.reduceSub,Nat.reduceLeDiff,Nat.reduceBEq,ruI,he2,iRet] | refine sp (fun _=>?_) fun _=>?_))
  exact List.prefix_rfl
theorem pairs_A (m:Mod):ADet Tryz.prog 119 [.agg (eMod m)] ⟨.fn 159 [.rp (eMod m)],[],0⟩:=by
 refine arel_of_weak mixedT Tryz.func119 rfl (by decide) Tryz.ntmps119 Tryz.results119 rfl ?_
 (repeat' (first|refine go ?_ | exact .intro | refine sp (fun _=>?_) fun _=>?_))
 refine aTo_mk ((wC:Weak _ ⟨4,[(2,.fn 159 [.op 0 0 0])],[(0,some (.box 32 (eMod m)))],1⟩).trans (weak_rp 0 (ty:=32) (cells:=eMod m) (by simp [ATab.get_cons]) (by simp [treeL,treeC]) (by simp [treeTab]))) ?_
 simp only [rpzEnv,AV.rpz,AV.rpzL,↓reduceIte,List.drop_zero]
 simp -implicitDefEqProofs (maxSteps:=5000000) only [ruX,↓reduceIte,reduceCtorEq,Nat.reduceLT,Nat.reduceEqDiff,Nat.reduceAdd,Nat.reduceMul,Nat.reduceSub,Nat.reduceLeDiff,Nat.reduceBEq]
 exact retC rfl (by simp [AV.lt,AV.ltL]) (by simp [AV.ren,AV.renL])
theorem any_A (m:Mod) (s:St) (hl:m.events.length≤1000000) (hl2:m.users.length≤1000000) (hl3:m.miles.length≤1000000) (hl4:m.sods.length≤1000000):ADet Tryz.prog 88 [.agg (eMod m),.agg (eSt s)] (val (.bool (anyM m s))):=by
 refine adet_of_code mixedT Tryz.func88 rfl (by decide) Tryz.ntmps88 Tryz.results88 rfl (val_ok _) ?_
 (repeat' (first|refine go ?_ | exact .intro | refine sp (fun _=>?_) fun _=>?_|(with_reducible refine aDraw_quiet (by kernel_rfl) ?_) | ((with_reducible apply callT (g:=119));exact (pairs_A m);exact (.inl (by simp [roL,roA,treeL,treeC])))))
 refine range_ok mixedT (fun pre st=>(∀ e u:Nat,[eI (e:Int),eI (u:Int)] ∈ pre → enabledM m s (e:Int) (u:Int)=false) ∧ st=⟨16,[(2,.op 0 0 0),(3,.op 1 0 0),(4,.op 2 0 0)],[(0,some (.box 32 (eMod m))),(1,some (.box 69 (eSt s))),(2,some (.box 4 [eB false]))],3⟩)
  (fun c pre st=>c=.ret ∧ anyM m s=true ∧ st=⟨16,[(4,.op 2 0 0)],[(2,some (.box 4 [eB true]))],3⟩) (by simp -implicitDefEqProofs (maxSteps:=5000000) only [ruX,↓reduceIte,reduceCtorEq,Nat.reduceLT,Nat.reduceEqDiff,Nat.reduceAdd,Nat.reduceMul,Nat.reduceSub,Nat.reduceLeDiff,Nat.reduceBEq]) (by simp [treeL,treeC]) (pairs1_A m hl hl2) (fun x hx=>by obtain ⟨e,u,_,_,rfl⟩:=pairsL_mem.1 hx;rfl) (by kernel_rfl) (by kernel_rfl) (aTo_mk wC ⟨by simp,rfl⟩) ?_ ?_ ?_
 ·rintro pre x _ hp ⟨hpre,rfl⟩
  obtain ⟨e,u,he,hu,rfl⟩:=pairsL_mem.1 (hp.subset (show x ∈ pre ++ [x] by simp))
  (repeat' (first | simp -implicitDefEqProofs (maxSteps:=5000000) only [ruX,↓reduceIte,reduceCtorEq,Nat.reduceLT,Nat.reduceEqDiff,Nat.reduceAdd,Nat.reduceMul,Nat.reduceSub,Nat.reduceLeDiff,Nat.reduceBEq,ruL] | refine sp (fun _=>?_) fun _=>?_|(with_reducible refine aDraw_quiet (by kernel_rfl) ?_)|((with_reducible first|apply callV (g:=85)|apply callD (g:=85));exact (enabled_A m s (e:Int) (u:Int) (by omega) (by omega)))))
  ·rename_i hen
   exact aTo_mk wC ⟨(anyN_iff _ _).2 ⟨e,he,(anyN_iff _ _).2 ⟨u,hu,hen⟩⟩,rfl⟩
  ·rename_i hen
   refine aTo_mk wC ⟨fun e' u' hm=>?_,rfl⟩
   rcases List.mem_append.1 hm with hm|hm
   ·exact hpre e' u' hm
   ·simp at hm
    obtain ⟨h1,h2⟩:=hm
    rw [h1,h2]
    exact hen
 ·rintro _ ⟨hpre,rfl⟩
  (repeat' (first | simp -implicitDefEqProofs (maxSteps:=5000000) only [ruX,↓reduceIte,reduceCtorEq,Nat.reduceLT,Nat.reduceEqDiff,Nat.reduceAdd,Nat.reduceMul,Nat.reduceSub,Nat.reduceLeDiff,Nat.reduceBEq,ruL] | refine sp (fun _=>?_) fun _=>?_|(with_reducible refine aDraw_quiet (by kernel_rfl) ?_)))
  symm
  rw [Bool.eq_false_iff]
  intro ha
  obtain ⟨e,he,ha⟩:=(anyN_iff _ _).1 ha
  obtain ⟨u,hu,ha⟩:=(anyN_iff _ _).1 ha
  rw [hpre e u (pairsL_mem.2 ⟨e,u,he,hu,rfl⟩)] at ha
  cases ha
 ·rintro _ pre _ hp ⟨rfl,ha,rfl⟩
  (repeat' (first | simp -implicitDefEqProofs (maxSteps:=5000000) only [ruX,↓reduceIte,reduceCtorEq,Nat.reduceLT,Nat.reduceEqDiff,Nat.reduceAdd,Nat.reduceMul,Nat.reduceSub,Nat.reduceLeDiff,Nat.reduceBEq,ruL] | refine sp (fun _=>?_) fun _=>?_|(with_reducible refine aDraw_quiet (by kernel_rfl) ?_)))
  exact ha.symm
end
section
open Go.RowKit
theorem completeR_A (m:Mod) (s:St) (hl:m.miles.length≤1000000) (hd:ok64 s.don):ADet Tryz.prog 164 [.agg (eMod m),.agg (eSt s)] (val (.bool (completeM m s))):=by
 refine adet_of_code mixedT Tryz.func164 rfl (by decide) Tryz.ntmps164 Tryz.results164 rfl (val_ok _) ?_
 (repeat' (first|refine go ?_ | exact .intro | refine sp (fun _=>?_) fun _=>?_|(with_reducible refine aDraw_quiet (by kernel_rfl) ?_)))
 unfold completeM
 refine aLoop_of (fun st=>∃ k:Nat,k≤m.miles.length ∧ anyN (completeAt m s) k=false ∧ st=⟨25,[(2,.op 0 0 0),(3,.op 1 0 0),(5,eI (k:Int))],[(0,some (.box 32 (eMod m))),(1,some (.box 69 (eSt s)))],2⟩) (fun st=>m.miles.length - slotN st 5) ⟨_,wC,0,Nat.zero_le _,rfl,rfl⟩ ?_
 rintro _ ⟨k,hk,hI,rfl⟩
 by_cases hlt:k<m.miles.length
 ·have eF:completeAt m s k=(m.miles[k].final && hasB s.don (k:Int)):=by simp [completeAt,hlt]
  (repeat' (first|refine go ?_|simp only [row_at,hlt] | exact .intro | refine sp (fun _=>?_) fun _=>?_|(with_reducible refine aDraw_quiet (by kernel_rfl) ?_)|((with_reducible first|apply callV (g:=123)|apply callD (g:=123));exact (hasR_A _ _ hd))))
  all_goals first
   | (symm;refine anyN_yes hlt ?_;rw [eF];grind)
   | exact rI wC ⟨k+1,by omega,anyN_step hI (by rw [eF];grind),rfl⟩
   | trace_state
 ·obtain rfl:k=m.miles.length:=by omega
  (repeat' (first|refine ge @hlt ?_ | exact .intro | refine sp (fun _=>?_) fun _=>?_|(with_reducible refine aDraw_quiet (by kernel_rfl) ?_)))
  exact hI.symm
theorem in17_A (n most:Int):ADet Tryz.prog 163 [eI n,eI most] (val (.bool (inB n most))):=by
 refine adet_of_code mixedT Tryz.func163 rfl (by decide) Tryz.ntmps163 Tryz.results163 rfl (val_ok _) ?_
 unfold inB
 (repeat' (first|refine go ?_ | exact .intro | refine sp (fun _=>?_) fun _=>?_))
 all_goals grind
theorem freeR_A (m:Mod) (s:St) (event user:Int) (hl:m.miles.length≤1000000) (ho:ok64 s.opn) (hd:ok64 s.don) (hr:∀ p ∈ m.roles,ok64 p.2):ADet Tryz.prog 128 [.agg (eMod m),.agg (eSt s),eI event,eI user] (val (.bool (freeM m s event user))):=by
 refine adet_of_code mixedT Tryz.func128 rfl (by decide) Tryz.ntmps128 Tryz.results128 rfl (val_ok _) ?_
 by_cases h:0≤event ∧ event<(m.events.length:Int)
 ·obtain ⟨k,rfl⟩:∃ k:Nat,event=(k:Int):=⟨event.toNat,by omega⟩
  have hk:k<m.events.length:=by omega
  obtain ⟨x,hx⟩:∃ x,m.events[k]=x:=⟨_,rfl⟩
  have ee:evAt m (k:Int)=some x:=by simp [evAt,hk,hx]
  have eR:freeM m s k user=(!completeM m s && decide (x.stage<(m.stages.length:Int)) && hasB s.opn x.stage && ofR m x.role user && (decide (x.times≤0) || decide (atI s.cnt k<x.times))):=by simp only [freeM,ee]
  have eN:¬ 0≤x.stage → hasB s.opn x.stage=false:=fun h=>hasB_out _ _ (by omega)
  rw [eR]
  by_cases hc:k<s.cnt.length
  ·have eA:atI s.cnt k=s.cnt[k]:=by simp [atI,hc]
   by_cases hro:0≤x.role ∧ x.role<(m.roles.length:Int)
   ·obtain ⟨q,hq⟩:∃ q:Nat,x.role=(q:Int):=⟨x.role.toNat,by omega⟩
    have hq2:q<m.roles.length:=by omega
    have eO:ofR m x.role user=(decide (0≤user) && decide (user<(m.users.length:Int)) && hasB m.roles[q].2 user):=by simp [ofR,hq,hq2]
    have hrq:=hr _ (List.getElem_mem hq2)
    rw [eA,eO]
    unfold inB at *
    (repeat' (first|refine go ?_|simp only [row_at,hk,hx,hc,hq,hq2] | exact .intro | refine sp (fun _=>?_) fun _=>?_|(with_reducible refine aDraw_quiet (by kernel_rfl) ?_)|((with_reducible first|apply callV (g:=123)|apply callD (g:=123));exact (hasR_A _ _ ho))|((with_reducible first|apply callV (g:=123)|apply callD (g:=123));exact (hasR_A _ _ hrq))|((with_reducible first|apply callV (g:=164)|apply callD (g:=164));exact (completeR_A _ _ hl hd))|((with_reducible first|apply callV (g:=163)|apply callD (g:=163));exact (in17_A _ _))))
    all_goals (unfold inB at *;grind)
   ·have eO:ofR m x.role user=false:=by
     have:(decide (0≤x.role) && decide (x.role<(m.roles.length:Int)))=false:=by
      rw [Bool.and_eq_false_iff]
      simp only [decide_eq_false_iff_not]
      omega
     simp [ofR,this]
    have eI':inB x.role (m.roles.length:Int)=false:=by unfold inB;grind
    rw [eA,eO]
    (repeat' (first|refine go ?_|simp only [row_at,hk,hx,hc,eI'] | exact .intro | refine sp (fun _=>?_) fun _=>?_|(with_reducible refine aDraw_quiet (by kernel_rfl) ?_)|((with_reducible first|apply callV (g:=123)|apply callD (g:=123));exact (hasR_A _ _ ho))|((with_reducible first|apply callV (g:=164)|apply callD (g:=164));exact (completeR_A _ _ hl hd))|((with_reducible first|apply callV (g:=163)|apply callD (g:=163));exact (in17_A _ _))))
    all_goals (unfold inB at *;grind)
  ·have eA:atI s.cnt k=0:=by simp [atI];omega
   by_cases hro:0≤x.role ∧ x.role<(m.roles.length:Int)
   ·obtain ⟨q,hq⟩:∃ q:Nat,x.role=(q:Int):=⟨x.role.toNat,by omega⟩
    have hq2:q<m.roles.length:=by omega
    have eO:ofR m x.role user=(decide (0≤user) && decide (user<(m.users.length:Int)) && hasB m.roles[q].2 user):=by simp [ofR,hq,hq2]
    have hrq:=hr _ (List.getElem_mem hq2)
    rw [eA,eO]
    (repeat' (first|refine go ?_|simp only [row_at,hk,hx,hc,hq,hq2] | exact .intro | refine sp (fun _=>?_) fun _=>?_|(with_reducible refine aDraw_quiet (by kernel_rfl) ?_)|((with_reducible first|apply callV (g:=123)|apply callD (g:=123));exact (hasR_A _ _ ho))|((with_reducible first|apply callV (g:=123)|apply callD (g:=123));exact (hasR_A _ _ hrq))|((with_reducible first|apply callV (g:=164)|apply callD (g:=164));exact (completeR_A _ _ hl hd))|((with_reducible first|apply callV (g:=163)|apply callD (g:=163));exact (in17_A _ _))))
    all_goals (unfold inB at *;grind)
   ·have eO:ofR m x.role user=false:=by
     have:(decide (0≤x.role) && decide (x.role<(m.roles.length:Int)))=false:=by
      rw [Bool.and_eq_false_iff]
      simp only [decide_eq_false_iff_not]
      omega
     simp [ofR,this]
    have eI':inB x.role (m.roles.length:Int)=false:=by unfold inB;grind
    rw [eA,eO]
    (repeat' (first|refine go ?_|simp only [row_at,hk,hx,hc,eI'] | exact .intro | refine sp (fun _=>?_) fun _=>?_|(with_reducible refine aDraw_quiet (by kernel_rfl) ?_)|((with_reducible first|apply callV (g:=123)|apply callD (g:=123));exact (hasR_A _ _ ho))|((with_reducible first|apply callV (g:=164)|apply callD (g:=164));exact (completeR_A _ _ hl hd))|((with_reducible first|apply callV (g:=163)|apply callD (g:=163));exact (in17_A _ _))))
    all_goals (unfold inB at *;grind)
 ·have ee:evAt m event=none:=by
   unfold evAt
   split
   ·exact List.getElem?_eq_none (by omega)
   ·rfl
  have eR:freeM m s event user=false:=by simp only [freeM,ee]
  have eI':inB event (m.events.length:Int)=false:=by unfold inB;grind
  rw [eR]
  (repeat' (first|refine ge eI' ?_ | exact .intro | refine sp (fun _=>?_) fun _=>?_|(with_reducible refine aDraw_quiet (by kernel_rfl) ?_)|((with_reducible first|apply callV (g:=163)|apply callD (g:=163));exact (in17_A _ _))))
end
section
open Go.RowKit
theorem hadR_A (s:St) (event user:Int) (hd:∀ x ∈ s.did,ok64 x):ADet Tryz.prog 129 [.agg (eSt s),eI event,eI user] (val (.bool (hasB (atI s.did event) user))):=by
 refine adet_of_code mixedT Tryz.func129 rfl (by decide) Tryz.ntmps129 Tryz.results129 rfl (val_ok _) ?_
 by_cases h:0≤event ∧ event<(s.did.length:Int)
 ·obtain ⟨k,rfl⟩:∃ k:Nat,event=(k:Int):=⟨event.toNat,by omega⟩
  have hk:k<s.did.length:=by omega
  have eA:atI s.did k=s.did[k]:=by simp [atI,hk]
  have eI':inB (k:Int) (s.did.length:Int)=true:=by unfold inB;simp;omega
  rw [eA]
  (repeat' (first|refine go ?_|simp only [row_at,hk,eI'] | exact .intro | refine sp (fun _=>?_) fun _=>?_|(with_reducible refine aDraw_quiet (by kernel_rfl) ?_)|((with_reducible first|apply callV (g:=163)|apply callD (g:=163));exact (in17_A _ _))|((with_reducible first|apply callV (g:=123)|apply callD (g:=123));exact (hasR_A _ _ (hd _ (List.getElem_mem hk))))))
 ·have eA:atI s.did event=0:=by unfold atI;rw [if_neg h]
  have eI':inB event (s.did.length:Int)=false:=by unfold inB;grind
  have eB':hasB 0 user=false:=by simp [hasB]
  rw [eA,eB']
  (repeat' (first|refine ge eI' ?_ | exact .intro | refine sp (fun _=>?_) fun _=>?_|(with_reducible refine aDraw_quiet (by kernel_rfl) ?_)|((with_reducible first|apply callV (g:=163)|apply callD (g:=163));exact (in17_A _ _))))
theorem enabledR_A (m:Mod) (s:St) (event user:Int) (hl:m.miles.length≤1000000) (hl2:m.sods.length≤1000000) (ho:ok64 s.opn) (hd:ok64 s.don) (hr:∀ p ∈ m.roles,ok64 p.2) (hdid:∀ x ∈ s.did,ok64 x):ADet Tryz.prog 96 [.agg (eMod m),.agg (eSt s),eI event,eI user] (val (.bool (enabledM m s event user))):=by
 refine adet_of_code mixedT Tryz.func96 rfl (by decide) Tryz.ntmps96 Tryz.results96 rfl (val_ok _) ?_
 unfold enabledM
 cases hfr:freeM m s event user with
 | false=>
  (repeat' (first|refine ge @hfr ?_ | exact .intro | refine sp (fun _=>?_) fun _=>?_|(with_reducible refine aDraw_quiet (by kernel_rfl) ?_)|((with_reducible first|apply callV (g:=128)|apply callD (g:=128));exact (freeR_A m s event user hl ho hd hr))))
  rfl
 | true=>
  (repeat' (first|refine ge @hfr ?_ | exact .intro | refine sp (fun _=>?_) fun _=>?_|(with_reducible refine aDraw_quiet (by kernel_rfl) ?_)|((with_reducible first|apply callV (g:=128)|apply callD (g:=128));exact (freeR_A m s event user hl ho hd hr))))
  unfold apartM
  refine aLoop_of (fun st=>∃ k:Nat,k≤m.sods.length ∧ anyN (apartAt m s event user) k=false ∧ st=⟨57,[(2,eI event),(3,eI user),(4,.op 0 0 0),(5,.op 1 0 0),(9,eI (k:Int))],[(0,some (.box 32 (eMod m))),(1,some (.box 69 (eSt s)))],2⟩) (fun st=>m.sods.length - slotN st 9) ⟨_,wC,0,Nat.zero_le _,rfl,rfl⟩ ?_
  rintro _ ⟨k,hk,hI,rfl⟩
  by_cases hlt:k<m.sods.length
  ·obtain ⟨⟨a,b⟩,hx⟩:∃ x,m.sods[k]=x:=⟨_,rfl⟩
   have ex:eII m.sods[k]=[eI a,eI b]:=by rw [hx]
   have eF:apartAt m s event user k=(((a == event) && hasB (atI s.did b) user) || ((b == event) && hasB (atI s.did a) user)):=by simp [apartAt,hlt,hx]
   (repeat' (first|refine ge @hlt ?_ | exact .intro | refine sp (fun _=>?_) fun _=>?_))
   refine aDraw_held [] [0,1,2,3,4,5,6,7,8,9,10,11] (.exec 12 (.exec 13 .done)) (by kernel_rfl) (by simp [ATab.get_cons]) ?_
   (repeat' (first|refine go ?_|simp only [row_at,hlt,ex] | exact .intro | refine sp (fun _=>?_) fun _=>?_|(with_reducible refine aDraw_quiet (by kernel_rfl) ?_)|((with_reducible first|apply callV (g:=129)|apply callD (g:=129));exact (hadR_A s b user hdid))|((with_reducible first|apply callV (g:=129)|apply callD (g:=129));exact (hadR_A s a user hdid))))
   all_goals first
    | (rw [show anyN (apartAt m s event user) m.sods.length=true from anyN_yes hlt (by rw [eF];grind)];rfl)
    | exact rI wC ⟨k+1,by omega,anyN_step hI (by rw [eF];grind),rfl⟩
    | trace_state
  ·obtain rfl:k=m.sods.length:=by omega
   (repeat' (first|refine ge @hlt ?_ | exact .intro | refine sp (fun _=>?_) fun _=>?_|(with_reducible refine aDraw_quiet (by kernel_rfl) ?_)))
   rw [hI]
   rfl
theorem whoR_A (m:Mod) (s:St) (event:Int) (hl:m.miles.length≤1000000) (hl2:m.sods.length≤1000000) (hl3:m.users.length≤1000000) (ho:ok64 s.opn) (hd:ok64 s.don) (hr:∀ p ∈ m.roles,ok64 p.2) (hdid:∀ x ∈ s.did,ok64 x):ADet Tryz.prog 127 [.agg (eMod m),.agg (eSt s),eI event] (own 3 1 ((whoM m s event).map fun n=>[eI n])):=by
 refine adet_of_code mixedT Tryz.func127 rfl (by decide) Tryz.ntmps127 Tryz.results127 rfl (own_ok _ _ _) ?_
 (repeat' (first|refine go ?_ | exact .intro | refine sp (fun _=>?_) fun _=>?_))
 unfold whoM
 obtain ⟨f,hf⟩:∃ f:Nat → Bool,f=fun u:Nat=>enabledM m s event (u:Int):=⟨_,rfl⟩
 rw [← hf]
 have e0:filtN f 0=[]:=rfl
 refine aLoop_of (fun st=>∃ k:Nat,k≤m.users.length ∧ st=⟨26,[(2,eI event),(3,.op 0 0 0),(4,.op 1 0 0),(7,.osl 2),(8,eI (k:Int))],[(0,some (.box 32 (eMod m))),(1,some (.box 69 (eSt s))),(2,some (.row 3 1 ((filtN f k).map fun n=>[eI n])))],3⟩) (fun st=>m.users.length - slotN st 8) ⟨_,((weak_nil 7 3 1 (by simp only [ruW,ASt.get,aget,ASt.put,↓reduceIte,reduceCtorEq,Nat.reduceLT,Nat.reduceEqDiff,Nat.reduceAdd,Nat.reduceLeDiff,eq_self,implies_true,e0,List.map_nil])).trans (wS [0,1,2] e0)),0,Nat.zero_le _,rfl⟩ ?_
 rintro _ ⟨k,hk,rfl⟩
 have hlen:=filtN_len f k
 by_cases hlt:k<m.users.length
 ·have hef:enabledM m s event (k:Int)=f k:=by rw [hf]
  (repeat' (first|refine ge @hlt ?_ | exact .intro | refine sp (fun _=>?_) fun _=>?_|(with_reducible refine aDraw_quiet (by kernel_rfl) ?_) | ((refine callV (enabledR_A m s event (k:Int) hl hl2 ho hd hr hdid) ?_;rw [hef]))))
  ·rename_i h
   have et:(filtN f (k+1)).map (fun n=>[eI n])=(filtN f k).map (fun n=>[eI n]) ++ [[eI (k:Int)]]:=by
    rw [filtN,if_pos h]
    simp
   refine ⟨rfl,by omega,rI (wS [0,1,4] et) ⟨k+1,by omega,rfl⟩⟩
  ·rename_i h
   have et:filtN f (k+1)=filtN f k:=by
    rw [filtN,if_neg (by simp [h])]
   exact rI (wE et) ⟨k+1,by omega,rfl⟩
 ·obtain rfl:k=m.users.length:=by omega
  (repeat' (first|refine ge @hlt ?_ | exact .intro | refine sp (fun _=>?_) fun _=>?_|(with_reducible refine aDraw_quiet (by kernel_rfl) ?_)))
  exact aGives_own (by simp [ATab.get_cons])
theorem filtN_pos (f:Nat → Bool):∀ n,decide (0<((filtN f n).length:Int))=anyN f n
 | 0=>rfl
 | n+1=>by
  have:=filtN_pos f n
  unfold filtN anyN
  split
  ·rename_i h
   simp [h]
  ·rename_i h
   simp only [h,Bool.or_false,this]
theorem anyR_A (m:Mod) (s:St) (hle:m.events.length≤1000000) (hl:m.miles.length≤1000000) (hl2:m.sods.length≤1000000) (hl3:m.users.length≤1000000) (ho:ok64 s.opn) (hd:ok64 s.don) (hr:∀ p ∈ m.roles,ok64 p.2) (hdid:∀ x ∈ s.did,ok64 x):ADet Tryz.prog 95 [.agg (eMod m),.agg (eSt s)] (val (.bool (anyM m s))):=by
 refine adet_of_code mixedT Tryz.func95 rfl (by decide) Tryz.ntmps95 Tryz.results95 rfl (val_ok _) ?_
 (repeat' (first|refine go ?_ | exact .intro | refine sp (fun _=>?_) fun _=>?_))
 unfold anyM
 obtain ⟨f,hf⟩:∃ f:Nat → Bool,f=fun e:Nat=>anyN (fun u=>enabledM m s (e:Int) (u:Int)) m.users.length:=⟨_,rfl⟩
 rw [← hf]
 refine aLoop_of (fun st=>∃ k:Nat,k≤m.events.length ∧ anyN f k=false ∧ st=⟨19,[(2,.op 0 0 0),(3,.op 1 0 0),(5,eI (k:Int))],[(0,some (.box 32 (eMod m))),(1,some (.box 69 (eSt s)))],2⟩) (fun st=>m.events.length - slotN st 5) ⟨_,wC,0,Nat.zero_le _,rfl,rfl⟩ ?_
 rintro _ ⟨k,hk,hI,rfl⟩
 by_cases hlt:k<m.events.length
 ·have hef:decide (0<((whoM m s (k:Int)).length:Int))=f k:=by rw [hf];exact filtN_pos _ _
  (repeat' (first|refine ge @hlt ?_ | exact .intro | refine sp (fun _=>?_) fun _=>?_|(with_reducible refine aDraw_quiet (by kernel_rfl) ?_) | ((with_reducible apply callO (g:=127));exact (whoR_A m s (k:Int) hl hl2 hl3 ho hd hr hdid);exact (.inr ints_plain))))
  all_goals rename_i h
  all_goals simp only [List.length_map,hef] at h
  ·symm
   exact anyN_yes hlt h
  ·exact rI wC ⟨k+1,by omega,anyN_step hI h,rfl⟩
 ·obtain rfl:k=m.events.length:=by omega
  (repeat' (first|refine ge @hlt ?_ | exact .intro | refine sp (fun _=>?_) fun _=>?_|(with_reducible refine aDraw_quiet (by kernel_rfl) ?_)))
  exact hI.symm
end
end
section
section
open Go.RowKit
theorem firstI_nat (n:Nat):firstI (n:Int)=((2 ^ (min n 31) - 1:Nat):Int):=by
 have h1:(max 0 (min (n:Int) 31)).toNat=min n 31:=by omega
 have h2:0<2 ^ (min n 31):=Nat.two_pow_pos _
 unfold firstI
 rw [h1]
 generalize min n 31=k at *
 have:((2 ^ k:Nat):Int)=(2:Int) ^ k:=by simp
 omega
theorem ofB_bits (s:Int) (n:Nat) (hs:0≤s ∧ s<2147483648):ofB s (n:Int)=true ↔ ∀ i:Nat,n≤i → i<31 → hasB s (i:Int)=false:=by
 obtain ⟨q,rfl⟩:∃ q:Nat,s=(q:Int):=⟨s.toNat,by omega⟩
 have hq:q<2 ^ 31:=by omega
 have hl:low (q:Int)=q:=by
  simp only [low]
  omega
 unfold ofB
 rw [firstI_nat]
 have h2:0<2 ^ (min n 31):=Nat.two_pow_pos _
 constructor
 ·intro h i h3 h4
  simp at h
  have hlt:q<2 ^ (min n 31):=by omega
  rw [hasB_low _ _ h4,hl]
  refine Nat.testBit_lt_two_pow (Nat.lt_of_lt_of_le hlt ?_)
  exact Nat.pow_le_pow_right (by omega) (by omega)
 ·intro h
  have hlt:q<2 ^ (min n 31):=by
   refine Nat.lt_pow_two_of_testBit _ fun i hi=>?_
   by_cases h31:i<31
   ·have:=h i (by omega) h31
    rwa [hasB_low _ _ h31,hl] at this
   ·refine Nat.testBit_lt_two_pow (Nat.lt_of_lt_of_le hq ?_)
    exact Nat.pow_le_pow_right (by omega) (by omega)
  simp
  omega
theorem firstI_31 (n:Nat):firstI (n:Int)<2147483648:=by
 rw [firstI_nat]
 have:2 ^ (min n 31)≤2 ^ 31:=Nat.pow_le_pow_right (by omega) (by omega)
 have h2:0<2 ^ (min n 31):=Nat.two_pow_pos _
 omega
theorem ofB_31 {s:Int} {n:Nat} (h:ofB s (n:Int)=true):in31 s:=by
 unfold ofB at h
 simp at h
 have:=firstI_31 n
 unfold in31
 omega
theorem within_A (s:Int) (n:Nat) (hs:ok64 s):ADet Tryz.prog 126 [eI s,eI (n:Int)] (val (.bool (ofB s (n:Int)))):=by
  refine adet_of_code mixedT Tryz.func126 rfl (by decide) Tryz.ntmps126 Tryz.results126 rfl (val_ok _) ?_
  (repeat' (first|refine go ?_ | exact .intro | refine sp (fun _=>?_) fun _=>?_))
  refine aLoop_of (fun st=>∃ k:Nat,k≤31 ∧ (∀ i:Nat,n≤i → i<k → hasB s (i:Int)=false) ∧ st=⟨24,[(0,eI s),(1,eI (n:Int)),(5,eI (k:Int))],[],0⟩) (fun st=>31 - slotN st 5) ⟨_,wC,0,Nat.zero_le _,by simp,rfl⟩ ?_
  rintro _ ⟨k,hk,hI,rfl⟩
  by_cases hlt:k<31
  · have h31:(k:Int)<31:=by omega
    (repeat' (first|refine ge h31 ?_ | exact .intro | refine sp (fun _=>?_) fun _=>?_|(with_reducible refine aDraw_quiet (by kernel_rfl) ?_)|((with_reducible first|apply callV (g:=123)|apply callD (g:=123));exact (hasR_A _ _ hs))))
    all_goals first
      | (rename_i h1 h2
         simp at h1
         symm
         rw [Bool.eq_false_iff]
         intro hof
         have:=(ofB_bits s n (ofB_31 hof)).1 hof k (by omega) hlt
         rw [this] at h2
         cases h2)
      | (rename_i h1 h2
         simp at h1
         refine rI wC ⟨k+1,by omega,fun i hi hi2=>?_,rfl⟩
         rcases Nat.lt_or_ge i k with h3|h3
         · exact hI i hi h3
         · obtain rfl:i=k:=by omega
           exact h2)
      | (rename_i h1
         simp at h1
         refine rI wC ⟨k+1,by omega,fun i hi hi2=>?_,rfl⟩
         exact hI i hi (by omega))
      | trace_state
  · obtain rfl:k=31:=by omega
    have h31:(((31:Nat):Int)<31)=False:=by simp
    (repeat' (first|refine ge h31 ?_ | exact .intro | refine sp (fun _=>?_) fun _=>?_|(with_reducible refine aDraw_quiet (by kernel_rfl) ?_)))
    · rename_i h1
      simp at h1
      by_cases h2:s≤2147483647
      · rw [(ofB_bits s n ⟨h1,by omega⟩).2 hI]
        simp [h2]
      · have h3:ofB s (n:Int)=false:=by
          rw [Bool.eq_false_iff]
          intro hof
          have:=ofB_31 hof
          unfold in31 at this
          omega
        rw [h3]
        simp [h2]
    · rename_i h1
      simp at h1
      symm
      rw [Bool.eq_false_iff]
      intro hof
      have:=ofB_31 hof
      unfold in31 at this
      omega
theorem checkR_A (m:Mod) (s:St) (hl:m.events.length≤1000000) (ho:ok64 s.opn) (hd:ok64 s.don) (hdid:∀ x ∈ s.did,ok64 x):ADet Tryz.prog 94 [.agg (eMod m),.agg (eSt s)] (val (.bool (chkS m s))):=by
 refine adet_of_code mixedT Tryz.func94 rfl (by decide) Tryz.ntmps94 Tryz.results94 rfl (val_ok _) ?_
 by_cases hsz:s.vals.length=m.attrs.length ∧ s.did.length=m.events.length ∧ s.cnt.length=m.events.length
 ·obtain ⟨h1,h2,h3⟩:=hsz
  have n1:(((s.vals.length:Nat):Int) != ((m.attrs.length:Nat):Int))=false:=by simp [h1]
  have n2:(((s.did.length:Nat):Int) != ((m.events.length:Nat):Int))=false:=by simp [h2]
  have n3:(((s.cnt.length:Nat):Int) != ((m.events.length:Nat):Int))=false:=by simp [h3]
  have hall:chkS m s=(ofB s.opn m.stages.length && ofB s.don m.miles.length && allN (chkAt m s) m.events.length):=by simp [chkS,h1,h2,h3]
  rw [hall]
  obtain ⟨f,hf⟩:∃ f,f=chkAt m s:=⟨_,rfl⟩
  rw [← hf]
  have e0:allN f 0=true:=rfl
  have loop:∀ (b0:Bool) (k:Nat),k<m.events.length → ∀ b,(b0 && allN f k)=b → (b0 && allN f (k+1))=(b && f k):=fun b0 k hk b hb=>by
   rw [← hb]
   simp [allN,Bool.and_assoc]
  (repeat' (first|refine ge (kf n1 (kf n2 n3)) ?_ | exact .intro | refine sp (fun _=>?_) fun _=>?_|(with_reducible refine aDraw_quiet (by kernel_rfl) ?_)|((with_reducible first|apply callV (g:=126)|apply callD (g:=126));exact (within_A _ _ ho))|((with_reducible first|apply callV (g:=126)|apply callD (g:=126));exact (within_A _ _ hd))))
  ·rename_i h
   rw [h,Bool.true_and]
   obtain ⟨b0,hb0⟩:∃ b,ofB s.don m.miles.length=b:=⟨_,rfl⟩
   rw [hb0]
   refine aLoop_of (fun st=>∃ k:Nat,k≤m.events.length ∧ st=⟨86,[(2,.op 0 0 0),(3,.op 1 0 0),(5,eI (m.events.length:Int)),(6,eB (b0 && allN f k)),(7,eI (k:Int))],[(0,some (.box 32 (eMod m))),(1,some (.box 69 (eSt s)))],2⟩) (fun st=>m.events.length - slotN st 7) ⟨_,(wE (kf hb0 (kf e0 @Bool.and_true))),0,Nat.zero_le _,rfl⟩ ?_
   rintro _ ⟨k,hk,rfl⟩
   by_cases hlt:k<m.events.length
   ·have hd':k<s.did.length:=by omega
    have hc:k<s.cnt.length:=by omega
    have eF:f k=(ofB s.did[k] m.users.length && decide (0≤s.cnt[k]) && decide (s.cnt[k]≤m.events[k].times)):=by rw [hf];simp [chkAt,hd',hc,hlt]
    have hs:=loop b0 k hlt
    obtain ⟨b,hb⟩:∃ b,(b0 && allN f k)=b:=⟨_,rfl⟩
    have hs:=hs b hb
    rw [hb]
    (repeat' (first|refine go ?_|simp only [row_at,hlt,hd',hc] | exact .intro | refine sp (fun _=>?_) fun _=>?_|(with_reducible refine aDraw_quiet (by kernel_rfl) ?_)|((with_reducible first|apply callV (g:=126)|apply callD (g:=126));exact (within_A _ _ (hdid _ (List.getElem_mem hd'))))))
    ·have hv:(b0 && allN f (k+1))=decide (s.cnt[k]≤m.events[k].times):=by grind
     exact rI (wE hv) ⟨k+1,by omega,rfl⟩
    all_goals
     have hv:(b0 && allN f (k+1))=false:=by grind
     exact rI (wE hv) ⟨k+1,by omega,rfl⟩
   ·obtain rfl:k=m.events.length:=by omega
    (repeat' (first|refine ge @hlt ?_ | exact .intro | refine sp (fun _=>?_) fun _=>?_|(with_reducible refine aDraw_quiet (by kernel_rfl) ?_)))
  ·rename_i h
   rw [h]
   refine aLoop_of (fun st=>∃ k:Nat,k≤m.events.length ∧ st=⟨86,[(2,.op 0 0 0),(3,.op 1 0 0),(5,eI (m.events.length:Int)),(6,eB false),(7,eI (k:Int))],[(0,some (.box 32 (eMod m))),(1,some (.box 69 (eSt s)))],2⟩) (fun st=>m.events.length - slotN st 7) ⟨_,wC,0,Nat.zero_le _,rfl⟩ ?_
   rintro _ ⟨k,hk,rfl⟩
   by_cases hlt:k<m.events.length
   ·(repeat' (first|refine ge @hlt ?_ | exact .intro | refine sp (fun _=>?_) fun _=>?_|(with_reducible refine aDraw_quiet (by kernel_rfl) ?_)))
    all_goals first
     | exact rI wC ⟨k+1,by omega,rfl⟩
     | trace_state
   ·obtain rfl:k=m.events.length:=by omega
    (repeat' (first|refine ge @hlt ?_ | exact .intro | refine sp (fun _=>?_) fun _=>?_|(with_reducible refine aDraw_quiet (by kernel_rfl) ?_)))
    simp
 ·have hall:chkS m s=false:=by
   unfold chkS
   rw [Bool.eq_false_iff]
   simp only [ne_eq,Bool.and_eq_true,decide_eq_true_eq]
   grind
  rw [hall]
  (repeat' (first|refine go ?_ | exact .intro | refine sp (fun _=>?_) fun _=>?_|(with_reducible refine aDraw_quiet (by kernel_rfl) ?_)))
  all_goals first
   | rfl
   | (exfalso;grind)
   | trace_state
end
section
def isD (b:Nat):Bool:=decide (48≤b) && decide (b≤57)
def valL (l:List Nat):Nat:=l.foldl (fun n b=>n * 10+(b - 48)) 0
def formedL (l:List Nat):Bool:=!l.isEmpty && l.all isD
def signed (neg:Bool) (l:List Nat):Int × Int:=
 if formedL l=false then (0,17) else if (if neg=true then 9223372036854775808 else 9223372036854775807)<valL l then (0,2) else (if neg=true then -(valL l:Int) else (valL l:Int),0)
end
section
open Go.RowKit
def LI (w:World) (v:Value) (l:List Int):Prop:=
 ∃ A c,v=.slice A l.length c ∧ l.length≤c ∧ (0<l.length → ∃ b o,A=some ⟨b,o,none⟩ ∧ b<w.heap.size ∧ ∀ i (h:i<l.length),w.cell? ⟨b,o+i,none⟩=some (.int .i64 l[i]))
theorem LI.below {w w':World} {v:Value} {l:List Int} (h:LI w v l) (hb:Below w.heap.size w w'):LI w' v l:=by
 obtain ⟨A,c,rfl,hc,hr⟩:=h
 refine ⟨A,c,rfl,hc,fun hp=>?_⟩
 obtain ⟨b,o,hA,hb1,hcell⟩:=hr hp
 exact ⟨b,o,hA,Nat.lt_of_lt_of_le hb1 hb.size,fun i hi=>(hb.cell hb1).trans (hcell i hi)⟩
theorem LI.some_ {w:World} {v:Value} {l:List Int} (h:LI w v l) (hp:0<l.length):∃ b o c,v=.slice (some ⟨b,o,none⟩) l.length c ∧ l.length≤c ∧ b<w.heap.size ∧ ∀ i (h:i<l.length),w.cell? ⟨b,o+i,none⟩=some (.int .i64 l[i]):=by
 obtain ⟨A,c,rfl,hc,hr⟩:=h
 obtain ⟨b,o,rfl,hb,hcell⟩:=hr hp
 exact ⟨b,o,c,rfl,hc,hb,hcell⟩
theorem LI.at_ {w:World} {A:Option Addr} {c:Nat} {l:List Int} (h:LI w (.slice A l.length c) l) {i:Nat} (hi:i<l.length):∃ b o,A=some ⟨b,o,none⟩ ∧ b<w.heap.size ∧ w.cell? ⟨b,o+i,none⟩=some (.int .i64 l[i]):=by
 obtain ⟨A',c',e,hc,hr⟩:=h
 obtain ⟨rfl,_,rfl⟩:A=A' ∧ l.length=l.length ∧ c=c':=by simpa using e
 obtain ⟨b,o,rfl,hb,hcell⟩:=hr (by omega)
 exact ⟨b,o,rfl,hb,hcell i hi⟩
theorem LI.of_own {w:World} {base n:Nat} {v:Value} {l:List Int} (h:w.ownsRow base 2 1 v n (l.map (Value.int .i64))) (hn:n=l.length):LI w v l:=by
 subst hn
 obtain ⟨A,c,rfl,hc⟩:=own_form h
 refine ⟨A,c,rfl,hc,fun hp=>?_⟩
 obtain ⟨g,c',e,_,_,hg⟩:=own_some h hp
 obtain ⟨rfl,_,rfl⟩:A=some ⟨g,0,none⟩ ∧ l.length=l.length ∧ c=c':=by simpa using e
 exact ⟨g,0,rfl,hg,fun i hi=>by rw [Nat.zero_add];exact own_cell h rfl (by simp [hi])⟩
end
section
open Go.RowKit
def LN (B:Nat) (w:World) (v:Value) (l:List Int):Prop:=
 ∃ A c,v=.slice A l.length c ∧ l.length≤c ∧ c≤9223372036854775807 ∧ (0<l.length → ∃ b o,A=some ⟨b,o,none⟩ ∧ B≤b ∧ b<w.heap.size ∧ ∀ i (h:i<l.length),w.cell? ⟨b,o+i,none⟩=some (.int .i64 l[i]))
theorem LN.of_own {w:World} {base n:Nat} {v:Value} {l:List Int} (h:w.ownsRow base 2 1 v n (l.map (Value.int .i64))) (hn:n=l.length):LN base w v l:=by
 subst hn
 have h0:=h
 rcases h0.2 with ⟨rfl,h1⟩|⟨g,cap,cur,rfl,hb,hg,h2,h3,_⟩
 ·exact ⟨none,0,by rw [h1],by omega,by omega,fun hp=>by omega⟩
 ·refine ⟨_,cap,rfl,h2,by unfold maxLen at h3;omega,fun hp=>⟨g,0,rfl,hb,(Array.getElem?_eq_some_iff.1 hg).1,fun i hi=>?_⟩⟩
  rw [Nat.zero_add]
  exact own_cell h rfl (by simp [hi])
theorem LN.rt {B:Nat} {w:World} {S:Nat → Prop} {v:Value} {l:List Int} (h:LN B w v l) (hS:∀ b,B≤b → b<w.heap.size → S b):RT w S v (sI l):=by
 obtain ⟨A,c,rfl,h1,h2,h3⟩:=h
 have key:∀ (i j:Nat) (row:List AV) (av:AV),(l.map fun n=>[eI n])[i]? = some row → row[j]? = some av → ∃ hi:i<l.length,j=0 ∧ av=eI l[i]:=fun i j row av h4 h5=>by
  have hi:i<l.length:=by
   have:=(List.getElem?_eq_some_iff.1 h4).1
   simpa using this
  rw [List.getElem?_map,List.getElem?_eq_getElem hi] at h4
  cases h4
  match j with
  | 0=>exact ⟨hi,rfl,by simpa using h5.symm⟩
  | j+1=>simp at h5
 by_cases h0:0<l.length
 ·obtain ⟨b,o,rfl,hb,hbs,hcell⟩:=h3 h0
  refine .sl _ _ c 1 _ b o (fun i _=>.int .i64 (l.getD i 0)) (by simp) h1 h2 (fun _=>⟨rfl,hS b hb hbs⟩) (fun row hr=>by obtain ⟨n,_,rfl⟩:=List.mem_map.1 hr;rfl) (fun _ i j row av h4 h5=>?_) (fun _ _ _ _ _ _=>rfl) (fun i j row av h4 h5=>?_)
  ·obtain ⟨hi,rfl,_⟩:=key i j row av h4 h5
   rw [Nat.mul_one,Nat.add_zero,hcell i hi,List.getD_eq_getElem?_getD,List.getElem?_eq_getElem hi]
   rfl
  ·obtain ⟨hi,rfl,rfl⟩:=key i j row av h4 h5
   rw [List.getD_eq_getElem?_getD,List.getElem?_eq_getElem hi]
   exact .c _
 ·have:l=[]:=List.length_eq_zero_iff.1 (by omega)
  subst this
  exact .sl A 0 c 1 [] 0 0 (fun _ _=>undef) rfl h1 h2 (fun h=>by omega) (by simp) (fun h=>by omega) (by simp) (by simp)
theorem LI.of_rt {w:World} {S:Nat → Prop} {v:Value} {l:List Int} (h:RT w S v (sI l)) (hS:SOk w S):LI w v l:=by
 obtain ⟨A,cap,rfl,hc,hm,_,hA⟩:=h.sl_inv
 refine ⟨A,cap,by simp,by simpa using hc,fun h0=>?_⟩
 obtain ⟨b,o,rfl,hb,U,hcell,hr,_⟩:=hA (by simpa using h0)
 refine ⟨b,o,rfl,hS b hb,fun i hi=>?_⟩
 have h1:(l.map fun n=>[eI n])[i]? = some [eI l[i]]:=by simp [hi]
 have h2:=hcell i 0 _ _ h1 rfl
 have h3:=rtc (hr i 0 _ _ h1 rfl)
 rw [h3] at h2
 simpa using h2
theorem adet_of_sl {P:Program} {f:FuncId} {args:List AV} {sz:Nat} {rows:List (List AV)} (he:Enters P f)
  (h:∀ (S:Nat → Prop) (w:World) (vs:Array Value),SOk w S → vs.size=args.length → (∀ (j:Nat) (v:Value) (av:AV),vs[j]? = some v → args[j]? = some av → RT w S v av) →
   Calls P f vs w fun e w'=>∃ v,e=.returned v ∧ (∀ S',(∀ b,w.heap.size≤b → b<w'.heap.size → S' b) → RT w' S' v (.sl sz rows)) ∧ Below w.heap.size w w'):ADet P f args ⟨.sl sz rows,[],0⟩:=
 ⟨he,fun S w vs h1 h2 h3=>(h S w vs h1 h2 h3).mono fun e w' ⟨v,h4,h5,h6⟩=>⟨v,fun _=>undef,⟨.sl sz rows,[],0⟩,rfl,⟨fun id o h=>(by cases h),by simp [AV.lt]⟩,h4,⟨belowX h6,fun id o h=>(by cases h),fun id id' o o' g h=>(by cases h),fun b hb=>hb.elim⟩,.tree (h5 _ fun b hb hb2=>⟨hb2,⟨.inr hb,fun hX=>hX⟩,fun id o h=>(by cases h)⟩)⟩⟩
end
section
def insS (x:Int) (st:List Int × Bool) (y:Int):List Int × Bool:=
 ((st.1 ++ (if st.2=false ∧ x≤y then [x] else [])) ++ (if y ≠ x then [y] else []),st.2 || decide (x≤y))
def insR (x:Int) (l:List Int):List Int × Bool:=l.foldl (insS x) ([],false)
def insP (x:Int) (out:List Int):List Int:=if (insR x out).2 then (insR x out).1 else (insR x out).1 ++ [x]
def sortR (l:List Int):List Int:=l.foldl (fun out x=>insP x out) []
theorem insR_snoc (x:Int) (l:List Int) (y:Int):insR x (l ++ [y])=insS x (insR x l) y:=by simp [insR]
theorem insR_take (x:Int) (l:List Int) (k:Nat) (h:k<l.length):insR x (l.take (k+1))=insS x (insR x (l.take k)) l[k]:=by
 rw [List.take_succ_eq_append_getElem h,insR_snoc]
theorem sortR_snoc (l:List Int) (x:Int):sortR (l ++ [x])=insP x (sortR l):=by simp [sortR]
theorem sortR_take (l:List Int) (k:Nat) (h:k<l.length):sortR (l.take (k+1))=insP l[k] (sortR (l.take k)):=by
 rw [List.take_succ_eq_append_getElem h,sortR_snoc]
theorem snoc_ind {p:List Int → Prop} (h0:p []) (h1:∀ l x,p l → p (l ++ [x])) (l:List Int):p l:=by
 rw [← List.reverse_reverse l]
 induction l.reverse with
 | nil=>exact h0
 | cons x r ih=>rw [List.reverse_cons];exact h1 _ _ ih
theorem insR_len (x:Int) (l:List Int):(insR x l).1.length≤l.length+(if (insR x l).2 then 1 else 0):=by
 induction l using snoc_ind with
 | h0=>simp [insR]
 | h1 l y ih=>
  rw [insR_snoc]
  generalize insR x l=st at *
  obtain ⟨n,b⟩:=st
  cases b <;> by_cases h1:x≤y <;> by_cases h2:y=x <;> simp [insS,h1,h2] at ih ⊢ <;> omega
theorem insP_len (x:Int) (l:List Int):(insP x l).length≤l.length+1:=by
 have:=insR_len x l
 unfold insP
 split <;> rename_i h <;> simp [h] at this ⊢ <;> omega
theorem sortR_len (l:List Int):(sortR l).length≤l.length:=by
 induction l using snoc_ind with
 | h0=>simp [sortR]
 | h1 l y ih=>rw [sortR_snoc];have:=insP_len y (sortR l);simp;omega
def Up (l:List Int):Prop:=l.Pairwise (· < ·)
theorem insR_up (x:Int) (l:List Int) (h:Up l) :
  Up (insR x l).1 ∧ (∀ z,z ∈ (insR x l).1 ↔ z ∈ l ∨ ((insR x l).2=true ∧ z=x)) ∧ ((insR x l).2=true ↔ ∃ z ∈ l,x≤z) ∧ ((insR x l).2=true → x ∈ (insR x l).1):=by
 induction l using snoc_ind with
 | h0=>simp [insR,Up]
 | h1 l y ih=>
  have hl:Up l:=(List.pairwise_append.1 h).1
  have hy:∀ z ∈ l,z<y:=fun z hz=>(List.pairwise_append.1 h).2.2 z hz y (by simp)
  obtain ⟨i1,i2,i3,i4⟩:=ih hl
  rw [insR_snoc]
  generalize insR x l=st at *
  obtain ⟨n,b⟩:=st
  simp only at i1 i2 i3 i4
  cases b with
  | true=>
   obtain ⟨z,hz,hxz⟩:=i3.1 rfl
   have hxy:x<y:=by have:=hy z hz;omega
   have hne:y ≠ x:=by omega
   simp only [insS,Bool.true_or,Bool.true_eq_false,false_and,if_false,List.append_nil,if_pos hne]
   refine ⟨List.pairwise_append.2 ⟨i1,by simp,?_⟩,?_,?_,?_⟩
   ·intro a ha c hc
    rw [List.mem_singleton] at hc;subst hc
    rcases (i2 a).1 ha with h|⟨_,rfl⟩
    ·exact hy a h
    ·exact hxy
   ·intro a;simp only [List.mem_append,List.mem_singleton,i2];constructor
    ·rintro ((h | h) | h)
     ·exact .inl (.inl h)
     ·exact .inr h
     ·exact .inl (.inr h)
    ·rintro ((h | h) | h)
     ·exact .inl (.inl h)
     ·exact .inr h
     ·exact .inl (.inr h)
   ·exact ⟨fun _=>⟨z,by simp [hz],hxz⟩,fun _=>trivial⟩
   ·intro _;simp [i4 rfl]
  | false=>
   have hlow:∀ z ∈ l,z<x:=fun z hz=>by
    rcases Int.lt_or_le z x with h|h
    ·exact h
    ·exact absurd (i3.2 ⟨z,hz,h⟩) (by simp)
   have hn:∀ z,z ∈ n ↔ z ∈ l:=fun z=>by rw [i2];simp
   by_cases hxy:x≤y
   ·by_cases hne:y=x
    ·subst hne
     simp only [insS,Int.le_refl,and_self,if_true,ne_eq,not_true,if_false,List.append_nil,decide_true,Bool.or_true]
     refine ⟨List.pairwise_append.2 ⟨i1,by simp,?_⟩,?_,?_,?_⟩
     ·intro a ha c hc
      rw [List.mem_singleton] at hc;subst hc
      exact hy a ((hn a).1 ha)
     ·intro a;simp only [List.mem_append,List.mem_singleton,hn];constructor
      ·rintro (h | h)
       ·exact .inl (.inl h)
       ·exact .inl (.inr h)
      ·rintro (h | ⟨_,h⟩)
       ·exact h
       ·exact .inr h
     ·exact ⟨fun _=>⟨y,by simp,Int.le_refl _⟩,fun _=>trivial⟩
     ·intro _;simp
    ·simp only [insS,hxy,and_self,if_true,ne_eq,hne,not_false_eq_true,decide_true,Bool.or_true]
     refine ⟨?_,?_,?_,?_⟩
     ·unfold Up
      rw [List.append_assoc]
      refine List.pairwise_append.2 ⟨i1,by simp;omega,?_⟩
      intro a ha c hc
      have hal:=(hn a).1 ha
      have h1:=hlow a hal
      have h2:=hy a hal
      simp at hc
      rcases hc with rfl|rfl
      ·exact h1
      ·exact h2
     ·intro a;simp only [List.mem_append,List.mem_singleton,hn];constructor
      ·rintro ((h | h) | h)
       ·exact .inl (.inl h)
       ·exact .inr ⟨by simp,h⟩
       ·exact .inl (.inr h)
      ·rintro ((h | h) | ⟨_,h⟩)
       ·exact .inl (.inl h)
       ·exact .inr h
       ·exact .inl (.inr h)
     ·exact ⟨fun _=>⟨y,by simp,hxy⟩,fun _=>trivial⟩
     ·intro _;simp
   ·have hne:y ≠ x:=by omega
    have hd:decide (x≤y)=false:=decide_eq_false hxy
    simp only [insS,hxy,and_false,if_false,List.append_nil,if_pos hne,hd,Bool.or_false]
    refine ⟨List.pairwise_append.2 ⟨i1,by simp,?_⟩,?_,?_,?_⟩
    ·intro a ha c hc
     rw [List.mem_singleton] at hc;subst hc
     exact hy a ((hn a).1 ha)
    ·intro a;simp only [List.mem_append,List.mem_singleton,hn];simp
    ·constructor
     ·intro h;cases h
     ·rintro ⟨z,hz,hxz⟩
      rcases List.mem_append.1 hz with h|h
      ·have:=hlow z h;omega
      ·rw [List.mem_singleton] at h;subst h;exact absurd hxz hxy
    ·intro h;cases h
theorem insP_up (x:Int) (l:List Int) (h:Up l):Up (insP x l) ∧ ∀ z,z ∈ insP x l ↔ z ∈ l ∨ z=x:=by
 obtain ⟨i1,i2,i3,i4⟩:=insR_up x l h
 unfold insP
 split
 ·rename_i hb
  refine ⟨i1,fun z=>?_⟩
  rw [i2];simp [hb]
 ·rename_i hb
  have hlow:∀ z ∈ l,z<x:=fun z hz=>by
   rcases Int.lt_or_le z x with h|h
   ·exact h
   ·exact absurd (i3.2 ⟨z,hz,h⟩) hb
  have hn:∀ z,z ∈ (insR x l).1 ↔ z ∈ l:=fun z=>by rw [i2];simp [hb]
  refine ⟨List.pairwise_append.2 ⟨i1,by simp,?_⟩,fun z=>?_⟩
  ·intro a ha c hc
   rw [List.mem_singleton] at hc;subst hc
   exact hlow a ((hn a).1 ha)
  ·simp [hn]
theorem sortR_up (l:List Int):Up (sortR l) ∧ ∀ z,z ∈ sortR l ↔ z ∈ l:=by
 induction l using snoc_ind with
 | h0=>simp [sortR,Up]
 | h1 l x ih=>
  obtain ⟨h1,h2⟩:=insP_up x _ ih.1
  rw [sortR_snoc]
  exact ⟨h1,fun z=>by rw [h2,ih.2];simp⟩
theorem up_ext:∀ (a b:List Int),Up a → Up b → (∀ z,z ∈ a ↔ z ∈ b) → a=b
 | [],[],_,_,_=>rfl
 | [],y :: b,_,_,h=>by have:=(h y).2 (by simp);simp at this
 | x :: a,[],_,_,h=>by have:=(h x).1 (by simp);simp at this
 | x :: a,y :: b,ha,hb,h=>by
  have ha':=List.pairwise_cons.1 ha
  have hb':=List.pairwise_cons.1 hb
  have hxy:x=y:=by
   rcases List.mem_cons.1 ((h x).1 (by simp)) with h1|h1
   ·exact h1
   ·rcases List.mem_cons.1 ((h y).2 (by simp)) with h2 | h2
    ·exact h2.symm
    ·have:=hb'.1 x h1;have:=ha'.1 y h2;omega
  subst hxy
  rw [up_ext a b ha'.2 hb'.2 (fun z=>?_)]
  constructor
  ·intro hz
   rcases List.mem_cons.1 ((h z).1 (by simp [hz])) with h1|h1
   ·subst h1;have:=ha'.1 z hz;omega
   ·exact h1
  ·intro hz
   rcases List.mem_cons.1 ((h z).2 (by simp [hz])) with h1|h1
   ·subst h1;have:=hb'.1 z hz;omega
   ·exact h1
theorem compact_up (d:Array Int) (hs:∀ i j,i<j → j<d.size → d[i]! ≤ d[j]!) (m:Nat) (hm:m≤d.size) :
  Up (Lib.compactUpTo d m) ∧ (∀ z,z ∈ Lib.compactUpTo d m ↔ ∃ i,i<m ∧ d[i]! = z):=by
 induction m with
 | zero=>simp [Lib.compactUpTo,Up]
 | succ m ih=>
  obtain ⟨h1,h2⟩:=ih (by omega)
  rw [Lib.compactUpTo_succ]
  by_cases hk:Lib.keeps d m=true
  ·rw [if_pos hk]
   refine ⟨List.pairwise_append.2 ⟨h1,by simp,?_⟩,fun z=>?_⟩
   ·intro a ha c hc
    rw [List.mem_singleton] at hc;subst hc
    obtain ⟨i,hi,rfl⟩:=(h2 a).1 ha
    simp only [Lib.keeps,decide_eq_true_eq] at hk
    have h3:=hs (m - 1) m (by omega) (by omega)
    have h4:d[i]! ≤ d[m - 1]!:=by
     rcases Nat.lt_or_ge i (m - 1) with h|h
     ·exact hs i (m - 1) h (by omega)
     ·rw [show i=m - 1 by omega];exact Int.le_refl _
    rcases hk with h|h
    ·omega
    ·have:d[m]! ≠ d[m - 1]!:=h
     omega
   ·simp only [List.mem_append,List.mem_singleton,h2]
    constructor
    ·rintro (⟨i,hi,rfl⟩ | rfl)
     ·exact ⟨i,by omega,rfl⟩
     ·exact ⟨m,by omega,rfl⟩
    ·rintro ⟨i,hi,rfl⟩
     rcases Nat.lt_or_ge i m with h|h
     ·exact .inl ⟨i,h,rfl⟩
     ·exact .inr (by rw [show i=m by omega])
  ·rw [if_neg hk,List.append_nil]
   refine ⟨h1,fun z=>?_⟩
   rw [h2]
   simp only [Lib.keeps,decide_eq_true_eq,not_or,ne_eq,Decidable.not_not] at hk
   constructor
   ·rintro ⟨i,hi,rfl⟩;exact ⟨i,by omega,rfl⟩
   ·rintro ⟨i,hi,rfl⟩
    rcases Nat.lt_or_ge i m with h|h
    ·exact ⟨i,h,rfl⟩
    ·exact ⟨m - 1,by omega,by rw [← hk.2,show i=m by omega]⟩
def sortL (l:List Int):List Int:=Lib.compact (l.mergeSort fun x y=>decide (x≤y))
theorem sortL_eq (l:List Int):sortL l=sortR l:=by
 have hp:(l.mergeSort fun x y=>decide (x≤y)).Pairwise (fun a b=>decide (a≤b)=true):=List.pairwise_mergeSort (le:=fun x y=>decide (x≤y)) (fun a b c h1 h2=>by simp at *;omega) (fun a b=>by simp;omega) l
 have hm:∀ z,z ∈ (l.mergeSort fun x y=>decide (x≤y)) ↔ z ∈ l:=fun z=>List.mem_mergeSort
 unfold sortL Lib.compact
 generalize (l.mergeSort fun x y=>decide (x≤y))=s at *
 have hs:∀ i j,i<j → j<s.toArray.size → s.toArray[i]! ≤ s.toArray[j]!:=by
  intro i j hij hj
  have hj':j<s.length:=by simpa using hj
  have h1:=List.pairwise_iff_getElem.1 hp i j (by omega) hj' hij
  rw [getElem!_pos _ i (by simp;omega),getElem!_pos _ j hj]
  simpa using h1
 obtain ⟨h1,h2⟩:=compact_up s.toArray hs s.length (by simp)
 refine up_ext _ _ h1 (sortR_up l).1 (fun z=>?_)
 rw [h2,(sortR_up l).2,← hm]
 constructor
 ·rintro ⟨i,hi,rfl⟩
  rw [getElem!_pos _ i (by simpa using hi)]
  simp
 ·intro hz
  obtain ⟨i,hi,rfl⟩:=List.getElem_of_mem hz
  exact ⟨i,hi,by rw [getElem!_pos _ i (by simpa using hi)];simp⟩
end
section
open Go.RowKit
theorem i64InfoZ:(Tryz.prog.info? 2).map (fun i=>(i.zero,i.size,i.bytes))=some (some (.int .i64 0),1,8):=by kernel_rfl
theorem one_oneZ (n:Int):∀ u ∈ [Value.int .i64 n],u.oneCell'=true:=by intro u hu;simp at hu;subst hu;rfl
theorem cells_at_newZ (w:World) (t:TypeId) (a:Value):∀ (j:Nat) (u:Value),[a][j]? = some u → (w.alloc (.cells #[a] t)).cell? ((⟨w.heap.size,0,none⟩:Addr).add j)=some u:=fun j u h=>cells_new w [a] t j u h
theorem insS_tf (x y:Int) (n:List Int) (h:y=x):insS x (n,true) y=(n,true):=by simp [insS,h]
theorem insS_tn (x y:Int) (n:List Int) (h:y ≠ x):insS x (n,true) y=(n ++ [y],true):=by simp [insS,h]
theorem insS_fy (x y:Int) (n:List Int) (h1:x≤y) (h:y=x):insS x (n,false) y=(n ++ [x],true):=by simp [insS,h]
theorem insS_fyn (x y:Int) (n:List Int) (h1:x≤y) (h:y ≠ x):insS x (n,false) y=((n ++ [x]) ++ [y],true):=by simp [insS,h,h1]
theorem insS_fn (x y:Int) (n:List Int) (h1:¬ x≤y):insS x (n,false) y=(n ++ [y],false):=by
 have:y ≠ x:=by omega
 simp [insS,h1,this]
theorem refSortedO_any (l:List Int) (v:Value) (w:World) (hl:l.length≤100000) (h:LI w v l) :
  Calls Tryz.prog 34 #[v] w fun e w'=>∃ v',e=.returned v' ∧ w'.ownsRow w.heap.size 2 1 v' (sortR l).length ((sortR l).map (Value.int .i64)) ∧ Below w.heap.size w w':=by
 obtain ⟨i0,hi0,hz0,hz1,hz2⟩:=info_parts i64InfoZ
 have h0:=h
 obtain ⟨A,ca,rfl,hca,hr0⟩:=h0
 have H:=hide h
 clear h hr0
 go_enter Tryz.func34,Tryz.ntmps34
 go_wp2_with fail
 go_loopw [3,4] (fun ov iv wr=>∃ (k:Nat) (out:List Int),out=sortR (l.take k) ∧ k≤l.length ∧ iv=.int .i64 (k:Int) ∧ out.length≤k ∧ wr.ownsRow w.heap.size 2 1 ov out.length (out.map (Value.int .i64)) ∧ Below w.heap.size w wr)
  (fun ov iv wr=>l.length - (intOf iv).toNat)
 case atStart=>exact ⟨0,[],by simp [sortR],Nat.zero_le _,rfl,Nat.le_refl _,World.ownsRow_nil _ _ _ _,Below.refl _ _⟩
 case round=>
  obtain ⟨k,out,hout,hk,rfl,holen,hown,hbl⟩:=hrel
  obtain ⟨O,co,rfl,hco⟩:=own_form hown
  by_cases hlt:k<l.length
  ·obtain ⟨b1,o1,rfl,_,hcell⟩:=(H.out.below hbl).at_ hlt
   have hlow:b1<wr.heap.size:=by
    obtain ⟨b2,o2,e,hb2,_⟩:=(H.out.below hbl).at_ hlt
    cases e;exact hb2
   have hi:(k:Int)<(l.length:Int):=by omega
   have hst:=sortR_take l k hlt
   rw [← hout] at hst
   have Hst:=hide hst
   have LO:=hide (LI.of_own hown rfl)
   clear hst hout
   generalize l[k]=x at *
   have Hown:=hide hown
   clear hown
   go_wp2_with fail
   have hBs:w.heap.size≤wr.heap.size:=hbl.size
   have hlenX:Hid (∀ m,(insR x (out.take m)).1.length≤m+1):=hide (fun m=>by have:=insR_len x (out.take m);have h2:=List.length_take_le m out;split at this <;> omega)
   obtain ⟨W1,hW1⟩:∃ W,W=wr:=⟨wr,rfl⟩
   subst hW1
   generalize hB:W1.heap.size=B at *
   go_loopw [5,6,7] (fun nv bv jv wr=>∃ (m:Nat) (nx:List Int) (fl:Bool),insR x (out.take m)=(nx,fl) ∧ m≤out.length ∧ jv=.int .i64 (m:Int) ∧ bv=.bool fl ∧ nx.length≤m+1 ∧ wr.ownsRow B 2 1 nv nx.length (nx.map (Value.int .i64)) ∧ Below B W1 wr)
    (fun nv bv jv wr=>out.length - (intOf jv).toNat)
   case atStart=>exact ⟨0,[],false,rfl,Nat.zero_le _,rfl,rfl,Nat.zero_le _,World.ownsRow_nil _ _ _ _,by rw [← hB];exact Below.refl _ _⟩
   case round=>
    obtain ⟨m,nx,fl,hir,hm,rfl,rfl,hnl,hownn,hbli⟩:=hrel
    have hsz0:B≤wr.heap.size:=by have:=hbli.size;rw [hB] at this;exact this
    have hcx0:wr.cell? ⟨b1,o1+k,none⟩=some (.int .i64 x):=(hbli.cell (by omega)).trans hcell
    have Hownn:=hide hownn
    clear hownn
    by_cases hmlt:m<out.length
    ·obtain ⟨b2,o2,rfl,hb2l,hcell2⟩:=LO.out.at_ hmlt
     rw [hB] at hb2l
     have hmi:(m:Int)<(out.length:Int):=by omega
     have ht:=insR_take x out m hmlt
     rw [hir] at ht
     generalize out[m]=y at *
     have hcy0:wr.cell? ⟨b2,o2+m,none⟩=some (.int .i64 y):=(hbli.cell (by omega)).trans hcell2
     have hlx:=hlenX.out (m+1)
     rw [ht] at hlx
     clear hir
     by_cases hyx:y=x
     ·have h1:(y != x)=false:=by simp [hyx]
      cases fl with
      | true=>
       rw [insS_tf x y nx hyx] at ht hlx
       clear hyx
       have Ht:=hide ht
       have hlx2:=hide hlx
       clear ht hlx
       go_wp2_with fail
       go_quiet (fail)
       have Hownq1:=hide (own_below' Hownn.out (below_drewN (Below.refl _ _) nq))
       have hblq1:=below_drewN hbli nq
       generalize wr.drewN nq=W2 at *
       have hsz1:B≤W2.heap.size:=by have:=hblq1.size;rw [hB] at this;exact this
       have hcx1:W2.cell? ⟨b1,o1+k,none⟩=some (.int .i64 x):=(hblq1.cell (by omega)).trans hcell
       have hcy1:W2.cell? ⟨b2,o2+m,none⟩=some (.int .i64 y):=(hblq1.cell (by omega)).trans hcell2
       go_wp2_with fail
       go_quiet (fail)
       have Hownq2:=hide (own_below' Hownq1.out (below_drewN (Below.refl _ _) nq))
       have hblq2:=below_drewN hblq1 nq
       generalize W2.drewN nq=W3 at *
       have hsz2:B≤W3.heap.size:=by have:=hblq2.size;rw [hB] at this;exact this
       have hcx2:W3.cell? ⟨b1,o1+k,none⟩=some (.int .i64 x):=(hblq2.cell (by omega)).trans hcell
       have hcy2:W3.cell? ⟨b2,o2+m,none⟩=some (.int .i64 y):=(hblq2.cell (by omega)).trans hcell2
       go_wp2_with fail
       go_roundw
       case rel=>exact ⟨m+1,_,_,Ht.out,by omega,by go_num,rfl,hlx2.out,Hownq2.out,hblq2⟩
       case measure=>simp [intOf];omega
      | false=>
       have h2:decide (x≤y)=true:=decide_eq_true (by omega)
       rw [insS_fy x y nx (by omega) hyx] at ht hlx
       clear hyx
       have Ht:=hide ht
       have hlx2:=hide hlx
       clear ht hlx
       go_wp2_with fail
       go_quiet (fail)
       have Hownq1:=hide (own_below' Hownn.out (below_drewN (Below.refl _ _) nq))
       have hblq1:=below_drewN hbli nq
       generalize wr.drewN nq=W2 at *
       have hsz1:B≤W2.heap.size:=by have:=hblq1.size;rw [hB] at this;exact this
       have hcx1:W2.cell? ⟨b1,o1+k,none⟩=some (.int .i64 x):=(hblq1.cell (by omega)).trans hcell
       have hcy1:W2.cell? ⟨b2,o2+m,none⟩=some (.int .i64 y):=(hblq1.cell (by omega)).trans hcell2
       go_wp2_with (at_builtin;refine wpList_append_own _ rfl _ _ 23 rfl B 2 i0 (.int .i64 0) 1 8 Tryz.underlying23 hi0 hz0 hz1 hz2 rfl (by decide) _ _ _ rfl (Hownq1.out.alloc _) ⟨W2.heap.size,0,none⟩ 1 1 [.int .i64 x] rfl rfl (cells_at_newZ _ _ _) (one_oneZ _) (by unfold maxLen;first | omega | (simp;omega)) (by first | omega | (simp;omega)) (by simp;omega) ?_;intro v2 w2 hown2 hg2 _)
       have hbl2:Below B W1 w2:=(hblq1.alloc hsz1 _).grown hg2 (by simp;omega) (fun j hj=>(World.ownsRow.lt Hownq1.out j hj).1)
       have hcx2:w2.cell? ⟨b1,o1+k,none⟩=some (.int .i64 x):=(hbl2.cell (by omega)).trans hcell
       have hcy2:w2.cell? ⟨b2,o2+m,none⟩=some (.int .i64 y):=(hbl2.cell (by omega)).trans hcell2
       have hsz2:B≤w2.heap.size:=(by have:=hbl2.size;rw [hB] at this;exact this)
       rw [show (nx).map (Value.int .i64) ++ [Value.int .i64 x]=(nx ++ [x]).map (Value.int .i64) by simp,show (nx).length+1=(nx ++ [x]).length by simp] at hown2
       have Hown2:=hide hown2
       clear hown2 hg2
       go_quiet (fail)
       have Hownq3:=hide (own_below' Hown2.out (below_drewN (Below.refl _ _) nq))
       have hblq3:=below_drewN hbl2 nq
       generalize w2.drewN nq=W4 at *
       have hsz3:B≤W4.heap.size:=by have:=hblq3.size;rw [hB] at this;exact this
       have hcx3:W4.cell? ⟨b1,o1+k,none⟩=some (.int .i64 x):=(hblq3.cell (by omega)).trans hcell
       have hcy3:W4.cell? ⟨b2,o2+m,none⟩=some (.int .i64 y):=(hblq3.cell (by omega)).trans hcell2
       go_wp2_with fail
       go_roundw
       case rel=>exact ⟨m+1,_,_,Ht.out,by omega,by go_num,rfl,hlx2.out,Hownq3.out,hblq3⟩
       case measure=>simp [intOf];omega
     ·have h1:(y != x)=true:=by simp [hyx]
      cases fl with
      | true=>
       rw [insS_tn x y nx hyx] at ht hlx
       clear hyx
       have Ht:=hide ht
       have hlx2:=hide hlx
       clear ht hlx
       go_wp2_with fail
       go_quiet (fail)
       have Hownq1:=hide (own_below' Hownn.out (below_drewN (Below.refl _ _) nq))
       have hblq1:=below_drewN hbli nq
       generalize wr.drewN nq=W2 at *
       have hsz1:B≤W2.heap.size:=by have:=hblq1.size;rw [hB] at this;exact this
       have hcx1:W2.cell? ⟨b1,o1+k,none⟩=some (.int .i64 x):=(hblq1.cell (by omega)).trans hcell
       have hcy1:W2.cell? ⟨b2,o2+m,none⟩=some (.int .i64 y):=(hblq1.cell (by omega)).trans hcell2
       go_wp2_with fail
       go_quiet (fail)
       have Hownq2:=hide (own_below' Hownq1.out (below_drewN (Below.refl _ _) nq))
       have hblq2:=below_drewN hblq1 nq
       generalize W2.drewN nq=W3 at *
       have hsz2:B≤W3.heap.size:=by have:=hblq2.size;rw [hB] at this;exact this
       have hcx2:W3.cell? ⟨b1,o1+k,none⟩=some (.int .i64 x):=(hblq2.cell (by omega)).trans hcell
       have hcy2:W3.cell? ⟨b2,o2+m,none⟩=some (.int .i64 y):=(hblq2.cell (by omega)).trans hcell2
       go_wp2_with (at_builtin;refine wpList_append_own _ rfl _ _ 23 rfl B 2 i0 (.int .i64 0) 1 8 Tryz.underlying23 hi0 hz0 hz1 hz2 rfl (by decide) _ _ _ rfl (Hownq2.out.alloc _) ⟨W3.heap.size,0,none⟩ 1 1 [.int .i64 y] rfl rfl (cells_at_newZ _ _ _) (one_oneZ _) (by unfold maxLen;first | omega | (simp;omega)) (by first | omega | (simp;omega)) (by simp;omega) ?_;intro v3 w3 hown3 hg3 _)
       have hbl3:Below B W1 w3:=(hblq2.alloc hsz2 _).grown hg3 (by simp;omega) (fun j hj=>(World.ownsRow.lt Hownq2.out j hj).1)
       have hcx3:w3.cell? ⟨b1,o1+k,none⟩=some (.int .i64 x):=(hbl3.cell (by omega)).trans hcell
       have hcy3:w3.cell? ⟨b2,o2+m,none⟩=some (.int .i64 y):=(hbl3.cell (by omega)).trans hcell2
       have hsz3:B≤w3.heap.size:=(by have:=hbl3.size;rw [hB] at this;exact this)
       rw [show (nx).map (Value.int .i64) ++ [Value.int .i64 y]=(nx ++ [y]).map (Value.int .i64) by simp,show (nx).length+1=(nx ++ [y]).length by simp] at hown3
       have Hown3:=hide hown3
       clear hown3 hg3
       go_roundw
       case rel=>exact ⟨m+1,_,_,Ht.out,by omega,by go_num,rfl,hlx2.out,Hown3.out,hbl3⟩
       case measure=>simp [intOf];omega
      | false=>
       by_cases hxy:x≤y
       ·have h2:decide (x≤y)=true:=decide_eq_true hxy
        rw [insS_fyn x y nx hxy hyx] at ht hlx
        clear hyx hxy
        have Ht:=hide ht
        have hlx2:=hide hlx
        clear ht hlx
        go_wp2_with fail
        go_quiet (fail)
        have Hownq1:=hide (own_below' Hownn.out (below_drewN (Below.refl _ _) nq))
        have hblq1:=below_drewN hbli nq
        generalize wr.drewN nq=W2 at *
        have hsz1:B≤W2.heap.size:=by have:=hblq1.size;rw [hB] at this;exact this
        have hcx1:W2.cell? ⟨b1,o1+k,none⟩=some (.int .i64 x):=(hblq1.cell (by omega)).trans hcell
        have hcy1:W2.cell? ⟨b2,o2+m,none⟩=some (.int .i64 y):=(hblq1.cell (by omega)).trans hcell2
        go_wp2_with (at_builtin;refine wpList_append_own _ rfl _ _ 23 rfl B 2 i0 (.int .i64 0) 1 8 Tryz.underlying23 hi0 hz0 hz1 hz2 rfl (by decide) _ _ _ rfl (Hownq1.out.alloc _) ⟨W2.heap.size,0,none⟩ 1 1 [.int .i64 x] rfl rfl (cells_at_newZ _ _ _) (one_oneZ _) (by unfold maxLen;first | omega | (simp;omega)) (by first | omega | (simp;omega)) (by simp;omega) ?_;intro v2 w2 hown2 hg2 _)
        have hbl2:Below B W1 w2:=(hblq1.alloc hsz1 _).grown hg2 (by simp;omega) (fun j hj=>(World.ownsRow.lt Hownq1.out j hj).1)
        have hcx2:w2.cell? ⟨b1,o1+k,none⟩=some (.int .i64 x):=(hbl2.cell (by omega)).trans hcell
        have hcy2:w2.cell? ⟨b2,o2+m,none⟩=some (.int .i64 y):=(hbl2.cell (by omega)).trans hcell2
        have hsz2:B≤w2.heap.size:=(by have:=hbl2.size;rw [hB] at this;exact this)
        rw [show (nx).map (Value.int .i64) ++ [Value.int .i64 x]=(nx ++ [x]).map (Value.int .i64) by simp,show (nx).length+1=(nx ++ [x]).length by simp] at hown2
        have Hown2:=hide hown2
        clear hown2 hg2
        go_quiet (fail)
        have Hownq3:=hide (own_below' Hown2.out (below_drewN (Below.refl _ _) nq))
        have hblq3:=below_drewN hbl2 nq
        generalize w2.drewN nq=W4 at *
        have hsz3:B≤W4.heap.size:=by have:=hblq3.size;rw [hB] at this;exact this
        have hcx3:W4.cell? ⟨b1,o1+k,none⟩=some (.int .i64 x):=(hblq3.cell (by omega)).trans hcell
        have hcy3:W4.cell? ⟨b2,o2+m,none⟩=some (.int .i64 y):=(hblq3.cell (by omega)).trans hcell2
        go_wp2_with (at_builtin;refine wpList_append_own _ rfl _ _ 23 rfl B 2 i0 (.int .i64 0) 1 8 Tryz.underlying23 hi0 hz0 hz1 hz2 rfl (by decide) _ _ _ rfl (Hownq3.out.alloc _) ⟨W4.heap.size,0,none⟩ 1 1 [.int .i64 y] rfl rfl (cells_at_newZ _ _ _) (one_oneZ _) (by unfold maxLen;first | omega | (simp;omega)) (by first | omega | (simp;omega)) (by simp;omega) ?_;intro v4 w4 hown4 hg4 _)
        have hbl4:Below B W1 w4:=(hblq3.alloc hsz3 _).grown hg4 (by simp;omega) (fun j hj=>(World.ownsRow.lt Hownq3.out j hj).1)
        have hcx4:w4.cell? ⟨b1,o1+k,none⟩=some (.int .i64 x):=(hbl4.cell (by omega)).trans hcell
        have hcy4:w4.cell? ⟨b2,o2+m,none⟩=some (.int .i64 y):=(hbl4.cell (by omega)).trans hcell2
        have hsz4:B≤w4.heap.size:=(by have:=hbl4.size;rw [hB] at this;exact this)
        rw [show (nx ++ [x]).map (Value.int .i64) ++ [Value.int .i64 y]=(nx ++ [x] ++ [y]).map (Value.int .i64) by simp,show (nx ++ [x]).length+1=(nx ++ [x] ++ [y]).length by simp] at hown4
        have Hown4:=hide hown4
        clear hown4 hg4
        go_roundw
        case rel=>exact ⟨m+1,_,_,Ht.out,by omega,by go_num,rfl,hlx2.out,Hown4.out,hbl4⟩
        case measure=>simp [intOf];omega
       ·have h2:decide (x≤y)=false:=decide_eq_false hxy
        rw [insS_fn x y nx hxy] at ht hlx
        clear hyx hxy
        have Ht:=hide ht
        have hlx2:=hide hlx
        clear ht hlx
        go_wp2_with fail
        go_quiet (fail)
        have Hownq1:=hide (own_below' Hownn.out (below_drewN (Below.refl _ _) nq))
        have hblq1:=below_drewN hbli nq
        generalize wr.drewN nq=W2 at *
        have hsz1:B≤W2.heap.size:=by have:=hblq1.size;rw [hB] at this;exact this
        have hcx1:W2.cell? ⟨b1,o1+k,none⟩=some (.int .i64 x):=(hblq1.cell (by omega)).trans hcell
        have hcy1:W2.cell? ⟨b2,o2+m,none⟩=some (.int .i64 y):=(hblq1.cell (by omega)).trans hcell2
        go_wp2_with fail
        go_quiet (fail)
        have Hownq2:=hide (own_below' Hownq1.out (below_drewN (Below.refl _ _) nq))
        have hblq2:=below_drewN hblq1 nq
        generalize W2.drewN nq=W3 at *
        have hsz2:B≤W3.heap.size:=by have:=hblq2.size;rw [hB] at this;exact this
        have hcx2:W3.cell? ⟨b1,o1+k,none⟩=some (.int .i64 x):=(hblq2.cell (by omega)).trans hcell
        have hcy2:W3.cell? ⟨b2,o2+m,none⟩=some (.int .i64 y):=(hblq2.cell (by omega)).trans hcell2
        go_wp2_with (at_builtin;refine wpList_append_own _ rfl _ _ 23 rfl B 2 i0 (.int .i64 0) 1 8 Tryz.underlying23 hi0 hz0 hz1 hz2 rfl (by decide) _ _ _ rfl (Hownq2.out.alloc _) ⟨W3.heap.size,0,none⟩ 1 1 [.int .i64 y] rfl rfl (cells_at_newZ _ _ _) (one_oneZ _) (by unfold maxLen;first | omega | (simp;omega)) (by first | omega | (simp;omega)) (by simp;omega) ?_;intro v3 w3 hown3 hg3 _)
        have hbl3:Below B W1 w3:=(hblq2.alloc hsz2 _).grown hg3 (by simp;omega) (fun j hj=>(World.ownsRow.lt Hownq2.out j hj).1)
        have hcx3:w3.cell? ⟨b1,o1+k,none⟩=some (.int .i64 x):=(hbl3.cell (by omega)).trans hcell
        have hcy3:w3.cell? ⟨b2,o2+m,none⟩=some (.int .i64 y):=(hbl3.cell (by omega)).trans hcell2
        have hsz3:B≤w3.heap.size:=(by have:=hbl3.size;rw [hB] at this;exact this)
        rw [show (nx).map (Value.int .i64) ++ [Value.int .i64 y]=(nx ++ [y]).map (Value.int .i64) by simp,show (nx).length+1=(nx ++ [y]).length by simp] at hown3
        have Hown3:=hide hown3
        clear hown3 hg3
        go_roundw
        case rel=>exact ⟨m+1,_,_,Ht.out,by omega,by go_num,rfl,hlx2.out,Hown3.out,hbl3⟩
        case measure=>simp [intOf];omega
    ·obtain rfl:m=out.length:=by omega
     rw [List.take_length] at hir
     have hil:=insP_len x out
     cases fl with
     | true=>
      have hP:insP x out=nx:=by unfold insP;rw [hir];rfl
      rw [hP] at Hst hil
      have hol2:=hide (show nx.length≤k+1 by omega)
      clear hir hP hil
      go_wp2_with fail
      go_roundw
      case rel=>exact ⟨k+1,_,Hst.out.symm,by omega,by go_num,hol2.out,own_base Hownn.out hBs,(hbl.trans (hbli.mono hBs))⟩
      case measure=>simp [intOf];omega
     | false=>
      have hP:insP x out=nx ++ [x]:=by unfold insP;rw [hir];rfl
      rw [hP] at Hst hil
      have hol2:=hide (show (nx ++ [x]).length≤k+1 by omega)
      clear hir hP hil
      go_wp2_with (at_builtin;refine wpList_append_own _ rfl _ _ 23 rfl B 2 i0 (.int .i64 0) 1 8 Tryz.underlying23 hi0 hz0 hz1 hz2 rfl (by decide) _ _ _ rfl (Hownn.out.alloc _) ⟨wr.heap.size,0,none⟩ 1 1 [.int .i64 x] rfl rfl (cells_at_newZ _ _ _) (one_oneZ _) (by unfold maxLen;first | omega | (simp;omega)) (by first | omega | (simp;omega)) (by simp;omega) ?_;intro v1 w1 hown1 hg1 _)
      have hbl1:Below B W1 w1:=(hbli.alloc hsz0 _).grown hg1 (by simp;omega) (fun j hj=>(World.ownsRow.lt Hownn.out j hj).1)
      have hcx1:w1.cell? ⟨b1,o1+k,none⟩=some (.int .i64 x):=(hbl1.cell (by omega)).trans hcell
      have hsz1:B≤w1.heap.size:=(by have:=hbl1.size;rw [hB] at this;exact this)
      rw [show (nx).map (Value.int .i64) ++ [Value.int .i64 x]=(nx ++ [x]).map (Value.int .i64) by simp,show (nx).length+1=(nx ++ [x]).length by simp] at hown1
      have Hown1:=hide hown1
      clear hown1 hg1
      go_roundw
      case rel=>exact ⟨k+1,_,Hst.out.symm,by omega,by go_num,hol2.out,own_base Hown1.out hBs,(hbl.trans (hbl1.mono hBs))⟩
      case measure=>simp [intOf];omega
  ·obtain rfl:k=l.length:=by omega
   rw [List.take_length] at hout
   have Ho:=hide hout
   have Hown:=hide hown
   clear hown hout
   go_wp2_with fail
   go_ret
   rw [← Ho.out]
   exact ⟨_,rfl,Hown.out,hbl⟩
theorem refSorted_any (l:List Int) (v:Value) (w:World) (hl:l.length≤100000) (h:LI w v l) :
  Calls Tryz.prog 34 #[v] w fun e w'=>∃ v',e=.returned v' ∧ LN w.heap.size w' v' (sortR l) ∧ Below w.heap.size w w':=
 (refSortedO_any l v w hl h).mono fun e w' ⟨v',h1,h2,h3⟩=>⟨v',h1,LN.of_own h2 rfl,h3⟩
end
section
open Go.RowKit Go.Sort
theorem i64Info:(Tryz.prog.info? 2).map (fun i=>(i.zero,i.size,i.bytes))=some (some (.int .i64 0),1,8):=by kernel_rfl
end
section
open Go.RowKit Go.Sort
theorem compact_len (S:List Int):(Lib.compact S).length≤S.length:=by
 unfold Lib.compact Lib.compactUpTo
 rw [List.length_map]
 have:=List.length_filter_le (Lib.keeps S.toArray) (List.range S.length)
 simpa using this
theorem clone0_any (A:Option Addr) (c:Nat) (w:World) :
  Calls Tryz.prog 83 #[.slice A 0 c] w fun e w'=>(∃ A' c',e=.returned (.slice A' 0 c') ∧ c'≤9223372036854775807) ∧ Below w.heap.size w w':=by
 cases A with
 | none=>exact (Tryz.slices_Clone_nil 0 c w).mono (by rintro e w' ⟨rfl,rfl⟩;exact ⟨⟨_,_,rfl,by decide⟩,Below.refl _ _⟩)
 | some a=>
  obtain ⟨i0,hi0,hz0,hz1,hz2⟩:=info_parts i64Info
  have q22:∀ (w:World) (a:Option Addr) (n c n' c':Nat),(binOp .eql 23 (.slice a n c) (.slice none n' c')).run Tryz.prog w=.ok (.bool a.isNone) w:=fun w a n c n' c'=>Lib.run_eql_slice_nil w _ _ a n c n' c' Tryz.underlying23
  go_enter Tryz.func83,Tryz.ntmps83
  go_wp2_with fail
  go_ret
  exact ⟨⟨_,_,rfl,by decide⟩,(Below.refl _ _).alloc (Nat.le_refl _) _⟩
theorem ins0_any (A:Option Addr) (c:Nat) (w:World) :
  Calls Tryz.prog 148 #[.slice A 0 c,.int .i64 0,.int .i64 0] w fun e w'=>e=.returned (.tuple #[]) ∧ Below w.heap.size w w':=by
 go_enter Tryz.func148,Tryz.ntmps148
 go_wp2_with fail
 go_loopw [6] (fun i wr=>i=.int .i64 1 ∧ Below w.heap.size w wr) (fun i wr=>0)
 case atStart=>exact ⟨rfl,Below.refl _ _⟩
 case round=>
  obtain ⟨rfl,hbl⟩:=hrel
  go_wp2_with fail
  go_end0
  exact ⟨rfl,hbl⟩
theorem pdq0_any (A:Option Addr) (c:Nat) (L:Int) (w:World) :
  Calls Tryz.prog 117 #[.slice A 0 c,.int .i64 0,.int .i64 0,.int .i64 L] w fun e w'=>e=.returned (.tuple #[]) ∧ Below w.heap.size w w':=by
 go_enter Tryz.func117,Tryz.ntmps117
 go_wp2_with fail
 go_loopw [1,2] (fun a b wr=>a=.int .i64 0 ∧ b=.int .i64 0 ∧ Below w.heap.size w wr) (fun a b wr=>0)
 case atStart=>exact ⟨rfl,rfl,Below.refl _ _⟩
 case round=>
  obtain ⟨rfl,rfl,hbl⟩:=hrel
  have h:=ins0_any A c wr
  go_wp2_with fail
  refine h.mono ?_
  rintro e w2 ⟨rfl,hb2⟩
  go_wp2_with fail
  refine bodyPost_ret (results_none rfl _ _ _) rfl ?_
  exact ⟨rfl,hbl.trans (hb2.mono hbl.size)⟩
theorem sort0_any (A:Option Addr) (c:Nat) (w:World) :
  Calls Tryz.prog 86 #[.slice A 0 c] w fun e w'=>e=.returned (.tuple #[]) ∧ Below w.heap.size w w':=by
 have h1:=Tryz.bits_Len 0 w (by decide) (by decide)
 generalize Lib.bitLen (0:Int).toNat=L at *
 have h2:=pdq0_any A c L w
 go_enter Tryz.func86,Tryz.ntmps86
 go_wp2_with fail
 refine h1.mono ?_
 rintro e w2 ⟨rfl,rfl⟩
 go_wp2_with fail
 refine h2.mono ?_
 rintro e w3 ⟨rfl,hb⟩
 go_wp2_with fail
 go_end0
 exact ⟨rfl,hb⟩
theorem numSorted0_any (v:Value) (w:World) (h:LI w v []) :
  Calls Tryz.prog 52 #[v] w fun e w'=>∃ v',e=.returned v' ∧ LN w.heap.size w' v' (sortL []) ∧ Below w.heap.size w w':=by
 obtain ⟨A,c,rfl,hc,_⟩:=h
 have h1:=clone0_any A c w
 simp only [List.length_nil]
 go_enter Tryz.func52,Tryz.ntmps52
 go_wp2_with fail
 refine h1.mono ?_
 rintro e w2 ⟨⟨A',c',rfl,hc9⟩,hb2⟩
 have h2:=sort0_any A' c' w2
 go_wp2_with fail
 refine h2.mono ?_
 rintro e w3 ⟨rfl,hb3⟩
 have h3:=Tryz.slices_Compact_int_empty A' c' w3
 go_wp2_with fail
 refine h3.mono ?_
 rintro e w4 ⟨rfl,rfl⟩
 go_wp2_with fail
 go_ret
 rw [show sortL []=[] by simp [sortL,Lib.compact,Lib.compactUpTo]]
 exact ⟨_,rfl,⟨A',c',rfl,Nat.zero_le _,hc9,fun h=>absurd h (by simp)⟩,hb2.trans (hb3.mono hb2.size)⟩
end
section
open Go.RowKit Go.Sort
theorem numSorted1_any (l:List Int) (v:Value) (w:World) (hl:l.length≤1000000) (hp:0<l.length) (h:LI w v l) :
  Calls Tryz.prog 52 #[v] w fun e w'=>∃ v',e=.returned v' ∧ LN w.heap.size w' v' (sortL l) ∧ Below w.heap.size w w':=by
 obtain ⟨i0,hi0,hz0,hz1,hz2⟩:=info_parts i64Info
 obtain ⟨b,o,c,rfl,hc,hb,hcell⟩:=h.some_ hp
 have h1:=Tryz.slices_Clone i0 (.int .i64 0) 1 8 hi0 hz0 hz1 hz2 rfl (by decide) Tryz.sizeOf2 b o l.length c (l.map (Value.int .i64)) w (by simp) (by unfold maxLen;omega) (by omega)
  (fun j u hj=>by
   rw [List.getElem?_map] at hj
   rcases Nat.lt_or_ge j l.length with hlt|hge
   ·rw [List.getElem?_eq_getElem hlt] at hj
    obtain rfl:Value.int .i64 l[j]=u:=by simpa using hj
    exact hcell j hlt
   ·rw [List.getElem?_eq_none hge] at hj;simp at hj)
  (fun u hu=>by obtain ⟨x,_,rfl⟩:=List.mem_map.1 hu;rfl)
 have H1:=hide h1
 clear h1
 unfold sortL
 have hSl:(l.mergeSort fun x y=>decide (x≤y)).length=l.length:=List.length_mergeSort ..
 generalize hSd:(l.mergeSort fun x y=>decide (x≤y))=S at *
 have HSd:=hide hSd
 have HSl:=hide hSl
 clear hSd hSl
 go_enter Tryz.func52,Tryz.ntmps52
 go_wp2_with fail
 refine H1.out.mono ?_
 rintro e w1 ⟨v',rfl,hown,hnn,hb1⟩
 obtain ⟨_,⟨_,hn0⟩|⟨g,cap,cur,rfl,hbase,hblk,hn,hcap,hcs,htake⟩⟩:=hown
 ·omega
 rw [Nat.mul_one] at htake
 have hg:g<w1.heap.size:=(Array.getElem?_eq_some_iff.1 hblk).1
 have hH:=holds_of_blockI hblk htake
 have h2:=Tryz.slices_Sort_int g 0 cap l w1 hH hg (by omega)
 rw [HSd.out] at h2
 have H2:=hide h2
 clear h2 H1 hH
 go_wp2_with fail
 refine H2.out.mono ?_
 rintro e w2 ⟨rfl,n,os,rfl⟩
 have hSl:=HSl.out
 have hown2:=ownsRow_sortedI (n:=n) (os:=os) (ts:=S) hSl hbase hblk hn hcap hcs
 have hgr2:=grownBy_sortedI (w:=w1) (g:=g) (n:=n) (os:=os) S.toArray
 generalize Go.Sort.grow (putRow (Value.int .i64) (Sort.ahead w1 n) g 0 S.toArray) os=w2 at *
 have hb2:Below w.heap.size w w2:=hb1.grown hgr2 hb1.size (fun j hj=>by cases hj;exact hbase)
 obtain ⟨_,⟨hx,_⟩|⟨g',cap',cur2,hv,_,hblk2,_,_,hcs2,htake2⟩⟩:=hown2
 ·cases hx
 cases hv
 rw [Nat.mul_one,← hSl] at htake2
 have hg2:g<w2.heap.size:=(Array.getElem?_eq_some_iff.1 hblk2).1
 have hH2:=holds_of_blockI hblk2 htake2
 have h3:=Tryz.slices_Compact_int g 0 cap S w2 hH2 (by omega) (by omega)
 rw [hSl] at h3
 have H3:=hide h3
 have hcl:=compact_len S
 clear h3 H2 hH2
 go_wp2_with fail
 refine H3.out.mono ?_
 rintro e w3 ⟨rfl,q,hw3⟩
 have hown3:=ownsRow_sortedI (n:=q) (os:=#[]) (ss:=S) (ts:=Lib.compact S ++ List.replicate (S.length - (Lib.compact S).length) 0) (by simp;omega) hbase hblk2 (by omega) hcap hcs2
 have hgr3:=grownBy_sortedI (w:=w2) (g:=g) (n:=q) (os:=#[]) (Lib.compact S ++ List.replicate (S.length - (Lib.compact S).length) 0).toArray
 rw [grow_empty] at hown3 hgr3
 rw [hSl] at hown3 hgr3
 rw [← hw3] at hown3 hgr3
 have hb3:Below w.heap.size w w3:=hb2.grown hgr3 hb2.size (fun j hj=>by cases hj;exact hbase)
 have hLI:LN w.heap.size w3 (.slice (some ⟨g,0,none⟩) (Lib.compact S).length cap) (Lib.compact S):=by
  refine ⟨_,_,rfl,by omega,by unfold maxLen at hcap;omega,fun _=>⟨g,0,rfl,hbase,?_,fun i hi=>?_⟩⟩
  ·have:=hgr3.size;omega
  ·rw [Nat.zero_add]
   exact own_cell hown3 rfl (by rw [List.getElem?_map,List.getElem?_append_left hi,List.getElem?_eq_getElem hi];rfl)
 clear hw3 H3 hown3 hgr3 hblk hblk2 htake htake2
 go_wp2_with fail
 go_ret
 exact ⟨_,rfl,hLI,hb3⟩
theorem numSorted_any (l:List Int) (v:Value) (w:World) (hl:l.length≤1000000) (h:LI w v l) :
  Calls Tryz.prog 52 #[v] w fun e w'=>∃ v',e=.returned v' ∧ LN w.heap.size w' v' (sortL l) ∧ Below w.heap.size w w':=by
 cases l with
 | nil=>exact numSorted0_any v w h
 | cons x l=>exact numSorted1_any (x :: l) v w hl (by simp) h
end
section
open Go.RowKit
theorem one_arg {vs:Array Value} {a:AV} (hn:vs.size=[a].length):∃ x,vs = #[x]:=⟨vs[0]'(by simp at hn;omega),by
 apply Array.ext (by simpa using hn)
 intro i h1 h2
 simp at h2
 subst h2
 rfl⟩
theorem refSorted_A (l:List Int) (hl:l.length≤100000):ADet Tryz.prog 34 [sI l] ⟨sI (sortR l),[],0⟩:=
 adet_of_sl (enters_of Tryz.func34 rfl (by decide)) fun S w vs hS hn hv=>by
  obtain ⟨a,rfl⟩:=one_arg hn
  refine (refSorted_any l a w hl (LI.of_rt (hv 0 a _ rfl rfl) hS)).mono fun e w' ⟨v',h1,h2,h3⟩=>?_
  exact ⟨v',h1,fun S' hS'=>h2.rt hS',h3⟩
end
section
open Go.RowKit
def isCmp (x:Inst):Bool:=decide (3≤x.op) && decide (x.op≤8)
def numsAt (x:Inst):List Int:=if isCmp x=true then (if x.la = -1 then [x.ln] else []) ++ (if x.ra = -1 then [x.rn] else []) else []
def numsOf (l:List Inst):List Int:=l.flatMap numsAt
theorem numsAt_len (x:Inst):(numsAt x).length≤2:=by
 unfold numsAt
 split
 ·split <;> split <;> simp
 ·simp
theorem numsOf_len:∀ l:List Inst,(numsOf l).length≤2 * l.length
 | []=>by simp [numsOf]
 | x :: l=>by
  have h1:=numsAt_len x
  have h2:=numsOf_len l
  unfold numsOf at *
  simp only [List.flatMap_cons,List.length_append,List.length_cons]
  omega
theorem numbers11_A (l:List Inst) (hl:l.length≤400):ADet Tryz.prog 33 [sInsts l] ⟨sI (sortR (numsOf l)),[],0⟩:=by
 have hok:(⟨sI (sortR (numsOf l)),[],0⟩:Res).Ok:=⟨fun id o h=>(by cases h),by simp [AV.lt]⟩
 refine adet_of_code mixedT Tryz.func33 rfl (by decide) Tryz.ntmps33 Tryz.results33 rfl (hok) ?_
 have hlen:=numsOf_len l
 have hS:=refSorted_A (numsOf l) (by omega)
 (repeat' (first|refine go ?_ | exact .intro | refine sp (fun _=>?_) fun _=>?_))
 refine aLoop_of (fun st=>∃ k:Nat,k≤l.length ∧ st=⟨59,[(0,sInsts l),(3,.osl 0),(4,eI (k:Int))],[(0,some (.row 2 1 ((numsOf (l.take k)).map fun n=>[eI n])))],1⟩) (fun st=>l.length - slotN st 4) ⟨_,((weak_nil 3 2 1 (by simp only [ruW,ASt.get,aget,ASt.put,↓reduceIte,reduceCtorEq,Nat.reduceLT,Nat.reduceEqDiff,Nat.reduceAdd,Nat.reduceLeDiff,eq_self,implies_true,List.take_zero,numsOf,List.flatMap_nil,List.map_nil])).trans (weak_ren1 [0] ⟨(by decide),(by (first | ((simp only [envInR,tabInR,envLt,tabLt,AObj.lt,AV.lt,AV.ltL,AV.ren,AV.renL,AObj.ren,List.getD_cons_zero,List.getD_cons_succ,List.length_cons,List.length_nil,ruW,ASt.get,aget,ASt.put,↓reduceIte,reduceCtorEq,Nat.reduceLT,Nat.reduceEqDiff,Nat.reduceAdd,Nat.reduceLeDiff,eq_self,implies_true,List.take_zero,numsOf,List.flatMap_nil,List.map_nil]) <;> (repeat' apply And.intro) <;> first | (rw [wrapK (by omega)];done) | (simp;done) | omega) | fail))⟩)),0,Nat.zero_le _,rfl⟩ ?_
 rintro _ ⟨k,hk,rfl⟩
 by_cases hlt:k<l.length
 ·obtain ⟨x,hx⟩:∃ x,l[k]=x:=⟨_,rfl⟩
  have hsn:numsOf (l.take (k+1))=numsOf (l.take k) ++ numsAt x:=by
   unfold numsOf
   rw [List.take_add_one,List.getElem?_eq_getElem hlt,hx]
   simp
  have htl:(numsOf (l.take k)).length≤800:=by
   have:=numsOf_len (l.take k)
   rw [List.length_take] at this
   omega
  obtain ⟨op,la,ln,ra,rn,xn,xu⟩:=x
  by_cases hc:3≤op ∧ op≤8
  ·have hcm:isCmp ⟨op,la,ln,ra,rn,xn,xu⟩=true:=by simp [isCmp,hc]
   have d1:decide (op<3)=false:=by simp only [decide_eq_false_iff_not];omega
   have d2:decide (8<op)=false:=by simp only [decide_eq_false_iff_not];omega
   have hna:numsAt ⟨op,la,ln,ra,rn,xn,xu⟩=(if la = -1 then [ln] else []) ++ (if ra = -1 then [rn] else []):=by unfold numsAt;rw [if_pos hcm]
   rw [hna] at hsn
   by_cases ha:la = -1
   ·have ha1:(la == -1)=true:=by simpa using ha
    by_cases hb:ra = -1
    ·have hb1:(ra == -1)=true:=by simpa using hb
     rw [if_pos ha,if_pos hb] at hsn
     have hs2:(numsOf (l.take (k+1))).map (fun n=>[eI n])=((numsOf (l.take k)).map (fun n=>[eI n]) ++ [[eI ln]]) ++ [[eI rn]]:=by rw [hsn];simp
     (repeat' (first|refine go ?_|simp only [row_at,hlt,hx,d1,d2,ha1,hb1] | exact .intro | refine sp (fun _=>?_) fun _=>?_|(with_reducible refine aDraw_quiet (by kernel_rfl) ?_) | (with_reducible apply And.intro)))
     all_goals first
      | rfl
      | omega
      | (simp;omega)
      | exact rI (wS [4] hs2) ⟨k+1,by omega,rfl⟩
      | trace_state
    ·have hb1:(ra == -1)=false:=by simpa using hb
     rw [if_pos ha,if_neg hb] at hsn
     have hs2:(numsOf (l.take (k+1))).map (fun n=>[eI n])=(numsOf (l.take k)).map (fun n=>[eI n]) ++ [[eI ln]]:=by rw [hsn];simp
     (repeat' (first|refine go ?_|simp only [row_at,hlt,hx,d1,d2,ha1,hb1] | exact .intro | refine sp (fun _=>?_) fun _=>?_|(with_reducible refine aDraw_quiet (by kernel_rfl) ?_) | (with_reducible apply And.intro)))
     all_goals first
      | rfl
      | omega
      | (simp;omega)
      | exact rI (wS [2] hs2) ⟨k+1,by omega,rfl⟩
      | trace_state
   ·have ha1:(la == -1)=false:=by simpa using ha
    by_cases hb:ra = -1
    ·have hb1:(ra == -1)=true:=by simpa using hb
     rw [if_neg ha,if_pos hb] at hsn
     have hs2:(numsOf (l.take (k+1))).map (fun n=>[eI n])=(numsOf (l.take k)).map (fun n=>[eI n]) ++ [[eI rn]]:=by rw [hsn];simp
     (repeat' (first|refine go ?_|simp only [row_at,hlt,hx,d1,d2,ha1,hb1] | exact .intro | refine sp (fun _=>?_) fun _=>?_|(with_reducible refine aDraw_quiet (by kernel_rfl) ?_) | (with_reducible apply And.intro)))
     all_goals first
      | rfl
      | omega
      | (simp;omega)
      | exact rI (wS [2] hs2) ⟨k+1,by omega,rfl⟩
      | trace_state
    ·have hb1:(ra == -1)=false:=by simpa using hb
     rw [if_neg ha,if_neg hb] at hsn
     have hs2:(numsOf (l.take (k+1))).map (fun n=>[eI n])=(numsOf (l.take k)).map (fun n=>[eI n]):=by rw [hsn];simp
     (repeat' (first|refine go ?_|simp only [row_at,hlt,hx,d1,d2,ha1,hb1] | exact .intro | refine sp (fun _=>?_) fun _=>?_|(with_reducible refine aDraw_quiet (by kernel_rfl) ?_)))
     exact rI (wE hs2) ⟨k+1,by omega,rfl⟩
  ·have hcm:isCmp ⟨op,la,ln,ra,rn,xn,xu⟩=false:=by
    rw [Bool.eq_false_iff]
    intro h
    exact hc (by simpa [isCmp] using h)
   have hna:numsAt ⟨op,la,ln,ra,rn,xn,xu⟩=[]:=by unfold numsAt;rw [if_neg (by simp [hcm])]
   rw [hna,List.append_nil] at hsn
   have hs2:(numsOf (l.take (k+1))).map (fun n=>[eI n])=(numsOf (l.take k)).map (fun n=>[eI n]):=by rw [hsn]
   (repeat' (first|refine go ?_|simp only [row_at,hlt,hx] | exact .intro | refine sp (fun _=>?_) fun _=>?_|(with_reducible refine aDraw_quiet (by kernel_rfl) ?_)))
   all_goals first
    | exact rI (wE hs2) ⟨k+1,by omega,rfl⟩
    | (exfalso;simp at *;omega)
    | trace_state
 ·obtain rfl:k=l.length:=by omega
  (repeat' (first|refine ge (kf @hlt @List.take_length.{0}) ?_ | exact .intro | refine sp (fun _=>?_) fun _=>?_))
  refine callZ [0] (R:=⟨sI (sortR (numsOf l)),[],0⟩) ?_ ?_ ?_
  ·simp -implicitDefEqProofs (maxSteps:=5000000) only [ruX,↓reduceIte,reduceCtorEq,Nat.reduceLT,Nat.reduceEqDiff,Nat.reduceAdd,Nat.reduceMul,Nat.reduceSub,Nat.reduceLeDiff,Nat.reduceBEq]
   exact hS
  ·simp -implicitDefEqProofs (maxSteps:=5000000) only [ruX,↓reduceIte,reduceCtorEq,Nat.reduceLT,Nat.reduceEqDiff,Nat.reduceAdd,Nat.reduceMul,Nat.reduceSub,Nat.reduceLeDiff,Nat.reduceBEq]
   left
   simp [roL,roA,treeL,treeC]
  ·(repeat' (first|refine go ?_ | exact .intro | refine sp (fun _=>?_) fun _=>?_|(with_reducible refine aDraw_quiet (by kernel_rfl) ?_)))
   all_goals exact gives_tree (by first | rfl | simp [AV.ren,AV.renL])
def condN (l:List Inst):List Int:=sortR (numsOf l)
def constsM (m:Mod) (p:List Inst):List Int:=sortR ((condN p ++ m.guards.flatMap fun g=>condN g.cond) ++ m.miles.flatMap fun g=>condN g.cond)
theorem condN_len (l:List Inst) (h:l.length≤400):(condN l).length≤800:=by
 have h1:=sortR_len (numsOf l)
 have h2:=numsOf_len l
 unfold condN
 omega
theorem flatN_len {α:Type} (f:α → List Int):∀ l:List α,(∀ x ∈ l,(f x).length≤800) → (l.flatMap f).length≤800 * l.length
 | [],_=>by simp
 | x :: l,h=>by
  have h1:=h x (List.mem_cons_self ..)
  have h2:=flatN_len f l fun y hy=>h y (List.mem_cons_of_mem _ hy)
  simp only [List.flatMap_cons,List.length_append,List.length_cons]
  omega
theorem flatN_snoc {α:Type} (f:α → List Int) (l:List α) {k:Nat} (h:k<l.length):(l.take (k+1)).flatMap f=(l.take k).flatMap f ++ f l[k]:=by
 rw [List.take_succ_eq_append_getElem h,List.flatMap_append]
 simp
theorem consts_A (m:Mod) (p:List Inst) (hp:p.length≤400) (hg:m.guards.length≤14) (hm:m.miles.length≤10) (hgc:∀ g ∈ m.guards,g.cond.length≤80) (hmc:∀ g ∈ m.miles,g.cond.length≤80):ADet Tryz.prog 14 [.agg (eMod m),sInsts p] ⟨sI (constsM m p),[],0⟩:=by
 have hok:(⟨sI (constsM m p),[],0⟩:Res).Ok:=⟨fun id o h=>(by cases h),by simp [AV.lt]⟩
 refine adet_of_code mixedT Tryz.func14 rfl (by decide) Tryz.ntmps14 Tryz.results14 rfl (hok) ?_
 have hN:ADet Tryz.prog 33 [sInsts p] ⟨sI (condN p),[],0⟩:=numbers11_A p hp
 have hpl:=condN_len p hp
 obtain ⟨f,hf⟩:∃ f,f=fun g:Gd=>condN g.cond:=⟨_,rfl⟩
 obtain ⟨g2,hg2⟩:∃ f,f=fun g:Ml=>condN g.cond:=⟨_,rfl⟩
 have hfl:∀ k,((m.guards.take k).flatMap f).length≤11200:=fun k=>by
  have h1:=flatN_len f (m.guards.take k) fun x hx=>by
   rw [hf]
   exact condN_len _ (by have:=hgc x (List.mem_of_mem_take hx);omega)
  rw [List.length_take] at h1
  omega
 have hgl:∀ k,((m.miles.take k).flatMap g2).length≤8000:=fun k=>by
  have h1:=flatN_len g2 (m.miles.take k) fun x hx=>by
   rw [hg2]
   exact condN_len _ (by have:=hmc x (List.mem_of_mem_take hx);omega)
  rw [List.length_take] at h1
  omega
 have hC:constsM m p=sortR ((condN p ++ m.guards.flatMap f) ++ m.miles.flatMap g2):=by rw [hf,hg2];rfl
 rw [hC]
 have hlt1:(condN p ++ m.guards.flatMap f).length≤12000:=by
  have:=hfl m.guards.length
  rw [List.take_length] at this
  rw [List.length_append]
  omega
 have hlt2:((condN p ++ m.guards.flatMap f) ++ m.miles.flatMap g2).length≤20000:=by
  have:=hgl m.miles.length
  rw [List.take_length] at this
  rw [List.length_append]
  omega
 have hS:=refSorted_A ((condN p ++ m.guards.flatMap f) ++ m.miles.flatMap g2) (by omega)
 (repeat' (first|refine go ?_ | exact .intro | refine sp (fun _=>?_) fun _=>?_|(with_reducible refine aDraw_quiet (by kernel_rfl) ?_) | ((with_reducible apply callT);exact (hN);exact (.inl (by simp [roL,roA,treeL,treeC]))) | (with_reducible apply And.intro)))
 all_goals first
  | rfl
  | omega
  | skip
 refine aLoop_of (fun st=>∃ k:Nat,k≤m.guards.length ∧ st=⟨46,[(2,.op 0 0 0),(5,.osl 1),(6,eI (k:Int))],[(0,some (.box 32 (eMod m))),(1,some (.row 2 1 ((condN p ++ (m.guards.take k).flatMap f).map fun n=>[eI n])))],2⟩) (fun st=>m.guards.length - slotN st 6) ⟨_,(wS [0,2] (kf @List.take_zero.{0} @List.flatMap_nil.{0,0})),0,Nat.zero_le _,rfl⟩ ?_
 rintro _ ⟨k,hk,rfl⟩
 by_cases hlt:k<m.guards.length
 ·obtain ⟨x,hx⟩:∃ x,m.guards[k]=x:=⟨_,rfl⟩
  have hxc:=hgc x (hx ▸ List.getElem_mem hlt)
  have hNx:ADet Tryz.prog 33 [sInsts x.cond] ⟨sI (condN x.cond),[],0⟩:=numbers11_A x.cond (by omega)
  have hsn:(condN p ++ (m.guards.take (k+1)).flatMap f).map (fun n=>[eI n])=(condN p ++ (m.guards.take k).flatMap f).map (fun n=>[eI n]) ++ (condN x.cond).map (fun n=>[eI n]):=by
   rw [flatN_snoc f _ hlt,hx,← List.append_assoc,List.map_append,hf]
  have hl1:(condN p ++ (m.guards.take k).flatMap f).length≤12000:=by have:=hfl k;rw [List.length_append];omega
  have hl2:=condN_len x.cond (by omega)
  (repeat' (first|refine go ?_|simp only [row_at,hlt,hx] | exact .intro | refine sp (fun _=>?_) fun _=>?_|(with_reducible refine aDraw_quiet (by kernel_rfl) ?_) | ((with_reducible apply callT);exact (hNx);exact (.inl (by simp [roL,roA,treeL,treeC]))) | (with_reducible apply And.intro)))
  all_goals first
   | rfl
   | omega
   | exact rI (wS [0,2] @hsn) ⟨k+1,by omega,rfl⟩
   | trace_state
 ·obtain rfl:k=m.guards.length:=by omega
  rw [List.take_length]
  obtain ⟨O,hO⟩:∃ O,condN p ++ m.guards.flatMap f=O:=⟨_,rfl⟩
  rw [hO] at hlt1 hlt2 hS ⊢
  (repeat' (first|refine ge @hlt ?_ | exact .intro | refine sp (fun _=>?_) fun _=>?_|(with_reducible refine aDraw_quiet (by kernel_rfl) ?_)))
  refine aLoop_of (fun st=>∃ k:Nat,k≤m.miles.length ∧ st=⟨46,[(2,.op 0 0 0),(5,.osl 1),(7,eI (k:Int))],[(0,some (.box 32 (eMod m))),(1,some (.row 2 1 ((O ++ (m.miles.take k).flatMap g2).map fun n=>[eI n])))],2⟩) (fun st=>m.miles.length - slotN st 7) ⟨_,(wE (kf @List.take_zero.{0} @List.flatMap_nil.{0,0})),0,Nat.zero_le _,rfl⟩ ?_
  rintro _ ⟨k,hk2,rfl⟩
  by_cases hlt3:k<m.miles.length
  ·obtain ⟨x,hx⟩:∃ x,m.miles[k]=x:=⟨_,rfl⟩
   have hxc:=hmc x (hx ▸ List.getElem_mem hlt3)
   have hNx:ADet Tryz.prog 33 [sInsts x.cond] ⟨sI (condN x.cond),[],0⟩:=numbers11_A x.cond (by omega)
   have hsn:(O ++ (m.miles.take (k+1)).flatMap g2).map (fun n=>[eI n])=(O ++ (m.miles.take k).flatMap g2).map (fun n=>[eI n]) ++ (condN x.cond).map (fun n=>[eI n]):=by
    rw [flatN_snoc g2 _ hlt3,hx,← List.append_assoc,List.map_append,hg2]
   have hl1:(O ++ (m.miles.take k).flatMap g2).length≤20000:=by have:=hgl k;rw [List.length_append];omega
   have hl2:=condN_len x.cond (by omega)
   (repeat' (first|refine go ?_|simp only [row_at,hlt3,hx] | exact .intro | refine sp (fun _=>?_) fun _=>?_|(with_reducible refine aDraw_quiet (by kernel_rfl) ?_) | ((with_reducible apply callT);exact (hNx);exact (.inl (by simp [roL,roA,treeL,treeC]))) | (with_reducible apply And.intro)))
   all_goals first
    | rfl
    | omega
    | exact rI (wS [0,2] @hsn) ⟨k+1,by omega,rfl⟩
    | trace_state
  ·obtain rfl:k=m.miles.length:=by omega
   rw [List.take_length]
   (repeat' (first|refine ge @hlt3 ?_ | exact .intro | refine sp (fun _=>?_) fun _=>?_))
   refine callZ [1] (R:=⟨sI (sortR (O ++ m.miles.flatMap g2)),[],0⟩) ?_ ?_ ?_
   ·simp -implicitDefEqProofs (maxSteps:=5000000) only [ruX,↓reduceIte,reduceCtorEq,Nat.reduceLT,Nat.reduceEqDiff,Nat.reduceAdd,Nat.reduceMul,Nat.reduceSub,Nat.reduceLeDiff,Nat.reduceBEq]
    exact hS
   ·simp -implicitDefEqProofs (maxSteps:=5000000) only [ruX,↓reduceIte,reduceCtorEq,Nat.reduceLT,Nat.reduceEqDiff,Nat.reduceAdd,Nat.reduceMul,Nat.reduceSub,Nat.reduceLeDiff,Nat.reduceBEq]
    left
    simp [roL,roA,treeL,treeC]
   ·(repeat' (first|refine go ?_ | exact .intro | refine sp (fun _=>?_) fun _=>?_|(with_reducible refine aDraw_quiet (by kernel_rfl) ?_)))
    all_goals exact gives_tree (by first | rfl | simp [AV.ren,AV.renL])
end
end
section
section
open Go.RowKit
theorem same12F_A (a b:List (Bool × Int)) (ha:a.length≤1000000) (hb:b.length≤1000000):ARel Tryz.prog 16 [.sl 2 (a.map eBI),.sl 2 (b.map eBI)] fun R=>∃ r,R=val (.bool r) ∧ (r=true → a=b):=by
 refine arel_of_code mixedT Tryz.func16 rfl (by decide) Tryz.ntmps16 Tryz.results16 rfl ?_
 (repeat' (first|refine go ?_ | exact .intro | refine sp (fun _=>?_) fun _=>?_))
 ·exact retV ⟨false,rfl,fun h=>by cases h⟩
 ·rename_i hl
  have hl:a.length=b.length:=by simp at hl;omega
  refine aLoop_of (fun st=>∃ (k:Nat),(k≤a.length ∧ ∀ i (h:i<a.length) (h2:i<b.length),i<k → a[i]=b[i]) ∧ st=⟨26,[(0,.sl 2 (a.map eBI)),(1,.sl 2 (b.map eBI)),(5,eI (k:Int))],[],0⟩) (fun st=>a.length - slotN st 5) ⟨_,wC,0,⟨Nat.zero_le _,fun i h h2 h3=>absurd h3 (by omega)⟩,rfl⟩ ?_
  rintro _ ⟨k,⟨hk,hI⟩,rfl⟩
  by_cases hlt:k<a.length
  ·have hlt2:k<b.length:=by omega
   (repeat' (first|refine go ?_|simp only [row_at,hlt,hlt2] | exact .intro | refine sp (fun _=>?_) fun _=>?_))
   refine aDraw_quiet (by kernel_rfl) ?_
   (repeat' (first|refine go ?_|simp only [row_at,hlt,hlt2] | exact .intro | refine sp (fun _=>?_) fun _=>?_))
   refine ⟨_,sentryBin .neq (.inr rfl) a[k] b[k],?_⟩
   (repeat' (first|refine go ?_ | exact .intro | refine sp (fun _=>?_) fun _=>?_))
   all_goals first | with_reducible exact retV ⟨false,rfl,fun h=>by cases h⟩ | skip
   rename_i hne
   refine rI wC ⟨k+1,⟨by omega,fun i h h2 h3=>?_⟩,rfl⟩
   rcases Nat.lt_or_ge i k with h5|h5
   ·exact hI i h h2 h5
   ·obtain rfl:i=k:=by omega
    simp at hne
    exact Prod.ext hne.1 hne.2
  ·(repeat' (first|refine go ?_|simp only [row_at,hlt] | exact .intro | refine sp (fun _=>?_) fun _=>?_))
   exact retV ⟨true,rfl,fun _=>List.ext_getElem hl fun i h1 h2=>hI i h1 h2 (by omega)⟩
structure ChkF (m:Mod):Prop where
 chk:Chk m
 named:NamedP m
 writes:WritesP m.events
 sum:sumW m.events≤4
 consts:(constsM m []).length≤6
 order:∃ js:List Nat,m.order=js.map (atMC m) ∧ js.length=nSen m ∧ Greedy m js
theorem check13F_A (m:Mod) (hf:Fit m) (hp:∀ p ∈ m.stages,ok64 p.2):ARel Tryz.prog 5 [.agg (eMod m)] fun R=>∃ b,R=val (.bool b) ∧ (b=true → ChkF m):=by
 refine arel_of_code mixedT Tryz.func5 rfl (by decide) Tryz.ntmps5 Tryz.results5 rfl ?_
 obtain ⟨hg,hm,hst,hev,hat,hus,hro,hso,hor,-⟩:=id hf.sizes
 have hpl:(pars m).length≤1073741824:=by simp [pars];omega
 have hpo:∀ x ∈ pars m,ok64 x:=fun x hx=>by
  obtain ⟨p,hp',rfl⟩:=List.mem_map.1 hx
  exact hp p hp'
 (repeat' (first|refine go ?_ | exact .intro | refine sp (fun _=>?_) fun _=>?_))
 all_goals first | with_reducible exact retV ⟨false,rfl,fun h=>by cases h⟩ | skip
 refine callPB (namedF_A m hf) fun b hnm=>?_
 (repeat' (first|refine go ?_ | exact .intro | refine sp (fun _=>?_) fun _=>?_))
 all_goals first | with_reducible exact retV ⟨false,rfl,fun h=>by cases h⟩ | skip
 rename_i hbn
 have hbn:b=true:=by simpa using hbn
 have hnm:=hnm hbn
 refine callP (writesF_A m.events (by omega) hf.events) ?_
 rintro _ ⟨n,rfl,hwr⟩
 refine ⟨.inr ⟨trivial,trivial⟩,?_⟩
 simp only [val,AV.shift,ATab.shift,List.map_nil,List.nil_append]
 (repeat' (first|refine go ?_ | exact .intro | refine sp (fun _=>?_) fun _=>?_))
 all_goals first | with_reducible exact retV ⟨false,rfl,fun h=>by cases h⟩ | skip
 refine callO (refParents_A m (by omega)) (.inr ints_plain) ?_
 (repeat' (first|refine go ?_ | exact .intro | refine sp (fun _=>?_) fun _=>?_))
 refine callV (circle_A (pars m) hpl hpo) ?_
 (repeat' (first|refine go ?_ | exact .intro | refine sp (fun _=>?_) fun _=>?_))
 all_goals first | with_reducible exact retV ⟨false,rfl,fun h=>by cases h⟩ | skip
 have chk:Chk m:=by refine ⟨?_,?_,?_,?_,?_,?_,?_,?_,?_,?_⟩ <;> (simp only [decide_eq_false_iff_not,bne_eq_false_iff_eq] at *;omega)
 have hwr2:n=sumW m.events ∧ WritesP m.events:=hwr.resolve_left (by simp only [decide_eq_false_iff_not,bne_eq_false_iff_eq] at *;omega)
 have hn4:n≤4:=by simp only [decide_eq_false_iff_not,bne_eq_false_iff_eq] at *;omega
 refine callT ((consts_A m [] (by simp) hg hm hf.guards hf.miles).fits (args:=[.agg (eMod m),.c (.slice none 0 0)]) ⟨.one (.refl _),.one (.nil 7),trivial⟩) (.inl (by simp [roL,roA,treeL,treeC])) ?_
 (repeat' (first|refine go ?_ | exact .intro | refine sp (fun _=>?_) fun _=>?_))
 all_goals first | with_reducible exact retV ⟨false,rfl,fun h=>by cases h⟩ | skip
 rename_i hc6
 have hc6:(constsM m []).length≤6:=by simp only [decide_eq_false_iff_not] at hc6;omega
 refine callP (orderF_A m hf hp) fun R hR=>?_
 rcases hR with ⟨js,rfl,hjl,hgr⟩|rfl
 ·have e0:((0:Int) == 0)=true:=by decide
  refine ⟨.inr ⟨⟨trivial,trivial,trivial⟩,pairs_plain,trivial⟩,?_⟩
  simp only [AV.shift,AV.shiftL,ATab.shift,AObj.shift]
  (repeat' (first|refine ge e0 ?_ | exact .intro | refine sp (fun _=>?_) fun _=>?_))
  refine callPB (same12F_A (js.map (atMC m)) m.order (by rw [List.length_map,hjl];unfold nSen;omega) (by omega)) fun x hx=>?_
  (repeat' (first|refine go ?_ | exact .intro | refine sp (fun _=>?_) fun _=>?_))
  exact retV ⟨_,rfl,fun h=>⟨chk,hnm,hwr2.2,by rw [← hwr2.1];exact hn4,hc6,js,(hx h).symm,hjl,hgr⟩⟩
 ·have e0:((10:Int) == 0)=false:=by decide
  refine ⟨.inr ⟨⟨trivial,trivial,trivial⟩,trivial⟩,?_⟩
  simp only [AV.shift,AV.shiftL,ATab.shift,AObj.shift]
  (repeat' (first|refine ge e0 ?_ | exact .intro | refine sp (fun _=>?_) fun _=>?_))
  exact retV ⟨false,rfl,fun h=>by cases h⟩
end
section
open Go.RowKit
theorem heap_setCell_at {w:World} {g o:Nat} {cur:Array Value} {e:TypeId} {f:Nat × Nat} (hg:w.heap[g]? = some (.cells cur e f)) (v:Value):(w.setCell ⟨g,o,none⟩ v).heap[g]? = some (.cells (cur.setIfInBounds o v) e f):=by
 simp [World.setCell,Array.getElem?_modify,hg]
theorem heap_setCells_at {g:Nat} {e:TypeId} {f:Nat × Nat}:∀ (vs:List Value) (o:Nat) (w:World) (cur:Array Value),w.heap[g]? = some (.cells cur e f) → o+vs.length≤cur.size → ∃ cur':Array Value,(w.setCells g o vs).heap[g]? = some (.cells cur' e f) ∧ cur'.toList=cur.toList.take o ++ vs ++ cur.toList.drop (o+vs.length)
 | [],o,w,cur,hg,_=>⟨cur,hg,by simp⟩
 | v :: vs,o,w,cur,hg,hl=>by
  simp only [List.length_cons] at hl
  obtain ⟨cur',h1,h2⟩:=heap_setCells_at vs (o+1) _ _ (heap_setCell_at hg v) (by simp;omega)
  refine ⟨cur',h1,?_⟩
  rw [h2]
  have ho:o<cur.toList.length:=by simp;omega
  rw [Array.toList_setIfInBounds]
  simp only [List.length_cons]
  rw [List.take_succ_eq_append_getElem (by simpa using ho)]
  simp only [List.getElem_set_self,List.append_assoc,List.cons_append,List.nil_append]
  rw [List.take_set_of_le (Nat.le_refl _),List.drop_set_of_lt (by omega),show o+1+vs.length=o+(vs.length+1) by omega]
theorem clear_two (w:World) (b o:Nat) (c:Nat) (hc:∀ j,j<2 → (w.cell? ⟨b,o+j,none⟩).isSome=true) (hf:∀ j,j<2 → w.frozen? ⟨b,o+j,none⟩=false) (ty:TypeId) :
  (Builtin.clear_ #[30] ty #[.slice (some ⟨b,o,none⟩) 1 c]).run Tryz.prog w=.ok (.tuple #[]) (w.setCells b o [.bool false,.int .i64 0]):=by
 have hz:∀ w,(zeroValue 93).run Tryz.prog w=.ok (.agg #[.bool false,.int .i64 0]) w:=Tryz.zeroValue93
 have ht:Tryz.prog.underlying 30=some (.slice 93):=Tryz.underlying30
 have hst:=run_storeCells_cells (P:=Tryz.prog) b o [.bool false,.int .i64 0] 0 w (by simpa using hc) (by simpa using hf) (by intro v hv;simp at hv;rcases hv with rfl | rfl <;> rfl)
 simp only [Nat.add_zero] at hst
 simp [Builtin.clear_,Sem.run_bind,run_underlying ht,hz]
 rw [show (Builtin.zeroCells (Value.agg #[Value.bool false,Value.int IntKind.i64 0]).cells 1).toList=[Value.bool false,Value.int IntKind.i64 0] by kernel_rfl,hst]
 rfl
theorem delete_any (w:World) (g cap n i:Nat) (cur:Array Value) (hg:w.heap[g]? = some (.cells cur 93 (0,0))) (hcs:cap * 2≤cur.size) (hcn:n≤cap) (hm:cap≤9223372036854775807) (hi:i<n) (hone:∀ x ∈ cur.toList.take (n * 2),x.oneCell'=true) :
  Calls Tryz.prog 80 #[.slice (some ⟨g,0,none⟩) n cap,.int .i64 (i:Int),.int .i64 ((i+1:Nat):Int)] w fun e w'=>
   e=.returned (.slice (some ⟨g,0,none⟩) (n - 1) cap) ∧ w'=(w.drew.setCells g (i * 2) ((cur.toList.drop ((i+1) * 2)).take ((n - 1 - i) * 2))).setCells g ((n - 1) * 2) [.bool false,.int .i64 0]:=by
 obtain ⟨j,hj⟩:∃ j,j=i+1:=⟨_,rfl⟩
 rw [← hj]
 obtain ⟨news,hnews⟩:∃ news,news=(cur.toList.drop ((j) * 2)).take ((n - 1 - i) * 2):=⟨_,rfl⟩
 have hlen:news.length=(n - (j)) * 2:=by rw [hnews];simp;omega
 have hcell:∀ k,k<cap * 2 → w.cell? ⟨g,k,none⟩=cur[k]?:=fun k hk=>by simp [World.cell?,hg]
 have hfz:∀ k,w.frozen? ⟨g,k,none⟩=false:=fun k=>by simp [World.frozen?,hg]
 have hget:∀ t u,news[t]? = some u → w.cell? ⟨g,(j) * 2+t,none⟩=some u:=fun t u hu=>by
  have ht:=(List.getElem?_eq_some_iff.1 hu).1
  rw [hlen] at ht
  rw [hnews,List.getElem?_take_of_lt (by omega),List.getElem?_drop,Array.getElem?_toList] at hu
  rw [hcell _ (by omega)]
  exact hu
 have hone':∀ u ∈ news,u.oneCell'=true:=fun u hu=>by
  refine hone u ?_
  rw [hnews] at hu
  obtain ⟨k,hk,rfl⟩:=List.getElem_of_mem hu
  simp only [List.length_take,List.length_drop,Array.length_toList] at hk
  rw [List.getElem_take,List.getElem_drop]
  exact List.mem_take_iff_getElem.2 ⟨(j) * 2+k,by simp;omega,rfl⟩
 obtain ⟨A,hA,hsrc⟩:∃ A:Addr,(if cap=j then some (⟨g,0,none⟩:Addr) else some ⟨g,(j) * 2,none⟩)=some A ∧ Hid (∀ t u,news[t]? = some u → w.drew.cell? (A.add t)=some u):=by
  by_cases h:cap=j
  ·refine ⟨⟨g,0,none⟩,by simp [h],fun t u hu=>?_⟩
   have h0:news.length=0:=by rw [hlen];omega
   rw [List.length_eq_zero_iff.1 h0] at hu
   simp at hu
  ·exact ⟨⟨g,(j) * 2,none⟩,by simp [h],fun t u hu=>by rw [Addr.add_lit];exact hget t u hu⟩
 have s1:Hid (news.length=(n - (j)) * 2):=hlen
 have s2:Hid (∀ u ∈ news,u.oneCell'=true):=hone'
 have s3:Hid (∀ t,t<news.length → (w.drew.cell? ⟨g,0+i * 2+t,none⟩).isSome=true ∧ w.drew.frozen? ⟨g,0+i * 2+t,none⟩=false):=by
  intro t ht
  rw [hlen] at ht
  refine ⟨?_,hfz _⟩
  show (w.cell? _).isSome=true
  rw [hcell _ (by omega)]
  have:0+i * 2+t<cur.size:=by omega
  rw [Array.getElem?_eq_getElem this]
  rfl
 obtain ⟨W1,hW1⟩:∃ W1,W1=w.drew.setCells g (0+i * 2) news:=⟨_,rfl⟩
 have hcl:∀ ty c,(Builtin.clear_ #[30] ty #[.slice (some ⟨g,(n - 1) * 2,none⟩) (n - (n - 1)) c]).run Tryz.prog W1=.ok (.tuple #[]) (W1.setCells g ((n - 1) * 2) [.bool false,.int .i64 0]):=fun ty c=>by
  rw [show n - (n - 1)=1 by omega]
  refine clear_two W1 g ((n - 1) * 2) c (fun j hj=>?_) (fun j hj=>?_) ty
  ·rw [hW1]
   refine World.isSome_setCells _ _ _ _ _ ?_
   show (w.cell? _).isSome=true
   rw [hcell _ (by omega),Array.getElem?_eq_getElem (by omega)]
   rfl
  ·rw [hW1,World.frozen?_setCells]
   exact hfz _
 rw [← hnews]
 have mixed:=mixedT
 have hic:i≤cap:=by omega
 have hjc:j≤cap:=by omega
 have hin:j≤n:=by omega
 have hne:i ≠ j:=by omega
 have hij:i<j:=by omega
 have hc1:¬ cap=n - 1:=by omega
 have hn1:n - 1≤n:=by omega
 have hn2:n - 1≤cap:=by omega
 have hsum:i+(n - j)=n - 1:=by omega
 have ht:Tryz.prog.underlying 30=some (.slice 93):=Tryz.underlying30
 obtain ⟨i0,hi0,hz0⟩:∃ i0,Tryz.prog.info? 93=some i0 ∧ i0.size=2:=by
  have h2:=tyR_30
  obtain ⟨i1,z,hund,hi,hz,hs,hb,hzs,hsz⟩:=tyRow_some h2
  exact ⟨i1,hi,hs⟩
 have hW:Hid (W1=w.drew.setCells g (0+i * 2) news):=hW1
 clear hj hget hone' hnews hcell hfz hone hlen hW1 hg hcs
 go_enter Tryz.func80,Tryz.ntmps80
 go_wp2_with fail
 go_region_law_o (refine step_append_room rfl (.tmp 22) (.tmp 25) 30 rfl 93 i0 2 ht hi0 hz0 g 0 i cap (by simp [Act.eval,Act.put]) A (n - (j)) (cap - (j)) news (by simp [Act.eval,Act.put]) s1.out hsrc.out s2.out (by omega) s3.out ?_;rw [← hW.out])
 go_wp2
 go_ret
 exact ⟨rfl,by rw [hW.out,Nat.zero_add]⟩
theorem grow_setCell (w:World) (g o:Nat) (v:Value):w.grownBy (w.setCell ⟨g,o,none⟩ v) (some g):=
 ⟨rfl,rfl,rfl,by simp [World.setCell],fun k _ hne=>by
  have:g ≠ k:=fun e=>hne (by rw [e])
  simp [World.setCell,Array.getElem?_modify,this]⟩
theorem grow_trans {w w' w'':World} {r:Option Nat} (h:w.grownBy w' r) (h':w'.grownBy w'' r):w.grownBy w'' r:=
 ⟨h'.os.trans h.os,h'.tape.trans h.tape,h'.output.trans h.output,Nat.le_trans h.size h'.size,fun k hk hne=>(h'.block k (Nat.lt_of_lt_of_le hk h.size) hne).trans (h.block k hk hne)⟩
theorem grow_setCells (g:Nat):∀ (vs:List Value) (o:Nat) (w:World),w.grownBy (w.setCells g o vs) (some g)
 | [],_,w=>⟨rfl,rfl,rfl,Nat.le_refl _,fun _ _ _=>rfl⟩
 | v :: vs,o,w=>grow_trans (grow_setCell w g o v) (grow_setCells g vs (o+1) _)
theorem flatten_take {α:Type} {sz:Nat}:∀ {vals:List (List α)} (i:Nat),(∀ r ∈ vals,r.length=sz) → vals.flatten.take (i * sz)=(vals.take i).flatten
 | [],i,_=>by simp
 | r :: vals,0,_=>by simp
 | r :: vals,i+1,h=>by
  have hr:=h r (by simp)
  rw [List.flatten_cons,List.take_succ_cons,List.flatten_cons,Nat.add_mul,Nat.one_mul,List.take_append,hr]
  rw [List.take_of_length_le (by omega),show i * sz+sz - sz=i * sz by omega,flatten_take i fun r hr=>h r (by simp [hr])]
theorem flatten_drop {α:Type} {sz:Nat}:∀ {vals:List (List α)} (i:Nat),(∀ r ∈ vals,r.length=sz) → vals.flatten.drop (i * sz)=(vals.drop i).flatten
 | [],i,_=>by simp
 | r :: vals,0,_=>by simp
 | r :: vals,i+1,h=>by
  have hr:=h r (by simp)
  rw [List.flatten_cons,List.drop_succ_cons,Nat.add_mul,Nat.one_mul,List.drop_append,hr]
  rw [List.drop_of_length_le (by omega),show i * sz+sz - sz=i * sz by omega,List.nil_append,flatten_drop i fun r hr=>h r (by simp [hr])]
theorem delete_upd (vals:List (List Value)) (i:Nat) (hi:i<vals.length) (h2:∀ r ∈ vals,r.length=2 ∧ ∀ x ∈ r,x.oneCell'=true):AUpd Tryz.prog 80 93 2 vals [.int .i64 (i:Int),.int .i64 ((i+1:Nat):Int)] (vals.eraseIdx i):=by
 refine ⟨enters_of Tryz.func80 rfl (by decide),fun w v base hown=>?_⟩
 obtain ⟨hl,hown⟩:=hown
 rcases hown with ⟨_,h0⟩|⟨g,cap,cur,rfl,hb,hg,hcn,hm,hcs,htk⟩
 ·omega
 have hlen:vals.flatten.length=vals.length * 2:=by
  have:=flat_len _root_.id 2 vals (fun r hr=>(h2 r hr).1)
  rwa [List.flatMap_id] at this
 have h2':∀ r ∈ vals,r.length=2:=fun r hr=>(h2 r hr).1
 have hlt:=(Array.getElem?_eq_some_iff.1 hg).1
 refine (delete_any w g cap vals.length i cur hg hcs hcn (by simpa [maxLen] using hm) hi (fun x hx=>?_)).mono ?_
 ·rw [htk] at hx
  obtain ⟨r,hr,hx⟩:=List.mem_flatten.1 hx
  exact (h2 r hr).2 x hx
 rintro ex w' ⟨rfl,rfl⟩
 have hnews:((cur.toList.drop ((i+1) * 2)).take ((vals.length - 1 - i) * 2))=(vals.drop (i+1)).flatten:=by
  rw [← flatten_drop (i+1) h2',← htk,List.drop_take]
  congr 1
  omega
 rw [hnews]
 have hnl:(vals.drop (i+1)).flatten.length=(vals.length - (i+1)) * 2:=by
  have:=flat_len _root_.id 2 (vals.drop (i+1)) (fun r hr=>h2' r (List.mem_of_mem_drop hr))
  rw [List.flatMap_id] at this
  rw [this,List.length_drop]
 obtain ⟨c1,hc1,hc1'⟩:=heap_setCells_at (vals.drop (i+1)).flatten (i * 2) w.drew cur hg (by omega)
 have hs1:c1.size=cur.size:=by
  have:=congrArg List.length hc1'
  simp only [Array.length_toList,List.length_append,List.length_take,List.length_drop] at this
  omega
 obtain ⟨c2,hc2,hc2'⟩:=heap_setCells_at [.bool false,.int .i64 0] ((vals.length - 1) * 2) _ c1 hc1 (by simp;omega)
 have hs2:c2.size=cur.size:=by
  have:=congrArg List.length hc2'
  simp only [Array.length_toList,List.length_append,List.length_take,List.length_drop,List.length_cons,List.length_nil] at this
  omega
 have htake:c2.toList.take ((vals.length - 1) * 2)=(vals.eraseIdx i).flatten:=by
  rw [hc2',List.append_assoc,List.take_append_of_le_length (by simp;omega),List.take_take,Nat.min_self,hc1',List.append_assoc]
  have e1:cur.toList.take (i * 2)=(vals.take i).flatten:=by
   rw [← flatten_take i h2',← htk,List.take_take,Nat.min_eq_left (by omega)]
  rw [e1,← List.append_assoc,← List.flatten_append,← List.eraseIdx_eq_take_drop_succ]
  have e2:(vals.eraseIdx i).flatten.length=(vals.length - 1) * 2:=by
   have:=flat_len _root_.id 2 (vals.eraseIdx i) (fun r hr=>h2' r (List.mem_of_mem_eraseIdx hr))
   rw [List.flatMap_id] at this
   rw [this,List.length_eraseIdx_of_lt hi]
  rw [List.take_append_of_le_length (by omega),List.take_of_length_le (by omega)]
 have hel:(vals.eraseIdx i).length=vals.length - 1:=List.length_eraseIdx_of_lt hi
 refine ⟨_,rfl,?_,?_,rfl⟩
 ·rw [hel]
  refine ⟨?_,.inr ⟨g,cap,c2,rfl,hb,hc2,by omega,hm,by omega,htake⟩⟩
  have e3:c2.toList.length=cur.size:=by rw [Array.length_toList,hs2]
  rw [← htake,List.length_take,e3]
  omega
 ·exact grow_trans (w':=w.drew) ⟨rfl,rfl,rfl,Nat.le_refl _,fun _ _ _=>rfl⟩ (grow_trans (grow_setCells g _ _ _) (grow_setCells g _ _ _))
end
section
open Go.RowKit
theorem rowsC_BI (l:List (Bool × Int)):rowsC (l.map fun p=>[Value.bool p.1,Value.int .i64 p.2])=l.map eBI:=by
 simp [rowsC]
theorem callDel {st:ASt} {id:Nat} {l:List (Bool × Int)} {i:Nat} {K:AV → ASt → Prop} (hid:st.tab.get id=some (.row 93 2 (l.map eBI))) (hi:i<l.length)
  (hk:K (.osl st.next) ⟨st.n,st.env,appTab st.tab st.next (some id) (.row 93 2 ((l.eraseIdx i).map eBI)),st.next+1⟩):aCall none Tryz.prog st 80 [.osl id,eI (i:Int),eI ((i+1:Nat):Int)] K:=by
 refine .inr (.inl ⟨rfl,.inl (.inl ⟨id,93,2,l.map (fun p=>[Value.bool p.1,Value.int .i64 p.2]),[.int .i64 (i:Int),.int .i64 ((i+1:Nat):Int)],(l.eraseIdx i).map (fun p=>[Value.bool p.1,Value.int .i64 p.2]),rfl,by rw [rowsC_BI];exact hid,?_,?_,by rw [rowsC_BI];exact hk⟩)⟩)
 ·have:=delete_upd (l.map fun p=>[Value.bool p.1,Value.int .i64 p.2]) i (by simpa using hi) (fun r hr=>by
   obtain ⟨p,_,rfl⟩:=List.mem_map.1 hr
   exact ⟨rfl,fun x hx=>by simp at hx;rcases hx with rfl | rfl <;> rfl⟩)
  rwa [List.eraseIdx_eq_take_drop_succ,← List.map_take,← List.map_drop,← List.map_append,← List.eraseIdx_eq_take_drop_succ] at this
 ·intro r hr
  obtain ⟨p,_,rfl⟩:=List.mem_map.1 hr
  exact ⟨rfl,fun x hx=>by simp at hx;rcases hx with rfl | rfl <;> rfl⟩
theorem order11_A (m:Mod) (x y:Bool × Int) (hf:Fit m) (hp:∀ p ∈ m.stages,ok64 p.2):ADet Tryz.prog 78 [.agg (eBI y),.rp (eMod m),.rp (eBI x)] (val (.bool (waitsM m x y))):=by
 obtain ⟨bx,nx⟩:=x
 obtain ⟨b,n⟩:=y
 refine adet_of_code mixedT Tryz.func78 rfl (by decide) Tryz.ntmps78 Tryz.results78 rfl (val_ok _) ?_
 (repeat' (first|refine go ?_ | exact .intro | refine sp (fun _=>?_) fun _=>?_))
 refine callV (waits12_A m bx nx b n hf hp) ?_
 (repeat' (first|refine go ?_ | exact .intro | refine sp (fun _=>?_) fun _=>?_))
theorem order1_A (m:Mod) (x:Bool × Int) (left:List (Bool × Int)) (hl:left.length≤1000000) (hf:Fit m) (hp:∀ p ∈ m.stages,ok64 p.2):ADet Tryz.prog 76 [.agg (eBI x),.rp [.sl 2 (left.map eBI)],.rp (eMod m)] (val (.bool (!left.any (waitsM m x)))):=by
 refine adet_of_code mixedT Tryz.func76 rfl (by decide) Tryz.ntmps76 Tryz.results76 rfl (val_ok _) ?_
 (repeat' (first|refine go ?_ | exact .intro | refine sp (fun _=>?_) fun _=>?_))
 refine callV (containsFs_A 78 [.rp (eMod m),.rp (eBI x)] left (waitsM m x) hl ⟨trivial,trivial,trivial⟩ fun y _=>order11_A m x y hf hp) ?_
 (repeat' (first|refine go ?_ | exact .intro | refine sp (fun _=>?_) fun _=>?_))
theorem map_erase {α β:Type} (f:α → β) (l:List α) (j:Nat):(l.map f).eraseIdx j=(l.eraseIdx j).map f:=by
 rw [List.eraseIdx_eq_take_drop_succ,List.eraseIdx_eq_take_drop_succ,List.map_append,List.map_take,List.map_drop]
def leftN (m:Mod) (js:List Nat):List Nat:=(List.range (nSen m)).filter fun i=>decide (i ∉ js)
theorem mem_left {m:Mod} {js:List Nat} {i:Nat}:i ∈ leftN m js ↔ i<nSen m ∧ i ∉ js:=by simp [leftN]
theorem left_up (m:Mod) (js:List Nat):(leftN m js).Pairwise (· < ·):=List.Pairwise.filter _ (List.pairwise_lt_range)
theorem all_at (m:Mod):allS m=(List.range (nSen m)).map (atMC m):=by
 unfold allS nSen
 rw [List.range_add,List.map_append]
 congr 1
 ·refine List.map_congr_left fun k hk=>?_
  rw [at_g (by simpa using hk)]
 ·rw [List.map_map]
  refine List.map_congr_left fun k hk=>?_
  show _=atMC m (m.guards.length+k)
  rw [at_m (by omega),show m.guards.length+k - m.guards.length=k by omega]
theorem left_erase {m:Mod} {js:List Nat} {j:Nat} (hj:j<(leftN m js).length):(leftN m js).eraseIdx j=leftN m (js ++ [(leftN m js)[j]]):=by
 have hnd:(leftN m js).Nodup:=(left_up m js).imp fun h=>Nat.ne_of_lt h
 have h1:(leftN m js).eraseIdx j=(leftN m js).erase (leftN m js)[j]:=by
  rw [List.erase_eq_eraseIdx_of_idxOf (hnd.idxOf_getElem j hj)]
 rw [h1,hnd.erase_eq_filter]
 obtain ⟨v,hv⟩:∃ v,v=(leftN m js)[j]:=⟨_,rfl⟩
 rw [← hv]
 clear hv h1
 unfold leftN
 rw [List.filter_filter]
 refine List.filter_congr fun x _=>?_
 rw [Bool.eq_iff_iff]
 simp
 constructor
 ·rintro ⟨h1,h2⟩
  exact ⟨h2,h1⟩
 ·rintro ⟨h1,h2⟩
  exact ⟨h2,h1⟩
theorem left_next {m:Mod} {js:List Nat} {j:Nat} (hj:j<(leftN m js).length) (h:∀ k ∈ leftN m js,waitsN m (leftN m js)[j] k=false) (hf:∀ i (hi:i<j),∃ k ∈ leftN m js,waitsN m ((leftN m js)[i]'(by omega)) k=true):NextN m js (leftN m js)[j]:=by
 have hm:=mem_left.1 (List.getElem_mem hj)
 refine ⟨hm.1,⟨hm.2,fun k hk=>?_⟩,fun i' hi' hF=>?_⟩
 ·by_cases hkj:k ∈ js
  ·exact .inl hkj
  ·exact .inr (h k (mem_left.2 ⟨hk,hkj⟩))
 ·have hl:i' ∈ leftN m js:=mem_left.2 ⟨by omega,hF.1⟩
  obtain ⟨p,hp,he⟩:=List.getElem_of_mem hl
  have hpj:p<j:=by
   refine Classical.byContradiction fun hn=>?_
   rcases Nat.lt_or_ge j p with h2|h2
   ·have:=(List.pairwise_iff_getElem.1 (left_up m js)) j p hj hp h2
    omega
   ·obtain rfl:p=j:=by omega
    omega
  obtain ⟨k,hk,hw⟩:=hf p hpj
  rw [he] at hw
  have hk2:=mem_left.1 hk
  rcases hF.2 k hk2.1 with h3|h3
  ·exact hk2.2 h3
  ·rw [hw] at h3
   cases h3
theorem left_nil (m:Mod):leftN m []=List.range (nSen m):=by
 unfold leftN
 rw [List.filter_eq_self]
 simp
theorem orderP_A (m:Mod) (js0:List Nat) (hf:Fit m) (hp:∀ p ∈ m.stages,ok64 p.2) (hj0:js0.length=nSen m) (hgr:Greedy m js0):ADet Tryz.prog 44 [.agg (eMod m)] ⟨.tup [.osl 0,eI 0],[(0,some (.row 93 2 ((js0.map (atMC m)).map eBI)))],1⟩:=by
 refine adet_of_code mixedT Tryz.func44 rfl (by decide) Tryz.ntmps44 Tryz.results44 rfl (tab_ok (by simp [tabLt,AObj.lt,AV.ltL,AV.lt]) (by simp [AV.lt,AV.ltL])) ?_
 obtain ⟨hg,hm,-⟩:=id hf.sizes
 have hnS:nSen m≤24:=by unfold nSen;omega
 have hall:(allS m).length≤24:=by rw [all_at];simpa using hnS
 (repeat' (first|refine go ?_ | exact .intro | refine sp (fun _=>?_) fun _=>?_))
 refine callO (all12_A m (by omega) (by omega)) (.inr pairs_plain) ?_
 (repeat' (first|refine go ?_ | exact .intro | refine sp (fun _=>?_) fun _=>?_))
 have hA0:(allS m).map eBI=((leftN m []).map (atMC m)).map eBI:=by rw [all_at,left_nil]
 refine aLoop_of (fun st=>∃ (k:Nat),(k≤js0.length ∧ (leftN m (js0.take k)).length+k=nSen m) ∧ st=⟨30,[(1,.op 0 0 0),(4,.op 2 0 0),(5,.osl 3)],[(0,some (.box 32 (eMod m))),(1,some (.row 93 2 (((leftN m (js0.take k)).map (atMC m)).map eBI))),(2,some (.box 30 [.osl 1])),(3,some (.row 93 2 (((js0.take k).map (atMC m)).map eBI)))],4⟩) (fun st=>rowsLen st 1) ⟨_,((weak_nil 5 93 2 (by simp only [ruW,ASt.get,aget,ASt.put,↓reduceIte,reduceCtorEq,Nat.reduceLT,Nat.reduceEqDiff,Nat.reduceAdd,Nat.reduceLeDiff,eq_self,implies_true,List.map_nil,List.take_zero,hA0])).trans (wS [0,1,2,3] (kf @List.take_zero.{0} hA0))),0,⟨Nat.zero_le _,by rw [List.take_zero,left_nil,List.length_range];rfl⟩,rfl⟩ ?_
 rintro _ ⟨k,⟨hk,hkn⟩,rfl⟩
 obtain ⟨js,hjs⟩:∃ js,js=js0.take k:=⟨_,rfl⟩
 have hjl:js.length=k:=by rw [hjs,List.length_take];omega
 rw [← hjs]
 obtain ⟨L,hL⟩:∃ L,L=leftN m js:=⟨_,rfl⟩
 have hLl:L.length≤24:=by
  have:=List.length_filter_le (fun i=>decide (i ∉ js)) (List.range (nSen m))
  rw [List.length_range] at this
  rw [hL]
  unfold leftN
  omega
 have hLm:(L.map (atMC m)).length=L.length:=List.length_map ..
 rw [← hjs,← hL] at hkn
 rw [← hL]
 by_cases hlt:k<js0.length
 ·have hnx:NextN m js js0[k]:=by rw [hjs];exact hgr k hlt
  have hin:js0[k] ∈ L:=by rw [hL];exact mem_left.2 ⟨hnx.lt,hnx.free.1⟩
  have hpos:0<L.length:=List.length_pos_of_mem hin
  have hltI:decide ((0:Int)<(L.length:Int))=true:=by simp;omega
  (repeat' (first|refine ge (kf @hltI @hLm) ?_ | exact .intro | refine sp (fun _=>?_) fun _=>?_))
  refine callV (indexFs_A 76 [.rp [.sl 2 ((L.map (atMC m)).map eBI)],.rp (eMod m)] (L.map (atMC m)) (fun x=>!(L.map (atMC m)).any (waitsM m x)) (by rw [hLm];omega) ⟨trivial,trivial,trivial⟩ fun x _=>order1_A m x (L.map (atMC m)) (by rw [hLm];omega) hf hp) ?_
  have hwn:∀ x ∈ L,((L.map (atMC m)).any (waitsM m (atMC m x))=true ↔ ∃ y ∈ L,waitsN m x y=true):=fun x hx=>by
   rw [List.any_eq_true]
   constructor
   ·rintro ⟨y,hy,hw⟩
    obtain ⟨z,hz,rfl⟩:=List.mem_map.1 hy
    rw [waits_at (mem_left.1 (hL ▸ hx)).1 (mem_left.1 (hL ▸ hz)).1] at hw
    exact ⟨z,hz,hw⟩
   ·rintro ⟨y,hy,hw⟩
    refine ⟨atMC m y,List.mem_map_of_mem hy,?_⟩
    rw [waits_at (mem_left.1 (hL ▸ hx)).1 (mem_left.1 (hL ▸ hy)).1]
    exact hw
  rcases fstS_cases (fun x=>!(L.map (atMC m)).any (waitsM m x)) (L.map (atMC m)) with ⟨h1,h2⟩|⟨j,hj,h1,h2,h3⟩
  ·exfalso
   have h4:=h2 _ (List.mem_map_of_mem hin)
   simp only [Bool.not_eq_false'] at h4
   obtain ⟨y,hy,hw⟩:=(hwn _ hin).1 h4
   have hy2:=mem_left.1 (hL ▸ hy)
   rcases hnx.free.2 y hy2.1 with h5|h5
   ·exact hy2.2 h5
   ·rw [hw] at h5
    cases h5
  ·have hjL:j<L.length:=by rw [hLm] at hj;exact hj
   have hLj:(L.map (atMC m))[j]=atMC m L[j]:=by simp
   have hnx2:NextN m js L[j]:=by
    have key:NextN m js ((leftN m js)[j]'(by rw [← hL];exact hjL)):=left_next (by rw [← hL];exact hjL) (fun y hy=>by
     have h4:¬ (L.map (atMC m)).any (waitsM m (atMC m L[j]))=true:=by
      rw [hLj] at h2
      simpa using h2
     rw [hwn _ (List.getElem_mem hjL)] at h4
     have h5:¬ waitsN m L[j] y=true:=fun h=>h4 ⟨y,hL ▸ hy,h⟩
     have h6:waitsN m L[j] y=false:=by simpa using h5
     simpa only [hL] using h6) (fun i hi=>by
     have h4:=h3 i hi
     simp only [List.getElem_map,Bool.not_eq_false'] at h4
     obtain ⟨y,hy,hw⟩:=(hwn _ (List.getElem_mem (show i<L.length by omega))).1 h4
     exact ⟨y,hL ▸ hy,by simpa only [hL] using hw⟩)
    simpa only [hL] using key
   have hje:L[j]=js0[k]:=hnx2.uniq hnx
   have e0:decide ((j:Int)<0)=false:=by simp
   have ew:IntKind.i64.wrap ((j:Int)+1)=((j+1:Nat):Int):=by rw [wrap_in (by omega) (by omega)];rfl
   rw [h1]
   have htk:js0.take (k+1)=js ++ [L[j]]:=by rw [hje,hjs,List.take_succ_eq_append_getElem hlt]
   have hE:(L.map (atMC m)).eraseIdx j=(leftN m (js0.take (k+1))).map (atMC m):=by
    rw [map_erase,htk]
    have:=left_erase (m:=m) (js:=js) (j:=j) (by rw [← hL];exact hjL)
    simp only [← hL] at this
    rw [this]
   have hE1:(((L.map (atMC m)).eraseIdx j).map eBI)=((leftN m (js0.take (k+1))).map (atMC m)).map eBI:=by rw [hE]
   have et:(((js0.take (k+1)).map (atMC m)).map eBI)=(js.map (atMC m)).map eBI ++ [eBI (atMC m L[j])]:=by rw [htk,List.map_append,List.map_append];rfl
   have hjs1:(js.map (atMC m)).length=k:=by rw [List.length_map,hjl]
   have hra:((L.map (atMC m)).map eBI)[j]?.getD []=eBI (atMC m L[j]):=by simp [hjL]
   (repeat' (first|refine ge (kf e0 (kf @hra (kf @hjL @hLm))) ?_ | exact .intro | refine sp (fun _=>?_) fun _=>?_))
   refine ⟨rfl,by omega,?_⟩
   rw [ew]
   refine callDel (l:=L.map (atMC m)) (by simp [ATab.get_cons]) hj ?_
   (repeat' (first|refine ge e0 ?_ | exact .intro | refine sp (fun _=>?_) fun _=>?_))
   have hel:((L.map (atMC m)).eraseIdx j).length+1=L.length:=by rw [List.length_eraseIdx_of_lt hj,hLm];omega
   rw [hE] at hel
   rw [List.length_map] at hel
   exact roundI (wS [0,6,2,5] (kf et hE1)) ⟨k+1,⟨by omega,by omega⟩,rfl⟩ (by simp only [rowsLen,ATab.get_cons];simp;omega)
 ·obtain rfl:k=js0.length:=by omega
  rw [List.take_length] at hjs
  have hL0:L=[]:=List.eq_nil_of_length_eq_zero (by omega)
  have hltI:decide ((0:Int)<(L.length:Int))=false:=decide_eq_false (by rw [hL0];simp)
  (repeat' (first|refine ge (kf @hltI @hLm) ?_ | exact .intro | refine sp (fun _=>?_) fun _=>?_))
  rw [hjs]
  exact ⟨[3],by simp,rfl,⟨Nat.zero_lt_one,⟨_,_,_,rfl⟩,by simp [ATab.get_cons]⟩,trivial⟩
end
section
open Go.RowKit
theorem oneV {vs:Array Value} (h:vs.size=1):∃ a,vs = #[a]:=⟨vs[0],by apply Array.ext (by simpa using h);intro i h1 h2;simp at h2;match i with | 0=>rfl⟩
theorem nCircle_A (l:List Int) (hl:l.length≤1073741824) (ho:∀ x ∈ l,ok64 x):ADet Tryz.prog 41 [sI l] (val (.int .i64 (circleL l))):=
 adet_of_calls (enters_of Tryz.func41 rfl (by decide)) fun S w vs hS hn hv=>by
  obtain ⟨a,rfl⟩:=oneV (by simpa using hn)
  exact circle_any l a w hl (rt_ints (hv 0 a _ rfl rfl) hS ho)
theorem fewP_A (m:Mod) (h:Chk m):ADet Tryz.prog 38 [.agg (eMod m)] (val (.bool true)):=by
 refine adet_of_code mixedT Tryz.func38 rfl (by decide) Tryz.ntmps38 Tryz.results38 rfl (val_ok _) ?_
 have d1:decide ((m.attrs.length:Int)≤5)=true:=decide_eq_true (by have:=h.attrs;omega)
 have d2:((m.inits.length:Int) == (m.attrs.length:Int))=true:=by simp [h.inits]
 have d3:decide ((m.users.length:Int)≤4)=true:=decide_eq_true (by have:=h.users;omega)
 have d4:decide ((m.roles.length:Int)≤4)=true:=decide_eq_true (by have:=h.roles;omega)
 have d5:decide ((m.stages.length:Int)≤8)=true:=decide_eq_true (by have:=h.stages;omega)
 have d6:decide ((m.events.length:Int)≤6)=true:=decide_eq_true (by have:=h.events;omega)
 have d7:decide ((m.guards.length:Int)≤12)=true:=decide_eq_true (by have:=h.guards;omega)
 have d8:decide ((m.miles.length:Int)≤8)=true:=decide_eq_true (by have:=h.miles;omega)
 have d9:decide ((m.sods.length:Int)≤6)=true:=decide_eq_true (by have:=h.sods;omega)
 (repeat' (first|refine ge (kf d1 (kf d2 (kf d3 (kf d4 (kf d5 (kf d6 (kf d7 (kf d8 d9)))))))) ?_ | exact .intro | refine sp (fun _=>?_) fun _=>?_|(with_reducible refine aDraw_quiet (by kernel_rfl) ?_)))
theorem inM_A (n m:Int):ADet Tryz.prog 68 [eI n,eI m] (val (.bool (inB n m))):=by
 refine adet_of_code mixedT Tryz.func68 rfl (by decide) Tryz.ntmps68 Tryz.results68 rfl (val_ok _) ?_
 unfold inB
 by_cases g:0≤n
 ·have d1:decide (0≤n)=true:=decide_eq_true g
  (repeat' (first|refine ge (kf d1 @Bool.true_and) ?_ | exact .intro | refine sp (fun _=>?_) fun _=>?_|(with_reducible refine aDraw_quiet (by kernel_rfl) ?_)))
 ·have d1:decide (0≤n)=false:=decide_eq_false g
  (repeat' (first|refine ge (kf d1 @Bool.false_and) ?_ | exact .intro | refine sp (fun _=>?_) fun _=>?_|(with_reducible refine aDraw_quiet (by kernel_rfl) ?_)))
theorem boundP_A (l:List Ev) (hl:l.length≤1000) (hs:∀ e ∈ l,e.sets.length≤10) (hw:WritesP l) (h4:sumW l≤4):ADet Tryz.prog 40 [.sl 5 (l.map eEv)] (val (.bool true)):=by
 refine adet_of_code mixedT Tryz.func40 rfl (by decide) Tryz.ntmps40 Tryz.results40 rfl (val_ok _) ?_
 (repeat' (first|refine go ?_ | exact .intro | refine sp (fun _=>?_) fun _=>?_))
 refine aLoop_of (fun st=>∃ k:Nat,k≤l.length ∧ st=⟨42,[(3,eI (sumW (l.take k))),(6,.sl 5 (l.map eEv)),(7,eI (l.length:Int)),(8,eI (k:Int))],[],0⟩) (fun st=>l.length - slotN st 8) ⟨_,(wE (kf @List.take_zero.{0} @sumW_nil)),0,Nat.zero_le _,rfl⟩ ?_
 rintro _ ⟨k,hk,rfl⟩
 have hbd:=sumW_bound hs k hk fun i h h2=>⟨(hw.each i h).1,(hw.each i h).2.1⟩
 by_cases hlt:k<l.length
 ·obtain ⟨g1,g2,g3⟩:=hw.each k hlt
  have h2:=hs _ (List.getElem_mem hlt)
  have h3:0≤l[k].times * (l[k].sets.length:Int):=Int.mul_nonneg g1 (by omega)
  have h4:l[k].times * (l[k].sets.length:Int)≤3 * 10:=Int.mul_le_mul g2 (by omega) (by omega) (by omega)
  have e1:IntKind.i64.wrap (l[k].times * (l[k].sets.length:Int))=l[k].times * (l[k].sets.length:Int):=wrap_in (by omega) (by omega)
  have e2:IntKind.i64.wrap (sumW (l.take k)+l[k].times * (l[k].sets.length:Int))=sumW (l.take (k+1)):=by
   rw [sumW_take hlt]
   exact wrap_in (by omega) (by omega)
  have d1:decide (l[k].times<0)=false:=decide_eq_false (by omega)
  have d2:decide (3<l[k].times)=false:=decide_eq_false (by omega)
  by_cases hz:l[k].times=0
  ·have d3:(l[k].times == 0)=true:=by simp [hz]
   have d4:decide (0<(l[k].sets.length:Int))=false:=decide_eq_false (by have:=g3 hz;omega)
   have d5:decide (0<l[k].sets.length)=false:=decide_eq_false (by have:=g3 hz;omega)
   (repeat' (first|refine go ?_|simp only [row_at,hlt,d1,d2,d3,d4,d5,e1] | exact .intro | refine sp (fun _=>?_) fun _=>?_|(with_reducible refine aDraw_quiet (by kernel_rfl) ?_)))
   all_goals exact rI (wE (kf e1 e2)) ⟨k+1,by omega,rfl⟩
  ·have d3:(l[k].times == 0)=false:=by simp [hz]
   (repeat' (first|refine go ?_|simp only [row_at,hlt,d1,d2,d3,e1] | exact .intro | refine sp (fun _=>?_) fun _=>?_|(with_reducible refine aDraw_quiet (by kernel_rfl) ?_)))
   all_goals exact rI (wE (kf e1 e2)) ⟨k+1,by omega,rfl⟩
 ·obtain rfl:k=l.length:=by omega
  rw [List.take_length]
  have d6:decide (sumW l≤4)=true:=decide_eq_true h4
  (repeat' (first|refine ge (kf @hlt d6) ?_ | exact .intro | refine sp (fun _=>?_) fun _=>?_|(with_reducible refine aDraw_quiet (by kernel_rfl) ?_)))
theorem mParents_A (m:Mod) (hl:m.stages.length≤1000000):ADet Tryz.prog 42 [.agg (eMod m)] (own 3 1 ((pars m).map fun n=>[eI n])):=by
 refine adet_of_code mixedT Tryz.func42 rfl (by decide) Tryz.ntmps42 Tryz.results42 rfl (own_ok _ _ _) ?_
 (repeat' (first|refine go ?_ | exact .intro | refine sp (fun _=>?_) fun _=>?_))
 refine aLoop_of (fun st=>∃ k:Nat,k≤m.stages.length ∧ st=⟨20,[(1,.op 0 0 0),(3,.osl 1),(7,.sl 2 (m.stages.map eNI)),(8,eI (m.stages.length:Int)),(9,eI (k:Int))],[(0,some (.box 32 (eMod m))),(1,some (.row 3 1 ((m.stages.take k).map fun p=>[eI p.2])))],2⟩) (fun st=>m.stages.length - slotN st 9) ⟨_,((weak_nil 3 3 1 (by simp only [ruW,ASt.get,aget,ASt.put,↓reduceIte,reduceCtorEq,Nat.reduceLT,Nat.reduceEqDiff,Nat.reduceAdd,Nat.reduceLeDiff,eq_self,implies_true,List.take_zero,List.map_nil])).trans (wS [0,1] @List.take_zero.{0})),0,Nat.zero_le _,rfl⟩ ?_
 rintro _ ⟨k,hk,rfl⟩
 by_cases hlt:k<m.stages.length
 ·have et:(m.stages.take (k+1)).map (fun p=>[eI p.2])=(m.stages.take k).map (fun p=>[eI p.2]) ++ [[eI m.stages[k].2]]:=take_snoc _ _ hlt
  (repeat' (first|refine go ?_|simp only [row_at,hlt] | exact .intro | refine sp (fun _=>?_) fun _=>?_))
  refine ⟨rfl,by simp only [List.length_take];omega,rI (wS [0,4] et) ⟨k+1,by omega,rfl⟩⟩
 ·obtain rfl:k=m.stages.length:=by omega
  (repeat' (first|refine go ?_|simp only [row_at,hlt] | exact .intro | refine sp (fun _=>?_) fun _=>?_))
  exact aGives_own (by simp [ATab.get_cons,pars])
theorem equalS_A (l:List (Bool × Int)) (hl:l.length≤1000000):ADet Tryz.prog 45 [.sl 2 (l.map eBI),.sl 2 (l.map eBI)] (val (.bool true)):=by
 refine adet_of_code mixedT Tryz.func45 rfl (by decide) Tryz.ntmps45 Tryz.results45 rfl (val_ok _) ?_
 have q:((l.length:Int) != (l.length:Int))=false:=by simp
 (repeat' (first|refine ge q ?_ | exact .intro | refine sp (fun _=>?_) fun _=>?_))
 refine aLoop_of (fun st=>∃ k:Nat,k≤l.length ∧ st=⟨26,[(0,.sl 2 (l.map eBI)),(1,.sl 2 (l.map eBI)),(12,eI (l.length:Int)),(13,eI (k:Int))],[],0⟩) (fun st=>l.length - slotN st 13) ⟨_,wC,0,Nat.zero_le _,rfl⟩ ?_
 rintro _ ⟨k,hk,rfl⟩
 by_cases hlt:k<l.length
 ·(repeat' (first|refine go ?_|simp only [row_at,hlt] | exact .intro | refine sp (fun _=>?_) fun _=>?_))
  refine aDraw_quiet (by kernel_rfl) ?_
  (repeat' (first|refine go ?_|simp only [row_at,hlt] | exact .intro | refine sp (fun _=>?_) fun _=>?_))
  refine ⟨_,sentryBin .neq (.inr rfl) l[k] l[k],?_⟩
  have e0:(!(l[k].1 == l[k].1 && l[k].2 == l[k].2))=false:=by simp
  (repeat' (first|refine ge e0 ?_ | exact .intro | refine sp (fun _=>?_) fun _=>?_))
  exact rI wC ⟨k+1,by omega,rfl⟩
 ·(repeat' (first|refine go ?_|simp only [row_at,hlt] | exact .intro | refine sp (fun _=>?_) fun _=>?_))
def maskN (l:List Int):Nat:=l.foldl (fun n a=>n ||| 2 ^ a.toNat) 0
theorem mask_nil:maskN []=0:=rfl
theorem mask_snoc {l:List Int} {k:Nat} (h:k<l.length):maskN (l.take (k+1))=maskN (l.take k) ||| 2 ^ l[k].toNat:=by
 unfold maskN
 rw [List.take_succ_eq_append_getElem h,List.foldl_append]
 rfl
theorem mask_lt {l:List Int}:∀ k,k≤l.length → (∀ i (h:i<l.length),l[i].toNat<5) → maskN (l.take k)<2 ^ 5
 | 0,_,_=>by simp [maskN]
 | k+1,hk,h=>by
  rw [mask_snoc (by omega)]
  exact Nat.or_lt_two_pow (mask_lt k (by omega) h) (Nat.pow_lt_pow_right (by omega) (h k (by omega)))
theorem mask_bit {l:List Int} (j:Nat):∀ k,k≤l.length → (maskN (l.take k)).testBit j=true → ∃ i,∃ h:i<l.length,i<k ∧ l[i].toNat=j
 | 0,_,h=>by simp [maskN] at h
 | k+1,hk,h=>by
  rw [mask_snoc (by omega),Nat.testBit_or,Bool.or_eq_true] at h
  rcases h with h|h
  ·obtain ⟨i,h1,h2,h3⟩:=mask_bit j k (by omega) h
   exact ⟨i,h1,by omega,h3⟩
  ·rw [Nat.testBit_two_pow] at h
   exact ⟨k,by omega,by omega,of_decide_eq_true h⟩
theorem bits5:∀ n:Fin 32,∀ a:Fin 5,bits .and .i64 (((n.val:Nat):Int).fdiv (2 ^ min (((a.val:Nat):Int).toNat) IntKind.i64.bits)) 1=(if n.val.testBit a.val then 1 else 0) ∧ bits .or .i64 ((n.val:Nat):Int) (IntKind.i64.wrap (1 * 2 ^ min (((a.val:Nat):Int).toNat) IntKind.i64.bits))=(((n.val ||| 2 ^ a.val):Nat):Int):=by decide +kernel
theorem eventualP_A (m:Mod) (e:Ev) (ha:m.attrs.length≤5) (hs:e.sets.length≤10) (h:EventP m e):ADet Tryz.prog 69 [.agg (eMod m),.agg (eEv e)] (val (.bool true)):=by
 refine adet_of_code mixedT Tryz.func69 rfl (by decide) Tryz.ntmps69 Tryz.results69 rfl (val_ok _) ?_
 obtain ⟨h1,h2,h3⟩:=h
 have h5:∀ i (hi:i<e.sets.length),e.sets[i].toNat<5 ∧ 0≤e.sets[i]:=fun i hi=>by
  have:=(h3 i hi).1
  simp only [inB,Bool.and_eq_true,decide_eq_true_eq] at this
  omega
 (repeat' (first|refine go ?_ | exact .intro | refine sp (fun _=>?_) fun _=>?_))
 refine aLoop_of (fun st=>∃ k:Nat,k≤e.sets.length ∧ st=⟨47,[(2,.op 0 0 0),(3,.op 1 0 0),(5,eI (maskN (e.sets.take k):Int)),(9,sI e.sets),(10,eI (e.sets.length:Int)),(11,eI (k:Int))],[(0,some (.box 32 (eMod m))),(1,some (.box 53 (eEv e)))],2⟩) (fun st=>e.sets.length - slotN st 11) ⟨_,(weak_cut1 (by (first | ((simp only [envIn,tabIn,envLt,tabLt,AObj.lt,AV.lt,AV.ltL,ruW,ASt.get,aget,ASt.put,↓reduceIte,reduceCtorEq,Nat.reduceLT,Nat.reduceEqDiff,Nat.reduceAdd,Nat.reduceLeDiff,eq_self,implies_true,List.take_zero,mask_nil]) <;> (repeat' apply And.intro) <;> first | (rw [wrapK (by omega)];done) | (simp;done) | omega) | fail))),0,Nat.zero_le _,rfl⟩ ?_
 rintro _ ⟨k,hk,rfl⟩
 by_cases hlt:k<e.sets.length
 ·have hmk:=mask_lt k hk fun i hi=>(h5 i hi).1
  have hnb:(maskN (e.sets.take k)).testBit e.sets[k].toNat=false:=by
   rw [Bool.eq_false_iff]
   intro hb
   obtain ⟨i,hi,hik,he⟩:=mask_bit _ k hk hb
   have g1:=(h5 i hi).2
   have g2:=(h5 k hlt).2
   exact (h3 k hlt).2 i hik (by omega)
  have hsn:=mask_snoc hlt
  obtain ⟨a,ha5,hae⟩:∃ a:Nat,a<5 ∧ e.sets[k]=(a:Int):=⟨e.sets[k].toNat,(h5 k hlt).1,by have:=(h5 k hlt).2;omega⟩
  have hin:=inM_A (a:Int) m.attrs.length
  rw [show inB (a:Int) m.attrs.length=true by rw [← hae];exact (h3 k hlt).1] at hin
  rw [hae] at hnb hsn
  rw [Int.toNat_natCast] at hnb hsn
  have hb:=bits5 ⟨maskN (e.sets.take k),hmk⟩ ⟨a,ha5⟩
  rw [if_neg (by rw [hnb];simp),← hsn] at hb
  obtain ⟨b1,b2⟩:=hb
  rw [Int.toNat_natCast] at b1 b2
  have q0:((a:Int)<0)=False:=by simp
  have q1:((0:Int) == 1)=false:=rfl
  obtain ⟨n2,hn2⟩:∃ n2,n2=maskN (e.sets.take (k+1)):=⟨_,rfl⟩
  rw [← hn2] at b2
  clear hsn
  generalize maskN (e.sets.take k)=n at *
  (repeat' (first|refine go ?_|simp only [row_at,hlt,hae,q0,b1,b2,q1] | exact .intro | refine sp (fun _=>?_) fun _=>?_|(with_reducible refine aDraw_quiet (by kernel_rfl) ?_) | ((with_reducible apply callV);exact (hin)) | ((with_reducible apply callD);exact (hin))))
  all_goals exact rI (wE hn2) ⟨k+1,by omega,rfl⟩
 ·obtain rfl:k=e.sets.length:=by omega
  have hi1:=inM_A e.role m.roles.length
  have hi2:=inM_A e.stage m.stages.length
  rw [h1] at hi1
  rw [h2] at hi2
  (repeat' (first|refine ge @hlt ?_ | exact .intro | refine sp (fun _=>?_) fun _=>?_|(with_reducible refine aDraw_quiet (by kernel_rfl) ?_) | ((with_reducible apply callV);exact (hi1)) | ((with_reducible apply callD);exact (hi1)) | ((with_reducible apply callV);exact (hi2)) | ((with_reducible apply callD);exact (hi2))))
end
end
end Go.Proofs.YtcindbpnaicemaaGreat
