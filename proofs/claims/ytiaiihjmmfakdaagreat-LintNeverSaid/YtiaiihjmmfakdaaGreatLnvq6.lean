/-
  Parts of the proof: Lnvp14, Lnvp15, Lnvp16, Lnvp17, Lnvp18, Lnvp19, Lnvp20.
-/
import Derived.Test.YtiaiihjmmfakdaaGreatLnvq5
import Derived.WalkKit
import Derived.WalkLawsBesides
import Derived.Test.YtiaiihjmmfakdaaGreatSortShelf
import Derived.Deep.LoopGhost
import Derived.Deep.Draws
import Derived.Deep.QuietTactic
import Derived.OpenShut
import Derived.ProofKit
import Derived.Lib.SlicesCompact
import Derived.Deep.AppendLies
import Derived.Deep.DeepCutAuto
import Derived.Sort.OwnSortedInts
import Derived.WalkMore
import Derived.Deep.RegionLaw
import Derived.Lib.SliceRun
import Derived.Deep.MidRow
import Derived.Deep.Upon
import Derived.Shelf.RegionOpenPlain
import Derived.Sort.WalkB12
set_option linter.unusedVariables false
set_option linter.unusedSimpArgs false
set_option linter.defProp false
set_option maxRecDepth 100000
set_option maxHeartbeats 16000000
namespace Go.Proofs.YtiaiihjmmfakdaaGreat
open Go.RowKit
section
section
def Ec (m:aF) (l:List az):Prop:=bi (l.map az.op)=0 /\ ∀ i (h:i<l.length),hU m l[i]=true /\ ¬ (18<l[i].op \/ (10<l[i].op /\ l[i].op<15))
def Ap (m:aF) (l:List Int):Prop:=∀ i (h:i<l.length),b7 l[i] m.attrs.length=true /\ ∀ j (h:j<i),l[j] ≠ l[i]
def yX (m:aF) (p:ByteArray × Int):Prop:=0<p.2 /\ p.2<16 /\ p.2<=((2 ^ m.users.length - 1:Nat):Int)
def uI (m:aF) (p:ByteArray × Int):Prop:=p.2 = -1 \/ b7 p.2 m.stages.length=true
def qN (m:aF) (e:Ev):Prop:=b7 e.role m.roles.length=true /\ b7 e.stage m.stages.length=true /\ Ap m e.sets
def mO (m:aF) (st ev:Int) (l:List az):Prop:=b7 st m.stages.length=true /\ (ev = -1 \/ b7 ev m.events.length=true) /\ Ec m l
def EI (m:aF) (p:Int × Int):Prop:=b7 p.1 m.events.length=true /\ b7 p.2 m.events.length=true /\ p.1 ≠ p.2
structure lH (m:aF):Prop where
 roles:∀ i (h:i<m.roles.length),yX m m.roles[i]
 stages:∀ i (h:i<m.stages.length),uI m m.stages[i]
 events:∀ i (h:i<m.events.length),qN m m.events[i]
 guards:∀ i (h:i<m.guards.length),mO m m.guards[i].stage m.guards[i].event m.guards[i].cond
 miles:∀ i (h:i<m.miles.length),mO m m.miles[i].stage m.miles[i].event m.miles[i].cond
 sods:∀ i (h:i<m.sods.length),EI m m.sods[i]
def oz {α:Type} (l:List α) (p:α -> Prop) (k:Nat):Prop:=∀ i (h:i<l.length),i<k -> p l[i]
theorem oz.zero {α:Type} (l:List α) (p:α -> Prop):oz l p 0:=fun i h h2=>absurd h2 (by omega)
theorem oz.succ {α:Type} {l:List α} {p:α -> Prop} {k:Nat} (h:oz l p k) (hk:k<l.length) (hp:p l[k]):oz l p (k+1):=fun i hi h2=>by
 rcases Jk i k with h3|h3
 .exact h i hi h3
 .obtain rfl:i=k:=by omega
  exact hp
theorem DL (m:aF) (l:List Int) (hl:l.length<=1000000):∃ b,ap Tryz.prog 28 [.agg (am m),sI l] (val (.bool b)) /\ (b=true -> Ap m l):=by
 classical
 exact ⟨decide (∀ i (h:i<l.length),b7 l[i] m.attrs.length=true /\ ∀ j (h:j<i),l[j] ≠ l[i]),Fx m l hl _ (by simp),fun h=>by unfold Ap;simpa using h⟩
def NM (m:aF) (a b c d e f:Nat):Prop:=oz m.roles (yX m) a /\ oz m.stages (uI m) b /\ oz m.events (qN m) c /\ oz m.guards (fun g=>mO m g.stage g.event g.cond) d /\ oz m.miles (fun g=>mO m g.stage g.event g.cond) e /\ oz m.sods (EI m) f
theorem NM.s1 {m:aF} {a b c d e f:Nat} (h:NM m a b c d e f) (hk:a<m.roles.length) (hp:yX m m.roles[a]):NM m (a+1) b c d e f:=⟨h.1.succ hk hp,h.2⟩
theorem NM.s2 {m:aF} {a b c d e f:Nat} (h:NM m a b c d e f) (hk:b<m.stages.length) (hp:uI m m.stages[b]):NM m a (b+1) c d e f:=⟨h.1,h.2.1.succ hk hp,h.2.2⟩
theorem NM.s3 {m:aF} {a b c d e f:Nat} (h:NM m a b c d e f) (hk:c<m.events.length) (hp:qN m m.events[c]):NM m a b (c+1) d e f:=⟨h.1,h.2.1,h.2.2.1.succ hk hp,h.2.2.2⟩
theorem NM.s4 {m:aF} {a b c d e f:Nat} (h:NM m a b c d e f) (hk:d<m.guards.length) (hp:mO m m.guards[d].stage m.guards[d].event m.guards[d].cond):NM m a b c (d+1) e f:=⟨h.1,h.2.1,h.2.2.1,h.2.2.2.1.succ hk hp,h.2.2.2.2⟩
theorem NM.s5 {m:aF} {a b c d e f:Nat} (h:NM m a b c d e f) (hk:e<m.miles.length) (hp:mO m m.miles[e].stage m.miles[e].event m.miles[e].cond):NM m a b c d (e+1) f:=⟨h.1,h.2.1,h.2.2.1,h.2.2.2.1,h.2.2.2.2.1.succ hk hp,h.2.2.2.2.2⟩
theorem NM.s6 {m:aF} {a b c d e f:Nat} (h:NM m a b c d e f) (hk:f<m.sods.length) (hp:EI m m.sods[f]):NM m a b c d e (f+1):=⟨h.1,h.2.1,h.2.2.1,h.2.2.2.1,h.2.2.2.2.1,h.2.2.2.2.2.succ hk hp⟩
theorem NM.named {m:aF} (h:NM m m.roles.length m.stages.length m.events.length m.guards.length m.miles.length m.sods.length):lH m:=⟨fun i hi=>h.1 i hi hi,fun i hi=>h.2.1 i hi hi,fun i hi=>h.2.2.1 i hi hi,fun i hi=>h.2.2.2.1 i hi hi,fun i hi=>h.2.2.2.2.1 i hi hi,fun i hi=>h.2.2.2.2.2 i hi hi⟩
theorem A3 (m:aF) (hf:iC m):bh Tryz.prog 11 [.agg (am m)] fun R=>∃ b,R=val (.bool b) /\ (b=true -> lH m):=by
 refine ay ae Tryz.func11 rfl (by decide) Tryz.ntmps11 Tryz.results11 rfl ?_;obtain ⟨hg,hm,hst,hev,hat,hus,hro,hso,-⟩:=id hf.sizes
 repeat' first|refine go ?_|decide|refine sp ?_ ?_<;>intro _
 refine af (fun st=>∃ (k:Nat) (b:Bool),k<=m.roles.length /\ (b=true -> NM m k 0 0 0 0 0) /\ st=⟨233,[(1,.op 0 0 0),(3,eB b),(4,eI (k:Int))],[(0,some (.box 32 (am m)))],1⟩) (fun st=>m.roles.length - aw st 4) ⟨_,wC,0,true,IY _,fun _=>⟨.zero _ _,.zero _ _,.zero _ _,.zero _ _,.zero _ _,.zero _ _⟩,rfl⟩ ?_;rintro _ ⟨k,b,hk,hI,rfl⟩;by_cases hlt:k<m.roles.length
 .repeat' first|refine go ?_|simp only [ac,hlt]|decide|refine sp ?_ ?_<;>intro _
  all_goals first|with_reducible exact rI wC ⟨k+1,false,by omega,(fun h=>by cases h),rfl⟩|skip
  refine ak (GD m.users.length (by omega)) ?_
  repeat' first|refine go ?_|simp only [ac,hlt]|decide|refine sp ?_ ?_<;>intro _
  refine rI wC ⟨k+1,decide (m.roles[k].2<=((2 ^ m.users.length - 1:Nat):Int)),by omega,fun h=>(hI (by assumption)).s1 hlt ⟨?_,?_,of_decide_eq_true h⟩,rfl⟩;all_goals (apply of_decide_eq_true;assumption)
 obtain rfl:k=m.roles.length:=by omega
 repeat' first|refine go ?_|simp only [ac,hlt]|decide|refine sp ?_ ?_<;>intro _
 clear hk hlt;refine af (fun st=>∃ (k:Nat) (b:Bool),k<=m.stages.length /\ (b=true -> NM m m.roles.length k 0 0 0 0) /\ st=⟨233,[(1,.op 0 0 0),(3,eB b),(6,eI (k:Int))],[(0,some (.box 32 (am m)))],1⟩) (fun st=>m.stages.length - aw st 6) ⟨_,wC,0,b,IY _,hI,rfl⟩ ?_;clear hI b;rintro _ ⟨k,b,hk,hI,rfl⟩;by_cases hlt:k<m.stages.length
 .repeat' first|refine go ?_|simp only [ac,hlt]|decide|refine sp ?_ ?_<;>intro _
  all_goals first|with_reducible exact rI wC ⟨k+1,false,by omega,(fun h=>by cases h),rfl⟩|skip
  all_goals first|exact rI wC ⟨k+1,true,by omega,(fun h=>(hI (by assumption)).s2 hlt (.inl (eq_of_beq (by assumption)))),rfl⟩|skip
  refine ak (oQ m.stages[k].2 m.stages.length) ?_
  repeat' first|refine go ?_|simp only [ac,hlt]|decide|refine sp ?_ ?_<;>intro _
  exact rI wC ⟨k+1,b7 m.stages[k].2 m.stages.length,by omega,(fun h=>(hI (by assumption)).s2 hlt (.inr h)),rfl⟩
 obtain rfl:k=m.stages.length:=by omega
 repeat' first|refine go ?_|simp only [ac,hlt]|decide|refine sp ?_ ?_<;>intro _
 clear hk hlt;refine af (fun st=>∃ (k:Nat) (b:Bool),k<=m.events.length /\ (b=true -> NM m m.roles.length m.stages.length k 0 0 0) /\ st=⟨233,[(1,.op 0 0 0),(3,eB b),(8,eI (k:Int))],[(0,some (.box 32 (am m)))],1⟩) (fun st=>m.events.length - aw st 8) ⟨_,wC,0,b,IY _,hI,rfl⟩ ?_;clear hI b;rintro _ ⟨k,b,hk,hI,rfl⟩;by_cases hlt:k<m.events.length
 .have hs:=hf.events _ (IZ hlt);obtain ⟨x,hx,hxp⟩:=DL m m.events[k].sets (by omega)
  repeat' first|refine go ?_|simp only [ac,hlt]|decide|refine sp ?_ ?_<;>intro _
  all_goals first|with_reducible exact rI wC ⟨k+1,false,by omega,(fun h=>by cases h),rfl⟩|skip
  refine ak (oQ _ _) ?_
  repeat' first|refine go ?_|simp only [ac,hlt]|decide|refine sp ?_ ?_<;>intro _
  all_goals first|with_reducible exact rI wC ⟨k+1,false,by omega,(fun h=>by cases h),rfl⟩|skip
  refine ak (oQ _ _) ?_
  repeat' first|refine go ?_|simp only [ac,hlt]|decide|refine sp ?_ ?_<;>intro _
  all_goals first|with_reducible exact rI wC ⟨k+1,false,by omega,(fun h=>by cases h),rfl⟩|skip
  refine ak hx ?_
  repeat' first|refine go ?_|simp only [ac,hlt]|decide|refine sp ?_ ?_<;>intro _
  exact rI wC ⟨k+1,x,by omega,(fun h=>(hI (by assumption)).s3 hlt ⟨by assumption,by assumption,hxp h⟩),rfl⟩
 obtain rfl:k=m.events.length:=by omega
 repeat' first|refine go ?_|simp only [ac,hlt]|decide|refine sp ?_ ?_<;>intro _
 clear hk hlt;refine af (fun st=>∃ (k:Nat) (b:Bool),k<=m.guards.length /\ (b=true -> NM m m.roles.length m.stages.length m.events.length k 0 0) /\ st=⟨233,[(1,.op 0 0 0),(3,eB b),(10,eI (k:Int))],[(0,some (.box 32 (am m)))],1⟩) (fun st=>m.guards.length - aw st 10) ⟨_,wC,0,b,IY _,hI,rfl⟩ ?_;clear hI b;rintro _ ⟨k,b,hk,hI,rfl⟩;by_cases hlt:k<m.guards.length
 .have hs:=hf.guards _ (IZ hlt)
  repeat' first|refine go ?_|simp only [ac,hlt]|decide|refine sp ?_ ?_<;>intro _
  all_goals first|with_reducible exact rI wC ⟨k+1,false,by omega,(fun h=>by cases h),rfl⟩|skip
  refine ak (oQ _ _) ?_
  repeat' first|refine go ?_|simp only [ac,hlt]|decide|refine sp ?_ ?_<;>intro _
  all_goals first|with_reducible exact rI wC ⟨k+1,false,by omega,(fun h=>by cases h),rfl⟩|skip
  .refine iB (g5 m m.guards[k].cond false (by omega)) fun x hx=>?_
   repeat' first|refine go ?_|simp only [ac,hlt]|decide|refine sp ?_ ?_<;>intro _
   exact rI wC ⟨k+1,x,by omega,(fun h=>(hI (by assumption)).s4 hlt ⟨by assumption,.inl (eq_of_beq (by assumption)),(hx h).1,fun i hi=>⟨((hx h).2 i hi).1,((hx h).2 i hi).2 rfl⟩⟩),rfl⟩
  .refine ak (oQ _ _) ?_
   repeat' first|refine go ?_|simp only [ac,hlt]|decide|refine sp ?_ ?_<;>intro _
   all_goals first|with_reducible exact rI wC ⟨k+1,false,by omega,(fun h=>by cases h),rfl⟩|skip
   refine iB (g5 m m.guards[k].cond false (by omega)) fun x hx=>?_
   repeat' first|refine go ?_|simp only [ac,hlt]|decide|refine sp ?_ ?_<;>intro _
   exact rI wC ⟨k+1,x,by omega,(fun h=>(hI (by assumption)).s4 hlt ⟨by assumption,.inr (by assumption),(hx h).1,fun i hi=>⟨((hx h).2 i hi).1,((hx h).2 i hi).2 rfl⟩⟩),rfl⟩
 obtain rfl:k=m.guards.length:=by omega
 repeat' first|refine go ?_|simp only [ac,hlt]|decide|refine sp ?_ ?_<;>intro _
 clear hk hlt;refine af (fun st=>∃ (k:Nat) (b:Bool),k<=m.miles.length /\ (b=true -> NM m m.roles.length m.stages.length m.events.length m.guards.length k 0) /\ st=⟨233,[(1,.op 0 0 0),(3,eB b),(12,eI (k:Int))],[(0,some (.box 32 (am m)))],1⟩) (fun st=>m.miles.length - aw st 12) ⟨_,wC,0,b,IY _,hI,rfl⟩ ?_;clear hI b;rintro _ ⟨k,b,hk,hI,rfl⟩;by_cases hlt:k<m.miles.length
 .have hs:=hf.miles _ (IZ hlt)
  repeat' first|refine go ?_|simp only [ac,hlt]|decide|refine sp ?_ ?_<;>intro _
  all_goals first|with_reducible exact rI wC ⟨k+1,false,by omega,(fun h=>by cases h),rfl⟩|skip
  refine ak (oQ _ _) ?_
  repeat' first|refine go ?_|simp only [ac,hlt]|decide|refine sp ?_ ?_<;>intro _
  all_goals first|with_reducible exact rI wC ⟨k+1,false,by omega,(fun h=>by cases h),rfl⟩|skip
  .refine iB (g5 m m.miles[k].cond false (by omega)) fun x hx=>?_
   repeat' first|refine go ?_|simp only [ac,hlt]|decide|refine sp ?_ ?_<;>intro _
   exact rI wC ⟨k+1,x,by omega,(fun h=>(hI (by assumption)).s5 hlt ⟨by assumption,.inl (eq_of_beq (by assumption)),(hx h).1,fun i hi=>⟨((hx h).2 i hi).1,((hx h).2 i hi).2 rfl⟩⟩),rfl⟩
  .refine ak (oQ _ _) ?_
   repeat' first|refine go ?_|simp only [ac,hlt]|decide|refine sp ?_ ?_<;>intro _
   all_goals first|with_reducible exact rI wC ⟨k+1,false,by omega,(fun h=>by cases h),rfl⟩|skip
   refine iB (g5 m m.miles[k].cond false (by omega)) fun x hx=>?_
   repeat' first|refine go ?_|simp only [ac,hlt]|decide|refine sp ?_ ?_<;>intro _
   exact rI wC ⟨k+1,x,by omega,(fun h=>(hI (by assumption)).s5 hlt ⟨by assumption,.inr (by assumption),(hx h).1,fun i hi=>⟨((hx h).2 i hi).1,((hx h).2 i hi).2 rfl⟩⟩),rfl⟩
 obtain rfl:k=m.miles.length:=by omega
 repeat' first|refine go ?_|simp only [ac,hlt]|decide|refine sp ?_ ?_<;>intro _
 clear hk hlt;refine af (fun st=>∃ (k:Nat) (b:Bool),k<=m.sods.length /\ (b=true -> NM m m.roles.length m.stages.length m.events.length m.guards.length m.miles.length k) /\ st=⟨233,[(1,.op 0 0 0),(3,eB b),(14,eI (k:Int))],[(0,some (.box 32 (am m)))],1⟩) (fun st=>m.sods.length - aw st 14) ⟨_,wC,0,b,IY _,hI,rfl⟩ ?_;clear hI b;rintro _ ⟨k,b,hk,hI,rfl⟩;by_cases hlt:k<m.sods.length
 .repeat' first|refine go ?_|simp only [ac,hlt]|decide|refine sp ?_ ?_<;>intro _
  refine ao (by kernel_rfl) ?_
  repeat' first|refine go ?_|simp only [ac,hlt]|decide|refine sp ?_ ?_<;>intro _
  all_goals first|with_reducible exact rI wC ⟨k+1,false,by omega,(fun h=>by cases h),rfl⟩|skip
  refine aD (oQ _ _) ?_
  repeat' first|refine go ?_|simp only [ac,hlt]|decide|refine sp ?_ ?_<;>intro _
  all_goals first|with_reducible exact rI wC ⟨k+1,false,by omega,(fun h=>by cases h),rfl⟩|skip
  refine aD (oQ _ _) ?_
  repeat' first|refine go ?_|simp only [ac,hlt]|decide|refine sp ?_ ?_<;>intro _
  all_goals first|with_reducible exact rI wC ⟨k+1,false,by omega,(fun h=>by cases h),rfl⟩|skip
  exact rI wC ⟨k+1,(m.sods[k].1 != m.sods[k].2),by omega,(fun h=>(hI (by assumption)).s6 hlt ⟨by assumption,by assumption,by simpa using h⟩),rfl⟩
 obtain rfl:k=m.sods.length:=by omega
 repeat' first|refine go ?_|simp only [ac,hlt]|decide|refine sp ?_ ?_<;>intro _
 exact co ⟨_,rfl,fun h=>(hI h).named⟩
end
section
def yq (m:aF):List (Bool × Int):=(List.range m.guards.length).map (fun (k:Nat)=>(false,(k:Int))) ++ (List.range m.miles.length).map (fun (k:Nat)=>(true,(k:Int)))
theorem CL (m:aF) (hg:m.guards.length<=1000) (hm:m.miles.length<=1000):ap Tryz.prog 85 [.agg (am m)] (cu 97 2 ((yq m).map dS)):=by
 refine aa ae Tryz.func85 rfl (by decide) Tryz.ntmps85 Tryz.results85 rfl (cK _ _ _) ?_
 repeat' first|refine go ?_|decide|refine sp ?_ ?_<;>intro _
 refine af (fun st=>∃ k:Nat,k<=m.guards.length /\ st=⟨31,[(1,.op 0 0 0),(3,.osl 1),(8,eI (m.guards.length:Int)),(9,eI (k:Int))],[(0,some (.box 32 (am m))),(1,some (.row 97 2 (((List.range k).map fun (k:Nat)=>(false,(k:Int))).map dS)))],2⟩) (fun st=>m.guards.length - aw st 9) ⟨_,((aW 3 97 2 (by simp only [f9,ai.get,a7,ai.put,↓reduceIte,reduceCtorEq,Nat.reduceLT,Nat.reduceEqDiff,Nat.reduceAdd,Nat.reduceLeDiff,eq_self,implies_true,List.range_zero,Jo])).trans (wS [0,1] @List.range_zero)),0,IY _,rfl⟩ ?_;rintro _ ⟨k,hk,rfl⟩;by_cases hlt:k<m.guards.length
 .have et:((List.range (k+1)).map fun (k:Nat)=>(false,(k:Int))).map dS=((List.range k).map fun (k:Nat)=>(false,(k:Int))).map dS ++ [dS (false,(k:Int))]:=by rw [List.range_succ];simp
  repeat' first|refine ge @hlt ?_|decide|refine sp ?_ ?_<;>intro _
  refine ⟨rfl,by simp;omega,rI (wS [0,3] et) ⟨k+1,by omega,rfl⟩⟩
 obtain rfl:k=m.guards.length:=by omega
 repeat' first|refine ge @hlt ?_|decide|refine sp ?_ ?_<;>intro _
 clear hk hlt;refine af (fun st=>∃ k:Nat,k<=m.miles.length /\ st=⟨31,[(1,.op 0 0 0),(3,.osl 1),(20,eI (m.miles.length:Int)),(21,eI (k:Int))],[(0,some (.box 32 (am m))),(1,some (.row 97 2 (((List.range m.guards.length).map fun (k:Nat)=>(false,(k:Int))).map dS ++ ((List.range k).map fun (k:Nat)=>(true,(k:Int))).map dS)))],2⟩) (fun st=>m.miles.length - aw st 21) ⟨_,(wS [0,1] @List.range_zero),0,IY _,rfl⟩ ?_;rintro _ ⟨k,hk,rfl⟩;by_cases hlt:k<m.miles.length
 .have et:((List.range m.guards.length).map fun (k:Nat)=>(false,(k:Int))).map dS ++ ((List.range (k+1)).map fun (k:Nat)=>(true,(k:Int))).map dS=(((List.range m.guards.length).map fun (k:Nat)=>(false,(k:Int))).map dS ++ ((List.range k).map fun (k:Nat)=>(true,(k:Int))).map dS) ++ [dS (true,(k:Int))]:=by rw [List.range_succ];simp
  repeat' first|refine ge @hlt ?_|decide|refine sp ?_ ?_<;>intro _
  refine ⟨rfl,by simp;omega,rI (wS [0,3] et) ⟨k+1,by omega,rfl⟩⟩
 obtain rfl:k=m.miles.length:=by omega
 repeat' first|refine ge @hlt ?_|decide|refine sp ?_ ?_<;>intro _
 exact a5 (by simp [ag.gc,yq])
def cE (m:aF) (x:Bool × Int):Bool:=decide (0<=x.2) && decide (x.2<if x.1=true then (m.miles.length:Int) else (m.guards.length:Int))
theorem vM (m:aF) (b:Bool) (n:Int):ap Tryz.prog 112 [.agg (am m),.agg [eB b,eI n]] (val (.bool (cE m (b,n)))):=by
 refine aa ae Tryz.func112 rfl (by decide) Tryz.ntmps112 Tryz.results112 rfl (aq _) ?_;cases b
 .repeat' first|refine go ?_|decide|refine sp ?_ ?_<;>intro _
  all_goals (rename_i h;simp at h;simp [cE];omega)
 .repeat' first|refine go ?_|decide|refine sp ?_ ?_<;>intro _
  all_goals (rename_i h;simp at h;simp [cE];omega)
def eD (m:aF) (x:Bool × Int):Int:=if x.1=true then (m.miles[x.2.toNat]?.map (·.stage)).getD 0 else (m.guards[x.2.toNat]?.map (·.stage)).getD 0
def mq (m:aF) (x:Bool × Int):List az:=if x.1=true then (m.miles[x.2.toNat]?.map (·.cond)).getD [] else (m.guards[x.2.toNat]?.map (·.cond)).getD []
theorem pp {m:aF} {b:Bool} {n:Int} (h:cE m (b,n)=true):∃ k:Nat,n=(k:Int) /\ (b=true -> k<m.miles.length) /\ (b=false -> k<m.guards.length):=by
 simp only [cE,I2,Je] at h;obtain ⟨h1,h2⟩:=h;refine ⟨n.toNat,by omega,fun hb=>?_,fun hb=>?_⟩
 .subst hb;simp at h2;omega
 .subst hb;simp at h2;omega
theorem gE (m:aF) (b:Bool) (n:Int) (h:cE m (b,n)=true):ap Tryz.prog 135 [.agg (am m),.agg [eB b,eI n]] (val (.int .i64 (eD m (b,n)))):=by
 refine aa ae Tryz.func135 rfl (by decide) Tryz.ntmps135 Tryz.results135 rfl (aq _) ?_;obtain ⟨k,rfl,h1,h2⟩:=pp h;cases b
 .have hk:=h2 rfl;have e:eD m (false,(k:Int))=m.guards[k].stage:=by simp [eD,hk]
  rw [e]
  repeat' first|refine go ?_|simp only [hk,ac]|decide|refine sp ?_ ?_<;>intro _
 .have hk:=h1 rfl;have e:eD m (true,(k:Int))=m.miles[k].stage:=by simp [eD,hk]
  rw [e]
  repeat' first|refine go ?_|simp only [hk,ac]|decide|refine sp ?_ ?_<;>intro _
theorem AX (m:aF) (b:Bool) (n:Int) (h:cE m (b,n)=true):ap Tryz.prog 115 [.agg (am m),.agg [eB b,eI n]] ⟨aV (mq m (b,n)),[],0⟩:=by
 refine aa ae Tryz.func115 rfl (by decide) Tryz.ntmps115 Tryz.results115 rfl (⟨fun id o h=>(by cases h),trivial⟩) ?_;obtain ⟨k,rfl,h1,h2⟩:=pp h;cases b
 .have hk:=h2 rfl;have e:mq m (false,(k:Int))=m.guards[k].cond:=by simp [mq,hk]
  rw [e]
  repeat' first|refine go ?_|simp only [hk,ac]|decide|refine sp ?_ ?_<;>intro _
  exact aB (by simp [AV.ren,AV.renL])
 .have hk:=h1 rfl;have e:mq m (true,(k:Int))=m.miles[k].cond:=by simp [mq,hk]
  rw [e]
  repeat' first|refine go ?_|simp only [hk,ac]|decide|refine sp ?_ ?_<;>intro _
  exact aB (by simp [AV.ren,AV.renL])
theorem tc (m:aF) (hl:m.stages.length<=1000000):ap Tryz.prog 158 [.agg (am m)] (cu 3 1 ((pars m).map fun n=>[eI n])):=by
 refine aa ae Tryz.func158 rfl (by decide) Tryz.ntmps158 Tryz.results158 rfl (cK _ _ _) ?_
 repeat' first|refine go ?_|decide|refine sp ?_ ?_<;>intro _
 refine af (fun st=>∃ k:Nat,k<=m.stages.length /\ st=⟨20,[(3,.osl 0),(7,.sl 2 (m.stages.map rh)),(8,eI m.stages.length),(9,eI (k:Int))],[(0,some (.row 3 1 ((m.stages.take k).map fun p=>[eI p.2])))],1⟩) (fun st=>m.stages.length - aw st 9) ⟨_,((aW 3 3 1 (by simp only [f9,ai.get,a7,ai.put,↓reduceIte,reduceCtorEq,Nat.reduceLT,Nat.reduceEqDiff,Nat.reduceAdd,Nat.reduceLeDiff,eq_self,implies_true,I5,Jo])).trans (wS [1] @I5)),0,IY _,rfl⟩ ?_;rintro _ ⟨k,hk,rfl⟩;by_cases hlt:k<m.stages.length
 .have et:(m.stages.take (k+1)).map (fun p=>[eI p.2])=(m.stages.take k).map (fun p=>[eI p.2]) ++ [[eI m.stages[k].2]]:=df _ _ hlt;have el:((m.stages.take k).map fun p=>[eI p.2]).length+1<=1000000:=by simp;omega
  repeat' first|refine go ?_|simp only [ac,hlt]|decide|refine sp ?_ ?_<;>intro _
  refine ⟨rfl,by simp only [Jf];omega,rI (wS [3] et) ⟨k+1,by omega,rfl⟩⟩
 .obtain rfl:k=m.stages.length:=by omega
  repeat' first|refine go ?_|simp only [ac,hlt]|decide|refine sp ?_ ?_<;>intro _
  exact a5 (by simp [ag.gc,pars])
end
end
section
section
theorem r9 (l:List Int) (i:Int) (hl:l.length<=1073741824) (ho:∀ x ∈ l,aA x):ap Tryz.prog 81 [sI l,eI i] (cu 3 1 ((a8 l i).map fun n=>[eI n])):=
 re (bC Tryz.func81 rfl (by decide)) fun S w vs hS hn hv=>by
  obtain ⟨a,b,rfl⟩:=nZ hn;obtain rfl:=xz (hv 1 b _ rfl rfl);exact pH l a i w hl (mF (hv 0 a _ rfl rfl) hS ho)
def mT {α:Type} (p:α -> Bool) (l:List α):Int:=match l.findIdx? p with | some k=>(k:Int) | none=>-1
theorem qU {α:Type} {p:α -> Bool} {l:List α} {k:Nat} (hk:k<l.length) (h:p l[k]=true) (hn:∀ i (h:i<k),p (l[i]'(by omega))=false):mT p l=(k:Int):=by
 have:l.findIdx? p=some k:=Kk.2 ⟨hk,h,fun j hj=>by simp [hn j hj]⟩;unfold mT;rw [this]
theorem lD {α:Type} {p:α -> Bool} {l:List α} (h:∀ x ∈ l,p x=false):mT p l = -1:=by
 have:l.findIdx? p=none:=KA.2 h;unfold mT;rw [this]
theorem nE {α:Type} (p:α -> Bool) (l:List α):(mT p l = -1 /\ ∀ x ∈ l,p x=false) \/ ∃ k:Nat,∃ h:k<l.length,mT p l=(k:Int) /\ p l[k]=true /\ ∀ i (h:i<k),p (l[i]'(by omega))=false:=by
 unfold mT
 cases hf:l.findIdx? p with
 | none=>exact .inl ⟨rfl,KA.1 hf⟩
 | some k=>
  obtain ⟨h1,h2,h3⟩:=Kk.1 hf;exact .inr ⟨k,h1,rfl,h2,fun i hi=>by simpa using h3 i hi⟩
theorem mY {α:Type} (p:α -> Bool) (l:List α):decide (0<=mT p l)=l.any p:=by
 rcases nE p l with ⟨h1,h2⟩|⟨k,hk,h1,h2,_⟩
 .rw [h1];symm;simpa using h2
 .rw [h1];have:l.any p=true:=List.any_eq_true.2 ⟨_,IZ hk,h2⟩;rw [this];simp
theorem Dv (l:List Int) (n:Int) (hl:l.length<=1000000):ap Tryz.prog 131 [sI l,eI n] (val (.int .i64 (mT (n == ·) l))):=by
 refine aa ae Tryz.func131 rfl (by decide) Tryz.ntmps131 Tryz.results131 rfl (aq _) ?_
 repeat' first|refine go ?_|decide|refine sp ?_ ?_<;>intro _
 refine af (fun st=>∃ k:Nat,k<=l.length /\ (∀ i (h:i<l.length),i<k -> (n == l[i])=false) /\ st=⟨19,[(0,sI l),(1,eI n),(7,eI (l.length:Int)),(8,eI (k:Int))],[],0⟩) (fun st=>l.length - aw st 8) ⟨_,wC,0,IY _,fun i _ h=>by omega,rfl⟩ ?_;rintro _ ⟨k,hk,hn,rfl⟩;by_cases hlt:k<l.length
 .repeat' first|refine go ?_|simp only [ac,hlt]|decide|refine sp ?_ ?_<;>intro _
  .rename_i h;rw [qU hlt h fun i hi=>hn i (by omega) hi]
  .rename_i h;refine rI wC ⟨k+1,by omega,fun i hi h2=>?_,rfl⟩;rcases Jk i k with h3|h3
   .exact hn i hi h3
   .obtain rfl:i=k:=by omega
    exact h
 .obtain rfl:k=l.length:=by omega
  repeat' first|refine ge @hlt ?_|decide|refine sp ?_ ?_<;>intro _
  rw [lD fun x hx=>by obtain ⟨i,hi,rfl⟩:=Jw hx;exact hn i hi hi]
theorem ue (l:List Int) (n:Int) (hl:l.length<=1000000):ap Tryz.prog 107 [sI l,eI n] (val (.bool (l.any (n == ·)))):=by
 refine aa ae Tryz.func107 rfl (by decide) Tryz.ntmps107 Tryz.results107 rfl (aq _) ?_
 repeat' first|refine go ?_|decide|refine sp ?_ ?_<;>intro _
 refine ak (Dv l n hl) ?_
 repeat' first|refine go ?_|decide|refine sp ?_ ?_<;>intro _
 rw [mY]
theorem tQ (g:FuncId) (caps:List AV) (l:List (az)) (p:az -> Bool) (hl:l.length<=1000000) (ht:aI caps) (hp:∀ x ∈ l,ap Tryz.prog g (.agg (cV x) :: caps) (val (.bool (p x)))):ap Tryz.prog 136 [aV l,.fn g caps] (val (.int .i64 (mT p l))):=by
 refine aa ae Tryz.func136 rfl (by decide) Tryz.ntmps136 Tryz.results136 rfl (aq _) ?_;have hlt0:AV.ltL 0 caps:=kX ht
 repeat' first|refine go ?_|decide|refine sp ?_ ?_<;>intro _
 refine af (fun st=>∃ k:Nat,k<=l.length /\ (∀ i (h:i<l.length),i<k -> p l[i]=false) /\ st=⟨19,[(0,aV l),(1,.fn g caps),(7,eI (l.length:Int)),(8,eI (k:Int))],[],0⟩) (fun st=>l.length - aw st 8) ⟨_,(wE @hlt0),0,IY _,fun i _ h=>by omega,rfl⟩ ?_;rintro _ ⟨k,hk,hn,rfl⟩;by_cases hlt:k<l.length
 .repeat' first|refine go ?_|simp only [ac,hlt]|decide|refine sp ?_ ?_<;>intro _
  refine wG (args:=[_]) ht (hp _ (IZ hlt)) ?_
  repeat' first|refine go ?_|simp only [ac,hlt]|decide|refine sp ?_ ?_<;>intro _
  .rename_i h;rw [qU hlt h fun i hi=>hn i (by omega) hi]
  .rename_i h;refine rI (wE @hlt0) ⟨k+1,by omega,fun i hi h2=>?_,rfl⟩;rcases Jk i k with h3|h3
   .exact hn i hi h3
   .obtain rfl:i=k:=by omega
    exact h
 .obtain rfl:k=l.length:=by omega
  repeat' first|refine ge @hlt ?_|decide|refine sp ?_ ?_<;>intro _
  rw [lD fun x hx=>by obtain ⟨i,hi,rfl⟩:=Jw hx;exact hn i hi hi]
theorem oI (g:FuncId) (caps:List AV) (l:List (az)) (p:az -> Bool) (hl:l.length<=1000000) (ht:aI caps) (hp:∀ x ∈ l,ap Tryz.prog g (.agg (cV x) :: caps) (val (.bool (p x)))):ap Tryz.prog 114 [aV l,.fn g caps] (val (.bool (l.any p))):=by
 refine aa ae Tryz.func114 rfl (by decide) Tryz.ntmps114 Tryz.results114 rfl (aq _) ?_
 repeat' first|refine go ?_|decide|refine sp ?_ ?_<;>intro _
 refine ak (by simp only [JN,Jo,dk];rw [show caps.map (dU [])=caps from iE ht];exact tQ g caps l p hl ht hp) ?_
 repeat' first|refine go ?_|decide|refine sp ?_ ?_<;>intro _
 rw [mY]
theorem ph (g:FuncId) (caps:List AV) (l:List (Bool × Int)) (p:Bool × Int -> Bool) (hl:l.length<=1000000) (ht:aI caps) (hp:∀ x ∈ l,ap Tryz.prog g (.agg (dS x) :: caps) (val (.bool (p x)))):ap Tryz.prog 86 [.sl 2 (l.map dS),.fn g caps] (val (.int .i64 (mT p l))):=by
 refine aa ae Tryz.func86 rfl (by decide) Tryz.ntmps86 Tryz.results86 rfl (aq _) ?_;have hlt0:AV.ltL 0 caps:=kX ht
 repeat' first|refine go ?_|decide|refine sp ?_ ?_<;>intro _
 refine af (fun st=>∃ k:Nat,k<=l.length /\ (∀ i (h:i<l.length),i<k -> p l[i]=false) /\ st=⟨19,[(0,.sl 2 (l.map dS)),(1,.fn g caps),(7,eI (l.length:Int)),(8,eI (k:Int))],[],0⟩) (fun st=>l.length - aw st 8) ⟨_,(wE @hlt0),0,IY _,fun i _ h=>by omega,rfl⟩ ?_;rintro _ ⟨k,hk,hn,rfl⟩;by_cases hlt:k<l.length
 .repeat' first|refine go ?_|simp only [ac,hlt]|decide|refine sp ?_ ?_<;>intro _
  refine wG (args:=[_]) ht (hp _ (IZ hlt)) ?_
  repeat' first|refine go ?_|simp only [ac,hlt]|decide|refine sp ?_ ?_<;>intro _
  .rename_i h;rw [qU hlt h fun i hi=>hn i (by omega) hi]
  .rename_i h;refine rI (wE @hlt0) ⟨k+1,by omega,fun i hi h2=>?_,rfl⟩;rcases Jk i k with h3|h3
   .exact hn i hi h3
   .obtain rfl:i=k:=by omega
    exact h
 .obtain rfl:k=l.length:=by omega
  repeat' first|refine ge @hlt ?_|decide|refine sp ?_ ?_<;>intro _
  rw [lD fun x hx=>by obtain ⟨i,hi,rfl⟩:=Jw hx;exact hn i hi hi]
theorem qZ (g:FuncId) (caps:List AV) (l:List (Bool × Int)) (p:Bool × Int -> Bool) (hl:l.length<=1000000) (ht:aI caps) (hp:∀ x ∈ l,ap Tryz.prog g (.agg (dS x) :: caps) (val (.bool (p x)))):ap Tryz.prog 88 [.sl 2 (l.map dS),.fn g caps] (val (.bool (l.any p))):=by
 refine aa ae Tryz.func88 rfl (by decide) Tryz.ntmps88 Tryz.results88 rfl (aq _) ?_
 repeat' first|refine go ?_|decide|refine sp ?_ ?_<;>intro _
 refine ak (by simp only [JN,Jo,dk];rw [show caps.map (dU [])=caps from iE ht];exact ph g caps l p hl ht hp) ?_
 repeat' first|refine go ?_|decide|refine sp ?_ ?_<;>intro _
 rw [mY]
end
section
theorem oB (l:List Int) (i:Int):(a8 l i).length<=l.length:=by
 obtain ⟨m,p,h,_⟩:=gZ l i;rw [h.len];have:=h.room;omega
theorem qn {m:aF} (hp:∀ p ∈ m.stages,aA p.2):∀ x ∈ pars m,aA x:=fun x hx=>by
 obtain ⟨p,hp',rfl⟩:=I7.1 hx;exact hp p hp'
def lp (m:aF) (y:Bool × Int) (s:Int):Bool:=eD m y == s || (y.1 && (a8 (pars m) s).any (eD m y == ·))
theorem CY (m:aF) (b:Bool) (n s:Int) (hm:m.stages.length<=1000000) (hp:∀ p ∈ m.stages,aA p.2) (h:cE m (b,n)=true):ap Tryz.prog 137 [.agg (am m),.agg [eB b,eI n],eI s] (val (.bool (lp m (b,n) s))):=by
 refine aa ae Tryz.func137 rfl (by decide) Tryz.ntmps137 Tryz.results137 rfl (aq _) ?_;have hpl:(pars m).length<=1000000:=by simp [pars];omega
 have hal:=oB (pars m) s
 repeat' first|refine go ?_|decide|refine sp ?_ ?_<;>intro _
 refine ak (gE m b n h) ?_
 repeat' first|refine go ?_|decide|refine sp ?_ ?_<;>intro _
 .rename_i h1;simp [lp,h1]
 .rename_i h1 h2;refine cQ (tc m hm) (.inr bq) ?_
  repeat' first|refine go ?_|decide|refine sp ?_ ?_<;>intro _
  refine cQ (r9 (pars m) s (by omega) (qn hp)) (.inr bq) ?_
  repeat' first|refine go ?_|decide|refine sp ?_ ?_<;>intro _
  refine ak (ue _ _ (by omega)) ?_
  repeat' first|refine go ?_|decide|refine sp ?_ ?_<;>intro _
  subst h2;simp only [lp,h1,KT,JU]
 .rename_i h1 h2;subst h2;simp only [lp,h1,KT,Ke]
def fx (m:aF) (x:az) (y:Bool × Int):Bool:=
 if x.op=9 then lp m y x.n else if x.op=10 then (if y.1=true then y.2 == x.n else decide (0<=x.n) && decide (x.n<(m.miles.length:Int)) && (eD m y == eD m (true,x.n))) else false
theorem Dg (m:aF) (x:az) (b:Bool) (n:Int) (hm:m.stages.length<=1000000) (hm2:m.miles.length<=1000000) (hp:∀ p ∈ m.stages,aA p.2) (h:cE m (b,n)=true):ap Tryz.prog 117 [.agg (am m),.agg (cV x),.agg [eB b,eI n]] (val (.bool (fx m x (b,n)))):=by
 refine aa ae Tryz.func117 rfl (by decide) Tryz.ntmps117 Tryz.results117 rfl (aq _) ?_;obtain ⟨op,la,ln,ra,rn,xn,u⟩:=x
 repeat' first|refine go ?_|decide|refine sp ?_ ?_<;>intro _
 .rename_i h1;have h1:op=9:=by simpa using h1
  refine ak (CY m b n xn hm hp h) ?_
  repeat' first|refine go ?_|decide|refine sp ?_ ?_<;>intro _
  simp [fx,h1]
 .rename_i h1 h2 h3;have h1:op ≠ 9:=by simpa using h1
  have h2:op=10:=by simpa using h2
  simp [fx,h2,h3]
 .rename_i h1 h2 h3;have h1:op ≠ 9:=by simpa using h1
  have h2:op=10:=by simpa using h2
  have e0:fx m ⟨op,la,ln,ra,rn,xn,u⟩ (b,n)=(decide (0<=xn) && decide (xn<(m.miles.length:Int)) && (eD m (b,n) == eD m (true,xn))):=by simp [fx,h2,h3]
  rw [e0];by_cases hn:0<=xn /\ xn<(m.miles.length:Int)
  .obtain ⟨j,rfl⟩:∃ j:Nat,xn=(j:Int):=⟨xn.toNat,by omega⟩;have hj:j<m.miles.length:=(by omega);refine ao (by kernel_rfl) ?_
   repeat' first|refine go ?_|simp only [ac,hj]|decide|refine sp ?_ ?_<;>intro _
   refine aD (gE m b n h) ?_
   repeat' first|refine go ?_|simp only [ac,hj]|decide|refine sp ?_ ?_<;>intro _
   simp [eD,hj]
  .have hn2:decide (0<=xn)=false \/ decide (xn<(m.miles.length:Int))=false:=by
    rcases Int.lt_or_le xn 0 with h|h
    .left;simp;omega
    .right;simp;omega
   rcases hn2 with hn2|hn2
   .rw [hn2];refine ao (by kernel_rfl) ?_
    repeat' first|refine ge hn2 ?_|decide|refine sp ?_ ?_<;>intro _
    all_goals simp
   .rw [hn2];refine ao (by kernel_rfl) ?_
    repeat' first|refine ge hn2 ?_|decide|refine sp ?_ ?_<;>intro _
    all_goals simp
 .rename_i h1 h2;have h1:op ≠ 9:=by simpa using h1
  have h2:op ≠ 10:=by simpa using h2
  simp [fx,h1,h2]
def g4 (m:aF) (x y:Bool × Int):Bool:=
 if y.1=true then false else if x.1=true then eD m x == eD m y else decide (0<=eD m x) && decide (eD m x<(m.stages.length:Int)) && ((m.stages[(eD m x).toNat]?.map (·.2)).getD 0 == eD m y)
theorem Bo (m:aF) (bx:Bool) (nx:Int) (b:Bool) (n:Int) (hm:m.stages.length<=1000000) (hx:cE m (bx,nx)=true) (h:cE m (b,n)=true):ap Tryz.prog 113 [.agg (am m),.agg [eB bx,eI nx],.agg [eB b,eI n]] (val (.bool (g4 m (bx,nx) (b,n)))):=by
 refine aa ae Tryz.func113 rfl (by decide) Tryz.ntmps113 Tryz.results113 rfl (aq _) ?_
 repeat' first|refine go ?_|decide|refine sp ?_ ?_<;>intro _
 refine ak (gE m bx nx hx) ?_;generalize hsx:eD m (bx,nx)=sx
 repeat' first|refine go ?_|decide|refine sp ?_ ?_<;>intro _
 .rename_i h1;simp [g4,h1]
 .rename_i h1 h2;refine ak (gE m b n h) ?_
  repeat' first|refine go ?_|decide|refine sp ?_ ?_<;>intro _
  subst h1;subst h2;simp [g4,hsx]
 .rename_i h1 h2;subst h1;subst h2;have e0:g4 m (false,nx) (false,n)=(decide (0<=sx) && decide (sx<(m.stages.length:Int)) && ((m.stages[sx.toNat]?.map (·.2)).getD 0 == eD m (false,n))):=by simp [g4,hsx]
  rw [e0];by_cases hn:0<=sx /\ sx<(m.stages.length:Int)
  .obtain ⟨j,rfl⟩:∃ j:Nat,sx=(j:Int):=⟨sx.toNat,by omega⟩;have hj:j<m.stages.length:=(by omega);refine ao (by kernel_rfl) ?_
   repeat' first|refine go ?_|simp only [ac,hj]|decide|refine sp ?_ ?_<;>intro _
   refine aD (gE m false n h) ?_
   repeat' first|refine go ?_|simp only [ac,hj]|decide|refine sp ?_ ?_<;>intro _
   simp [hj]
  .have hn2:decide (0<=sx)=false \/ decide (sx<(m.stages.length:Int))=false:=by
    rcases Int.lt_or_le sx 0 with h|h
    .left;simp;omega
    .right;simp;omega
   rcases hn2 with hn2|hn2
   .rw [hn2];refine ao (by kernel_rfl) ?_
    repeat' first|refine ge hn2 ?_|decide|refine sp ?_ ?_<;>intro _
    all_goals simp
   .rw [hn2];refine ao (by kernel_rfl) ?_
    repeat' first|refine ge hn2 ?_|decide|refine sp ?_ ?_<;>intro _
    all_goals simp
end
section
theorem B3 (m:aF) (x:az) (b:Bool) (n:Int) (hm:m.stages.length<=1000000) (hm2:m.miles.length<=1000000) (hp:∀ p ∈ m.stages,aA p.2) (h:cE m (b,n)=true):ap Tryz.prog 116 [.agg (cV x),.rp (am m),.rp [eB b,eI n]] (val (.bool (fx m x (b,n)))):=by
 refine aa ae Tryz.func116 rfl (by decide) Tryz.ntmps116 Tryz.results116 rfl (aq _) ?_
 repeat' first|refine go ?_|decide|refine sp ?_ ?_<;>intro _
 refine ak (Dg m x b n hm hm2 hp h) ?_
 repeat' first|refine go ?_|decide|refine sp ?_ ?_<;>intro _
def dN (m:aF) (x y:Bool × Int):Bool:=cE m x && cE m y && (g4 m x y || (mq m x).any fun i=>fx m i y)
theorem Ci {m:aF} (hf:iC m) (x:Bool × Int):(mq m x).length<=80:=by
 unfold mq;split
 .cases h:m.miles[x.2.toNat]? with
  | none=>simp
  | some g=>exact hf.miles g (p0 h)
 .cases h:m.guards[x.2.toNat]? with
  | none=>simp
  | some g=>exact hf.guards g (p0 h)
theorem yx (m:aF) (bx:Bool) (nx:Int) (b:Bool) (n:Int) (hf:iC m) (hp:∀ p ∈ m.stages,aA p.2):ap Tryz.prog 90 [.agg (am m),.agg [eB bx,eI nx],.agg [eB b,eI n]] (val (.bool (dN m (bx,nx) (b,n)))):=by
 refine aa ae Tryz.func90 rfl (by decide) Tryz.ntmps90 Tryz.results90 rfl (aq _) ?_;obtain ⟨hg,hm2,hm,-⟩:=id hf.sizes
 repeat' first|refine go ?_|decide|refine sp ?_ ?_<;>intro _
 refine ak (vM m bx nx) ?_
 repeat' first|refine go ?_|decide|refine sp ?_ ?_<;>intro _
 .rename_i h1;simp at h1;simp [dN,h1]
 rename_i h1;have h1:cE m (bx,nx)=true:=by simpa using h1
 refine ak (vM m b n) ?_
 repeat' first|refine go ?_|decide|refine sp ?_ ?_<;>intro _
 .rename_i h2;simp at h2;simp [dN,h2]
 rename_i h2;have h2:cE m (b,n)=true:=by simpa using h2
 refine ak (Bo m bx nx b n (by omega) h1 h2) ?_
 repeat' first|refine go ?_|decide|refine sp ?_ ?_<;>intro _
 .rename_i h3;simp [dN,h1,h2,h3]
 rename_i h3;refine dJ (AX m bx nx h1) (ro) ?_;have hcl:=Ci hf (bx,nx)
 repeat' first|refine go ?_|decide|refine sp ?_ ?_<;>intro _
 refine ak (oI 116 [.rp (am m),.rp [eB b,eI n]] (mq m (bx,nx)) (fun i=>fx m i (b,n)) (by omega) ⟨trivial,trivial,trivial⟩ fun x _=>B3 m x b n (by omega) (by omega) hp h2) ?_
 repeat' first|refine go ?_|decide|refine sp ?_ ?_<;>intro _
 simp [dN,h1,h2,h3]
end
end
section
section
noncomputable def rT (m:aF) (x:az) (y:Nat):Bool:=
 if x.op=9 then be m y == x.n || (!decide (y<m.guards.length) && decide (Ct (pars m) (be m y) x.n))
 else if x.op=10 then (if y<m.guards.length then decide (0<=x.n) && decide (x.n<(m.miles.length:Int)) && (eD m (true,x.n) == be m y) else ((y - m.guards.length:Nat):Int) == x.n) else false
theorem Ih (m:aF) (x:az) (y:Nat) (hf:iC m) (hp:∀ p ∈ m.stages,aA p.2) (hy:y<m.guards.length+m.miles.length):ap Tryz.prog 76 [.agg (am m),.agg (cV x),eI (y:Int)] (val (.bool (rT m x y))):=by
 refine aa ae Tryz.func76 rfl (by decide) Tryz.ntmps76 Tryz.results76 rfl (aq _) ?_;obtain ⟨hg,hm,hst,-⟩:=id hf.sizes;obtain ⟨op,la,ln,ra,rn,n,u⟩:=x;have hpl:(pars m).length<=1073741824:=by simp [pars];omega
 by_cases h9:op=9
 .subst h9;have z1:((9:Int) == 9)=true:=rfl;have e0:rT m ⟨9,la,ln,ra,rn,n,u⟩ y=(be m y == n || (!decide (y<m.guards.length) && decide (Ct (pars m) (be m y) n))):=by simp [rT]
  rw [e0]
  repeat' first|refine ge z1 ?_|decide|refine sp ?_ ?_<;>intro _
  refine bk [] [0,1,3,4] (.exec 2 (.take 5 (.take 6 (.take 7 (.take 8 (.take 9 (.take 10 (.take 12 (.take 13 (.take 15 (.take 16 (.exec 11 (.exec 14 (.exec 17 (.take 18 (.take 19 (.exec 20 .done))))))))))))))))) (by kernel_rfl) (by simp) ?_
  repeat' first|refine go ?_|decide|refine sp ?_ ?_<;>intro _
  refine ak (g7 m y hf hy) ?_;by_cases hs:be m y=n
  .have z2:(be m y == n)=true:=(by simp [hs]);rw [z2]
   repeat' first|refine ge z2 ?_|decide|refine sp ?_ ?_<;>intro _
   all_goals simp
  .have z2:(be m y == n)=false:=(by simp [hs]);rw [z2,KT];by_cases hgd:y<m.guards.length
   .have z3:decide (y<m.guards.length)=true:=Jc hgd;rw [z3]
    repeat' first|refine ge (kf z2 z3) ?_|decide|refine sp ?_ ?_<;>intro _
    all_goals try simp
   .have z3:decide (y<m.guards.length)=false:=I3 hgd;rw [z3]
    repeat' first|refine ge (kf z2 z3) ?_|decide|refine sp ?_ ?_<;>intro _
    refine cQ (kG m (by omega)) (.inr bq) ?_
    repeat' first|refine ge (kf z2 z3) ?_|decide|refine sp ?_ ?_<;>intro _
    refine ak (g7 m y hf hy) ?_
    repeat' first|refine ge (kf z2 z3) ?_|decide|refine sp ?_ ?_<;>intro _
    refine ak (Eb (pars m) (be m y) n hpl (qn hp)) ?_
    repeat' first|refine ge (kf z2 z3) ?_|decide|refine sp ?_ ?_<;>intro _
    all_goals simp
 by_cases h10:op=10
 .subst h10;have z1:((10:Int) == 9)=false:=rfl;have z4:((10:Int) == 10)=true:=rfl;by_cases hgd:y<m.guards.length
  .have z3:decide (y<m.guards.length)=true:=Jc hgd;have e0:rT m ⟨10,la,ln,ra,rn,n,u⟩ y=(decide (0<=n) && decide (n<(m.miles.length:Int)) && (eD m (true,n) == be m y)):=(by simp [rT,hgd]);rw [e0];by_cases hn:0<=n /\ n<(m.miles.length:Int)
   .obtain ⟨j,rfl⟩:∃ j:Nat,n=(j:Int):=⟨n.toNat,by omega⟩;have hj:j<m.miles.length:=(by omega)
    repeat' first|refine ge (kf z1 (kf z3 z4)) ?_|decide|refine sp ?_ ?_<;>intro _
    refine ao (by kernel_rfl) ?_
    repeat' first|refine go ?_|simp only [z4,ac,hj]|decide|refine sp ?_ ?_<;>intro _
    refine aD (g7 m y hf hy) ?_
    repeat' first|refine go ?_|simp only [z4,ac,hj]|decide|refine sp ?_ ?_<;>intro _
    simp [eD,hj]
   .have hn2:decide (0<=n)=false \/ decide (n<(m.miles.length:Int))=false:=by
     rcases Int.lt_or_le n 0 with h|h
     .left;simp;omega
     .right;simp;omega
    rcases hn2 with hn2|hn2
    .rw [hn2]
     repeat' first|refine ge (kf z1 (kf z3 z4)) ?_|decide|refine sp ?_ ?_<;>intro _
     refine ao (by kernel_rfl) ?_
     repeat' first|refine ge (kf z4 hn2) ?_|decide|refine sp ?_ ?_<;>intro _
     all_goals simp
    .rw [hn2]
     repeat' first|refine ge (kf z1 (kf z3 z4)) ?_|decide|refine sp ?_ ?_<;>intro _
     refine ao (by kernel_rfl) ?_
     repeat' first|refine ge (kf z4 hn2) ?_|decide|refine sp ?_ ?_<;>intro _
     all_goals simp
  .have z3:decide (y<m.guards.length)=false:=I3 hgd;have e0:rT m ⟨10,la,ln,ra,rn,n,u⟩ y=(((y - m.guards.length:Nat):Int) == n):=(by simp [rT,hgd]);rw [e0];have ew:IntKind.i64.wrap ((y:Int) - (m.guards.length:Int))=((y - m.guards.length:Nat):Int):=by rw [aP (by omega) (by omega)];omega
   repeat' first|refine ge (kf z1 (kf z3 (kf z4 ew))) ?_|decide|refine sp ?_ ?_<;>intro _
 .have z1:(op == 9)=false:=by simp [h9]
  have z4:(op == 10)=false:=by simp [h10]
  have e0:rT m ⟨op,la,ln,ra,rn,n,u⟩ y=false:=by simp [rT,h9,h10]
  rw [e0]
  repeat' first|refine ge (kf z1 z4) ?_|decide|refine sp ?_ ?_<;>intro _
  all_goals
   refine ao (by kernel_rfl) ?_
   repeat' first|refine ge (kf z1 z4) ?_|decide|refine sp ?_ ?_<;>intro _
noncomputable def cS (m:aF) (x y:Nat):Bool:=((eQ m x).any fun i=>rT m i y) || (decide (y<m.guards.length) && (if x<m.guards.length then decide (0<=be m x) && decide (be m x<(m.stages.length:Int)) && ((m.stages[(be m x).toNat]?.map (·.2)).getD 0 == be m y) else be m x == be m y))
theorem oG {α:Type} (l:List α) (p:α -> Bool) {k:Nat} (h:k<l.length):(l.take (k+1)).any p=((l.take k).any p || p l[k]):=by
 rw [Jb h,List.any_append];simp
theorem Af (m:aF) (x y:Nat) (hf:iC m) (hp:∀ p ∈ m.stages,aA p.2) (hx:x<m.guards.length+m.miles.length) (hy:y<m.guards.length+m.miles.length):ap Tryz.prog 32 [.agg (am m),eI (x:Int),eI (y:Int)] (val (.bool (cS m x y))):=by
 refine aa ae Tryz.func32 rfl (by decide) Tryz.ntmps32 Tryz.results32 rfl (aq _) ?_;obtain ⟨hg,hm,-⟩:=id hf.sizes
 repeat' first|refine go ?_|decide|refine sp ?_ ?_<;>intro _
 refine dJ (Hl m x hf hx) (ro) ?_;have hcl:=vF m hf x;obtain ⟨l,hl⟩:∃ l,l=eQ m x:=⟨_,rfl⟩;obtain ⟨w,hw⟩:∃ w,w=cS m x y:=⟨_,rfl⟩;have hwd:cS m x y=(l.any (fun i=>rT m i y) || (decide (y<m.guards.length) && (if x<m.guards.length then decide (0<=be m x) && decide (be m x<(m.stages.length:Int)) && ((m.stages[(be m x).toNat]?.map (·.2)).getD 0 == be m y) else be m x == be m y))):=by rw [hl];rfl
 rw [<- hl] at hcl ⊢;rw [<- hw] at hwd ⊢
 repeat' first|refine go ?_|decide|refine sp ?_ ?_<;>intro _
 refine af (fun st=>∃ (k:Nat),(k<=l.length /\ (l.take k).any (fun i=>rT m i y)=false) /\ st=⟨65,[(1,eI (x:Int)),(2,eI (y:Int)),(3,.op 0 0 0),(7,aV l),(8,eI (k:Int))],[(0,some (.box 32 (am m)))],1⟩) (fun st=>l.length - aw st 8) ⟨_,wC,0,⟨IY _,rfl⟩,rfl⟩ ?_;rintro _ ⟨k,⟨hk,hI⟩,rfl⟩;by_cases hlt:k<l.length
 .repeat' first|refine go ?_|simp only [ac,hlt]|decide|refine sp ?_ ?_<;>intro _
  refine bk [] [0,1,2,3,4,5] (.exec 6 .done) (by kernel_rfl) (by simp) ?_
  repeat' first|refine go ?_|simp only [ac,hlt]|decide|refine sp ?_ ?_<;>intro _
  refine ak (Ih m l[k] y hf hp hy) ?_;have hst:=oG l (fun i=>rT m i y) hlt
  cases hb:rT m l[k] y with
  | true=>
   have hwt:w=true:=by
    have:l.any (fun i=>rT m i y)=true:=List.any_eq_true.2 ⟨_,IZ hlt,hb⟩;rw [hwd,this,Bool.true_or]
   rw [hwt]
   repeat' first|refine go ?_|simp only [ac,hlt]|decide|refine sp ?_ ?_<;>intro _
  | false=>
   repeat' first|refine go ?_|simp only [ac,hlt]|decide|refine sp ?_ ?_<;>intro _
   exact rI wC ⟨k+1,⟨by omega,by rw [hst,hI,hb];rfl⟩,rfl⟩
 .obtain rfl:k=l.length:=by omega
  rw [I9] at hI;rw [hI,KT] at hwd;by_cases hgd:y<m.guards.length
  .have z3:decide (y<m.guards.length)=true:=Jc hgd;rw [z3,JU] at hwd;have z3n:decide (m.guards.length<=y)=false:=I3 (by omega);by_cases hxg:x<m.guards.length
   .have z5:decide (m.guards.length<=x)=false:=I3 (by omega);rw [I8 hxg] at hwd
    repeat' first|refine ge (kf @hlt (kf @z3n z5)) ?_|decide|refine sp ?_ ?_<;>intro _
    refine ak (g7 m x hf hx) ?_;generalize be m x=sx at *
    repeat' first|refine ge z5 ?_|decide|refine sp ?_ ?_<;>intro _
    by_cases hn:0<=sx /\ sx<(m.stages.length:Int)
    .obtain ⟨j,rfl⟩:∃ j:Nat,sx=(j:Int):=⟨sx.toNat,by omega⟩;have hj:j<m.stages.length:=(by omega);have hwe:w=(m.stages[j].2 == be m y):=by rw [hwd];simp [hj]
     rw [hwe];refine ao (by kernel_rfl) ?_
     repeat' first|refine go ?_|simp only [ac,hj]|decide|refine sp ?_ ?_<;>intro _
     refine aD (g7 m y hf hy) ?_
     repeat' first|refine go ?_|simp only [ac,hj]|decide|refine sp ?_ ?_<;>intro _
    .have hn2:decide (0<=sx)=false \/ (decide (0<=sx)=true /\ decide (sx<(m.stages.length:Int))=false):=by
      rcases Int.lt_or_le sx 0 with h|h
      .left;simp;omega
      .right;exact ⟨Jc h,by simp;omega⟩
     rcases hn2 with hn2|⟨hn1,hn2⟩
     .rw [hn2,Ke,Ke] at hwd;rw [hwd];refine ao (by kernel_rfl) ?_
      repeat' first|refine ge hn2 ?_|decide|refine sp ?_ ?_<;>intro _
     .rw [hn1,hn2,JU,Ke] at hwd;rw [hwd];refine ao (by kernel_rfl) ?_
      repeat' first|refine ge (kf hn1 hn2) ?_|decide|refine sp ?_ ?_<;>intro _
   .have z5:decide (m.guards.length<=x)=true:=Jc (by omega);rw [I4 hxg] at hwd;rw [hwd]
    repeat' first|refine ge (kf @hlt (kf @z3n z5)) ?_|decide|refine sp ?_ ?_<;>intro _
    refine ak (g7 m x hf hx) ?_
    repeat' first|refine ge z5 ?_|decide|refine sp ?_ ?_<;>intro _
    refine ak (g7 m y hf hy) ?_
    repeat' first|refine go ?_|decide|refine sp ?_ ?_<;>intro _
  .have z3:decide (y<m.guards.length)=false:=I3 hgd;rw [z3,Ke] at hwd;rw [hwd];have z3n:decide (m.guards.length<=y)=true:=Jc (by omega)
   repeat' first|refine ge (kf @hlt @z3n) ?_|decide|refine sp ?_ ?_<;>intro _
end
section
abbrev gi (m:aF):Nat:=m.guards.length+m.miles.length
theorem wI (l:List Int) (a s:Int) (h:a ≠ s):((a8 l s).any (a == ·))=decide (Ct l a s):=by
 rw [KR,List.any_eq_true,decide_eq_true_iff];constructor
 .rintro ⟨x,hx,he⟩;obtain rfl:a=x:=eq_of_beq he
  have h0:0<=a:=by
   have:=sA l s a hx;unfold bw at this;omega
  obtain ⟨j,h1,h2,h3⟩:=(jb l s a h0 (Ne.symm h)).1 hx;exact ⟨j,h1,h2,h0,h3⟩
 .rintro ⟨j,h1,h2,h0,h3⟩;exact ⟨a,(jb l s a h0 (Ne.symm h)).2 ⟨j,h1,h2,h3⟩,by simp⟩
theorem A4 {m:aF} {i:Nat} (h:i<m.guards.length):bD m i=(false,(i:Int)):=by simp [bD,h]
theorem xP {m:aF} {i:Nat} (h:¬ i<m.guards.length):bD m i=(true,((i - m.guards.length:Nat):Int)):=by simp [bD,h]
theorem qu (m:aF) (i:Nat):eD m (bD m i)=be m i:=by
 by_cases h:i<m.guards.length
 .rw [A4 h];simp [eD,be,h]
 .rw [xP h];simp [eD,be,h]
theorem EY (m:aF) (i:Nat):mq m (bD m i)=eQ m i:=by
 by_cases h:i<m.guards.length
 .rw [A4 h];simp [mq,eQ,h]
 .rw [xP h];simp [mq,eQ,h]
theorem sM {m:aF} {i:Nat} (h:i<gi m):cE m (bD m i)=true:=by
 by_cases h2:i<m.guards.length
 .rw [A4 h2];simp [cE,h2]
 .rw [xP h2];simp [cE];unfold gi at h;omega
theorem qo (m:aF) (i:Nat):(bD m i).1 = !decide (i<m.guards.length):=by
 by_cases h:i<m.guards.length
 .rw [A4 h];simp [h]
 .rw [xP h];simp [h]
theorem B7 (m:aF) (x:az) (y:Nat):fx m x (bD m y)=rT m x y:=by
 unfold fx rT;by_cases h9:x.op=9
 .rw [I8 h9,I8 h9];unfold lp;rw [qu,qo];by_cases he:be m y=x.n
  .simp [he]
  .rw [wI _ _ _ he]
 .rw [I4 h9,I4 h9];by_cases h10:x.op=10
  .rw [I8 h10,I8 h10,qo,qu];by_cases hg:y<m.guards.length
   .simp only [hg,decide_true,Bool.not_true,Jv,if_false,if_true];rw [Bool.beq_comm (a:=be m y)]
   .simp only [hg,decide_false,Bool.not_false,if_true,if_false];rw [xP hg]
  .rw [I4 h10,I4 h10]
theorem sG {m:aF} {x y:Nat} (hx:x<gi m) (hy:y<gi m):dN m (bD m x) (bD m y)=cS m x y:=by
 unfold dN cS;rw [sM hx,sM hy,EY,JU,JU,Bool.or_comm]
 congr 1
 .congr 1
  funext i
  exact B7 m i y
 .unfold g4;rw [qo,qo,qu,qu];by_cases hg:y<m.guards.length<;>by_cases hg2:x<m.guards.length<;>simp [hg,hg2]
def rD (m:aF) (js:List Nat) (i:Nat):Prop:=i ∉ js /\ ∀ k,k<gi m -> k ∈ js \/ cS m i k=false
structure jv (m:aF) (js:List Nat) (i:Nat):Prop where
 lt:i<gi m
 free:rD m js i
 first:∀ i',i'<i -> ¬ rD m js i'
theorem jv.uniq {m:aF} {js:List Nat} {i k:Nat} (h:jv m js i) (h2:jv m js k):i=k:=by
 rcases Ko i k with h3|h3|h3
 .exact absurd h.free (h2.first i h3)
 .exact h3
 .exact absurd h2.free (h.first k h3)
def jO (m:aF) (js:List Nat):Prop:=∀ j (h:j<js.length),jv m (js.take j) js[j]
theorem ta {m:aF} {js:List Nat} {i:Nat} (h:jO m js) (hi:jv m js i):jO m (js ++ [i]):=fun j hj=>by
 rw [I0,Jr] at hj;rcases Jk j js.length with h3|h3
 .rw [JZ (by omega),List.getElem_append_left h3];exact h j h3
 .obtain rfl:j=js.length:=by omega
  rw [JZ (by omega),I9,List.getElem_append_right (by omega)];simpa using hi
theorem qE {bs:List Bool} {js:List Nat} {n j:Nat} (hb:∀ i (h:i<bs.length),bs[i]=decide (i ∈ js)):∀ i (h:i<(bs.set j true).length),(bs.set j true)[i]=decide (i ∈ js ++ [j]):=fun i h=>by
 rw [List.getElem_set];split
 .rename_i e;subst e;simp
 .rename_i e;rw [hb];simp [Ne.symm e]
theorem A0 (m:aF) (hf:iC m) (hp:∀ p ∈ m.stages,aA p.2):bh Tryz.prog 15 [.agg (am m)] fun R=>(∃ js:List Nat,R=⟨.tup [.osl 0,eI 0],[(0,some (.row 97 2 ((js.map (bD m)).map dS)))],1⟩ /\ js.length=gi m /\ jO m js) \/ R=⟨.tup [.c (.slice none 0 0),eI 10],[],0⟩:=by
 refine ay ae Tryz.func15 rfl (by decide) Tryz.ntmps15 Tryz.results15 rfl ?_;obtain ⟨hg,hm,-⟩:=id hf.sizes
 repeat' first|refine go ?_|decide|refine sp ?_ ?_<;>intro _
 refine ak (D8 m hf) ?_;obtain ⟨n,hn⟩:∃ n,n=m.guards.length+m.miles.length:=⟨_,rfl⟩;have hnS:gi m=n:=hn.symm;rw [<- hn]
 repeat' first|refine go ?_|decide|refine sp ?_ ?_<;>intro _
 refine ⟨by omega,?_⟩;refine af (fun st=>∃ (bs:List Bool) (js:List Nat),(bs.length=n /\ js.length<=n /\ (∀ i (h:i<bs.length),bs[i]=decide (i ∈ js)) /\ jO m js) /\ st=⟨66,[(1,.op 0 0 0),(4,eI (n:Int)),(5,.osl 1),(6,.osl 2)],[(0,some (.box 32 (am m))),(1,some (.row 4 1 (bs.map fun b=>[eB b]))),(2,some (.row 97 2 ((js.map (bD m)).map dS)))],3⟩) (fun st=>n - kT st 2) ⟨_,((aW 6 97 2 (by simp only [f9,ai.get,a7,ai.put,↓reduceIte,reduceCtorEq,Nat.reduceLT,Nat.reduceEqDiff,Nat.reduceAdd,Nat.reduceLeDiff,eq_self,implies_true,Jo,List.map_replicate])).trans (wS [0,1,2] @List.map_replicate.{0,0})),List.replicate n false,[],⟨by simp,IY _,fun i h=>by simp,fun j h=>by simp at h⟩,rfl⟩ ?_;rintro _ ⟨bs,js,⟨hbs,ho,hbd,hgr⟩,rfl⟩;have hol:(js.map (bD m)).length=js.length:=Jd ..;by_cases hlt:js.length<n
 .repeat' first|refine ge (kf @hlt @hol) ?_|decide|refine sp ?_ ?_<;>intro _
  refine af (fun st=>∃ (i:Nat) (v:Int),(i<=n /\ ((v<0 /\ ∀ i',i'<i -> ¬ rD m js i') \/ ∃ j:Nat,v=(j:Int) /\ jv m js j)) /\ st=⟨66,[(1,.op 0 0 0),(4,eI (n:Int)),(5,.osl 1),(6,.osl 2),(7,eI v),(8,eI (i:Int))],[(0,some (.box 32 (am m))),(1,some (.row 4 1 (bs.map fun b=>[eB b]))),(2,some (.row 97 2 ((js.map (bD m)).map dS)))],3⟩) (fun st=>n - aw st 8) ⟨_,wC,0,-1,⟨IY _,.inl ⟨by omega,fun i' h=>absurd h (by omega)⟩⟩,rfl⟩ ?_;rintro _ ⟨i,v,⟨hi,hv⟩,rfl⟩;rcases hv with ⟨hv0,hno⟩|⟨j,rfl,hnx⟩
  .by_cases hlt2:i<n
   .have hib:i<bs.length:=by omega
    repeat' first|refine go ?_|simp only [ac,hlt2,hv0,hib]|decide|refine sp ?_ ?_<;>intro _
    refine af (fun st=>∃ (k:Nat) (f:Bool),(k<=n /\ (f=true ↔ i ∉ js /\ ∀ k',k'<k -> k' ∈ js \/ cS m i k'=false)) /\ st=⟨66,[(1,.op 0 0 0),(4,eI (n:Int)),(5,.osl 1),(6,.osl 2),(7,eI v),(8,eI (i:Int)),(9,eB f),(10,eI (k:Int))],[(0,some (.box 32 (am m))),(1,some (.row 4 1 (bs.map fun b=>[eB b]))),(2,some (.row 97 2 ((js.map (bD m)).map dS)))],3⟩) (fun st=>n - aw st 10) ⟨_,wC,0,!bs[i],⟨IY _,by rw [hbd];simp⟩,rfl⟩ ?_;rintro _ ⟨k,f,⟨hk,hF⟩,rfl⟩;by_cases hlt3:k<n
    .have hkb:k<bs.length:=by omega
     have hstep:∀ b:Bool,(b=true ↔ (k ∈ js \/ cS m i k=false)) -> ((f && b)=true ↔ i ∉ js /\ ∀ k',k'<k+1 -> k' ∈ js \/ cS m i k'=false):=fun b hb=>by
      rw [I2,hF,hb];constructor
      .rintro ⟨⟨h1,h2⟩,h3⟩;refine ⟨h1,fun k' h4=>?_⟩;rcases Jk k' k with h5|h5
       .exact h2 k' h5
       .obtain rfl:k'=k:=by omega
        exact h3
      .rintro ⟨h1,h2⟩;exact ⟨⟨h1,fun k' h4=>h2 k' (by omega)⟩,h2 k (by omega)⟩
     have hW:=Af m i k hf hp (by omega) (by omega)
     cases f with
     | false=>
      repeat' first|refine go ?_|simp only [ac,hlt3,hkb]|decide|refine sp ?_ ?_<;>intro _
      exact rI wC ⟨k+1,false,⟨by omega,hstep (decide (k ∈ js \/ cS m i k=false)) (by simp)⟩,rfl⟩
     | true=>
      cases hbk:bs[k] with
      | true=>
       have hmem:k ∈ js:=by
        have:=hbd k hkb;rw [hbk] at this;exact of_decide_eq_true this.symm
       repeat' first|refine go ?_|simp only [ac,hlt3,hkb,hbk]|decide|refine sp ?_ ?_<;>intro _
       exact rI wC ⟨k+1,true,⟨by omega,hstep true (by simp [hmem])⟩,rfl⟩
      | false=>
       have hmem:k ∉ js:=by
        have:=hbd k hkb;rw [hbk] at this;exact of_decide_eq_false this.symm
       repeat' first|refine go ?_|simp only [ac,hlt3,hkb,hbk]|decide|refine sp ?_ ?_<;>intro _
       refine ak hW ?_;have hs2:=hstep (!cS m i k) (by simp [hmem]);rw [JU] at hs2
       repeat' first|refine go ?_|simp only [ac,hkb]|decide|refine sp ?_ ?_<;>intro _
       exact rI wC ⟨k+1,!cS m i k,⟨by omega,hs2⟩,rfl⟩
    .obtain rfl:k=n:=by omega
     have hFr:f=true ↔ rD m js i:=by
      rw [hF];unfold rD;rw [hnS]
     cases f with
     | true=>
      repeat' first|refine go ?_|simp only [ac,hlt3]|decide|refine sp ?_ ?_<;>intro _
      exact rI wC ⟨i+1,(i:Int),⟨by omega,.inr ⟨i,rfl,⟨by omega,hFr.1 rfl,hno⟩⟩⟩,rfl⟩
     | false=>
      repeat' first|refine go ?_|simp only [ac,hlt3]|decide|refine sp ?_ ?_<;>intro _
      refine rI wC ⟨i+1,v,⟨by omega,.inl ⟨hv0,fun i' h=>?_⟩⟩,rfl⟩;rcases Jk i' i with h5|h5
      .exact hno i' h5
      .obtain rfl:i'=i:=by omega
       exact fun h6=>by have:=hFr.2 h6;cases this
   .repeat' first|refine ge (kf @hlt2 hv0) ?_|decide|refine sp ?_ ?_<;>intro _
    exact ⟨_,.inr rfl,⟨fun id o h=>(by cases h),trivial,trivial,trivial⟩,aB (by simp [AV.ren,AV.renL])⟩
  .have hjn:j<n:=by have:=hnx.lt;omega
   have hjb:j<bs.length:=(by omega);have hj0:decide ((j:Int)<0)=false:=(by simp);have et:((js ++ [j]).map (bD m)).map dS=(js.map (bD m)).map dS ++ [dS (bD m j)]:=by rw [Jl,Jl];rfl
   have hset:(bs.map fun b=>[eB b]).set j [eB true]=(bs.set j true).map fun b=>[eB b]:=(by rw [List.map_set]);have hnew:(bs.set j true).length=n /\ (js ++ [j]).length<=n /\ (∀ i (h:i<(bs.set j true).length),(bs.set j true)[i]=decide (i ∈ js ++ [j])) /\ jO m (js ++ [j]):=⟨by simp [hbs],by simp;omega,qE (n:=n) hbd,ta hgr hnx⟩;by_cases hi2:i<n
   .repeat' first|refine go ?_|simp only [hi2,hj0,ac,hjb,Int.reduceToNat]|decide|refine sp ?_ ?_<;>intro _
    refine dJ (Ef m j hf (by omega)) (ro) ?_
    repeat' first|refine go ?_|simp only [ac,hjb]|decide|refine sp ?_ ?_<;>intro _
    refine ⟨rfl,by omega,jU (wS [0,1,4] (kf @hset et)) ⟨bs.set j true,js ++ [j],hnew,rfl⟩ (by simp [kT,ag.gc];omega)⟩
   .repeat' first|refine go ?_|simp only [hi2,hj0,ac,hjb,Int.reduceToNat]|decide|refine sp ?_ ?_<;>intro _
    refine dJ (Ef m j hf (by omega)) (ro) ?_
    repeat' first|refine go ?_|simp only [ac,hjb]|decide|refine sp ?_ ?_<;>intro _
    refine ⟨rfl,by omega,jU (wS [0,1,4] (kf @hset et)) ⟨bs.set j true,js ++ [j],hnew,rfl⟩ (by simp [kT,ag.gc];omega)⟩
 .repeat' first|refine ge (kf @hlt @hol) ?_|decide|refine sp ?_ ?_<;>intro _
  refine ⟨_,.inl ⟨js,rfl,by omega,hgr⟩,⟨fun id o h=>?_,KC,trivial,trivial⟩,⟨[2],by simp,rfl,⟨KC,⟨_,_,_,rfl⟩,by simp [ag.gc]⟩,trivial⟩⟩;simp only [ag.gc] at h;split at h
  .rename_i e;cases h;subst e;exact ⟨KC,trivial⟩
  .cases h
end
section
end
section
def LI (w:World) (v:Value) (l:List Int):Prop:=
 ∃ A c,v=.slice A l.length c /\ l.length<=c /\ (0<l.length -> ∃ b o,A=some ⟨b,o,none⟩ /\ b<w.heap.size /\ ∀ i (h:i<l.length),w.cell? ⟨b,o+i,none⟩=some (.int .i64 l[i]))
theorem LI.some_ {w:World} {v:Value} {l:List Int} (h:LI w v l) (hp:0<l.length):∃ b o c,v=.slice (some ⟨b,o,none⟩) l.length c /\ l.length<=c /\ b<w.heap.size /\ ∀ i (h:i<l.length),w.cell? ⟨b,o+i,none⟩=some (.int .i64 l[i]):=by
 obtain ⟨A,c,rfl,hc,hr⟩:=h;obtain ⟨b,o,rfl,hb,hcell⟩:=hr hp;exact ⟨b,o,c,rfl,hc,hb,hcell⟩
end
section
theorem LI.of_rt {w:World} {S:Nat -> Prop} {v:Value} {l:List Int} (h:RT w S v (sI l)) (hS:yQ w S):LI w v l:=by
 obtain ⟨A,cap,rfl,hc,hm,_,hA⟩:=h.sl_inv;refine ⟨A,cap,by simp,by simpa using hc,fun h0=>?_⟩;obtain ⟨b,o,rfl,hb,U,hcell,hr,_⟩:=hA (by simpa using h0);refine ⟨b,o,rfl,hS b hb,fun i hi=>?_⟩;have h1:(l.map fun n=>[eI n])[i]? = some [eI l[i]]:=by simp [hi]
 have h2:=hcell i 0 _ _ h1 rfl;have h3:=xz (hr i 0 _ _ h1 rfl);rw [h3] at h2;simpa using h2
end
section
def im (x:Int) (st:List Int × Bool) (y:Int):List Int × Bool:=
 ((st.1 ++ (if st.2=false /\ x<=y then [x] else [])) ++ (if y ≠ x then [y] else []),st.2 || decide (x<=y))
def dT (x:Int) (l:List Int):List Int × Bool:=l.foldl (im x) ([],false)
def qP (x:Int) (out:List Int):List Int:=if (dT x out).2 then (dT x out).1 else (dT x out).1 ++ [x]
def bT (l:List Int):List Int:=l.foldl (fun out x=>qP x out) []
theorem lM (x:Int) (l:List Int) (y:Int):dT x (l ++ [y])=im x (dT x l) y:=by simp [dT]
theorem yF (x:Int) (l:List Int) (k:Nat) (h:k<l.length):dT x (l.take (k+1))=im x (dT x (l.take k)) l[k]:=by
 rw [Jb h,lM]
theorem jB (l:List Int) (x:Int):bT (l ++ [x])=qP x (bT l):=by simp [bT]
theorem vi (l:List Int) (k:Nat) (h:k<l.length):bT (l.take (k+1))=qP l[k] (bT (l.take k)):=by
 rw [Jb h,jB]
theorem ka {p:List Int -> Prop} (h0:p []) (h1:∀ l x,p l -> p (l ++ [x])) (l:List Int):p l:=by
 rw [<- List.reverse_reverse l]
 induction l.reverse with
 | nil=>exact h0
 | cons x r ih=>rw [List.reverse_cons];exact h1 _ _ ih
theorem rP (x:Int) (l:List Int):(dT x l).1.length<=l.length+(if (dT x l).2 then 1 else 0):=by
 induction l using ka with
 | h0=>simp [dT]
 | h1 l y ih=>
  rw [lM];generalize dT x l=st at *;obtain ⟨n,b⟩:=st;cases b<;>by_cases h1:x<=y<;>by_cases h2:y=x<;>simp [im,h1,h2] at ih ⊢<;>omega
theorem AD (x:Int) (l:List Int):(qP x l).length<=l.length+1:=by
 have:=rP x l;unfold qP;split<;>rename_i h<;>simp [h] at this ⊢<;>omega
theorem lG (l:List Int):(bT l).length<=l.length:=by
 induction l using ka with
 | h0=>simp [bT]
 | h1 l y ih=>rw [jB];have:=AD y (bT l);simp;omega
def Up (l:List Int):Prop:=l.Pairwise (· < ·)
theorem Du (x:Int) (l:List Int) (h:Up l) :
  Up (dT x l).1 /\ (∀ z,z ∈ (dT x l).1 ↔ z ∈ l \/ ((dT x l).2=true /\ z=x)) /\ ((dT x l).2=true ↔ ∃ z ∈ l,x<=z) /\ ((dT x l).2=true -> x ∈ (dT x l).1):=by
 induction l using ka with
 | h0=>simp [dT,Up]
 | h1 l y ih=>
  have hl:Up l:=(J9.1 h).1;have hy:∀ z ∈ l,z<y:=fun z hz=>(J9.1 h).2.2 z hz y (by simp);obtain ⟨i1,i2,i3,i4⟩:=ih hl;rw [lM];generalize dT x l=st at *;obtain ⟨n,b⟩:=st;simp only at i1 i2 i3 i4
  cases b with
  | true=>
   obtain ⟨z,hz,hxz⟩:=i3.1 rfl;have hxy:x<y:=by have:=hy z hz;omega
   have hne:y ≠ x:=(by omega);simp only [im,Bool.true_or,Bool.true_eq_false,false_and,if_false,JS,I8 hne];refine ⟨J9.2 ⟨i1,by simp,?_⟩,?_,?_,?_⟩
   .intro a ha c hc;rw [Jg] at hc;subst hc;rcases (i2 a).1 ha with h|⟨_,rfl⟩
    .exact hy a h
    .exact hxy
   .intro a;simp only [Ja,Jg,i2];constructor
    .rintro ((h | h) | h)
     .exact .inl (.inl h)
     .exact .inr h
     .exact .inl (.inr h)
    .rintro ((h | h) | h)
     .exact .inl (.inl h)
     .exact .inr h
     .exact .inl (.inr h)
   .exact ⟨fun _=>⟨z,by simp [hz],hxz⟩,fun _=>trivial⟩
   .intro _;simp [i4 rfl]
  | false=>
   have hlow:∀ z ∈ l,z<x:=fun z hz=>by
    rcases Int.lt_or_le z x with h|h
    .exact h
    .exact absurd (i3.2 ⟨z,hz,h⟩) (by simp)
   have hn:∀ z,z ∈ n ↔ z ∈ l:=fun z=>by rw [i2];simp
   by_cases hxy:x<=y
   .by_cases hne:y=x
    .subst hne;simp only [im,Int.le_refl,and_self,if_true,ne_eq,not_true,if_false,JS,decide_true,Bool.or_true];refine ⟨J9.2 ⟨i1,by simp,?_⟩,?_,?_,?_⟩
     .intro a ha c hc;rw [Jg] at hc;subst hc;exact hy a ((hn a).1 ha)
     .intro a;simp only [Ja,Jg,hn];constructor
      .rintro (h | h)
       .exact .inl (.inl h)
       .exact .inl (.inr h)
      .rintro (h | ⟨_,h⟩)
       .exact h
       .exact .inr h
     .exact ⟨fun _=>⟨y,by simp,Int.le_refl _⟩,fun _=>trivial⟩
     .intro _;simp
    .simp only [im,hxy,and_self,if_true,ne_eq,hne,not_false_eq_true,decide_true,Bool.or_true];refine ⟨?_,?_,?_,?_⟩
     .unfold Up;rw [JJ];refine J9.2 ⟨i1,by simp;omega,?_⟩;intro a ha c hc;have hal:=(hn a).1 ha;have h1:=hlow a hal;have h2:=hy a hal;simp at hc;rcases hc with rfl|rfl
      .exact h1
      .exact h2
     .intro a;simp only [Ja,Jg,hn];constructor
      .rintro ((h | h) | h)
       .exact .inl (.inl h)
       .exact .inr ⟨by simp,h⟩
       .exact .inl (.inr h)
      .rintro ((h | h) | ⟨_,h⟩)
       .exact .inl (.inl h)
       .exact .inr h
       .exact .inl (.inr h)
     .exact ⟨fun _=>⟨y,by simp,hxy⟩,fun _=>trivial⟩
     .intro _;simp
   .have hne:y ≠ x:=(by omega);have hd:decide (x<=y)=false:=I3 hxy;simp only [im,hxy,and_false,if_false,JS,I8 hne,hd,Bool.or_false];refine ⟨J9.2 ⟨i1,by simp,?_⟩,?_,?_,?_⟩
    .intro a ha c hc;rw [Jg] at hc;subst hc;exact hy a ((hn a).1 ha)
    .intro a;simp only [Ja,Jg,hn];simp
    .constructor
     .intro h;cases h
     .rintro ⟨z,hz,hxz⟩;rcases Ja.1 hz with h|h
      .have:=hlow z h;omega
      .rw [Jg] at h;subst h;exact absurd hxz hxy
    .intro h;cases h
theorem Cv (x:Int) (l:List Int) (h:Up l):Up (qP x l) /\ ∀ z,z ∈ qP x l ↔ z ∈ l \/ z=x:=by
 obtain ⟨i1,i2,i3,i4⟩:=Du x l h;unfold qP;split
 .rename_i hb;refine ⟨i1,fun z=>?_⟩;rw [i2];simp [hb]
 .rename_i hb
  have hlow:∀ z ∈ l,z<x:=fun z hz=>by
   rcases Int.lt_or_le z x with h|h
   .exact h
   .exact absurd (i3.2 ⟨z,hz,h⟩) hb
  have hn:∀ z,z ∈ (dT x l).1 ↔ z ∈ l:=fun z=>by rw [i2];simp [hb]
  refine ⟨J9.2 ⟨i1,by simp,?_⟩,fun z=>?_⟩
  .intro a ha c hc;rw [Jg] at hc;subst hc;exact hlow a ((hn a).1 ha)
  .simp [hn]
theorem nP (l:List Int):Up (bT l) /\ ∀ z,z ∈ bT l ↔ z ∈ l:=by
 induction l using ka with
 | h0=>simp [bT,Up]
 | h1 l x ih=>
  obtain ⟨h1,h2⟩:=Cv x _ ih.1;rw [jB];exact ⟨h1,fun z=>by rw [h2,ih.2];simp⟩
theorem Bf:∀ (a b:List Int),Up a -> Up b -> (∀ z,z ∈ a ↔ z ∈ b) -> a=b
 | [],[],_,_,_=>rfl
 | [],y :: b,_,_,h=>by have:=(h y).2 (by simp);simp at this
 | x :: a,[],_,_,h=>by have:=(h x).1 (by simp);simp at this
 | x :: a,y :: b,ha,hb,h=>by
  have ha':=List.pairwise_cons.1 ha;have hb':=List.pairwise_cons.1 hb
  have hxy:x=y:=by
   rcases JO.1 ((h x).1 (by simp)) with h1|h1
   .exact h1
   .rcases JO.1 ((h y).2 (by simp)) with h2 | h2
    .exact h2.symm
    .have:=hb'.1 x h1;have:=ha'.1 y h2;omega
  subst hxy;rw [Bf a b ha'.2 hb'.2 (fun z=>?_)];constructor
  .intro hz;rcases JO.1 ((h z).1 (by simp [hz])) with h1|h1
   .subst h1;have:=ha'.1 z hz;omega
   .exact h1
  .intro hz;rcases JO.1 ((h z).2 (by simp [hz])) with h1|h1
   .subst h1;have:=hb'.1 z hz;omega
   .exact h1
theorem ux (d:Array Int) (hs:∀ i j,i<j -> j<d.size -> d[i]! <= d[j]!) (m:Nat) (hm:m<=d.size) :
  Up (Lib.compactUpTo d m) /\ (∀ z,z ∈ Lib.compactUpTo d m ↔ ∃ i,i<m /\ d[i]! = z):=by
 induction m with
 | zero=>simp [Lib.compactUpTo,Up]
 | succ m ih=>
  obtain ⟨h1,h2⟩:=ih (by omega);rw [Lib.compactUpTo_succ];by_cases hk:Lib.keeps d m=true
  .rw [I8 hk];refine ⟨J9.2 ⟨h1,by simp,?_⟩,fun z=>?_⟩
   .intro a ha c hc;rw [Jg] at hc;subst hc;obtain ⟨i,hi,rfl⟩:=(h2 a).1 ha;simp only [Lib.keeps,Je] at hk;have h3:=hs (m - 1) m (by omega) (by omega)
    have h4:d[i]! <= d[m - 1]!:=by
     rcases Jk i (m - 1) with h|h
     .exact hs i (m - 1) h (by omega)
     .rw [show i=m - 1 by omega];exact Int.le_refl _
    rcases hk with h|h
    .omega
    .have:d[m]! ≠ d[m - 1]!:=h;omega
   .simp only [Ja,Jg,h2];constructor
    .rintro (⟨i,hi,rfl⟩ | rfl)
     .exact ⟨i,by omega,rfl⟩
     .exact ⟨m,by omega,rfl⟩
    .rintro ⟨i,hi,rfl⟩;rcases Jk i m with h|h
     .exact .inl ⟨i,h,rfl⟩
     .exact .inr (by rw [show i=m by omega])
  .rw [I4 hk,JS];refine ⟨h1,fun z=>?_⟩;rw [h2];simp only [Lib.keeps,Je,not_or,ne_eq,Decidable.not_not] at hk;constructor
   .rintro ⟨i,hi,rfl⟩;exact ⟨i,by omega,rfl⟩
   .rintro ⟨i,hi,rfl⟩;rcases Jk i m with h|h
    .exact ⟨i,h,rfl⟩
    .exact ⟨m - 1,by omega,by rw [<- hk.2,show i=m by omega]⟩
def tE (l:List Int):List Int:=Lib.compact (l.mergeSort fun x y=>decide (x<=y))
theorem BH (l:List Int):tE l=bT l:=by
 have hp:(l.mergeSort fun x y=>decide (x<=y)).Pairwise (fun a b=>decide (a<=b)=true):=List.pairwise_mergeSort (le:=fun x y=>decide (x<=y)) (fun a b c h1 h2=>by simp at *;omega) (fun a b=>by simp;omega) l;have hm:∀ z,z ∈ (l.mergeSort fun x y=>decide (x<=y)) ↔ z ∈ l:=fun z=>List.mem_mergeSort;unfold tE Lib.compact;generalize (l.mergeSort fun x y=>decide (x<=y))=s at *
 have hs:∀ i j,i<j -> j<s.toArray.size -> s.toArray[i]! <= s.toArray[j]!:=by
  intro i j hij hj;have hj':j<s.length:=by simpa using hj
  have h1:=Kz.1 hp i j (by omega) hj' hij;rw [getElem!_pos _ i (by simp;omega),getElem!_pos _ j hj];simpa using h1
 obtain ⟨h1,h2⟩:=ux s.toArray hs s.length (by simp);refine Bf _ _ h1 (nP l).1 (fun z=>?_);rw [h2,(nP l).2,<- hm];constructor
 .rintro ⟨i,hi,rfl⟩;rw [getElem!_pos _ i (by simpa using hi)];simp
 .intro hz;obtain ⟨i,hi,rfl⟩:=Jw hz;exact ⟨i,hi,by rw [getElem!_pos _ i (by simpa using hi)];simp⟩
end
section
theorem CO (x y:Int) (n:List Int) (h:y=x):im x (n,true) y=(n,true):=by simp [im,h]
theorem vJ (x y:Int) (n:List Int) (h:y ≠ x):im x (n,true) y=(n ++ [y],true):=by simp [im,h]
theorem DN (x y:Int) (n:List Int) (h1:x<=y) (h:y=x):im x (n,false) y=(n ++ [x],true):=by simp [im,h]
theorem AO (x y:Int) (n:List Int) (h1:x<=y) (h:y ≠ x):im x (n,false) y=((n ++ [x]) ++ [y],true):=by simp [im,h,h1]
theorem C8 (x y:Int) (n:List Int) (h1:¬ x<=y):im x (n,false) y=(n ++ [y],false):=by
 have:y ≠ x:=by omega
 simp [im,h1,this]
end
section
open Go.RowKit Go.Sort
theorem Dz:(Tryz.prog.info? 2).map (fun i=>(i.zero,i.size,i.bytes))=some (some (.int .i64 0),1,8):=by kernel_rfl
end
section
open Go.RowKit Go.Sort
theorem sC (S:List Int):(Lib.compact S).length<=S.length:=by
 unfold Lib.compact Lib.compactUpTo;rw [Jd];have:=Kw (Lib.keeps S.toArray) (List.range S.length);simpa using this
theorem zz (A:Option Addr) (c:Nat) (w:World) :
  Calls Tryz.prog 147 #[.slice A 0 c,.int .i64 0,.int .i64 0] w fun e w'=>e=.returned (.tuple #[]) /\ Below w.heap.size w w':=by
 go_enter Tryz.func147,Tryz.ntmps147
 go_wp2_with fail
 go_loopw [6] (fun i wr=>i=.int .i64 1 /\ Below w.heap.size w wr) (fun i wr=>0)
 case atStart=>exact ⟨rfl,Below.refl _ _⟩
 case round=>
  obtain ⟨rfl,hbl⟩:=hrel
  go_wp2_with fail
  go_end0
  exact ⟨rfl,hbl⟩
theorem BS (A:Option Addr) (c:Nat) (L:Int) (w:World) :
  Calls Tryz.prog 133 #[.slice A 0 c,.int .i64 0,.int .i64 0,.int .i64 L] w fun e w'=>e=.returned (.tuple #[]) /\ Below w.heap.size w w':=by
 go_enter Tryz.func133,Tryz.ntmps133
 go_wp2_with fail
 go_loopw [1,2] (fun a b wr=>a=.int .i64 0 /\ b=.int .i64 0 /\ Below w.heap.size w wr) (fun a b wr=>0)
 case atStart=>exact ⟨rfl,rfl,Below.refl _ _⟩
 case round=>
  obtain ⟨rfl,rfl,hbl⟩:=hrel;have h:=zz A c wr
  go_wp2_with fail
  refine h.mono ?_;rintro e w2 ⟨rfl,hb2⟩
  go_wp2_with fail
  refine bodyPost_ret (results_none rfl _ _ _) rfl ?_;exact ⟨rfl,hbl.trans (hb2.mono hbl.size)⟩
theorem xx (A:Option Addr) (c:Nat) (w:World) :
  Calls Tryz.prog 110 #[.slice A 0 c] w fun e w'=>e=.returned (.tuple #[]) /\ Below w.heap.size w w':=by
 have h1:=Tryz.bits_Len 0 w (by decide) (by decide);generalize Lib.bitLen (0:Int).toNat=L at *;have h2:=BS A c L w
 go_enter Tryz.func110,Tryz.ntmps110
 go_wp2_with fail
 refine h1.mono ?_;rintro e w2 ⟨rfl,rfl⟩
 go_wp2_with fail
 refine h2.mono ?_;rintro e w3 ⟨rfl,hb⟩
 go_wp2_with fail
 go_end0
 exact ⟨rfl,hb⟩
end
end
section
section
theorem CQ {vs:Array Value} {a:AV} (hn:vs.size=[a].length):∃ x,vs = #[x]:=⟨vs[0]'(by simp at hn;omega),by
 apply KS (by simpa using hn);intro i h1 h2;simp at h2;subst h2;rfl⟩
def DA (e:TypeId) (sz:Nat) (rows:List (List AV)) (R:bS):Prop:=R=cu e sz rows \/ R=⟨.sl sz rows,[],0⟩
theorem qK {P:Program} {f:FuncId} {args:List AV} (e:TypeId) {sz:Nat} {rows:List (List AV)} (h:bh P f args (DA e sz rows)):ap P f args ⟨.sl sz rows,[],0⟩:=
 h.tree (by simp [AV.lt]) fun R hR=>by
  rcases hR with rfl|rfl
  .refine ⟨[0],?_⟩;have e:((cu e sz rows).frzs [0]).r=.sl sz rows:=(by simp [bS.frzs,bS.frz,cu,ag.gc,AV.frz]);rw [e];exact ⟨trivial,.one (.one (.refl _))⟩
  .exact ⟨[],trivial,.one (.one (.refl _))⟩
theorem wQ (x:Int) (O:List Int) (m:Nat):(dT x (O.take m)).1.length<=m+1:=by
 have:=rP x (O.take m);have h2:=KG m O;split at this<;>omega
theorem qj (l:List Int) (hl:l.length<=5000000):ap Tryz.prog 25 [sI l] (cu 2 1 ((bT l).map fun n=>[eI n])):=by
 refine aa ae Tryz.func25 rfl (by decide) Tryz.ntmps25 Tryz.results25 rfl (cK _ _ _) ?_
 repeat' first|refine go ?_|decide|refine sp ?_ ?_<;>intro _
 refine af (fun st=>∃ k:Nat,k<=l.length /\ st=⟨67,[(0,sI l),(3,.osl 0),(4,eI (k:Int))],[(0,some (.row 2 1 ((bT (l.take k)).map fun n=>[eI n])))],1⟩) (fun st=>l.length - aw st 4) ⟨_,((aW 3 2 1 (by simp only [f9,ai.get,a7,ai.put,↓reduceIte,reduceCtorEq,Nat.reduceLT,Nat.reduceEqDiff,Nat.reduceAdd,Nat.reduceLeDiff,eq_self,implies_true,I5,bT,Kv,Jo])).trans (wS [0] (kf @I5 (kf @bT.eq_1 @Kv)))),0,IY _,rfl⟩ ?_;rintro _ ⟨k,hk,rfl⟩;by_cases hlt:k<l.length
 .have hst:=vi l k hlt
  have hol:(bT (l.take k)).length<=5000000:=by
   have:=lG (l.take k);have:=KG k l;omega
  obtain ⟨x,hx⟩:∃ x,x=l[k]:=⟨_,rfl⟩;have hrx:(l.map fun n=>[eI n])[k]?.getD []=[eI x]:=by rw [hx];simp [hlt]
  rw [<- hx] at hst;obtain ⟨O,hO⟩:∃ O,O=bT (l.take k):=⟨_,rfl⟩;rw [<- hO] at hst hol ⊢
  repeat' first|refine ge @hlt ?_|decide|refine sp ?_ ?_<;>intro _
  refine af (fun st=>∃ m:Nat,m<=O.length /\ st=⟨67,[(0,sI l),(3,.osl 0),(4,eI (k:Int)),(5,.osl 1),(6,eB (dT x (O.take m)).2),(7,eI (m:Int))],[(0,some (.row 2 1 (O.map fun n=>[eI n]))),(1,some (.row 2 1 ((dT x (O.take m)).1.map fun n=>[eI n])))],2⟩) (fun st=>O.length - aw st 7) ⟨_,((aW 5 2 1 (by simp only [f9,ai.get,a7,ai.put,↓reduceIte,reduceCtorEq,Nat.reduceLT,Nat.reduceEqDiff,Nat.reduceAdd,Nat.reduceLeDiff,eq_self,implies_true,I5,dT,Kv,Jo])).trans (wS [0,1] (kf @I5 (kf @dT.eq_1 @Kv)))),0,IY _,rfl⟩ ?_;rintro _ ⟨m,hm,rfl⟩;have hil:=wQ x O m;by_cases hlt2:m<O.length
  .have hs:=yF x O m hlt2;obtain ⟨y,hy⟩:∃ y,y=O[m]:=⟨_,rfl⟩;have hry:(O.map fun n=>[eI n])[m]?.getD []=[eI y]:=by rw [hy];simp [hlt2]
   rw [<- hy] at hs;obtain ⟨n,b,hn⟩:∃ n b,dT x (O.take m)=(n,b):=⟨_,_,rfl⟩;rw [hn] at hs hil ⊢;simp only at hil;by_cases hxy:x<=y
   .have d1:decide (x<=y)=true:=Jc hxy;by_cases hne:y=x
    .have d2:(y != x)=false:=by simp [hne]
     cases b with
     | true=>
      rw [CO x y n hne] at hs
      repeat' first|refine gf (kf @hlt (kf @hlt2 (kf @hrx (kf @hry (kf d1 d2))))) ?_|decide|refine sp ?_ ?_<;>intro _|(with_reducible apply And.intro)
      all_goals first
       | rfl
       | omega
       | exact rI (wS [0,1] hs) ⟨m+1,by omega,rfl⟩
     | false=>
      rw [DN x y n hxy hne] at hs;have e1:(n ++ [x]).map (fun n=>[eI n])=n.map (fun n=>[eI n]) ++ [[eI x]]:=(by simp)
      repeat' first|refine gf (kf @hlt (kf @hlt2 (kf @hrx (kf @hry (kf d1 d2))))) ?_|decide|refine sp ?_ ?_<;>intro _|(with_reducible apply And.intro)
      all_goals first
       | rfl
       | omega
       | exact rI (wS [0,3] (kf hs e1)) ⟨m+1,by omega,rfl⟩
    .have d2:(y != x)=true:=by simp [hne]
     cases b with
     | true=>
      rw [vJ x y n hne] at hs;have e1:(n ++ [y]).map (fun n=>[eI n])=n.map (fun n=>[eI n]) ++ [[eI y]]:=(by simp)
      repeat' first|refine gf (kf @hlt (kf @hlt2 (kf @hrx (kf @hry (kf d1 d2))))) ?_|decide|refine sp ?_ ?_<;>intro _|(with_reducible apply And.intro)
      all_goals first
       | rfl
       | omega
       | exact rI (wS [0,3] (kf hs e1)) ⟨m+1,by omega,rfl⟩
     | false=>
      rw [AO x y n hxy hne] at hs;have e1:((n ++ [x]) ++ [y]).map (fun n=>[eI n])=(n.map (fun n=>[eI n]) ++ [[eI x]]) ++ [[eI y]]:=(by simp)
      repeat' first|refine gf (kf @hlt (kf @hlt2 (kf @hrx (kf @hry (kf d1 d2))))) ?_|decide|refine sp ?_ ?_<;>intro _|(with_reducible apply And.intro)
      all_goals first
       | rfl
       | omega
       | (simp;omega)
       | exact rI (wS [0,5] (kf hs e1)) ⟨m+1,by omega,rfl⟩
   .have d1:decide (x<=y)=false:=I3 hxy;have hne:y ≠ x:=(by omega);have d2:(y != x)=true:=(by simp [hne]);have e1:(n ++ [y]).map (fun n=>[eI n])=n.map (fun n=>[eI n]) ++ [[eI y]]:=(by simp)
    cases b with
    | true=>
     rw [vJ x y n hne] at hs
     repeat' first|refine gf (kf @hlt (kf @hlt2 (kf @hrx (kf @hry (kf d1 d2))))) ?_|decide|refine sp ?_ ?_<;>intro _|(with_reducible apply And.intro)
     all_goals first
      | rfl
      | omega
      | exact rI (wS [0,3] (kf hs e1)) ⟨m+1,by omega,rfl⟩
    | false=>
     rw [C8 x y n hxy] at hs
     repeat' first|refine gf (kf @hlt (kf @hlt2 (kf @hrx (kf @hry (kf d1 d2))))) ?_|decide|refine sp ?_ ?_<;>intro _|(with_reducible apply And.intro)
     all_goals first
      | rfl
      | omega
      | exact rI (wS [0,3] (kf hs e1)) ⟨m+1,by omega,rfl⟩
  .obtain rfl:m=O.length:=by omega
   rw [I9] at hil ⊢;unfold qP at hst;obtain ⟨n,b,hn⟩:∃ n b,dT x O=(n,b):=⟨_,_,rfl⟩;rw [hn] at hst hil ⊢;simp only at hil
   cases b with
   | true=>
    simp only [↓reduceIte] at hst
    repeat' first|refine gf (kf @hlt (kf @hlt2 @hrx)) ?_|decide|refine sp ?_ ?_<;>intro _|(with_reducible apply And.intro)
    all_goals first
     | rfl
     | omega
     | exact rI (wS [1] @hst) ⟨k+1,by omega,rfl⟩
   | false=>
    simp only [↓reduceIte,Jv] at hst;have e1:(n ++ [x]).map (fun n=>[eI n])=n.map (fun n=>[eI n]) ++ [[eI x]]:=(by simp)
    repeat' first|refine gf (kf @hlt (kf @hlt2 @hrx)) ?_|decide|refine sp ?_ ?_<;>intro _|(with_reducible apply And.intro)
    all_goals first
     | rfl
     | omega
     | exact rI (wS [3] (kf @hst e1)) ⟨k+1,by omega,rfl⟩
 .obtain rfl:k=l.length:=by omega
  repeat' first|refine gf (kf @hlt @I9) ?_|decide|refine sp ?_ ?_<;>intro _
  exact a5 (by simp [ag.gc])
theorem mc (l:List Int) (hl:l.length<=5000000):ap Tryz.prog 25 [sI l] ⟨sI (bT l),[],0⟩:=
 qK 2 ((qj l hl).mono fun R h=>.inl h)
end
section
def jn (x:az):Bool:=decide (3<=x.op) && decide (x.op<=8)
end
section
def wW (r:Int):Int:=2 ^ (min r.toNat 20) - 1
theorem Ip (r:Int):ap Tryz.prog 65 [eI r] (val (.int .i64 (wW r))):=by
 refine aa ae Tryz.func65 rfl (by decide) Tryz.ntmps65 Tryz.results65 rfl (aq _) ?_
 repeat' first|refine go ?_|decide|refine sp ?_ ?_<;>intro _
 refine af (fun st=>∃ k:Nat,k<=20 /\ (k=0 \/ (k:Int)<=r) /\ st=⟨18,[(0,eI r),(3,eI (2 ^ k - 1)),(4,eI (k:Int))],[],0⟩) (fun st=>20 - aw st 4) ⟨_,wC,0,IY _,.inl rfl,rfl⟩ ?_;rintro _ ⟨k,hk,hr,rfl⟩
 have hp:(2:Int) ^ k<=1048576:=by
  have h1:(2:Nat) ^ k<=2 ^ 20:=JP (by omega) hk;have h2:((2 ^ k:Nat):Int)=(2:Int) ^ k:=by simp
  omega
 have hp0:(0:Int)<2 ^ k:=Int.pow_pos (by omega);have hps:(2:Int) ^ (k+1)=2 * 2 ^ k:=by rw [Int.pow_succ,Int.mul_comm]
 have ew1:IntKind.i64.wrap (2 * (2 ^ k - 1))=2 * (2 ^ k - 1):=aP (by omega) (by omega);have ew2:IntKind.i64.wrap (2 * (2 ^ k - 1)+1)=2 ^ (k+1) - 1:=by rw [aP (by omega) (by omega)];omega
 by_cases h1:(k:Int)<r
 .by_cases h2:k<20
  .have d1:decide ((k:Int)<r)=true:=(by simpa using h1);have d2:decide ((k:Int)<20)=true:=by simp only [Je];omega
   repeat' first|refine gf (kf d1 (kf d2 (kf ew1 ew2))) ?_|decide|refine sp ?_ ?_<;>intro _
   exact rI wC ⟨k+1,by omega,by omega,rfl⟩
  .have d1:decide ((k:Int)<r)=true:=(by simpa using h1);have d2:decide ((k:Int)<20)=false:=by simp only [Ji];omega
   repeat' first|refine gf (kf d1 d2) ?_|decide|refine sp ?_ ?_<;>intro _
   unfold wW;rw [show min r.toNat 20=k by omega]
 .have d1:decide ((k:Int)<r)=false:=by simpa using h1
  repeat' first|refine gf d1 ?_|decide|refine sp ?_ ?_<;>intro _
  unfold wW;rw [show min r.toNat 20=k by omega]
def gM (x:az):List Int:=if jn x=true then (if x.la = -1 then [x.ln] else []) ++ (if x.ra = -1 then [x.rn] else []) else []
def bA (l:List az):List Int:=l.flatMap gM
theorem va (x:az):(gM x).length<=2:=by
 unfold gM;split
 .split<;>split<;>simp
 .simp
theorem fC:∀ l:List az,(bA l).length<=2 * l.length
 | []=>by simp [bA]
 | x :: l=>by
  have h1:=va x;have h2:=fC l;unfold bA at *;simp only [JY,I0,Jh];omega
theorem iH (l:List az) (hl:l.length<=1100000):ap Tryz.prog 24 [aV l] ⟨sI (bT (bA l)),[],0⟩:=by
 have hok:(⟨sI (bT (bA l)),[],0⟩:bS).Ok:=⟨fun id o h=>(by cases h),by simp [AV.lt]⟩;refine aa ae Tryz.func24 rfl (by decide) Tryz.ntmps24 Tryz.results24 rfl (hok) ?_;have hlen:=fC l;have hS:=mc (bA l) (by omega)
 repeat' first|refine go ?_|decide|refine sp ?_ ?_<;>intro _
 refine af (fun st=>∃ k:Nat,k<=l.length /\ st=⟨59,[(0,aV l),(3,.osl 0),(4,eI (k:Int))],[(0,some (.row 2 1 ((bA (l.take k)).map fun n=>[eI n])))],1⟩) (fun st=>l.length - aw st 4) ⟨_,((aW 3 2 1 (by simp only [f9,ai.get,a7,ai.put,↓reduceIte,reduceCtorEq,Nat.reduceLT,Nat.reduceEqDiff,Nat.reduceAdd,Nat.reduceLeDiff,eq_self,implies_true,I5,bA,JX,Jo])).trans (wS [0] (kf @I5 (kf @bA.eq_1 @JX)))),0,IY _,rfl⟩ ?_;rintro _ ⟨k,hk,rfl⟩;by_cases hlt:k<l.length
 .obtain ⟨x,hx⟩:∃ x,l[k]=x:=⟨_,rfl⟩
  have hsn:bA (l.take (k+1))=bA (l.take k) ++ gM x:=by
   unfold bA;rw [List.take_add_one,IU hlt,hx];simp
  have htl:(bA (l.take k)).length<=2200000:=by
   have:=fC (l.take k);rw [Jf] at this;omega
  obtain ⟨op,la,ln,ra,rn,xn,xu⟩:=x;by_cases hc:3<=op /\ op<=8
  .have hcm:jn ⟨op,la,ln,ra,rn,xn,xu⟩=true:=(by simp [jn,hc]);have d1:decide (op<3)=false:=by simp only [Ji];omega
   have d2:decide (8<op)=false:=by simp only [Ji];omega
   have hna:gM ⟨op,la,ln,ra,rn,xn,xu⟩=(if la = -1 then [ln] else []) ++ (if ra = -1 then [rn] else []):=by unfold gM;rw [I8 hcm]
   rw [hna] at hsn;by_cases ha:la = -1
   .have ha1:(la == -1)=true:=(by simpa using ha);by_cases hb:ra = -1
    .have hb1:(ra == -1)=true:=(by simpa using hb);rw [I8 ha,I8 hb] at hsn;have hs2:(bA (l.take (k+1))).map (fun n=>[eI n])=((bA (l.take k)).map (fun n=>[eI n]) ++ [[eI ln]]) ++ [[eI rn]]:=by rw [hsn];simp
     repeat' first|refine gq ?_|simp only [ac,hlt,hx,d1,d2,ha1,hb1]|decide|refine sp ?_ ?_<;>intro _|(with_reducible apply And.intro)
     all_goals first
      | rfl
      | omega
      | (simp;omega)
      | exact rI (wS [4] hs2) ⟨k+1,by omega,rfl⟩
    .have hb1:(ra == -1)=false:=(by simpa using hb);rw [I8 ha,I4 hb] at hsn;have hs2:(bA (l.take (k+1))).map (fun n=>[eI n])=(bA (l.take k)).map (fun n=>[eI n]) ++ [[eI ln]]:=by rw [hsn];simp
     repeat' first|refine gq ?_|simp only [ac,hlt,hx,d1,d2,ha1,hb1]|decide|refine sp ?_ ?_<;>intro _|(with_reducible apply And.intro)
     all_goals first
      | rfl
      | omega
      | (simp;omega)
      | exact rI (wS [2] hs2) ⟨k+1,by omega,rfl⟩
   .have ha1:(la == -1)=false:=(by simpa using ha);by_cases hb:ra = -1
    .have hb1:(ra == -1)=true:=(by simpa using hb);rw [I4 ha,I8 hb] at hsn;have hs2:(bA (l.take (k+1))).map (fun n=>[eI n])=(bA (l.take k)).map (fun n=>[eI n]) ++ [[eI rn]]:=by rw [hsn];simp
     repeat' first|refine gq ?_|simp only [ac,hlt,hx,d1,d2,ha1,hb1]|decide|refine sp ?_ ?_<;>intro _|(with_reducible apply And.intro)
     all_goals first
      | rfl
      | omega
      | (simp;omega)
      | exact rI (wS [2] hs2) ⟨k+1,by omega,rfl⟩
    .have hb1:(ra == -1)=false:=(by simpa using hb);rw [I4 ha,I4 hb] at hsn;have hs2:(bA (l.take (k+1))).map (fun n=>[eI n])=(bA (l.take k)).map (fun n=>[eI n]):=by rw [hsn];simp
     repeat' first|refine gq ?_|simp only [ac,hlt,hx,d1,d2,ha1,hb1]|decide|refine sp ?_ ?_<;>intro _
     exact rI (wE hs2) ⟨k+1,by omega,rfl⟩
  .have hcm:jn ⟨op,la,ln,ra,rn,xn,xu⟩=false:=by
    rw [JK];intro h;exact hc (by simpa [jn] using h)
   have hna:gM ⟨op,la,ln,ra,rn,xn,xu⟩=[]:=by unfold gM;rw [I4 (by simp [hcm])]
   rw [hna,JS] at hsn;have hs2:(bA (l.take (k+1))).map (fun n=>[eI n])=(bA (l.take k)).map (fun n=>[eI n]):=(by rw [hsn])
   repeat' first|refine gq ?_|simp only [ac,hlt,hx]|decide|refine sp ?_ ?_<;>intro _
   all_goals first
    | exact rI (wE hs2) ⟨k+1,by omega,rfl⟩
    | (exfalso;simp at *;omega)
 .obtain rfl:k=l.length:=by omega
  repeat' first|refine ge (kf @hlt @I9) ?_|decide|refine sp ?_ ?_<;>intro _
  refine Eh [0] (R:=⟨sI (bT (bA l)),[],0⟩) ?_ ?_ ?_
  .repeat' first|decide|refine go ?_
   exact hS
  .repeat' first|decide|refine go ?_
   left;simp [oC,Cq,aI,aQ]
  .repeat' first|refine gq ?_|decide|refine sp ?_ ?_<;>intro _
   all_goals exact aB (by first|rfl|simp [AV.ren,AV.renL])
end
section
def bH (l:List az):List Int:=bT (bA l)
def ey (m:aF) (p:List az):List Int:=bT ((bH p ++ m.guards.flatMap fun g=>bH g.cond) ++ m.miles.flatMap fun g=>bH g.cond)
theorem gn (l:List az):(bH l).length<=2 * l.length:=by
 have h1:=lG (bA l);have h2:=fC l;unfold bH;omega
theorem lF {α:Type} (f:α -> List Int) (g:α -> Nat) (h:∀ x,(f x).length<=2 * g x):∀ l:List α,(l.flatMap f).length<=2 * (l.map g).sum
 | []=>by simp
 | x :: l=>by
  have h1:=h x;have h2:=lF f g h l;simp only [JY,I0,JN,List.sum_cons];omega
theorem pK {α:Type} (f:α -> List Int) (l:List α) (k:Nat):((l.take k).flatMap f).length<=(l.flatMap f).length:=by
 conv=>rhs;rw [<- List.take_append_drop k l,List.flatMap_append,I0]
 omega
theorem rl {α:Type} (g:α -> Nat) {l:List α} {x:α} (h:x ∈ l):g x<=(l.map g).sum:=by
 induction l with
 | nil=>cases h
 | cons y l ih=>
  simp only [JN,List.sum_cons]
  cases JO.1 h with
  | inl e=>subst e;omega
  | inr e=>have:=ih e;omega
theorem fI {α:Type} (f:α -> List Int) (l:List α) {k:Nat} (h:k<l.length):(l.take (k+1)).flatMap f=(l.take k).flatMap f ++ f l[k]:=by
 rw [Jb h,List.flatMap_append];simp
theorem xH (m:aF) (p:List az) (hg:m.guards.length<=11000000) (hm:m.miles.length<=11000000) (hT:p.length+(m.guards.map fun g=>g.cond.length).sum+(m.miles.map fun g=>g.cond.length).sum<=1100000):ap Tryz.prog 9 [.agg (am m),aV p] ⟨sI (ey m p),[],0⟩:=by
 have hok:(⟨sI (ey m p),[],0⟩:bS).Ok:=⟨fun id o h=>(by cases h),by simp [AV.lt]⟩;refine aa ae Tryz.func9 rfl (by decide) Tryz.ntmps9 Tryz.results9 rfl (hok) ?_;have hgc:∀ g ∈ m.guards,g.cond.length<=1100000:=fun g hg=>by have:=rl (fun g:Gd=>g.cond.length) hg;omega
 have hmc:∀ g ∈ m.miles,g.cond.length<=1100000:=fun g hg=>by have:=rl (fun g:Ml=>g.cond.length) hg;omega
 have hN:ap Tryz.prog 24 [aV p] ⟨sI (bH p),[],0⟩:=iH p (by omega);have hpl:=gn p;obtain ⟨f,hf⟩:∃ f,f=fun g:Gd=>bH g.cond:=⟨_,rfl⟩;obtain ⟨g2,hg2⟩:∃ f,f=fun g:Ml=>bH g.cond:=⟨_,rfl⟩
 have hfl:∀ k,((m.guards.take k).flatMap f).length<=2 * (m.guards.map fun g=>g.cond.length).sum:=fun k=>by
  rw [hf];exact Jn (pK _ _ k) (lF (fun g:Gd=>bH g.cond) (fun g=>g.cond.length) (fun x=>gn x.cond) m.guards)
 have hgl:∀ k,((m.miles.take k).flatMap g2).length<=2 * (m.miles.map fun g=>g.cond.length).sum:=fun k=>by
  rw [hg2];exact Jn (pK _ _ k) (lF (fun g:Ml=>bH g.cond) (fun g=>g.cond.length) (fun x=>gn x.cond) m.miles)
 have hC:ey m p=bT ((bH p ++ m.guards.flatMap f) ++ m.miles.flatMap g2):=by rw [hf,hg2];rfl
 rw [hC]
 have hlt1:(bH p ++ m.guards.flatMap f).length<=2200000:=by
  have:=hfl m.guards.length;rw [I9] at this;rw [I0];omega
 have hlt2:((bH p ++ m.guards.flatMap f) ++ m.miles.flatMap g2).length<=4400000:=by
  have:=hgl m.miles.length;rw [I9] at this;rw [I0];omega
 have hS:=mc ((bH p ++ m.guards.flatMap f) ++ m.miles.flatMap g2) (by omega)
 repeat' first|refine gq ?_|decide|refine sp ?_ ?_<;>intro _|refine cA hN ?_|(with_reducible apply And.intro)
 all_goals first
  | rfl
  | omega
  | skip
 refine af (fun st=>∃ k:Nat,k<=m.guards.length /\ st=⟨46,[(2,.op 0 0 0),(5,.osl 1),(6,eI (k:Int))],[(0,some (.box 32 (am m))),(1,some (.row 2 1 ((bH p ++ (m.guards.take k).flatMap f).map fun n=>[eI n])))],2⟩) (fun st=>m.guards.length - aw st 6) ⟨_,(wS [0,2] (kf @I5 @JX)),0,IY _,rfl⟩ ?_;rintro _ ⟨k,hk,rfl⟩;by_cases hlt:k<m.guards.length
 .obtain ⟨x,hx⟩:∃ x,m.guards[k]=x:=⟨_,rfl⟩;have hxc:=hgc x (hx ▸ IZ hlt);have hNx:ap Tryz.prog 24 [aV x.cond] ⟨sI (bH x.cond),[],0⟩:=iH x.cond (by omega)
  have hsn:(bH p ++ (m.guards.take (k+1)).flatMap f).map (fun n=>[eI n])=(bH p ++ (m.guards.take k).flatMap f).map (fun n=>[eI n]) ++ (bH x.cond).map (fun n=>[eI n]):=by
   rw [fI f _ hlt,hx,<- JJ,Jl,hf]
  have hl1:(bH p ++ (m.guards.take k).flatMap f).length<=2200000:=by have:=hfl k;rw [I0];omega
  have hl2:=gn x.cond
  repeat' first|refine gq ?_|simp only [ac,hlt,hx]|decide|refine sp ?_ ?_<;>intro _|refine cA hNx ?_|(with_reducible apply And.intro)
  all_goals first
   | rfl
   | omega
   | exact rI (wS [0,2] @hsn) ⟨k+1,by omega,rfl⟩
 .obtain rfl:k=m.guards.length:=by omega
  rw [I9];obtain ⟨O,hO⟩:∃ O,bH p ++ m.guards.flatMap f=O:=⟨_,rfl⟩;rw [hO] at hlt1 hlt2 hS ⊢
  repeat' first|refine gf @hlt ?_|decide|refine sp ?_ ?_<;>intro _
  refine af (fun st=>∃ k:Nat,k<=m.miles.length /\ st=⟨46,[(2,.op 0 0 0),(5,.osl 1),(7,eI (k:Int))],[(0,some (.box 32 (am m))),(1,some (.row 2 1 ((O ++ (m.miles.take k).flatMap g2).map fun n=>[eI n])))],2⟩) (fun st=>m.miles.length - aw st 7) ⟨_,(wE (kf @I5 @JX)),0,IY _,rfl⟩ ?_;rintro _ ⟨k,hk2,rfl⟩;by_cases hlt3:k<m.miles.length
  .obtain ⟨x,hx⟩:∃ x,m.miles[k]=x:=⟨_,rfl⟩;have hxc:=hmc x (hx ▸ IZ hlt3);have hNx:ap Tryz.prog 24 [aV x.cond] ⟨sI (bH x.cond),[],0⟩:=iH x.cond (by omega)
   have hsn:(O ++ (m.miles.take (k+1)).flatMap g2).map (fun n=>[eI n])=(O ++ (m.miles.take k).flatMap g2).map (fun n=>[eI n]) ++ (bH x.cond).map (fun n=>[eI n]):=by
    rw [fI g2 _ hlt3,hx,<- JJ,Jl,hg2]
   have hl1:(O ++ (m.miles.take k).flatMap g2).length<=4400000:=by have:=hgl k;rw [I0];omega
   have hl2:=gn x.cond
   repeat' first|refine gq ?_|simp only [ac,hlt3,hx]|decide|refine sp ?_ ?_<;>intro _|refine cA hNx ?_|(with_reducible apply And.intro)
   all_goals first
    | rfl
    | omega
    | exact rI (wS [0,2] @hsn) ⟨k+1,by omega,rfl⟩
  .obtain rfl:k=m.miles.length:=by omega
   rw [I9]
   repeat' first|refine ge @hlt3 ?_|decide|refine sp ?_ ?_<;>intro _
   refine Eh [1] (R:=⟨sI (bT (O ++ m.miles.flatMap g2)),[],0⟩) ?_ ?_ ?_
   .repeat' first|decide|refine go ?_
    exact hS
   .repeat' first|decide|refine go ?_
    left;simp [oC,Cq,aI,aQ]
   .repeat' first|refine gq ?_|decide|refine sp ?_ ?_<;>intro _
    all_goals exact aB (by first|rfl|simp [AV.ren,AV.renL])
theorem zI (m:aF) (p:List az) (hp:p.length<=400) (hg:m.guards.length<=14) (hm:m.miles.length<=10) (hgc:∀ g ∈ m.guards,g.cond.length<=80) (hmc:∀ g ∈ m.miles,g.cond.length<=80):ap Tryz.prog 9 [.agg (am m),aV p] ⟨sI (ey m p),[],0⟩:=by
 have h:∀ (α:Type) (f:α -> Nat) (l:List α),(∀ x ∈ l,f x<=80) -> (l.map f).sum<=80 * l.length:=fun α f l=>by
  induction l with
  | nil=>simp
  | cons x l ih=>
   intro h;have:=h x (J2 ..);have:=ih fun y hy=>h y (J0 _ hy);simp only [JN,List.sum_cons,Jh];omega
 have:=h _ (fun g:Gd=>g.cond.length) m.guards hgc;have:=h _ (fun g:Ml=>g.cond.length) m.miles hmc;exact xH m p (by omega) (by omega) (by omega)
end
section
theorem ld {α:Type} (f:α -> List Int):∀ l:List α,(∀ x ∈ l,(f x).length<=800) -> (l.flatMap f).length<=800 * l.length
 | [],_=>by simp
 | x :: l,h=>by
  have h1:=h x (J2 ..);have h2:=ld f l fun y hy=>h y (J0 _ hy);simp only [JY,I0,Jh];omega
theorem gp (l:List az) (h:l.length<=400):(bH l).length<=800:=by
 have h1:=lG (bA l);have h2:=fC l;unfold bH;omega
end
section
theorem w9 (a b:List (Bool × Int)) (ha:a.length<=1000000) (hb:b.length<=1000000):bh Tryz.prog 16 [.sl 2 (a.map dS),.sl 2 (b.map dS)] fun R=>∃ r,R=val (.bool r) /\ (r=true -> a=b):=by
 refine ay ae Tryz.func16 rfl (by decide) Tryz.ntmps16 Tryz.results16 rfl ?_
 repeat' first|refine go ?_|decide|refine sp ?_ ?_<;>intro _
 .exact co ⟨false,rfl,fun h=>by cases h⟩
 .rename_i hl;have hl:a.length=b.length:=by simp at hl;omega
  refine af (fun st=>∃ (k:Nat),(k<=a.length /\ ∀ i (h:i<a.length) (h2:i<b.length),i<k -> a[i]=b[i]) /\ st=⟨26,[(0,.sl 2 (a.map dS)),(1,.sl 2 (b.map dS)),(5,eI (k:Int))],[],0⟩) (fun st=>a.length - aw st 5) ⟨_,wC,0,⟨IY _,fun i h h2 h3=>absurd h3 (by omega)⟩,rfl⟩ ?_;rintro _ ⟨k,⟨hk,hI⟩,rfl⟩;by_cases hlt:k<a.length
  .have hlt2:k<b.length:=by omega
   repeat' first|refine go ?_|simp only [ac,hlt,hlt2]|decide|refine sp ?_ ?_<;>intro _
   refine ao (by kernel_rfl) ?_
   repeat' first|refine go ?_|simp only [ac,hlt,hlt2]|decide|refine sp ?_ ?_<;>intro _
   refine ⟨_,pw .neq (.inr rfl) a[k] b[k],?_⟩
   repeat' first|refine go ?_|decide|refine sp ?_ ?_<;>intro _
   all_goals first|with_reducible exact co ⟨false,rfl,fun h=>by cases h⟩|skip
   rename_i hne;refine rI wC ⟨k+1,⟨by omega,fun i h h2 h3=>?_⟩,rfl⟩;rcases Jk i k with h5|h5
   .exact hI i h h2 h5
   .obtain rfl:i=k:=by omega
    simp at hne;exact Prod.ext hne.1 hne.2
  .repeat' first|refine go ?_|simp only [ac,hlt]|decide|refine sp ?_ ?_<;>intro _
   exact co ⟨true,rfl,fun _=>List.ext_getElem hl fun i h1 h2=>hI i h1 h2 (by omega)⟩
structure mn (m:aF):Prop where
 chk:ID m
 named:lH m
 writes:iV m.events
 sum:fG m.events<=4
 consts:(ey m []).length<=6
 order:∃ js:List Nat,m.order=js.map (bD m) /\ js.length=gi m /\ jO m js
theorem mX (m:aF) (hf:iC m) (hp:∀ p ∈ m.stages,aA p.2):bh Tryz.prog 5 [.agg (am m)] fun R=>∃ b,R=val (.bool b) /\ (b=true -> mn m):=by
 refine ay ae Tryz.func5 rfl (by decide) Tryz.ntmps5 Tryz.results5 rfl ?_;obtain ⟨hg,hm,hst,hev,hat,hus,hro,hso,hor,-⟩:=id hf.sizes;have hpl:(pars m).length<=1073741824:=by simp [pars];omega
 have hpo:∀ x ∈ pars m,aA x:=fun x hx=>by
  obtain ⟨p,hp',rfl⟩:=I7.1 hx;exact hp p hp'
 repeat' first|refine go ?_|decide|refine sp ?_ ?_<;>intro _
 all_goals first|with_reducible exact co ⟨false,rfl,fun h=>by cases h⟩|skip
 refine iB (A3 m hf) fun b hnm=>?_
 repeat' first|refine go ?_|decide|refine sp ?_ ?_<;>intro _
 all_goals first|with_reducible exact co ⟨false,rfl,fun h=>by cases h⟩|skip
 rename_i hbn;have hbn:b=true:=by simpa using hbn
 have hnm:=hnm hbn;refine dV (xg m.events (by omega) hf.events) ?_;rintro _ ⟨n,rfl,hwr⟩;refine ⟨.inr ⟨trivial,trivial⟩,?_⟩;simp only [val,AV.shift,ag.shift,Jo,JR]
 repeat' first|refine go ?_|decide|refine sp ?_ ?_<;>intro _
 all_goals first|with_reducible exact co ⟨false,rfl,fun h=>by cases h⟩|skip
 refine cQ (kG m (by omega)) (.inr bq) ?_
 repeat' first|refine go ?_|decide|refine sp ?_ ?_<;>intro _
 refine ak (BI (pars m) hpl hpo) ?_
 repeat' first|refine go ?_|decide|refine sp ?_ ?_<;>intro _
 all_goals first|with_reducible exact co ⟨false,rfl,fun h=>by cases h⟩|skip
 have chk:ID m:=by refine ⟨?_,?_,?_,?_,?_,?_,?_,?_,?_,?_⟩<;>(simp only [Ji,bne_eq_false_iff_eq] at *;omega)
 have hwr2:n=fG m.events /\ iV m.events:=hwr.resolve_left (by simp only [Ji,bne_eq_false_iff_eq] at *;omega);have hn4:n<=4:=by simp only [Ji,bne_eq_false_iff_eq] at *;omega
 refine dJ ((zI m [] (by simp) hg hm hf.guards hf.miles).fits (args:=[.agg (am m),.c (.slice none 0 0)]) ⟨.one (.refl _),.one (.nil 7),trivial⟩) (ro) ?_
 repeat' first|refine go ?_|decide|refine sp ?_ ?_<;>intro _
 all_goals first|with_reducible exact co ⟨false,rfl,fun h=>by cases h⟩|skip
 rename_i hc6;have hc6:(ey m []).length<=6:=by simp only [Ji] at hc6;omega
 refine dV (A0 m hf hp) fun R hR=>?_;rcases hR with ⟨js,rfl,hjl,hgr⟩|rfl
 .have e0:((0:Int) == 0)=true:=by decide
  refine ⟨.inr ⟨⟨trivial,trivial,trivial⟩,fS,trivial⟩,?_⟩;simp only [AV.shift,AV.shiftL,ag.shift,aE.shift]
  repeat' first|refine ge e0 ?_|decide|refine sp ?_ ?_<;>intro _
  refine iB (w9 (js.map (bD m)) m.order (by rw [Jd,hjl];unfold gi;omega) (by omega)) fun x hx=>?_
  repeat' first|refine go ?_|decide|refine sp ?_ ?_<;>intro _
  exact co ⟨_,rfl,fun h=>⟨chk,hnm,hwr2.2,by rw [<- hwr2.1];exact hn4,hc6,js,(hx h).symm,hjl,hgr⟩⟩
 .have e0:((10:Int) == 0)=false:=by decide
  refine ⟨.inr ⟨⟨trivial,trivial,trivial⟩,trivial⟩,?_⟩;simp only [AV.shift,AV.shiftL,ag.shift,aE.shift]
  repeat' first|refine ge e0 ?_|decide|refine sp ?_ ?_<;>intro _
  exact co ⟨false,rfl,fun h=>by cases h⟩
end
section
theorem mj {w:World} {g o:Nat} {cur:Array Value} {e:TypeId} {f:Nat × Nat} (hg:w.heap[g]? = some (.cells cur e f)) (v:Value):(w.setCell ⟨g,o,none⟩ v).heap[g]? = some (.cells (cur.setIfInBounds o v) e f):=by
 simp [World.setCell,Array.getElem?_modify,hg]
theorem dX {g:Nat} {e:TypeId} {f:Nat × Nat}:∀ (vs:List Value) (o:Nat) (w:World) (cur:Array Value),w.heap[g]? = some (.cells cur e f) -> o+vs.length<=cur.size -> ∃ cur':Array Value,(w.setCells g o vs).heap[g]? = some (.cells cur' e f) /\ cur'.toList=cur.toList.take o ++ vs ++ cur.toList.drop (o+vs.length)
 | [],o,w,cur,hg,_=>⟨cur,hg,by simp⟩
 | v :: vs,o,w,cur,hg,hl=>by
  simp only [Jh] at hl;obtain ⟨cur',h1,h2⟩:=dX vs (o+1) _ _ (mj hg v) (by simp;omega);refine ⟨cur',h1,?_⟩;rw [h2];have ho:o<cur.toList.length:=by simp;omega
  rw [Array.toList_setIfInBounds];simp only [Jh];rw [Jb (by simpa using ho)];simp only [List.getElem_set_self,JJ,JM,JR];rw [List.take_set_of_le (I6 _),List.drop_set_of_lt (by omega),show o+1+vs.length=o+(vs.length+1) by omega]
theorem xX (w:World) (b o:Nat) (c:Nat) (hc:∀ j,j<2 -> (w.cell? ⟨b,o+j,none⟩).isSome=true) (hf:∀ j,j<2 -> w.frozen? ⟨b,o+j,none⟩=false) (ty:TypeId) :
  (Builtin.clear_ #[30] ty #[.slice (some ⟨b,o,none⟩) 1 c]).run Tryz.prog w=.ok (.tuple #[]) (w.setCells b o [.bool false,.int .i64 0]):=by
 have hz:∀ w,(zeroValue 97).run Tryz.prog w=.ok (.agg #[.bool false,.int .i64 0]) w:=Tryz.zeroValue97;have ht:Tryz.prog.underlying 30=some (.slice 97):=Tryz.underlying30;have hst:=run_storeCells_cells (P:=Tryz.prog) b o [.bool false,.int .i64 0] 0 w (by simpa using hc) (by simpa using hf) (by intro v hv;simp at hv;rcases hv with rfl | rfl<;>rfl);simp only [Nat.add_zero] at hst;simp [Builtin.clear_,Sem.run_bind,run_underlying ht,hz];rw [show (Builtin.zeroCells (Value.agg #[Value.bool false,Value.int IntKind.i64 0]).cells 1).toList=[Value.bool false,Value.int IntKind.i64 0] by kernel_rfl,hst];rfl
theorem vc (w:World) (g cap n i:Nat) (cur:Array Value) (hg:w.heap[g]? = some (.cells cur 97 (0,0))) (hcs:cap * 2<=cur.size) (hcn:n<=cap) (hm:cap<=9223372036854775807) (hi:i<n) (hone:∀ x ∈ cur.toList.take (n * 2),x.oneCell'=true) :
  Calls Tryz.prog 91 #[.slice (some ⟨g,0,none⟩) n cap,.int .i64 (i:Int),.int .i64 ((i+1:Nat):Int)] w fun e w'=>
   e=.returned (.slice (some ⟨g,0,none⟩) (n - 1) cap) /\ w'=(w.drew.setCells g (i * 2) ((cur.toList.drop ((i+1) * 2)).take ((n - 1 - i) * 2))).setCells g ((n - 1) * 2) [.bool false,.int .i64 0]:=by
 obtain ⟨j,hj⟩:∃ j,j=i+1:=⟨_,rfl⟩;rw [<- hj];obtain ⟨news,hnews⟩:∃ news,news=(cur.toList.drop ((j) * 2)).take ((n - 1 - i) * 2):=⟨_,rfl⟩;have hlen:news.length=(n - (j)) * 2:=by rw [hnews];simp;omega
 have hcell:∀ k,k<cap * 2 -> w.cell? ⟨g,k,none⟩=cur[k]?:=fun k hk=>by simp [World.cell?,hg]
 have hfz:∀ k,w.frozen? ⟨g,k,none⟩=false:=fun k=>by simp [World.frozen?,hg]
 have hget:∀ t u,news[t]? = some u -> w.cell? ⟨g,(j) * 2+t,none⟩=some u:=fun t u hu=>by
  have ht:=(IV.1 hu).1;rw [hlen] at ht;rw [hnews,List.getElem?_take_of_lt (by omega),Jy,JT] at hu;rw [hcell _ (by omega)];exact hu
 have hone':∀ u ∈ news,u.oneCell'=true:=fun u hu=>by
  refine hone u ?_;rw [hnews] at hu;obtain ⟨k,hk,rfl⟩:=Jw hu;simp only [Jf,JW,Js] at hk;rw [List.getElem_take,List.getElem_drop];exact List.mem_take_iff_getElem.2 ⟨(j) * 2+k,by simp;omega,rfl⟩
 obtain ⟨A,hA,hsrc⟩:∃ A:Addr,(if cap=j then some (⟨g,0,none⟩:Addr) else some ⟨g,(j) * 2,none⟩)=some A /\ Hid (∀ t u,news[t]? = some u -> w.drew.cell? (A.add t)=some u):=by
  by_cases h:cap=j
  .refine ⟨⟨g,0,none⟩,by simp [h],fun t u hu=>?_⟩;have h0:news.length=0:=by rw [hlen];omega
   rw [J5.1 h0] at hu;simp at hu
  .exact ⟨⟨g,(j) * 2,none⟩,by simp [h],fun t u hu=>by rw [Addr.add_lit];exact hget t u hu⟩
 have s1:Hid (news.length=(n - (j)) * 2):=hlen;have s2:Hid (∀ u ∈ news,u.oneCell'=true):=hone'
 have s3:Hid (∀ t,t<news.length -> (w.drew.cell? ⟨g,0+i * 2+t,none⟩).isSome=true /\ w.drew.frozen? ⟨g,0+i * 2+t,none⟩=false):=by
  intro t ht;rw [hlen] at ht;refine ⟨?_,hfz _⟩;show (w.cell? _).isSome=true;rw [hcell _ (by omega)];have:0+i * 2+t<cur.size:=by omega
  rw [IX this];rfl
 obtain ⟨W1,hW1⟩:∃ W1,W1=w.drew.setCells g (0+i * 2) news:=⟨_,rfl⟩
 have hcl:∀ ty c,(Builtin.clear_ #[30] ty #[.slice (some ⟨g,(n - 1) * 2,none⟩) (n - (n - 1)) c]).run Tryz.prog W1=.ok (.tuple #[]) (W1.setCells g ((n - 1) * 2) [.bool false,.int .i64 0]):=fun ty c=>by
  rw [show n - (n - 1)=1 by omega];refine xX W1 g ((n - 1) * 2) c (fun j hj=>?_) (fun j hj=>?_) ty
  .rw [hW1];refine World.isSome_setCells _ _ _ _ _ ?_;show (w.cell? _).isSome=true;rw [hcell _ (by omega),IX (by omega)];rfl
  .rw [hW1,World.frozen?_setCells];exact hfz _
 rw [<- hnews];have mixed:=ae;have hic:i<=cap:=by omega
 have hjc:j<=cap:=by omega
 have hin:j<=n:=by omega
 have hne:i ≠ j:=by omega
 have hij:i<j:=by omega
 have hc1:¬ cap=n - 1:=by omega
 have hn1:n - 1<=n:=by omega
 have hn2:n - 1<=cap:=by omega
 have hsum:i+(n - j)=n - 1:=by omega
 have ht:Tryz.prog.underlying 30=some (.slice 97):=Tryz.underlying30
 obtain ⟨i0,hi0,hz0⟩:∃ i0,Tryz.prog.info? 97=some i0 /\ i0.size=2:=by
  have h2:=zn;obtain ⟨i1,z,hund,hi,hz,hs,hb,hzs,hsz⟩:=dB h2;exact ⟨i1,hi,hs⟩
 have hW:Hid (W1=w.drew.setCells g (0+i * 2) news):=hW1;clear hj hget hone' hnews hcell hfz hone hlen hW1 hg hcs
 go_enter Tryz.func91,Tryz.ntmps91
 go_wp2_with fail
 go_region_law_o (refine step_append_room rfl (.tmp 22) (.tmp 25) 30 rfl 97 i0 2 ht hi0 hz0 g 0 i cap (by simp [Act.eval,Act.put]) A (n - (j)) (cap - (j)) news (by simp [Act.eval,Act.put]) s1.out hsrc.out s2.out (by omega) s3.out ?_;rw [<- hW.out])
 go_wp2
 go_ret
 exact ⟨rfl,by rw [hW.out,Kl]⟩
theorem qF (w:World) (g o:Nat) (v:Value):w.grownBy (w.setCell ⟨g,o,none⟩ v) (some g):=
 ⟨rfl,rfl,rfl,by simp [World.setCell],fun k _ hne=>by
  have:g ≠ k:=fun e=>hne (by rw [e]);simp [World.setCell,Array.getElem?_modify,this]⟩
theorem jF {w w' w'':World} {r:Option Nat} (h:w.grownBy w' r) (h':w'.grownBy w'' r):w.grownBy w'' r:=
 ⟨h'.os.trans h.os,h'.tape.trans h.tape,h'.output.trans h.output,Jn h.size h'.size,fun k hk hne=>(h'.block k (I1 hk h.size) hne).trans (h.block k hk hne)⟩
theorem ga (g:Nat):∀ (vs:List Value) (o:Nat) (w:World),w.grownBy (w.setCells g o vs) (some g)
 | [],_,w=>⟨rfl,rfl,rfl,I6 _,fun _ _ _=>rfl⟩
 | v :: vs,o,w=>jF (qF w g o v) (ga g vs (o+1) _)
theorem j8 {α:Type} {sz:Nat}:∀ {vals:List (List α)} (i:Nat),(∀ r ∈ vals,r.length=sz) -> vals.flatten.take (i * sz)=(vals.take i).flatten
 | [],i,_=>by simp
 | r :: vals,0,_=>by simp
 | r :: vals,i+1,h=>by
  have hr:=h r (by simp);rw [List.flatten_cons,List.take_succ_cons,List.flatten_cons,JI,Nat.one_mul,List.take_append,hr];rw [Jp (by omega),show i * sz+sz - sz=i * sz by omega,j8 i fun r hr=>h r (by simp [hr])]
theorem km {α:Type} {sz:Nat}:∀ {vals:List (List α)} (i:Nat),(∀ r ∈ vals,r.length=sz) -> vals.flatten.drop (i * sz)=(vals.drop i).flatten
 | [],i,_=>by simp
 | r :: vals,0,_=>by simp
 | r :: vals,i+1,h=>by
  have hr:=h r (by simp);rw [List.flatten_cons,List.drop_succ_cons,JI,Nat.one_mul,List.drop_append,hr];rw [List.drop_of_length_le (by omega),show i * sz+sz - sz=i * sz by omega,JR,km i fun r hr=>h r (by simp [hr])]
theorem uE (vals:List (List Value)) (i:Nat) (hi:i<vals.length) (h2:∀ r ∈ vals,r.length=2 /\ ∀ x ∈ r,x.oneCell'=true):Di Tryz.prog 91 97 2 vals [.int .i64 (i:Int),.int .i64 ((i+1:Nat):Int)] (vals.eraseIdx i):=by
 refine ⟨bC Tryz.func91 rfl (by decide),fun w v base hown=>?_⟩;obtain ⟨hl,hown⟩:=hown;rcases hown with ⟨_,h0⟩|⟨g,cap,cur,rfl,hb,hg,hcn,hm,hcs,htk⟩
 .omega
 have hlen:vals.flatten.length=vals.length * 2:=by
  have:=fD _root_.id 2 vals (fun r hr=>(h2 r hr).1)
  rwa [KO] at this
 have h2':∀ r ∈ vals,r.length=2:=fun r hr=>(h2 r hr).1;have hlt:=(Jj.1 hg).1;refine (vc w g cap vals.length i cur hg hcs hcn (by simpa [maxLen] using hm) hi (fun x hx=>?_)).mono ?_
 .rw [htk] at hx;obtain ⟨r,hr,hx⟩:=List.mem_flatten.1 hx;exact (h2 r hr).2 x hx
 rintro ex w' ⟨rfl,rfl⟩
 have hnews:((cur.toList.drop ((i+1) * 2)).take ((vals.length - 1 - i) * 2))=(vals.drop (i+1)).flatten:=by
  rw [<- km (i+1) h2',<- htk,List.drop_take]
  congr 1
  omega
 rw [hnews]
 have hnl:(vals.drop (i+1)).flatten.length=(vals.length - (i+1)) * 2:=by
  have:=fD _root_.id 2 (vals.drop (i+1)) (fun r hr=>h2' r (J7 hr));rw [KO] at this;rw [this,JW]
 obtain ⟨c1,hc1,hc1'⟩:=dX (vals.drop (i+1)).flatten (i * 2) w.drew cur hg (by omega)
 have hs1:c1.size=cur.size:=by
  have:=congrArg List.length hc1';simp only [Js,I0,Jf,JW] at this;omega
 obtain ⟨c2,hc2,hc2'⟩:=dX [.bool false,.int .i64 0] ((vals.length - 1) * 2) _ c1 hc1 (by simp;omega)
 have hs2:c2.size=cur.size:=by
  have:=congrArg List.length hc2';simp only [Js,I0,Jf,JW,Jh,Kf] at this;omega
 have htake:c2.toList.take ((vals.length - 1) * 2)=(vals.eraseIdx i).flatten:=by
  rw [hc2',JJ,JZ (by simp;omega),List.take_take,Nat.min_self,hc1',JJ]
  have e1:cur.toList.take (i * 2)=(vals.take i).flatten:=by
   rw [<- j8 i h2',<- htk,List.take_take,Nat.min_eq_left (by omega)]
  rw [e1,<- JJ,<- List.flatten_append,<- J6]
  have e2:(vals.eraseIdx i).flatten.length=(vals.length - 1) * 2:=by
   have:=fD _root_.id 2 (vals.eraseIdx i) (fun r hr=>h2' r (List.mem_of_mem_eraseIdx hr));rw [KO] at this;rw [this,List.length_eraseIdx_of_lt hi]
  rw [JZ (by omega),Jp (by omega)]
 have hel:(vals.eraseIdx i).length=vals.length - 1:=List.length_eraseIdx_of_lt hi;refine ⟨_,rfl,?_,?_,rfl⟩
 .rw [hel];refine ⟨?_,.inr ⟨g,cap,c2,rfl,hb,hc2,by omega,hm,by omega,htake⟩⟩;have e3:c2.toList.length=cur.size:=by rw [Js,hs2]
  rw [<- htake,Jf,e3];omega
 .exact jF (w':=w.drew) ⟨rfl,rfl,rfl,I6 _,fun _ _ _=>rfl⟩ (jF (ga g _ _ _) (ga g _ _ _))
end
end
section
section
theorem rq (l:List (Bool × Int)):dI (l.map fun p=>[Value.bool p.1,Value.int .i64 p.2])=l.map dS:=by
 simp [dI]
theorem Dr {st:ai} {id:Nat} {l:List (Bool × Int)} {i:Nat} {K:AV -> ai -> Prop} (hid:st.tab.get id=some (.row 97 2 (l.map dS))) (hi:i<l.length)
  (hk:K (.osl st.next) ⟨st.n,st.env,bv st.tab st.next (some id) (.row 97 2 ((l.eraseIdx i).map dS)),st.next+1⟩):dr none Tryz.prog st 91 [.osl id,eI (i:Int),eI ((i+1:Nat):Int)] K:=by
 refine .inr (.inl ⟨rfl,.inl (.inl ⟨id,97,2,l.map (fun p=>[Value.bool p.1,Value.int .i64 p.2]),[.int .i64 (i:Int),.int .i64 ((i+1:Nat):Int)],(l.eraseIdx i).map (fun p=>[Value.bool p.1,Value.int .i64 p.2]),rfl,by rw [rq];exact hid,?_,?_,by rw [rq];exact hk⟩)⟩)
 .have:=uE (l.map fun p=>[Value.bool p.1,Value.int .i64 p.2]) i (by simpa using hi) (fun r hr=>by
   obtain ⟨p,_,rfl⟩:=I7.1 hr;exact ⟨rfl,fun x hx=>by simp at hx;rcases hx with rfl | rfl<;>rfl⟩)
  rwa [J6,<- List.map_take,<- List.map_drop,<- Jl,<- J6] at this
 .intro r hr;obtain ⟨p,_,rfl⟩:=I7.1 hr;exact ⟨rfl,fun x hx=>by simp at hx;rcases hx with rfl | rfl<;>rfl⟩
theorem xr (m:aF) (x y:Bool × Int) (hf:iC m) (hp:∀ p ∈ m.stages,aA p.2):ap Tryz.prog 89 [.agg (dS y),.rp (am m),.rp (dS x)] (val (.bool (dN m x y))):=by
 obtain ⟨bx,nx⟩:=x;obtain ⟨b,n⟩:=y;refine aa ae Tryz.func89 rfl (by decide) Tryz.ntmps89 Tryz.results89 rfl (aq _) ?_
 repeat' first|refine go ?_|decide|refine sp ?_ ?_<;>intro _
 refine ak (yx m bx nx b n hf hp) ?_
 repeat' first|refine go ?_|decide|refine sp ?_ ?_<;>intro _
theorem zR (m:aF) (x:Bool × Int) (left:List (Bool × Int)) (hl:left.length<=1000000) (hf:iC m) (hp:∀ p ∈ m.stages,aA p.2):ap Tryz.prog 87 [.agg (dS x),.rp [.sl 2 (left.map dS)],.rp (am m)] (val (.bool (!left.any (dN m x)))):=by
 refine aa ae Tryz.func87 rfl (by decide) Tryz.ntmps87 Tryz.results87 rfl (aq _) ?_
 repeat' first|refine go ?_|decide|refine sp ?_ ?_<;>intro _
 refine ak (qZ 89 [.rp (am m),.rp (dS x)] left (dN m x) hl ⟨trivial,trivial,trivial⟩ fun y _=>xr m x y hf hp) ?_
 repeat' first|refine go ?_|decide|refine sp ?_ ?_<;>intro _
theorem yB {α β:Type} (f:α -> β) (l:List α) (j:Nat):(l.map f).eraseIdx j=(l.eraseIdx j).map f:=by
 rw [J6,J6,Jl,List.map_take,List.map_drop]
def b4 (m:aF) (js:List Nat):List Nat:=(List.range (gi m)).filter fun i=>decide (i ∉ js)
theorem dn {m:aF} {js:List Nat} {i:Nat}:i ∈ b4 m js ↔ i<gi m /\ i ∉ js:=by simp [b4]
theorem wu (m:aF) (js:List Nat):(b4 m js).Pairwise (· < ·):=List.Pairwise.filter _ (List.pairwise_lt_range)
theorem Bg (m:aF):yq m=(List.range (gi m)).map (bD m):=by
 unfold yq gi;rw [List.range_add,Jl]
 congr 1
 .refine List.map_congr_left fun k hk=>?_;rw [A4 (by simpa using hk)]
 .rw [List.map_map];refine List.map_congr_left fun k hk=>?_;show _=bD m (m.guards.length+k);rw [xP (by omega),show m.guards.length+k - m.guards.length=k by omega]
theorem vp {m:aF} {js:List Nat} {j:Nat} (hj:j<(b4 m js).length):(b4 m js).eraseIdx j=b4 m (js ++ [(b4 m js)[j]]):=by
 have hnd:(b4 m js).Nodup:=(wu m js).imp fun h=>Nat.ne_of_lt h
 have h1:(b4 m js).eraseIdx j=(b4 m js).erase (b4 m js)[j]:=by
  rw [List.erase_eq_eraseIdx_of_idxOf (hnd.idxOf_getElem j hj)]
 rw [h1,hnd.erase_eq_filter];obtain ⟨v,hv⟩:∃ v,v=(b4 m js)[j]:=⟨_,rfl⟩;rw [<- hv];clear hv h1;unfold b4;rw [List.filter_filter];refine List.filter_congr fun x _=>?_;rw [KR];simp;constructor
 .rintro ⟨h1,h2⟩;exact ⟨h2,h1⟩
 .rintro ⟨h1,h2⟩;exact ⟨h2,h1⟩
theorem wP {m:aF} {js:List Nat} {j:Nat} (hj:j<(b4 m js).length) (h:∀ k ∈ b4 m js,cS m (b4 m js)[j] k=false) (hf:∀ i (hi:i<j),∃ k ∈ b4 m js,cS m ((b4 m js)[i]'(by omega)) k=true):jv m js (b4 m js)[j]:=by
 have hm:=dn.1 (IZ hj);refine ⟨hm.1,⟨hm.2,fun k hk=>?_⟩,fun i' hi' hF=>?_⟩
 .by_cases hkj:k ∈ js
  .exact .inl hkj
  .exact .inr (h k (dn.2 ⟨hk,hkj⟩))
 .have hl:i' ∈ b4 m js:=dn.2 ⟨by omega,hF.1⟩;obtain ⟨p,hp,he⟩:=Jw hl
  have hpj:p<j:=by
   refine Classical.byContradiction fun hn=>?_;rcases Jk j p with h2|h2
   .have:=(Kz.1 (wu m js)) j p hj hp h2;omega
   .obtain rfl:p=j:=by omega
    omega
  obtain ⟨k,hk,hw⟩:=hf p hpj;rw [he] at hw;have hk2:=dn.1 hk;rcases hF.2 k hk2.1 with h3|h3
  .exact hk2.2 h3
  .rw [hw] at h3;cases h3
theorem sK (m:aF):b4 m []=List.range (gi m):=by
 unfold b4;rw [List.filter_eq_self];simp
theorem AP (m:aF) (js0:List Nat) (hf:iC m) (hp:∀ p ∈ m.stages,aA p.2) (hj0:js0.length=gi m) (hgr:jO m js0):ap Tryz.prog 40 [.agg (am m)] ⟨.tup [.osl 0,eI 0],[(0,some (.row 97 2 ((js0.map (bD m)).map dS)))],1⟩:=by
 refine aa ae Tryz.func40 rfl (by decide) Tryz.ntmps40 Tryz.results40 rfl (qL (by simp [cd,aE.lt,AV.ltL,AV.lt]) (by simp [AV.lt,AV.ltL])) ?_;obtain ⟨hg,hm,-⟩:=id hf.sizes;have hnS:gi m<=24:=by unfold gi;omega
 have hall:(yq m).length<=24:=by rw [Bg];simpa using hnS
 repeat' first|refine go ?_|decide|refine sp ?_ ?_<;>intro _
 refine cQ (CL m (by omega) (by omega)) (.inr fS) ?_
 repeat' first|refine go ?_|decide|refine sp ?_ ?_<;>intro _
 have hA0:(yq m).map dS=((b4 m []).map (bD m)).map dS:=by rw [Bg,sK]
 refine af (fun st=>∃ (k:Nat),(k<=js0.length /\ (b4 m (js0.take k)).length+k=gi m) /\ st=⟨30,[(1,.op 0 0 0),(4,.op 2 0 0),(5,.osl 3)],[(0,some (.box 32 (am m))),(1,some (.row 97 2 (((b4 m (js0.take k)).map (bD m)).map dS))),(2,some (.box 30 [.osl 1])),(3,some (.row 97 2 (((js0.take k).map (bD m)).map dS)))],4⟩) (fun st=>kT st 1) ⟨_,((aW 5 97 2 (by simp only [f9,ai.get,a7,ai.put,↓reduceIte,reduceCtorEq,Nat.reduceLT,Nat.reduceEqDiff,Nat.reduceAdd,Nat.reduceLeDiff,eq_self,implies_true,Jo,I5,hA0])).trans (wS [0,1,2,3] (kf @I5 hA0))),0,⟨IY _,by rw [I5,sK,List.length_range];rfl⟩,rfl⟩ ?_;rintro _ ⟨k,⟨hk,hkn⟩,rfl⟩;obtain ⟨js,hjs⟩:∃ js,js=js0.take k:=⟨_,rfl⟩;have hjl:js.length=k:=by rw [hjs,Jf];omega
 rw [<- hjs];obtain ⟨L,hL⟩:∃ L,L=b4 m js:=⟨_,rfl⟩
 have hLl:L.length<=24:=by
  have:=Kw (fun i=>decide (i ∉ js)) (List.range (gi m));rw [List.length_range] at this;rw [hL];unfold b4;omega
 have hLm:(L.map (bD m)).length=L.length:=Jd ..;rw [<- hjs,<- hL] at hkn;rw [<- hL];by_cases hlt:k<js0.length
 .have hnx:jv m js js0[k]:=by rw [hjs];exact hgr k hlt
  have hin:js0[k] ∈ L:=by rw [hL];exact dn.2 ⟨hnx.lt,hnx.free.1⟩
  have hpos:0<L.length:=List.length_pos_of_mem hin;have hltI:decide ((0:Int)<(L.length:Int))=true:=by simp;omega
  repeat' first|refine ge (kf @hltI @hLm) ?_|decide|refine sp ?_ ?_<;>intro _
  refine ak (ph 87 [.rp [.sl 2 ((L.map (bD m)).map dS)],.rp (am m)] (L.map (bD m)) (fun x=>!(L.map (bD m)).any (dN m x)) (by rw [hLm];omega) ⟨trivial,trivial,trivial⟩ fun x _=>zR m x (L.map (bD m)) (by rw [hLm];omega) hf hp) ?_
  have hwn:∀ x ∈ L,((L.map (bD m)).any (dN m (bD m x))=true ↔ ∃ y ∈ L,cS m x y=true):=fun x hx=>by
   rw [List.any_eq_true];constructor
   .rintro ⟨y,hy,hw⟩;obtain ⟨z,hz,rfl⟩:=I7.1 hy;rw [sG (dn.1 (hL ▸ hx)).1 (dn.1 (hL ▸ hz)).1] at hw;exact ⟨z,hz,hw⟩
   .rintro ⟨y,hy,hw⟩;refine ⟨bD m y,List.mem_map_of_mem hy,?_⟩;rw [sG (dn.1 (hL ▸ hx)).1 (dn.1 (hL ▸ hy)).1];exact hw
  rcases nE (fun x=>!(L.map (bD m)).any (dN m x)) (L.map (bD m)) with ⟨h1,h2⟩|⟨j,hj,h1,h2,h3⟩
  .exfalso;have h4:=h2 _ (List.mem_map_of_mem hin);simp only [Bool.not_eq_false'] at h4;obtain ⟨y,hy,hw⟩:=(hwn _ hin).1 h4;have hy2:=dn.1 (hL ▸ hy);rcases hnx.free.2 y hy2.1 with h5|h5
   .exact hy2.2 h5
   .rw [hw] at h5;cases h5
  .have hjL:j<L.length:=by rw [hLm] at hj;exact hj
   have hLj:(L.map (bD m))[j]=bD m L[j]:=by simp
   have hnx2:jv m js L[j]:=by
    have key:jv m js ((b4 m js)[j]'(by rw [<- hL];exact hjL)):=wP (by rw [<- hL];exact hjL) (fun y hy=>by
     have h4:¬ (L.map (bD m)).any (dN m (bD m L[j]))=true:=by
      rw [hLj] at h2;simpa using h2
     rw [hwn _ (IZ hjL)] at h4;have h5:¬ cS m L[j] y=true:=fun h=>h4 ⟨y,hL ▸ hy,h⟩;have h6:cS m L[j] y=false:=(by simpa using h5);simpa only [hL] using h6) (fun i hi=>by
     have h4:=h3 i hi;simp only [List.getElem_map,Bool.not_eq_false'] at h4;obtain ⟨y,hy,hw⟩:=(hwn _ (IZ (show i<L.length by omega))).1 h4;exact ⟨y,hL ▸ hy,by simpa only [hL] using hw⟩)
    simpa only [hL] using key
   have hje:L[j]=js0[k]:=hnx2.uniq hnx;have e0:decide ((j:Int)<0)=false:=(by simp);have ew:IntKind.i64.wrap ((j:Int)+1)=((j+1:Nat):Int):=by rw [aP (by omega) (by omega)];rfl
   rw [h1];have htk:js0.take (k+1)=js ++ [L[j]]:=(by rw [hje,hjs,Jb hlt])
   have hE:(L.map (bD m)).eraseIdx j=(b4 m (js0.take (k+1))).map (bD m):=by
    rw [yB,htk];have:=vp (m:=m) (js:=js) (j:=j) (by rw [<- hL];exact hjL);simp only [<- hL] at this;rw [this]
   have hE1:(((L.map (bD m)).eraseIdx j).map dS)=((b4 m (js0.take (k+1))).map (bD m)).map dS:=(by rw [hE]);have et:(((js0.take (k+1)).map (bD m)).map dS)=(js.map (bD m)).map dS ++ [dS (bD m L[j])]:=by rw [htk,Jl,Jl];rfl
   have hjs1:(js.map (bD m)).length=k:=(by rw [Jd,hjl]);have hra:((L.map (bD m)).map dS)[j]?.getD []=dS (bD m L[j]):=(by simp [hjL])
   repeat' first|refine ge (kf e0 (kf @hra (kf @hjL @hLm))) ?_|decide|refine sp ?_ ?_<;>intro _
   refine ⟨rfl,by omega,?_⟩;rw [ew];refine Dr (l:=L.map (bD m)) (by simp [ag.gc]) hj ?_
   repeat' first|refine ge e0 ?_|decide|refine sp ?_ ?_<;>intro _
   have hel:((L.map (bD m)).eraseIdx j).length+1=L.length:=by rw [List.length_eraseIdx_of_lt hj,hLm];omega
   rw [hE] at hel;rw [Jd] at hel;exact jU (wS [0,6,2,5] (kf et hE1)) ⟨k+1,⟨by omega,by omega⟩,rfl⟩ (by simp only [kT,ag.gc];simp;omega)
 .obtain rfl:k=js0.length:=by omega
  rw [I9] at hjs;have hL0:L=[]:=JA (by omega);have hltI:decide ((0:Int)<(L.length:Int))=false:=I3 (by rw [hL0];simp)
  repeat' first|refine ge (kf @hltI @hLm) ?_|decide|refine sp ?_ ?_<;>intro _
  rw [hjs];exact ⟨[3],by simp,rfl,⟨KC,⟨_,_,_,rfl⟩,by simp [ag.gc]⟩,trivial⟩
end
section
theorem Ii {vs:Array Value} (h:vs.size=1):∃ a,vs = #[a]:=⟨vs[0],by apply KS (by simpa using h);intro i h1 h2;simp at h2;match i with | 0=>rfl⟩
theorem x9 (l:List Int) (hl:l.length<=1073741824) (ho:∀ x ∈ l,aA x):ap Tryz.prog 37 [sI l] (val (.int .i64 (bX l))):=
 bo (bC Tryz.func37 rfl (by decide)) fun S w vs hS hn hv=>by
  obtain ⟨a,rfl⟩:=Ii (by simpa using hn);exact t9 l a w hl (mF (hv 0 a _ rfl rfl) hS ho)
theorem EV (m:aF) (h:ID m):ap Tryz.prog 34 [.agg (am m)] (val (.bool true)):=by
 refine aa ae Tryz.func34 rfl (by decide) Tryz.ntmps34 Tryz.results34 rfl (aq _) ?_;have d1:decide ((m.attrs.length:Int)<=5)=true:=Jc (by have:=h.attrs;omega);have d2:((m.inits.length:Int) == (m.attrs.length:Int))=true:=by simp [h.inits]
 have d3:decide ((m.users.length:Int)<=4)=true:=Jc (by have:=h.users;omega);have d4:decide ((m.roles.length:Int)<=4)=true:=Jc (by have:=h.roles;omega);have d5:decide ((m.stages.length:Int)<=8)=true:=Jc (by have:=h.stages;omega);have d6:decide ((m.events.length:Int)<=6)=true:=Jc (by have:=h.events;omega);have d7:decide ((m.guards.length:Int)<=12)=true:=Jc (by have:=h.guards;omega);have d8:decide ((m.miles.length:Int)<=8)=true:=Jc (by have:=h.miles;omega);have d9:decide ((m.sods.length:Int)<=6)=true:=Jc (by have:=h.sods;omega)
 repeat' first|refine gf (kf d1 (kf d2 (kf d3 (kf d4 (kf d5 (kf d6 (kf d7 (kf d8 d9)))))))) ?_|decide|refine sp ?_ ?_<;>intro _
theorem lV (n m:Int):ap Tryz.prog 78 [eI n,eI m] (val (.bool (b7 n m))):=by
 refine aa ae Tryz.func78 rfl (by decide) Tryz.ntmps78 Tryz.results78 rfl (aq _) ?_;unfold b7;by_cases g:0<=n
 .have d1:decide (0<=n)=true:=Jc g
  repeat' first|refine gf (kf d1 @JU) ?_|decide|refine sp ?_ ?_<;>intro _
 .have d1:decide (0<=n)=false:=I3 g
  repeat' first|refine gf (kf d1 @Ke) ?_|decide|refine sp ?_ ?_<;>intro _
theorem BJ (l:List Ev) (hl:l.length<=1000) (hs:∀ e ∈ l,e.sets.length<=10) (hw:iV l) (h4:fG l<=4):ap Tryz.prog 36 [.sl 5 (l.map mt)] (val (.bool true)):=by
 refine aa ae Tryz.func36 rfl (by decide) Tryz.ntmps36 Tryz.results36 rfl (aq _) ?_
 repeat' first|refine go ?_|decide|refine sp ?_ ?_<;>intro _
 refine af (fun st=>∃ k:Nat,k<=l.length /\ st=⟨42,[(3,eI (fG (l.take k))),(6,.sl 5 (l.map mt)),(7,eI (l.length:Int)),(8,eI (k:Int))],[],0⟩) (fun st=>l.length - aw st 8) ⟨_,(wE (kf @I5 @te)),0,IY _,rfl⟩ ?_;rintro _ ⟨k,hk,rfl⟩;have hbd:=jT hs k hk fun i h h2=>⟨(hw.each i h).1,(hw.each i h).2.1⟩;by_cases hlt:k<l.length
 .obtain ⟨g1,g2,g3⟩:=hw.each k hlt;have h2:=hs _ (IZ hlt);have h3:0<=l[k].times * (l[k].sets.length:Int):=Int.mul_nonneg g1 (by omega);have h4:l[k].times * (l[k].sets.length:Int)<=3 * 10:=Int.mul_le_mul g2 (by omega) (by omega) (by omega);have e1:IntKind.i64.wrap (l[k].times * (l[k].sets.length:Int))=l[k].times * (l[k].sets.length:Int):=aP (by omega) (by omega)
  have e2:IntKind.i64.wrap (fG (l.take k)+l[k].times * (l[k].sets.length:Int))=fG (l.take (k+1)):=by
   rw [fr hlt];exact aP (by omega) (by omega)
  have d1:decide (l[k].times<0)=false:=I3 (by omega);have d2:decide (3<l[k].times)=false:=I3 (by omega);by_cases hz:l[k].times=0
  .have d3:(l[k].times == 0)=true:=(by simp [hz]);have d4:decide (0<(l[k].sets.length:Int))=false:=I3 (by have:=g3 hz;omega);have d5:decide (0<l[k].sets.length)=false:=I3 (by have:=g3 hz;omega)
   repeat' first|refine gq ?_|simp only [ac,hlt,d1,d2,d3,d4,d5,e1]|decide|refine sp ?_ ?_<;>intro _
   all_goals exact rI (wE (kf e1 e2)) ⟨k+1,by omega,rfl⟩
  .have d3:(l[k].times == 0)=false:=by simp [hz]
   repeat' first|refine gq ?_|simp only [ac,hlt,d1,d2,d3,e1]|decide|refine sp ?_ ?_<;>intro _
   all_goals exact rI (wE (kf e1 e2)) ⟨k+1,by omega,rfl⟩
 .obtain rfl:k=l.length:=by omega
  rw [I9];have d6:decide (fG l<=4)=true:=Jc h4
  repeat' first|refine gf (kf @hlt d6) ?_|decide|refine sp ?_ ?_<;>intro _
theorem vz (m:aF) (hl:m.stages.length<=1000000):ap Tryz.prog 38 [.agg (am m)] (cu 3 1 ((pars m).map fun n=>[eI n])):=by
 refine aa ae Tryz.func38 rfl (by decide) Tryz.ntmps38 Tryz.results38 rfl (cK _ _ _) ?_
 repeat' first|refine go ?_|decide|refine sp ?_ ?_<;>intro _
 refine af (fun st=>∃ k:Nat,k<=m.stages.length /\ st=⟨20,[(1,.op 0 0 0),(3,.osl 1),(7,.sl 2 (m.stages.map rh)),(8,eI (m.stages.length:Int)),(9,eI (k:Int))],[(0,some (.box 32 (am m))),(1,some (.row 3 1 ((m.stages.take k).map fun p=>[eI p.2])))],2⟩) (fun st=>m.stages.length - aw st 9) ⟨_,((aW 3 3 1 (by simp only [f9,ai.get,a7,ai.put,↓reduceIte,reduceCtorEq,Nat.reduceLT,Nat.reduceEqDiff,Nat.reduceAdd,Nat.reduceLeDiff,eq_self,implies_true,I5,Jo])).trans (wS [0,1] @I5)),0,IY _,rfl⟩ ?_;rintro _ ⟨k,hk,rfl⟩;by_cases hlt:k<m.stages.length
 .have et:(m.stages.take (k+1)).map (fun p=>[eI p.2])=(m.stages.take k).map (fun p=>[eI p.2]) ++ [[eI m.stages[k].2]]:=df _ _ hlt
  repeat' first|refine go ?_|simp only [ac,hlt]|decide|refine sp ?_ ?_<;>intro _
  refine ⟨rfl,by simp only [Jf];omega,rI (wS [0,4] et) ⟨k+1,by omega,rfl⟩⟩
 .obtain rfl:k=m.stages.length:=by omega
  repeat' first|refine go ?_|simp only [ac,hlt]|decide|refine sp ?_ ?_<;>intro _
  exact a5 (by simp [ag.gc,pars])
theorem zy (l:List (Bool × Int)) (hl:l.length<=1000000):ap Tryz.prog 41 [.sl 2 (l.map dS),.sl 2 (l.map dS)] (val (.bool true)):=by
 refine aa ae Tryz.func41 rfl (by decide) Tryz.ntmps41 Tryz.results41 rfl (aq _) ?_;have q:((l.length:Int) != (l.length:Int))=false:=by simp
 repeat' first|refine ge q ?_|decide|refine sp ?_ ?_<;>intro _
 refine af (fun st=>∃ k:Nat,k<=l.length /\ st=⟨26,[(0,.sl 2 (l.map dS)),(1,.sl 2 (l.map dS)),(12,eI (l.length:Int)),(13,eI (k:Int))],[],0⟩) (fun st=>l.length - aw st 13) ⟨_,wC,0,IY _,rfl⟩ ?_;rintro _ ⟨k,hk,rfl⟩;by_cases hlt:k<l.length
 .repeat' first|refine go ?_|simp only [ac,hlt]|decide|refine sp ?_ ?_<;>intro _
  refine ao (by kernel_rfl) ?_
  repeat' first|refine go ?_|simp only [ac,hlt]|decide|refine sp ?_ ?_<;>intro _
  refine ⟨_,pw .neq (.inr rfl) l[k] l[k],?_⟩;have e0:(!(l[k].1 == l[k].1 && l[k].2 == l[k].2))=false:=by simp
  repeat' first|refine ge e0 ?_|decide|refine sp ?_ ?_<;>intro _
  exact rI wC ⟨k+1,by omega,rfl⟩
 .repeat' first|refine go ?_|simp only [ac,hlt]|decide|refine sp ?_ ?_<;>intro _
def gg (l:List Int):Nat:=l.foldl (fun n a=>n ||| 2 ^ a.toNat) 0
theorem Bc:gg []=0:=rfl
theorem lu {l:List Int} {k:Nat} (h:k<l.length):gg (l.take (k+1))=gg (l.take k) ||| 2 ^ l[k].toNat:=by
 unfold gg;rw [Jb h,List.foldl_append];rfl
theorem vN {l:List Int}:∀ k,k<=l.length -> (∀ i (h:i<l.length),l[i].toNat<5) -> gg (l.take k)<2 ^ 5
 | 0,_,_=>by simp [gg]
 | k+1,hk,h=>by
  rw [lu (by omega)];exact KE (vN k (by omega) h) (J8 (by omega) (h k (by omega)))
theorem rO {l:List Int} (j:Nat):∀ k,k<=l.length -> (gg (l.take k)).testBit j=true -> ∃ i,∃ h:i<l.length,i<k /\ l[i].toNat=j
 | 0,_,h=>by simp [gg] at h
 | k+1,hk,h=>by
  rw [lu (by omega),Nat.testBit_or,Kg] at h;rcases h with h|h
  .obtain ⟨i,h1,h2,h3⟩:=rO j k (by omega) h;exact ⟨i,h1,by omega,h3⟩
  .rw [Nat.testBit_two_pow] at h;exact ⟨k,by omega,by omega,of_decide_eq_true h⟩
theorem Ij:∀ n:Fin 32,∀ a:Fin 5,bits .and .i64 (((n.val:Nat):Int).fdiv (2 ^ min (((a.val:Nat):Int).toNat) IntKind.i64.bits)) 1=(if n.val.testBit a.val then 1 else 0) /\ bits .or .i64 ((n.val:Nat):Int) (IntKind.i64.wrap (1 * 2 ^ min (((a.val:Nat):Int).toNat) IntKind.i64.bits))=(((n.val ||| 2 ^ a.val):Nat):Int):=by decide +kernel
theorem sX (m:aF) (e:Ev) (ha:m.attrs.length<=5) (hs:e.sets.length<=10) (h:qN m e):ap Tryz.prog 79 [.agg (am m),.agg (mt e)] (val (.bool true)):=by
 refine aa ae Tryz.func79 rfl (by decide) Tryz.ntmps79 Tryz.results79 rfl (aq _) ?_;obtain ⟨h1,h2,h3⟩:=h
 have h5:∀ i (hi:i<e.sets.length),e.sets[i].toNat<5 /\ 0<=e.sets[i]:=fun i hi=>by
  have:=(h3 i hi).1;simp only [b7,I2,Je] at this;omega
 repeat' first|refine go ?_|decide|refine sp ?_ ?_<;>intro _
 refine af (fun st=>∃ k:Nat,k<=e.sets.length /\ st=⟨47,[(2,.op 0 0 0),(3,.op 1 0 0),(5,eI (gg (e.sets.take k):Int)),(9,sI e.sets),(10,eI (e.sets.length:Int)),(11,eI (k:Int))],[(0,some (.box 32 (am m))),(1,some (.box 57 (mt e)))],2⟩) (fun st=>e.sets.length - aw st 11) ⟨_,(fq (by (first|((simp only [ik,il,cb,cd,aE.lt,AV.lt,AV.ltL,f9,ai.get,a7,ai.put,↓reduceIte,reduceCtorEq,Nat.reduceLT,Nat.reduceEqDiff,Nat.reduceAdd,Nat.reduceLeDiff,eq_self,implies_true,I5,Bc])<;>(repeat' apply And.intro)<;>first|(rw [ic (by omega)];done)|(simp;done)|omega)|fail))),0,IY _,rfl⟩ ?_;rintro _ ⟨k,hk,rfl⟩;by_cases hlt:k<e.sets.length
 .have hmk:=vN k hk fun i hi=>(h5 i hi).1
  have hnb:(gg (e.sets.take k)).testBit e.sets[k].toNat=false:=by
   rw [JK];intro hb;obtain ⟨i,hi,hik,he⟩:=rO _ k hk hb;have g1:=(h5 i hi).2;have g2:=(h5 k hlt).2;exact (h3 k hlt).2 i hik (by omega)
  have hsn:=lu hlt;obtain ⟨a,ha5,hae⟩:∃ a:Nat,a<5 /\ e.sets[k]=(a:Int):=⟨e.sets[k].toNat,(h5 k hlt).1,by have:=(h5 k hlt).2;omega⟩;have hin:=lV (a:Int) m.attrs.length;rw [show b7 (a:Int) m.attrs.length=true by rw [<- hae];exact (h3 k hlt).1] at hin;rw [hae] at hnb hsn;rw [J4] at hnb hsn;have hb:=Ij ⟨gg (e.sets.take k),hmk⟩ ⟨a,ha5⟩;rw [I4 (by rw [hnb];simp),<- hsn] at hb;obtain ⟨b1,b2⟩:=hb;rw [J4] at b1 b2;have q0:((a:Int)<0)=False:=by simp
  have q1:((0:Int) == 1)=false:=rfl;obtain ⟨n2,hn2⟩:∃ n2,n2=gg (e.sets.take (k+1)):=⟨_,rfl⟩;rw [<- hn2] at b2;clear hsn;generalize gg (e.sets.take k)=n at *
  repeat' first|refine gq ?_|simp only [ac,hlt,hae,q0,b1,b2,q1]|decide|refine sp ?_ ?_<;>intro _|refine cA hin ?_|fail
  all_goals exact rI (wE hn2) ⟨k+1,by omega,rfl⟩
 .obtain rfl:k=e.sets.length:=by omega
  have hi1:=lV e.role m.roles.length;have hi2:=lV e.stage m.stages.length;rw [h1] at hi1;rw [h2] at hi2
  repeat' first|refine gf @hlt ?_|decide|refine sp ?_ ?_<;>intro _|refine cA hi1 ?_|refine cA hi2 ?_|fail
end
section
theorem zV {w:World} {S:Nat -> Prop} {v:Value} {l:List Int} (h:RT w S v (.sl 9 (l.map eX))) (hl:∀ x ∈ l,aA x):∃ L:List dP,L.map dP.op=l /\ (aL rJ).one w S v L:=by
 refine ⟨l.map fun o=>⟨o,⟨#[]⟩,0,⟨#[]⟩,0,⟨#[]⟩,⟨#[]⟩,0,0⟩,by simp [Function.comp_def],?_⟩;obtain ⟨A,cap,rfl,hc,hm,_,hA⟩:=h.sl_inv;refine ⟨A,cap,by simp,by simpa using hc,hm,fun h0=>?_⟩;obtain ⟨b,o,rfl,hb,U,hcell,hr,_⟩:=hA (by simpa using h0);refine ⟨b,o,rfl,hb,fun i hi=>⟨(l.map fun o=>(⟨o,⟨#[]⟩,0,⟨#[]⟩,0,⟨#[]⟩,⟨#[]⟩,0,0⟩:dP))[i].cells,fun j u hu=>?_,rfl,?_⟩⟩
 .have hi':i<l.length:=by simpa using hi
  have h1:(l.map eX)[i]? = some (eX l[i]):=by simp [hi']
  have h3:∀ (j:Nat) (u:Value),(⟨l[i],⟨#[]⟩,0,⟨#[]⟩,0,⟨#[]⟩,⟨#[]⟩,0,0⟩:dP).cells[j]? = some u -> (eX l[i])[j]? = some (AV.c u):=by
   intro j u hu;unfold dP.cells at hu
   match j with
   | 0 | 1 | 2 | 3 | 4 | 5 | 6 | 7 | 8=>simp at hu;subst hu;rfl
   | j+9=>simp at hu
  have h4:=h3 j u (by simpa using hu);have h2:=hcell i j _ _ h1 h4;rw [xz (hr i j _ _ h1 h4)] at h2;exact h2
 .have hi':i<l.length:=by simpa using hi
  have:=hl _ (IZ hi');have z:aA 0:=by simp [aA]
  have e:(ByteArray.size ⟨#[]⟩)<=9223372036854775807:=by decide
  rw [List.getElem_map];exact ⟨this,z,z,z,z,e,e,e,e⟩
theorem sj (l:List Int) (hl:∀ x ∈ l,aA x):ap Tryz.prog 128 [lO l] (val (.int .i64 (bi l))):=
 bo (bC Tryz.func128 rfl (by decide)) fun S w vs hS hn hv=>by
  obtain ⟨a,rfl⟩:=Ii (by simpa using hn);obtain ⟨L,h1,h2⟩:=zV (hv 0 a _ rfl rfl) hl;have:=yI L a S w h2 hS.sub;rw [h1] at this;exact this
theorem qr {l:List Int}:∀ row ∈ l.map eX,∀ av ∈ row,AV.plain av:=fun row hr av ha=>by
 obtain ⟨x,_,rfl⟩:=I7.1 hr;simp only [JO,List.not_mem_nil,or_false] at ha;rcases ha with rfl|rfl|rfl|rfl|rfl|rfl|rfl|rfl|rfl<;>trivial
theorem Aa (l:List az) (hl:l.length<=100000):ap Tryz.prog 129 [aV l] (cu 125 9 ((l.map az.op).map eX)):=by
 refine aa ae Tryz.func129 rfl (by decide) Tryz.ntmps129 Tryz.results129 rfl (cK _ _ _) ?_
 repeat' first|refine go ?_|decide|refine sp ?_ ?_<;>intro _
 refine af (fun st=>∃ k:Nat,k<=l.length /\ st=⟨20,[(3,.osl 0),(6,aV l),(7,eI (l.length:Int)),(8,eI (k:Int))],[(0,some (.row 125 9 (((l.map az.op).take k).map eX)))],1⟩) (fun st=>l.length - aw st 8) ⟨_,((aW 3 125 9 (by simp only [f9,ai.get,a7,ai.put,↓reduceIte,reduceCtorEq,Nat.reduceLT,Nat.reduceEqDiff,Nat.reduceAdd,Nat.reduceLeDiff,eq_self,implies_true,I5,Jo])).trans (wS [0] @I5)),0,IY _,rfl⟩ ?_;rintro _ ⟨k,hk,rfl⟩;have hkl:((l.map az.op).take k).length=k:=by simp;omega
 by_cases hlt:k<l.length
 .have et:((l.map az.op).take (k+1)).map eX=((l.map az.op).take k).map eX ++ [eX l[k].op]:=by
   rw [df eX (l.map az.op) (by simpa using hlt)];simp
  repeat' first|refine go ?_|simp only [ac,hlt]|decide|refine sp ?_ ?_<;>intro _
  refine ⟨rfl,by omega,rI (wS [3] et) ⟨k+1,by omega,rfl⟩⟩
 .obtain rfl:k=l.length:=by omega
  have ef:(l.map az.op).take l.length=l.map az.op:=Jp (by simp)
  repeat' first|refine ge @hlt ?_|decide|refine sp ?_ ?_<;>intro _
  rw [ef];exact a5 (by simp [ag.gc])
theorem l9 (op:Int):ap Tryz.prog 132 [eI op] (val (.bool (decide (3<=op) && decide (op<=8)))):=by
 refine aa ae Tryz.func132 rfl (by decide) Tryz.ntmps132 Tryz.results132 rfl (aq _) ?_;by_cases g:3<=op
 .have d1:decide (3<=op)=true:=Jc g
  repeat' first|refine gf (kf d1 @JU) ?_|decide|refine sp ?_ ?_<;>intro _
 .have d1:decide (3<=op)=false:=I3 g
  repeat' first|refine gf (kf d1 @Ke) ?_|decide|refine sp ?_ ?_<;>intro _
theorem wc (m:aF) (a n:Int):ap Tryz.prog 145 [.agg [eI a,eI n],.rp (am m)] (val (.bool (decide (-1<=a) && decide (a<(m.attrs.length:Int))))):=by
 refine aa ae Tryz.func145 rfl (by decide) Tryz.ntmps145 Tryz.results145 rfl (aq _) ?_;by_cases g:-1<=a
 .have d1:decide (-1<=a)=true:=Jc g
  repeat' first|refine gf (kf d1 @JU) ?_|decide|refine sp ?_ ?_<;>intro _
 .have d1:decide (-1<=a)=false:=I3 g
  repeat' first|refine gf (kf d1 @Ke) ?_|decide|refine sp ?_ ?_<;>intro _
theorem kp (n q:Int):ap Tryz.prog 146 [eI n,eI q] (val (.bool (b7 n q))):=by
 refine aa ae Tryz.func146 rfl (by decide) Tryz.ntmps146 Tryz.results146 rfl (aq _) ?_;unfold b7;by_cases g:0<=n
 .have d1:decide (0<=n)=true:=Jc g
  repeat' first|refine gf (kf d1 @JU) ?_|decide|refine sp ?_ ?_<;>intro _
 .have d1:decide (0<=n)=false:=I3 g
  repeat' first|refine gf (kf d1 @Ke) ?_|decide|refine sp ?_ ?_<;>intro _
theorem GB (m:aF) (x:az) (h:hU m x=true):ap Tryz.prog 130 [.agg (am m),.agg (cV x)] (val (.bool true)):=by
 refine aa ae Tryz.func130 rfl (by decide) Tryz.ntmps130 Tryz.results130 rfl (aq _) ?_;obtain ⟨op,la,ln,ra,rn,n,u⟩:=x;have hC:=l9 op;unfold hU at h;by_cases g:3<=op /\ op<=8
 .have e1:(decide (3<=op) && decide (op<=8))=true:=by simp;omega
  rw [e1] at hC;rw [I8 e1] at h;simp only [I2] at h;have h1:=wc m la ln;have h2:=wc m ra rn;rw [h.1.1.1,h.1.1.2] at h1;rw [h.1.2,h.2] at h2;simp only [Bool.and_self] at h1 h2
  repeat' first|refine gq ?_|decide|refine sp ?_ ?_<;>intro _|refine cA hC ?_|refine cA h1 ?_|refine cA h2 ?_|fail
 .have e1:(decide (3<=op) && decide (op<=8))=false:=by
   rw [Jt];by_cases g2:3<=op
   .right;simp;omega
   .left;simp;omega
  rw [e1] at hC h;simp only [Jv,if_false] at h;by_cases h9:op=9
  .subst h9;simp only [Int.reduceLT,decide_false,Bool.or_self,Jv,if_false,if_true,I2] at h;have h1:=kp n m.stages.length;have e2:b7 n m.stages.length=true:=by simp only [b7,I2];exact h.1
   rw [e2] at h1;have q9:((9:Int) == 9)=true:=rfl
   repeat' first|refine gf q9 ?_|decide|refine sp ?_ ?_<;>intro _|refine cA hC ?_|refine cA h1 ?_|fail
  have q9:(op == 9)=false:=by simp [h9]
  by_cases h10:op=10
  .subst h10;simp only [Int.reduceLT,Int.reduceEq,decide_false,Bool.or_self,Jv,if_false,if_true,I2] at h;have h1:=kp n m.miles.length;have e2:b7 n m.miles.length=true:=by simp only [b7,I2];exact h.1
   rw [e2] at h1;have q10:((10:Int) == 10)=true:=rfl
   repeat' first|refine gf (kf q9 q10) ?_|decide|refine sp ?_ ?_<;>intro _|refine cA hC ?_|refine cA h1 ?_|fail
  have q10:(op == 10)=false:=by simp [h10]
  by_cases h11:op=11
  .subst h11;simp only [Int.reduceLT,Int.reduceEq,decide_false,Bool.or_self,Jv,if_false,if_true,I2] at h;have h1:=kp n m.events.length;have e2:b7 n m.events.length=true:=by simp only [b7,I2];exact h.1
   rw [e2] at h1;have q11:((11:Int) == 11)=true:=rfl
   repeat' first|refine gf (kf q9 (kf q10 q11)) ?_|decide|refine sp ?_ ?_<;>intro _|refine cA hC ?_|refine cA h1 ?_|fail
  have q11:(op == 11)=false:=by simp [h11]
  by_cases h12:op=12
  .subst h12;simp only [Int.reduceLT,Int.reduceEq,decide_false,Bool.or_self,Jv,if_false,if_true,I2,bne_self_eq_false,KT] at h;have h1:=kp n m.events.length;have e2:b7 n m.events.length=true:=by simp only [b7,I2];exact h.1
   rw [e2] at h1;have h2:=kp u m.users.length;have e3:b7 u m.users.length=true:=by simp only [b7,I2];exact h.2
   rw [e3] at h2;have q12:((12:Int) == 12)=true:=rfl
   repeat' first|refine gf (kf q9 (kf q10 (kf q11 q12))) ?_|decide|refine sp ?_ ?_<;>intro _|refine cA hC ?_|refine cA h1 ?_|refine cA h2 ?_|fail
  have q12:(op == 12)=false:=by simp [h12]
  repeat' first|refine gf (kf q9 (kf q10 (kf q11 q12))) ?_|decide|refine sp ?_ ?_<;>intro _|refine cA hC ?_|fail
theorem qe (m:aF) (l:List az) (hl:l.length<=100000) (hx:∀ x ∈ l,x.ok) (h:Ec m l):ap Tryz.prog 106 [.agg (am m),aV l,eB false] (val (.bool true)):=by
 refine aa ae Tryz.func106 rfl (by decide) Tryz.ntmps106 Tryz.results106 rfl (aq _) ?_;have hT:=sj (l.map az.op) (fun o ho=>by obtain ⟨x,hx',rfl⟩:=I7.1 ho;exact (hx x hx').1);rw [h.1] at hT;have z0:((0:Int) != 0)=false:=rfl
 repeat' first|refine go ?_|decide|refine sp ?_ ?_<;>intro _
 refine cQ (Aa l hl) (.inr qr) ?_
 repeat' first|refine go ?_|decide|refine sp ?_ ?_<;>intro _
 refine ak hT ?_
 repeat' first|refine ge z0 ?_|decide|refine sp ?_ ?_<;>intro _
 refine af (fun st=>∃ (k:Nat),k<=l.length /\ st=⟨45,[(3,.op 0 0 0),(2,eB false),(14,aV l),(15,eI (l.length:Int)),(16,eI (k:Int))],[(0,some (.box 32 (am m)))],1⟩) (fun st=>l.length - aw st 16) ⟨_,(wR [0]),0,IY _,rfl⟩ ?_;rintro _ ⟨k,hk,rfl⟩;by_cases hlt:k<l.length
 .obtain ⟨g1,g2⟩:=h.2 k hlt;have hH:=GB m l[k] g1;by_cases g11:11<=l[k].op
  .have d1:decide (11<=l[k].op)=true:=Jc g11;have d2:decide (l[k].op<=14)=false:=I3 (by omega);have d3:decide (19<=l[k].op)=false:=I3 (by omega)
   repeat' first|refine gq ?_|simp only [ac,hlt,d1,d2,d3]|decide|refine sp ?_ ?_<;>intro _|refine cA hH ?_|fail
   all_goals exact rI (wR [0]) ⟨k+1,by omega,rfl⟩
  .have d1:decide (11<=l[k].op)=false:=I3 g11;have d3:decide (19<=l[k].op)=false:=I3 (by omega)
   repeat' first|refine gq ?_|simp only [ac,hlt,d1,d3]|decide|refine sp ?_ ?_<;>intro _|refine cA hH ?_|fail
   all_goals exact rI (wR [0]) ⟨k+1,by omega,rfl⟩
 .repeat' first|refine gf @hlt ?_|decide|refine sp ?_ ?_<;>intro _
theorem pb (m:aF) (st ev:Int) (l:List az) (hl:l.length<=100000) (hx:∀ x ∈ l,x.ok) (h:mO m st ev l):ap Tryz.prog 80 [.agg (am m),eI st,eI ev,aV l] (val (.bool true)):=by
 refine aa ae Tryz.func80 rfl (by decide) Tryz.ntmps80 Tryz.results80 rfl (aq _) ?_;obtain ⟨h1,h2,h3⟩:=h;have hB:=qe m l hl hx h3;have hS:=lV st m.stages.length;rw [h1] at hS;rcases h2 with rfl|h2
 .have q:((-1:Int) == -1)=true:=rfl
  repeat' first|refine gf q ?_|decide|refine sp ?_ ?_<;>intro _|refine cA hS ?_|refine cA hB ?_|fail
 .have hE:=lV ev m.events.length;rw [h2] at hE
  have q:(ev == -1)=false:=by
   simp only [b7,I2,Je] at h2;simp;omega
  repeat' first|refine gf q ?_|decide|refine sp ?_ ?_<;>intro _|refine cA hS ?_|refine cA hE ?_|refine cA hB ?_|fail
end
section
theorem sL (st:ai) (id:Nat):dw st (fo st id):=fun cx a w L h=>⟨L,(lg h id).1,fun b hb=>⟨hb.1,hb.2.1,fun k o hk=>by
 unfold fo at hk;split at hk
 .simp only [ag.gc,bU] at hk;split at hk
  .cases hk
  .cases hg:st.tab.get k with
   | none=>simp [hg] at hk
   | some o'=>exact hb.2.2 k o' hg
 .exact hb.2.2 k o hk⟩⟩
end
section
section
variable {P:Program} {cx:Cx} {a:Act} {w w' w'':World} {st st':ai} {tab tab' tab'':ag} {L L' L'':Nat -> Value} {nx nx':Nat}
end
theorem HS {P:Program} {st:ai} {g:FuncId} {K:AV -> ai -> Prop} {id e sz:Nat} {rows rows':List (List AV)} {rest:List AV} (h:GF P g e sz rows rest rows') (hid:st.tab.get id=some (.row e sz rows)) (ht:eY rest) (hk:K (.tup []) { st with tab:=(id,some (.row e sz rows')) :: st.tab }):dr none P st g (.osl id :: rest) K:=
 .inr (.inl ⟨rfl,.inl (.inr (.inl ⟨id,e,sz,rows,rows',rest,rfl,hid,ht,h,hk⟩))⟩)
end
section
section
variable {P:Program} {rs:List ResultVar} {vs:Array Value} {n nx g k i:Nat} {K:AV -> ai -> Prop} {st:ai} {o:aE} {T:ag}
theorem dD:ag.shift k []=[]:=rfl
theorem eJ:ag.shift k ((i,some o) :: T)=(i+k,some (o.shift k)) :: ag.shift k T:=rfl
end
section
variable {P:Program} {cx:Cx} {a:Act} {w:World} {st:ai} {L:Nat -> Value}
end
theorem sw (l:List Nat):∀ {cs:List AV},aI cs -> AV.renL l cs=cs
 | [],_=>rfl
 | a :: cs,h=>by
  have h1:aQ a:=h.1;have h2:=sw l (cs:=cs) h.2;show a.ren l :: AV.renL l cs=a :: cs;rw [h2];cases a<;>first|rfl|exact (h1:False).elim
end
section
theorem nY {vs:Array Value} {a:AV} (hn:vs.size=[a].length):∃ x,vs = #[x]:=⟨vs[0]'(by simp at hn;omega),by
 apply KS (by simpa using hn);intro i h1 h2;simp at h2;subst h2;rfl⟩
theorem yc:ap Tryz.prog 109 [.c (.slice none 0 0)] (val (.slice none 0 0)):=
 bo (bC Tryz.func109 rfl (by decide)) fun S w vs hS hn hv=>by
  obtain ⟨a,rfl⟩:=nY hn;have h:=hv 0 a _ rfl rfl;cases h;exact (Tryz.slices_Clone_nil 0 0 w).mono (by rintro e w' ⟨rfl,rfl⟩;exact ⟨rfl,Below.refl _ _⟩)
theorem A6:ap Tryz.prog 110 [.c (.slice none 0 0)] (val (.tuple #[])):=
 bo (bC Tryz.func110 rfl (by decide)) fun S w vs hS hn hv=>by
  obtain ⟨a,rfl⟩:=nY hn;have h:=hv 0 a _ rfl rfl;cases h;exact xx none 0 w
theorem sb:ap Tryz.prog 111 [.c (.slice none 0 0)] (val (.slice none 0 0)):=
 bo (bC Tryz.func111 rfl (by decide)) fun S w vs hS hn hv=>by
  obtain ⟨a,rfl⟩:=nY hn;have h:=hv 0 a _ rfl rfl;cases h;exact (Tryz.slices_Compact_int_empty none 0 w).mono (by rintro e w' ⟨rfl,rfl⟩;exact ⟨rfl,Below.refl _ _⟩)
theorem lE:ap Tryz.prog 84 [.c (.slice none 0 0)] (val (.slice none 0 0)):=by
 refine aa ae Tryz.func84 rfl (by decide) Tryz.ntmps84 Tryz.results84 rfl (aq _) ?_
 repeat' first|refine gq ?_|decide|refine sp ?_ ?_<;>intro _|((with_reducible first|apply ak (g:=109)|apply aD (g:=109));exact yc)|((with_reducible first|apply ak (g:=110)|apply aD (g:=110));exact A6)|((with_reducible first|apply ak (g:=111)|apply aD (g:=111));exact sb)
end
section
def IO0:St:=⟨[],0,0,[],[]⟩
abbrev v0:List AV:=[eI (-1),eI (-1),.c (.slice none 0 0)]
end
end
section
section
open Go.RowKit Go.Sort
theorem qJ {w:World} {base g cap n m:Nat} {e:TypeId} {xs:List Value} (h:w.ownsRow base e 1 (.slice (some ⟨g,0,none⟩) n cap) n xs) (hm:m<=n):w.ownsRow base e 1 (.slice (some ⟨g,0,none⟩) m cap) m (xs.take m):=by
 obtain ⟨hl,⟨he,_⟩|⟨g',cap',cur,hv,hb,hg,h1,h2,h3,h4⟩⟩:=h
 .cases he
 .cases hv;refine ⟨by simp;omega,.inr ⟨g,cap,cur,rfl,hb,hg,by omega,h2,h3,?_⟩⟩;rw [<- h4,List.take_take]
  congr 1
  omega
theorem na (l:List Int) (v:Value) (w:World) (hl:l.length<=1000000) (hp:0<l.length) (h:LI w v l) :
  Calls Tryz.prog 84 #[v] w fun e w'=>∃ v',e=.returned v' /\ w'.ownsRow w.heap.size 2 1 v' (tE l).length ((tE l).map (Value.int .i64)) /\ Below w.heap.size w w':=by
 obtain ⟨i0,hi0,hz0,hz1,hz2⟩:=info_parts Dz;obtain ⟨b,o,c,rfl,hc,hb,hcell⟩:=h.some_ hp
 have h1:=Tryz.slices_Clone i0 (.int .i64 0) 1 8 hi0 hz0 hz1 hz2 rfl (by decide) Tryz.sizeOf2 b o l.length c (l.map (Value.int .i64)) w (by simp) (by unfold maxLen;omega) (by omega)
  (fun j u hj=>by
   rw [IW] at hj;rcases Jk j l.length with hlt|hge
   .rw [IU hlt] at hj;obtain rfl:Value.int .i64 l[j]=u:=by simpa using hj
    exact hcell j hlt
   .rw [Jq hge] at hj;simp at hj)
  (fun u hu=>by obtain ⟨x,_,rfl⟩:=I7.1 hu;rfl)
 have H1:=aO h1;clear h1;unfold tE;have hSl:(l.mergeSort fun x y=>decide (x<=y)).length=l.length:=Ky ..;generalize hSd:(l.mergeSort fun x y=>decide (x<=y))=S at *;have HSd:=aO hSd;have HSl:=aO hSl;clear hSd hSl
 go_enter Tryz.func84,Tryz.ntmps84
 go_wp2_with fail
 refine H1.out.mono ?_;rintro e w1 ⟨v',rfl,hown,hnn,hb1⟩;obtain ⟨_,⟨_,hn0⟩|⟨g,cap,cur,rfl,hbase,hblk,hn,hcap,hcs,htake⟩⟩:=hown
 .omega
 rw [Nat.mul_one] at htake;have hg:g<w1.heap.size:=(Jj.1 hblk).1;have hH:=holds_of_blockI hblk htake;have h2:=Tryz.slices_Sort_int g 0 cap l w1 hH hg (by omega);rw [HSd.out] at h2;have H2:=aO h2;clear h2 H1 hH
 go_wp2_with fail
 refine H2.out.mono ?_;rintro e w2 ⟨rfl,n,os,rfl⟩;have hSl:=HSl.out;have hown2:=ownsRow_sortedI (n:=n) (os:=os) (ts:=S) hSl hbase hblk hn hcap hcs;have hgr2:=grownBy_sortedI (w:=w1) (g:=g) (n:=n) (os:=os) S.toArray;generalize Go.Sort.grow (putRow (Value.int .i64) (Sort.ahead w1 n) g 0 S.toArray) os=w2 at *;have hb2:Below w.heap.size w w2:=hb1.grown hgr2 hb1.size (fun j hj=>by cases hj;exact hbase);obtain ⟨_,⟨hx,_⟩|⟨g',cap',cur2,hv,_,hblk2,_,_,hcs2,htake2⟩⟩:=hown2
 .cases hx
 cases hv;rw [Nat.mul_one,<- hSl] at htake2;have hg2:g<w2.heap.size:=(Jj.1 hblk2).1;have hH2:=holds_of_blockI hblk2 htake2;have h3:=Tryz.slices_Compact_int g 0 cap S w2 hH2 (by omega) (by omega);rw [hSl] at h3;have H3:=aO h3;have hcl:=sC S;clear h3 H2 hH2
 go_wp2_with fail
 refine H3.out.mono ?_;rintro e w3 ⟨rfl,q,hw3⟩;have hown3:=ownsRow_sortedI (n:=q) (os:=#[]) (ss:=S) (ts:=Lib.compact S ++ List.replicate (S.length - (Lib.compact S).length) 0) (by simp;omega) hbase hblk2 (by omega) hcap hcs2;have hgr3:=grownBy_sortedI (w:=w2) (g:=g) (n:=q) (os:=#[]) (Lib.compact S ++ List.replicate (S.length - (Lib.compact S).length) 0).toArray;rw [grow_empty] at hown3 hgr3;rw [hSl] at hown3 hgr3;rw [<- hw3] at hown3 hgr3;have hb3:Below w.heap.size w w3:=hb2.grown hgr3 hb2.size (fun j hj=>by cases hj;exact hbase)
 have hLI:w3.ownsRow w.heap.size 2 1 (.slice (some ⟨g,0,none⟩) (Lib.compact S).length cap) (Lib.compact S).length ((Lib.compact S).map (Value.int .i64)):=by
  have h7:=qJ hown3 (m:=(Lib.compact S).length) (by omega);rw [Jl,JZ (by simp),Jp (by simp)] at h7;exact h7
 clear hw3 H3 hown3 hgr3 hblk hblk2 htake htake2
 go_wp2_with fail
 go_ret
 exact ⟨_,rfl,hLI,hb3⟩
theorem qc {f:FuncId} {args:List AV} {t:TypeId} {l:List Int} (he:dR Tryz.prog f)
  (h:∀ (S:Nat -> Prop) (w:World) (vs:Array Value),yQ w S -> vs.size=args.length -> (∀ (j:Nat) (v:Value) (av:AV),vs[j]? = some v -> args[j]? = some av -> RT w S v av) -> Calls Tryz.prog f vs w fun e w'=>∃ v',e=.returned v' /\ w'.ownsRow w.heap.size t 1 v' l.length (l.map (Value.int .i64)) /\ Below w.heap.size w w'):ap Tryz.prog f args (cu t 1 (l.map fun n=>[eI n])):=
 ⟨he,fun S w vs h1 h2 h3=>(h S w vs h1 h2 h3).mono fun e w' ⟨v,h4,h5,h6⟩=>by
  have hget:∀ id o,(cu t 1 (l.map fun n=>[eI n])).tab.get id=some o -> id=0 /\ o=.row t 1 (l.map fun n=>[eI n]):=fun id o ho=>by
   simp only [cu,ag.gc] at ho;split at ho
   .cases ho;exact ⟨by assumption,rfl⟩
   .cases ho
  refine ⟨v,fun _=>v,_,rfl,cK ..,h4,⟨jR h6,fun id o ho=>?_,fun id id' o o' g h7 h8 _ _=>?_,fun b hb=>hb.elim⟩,.osl _ _ fun sz u hk=>?_⟩
  .obtain ⟨_,rfl⟩:=hget id o ho;refine ⟨fun row hr=>?_,_,by rw [Jd];exact om h5,fun x hx=>?_,fun i j row av ha hb=>?_⟩
   .obtain ⟨n,_,rfl⟩:=I7.1 hr;rfl
   .obtain ⟨n,_,rfl⟩:=I7.1 hx;rfl
   .rw [IW] at ha
    cases hi:l[i]? with
    | none=>simp [hi] at ha
    | some n=>
     simp [hi] at ha;subst ha
     cases j with
     | zero=>
      simp at hb;subst hb;exact ⟨.int .i64 n,by simp [hi],.c _⟩
     | succ j=>simp at hb
  .rw [(hget id o h7).1,(hget id' o' h8).1]
  .unfold Kx at hk
   cases ho:(cu t 1 (l.map fun n=>[eI n])).tab.get 0 with
   | none=>simp [ho] at hk
   | some o=>simp [ho] at hk;exact hk.2⟩
theorem gK (l:List Int) (hl:l.length<=1000000) (hne:l ≠ []):ap Tryz.prog 84 [sI l] (cu 2 1 ((bT l).map fun n=>[eI n])):=
 qc (bC Tryz.func84 rfl (by decide)) fun S w vs hS hn hv=>by
  obtain ⟨a,rfl⟩:=CQ hn;refine (na l a w hl (List.length_pos_iff.2 hne) (LI.of_rt (hv 0 a _ rfl rfl) hS)).mono fun e w' ⟨v',h1,h2,h3⟩=>?_;rw [BH] at h2;exact ⟨v',h1,h2,h3⟩
def DC (l:List Int):bS:=if l=[] then val (.slice none 0 0) else cu 2 1 (l.map fun n=>[eI n])
theorem zX (l:List Int):(DC l).Ok:=by
 unfold DC;split
 .exact aq _
 .exact cK _ _ _
theorem nS {l:List Int} (h:l ≠ []):bT l ≠ []:=fun h2=>by
 cases l with
 | nil=>exact h rfl
 | cons x l=>
  have:=((nP (x :: l)).2 x).2 (J2 ..);rw [h2] at this;cases this
theorem jG {P:Program} {u:Option (Nat × List Nat)} {st:ai} {g:FuncId} {args:List AV} {K:AV -> ai -> Prop} {l:List Int} (h:ap P g (args.map (dk st.tab)) (DC l))
  (h1:l=[] -> K (.c (.slice none 0 0)) st) (h2:l ≠ [] -> K (.osl st.next) ⟨st.n,st.env,(st.next,some (.row 2 1 (l.map fun n=>[eI n]))) :: st.tab,st.next+1⟩):dr u P st g args K:=by
 unfold DC at h;by_cases hl:l=[]
 .rw [I8 hl] at h;exact dJ h (.inr trivial) (h1 hl)
 .rw [I4 hl] at h;exact cQ h (.inr bq) (h2 hl)
theorem uf {l:List Int} (h:l ≠ []):DC l=cu 2 1 (l.map fun n=>[eI n]):=I4 h
theorem vx {l:List Int} {st:ai} (h:l=[]):cI (DC l) st (.c (.slice none 0 0)):=by
 rw [show DC l=val (.slice none 0 0) from I8 h];exact aB rfl
def cT (l:List az):List (Int × Int):=l.flatMap fun x=>if jn x=true then [(x.la,x.ln),(x.ra,x.rn)] else []
def dF (l:List (Int × Int)):List Int:=(l.filter fun p=>p.1 == -1).map (·.2)
theorem pM (a b:List (Int × Int)):dF (a ++ b)=dF a ++ dF b:=by simp [dF]
theorem n7:∀ l:List az,dF (cT l)=bA l
 | []=>rfl
 | x :: l=>by
  have ih:=n7 l;unfold cT bA at *;rw [JY,JY,pM,ih]
  congr 1
  unfold gM
  cases hc:jn x with
  | false=>rfl
  | true=>
   rw [I8 rfl,I8 rfl];by_cases h1:x.la = -1<;>by_cases h2:x.ra = -1<;>simp [dF,h1,h2]
theorem ru (l:List az) {k:Nat} (h:k<l.length):cT (l.take (k+1))=cT (l.take k) ++ (if jn l[k]=true then [(l[k].la,l[k].ln),(l[k].ra,l[k].rn)] else []):=by
 unfold cT;rw [Jb h,List.flatMap_append];simp
theorem jW (l:List az):(cT l).length<=2 * l.length:=by
 induction l with
 | nil=>simp [cT]
 | cons x l ih=>
  unfold cT at *;rw [JY,I0,Jh];have h2:(if jn x=true then [(x.la,x.ln),(x.ra,x.rn)] else []).length<=2:=by split<;>simp
  omega
theorem wA (l:List az) (hl:l.length<=4000):ap Tryz.prog 108 [aV l] ⟨.sl 2 ((cT l).map rj),[],0⟩:=by
 refine ap.still (R:=cu 116 2 ((cT l).map rj)) [0] ?_ (by simp [cu,bS.frzs,bS.frz,ag.gc,AV.frz,AV.frzL,bP,aE.frz]) (by simp [AV.lt,AV.ltL]);refine aa ae Tryz.func108 rfl (by decide) Tryz.ntmps108 Tryz.results108 rfl (cK _ _ _) ?_
 repeat' first|refine go ?_|decide|refine sp ?_ ?_<;>intro _
 refine af (fun st=>∃ k:Nat,k<=l.length /\ st=⟨24,[(3,.osl 0),(6,aV l),(7,eI (l.length:Int)),(8,eI (k:Int))],[(0,some (.row 116 2 ((cT (l.take k)).map rj)))],1⟩) (fun st=>l.length - aw st 8) ⟨_,((aW 3 116 2 (by simp only [f9,ai.get,a7,ai.put,↓reduceIte,reduceCtorEq,Nat.reduceLT,Nat.reduceEqDiff,Nat.reduceAdd,Nat.reduceLeDiff,eq_self,implies_true,I5,show cT []=[] from rfl,Jo])).trans (wS [0] (kf @I5 (show cT []=[] from rfl)))),0,IY _,rfl⟩ ?_;rintro _ ⟨k,hk,rfl⟩;have hvl:=jW (l.take k);have htl:(l.take k).length=k:=by simp;omega
 by_cases hlt:k<l.length
 .have hC:=l9 l[k].op;have hsn:=ru l hlt
  cases hc:jn l[k] with
  | true=>
   have hc2:(decide (3<=l[k].op) && decide (l[k].op<=8))=true:=hc;rw [hc2] at hC;rw [hc,I8 rfl] at hsn;have et:(cT (l.take (k+1))).map rj=(cT (l.take k)).map rj ++ [[eI l[k].la,eI l[k].ln],[eI l[k].ra,eI l[k].rn]]:=by rw [hsn,Jl];rfl
   repeat' first|refine go ?_|simp only [ac,hlt]|decide|refine sp ?_ ?_<;>intro _
   refine ak hC ?_
   repeat' first|refine go ?_|simp only [ac,hlt]|decide|refine sp ?_ ?_<;>intro _
   exact ⟨rfl,by omega,rI (wS [3] et) ⟨k+1,by omega,rfl⟩⟩
  | false=>
   have hc2:(decide (3<=l[k].op) && decide (l[k].op<=8))=false:=hc;rw [hc2] at hC;rw [hc,I4 (by simp),JS] at hsn
   repeat' first|refine go ?_|simp only [ac,hlt]|decide|refine sp ?_ ?_<;>intro _
   refine ak hC ?_
   repeat' first|refine go ?_|simp only [ac,hlt]|decide|refine sp ?_ ?_<;>intro _
   exact rI (wS [0] @hsn) ⟨k+1,by omega,rfl⟩
 .obtain rfl:k=l.length:=by omega
  repeat' first|refine ge @hlt ?_|decide|refine sp ?_ ?_<;>intro _
  exact a5 (by simp [ag.gc])
theorem g8 (l:List az) (hl:l.length<=400):ap Tryz.prog 83 [aV l] (DC (bH l)):=by
 refine aa ae Tryz.func83 rfl (by decide) Tryz.ntmps83 Tryz.results83 rfl (zX _) ?_;have hvl:=jW l
 repeat' first|refine go ?_|decide|refine sp ?_ ?_<;>intro _
 refine dJ (wA l (by omega)) (ro) ?_;obtain ⟨V,hV⟩:∃ V,V=cT l:=⟨_,rfl⟩;have hcn:bH l=bT (dF V):=by rw [hV,n7];rfl
 rw [<- hV] at hvl ⊢;rw [hcn];clear hcn hV
 repeat' first|refine go ?_|decide|refine sp ?_ ?_<;>intro _
 have hnl:∀ k,(dF (V.take k)).length<=V.length:=fun k=>by
  unfold dF;rw [Jd];refine Jn (Kw _ _) ?_;rw [Jf];omega
 refine af (fun st=>∃ k:Nat,k<=V.length /\ ((dF (V.take k)=[] /\ st=⟨24,[(3,.c (.slice none 0 0)),(7,.sl 2 (V.map rj)),(8,eI (V.length:Int)),(9,eI (k:Int))],[],0⟩) \/ (dF (V.take k) ≠ [] /\ st=⟨24,[(3,.osl 0),(7,.sl 2 (V.map rj)),(8,eI (V.length:Int)),(9,eI (k:Int))],[(0,some (.row 2 1 ((dF (V.take k)).map fun n=>[eI n])))],1⟩))) (fun st=>V.length - aw st 9) ⟨_,wC,0,IY _,.inl ⟨rfl,rfl⟩⟩ ?_;rintro _ ⟨k,hk,hst⟩;have hk2:=hnl k;by_cases hlt:k<V.length
 .obtain ⟨p,hp⟩:∃ p,V[k]=p:=⟨_,rfl⟩
  have hsn:dF (V.take (k+1))=dF (V.take k) ++ (if p.1 = -1 then [p.2] else []):=by
   rw [Jb hlt,pM,hp]
   congr 1
   by_cases h:p.1 = -1<;>simp [dF,h]
  by_cases h1:p.1 = -1
  .rw [I8 h1] at hsn;have d1:(p.1 == -1)=true:=(by simp [h1]);have et:(dF (V.take (k+1))).map (fun n=>[eI n])=(dF (V.take k)).map (fun n=>[eI n]) ++ [[eI p.2]]:=by rw [hsn,Jl];rfl
   have hne:dF (V.take (k+1)) ≠ []:=by rw [hsn];simp
   rcases hst with ⟨h0,rfl⟩|⟨h0,rfl⟩
   .rw [h0,JR] at hsn;have et1:(dF (V.take (k+1))).map (fun n=>[eI n])=[[eI p.2]]:=by rw [hsn];rfl
    repeat' first|refine go ?_|simp only [ac,hlt,hp,d1]|decide|refine sp ?_ ?_<;>intro _
    refine ⟨rfl,rI (wS [2] et1) ⟨k+1,by omega,.inr ⟨hne,rfl⟩⟩⟩
   .repeat' first|refine go ?_|simp only [ac,hlt,hp,d1]|decide|refine sp ?_ ?_<;>intro _
    refine ⟨rfl,⟨by omega,by omega⟩,rI (wS [3] et) ⟨k+1,by omega,.inr ⟨hne,rfl⟩⟩⟩
  .rw [I4 h1,JS] at hsn;have d1:(p.1 == -1)=false:=(by simp [h1]);rcases hst with ⟨h0,rfl⟩|⟨h0,rfl⟩
   .repeat' first|refine go ?_|simp only [ac,hlt,hp,d1]|decide|refine sp ?_ ?_<;>intro _
    exact rI wC ⟨k+1,by omega,.inl ⟨by rw [hsn];exact h0,rfl⟩⟩
   .repeat' first|refine go ?_|simp only [ac,hlt,hp,d1]|decide|refine sp ?_ ?_<;>intro _
    exact rI (wS [0] @hsn) ⟨k+1,by omega,.inr ⟨by rw [hsn];exact h0,rfl⟩⟩
 .obtain rfl:k=V.length:=by omega
  rw [I9] at hst hk2;rcases hst with ⟨h0,rfl⟩|⟨h0,rfl⟩
  .rw [h0]
   repeat' first|refine ge @hlt ?_|decide|refine sp ?_ ?_<;>intro _
   refine ak lE ?_
   repeat' first|refine go ?_|decide|refine sp ?_ ?_<;>intro _
   exact vx rfl
  .have hS:=gK (dF V) (by omega) h0
   repeat' first|refine ge @hlt ?_|decide|refine sp ?_ ?_<;>intro _
   refine cQ hS (.inr bq) ?_
   repeat' first|refine go ?_|decide|refine sp ?_ ?_<;>intro _
   rw [uf (nS h0)];exact a5 (by simp [ag.gc])
theorem yC (m:aF) (hf:iC m):ap Tryz.prog 39 [.agg (am m),.c (.slice none 0 0)] (DC (ey m [])):=by
 refine aa ae Tryz.func39 rfl (by decide) Tryz.ntmps39 Tryz.results39 rfl (zX _) ?_;obtain ⟨hg,hm,-⟩:=id hf.sizes;obtain ⟨f,hff⟩:∃ f,f=fun g:Gd=>bH g.cond:=⟨_,rfl⟩;obtain ⟨g2,hg2⟩:∃ f,f=fun g:Ml=>bH g.cond:=⟨_,rfl⟩
 have hfl:∀ k,((m.guards.take k).flatMap f).length<=11200:=fun k=>by
  have h1:=ld f (m.guards.take k) fun x hx=>by
   rw [hff];exact gp _ (by have:=hf.guards x (JE hx);omega)
  rw [Jf] at h1;omega
 have hgl:∀ k,((m.miles.take k).flatMap g2).length<=8000:=fun k=>by
  have h1:=ld g2 (m.miles.take k) fun x hx=>by
   rw [hg2];exact gp _ (by have:=hf.miles x (JE hx);omega)
  rw [Jf] at h1;omega
 have hC:ey m []=bT (m.guards.flatMap f ++ m.miles.flatMap g2):=by
  rw [hff,hg2];show bT ((bH [] ++ _) ++ _)=_;rw [show bH []=[] from rfl,JR]
 rw [hC];have hN0:ap Tryz.prog 83 [.c (.slice none 0 0)] (val (.slice none 0 0)):=(g8 [] (by simp)).fits (args:=[.c (.slice none 0 0)]) ⟨.one (.nil 7),trivial⟩
 repeat' first|refine go ?_|decide|refine sp ?_ ?_<;>intro _
 refine ak hN0 ?_
 repeat' first|refine go ?_|decide|refine sp ?_ ?_<;>intro _
 refine af (fun st=>∃ k:Nat,k<=m.guards.length /\ (((m.guards.take k).flatMap f=[] /\ st=⟨40,[(2,.op 0 0 0),(5,.c (.slice none 0 0)),(13,.sl 3 (m.guards.map xL)),(14,eI (m.guards.length:Int)),(15,eI (k:Int))],[(0,some (.box 32 (am m)))],1⟩) \/ ((m.guards.take k).flatMap f ≠ [] /\ st=⟨40,[(2,.op 0 0 0),(5,.osl 1),(13,.sl 3 (m.guards.map xL)),(14,eI (m.guards.length:Int)),(15,eI (k:Int))],[(0,some (.box 32 (am m))),(1,some (.row 2 1 (((m.guards.take k).flatMap f).map fun n=>[eI n])))],2⟩))) (fun st=>m.guards.length - aw st 15) ⟨_,wC,0,IY _,.inl ⟨rfl,rfl⟩⟩ ?_;rintro _ ⟨k,hk,hst⟩;have hkl:=hfl k;by_cases hlt:k<m.guards.length
 .obtain ⟨x,hx⟩:∃ x,m.guards[k]=x:=⟨_,rfl⟩;have hxc:=hf.guards x (hx ▸ IZ hlt);have hNx:=g8 x.cond (by omega);have hcl:=gp x.cond (by omega);have hsn:(m.guards.take (k+1)).flatMap f=(m.guards.take k).flatMap f ++ bH x.cond:=by rw [fI f _ hlt,hx,hff]
  generalize (m.guards.take k).flatMap f=A at *;generalize bH x.cond=C at *;have et:((m.guards.take (k+1)).flatMap f).map (fun n=>[eI n])=A.map (fun n=>[eI n]) ++ C.map (fun n=>[eI n]):=by rw [hsn,Jl]
  rcases hst with ⟨h0,rfl⟩|⟨h0,rfl⟩
  .rw [h0,JR] at hsn
   repeat' first|refine go ?_|simp only [ac,hlt,hx]|decide|refine sp ?_ ?_<;>intro _
   refine jG hNx (fun hc=>?_) (fun hc=>?_)
   .rw [hc] at hsn
    repeat' first|refine ge @KN ?_|decide|refine sp ?_ ?_<;>intro _
    exact rI (wR [0]) ⟨k+1,by omega,.inl ⟨hsn,rfl⟩⟩
   .have et2:((m.guards.take (k+1)).flatMap f).map (fun n=>[eI n])=C.map (fun n=>[eI n]):=by rw [hsn]
    repeat' first|refine go ?_|decide|refine sp ?_ ?_<;>intro _
    refine ⟨⟨by omega,by omega⟩,rI (wS [0,3] et2) ⟨k+1,by omega,.inr ⟨by rw [hsn];exact hc,rfl⟩⟩⟩
  .have hne:(m.guards.take (k+1)).flatMap f ≠ []:=by rw [hsn];simp [h0]
   repeat' first|refine go ?_|simp only [ac,hlt,hx]|decide|refine sp ?_ ?_<;>intro _
   refine jG hNx (fun hc=>?_) (fun hc=>?_)
   .have et2:((m.guards.take (k+1)).flatMap f).map (fun n=>[eI n])=A.map (fun n=>[eI n]):=by rw [et,hc,Jo,JS]
    repeat' first|refine go ?_|decide|refine sp ?_ ?_<;>intro _
    refine ⟨⟨by omega,by omega⟩,rI (wS [0,3] et2) ⟨k+1,by omega,.inr ⟨hne,rfl⟩⟩⟩
   .repeat' first|refine go ?_|decide|refine sp ?_ ?_<;>intro _
    refine ⟨⟨by omega,by omega⟩,rI (wS [0,4] et) ⟨k+1,by omega,.inr ⟨hne,rfl⟩⟩⟩
 obtain rfl:k=m.guards.length:=by omega
 rw [I9] at hst hkl;obtain ⟨O,hO⟩:∃ O,m.guards.flatMap f=O:=⟨_,rfl⟩;rw [hO] at hst hkl ⊢;rcases hst with ⟨h0,rfl⟩|⟨h0,rfl⟩
 .repeat' first|refine ge @hlt ?_|decide|refine sp ?_ ?_<;>intro _
  refine af (fun st=>∃ k:Nat,k<=m.miles.length /\ ((O ++ (m.miles.take k).flatMap g2=[] /\ st=⟨40,[(2,.op 0 0 0),(5,.c (.slice none 0 0)),(26,.sl 5 (m.miles.map ri)),(27,eI (m.miles.length:Int)),(28,eI (k:Int))],[(0,some (.box 32 (am m)))],1⟩) \/ (O ++ (m.miles.take k).flatMap g2 ≠ [] /\ st=⟨40,[(2,.op 0 0 0),(5,.osl 1),(26,.sl 5 (m.miles.map ri)),(27,eI (m.miles.length:Int)),(28,eI (k:Int))],[(0,some (.box 32 (am m))),(1,some (.row 2 1 ((O ++ (m.miles.take k).flatMap g2).map fun n=>[eI n])))],2⟩))) (fun st=>m.miles.length - aw st 28) ⟨_,(wE trivial),0,IY _,.inl ⟨by rw [I5,h0];rfl,rfl⟩⟩ ?_;rintro _ ⟨k,hk3,hst⟩;have hkl3:=hgl k;by_cases hlt3:k<m.miles.length
  .obtain ⟨x,hx⟩:∃ x,m.miles[k]=x:=⟨_,rfl⟩;have hxc:=hf.miles x (hx ▸ IZ hlt3);have hNx:=g8 x.cond (by omega);have hcl:=gp x.cond (by omega);have hsn:O ++ (m.miles.take (k+1)).flatMap g2=(O ++ (m.miles.take k).flatMap g2) ++ bH x.cond:=(by rw [fI g2 _ hlt3,hx,hg2,JJ]);have hAl:(O ++ (m.miles.take k).flatMap g2).length<=20000:=by rw [I0];omega
   generalize O ++ (m.miles.take k).flatMap g2=A at *;generalize bH x.cond=C at *;have et:(O ++ (m.miles.take (k+1)).flatMap g2).map (fun n=>[eI n])=A.map (fun n=>[eI n]) ++ C.map (fun n=>[eI n]):=(by rw [hsn,Jl]);rcases hst with ⟨h0,rfl⟩|⟨h0,rfl⟩
   .rw [h0,JR] at hsn
    repeat' first|refine go ?_|simp only [ac,hlt3,hx]|decide|refine sp ?_ ?_<;>intro _
    refine jG hNx (fun hc=>?_) (fun hc=>?_)
    .rw [hc] at hsn
     repeat' first|refine ge @KN ?_|decide|refine sp ?_ ?_<;>intro _
     exact rI (wR [0]) ⟨k+1,by omega,.inl ⟨hsn,rfl⟩⟩
    .have et2:(O ++ (m.miles.take (k+1)).flatMap g2).map (fun n=>[eI n])=C.map (fun n=>[eI n]):=by rw [hsn]
     repeat' first|refine go ?_|decide|refine sp ?_ ?_<;>intro _
     refine ⟨⟨by omega,by omega⟩,rI (wS [0,3] et2) ⟨k+1,by omega,.inr ⟨by rw [hsn];exact hc,rfl⟩⟩⟩
   .have hne:O ++ (m.miles.take (k+1)).flatMap g2 ≠ []:=by rw [hsn];simp [h0]
    repeat' first|refine go ?_|simp only [ac,hlt3,hx]|decide|refine sp ?_ ?_<;>intro _
    refine jG hNx (fun hc=>?_) (fun hc=>?_)
    .have et2:(O ++ (m.miles.take (k+1)).flatMap g2).map (fun n=>[eI n])=A.map (fun n=>[eI n]):=by rw [et,hc,Jo,JS]
     repeat' first|refine go ?_|decide|refine sp ?_ ?_<;>intro _
     refine ⟨⟨by omega,by omega⟩,rI (wS [0,3] et2) ⟨k+1,by omega,.inr ⟨hne,rfl⟩⟩⟩
    .repeat' first|refine go ?_|decide|refine sp ?_ ?_<;>intro _
     refine ⟨⟨by omega,by omega⟩,rI (wS [0,4] et) ⟨k+1,by omega,.inr ⟨hne,rfl⟩⟩⟩
  obtain rfl:k=m.miles.length:=by omega
  rw [I9] at hst hkl3;have hAl:(O ++ m.miles.flatMap g2).length<=20000:=by rw [I0];omega
  generalize O ++ m.miles.flatMap g2=A at *;rcases hst with ⟨h0,rfl⟩|⟨h0,rfl⟩
  .rw [h0]
   repeat' first|refine ge @hlt3 ?_|decide|refine sp ?_ ?_<;>intro _
   refine ak lE ?_
   repeat' first|refine go ?_|decide|refine sp ?_ ?_<;>intro _
   exact vx rfl
  .repeat' first|refine ge @hlt3 ?_|decide|refine sp ?_ ?_<;>intro _
   refine cQ (gK A (by omega) h0) (.inr bq) ?_
   repeat' first|refine go ?_|decide|refine sp ?_ ?_<;>intro _
   rw [uf (nS h0)];exact a5 (by simp [ag.gc])
 .have hi0:(O ++ (m.miles.take 0).flatMap g2).map (fun n=>[eI n])=O.map (fun n=>[eI n]):=by rw [I5,JX,JS]
  repeat' first|refine ge @hlt ?_|decide|refine sp ?_ ?_<;>intro _
  refine af (fun st=>∃ k:Nat,k<=m.miles.length /\ ((O ++ (m.miles.take k).flatMap g2=[] /\ st=⟨40,[(2,.op 0 0 0),(5,.c (.slice none 0 0)),(26,.sl 5 (m.miles.map ri)),(27,eI (m.miles.length:Int)),(28,eI (k:Int))],[(0,some (.box 32 (am m)))],1⟩) \/ (O ++ (m.miles.take k).flatMap g2 ≠ [] /\ st=⟨40,[(2,.op 0 0 0),(5,.osl 1),(26,.sl 5 (m.miles.map ri)),(27,eI (m.miles.length:Int)),(28,eI (k:Int))],[(0,some (.box 32 (am m))),(1,some (.row 2 1 ((O ++ (m.miles.take k).flatMap g2).map fun n=>[eI n])))],2⟩))) (fun st=>m.miles.length - aw st 28) ⟨_,(wE hi0),0,IY _,.inr ⟨by rw [I5,JX,JS];exact h0,rfl⟩⟩ ?_;rintro _ ⟨k,hk3,hst⟩;have hkl3:=hgl k;by_cases hlt3:k<m.miles.length
  .obtain ⟨x,hx⟩:∃ x,m.miles[k]=x:=⟨_,rfl⟩;have hxc:=hf.miles x (hx ▸ IZ hlt3);have hNx:=g8 x.cond (by omega);have hcl:=gp x.cond (by omega);have hsn:O ++ (m.miles.take (k+1)).flatMap g2=(O ++ (m.miles.take k).flatMap g2) ++ bH x.cond:=(by rw [fI g2 _ hlt3,hx,hg2,JJ]);have hAl:(O ++ (m.miles.take k).flatMap g2).length<=20000:=by rw [I0];omega
   generalize O ++ (m.miles.take k).flatMap g2=A at *;generalize bH x.cond=C at *;have et:(O ++ (m.miles.take (k+1)).flatMap g2).map (fun n=>[eI n])=A.map (fun n=>[eI n]) ++ C.map (fun n=>[eI n]):=(by rw [hsn,Jl]);rcases hst with ⟨h0,rfl⟩|⟨h0,rfl⟩
   .rw [h0,JR] at hsn
    repeat' first|refine go ?_|simp only [ac,hlt3,hx]|decide|refine sp ?_ ?_<;>intro _
    refine jG hNx (fun hc=>?_) (fun hc=>?_)
    .rw [hc] at hsn
     repeat' first|refine ge @KN ?_|decide|refine sp ?_ ?_<;>intro _
     exact rI (wR [0]) ⟨k+1,by omega,.inl ⟨hsn,rfl⟩⟩
    .have et2:(O ++ (m.miles.take (k+1)).flatMap g2).map (fun n=>[eI n])=C.map (fun n=>[eI n]):=by rw [hsn]
     repeat' first|refine go ?_|decide|refine sp ?_ ?_<;>intro _
     refine ⟨⟨by omega,by omega⟩,rI (wS [0,3] et2) ⟨k+1,by omega,.inr ⟨by rw [hsn];exact hc,rfl⟩⟩⟩
   .have hne:O ++ (m.miles.take (k+1)).flatMap g2 ≠ []:=by rw [hsn];simp [h0]
    repeat' first|refine go ?_|simp only [ac,hlt3,hx]|decide|refine sp ?_ ?_<;>intro _
    refine jG hNx (fun hc=>?_) (fun hc=>?_)
    .have et2:(O ++ (m.miles.take (k+1)).flatMap g2).map (fun n=>[eI n])=A.map (fun n=>[eI n]):=by rw [et,hc,Jo,JS]
     repeat' first|refine go ?_|decide|refine sp ?_ ?_<;>intro _
     refine ⟨⟨by omega,by omega⟩,rI (wS [0,3] et2) ⟨k+1,by omega,.inr ⟨hne,rfl⟩⟩⟩
    .repeat' first|refine go ?_|decide|refine sp ?_ ?_<;>intro _
     refine ⟨⟨by omega,by omega⟩,rI (wS [0,4] et) ⟨k+1,by omega,.inr ⟨hne,rfl⟩⟩⟩
  obtain rfl:k=m.miles.length:=by omega
  rw [I9] at hst hkl3;have hAl:(O ++ m.miles.flatMap g2).length<=20000:=by rw [I0];omega
  generalize O ++ m.miles.flatMap g2=A at *;rcases hst with ⟨h0,rfl⟩|⟨h0,rfl⟩
  .rw [h0]
   repeat' first|refine ge @hlt3 ?_|decide|refine sp ?_ ?_<;>intro _
   refine ak lE ?_
   repeat' first|refine go ?_|decide|refine sp ?_ ?_<;>intro _
   exact vx rfl
  .repeat' first|refine ge @hlt3 ?_|decide|refine sp ?_ ?_<;>intro _
   refine cQ (gK A (by omega) h0) (.inr bq) ?_
   repeat' first|refine go ?_|decide|refine sp ?_ ?_<;>intro _
   rw [uf (nS h0)];exact a5 (by simp [ag.gc])
end
end
section
section
theorem BB (m:aF) (hf:iC m) (hc:nF m) (hk:ID m) (h:lH m):ap Tryz.prog 35 [.agg (am m)] (val (.bool true)):=by
 refine aa ae Tryz.func35 rfl (by decide) Tryz.ntmps35 Tryz.results35 rfl (aq _) ?_;obtain ⟨hgs,hms,hsts,hevs,hats,huss,hros,hsos,-⟩:=id hf.sizes
 repeat' first|refine go ?_|decide|refine sp ?_ ?_<;>intro _
 refine af (fun st=>∃ k:Nat,k<=m.roles.length /\ st=⟨132,[(1,.op 0 0 0),(16,.sl 2 (m.roles.map rh)),(17,eI (m.roles.length:Int)),(18,eI (k:Int))],[(0,some (.box 32 (am m)))],1⟩) (fun st=>m.roles.length - aw st 18) ⟨_,(wR [0]),0,IY _,rfl⟩ ?_;rintro _ ⟨k,hkl,rfl⟩;by_cases hlt:k<m.roles.length
 .obtain ⟨g1,g2,g3⟩:=h.roles k hlt;have hu:=hk.users;have q0:((m.users.length:Int)<0)=False:=by simp
  have d1:decide (m.roles[k].2<=0)=false:=I3 (by omega)
  have d2:decide (IntKind.i64.wrap (1 * 2 ^ min m.users.length IntKind.i64.bits)<=m.roles[k].2)=false:=by
   have hp:2 ^ m.users.length<=2 ^ 4:=JP (by omega) hu;have hp1:1<=2 ^ m.users.length:=Nat.one_le_two_pow
   have e1:(2:Int) ^ min m.users.length IntKind.i64.bits=((2 ^ m.users.length:Nat):Int):=by
    rw [show min m.users.length IntKind.i64.bits=m.users.length from Nat.min_eq_left (by show m.users.length<=64;omega)];simp
   rw [e1,Int.one_mul,aP (by omega) (by omega)];exact I3 (by omega)
  repeat' first|refine gq ?_|simp only [ac,hlt,q0,d1,d2]|decide|refine sp ?_ ?_<;>intro _
  all_goals exact rI (wR [0]) ⟨k+1,by omega,rfl⟩
 obtain rfl:k=m.roles.length:=by omega
 repeat' first|refine ge @hlt ?_|decide|refine sp ?_ ?_<;>intro _
 clear hkl hlt;refine af (fun st=>∃ k:Nat,k<=m.stages.length /\ st=⟨132,[(1,.op 0 0 0),(36,.sl 2 (m.stages.map rh)),(37,eI (m.stages.length:Int)),(38,eI (k:Int))],[(0,some (.box 32 (am m)))],1⟩) (fun st=>m.stages.length - aw st 38) ⟨_,(wR [0]),0,IY _,rfl⟩ ?_;rintro _ ⟨k,hkl,rfl⟩;by_cases hlt:k<m.stages.length
 .rcases h.stages k hlt with g | g
  .have q:(m.stages[k].2 != -1)=false:=by rw [g];rfl
   repeat' first|refine gq ?_|simp only [ac,hlt,q]|decide|refine sp ?_ ?_<;>intro _
   all_goals exact rI (wR [0]) ⟨k+1,by omega,rfl⟩
  .have hI:=lV m.stages[k].2 m.stages.length;rw [g] at hI
   have q:(m.stages[k].2 != -1)=true:=by
    simp only [b7,I2,Je] at g;simp;omega
   repeat' first|refine gq ?_|simp only [ac,hlt,q]|decide|refine sp ?_ ?_<;>intro _|refine cA hI ?_|fail
   all_goals exact rI (wR [0]) ⟨k+1,by omega,rfl⟩
 obtain rfl:k=m.stages.length:=by omega
 repeat' first|refine ge @hlt ?_|decide|refine sp ?_ ?_<;>intro _
 clear hkl hlt;refine af (fun st=>∃ k:Nat,k<=m.events.length /\ st=⟨132,[(1,.op 0 0 0),(56,.sl 5 (m.events.map mt)),(57,eI (m.events.length:Int)),(58,eI (k:Int))],[(0,some (.box 32 (am m)))],1⟩) (fun st=>m.events.length - aw st 58) ⟨_,(wR [0]),0,IY _,rfl⟩ ?_;rintro _ ⟨k,hkl,rfl⟩;by_cases hlt:k<m.events.length
 .obtain ⟨x,hx⟩:∃ x,m.events[k]=x:=⟨_,rfl⟩;have hE:=sX m x hk.attrs (hx ▸ hf.events _ (IZ hlt)) (hx ▸ h.events k hlt)
  repeat' first|refine gq ?_|simp only [ac,hlt,hx]|decide|refine sp ?_ ?_<;>intro _|refine cA hE ?_|fail
  all_goals exact rI (wR [0]) ⟨k+1,by omega,rfl⟩
 obtain rfl:k=m.events.length:=by omega
 repeat' first|refine ge @hlt ?_|decide|refine sp ?_ ?_<;>intro _
 clear hkl hlt;refine af (fun st=>∃ k:Nat,k<=m.guards.length /\ st=⟨132,[(1,.op 0 0 0),(68,.sl 3 (m.guards.map xL)),(69,eI (m.guards.length:Int)),(70,eI (k:Int))],[(0,some (.box 32 (am m)))],1⟩) (fun st=>m.guards.length - aw st 70) ⟨_,(wR [0]),0,IY _,rfl⟩ ?_;rintro _ ⟨k,hkl,rfl⟩;by_cases hlt:k<m.guards.length
 .obtain ⟨x,hx⟩:∃ x,m.guards[k]=x:=⟨_,rfl⟩;have hl:=hf.guards x (hx ▸ IZ hlt);have hE:=pb m x.stage x.event x.cond (by omega) (hc.1 x (hx ▸ IZ hlt)) (hx ▸ h.guards k hlt)
  repeat' first|refine gq ?_|simp only [ac,hlt,hx]|decide|refine sp ?_ ?_<;>intro _|refine cA hE ?_|fail
  all_goals exact rI (wR [0]) ⟨k+1,by omega,rfl⟩
 obtain rfl:k=m.guards.length:=by omega
 repeat' first|refine ge @hlt ?_|decide|refine sp ?_ ?_<;>intro _
 clear hkl hlt;refine af (fun st=>∃ k:Nat,k<=m.miles.length /\ st=⟨132,[(1,.op 0 0 0),(85,.sl 5 (m.miles.map ri)),(86,eI (m.miles.length:Int)),(87,eI (k:Int))],[(0,some (.box 32 (am m)))],1⟩) (fun st=>m.miles.length - aw st 87) ⟨_,(wR [0]),0,IY _,rfl⟩ ?_;rintro _ ⟨k,hkl,rfl⟩;by_cases hlt:k<m.miles.length
 .obtain ⟨x,hx⟩:∃ x,m.miles[k]=x:=⟨_,rfl⟩;have hl:=hf.miles x (hx ▸ IZ hlt);have hE:=pb m x.stage x.event x.cond (by omega) (hc.2 x (hx ▸ IZ hlt)) (hx ▸ h.miles k hlt)
  repeat' first|refine gq ?_|simp only [ac,hlt,hx]|decide|refine sp ?_ ?_<;>intro _|refine cA hE ?_|fail
  all_goals exact rI (wR [0]) ⟨k+1,by omega,rfl⟩
 obtain rfl:k=m.miles.length:=by omega
 repeat' first|refine ge @hlt ?_|decide|refine sp ?_ ?_<;>intro _
 clear hkl hlt;refine af (fun st=>∃ k:Nat,k<=m.sods.length /\ st=⟨132,[(1,.op 0 0 0),(102,.sl 2 (m.sods.map rj)),(103,eI (m.sods.length:Int)),(104,eI (k:Int))],[(0,some (.box 32 (am m)))],1⟩) (fun st=>m.sods.length - aw st 104) ⟨_,(wR [0]),0,IY _,rfl⟩ ?_;rintro _ ⟨k,hkl,rfl⟩;by_cases hlt:k<m.sods.length
 .obtain ⟨g1,g2,g3⟩:=h.sods k hlt;have hI1:=lV m.sods[k].1 m.events.length;have hI2:=lV m.sods[k].2 m.events.length;rw [g1] at hI1;rw [g2] at hI2;have q:(m.sods[k].1 == m.sods[k].2)=false:=by simp [g3]
  repeat' first|refine gq ?_|simp only [ac,hlt,q]|decide|refine sp ?_ ?_<;>intro _|refine cA hI1 ?_|refine cA hI2 ?_|fail
  all_goals exact rI (wR [0]) ⟨k+1,by omega,rfl⟩
 obtain rfl:k=m.sods.length:=by omega
 repeat' first|refine gf @hlt ?_|decide|refine sp ?_ ?_<;>intro _
theorem yn (m:aF) (hf:iC m) (hc:nF m) (hp:∀ p ∈ m.stages,aA p.2) (h:mn m):ap Tryz.prog 17 [.agg (am m)] (val (.bool true)):=by
 refine aa ae Tryz.func17 rfl (by decide) Tryz.ntmps17 Tryz.results17 rfl (aq _) ?_;obtain ⟨hg,hm,hst,hev,hat,hus,hro,hso,hor,-⟩:=id hf.sizes;obtain ⟨js,ho,hjl,hgr⟩:=h.order;have hF:=EV m h.chk;have hP:=BB m hf hc h.chk h.named;have hB:=BJ m.events (by omega) hf.events h.writes h.sum;have hN:=vz m (by omega);have hCi:=x9 (pars m) (by simp [pars];omega) (qn hp);have hCn:=yC m hf;have hO:=AP m js hf hp hjl hgr;rw [<- ho] at hO;have hE:=zy m.order (by omega);have d1:decide (0<=bX (pars m))=false:=I3 (by have:=h.chk.circle;omega);have z0:((0:Int) == 0)=true:=rfl
 repeat' first|refine gq ?_|decide|refine sp ?_ ?_<;>intro _|refine cA hF ?_|refine cA hP ?_|refine cA hB ?_|fail
 refine cQ hN (.inr bq) ?_
 repeat' first|refine go ?_|decide|refine sp ?_ ?_<;>intro _
 refine ak hCi ?_
 repeat' first|refine ge d1 ?_|decide|refine sp ?_ ?_<;>intro _
 have hc6:=h.consts;refine jG hCn (fun h0=>?_) (fun h0=>?_)
 .have z6:decide ((6:Int)<((0:Nat):Int))=false:=rfl
  repeat' first|refine ge z6 ?_|decide|refine sp ?_ ?_<;>intro _
  refine sH hO (.inr ⟨⟨trivial,trivial,trivial⟩,fS,trivial⟩) ?_;simp only [AV.shift,AV.shiftL,ag.shift,aE.shift,JN,Jo,JM,JR]
  repeat' first|refine ge z0 ?_|decide|refine sp ?_ ?_<;>intro _
  refine ak hE ?_
  repeat' first|refine go ?_|decide|refine sp ?_ ?_<;>intro _
 .have z6:decide ((6:Int)<((ey m []).length:Int))=false:=I3 (by omega);have z7:decide (6<(ey m []).length)=false:=I3 (by omega)
  repeat' first|refine ge (kf z6 z7) ?_|decide|refine sp ?_ ?_<;>intro _
  refine sH hO (.inr ⟨⟨trivial,trivial,trivial⟩,fS,trivial⟩) ?_;simp only [AV.shift,AV.shiftL,ag.shift,aE.shift,JN,Jo,JM,JR]
  repeat' first|refine ge z0 ?_|decide|refine sp ?_ ?_<;>intro _
  refine ak hE ?_
  repeat' first|refine go ?_|decide|refine sp ?_ ?_<;>intro _
end
section
def gT (x:az):Bool:=if 3<=x.op /\ x.op<=8 then x.la != x.ra else decide (9<=x.op) && decide (x.op<=14)
def wh (l:List az):Bool:=l.all (fun x=>!gT x) && (decide (1<l.length) || (decide (l.length=1) && ((decide (3<=(l.map az.op).getD 0 0) && decide ((l.map az.op).getD 0 0<=8)) || (l.map az.op).getD 0 0 == 2)))
end
section
theorem l5 (x:az):ap Tryz.prog 97 [.agg (cV x)] (val (.bool (decide (3<=x.op) && decide (x.op<=8)))):=by
 refine aa ae Tryz.func97 rfl (by decide) Tryz.ntmps97 Tryz.results97 rfl (aq _) ?_;by_cases g:3<=x.op
 .have d1:decide (3<=x.op)=true:=Jc g
  repeat' first|refine gf (kf d1 @JU) ?_|decide|refine sp ?_ ?_<;>intro _
 .have d1:decide (3<=x.op)=false:=I3 g
  repeat' first|refine gf (kf d1 @Ke) ?_|decide|refine sp ?_ ?_<;>intro _
theorem BD (x:az):ap Tryz.prog 96 [.agg (cV x)] (val (.bool (gT x))):=by
 refine aa ae Tryz.func96 rfl (by decide) Tryz.ntmps96 Tryz.results96 rfl (aq _) ?_;have hC:=l5 x;unfold gT;by_cases g:3<=x.op /\ x.op<=8
 .have e:(decide (3<=x.op) && decide (x.op<=8))=true:=by simp [g]
  rw [e] at hC;rw [I8 g]
  repeat' first|refine gq ?_|decide|refine sp ?_ ?_<;>intro _|refine cA hC ?_|fail
 .have e:(decide (3<=x.op) && decide (x.op<=8))=false:=by simpa using g
  rw [e] at hC;rw [I4 g];by_cases g9:9<=x.op
  .have d1:decide (9<=x.op)=true:=Jc g9;rw [d1,JU]
   repeat' first|refine gf d1 ?_|decide|refine sp ?_ ?_<;>intro _|refine cA hC ?_|fail
  .have d1:decide (9<=x.op)=false:=I3 g9;rw [d1,Ke]
   repeat' first|refine gf d1 ?_|decide|refine sp ?_ ?_<;>intro _|refine cA hC ?_|fail
theorem vS (l:List az) (hl:l.length<=1000000):ap Tryz.prog 58 [aV l] (val (.bool (wh l))):=by
 refine aa ae Tryz.func58 rfl (by decide) Tryz.ntmps58 Tryz.results58 rfl (aq _) ?_
 repeat' first|refine go ?_|decide|refine sp ?_ ?_<;>intro _
 refine af (fun st=>∃ k:Nat,k<=l.length /\ (∀ j (h:j<l.length),j<k -> gT l[j]=false) /\ st=⟨35,[(0,aV l),(5,aV l),(6,eI (l.length:Int)),(7,eI (k:Int))],[],0⟩) (fun st=>l.length - aw st 7) ⟨_,(wE trivial),0,IY _,fun j _ h=>by omega,rfl⟩ ?_;rintro _ ⟨k,hk,hok,rfl⟩;by_cases hlt:k<l.length
 .have hN:=BD l[k]
  have hok2:gT l[k]=false -> ∀ j (h:j<l.length),j<k+1 -> gT l[j]=false:=fun h j hj hjk=>by
   rcases Jk j k with h2|h2
   .exact hok j hj h2
   .obtain rfl:j=k:=by omega
    exact h
  have hno:gT l[k]=true -> wh l=false:=fun h=>by
   unfold wh;rw [Jt];left;rw [List.all_eq_false];exact ⟨l[k],IZ hlt,by simp [h]⟩
  generalize hx:l[k]=x at *
  cases hb:gT x with
  | true=>
   rw [hb] at hN;rw [hno hb]
   repeat' first|refine gq ?_|simp only [ac,hlt,hx]|decide|refine sp ?_ ?_<;>intro _|refine cA hN ?_|fail
  | false=>
   rw [hb] at hN
   repeat' first|refine gq ?_|simp only [ac,hlt,hx]|decide|refine sp ?_ ?_<;>intro _|refine cA hN ?_|fail
   all_goals exact rI (wE trivial) ⟨k+1,by omega,hok2 hb,rfl⟩
 .obtain rfl:k=l.length:=by omega
  have hall:l.all (fun x=>!gT x)=true:=by
   rw [List.all_eq_true];intro x hx;obtain ⟨j,hj,rfl⟩:=Jw hx;simp [hok j hj hj]
  unfold wh;rw [hall,JU];by_cases g1:1<l.length
  .have d1:decide (1<l.length)=true:=Jc g1;have d1':decide ((1:Int)<(l.length:Int))=true:=Jc (by omega);rw [d1,Bool.true_or]
   repeat' first|refine gf (kf @hlt (kf d1 d1')) ?_|decide|refine sp ?_ ?_<;>intro _
  .have d1:decide (1<l.length)=false:=I3 g1;have d1':decide ((1:Int)<(l.length:Int))=false:=I3 (by omega);rw [d1,KT]
   match l,g1,hl with
   | [],_,_=>
    have q:(((0:Nat):Int) == 1)=false:=rfl;have z0:decide ((1:Int)<((0:Nat):Int))=false:=rfl
    repeat' first|refine gf (kf q z0) ?_|decide|refine sp ?_ ?_<;>intro _
    all_goals rfl
   | [x],_,_=>
    have hC:=l5 x;have q:(((1:Nat):Int) == 1)=true:=rfl;have e0:([cV x]:List (List AV))[Int.toNat 0]?.getD []=cV x:=rfl;have b0:(0:Int)<((1:Nat):Int):=(by decide);have z1:decide ((1:Int)<((1:Nat):Int))=false:=rfl
    cases hb:(decide (3<=x.op) && decide (x.op<=8)) with
    | true=>
     rw [hb] at hC
     repeat' first|refine gf (kf q (kf z1 (kf e0 b0))) ?_|decide|refine sp ?_ ?_<;>intro _|refine cA hC ?_|fail
     all_goals simp [hb]
    | false=>
     rw [hb] at hC
     repeat' first|refine gf (kf q (kf z1 (kf e0 b0))) ?_|decide|refine sp ?_ ?_<;>intro _|refine cA hC ?_|fail
     all_goals simp [hb]
   | _ :: _ :: _,h,_=>exact (h (by simp)).elim
end
section
structure iK (s:St):Prop where
 vals:s.vals.length<=10
 did:s.did.length<=10
 cnt:s.cnt.length<=10
 ok:IL s
 nums:∀ x ∈ s.vals,aA x
theorem iK.fit {s:St} (h:iK s):Hh s:=by
 have h1:=h.vals;have h2:=h.did;have h3:=h.cnt;unfold Hh;omega
theorem gb:cr 0:=by unfold cr;omega
theorem uJ (m:aF) (hf:iC m) (hi:∀ x ∈ m.inits,aA x):iK (fE m):=by
 obtain ⟨h1,h2,h3⟩:=gy m (-1) (m.order.take m.order.length) (dE m);have h4:=kQ m (-1) (m.order.take m.order.length) (dE m) ⟨gb,gb⟩;obtain ⟨-,-,-,hel,-,-,-,-,-,hil⟩:=id hf.sizes;unfold fE fc;refine ⟨by rw [h1];exact hil,by rw [h2];simp [dE];omega,by rw [h3];simp [dE];omega,⟨cO h4.1,cO h4.2,fun x hx=>?_⟩,fun x hx=>?_⟩
 .rw [h2] at hx;simp only [dE] at hx;rw [(List.mem_replicate.1 hx).2];exact cO gb
 .rw [h1] at hx;exact hi x hx
theorem AZ:iK kH:=⟨by simp [kH],by simp [kH],by simp [kH],⟨cO gb,cO gb,by simp [kH]⟩,by simp [kH]⟩
theorem Dj (m:aF) (s:St) (v:Mv) (hg:iK s) (hv:∀ x ∈ v.vals,aA x):iK (oD m s v).1:=by
 unfold oD;split
 .rename_i hmay;split
  .exact hg
  .have hen:fe m s=true:=by
    unfold gH at hmay
    grind
   unfold fe at hen;simp only [I2,Je] at hen;obtain ⟨⟨⟨⟨⟨hc1,hc2⟩,hc3⟩,hc4⟩,hc5⟩,-⟩:=hen;obtain ⟨h1,h2,h3⟩:=gy m v.event (m.order.take m.order.length) (cj m s v)
   have ht:(cj m s v).opn=s.opn /\ (cj m s v).don=s.don /\ (cj m s v).vals.length=s.vals.length /\ (cj m s v).did.length=s.did.length /\ (cj m s v).cnt.length=s.cnt.length /\ ∀ x ∈ (cj m s v).did,aA x:=by
    unfold cj;split
    .exact ⟨rfl,rfl,rfl,rfl,rfl,hg.ok.did⟩
    .refine ⟨rfl,rfl,cz ..,by simp,?_,fun x hx=>?_⟩
     .simp only;split<;>simp
     .rcases J1 hx with h | h
      .exact hg.ok.did x h
      .rw [h];exact cO (nn _ _)
   have h4:=kQ m v.event (m.order.take m.order.length) (cj m s v) ⟨by rw [ht.1];exact f6 hc4,by rw [ht.2.1];exact f6 hc5⟩;have g1:=hg.vals;have g2:=hg.did;have g3:=hg.cnt;unfold fc;refine ⟨by rw [h1,ht.2.2.1];exact g1,by rw [h2,ht.2.2.2.1];exact g2,by rw [h3,ht.2.2.2.2.1];exact g3,⟨cO h4.1,cO h4.2,fun x hx=>?_⟩,fun x hx=>?_⟩
   .rw [h2] at hx;exact ht.2.2.2.2.2 x hx
   .rw [h1] at hx;exact ym m s v hg.nums hv x hx
 .exact AZ
structure iJ (m:aF):Prop where
 fit:iC m
 cond:nF m
 pars:∀ p ∈ m.stages,aA p.2
 inits:∀ x ∈ m.inits,aA x
 roles:∀ p ∈ m.roles,aA p.2
 times:∀ e ∈ m.events,aA e.times
end
section
def qy (c:List Int) (i:Nat):Int:=if i<c.length /\ 0<c.getD i 0 then c.getD i 0 else 0
def Cs (m:aF) (c:List Int) (k:Nat):Int:=(max 0 ((m.events[k]?.map (·.times)).getD 0 - qy c k)).toNat * (((m.events[k]?.map (·.sets.length)).getD 0:Nat):Int)
def fb (m:aF) (c:List Int):Nat -> Int
 | 0=>0
 | k+1=>fb m c k+Cs m c k
theorem rM (c:List Int) (i:Nat):0<=qy c i:=by
 unfold qy;split<;>omega
theorem yr (m:aF) (c:List Int) (he:m.events.length<=10) (hm:∀ e ∈ m.events,e.times<=1000 /\ e.sets.length<=10) (hc:c.length<=1000000):ap Tryz.prog 66 [.agg (am m),sI c] (val (.int .i64 (fb m c m.events.length))):=by
 refine aa ae Tryz.func66 rfl (by decide) Tryz.ntmps66 Tryz.results66 rfl (aq _) ?_
 repeat' first|refine go ?_|decide|refine sp ?_ ?_<;>intro _
 refine af (fun st=>∃ (k:Nat) (n:Int),k<=m.events.length /\ n=fb m c k /\ 0<=n /\ n<=10000 * k /\ st=⟨50,[(1,sI c),(2,.op 0 0 0),(5,eI n),(6,eI (k:Int))],[(0,some (.box 32 (am m)))],1⟩) (fun st=>m.events.length - aw st 6) ⟨_,wC,0,0,IY _,rfl,by omega,by omega,rfl⟩ ?_;rintro _ ⟨k,n,hk,hn,hn0,hn1,rfl⟩;by_cases hlt:k<m.events.length
 .obtain ⟨e,hev⟩:∃ e,m.events[k]=e:=⟨_,rfl⟩;obtain ⟨ht,hs⟩:=hm e (hev ▸ IZ hlt);have hw0:=rM c k
  have hE:Cs m c k=(max 0 (e.times - qy c k)).toNat * (e.sets.length:Int):=by
   unfold Cs;rw [IU hlt,hev];rfl
  obtain ⟨w,hw⟩:∃ w,qy c k=w:=⟨_,rfl⟩;rw [hw] at hE hw0;obtain ⟨J,hJ⟩:∃ J,(max 0 (e.times - w)).toNat=J:=⟨_,rfl⟩;rw [hJ] at hE;have hJ10:J<=100000:=by omega
  obtain ⟨S,hS⟩:∃ S,e.sets.length=S:=⟨_,rfl⟩;rw [hS] at hE hs;by_cases hkc:k<c.length
  .by_cases hpos:0<c[k]
   .have hwc:c[k]=w:=by
     rw [<- hw,qy,I8 ⟨hkc,by rw [JB,IU hkc];exact hpos⟩,JB,IU hkc];rfl
    have d1:decide (0<w)=true:=by rw [<- hwc];simpa using hpos
    repeat' first|refine gq ?_|simp only [ac,hlt,hkc,hwc,d1]|decide|refine sp ?_ ?_<;>intro _
    refine af (fun st=>∃ (j:Nat) (was q:Int),j<=J /\ was=w+j /\ q=n+((j * S:Nat):Int) /\ st=⟨50,[(1,sI c),(2,.op 0 0 0),(5,eI q),(6,eI (k:Int)),(7,eI was)],[(0,some (.box 32 (am m)))],1⟩) (fun st=>1000 - aw st 7) ⟨_,wC,0,w,n,IY _,by omega,by simp,rfl⟩ ?_;rintro _ ⟨j,was,q,hj,hwas,hq,rfl⟩;have hjs:j * S<=1000 * 10:=Nat.mul_le_mul (by omega) (by omega);by_cases hlw:was<e.times
    .have d2:decide (was<e.times)=true:=(by simpa using hlw);have ew1:IntKind.i64.wrap (q+(S:Int))=q+(S:Int):=aP (by omega) (by omega);have ew2:IntKind.i64.wrap (was+1)=was+1:=aP (by omega) (by omega);have hss:(j+1) * S=j * S+S:=Nat.succ_mul j S
     repeat' first|refine gq ?_|simp only [ac,hlt,hev,hS,d2,ew1,ew2]|decide|refine sp ?_ ?_<;>intro _
     exact rI wC ⟨j+1,was+1,q+(S:Int),by omega,by omega,by rw [hss];omega,rfl⟩
    .have d2:decide (was<e.times)=false:=(by simpa using hlw);obtain rfl:j=J:=by omega
     have hev2:Cs m c k=((j * S:Nat):Int):=by rw [hE];simp
     repeat' first|refine gq ?_|simp only [ac,hlt,hev,d2]|decide|refine sp ?_ ?_<;>intro _
     exact rI wC ⟨k+1,q,by omega,by rw [fb,hev2,<- hn,hq],by omega,by omega,rfl⟩
   .have d1:decide (0<c[k])=false:=(by simpa using hpos);obtain rfl:w=0:=by rw [<- hw,qy,I4 (by rw [JB,IU hkc];exact fun h=>hpos h.2)]
    repeat' first|refine gq ?_|simp only [ac,hlt,hkc,d1]|decide|refine sp ?_ ?_<;>intro _
    refine af (fun st=>∃ (j:Nat) (was q:Int),j<=J /\ was=0+(j:Int) /\ q=n+((j * S:Nat):Int) /\ st=⟨50,[(1,sI c),(2,.op 0 0 0),(5,eI q),(6,eI (k:Int)),(7,eI was)],[(0,some (.box 32 (am m)))],1⟩) (fun st=>1000 - aw st 7) ⟨_,wC,0,0,n,IY _,by omega,by simp,rfl⟩ ?_;rintro _ ⟨j,was,q,hj,hwas,hq,rfl⟩;have hjs:j * S<=1000 * 10:=Nat.mul_le_mul (by omega) (by omega);by_cases hlw:was<e.times
    .have d2:decide (was<e.times)=true:=(by simpa using hlw);have ew1:IntKind.i64.wrap (q+(S:Int))=q+(S:Int):=aP (by omega) (by omega);have ew2:IntKind.i64.wrap (was+1)=was+1:=aP (by omega) (by omega);have hss:(j+1) * S=j * S+S:=Nat.succ_mul j S
     repeat' first|refine gq ?_|simp only [ac,hlt,hev,hS,d2,ew1,ew2]|decide|refine sp ?_ ?_<;>intro _
     exact rI wC ⟨j+1,was+1,q+(S:Int),by omega,by omega,by rw [hss];omega,rfl⟩
    .have d2:decide (was<e.times)=false:=(by simpa using hlw);obtain rfl:j=J:=by omega
     have hev2:Cs m c k=((j * S:Nat):Int):=by rw [hE];simp
     repeat' first|refine gq ?_|simp only [ac,hlt,hev,d2]|decide|refine sp ?_ ?_<;>intro _
     exact rI wC ⟨k+1,q,by omega,by rw [fb,hev2,<- hn,hq],by omega,by omega,rfl⟩
  .obtain rfl:w=0:=by rw [<- hw,qy,I4 (fun h=>hkc h.1)]
   repeat' first|refine gq ?_|simp only [ac,hlt,hkc]|decide|refine sp ?_ ?_<;>intro _
   refine af (fun st=>∃ (j:Nat) (was q:Int),j<=J /\ was=0+(j:Int) /\ q=n+((j * S:Nat):Int) /\ st=⟨50,[(1,sI c),(2,.op 0 0 0),(5,eI q),(6,eI (k:Int)),(7,eI was)],[(0,some (.box 32 (am m)))],1⟩) (fun st=>1000 - aw st 7) ⟨_,wC,0,0,n,IY _,by omega,by simp,rfl⟩ ?_;rintro _ ⟨j,was,q,hj,hwas,hq,rfl⟩;have hjs:j * S<=1000 * 10:=Nat.mul_le_mul (by omega) (by omega);by_cases hlw:was<e.times
   .have d2:decide (was<e.times)=true:=(by simpa using hlw);have ew1:IntKind.i64.wrap (q+(S:Int))=q+(S:Int):=aP (by omega) (by omega);have ew2:IntKind.i64.wrap (was+1)=was+1:=aP (by omega) (by omega);have hss:(j+1) * S=j * S+S:=Nat.succ_mul j S
    repeat' first|refine gq ?_|simp only [ac,hlt,hev,hS,d2,ew1,ew2]|decide|refine sp ?_ ?_<;>intro _
    exact rI wC ⟨j+1,was+1,q+(S:Int),by omega,by omega,by rw [hss];omega,rfl⟩
   .have d2:decide (was<e.times)=false:=(by simpa using hlw);obtain rfl:j=J:=by omega
    have hev2:Cs m c k=((j * S:Nat):Int):=by rw [hE];simp
    repeat' first|refine gq ?_|simp only [ac,hlt,hev,d2]|decide|refine sp ?_ ?_<;>intro _
    exact rI wC ⟨k+1,q,by omega,by rw [fb,hev2,<- hn,hq],by omega,by omega,rfl⟩
 .obtain rfl:k=m.events.length:=by omega
  repeat' first|refine gf @hlt ?_|decide|refine sp ?_ ?_<;>intro _
  exact hn
end
section
theorem Br (m:aF) (c:List Int) (he:m.events.length<=10) (hm:∀ e ∈ m.events,e.times<=10 /\ e.sets.length<=10) (hc:c.length<=1000000):ap Tryz.prog 66 [.agg (am m),sI c] (val (.int .i64 (fb m c m.events.length))):=
 yr m c he (fun e h=>⟨by have:=(hm e h).1;omega,(hm e h).2⟩) hc
end
end
end Go.Proofs.YtiaiihjmmfakdaaGreat
