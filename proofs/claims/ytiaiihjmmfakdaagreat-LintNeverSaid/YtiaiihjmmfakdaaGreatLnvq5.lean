/-
  Parts of the proof: Lnvp7, Lnvp8, Lnvp9, Lnvp10, Lnvp11, Lnvp12, Lnvp13.
-/
import Derived.Test.YtiaiihjmmfakdaaGreatLnvq4
set_option linter.unusedVariables false
set_option linter.unusedSimpArgs false
set_option linter.defProp false
set_option maxRecDepth 100000
set_option maxHeartbeats 16000000
namespace Go.Proofs.YtiaiihjmmfakdaaGreat
open Go.RowKit
section
section
theorem CZ:(0:Int)<((4:Nat):Int):=by decide
theorem Dx:(1:Int)<((4:Nat):Int):=by decide
theorem De:(2:Int)<((4:Nat):Int):=by decide
theorem CN:(3:Int)<((4:Nat):Int):=by decide
def hU (m:aF) (x:az):Bool:=
 if (decide (3<=x.op) && decide (x.op<=8))=true then decide (-1<=x.la) && decide (x.la<(m.attrs.length:Int)) && decide (-1<=x.ra) && decide (x.ra<(m.attrs.length:Int))
 else if (decide (x.op<9) || decide (12<x.op))=true then true
 else decide (0<=x.n) && decide (x.n<(if x.op=9 then (m.stages.length:Int) else if x.op=10 then (m.miles.length:Int) else (m.events.length:Int))) && (x.op != 12 || (decide (0<=x.u) && decide (x.u<(m.users.length:Int))))
theorem Bp (m:aF) (x:az):ap Tryz.prog 73 [.agg (am m),.agg (cV x)] (val (.bool (hU m x))):=by
 refine aa ae Tryz.func73 rfl (by decide) Tryz.ntmps73 Tryz.results73 rfl (aq _) ?_;obtain ⟨op,la,ln,ra,rn,n,u⟩:=x;by_cases h1:3<=op /\ op<=8
 .have e1:decide (3<=op)=true:=by simp;omega
  have e2:decide (op<=8)=true:=by simp;omega
  have eR:hU m ⟨op,la,ln,ra,rn,n,u⟩=(decide (-1<=la) && decide (la<(m.attrs.length:Int)) && decide (-1<=ra) && decide (ra<(m.attrs.length:Int))):=by simp [hU,h1]
  rw [eR]
  repeat' first|refine ge (kf e1 e2) ?_|decide|refine sp ?_ ?_<;>intro _
  all_goals (rename_i h;simp at h;first|(simp_all;done)|(simp_all;omega))
 .by_cases h2:op<9 \/ 12<op
  .have eR:hU m ⟨op,la,ln,ra,rn,n,u⟩=true:=by
    rcases h2 with h2|h2<;>simp [hU,h2]<;>omega
   rw [eR]
   repeat' first|refine go ?_|decide|refine sp ?_ ?_<;>intro _
   all_goals first|rfl|(exfalso;simp at *;omega)
  .have h3:op=9 \/ op=10 \/ op=11 \/ op=12:=(by omega);rcases h3 with rfl|rfl|rfl|rfl
   .have e1:decide ((3:Int)<=9)=true:=(by decide);have e2:decide ((9:Int)<=8)=false:=(by decide);have e3:decide ((9:Int)<9)=false:=(by decide);have e4:decide ((12:Int)<9)=false:=(by decide);have e5:((9:Int) != 12)=true:=(by decide);have ew:IntKind.i64.wrap ((9:Int) - 9)=0:=(by decide)
    repeat' first|refine ge (kf e1 (kf e2 (kf e3 (kf e4 (kf e5 ew))))) ?_|decide|refine sp ?_ ?_<;>intro _
    refine ⟨rfl,ao (by kernel_rfl) ?_⟩
    repeat' first|refine go ?_|simp only [e1,e2,e3,e4,e5,ew,CZ,Dx,De,CN,Int.reduceLE,Int.reduceLT,KJ,Int.toNat_one,Int.reduceToNat,Kp,Kh,Ju]|decide|refine sp ?_ ?_<;>intro _
    all_goals first|(simp_all [hU];done)|(simp_all [hU];omega)
   .have e1:decide ((3:Int)<=10)=true:=(by decide);have e2:decide ((10:Int)<=8)=false:=(by decide);have e3:decide ((10:Int)<9)=false:=(by decide);have e4:decide ((12:Int)<10)=false:=(by decide);have e5:((10:Int) != 12)=true:=(by decide);have ew:IntKind.i64.wrap ((10:Int) - 9)=1:=(by decide)
    repeat' first|refine ge (kf e1 (kf e2 (kf e3 (kf e4 (kf e5 ew))))) ?_|decide|refine sp ?_ ?_<;>intro _
    refine ⟨rfl,ao (by kernel_rfl) ?_⟩
    repeat' first|refine go ?_|simp only [e1,e2,e3,e4,e5,ew,CZ,Dx,De,CN,Int.reduceLE,Int.reduceLT,KJ,Int.toNat_one,Int.reduceToNat,Kp,Kh,Ju]|decide|refine sp ?_ ?_<;>intro _
    all_goals first|(simp_all [hU];done)|(simp_all [hU];omega)
   .have e1:decide ((3:Int)<=11)=true:=(by decide);have e2:decide ((11:Int)<=8)=false:=(by decide);have e3:decide ((11:Int)<9)=false:=(by decide);have e4:decide ((12:Int)<11)=false:=(by decide);have e5:((11:Int) != 12)=true:=(by decide);have ew:IntKind.i64.wrap ((11:Int) - 9)=2:=(by decide)
    repeat' first|refine ge (kf e1 (kf e2 (kf e3 (kf e4 (kf e5 ew))))) ?_|decide|refine sp ?_ ?_<;>intro _
    refine ⟨rfl,ao (by kernel_rfl) ?_⟩
    repeat' first|refine go ?_|simp only [e1,e2,e3,e4,e5,ew,CZ,Dx,De,CN,Int.reduceLE,Int.reduceLT,KJ,Int.toNat_one,Int.reduceToNat,Kp,Kh,Ju]|decide|refine sp ?_ ?_<;>intro _
    all_goals first|(simp_all [hU];done)|(simp_all [hU];omega)
   .have e1:decide ((3:Int)<=12)=true:=(by decide);have e2:decide ((12:Int)<=8)=false:=(by decide);have e3:decide ((12:Int)<9)=false:=(by decide);have e4:decide ((12:Int)<12)=false:=(by decide);have e5:((12:Int) != 12)=false:=(by decide);have ew:IntKind.i64.wrap ((12:Int) - 9)=3:=(by decide)
    repeat' first|refine ge (kf e1 (kf e2 (kf e3 (kf e4 (kf e5 ew))))) ?_|decide|refine sp ?_ ?_<;>intro _
    refine ⟨rfl,ao (by kernel_rfl) ?_⟩
    repeat' first|refine go ?_|simp only [e1,e2,e3,e4,e5,ew,CZ,Dx,De,CN,Int.reduceLE,Int.reduceLT,KJ,Int.toNat_one,Int.reduceToNat,Kp,Kh,Ju]|decide|refine sp ?_ ?_<;>intro _
    all_goals first|(simp_all [hU];done)|(simp_all [hU];omega)
end
section
theorem kG (m:aF) (hl:m.stages.length<=1000000):ap Tryz.prog 14 [.agg (am m)] (cu 3 1 ((pars m).map fun n=>[eI n])):=by
 refine aa ae Tryz.func14 rfl (by decide) Tryz.ntmps14 Tryz.results14 rfl (cK _ _ _) ?_
 repeat' first|refine go ?_|decide|refine sp ?_ ?_<;>intro _
 refine af (fun st=>∃ k:Nat,k<=m.stages.length /\ st=⟨22,[(1,.op 0 0 0),(3,.osl 1),(4,eI (k:Int))],[(0,some (.box 32 (am m))),(1,some (.row 3 1 ((m.stages.take k).map fun p=>[eI p.2])))],2⟩) (fun st=>m.stages.length - aw st 4) ⟨_,((aW 3 3 1 (by simp only [f9,ai.get,a7,ai.put,↓reduceIte,reduceCtorEq,Nat.reduceLT,Nat.reduceEqDiff,Nat.reduceAdd,Nat.reduceLeDiff,eq_self,implies_true,I5,Jo])).trans (wS [0,1] @I5)),0,IY _,rfl⟩ ?_;rintro _ ⟨k,hk,rfl⟩;by_cases hlt:k<m.stages.length
 .have et:(m.stages.take (k+1)).map (fun p=>[eI p.2])=(m.stages.take k).map (fun p=>[eI p.2]) ++ [[eI m.stages[k].2]]:=df _ _ hlt
  repeat' first|refine go ?_|simp only [ac,hlt]|decide|refine sp ?_ ?_<;>intro _
  refine ⟨rfl,by simp only [Jf];omega,rI (wS [0,3] et) ⟨k+1,by omega,rfl⟩⟩
 .obtain rfl:k=m.stages.length:=by omega
  repeat' first|refine go ?_|simp only [ac,hlt]|decide|refine sp ?_ ?_<;>intro _
  exact a5 (by simp [ag.gc,pars])
end
section
theorem tj (l:List Int) (hl:l.length<=1000000):bh Tryz.prog 25 [sI l] fun R=>(∃ o:List Int,R=cu 2 1 (o.map fun n=>[eI n]) /\ o.length<=l.length):=by
 refine ay ae Tryz.func25 rfl (by decide) Tryz.ntmps25 Tryz.results25 rfl ?_
 repeat' first|refine go ?_|decide|refine sp ?_ ?_<;>intro _
 refine af (fun st=>∃ (k:Nat) (o:List Int),k<=l.length /\ o.length<=k /\ st=⟨67,[(0,sI l),(3,.osl 0),(4,eI (k:Int))],[(0,some (.row 2 1 (o.map fun n=>[eI n])))],1⟩) (fun st=>l.length - aw st 4) ⟨_,((aW 3 2 1 (by simp only [f9,ai.get,a7,ai.put,↓reduceIte,reduceCtorEq,Nat.reduceLT,Nat.reduceEqDiff,Nat.reduceAdd,Nat.reduceLeDiff,eq_self,implies_true,Jo])).trans (wS [0] trivial)),0,[],IY _,I6 _,rfl⟩ ?_;rintro _ ⟨k,o,hk,ho,rfl⟩;by_cases hlt:k<l.length
 .repeat' first|refine go ?_|simp only [ac,hlt]|decide|refine sp ?_ ?_<;>intro _
  refine af (fun st=>∃ (q:Nat) (x:List Int) (b:Bool),q<=o.length /\ x.length<=q+(if b=true then 1 else 0) /\ st=⟨67,[(0,sI l),(3,.osl 0),(4,eI (k:Int)),(5,.osl 1),(6,eB b),(7,eI (q:Int))],[(0,some (.row 2 1 (o.map fun n=>[eI n]))),(1,some (.row 2 1 (x.map fun n=>[eI n])))],2⟩) (fun st=>o.length - aw st 7) ⟨_,((aW 5 2 1 (by simp only [f9,ai.get,a7,ai.put,↓reduceIte,reduceCtorEq,Nat.reduceLT,Nat.reduceEqDiff,Nat.reduceAdd,Nat.reduceLeDiff,eq_self,implies_true,Jo])).trans (wS [0,1] trivial)),0,[],false,IY _,by simp,rfl⟩ ?_;rintro _ ⟨q,x,b,hq,hx,rfl⟩;by_cases hlt2:q<o.length
  .have bnd:∀ n,x.length<=q+n -> n<=1 -> (x.length<=9223372036854775806 /\ (x.length+1) * 8<=140737488355328) /\ (x.length+1<=9223372036854775806 /\ (x.length+1+1) * 8<=140737488355328):=fun n h1 h2=>by omega
   cases b
   .have hx:x.length<=q:=by simpa using hx
    repeat' first|refine go ?_|simp only [ac,hlt,hlt2]|decide|refine sp ?_ ?_<;>intro _
    refine ao (by kernel_rfl) ?_
    repeat' first|refine go ?_|simp only [ac,hlt,hlt2]|decide|refine sp ?_ ?_<;>intro _
    .refine ⟨rfl,(bnd 0 hx (by omega)).1,ao (by kernel_rfl) ?_⟩
     repeat' first|refine go ?_|simp only [ac,hlt,hlt2]|decide|refine sp ?_ ?_<;>intro _
     .refine ⟨rfl,by simp only [I0,Jd,Jh,Kf];omega,rI (wS [0,5] @cU) ⟨q+1,x ++ [l[k]] ++ [o[q]],true,by omega,by simp;omega,rfl⟩⟩
     .exact rI (wS [0,3] @cU) ⟨q+1,x ++ [l[k]],true,by omega,by simp;omega,rfl⟩
    .refine ao (by kernel_rfl) ?_
     repeat' first|refine go ?_|simp only [ac,hlt,hlt2]|decide|refine sp ?_ ?_<;>intro _
     .refine ⟨rfl,(bnd 0 hx (by omega)).1,rI (wS [0,3] @cU) ⟨q+1,x ++ [o[q]],false,by omega,by simp;omega,rfl⟩⟩
     .exact rI (wS [0,1] @cU) ⟨q+1,x,false,by omega,by simp;omega,rfl⟩
   .have hx:x.length<=q+1:=by simpa using hx
    repeat' first|refine go ?_|simp only [ac,hlt,hlt2]|decide|refine sp ?_ ?_<;>intro _
    refine ao (by kernel_rfl) ?_
    repeat' first|refine go ?_|simp only [ac,hlt,hlt2]|decide|refine sp ?_ ?_<;>intro _
    refine ao (by kernel_rfl) ?_
    repeat' first|refine go ?_|simp only [ac,hlt,hlt2]|decide|refine sp ?_ ?_<;>intro _
    .refine ⟨rfl,(bnd 1 hx (by omega)).1,rI (wS [0,3] @cU) ⟨q+1,x ++ [o[q]],true,by omega,by simp;omega,rfl⟩⟩
    .exact rI (wS [0,1] @cU) ⟨q+1,x,true,by omega,by simp;omega,rfl⟩
  .repeat' first|refine go ?_|simp only [ac,hlt,hlt2]|decide|refine sp ?_ ?_<;>intro _
   .rename_i hb;have hb:b=false:=(by simpa using hb);have hx:x.length<=q:=(by simpa [hb] using hx);refine ⟨rfl,by omega,rI (wS [3] @cU) ⟨k+1,x ++ [l[k]],by omega,by simp;omega,rfl⟩⟩
   .rename_i hb;have hb:b=true:=(by simpa using hb);have hx:x.length<=q+1:=(by simpa [hb] using hx);exact rI (wS [1] @cU) ⟨k+1,x,by omega,by omega,rfl⟩
 .obtain rfl:k=l.length:=by omega
  repeat' first|refine go ?_|simp only [ac,hlt]|decide|refine sp ?_ ?_<;>intro _
  exact kE (by simp [ag.gc]) ⟨o,rfl,ho⟩
end
section
theorem lA (l:List az) (hl:l.length<=100000):bh Tryz.prog 24 [aV l] fun R=>(∃ o:List Int,R=cu 2 1 (o.map fun n=>[eI n]) /\ o.length<=2 * l.length):=by
 refine ay ae Tryz.func24 rfl (by decide) Tryz.ntmps24 Tryz.results24 rfl ?_
 repeat' first|refine go ?_|decide|refine sp ?_ ?_<;>intro _
 refine af (fun st=>∃ (k:Nat) (o:List Int),k<=l.length /\ o.length<=2 * k /\ st=⟨59,[(0,aV l),(3,.osl 0),(4,eI (k:Int))],[(0,some (.row 2 1 (o.map fun n=>[eI n])))],1⟩) (fun st=>l.length - aw st 4) ⟨_,((aW 3 2 1 (by simp only [f9,ai.get,a7,ai.put,↓reduceIte,reduceCtorEq,Nat.reduceLT,Nat.reduceEqDiff,Nat.reduceAdd,Nat.reduceLeDiff,eq_self,implies_true,Jo])).trans (wS [0] trivial)),0,[],IY _,I6 _,rfl⟩ ?_;rintro _ ⟨k,o,hk,ho,rfl⟩;by_cases hlt:k<l.length
 .repeat' first|refine go ?_|simp only [ac,hlt]|decide|refine sp ?_ ?_<;>intro _
  .exact rI (wR [0]) ⟨k+1,o,by omega,by omega,rfl⟩
  .exact rI (wR [0]) ⟨k+1,o,by omega,by omega,rfl⟩
  .refine ⟨rfl,by omega,?_⟩
   repeat' first|refine go ?_|simp only [ac,hlt]|decide|refine sp ?_ ?_<;>intro _
   .refine ⟨rfl,by simp only [I0,Jd,Jh,Kf];omega,rI (wS [4] @cU) ⟨k+1,o ++ [l[k].ln] ++ [l[k].rn],by omega,by simp;omega,rfl⟩⟩
   .exact rI (wS [2] @cU) ⟨k+1,o ++ [l[k].ln],by omega,by simp;omega,rfl⟩
  .refine ⟨rfl,by omega,rI (wS [2] @cU) ⟨k+1,o ++ [l[k].rn],by omega,by simp;omega,rfl⟩⟩
  .exact rI (wR [0]) ⟨k+1,o,by omega,by omega,rfl⟩
 .obtain rfl:k=l.length:=by omega
  repeat' first|refine go ?_|simp only [ac,hlt]|decide|refine sp ?_ ?_<;>intro _
  refine nU (tj o (by omega)) fun o' ho'=>?_
  repeat' first|refine go ?_|decide|refine sp ?_ ?_<;>intro _
  exact kE (by simp [ag.gc]) ⟨o',rfl,by omega⟩
end
section
theorem xY (m:aF) (l:List az) (hf:iC m) (hl:l.length<=100):bh Tryz.prog 9 [.agg (am m),aV l] fun R=>(∃ o:List Int,R=cu 2 1 (o.map fun n=>[eI n]) /\ o.length<=10000):=by
 refine ay ae Tryz.func9 rfl (by decide) Tryz.ntmps9 Tryz.results9 rfl ?_;obtain ⟨hg,hm,-⟩:=id hf.sizes
 repeat' first|refine go ?_|decide|refine sp ?_ ?_<;>intro _
 refine ⟨rfl,nU (lA l (by omega)) fun o0 ho0=>?_⟩
 repeat' first|refine go ?_|decide|refine sp ?_ ?_<;>intro _
 refine ⟨by omega,?_⟩;refine af (fun st=>∃ (k:Nat) (o:List Int),k<=m.guards.length /\ o.length<=200+200 * k /\ st=⟨46,[(2,.op 0 0 0),(5,.osl 1),(6,eI (k:Int))],[(0,some (.box 32 (am m))),(1,some (.row 2 1 (o.map fun n=>[eI n])))],2⟩) (fun st=>m.guards.length - aw st 6) ⟨_,(wR [0,3]),0,o0,IY _,by omega,rfl⟩ ?_;rintro _ ⟨k,o,hk,ho,rfl⟩;by_cases hlt:k<m.guards.length
 .have hc:=hf.guards _ (IZ hlt)
  repeat' first|refine go ?_|simp only [ac,hlt]|decide|refine sp ?_ ?_<;>intro _
  refine nU (lA m.guards[k].cond (by omega)) fun o1 ho1=>?_
  repeat' first|refine go ?_|simp only [ac,hlt]|decide|refine sp ?_ ?_<;>intro _
  refine ⟨by omega,rI (wS [0,3] @vG) ⟨k+1,o ++ o1,by omega,by simp;omega,rfl⟩⟩
 .obtain rfl:k=m.guards.length:=by omega
  repeat' first|refine go ?_|simp only [ac,hlt]|decide|refine sp ?_ ?_<;>intro _
  refine af (fun st=>∃ (k:Nat) (o:List Int),k<=m.miles.length /\ o.length<=4000+200 * k /\ st=⟨46,[(2,.op 0 0 0),(5,.osl 1),(7,eI (k:Int))],[(0,some (.box 32 (am m))),(1,some (.row 2 1 (o.map fun n=>[eI n])))],2⟩) (fun st=>m.miles.length - aw st 7) ⟨_,(wR [0,1]),0,o,IY _,by omega,rfl⟩ ?_;rintro _ ⟨k,o,hk,ho,rfl⟩;by_cases hlt:k<m.miles.length
  .have hc:=hf.miles _ (IZ hlt)
   repeat' first|refine go ?_|simp only [ac,hlt]|decide|refine sp ?_ ?_<;>intro _
   refine nU (lA m.miles[k].cond (by omega)) fun o1 ho1=>?_
   repeat' first|refine go ?_|simp only [ac,hlt]|decide|refine sp ?_ ?_<;>intro _
   refine ⟨by omega,rI (wS [0,3] @vG) ⟨k+1,o ++ o1,by omega,by simp;omega,rfl⟩⟩
  .obtain rfl:k=m.miles.length:=by omega
   repeat' first|refine go ?_|simp only [ac,hlt]|decide|refine sp ?_ ?_<;>intro _
   refine nU (tj o (by omega)) fun o' ho'=>?_
   repeat' first|refine go ?_|decide|refine sp ?_ ?_<;>intro _
   exact kE (by simp [ag.gc]) ⟨o',rfl,by omega⟩
end
section
theorem D8 (m:aF) (hf:iC m):ap Tryz.prog 31 [.agg (am m)] (val (.int .i64 ((m.guards.length+m.miles.length:Nat):Int))):=by
 refine aa ae Tryz.func31 rfl (by decide) Tryz.ntmps31 Tryz.results31 rfl (aq _) ?_;obtain ⟨hg,hm,-⟩:=id hf.sizes
 repeat' first|refine go ?_|decide|refine sp ?_ ?_<;>intro _
 rw [aP (by omega) (by omega)];simp
theorem vE (a b:Nat):IntKind.i64.wrap ((a+b:Nat) - (a:Int))=(b:Int) \/ b > 9223372036854775807:=by
 rcases Jk 9223372036854775807 b with h|h
 .exact .inr h
 .left;rw [aP (by omega) (by omega)];omega
def bD (m:aF) (i:Nat):Bool × Int:=if i<m.guards.length then (false,(i:Int)) else (true,((i - m.guards.length:Nat):Int))
def be (m:aF) (i:Nat):Int:=if h:i<m.guards.length then m.guards[i].stage else (m.miles[i - m.guards.length]?.map (·.stage)).getD 0
def eQ (m:aF) (i:Nat):List az:=if h:i<m.guards.length then m.guards[i].cond else (m.miles[i - m.guards.length]?.map (·.cond)).getD []
theorem Ef (m:aF) (i:Nat) (hf:iC m) (hi:i<m.guards.length+m.miles.length):ap Tryz.prog 33 [.agg (am m),eI (i:Int)] ⟨.agg (dS (bD m i)),[],0⟩:=by
 refine aa ae Tryz.func33 rfl (by decide) Tryz.ntmps33 Tryz.results33 rfl (⟨fun id o h=>(by cases h),⟨trivial,trivial,trivial⟩⟩) ?_;obtain ⟨hg,hm,-⟩:=id hf.sizes;by_cases hlt:i<m.guards.length
 .have e:bD m i=(false,(i:Int)):=by simp [bD,hlt]
  rw [e]
  repeat' first|refine ge @hlt ?_|decide|refine sp ?_ ?_<;>intro _
  exact aB (by simp [AV.ren,AV.renL])
 .obtain ⟨j,rfl⟩:∃ j,i=m.guards.length+j:=⟨i - m.guards.length,by omega⟩;have e:bD m (m.guards.length+j)=(true,(j:Int)):=by simp [bD]
  have ew:IntKind.i64.wrap (((m.guards.length+j:Nat):Int) - (m.guards.length:Int))=(j:Int):=(vE _ _).resolve_right (by omega);rw [e]
  repeat' first|refine ge (kf @hlt ew) ?_|decide|refine sp ?_ ?_<;>intro _
  exact aB (by simp [AV.ren,AV.renL])
theorem g7 (m:aF) (i:Nat) (hf:iC m) (hi:i<m.guards.length+m.miles.length):ap Tryz.prog 77 [.agg (am m),eI (i:Int)] (val (.int .i64 (be m i))):=by
 refine aa ae Tryz.func77 rfl (by decide) Tryz.ntmps77 Tryz.results77 rfl (aq _) ?_;obtain ⟨hg,hm,-⟩:=id hf.sizes;by_cases hlt:i<m.guards.length
 .have e:be m i=m.guards[i].stage:=by simp [be,hlt]
  rw [e]
  repeat' first|refine go ?_|simp only [hlt,ac]|decide|refine sp ?_ ?_<;>intro _
 .obtain ⟨j,rfl⟩:∃ j,i=m.guards.length+j:=⟨i - m.guards.length,by omega⟩;have hj:j<m.miles.length:=by omega
  have e:be m (m.guards.length+j)=m.miles[j].stage:=by simp only [be];rw [dif_neg (by omega)];simp [hj]
  have ew:IntKind.i64.wrap (((m.guards.length+j:Nat):Int) - (m.guards.length:Int))=(j:Int):=(vE _ _).resolve_right (by omega);rw [e]
  repeat' first|refine go ?_|simp only [hlt,ew,hj,ac]|decide|refine sp ?_ ?_<;>intro _
theorem Hl (m:aF) (i:Nat) (hf:iC m) (hi:i<m.guards.length+m.miles.length):ap Tryz.prog 75 [.agg (am m),eI (i:Int)] ⟨aV (eQ m i),[],0⟩:=by
 refine aa ae Tryz.func75 rfl (by decide) Tryz.ntmps75 Tryz.results75 rfl (⟨fun id o h=>(by cases h),trivial⟩) ?_;obtain ⟨hg,hm,-⟩:=id hf.sizes;by_cases hlt:i<m.guards.length
 .have e:eQ m i=m.guards[i].cond:=by simp [eQ,hlt]
  rw [e]
  repeat' first|refine go ?_|simp only [hlt,ac]|decide|refine sp ?_ ?_<;>intro _
  exact aB (by simp [AV.ren,AV.renL])
 .obtain ⟨j,rfl⟩:∃ j,i=m.guards.length+j:=⟨i - m.guards.length,by omega⟩;have hj:j<m.miles.length:=by omega
  have e:eQ m (m.guards.length+j)=m.miles[j].cond:=by simp only [eQ];rw [dif_neg (by omega)];simp [hj]
  have ew:IntKind.i64.wrap (((m.guards.length+j:Nat):Int) - (m.guards.length:Int))=(j:Int):=(vE _ _).resolve_right (by omega);rw [e]
  repeat' first|refine go ?_|simp only [hlt,ew,hj,ac]|decide|refine sp ?_ ?_<;>intro _
  exact aB (by simp [AV.ren,AV.renL])
theorem vF (m:aF) (hf:iC m) (i:Nat):(eQ m i).length<=80:=by
 unfold eQ;split
 .exact hf.guards _ (IZ _)
 .rcases Jk (i - m.guards.length) m.miles.length with h | h
  .simp [IU h];exact hf.miles _ (IZ _)
  .simp [Jq h]
end
section
def kT (st:ai) (id:Nat):Nat:=match st.tab.get id with | some (.row _ _ rows)=>rows.length | _=>0
end
section
structure ID (m:aF):Prop where
 attrs:m.attrs.length<=5
 inits:m.inits.length=m.attrs.length
 users:m.users.length<=4
 roles:m.roles.length<=4
 stages:m.stages.length<=8
 events:m.events.length<=6
 guards:m.guards.length<=12
 miles:m.miles.length<=8
 sods:m.sods.length<=6
 circle:bX (pars m)<0
end
section
theorem vt {l:List Int} (hn:∀ k:Nat,k<l.length -> ¬ f4 l (k:Int)) {i p x:Int} (hi:bw l i) (hp:bw l p) (hpar:cM l i=p) (h0:0<=x) (hx:x ∈ a8 l p):x ∈ a8 l i:=by
 obtain ⟨m,q,h,hs⟩:=gZ l i;have hc:=ip hn hi h hs;obtain ⟨j,h1,h2,h3⟩:=fg hx
 have e:∀ j,cZ l i (j+1)=cZ l p j:=by
  intro j
  induction j with
  | zero=>
   rw [jd,hpar];rcases cR l p with h|h
   .exact h.2.symm
   .exact absurd hp h.1
  | succ j ih=>
   show cM l (cZ l i (j+1))=cM l (cZ l p j);rw [ih]
 rcases qG h hs (.inl (by rw [hc];have:=hi.1;omega)) j with h4|h4
 .rw [e,h3] at h4;omega
 .rw [e,h3] at h4;exact h4
theorem FI {l:List Int} {i p:Int} (hi:bw l i) (hp:bw l p) (hpar:cM l i=p) (hne:p ≠ i) (hn:∀ k:Nat,k<l.length -> ¬ f4 l (k:Int)):p ∈ a8 l i:=by
 obtain ⟨m,q,h,hs⟩:=gZ l i;have hc:=ip hn hi h hs;rcases qG h hs (.inl (by rw [hc];have:=hi.1;omega)) 0 with h4|h4
 .rw [jd,hpar] at h4;have:=hp.1;omega
 .rw [jd,hpar] at h4;exact h4
theorem jj:∀ (l:List Int) (o j:Int),aR (l.foldl br o) j=true ↔ aR o j=true /\ j ∉ l
 | [],o,j=>by simp
 | i :: l,o,j=>by
  rw [List.foldl_cons,jj l,db];simp only [I2,Bool.not_eq_true',Jz,ne_eq,JO,not_or];exact ⟨fun ⟨⟨h1,h2⟩,h3⟩=>⟨h2,h1,h3⟩,fun ⟨h1,h2,h3⟩=>⟨⟨h2,h1⟩,h3⟩⟩
theorem lx (l:List Ml) (st d:Int) (i:Nat):∀ k,aR (jE l st d k) (i:Int)=true -> aR d (i:Int)=true /\ (i<k -> l[i]?.map (·.stage) ≠ some st)
 | 0,h=>⟨h,fun h=>by omega⟩
 | k+1,h=>by
  unfold jE at h;split at h
  .rename_i hk;rw [db] at h;simp only [I2,Bool.not_eq_true',Jz,ne_eq] at h;obtain ⟨h1,h2⟩:=lx l st d i k h.2;exact ⟨h1,fun hik=>h2 (by omega)⟩
  .rename_i hk;obtain ⟨h1,h2⟩:=lx l st d i k h;refine ⟨h1,fun hik=>?_⟩;rcases Jk i k with h3|h3
   .exact h2 h3
   .obtain rfl:i=k:=by omega
    exact hk
def zA (o:Int):Prop:=0<=o /\ o<2147483648
theorem z9 (s:Int):zA (ii s:Int):=by
 have:=cC s;unfold zA;omega
theorem A7 (s i:Int):zA (ba s i):=by
 unfold ba;split
 .rename_i h;have h1:ii s ||| 2 ^ i.toNat<2 ^ 31:=KE (cC s) (J8 (by omega) (by omega));unfold zA;omega
 .exact z9 s
theorem md (s i:Int):zA (br s i):=by
 unfold br;split
 .rename_i h;have h1:ii s ^^^ (ii s &&& 2 ^ i.toNat)<2 ^ 31:=Nat.xor_lt_two_pow (cC s) (Nat.and_lt_two_pow _ (J8 (by omega) (by omega)));unfold zA;omega
 .exact z9 s
theorem wD:∀ (l:List Int) (o:Int),zA o -> zA (l.foldl br o)
 | [],o,h=>h
 | i :: l,o,_=>wD l _ (md o i)
theorem vV (l:List Ml) (st d:Int) (h:zA d):∀ k,zA (jE l st d k)
 | 0=>h
 | k+1=>by
  unfold jE;split
  .exact md _ _
  .exact vV l st d h k
def ye (m:aF) (o:Int):Prop:=∀ i (h:i<m.stages.length),0<=m.stages[i].2 -> m.stages[i].2<(m.stages.length:Int) -> aR o (i:Int)=true -> aR o m.stages[i].2=true
theorem yZ {m:aF} {i:Nat} (hi:i<m.stages.length) (h1:0<=m.stages[i].2) (h2:m.stages[i].2<(m.stages.length:Int)):cM (pars m) (i:Int)=m.stages[i].2 /\ bw (pars m) m.stages[i].2 /\ bw (pars m) (i:Int):=by
 have hl:(pars m).length=m.stages.length:=by simp [pars]
 have ha:bw (pars m) (i:Int):=⟨by omega,by rw [hl];omega⟩;have hb:bw (pars m) m.stages[i].2:=⟨h1,by rw [hl];exact h2⟩;refine ⟨?_,hb,ha⟩;unfold cM;rw [I8 ha];have e:(pars m).getD (i:Int).toNat 0=m.stages[i].2:=by simp [pars,hi]
 rw [e];unfold jJ;rw [I8 hb]
theorem uZ {m:aF} (hc:bX (pars m)<0) (s:St) (x:Bool × Int) (event:Int) (hs:ye m s.opn):ye m (b8 m event s x).opn:=by
 have hn:=rG _ hc;unfold b8;split
 .rename_i hf;unfold cw;unfold dC gS at hf
  cases hx:bm m x with
  | none=>simpa [hx] using hs
  | some q=>
   obtain ⟨st,ev,cond,mi⟩:=q;rw [hx] at hf;simp only [I2] at hf;obtain ⟨⟨hin,⟨-,hop⟩,hab⟩,-⟩:=hf
   have hst:bw (pars m) st:=by
    simp [rY] at hin;exact ⟨hin.1,by simpa [pars] using hin.2⟩
   simp only [hin,if_true];split
   .rename_i hm;intro i hi h1 h2 h3;simp only [jj,Ja,Jg,not_or] at h3 ⊢;obtain ⟨h3,h4,h5⟩:=h3;obtain ⟨e1,e2,e3⟩:=yZ hi h1 h2;refine ⟨hs i hi h1 h2 h3,fun h6=>h4 ?_,fun h6=>h4 ?_⟩
    .refine (k5 _ _ _ hst e3).1 ?_;exact vt hn e3 e2 e1 hst.1 ((k5 _ _ _ hst e2).2 h6)
    .refine (k5 _ _ _ hst e3).1 ?_;have:=FI e3 e2 e1 (by rw [h6];exact fun e=>h5 e.symm) hn
     rwa [h6] at this
   .rename_i hm;intro i hi h1 h2 h3;simp only at h3 ⊢;rw [er] at h3 ⊢;simp only [Kg,I2,Je,beq_iff_eq] at h3 ⊢;right;rcases h3 with ⟨_,h3⟩|h3
    .have hx1:x.1=false:=(by simpa using hm);rw [hx1] at hab;simp only [KT] at hab
     have e:(m.stages.getD st.toNat (⟨#[]⟩,0))=m.stages[i]:=by
      rw [<- h3];simp [hi]
     unfold vn at hab;rw [e] at hab;simp only [Kg,beq_iff_eq,I2] at hab;rcases hab with h|h
     .omega
     .exact h.2
    .exact hs i hi h1 h2 h3
 .exact hs
end
section
theorem iO (op:Int):aM op = -1 \/ aM op=0 \/ aM op=1 \/ aM op=2:=by
 unfold aM;split
 .exact .inr (.inl rfl)
 .split
  .exact .inr (.inr (.inl rfl))
  .split
   .exact .inr (.inr (.inr rfl))
   .exact .inl rfl
theorem jf {d:Nat} {op:Int} {d':Nat}:fa d op=some d' ↔ 0<=aM op /\ aM op<=d /\ (d':Int)=d+1 - aM op:=by
 unfold fa;rcases iO op with h|h|h|h<;>simp only [h]
 .simp
 .simp;omega
 .by_cases h1:1<=d
  .simp [h1];omega
  .simp [h1];omega
 .by_cases h1:2<=d
  .simp [h1];omega
  .simp [h1];omega
theorem Hk (a b:List Int):∀ d,bV (a ++ b) d=(bV a d).bind (bV b):=by
 induction a with
 | nil=>intro d;rfl
 | cons x a ih=>intro d;rw [JM,bV,bV];cases fa d x<;>simp [ih]
theorem qz (ops:List Int) {i:Nat} (h:i<ops.length):bV (ops.take (i+1)) 0=(bV (ops.take i) 0).bind fun d=>fa d ops[i]:=by
 rw [List.take_add_one,IU h,Hk]
 congr 1
 funext d
 simp [bV];cases fa d ops[i]<;>rfl
theorem rc {ops:List Int} {i d':Nat} (h:i<ops.length) (hr:bV (ops.take (i+1)) 0=some d'):∃ d,bV (ops.take i) 0=some d /\ 0<=aM ops[i] /\ aM ops[i]<=d /\ (d':Int)=d+1 - aM ops[i]:=by
 rw [qz ops h] at hr
 cases hd:bV (ops.take i) 0 with
 | none=>simp [hd] at hr
 | some d=>
  simp [hd] at hr;exact ⟨d,rfl,jf.1 hr⟩
def gF (ops:List Int):Nat -> Int -> Int
 | 0,_=>-1
 | i+1,want=>if aM (ops.getD i 0)<0 then -1 else if want+(aM (ops.getD i 0) - 1)=0 then (i:Int) else gF ops i (want+(aM (ops.getD i 0) - 1))
theorem qm {ops:List Int} {i:Nat} (h:i<ops.length):ops.getD i 0=ops[i]:=by simp [h]
theorem wj {ops:List Int} {d e:Nat} (hd:1<=d):∀ (i:Nat) (want:Int) (di:Nat),i<=ops.length -> bV (ops.take i) 0=some di -> (di:Int)=d - 1+want -> 1<=want -> (∀ j,i<=j -> j<=e -> ∃ dj,bV (ops.take j) 0=some dj /\ d<=dj) ->
  ∃ b:Nat,b<i /\ gF ops i want=b /\ bV (ops.take b) 0=some (d - 1) /\ ∀ j,b<j -> j<=e -> ∃ dj,bV (ops.take j) 0=some dj /\ d<=dj
 | 0,want,di,_,hr,hdi,hw,_=>by
  simp [bV] at hr;omega
 | i+1,want,di,hi,hr,hdi,hw,hj=>by
  obtain ⟨d0,h0,h1,h2,h3⟩:=rc (by omega) hr;rw [gF,qm (by omega:i<ops.length),I4 (by omega)];by_cases hz:want+(aM ops[i] - 1)=0
  .rw [I8 hz];refine ⟨i,by omega,rfl,by rw [h0];congr 1;omega,fun j h4 h5=>hj j (by omega) h5⟩
  .rw [I4 hz]
   obtain ⟨b,h4,h5,h6,h7⟩:=wj (e:=e) hd i (want+(aM ops[i] - 1)) d0 (by omega) h0 (by omega) (by omega) fun j h4 h5=>by
    rcases Jk i j with h6|h6
    .exact hj j (by omega) h5
    .obtain rfl:i=j:=by omega
     exact ⟨d0,h0,by omega⟩
   exact ⟨b,by omega,h5,h6,h7⟩
theorem BG {ops:List Int} {i d:Nat} (h:i<ops.length) (hr:bV (ops.take (i+1)) 0=some d):1<=d:=by
 obtain ⟨d0,_,h1,h2,h3⟩:=rc h hr;omega
theorem zf {ops:List Int} {e d:Nat} (he:e<ops.length) (hr:bV (ops.take (e+1)) 0=some d) :
  ∃ b:Nat,b<=e /\ gF ops (e+1) 1=b /\ bV (ops.take b) 0=some (d - 1) /\ ∀ j,b<j -> j<=e+1 -> ∃ dj,bV (ops.take j) 0=some dj /\ d<=dj:=by
 have hd:=BG he hr
 obtain ⟨b,h1,h2⟩:=wj (e:=e+1) hd (e+1) 1 d (by omega) hr (by omega) (by omega) fun j h1 h2=>by
  obtain rfl:j=e+1:=by omega
  exact ⟨d,hr,I6 _⟩
 exact ⟨b,by omega,h2⟩
theorem sV (ops:List Int):∀ (i:Nat) (want:Int),i<=ops.length -> 1<=want -> gF ops i want=0 -> bV (ops.take i) 0=some want.toNat
 | 0,want,_,_,h=>by simp [gF] at h
 | i+1,want,hi,hw,h=>by
  have hlt:i<ops.length:=by omega
  rw [gF,qm hlt] at h;split at h
  .omega
  .rename_i h1;rw [qz ops hlt];split at h
   .rename_i h2;obtain rfl:i=0:=by omega
    have h3:aM ops[0]=0 /\ want=1:=by
     rcases iO ops[0] with h|h|h|h<;>omega
    rw [h3.2];simp only [I5,bV,KH];rw [jf];omega
   .rename_i h2;rw [sV ops i _ (by omega) (by omega) h,KH,jf];omega
theorem AF {ops:List Int} (h0:0<ops.length):gF ops ops.length 1=0 ↔ bV ops 0=some 1:=by
 constructor
 .intro h;have:=sV ops ops.length 1 (I6 _) (by omega) h
  rwa [I9] at this
 .intro h;have e1:ops.length - 1+1=ops.length:=by omega
  obtain ⟨b,h1,h2,h3,h4⟩:=zf (ops:=ops) (e:=ops.length - 1) (d:=1) (by omega) (by rw [e1,I9];exact h);rw [e1] at h2;rw [h2]
  cases b with
  | zero=>rfl
  | succ b=>
   have:=BG (by omega) h3;omega
section
variable {cm:az -> Option Int} {o d:Int}
theorem G3 (a b:List az):∀ r,dL cm o d (a ++ b) r=(dL cm o d a r).bind (dL cm o d b):=by
 induction a with
 | nil=>intro r;rfl
 | cons x a ih=>intro r;rw [JM,dL,dL];cases iy cm o d x r<;>simp [ih]
theorem vP (l:List az) {i:Nat} (h:i<l.length):dL cm o d (l.take (i+1)) []=(dL cm o d (l.take i) []).bind (iy cm o d l[i]):=by
 rw [List.take_add_one,IU h,G3]
 congr 1
 funext r
 simp [dL];cases iy cm o d l[i] r<;>rfl
theorem n5 {x:az} {r r':List Bool} (h:iy cm o d x r=some r'):∃ k:Nat,aM x.op=k /\ k<=r.length /\ ∃ v,r'=v :: r.drop k:=by
 unfold iy at h;split at h
 .rename_i h1;cases h;exact ⟨0,by unfold aM;rw [I8 (by omega)];rfl,by omega,_,rfl⟩
 .split at h
  .rename_i h1;split at h
   .cases h;exact ⟨0,by unfold aM;rw [I8 (by omega)];rfl,by omega,_,rfl⟩
   .cases h
  .split at h
   .rename_i h1;cases h;exact ⟨0,by unfold aM;rw [I8 (by omega)];rfl,by omega,_,rfl⟩
   .split at h
    .rename_i h1;cases h;exact ⟨0,by unfold aM;rw [I8 (by omega)];rfl,by omega,_,rfl⟩
    .split at h
     .rename_i h1;split at h
      .cases h;exact ⟨1,by unfold aM;rw [I4 (by omega),I8 (by omega)];rfl,by simp,_,rfl⟩
      .cases h
     .split at h
      .rename_i h1;split at h
       .cases h;exact ⟨2,by unfold aM;rw [I4 (by omega),I4 (by omega),I8 (by omega)];rfl,by simp,_,rfl⟩
       .cases h
      .cases h
theorem jg {l:List az} {i:Nat} {r':List Bool} (h:i<l.length) (hr:dL cm o d (l.take (i+1)) []=some r'):∃ r,dL cm o d (l.take i) []=some r /\ iy cm o d l[i] r=some r':=by
 rw [vP l h] at hr
 cases hd:dL cm o d (l.take i) [] with
 | none=>simp [hd] at hr
 | some r=>
  simp [hd] at hr;exact ⟨r,rfl,hr⟩
theorem ny {l:List az}:∀ {i:Nat} {r:List Bool},i<=l.length -> dL cm o d (l.take i) []=some r -> bV ((l.map az.op).take i) 0=some r.length
 | 0,r,_,h=>by
  simp [dL] at h;subst h;simp [bV]
 | i+1,r,hi,h=>by
  obtain ⟨r0,h1,h2⟩:=jg (by omega) h;have h3:=ny (by omega) h1;obtain ⟨k,h4,h5,v,rfl⟩:=n5 h2;rw [qz _ (by simp;omega),h3,KH,jf];simp [h4];omega
theorem zm {l:List az} {e:Nat} {v:Bool} {r:List Bool} (he:e<l.length) (h:dL cm o d (l.take (e+1)) []=some (v :: r)) :
  ∃ b:Nat,b<=e /\ gF (l.map az.op) (e+1) 1=b /\ dL cm o d (l.take b) []=some r:=by
 have hrow:=ny (by omega) h;obtain ⟨b,h1,h2,h3,h4⟩:=zf (by simpa using he) hrow;refine ⟨b,h1,h2,?_⟩
 have down:∀ k j,j+k=e+1 -> ∃ q,dL cm o d (l.take j) []=some q:=by
  intro k
  induction k with
  | zero=>
   intro j hj;obtain rfl:j=e+1:=by omega
   exact ⟨_,h⟩
  | succ k ih=>
   intro j hj;obtain ⟨q,hq⟩:=ih (j+1) (by omega);obtain ⟨q0,hq0,_⟩:=jg (by omega) hq;exact ⟨q0,hq0⟩
 obtain ⟨q,hq⟩:=down (e+1 - b) b (by omega);have hql:=ny (by omega) hq;rw [h3] at hql;have hql:r.length=q.length:=by simpa using hql
 have up:∀ k,b+k<=e+1 -> ∃ t,dL cm o d (l.take (b+k)) []=some (t ++ q):=by
  intro k
  induction k with
  | zero=>exact fun _=>⟨[],hq⟩
  | succ k ih=>
   intro hk;obtain ⟨t,ht⟩:=ih (by omega);obtain ⟨r1,hr1⟩:=down (e+1 - (b+k+1)) (b+k+1) (by omega);obtain ⟨r0,h5,h6⟩:=jg (by omega) hr1;rw [ht] at h5;cases h5;obtain ⟨c,h7,h8,v',rfl⟩:=n5 h6;obtain ⟨dj,h9,h10⟩:=h4 (b+k+1) (by omega) (by omega);have h11:=ny (by omega) hr1;rw [h9] at h11;have h11:dj=(t ++ q).length - c+1:=(by simpa using h11);rw [I0] at h11 h8;simp only [Jh] at h10;refine ⟨v' :: t.drop c,?_⟩;rw [show b+(k+1)=b+k+1 by omega,hr1,List.drop_append_of_le_length (by omega)];rfl
 obtain ⟨t,ht⟩:=up (e+1 - b) (by omega);rw [show b+(e+1 - b)=e+1 by omega,h] at ht;have ht:=Km ht
 have htl:t.length=1:=by
  have:=congrArg List.length ht;simp at this;omega
 obtain ⟨v',rfl⟩:∃ v',t=[v']:=by
  match t,htl with
  | [v'],_=>exact ⟨v',rfl⟩
 rw [hq];simp at ht;rw [ht.2]
end
def fJ (vals:List Int) (attrs:Bool) (x:az):Bool:=
 !(decide (18<x.op) || (decide (10<x.op) && decide (x.op<15)) || (attrs && decide (3<=x.op) && decide (x.op<=8) && (!(decide (-1<=x.la) && decide (x.la<vals.length)) || !(decide (-1<=x.ra) && decide (x.ra<vals.length)))))
theorem sP (vals:List Int) (a n:Int):(oP vals a n).isSome=(decide (-1<=a) && decide (a<vals.length)):=by
 unfold oP;by_cases h1:a = -1
 .subst h1;simp;omega
 .rw [I4 h1];by_cases h2:a<0
  .rw [I8 h2];simp;omega
  .rw [I4 h2];rw [KR];simp;omega
theorem sf (vals:List Int) (x:az):(vU vals x).isSome=((decide (-1<=x.la) && decide (x.la<vals.length)) && (decide (-1<=x.ra) && decide (x.ra<vals.length))):=by
 rw [<- sP vals x.la x.ln,<- sP vals x.ra x.rn];unfold vU;cases oP vals x.la x.ln<;>cases oP vals x.ra x.rn<;>rfl
theorem Db {s:St} {x:az} {r:List Bool} (h:fJ s.vals true x=true) (h0:0<=aM x.op) (h1:aM x.op<=r.length):∃ r',iy (vU s.vals) s.opn s.don x r=some r':=by
 have hc:=sf s.vals x;unfold fJ at h;simp only [Bool.not_eq_true',Bool.or_eq_false_iff,Jt,Ji,JU,Bool.not_eq_false'] at h;unfold iy;split
 .exact ⟨_,rfl⟩
 .split
  .rename_i h2 h3
   have:(vU s.vals x).isSome=true:=by
    rw [hc,I2];rcases h.2 with h4|h4
    .rcases h4 with h4 | h4<;>simp at h4<;>omega
    .exact h4
   obtain ⟨c,hc⟩:=J3.1 this;rw [hc];exact ⟨_,rfl⟩
  .split
   .exact ⟨_,rfl⟩
   .split
    .exact ⟨_,rfl⟩
    .split
     .rename_i h6;have:aM x.op=1:=by unfold aM;rw [I4 (by omega),I8 (by omega)]
      cases r with
      | nil=>simp at h1;omega
      | cons a r=>exact ⟨_,rfl⟩
     .split
      .rename_i h6;have:aM x.op=2:=by unfold aM;rw [I4 (by omega),I4 (by omega),I8 (by omega)]
       match r with
       | []=>simp at h1;omega
       | [a]=>simp at h1;omega
       | b :: a :: r=>exact ⟨_,rfl⟩
      .rename_i h2 h3 h4 h5 h6 h7;exfalso;have h8:=h.1;unfold aM at h0;split at h0
       .rename_i h9;rcases h8 with ⟨h10,h11⟩;rcases h11 with h11|h11<;>omega
       .split at h0
        .omega
        .split at h0<;>omega
theorem Bt {s:St} {l:List az} (hl:∀ x ∈ l,fJ s.vals true x=true):∀ (i:Nat) (d:Nat),i<=l.length -> bV ((l.map az.op).take i) 0=some d -> ∃ r,dL (vU s.vals) s.opn s.don (l.take i) []=some r /\ r.length=d
 | 0,d,_,h=>by
  simp [bV] at h;exact ⟨[],by simp [dL],h⟩
 | i+1,d,hi,h=>by
  have hlt:i<l.length:=by omega
  obtain ⟨d0,h0,h1,h2,h3⟩:=rc (by simpa using hlt) h;obtain ⟨r,h4,h5⟩:=Bt hl i d0 (by omega) h0;simp only [List.getElem_map] at h1 h2 h3;obtain ⟨r',h6⟩:=Db (s:=s) (r:=r) (hl l[i] (IZ hlt)) h1 (by omega);have h7:dL (vU s.vals) s.opn s.don (l.take (i+1)) []=some r':=by rw [vP l hlt,h4,KH,h6]
  have h8:=ny (by omega) h7;rw [h] at h8;exact ⟨r',h7,(Km h8).symm⟩
theorem uN {s:St} {l:List az} {r:List Bool} (h:dL (vU s.vals) s.opn s.don l []=some r):∀ x ∈ l,fJ s.vals true x=true:=by
 intro x hx;obtain ⟨i,hi,rfl⟩:=Jw hx
 have down:∀ k j,j+k=l.length -> ∃ q,dL (vU s.vals) s.opn s.don (l.take j) []=some q:=by
  intro k
  induction k with
  | zero=>
   intro j hj;obtain rfl:j=l.length:=by omega
   exact ⟨r,by rw [I9];exact h⟩
  | succ k ih=>
   intro j hj;obtain ⟨q,hq⟩:=ih (j+1) (by omega);obtain ⟨q0,hq0,_⟩:=jg (by omega) hq;exact ⟨q0,hq0⟩
 obtain ⟨q,hq⟩:=down (l.length - (i+1)) (i+1) (by omega);obtain ⟨q0,_,h2⟩:=jg hi hq;have hc:=sf s.vals l[i];unfold fJ;simp only [Bool.not_eq_true',Bool.or_eq_false_iff,Jt,Ji,JU,Bool.not_eq_false'];unfold iy at h2;split at h2
 .rename_i h3;exact ⟨⟨by omega,by omega⟩,.inl (by omega)⟩
 .split at h2
  .rename_i h3 h4;split at h2
   .rename_i c hcm;rw [hcm] at hc;simp only [KN] at hc;have hc:=hc.symm;rw [I2] at hc;exact ⟨⟨by omega,by omega⟩,.inr hc⟩
   .cases h2
  .split at h2
   .exact ⟨⟨by omega,by omega⟩,.inl (by omega)⟩
   .split at h2
    .exact ⟨⟨by omega,by omega⟩,.inl (by omega)⟩
    .split at h2
     .exact ⟨⟨by omega,by omega⟩,.inl (by omega)⟩
     .split at h2
      .exact ⟨⟨by omega,by omega⟩,.inl (by omega)⟩
      .cases h2
theorem rx {l:List az} {s:St} (h1:bi (l.map az.op)=0) (h2:∀ x ∈ l,fJ s.vals true x=true):∃ b,dL (vU s.vals) s.opn s.don l []=some [b] /\ gU l s=some b:=by
 have h3:bV (l.map az.op) 0=some 1:=by
  unfold bi at h1;split at h1
  .cases h1
  .split at h1
   .cases h1
   .split at h1
    .assumption
    .cases h1
 obtain ⟨r,h4,h5⟩:=Bt h2 l.length 1 (I6 _) (by rw [show l.length=(l.map az.op).length by simp,I9];exact h3);rw [I9] at h4
 match r,h5 with
 | [b],_=>
  refine ⟨b,h4,?_⟩;unfold gU u2;rw [I4 (by simp [h1]),h4]
theorem r6 {l:List az} {s:St} (h:¬ (bi (l.map az.op)=0 /\ ∀ x ∈ l,fJ s.vals true x=true)):gU l s=none:=by
 unfold gU u2;split
 .rfl
 .rename_i h1
  cases hr:dL (vU s.vals) s.opn s.don l [] with
  | none=>rfl
  | some r=>exact absurd ⟨by simpa using h1,uN hr⟩ h
end
end
section
section
theorem rd:((2:Int)=0)=False:=by simp
theorem cY (s i:Int) (hs:aA s):ap Tryz.prog 10 [eI s,eI i] (val (.bool (aR s i))):=by
 refine aa ae Tryz.func10 rfl (by decide) Tryz.ntmps10 Tryz.results10 rfl (aq _) ?_
 repeat' first|refine go ?_|decide|refine sp ?_ ?_<;>intro _
 .rename_i h;simp at h;simp [aR];omega
 .rename_i h1 h2;simp at h1 h2;simp [aR];omega
 .rename_i h1 h2;simp at h1 h2;obtain ⟨q,rfl⟩:∃ q:Nat,i=(q:Int):=⟨i.toNat,by omega⟩;have e0:s / 2 ^ 0=s:=by simp
  refine af (fun st=>∃ k:Nat,k<=q /\ st=⟨31,[(0,eI (s / 2 ^ k)),(1,eI (q:Int)),(5,eI (k:Int))],[],0⟩) (fun st=>q - aw st 5) ⟨_,(wE e0),0,IY _,rfl⟩ ?_;rintro _ ⟨k,hk,rfl⟩;have hp:(1:Int)<=2 ^ k:=Int.pow_pos (by omega)
  have hd0:-9223372036854775808<=s / 2 ^ k:=by
   refine Int.le_ediv_of_mul_le (by omega) ?_;have:=hs.1;generalize (2:Int) ^ k=p at *;omega
  have hd1:s / 2 ^ k<=9223372036854775807:=by
   by_cases h:s<0
   .have:=Int.ediv_neg_of_neg_of_pos h (by omega:(0:Int)<2 ^ k);omega
   .exact Int.le_trans (Int.ediv_le_self _ (by omega)) hs.2
  have ed:s / 2 ^ (k+1)=s / 2 ^ k / 2:=by
   rw [Int.pow_succ,Int.ediv_ediv_of_nonneg (Int.le_of_lt (Int.pow_pos (by omega)))]
  generalize hx:s / 2 ^ k=x at *;by_cases hxn:x % 2=1 /\ x<0
  .have et:x.tmod 2 = -1:=by
    have h3:x.tmod 2 = -((-x) % 2):=by
     rw [<- Ku (by omega),Int.neg_tmod];omega
    omega
   have en:decide ((-1:Int)<0)=true:=(by decide);have em:IntKind.i64.wrap (0 - (-1))=1:=(by decide);have ew:IntKind.i64.wrap (x - 1)=x - 1:=aP (by omega) (by omega)
   have eq:(x - 1).tdiv 2=x / 2:=by
    have h3:(2:Int) ∣ x - 1:=⟨x / 2,by omega⟩;rw [Int.tdiv_eq_ediv_of_dvd h3];omega
   by_cases hlt:k<q
   .repeat' first|refine ge (kf @hlt (kf @rd (kf et (kf en (kf em (kf ew eq)))))) ?_|decide|refine sp ?_ ?_<;>intro _
    have ew2:IntKind.i64.wrap (x / 2)=x / 2:=aP (by omega) (by omega);exact rI (wE (kf ed ew2)) ⟨k+1,by omega,rfl⟩
   .obtain rfl:k=q:=by omega
    repeat' first|refine ge (kf @hlt (kf @rd et)) ?_|decide|refine sp ?_ ?_<;>intro _
    have hk31:(k:Int)<31:=(by omega);simp [aR,hx,hk31,hxn.1]
  have et:x.tmod 2=x % 2:=by
   by_cases h:x<0
   .have h0:x % 2=0:=(by omega);rw [h0];exact Int.tmod_eq_zero_of_dvd ⟨x / 2,by omega⟩
   .exact Ku (by omega)
  have en:decide (x % 2<0)=false:=by simp;omega
  have ew:IntKind.i64.wrap (x - x % 2)=x - x % 2:=aP (by omega) (by omega)
  have eq:(x - x % 2).tdiv 2=x / 2:=by
   have h3:(2:Int) ∣ x - x % 2:=⟨x / 2,by omega⟩;rw [Int.tdiv_eq_ediv_of_dvd h3];omega
  by_cases hlt:k<q
  .repeat' first|refine ge (kf @hlt (kf @rd (kf et (kf en (kf ew eq))))) ?_|decide|refine sp ?_ ?_<;>intro _
   have ew2:IntKind.i64.wrap (x / 2)=x / 2:=aP (by omega) (by omega);exact rI (wE (kf ed ew2)) ⟨k+1,by omega,rfl⟩
  .obtain rfl:k=q:=by omega
   repeat' first|refine ge (kf @hlt (kf @rd et)) ?_|decide|refine sp ?_ ?_<;>intro _
   have hk31:(k:Int)<31:=(by omega);simp [aR,hx,hk31];rcases Int.emod_two_eq x with h|h<;>simp [h]
def ia (f:Nat -> Bool):Nat -> Nat
 | 0=>0
 | k+1=>ia f k+if f k=true then 2 ^ k else 0
theorem gw (f:Nat -> Bool):∀ k,ia f k<2 ^ k
 | 0=>by simp [ia]
 | k+1=>by
  have:=gw f k;unfold ia;rw [Nat.pow_succ];split<;>omega
theorem iP (f:Nat -> Bool):∀ k j,(ia f k).testBit j=(decide (j<k) && f j)
 | 0,j=>by simp [ia]
 | k+1,j=>by
  have hl:=gw f k;unfold ia;split
  .rename_i hf;rw [Nat.add_comm];rcases Ko j k with h|h|h
   .rw [Nat.testBit_two_pow_add_gt h,iP f k j];simp [h,show j<k+1 by omega]
   .subst h;rw [Nat.testBit_two_pow_add_eq,iP f j j];simp [hf]
   .rw [Kr,Eq.comm]
    .simp;omega
    .have:2 ^ (k+1)<=2 ^ j:=JP (by omega) h;rw [Nat.pow_succ] at this;omega
  .rename_i hf;rw [Nat.add_zero,iP f k j];rcases Ko j k with h|h|h
   .simp [h,show j<k+1 by omega]
   .subst h;simp [hf]
   .simp [show ¬ j<k by omega,show ¬ j<k+1 by omega]
theorem pm (f:Nat -> Bool) (j:Nat) (hj:j<31):aR (ia f 31:Nat) (j:Int)=f j:=by
 rw [ct _ j hj,m9 _ (gw f 31),iP];simp [hj]
theorem wo {a b:Int} (ha:0<=a /\ a<2147483648) (hb:0<=b /\ b<2147483648) (h:∀ j:Nat,j<31 -> aR a j=aR b j):a=b:=by
 have e1:((ii a:Nat):Int)=a:=by unfold ii;omega
 have e2:((ii b:Nat):Int)=b:=by unfold ii;omega
 rw [<- e1,<- e2]
 congr 1
 apply Nat.eq_of_testBit_eq;intro j;by_cases hj:j<31
 .rw [<- ct a j hj,<- ct b j hj];exact h j hj
 .rw [Kr (I1 (cC a) (JP (by omega) (by omega))),Kr (I1 (cC b) (JP (by omega) (by omega)))]
abbrev sB (l:List Bool):AV:=.sl 1 (l.map fun b=>[eB b])
def jY (l:List Bool) (k:Nat):Int:=(ia (fun i=>l.getD i false) k:Nat)
def ut (k:Nat):Int:=(2 ^ k:Nat)
theorem xd {k:Nat} (hk:k<=31):IntKind.i64.wrap (ut k * 2)=ut (k+1):=by
 have h2:2 ^ k<=2 ^ 31:=JP (by omega) hk;unfold ut;rw [Nat.pow_succ];generalize 2 ^ k=p at *;rw [aP (by omega) (by omega)];simp
theorem zv {l:List Bool} {k:Nat} (hk:k<=31) (h:l.getD k false=true):IntKind.i64.wrap (jY l k+ut k)=jY l (k+1):=by
 have h2:2 ^ k<=2 ^ 31:=JP (by omega) hk;have h1:=gw (fun i=>l.getD i false) k;unfold jY ut;rw [ia,I8 h];generalize ia (fun i=>l.getD i false) k=b at *;generalize 2 ^ k=p at *;rw [aP (by omega) (by omega)];simp
theorem Ea {l:List Bool} {k:Nat} (h:l.getD k false=false):jY l k=jY l (k+1):=by
 unfold jY;rw [ia,I4 (by rw [h];simp)];rfl
theorem A9 (l:List Bool) (hl:l.length<=31):ap Tryz.prog 123 [sB l] (val (.int .i64 (jY l l.length))):=by
 refine aa ae Tryz.func123 rfl (by decide) Tryz.ntmps123 Tryz.results123 rfl (aq _) ?_
 repeat' first|refine go ?_|decide|refine sp ?_ ?_<;>intro _
 have e0:jY l 0=0:=rfl;have e1:ut 0=1:=rfl;refine af (fun st=>∃ k:Nat,k<=l.length /\ st=⟨22,[(0,sB l),(3,eI (jY l k)),(4,eI (ut k)),(5,eI (k:Int))],[],0⟩) (fun st=>l.length - aw st 5) ⟨_,(wE (kf e0 e1)),0,IY _,rfl⟩ ?_;rintro _ ⟨k,hk,rfl⟩;by_cases hlt:k<l.length
 .have ep:=xd (k:=k) (by omega);have eg:l.getD k false=l[k]:=by simp [hlt]
  repeat' first|refine go ?_|simp only [ac,hlt]|decide|refine sp ?_ ?_<;>intro _
  .rename_i hb;have ew:=zv (l:=l) (k:=k) (by omega) (by rw [eg];exact hb);exact rI (wE (kf ew ep)) ⟨k+1,by omega,rfl⟩
  .rename_i hb;have ew:=Ea (l:=l) (k:=k) (by rw [eg];exact hb);rw [ew];exact rI (wE ep) ⟨k+1,by omega,rfl⟩
 .obtain rfl:k=l.length:=by omega
  repeat' first|refine go ?_|simp only [ac,hlt]|decide|refine sp ?_ ?_<;>intro _
def mm (s:Int):List Bool:=(List.range 31).map fun (i:Nat)=>aR s (i:Int)
theorem Av (s:Int) (hs:aA s):ap Tryz.prog 122 [eI s] (cu 4 1 ((mm s).map fun b=>[eB b])):=by
 refine aa ae Tryz.func122 rfl (by decide) Tryz.ntmps122 Tryz.results122 rfl (cK _ _ _) ?_
 repeat' first|refine go ?_|decide|refine sp ?_ ?_<;>intro _
 have hil:(mm s).length=31:=by simp [mm]
 refine af (fun st=>∃ k:Nat,k<=31 /\ st=⟨16,[(0,eI s),(3,.osl 0),(4,eI (k:Int))],[(0,some (.row 4 1 (((mm s).take k).map fun b=>[eB b])))],1⟩) (fun st=>31 - aw st 4) ⟨_,((aW 3 4 1 (by simp only [f9,ai.get,a7,ai.put,↓reduceIte,reduceCtorEq,Nat.reduceLT,Nat.reduceEqDiff,Nat.reduceAdd,Nat.reduceLeDiff,eq_self,implies_true,I5])).trans (wS [0] @I5)),0,IY _,rfl⟩ ?_;rintro _ ⟨k,hk,rfl⟩;by_cases hlt:k<31
 .have et:((mm s).take (k+1)).map (fun b=>[eB b])=((mm s).take k).map (fun b=>[eB b]) ++ [[eB (aR s (k:Int))]]:=by
   rw [df (fun b=>[eB b]) (mm s) (show k<(mm s).length by omega)];simp [mm]
  have hkl:((mm s).take k).length=k:=by rw [Jf];omega
  have e1:decide ((k:Int)<31)=true:=by simp;omega
  repeat' first|refine ge e1 ?_|decide|refine sp ?_ ?_<;>intro _
  refine ak (cY s k hs) ?_
  repeat' first|refine ge e1 ?_|decide|refine sp ?_ ?_<;>intro _
  refine ⟨rfl,by omega,rI (wS [2] et) ⟨k+1,by omega,rfl⟩⟩
 .obtain rfl:k=31:=by omega
  have e1:decide (((31:Nat):Int)<31)=false:=by decide
  repeat' first|refine ge e1 ?_|decide|refine sp ?_ ?_<;>intro _
  refine a5 ?_;simp [ag.gc,Jp (Nat.le_of_eq hil)]
theorem Dp (s:Int) (i:Int) (b:Bool) (h0:0<=i) (h1:i<31):jY ((mm s).set i.toNat b) 31=if b=true then ba s i else br s i:=by
 have hr:=gw (fun j=>((mm s).set i.toNat b).getD j false) 31
 have hw:(0:Int)<=(if b=true then ba s i else br s i) /\ (if b=true then ba s i else br s i)<2147483648:=by
  split
  .unfold ba;rw [I8 ⟨h0,h1⟩];have:ii s ||| 2 ^ i.toNat<2 ^ 31:=KE (cC s) (J8 (by omega) (by omega));omega
  .unfold br;rw [I8 ⟨h0,h1⟩];have:ii s ^^^ (ii s &&& 2 ^ i.toNat)<2 ^ 31:=Nat.xor_lt_two_pow (cC s) (Nat.lt_of_le_of_lt Nat.and_le_left (cC s));omega
 unfold jY;refine wo (by omega) hw fun j hj=>?_;rw [pm _ j hj];have hlen:(mm s).length=31:=by simp [mm]
 have hg:((mm s).set i.toNat b).getD j false=if i.toNat=j then b else aR s (j:Int):=by
  rw [JB,Kb];split
  .rename_i h;rw [hlen,I8 (by omega)];rfl
  .simp [mm,hj]
 rw [hg];have e1:(decide (0<=i /\ i<31))=true:=by simp [h0,h1]
 split
 .rename_i h;have h2:((j:Int) == i)=true:=by simp;omega
  cases b
  .simp [db,h2]
  .simp [er,e1,h2]
 .rename_i h;have h2:((j:Int) == i)=false:=by simp;omega
  cases b
  .simp [db,h2]
  .simp [er,h2]
theorem zB (s i:Int) (b:Bool) (hs:aA s) (h0:0<=i) (h1:i<31):ap Tryz.prog 104 [eI s,eI i,eB b] (val (.int .i64 (if b=true then ba s i else br s i))):=by
 refine aa ae Tryz.func104 rfl (by decide) Tryz.ntmps104 Tryz.results104 rfl (aq _) ?_;rw [<- Dp s i b h0 h1];have hlen:(mm s).length=31:=by simp [mm]
 obtain ⟨q,rfl⟩:∃ q:Nat,i=(q:Int):=⟨i.toNat,by omega⟩;have e1:decide ((q:Int)<=30)=true:=by simp;omega
 have hq:q<(mm s).length:=by omega
 have fO:∀ row ∈ (mm s).map (fun b=>[eB b]),∀ av ∈ row,av.plain:=fun row hr av ha=>by
  obtain ⟨n,_,rfl⟩:=I7.1 hr;simp at ha;subst ha;trivial
 have hset:(((mm s).map fun b=>[eB b]).set q [eB b])=((mm s).set q b).map fun b=>[eB b]:=by rw [List.map_set]
 repeat' first|refine ge e1 ?_|decide|refine sp ?_ ?_<;>intro _
 refine cQ (Av s hs) (.inr fO) ?_
 repeat' first|refine ge e1 ?_|decide|refine sp ?_ ?_<;>intro _
 have hs':=A9 ((mm s).set q b) (by simp;omega);rw [List.length_set,hlen] at hs';refine ⟨by omega,?_⟩
 repeat' first|refine go ?_|simp only [e1,ac,hq]|decide|refine sp ?_ ?_<;>intro _
 rw [hset];refine ak (by exact hs') ?_
 repeat' first|refine go ?_|decide|refine sp ?_ ?_<;>intro _
end
section
theorem kW (n:Int):ap Tryz.prog 127 [eI n] (val (.int .i64 (aM n))):=by
 refine aa ae Tryz.func127 rfl (by decide) Tryz.ntmps127 Tryz.results127 rfl (aq _) ?_
 repeat' first|refine go ?_|decide|refine sp ?_ ?_<;>intro _
 all_goals (simp [aM] at *;(repeat' split)<;>omega)
abbrev eX (n:Int):List AV:=[eI n,eS ByteArray.empty,eI 0,eS ByteArray.empty,eI 0,eS ByteArray.empty,eS ByteArray.empty,eI 0,eI 0]
abbrev lO (l:List Int):AV:=.sl 9 (l.map eX)
theorem Ch (ops:List Int):∀ (i:Nat) (w:Int),-1<=gF ops i w /\ gF ops i w<i \/ gF ops i w = -1
 | 0,w=>.inr rfl
 | i+1,w=>by
  unfold gF;split
  .exact .inr rfl
  .split
   .left;omega
   .rcases Ch ops i (w+(aM (ops.getD i 0) - 1)) with h | h
    .left;omega
    .exact .inr h
theorem B0 (l:List Int) (q:Nat) (hq:q<=l.length) (hl:l.length<=1000000):ap Tryz.prog 105 [lO l,eI ((q:Int) - 1)] (val (.int .i64 (gF l q 1))):=by
 refine aa ae Tryz.func105 rfl (by decide) Tryz.ntmps105 Tryz.results105 rfl (aq _) ?_
 repeat' first|refine go ?_|decide|refine sp ?_ ?_<;>intro _
 refine af (fun st=>∃ (k:Nat) (v:Int),k<=q /\ 1<=v /\ v<=1+2 * ((q:Int) - k) /\ gF l k v=gF l q 1 /\ st=⟨28,[(0,lO l),(5,eI v),(6,eI ((k:Int) - 1))],[],0⟩) (fun st=>(match st.get 6 with | .c (.int _ n)=>(n+1).toNat | _=>0)) ⟨_,wC,q,1,I6 _,by omega,by omega,rfl,rfl⟩ ?_;rintro _ ⟨k,v,hk,hv0,hv1,hb,rfl⟩
 cases k with
 | zero=>
  have e0:decide ((0:Int)<=((0:Nat):Int) - 1)=false:=by decide
  repeat' first|refine ge e0 ?_|decide|refine sp ?_ ?_<;>intro _
  rw [<- hb];rfl
 | succ j=>
  have ej:((j+1:Nat):Int) - 1=(j:Int):=by omega
  have hj:j<l.length:=by omega
  simp only [ej];rw [gF,qm hj] at hb
  repeat' first|refine go ?_|simp only [hj,ac]|decide|refine sp ?_ ?_<;>intro _
  refine ak (kW _) ?_;have ha:=iO l[j];generalize aM l[j]=n at ha hb ⊢;have ew1:IntKind.i64.wrap (n - 1)=n - 1:=aP (by omega) (by omega);have ew2:IntKind.i64.wrap (v+(n - 1))=v+(n - 1):=aP (by omega) (by omega)
  repeat' first|refine go ?_|simp only [hj,ac,ew1,ew2]|decide|refine sp ?_ ?_<;>intro _
  .rename_i h;have h:n<0:=(by simpa using h);rw [<- hb,I8 h]
  .rename_i h h2;have h:¬ n<0:=(by simpa using h);have h2:v+(n - 1)=0:=(by simpa using h2);rw [<- hb,I4 h,I8 h2]
  .rename_i h h2;have h:¬ n<0:=(by simpa using h);have h2:¬ v+(n - 1)=0:=(by simpa using h2);rw [I4 h,I4 h2] at hb;have ew:IntKind.i64.wrap ((j:Int) - 1)=(j:Int) - 1:=aP (by omega) (by omega);exact rI (wE ew) ⟨j,v+(n - 1),by omega,by omega,by omega,hb,rfl⟩
theorem oq (l:List Int) (hl:l.length<=1000000):ap Tryz.prog 72 [lO l] (val (.int .i64 (bi l))):=by
 refine aa ae Tryz.func72 rfl (by decide) Tryz.ntmps72 Tryz.results72 rfl (aq _) ?_;have ew:IntKind.i64.wrap ((l.length:Int) - 1)=(l.length:Int) - 1:=aP (by omega) (by omega)
 repeat' first|refine ge ew ?_|decide|refine sp ?_ ?_<;>intro _
 .rename_i h;have h:l.length=0:=by simpa using h
  simp [bi,h]
 .rename_i h h2;have h:¬ l.length=0:=by simpa using h
  have h2:64<l.length:=by simp at h2;omega
  simp only [bi,I4 h,I8 h2]
 .rename_i h h2;have h:¬ l.length=0:=by simpa using h
  have h2:¬ 64<l.length:=by simp at h2;omega
  refine ak (B0 l l.length (I6 _) hl) ?_;have hz:=AF (ops:=l) (by omega)
  repeat' first|refine go ?_|decide|refine sp ?_ ?_<;>intro _
  .rename_i h3
   have h3:¬ bV l 0=some 1:=by
    rw [<- hz];simpa using h3
   simp only [bi,I4 h,I4 h2,I4 h3]
  .rename_i h3
   have h3:bV l 0=some 1:=by
    rw [<- hz];simpa using h3
   simp only [bi,I4 h,I4 h2,I8 h3]
theorem r4 (l:List az) (hl:l.length<=1000000):ap Tryz.prog 141 [aV l] (cu 125 9 (((l.map az.op).take 70).map eX)):=by
 refine aa ae Tryz.func141 rfl (by decide) Tryz.ntmps141 Tryz.results141 rfl (cK _ _ _) ?_
 repeat' first|refine go ?_|decide|refine sp ?_ ?_<;>intro _
 refine af (fun st=>∃ k:Nat,k<=l.length /\ k<=70 /\ st=⟨25,[(0,aV l),(3,.osl 0),(4,eI (k:Int))],[(0,some (.row 125 9 (((l.map az.op).take k).map eX)))],1⟩) (fun st=>l.length - aw st 4) ⟨_,((aW 3 125 9 (by simp only [f9,ai.get,a7,ai.put,↓reduceIte,reduceCtorEq,Nat.reduceLT,Nat.reduceEqDiff,Nat.reduceAdd,Nat.reduceLeDiff,eq_self,implies_true,I5])).trans (wS [0] @I5)),0,IY _,by omega,rfl⟩ ?_;rintro _ ⟨k,hk,hk2,rfl⟩
 have hfin:¬ (k<l.length /\ k<70) -> ((l.map az.op).take k)=((l.map az.op).take 70):=fun h=>by
  by_cases h1:k=70
  .rw [h1]
  .rw [Jp (by simp;omega),Jp (by simp;omega)]
 by_cases hlt:k<l.length
 .by_cases h70:k<70
  .have e1:decide ((k:Int)<70)=true:=by simp;omega
   have et:((l.map az.op).take (k+1)).map eX=((l.map az.op).take k).map eX ++ [eX l[k].op]:=by
    rw [df eX (l.map az.op) (by simpa using hlt)];simp
   have hkl:((l.map az.op).take k).length=k:=by simp;omega
   repeat' first|refine go ?_|simp only [ac,hlt,e1]|decide|refine sp ?_ ?_<;>intro _
   refine ⟨rfl,by omega,rI (wS [2] et) ⟨k+1,by omega,by omega,rfl⟩⟩
  .have e1:decide ((k:Int)<70)=false:=by simp;omega
   repeat' first|refine go ?_|simp only [ac,hlt,e1]|decide|refine sp ?_ ?_<;>intro _
   rw [<- hfin (by omega)];exact a5 (by simp [ag.gc])
 .repeat' first|refine go ?_|simp only [ac,hlt]|decide|refine sp ?_ ?_<;>intro _
  rw [<- hfin (by omega)];exact a5 (by simp [ag.gc])
theorem my (l:List Int) (e:Nat) (he:e<l.length) (h:aM l[e]=0):ap Tryz.prog 169 [lO l,eI (e:Int)] (val (.slice none 0 0)):=by
 refine aa ae Tryz.func169 rfl (by decide) Tryz.ntmps169 Tryz.results169 rfl (aq _) ?_
 repeat' first|refine go ?_|simp only [ac,he]|decide|refine sp ?_ ?_<;>intro _
 refine ak (kW _) ?_;rw [h];have e0:((0:Int) == 0)=true:=by decide
 repeat' first|refine ge e0 ?_|decide|refine sp ?_ ?_<;>intro _
theorem DR (l:List Int) (e:Nat) (he:e<l.length) (h:aM l[e]=1) (hl:l.length<=1000000):ap Tryz.prog 169 [lO l,eI (e:Int)] (cu 3 1 [[eI ((e:Int) - 1)]]):=by
 refine aa ae Tryz.func169 rfl (by decide) Tryz.ntmps169 Tryz.results169 rfl (cK _ _ _) ?_;have ew:IntKind.i64.wrap ((e:Int) - 1)=(e:Int) - 1:=aP (by omega) (by omega)
 repeat' first|refine go ?_|simp only [ac,he]|decide|refine sp ?_ ?_<;>intro _
 refine ak (kW _) ?_;rw [h]
 repeat' first|refine ge ew ?_|decide|refine sp ?_ ?_<;>intro _
 all_goals first
  | (refine ⟨rfl,a5 (by simp [ag.gc])⟩;done)
  | (rename_i h;simp at h;done)
  | exact a5 (by simp [ag.gc])
theorem D1 (l:List Int) (e:Nat) (he:e<l.length) (h:aM l[e]=2) (hl:l.length<=1000000):ap Tryz.prog 169 [lO l,eI (e:Int)] (cu 3 1 [[eI (gF l e 1 - 1)],[eI ((e:Int) - 1)]]):=by
 refine aa ae Tryz.func169 rfl (by decide) Tryz.ntmps169 Tryz.results169 rfl (cK _ _ _) ?_;have ew:IntKind.i64.wrap ((e:Int) - 1)=(e:Int) - 1:=aP (by omega) (by omega)
 repeat' first|refine go ?_|simp only [ac,he]|decide|refine sp ?_ ?_<;>intro _
 refine ak (kW _) ?_;rw [h]
 repeat' first|refine ge ew ?_|decide|refine sp ?_ ?_<;>intro _
 all_goals first
  | (rename_i h;simp at h;done)
  | skip
 refine ak (B0 l e (by omega) hl) ?_
 have ew2:IntKind.i64.wrap (gF l e 1 - 1)=gF l e 1 - 1:=by
  rcases Ch l e 1 with h|h<;>exact aP (by omega) (by omega)
 repeat' first|refine ge (kf ew ew2) ?_|decide|refine sp ?_ ?_<;>intro _
 exact ⟨rfl,a5 (by simp [ag.gc])⟩
def nu (vals:List Int) (a:Int):Bool:=decide (-1<=a) && decide (a<(vals.length:Int))
theorem rS (s:St) (a n:Int):ap Tryz.prog 168 [.agg (cJ s),.agg [eI a,eI n]] (val (.bool (nu s.vals a))):=by
 refine aa ae Tryz.func168 rfl (by decide) Tryz.ntmps168 Tryz.results168 rfl (aq _) ?_;unfold nu
 repeat' first|refine go ?_|decide|refine sp ?_ ?_<;>intro _
 all_goals (rename_i h;rw [h];simp)
theorem Au (s:St) (a n v:Int) (h:oP s.vals a n=some v):ap Tryz.prog 171 [.agg (cJ s),.agg [eI a,eI n]] (val (.int .i64 v)):=by
 refine aa ae Tryz.func171 rfl (by decide) Tryz.ntmps171 Tryz.results171 rfl (aq _) ?_;unfold oP at h;by_cases h1:a = -1
 .rw [I8 h1] at h;cases h;subst h1;have e0:((-1:Int) == -1)=true:=by decide
  repeat' first|refine ge e0 ?_|decide|refine sp ?_ ?_<;>intro _
 .rw [I4 h1] at h;by_cases h2:a<0
  .rw [I8 h2] at h;cases h
  .rw [I4 h2] at h;obtain ⟨k,rfl⟩:∃ k:Nat,a=(k:Int):=⟨a.toNat,by omega⟩;obtain ⟨hk,rfl⟩:=IV.1 h;simp only [J4] at hk;have e1:((k:Int) == -1)=false:=by rw [Jz];omega
   repeat' first|refine go ?_|simp only [ac,hk,e1]|decide|refine sp ?_ ?_<;>intro _
theorem Gy (op a b:Int):ap Tryz.prog 170 [eI op,eI a,eI b] (val (.bool (IE op (DW a b)))):=by
  refine aa ae Tryz.func170 rfl (by decide) Tryz.ntmps170 Tryz.results170 rfl (aq _) ?_
  repeat' first|refine go ?_|decide|refine sp ?_ ?_<;>intro _
  all_goals
    (simp only [beq_iff_eq,Jz,ne_eq] at *
     simp_all [IE,DW]
     try ((repeat' split)<;>simp_all<;>omega))
end
end
section
section
theorem lW {l:List Int}:∀ row ∈ l.map eX,∀ av ∈ row,av.plain:=fun row hr av ha=>by
 obtain ⟨n,_,rfl⟩:=I7.1 hr;simp [eX] at ha;rcases ha with rfl|rfl|rfl|rfl|rfl|rfl|rfl|rfl|rfl<;>trivial
def mg (attrs:Bool) (op:Int):Bool:=attrs && decide (3<=op) && decide (op<=8)
theorem Cj (vals:List Int) (x:az) (attrs:Bool):fJ vals attrs x = !((decide (18<x.op) || (decide (10<x.op) && decide (x.op<15))) || (mg attrs x.op && (!nu vals x.la || !nu vals x.ra))):=by
 unfold fJ mg nu;simp only [Bool.and_assoc,Bool.or_assoc]
theorem pF (l:List az) (s:St) (attrs:Bool) (hl:l.length<=1000000) (b:Bool) (hb:b=true ↔ (bi (l.map az.op)=0 /\ ∀ x ∈ l,fJ s.vals attrs x=true)):ap Tryz.prog 139 [aV l,.agg (cJ s),eB attrs] (val (.bool b)):=by
 refine aa ae Tryz.func139 rfl (by decide) Tryz.ntmps139 Tryz.results139 rfl (aq _) ?_
 have h70:bi ((l.map az.op).take 70)=bi (l.map az.op):=by
  by_cases h:l.length<=70
  .rw [Jp (by simpa using h)]
  .have e7:((l.map az.op).take 70).length=70:=by rw [Jf,Jd];omega
   have e8:(l.map az.op).length=l.length:=Jd ..;unfold bi;rw [I4 (by omega),I8 (by omega),I4 (by omega),I8 (by omega)]
 repeat' first|refine go ?_|decide|refine sp ?_ ?_<;>intro _
 refine cQ (r4 l hl) (.inr lW) ?_
 repeat' first|refine go ?_|decide|refine sp ?_ ?_<;>intro _
 refine ak (oq _ (by simp;omega)) ?_;rw [h70]
 repeat' first|refine go ?_|decide|refine sp ?_ ?_<;>intro _
 .rename_i h;symm;rw [JK];intro h2;have h3:=(hb.1 h2).1;simp [h3] at h
 .rename_i h;have hc:bi (l.map az.op)=0:=by simpa using h
  refine af (fun st=>∃ k:Nat,k<=l.length /\ (∀ i (hi:i<l.length),i<k -> fJ s.vals attrs l[i]=true) /\ st=⟨65,[(0,aV l),(2,eB attrs),(4,.op 0 0 0),(7,eI (k:Int))],[(0,some (.box 47 (cJ s)))],1⟩) (fun st=>l.length - aw st 7) ⟨_,wC,0,IY _,fun i _ h=>by omega,rfl⟩ ?_;rintro _ ⟨k,hk,hI,rfl⟩;by_cases hlt:k<l.length
  .have hno:fJ s.vals attrs l[k]=false -> b=false:=fun h2=>by
    rw [JK];intro h3;rw [(hb.1 h3).2 _ (IZ hlt)] at h2;cases h2
   have hyes:fJ s.vals attrs l[k]=true -> ∀ i (hi:i<l.length),i<k+1 -> fJ s.vals attrs l[i]=true:=fun h2 i hi h3=>by
    rcases Jk i k with h4|h4
    .exact hI i hi h4
    .obtain rfl:i=k:=by omega
     exact h2
   rw [Cj] at hno hyes;generalize hx:l[k]=x at hno hyes;obtain ⟨op,la,ln,ra,rn,n,u⟩:=x;simp only at hno hyes;have ex:cV l[k]=[eI op,eI la,eI ln,eI ra,eI rn,eI n,eI u]:=(by rw [hx]);have eop:l[k].op=op:=(by rw [hx])
   repeat' first|refine go ?_|simp only [ac,hlt,ex,eop]|decide|refine sp ?_ ?_<;>intro _
   refine ao (by kernel_rfl) ?_
   repeat' first|refine go ?_|simp only [ac,hlt,ex,eop]|decide|refine sp ?_ ?_<;>intro _
   all_goals first
    | (symm;exact hno (by simp [mg, *]))
    | exact rI wC ⟨k+1,by omega,hyes (by simp [mg, *]),rfl⟩
    | skip
   all_goals
    refine aD (rS s la ln) ?_
    repeat' first|refine go ?_|simp only [ac,hlt,ex,eop]|decide|refine sp ?_ ?_<;>intro _
    all_goals first
     | (symm;exact hno (by simp [mg, *]))
     | exact rI wC ⟨k+1,by omega,hyes (by simp [mg, *]),rfl⟩
     | skip
   all_goals
    refine aD (rS s ra rn) ?_
    repeat' first|refine go ?_|simp only [ac,hlt,ex,eop]|decide|refine sp ?_ ?_<;>intro _
    all_goals first
     | (symm;exact hno (by simp [mg, *]))
     | exact rI wC ⟨k+1,by omega,hyes (by simp [mg, *]),rfl⟩
     | skip
  .obtain rfl:k=l.length:=by omega
   repeat' first|refine go ?_|simp only [ac,hlt]|decide|refine sp ?_ ?_<;>intro _
   symm;exact hb.2 ⟨hc,fun x hx=>by obtain ⟨i,hi,rfl⟩:=Jw hx;exact hI i hi hi⟩
theorem D9 {s:St} {x:az} {c:Int} (h:vU s.vals x=some c):∃ a b,oP s.vals x.la x.ln=some a /\ oP s.vals x.ra x.rn=some b /\ c=DW a b:=by
 unfold vU at h;split at h
 .rename_i a b ha hb;cases h;exact ⟨a,b,ha,hb,rfl⟩
 .cases h
theorem Ab (l:List az) (s:St) (hl:l.length<=70) (ho:aA s.opn) (hd:aA s.don):∀ (n e:Nat) (he:e<l.length) (v:Bool) (r:List Bool),e<n -> dL (vU s.vals) s.opn s.don (l.take (e+1)) []=some (v :: r) ->
  ap Tryz.prog 140 [aV l,lO (l.map az.op),eI (e:Int),.agg (cJ s)] (val (.bool v))
 | 0,e,he,v,r,hn,_=>by omega
 | n+1,e,he,v,r,hn,hr=>by
  refine aa ae Tryz.func140 rfl (by decide) Tryz.ntmps140 Tryz.results140 rfl (aq _) ?_;obtain ⟨r0,h1,h2⟩:=jg he hr;have hel:e<(l.map az.op).length:=by simpa using he
  have eo:(l.map az.op)[e]=l[e].op:=by simp
  have ih:=Ab l s hl ho hd n;have z1:(0:Int)<((1:Nat):Int):=by decide
  have z2:(0:Int)<((2:Nat):Int):=by decide
  have z3:(1:Int)<((2:Nat):Int):=by decide
  generalize hx:l[e]=x at h2 eo;obtain ⟨op,la,ln,ra,rn,xn,u⟩:=x;have ex:cV l[e]=[eI op,eI la,eI ln,eI ra,eI rn,eI xn,eI u]:=by rw [hx]
  simp only at eo;unfold iy at h2;simp only at h2;split at h2
  .rename_i hop;have ha:aM (l.map az.op)[e]=0:=by rw [eo];unfold aM;rw [I8 (by omega)]
   have hk:=my (l.map az.op) e hel ha;simp at h2;rcases hop with rfl|rfl
   .have hv:v=true:=by rw [<- h2.1];rfl
    subst hv
    repeat' first|refine go ?_|simp only [ac,he,ex]|decide|refine sp ?_ ?_<;>intro _
    refine ak hk ?_;have e1:((1:Int) == 1)=true:=(by decide)
    repeat' first|refine ge e1 ?_|decide|refine sp ?_ ?_<;>intro _
   .have hv:v=false:=by rw [<- h2.1];rfl
    subst hv
    repeat' first|refine go ?_|simp only [ac,he,ex]|decide|refine sp ?_ ?_<;>intro _
    refine ak hk ?_
    repeat' first|refine go ?_|simp only [Int.reduceBEq]|decide|refine sp ?_ ?_<;>intro _
  split at h2
  .rename_i hop;have ha:aM (l.map az.op)[e]=0:=by rw [eo];unfold aM;rw [I8 (by omega)]
   have hk:=my (l.map az.op) e hel ha;split at h2
   .rename_i c hc;obtain ⟨a,b,hva,hvb,rfl⟩:=D9 hc;simp only at hva hvb;cases h2;have h6:op=3 \/ op=4 \/ op=5 \/ op=6 \/ op=7 \/ op=8:=(by omega);rcases h6 with rfl|rfl|rfl|rfl|rfl|rfl
    all_goals
     repeat' first|refine go ?_|simp only [ac,he,ex]|decide|refine sp ?_ ?_<;>intro _
     refine ak hk ?_
     repeat' first|refine go ?_|simp only [Int.reduceBEq]|decide|refine sp ?_ ?_<;>intro _
     refine ao (by kernel_rfl) ?_
     repeat' first|refine go ?_|decide|refine sp ?_ ?_<;>intro _
     refine aD (Au s la ln a hva) ?_
     repeat' first|refine go ?_|decide|refine sp ?_ ?_<;>intro _
     refine aD (Au s ra rn b hvb) ?_
     repeat' first|refine go ?_|decide|refine sp ?_ ?_<;>intro _
     refine aD (Gy _ a b) ?_
     repeat' first|refine go ?_|decide|refine sp ?_ ?_<;>intro _
   .cases h2
  split at h2
  .rename_i hop;have ha:aM (l.map az.op)[e]=0:=by rw [eo];unfold aM;rw [I8 (by omega)]
   have hk:=my (l.map az.op) e hel ha;subst hop;cases h2
   repeat' first|refine go ?_|simp only [ac,he,ex]|decide|refine sp ?_ ?_<;>intro _
   refine ak hk ?_
   repeat' first|refine go ?_|simp only [Int.reduceBEq]|decide|refine sp ?_ ?_<;>intro _
   refine ak (cY s.opn xn ho) ?_
   repeat' first|refine go ?_|decide|refine sp ?_ ?_<;>intro _
  split at h2
  .rename_i hop;have ha:aM (l.map az.op)[e]=0:=by rw [eo];unfold aM;rw [I8 (by omega)]
   have hk:=my (l.map az.op) e hel ha;subst hop;cases h2
   repeat' first|refine go ?_|simp only [ac,he,ex]|decide|refine sp ?_ ?_<;>intro _
   refine ak hk ?_
   repeat' first|refine go ?_|simp only [Int.reduceBEq]|decide|refine sp ?_ ?_<;>intro _
   refine ak (cY s.don xn hd) ?_
   repeat' first|refine go ?_|decide|refine sp ?_ ?_<;>intro _
  have hpre:∀ (a:Bool) (q:List Bool),r0=a :: q -> ∃ e0,e=e0+1:=fun a q hq=>by
   cases e with
   | zero=>
    simp [dL] at h1;rw [h1] at hq;cases hq
   | succ e0=>exact ⟨e0,rfl⟩
  split at h2
  .rename_i hop;have ha:aM (l.map az.op)[e]=1:=by rw [eo];unfold aM;rw [I4 (by omega),I8 (by omega)]
   have hk:=DR (l.map az.op) e hel ha (by simp;omega);subst hop;split at h2
   .rename_i a q;obtain ⟨e0,rfl⟩:=hpre a q rfl;have ee:((e0+1:Nat):Int) - 1=(e0:Int):=(by omega);rw [ee] at hk;have h3:=ih e0 (by omega) a q (by omega) h1;cases h2
    repeat' first|refine go ?_|simp only [ac,he,ex]|decide|refine sp ?_ ?_<;>intro _
    refine cQ hk (.inr (bq (l:=[(e0:Int)]))) ?_
    repeat' first|refine go ?_|simp only [Int.reduceBEq]|decide|refine sp ?_ ?_<;>intro _
    refine ao (by kernel_rfl) ?_
    repeat' first|refine go ?_|simp only [Int.reduceLT,Int.reduceLE,KJ,z1,z2,z3]|decide|refine sp ?_ ?_<;>intro _
    refine aD h3 ?_
    repeat' first|refine go ?_|decide|refine sp ?_ ?_<;>intro _
   .cases h2
  split at h2
  .rename_i hop;have ha:aM (l.map az.op)[e]=2:=by rw [eo];unfold aM;rw [I4 (by omega),I4 (by omega),I8 (by omega)]
   have hk:=D1 (l.map az.op) e hel ha (by simp;omega);split at h2
   .rename_i b a q;obtain ⟨e0,rfl⟩:=hpre b (a :: q) rfl;have ee:((e0+1:Nat):Int) - 1=(e0:Int):=(by omega);have h3:=ih e0 (by omega) b (a :: q) (by omega) h1;obtain ⟨bg,h4,h5,h6⟩:=zm (by omega) h1
    have h7:∃ b0,bg=b0+1:=by
     cases bg with
     | zero=>simp [dL] at h6
     | succ b0=>exact ⟨b0,rfl⟩
    obtain ⟨b0,rfl⟩:=h7;have eb:((b0+1:Nat):Int) - 1=(b0:Int):=(by omega);rw [ee,h5,eb] at hk;have h8:=ih b0 (by omega) a q (by omega) h6;cases h2;have h9:op=16 \/ op=17 \/ op=18:=(by omega);rcases h9 with rfl|rfl|rfl
    all_goals
     repeat' first|refine go ?_|simp only [ac,he,ex]|decide|refine sp ?_ ?_<;>intro _
     refine cQ hk (.inr (bq (l:=[(b0:Int),(e0:Int)]))) ?_
     repeat' first|refine go ?_|simp only [Int.reduceBEq]|decide|refine sp ?_ ?_<;>intro _
     refine ao (by kernel_rfl) ?_
     repeat' first|refine go ?_|simp only [Int.reduceLT,Int.reduceLE,KJ,z1,z2,z3]|decide|refine sp ?_ ?_<;>intro _
     refine aD h8 ?_
     repeat' first|refine go ?_|simp only [Int.reduceLT,Int.reduceLE,KJ,z1,z2,z3,Int.toNat_one]|decide|refine sp ?_ ?_<;>intro _
     all_goals first|(refine aD h3 ?_;(repeat' (first|refine go ?_|decide|refine sp ?_ ?_<;>intro _)))|skip
     all_goals first|rfl|(simp_all;done)
   .cases h2
  .cases h2
end
section
theorem pg (l:List az) (s:St) (hl:l.length<=1000000) (ho:aA s.opn) (hd:aA s.don):ap Tryz.prog 121 [aV l,.agg (cJ s)] ⟨.tup [eB (DH (gU l s)),eI (II (gU l s))],[],0⟩:=by
 refine aa ae Tryz.func121 rfl (by decide) Tryz.ntmps121 Tryz.results121 rfl (⟨fun id o h=>(by cases h),⟨trivial,trivial,trivial⟩⟩) ?_;by_cases hc:bi (l.map az.op)=0 /\ ∀ x ∈ l,fJ s.vals true x=true
 .have hck:=pF l s true hl true (by simp only [true_iff];exact hc);obtain ⟨b,h1,h2⟩:=rx hc.1 hc.2
  have hlen:0<l.length /\ l.length<=64:=by
   have:=hc.1;unfold bi at this;simp only [Jd] at this;split at this
   .cases this
   .split at this
    .cases this
    .omega
  have ht:(l.map az.op).take 70=l.map az.op:=Jp (by simp;omega);have hsh:=r4 l hl;rw [ht] at hsh;have ew:IntKind.i64.wrap ((l.length:Int) - 1)=((l.length - 1:Nat):Int):=by rw [aP (by omega) (by omega)];omega
  have hat:=Ab l s (by omega) ho hd (l.length) (l.length - 1) (by omega) b [] (by omega) (by rw [show l.length - 1+1=l.length by omega,I9];exact h1)
  repeat' first|refine go ?_|decide|refine sp ?_ ?_<;>intro _
  refine ak hck ?_
  repeat' first|refine go ?_|decide|refine sp ?_ ?_<;>intro _
  refine bk [] [0,1,3,4,5,6] (.exec 2 (.exec 7 (.exec 8 (.exec 9 .done)))) (by kernel_rfl) (by simp) ?_
  repeat' first|refine ge ew ?_|decide|refine sp ?_ ?_<;>intro _
  refine cQ hsh (.inr lW) ?_
  repeat' first|refine ge ew ?_|decide|refine sp ?_ ?_<;>intro _
  refine ak (by exact hat) ?_
  repeat' first|refine go ?_|decide|refine sp ?_ ?_<;>intro _
  exact aB (by rw [h2];rfl)
 .have hck:=pF l s true hl false (by simp only [Jv,false_iff];exact hc)
  repeat' first|refine go ?_|decide|refine sp ?_ ?_<;>intro _
  refine ak hck ?_
  repeat' first|refine go ?_|decide|refine sp ?_ ?_<;>intro _
  exact aB (by rw [r6 hc];rfl)
theorem Gk (m:aF) (hl:m.stages.length<=1000000):ap Tryz.prog 14 [.agg (am m)] (cu 3 1 ((pars m).map fun n=>[eI n])):=by
 refine aa ae Tryz.func14 rfl (by decide) Tryz.ntmps14 Tryz.results14 rfl (cK _ _ _) ?_
 repeat' first|refine go ?_|decide|refine sp ?_ ?_<;>intro _
 refine af (fun st=>∃ k:Nat,k<=m.stages.length /\ st=⟨22,[(1,.op 0 0 0),(3,.osl 1),(4,eI (k:Int))],[(0,some (.box 32 (am m))),(1,some (.row 3 1 ((m.stages.take k).map fun p=>[eI p.2])))],2⟩) (fun st=>m.stages.length - aw st 4) ⟨_,((aW 3 3 1 (by simp only [f9,ai.get,a7,ai.put,↓reduceIte,reduceCtorEq,Nat.reduceLT,Nat.reduceEqDiff,Nat.reduceAdd,Nat.reduceLeDiff,eq_self,implies_true,I5,Jo])).trans (wS [0,1] @I5)),0,IY _,rfl⟩ ?_;rintro _ ⟨k,hk,rfl⟩;by_cases hlt:k<m.stages.length
 .have et:(m.stages.take (k+1)).map (fun p=>[eI p.2])=(m.stages.take k).map (fun p=>[eI p.2]) ++ [[eI m.stages[k].2]]:=df _ _ hlt
  repeat' first|refine go ?_|simp only [ac,hlt]|decide|refine sp ?_ ?_<;>intro _
  refine ⟨rfl,by simp only [Jf];omega,rI (wS [0,3] et) ⟨k+1,by omega,rfl⟩⟩
 .obtain rfl:k=m.stages.length:=by omega
  repeat' first|refine go ?_|simp only [ac,hlt]|decide|refine sp ?_ ?_<;>intro _
  exact a5 (by simp [ag.gc,pars])
theorem Eb (l:List Int) (a i:Int) (hl:l.length<=1073741824) (ho:∀ x ∈ l,aA x):ap Tryz.prog 30 [sI l,eI a,eI i] (val (.bool (decide (Ct l a i)))):=
 bo (bC Tryz.func30 rfl (by decide)) fun S w vs hS hn hv=>by
  obtain ⟨v,v1,v2,rfl⟩:∃ v v1 v2,vs = #[v,v1,v2]:=⟨vs[0]'(by simp at hn;omega),vs[1]'(by simp at hn;omega),vs[2]'(by simp at hn;omega),by
   apply KS
   .simpa using hn
   .intro i h1 h2;simp at h2
    match i,h2 with
    | 0,_=>rfl
    | 1,_=>rfl
    | 2,_=>rfl⟩
  obtain rfl:=xz (hv 1 v1 _ rfl rfl);obtain rfl:=xz (hv 2 v2 _ rfl rfl);exact (BO l v a i w hl (mF (hv 0 v _ rfl rfl) hS ho)).mono fun e w' ⟨h1,h2⟩=>⟨h1,h2 ▸ Below.refl _ _⟩
theorem cG (n most:Int):ap Tryz.prog 120 [eI n,eI most] (val (.bool (b7 n most))):=by
 refine aa ae Tryz.func120 rfl (by decide) Tryz.ntmps120 Tryz.results120 rfl (aq _) ?_;unfold b7
 repeat' first|refine go ?_|decide|refine sp ?_ ?_<;>intro _
 all_goals (rename_i h;rw [h];simp)
theorem yd (m:aF) (s:St) (xm:Bool) (xn event:Int) (hf:iC m) (ho:aA s.opn) (hd:aA s.don):ap Tryz.prog 98 [.agg (am m),.agg (cJ s),.agg [eB xm,eI xn],eI event] (val (.bool (dC m s (xm,xn) event))):=by
 refine aa ae Tryz.func98 rfl (by decide) Tryz.ntmps98 Tryz.results98 rfl (aq _) ?_;obtain ⟨hgl,hml,hsl,-⟩:=id hf.sizes
 cases xm with
 | true=>
  by_cases hin:0<=xn /\ xn<(m.miles.length:Int)
  .obtain ⟨k,rfl⟩:∃ k:Nat,xn=(k:Int):=⟨xn.toNat,by omega⟩;have hk:k<m.miles.length:=(by omega);have ei:b7 (k:Int) (m.miles.length:Int)=true:=by simp [b7];omega
   have eR:dC m s (true,(k:Int)) event=(b7 m.miles[k].stage m.stages.length && ((m.miles[k].event == -1) || (m.miles[k].event == event)) && aR s.opn m.miles[k].stage && DH (gU m.miles[k].cond s)):=by
    simp [dC,gS,bm,hk,rY,b7,Bool.and_assoc]
   rw [eR];have hho:=pg m.miles[k].cond s (by have:=hf.miles _ (IZ hk);omega) ho hd
   repeat' first|refine go ?_|simp only [ac,hk]|decide|refine sp ?_ ?_<;>intro _
   refine ak (cG _ _) ?_
   repeat' first|refine go ?_|simp only [ac,hk,ei]|decide|refine sp ?_ ?_<;>intro _
   refine dJ hho (ro) ?_
   repeat' first|refine go ?_|decide|refine sp ?_ ?_<;>intro _
   refine ak (cG _ _) ?_
   repeat' first|refine go ?_|decide|refine sp ?_ ?_<;>intro _
   all_goals first
    | (simp [*];done)
    | (refine ak (cY _ _ ho) ?_;(repeat' (first | refine go ?_ | decide | refine sp ?_ ?_<;>intro _));all_goals (simp [*];done))
  .have ei:b7 xn (m.miles.length:Int)=false:=by unfold b7;rw [Jt];simp only [Ji];omega
   have eR:dC m s (true,xn) event=false:=by
    have:bm m (true,xn)=none:=by
     simp only [bm,if_true];split
     .rw [Jq (by omega)];try rfl
     .rfl
    simp [dC,gS,this]
   rw [eR]
   repeat' first|refine go ?_|decide|refine sp ?_ ?_<;>intro _
   refine ak (cG _ _) ?_
   repeat' first|refine ge ei ?_|decide|refine sp ?_ ?_<;>intro _
 | false=>
  by_cases hin:0<=xn /\ xn<(m.guards.length:Int)
  .obtain ⟨k,rfl⟩:∃ k:Nat,xn=(k:Int):=⟨xn.toNat,by omega⟩;have hk:k<m.guards.length:=(by omega);have ei:b7 (k:Int) (m.guards.length:Int)=true:=by simp [b7];omega
   have hho:=pg m.guards[k].cond s (by have:=hf.guards _ (IZ hk);omega) ho hd;by_cases hst:0<=m.guards[k].stage /\ m.guards[k].stage<(m.stages.length:Int)
   .obtain ⟨q,hq⟩:∃ q:Nat,m.guards[k].stage=(q:Int):=⟨m.guards[k].stage.toNat,by omega⟩;have hql:q<m.stages.length:=(by omega);have es:b7 (q:Int) (m.stages.length:Int)=true:=by simp [b7];omega
    have eR:dC m s (false,(k:Int)) event=(((m.guards[k].event == -1) || (m.guards[k].event == event)) && !aR s.opn q && ((m.stages[q].2 == -1) || (b7 m.stages[q].2 m.stages.length && aR s.opn m.stages[q].2)) && DH (gU m.guards[k].cond s)):=by
     have hno:∀ p:Int,(decide (p<(m.stages.length:Int)) && aR s.opn p)=(b7 p m.stages.length && aR s.opn p):=fun p=>by
      by_cases h0:0<=p
      .simp [b7,h0]
      .rw [gv _ _ (by omega)];simp
     simp [dC,gS,bm,hk,rY,hq,vn,hql,hno]
    rw [eR]
    repeat' first|refine go ?_|simp only [ac,hk]|decide|refine sp ?_ ?_<;>intro _
    refine ao (by kernel_rfl) ?_
    repeat' first|refine go ?_|simp only [ac,hk]|decide|refine sp ?_ ?_<;>intro _
    refine aD (cG _ _) ?_
    repeat' first|refine go ?_|simp only [ac,hk,ei]|decide|refine sp ?_ ?_<;>intro _
    refine aD (cG _ _) ?_;rw [hq]
    repeat' first|refine go ?_|simp only [ac,hk,es,hq,hql]|decide|refine sp ?_ ?_<;>intro _
    refine dJ hho (ro) ?_
    repeat' first|refine ge hq ?_|decide|refine sp ?_ ?_<;>intro _
    all_goals first
     | (simp [*];done)
     | (refine ak (cY _ _ ho) ?_;(repeat' (first | refine go ?_ | decide | refine sp ?_ ?_<;>intro _)))
    all_goals first
     | (simp [*];done)
     | (refine ak (cG _ _) ?_;(repeat' (first | refine go ?_ | decide | refine sp ?_ ?_<;>intro _)))
    all_goals first
     | (simp [*];done)
     | (refine ak (cY _ _ ho) ?_;(repeat' (first | refine go ?_ | decide | refine sp ?_ ?_<;>intro _)))
    all_goals (simp [*];done)
   .have es:b7 m.guards[k].stage (m.stages.length:Int)=false:=by unfold b7;rw [Jt];simp only [Ji];omega
    have eR:dC m s (false,(k:Int)) event=false:=by
     have:rY m m.guards[k].stage=false:=by unfold rY;rw [Jt];simp only [Ji];omega
     simp [dC,gS,bm,hk,this]
    rw [eR]
    repeat' first|refine go ?_|simp only [ac,hk]|decide|refine sp ?_ ?_<;>intro _
    refine ao (by kernel_rfl) ?_
    repeat' first|refine go ?_|simp only [ac,hk]|decide|refine sp ?_ ?_<;>intro _
    refine aD (cG _ _) ?_
    repeat' first|refine go ?_|simp only [ac,hk,ei]|decide|refine sp ?_ ?_<;>intro _
    refine aD (cG _ _) ?_
    repeat' first|refine go ?_|simp only [ac,hk,es]|decide|refine sp ?_ ?_<;>intro _
  .have ei:b7 xn (m.guards.length:Int)=false:=by unfold b7;rw [Jt];simp only [Ji];omega
   have eR:dC m s (false,xn) event=false:=by
    have:bm m (false,xn)=none:=by
     simp only [bm,Jv,if_false];split
     .rw [Jq (by omega)];try rfl
     .rfl
    simp [dC,gS,this]
   rw [eR]
   repeat' first|refine go ?_|decide|refine sp ?_ ?_<;>intro _
   refine ao (by kernel_rfl) ?_
   repeat' first|refine go ?_|decide|refine sp ?_ ?_<;>intro _
   refine aD (cG _ _) ?_
   repeat' first|refine ge ei ?_|decide|refine sp ?_ ?_<;>intro _
end
end
section
section
def cr (o:Int):Prop:=0<=o /\ o<2147483648
theorem cO {o:Int} (h:cr o):aA o:=by unfold cr at h;unfold aA;omega
theorem BU (s:Int):cr (ii s:Int):=by
 have:=cC s;unfold cr;omega
theorem nn (s i:Int):cr (ba s i):=by
 unfold ba;split
 .have h1:ii s ||| 2 ^ i.toNat<2 ^ 31:=KE (cC s) (J8 (by omega) (by omega));unfold cr;omega
 .exact BU s
theorem l7 (s i:Int):cr (br s i):=by
 unfold br;split
 .have h1:ii s ^^^ (ii s &&& 2 ^ i.toNat)<2 ^ 31:=Nat.xor_lt_two_pow (cC s) (Nat.lt_of_le_of_lt Nat.and_le_left (cC s));unfold cr;omega
 .exact BU s
theorem qS:∀ (l:List Int) (o:Int),cr o -> cr (l.foldl br o)
 | [],o,h=>h
 | i :: l,o,h=>qS l _ (l7 o i)
theorem pQ (l:List Ml) (st d:Int) (h:cr d):∀ k,cr (jE l st d k)
 | 0=>h
 | k+1=>by
  unfold jE;split
  .exact l7 _ _
  .exact pQ l st d h k
theorem rN:∀ (l:List Int) (o j:Int),aR (l.foldl br o) j=(aR o j && !decide (j ∈ l))
 | [],o,j=>by simp
 | i :: l,o,j=>by
  rw [List.foldl_cons,rN l,db];by_cases h:j=i
  .simp [h]
  .have:(j == i)=false:=by simpa using h
   simp [this,h]
theorem kg (l:List Ml) (st d:Int) (i:Nat):∀ k,aR (jE l st d k) (i:Int)=(aR d (i:Int) && !(decide (i<k) && decide (l[i]?.map (·.stage)=some st)))
 | 0=>by simp [jE]
 | k+1=>by
  unfold jE;split
  .rename_i h;rw [db,kg l st d i k];by_cases hik:i=k
   .subst hik;simp [h]
   .have e1:((i:Int) == (k:Int))=false:=by simp;omega
    have e2:decide (i<k+1)=decide (i<k):=by rw [decide_eq_decide];omega
    rw [e1,e2];simp
  .rename_i h;rw [kg l st d i k];by_cases hik:i=k
   .subst hik;simp [h]
   .have e2:decide (i<k+1)=decide (i<k):=by rw [decide_eq_decide];omega
    rw [e2]
def cP (s:Int) (p:Nat -> Bool):List Bool:=(List.range 31).map fun (i:Nat)=>aR s (i:Int) && !p i
def eH (q:Nat -> Bool) (k:Nat):Nat -> Bool:=fun i=>decide (i<k) && q i
theorem pk (s:Int) (q:Nat -> Bool):cP s (eH q 0)=mm s:=by simp [cP,mm,eH]
theorem se (s:Int) (p:Nat -> Bool):(cP s p).length=31:=by simp [cP]
theorem m4 {s:Int} {q:Nat -> Bool} {k:Nat} (h:q k=true):(cP s (eH q k)).set k false=cP s (eH q (k+1)):=by
 apply JH;intro i;rw [Kb];simp only [cP,IW,Jd,List.length_range];by_cases hi:i<31
 .rw [List.getElem?_range hi];split
  .rename_i e;subst e;rw [I8 hi];simp [eH,h]
  .rename_i e;have e2:decide (i<k+1)=decide (i<k):=by rw [decide_eq_decide];omega
   simp [eH,e2]
 .rw [Jq (by simp;omega)];split
  .rw [I4 (by omega)];rfl
  .rfl
theorem vR {s:Int} {q:Nat -> Bool} {k:Nat} (h:q k=false):cP s (eH q k)=cP s (eH q (k+1)):=by
 have:eH q k=eH q (k+1):=by
  funext i
  unfold eH;by_cases hik:i=k
  .subst hik;simp [h]
  .have e2:decide (i<k+1)=decide (i<k):=by rw [decide_eq_decide];omega
   rw [e2]
 rw [this]
theorem tb (s:Int) (p:Nat -> Bool) {t:Int} (ht:cr t) (h:∀ j:Nat,j<31 -> aR t (j:Int)=(aR s (j:Int) && !p j)):jY (cP s p) 31=t:=by
 have hr:=gw (fun j=>(cP s p).getD j false) 31;unfold jY;refine wo (by omega) ht fun j hj=>?_;rw [pm _ j hj,h j hj];simp [cP,hj]
noncomputable def qA (m:aF) (st:Int):Nat -> Bool:=fun i=>decide ((i:Int)=st) || decide (Ct (pars m) st (i:Int))
def qB (m:aF) (st:Int):Nat -> Bool:=fun i=>decide (m.miles[i]?.map (·.stage)=some st)
theorem Gb {m:aF} {st s:Int} (hst:bw (pars m) st) (hs:cr s):jY (cP s (eH (qA m st) m.stages.length)) 31=(lh (pars m) st ++ [st]).foldl br s:=by
 refine tb s _ (qS _ _ hs) fun j hj=>?_;rw [rN]
 congr 2
 have hpl:(pars m).length=m.stages.length:=by simp [pars]
 rw [KR];simp only [Je,eH,qA,I2,Kg,Ja,Jg];unfold lh;rw [I8 hst];simp only [I7,List.mem_filter,List.mem_range,Je];have hst':=hst;unfold bw at hst';constructor
 .rintro (⟨k,⟨h1,h2,h3⟩,h4⟩ | h)
  .obtain rfl:k=j:=by omega
   obtain ⟨i,h5,h6,h7⟩:=(jb (pars m) (k:Int) st hst'.1 h2).1 h3;exact ⟨by omega,.inr ⟨i,h5,h6,hst'.1,h7⟩⟩
  .exact ⟨by omega,.inl h⟩
 .rintro ⟨h1,h2⟩;by_cases he:(j:Int)=st
  .exact .inr he
  .left;rcases h2 with h2|⟨i,h5,h6,h7,h8⟩
   .exact absurd h2 he
   .exact ⟨j,⟨by omega,he,(jb (pars m) (j:Int) st hst'.1 he).2 ⟨i,h5,h6,h8⟩⟩,rfl⟩
theorem FQ {m:aF} {st s:Int} (hs:cr s):jY (cP s (eH (qB m st) m.miles.length)) 31=jE m.miles st s m.miles.length:=by
 refine tb s _ (pQ _ _ _ hs _) fun j hj=>?_;rw [kg];rfl
theorem fO {l:List Bool}:∀ row ∈ l.map (fun b=>[eB b]),∀ av ∈ row,av.plain:=fun row hr av ha=>by
 obtain ⟨n,_,rfl⟩:=I7.1 hr;simp at ha;subst ha;trivial
theorem BN (m:aF) (s:St) (xm:Bool) (xn:Int) (hf:iC m) (hp:∀ p ∈ m.stages,aA p.2) (ho:cr s.opn) (hd:cr s.don):ap Tryz.prog 99 [.agg (am m),.agg (cJ s),.agg [eB xm,eI xn]] ⟨.agg (cJ (cw m s (xm,xn))),[],0⟩:=by
 refine aa ae Tryz.func99 rfl (by decide) Tryz.ntmps99 Tryz.results99 rfl (⟨fun id o h=>(by cases h),⟨trivial,trivial,trivial,trivial,trivial,trivial⟩⟩) ?_;obtain ⟨hgl,hml,hsl,-⟩:=id hf.sizes;have hpl:(pars m).length=m.stages.length:=by simp [pars]
 have hpo:∀ x ∈ pars m,aA x:=fun x hx=>by
  obtain ⟨p,hp',rfl⟩:=I7.1 hx;exact hp p hp'
 have ro:oC [.agg (am m),.agg (cJ s),.agg [eB xm,eI xn]]:=by simp [oC,Cq,aI,aQ]
 cases xm with
 | true=>
  by_cases hin:0<=xn /\ xn<(m.miles.length:Int)
  .obtain ⟨k,rfl⟩:∃ k:Nat,xn=(k:Int):=⟨xn.toNat,by omega⟩;have hk:k<m.miles.length:=(by omega);have ei:b7 (k:Int) (m.miles.length:Int)=true:=by simp [b7];omega
   by_cases hst:0<=m.miles[k].stage /\ m.miles[k].stage<(m.stages.length:Int)
   .have es:b7 m.miles[k].stage (m.stages.length:Int)=true:=by unfold b7;simp;omega
    have hs2:rY m m.miles[k].stage=true:=by unfold rY;simp;omega
    have eR:cw m s (true,(k:Int))={ s with don:=ba s.don k,opn:=(lh (pars m) m.miles[k].stage ++ [m.miles[k].stage]).foldl br s.opn }:=by
     simp [cw,bm,hk,hs2]
    rw [eR,<- Gb (m:=m) (by unfold bw;omega) ho];have eK:ri m.miles[k]=[eS m.miles[k].name,eI m.miles[k].stage,eI m.miles[k].event,aV m.miles[k].cond,eB m.miles[k].final]:=rfl;generalize hstg:m.miles[k].stage=st at hst es hs2 eK;have hput:=zB s.don (k:Int) true (cO hd) (by omega) (by omega);simp only [if_true] at hput
    repeat' first|refine go ?_|simp only [ac,hk]|decide|refine sp ?_ ?_<;>intro _
    refine ao (by kernel_rfl) ?_
    repeat' first|refine go ?_|simp only [ac,hk]|decide|refine sp ?_ ?_<;>intro _
    refine aD (cG _ _) ?_
    repeat' first|refine go ?_|simp only [ac,hk,ei,hstg]|decide|refine sp ?_ ?_<;>intro _
    refine aD (cG _ _) ?_
    repeat' first|refine go ?_|simp only [ac,hk,ei,es,hstg]|decide|refine sp ?_ ?_<;>intro _
    refine ak hput ?_
    repeat' first|refine go ?_|decide|refine sp ?_ ?_<;>intro _
    refine cQ (Av s.opn (cO ho)) (.inr fO) ?_
    repeat' first|refine go ?_|decide|refine sp ?_ ?_<;>intro _
    rw [<- pk s.opn (qA m st)];refine af (fun s'=>∃ i:Nat,i<=m.stages.length /\ s'=⟨148,[(3,.op 0 0 0),(4,.op 1 0 0),(6,.op 2 0 0),(7,eI st),(8,.osl 3),(9,eI (i:Int))],[(0,some (.box 32 (am m))),(1,some (.box 47 (cJ { s with don:=ba s.don k }))),(2,some (.box 47 [.c (.slice none 0 0),eI 0,eI 0,.c (.slice none 0 0),.c (.slice none 0 0)])),(3,some (.row 4 1 ((cP s.opn (eH (qA m st) i)).map fun b=>[eB b])))],4⟩) (fun s'=>m.stages.length - aw s' 9) ⟨_,(wR [0,1,3,4]),0,IY _,rfl⟩ ?_;rintro _ ⟨i,hi,rfl⟩;have hml31:=se s.opn (eH (qA m st) i);by_cases hlt:i<m.stages.length
    .have hi31:i<(cP s.opn (eH (qA m st) i)).length:=(by omega);have hset:(((cP s.opn (eH (qA m st) i)).map fun b=>[eB b]).set i [eB false])=((cP s.opn (eH (qA m st) i)).set i false).map fun b=>[eB b]:=(by rw [List.map_set])
     repeat' first|refine go ?_|simp only [ac,hlt,hi31]|decide|refine sp ?_ ?_<;>intro _
     .rename_i h;have hq:qA m st i=true:=by simp [qA];left;simpa using h
      exact rI (fq (by (first|((simp only [ik,il,cb,cd,aE.lt,AV.lt,AV.ltL,f9,ai.get,a7,ai.put,↓reduceIte,reduceCtorEq,Nat.reduceLT,Nat.reduceEqDiff,Nat.reduceAdd,Nat.reduceLeDiff,eq_self,implies_true,hset,m4 hq])<;>(repeat' apply And.intro)<;>first|(rw [ic (by omega)];done)|(simp;done)|omega)|fail))) ⟨i+1,by omega,rfl⟩
     .rename_i h;refine cQ (Gk m (by omega)) (.inr bq) ?_
      repeat' first|refine go ?_|decide|refine sp ?_ ?_<;>intro _
      refine ak (Eb (pars m) st (i:Int) (by omega) hpo) ?_
      repeat' first|refine go ?_|simp only [ac,hlt,hi31]|decide|refine sp ?_ ?_<;>intro _
      .rename_i h2;have hq:qA m st i=true:=(by simp only [qA,h2,Bool.or_true]);exact rI (i8 [0,1,2,3] ⟨(by decide),(by (first|((simp only [fV,fy,cb,cd,aE.lt,AV.lt,AV.ltL,AV.ren,AV.renL,aE.ren,KF,List.getD_cons_succ,Jh,Kf,f9,ai.get,a7,ai.put,↓reduceIte,reduceCtorEq,Nat.reduceLT,Nat.reduceEqDiff,Nat.reduceAdd,Nat.reduceLeDiff,eq_self,implies_true,hset,m4 hq])<;>(repeat' apply And.intro)<;>first|(rw [ic (by omega)];done)|(simp;done)|omega)|fail))⟩) ⟨i+1,by omega,rfl⟩
      .rename_i h2
       have hq:qA m st i=false:=by
        simp only [qA,h2,Bool.or_false];simpa using h
       exact rI (i8 [0,1,2,3] ⟨(by decide),(by (first|((simp only [fV,fy,cb,cd,aE.lt,AV.lt,AV.ltL,AV.ren,AV.renL,aE.ren,KF,List.getD_cons_succ,Jh,Kf,f9,ai.get,a7,ai.put,↓reduceIte,reduceCtorEq,Nat.reduceLT,Nat.reduceEqDiff,Nat.reduceAdd,Nat.reduceLeDiff,eq_self,implies_true,vR hq])<;>(repeat' apply And.intro)<;>first|(rw [ic (by omega)];done)|(simp;done)|omega)|fail))⟩) ⟨i+1,by omega,rfl⟩
    .obtain rfl:i=m.stages.length:=by omega
     have hsum:=A9 (cP s.opn (eH (qA m st) m.stages.length)) (by omega);rw [hml31] at hsum
     repeat' first|refine go ?_|simp only [ac,hlt]|decide|refine sp ?_ ?_<;>intro _
     refine ak (by exact hsum) ?_
     repeat' first|refine go ?_|decide|refine sp ?_ ?_<;>intro _
     exact aB (by simp [AV.ren,AV.renL])
   .have es:b7 m.miles[k].stage (m.stages.length:Int)=false:=by unfold b7;rw [Jt];simp only [Ji];omega
    have eR:cw m s (true,(k:Int))=s:=by
     have:rY m m.miles[k].stage=false:=by unfold rY;rw [Jt];simp only [Ji];omega
     simp [cw,bm,hk,this]
    rw [eR]
    repeat' first|refine go ?_|simp only [ac,hk]|decide|refine sp ?_ ?_<;>intro _
    refine ao (by kernel_rfl) ?_
    repeat' first|refine go ?_|simp only [ac,hk]|decide|refine sp ?_ ?_<;>intro _
    refine aD (cG _ _) ?_
    repeat' first|refine go ?_|simp only [ac,hk,ei]|decide|refine sp ?_ ?_<;>intro _
    refine aD (cG _ _) ?_
    repeat' first|refine go ?_|simp only [ac,hk,ei,es]|decide|refine sp ?_ ?_<;>intro _
    exact aB (by simp [AV.ren,AV.renL])
  .have ei:b7 xn (m.miles.length:Int)=false:=by unfold b7;rw [Jt];simp only [Ji];omega
   have eR:cw m s (true,xn)=s:=by
    have:bm m (true,xn)=none:=by
     simp only [bm,if_true];split
     .rw [Jq (by omega)];try rfl
     .rfl
    simp [cw,this]
   rw [eR]
   repeat' first|refine go ?_|decide|refine sp ?_ ?_<;>intro _
   refine ao (by kernel_rfl) ?_
   repeat' first|refine go ?_|decide|refine sp ?_ ?_<;>intro _
   refine aD (cG _ _) ?_
   repeat' first|refine ge ei ?_|decide|refine sp ?_ ?_<;>intro _
   exact aB (by simp [AV.ren,AV.renL])
 | false=>
  by_cases hin:0<=xn /\ xn<(m.guards.length:Int)
  .obtain ⟨k,rfl⟩:∃ k:Nat,xn=(k:Int):=⟨xn.toNat,by omega⟩;have hk:k<m.guards.length:=(by omega);have ei:b7 (k:Int) (m.guards.length:Int)=true:=by simp [b7];omega
   by_cases hst:0<=m.guards[k].stage /\ m.guards[k].stage<(m.stages.length:Int)
   .have es:b7 m.guards[k].stage (m.stages.length:Int)=true:=by unfold b7;simp;omega
    have hs2:rY m m.guards[k].stage=true:=by unfold rY;simp;omega
    have eR:cw m s (false,(k:Int))={ s with opn:=ba s.opn m.guards[k].stage,don:=jE m.miles m.guards[k].stage s.don m.miles.length }:=by
     simp [cw,bm,hk,hs2]
    rw [eR,<- FQ hd];generalize hstg:m.guards[k].stage=st at hst es hs2;have hput:=zB s.opn st true (cO ho) hst.1 (by omega);simp only [if_true] at hput
    repeat' first|refine go ?_|simp only [ac,hk]|decide|refine sp ?_ ?_<;>intro _
    refine ao (by kernel_rfl) ?_
    repeat' first|refine go ?_|simp only [ac,hk]|decide|refine sp ?_ ?_<;>intro _
    refine aD (cG _ _) ?_
    repeat' first|refine go ?_|simp only [ac,hk,ei,hstg]|decide|refine sp ?_ ?_<;>intro _
    refine aD (cG _ _) ?_
    repeat' first|refine go ?_|simp only [ac,hk,ei,es,hstg]|decide|refine sp ?_ ?_<;>intro _
    refine ak hput ?_
    repeat' first|refine go ?_|decide|refine sp ?_ ?_<;>intro _
    refine cQ (Av s.don (cO hd)) (.inr fO) ?_
    repeat' first|refine go ?_|decide|refine sp ?_ ?_<;>intro _
    rw [<- pk s.don (qB m st)];refine af (fun s'=>∃ i:Nat,i<=m.miles.length /\ s'=⟨148,[(3,.op 0 0 0),(4,.op 1 0 0),(6,.op 2 0 0),(10,eI st),(11,.osl 3),(12,eI (i:Int))],[(0,some (.box 32 (am m))),(1,some (.box 47 (cJ { s with opn:=ba s.opn st }))),(2,some (.box 47 [.c (.slice none 0 0),eI 0,eI 0,.c (.slice none 0 0),.c (.slice none 0 0)])),(3,some (.row 4 1 ((cP s.don (eH (qB m st) i)).map fun b=>[eB b])))],4⟩) (fun s'=>m.miles.length - aw s' 12) ⟨_,(wR [0,1,3,4]),0,IY _,rfl⟩ ?_;rintro _ ⟨i,hi,rfl⟩;have hml31:=se s.don (eH (qB m st) i);by_cases hlt:i<m.miles.length
    .have hi31:i<(cP s.don (eH (qB m st) i)).length:=(by omega);have hset:(((cP s.don (eH (qB m st) i)).map fun b=>[eB b]).set i [eB false])=((cP s.don (eH (qB m st) i)).set i false).map fun b=>[eB b]:=(by rw [List.map_set])
     repeat' first|refine go ?_|simp only [ac,hlt,hi31]|decide|refine sp ?_ ?_<;>intro _
     .rename_i h;have hq:qB m st i=true:=by simp [qB,hlt];simpa using h
      exact rI (fq (by (first|((simp only [ik,il,cb,cd,aE.lt,AV.lt,AV.ltL,f9,ai.get,a7,ai.put,↓reduceIte,reduceCtorEq,Nat.reduceLT,Nat.reduceEqDiff,Nat.reduceAdd,Nat.reduceLeDiff,eq_self,implies_true,hset,m4 hq])<;>(repeat' apply And.intro)<;>first|(rw [ic (by omega)];done)|(simp;done)|omega)|fail))) ⟨i+1,by omega,rfl⟩
     .rename_i h;have hq:qB m st i=false:=by simp [qB,hlt];simpa using h
      exact rI (fq (by (first|((simp only [ik,il,cb,cd,aE.lt,AV.lt,AV.ltL,f9,ai.get,a7,ai.put,↓reduceIte,reduceCtorEq,Nat.reduceLT,Nat.reduceEqDiff,Nat.reduceAdd,Nat.reduceLeDiff,eq_self,implies_true,vR hq])<;>(repeat' apply And.intro)<;>first|(rw [ic (by omega)];done)|(simp;done)|omega)|fail))) ⟨i+1,by omega,rfl⟩
    .obtain rfl:i=m.miles.length:=by omega
     have hsum:=A9 (cP s.don (eH (qB m st) m.miles.length)) (by omega);rw [hml31] at hsum
     repeat' first|refine go ?_|simp only [ac,hlt]|decide|refine sp ?_ ?_<;>intro _
     refine ak (by exact hsum) ?_
     repeat' first|refine go ?_|decide|refine sp ?_ ?_<;>intro _
     exact aB (by simp [AV.ren,AV.renL])
   .have es:b7 m.guards[k].stage (m.stages.length:Int)=false:=by unfold b7;rw [Jt];simp only [Ji];omega
    have eR:cw m s (false,(k:Int))=s:=by
     have:rY m m.guards[k].stage=false:=by unfold rY;rw [Jt];simp only [Ji];omega
     simp [cw,bm,hk,this]
    rw [eR]
    repeat' first|refine go ?_|simp only [ac,hk]|decide|refine sp ?_ ?_<;>intro _
    refine ao (by kernel_rfl) ?_
    repeat' first|refine go ?_|simp only [ac,hk]|decide|refine sp ?_ ?_<;>intro _
    refine aD (cG _ _) ?_
    repeat' first|refine go ?_|simp only [ac,hk,ei]|decide|refine sp ?_ ?_<;>intro _
    refine aD (cG _ _) ?_
    repeat' first|refine go ?_|simp only [ac,hk,ei,es]|decide|refine sp ?_ ?_<;>intro _
    exact aB (by simp [AV.ren,AV.renL])
  .have ei:b7 xn (m.guards.length:Int)=false:=by unfold b7;rw [Jt];simp only [Ji];omega
   have eR:cw m s (false,xn)=s:=by
    have:bm m (false,xn)=none:=by
     simp only [bm,Jv,if_false];split
     .rw [Jq (by omega)];try rfl
     .rfl
    simp [cw,this]
   rw [eR]
   repeat' first|refine go ?_|decide|refine sp ?_ ?_<;>intro _
   refine ao (by kernel_rfl) ?_
   repeat' first|refine go ?_|decide|refine sp ?_ ?_<;>intro _
   refine aD (cG _ _) ?_
   repeat' first|refine ge ei ?_|decide|refine sp ?_ ?_<;>intro _
   exact aB (by simp [AV.ren,AV.renL])
theorem C3 (m:aF) (s:St) (x:Bool × Int) (h:cr s.opn /\ cr s.don):cr (cw m s x).opn /\ cr (cw m s x).don:=by
 unfold cw;split
 .split
  .split
   .exact ⟨qS _ _ h.1,nn _ _⟩
   .exact ⟨nn _ _,pQ _ _ _ h.2 _⟩
  .exact h
 .exact h
theorem C4 (m:aF) (event:Int) (s:St) (x:Bool × Int) (h:cr s.opn /\ cr s.don):cr (b8 m event s x).opn /\ cr (b8 m event s x).don:=by
 unfold b8;split
 .exact C3 m s x h
 .exact h
theorem kQ (m:aF) (event:Int):∀ (l:List (Bool × Int)) (s:St),cr s.opn /\ cr s.don -> cr (l.foldl (b8 m event) s).opn /\ cr (l.foldl (b8 m event) s).don
 | [],s,h=>h
 | x :: l,s,h=>kQ m event l _ (C4 m event s x h)
theorem H7 (s:St):(⟨.agg (cJ s),[],0⟩:bS).Ok:=⟨fun id o h=>(by cases h),⟨trivial,trivial,trivial,trivial,trivial,trivial⟩⟩
theorem rQ (m:aF) (s:St) (event:Int) (hf:iC m) (hp:∀ p ∈ m.stages,aA p.2) (ho:cr s.opn) (hd:cr s.don):ap Tryz.prog 61 [.agg (am m),.agg (cJ s),eI event] ⟨.agg (cJ (fc m event s m.order.length)),[],0⟩:=by
 refine aa ae Tryz.func61 rfl (by decide) Tryz.ntmps61 Tryz.results61 rfl (H7 _) ?_
 repeat' first|refine go ?_|decide|refine sp ?_ ?_<;>intro _
 have hol:m.order.length<=40:=hf.sizes.2.2.2.2.2.2.2.2.1;have e0:fc m event s 0=s:=rfl;refine af (fun s'=>∃ k:Nat,k<=m.order.length /\ s'=⟨33,[(2,eI event),(3,.op 0 0 0),(4,.op 1 0 0),(6,.op 2 0 0),(7,eI (k:Int))],[(0,some (.box 32 (am m))),(1,some (.box 47 (cJ (fc m event s k)))),(2,some (.box 47 [.c (.slice none 0 0),eI 0,eI 0,.c (.slice none 0 0),.c (.slice none 0 0)]))],3⟩) (fun st=>m.order.length - aw st 7) ⟨_,(wE e0),0,IY _,rfl⟩ ?_;rintro _ ⟨k,hk,rfl⟩;by_cases hlt:k<m.order.length
 .have ef:fc m event s (k+1)=b8 m event (fc m event s k) m.order[k]:=jh _ _ _ hlt;have hv:=kQ m event (m.order.take k) s ⟨ho,hd⟩
  change cr (fc m event s k).opn /\ cr (fc m event s k).don at hv
  repeat' first|refine go ?_|simp only [ac,hlt]|decide|refine sp ?_ ?_<;>intro _
  generalize fc m event s k=t at ef hv ⊢;refine ao (by kernel_rfl) ?_;obtain ⟨x,hx⟩:∃ x,m.order[k]=x:=⟨_,rfl⟩;rw [hx] at ef
  repeat' first|refine go ?_|simp only [ac,hlt,hx]|decide|refine sp ?_ ?_<;>intro _
  refine aD (yd m t x.1 x.2 event hf (cO hv.1) (cO hv.2)) ?_
  repeat' first|refine go ?_|decide|refine sp ?_ ?_<;>intro _
  .rename_i h;have e1:b8 m event t x=cw m t x:=I8 h;rw [e1] at ef;refine u1 7 (by kernel_rfl) ?_
   repeat' first|refine go ?_|simp only [ac,hlt,hx]|decide|refine sp ?_ ?_<;>intro _
   refine dJ (BN m t x.1 x.2 hf hp hv.1 hv.2) (ro) ?_
   repeat' first|refine go ?_|decide|refine sp ?_ ?_<;>intro _
   exact rI (wE ef) ⟨k+1,by omega,rfl⟩
  .rename_i h;have e1:b8 m event t x=t:=I4 (by rw [show (x:Bool × Int)=(x.1,x.2) from rfl,h];simp);rw [e1] at ef;exact rI (wE ef) ⟨k+1,by omega,rfl⟩
 .obtain rfl:k=m.order.length:=by omega
  repeat' first|refine go ?_|simp only [ac,hlt]|decide|refine sp ?_ ?_<;>intro _
  exact aB (by simp only [AV.ren,AV.renL])
end
section
def ks (f:Nat -> Bool):Nat -> Bool
 | 0=>true
 | n+1=>ks f n && f n
def gJ (f:Nat -> Bool):Nat -> Bool
 | 0=>false
 | n+1=>gJ f n || f n
theorem mQ (f:Nat -> Bool):∀ n,ks f n=true ↔ ∀ i,i<n -> f i=true
 | 0=>by simp [ks]
 | n+1=>by
  rw [ks,I2,mQ f n];constructor
  .intro ⟨h1,h2⟩ i hi;rcases Jk i n with h|h
   .exact h1 i h
   .obtain rfl:i=n:=by omega
    exact h2
  .exact fun h=>⟨fun i hi=>h i (by omega),h n (by omega)⟩
theorem kK (f:Nat -> Bool):∀ n,gJ f n=true ↔ ∃ i,i<n /\ f i=true
 | 0=>by simp [gJ]
 | n+1=>by
  rw [gJ,Kg,kK f n];constructor
  .rintro (⟨i,h1,h2⟩ | h)
   .exact ⟨i,by omega,h2⟩
   .exact ⟨n,by omega,h⟩
  .rintro ⟨i,h1,h2⟩;rcases Jk i n with h|h
   .exact .inl ⟨i,h,h2⟩
   .obtain rfl:i=n:=by omega
    exact .inr h2
theorem nR {f:Nat -> Bool} {k n:Nat} (hk:k<n) (h:f k=true):gJ f n=true:=(kK f n).2 ⟨k,hk,h⟩
theorem lq {f:Nat -> Bool} {k:Nat} (h1:gJ f k=false) (h:f k=false):gJ f (k+1)=false:=by simp [gJ,h1,h]
def nC (n:Int):Int:=2 ^ (max 0 (min n 31)).toNat - 1
def i5 (s n:Int):Bool:=decide (0<=s) && decide (s<=nC n)
def lT (m:aF) (s:St) (i:Nat):Bool:=i5 (s.did.getD i 0) m.users.length && decide (0<=s.cnt.getD i 0) && decide (s.cnt.getD i 0<=(m.events[i]?.map (·.times)).getD 0)
def fe (m:aF) (s:St):Bool:=decide (s.vals.length=m.attrs.length) && decide (s.did.length=m.events.length) && decide (s.cnt.length=m.events.length) && i5 s.opn m.stages.length && i5 s.don m.miles.length && ks (lT m s) m.events.length
def gX (m:aF) (s:St) (k:Nat):Bool:=(m.miles[k]?.map (·.final)).getD false && aR s.don (k:Int)
def jc (m:aF) (s:St):Bool:=gJ (gX m s) m.miles.length
def qa (l:List Int) (i:Int):Int:=if 0<=i /\ i<(l.length:Int) then l.getD i.toNat 0 else 0
def yR (m:aF) (role user:Int):Bool:=decide (0<=role) && decide (role<(m.roles.length:Int)) && decide (0<=user) && decide (user<(m.users.length:Int)) && ((m.roles[role.toNat]?).map (fun p=>aR p.2 user)).getD false
def ko (m:aF) (s:St) (event user:Int) (k:Nat):Bool:=((m.sods[k]?).map (fun x=>((x.1 == event) && aR (qa s.did x.2) user) || ((x.2 == event) && aR (qa s.did x.1) user))).getD false
def Cl (m:aF) (s:St) (event user:Int):Bool:=gJ (ko m s event user) m.sods.length
noncomputable def nG (m:aF) (event:Int):Option Ev:=if 0<=event then m.events[event.toNat]? else none
noncomputable def hY (m:aF) (s:St) (event user:Int):Bool:=
 match nG m event with
 | none=>false
 | some x=>!jc m s && decide (x.stage<(m.stages.length:Int)) && aR s.opn x.stage && yR m x.role user && (decide (x.times<=0) || decide (qa s.cnt event<x.times))
noncomputable def bf (m:aF) (s:St) (event user:Int):Bool:=hY m s event user && !Cl m s event user
def dQ (f:Nat -> Bool):Nat -> List Int
 | 0=>[]
 | n+1=>if f n=true then dQ f n ++ [(n:Int)] else dQ f n
theorem iU (f:Nat -> Bool):∀ n,(dQ f n).length<=n
 | 0=>by simp [dQ]
 | n+1=>by
  have:=iU f n;unfold dQ;split
  .simp;omega
  .omega
noncomputable def qX (m:aF) (s:St) (event:Int):List Int:=dQ (fun u=>bf m s event (u:Int)) m.users.length
end
section
section
variable {P:Program} {f:FuncId} {args:List AV}
theorem DK {cx:Cx} {w':World} {L:Nat -> Value} {v:Value} {R:bS} (h5:R.Ok) (h7:fZ cx w' R.tab L) (h8:bn cx w' R.tab L v R.r) (id:Nat):(R.frz id).Ok /\ fZ cx w' (R.frz id).tab L /\ bn cx w' (R.frz id).tab L v (R.frz id).r:=by
 unfold bS.frz;split
 .rename_i e' sz rows hid;obtain ⟨h9,h10⟩:=nw h7 (fun k o hk=>(h5.young k o hk).2) hid;refine ⟨⟨fun k o hk=>?_,jQ h5.lt⟩,h9,h10 v _ h8 h5.lt⟩;simp only [ag.gc,bU] at hk;split at hk
  .cases hk
  .cases hg:R.tab.get k with
   | none=>simp [hg] at hk
   | some o'=>
    simp [hg] at hk;subst hk;exact ⟨(h5.young k o' hg).1,j1 (h5.young k o' hg).2⟩
 .exact ⟨h5,h7,h8⟩
theorem tg {cx:Cx} {w':World} {L:Nat -> Value} {v:Value}:∀ (ids:List Nat) {R:bS},R.Ok -> fZ cx w' R.tab L -> bn cx w' R.tab L v R.r -> (R.frzs ids).Ok /\ fZ cx w' (R.frzs ids).tab L /\ bn cx w' (R.frzs ids).tab L v (R.frzs ids).r
 | [],R,h1,h2,h3=>⟨h1,h2,h3⟩
 | id :: ids,R,h1,h2,h3=>by
  obtain ⟨h4,h5,h6⟩:=DK h1 h2 h3 id;exact tg ids h4 h5 h6
inductive kC:AV -> AV -> Prop
 | one {a b:AV} (h:nc a b):kC a b
 | tup {l l':List AV} (h:jV l l'):kC (.tup l) (.tup l')
theorem zL {w:World} {S:Nat -> Prop} {K:Nat -> Option (Nat × Value)} {x:Value} {av:AV} (h:RV w S K x av):av.lt 0 -> RT w S x av:=by
 induction h with
 | tree h=>exact fun _=>h
 | osl x id h=>exact fun h2=>by simp [AV.lt] at h2
 | op x id i j h=>exact fun h2=>by simp [AV.lt] at h2
 | agg xs cs hn hr ih=>
  intro h2;simp only [AV.lt] at h2;exact .agg xs cs hn fun j x av h3 h4=>ih j x av h3 h4 (ah.1 h2 av (p0 h4))
 | tup xs cs hn hr ih=>
  intro h2;simp only [AV.lt] at h2;exact .tup xs cs hn fun j x av h3 h4=>ih j x av h3 h4 (ah.1 h2 av (p0 h4))
 | fn f xs cs hn hr ih=>
  intro h2;simp only [AV.lt] at h2;exact .fn f xs cs hn fun j x av h3 h4=>ih j x av h3 h4 (ah.1 h2 av (p0 h4))
 | bfn f xs cs hn hr ih=>
  intro h2;simp only [AV.lt] at h2;exact .bfn f xs cs hn fun j x av h3 h4=>ih j x av h3 h4 (ah.1 h2 av (p0 h4))
theorem RT.tup_inv {w:World} {S:Nat -> Prop} {x:Value} {cs:List AV} (h:RT w S x (.tup cs)):∃ xs:Array Value,x=.tuple xs /\ xs.size=cs.length /\ ∀ (j:Nat) (x:Value) (av:AV),xs[j]? = some x -> cs[j]? = some av -> RT w S x av:=by
 cases h with
 | tup xs _ hn hr=>exact ⟨xs,rfl,hn,hr⟩
theorem kC.rt {w:World} {S:Nat -> Prop} {v:Value} {a b:AV} (h:kC a b) (hr:RT w S v a):RT w S v b:=by
 cases h with
 | one h=>exact h.rt hr
 | @tup l l' h=>
  obtain ⟨xs,rfl,hn,hx⟩:=hr.tup_inv;obtain ⟨h1,h2⟩:=h.spec;refine .tup xs l' (by omega) fun j x av h3 h4=>?_
  have hj:j<l.length:=by
   have:=(IV.1 h4).1;omega
  have h5:l[j]? = some l[j]:=IU hj;exact (h2 j _ av h5 h4).rt (hx j x _ h3 h5)
theorem qL {R:bS} (h1:cd R.n R.tab) (h2:R.r.lt R.n):R.Ok:=by
 refine ⟨?_,h2⟩;revert h1;generalize R.tab=T
 induction T with
 | nil=>exact fun _ id o h=>by cases h
 | cons p T ih=>
  obtain ⟨k,ob⟩:=p;intro h1 id o h;rw [ag.gc] at h
  cases ob with
  | none=>
   simp only [cd] at h1;split at h
   .cases h
   .exact ih h1 id o h
  | some ob=>
   simp only [cd] at h1;split at h
   .rename_i e;cases h;exact ⟨by rw [e];exact h1.1.1,h1.1.2⟩
   .exact ih h1.2 id o h
theorem bh.tree {Post:bS -> Prop} {r':AV} (h:bh P f args Post) (hl:r'.lt 0) (hp:∀ R,Post R -> ∃ ids,(R.frzs ids).r.lt 0 /\ kC (R.frzs ids).r r'):ap P f args ⟨r',[],0⟩:=
 ⟨h.1,fun S w vs h1 h2 h3=>(h.2 S w vs h1 h2 h3).mono fun e w' ⟨v,L,R,h4,h5,h6,h7,h8⟩=>by
  obtain ⟨ids,ha,hc⟩:=hp R h4;obtain ⟨h9,h10,h11⟩:=tg ids h5 h7 h8;have hext:iu (Cx.mk0 S w h1) w' (R.frzs ids).tab L 0 w' [] L:=⟨fun _ _=>rfl,fun b hb=>⟨hb.1,hb.2.1,fun k o hk=>(by cases hk)⟩,fun k p _ hk=>by simp [Kx,ag.get] at hk⟩;have h12:=zL (hext.rv h11 ha) ha;exact ⟨v,L,⟨r',[],0⟩,rfl,⟨fun id o hk=>(by cases hk),hl⟩,h6,⟨h10.below,fun id o hk=>(by cases hk),fun id id' o o' g hk=>(by cases hk),fun b hb=>hb.elim⟩,.tree (hc.rt h12)⟩⟩
end
def dE (m:aF):St:=⟨m.inits,0,0,List.replicate m.events.length 0,List.replicate m.events.length 0⟩
def cD (m:aF):bS:=⟨.agg [sI m.inits,eI 0,eI 0,.osl 0,.osl 1],[(0,some (.row 3 1 ((List.replicate m.events.length 0).map fun n=>[eI n]))),(1,some (.row 3 1 ((List.replicate m.events.length 0).map fun n=>[eI n])))],2⟩
end
section
structure Mv where
 event:Int
 user:Int
 vals:List Int
abbrev oU (v:Mv):List AV:=[eI v.event,eI v.user,sI v.vals]
abbrev nV (l:List Mv):AV:=.sl 3 (l.map oU)
def fN (v:Mv):Bool:=(v.event == -1) && (v.user == -1) && decide (v.vals.length=0)
def fE (m:aF):St:=fc m (-1) (dE m) m.order.length
theorem yM (m:aF) (hl:m.inits.length<=1000000) (hl2:m.events.length<=1000000):ap Tryz.prog 62 [.agg (am m)] ⟨.agg (cJ (dE m)),[],0⟩:=by
 refine ap.still (R:=⟨.agg [.osl 2,eI 0,eI 0,.osl 0,.osl 1],(2,some (.row 2 1 (m.inits.map fun n=>[eI n]))) :: (cD m).tab,3⟩) [0,1,2] ?_ ?_ (by simp [AV.lt,AV.ltL])
 .refine aa ae Tryz.func62 rfl (by decide) Tryz.ntmps62 Tryz.results62 rfl (qL (by simp [cD,cd,aE.lt,AV.ltL,AV.lt]) (by simp [AV.lt,AV.ltL])) ?_
  repeat' first|refine go ?_|decide|refine sp ?_ ?_<;>intro _
  refine bk [1] [1,2,4,6] (.three 0 (.three 3 (.two 5 (.exec 7 (.take 8 (.exec 9 .done))) 7 (.exec 5 (.take 8 (.exec 9 .done)))) 5 (.two 3 (.exec 7 (.take 8 (.exec 9 .done))) 7 (.exec 3 (.take 8 (.exec 9 .done)))) 7 (.two 3 (.exec 5 (.take 8 (.exec 9 .done))) 5 (.exec 3 (.take 8 (.exec 9 .done))))) 5 (.two 0 (.two 3 (.exec 7 (.take 8 (.exec 9 .done))) 7 (.exec 3 (.take 8 (.exec 9 .done)))) 7 (.exec 0 (.exec 3 (.take 8 (.exec 9 .done))))) 7 (.two 0 (.two 3 (.exec 5 (.take 8 (.exec 9 .done))) 5 (.exec 3 (.take 8 (.exec 9 .done)))) 5 (.exec 0 (.exec 3 (.take 8 (.exec 9 .done)))))) (by kernel_rfl) (by simp [ag.gc]) ?_
  repeat' first|refine gq ?_|decide|refine sp ?_ ?_<;>intro _|(with_reducible apply And.intro)
  all_goals first
   | omega
   | rfl
   | exact ⟨[2,3,4],by decide,rfl,by simp [du,cD,ag.gc]⟩
   | exact ⟨[2,3,5],by decide,rfl,by simp [du,cD,ag.gc]⟩
   | exact ⟨[2,4,3],by decide,rfl,by simp [du,cD,ag.gc]⟩
   | exact ⟨[2,4,5],by decide,rfl,by simp [du,cD,ag.gc]⟩
   | exact ⟨[2,5,3],by decide,rfl,by simp [du,cD,ag.gc]⟩
   | exact ⟨[2,5,4],by decide,rfl,by simp [du,cD,ag.gc]⟩
   | exact ⟨[3,2,4],by decide,rfl,by simp [du,cD,ag.gc]⟩
   | exact ⟨[3,2,5],by decide,rfl,by simp [du,cD,ag.gc]⟩
   | exact ⟨[3,4,5],by decide,rfl,by simp [du,cD,ag.gc]⟩
   | exact ⟨[3,5,4],by decide,rfl,by simp [du,cD,ag.gc]⟩
   | exact ⟨[4,2,5],by decide,rfl,by simp [du,cD,ag.gc]⟩
   | exact ⟨[4,3,5],by decide,rfl,by simp [du,cD,ag.gc]⟩
   | exact ⟨[4,5,3],by decide,rfl,by simp [du,cD,ag.gc]⟩
   | exact ⟨[5,2,4],by decide,rfl,by simp [du,cD,ag.gc]⟩
   | exact ⟨[5,4,3],by decide,rfl,by simp [du,cD,ag.gc]⟩
   | exact ⟨[5,3,4],by decide,rfl,by simp [du,cD,ag.gc]⟩
 .simp [cD,dE,bS.frzs,bS.frz,ag.gc,AV.frz,AV.frzL,bP,aE.frz]
theorem yb (m:aF) (hf:iC m) (hp:∀ p ∈ m.stages,aA p.2):ap Tryz.prog 19 [.agg (am m)] ⟨.agg (cJ (fE m)),[],0⟩:=by
 refine aa ae Tryz.func19 rfl (by decide) Tryz.ntmps19 Tryz.results19 rfl (H7 _) ?_;obtain ⟨-,-,-,hel,-,-,-,-,-,hil⟩:=id hf.sizes;have z:cr 0:=by unfold cr;omega
 repeat' first|refine go ?_|decide|refine sp ?_ ?_<;>intro _
 refine bk [1] [0,1] (.exec 2 (.exec 3 (.exec 4 .done))) (by kernel_rfl) (by simp [ag.gc]) ?_
 repeat' first|refine gq ?_|decide|refine sp ?_ ?_<;>intro _|((with_reducible apply dJ (g:=62));exact (yM _ (by omega) (by omega));exact (ro))|((with_reducible apply dJ (g:=61));exact (rQ m (dE m) (-1) hf hp z z);exact (ro))
 exact aB (by simp [AV.ren,AV.renL,fE])
end
section
def bO (sets mv vals:List Int):Nat -> List Int
 | 0=>vals
 | k+1=>
  let v:=bO sets mv vals k
  let a:=sets.getD k 0
  if 0<=a /\ a<(v.length:Int) then v.set a.toNat (mv.getD k 0) else v
theorem cz (sets mv vals:List Int):∀ k,(bO sets mv vals k).length=vals.length
 | 0=>rfl
 | k+1=>by
  have:=cz sets mv vals k;unfold bO;simp only;split
  .simp [this]
  .exact this
noncomputable def cj (m:aF) (s:St) (v:Mv):St:=
 match nG m v.event with
 | none=>s
 | some x=>⟨bO x.sets v.vals s.vals x.sets.length,s.opn,s.don,s.did.set v.event.toNat (ba (s.did.getD v.event.toNat 0) v.user),if 0<x.times then s.cnt.set v.event.toNat (s.cnt.getD v.event.toNat 0+1) else s.cnt⟩
noncomputable def CG (m:aF) (s:St):Bool:=gJ (fun e=>gJ (fun u=>bf m s (e:Int) (u:Int)) m.users.length) m.events.length
def g6 (m:aF) (event:Int):Nat:=((m.events[event.toNat]?).map (fun x=>x.sets.length)).getD 0
noncomputable def gH (m:aF) (s:St) (v:Mv):Int:=
 if fe m s=false then 15 else if fN v=true then (if CG m s=true then 16 else 0) else if bf m s v.event v.user=false then 16 else if v.vals.length=g6 m v.event then 0 else 17
theorem iQ {m:aF} {s:St} {event user:Int} (h:bf m s event user=true):∃ k:Nat,event=(k:Int) /\ ∃ h:k<m.events.length,nG m event=some m.events[k]:=by
 unfold bf hY at h;unfold nG at h ⊢;by_cases h0:0<=event
 .rw [I8 h0] at h ⊢
  cases hk:m.events[event.toNat]? with
  | none=>rw [hk] at h;simp at h
  | some x=>
   obtain ⟨h1,h2⟩:=IV.1 hk;exact ⟨event.toNat,by omega,h1,by rw [h2]⟩
 .rw [I4 h0] at h;simp at h
def kH:St:=⟨[],0,0,[],[]⟩
noncomputable def oD (m:aF) (s:St) (v:Mv):St × Int:=
 if gH m s v=0 then (if fN v=true then s else fc m v.event (cj m s v) m.order.length,0) else (kH,gH m s v)
theorem Fm {r' av:AV} {st:ai} (hr:av.ren []=av) (hl:av.lt 0) (hf:kC av r'):∃ R:bS,(∃ ids,(R.frzs ids).r.lt 0 /\ kC (R.frzs ids).r r') /\ R.Ok /\ cI R st av:=⟨⟨av,[],0⟩,⟨[],hl,hf⟩,⟨fun id o h=>(by cases h),hl⟩,aB hr⟩
theorem ym (m:aF) (s:St) (v:Mv) (hs:∀ x ∈ s.vals,aA x) (hv:∀ x ∈ v.vals,aA x):∀ x ∈ (cj m s v).vals,aA x:=by
 unfold cj;split
 .exact hs
 .rename_i x hx;simp only;generalize x.sets.length=n
  induction n with
  | zero=>exact hs
  | succ k ih=>
   unfold bO;simp only;split
   .intro y hy;rcases J1 hy with h|h
    .exact ih y h
    .rw [h,JB];by_cases hk:k<v.vals.length
     .rw [IU hk];exact hv _ (IZ hk)
     .rw [Jq (by omega)];unfold aA;simp
   .exact ih
end
section
section
variable {P:Program} {cx:Cx} {a:Act} {w w':World} {st:ai} {L L':Nat -> Value} {l0 n:Nat}
end
end
section
abbrev IG:=List (List AV) × Bool
section
variable {P:Program} {l:Nat} {xs:List (List AV)} {Q:Exit -> IG -> ai -> Prop} {g:IG} {st:ai} {K:IG -> ai -> Prop} {ops:Array Oper} {dst:Option Tmp} {op:Op} {ty:TypeId} {pos:String} {aft:Array Edge} {gd:Option (Nat × Bool)} {rest:List Oper}
end
section
variable {P:Program} {l:Nat} {xs:List (List AV)} {T0:Nat -> Prop} {W0:World} {J Jx:List (List AV) -> (Nat -> Prop) -> (Nat -> Prop) -> World -> Prop} {g:IG} {st st':ai} {a a':Act} {W W':World} {L L':Nat -> Value} {T M M':Nat -> Prop}
end
end
end
section
section
mutual
def AV.rpz (id:Nat) (cells:List AV):AV -> AV
 | .op id' i j=>if id'=id then (if i=0 then .rp (cells.drop j) else .any) else .op id' i j
 | .osl id'=>if id'=id then .any else .osl id'
 | .agg cs=>.agg (AV.rpzL id cells cs)
 | .tup cs=>.tup (AV.rpzL id cells cs)
 | .fn f cs=>.fn f (AV.rpzL id cells cs)
 | .bfn f cs=>.bfn f (AV.rpzL id cells cs)
 | .any=>.any
 | .c v=>.c v
 | .sl sz rows=>.sl sz rows
 | .rp cs=>.rp cs
def AV.rpzL (id:Nat) (cells:List AV):List AV -> List AV
 | []=>[]
 | a :: l=>a.rpz id cells :: AV.rpzL id cells l
end
theorem dM (id:Nat) (cells:List AV):∀ l:List AV,AV.rpzL id cells l=l.map (·.rpz id cells)
 | []=>rfl
 | a :: l=>by rw [AV.rpzL,dM id cells l];rfl
def fY (id:Nat) (cells:List AV):List (Nat × AV) -> List (Nat × AV)
 | []=>[]
 | (t,av) :: l=>(t,av.rpz id cells) :: fY id cells l
theorem ov (id:Nat) (cells:List AV):∀ (l:List (Nat × AV)) (t:Nat),a7 (fY id cells l) t=(a7 l t).rpz id cells
 | [],t=>rfl
 | (k,av) :: l,t=>by
  unfold fY a7;split
  .rfl
  .exact ov id cells l t
def cp:aE -> Prop
 | .box _ cells=>aI cells
 | .row _ _ _=>True
 | .map _=>True
 | .nest _ _ _=>False
 | .ghost _ _=>False
def bK (id:Nat):ag -> Prop
 | []=>True
 | (k,some o) :: l=>(k=id \/ cp o) /\ bK id l
 | (_,none) :: l=>bK id l
theorem iD {id:Nat}:∀ {l:ag} {k:Nat} {o:aE},bK id l -> l.get k=some o -> k=id \/ cp o
 | [],k,o,_,h=>by cases h
 | (k',some oo) :: l,k,o,ht,h=>by
  rw [ag.gc] at h;split at h
  .rename_i e;cases h;rw [e];exact ht.1
  .exact iD ht.2 h
 | (k',none) :: l,k,o,ht,h=>by
  rw [ag.gc] at h;split at h
  .cases h
  .exact iD (l:=l) ht h
theorem G6 {w:World} {S:Nat -> Prop} {x:Value} {av:AV} (h:RT w S x av) (id:Nat) (cells:List AV):av.rpz id cells=av:=by
 induction h with
 | agg xs cs hn hr ih=>
  simp only [AV.rpz,dM,AV.agg.injEq];apply JH;intro j;rw [IW]
  cases hj:cs[j]? with
  | none=>rfl
  | some av=>
   have hlt:j<xs.size:=by rw [hn];exact (IV.1 hj).1
   simp [ih j _ av (IX hlt) hj]
 | tup xs cs hn hr ih=>
  simp only [AV.rpz,dM,AV.tup.injEq];apply JH;intro j;rw [IW]
  cases hj:cs[j]? with
  | none=>rfl
  | some av=>
   have hlt:j<xs.size:=by rw [hn];exact (IV.1 hj).1
   simp [ih j _ av (IX hlt) hj]
 | fn f xs cs hn hr ih=>
  simp only [AV.rpz,dM,AV.fn.injEq];refine ⟨trivial,?_⟩;apply JH;intro j;rw [IW]
  cases hj:cs[j]? with
  | none=>rfl
  | some av=>
   have hlt:j<xs.size:=by rw [hn];exact (IV.1 hj).1
   simp [ih j _ av (IX hlt) hj]
 | bfn f xs cs hn hr ih=>
  simp only [AV.rpz,dM,AV.bfn.injEq];refine ⟨trivial,?_⟩;apply JH;intro j;rw [IW]
  cases hj:cs[j]? with
  | none=>rfl
  | some av=>
   have hlt:j<xs.size:=by rw [hn];exact (IV.1 hj).1
   simp [ih j _ av (IX hlt) hj]
 | _=>rfl
theorem G7 {id nx:Nat} {cells:List AV}:∀ {av:AV},av.lt nx -> (av.rpz id cells).lt nx:=by
 intro av
 induction av using AV.rec (motive_2:=fun _=>True) (motive_3:=fun l=>AV.ltL nx l -> AV.ltL nx (AV.rpzL id cells l))<;>simp_all [AV.lt,AV.ltL,AV.rpz,AV.rpzL]
 .split<;>simp_all [AV.lt]
 .split
  .split<;>simp [AV.lt]
  .simp_all [AV.lt]
theorem nW {n nx:Nat} {env:List (Nat × AV)} {tab:ag} (id:Nat) {ty:TypeId} {cells:List AV} (hid:tab.get id=some (.box ty cells)) (ht:eY cells) (hot:bK id tab):dw ⟨n,env,tab,nx⟩ ⟨n,fY id cells env,(id,none) :: tab,nx⟩:=by
 intro cx a w L h
 have hget:∀ k o,ag.get ((id,none) :: tab) k=some o -> k ≠ id /\ tab.get k=some o:=fun k o hk=>by
  rw [ag.gc] at hk;split at hk
  .cases hk
  .exact ⟨by assumption,hk⟩
 have hS:∀ b,Sx cx w tab L b -> Sx cx w ((id,none) :: tab) L b:=fun b hb=>⟨hb.1,hb.2.1,fun k o hk=>hb.2.2 k o (hget k o hk).2⟩
 have hK:∀ k p,Kx ((id,none) :: tab) L k=some p -> k ≠ id /\ Kx tab L k=some p:=fun k p hk=>by
  unfold Kx at *
  cases ho:ag.get ((id,none) :: tab) k with
  | none=>simp [ho] at hk
  | some o=>
   obtain ⟨h1,h2⟩:=hget k o ho;refine ⟨h1,?_⟩;rw [h2];simpa [ho] using hk
 obtain ⟨g,cs,hL,hbg,hheap,hcs,hx⟩:=h.lay.objs id _ hid;have hg:aG (L id)=some g:=by rw [hL];rfl
 have hSg:Sx cx w ((id,none) :: tab) L g:=⟨(Jj.1 hheap).1,⟨.inr hbg,fun hX=>(h.lay.ex g hX).2 id _ hid hg⟩,fun k o hk hkg=>by
  obtain ⟨h1,h2⟩:=hget k o hk;exact h1 (h.lay.sep k id o _ g h2 hid hkg hg)⟩
 have conv:∀ x av,bn cx w tab L x av -> bn cx w ((id,none) :: tab) L x (av.rpz id cells):=fun x av hr=>by
  induction hr with
  | tree h0=>
   rw [G6 h0];exact .tree (h0.mono (fun _ _=>rfl) hS)
  | osl x id' h0=>
   unfold AV.rpz;split
   .exact .tree (.any _)
   .exact .osl x id' fun sz v e=>h0 sz v (hK id' _ e).2
  | op x id' i j h0=>
   unfold AV.rpz;split
   .rename_i e;subst e;split
    .rename_i e;subst e;obtain ⟨g',hg',rfl⟩:=h0 _ _ (bZ hid);rw [hg] at hg';cases hg';rw [KK,Kl];refine .tree (.rp g j _ (fun k=>cs[j+k]?.getD undef) hSg (fun k av hk=>?_) (fun k av hk=>?_))
     .rw [Jy] at hk;have hlt:j+k<cs.size:=by rw [hcs];exact (IV.1 hk).1
      rw [cell_of_row w g (j+k) cs ty (0,0) hheap,IX hlt];rfl
     .rw [Jy] at hk;have hlt:j+k<cs.size:=by rw [hcs];exact (IV.1 hk).1
      rw [IX hlt,Ju];exact (nL (hx (j+k) _ av (IX hlt) hk).1 (gW ht (p0 hk))).mono (fun _ _=>rfl) hS
    .exact .tree (.any _)
   .exact .op x id' i j fun sz v e=>h0 sz v (hK id' _ e).2
  | agg xs cs' hn hr ih=>
   simp only [AV.rpz,dM];refine .agg xs _ (by simpa using hn) fun j x av h1 h2=>?_;rw [IW] at h2
   cases hj:cs'[j]? with
   | none=>simp [hj] at h2
   | some av'=>
    simp [hj] at h2;subst h2;exact ih j x av' h1 hj
  | tup xs cs' hn hr ih=>
   simp only [AV.rpz,dM];refine .tup xs _ (by simpa using hn) fun j x av h1 h2=>?_;rw [IW] at h2
   cases hj:cs'[j]? with
   | none=>simp [hj] at h2
   | some av'=>
    simp [hj] at h2;subst h2;exact ih j x av' h1 hj
  | fn f xs cs' hn hr ih=>
   simp only [AV.rpz,dM];refine .fn f xs _ (by simpa using hn) fun j x av h1 h2=>?_;rw [IW] at h2
   cases hj:cs'[j]? with
   | none=>simp [hj] at h2
   | some av'=>
    simp [hj] at h2;subst h2;exact ih j x av' h1 hj
  | bfn f xs cs' hn hr ih=>
   simp only [AV.rpz,dM];refine .bfn f xs _ (by simpa using hn) fun j x av h1 h2=>?_;rw [IW] at h2
   cases hj:cs'[j]? with
   | none=>simp [hj] at h2
   | some av'=>
    simp [hj] at h2;subst h2;exact ih j x av' h1 hj
 refine ⟨L,⟨⟨h.lay.below,fun k o hk=>?_,fun k k' o o' g' h1 h2=>h.lay.sep k k' o o' g' (hget k o h1).2 (hget k' o' h2).2,fun b hb=>⟨(h.lay.ex b hb).1,fun k o hk=>(h.lay.ex b hb).2 k o (hget k o hk).2⟩⟩,h.size,h.defers.mono (fun _ _=>rfl) hS,fun k o hk=>h.young k o (hget k o hk).2,fun t=>?_⟩,hS⟩
 .obtain ⟨h1,h2⟩:=hget k o hk;have ho:=h.lay.objs k o h2;have htr:=(iD hot h2).resolve_left h1
  cases o with
  | box t cells'=>
   obtain ⟨g',cs',h3,h4,h5,h6,h7⟩:=ho;exact ⟨g',cs',h3,h4,h5,h6,fun j x av h8 h9=>⟨.tree ((dA (h7 j x av h8 h9).1 (dH.1 htr av (p0 h9))).mono (fun _ _=>rfl) hS),(h7 j x av h8 h9).2⟩⟩
  | row e sz rows=>
   obtain ⟨h3,xs,h4,h5,h6⟩:=ho;refine ⟨h3,xs,h4,h5,fun i j row av h7 h8=>?_⟩;obtain ⟨x,hx,hr⟩:=h6 i j row av h7 h8;exact ⟨x,hx,hr.mono (fun _ _=>rfl) hS⟩
  | map ents=>exact ho
  | nest=>exact htr.elim
  | ghost vs env=>exact htr.elim
 .have e1:(⟨n,fY id cells env,(id,none) :: tab,nx⟩:ai).get t=((⟨n,env,tab,nx⟩:ai).get t).rpz id cells:=by
   unfold ai.get;simp only;split
   .exact ov ..
   .simp [AV.rpz]
  rw [e1];exact ⟨conv _ _ (h.env t).1,G7 (h.env t).2⟩
theorem pB:∀ {l:List AV},aI l -> eY l
 | [],_=>trivial
 | a :: l,h=>⟨by
   have:=h.1;cases a<;>first|exact this|exact this.elim,pB h.2⟩
theorem cN {n nx:Nat} {env:List (Nat × AV)} {tab:ag} (id:Nat) {ty:TypeId} {cells:List AV} (hid:tab.get id=some (.box ty cells)) (ht:aI cells) (hot:bK id tab):dw ⟨n,env,tab,nx⟩ ⟨n,fY id cells env,(id,none) :: tab,nx⟩:=nW id hid (pB ht) hot
theorem eE {st:ai} (id j e sz:Nat) {t:TypeId} {cells:List AV} (hid:st.tab.get id=some (.box t cells)) (hj:cells[j]? = some (.c (.slice none 0 0))) :
  dw st ⟨st.n,st.env,(id,some (.box t (cells.set j (.osl st.next)))) :: (st.next,some (.row e sz [])) :: st.tab,st.next+1⟩:=by
 intro cx a w L h;have hc1:=gm (ob:=.row e sz []) (v:=.slice none 0 0) (x:=.slice none 0 0) (av:=.any) h (Below.refl _ _) (fun g hg=>by simp [aG] at hg) (fun hext=>⟨by simp,[],gA ..,by simp,by simp⟩) trivial (fun hext=>.tree (.any _)) trivial none;have hlt:=(h.young id _ hid).1;have hget1:ag.get ((st.next,some (.row e sz [])) :: st.tab) id=some (.box t cells):=by rw [ag.gc,I4 (by omega)];exact hid
 generalize hL1:bc L st.next (.slice none 0 0)=L1 at hc1;generalize ht1:(st.next,some (aE.row e sz [])) :: st.tab=tab1 at hc1 hget1 ⊢;have hc1:aH cx a w ⟨st.n,st.env,tab1,st.next+1⟩ L1:=hc1;have hnew:ag.get tab1 st.next=some (.row e sz []):=by rw [<- ht1,ag.gc,I8 rfl]
 have hLn:L1 st.next=.slice none 0 0:=by rw [<- hL1];simp [bc]
 have hget:∀ k o,ag.get ((id,some (.box t (cells.set j (.osl st.next)))) :: tab1) k=some o -> ∃ o',ag.get tab1 k=some o' /\ o.sz=o'.sz:=fun k o hk=>by
  rw [ag.gc] at hk;split at hk
  .rename_i e1;cases hk;exact ⟨_,by rw [e1];exact hget1,by simp [aE.sz]⟩
  .exact ⟨o,hk,rfl⟩
 have hS1:∀ b,Sx cx w tab1 L1 b -> Sx cx w ((id,some (.box t (cells.set j (.osl st.next)))) :: tab1) L1 b:=fun b hb=>⟨hb.1,hb.2.1,fun k o hk=>by
  obtain ⟨o',h1,_⟩:=hget k o hk;exact hb.2.2 k o' h1⟩
 have hK:∀ k p,Kx ((id,some (.box t (cells.set j (.osl st.next)))) :: tab1) L1 k=some p -> Kx tab1 L1 k=some p:=fun k p hk=>by
  unfold Kx at *
  cases ho:ag.get ((id,some (.box t (cells.set j (.osl st.next)))) :: tab1) k with
  | none=>simp [ho] at hk
  | some o=>
   obtain ⟨o',h1,h2⟩:=hget k o ho;rw [h1];simpa [ho,h2] using hk
 have hrv:∀ {x av},bn cx w tab1 L1 x av -> av.lt (st.next+1) -> bn cx w ((id,some (.box t (cells.set j (.osl st.next)))) :: tab1) L1 x av:=fun hr hl=>hr.mono hl (fun _ _=>rfl) hS1 fun k p _ hk=>hK k p hk
 refine ⟨L1,⟨⟨hc1.lay.below,fun k o hk=>?_,fun k k' o o' g h1 h2=>?_,fun b hb=>⟨(hc1.lay.ex b hb).1,fun k o hk=>by
  obtain ⟨o',h1,_⟩:=hget k o hk;exact (hc1.lay.ex b hb).2 k o' h1⟩⟩,hc1.size,hc1.defers.mono (fun _ _=>rfl) hS1,fun k o hk=>?_,fun t=>⟨hrv (hc1.env t).1 (hc1.env t).2,(hc1.env t).2⟩⟩,fun b hb=>hS1 b ?_⟩
 .rw [ag.gc] at hk;split at hk
  .rename_i e1;cases hk;subst e1;obtain ⟨g,cs,h1,h2,h3,h4,h5⟩:=hc1.lay.objs _ _ hget1;refine ⟨g,cs,h1,h2,h3,by simpa using h4,fun i x av h6 h7=>?_⟩;rw [Kb] at h7;split at h7
   .rename_i e2;subst e2;split at h7
    .cases h7;have h8:=h5 j x _ h6 hj;refine ⟨.osl x _ fun sz' v hk=>?_,h8.2⟩;have hk:=hK _ _ hk;unfold Kx at hk;rw [hnew] at hk;simp at hk;rw [h8.1.c_inv,<- hk.2,hLn]
    .cases h7
   .have h8:=h5 i x av h6 h7;exact ⟨hrv h8.1 (ah.1 (hc1.young _ _ hget1).2 _ (p0 h7)),h8.2⟩
  .have ho:=hc1.lay.objs k o hk;have hy:=(hc1.young k o hk).2
   cases o with
   | box t' cells'=>
    obtain ⟨g,cs,h1,h2,h3,h4,h5⟩:=ho;exact ⟨g,cs,h1,h2,h3,h4,fun i x av h6 h7=>⟨hrv (h5 i x av h6 h7).1 (ah.1 hy _ (p0 h7)),(h5 i x av h6 h7).2⟩⟩
   | row e' sz' rows'=>
    obtain ⟨h1,xs,h2,h3,h4⟩:=ho;refine ⟨h1,xs,h2,h3,fun i j row av h5 h6=>?_⟩;obtain ⟨x,hx,hr⟩:=h4 i j row av h5 h6;exact ⟨x,hx,hr.mono (fun _ _=>rfl) hS1⟩
   | map ents=>exact ho
   | nest e' sz' rows'=>
    obtain ⟨h1,xs,h2,h3,h4⟩:=ho;refine ⟨h1,xs,h2,h3,fun i j row av h5 h6=>?_⟩;obtain ⟨x,hx,hr⟩:=h4 i j row av h5 h6;exact ⟨x,hx,hrv hr (ah.1 (hy row (p0 h5)) _ (p0 h6))⟩
   | ghost vs env=>exact ⟨ho.1,fun t ht=>hrv (ho.2 t ht) (fB hy t)⟩
 .obtain ⟨o1,h3,_⟩:=hget k o h1;obtain ⟨o2,h4,_⟩:=hget k' o' h2;exact hc1.lay.sep k k' o1 o2 g h3 h4
 .rw [ag.gc] at hk;split at hk
  .rename_i e1;cases hk;have hy:=hc1.young id _ hget1;refine ⟨by rw [e1];exact hy.1,ah.2 fun x hx=>?_⟩;rcases J1 hx with hx|rfl
   .exact ah.1 hy.2 x hx
   .exact JQ _
  .exact hc1.young k o hk
 .refine ⟨hb.1,hb.2.1,fun k o hk hg=>?_⟩;rw [<- ht1,ag.gc] at hk;rw [<- hL1] at hg;unfold bc at hg;split at hk
  .rename_i e1;rw [I8 e1] at hg;simp [aG] at hg
  .rename_i e1;rw [I4 e1] at hg;exact hb.2.2 k o hk hg
theorem Dy {Post:bS -> Prop} {st:ai} {r av:AV} (h:Post ⟨r,[],0⟩) (hl:r.lt 0) (hr:r.ren []=av):∃ R,Post R /\ R.Ok /\ cI R st av:=⟨_,h,⟨fun id o h=>(by cases h),hl⟩,⟨[],List.nodup_nil,hr,trivial⟩⟩
end
section
theorem fU (m:aF) (s:St) (hl:m.miles.length<=1000000) (hd:aA s.don):ap Tryz.prog 143 [.agg (am m),.agg (cJ s)] (val (.bool (jc m s))):=by
 refine aa ae Tryz.func143 rfl (by decide) Tryz.ntmps143 Tryz.results143 rfl (aq _) ?_
 repeat' first|refine gq ?_|decide|refine sp ?_ ?_<;>intro _
 unfold jc;refine af (fun st=>∃ k:Nat,k<=m.miles.length /\ gJ (gX m s) k=false /\ st=⟨25,[(2,.op 0 0 0),(3,.op 1 0 0),(5,eI (k:Int))],[(0,some (.box 32 (am m))),(1,some (.box 47 (cJ s)))],2⟩) (fun st=>m.miles.length - aw st 5) ⟨_,wC,0,IY _,rfl,rfl⟩ ?_;rintro _ ⟨k,hk,hI,rfl⟩;by_cases hlt:k<m.miles.length
 .have eF:gX m s k=(m.miles[k].final && aR s.don (k:Int)):=by simp [gX,hlt]
  repeat' first|refine gq ?_|simp only [ac,hlt]|decide|refine sp ?_ ?_<;>intro _|((with_reducible first|apply ak (g:=10)|apply aD (g:=10));exact (cY _ _ hd))
  all_goals first
   | (symm;refine nR hlt ?_;rw [eF];grind)
   | exact rI wC ⟨k+1,by omega,lq hI (by rw [eF];grind),rfl⟩
 .obtain rfl:k=m.miles.length:=by omega
  repeat' first|refine gf @hlt ?_|decide|refine sp ?_ ?_<;>intro _
  exact hI.symm
theorem jI (n most:Int):ap Tryz.prog 142 [eI n,eI most] (val (.bool (b7 n most))):=by
 refine aa ae Tryz.func142 rfl (by decide) Tryz.ntmps142 Tryz.results142 rfl (aq _) ?_;unfold b7
 repeat' first|refine go ?_|decide|refine sp ?_ ?_<;>intro _
 all_goals grind
theorem wy (m:aF) (s:St) (event user:Int) (hl:m.miles.length<=1000000) (ho:aA s.opn) (hd:aA s.don) (hr:∀ p ∈ m.roles,aA p.2):ap Tryz.prog 125 [.agg (am m),.agg (cJ s),eI event,eI user] (val (.bool (hY m s event user))):=by
 refine aa ae Tryz.func125 rfl (by decide) Tryz.ntmps125 Tryz.results125 rfl (aq _) ?_;by_cases h:0<=event /\ event<(m.events.length:Int)
 .obtain ⟨k,rfl⟩:∃ k:Nat,event=(k:Int):=⟨event.toNat,by omega⟩;have hk:k<m.events.length:=by omega
  obtain ⟨x,hx⟩:∃ x,m.events[k]=x:=⟨_,rfl⟩;have ee:nG m (k:Int)=some x:=by simp [nG,hk,hx]
  have eR:hY m s k user=(!jc m s && decide (x.stage<(m.stages.length:Int)) && aR s.opn x.stage && yR m x.role user && (decide (x.times<=0) || decide (qa s.cnt k<x.times))):=by simp only [hY,ee]
  have eN:¬ 0<=x.stage -> aR s.opn x.stage=false:=fun h=>gv _ _ (by omega);rw [eR];by_cases hc:k<s.cnt.length
  .have eA:qa s.cnt k=s.cnt[k]:=(by simp [qa,hc]);by_cases hro:0<=x.role /\ x.role<(m.roles.length:Int)
   .obtain ⟨q,hq⟩:∃ q:Nat,x.role=(q:Int):=⟨x.role.toNat,by omega⟩;have hq2:q<m.roles.length:=(by omega);have eO:yR m x.role user=(decide (0<=user) && decide (user<(m.users.length:Int)) && aR m.roles[q].2 user):=(by simp [yR,hq,hq2]);have hrq:=hr _ (IZ hq2);rw [eA,eO];unfold b7 at *
    repeat' first|refine gq ?_|simp only [ac,hk,hx,hc,hq,hq2]|decide|refine sp ?_ ?_<;>intro _|((with_reducible first|apply ak (g:=10)|apply aD (g:=10));exact (cY _ _ ho))|((with_reducible first|apply ak (g:=10)|apply aD (g:=10));exact (cY _ _ hrq))|((with_reducible first|apply ak (g:=143)|apply aD (g:=143));exact (fU _ _ hl hd))|((with_reducible first|apply ak (g:=142)|apply aD (g:=142));exact (jI _ _))
    all_goals (unfold b7 at *;grind)
   .have eO:yR m x.role user=false:=by
     have:(decide (0<=x.role) && decide (x.role<(m.roles.length:Int)))=false:=by
      rw [Jt];simp only [Ji];omega
     simp [yR,this]
    have eI':b7 x.role (m.roles.length:Int)=false:=by unfold b7;grind
    rw [eA,eO]
    repeat' first|refine gq ?_|simp only [ac,hk,hx,hc,eI']|decide|refine sp ?_ ?_<;>intro _|((with_reducible first|apply ak (g:=10)|apply aD (g:=10));exact (cY _ _ ho))|((with_reducible first|apply ak (g:=143)|apply aD (g:=143));exact (fU _ _ hl hd))|((with_reducible first|apply ak (g:=142)|apply aD (g:=142));exact (jI _ _))
    all_goals (unfold b7 at *;grind)
  .have eA:qa s.cnt k=0:=by simp [qa];omega
   by_cases hro:0<=x.role /\ x.role<(m.roles.length:Int)
   .obtain ⟨q,hq⟩:∃ q:Nat,x.role=(q:Int):=⟨x.role.toNat,by omega⟩;have hq2:q<m.roles.length:=(by omega);have eO:yR m x.role user=(decide (0<=user) && decide (user<(m.users.length:Int)) && aR m.roles[q].2 user):=(by simp [yR,hq,hq2]);have hrq:=hr _ (IZ hq2);rw [eA,eO]
    repeat' first|refine gq ?_|simp only [ac,hk,hx,hc,hq,hq2]|decide|refine sp ?_ ?_<;>intro _|((with_reducible first|apply ak (g:=10)|apply aD (g:=10));exact (cY _ _ ho))|((with_reducible first|apply ak (g:=10)|apply aD (g:=10));exact (cY _ _ hrq))|((with_reducible first|apply ak (g:=143)|apply aD (g:=143));exact (fU _ _ hl hd))|((with_reducible first|apply ak (g:=142)|apply aD (g:=142));exact (jI _ _))
    all_goals (unfold b7 at *;grind)
   .have eO:yR m x.role user=false:=by
     have:(decide (0<=x.role) && decide (x.role<(m.roles.length:Int)))=false:=by
      rw [Jt];simp only [Ji];omega
     simp [yR,this]
    have eI':b7 x.role (m.roles.length:Int)=false:=by unfold b7;grind
    rw [eA,eO]
    repeat' first|refine gq ?_|simp only [ac,hk,hx,hc,eI']|decide|refine sp ?_ ?_<;>intro _|((with_reducible first|apply ak (g:=10)|apply aD (g:=10));exact (cY _ _ ho))|((with_reducible first|apply ak (g:=143)|apply aD (g:=143));exact (fU _ _ hl hd))|((with_reducible first|apply ak (g:=142)|apply aD (g:=142));exact (jI _ _))
    all_goals (unfold b7 at *;grind)
 .have ee:nG m event=none:=by
   unfold nG;split
   .exact Jq (by omega)
   .rfl
  have eR:hY m s event user=false:=by simp only [hY,ee]
  have eI':b7 event (m.events.length:Int)=false:=by unfold b7;grind
  rw [eR]
  repeat' first|refine gf eI' ?_|decide|refine sp ?_ ?_<;>intro _|((with_reducible first|apply ak (g:=142)|apply aD (g:=142));exact (jI _ _))
end
section
theorem zj (s:St) (event user:Int) (hd:∀ x ∈ s.did,aA x):ap Tryz.prog 126 [.agg (cJ s),eI event,eI user] (val (.bool (aR (qa s.did event) user))):=by
 refine aa ae Tryz.func126 rfl (by decide) Tryz.ntmps126 Tryz.results126 rfl (aq _) ?_;by_cases h:0<=event /\ event<(s.did.length:Int)
 .obtain ⟨k,rfl⟩:∃ k:Nat,event=(k:Int):=⟨event.toNat,by omega⟩;have hk:k<s.did.length:=by omega
  have eA:qa s.did k=s.did[k]:=by simp [qa,hk]
  have eI':b7 (k:Int) (s.did.length:Int)=true:=by unfold b7;simp;omega
  rw [eA]
  repeat' first|refine gq ?_|simp only [ac,hk,eI']|decide|refine sp ?_ ?_<;>intro _|((with_reducible first|apply ak (g:=142)|apply aD (g:=142));exact (jI _ _))|((with_reducible first|apply ak (g:=10)|apply aD (g:=10));exact (cY _ _ (hd _ (IZ hk))))
 .have eA:qa s.did event=0:=by unfold qa;rw [I4 h]
  have eI':b7 event (s.did.length:Int)=false:=by unfold b7;grind
  have eB':aR 0 user=false:=by simp [aR]
  rw [eA,eB']
  repeat' first|refine gf eI' ?_|decide|refine sp ?_ ?_<;>intro _|((with_reducible first|apply ak (g:=142)|apply aD (g:=142));exact (jI _ _))
theorem nt (m:aF) (s:St) (event user:Int) (hl:m.miles.length<=1000000) (hl2:m.sods.length<=1000000) (ho:aA s.opn) (hd:aA s.don) (hr:∀ p ∈ m.roles,aA p.2) (hdid:∀ x ∈ s.did,aA x):ap Tryz.prog 103 [.agg (am m),.agg (cJ s),eI event,eI user] (val (.bool (bf m s event user))):=by
 refine aa ae Tryz.func103 rfl (by decide) Tryz.ntmps103 Tryz.results103 rfl (aq _) ?_;unfold bf
 cases hfr:hY m s event user with
 | false=>
  repeat' first|refine gf @hfr ?_|decide|refine sp ?_ ?_<;>intro _|((with_reducible first|apply ak (g:=125)|apply aD (g:=125));exact (wy m s event user hl ho hd hr))
  rfl
 | true=>
  repeat' first|refine gf @hfr ?_|decide|refine sp ?_ ?_<;>intro _|((with_reducible first|apply ak (g:=125)|apply aD (g:=125));exact (wy m s event user hl ho hd hr))
  unfold Cl;refine af (fun st=>∃ k:Nat,k<=m.sods.length /\ gJ (ko m s event user) k=false /\ st=⟨57,[(2,eI event),(3,eI user),(4,.op 0 0 0),(5,.op 1 0 0),(9,eI (k:Int))],[(0,some (.box 32 (am m))),(1,some (.box 47 (cJ s)))],2⟩) (fun st=>m.sods.length - aw st 9) ⟨_,wC,0,IY _,rfl,rfl⟩ ?_;rintro _ ⟨k,hk,hI,rfl⟩;by_cases hlt:k<m.sods.length
  .obtain ⟨⟨a,b⟩,hx⟩:∃ x,m.sods[k]=x:=⟨_,rfl⟩;have ex:rj m.sods[k]=[eI a,eI b]:=(by rw [hx]);have eF:ko m s event user k=(((a == event) && aR (qa s.did b) user) || ((b == event) && aR (qa s.did a) user)):=(by simp [ko,hlt,hx])
   repeat' first|refine ge @hlt ?_|decide|refine sp ?_ ?_<;>intro _
   refine bk [] [0,1,2,3,4,5,6,7,8,9,10,11] (.exec 12 (.exec 13 .done)) (by kernel_rfl) (by simp [ag.gc]) ?_
   repeat' first|refine gq ?_|simp only [ac,hlt,ex]|decide|refine sp ?_ ?_<;>intro _|((with_reducible first|apply ak (g:=126)|apply aD (g:=126));exact (zj s b user hdid))|((with_reducible first|apply ak (g:=126)|apply aD (g:=126));exact (zj s a user hdid))
   all_goals first
    | (rw [show gJ (ko m s event user) m.sods.length=true from nR hlt (by rw [eF];grind)];rfl)
    | exact rI wC ⟨k+1,by omega,lq hI (by rw [eF];grind),rfl⟩
  .obtain rfl:k=m.sods.length:=by omega
   repeat' first|refine gf @hlt ?_|decide|refine sp ?_ ?_<;>intro _
   rw [hI];rfl
theorem zc (m:aF) (s:St) (event:Int) (hl:m.miles.length<=1000000) (hl2:m.sods.length<=1000000) (hl3:m.users.length<=1000000) (ho:aA s.opn) (hd:aA s.don) (hr:∀ p ∈ m.roles,aA p.2) (hdid:∀ x ∈ s.did,aA x):ap Tryz.prog 101 [.agg (am m),.agg (cJ s),eI event] (cu 3 1 ((qX m s event).map fun n=>[eI n])):=by
 refine aa ae Tryz.func101 rfl (by decide) Tryz.ntmps101 Tryz.results101 rfl (cK _ _ _) ?_
 repeat' first|refine go ?_|decide|refine sp ?_ ?_<;>intro _
 unfold qX;obtain ⟨f,hf⟩:∃ f:Nat -> Bool,f=fun u:Nat=>bf m s event (u:Int):=⟨_,rfl⟩;rw [<- hf];have e0:dQ f 0=[]:=rfl;refine af (fun st=>∃ k:Nat,k<=m.users.length /\ st=⟨26,[(2,eI event),(3,.op 0 0 0),(4,.op 1 0 0),(7,.osl 2),(8,eI (k:Int))],[(0,some (.box 32 (am m))),(1,some (.box 47 (cJ s))),(2,some (.row 3 1 ((dQ f k).map fun n=>[eI n])))],3⟩) (fun st=>m.users.length - aw st 8) ⟨_,((aW 7 3 1 (by simp only [f9,ai.get,a7,ai.put,↓reduceIte,reduceCtorEq,Nat.reduceLT,Nat.reduceEqDiff,Nat.reduceAdd,Nat.reduceLeDiff,eq_self,implies_true,e0,Jo])).trans (wS [0,1,2] e0)),0,IY _,rfl⟩ ?_;rintro _ ⟨k,hk,rfl⟩;have hlen:=iU f k;by_cases hlt:k<m.users.length
 .have hef:bf m s event (k:Int)=f k:=by rw [hf]
  repeat' first|refine gf @hlt ?_|decide|refine sp ?_ ?_<;>intro _|((refine ak (nt m s event (k:Int) hl hl2 ho hd hr hdid) ?_;rw [hef]))
  .rename_i h
   have et:(dQ f (k+1)).map (fun n=>[eI n])=(dQ f k).map (fun n=>[eI n]) ++ [[eI (k:Int)]]:=by
    rw [dQ,I8 h];simp
   refine ⟨rfl,by omega,rI (wS [0,1,4] et) ⟨k+1,by omega,rfl⟩⟩
  .rename_i h
   have et:dQ f (k+1)=dQ f k:=by
    rw [dQ,I4 (by simp [h])]
   exact rI (wE et) ⟨k+1,by omega,rfl⟩
 .obtain rfl:k=m.users.length:=by omega
  repeat' first|refine gf @hlt ?_|decide|refine sp ?_ ?_<;>intro _
  exact a5 (by simp [ag.gc])
theorem o8 (f:Nat -> Bool):∀ n,decide (0<((dQ f n).length:Int))=gJ f n
 | 0=>rfl
 | n+1=>by
  have:=o8 f n;unfold dQ gJ;split
  .rename_i h;simp [h]
  .rename_i h;simp only [h,Bool.or_false,this]
theorem FD (m:aF) (s:St) (hle:m.events.length<=1000000) (hl:m.miles.length<=1000000) (hl2:m.sods.length<=1000000) (hl3:m.users.length<=1000000) (ho:aA s.opn) (hd:aA s.don) (hr:∀ p ∈ m.roles,aA p.2) (hdid:∀ x ∈ s.did,aA x):ap Tryz.prog 102 [.agg (am m),.agg (cJ s)] (val (.bool (CG m s))):=by
 refine aa ae Tryz.func102 rfl (by decide) Tryz.ntmps102 Tryz.results102 rfl (aq _) ?_
 repeat' first|refine go ?_|decide|refine sp ?_ ?_<;>intro _
 unfold CG;obtain ⟨f,hf⟩:∃ f:Nat -> Bool,f=fun e:Nat=>gJ (fun u=>bf m s (e:Int) (u:Int)) m.users.length:=⟨_,rfl⟩;rw [<- hf];refine af (fun st=>∃ k:Nat,k<=m.events.length /\ gJ f k=false /\ st=⟨19,[(2,.op 0 0 0),(3,.op 1 0 0),(5,eI (k:Int))],[(0,some (.box 32 (am m))),(1,some (.box 47 (cJ s)))],2⟩) (fun st=>m.events.length - aw st 5) ⟨_,wC,0,IY _,rfl,rfl⟩ ?_;rintro _ ⟨k,hk,hI,rfl⟩;by_cases hlt:k<m.events.length
 .have hef:decide (0<((qX m s (k:Int)).length:Int))=f k:=by rw [hf];exact o8 _ _
  repeat' first|refine gf @hlt ?_|decide|refine sp ?_ ?_<;>intro _|((with_reducible apply cQ (g:=101));exact (zc m s (k:Int) hl hl2 hl3 ho hd hr hdid);exact (.inr bq))
  all_goals rename_i h
  all_goals simp only [Jd,hef] at h
  .symm;exact nR hlt h
  .exact rI wC ⟨k+1,by omega,lq hI h,rfl⟩
 .obtain rfl:k=m.events.length:=by omega
  repeat' first|refine gf @hlt ?_|decide|refine sp ?_ ?_<;>intro _
  exact hI.symm
end
section
theorem m6 (n:Nat):nC (n:Int)=((2 ^ (min n 31) - 1:Nat):Int):=by
 have h1:(max 0 (min (n:Int) 31)).toNat=min n 31:=by omega
 have h2:0<2 ^ (min n 31):=Nat.two_pow_pos _;unfold nC;rw [h1];generalize min n 31=k at *;have:((2 ^ k:Nat):Int)=(2:Int) ^ k:=by simp
 omega
theorem ku (s:Int) (n:Nat) (hs:0<=s /\ s<2147483648):i5 s (n:Int)=true ↔ ∀ i:Nat,n<=i -> i<31 -> aR s (i:Int)=false:=by
 obtain ⟨q,rfl⟩:∃ q:Nat,s=(q:Int):=⟨s.toNat,by omega⟩;have hq:q<2 ^ 31:=by omega
 have hl:ii (q:Int)=q:=by
  simp only [ii];omega
 unfold i5;rw [m6];have h2:0<2 ^ (min n 31):=Nat.two_pow_pos _;constructor
 .intro h i h3 h4;simp at h;have hlt:q<2 ^ (min n 31):=by omega
  rw [ct _ _ h4,hl];refine Kr (I1 hlt ?_);exact JP (by omega) (by omega)
 .intro h
  have hlt:q<2 ^ (min n 31):=by
   refine Nat.lt_pow_two_of_testBit _ fun i hi=>?_;by_cases h31:i<31
   .have:=h i (by omega) h31
    rwa [ct _ _ h31,hl] at this
   .refine Kr (I1 hq ?_);exact JP (by omega) (by omega)
  simp;omega
theorem wJ (n:Nat):nC (n:Int)<2147483648:=by
 rw [m6];have:2 ^ (min n 31)<=2 ^ 31:=JP (by omega) (by omega);have h2:0<2 ^ (min n 31):=Nat.two_pow_pos _;omega
theorem f6 {s:Int} {n:Nat} (h:i5 s (n:Int)=true):cr s:=by
 unfold i5 at h;simp at h;have:=wJ n;unfold cr;omega
theorem nK (s:Int) (n:Nat) (hs:aA s):ap Tryz.prog 124 [eI s,eI (n:Int)] (val (.bool (i5 s (n:Int)))):=by
  refine aa ae Tryz.func124 rfl (by decide) Tryz.ntmps124 Tryz.results124 rfl (aq _) ?_
  repeat' first|refine go ?_|decide|refine sp ?_ ?_<;>intro _
  refine af (fun st=>∃ k:Nat,k<=31 /\ (∀ i:Nat,n<=i -> i<k -> aR s (i:Int)=false) /\ st=⟨24,[(0,eI s),(1,eI (n:Int)),(5,eI (k:Int))],[],0⟩) (fun st=>31 - aw st 5) ⟨_,wC,0,IY _,by simp,rfl⟩ ?_;rintro _ ⟨k,hk,hI,rfl⟩;by_cases hlt:k<31
  . have h31:(k:Int)<31:=by omega
    repeat' first|refine gf h31 ?_|decide|refine sp ?_ ?_<;>intro _|((with_reducible first|apply ak (g:=10)|apply aD (g:=10));exact (cY _ _ hs))
    all_goals first
      | (rename_i h1 h2
         simp at h1;symm;rw [JK];intro hof;have:=(ku s n (f6 hof)).1 hof k (by omega) hlt;rw [this] at h2;cases h2)
      | (rename_i h1 h2
         simp at h1;refine rI wC ⟨k+1,by omega,fun i hi hi2=>?_,rfl⟩;rcases Jk i k with h3|h3
         . exact hI i hi h3
         . obtain rfl:i=k:=by omega
           exact h2)
      | (rename_i h1
         simp at h1;refine rI wC ⟨k+1,by omega,fun i hi hi2=>?_,rfl⟩;exact hI i hi (by omega))
  . obtain rfl:k=31:=by omega
    have h31:(((31:Nat):Int)<31)=False:=by simp
    repeat' first|refine gf h31 ?_|decide|refine sp ?_ ?_<;>intro _
    . rename_i h1;simp at h1;by_cases h2:s<=2147483647
      . rw [(ku s n ⟨h1,by omega⟩).2 hI];simp [h2]
      . have h3:i5 s (n:Int)=false:=by
          rw [JK];intro hof;have:=f6 hof;unfold cr at this;omega
        rw [h3];simp [h2]
    . rename_i h1;simp at h1;symm;rw [JK];intro hof;have:=f6 hof;unfold cr at this;omega
theorem sq (m:aF) (s:St) (hl:m.events.length<=1000000) (ho:aA s.opn) (hd:aA s.don) (hdid:∀ x ∈ s.did,aA x):ap Tryz.prog 100 [.agg (am m),.agg (cJ s)] (val (.bool (fe m s))):=by
 refine aa ae Tryz.func100 rfl (by decide) Tryz.ntmps100 Tryz.results100 rfl (aq _) ?_;by_cases hsz:s.vals.length=m.attrs.length /\ s.did.length=m.events.length /\ s.cnt.length=m.events.length
 .obtain ⟨h1,h2,h3⟩:=hsz;have n1:(((s.vals.length:Nat):Int) != ((m.attrs.length:Nat):Int))=false:=by simp [h1]
  have n2:(((s.did.length:Nat):Int) != ((m.events.length:Nat):Int))=false:=by simp [h2]
  have n3:(((s.cnt.length:Nat):Int) != ((m.events.length:Nat):Int))=false:=by simp [h3]
  have hall:fe m s=(i5 s.opn m.stages.length && i5 s.don m.miles.length && ks (lT m s) m.events.length):=by simp [fe,h1,h2,h3]
  rw [hall];obtain ⟨f,hf⟩:∃ f,f=lT m s:=⟨_,rfl⟩;rw [<- hf];have e0:ks f 0=true:=rfl
  have loop:∀ (b0:Bool) (k:Nat),k<m.events.length -> ∀ b,(b0 && ks f k)=b -> (b0 && ks f (k+1))=(b && f k):=fun b0 k hk b hb=>by
   rw [<- hb];simp [ks,Bool.and_assoc]
  repeat' first|refine gf (kf n1 (kf n2 n3)) ?_|decide|refine sp ?_ ?_<;>intro _|((with_reducible first|apply ak (g:=124)|apply aD (g:=124));exact (nK _ _ ho))|((with_reducible first|apply ak (g:=124)|apply aD (g:=124));exact (nK _ _ hd))
  .rename_i h;rw [h,JU];obtain ⟨b0,hb0⟩:∃ b,i5 s.don m.miles.length=b:=⟨_,rfl⟩;rw [hb0];refine af (fun st=>∃ k:Nat,k<=m.events.length /\ st=⟨86,[(2,.op 0 0 0),(3,.op 1 0 0),(5,eI (m.events.length:Int)),(6,eB (b0 && ks f k)),(7,eI (k:Int))],[(0,some (.box 32 (am m))),(1,some (.box 47 (cJ s)))],2⟩) (fun st=>m.events.length - aw st 7) ⟨_,(wE (kf hb0 (kf e0 @Bool.and_true))),0,IY _,rfl⟩ ?_;rintro _ ⟨k,hk,rfl⟩;by_cases hlt:k<m.events.length
   .have hd':k<s.did.length:=(by omega);have hc:k<s.cnt.length:=(by omega);have eF:f k=(i5 s.did[k] m.users.length && decide (0<=s.cnt[k]) && decide (s.cnt[k]<=m.events[k].times)):=by rw [hf];simp [lT,hd',hc,hlt]
    have hs:=loop b0 k hlt;obtain ⟨b,hb⟩:∃ b,(b0 && ks f k)=b:=⟨_,rfl⟩;have hs:=hs b hb;rw [hb]
    repeat' first|refine gq ?_|simp only [ac,hlt,hd',hc]|decide|refine sp ?_ ?_<;>intro _|((with_reducible first|apply ak (g:=124)|apply aD (g:=124));exact (nK _ _ (hdid _ (IZ hd'))))
    .have hv:(b0 && ks f (k+1))=decide (s.cnt[k]<=m.events[k].times):=(by grind);exact rI (wE hv) ⟨k+1,by omega,rfl⟩
    all_goals
     have hv:(b0 && ks f (k+1))=false:=(by grind);exact rI (wE hv) ⟨k+1,by omega,rfl⟩
   .obtain rfl:k=m.events.length:=by omega
    repeat' first|refine gf @hlt ?_|decide|refine sp ?_ ?_<;>intro _
  .rename_i h;rw [h];refine af (fun st=>∃ k:Nat,k<=m.events.length /\ st=⟨86,[(2,.op 0 0 0),(3,.op 1 0 0),(5,eI (m.events.length:Int)),(6,eB false),(7,eI (k:Int))],[(0,some (.box 32 (am m))),(1,some (.box 47 (cJ s)))],2⟩) (fun st=>m.events.length - aw st 7) ⟨_,wC,0,IY _,rfl⟩ ?_;rintro _ ⟨k,hk,rfl⟩;by_cases hlt:k<m.events.length
   .repeat' first|refine gf @hlt ?_|decide|refine sp ?_ ?_<;>intro _
    all_goals exact rI wC ⟨k+1,by omega,rfl⟩
   .obtain rfl:k=m.events.length:=by omega
    repeat' first|refine gf @hlt ?_|decide|refine sp ?_ ?_<;>intro _
    simp
 .have hall:fe m s=false:=by
   unfold fe;rw [JK];simp only [ne_eq,I2,Je]
   grind
  rw [hall]
  repeat' first|refine gq ?_|decide|refine sp ?_ ?_<;>intro _
  all_goals first
   | rfl
   | (exfalso;grind)
end
end
section
section
theorem ja (v:Mv):ap Tryz.prog 70 [.agg (oU v)] (val (.bool (fN v))):=by
 refine aa ae Tryz.func70 rfl (by decide) Tryz.ntmps70 Tryz.results70 rfl (aq _) ?_;unfold fN
 repeat' first|refine go ?_|decide|refine sp ?_ ?_<;>intro _
 all_goals grind
theorem ea (l:List Int) {k:Nat} (h:k<l.length):((l.take (k+1)).map fun n=>[eI n])=((l.take k).map fun n=>[eI n]) ++ [[eI l[k]]]:=df (fun n=>[eI n]) l h
theorem vg (sets mv vals:List Int) (i:Nat) (hi:i<vals.length) (k:Nat) (hk:k<sets.length) (hm:k<mv.length) :
  (bO sets mv vals (k+1))[i]'(by rw [cz];exact hi)=if sets[k]=(i:Int) then mv[k] else (bO sets mv vals k)[i]'(by rw [cz];exact hi):=by
 have e:bO sets mv vals (k+1)=if 0<=sets[k] /\ sets[k]<((bO sets mv vals k).length:Int) then (bO sets mv vals k).set (sets[k]).toNat mv[k] else bO sets mv vals k:=by
  rw [bO];simp only [JB,IU hk,IU hm,Ju]
 have hl:=cz sets mv vals k;simp only [e];by_cases h:sets[k]=(i:Int)
 .rw [I8 h];have h2:0<=sets[k] /\ sets[k]<((bO sets mv vals k).length:Int):=by omega
  simp only [I8 h2];rw [List.getElem_set,I8 (by omega)]
 .rw [I4 h];by_cases h2:0<=sets[k] /\ sets[k]<((bO sets mv vals k).length:Int)
  .simp only [I8 h2];rw [List.getElem_set_ne (by omega)]
  .simp only [I4 h2]
theorem y3 (m:aF) (s:St) (v:Mv) (e:Nat) (x:Ev) (he:v.event=(e:Int)) (hlt:e<m.events.length) (hx:m.events[e]=x) (hd:e<s.did.length) (hc:e<s.cnt.length) (hv:x.sets.length=v.vals.length) (hu:0<=v.user /\ v.user<31) (hdid:aA s.did[e]) (hce:s.cnt.length=m.events.length)
  (hl1:s.vals.length<=1000000) (hl2:s.did.length<=1000000) (hl3:s.cnt.length<=1000000) (hl4:x.sets.length<=1000000) (hw:0<x.times -> -9223372036854775808<=s.cnt[e] /\ s.cnt[e]<9223372036854775807) :
  ap Tryz.prog 71 [.agg (am m),.agg (cJ s),.agg (oU v)] ⟨.agg (cJ (cj m s v)),[],0⟩:=by
 obtain ⟨ve,vu,vv⟩:=v;simp only at he hv hu;subst he;have ee:nG m (e:Int)=some x:=by simp [nG,hlt,hx]
 have et:cj m s ⟨(e:Int),vu,vv⟩=⟨bO x.sets vv s.vals x.sets.length,s.opn,s.don,s.did.set e (ba s.did[e] vu),if 0<x.times then s.cnt.set e (s.cnt[e]+1) else s.cnt⟩:=by
  unfold cj;simp only [ee,J4,JB,IU hd,IU hc,Ju]
 rw [et];obtain ⟨V,hV⟩:∃ V,bO x.sets vv s.vals x.sets.length=V:=⟨_,rfl⟩;obtain ⟨D,hD⟩:∃ D,s.did.set e (ba s.did[e] vu)=D:=⟨_,rfl⟩;obtain ⟨C,hC⟩:∃ C,(if 0<x.times then s.cnt.set e (s.cnt[e]+1) else s.cnt)=C:=⟨_,rfl⟩;have hVl:V.length=s.vals.length:=by rw [<- hV,cz]
 have hDl:D.length=s.did.length:=by rw [<- hD,List.length_set]
 have hCl:C.length=s.cnt.length:=by rw [<- hC];split<;>simp
 rw [hV,hD,hC];refine ap.still (R:=⟨.agg [.osl 0,eI s.opn,eI s.don,.osl 1,.osl 2],[(0,some (.row 2 1 (V.map fun n=>[eI n]))),(1,some (.row 3 1 (D.map fun n=>[eI n]))),(2,some (.row 3 1 (C.map fun n=>[eI n])))],3⟩) [0,1,2] ?_ ?_ (by simp [AV.lt,AV.ltL])
 .refine aa ae Tryz.func71 rfl (by decide) Tryz.ntmps71 Tryz.results71 rfl (qL (by simp [cd,aE.lt,AV.ltL,AV.lt]) (by simp [AV.lt,AV.ltL])) ?_
  repeat' first|refine go ?_|decide|refine sp ?_ ?_<;>intro _
  refine af (fun st'=>∃ i:Nat,i<=s.vals.length /\ st'=⟨134,[(3,.op 0 0 0),(4,.op 1 0 0),(5,.op 2 0 0),(6,.op 3 0 0),(7,.op 4 0 0),(8,eI (i:Int))],[(0,some (.box 32 (am m))),(1,some (.box 47 (cJ s))),(2,some (.box 82 [eI (e:Int),eI vu,sI vv])),(3,some (.box 47 [.c (.slice none 0 0),eI 0,eI 0,.c (.slice none 0 0),.c (.slice none 0 0)])),(4,some (.box 47 [.osl 5,eI s.opn,eI s.don,.c (.slice none 0 0),.c (.slice none 0 0)])),(5,some (.row 2 1 ((V.take i).map fun n=>[eI n])))],6⟩) (fun st'=>s.vals.length - aw st' 8)
   ⟨_,(eE 4 0 2 1 (t:=47) (cells:=[.c (.slice none 0 0),eI s.opn,eI s.don,.c (.slice none 0 0),.c (.slice none 0 0)]) (by simp [ag.gc]) rfl).trans (wE (kf @Kt @I5)),0,IY _,rfl⟩ ?_
  rintro _ ⟨i,hi,rfl⟩;by_cases hi2:i<s.vals.length
  .repeat' first|refine go ?_|simp only [ac,hi2]|decide|refine sp ?_ ?_<;>intro _
   have hVi:i<V.length:=(by omega);have hg:∀ k,i<(bO x.sets vv s.vals k).length:=fun k=>by rw [cz];exact hi2
   have e0:(bO x.sets vv s.vals 0)[i]'(hg 0)=s.vals[i]:=rfl;refine af (fun st'=>∃ k:Nat,k<=x.sets.length /\ ∃ n,n=(bO x.sets vv s.vals k)[i]'(hg k) /\ st'=⟨134,[(3,.op 0 0 0),(4,.op 1 0 0),(5,.op 2 0 0),(6,.op 3 0 0),(7,.op 4 0 0),(8,eI (i:Int)),(9,eI n),(10,eI (k:Int))],[(0,some (.box 32 (am m))),(1,some (.box 47 (cJ s))),(2,some (.box 82 [eI (e:Int),eI vu,sI vv])),(3,some (.box 47 [.c (.slice none 0 0),eI 0,eI 0,.c (.slice none 0 0),.c (.slice none 0 0)])),(4,some (.box 47 [.osl 5,eI s.opn,eI s.don,.c (.slice none 0 0),.c (.slice none 0 0)])),(5,some (.row 2 1 ((V.take i).map fun n=>[eI n])))],6⟩) (fun st'=>x.sets.length - aw st' 10) ⟨_,wC,0,IY _,_,e0.symm,rfl⟩ ?_;rintro _ ⟨k,hk,n,hn,rfl⟩;by_cases hk2:k<x.sets.length
   .have hkv:k<vv.length:=(by omega);obtain ⟨a,ha⟩:∃ a,x.sets[k]=a:=⟨_,rfl⟩;have hst:=vg x.sets vv s.vals i hi2 k hk2 hkv;rw [<- hn,ha] at hst
    repeat' first|refine go ?_|simp only [ac,hlt,hx,hk2,hkv,ha]|decide|refine sp ?_ ?_<;>intro _
    .rename_i h;simp at h;refine rI wC ⟨k+1,by omega,vv[k],?_,rfl⟩;rw [hst,I8 h]
    .rename_i h;simp at h;refine rI wC ⟨k+1,by omega,n,?_,rfl⟩;rw [hst,I4 h]
   .obtain rfl:k=x.sets.length:=by omega
    have hkv:(x.sets.length<vv.length)=False:=by simp;omega
    have hn2:n=V[i]:=by rw [hn];simp only [hV]
    have htk:(V.take (i+1)).map (fun n=>[eI n])=(V.take i).map (fun n=>[eI n]) ++ [[eI n]]:=(by rw [ea V hVi,hn2]);have htl:(V.take i).length<=1000000:=by rw [Jf];omega
    repeat' first|refine go ?_|simp only [ac,hlt,hx,hkv]|decide|refine sp ?_ ?_<;>intro _
    exact ⟨rfl,⟨by omega,by omega⟩,rI (wS [0,1,2,3,4,7] @htk) ⟨i+1,by omega,rfl⟩⟩
  .obtain rfl:i=s.vals.length:=by omega
   have hVt:V.take s.vals.length=V:=by rw [<- hVl];exact I9
   repeat' first|refine ge (kf hi2 @hVt) ?_|decide|refine sp ?_ ?_<;>intro _
   refine af (fun st'=>∃ i:Nat,i<=s.did.length /\ st'=⟨134,[(3,.op 0 0 0),(4,.op 1 0 0),(5,.op 2 0 0),(6,.op 3 0 0),(7,.op 4 0 0),(11,eI (i:Int))],[(0,some (.box 32 (am m))),(1,some (.box 47 (cJ s))),(2,some (.box 82 [eI (e:Int),eI vu,sI vv])),(3,some (.box 47 [.c (.slice none 0 0),eI 0,eI 0,.c (.slice none 0 0),.c (.slice none 0 0)])),(4,some (.box 47 [.osl 5,eI s.opn,eI s.don,.osl 6,.c (.slice none 0 0)])),(5,some (.row 2 1 (V.map fun n=>[eI n]))),(6,some (.row 3 1 ((D.take i).map fun n=>[eI n])))],7⟩) (fun st'=>s.did.length - aw st' 11)
    ⟨_,(eE 4 3 3 1 (t:=47) (cells:=[.osl 5,eI s.opn,eI s.don,.c (.slice none 0 0),.c (.slice none 0 0)]) (by simp [ag.gc]) rfl).trans (wE (kf @Kt (kf @KM @I5))),0,IY _,rfl⟩ ?_
   rintro _ ⟨i,hi,rfl⟩;by_cases hi3:i<s.did.length
   .have hDi:i<D.length:=(by omega);have htl:(D.take i).length<=1000000:=by rw [Jf];omega
    have hpt:=zB s.did[e] vu true hdid hu.1 hu.2;rw [I8 rfl] at hpt;by_cases hie:i=e
    .subst hie;have hDe:D[i]=ba s.did[i] vu:=(by simp only [<- hD,List.getElem_set_self]);have htk:(D.take (i+1)).map (fun n=>[eI n])=(D.take i).map (fun n=>[eI n]) ++ [[eI (ba s.did[i] vu)]]:=(by rw [ea D hDi,hDe]);have hq:(((i:Nat):Int) == ((i:Nat):Int))=true:=(by simp)
     repeat' first|refine gq ?_|simp only [ac,hi3,hq]|decide|refine sp ?_ ?_<;>intro _|refine cA hpt ?_|fail
     exact ⟨rfl,⟨by omega,by omega⟩,rI (wS [0,1,2,3,4,5,8] @htk) ⟨i+1,by omega,rfl⟩⟩
    .have hDe:D[i]=s.did[i]:=by simp only [<- hD];rw [List.getElem_set_ne (Ne.symm hie)]
     have htk:(D.take (i+1)).map (fun n=>[eI n])=(D.take i).map (fun n=>[eI n]) ++ [[eI s.did[i]]]:=(by rw [ea D hDi,hDe]);have hq:(((i:Nat):Int) == ((e:Nat):Int))=false:=by simp;omega
     repeat' first|refine gq ?_|simp only [ac,hi3,hq]|decide|refine sp ?_ ?_<;>intro _|refine cA hpt ?_|fail
     exact ⟨rfl,⟨by omega,by omega⟩,rI (wS [0,1,2,3,4,5,8] @htk) ⟨i+1,by omega,rfl⟩⟩
   .obtain rfl:i=s.did.length:=by omega
    have hDt:D.take s.did.length=D:=by rw [<- hDl];exact I9
    repeat' first|refine ge (kf hi3 @hDt) ?_|decide|refine sp ?_ ?_<;>intro _
    refine af (fun st'=>∃ i:Nat,i<=s.cnt.length /\ st'=⟨134,[(3,.op 0 0 0),(4,.op 1 0 0),(5,.op 2 0 0),(6,.op 3 0 0),(7,.op 4 0 0),(13,eI (i:Int))],[(0,some (.box 32 (am m))),(1,some (.box 47 (cJ s))),(2,some (.box 82 [eI (e:Int),eI vu,sI vv])),(3,some (.box 47 [.c (.slice none 0 0),eI 0,eI 0,.c (.slice none 0 0),.c (.slice none 0 0)])),(4,some (.box 47 [.osl 5,eI s.opn,eI s.don,.osl 6,.osl 7])),(5,some (.row 2 1 (V.map fun n=>[eI n]))),(6,some (.row 3 1 (D.map fun n=>[eI n]))),(7,some (.row 3 1 ((C.take i).map fun n=>[eI n])))],8⟩) (fun st'=>s.cnt.length - aw st' 13)
     ⟨_,(eE 4 4 3 1 (t:=47) (cells:=[.osl 5,eI s.opn,eI s.don,.osl 6,.c (.slice none 0 0)]) (by simp [ag.gc]) rfl).trans (wE (kf @Kt (kf @KM @I5))),0,IY _,rfl⟩ ?_
    rintro _ ⟨i,hi,rfl⟩;by_cases hi4:i<s.cnt.length
    .have hCi:i<C.length:=(by omega);have hie5:i<m.events.length:=(by omega);have htl:(C.take i).length<=1000000:=by rw [Jf];omega
     by_cases hie:i=e
     .subst hie;by_cases hti:0<x.times
      .have hw':=hw hti;have ew:IntKind.i64.wrap (s.cnt[i]+1)=s.cnt[i]+1:=aP (by omega) (by omega);have hCe:C[i]=s.cnt[i]+1:=(by simp only [<- hC,I8 hti,List.getElem_set_self]);have htk:(C.take (i+1)).map (fun n=>[eI n])=(C.take i).map (fun n=>[eI n]) ++ [[eI (s.cnt[i]+1)]]:=(by rw [ea C hCi,hCe]);have hq:(((i:Nat):Int) == ((i:Nat):Int))=true:=(by simp)
       repeat' first|refine gq ?_|simp only [ac,hi4,hq,hie5,hx,hti,ew]|decide|refine sp ?_ ?_<;>intro _
       exact ⟨rfl,⟨by omega,by omega⟩,rI (wS [0,1,2,3,4,5,6,9] @htk) ⟨i+1,by omega,rfl⟩⟩
      .have hCe:C[i]=s.cnt[i]:=(by simp only [<- hC,I4 hti]);have htk:(C.take (i+1)).map (fun n=>[eI n])=(C.take i).map (fun n=>[eI n]) ++ [[eI s.cnt[i]]]:=(by rw [ea C hCi,hCe]);have hq:(((i:Nat):Int) == ((i:Nat):Int))=true:=(by simp)
       repeat' first|refine gq ?_|simp only [ac,hi4,hq,hie5,hx,hti]|decide|refine sp ?_ ?_<;>intro _
       exact ⟨rfl,⟨by omega,by omega⟩,rI (wS [0,1,2,3,4,5,6,9] @htk) ⟨i+1,by omega,rfl⟩⟩
     .have hCe:C[i]=s.cnt[i]:=by
       simp only [<- hC];split
       .rw [List.getElem_set_ne (Ne.symm hie)]
       .rfl
      have htk:(C.take (i+1)).map (fun n=>[eI n])=(C.take i).map (fun n=>[eI n]) ++ [[eI s.cnt[i]]]:=(by rw [ea C hCi,hCe]);have hq:(((i:Nat):Int) == ((e:Nat):Int))=false:=by simp;omega
      repeat' first|refine gq ?_|simp only [ac,hi4,hq]|decide|refine sp ?_ ?_<;>intro _
      exact ⟨rfl,⟨by omega,by omega⟩,rI (wS [0,1,2,3,4,5,6,9] @htk) ⟨i+1,by omega,rfl⟩⟩
    .obtain rfl:i=s.cnt.length:=by omega
     have hCt:C.take s.cnt.length=C:=by rw [<- hCl];exact I9
     repeat' first|refine ge (kf hi4 @hCt) ?_|decide|refine sp ?_ ?_<;>intro _
     exact ⟨[5,6,7],by decide,rfl,by simp [du,ag.gc]⟩
 .simp [bS.frzs,bS.frz,ag.gc,AV.frz,AV.frzL,bP,aE.frz]
end
section
structure IL (s:St):Prop where
 opn:aA s.opn
 don:aA s.don
 did:∀ x ∈ s.did,aA x
theorem CE (m:aF) (s:St) (v:Mv) (hf:iC m) (hr:∀ p ∈ m.roles,aA p.2) (hs:IL s):ap Tryz.prog 69 [.agg (am m),.agg (cJ s),.agg (oU v)] (val (.int .i64 (gH m s v))):=by
 refine aa ae Tryz.func69 rfl (by decide) Tryz.ntmps69 Tryz.results69 rfl (aq _) ?_;obtain ⟨hgl,hml,hsl,hel,hal,hul,hrl,hsol,hol,hil⟩:=id hf.sizes;obtain ⟨ve,vu,vv⟩:=v;have hany:=FD m s (by omega) (by omega) (by omega) (by omega) hs.opn hs.don hr hs.did;have hchk:=sq m s (by omega) hs.opn hs.don hs.did
 cases hid:fN ⟨ve,vu,vv⟩ with
 | true=>
  unfold gH;simp only [hid]
  repeat' first|refine gf @hid ?_|decide|refine sp ?_ ?_<;>intro _|refine cA hchk ?_|((with_reducible first|apply ak (g:=70)|apply aD (g:=70));exact (ja ⟨ve,vu,vv⟩))|refine cA hany ?_|fail
  all_goals grind
 | false=>
  have henb:=nt m s ve vu (by omega) (by omega) hs.opn hs.don hr hs.did
  cases hen:bf m s ve vu with
  | false=>
   unfold gH;simp only [hid,hen]
   repeat' first|refine gf (kf @hid @hen) ?_|decide|refine sp ?_ ?_<;>intro _|refine cA hchk ?_|((with_reducible first|apply ak (g:=70)|apply aD (g:=70));exact (ja ⟨ve,vu,vv⟩))|refine cA henb ?_|fail
   all_goals grind
  | true=>
   obtain ⟨k,rfl,hk,hk2⟩:=iQ hen;have hsl:g6 m (k:Int)=m.events[k].sets.length:=(by simp [g6,hk]);unfold gH;simp only [hid,hen,hsl]
   repeat' first|refine gq ?_|simp only [hid,hen,ac,hk]|decide|refine sp ?_ ?_<;>intro _|refine cA hchk ?_|((with_reducible first|apply ak (g:=70)|apply aD (g:=70));exact (ja ⟨(k:Int),vu,vv⟩))|refine cA henb ?_|fail
   all_goals grind
theorem He (m:aF) (s:St) (v:Mv) (hf:iC m) (hfs:Hh s) (hvl:v.vals.length<=1000000) (hp:∀ p ∈ m.stages,aA p.2) (hr:∀ p ∈ m.roles,aA p.2) (hs:IL s) (ht:∀ e ∈ m.events,aA e.times) :
  ap Tryz.prog 23 [.agg (am m),.agg (cJ s),.agg (oU v)] ⟨.tup [.agg (cJ (oD m s v).1),eI (oD m s v).2],[],0⟩:=by
 refine bh.tree (Post:=fun R=>∃ ids,(R.frzs ids).r.lt 0 /\ kC (R.frzs ids).r (.tup [.agg (cJ (oD m s v).1),eI (oD m s v).2])) ?_ (by simp [AV.lt,AV.ltL]) fun R h=>h;refine ay ae Tryz.func23 rfl (by decide) Tryz.ntmps23 Tryz.results23 rfl ?_;have hmay:=CE m s v hf hr hs;have hnil:kC (.tup [.agg [.c (.slice none 0 0),eI 0,eI 0,.c (.slice none 0 0),.c (.slice none 0 0)],eI (gH m s v)]) (.tup [.agg (cJ kH),eI (gH m s v)]):=.tup ⟨.agg ⟨.nil 1,.refl _,.refl _,.nil 1,.nil 1,trivial⟩,.one (.refl _),trivial⟩;have hz:((0:Int) != 0)=false:=by decide
 by_cases h0:gH m s v=0
 .cases hid:fN v with
  | true=>
   have ed:oD m s v=(s,0):=(by simp [oD,h0,hid]);rw [ed]
   repeat' first|refine gf (kf h0 (kf hz @hid)) ?_|decide|refine sp ?_ ?_<;>intro _|refine cA hmay ?_|((with_reducible first|apply ak (g:=70)|apply aD (g:=70));exact (ja v))
   all_goals exact Fm (by simp [AV.ren,AV.renL]) (by simp [AV.lt,AV.ltL]) (.tup ⟨.one (.refl _),.one (.refl _),trivial⟩)
  | false=>
   have ed:oD m s v=(fc m v.event (cj m s v) m.order.length,0):=(by simp [oD,h0,hid]);rw [ed]
   have hen:bf m s v.event v.user=true /\ v.vals.length=g6 m v.event /\ fe m s=true:=by
    unfold gH at h0
    grind
   obtain ⟨k,hke,hk,hk2⟩:=iQ hen.1;have hsl:g6 m v.event=m.events[k].sets.length:=(by simp [g6,hk,hke]);obtain ⟨hl1,hl2,hl3⟩:=hfs;have hck:=hen.2.2;unfold fe at hck;simp only [I2,Je] at hck;obtain ⟨⟨⟨⟨⟨hc1,hc2⟩,hc3⟩,hc4⟩,hc5⟩,hall⟩:=hck;have hd:k<s.did.length:=(by omega);have hcn:k<s.cnt.length:=(by omega);have hat:=(mQ _ _).1 hall k hk;simp only [lT,JB,IU hd,IU hcn,IU hk,Ju,JV,I2,Je] at hat
   have hfm:hY m s v.event v.user=true:=by
    have h2:=hen.1;unfold bf at h2;simp only [I2] at h2;exact h2.1
   unfold hY at hfm;rw [hk2] at hfm;simp only [I2,Kg,Je] at hfm
   have hus:0<=v.user /\ v.user<31:=by
    have h3:=hfm.1.2;unfold yR at h3;simp only [I2,Je] at h3;have:=hf.sizes.2.2.2.2.2.1;omega
   have hfree:0<m.events[k].times -> s.cnt[k]<m.events[k].times:=fun h1=>by
    have h3:=hfm.2;unfold qa at h3;rw [hke,I8 (by omega)] at h3;simp only [J4,JB,IU hcn,Ju] at h3;omega
   have htm:=ht _ (IZ hk);unfold aA at htm;have htk:=y3 m s v k m.events[k] hke hk rfl hd hcn (by omega) hus (hs.did _ (IZ hd)) hc3 (by omega) (by omega) (by omega) (by omega) (fun h1=>by have:=hfree h1;omega);have hopn:(cj m s v).opn=s.opn /\ (cj m s v).don=s.don:=by unfold cj;split<;>exact ⟨rfl,rfl⟩
   have hps:=rQ m (cj m s v) v.event hf hp (by rw [hopn.1];exact f6 hc4) (by rw [hopn.2];exact f6 hc5)
   repeat' first|refine ge (kf h0 (kf hz @hid)) ?_|decide|refine sp ?_ ?_<;>intro _
   refine ak hmay ?_
   repeat' first|refine ge (kf h0 (kf hz @hid)) ?_|decide|refine sp ?_ ?_<;>intro _
   refine ak (by exact ja v) ?_
   repeat' first|refine ge (kf h0 (kf hz @hid)) ?_|decide|refine sp ?_ ?_<;>intro _
   refine bk [3] [0,1,2,3,5,6] (.exec 4 (.exec 7 (.exec 8 (.exec 9 .done)))) (by kernel_rfl) (by simp [ag.gc]) ?_
   repeat' first|refine gf (kf h0 (kf hz @hid)) ?_|decide|refine sp ?_ ?_<;>intro _|refine cA htk ?_|refine cA hps ?_|fail
   all_goals exact Fm (by simp [AV.ren,AV.renL]) (by simp [AV.lt,AV.ltL]) (.tup ⟨.one (.refl _),.one (.refl _),trivial⟩)
 .have ed:oD m s v=(kH,gH m s v):=by simp [oD,h0]
  have h0':(gH m s v != 0)=true:=by simp [h0]
  rw [ed]
  repeat' first|refine gf h0' ?_|decide|refine sp ?_ ?_<;>intro _|refine cA hmay ?_|((with_reducible first|apply ak (g:=70)|apply aD (g:=70));exact (ja v))
  all_goals exact Fm (by simp [AV.ren,AV.renL]) (by simp [AV.lt,AV.ltL]) hnil
end
section
theorem ub {s:Int} {n:Nat} (h1:zA s) (h2:∀ i:Nat,n<=i -> i<31 -> aR s (i:Int)=false):i5 s (n:Int)=true:=(ku s n h1).2 h2
theorem qH {s:Int} {n:Nat} (h:i5 s (n:Int)=true) {i:Nat} (hi:n<=i) (hl:i<31):aR s (i:Int)=false:=(ku s n (f6 h)).1 h i hi hl
theorem nQ {s:Int} {n:Nat} {i:Int} (h:i5 s (n:Int)=true) (h0:0<=i) (h1:i<n):i5 (ba s i) (n:Int)=true:=ub (A7 s i) fun j hj hl=>by
 rw [er,qH h hj hl];have:((j:Int) == i)=false:=by simp;omega
 simp [this]
theorem zF {s:Int} {n:Nat} {l:List Int} (h:i5 s (n:Int)=true):i5 (l.foldl br s) (n:Int)=true:=ub (wD l s (f6 h)) fun j hj hl=>by
 rw [JK];intro h2;have:=((jj l s (j:Int)).1 h2).1;rw [qH h hj hl] at this;cases this
theorem A5 {l:List Ml} {st d:Int} {n:Nat} (h:i5 d (n:Int)=true) (k:Nat):i5 (jE l st d k) (n:Int)=true:=ub (vV l st d (f6 h) k) fun j hj hl=>by
 rw [JK];intro h2;have:=(lx l st d j k h2).1;rw [qH h hj hl] at this;cases this
theorem sS {m:aF} {x:Bool × Int} {st ev mi:Int} {cond:List az} (hx:x.1=true) (h:bm m x=some (st,ev,cond,mi)):0<=mi /\ mi<(m.miles.length:Int):=by
 unfold bm at h;rw [I8 hx] at h;split at h
 .rename_i h0
  cases hk:m.miles[x.2.toNat]? with
  | none=>rw [hk] at h;cases h
  | some K=>
   rw [hk] at h;simp at h;have:=(IV.1 hk).1;rw [<- h.2.2.2];omega
 .cases h
theorem Da {m:aF} {event:Int} {s:St} {x:Bool × Int} (h1:i5 s.opn (m.stages.length:Int)=true) (h2:i5 s.don (m.miles.length:Int)=true):i5 (b8 m event s x).opn (m.stages.length:Int)=true /\ i5 (b8 m event s x).don (m.miles.length:Int)=true:=by
 unfold b8;split
 .unfold cw
  cases hx:bm m x with
  | none=>exact ⟨h1,h2⟩
  | some q=>
   obtain ⟨st,ev,cond,mi⟩:=q;simp only;split
   .rename_i hin;have hst:0<=st /\ st<(m.stages.length:Int):=(by simpa [rY] using hin);split
    .rename_i hm;have hmi:=sS hm hx;exact ⟨zF h1,nQ h2 hmi.1 hmi.2⟩
    .exact ⟨nQ h1 hst.1 hst.2,A5 h2 _⟩
   .exact ⟨h1,h2⟩
 .exact ⟨h1,h2⟩
theorem qR {m:aF} {event:Int}:∀ (l:List (Bool × Int)) {s:St},i5 s.opn (m.stages.length:Int)=true -> i5 s.don (m.miles.length:Int)=true -> i5 (l.foldl (b8 m event) s).opn (m.stages.length:Int)=true /\ i5 (l.foldl (b8 m event) s).don (m.miles.length:Int)=true
 | [],s,h1,h2=>⟨h1,h2⟩
 | x :: l,s,h1,h2=>by
  obtain ⟨h3,h4⟩:=Da (event:=event) (x:=x) h1 h2;exact qR l h3 h4
theorem uw {m:aF} {s:St} {e:Nat} {u:Int} (h:bf m s (e:Int) u=true):∃ he:e<m.events.length,0<=u /\ u<(m.users.length:Int) /\ (m.events[e].times<=0 \/ qa s.cnt (e:Int)<m.events[e].times):=by
 obtain ⟨k,hk,hlt,hx⟩:=iQ h;obtain rfl:e=k:=by omega
 refine ⟨hlt,?_⟩;unfold bf hY at h;rw [hx] at h;simp only [I2,Kg,Je,yR] at h;obtain ⟨⟨⟨_,h1⟩,h2⟩,_⟩:=h;exact ⟨h1.1.1.2,h1.1.2,h2⟩
theorem kq {m:aF} {s:St}:fe m s=true ↔ s.vals.length=m.attrs.length /\ s.did.length=m.events.length /\ s.cnt.length=m.events.length /\ i5 s.opn (m.stages.length:Int)=true /\ i5 s.don (m.miles.length:Int)=true /\ ∀ i,i<m.events.length -> lT m s i=true:=by
 unfold fe;simp only [I2,Je,mQ,and_assoc]
theorem i9 {m:aF} {s:St} {i:Nat} (hi:i<m.events.length):lT m s i=true ↔ i5 (s.did.getD i 0) (m.users.length:Int)=true /\ 0<=s.cnt.getD i 0 /\ s.cnt.getD i 0<=m.events[i].times:=by
 unfold lT;simp [hi,and_assoc]
theorem wB {m:aF} {s:St} {e:Nat} {u:Int} {vals:List Int} (he:e<m.events.length):cj m s ⟨(e:Int),u,vals⟩=⟨bO m.events[e].sets vals s.vals m.events[e].sets.length,s.opn,s.don,s.did.set e (ba (s.did.getD e 0) u),if 0<m.events[e].times then s.cnt.set e (s.cnt.getD e 0+1) else s.cnt⟩:=by
 unfold cj nG;simp [he]
theorem BL {m:aF} {s:St} {e:Nat} {u:Int} {vals:List Int} (hc:fe m s=true) (hen:bf m s (e:Int) u=true) (k:Nat):fe m (fc m (e:Int) (cj m s ⟨(e:Int),u,vals⟩) k)=true:=by
 obtain ⟨he,hu0,hu1,htm⟩:=uw hen;obtain ⟨h1,h2,h3,h4,h5,h6⟩:=kq.1 hc;obtain ⟨v1,v2,v3⟩:=gy m (e:Int) (m.order.take k) (cj m s ⟨(e:Int),u,vals⟩);have ht:=wB (m:=m) (s:=s) (u:=u) (vals:=vals) he;have hof:=qR (m:=m) (event:=(e:Int)) (m.order.take k) (s:=cj m s ⟨(e:Int),u,vals⟩) (by rw [ht];exact h4) (by rw [ht];exact h5);unfold fc;refine kq.2 ⟨?_,?_,?_,hof.1,hof.2,fun i hi=>(i9 hi).2 ?_⟩
 .rw [v1,ht];simpa [cz] using h1
 .rw [v2,ht];simpa using h2
 .rw [v3,ht];simp only;split
  .simpa using h3
  .exact h3
 .obtain ⟨g1,g2,g3⟩:=(i9 hi).1 (h6 i hi);rw [v2,v3,ht];simp only;refine ⟨?_,?_⟩
  .by_cases e1:i=e
   .subst e1;have:(s.did.set i (ba (s.did.getD i 0) u)).getD i 0=ba (s.did.getD i 0) u:=by simp [List.getD,show i<s.did.length by omega]
    rw [this];exact nQ g1 hu0 hu1
   .have:(s.did.set e (ba (s.did.getD e 0) u)).getD i 0=s.did.getD i 0:=by simp [List.getD,Kb,Ne.symm e1]
    rw [this];exact g1
  .split
   .rename_i hpos;by_cases e1:i=e
    .subst e1;have:(s.cnt.set i (s.cnt.getD i 0+1)).getD i 0=s.cnt.getD i 0+1:=by simp [List.getD,show i<s.cnt.length by omega]
     rw [this]
     have ha:qa s.cnt (i:Int)=s.cnt.getD i 0:=by
      unfold qa;rw [I8 ⟨by omega,by omega⟩];rfl
     rw [ha] at htm;omega
    .have:(s.cnt.set e (s.cnt.getD e 0+1)).getD i 0=s.cnt.getD i 0:=by simp [List.getD,Kb,Ne.symm e1]
     rw [this];exact ⟨g2,g3⟩
   .exact ⟨g2,g3⟩
noncomputable def kc (m:aF) (s:St) (e:Nat):List Mv:=(qX m s (e:Int)).map fun u=>⟨(e:Int),u,List.replicate ((m.events[e]?.map (·.sets.length)).getD 0) 0⟩
noncomputable def fh (m:aF) (s:St):Nat -> List Mv
 | 0=>[]
 | e+1=>fh m s e ++ kc m s e
theorem i6 {f:Nat -> Bool}:∀ {n:Nat} {x:Int},x ∈ dQ f n ↔ ∃ k:Nat,k<n /\ x=(k:Int) /\ f k=true
 | 0,x=>by simp [dQ]
 | n+1,x=>by
  unfold dQ;split
  .rename_i h;rw [Ja,i6,Jg];constructor
   .rintro (⟨k,h1,h2,h3⟩ | rfl)
    .exact ⟨k,by omega,h2,h3⟩
    .exact ⟨n,by omega,rfl,h⟩
   .rintro ⟨k,h1,h2,h3⟩;by_cases e:k=n
    .exact .inr (by rw [h2,e])
    .exact .inl ⟨k,by omega,h2,h3⟩
  .rename_i h;rw [i6];constructor
   .rintro ⟨k,h1,h2,h3⟩;exact ⟨k,by omega,h2,h3⟩
   .rintro ⟨k,h1,h2,h3⟩;by_cases e:k=n
    .exact absurd (e ▸ h3) h
    .exact ⟨k,by omega,h2,h3⟩
structure Cy (m:aF) (s:St) (v:Mv) (e:Nat):Prop where
 ev:v.event=(e:Int)
 lt:e<m.events.length
 en:bf m s (e:Int) v.user=true
 len:v.vals.length=(m.events[e]?.map (·.sets.length)).getD 0
theorem pU {m:aF} {s:St}:∀ {n:Nat},n<=m.events.length -> ∀ v ∈ fh m s n,∃ e,Cy m s v e
 | 0,_,v,h=>by simp [fh] at h
 | n+1,hn,v,h=>by
  rw [fh,Ja] at h;rcases h with h|h
  .exact pU (by omega) v h
  .obtain ⟨u,hu,rfl⟩:=I7.1 h;obtain ⟨k,hk,rfl,hf⟩:=i6.1 hu;exact ⟨n,rfl,by omega,hf,by simp⟩
theorem Cc {m:aF} {s:St} (h:fh m s m.events.length=[]):CG m s=false:=by
 rw [JK];intro ha;obtain ⟨e,he,h1⟩:=(kK _ _).1 ha;obtain ⟨u,hu,h2⟩:=(kK _ _).1 h1
 have key:∀ n,e<n -> ∃ v,v ∈ fh m s n:=by
  intro n hn
  induction n with
  | zero=>omega
  | succ n ih=>
   rw [fh];by_cases e1:e=n
   .subst e1;exact ⟨_,Ja.2 (.inr (I7.2 ⟨(u:Int),i6.2 ⟨u,hu,rfl,h2⟩,rfl⟩))⟩
   .obtain ⟨v,hv⟩:=ih (by omega);exact ⟨v,Ja.2 (.inl hv)⟩
 obtain ⟨v,hv⟩:=key _ he;rw [h] at hv;cases hv
theorem Bn {m:aF} {s:St} {v:Mv} {e:Nat} (hc:fe m s=true) (h:Cy m s v e):gH m s v=0 /\ fN v=false:=by
 have hid:fN v=false:=by
  unfold fN;have:(v.event == -1)=false:=by rw [h.ev];simp
  rw [this];rfl
 refine ⟨?_,hid⟩;unfold gH;rw [I4 (by rw [hc];simp),I4 (by rw [hid];simp),h.ev,I4 (by rw [h.en];simp),I8];rw [h.len];unfold g6;rfl
theorem HC {m:aF} {s:St} {v:Mv} {e:Nat} (hc:fe m s=true) (h:Cy m s v e):oD m s v=(fc m (e:Int) (cj m s v) m.order.length,0):=by
 obtain ⟨h1,h2⟩:=Bn hc h;unfold oD;rw [I8 h1,I4 (by rw [h2];simp),h.ev]
theorem E1 {m:aF} {s:St} {v:Mv} {e:Nat} (hc:fe m s=true) (h:Cy m s v e):fe m (oD m s v).1=true:=by
 rw [HC hc h];obtain ⟨ve,vu,vv⟩:=v;have he:=h.ev;simp only at he;subst he;exact BL hc h.en _
end
section
def F5 (m:aF) (i:Int):Prop:=∃ g ∈ m.guards,g.stage=i
def nf (m:aF) (st:Int):Prop:=bw (pars m) st /\ ∀ i ∈ a8 (pars m) st ++ [st],F5 m i
def HN (m:aF) (o:Int):Prop:=∀ i,bw (pars m) i -> aR o i=true -> F5 m i
structure lX (m:aF) (s:St):Prop where
 snd:ye m s.opn
 opn:HN m s.opn
 don:∀ k (h:k<m.miles.length),aR s.don (k:Int)=true -> nf m m.miles[k].stage
 did:∀ e (h:e<m.events.length),s.did.getD e 0 ≠ 0 -> nf m m.events[e].stage
theorem mV (m:aF):(pars m).length=m.stages.length:=by simp [pars]
theorem yV {m:aF} {o:Int} (hs:ye m o) {p:Int} (hp:bw (pars m) p) (ho:aR o p=true):cM (pars m) p = -1 \/ (bw (pars m) (cM (pars m) p) /\ aR o (cM (pars m) p)=true):=by
 have hl:=mV m;rcases m5 (pars m) p with h|h
 .exact .inl h
 .right;refine ⟨h,?_⟩;have hi:p.toNat<m.stages.length:=by have:=hp.2;have:=hp.1;omega
  have e0:((p.toNat:Nat):Int)=p:=Int.toNat_of_nonneg hp.1;have hg:(pars m).getD p.toNat 0=m.stages[p.toNat].2:=by simp [pars,hi]
  unfold cM at h ⊢;rw [I8 hp,hg] at h ⊢;unfold jJ at h ⊢;split at h
  .rename_i h1;rw [I8 h1];exact hs p.toNat hi h1.1 (by rw [<- hl];exact h1.2) (by rw [e0];exact ho)
  .have:=h.1;omega
theorem vI {m:aF} {o:Int} (hs:ye m o) {st:Int} (hp:bw (pars m) st) (ho:aR o st=true):∀ k,cZ (pars m) st k = -1 \/ (bw (pars m) (cZ (pars m) st k) /\ aR o (cZ (pars m) st k)=true)
 | 0=>by
  right;have:cZ (pars m) st 0=st:=by unfold cZ jJ;rw [I8 hp]
  rw [this];exact ⟨hp,ho⟩
 | k+1=>by
  rcases vI hs hp ho k with h|⟨h1,h2⟩
  .left;rw [cZ,h,kZ]
  .rw [cZ];exact yV hs h1 h2
theorem n6 {l:List Int} {i x:Int} (hx:x ∈ a8 l i):bw l x:=by
 obtain ⟨j,h1,_,rfl⟩:=fg hx;rcases Fq l i j with h|h
 .exfalso
  have key:∀ (f:Nat) (p:Int) (out:List Int),-1 ∉ out -> -1 ∉ vD l i f p out:=by
   intro f
   induction f with
   | zero=>intro p out h;exact h
   | succ f ih=>
    intro p out h;unfold vD;split
    .exact h
    .rename_i hn;refine ih _ _ fun hm=>?_;rcases Ja.1 hm with h1|h1
     .exact h h1
     .exact hn (.inl (Jg.1 h1).symm)
  rw [h] at hx;exact key _ _ _ (by simp) hx
 .exact h
theorem px {m:aF} {o st:Int} (hs:ye m o) (hg:HN m o) (hp:bw (pars m) st) (ho:aR o st=true):nf m st:=by
 refine ⟨hp,fun i hi=>?_⟩;rcases Ja.1 hi with h|h
 .have ha:=n6 h;obtain ⟨j,_,_,rfl⟩:=fg h;rcases vI hs hp ho j with h1|⟨_,h2⟩
  .have:=ha.1;omega
  .exact hg _ ha h2
 .rw [Jg.1 h];exact hg _ hp ho
theorem xB {m:aF} (hc:bX (pars m)<0) (s:St) (x:Bool × Int) (event:Int) (h:lX m s):lX m (b8 m event s x):=by
 have h1:=uZ hc s x event h.snd;have hdid:(b8 m event s x).did=s.did:=(ol m event s x).2.1;refine ⟨h1,?_,?_,by rw [hdid];exact h.did⟩
 .unfold b8;split
  .rename_i hf;unfold cw;unfold dC gS at hf
   cases hx:bm m x with
   | none=>simpa [hx] using h.opn
   | some q=>
    obtain ⟨st,ev,cond,mi⟩:=q;rw [hx] at hf;simp only [I2] at hf;obtain ⟨⟨hin,_,_⟩,-⟩:=hf;simp only [hin,if_true];split
    .intro i hi ho;rw [jj] at ho;exact h.opn i hi ho.1
    .rename_i hm;intro i hi ho;simp only at ho;rw [er] at ho;simp only [Kg,I2,Je,beq_iff_eq] at ho;rcases ho with ⟨_,e⟩|ho
     .have hx1:x.1=false:=by simpa using hm
      unfold bm at hx;rw [I4 (by simp [hx1])] at hx;split at hx
      .simp only [Option.map_eq_some_iff] at hx;obtain ⟨g,hg,hq⟩:=hx;refine ⟨g,p0 hg,?_⟩;rw [e];simpa using congrArg (·.1) hq
      .cases hx
     .exact h.opn i hi ho
  .exact h.opn
 .unfold b8;split
  .rename_i hf;unfold cw;unfold dC gS at hf
   cases hx:bm m x with
   | none=>simpa [hx] using h.don
   | some q=>
    obtain ⟨st,ev,cond,mi⟩:=q;rw [hx] at hf;simp only [I2] at hf;obtain ⟨⟨hin,⟨-,hop⟩,hab⟩,-⟩:=hf
    have hst:bw (pars m) st:=by
     simp [rY] at hin;exact ⟨hin.1,by simpa [pars] using hin.2⟩
    simp only [hin,if_true];split
    .rename_i hm;intro k hk hd;simp only at hd;rw [er] at hd;simp only [Kg,I2,Je,beq_iff_eq] at hd;rcases hd with ⟨_,e⟩|hd
     .unfold bm at hx;rw [I8 hm] at hx;split at hx
      .rename_i h0;simp only [Option.map_eq_some_iff] at hx;obtain ⟨g,hg,hq⟩:=hx;have e2:x.2=mi:=(by simpa using congrArg (·.2.2.2) hq);have e3:g.stage=st:=(by simpa using congrArg (·.1) hq);have e4:x.2.toNat=k:=(by omega);rw [e4,IU hk] at hg;have e5:m.miles[k]=g:=Km hg;rw [e5,e3];refine px h.snd h.opn hst ?_;rw [hm] at hop;simpa using hop
      .cases hx
     .exact h.don k hk hd
    .intro k hk hd;simp only at hd;rw [kg] at hd;simp only [I2] at hd;exact h.don k hk hd.1
  .exact h.don
theorem k8 {m:aF} (hc:bX (pars m)<0) (event:Int):∀ (l:List (Bool × Int)) (s:St),lX m s -> lX m (l.foldl (b8 m event) s)
 | [],s,h=>h
 | x :: l,s,h=>k8 hc event l _ (xB hc s x event h)
theorem ul {m:aF} (hc:bX (pars m)<0):lX m (fE m):=by
 refine k8 hc _ _ _ ⟨?_,?_,?_,?_⟩
 .intro i h h1 h2 h3;simp [dE,aR] at h3
 .intro i h h3;simp [dE,aR] at h3
 .intro k h h3;simp [dE,aR] at h3
 .intro e h h3;exfalso;apply h3;simp [dE,List.getD];by_cases he:e<m.events.length<;>simp [he]
theorem C1 {m:aF} (hc:bX (pars m)<0) {s:St} {v:Mv} (h:lX m s) (hm:gH m s v=0) (hd:s.did.length=m.events.length):lX m (oD m s v).1:=by
 unfold oD;rw [I8 hm];by_cases hi:fN v=true
 .rw [I8 hi];exact h
 .rw [I4 hi]
  have hen:bf m s v.event v.user=true:=by
   unfold gH at hm
   cases he:bf m s v.event v.user with
   | true=>rfl
   | false=>
    rw [he] at hm;split at hm
    .cases hm
    .simp [hi] at hm
  obtain ⟨e,he,hlt,hev⟩:=iQ hen;refine k8 hc _ _ _ ?_;have ht:cj m s v=cj m s ⟨(e:Int),v.user,v.vals⟩:=by rw [<- he]
  have hst:bw (pars m) m.events[e].stage /\ aR s.opn m.events[e].stage=true:=by
   unfold bf hY at hen;rw [hev] at hen;simp only [I2,Je] at hen;obtain ⟨⟨⟨⟨⟨_,h1⟩,h2⟩,_⟩,_⟩,_⟩:=hen;refine ⟨⟨?_,by rw [mV];exact h1⟩,h2⟩;refine Classical.byContradiction fun hn=>?_
   have:aR s.opn m.events[e].stage=false:=by
    unfold aR;simp;omega
   rw [this] at h2;cases h2
  rw [ht,wB hlt];refine ⟨h.snd,h.opn,h.don,fun q hq hne=>?_⟩;simp only at hne;by_cases e1:q=e
  .subst e1;exact px h.snd h.opn hst.1 hst.2
  .refine h.did q hq ?_;have:(s.did.set e (ba (s.did.getD e 0) v.user)).getD q 0=s.did.getD q 0:=by simp [List.getD,Kb,Ne.symm e1]
   rw [this] at hne;exact hne
end
end
section
section
theorem GD (q:Nat) (hq:q<=60):ap Tryz.prog 26 [eI (q:Int)] (val (.int .i64 (((2 ^ q - 1:Nat):Int)))):=by
 refine aa ae Tryz.func26 rfl (by decide) Tryz.ntmps26 Tryz.results26 rfl (aq _) ?_
 repeat' first|refine go ?_|decide|refine sp ?_ ?_<;>intro _
 refine af (fun st=>∃ k:Nat,k<=q /\ st=⟨14,[(0,eI (q:Int)),(3,eI ((2 ^ k - 1:Nat):Int)),(4,eI (k:Int))],[],0⟩) (fun st=>q - aw st 4) ⟨_,wC,0,IY _,rfl⟩ ?_;rintro _ ⟨k,hk,rfl⟩;by_cases hlt:k<q
 .have hp:2 ^ k<=2 ^ 59:=JP (by omega) (by omega);have hp1:1<=2 ^ k:=Nat.one_le_two_pow;have e1:IntKind.i64.wrap (2 * ((2 ^ k - 1:Nat):Int))=2 * ((2 ^ k - 1:Nat):Int):=aP (by omega) (by omega)
  have e2:IntKind.i64.wrap (2 * ((2 ^ k - 1:Nat):Int)+1)=((2 ^ (k+1) - 1:Nat):Int):=by
   rw [aP (by omega) (by omega),Nat.pow_succ];omega
  repeat' first|refine ge (kf @hlt (kf e1 e2)) ?_|decide|refine sp ?_ ?_<;>intro _
  exact rI (wE (kf e1 e2)) ⟨k+1,by omega,rfl⟩
 .obtain rfl:k=q:=by omega
  repeat' first|refine ge @hlt ?_|decide|refine sp ?_ ?_<;>intro _
theorem g5 (m:aF) (l:List az) (prop:Bool) (hl:l.length<=1000):bh Tryz.prog 29 [.agg (am m),aV l,eB prop] fun R=>∃ b,R=val (.bool b) /\ (b=true -> bi (l.map az.op)=0 /\ ∀ i (h:i<l.length),hU m l[i]=true /\ (prop=false -> ¬ (18<l[i].op \/ (10<l[i].op /\ l[i].op<15)))):=by
 refine ay ae Tryz.func29 rfl (by decide) Tryz.ntmps29 Tryz.results29 rfl ?_
 repeat' first|refine go ?_|decide|refine sp ?_ ?_<;>intro _
 refine af (fun st=>∃ k:Nat,k<=l.length /\ k<=70 /\ st=⟨67,[(1,aV l),(2,eB prop),(3,.op 0 0 0),(7,.osl 1),(8,eI (k:Int))],[(0,some (.box 32 (am m))),(1,some (.row 125 9 (((l.map az.op).take k).map eX)))],2⟩) (fun st=>l.length - aw st 8) ⟨_,((aW 7 125 9 (by simp only [f9,ai.get,a7,ai.put,↓reduceIte,reduceCtorEq,Nat.reduceLT,Nat.reduceEqDiff,Nat.reduceAdd,Nat.reduceLeDiff,eq_self,implies_true,I5,Jo])).trans (wS [0,1] @I5)),0,IY _,by omega,rfl⟩ ?_;rintro _ ⟨k,hk,hk70,rfl⟩;have hkl:((l.map az.op).take k).length=k:=by simp;omega
 have hlen2:((l.map az.op).take k).length<=1000000:=by omega
 by_cases hgo:k<l.length /\ k<70
 .obtain ⟨hlt,h70⟩:=hgo;have e1:decide ((k:Int)<70)=true:=by simp;omega
  have et:((l.map az.op).take (k+1)).map eX=((l.map az.op).take k).map eX ++ [eX l[k].op]:=by
   rw [df eX (l.map az.op) (by simpa using hlt)];simp
  repeat' first|refine go ?_|simp only [ac,hlt,e1]|decide|refine sp ?_ ?_<;>intro _
  refine ⟨rfl,by simp only [hkl,Jd,Jf];omega,rI (wS [0,3] et) ⟨k+1,by omega,by omega,rfl⟩⟩
 .have hfin:((l.map az.op).take k)=(l.map az.op).take 70:=by
   by_cases h1:k=70
   .rw [h1]
   .rw [Jp (by simp;omega),Jp (by simp;omega)]
  have hchk:=oq ((l.map az.op).take k) hlen2
  have hE:bi ((l.map az.op).take k)=0 -> bi (l.map az.op)=0:=fun h=>by
   rcases Jk 64 l.length with h64|h64
   .exfalso;have:64<((l.map az.op).take k).length:=by omega
    unfold bi at h;rw [I4 (by omega),I8 this] at h;cases h
   .rw [Jp (by simp;omega)] at h;exact h
  have hcond:decide (k<l.length)=false \/ (decide (k<l.length)=true /\ decide ((k:Int)<70)=false):=by
   by_cases h:k<l.length
   .exact .inr ⟨Jc h,I3 (by omega)⟩
   .exact .inl (I3 h)
  by_cases hz:bi ((l.map az.op).take k)=0
  .have z1:(bi ((l.map az.op).take k) != 0)=false:=(by simp [hz]);have hE:=hE hz;have fin:wk Tryz.prog (Code.skip) (fun _ _=>True) ⟨0,[],[],0⟩ -> True:=fun _=>trivial;rcases hcond with d1|⟨d1,d2⟩
   .repeat' first|refine ge d1 ?_|decide|refine sp ?_ ?_<;>intro _
    refine ak hchk ?_
    repeat' first|refine ge z1 ?_|decide|refine sp ?_ ?_<;>intro _
    refine af (fun st=>∃ q:Nat,q<=l.length /\ (∀ i (h:i<l.length),i<q -> hU m l[i]=true /\ (prop=false -> ¬ (18<l[i].op \/ (10<l[i].op /\ l[i].op<15)))) /\ st=⟨67,[(1,aV l),(2,eB prop),(3,.op 0 0 0),(9,eI (q:Int))],[(0,some (.box 32 (am m)))],1⟩) (fun st=>l.length - aw st 9) ⟨_,wC,0,IY _,fun i h h2=>absurd h2 (by omega),rfl⟩ ?_;rintro _ ⟨q,hq,hI,rfl⟩;by_cases hlt2:q<l.length
    .repeat' first|refine go ?_|simp only [ac,hlt2]|decide|refine sp ?_ ?_<;>intro _
     refine ao (by kernel_rfl) ?_
     repeat' first|refine go ?_|simp only [ac,hlt2]|decide|refine sp ?_ ?_<;>intro _
     refine aD (Bp m l[q]) ?_
     repeat' first|refine go ?_|simp only [ac,hlt2]|decide|refine sp ?_ ?_<;>intro _
     all_goals first|with_reducible exact co ⟨false,rfl,fun h=>by cases h⟩|skip
     all_goals
      refine rI wC ⟨q+1,by omega,fun i h h2=>?_,rfl⟩;rcases Jk i q with h3|h3
      .exact hI i h h3
      .obtain rfl:i=q:=by omega
       simp_all
       try omega
    .repeat' first|refine go ?_|simp only [ac,hlt2]|decide|refine sp ?_ ?_<;>intro _
     exact co ⟨true,rfl,fun _=>⟨hE,fun i h=>hI i h (by omega)⟩⟩
   .repeat' first|refine ge (kf d1 d2) ?_|decide|refine sp ?_ ?_<;>intro _
    refine ak hchk ?_
    repeat' first|refine ge z1 ?_|decide|refine sp ?_ ?_<;>intro _
    refine af (fun st=>∃ q:Nat,q<=l.length /\ (∀ i (h:i<l.length),i<q -> hU m l[i]=true /\ (prop=false -> ¬ (18<l[i].op \/ (10<l[i].op /\ l[i].op<15)))) /\ st=⟨67,[(1,aV l),(2,eB prop),(3,.op 0 0 0),(9,eI (q:Int))],[(0,some (.box 32 (am m)))],1⟩) (fun st=>l.length - aw st 9) ⟨_,wC,0,IY _,fun i h h2=>absurd h2 (by omega),rfl⟩ ?_;rintro _ ⟨q,hq,hI,rfl⟩;by_cases hlt2:q<l.length
    .repeat' first|refine go ?_|simp only [ac,hlt2]|decide|refine sp ?_ ?_<;>intro _
     refine ao (by kernel_rfl) ?_
     repeat' first|refine go ?_|simp only [ac,hlt2]|decide|refine sp ?_ ?_<;>intro _
     refine aD (Bp m l[q]) ?_
     repeat' first|refine go ?_|simp only [ac,hlt2]|decide|refine sp ?_ ?_<;>intro _
     all_goals first|with_reducible exact co ⟨false,rfl,fun h=>by cases h⟩|skip
     all_goals
      refine rI wC ⟨q+1,by omega,fun i h h2=>?_,rfl⟩;rcases Jk i q with h3|h3
      .exact hI i h h3
      .obtain rfl:i=q:=by omega
       simp_all
       try omega
    .repeat' first|refine go ?_|simp only [ac,hlt2]|decide|refine sp ?_ ?_<;>intro _
     exact co ⟨true,rfl,fun _=>⟨hE,fun i h=>hI i h (by omega)⟩⟩
  .have z1:(bi ((l.map az.op).take k) != 0)=true:=(by simp [hz]);rcases hcond with d1|⟨d1,d2⟩
   .repeat' first|refine ge d1 ?_|decide|refine sp ?_ ?_<;>intro _
    refine ak hchk ?_
    repeat' first|refine ge z1 ?_|decide|refine sp ?_ ?_<;>intro _
    exact co ⟨false,rfl,fun h=>by cases h⟩
   .repeat' first|refine ge (kf d1 d2) ?_|decide|refine sp ?_ ?_<;>intro _
    refine ak hchk ?_
    repeat' first|refine ge z1 ?_|decide|refine sp ?_ ?_<;>intro _
    exact co ⟨false,rfl,fun h=>by cases h⟩
def fG (l:List Ev):Int:=(l.map fun e=>e.times * (e.sets.length:Int)).sum
structure iV (l:List Ev):Prop where
 each:∀ i (h:i<l.length),0<=l[i].times /\ l[i].times<=3 /\ (l[i].times=0 -> l[i].sets.length=0)
theorem te:fG []=0:=rfl
theorem fr {l:List Ev} {k:Nat} (hk:k<l.length):fG (l.take (k+1))=fG (l.take k)+l[k].times * (l[k].sets.length:Int):=by
 unfold fG;rw [Jb hk,Jl,List.sum_append];simp
theorem jT {l:List Ev} (hs:∀ e ∈ l,e.sets.length<=10):∀ k,k<=l.length -> (∀ i (h:i<l.length),i<k -> 0<=l[i].times /\ l[i].times<=3) -> 0<=fG (l.take k) /\ fG (l.take k)<=30 * (k:Int)
 | 0,_,_=>by simp [fG]
 | k+1,hk,h=>by
  have ih:=jT hs k (by omega) fun i hi h2=>h i hi (by omega);have h1:=h k (by omega) (by omega);have h2:=hs _ (IZ (show k<l.length by omega));rw [fr (by omega)];have h3:0<=l[k].times * (l[k].sets.length:Int):=Int.mul_nonneg h1.1 (by omega);have h4:l[k].times * (l[k].sets.length:Int)<=3 * 10:=Int.mul_le_mul h1.2 (by omega) (by omega) (by omega);omega
theorem xg (l:List Ev) (hl:l.length<=1000) (hs:∀ e ∈ l,e.sets.length<=10):bh Tryz.prog 12 [.sl 5 (l.map mt)] fun R=>∃ v,R=val (.int .i64 v) /\ (v<0 \/ (v=fG l /\ iV l)):=by
 refine ay ae Tryz.func12 rfl (by decide) Tryz.ntmps12 Tryz.results12 rfl ?_
 repeat' first|refine go ?_|decide|refine sp ?_ ?_<;>intro _
 refine af (fun st=>∃ k:Nat,k<=l.length /\ (∀ i (h:i<l.length),i<k -> 0<=l[i].times /\ l[i].times<=3 /\ (l[i].times=0 -> l[i].sets.length=0)) /\ st=⟨54,[(0,.sl 5 (l.map mt)),(3,eI (fG (l.take k))),(4,eI (k:Int))],[],0⟩) (fun st=>l.length - aw st 4) ⟨_,(wE (kf @I5 @te)),0,IY _,fun i h h2=>absurd h2 (by omega),rfl⟩ ?_;rintro _ ⟨k,hk,hI,rfl⟩;have hbd:=jT hs k hk fun i h h2=>⟨(hI i h h2).1,(hI i h h2).2.1⟩;by_cases hlt:k<l.length
 .by_cases hg:0<=l[k].times /\ l[k].times<=3 /\ (l[k].times=0 -> l[k].sets.length=0)
  .have h2:=hs _ (IZ hlt);have h3:0<=l[k].times * (l[k].sets.length:Int):=Int.mul_nonneg hg.1 (by omega);have h4:l[k].times * (l[k].sets.length:Int)<=3 * 10:=Int.mul_le_mul hg.2.1 (by omega) (by omega) (by omega);have e1:IntKind.i64.wrap (l[k].times * (l[k].sets.length:Int))=l[k].times * (l[k].sets.length:Int):=aP (by omega) (by omega)
   have e2:IntKind.i64.wrap (fG (l.take k)+l[k].times * (l[k].sets.length:Int))=fG (l.take (k+1)):=by
    rw [fr hlt];exact aP (by omega) (by omega)
   have hI':∀ i (h:i<l.length),i<k+1 -> 0<=l[i].times /\ l[i].times<=3 /\ (l[i].times=0 -> l[i].sets.length=0):=fun i h h2=>by
    rcases Jk i k with h3|h3
    .exact hI i h h3
    .obtain rfl:i=k:=by omega
     exact hg
   have d1:decide (l[k].times<0)=false:=I3 (by omega);have d2:decide (3<l[k].times)=false:=I3 (by omega);by_cases hz:l[k].times=0
   .have d3:(l[k].times == 0)=true:=(by simp [hz]);have d4:decide (0<(l[k].sets.length:Int))=false:=I3 (by have:=hg.2.2 hz;omega);have d5:decide (0<l[k].sets.length)=false:=I3 (by have:=hg.2.2 hz;omega)
    repeat' first|refine go ?_|simp only [ac,hlt,d1,d2,d3,d4,d5,e1]|decide|refine sp ?_ ?_<;>intro _
    all_goals exact rI (wE (kf e1 e2)) ⟨k+1,by omega,hI',rfl⟩
   .have d3:(l[k].times == 0)=false:=by simp [hz]
    repeat' first|refine go ?_|simp only [ac,hlt,d1,d2,d3,e1]|decide|refine sp ?_ ?_<;>intro _
    all_goals exact rI (wE (kf e1 e2)) ⟨k+1,by omega,hI',rfl⟩
  .have hbad:decide (l[k].times<0)=true \/ (decide (l[k].times<0)=false /\ decide (3<l[k].times)=true) \/ (decide (l[k].times<0)=false /\ decide (3<l[k].times)=false /\ (l[k].times == 0)=true /\ decide (0<(l[k].sets.length:Int))=true /\ decide (0<l[k].sets.length)=true):=by
    by_cases h1:l[k].times<0
    .exact .inl (Jc h1)
    by_cases h2:3<l[k].times
    .exact .inr (.inl ⟨I3 h1,Jc h2⟩)
    have h3:l[k].times=0:=Classical.byContradiction fun h=>hg ⟨by omega,by omega,fun h'=>absurd h' h⟩;have h4:0<l[k].sets.length:=Nat.pos_of_ne_zero fun h=>hg ⟨by omega,by omega,fun _=>h⟩;exact .inr (.inr ⟨I3 h1,I3 h2,by simp [h3],Jc (by omega),Jc h4⟩)
   rcases hbad with d1|⟨d1,d2⟩|⟨d1,d2,d3,d4,d5⟩
   .repeat' first|refine go ?_|simp only [ac,hlt,d1]|decide|refine sp ?_ ?_<;>intro _
    exact co ⟨-1,rfl,.inl (by omega)⟩
   .repeat' first|refine go ?_|simp only [ac,hlt,d1,d2]|decide|refine sp ?_ ?_<;>intro _
    exact co ⟨-1,rfl,.inl (by omega)⟩
   .repeat' first|refine go ?_|simp only [ac,hlt,d1,d2,d3,d4,d5]|decide|refine sp ?_ ?_<;>intro _
    all_goals exact co ⟨-1,rfl,.inl (by omega)⟩
 .obtain rfl:k=l.length:=by omega
  repeat' first|refine ge @hlt ?_|decide|refine sp ?_ ?_<;>intro _
  exact co ⟨_,rfl,.inr ⟨by simp only [I9],⟨fun i h=>hI i h h⟩⟩⟩
end
end
end Go.Proofs.YtiaiihjmmfakdaaGreat
