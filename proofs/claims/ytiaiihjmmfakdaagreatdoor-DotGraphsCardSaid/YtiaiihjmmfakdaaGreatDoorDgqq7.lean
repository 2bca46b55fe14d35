/-
  Parts of the proof: Dgqp20, Dgqp21, Dgqp22, Dgqp23, Dgqp24, Dgqp25, Dgqp26.
-/
import Derived.Test.YtiaiihjmmfakdaaGreatDoorDgqq6
import Derived.Lib.UnsafeStr
import Derived.Shelf.Strconv.Itoa3
set_option linter.unusedVariables false
set_option linter.unusedSimpArgs false
set_option linter.defProp false
set_option maxRecDepth 100000
set_option maxHeartbeats 16000000
namespace Go.Proofs.YtiaiihjmmfakdaaGreatDoor
open Go.RowKit
section
section
theorem H8 (q:Nat) (hq:q<=60):aw Tryz.prog 70 [eI (q:Int)] (val (.int .i64 (((2 ^ q - 1:Nat):Int)))):=by
 refine ab ah Tryz.func70 rfl (by decide) Tryz.ntmps70 Tryz.results70 rfl (aU _) ?_
 repeat' first|refine go ?_|decide|refine sp ?_ ?_<;>intro _
 refine af (fun st=>∃ k:Nat,k<=q /\ st=⟨14,[(0,eI (q:Int)),(3,eI ((2 ^ k - 1:Nat):Int)),(4,eI (k:Int))],[],0⟩) (fun st=>q - ap st 4) ⟨_,wC,0,KR _,rfl⟩ ?_;rintro _ ⟨k,hk,rfl⟩;by_cases hlt:k<q
 .have hp:2 ^ k<=2 ^ 59:=Lu (by omega) (by omega);have hp1:1<=2 ^ k:=Nat.one_le_two_pow;have e1:IntKind.i64.wrap (2 * ((2 ^ k - 1:Nat):Int))=2 * ((2 ^ k - 1:Nat):Int):=ay (by omega) (by omega)
  have e2:IntKind.i64.wrap (2 * ((2 ^ k - 1:Nat):Int)+1)=((2 ^ (k+1) - 1:Nat):Int):=by
   rw [ay (by omega) (by omega),Nat.pow_succ];omega
  repeat' first|refine ge (kf @hlt (kf e1 e2)) ?_|decide|refine sp ?_ ?_<;>intro _
  exact rI (wE (kf e1 e2)) ⟨k+1,by omega,rfl⟩
 .obtain rfl:k=q:=by omega
  repeat' first|refine ge @hlt ?_|decide|refine sp ?_ ?_<;>intro _
theorem jc (m:aR) (l:List aJ) (prop:Bool) (hl:l.length<=1000):cT Tryz.prog 73 [.agg (aM m),bw l,eB prop] fun R=>∃ b,R=val (.bool b) /\ (b=true -> cp (l.map aJ.op)=0 /\ ∀ i (h:i<l.length),j8 m l[i]=true /\ (prop=false -> ¬ (18<l[i].op \/ (10<l[i].op /\ l[i].op<15)))):=by
 refine ba ah Tryz.func73 rfl (by decide) Tryz.ntmps73 Tryz.results73 rfl ?_
 repeat' first|refine go ?_|decide|refine sp ?_ ?_<;>intro _
 refine af (fun st=>∃ k:Nat,k<=l.length /\ k<=70 /\ st=⟨67,[(1,bw l),(2,eB prop),(3,.op 0 0 0),(7,.osl 1),(8,eI (k:Int))],[(0,some (.box 32 (aM m))),(1,some (.row 76 9 (((l.map aJ.op).take k).map my)))],2⟩) (fun st=>l.length - ap st 8) ⟨_,((bf 7 76 9 (by simp only [iu,ak.get,bl,ak.put,↓reduceIte,reduceCtorEq,Nat.reduceLT,Nat.reduceEqDiff,Nat.reduceAdd,Nat.reduceLeDiff,eq_self,implies_true,Lb,Lq])).trans (wS [0,1] @Lb)),0,KR _,by omega,rfl⟩ ?_;rintro _ ⟨k,hk,hk70,rfl⟩;have hkl:((l.map aJ.op).take k).length=k:=by simp;omega
 have hlen2:((l.map aJ.op).take k).length<=1000000:=by omega
 by_cases hgo:k<l.length /\ k<70
 .obtain ⟨hlt,h70⟩:=hgo;have e1:decide ((k:Int)<70)=true:=by simp;omega
  have et:((l.map aJ.op).take (k+1)).map my=((l.map aJ.op).take k).map my ++ [my l[k].op]:=by
   rw [eU my (l.map aJ.op) (by simpa using hlt)];simp
  repeat' first|refine go ?_|simp only [ae,hlt,e1]|decide|refine sp ?_ ?_<;>intro _
  refine ⟨rfl,by simp only [hkl,Lg,K6];omega,rI (wS [0,3] et) ⟨k+1,by omega,by omega,rfl⟩⟩
 .have hfin:((l.map aJ.op).take k)=(l.map aJ.op).take 70:=by
   by_cases h1:k=70
   .rw [h1]
   .rw [Lj (by simp;omega),Lj (by simp;omega)]
  have hchk:=pL ((l.map aJ.op).take k) hlen2
  have hE:cp ((l.map aJ.op).take k)=0 -> cp (l.map aJ.op)=0:=fun h=>by
   rcases Ld 64 l.length with h64|h64
   .exfalso;have:64<((l.map aJ.op).take k).length:=by omega
    unfold cp at h;rw [KY (by omega),K5 this] at h;cases h
   .rw [Lj (by simp;omega)] at h;exact h
  have hcond:decide (k<l.length)=false \/ (decide (k<l.length)=true /\ decide ((k:Int)<70)=false):=by
   by_cases h:k<l.length
   .exact .inr ⟨K4 h,K0 (by omega)⟩
   .exact .inl (K0 h)
  by_cases hz:cp ((l.map aJ.op).take k)=0
  .have z1:(cp ((l.map aJ.op).take k) != 0)=false:=(by simp [hz]);have hE:=hE hz;have fin:Bj Tryz.prog (Code.skip) (fun _ _=>True) ⟨0,[],[],0⟩ -> True:=fun _=>trivial;rcases hcond with d1|⟨d1,d2⟩
   .repeat' first|refine ge d1 ?_|decide|refine sp ?_ ?_<;>intro _
    refine aA hchk ?_
    repeat' first|refine ge z1 ?_|decide|refine sp ?_ ?_<;>intro _
    refine af (fun st=>∃ q:Nat,q<=l.length /\ (∀ i (h:i<l.length),i<q -> j8 m l[i]=true /\ (prop=false -> ¬ (18<l[i].op \/ (10<l[i].op /\ l[i].op<15)))) /\ st=⟨67,[(1,bw l),(2,eB prop),(3,.op 0 0 0),(9,eI (q:Int))],[(0,some (.box 32 (aM m)))],1⟩) (fun st=>l.length - ap st 9) ⟨_,wC,0,KR _,fun i h h2=>absurd h2 (by omega),rfl⟩ ?_;rintro _ ⟨q,hq,hI,rfl⟩;by_cases hlt2:q<l.length
    .repeat' first|refine go ?_|simp only [ae,hlt2]|decide|refine sp ?_ ?_<;>intro _
     refine aD (by kernel_rfl) ?_
     repeat' first|refine go ?_|simp only [ae,hlt2]|decide|refine sp ?_ ?_<;>intro _
     refine aZ (A5 m l[q]) ?_
     repeat' first|refine go ?_|simp only [ae,hlt2]|decide|refine sp ?_ ?_<;>intro _
     all_goals first|with_reducible exact bZ ⟨false,rfl,fun h=>by cases h⟩|skip
     all_goals
      refine rI wC ⟨q+1,by omega,fun i h h2=>?_,rfl⟩;rcases Ld i q with h3|h3
      .exact hI i h h3
      .obtain rfl:i=q:=by omega
       simp_all
       try omega
    .repeat' first|refine go ?_|simp only [ae,hlt2]|decide|refine sp ?_ ?_<;>intro _
     exact bZ ⟨true,rfl,fun _=>⟨hE,fun i h=>hI i h (by omega)⟩⟩
   .repeat' first|refine ge (kf d1 d2) ?_|decide|refine sp ?_ ?_<;>intro _
    refine aA hchk ?_
    repeat' first|refine ge z1 ?_|decide|refine sp ?_ ?_<;>intro _
    refine af (fun st=>∃ q:Nat,q<=l.length /\ (∀ i (h:i<l.length),i<q -> j8 m l[i]=true /\ (prop=false -> ¬ (18<l[i].op \/ (10<l[i].op /\ l[i].op<15)))) /\ st=⟨67,[(1,bw l),(2,eB prop),(3,.op 0 0 0),(9,eI (q:Int))],[(0,some (.box 32 (aM m)))],1⟩) (fun st=>l.length - ap st 9) ⟨_,wC,0,KR _,fun i h h2=>absurd h2 (by omega),rfl⟩ ?_;rintro _ ⟨q,hq,hI,rfl⟩;by_cases hlt2:q<l.length
    .repeat' first|refine go ?_|simp only [ae,hlt2]|decide|refine sp ?_ ?_<;>intro _
     refine aD (by kernel_rfl) ?_
     repeat' first|refine go ?_|simp only [ae,hlt2]|decide|refine sp ?_ ?_<;>intro _
     refine aZ (A5 m l[q]) ?_
     repeat' first|refine go ?_|simp only [ae,hlt2]|decide|refine sp ?_ ?_<;>intro _
     all_goals first|with_reducible exact bZ ⟨false,rfl,fun h=>by cases h⟩|skip
     all_goals
      refine rI wC ⟨q+1,by omega,fun i h h2=>?_,rfl⟩;rcases Ld i q with h3|h3
      .exact hI i h h3
      .obtain rfl:i=q:=by omega
       simp_all
       try omega
    .repeat' first|refine go ?_|simp only [ae,hlt2]|decide|refine sp ?_ ?_<;>intro _
     exact bZ ⟨true,rfl,fun _=>⟨hE,fun i h=>hI i h (by omega)⟩⟩
  .have z1:(cp ((l.map aJ.op).take k) != 0)=true:=(by simp [hz]);rcases hcond with d1|⟨d1,d2⟩
   .repeat' first|refine ge d1 ?_|decide|refine sp ?_ ?_<;>intro _
    refine aA hchk ?_
    repeat' first|refine ge z1 ?_|decide|refine sp ?_ ?_<;>intro _
    exact bZ ⟨false,rfl,fun h=>by cases h⟩
   .repeat' first|refine ge (kf d1 d2) ?_|decide|refine sp ?_ ?_<;>intro _
    refine aA hchk ?_
    repeat' first|refine ge z1 ?_|decide|refine sp ?_ ?_<;>intro _
    exact bZ ⟨false,rfl,fun h=>by cases h⟩
def jQ (l:List Ev):Int:=(l.map fun e=>e.times * (e.sets.length:Int)).sum
structure l6 (l:List Ev):Prop where
 each:∀ i (h:i<l.length),0<=l[i].times /\ l[i].times<=3 /\ (l[i].times=0 -> l[i].sets.length=0)
theorem A2:jQ []=0:=rfl
theorem iQ {l:List Ev} {k:Nat} (hk:k<l.length):jQ (l.take (k+1))=jQ (l.take k)+l[k].times * (l[k].sets.length:Int):=by
 unfold jQ;rw [KX hk,Lr,List.sum_append];simp
theorem pT {l:List Ev} (hs:∀ e ∈ l,e.sets.length<=10):∀ k,k<=l.length -> (∀ i (h:i<l.length),i<k -> 0<=l[i].times /\ l[i].times<=3) -> 0<=jQ (l.take k) /\ jQ (l.take k)<=30 * (k:Int)
 | 0,_,_=>by simp [jQ]
 | k+1,hk,h=>by
  have ih:=pT hs k (by omega) fun i hi h2=>h i hi (by omega);have h1:=h k (by omega) (by omega);have h2:=hs _ (KQ (show k<l.length by omega));rw [iQ (by omega)];have h3:0<=l[k].times * (l[k].sets.length:Int):=Int.mul_nonneg h1.1 (by omega);have h4:l[k].times * (l[k].sets.length:Int)<=3 * 10:=Int.mul_le_mul h1.2 (by omega) (by omega) (by omega);omega
theorem zY (l:List Ev) (hl:l.length<=1000) (hs:∀ e ∈ l,e.sets.length<=10):cT Tryz.prog 23 [.sl 5 (l.map wY)] fun R=>∃ v,R=val (.int .i64 v) /\ (v<0 \/ (v=jQ l /\ l6 l)):=by
 refine ba ah Tryz.func23 rfl (by decide) Tryz.ntmps23 Tryz.results23 rfl ?_
 repeat' first|refine go ?_|decide|refine sp ?_ ?_<;>intro _
 refine af (fun st=>∃ k:Nat,k<=l.length /\ (∀ i (h:i<l.length),i<k -> 0<=l[i].times /\ l[i].times<=3 /\ (l[i].times=0 -> l[i].sets.length=0)) /\ st=⟨54,[(0,.sl 5 (l.map wY)),(3,eI (jQ (l.take k))),(4,eI (k:Int))],[],0⟩) (fun st=>l.length - ap st 4) ⟨_,(wE (kf @Lb @A2)),0,KR _,fun i h h2=>absurd h2 (by omega),rfl⟩ ?_;rintro _ ⟨k,hk,hI,rfl⟩;have hbd:=pT hs k hk fun i h h2=>⟨(hI i h h2).1,(hI i h h2).2.1⟩;by_cases hlt:k<l.length
 .by_cases hg:0<=l[k].times /\ l[k].times<=3 /\ (l[k].times=0 -> l[k].sets.length=0)
  .have h2:=hs _ (KQ hlt);have h3:0<=l[k].times * (l[k].sets.length:Int):=Int.mul_nonneg hg.1 (by omega);have h4:l[k].times * (l[k].sets.length:Int)<=3 * 10:=Int.mul_le_mul hg.2.1 (by omega) (by omega) (by omega);have e1:IntKind.i64.wrap (l[k].times * (l[k].sets.length:Int))=l[k].times * (l[k].sets.length:Int):=ay (by omega) (by omega)
   have e2:IntKind.i64.wrap (jQ (l.take k)+l[k].times * (l[k].sets.length:Int))=jQ (l.take (k+1)):=by
    rw [iQ hlt];exact ay (by omega) (by omega)
   have hI':∀ i (h:i<l.length),i<k+1 -> 0<=l[i].times /\ l[i].times<=3 /\ (l[i].times=0 -> l[i].sets.length=0):=fun i h h2=>by
    rcases Ld i k with h3|h3
    .exact hI i h h3
    .obtain rfl:i=k:=by omega
     exact hg
   have d1:decide (l[k].times<0)=false:=K0 (by omega);have d2:decide (3<l[k].times)=false:=K0 (by omega);by_cases hz:l[k].times=0
   .have d3:(l[k].times == 0)=true:=(by simp [hz]);have d4:decide (0<(l[k].sets.length:Int))=false:=K0 (by have:=hg.2.2 hz;omega);have d5:decide (0<l[k].sets.length)=false:=K0 (by have:=hg.2.2 hz;omega)
    repeat' first|refine go ?_|simp only [ae,hlt,d1,d2,d3,d4,d5,e1]|decide|refine sp ?_ ?_<;>intro _
    all_goals exact rI (wE (kf e1 e2)) ⟨k+1,by omega,hI',rfl⟩
   .have d3:(l[k].times == 0)=false:=by simp [hz]
    repeat' first|refine go ?_|simp only [ae,hlt,d1,d2,d3,e1]|decide|refine sp ?_ ?_<;>intro _
    all_goals exact rI (wE (kf e1 e2)) ⟨k+1,by omega,hI',rfl⟩
  .have hbad:decide (l[k].times<0)=true \/ (decide (l[k].times<0)=false /\ decide (3<l[k].times)=true) \/ (decide (l[k].times<0)=false /\ decide (3<l[k].times)=false /\ (l[k].times == 0)=true /\ decide (0<(l[k].sets.length:Int))=true /\ decide (0<l[k].sets.length)=true):=by
    by_cases h1:l[k].times<0
    .exact .inl (K4 h1)
    by_cases h2:3<l[k].times
    .exact .inr (.inl ⟨K0 h1,K4 h2⟩)
    have h3:l[k].times=0:=Classical.byContradiction fun h=>hg ⟨by omega,by omega,fun h'=>absurd h' h⟩;have h4:0<l[k].sets.length:=Nat.pos_of_ne_zero fun h=>hg ⟨by omega,by omega,fun _=>h⟩;exact .inr (.inr ⟨K0 h1,K0 h2,by simp [h3],K4 (by omega),K4 h4⟩)
   rcases hbad with d1|⟨d1,d2⟩|⟨d1,d2,d3,d4,d5⟩
   .repeat' first|refine go ?_|simp only [ae,hlt,d1]|decide|refine sp ?_ ?_<;>intro _
    exact bZ ⟨-1,rfl,.inl (by omega)⟩
   .repeat' first|refine go ?_|simp only [ae,hlt,d1,d2]|decide|refine sp ?_ ?_<;>intro _
    exact bZ ⟨-1,rfl,.inl (by omega)⟩
   .repeat' first|refine go ?_|simp only [ae,hlt,d1,d2,d3,d4,d5]|decide|refine sp ?_ ?_<;>intro _
    all_goals exact bZ ⟨-1,rfl,.inl (by omega)⟩
 .obtain rfl:k=l.length:=by omega
  repeat' first|refine ge @hlt ?_|decide|refine sp ?_ ?_<;>intro _
  exact bZ ⟨_,rfl,.inr ⟨by simp only [K7],⟨fun i h=>hI i h h⟩⟩⟩
end
end
section
section
def JS (m:aR) (l:List aJ):Prop:=cp (l.map aJ.op)=0 /\ ∀ i (h:i<l.length),j8 m l[i]=true /\ ¬ (18<l[i].op \/ (10<l[i].op /\ l[i].op<15))
def CD (m:aR) (l:List Int):Prop:=∀ i (h:i<l.length),dg l[i] m.attrs.length=true /\ ∀ j (h:j<i),l[j] ≠ l[i]
def C7 (m:aR) (p:ByteArray × Int):Prop:=0<p.2 /\ p.2<16 /\ p.2<=((2 ^ m.users.length - 1:Nat):Int)
def wH (m:aR) (p:ByteArray × Int):Prop:=p.2 = -1 \/ dg p.2 m.stages.length=true
def vy (m:aR) (e:Ev):Prop:=dg e.role m.roles.length=true /\ dg e.stage m.stages.length=true /\ CD m e.sets
def qy (m:aR) (st ev:Int) (l:List aJ):Prop:=dg st m.stages.length=true /\ (ev = -1 \/ dg ev m.events.length=true) /\ JS m l
def Ik (m:aR) (p:Int × Int):Prop:=dg p.1 m.events.length=true /\ dg p.2 m.events.length=true /\ p.1 ≠ p.2
structure xf (m:aR):Prop where
 roles:∀ i (h:i<m.roles.length),C7 m m.roles[i]
 stages:∀ i (h:i<m.stages.length),wH m m.stages[i]
 events:∀ i (h:i<m.events.length),vy m m.events[i]
 guards:∀ i (h:i<m.guards.length),qy m m.guards[i].stage m.guards[i].event m.guards[i].cond
 miles:∀ i (h:i<m.miles.length),qy m m.miles[i].stage m.miles[i].event m.miles[i].cond
 sods:∀ i (h:i<m.sods.length),Ik m m.sods[i]
def pc {α:Type} (l:List α) (p:α -> Prop) (k:Nat):Prop:=∀ i (h:i<l.length),i<k -> p l[i]
theorem pc.zero {α:Type} (l:List α) (p:α -> Prop):pc l p 0:=fun i h h2=>absurd h2 (by omega)
theorem pc.succ {α:Type} {l:List α} {p:α -> Prop} {k:Nat} (h:pc l p k) (hk:k<l.length) (hp:p l[k]):pc l p (k+1):=fun i hi h2=>by
 rcases Ld i k with h3|h3
 .exact h i hi h3
 .obtain rfl:i=k:=by omega
  exact hp
theorem E2 (m:aR) (l:List Int) (hl:l.length<=1000000):∃ b,aw Tryz.prog 72 [.agg (aM m),sI l] (val (.bool b)) /\ (b=true -> CD m l):=by
 classical
 exact ⟨decide (∀ i (h:i<l.length),dg l[i] m.attrs.length=true /\ ∀ j (h:j<i),l[j] ≠ l[i]),IC m l hl _ (by simp),fun h=>by unfold CD;simpa using h⟩
def NM (m:aR) (a b c d e f:Nat):Prop:=pc m.roles (C7 m) a /\ pc m.stages (wH m) b /\ pc m.events (vy m) c /\ pc m.guards (fun g=>qy m g.stage g.event g.cond) d /\ pc m.miles (fun g=>qy m g.stage g.event g.cond) e /\ pc m.sods (Ik m) f
theorem NM.s1 {m:aR} {a b c d e f:Nat} (h:NM m a b c d e f) (hk:a<m.roles.length) (hp:C7 m m.roles[a]):NM m (a+1) b c d e f:=⟨h.1.succ hk hp,h.2⟩
theorem NM.s2 {m:aR} {a b c d e f:Nat} (h:NM m a b c d e f) (hk:b<m.stages.length) (hp:wH m m.stages[b]):NM m a (b+1) c d e f:=⟨h.1,h.2.1.succ hk hp,h.2.2⟩
theorem NM.s3 {m:aR} {a b c d e f:Nat} (h:NM m a b c d e f) (hk:c<m.events.length) (hp:vy m m.events[c]):NM m a b (c+1) d e f:=⟨h.1,h.2.1,h.2.2.1.succ hk hp,h.2.2.2⟩
theorem NM.s4 {m:aR} {a b c d e f:Nat} (h:NM m a b c d e f) (hk:d<m.guards.length) (hp:qy m m.guards[d].stage m.guards[d].event m.guards[d].cond):NM m a b c (d+1) e f:=⟨h.1,h.2.1,h.2.2.1,h.2.2.2.1.succ hk hp,h.2.2.2.2⟩
theorem NM.s5 {m:aR} {a b c d e f:Nat} (h:NM m a b c d e f) (hk:e<m.miles.length) (hp:qy m m.miles[e].stage m.miles[e].event m.miles[e].cond):NM m a b c d (e+1) f:=⟨h.1,h.2.1,h.2.2.1,h.2.2.2.1,h.2.2.2.2.1.succ hk hp,h.2.2.2.2.2⟩
theorem NM.s6 {m:aR} {a b c d e f:Nat} (h:NM m a b c d e f) (hk:f<m.sods.length) (hp:Ik m m.sods[f]):NM m a b c d e (f+1):=⟨h.1,h.2.1,h.2.2.1,h.2.2.2.1,h.2.2.2.2.1,h.2.2.2.2.2.succ hk hp⟩
theorem NM.named {m:aR} (h:NM m m.roles.length m.stages.length m.events.length m.guards.length m.miles.length m.sods.length):xf m:=⟨fun i hi=>h.1 i hi hi,fun i hi=>h.2.1 i hi hi,fun i hi=>h.2.2.1 i hi hi,fun i hi=>h.2.2.2.1 i hi hi,fun i hi=>h.2.2.2.2.1 i hi hi,fun i hi=>h.2.2.2.2.2 i hi hi⟩
theorem DX (m:aR) (hf:p9 m):cT Tryz.prog 22 [.agg (aM m)] fun R=>∃ b,R=val (.bool b) /\ (b=true -> xf m):=by
 refine ba ah Tryz.func22 rfl (by decide) Tryz.ntmps22 Tryz.results22 rfl ?_;obtain ⟨hg,hm,hst,hev,hat,hus,hro,hso,-⟩:=id hf.sizes
 repeat' first|refine go ?_|decide|refine sp ?_ ?_<;>intro _
 refine af (fun st=>∃ (k:Nat) (b:Bool),k<=m.roles.length /\ (b=true -> NM m k 0 0 0 0 0) /\ st=⟨233,[(1,.op 0 0 0),(3,eB b),(4,eI (k:Int))],[(0,some (.box 32 (aM m)))],1⟩) (fun st=>m.roles.length - ap st 4) ⟨_,wC,0,true,KR _,fun _=>⟨.zero _ _,.zero _ _,.zero _ _,.zero _ _,.zero _ _,.zero _ _⟩,rfl⟩ ?_;rintro _ ⟨k,b,hk,hI,rfl⟩;by_cases hlt:k<m.roles.length
 .repeat' first|refine go ?_|simp only [ae,hlt]|decide|refine sp ?_ ?_<;>intro _
  all_goals first|with_reducible exact rI wC ⟨k+1,false,by omega,(fun h=>by cases h),rfl⟩|skip
  refine aA (H8 m.users.length (by omega)) ?_
  repeat' first|refine go ?_|simp only [ae,hlt]|decide|refine sp ?_ ?_<;>intro _
  refine rI wC ⟨k+1,decide (m.roles[k].2<=((2 ^ m.users.length - 1:Nat):Int)),by omega,fun h=>(hI (by assumption)).s1 hlt ⟨?_,?_,of_decide_eq_true h⟩,rfl⟩;all_goals (apply of_decide_eq_true;assumption)
 obtain rfl:k=m.roles.length:=by omega
 repeat' first|refine go ?_|simp only [ae,hlt]|decide|refine sp ?_ ?_<;>intro _
 clear hk hlt;refine af (fun st=>∃ (k:Nat) (b:Bool),k<=m.stages.length /\ (b=true -> NM m m.roles.length k 0 0 0 0) /\ st=⟨233,[(1,.op 0 0 0),(3,eB b),(6,eI (k:Int))],[(0,some (.box 32 (aM m)))],1⟩) (fun st=>m.stages.length - ap st 6) ⟨_,wC,0,b,KR _,hI,rfl⟩ ?_;clear hI b;rintro _ ⟨k,b,hk,hI,rfl⟩;by_cases hlt:k<m.stages.length
 .repeat' first|refine go ?_|simp only [ae,hlt]|decide|refine sp ?_ ?_<;>intro _
  all_goals first|with_reducible exact rI wC ⟨k+1,false,by omega,(fun h=>by cases h),rfl⟩|skip
  all_goals first|exact rI wC ⟨k+1,true,by omega,(fun h=>(hI (by assumption)).s2 hlt (.inl (eq_of_beq (by assumption)))),rfl⟩|skip
  refine aA (qf m.stages[k].2 m.stages.length) ?_
  repeat' first|refine go ?_|simp only [ae,hlt]|decide|refine sp ?_ ?_<;>intro _
  exact rI wC ⟨k+1,dg m.stages[k].2 m.stages.length,by omega,(fun h=>(hI (by assumption)).s2 hlt (.inr h)),rfl⟩
 obtain rfl:k=m.stages.length:=by omega
 repeat' first|refine go ?_|simp only [ae,hlt]|decide|refine sp ?_ ?_<;>intro _
 clear hk hlt;refine af (fun st=>∃ (k:Nat) (b:Bool),k<=m.events.length /\ (b=true -> NM m m.roles.length m.stages.length k 0 0 0) /\ st=⟨233,[(1,.op 0 0 0),(3,eB b),(8,eI (k:Int))],[(0,some (.box 32 (aM m)))],1⟩) (fun st=>m.events.length - ap st 8) ⟨_,wC,0,b,KR _,hI,rfl⟩ ?_;clear hI b;rintro _ ⟨k,b,hk,hI,rfl⟩;by_cases hlt:k<m.events.length
 .have hs:=hf.events _ (KQ hlt);obtain ⟨x,hx,hxp⟩:=E2 m m.events[k].sets (by omega)
  repeat' first|refine go ?_|simp only [ae,hlt]|decide|refine sp ?_ ?_<;>intro _
  all_goals first|with_reducible exact rI wC ⟨k+1,false,by omega,(fun h=>by cases h),rfl⟩|skip
  refine aA (qf _ _) ?_
  repeat' first|refine go ?_|simp only [ae,hlt]|decide|refine sp ?_ ?_<;>intro _
  all_goals first|with_reducible exact rI wC ⟨k+1,false,by omega,(fun h=>by cases h),rfl⟩|skip
  refine aA (qf _ _) ?_
  repeat' first|refine go ?_|simp only [ae,hlt]|decide|refine sp ?_ ?_<;>intro _
  all_goals first|with_reducible exact rI wC ⟨k+1,false,by omega,(fun h=>by cases h),rfl⟩|skip
  refine aA hx ?_
  repeat' first|refine go ?_|simp only [ae,hlt]|decide|refine sp ?_ ?_<;>intro _
  exact rI wC ⟨k+1,x,by omega,(fun h=>(hI (by assumption)).s3 hlt ⟨by assumption,by assumption,hxp h⟩),rfl⟩
 obtain rfl:k=m.events.length:=by omega
 repeat' first|refine go ?_|simp only [ae,hlt]|decide|refine sp ?_ ?_<;>intro _
 clear hk hlt;refine af (fun st=>∃ (k:Nat) (b:Bool),k<=m.guards.length /\ (b=true -> NM m m.roles.length m.stages.length m.events.length k 0 0) /\ st=⟨233,[(1,.op 0 0 0),(3,eB b),(10,eI (k:Int))],[(0,some (.box 32 (aM m)))],1⟩) (fun st=>m.guards.length - ap st 10) ⟨_,wC,0,b,KR _,hI,rfl⟩ ?_;clear hI b;rintro _ ⟨k,b,hk,hI,rfl⟩;by_cases hlt:k<m.guards.length
 .have hs:=hf.guards _ (KQ hlt)
  repeat' first|refine go ?_|simp only [ae,hlt]|decide|refine sp ?_ ?_<;>intro _
  all_goals first|with_reducible exact rI wC ⟨k+1,false,by omega,(fun h=>by cases h),rfl⟩|skip
  refine aA (qf _ _) ?_
  repeat' first|refine go ?_|simp only [ae,hlt]|decide|refine sp ?_ ?_<;>intro _
  all_goals first|with_reducible exact rI wC ⟨k+1,false,by omega,(fun h=>by cases h),rfl⟩|skip
  .refine jE (jc m m.guards[k].cond false (by omega)) fun x hx=>?_
   repeat' first|refine go ?_|simp only [ae,hlt]|decide|refine sp ?_ ?_<;>intro _
   exact rI wC ⟨k+1,x,by omega,(fun h=>(hI (by assumption)).s4 hlt ⟨by assumption,.inl (eq_of_beq (by assumption)),(hx h).1,fun i hi=>⟨((hx h).2 i hi).1,((hx h).2 i hi).2 rfl⟩⟩),rfl⟩
  .refine aA (qf _ _) ?_
   repeat' first|refine go ?_|simp only [ae,hlt]|decide|refine sp ?_ ?_<;>intro _
   all_goals first|with_reducible exact rI wC ⟨k+1,false,by omega,(fun h=>by cases h),rfl⟩|skip
   refine jE (jc m m.guards[k].cond false (by omega)) fun x hx=>?_
   repeat' first|refine go ?_|simp only [ae,hlt]|decide|refine sp ?_ ?_<;>intro _
   exact rI wC ⟨k+1,x,by omega,(fun h=>(hI (by assumption)).s4 hlt ⟨by assumption,.inr (by assumption),(hx h).1,fun i hi=>⟨((hx h).2 i hi).1,((hx h).2 i hi).2 rfl⟩⟩),rfl⟩
 obtain rfl:k=m.guards.length:=by omega
 repeat' first|refine go ?_|simp only [ae,hlt]|decide|refine sp ?_ ?_<;>intro _
 clear hk hlt;refine af (fun st=>∃ (k:Nat) (b:Bool),k<=m.miles.length /\ (b=true -> NM m m.roles.length m.stages.length m.events.length m.guards.length k 0) /\ st=⟨233,[(1,.op 0 0 0),(3,eB b),(12,eI (k:Int))],[(0,some (.box 32 (aM m)))],1⟩) (fun st=>m.miles.length - ap st 12) ⟨_,wC,0,b,KR _,hI,rfl⟩ ?_;clear hI b;rintro _ ⟨k,b,hk,hI,rfl⟩;by_cases hlt:k<m.miles.length
 .have hs:=hf.miles _ (KQ hlt)
  repeat' first|refine go ?_|simp only [ae,hlt]|decide|refine sp ?_ ?_<;>intro _
  all_goals first|with_reducible exact rI wC ⟨k+1,false,by omega,(fun h=>by cases h),rfl⟩|skip
  refine aA (qf _ _) ?_
  repeat' first|refine go ?_|simp only [ae,hlt]|decide|refine sp ?_ ?_<;>intro _
  all_goals first|with_reducible exact rI wC ⟨k+1,false,by omega,(fun h=>by cases h),rfl⟩|skip
  .refine jE (jc m m.miles[k].cond false (by omega)) fun x hx=>?_
   repeat' first|refine go ?_|simp only [ae,hlt]|decide|refine sp ?_ ?_<;>intro _
   exact rI wC ⟨k+1,x,by omega,(fun h=>(hI (by assumption)).s5 hlt ⟨by assumption,.inl (eq_of_beq (by assumption)),(hx h).1,fun i hi=>⟨((hx h).2 i hi).1,((hx h).2 i hi).2 rfl⟩⟩),rfl⟩
  .refine aA (qf _ _) ?_
   repeat' first|refine go ?_|simp only [ae,hlt]|decide|refine sp ?_ ?_<;>intro _
   all_goals first|with_reducible exact rI wC ⟨k+1,false,by omega,(fun h=>by cases h),rfl⟩|skip
   refine jE (jc m m.miles[k].cond false (by omega)) fun x hx=>?_
   repeat' first|refine go ?_|simp only [ae,hlt]|decide|refine sp ?_ ?_<;>intro _
   exact rI wC ⟨k+1,x,by omega,(fun h=>(hI (by assumption)).s5 hlt ⟨by assumption,.inr (by assumption),(hx h).1,fun i hi=>⟨((hx h).2 i hi).1,((hx h).2 i hi).2 rfl⟩⟩),rfl⟩
 obtain rfl:k=m.miles.length:=by omega
 repeat' first|refine go ?_|simp only [ae,hlt]|decide|refine sp ?_ ?_<;>intro _
 clear hk hlt;refine af (fun st=>∃ (k:Nat) (b:Bool),k<=m.sods.length /\ (b=true -> NM m m.roles.length m.stages.length m.events.length m.guards.length m.miles.length k) /\ st=⟨233,[(1,.op 0 0 0),(3,eB b),(14,eI (k:Int))],[(0,some (.box 32 (aM m)))],1⟩) (fun st=>m.sods.length - ap st 14) ⟨_,wC,0,b,KR _,hI,rfl⟩ ?_;clear hI b;rintro _ ⟨k,b,hk,hI,rfl⟩;by_cases hlt:k<m.sods.length
 .repeat' first|refine go ?_|simp only [ae,hlt]|decide|refine sp ?_ ?_<;>intro _
  refine aD (by kernel_rfl) ?_
  repeat' first|refine go ?_|simp only [ae,hlt]|decide|refine sp ?_ ?_<;>intro _
  all_goals first|with_reducible exact rI wC ⟨k+1,false,by omega,(fun h=>by cases h),rfl⟩|skip
  refine aZ (qf _ _) ?_
  repeat' first|refine go ?_|simp only [ae,hlt]|decide|refine sp ?_ ?_<;>intro _
  all_goals first|with_reducible exact rI wC ⟨k+1,false,by omega,(fun h=>by cases h),rfl⟩|skip
  refine aZ (qf _ _) ?_
  repeat' first|refine go ?_|simp only [ae,hlt]|decide|refine sp ?_ ?_<;>intro _
  all_goals first|with_reducible exact rI wC ⟨k+1,false,by omega,(fun h=>by cases h),rfl⟩|skip
  exact rI wC ⟨k+1,(m.sods[k].1 != m.sods[k].2),by omega,(fun h=>(hI (by assumption)).s6 hlt ⟨by assumption,by assumption,by simpa using h⟩),rfl⟩
 obtain rfl:k=m.sods.length:=by omega
 repeat' first|refine go ?_|simp only [ae,hlt]|decide|refine sp ?_ ?_<;>intro _
 exact bZ ⟨_,rfl,fun h=>(hI h).named⟩
end
section
def Hr (m:aR) (x:Bool × Int):Int:=if x.1=true then (m.miles[x.2.toNat]?.map (·.stage)).getD 0 else (m.guards[x.2.toNat]?.map (·.stage)).getD 0
end
section
theorem FG {m:aR} (hp:∀ p ∈ m.stages,aq p.2):∀ x ∈ fy m,aq x:=fun x hx=>by
 obtain ⟨p,hp',rfl⟩:=K8.1 hx;exact hp p hp'
end
end
section
section
noncomputable def vS (m:aR) (x:aJ) (y:Nat):Bool:=
 if x.op=9 then bP m y == x.n || (!decide (y<m.guards.length) && decide (FT (fy m) (bP m y) x.n))
 else if x.op=10 then (if y<m.guards.length then decide (0<=x.n) && decide (x.n<(m.miles.length:Int)) && (Hr m (true,x.n) == bP m y) else ((y - m.guards.length:Nat):Int) == x.n) else false
theorem JQ (m:aR) (x:aJ) (y:Nat) (hf:p9 m) (hp:∀ p ∈ m.stages,aq p.2) (hy:y<m.guards.length+m.miles.length):aw Tryz.prog 116 [.agg (aM m),.agg (jO x),eI (y:Int)] (val (.bool (vS m x y))):=by
 refine ab ah Tryz.func116 rfl (by decide) Tryz.ntmps116 Tryz.results116 rfl (aU _) ?_;obtain ⟨hg,hm,hst,-⟩:=id hf.sizes;obtain ⟨op,la,ln,ra,rn,n,u⟩:=x;have hpl:(fy m).length<=1073741824:=by simp [fy];omega
 by_cases h9:op=9
 .subst h9;have z1:((9:Int) == 9)=true:=rfl;have e0:vS m ⟨9,la,ln,ra,rn,n,u⟩ y=(bP m y == n || (!decide (y<m.guards.length) && decide (FT (fy m) (bP m y) n))):=by simp [vS]
  rw [e0]
  repeat' first|refine ge z1 ?_|decide|refine sp ?_ ?_<;>intro _
  refine aB [] [0,1,3,4] (.exec 2 (.take 5 (.take 6 (.take 7 (.take 8 (.take 9 (.take 10 (.take 12 (.take 13 (.take 15 (.take 16 (.exec 11 (.exec 14 (.exec 17 (.take 18 (.take 19 (.exec 20 .done))))))))))))))))) (by kernel_rfl) (by simp) ?_
  repeat' first|refine go ?_|decide|refine sp ?_ ?_<;>intro _
  refine aA (ji m y hf hy) ?_;by_cases hs:bP m y=n
  .have z2:(bP m y == n)=true:=(by simp [hs]);rw [z2]
   repeat' first|refine ge z2 ?_|decide|refine sp ?_ ?_<;>intro _
   all_goals simp
  .have z2:(bP m y == n)=false:=(by simp [hs]);rw [z2,Bool.false_or];by_cases hgd:y<m.guards.length
   .have z3:decide (y<m.guards.length)=true:=K4 hgd;rw [z3]
    repeat' first|refine ge (kf z2 z3) ?_|decide|refine sp ?_ ?_<;>intro _
    all_goals try simp
   .have z3:decide (y<m.guards.length)=false:=K0 hgd;rw [z3]
    repeat' first|refine ge (kf z2 z3) ?_|decide|refine sp ?_ ?_<;>intro _
    refine iU (ml m (by omega)) (.inr eJ) ?_
    repeat' first|refine ge (kf z2 z3) ?_|decide|refine sp ?_ ?_<;>intro _
    refine aA (ji m y hf hy) ?_
    repeat' first|refine ge (kf z2 z3) ?_|decide|refine sp ?_ ?_<;>intro _
    refine aA (F7 (fy m) (bP m y) n hpl (FG hp)) ?_
    repeat' first|refine ge (kf z2 z3) ?_|decide|refine sp ?_ ?_<;>intro _
    all_goals simp
 by_cases h10:op=10
 .subst h10;have z1:((10:Int) == 9)=false:=rfl;have z4:((10:Int) == 10)=true:=rfl;by_cases hgd:y<m.guards.length
  .have z3:decide (y<m.guards.length)=true:=K4 hgd;have e0:vS m ⟨10,la,ln,ra,rn,n,u⟩ y=(decide (0<=n) && decide (n<(m.miles.length:Int)) && (Hr m (true,n) == bP m y)):=(by simp [vS,hgd]);rw [e0];by_cases hn:0<=n /\ n<(m.miles.length:Int)
   .obtain ⟨j,rfl⟩:∃ j:Nat,n=(j:Int):=⟨n.toNat,by omega⟩;have hj:j<m.miles.length:=(by omega)
    repeat' first|refine ge (kf z1 (kf z3 z4)) ?_|decide|refine sp ?_ ?_<;>intro _
    refine aD (by kernel_rfl) ?_
    repeat' first|refine go ?_|simp only [z4,ae,hj]|decide|refine sp ?_ ?_<;>intro _
    refine aZ (ji m y hf hy) ?_
    repeat' first|refine go ?_|simp only [z4,ae,hj]|decide|refine sp ?_ ?_<;>intro _
    simp [Hr,hj]
   .have hn2:decide (0<=n)=false \/ decide (n<(m.miles.length:Int))=false:=by
     rcases Int.lt_or_le n 0 with h|h
     .left;simp;omega
     .right;simp;omega
    rcases hn2 with hn2|hn2
    .rw [hn2]
     repeat' first|refine ge (kf z1 (kf z3 z4)) ?_|decide|refine sp ?_ ?_<;>intro _
     refine aD (by kernel_rfl) ?_
     repeat' first|refine ge (kf z4 hn2) ?_|decide|refine sp ?_ ?_<;>intro _
     all_goals simp
    .rw [hn2]
     repeat' first|refine ge (kf z1 (kf z3 z4)) ?_|decide|refine sp ?_ ?_<;>intro _
     refine aD (by kernel_rfl) ?_
     repeat' first|refine ge (kf z4 hn2) ?_|decide|refine sp ?_ ?_<;>intro _
     all_goals simp
  .have z3:decide (y<m.guards.length)=false:=K0 hgd;have e0:vS m ⟨10,la,ln,ra,rn,n,u⟩ y=(((y - m.guards.length:Nat):Int) == n):=(by simp [vS,hgd]);rw [e0];have ew:IntKind.i64.wrap ((y:Int) - (m.guards.length:Int))=((y - m.guards.length:Nat):Int):=by rw [ay (by omega) (by omega)];omega
   repeat' first|refine ge (kf z1 (kf z3 (kf z4 ew))) ?_|decide|refine sp ?_ ?_<;>intro _
 .have z1:(op == 9)=false:=by simp [h9]
  have z4:(op == 10)=false:=by simp [h10]
  have e0:vS m ⟨op,la,ln,ra,rn,n,u⟩ y=false:=by simp [vS,h9,h10]
  rw [e0]
  repeat' first|refine ge (kf z1 z4) ?_|decide|refine sp ?_ ?_<;>intro _
  all_goals
   refine aD (by kernel_rfl) ?_
   repeat' first|refine ge (kf z1 z4) ?_|decide|refine sp ?_ ?_<;>intro _
noncomputable def ip (m:aR) (x y:Nat):Bool:=((jB m x).any fun i=>vS m i y) || (decide (y<m.guards.length) && (if x<m.guards.length then decide (0<=bP m x) && decide (bP m x<(m.stages.length:Int)) && ((m.stages[(bP m x).toNat]?.map (·.2)).getD 0 == bP m y) else bP m x == bP m y))
theorem qe {α:Type} (l:List α) (p:α -> Bool) {k:Nat} (h:k<l.length):(l.take (k+1)).any p=((l.take k).any p || p l[k]):=by
 rw [KX h,List.any_append];simp
theorem A3 (m:aR) (x y:Nat) (hf:p9 m) (hp:∀ p ∈ m.stages,aq p.2) (hx:x<m.guards.length+m.miles.length) (hy:y<m.guards.length+m.miles.length):aw Tryz.prog 76 [.agg (aM m),eI (x:Int),eI (y:Int)] (val (.bool (ip m x y))):=by
 refine ab ah Tryz.func76 rfl (by decide) Tryz.ntmps76 Tryz.results76 rfl (aU _) ?_;obtain ⟨hg,hm,-⟩:=id hf.sizes
 repeat' first|refine go ?_|decide|refine sp ?_ ?_<;>intro _
 refine dU (HD m x hf hx) (ro) ?_;have hcl:=vW m hf x;obtain ⟨l,hl⟩:∃ l,l=jB m x:=⟨_,rfl⟩;obtain ⟨w,hw⟩:∃ w,w=ip m x y:=⟨_,rfl⟩;have hwd:ip m x y=(l.any (fun i=>vS m i y) || (decide (y<m.guards.length) && (if x<m.guards.length then decide (0<=bP m x) && decide (bP m x<(m.stages.length:Int)) && ((m.stages[(bP m x).toNat]?.map (·.2)).getD 0 == bP m y) else bP m x == bP m y))):=by rw [hl];rfl
 rw [<- hl] at hcl ⊢;rw [<- hw] at hwd ⊢
 repeat' first|refine go ?_|decide|refine sp ?_ ?_<;>intro _
 refine af (fun st=>∃ (k:Nat),(k<=l.length /\ (l.take k).any (fun i=>vS m i y)=false) /\ st=⟨65,[(1,eI (x:Int)),(2,eI (y:Int)),(3,.op 0 0 0),(7,bw l),(8,eI (k:Int))],[(0,some (.box 32 (aM m)))],1⟩) (fun st=>l.length - ap st 8) ⟨_,wC,0,⟨KR _,rfl⟩,rfl⟩ ?_;rintro _ ⟨k,⟨hk,hI⟩,rfl⟩;by_cases hlt:k<l.length
 .repeat' first|refine go ?_|simp only [ae,hlt]|decide|refine sp ?_ ?_<;>intro _
  refine aB [] [0,1,2,3,4,5] (.exec 6 .done) (by kernel_rfl) (by simp) ?_
  repeat' first|refine go ?_|simp only [ae,hlt]|decide|refine sp ?_ ?_<;>intro _
  refine aA (JQ m l[k] y hf hp hy) ?_;have hst:=qe l (fun i=>vS m i y) hlt
  cases hb:vS m l[k] y with
  | true=>
   have hwt:w=true:=by
    have:l.any (fun i=>vS m i y)=true:=List.any_eq_true.2 ⟨_,KQ hlt,hb⟩;rw [hwd,this,Bool.true_or]
   rw [hwt]
   repeat' first|refine go ?_|simp only [ae,hlt]|decide|refine sp ?_ ?_<;>intro _
  | false=>
   repeat' first|refine go ?_|simp only [ae,hlt]|decide|refine sp ?_ ?_<;>intro _
   exact rI wC ⟨k+1,⟨by omega,by rw [hst,hI,hb];rfl⟩,rfl⟩
 .obtain rfl:k=l.length:=by omega
  rw [K7] at hI;rw [hI,Bool.false_or] at hwd;by_cases hgd:y<m.guards.length
  .have z3:decide (y<m.guards.length)=true:=K4 hgd;rw [z3,L5] at hwd;have z3n:decide (m.guards.length<=y)=false:=K0 (by omega);by_cases hxg:x<m.guards.length
   .have z5:decide (m.guards.length<=x)=false:=K0 (by omega);rw [K5 hxg] at hwd
    repeat' first|refine ge (kf @hlt (kf @z3n z5)) ?_|decide|refine sp ?_ ?_<;>intro _
    refine aA (ji m x hf hx) ?_;generalize bP m x=sx at *
    repeat' first|refine ge z5 ?_|decide|refine sp ?_ ?_<;>intro _
    by_cases hn:0<=sx /\ sx<(m.stages.length:Int)
    .obtain ⟨j,rfl⟩:∃ j:Nat,sx=(j:Int):=⟨sx.toNat,by omega⟩;have hj:j<m.stages.length:=(by omega);have hwe:w=(m.stages[j].2 == bP m y):=by rw [hwd];simp [hj]
     rw [hwe];refine aD (by kernel_rfl) ?_
     repeat' first|refine go ?_|simp only [ae,hj]|decide|refine sp ?_ ?_<;>intro _
     refine aZ (ji m y hf hy) ?_
     repeat' first|refine go ?_|simp only [ae,hj]|decide|refine sp ?_ ?_<;>intro _
    .have hn2:decide (0<=sx)=false \/ (decide (0<=sx)=true /\ decide (sx<(m.stages.length:Int))=false):=by
      rcases Int.lt_or_le sx 0 with h|h
      .left;simp;omega
      .right;exact ⟨K4 h,by simp;omega⟩
     rcases hn2 with hn2|⟨hn1,hn2⟩
     .rw [hn2,L6,L6] at hwd;rw [hwd];refine aD (by kernel_rfl) ?_
      repeat' first|refine ge hn2 ?_|decide|refine sp ?_ ?_<;>intro _
     .rw [hn1,hn2,L5,L6] at hwd;rw [hwd];refine aD (by kernel_rfl) ?_
      repeat' first|refine ge (kf hn1 hn2) ?_|decide|refine sp ?_ ?_<;>intro _
   .have z5:decide (m.guards.length<=x)=true:=K4 (by omega);rw [KY hxg] at hwd;rw [hwd]
    repeat' first|refine ge (kf @hlt (kf @z3n z5)) ?_|decide|refine sp ?_ ?_<;>intro _
    refine aA (ji m x hf hx) ?_
    repeat' first|refine ge z5 ?_|decide|refine sp ?_ ?_<;>intro _
    refine aA (ji m y hf hy) ?_
    repeat' first|refine go ?_|decide|refine sp ?_ ?_<;>intro _
  .have z3:decide (y<m.guards.length)=false:=K0 hgd;rw [z3,L6] at hwd;rw [hwd];have z3n:decide (m.guards.length<=y)=true:=K4 (by omega)
   repeat' first|refine ge (kf @hlt @z3n) ?_|decide|refine sp ?_ ?_<;>intro _
end
section
abbrev yE (m:aR):Nat:=m.guards.length+m.miles.length
def ut (m:aR) (js:List Nat) (i:Nat):Prop:=i ∉ js /\ ∀ k,k<yE m -> k ∈ js \/ ip m i k=false
structure Bp (m:aR) (js:List Nat) (i:Nat):Prop where
 lt:i<yE m
 free:ut m js i
 first:∀ i',i'<i -> ¬ ut m js i'
def mX (m:aR) (js:List Nat):Prop:=∀ j (h:j<js.length),Bp m (js.take j) js[j]
theorem uX {m:aR} {js:List Nat} {i:Nat} (h:mX m js) (hi:Bp m js i):mX m (js ++ [i]):=fun j hj=>by
 rw [f4,Lo] at hj;rcases Ld j js.length with h3|h3
 .rw [List.take_append_of_le_length (by omega),Mv h3];exact h j h3
 .obtain rfl:j=js.length:=by omega
  rw [List.take_append_of_le_length (by omega),K7,MJ (by omega)];simpa using hi
theorem rO {bs:List Bool} {js:List Nat} {n j:Nat} (hb:∀ i (h:i<bs.length),bs[i]=decide (i ∈ js)):∀ i (h:i<(bs.set j true).length),(bs.set j true)[i]=decide (i ∈ js ++ [j]):=fun i h=>by
 rw [List.getElem_set];split
 .rename_i e;subst e;simp
 .rename_i e;rw [hb];simp [Ne.symm e]
theorem Bt (m:aR) (hf:p9 m) (hp:∀ p ∈ m.stages,aq p.2):cT Tryz.prog 26 [.agg (aM m)] fun R=>(∃ js:List Nat,R=⟨.tup [.osl 0,eI 0],[(0,some (.row 154 2 ((js.map (lu m)).map ta)))],1⟩ /\ js.length=yE m /\ mX m js) \/ R=⟨.tup [.c (.slice none 0 0),eI 10],[],0⟩:=by
 refine ba ah Tryz.func26 rfl (by decide) Tryz.ntmps26 Tryz.results26 rfl ?_;obtain ⟨hg,hm,-⟩:=id hf.sizes
 repeat' first|refine go ?_|decide|refine sp ?_ ?_<;>intro _
 refine aA (Fc m hf) ?_;obtain ⟨n,hn⟩:∃ n,n=m.guards.length+m.miles.length:=⟨_,rfl⟩;have hnS:yE m=n:=hn.symm;rw [<- hn]
 repeat' first|refine go ?_|decide|refine sp ?_ ?_<;>intro _
 refine ⟨by omega,?_⟩;refine af (fun st=>∃ (bs:List Bool) (js:List Nat),(bs.length=n /\ js.length<=n /\ (∀ i (h:i<bs.length),bs[i]=decide (i ∈ js)) /\ mX m js) /\ st=⟨66,[(1,.op 0 0 0),(4,eI (n:Int)),(5,.osl 1),(6,.osl 2)],[(0,some (.box 32 (aM m))),(1,some (.row 4 1 (bs.map fun b=>[eB b]))),(2,some (.row 154 2 ((js.map (lu m)).map ta)))],3⟩) (fun st=>n - rP st 2) ⟨_,((bf 6 154 2 (by simp only [iu,ak.get,bl,ak.put,↓reduceIte,reduceCtorEq,Nat.reduceLT,Nat.reduceEqDiff,Nat.reduceAdd,Nat.reduceLeDiff,eq_self,implies_true,Lq,List.map_replicate])).trans (wS [0,1,2] @List.map_replicate.{0,0})),List.replicate n false,[],⟨by simp,KR _,fun i h=>by simp,fun j h=>by simp at h⟩,rfl⟩ ?_;rintro _ ⟨bs,js,⟨hbs,ho,hbd,hgr⟩,rfl⟩;have hol:(js.map (lu m)).length=js.length:=Lg ..;by_cases hlt:js.length<n
 .repeat' first|refine ge (kf @hlt @hol) ?_|decide|refine sp ?_ ?_<;>intro _
  refine af (fun st=>∃ (i:Nat) (v:Int),(i<=n /\ ((v<0 /\ ∀ i',i'<i -> ¬ ut m js i') \/ ∃ j:Nat,v=(j:Int) /\ Bp m js j)) /\ st=⟨66,[(1,.op 0 0 0),(4,eI (n:Int)),(5,.osl 1),(6,.osl 2),(7,eI v),(8,eI (i:Int))],[(0,some (.box 32 (aM m))),(1,some (.row 4 1 (bs.map fun b=>[eB b]))),(2,some (.row 154 2 ((js.map (lu m)).map ta)))],3⟩) (fun st=>n - ap st 8) ⟨_,wC,0,-1,⟨KR _,.inl ⟨by omega,fun i' h=>absurd h (by omega)⟩⟩,rfl⟩ ?_;rintro _ ⟨i,v,⟨hi,hv⟩,rfl⟩;rcases hv with ⟨hv0,hno⟩|⟨j,rfl,hnx⟩
  .by_cases hlt2:i<n
   .have hib:i<bs.length:=by omega
    repeat' first|refine go ?_|simp only [ae,hlt2,hv0,hib]|decide|refine sp ?_ ?_<;>intro _
    refine af (fun st=>∃ (k:Nat) (f:Bool),(k<=n /\ (f=true ↔ i ∉ js /\ ∀ k',k'<k -> k' ∈ js \/ ip m i k'=false)) /\ st=⟨66,[(1,.op 0 0 0),(4,eI (n:Int)),(5,.osl 1),(6,.osl 2),(7,eI v),(8,eI (i:Int)),(9,eB f),(10,eI (k:Int))],[(0,some (.box 32 (aM m))),(1,some (.row 4 1 (bs.map fun b=>[eB b]))),(2,some (.row 154 2 ((js.map (lu m)).map ta)))],3⟩) (fun st=>n - ap st 10) ⟨_,wC,0,!bs[i],⟨KR _,by rw [hbd];simp⟩,rfl⟩ ?_;rintro _ ⟨k,f,⟨hk,hF⟩,rfl⟩;by_cases hlt3:k<n
    .have hkb:k<bs.length:=by omega
     have hstep:∀ b:Bool,(b=true ↔ (k ∈ js \/ ip m i k=false)) -> ((f && b)=true ↔ i ∉ js /\ ∀ k',k'<k+1 -> k' ∈ js \/ ip m i k'=false):=fun b hb=>by
      rw [Li,hF,hb];constructor
      .rintro ⟨⟨h1,h2⟩,h3⟩;refine ⟨h1,fun k' h4=>?_⟩;rcases Ld k' k with h5|h5
       .exact h2 k' h5
       .obtain rfl:k'=k:=by omega
        exact h3
      .rintro ⟨h1,h2⟩;exact ⟨⟨h1,fun k' h4=>h2 k' (by omega)⟩,h2 k (by omega)⟩
     have hW:=A3 m i k hf hp (by omega) (by omega)
     cases f with
     | false=>
      repeat' first|refine go ?_|simp only [ae,hlt3,hkb]|decide|refine sp ?_ ?_<;>intro _
      exact rI wC ⟨k+1,false,⟨by omega,hstep (decide (k ∈ js \/ ip m i k=false)) (by simp)⟩,rfl⟩
     | true=>
      cases hbk:bs[k] with
      | true=>
       have hmem:k ∈ js:=by
        have:=hbd k hkb;rw [hbk] at this;exact of_decide_eq_true this.symm
       repeat' first|refine go ?_|simp only [ae,hlt3,hkb,hbk]|decide|refine sp ?_ ?_<;>intro _
       exact rI wC ⟨k+1,true,⟨by omega,hstep true (by simp [hmem])⟩,rfl⟩
      | false=>
       have hmem:k ∉ js:=by
        have:=hbd k hkb;rw [hbk] at this;exact of_decide_eq_false this.symm
       repeat' first|refine go ?_|simp only [ae,hlt3,hkb,hbk]|decide|refine sp ?_ ?_<;>intro _
       refine aA hW ?_;have hs2:=hstep (!ip m i k) (by simp [hmem]);rw [L5] at hs2
       repeat' first|refine go ?_|simp only [ae,hkb]|decide|refine sp ?_ ?_<;>intro _
       exact rI wC ⟨k+1,!ip m i k,⟨by omega,hs2⟩,rfl⟩
    .obtain rfl:k=n:=by omega
     have hFr:f=true ↔ ut m js i:=by
      rw [hF];unfold ut;rw [hnS]
     cases f with
     | true=>
      repeat' first|refine go ?_|simp only [ae,hlt3]|decide|refine sp ?_ ?_<;>intro _
      exact rI wC ⟨i+1,(i:Int),⟨by omega,.inr ⟨i,rfl,⟨by omega,hFr.1 rfl,hno⟩⟩⟩,rfl⟩
     | false=>
      repeat' first|refine go ?_|simp only [ae,hlt3]|decide|refine sp ?_ ?_<;>intro _
      refine rI wC ⟨i+1,v,⟨by omega,.inl ⟨hv0,fun i' h=>?_⟩⟩,rfl⟩;rcases Ld i' i with h5|h5
      .exact hno i' h5
      .obtain rfl:i'=i:=by omega
       exact fun h6=>by have:=hFr.2 h6;cases this
   .repeat' first|refine ge (kf @hlt2 hv0) ?_|decide|refine sp ?_ ?_<;>intro _
    exact ⟨_,.inr rfl,⟨fun id o h=>(by cases h),trivial,trivial,trivial⟩,a5 (by simp [AV.ren,AV.renL])⟩
  .have hjn:j<n:=by have:=hnx.lt;omega
   have hjb:j<bs.length:=(by omega);have hj0:decide ((j:Int)<0)=false:=(by simp);have et:((js ++ [j]).map (lu m)).map ta=(js.map (lu m)).map ta ++ [ta (lu m j)]:=by rw [Lr,Lr];rfl
   have hset:(bs.map fun b=>[eB b]).set j [eB true]=(bs.set j true).map fun b=>[eB b]:=(by rw [MW]);have hnew:(bs.set j true).length=n /\ (js ++ [j]).length<=n /\ (∀ i (h:i<(bs.set j true).length),(bs.set j true)[i]=decide (i ∈ js ++ [j])) /\ mX m (js ++ [j]):=⟨by simp [hbs],by simp;omega,rO (n:=n) hbd,uX hgr hnx⟩;by_cases hi2:i<n
   .repeat' first|refine go ?_|simp only [hi2,hj0,ae,hjb,Int.reduceToNat]|decide|refine sp ?_ ?_<;>intro _
    refine dU (Gc m j hf (by omega)) (ro) ?_
    repeat' first|refine go ?_|simp only [ae,hjb]|decide|refine sp ?_ ?_<;>intro _
    refine ⟨rfl,by omega,fZ (wS [0,1,4] (kf @hset et)) ⟨bs.set j true,js ++ [j],hnew,rfl⟩ (by simp [rP,aa.gc];omega)⟩
   .repeat' first|refine go ?_|simp only [hi2,hj0,ae,hjb,Int.reduceToNat]|decide|refine sp ?_ ?_<;>intro _
    refine dU (Gc m j hf (by omega)) (ro) ?_
    repeat' first|refine go ?_|simp only [ae,hjb]|decide|refine sp ?_ ?_<;>intro _
    refine ⟨rfl,by omega,fZ (wS [0,1,4] (kf @hset et)) ⟨bs.set j true,js ++ [j],hnew,rfl⟩ (by simp [rP,aa.gc];omega)⟩
 .repeat' first|refine ge (kf @hlt @hol) ?_|decide|refine sp ?_ ?_<;>intro _
  refine ⟨_,.inl ⟨js,rfl,by omega,hgr⟩,⟨fun id o h=>?_,MY,trivial,trivial⟩,⟨[2],by simp,rfl,⟨MY,⟨_,_,_,rfl⟩,by simp [aa.gc]⟩,trivial⟩⟩;simp only [aa.gc] at h;split at h
  .rename_i e;cases h;subst e;exact ⟨MY,trivial⟩
  .cases h
end
section
theorem yo (a b:List (Bool × Int)) (ha:a.length<=1000000) (hb:b.length<=1000000):cT Tryz.prog 27 [.sl 2 (a.map ta),.sl 2 (b.map ta)] fun R=>∃ r,R=val (.bool r) /\ (r=true -> a=b):=by
 refine ba ah Tryz.func27 rfl (by decide) Tryz.ntmps27 Tryz.results27 rfl ?_
 repeat' first|refine go ?_|decide|refine sp ?_ ?_<;>intro _
 .exact bZ ⟨false,rfl,fun h=>by cases h⟩
 .rename_i hl;have hl:a.length=b.length:=by simp at hl;omega
  refine af (fun st=>∃ (k:Nat),(k<=a.length /\ ∀ i (h:i<a.length) (h2:i<b.length),i<k -> a[i]=b[i]) /\ st=⟨26,[(0,.sl 2 (a.map ta)),(1,.sl 2 (b.map ta)),(5,eI (k:Int))],[],0⟩) (fun st=>a.length - ap st 5) ⟨_,wC,0,⟨KR _,fun i h h2 h3=>absurd h3 (by omega)⟩,rfl⟩ ?_;rintro _ ⟨k,⟨hk,hI⟩,rfl⟩;by_cases hlt:k<a.length
  .have hlt2:k<b.length:=by omega
   repeat' first|refine go ?_|simp only [ae,hlt,hlt2]|decide|refine sp ?_ ?_<;>intro _
   refine aD (by kernel_rfl) ?_
   repeat' first|refine go ?_|simp only [ae,hlt,hlt2]|decide|refine sp ?_ ?_<;>intro _
   refine ⟨_,zM .neq (.inr rfl) a[k] b[k],?_⟩
   repeat' first|refine go ?_|decide|refine sp ?_ ?_<;>intro _
   all_goals first|with_reducible exact bZ ⟨false,rfl,fun h=>by cases h⟩|skip
   rename_i hne;refine rI wC ⟨k+1,⟨by omega,fun i h h2 h3=>?_⟩,rfl⟩;rcases Ld i k with h5|h5
   .exact hI i h h2 h5
   .obtain rfl:i=k:=by omega
    simp at hne;exact Prod.ext hne.1 hne.2
  .repeat' first|refine go ?_|simp only [ae,hlt]|decide|refine sp ?_ ?_<;>intro _
   exact bZ ⟨true,rfl,fun _=>List.ext_getElem hl fun i h1 h2=>hI i h1 h2 (by omega)⟩
structure B3 (m:aR):Prop where
 chk:KG m
 named:xf m
 writes:l6 m.events
 sum:jQ m.events<=4
 consts:(fP m []).length<=6
 order:∃ js:List Nat,m.order=js.map (lu m) /\ js.length=yE m /\ mX m js
theorem vV (m:aR) (hf:p9 m) (hp:∀ p ∈ m.stages,aq p.2):cT Tryz.prog 7 [.agg (aM m)] fun R=>∃ b,R=val (.bool b) /\ (b=true -> B3 m):=by
 refine ba ah Tryz.func7 rfl (by decide) Tryz.ntmps7 Tryz.results7 rfl ?_;obtain ⟨hg,hm,hst,hev,hat,hus,hro,hso,hor,-⟩:=id hf.sizes;have hpl:(fy m).length<=1073741824:=by simp [fy];omega
 have hpo:∀ x ∈ fy m,aq x:=fun x hx=>by
  obtain ⟨p,hp',rfl⟩:=K8.1 hx;exact hp p hp'
 repeat' first|refine go ?_|decide|refine sp ?_ ?_<;>intro _
 all_goals first|with_reducible exact bZ ⟨false,rfl,fun h=>by cases h⟩|skip
 refine jE (DX m hf) fun b hnm=>?_
 repeat' first|refine go ?_|decide|refine sp ?_ ?_<;>intro _
 all_goals first|with_reducible exact bZ ⟨false,rfl,fun h=>by cases h⟩|skip
 rename_i hbn;have hbn:b=true:=by simpa using hbn
 have hnm:=hnm hbn;refine Bq (zY m.events (by omega) hf.events) ?_;rintro _ ⟨n,rfl,hwr⟩;refine ⟨.inr ⟨trivial,trivial⟩,?_⟩;simp only [val,AV.shift,aa.shift,Lq,LT]
 repeat' first|refine go ?_|decide|refine sp ?_ ?_<;>intro _
 all_goals first|with_reducible exact bZ ⟨false,rfl,fun h=>by cases h⟩|skip
 refine iU (ml m (by omega)) (.inr eJ) ?_
 repeat' first|refine go ?_|decide|refine sp ?_ ?_<;>intro _
 refine aA (Cd (fy m) hpl hpo) ?_
 repeat' first|refine go ?_|decide|refine sp ?_ ?_<;>intro _
 all_goals first|with_reducible exact bZ ⟨false,rfl,fun h=>by cases h⟩|skip
 have chk:KG m:=by refine ⟨?_,?_,?_,?_,?_,?_,?_,?_,?_,?_⟩<;>(simp only [Lc,bne_eq_false_iff_eq] at *;omega)
 have hwr2:n=jQ m.events /\ l6 m.events:=hwr.resolve_left (by simp only [Lc,bne_eq_false_iff_eq] at *;omega);have hn4:n<=4:=by simp only [Lc,bne_eq_false_iff_eq] at *;omega
 refine dU ((AA m [] (by simp) hg hm hf.guards hf.miles).fits (args:=[.agg (aM m),.c (.slice none 0 0)]) ⟨.one (.refl _),.one (.nil 7),trivial⟩) (ro) ?_
 repeat' first|refine go ?_|decide|refine sp ?_ ?_<;>intro _
 all_goals first|with_reducible exact bZ ⟨false,rfl,fun h=>by cases h⟩|skip
 rename_i hc6;have hc6:(fP m []).length<=6:=by simp only [Lc] at hc6;omega
 refine Bq (Bt m hf hp) fun R hR=>?_;rcases hR with ⟨js,rfl,hjl,hgr⟩|rfl
 .have e0:((0:Int) == 0)=true:=by decide
  refine ⟨.inr ⟨⟨trivial,trivial,trivial⟩,tD,trivial⟩,?_⟩;simp only [AV.shift,AV.shiftL,aa.shift,ar.shift]
  repeat' first|refine ge e0 ?_|decide|refine sp ?_ ?_<;>intro _
  refine jE (yo (js.map (lu m)) m.order (by rw [Lg,hjl];unfold yE;omega) (by omega)) fun x hx=>?_
  repeat' first|refine go ?_|decide|refine sp ?_ ?_<;>intro _
  exact bZ ⟨_,rfl,fun h=>⟨chk,hnm,hwr2.2,by rw [<- hwr2.1];exact hn4,hc6,js,(hx h).symm,hjl,hgr⟩⟩
 .have e0:((10:Int) == 0)=false:=by decide
  refine ⟨.inr ⟨⟨trivial,trivial,trivial⟩,trivial⟩,?_⟩;simp only [AV.shift,AV.shiftL,aa.shift,ar.shift]
  repeat' first|refine ge e0 ?_|decide|refine sp ?_ ?_<;>intro _
  exact bZ ⟨false,rfl,fun h=>by cases h⟩
end
end
section
section
deriving instance DecidableEq for Nd
theorem re (a b:Nd) (h1:a.z.cls.length<=1000000) (h2:a.z.gaps.length<=1000000) (h3:a.did.length<=1000000) (h4:a.cnt.length<=1000000):aw Tryz.prog 88 [.agg (dX a),.agg (dX b)] (val (.bool (decide (a=b)))):=by
 refine ab ah Tryz.func88 rfl (by decide) Tryz.ntmps88 Tryz.results88 rfl (aU _) ?_;obtain ⟨t,ht,hZ⟩:=ki (yd a.z b.z h1 h2);have hD:=tZ a.did b.did h3;have hC:=tZ a.cnt b.cnt h4
 have e:decide (a=b)=(t && ((a.opn == b.opn) && ((a.don == b.don) && (decide (a.did=b.did) && decide (a.cnt=b.cnt))))):=by
  obtain ⟨az,ao,ad,ai,ac⟩:=a;obtain ⟨bz,bo,bd,bi,bc⟩:=b;rw [MB];simp only [Lp,Li,MC,Nd.mk.injEq];rw [ht]
 rw [e]
 cases t with
 | false=>(repeat' (first | refine gf @L6 ?_ | decide | refine sp ?_ ?_<;>intro _ | refine cA hZ ?_|fail))
 | true=>
  cases h5:a.opn == b.opn with
  | false=>(repeat' (first | refine gf (kf h5 (kf @L6 @L5)) ?_ | decide | refine sp ?_ ?_<;>intro _ | refine cA hZ ?_|fail))
  | true=>
   cases h6:a.don == b.don with
   | false=>(repeat' (first | refine gf (kf h5 (kf h6 (kf @L6 @L5))) ?_ | decide | refine sp ?_ ?_<;>intro _ | refine cA hZ ?_|fail))
   | true=>
    cases h7:decide (a.did=b.did) with
    | false=>
     rw [h7] at hD
     repeat' first|refine gf (kf h5 (kf h6 (kf @L6 @L5))) ?_|decide|refine sp ?_ ?_<;>intro _|refine cA hZ ?_|refine cA hD ?_|fail
    | true=>
     rw [h7] at hD
     cases h8:decide (a.cnt=b.cnt) with
     | false=>
      rw [h8] at hC
      repeat' first|refine gf (kf h5 (kf h6 (kf @L6 @L5))) ?_|decide|refine sp ?_ ?_<;>intro _|refine cA hZ ?_|refine cA hD ?_|refine cA hC ?_|fail
     | true=>
      rw [h8] at hC
      repeat' first|refine gf (kf h5 (kf h6 (kf @L6 @L5))) ?_|decide|refine sp ?_ ?_<;>intro _|refine cA hZ ?_|refine cA hD ?_|refine cA hC ?_|fail
structure Sn where
 ev:Int
 us:Int
 nd:Nd
deriving DecidableEq
abbrev qa (x:Sn):List AV:=[eI x.ev,eI x.us,.sl 2 (x.nd.z.cls.map bR),sI x.nd.z.gaps,eI x.nd.opn,eI x.nd.don,sI x.nd.did,sI x.nd.cnt]
structure oq (N:Nat) (n:Nd):Prop where
 z:kV N n.z
 did:n.did.length<=10
 cnt:n.cnt.length<=10
 opn:aq n.opn
 don:aq n.don
 dok:∀ x ∈ n.did,aq x
theorem Ef (l:List Sn) (x:Sn) (hll:l.length<=2700000000000) {N:Nat} (hN:N<=1000000) (hl:∀ y ∈ l,oq N y.nd):aw Tryz.prog 86 [.sl 8 (l.map qa),.agg (qa x)] (val (.bool (decide (x ∈ l)))):=by
 refine ab ah Tryz.func86 rfl (by decide) Tryz.ntmps86 Tryz.results86 rfl (aU _) ?_
 repeat' first|refine go ?_|decide|refine sp ?_ ?_<;>intro _
 refine af (fun st=>∃ k:Nat,k<=l.length /\ x ∉ l.take k /\ st=⟨40,[(0,.sl 8 (l.map qa)),(3,.op 0 0 0),(5,eI (k:Int))],[(0,some (.box 99 (qa x)))],1⟩) (fun st=>l.length - ap st 5) ⟨_,wC,0,KR _,by simp,rfl⟩ ?_;rintro _ ⟨k,hk,hI,rfl⟩;by_cases hlt:k<l.length
 .obtain ⟨y,hy⟩:∃ y,y=l[k]:=⟨_,rfl⟩;have hrow:(l.map qa)[k]?.getD []=qa y:=by rw [hy];simp [hlt]
  have hB:=hl y (hy ▸ KQ hlt);have b1:=hB.z.cl;have b2:=hB.z.ga;have b3:=hB.did;have b4:=hB.cnt;have hS:=re y.nd x.nd (by omega) (by omega) (by omega) (by omega);have hm:x ∈ l.take (k+1) ↔ x ∈ l.take k \/ x=y:=by rw [KX hlt,K2,K9,hy]
  have q2:List.drop 2 (qa y)=dX y.nd:=rfl;have next:¬ y=x -> x ∉ l.take (k+1):=fun hne h=>(hm.1 h).elim hI fun e=>hne e.symm
  cases h5:y.ev == x.ev with
  | false=>
   have hne:¬ y=x:=fun e=>by rw [e] at h5;simp at h5
   repeat' first|refine gf (kf @hrow (kf @hlt h5)) ?_|decide|refine sp ?_ ?_<;>intro _
   all_goals exact rI wC ⟨k+1,by omega,next hne,rfl⟩
  | true=>
   cases h6:y.us == x.us with
   | false=>
    have hne:¬ y=x:=fun e=>by rw [e] at h6;simp at h6
    repeat' first|refine gf (kf @hrow (kf @hlt (kf h5 h6))) ?_|decide|refine sp ?_ ?_<;>intro _
    all_goals exact rI wC ⟨k+1,by omega,next hne,rfl⟩
   | true=>
    cases h7:decide (y.nd=x.nd) with
    | false=>
     rw [h7] at hS;have hne:¬ y=x:=fun e=>by rw [e] at h7;simp at h7
     repeat' first|refine gf (kf @hrow (kf @hlt (kf h5 h6))) ?_|decide|refine sp ?_ ?_<;>intro _|refine cA hS ?_|fail
     all_goals exact rI wC ⟨k+1,by omega,next hne,rfl⟩
    | true=>
     rw [h7] at hS
     have he:x=y:=by
      obtain ⟨e1,e2,e3⟩:=x;obtain ⟨f1,f2,f3⟩:=y;simp at h5 h6 h7;rw [h5,h6,h7]
     have hmem:x ∈ l:=by rw [he,hy];exact KQ hlt
     rw [K4 hmem]
     repeat' first|refine gf (kf @hrow (kf @hlt (kf h5 h6))) ?_|decide|refine sp ?_ ?_<;>intro _|refine cA hS ?_|fail
     all_goals trace_state
 .obtain rfl:k=l.length:=by omega
  rw [K7] at hI;rw [K0 hI]
  repeat' first|refine gf @hlt ?_|decide|refine sp ?_ ?_<;>intro _
def dh (m:aR) (n:Nd) (e:Nat) (u:Int):Nd:=⟨n.z,n.opn,n.don,n.did.set e (cQ (n.did.getD e 0) u),if 0<(m.events[e]?.map (·.times)).getD 0 then n.cnt.set e (n.cnt.getD e 0+1) else n.cnt⟩
theorem FE (m:aR) (n:Nd) (e:Nat) (u:Int) (he:e<m.events.length) (hd:e<n.did.length) (hc:e<n.cnt.length) (hdl:n.did.length<=1000000) (hcl:n.cnt.length<=1000000) (hdo:aq (n.did.getD e 0)) (hco:-1000<=n.cnt.getD e 0 /\ n.cnt.getD e 0<=1000) (hu:0<=u /\ u<31) :
  aw Tryz.prog 84 [.agg (aM m),.agg (dX n),eI (e:Int),eI u] ⟨.agg (dX (dh m n e u)),[],0⟩:=by
 refine aw.still (R:=⟨.agg [.sl 2 (n.z.cls.map bR),sI n.z.gaps,eI n.opn,eI n.don,.osl 0,.osl 1],[(0,some (.row 3 1 ((dh m n e u).did.map fun n=>[eI n]))),(1,some (.row 3 1 ((dh m n e u).cnt.map fun n=>[eI n])))],2⟩) [0,1] ?_ (by simp [ce.frzs,ce.frz,aa.gc,AV.frz,AV.frzL,bK,ar.frz,dh]) (by simp [AV.lt,AV.ltL]);refine ab ah Tryz.func84 rfl (by decide) Tryz.ntmps84 Tryz.results84 rfl (jr (by simp [cg,ar.lt,AV.ltL,AV.lt]) (by simp [AV.lt,AV.ltL])) ?_;obtain ⟨x,hx⟩:∃ x,x=m.events[e]:=⟨_,rfl⟩;have hrx:(m.events.map wY)[e]?.getD []=wY x:=by rw [hx];simp [he]
 obtain ⟨d,hde⟩:∃ d,d=n.did.getD e 0:=⟨_,rfl⟩;obtain ⟨c,hce⟩:∃ c,c=n.cnt.getD e 0:=⟨_,rfl⟩;have hrd:(n.did.map fun n=>[eI n])[e]?.getD []=[eI d]:=by rw [hde];simp [List.getD,hd]
 have hrc:(n.cnt.map fun n=>[eI n])[e]?.getD []=[eI c]:=by rw [hce];simp [List.getD,hc]
 rw [<- hde] at hdo;rw [<- hce] at hco;have hP:=pz d u true hdo hu.1 hu.2;rw [K5 rfl] at hP;have hsd:(n.did.map fun n=>[eI n]).set e [eI (cQ d u)]=(dh m n e u).did.map fun n=>[eI n]:=by rw [dh,<- hde,MW]
 have ht:(m.events[e]?.map (·.times)).getD 0=x.times:=by rw [hx];simp [he]
 have ec:IntKind.i64.wrap (c+1)=c+1:=ay (by omega) (by omega)
 repeat' first|refine ge (kf @hrd hd) ?_|decide|refine sp ?_ ?_<;>intro _
 refine ⟨rfl,⟨by omega,by omega⟩,?_⟩;refine aA hP ?_
 repeat' first|refine ge (kf @hrd (kf hd @hsd)) ?_|decide|refine sp ?_ ?_<;>intro _
 refine ⟨rfl,⟨by omega,by omega⟩,?_⟩;by_cases h0:0<x.times
 .have d0:decide (0<x.times)=true:=K4 h0;have hsc:(n.cnt.map fun n=>[eI n]).set e [eI (c+1)]=(dh m n e u).cnt.map fun n=>[eI n]:=by rw [dh,ht,K5 h0,<- hce,MW]
  repeat' first|refine gf (kf @hrx (kf he (kf @hrc (kf hc (kf d0 (kf ec @hsc)))))) ?_|decide|refine sp ?_ ?_<;>intro _
  exact ⟨[4,6],by decide,rfl,by simp [b9,aa.gc]⟩
 .have d0:decide (0<x.times)=false:=K0 h0;have hsc:(dh m n e u).cnt=n.cnt:=by rw [dh,ht,KY h0]
  rw [hsc]
  repeat' first|refine gf (kf @hrx (kf he (kf @hrc (kf hc d0)))) ?_|decide|refine sp ?_ ?_<;>intro _
  exact ⟨[4,6],by decide,rfl,by simp [b9,aa.gc]⟩
theorem qI (n:Nd) (h1:n.did.length<=1000000) (h2:n.cnt.length<=1000000):aw Tryz.prog 38 [.agg (dX n)] ⟨.agg (i6 (bt n)),[],0⟩:=
 cT.tree (rb n h1 h2) (by simp [AV.lt,AV.ltL]) fun R hR=>by
  subst hR;exact ⟨[],by simp [ce.frzs,AV.lt,AV.ltL],.one (.agg ⟨.nil 1,.refl _,.refl _,.refl _,.refl _,trivial⟩)⟩
def eV (m:aR) (x:Bool × Int):List aJ:=if x.1=true then (if 0<=x.2 then ((m.miles[x.2.toNat]?).map (·.cond)).getD [] else []) else (if 0<=x.2 then ((m.guards[x.2.toNat]?).map (·.cond)).getD [] else [])
theorem AW (m:aR) (xm:Bool) (xn:Int):aw Tryz.prog 129 [.agg (aM m),.agg [eB xm,eI xn]] ⟨bw (eV m (xm,xn)),[],0⟩:=by
 refine cT.tree (Post:=fun R=>∃ ids,(R.frzs ids).r.lt 0 /\ mG (R.frzs ids).r (bw (eV m (xm,xn)))) ?_ (by simp [AV.lt,AV.ltL]) fun R h=>h;refine ba ah Tryz.func129 rfl (by decide) Tryz.ntmps129 Tryz.results129 rfl ?_;have hI:=fun n most=>cY n most;have rN:mG (.c (.slice none 0 0)) (bw []):=.one (.one (.nil 7))
 cases xm with
 | true=>
  by_cases h0:0<=xn
  .obtain ⟨k,rfl⟩:∃ k:Nat,xn=(k:Int):=⟨xn.toNat,by omega⟩;by_cases hk:k<m.miles.length
   .obtain ⟨g,hg⟩:∃ g,g=m.miles[k]:=⟨_,rfl⟩;have hrg:(m.miles.map tj)[k]?.getD []=tj g:=by rw [hg];simp [hk]
    have e:eV m (true,(k:Int))=g.cond:=(by simp [eV,hk,hg]);have hIn:dg (k:Int) (m.miles.length:Int)=true:=by simp [dg];omega
    rw [e]
    repeat' first|refine gf (kf @hrg (kf hk @hIn)) ?_|decide|refine sp ?_ ?_<;>intro _|refine cA (hI _ _) ?_|fail
    all_goals first|exact n4 (by simp [AV.ren]) (by simp [AV.lt]) rN|exact n4 (by simp [AV.ren]) (by simp [AV.lt]) (.one (.one (.refl _)))
   .have e:eV m (true,(k:Int))=[]:=(by simp [eV,hk]);have hIn:dg (k:Int) (m.miles.length:Int)=false:=by simp [dg];omega
    rw [e]
    repeat' first|refine gf @hIn ?_|decide|refine sp ?_ ?_<;>intro _|refine cA (hI _ _) ?_|fail
    all_goals first|exact n4 (by simp [AV.ren]) (by simp [AV.lt]) rN|exact n4 (by simp [AV.ren]) (by simp [AV.lt]) (.one (.one (.refl _)))
  .have e:eV m (true,xn)=[]:=(by simp [eV,h0]);have hIn:dg xn (m.miles.length:Int)=false:=by simp [dg];omega
   rw [e]
   repeat' first|refine gf @hIn ?_|decide|refine sp ?_ ?_<;>intro _|refine cA (hI _ _) ?_|fail
   all_goals first|exact n4 (by simp [AV.ren]) (by simp [AV.lt]) rN|exact n4 (by simp [AV.ren]) (by simp [AV.lt]) (.one (.one (.refl _)))
 | false=>
  by_cases h0:0<=xn
  .obtain ⟨k,rfl⟩:∃ k:Nat,xn=(k:Int):=⟨xn.toNat,by omega⟩;by_cases hk:k<m.guards.length
   .obtain ⟨g,hg⟩:∃ g,g=m.guards[k]:=⟨_,rfl⟩;have hrg:(m.guards.map AG)[k]?.getD []=AG g:=by rw [hg];simp [hk]
    have e:eV m (false,(k:Int))=g.cond:=(by simp [eV,hk,hg]);have hIn:dg (k:Int) (m.guards.length:Int)=true:=by simp [dg];omega
    rw [e]
    repeat' first|refine gf (kf @hrg (kf hk @hIn)) ?_|decide|refine sp ?_ ?_<;>intro _|refine cA (hI _ _) ?_|fail
    all_goals first|exact n4 (by simp [AV.ren]) (by simp [AV.lt]) rN|exact n4 (by simp [AV.ren]) (by simp [AV.lt]) (.one (.one (.refl _)))
   .have e:eV m (false,(k:Int))=[]:=(by simp [eV,hk]);have hIn:dg (k:Int) (m.guards.length:Int)=false:=by simp [dg];omega
    rw [e]
    repeat' first|refine gf @hIn ?_|decide|refine sp ?_ ?_<;>intro _|refine cA (hI _ _) ?_|fail
    all_goals first|exact n4 (by simp [AV.ren]) (by simp [AV.lt]) rN|exact n4 (by simp [AV.ren]) (by simp [AV.lt]) (.one (.one (.refl _)))
  .have e:eV m (false,xn)=[]:=(by simp [eV,h0]);have hIn:dg xn (m.guards.length:Int)=false:=by simp [dg];omega
   rw [e]
   repeat' first|refine gf @hIn ?_|decide|refine sp ?_ ?_<;>intro _|refine cA (hI _ _) ?_|fail
   all_goals first|exact n4 (by simp [AV.ren]) (by simp [AV.lt]) rN|exact n4 (by simp [AV.ren]) (by simp [AV.lt]) (.one (.one (.refl _)))
def bD (m:aR):aR:={ m with guards:=m.guards.map fun g=>{ g with cond:=[Bl] },miles:=m.miles.map fun g=>{ g with cond:=[Bl] } }
abbrev J0:List AV:=[.c (.slice none 0 0),.c (.slice none 0 0),.c (.slice none 0 0),.c (.slice none 0 0),.c (.slice none 0 0),.c (.slice none 0 0),.c (.slice none 0 0),.c (.slice none 0 0),.c (.slice none 0 0),.c (.slice none 0 0)]
theorem BB (m:aR) (hg:m.guards.length<=1000000) (hm:m.miles.length<=1000000):aw Tryz.prog 128 [.agg (aM m)] ⟨.agg (aM (bD m)),[],0⟩:=by
 refine aw.still (R:=⟨.agg [.sl 1 (m.attrs.map fun s=>[eS s]),sI m.inits,.sl 1 (m.users.map fun s=>[eS s]),.sl 2 (m.roles.map CK),.sl 2 (m.stages.map CK),.sl 5 (m.events.map wY),.osl 0,.osl 1,.sl 2 (m.sods.map Kl),.sl 2 (m.order.map ta)],[(0,some (.row 78 3 ((bD m).guards.map AG))),(1,some (.row 80 5 ((bD m).miles.map tj)))],2⟩) [0,1] ?_ (by simp [ce.frzs,ce.frz,aa.gc,AV.frz,AV.frzL,bK,ar.frz,bD]) (by simp [AV.lt,AV.ltL]);refine ab ah Tryz.func128 rfl (by decide) Tryz.ntmps128 Tryz.results128 rfl (jr (by simp [cg,ar.lt,AV.ltL,AV.lt]) (by simp [AV.lt,AV.ltL])) ?_;have hT:bw [Bl]=.sl 7 [[eI 1,eI 0,eI 0,eI 0,eI 0,eI 0,eI 0]]:=rfl
 repeat' first|refine go ?_|decide|refine sp ?_ ?_<;>intro _
 refine af (fun st=>∃ k:Nat,k<=m.guards.length /\ st=⟨52,[(1,.op 0 0 0),(2,.op 1 0 0),(3,.osl 2),(4,eI (k:Int))],[(0,some (.box 32 (aM m))),(1,some (.box 32 J0)),(2,some (.row 78 3 (((bD m).guards.take k).map AG)))],3⟩) (fun st=>m.guards.length - ap st 4) ⟨_,((bf 3 78 3 (by simp only [iu,ak.get,bl,ak.put,↓reduceIte,reduceCtorEq,Nat.reduceLT,Nat.reduceEqDiff,Nat.reduceAdd,Nat.reduceLeDiff,eq_self,implies_true,Lb,Lq])).trans (wS [0,1,2] @Lb)),0,KR _,rfl⟩ ?_;rintro _ ⟨k,hk,rfl⟩;have hol:(bD m).guards.length=m.guards.length:=by simp [bD]
 by_cases hlt:k<m.guards.length
 .obtain ⟨g,hge⟩:∃ g,g=m.guards[k]:=⟨_,rfl⟩;have hrg:(m.guards.map AG)[k]?.getD []=AG g:=by rw [hge];simp [hlt]
  have et:((bD m).guards.take (k+1)).map AG=((bD m).guards.take k).map AG ++ [[eI g.stage,eI g.event,.sl 7 [[eI 1,eI 0,eI 0,eI 0,eI 0,eI 0,eI 0]]]]:=by
   rw [KX (by omega)];simp [bD,hge]
  have htl:((bD m).guards.take k).length<=1000000:=by rw [K6];omega
  obtain ⟨O,hO⟩:∃ O,O=(bD m).guards.take k:=⟨_,rfl⟩;rw [<- hO] at et htl ⊢
  repeat' first|refine gf (kf @hrg @hlt) ?_|decide|refine sp ?_ ?_<;>intro _|(with_reducible apply And.intro)
  all_goals first
   | rfl
   | omega
   | exact rI (wS [0,1,6] (kf et hO)) ⟨k+1,by omega,rfl⟩
 .obtain rfl:k=m.guards.length:=by omega
  have ha:(bD m).guards.take m.guards.length=(bD m).guards:=Lj (by omega);rw [ha]
  repeat' first|refine gf @hlt ?_|decide|refine sp ?_ ?_<;>intro _
  refine af (fun st=>∃ k:Nat,k<=m.miles.length /\ st=⟨52,[(1,.op 0 0 0),(2,.op 1 0 0),(3,.osl 2),(6,.osl 3),(7,eI (k:Int))],[(0,some (.box 32 (aM m))),(1,some (.box 32 J0)),(2,some (.row 78 3 ((bD m).guards.map AG))),(3,some (.row 80 5 (((bD m).miles.take k).map tj)))],4⟩) (fun st=>m.miles.length - ap st 7) ⟨_,((bf 6 80 5 (by simp only [iu,ak.get,bl,ak.put,↓reduceIte,reduceCtorEq,Nat.reduceLT,Nat.reduceEqDiff,Nat.reduceAdd,Nat.reduceLeDiff,eq_self,implies_true,Lb,Lq])).trans (wS [0,1,2,3] @Lb)),0,KR _,rfl⟩ ?_;rintro _ ⟨k,hk,rfl⟩;have hol2:(bD m).miles.length=m.miles.length:=by simp [bD]
  by_cases hlt2:k<m.miles.length
  .obtain ⟨g,hge⟩:∃ g,g=m.miles[k]:=⟨_,rfl⟩;have hrg:(m.miles.map tj)[k]?.getD []=tj g:=by rw [hge];simp [hlt2]
   have et:((bD m).miles.take (k+1)).map tj=((bD m).miles.take k).map tj ++ [[eS g.name,eI g.stage,eI g.event,.sl 7 [[eI 1,eI 0,eI 0,eI 0,eI 0,eI 0,eI 0]],eB g.final]]:=by
    rw [KX (by omega)];simp [bD,hge]
   have htl:((bD m).miles.take k).length<=1000000:=by rw [K6];omega
   obtain ⟨O,hO⟩:∃ O,O=(bD m).miles.take k:=⟨_,rfl⟩;rw [<- hO] at et htl ⊢
   repeat' first|refine gf (kf @hrg @hlt2) ?_|decide|refine sp ?_ ?_<;>intro _|(with_reducible apply And.intro)
   all_goals first
    | rfl
    | omega
    | exact rI (wS [0,1,2,7] (kf et hO)) ⟨k+1,by omega,rfl⟩
  .obtain rfl:k=m.miles.length:=by omega
   have ha2:(bD m).miles.take m.miles.length=(bD m).miles:=Lj (by omega);rw [ha2]
   repeat' first|refine gf @hlt2 ?_|decide|refine sp ?_ ?_<;>intro _
   all_goals exact ⟨[2,3],by decide,rfl,by simp [b9,aa.gc]⟩
theorem B0 {m:aR} (h:p9 m):p9 (bD m):=by
 refine ⟨?_,fun g hg=>?_,fun g hg=>?_,h.events⟩
 .have:=h.sizes;simpa [sf,bD] using this
 .obtain ⟨x,_,rfl⟩:=K8.1 hg;simp
 .obtain ⟨x,_,rfl⟩:=K8.1 hg;simp
theorem Cq {m:aR} (h:p9 m) (x:Bool × Int):(eV m x).length<=80:=by
 unfold eV;split<;>split
 .cases he:m.miles[x.2.toNat]? with
  | none=>simp
  | some g=>simpa using h.miles g (KO he)
 .simp
 .cases he:m.guards[x.2.toNat]? with
  | none=>simp
  | some g=>simpa using h.guards g (KO he)
 .simp
noncomputable def oH (m:aR) (c:List Int) (z:Zn) (event:Int) (s:St) (x:Bool × Int):St:=if (qj (dS (eV m x) z c s) && eM (bD m) s x event)=true then du m s x else s
noncomputable def ju (m:aR) (c:List Int) (z:Zn) (event:Int) (k:Nat) (s:St):St:=(m.order.take k).foldl (oH m c z event) s
noncomputable def nL (m:aR) (c:List Int) (n:Nd) (event:Int):Nd:=⟨n.z,(ju m c n.z event m.order.length (bt n)).opn,(ju m c n.z event m.order.length (bt n)).don,n.did,n.cnt⟩
theorem nE {m:aR} {c:List Int} {z:Zn} {event:Int} {k:Nat} (s:St) (hk:k<m.order.length):ju m c z event (k+1) s=oH m c z event (ju m c z event k s) m.order[k]:=by
 unfold ju;rw [KX hk,List.foldl_append];rfl
theorem nv (m:aR) (c:List Int) (z:Zn) (event:Int) (s:St) (h:cc s.opn /\ cc s.don):∀ k,k<=m.order.length -> cc (ju m c z event k s).opn /\ cc (ju m c z event k s).don
 | 0,_=>by simpa [ju] using h
 | k+1,hk=>by
  rw [nE s (by omega)];have ih:=nv m c z event s h k (by omega);unfold oH;split
  .exact x1 m _ _ ih
  .exact ih
theorem BC (m:aR) (c:List Int) (n:Nd) (event:Int) (hf:p9 m) (hp:∀ p ∈ m.stages,aq p.2) (hc:c.length<=1000) {N:Nat} (hN:N<=1000) (hB:oq N n) (ho:cc n.opn) (hd:cc n.don):aw Tryz.prog 85 [.agg (aM m),sI c,.agg (dX n),eI event] ⟨.agg (dX (nL m c n event)),[],0⟩:=by
 obtain ⟨hgl,hml,hsl,hel,hal,hul,hrl,hsol,hol,hil⟩:=id hf.sizes;have hcl:=hB.z.cl;have hdl:=hB.did;have hcn:=hB.cnt;have hSt:=qI n (by omega) (by omega);have hFr:=BB m (by omega) (by omega);refine ab ah Tryz.func85 rfl (by decide) Tryz.ntmps85 Tryz.results85 rfl (⟨fun id o h=>(by cases h),⟨trivial,trivial,trivial,trivial,trivial,trivial,trivial⟩⟩) ?_
 repeat' first|refine gq ?_|decide|refine sp ?_ ?_<;>intro _|refine cA hSt ?_|refine cA hFr ?_|fail
 refine af (fun st=>∃ (k:Nat) (s:St),k<=m.order.length /\ s=ju m c n.z event k (bt n) /\ st=⟨61,[(1,sI c),(3,eI event),(4,.op 0 0 0),(6,.op 1 0 0),(8,.op 2 0 0),(9,.op 3 0 0),(10,.op 4 0 0),(11,eI (k:Int))],[(0,some (.box 32 (aM m))),(1,some (.box 62 (dX n))),(2,some (.box 62 [.c (.slice none 0 0),.c (.slice none 0 0),eI 0,eI 0,.c (.slice none 0 0),.c (.slice none 0 0)])),(3,some (.box 106 (i6 s))),(4,some (.box 32 (aM (bD m))))],5⟩) (fun st=>m.order.length - ap st 11) ⟨_,wC,0,bt n,KR _,rfl,rfl⟩ ?_;rintro _ ⟨k,s,hk,hs,rfl⟩;have h31:=nv m c n.z event (bt n) ⟨ho,hd⟩ k hk;rw [<- hs] at h31;by_cases hlt:k<m.order.length
 .have hst:=nE (c:=c) (z:=n.z) (event:=event) (bt n) hlt;rw [<- hs] at hst;obtain ⟨x,hx⟩:∃ x,x=m.order[k]:=⟨_,rfl⟩;have hrx:(m.order.map ta)[k]?.getD []=ta x:=by rw [hx];simp [hlt]
  rw [<- hx] at hst;obtain ⟨xm,xn⟩:=x;have hC:=AW m xm xn;have hcnl:=Cq hf (xm,xn);have hH:=zU (eV m (xm,xn)) n.z c s (by omega) (by omega) hc hB.z.at_ (cw h31.1) (cw h31.2);have hF:=rf (bD m) s xm xn event (B0 hf) (cw h31.1) (cw h31.2);have hFi:=vg m s xm xn hf hp h31.1 h31.2;obtain ⟨b,hb⟩:∃ b,b=qj (dS (eV m (xm,xn)) n.z c s):=⟨_,rfl⟩;obtain ⟨e,he⟩:∃ e,e=zE (dS (eV m (xm,xn)) n.z c s):=⟨_,rfl⟩;have ht:oH m c n.z event s (xm,xn)=if (b && eM (bD m) s (xm,xn) event)=true then du m s (xm,xn) else s:=by rw [oH,<- hb]
  rw [ht] at hst;rw [<- hb,<- he] at hH;obtain ⟨f,hff⟩:∃ f,f=eM (bD m) s (xm,xn) event:=⟨_,rfl⟩;rw [<- hff] at hF hst
  repeat' first|refine ge (kf @hrx @hlt) ?_|decide|refine sp ?_ ?_<;>intro _
  refine aB [] [0,1,3,4,5,6] (.exec 2 (.exec 7 (.take 8 (.take 9 (.take 10 (.exec 11 (.exec 12 .done))))))) (by kernel_rfl) (by simp [aa.gc]) ?_
  cases b with
  | false=>
   rw [L6,KY (by simp)] at hst
   repeat' first|refine gf (kf @hrx @hlt) ?_|decide|refine sp ?_ ?_<;>intro _|refine cA hC ?_|refine cA hH ?_|fail
   all_goals exact rI wC ⟨k+1,s,by omega,hst.symm,rfl⟩
  | true=>
   cases f with
   | false=>
    rw [L5,KY (by simp)] at hst
    repeat' first|refine gf (kf @hrx @hlt) ?_|decide|refine sp ?_ ?_<;>intro _|refine cA hC ?_|refine cA hH ?_|refine cA hF ?_|fail
    all_goals exact rI wC ⟨k+1,s,by omega,hst.symm,rfl⟩
   | true=>
    rw [L5,K5 rfl] at hst
    repeat' first|refine gf (kf @hrx @hlt) ?_|decide|refine sp ?_ ?_<;>intro _|refine cA hC ?_|refine cA hH ?_|refine cA hF ?_|refine cA hFi ?_|fail
    all_goals exact rI wC ⟨k+1,du m s (xm,xn),by omega,hst.symm,rfl⟩
 .obtain rfl:k=m.order.length:=by omega
  have hn:nL m c n event=⟨n.z,s.opn,s.don,n.did,n.cnt⟩:=by rw [nL,<- hs]
  rw [hn]
  repeat' first|refine gf @hlt ?_|decide|refine sp ?_ ?_<;>intro _
  all_goals exact vU rfl
structure fU (m:aR) (c:List Int):Prop where
 fit:p9 m
 ck:B3 m
 clen:c.length<=9
 cok:∀ x ∈ c,aq x
 stg:∀ p ∈ m.stages,aq p.2
 rol:∀ p ∈ m.roles,aq p.2
noncomputable def fH (m:aR) (c:List Int) (n:Nd) (e:Nat) (u:Int) (zs:List Zn):List Sn:=zs.map fun z=>⟨(e:Int),u,nL m c { dh m n e u with z:=z } (e:Int)⟩
noncomputable def nH (m:aR) (e:Nat):List Int:=(m.events[e]?.map (·.sets)).getD []
noncomputable def cC (m:aR) (n:Nd) (e:Nat):List Zn:=n5 n.z (nH m e) (dC m n.cnt m.events.length) (nH m e).length
noncomputable def lm (m:aR) (c:List Int) (n:Nd) (e:Nat):List Sn:=(fh m (bt n) (e:Int)).flatMap fun u=>fH m c n e u (cC m n e)
noncomputable def cD (m:aR) (c:List Int) (n:Nd) (k:Nat):List Sn:=(List.range k).flatMap (lm m c n)
open Classical in
noncomputable def gU (m:aR) (c:List Int) (n:Nd):List Sn:=if x2 m c n then bM (cD m c n m.events.length) ++ (if Dx m (bt n)=true then [] else [⟨-1,-1,n⟩]) else []
end
section
def l8 (l:List dN):Nat -> Nat
 | 0=>0
 | a+1=>l8 l a+b5 l (a:Int)
theorem qv (x:dN) (l:List dN):∀ k,l8 (x :: l) k=l8 [x] k+l8 l k
 | 0=>rfl
 | k+1=>by
  have h:b5 (x :: l) (k:Int)=b5 [x] (k:Int)+b5 l (k:Int):=by
   unfold b5;rw [List.countP_cons,List.countP_cons];simp;omega
  rw [l8,l8,l8,qv x l k,h];omega
theorem vk {x:dN} {a:Nat} (h:aW x.attrs (a:Int)=true):∀ k,a<k -> 1<=l8 [x] k
 | 0,hk=>absurd hk (by omega)
 | k+1,hk=>by
  rw [l8];by_cases e:a=k
  .have:b5 [x] (k:Int)=1:=by rw [<- e];simp [b5,h]
   omega
  .have:=vk h k (by omega);omega
theorem DF {x:dN} (h:0<x.attrs /\ x.attrs<2147483648):∃ a:Nat,a<31 /\ aW x.attrs (a:Int)=true:=by
 have hne:aN x ≠ 0:=by unfold aN;omega
 obtain ⟨i,hi⟩:∃ i,(aN x).testBit i=true:=Classical.byContradiction fun hn=>hne (Nat.eq_of_testBit_eq fun i=>by
  rw [Nat.zero_testBit]
  cases h2:(aN x).testBit i with
  | false=>rfl
  | true=>exact absurd ⟨i,h2⟩ hn)
 have h31:i<31:=by
  refine Classical.byContradiction fun hn=>?_;have h1:aN x<2 ^ i:=K1 (by unfold aN;omega:aN x<2 ^ 31) (Lu (by omega) (by omega));rw [Mf h1] at hi;cases hi
 exact ⟨i,h31,by rw [gy ⟨by omega,h.2⟩ h31];exact hi⟩
theorem rA:∀ l:List dN,(∀ x ∈ l,(0<=x.attrs /\ x.attrs<2147483648) /\ (0<x.attrs \/ 0<=x.const)) -> l.length<=l8 l 31+dV l
 | [],_=>KR _
 | x :: l,h=>by
  have ih:=rA l fun y hy=>h y (Lz _ hy);obtain ⟨h1,h2⟩:=h x LD
  have hn:dV (x :: l)=dV l+(if x.const = -1 then 0 else 1):=by
   unfold dV;rw [List.countP_cons];by_cases e:x.const = -1<;>simp [e]
  rw [qv,hn,KU];by_cases e:x.const = -1
  .obtain ⟨a,ha,hb⟩:=DF (x:=x) ⟨by omega,h1.2⟩;have:=vk hb 31 ha;rw [K5 e];omega
  .rw [KY e];omega
theorem F1 {l:List dN} {n:Nat} (h:∀ a:Nat,a<31 -> (b5 l (a:Int):Int)=if (a:Int)<(n:Int) then 1 else 0):∀ k,k<=31 -> l8 l k<=n
 | 0,_=>KR _
 | k+1,hk=>by
  have key:∀ j,j<=31 -> l8 l j<=min j n:=fun j=>by
   induction j with
   | zero=>intro _;simp [l8]
   | succ j ih=>
    intro hj;have h1:=ih (by omega);have h2:=h j (by omega);rw [l8];split at h2<;>omega
  have:=key (k+1) hk;omega
theorem wP {l:List dN} {n:Nat} {m:Int} (hn:n<=31) (hat:∀ x ∈ l,x.attrs<9223372036854775808) (h:oi l (n:Int) m):(l.length:Int)<=n+m:=by
 have hd:=(o0 l n m hn hat).2 h;rw [Li,Lp] at hd;obtain ⟨hb,hm⟩:=hd;obtain ⟨hA,hC⟩:=(yf l (n:Int)).1 hb
 have h1:=rA l fun x hx=>by
  obtain ⟨i,hi,rfl⟩:=Le hx;obtain ⟨k1,k2,_⟩:=(lj _ _).1 (hC i hi);exact ⟨k1,k2⟩
 have h2:=F1 ((xZ l (n:Int) 31).1 hA) 31 (KW _);omega
theorem Hp (m:aR) (c:List Int) {k:Nat} (hk:k<m.events.length) (h0:0<=m.events[k].times):D2 m c k<=m.events[k].times * (m.events[k].sets.length:Int):=by
 unfold D2;have hw:=ve c k;simp only [KN hk,LE,Lm];have h1:(((max 0 (m.events[k].times - rH c k)).toNat:Nat):Int)<=m.events[k].times:=by omega
 exact Int.mul_le_mul_of_nonneg_right h1 (Mr _)
theorem uq (m:aR) (c:List Int) (hw:l6 m.events):∀ k,k<=m.events.length -> dC m c k<=jQ (m.events.take k)
 | 0,_=>by simp [dC,jQ]
 | k+1,hk=>by
  have h1:=uq m c hw k (by omega);have h2:=Hp m c (k:=k) (by omega) (hw.each k (by omega)).1;rw [dC,iQ (by omega)];omega
theorem E8 (m:aR) (c:List Int) (k:Nat):0<=D2 m c k:=by
 unfold D2;exact Int.mul_nonneg (Mr _) (Mr _)
theorem rk (m:aR) (c:List Int):∀ k,0<=dC m c k
 | 0=>Mw _
 | k+1=>by
  have:=rk m c k;have:=E8 m c k;rw [dC];omega
theorem tH {l:List Ev} (hw:l6 l):∀ {k:Nat} (hk:k<l.length) (n:Nat),k<n -> n<=l.length -> l[k].times * (l[k].sets.length:Int)<=jQ (l.take n)
 | k,hk,0,h,_=>absurd h (by omega)
 | k,hk,n+1,h,hn=>by
  have h0:∀ i (hi:i<l.length),0<=l[i].times * (l[i].sets.length:Int):=fun i hi=>Int.mul_nonneg (hw.each i hi).1 (Mr _)
  have hp:∀ j,j<=l.length -> 0<=jQ (l.take j):=fun j=>by
   induction j with
   | zero=>intro _;simp [jQ]
   | succ j ih=>
    intro hj;have:=ih (by omega);have:=h0 j (by omega);rw [iQ (by omega)];omega
  rw [iQ (by omega)];by_cases e:k=n
  .subst e;have:=hp k (by omega);omega
  .have:=tH hw hk n (by omega) (by omega);have:=h0 n (by omega);omega
theorem lR {m:aR} (h:B3 m) {k:Nat} (hk:k<m.events.length):m.events[k].sets.length<=4:=by
 have h1:=tH h.writes hk m.events.length hk (KW _);rw [K7] at h1;have h2:=h.sum;obtain ⟨h3,h4,h5⟩:=h.writes.each k hk;by_cases e:m.events[k].times=0
 .have:=h5 e;omega
 .have h6:(1:Int) * (m.events[k].sets.length:Int)<=m.events[k].times * (m.events[k].sets.length:Int):=Int.mul_le_mul_of_nonneg_right (by omega) (Mr _);omega
theorem Br {m:aR} (h:B3 m) (c:List Int):0<=dC m c m.events.length /\ dC m c m.events.length<=4:=by
 have h1:=uq m c h.writes m.events.length (KW _);rw [K7] at h1;have h2:=h.sum;exact ⟨rk m c _,by omega⟩
theorem kV.mono {N M:Nat} {z:Zn} (h:kV N z) (hm:N<=M):kV M z:=⟨by have:=h.cl;omega,by have:=h.ga;omega,h.at_⟩
structure mB (m:aR) (n:Nd):Prop where
 did:n.did.length=m.events.length
 cnt:n.cnt.length=m.events.length
 opn:cc n.opn
 don:cc n.don
 each:∀ i,i<m.events.length -> cc (n.did.getD i 0) /\ 0<=n.cnt.getD i 0 /\ n.cnt.getD i 0<=3
 z:kV 14 n.z
 gap:(n.z.gaps.length:Int)=max ((n.z.cls.length:Int) - 1) 0
theorem xS {m:aR} {c:List Int} {n:Nd} (hE:fU m c) (hat:∀ x ∈ n.z.cls,aq x.attrs) (h:x2 m c n):mB m n:=by
 obtain ⟨h1,⟨⟨h2,h3,h4⟩,_⟩⟩:=h;unfold un qF at h1;simp only [Li,Lp] at h1;obtain ⟨⟨⟨⟨⟨c1,c2⟩,c3⟩,c4⟩,c5⟩,c6⟩:=h1;have h5:=wP (n:=m.attrs.length) (by have:=hE.ck.chk.attrs;omega) (fun x hx=>by have:=(hat x hx).2;omega) h3;have h6:=cW c;have h7:=hE.clen;have h8:=hE.ck.chk.attrs;refine ⟨c2,c3,nl c4,nl c5,fun i hi=>?_,⟨by omega,by have:=h4.1;omega,hat⟩,h4.1⟩;have h9:=(uA _ _).1 c6 i hi;unfold u7 at h9;simp only [Li,Lp,KN hi,LE,Lm] at h9;have h10:=(hE.ck.writes.each i hi).2.1;exact ⟨nl h9.1.1,h9.1.2,by omega⟩
theorem pk {m:aR} {e:Nat} (he:e<m.events.length):nH m e=m.events[e].sets:=by simp [nH,he]
theorem AM {m:aR} (h:B3 m) {e:Nat} (he:e<m.events.length):∀ a ∈ nH m e,0<=a /\ a<31:=by
 intro a ha;rw [pk he] at ha;obtain ⟨i,hi,rfl⟩:=Le ha;have h1:=((h.named.events e he).2.2 i hi).1;have h2:=h.chk.attrs;unfold dg at h1;simp only [Li,Lp] at h1;omega
theorem kp {f:Nat -> Bool}:∀ {n:Nat} {u:Int},u ∈ fm f n -> 0<=u /\ u<(n:Int)
 | 0,u,h=>by simp [fm] at h
 | n+1,u,h=>by
  rw [fm] at h;split at h
  .rcases K2.1 h with h1 | h1
   .have:=kp h1;omega
   .simp at h1;omega
  .have:=kp h;omega
section
variable {m:aR} {c:List Int} {n:Nd}
theorem kb (hE:fU m c) (hK:mB m n) {e:Nat} (he:e<m.events.length):KA 20 (cC m n e) /\ (cC m n e).length<=2000404224:=by
 have hs:=lR hE.ck he;rw [<- pk he] at hs;have hl:=(Br hE.ck n.cnt).2;refine ⟨fun y hy=>?_,rS (nH m e) hK.z hl _ (by omega)⟩;exact ((xV (nH m e) hK.z hl _ (by omega)).1 y hy).mono (by omega)
theorem BZ (hB:oq 20 n) (hK:mB m n) (e:Nat) (u:Int) (z:Zn) (hz:kV 20 z):oq 20 { dh m n e u with z:=z }:=by
 refine ⟨hz,?_,?_,hB.opn,hB.don,fun x hx=>?_⟩
 .simp only [dh,List.length_set];exact hB.did
 .simp only [dh];split
  .rw [List.length_set];exact hB.cnt
  .exact hB.cnt
 .simp only [dh] at hx;rcases LS hx with h1|h1
  .exact hB.dok x h1
  .rw [h1];exact pu _ _
theorem G9 {N:Nat} (hB:oq N n) (ho:cc n.opn) (hd:cc n.don) (event:Int):oq N (nL m c n event):=by
 have h:=nv m c n.z event (bt n) ⟨ho,hd⟩ m.order.length (KW _);exact ⟨hB.z,hB.did,hB.cnt,cw h.1,cw h.2,hB.dok⟩
theorem BU (hB:oq 20 n) (hK:mB m n) (e:Nat) (u:Int) {zs:List Zn} (hz:KA 20 zs):∀ s ∈ fH m c n e u zs,oq 20 s.nd:=by
 intro s hs;obtain ⟨z,h1,rfl⟩:=K8.1 hs;exact G9 (BZ hB hK e u z (hz z h1)) hK.opn hK.don _
theorem Cj (hE:fU m c) (hB:oq 20 n) (hK:mB m n) {e:Nat} (he:e<m.events.length):∀ s ∈ lm m c n e,oq 20 s.nd:=by
 intro s hs;obtain ⟨u,_,h1⟩:=Lx.1 hs;exact BU hB hK e u (kb hE hK he).1 s h1
theorem pW (hE:fU m c) (s:St) (e:Int):(fh m s e).length<=4:=by
 have h1:=nj (fun u=>fT m s e (u:Int)) m.users.length;have h2:=hE.ck.chk.users;unfold fh;omega
theorem xb (hE:fU m c) (hK:mB m n) {e:Nat} (he:e<m.events.length):(lm m c n e).length<=8001616896:=by
 have h1:=fL (fun u=>fH m c n e u (cC m n e)) 2000404224 (fh m (bt n) (e:Int)) fun u _=>by
  rw [fH,Lg];exact (kb hE hK he).2
 have h2:=pW hE (bt n) (e:Int);have h3:=La 2000404224 h2;unfold lm;omega
theorem i9 (hE:fU m c) (hK:mB m n):∀ k,k<=m.events.length -> (cD m c n k).length<=k * 8001616896
 | 0,_=>by simp [cD]
 | k+1,hk=>by
  have h1:=i9 hE hK k (by omega);have h2:=xb hE hK (e:=k) (by omega)
  have h3:cD m c n (k+1)=cD m c n k ++ lm m c n k:=by
   unfold cD;rw [LX,LW];simp
  rw [h3,f4,MM];omega
theorem ud (hE:fU m c) (hB:oq 20 n) (hK:mB m n) {k:Nat} (hk:k<=m.events.length):∀ s ∈ cD m c n k,oq 20 s.nd:=by
 intro s hs;obtain ⟨e,he,h1⟩:=Lx.1 hs;exact Cj hE hB hK (by have:=Ma.1 he;omega) s h1
theorem Fl (hE:fU m c) (hB:oq 20 n):∀ s ∈ gU m c n,oq 20 s.nd:=by
 intro s hs;unfold gU at hs;split at hs
 .rename_i hP;have hK:=xS hE hB.z.at_ hP;rcases K2.1 hs with h1|h1
  .rw [gE] at h1;exact ud hE hB hK (KW _) s h1
  .split at h1
   .simp at h1
   .simp only [K9] at h1;rw [h1];exact hB
 .simp at hs
end
end
end
section
section
theorem vD {α:Type} [DecidableEq α] (l:List α) (x:α):bM (l ++ [x])=if x ∈ bM l then bM l else bM l ++ [x]:=by
 unfold bM;rw [List.foldl_append];rfl
noncomputable def ir (m:aR) (c:List Int) (n:Nd) (e i j:Nat):List Sn:=
 cD m c n e ++ (((fh m (bt n) (e:Int)).take i).flatMap (fun u=>fH m c n e u (cC m n e)) ++ ((((fh m (bt n) (e:Int))[i]?.map fun u=>fH m c n e u (cC m n e)).getD []).take j))
theorem yX (m:aR) (c:List Int) (n:Nd) (e:Nat):ir m c n e 0 0=cD m c n e:=by simp [ir]
theorem zR (m:aR) (c:List Int) (n:Nd) (e:Nat) {i:Nat} (hi:i<(fh m (bt n) (e:Int)).length):ir m c n e i (cC m n e).length=ir m c n e (i+1) 0:=by
 unfold ir;rw [KX hi,KN hi,LW];simp only [LE,Lm,Mh,LL,Ln,Lb]
 congr 2
 exact Lj (by rw [fH,Lg];exact KW _)
theorem AZ (m:aR) (c:List Int) (n:Nd) (e:Nat):ir m c n e (fh m (bt n) (e:Int)).length 0=cD m c n (e+1):=by
 unfold ir cD;rw [K7,LX,LW];simp [lm]
theorem zJ (m:aR) (c:List Int) (n:Nd) (e:Nat) {i j:Nat} (hi:i<(fh m (bt n) (e:Int)).length) (hj:j<(cC m n e).length) :
  ir m c n e i (j+1)=ir m c n e i j ++ [⟨(e:Int),(fh m (bt n) (e:Int))[i],nL m c { dh m n e (fh m (bt n) (e:Int))[i] with z:=(cC m n e)[j] } (e:Int)⟩]:=by
 unfold ir;rw [KN hi];simp only [LE,Lm];rw [KX (by simpa [fH] using hj)];simp [fH]
theorem BM (m:aR) (c:List Int) (n:Nd) (e:Nat) {i j:Nat}:∀ s ∈ ir m c n e i j,s ∈ cD m c n (e+1):=by
 intro s hs;unfold cD;rw [LX,LW,K2];unfold ir at hs;rcases K2.1 hs with h|h
 .exact .inl h
 .right;simp only [Mh,LL,Ln];unfold lm;rcases K2.1 h with h1|h1
  .obtain ⟨u,hu,h2⟩:=Lx.1 h1;exact Lx.2 ⟨u,Lk hu,h2⟩
  .have h2:=Lk h1
   cases hw:(fh m (bt n) (e:Int))[i]? with
   | none=>rw [hw] at h2;simp at h2
   | some u=>
    rw [hw] at h2;exact Lx.2 ⟨u,KO hw,h2⟩
theorem AX {m:aR} {c:List Int} {n:Nd} (hE:fU m c) (hK:mB m n) {e i j:Nat} (he:e<m.events.length):(ir m c n e i j).length<=72014552064:=by
 have h1:=i9 hE hK e (by omega);have h2:=hE.ck.chk.events
 have h3:=fL (fun u=>fH m c n e u (cC m n e)) 2000404224 ((fh m (bt n) (e:Int)).take i) fun u _=>by
  rw [fH,Lg];exact (kb hE hK he).2
 have h4:=pW hE (bt n) (e:Int);have h5:((fh m (bt n) (e:Int)).take i).length<=4:=by rw [K6];omega
 have h6:=La 2000404224 h5
 have h7:(((((fh m (bt n) (e:Int))[i]?.map fun u=>fH m c n e u (cC m n e)).getD []).take j)).length<=2000404224:=by
  rw [K6]
  cases hw:(fh m (bt n) (e:Int))[i]? with
  | none=>simp
  | some u=>
   have:=(kb hE hK he).2;simp [fH];omega
 have h8:=La 8001616896 (show e<=6 by omega);unfold ir;rw [f4,f4];omega
theorem C3 (m:aR) (c:List Int) (n:Nd) (hE:fU m c) (hB:oq 20 n):aw Tryz.prog 33 [.agg (aM m),sI c,.agg (dX n)] ⟨.sl 8 ((gU m c n).map qa),[],0⟩:=by
 refine g8 99 ?_;refine ba ah Tryz.func33 rfl (by decide) Tryz.ntmps33 Tryz.results33 rfl ?_;have hf:=hE.fit;have hck:=hE.ck;obtain ⟨hgl,hml,hsl,hel,hal,hul,hrl,hsol,hol,hil⟩:=id hf.sizes;have hcl:=hB.z.cl;have hga:=hB.z.ga;have hdl:=hB.did;have hcn:=hB.cnt;have hc9:=hE.clen
 have hm:∀ e ∈ m.events,e.times<=10 /\ e.sets.length<=10:=fun x hx=>by
  obtain ⟨i,hi,rfl⟩:=Le hx;have h1:=(hck.writes.each i hi).2.1;have h2:=lR hck hi;exact ⟨by omega,by omega⟩
 obtain ⟨t,ht,hC⟩:=ki (rF m c n hel hm (by omega) (by omega) (by omega) (by omega) hE.cok hB.z.at_ (by omega) (by omega) hB.opn hB.don hB.dok);have hSt:=qI n (by omega) (by omega)
 cases t with
 | false=>
  have hn:gU m c n=[]:=KY fun h=>by have:=ht.2 h;cases this
  rw [hn]
  repeat' first|refine gq ?_|decide|refine sp ?_ ?_<;>intro _|refine cA hC ?_|fail
  all_goals exact bZ (gZ rfl)
 | true=>
  have hP:=ht.1 rfl;have hK:=xS hE hB.z.at_ hP;have hn:gU m c n=bM (cD m c n m.events.length) ++ (if Dx m (bt n)=true then [] else [⟨-1,-1,n⟩]):=K5 hP;rw [hn];have hos:aq (bt n).opn:=hB.opn;have hds:aq (bt n).don:=hB.don;have hdis:∀ x ∈ (bt n).did,aq x:=hB.dok;have hL:=oD m n.cnt hel hm (by omega);have hle:=Br hck n.cnt;have hA:=Ju m (bt n) (by omega) (by omega) (by omega) (by omega) hos hds hE.rol hdis;obtain ⟨s,hs⟩:∃ s,s=bt n:=⟨_,rfl⟩
  repeat' first|refine gq ?_|decide|refine sp ?_ ?_<;>intro _|refine cA hC ?_|refine cA hSt ?_|fail
  refine af (fun st=>∃ e:Nat,e<=m.events.length /\ st=⟨102,[(1,sI c),(3,.op 0 0 0),(5,.op 1 0 0),(7,.osl 3),(8,.op 2 0 0),(9,eI (e:Int))],[(0,some (.box 32 (aM m))),(1,some (.box 62 (dX n))),(2,some (.box 106 (i6 (bt n)))),(3,some (.row 99 8 ((bM (cD m c n e)).map qa)))],4⟩) (fun st=>m.events.length - ap st 9) ⟨_,((bf 7 99 8 (by simp only [iu,ak.get,bl,ak.put,↓reduceIte,reduceCtorEq,Nat.reduceLT,Nat.reduceEqDiff,Nat.reduceAdd,Nat.reduceLeDiff,eq_self,implies_true,cD,L7,LL,bM,MF,Lq])).trans (wS [0,1,2,3] (kf @cD.eq_1 (kf @L7 (kf @LL (kf @bM.eq_1 @MF)))))),0,KR _,rfl⟩ ?_;rintro _ ⟨e,he,rfl⟩;by_cases hlt:e<m.events.length
  .obtain ⟨x,hx⟩:∃ x,x=m.events[e]:=⟨_,rfl⟩;have hrx:(m.events.map wY)[e]?.getD []=wY x:=by rw [hx];simp [hlt]
   have hse:nH m e=x.sets:=by rw [hx];exact pk hlt
   have hsl4:=lR hck hlt;rw [<- hx] at hsl4;have hW:=zh n.z x.sets (dC m n.cnt m.events.length) hK.z (by omega) (by rw [<- hse];exact AM hck hlt) ⟨by omega,hle.2⟩;have hze:cC m n e=n5 n.z x.sets (dC m n.cnt m.events.length) x.sets.length:=(by rw [cC,hse]);rw [<- hze] at hW;obtain ⟨hzB,hzl⟩:=kb hE hK hlt;have hWho:=BD m (bt n) (e:Int) (by omega) (by omega) (by omega) hos hds hE.rol hdis;have hWhoT:aw Tryz.prog 83 [.agg (aM m),.agg (i6 (bt n)),eI (e:Int)] ⟨sI (fh m (bt n) (e:Int)),[],0⟩:=aw.still [0] hWho (by simp [ce.frzs,ce.frz,gi,aa.gc,AV.frz]) (by simp [AV.lt]);have hwl:=pW hE (bt n) (e:Int)
   have hwm:∀ u ∈ fh m (bt n) (e:Int),0<=u /\ u<31:=fun u hu=>by
    have:=kp hu;omega
   have hz0:=yX m c n e;have hall:=AZ m c n e
   repeat' first|refine ge (kf @hrx @hlt) ?_|decide|refine sp ?_ ?_<;>intro _
   refine aB [] [0,1,2,3,4,5,6,7,8,9,10] (.exec 11 (.exec 12 (.exec 13 .done))) (by kernel_rfl) (by simp [aa.gc]) ?_
   repeat' first|refine gf (kf @hrx @hlt) ?_|decide|refine sp ?_ ?_<;>intro _|refine cA hL ?_|refine cA hW ?_|refine cA hWhoT ?_|fail
   refine af (fun st=>∃ i:Nat,i<=(fh m (bt n) (e:Int)).length /\ st=⟨102,[(1,sI c),(3,.op 0 0 0),(5,.op 1 0 0),(7,.osl 3),(8,.op 2 0 0),(9,eI (e:Int)),(10,.sl 2 ((cC m n e).map bW)),(11,sI (fh m (bt n) (e:Int))),(12,eI (i:Int))],[(0,some (.box 32 (aM m))),(1,some (.box 62 (dX n))),(2,some (.box 106 (i6 (bt n)))),(3,some (.row 99 8 ((bM (ir m c n e i 0)).map qa)))],4⟩) (fun st=>(fh m (bt n) (e:Int)).length - ap st 12) ⟨_,(wE hz0),0,KR _,rfl⟩ ?_;rintro _ ⟨i,hi,rfl⟩;by_cases hli:i<(fh m (bt n) (e:Int)).length
   .have hsuc:=fun j (hj:j<(cC m n e).length)=>zJ m c n e hli hj;have hnx:=zR m c n e hli;obtain ⟨W,hWe⟩:∃ W,W=fh m (bt n) (e:Int):=⟨_,rfl⟩;obtain ⟨u,hu⟩:∃ u,u=(fh m (bt n) (e:Int))[i]:=⟨_,rfl⟩;have hru:((fh m (bt n) (e:Int)).map fun n=>[eI n])[i]?.getD []=[eI u]:=by rw [hu];simp [hli]
    have huo:=hwm u (hu ▸ KQ hli);have hk:=hK.each e hlt;have hTk:=FE m n e u hlt (by have:=hK.did;omega) (by have:=hK.cnt;omega) (by omega) (by omega) (cw hk.1) ⟨by omega,by omega⟩ huo;have hTB:=fun z (hz:kV 20 z)=>BZ hB hK e u z hz;simp only [<- hu] at hsuc;obtain ⟨T,hTe⟩:∃ T,T=dh m n e u:=⟨_,rfl⟩;rw [<- hTe] at hTk hTB hsuc;have hTz:T.opn=n.opn /\ T.don=n.don:=by rw [hTe];exact ⟨rfl,rfl⟩
    repeat' first|refine ge (kf @hru @hli) ?_|decide|refine sp ?_ ?_<;>intro _
    refine aB [] [0,1,2,3,4,5,6] (.two 7 (.exec 8 (.exec 9 .done)) 8 (.exec 7 (.exec 9 .done))) (by kernel_rfl) (by simp [aa.gc]) ?_
    repeat' first|refine gf (kf @hru @hli) ?_|decide|refine sp ?_ ?_<;>intro _|refine cA hTk ?_|(with_reducible apply And.intro)
    all_goals
     refine af (fun st=>∃ (j:Nat) (z:Zn),j<=(cC m n e).length /\ st=⟨102,[(1,sI c),(3,.op 0 0 0),(5,.op 1 0 0),(7,.osl 3),(8,.op 2 0 0),(9,eI (e:Int)),(10,.sl 2 ((cC m n e).map bW)),(11,sI (fh m (bt n) (e:Int))),(12,eI (i:Int)),(13,.op 4 0 0),(14,eI (j:Int))],[(0,some (.box 32 (aM m))),(1,some (.box 62 (dX n))),(2,some (.box 106 (i6 (bt n)))),(3,some (.row 99 8 ((bM (ir m c n e i j)).map qa))),(4,some (.box 62 (dX { T with z:=z })))],5⟩) (fun st=>(cC m n e).length - ap st 14) ⟨_,wC,0,T.z,KR _,rfl⟩ ?_;rintro _ ⟨j,z0,hj,rfl⟩;by_cases hlj:j<(cC m n e).length
     .obtain ⟨z,hz⟩:∃ z,z=(cC m n e)[j]:=⟨_,rfl⟩;have hrz:((cC m n e).map bW)[j]?.getD []=bW z:=by rw [hz];simp [hlj]
      have hzB2:=hzB z (hz ▸ KQ hlj);have hs1:=hsuc j hlj;rw [<- hz] at hs1;have hNB:=hTB z hzB2;have hPs:=BC m c { T with z:=z } (e:Int) hf hE.stg (by omega) (N:=20) (by omega) hNB (by rw [show ({ T with z:=z }:Nd).opn=n.opn from hTz.1];exact hK.opn) (by rw [show ({ T with z:=z }:Nd).don=n.don from hTz.2];exact hK.don);have hal:=AX (c:=c) (i:=i) (j:=j) hE hK hlt;have hul:=kn (ir m c n e i j)
      have hsub:∀ y ∈ bM (ir m c n e i j),oq 20 y.nd:=fun y hy=>by
       rw [gE] at hy;exact ud hE hB hK (by omega) y (BM m c n e y hy)
      have hus:=vD (ir m c n e i j) ⟨(e:Int),u,nL m c { T with z:=z } (e:Int)⟩;rw [<- hs1] at hus;obtain ⟨P,hPe⟩:∃ P,P=nL m c { T with z:=z } (e:Int):=⟨_,rfl⟩;rw [<- hPe] at hPs hus;obtain ⟨A,hA2⟩:∃ A,A=bM (ir m c n e i j):=⟨_,rfl⟩;rw [<- hA2] at hul hsub hus ⊢;have hH:=Ef A ⟨(e:Int),u,P⟩ (by omega) (N:=20) (by omega) hsub;by_cases hmem:(⟨(e:Int),u,P⟩:Sn) ∈ A
      .rw [K5 hmem] at hus;rw [K4 hmem] at hH
       repeat' first|refine ge (kf @hlj @hrz) ?_|decide|refine sp ?_ ?_<;>intro _
       refine aB [] [0,1,2,3,4,5,6,7,8] (.two 9 (.take 10 (.exec 11 (.exec 12 .done))) 11 (.exec 9 (.take 10 (.exec 12 .done)))) (by kernel_rfl) (by simp [aa.gc]) ?_
       repeat' first|refine gf (kf @hru (kf @hli (kf @hlj @hrz))) ?_|decide|refine sp ?_ ?_<;>intro _|refine cA hPs ?_|refine cA hH ?_|(with_reducible apply And.intro)
       all_goals exact rI (wE @hus) ⟨j+1,z,by omega,rfl⟩
      .rw [KY hmem] at hus;rw [K0 hmem] at hH;have et:(bM (ir m c n e i (j+1))).map qa=A.map qa ++ [qa ⟨(e:Int),u,P⟩]:=by rw [hus];simp
       repeat' first|refine ge (kf @hlj @hrz) ?_|decide|refine sp ?_ ?_<;>intro _
       refine aB [] [0,1,2,3,4,5,6,7,8] (.two 9 (.take 10 (.exec 11 (.exec 12 .done))) 11 (.exec 9 (.take 10 (.exec 12 .done)))) (by kernel_rfl) (by simp [aa.gc]) ?_
       repeat' first|refine gf (kf @hru (kf @hli (kf @hlj @hrz))) ?_|decide|refine sp ?_ ?_<;>intro _|refine cA hPs ?_|refine cA hH ?_|(with_reducible apply And.intro)
       all_goals first
        | rfl
        | omega
        | exact rI (wS [0,1,2,7,4] (kf et hA2)) ⟨j+1,z,by omega,rfl⟩
     .obtain rfl:j=(cC m n e).length:=by omega
      rw [hnx]
      repeat' first|refine gf @hlj ?_|decide|refine sp ?_ ?_<;>intro _
      all_goals exact rI wC ⟨i+1,by omega,rfl⟩
   .obtain rfl:i=(fh m (bt n) (e:Int)).length:=by omega
    repeat' first|refine gf @hli ?_|decide|refine sp ?_ ?_<;>intro _
    all_goals exact rI (wE @hall) ⟨e+1,by omega,rfl⟩
  .obtain rfl:e=m.events.length:=by omega
   have hUl:=kn (cD m c n m.events.length);have hNl:=i9 hE hK m.events.length (KW _);have hev:=hck.chk.events;have hNl2:=La 8001616896 hev;obtain ⟨U,hU⟩:∃ U,U=bM (cD m c n m.events.length):=⟨_,rfl⟩;rw [<- hU] at hUl ⊢
   cases hb:Dx m (bt n) with
   | true=>
    rw [hb] at hA;rw [K5 rfl,Ln]
    repeat' first|refine gf @hlt ?_|decide|refine sp ?_ ?_<;>intro _|refine cA hA ?_|fail
    all_goals exact xv rfl jm
   | false=>
    rw [hb] at hA;rw [KY (by simp)];have et:(U ++ [(⟨-1,-1,n⟩:Sn)]).map qa=U.map qa ++ [qa ⟨-1,-1,n⟩]:=(by simp);rw [et]
    repeat' first|refine gf @hlt ?_|decide|refine sp ?_ ?_<;>intro _|refine cA hA ?_|(with_reducible apply And.intro)
    all_goals first
     | rfl
     | omega
     | exact xv rfl jm
end
section
theorem AL {α:Type} [DecidableEq α] {x:α}:∀ {l:List α} {k:Nat} (hk:k<l.length),l[k]=x -> x ∉ l.take k -> l.idxOf x=k
 | y :: l,0,_,h,_=>by
  have:y=x:=h;rw [this,List.idxOf_cons_self]
 | y :: l,k+1,hk,h,hn=>by
  have h1:x ≠ y /\ x ∉ l.take k:=by simpa using hn
  have hb:(y == x)=false:=LJ.2 (Ne.symm h1.1);rw [List.idxOf_cons,hb,cond_false,AL (by simpa using hk) (by simpa using h) h1.2]
 | [],k,hk,_,_=>absurd hk (by simp)
def rl (l:List Nd) (n:Nd):Int:=if n ∈ l then (l.idxOf n:Int) else -1
theorem D0 (l:List Nd) (n:Nd) (hll:l.length<=2700000000000) {N:Nat} (hN:N<=1000000) (hl:∀ y ∈ l,oq N y):aw Tryz.prog 34 [.sl 6 (l.map dX),.agg (dX n)] (val (.int .i64 (rl l n))):=by
 refine ab ah Tryz.func34 rfl (by decide) Tryz.ntmps34 Tryz.results34 rfl (aU _) ?_
 repeat' first|refine go ?_|decide|refine sp ?_ ?_<;>intro _
 refine af (fun st=>∃ k:Nat,k<=l.length /\ n ∉ l.take k /\ st=⟨19,[(0,.sl 6 (l.map dX)),(3,.op 0 0 0),(5,eI (k:Int))],[(0,some (.box 62 (dX n)))],1⟩) (fun st=>l.length - ap st 5) ⟨_,wC,0,KR _,by simp,rfl⟩ ?_;rintro _ ⟨k,hk,hI,rfl⟩;by_cases hlt:k<l.length
 .obtain ⟨y,hy⟩:∃ y,y=l[k]:=⟨_,rfl⟩;have hrow:(l.map dX)[k]?.getD []=dX y:=by rw [hy];simp [hlt]
  have hB:=hl y (hy ▸ KQ hlt);have b1:=hB.z.cl;have b2:=hB.z.ga;have b3:=hB.did;have b4:=hB.cnt;have hS:=re y n (by omega) (by omega) (by omega) (by omega);have hm:n ∈ l.take (k+1) ↔ n ∈ l.take k \/ n=y:=by rw [KX hlt,K2,K9,hy]
  cases h7:decide (y=n) with
  | false=>
   rw [h7] at hS;have hne:¬ y=n:=fun e=>by rw [e] at h7;simp at h7
   repeat' first|refine gf (kf @hrow @hlt) ?_|decide|refine sp ?_ ?_<;>intro _|refine cA hS ?_|fail
   all_goals exact rI wC ⟨k+1,by omega,fun h=>(hm.1 h).elim hI fun e=>hne e.symm,rfl⟩
  | true=>
   rw [h7] at hS;have he:y=n:=(by simpa using h7);have hmem:n ∈ l:=by rw [<- he,hy];exact KQ hlt
   have hix:rl l n=(k:Int):=by
    rw [rl,K5 hmem,AL hlt (by rw [<- hy];exact he) hI]
   rw [hix]
   repeat' first|refine gf (kf @hrow @hlt) ?_|decide|refine sp ?_ ?_<;>intro _|refine cA hS ?_|fail
 .obtain rfl:k=l.length:=by omega
  rw [K7] at hI;have hix:rl l n = -1:=KY hI;rw [hix]
  repeat' first|refine gf @hlt ?_|decide|refine sp ?_ ?_<;>intro _
def ik (N:List Nd) (l:List Sn) (r:List pp):Prop:=r.length=l.length /\ ∀ j (h:j<l.length) (h2:j<r.length),r[j].ev=l[j].ev /\ r[j].us=l[j].us /\ 0<=r[j].dst /\ N[r[j].dst.toNat]? = some l[j].nd
theorem ik.mono {N N':List Nd} {l:List Sn} {r:List pp} (h:ik N l r) (hp:N <+: N'):ik N' l r:=by
 obtain ⟨t,rfl⟩:=hp;refine ⟨h.1,fun j h1 h2=>?_⟩;obtain ⟨k1,k2,k3,k4⟩:=h.2 j h1 h2;exact ⟨k1,k2,k3,by rw [Ls (KS.1 k4).1];exact k4⟩
theorem ik.snoc {N:List Nd} {l:List Sn} {r:List pp} {k:Nat} (hk:k<l.length) (h:ik N (l.take k) r) {e:pp} (he:e.ev=l[k].ev /\ e.us=l[k].us /\ 0<=e.dst /\ N[e.dst.toNat]? = some l[k].nd):ik N (l.take (k+1)) (r ++ [e]):=by
 have hl:r.length=k:=by
  have:=h.1;rw [K6] at this;omega
 refine ⟨by rw [f4,Lo,K6];omega,fun j h1 h2=>?_⟩;by_cases e1:j=k
 .subst e1
  have:(r ++ [e])[j]=e:=by
   rw [MJ (by omega)];simp [hl]
  rw [this,List.getElem_take];exact he
 .have h3:j<k:=by
   rw [K6] at h1;omega
  have h4:=h.2 j (by rw [K6];omega) (by omega);rw [Mv (by omega),List.getElem_take];rw [List.getElem_take] at h4;exact h4
theorem yJ {m:aR} {c:List Int} {n:Nd} (hE:fU m c) (hB:oq 20 n):(gU m c n).length<=48009701377:=by
 unfold gU;split
 .rename_i hP;have hK:=xS hE hB.z.at_ hP;have h1:=kn (cD m c n m.events.length);have h2:=i9 hE hK m.events.length (KW _);have h3:=La 8001616896 hE.ck.chk.events;rw [f4];split
  .simp only [K3];omega
  .simp only [Lo];omega
 .exact KR _
theorem Af (vals c:List Int) (h:vals.length+c.length<=20):kV 20 (lI vals c 0) /\ ∀ r,kV 20 (lI vals c r):=by
 have key:∀ r,kV 20 (lI vals c r):=fun r=>by
  have hl:=cW (vals ++ c);rw [f4] at hl;refine ⟨by simp [lI,Aa,gJ];omega,by simp [lI,gk,gJ];omega,fun x hx=>?_⟩;obtain ⟨n,_,rfl⟩:=K8.1 hx;exact nb _ _ _
 exact ⟨key 0,key⟩
theorem FZ {m:aR} {c:List Int} (hE:fU m c):oq 20 (lQ m c (co m)):=by
 obtain ⟨e1,e2,e3⟩:=vj m;have h1:=hE.ck.chk;have h2:=hE.clen;have h3:=h1.attrs;have h4:=h1.inits;have h5:=h1.events;have h31:=oV m (-1) (m.order.take m.order.length) (im m) (by simp [im,cc])
 have hd:(co m).did=List.replicate m.events.length 0:=by
  have h:=kD m (-1) (m.order.take m.order.length) (im m);unfold co jM;rw [h.2.1];rfl
 refine ⟨(Af (co m).vals c (by rw [e1];omega)).2 _,by show (co m).did.length<=10;omega,by show (co m).cnt.length<=10;omega,cw h31.1,cw h31.2,fun x hx=>?_⟩;have hx2:x ∈ (co m).did:=hx;rw [hd] at hx2;rw [(List.mem_replicate.1 hx2).2];simp [aq]
end
section
abbrev pE (l:List Nat):AV:=.sl 1 (l.map fun n:Nat=>[eI (n:Int)])
theorem ic (s:Int):aw Tryz.prog 106 [eI s] ⟨pE (cr s 31),[],0⟩:=aw.still [0] (wh s) (by simp [ce.frzs,ce.frz,gi,aa.gc,AV.frz]) (by simp [AV.lt])
def dE (c:List Int) (k:Int):List ByteArray:=if (c.length:Int)<=k then [fI] else if 0<=k then [nC (c.getD k.toNat 0)] else []
def cI (m:aR) (c:List Int) (x:dN):List ByteArray:=(cr x.attrs 31).map (fun i:Nat=>aC m.attrs (i:Int)) ++ dE c x.const
def fF (m:aR) (c:List Int) (x:dN):List UInt8:=Lib.join ((cI m c x).map (·.data.toList)) [61]
theorem ii {l:List ByteArray} {b:Nat} (h:∀ s ∈ l,s.size<=b) (hb:1<=b) (i:Int):(aC l i).size<=b:=by
 unfold aC;split
 .rename_i hi
  cases hx:l[i.toNat]? with
  | none=>exact hb
  | some x=>exact h x (KO hx)
 .exact hb
theorem qP (b:Nat):∀ (l:List (List UInt8)),(∀ w ∈ l,w.length<=b) -> (Lib.join l [61]).length<=(b+1) * l.length
 | [],_=>by simp [Lib.join_nil]
 | w :: l,h=>by
  have key:∀ (l:List (List UInt8)),(∀ w ∈ l,w.length<=b) -> (Lib.joinTail [61] l).length<=(b+1) * l.length:=fun l=>by
   induction l with
   | nil=>intro _;simp [Lib.joinTail]
   | cons w l ih=>
    intro h;have h1:=ih fun w hw=>h w (Lz _ hw);have h2:=h w LD;have h3:(b+1) * (l.length+1)=(b+1) * l.length+(b+1):=Nat.mul_succ ..;have h4:Lib.joinTail [61] (w :: l)=([61] ++ w) ++ Lib.joinTail [61] l:=(by simp [Lib.joinTail]);rw [h4,KU,h3,f4,f4,Lo];omega
  have h1:=key l fun w hw=>h w (Lz _ hw);have h2:=h w LD;have h3:(b+1) * (l.length+1)=(b+1) * l.length+(b+1):=Nat.mul_succ ..;rw [Lib.join_cons,f4,KU,h3];omega
theorem mq (m:aR) (c:List Int) (x:dN):(cI m c x).length<=32:=by
 have h:=dH x.attrs 31;unfold cI dE;rw [f4,Lg];split
 .simp;omega
 .split<;>simp<;>omega
theorem nA {m:aR} {c:List Int} {x:dN} (hc:∀ n ∈ c,aq n) (hm:∀ s ∈ m.attrs,s.size<=60):∀ w ∈ cI m c x,w.size<=60:=by
 intro w hw;unfold cI at hw;rcases K2.1 hw with h|h
 .obtain ⟨i,_,rfl⟩:=K8.1 h;exact ii hm (by omega) _
 .unfold dE at h;split at h
  .rw [K9.1 h];decide
  .split at h
   .rename_i h1 h2;rw [K9.1 h];have hk:x.const.toNat<c.length:=(by omega)
    have hn:aq (c.getD x.const.toNat 0):=by
     rw [KP,KN hk];exact hc _ (KQ hk)
    have:=fX hn;show (Lib.itoa _).toArray.size<=60;simpa using (by omega:(Lib.itoa (c.getD x.const.toNat 0)).length<=60)
   .cases h
theorem pN {m:aR} {c:List Int} {x:dN} (hc:∀ n ∈ c,aq n) (hm:∀ s ∈ m.attrs,s.size<=60):(fF m c x).length<=1952:=by
 have h1:=qP 60 ((cI m c x).map (·.data.toList)) fun w hw=>by
  obtain ⟨s,hs,rfl⟩:=K8.1 hw;have:=nA hc hm s hs;rw [Ll];exact this
 have h2:=mq m c x;rw [Lg] at h1;unfold fF;omega
theorem EU (m:aR) (c:List Int) (x:dN) (hc:∀ n ∈ c,aq n) (hcl:c.length<=1000000) (hm:∀ s ∈ m.attrs,s.size<=60) (B:List UInt8) (hB:B.length<=140737488350000):mn Tryz.prog 144 [.agg (bR x)] (rC m c) B (B ++ fF m c x):=fun u=>by
 have hT:=pN (x:=x) hc hm;have hL:=ic x.attrs;have hll:=dH x.attrs 31;have hmem:=fun {i:Nat} (h:i ∈ cr x.attrs 31)=>(BL x.attrs 31).1 h;refine cM (Post:=fun c' o=>∃ u',c'=oC 0 1 u' (rC m c) /\ o=[aO (B ++ fF m c x)]) ah Tryz.func144 rfl (by decide) Tryz.ntmps144 Tryz.results144 0 (.op 0 0 0) rfl (lD 0 0) iJ rfl (by kernel_rfl) ⟨(fC u).lt _,by show 1<2;omega,be (bn m c)⟩ (by simp [AV.ltL,AV.lt,bR]) (by simp [aF]) ?_;have htr:=bn m c;have hl2:∀ n,AV.ltL n (rC m c)=True:=fun n=>eq_true (be (bn m c));obtain ⟨l,hl⟩:∃ l,l=cr x.attrs 31:=⟨_,rfl⟩;rw [<- hl] at hL hll hmem
 repeat' first|refine go ?_|simp only [aE]|decide|refine sp ?_ ?_<;>intro _
 refine dU hL (ro) ?_;have hsh:∀ k,(pE l).shift k=pE l:=fun _=>rfl
 repeat' first|refine ge @hsh ?_|decide|refine sp ?_ ?_<;>intro _
 have hsn:∀ k (h:k<l.length),((l.take (k+1)).map (fun i:Nat=>aC m.attrs (i:Int))).map (fun s=>[eS s])=((l.take k).map (fun i:Nat=>aC m.attrs (i:Int))).map (fun s=>[eS s]) ++ [[eS (aC m.attrs (l[k]:Int))]]:=fun k h=>by
  rw [KX h,Lr,Lr];rfl
 refine af (fun st=>∃ (k:Nat) (u':Bool),k<=l.length /\ st=⟨55,[(0,.op 0 0 0),(3,.op 2 0 0),(4,.osl 3),(9,pE l),(10,eI (l.length:Int)),(11,eI (k:Int))],[(0,some (.box 135 (oC 0 1 u' (rC m c)))),(1,some (aO B)),(2,some (.box 128 (bR x))),(3,some (xX ((l.take k).map (fun i:Nat=>aC m.attrs (i:Int)))))],4⟩) (fun st=>l.length - ap st 11) ⟨_,by cases u<;>exact ((bf 4 9 1 (by simp only [iu,ak.get,bl,ak.put,↓reduceIte,reduceCtorEq,Nat.reduceLT,Nat.reduceEqDiff,Nat.reduceAdd,Nat.reduceLeDiff,eq_self,implies_true,Lb,Lq])).trans (wS [0,1,2,3] @Lb)),0,u,KR _,rfl⟩ ?_;rintro _ ⟨k,u',hk,rfl⟩;by_cases hlt:k<l.length
 .obtain ⟨i,hi⟩:∃ i,i=l[k]:=⟨_,rfl⟩;have hri:(l.map fun n:Nat=>[eI (n:Int)])[k]?.getD []=[eI (i:Int)]:=by rw [hi];simp [hlt]
  have et:=hsn k hlt;rw [<- hi] at et;have hA:=IJ m c (i:Int);obtain ⟨W,hW⟩:∃ W,W=(l.take k).map (fun i:Nat=>aC m.attrs (i:Int)):=⟨_,rfl⟩;have hWl:W.length<=31:=by rw [hW,Lg,K6];omega
  rw [<- hW] at et ⊢
  repeat' first|refine ge (kf @hlt @hri) ?_|decide|refine sp ?_ ?_<;>intro _
  refine iO (b:=0) (i:=1) (u:=u') (B:=B) hA htr (by simp [gb,iv]) (by simp [aa.gc]) (by simp [aa.gc]) (by decide) (fun p hp=>by cases hp) ?_
  repeat' first|refine go ?_|decide|refine sp ?_ ?_<;>intro _
  refine ⟨rfl,⟨by omega,by omega⟩,?_⟩;cases u'
  .exact rI (wS [0,4,2,6] (kf et hW)) ⟨k+1,false,by omega,rfl⟩
  .exact rI (wS [0,4,2,6] (kf et hW)) ⟨k+1,true,by omega,rfl⟩
 .obtain rfl:k=l.length:=by omega
  rw [K7];obtain ⟨W,hW⟩:∃ W,W=l.map (fun i:Nat=>aC m.attrs (i:Int)):=⟨_,rfl⟩;have hWl:W.length<=31:=by rw [hW,Lg];omega
  have hWs:cI m c x=W ++ dE c x.const:=by rw [hW,hl];rfl
  have hsz:=nA (x:=x) hc hm
  have hfin:∀ T:List ByteArray,T=cI m c x -> aw Tryz.prog 190 [sW T,.c (.string ⟨#[61]⟩)] (val (.string ⟨(fF m c x).toArray⟩)):=fun T hT2=>by
   rw [hT2];have h3:=mq m c x;exact Jo (cI m c x) ⟨#[61]⟩ (by omega) (by show (fF m c x).length<=_;omega)
  have hPut:=CN (rC m c) (s0 m c) (bn m c) [⟨(fF m c x).toArray⟩] (by simp) B (by simp [df];omega);have hcat:df [⟨(fF m c x).toArray⟩]=fF m c x:=by simp [df]
  rw [hcat] at hPut;rw [<- hW];have hltc:∀ b:Bool,AV.ltL 2 (oC 0 1 b (rC m c)):=fun b=>⟨(fC b).lt 1,by show 1<2;omega,be (bn m c)⟩
  repeat' first|refine ge @hlt ?_|decide|refine sp ?_ ?_<;>intro _
  refine aD (by kernel_rfl) ?_;by_cases k1:(c.length:Int)<=x.const
  .have d1:decide ((c.length:Int)<=x.const)=true:=K4 k1;have hT1:dE c x.const=[fI]:=K5 k1;have et:W.map (fun s=>[eS s]) ++ [[.c (.string ⟨#[63]⟩)]]=(cI m c x).map fun s=>[eS s]:=by rw [hWs,hT1,Lr];rfl
   repeat' first|refine ge d1 ?_|decide|refine sp ?_ ?_<;>intro _
   refine ⟨rfl,⟨by omega,by omega⟩,?_⟩
   repeat' first|refine ge et ?_|decide|refine sp ?_ ?_<;>intro _
   refine aA (hfin _ rfl) ?_
   repeat' first|refine go ?_|decide|refine sp ?_ ?_<;>intro _
   refine ⟨rfl,?_⟩;refine cb (b:=0) (i:=1) (j:=6) (u:=u') (B:=B) (l:=[⟨(fF m c x).toArray⟩]) hPut htr (by simp [aa.gc]) (by simp [aa.gc]) (by simp [aa.gc]) (by decide) (fun p hp=>by cases hp) fun av u2=>?_;cases u2<;>(repeat' (first|refine ge (kf @eh @d9) ?_|decide|refine sp ?_ ?_<;>intro _))
   .exact ⟨oC 0 1 false (rC m c),_,⟨false,rfl,rfl⟩,⟨by simp,hltc false,by simp [aF]⟩,(wS [0,7] (kf @aE.eq_1 @aE.eq_2))⟩
   .exact ⟨oC 0 1 true (rC m c),_,⟨true,rfl,rfl⟩,⟨by simp,hltc true,by simp [aF]⟩,(wS [0,7] (kf @aE.eq_1 @aE.eq_2))⟩
  .have d1:decide ((c.length:Int)<=x.const)=false:=K0 k1;by_cases k2:0<=x.const
   .have d2:decide (0<=x.const)=true:=K4 k2;have hk:x.const.toNat<c.length:=(by omega);obtain ⟨n,hn⟩:∃ n,n=c[x.const.toNat]:=⟨_,rfl⟩;have hrn:(c.map fun n=>[eI n])[x.const.toNat]?.getD []=[eI n]:=by rw [hn];simp [hk]
    have hP:=xP n (by rw [hn];exact hc _ (KQ hk));have hT1:dE c x.const=[nC n]:=by unfold dE;rw [KY k1,K5 k2,KP,KN hk,hn];rfl
    have et:W.map (fun s=>[eS s]) ++ [[.c (.string (nC n))]]=(cI m c x).map fun s=>[eS s]:=by rw [hWs,hT1,Lr];rfl
    repeat' first|refine ge (kf d1 d2) ?_|decide|refine sp ?_ ?_<;>intro _
    refine aB [3] [0,1,2,3,4,5,6,7,8] (.exec 9 (.exec 10 (.exec 11 (.exec 12 .done)))) (by kernel_rfl) (by simp [aa.gc]) ?_
    repeat' first|refine ge (kf hk @hrn) ?_|decide|refine sp ?_ ?_<;>intro _
    refine ⟨by omega,by omega,?_⟩;refine aA hP ?_
    repeat' first|refine go ?_|decide|refine sp ?_ ?_<;>intro _
    refine ⟨rfl,⟨by omega,by omega⟩,?_⟩
    repeat' first|refine ge et ?_|decide|refine sp ?_ ?_<;>intro _
    refine aA (hfin _ rfl) ?_
    repeat' first|refine go ?_|decide|refine sp ?_ ?_<;>intro _
    refine ⟨rfl,?_⟩;refine cb (b:=0) (i:=1) (j:=6) (u:=u') (B:=B) (l:=[⟨(fF m c x).toArray⟩]) hPut htr (by simp [aa.gc]) (by simp [aa.gc]) (by simp [aa.gc]) (by decide) (fun p hp=>by cases hp) fun av u2=>?_;cases u2<;>(repeat' (first|refine ge (kf @eh @d9) ?_|decide|refine sp ?_ ?_<;>intro _))
    .exact ⟨oC 0 1 false (rC m c),_,⟨false,rfl,rfl⟩,⟨by simp,hltc false,by simp [aF]⟩,(wS [0,7] (kf @aE.eq_1 @aE.eq_2))⟩
    .exact ⟨oC 0 1 true (rC m c),_,⟨true,rfl,rfl⟩,⟨by simp,hltc true,by simp [aF]⟩,(wS [0,7] (kf @aE.eq_1 @aE.eq_2))⟩
   .have d2:decide (0<=x.const)=false:=K0 k2;have hT1:dE c x.const=[]:=by unfold dE;rw [KY k1,KY k2]
    have et:W=cI m c x:=by rw [hWs,hT1,Ln]
    repeat' first|refine ge (kf d1 d2) ?_|decide|refine sp ?_ ?_<;>intro _
    refine aA (hfin _ et) ?_
    repeat' first|refine go ?_|decide|refine sp ?_ ?_<;>intro _
    refine ⟨rfl,?_⟩;refine cb (b:=0) (i:=1) (j:=4) (u:=u') (B:=B) (l:=[⟨(fF m c x).toArray⟩]) hPut htr (by simp [aa.gc]) (by simp [aa.gc]) (by simp [aa.gc]) (by decide) (fun p hp=>by cases hp) fun av u2=>?_;cases u2<;>(repeat' (first|refine ge (kf @eh @d9) ?_|decide|refine sp ?_ ?_<;>intro _))
    .exact ⟨oC 0 1 false (rC m c),_,⟨false,rfl,rfl⟩,⟨by simp,hltc false,by simp [aF]⟩,(wS [0,5] (kf @aE.eq_1 @aE.eq_2))⟩
    .exact ⟨oC 0 1 true (rC m c),_,⟨true,rfl,rfl⟩,⟨by simp,hltc true,by simp [aF]⟩,(wS [0,5] (kf @aE.eq_1 @aE.eq_2))⟩
end
section
def aG (f:Nat -> List UInt8) (n:Nat):List UInt8:=(List.range n).flatMap f
theorem cZ (f:Nat -> List UInt8):aG f 0=[]:=rfl
theorem bJ (f:Nat -> List UInt8) (n:Nat):aG f (n+1)=aG f n ++ f n:=by simp [aG,LX]
theorem qC (f:Nat -> List UInt8) {a b:Nat} (h:a<=b):(aG f a).length<=(aG f b).length:=by
 induction b with
 | zero=>rw [show a=0 by omega];exact KW _
 | succ b ih=>
  by_cases hab:a=b+1
  .rw [hab];exact KW _
  .have:=ih (by omega);rw [bJ,f4];omega
theorem ca (f:Nat -> List UInt8) {k n:Nat} (h:k<n):(aG f k).length+(f k).length<=(aG f n).length:=by
 have:=qC f (show k+1<=n by omega);rw [bJ,f4] at this;exact this
theorem kP (m:aR) (c:List Int) (l:List ByteArray) (B T:List UInt8) (hl:l.length<=1000000) (hT:df l=T) (hB:B.length+T.length<=140737488355328):G5 Tryz.prog 61 (rC m c) l B (B ++ T):=by
 have h:=CN (rC m c) (s0 m c) (bn m c) l hl B (by rw [hT];exact hB);rw [hT] at h;exact h
instance:Inhabited dN:=⟨⟨0,0⟩⟩
def kR (z:Zn) (k:Nat):List UInt8:=if k=0 then [] else if z.gaps.length<k then [32,60,63,32] else [32,60] ++ Lib.itoa (z.gaps.getD (k - 1) 0) ++ [32]
def pB (m:aR) (c:List Int) (z:Zn) (k:Nat):List UInt8:=kR z k ++ fF m c (z.cls.getD k ⟨0,0⟩)
def kj (m:aR) (c:List Int) (z:Zn):List UInt8:=aG (pB m c z) z.cls.length
theorem H6 (m:aR) (c:List Int) (z:Zn) (hc:∀ n ∈ c,aq n) (hcl:c.length<=1000000) (hm:∀ s ∈ m.attrs,s.size<=60) (hz:z.cls.length<=1000000) (hg:∀ n ∈ z.gaps,aq n) (B:List UInt8) (hB:B.length+(kj m c z).length<=140737488340000):mn Tryz.prog 109 [.agg (bW z)] (rC m c) B (B ++ kj m c z):=fun u=>by
 obtain ⟨F,hF⟩:∃ F,F=pB m c z:=⟨_,rfl⟩;have hT:kj m c z=aG F z.cls.length:=by rw [hF];rfl
 rw [hT] at hB ⊢;refine cM (Post:=fun c' o=>∃ u',c'=oC 0 1 u' (rC m c) /\ o=[aO (B ++ aG F z.cls.length)]) ah Tryz.func109 rfl (by decide) Tryz.ntmps109 Tryz.results109 0 (.op 0 0 0) rfl (lD 0 0) iJ rfl (by kernel_rfl) ⟨(fC u).lt _,by show 1<2;omega,be (bn m c)⟩ (by simp [AV.ltL,AV.lt]) (by simp [aF]) ?_;have htr:=bn m c;have hl2:∀ n,AV.ltL n (rC m c)=True:=fun n=>eq_true (be (bn m c));have hltc:∀ b:Bool,AV.ltL 2 (oC 0 1 b (rC m c)):=fun b=>⟨(fC b).lt 1,by show 1<2;omega,be (bn m c)⟩;have hz0:B ++ aG F 0=B:=by rw [cZ,Ln]
 repeat' first|refine go ?_|simp only [aE]|decide|refine sp ?_ ?_<;>intro _
 refine af (fun st=>∃ (k:Nat) (u':Bool),k<=z.cls.length /\ st=⟨44,[(0,.op 0 0 0),(3,.op 2 0 0),(7,.sl 2 (z.cls.map bR)),(8,eI (z.cls.length:Int)),(9,eI (k:Int))],[(0,some (.box 135 (oC 0 1 u' (rC m c)))),(1,some (aO (B ++ aG F k))),(2,some (.box 60 (bW z)))],3⟩) (fun st=>z.cls.length - ap st 9) ⟨_,by cases u<;>exact (wS [0,1,2] hz0),0,u,KR _,rfl⟩ ?_;rintro _ ⟨k,u',hk,rfl⟩;by_cases hlt:k<z.cls.length
 .obtain ⟨x,hx⟩:∃ x,x=z.cls[k]:=⟨_,rfl⟩;have hrx:(z.cls.map bR)[k]?.getD []=bR x:=by rw [hx];simp [hlt]
  have hFk:F k=kR z k ++ fF m c x:=by rw [hF,hx];simp [pB,KP,hlt]
  have hst:=ca F hlt;have hsu:=bJ F k;rw [hFk,f4] at hst;rw [hFk] at hsu;have hC:∀ B':List UInt8,B'.length<=140737488350000 -> mn Tryz.prog 144 [.agg (bR x)] (rC m c) B' (B' ++ fF m c x):=fun B' h=>EU m c x hc hcl hm B' h;have hlB:(B ++ aG F k).length=B.length+(aG F k).length:=f4;by_cases h0:k=0
  .have d0:((k:Int) == 0)=true:=(by simpa using h0);have hg0:kR z k=[]:=K5 h0;have eB:B ++ aG F k ++ fF m c x=B ++ aG F (k+1):=(by rw [hsu,hg0,LT,KZ])
   repeat' first|refine ge (kf @hlt (kf @hrx d0)) ?_|decide|refine sp ?_ ?_<;>intro _
   refine dP (b:=0) (i:=1) (u:=u') (B:=B ++ aG F k) (hC _ (by omega)) htr (by simp [gb,iv,bu,b7]) (by simp [aa.gc]) (by simp [aa.gc]) (by decide) (fun p hp=>by cases hp) fun av u2=>?_
   repeat' first|refine go ?_|decide|refine sp ?_ ?_<;>intro _
   cases u2
   .exact rI (wS [0,4,2] eB) ⟨k+1,false,by omega,rfl⟩
   .exact rI (wS [0,4,2] eB) ⟨k+1,true,by omega,rfl⟩
  .have d0:((k:Int) == 0)=false:=(by simpa using h0);by_cases h1:z.gaps.length<k
   .have hg0:kR z k=[32,60,63,32]:=by unfold kR;rw [KY h0,K5 h1]
    have eB:B ++ aG F k ++ [32,60,63,32] ++ fF m c x=B ++ aG F (k+1):=(by rw [hsu,hg0,KZ,KZ]);rw [hg0] at hst
    repeat' first|refine ge (kf @hlt (kf @hrx (kf d0 h1))) ?_|decide|refine sp ?_ ?_<;>intro _
    refine ⟨rfl,?_⟩;refine cb (b:=0) (i:=1) (j:=4) (u:=u') (B:=B ++ aG F k) (kP m c [⟨#[32,60,63,32]⟩] _ [32,60,63,32] (by decide) (by rfl) (by first|omega|(simp only [f4,KU,K3];omega))) htr (by simp [aa.gc]) (by simp [aa.gc]) (by simp [aa.gc]) (by decide) (fun p hp=>by cases hp) fun av u2=>?_
    repeat' first|refine go ?_|decide|refine sp ?_ ?_<;>intro _
    refine dP (b:=0) (i:=5) (u:=u2) (B:=B ++ aG F k ++ [32,60,63,32]) (hC _ (by simp only [f4,KU,K3] at hst ⊢;omega)) htr (by simp [gb,iv,bu,b7]) (by simp [aa.gc]) (by simp [aa.gc]) (by decide) (fun p hp=>by cases hp) fun av u2=>?_
    repeat' first|refine go ?_|decide|refine sp ?_ ?_<;>intro _
    cases u2
    .exact rI (wS [0,6,2] eB) ⟨k+1,false,by omega,rfl⟩
    .exact rI (wS [0,6,2] eB) ⟨k+1,true,by omega,rfl⟩
   .obtain ⟨g,hgx⟩:∃ g,g=z.gaps[k - 1]'(by omega):=⟨_,rfl⟩;have hrg:(z.gaps.map fun n=>[eI n])[k - 1]?.getD []=[eI g]:=by rw [hgx];simp [show k - 1<z.gaps.length by omega]
    have hwk:IntKind.i64.wrap ((k:Int) - 1)=((k - 1:Nat):Int):=by rw [ay (by omega) (by omega)];omega
    have hgo:aq g:=by rw [hgx];exact hg _ (KQ _)
    have hN:∀ B':List UInt8,B'.length<=140737488355000 -> mn Tryz.prog 62 [eI g] (rC m c) B' (B' ++ Lib.itoa g):=fun B' h=>ou m c g hgo B' h;have hg0:kR z k=[32,60] ++ Lib.itoa g ++ [32]:=by unfold kR;rw [KY h0,KY h1,hgx,KP,KN (by omega)];rfl
    have eB:B ++ aG F k ++ [32,60] ++ Lib.itoa g ++ [32] ++ fF m c x=B ++ aG F (k+1):=by rw [hsu,hg0];simp only [KZ]
    rw [hg0] at hst;simp only [f4,KU,K3] at hst
    repeat' first|refine ge (kf @hlt (kf @hrx (kf d0 h1))) ?_|decide|refine sp ?_ ?_<;>intro _
    refine ⟨rfl,?_⟩;refine cb (b:=0) (i:=1) (j:=4) (u:=u') (B:=B ++ aG F k) (kP m c [⟨#[32,60]⟩] _ [32,60] (by decide) (by rfl) (by first|omega|(simp only [f4,KU,K3];omega))) htr (by simp [aa.gc]) (by simp [aa.gc]) (by simp [aa.gc]) (by decide) (fun p hp=>by cases hp) fun av u2=>?_
    repeat' first|refine ge (kf @hwk (kf @hrg @L9)) ?_|decide|refine sp ?_ ?_<;>intro _
    refine ⟨by omega,?_⟩;refine dP (b:=0) (i:=5) (u:=u2) (B:=B ++ aG F k ++ [32,60]) (hN _ (by simp only [f4,KU,K3];omega)) htr (by simp [gb,iv,bu,b7]) (by simp [aa.gc]) (by simp [aa.gc]) (by decide) (fun p hp=>by cases hp) fun av u3=>?_
    repeat' first|refine go ?_|decide|refine sp ?_ ?_<;>intro _
    refine ⟨rfl,?_⟩;refine cb (b:=0) (i:=6) (j:=7) (u:=u3) (B:=B ++ aG F k ++ [32,60] ++ Lib.itoa g) (kP m c [⟨#[32]⟩] _ [32] (by decide) (by rfl) (by first|omega|(simp only [f4,KU,K3];omega))) htr (by simp [aa.gc]) (by simp [aa.gc]) (by simp [aa.gc]) (by decide) (fun p hp=>by cases hp) fun av u4=>?_
    repeat' first|refine go ?_|decide|refine sp ?_ ?_<;>intro _
    refine dP (b:=0) (i:=8) (u:=u4) (B:=B ++ aG F k ++ [32,60] ++ Lib.itoa g ++ [32]) (hC _ (by simp only [f4,KU,K3];omega)) htr (by simp [gb,iv,bu,b7]) (by simp [aa.gc]) (by simp [aa.gc]) (by decide) (fun p hp=>by cases hp) fun av u5=>?_
    repeat' first|refine go ?_|decide|refine sp ?_ ?_<;>intro _
    cases u5
    .exact rI (wS [0,9,2] eB) ⟨k+1,false,by omega,rfl⟩
    .exact rI (wS [0,9,2] eB) ⟨k+1,true,by omega,rfl⟩
 .obtain rfl:k=z.cls.length:=by omega
  cases u'<;>(repeat' (first|refine ge (kf @hlt (kf @eh @d9)) ?_|decide|refine sp ?_ ?_<;>intro _))
  .exact ⟨oC 0 1 false (rC m c),_,⟨false,rfl,rfl⟩,⟨by simp,hltc false,by simp [aF]⟩,(wS [0,1] (kf @aE.eq_1 @aE.eq_2))⟩
  .exact ⟨oC 0 1 true (rC m c),_,⟨true,rfl,rfl⟩,⟨by simp,hltc true,by simp [aF]⟩,(wS [0,1] (kf @aE.eq_1 @aE.eq_2))⟩
end
end
section
section
abbrev jG (m:aR):List ByteArray:=m.stages.map (·.1)
abbrev jq (m:aR):List ByteArray:=m.miles.map (·.name)
abbrev fj (m:aR):List ByteArray:=m.events.map (·.name)
def kX (p:List UInt8) (w:List ByteArray) (l:List Nat) (k:Nat):List UInt8:=p ++ (aC w ((l.getD k 0:Nat):Int)).data.toList
def DT (m:aR) (e:Nat) (l:List Nat) (k:Nat):List UInt8:=[32,100,105,100,32] ++ (aC m.users ((l.getD k 0:Nat):Int)).data.toList ++ [32] ++ (aC (fj m) (e:Int)).data.toList
def ri (m:aR) (l:List Int) (e:Nat):List UInt8:=aG (DT m e (cr (l.getD e 0) 31)) (cr (l.getD e 0) 31).length
def uE (m:aR) (l:List Int) (e:Nat):List UInt8:=if l.getD e 0=0 then [] else [32,99,111,117,110,116,32] ++ (aC (fj m) (e:Int)).data.toList ++ [32] ++ Lib.itoa (l.getD e 0)
def qw (m:aR) (n:Nd):List UInt8:=aG (kX [32,111,112,101,110,32] (jG m) (cr n.opn 31)) (cr n.opn 31).length
def rh (m:aR) (n:Nd):List UInt8:=aG (kX [32,100,111,110,101,32] (jq m) (cr n.don 31)) (cr n.don 31).length
def Dt (m:aR) (n:Nd):List UInt8:=aG (ri m n.did) n.did.length
def AR (m:aR) (n:Nd):List UInt8:=aG (uE m n.cnt) n.cnt.length
def cK (m:aR) (c:List Int) (n:Nd):List UInt8:=qw m n ++ rh m n ++ Dt m n ++ AR m n ++ [32,122,111,110,101,32] ++ kj m c n.z
theorem rz {w:List ByteArray} {i:Nat} (h:i<w.length):aC w (i:Int)=w[i]:=by
 unfold aC;rw [K5 ⟨by omega,by omega⟩,L9,KN h];rfl
theorem uT (m:aR) (c:List Int) (k:Nat):zc Tryz.prog 108 [eI (k:Int)] (rC m c) (.string (aC (fj m) (k:Int))):=tY m c (k:Int)
theorem pU {w:List ByteArray} {i:Nat} (h:¬ i<w.length):aC w (i:Int)=fI:=KY (by omega)
theorem CU (m:aR) (c:List Int) (n:Nd) (hc:∀ n ∈ c,aq n) (hcl:c.length<=1000000) (hm:∀ s ∈ m.attrs,s.size<=60) (hz:n.z.cls.length<=1000000) (hg:∀ x ∈ n.z.gaps,aq x) (hdl:n.did.length<=1000000) (hcn:n.cnt.length<=1000000) (hct:∀ x ∈ n.cnt,aq x) (B:List UInt8) (hB:B.length+(cK m c n).length<=140737488330000):mn Tryz.prog 63 [.agg (dX n)] (rC m c) B (B ++ cK m c n):=fun u=>by
 obtain ⟨TA,hTA⟩:∃ T,T=qw m n:=⟨_,rfl⟩;obtain ⟨TB,hTB⟩:∃ T,T=rh m n:=⟨_,rfl⟩;obtain ⟨TC,hTC⟩:∃ T,T=Dt m n:=⟨_,rfl⟩;obtain ⟨TD,hTD⟩:∃ T,T=AR m n:=⟨_,rfl⟩;obtain ⟨TZ,hTZ⟩:∃ T,T=kj m c n.z:=⟨_,rfl⟩;have hT:cK m c n=TA ++ TB ++ TC ++ TD ++ [32,122,111,110,101,32] ++ TZ:=by rw [hTA,hTB,hTC,hTD,hTZ];rfl
 have eE:B ++ TA ++ TB ++ TC ++ TD ++ [32,122,111,110,101,32] ++ TZ=B ++ (TA ++ TB ++ TC ++ TD ++ [32,122,111,110,101,32] ++ TZ):=by simp only [KZ]
 rw [hT] at hB ⊢;rw [<- eE];simp only [f4,KU,K3] at hB;have htr:=bn m c;refine cM (Post:=fun c' o=>∃ u',c'=oC 0 1 u' (rC m c) /\ o=[aO (B ++ TA ++ TB ++ TC ++ TD ++ [32,122,111,110,101,32] ++ TZ)]) ah Tryz.func63 rfl (by decide) Tryz.ntmps63 Tryz.results63 0 (.op 0 0 0) rfl (lD 0 0) iJ rfl (by kernel_rfl) ⟨(fC u).lt _,by show 1<2;omega,be (bn m c)⟩ (by simp [AV.ltL,AV.lt]) (by simp [aF]) ?_;have hl2:∀ n,AV.ltL n (rC m c)=True:=fun n=>eq_true (be (bn m c));have hltc:∀ b:Bool,AV.ltL 2 (oC 0 1 b (rC m c)):=fun b=>⟨(fC b).lt 1,by show 1<2;omega,be (bn m c)⟩;have hsh:∀ (l:List Nat) k,(pE l).shift k=pE l:=fun _ _=>rfl;have hLA:=ic n.opn;have hLB:=ic n.don;have hla:=dH n.opn 31;have hlb:=dH n.don 31;obtain ⟨la,hla'⟩:∃ l,l=cr n.opn 31:=⟨_,rfl⟩;obtain ⟨lb,hlb'⟩:∃ l,l=cr n.don 31:=⟨_,rfl⟩;rw [<- hla'] at hLA hla;rw [<- hlb'] at hLB hlb;have hTA2:TA=aG (kX [32,111,112,101,110,32] (jG m) la) la.length:=by rw [hTA,hla'];rfl
 have hTB2:TB=aG (kX [32,100,111,110,101,32] (jq m) lb) lb.length:=by rw [hTB,hlb'];rfl
 repeat' first|refine go ?_|simp only [aE]|decide|refine sp ?_ ?_<;>intro _
 refine dU hLA (ro) ?_
 repeat' first|refine ge @hsh ?_|decide|refine sp ?_ ?_<;>intro _
 obtain ⟨FA,hFA⟩:∃ F,F=kX [32,111,112,101,110,32] (jG m) la:=⟨_,rfl⟩;have hzA:B ++ aG FA 0=B:=by rw [cZ,Ln]
 have heA:TA=aG FA la.length:=by rw [hFA];exact hTA2
 refine af (fun st=>∃ (k:Nat) (u':Bool),k<=la.length /\ st=⟨129,[(0,.op 0 0 0),(3,.op 2 0 0),(18,pE la),(19,eI (la.length:Int)),(20,eI (k:Int))],[(0,some (.box 135 (oC 0 1 u' (rC m c)))),(1,some (aO (B ++ aG FA k))),(2,some (.box 62 (dX n)))],3⟩) (fun st=>la.length - ap st 20) ⟨_,by cases u<;>exact (wS [0,1,2] @hzA),0,u,KR _,rfl⟩ ?_;rintro _ ⟨k,u',hk,rfl⟩;by_cases hlt:k<la.length
 .obtain ⟨i,hi⟩:∃ i,i=la[k]:=⟨_,rfl⟩;have hri:(la.map fun n:Nat=>[eI (n:Int)])[k]?.getD []=[eI (i:Int)]:=by rw [hi];simp [hlt]
  have hFk:FA k=[32,111,112,101,110,32] ++ (aC (jG m) (i:Int)).data.toList:=by rw [hFA,hi];simp [kX,KP,hlt]
  have hst:=ca FA hlt;have hsu:=bJ FA k;rw [<- heA,hFk] at hst;rw [hFk] at hsu;simp only [f4,KU,K3] at hst;by_cases hin:i<m.stages.length
  .obtain ⟨y,hy⟩:∃ y,y=m.stages[i]:=⟨_,rfl⟩;have hry:(m.stages.map CK)[i]?.getD []=CK y:=by rw [hy];simp [hin]
   have hwy:aC (jG m) (i:Int)=y.1:=by rw [rz (by simpa using hin),hy];simp
   rw [hwy] at hst hsu;have eB:B ++ aG FA k ++ (32 :: 111 :: 112 :: 101 :: 110 :: 32 :: y.1.data.toList)=B ++ aG FA (k+1):=by rw [hsu,KZ];rfl
   repeat' first|refine ge (kf @hlt (kf @hri (kf @hin @hry))) ?_|decide|refine sp ?_ ?_<;>intro _
   refine ⟨rfl,?_⟩;refine cb (b:=0) (i:=1) (j:=3) (u:=u') (B:=B ++ aG FA k) (kP m c [⟨#[32,111,112,101,110,32]⟩,y.1] _ (32 :: 111 :: 112 :: 101 :: 110 :: 32 :: y.1.data.toList) (by simp) (by first|rfl|simp [df,KZ]) (by simp only [f4,KU,K3];omega)) htr (by simp [aa.gc]) (by simp [aa.gc]) (by simp [aa.gc]) (by decide) (fun p hp=>by cases hp) fun av u2=>?_
   repeat' first|refine go ?_|decide|refine sp ?_ ?_<;>intro _
   cases u2
   .exact rI (wS [0,4,2] eB) ⟨k+1,false,by omega,rfl⟩
   .exact rI (wS [0,4,2] eB) ⟨k+1,true,by omega,rfl⟩
  .have hwy:(aC (jG m) (i:Int)).data.toList=[63]:=by rw [pU (by simpa using hin)];rfl
   rw [hwy] at hst hsu;simp only [KU,K3] at hst;have eB:B ++ aG FA k ++ [32,111,112,101,110,32,63]=B ++ aG FA (k+1):=by rw [hsu,KZ];rfl
   repeat' first|refine ge (kf @hlt (kf @hri @hin)) ?_|decide|refine sp ?_ ?_<;>intro _
   refine ⟨rfl,?_⟩;refine cb (b:=0) (i:=1) (j:=3) (u:=u') (B:=B ++ aG FA k) (kP m c [⟨#[32,111,112,101,110,32]⟩,⟨#[63]⟩] _ ([32,111,112,101,110,32,63]) (by simp) (by first|rfl|simp [df,KZ]) (by simp only [f4,KU,K3];omega)) htr (by simp [aa.gc]) (by simp [aa.gc]) (by simp [aa.gc]) (by decide) (fun p hp=>by cases hp) fun av u2=>?_
   repeat' first|refine go ?_|decide|refine sp ?_ ?_<;>intro _
   cases u2
   .exact rI (wS [0,4,2] eB) ⟨k+1,false,by omega,rfl⟩
   .exact rI (wS [0,4,2] eB) ⟨k+1,true,by omega,rfl⟩
 obtain rfl:k=la.length:=by omega
 rw [<- heA];clear hzA heA hFA
 repeat' first|refine ge @hlt ?_|decide|refine sp ?_ ?_<;>intro _
 refine dU hLB (ro) ?_
 repeat' first|refine ge @hsh ?_|decide|refine sp ?_ ?_<;>intro _
 obtain ⟨FB,hFB⟩:∃ F,F=kX [32,100,111,110,101,32] (jq m) lb:=⟨_,rfl⟩;have hzB:B ++ TA ++ aG FB 0=B ++ TA:=by rw [cZ,Ln]
 have heB:TB=aG FB lb.length:=by rw [hFB];exact hTB2
 refine af (fun st=>∃ (k:Nat) (u':Bool),k<=lb.length /\ st=⟨129,[(0,.op 0 0 0),(3,.op 2 0 0),(48,pE lb),(49,eI (lb.length:Int)),(50,eI (k:Int))],[(0,some (.box 135 (oC 0 1 u' (rC m c)))),(1,some (aO (B ++ TA ++ aG FB k))),(2,some (.box 62 (dX n)))],3⟩) (fun st=>lb.length - ap st 50) ⟨_,by cases u'<;>exact (wS [0,1,2] @hzB),0,u',KR _,rfl⟩ ?_;rintro _ ⟨k,u',hk,rfl⟩;by_cases hlt:k<lb.length
 .obtain ⟨i,hi⟩:∃ i,i=lb[k]:=⟨_,rfl⟩;have hri:(lb.map fun n:Nat=>[eI (n:Int)])[k]?.getD []=[eI (i:Int)]:=by rw [hi];simp [hlt]
  have hFk:FB k=[32,100,111,110,101,32] ++ (aC (jq m) (i:Int)).data.toList:=by rw [hFB,hi];simp [kX,KP,hlt]
  have hst:=ca FB hlt;have hsu:=bJ FB k;rw [<- heB,hFk] at hst;rw [hFk] at hsu;simp only [f4,KU,K3] at hst;by_cases hin:i<m.miles.length
  .obtain ⟨y,hy⟩:∃ y,y=m.miles[i]:=⟨_,rfl⟩;have hry:(m.miles.map tj)[i]?.getD []=tj y:=by rw [hy];simp [hin]
   have hwy:aC (jq m) (i:Int)=y.name:=by rw [rz (by simpa using hin),hy];simp
   rw [hwy] at hst hsu;have eB:B ++ TA ++ aG FB k ++ (32 :: 100 :: 111 :: 110 :: 101 :: 32 :: y.name.data.toList)=B ++ TA ++ aG FB (k+1):=by rw [hsu,KZ];rfl
   repeat' first|refine ge (kf @hlt (kf @hri (kf @hin @hry))) ?_|decide|refine sp ?_ ?_<;>intro _
   refine ⟨rfl,?_⟩;refine cb (b:=0) (i:=1) (j:=3) (u:=u') (B:=B ++ TA ++ aG FB k) (kP m c [⟨#[32,100,111,110,101,32]⟩,y.name] _ (32 :: 100 :: 111 :: 110 :: 101 :: 32 :: y.name.data.toList) (by simp) (by first|rfl|simp [df,KZ]) (by simp only [f4,KU,K3];omega)) htr (by simp [aa.gc]) (by simp [aa.gc]) (by simp [aa.gc]) (by decide) (fun p hp=>by cases hp) fun av u2=>?_
   repeat' first|refine go ?_|decide|refine sp ?_ ?_<;>intro _
   cases u2
   .exact rI (wS [0,4,2] eB) ⟨k+1,false,by omega,rfl⟩
   .exact rI (wS [0,4,2] eB) ⟨k+1,true,by omega,rfl⟩
  .have hwy:(aC (jq m) (i:Int)).data.toList=[63]:=by rw [pU (by simpa using hin)];rfl
   rw [hwy] at hst hsu;simp only [KU,K3] at hst;have eB:B ++ TA ++ aG FB k ++ [32,100,111,110,101,32,63]=B ++ TA ++ aG FB (k+1):=by rw [hsu,KZ];rfl
   repeat' first|refine ge (kf @hlt (kf @hri @hin)) ?_|decide|refine sp ?_ ?_<;>intro _
   refine ⟨rfl,?_⟩;refine cb (b:=0) (i:=1) (j:=3) (u:=u') (B:=B ++ TA ++ aG FB k) (kP m c [⟨#[32,100,111,110,101,32]⟩,⟨#[63]⟩] _ ([32,100,111,110,101,32,63]) (by simp) (by first|rfl|simp [df,KZ]) (by simp only [f4,KU,K3];omega)) htr (by simp [aa.gc]) (by simp [aa.gc]) (by simp [aa.gc]) (by decide) (fun p hp=>by cases hp) fun av u2=>?_
   repeat' first|refine go ?_|decide|refine sp ?_ ?_<;>intro _
   cases u2
   .exact rI (wS [0,4,2] eB) ⟨k+1,false,by omega,rfl⟩
   .exact rI (wS [0,4,2] eB) ⟨k+1,true,by omega,rfl⟩
 obtain rfl:k=lb.length:=by omega
 rw [<- heB];clear hzB heB hFB
 repeat' first|refine ge @hlt ?_|decide|refine sp ?_ ?_<;>intro _
 obtain ⟨FC,hFC⟩:∃ F,F=ri m n.did:=⟨_,rfl⟩;have hzC:B ++ TA ++ TB ++ aG FC 0=B ++ TA ++ TB:=by rw [cZ,Ln]
 have heC:TC=aG FC n.did.length:=by rw [hFC];exact hTC
 refine af (fun st=>∃ (k:Nat) (u':Bool),k<=n.did.length /\ st=⟨129,[(0,.op 0 0 0),(3,.op 2 0 0),(77,sI n.did),(78,eI (n.did.length:Int)),(79,eI (k:Int))],[(0,some (.box 135 (oC 0 1 u' (rC m c)))),(1,some (aO (B ++ TA ++ TB ++ aG FC k))),(2,some (.box 62 (dX n)))],3⟩) (fun st=>n.did.length - ap st 79) ⟨_,by cases u'<;>exact (wS [0,1,2] @hzC),0,u',KR _,rfl⟩ ?_;rintro _ ⟨k,u',hk,rfl⟩;by_cases hlt:k<n.did.length
 .obtain ⟨s,hs⟩:∃ s,s=n.did[k]:=⟨_,rfl⟩;have hrs:(n.did.map fun n=>[eI n])[k]?.getD []=[eI s]:=by rw [hs];simp [hlt]
  have hLC:=ic s;have hlc:=dH s 31;obtain ⟨lc,hlc'⟩:∃ l,l=cr s 31:=⟨_,rfl⟩;rw [<- hlc'] at hLC hlc;obtain ⟨G,hG⟩:∃ G,G=DT m k lc:=⟨_,rfl⟩;have hFk:FC k=aG G lc.length:=by rw [hFC,hG,hlc',hs];simp [ri,KP,hlt]
  have hst:=ca FC hlt;have hsu:=bJ FC k;rw [<- heC,hFk] at hst;rw [hFk] at hsu;have hzG:B ++ TA ++ TB ++ aG FC k ++ aG G 0=B ++ TA ++ TB ++ aG FC k:=by rw [cZ,Ln]
  have eC:B ++ TA ++ TB ++ aG FC k ++ aG G lc.length=B ++ TA ++ TB ++ aG FC (k+1):=by rw [hsu,KZ (B ++ TA ++ TB)]
  have hV:=uT m c k
  repeat' first|refine ge (kf @hlt @hrs) ?_|decide|refine sp ?_ ?_<;>intro _
  refine dU hLC (ro) ?_
  repeat' first|refine ge @hsh ?_|decide|refine sp ?_ ?_<;>intro _
  refine af (fun st=>∃ (q:Nat) (u':Bool),q<=lc.length /\ st=⟨129,[(0,.op 0 0 0),(3,.op 2 0 0),(77,sI n.did),(78,eI (n.did.length:Int)),(79,eI (k:Int)),(10,eI (k:Int)),(85,pE lc),(86,eI (lc.length:Int)),(87,eI (q:Int))],[(0,some (.box 135 (oC 0 1 u' (rC m c)))),(1,some (aO (B ++ TA ++ TB ++ aG FC k ++ aG G q))),(2,some (.box 62 (dX n)))],3⟩) (fun st=>lc.length - ap st 87) ⟨_,by cases u'<;>exact (wS [0,1,2] @hzG),0,u',KR _,rfl⟩ ?_;rintro _ ⟨q,u',hq,rfl⟩;by_cases hlq:q<lc.length
  .obtain ⟨i,hi⟩:∃ i,i=lc[q]:=⟨_,rfl⟩;have hri:(lc.map fun n:Nat=>[eI (n:Int)])[q]?.getD []=[eI (i:Int)]:=by rw [hi];simp [hlq]
   have hU:=BR m c (i:Int);have hGq:G q=[32,100,105,100,32] ++ (aC m.users (i:Int)).data.toList ++ [32] ++ (aC (fj m) (k:Int)).data.toList:=by rw [hG,hi];simp [DT,KP,hlq]
   have hst2:=ca G hlq;have hsu2:=bJ G q;rw [hGq] at hst2 hsu2;simp only [f4,KU,K3] at hst2;obtain ⟨wu,hwu⟩:∃ w,w=aC m.users (i:Int):=⟨_,rfl⟩;obtain ⟨we,hwe⟩:∃ w,w=aC (fj m) (k:Int):=⟨_,rfl⟩;rw [<- hwu] at hU;rw [<- hwe] at hV;rw [<- hwu,<- hwe] at hst2 hsu2;have eB:B ++ TA ++ TB ++ aG FC k ++ aG G q ++ (32 :: 100 :: 105 :: 100 :: 32 :: (wu.data.toList ++ 32 :: we.data.toList))=B ++ TA ++ TB ++ aG FC k ++ aG G (q+1):=by rw [hsu2,KZ _ (aG G q)];simp [KZ]
   repeat' first|refine ge (kf @hlq @hri) ?_|decide|refine sp ?_ ?_<;>intro _
   refine iO (b:=0) (i:=1) (u:=u') (B:=B ++ TA ++ TB ++ aG FC k ++ aG G q) hU htr (by simp [gb,iv]) (by simp [aa.gc]) (by simp [aa.gc]) (by decide) (fun p hp=>by cases hp) ?_
   repeat' first|refine go ?_|decide|refine sp ?_ ?_<;>intro _
   refine iO (b:=0) (i:=3) (u:=u') (B:=B ++ TA ++ TB ++ aG FC k ++ aG G q) hV htr (by simp [gb,iv]) (by simp [aa.gc]) (by simp [aa.gc]) (by decide) (fun p hp=>by cases hp) ?_
   repeat' first|refine go ?_|decide|refine sp ?_ ?_<;>intro _
   refine ⟨rfl,?_⟩;refine cb (b:=0) (i:=4) (j:=5) (u:=u') (B:=B ++ TA ++ TB ++ aG FC k ++ aG G q) (kP m c [⟨#[32,100,105,100,32]⟩,wu,⟨#[32]⟩,we] _ (32 :: 100 :: 105 :: 100 :: 32 :: (wu.data.toList ++ 32 :: we.data.toList)) (by simp) (by first|rfl|simp [df,KZ]) (by simp only [f4,KU,K3];omega)) htr (by simp [aa.gc]) (by simp [aa.gc]) (by simp [aa.gc]) (by decide) (fun p hp=>by cases hp) fun av u2=>?_
   repeat' first|refine go ?_|decide|refine sp ?_ ?_<;>intro _
   cases u2
   .exact rI (wS [0,6,2] eB) ⟨q+1,false,by omega,rfl⟩
   .exact rI (wS [0,6,2] eB) ⟨q+1,true,by omega,rfl⟩
  .obtain rfl:q=lc.length:=by omega
   repeat' first|refine ge @hlq ?_|decide|refine sp ?_ ?_<;>intro _
   cases u'
   .exact rI (wS [0,1,2] eC) ⟨k+1,false,by omega,rfl⟩
   .exact rI (wS [0,1,2] eC) ⟨k+1,true,by omega,rfl⟩
 obtain rfl:k=n.did.length:=by omega
 rw [<- heC];clear hzC heC hFC
 repeat' first|refine ge @hlt ?_|decide|refine sp ?_ ?_<;>intro _
 obtain ⟨FD,hFD⟩:∃ F,F=uE m n.cnt:=⟨_,rfl⟩;have hzD:B ++ TA ++ TB ++ TC ++ aG FD 0=B ++ TA ++ TB ++ TC:=by rw [cZ,Ln]
 have heD:TD=aG FD n.cnt.length:=by rw [hFD];exact hTD
 refine af (fun st=>∃ (k:Nat) (u':Bool),k<=n.cnt.length /\ st=⟨129,[(0,.op 0 0 0),(3,.op 2 0 0),(103,sI n.cnt),(104,eI (n.cnt.length:Int)),(105,eI (k:Int))],[(0,some (.box 135 (oC 0 1 u' (rC m c)))),(1,some (aO (B ++ TA ++ TB ++ TC ++ aG FD k))),(2,some (.box 62 (dX n)))],3⟩) (fun st=>n.cnt.length - ap st 105) ⟨_,by cases u'<;>exact (wS [0,1,2] @hzD),0,u',KR _,rfl⟩ ?_;rintro _ ⟨k,u',hk,rfl⟩;by_cases hlt:k<n.cnt.length
 .obtain ⟨x,hx⟩:∃ x,x=n.cnt[k]:=⟨_,rfl⟩;have hrx:(n.cnt.map fun n=>[eI n])[k]?.getD []=[eI x]:=by rw [hx];simp [hlt]
  have hxo:aq x:=by rw [hx];exact hct _ (KQ _)
  have hxd:n.cnt.getD k 0=x:=by rw [hx];simp [KP,hlt]
  have hst:=ca FD hlt;have hsu:=bJ FD k;rw [<- heD] at hst;by_cases h0:x=0
  .have hFk:FD k=[]:=by rw [hFD];unfold uE;rw [K5 (by rw [hxd];exact h0)]
   have d0:(x != 0)=false:=(by simpa using h0);have eB:B ++ TA ++ TB ++ TC ++ aG FD k=B ++ TA ++ TB ++ TC ++ aG FD (k+1):=(by rw [hsu,hFk,Ln])
   repeat' first|refine ge (kf @hlt (kf @hrx d0)) ?_|decide|refine sp ?_ ?_<;>intro _
   cases u'
   .exact rI (wS [0,1,2] eB) ⟨k+1,false,by omega,rfl⟩
   .exact rI (wS [0,1,2] eB) ⟨k+1,true,by omega,rfl⟩
  .have hFk:FD k=[32,99,111,117,110,116,32] ++ (aC (fj m) (k:Int)).data.toList ++ [32] ++ Lib.itoa x:=by rw [hFD];unfold uE;rw [KY (by rw [hxd];exact h0),hxd]
   have d0:(x != 0)=true:=(by simpa using h0);have hV:=uT m c k;have hN:∀ B':List UInt8,B'.length<=140737488355000 -> mn Tryz.prog 62 [eI x] (rC m c) B' (B' ++ Lib.itoa x):=fun B' h=>ou m c x hxo B' h;obtain ⟨we,hwe⟩:∃ w,w=aC (fj m) (k:Int):=⟨_,rfl⟩;rw [<- hwe] at hV;rw [hFk,<- hwe] at hst hsu;simp only [f4,KU,K3] at hst;have eB:B ++ TA ++ TB ++ TC ++ aG FD k ++ (32 :: 99 :: 111 :: 117 :: 110 :: 116 :: 32 :: (we.data.toList ++ [32])) ++ Lib.itoa x=B ++ TA ++ TB ++ TC ++ aG FD (k+1):=by rw [hsu];simp [KZ]
   repeat' first|refine ge (kf @hlt (kf @hrx d0)) ?_|decide|refine sp ?_ ?_<;>intro _
   refine iO (b:=0) (i:=1) (u:=u') (B:=B ++ TA ++ TB ++ TC ++ aG FD k) hV htr (by simp [gb,iv]) (by simp [aa.gc]) (by simp [aa.gc]) (by decide) (fun p hp=>by cases hp) ?_
   repeat' first|refine go ?_|decide|refine sp ?_ ?_<;>intro _
   refine ⟨rfl,?_⟩;refine cb (b:=0) (i:=3) (j:=4) (u:=u') (B:=B ++ TA ++ TB ++ TC ++ aG FD k) (kP m c [⟨#[32,99,111,117,110,116,32]⟩,we,⟨#[32]⟩] _ (32 :: 99 :: 111 :: 117 :: 110 :: 116 :: 32 :: (we.data.toList ++ [32])) (by simp) (by first|rfl|simp [df,KZ]) (by simp only [f4,KU,K3];omega)) htr (by simp [aa.gc]) (by simp [aa.gc]) (by simp [aa.gc]) (by decide) (fun p hp=>by cases hp) fun av u2=>?_
   repeat' first|refine go ?_|decide|refine sp ?_ ?_<;>intro _
   refine dP (b:=0) (i:=5) (u:=u2) (B:=B ++ TA ++ TB ++ TC ++ aG FD k ++ (32 :: 99 :: 111 :: 117 :: 110 :: 116 :: 32 :: (we.data.toList ++ [32]))) (hN _ (by simp only [f4,KU,K3];omega)) htr (by simp [gb,iv,bu,b7]) (by simp [aa.gc]) (by simp [aa.gc]) (by decide) (fun p hp=>by cases hp) fun av u3=>?_
   repeat' first|refine go ?_|decide|refine sp ?_ ?_<;>intro _
   cases u3
   .exact rI (wS [0,6,2] eB) ⟨k+1,false,by omega,rfl⟩
   .exact rI (wS [0,6,2] eB) ⟨k+1,true,by omega,rfl⟩
 obtain rfl:k=n.cnt.length:=by omega
 rw [<- heD];clear hzD heD hFD
 repeat' first|refine ge @hlt ?_|decide|refine sp ?_ ?_<;>intro _
 refine ⟨rfl,?_⟩;refine cb (b:=0) (i:=1) (j:=3) (u:=u') (B:=B ++ TA ++ TB ++ TC ++ TD) (kP m c [⟨#[32,122,111,110,101,32]⟩] _ ([32,122,111,110,101,32]) (by simp) (by first|rfl|simp [df,KZ]) (by simp only [f4,KU,K3];omega)) htr (by simp [aa.gc]) (by simp [aa.gc]) (by simp [aa.gc]) (by decide) (fun p hp=>by cases hp) fun av u2=>?_
 repeat' first|refine go ?_|decide|refine sp ?_ ?_<;>intro _
 have hZ:∀ B':List UInt8,B'.length+TZ.length<=140737488340000 -> mn Tryz.prog 109 [.agg (bW n.z)] (rC m c) B' (B' ++ TZ):=fun B' h=>by rw [hTZ] at h ⊢;exact H6 m c n.z hc hcl hm hz hg B' h
 refine dP (b:=0) (i:=4) (u:=u2) (B:=B ++ TA ++ TB ++ TC ++ TD ++ [32,122,111,110,101,32]) (hZ _ (by simp only [f4,KU,K3];omega)) htr (by simp [gb,iv,bu,b7]) (by simp [aa.gc]) (by simp [aa.gc]) (by decide) (fun p hp=>by cases hp) fun av u3=>?_;cases u3<;>(repeat' (first|refine ge (kf @eh @d9) ?_|decide|refine sp ?_ ?_<;>intro _))
 .exact ⟨oC 0 1 false (rC m c),_,⟨false,rfl,rfl⟩,⟨by simp,hltc false,by simp [aF]⟩,(wS [0,5] (kf @aE.eq_1 @aE.eq_2))⟩
 .exact ⟨oC 0 1 true (rC m c),_,⟨true,rfl,rfl⟩,⟨by simp,hltc true,by simp [aF]⟩,(wS [0,5] (kf @aE.eq_1 @aE.eq_2))⟩
end
section
def qx (m:aR) (e:pp):List UInt8:=if e.ev = -1 then [105,100,108,101,32,116,111,32] else (aC (fj m) e.ev).data.toList ++ [32,98,121,32] ++ (aC m.users e.us).data.toList ++ [32,116,111,32]
def jZ (m:aR) (e:pp):List UInt8:=qx m e ++ Lib.itoa e.dst ++ [10]
theorem GT (m:aR) (c:List Int) (e:pp) (hd:aq e.dst) (B:List UInt8) (hB:B.length+(jZ m e).length<=140737488330000):mn Tryz.prog 64 [.agg (vq e)] (rC m c) B (B ++ jZ m e):=fun u=>by
 have hT:jZ m e=qx m e ++ Lib.itoa e.dst ++ [10]:=rfl;obtain ⟨H,hH⟩:∃ H,H=qx m e:=⟨_,rfl⟩;rw [<- hH] at hT;rw [hT] at hB ⊢;rw [<- KZ,<- KZ];simp only [f4,KU,K3] at hB;have htr:=bn m c;refine cM (Post:=fun c' o=>∃ u',c'=oC 0 1 u' (rC m c) /\ o=[aO (B ++ H ++ Lib.itoa e.dst ++ [10])]) ah Tryz.func64 rfl (by decide) Tryz.ntmps64 Tryz.results64 0 (.op 0 0 0) rfl (lD 0 0) iJ rfl (by kernel_rfl) ⟨(fC u).lt _,by show 1<2;omega,be (bn m c)⟩ (by simp [AV.ltL,AV.lt,vq]) (by simp [aF]) ?_;have hltc:∀ b:Bool,AV.ltL 2 (oC 0 1 b (rC m c)):=fun b=>⟨(fC b).lt 1,by show 1<2;omega,be (bn m c)⟩;have hN:∀ B':List UInt8,B'.length<=140737488355000 -> mn Tryz.prog 62 [eI e.dst] (rC m c) B' (B' ++ Lib.itoa e.dst):=fun B' h=>ou m c e.dst hd B' h;by_cases h1:e.ev = -1
 .have d1:(e.ev == -1)=true:=by simpa using h1
  have hH2:H=[105,100,108,101,32,116,111,32]:=by rw [hH];exact K5 h1
  rw [hH2] at hB ⊢
  repeat' first|refine go ?_|simp only [aE,d1]|decide|refine sp ?_ ?_<;>intro _
  refine ⟨rfl,?_⟩;refine cb (b:=0) (i:=1) (j:=3) (u:=u) (B:=B) (kP m c [⟨#[105,100,108,101,32,116,111,32]⟩] _ ([105,100,108,101,32,116,111,32]) (by simp) (by first|rfl|simp [df,KZ]) (by simp only [f4,KU,K3];omega)) htr (by simp [aa.gc]) (by simp [aa.gc]) (by simp [aa.gc]) (by decide) (fun p hp=>by cases hp) fun av u2=>?_
  repeat' first|refine go ?_|decide|refine sp ?_ ?_<;>intro _
  refine dP (b:=0) (i:=4) (u:=u2) (B:=B ++ [105,100,108,101,32,116,111,32]) (hN _ (by simp only [f4,KU,K3];omega)) htr (by simp [gb,iv,bu,b7]) (by simp [aa.gc]) (by simp [aa.gc]) (by decide) (fun p hp=>by cases hp) fun av u3=>?_
  repeat' first|refine go ?_|decide|refine sp ?_ ?_<;>intro _
  refine ⟨rfl,?_⟩;refine cb (b:=0) (i:=5) (j:=6) (u:=u3) (B:=B ++ [105,100,108,101,32,116,111,32] ++ Lib.itoa e.dst) (kP m c [⟨#[10]⟩] _ ([10]) (by simp) (by first|rfl|simp [df,KZ]) (by simp only [f4,KU,K3];omega)) htr (by simp [aa.gc]) (by simp [aa.gc]) (by simp [aa.gc]) (by decide) (fun p hp=>by cases hp) fun av u4=>?_;cases u4<;>(repeat' (first|refine ge (kf @eh @d9) ?_|decide|refine sp ?_ ?_<;>intro _))
  .exact ⟨oC 0 1 false (rC m c),_,⟨false,rfl,rfl⟩,⟨by simp,hltc false,by simp [aF]⟩,(wS [0,7] (kf @aE.eq_1 @aE.eq_2))⟩
  .exact ⟨oC 0 1 true (rC m c),_,⟨true,rfl,rfl⟩,⟨by simp,hltc true,by simp [aF]⟩,(wS [0,7] (kf @aE.eq_1 @aE.eq_2))⟩
 .have d1:(e.ev == -1)=false:=by simpa using h1
  have hH2:H=(aC (fj m) e.ev).data.toList ++ [32,98,121,32] ++ (aC m.users e.us).data.toList ++ [32,116,111,32]:=by rw [hH];exact KY h1
  have hV:zc Tryz.prog 108 [eI e.ev] (rC m c) (.string (aC (fj m) e.ev)):=tY m c e.ev;have hU:=BR m c e.us;obtain ⟨wu,hwu⟩:∃ w,w=aC m.users e.us:=⟨_,rfl⟩;obtain ⟨we,hwe⟩:∃ w,w=aC (fj m) e.ev:=⟨_,rfl⟩;rw [<- hwu] at hU hH2;rw [<- hwe] at hV hH2;have hH3:H=we.data.toList ++ 32 :: 98 :: 121 :: 32 :: (wu.data.toList ++ [32,116,111,32]):=by rw [hH2];simp [KZ]
  rw [hH3] at hB ⊢;simp only [f4,KU,K3] at hB
  repeat' first|refine go ?_|simp only [aE,d1]|decide|refine sp ?_ ?_<;>intro _
  refine aB [0,1] [0,1,2,3,5,6,7] (.exec 4 (.exec 8 (.exec 9 (.exec 10 .done)))) (by kernel_rfl) (by simp [aa.gc]) ?_
  repeat' first|refine go ?_|simp only [aE]|decide|refine sp ?_ ?_<;>intro _
  refine iO (b:=0) (i:=1) (u:=u) (B:=B) hV htr (by simp [gb,iv]) (by simp [aa.gc]) (by simp [aa.gc]) (by decide) (fun p hp=>by cases hp;simp [iP]) ?_
  repeat' first|refine go ?_|simp only [aE]|decide|refine sp ?_ ?_<;>intro _
  refine iO (b:=0) (i:=3) (u:=u) (B:=B) hU htr (by simp [gb,iv]) (by simp [aa.gc]) (by simp [aa.gc]) (by decide) (fun p hp=>by cases hp;simp [iP]) ?_
  repeat' first|refine go ?_|simp only [aE]|decide|refine sp ?_ ?_<;>intro _
  refine ⟨rfl,?_⟩;refine cb (b:=0) (i:=4) (j:=5) (u:=u) (B:=B) (kP m c [we,⟨#[32,98,121,32]⟩,wu,⟨#[32,116,111,32]⟩] _ (we.data.toList ++ 32 :: 98 :: 121 :: 32 :: (wu.data.toList ++ [32,116,111,32])) (by simp) (by first|rfl|simp [df,KZ]) (by simp only [f4,KU,K3];omega)) htr (by simp [aa.gc]) (by simp [aa.gc]) (by simp [aa.gc]) (by decide) (fun p hp=>by cases hp;simp [iP]) fun av u2=>?_
  repeat' first|refine go ?_|decide|refine sp ?_ ?_<;>intro _
  refine dP (b:=0) (i:=6) (u:=u2) (B:=B ++ (we.data.toList ++ 32 :: 98 :: 121 :: 32 :: (wu.data.toList ++ [32,116,111,32]))) (hN _ (by simp only [f4,KU,K3];omega)) htr (by simp [gb,iv,bu,b7]) (by simp [aa.gc]) (by simp [aa.gc]) (by decide) (fun p hp=>by cases hp) fun av u3=>?_
  repeat' first|refine go ?_|decide|refine sp ?_ ?_<;>intro _
  refine ⟨rfl,?_⟩;refine cb (b:=0) (i:=7) (j:=8) (u:=u3) (B:=B ++ (we.data.toList ++ 32 :: 98 :: 121 :: 32 :: (wu.data.toList ++ [32,116,111,32])) ++ Lib.itoa e.dst) (kP m c [⟨#[10]⟩] _ ([10]) (by simp) (by first|rfl|simp [df,KZ]) (by simp only [f4,KU,K3];omega)) htr (by simp [aa.gc]) (by simp [aa.gc]) (by simp [aa.gc]) (by decide) (fun p hp=>by cases hp) fun av u4=>?_;cases u4<;>(repeat' (first|refine ge (kf @eh @d9) ?_|decide|refine sp ?_ ?_<;>intro _))
  .exact ⟨oC 0 1 false (rC m c),_,⟨false,rfl,rfl⟩,⟨by simp,hltc false,by simp [aF]⟩,(wS [0,9] (kf @aE.eq_1 @aE.eq_2))⟩
  .exact ⟨oC 0 1 true (rC m c),_,⟨true,rfl,rfl⟩,⟨by simp,hltc true,by simp [aF]⟩,(wS [0,9] (kf @aE.eq_1 @aE.eq_2))⟩
end
section
open Go.RowKit Go.Shelf
theorem Fg (b g cap:Nat) (cs cur:Array Value) (t:TypeId) (l:List UInt8) (w:World) (h0:l ≠ []) (hbk:w.heap[b]? = some (.cells cs t (0,0))) (hc1:cs[1]? = some (.slice (some ⟨g,0,none⟩) l.length cap)) (hg:w.heap[g]? = some (.cells cur 5 (0,0))) (hnc:l.length<=cap) (hcm:cap<=maxLen) (hcs:cap<=cur.size) (hcell:∀ (j:Nat) (x:UInt8),l[j]? = some x -> cur[j]? = some (Value.int .u8 x.toNat)) :
  Calls Tryz.prog 65 #[.pointer (some ⟨b,0,none⟩)] w fun e w'=>e=.returned (.string ⟨l.toArray⟩) /\ w'=w.drew.freeze ⟨g,0,none⟩ l.length:=by
 have hl0:l.length ≠ 0:=by simpa using h0
 have L:=Tryz.lays156;have X:=Tryz.Builder_Extra_156
 have c1:w.drew.cell? ⟨b,1,none⟩=some (.slice (some ⟨g,0,none⟩) l.length cap):=by
  have:w.drew.heap[b]? = some (.cells cs t (0,0)):=hbk;rw [Lib.cell_of_heap this];exact hc1
 have hgc:∀ j,w.drew.cell? ⟨g,j,none⟩=cur[j]?:=fun j=>by
  have:w.drew.heap[g]? = some (.cells cur 5 (0,0)):=hg;rw [Lib.cell_of_heap this]
 have hSD:(Builtin.unsafeSliceData_ #[(Tryz.lays156_ren.t 37)] (Tryz.lays156_ren.t 127) #[.slice (some ⟨g,0,none⟩) l.length cap]).run Tryz.prog w.drew=.ok (.pointer (some ⟨g,0,none⟩)) w.drew:=
  Lib.run_unsafeSliceData_row _ _ _ _ _ _ (by omega)
 have hUS:(Builtin.unsafeString_ #[(Tryz.lays156_ren.t 127),(Tryz.lays156_ren.t 3)] (Tryz.lays156_ren.t 9) #[.pointer (some ⟨g,0,none⟩),.int .i64 l.length]).run Tryz.prog w.drew=.ok (.string ⟨l.toArray⟩) (w.drew.freeze ⟨g,0,none⟩ l.length):=by
  refine Lib.run_unsafeString_row w.drew _ _ _ 5 L.t127 (by kernel_rfl) g cur.size (by have hg':w.drew.heap[g]? = some (.cells cur 5 (0,0)):=hg;simp [World.shape?,hg']) l h0 (by omega) (by unfold maxLen at hcm;omega) ?_;intro j x hx;have:=hcell j x hx;rw [<- this,<- hgc j];cases j<;>simp [Addr.add]
 have mixed:=L.mixed;have t72:=L.t72;have a72:=L.a72;have z72:=L.z72;have v72:=L.v72;have u72:=run_underlying L.t72;have t70:=L.t70;have a70:=L.a70;have z70:=L.z70;have v70:=L.v70;have u70:=run_underlying L.t70;have t37:=L.t37;have a37:=L.a37;have z37:=L.z37;have v37:=L.v37;have u37:=run_underlying L.t37;have t127:=L.t127;have a127:=L.a127;have z127:=L.z127;have v127:=L.v127;have u127:=run_underlying L.t127;have t3:=L.t3;have a3:=L.a3;have z3:=L.z3;have v3:=L.v3;have u3:=run_underlying L.t3;have t9:=L.t9;have a9:=L.a9;have z9:=L.z9;have v9:=L.v9;have u9:=run_underlying L.t9
 go_enter L.f169,Body.n169_ntmps Tryz.lays156_ren
 go_wp2
 go_region_o
 all_goals (go_wp2;go_ret;exact ⟨rfl,rfl⟩)
theorem DP (p:AV) (hp:PA p) (rest:List AV) (hr:rest.length=11) (hlt:AV.ltL 1 rest) (B:List UInt8) (h0:B ≠ []) :
  jL Tryz.prog 65 135 (qo p rest) [aO B] [.op 0 0 0] fun av cells' objs'=>av=.c (.string ⟨B.toArray⟩) /\ cells'=p :: .any :: rest /\ objs'=[]:=by
 have hlt2:AV.ltL 2 rest:=ag.2 fun x hx=>AV.lt_mono (by omega) (ag.1 hlt x hx);have hltc:AV.ltL 2 (qo p rest):=⟨hp.lt _,by show 1<2;omega,hlt2⟩;refine ⟨dQ Tryz.func65 rfl (by decide),hltc,fun cx w L vs hlay hvn hv=>?_⟩;obtain ⟨x,rfl⟩:∃ x,vs = #[x]:=⟨vs[0]'(by simp at hvn;omega),by apply MP (by simpa using hvn);intro i h1 h2;simp at h2;subst h2;rfl⟩;have hget0:(aE 0 (ar.box 135 (qo p rest) :: [aO B])).get 0=some (.box 135 (qo p rest)):=by rw [bV];rfl
 have hget1:(aE 0 (ar.box 135 (qo p rest) :: [aO B])).get 1=some (aO B):=by rw [bV];rfl
 obtain ⟨b,cs,hL,hbb,hheap,hcs,hx⟩:=hlay.objs 0 _ hget0;obtain ⟨b',hb',rfl⟩:=(hv 0 x _ rfl rfl).op_inv _ _ (bI hget0);have egg:b'=b:=by rw [hL] at hb';cases hb';rfl
 subst egg;simp only [Mu,L8];have hcs13:cs.size=13:=by rw [hcs,KU,KU,hr]
 have hc1:cs[1]? = some (cs[1]'(by omega)):=KT _;have hx1:=hx 1 _ _ hc1 rfl;obtain ⟨hrow,xs,hown,hone,hcel⟩:=hlay.objs 1 _ hget1;have e1:cs[1]'(by omega)=L 1:=hx1.1.osl_inv _ _ (bI hget1);rw [e1] at hc1;rw [Lg] at hown;have hBl:B.length ≠ 0:=by simpa using h0
 obtain ⟨g,cap,cur,hLg,hbg,hg,hnc,hcm,hcs1,htake⟩:∃ g cap cur,L 1=.slice (some ⟨g,0,none⟩) B.length cap /\ cx.w0.heap.size<=g /\ w.heap[g]? = some (.cells cur 5 (0,0)) /\ B.length<=cap /\ cap<=maxLen /\ cap * 1<=cur.size /\ cur.toList.take (B.length * 1)=xs:=by
  rcases hown.2 with ⟨_,hz⟩|⟨g,cap,cur,hv,r⟩
  .exact absurd hz hBl
  .exact ⟨g,cap,cur,hv,r⟩
 have hcell:∀ (j:Nat) (x:UInt8),B[j]? = some x -> cur[j]? = some (Value.int .u8 x.toNat):=fun j x hj=>by
  have hjl:j<B.length:=(KS.1 hj).1;obtain ⟨y,hy,hyr⟩:=hcel j 0 [.c (.int .u8 x.toNat)] (.c (.int .u8 x.toNat)) (by rw [KV,hj];rfl) rfl;cases hyr;rw [<- htake,Ly,K5 (by omega)] at hy;simpa using hy
 have hvg:aH (L 1)=some g:=by rw [hLg];rfl
 have hvb:aH (L 0)=some b':=by rw [hL];rfl
 have hbg2:b' ≠ g:=fun e=>by
  have:=hlay.sep 0 1 _ _ b' hget0 hget1 hvb (by rw [hvg,e]);cases this
 refine (Fg b' g cap cs cur _ B w h0 hheap (by rw [hc1,hLg]) hg hnc hcm (by omega) hcell).mono ?_;rintro e w' ⟨rfl,rfl⟩;obtain ⟨w',hw'⟩:∃ w',w'=w.drew.freeze ⟨g,0,none⟩ B.length:=⟨_,rfl⟩;rw [<- hw']
 have hk:∀ k,k ≠ g -> w'.heap[k]? = w.heap[k]?:=fun k hk=>by
  rw [hw'];unfold World.freeze;rw [KY hBl];simp only [Array.getElem?_modify];rw [KY (by omega)];rfl
 have hsz:w'.heap.size=w.heap.size:=by
  rw [hw'];unfold World.freeze;rw [KY hBl];simp
 have hos:w'.os=w.os /\ w'.tape=w.tape /\ w'.output=w.output:=by
  rw [hw'];unfold World.freeze;rw [KY hBl];exact ⟨rfl,rfl,rfl⟩
 have hget':∀ id o,(aE 0 [ar.box 135 (p :: .any :: rest)]).get id=some o -> id=0 /\ o=.box 135 (p :: .any :: rest):=fun id o h=>by
  rw [bV] at h
  cases id with
  | zero=>simp at h;exact ⟨rfl,h.symm⟩
  | succ id=>simp at h
 have hext:kc cx w (aE 0 [ar.box 135 (qo p rest),aO B]) L 2 w' (aE 0 [ar.box 135 (p :: .any :: rest)]) L:=by
  refine ⟨fun b hb=>hk b fun e=>hb.2.2 1 _ hget1 (by rw [hvg,e]),fun b hb=>⟨by rw [hsz];exact hb.1,hb.2.1,fun id o ho hv=>?_⟩,fun id q _ hq=>?_⟩
  .obtain ⟨rfl,_⟩:=hget' id o ho;exact hb.2.2 0 _ hget0 hv
  .unfold Kx at hq ⊢;obtain ⟨o,ho,rfl⟩:=Option.map_eq_some_iff.1 hq;obtain ⟨rfl,rfl⟩:=hget' id o ho;rw [hget0];rfl
 have hlay':fY cx w' (aE 0 [ar.box 135 (p :: .any :: rest)]) L:=by
  refine ⟨⟨hos.1.trans hlay.below.os,hos.2.1.trans hlay.below.tape,hos.2.2.trans hlay.below.output,by rw [hsz];exact hlay.below.size,fun k h1 h2=>(hk k (by omega)).trans (hlay.below.block k h1 h2)⟩,fun id o ho=>?_,fun id id' o o' g' h1 h2 h3 h4=>?_,fun b hb=>⟨by rw [hsz];exact (hlay.ex b hb).1,fun id o ho hv=>?_⟩⟩
  .obtain ⟨rfl,rfl⟩:=hget' id o ho;refine ⟨b',cs,hL,hbb,(hk b' hbg2).trans hheap,hcs,fun j x av h1 h2=>?_⟩
   match j with
   | 0=>
    have:=hx 0 x av h1 h2;simp at h2;subst h2;exact ⟨hext.rv this.1 (hp.lt 1),this.2⟩
   | 1=>
    have:=hx 1 x (.osl 1) h1 rfl;simp at h2;subst h2;exact ⟨.tree (.any _),this.2⟩
   | j+2=>
    have:=hx (j+2) x av h1 h2;exact ⟨hext.rv this.1 (ag.1 hlt2 _ (KO (by simpa using h2))),this.2⟩
  .rw [(hget' id o h1).1,(hget' id' o' h2).1]
  .obtain ⟨rfl,_⟩:=hget' id o ho;exact (hlay.ex b hb).2 0 _ hget0 hv
 refine ⟨_,_,_,_,L,rfl,⟨rfl,rfl,rfl⟩,hlay',.c _,rfl,rfl,⟨hp.lt _,trivial,hlt⟩,by simp,⟨Nat.le_of_eq hsz.symm,fun k h1 h2=>hk k fun e=>h2 1 _ hget1 (by rw [hvg,e]),fun id o gg h1 h2 h3=>?_⟩⟩;obtain ⟨rfl,rfl⟩:=hget' id o h1;exact ⟨0,_,hget0,h2⟩
end
section
theorem oK {P:Program} {st:ak} {f:FuncId} {K:AV -> ak -> Prop} {rest:List AV} {B:List UInt8} {b i:Nat} {u:Bool} {w:Option (Nat × List Nat)} {v:Value} (h:jL P f 135 (oC 0 1 u rest) [aO B] [.op 0 0 0] fun av c o=>av=.c v /\ c=pv 0 u :: .any :: rest /\ o=[]) (ht:bu rest) (hb:st.tab.get b=some (.box 135 (oC b i u rest))) (hi:st.tab.get i=some (aO B)) (hne:b ≠ i) (hu:∀ p,w=some p -> ∀ id ∈ [b,i],iP p.1 p.2 id)
  (hk:K (.c v) { st with tab:=(b,some (.box 135 (pv b u :: .any :: rest))) :: (i,none) :: st.tab,next:=st.next }):fk w P st f [.op b 0 0] K:=by
 refine j9 (b:=b) [i] h rfl (by rw [lF ht];exact hb) ⟨⟨hi,by simp [aF]⟩,trivial⟩ (by simpa using hne) hu fun av c o he=>?_;obtain ⟨rfl,rfl,rfl⟩:=he;have e:AV.renL [b] (pv 0 u :: .any :: rest)=pv b u :: .any :: rest:=by cases u<;>simp [AV.renL,AV.ren,fq _ ht]
 simpa [fv,aE,e] using hk
theorem ue (m:aR) (c:List Int) (u:Bool) (B:List UInt8) (h0:B ≠ []):jL Tryz.prog 65 135 (oC 0 1 u (rC m c)) [aO B] [.op 0 0 0] fun av c' o=>av=.c (.string ⟨B.toArray⟩) /\ c'=pv 0 u :: .any :: rC m c /\ o=[]:=DP (pv 0 u) (fC u) (rC m c) (s0 m c) (be (bn m c)) B h0
theorem Cf (m:aR) (c:List Int) (n:Nd):cK m c n ≠ []:=by simp [cK]
theorem Fw (m:aR) (c:List Int) (n:Nd) (hc:∀ n ∈ c,aq n) (hcl:c.length<=1000000) (hm:∀ s ∈ m.attrs,s.size<=60) (hz:n.z.cls.length<=1000000) (hg:∀ x ∈ n.z.gaps,aq x) (hdl:n.did.length<=1000000) (hcn:n.cnt.length<=1000000) (hct:∀ x ∈ n.cnt,aq x) (hB:(cK m (aP c) n).length<=140737488330000):aw Tryz.prog 59 [.agg (aM m),sI c,.agg (dX n)] (val (.string ⟨(cK m (aP c) n).toArray⟩)):=by
 have hS:=nI c hcl;have hO:=CU m (aP c) n (fun x hx=>hc x (((dJ c).2 x).1 hx)) (Lf (cW c) hcl) hm hz hg hdl hcn hct [] (by simpa using hB);rw [LT] at hO;have hN:=fun u=>ue m (aP c) u _ (Cf m (aP c) n);have htr:=bn m (aP c);refine lh Tryz.func59 rfl (by decide) Tryz.ntmps59 Tryz.results59 rfl (aU _) ?_;have hcells:([.c (.pointer none),.c (.slice none 0 0)] ++ rC m (aP c):List AV)[1]? = some (.c (.slice none 0 0)):=rfl;refine cX (fun st=>st=⟨20,[(1,sI c),(3,.op 0 0 0),(5,.op 1 0 0)],[(0,some (.box 32 (aM m))),(1,some (.box 62 (dX n)))],2⟩) (dD ah ?_) ?_
 .repeat' first|refine gq ?_|decide|refine sp ?_ ?_<;>intro _
  exact cd wC rfl
 rintro _ rfl;refine cX (fun st=>st=⟨20,[(5,.op 0 0 0),(7,.op 1 0 0)],[(0,some (.box 62 (dX n))),(1,some (.box 135 (oC 1 2 false (rC m (aP c))))),(2,some (aO []))],3⟩) (dD ah ?_) ?_
 .repeat' first|refine go ?_|decide|refine sp ?_ ?_<;>intro _
  refine aB [] [0,1] (.exec 2 (.take 3 (.exec 4 (.exec 5 .done)))) (by kernel_rfl) (by simp [aa.gc]) ?_
  repeat' first|refine go ?_|decide|refine sp ?_ ?_<;>intro _
  refine dU hS (ro) ?_
  repeat' first|refine go ?_|decide|refine sp ?_ ?_<;>intro _
  exact cd ((cH 2 1 5 1 (t:=135) (cells:=[.c (.pointer none),.c (.slice none 0 0)] ++ rC m (aP c)) (by simp [aa.gc]) hcells).trans (wS [1,2,3] (kf @Ms @Mt))) rfl
 rintro _ rfl;refine dD ah ?_
 repeat' first|refine go ?_|decide|refine sp ?_ ?_<;>intro _
 refine dP (b:=1) (i:=2) (u:=false) (B:=[]) hO htr (by simp [gb,iv,bu,b7]) (by simp [aa.gc]) (by simp [aa.gc]) (by decide) (fun p hp=>by cases hp) fun av u2=>?_
 repeat' first|refine go ?_|decide|refine sp ?_ ?_<;>intro _
 refine oK (b:=1) (i:=3) (u:=u2) (B:=cK m (aP c) n) (hN u2) htr (by simp [aa.gc]) (by simp [aa.gc]) (by decide) (fun p hp=>by cases hp) ?_
 repeat' first|refine go ?_|decide|refine sp ?_ ?_<;>intro _
end
end
section
section
def qi (m:aR) (c:List Int) (N:List Nd) (E:List (List pp)) (i:Nat):List UInt8:=[110,111,100,101,32] ++ Lib.itoa (i:Int) ++ cK m c (N.getD i ⟨⟨[],[]⟩,0,0,[],[]⟩) ++ [10] ++ aG (fun k=>jZ m ((E.getD i []).getD k ⟨0,0,0⟩)) (E.getD i []).length
def gK (m:aR) (c:List Int) (N:List Nd) (E:List (List pp)):List UInt8:=aG (qi m c N E) N.length
structure Jv (n:Nd):Prop where
 cls:n.z.cls.length<=1000000
 gaps:∀ x ∈ n.z.gaps,aq x
 did:n.did.length<=1000000
 cnt:n.cnt.length<=1000000
 cok:∀ x ∈ n.cnt,aq x
theorem Ai (m:aR) (c:List Int) (N:List Nd) (E:List (List pp)) (h:0<N.length):gK m c N E ≠ []:=fun h2=>by
 have h3:=ca (qi m c N E) h;have h4:gK m c N E=aG (qi m c N E) N.length:=rfl;rw [<- h4,h2] at h3;simp [qi] at h3
theorem Bs (m:aR) (c:List Int) (N:List Nd) (E:List (List pp)) (hc:∀ n ∈ c,aq n) (hcl:c.length<=1000000) (hm:∀ s ∈ m.attrs,s.size<=60) (hN:∀ n ∈ N,Jv n) (hNl:N.length<=1000000) (hN0:0<N.length) (hEl:E.length=N.length) (hE:∀ r ∈ E,r.length<=1000000) (hEd:∀ r ∈ E,∀ e ∈ r,aq e.dst) (hB:(gK m (aP c) N E).length<=140737488300000):aw Tryz.prog 20 [.agg (aM m),sI c,.agg [.sl 6 (N.map dX),.sl 1 (jC E)]] (val (.string ⟨(gK m (aP c) N E).toArray⟩)):=by
 have hS:=nI c hcl;have hsc:∀ n ∈ aP c,aq n:=fun x hx=>hc x (((dJ c).2 x).1 hx);have hscl:(aP c).length<=1000000:=Lf (cW c) hcl;have hne:=Ai m (aP c) N E hN0;obtain ⟨sc,hsc'⟩:∃ s,s=aP c:=⟨_,rfl⟩;rw [<- hsc'] at hS hsc hscl hne hB ⊢;have hSt:=fun u=>ue m sc u _ hne;obtain ⟨G,hG⟩:∃ G,G=qi m sc N E:=⟨_,rfl⟩;have hGT:gK m sc N E=aG G N.length:=by rw [hG];rfl
 rw [hGT] at hB hSt ⊢;have htr:=bn m sc;refine lh Tryz.func20 rfl (by decide) Tryz.ntmps20 Tryz.results20 rfl (aU _) ?_;have hcells:([.c (.pointer none),.c (.slice none 0 0)] ++ rC m sc:List AV)[1]? = some (.c (.slice none 0 0)):=rfl;refine cX (fun st=>st=⟨61,[(1,sI c),(3,.op 0 0 0),(5,.op 1 0 0)],[(0,some (.box 32 (aM m))),(1,some (.box 68 [.sl 6 (N.map dX),.sl 1 (jC E)]))],2⟩) (dD ah ?_) ?_
 .repeat' first|refine gq ?_|decide|refine sp ?_ ?_<;>intro _
  exact cd wC rfl
 rintro _ rfl;refine cX (fun st=>st=⟨61,[(5,.op 0 0 0),(7,.op 1 0 0)],[(0,some (.box 68 [.sl 6 (N.map dX),.sl 1 (jC E)])),(1,some (.box 135 (oC 1 2 false (rC m sc)))),(2,some (aO []))],3⟩) (dD ah ?_) ?_
 .repeat' first|refine go ?_|decide|refine sp ?_ ?_<;>intro _
  refine aB [] [0,1] (.exec 2 (.take 3 (.exec 4 (.exec 5 .done)))) (by kernel_rfl) (by simp [aa.gc]) ?_
  repeat' first|refine go ?_|decide|refine sp ?_ ?_<;>intro _
  refine dU hS (ro) ?_
  repeat' first|refine go ?_|decide|refine sp ?_ ?_<;>intro _
  exact cd ((cH 2 1 5 1 (t:=135) (cells:=[.c (.pointer none),.c (.slice none 0 0)] ++ rC m sc) (by simp [aa.gc]) hcells).trans (wS [1,2,3] (kf @Ms @Mt))) rfl
 rintro _ rfl;refine dD ah ?_;have hz0:aG G 0=[]:=rfl;have hlm:(jC E).length=E.length:=by simp
 repeat' first|refine go ?_|decide|refine sp ?_ ?_<;>intro _
 refine af (fun st=>∃ (i:Nat) (u:Bool),i<=N.length /\ st=⟨61,[(5,.op 0 0 0),(7,.op 1 0 0),(18,.sl 6 (N.map dX)),(19,eI (N.length:Int)),(20,eI (i:Int))],[(0,some (.box 68 [.sl 6 (N.map dX),.sl 1 (jC E)])),(1,some (.box 135 (oC 1 2 u (rC m sc)))),(2,some (aO (aG G i)))],3⟩) (fun st=>N.length - ap st 20) ⟨_,(wS [0,1,2] hz0),0,false,KR _,rfl⟩ ?_;rintro _ ⟨i,u,hi,rfl⟩;by_cases hlt:i<N.length
 .obtain ⟨n,hn⟩:∃ n,n=N[i]:=⟨_,rfl⟩;have hrn:(N.map dX)[i]?.getD []=dX n:=by rw [hn];simp [hlt]
  obtain ⟨r,hr⟩:∃ r,r=E[i]'(by omega):=⟨_,rfl⟩;have hrr:(jC E)[i]?.getD []=[.sl 3 (r.map vq)]:=by rw [hr];simp [show i<E.length by omega]
  have hrl:r.length<=1000000:=by rw [hr];exact hE _ (KQ _)
  have hrE:r ∈ E:=by rw [hr];exact KQ _
  have hnT:Jv n:=by rw [hn];exact hN _ (KQ _)
  have hiE:¬ E.length<=i:=by omega
  obtain ⟨F,hF⟩:∃ F:Nat -> List UInt8,F=fun k=>jZ m (r.getD k ⟨0,0,0⟩):=⟨_,rfl⟩
  have hGi:G i=[110,111,100,101,32] ++ Lib.itoa (i:Int) ++ cK m sc n ++ [10] ++ aG F r.length:=by
   rw [hG,hF,hn,hr];simp [qi,KP,hlt,show i<E.length by omega]
  have hst:=ca G hlt;have hsu:=bJ G i;rw [hGi] at hst hsu;simp only [f4,KU,K3] at hst;have hCo:∀ B':List UInt8,B'.length<=140737488355000 -> mn Tryz.prog 62 [eI (i:Int)] (rC m sc) B' (B' ++ Lib.itoa (i:Int)):=fun B' h=>ou m sc i (by unfold aq;omega) B' h;have hNo:∀ B':List UInt8,B'.length+(cK m sc n).length<=140737488330000 -> mn Tryz.prog 63 [.agg (dX n)] (rC m sc) B' (B' ++ cK m sc n):=fun B' h=>CU m sc n hsc hscl hm hnT.cls hnT.gaps hnT.did hnT.cnt hnT.cok B' h
  repeat' first|refine ge (kf @hlt @hrn) ?_|decide|refine sp ?_ ?_<;>intro _
  refine ⟨rfl,?_⟩;refine cb (b:=1) (i:=2) (j:=4) (u:=u) (B:=aG G i) (kP m sc [⟨#[110,111,100,101,32]⟩] _ ([110,111,100,101,32]) (by simp) (by first|rfl|simp [df,KZ]) (by simp only [f4,KU,K3];omega)) htr (by simp [aa.gc]) (by simp [aa.gc]) (by simp [aa.gc]) (by decide) (fun p hp=>by cases hp) fun av u2=>?_
  repeat' first|refine go ?_|decide|refine sp ?_ ?_<;>intro _
  refine dP (b:=1) (i:=5) (u:=u2) (B:=aG G i ++ [110,111,100,101,32]) (hCo _ (by simp only [f4,KU,K3];omega)) htr (by simp [gb,iv,bu,b7]) (by simp [aa.gc]) (by simp [aa.gc]) (by decide) (fun p hp=>by cases hp) fun av u3=>?_
  repeat' first|refine go ?_|decide|refine sp ?_ ?_<;>intro _
  refine dP (b:=1) (i:=6) (u:=u3) (B:=aG G i ++ [110,111,100,101,32] ++ Lib.itoa (i:Int)) (hNo _ (by simp only [f4,KU,K3];omega)) htr (by simp [gb,iv,bu,b7]) (by simp [aa.gc]) (by simp [aa.gc]) (by decide) (fun p hp=>by cases hp) fun av u4=>?_
  repeat' first|refine go ?_|decide|refine sp ?_ ?_<;>intro _
  refine ⟨rfl,?_⟩;refine cb (b:=1) (i:=7) (j:=8) (u:=u4) (B:=aG G i ++ [110,111,100,101,32] ++ Lib.itoa (i:Int) ++ cK m sc n) (kP m sc [⟨#[10]⟩] _ ([10]) (by simp) (by first|rfl|simp [df,KZ]) (by simp only [f4,KU,K3];omega)) htr (by simp [aa.gc]) (by simp [aa.gc]) (by simp [aa.gc]) (by decide) (fun p hp=>by cases hp) fun av u5=>?_
  repeat' first|refine ge (kf @hiE @hrr) ?_|decide|refine sp ?_ ?_<;>intro _
  refine ⟨by omega,?_⟩;have hzF:aG G i ++ [110,111,100,101,32] ++ Lib.itoa (i:Int) ++ cK m sc n ++ [10] ++ aG F 0=aG G i ++ [110,111,100,101,32] ++ Lib.itoa (i:Int) ++ cK m sc n ++ [10]:=by rw [cZ,Ln]
  have eB:aG G i ++ [110,111,100,101,32] ++ Lib.itoa (i:Int) ++ cK m sc n ++ [10] ++ aG F r.length=aG G (i+1):=by rw [hsu];simp only [KZ]
  refine af (fun st=>∃ (q:Nat) (u:Bool),q<=r.length /\ st=⟨61,[(5,.op 0 0 0),(7,.op 1 0 0),(18,.sl 6 (N.map dX)),(19,eI (N.length:Int)),(20,eI (i:Int)),(46,.sl 3 (r.map vq)),(47,eI (r.length:Int)),(48,eI (q:Int))],[(0,some (.box 68 [.sl 6 (N.map dX),.sl 1 (jC E)])),(1,some (.box 135 (oC 1 2 u (rC m sc)))),(2,some (aO (aG G i ++ [110,111,100,101,32] ++ Lib.itoa (i:Int) ++ cK m sc n ++ [10] ++ aG F q)))],3⟩) (fun st=>r.length - ap st 48) ⟨_,by cases u5<;>exact (wS [0,1,9] @hzF),0,u5,KR _,rfl⟩ ?_;rintro _ ⟨q,u,hq,rfl⟩;by_cases hlq:q<r.length
  .obtain ⟨e,he⟩:∃ e,e=r[q]:=⟨_,rfl⟩;have hre:(r.map vq)[q]?.getD []=vq e:=by rw [he];simp [hlq]
   have hed:aq e.dst:=by rw [he];exact hEd r hrE _ (KQ _)
   have hFq:F q=jZ m e:=by rw [hF,he];simp [KP,hlq]
   have hst2:=ca F hlq;have hsu2:=bJ F q;rw [hFq] at hst2 hsu2;have eC:aG G i ++ [110,111,100,101,32] ++ Lib.itoa (i:Int) ++ cK m sc n ++ [10] ++ aG F q ++ jZ m e=aG G i ++ [110,111,100,101,32] ++ Lib.itoa (i:Int) ++ cK m sc n ++ [10] ++ aG F (q+1):=(by rw [hsu2,KZ _ (aG F q)]);have hO:=GT m sc e hed (aG G i ++ [110,111,100,101,32] ++ Lib.itoa (i:Int) ++ cK m sc n ++ [10] ++ aG F q) (by simp only [f4,KU,K3];omega)
   repeat' first|refine ge (kf @hlq @hre) ?_|decide|refine sp ?_ ?_<;>intro _
   refine dP (b:=1) (i:=2) (u:=u) (B:=aG G i ++ [110,111,100,101,32] ++ Lib.itoa (i:Int) ++ cK m sc n ++ [10] ++ aG F q) hO htr (by simp [gb,iv,bu,b7]) (by simp [aa.gc]) (by simp [aa.gc]) (by decide) (fun p hp=>by cases hp) fun av u2=>?_
   repeat' first|refine go ?_|decide|refine sp ?_ ?_<;>intro _
   cases u2
   .exact rI (wS [0,1,4] eC) ⟨q+1,false,by omega,rfl⟩
   .exact rI (wS [0,1,4] eC) ⟨q+1,true,by omega,rfl⟩
  .obtain rfl:q=r.length:=by omega
   repeat' first|refine ge @hlq ?_|decide|refine sp ?_ ?_<;>intro _
   cases u
   .exact rI (wS [0,1,2] eB) ⟨i+1,false,by omega,rfl⟩
   .exact rI (wS [0,1,2] eB) ⟨i+1,true,by omega,rfl⟩
 .obtain rfl:i=N.length:=by omega
  repeat' first|refine ge @hlt ?_|decide|refine sp ?_ ?_<;>intro _
  refine oK (b:=1) (i:=2) (u:=u) (B:=aG G N.length) (hSt u) htr (by simp [aa.gc]) (by simp [aa.gc]) (by decide) (fun p hp=>by cases hp) ?_
  repeat' first|refine go ?_|decide|refine sp ?_ ?_<;>intro _
end
section
theorem iR {x:Int} (h:-9223372036854775808<=x /\ x<=9223372036854775807):wrap64 x=x:=by unfold wrap64;omega
theorem Bd (x:Int):IntKind.u8.wrap x=x % 256:=by
 simp [IntKind.wrap,IntKind.bits,IntKind.signed]
def Jd (u m:Nat) (L:List UInt8):Prop:=(m=0 -> L=Lib.decDigits u) /\ (0<m -> Lib.decDigits m ++ L=Lib.decDigits u)
theorem Jd.step {u m:Nat} {L:List UInt8} (h:Jd u m L) (hm:0<m):Jd u (m / 10) (UInt8.ofNat (48+m % 10) :: L):=by
 have h2:=h.2 hm;by_cases h10:m<10
 .have e:m / 10=0:=by omega
  rw [e];refine ⟨fun _=>?_,fun h=>by omega⟩;rw [Lib.decDigits_one h10] at h2;rw [show m % 10=m by omega];simpa using h2
 .refine ⟨fun h=>by omega,fun _=>?_⟩;rw [Lib.decDigits,dif_neg h10] at h2;rw [<- h2];simp
theorem tw (w:World) (d:Nat) (hd:d<=9):(convert 131 9 (.slice (some ⟨w.heap.size,0,none⟩) 1 1)).run Tryz.prog (w.alloc (.cells #[.int .u8 (48+(d:Int))] 5))=.ok (.string ⟨#[UInt8.ofNat (48+d)]⟩) (w.alloc (.cells #[.int .u8 (48+(d:Int))] 5)):=by
 refine run_convert_bytes_back (P:=Tryz.prog) _ 131 9 5 ⟨w.heap.size,0,none⟩ 1 [UInt8.ofNat (48+d)] Tryz.underlying131 Tryz.underlying5 Tryz.underlying9 (fun j hj=>?_);obtain rfl:j=0:=by simp at hj;omega
 rw [gQ,(JF.new w 5 #[.int .u8 (48+(d:Int))]).cell 0];have h:(UInt8.ofNat (48+d)).toNat=48+d:=by simp [UInt8.toNat_ofNat];omega
 simp only [List.getElem_cons_zero,h];simp
theorem xJ:∀ (k u:Nat),u<10 ^ (k+1) -> Lib.nDigits u<=k+1
 | 0,u,h=>by rw [Lib.nDigits_small (by simpa using h)];exact KW _
 | k+1,u,h=>by
  by_cases h10:u<10
  .rw [Lib.nDigits_small h10];omega
  .rw [Lib.nDigits_big h10];have:=xJ k (u / 10) (by rw [Nat.pow_succ] at h;omega);omega
theorem Jd.len {u m:Nat} {L:List UInt8} (h:Jd u m L) (hu:u<=9223372036854775808):L.length<=20:=by
 have h1:=xJ 19 u (by omega);rw [<- Lib.decDigits_length] at h1;rcases MT m with h0|h0
 .rw [h.1 h0];exact h1
 .rw [<- h.2 h0,f4] at h1;omega
theorem sk (n:Int) (w:World) (hn:-9223372036854775808<=n /\ n<=9223372036854775807) :
  Calls Tryz.prog 66 #[.int .i64 n] w fun e w'=>e=.returned (.string ⟨(Lib.itoa n).toArray⟩) /\ Below w.heap.size w w':=by
 obtain ⟨hn1,hn2⟩:=hn;by_cases h0:n=0
 .subst h0;have e0:((0:Int) == 0)=true:=rfl;have hd:(⟨(Lib.itoa 0).toArray⟩:ByteArray)=⟨#[48]⟩:=by decide +kernel
  rw [hd]
  go_enter Tryz.func66,Tryz.ntmps66
  go_wp2_with fail
  go_ret
  exact ⟨rfl,Below.refl _ _⟩
 .have e0:(n == 0)=false:=by rw [LJ];exact h0
  by_cases hneg:n<0
  .obtain ⟨u,hu⟩:∃ u:Nat,n = -(u:Int):=⟨n.natAbs,by omega⟩;subst hu;have hu0:0<u:=(by omega);have hit:Lib.itoa (-(u:Int))=45 :: Lib.decDigits u:=Lib.itoa_neg u hu0;rw [hit];have e1:decide (-(u:Int)<0)=true:=K4 (by omega);have e1':-(u:Int)<0:=(by omega);clear h0 hneg hit
   go_enter Tryz.func66,Tryz.ntmps66
   go_wp2_with fail
   go_loopw [0,3] (fun x t wr=>∃ (m:Nat) (S:ByteArray),m<=u /\ x=.int .i64 (-(m:Int)) /\ t=.string S /\ Jd u m S.data.toList /\ Below w.heap.size w wr) (fun x t wr=>(intOf x).natAbs)
   case atStart=>exact ⟨u,⟨#[]⟩,KW _,rfl,rfl,⟨fun h=>absurd h (by omega),fun _=>by simp⟩,Below.refl _ _⟩
   case round=>
    obtain ⟨m,S,hm,rfl,rfl,hP,hb⟩:=hrel;have hS:S.size<=20:=by have:=hP.len (by omega);rw [Ll] at this;exact this
    by_cases hm0:m=0
    .subst hm0;have hL:=hP.1 rfl;have HL:=dI hL;have Hb:=dI hb;clear hP hL hb
     go_wp2_with fail
     go_ret
     have hfin:(⟨#[45]⟩:ByteArray) ++ S=⟨(45 :: Lib.decDigits u).toArray⟩:=by
      apply ByteArray.ext;apply Array.ext';simp [ByteArray.data_append,HL.out]
     exact ⟨by show Ending.returned (Value.string ((⟨#[45]⟩:ByteArray) ++ S))=_;rw [hfin],Hb.out⟩
    .have e2:(-(m:Int) != 0)=true:=by rw [bne_iff_ne];omega
     have hz0:(-(m:Int)).tmod 10 = -((m % 10:Nat):Int):=by rw [Int.neg_tmod,LZ (by omega)];simp
     have hy0:(-(m:Int)).tdiv 10 = -((m / 10:Nat):Int):=by rw [Int.neg_tdiv,MG (by omega)];simp
     have hP2:=hP.step (by omega);have HP:=dI hP2;have Hb:=dI hb;have hd9:m % 10<=9:=(by omega);generalize m % 10=d at *;have hcv:=tw wr d hd9;generalize UInt8.ofNat (48+d)=c at *;obtain ⟨y,hy⟩:∃ y,y=(-(m:Int)).tdiv 10:=⟨_,rfl⟩;obtain ⟨z,hz⟩:∃ z,z=(-(m:Int)).tmod 10:=⟨_,rfl⟩;obtain ⟨x,hx⟩:∃ x,x = -(m:Int):=⟨_,rfl⟩;rw [hy0] at hy;rw [hz0] at hz;rw [<- hx] at hz0 hy0 e2 ⊢;rw [<- hy] at hy0;rw [<- hz] at hz0;have hwy:=iR (x:=y) (by omega);have hmeas:y.natAbs<x.natAbs:=(by omega);have HY:=dI hy;have HX:=dI hx;have HM:=dI hmeas;clear hP hP2 hb hy hx hmeas;by_cases hd0:d=0
     .subst hd0;have hzz:z=0:=by rw [hz];rfl
      subst hzz;have hcv:(convert 131 9 (.slice (some ⟨wr.heap.size,0,none⟩) 1 1)).run Tryz.prog (wr.alloc (.cells #[.int .u8 48] 5))=.ok (.string ⟨#[c]⟩) (wr.alloc (.cells #[.int .u8 48] 5)):=hcv;clear hz
      go_wp2_with fail
      all_goals (try (exfalso;omega))
      go_roundw
      case rel=>
       refine ⟨m / 10,⟨#[c]⟩ ++ S,by omega,by first|rw [hwy,HY.out]|rw [HY.out],rfl,?_,Hb.out.alloc Hb.out.size _⟩;have h2:=HP.out;simpa [ByteArray.data_append] using h2
      case measure=>have h9:=HM.out;simp [intOf,hwy];omega
     .have hz1:z<0:=(by omega);have e3:decide (z<0)=true:=K4 hz1;have hwz:wrap64 (-z)=(d:Int):=by rw [iR (by omega)];omega
      have hw8:IntKind.u8.wrap (48+(d:Int))=48+(d:Int):=by rw [Bd];omega
      have hwd:=iR (x:=48+(d:Int)) (by omega);rw [<- hwz] at hcv hw8 hwd;clear hz hwz
      go_wp2_with fail
      all_goals (try (exfalso;omega))
      go_roundw
      case rel=>
       refine ⟨m / 10,⟨#[c]⟩ ++ S,by omega,by first|rw [hwy,HY.out]|rw [HY.out],rfl,?_,Hb.out.alloc Hb.out.size _⟩;have h2:=HP.out;simpa [ByteArray.data_append] using h2
      case measure=>have h9:=HM.out;simp [intOf,hwy];omega
  .obtain ⟨u,hu⟩:∃ u:Nat,n=(u:Int):=⟨n.natAbs,by omega⟩;subst hu;have hu0:0<u:=(by omega);have hit:Lib.itoa ((u:Int))=Lib.decDigits u:=Lib.itoa_nonneg u;rw [hit];have e1:decide ((u:Int)<0)=false:=K0 (by omega);have e1':¬ (u:Int)<0:=(by omega);clear h0 hneg hit
   go_enter Tryz.func66,Tryz.ntmps66
   go_wp2_with fail
   go_loopw [0,3] (fun x t wr=>∃ (m:Nat) (S:ByteArray),m<=u /\ x=.int .i64 ((m:Int)) /\ t=.string S /\ Jd u m S.data.toList /\ Below w.heap.size w wr) (fun x t wr=>(intOf x).natAbs)
   case atStart=>exact ⟨u,⟨#[]⟩,KW _,rfl,rfl,⟨fun h=>absurd h (by omega),fun _=>by simp⟩,Below.refl _ _⟩
   case round=>
    obtain ⟨m,S,hm,rfl,rfl,hP,hb⟩:=hrel;have hS:S.size<=20:=by have:=hP.len (by omega);rw [Ll] at this;exact this
    by_cases hm0:m=0
    .subst hm0;have hL:=hP.1 rfl;have HL:=dI hL;have Hb:=dI hb;clear hP hL hb
     go_wp2_with fail
     go_ret
     have hfin:(⟨#[]⟩:ByteArray) ++ S=⟨(Lib.decDigits u).toArray⟩:=by
      apply ByteArray.ext;apply Array.ext';simp [ByteArray.data_append,HL.out]
     exact ⟨by show Ending.returned (Value.string ((⟨#[]⟩:ByteArray) ++ S))=_;rw [hfin],Hb.out⟩
    .have e2:((m:Int) != 0)=true:=by rw [bne_iff_ne];omega
     have ht:(m:Int).tmod 10=((m % 10:Nat):Int):=by rw [LZ (by omega)];simp
     have htd:(m:Int).tdiv 10=((m / 10:Nat):Int):=by rw [MG (by omega)];simp
     have e3:decide (((m % 10:Nat):Int)<0)=false:=K0 (by omega);have hP2:=hP.step (by omega);have HP:=dI hP2;have Hb:=dI hb;have hd9:m % 10<=9:=(by omega);generalize m % 10=d at *;have hw8:IntKind.u8.wrap (48+(d:Int))=48+(d:Int):=by rw [Bd];omega
     have hwd:=iR (x:=48+(d:Int)) (by omega);have hwdd:=iR (x:=(d:Int)) (by omega);have hcv:=tw wr d hd9;generalize UInt8.ofNat (48+d)=c at *;clear hP hP2 hb
     go_wp2_with fail
     all_goals (try (exfalso;omega))
     go_roundw
     case rel=>
      refine ⟨m / 10,⟨#[c]⟩ ++ S,by omega,by first|rfl|(simp;done)|(congr 1;omega),rfl,?_,Hb.out.alloc Hb.out.size _⟩;have h2:=HP.out;simpa [ByteArray.data_append] using h2
     case measure=>simp [intOf];omega
end
section
def fw (l:List UInt8):ByteArray:=⟨l.toArray⟩
theorem kk (s:ByteArray):fw s.data.toList=s:=by
 apply ByteArray.ext;simp [fw]
theorem wy (a b:List UInt8):fw a ++ fw b=fw (a ++ b):=by
 apply ByteArray.ext;simp [fw]
theorem uz (l:List UInt8):(fw l).size=l.length:=by
 show (fw l).data.size=_;simp [fw]
theorem gP (n:Int) (h:aq n):aw Tryz.prog 66 [eI n] (val (.string (fw (Lib.itoa n)))):=
 dx (dQ Tryz.func66 rfl (by decide)) fun S w vs hS hn hv=>by
  have hn1:vs.size=1:=hn;obtain ⟨a,rfl⟩:∃ a,vs = #[a]:=⟨vs[0],by apply MP (by simpa using hn1);intro i h1 h2;simp at h2;subst h2;rfl⟩;obtain rfl:=B2 (hv 0 a _ rfl rfl);exact sk n w h
theorem aV {a b c:List UInt8} (hc:a ++ b=c) (hl:c.length<=9223372036854775807):(if (fw a).size+(fw b).size<=9223372036854775807 then some (Value.string (fw a ++ fw b)) else none)=some (Value.string (fw c)):=by
 rw [K5 (by rw [uz,uz];rw [<- hc,f4] at hl;exact hl),wy,hc]
theorem BX (x:Int):(0<=x /\ x.tmod 2=x % 2) \/ (x<0 /\ x.tmod 2 = -(x % 2)):=by
 by_cases h:0<=x
 .exact .inl ⟨h,LZ h⟩
 .refine .inr ⟨by omega,?_⟩;have h1:x.tmod 2 = -((-x).tmod 2):=by rw [Int.neg_tmod,Int.neg_neg]
  rw [h1,LZ (by omega)];omega
theorem kF (s i:Int) (hs:-9223372036854775808<=s) (hs2:s<=9223372036854775807):aw Tryz.prog 92 [eI s,eI i] (val (.bool (aW s i))):=by
 by_cases hpos:0<=s
 .exact C8 s i hpos hs2
 refine ab ah Tryz.func92 rfl (by decide) Tryz.ntmps92 Tryz.results92 rfl (aU _) ?_
 repeat' first|refine go ?_|decide|refine sp ?_ ?_<;>intro _
 .rename_i h;simp at h;simp [aW];omega
 .rename_i h1 h2;simp at h1 h2;simp [aW];omega
 .rename_i h1 h2;simp at h1 h2;obtain ⟨q,rfl⟩:∃ q:Nat,i=(q:Int):=⟨i.toNat,by omega⟩;have e0:s / 2 ^ 0=s:=by simp
  refine af (fun st=>∃ k:Nat,k<=q /\ st=⟨31,[(0,eI (s / 2 ^ k)),(1,eI (q:Int)),(5,eI (k:Int))],[],0⟩) (fun st=>q - ap st 5) ⟨_,(wE e0),0,KR _,rfl⟩ ?_;rintro _ ⟨k,hk,rfl⟩;have hp:(0:Int)<2 ^ k:=MS (by omega);have hd1:s / 2 ^ k<0:=Int.ediv_neg_of_neg_of_pos (by omega) hp
  have hd0:-9223372036854775808<=s / 2 ^ k:=by
   rw [Int.le_ediv_iff_mul_le hp];have:(1:Int)<=2 ^ k:=hp;have:=Int.mul_le_mul_of_nonpos_left (by omega:(-9223372036854775808:Int)<=0) this;omega
  have ed:s / 2 ^ (k+1)=s / 2 ^ k / 2:=by
   rw [Int.pow_succ,Int.ediv_ediv_of_nonneg (Int.le_of_lt (MS (by omega)))]
  have et0:=BX (s / 2 ^ k);generalize hx:s / 2 ^ k=x at *;obtain ⟨r,hr⟩:∃ r,r=x % 2:=⟨_,rfl⟩;have et:x.tmod 2 = -r:=by rw [hr];omega
  have hr2:r=0 \/ r=1:=by omega
  have ew:IntKind.i64.wrap (x - r)=x - r:=ay (by omega) (by omega)
  have eq:(x - r).tdiv 2=x / 2:=by
   have h1:(x - r).tdiv 2 = -((-(x - r)).tdiv 2):=(by rw [Int.neg_tdiv,Int.neg_neg]);rw [h1,MG (by omega)];omega
  have ew2:IntKind.i64.wrap (x / 2)=x / 2:=ay (by omega) (by omega);by_cases hlt:k<q
  .rcases hr2 with h0 | h0
   .have z0:(-(0:Int))=0:=rfl;have z1:x - 0=x:=(by omega);have ew3:IntKind.i64.wrap x=x:=ay (by omega) (by omega);rw [h0] at et ew eq;rw [z1] at eq;have dn:decide ((0:Int)<0)=false:=rfl
    repeat' first|refine ge (kf @hlt (kf @pK (kf et (kf z0 (kf z1 (kf dn (kf ew3 eq))))))) ?_|decide|refine sp ?_ ?_<;>intro _
    exact rI (wE (kf ed ew2)) ⟨k+1,by omega,rfl⟩
   .have z2:IntKind.i64.wrap (0 - -1)=1:=rfl;have dn:decide ((-1:Int)<0)=true:=rfl;have z3:IntKind.i64.wrap 1=1:=rfl;rw [h0] at et ew eq
    repeat' first|refine ge (kf @hlt (kf @pK (kf et (kf z2 (kf z3 (kf dn (kf ew eq))))))) ?_|decide|refine sp ?_ ?_<;>intro _
    exact rI (wE (kf ed ew2)) ⟨k+1,by omega,rfl⟩
  .obtain rfl:k=q:=by omega
   repeat' first|refine ge (kf @hlt (kf @pK et)) ?_|decide|refine sp ?_ ?_<;>intro _
   have hk31:(k:Int)<31:=(by omega);simp [aW,hx,hk31];rcases hr2 with h|h<;>simp [<- hr,h]
theorem tl (s:Int) (h0:-9223372036854775808<=s) (h1:s<=9223372036854775807):aw Tryz.prog 191 [eI s] (gi 3 1 ((cr s 31).map fun n:Nat=>[eI (n:Int)])):=by
 refine ab ah Tryz.func191 rfl (by decide) Tryz.ntmps191 Tryz.results191 rfl (dB _ _ _) ?_
 repeat' first|refine go ?_|decide|refine sp ?_ ?_<;>intro _
 refine af (fun st=>∃ k:Nat,k<=31 /\ st=⟨17,[(0,eI s),(3,.osl 0),(4,eI (k:Int))],[(0,some (.row 3 1 ((cr s k).map fun n:Nat=>[eI (n:Int)])))],1⟩) (fun st=>31 - ap st 4) ⟨_,((bf 3 3 1 (by simp only [iu,ak.get,bl,ak.put,↓reduceIte,reduceCtorEq,Nat.reduceLT,Nat.reduceEqDiff,Nat.reduceAdd,Nat.reduceLeDiff,eq_self,implies_true,cr,L7,MZ,Lq])).trans (wS [0] (kf @cr.eq_1 (kf @L7 @MZ)))),0,KR _,rfl⟩ ?_;rintro _ ⟨k,hk,rfl⟩;by_cases hlt:k<31
 .have d0:decide ((k:Int)<31)=true:=K4 (by omega);have hs:=kN s k;have hl:=dH s k;have hH:=kF s (k:Int) h0 h1
  cases hb:aW s (k:Int) with
  | true=>
   rw [hb] at hH;rw [hb,K5 rfl] at hs;have hsn:(cr s (k+1)).map (fun n:Nat=>[eI (n:Int)])=(cr s k).map (fun n:Nat=>[eI (n:Int)]) ++ [[eI (k:Int)]]:=by rw [hs,Lr];rfl
   repeat' first|refine gf d0 ?_|decide|refine sp ?_ ?_<;>intro _|refine cA hH ?_|(with_reducible apply And.intro)
   all_goals first
    | rfl
    | omega
    | exact rI (wS [2] @hsn) ⟨k+1,by omega,rfl⟩
  | false=>
   rw [hb] at hH;rw [hb,KY (by simp)] at hs
   repeat' first|refine gf d0 ?_|decide|refine sp ?_ ?_<;>intro _|refine cA hH ?_|(with_reducible apply And.intro)
   all_goals exact rI (wS [0] hs) ⟨k+1,by omega,rfl⟩
 .obtain rfl:k=31:=by omega
  have d0:decide (((31:Nat):Int)<31)=false:=rfl
  repeat' first|refine gf d0 ?_|decide|refine sp ?_ ?_<;>intro _
  all_goals exact bk (by simp [aa.gc])
theorem r8 (s:Int) (h0:-9223372036854775808<=s) (h1:s<=9223372036854775807):aw Tryz.prog 191 [eI s] ⟨pE (cr s 31),[],0⟩:=aw.still [0] (tl s h0 h1) (by simp [ce.frzs,ce.frz,gi,aa.gc,AV.frz]) (by simp [AV.lt])
abbrev Fs (l:List ByteArray):AV:=.sl 1 (l.map fun s=>[eS s])
theorem jS (l:List ByteArray) (i:Int):aw Tryz.prog 68 [Fs l,eI i] (val (.string (aC l i))):=by
 refine ab ah Tryz.func68 rfl (by decide) Tryz.ntmps68 Tryz.results68 rfl (aU _) ?_;by_cases h0:0<=i
 .have d0:decide (i<0)=false:=K0 (by omega);by_cases h1:i<(l.length:Int)
  .have hq:i.toNat<l.length:=(by omega);obtain ⟨x,hx⟩:∃ x,x=l[i.toNat]:=⟨_,rfl⟩;have hr:(l.map fun s=>[eS s])[i.toNat]?.getD []=[eS x]:=by rw [hx];simp [hq]
   have hw:aC l i=x:=by unfold aC;rw [K5 ⟨h0,h1⟩];simp [hq,hx]
   rw [hw];have d1:decide ((l.length:Int)<=i)=false:=K0 (by omega)
   repeat' first|refine ge (kf d0 (kf d1 (kf h0 (kf h1 (kf hq hr))))) ?_|decide|refine sp ?_ ?_<;>intro _
  .have hw:aC l i=fI:=KY (fun h=>h1 h.2);rw [hw];have d1:decide ((l.length:Int)<=i)=true:=K4 (by omega)
   repeat' first|refine ge (kf d0 d1) ?_|decide|refine sp ?_ ?_<;>intro _
   all_goals rfl
 .have hw:aC l i=fI:=KY (fun h=>h0 h.1);rw [hw];have d0:decide (i<0)=true:=K4 (by omega)
  repeat' first|refine ge d0 ?_|decide|refine sp ?_ ?_<;>intro _
  all_goals rfl
theorem Cl (m:aR) (hl:m.events.length<=1000000):aw Tryz.prog 69 [.agg (aM m)] (gi 9 1 ((m.events.map (·.name)).map fun s=>[eS s])):=by
 refine ab ah Tryz.func69 rfl (by decide) Tryz.ntmps69 Tryz.results69 rfl (dB _ _ _) ?_
 repeat' first|refine go ?_|decide|refine sp ?_ ?_<;>intro _
 refine af (fun st=>∃ k:Nat,k<=m.events.length /\ st=⟨22,[(1,.op 0 0 0),(3,.osl 1),(4,eI (k:Int))],[(0,some (.box 32 (aM m))),(1,some (.row 9 1 (((m.events.take k).map (·.name)).map fun s=>[eS s])))],2⟩) (fun st=>m.events.length - ap st 4) ⟨_,((bf 3 9 1 (by simp only [iu,ak.get,bl,ak.put,↓reduceIte,reduceCtorEq,Nat.reduceLT,Nat.reduceEqDiff,Nat.reduceAdd,Nat.reduceLeDiff,eq_self,implies_true,Lb,Lq])).trans (wS [0,1] @Lb)),0,KR _,rfl⟩ ?_;rintro _ ⟨k,hk,rfl⟩;by_cases hlt:k<m.events.length
 .obtain ⟨y,hy⟩:∃ y,y=m.events[k]:=⟨_,rfl⟩;have hry:(m.events.map wY)[k]?.getD []=wY y:=by rw [hy];simp [hlt]
  have hsn:((m.events.take (k+1)).map (·.name)).map (fun s=>[eS s])=((m.events.take k).map (·.name)).map (fun s=>[eS s]) ++ [[eS y.name]]:=by rw [KX hlt,Lr,Lr,hy];rfl
  have hlk:(m.events.take k).length<=1000000:=by rw [K6];omega
  repeat' first|refine gf (kf @hlt @hry) ?_|decide|refine sp ?_ ?_<;>intro _|(with_reducible apply And.intro)
  all_goals first
   | rfl
   | omega
   | exact rI (wS [0,3] @hsn) ⟨k+1,by omega,rfl⟩
 .obtain rfl:k=m.events.length:=by omega
  rw [K7]
  repeat' first|refine gf @hlt ?_|decide|refine sp ?_ ?_<;>intro _
  all_goals exact bk (by simp [aa.gc])
theorem yk (m:aR) (hl:m.events.length<=1000000):aw Tryz.prog 69 [.agg (aM m)] ⟨Fs (m.events.map (·.name)),[],0⟩:=aw.still [0] (Cl m hl) (by simp [ce.frzs,ce.frz,gi,aa.gc,AV.frz]) (by simp [AV.lt])
theorem Bu (m:aR) (hl:m.stages.length<=1000000):aw Tryz.prog 110 [.agg (aM m)] (gi 9 1 ((m.stages.map (·.1)).map fun s=>[eS s])):=by
 refine ab ah Tryz.func110 rfl (by decide) Tryz.ntmps110 Tryz.results110 rfl (dB _ _ _) ?_
 repeat' first|refine go ?_|decide|refine sp ?_ ?_<;>intro _
 refine af (fun st=>∃ k:Nat,k<=m.stages.length /\ st=⟨22,[(1,.op 0 0 0),(3,.osl 1),(4,eI (k:Int))],[(0,some (.box 32 (aM m))),(1,some (.row 9 1 (((m.stages.take k).map (·.1)).map fun s=>[eS s])))],2⟩) (fun st=>m.stages.length - ap st 4) ⟨_,((bf 3 9 1 (by simp only [iu,ak.get,bl,ak.put,↓reduceIte,reduceCtorEq,Nat.reduceLT,Nat.reduceEqDiff,Nat.reduceAdd,Nat.reduceLeDiff,eq_self,implies_true,Lb,Lq])).trans (wS [0,1] @Lb)),0,KR _,rfl⟩ ?_;rintro _ ⟨k,hk,rfl⟩;by_cases hlt:k<m.stages.length
 .obtain ⟨y,hy⟩:∃ y,y=m.stages[k]:=⟨_,rfl⟩;have hry:(m.stages.map CK)[k]?.getD []=CK y:=by rw [hy];simp [hlt]
  have hsn:((m.stages.take (k+1)).map (·.1)).map (fun s=>[eS s])=((m.stages.take k).map (·.1)).map (fun s=>[eS s]) ++ [[eS y.1]]:=by rw [KX hlt,Lr,Lr,hy];rfl
  have hlk:(m.stages.take k).length<=1000000:=by rw [K6];omega
  repeat' first|refine gf (kf @hlt @hry) ?_|decide|refine sp ?_ ?_<;>intro _|(with_reducible apply And.intro)
  all_goals first
   | rfl
   | omega
   | exact rI (wS [0,3] @hsn) ⟨k+1,by omega,rfl⟩
 .obtain rfl:k=m.stages.length:=by omega
  rw [K7]
  repeat' first|refine gf @hlt ?_|decide|refine sp ?_ ?_<;>intro _
  all_goals exact bk (by simp [aa.gc])
theorem EY (m:aR) (hl:m.stages.length<=1000000):aw Tryz.prog 110 [.agg (aM m)] ⟨Fs (m.stages.map (·.1)),[],0⟩:=aw.still [0] (Bu m hl) (by simp [ce.frzs,ce.frz,gi,aa.gc,AV.frz]) (by simp [AV.lt])
theorem De (m:aR) (hl:m.miles.length<=1000000):aw Tryz.prog 111 [.agg (aM m)] (gi 9 1 ((m.miles.map (·.name)).map fun s=>[eS s])):=by
 refine ab ah Tryz.func111 rfl (by decide) Tryz.ntmps111 Tryz.results111 rfl (dB _ _ _) ?_
 repeat' first|refine go ?_|decide|refine sp ?_ ?_<;>intro _
 refine af (fun st=>∃ k:Nat,k<=m.miles.length /\ st=⟨22,[(1,.op 0 0 0),(3,.osl 1),(4,eI (k:Int))],[(0,some (.box 32 (aM m))),(1,some (.row 9 1 (((m.miles.take k).map (·.name)).map fun s=>[eS s])))],2⟩) (fun st=>m.miles.length - ap st 4) ⟨_,((bf 3 9 1 (by simp only [iu,ak.get,bl,ak.put,↓reduceIte,reduceCtorEq,Nat.reduceLT,Nat.reduceEqDiff,Nat.reduceAdd,Nat.reduceLeDiff,eq_self,implies_true,Lb,Lq])).trans (wS [0,1] @Lb)),0,KR _,rfl⟩ ?_;rintro _ ⟨k,hk,rfl⟩;by_cases hlt:k<m.miles.length
 .obtain ⟨y,hy⟩:∃ y,y=m.miles[k]:=⟨_,rfl⟩;have hry:(m.miles.map tj)[k]?.getD []=tj y:=by rw [hy];simp [hlt]
  have hsn:((m.miles.take (k+1)).map (·.name)).map (fun s=>[eS s])=((m.miles.take k).map (·.name)).map (fun s=>[eS s]) ++ [[eS y.name]]:=by rw [KX hlt,Lr,Lr,hy];rfl
  have hlk:(m.miles.take k).length<=1000000:=by rw [K6];omega
  repeat' first|refine gf (kf @hlt @hry) ?_|decide|refine sp ?_ ?_<;>intro _|(with_reducible apply And.intro)
  all_goals first
   | rfl
   | omega
   | exact rI (wS [0,3] @hsn) ⟨k+1,by omega,rfl⟩
 .obtain rfl:k=m.miles.length:=by omega
  rw [K7]
  repeat' first|refine gf @hlt ?_|decide|refine sp ?_ ?_<;>intro _
  all_goals exact bk (by simp [aa.gc])
theorem EW (m:aR) (hl:m.miles.length<=1000000):aw Tryz.prog 111 [.agg (aM m)] ⟨Fs (m.miles.map (·.name)),[],0⟩:=aw.still [0] (De m hl) (by simp [ce.frzs,ce.frz,gi,aa.gc,AV.frz]) (by simp [AV.lt])
end
section
theorem qR {l:List (List UInt8)} (h:l ≠ []) (w:List UInt8):Lib.join (l ++ [w]) [61]=Lib.join l [61] ++ ([61] ++ w):=by
 cases l with
 | nil=>exact absurd rfl h
 | cons x r=>
  have e:Lib.joinTail [61] (r ++ [w])=Lib.joinTail [61] r ++ ([61] ++ w):=by simp [Lib.joinTail]
  rw [Md,Lib.join_cons,Lib.join_cons,e,KZ]
theorem tt (w:List UInt8):Lib.join [w] [61]=w:=by simp [Lib.join_cons,Lib.joinTail]
theorem yH (m:aR) (c:List Int) (x:dN) (hc:∀ n ∈ c,aq n) (hcl:c.length<=1000000) (hm:∀ s ∈ m.attrs,s.size<=60) (h0:-9223372036854775808<=x.attrs) (h1:x.attrs<=9223372036854775807):aw Tryz.prog 145 [.agg (aM m),sI c,.agg (bR x)] (val (.string (fw (fF m c x)))):=by
 have hT:=pN (x:=x) hc hm;have hL:=r8 x.attrs h0 h1;have hll:=dH x.attrs 31;obtain ⟨l,hl⟩:∃ l,l=cr x.attrs 31:=⟨_,rfl⟩;rw [<- hl] at hL hll;obtain ⟨V,hV⟩:∃ V:List (List UInt8),V=l.map (fun i:Nat=>(aC m.attrs (i:Int)).data.toList):=⟨_,rfl⟩;have hVl:V.length=l.length:=by rw [hV,Lg]
 have hVs:∀ w ∈ V,w.length<=60:=fun w hw=>by
  rw [hV] at hw;obtain ⟨i,_,rfl⟩:=K8.1 hw;rw [Ll];exact ii hm (by omega) _
 have hTV:fF m c x=Lib.join (V ++ (dE c x.const).map (·.data.toList)) [61]:=by
  unfold fF cI;rw [Lr,List.map_map,<- hl,hV];rfl
 have hJl:∀ k,(Lib.join (V.take k) [61]).length<=1891:=fun k=>by
  have h2:=qP 60 (V.take k) fun w hw=>hVs w (Lk hw);have h3:(V.take k).length<=31:=by rw [K6];omega
  omega
 have f61:(⟨#[61]⟩:ByteArray)=fw [61]:=rfl;have hj0:fw (Lib.join (V.take 0) [61])=⟨#[]⟩:=by rw [Lb,Lib.join_nil];rfl
 refine ab ah Tryz.func145 rfl (by decide) Tryz.ntmps145 Tryz.results145 rfl (aU _) ?_
 repeat' first|refine go ?_|decide|refine sp ?_ ?_<;>intro _
 refine dU hL (ro) ?_
 repeat' first|refine go ?_|decide|refine sp ?_ ?_<;>intro _
 refine af (fun st=>∃ k:Nat,k<=l.length /\ st=⟨56,[(1,sI c),(3,.op 0 0 0),(5,.op 1 0 0),(7,.c (.string (fw (Lib.join (V.take k) [61])))),(8,pE l),(9,eI (k:Int))],[(0,some (.box 32 (aM m))),(1,some (.box 128 (bR x)))],2⟩) (fun st=>l.length - ap st 9) ⟨_,(wE hj0),0,KR _,rfl⟩ ?_;rintro _ ⟨k,hk,rfl⟩;by_cases hlt:k<l.length
 .obtain ⟨i,hi⟩:∃ i,i=l[k]:=⟨_,rfl⟩;have hri:(l.map fun n:Nat=>[eI (n:Int)])[k]?.getD []=[eI (i:Int)]:=by rw [hi];simp [hlt]
  have hw:=jS m.attrs (i:Int);obtain ⟨w,hw2⟩:∃ w,w=(aC m.attrs (i:Int)).data.toList:=⟨_,rfl⟩;have hw3:aC m.attrs (i:Int)=fw w:=by rw [hw2,kk]
  rw [hw3] at hw;have hwl:w.length<=60:=by rw [hw2,Ll];exact ii hm (by omega) _
  have hVk:V[k]'(by omega)=w:=by simp [hV,hw2,hi]
  have htk:V.take (k+1)=V.take k ++ [w]:=by rw [KX (by omega),hVk]
  have hJ:=hJl k;by_cases hk0:k=0
  .have d0:decide ((0:Int)<(k:Int))=false:=K0 (by omega);have d1:¬ 0<k:=(by omega);have hsk:Lib.join (V.take k) [61]=[]:=(by rw [hk0,Lb,Lib.join_nil]);have hj1:Lib.join (V.take (k+1)) [61]=w:=(by rw [htk,hk0,Lb,LT,tt]);have e1:=aV (a:=[]) (b:=w) (c:=Lib.join (V.take (k+1)) [61]) (by rw [hj1];rfl) (by rw [hj1];omega);rw [hsk]
   repeat' first|refine gf (kf @hlt (kf @hri (kf d0 (kf d1 e1)))) ?_|decide|refine sp ?_ ?_<;>intro _|refine cA hw ?_|fail
   all_goals exact rI wC ⟨k+1,by omega,rfl⟩
  .have hk1:0<k:=(by omega);have d0:decide ((0:Int)<(k:Int))=true:=K4 (by omega)
   have hne:V.take k ≠ []:=fun h=>by
    have:=congrArg List.length h;rw [K6,K3] at this;omega
   have hj1:Lib.join (V.take (k+1)) [61]=Lib.join (V.take k) [61] ++ [61] ++ w:=(by rw [htk,qR hne,KZ]);have e1:=aV (a:=Lib.join (V.take k) [61]) (b:=[61]) (c:=Lib.join (V.take k) [61] ++ [61]) rfl (by simp;omega);have e2:=aV (a:=Lib.join (V.take k) [61] ++ [61]) (b:=w) (c:=Lib.join (V.take (k+1)) [61]) hj1.symm (by have:=hJl (k+1);omega)
   repeat' first|refine gf (kf @hlt (kf @hri (kf d0 (kf hk1 (kf f61 (kf e1 e2)))))) ?_|decide|refine sp ?_ ?_<;>intro _|refine cA hw ?_|fail
   all_goals exact rI wC ⟨k+1,by omega,rfl⟩
 .obtain rfl:k=l.length:=by omega
  have htl:V.take l.length=V:=by rw [<- hVl,K7]
  have hJ:=hJl l.length;rw [htl] at hJ ⊢;by_cases hx0:x.const<0
  .have hTe:fF m c x=Lib.join V [61]:=by
    rw [hTV];unfold dE;rw [KY (by omega),KY (by omega),Lq,Ln]
   rw [hTe]
   repeat' first|refine gf (kf @hlt hx0) ?_|decide|refine sp ?_ ?_<;>intro _
  .have hc0:0<=x.const:=by omega
   have hends:∀ t:List UInt8,t.length<=60 -> (l=[] -> Lib.join (V ++ [t]) [61]=Lib.join V [61] ++ t) /\ (l ≠ [] -> Lib.join (V ++ [t]) [61]=Lib.join V [61] ++ [61] ++ t):=fun t _=>by
    refine ⟨fun h=>?_,fun h=>?_⟩
    .have:V=[]:=by rw [hV,h];rfl
     rw [this,LT,tt,Lib.join_nil,LT]
    .have:V ≠ []:=fun h2=>h (Mm.1 (by rw [<- hVl,h2];rfl));rw [qR this,KZ]
   have f63:(⟨#[63]⟩:ByteArray)=fw [63]:=rfl;by_cases hk1:(c.length:Int)<=x.const
   .have hTe:fF m c x=Lib.join (V ++ [[63]]) [61]:=by
     rw [hTV];unfold dE;rw [K5 hk1];rfl
    obtain ⟨hE1,hE2⟩:=hends [63] (by simp);rw [hTe];by_cases hl0:l=[]
    .have d0:decide ((0:Int)<(l.length:Int))=false:=K0 (by rw [hl0];simp);have d1:¬ 0<l.length:=by rw [hl0];simp
     have e1:=aV (hE1 hl0).symm (by rw [hE1 hl0,f4];simp;omega)
     repeat' first|refine gf (kf @hlt (kf hx0 (kf d0 (kf d1 (kf hk1 (kf f63 e1)))))) ?_|decide|refine sp ?_ ?_<;>intro _
    .have d1:0<l.length:=List.length_pos_iff.2 hl0;have d0:decide ((0:Int)<(l.length:Int))=true:=K4 (by omega);have e0:=aV (a:=Lib.join V [61]) (b:=[61]) (c:=Lib.join V [61] ++ [61]) rfl (by simp;omega);have e1:=aV (hE2 hl0).symm (by rw [hE2 hl0,f4,f4];simp;omega)
     repeat' first|refine gf (kf @hlt (kf hx0 (kf d0 (kf d1 (kf hk1 (kf f61 (kf f63 (kf e0 e1)))))))) ?_|decide|refine sp ?_ ?_<;>intro _
   .have hk:x.const.toNat<c.length:=(by omega);obtain ⟨n,hn⟩:∃ n,n=c[x.const.toNat]:=⟨_,rfl⟩;have hrn:(c.map fun n=>[eI n])[x.const.toNat]?.getD []=[eI n]:=by rw [hn];simp [hk]
    have hno:aq n:=by rw [hn];exact hc _ (KQ hk)
    have hP:=gP n hno;have hk2:x.const<(c.length:Int):=(by omega);have hil:=fX hno
    have hTe:fF m c x=Lib.join (V ++ [Lib.itoa n]) [61]:=by
     rw [hTV];unfold dE;rw [KY hk1,K5 hc0,KP,KN hk,hn];rfl
    obtain ⟨hE1,hE2⟩:=hends (Lib.itoa n) (by omega);rw [hTe];by_cases hl0:l=[]
    .have d0:decide ((0:Int)<(l.length:Int))=false:=K0 (by rw [hl0];simp);have d1:¬ 0<l.length:=by rw [hl0];simp
     have e1:=aV (hE1 hl0).symm (by rw [hE1 hl0,f4];omega)
     repeat' first|refine gf (kf @hlt (kf hx0 (kf hc0 (kf d0 (kf d1 (kf hk1 (kf hk2 (kf hk (kf @hrn e1))))))))) ?_|decide|refine sp ?_ ?_<;>intro _|refine cA hP ?_|fail
    .have d1:0<l.length:=List.length_pos_iff.2 hl0;have d0:decide ((0:Int)<(l.length:Int))=true:=K4 (by omega);have e0:=aV (a:=Lib.join V [61]) (b:=[61]) (c:=Lib.join V [61] ++ [61]) rfl (by simp;omega);have e1:=aV (hE2 hl0).symm (by rw [hE2 hl0,f4,f4];simp;omega)
     repeat' first|refine gf (kf @hlt (kf hx0 (kf hc0 (kf d0 (kf d1 (kf hk1 (kf hk2 (kf hk (kf @hrn (kf f61 (kf e0 e1))))))))))) ?_|decide|refine sp ?_ ?_<;>intro _|refine cA hP ?_|fail
end
end
end Go.Proofs.YtiaiihjmmfakdaaGreatDoor
