/-
  Parts of the proof: Clp25, Clp26, Clp27, Clp28, Clp29, Clp30, Clp31.
-/
import Derived.Test.YtmmoidfcfjklaaaGreatClq8
set_option linter.unusedVariables false
set_option linter.unusedSimpArgs false
set_option linter.defProp false
set_option maxRecDepth 100000
set_option maxHeartbeats 16000000
namespace Go.Proofs.YtmmoidfcfjklaaaGreat
open Go.RowKit
section
section
theorem vt (l:List Int) (r:Int) (hl:l.length<=1000000):aw Tryz.prog 176 [sI l,eI r] (g8 3 1 (l.map fun n=>[eI (cp n r)])):=by
 refine aa ag Tryz.func176 rfl (by decide) Tryz.ntmps176 Tryz.results176 rfl (ch _ _ _) ?_
 repeat' first|refine go ?_|decide|refine sp ?_ ?_<;>intro _
 refine ae (fun st=>∃ k:Nat,k<=l.length /\ st=⟨23,[(0,sI l),(1,eI r),(5,.osl 0),(6,eI (k:Int))],[(0,some (.row 3 1 ((l.take k).map fun n=>[eI (cp n r)])))],1⟩) (fun st=>l.length - ap st 6) ⟨_,((be 5 3 1 (by simp only [iz,aj.get,bb,aj.put,↓reduceIte,reduceCtorEq,Nat.reduceLT,Nat.reduceEqDiff,Nat.reduceAdd,Nat.reduceLeDiff,eq_self,implies_true,Vu,VL])).trans (wS [0] @Vu)),0,Vd _,rfl⟩ ?_;rintro _ ⟨k,hk,rfl⟩;by_cases hlt:k<l.length
 .have et:(l.take (k+1)).map (fun n=>[eI (cp n r)])=(l.take k).map (fun n=>[eI (cp n r)]) ++ [[eI (cp l[k] r)]]:=dc _ _ hlt;obtain ⟨x,hx⟩:∃ x,x=l[k]:=⟨_,rfl⟩;have hrow:(l.map fun n=>[eI n])[k]?.getD []=[eI x]:=by rw [hx];simp [hlt]
  rw [<- hx] at et;have hc:=n5 x r;have htl:(l.take k).length<=1000000:=by rw [Vr];omega
  repeat' first|refine gf (kf @hrow @hlt) ?_|decide|refine sp ?_ ?_<;>intro _|refine cA hc ?_|(with_reducible apply And.intro)
  all_goals first
   | rfl
   | omega
   | exact rI (wS [2] et) ⟨k+1,by omega,rfl⟩
 .obtain rfl:k=l.length:=by omega
  repeat' first|refine gf (kf @hlt @Vq) ?_|decide|refine sp ?_ ?_<;>intro _
  exact aM (by simp [af.gc])
def od (z:Zn) (r:Int):List Int:=z.gaps.map fun n=>cp n (r - 1)
def jt (z:Zn) (a:Int) (at_:Nat) (r:Int) (ahead:Nat) (come:List Int) (behind:Nat):Zn:=⟨z.cls.take at_ ++ ⟨dN 0 a,-1⟩ :: z.cls.drop at_,(od z r).take ahead ++ (come ++ (od z r).drop behind)⟩
def nC (z:Zn):cS:=⟨.agg [.osl 0,.osl 1],[(0,some (.row 213 2 (z.cls.map cO))),(1,some (.row 3 1 (z.gaps.map fun n=>[eI n])))],2⟩
theorem Ef (z:Zn):(nC z).Ok:=ls (by simp [nC,cX,aD.lt,AV.ltL,AV.lt]) (by simp [nC,AV.lt,AV.ltL])
theorem rU (z:Zn) (a:Int) (at_:Nat) (r:Int) (ahead:Nat) (come:List Int) (behind:Nat) {N:Nat} (hN:N<=1000000) (hz:nk N z) (ha:0<=a /\ a<31) (hat:at_<=z.cls.length) (hah:ahead<=z.gaps.length) (hbe:behind<=z.gaps.length) (hco:come.length<=10) (hr:-1000000<=r /\ r<=1000000) :
  aw Tryz.prog 148 [.agg (cw z),eI a,eI (at_:Int),eI r,eI (ahead:Int),sI come,eI (behind:Int)] (nC (jt z a at_ r ahead come behind)):=by
 refine BO Tryz.func148 rfl (by decide) Tryz.ntmps148 Tryz.results148 rfl (Ef _) ?_;have er:IntKind.i64.wrap (r - 1)=r - 1:=aB (by omega) (by omega);have hcl:=hz.cl;have hga:=hz.ga;have hCl:=vt z.gaps (r - 1) (by omega);have hP:=sD 0 a true (by simp [aF]) ha.1 ha.2;rw [Vo rfl] at hP;have hgl:(od z r).length=z.gaps.length:=by simp [od]
 have hgm:(z.gaps.map fun n=>[eI (cp n (r - 1))])=(od z r).map fun n=>[eI n]:=by simp [od]
 rw [hgm] at hCl;have hClT:=aw.still [0] hCl (r:=sI (od z r)) (by simp [cS.frzs,cS.frz,g8,af.gc,AV.frz]) (by simp [AV.lt]);have f0:List.drop (Int.toNat 0) (List.take at_ (z.cls.map cO))=(z.cls.take at_).map cO:=by simp
 have f1:List.drop at_ (List.take z.cls.length (z.cls.map cO))=(z.cls.drop at_).map cO:=by
  rw [VF (by simp)];simp
 have f2:List.drop (Int.toNat 0) (List.take ahead ((od z r).map fun n=>[eI n]))=((od z r).take ahead).map fun n=>[eI n]:=by simp
 have f3:List.drop behind (List.take z.gaps.length ((od z r).map fun n=>[eI n]))=((od z r).drop behind).map fun n=>[eI n]:=by
  rw [VF (by simp [hgl])];simp
 have l1:(z.cls.take at_).length<=1000000:=by rw [Vr];omega
 have l2:(z.cls.drop at_).length<=1000000:=by rw [Wa];omega
 have l3:((od z r).take ahead).length<=1000000:=by rw [Vr];omega
 have l4:((od z r).drop behind).length<=1000000:=by rw [Wa];omega
 have k2:(z.cls.take at_ ++ [(⟨dN 0 a,-1⟩:fU)]).length<=1000001:=by rw [Vk];simp only [Vz];omega
 have k3:((od z r).take ahead ++ come).length<=1000010:=by rw [Vk];omega
 have m2:(z.cls.take at_ ++ [(⟨dN 0 a,-1⟩:fU)]).map cO=(z.cls.take at_).map cO ++ [[eI (dN 0 a),eI (-1)]]:=by simp
 have m3:(jt z a at_ r ahead come behind).cls.map cO=(z.cls.take at_ ++ [(⟨dN 0 a,-1⟩:fU)]).map cO ++ (z.cls.drop at_).map cO:=by simp [jt]
 have m4:(((od z r).take ahead ++ come).map fun n=>[eI n])=(((od z r).take ahead).map fun n=>[eI n]) ++ come.map fun n=>[eI n]:=by simp
 have m5:((jt z a at_ r ahead come behind).gaps.map fun n=>[eI n])=(((od z r).take ahead ++ come).map fun n=>[eI n]) ++ ((od z r).drop behind).map fun n=>[eI n]:=by simp [jt]
 refine lr (fun st=>st=⟨66,[(1,eI a),(2,eI (at_:Int)),(3,eI r),(4,eI (ahead:Int)),(5,sI come),(6,eI (behind:Int)),(7,.op 0 0 0),(14,.op 1 0 0)],[(0,some (.box 91 (cw z))),(1,some (.box 91 [.c (.slice none 0 0),.c (.slice none 0 0)]))],2⟩) (ng ag ?_) ?_
 .repeat' first|refine gq ?_|decide|refine sp ?_ ?_<;>intro _
  exact fJ wC rfl
 rintro _ rfl;refine lr (fun st=>st=⟨66,[(1,eI a),(2,eI (at_:Int)),(3,eI r),(4,eI (ahead:Int)),(5,sI come),(6,eI (behind:Int)),(7,.op 0 0 0),(14,.op 1 0 0),(15,.op 2 0 0)],[(0,some (.box 91 (cw z))),(1,some (.box 91 [.c (.slice none 0 0),.c (.slice none 0 0)])),(2,some (.box 91 [.osl 3,.osl 4])),(3,some (.row 213 2 ([]))),(4,some (.row 3 1 ([])))],5⟩) (ng ag ?_) ?_
 .repeat' first|refine gq ?_|decide|refine sp ?_ ?_<;>intro _
  exact fJ ((cu 2 0 213 2 (t:=91) (cells:=[.c (.slice none 0 0),.c (.slice none 0 0)]) (by simp [af.gc]) rfl).trans ((cu 2 1 3 1 (t:=91) (cells:=[.osl 3,.c (.slice none 0 0)]) (by simp [af.gc]) rfl).trans (wE (kf @WB @W5)))) rfl
 rintro _ rfl;refine lr (fun st=>st=⟨66,[(1,eI a),(2,eI (at_:Int)),(3,eI r),(4,eI (ahead:Int)),(5,sI come),(6,eI (behind:Int)),(7,.op 0 0 0),(14,.op 1 0 0),(15,.op 2 0 0)],[(0,some (.box 91 (cw z))),(1,some (.box 91 [.c (.slice none 0 0),.c (.slice none 0 0)])),(2,some (.box 91 [.osl 3,.osl 4])),(3,some (.row 213 2 ((z.cls.take at_).map cO))),(4,some (.row 3 1 ([])))],5⟩) (ng ag ?_) ?_
 .repeat' first|refine go ?_|decide|refine sp ?_ ?_<;>intro _
  refine ay [2,3] [0,2,3,4,5] (.exec 1 (.exec 6 (.take 7 (.exec 8 .done)))) (by kernel_rfl) (by simp [af.gc]) ?_
  repeat' first|refine gf (kf @hat f0) ?_|decide|refine sp ?_ ?_<;>intro _|(with_reducible apply And.intro)
  all_goals first
   | rfl
   | omega
   | exact fJ (wR [0,1,2,5,4]) rfl
 rintro _ rfl;refine lr (fun st=>st=⟨66,[(1,eI a),(2,eI (at_:Int)),(3,eI r),(4,eI (ahead:Int)),(5,sI come),(6,eI (behind:Int)),(7,.op 0 0 0),(14,.op 1 0 0),(15,.op 2 0 0)],[(0,some (.box 91 (cw z))),(1,some (.box 91 [.c (.slice none 0 0),.c (.slice none 0 0)])),(2,some (.box 91 [.osl 3,.osl 4])),(3,some (.row 213 2 ((z.cls.take at_ ++ [(⟨dN 0 a,-1⟩:fU)]).map cO))),(4,some (.row 3 1 ([])))],5⟩) (ng ag ?_) ?_
 .repeat' first|refine go ?_|decide|refine sp ?_ ?_<;>intro _
  refine ay [2,3] [0,2] (.two 1 (.exec 3 (.take 4 (.exec 5 (.exec 6 (.take 7 (.exec 8 .done)))))) 3 (.take 4 (.two 1 (.exec 5 (.exec 6 (.take 7 (.exec 8 .done)))) 5 (.exec 1 (.exec 6 (.take 7 (.exec 8 .done))))))) (by kernel_rfl) (by simp [af.gc]) ?_
  repeat' first|refine gq ?_|decide|refine sp ?_ ?_<;>intro _|refine cA hP ?_|(with_reducible apply And.intro)
  all_goals first
   | rfl
   | omega
   | exact fJ (wS [0,1,2,6,4] m2) rfl
 rintro _ rfl;refine lr (fun st=>st=⟨66,[(1,eI a),(2,eI (at_:Int)),(3,eI r),(4,eI (ahead:Int)),(5,sI come),(6,eI (behind:Int)),(7,.op 0 0 0),(14,.op 1 0 0),(15,.op 2 0 0)],[(0,some (.box 91 (cw z))),(1,some (.box 91 [.c (.slice none 0 0),.c (.slice none 0 0)])),(2,some (.box 91 [.osl 3,.osl 4])),(3,some (.row 213 2 ((jt z a at_ r ahead come behind).cls.map cO))),(4,some (.row 3 1 ([])))],5⟩) (ng ag ?_) ?_
 .repeat' first|refine go ?_|decide|refine sp ?_ ?_<;>intro _
  refine ay [2,3] [0,2,3,4,5] (.exec 1 (.exec 6 (.take 7 (.exec 8 .done)))) (by kernel_rfl) (by simp [af.gc]) ?_
  repeat' first|refine gf (kf @hat f1) ?_|decide|refine sp ?_ ?_<;>intro _|(with_reducible apply And.intro)
  all_goals first
   | rfl
   | omega
   | exact fJ (wS [0,1,2,5,4] m3) rfl
 rintro _ rfl;refine lr (fun st=>st=⟨66,[(1,eI a),(2,eI (at_:Int)),(3,eI r),(4,eI (ahead:Int)),(5,sI come),(6,eI (behind:Int)),(7,.op 0 0 0),(14,.op 1 0 0),(15,.op 2 0 0),(16,sI (od z r))],[(0,some (.box 91 (cw z))),(1,some (.box 91 [.c (.slice none 0 0),.c (.slice none 0 0)])),(2,some (.box 91 [.osl 3,.osl 4])),(3,some (.row 213 2 ((jt z a at_ r ahead come behind).cls.map cO))),(4,some (.row 3 1 ([])))],5⟩) (ng ag ?_) ?_
 .repeat' first|refine gf er ?_|decide|refine sp ?_ ?_<;>intro _|refine cA hClT ?_|fail
  all_goals exact fJ wC rfl
 rintro _ rfl;refine lr (fun st=>st=⟨66,[(1,eI a),(2,eI (at_:Int)),(3,eI r),(4,eI (ahead:Int)),(5,sI come),(6,eI (behind:Int)),(7,.op 0 0 0),(14,.op 1 0 0),(15,.op 2 0 0),(16,sI (od z r))],[(0,some (.box 91 (cw z))),(1,some (.box 91 [.c (.slice none 0 0),.c (.slice none 0 0)])),(2,some (.box 91 [.osl 3,.osl 4])),(3,some (.row 213 2 ((jt z a at_ r ahead come behind).cls.map cO))),(4,some (.row 3 1 (((od z r).take ahead).map fun n=>[eI n])))],5⟩) (ng ag ?_) ?_
 .repeat' first|refine go ?_|decide|refine sp ?_ ?_<;>intro _
  refine ay [2,4] [0,2,3,4] (.exec 1 (.exec 5 (.take 6 (.exec 7 .done)))) (by kernel_rfl) (by simp [af.gc]) ?_
  repeat' first|refine gf (kf @hah (kf @hgl f2)) ?_|decide|refine sp ?_ ?_<;>intro _|(with_reducible apply And.intro)
  all_goals first
   | rfl
   | omega
   | exact fJ (wR [0,1,2,3,5]) rfl
 rintro _ rfl;refine lr (fun st=>st=⟨66,[(1,eI a),(2,eI (at_:Int)),(3,eI r),(4,eI (ahead:Int)),(5,sI come),(6,eI (behind:Int)),(7,.op 0 0 0),(14,.op 1 0 0),(15,.op 2 0 0),(16,sI (od z r))],[(0,some (.box 91 (cw z))),(1,some (.box 91 [.c (.slice none 0 0),.c (.slice none 0 0)])),(2,some (.box 91 [.osl 3,.osl 4])),(3,some (.row 213 2 ((jt z a at_ r ahead come behind).cls.map cO))),(4,some (.row 3 1 (((od z r).take ahead ++ come).map fun n=>[eI n])))],5⟩) (ng ag ?_) ?_
 .repeat' first|refine gq ?_|decide|refine sp ?_ ?_<;>intro _|(with_reducible apply And.intro)
  all_goals first
   | rfl
   | omega
   | exact fJ (wS [0,1,2,3,5] m4) rfl
 rintro _ rfl;refine lr (fun st=>st=⟨66,[(1,eI a),(2,eI (at_:Int)),(3,eI r),(4,eI (ahead:Int)),(5,sI come),(6,eI (behind:Int)),(7,.op 0 0 0),(14,.op 1 0 0),(15,.op 2 0 0),(16,sI (od z r))],[(0,some (.box 91 (cw z))),(1,some (.box 91 [.c (.slice none 0 0),.c (.slice none 0 0)])),(2,some (.box 91 [.osl 3,.osl 4])),(3,some (.row 213 2 ((jt z a at_ r ahead come behind).cls.map cO))),(4,some (.row 3 1 ((jt z a at_ r ahead come behind).gaps.map fun n=>[eI n])))],5⟩) (ng ag ?_) ?_
 .repeat' first|refine go ?_|decide|refine sp ?_ ?_<;>intro _
  refine ay [2,4] [0,2,3,4] (.exec 1 (.exec 5 (.take 6 (.exec 7 .done)))) (by kernel_rfl) (by simp [af.gc]) ?_
  repeat' first|refine gf (kf @hbe (kf @hgl f3)) ?_|decide|refine sp ?_ ?_<;>intro _|(with_reducible apply And.intro)
  all_goals first
   | rfl
   | omega
   | exact fJ (wS [0,1,2,3,5] m5) rfl
 rintro _ rfl;refine ng ag ?_
 repeat' first|refine gq ?_|decide|refine sp ?_ ?_<;>intro _
 all_goals exact ⟨[3,4],by decide,rfl,by simp [cM,nC,af.gc]⟩
theorem kO (z:Zn):(nC z).r.plain /\ (nC z).tab.plain:=by
 refine ⟨⟨trivial,trivial,trivial⟩,?_⟩;simp only [nC];refine ⟨fun row hr av ha=>?_,fun row hr av ha=>?_,trivial⟩
 .obtain ⟨x,_,rfl⟩:=Vx.1 hr;simp at ha;rcases ha with rfl|rfl<;>trivial
 .obtain ⟨x,_,rfl⟩:=Vx.1 hr;simp at ha;subst ha;trivial
def BI (z:Zn) (a:Int) (i:Nat) (r:Int):Zn:=⟨z.cls.set i ⟨dN (z.cls.getD i default).attrs a,(z.cls.getD i default).const⟩,od z r⟩
theorem Rj (z:Zn) (a:Int) (i:Nat) (r:Int) {N:Nat} (hN:N<=1000000) (hz:nk N z) (ha:0<=a /\ a<31) (hi:i<z.cls.length) (hr:-1000000<=r /\ r<=1000000):aw Tryz.prog 149 [.agg (cw z),eI a,eI (i:Int),eI r] ⟨.agg (cw (BI z a i r)),[],0⟩:=by
 refine aw.still (R:=nC (BI z a i r)) [0,1] ?_ (by simp [nC,cS.frzs,cS.frz,af.gc,AV.frz,AV.frzL,b8,aD.frz]) (by simp [AV.lt,AV.ltL]);refine aa ag Tryz.func149 rfl (by decide) Tryz.ntmps149 Tryz.results149 rfl (Ef _) ?_;have er:IntKind.i64.wrap (r - 1)=r - 1:=aB (by omega) (by omega);have hcl:=hz.cl;have hga:=hz.ga;obtain ⟨x,hx⟩:∃ x,z.cls[i]=x:=⟨_,rfl⟩;have hxg:z.cls.getD i default=x:=by rw [Vm,p0 hi,<- hx];rfl
 have hrx:(z.cls.map cO)[i]?.getD []=cO x:=by simp [hi,hx]
 have hxo:aF x.attrs:=hz.at_ x (hx ▸ Vg hi);have hP:=sD x.attrs a true hxo ha.1 ha.2;rw [Vo rfl] at hP;have hCl:=vt z.gaps (r - 1) (by omega);have hgm:(z.gaps.map fun n=>[eI (cp n (r - 1))])=(BI z a i r).gaps.map fun n=>[eI n]:=by simp [BI,od]
 rw [hgm] at hCl;have hset:(z.cls.map cO).set i [eI (dN x.attrs a),eI x.const]=(BI z a i r).cls.map cO:=by rw [BI,hxg,W8]
 repeat' first|refine ge (kf @hrx hi) ?_|decide|refine sp ?_ ?_<;>intro _
 refine ⟨rfl,⟨by omega,by omega⟩,?_⟩;refine ax hP ?_
 repeat' first|refine ge (kf @hrx (kf hi (kf @hset er))) ?_|decide|refine sp ?_ ?_<;>intro _
 refine cd hCl (.inr eC) ?_
 repeat' first|refine go ?_|decide|refine sp ?_ ?_<;>intro _
 exact ⟨[3,4],by decide,rfl,by simp [cM,nC,af.gc]⟩
def C2 (st:aj) (j:Nat):Nat:=match st.get j with
 | .c (.int _ k)=>(k+1).toNat
 | _=>0
def ru (z:Zn) (a r:Int) (M k:Nat):List Zn:=(List.range k).map fun (j:Nat)=>jt z a 0 r 0 [((M - j:Nat):Int)] 0
def lF (z:Zn) (a r:Int) (i j:Nat):List Zn:=BI z a i r :: ((uL (z.gaps.getD i 0) r).take j).map fun p=>jt z a (i+1) r i [p.1,p.2] (i+1)
def jE (z:Zn) (a r:Int):Nat -> List Zn
 | 0=>[]
 | i+1=>jE z a r i ++ (if i+1<z.cls.length then lF z a r i (uL (z.gaps.getD i 0) r).length else [BI z a i r])
def sE (z:Zn) (a r:Int) (k:Nat):List Zn:=(List.range k).map fun (j:Nat)=>jt z a z.cls.length r (z.cls.length - 1) [(j:Int)] (z.cls.length - 1)
def jF (z:Zn) (a r:Int):List Zn:=
 if r<1 \/ a<0 \/ 30<a \/ (z.gaps.length:Int) ≠ max ((z.cls.length:Int) - 1) 0 then []
 else if z.cls.any (fun x=>bq x.attrs a)=true then []
 else if z.cls.length=0 then [jt z a 0 r 0 [] 0]
 else ru z a r (cV (r - 1)).toNat ((cV (r - 1)).toNat+1) ++ jE z a r z.cls.length ++ sE z a r ((cV (r - 1)).toNat+1)
theorem ui (z:Zn) (a r:Int) (M k:Nat):(ru z a r M k).length=k:=by simp [ru]
theorem yC (z:Zn) (a r:Int) (k:Nat):(sE z a r k).length=k:=by simp [sE]
theorem uq (z:Zn) (a r:Int):∀ i,(jE z a r i).length<=i * (1+((cV (r - 1)).toNat+1) * ((cV (r - 1)).toNat+1))
 | 0=>by simp [jE]
 | i+1=>by
  have h1:=uq z a r i;have h2:=AH (z.gaps.getD i 0) r;rw [jE,Vk,Xh];split
  .simp only [lF,VN,Vp,Vq];omega
  .simp only [Vz];omega
theorem RH {r:Int} (h:r<=4):(cV (r - 1)).toNat<=7:=by
 have h0:min (r - 1).toNat 20<=3:=by omega
 have h1:(2:Nat) ^ (min (r - 1).toNat 20)<=2 ^ 3:=VU (by omega) h0;have h2:((2 ^ (min (r - 1).toNat 20):Nat):Int)=(2:Int) ^ (min (r - 1).toNat 20):=by simp
 unfold cV;omega
theorem OZ (z:Zn) (a r:Int) {N:Nat} (hN:N<=1000) (hz:nk N z) (hr:-100000<=r /\ r<=4):aw Tryz.prog 116 [.agg (cw z),eI a,eI r] ⟨.sl 2 ((jF z a r).map cw),[],0⟩:=by
 refine iJ 91 ?_;refine bj ag Tryz.func116 rfl (by decide) Tryz.ntmps116 Tryz.results116 rfl ?_;have hcl:=hz.cl;have hga:=hz.ga;have er:IntKind.i64.wrap (r - 1)=r - 1:=aB (by omega) (by omega);have ew:IntKind.i64.wrap ((z.cls.length:Int) - 1)=(z.cls.length:Int) - 1:=aB (by omega) (by omega);by_cases hbad:r<1 \/ a<0 \/ 30<a \/ (z.gaps.length:Int) ≠ max ((z.cls.length:Int) - 1) 0
 .have hP:jF z a r=[]:=Vo hbad;rw [hP];by_cases h1:r<1
  .have d1:decide (r<1)=true:=Vy h1
   repeat' first|refine gf (kf d1 ew) ?_|decide|refine sp ?_ ?_<;>intro _
   all_goals exact cI (i6 rfl)
  .have d1:decide (r<1)=false:=Vv h1;by_cases h2:a<0
   .have d2:decide (a<0)=true:=Vy h2
    repeat' first|refine gf (kf d1 (kf d2 ew)) ?_|decide|refine sp ?_ ?_<;>intro _
    all_goals exact cI (i6 rfl)
   .have d2:decide (a<0)=false:=Vv h2;by_cases h3:30<a
    .have d3:decide (30<a)=true:=Vy h3
     repeat' first|refine gf (kf d1 (kf d2 (kf d3 ew))) ?_|decide|refine sp ?_ ?_<;>intro _
     all_goals exact cI (i6 rfl)
    .have d3:decide (30<a)=false:=Vv h3;have d4:((z.gaps.length:Int) != max ((z.cls.length:Int) - 1) 0)=true:=bne_iff_ne.2 (by omega)
     repeat' first|refine gf (kf d1 (kf d2 (kf d3 (kf d4 ew)))) ?_|decide|refine sp ?_ ?_<;>intro _
     all_goals exact cI (i6 rfl)
 .have d1:decide (r<1)=false:=Vv (by omega);have d2:decide (a<0)=false:=Vv (by omega);have d3:decide (30<a)=false:=Vv (by omega);have d4:((z.gaps.length:Int) != max ((z.cls.length:Int) - 1) 0)=false:=bne_eq_false_iff_eq.2 (by omega);have hP0:jF z a r=if z.cls.any (fun x=>bq x.attrs a)=true then [] else if z.cls.length=0 then [jt z a 0 r 0 [] 0] else ru z a r (cV (r - 1)).toNat ((cV (r - 1)).toNat+1) ++ jE z a r z.cls.length ++ sE z a r ((cV (r - 1)).toNat+1):=Vj hbad
  repeat' first|refine gf (kf d1 (kf d2 (kf d3 (kf d4 ew)))) ?_|decide|refine sp ?_ ?_<;>intro _
  refine ae (fun st=>∃ i:Nat,(i<=z.cls.length /\ (z.cls.take i).any (fun x=>bq x.attrs a)=false) /\ st=⟨148,[(1,eI a),(2,eI r),(3,.op 0 0 0),(7,eI (z.cls.length:Int)),(8,eI (i:Int))],[(0,some (.box 91 (cw z)))],1⟩) (fun st=>z.cls.length - ap st 8) ⟨_,wC,0,⟨Vd _,rfl⟩,rfl⟩ ?_;rintro _ ⟨i,⟨hi,hany⟩,rfl⟩;by_cases hlt:i<z.cls.length
  .obtain ⟨x,hx⟩:∃ x,z.cls[i]=x:=⟨_,rfl⟩;have hrx:(z.cls.map cO)[i]?.getD []=cO x:=(by simp [hlt,hx]);have hxo:aF x.attrs:=hz.at_ x (hx ▸ Vg hlt);have hH:=dA x.attrs a hxo;have hn:(z.cls.take (i+1)).any (fun x=>bq x.attrs a)=bq x.attrs a:=by rw [Vi hlt,List.any_append,hany,hx];simp
   cases hb:bq x.attrs a with
   | true=>
    have hall:z.cls.any (fun x=>bq x.attrs a)=true:=XD.2 ⟨x,hx ▸ Vg hlt,hb⟩;rw [hP0,Vo hall];rw [hb] at hH
    repeat' first|refine gf (kf @hrx @hlt) ?_|decide|refine sp ?_ ?_<;>intro _|refine cA hH ?_|fail
    all_goals exact cI (i6 rfl)
   | false=>
    rw [hb] at hH hn
    repeat' first|refine gf (kf @hrx @hlt) ?_|decide|refine sp ?_ ?_<;>intro _|refine cA hH ?_|fail
    all_goals exact rI wC ⟨i+1,⟨by omega,hn⟩,rfl⟩
  .obtain rfl:i=z.cls.length:=by omega
   rw [Vq] at hany;rw [hP0,Vj (by rw [hany];simp)];by_cases h0:z.cls.length=0
   .have b0:((z.cls.length:Int) == 0)=true:=Wu.2 (by omega);have hO:=(rU z a 0 r 0 [] 0 (by omega) hz ⟨by omega,by omega⟩ (Vd _) (Vd _) (Vd _) (by simp) ⟨by omega,by omega⟩).fits (args:=[.agg (cw z),eI a,eI 0,eI r,eI 0,.c (.slice none 0 0),eI 0]) ⟨.one (.refl _),.one (.refl _),.one (.refl _),.one (.refl _),.one (.refl _),.one (.nil 1),.one (.refl _),trivial⟩;rw [Vo h0]
    repeat' first|refine gf (kf @hlt b0) ?_|decide|refine sp ?_ ?_<;>intro _
    refine sG hO (.inr (kO _)) ?_
    repeat' first|refine go ?_|simp only [nC,bh,bI,bH,aD.shift]|decide|refine sp ?_ ?_<;>intro _
    all_goals exact ⟨rfl,tt rfl i9⟩
   .have b0:((z.cls.length:Int) == 0)=false:=VP.2 (by omega);rw [Vj h0];have hCap:=vu (r - 1);have h4:=RH hr.2;have hp1:=lL (r - 1);obtain ⟨M,hM⟩:∃ M:Nat,cV (r - 1)=(M:Int):=⟨(cV (r - 1)).toNat,by omega⟩;have hMn:(cV (r - 1)).toNat=M:=(by omega);have hBl:=uq z a r;rw [hMn] at h4 hBl ⊢;rw [hM] at hCap;have hgn:z.gaps.length=z.cls.length - 1:=(by omega);have hro:-1000000<=r /\ r<=1000000:=⟨by omega,by omega⟩;have hao:0<=a /\ a<31:=⟨by omega,by omega⟩
    have hBb:∀ i,i<=1000 -> (jE z a r i).length<=65000:=fun i hi=>by
     have h1:=hBl i;have h2:(M+1) * (M+1)<=8 * 8:=Xj (by omega) (by omega);have h3:i * (1+(M+1) * (M+1))<=1000 * 65:=Xj hi (by omega);omega
    repeat' first|refine gf (kf @hlt (kf b0 er)) ?_|decide|refine sp ?_ ?_<;>intro _|refine cA hCap ?_|fail
    refine ae (fun st=>∃ k:Nat,k<=M+1 /\ st=⟨148,[(1,eI a),(2,eI r),(3,.op 0 0 0),(7,eI (z.cls.length:Int)),(9,.osl 1),(10,eI (M:Int)),(11,eI ((M:Int) - (k:Int)))],[(0,some (.box 91 (cw z))),(1,some (.row 91 2 ((ru z a r M k).map cw)))],2⟩) (fun st=>C2 st 11) ⟨_,((be 9 91 2 (by simp only [iz,aj.get,bb,aj.put,↓reduceIte,reduceCtorEq,Nat.reduceLT,Nat.reduceEqDiff,Nat.reduceAdd,Nat.reduceLeDiff,eq_self,implies_true,ru,WN,VL,Int.sub_zero,Int.natCast_zero])).trans (wS [0,1] (kf @ru.eq_1 (kf @WN (kf @Int.sub_zero @Int.natCast_zero))))),0,Vd _,rfl⟩ ?_;rintro _ ⟨k,hk,rfl⟩;by_cases hkM:k<=M
    .have he:(M:Int) - (k:Int)=((M - k:Nat):Int):=(by omega);have e1:IntKind.i64.wrap (((M - k:Nat):Int) - 1)=(M:Int) - ((k+1:Nat):Int):=by rw [aB (by omega) (by omega)];omega
     have hO:=rU z a 0 r 0 [((M - k:Nat):Int)] 0 (by omega) hz hao (Vd _) (Vd _) (Vd _) (by simp) hro;have et:(ru z a r M (k+1)).map cw=(ru z a r M k).map cw ++ [cw (jt z a 0 r 0 [((M - k:Nat):Int)] 0)]:=(by simp [ru,Wn]);have hal:=ui z a r M k
     have m1:∀ (e:List (Nat × AV)) (t:af) (nx:Nat),C2 ⟨148,(1,eI a) :: (2,eI r) :: (3,.op 0 0 0) :: (7,eI (z.cls.length:Int)) :: (9,.osl 1) :: (10,eI (M:Int)) :: (11,eI ((M:Int) - ((k+1:Nat):Int))) :: e,t,nx⟩ 11=M - k:=fun e t nx=>by
      show ((M:Int) - ((k+1:Nat):Int)+1).toNat=M - k;omega
     have m2:∀ (e:List (Nat × AV)) (t:af) (nx:Nat),C2 ⟨148,(1,eI a) :: (2,eI r) :: (3,.op 0 0 0) :: (7,eI (z.cls.length:Int)) :: (9,.osl 1) :: (10,eI (M:Int)) :: (11,eI ((M - k:Nat):Int)) :: e,t,nx⟩ 11=M - k+1:=fun e t nx=>by
      show (((M - k:Nat):Int)+1).toNat=M - k+1;omega
     rw [he];obtain ⟨O,hOe⟩:∃ O,O=ru z a r M k:=⟨_,rfl⟩;rw [<- hOe] at et hal ⊢
     repeat' first|refine go ?_|decide|refine sp ?_ ?_<;>intro _
     refine ⟨rfl,?_⟩;refine sG hO (.inr (kO _)) ?_
     repeat' first|refine gq ?_|simp only [nC,bh,bI,bH,aD.shift]|decide|refine sp ?_ ?_<;>intro _|(with_reducible apply And.intro)
     all_goals first
      | rfl
      | omega
      | exact cZ (wS [0,6] (kf et (kf @hOe e1))) ⟨k+1,by omega,rfl⟩ (by rw [m1,m2];omega)
    .obtain rfl:k=M+1:=by omega
     have e0:decide ((0:Int)<=(M:Int) - ((M+1:Nat):Int))=false:=Vv (by omega);have hal:=ui z a r M (M+1);obtain ⟨O,hOe⟩:∃ O,O=ru z a r M (M+1):=⟨_,rfl⟩;rw [<- hOe] at hal ⊢
     repeat' first|refine gf e0 ?_|decide|refine sp ?_ ?_<;>intro _
     refine ae (fun st=>∃ i:Nat,i<=z.cls.length /\ st=⟨148,[(1,eI a),(2,eI r),(3,.op 0 0 0),(7,eI (z.cls.length:Int)),(9,.osl 1),(10,eI (M:Int)),(12,eI (i:Int))],[(0,some (.box 91 (cw z))),(1,some (.row 91 2 ((O ++ jE z a r i).map cw)))],2⟩) (fun st=>z.cls.length - ap st 12) ⟨_,(wE (kf @jE.eq_1 @jE.eq_2)),0,Vd _,rfl⟩ ?_;rintro _ ⟨i,hi,rfl⟩;have hPl:=hBb i (by omega);obtain ⟨P,hPe⟩:∃ P,P=O ++ jE z a r i:=⟨_,rfl⟩;have hPl2:P.length<=66000:=by rw [hPe,Vk];omega
     rw [<- hPe];by_cases hli:i<z.cls.length
     .have hIn:=Rj z a i r (by omega) hz hao hli hro;have e2:IntKind.i64.wrap ((z.cls.length:Int) - 1)=((z.cls.length - 1:Nat):Int):=by rw [aB (by omega) (by omega)];omega
      have ei:IntKind.i64.wrap ((i:Int)+1)=((i+1:Nat):Int):=by rw [aB (by omega) (by omega)];omega
      by_cases hl2:i+1<z.cls.length
      .have hl3:i<z.cls.length - 1:=(by omega);have hig:i<z.gaps.length:=(by omega);obtain ⟨g,hg⟩:∃ g,g=z.gaps[i]:=⟨_,rfl⟩;have hrg:(z.gaps.map fun n=>[eI n])[i]?.getD []=[eI g]:=by rw [hg];simp [hig]
       have hgd:z.gaps.getD i 0=g:=by rw [hg];simp [List.getD,hig]
       have hS:=L8 g r hro;have hSl:=AH g r;rw [hMn] at hSl;have hSl2:(uL g r).length<=64:=VC hSl (Xj (show M+1<=8 by omega) (show M+1<=8 by omega));have hB1:∀ j,lF z a r i j=BI z a i r :: ((uL g r).take j).map fun p=>jt z a (i+1) r i [p.1,p.2] (i+1):=fun j=>by rw [lF,hgd]
       have hBs:jE z a r (i+1)=jE z a r i ++ lF z a r i (uL g r).length:=(by rw [jE,Vo hl2,hgd]);obtain ⟨S,hSe⟩:∃ S,S=uL g r:=⟨_,rfl⟩;rw [<- hSe] at hS hSl2 hB1 hBs;have et0:(P ++ lF z a r i 0).map cw=P.map cw ++ [cw (BI z a i r)]:=by rw [hB1];simp
       repeat' first|refine gf (kf @hli (kf hl2 (kf hl3 (kf e2 (kf @hrg @hig))))) ?_|decide|refine sp ?_ ?_<;>intro _|refine cA hIn ?_|refine cA hS ?_|(with_reducible apply And.intro)
       all_goals first
        | rfl
        | omega
        | skip
       refine ae (fun st=>∃ j:Nat,j<=S.length /\ st=⟨148,[(1,eI a),(2,eI r),(3,.op 0 0 0),(7,eI (z.cls.length:Int)),(9,.osl 1),(10,eI (M:Int)),(12,eI (i:Int)),(13,.sl 2 (S.map eP)),(14,eI (j:Int))],[(0,some (.box 91 (cw z))),(1,some (.row 91 2 ((P ++ lF z a r i j).map cw)))],2⟩) (fun st=>S.length - ap st 14) ⟨_,(wS [0,3] et0),0,Vd _,rfl⟩ ?_;rintro _ ⟨j,hj,rfl⟩;have hQl:(P ++ lF z a r i j).length<=66100:=by rw [hB1,Vk,VN,Vp,Vr];omega
       by_cases hlj:j<S.length
       .obtain ⟨p,hp⟩:∃ p,p=S[j]:=⟨_,rfl⟩;have hrp:(S.map eP)[j]?.getD []=eP p:=by rw [hp];simp [hlj]
        have q0:List.drop (Int.toNat 0 * 1) (eP p)=[eI p.1,eI p.2]:=rfl;have q1:List.drop (Int.toNat 1 * 1) (eP p)=[eI p.2]:=rfl;have hO:=rU z a (i+1) r i [p.1,p.2] (i+1) (by omega) hz hao (by omega) (by omega) (by omega) (by simp) hro
        have et:(P ++ lF z a r i (j+1)).map cw=(P ++ lF z a r i j).map cw ++ [cw (jt z a (i+1) r i [p.1,p.2] (i+1))]:=by
         rw [hB1,hB1,Vi hlj,<- hp];simp
        obtain ⟨Q,hQ⟩:∃ Q,Q=P ++ lF z a r i j:=⟨_,rfl⟩;rw [<- hQ] at et hQl ⊢
        repeat' first|refine ge @hlj ?_|decide|refine sp ?_ ?_<;>intro _
        refine ay [1] [0,1,2,3,4,5,6,7,8,9,10,11,12,13,14,15,16,18,19] (.exec 17 (.exec 20 (.exec 21 (.exec 22 (.exec 23 .done))))) (by kernel_rfl) (by simp [af.gc]) ?_
        repeat' first|refine ge (kf @hlj (kf @hrp (kf q0 (kf q1 (kf UO (kf UR (kf UQ ei))))))) ?_|decide|refine sp ?_ ?_<;>intro _
        refine ⟨rfl,?_⟩;refine sG hO (.inr (kO _)) ?_
        repeat' first|refine gq ?_|simp only [nC,bh,bI,bH,aD.shift]|decide|refine sp ?_ ?_<;>intro _|(with_reducible apply And.intro)
        all_goals first
         | rfl
         | omega
         | exact rI (wS [0,6] (kf et hQ)) ⟨j+1,by omega,rfl⟩
       .obtain rfl:j=S.length:=by omega
        have hn:P ++ lF z a r i S.length=O ++ jE z a r (i+1):=(by rw [hBs,hPe,VZ]);rw [hn]
        repeat' first|refine gf @hlj ?_|decide|refine sp ?_ ?_<;>intro _
        all_goals exact rI wC ⟨i+1,by omega,rfl⟩
      .have hl3:¬ i<z.cls.length - 1:=(by omega);have hBs:jE z a r (i+1)=jE z a r i ++ [BI z a i r]:=(by rw [jE,Vj hl2]);have et:(O ++ jE z a r (i+1)).map cw=P.map cw ++ [cw (BI z a i r)]:=by rw [hBs,hPe];simp
       repeat' first|refine gf (kf @hli (kf hl2 (kf hl3 e2))) ?_|decide|refine sp ?_ ?_<;>intro _|refine cA hIn ?_|(with_reducible apply And.intro)
       all_goals first
        | rfl
        | omega
        | exact rI (wS [0,3] et) ⟨i+1,by omega,rfl⟩
     .obtain rfl:i=z.cls.length:=by omega
      repeat' first|refine gf @hli ?_|decide|refine sp ?_ ?_<;>intro _
      refine ae (fun st=>∃ j:Nat,j<=M+1 /\ st=⟨148,[(1,eI a),(2,eI r),(3,.op 0 0 0),(7,eI (z.cls.length:Int)),(9,.osl 1),(10,eI (M:Int)),(15,eI (j:Int))],[(0,some (.box 91 (cw z))),(1,some (.row 91 2 ((P ++ sE z a r j).map cw)))],2⟩) (fun st=>M+1 - ap st 15) ⟨_,(wE (kf @sE.eq_1 @WN)),0,Vd _,rfl⟩ ?_;rintro _ ⟨j,hj,rfl⟩;have hCl:=yC z a r j;by_cases hlj:j<=M
      .have hO:=rU z a z.cls.length r (z.cls.length - 1) [(j:Int)] (z.cls.length - 1) (by omega) hz hao (Vh _) (by omega) (by omega) (by simp) hro;have e2:IntKind.i64.wrap ((z.cls.length:Int) - 1)=((z.cls.length - 1:Nat):Int):=by rw [aB (by omega) (by omega)];omega
       have et:(P ++ sE z a r (j+1)).map cw=(P ++ sE z a r j).map cw ++ [cw (jt z a z.cls.length r (z.cls.length - 1) [(j:Int)] (z.cls.length - 1))]:=(by simp [sE,Wn]);have hQl:(P ++ sE z a r j).length<=66100:=by rw [Vk];omega
       obtain ⟨Q,hQ⟩:∃ Q,Q=P ++ sE z a r j:=⟨_,rfl⟩;rw [<- hQ] at et hQl ⊢
       repeat' first|refine ge (kf @hlj e2) ?_|decide|refine sp ?_ ?_<;>intro _
       refine ⟨rfl,?_⟩;refine sG hO (.inr (kO _)) ?_
       repeat' first|refine gq ?_|simp only [nC,bh,bI,bH,aD.shift]|decide|refine sp ?_ ?_<;>intro _|(with_reducible apply And.intro)
       all_goals first
        | rfl
        | omega
        | exact rI (wS [0,6] (kf et hQ)) ⟨j+1,by omega,rfl⟩
      .obtain rfl:j=M+1:=by omega
       rw [hPe]
       repeat' first|refine gf @hlj ?_|decide|refine sp ?_ ?_<;>intro _
       all_goals exact tt rfl i9
end
section
structure Pt where
 n:Int
 a:Int
 c:Int
 t:Int
instance:Inhabited Pt:=⟨⟨0,0,0,0⟩⟩
def U9 (x y:Pt):Bool:=decide (x.n<y.n) || (decide (x.n=y.n) && decide (x.t<=y.t))
def U3 (l:List Pt):List Pt:=l.mergeSort U9
def Gf (bs:Nat):Nat -> List Pt -> List Pt
 | 0,l=>U3 l
 | f+1,l=>if bs<=l.length then U3 (l.take bs) ++ Gf bs f (l.drop bs) else U3 l
def G (bs:Nat) (l:List Pt):List Pt:=Gf bs l.length l
end
section
end
section
end
section
def UX (a b:Int):Int:=bits .or .i64 a b
end
section
theorem Qw (r:Int):0<=cV r:=by
 have h1:1<=(2:Nat) ^ (min r.toNat 20):=XH;have h2:((2 ^ (min r.toNat 20):Nat):Int)=(2:Int) ^ (min r.toNat 20):=by simp
 unfold cV;omega
end
end
section
section
theorem TN : (Tryz.prog.fieldsOf 213).toList.map (fun f => (f.name, f.type, f.offset)) = [("Attrs", 3, 0), ("Const", 3, 1)] := by kernel_rfl
theorem P4 (op:BinOp) (hop:op=.eql \/ op=.neq) (a b:fU):tC Tryz.prog op 213 (.agg #[.int .i64 a.attrs,.int .i64 a.const]) (.agg #[.int .i64 b.attrs,.int .i64 b.const]) (.bool (if op matches .eql then (a.attrs == b.attrs && a.const == b.const) else !(a.attrs == b.attrs && a.const == b.const))):=by
 have ht:=TN
 obtain ⟨f,g,hfs⟩:∃ f g,(Tryz.prog.fieldsOf 213).toList=[f,g]:=by
  generalize (Tryz.prog.fieldsOf 213).toList=l at ht ⊢
  cases l with
  | nil=>simp at ht
  | cons f l=>cases l with
   | nil=>simp at ht
   | cons g l=>cases l with
    | nil=>exact ⟨f,g,rfl⟩
    | cons h l=>simp at ht
 rw [hfs] at ht;simp only [V1,VL,List.cons.injEq,Prod.mk.injEq,and_true] at ht;obtain ⟨⟨h1,h2,h3⟩,h4,h5,h6⟩:=ht;refine vm [(.int .i64 a.attrs,.int .i64 b.attrs),(.int .i64 a.const,.int .i64 b.const)] (by kernel_rfl) (by kernel_rfl) (by kernel_rfl) (by rw [hfs];rfl) (fun k f' p hk hp=>?_) (by simp [mr,sw]) hop;rw [hfs] at hk
 match k,hk,hp with
 | 0,hk,hp=>
  cases hk;cases hp;refine ⟨by rw [h1];decide,?_,by rw [h3];rfl,by rw [h3];rfl⟩;rw [h2]
  kernel_rfl
 | 1,hk,hp=>
  cases hk;cases hp;refine ⟨by rw [h4];decide,?_,by rw [h6];rfl,by rw [h6];rfl⟩;rw [h5]
  kernel_rfl
 | k+2,hk,hp=>simp at hk
instance:DecidableEq fU:=fun a b=>decidable_of_iff (a.attrs=b.attrs /\ a.const=b.const) (by cases a;cases b;simp)
theorem Ut (x y:fU):tC Tryz.prog .neq 213 (.agg #[.int .i64 x.attrs,.int .i64 x.const]) (.agg #[.int .i64 y.attrs,.int .i64 y.const]) (.bool (decide (x ≠ y))):=by
 have h:=P4 .neq (.inr rfl) x y
 have e:decide (x ≠ y) = !(x.attrs == y.attrs && x.const == y.const):=by
  rw [Ws];cases x;cases y;simp
 rw [e];exact h
theorem SD {a b:Zn} (h1:a.cls=b.cls) (h2:a.gaps=b.gaps):a=b:=by
 cases a;cases b;simp at h1 h2;rw [h1,h2]
theorem vo {α:Type} {a b:List α} (hl:a.length=b.length) (h:∀ i (h1:i<a.length) (h2:i<b.length),a[i]=b[i]):a=b:=XA hl h
theorem Eo (a b:Zn) (h1:a.cls.length<=1000000) (h2:a.gaps.length<=1000000):dQ Tryz.prog 125 [.agg (cw a),.agg (cw b)] fun R=>∃ t,R=val (.bool t) /\ (t=true ↔ a=b):=by
 refine bj ag Tryz.func125 rfl (by decide) Tryz.ntmps125 Tryz.results125 rfl ?_;have no1:a.cls.length ≠ b.cls.length -> ¬ a=b:=fun h e=>h (by rw [e]);have no2:a.gaps.length ≠ b.gaps.length -> ¬ a=b:=fun h e=>h (by rw [e]);by_cases hl1:a.cls.length=b.cls.length
 .have d1:((a.cls.length:Int) != (b.cls.length:Int))=false:=by simp [hl1]
  by_cases hl2:a.gaps.length=b.gaps.length
  .have d2:((a.gaps.length:Int) != (b.gaps.length:Int))=false:=by simp [hl2]
   repeat' first|refine gf (kf d1 d2) ?_|decide|refine sp ?_ ?_<;>intro _
   refine ae (fun st=>∃ k:Nat,k<=a.cls.length /\ (∀ i (h1:i<a.cls.length) (h2:i<b.cls.length),i<k -> a.cls[i]=b.cls[i]) /\ st=⟨59,[(2,.op 0 0 0),(3,.op 1 0 0),(5,eI (k:Int))],[(0,some (.box 91 (cw a))),(1,some (.box 91 (cw b)))],2⟩) (fun st=>a.cls.length - ap st 5) ⟨_,wC,0,Vd _,fun i _ _ h=>by omega,rfl⟩ ?_;rintro _ ⟨k,hk,hs,rfl⟩;by_cases hlt:k<a.cls.length
   .have hlt2:k<b.cls.length:=(by omega);have hB:=Ut a.cls[k] b.cls[k];by_cases hxy:a.cls[k]=b.cls[k]
    .rw [Vv (by simpa using hxy)] at hB;obtain ⟨x,hx⟩:∃ x,a.cls[k]=x:=⟨_,rfl⟩;obtain ⟨y,hy⟩:∃ y,b.cls[k]=y:=⟨_,rfl⟩;rw [hx,hy] at hB
     repeat' first|refine gq ?_|simp only [ab,hlt,hlt2,hx,hy]|decide|refine sp ?_ ?_<;>intro _
     all_goals refine ⟨_,hB,?_⟩
     all_goals (repeat' (first|refine gq ?_|decide|refine sp ?_ ?_<;>intro _))
     all_goals exact cZ wC ⟨k+1,by omega,fun i h1 h2 h3=>(by
      rcases Vw i k with h|h
      .exact hs i h1 h2 h
      .obtain rfl:i=k:=by omega
       exact hxy),rfl⟩ (by simp only [ap,iz,aj.get,bb,aj.put,↓reduceIte,reduceCtorEq,Nat.reduceLT,Nat.reduceEqDiff,Nat.reduceAdd,Nat.reduceLeDiff,eq_self,implies_true];omega)
    .rw [Vy hxy] at hB;have hno:¬ a=b:=fun e=>hxy (by subst e;rfl);obtain ⟨x,hx⟩:∃ x,a.cls[k]=x:=⟨_,rfl⟩;obtain ⟨y,hy⟩:∃ y,b.cls[k]=y:=⟨_,rfl⟩;rw [hx,hy] at hB
     repeat' first|refine gq ?_|simp only [ab,hlt,hlt2,hx,hy]|decide|refine sp ?_ ?_<;>intro _
     all_goals refine ⟨_,hB,?_⟩
     all_goals (repeat' (first|refine gq ?_|decide|refine sp ?_ ?_<;>intro _))
     all_goals exact cI ⟨false,rfl,by simp;exact hno⟩
   .have hcls:a.cls=b.cls:=vo hl1 fun i h1 h2=>hs i h1 h2 (by omega)
    repeat' first|refine gf @hlt ?_|decide|refine sp ?_ ?_<;>intro _
    refine ae (fun st=>∃ k:Nat,k<=a.gaps.length /\ (∀ i (h1:i<a.gaps.length) (h2:i<b.gaps.length),i<k -> a.gaps[i]=b.gaps[i]) /\ st=⟨59,[(2,.op 0 0 0),(3,.op 1 0 0),(6,eI (k:Int))],[(0,some (.box 91 (cw a))),(1,some (.box 91 (cw b)))],2⟩) (fun st=>a.gaps.length - ap st 6) ⟨_,wC,0,Vd _,fun i _ _ h=>by omega,rfl⟩ ?_;rintro _ ⟨k,hk,hs2,rfl⟩;by_cases hlt2:k<a.gaps.length
    .have hlt3:k<b.gaps.length:=(by omega);by_cases hxy:a.gaps[k]=b.gaps[k]
     .have d3:(a.gaps[k] != b.gaps[k])=false:=by simpa using hxy
      repeat' first|refine gq ?_|simp only [ab,hlt2,hlt3,d3]|decide|refine sp ?_ ?_<;>intro _
      all_goals exact cZ wC ⟨k+1,by omega,fun i h1 h2 h3=>(by
       rcases Vw i k with h|h
       .exact hs2 i h1 h2 h
       .obtain rfl:i=k:=by omega
        exact hxy),rfl⟩ (by simp only [ap,iz,aj.get,bb,aj.put,↓reduceIte,reduceCtorEq,Nat.reduceLT,Nat.reduceEqDiff,Nat.reduceAdd,Nat.reduceLeDiff,eq_self,implies_true];omega)
     .have d3:(a.gaps[k] != b.gaps[k])=true:=(by simpa using hxy);have hno:¬ a=b:=fun e=>hxy (by subst e;rfl)
      repeat' first|refine gq ?_|simp only [ab,hlt2,hlt3,d3]|decide|refine sp ?_ ?_<;>intro _
      all_goals exact cI ⟨false,rfl,by simp;exact hno⟩
    .have hgaps:a.gaps=b.gaps:=vo hl2 fun i h1 h2=>hs2 i h1 h2 (by omega)
     repeat' first|refine gf @hlt2 ?_|decide|refine sp ?_ ?_<;>intro _
     all_goals exact cI ⟨true,rfl,by simp;exact SD hcls hgaps⟩
  .have d2:((a.gaps.length:Int) != (b.gaps.length:Int))=true:=by simp;omega
   repeat' first|refine gf (kf d1 d2) ?_|decide|refine sp ?_ ?_<;>intro _
   exact cI ⟨false,rfl,by simp;exact no2 hl2⟩
 .have d1:((a.cls.length:Int) != (b.cls.length:Int))=true:=by simp;omega
  repeat' first|refine gf d1 ?_|decide|refine sp ?_ ?_<;>intro _
  exact cI ⟨false,rfl,by simp;exact no1 hl1⟩
end
section
def UE (a b:Int):Int:=bits .and .i64 a b
def FE (l:List fU):Int:=l.foldl (fun a x=>UX a x.attrs) 0
def fE (l:List fU):Nat:=l.countP fun x=>!(x.const == -1)
theorem Gs (l:List fU) (x:fU):FE (l ++ [x])=UX (FE l) x.attrs:=by simp [FE]
theorem ud (l:List fU) (x:fU):fE (l ++ [x])=fE l+(if x.const = -1 then 0 else 1):=by
 unfold fE;rw [List.countP_append];by_cases h:x.const = -1<;>simp [h]
theorem Lf (l:List fU):fE l<=l.length:=List.countP_le_length
def KM (l:List fU) (x:fU):Prop:=0<=x.attrs /\ UE x.attrs (FE l)=0 /\ ¬ (x.attrs=0 /\ x.const = -1) /\ (x.const = -1 \/ x.const=(fE l:Int))
def rM (l:List fU) (n k:Int):Prop:=(∀ i (h:i<l.length),KM (l.take i) l[i]) /\ FE l=j5 n /\ (fE l:Int)=k
end
section
theorem lU {P:Program} {f:FuncId} {args:List AV} {Q:Prop} (h:dQ P f args fun R=>∃ b,R=val (.bool b) /\ (b=true ↔ Q)):∃ t:Bool,(t=true ↔ Q) /\ aw P f args (val (.bool t)):=by
 by_cases hQ:Q
 .exact ⟨true,by simp [hQ],h.mono fun R ⟨b,h1,h2⟩=>by rw [h1,h2.2 hQ]⟩
 .exact ⟨false,by simp [hQ],h.mono fun R ⟨b,h1,h2⟩=>by
   cases b with
   | true=>exact absurd (h2.1 rfl) hQ
   | false=>exact h1⟩
def xp (z:Zn) (cap:Int):Prop:=(z.gaps.length:Int)=max ((z.cls.length:Int) - 1) 0 /\ ∀ i (h:i<z.gaps.length),0<=z.gaps[i] /\ z.gaps[i]<=cap
def mZ (l:List fU) (k:Nat):List Nat:=(List.range k).filter fun i=>decide (0<=(l[i]?.map (·.const)).getD (-1))
theorem mJ (l:List fU) {k:Nat} (hk:k<l.length):mZ l (k+1)=if 0<=l[k].const then mZ l k ++ [k] else mZ l k:=by
 unfold mZ;rw [Wn,List.filter_append];by_cases h:0<=l[k].const
 .rw [Vo h];simp [p0 hk,h]
 .rw [Vj h];simp [p0 hk];omega
def dz (z:Zn) (p q:Nat):List Int:=(z.gaps.take q).drop p
def o0 (z:Zn) (p q:Nat) (cap a b:Int):Prop:=
 pb a b ((q:Int) - p - 1+(dz z p q).sum+1)=(q:Int) - p - 1+(dz z p q).sum \/ ((∃ g ∈ dz z p q,g=cap) /\ (q:Int) - p - 1+(dz z p q).sum<pb a b ((q:Int) - p - 1+(dz z p q).sum+1))
theorem IK (cap:Int) (hc:0<=cap):∀ l:List Int,(∀ g ∈ l,0<=g /\ g<=cap) -> 0<=l.sum /\ l.sum<=cap * l.length
 | [],_=>by simp
 | g :: l,h=>by
  have h1:=IK cap hc l fun x hx=>h x (V0 _ hx);have h2:=h g (Wc ..);rw [XR,VN,Xm,Int.mul_add];omega
end
section
deriving instance DecidableEq for fU
deriving instance DecidableEq for Zn
def cn {α:Type} [DecidableEq α] (l:List α):List α:=l.foldl (fun o x=>if x ∈ o then o else o ++ [x]) []
theorem kZ {α:Type} [DecidableEq α] {l:List α} {k:Nat} (hk:k<l.length):cn (l.take (k+1))=if l[k] ∈ cn (l.take k) then cn (l.take k) else cn (l.take k) ++ [l[k]]:=by
 unfold cn;rw [Vi hk,WK];rfl
theorem mR {α:Type} [DecidableEq α] (l:List α):∀ k,k<=l.length -> (cn (l.take k)).length<=k /\ ∀ x ∈ cn (l.take k),x ∈ l
 | 0,_=>by simp [cn]
 | k+1,hk=>by
  obtain ⟨h1,h2⟩:=mR l k (by omega);rw [kZ (by omega)];split
  .exact ⟨by omega,h2⟩
  .refine ⟨by rw [Vk,Vz];omega,fun x hx=>?_⟩;rcases Vs.1 hx with h|h
   .exact h2 x h
   .simp only [VH] at h;rw [h];exact Vg _
theorem mO {α:Type} [DecidableEq α] (l:List α) (x:α):x ∈ cn l ↔ x ∈ l:=by
 constructor
 .intro h;have:=(mR l l.length (Vh _)).2 x;rw [Vq] at this;exact this h
 .intro h
  have key:∀ k,k<=l.length -> ∀ y ∈ l.take k,y ∈ cn (l.take k):=fun k=>by
   induction k with
   | zero=>intro _ y hy;simp at hy
   | succ k ih=>
    intro hk y hy;rw [kZ (by omega)];rw [Vi (by omega)] at hy;rcases Vs.1 hy with h1|h1
    .have:=ih (by omega) y h1;split
     .exact this
     .exact List.mem_append_left _ this
    .simp only [VH] at h1;subst h1;split
     .assumption
     .simp
  have:=key l.length (Vh _) x (by rw [Vq];exact h)
  rwa [Vq] at this
theorem mP {α:Type} [DecidableEq α] (l:List α):(cn l).length<=l.length:=by
 have:=(mR l l.length (Vh _)).1
 rwa [Vq] at this
theorem PH (l:List Zn) (z:Zn) (hll:l.length<=2700000000000) (hl:∀ y ∈ l,y.cls.length<=1000000 /\ y.gaps.length<=1000000):aw Tryz.prog 152 [.sl 2 (l.map cw),.agg (cw z)] (val (.bool (decide (z ∈ l)))):=by
 refine aa ag Tryz.func152 rfl (by decide) Tryz.ntmps152 Tryz.results152 rfl (aI _) ?_
 repeat' first|refine go ?_|decide|refine sp ?_ ?_<;>intro _
 refine ae (fun st=>∃ k:Nat,k<=l.length /\ z ∉ l.take k /\ st=⟨18,[(0,.sl 2 (l.map cw)),(3,.op 0 0 0),(5,eI (k:Int))],[(0,some (.box 91 (cw z)))],1⟩) (fun st=>l.length - ap st 5) ⟨_,wC,0,Vd _,by simp,rfl⟩ ?_;rintro _ ⟨k,hk,hI,rfl⟩;by_cases hlt:k<l.length
 .obtain ⟨x,hx⟩:∃ x,x=l[k]:=⟨_,rfl⟩;have hrow:(l.map cw)[k]?.getD []=cw x:=by rw [hx];simp [hlt]
  obtain ⟨g1,g2⟩:=hl x (hx ▸ Vg hlt);obtain ⟨t,ht,hS⟩:=lU (Eo x z g1 g2);have hm:z ∈ l.take (k+1) ↔ z ∈ l.take k \/ z=x:=by rw [Vi hlt,Vs,VH,hx]
  cases t with
  | true=>
   have e:=ht.1 rfl;have hmem:z ∈ l:=by rw [<- e,hx];exact Vg hlt
   rw [Vy hmem]
   repeat' first|refine gf (kf @hrow @hlt) ?_|decide|refine sp ?_ ?_<;>intro _|refine cA hS ?_|fail
  | false=>
   have hne:¬ x=z:=fun e=>by have:=ht.2 e;cases this
   repeat' first|refine gf (kf @hrow @hlt) ?_|decide|refine sp ?_ ?_<;>intro _|refine cA hS ?_|fail
   all_goals exact rI wC ⟨k+1,by omega,fun h=>(hm.1 h).elim hI fun e=>hne e.symm,rfl⟩
 .obtain rfl:k=l.length:=by omega
  rw [Vq] at hI;rw [Vv hI]
  repeat' first|refine gf @hlt ?_|decide|refine sp ?_ ?_<;>intro _
theorem Mw (l:List Zn) (hl:∀ y ∈ l,y.cls.length<=1000000 /\ y.gaps.length<=1000000) (hll:l.length<=2700000000000):aw Tryz.prog 118 [.sl 2 (l.map cw)] (g8 91 2 ((cn l).map cw)):=by
 refine aa ag Tryz.func118 rfl (by decide) Tryz.ntmps118 Tryz.results118 rfl (ch _ _ _) ?_
 repeat' first|refine go ?_|decide|refine sp ?_ ?_<;>intro _
 refine ae (fun st=>∃ k:Nat,k<=l.length /\ st=⟨26,[(0,.sl 2 (l.map cw)),(3,.osl 0),(4,eI (k:Int))],[(0,some (.row 91 2 ((cn (l.take k)).map cw)))],1⟩) (fun st=>l.length - ap st 4) ⟨_,((be 3 91 2 (by simp only [iz,aj.get,bb,aj.put,↓reduceIte,reduceCtorEq,Nat.reduceLT,Nat.reduceEqDiff,Nat.reduceAdd,Nat.reduceLeDiff,eq_self,implies_true,Vu,cn,WV,VL])).trans (wS [0] (kf @Vu (kf @cn.eq_1 @WV)))),0,Vd _,rfl⟩ ?_;rintro _ ⟨k,hk,rfl⟩;by_cases hlt:k<l.length
 .obtain ⟨x,hx⟩:∃ x,x=l[k]:=⟨_,rfl⟩;have hrow:(l.map cw)[k]?.getD []=cw x:=by rw [hx];simp [hlt]
  have hs:=kZ hlt;obtain ⟨g1,g2⟩:=mR l k hk;obtain ⟨U,hU⟩:∃ U,U=cn (l.take k):=⟨_,rfl⟩;rw [<- hU,<- hx] at hs;rw [<- hU] at g1 g2 ⊢;have hH:=PH U x (by omega) fun y hy=>hl y (g2 y hy);by_cases hm:x ∈ U
  .rw [Vo hm] at hs;rw [Vy hm] at hH
   repeat' first|refine gf (kf @hrow @hlt) ?_|decide|refine sp ?_ ?_<;>intro _|refine cA hH ?_|fail
   all_goals exact rI (wE hs) ⟨k+1,by omega,rfl⟩
  .rw [Vj hm] at hs;rw [Vv hm] at hH;have et:(cn (l.take (k+1))).map cw=U.map cw ++ [cw x]:=by rw [hs];simp
   repeat' first|refine gf (kf @hrow @hlt) ?_|decide|refine sp ?_ ?_<;>intro _|refine cA hH ?_|(with_reducible apply And.intro)
   all_goals first
    | rfl
    | omega
    | exact rI (wS [2] et) ⟨k+1,by omega,rfl⟩
 .obtain rfl:k=l.length:=by omega
  repeat' first|refine gf (kf @hlt @Vq) ?_|decide|refine sp ?_ ?_<;>intro _
  exact aM (by simp [af.gc])
def uz (z:Zn) (l:List Int) (r:Int):Nat -> List Zn
 | 0=>[z]
 | i+1=>cn ((uz z l r i).flatMap fun o=>jF (fm o (l.getD i 0) (r - i)) (l.getD i 0) (r - i))
def MM:Nat -> Nat
 | 4=>1316
 | 3=>348
 | 2=>104
 | _=>42
def Q4:Nat -> Nat
 | 0=>1
 | r+1=>MM (r+1) * Q4 r
theorem gW {α β:Type} (f:α -> List β) (b:Nat):∀ l:List α,(∀ x ∈ l,(f x).length<=b) -> (l.flatMap f).length<=l.length * b
 | [],_=>by simp
 | x :: l,h=>by
  have h1:=gW f b l fun y hy=>h y (V0 _ hy);have h2:=h x Wc;rw [Wt,Vk,VN,Xh];omega
theorem NS {r:Int} (h:r<=4) (h1:1<=r):(r=4 -> (cV (r - 1)).toNat=7) /\ (r=3 -> (cV (r - 1)).toNat=3) /\ (r=2 -> (cV (r - 1)).toNat=1) /\ (r=1 -> (cV (r - 1)).toNat=0):=
 ⟨fun e=>by rw [e];decide,fun e=>by rw [e];decide,fun e=>by rw [e];decide,fun e=>by rw [e];decide⟩
theorem AA (z:Zn) (a:Int) {r:Int} (hz:z.cls.length<=20) (hr:r<=4):(jF z a r).length<=if r<1 then 0 else MM r.toNat:=by
 unfold jF;split
 .exact Vd _
 .rename_i hb;have h1:¬ r<1:=fun h=>hb (.inl h);rw [Vj h1];have hlo:=NS hr (by omega);have hB:=uq z a r z.cls.length;split
  .exact Vd _
  .split
   .have:1<=MM r.toNat:=by unfold MM;split<;>omega
    simpa using this
   .rw [Vk,Vk,ui,yC];have h4:r=4 \/ r=3 \/ r=2 \/ r=1:=(by omega);rcases h4 with e|e|e|e
    .rw [hlo.1 e] at hB ⊢;have:=VE (1+(7+1) * (7+1)) hz;subst e;show _<=1316;omega
    .rw [hlo.2.1 e] at hB ⊢;have:=VE (1+(3+1) * (3+1)) hz;subst e;show _<=348;omega
    .rw [hlo.2.2.1 e] at hB ⊢;have:=VE (1+(1+1) * (1+1)) hz;subst e;show _<=104;omega
    .rw [hlo.2.2.2 e] at hB ⊢;have:=VE (1+(0+1) * (0+1)) hz;subst e;show _<=42;omega
theorem Ew:∀ r,1<=Q4 r
 | 0=>Vh _
 | r+1=>by
  have h1:=Ew r;have h2:1<=MM (r+1):=by unfold MM;split<;>omega
  rw [Q4];exact Xj h2 h1
def UU (N:Nat) (l:List Zn):Prop:=∀ y ∈ l,nk N y
theorem r7 {N:Nat} (a r:Int):∀ (n:Nat) (z:Zn) (i:Nat),nk N z -> z.gaps.length=z.cls.length - 1 -> nk N (Ek a r n z i) /\ (Ek a r n z i).cls.length<=z.cls.length /\ (Ek a r n z i).gaps.length=(Ek a r n z i).cls.length - 1
 | 0,z,i,h,hg=>⟨h,Vh _,hg⟩
 | n+1,z,i,h,hg=>by
  rw [Ek];split
  .exact ⟨h,Vh _,hg⟩
  .rename_i hi;split
   .exact r7 a r n z (i+1) h hg
   .have hc:=Ed z a i;have hB:nk N (rS z a i):=⟨by rw [hc];exact h.cl,h.ga,IE a i h.at_⟩;split
    .obtain ⟨w1,w2⟩:=Bc (rS z a i) i r (by rw [hc];omega);have hm:=rT (rS z a i) i r _ (Vh _);rw [hc] at w1 w2 hm;have hcl:=h.cl;obtain ⟨k1,k2,k3⟩:=r7 (N:=N) a r n (nf (rS z a i) i r z.cls.length) i ⟨by rw [w1];omega,by rw [w2];omega,fun x hx=>hB.at_ x (hm x hx)⟩ (by rw [w1,w2]);rw [w1] at k2;exact ⟨k1,by omega,k3⟩
    .obtain ⟨k1,k2,k3⟩:=r7 a r n (rS z a i) (i+1) hB (by rw [hc];exact hg);exact ⟨k1,by omega,k3⟩
theorem oZ {N:Nat} {z:Zn} (a r:Int) (h:nk N z):nk N (fm z a r) /\ (fm z a r).cls.length<=z.cls.length:=by
 unfold fm;split
 .rename_i hg;obtain ⟨k1,k2,_⟩:=r7 a r z.cls.length z 0 h (by omega);exact ⟨k1,k2⟩
 .exact ⟨h,Vh _⟩
theorem uj (s i:Int):aF (dN s i):=dp (ot s i)
theorem xV {N:Nat} {z:Zn} (a:Int) (at_:Nat) (r:Int) (ahead:Nat) (come:List Int) (behind:Nat) (h:nk N z) (hat:at_<=z.cls.length) (hg:(ahead+come.length)+(z.gaps.length - behind)<=N+1) (hah:ahead<=z.gaps.length):nk (N+1) (jt z a at_ r ahead come behind):=by
 have hcl:=h.cl;refine ⟨?_,?_,fun x hx=>?_⟩
 .simp only [jt,Vk,VN,Vr,Wa];omega
 .have:(od z r).length=z.gaps.length:=by simp [od]
  simp only [jt,Vk,Vr,Wa];omega
 .rcases Vs.1 hx with h1 | h1
  .exact h.at_ x (VR h1)
  .rcases Wf.1 h1 with h2 | h2
   .rw [h2];exact uj _ _
   .exact h.at_ x (Wo h2)
theorem Pp {N:Nat} {z:Zn} (a:Int) (i:Nat) (r:Int) (h:nk N z):nk (N+1) (BI z a i r):=by
 have hcl:=h.cl;have hga:=h.ga;refine ⟨by simp [BI];omega,by simp [BI,od];omega,fun x hx=>?_⟩;rcases Wk hx with h1|h1
 .exact h.at_ x h1
 .rw [h1];exact uj _ _
theorem zO {N:Nat} {z:Zn} (a r:Int) (h:nk N z) (hg:z.gaps.length=z.cls.length - 1):∀ i,i<=z.cls.length -> ∀ y ∈ jE z a r i,nk (N+1) y
 | 0,_,y,hy=>by simp [jE] at hy
 | i+1,hi,y,hy=>by
  have hcl:=h.cl;rw [jE] at hy;rcases Vs.1 hy with h1|h1
  .exact zO a r h hg i (by omega) y h1
  .split at h1
   .rcases Wf.1 h1 with h2 | h2
    .rw [h2];exact Pp a i r h
    .obtain ⟨p,_,rfl⟩:=Vx.1 h2;exact xV a _ r _ _ _ h (by omega) (by simp only [VN,Wq];omega) (by omega)
   .simp only [VH] at h1;rw [h1];exact Pp a i r h
theorem Lj {N:Nat} {z:Zn} (a r:Int) (h:nk N z):∀ y ∈ jF z a r,nk (N+1) y:=by
 have hcl:=h.cl;intro y hy;unfold jF at hy;split at hy
 .simp at hy
 .rename_i hb;have hg:z.gaps.length=z.cls.length - 1:=by omega
  split at hy
  .simp at hy
  .split at hy
   .rename_i h0;simp only [VH] at hy;rw [hy];exact xV a _ r _ _ _ h (Vd _) (by simp;omega) (Vd _)
   .rename_i h0;rcases Vs.1 hy with h1|h1
    .rcases Vs.1 h1 with h2 | h2
     .obtain ⟨j,_,rfl⟩:=Vx.1 h2;exact xV a _ r _ _ _ h (Vd _) (by simp;omega) (Vd _)
     .exact zO a r h hg _ (Vh _) y h2
    .obtain ⟨j,_,rfl⟩:=Vx.1 h1;exact xV a _ r _ _ _ h (Vh _) (by simp;omega) (by omega)
theorem DZ {N:Nat} {z:Zn} (l:List Int) {r:Int} (h:nk N z) (hr:r<=4):∀ i,N+i<=20 -> UU (N+i) (uz z l r i) /\ (uz z l r i).length * Q4 (r - i).toNat<=Q4 r.toNat
 | 0,_=>by
  refine ⟨fun y hy=>?_,?_⟩
  .simp only [uz,VH] at hy;rw [hy];exact h
  .simp [uz]
 | i+1,hi=>by
  obtain ⟨h1,h2⟩:=DZ l h hr i (by omega)
  have hf:∀ o ∈ uz z l r i,(jF (fm o (l.getD i 0) (r - i)) (l.getD i 0) (r - i)).length<=if r - i<1 then 0 else MM (r - i).toNat:=fun o ho=>by
   have hd:=(oZ (l.getD i 0) (r - i) (h1 o ho)).1.cl;exact AA _ _ (by omega) (by omega)
  refine ⟨fun y hy=>?_,?_⟩
  .rw [uz,mO,V7] at hy;obtain ⟨o,ho,hy⟩:=hy;exact Lj _ _ (oZ _ _ (h1 o ho)).1 y hy
  .have h3:=mP ((uz z l r i).flatMap fun o=>jF (fm o (l.getD i 0) (r - i)) (l.getD i 0) (r - i));have h4:=gW _ _ _ hf;rw [uz];by_cases hc:r - (i:Int)<1
   .rw [Vo hc] at h4;have h5:(cn ((uz z l r i).flatMap fun o=>jF (fm o (l.getD i 0) (r - i)) (l.getD i 0) (r - i))).length=0:=(by omega);rw [h5,Xf];exact Vd _
   .rw [Vj hc] at h4;obtain ⟨q,hq⟩:∃ q:Nat,(r - (i:Int)).toNat=q+1:=⟨(r - (i:Int)).toNat - 1,by omega⟩;have hq2:(r - ((i+1:Nat):Int)).toNat=q:=(by omega);rw [hq2];rw [hq] at h2 h4;rw [Q4] at h2;refine VC (VE _ (VC h3 h4)) ?_;rw [Nat.mul_assoc];exact h2
theorem T7 {r:Int} (h:r<=4):Q4 r.toNat<=2000404224:=by
 have:r.toNat=0 \/ r.toNat=1 \/ r.toNat=2 \/ r.toNat=3 \/ r.toNat=4:=by omega
 rcases this with e|e|e|e|e<;>rw [e]<;>decide
theorem x9 {N:Nat} {z:Zn} (l:List Int) {r:Int} (h:nk N z) (hr:r<=4) (i:Nat) (hi:N+i<=20):(uz z l r i).length<=2000404224:=by
 have h1:=(DZ l h hr i hi).2;have h2:=Ew (r - i).toNat
 have h3:=T7 hr;have h4:=Nat.le_mul_of_pos_right (uz z l r i).length h2;omega
theorem FQ (z:Zn) (l:List Int) (r:Int) {N:Nat} (hz:nk N z) (hN:N+l.length<=20) (hl:∀ a ∈ l,0<=a /\ a<31) (hr:-1000<=r /\ r<=4):aw Tryz.prog 73 [.agg (cw z),sI l,eI r] ⟨.sl 2 ((uz z l r l.length).map cw),[],0⟩:=by
 refine iJ 91 ?_;refine bj ag Tryz.func73 rfl (by decide) Tryz.ntmps73 Tryz.results73 rfl ?_;have e00:(uz z l r 0).map cw=[cw z]:=rfl;have ha0:∀ i:Nat,i<=20 -> IntKind.i64.wrap (r - (i:Int))=r - (i:Int):=fun i hi=>aB (by omega) (by omega)
 repeat' first|refine gq ?_|decide|refine sp ?_ ?_<;>intro _
 refine ⟨rfl,?_⟩;refine ae (fun st=>∃ i:Nat,i<=l.length /\ st=⟨50,[(1,sI l),(2,eI r),(3,.op 0 0 0),(7,.osl 1),(8,eI (i:Int))],[(0,some (.box 91 (cw z))),(1,some (.row 91 2 ((uz z l r i).map cw)))],2⟩) (fun st=>l.length - ap st 8) ⟨_,(wE e00),0,Vd _,rfl⟩ ?_;rintro _ ⟨i,hi,rfl⟩;obtain ⟨hB,-⟩:=DZ l hz hr.2 i (by omega);have hL:=x9 l hz hr.2 i (by omega);by_cases hlt:i<l.length
 .have hBn:=x9 l hz hr.2 (i+1) (by omega);obtain ⟨a,ha⟩:∃ a,a=l[i]:=⟨_,rfl⟩;have hra:(l.map fun n=>[eI n])[i]?.getD []=[eI a]:=by rw [ha];simp [hlt]
  have hga:l.getD i 0=a:=by rw [ha];simp [List.getD,hlt]
  have hao:=hl a (ha ▸ Vg hlt);have ew:=ha0 i (by omega);have hs:uz z l r (i+1)=cn ((uz z l r i).flatMap fun o=>jF (fm o a (r - i)) a (r - i)):=by rw [uz,hga]
  obtain ⟨O,hO⟩:∃ O,O=uz z l r i:=⟨_,rfl⟩;rw [<- hO] at hs hB hL ⊢
  have hpl:∀ o ∈ O,(jF (fm o a (r - i)) a (r - i)).length<=1316:=fun o ho=>by
   have hd:=(oZ a (r - i) (hB o ho)).1.cl;have h1:=AA (fm o a (r - i)) a (r:=r - i) (by omega) (by omega);have h2:MM (r - i).toNat<=1316:=by unfold MM;split<;>omega
   split at h1<;>omega
  have hfl:∀ k,k<=O.length -> ((O.take k).flatMap fun o=>jF (fm o a (r - i)) a (r - i)).length<=2632531959000:=fun k hk=>by
   have h1:=gW (fun o=>jF (fm o a (r - i)) a (r - i)) 1316 (O.take k) fun o ho=>hpl o (VR ho);rw [Vr] at h1;have h2:min k O.length * 1316<=2000404224 * 1316:=VE _ (by omega);omega
  repeat' first|refine gf @hlt ?_|decide|refine sp ?_ ?_<;>intro _
  refine ae (fun st=>∃ k:Nat,k<=O.length /\ st=⟨50,[(1,sI l),(2,eI r),(3,.op 0 0 0),(7,.osl 1),(8,eI (i:Int)),(9,.osl 2),(10,eI (k:Int))],[(0,some (.box 91 (cw z))),(1,some (.row 91 2 (O.map cw))),(2,some (.row 91 2 (((O.take k).flatMap fun o=>jF (fm o a (r - i)) a (r - i)).map cw)))],3⟩) (fun st=>O.length - ap st 10) ⟨_,((be 9 91 2 (by simp only [iz,aj.get,bb,aj.put,↓reduceIte,reduceCtorEq,Nat.reduceLT,Nat.reduceEqDiff,Nat.reduceAdd,Nat.reduceLeDiff,eq_self,implies_true,Vu,Wl,VL])).trans (wS [0,1,2] (kf @Vu @Wl))),0,Vd _,rfl⟩ ?_;rintro _ ⟨k,hk,rfl⟩;have hFk:=hfl k hk;by_cases hlk:k<O.length
  .obtain ⟨o,ho⟩:∃ o,o=O[k]:=⟨_,rfl⟩;have hom:o ∈ O:=ho ▸ Vg hlk;have hro:(O.map cw)[k]?.getD []=cw o:=by rw [ho];simp [hlk]
   have hD:=QJ o a (r - i) (N:=N+i) (by omega) (hB o hom) hao;have hdB:=(oZ a (r - i) (hB o hom)).1;have hP:=OZ (fm o a (r - i)) a (r - i) (N:=N+i) (by omega) hdB ⟨by omega,by omega⟩;have hpo:=hpl o hom
   have et:((O.take (k+1)).flatMap fun o=>jF (fm o a (r - i)) a (r - i)).map cw=((O.take k).flatMap fun o=>jF (fm o a (r - i)) a (r - i)).map cw ++ (jF (fm o a (r - i)) a (r - i)).map cw:=by
    rw [Vi hlk,Wx,<- ho];simp
   obtain ⟨F,hF⟩:∃ F,F=(O.take k).flatMap fun o=>jF (fm o a (r - i)) a (r - i):=⟨_,rfl⟩;rw [<- hF] at et hFk ⊢;obtain ⟨D,hDe⟩:∃ D,D=fm o a (r - i):=⟨_,rfl⟩;rw [<- hDe] at hD hP hpo et;obtain ⟨P,hPe⟩:∃ P,P=jF D a (r - i):=⟨_,rfl⟩;rw [<- hPe] at hP hpo et
   repeat' first|refine ge (kf @hlt (kf @hlk (kf @hro (kf @hra ew)))) ?_|decide|refine sp ?_ ?_<;>intro _
   refine ay [2] [0,1,2,3,4,5,6,7,8,9,10,11,13,14,15,16,17,18,19] (.exec 12 (.exec 20 (.exec 21 (.exec 22 .done)))) (by kernel_rfl) (by simp [af.gc]) ?_
   repeat' first|refine gf (kf @hlt (kf @hlk (kf @hro (kf @hra ew)))) ?_|decide|refine sp ?_ ?_<;>intro _|refine cA hD ?_|refine cA hP ?_|(with_reducible apply And.intro)
   all_goals first
    | rfl
    | omega
    | exact rI (wS [0,1,3] (kf et hF)) ⟨k+1,by omega,rfl⟩
  .obtain rfl:k=O.length:=by omega
   rw [Vq] at hFk ⊢
   have hZB:∀ y ∈ O.flatMap fun o=>jF (fm o a (r - i)) a (r - i),y.cls.length<=1000000 /\ y.gaps.length<=1000000:=fun y hy=>by
    obtain ⟨o,ho,hy⟩:=V7.1 hy;have h1:=Lj a (r - i) (oZ a (r - i) (hB o ho)).1 y hy;have h2:=h1.cl;have h3:=h1.ga;exact ⟨by omega,by omega⟩
   have hU:=Mw _ hZB (by omega);rw [<- hs] at hU
   repeat' first|refine gf @hlk ?_|decide|refine sp ?_ ?_<;>intro _
   refine qY [2] (R:=g8 91 2 ((uz z l r (i+1)).map cw)) ?_ ?_ ?_
   .repeat' first|decide|refine go ?_
    exact hU
   .repeat' first|decide|refine go ?_
    left;simp [fc,fH,aR,aY]
   .repeat' first|refine go ?_|simp only [g8,bh,bI,bH,aD.shift]|decide|refine sp ?_ ?_<;>intro _
    all_goals exact rI (wR [0,3]) ⟨i+1,by omega,rfl⟩
 .obtain rfl:i=l.length:=by omega
  repeat' first|refine gf @hlt ?_|decide|refine sp ?_ ?_<;>intro _
  all_goals exact tt rfl i9
end
section
structure Nd where
 z:Zn
 opn:Int
 don:Int
 did:List Int
 cnt:List Int
abbrev iQ (n:Nd):List AV:=[.sl 2 (n.z.cls.map cO),sI n.z.gaps,eI n.opn,eI n.don,sI n.did,sI n.cnt]
abbrev TU (l:List Nd):AV:=.sl 6 (l.map iQ)
def bu (n:Nd):St:=⟨[],n.opn,n.don,n.did,n.cnt⟩
noncomputable def sf (m:bl) (c:List Int) (n:Nd) (x:ah):Bool:=(fe m (bu n) x).getD (ic (bG [x] n.z c (bu n)))
theorem FF {m:bl} {s:St} {x:ah} (h:dt x=true):fe m s x=none:=by
 have h3:3<=x.op /\ x.op<=8:=by simpa [dt] using h
 unfold fe;simp only [show x.op ≠ 1 by omega,show x.op ≠ 2 by omega,show x.op ≠ 9 by omega,show x.op ≠ 10 by omega,show x.op ≠ 11 by omega,show x.op ≠ 12 by omega,show x.op ≠ 13 by omega,show x.op ≠ 14 by omega,if_false]
theorem Dl {m:bl} {s:St} {x:ah} (h:dt x=false) (ha:fe m s x=none):¬ (1<=x.op /\ x.op<=14):=by
 rintro ⟨h1,h2⟩
 have h3:¬ (3<=x.op /\ x.op<=8):=by
  intro h3;have:dt x=true:=by simp [dt,h3]
  rw [h] at this;cases this
 unfold fe at ha;rcases (by omega:x.op=1 \/ x.op=2 \/ x.op=9 \/ x.op=10 \/ x.op=11 \/ x.op=12 \/ x.op=13 \/ x.op=14) with e|e|e|e|e|e|e|e<;>rw [e] at ha<;>simp at ha
theorem zL (x:ah) (z:Zn) (c:List Int) (s:St) (h:¬ (1<=x.op /\ x.op<=14)):ic (bG [x] z c s)=false:=by
 have h1:aC x.op ≠ 0:=by
  unfold aC;rw [Vj h];split
  .decide
  .split<;>decide
 have h2:cD 0 x.op=none:=by
  unfold cD;rw [Vj h1,Vj (by omega),Vj (by omega)]
 have h3:bf ([x].map ah.op) ≠ 0:=by
  simp [bf,bx,h2]
 unfold bG fN;rw [Vo h3];split<;>rfl
theorem EW (x:ah) (z:Zn) (c:List Int) (s t:St) (h:dt x=true):bG [x] z c s=bG [x] z c t:=by
 have h3:3<=x.op /\ x.op<=8:=by simpa [dt] using h
 unfold bG fN;simp only [de]
 have:∀ o d:Int,du (fun x=>some (rC z c x.la x.ln x.ra x.rn)) o d x []=some [Rf x.op (rC z c x.la x.ln x.ra x.rn)]:=fun o d=>by
  unfold du;simp only [show ¬ (x.op=1 \/ x.op=2) by omega,if_false,h3,and_self,if_true]
 rw [this,this]
theorem Re (m:bl) (c:List Int) (n:Nd) (x:ah):(if 3<=x.op /\ x.op<=8 then ic (bG [x] n.z c ⟨[],0,0,[],[]⟩) else tL m (bu n) x)=sf m c n x:=by
 unfold sf tL;by_cases h:3<=x.op /\ x.op<=8
 .have hc:dt x=true:=by simp [dt,h]
  rw [Vo h,FF hc,EW x n.z c ⟨[],0,0,[],[]⟩ (bu n) hc];rfl
 .have hc:dt x=false:=by
   cases hb:dt x
   .rfl
   .exact absurd (by simpa [dt] using hb) h
  rw [Vj h]
  cases ha:fe m (bu n) x with
  | some b=>rfl
  | none=>
   rw [zL x n.z c (bu n) (Dl hc ha)]
theorem SB (m:bl) (c:List Int) (n:Nd) (x:ah) (hl:m.events.length<=1000000) (hl2:m.users.length<=1000000) (hl3:m.miles.length<=1000000) (hl4:m.sods.length<=1000000) (hx:x.ok) (h1:n.z.cls.length<=1000000) (h2:c.length<=1000000) (h3:n.did.length<=1000000) (h4:n.cnt.length<=1000000) :
  aw Tryz.prog 42 [.agg (aQ m),sI c,.agg (iQ n),.agg (cq x)] (val (.bool (sf m c n x))):=by
 refine aa ag Tryz.func42 rfl (by decide) Tryz.ntmps42 Tryz.results42 rfl (aI _) ?_;have hS:=JX (n.z.cls.map cO) (n.z.gaps.map fun n=>[eI n]) n.opn n.don n.did n.cnt h3 h4;have hA:=MA m (bu n) x hl hl2 hl3 hl4;have hA2:=hA.fits (args:=[.agg (aQ m),.agg [.c (.slice none 0 0),eI n.opn,eI n.don,sI n.did,sI n.cnt],.agg (cq x)]) ⟨.one (.refl _),.agg ⟨.nil 1,.refl _,.refl _,.refl _,.refl _,trivial⟩,.one (.refl _),trivial⟩
 cases ha:fe m (bu n) x with
 | some b=>
  rw [ha] at hA2;have hv:sf m c n x=b:=by unfold sf;rw [ha];rfl
  rw [hv]
  repeat' first|refine gf @Option.isSome_some.{0} ?_|decide|refine sp ?_ ?_<;>intro _|refine cA hS ?_|refine cA hA2 ?_|fail
  all_goals rfl
 | none=>
  rw [ha] at hA2;have hv:sf m c n x=ic (bG [x] n.z c (bu n)):=by unfold sf;rw [ha];rfl
  rw [hv];have hZ:=Iz [x] n.z c (bu n) (by simp) (by simpa using hx) h1 h2;have hZ2:=hZ.fits (args:=[aX [x],.agg (cw n.z),sI c,.agg [.c (.slice none 0 0),eI n.opn,eI n.don,sI n.did,sI n.cnt]]) ⟨.one (.refl _),.one (.refl _),.one (.refl _),.agg ⟨.nil 1,.refl _,.refl _,.refl _,.refl _,trivial⟩,trivial⟩
  repeat' first|refine gf @Option.isSome_none.{0} ?_|decide|refine sp ?_ ?_<;>intro _|refine cA hS ?_|refine cA hA2 ?_|fail
  refine ⟨rfl,?_⟩;refine qY [4] (R:=⟨.tup [eB (ic (bG [x] n.z c (bu n))),eI (pX (bG [x] n.z c (bu n)))],[],0⟩) ?_ ?_ ?_
  .repeat' first|decide|refine go ?_
   exact hZ2
  .repeat' first|decide|refine go ?_
   left;simp [fc,fH,aR,aY]
  .repeat' first|refine gq ?_|decide|refine sp ?_ ?_<;>intro _
theorem qC (n:Nd) (h1:n.did.length<=1000000) (h2:n.cnt.length<=1000000):aw Tryz.prog 51 [.agg (iQ n)] ⟨.agg [.c (.slice none 0 0),eI n.opn,eI n.don,sI n.did,sI n.cnt],[],0⟩:=by
 refine aw.still (R:=⟨.agg [.c (.slice none 0 0),eI n.opn,eI n.don,.osl 0,.osl 1],[(0,some (.row 3 1 (n.did.map fun n=>[eI n]))),(1,some (.row 3 1 (n.cnt.map fun n=>[eI n])))],2⟩) [0,1] ?_ (by simp [cS.frzs,cS.frz,af.gc,AV.frz,AV.frzL,b8,aD.frz]) (by simp [AV.lt,AV.ltL]);refine aa ag Tryz.func51 rfl (by decide) Tryz.ntmps51 Tryz.results51 rfl (ls (by simp [cX,aD.lt,AV.ltL,AV.lt]) (by simp [AV.lt,AV.ltL])) ?_
 repeat' first|refine go ?_|decide|refine sp ?_ ?_<;>intro _
 refine ay [1] [0,1,2,3,5,6,9,10] (.two 4 (.two 7 (.exec 8 (.exec 11 (.take 12 (.exec 13 .done)))) 8 (.exec 7 (.exec 11 (.take 12 (.exec 13 .done))))) 8 (.exec 4 (.exec 7 (.exec 11 (.take 12 (.exec 13 .done)))))) (by kernel_rfl) (by simp [af.gc]) ?_
 repeat' first|refine gq ?_|decide|refine sp ?_ ?_<;>intro _|(with_reducible apply And.intro)
 all_goals first
  | omega
  | rfl
  | exact ⟨[3,5],by decide,rfl,by simp [cM,af.gc]⟩
  | exact ⟨[4,5],by decide,rfl,by simp [cM,af.gc]⟩
  | exact ⟨[5,4],by decide,rfl,by simp [cM,af.gc]⟩
  | exact ⟨[5,3],by decide,rfl,by simp [cM,af.gc]⟩
theorem Uk (m:bl) (c:List Int) (n:Nd) (x:ah) (hst:m.stages.length<=1000000) (hle:m.events.length<=1000000) (hl:m.miles.length<=1000000) (hl2:m.sods.length<=1000000) (hl3:m.users.length<=1000000) (hr:∀ p ∈ m.roles,aF p.2)
  (h1:n.z.cls.length<=1000000) (h2:c.length<=1000) (h3:n.did.length<=1000000) (h4:n.cnt.length<=1000000) (hz:∀ x ∈ n.z.cls,aF x.attrs) (ho:aF n.opn) (hd:aF n.don) (hdid:∀ x ∈ n.did,aF x) :
  aw Tryz.prog 24 [.agg (aQ m),sI c,.agg (iQ n),.agg (cq x)] (val (.bool (sf m c n x))):=by
 refine aa ag Tryz.func24 rfl (by decide) Tryz.ntmps24 Tryz.results24 rfl (aI _) ?_;rw [<- Re];by_cases h:3<=x.op /\ x.op<=8
 .have hc:(decide (3<=x.op) && decide (x.op<=8))=true:=by simp [h]
  have hcc:=o9 x;rw [hc] at hcc;rw [Vo h];have hZ:=vd [x] n.z c ⟨[],0,0,[],[]⟩ (by simp) h1 h2 hz (by simp [aF]) (by simp [aF]);have hZ2:=hZ.fits (args:=[aX [x],.agg (cw n.z),sI c,.agg [.c (.slice none 0 0),eI 0,eI 0,.c (.slice none 0 0),.c (.slice none 0 0)]]) ⟨.one (.refl _),.one (.refl _),.one (.refl _),.agg ⟨.nil 1,.refl _,.refl _,.nil 1,.nil 1,trivial⟩,trivial⟩
  repeat' first|refine gq ?_|decide|refine sp ?_ ?_<;>intro _|refine cA hcc ?_|fail
  refine ⟨rfl,?_⟩;refine qY [3] (R:=⟨.tup [eB (ic (bG [x] n.z c ⟨[],0,0,[],[]⟩)),eI (pX (bG [x] n.z c ⟨[],0,0,[],[]⟩))],[],0⟩) ?_ ?_ ?_
  .repeat' first|decide|refine go ?_
   exact hZ2
  .repeat' first|decide|refine go ?_
   left;simp [fc,fH,aR,aY]
  .repeat' first|refine gq ?_|decide|refine sp ?_ ?_<;>intro _
 .have hc:(decide (3<=x.op) && decide (x.op<=8))=false:=by
   cases hb:(decide (3<=x.op) && decide (x.op<=8))
   .rfl
   .exact absurd (by simpa using hb) h
  have hcc:=o9 x;rw [hc] at hcc;rw [Vj h];have hS:=qC n h3 h4;have hP:=EU m (bu n) x hst hle hl hl2 hl3 ho hd hr hdid;have hP2:=hP.fits (args:=[.agg (aQ m),.agg [.c (.slice none 0 0),eI n.opn,eI n.don,sI n.did,sI n.cnt],.agg (cq x)]) ⟨.one (.refl _),.agg ⟨.nil 1,.refl _,.refl _,.refl _,.refl _,trivial⟩,.one (.refl _),trivial⟩
  repeat' first|refine go ?_|decide|refine sp ?_ ?_<;>intro _
  refine ax hcc ?_
  repeat' first|refine go ?_|decide|refine sp ?_ ?_<;>intro _
  refine ay [] [0,1,3] (.exec 2 (.exec 4 (.exec 5 .done))) (by kernel_rfl) (by simp [af.gc]) ?_
  repeat' first|refine gq ?_|decide|refine sp ?_ ?_<;>intro _|refine cA hS ?_|refine cA hP2 ?_|fail
theorem Fo (m:bl) (c:List Int) (l:List Nd) (x:ah) (hl:m.events.length<=1000000) (hl2:m.users.length<=1000000) (hl3:m.miles.length<=1000000) (hl4:m.sods.length<=1000000) (hx:x.ok) (h2:c.length<=1000000)
  (hll:l.length<=1000000) (h1:∀ n ∈ l,n.z.cls.length<=1000000 /\ n.did.length<=1000000 /\ n.cnt.length<=1000000) :
  aw Tryz.prog 22 [.agg (aQ m),sI c,TU l,.agg (cq x)] (g8 4 1 (l.map fun n=>[eB (sf m c n x)])):=by
 refine aa ag Tryz.func22 rfl (by decide) Tryz.ntmps22 Tryz.results22 rfl (ch _ _ _) ?_
 repeat' first|refine go ?_|decide|refine sp ?_ ?_<;>intro _
 refine ae (fun st=>∃ k:Nat,k<=l.length /\ st=⟨28,[(1,sI c),(4,.op 0 0 0),(7,.op 1 0 0),(9,.osl 2),(12,TU l),(13,eI (l.length:Int)),(14,eI (k:Int))],[(0,some (.box 32 (aQ m))),(1,some (.box 61 (cq x))),(2,some (.row 4 1 ((l.take k).map fun n=>[eB (sf m c n x)])))],3⟩) (fun st=>l.length - ap st 14) ⟨_,((be 9 4 1 (by simp only [iz,aj.get,bb,aj.put,↓reduceIte,reduceCtorEq,Nat.reduceLT,Nat.reduceEqDiff,Nat.reduceAdd,Nat.reduceLeDiff,eq_self,implies_true,Vu,VL])).trans (wS [0,1,2] @Vu)),0,Vd _,rfl⟩ ?_;rintro _ ⟨k,hk,rfl⟩;by_cases hlt:k<l.length
 .obtain ⟨n,hn⟩:∃ n,l[k]=n:=⟨_,rfl⟩;obtain ⟨g1,g2,g3⟩:=h1 n (hn ▸ Vg hlt);have hA:=SB m c n x hl hl2 hl3 hl4 hx g1 h2 g2 g3;have hsn:(l.take (k+1)).map (fun n=>[eB (sf m c n x)])=(l.take k).map (fun n=>[eB (sf m c n x)]) ++ [[eB (sf m c n x)]]:=by rw [dc _ l hlt,hn]
  have htl:(l.take k).length<=1000000:=by rw [Vr];omega
  repeat' first|refine gq ?_|simp only [ab,hlt,hn]|decide|refine sp ?_ ?_<;>intro _|refine cA hA ?_|(with_reducible apply And.intro)
  all_goals first
   | rfl
   | omega
   | exact rI (wS [0,1,5] @hsn) ⟨k+1,by omega,rfl⟩
 .obtain rfl:k=l.length:=by omega
  repeat' first|refine gf (kf @hlt @Vq) ?_|decide|refine sp ?_ ?_<;>intro _
  all_goals exact aM (by simp [af.gc])
end
section
theorem N8 (l:List fU) (k:Nat):(mZ l k).Pairwise (· < ·):=List.Pairwise.filter _ List.pairwise_lt_range
theorem Ma (l:List fU) (k:Nat) {i:Nat} (h:i ∈ mZ l k):i<k:=by
 unfold mZ at h;simp at h;exact h.1
def fC (z:Zn):List Nat:=mZ z.cls z.cls.length
def CR (z:Zn) (n:Int) (c:List Int) (r:Int):Prop:=
 ((0<=n /\ n<=31) /\ rM z.cls n ((bX c).length:Int) /\ xp z (cV r)) /\ ∀ i,i+1<(fC z).length -> o0 z ((fC z).getD i 0) ((fC z).getD (i+1) 0) (cV r) ((bX c).getD i 0) ((bX c).getD (i+1) 0)
end
section
theorem qQ (z:Zn) (p:Nat):dz z p p=[]:=by
 unfold dz;rw [List.drop_eq_nil_iff,Vr];omega
theorem AJ (z:Zn) {p q:Nat} {g:Int} (h:z.gaps[q]? = some g) (hpq:p<=q):dz z p (q+1)=dz z p q ++ [g]:=by
 have hq:q<z.gaps.length:=(Vf.1 h).1;unfold dz;rw [Xp,h,List.drop_append_of_le_length (by rw [Vr];omega)];rfl
end
section
end
section
end
section
end
section
theorem Un (a b:Nat) (ha:a<2 ^ 63) (hb:b<2 ^ 63):UX (a:Int) (b:Int)=((a ||| b:Nat):Int):=by
 show IntKind.i64.wrap ((BitVec.ofInt 64 (a:Int) ||| BitVec.ofInt 64 (b:Int)).toNat:Int)=_;rw [BitVec.toNat_or,iG a (by omega),iG b (by omega)];exact tz _ (Nat.or_lt_two_pow ha hb)
theorem I6 (a b:Nat) (ha:a<2 ^ 63) (hb:b<2 ^ 63):UE (a:Int) (b:Int)=((a &&& b:Nat):Int):=by
 show IntKind.i64.wrap ((BitVec.ofInt 64 (a:Int) &&& BitVec.ofInt 64 (b:Int)).toNat:Int)=_;rw [BitVec.toNat_and,iG a (by omega),iG b (by omega)];exact tz _ (XG Nat.and_le_left (by omega))
def aN (x:fU):Nat:=x.attrs.toNat
theorem oj:∀ l:List fU,(∀ x ∈ l,0<=x.attrs /\ x.attrs<9223372036854775808) -> ∃ A:Nat,FE l=(A:Int) /\ A<2 ^ 63 /\ ∀ q,A.testBit q=true ↔ ∃ x ∈ l,(aN x).testBit q=true:=fun L=>by
 induction hk:L.length using Nat.strongRecOn generalizing L with
 | _ k ih=>
  intro hL;rcases List.eq_nil_or_concat L with rfl|⟨l,m,rfl⟩
  .exact ⟨0,rfl,by decide,fun q=>by simp⟩
  .rw [List.concat_eq_append] at *;obtain ⟨A,h1,h2,h3⟩:=ih l.length (by simp at hk;omega) l rfl fun x hx=>hL x (List.mem_append_left _ hx);have hm:=hL m (by simp);have e1:m.attrs=((aN m:Nat):Int):=by unfold aN;omega
   have hlt:aN m<2 ^ 63:=by unfold aN;omega
   refine ⟨A ||| aN m,?_,Nat.or_lt_two_pow h2 hlt,fun q=>?_⟩
   .rw [Gs,h1,e1,Un _ _ h2 hlt]
   .rw [Nat.testBit_or,Xl,h3];simp only [Vs,VH];constructor
    .rintro (⟨x,hx,hb⟩ | hb)
     .exact ⟨x,.inl hx,hb⟩
     .exact ⟨m,.inr rfl,hb⟩
    .rintro ⟨x,hx | rfl,hb⟩
     .exact .inl ⟨x,hx,hb⟩
     .exact .inr hb
structure ZB (l:List fU) (n:Nat):Prop where
 nn:∀ x ∈ l,0<=x.attrs /\ x.attrs<2147483648
 lt:∀ x ∈ l,∀ q,(aN x).testBit q=true -> q<n
 dis:∀ i j (hi:i<l.length) (hj:j<l.length) (q:Nat),(aN l[i]).testBit q=true -> (aN l[j]).testBit q=true -> i=j
 all:∀ q,q<n -> ∃ i,∃ h:i<l.length,(aN l[i]).testBit q=true
theorem Uf {l:List fU} {n:Nat} {k:Int} (hn:n<=31) (h:rM l (n:Int) k) (hl:∀ x ∈ l,x.attrs<9223372036854775808):ZB l n:=by
 obtain ⟨h1,h2,_⟩:=h
 have hnn:∀ x ∈ l,0<=x.attrs /\ x.attrs<9223372036854775808:=fun x hx=>by
  obtain ⟨i,hi,rfl⟩:=VD hx;exact ⟨(h1 i hi).1,hl _ (Vg hi)⟩
 obtain ⟨A,hA,hAlt,hAb⟩:=oj l hnn
 have hA2:A=2 ^ n - 1:=by
  rw [hA] at h2;unfold j5 at h2;have e:(max 0 (min (n:Int) 31)).toNat=n:=by omega
  rw [e] at h2;have h3:1<=2 ^ n:=XH;have h4:((2 ^ n - 1:Nat):Int)=(2:Int) ^ n - 1:=by rw [Int.natCast_sub h3];simp
  omega
 have hlt:∀ x ∈ l,∀ q,(aN x).testBit q=true -> q<n:=fun x hx q hq=>by
  have:=(hAb q).2 ⟨x,hx,hq⟩;rw [hA2,WS] at this;simpa using this
 have hlow:∀ i j (hi:i<l.length) (hj:j<l.length) (q:Nat),i<j -> (aN l[i]).testBit q=true -> (aN l[j]).testBit q=true -> False:=fun i j hi hj q hij h3 h4=>by
  have h5:=(h1 j hj).2.1;obtain ⟨B,hB,hBlt,hBb⟩:=oj (l.take j) fun x hx=>hnn x (VR hx);have e1:l[j].attrs=((aN l[j]:Nat):Int):=by have:=hnn _ (Vg hj);unfold aN;omega
  have hlt2:aN l[j]<2 ^ 63:=by have:=hnn _ (Vg hj);unfold aN;omega
  rw [hB,e1,I6 _ _ hlt2 hBlt] at h5;have h6:aN l[j] &&& B=0:=by omega
  have h7:(aN l[j] &&& B).testBit q=true:=by
   rw [Nat.testBit_and,h4,(hBb q).2 ⟨l[i],List.mem_take_iff_getElem.2 ⟨i,by omega,rfl⟩,h3⟩];rfl
  rw [h6] at h7;simp at h7
 refine ⟨fun x hx=>⟨(hnn x hx).1,?_⟩,hlt,fun i j hi hj q h3 h4=>?_,fun q hq=>?_⟩
 .have:aN x<2 ^ 31:=Nat.lt_pow_two_of_testBit _ fun q hq=>by
   cases hb:(aN x).testBit q with
   | false=>rfl
   | true=>have:=hlt x hx q hb;omega
  have h0:=(hnn x hx).1;unfold aN at this;omega
 .rcases Xd i j with h5 | h5 | h5
  .exact (hlow i j hi hj q h5 h3 h4).elim
  .exact h5
  .exact (hlow j i hj hi q h5 h4 h3).elim
 .have:A.testBit q=true:=by
   rw [hA2,WS];simpa using hq
  obtain ⟨x,hx,hb⟩:=(hAb q).1 this;obtain ⟨i,hi,rfl⟩:=VD hx;exact ⟨i,hi,hb⟩
theorem pw {l:List fU} (h:∀ i (h:i<l.length),KM (l.take i) l[i]):∀ k,k<=l.length -> (mZ l k).length=fE (l.take k)
 | 0,_=>by simp [mZ,fE]
 | k+1,hk=>by
  have ih:=pw h k (by omega);have hc:=(h k (by omega)).2.2.2;rw [mJ l (by omega),Vi (by omega),ud];by_cases h1:l[k].const = -1
  .rw [Vj (by omega),Vo h1];omega
  .rw [Vo (by omega),Vj h1,Vk,Vz];omega
theorem A0 (l:List fU) {i:Nat}:∀ d,i+d<=l.length -> ∃ t,mZ l (i+d)=mZ l i ++ t
 | 0,_=>⟨[],by simp⟩
 | d+1,hd=>by
  obtain ⟨t,ht⟩:=A0 l (i:=i) d (by omega);rw [show i+(d+1)=i+d+1 by omega,mJ l (by omega)];split
  .exact ⟨t ++ [i+d],by rw [ht,VZ]⟩
  .exact ⟨t,ht⟩
theorem PT {z:Zn} (h:∀ i (h:i<z.cls.length),KM (z.cls.take i) z.cls[i]) {i:Nat} (hi:i<z.cls.length) (hc:z.cls[i].const ≠ -1):∃ j:Nat,z.cls[i].const=(j:Int) /\ ∃ hj:j<(fC z).length,(fC z)[j]=i:=by
 have h1:=((h i hi).2.2.2).resolve_left hc;have h2:=pw h i (by omega);obtain ⟨t,ht⟩:=A0 z.cls (i:=i+1) (z.cls.length - (i+1)) (by omega);rw [show i+1+(z.cls.length - (i+1))=z.cls.length by omega,mJ z.cls hi,Vo (by omega)] at ht;have e:fC z=mZ z.cls i ++ [i] ++ t:=ht;refine ⟨(mZ z.cls i).length,by omega,by rw [e];simp,?_⟩;simp [e]
end
end
section
section
def cH (l:List fU) (a:Int):Nat:=l.countP fun x=>bq x.attrs a
theorem DF (l:List fU) (x:fU) (a:Int):cH (l ++ [x]) a=cH l a+(if bq x.attrs a=true then 1 else 0):=by
 unfold cH;rw [List.countP_append];cases h:bq x.attrs a<;>simp [h]
theorem Kv (l:List fU) (a:Int):cH l a<=l.length:=List.countP_le_length
theorem P3 (z:Zn) (a:Int) (h1:z.cls.length<=1000000) (hat:∀ x ∈ z.cls,aF x.attrs):aw Tryz.prog 175 [.agg (cw z),eI a] (val (.int .i64 (cH z.cls a:Int))):=by
 refine aa ag Tryz.func175 rfl (by decide) Tryz.ntmps175 Tryz.results175 rfl (aI _) ?_
 repeat' first|refine go ?_|decide|refine sp ?_ ?_<;>intro _
 refine ae (fun st=>∃ (k:Nat) (s:Int),k<=z.cls.length /\ s=(cH (z.cls.take k) a:Int) /\ st=⟨25,[(1,eI a),(2,.op 0 0 0),(5,eI s),(6,eI (k:Int))],[(0,some (.box 91 (cw z)))],1⟩) (fun st=>z.cls.length - ap st 6) ⟨_,wC,0,0,Vd _,rfl,rfl⟩ ?_;rintro _ ⟨k,s,hk,hs,rfl⟩;by_cases hlt:k<z.cls.length
 .have htk:cH (z.cls.take (k+1)) a=cH (z.cls.take k) a+(if bq z.cls[k].attrs a=true then 1 else 0):=by rw [Vi hlt,DF]
  have hle:=Kv (z.cls.take k) a;rw [Vr] at hle;have hH:=dA z.cls[k].attrs a (hat _ (Vg hlt));generalize hc:z.cls[k]=c at *
  cases hb:bq c.attrs a with
  | true=>
   rw [hb] at hH;rw [hb,Vo rfl] at htk;have ew:IntKind.i64.wrap (s+1)=s+1:=aB (by omega) (by omega)
   repeat' first|refine gq ?_|simp only [ab,hlt,hc,ew]|decide|refine sp ?_ ?_<;>intro _|refine cA hH ?_|fail
   all_goals exact rI (wE ew) ⟨k+1,s+1,by omega,by omega,rfl⟩
  | false=>
   rw [hb] at hH;rw [hb,Vj (by simp)] at htk
   repeat' first|refine gq ?_|simp only [ab,hlt,hc]|decide|refine sp ?_ ?_<;>intro _|refine cA hH ?_|fail
   all_goals exact rI wC ⟨k+1,s,by omega,by omega,rfl⟩
 .obtain rfl:k=z.cls.length:=by omega
  rw [Vq] at hs;rw [<- hs]
  repeat' first|refine gf @hlt ?_|decide|refine sp ?_ ?_<;>intro _
def Py (l:List fU) (n:Int) (k:Nat):Bool:=(List.range k).all fun a=>decide ((cH l (a:Int):Int)=if (a:Int)<n then 1 else 0)
theorem JW (l:List fU) (n:Int) (k:Nat):Py l n (k+1)=(Py l n k && decide ((cH l (k:Int):Int)=if (k:Int)<n then 1 else 0)):=by
 unfold Py;rw [Wn,List.all_append];simp
def qE (l:List fU) (x:fU):Bool:=decide (0<=x.attrs) && decide (x.attrs<2147483648) && (decide (0<x.attrs) || decide (0<=x.const)) && (x.const == -1 || x.const == (fE l:Int))
def Mq (l:List fU) (n:Int) (k:Nat):Bool:=Py l n 31 && (List.range k).all fun i=>qE (l.take i) (l.getD i ⟨0,0⟩)
theorem Ig (l:List fU) (n:Int) {k:Nat} (hk:k<l.length):Mq l n (k+1)=(Mq l n k && qE (l.take k) l[k]):=by
 unfold Mq;rw [Wn,List.all_append,Bool.and_assoc];simp [Vm,p0 hk]
theorem EO (z:Zn) (n m:Int) (h1:z.cls.length<=1000000) (hat:∀ x ∈ z.cls,aF x.attrs):aw Tryz.prog 146 [.agg (cw z),eI n,eI m] (val (.bool (Mq z.cls n z.cls.length && decide ((fE z.cls:Int)=m)))):=by
  refine aa ag Tryz.func146 rfl (by decide) Tryz.ntmps146 Tryz.results146 rfl (aI _) ?_
  repeat' first|refine go ?_|decide|refine sp ?_ ?_<;>intro _
  refine ae (fun st=>∃ (k:Nat) (ok:Bool),k<=31 /\ ok=Py z.cls n k /\ st=⟨88,[(1,eI n),(2,eI m),(3,.op 0 0 0),(7,.c (.bool ok)),(8,eI (k:Int))],[(0,some (.box 91 (cw z)))],1⟩) (fun st=>31 - ap st 8) ⟨_,wC,0,true,Vd _,rfl,rfl⟩ ?_;rintro _ ⟨k,ok,hk,hok,rfl⟩;by_cases hlt:k<31
  . have d0:decide ((k:Int)<31)=true:=Vy (by omega);have hs:=JW z.cls n k;rw [<- hok] at hs;have hS:=P3 z (k:Int) h1 hat
    generalize (cH z.cls (k:Int):Int)=s at *;by_cases g:(k:Int)<n
    . have d1:decide ((k:Int)<n)=true:=Vy g;rw [Vo g] at hs
      cases ok with
      | false=>
        repeat' first|refine gf (kf d0 d1) ?_|decide|refine sp ?_ ?_<;>intro _
        all_goals exact rI wC ⟨k+1,false,by omega,by rw [hs];rfl,rfl⟩
      | true=>
        have e1:(s == 1)=decide (s=1):=by by_cases h:s=1<;>simp [h]
        repeat' first|refine gf (kf d0 d1) ?_|decide|refine sp ?_ ?_<;>intro _|refine cA hS ?_|fail
        all_goals exact rI wC ⟨k+1,(s == 1),by omega,by rw [hs,e1];rfl,rfl⟩
    . have d1:decide ((k:Int)<n)=false:=Vv g;rw [Vj g] at hs
      cases ok with
      | false=>
        repeat' first|refine gf (kf d0 d1) ?_|decide|refine sp ?_ ?_<;>intro _
        all_goals exact rI wC ⟨k+1,false,by omega,by rw [hs];rfl,rfl⟩
      | true=>
        have e1:(s == 0)=decide (s=0):=by by_cases h:s=0<;>simp [h]
        repeat' first|refine gf (kf d0 d1) ?_|decide|refine sp ?_ ?_<;>intro _|refine cA hS ?_|fail
        all_goals exact rI wC ⟨k+1,(s == 0),by omega,by rw [hs,e1];rfl,rfl⟩
  obtain rfl:k=31:=by omega
  have d0:decide (((31:Nat):Int)<31)=false:=rfl
  repeat' first|refine gf d0 ?_|decide|refine sp ?_ ?_<;>intro _
  clear hk;refine ae (fun st=>∃ (i:Nat) (o:Bool) (x:Int),i<=z.cls.length /\ o=Mq z.cls n i /\ x=(fE (z.cls.take i):Int) /\ st=⟨88,[(1,eI n),(2,eI m),(3,.op 0 0 0),(7,.c (.bool o)),(9,eI x),(10,eI (i:Int))],[(0,some (.box 91 (cw z)))],1⟩) (fun st=>z.cls.length - ap st 10) ⟨_,wC,0,ok,0,Vd _,by rw [hok];simp [Mq],rfl,rfl⟩ ?_;rintro _ ⟨i,o,x,hi,ho,hx,rfl⟩;by_cases hlt:i<z.cls.length
  . have hnx:(fE (z.cls.take (i+1)):Int)=x+(if z.cls[i].const = -1 then 0 else 1):=by rw [Vi hlt,ud,hx];split<;>simp
    have hnl:x<=1000000:=by have:=Lf (z.cls.take i);rw [Vr] at this;omega
    have hs:=Ig z.cls n hlt;rw [<- ho] at hs;unfold qE at hs;rw [<- hx] at hs;have hx0:0<=x:=(by omega);clear hx ho;generalize hc:z.cls[i]=c at *;obtain ⟨g1,d1⟩:∃ b,decide (0<=c.attrs)=b:=⟨_,rfl⟩;obtain ⟨g2,d2⟩:∃ b,decide (c.attrs<2147483648)=b:=⟨_,rfl⟩;obtain ⟨g3,d3⟩:∃ b,decide (0<c.attrs)=b:=⟨_,rfl⟩;obtain ⟨g4,d4⟩:∃ b,decide (0<=c.const)=b:=⟨_,rfl⟩;obtain ⟨g5,d5⟩:∃ b,(c.const == -1)=b:=⟨_,rfl⟩;obtain ⟨g6,d6⟩:∃ b,(c.const == x)=b:=⟨_,rfl⟩;have d7:(c.const != -1) = !g5:=by rw [<- d5];rfl
    have ew:IntKind.i64.wrap (x+1)=x+1:=aB (by omega) (by omega);rw [d1,d2,d3,d4,d5,d6] at hs
    have hnx2:(fE (z.cls.take (i+1)):Int)=if g5=true then x else x+1:=by
      rw [hnx,<- d5];by_cases h:c.const = -1<;>simp [h]
    clear hnx;cases o<;>cases g5
    . (repeat' (first|refine gq ?_|simp only [ab,hlt,hc,d7,Xa,XP,ew]|decide|refine sp ?_ ?_<;>intro _))
      all_goals exact rI (wE ew) ⟨i+1,false,x+1,by omega,by rw [hs];rfl,by rw [hnx2];rfl,rfl⟩
    . (repeat' (first|refine gq ?_|simp only [ab,hlt,hc,d7,Xa,XP,ew]|decide|refine sp ?_ ?_<;>intro _))
      all_goals exact rI (wE ew) ⟨i+1,false,x,by omega,by rw [hs];rfl,by rw [hnx2];rfl,rfl⟩
    . cases g1<;>cases g2<;>cases g3<;>cases g4<;>cases g6 <;>
      ((repeat' (first|refine gq ?_|simp only [ab,hlt,hc,d1,d2,d3,d4,d5,d6,d7,Xa,XP,ew]|decide|refine sp ?_ ?_<;>intro _))
       all_goals first|exact rI (wE ew) ⟨i+1,true,x+1,by omega,by rw [hs];rfl,by rw [hnx2];rfl,rfl⟩|exact rI (wE ew) ⟨i+1,false,x+1,by omega,by rw [hs];rfl,by rw [hnx2];rfl,rfl⟩)
    . cases g1<;>cases g2<;>cases g3<;>cases g4 <;>
      ((repeat' (first|refine gq ?_|simp only [ab,hlt,hc,d1,d2,d3,d4,d5,d7,Xa,XP,ew]|decide|refine sp ?_ ?_<;>intro _))
       all_goals first|exact rI (wE ew) ⟨i+1,true,x,by omega,by rw [hs];rfl,by rw [hnx2];rfl,rfl⟩|exact rI (wE ew) ⟨i+1,false,x,by omega,by rw [hs];rfl,by rw [hnx2];rfl,rfl⟩)
  . obtain rfl:i=z.cls.length:=by omega
    rw [Vq] at hx;have e1:decide ((fE z.cls:Int)=m)=(x == m):=by rw [hx];by_cases h:(fE z.cls:Int)=m<;>simp [h]
    rw [e1,<- ho]
    cases o with
    | false=>
      repeat' first|refine gf @hlt ?_|decide|refine sp ?_ ?_<;>intro _
      all_goals simp
    | true=>
      repeat' first|refine gf @hlt ?_|decide|refine sp ?_ ?_<;>intro _
      all_goals simp
end
section
theorem i5 {x:fU} (h:0<=x.attrs /\ x.attrs<2147483648) {a:Nat} (ha:a<31):bq x.attrs (a:Int)=(aN x).testBit a:=by
 rw [cW _ _ ha]
 congr 1
 unfold lx aN;omega
theorem JD {l:List fU} {a:Int} {i j:Nat} (hij:i<j) (hj:j<l.length) (h1:bq (l[i]'(by omega)).attrs a=true) (h2:bq l[j].attrs a=true):2<=cH l a:=by
 have e:cH l a=cH (l.take j) a+cH (l.drop j) a:=by
  unfold cH;rw [<- List.countP_append,WY]
 have p1:0<cH (l.take j) a:=Xx.2 ⟨l[i],List.mem_take_iff_getElem.2 ⟨i,by omega,rfl⟩,h1⟩;have p2:0<cH (l.drop j) a:=Xx.2 ⟨l[j],by rw [WG hj];exact Wc ..,h2⟩;omega
theorem qH {a:Int}:∀ l:List fU,(∀ i j (hi:i<l.length) (hj:j<l.length),bq l[i].attrs a=true -> bq l[j].attrs a=true -> i=j) -> cH l a<=1
 | [],_=>by simp [cH]
 | x :: l,h=>by
  have ih:=qH l fun i j hi hj h1 h2=>by
   have:=h (i+1) (j+1) (by simpa using hi) (by simpa using hj) (by simpa using h1) (by simpa using h2);omega
  by_cases hx:bq x.attrs a=true
  .have hz:cH l a=0:=List.countP_eq_zero.2 fun y hy hb=>by
    obtain ⟨j,hj,rfl⟩:=VD hy;have:=h 0 (j+1) (by simp) (by simpa using hj) (by simpa using hx) (by simpa using hb);omega
   unfold cH at *;rw [List.countP_cons,hz,Vo hx];exact Vh _
  .unfold cH at *;rw [List.countP_cons,Vj hx];exact ih
theorem Ei (l:List fU) (n:Int) (k:Nat):Py l n k=true ↔ ∀ a:Nat,a<k -> (cH l (a:Int):Int)=if (a:Int)<n then 1 else 0:=by
 unfold Py;rw [W6];simp only [WM,VJ]
theorem nu (l:List fU) (x:fU):qE l x=true ↔ (0<=x.attrs /\ x.attrs<2147483648) /\ (0<x.attrs \/ 0<=x.const) /\ (x.const = -1 \/ x.const=(fE l:Int)):=by
 unfold qE;simp only [VB,Xl,VJ,Wu];constructor
 .rintro ⟨⟨⟨h1,h2⟩,h3⟩,h4⟩;exact ⟨⟨h1,h2⟩,h3,h4⟩
 .rintro ⟨⟨h1,h2⟩,h3,h4⟩;exact ⟨⟨⟨h1,h2⟩,h3⟩,h4⟩
theorem D0 (l:List fU) (n:Int):Mq l n l.length=true ↔ Py l n 31=true /\ ∀ i (h:i<l.length),qE (l.take i) l[i]=true:=by
 unfold Mq;rw [VB,W6];constructor
 .rintro ⟨h1,h2⟩;refine ⟨h1,fun i h=>?_⟩;have:=h2 i (WM.2 h)
  rwa [Vm,p0 h] at this
 .rintro ⟨h1,h2⟩;refine ⟨h1,fun i h=>?_⟩;have:=h2 i (WM.1 h)
  rwa [Vm,p0 (WM.1 h)]
theorem sZ (l:List fU) (n:Nat) (m:Int) (hn:n<=31) (hat:∀ x ∈ l,x.attrs<9223372036854775808):(Mq l (n:Int) l.length && decide ((fE l:Int)=m))=true ↔ rM l (n:Int) m:=by
 rw [VB,VJ,D0,Ei];constructor
 .rintro ⟨⟨hA,hC⟩,hm⟩;have hc:=fun i h=>(nu _ _).1 (hC i h)
  have hnn:∀ x ∈ l,0<=x.attrs /\ x.attrs<2147483648:=fun x hx=>by
   obtain ⟨i,hi,rfl⟩:=VD hx;exact (hc i hi).1
  have hb31:∀ x ∈ l,∀ q,(aN x).testBit q=true -> q<31:=fun x hx q hq=>by
   rcases Vw q 31 with h|h
   .exact h
   .have h2:aN x<2 ^ q:=Vn (show aN x<2 ^ 31 by have:=hnn x hx;unfold aN;omega) (VU (by omega) h);rw [WF h2] at hq;cases hq
  have hdis:∀ i j (hi:i<l.length) (hj:j<l.length) (q:Nat),i<j -> (aN l[i]).testBit q=true -> (aN l[j]).testBit q=true -> False:=fun i j hi hj q hij h1 h2=>by
   have hq:=hb31 _ (Vg hi) q h1;rw [<- i5 (hnn _ (Vg hi)) hq] at h1;rw [<- i5 (hnn _ (Vg hj)) hq] at h2;have:=JD hij hj h1 h2;have h5:=hA q hq;split at h5<;>omega
  refine ⟨fun i h=>⟨(hc i h).1.1,?_,?_,(hc i h).2.2⟩,?_,hm⟩
  .obtain ⟨B,hB,hBlt,hBb⟩:=oj (l.take i) fun x hx=>by have:=hnn x (VR hx);omega
   have h0:=(hc i h).1;have e1:l[i].attrs=((aN l[i]:Nat):Int):=by unfold aN;omega
   rw [hB,e1,I6 _ _ (by unfold aN;omega) hBlt]
   have:aN l[i] &&& B=0:=Xs fun q=>by
    rw [Nat.zero_testBit,Nat.testBit_and]
    cases h1:(aN l[i]).testBit q with
    | false=>rfl
    | true=>
     cases h2:B.testBit q with
     | false=>rfl
     | true=>
      obtain ⟨x,hx,hb⟩:=(hBb q).1 h2;obtain ⟨j,hj,rfl⟩:=List.mem_take_iff_getElem.1 hx;exact (hdis j i (by omega) h q (by omega) hb h1).elim
   rw [this];rfl
  .rintro ⟨h1,h2⟩;have:=(hc i h).2.1;omega
  .obtain ⟨A,hA1,hA2,hA3⟩:=oj l fun x hx=>by have:=hnn x hx;omega
   have e:(max 0 (min (n:Int) 31)).toNat=n:=(by omega);have h3:1<=2 ^ n:=XH;have h4:((2 ^ n - 1:Nat):Int)=(2:Int) ^ n - 1:=by rw [Int.natCast_sub h3];simp
   rw [hA1];unfold j5;rw [e,<- h4]
   congr 1
   refine Xs fun q=>?_;rw [WS];rw [Ws,hA3,VJ];constructor
   .rintro ⟨x,hx,hb⟩;have hq:=hb31 x hx q hb;rw [<- i5 (hnn x hx) hq] at hb;have h5:=hA q hq;have h6:0<cH l (q:Int):=Xx.2 ⟨x,hx,hb⟩;split at h5<;>omega
   .intro hq;have h5:=hA q (by omega);rw [Vo (by omega)] at h5;obtain ⟨x,hx,hb⟩:=Xx.1 (show 0<cH l (q:Int) by omega);rw [i5 (hnn x hx) (by omega)] at hb;exact ⟨x,hx,hb⟩
 .intro h;have hB:=Uf hn h hat
  refine ⟨⟨fun a ha=>?_,fun i hi=>(nu _ _).2 ⟨hB.nn _ (Vg hi),?_,(h.1 i hi).2.2.2⟩⟩,h.2.2⟩
  .have hle:=qH (a:=(a:Int)) l fun i j hi hj h1 h2=>by
    rw [i5 (hB.nn _ (Vg hi)) ha] at h1;rw [i5 (hB.nn _ (Vg hj)) ha] at h2;exact hB.dis i j hi hj a h1 h2
   split
   .obtain ⟨i,hi,hb⟩:=hB.all a (by omega);rw [<- i5 (hB.nn _ (Vg hi)) ha] at hb;have h6:0<cH l (a:Int):=Xx.2 ⟨_,Vg hi,hb⟩;omega
   .have:cH l (a:Int)=0:=List.countP_eq_zero.2 fun x hx hb=>by
     rw [i5 (hB.nn x hx) ha] at hb;have:=hB.lt x hx a hb;omega
    omega
  .have h1:=(h.1 i hi).2.2;have h2:=(h.1 i hi).1;rcases h1.2 with h3|h3
   .have:¬ l[i].attrs=0:=fun h4=>h1.1 ⟨h4,h3⟩;omega
   .omega
end
section
theorem PI (z:Zn) (p q:Nat) (cap a b:Int) (hpq:p<q) (hq:q<=z.gaps.length) (h2:z.gaps.length<=40) (hg:∀ i (h:i<z.gaps.length),0<=z.gaps[i] /\ z.gaps[i]<=cap) (hcap:0<=cap /\ cap<=1048576) (ha:aF a) (hb:aF b) :
  dQ Tryz.prog 147 [.agg (cw z),eI (p:Int),eI (q:Int),eI cap,eI a,eI b] fun R=>∃ t,R=val (.bool t) /\ (t=true ↔ o0 z p q cap a b):=by
 refine bj ag Tryz.func147 rfl (by decide) Tryz.ntmps147 Tryz.results147 rfl ?_;unfold o0
 have hsb:∀ k,p<=k -> k<=q -> 0<=(dz z p k).sum /\ (dz z p k).sum<=42000000:=fun k h1 h2k=>by
  have h:=IK cap hcap.1 (dz z p k) fun g hgm=>by
   obtain ⟨i,hi,rfl⟩:=VD (VR (Wo hgm));exact hg i hi
  have h5:((dz z p k).length:Int)<=40:=by unfold dz;rw [Wa,Vr];omega
  have h6:cap * ((dz z p k).length:Int)<=1048576 * 40:=Int.mul_le_mul hcap.2 h5 (by omega) (by omega);omega
 have e1:IntKind.i64.wrap ((q:Int) - (p:Int))=(q:Int) - p:=aB (by omega) (by omega);obtain ⟨B,hB⟩:∃ B,(q:Int) - p - 1=B:=⟨_,rfl⟩;have e2:IntKind.i64.wrap ((q:Int) - (p:Int) - 1)=B:=by rw [hB];exact aB (by omega) (by omega)
 rw [hB];have hB1:0<=B /\ B<=40:=by omega
 repeat' first|refine ge (kf e1 e2) ?_|decide|refine sp ?_ ?_<;>intro _
 refine ae (fun st=>∃ (k:Nat) (s:Int) (w:Bool),p<=k /\ k<=q /\ s=B+(dz z p k).sum /\ (w=true ↔ ∃ g ∈ dz z p k,g=cap) /\ st=⟨60,[(2,eI (q:Int)),(3,eI cap),(4,eI a),(5,eI b),(6,.op 0 0 0),(13,eI s),(14,.c (.bool w)),(15,eI (k:Int))],[(0,some (.box 91 (cw z)))],1⟩) (fun st=>q - ap st 15) ⟨_,(wE (kf e1 e2)),p,B,false,Vh _,by omega,by rw [qQ];simp,by rw [qQ];simp,rfl⟩ ?_;rintro _ ⟨k,s,w,hpk,hk,hs,hw,rfl⟩;by_cases hlt:k<q
 .have hkg:k<z.gaps.length:=by omega
  have htk:dz z p (k+1)=dz z p k ++ [z.gaps[k]]:=AJ z (p0 hkg) hpk;have h5:=hsb k hpk (by omega);have h6:=hsb (k+1) (by omega) (by omega);rw [htk,List.sum_append,List.sum_singleton] at h6;have d0:decide ((k:Int)<(q:Int))=true:=Vy (by omega);have es:IntKind.i64.wrap (s+z.gaps[k])=s+z.gaps[k]:=aB (by omega) (by omega);have hs2:s+z.gaps[k]=B+(dz z p (k+1)).sum:=by rw [htk,List.sum_append,List.sum_singleton];omega
  have hw2:(w || z.gaps[k] == cap)=true ↔ ∃ g ∈ dz z p (k+1),g=cap:=by
   rw [htk,Xl,hw];simp only [Vs,VH,Wu];constructor
   .rintro (⟨g,h1,h2⟩ | h)
    .exact ⟨g,.inl h1,h2⟩
    .exact ⟨_,.inr rfl,h⟩
   .rintro ⟨g,h1 | rfl,h2⟩
    .exact .inl ⟨g,h1,h2⟩
    .exact .inr h2
  clear hw hs hsb htk hg;generalize hgk:z.gaps[k]=g at *
  cases w with
  | true=>
   repeat' first|refine gq ?_|simp only [ab,hkg,hgk,hlt,es]|decide|refine sp ?_ ?_<;>intro _
   all_goals exact rI (wE es) ⟨k+1,s+g,true,by omega,by omega,hs2,by simpa using hw2,rfl⟩
  | false=>
   by_cases hgc:g=cap
   .have d1:(g == cap)=true:=by simpa using hgc
    repeat' first|refine gq ?_|simp only [ab,hkg,hgk,hlt,es,d1]|decide|refine sp ?_ ?_<;>intro _
    all_goals exact rI (wE (kf es d1)) ⟨k+1,s+g,true,by omega,by omega,hs2,by rw [<- hw2,d1];rfl,rfl⟩
   .have d1:(g == cap)=false:=by simpa using hgc
    repeat' first|refine gq ?_|simp only [ab,hkg,hgk,hlt,es,d1]|decide|refine sp ?_ ?_<;>intro _
    all_goals exact rI (wE (kf es d1)) ⟨k+1,s+g,false,by omega,by omega,hs2,by rw [<- hw2,d1];rfl,rfl⟩
 .obtain rfl:k=q:=by omega
  have d0:decide ((k:Int)<(k:Int))=false:=by simp
  have h5:=hsb k hpk (Vh _);have es:IntKind.i64.wrap (s+1)=s+1:=aB (by omega) (by omega);have hG:=Pw a b (s+1) ha hb (by omega);rw [<- hs];by_cases g1:pb a b (s+1)=s
  .have d1:(pb a b (s+1) == s)=true:=by simpa using g1
   repeat' first|refine gf (kf @hlt (kf es d1)) ?_|decide|refine sp ?_ ?_<;>intro _|refine cA hG ?_|fail
   all_goals exact cI ⟨true,rfl,by simp [g1]⟩
  .have d1:(pb a b (s+1) == s)=false:=by simpa using g1
   cases w with
   | true=>
    repeat' first|refine gf (kf @hlt (kf es d1)) ?_|decide|refine sp ?_ ?_<;>intro _|refine cA hG ?_|fail
    all_goals exact cI ⟨_,rfl,by simp at hw;simp [g1,hw]⟩
   | false=>
    repeat' first|refine gf (kf @hlt (kf es d1)) ?_|decide|refine sp ?_ ?_<;>intro _|refine cA hG ?_|fail
    all_goals exact cI ⟨_,rfl,by simp at hw;simp [g1,hw]⟩
theorem Fw (z:Zn) (n:Int) (c:List Int) (r:Int) (h1:z.cls.length<=40) (h2:z.gaps.length<=40) (h3:c.length<=100000) (hc:∀ x ∈ c,aF x) (hr:cV r<=1048576) (hat:∀ x ∈ z.cls,aF x.attrs):dQ Tryz.prog 115 [.agg (cw z),eI n,sI c,eI r] fun R=>∃ b,R=val (.bool b) /\ (b=true ↔ CR z n c r):=by
 refine bj ag Tryz.func115 rfl (by decide) Tryz.ntmps115 Tryz.results115 rfl ?_;have hS:=f9 c (by omega);have hCap:=vu r;have hcap0:=Qw r;have hsl:=fB c;have hso:∀ x ∈ bX c,aF x:=fun x hx=>hc x (((iD c).2 x).1 hx);unfold CR;generalize bX c=sc at *;generalize cV r=cap at *;by_cases g1:0<=n
 .have d1:decide (n<0)=false:=by simpa using g1
  by_cases g2:n<=31
  .have d2:decide (31<n)=false:=(by simpa using g2);obtain ⟨m,rfl⟩:∃ m:Nat,n=(m:Int):=⟨n.toNat,by omega⟩;have hC:=EO z (m:Int) (sc.length:Int) (by omega) hat
   have hfd:=sZ z.cls m (sc.length:Int) (by omega) fun x hx=>by have:=hat x hx;unfold aF at this;omega
   generalize (Mq z.cls (m:Int) z.cls.length && decide ((fE z.cls:Int)=(sc.length:Int)))=t1 at *;rw [<- hfd]
   cases t1 with
   | false=>
    repeat' first|refine gf (kf d1 d2) ?_|decide|refine sp ?_ ?_<;>intro _|refine cA hS ?_|refine cA hC ?_|fail
    all_goals exact cI ⟨false,rfl,by simp⟩
   | true=>
    have hF:=hfd.1 rfl;have e1:IntKind.i64.wrap ((z.cls.length:Int) - 1)=(z.cls.length:Int) - 1:=aB (by omega) (by omega);by_cases g3:(z.gaps.length:Int)=max ((z.cls.length:Int) - 1) 0
    .have d3:((z.gaps.length:Int) != max ((z.cls.length:Int) - 1) 0)=false:=by simp [g3]
     repeat' first|refine gf (kf d1 (kf d2 (kf d3 e1))) ?_|decide|refine sp ?_ ?_<;>intro _|refine cA hS ?_|refine cA hC ?_|fail
     refine ae (fun st=>∃ i:Nat,i<=z.gaps.length /\ (∀ j (h:j<z.gaps.length),j<i -> 0<=z.gaps[j] /\ z.gaps[j]<=cap) /\ st=⟨100,[(3,eI r),(4,.op 0 0 0),(9,sI sc),(10,eI (-1)),(11,eI (i:Int))],[(0,some (.box 91 (cw z)))],1⟩) (fun st=>z.gaps.length - ap st 11) ⟨_,wC,0,Vd _,fun j _ h=>by omega,rfl⟩ ?_;rintro _ ⟨i,hi,hok,rfl⟩;by_cases hlt:i<z.gaps.length
     .have hno:¬ (0<=z.gaps[i] /\ z.gaps[i]<=cap) -> ¬ xp z cap:=fun h h2=>h (h2.2 i hlt)
      have hok2:(0<=z.gaps[i] /\ z.gaps[i]<=cap) -> ∀ j (h:j<z.gaps.length),j<i+1 -> 0<=z.gaps[j] /\ z.gaps[j]<=cap:=fun h j hj hji=>by
       rcases Vw j i with h2|h2
       .exact hok j hj h2
       .obtain rfl:j=i:=by omega
        exact h
      generalize hg:z.gaps[i]=g at *;by_cases g4:g<0
      .have d4:decide (g<0)=true:=by simpa using g4
       repeat' first|refine gq ?_|simp only [ab,hlt,hg,d4]|decide|refine sp ?_ ?_<;>intro _|refine cA hCap ?_|fail
       all_goals exact cI ⟨false,rfl,by simp;exact fun _ h=>(hno (by omega) h).elim⟩
      .have d4:decide (g<0)=false:=(by simpa using g4);by_cases g5:cap<g
       .have d5:decide (cap<g)=true:=by simpa using g5
        repeat' first|refine gq ?_|simp only [ab,hlt,hg,d4,d5]|decide|refine sp ?_ ?_<;>intro _|refine cA hCap ?_|fail
        all_goals exact cI ⟨false,rfl,by simp;exact fun _ h=>(hno (by omega) h).elim⟩
       .have d5:decide (cap<g)=false:=by simpa using g5
        repeat' first|refine gq ?_|simp only [ab,hlt,hg,d4,d5]|decide|refine sp ?_ ?_<;>intro _|refine cA hCap ?_|fail
        all_goals exact rI wC ⟨i+1,by omega,hok2 ⟨by omega,by omega⟩,rfl⟩
     obtain rfl:i=z.gaps.length:=by omega
     have hG:xp z cap:=⟨g3,fun j hj=>hok j hj hj⟩
     repeat' first|refine gf @hlt ?_|decide|refine sp ?_ ?_<;>intro _
     clear hok hi
     have hFl:(fC z).length=sc.length:=by
      have e1:=pw hF.1 z.cls.length (Vh _);rw [Vq] at e1;have e2:=hF.2.2;unfold fC;omega
     have hlt2:∀ i ∈ fC z,i<z.cls.length:=fun i hi=>Ma _ _ hi;have hgl:=hG.1
     have hRoom:∀ i,i+1<(fC z).length -> ∃ t:Bool,(t=true ↔ o0 z ((fC z).getD i 0) ((fC z).getD (i+1) 0) cap (sc.getD i 0) (sc.getD (i+1) 0)) /\ aw Tryz.prog 147 [.agg (cw z),eI (((fC z).getD i 0:Nat):Int),eI (((fC z).getD (i+1) 0:Nat):Int),eI cap,eI (sc.getD i 0),eI (sc.getD (i+1) 0)] (val (.bool t)):=fun i hi=>by
      have e1:(fC z).getD i 0=(fC z)[i]:=by rw [Vm,p0 (by omega)];rfl
      have e2:(fC z).getD (i+1) 0=(fC z)[i+1]:=by rw [Vm,p0 (by omega)];rfl
      have e3:sc.getD i 0=sc[i]:=by rw [Vm,p0 (by omega)];rfl
      have e4:sc.getD (i+1) 0=sc[i+1]:=by rw [Vm,p0 (by omega)];rfl
      have h5:=WH.1 (N8 z.cls z.cls.length) i (i+1) (by unfold fC at hi;omega) (by unfold fC at hi;omega) (by omega);have h6:=hlt2 _ (Vg hi);exact lU (PI z _ _ cap _ _ (by rw [e1,e2];exact h5) (by rw [e2];omega) h2 hG.2 ⟨hcap0,hr⟩ (by rw [e3];exact hso _ (Vg _)) (by rw [e4];exact hso _ (Vg _)))
     refine ae (fun st=>∃ (i m:Nat) (w:Int),i<=z.cls.length /\ m=(mZ z.cls i).length /\ ((m=0 /\ w = -1) \/ (0<m /\ w=(((fC z).getD (m - 1) 0:Nat):Int))) /\ (∀ j,j+1<m -> o0 z ((fC z).getD j 0) ((fC z).getD (j+1) 0) cap (sc.getD j 0) (sc.getD (j+1) 0)) /\ st=⟨100,[(3,eI r),(4,.op 0 0 0),(9,sI sc),(10,eI w),(12,eI (i:Int))],[(0,some (.box 91 (cw z)))],1⟩) (fun st=>z.cls.length - ap st 12) ⟨_,wC,0,0,-1,Vd _,rfl,.inl ⟨rfl,rfl⟩,fun j h=>by omega,rfl⟩ ?_;rintro _ ⟨i,m',w,hi,hm,hw,hok,rfl⟩;by_cases hlt:i<z.cls.length
     .have hsn:=mJ z.cls hlt;have hn1:=pw hF.1 i (by omega);have hfa:=PT hF.1 hlt;have hco:=(hF.1 i hlt).2.2.2;generalize hcc:z.cls[i]=c at *;by_cases g4:c.const = -1
      .have d4:decide (c.const<0)=true:=by rw [g4];rfl
       rw [Vj (by omega)] at hsn
       repeat' first|refine gq ?_|simp only [ab,hlt,hcc,d4]|decide|refine sp ?_ ?_<;>intro _
       all_goals exact rI wC ⟨i+1,m',w,by omega,by rw [hsn];exact hm,hw,hok,rfl⟩
      .have hco2:=hco.resolve_left g4;obtain ⟨j,hj1,hj2,hj3⟩:=hfa g4;obtain rfl:m'=j:=by omega
       have d4:decide (c.const<0)=false:=by rw [hj1];simp
       rw [Vo (by omega)] at hsn;have hm2:m'+1=(mZ z.cls (i+1)).length:=by rw [hsn,Vk,<- hm];rfl
       have hwi:((0=m'+1 /\ (i:Int) = -1) \/ (0<m'+1 /\ (i:Int)=(((fC z).getD (m'+1 - 1) 0:Nat):Int))):=.inr ⟨by omega,by rw [WA,Vm,p0 hj2,VG,hj3]⟩;rcases hw with ⟨hm0,hw0⟩|⟨hm0,hw0⟩
       .subst hw0
        repeat' first|refine gq ?_|simp only [ab,hlt,hcc,d4,Int.reduceLE,Int.reduceLT,Int.reduceNeg]|decide|refine sp ?_ ?_<;>intro _|refine cA hCap ?_|fail
        all_goals exact rI wC ⟨i+1,m'+1,i,by omega,hm2,by omega,fun j h=>by omega,rfl⟩
       .obtain ⟨k,rfl⟩:∃ k,m'=k+1:=⟨m' - 1,by omega⟩;obtain ⟨t,ht,hR⟩:=hRoom k hj2;have hi2:(fC z).getD (k+1) 0=i:=(by rw [Vm,p0 hj2,VG,hj3]);have hs0:k<sc.length:=(by omega);have hs1:k+1<sc.length:=(by omega);have e3:sc.getD k 0=sc[k]:=by rw [Vm,p0 hs0];rfl
        have e4:sc.getD (k+1) 0=sc[k+1]:=by rw [Vm,p0 hs1];rfl
        rw [WA] at hw0
        have hok2:o0 z ((fC z).getD k 0) ((fC z).getD (k+1) 0) cap (sc.getD k 0) (sc.getD (k+1) 0) -> ∀ i,i+1<k+1+1 -> o0 z ((fC z).getD i 0) ((fC z).getD (i+1) 0) cap (sc.getD i 0) (sc.getD (i+1) 0):=fun h i h1=>by
         rcases Vw i k with h3|h3
         .exact hok i (by omega)
         .obtain rfl:i=k:=by omega
          exact h
        have hno:¬ o0 z ((fC z).getD k 0) ((fC z).getD (k+1) 0) cap (sc.getD k 0) (sc.getD (k+1) 0) -> ¬ ∀ i,i+1<(fC z).length -> o0 z ((fC z).getD i 0) ((fC z).getD (i+1) 0) cap (sc.getD i 0) (sc.getD (i+1) 0):=fun h h2=>h (h2 k hj2);rw [<- ht] at hok2 hno;rw [<- hw0,hi2,e3,e4] at hR;have f1:sc[k]? = some sc[k]:=p0 hs0;have f2:sc[k+1]? = some sc[k+1]:=p0 hs1;have hw1:0<=w:=(by omega);have d5:decide (0<=w)=true:=Vy hw1;have d4b:decide (((k+1:Nat):Int)<0)=false:=by simp only [VA];omega
        have e5:IntKind.i64.wrap (((k+1:Nat):Int) - 1)=(k:Int):=by rw [aB (by omega) (by omega)];omega
        clear hRoom ht hok hco hfa e3 e4;obtain ⟨x3,hx3⟩:∃ x,sc[k]=x:=⟨_,rfl⟩;obtain ⟨x4,hx4⟩:∃ x,sc[k+1]=x:=⟨_,rfl⟩;rw [hx3,hx4] at hR
        cases t with
        | true=>
         repeat' first|refine gq ?_|simp only [ab,hlt,hcc,d4b,d5,hj1,hs0,hs1,hx3,hx4,e5]|decide|refine sp ?_ ?_<;>intro _|refine cA hCap ?_|refine cA hR ?_|fail
         all_goals exact rI wC ⟨i+1,k+1+1,i,by omega,hm2,by omega,hok2 rfl,rfl⟩
        | false=>
         repeat' first|refine gq ?_|simp only [ab,hlt,hcc,d4b,d5,hj1,hs0,hs1,hx3,hx4,e5]|decide|refine sp ?_ ?_<;>intro _|refine cA hCap ?_|refine cA hR ?_|fail
         all_goals exact cI ⟨false,rfl,⟨fun h=>(by cases h),fun h=>absurd h.2 (hno (by simp))⟩⟩
     .obtain rfl:i=z.cls.length:=by omega
      repeat' first|refine gf @hlt ?_|decide|refine sp ?_ ?_<;>intro _
      all_goals exact cI ⟨true,rfl,by simp;exact ⟨⟨by omega,hG⟩,fun i h=>hok i (by rw [hm];exact h)⟩⟩
    .have d3:((z.gaps.length:Int) != max ((z.cls.length:Int) - 1) 0)=true:=by simpa using g3
     repeat' first|refine gf (kf d1 (kf d2 (kf d3 e1))) ?_|decide|refine sp ?_ ?_<;>intro _|refine cA hS ?_|refine cA hC ?_|fail
     all_goals exact cI ⟨false,rfl,by simp;exact fun _ h=>(g3 h.1).elim⟩
  .have d2:decide (31<n)=true:=by simpa using g2
   repeat' first|refine gf (kf d1 d2) ?_|decide|refine sp ?_ ?_<;>intro _|refine cA hS ?_|fail
   all_goals exact cI ⟨false,rfl,by simp;omega⟩
 .have d1:decide (n<0)=true:=by simpa using g1
  repeat' first|refine gf d1 ?_|decide|refine sp ?_ ?_<;>intro _|refine cA hS ?_|fail
  all_goals exact cI ⟨false,rfl,by simp;omega⟩
end
section
end
section
theorem FL (l:List ah) (h:∀ x ∈ l,x.ok):∀ n ∈ cG l,aF n:=fun n hn=>by
 obtain ⟨x,hx,hm⟩:=V7.1 hn;have hxo:=h x hx;unfold kT at hm;split at hm
 .rcases Vs.1 hm with hm | hm
  .split at hm
   .simp at hm;rw [hm];exact hxo.2.2.1
   .cases hm
  .split at hm
   .simp at hm;rw [hm];exact hxo.2.2.2.2.1
   .cases hm
 .cases hm
end
section
def fk (l:List ah):List Int:=bX (cG l)
def i8 (m:bl) (p:List ah):List Int:=bX ((fk p ++ m.guards.flatMap fun g=>fk g.cond) ++ m.miles.flatMap fun g=>fk g.cond)
theorem j9 (l:List ah):(fk l).length<=2 * l.length:=by
 have h1:=fB (cG l);have h2:=lm l;unfold fk;omega
theorem qb {α:Type} (f:α -> List Int) (g:α -> Nat) (h:∀ x,(f x).length<=2 * g x):∀ l:List α,(l.flatMap f).length<=2 * (l.map g).sum
 | []=>by simp
 | x :: l=>by
  have h1:=h x;have h2:=qb f g h l;simp only [Wt,Vk,V1,XR];omega
theorem wF {α:Type} (f:α -> List Int) (l:List α) (k:Nat):((l.take k).flatMap f).length<=(l.flatMap f).length:=by
 conv=>rhs;rw [<- WY k l,Wx,Vk]
 omega
theorem zy {α:Type} (g:α -> Nat) {l:List α} {x:α} (h:x ∈ l):g x<=(l.map g).sum:=by
 induction l with
 | nil=>cases h
 | cons y l ih=>
  simp only [V1,XR]
  cases Wf.1 h with
  | inl e=>subst e;omega
  | inr e=>have:=ih e;omega
theorem t4 {α:Type} (f:α -> List Int) (l:List α) {k:Nat} (h:k<l.length):(l.take (k+1)).flatMap f=(l.take k).flatMap f ++ f l[k]:=by
 rw [Vi h,Wx];simp
theorem u7 (m:bl) (p:List ah) (hg:m.guards.length<=11000000) (hm:m.miles.length<=11000000) (hT:p.length+(m.guards.map fun g=>g.cond.length).sum+(m.miles.map fun g=>g.cond.length).sum<=1100000):aw Tryz.prog 6 [.agg (aQ m),aX p] ⟨sI (i8 m p),[],0⟩:=by
 have hok:(⟨sI (i8 m p),[],0⟩:cS).Ok:=⟨fun id o h=>(by cases h),by simp [AV.lt]⟩;refine aa ag Tryz.func6 rfl (by decide) Tryz.ntmps6 Tryz.results6 rfl (hok) ?_;have hgc:∀ g ∈ m.guards,g.cond.length<=1100000:=fun g hg=>by have:=zy (fun g:Gd=>g.cond.length) hg;omega
 have hmc:∀ g ∈ m.miles,g.cond.length<=1100000:=fun g hg=>by have:=zy (fun g:Ml=>g.cond.length) hg;omega
 have hN:aw Tryz.prog 15 [aX p] ⟨sI (fk p),[],0⟩:=lQ p (by omega);have hpl:=j9 p;obtain ⟨f,hf⟩:∃ f,f=fun g:Gd=>fk g.cond:=⟨_,rfl⟩;obtain ⟨g2,hg2⟩:∃ f,f=fun g:Ml=>fk g.cond:=⟨_,rfl⟩
 have hfl:∀ k,((m.guards.take k).flatMap f).length<=2 * (m.guards.map fun g=>g.cond.length).sum:=fun k=>by
  rw [hf];exact VC (wF _ _ k) (qb (fun g:Gd=>fk g.cond) (fun g=>g.cond.length) (fun x=>j9 x.cond) m.guards)
 have hgl:∀ k,((m.miles.take k).flatMap g2).length<=2 * (m.miles.map fun g=>g.cond.length).sum:=fun k=>by
  rw [hg2];exact VC (wF _ _ k) (qb (fun g:Ml=>fk g.cond) (fun g=>g.cond.length) (fun x=>j9 x.cond) m.miles)
 have hC:i8 m p=bX ((fk p ++ m.guards.flatMap f) ++ m.miles.flatMap g2):=by rw [hf,hg2];rfl
 rw [hC]
 have hlt1:(fk p ++ m.guards.flatMap f).length<=2200000:=by
  have:=hfl m.guards.length;rw [Vq] at this;rw [Vk];omega
 have hlt2:((fk p ++ m.guards.flatMap f) ++ m.miles.flatMap g2).length<=4400000:=by
  have:=hgl m.miles.length;rw [Vq] at this;rw [Vk];omega
 have hS:=f9 ((fk p ++ m.guards.flatMap f) ++ m.miles.flatMap g2) (by omega)
 repeat' first|refine gq ?_|decide|refine sp ?_ ?_<;>intro _|refine cA hN ?_|(with_reducible apply And.intro)
 all_goals first
  | rfl
  | omega
  | skip
 refine ae (fun st=>∃ k:Nat,k<=m.guards.length /\ st=⟨46,[(2,.op 0 0 0),(5,.osl 1),(6,eI (k:Int))],[(0,some (.box 32 (aQ m))),(1,some (.row 2 1 ((fk p ++ (m.guards.take k).flatMap f).map fun n=>[eI n])))],2⟩) (fun st=>m.guards.length - ap st 6) ⟨_,(wS [0,2] (kf @Vu @Wl)),0,Vd _,rfl⟩ ?_;rintro _ ⟨k,hk,rfl⟩;by_cases hlt:k<m.guards.length
 .obtain ⟨x,hx⟩:∃ x,m.guards[k]=x:=⟨_,rfl⟩;have hxc:=hgc x (hx ▸ Vg hlt);have hNx:aw Tryz.prog 15 [aX x.cond] ⟨sI (fk x.cond),[],0⟩:=lQ x.cond (by omega)
  have hsn:(fk p ++ (m.guards.take (k+1)).flatMap f).map (fun n=>[eI n])=(fk p ++ (m.guards.take k).flatMap f).map (fun n=>[eI n]) ++ (fk x.cond).map (fun n=>[eI n]):=by
   rw [t4 f _ hlt,hx,<- VZ,VI,hf]
  have hl1:(fk p ++ (m.guards.take k).flatMap f).length<=2200000:=by have:=hfl k;rw [Vk];omega
  have hl2:=j9 x.cond
  repeat' first|refine gq ?_|simp only [ab,hlt,hx]|decide|refine sp ?_ ?_<;>intro _|refine cA hNx ?_|(with_reducible apply And.intro)
  all_goals first
   | rfl
   | omega
   | exact rI (wS [0,2] @hsn) ⟨k+1,by omega,rfl⟩
 .obtain rfl:k=m.guards.length:=by omega
  rw [Vq];obtain ⟨O,hO⟩:∃ O,fk p ++ m.guards.flatMap f=O:=⟨_,rfl⟩;rw [hO] at hlt1 hlt2 hS ⊢
  repeat' first|refine gf @hlt ?_|decide|refine sp ?_ ?_<;>intro _
  refine ae (fun st=>∃ k:Nat,k<=m.miles.length /\ st=⟨46,[(2,.op 0 0 0),(5,.osl 1),(7,eI (k:Int))],[(0,some (.box 32 (aQ m))),(1,some (.row 2 1 ((O ++ (m.miles.take k).flatMap g2).map fun n=>[eI n])))],2⟩) (fun st=>m.miles.length - ap st 7) ⟨_,(wE (kf @Vu @Wl)),0,Vd _,rfl⟩ ?_;rintro _ ⟨k,hk2,rfl⟩;by_cases hlt3:k<m.miles.length
  .obtain ⟨x,hx⟩:∃ x,m.miles[k]=x:=⟨_,rfl⟩;have hxc:=hmc x (hx ▸ Vg hlt3);have hNx:aw Tryz.prog 15 [aX x.cond] ⟨sI (fk x.cond),[],0⟩:=lQ x.cond (by omega)
   have hsn:(O ++ (m.miles.take (k+1)).flatMap g2).map (fun n=>[eI n])=(O ++ (m.miles.take k).flatMap g2).map (fun n=>[eI n]) ++ (fk x.cond).map (fun n=>[eI n]):=by
    rw [t4 g2 _ hlt3,hx,<- VZ,VI,hg2]
   have hl1:(O ++ (m.miles.take k).flatMap g2).length<=4400000:=by have:=hgl k;rw [Vk];omega
   have hl2:=j9 x.cond
   repeat' first|refine gq ?_|simp only [ab,hlt3,hx]|decide|refine sp ?_ ?_<;>intro _|refine cA hNx ?_|(with_reducible apply And.intro)
   all_goals first
    | rfl
    | omega
    | exact rI (wS [0,2] @hsn) ⟨k+1,by omega,rfl⟩
  .obtain rfl:k=m.miles.length:=by omega
   rw [Vq]
   repeat' first|refine ge @hlt3 ?_|decide|refine sp ?_ ?_<;>intro _
   refine qY [1] (R:=⟨sI (bX (O ++ m.miles.flatMap g2)),[],0⟩) ?_ ?_ ?_
   .repeat' first|decide|refine go ?_
    exact hS
   .repeat' first|decide|refine go ?_
    left;simp [fc,fH,aR,aY]
   .repeat' first|refine gq ?_|decide|refine sp ?_ ?_<;>intro _
    all_goals exact aV (by first|rfl|simp [AV.ren,AV.renL])
theorem J7 (m:bl) (p:List ah) (hp:p.length<=400) (hg:m.guards.length<=14) (hm:m.miles.length<=10) (hgc:∀ g ∈ m.guards,g.cond.length<=80) (hmc:∀ g ∈ m.miles,g.cond.length<=80):aw Tryz.prog 6 [.agg (aQ m),aX p] ⟨sI (i8 m p),[],0⟩:=by
 have h:∀ (α:Type) (f:α -> Nat) (l:List α),(∀ x ∈ l,f x<=80) -> (l.map f).sum<=80 * l.length:=fun α f l=>by
  induction l with
  | nil=>simp
  | cons x l ih=>
   intro h;have:=h x (Wc ..);have:=ih fun y hy=>h y (V0 _ hy);simp only [V1,XR,VN];omega
 have:=h _ (fun g:Gd=>g.cond.length) m.guards hgc;have:=h _ (fun g:Ml=>g.cond.length) m.miles hmc;exact u7 m p (by omega) (by omega) (by omega)
end
end
section
section
def xI (c:List Int) (i:Nat):Int:=if i<c.length /\ 0<c.getD i 0 then c.getD i 0 else 0
def Mn (m:bl) (c:List Int) (k:Nat):Int:=(max 0 ((m.events[k]?.map (·.times)).getD 0 - xI c k)).toNat * (((m.events[k]?.map (·.sets.length)).getD 0:Nat):Int)
def ft (m:bl) (c:List Int):Nat -> Int
 | 0=>0
 | k+1=>ft m c k+Mn m c k
theorem yG (c:List Int) (i:Nat):0<=xI c i:=by
 unfold xI;split<;>omega
theorem GG (m:bl) (c:List Int) (he:m.events.length<=10) (hm:∀ e ∈ m.events,e.times<=1000 /\ e.sets.length<=10) (hc:c.length<=1000000):aw Tryz.prog 74 [.agg (aQ m),sI c] (val (.int .i64 (ft m c m.events.length))):=by
 refine aa ag Tryz.func74 rfl (by decide) Tryz.ntmps74 Tryz.results74 rfl (aI _) ?_
 repeat' first|refine go ?_|decide|refine sp ?_ ?_<;>intro _
 refine ae (fun st=>∃ (k:Nat) (n:Int),k<=m.events.length /\ n=ft m c k /\ 0<=n /\ n<=10000 * k /\ st=⟨50,[(1,sI c),(2,.op 0 0 0),(5,eI n),(6,eI (k:Int))],[(0,some (.box 32 (aQ m)))],1⟩) (fun st=>m.events.length - ap st 6) ⟨_,wC,0,0,Vd _,rfl,by omega,by omega,rfl⟩ ?_;rintro _ ⟨k,n,hk,hn,hn0,hn1,rfl⟩;by_cases hlt:k<m.events.length
 .obtain ⟨e,hev⟩:∃ e,m.events[k]=e:=⟨_,rfl⟩;obtain ⟨ht,hs⟩:=hm e (hev ▸ Vg hlt);have hw0:=yG c k
  have hE:Mn m c k=(max 0 (e.times - xI c k)).toNat * (e.sets.length:Int):=by
   unfold Mn;rw [p0 hlt,hev];rfl
  obtain ⟨w,hw⟩:∃ w,xI c k=w:=⟨_,rfl⟩;rw [hw] at hE hw0;obtain ⟨J,hJ⟩:∃ J,(max 0 (e.times - w)).toNat=J:=⟨_,rfl⟩;rw [hJ] at hE;have hJ10:J<=100000:=by omega
  obtain ⟨S,hS⟩:∃ S,e.sets.length=S:=⟨_,rfl⟩;rw [hS] at hE hs;by_cases hkc:k<c.length
  .by_cases hpos:0<c[k]
   .have hwc:c[k]=w:=by
     rw [<- hw,xI,Vo ⟨hkc,by rw [Vm,p0 hkc];exact hpos⟩,Vm,p0 hkc];rfl
    have d1:decide (0<w)=true:=by rw [<- hwc];simpa using hpos
    repeat' first|refine gq ?_|simp only [ab,hlt,hkc,hwc,d1]|decide|refine sp ?_ ?_<;>intro _
    refine ae (fun st=>∃ (j:Nat) (was q:Int),j<=J /\ was=w+j /\ q=n+((j * S:Nat):Int) /\ st=⟨50,[(1,sI c),(2,.op 0 0 0),(5,eI q),(6,eI (k:Int)),(7,eI was)],[(0,some (.box 32 (aQ m)))],1⟩) (fun st=>1000 - ap st 7) ⟨_,wC,0,w,n,Vd _,by omega,by simp,rfl⟩ ?_;rintro _ ⟨j,was,q,hj,hwas,hq,rfl⟩;have hjs:j * S<=1000 * 10:=Xj (by omega) (by omega);by_cases hlw:was<e.times
    .have d2:decide (was<e.times)=true:=(by simpa using hlw);have ew1:IntKind.i64.wrap (q+(S:Int))=q+(S:Int):=aB (by omega) (by omega);have ew2:IntKind.i64.wrap (was+1)=was+1:=aB (by omega) (by omega);have hss:(j+1) * S=j * S+S:=Xh j S
     repeat' first|refine gq ?_|simp only [ab,hlt,hev,hS,d2,ew1,ew2]|decide|refine sp ?_ ?_<;>intro _
     exact rI wC ⟨j+1,was+1,q+(S:Int),by omega,by omega,by rw [hss];omega,rfl⟩
    .have d2:decide (was<e.times)=false:=(by simpa using hlw);obtain rfl:j=J:=by omega
     have hev2:Mn m c k=((j * S:Nat):Int):=by rw [hE];simp
     repeat' first|refine gq ?_|simp only [ab,hlt,hev,d2]|decide|refine sp ?_ ?_<;>intro _
     exact rI wC ⟨k+1,q,by omega,by rw [ft,hev2,<- hn,hq],by omega,by omega,rfl⟩
   .have d1:decide (0<c[k])=false:=(by simpa using hpos);obtain rfl:w=0:=by rw [<- hw,xI,Vj (by rw [Vm,p0 hkc];exact fun h=>hpos h.2)]
    repeat' first|refine gq ?_|simp only [ab,hlt,hkc,d1]|decide|refine sp ?_ ?_<;>intro _
    refine ae (fun st=>∃ (j:Nat) (was q:Int),j<=J /\ was=0+(j:Int) /\ q=n+((j * S:Nat):Int) /\ st=⟨50,[(1,sI c),(2,.op 0 0 0),(5,eI q),(6,eI (k:Int)),(7,eI was)],[(0,some (.box 32 (aQ m)))],1⟩) (fun st=>1000 - ap st 7) ⟨_,wC,0,0,n,Vd _,by omega,by simp,rfl⟩ ?_;rintro _ ⟨j,was,q,hj,hwas,hq,rfl⟩;have hjs:j * S<=1000 * 10:=Xj (by omega) (by omega);by_cases hlw:was<e.times
    .have d2:decide (was<e.times)=true:=(by simpa using hlw);have ew1:IntKind.i64.wrap (q+(S:Int))=q+(S:Int):=aB (by omega) (by omega);have ew2:IntKind.i64.wrap (was+1)=was+1:=aB (by omega) (by omega);have hss:(j+1) * S=j * S+S:=Xh j S
     repeat' first|refine gq ?_|simp only [ab,hlt,hev,hS,d2,ew1,ew2]|decide|refine sp ?_ ?_<;>intro _
     exact rI wC ⟨j+1,was+1,q+(S:Int),by omega,by omega,by rw [hss];omega,rfl⟩
    .have d2:decide (was<e.times)=false:=(by simpa using hlw);obtain rfl:j=J:=by omega
     have hev2:Mn m c k=((j * S:Nat):Int):=by rw [hE];simp
     repeat' first|refine gq ?_|simp only [ab,hlt,hev,d2]|decide|refine sp ?_ ?_<;>intro _
     exact rI wC ⟨k+1,q,by omega,by rw [ft,hev2,<- hn,hq],by omega,by omega,rfl⟩
  .obtain rfl:w=0:=by rw [<- hw,xI,Vj (fun h=>hkc h.1)]
   repeat' first|refine gq ?_|simp only [ab,hlt,hkc]|decide|refine sp ?_ ?_<;>intro _
   refine ae (fun st=>∃ (j:Nat) (was q:Int),j<=J /\ was=0+(j:Int) /\ q=n+((j * S:Nat):Int) /\ st=⟨50,[(1,sI c),(2,.op 0 0 0),(5,eI q),(6,eI (k:Int)),(7,eI was)],[(0,some (.box 32 (aQ m)))],1⟩) (fun st=>1000 - ap st 7) ⟨_,wC,0,0,n,Vd _,by omega,by simp,rfl⟩ ?_;rintro _ ⟨j,was,q,hj,hwas,hq,rfl⟩;have hjs:j * S<=1000 * 10:=Xj (by omega) (by omega);by_cases hlw:was<e.times
   .have d2:decide (was<e.times)=true:=(by simpa using hlw);have ew1:IntKind.i64.wrap (q+(S:Int))=q+(S:Int):=aB (by omega) (by omega);have ew2:IntKind.i64.wrap (was+1)=was+1:=aB (by omega) (by omega);have hss:(j+1) * S=j * S+S:=Xh j S
    repeat' first|refine gq ?_|simp only [ab,hlt,hev,hS,d2,ew1,ew2]|decide|refine sp ?_ ?_<;>intro _
    exact rI wC ⟨j+1,was+1,q+(S:Int),by omega,by omega,by rw [hss];omega,rfl⟩
   .have d2:decide (was<e.times)=false:=(by simpa using hlw);obtain rfl:j=J:=by omega
    have hev2:Mn m c k=((j * S:Nat):Int):=by rw [hE];simp
    repeat' first|refine gq ?_|simp only [ab,hlt,hev,d2]|decide|refine sp ?_ ?_<;>intro _
    exact rI wC ⟨k+1,q,by omega,by rw [ft,hev2,<- hn,hq],by omega,by omega,rfl⟩
 .obtain rfl:k=m.events.length:=by omega
  repeat' first|refine gf @hlt ?_|decide|refine sp ?_ ?_<;>intro _
  exact hn
end
section
theorem tr (m:bl) (c:List Int) (he:m.events.length<=10) (hm:∀ e ∈ m.events,e.times<=10 /\ e.sets.length<=10) (hc:c.length<=1000000):aw Tryz.prog 74 [.agg (aQ m),sI c] (val (.int .i64 (ft m c m.events.length))):=
 GG m c he (fun e h=>⟨by have:=(hm e h).1;omega,(hm e h).2⟩) hc
end
section
def qK (m:bl) (c:List Int) (s:St):Nd:=⟨oQ s.vals c (ft m s.cnt m.events.length),s.opn,s.don,s.did,s.cnt⟩
theorem LR (m:bl) (c:List Int) (s:St) (he:m.events.length<=10) (hm:∀ e ∈ m.events,e.times<=10 /\ e.sets.length<=10) (h1:s.vals.length<=31) (h2:c.length<=400) (hv:∀ x ∈ s.vals,aF x) (hc:∀ x ∈ c,aF x) (h3:s.did.length<=1000000) (h4:s.cnt.length<=1000000):aw Tryz.prog 70 [.agg (aQ m),sI c,.agg (gh s)] ⟨.agg (iQ (qK m c s)),[],0⟩:=by
 have hL:=tr m s.cnt he hm h4;have hO:=IA s.vals c (ft m s.cnt m.events.length) h1 h2 hv hc;unfold qK;obtain ⟨z,hz⟩:∃ z,oQ s.vals c (ft m s.cnt m.events.length)=z:=⟨_,rfl⟩;rw [hz] at hO ⊢;refine aw.still (R:=⟨.agg [.sl 2 (z.cls.map cO),sI z.gaps,eI s.opn,eI s.don,.osl 0,.osl 1],[(0,some (.row 3 1 (s.did.map fun n=>[eI n]))),(1,some (.row 3 1 (s.cnt.map fun n=>[eI n])))],2⟩) [0,1] ?_ (by simp [cS.frzs,cS.frz,af.gc,AV.frz,AV.frzL,b8,aD.frz]) (by simp [AV.lt,AV.ltL]);refine aa ag Tryz.func70 rfl (by decide) Tryz.ntmps70 Tryz.results70 rfl (ls (by simp [cX,aD.lt,AV.ltL,AV.lt]) (by simp [AV.lt,AV.ltL])) ?_
 repeat' first|refine go ?_|decide|refine sp ?_ ?_<;>intro _
 refine ay [2] [0,1,2,3,4,5,8,9,10,11,13,14,17,18] (.three 6 (.three 7 (.two 12 (.two 15 (.exec 16 (.exec 19 (.take 20 (.exec 21 .done)))) 16 (.exec 15 (.exec 19 (.take 20 (.exec 21 .done))))) 16 (.exec 12 (.exec 15 (.exec 19 (.take 20 (.exec 21 .done)))))) 12 (.two 7 (.two 15 (.exec 16 (.exec 19 (.take 20 (.exec 21 .done)))) 16 (.exec 15 (.exec 19 (.take 20 (.exec 21 .done))))) 16 (.exec 7 (.exec 15 (.exec 19 (.take 20 (.exec 21 .done)))))) 16 (.two 7 (.exec 12 (.exec 15 (.exec 19 (.take 20 (.exec 21 .done))))) 12 (.exec 7 (.exec 15 (.exec 19 (.take 20 (.exec 21 .done))))))) 12 (.two 6 (.two 7 (.two 15 (.exec 16 (.exec 19 (.take 20 (.exec 21 .done)))) 16 (.exec 15 (.exec 19 (.take 20 (.exec 21 .done))))) 16 (.exec 7 (.exec 15 (.exec 19 (.take 20 (.exec 21 .done)))))) 16 (.exec 6 (.exec 7 (.exec 15 (.exec 19 (.take 20 (.exec 21 .done))))))) 16 (.two 6 (.two 7 (.exec 12 (.exec 15 (.exec 19 (.take 20 (.exec 21 .done))))) 12 (.exec 7 (.exec 15 (.exec 19 (.take 20 (.exec 21 .done)))))) 12 (.exec 6 (.exec 7 (.exec 15 (.exec 19 (.take 20 (.exec 21 .done)))))))) (by kernel_rfl) (by simp [af.gc]) ?_
 repeat' first|refine gq ?_|decide|refine sp ?_ ?_<;>intro _|refine cA hL ?_|refine cA hO ?_|(with_reducible apply And.intro)
 all_goals first
  | omega
  | rfl
  | exact ⟨[4,6],by decide,rfl,by simp [cM,af.gc]⟩
  | exact ⟨[5,6],by decide,rfl,by simp [cM,af.gc]⟩
  | exact ⟨[6,5],by decide,rfl,by simp [cM,af.gc]⟩
  | exact ⟨[6,4],by decide,rfl,by simp [cM,af.gc]⟩
end
section
theorem zM (m:bl):(eT m).vals=m.inits /\ (eT m).did.length=m.events.length /\ (eT m).cnt.length=m.events.length:=by
 have h:=qg m (-1) (m.order.take m.order.length) (lc m);unfold eT l5;rw [h.1,h.2.1,h.2.2];simp [lc]
theorem yb (m:bl) (c:List Int) (hf:uX m) (hp:∀ p ∈ m.stages,aF p.2) (hi:∀ x ∈ m.inits,aF x) (hm:∀ e ∈ m.events,e.times<=10 /\ e.sets.length<=10) (h2:c.length<=400) (hc:∀ x ∈ c,aF x):aw Tryz.prog 33 [.agg (aQ m),sI c] ⟨.agg (iQ (qK m c (eT m))),[],0⟩:=by
 obtain ⟨-,-,-,hel,-,-,-,-,-,hil⟩:=id hf.sizes;obtain ⟨e1,e2,e3⟩:=zM m;have hB:=Gl m hf hp;have hO:=LR m c (eT m) hel hm (by rw [e1];omega) h2 (by rw [e1];exact hi) hc (by omega) (by omega);have hok:(⟨.agg (iQ (qK m c (eT m))),[],0⟩:cS).Ok:=⟨fun id o h=>(by cases h),by simp [AV.lt,AV.ltL]⟩;generalize qK m c (eT m)=nd at *;refine aa ag Tryz.func33 rfl (by decide) Tryz.ntmps33 Tryz.results33 rfl (hok) ?_
 repeat' first|refine go ?_|decide|refine sp ?_ ?_<;>intro _
 refine ay [1] [0,1,2] (.exec 3 (.exec 4 (.exec 5 .done))) (by kernel_rfl) (by simp [af.gc]) ?_
 repeat' first|refine gq ?_|decide|refine sp ?_ ?_<;>intro _|refine cA hB ?_|refine cA hO ?_|(with_reducible apply And.intro)
 all_goals exact aV (by first|rfl|simp [AV.ren,AV.renL])
end
section
def vR (m:bl) (n:Nd):St:=⟨List.replicate m.attrs.length 0,n.opn,n.don,n.did,n.cnt⟩
def Er (m:bl) (c:List Int) (n:Nd):Prop:=AF m (vR m n)=true /\ CR n.z (m.attrs.length:Int) c (ft m n.cnt m.events.length)
end
section
theorem OD:(0:Int)<((4:Nat):Int):=by decide
theorem Nl:(1:Int)<((4:Nat):Int):=by decide
theorem OJ:(2:Int)<((4:Nat):Int):=by decide
theorem NA:(3:Int)<((4:Nat):Int):=by decide
def md (m:bl) (x:ah):Bool:=
 if (decide (3<=x.op) && decide (x.op<=8))=true then decide (-1<=x.la) && decide (x.la<(m.attrs.length:Int)) && decide (-1<=x.ra) && decide (x.ra<(m.attrs.length:Int))
 else if (decide (x.op<9) || decide (12<x.op))=true then true
 else decide (0<=x.n) && decide (x.n<(if x.op=9 then (m.stages.length:Int) else if x.op=10 then (m.miles.length:Int) else (m.events.length:Int))) && (x.op != 12 || (decide (0<=x.u) && decide (x.u<(m.users.length:Int))))
theorem K3 (m:bl) (x:ah):aw Tryz.prog 106 [.agg (aQ m),.agg (cq x)] (val (.bool (md m x))):=by
 refine aa ag Tryz.func106 rfl (by decide) Tryz.ntmps106 Tryz.results106 rfl (aI _) ?_;obtain ⟨op,la,ln,ra,rn,n,u⟩:=x;by_cases h1:3<=op /\ op<=8
 .have e1:decide (3<=op)=true:=by simp;omega
  have e2:decide (op<=8)=true:=by simp;omega
  have eR:md m ⟨op,la,ln,ra,rn,n,u⟩=(decide (-1<=la) && decide (la<(m.attrs.length:Int)) && decide (-1<=ra) && decide (ra<(m.attrs.length:Int))):=by simp [md,h1]
  rw [eR]
  repeat' first|refine ge (kf e1 e2) ?_|decide|refine sp ?_ ?_<;>intro _
  all_goals (rename_i h;simp at h;first|(simp_all;done)|(simp_all;omega))
 .by_cases h2:op<9 \/ 12<op
  .have eR:md m ⟨op,la,ln,ra,rn,n,u⟩=true:=by
    rcases h2 with h2|h2<;>simp [md,h2]<;>omega
   rw [eR]
   repeat' first|refine go ?_|decide|refine sp ?_ ?_<;>intro _
   all_goals first|rfl|(exfalso;simp at *;omega)
  .have h3:op=9 \/ op=10 \/ op=11 \/ op=12:=(by omega);rcases h3 with rfl|rfl|rfl|rfl
   .have e1:decide ((3:Int)<=9)=true:=(by decide);have e2:decide ((9:Int)<=8)=false:=(by decide);have e3:decide ((9:Int)<9)=false:=(by decide);have e4:decide ((12:Int)<9)=false:=(by decide);have e5:((9:Int) != 12)=true:=(by decide);have ew:IntKind.i64.wrap ((9:Int) - 9)=0:=(by decide)
    repeat' first|refine ge (kf e1 (kf e2 (kf e3 (kf e4 (kf e5 ew))))) ?_|decide|refine sp ?_ ?_<;>intro _
    refine ⟨rfl,aA (by kernel_rfl) ?_⟩
    repeat' first|refine go ?_|simp only [e1,e2,e3,e4,e5,ew,OD,Nl,OJ,NA,Int.reduceLE,Int.reduceLT,XB,Int.toNat_one,Int.reduceToNat,WR,WP,VG]|decide|refine sp ?_ ?_<;>intro _
    all_goals first|(simp_all [md];done)|(simp_all [md];omega)
   .have e1:decide ((3:Int)<=10)=true:=(by decide);have e2:decide ((10:Int)<=8)=false:=(by decide);have e3:decide ((10:Int)<9)=false:=(by decide);have e4:decide ((12:Int)<10)=false:=(by decide);have e5:((10:Int) != 12)=true:=(by decide);have ew:IntKind.i64.wrap ((10:Int) - 9)=1:=(by decide)
    repeat' first|refine ge (kf e1 (kf e2 (kf e3 (kf e4 (kf e5 ew))))) ?_|decide|refine sp ?_ ?_<;>intro _
    refine ⟨rfl,aA (by kernel_rfl) ?_⟩
    repeat' first|refine go ?_|simp only [e1,e2,e3,e4,e5,ew,OD,Nl,OJ,NA,Int.reduceLE,Int.reduceLT,XB,Int.toNat_one,Int.reduceToNat,WR,WP,VG]|decide|refine sp ?_ ?_<;>intro _
    all_goals first|(simp_all [md];done)|(simp_all [md];omega)
   .have e1:decide ((3:Int)<=11)=true:=(by decide);have e2:decide ((11:Int)<=8)=false:=(by decide);have e3:decide ((11:Int)<9)=false:=(by decide);have e4:decide ((12:Int)<11)=false:=(by decide);have e5:((11:Int) != 12)=true:=(by decide);have ew:IntKind.i64.wrap ((11:Int) - 9)=2:=(by decide)
    repeat' first|refine ge (kf e1 (kf e2 (kf e3 (kf e4 (kf e5 ew))))) ?_|decide|refine sp ?_ ?_<;>intro _
    refine ⟨rfl,aA (by kernel_rfl) ?_⟩
    repeat' first|refine go ?_|simp only [e1,e2,e3,e4,e5,ew,OD,Nl,OJ,NA,Int.reduceLE,Int.reduceLT,XB,Int.toNat_one,Int.reduceToNat,WR,WP,VG]|decide|refine sp ?_ ?_<;>intro _
    all_goals first|(simp_all [md];done)|(simp_all [md];omega)
   .have e1:decide ((3:Int)<=12)=true:=(by decide);have e2:decide ((12:Int)<=8)=false:=(by decide);have e3:decide ((12:Int)<9)=false:=(by decide);have e4:decide ((12:Int)<12)=false:=(by decide);have e5:((12:Int) != 12)=false:=(by decide);have ew:IntKind.i64.wrap ((12:Int) - 9)=3:=(by decide)
    repeat' first|refine ge (kf e1 (kf e2 (kf e3 (kf e4 (kf e5 ew))))) ?_|decide|refine sp ?_ ?_<;>intro _
    refine ⟨rfl,aA (by kernel_rfl) ?_⟩
    repeat' first|refine go ?_|simp only [e1,e2,e3,e4,e5,ew,OD,Nl,OJ,NA,Int.reduceLE,Int.reduceLT,XB,Int.toNat_one,Int.reduceToNat,WR,WP,VG]|decide|refine sp ?_ ?_<;>intro _
    all_goals first|(simp_all [md];done)|(simp_all [md];omega)
end
section
theorem oB (m:bl) (hl:m.stages.length<=1000000):aw Tryz.prog 30 [.agg (aQ m)] (g8 3 1 ((gz m).map fun n=>[eI n])):=by
 refine aa ag Tryz.func30 rfl (by decide) Tryz.ntmps30 Tryz.results30 rfl (ch _ _ _) ?_
 repeat' first|refine go ?_|decide|refine sp ?_ ?_<;>intro _
 refine ae (fun st=>∃ k:Nat,k<=m.stages.length /\ st=⟨22,[(1,.op 0 0 0),(3,.osl 1),(4,eI (k:Int))],[(0,some (.box 32 (aQ m))),(1,some (.row 3 1 ((m.stages.take k).map fun p=>[eI p.2])))],2⟩) (fun st=>m.stages.length - ap st 4) ⟨_,((be 3 3 1 (by simp only [iz,aj.get,bb,aj.put,↓reduceIte,reduceCtorEq,Nat.reduceLT,Nat.reduceEqDiff,Nat.reduceAdd,Nat.reduceLeDiff,eq_self,implies_true,Vu,VL])).trans (wS [0,1] @Vu)),0,Vd _,rfl⟩ ?_;rintro _ ⟨k,hk,rfl⟩;by_cases hlt:k<m.stages.length
 .have et:(m.stages.take (k+1)).map (fun p=>[eI p.2])=(m.stages.take k).map (fun p=>[eI p.2]) ++ [[eI m.stages[k].2]]:=dc _ _ hlt
  repeat' first|refine go ?_|simp only [ab,hlt]|decide|refine sp ?_ ?_<;>intro _
  refine ⟨rfl,by simp only [Vr];omega,rI (wS [0,3] et) ⟨k+1,by omega,rfl⟩⟩
 .obtain rfl:k=m.stages.length:=by omega
  repeat' first|refine go ?_|simp only [ab,hlt]|decide|refine sp ?_ ?_<;>intro _
  exact aM (by simp [af.gc,gz])
end
section
theorem Ol (m:bl) (hf:uX m):aw Tryz.prog 67 [.agg (aQ m)] (val (.int .i64 ((m.guards.length+m.miles.length:Nat):Int))):=by
 refine aa ag Tryz.func67 rfl (by decide) Tryz.ntmps67 Tryz.results67 rfl (aI _) ?_;obtain ⟨hg,hm,-⟩:=id hf.sizes
 repeat' first|refine go ?_|decide|refine sp ?_ ?_<;>intro _
 rw [aB (by omega) (by omega)];simp
theorem Dw (a b:Nat):IntKind.i64.wrap ((a+b:Nat) - (a:Int))=(b:Int) \/ b > 9223372036854775807:=by
 rcases Vw 9223372036854775807 b with h|h
 .exact .inr h
 .left;rw [aB (by omega) (by omega)];omega
def n6 (m:bl) (i:Nat):Bool × Int:=if i<m.guards.length then (false,(i:Int)) else (true,((i - m.guards.length:Nat):Int))
def co (m:bl) (i:Nat):Int:=if h:i<m.guards.length then m.guards[i].stage else (m.miles[i - m.guards.length]?.map (·.stage)).getD 0
def kV (m:bl) (i:Nat):List ah:=if h:i<m.guards.length then m.guards[i].cond else (m.miles[i - m.guards.length]?.map (·.cond)).getD []
theorem PF (m:bl) (i:Nat) (hf:uX m) (hi:i<m.guards.length+m.miles.length):aw Tryz.prog 69 [.agg (aQ m),eI (i:Int)] ⟨.agg (yA (n6 m i)),[],0⟩:=by
 refine aa ag Tryz.func69 rfl (by decide) Tryz.ntmps69 Tryz.results69 rfl (⟨fun id o h=>(by cases h),⟨trivial,trivial,trivial⟩⟩) ?_;obtain ⟨hg,hm,-⟩:=id hf.sizes;by_cases hlt:i<m.guards.length
 .have e:n6 m i=(false,(i:Int)):=by simp [n6,hlt]
  rw [e]
  repeat' first|refine ge @hlt ?_|decide|refine sp ?_ ?_<;>intro _
  exact aV (by simp [AV.ren,AV.renL])
 .obtain ⟨j,rfl⟩:∃ j,i=m.guards.length+j:=⟨i - m.guards.length,by omega⟩;have e:n6 m (m.guards.length+j)=(true,(j:Int)):=by simp [n6]
  have ew:IntKind.i64.wrap (((m.guards.length+j:Nat):Int) - (m.guards.length:Int))=(j:Int):=(Dw _ _).resolve_right (by omega);rw [e]
  repeat' first|refine ge (kf @hlt ew) ?_|decide|refine sp ?_ ?_<;>intro _
  exact aV (by simp [AV.ren,AV.renL])
theorem kI (m:bl) (i:Nat) (hf:uX m) (hi:i<m.guards.length+m.miles.length):aw Tryz.prog 110 [.agg (aQ m),eI (i:Int)] (val (.int .i64 (co m i))):=by
 refine aa ag Tryz.func110 rfl (by decide) Tryz.ntmps110 Tryz.results110 rfl (aI _) ?_;obtain ⟨hg,hm,-⟩:=id hf.sizes;by_cases hlt:i<m.guards.length
 .have e:co m i=m.guards[i].stage:=by simp [co,hlt]
  rw [e]
  repeat' first|refine go ?_|simp only [hlt,ab]|decide|refine sp ?_ ?_<;>intro _
 .obtain ⟨j,rfl⟩:∃ j,i=m.guards.length+j:=⟨i - m.guards.length,by omega⟩;have hj:j<m.miles.length:=by omega
  have e:co m (m.guards.length+j)=m.miles[j].stage:=by simp only [co];rw [dif_neg (by omega)];simp [hj]
  have ew:IntKind.i64.wrap (((m.guards.length+j:Nat):Int) - (m.guards.length:Int))=(j:Int):=(Dw _ _).resolve_right (by omega);rw [e]
  repeat' first|refine go ?_|simp only [hlt,ew,hj,ab]|decide|refine sp ?_ ?_<;>intro _
theorem PK (m:bl) (i:Nat) (hf:uX m) (hi:i<m.guards.length+m.miles.length):aw Tryz.prog 108 [.agg (aQ m),eI (i:Int)] ⟨aX (kV m i),[],0⟩:=by
 refine aa ag Tryz.func108 rfl (by decide) Tryz.ntmps108 Tryz.results108 rfl (⟨fun id o h=>(by cases h),trivial⟩) ?_;obtain ⟨hg,hm,-⟩:=id hf.sizes;by_cases hlt:i<m.guards.length
 .have e:kV m i=m.guards[i].cond:=by simp [kV,hlt]
  rw [e]
  repeat' first|refine go ?_|simp only [hlt,ab]|decide|refine sp ?_ ?_<;>intro _
  exact aV (by simp [AV.ren,AV.renL])
 .obtain ⟨j,rfl⟩:∃ j,i=m.guards.length+j:=⟨i - m.guards.length,by omega⟩;have hj:j<m.miles.length:=by omega
  have e:kV m (m.guards.length+j)=m.miles[j].cond:=by simp only [kV];rw [dif_neg (by omega)];simp [hj]
  have ew:IntKind.i64.wrap (((m.guards.length+j:Nat):Int) - (m.guards.length:Int))=(j:Int):=(Dw _ _).resolve_right (by omega);rw [e]
  repeat' first|refine go ?_|simp only [hlt,ew,hj,ab]|decide|refine sp ?_ ?_<;>intro _
  exact aV (by simp [AV.ren,AV.renL])
theorem B6 (m:bl) (hf:uX m) (i:Nat):(kV m i).length<=80:=by
 unfold kV;split
 .exact hf.guards _ (Vg _)
 .rcases Vw (i - m.guards.length) m.miles.length with h | h
  .simp [p0 h];exact hf.miles _ (Vg _)
  .simp [Vt h]
end
section
def xX (st:aj) (id:Nat):Nat:=match st.tab.get id with | some (.row _ _ rows)=>rows.length | _=>0
end
section
structure U8 (m:bl):Prop where
 attrs:m.attrs.length<=5
 inits:m.inits.length=m.attrs.length
 users:m.users.length<=4
 roles:m.roles.length<=4
 stages:m.stages.length<=8
 events:m.events.length<=6
 guards:m.guards.length<=12
 miles:m.miles.length<=8
 sods:m.sods.length<=6
 circle:kU (gz m)<0
end
section
theorem II (r:Int):cV r<=1048576:=by
 unfold cV;have h1:(2:Nat) ^ (min r.toNat 20)<=2 ^ 20:=VU (by omega) (by omega);have h2:((2 ^ (min r.toNat 20):Nat):Int)=(2:Int) ^ (min r.toNat 20):=by simp
 omega
end
section
theorem xo (m:bl) (c:List Int) (n:Nd) (he:m.events.length<=10) (hm:∀ e ∈ m.events,e.times<=10 /\ e.sets.length<=10) (ha:m.attrs.length<=1000000) (h1:n.z.cls.length<=40) (h2:n.z.gaps.length<=40) (h3:c.length<=100000) (hc:∀ x ∈ c,aF x) (hat:∀ x ∈ n.z.cls,aF x.attrs) (h5:n.did.length<=1000000) (h4:n.cnt.length<=1000000) (hop:aF n.opn) (hdo:aF n.don) (hdid:∀ x ∈ n.did,aF x):dQ Tryz.prog 72 [.agg (aQ m),sI c,.agg (iQ n)] fun R=>∃ b,R=val (.bool b) /\ (b=true ↔ Er m c n):=by
 refine bj ag Tryz.func72 rfl (by decide) Tryz.ntmps72 Tryz.results72 rfl ?_;have hSt:=qC n h5 h4;have hS:=I2 m (vR m n) (by omega) hop hdo hdid;have hL:=tr m n.cnt he hm h4;have hrep:List.replicate m.attrs.length [eI 0]=(List.replicate m.attrs.length 0).map fun n=>[eI n]:=by simp
 obtain ⟨t,ht,hZ⟩:=lU (Fw n.z (m.attrs.length:Int) c (ft m n.cnt m.events.length) h1 h2 h3 hc (II _) hat);unfold Er;rw [<- ht];clear ht;generalize ft m n.cnt m.events.length=L at *
 cases hb:AF m (vR m n) with
 | true=>
  rw [hb] at hS
  repeat' first|refine gq ?_|decide|refine sp ?_ ?_<;>intro _|refine cA hSt ?_|fail
  refine ⟨⟨by omega,by omega⟩,?_⟩
  repeat' first|refine gq ?_|simp only [hrep,vR]|decide|refine sp ?_ ?_<;>intro _|refine cA hS ?_|refine cA hL ?_|refine cA hZ ?_|fail
  all_goals exact cI ⟨t,rfl,by simp⟩
 | false=>
  rw [hb] at hS
  repeat' first|refine gq ?_|decide|refine sp ?_ ?_<;>intro _|refine cA hSt ?_|fail
  refine ⟨⟨by omega,by omega⟩,?_⟩
  repeat' first|refine gq ?_|simp only [hrep,vR]|decide|refine sp ?_ ?_<;>intro _|refine cA hS ?_|refine cA hL ?_|refine cA hZ ?_|fail
  all_goals exact cI ⟨false,rfl,by simp⟩
end
end
section
section
theorem QN (q:Nat) (hq:q<=60):aw Tryz.prog 62 [eI (q:Int)] (val (.int .i64 (((2 ^ q - 1:Nat):Int)))):=by
 refine aa ag Tryz.func62 rfl (by decide) Tryz.ntmps62 Tryz.results62 rfl (aI _) ?_
 repeat' first|refine go ?_|decide|refine sp ?_ ?_<;>intro _
 refine ae (fun st=>∃ k:Nat,k<=q /\ st=⟨14,[(0,eI (q:Int)),(3,eI ((2 ^ k - 1:Nat):Int)),(4,eI (k:Int))],[],0⟩) (fun st=>q - ap st 4) ⟨_,wC,0,Vd _,rfl⟩ ?_;rintro _ ⟨k,hk,rfl⟩;by_cases hlt:k<q
 .have hp:2 ^ k<=2 ^ 59:=VU (by omega) (by omega);have hp1:1<=2 ^ k:=XH;have e1:IntKind.i64.wrap (2 * ((2 ^ k - 1:Nat):Int))=2 * ((2 ^ k - 1:Nat):Int):=aB (by omega) (by omega)
  have e2:IntKind.i64.wrap (2 * ((2 ^ k - 1:Nat):Int)+1)=((2 ^ (k+1) - 1:Nat):Int):=by
   rw [aB (by omega) (by omega),Nat.pow_succ];omega
  repeat' first|refine ge (kf @hlt (kf e1 e2)) ?_|decide|refine sp ?_ ?_<;>intro _
  exact rI (wE (kf e1 e2)) ⟨k+1,by omega,rfl⟩
 .obtain rfl:k=q:=by omega
  repeat' first|refine ge @hlt ?_|decide|refine sp ?_ ?_<;>intro _
theorem kG (m:bl) (l:List ah) (prop:Bool) (hl:l.length<=1000):dQ Tryz.prog 65 [.agg (aQ m),aX l,eB prop] fun R=>∃ b,R=val (.bool b) /\ (b=true -> bf (l.map ah.op)=0 /\ ∀ i (h:i<l.length),md m l[i]=true /\ (prop=false -> ¬ (18<l[i].op \/ (10<l[i].op /\ l[i].op<15)))):=by
 refine bj ag Tryz.func65 rfl (by decide) Tryz.ntmps65 Tryz.results65 rfl ?_
 repeat' first|refine go ?_|decide|refine sp ?_ ?_<;>intro _
 refine ae (fun st=>∃ k:Nat,k<=l.length /\ k<=70 /\ st=⟨67,[(1,aX l),(2,eB prop),(3,.op 0 0 0),(7,.osl 1),(8,eI (k:Int))],[(0,some (.box 32 (aQ m))),(1,some (.row 101 9 (((l.map ah.op).take k).map oX)))],2⟩) (fun st=>l.length - ap st 8) ⟨_,((be 7 101 9 (by simp only [iz,aj.get,bb,aj.put,↓reduceIte,reduceCtorEq,Nat.reduceLT,Nat.reduceEqDiff,Nat.reduceAdd,Nat.reduceLeDiff,eq_self,implies_true,Vu,VL])).trans (wS [0,1] @Vu)),0,Vd _,by omega,rfl⟩ ?_;rintro _ ⟨k,hk,hk70,rfl⟩;have hkl:((l.map ah.op).take k).length=k:=by simp;omega
 have hlen2:((l.map ah.op).take k).length<=1000000:=by omega
 by_cases hgo:k<l.length /\ k<70
 .obtain ⟨hlt,h70⟩:=hgo;have e1:decide ((k:Int)<70)=true:=by simp;omega
  have et:((l.map ah.op).take (k+1)).map oX=((l.map ah.op).take k).map oX ++ [oX l[k].op]:=by
   rw [dc oX (l.map ah.op) (by simpa using hlt)];simp
  repeat' first|refine go ?_|simp only [ab,hlt,e1]|decide|refine sp ?_ ?_<;>intro _
  refine ⟨rfl,by simp only [hkl,Vp,Vr];omega,rI (wS [0,3] et) ⟨k+1,by omega,by omega,rfl⟩⟩
 .have hfin:((l.map ah.op).take k)=(l.map ah.op).take 70:=by
   by_cases h1:k=70
   .rw [h1]
   .rw [VF (by simp;omega),VF (by simp;omega)]
  have hchk:=ul ((l.map ah.op).take k) hlen2
  have hE:bf ((l.map ah.op).take k)=0 -> bf (l.map ah.op)=0:=fun h=>by
   rcases Vw 64 l.length with h64|h64
   .exfalso;have:64<((l.map ah.op).take k).length:=by omega
    unfold bf at h;rw [Vj (by omega),Vo this] at h;cases h
   .rw [VF (by simp;omega)] at h;exact h
  have hcond:decide (k<l.length)=false \/ (decide (k<l.length)=true /\ decide ((k:Int)<70)=false):=by
   by_cases h:k<l.length
   .exact .inr ⟨Vy h,Vv (by omega)⟩
   .exact .inl (Vv h)
  by_cases hz:bf ((l.map ah.op).take k)=0
  .have z1:(bf ((l.map ah.op).take k) != 0)=false:=(by simp [hz]);have hE:=hE hz;have fin:Mm Tryz.prog (Code.skip) (fun _ _=>True) ⟨0,[],[],0⟩ -> True:=fun _=>trivial;rcases hcond with d1|⟨d1,d2⟩
   .repeat' first|refine ge d1 ?_|decide|refine sp ?_ ?_<;>intro _
    refine ax hchk ?_
    repeat' first|refine ge z1 ?_|decide|refine sp ?_ ?_<;>intro _
    refine ae (fun st=>∃ q:Nat,q<=l.length /\ (∀ i (h:i<l.length),i<q -> md m l[i]=true /\ (prop=false -> ¬ (18<l[i].op \/ (10<l[i].op /\ l[i].op<15)))) /\ st=⟨67,[(1,aX l),(2,eB prop),(3,.op 0 0 0),(9,eI (q:Int))],[(0,some (.box 32 (aQ m)))],1⟩) (fun st=>l.length - ap st 9) ⟨_,wC,0,Vd _,fun i h h2=>absurd h2 (by omega),rfl⟩ ?_;rintro _ ⟨q,hq,hI,rfl⟩;by_cases hlt2:q<l.length
    .repeat' first|refine go ?_|simp only [ab,hlt2]|decide|refine sp ?_ ?_<;>intro _
     refine aA (by kernel_rfl) ?_
     repeat' first|refine go ?_|simp only [ab,hlt2]|decide|refine sp ?_ ?_<;>intro _
     refine aL (K3 m l[q]) ?_
     repeat' first|refine go ?_|simp only [ab,hlt2]|decide|refine sp ?_ ?_<;>intro _
     all_goals first|with_reducible exact cI ⟨false,rfl,fun h=>by cases h⟩|skip
     all_goals
      refine rI wC ⟨q+1,by omega,fun i h h2=>?_,rfl⟩;rcases Vw i q with h3|h3
      .exact hI i h h3
      .obtain rfl:i=q:=by omega
       simp_all
       try omega
    .repeat' first|refine go ?_|simp only [ab,hlt2]|decide|refine sp ?_ ?_<;>intro _
     exact cI ⟨true,rfl,fun _=>⟨hE,fun i h=>hI i h (by omega)⟩⟩
   .repeat' first|refine ge (kf d1 d2) ?_|decide|refine sp ?_ ?_<;>intro _
    refine ax hchk ?_
    repeat' first|refine ge z1 ?_|decide|refine sp ?_ ?_<;>intro _
    refine ae (fun st=>∃ q:Nat,q<=l.length /\ (∀ i (h:i<l.length),i<q -> md m l[i]=true /\ (prop=false -> ¬ (18<l[i].op \/ (10<l[i].op /\ l[i].op<15)))) /\ st=⟨67,[(1,aX l),(2,eB prop),(3,.op 0 0 0),(9,eI (q:Int))],[(0,some (.box 32 (aQ m)))],1⟩) (fun st=>l.length - ap st 9) ⟨_,wC,0,Vd _,fun i h h2=>absurd h2 (by omega),rfl⟩ ?_;rintro _ ⟨q,hq,hI,rfl⟩;by_cases hlt2:q<l.length
    .repeat' first|refine go ?_|simp only [ab,hlt2]|decide|refine sp ?_ ?_<;>intro _
     refine aA (by kernel_rfl) ?_
     repeat' first|refine go ?_|simp only [ab,hlt2]|decide|refine sp ?_ ?_<;>intro _
     refine aL (K3 m l[q]) ?_
     repeat' first|refine go ?_|simp only [ab,hlt2]|decide|refine sp ?_ ?_<;>intro _
     all_goals first|with_reducible exact cI ⟨false,rfl,fun h=>by cases h⟩|skip
     all_goals
      refine rI wC ⟨q+1,by omega,fun i h h2=>?_,rfl⟩;rcases Vw i q with h3|h3
      .exact hI i h h3
      .obtain rfl:i=q:=by omega
       simp_all
       try omega
    .repeat' first|refine go ?_|simp only [ab,hlt2]|decide|refine sp ?_ ?_<;>intro _
     exact cI ⟨true,rfl,fun _=>⟨hE,fun i h=>hI i h (by omega)⟩⟩
  .have z1:(bf ((l.map ah.op).take k) != 0)=true:=(by simp [hz]);rcases hcond with d1|⟨d1,d2⟩
   .repeat' first|refine ge d1 ?_|decide|refine sp ?_ ?_<;>intro _
    refine ax hchk ?_
    repeat' first|refine ge z1 ?_|decide|refine sp ?_ ?_<;>intro _
    exact cI ⟨false,rfl,fun h=>by cases h⟩
   .repeat' first|refine ge (kf d1 d2) ?_|decide|refine sp ?_ ?_<;>intro _
    refine ax hchk ?_
    repeat' first|refine ge z1 ?_|decide|refine sp ?_ ?_<;>intro _
    exact cI ⟨false,rfl,fun h=>by cases h⟩
def lG (l:List Ev):Int:=(l.map fun e=>e.times * (e.sets.length:Int)).sum
structure o8 (l:List Ev):Prop where
 each:∀ i (h:i<l.length),0<=l[i].times /\ l[i].times<=3 /\ (l[i].times=0 -> l[i].sets.length=0)
theorem Iu:lG []=0:=rfl
theorem ky {l:List Ev} {k:Nat} (hk:k<l.length):lG (l.take (k+1))=lG (l.take k)+l[k].times * (l[k].sets.length:Int):=by
 unfold lG;rw [Vi hk,VI,List.sum_append];simp
theorem t7 {l:List Ev} (hs:∀ e ∈ l,e.sets.length<=10):∀ k,k<=l.length -> (∀ i (h:i<l.length),i<k -> 0<=l[i].times /\ l[i].times<=3) -> 0<=lG (l.take k) /\ lG (l.take k)<=30 * (k:Int)
 | 0,_,_=>by simp [lG]
 | k+1,hk,h=>by
  have ih:=t7 hs k (by omega) fun i hi h2=>h i hi (by omega);have h1:=h k (by omega) (by omega);have h2:=hs _ (Vg (show k<l.length by omega));rw [ky (by omega)];have h3:0<=l[k].times * (l[k].sets.length:Int):=Int.mul_nonneg h1.1 (by omega);have h4:l[k].times * (l[k].sets.length:Int)<=3 * 10:=Int.mul_le_mul h1.2 (by omega) (by omega) (by omega);omega
theorem Hw (l:List Ev) (hl:l.length<=1000) (hs:∀ e ∈ l,e.sets.length<=10):dQ Tryz.prog 28 [.sl 5 (l.map OU)] fun R=>∃ v,R=val (.int .i64 v) /\ (v<0 \/ (v=lG l /\ o8 l)):=by
 refine bj ag Tryz.func28 rfl (by decide) Tryz.ntmps28 Tryz.results28 rfl ?_
 repeat' first|refine go ?_|decide|refine sp ?_ ?_<;>intro _
 refine ae (fun st=>∃ k:Nat,k<=l.length /\ (∀ i (h:i<l.length),i<k -> 0<=l[i].times /\ l[i].times<=3 /\ (l[i].times=0 -> l[i].sets.length=0)) /\ st=⟨54,[(0,.sl 5 (l.map OU)),(3,eI (lG (l.take k))),(4,eI (k:Int))],[],0⟩) (fun st=>l.length - ap st 4) ⟨_,(wE (kf @Vu @Iu)),0,Vd _,fun i h h2=>absurd h2 (by omega),rfl⟩ ?_;rintro _ ⟨k,hk,hI,rfl⟩;have hbd:=t7 hs k hk fun i h h2=>⟨(hI i h h2).1,(hI i h h2).2.1⟩;by_cases hlt:k<l.length
 .by_cases hg:0<=l[k].times /\ l[k].times<=3 /\ (l[k].times=0 -> l[k].sets.length=0)
  .have h2:=hs _ (Vg hlt);have h3:0<=l[k].times * (l[k].sets.length:Int):=Int.mul_nonneg hg.1 (by omega);have h4:l[k].times * (l[k].sets.length:Int)<=3 * 10:=Int.mul_le_mul hg.2.1 (by omega) (by omega) (by omega);have e1:IntKind.i64.wrap (l[k].times * (l[k].sets.length:Int))=l[k].times * (l[k].sets.length:Int):=aB (by omega) (by omega)
   have e2:IntKind.i64.wrap (lG (l.take k)+l[k].times * (l[k].sets.length:Int))=lG (l.take (k+1)):=by
    rw [ky hlt];exact aB (by omega) (by omega)
   have hI':∀ i (h:i<l.length),i<k+1 -> 0<=l[i].times /\ l[i].times<=3 /\ (l[i].times=0 -> l[i].sets.length=0):=fun i h h2=>by
    rcases Vw i k with h3|h3
    .exact hI i h h3
    .obtain rfl:i=k:=by omega
     exact hg
   have d1:decide (l[k].times<0)=false:=Vv (by omega);have d2:decide (3<l[k].times)=false:=Vv (by omega);by_cases hz:l[k].times=0
   .have d3:(l[k].times == 0)=true:=(by simp [hz]);have d4:decide (0<(l[k].sets.length:Int))=false:=Vv (by have:=hg.2.2 hz;omega);have d5:decide (0<l[k].sets.length)=false:=Vv (by have:=hg.2.2 hz;omega)
    repeat' first|refine go ?_|simp only [ab,hlt,d1,d2,d3,d4,d5,e1]|decide|refine sp ?_ ?_<;>intro _
    all_goals exact rI (wE (kf e1 e2)) ⟨k+1,by omega,hI',rfl⟩
   .have d3:(l[k].times == 0)=false:=by simp [hz]
    repeat' first|refine go ?_|simp only [ab,hlt,d1,d2,d3,e1]|decide|refine sp ?_ ?_<;>intro _
    all_goals exact rI (wE (kf e1 e2)) ⟨k+1,by omega,hI',rfl⟩
  .have hbad:decide (l[k].times<0)=true \/ (decide (l[k].times<0)=false /\ decide (3<l[k].times)=true) \/ (decide (l[k].times<0)=false /\ decide (3<l[k].times)=false /\ (l[k].times == 0)=true /\ decide (0<(l[k].sets.length:Int))=true /\ decide (0<l[k].sets.length)=true):=by
    by_cases h1:l[k].times<0
    .exact .inl (Vy h1)
    by_cases h2:3<l[k].times
    .exact .inr (.inl ⟨Vv h1,Vy h2⟩)
    have h3:l[k].times=0:=Classical.byContradiction fun h=>hg ⟨by omega,by omega,fun h'=>absurd h' h⟩;have h4:0<l[k].sets.length:=Nat.pos_of_ne_zero fun h=>hg ⟨by omega,by omega,fun _=>h⟩;exact .inr (.inr ⟨Vv h1,Vv h2,by simp [h3],Vy (by omega),Vy h4⟩)
   rcases hbad with d1|⟨d1,d2⟩|⟨d1,d2,d3,d4,d5⟩
   .repeat' first|refine go ?_|simp only [ab,hlt,d1]|decide|refine sp ?_ ?_<;>intro _
    exact cI ⟨-1,rfl,.inl (by omega)⟩
   .repeat' first|refine go ?_|simp only [ab,hlt,d1,d2]|decide|refine sp ?_ ?_<;>intro _
    exact cI ⟨-1,rfl,.inl (by omega)⟩
   .repeat' first|refine go ?_|simp only [ab,hlt,d1,d2,d3,d4,d5]|decide|refine sp ?_ ?_<;>intro _
    all_goals exact cI ⟨-1,rfl,.inl (by omega)⟩
 .obtain rfl:k=l.length:=by omega
  repeat' first|refine ge @hlt ?_|decide|refine sp ?_ ?_<;>intro _
  exact cI ⟨_,rfl,.inr ⟨by simp only [Vq],⟨fun i h=>hI i h h⟩⟩⟩
end
end
section
section
def UC (m:bl) (l:List ah):Prop:=bf (l.map ah.op)=0 /\ ∀ i (h:i<l.length),md m l[i]=true /\ ¬ (18<l[i].op \/ (10<l[i].op /\ l[i].op<15))
def Ky (m:bl) (l:List Int):Prop:=∀ i (h:i<l.length),eV l[i] m.attrs.length=true /\ ∀ j (h:j<i),l[j] ≠ l[i]
def Jf (m:bl) (p:ByteArray × Int):Prop:=0<p.2 /\ p.2<16 /\ p.2<=((2 ^ m.users.length - 1:Nat):Int)
def Dq (m:bl) (p:ByteArray × Int):Prop:=p.2 = -1 \/ eV p.2 m.stages.length=true
def CP (m:bl) (e:Ev):Prop:=eV e.role m.roles.length=true /\ eV e.stage m.stages.length=true /\ Ky m e.sets
def u5 (m:bl) (st ev:Int) (l:List ah):Prop:=eV st m.stages.length=true /\ (ev = -1 \/ eV ev m.events.length=true) /\ UC m l
def S3 (m:bl) (p:Int × Int):Prop:=eV p.1 m.events.length=true /\ eV p.2 m.events.length=true /\ p.1 ≠ p.2
structure C9 (m:bl):Prop where
 roles:∀ i (h:i<m.roles.length),Jf m m.roles[i]
 stages:∀ i (h:i<m.stages.length),Dq m m.stages[i]
 events:∀ i (h:i<m.events.length),CP m m.events[i]
 guards:∀ i (h:i<m.guards.length),u5 m m.guards[i].stage m.guards[i].event m.guards[i].cond
 miles:∀ i (h:i<m.miles.length),u5 m m.miles[i].stage m.miles[i].event m.miles[i].cond
 sods:∀ i (h:i<m.sods.length),S3 m m.sods[i]
def ut {α:Type} (l:List α) (p:α -> Prop) (k:Nat):Prop:=∀ i (h:i<l.length),i<k -> p l[i]
theorem ut.zero {α:Type} (l:List α) (p:α -> Prop):ut l p 0:=fun i h h2=>absurd h2 (by omega)
theorem ut.succ {α:Type} {l:List α} {p:α -> Prop} {k:Nat} (h:ut l p k) (hk:k<l.length) (hp:p l[k]):ut l p (k+1):=fun i hi h2=>by
 rcases Vw i k with h3|h3
 .exact h i hi h3
 .obtain rfl:i=k:=by omega
  exact hp
theorem Mr (m:bl) (l:List Int) (hl:l.length<=1000000):∃ b,aw Tryz.prog 64 [.agg (aQ m),sI l] (val (.bool b)) /\ (b=true -> Ky m l):=by
 classical
 exact ⟨decide (∀ i (h:i<l.length),eV l[i] m.attrs.length=true /\ ∀ j (h:j<i),l[j] ≠ l[i]),Sz m l hl _ (by simp),fun h=>by unfold Ky;simpa using h⟩
def NM (m:bl) (a b c d e f:Nat):Prop:=ut m.roles (Jf m) a /\ ut m.stages (Dq m) b /\ ut m.events (CP m) c /\ ut m.guards (fun g=>u5 m g.stage g.event g.cond) d /\ ut m.miles (fun g=>u5 m g.stage g.event g.cond) e /\ ut m.sods (S3 m) f
theorem NM.s1 {m:bl} {a b c d e f:Nat} (h:NM m a b c d e f) (hk:a<m.roles.length) (hp:Jf m m.roles[a]):NM m (a+1) b c d e f:=⟨h.1.succ hk hp,h.2⟩
theorem NM.s2 {m:bl} {a b c d e f:Nat} (h:NM m a b c d e f) (hk:b<m.stages.length) (hp:Dq m m.stages[b]):NM m a (b+1) c d e f:=⟨h.1,h.2.1.succ hk hp,h.2.2⟩
theorem NM.s3 {m:bl} {a b c d e f:Nat} (h:NM m a b c d e f) (hk:c<m.events.length) (hp:CP m m.events[c]):NM m a b (c+1) d e f:=⟨h.1,h.2.1,h.2.2.1.succ hk hp,h.2.2.2⟩
theorem NM.s4 {m:bl} {a b c d e f:Nat} (h:NM m a b c d e f) (hk:d<m.guards.length) (hp:u5 m m.guards[d].stage m.guards[d].event m.guards[d].cond):NM m a b c (d+1) e f:=⟨h.1,h.2.1,h.2.2.1,h.2.2.2.1.succ hk hp,h.2.2.2.2⟩
theorem NM.s5 {m:bl} {a b c d e f:Nat} (h:NM m a b c d e f) (hk:e<m.miles.length) (hp:u5 m m.miles[e].stage m.miles[e].event m.miles[e].cond):NM m a b c d (e+1) f:=⟨h.1,h.2.1,h.2.2.1,h.2.2.2.1,h.2.2.2.2.1.succ hk hp,h.2.2.2.2.2⟩
theorem NM.s6 {m:bl} {a b c d e f:Nat} (h:NM m a b c d e f) (hk:f<m.sods.length) (hp:S3 m m.sods[f]):NM m a b c d e (f+1):=⟨h.1,h.2.1,h.2.2.1,h.2.2.2.1,h.2.2.2.2.1,h.2.2.2.2.2.succ hk hp⟩
theorem NM.named {m:bl} (h:NM m m.roles.length m.stages.length m.events.length m.guards.length m.miles.length m.sods.length):C9 m:=⟨fun i hi=>h.1 i hi hi,fun i hi=>h.2.1 i hi hi,fun i hi=>h.2.2.1 i hi hi,fun i hi=>h.2.2.2.1 i hi hi,fun i hi=>h.2.2.2.2.1 i hi hi,fun i hi=>h.2.2.2.2.2 i hi hi⟩
theorem Il (m:bl) (hf:uX m):dQ Tryz.prog 27 [.agg (aQ m)] fun R=>∃ b,R=val (.bool b) /\ (b=true -> C9 m):=by
 refine bj ag Tryz.func27 rfl (by decide) Tryz.ntmps27 Tryz.results27 rfl ?_;obtain ⟨hg,hm,hst,hev,hat,hus,hro,hso,-⟩:=id hf.sizes
 repeat' first|refine go ?_|decide|refine sp ?_ ?_<;>intro _
 refine ae (fun st=>∃ (k:Nat) (b:Bool),k<=m.roles.length /\ (b=true -> NM m k 0 0 0 0 0) /\ st=⟨233,[(1,.op 0 0 0),(3,eB b),(4,eI (k:Int))],[(0,some (.box 32 (aQ m)))],1⟩) (fun st=>m.roles.length - ap st 4) ⟨_,wC,0,true,Vd _,fun _=>⟨.zero _ _,.zero _ _,.zero _ _,.zero _ _,.zero _ _,.zero _ _⟩,rfl⟩ ?_;rintro _ ⟨k,b,hk,hI,rfl⟩;by_cases hlt:k<m.roles.length
 .repeat' first|refine go ?_|simp only [ab,hlt]|decide|refine sp ?_ ?_<;>intro _
  all_goals first|with_reducible exact rI wC ⟨k+1,false,by omega,(fun h=>by cases h),rfl⟩|skip
  refine ax (QN m.users.length (by omega)) ?_
  repeat' first|refine go ?_|simp only [ab,hlt]|decide|refine sp ?_ ?_<;>intro _
  refine rI wC ⟨k+1,decide (m.roles[k].2<=((2 ^ m.users.length - 1:Nat):Int)),by omega,fun h=>(hI (by assumption)).s1 hlt ⟨?_,?_,of_decide_eq_true h⟩,rfl⟩;all_goals (apply of_decide_eq_true;assumption)
 obtain rfl:k=m.roles.length:=by omega
 repeat' first|refine go ?_|simp only [ab,hlt]|decide|refine sp ?_ ?_<;>intro _
 clear hk hlt;refine ae (fun st=>∃ (k:Nat) (b:Bool),k<=m.stages.length /\ (b=true -> NM m m.roles.length k 0 0 0 0) /\ st=⟨233,[(1,.op 0 0 0),(3,eB b),(6,eI (k:Int))],[(0,some (.box 32 (aQ m)))],1⟩) (fun st=>m.stages.length - ap st 6) ⟨_,wC,0,b,Vd _,hI,rfl⟩ ?_;clear hI b;rintro _ ⟨k,b,hk,hI,rfl⟩;by_cases hlt:k<m.stages.length
 .repeat' first|refine go ?_|simp only [ab,hlt]|decide|refine sp ?_ ?_<;>intro _
  all_goals first|with_reducible exact rI wC ⟨k+1,false,by omega,(fun h=>by cases h),rfl⟩|skip
  all_goals first|exact rI wC ⟨k+1,true,by omega,(fun h=>(hI (by assumption)).s2 hlt (.inl (eq_of_beq (by assumption)))),rfl⟩|skip
  refine ax (uP m.stages[k].2 m.stages.length) ?_
  repeat' first|refine go ?_|simp only [ab,hlt]|decide|refine sp ?_ ?_<;>intro _
  exact rI wC ⟨k+1,eV m.stages[k].2 m.stages.length,by omega,(fun h=>(hI (by assumption)).s2 hlt (.inr h)),rfl⟩
 obtain rfl:k=m.stages.length:=by omega
 repeat' first|refine go ?_|simp only [ab,hlt]|decide|refine sp ?_ ?_<;>intro _
 clear hk hlt;refine ae (fun st=>∃ (k:Nat) (b:Bool),k<=m.events.length /\ (b=true -> NM m m.roles.length m.stages.length k 0 0 0) /\ st=⟨233,[(1,.op 0 0 0),(3,eB b),(8,eI (k:Int))],[(0,some (.box 32 (aQ m)))],1⟩) (fun st=>m.events.length - ap st 8) ⟨_,wC,0,b,Vd _,hI,rfl⟩ ?_;clear hI b;rintro _ ⟨k,b,hk,hI,rfl⟩;by_cases hlt:k<m.events.length
 .have hs:=hf.events _ (Vg hlt);obtain ⟨x,hx,hxp⟩:=Mr m m.events[k].sets (by omega)
  repeat' first|refine go ?_|simp only [ab,hlt]|decide|refine sp ?_ ?_<;>intro _
  all_goals first|with_reducible exact rI wC ⟨k+1,false,by omega,(fun h=>by cases h),rfl⟩|skip
  refine ax (uP _ _) ?_
  repeat' first|refine go ?_|simp only [ab,hlt]|decide|refine sp ?_ ?_<;>intro _
  all_goals first|with_reducible exact rI wC ⟨k+1,false,by omega,(fun h=>by cases h),rfl⟩|skip
  refine ax (uP _ _) ?_
  repeat' first|refine go ?_|simp only [ab,hlt]|decide|refine sp ?_ ?_<;>intro _
  all_goals first|with_reducible exact rI wC ⟨k+1,false,by omega,(fun h=>by cases h),rfl⟩|skip
  refine ax hx ?_
  repeat' first|refine go ?_|simp only [ab,hlt]|decide|refine sp ?_ ?_<;>intro _
  exact rI wC ⟨k+1,x,by omega,(fun h=>(hI (by assumption)).s3 hlt ⟨by assumption,by assumption,hxp h⟩),rfl⟩
 obtain rfl:k=m.events.length:=by omega
 repeat' first|refine go ?_|simp only [ab,hlt]|decide|refine sp ?_ ?_<;>intro _
 clear hk hlt;refine ae (fun st=>∃ (k:Nat) (b:Bool),k<=m.guards.length /\ (b=true -> NM m m.roles.length m.stages.length m.events.length k 0 0) /\ st=⟨233,[(1,.op 0 0 0),(3,eB b),(10,eI (k:Int))],[(0,some (.box 32 (aQ m)))],1⟩) (fun st=>m.guards.length - ap st 10) ⟨_,wC,0,b,Vd _,hI,rfl⟩ ?_;clear hI b;rintro _ ⟨k,b,hk,hI,rfl⟩;by_cases hlt:k<m.guards.length
 .have hs:=hf.guards _ (Vg hlt)
  repeat' first|refine go ?_|simp only [ab,hlt]|decide|refine sp ?_ ?_<;>intro _
  all_goals first|with_reducible exact rI wC ⟨k+1,false,by omega,(fun h=>by cases h),rfl⟩|skip
  refine ax (uP _ _) ?_
  repeat' first|refine go ?_|simp only [ab,hlt]|decide|refine sp ?_ ?_<;>intro _
  all_goals first|with_reducible exact rI wC ⟨k+1,false,by omega,(fun h=>by cases h),rfl⟩|skip
  .refine mp (kG m m.guards[k].cond false (by omega)) fun x hx=>?_
   repeat' first|refine go ?_|simp only [ab,hlt]|decide|refine sp ?_ ?_<;>intro _
   exact rI wC ⟨k+1,x,by omega,(fun h=>(hI (by assumption)).s4 hlt ⟨by assumption,.inl (eq_of_beq (by assumption)),(hx h).1,fun i hi=>⟨((hx h).2 i hi).1,((hx h).2 i hi).2 rfl⟩⟩),rfl⟩
  .refine ax (uP _ _) ?_
   repeat' first|refine go ?_|simp only [ab,hlt]|decide|refine sp ?_ ?_<;>intro _
   all_goals first|with_reducible exact rI wC ⟨k+1,false,by omega,(fun h=>by cases h),rfl⟩|skip
   refine mp (kG m m.guards[k].cond false (by omega)) fun x hx=>?_
   repeat' first|refine go ?_|simp only [ab,hlt]|decide|refine sp ?_ ?_<;>intro _
   exact rI wC ⟨k+1,x,by omega,(fun h=>(hI (by assumption)).s4 hlt ⟨by assumption,.inr (by assumption),(hx h).1,fun i hi=>⟨((hx h).2 i hi).1,((hx h).2 i hi).2 rfl⟩⟩),rfl⟩
 obtain rfl:k=m.guards.length:=by omega
 repeat' first|refine go ?_|simp only [ab,hlt]|decide|refine sp ?_ ?_<;>intro _
 clear hk hlt;refine ae (fun st=>∃ (k:Nat) (b:Bool),k<=m.miles.length /\ (b=true -> NM m m.roles.length m.stages.length m.events.length m.guards.length k 0) /\ st=⟨233,[(1,.op 0 0 0),(3,eB b),(12,eI (k:Int))],[(0,some (.box 32 (aQ m)))],1⟩) (fun st=>m.miles.length - ap st 12) ⟨_,wC,0,b,Vd _,hI,rfl⟩ ?_;clear hI b;rintro _ ⟨k,b,hk,hI,rfl⟩;by_cases hlt:k<m.miles.length
 .have hs:=hf.miles _ (Vg hlt)
  repeat' first|refine go ?_|simp only [ab,hlt]|decide|refine sp ?_ ?_<;>intro _
  all_goals first|with_reducible exact rI wC ⟨k+1,false,by omega,(fun h=>by cases h),rfl⟩|skip
  refine ax (uP _ _) ?_
  repeat' first|refine go ?_|simp only [ab,hlt]|decide|refine sp ?_ ?_<;>intro _
  all_goals first|with_reducible exact rI wC ⟨k+1,false,by omega,(fun h=>by cases h),rfl⟩|skip
  .refine mp (kG m m.miles[k].cond false (by omega)) fun x hx=>?_
   repeat' first|refine go ?_|simp only [ab,hlt]|decide|refine sp ?_ ?_<;>intro _
   exact rI wC ⟨k+1,x,by omega,(fun h=>(hI (by assumption)).s5 hlt ⟨by assumption,.inl (eq_of_beq (by assumption)),(hx h).1,fun i hi=>⟨((hx h).2 i hi).1,((hx h).2 i hi).2 rfl⟩⟩),rfl⟩
  .refine ax (uP _ _) ?_
   repeat' first|refine go ?_|simp only [ab,hlt]|decide|refine sp ?_ ?_<;>intro _
   all_goals first|with_reducible exact rI wC ⟨k+1,false,by omega,(fun h=>by cases h),rfl⟩|skip
   refine mp (kG m m.miles[k].cond false (by omega)) fun x hx=>?_
   repeat' first|refine go ?_|simp only [ab,hlt]|decide|refine sp ?_ ?_<;>intro _
   exact rI wC ⟨k+1,x,by omega,(fun h=>(hI (by assumption)).s5 hlt ⟨by assumption,.inr (by assumption),(hx h).1,fun i hi=>⟨((hx h).2 i hi).1,((hx h).2 i hi).2 rfl⟩⟩),rfl⟩
 obtain rfl:k=m.miles.length:=by omega
 repeat' first|refine go ?_|simp only [ab,hlt]|decide|refine sp ?_ ?_<;>intro _
 clear hk hlt;refine ae (fun st=>∃ (k:Nat) (b:Bool),k<=m.sods.length /\ (b=true -> NM m m.roles.length m.stages.length m.events.length m.guards.length m.miles.length k) /\ st=⟨233,[(1,.op 0 0 0),(3,eB b),(14,eI (k:Int))],[(0,some (.box 32 (aQ m)))],1⟩) (fun st=>m.sods.length - ap st 14) ⟨_,wC,0,b,Vd _,hI,rfl⟩ ?_;clear hI b;rintro _ ⟨k,b,hk,hI,rfl⟩;by_cases hlt:k<m.sods.length
 .repeat' first|refine go ?_|simp only [ab,hlt]|decide|refine sp ?_ ?_<;>intro _
  refine aA (by kernel_rfl) ?_
  repeat' first|refine go ?_|simp only [ab,hlt]|decide|refine sp ?_ ?_<;>intro _
  all_goals first|with_reducible exact rI wC ⟨k+1,false,by omega,(fun h=>by cases h),rfl⟩|skip
  refine aL (uP _ _) ?_
  repeat' first|refine go ?_|simp only [ab,hlt]|decide|refine sp ?_ ?_<;>intro _
  all_goals first|with_reducible exact rI wC ⟨k+1,false,by omega,(fun h=>by cases h),rfl⟩|skip
  refine aL (uP _ _) ?_
  repeat' first|refine go ?_|simp only [ab,hlt]|decide|refine sp ?_ ?_<;>intro _
  all_goals first|with_reducible exact rI wC ⟨k+1,false,by omega,(fun h=>by cases h),rfl⟩|skip
  exact rI wC ⟨k+1,(m.sods[k].1 != m.sods[k].2),by omega,(fun h=>(hI (by assumption)).s6 hlt ⟨by assumption,by assumption,by simpa using h⟩),rfl⟩
 obtain rfl:k=m.sods.length:=by omega
 repeat' first|refine go ?_|simp only [ab,hlt]|decide|refine sp ?_ ?_<;>intro _
 exact cI ⟨_,rfl,fun h=>(hI h).named⟩
end
section
def RS (m:bl) (x:Bool × Int):Int:=if x.1=true then (m.miles[x.2.toNat]?.map (·.stage)).getD 0 else (m.guards[x.2.toNat]?.map (·.stage)).getD 0
end
section
theorem MD {m:bl} (hp:∀ p ∈ m.stages,aF p.2):∀ x ∈ gz m,aF x:=fun x hx=>by
 obtain ⟨p,hp',rfl⟩:=Vx.1 hx;exact hp p hp'
end
end
section
section
noncomputable def BL (m:bl) (x:ah) (y:Nat):Bool:=
 if x.op=9 then co m y == x.n || (!decide (y<m.guards.length) && decide (Nc (gz m) (co m y) x.n))
 else if x.op=10 then (if y<m.guards.length then decide (0<=x.n) && decide (x.n<(m.miles.length:Int)) && (RS m (true,x.n) == co m y) else ((y - m.guards.length:Nat):Int) == x.n) else false
theorem Ui (m:bl) (x:ah) (y:Nat) (hf:uX m) (hp:∀ p ∈ m.stages,aF p.2) (hy:y<m.guards.length+m.miles.length):aw Tryz.prog 109 [.agg (aQ m),.agg (cq x),eI (y:Int)] (val (.bool (BL m x y))):=by
 refine aa ag Tryz.func109 rfl (by decide) Tryz.ntmps109 Tryz.results109 rfl (aI _) ?_;obtain ⟨hg,hm,hst,-⟩:=id hf.sizes;obtain ⟨op,la,ln,ra,rn,n,u⟩:=x;have hpl:(gz m).length<=1073741824:=by simp [gz];omega
 by_cases h9:op=9
 .subst h9;have z1:((9:Int) == 9)=true:=rfl;have e0:BL m ⟨9,la,ln,ra,rn,n,u⟩ y=(co m y == n || (!decide (y<m.guards.length) && decide (Nc (gz m) (co m y) n))):=by simp [BL]
  rw [e0]
  repeat' first|refine ge z1 ?_|decide|refine sp ?_ ?_<;>intro _
  refine ay [] [0,1,3,4] (.exec 2 (.take 5 (.take 6 (.take 7 (.take 8 (.take 9 (.take 10 (.take 12 (.take 13 (.take 15 (.take 16 (.exec 11 (.exec 14 (.exec 17 (.take 18 (.take 19 (.exec 20 .done))))))))))))))))) (by kernel_rfl) (by simp) ?_
  repeat' first|refine go ?_|decide|refine sp ?_ ?_<;>intro _
  refine ax (kI m y hf hy) ?_;by_cases hs:co m y=n
  .have z2:(co m y == n)=true:=(by simp [hs]);rw [z2]
   repeat' first|refine ge z2 ?_|decide|refine sp ?_ ?_<;>intro _
   all_goals simp
  .have z2:(co m y == n)=false:=(by simp [hs]);rw [z2,Xv];by_cases hgd:y<m.guards.length
   .have z3:decide (y<m.guards.length)=true:=Vy hgd;rw [z3]
    repeat' first|refine ge (kf z2 z3) ?_|decide|refine sp ?_ ?_<;>intro _
    all_goals try simp
   .have z3:decide (y<m.guards.length)=false:=Vv hgd;rw [z3]
    repeat' first|refine ge (kf z2 z3) ?_|decide|refine sp ?_ ?_<;>intro _
    refine cd (oB m (by omega)) (.inr eC) ?_
    repeat' first|refine ge (kf z2 z3) ?_|decide|refine sp ?_ ?_<;>intro _
    refine ax (kI m y hf hy) ?_
    repeat' first|refine ge (kf z2 z3) ?_|decide|refine sp ?_ ?_<;>intro _
    refine ax (Pm (gz m) (co m y) n hpl (MD hp)) ?_
    repeat' first|refine ge (kf z2 z3) ?_|decide|refine sp ?_ ?_<;>intro _
    all_goals simp
 by_cases h10:op=10
 .subst h10;have z1:((10:Int) == 9)=false:=rfl;have z4:((10:Int) == 10)=true:=rfl;by_cases hgd:y<m.guards.length
  .have z3:decide (y<m.guards.length)=true:=Vy hgd;have e0:BL m ⟨10,la,ln,ra,rn,n,u⟩ y=(decide (0<=n) && decide (n<(m.miles.length:Int)) && (RS m (true,n) == co m y)):=(by simp [BL,hgd]);rw [e0];by_cases hn:0<=n /\ n<(m.miles.length:Int)
   .obtain ⟨j,rfl⟩:∃ j:Nat,n=(j:Int):=⟨n.toNat,by omega⟩;have hj:j<m.miles.length:=(by omega)
    repeat' first|refine ge (kf z1 (kf z3 z4)) ?_|decide|refine sp ?_ ?_<;>intro _
    refine aA (by kernel_rfl) ?_
    repeat' first|refine go ?_|simp only [z4,ab,hj]|decide|refine sp ?_ ?_<;>intro _
    refine aL (kI m y hf hy) ?_
    repeat' first|refine go ?_|simp only [z4,ab,hj]|decide|refine sp ?_ ?_<;>intro _
    simp [RS,hj]
   .have hn2:decide (0<=n)=false \/ decide (n<(m.miles.length:Int))=false:=by
     rcases Int.lt_or_le n 0 with h|h
     .left;simp;omega
     .right;simp;omega
    rcases hn2 with hn2|hn2
    .rw [hn2]
     repeat' first|refine ge (kf z1 (kf z3 z4)) ?_|decide|refine sp ?_ ?_<;>intro _
     refine aA (by kernel_rfl) ?_
     repeat' first|refine ge (kf z4 hn2) ?_|decide|refine sp ?_ ?_<;>intro _
     all_goals simp
    .rw [hn2]
     repeat' first|refine ge (kf z1 (kf z3 z4)) ?_|decide|refine sp ?_ ?_<;>intro _
     refine aA (by kernel_rfl) ?_
     repeat' first|refine ge (kf z4 hn2) ?_|decide|refine sp ?_ ?_<;>intro _
     all_goals simp
  .have z3:decide (y<m.guards.length)=false:=Vv hgd;have e0:BL m ⟨10,la,ln,ra,rn,n,u⟩ y=(((y - m.guards.length:Nat):Int) == n):=(by simp [BL,hgd]);rw [e0];have ew:IntKind.i64.wrap ((y:Int) - (m.guards.length:Int))=((y - m.guards.length:Nat):Int):=by rw [aB (by omega) (by omega)];omega
   repeat' first|refine ge (kf z1 (kf z3 (kf z4 ew))) ?_|decide|refine sp ?_ ?_<;>intro _
 .have z1:(op == 9)=false:=by simp [h9]
  have z4:(op == 10)=false:=by simp [h10]
  have e0:BL m ⟨op,la,ln,ra,rn,n,u⟩ y=false:=by simp [BL,h9,h10]
  rw [e0]
  repeat' first|refine ge (kf z1 z4) ?_|decide|refine sp ?_ ?_<;>intro _
  all_goals
   refine aA (by kernel_rfl) ?_
   repeat' first|refine ge (kf z1 z4) ?_|decide|refine sp ?_ ?_<;>intro _
noncomputable def jW (m:bl) (x y:Nat):Bool:=((kV m x).any fun i=>BL m i y) || (decide (y<m.guards.length) && (if x<m.guards.length then decide (0<=co m x) && decide (co m x<(m.stages.length:Int)) && ((m.stages[(co m x).toNat]?.map (·.2)).getD 0 == co m y) else co m x == co m y))
theorem uJ {α:Type} (l:List α) (p:α -> Bool) {k:Nat} (h:k<l.length):(l.take (k+1)).any p=((l.take k).any p || p l[k]):=by
 rw [Vi h,List.any_append];simp
theorem LH (m:bl) (x y:Nat) (hf:uX m) (hp:∀ p ∈ m.stages,aF p.2) (hx:x<m.guards.length+m.miles.length) (hy:y<m.guards.length+m.miles.length):aw Tryz.prog 68 [.agg (aQ m),eI (x:Int),eI (y:Int)] (val (.bool (jW m x y))):=by
 refine aa ag Tryz.func68 rfl (by decide) Tryz.ntmps68 Tryz.results68 rfl (aI _) ?_;obtain ⟨hg,hm,-⟩:=id hf.sizes
 repeat' first|refine go ?_|decide|refine sp ?_ ?_<;>intro _
 refine bJ (PK m x hf hx) (ro) ?_;have hcl:=B6 m hf x;obtain ⟨l,hl⟩:∃ l,l=kV m x:=⟨_,rfl⟩;obtain ⟨w,hw⟩:∃ w,w=jW m x y:=⟨_,rfl⟩;have hwd:jW m x y=(l.any (fun i=>BL m i y) || (decide (y<m.guards.length) && (if x<m.guards.length then decide (0<=co m x) && decide (co m x<(m.stages.length:Int)) && ((m.stages[(co m x).toNat]?.map (·.2)).getD 0 == co m y) else co m x == co m y))):=by rw [hl];rfl
 rw [<- hl] at hcl ⊢;rw [<- hw] at hwd ⊢
 repeat' first|refine go ?_|decide|refine sp ?_ ?_<;>intro _
 refine ae (fun st=>∃ (k:Nat),(k<=l.length /\ (l.take k).any (fun i=>BL m i y)=false) /\ st=⟨65,[(1,eI (x:Int)),(2,eI (y:Int)),(3,.op 0 0 0),(7,aX l),(8,eI (k:Int))],[(0,some (.box 32 (aQ m)))],1⟩) (fun st=>l.length - ap st 8) ⟨_,wC,0,⟨Vd _,rfl⟩,rfl⟩ ?_;rintro _ ⟨k,⟨hk,hI⟩,rfl⟩;by_cases hlt:k<l.length
 .repeat' first|refine go ?_|simp only [ab,hlt]|decide|refine sp ?_ ?_<;>intro _
  refine ay [] [0,1,2,3,4,5] (.exec 6 .done) (by kernel_rfl) (by simp) ?_
  repeat' first|refine go ?_|simp only [ab,hlt]|decide|refine sp ?_ ?_<;>intro _
  refine ax (Ui m l[k] y hf hp hy) ?_;have hst:=uJ l (fun i=>BL m i y) hlt
  cases hb:BL m l[k] y with
  | true=>
   have hwt:w=true:=by
    have:l.any (fun i=>BL m i y)=true:=XD.2 ⟨_,Vg hlt,hb⟩;rw [hwd,this,Bool.true_or]
   rw [hwt]
   repeat' first|refine go ?_|simp only [ab,hlt]|decide|refine sp ?_ ?_<;>intro _
  | false=>
   repeat' first|refine go ?_|simp only [ab,hlt]|decide|refine sp ?_ ?_<;>intro _
   exact rI wC ⟨k+1,⟨by omega,by rw [hst,hI,hb];rfl⟩,rfl⟩
 .obtain rfl:k=l.length:=by omega
  rw [Vq] at hI;rw [hI,Xv] at hwd;by_cases hgd:y<m.guards.length
  .have z3:decide (y<m.guards.length)=true:=Vy hgd;rw [z3,VX] at hwd;have z3n:decide (m.guards.length<=y)=false:=Vv (by omega);by_cases hxg:x<m.guards.length
   .have z5:decide (m.guards.length<=x)=false:=Vv (by omega);rw [Vo hxg] at hwd
    repeat' first|refine ge (kf @hlt (kf @z3n z5)) ?_|decide|refine sp ?_ ?_<;>intro _
    refine ax (kI m x hf hx) ?_;generalize co m x=sx at *
    repeat' first|refine ge z5 ?_|decide|refine sp ?_ ?_<;>intro _
    by_cases hn:0<=sx /\ sx<(m.stages.length:Int)
    .obtain ⟨j,rfl⟩:∃ j:Nat,sx=(j:Int):=⟨sx.toNat,by omega⟩;have hj:j<m.stages.length:=(by omega);have hwe:w=(m.stages[j].2 == co m y):=by rw [hwd];simp [hj]
     rw [hwe];refine aA (by kernel_rfl) ?_
     repeat' first|refine go ?_|simp only [ab,hj]|decide|refine sp ?_ ?_<;>intro _
     refine aL (kI m y hf hy) ?_
     repeat' first|refine go ?_|simp only [ab,hj]|decide|refine sp ?_ ?_<;>intro _
    .have hn2:decide (0<=sx)=false \/ (decide (0<=sx)=true /\ decide (sx<(m.stages.length:Int))=false):=by
      rcases Int.lt_or_le sx 0 with h|h
      .left;simp;omega
      .right;exact ⟨Vy h,by simp;omega⟩
     rcases hn2 with hn2|⟨hn1,hn2⟩
     .rw [hn2,VY,VY] at hwd;rw [hwd];refine aA (by kernel_rfl) ?_
      repeat' first|refine ge hn2 ?_|decide|refine sp ?_ ?_<;>intro _
     .rw [hn1,hn2,VX,VY] at hwd;rw [hwd];refine aA (by kernel_rfl) ?_
      repeat' first|refine ge (kf hn1 hn2) ?_|decide|refine sp ?_ ?_<;>intro _
   .have z5:decide (m.guards.length<=x)=true:=Vy (by omega);rw [Vj hxg] at hwd;rw [hwd]
    repeat' first|refine ge (kf @hlt (kf @z3n z5)) ?_|decide|refine sp ?_ ?_<;>intro _
    refine ax (kI m x hf hx) ?_
    repeat' first|refine ge z5 ?_|decide|refine sp ?_ ?_<;>intro _
    refine ax (kI m y hf hy) ?_
    repeat' first|refine go ?_|decide|refine sp ?_ ?_<;>intro _
  .have z3:decide (y<m.guards.length)=false:=Vv hgd;rw [z3,VY] at hwd;rw [hwd];have z3n:decide (m.guards.length<=y)=true:=Vy (by omega)
   repeat' first|refine ge (kf @hlt @z3n) ?_|decide|refine sp ?_ ?_<;>intro _
end
section
abbrev Gc (m:bl):Nat:=m.guards.length+m.miles.length
def zS (m:bl) (js:List Nat) (i:Nat):Prop:=i ∉ js /\ ∀ k,k<Gc m -> k ∈ js \/ jW m i k=false
structure KO (m:bl) (js:List Nat) (i:Nat):Prop where
 lt:i<Gc m
 free:zS m js i
 first:∀ i',i'<i -> ¬ zS m js i'
def pR (m:bl) (js:List Nat):Prop:=∀ j (h:j<js.length),KO m (js.take j) js[j]
theorem yR {m:bl} {js:List Nat} {i:Nat} (h:pR m js) (hi:KO m js i):pR m (js ++ [i]):=fun j hj=>by
 rw [Vk,Vz] at hj;rcases Vw j js.length with h3|h3
 .rw [Wj (by omega),W7 h3];exact h j h3
 .obtain rfl:j=js.length:=by omega
  rw [Wj (by omega),Vq,Xk (by omega)];simpa using hi
theorem xz {bs:List Bool} {js:List Nat} {n j:Nat} (hb:∀ i (h:i<bs.length),bs[i]=decide (i ∈ js)):∀ i (h:i<(bs.set j true).length),(bs.set j true)[i]=decide (i ∈ js ++ [j]):=fun i h=>by
 rw [List.getElem_set];split
 .rename_i e;subst e;simp
 .rename_i e;rw [hb];simp [Ne.symm e]
theorem LE (m:bl) (hf:uX m) (hp:∀ p ∈ m.stages,aF p.2):dQ Tryz.prog 31 [.agg (aQ m)] fun R=>(∃ js:List Nat,R=⟨.tup [.osl 0,eI 0],[(0,some (.row 151 2 ((js.map (n6 m)).map yA)))],1⟩ /\ js.length=Gc m /\ pR m js) \/ R=⟨.tup [.c (.slice none 0 0),eI 10],[],0⟩:=by
 refine bj ag Tryz.func31 rfl (by decide) Tryz.ntmps31 Tryz.results31 rfl ?_;obtain ⟨hg,hm,-⟩:=id hf.sizes
 repeat' first|refine go ?_|decide|refine sp ?_ ?_<;>intro _
 refine ax (Ol m hf) ?_;obtain ⟨n,hn⟩:∃ n,n=m.guards.length+m.miles.length:=⟨_,rfl⟩;have hnS:Gc m=n:=hn.symm;rw [<- hn]
 repeat' first|refine go ?_|decide|refine sp ?_ ?_<;>intro _
 refine ⟨by omega,?_⟩;refine ae (fun st=>∃ (bs:List Bool) (js:List Nat),(bs.length=n /\ js.length<=n /\ (∀ i (h:i<bs.length),bs[i]=decide (i ∈ js)) /\ pR m js) /\ st=⟨66,[(1,.op 0 0 0),(4,eI (n:Int)),(5,.osl 1),(6,.osl 2)],[(0,some (.box 32 (aQ m))),(1,some (.row 4 1 (bs.map fun b=>[eB b]))),(2,some (.row 151 2 ((js.map (n6 m)).map yA)))],3⟩) (fun st=>n - xX st 2) ⟨_,((be 6 151 2 (by simp only [iz,aj.get,bb,aj.put,↓reduceIte,reduceCtorEq,Nat.reduceLT,Nat.reduceEqDiff,Nat.reduceAdd,Nat.reduceLeDiff,eq_self,implies_true,VL,List.map_replicate])).trans (wS [0,1,2] @List.map_replicate.{0,0})),List.replicate n false,[],⟨by simp,Vd _,fun i h=>by simp,fun j h=>by simp at h⟩,rfl⟩ ?_;rintro _ ⟨bs,js,⟨hbs,ho,hbd,hgr⟩,rfl⟩;have hol:(js.map (n6 m)).length=js.length:=Vp ..;by_cases hlt:js.length<n
 .repeat' first|refine ge (kf @hlt @hol) ?_|decide|refine sp ?_ ?_<;>intro _
  refine ae (fun st=>∃ (i:Nat) (v:Int),(i<=n /\ ((v<0 /\ ∀ i',i'<i -> ¬ zS m js i') \/ ∃ j:Nat,v=(j:Int) /\ KO m js j)) /\ st=⟨66,[(1,.op 0 0 0),(4,eI (n:Int)),(5,.osl 1),(6,.osl 2),(7,eI v),(8,eI (i:Int))],[(0,some (.box 32 (aQ m))),(1,some (.row 4 1 (bs.map fun b=>[eB b]))),(2,some (.row 151 2 ((js.map (n6 m)).map yA)))],3⟩) (fun st=>n - ap st 8) ⟨_,wC,0,-1,⟨Vd _,.inl ⟨by omega,fun i' h=>absurd h (by omega)⟩⟩,rfl⟩ ?_;rintro _ ⟨i,v,⟨hi,hv⟩,rfl⟩;rcases hv with ⟨hv0,hno⟩|⟨j,rfl,hnx⟩
  .by_cases hlt2:i<n
   .have hib:i<bs.length:=by omega
    repeat' first|refine go ?_|simp only [ab,hlt2,hv0,hib]|decide|refine sp ?_ ?_<;>intro _
    refine ae (fun st=>∃ (k:Nat) (f:Bool),(k<=n /\ (f=true ↔ i ∉ js /\ ∀ k',k'<k -> k' ∈ js \/ jW m i k'=false)) /\ st=⟨66,[(1,.op 0 0 0),(4,eI (n:Int)),(5,.osl 1),(6,.osl 2),(7,eI v),(8,eI (i:Int)),(9,eB f),(10,eI (k:Int))],[(0,some (.box 32 (aQ m))),(1,some (.row 4 1 (bs.map fun b=>[eB b]))),(2,some (.row 151 2 ((js.map (n6 m)).map yA)))],3⟩) (fun st=>n - ap st 10) ⟨_,wC,0,!bs[i],⟨Vd _,by rw [hbd];simp⟩,rfl⟩ ?_;rintro _ ⟨k,f,⟨hk,hF⟩,rfl⟩;by_cases hlt3:k<n
    .have hkb:k<bs.length:=by omega
     have hstep:∀ b:Bool,(b=true ↔ (k ∈ js \/ jW m i k=false)) -> ((f && b)=true ↔ i ∉ js /\ ∀ k',k'<k+1 -> k' ∈ js \/ jW m i k'=false):=fun b hb=>by
      rw [VB,hF,hb];constructor
      .rintro ⟨⟨h1,h2⟩,h3⟩;refine ⟨h1,fun k' h4=>?_⟩;rcases Vw k' k with h5|h5
       .exact h2 k' h5
       .obtain rfl:k'=k:=by omega
        exact h3
      .rintro ⟨h1,h2⟩;exact ⟨⟨h1,fun k' h4=>h2 k' (by omega)⟩,h2 k (by omega)⟩
     have hW:=LH m i k hf hp (by omega) (by omega)
     cases f with
     | false=>
      repeat' first|refine go ?_|simp only [ab,hlt3,hkb]|decide|refine sp ?_ ?_<;>intro _
      exact rI wC ⟨k+1,false,⟨by omega,hstep (decide (k ∈ js \/ jW m i k=false)) (by simp)⟩,rfl⟩
     | true=>
      cases hbk:bs[k] with
      | true=>
       have hmem:k ∈ js:=by
        have:=hbd k hkb;rw [hbk] at this;exact of_decide_eq_true this.symm
       repeat' first|refine go ?_|simp only [ab,hlt3,hkb,hbk]|decide|refine sp ?_ ?_<;>intro _
       exact rI wC ⟨k+1,true,⟨by omega,hstep true (by simp [hmem])⟩,rfl⟩
      | false=>
       have hmem:k ∉ js:=by
        have:=hbd k hkb;rw [hbk] at this;exact of_decide_eq_false this.symm
       repeat' first|refine go ?_|simp only [ab,hlt3,hkb,hbk]|decide|refine sp ?_ ?_<;>intro _
       refine ax hW ?_;have hs2:=hstep (!jW m i k) (by simp [hmem]);rw [VX] at hs2
       repeat' first|refine go ?_|simp only [ab,hkb]|decide|refine sp ?_ ?_<;>intro _
       exact rI wC ⟨k+1,!jW m i k,⟨by omega,hs2⟩,rfl⟩
    .obtain rfl:k=n:=by omega
     have hFr:f=true ↔ zS m js i:=by
      rw [hF];unfold zS;rw [hnS]
     cases f with
     | true=>
      repeat' first|refine go ?_|simp only [ab,hlt3]|decide|refine sp ?_ ?_<;>intro _
      exact rI wC ⟨i+1,(i:Int),⟨by omega,.inr ⟨i,rfl,⟨by omega,hFr.1 rfl,hno⟩⟩⟩,rfl⟩
     | false=>
      repeat' first|refine go ?_|simp only [ab,hlt3]|decide|refine sp ?_ ?_<;>intro _
      refine rI wC ⟨i+1,v,⟨by omega,.inl ⟨hv0,fun i' h=>?_⟩⟩,rfl⟩;rcases Vw i' i with h5|h5
      .exact hno i' h5
      .obtain rfl:i'=i:=by omega
       exact fun h6=>by have:=hFr.2 h6;cases this
   .repeat' first|refine ge (kf @hlt2 hv0) ?_|decide|refine sp ?_ ?_<;>intro _
    exact ⟨_,.inr rfl,⟨fun id o h=>(by cases h),trivial,trivial,trivial⟩,aV (by simp [AV.ren,AV.renL])⟩
  .have hjn:j<n:=by have:=hnx.lt;omega
   have hjb:j<bs.length:=(by omega);have hj0:decide ((j:Int)<0)=false:=(by simp);have et:((js ++ [j]).map (n6 m)).map yA=(js.map (n6 m)).map yA ++ [yA (n6 m j)]:=by rw [VI,VI];rfl
   have hset:(bs.map fun b=>[eB b]).set j [eB true]=(bs.set j true).map fun b=>[eB b]:=(by rw [W8]);have hnew:(bs.set j true).length=n /\ (js ++ [j]).length<=n /\ (∀ i (h:i<(bs.set j true).length),(bs.set j true)[i]=decide (i ∈ js ++ [j])) /\ pR m (js ++ [j]):=⟨by simp [hbs],by simp;omega,xz (n:=n) hbd,yR hgr hnx⟩;by_cases hi2:i<n
   .repeat' first|refine go ?_|simp only [hi2,hj0,ab,hjb,Int.reduceToNat]|decide|refine sp ?_ ?_<;>intro _
    refine bJ (PF m j hf (by omega)) (ro) ?_
    repeat' first|refine go ?_|simp only [ab,hjb]|decide|refine sp ?_ ?_<;>intro _
    refine ⟨rfl,by omega,cZ (wS [0,1,4] (kf @hset et)) ⟨bs.set j true,js ++ [j],hnew,rfl⟩ (by simp [xX,af.gc];omega)⟩
   .repeat' first|refine go ?_|simp only [hi2,hj0,ab,hjb,Int.reduceToNat]|decide|refine sp ?_ ?_<;>intro _
    refine bJ (PF m j hf (by omega)) (ro) ?_
    repeat' first|refine go ?_|simp only [ab,hjb]|decide|refine sp ?_ ?_<;>intro _
    refine ⟨rfl,by omega,cZ (wS [0,1,4] (kf @hset et)) ⟨bs.set j true,js ++ [j],hnew,rfl⟩ (by simp [xX,af.gc];omega)⟩
 .repeat' first|refine ge (kf @hlt @hol) ?_|decide|refine sp ?_ ?_<;>intro _
  refine ⟨_,.inl ⟨js,rfl,by omega,hgr⟩,⟨fun id o h=>?_,XL,trivial,trivial⟩,⟨[2],by simp,rfl,⟨XL,⟨_,_,_,rfl⟩,by simp [af.gc]⟩,trivial⟩⟩;simp only [af.gc] at h;split at h
  .rename_i e;cases h;subst e;exact ⟨XL,trivial⟩
  .cases h
end
section
theorem Hk (a b:List (Bool × Int)) (ha:a.length<=1000000) (hb:b.length<=1000000):dQ Tryz.prog 32 [.sl 2 (a.map yA),.sl 2 (b.map yA)] fun R=>∃ r,R=val (.bool r) /\ (r=true -> a=b):=by
 refine bj ag Tryz.func32 rfl (by decide) Tryz.ntmps32 Tryz.results32 rfl ?_
 repeat' first|refine go ?_|decide|refine sp ?_ ?_<;>intro _
 .exact cI ⟨false,rfl,fun h=>by cases h⟩
 .rename_i hl;have hl:a.length=b.length:=by simp at hl;omega
  refine ae (fun st=>∃ (k:Nat),(k<=a.length /\ ∀ i (h:i<a.length) (h2:i<b.length),i<k -> a[i]=b[i]) /\ st=⟨26,[(0,.sl 2 (a.map yA)),(1,.sl 2 (b.map yA)),(5,eI (k:Int))],[],0⟩) (fun st=>a.length - ap st 5) ⟨_,wC,0,⟨Vd _,fun i h h2 h3=>absurd h3 (by omega)⟩,rfl⟩ ?_;rintro _ ⟨k,⟨hk,hI⟩,rfl⟩;by_cases hlt:k<a.length
  .have hlt2:k<b.length:=by omega
   repeat' first|refine go ?_|simp only [ab,hlt,hlt2]|decide|refine sp ?_ ?_<;>intro _
   refine aA (by kernel_rfl) ?_
   repeat' first|refine go ?_|simp only [ab,hlt,hlt2]|decide|refine sp ?_ ?_<;>intro _
   refine ⟨_,Gh .neq (.inr rfl) a[k] b[k],?_⟩
   repeat' first|refine go ?_|decide|refine sp ?_ ?_<;>intro _
   all_goals first|with_reducible exact cI ⟨false,rfl,fun h=>by cases h⟩|skip
   rename_i hne;refine rI wC ⟨k+1,⟨by omega,fun i h h2 h3=>?_⟩,rfl⟩;rcases Vw i k with h5|h5
   .exact hI i h h2 h5
   .obtain rfl:i=k:=by omega
    simp at hne;exact Prod.ext hne.1 hne.2
  .repeat' first|refine go ?_|simp only [ab,hlt]|decide|refine sp ?_ ?_<;>intro _
   exact cI ⟨true,rfl,fun _=>XA hl fun i h1 h2=>hI i h1 h2 (by omega)⟩
structure Ju (m:bl):Prop where
 chk:U8 m
 named:C9 m
 writes:o8 m.events
 sum:lG m.events<=4
 consts:(i8 m []).length<=6
 order:∃ js:List Nat,m.order=js.map (n6 m) /\ js.length=Gc m /\ pR m js
theorem DN (m:bl) (hf:uX m) (hp:∀ p ∈ m.stages,aF p.2):dQ Tryz.prog 18 [.agg (aQ m)] fun R=>∃ b,R=val (.bool b) /\ (b=true -> Ju m):=by
 refine bj ag Tryz.func18 rfl (by decide) Tryz.ntmps18 Tryz.results18 rfl ?_;obtain ⟨hg,hm,hst,hev,hat,hus,hro,hso,hor,-⟩:=id hf.sizes;have hpl:(gz m).length<=1073741824:=by simp [gz];omega
 have hpo:∀ x ∈ gz m,aF x:=fun x hx=>by
  obtain ⟨p,hp',rfl⟩:=Vx.1 hx;exact hp p hp'
 repeat' first|refine go ?_|decide|refine sp ?_ ?_<;>intro _
 all_goals first|with_reducible exact cI ⟨false,rfl,fun h=>by cases h⟩|skip
 refine mp (Il m hf) fun b hnm=>?_
 repeat' first|refine go ?_|decide|refine sp ?_ ?_<;>intro _
 all_goals first|with_reducible exact cI ⟨false,rfl,fun h=>by cases h⟩|skip
 rename_i hbn;have hbn:b=true:=by simpa using hbn
 have hnm:=hnm hbn;refine tQ (Hw m.events (by omega) hf.events) ?_;rintro _ ⟨n,rfl,hwr⟩;refine ⟨.inr ⟨trivial,trivial⟩,?_⟩;simp only [val,AV.shift,af.shift,VL,WW]
 repeat' first|refine go ?_|decide|refine sp ?_ ?_<;>intro _
 all_goals first|with_reducible exact cI ⟨false,rfl,fun h=>by cases h⟩|skip
 refine cd (oB m (by omega)) (.inr eC) ?_
 repeat' first|refine go ?_|decide|refine sp ?_ ?_<;>intro _
 refine ax (Kd (gz m) hpl hpo) ?_
 repeat' first|refine go ?_|decide|refine sp ?_ ?_<;>intro _
 all_goals first|with_reducible exact cI ⟨false,rfl,fun h=>by cases h⟩|skip
 have chk:U8 m:=by refine ⟨?_,?_,?_,?_,?_,?_,?_,?_,?_,?_⟩<;>(simp only [VA,bne_eq_false_iff_eq] at *;omega)
 have hwr2:n=lG m.events /\ o8 m.events:=hwr.resolve_left (by simp only [VA,bne_eq_false_iff_eq] at *;omega);have hn4:n<=4:=by simp only [VA,bne_eq_false_iff_eq] at *;omega
 refine bJ ((J7 m [] (by simp) hg hm hf.guards hf.miles).fits (args:=[.agg (aQ m),.c (.slice none 0 0)]) ⟨.one (.refl _),.one (.nil 7),trivial⟩) (ro) ?_
 repeat' first|refine go ?_|decide|refine sp ?_ ?_<;>intro _
 all_goals first|with_reducible exact cI ⟨false,rfl,fun h=>by cases h⟩|skip
 rename_i hc6;have hc6:(i8 m []).length<=6:=by simp only [VA] at hc6;omega
 refine tQ (LE m hf hp) fun R hR=>?_;rcases hR with ⟨js,rfl,hjl,hgr⟩|rfl
 .have e0:((0:Int) == 0)=true:=by decide
  refine ⟨.inr ⟨⟨trivial,trivial,trivial⟩,AD,trivial⟩,?_⟩;simp only [AV.shift,AV.shiftL,af.shift,aD.shift]
  repeat' first|refine ge e0 ?_|decide|refine sp ?_ ?_<;>intro _
  refine mp (Hk (js.map (n6 m)) m.order (by rw [Vp,hjl];unfold Gc;omega) (by omega)) fun x hx=>?_
  repeat' first|refine go ?_|decide|refine sp ?_ ?_<;>intro _
  exact cI ⟨_,rfl,fun h=>⟨chk,hnm,hwr2.2,by rw [<- hwr2.1];exact hn4,hc6,js,(hx h).symm,hjl,hgr⟩⟩
 .have e0:((10:Int) == 0)=false:=by decide
  refine ⟨.inr ⟨⟨trivial,trivial,trivial⟩,trivial⟩,?_⟩;simp only [AV.shift,AV.shiftL,af.shift,aD.shift]
  repeat' first|refine ge e0 ?_|decide|refine sp ?_ ?_<;>intro _
  exact cI ⟨false,rfl,fun h=>by cases h⟩
end
end
end Go.Proofs.YtmmoidfcfjklaaaGreat
