/-
  Parts of the proof: Dgqp27, Dgqp28, Dgqp29.
-/
import Derived.Test.YtiaiihjmmfakdaaGreatDoorDgqq7
import Derived.Test.YtiaiihjmmfakdaaGreatDoorTie
import Derived.Test.YtiaiihjmmfakdaaGreatDoorCards
import Derived.LaidMore
import Derived.OpenShut
import Derived.Stop.Joined
import Derived.SevenTiedAt
set_option linter.unusedVariables false
set_option linter.unusedSimpArgs false
set_option linter.defProp false
set_option maxRecDepth 100000
set_option maxHeartbeats 16000000
namespace Go.Proofs.YtiaiihjmmfakdaaGreatDoor
open Go.RowKit
section
section
theorem B5 (m:aR) (c:List Int) (z:Zn) (hc:∀ n ∈ c,aq n) (hcl:c.length<=1000000) (hm:∀ s ∈ m.attrs,s.size<=60) (hat:∀ x ∈ z.cls,-9223372036854775808<=x.attrs /\ x.attrs<=9223372036854775807) (hz:z.cls.length<=1000000) (hgl:z.gaps.length<=1000000) (hg:∀ n ∈ z.gaps,aq n) (hB:(kj m (aP c) z).length<=140737488340000):aw Tryz.prog 112 [.agg (aM m),sI c,.agg (bW z)] (val (.string (fw (kj m (aP c) z)))):=by
 have hS:=aw.still [0] (jx c (by omega)) (r:=sI (aP c)) (by simp [ce.frzs,ce.frz,gi,aa.gc,AV.frz]) (by simp [AV.lt]);have hsc:∀ n ∈ aP c,aq n:=fun x hx=>hc x (((dJ c).2 x).1 hx);have hscl:(aP c).length<=1000000:=Lf (cW c) hcl;obtain ⟨sc,hsc'⟩:∃ s,s=aP c:=⟨_,rfl⟩;rw [<- hsc'] at hS hsc hscl hB ⊢;obtain ⟨F,hF⟩:∃ F,F=pB m sc z:=⟨_,rfl⟩;have hT:kj m sc z=aG F z.cls.length:=by rw [hF];rfl
 rw [hT] at hB ⊢;have hj0:fw (aG F 0)=⟨#[]⟩:=rfl;refine ab ah Tryz.func112 rfl (by decide) Tryz.ntmps112 Tryz.results112 rfl (aU _) ?_
 repeat' first|refine go ?_|decide|refine sp ?_ ?_<;>intro _
 refine dU hS (ro) ?_
 repeat' first|refine go ?_|decide|refine sp ?_ ?_<;>intro _
 refine af (fun st=>∃ k:Nat,k<=z.cls.length /\ st=⟨51,[(3,.op 0 0 0),(5,.op 1 0 0),(7,sI sc),(8,.c (.string (fw (aG F k)))),(9,eI (k:Int))],[(0,some (.box 32 (aM m))),(1,some (.box 60 (bW z)))],2⟩) (fun st=>z.cls.length - ap st 9) ⟨_,(wE hj0),0,KR _,rfl⟩ ?_;rintro _ ⟨k,hk,rfl⟩;by_cases hlt:k<z.cls.length
 .obtain ⟨x,hx⟩:∃ x,x=z.cls[k]:=⟨_,rfl⟩;have hrx:(z.cls.map bR)[k]?.getD []=bR x:=by rw [hx];simp [hlt]
  have hxa:=hat x (by rw [hx];exact KQ _);have hC:=yH m sc x hsc hscl hm hxa.1 hxa.2;have hFk:F k=kR z k ++ fF m sc x:=by rw [hF,hx];simp [pB,KP,hlt]
  have hst:=ca F hlt;have hsu:=bJ F k;rw [hFk,f4] at hst;rw [hFk] at hsu;obtain ⟨t,ht⟩:∃ t,t=fF m sc x:=⟨_,rfl⟩;rw [<- ht] at hC hst hsu;by_cases h0:k=0
  .have d0:decide ((0:Int)<(k:Int))=false:=K0 (by omega);have d1:¬ 0<k:=(by omega);have hg0:kR z k=[]:=K5 h0;rw [hg0,LT] at hsu;have e1:=aV hsu.symm (by rw [hsu,f4];omega)
   repeat' first|refine gf (kf @hlt (kf @hrx (kf d0 (kf d1 e1)))) ?_|decide|refine sp ?_ ?_<;>intro _|refine cA hC ?_|fail
   all_goals exact rI wC ⟨k+1,by omega,rfl⟩
  .have d0:decide ((0:Int)<(k:Int))=true:=K4 (by omega);have d1:0<k:=(by omega);have hwk:IntKind.i64.wrap ((k:Int) - 1)=((k - 1:Nat):Int):=by rw [ay (by omega) (by omega)];omega
   have f1:(⟨#[32,60]⟩:ByteArray)=fw [32,60]:=rfl;have f2:(⟨#[63]⟩:ByteArray)=fw [63]:=rfl;have f3:(⟨#[32]⟩:ByteArray)=fw [32]:=rfl;by_cases h1:z.gaps.length<k
   .have hg0:kR z k=[32,60,63,32]:=by unfold kR;rw [KY h0,K5 h1]
    have d2:¬ k - 1<z.gaps.length:=(by omega);rw [hg0] at hst hsu;simp only [KU,K3] at hst;rw [<- KZ] at hsu;have e1:=aV (a:=[32,60]) (b:=[63]) (c:=[32,60,63]) rfl (by simp);have e2:=aV (a:=[32,60,63]) (b:=[32]) (c:=[32,60,63,32]) rfl (by simp);have e3:=aV (a:=aG F k) (b:=[32,60,63,32]) (c:=aG F k ++ [32,60,63,32]) rfl (by rw [f4];simp;omega);have e4:=aV hsu.symm (by rw [hsu,f4,f4];simp;omega)
    repeat' first|refine gf (kf @hlt (kf @hrx (kf @hwk (kf d0 (kf d1 (kf d2 (kf f1 (kf f2 (kf f3 (kf e1 (kf e2 (kf e3 e4)))))))))))) ?_|decide|refine sp ?_ ?_<;>intro _|refine cA hC ?_|fail
    all_goals exact rI wC ⟨k+1,by omega,rfl⟩
   .obtain ⟨g,hgx⟩:∃ g,g=z.gaps[k - 1]'(by omega):=⟨_,rfl⟩;have d2:k - 1<z.gaps.length:=(by omega);have hrg:(z.gaps.map fun n=>[eI n])[k - 1]?.getD []=[eI g]:=by rw [hgx];simp [d2]
    have hgo:aq g:=by rw [hgx];exact hg _ (KQ _)
    have hP:=gP g hgo;have hil:=fX hgo;have hg0:kR z k=[32,60] ++ Lib.itoa g ++ [32]:=by unfold kR;rw [KY h0,KY h1,hgx,KP,KN (by omega)];rfl
    obtain ⟨g1,hg1⟩:∃ y,y=[32,60] ++ Lib.itoa g:=⟨_,rfl⟩;obtain ⟨g2,hg2⟩:∃ y,y=g1 ++ [32]:=⟨_,rfl⟩;obtain ⟨g3,hg3⟩:∃ y,y=aG F k ++ g2:=⟨_,rfl⟩;have l1:g1.length=2+(Lib.itoa g).length:=by rw [hg1,f4];rfl
    have l2:g2.length=g1.length+1:=by rw [hg2,f4];rfl
    have l3:g3.length=(aG F k).length+g2.length:=(by rw [hg3,f4]);rw [hg0,<- hg1,<- hg2] at hst hsu;rw [<- KZ,<- hg3] at hsu;have e1:=aV hg1.symm (by omega);have e2:=aV hg2.symm (by omega);have e3:=aV hg3.symm (by omega);have e4:=aV hsu.symm (by rw [hsu,f4];omega)
    repeat' first|refine gf (kf @hlt (kf @hrx (kf @hwk (kf d0 (kf d1 (kf d2 (kf @hrg (kf f1 (kf f3 (kf e1 (kf e2 (kf e3 e4)))))))))))) ?_|decide|refine sp ?_ ?_<;>intro _|refine cA hC ?_|refine cA hP ?_|fail
    all_goals exact rI wC ⟨k+1,by omega,rfl⟩
 .obtain rfl:k=z.cls.length:=by omega
  repeat' first|refine gf @hlt ?_|decide|refine sp ?_ ?_<;>intro _
end
section
theorem ne (g:Nat -> List UInt8) (l:List Nat):aG (fun k=>g (l.getD k 0)) l.length=l.flatMap g:=by
 have key:∀ n,n<=l.length -> aG (fun k=>g (l.getD k 0)) n=(l.take n).flatMap g:=fun n=>by
  induction n with
  | zero=>intro _;rfl
  | succ n ih=>
   intro h;rw [bJ,ih (by omega),KX (by omega),LW,List.flatMap_singleton];simp [KP,show n<l.length by omega]
 rw [key _ (KW _),K7]
def fB (g:Nat -> List UInt8) (s:Int) (k:Nat):List UInt8:=(cr s k).flatMap g
theorem qY (g:Nat -> List UInt8) (s:Int):fB g s 0=[]:=rfl
theorem kl (g:Nat -> List UInt8) {s:Int} {k:Nat} (h:aW s (k:Int)=true):fB g s (k+1)=fB g s k ++ g k:=by
 unfold fB;rw [kN,K5 h,LW,List.flatMap_singleton]
theorem jh (g:Nat -> List UInt8) {s:Int} {k:Nat} (h:aW s (k:Int)=false):fB g s (k+1)=fB g s k:=by
 unfold fB;rw [kN,KY (by rw [h];simp)]
theorem mU (g:Nat -> List UInt8) (s:Int) {a b:Nat} (h:a<=b):(fB g s a).length<=(fB g s b).length:=by
 induction b with
 | zero=>rw [show a=0 by omega];exact KW _
 | succ b ih=>
  by_cases hab:a=b+1
  .rw [hab];exact KW _
  .have:=ih (by omega)
   cases hb:aW s (b:Int) with
   | true=>rw [kl g hb,f4];omega
   | false=>rw [jh g hb];exact this
def JB (p:List UInt8) (w:List ByteArray) (i:Nat):List UInt8:=p ++ (aC w (i:Int)).data.toList
def G7 (m:aR) (e i:Nat):List UInt8:=[32,100,105,100,32] ++ (aC m.users (i:Int)).data.toList ++ [32] ++ (aC (fj m) (e:Int)).data.toList
theorem AK (m:aR) (n:Nd):qw m n=fB (JB [32,111,112,101,110,32] (jG m)) n.opn 31:=ne (JB [32,111,112,101,110,32] (jG m)) (cr n.opn 31)
theorem CO (m:aR) (n:Nd):rh m n=fB (JB [32,100,111,110,101,32] (jq m)) n.don 31:=ne (JB [32,100,111,110,101,32] (jq m)) (cr n.don 31)
theorem AQ (m:aR) (l:List Int) (e:Nat):ri m l e=fB (G7 m e) (l.getD e 0) 31:=ne (G7 m e) (cr (l.getD e 0) 31)
def n6 (x:Int):Prop:=-9223372036854775808<=x /\ x<=9223372036854775807
theorem Bi (m:aR) (c:List Int) (n:Nd) (hc:∀ n ∈ c,aq n) (hcl:c.length<=1000000) (hm:∀ s ∈ m.attrs,s.size<=60) (hst:m.stages.length<=1000000) (hmi:m.miles.length<=1000000) (hev:m.events.length<=1000000) (hn:Jv n) (hgl:n.z.gaps.length<=1000000) (hat:∀ x ∈ n.z.cls,n6 x.attrs) (ho:n6 n.opn) (hd:n6 n.don) (hdi:∀ x ∈ n.did,n6 x) (hB:(cK m (aP c) n).length<=140737488330000):aw Tryz.prog 67 [.agg (aM m),sI c,.agg (dX n)] (val (.string (fw (cK m (aP c) n)))):=by
 obtain ⟨TA,hTA⟩:∃ T,T=qw m n:=⟨_,rfl⟩;obtain ⟨TB,hTB⟩:∃ T,T=rh m n:=⟨_,rfl⟩;obtain ⟨TC,hTC⟩:∃ T,T=Dt m n:=⟨_,rfl⟩;obtain ⟨TD,hTD⟩:∃ T,T=AR m n:=⟨_,rfl⟩;obtain ⟨TZ,hTZ⟩:∃ T,T=kj m (aP c) n.z:=⟨_,rfl⟩;have hT:cK m (aP c) n=TA ++ TB ++ TC ++ TD ++ [32,122,111,110,101,32] ++ TZ:=by rw [hTA,hTB,hTC,hTD,hTZ];rfl
 rw [hT] at hB ⊢;simp only [f4,KU,K3] at hB;have hZ:=B5 m c n.z hc hcl hm hat hn.cls hgl hn.gaps (by rw [<- hTZ];omega);rw [<- hTZ] at hZ;have hSt:=EY m hst;have hMi:=EW m hmi;have hEv:=yk m hev;have f32:(⟨#[32]⟩:ByteArray)=fw [32]:=rfl;have fo:(⟨#[32,111,112,101,110,32]⟩:ByteArray)=fw [32,111,112,101,110,32]:=rfl;have fd:(⟨#[32,100,111,110,101,32]⟩:ByteArray)=fw [32,100,111,110,101,32]:=rfl;have fi:(⟨#[32,100,105,100,32]⟩:ByteArray)=fw [32,100,105,100,32]:=rfl;have fc:(⟨#[32,99,111,117,110,116,32]⟩:ByteArray)=fw [32,99,111,117,110,116,32]:=rfl;have fz:(⟨#[32,122,111,110,101,32]⟩:ByteArray)=fw [32,122,111,110,101,32]:=rfl;refine ab ah Tryz.func67 rfl (by decide) Tryz.ntmps67 Tryz.results67 rfl (aU _) ?_
 repeat' first|refine go ?_|decide|refine sp ?_ ?_<;>intro _
 obtain ⟨gA,hgA⟩:∃ g,g=JB [32,111,112,101,110,32] (jG m):=⟨_,rfl⟩;have hEA:TA=fB gA n.opn 31:=by rw [hTA,hgA];exact AK m n
 have hj0:fw []=⟨#[]⟩:=rfl;have hSA:fB gA n.opn 0=[]:=by rfl
 refine af (fun st=>∃ k:Nat,k<=31 /\ st=⟨110,[(1,sI c),(3,.op 0 0 0),(5,.op 1 0 0),(7,.c (.string (fw (fB gA n.opn k)))),(8,eI (k:Int))],[(0,some (.box 32 (aM m))),(1,some (.box 62 (dX n)))],2⟩) (fun st=>31 - ap st 8) ⟨_,(wE (kf @hSA hj0)),0,KR _,rfl⟩ ?_;rintro _ ⟨k,hk,rfl⟩;by_cases hlt:k<31
 .have d0:decide ((k:Int)<31)=true:=K4 (by omega);have hH:=kF n.opn (k:Int) ho.1 ho.2
  cases hb:aW n.opn (k:Int) with
  | true=>
   rw [hb] at hH;have hs:=kl gA hb;have hmo:=mU gA n.opn (show k+1<=31 by omega);rw [<- hEA] at hmo;have hW:=jS (jG m) (k:Int);obtain ⟨w,hw⟩:∃ w,w=(aC (jG m) (k:Int)).data.toList:=⟨_,rfl⟩;have hw3:aC (jG m) (k:Int)=fw w:=(by rw [hw,kk]);rw [hw3] at hW;have hgk:[32,111,112,101,110,32] ++ w=gA k:=by rw [hgA,hw];rfl
   obtain ⟨g1,hg1⟩:∃ y,y=gA k:=⟨_,rfl⟩;rw [<- hg1] at hgk hs;have hls:=congrArg List.length hs;rw [f4] at hls;have hs2:fB gA n.opn k ++ g1=fB gA n.opn (k+1):=(by rw [hs]);have e1:=aV hgk (by omega);have e2:=aV hs2 (by first|omega|(simp only [f4];omega))
   repeat' first|refine gf (kf d0 (kf fo (kf e1 e2))) ?_|decide|refine sp ?_ ?_<;>intro _|refine cA hH ?_|refine cA hSt ?_|refine cA hW ?_|fail
   all_goals first|exact rI wC ⟨k+1,by omega,rfl⟩|trace_state
  | false=>
   rw [hb] at hH;have hs:=jh gA hb
   repeat' first|refine gf d0 ?_|decide|refine sp ?_ ?_<;>intro _|refine cA hH ?_|fail
   all_goals first|exact rI (wE hs) ⟨k+1,by omega,rfl⟩|trace_state
 obtain rfl:k=31:=by omega
 have d0:decide (((31:Nat):Int)<31)=false:=rfl;rw [<- hEA];clear hSA hEA hgA hlt
 repeat' first|refine ge d0 ?_|decide|refine sp ?_ ?_<;>intro _
 clear d0;obtain ⟨gB,hgB⟩:∃ g,g=JB [32,100,111,110,101,32] (jq m):=⟨_,rfl⟩;have hEB:TB=fB gB n.don 31:=by rw [hTB,hgB];exact CO m n
 have hSB:TA ++ fB gB n.don 0=TA:=by rw [qY,Ln]
 refine af (fun st=>∃ k:Nat,k<=31 /\ st=⟨110,[(1,sI c),(3,.op 0 0 0),(5,.op 1 0 0),(7,.c (.string (fw (TA ++ fB gB n.don k)))),(9,eI (k:Int))],[(0,some (.box 32 (aM m))),(1,some (.box 62 (dX n)))],2⟩) (fun st=>31 - ap st 9) ⟨_,(wE @hSB),0,KR _,rfl⟩ ?_;rintro _ ⟨k,hk,rfl⟩;by_cases hlt:k<31
 .have d0:decide ((k:Int)<31)=true:=K4 (by omega);have hH:=kF n.don (k:Int) hd.1 hd.2
  cases hb:aW n.don (k:Int) with
  | true=>
   rw [hb] at hH;have hs:=kl gB hb;have hmo:=mU gB n.don (show k+1<=31 by omega);rw [<- hEB] at hmo;have hW:=jS (jq m) (k:Int);obtain ⟨w,hw⟩:∃ w,w=(aC (jq m) (k:Int)).data.toList:=⟨_,rfl⟩;have hw3:aC (jq m) (k:Int)=fw w:=(by rw [hw,kk]);rw [hw3] at hW;have hgk:[32,100,111,110,101,32] ++ w=gB k:=by rw [hgB,hw];rfl
   obtain ⟨g1,hg1⟩:∃ y,y=gB k:=⟨_,rfl⟩;rw [<- hg1] at hgk hs;have hls:=congrArg List.length hs;rw [f4] at hls;have hs2:TA ++ fB gB n.don k ++ g1=TA ++ fB gB n.don (k+1):=by rw [hs];simp only [KZ]
   have e1:=aV hgk (by omega);have e2:=aV hs2 (by first|omega|(simp only [f4];omega))
   repeat' first|refine gf (kf d0 (kf fd (kf e1 e2))) ?_|decide|refine sp ?_ ?_<;>intro _|refine cA hH ?_|refine cA hMi ?_|refine cA hW ?_|fail
   all_goals first|exact rI wC ⟨k+1,by omega,rfl⟩|trace_state
  | false=>
   rw [hb] at hH;have hs:=jh gB hb
   repeat' first|refine gf d0 ?_|decide|refine sp ?_ ?_<;>intro _|refine cA hH ?_|fail
   all_goals first|exact rI (wE hs) ⟨k+1,by omega,rfl⟩|trace_state
 obtain rfl:k=31:=by omega
 have d0:decide (((31:Nat):Int)<31)=false:=rfl;rw [<- hEB];clear hSB hEB hgB hlt
 repeat' first|refine ge d0 ?_|decide|refine sp ?_ ?_<;>intro _
 clear d0;obtain ⟨FC,hFC⟩:∃ F,F=ri m n.did:=⟨_,rfl⟩;have hzC:TA ++ TB ++ aG FC 0=TA ++ TB:=by rw [cZ,Ln]
 have heC:TC=aG FC n.did.length:=by rw [hFC];exact hTC
 have hnd:=hn.did;refine af (fun st=>∃ e:Nat,e<=n.did.length /\ st=⟨110,[(1,sI c),(3,.op 0 0 0),(5,.op 1 0 0),(7,.c (.string (fw (TA ++ TB ++ aG FC e)))),(10,eI (e:Int))],[(0,some (.box 32 (aM m))),(1,some (.box 62 (dX n)))],2⟩) (fun st=>n.did.length - ap st 10) ⟨_,(wE @hzC),0,KR _,rfl⟩ ?_;rintro _ ⟨e,he,rfl⟩;by_cases hlt:e<n.did.length
 .obtain ⟨s,hs⟩:∃ s,s=n.did[e]:=⟨_,rfl⟩;have hrs:(n.did.map fun n=>[eI n])[e]?.getD []=[eI s]:=by rw [hs];simp [hlt]
  have hsi:=hdi s (by rw [hs];exact KQ _);obtain ⟨gD,hgD⟩:∃ g,g=G7 m e:=⟨_,rfl⟩;have hFe:FC e=fB gD s 31:=by rw [hFC,AQ,hgD,hs];simp [KP,hlt]
  have hst:=ca FC hlt;have hsu:=bJ FC e;rw [<- heC,hFe] at hst;rw [hFe] at hsu;have hzG:TA ++ TB ++ aG FC e ++ fB gD s 0=TA ++ TB ++ aG FC e:=by rw [qY,Ln]
  have eC:TA ++ TB ++ aG FC e ++ fB gD s 31=TA ++ TB ++ aG FC (e+1):=by rw [hsu,KZ (TA ++ TB)]
  obtain ⟨X,hX⟩:∃ X,X=TA ++ TB ++ aG FC e:=⟨_,rfl⟩;have hXl:X.length=TA.length+TB.length+(aG FC e).length:=by rw [hX];simp only [f4]
  rw [<- hX] at hzG eC ⊢
  repeat' first|refine ge (kf @hlt @hrs) ?_|decide|refine sp ?_ ?_<;>intro _
  refine af (fun st=>∃ u:Nat,u<=31 /\ st=⟨110,[(1,sI c),(3,.op 0 0 0),(5,.op 1 0 0),(7,.c (.string (fw (X ++ fB gD s u)))),(10,eI (e:Int)),(11,eI (u:Int))],[(0,some (.box 32 (aM m))),(1,some (.box 62 (dX n)))],2⟩) (fun st=>31 - ap st 11) ⟨_,(wE @hzG),0,KR _,rfl⟩ ?_;rintro _ ⟨u,hu,rfl⟩;by_cases hlu:u<31
  .have d0:decide ((u:Int)<31)=true:=K4 (by omega);have hH:=kF s (u:Int) hsi.1 hsi.2
   cases hb:aW s (u:Int) with
   | true=>
    rw [hb] at hH;have hs0:=kl gD hb;have hmo:=mU gD s (show u+1<=31 by omega);have hU:=jS m.users (u:Int);have hW:=jS (fj m) (e:Int);obtain ⟨w,hw⟩:∃ w,w=(aC m.users (u:Int)).data.toList:=⟨_,rfl⟩;obtain ⟨v,hv⟩:∃ w,w=(aC (fj m) (e:Int)).data.toList:=⟨_,rfl⟩;have hw3:aC m.users (u:Int)=fw w:=(by rw [hw,kk]);have hv3:aC (fj m) (e:Int)=fw v:=(by rw [hv,kk]);rw [hw3] at hU;rw [hv3] at hW;obtain ⟨a1,ha1⟩:∃ y,y=[32,100,105,100,32] ++ w:=⟨_,rfl⟩;obtain ⟨a2,ha2⟩:∃ y,y=a1 ++ [32]:=⟨_,rfl⟩;obtain ⟨g1,hg1⟩:∃ y,y=gD u:=⟨_,rfl⟩;have hg2:a2 ++ v=g1:=by rw [ha2,ha1,hg1,hgD,hw,hv];rfl
    have l1:a2.length=a1.length+1:=by rw [ha2,f4];rfl
    have l2:=congrArg List.length hg2;rw [f4] at l2;rw [<- hg1] at hs0;have hls:=congrArg List.length hs0;rw [f4] at hls;have hs2:X ++ fB gD s u ++ g1=X ++ fB gD s (u+1):=by rw [hs0];simp only [KZ]
    have e1:=aV ha1.symm (by omega);have e2:=aV ha2.symm (by omega);have e3:=aV hg2 (by omega);have e4:=aV hs2 (by first|omega|(simp only [f4];omega))
    repeat' first|refine ge (kf d0 (kf @hlt @hrs)) ?_|decide|refine sp ?_ ?_<;>intro _
    refine aA hH ?_
    repeat' first|refine ge (kf fi (kf f32 (kf e1 (kf e2 (kf e3 e4))))) ?_|decide|refine sp ?_ ?_<;>intro _
    refine aB [] [0,1,2,3,7,9] (.exec 4 (.take 5 (.take 6 (.exec 8 (.exec 10 (.take 11 (.take 12 (.exec 13 .done)))))))) (by kernel_rfl) (by simp [aa.gc]) ?_
    repeat' first|refine ge (kf fi (kf f32 (kf e1 (kf e2 (kf e3 e4))))) ?_|decide|refine sp ?_ ?_<;>intro _
    refine aA hU ?_
    repeat' first|refine ge (kf fi (kf f32 (kf e1 (kf e2 (kf e3 e4))))) ?_|decide|refine sp ?_ ?_<;>intro _
    refine dU hEv (ro) ?_
    repeat' first|refine ge (kf fi (kf f32 (kf e1 (kf e2 (kf e3 e4))))) ?_|decide|refine sp ?_ ?_<;>intro _
    refine aA hW ?_
    repeat' first|refine ge (kf fi (kf f32 (kf e1 (kf e2 (kf e3 e4))))) ?_|decide|refine sp ?_ ?_<;>intro _
    all_goals first|exact rI wC ⟨u+1,by omega,rfl⟩|trace_state
   | false=>
    rw [hb] at hH;have hs0:=jh gD hb
    repeat' first|refine ge (kf d0 (kf @hlt @hrs)) ?_|decide|refine sp ?_ ?_<;>intro _
    refine aA hH ?_
    repeat' first|refine go ?_|decide|refine sp ?_ ?_<;>intro _
    all_goals first|exact rI (wE hs0) ⟨u+1,by omega,rfl⟩|trace_state
  .obtain rfl:u=31:=by omega
   have d0:decide (((31:Nat):Int)<31)=false:=rfl;rw [eC]
   repeat' first|refine ge d0 ?_|decide|refine sp ?_ ?_<;>intro _
   all_goals first|exact rI wC ⟨e+1,by omega,rfl⟩|trace_state
 obtain rfl:e=n.did.length:=by omega
 rw [<- heC]
 repeat' first|refine ge @hlt ?_|decide|refine sp ?_ ?_<;>intro _
 clear hzC heC hFC hlt;obtain ⟨FD,hFD⟩:∃ F,F=uE m n.cnt:=⟨_,rfl⟩;have hzD:TA ++ TB ++ TC ++ aG FD 0=TA ++ TB ++ TC:=by rw [cZ,Ln]
 have heD:TD=aG FD n.cnt.length:=by rw [hFD];exact hTD
 have hnc:=hn.cnt;refine af (fun st=>∃ e:Nat,e<=n.cnt.length /\ st=⟨110,[(1,sI c),(3,.op 0 0 0),(5,.op 1 0 0),(7,.c (.string (fw (TA ++ TB ++ TC ++ aG FD e)))),(12,eI (e:Int))],[(0,some (.box 32 (aM m))),(1,some (.box 62 (dX n)))],2⟩) (fun st=>n.cnt.length - ap st 12) ⟨_,(wE @hzD),0,KR _,rfl⟩ ?_;rintro _ ⟨e,he,rfl⟩;by_cases hlt:e<n.cnt.length
 .obtain ⟨x,hx⟩:∃ x,x=n.cnt[e]:=⟨_,rfl⟩;have hrx:(n.cnt.map fun n=>[eI n])[e]?.getD []=[eI x]:=by rw [hx];simp [hlt]
  have hxo:aq x:=by rw [hx];exact hn.cok _ (KQ _)
  have hxd:n.cnt.getD e 0=x:=by rw [hx];simp [KP,hlt]
  have hst:=ca FD hlt;have hsu:=bJ FD e;rw [<- heD] at hst;by_cases h0:x=0
  .have hFk:FD e=[]:=by rw [hFD];unfold uE;rw [K5 (by rw [hxd];exact h0)]
   have d0:(x != 0)=false:=(by simpa using h0);have eB:aG FD e=aG FD (e+1):=(by rw [hsu,hFk,Ln])
   repeat' first|refine ge (kf @hlt (kf @hrx d0)) ?_|decide|refine sp ?_ ?_<;>intro _
   all_goals first|exact rI (wE eB) ⟨e+1,by omega,rfl⟩|trace_state
  .have hFk:FD e=[32,99,111,117,110,116,32] ++ (aC (fj m) (e:Int)).data.toList ++ [32] ++ Lib.itoa x:=by rw [hFD];unfold uE;rw [KY (by rw [hxd];exact h0),hxd]
   have d0:(x != 0)=true:=(by simpa using h0);have hW:=jS (fj m) (e:Int);have hP:=gP x hxo;obtain ⟨v,hv⟩:∃ w,w=(aC (fj m) (e:Int)).data.toList:=⟨_,rfl⟩;have hv3:aC (fj m) (e:Int)=fw v:=(by rw [hv,kk]);rw [hv3] at hW;obtain ⟨a1,ha1⟩:∃ y,y=[32,99,111,117,110,116,32] ++ v:=⟨_,rfl⟩;obtain ⟨a2,ha2⟩:∃ y,y=a1 ++ [32]:=⟨_,rfl⟩;obtain ⟨g1,hg1⟩:∃ y,y=FD e:=⟨_,rfl⟩;have hg2:a2 ++ Lib.itoa x=g1:=(by rw [ha2,ha1,hg1,hFk,hv]);have l1:a2.length=a1.length+1:=by rw [ha2,f4];rfl
   have l2:=congrArg List.length hg2;rw [f4] at l2;rw [<- hg1] at hsu hst;have hs2:TA ++ TB ++ TC ++ aG FD e ++ g1=TA ++ TB ++ TC ++ aG FD (e+1):=by rw [hsu];simp only [KZ]
   have hmo:=qC FD (show e+1<=n.cnt.length by omega);rw [<- heD] at hmo;have e1:=aV ha1.symm (by omega);have e2:=aV ha2.symm (by omega);have e3:=aV hg2 (by omega);have e4:=aV hs2 (by first|omega|(simp only [f4];omega))
   repeat' first|refine ge (kf @hlt (kf @hrx d0)) ?_|decide|refine sp ?_ ?_<;>intro _
   refine aB [] [0,1,3,7,8,9,10,11] (.exec 2 (.exec 4 (.take 5 (.take 6 (.exec 12 (.take 13 (.take 14 (.exec 15 .done)))))))) (by kernel_rfl) (by simp [aa.gc]) ?_
   repeat' first|refine ge (kf @hlt (kf @hrx (kf fc (kf f32 (kf e1 (kf e2 (kf e3 e4))))))) ?_|decide|refine sp ?_ ?_<;>intro _
   refine dU hEv (ro) ?_
   repeat' first|refine ge (kf fc (kf f32 (kf e1 (kf e2 (kf e3 e4))))) ?_|decide|refine sp ?_ ?_<;>intro _
   refine aA hW ?_
   repeat' first|refine ge (kf fc (kf f32 (kf e1 (kf e2 (kf e3 (kf e4 (kf @hlt @hrx))))))) ?_|decide|refine sp ?_ ?_<;>intro _
   refine aA hP ?_
   repeat' first|refine ge (kf fc (kf f32 (kf e1 (kf e2 (kf e3 e4))))) ?_|decide|refine sp ?_ ?_<;>intro _
   all_goals first|exact rI wC ⟨e+1,by omega,rfl⟩|trace_state
 obtain rfl:e=n.cnt.length:=by omega
 rw [<- heD];obtain ⟨Y,hY⟩:∃ Y,Y=TA ++ TB ++ TC ++ TD ++ [32,122,111,110,101,32]:=⟨_,rfl⟩;have lY:=congrArg List.length hY;simp only [f4,KU,K3] at lY;have e1:=aV hY.symm (by omega);rw [<- hY];have e2:=aV (a:=Y) (b:=TZ) rfl (by rw [f4];omega)
 repeat' first|refine ge (kf @hlt (kf fz e1)) ?_|decide|refine sp ?_ ?_<;>intro _
 refine aA hZ ?_
 repeat' first|refine ge e2 ?_|decide|refine sp ?_ ?_<;>intro _
end
section
structure Ks (n:Nd):Prop where
 gl:n.z.gaps.length<=1000000
 at_:∀ x ∈ n.z.cls,n6 x.attrs
 o:n6 n.opn
 d:n6 n.don
 di:∀ x ∈ n.did,n6 x
theorem zB (m:aR) (c:List Int) (N:List Nd) (E:List (List pp)) (hc:∀ n ∈ c,aq n) (hcl:c.length<=1000000) (hm:∀ s ∈ m.attrs,s.size<=60) (hst:m.stages.length<=1000000) (hmi:m.miles.length<=1000000) (hev:m.events.length<=1000000) (hN:∀ n ∈ N,Jv n) (hNu:∀ n ∈ N,Ks n) (hNl:N.length<=1000000) (hEl:E.length=N.length) (hE:∀ r ∈ E,r.length<=1000000) (hEd:∀ r ∈ E,∀ e ∈ r,aq e.dst) (hB:(gK m (aP c) N E).length<=140737488300000):aw Tryz.prog 21 [.agg (aM m),sI c,.agg [.sl 6 (N.map dX),.sl 1 (jC E)]] (val (.string (fw (gK m (aP c) N E)))):=by
 obtain ⟨G,hG⟩:∃ G,G=qi m (aP c) N E:=⟨_,rfl⟩;have hGT:gK m (aP c) N E=aG G N.length:=by rw [hG];rfl
 rw [hGT] at hB ⊢;have hEv:=yk m hev;have f10:(⟨#[10]⟩:ByteArray)=fw [10]:=rfl;have fn:(⟨#[110,111,100,101,32]⟩:ByteArray)=fw [110,111,100,101,32]:=rfl;have fi:(⟨#[105,100,108,101,32,116,111,32]⟩:ByteArray)=fw [105,100,108,101,32,116,111,32]:=rfl;have fb:(⟨#[32,98,121,32]⟩:ByteArray)=fw [32,98,121,32]:=rfl;have ft:(⟨#[32,116,111,32]⟩:ByteArray)=fw [32,116,111,32]:=rfl;have hj0:fw (aG G 0)=⟨#[]⟩:=rfl;refine ab ah Tryz.func21 rfl (by decide) Tryz.ntmps21 Tryz.results21 rfl (aU _) ?_
 repeat' first|refine go ?_|decide|refine sp ?_ ?_<;>intro _
 refine af (fun st=>∃ i:Nat,i<=N.length /\ st=⟨89,[(1,sI c),(3,.op 0 0 0),(5,.op 1 0 0),(7,.c (.string (fw (aG G i)))),(8,eI (i:Int))],[(0,some (.box 32 (aM m))),(1,some (.box 44 [.sl 6 (N.map dX),.sl 1 (jC E)]))],2⟩) (fun st=>N.length - ap st 8) ⟨_,(wE hj0),0,KR _,rfl⟩ ?_;rintro _ ⟨i,hi,rfl⟩;by_cases hlt:i<N.length
 .obtain ⟨n,hn⟩:∃ n,n=N[i]:=⟨_,rfl⟩;have hrn:(N.map dX)[i]?.getD []=dX n:=by rw [hn];simp [hlt]
  obtain ⟨r,hr⟩:∃ r,r=E[i]'(by omega):=⟨_,rfl⟩;have hrr:(jC E)[i]?.getD []=[.sl 3 (r.map vq)]:=by rw [hr];simp [show i<E.length by omega]
  have hrE:r ∈ E:=by rw [hr];exact KQ _
  have hrl:r.length<=1000000:=hE r hrE;have hnT:Jv n:=by rw [hn];exact hN _ (KQ _)
  have hnU:Ks n:=by rw [hn];exact hNu _ (KQ _)
  have hiE:i<E.length:=by omega
  obtain ⟨F,hF⟩:∃ F:Nat -> List UInt8,F=fun k=>jZ m (r.getD k ⟨0,0,0⟩):=⟨_,rfl⟩;obtain ⟨tn,htn⟩:∃ t,t=cK m (aP c) n:=⟨_,rfl⟩
  have hGi:G i=[110,111,100,101,32] ++ Lib.itoa (i:Int) ++ tn ++ [10] ++ aG F r.length:=by
   rw [hG,hF,htn,hn,hr];simp [qi,KP,hlt,show i<E.length by omega]
  have hst2:=ca G hlt;have hsu:=bJ G i;obtain ⟨a1,ha1⟩:∃ y,y=[110,111,100,101,32] ++ Lib.itoa (i:Int):=⟨_,rfl⟩;obtain ⟨a2,ha2⟩:∃ y,y=a1 ++ tn:=⟨_,rfl⟩;obtain ⟨a3,ha3⟩:∃ y,y=a2 ++ [10]:=⟨_,rfl⟩;obtain ⟨Y,hY⟩:∃ y,y=aG G i ++ a3:=⟨_,rfl⟩;rw [hGi,<- ha1,<- ha2,<- ha3] at hst2 hsu;have eY:Y ++ aG F r.length=aG G (i+1):=by rw [hsu,hY,KZ]
  have l2:=congrArg List.length ha2;have l3:=congrArg List.length ha3;have l4:=congrArg List.length hY;rw [f4] at l2 l3 l4 hst2;rw [Lo] at l3;have hNo:=Bi m c n hc hcl hm hst hmi hev hnT hnU.gl hnU.at_ hnU.o hnU.d hnU.di (by rw [<- htn];omega);rw [<- htn] at hNo;have hP:=gP (i:Int) (by unfold aq;omega);have e1:=aV ha1.symm (by omega);have e2:=aV ha2.symm (by omega);have e3:=aV ha3.symm (by omega);have e4:=aV hY.symm (by omega)
  repeat' first|refine ge (kf @hlt @hrn) ?_|decide|refine sp ?_ ?_<;>intro _
  refine aB [] [0,1,4,5,6,7,8,9,10] (.exec 2 (.take 3 (.exec 11 (.take 12 (.take 13 (.take 14 (.exec 15 .done))))))) (by kernel_rfl) (by simp [aa.gc]) ?_
  repeat' first|refine ge (kf @hlt (kf @hrn (kf fn (kf f10 (kf e1 (kf e2 (kf e3 e4))))))) ?_|decide|refine sp ?_ ?_<;>intro _
  refine aA hP ?_
  repeat' first|refine ge (kf @hlt (kf @hrn (kf fn (kf f10 (kf e1 (kf e2 (kf e3 e4))))))) ?_|decide|refine sp ?_ ?_<;>intro _
  refine aA hNo ?_
  repeat' first|refine ge (kf @hlt (kf @hrn (kf fn (kf f10 (kf e1 (kf e2 (kf e3 e4))))))) ?_|decide|refine sp ?_ ?_<;>intro _
  have hz0:Y ++ aG F 0=Y:=by rw [cZ,Ln]
  refine af (fun st=>∃ q:Nat,q<=r.length /\ st=⟨89,[(1,sI c),(3,.op 0 0 0),(5,.op 1 0 0),(7,.c (.string (fw (Y ++ aG F q)))),(8,eI (i:Int)),(9,eI (q:Int))],[(0,some (.box 32 (aM m))),(1,some (.box 44 [.sl 6 (N.map dX),.sl 1 (jC E)]))],2⟩) (fun st=>r.length - ap st 9) ⟨_,(wE hz0),0,KR _,rfl⟩ ?_;rintro _ ⟨q,hq,rfl⟩;by_cases hlq:q<r.length
  .obtain ⟨e,he⟩:∃ e,e=r[q]:=⟨_,rfl⟩;have hre:(r.map vq)[q]?.getD []=vq e:=by rw [he];simp [hlq]
   have hed:aq e.dst:=by rw [he];exact hEd r hrE _ (KQ _)
   have hPd:=gP e.dst hed;have hFq:F q=qx m e ++ Lib.itoa e.dst ++ [10]:=by rw [hF,he];simp [jZ,KP,hlq]
   have hst3:=ca F hlq;have hsu3:=bJ F q;obtain ⟨b1,hb1⟩:∃ y,y=qx m e:=⟨_,rfl⟩;obtain ⟨b2,hb2⟩:∃ y,y=b1 ++ Lib.itoa e.dst:=⟨_,rfl⟩;obtain ⟨b3,hb3⟩:∃ y,y=b2 ++ [10]:=⟨_,rfl⟩;rw [hFq,<- hb1,<- hb2,<- hb3] at hst3 hsu3;have m2:=congrArg List.length hb2;have m3:=congrArg List.length hb3;rw [f4] at m2 m3;rw [Lo] at m3;have eZ:Y ++ aG F q ++ b3=Y ++ aG F (q+1):=(by rw [hsu3,KZ]);have g1:=aV hb2.symm (by omega);have g2:=aV hb3.symm (by omega);have g3:=aV eZ (by rw [<- eZ,f4,f4];omega);by_cases h1:e.ev = -1
   .have d1:(e.ev == -1)=true:=(by simpa using h1);have hb4:[105,100,108,101,32,116,111,32]=b1:=by rw [hb1];exact (K5 h1).symm
    have fi2:(⟨#[105,100,108,101,32,116,111,32]⟩:ByteArray)=fw b1:=by rw [<- hb4];rfl
    repeat' first|refine ge (kf @hlt (kf @hiE (kf @hrr (kf @hlq (kf @hre d1))))) ?_|decide|refine sp ?_ ?_<;>intro _
    refine aA hPd ?_
    repeat' first|refine ge (kf fi2 (kf f10 (kf g1 (kf g2 g3)))) ?_|decide|refine sp ?_ ?_<;>intro _
    all_goals first|exact rI wC ⟨q+1,by omega,rfl⟩|trace_state
   .have d1:(e.ev == -1)=false:=(by simpa using h1);have hb4:b1=(aC (fj m) e.ev).data.toList ++ [32,98,121,32] ++ (aC m.users e.us).data.toList ++ [32,116,111,32]:=by rw [hb1];exact KY h1
    have hW:=jS (fj m) e.ev;have hU:=jS m.users e.us;obtain ⟨w,hw⟩:∃ w,w=(aC m.users e.us).data.toList:=⟨_,rfl⟩;obtain ⟨v,hv⟩:∃ w,w=(aC (fj m) e.ev).data.toList:=⟨_,rfl⟩;have hw3:aC m.users e.us=fw w:=(by rw [hw,kk]);have hv3:aC (fj m) e.ev=fw v:=(by rw [hv,kk]);rw [hw3] at hU;rw [hv3] at hW;rw [<- hw,<- hv] at hb4;obtain ⟨c1,hc1⟩:∃ y,y=v ++ [32,98,121,32]:=⟨_,rfl⟩;obtain ⟨c2,hc2⟩:∃ y,y=c1 ++ w:=⟨_,rfl⟩;have hc3:c2 ++ [32,116,111,32]=b1:=(by rw [hb4,hc2,hc1]);have n2:=congrArg List.length hc2;have n3:=congrArg List.length hc3;rw [f4] at n2 n3;have k1:=aV hc1.symm (by omega);have k2:=aV hc2.symm (by omega);have k3:=aV hc3 (by omega)
    repeat' first|refine ge (kf @hlt (kf @hiE (kf @hrr (kf @hlq (kf @hre d1))))) ?_|decide|refine sp ?_ ?_<;>intro _
    refine aB [] [0,1,3,4,7,8,9,10,14,15] (.exec 2 (.exec 5 (.take 6 (.exec 11 (.take 12 (.take 13 (.exec 16 (.take 17 (.take 18 (.take 19 (.exec 20 .done))))))))))) (by kernel_rfl) (by simp [aa.gc]) ?_
    repeat' first|refine ge (kf fb (kf ft (kf f10 (kf k1 (kf k2 (kf k3 (kf g1 (kf g2 g3)))))))) ?_|decide|refine sp ?_ ?_<;>intro _
    refine dU hEv (ro) ?_
    repeat' first|refine ge (kf fb (kf ft (kf f10 (kf k1 (kf k2 (kf k3 (kf g1 (kf g2 g3)))))))) ?_|decide|refine sp ?_ ?_<;>intro _
    refine aA hW ?_
    repeat' first|refine ge (kf fb (kf ft (kf f10 (kf k1 (kf k2 (kf k3 (kf g1 (kf g2 g3)))))))) ?_|decide|refine sp ?_ ?_<;>intro _
    refine aA hU ?_
    repeat' first|refine ge (kf fb (kf ft (kf f10 (kf k1 (kf k2 (kf k3 (kf g1 (kf g2 g3)))))))) ?_|decide|refine sp ?_ ?_<;>intro _
    refine aA hPd ?_
    repeat' first|refine ge (kf fb (kf ft (kf f10 (kf k1 (kf k2 (kf k3 (kf g1 (kf g2 g3)))))))) ?_|decide|refine sp ?_ ?_<;>intro _
    all_goals first|exact rI wC ⟨q+1,by omega,rfl⟩|trace_state
  .obtain rfl:q=r.length:=by omega
   rw [eY]
   repeat' first|refine ge (kf @hlt (kf @hiE (kf @hrr @hlq))) ?_|decide|refine sp ?_ ?_<;>intro _
   all_goals first|exact rI wC ⟨i+1,by omega,rfl⟩|trace_state
 .obtain rfl:i=N.length:=by omega
  repeat' first|refine ge @hlt ?_|decide|refine sp ?_ ?_<;>intro _
end
end
section
section
structure yc (m:aR):Prop where
 attrs:∀ s ∈ m.attrs,s.size<=60
 users:∀ s ∈ m.users,s.size<=60
 events:∀ s ∈ fj m,s.size<=60
 stages:∀ s ∈ jG m,s.size<=60
 miles:∀ s ∈ jq m,s.size<=60
theorem j5 {l:List ByteArray} {k:Nat} {v w:Int} (h:∀ s ∈ l.take k,(s.size:Int)<=v) (hk:¬ (k<l.length /\ k<20)) (hl:l.length<=10) (hkl:k<=l.length) (hv:v<=w) (hw:w<=60):∀ s ∈ l,s.size<=60:=fun s hs=>by
 have:=h s (by rw [Lj (by omega)];exact hs);omega
theorem j6 {l:List ByteArray} {k:Nat} {v:Int} (hk:k<l.length) (h:∀ s ∈ l.take k,(s.size:Int)<=v):∀ s ∈ l.take (k+1),(s.size:Int)<=max v (l[k].size:Int):=fun s hs=>by
 rw [KX hk] at hs;rcases K2.1 hs with hs|hs
 .have:=h s hs;omega
 .rw [K9.1 hs];omega
theorem zb (m:aR):cT Tryz.prog 18 [.agg (aM m)] fun R=>∃ b,R=val (.bool b) /\ (b=false -> p9 m /\ yc m):=by
 refine wW Tryz.func18 rfl (by decide) Tryz.ntmps18 Tryz.results18 rfl ?_;refine cX (fun st=>st=⟨113,[(1,.op 0 0 0)],[(0,some (.box 32 (aM m)))],1⟩) (dD ah ?_) ?_
 .repeat' first|refine gq ?_|decide|refine sp ?_ ?_<;>intro _
  exact cd wC rfl
 rintro _ rfl;refine cX (fun st=>st=⟨113,[(1,.op 0 0 0),(3,eI 0)],[(0,some (.box 32 (aM m)))],1⟩) (dD ah ?_) ?_
 .repeat' first|refine gq ?_|decide|refine sp ?_ ?_<;>intro _
  exact cd wC rfl
 rintro _ rfl;refine cX (fun st=>∃ (k:Nat) (v:Int),k<=m.attrs.length /\ ¬ (k<m.attrs.length /\ k<20) /\ 0<=v /\ (∀ s ∈ (m.attrs).take k,(s.size:Int)<=v) /\ st=⟨113,[(1,.op 0 0 0),(3,eI v)],[(0,some (.box 32 (aM m)))],1⟩) (dD ah ?_) ?_
 .repeat' first|refine go ?_|decide|refine sp ?_ ?_<;>intro _
  refine af (fun st=>∃ (k:Nat) (v:Int),k<=m.attrs.length /\ k<=20 /\ 0<=v /\ (∀ s ∈ (m.attrs).take k,(s.size:Int)<=v) /\ st=⟨113,[(1,.op 0 0 0),(3,eI v),(4,eI (k:Int))],[(0,some (.box 32 (aM m)))],1⟩) (fun st=>20 - ap st 4) ⟨_,wC,0,0,KR _,by omega,Mw _,by simp,rfl⟩ ?_;rintro _ ⟨k,v,hk,hq,hv,hs,rfl⟩;have hnl:(m.attrs).length=m.attrs.length:=by simp
  by_cases hlt:k<m.attrs.length
  .by_cases h20:k<20
   .obtain ⟨x,hx⟩:∃ x,x=m.attrs[k]:=⟨_,rfl⟩;have hrx:(m.attrs.map (fun s=>[eS s]))[k]?.getD []=[eS x]:=by rw [hx];simp [hlt]
    have hnx:(m.attrs)[k]'(by omega)=x:=(by rw [hx]);have hm:=j6 (l:=m.attrs) (by omega:k<(m.attrs).length) hs;rw [hnx] at hm;have d20:decide ((k:Int)<20)=true:=K4 (by omega)
    repeat' first|refine gf (kf @hlt (kf @hrx d20)) ?_|decide|refine sp ?_ ?_<;>intro _
    all_goals first|exact rI wC ⟨k+1,max v ((x).size:Int),by omega,by omega,by omega,hm,rfl⟩|trace_state
   .have d20:decide ((k:Int)<20)=false:=K0 (by omega)
    repeat' first|refine gf (kf @hlt d20) ?_|decide|refine sp ?_ ?_<;>intro _
    all_goals first|exact cd wC ⟨k,v,hk,fun h=>h20 h.2,hv,hs,rfl⟩|trace_state
  .repeat' first|refine gf @hlt ?_|decide|refine sp ?_ ?_<;>intro _
   all_goals first|exact cd wC ⟨k,v,hk,fun h=>hlt h.1,hv,hs,rfl⟩|trace_state
 rintro _ ⟨k1,v1,hk1,hq1,hv1,hs1,rfl⟩;refine cX (fun st=>∃ (k:Nat) (v:Int),k<=m.users.length /\ ¬ (k<m.users.length /\ k<20) /\ v1<=v /\ (∀ s ∈ (m.users).take k,(s.size:Int)<=v) /\ st=⟨113,[(1,.op 0 0 0),(3,eI v)],[(0,some (.box 32 (aM m)))],1⟩) (dD ah ?_) ?_
 .repeat' first|refine go ?_|decide|refine sp ?_ ?_<;>intro _
  refine af (fun st=>∃ (k:Nat) (v:Int),k<=m.users.length /\ k<=20 /\ v1<=v /\ (∀ s ∈ (m.users).take k,(s.size:Int)<=v) /\ st=⟨113,[(1,.op 0 0 0),(3,eI v),(5,eI (k:Int))],[(0,some (.box 32 (aM m)))],1⟩) (fun st=>20 - ap st 5) ⟨_,wC,0,v1,KR _,by omega,Mw _,by simp,rfl⟩ ?_;rintro _ ⟨k,v,hk,hq,hv,hs,rfl⟩;have hnl:(m.users).length=m.users.length:=by simp
  by_cases hlt:k<m.users.length
  .by_cases h20:k<20
   .obtain ⟨x,hx⟩:∃ x,x=m.users[k]:=⟨_,rfl⟩;have hrx:(m.users.map (fun s=>[eS s]))[k]?.getD []=[eS x]:=by rw [hx];simp [hlt]
    have hnx:(m.users)[k]'(by omega)=x:=(by rw [hx]);have hm:=j6 (l:=m.users) (by omega:k<(m.users).length) hs;rw [hnx] at hm;have d20:decide ((k:Int)<20)=true:=K4 (by omega)
    repeat' first|refine gf (kf @hlt (kf @hrx d20)) ?_|decide|refine sp ?_ ?_<;>intro _
    all_goals first|exact rI wC ⟨k+1,max v ((x).size:Int),by omega,by omega,by omega,hm,rfl⟩|trace_state
   .have d20:decide ((k:Int)<20)=false:=K0 (by omega)
    repeat' first|refine gf (kf @hlt d20) ?_|decide|refine sp ?_ ?_<;>intro _
    all_goals first|exact cd wC ⟨k,v,hk,fun h=>h20 h.2,hv,hs,rfl⟩|trace_state
  .repeat' first|refine gf @hlt ?_|decide|refine sp ?_ ?_<;>intro _
   all_goals first|exact cd wC ⟨k,v,hk,fun h=>hlt h.1,hv,hs,rfl⟩|trace_state
 rintro _ ⟨k2,v2,hk2,hq2,hv2,hs2,rfl⟩;refine cX (fun st=>∃ (k:Nat) (v:Int),k<=m.events.length /\ ¬ (k<m.events.length /\ k<20) /\ v2<=v /\ (∀ s ∈ (fj m).take k,(s.size:Int)<=v) /\ st=⟨113,[(1,.op 0 0 0),(3,eI v)],[(0,some (.box 32 (aM m)))],1⟩) (dD ah ?_) ?_
 .repeat' first|refine go ?_|decide|refine sp ?_ ?_<;>intro _
  refine af (fun st=>∃ (k:Nat) (v:Int),k<=m.events.length /\ k<=20 /\ v2<=v /\ (∀ s ∈ (fj m).take k,(s.size:Int)<=v) /\ st=⟨113,[(1,.op 0 0 0),(3,eI v),(6,eI (k:Int))],[(0,some (.box 32 (aM m)))],1⟩) (fun st=>20 - ap st 6) ⟨_,wC,0,v2,KR _,by omega,Mw _,by simp,rfl⟩ ?_;rintro _ ⟨k,v,hk,hq,hv,hs,rfl⟩;have hnl:(fj m).length=m.events.length:=by simp
  by_cases hlt:k<m.events.length
  .by_cases h20:k<20
   .obtain ⟨x,hx⟩:∃ x,x=m.events[k]:=⟨_,rfl⟩;have hrx:(m.events.map wY)[k]?.getD []=wY x:=by rw [hx];simp [hlt]
    have hnx:(fj m)[k]'(by omega)=x.name:=by rw [hx];simp
    have hm:=j6 (l:=fj m) (by omega:k<(fj m).length) hs;rw [hnx] at hm;have d20:decide ((k:Int)<20)=true:=K4 (by omega)
    repeat' first|refine gf (kf @hlt (kf @hrx d20)) ?_|decide|refine sp ?_ ?_<;>intro _
    all_goals first|exact rI wC ⟨k+1,max v ((x.name).size:Int),by omega,by omega,by omega,hm,rfl⟩|trace_state
   .have d20:decide ((k:Int)<20)=false:=K0 (by omega)
    repeat' first|refine gf (kf @hlt d20) ?_|decide|refine sp ?_ ?_<;>intro _
    all_goals first|exact cd wC ⟨k,v,hk,fun h=>h20 h.2,hv,hs,rfl⟩|trace_state
  .repeat' first|refine gf @hlt ?_|decide|refine sp ?_ ?_<;>intro _
   all_goals first|exact cd wC ⟨k,v,hk,fun h=>hlt h.1,hv,hs,rfl⟩|trace_state
 rintro _ ⟨k3,v3,hk3,hq3,hv3,hs3,rfl⟩;refine cX (fun st=>∃ (k:Nat) (v:Int),k<=m.stages.length /\ ¬ (k<m.stages.length /\ k<20) /\ v3<=v /\ (∀ s ∈ (jG m).take k,(s.size:Int)<=v) /\ st=⟨113,[(1,.op 0 0 0),(3,eI v)],[(0,some (.box 32 (aM m)))],1⟩) (dD ah ?_) ?_
 .repeat' first|refine go ?_|decide|refine sp ?_ ?_<;>intro _
  refine af (fun st=>∃ (k:Nat) (v:Int),k<=m.stages.length /\ k<=20 /\ v3<=v /\ (∀ s ∈ (jG m).take k,(s.size:Int)<=v) /\ st=⟨113,[(1,.op 0 0 0),(3,eI v),(7,eI (k:Int))],[(0,some (.box 32 (aM m)))],1⟩) (fun st=>20 - ap st 7) ⟨_,wC,0,v3,KR _,by omega,Mw _,by simp,rfl⟩ ?_;rintro _ ⟨k,v,hk,hq,hv,hs,rfl⟩;have hnl:(jG m).length=m.stages.length:=by simp
  by_cases hlt:k<m.stages.length
  .by_cases h20:k<20
   .obtain ⟨x,hx⟩:∃ x,x=m.stages[k]:=⟨_,rfl⟩;have hrx:(m.stages.map CK)[k]?.getD []=CK x:=by rw [hx];simp [hlt]
    have hnx:(jG m)[k]'(by omega)=x.1:=by rw [hx];simp
    have hm:=j6 (l:=jG m) (by omega:k<(jG m).length) hs;rw [hnx] at hm;have d20:decide ((k:Int)<20)=true:=K4 (by omega)
    repeat' first|refine gf (kf @hlt (kf @hrx d20)) ?_|decide|refine sp ?_ ?_<;>intro _
    all_goals first|exact rI wC ⟨k+1,max v ((x.1).size:Int),by omega,by omega,by omega,hm,rfl⟩|trace_state
   .have d20:decide ((k:Int)<20)=false:=K0 (by omega)
    repeat' first|refine gf (kf @hlt d20) ?_|decide|refine sp ?_ ?_<;>intro _
    all_goals first|exact cd wC ⟨k,v,hk,fun h=>h20 h.2,hv,hs,rfl⟩|trace_state
  .repeat' first|refine gf @hlt ?_|decide|refine sp ?_ ?_<;>intro _
   all_goals first|exact cd wC ⟨k,v,hk,fun h=>hlt h.1,hv,hs,rfl⟩|trace_state
 rintro _ ⟨k4,v4,hk4,hq4,hv4,hs4,rfl⟩;refine cX (fun st=>∃ (k:Nat) (v:Int),k<=m.miles.length /\ ¬ (k<m.miles.length /\ k<20) /\ v4<=v /\ (∀ s ∈ (jq m).take k,(s.size:Int)<=v) /\ st=⟨113,[(1,.op 0 0 0),(3,eI v)],[(0,some (.box 32 (aM m)))],1⟩) (dD ah ?_) ?_
 .repeat' first|refine go ?_|decide|refine sp ?_ ?_<;>intro _
  refine af (fun st=>∃ (k:Nat) (v:Int),k<=m.miles.length /\ k<=20 /\ v4<=v /\ (∀ s ∈ (jq m).take k,(s.size:Int)<=v) /\ st=⟨113,[(1,.op 0 0 0),(3,eI v),(8,eI (k:Int))],[(0,some (.box 32 (aM m)))],1⟩) (fun st=>20 - ap st 8) ⟨_,wC,0,v4,KR _,by omega,Mw _,by simp,rfl⟩ ?_;rintro _ ⟨k,v,hk,hq,hv,hs,rfl⟩;have hnl:(jq m).length=m.miles.length:=by simp
  by_cases hlt:k<m.miles.length
  .by_cases h20:k<20
   .obtain ⟨x,hx⟩:∃ x,x=m.miles[k]:=⟨_,rfl⟩;have hrx:(m.miles.map tj)[k]?.getD []=tj x:=by rw [hx];simp [hlt]
    have hnx:(jq m)[k]'(by omega)=x.name:=by rw [hx];simp
    have hm:=j6 (l:=jq m) (by omega:k<(jq m).length) hs;rw [hnx] at hm;have d20:decide ((k:Int)<20)=true:=K4 (by omega)
    repeat' first|refine gf (kf @hlt (kf @hrx d20)) ?_|decide|refine sp ?_ ?_<;>intro _
    all_goals first|exact rI wC ⟨k+1,max v ((x.name).size:Int),by omega,by omega,by omega,hm,rfl⟩|trace_state
   .have d20:decide ((k:Int)<20)=false:=K0 (by omega)
    repeat' first|refine gf (kf @hlt d20) ?_|decide|refine sp ?_ ?_<;>intro _
    all_goals first|exact cd wC ⟨k,v,hk,fun h=>h20 h.2,hv,hs,rfl⟩|trace_state
  .repeat' first|refine gf @hlt ?_|decide|refine sp ?_ ?_<;>intro _
   all_goals first|exact cd wC ⟨k,v,hk,fun h=>hlt h.1,hv,hs,rfl⟩|trace_state
 rintro _ ⟨k5,v5,hk5,hq5,hv5,hs5,rfl⟩;refine dD ah ?_
 repeat' first|refine go ?_|decide|refine sp ?_ ?_<;>intro _
 refine jE (z6 m) fun b hb=>?_
 cases b with
 | true=>
  repeat' first|refine gq ?_|decide|refine sp ?_ ?_<;>intro _
  all_goals first|with_reducible exact bZ ⟨true,rfl,fun h=>by cases h⟩|trace_state
 | false=>
  have hf:=hb rfl;obtain ⟨hgl,hml,hsl,hel,hal,hul,hrl,hsol,hol,hil⟩:=id hf.sizes;by_cases hw:60<v5
  .have dw:decide (60<v5)=true:=K4 hw
   repeat' first|refine gf dw ?_|decide|refine sp ?_ ?_<;>intro _
   all_goals first|with_reducible exact bZ ⟨true,rfl,fun h=>by cases h⟩|trace_state
  .have dw:decide (60<v5)=false:=K0 hw;have hS:yc m:=⟨j5 hs1 hq1 hal hk1 (show v1<=v5 by omega) (by omega),j5 hs2 hq2 hul hk2 (show v2<=v5 by omega) (by omega),j5 hs3 (by simpa using hq3) (by simpa using hel) (by simpa using hk3) (show v3<=v5 by omega) (by omega),j5 hs4 (by simpa using hq4) (by simpa using hsl) (by simpa using hk4) (show v4<=v5 by omega) (by omega),j5 hs5 (by simpa using hq5) (by simpa using hml) (by simpa using hk5) (Mw v5) (by omega)⟩
   repeat' first|refine gf dw ?_|decide|refine sp ?_ ?_<;>intro _
   all_goals first|with_reducible exact bZ ⟨false,rfl,fun _=>⟨hf,hS⟩⟩|trace_state
end
section
def Gl:aR:=⟨[⟨#[97]⟩],[],[],[],[],[],[],[],[],[]⟩
def Ky:Nd:=⟨⟨[⟨1,-1⟩,⟨0,0⟩],[1]⟩,0,0,[],[]⟩
theorem J4:Lib.itoa 1=[49]:=by
 unfold Lib.itoa;rw [KY (by decide)];rw [Lib.decDigits,dif_pos (by decide)];rfl
theorem Kc:Lib.itoa 3=[51]:=by
 unfold Lib.itoa;rw [KY (by decide)];rw [Lib.decDigits,dif_pos (by decide)];rfl
theorem JW:aP [3]=[3]:=by decide
theorem Kv:cr 0 31=[]:=by decide
theorem KF:cr 1 31=[0]:=by decide
theorem F5:cK Gl (aP [3]) Ky=[32,122,111,110,101,32,97,32,60,49,32,51]:=by
 rw [JW];simp [cK,qw,rh,Dt,AR,kj,Ky,Kv,KF,aG,pB,kR,fF,cI,dE,aC,Gl,LX,Lib.join_cons,Lib.joinTail,Lib.join_nil,J4,Kc,nC]
abbrev pi:AV:=.c (.slice none 0 0)
theorem iC:aw Tryz.prog 19 [] (val (.bool true)):=by
 have hN:=Fw Gl [3] Ky (fun n hn=>by rw [K9.1 hn];simp [aq]) (by decide) (by decide) (by decide) (fun n hn=>by rw [K9.1 hn];simp [aq]) (by decide) (by decide) (fun n hn=>by cases hn) (by rw [F5];decide);rw [F5] at hN;have hN2:=hN.fits (args:=[.agg [.sl 1 [[eS ⟨#[97]⟩]],pi,pi,pi,pi,pi,pi,pi,pi,pi],.sl 1 [[eI 3]],.agg [.sl 2 [[eI 1,eI (-1)],[eI 0,eI 0]],.sl 1 [[eI 1]],eI 0,eI 0,pi,pi]]) ⟨.agg ⟨.refl _,.nil 1,.nil 1,.nil 2,.nil 2,.nil 5,.nil 3,.nil 5,.nil 2,.nil 2,trivial⟩,.one (.refl _),.agg ⟨.refl _,.refl _,.refl _,.refl _,.nil 1,.nil 1,trivial⟩,trivial⟩;refine ab ah Tryz.func19 rfl (by decide) Tryz.ntmps19 Tryz.results19 rfl (aU _) ?_
 repeat' first|refine go ?_|decide|refine sp ?_ ?_<;>intro _
 refine ⟨rfl,rfl,rfl,rfl,?_⟩;refine aA hN2 ?_
 repeat' first|refine go ?_|decide|refine sp ?_ ?_<;>intro _
end
section
theorem zS (m:aR) (p:List aJ) (hg:m.guards.length<=11000000) (hm:m.miles.length<=11000000) (hT:p.length+(m.guards.map fun g=>g.cond.length).sum+(m.miles.map fun g=>g.cond.length).sum<=1100000):aw Tryz.prog 10 [.agg (aM m),bw p] (gi 2 1 ((fP m p).map fun n=>[eI n])):=by
 refine ab ah Tryz.func10 rfl (by decide) Tryz.ntmps10 Tryz.results10 rfl (dB _ _ _) ?_;have hgc:∀ g ∈ m.guards,g.cond.length<=1100000:=fun g hg=>by have:=mI (fun g:Gd=>g.cond.length) hg;omega
 have hmc:∀ g ∈ m.miles,g.cond.length<=1100000:=fun g hg=>by have:=mI (fun g:Ml=>g.cond.length) hg;omega
 have hN:aw Tryz.prog 30 [bw p] ⟨sI (bF p),[],0⟩:=fe p (by omega);have hpl:=dy p;obtain ⟨f,hf⟩:∃ f,f=fun g:Gd=>bF g.cond:=⟨_,rfl⟩;obtain ⟨g2,hg2⟩:∃ f,f=fun g:Ml=>bF g.cond:=⟨_,rfl⟩
 have hfl:∀ k,((m.guards.take k).flatMap f).length<=2 * (m.guards.map fun g=>g.cond.length).sum:=fun k=>by
  rw [hf];exact Lf (kJ _ _ k) (iH (fun g:Gd=>bF g.cond) (fun g=>g.cond.length) (fun x=>dy x.cond) m.guards)
 have hgl:∀ k,((m.miles.take k).flatMap g2).length<=2 * (m.miles.map fun g=>g.cond.length).sum:=fun k=>by
  rw [hg2];exact Lf (kJ _ _ k) (iH (fun g:Ml=>bF g.cond) (fun g=>g.cond.length) (fun x=>dy x.cond) m.miles)
 have hC:fP m p=aP ((bF p ++ m.guards.flatMap f) ++ m.miles.flatMap g2):=by rw [hf,hg2];rfl
 rw [hC]
 have hlt1:(bF p ++ m.guards.flatMap f).length<=2200000:=by
  have:=hfl m.guards.length;rw [K7] at this;rw [f4];omega
 have hlt2:((bF p ++ m.guards.flatMap f) ++ m.miles.flatMap g2).length<=4400000:=by
  have:=hgl m.miles.length;rw [K7] at this;rw [f4];omega
 have hS:=jx ((bF p ++ m.guards.flatMap f) ++ m.miles.flatMap g2) (by omega)
 repeat' first|refine gq ?_|decide|refine sp ?_ ?_<;>intro _|refine cA hN ?_|(with_reducible apply And.intro)
 all_goals first
  | rfl
  | omega
  | skip
 refine af (fun st=>∃ k:Nat,k<=m.guards.length /\ st=⟨46,[(2,.op 0 0 0),(5,.osl 1),(6,eI (k:Int))],[(0,some (.box 32 (aM m))),(1,some (.row 2 1 ((bF p ++ (m.guards.take k).flatMap f).map fun n=>[eI n])))],2⟩) (fun st=>m.guards.length - ap st 6) ⟨_,(wS [0,2] (kf @Lb @LL)),0,KR _,rfl⟩ ?_;rintro _ ⟨k,hk,rfl⟩;by_cases hlt:k<m.guards.length
 .obtain ⟨x,hx⟩:∃ x,m.guards[k]=x:=⟨_,rfl⟩;have hxc:=hgc x (hx ▸ KQ hlt);have hNx:aw Tryz.prog 30 [bw x.cond] ⟨sI (bF x.cond),[],0⟩:=fe x.cond (by omega)
  have hsn:(bF p ++ (m.guards.take (k+1)).flatMap f).map (fun n=>[eI n])=(bF p ++ (m.guards.take k).flatMap f).map (fun n=>[eI n]) ++ (bF x.cond).map (fun n=>[eI n]):=by
   rw [jD f _ hlt,hx,<- KZ,Lr,hf]
  have hl1:(bF p ++ (m.guards.take k).flatMap f).length<=2200000:=by have:=hfl k;rw [f4];omega
  have hl2:=dy x.cond
  repeat' first|refine gq ?_|simp only [ae,hlt,hx]|decide|refine sp ?_ ?_<;>intro _|refine cA hNx ?_|(with_reducible apply And.intro)
  all_goals first
   | rfl
   | omega
   | exact rI (wS [0,2] @hsn) ⟨k+1,by omega,rfl⟩
 .obtain rfl:k=m.guards.length:=by omega
  rw [K7];obtain ⟨O,hO⟩:∃ O,bF p ++ m.guards.flatMap f=O:=⟨_,rfl⟩;rw [hO] at hlt1 hlt2 hS ⊢
  repeat' first|refine gf @hlt ?_|decide|refine sp ?_ ?_<;>intro _
  refine af (fun st=>∃ k:Nat,k<=m.miles.length /\ st=⟨46,[(2,.op 0 0 0),(5,.osl 1),(7,eI (k:Int))],[(0,some (.box 32 (aM m))),(1,some (.row 2 1 ((O ++ (m.miles.take k).flatMap g2).map fun n=>[eI n])))],2⟩) (fun st=>m.miles.length - ap st 7) ⟨_,(wE (kf @Lb @LL)),0,KR _,rfl⟩ ?_;rintro _ ⟨k,hk2,rfl⟩;by_cases hlt3:k<m.miles.length
  .obtain ⟨x,hx⟩:∃ x,m.miles[k]=x:=⟨_,rfl⟩;have hxc:=hmc x (hx ▸ KQ hlt3);have hNx:aw Tryz.prog 30 [bw x.cond] ⟨sI (bF x.cond),[],0⟩:=fe x.cond (by omega)
   have hsn:(O ++ (m.miles.take (k+1)).flatMap g2).map (fun n=>[eI n])=(O ++ (m.miles.take k).flatMap g2).map (fun n=>[eI n]) ++ (bF x.cond).map (fun n=>[eI n]):=by
    rw [jD g2 _ hlt3,hx,<- KZ,Lr,hg2]
   have hl1:(O ++ (m.miles.take k).flatMap g2).length<=4400000:=by have:=hgl k;rw [f4];omega
   have hl2:=dy x.cond
   repeat' first|refine gq ?_|simp only [ae,hlt3,hx]|decide|refine sp ?_ ?_<;>intro _|refine cA hNx ?_|(with_reducible apply And.intro)
   all_goals first
    | rfl
    | omega
    | exact rI (wS [0,2] @hsn) ⟨k+1,by omega,rfl⟩
  .obtain rfl:k=m.miles.length:=by omega
   rw [K7]
   repeat' first|refine ge @hlt3 ?_|decide|refine sp ?_ ?_<;>intro _
   obtain ⟨Z,hZ⟩:∃ Z,Z=aP (O ++ m.miles.flatMap g2):=⟨_,rfl⟩;rw [<- hZ] at hS ⊢;have hs2:∀ k,(gi 2 1 (Z.map fun n=>[eI n])).r.shift k=.osl (0+k):=fun _=>rfl;have ht2:∀ k,aa.shift k (gi 2 1 (Z.map fun n=>[eI n])).tab=[(0+k,some (.row 2 1 (Z.map fun n=>[eI n])))]:=fun k=>by simp [gi,eT,dp,ar.shift]
   have hn2:(gi 2 1 (Z.map fun n=>[eI n])).n=1:=rfl;refine qH [1] (R:=gi 2 1 (Z.map fun n=>[eI n])) ?_ ?_ ?_
   .repeat' first|decide|refine go ?_
    exact hS
   .repeat' first|decide|refine go ?_
    left;simp [gb,iv,bu,b7]
   .repeat' first|refine gf (kf hs2 (kf ht2 (kf hn2 @Md))) ?_|decide|refine sp ?_ ?_<;>intro _
    all_goals first|exact bk (by simp [aa.gc])|trace_state
end
section
def gqv (g:Int):Prop:=-2097152<=g /\ g<=2097152
def ZQ (z:Zn):Prop:=∀ g ∈ z.gaps,gqv g
theorem Ei (g r:Int):gqv (bL g r):=by
 have h1:=mH g r;have h2:=fp r;unfold gqv;omega
theorem Be (z:Zn) (r:Int):∀ g ∈ lH z r,gqv g:=fun g hg=>by
 obtain ⟨x,_,rfl⟩:=K8.1 hg;exact Ei _ _
theorem r9 (z:Zn) (a:Int) (at_:Nat) (r:Int) (ahead:Nat) (come:List Int) (behind:Nat) (h:∀ g ∈ come,gqv g):ZQ (gp z a at_ r ahead come behind):=fun g hg=>by
 rcases K2.1 hg with h1|h1
 .exact Be z r g (Lk h1)
 .rcases K2.1 h1 with h2 | h2
  .exact h g h2
  .exact Be z r g (LP h2)
theorem Gh (z:Zn) (a:Int) (i:Nat) (r:Int):ZQ (vp z a i r):=Be z r
theorem HK {z:Zn} (h:ZQ z) (i:Nat):gqv (z.gaps.getD i 0):=by
 rw [KP]
 cases hx:z.gaps[i]? with
 | none=>simp [gqv]
 | some x=>exact h x (KO hx)
theorem Gm (z:Zn) (a r:Int) {M:Nat} (hM:M<=1048575) (k:Nat):∀ y ∈ ng z a r M k,ZQ y:=fun y hy=>by
 obtain ⟨j,_,rfl⟩:=K8.1 hy
 exact r9 _ _ _ _ _ _ _ fun g hg=>by
  rw [K9.1 hg];unfold gqv;omega
theorem Jk (z:Zn) (a r:Int) {k:Nat} (hk:k<=1048576):∀ y ∈ nX z a r k,ZQ y:=fun y hy=>by
 obtain ⟨j,hj,rfl⟩:=K8.1 hy;have:=Ma.1 hj
 exact r9 _ _ _ _ _ _ _ fun g hg=>by
  rw [K9.1 hg];unfold gqv;omega
theorem I6 (g r:Int):∀ p ∈ n7 g r,gqv p.1 /\ gqv p.2:=by
 have hc:=fp (r - 1);unfold n7;split
 .intro p hp;cases hp
 .have key:∀ (all:List (Int × Int)) (c a:Nat),c<=1048576 -> a<=1048577 -> ∀ p ∈ fx all c a,gqv p.1 /\ gqv p.2:=fun all c a hc2=>by
   induction a with
   | zero=>intro _ p hp;cases hp
   | succ a ih=>
    intro ha p hp;rw [fx] at hp;rcases K2.1 hp with h1|h1
    .exact ih (by omega) p h1
    .obtain ⟨j,hj,rfl⟩:=K8.1 h1;have:=Ma.1 (List.mem_filter.1 hj).1;unfold gqv;simp only;omega
  exact key _ _ _ (by omega) (by omega)
theorem BP (z:Zn) (a r:Int):∀ i,∀ y ∈ gv z a r i,ZQ y
 | 0,y,hy=>by cases hy
 | i+1,y,hy=>by
  rw [gv] at hy;rcases K2.1 hy with h1|h1
  .exact BP z a r i y h1
  .split at h1
   .rcases LR.1 h1 with rfl | h2
    .exact Gh _ _ _ _
    .obtain ⟨p,hp,rfl⟩:=K8.1 h2;have hq:=I6 _ _ p (Lk hp)
     exact r9 _ _ _ _ _ _ _ fun g hg=>by
      rcases LR.1 hg with rfl|hg
      .exact hq.1
      .rw [K9.1 hg];exact hq.2
   .rw [K9.1 h1];exact Gh _ _ _ _
theorem Hf (z:Zn) (a r:Int):∀ y ∈ gw z a r,ZQ y:=fun y hy=>by
 have hc:=fp (r - 1);unfold gw at hy;split at hy
 .cases hy
 .split at hy
  .cases hy
  .split at hy
   .rw [K9.1 hy];exact r9 _ _ _ _ _ _ _ fun g hg=>by cases hg
   .rcases K2.1 hy with h1 | h1
    .rcases K2.1 h1 with h2 | h2
     .exact Gm z a r (by omega) _ y h2
     .exact BP z a r _ y h2
    .exact Jk z a r (by omega) y h1
theorem JG {z:Zn} (h:ZQ z) (l:List Int) (r:Int):∀ i,∀ y ∈ n5 z l r i,ZQ y
 | 0,y,hy=>by
  rw [n5,K9] at hy;rw [hy];exact h
 | i+1,y,hy=>by
  rw [n5,gE] at hy;obtain ⟨o,_,h1⟩:=Lx.1 hy;exact Hf _ _ _ y h1
structure vE (n:Nd):Prop where
 z:ZQ n.z
 cnt:∀ x ∈ n.cnt,gqv x
theorem FS0 {m:aR} {c:List Int} {n:Nd} (hE:fU m c) (hB:oq 20 n) (hQ:vE n):∀ s ∈ gU m c n,vE s.nd:=fun s hs=>by
 unfold gU at hs;split at hs
 .rename_i hP;have hK:=xS hE hB.z.at_ hP;rcases K2.1 hs with h1|h1
  .rw [gE] at h1;obtain ⟨e,he,h2⟩:=Lx.1 h1;obtain ⟨u,_,h3⟩:=Lx.1 h2;obtain ⟨z,hz,rfl⟩:=K8.1 h3;refine ⟨JG hQ.z _ _ _ z hz,fun x hx=>?_⟩;have hx2:x ∈ (dh m n e u).cnt:=hx;simp only [dh] at hx2;split at hx2
   .rcases LS hx2 with h4 | h4
    .exact hQ.cnt x h4
    .have:=(hK.each e (Ma.1 he)).2;rw [h4];unfold gqv;omega
   .exact hQ.cnt x hx2
  .split at h1
   .cases h1
   .rw [K9.1 h1];exact hQ
 .cases hs
theorem Ep (m:aR) (c:List Int):vE (lQ m c (co m)):=by
 refine ⟨fun g hg=>?_,fun x hx=>?_⟩
 .obtain ⟨i,_,rfl⟩:=K8.1 hg;have h:=fp (dC m (co m).cnt m.events.length);unfold lx gqv;omega
 .have h:=(kD m (-1) (m.order.take m.order.length) (im m)).2.2
  have h2:(co m).cnt=List.replicate m.events.length 0:=by
   unfold co jM;rw [h];rfl
  have hx2:x ∈ (co m).cnt:=hx;rw [h2] at hx2;rw [List.eq_of_mem_replicate hx2];unfold gqv;omega
end
end
section
section
structure px (m:aR) (c:List Int) (N:List Nd) (E:List (List pp)) (k:Nat):Prop where
 first:N[0]? = some (lQ m c (co m))
 len:E.length=k
 le:k<=N.length
 nd:N.Nodup
 bnd:∀ n ∈ N,oq 20 n
 nq:∀ n ∈ N,vE n
 rows:∀ i (h:i<N.length) (h2:i<E.length),ik N (gU m c N[i]) E[i]
structure yh (m:aR) (c:List Int) (N0 N:List Nd) (L:List Sn) (r:List pp) (i:Nat):Prop where
 pre:N0 <+: N
 len:N.length<=N0.length+i
 nd:N.Nodup
 bnd:∀ n ∈ N,oq 20 n
 nq:∀ n ∈ N,vE n
 edg:ik N (L.take i) r
def r5 (m:aR) (c:List Int) (most:Nat) (R:ce):Prop:=R=⟨.tup [.agg [.c (.slice none 0 0),.c (.slice none 0 0)],eB false],[],0⟩ \/ ∃ N E,px m c N E N.length /\ N.length<=most /\ R=⟨.tup [.agg [.sl 6 (N.map dX),.sl 1 (jC E)],eB true],[],0⟩
def Hi (m:aR) (c:List Int) (most:Nat) (R:ce):Prop:=R=⟨.tup [.agg [.c (.slice none 0 0),.c (.slice none 0 0)],eB false],[],0⟩ \/ ∃ N E,px m c N E N.length /\ N.length<=most /\ R=⟨.tup [.agg [.osl 0,.osl 1],eB true],[(0,some (.row 62 6 (N.map dX))),(1,some (.row 96 1 (jC E)))],2⟩
theorem EE {P:Program} {f:FuncId} {args:List AV} {m:aR} {c:List Int} {most:Nat} (h:cT P f args (Hi m c most)):cT P f args (r5 m c most):=
 (((h.frz 0).frz 1).drop).mono fun R hR=>by
  obtain ⟨R1,⟨R2,⟨R3,h3,rfl⟩,rfl⟩,h4⟩:=hR;rcases h3 with rfl|⟨N,E,h5,h6,rfl⟩
  .rcases h4 with ⟨_,rfl⟩ | ⟨h4,_⟩
   .left;simp [ce.frz,aa.get]
   .exact absurd (by simp [ce.frz,aa.get,AV.lt,AV.ltL]) h4
  .rcases h4 with ⟨_,rfl⟩ | ⟨h4,_⟩
   .right;exact ⟨N,E,h5,h6,by simp [ce.frz,aa.gc,AV.frz,AV.frzL,bK,ar.frz]⟩
   .exact absurd (by simp [ce.frz,aa.gc,AV.frz,AV.frzL,bK,ar.frz,AV.lt,AV.ltL]) h4
theorem wd (m:aR) (c:List Int) (most:Nat) (hE:fU m c) (hi:∀ x ∈ m.inits,aq x) (hmost:most<=1000):cT Tryz.prog 11 [.agg (aM m),sI c,eI (most:Int)] (r5 m c most):=by
 refine EE ?_;refine ba ah Tryz.func11 rfl (by decide) Tryz.ntmps11 Tryz.results11 rfl ?_;have hc9:=hE.clen;obtain ⟨hgl,hml,hsl,hel,hal,hul,hrl,hsol,hol,hil⟩:=id hE.fit.sizes
 have hm:∀ e ∈ m.events,e.times<=10 /\ e.sets.length<=10:=fun x hx=>by
  obtain ⟨i,hi,rfl⟩:=Le hx;have h1:=(hE.ck.writes.each i hi).2.1;have h2:=lR hE.ck hi;exact ⟨by omega,by omega⟩
 have hBg:=sj m c hE.fit hE.stg hi hm (by omega) hE.cok;have hBB:=FZ hE;obtain ⟨n0,hn0⟩:∃ n0,n0=lQ m c (co m):=⟨_,rfl⟩;have hX0:px m c [n0] [] 0:=⟨by rw [hn0];rfl,rfl,KR _,by simp,fun n hn=>by simp only [K9] at hn;rw [hn,hn0];exact hBB,fun n hn=>by simp only [K9] at hn;rw [hn,hn0];exact Ep m c,fun i h h2=>absurd h2 (by simp)⟩;have e0:([n0]:List Nd).map dX=[dX n0]:=rfl;rw [<- hn0] at hBg
 repeat' first|refine gq ?_|decide|refine sp ?_ ?_<;>intro _|refine cA hBg ?_|fail
 refine ⟨rfl,?_⟩
 refine af (fun st=>∃ (k:Nat) (N:List Nd) (E:List (List pp)),(px m c N E k /\ (N.length<=most \/ (k=0 /\ N.length=1))) /\ st=⟨96,[(1,sI c),(2,eI (most:Int)),(3,.op 0 0 0),(6,.op 1 0 0),(8,.op 2 0 0),(9,eI (k:Int))],[(0,some (.box 32 (aM m))),(1,some (.box 44 [.c (.slice none 0 0),.c (.slice none 0 0)])),(2,some (.box 44 [.osl 3,.osl 4])),(3,some (.row 62 6 (N.map dX))),(4,some (.row 96 1 (jC E)))],5⟩) (fun st=>most+2 - ap st 9)
  ⟨_,((cH 3 1 96 1 (t:=44) (cells:=[.osl 2,.c (.slice none 0 0)]) (by simp [aa.gc]) rfl).trans (wS [0,1,3,2,4] (kf @Ms (kf @Mt (kf e0 @jC.eq_1))))),0,[n0],[],⟨hX0,.inr ⟨rfl,rfl⟩⟩,rfl⟩ ?_
 rintro _ ⟨k,N,E,⟨hX,hlen⟩,rfl⟩;have hNl:N.length<=1000:=by omega
 by_cases hlt:k<N.length
 .obtain ⟨n,hn⟩:∃ n,n=N[k]:=⟨_,rfl⟩;have hnB:=hX.bnd n (hn ▸ KQ hlt);have hrn:(N.map dX)[k]?.getD []=dX n:=by rw [hn];simp [hlt]
  have hNx:=C3 m c n hE hnB;have hLl:=yJ hE hnB;have hLB:=Fl hE hnB;have hLQ:=FS0 hE hnB (hX.nq n (hn ▸ KQ hlt));obtain ⟨L,hL⟩:∃ L,L=gU m c n:=⟨_,rfl⟩;rw [<- hL] at hNx hLl hLB hLQ;have hkm:k<=most+1:=by omega
  repeat' first|refine ge (kf @hlt @hrn) ?_|decide|refine sp ?_ ?_<;>intro _
  refine aB [] [0,1,2,3,4,5,6] (.exec 7 (.exec 8 .done)) (by kernel_rfl) (by simp [aa.gc]) ?_
  repeat' first|refine gf (kf @hlt @hrn) ?_|decide|refine sp ?_ ?_<;>intro _|refine cA hNx ?_|fail
  have hXi0:yh m c N N L [] 0:=⟨List.prefix_rfl,KW _,hX.nd,hX.bnd,hX.nq,⟨rfl,fun j h _=>absurd h (by simp)⟩⟩
  refine af (fun st=>∃ (i:Nat) (M:List Nd) (r:List pp),(i<=L.length /\ yh m c N M L r i) /\ st=⟨96,[(1,sI c),(2,eI (most:Int)),(3,.op 0 0 0),(6,.op 1 0 0),(8,.op 2 0 0),(9,eI (k:Int)),(10,.sl 8 (L.map qa)),(11,.osl 5),(12,eI (i:Int))],[(0,some (.box 32 (aM m))),(1,some (.box 44 [.c (.slice none 0 0),.c (.slice none 0 0)])),(2,some (.box 44 [.osl 3,.osl 4])),(3,some (.row 62 6 (M.map dX))),(4,some (.row 96 1 (jC E))),(5,some (.row 101 3 (r.map vq)))],6⟩) (fun st=>L.length - ap st 12)
   ⟨_,((bf 11 101 3 (by simp only [iu,ak.get,bl,ak.put,↓reduceIte,reduceCtorEq,Nat.reduceLT,Nat.reduceEqDiff,Nat.reduceAdd,Nat.reduceLeDiff,eq_self,implies_true,Lq])).trans (wS [0,1,2,3,4,5] trivial)),0,N,[],⟨KR _,hXi0⟩,rfl⟩ ?_
  rintro _ ⟨i,M,r,⟨hil2,hXi⟩,rfl⟩;have hMl:=hXi.len
  have hrl2:r.length<=48009701377:=by
   have:=hXi.edg.1;rw [K6] at this;omega
  by_cases hli:i<L.length
  .obtain ⟨y,hy⟩:∃ y,y=L[i]:=⟨_,rfl⟩;have hry:(L.map qa)[i]?.getD []=qa y:=by rw [hy];simp [hli]
   have q2:List.drop 2 (qa y)=dX y.nd:=rfl;have hyB:=hLB y (hy ▸ KQ hli);have hyQ:=hLQ y (hy ▸ KQ hli);have hF:=D0 M y.nd (by omega) (N:=20) (by omega) hXi.bnd;by_cases hmem:y.nd ∈ M
   .have hfi:rl M y.nd=(M.idxOf y.nd:Int):=K5 hmem;have hge:decide ((M.idxOf y.nd:Int)<0)=false:=K0 (by omega);have hidx:=List.idxOf_lt_length_of_mem hmem;have hget:M[M.idxOf y.nd]? = some y.nd:=(by rw [KN hidx,List.getElem_idxOf]);rw [hfi] at hF;obtain ⟨q,hq⟩:∃ q,q=M.idxOf y.nd:=⟨_,rfl⟩;rw [<- hq] at hF hge hget;have hXn:yh m c N M L (r ++ [⟨y.ev,y.us,(q:Int)⟩]) (i+1):=⟨hXi.pre,by omega,hXi.nd,hXi.bnd,hXi.nq,hXi.edg.snoc hli (by rw [<- hy];exact ⟨rfl,rfl,by simp,by simpa using hget⟩)⟩;have et:(r ++ [(⟨y.ev,y.us,(q:Int)⟩:pp)]).map vq=r.map vq ++ [[eI y.ev,eI y.us,eI (q:Int)]]:=(by simp)
    repeat' first|refine ge (kf @hli @hry) ?_|decide|refine sp ?_ ?_<;>intro _
    refine aB [] [0,1,2,3,4,5,6] (.exec 7 (.exec 8 .done)) (by kernel_rfl) (by simp [aa.gc]) ?_
    repeat' first|refine ge (kf @hli (kf @hry q2)) ?_|decide|refine sp ?_ ?_<;>intro _
    refine aA hF ?_
    repeat' first|refine ge (kf @hli (kf @hry (kf q2 @hge))) ?_|decide|refine sp ?_ ?_<;>intro _
    refine aB [5] [0,1,2,3,4,5,6,7,8,9,10,11,12] (.exec 13 (.exec 14 (.exec 15 .done))) (by kernel_rfl) (by simp [aa.gc]) ?_
    repeat' first|refine gf (kf @hli (kf @hry (kf q2 @hge))) ?_|decide|refine sp ?_ ?_<;>intro _|(with_reducible apply And.intro)
    all_goals first
     | rfl
     | omega
     | exact rI (wS [0,1,2,3,4,7] et) ⟨i+1,M,_,⟨by omega,hXn⟩,rfl⟩
   .have hfi:rl M y.nd = -1:=KY hmem;have hge:decide ((-1:Int)<0)=true:=(by decide);rw [hfi] at hF
    have hXn:yh m c N (M ++ [y.nd]) L (r ++ [⟨y.ev,y.us,(M.length:Int)⟩]) (i+1):=by
     refine ⟨hXi.pre.trans (List.prefix_append _ _),by rw [f4,Lo];omega,?_,fun n hn=>?_,fun n hn=>?_,(hXi.edg.mono (List.prefix_append _ _)).snoc hli (by rw [<- hy];exact ⟨rfl,rfl,by simp,by simp⟩)⟩
     .rw [List.nodup_append];refine ⟨hXi.nd,by simp,fun a ha b hb=>?_⟩;simp only [K9] at hb;rw [hb];exact fun e=>hmem (e ▸ ha)
     .rcases K2.1 hn with h1 | h1
      .exact hXi.bnd n h1
      .simp only [K9] at h1;rw [h1];exact hyB
     .rcases K2.1 hn with h1 | h1
      .exact hXi.nq n h1
      .simp only [K9] at h1;rw [h1];exact hyQ
    have et:(r ++ [(⟨y.ev,y.us,(M.length:Int)⟩:pp)]).map vq=r.map vq ++ [[eI y.ev,eI y.us,eI (M.length:Int)]]:=(by simp);have et2:(M ++ [y.nd]).map dX=M.map dX ++ [dX y.nd]:=(by simp)
    repeat' first|refine ge (kf @hli @hry) ?_|decide|refine sp ?_ ?_<;>intro _
    refine aB [] [0,1,2,3,4,5,6] (.exec 7 (.exec 8 .done)) (by kernel_rfl) (by simp [aa.gc]) ?_
    repeat' first|refine ge (kf @hli (kf @hry q2)) ?_|decide|refine sp ?_ ?_<;>intro _
    refine aA hF ?_
    repeat' first|refine ge (kf @hli (kf @hry (kf q2 @hge))) ?_|decide|refine sp ?_ ?_<;>intro _
    refine aB [2,3] [0,2,3,4,5,6] (.two 1 (.exec 7 (.exec 8 (.take 9 (.exec 10 .done)))) 7 (.exec 1 (.exec 8 (.take 9 (.exec 10 .done))))) (by kernel_rfl) (by simp [aa.gc]) ?_
    repeat' first|refine ge (kf @hli (kf @hry (kf q2 @hge))) ?_|decide|refine sp ?_ ?_<;>intro _
    repeat' (with_reducible apply And.intro)
    all_goals first
     | rfl
     | omega
     | skip
    all_goals refine aB [5] [0,1,2,3,4,5,6,7,8,9,10,11,12] (.exec 13 (.exec 14 (.exec 15 .done))) (by kernel_rfl) (by simp [aa.gc]) ?_
    all_goals
     repeat' first|refine gf (kf @hli (kf @hry (kf q2 @hge))) ?_|decide|refine sp ?_ ?_<;>intro _|(with_reducible apply And.intro)
     all_goals first
      | rfl
      | omega
      | exact rI (wS [0,1,2,7,4,9] (kf et et2)) ⟨i+1,M ++ [y.nd],_,⟨by omega,hXn⟩,rfl⟩
  .obtain rfl:i=L.length:=by omega
   have hMl2:M.length<=50000000000:=(by omega);by_cases hmo:most<M.length
   .have hmd:decide ((most:Int)<(M.length:Int))=true:=K4 (by omega)
    repeat' first|refine gf (kf @hli @hmo) ?_|decide|refine sp ?_ ?_<;>intro _
    all_goals exact ⟨_,.inl rfl,⟨fun id o h=>(by cases h),by simp [AV.lt,AV.ltL]⟩,a5 (by simp [AV.ren,AV.renL])⟩
   .have hXe:px m c M (E ++ [r]) (k+1):=by
     obtain ⟨t,ht⟩:=hXi.pre;have hMle:N.length<=M.length:=by rw [<- ht,f4];omega
     refine ⟨?_,by rw [f4,Lo,hX.len],by omega,hXi.nd,hXi.bnd,hXi.nq,fun j h h2=>?_⟩
     .rw [<- ht,Ls (by omega)];exact hX.first
     .have hjl:j<k+1:=by rw [f4,Lo,hX.len] at h2;exact h2
      have hge:M[j]=N[j]'(by omega):=by
       simp only [<- ht];rw [Mv (by omega)]
      rw [hge];by_cases e:j=k
      .subst e
       have h3:(E ++ [r])[j]=r:=by
        rw [MJ (by rw [hX.len];omega)];simp [hX.len]
       rw [h3,<- hn,<- hL];have:=hXi.edg;rw [K7] at this;exact this
      .have h3:(E ++ [r])[j]=E[j]'(by rw [hX.len];omega):=Mv _;rw [h3];exact (hX.rows j (by omega) (by rw [hX.len];omega)).mono hXi.pre
    have et:jC (E ++ [r])=jC E ++ [[.sl 3 (r.map vq)]]:=(by simp [jC]);have hEl:E.length<=1000:=by rw [hX.len];omega
    repeat' first|refine gf (kf @hli @hmo) ?_|decide|refine sp ?_ ?_<;>intro _|(with_reducible apply And.intro)
    all_goals first
     | rfl
     | omega
     | exact rI (wS [0,1,2,3,7] et) ⟨k+1,M,E ++ [r],⟨hXe,.inl (by omega)⟩,rfl⟩
 .have hkn:k=N.length:=by have:=hX.le;omega
  subst hkn;have hle:N.length<=most:=by omega
  have hd:decide ((N.length:Int)<=(most:Int))=true:=K4 (by omega)
  repeat' first|refine ge (kf @hlt @hle) ?_|decide|refine sp ?_ ?_<;>intro _
  refine aB [1] [0,1,2,3,4,5] (.exec 6 (.exec 7 .done)) (by kernel_rfl) (by simp [aa.gc]) ?_
  repeat' first|refine gf (kf @hlt @hle) ?_|decide|refine sp ?_ ?_<;>intro _
  all_goals exact ⟨_,.inr ⟨N,E,hX,hle,rfl⟩,jr (by simp [cg,ar.lt,AV.ltL,AV.lt]) (by simp [AV.lt,AV.ltL]),⟨[3,4],by decide,rfl,by simp [b9,aa.gc]⟩⟩
end
section
theorem lX {α:Type} [DecidableEq α]:∀ (l p:List α),l.Nodup -> (∀ x ∈ l,x ∈ p) -> l.length<=p.length
 | [],_,_,_=>KR _
 | x :: l,p,hn,hs=>by
  rw [List.nodup_cons] at hn;have hx:x ∈ p:=hs x LD;have h1:=lX l (p.erase x) hn.2 fun y hy=>(List.mem_erase_of_ne (fun e:y=x=>hn.1 (by rw [<- e];exact hy))).2 (hs y (Lz _ hy));rw [List.length_erase_of_mem hx] at h1;have:=List.length_pos_of_mem hx;rw [KU];omega
theorem u6 {α:Type} [DecidableEq α] (l:List α):(bM l).Nodup:=by
 have key:∀ k,k<=l.length -> (bM (l.take k)).Nodup:=fun k=>by
  induction k with
  | zero=>intro _;simp [bM]
  | succ k ih=>
   intro hk;have h:=ih (by omega);rw [jI (by omega)];split
   .exact h
   .rename_i hm;rw [List.nodup_append];refine ⟨h,by simp,fun a ha b hb=>?_⟩;simp only [K9] at hb;rw [hb];exact fun e=>hm (e ▸ ha)
 have:=key l.length (KW _)
 rwa [K7] at this
theorem xx {m:aR} {c:List Int} {n:Nd} {k:Nat} {s:Sn} (h:s ∈ cD m c n k):∃ e u:Nat,e<k /\ u<m.users.length /\ s.ev=(e:Int) /\ s.us=(u:Int):=by
 obtain ⟨e,he,h1⟩:=Lx.1 h;obtain ⟨u,hu,h2⟩:=Lx.1 h1;obtain ⟨z,_,rfl⟩:=K8.1 h2;have:=kp hu;exact ⟨e,u.toNat,Ma.1 he,by omega,rfl,by show u=_;omega⟩
theorem vc {m:aR} {c:List Int} {n:Nd} (hE:fU m c) {N:List Nd} (hN:∀ s ∈ gU m c n,s.nd ∈ N):(gU m c n).length<=24 * N.length+1:=by
 unfold gU at hN ⊢;split
 .rename_i hP;rw [K5 hP] at hN
  have h1:=lX (bM (cD m c n m.events.length)) ((List.range 6).flatMap fun e=>(List.range 4).flatMap fun u=>N.map fun x=>(⟨((e:Nat):Int),((u:Nat):Int),x⟩:Sn)) (u6 _) fun s hs=>by
   have hsN:=hN s (List.mem_append_left _ hs);rw [gE] at hs;obtain ⟨e,u,he,hu,h2,h3⟩:=xx hs;have h4:=hE.ck.chk.events;have h5:=hE.ck.chk.users;refine Lx.2 ⟨e,Ma.2 (by omega),Lx.2 ⟨u,Ma.2 (by omega),K8.2 ⟨s.nd,hsN,?_⟩⟩⟩;rw [<- h2,<- h3]
  have h6:((List.range 6).flatMap fun e=>(List.range 4).flatMap fun u=>N.map fun x=>(⟨((e:Nat):Int),((u:Nat):Int),x⟩:Sn)).length<=6 * (4 * N.length):=by
   have:=fL (fun e:Nat=>(List.range 4).flatMap fun u=>N.map fun x=>(⟨((e:Nat):Int),((u:Nat):Int),x⟩:Sn)) (4 * N.length) (List.range 6) fun e _=>by
    have:=fL (fun u:Nat=>N.map fun x=>(⟨((e:Nat):Int),((u:Nat):Int),x⟩:Sn)) N.length (List.range 4) fun u _=>by simp
    simpa using this
   simpa using this
  rw [f4];split
  .simp only [K3];omega
  .simp only [Lo];omega
 .exact KR _
theorem EI {m:aR} {c:List Int} {N:List Nd} {E:List (List pp)} (hX:px m c N E N.length):1<=N.length:=by
 have:=(KS.1 hX.first).1;omega
theorem Bc {m:aR} {c:List Int} {N:List Nd} {E:List (List pp)} (hX:px m c N E N.length) (hE:fU m c) (h60:N.length<=60):∀ r ∈ E,r.length<=4000 /\ ∀ e ∈ r,0<=e.dst /\ e.dst<60:=fun r hr=>by
 obtain ⟨i,hi,rfl⟩:=Le hr;have hi2:i<N.length:=by rw [<- hX.len];exact hi
 have h1:=hX.rows i hi2 hi
 have hcl:∀ s ∈ gU m c N[i],s.nd ∈ N:=fun s hs=>by
  obtain ⟨j,hj,rfl⟩:=Le hs;obtain ⟨_,_,_,h⟩:=h1.2 j hj (by rw [h1.1];exact hj);exact KO h
 have h2:=vc hE hcl;refine ⟨by rw [h1.1];omega,fun e he=>?_⟩;obtain ⟨j,hj,rfl⟩:=Le he;obtain ⟨_,_,h3,h4⟩:=h1.2 j (by rw [<- h1.1];exact hj) hj;have:=(KS.1 h4).1;omega
theorem gr {f:Nat -> List UInt8} (b:Nat):∀ n,(∀ k,k<n -> (f k).length<=b) -> (aG f n).length<=n * b
 | 0,_=>by simp [cZ]
 | n+1,h=>by
  have h1:=gr b n fun k hk=>h k (by omega);have h2:=h n (by omega);rw [bJ,f4,MM];omega
theorem jp {l:List ByteArray} (h:∀ s ∈ l,s.size<=60) (i:Int):(aC l i).data.toList.length<=60:=by
 rw [Ll];exact ii h (by omega) i
theorem Dv {m:aR} {c:List Int} {n:Nd} (hS:yc m) (hc:∀ x ∈ c,aq x) (hB:oq 20 n) (hQ:vE n):(cK m c n).length<=100000:=by
 have hz:(kj m c n.z).length<=n.z.cls.length * 1980:=gr 1980 _ fun k hk=>by
  have h1:=pN (x:=n.z.cls.getD k ⟨0,0⟩) hc hS.attrs
  have h2:(kR n.z k).length<=23:=by
   have hg:=HK hQ.z (k - 1);have hi:=fX (n:=n.z.gaps.getD (k - 1) 0) (by unfold gqv at hg;unfold aq;omega);unfold kR;split
   .simp
   .split
    .simp
    .simp only [f4,KU,K3];omega
  unfold pB;rw [f4];omega
 have ho:(qw m n).length<=(cr n.opn 31).length * 66:=gr 66 _ fun k hk=>by
  have:=jp hS.stages ((cr n.opn 31).getD k 0:Nat);simp only [kX,f4,KU,K3];omega
 have hd:(rh m n).length<=(cr n.don 31).length * 66:=gr 66 _ fun k hk=>by
  have:=jp hS.miles ((cr n.don 31).getD k 0:Nat);simp only [kX,f4,KU,K3];omega
 have hi:(Dt m n).length<=n.did.length * (31 * 126):=gr _ _ fun e he=>by
  have h1:=gr (f:=DT m e (cr (n.did.getD e 0) 31)) 126 (cr (n.did.getD e 0) 31).length fun k hk=>by
   have h2:=jp hS.users ((cr (n.did.getD e 0) 31).getD k 0:Nat);have h3:=jp hS.events (e:Int);simp only [DT,f4,KU,K3];omega
  have h2:=dH (n.did.getD e 0) 31;have h3:=La 126 h2;unfold ri;omega
 have hn:(AR m n).length<=n.cnt.length * 88:=gr 88 _ fun e he=>by
  have h3:=jp hS.events (e:Int);have hq:gqv (n.cnt.getD e 0):=hQ.cnt _ (by rw [KP,KN he];exact KQ _);have h4:=fX (n:=n.cnt.getD e 0) (by unfold gqv at hq;unfold aq;omega);unfold uE;split
  .simp
  .simp only [f4,KU,K3];omega
 have l1:=dH n.opn 31;have l2:=dH n.don 31;have l3:=hB.did;have l4:=hB.cnt;have l5:=hB.z.cl;unfold cK;simp only [f4,KU,K3];omega
theorem zr {m:aR} {c:List Int} {N:List Nd} {E:List (List pp)} (hS:yc m) (hc:∀ x ∈ c,aq x) (hB:∀ n ∈ N,oq 20 n) (hQ:∀ n ∈ N,vE n) (hN:N.length<=60) (hE:∀ r ∈ E,r.length<=4000 /\ ∀ e ∈ r,0<=e.dst /\ e.dst<60):(gK m c N E).length<=60 * 900000:=by
 have h:=gr (f:=qi m c N E) 900000 N.length fun i hi=>by
  have hi20:=fX (n:=(i:Int)) (by unfold aq;omega);have hgn:N.getD i ⟨⟨[],[]⟩,0,0,[],[]⟩ ∈ N:=by rw [KP,KN hi];exact KQ _
  have h1:=Dv hS hc (hB _ hgn) (hQ _ hgn)
  have hr:(E.getD i []).length<=4000 /\ ∀ e ∈ E.getD i [],0<=e.dst /\ e.dst<60:=by
   rw [KP]
   cases hx:E[i]? with
   | none=>exact ⟨by simp,fun e he=>by cases he⟩
   | some r=>exact hE r (KO hx)
  have h2:=gr (f:=fun k=>jZ m ((E.getD i []).getD k ⟨0,0,0⟩)) 160 (E.getD i []).length fun k hk=>by
   have hm:(E.getD i []).getD k ⟨0,0,0⟩ ∈ E.getD i []:=by
    rw [KP (l:=E.getD i []),KN hk];exact KQ _
   obtain ⟨e,he⟩:∃ e,e=(E.getD i []).getD k ⟨0,0,0⟩:=⟨_,rfl⟩;rw [<- he] at hm ⊢;have h3:=hr.2 e hm;have h4:=fX (n:=e.dst) (by unfold aq;omega);have h5:=jp hS.events e.ev;have h6:=jp hS.users e.us;unfold jZ qx;split<;>simp only [f4,KU,K3]<;>omega
  have h7:=La 160 hr.1;unfold qi;simp only [f4,KU,K3];omega
 exact Lf h (La 900000 hN)
end
section
theorem Jj (a b:ByteArray):(a == b)=decide (a=b):=by
 obtain ⟨x⟩:=a;obtain ⟨y⟩:=b;show (x == y)=decide (ByteArray.mk x=ByteArray.mk y);by_cases h:x=y
 .subst h;simp
 .simp [h]
theorem yI (a:ByteArray):(a == a)=true:=by
 rw [Jj];simp
theorem Hl {u:Option (Nat × List Nat)} {P:Program} {st:ak} {g:FuncId} {args:List AV} {K:AV -> ak -> Prop} {Post:ce -> Prop} (ids:List Nat) (hl:AV.ltL st.next args) (hu:∀ p,u=some p -> ∀ id ∈ ids,iP p.1 p.2 id) (h:cT P g ((f5 st ids args).map (f6 (el st ids).tab)) Post)
  (hk:∀ R,Post R -> (gb (f5 st ids args) \/ (R.r.plain /\ R.tab.plain)) /\ K (R.r.shift (el st ids).next) { el st ids with tab:=R.tab.shift (el st ids).next ++ (el st ids).tab,next:=(el st ids).next+R.n }):fk u P st g args K:=
 .inr (.inr (.inr ⟨ids,hl,hu,_,h,hk⟩))
theorem vO {α:Type} (f:α -> Nat) (b:Nat):∀ l:List α,(∀ x ∈ l,f x<=b) -> (l.map f).sum<=l.length * b
 | [],_=>by simp
 | x :: l,h=>by
  have h1:=vO f b l fun y hy=>h y (Lz _ hy);have h2:=h x LD;rw [Mc,List.sum_cons,KU,MM];omega
theorem Ar (m:aR) (h:xy m) (p:List aJ) (hp:∀ x ∈ p,x.ok):∀ n ∈ fP m p,aq n:=fun n hn=>by
 have h1:=((dJ _).2 n).1 hn;have key:∀ l:List aJ,(∀ x ∈ l,x.ok) -> ∀ n ∈ bF l,aq n:=fun l hl n hn=>zG l hl n (((dJ _).2 n).1 hn);rcases K2.1 h1 with h1|h1
 .rcases K2.1 h1 with h1 | h1
  .exact key p hp n h1
  .obtain ⟨g,hg,h2⟩:=Lx.1 h1;exact key _ (h.1 g hg) n h2
 .obtain ⟨g,hg,h2⟩:=Lx.1 h1;exact key _ (h.2 g hg) n h2
theorem t6 (m:aR) (more:List Int) (hmo:∀ x ∈ more,aq x) (hml:more.length<=9223372036854775807) (hp:∀ p ∈ m.stages,aq p.2) (hr:∀ p ∈ m.roles,aq p.2) (hi:∀ x ∈ m.inits,aq x) (hcd:xy m):aw Tryz.prog 4 [.agg (aM m),sI more] (val (.bool true)):=by
 refine ab ah Tryz.func4 rfl (by decide) Tryz.ntmps4 Tryz.results4 rfl (aU _) ?_
 repeat' first|refine go ?_|decide|refine sp ?_ ?_<;>intro _
 refine jE (zb m) fun b hb=>?_
 cases b with
 | true=>(repeat' (first | refine gq ?_ | decide | refine sp ?_ ?_<;>intro _ | ((with_reducible first | apply aA (g:=19) | apply aZ (g:=19));exact iC)))
 | false=>
  obtain ⟨hf,hS⟩:=hb rfl
  repeat' first|refine go ?_|decide|refine sp ?_ ?_<;>intro _
  refine jE (vV m hf hp) fun b hck=>?_
  cases b with
  | false=>(repeat' (first | refine gq ?_ | decide | refine sp ?_ ?_<;>intro _ | ((with_reducible first | apply aA (g:=19) | apply aZ (g:=19));exact iC)))
  | true=>
   have hck:=hck rfl;obtain ⟨hgl,hmll,hsl,hel,hal,hul,hrl,hsol,hol,hil⟩:=id hf.sizes;by_cases h3:more.length<=3
   .have d3:decide ((3:Int)<(more.length:Int))=false:=K0 (by omega);have d4:decide (3<more.length)=false:=K0 (by omega)
    have hC:=(zS m [] (by omega) (by omega) (by
      have h1:=vO (fun g:Gd=>g.cond.length) 80 m.guards fun g h=>hf.guards g h;have h2:=vO (fun g:Ml=>g.cond.length) 80 m.miles fun g h=>hf.miles g h;have h3:=La 80 hgl;have h4:=La 80 hmll;simp only [K3];omega)).fits (args:=[.agg (aM m),.c (.slice none 0 0)]) ⟨.one (.refl _),.one (.nil 7),trivial⟩
    have hcok:=Ar m hcd [] (fun x hx=>by cases hx);have hc6:=hck.consts;obtain ⟨c0,hc0⟩:∃ c,c=fP m []:=⟨_,rfl⟩;rw [<- hc0] at hC hcok hc6;obtain ⟨c,hce⟩:∃ c,c=c0 ++ more:=⟨_,rfl⟩;have hcl:c.length<=9:=by rw [hce,f4];omega
    have hco:∀ x ∈ c,aq x:=fun x hx=>by
     rw [hce] at hx;rcases K2.1 hx with h|h
     .exact hcok x h
     .exact hmo x h
    have hcm:c0.map (fun n=>[eI n]) ++ more.map (fun n=>[eI n])=c.map fun n=>[eI n]:=(by rw [hce,Lr]);have hE:fU m c:=⟨hf,hck,hcl,hco,hp,hr⟩;have hX:=wd m c 60 hE hi (by omega);have e60:((60:Nat):Int)=60:=rfl;rw [e60] at hX
    repeat' first|refine ge (kf d3 d4) ?_|decide|refine sp ?_ ?_<;>intro _
    refine iU hC (ro) ?_
    repeat' first|refine ge @hcm ?_|decide|refine sp ?_ ?_<;>intro _
    refine ⟨⟨by omega,by omega⟩,?_⟩;refine Hl (Post:=r5 m c 60) [2] (by simp [AV.ltL,AV.lt]) (fun p hp=>by cases hp) (by simp -implicitDefEqProofs (maxSteps:=5000000) only [B9,↓reduceIte,reduceCtorEq,Nat.reduceLT,Nat.reduceEqDiff,Nat.reduceAdd,Nat.reduceMul,Nat.reduceSub,Nat.reduceLeDiff,Nat.reduceBEq];exact hX) fun R hR=>?_;refine ⟨.inl ?_,?_⟩
    focus
     (simp -implicitDefEqProofs (maxSteps:=5000000) only [B9,↓reduceIte,reduceCtorEq,Nat.reduceLT,Nat.reduceEqDiff,Nat.reduceAdd,Nat.reduceMul,Nat.reduceSub,Nat.reduceLeDiff,Nat.reduceBEq])
     simp only [gb,iv,bu,b7,and_self]
     done
    rcases hR with rfl|⟨N,E,hXk,hNl,rfl⟩
    .have hw1:∀ k,(⟨.tup [.agg [.c (.slice none 0 0),.c (.slice none 0 0)],eB false],[],0⟩:ce).r.shift k=.tup [.agg [.c (.slice none 0 0),.c (.slice none 0 0)],eB false]:=fun _=>rfl
     repeat' first|refine gf @dp ?_|decide|refine sp ?_ ?_<;>intro _|((with_reducible first|apply aA (g:=19)|apply aZ (g:=19));exact iC)
    .have hro:=Bc hXk hE hNl;have hso:∀ x ∈ aP c,aq x:=fun x hx=>hco x (((dJ c).2 x).1 hx);have hT:=zr hS hso hXk.bnd hXk.nq hNl hro
     have hNT:∀ n ∈ N,Jv n:=fun n hn=>by
      have hB:=hXk.bnd n hn;have hQ:=hXk.nq n hn;have l1:=hB.z.cl;have l2:=hB.did;have l3:=hB.cnt;exact ⟨by omega,fun x hx=>by have:=hQ.z x hx;unfold gqv at this;unfold aq;omega,by omega,by omega,fun x hx=>by have:=hQ.cnt x hx;unfold gqv at this;unfold aq;omega⟩
     have hNU:∀ n ∈ N,Ks n:=fun n hn=>by
      have hB:=hXk.bnd n hn;have l1:=hB.z.ga;exact ⟨by omega,fun x hx=>by have:=hB.z.at_ x hx;unfold aq at this;unfold n6;omega,by have:=hB.opn;unfold aq at this;unfold n6;omega,by have:=hB.don;unfold aq at this;unfold n6;omega,fun x hx=>by have:=hB.dok x hx;unfold aq at this;unfold n6;omega⟩
     have hpos:=EI hXk;have hd64:∀ r ∈ E,∀ e ∈ r,aq e.dst:=fun r hr e he=>by have:=(hro r hr).2 e he;unfold aq;omega
     have hDG:=Bs m c N E hco (by omega) hS.attrs hNT (by omega) (by omega) hXk.len (fun r hr=>by have:=(hro r hr).1;omega) hd64 (by omega);have hRG:=zB m c N E hco (by omega) hS.attrs (by omega) (by omega) (by omega) hNT hNU (by omega) hXk.len (fun r hr=>by have:=(hro r hr).1;omega) hd64 (by omega);obtain ⟨T,hTe⟩:∃ T,T=fw (gK m (aP c) N E):=⟨_,rfl⟩;have hTe2:(⟨(gK m (aP c) N E).toArray⟩:ByteArray)=T:=hTe.symm;rw [hTe2] at hDG;rw [<- hTe] at hRG;have hbb:(T == T)=true:=yI T
     repeat' first|refine gf (kf @dp @hbb) ?_|decide|refine sp ?_ ?_<;>intro _|refine cA hDG ?_|refine cA hRG ?_|((with_reducible first|apply aA (g:=19)|apply aZ (g:=19));exact iC)
   .have d3:decide ((3:Int)<(more.length:Int))=true:=K4 (by omega);have d4:decide (3<more.length)=true:=K4 (by omega)
    repeat' first|refine gf (kf d3 d4) ?_|decide|refine sp ?_ ?_<;>intro _|((with_reducible first|apply aA (g:=19)|apply aZ (g:=19));exact iC)
end
section
open Go.ChangeShapes Go.WideShapes Go.ChangeAt Go.RowKit
theorem yr {α:Type} {r:gV α} {w:World} {S:Nat -> Prop} {v:Value} {l:List α} (h:(aY r).one w S v l):l.length<=9223372036854775807:=by
 obtain ⟨A,c,h1,h2,h3⟩:=fE h;omega
theorem Km:Tryz.prog.globalNamed Tryz.powName=some 0:=by kernel_rfl
theorem KD:(Tryz.prog.globals[0]?).map (·.type)=some 256:=by kernel_rfl
theorem CI:(Rows.laid_internal_strconv_uint64pow10:DataW Unit)=Lib.tabData .u64 Lib.pow10Tab:=by kernel_rfl
theorem uJ {W:World} (h:laidMetH Tryz.prog Rows.dotGraphsRow.laid W):JA W:=by
 rw [MakeChecks.laidMetH_plain _ _ _ (by kernel_rfl)] at h;obtain ⟨ps,⟨g0,t0,cs0,f0,p0,q0,hg0,ht0,hv0,hd0,⟨g1,t1,cs1,f1,p1,q1,hg1,ht1,hv1,hd1,⟨g2,t2,cs2,f2,p2,q2,hg2,ht2,hv2,hd2,_,_⟩,_⟩,_⟩,_⟩:=h;obtain rfl:=Mk (Km.symm.trans hg2);obtain rfl:=Mk (KD.symm.trans ht2);rw [CI] at hd2;refine (show W.var? Tryz.prog Tryz.powName=some cs2 from hv2).trans ?_;rw [<- Lib.cells_of_tab Tryz.underlying256 Tryz.underlying229 (by kernel_rfl) (by kernel_rfl) hd2]
end
end
end Go.Proofs.YtiaiihjmmfakdaaGreatDoor
