/-
  Parts of the proof: Ctp7, Ctp8, Ctp9, Ctp10.
-/
import Derived.Test.YtmmoidfcfjklaaaGreatCtq4
import Derived.Deep.AppendLies
import Derived.Deep.RegionLaw
import Derived.IntWalk
import Derived.Deep.RegionHeld3
import Derived.Deep.RegionHeld2
import Derived.Deep.DrawnRows
import Derived.Defers
import Derived.Recover
import Derived.Conc.MuLone
set_option linter.unusedVariables false
set_option linter.unusedSimpArgs false
set_option linter.defProp false
set_option maxRecDepth 100000
set_option maxHeartbeats 16000000
namespace Go.Proofs.YtmmoidfcfjklaaaGreat
open Go.RowKit
section
section
theorem nS (n:Int):aw Tryz.prog 61 [eI n] (val (.int .i64 (aC n))):=by
 refine aa ag Tryz.func61 rfl (by decide) Tryz.ntmps61 Tryz.results61 rfl (aL _) ?_
 repeat' first|refine go ?_|decide|refine sp ?_ ?_<;>intro _
 all_goals (simp [aC] at *;(repeat' split)<;>omega)
abbrev oq (n:Int):List AV:=[eI n,eS ByteArray.empty,eI 0,eS ByteArray.empty,eI 0,eS ByteArray.empty,eS ByteArray.empty,eI 0,eI 0]
abbrev t4 (l:List Int):AV:=.sl 9 (l.map oq)
theorem JM (ops:List Int):∀ (i:Nat) (w:Int),-1<=j5 ops i w /\ j5 ops i w<i \/ j5 ops i w = -1
 | 0,w=>.inr rfl
 | i+1,w=>by
  unfold j5;split
  .exact .inr rfl
  .split
   .left;omega
   .rcases JM ops i (w+(aC (ops.getD i 0) - 1)) with h | h
    .left;omega
    .exact .inr h
theorem L4 (l:List Int) (q:Nat) (hq:q<=l.length) (hl:l.length<=1000000):aw Tryz.prog 26 [t4 l,eI ((q:Int) - 1)] (val (.int .i64 (j5 l q 1))):=by
 refine aa ag Tryz.func26 rfl (by decide) Tryz.ntmps26 Tryz.results26 rfl (aL _) ?_
 repeat' first|refine go ?_|decide|refine sp ?_ ?_<;>intro _
 refine af (fun st=>∃ (k:Nat) (v:Int),k<=q /\ 1<=v /\ v<=1+2 * ((q:Int) - k) /\ j5 l k v=j5 l q 1 /\ st=⟨28,[(0,t4 l),(5,eI v),(6,eI ((k:Int) - 1))],[],0⟩) (fun st=>(match st.get 6 with | .c (.int _ n)=>(n+1).toNat | _=>0)) ⟨_,wC,q,1,Os _,by omega,by omega,rfl,rfl⟩ ?_;rintro _ ⟨k,v,hk,hv0,hv1,hb,rfl⟩
 cases k with
 | zero=>
  have e0:decide ((0:Int)<=((0:Nat):Int) - 1)=false:=by decide
  repeat' first|refine ge e0 ?_|decide|refine sp ?_ ?_<;>intro _
  rw [<- hb];rfl
 | succ j=>
  have ej:((j+1:Nat):Int) - 1=(j:Int):=by omega
  have hj:j<l.length:=by omega
  simp only [ej];rw [j5,xq hj] at hb
  repeat' first|refine go ?_|simp only [hj,ab]|decide|refine sp ?_ ?_<;>intro _
  refine ay (nS _) ?_;have ha:=ma l[j];generalize aC l[j]=n at ha hb ⊢;have ew1:IntKind.i64.wrap (n - 1)=n - 1:=aD (by omega) (by omega);have ew2:IntKind.i64.wrap (v+(n - 1))=v+(n - 1):=aD (by omega) (by omega)
  repeat' first|refine go ?_|simp only [hj,ab,ew1,ew2]|decide|refine sp ?_ ?_<;>intro _
  .rename_i h;have h:n<0:=(by simpa using h);rw [<- hb,Vn h]
  .rename_i h h2;have h:¬ n<0:=(by simpa using h);have h2:v+(n - 1)=0:=(by simpa using h2);rw [<- hb,Vh h,Vn h2]
  .rename_i h h2;have h:¬ n<0:=(by simpa using h);have h2:¬ v+(n - 1)=0:=(by simpa using h2);rw [Vh h,Vh h2] at hb;have ew:IntKind.i64.wrap ((j:Int) - 1)=(j:Int) - 1:=aD (by omega) (by omega);exact rI (wE ew) ⟨j,v+(n - 1),by omega,by omega,by omega,hb,rfl⟩
theorem su (l:List Int) (hl:l.length<=1000000):aw Tryz.prog 12 [t4 l] (val (.int .i64 (be l))):=by
 refine aa ag Tryz.func12 rfl (by decide) Tryz.ntmps12 Tryz.results12 rfl (aL _) ?_;have ew:IntKind.i64.wrap ((l.length:Int) - 1)=(l.length:Int) - 1:=aD (by omega) (by omega)
 repeat' first|refine ge ew ?_|decide|refine sp ?_ ?_<;>intro _
 .rename_i h;have h:l.length=0:=by simpa using h
  simp [be,h]
 .rename_i h h2;have h:¬ l.length=0:=by simpa using h
  have h2:64<l.length:=by simp at h2;omega
  simp only [be,Vh h,Vn h2]
 .rename_i h h2;have h:¬ l.length=0:=by simpa using h
  have h2:¬ 64<l.length:=by simp at h2;omega
  refine ay (L4 l l.length (Os _) hl) ?_;have hz:=Jk (ops:=l) (by omega)
  repeat' first|refine go ?_|decide|refine sp ?_ ?_<;>intro _
  .rename_i h3
   have h3:¬ aZ l 0=some 1:=by
    rw [<- hz];simpa using h3
   simp only [be,Vh h,Vh h2,Vh h3]
  .rename_i h3
   have h3:aZ l 0=some 1:=by
    rw [<- hz];simpa using h3
   simp only [be,Vh h,Vh h2,Vn h3]
theorem zL (l:List ah) (hl:l.length<=1000000):aw Tryz.prog 139 [aR l] (iZ 101 9 (((l.map ah.op).take 70).map oq)):=by
 refine aa ag Tryz.func139 rfl (by decide) Tryz.ntmps139 Tryz.results139 rfl (cT _ _ _) ?_
 repeat' first|refine go ?_|decide|refine sp ?_ ?_<;>intro _
 refine af (fun st=>∃ k:Nat,k<=l.length /\ k<=70 /\ st=⟨25,[(0,aR l),(3,.osl 0),(4,eI (k:Int))],[(0,some (.row 101 9 (((l.map ah.op).take k).map oq)))],1⟩) (fun st=>l.length - ax st 4) ⟨_,((bA 3 101 9 (by simp only [jn,aj.get,bh,aj.put,↓reduceIte,reduceCtorEq,Nat.reduceLT,Nat.reduceEqDiff,Nat.reduceAdd,Nat.reduceLeDiff,eq_self,implies_true,VA])).trans (wS [0] @VA)),0,Vg _,by omega,rfl⟩ ?_;rintro _ ⟨k,hk,hk2,rfl⟩
 have hfin:¬ (k<l.length /\ k<70) -> ((l.map ah.op).take k)=((l.map ah.op).take 70):=fun h=>by
  by_cases h1:k=70
  .rw [h1]
  .rw [VK (by simp;omega),VK (by simp;omega)]
 by_cases hlt:k<l.length
 .by_cases h70:k<70
  .have e1:decide ((k:Int)<70)=true:=by simp;omega
   have et:((l.map ah.op).take (k+1)).map oq=((l.map ah.op).take k).map oq ++ [oq l[k].op]:=by
    rw [dT oq (l.map ah.op) (by simpa using hlt)];simp
   have hkl:((l.map ah.op).take k).length=k:=by simp;omega
   repeat' first|refine go ?_|simp only [ab,hlt,e1]|decide|refine sp ?_ ?_<;>intro _
   refine ⟨rfl,by omega,rI (wS [2] et) ⟨k+1,by omega,by omega,rfl⟩⟩
  .have e1:decide ((k:Int)<70)=false:=by simp;omega
   repeat' first|refine go ?_|simp only [ab,hlt,e1]|decide|refine sp ?_ ?_<;>intro _
   rw [<- hfin (by omega)];exact aY (by simp [ae.gc])
 .repeat' first|refine go ?_|simp only [ab,hlt]|decide|refine sp ?_ ?_<;>intro _
  rw [<- hfin (by omega)];exact aY (by simp [ae.gc])
theorem rF (l:List Int) (e:Nat) (he:e<l.length) (h:aC l[e]=0):aw Tryz.prog 52 [t4 l,eI (e:Int)] (val (.slice none 0 0)):=by
 refine aa ag Tryz.func52 rfl (by decide) Tryz.ntmps52 Tryz.results52 rfl (aL _) ?_
 repeat' first|refine go ?_|simp only [ab,he]|decide|refine sp ?_ ?_<;>intro _
 refine ay (nS _) ?_;rw [h];have e0:((0:Int) == 0)=true:=by decide
 repeat' first|refine ge e0 ?_|decide|refine sp ?_ ?_<;>intro _
theorem Om (l:List Int) (e:Nat) (he:e<l.length) (h:aC l[e]=1) (hl:l.length<=1000000):aw Tryz.prog 52 [t4 l,eI (e:Int)] (iZ 3 1 [[eI ((e:Int) - 1)]]):=by
 refine aa ag Tryz.func52 rfl (by decide) Tryz.ntmps52 Tryz.results52 rfl (cT _ _ _) ?_;have ew:IntKind.i64.wrap ((e:Int) - 1)=(e:Int) - 1:=aD (by omega) (by omega)
 repeat' first|refine go ?_|simp only [ab,he]|decide|refine sp ?_ ?_<;>intro _
 refine ay (nS _) ?_;rw [h]
 repeat' first|refine ge ew ?_|decide|refine sp ?_ ?_<;>intro _
 all_goals first
  | (refine ⟨rfl,aY (by simp [ae.gc])⟩;done)
  | (rename_i h;simp at h;done)
  | exact aY (by simp [ae.gc])
theorem Nl (l:List Int) (e:Nat) (he:e<l.length) (h:aC l[e]=2) (hl:l.length<=1000000):aw Tryz.prog 52 [t4 l,eI (e:Int)] (iZ 3 1 [[eI (j5 l e 1 - 1)],[eI ((e:Int) - 1)]]):=by
 refine aa ag Tryz.func52 rfl (by decide) Tryz.ntmps52 Tryz.results52 rfl (cT _ _ _) ?_;have ew:IntKind.i64.wrap ((e:Int) - 1)=(e:Int) - 1:=aD (by omega) (by omega)
 repeat' first|refine go ?_|simp only [ab,he]|decide|refine sp ?_ ?_<;>intro _
 refine ay (nS _) ?_;rw [h]
 repeat' first|refine ge ew ?_|decide|refine sp ?_ ?_<;>intro _
 all_goals first
  | (rename_i h;simp at h;done)
  | skip
 refine ay (L4 l e (by omega) hl) ?_
 have ew2:IntKind.i64.wrap (j5 l e 1 - 1)=j5 l e 1 - 1:=by
  rcases JM l e 1 with h|h<;>exact aD (by omega) (by omega)
 repeat' first|refine ge (kf ew ew2) ?_|decide|refine sp ?_ ?_<;>intro _
 exact ⟨rfl,aY (by simp [ae.gc])⟩
def sd (vals:List Int) (a:Int):Bool:=decide (-1<=a) && decide (a<(vals.length:Int))
theorem yz (s:St) (a n:Int):aw Tryz.prog 172 [.agg (gE s),.agg [eI a,eI n]] (val (.bool (sd s.vals a))):=by
 refine aa ag Tryz.func172 rfl (by decide) Tryz.ntmps172 Tryz.results172 rfl (aL _) ?_;unfold sd
 repeat' first|refine go ?_|decide|refine sp ?_ ?_<;>intro _
 all_goals (rename_i h;rw [h];simp)
theorem J6 (s:St) (a n v:Int) (h:tb s.vals a n=some v):aw Tryz.prog 174 [.agg (gE s),.agg [eI a,eI n]] (val (.int .i64 v)):=by
 refine aa ag Tryz.func174 rfl (by decide) Tryz.ntmps174 Tryz.results174 rfl (aL _) ?_;unfold tb at h;by_cases h1:a = -1
 .rw [Vn h1] at h;cases h;subst h1;have e0:((-1:Int) == -1)=true:=by decide
  repeat' first|refine ge e0 ?_|decide|refine sp ?_ ?_<;>intro _
 .rw [Vh h1] at h;by_cases h2:a<0
  .rw [Vn h2] at h;cases h
  .rw [Vh h2] at h;obtain ⟨k,rfl⟩:∃ k:Nat,a=(k:Int):=⟨a.toNat,by omega⟩;obtain ⟨hk,rfl⟩:=Vd.1 h;simp only [WA] at hk;have e1:((k:Int) == -1)=false:=by rw [VN];omega
   repeat' first|refine go ?_|simp only [ab,hk,e1]|decide|refine sp ?_ ?_<;>intro _
theorem SD (op a b:Int):aw Tryz.prog 173 [eI op,eI a,eI b] (val (.bool (Tj op (yY a b)))):=by
  refine aa ag Tryz.func173 rfl (by decide) Tryz.ntmps173 Tryz.results173 rfl (aL _) ?_
  repeat' first|refine go ?_|decide|refine sp ?_ ?_<;>intro _
  all_goals
    (simp only [Wv,VN,ne_eq] at *
     simp_all [Tj,yY]
     try ((repeat' split)<;>simp_all<;>omega))
end
section
theorem qO {l:List Int}:∀ row ∈ l.map oq,∀ av ∈ row,av.plain:=fun row hr av ha=>by
 obtain ⟨n,_,rfl⟩:=Vt.1 hr;simp [oq] at ha;rcases ha with rfl|rfl|rfl|rfl|rfl|rfl|rfl|rfl|rfl<;>trivial
def qo (attrs:Bool) (op:Int):Bool:=attrs && decide (3<=op) && decide (op<=8)
theorem I1 (vals:List Int) (x:ah) (attrs:Bool):iX vals attrs x = !((decide (18<x.op) || (decide (10<x.op) && decide (x.op<15))) || (qo attrs x.op && (!sd vals x.la || !sd vals x.ra))):=by
 unfold iX qo sd;simp only [Bool.and_assoc,Bool.or_assoc]
theorem vp (l:List ah) (s:St) (attrs:Bool) (hl:l.length<=1000000) (b:Bool) (hb:b=true ↔ (be (l.map ah.op)=0 /\ ∀ x ∈ l,iX s.vals attrs x=true)):aw Tryz.prog 137 [aR l,.agg (gE s),eB attrs] (val (.bool b)):=by
 refine aa ag Tryz.func137 rfl (by decide) Tryz.ntmps137 Tryz.results137 rfl (aL _) ?_
 have h70:be ((l.map ah.op).take 70)=be (l.map ah.op):=by
  by_cases h:l.length<=70
  .rw [VK (by simpa using h)]
  .have e7:((l.map ah.op).take 70).length=70:=by rw [Vr,Vo];omega
   have e8:(l.map ah.op).length=l.length:=Vo ..;unfold be;rw [Vh (by omega),Vn (by omega),Vh (by omega),Vn (by omega)]
 repeat' first|refine go ?_|decide|refine sp ?_ ?_<;>intro _
 refine dM (zL l hl) (.inr qO) ?_
 repeat' first|refine go ?_|decide|refine sp ?_ ?_<;>intro _
 refine ay (su _ (by simp;omega)) ?_;rw [h70]
 repeat' first|refine go ?_|decide|refine sp ?_ ?_<;>intro _
 .rename_i h;symm;rw [Wi];intro h2;have h3:=(hb.1 h2).1;simp [h3] at h
 .rename_i h;have hc:be (l.map ah.op)=0:=by simpa using h
  refine af (fun st=>∃ k:Nat,k<=l.length /\ (∀ i (hi:i<l.length),i<k -> iX s.vals attrs l[i]=true) /\ st=⟨65,[(0,aR l),(2,eB attrs),(4,.op 0 0 0),(7,eI (k:Int))],[(0,some (.box 132 (gE s)))],1⟩) (fun st=>l.length - ax st 7) ⟨_,wC,0,Vg _,fun i _ h=>by omega,rfl⟩ ?_;rintro _ ⟨k,hk,hI,rfl⟩;by_cases hlt:k<l.length
  .have hno:iX s.vals attrs l[k]=false -> b=false:=fun h2=>by
    rw [Wi];intro h3;rw [(hb.1 h3).2 _ (Vf hlt)] at h2;cases h2
   have hyes:iX s.vals attrs l[k]=true -> ∀ i (hi:i<l.length),i<k+1 -> iX s.vals attrs l[i]=true:=fun h2 i hi h3=>by
    rcases Vv i k with h4|h4
    .exact hI i hi h4
    .obtain rfl:i=k:=by omega
     exact h2
   rw [I1] at hno hyes;generalize hx:l[k]=x at hno hyes;obtain ⟨op,la,ln,ra,rn,n,u⟩:=x;simp only at hno hyes;have ex:bX l[k]=[eI op,eI la,eI ln,eI ra,eI rn,eI n,eI u]:=(by rw [hx]);have eop:l[k].op=op:=(by rw [hx])
   repeat' first|refine go ?_|simp only [ab,hlt,ex,eop]|decide|refine sp ?_ ?_<;>intro _
   refine aA (by kernel_rfl) ?_
   repeat' first|refine go ?_|simp only [ab,hlt,ex,eop]|decide|refine sp ?_ ?_<;>intro _
   all_goals first
    | (symm;exact hno (by simp [qo, *]))
    | exact rI wC ⟨k+1,by omega,hyes (by simp [qo, *]),rfl⟩
    | skip
   all_goals
    refine aP (yz s la ln) ?_
    repeat' first|refine go ?_|simp only [ab,hlt,ex,eop]|decide|refine sp ?_ ?_<;>intro _
    all_goals first
     | (symm;exact hno (by simp [qo, *]))
     | exact rI wC ⟨k+1,by omega,hyes (by simp [qo, *]),rfl⟩
     | skip
   all_goals
    refine aP (yz s ra rn) ?_
    repeat' first|refine go ?_|simp only [ab,hlt,ex,eop]|decide|refine sp ?_ ?_<;>intro _
    all_goals first
     | (symm;exact hno (by simp [qo, *]))
     | exact rI wC ⟨k+1,by omega,hyes (by simp [qo, *]),rfl⟩
     | skip
  .obtain rfl:k=l.length:=by omega
   repeat' first|refine go ?_|simp only [ab,hlt]|decide|refine sp ?_ ?_<;>intro _
   symm;exact hb.2 ⟨hc,fun x hx=>by obtain ⟨i,hi,rfl⟩:=VB hx;exact hI i hi hi⟩
theorem Nq {s:St} {x:ah} {c:Int} (h:yb s.vals x=some c):∃ a b,tb s.vals x.la x.ln=some a /\ tb s.vals x.ra x.rn=some b /\ c=yY a b:=by
 unfold yb at h;split at h
 .rename_i a b ha hb;cases h;exact ⟨a,b,ha,hb,rfl⟩
 .cases h
theorem Kl (l:List ah) (s:St) (hl:l.length<=70) (ho:aI s.opn) (hd:aI s.don):∀ (n e:Nat) (he:e<l.length) (v:Bool) (r:List Bool),e<n -> da (yb s.vals) s.opn s.don (l.take (e+1)) []=some (v :: r) ->
  aw Tryz.prog 138 [aR l,t4 (l.map ah.op),eI (e:Int),.agg (gE s)] (val (.bool v))
 | 0,e,he,v,r,hn,_=>by omega
 | n+1,e,he,v,r,hn,hr=>by
  refine aa ag Tryz.func138 rfl (by decide) Tryz.ntmps138 Tryz.results138 rfl (aL _) ?_;obtain ⟨r0,h1,h2⟩:=mI he hr;have hel:e<(l.map ah.op).length:=by simpa using he
  have eo:(l.map ah.op)[e]=l[e].op:=by simp
  have ih:=Kl l s hl ho hd n;have z1:(0:Int)<((1:Nat):Int):=by decide
  have z2:(0:Int)<((2:Nat):Int):=by decide
  have z3:(1:Int)<((2:Nat):Int):=by decide
  generalize hx:l[e]=x at h2 eo;obtain ⟨op,la,ln,ra,rn,xn,u⟩:=x;have ex:bX l[e]=[eI op,eI la,eI ln,eI ra,eI rn,eI xn,eI u]:=by rw [hx]
  simp only at eo;unfold dN at h2;simp only at h2;split at h2
  .rename_i hop;have ha:aC (l.map ah.op)[e]=0:=by rw [eo];unfold aC;rw [Vn (by omega)]
   have hk:=rF (l.map ah.op) e hel ha;simp at h2;rcases hop with rfl|rfl
   .have hv:v=true:=by rw [<- h2.1];rfl
    subst hv
    repeat' first|refine go ?_|simp only [ab,he,ex]|decide|refine sp ?_ ?_<;>intro _
    refine ay hk ?_;have e1:((1:Int) == 1)=true:=(by decide)
    repeat' first|refine ge e1 ?_|decide|refine sp ?_ ?_<;>intro _
   .have hv:v=false:=by rw [<- h2.1];rfl
    subst hv
    repeat' first|refine go ?_|simp only [ab,he,ex]|decide|refine sp ?_ ?_<;>intro _
    refine ay hk ?_
    repeat' first|refine go ?_|simp only [Int.reduceBEq]|decide|refine sp ?_ ?_<;>intro _
  split at h2
  .rename_i hop;have ha:aC (l.map ah.op)[e]=0:=by rw [eo];unfold aC;rw [Vn (by omega)]
   have hk:=rF (l.map ah.op) e hel ha;split at h2
   .rename_i c hc;obtain ⟨a,b,hva,hvb,rfl⟩:=Nq hc;simp only at hva hvb;cases h2;have h6:op=3 \/ op=4 \/ op=5 \/ op=6 \/ op=7 \/ op=8:=(by omega);rcases h6 with rfl|rfl|rfl|rfl|rfl|rfl
    all_goals
     repeat' first|refine go ?_|simp only [ab,he,ex]|decide|refine sp ?_ ?_<;>intro _
     refine ay hk ?_
     repeat' first|refine go ?_|simp only [Int.reduceBEq]|decide|refine sp ?_ ?_<;>intro _
     refine aA (by kernel_rfl) ?_
     repeat' first|refine go ?_|decide|refine sp ?_ ?_<;>intro _
     refine aP (J6 s la ln a hva) ?_
     repeat' first|refine go ?_|decide|refine sp ?_ ?_<;>intro _
     refine aP (J6 s ra rn b hvb) ?_
     repeat' first|refine go ?_|decide|refine sp ?_ ?_<;>intro _
     refine aP (SD _ a b) ?_
     repeat' first|refine go ?_|decide|refine sp ?_ ?_<;>intro _
   .cases h2
  split at h2
  .rename_i hop;have ha:aC (l.map ah.op)[e]=0:=by rw [eo];unfold aC;rw [Vn (by omega)]
   have hk:=rF (l.map ah.op) e hel ha;subst hop;cases h2
   repeat' first|refine go ?_|simp only [ab,he,ex]|decide|refine sp ?_ ?_<;>intro _
   refine ay hk ?_
   repeat' first|refine go ?_|simp only [Int.reduceBEq]|decide|refine sp ?_ ?_<;>intro _
   refine ay (eJ s.opn xn ho) ?_
   repeat' first|refine go ?_|decide|refine sp ?_ ?_<;>intro _
  split at h2
  .rename_i hop;have ha:aC (l.map ah.op)[e]=0:=by rw [eo];unfold aC;rw [Vn (by omega)]
   have hk:=rF (l.map ah.op) e hel ha;subst hop;cases h2
   repeat' first|refine go ?_|simp only [ab,he,ex]|decide|refine sp ?_ ?_<;>intro _
   refine ay hk ?_
   repeat' first|refine go ?_|simp only [Int.reduceBEq]|decide|refine sp ?_ ?_<;>intro _
   refine ay (eJ s.don xn hd) ?_
   repeat' first|refine go ?_|decide|refine sp ?_ ?_<;>intro _
  have hpre:∀ (a:Bool) (q:List Bool),r0=a :: q -> ∃ e0,e=e0+1:=fun a q hq=>by
   cases e with
   | zero=>
    simp [da] at h1;rw [h1] at hq;cases hq
   | succ e0=>exact ⟨e0,rfl⟩
  split at h2
  .rename_i hop;have ha:aC (l.map ah.op)[e]=1:=by rw [eo];unfold aC;rw [Vh (by omega),Vn (by omega)]
   have hk:=Om (l.map ah.op) e hel ha (by simp;omega);subst hop;split at h2
   .rename_i a q;obtain ⟨e0,rfl⟩:=hpre a q rfl;have ee:((e0+1:Nat):Int) - 1=(e0:Int):=(by omega);rw [ee] at hk;have h3:=ih e0 (by omega) a q (by omega) h1;cases h2
    repeat' first|refine go ?_|simp only [ab,he,ex]|decide|refine sp ?_ ?_<;>intro _
    refine dM hk (.inr (fr (l:=[(e0:Int)]))) ?_
    repeat' first|refine go ?_|simp only [Int.reduceBEq]|decide|refine sp ?_ ?_<;>intro _
    refine aA (by kernel_rfl) ?_
    repeat' first|refine go ?_|simp only [Int.reduceLT,Int.reduceLE,Xx,z1,z2,z3]|decide|refine sp ?_ ?_<;>intro _
    refine aP h3 ?_
    repeat' first|refine go ?_|decide|refine sp ?_ ?_<;>intro _
   .cases h2
  split at h2
  .rename_i hop;have ha:aC (l.map ah.op)[e]=2:=by rw [eo];unfold aC;rw [Vh (by omega),Vh (by omega),Vn (by omega)]
   have hk:=Nl (l.map ah.op) e hel ha (by simp;omega);split at h2
   .rename_i b a q;obtain ⟨e0,rfl⟩:=hpre b (a :: q) rfl;have ee:((e0+1:Nat):Int) - 1=(e0:Int):=(by omega);have h3:=ih e0 (by omega) b (a :: q) (by omega) h1;obtain ⟨bg,h4,h5,h6⟩:=Kd (by omega) h1
    have h7:∃ b0,bg=b0+1:=by
     cases bg with
     | zero=>simp [da] at h6
     | succ b0=>exact ⟨b0,rfl⟩
    obtain ⟨b0,rfl⟩:=h7;have eb:((b0+1:Nat):Int) - 1=(b0:Int):=(by omega);rw [ee,h5,eb] at hk;have h8:=ih b0 (by omega) a q (by omega) h6;cases h2;have h9:op=16 \/ op=17 \/ op=18:=(by omega);rcases h9 with rfl|rfl|rfl
    all_goals
     repeat' first|refine go ?_|simp only [ab,he,ex]|decide|refine sp ?_ ?_<;>intro _
     refine dM hk (.inr (fr (l:=[(b0:Int),(e0:Int)]))) ?_
     repeat' first|refine go ?_|simp only [Int.reduceBEq]|decide|refine sp ?_ ?_<;>intro _
     refine aA (by kernel_rfl) ?_
     repeat' first|refine go ?_|simp only [Int.reduceLT,Int.reduceLE,Xx,z1,z2,z3]|decide|refine sp ?_ ?_<;>intro _
     refine aP h8 ?_
     repeat' first|refine go ?_|simp only [Int.reduceLT,Int.reduceLE,Xx,z1,z2,z3,Int.toNat_one]|decide|refine sp ?_ ?_<;>intro _
     all_goals first|(refine aP h3 ?_;(repeat' (first|refine go ?_|decide|refine sp ?_ ?_<;>intro _)))|skip
     all_goals first|rfl|(simp_all;done)
   .cases h2
  .cases h2
end
section
theorem NR (l:List Int) (i:Int) (k d:Nat) (x:Int) (h:iy l i k=rY l x) (hx:¬ iJ l x):iy l i (k+d) = -1:=
 yd l i k (by rw [h];exact ((je l x).resolve_left fun hh=>hx hh.1).2) d
theorem QU (l:List Int) (v:Value) (i n:Int) (w:World) (hl:l.length<=1073741824) (hn0:0<=n) (hn:n<=4294967296) (hv:RI w v l) :
  Calls Tryz.prog 107 #[v,.int .i64 i,.int .i64 n] w fun e w'=>e=.returned (.int .i64 (iy l i n.toNat)) /\ w=w':=by
 obtain ⟨A,c,rfl,hc⟩:=hv.form;obtain ⟨N,rfl⟩:=Xy hn0;rw [WA]
 go_enter Tryz.func107,Tryz.ntmps107
 go_wp2_with fail
 go_loop [1,7] (fun x j=>∃ (k:Nat) (y:Int),k<=N /\ j=.int .i64 (k:Int) /\ x=.int .i64 y /\ iy l i k=rY l y) (fun x j=>N - (intOf j).toNat)
 case atStart=>exact ⟨0,i,Vg _,rfl,rfl,rfl⟩
 case round=>
  obtain ⟨k,y,hk,rfl,rfl,hup⟩:=hrel;by_cases hlt:k<N
  .by_cases hy:iJ l y
   .obtain ⟨hy1,hy2⟩:=hy;obtain ⟨z,rfl⟩:=Xy hy1;obtain ⟨b,o,rfl,hcell,hb1,hb2⟩:=hv.at_ (show z<l.length by omega)
    have e:iy l i (k+1)=rY l (l.getD z 0):=by
     show mG l (iy l i k)=_;rw [hup,z8];unfold mG;rw [Vn ⟨hy1,hy2⟩];simp
    have E:=aG e;clear hup e;generalize l.getD z 0=y' at *
    go_wp2_with fail
    go_round
    case rel=>exact ⟨k+1,y',by omega,by go_num,rfl,E.out⟩
    case measure=>simp [intOf];omega
   .have e:=NR l i k (N - k) y hup hy;rw [show k+(N - k)=N from by omega] at e;have E:=aG e;clear e hup;by_cases h0:0<=y
    .have h1:(l.length:Int)<=y:=by unfold iJ at hy;omega
     clear hy
     go_wp2_with fail
     go_ret
     rw [E.out];exact ⟨rfl,rfl⟩
    .clear hy
     go_wp2_with fail
     go_ret
     rw [E.out];exact ⟨rfl,rfl⟩
  .obtain rfl:k=N:=by omega
   by_cases hy:iJ l y
   .have e:iy l i k=y:=by rw [hup];exact ((je l y).resolve_right fun hh=>hh.1 hy).2
    have E:=aG e;clear e hup;obtain ⟨hy1,hy2⟩:=hy
    go_wp2_with fail
    go_ret
    rw [E.out];exact ⟨rfl,rfl⟩
   .have e:iy l i k = -1:=by rw [hup];exact ((je l y).resolve_left fun hh=>hy hh.1).2
    have E:=aG e;clear e hup;by_cases h0:0<=y
    .have h1:(l.length:Int)<=y:=by unfold iJ at hy;omega
     clear hy
     go_wp2_with fail
     go_ret
     rw [E.out];exact ⟨rfl,rfl⟩
    .clear hy
     go_wp2_with fail
     go_ret
     rw [E.out];exact ⟨rfl,rfl⟩
noncomputable instance (l:List Int) (a i:Int):Decidable (Nu l a i):=Classical.propDecidable _
theorem Ii (l:List Int) (v:Value) (a i:Int) (w:World) (hl:l.length<=1073741824) (hv:RI w v l) :
  Calls Tryz.prog 66 #[v,.int .i64 a,.int .i64 i] w fun e w'=>e=.returned (.bool (decide (Nu l a i))) /\ w=w':=by
 obtain ⟨A,c,rfl,hc⟩:=hv.form
 go_enter Tryz.func66,Tryz.ntmps66
 go_wp2_with fail
 go_loop [7] (fun j=>∃ k:Nat,1<=k /\ k<=l.length+1 /\ j=.int .i64 (k:Int) /\ ∀ m,1<=m -> m<k -> ¬ (0<=a /\ iy l i m=a)) (fun j=>l.length+1 - (intOf j).toNat)
 case atStart=>exact ⟨1,Os _,by omega,rfl,fun m h1 h2=>by omega⟩
 case round=>
  obtain ⟨k,hk1,hk,rfl,hno⟩:=hrel;have Hno:=aG hno;clear hno;by_cases hlt:k<=l.length
  .have hup:=QU l _ i (k:Int) w hl (by omega) (by omega) hv;rw [WA] at hup;have hyes:0<=a -> iy l i k=a -> decide (Nu l a i)=true:=fun h1 h2=>VC ⟨k,hk1,hlt,h1,h2⟩
   have hnext:¬ (0<=a /\ iy l i k=a) -> ∀ m,1<=m -> m<k+1 -> ¬ (0<=a /\ iy l i m=a):=fun h m h1 h2=>by
    by_cases e:m=k
    .subst e;exact h
    .exact Hno.out m h1 (by omega)
   have Hup:=aG hup;have Hyes:=aG hyes;have Hnext:=aG hnext;clear hup hyes hnext Hno;generalize iy l i k=y at *;by_cases h0:0<=a
   .by_cases h1:y=a
    .have h2:(y == a)=true:=(by simpa using h1);have E:=aG (Hyes.out h0 h1);clear h1
     go_wp2_with (go_at_call 107;refine Hup.out.mono ?_;rintro e w' ⟨rfl,rfl⟩)
     go_ret
     rw [E.out];exact ⟨rfl,rfl⟩
    .have h2:(y == a)=false:=(by simpa using h1);have E:=aG (Hnext.out (fun hh=>h1 hh.2));clear h1
     go_wp2_with (go_at_call 107;refine Hup.out.mono ?_;rintro e w' ⟨rfl,rfl⟩)
     go_round
     case rel=>exact ⟨k+1,by omega,by omega,by go_num,E.out⟩
     case measure=>simp [intOf];omega
   .have E:=aG (Hnext.out (fun hh=>h0 hh.1))
    go_wp2_with fail
    go_round
    case rel=>exact ⟨k+1,by omega,by omega,by go_num,E.out⟩
    case measure=>simp [intOf];omega
  .have e:decide (Nu l a i)=false:=by
    refine Vu fun ⟨m,h1,h2,h3,h4⟩=>Hno.out m h1 (by omega) ⟨h3,h4⟩
   have E:=aG e;clear e
   go_wp2_with fail
   go_ret
   rw [E.out];exact ⟨rfl,rfl⟩
end
section
theorem BK (l:List Int) (k:Nat) (hk:k<l.length) (hno:∀ j,j<k -> ¬ pi l (j:Int)) (hy:pi l (k:Int)):kH l=(k:Int):=by
 unfold kH
 have:(List.range l.length).find? (fun (i:Nat)=>decide (pi l (i:Int)))=some k:=by
  rw [List.find?_range_eq_some];exact ⟨by simpa using hy,by simpa using hk,fun j hj=>by simpa using hno j hj⟩
 rw [this];rfl
theorem Fv (l:List Int) (hno:∀ j,j<l.length -> ¬ pi l (j:Int)):kH l = -1:=by
 unfold kH
 have:(List.range l.length).find? (fun (i:Nat)=>decide (pi l (i:Int)))=none:=by
  rw [List.find?_eq_none];intro j hj;simpa using hno j (by simpa using hj)
 rw [this];rfl
theorem ug (l:List Int) (v:Value) (w:World) (hl:l.length<=1073741824) (hv:RI w v l) :
  Calls Tryz.prog 29 #[v] w fun e w'=>e=.returned (.int .i64 (kH l)) /\ Below w.heap.size w w':=by
 obtain ⟨A,c,rfl,hc⟩:=hv.form
 go_enter Tryz.func29,Tryz.ntmps29
 go_wp2_with fail
 go_loop [3] (fun j=>∃ k:Nat,k<=l.length /\ j=.int .i64 (k:Int) /\ ∀ m,m<k -> ¬ pi l (m:Int)) (fun j=>l.length - (intOf j).toNat)
 case atStart=>exact ⟨0,Vg _,rfl,fun m hm=>by omega⟩
 case round=>
  obtain ⟨k,hk,rfl,hno⟩:=hrel;have Hno:=aG hno;clear hno;by_cases hlt:k<l.length
  .have ha:=Ii l _ (k:Int) (k:Int) w hl hv;have hci:=Kb l (k:Int) ⟨by omega,by omega⟩
   have e:decide (Nu l (k:Int) (k:Int))=decide (pi l (k:Int)):=by
    refine decide_eq_decide.2 ⟨fun ⟨j,h1,h2,_,h3⟩=>hci.2 ⟨j,h1,h2,h3⟩,fun h=>?_⟩;obtain ⟨j,h1,h2,h3⟩:=hci.1 h;exact ⟨j,h1,h2,by omega,h3⟩
   rw [e] at ha;by_cases hy:pi l (k:Int)
   .rw [VC hy] at ha;have Ha:=aG ha;have E:=aG (BK l k hlt Hno.out hy);clear ha e hci hy
    go_wp2_with (go_at_call 66;refine Ha.out.mono ?_;rintro e w2 ⟨rfl,rfl⟩)
    go_ret
    rw [E.out];exact ⟨rfl,Below.refl _ _⟩
   .rw [Vu hy] at ha;have Ha:=aG ha;have Hy:=aG hy;clear ha e hci hy
    go_wp2_with (go_at_call 66;refine Ha.out.mono ?_;rintro e w2 ⟨rfl,rfl⟩)
    go_round
    case rel=>
     refine ⟨k+1,by omega,by go_num,fun m hm=>?_⟩;by_cases e:m=k
     .subst e;exact Hy.out
     .exact Hno.out m (by omega)
    case measure=>simp [intOf];omega
  .obtain rfl:k=l.length:=by omega
   have E:=aG (Fv l Hno.out)
   go_wp2_with fail
   go_ret
   rw [E.out];exact ⟨rfl,Below.refl _ _⟩
end
section
theorem rT {w:World} {base:Nat} {e:TypeId} {g n c:Nat} {xs:List Value} (h:w.ownsRow base e 1 (.slice (some ⟨g,0,none⟩) n c) n xs) {k:Nat} (hk:k<=n):w.ownsRow base e 1 (.slice (some ⟨g,0,none⟩) k c) k (xs.take k):=by
 obtain ⟨hl,h|⟨g',cap,cur,hv,hb,hg,hn,hm,hs,ht⟩⟩:=h
 .exact absurd h.1 (by simp)
 .simp at hv;obtain ⟨rfl,rfl⟩:=hv;refine ⟨by simp at hl ⊢;omega,.inr ⟨g,c,cur,rfl,hb,hg,by omega,hm,hs,?_⟩⟩;rw [<- ht,List.take_take]
  congr 1
  omega
theorem qU (w:World) (v:Value) (t:TypeId):∀ j u,[v][j]? = some u -> (w.alloc (.cells #[v] t)).cell? ((⟨w.heap.size,0,none⟩:Addr).add j)=some u:=mf w [v] t
theorem pa (w:World) (v:Value) (t:TypeId):∀ j u,[v][j]? = some u -> ((w.alloc (.cells #[v] t)).drew).cell? ((⟨w.heap.size,0,none⟩:Addr).add j)=some u:=mf w [v] t
theorem tT:(Tryz.prog.info? 166).map (fun i=>(i.zero,i.size,i.bytes))=some (some .nilIface,1,16):=by kernel_rfl
theorem nY (t:TypeId) (x:Value):∀ u ∈ [Value.iface t x],u.oneCell'=true:=by intro u hu;simp at hu;subst hu;rfl
def E8 (p:TypeId × Value):Value:=.iface p.1 p.2
def o9 (base d:Nat) (ok:Bool) (w:World) (B:Nat) (e:Ending) (w':World):Prop:=∃ v xs,e=.returned (.tuple #[v,.bool ok]) /\ w'.ownsRow base 166 1 v d (List.map E8 xs) /\ Below B w w'
theorem TV (op i:Int) (v:Value) (n base B:Nat) (xs:List (TypeId × Value)) (w:World) (ho:aC op=0) (hown:w.ownsRow base 166 1 v n (xs.map E8)) (hn:n<=1000) (hB:B<=base) (hb:base<=w.heap.size) :
  Calls Tryz.prog 127 #[v,.int .i64 op,.int .i64 i] w (o9 base (n+1) true w B):=by
 obtain ⟨i0,hi0,hz0,hz1,hz2⟩:=info_parts tT;have Ho:=aG ho;clear ho;obtain ⟨A,c,rfl,hc⟩:=eV hown
 go_enter Tryz.func127,Tryz.ntmps127
 go_wp2_with (first
  | (go_at_call 37;refine (j0 _ _).mono ?_;rintro e w' ⟨rfl,rfl⟩;rw [Ho.out])
  | (at_builtin;refine wpList_append_own _ rfl _ _ 203 rfl base 166 i0 .nilIface 1 16 Tryz.underlying203 hi0 hz0 hz1 hz2 rfl (by decide) _ _ _ rfl (hown.alloc _) ⟨w.heap.size,0,none⟩ 1 1 [.iface 228 (.agg #[.int .i64 i])] rfl rfl (qU _ _ _) (nY _ _) (by unfold maxLen;omega) (by omega) (by simp;omega) ?_;intro v' w1 hown' hgrow _))
 go_ret2
 exact ⟨v',xs ++ [(228,.agg #[.int .i64 i])],rfl,by rw [VE];exact hown',((Below.refl _ _).alloc (by omega) _).grown hgrow (by simp;omega) (fun k hk=>by have:=(hown.lt k hk).1;omega)⟩
theorem Tx (op i:Int) (v:Value) (n base B:Nat) (xs:List (TypeId × Value)) (w:World) (ho:aC op=1) (h1:1<=n) (hown:w.ownsRow base 166 1 v n (xs.map E8)) (hn:n<=1000) (hB:B<=base) (hb:base<=w.heap.size) :
  Calls Tryz.prog 127 #[v,.int .i64 op,.int .i64 i] w (o9 base n true w B):=by
 obtain ⟨i0,hi0,hz0,hz1,hz2⟩:=info_parts tT;have Ho:=aG ho;clear ho;obtain ⟨g,c,rfl,hc,hgb,hgw⟩:=og hown (by omega);have hlen:=hown.1;rw [Vo] at hlen;obtain ⟨xt,xv,hx⟩:∃ xt xv,(xs.map E8)[n - 1]? = some (.iface xt xv):=⟨(xs[n - 1]'(by omega)).1,(xs[n - 1]'(by omega)).2,by rw [Ve,f4 (by omega)];rfl⟩;have hcell:=iq hown rfl hx;have hown2:=rT hown (k:=n - 1) (by omega);have Hown:=aG hown;have Hx:=aG hx;have Hlen:=aG hlen;clear hown hx hlen
 go_enter Tryz.func127,Tryz.ntmps127
 go_wp2_with (first
  | (go_at_call 37;refine (j0 _ _).mono ?_;rintro e w' ⟨rfl,rfl⟩;rw [Ho.out])
  | fail)
 have s1:IntKind.i64.wrap ((n:Int) - 1)=(n:Int) - 1:=IntWalk.i64_in _ (by omega);have s2:0<=(n:Int) - 1:=by omega
 have s3:((n:Int) - 1).toNat=n - 1:=by omega
 have s4:(n:Int) - 1<=(c:Int):=by omega
 have s5:(n:Int) - 1<(n:Int):=by omega
 go_region_law (refine step_append_lies _ rfl (.tmp 33) (.tmp 42) 203 rfl base 166 i0 .nilIface 1 16 Tryz.underlying203 hi0 hz0 hz1 hz2 rfl (by decide) _ (n - 1) _ rfl (hown2.alloc _).drew ⟨w.heap.size,0,none⟩ 1 1 [.iface 230 (.agg #[.int .i64 i,.iface xt xv])] rfl rfl (pa _ _ _) (nY _ _) (by omega) (by unfold maxLen;omega) (by omega) (by simp;omega) _ rfl ?_;intro g2 c2 w2 hown3 hg2 hat hlt)
 have h4:w2.ownsRow base 166 1 (.slice (some ⟨g2,0,none⟩) n c2) n (List.map E8 (xs.take (n - 1) ++ [(230,.agg #[.int .i64 i,.iface xt xv])])):=by
  have h:=hown3;rw [VE,List.map_take];rw [show n - 1+1=n by omega] at h;exact h
 have hbl:Below B w w2:=(((Below.refl _ _).alloc (by omega) _).drew).grown hg2 (by simp;omega) (fun k hk=>by have:=(hown2.lt k hk).1;omega)
 go_wp2_with fail
 go_ret2
 exact ⟨_,_,rfl,h4,hbl⟩
theorem TB (op i:Int) (v:Value) (n base B:Nat) (xs:List (TypeId × Value)) (w:World) (ho:aC op=2) (h1:2<=n) (hown:w.ownsRow base 166 1 v n (xs.map E8)) (hn:n<=1000) (hB:B<=base) (hb:base<=w.heap.size) :
  Calls Tryz.prog 127 #[v,.int .i64 op,.int .i64 i] w (o9 base (n - 1) true w B):=by
 obtain ⟨i0,hi0,hz0,hz1,hz2⟩:=info_parts tT;have Ho:=aG ho;clear ho;obtain ⟨g,c,rfl,hc,hgb,hgw⟩:=og hown (by omega);have hlen:=hown.1;rw [Vo] at hlen;obtain ⟨xt,xv,hx⟩:∃ xt xv,(xs.map E8)[n - 1]? = some (.iface xt xv):=⟨(xs[n - 1]'(by omega)).1,(xs[n - 1]'(by omega)).2,by rw [Ve,f4 (by omega)];rfl⟩;obtain ⟨yt,yv,hy⟩:∃ xt xv,(xs.map E8)[n - 2]? = some (.iface xt xv):=⟨(xs[n - 2]'(by omega)).1,(xs[n - 2]'(by omega)).2,by rw [Ve,f4 (by omega)];rfl⟩;have hcell:=iq hown rfl hx;have hcelly:=iq hown rfl hy;have hown2:=rT hown (k:=n - 2) (by omega);have Hown:=aG hown;have Hx:=aG hx;have Hy:=aG hy;have Hlen:=aG hlen;clear hown hx hlen hy
 go_enter Tryz.func127,Tryz.ntmps127
 go_wp2_with (first
  | (go_at_call 37;refine (j0 _ _).mono ?_;rintro e w' ⟨rfl,rfl⟩;rw [Ho.out])
  | fail)
 have s1:IntKind.i64.wrap ((n:Int) - 1)=(n:Int) - 1:=IntWalk.i64_in _ (by omega);have s2:0<=(n:Int) - 1:=by omega
 have s3:((n:Int) - 1).toNat=n - 1:=by omega
 have s5:(n:Int) - 1<(n:Int):=by omega
 have s6:IntKind.i64.wrap ((n:Int) - 2)=(n:Int) - 2:=IntWalk.i64_in _ (by omega);have s7:0<=(n:Int) - 2:=by omega
 have s8:((n:Int) - 2).toNat=n - 2:=by omega
 have s9:(n:Int) - 2<=(c:Int):=by omega
 have s10:(n:Int) - 2<(n:Int):=by omega
 have s11:(1:Int)<=(n:Int):=by omega
 have s12:(2:Int)<=(n:Int):=by omega
 go_region_law (refine step_append_lies _ rfl (.tmp 54) (.tmp 68) 203 rfl base 166 i0 .nilIface 1 16 Tryz.underlying203 hi0 hz0 hz1 hz2 rfl (by decide) _ (n - 2) _ rfl (hown2.alloc _).drew ⟨w.heap.size,0,none⟩ 1 1 [.iface 232 (.agg #[.int .i64 i,.iface yt yv,.iface xt xv])] rfl rfl (pa _ _ _) (nY _ _) (by omega) (by unfold maxLen;omega) (by omega) (by simp;omega) _ rfl ?_;intro g2 c2 w2 hown3 hg2 hat hlt)
 all_goals
  have h4:w2.ownsRow base 166 1 (.slice (some ⟨g2,0,none⟩) (n - 2+1) c2) (n - 1) (List.map E8 (xs.take (n - 2) ++ [(232,.agg #[.int .i64 i,.iface yt yv,.iface xt xv])])):=by
   have h:=hown3;rw [VE,List.map_take];rw [show n - 2+1=n - 1 by omega] at h ⊢;exact h
  have hbl:Below B w w2:=(((Below.refl _ _).alloc (by omega) _).drew).grown hg2 (by simp;omega) (fun k hk=>by have:=(hown2.lt k hk).1;omega)
  go_wp2_with fail
  go_ret2
  exact ⟨_,_,rfl,h4,hbl⟩
theorem Qz (op i:Int) (v:Value) (n base B:Nat) (xs:List (TypeId × Value)) (w:World) (ho:bU n op=none) (hown:w.ownsRow base 166 1 v n (xs.map E8)) (hn:n<=1000) (hB:B<=base) (hb:base<=w.heap.size) :
  Calls Tryz.prog 127 #[v,.int .i64 op,.int .i64 i] w fun e w'=>e=.returned (.tuple #[v,.bool false]) /\ w=w':=by
 obtain ⟨A,c,rfl,hc⟩:=eV hown;have Hown:=aG hown;clear hown
 have key:(aC op=1 /\ n=0) \/ (aC op=2 /\ n=0) \/ (aC op=2 /\ n=1) \/ aC op = -1:=by
  unfold bU at ho;have:aC op=0 \/ aC op=1 \/ aC op=2 \/ aC op = -1:=by unfold aC;(repeat' split)<;>simp
  split at ho
  .cases ho
  .split at ho
   .cases ho
   .split at ho
    .cases ho
    .omega
 clear ho;rcases key with ⟨ho,rfl⟩|⟨ho,rfl⟩|⟨ho,rfl⟩|ho
 all_goals
  have Ho:=aG ho;clear ho
  go_enter Tryz.func127,Tryz.ntmps127
  go_wp2_with (first
   | (go_at_call 37;refine (j0 _ _).mono ?_;rintro e w' ⟨rfl,rfl⟩;rw [Ho.out])
   | fail)
  go_ret2
  exact ⟨rfl,rfl⟩
theorem IA (op i:Int) (v:Value) (n base B:Nat) (xs:List (TypeId × Value)) (w:World) {d:Nat} (ho:bU n op=some d) (hown:w.ownsRow base 166 1 v n (xs.map E8)) (hn:n<=1000) (hB:B<=base) (hb:base<=w.heap.size) :
  Calls Tryz.prog 127 #[v,.int .i64 op,.int .i64 i] w (o9 base d true w B):=by
 unfold bU at ho;split at ho
 .cases ho;exact TV op i v n base B xs w (by assumption) hown hn hB hb
 .split at ho
  .rename_i h;cases ho;exact Tx op i v _ base B xs w h.1 h.2 hown hn hB hb
  .split at ho
   .rename_i h;cases ho;exact TB op i v n base B xs w h.1 h.2 hown hn hB hb
   .cases ho
end
section
theorem qQ (a b:List Int):∀ d,aZ (a ++ b) d=(aZ a d).bind (aZ b):=by
 induction a with
 | nil=>intro d;rfl
 | cons x a ih=>intro d;rw [Wg,aZ,aZ];cases bU d x<;>simp [ih]
theorem EL (a:List Int) (x:Int) (d:Nat):aZ (a ++ [x]) d=(aZ a d).bind fun d'=>bU d' x:=by
 rw [qQ]
 cases aZ a d with
 | none=>rfl
 | some d'=>simp [aZ];cases bU d' x<;>rfl
theorem y8 {d op:_} {d':Nat} (h:bU d op=some d'):d'<=d+1:=by
 unfold bU at h;split at h
 .cases h;omega
 .split at h
  .cases h;omega
  .split at h
   .cases h;omega
   .cases h
def Gz (r:Int) (w:World) (e:Ending) (w':World):Prop:=∃ v,e=.returned (.tuple #[v,.int .i64 r]) /\ Below w.heap.size w w'
theorem G5 (l:List ft) (v:Value) (S:Nat -> Prop) (w:World) (h:(aF t3).one w S v l) (hS:∀ b,S b -> b<w.heap.size) :
  Calls Tryz.prog 81 #[v] w (Gz (be (l.map ft.op)) w):=by
 obtain ⟨A,c,rfl,hc,hc2⟩:=cB h;by_cases h0:l.length=0
 .have e:be (l.map ft.op)=12:=by unfold be;rw [Vn (by simpa using h0)]
  rw [e,h0]
  go_enter Tryz.func81,Tryz.ntmps81
  go_wp2_with fail
  go_ret2
  exact ⟨_,rfl,Below.refl _ _⟩
 .by_cases h1:64<l.length
  .have e:be (l.map ft.op)=3:=by unfold be;rw [Vh (by simpa using h0),Vn (by simpa using h1)]
   rw [e];have hd:(((l.length:Nat):Int) == 0)=false:=VN.2 (by omega);have hd2:decide ((64:Int)<(l.length:Int))=true:=by simp;omega
   go_enter Tryz.func81,Tryz.ntmps81
   go_wp2_with fail
   go_ret2
   exact ⟨_,rfl,Below.refl _ _⟩
  .obtain ⟨b,o,rfl,hSb,hrow⟩:=db h (by omega);have e:be (l.map ft.op)=if aZ (l.map ft.op) 0=some 1 then 0 else 17:=by unfold be;rw [Vh (by simpa using h0),Vh (by simpa using h1)]
   rw [e];clear e;obtain ⟨R,hR⟩:∃ R,R=aZ (l.map ft.op) 0:=⟨_,rfl⟩;rw [<- hR];obtain ⟨E,hE⟩:∃ E:Int,E=if R=some 1 then 0 else 17:=⟨_,rfl⟩;rw [<- hE];have HR:=aG hR;have HE:=aG hE;have Hsl:=aG h;clear hR hrow hE h;have hd:(((l.length:Nat):Int) == 0)=false:=VN.2 (by omega);have hd2:decide ((64:Int)<(l.length:Int))=false:=by simp;omega
   go_enter Tryz.func81,Tryz.ntmps81
   go_wp2_with fail
   go_loopw [4,19] (fun rv iv wr=>∃ (k d:Nat) (xs:List (TypeId × Value)),k<=l.length /\ d<=k /\ iv=.int .i64 (k:Int) /\ aZ ((l.take k).map ft.op) 0=some d /\ wr.ownsRow w.heap.size 166 1 rv d (xs.map E8) /\ Below w.heap.size w wr)
    (fun rv iv wr=>l.length - (intOf iv).toNat)
   case atStart=>exact ⟨0,0,[],Vg _,Os _,rfl,rfl,World.ownsRow_nil _ _ _ _,Below.refl _ _⟩
   case round=>
    obtain ⟨k,d,xs,hk,hdk,rfl,hrn,hown,hbl⟩:=hrel;have Hrn:=aG hrn;clear hrn;by_cases hlt:k<l.length
    .obtain ⟨hcs,hok⟩:=JL (dx Hsl.out hbl hS) hlt;have hnx:=EL ((l.take k).map ft.op) l[k].op 0;rw [Hrn.out] at hnx
     have hall:aZ (l.map ft.op) 0=(aZ ((l.take k).map ft.op ++ [l[k].op]) 0).bind (aZ ((l.drop (k+1)).map ft.op)):=by
      rw [<- qQ,VZ,List.singleton_append,<- VY,<- WH hlt,<- VE,WX]
     rw [<- HR.out] at hall
     have htk:(l.take (k+1)).map ft.op=(l.take k).map ft.op ++ [l[k].op]:=by
      rw [Vk hlt,VE];rfl
     have Hnx:=aG hnx;have Hall:=aG hall;have Htk:=aG htk;have Hok:=aG hok;have c0:=hcs 0 _ rfl;have c1:=hcs 1 _ rfl;have c2:=hcs 2 _ rfl;have c3:=hcs 3 _ rfl;have c4:=hcs 4 _ rfl;have c5:=hcs 5 _ rfl;have c6:=hcs 6 _ rfl;have c7:=hcs 7 _ rfl;have c8:=hcs 8 _ rfl;clear hnx hall htk hok hcs;generalize l[k]=x at *;obtain ⟨xop,xln,xlv,xrn,xrv,xnm,xus,xli,xco⟩:=x;simp only [XA] at c0 c1 c2 c3 c4 c5 c6 c7 c8;have hsz:w.heap.size<=wr.heap.size:=hbl.size
     cases hp:bU d xop with
     | none=>
      have Hp:=aG hp;clear hp
      go_wp2_with fail
      refine (Qz _ _ _ d w.heap.size 0 xs _ Hp.out (hown.alloc _) (by omega) (Vg _) (by simp;omega)).mono ?_;rintro e w' ⟨rfl,rfl⟩
      go_wp2_with fail
      go_ret2
      have e17:E=17:=by
       rw [HE.out,Hall.out,Hnx.out];simp [Hp.out]
      exact ⟨_,by rw [e17];rfl,hbl.alloc hsz _⟩
     | some d'=>
      have Hp:=aG hp;clear hp
      go_wp2_with fail
      refine (IA _ _ _ d w.heap.size w.heap.size xs _ Hp.out (hown.alloc _) (by omega) (Os _) (by simp;omega)).mono ?_;rintro e w' ⟨v',xs',rfl,hown',hbl'⟩;have Hown:=aG hown;clear hown
      go_wp2_with fail
      go_roundw
      case rel=>exact ⟨k+1,d',xs',by omega,by have:=y8 Hp.out;omega,by go_num,by rw [Htk.out,Hnx.out];exact Hp.out,hown',(hbl.alloc hsz _).trans hbl'⟩
      case measure=>simp [intOf];omega
    .obtain rfl:k=l.length:=by omega
     have hf:=Hrn.out;rw [Vq,<- HR.out] at hf;have Hf:=aG hf;clear hf;obtain ⟨A,c',rfl,hc'⟩:=eV hown
     cases hd1:((d:Int) != 1) with
     | true=>
      have e17:E=17:=by
       rw [HE.out,Hf.out,Vh (by simp at hd1 ⊢;omega)]
      have E17:=aG e17;clear e17
      go_wp2_with fail
      go_ret2
      exact ⟨_,by rw [E17.out];rfl,hbl⟩
     | false=>
      obtain rfl:d=1:=by simp at hd1;omega
      have e0:E=0:=(by rw [HE.out,Hf.out,Vn rfl]);have E0:=aG e0;clear e0;have hxl:xs.length=1:=by have:=hown.1;simpa using this
      obtain ⟨x,rfl⟩:∃ x,xs=[x]:=List.length_eq_one_iff.1 hxl;obtain ⟨g,c2,hv,hc2',_,_⟩:=og hown (by omega);cases hv;have hcell:=iq hown rfl (j:=0) (u:=E8 x) rfl;clear hown hxl
      go_wp2_with fail
      go_ret2
      exact ⟨_,by rw [E0.out];rfl,hbl⟩
theorem pE (l:List ft) (v:Value) (S:Nat -> Prop) (w:World) (h:(aF t3).one w S v l) (hS:∀ b,S b -> b<w.heap.size) :
  Calls Tryz.prog 36 #[v] w fun e w'=>e=.returned (.int .i64 (be (l.map ft.op))) /\ Below w.heap.size w w':=by
 have H:=aG (G5 l v S w h hS);clear h hS
 go_enter Tryz.func36,Tryz.ntmps36
 go_wp2_with (go_at_call 81;refine H.out.mono ?_;rintro e w' ⟨nv,rfl,hb⟩)
 go_ret
 exact ⟨rfl,hb⟩
def eT (x:ah):ft:=⟨x.op,⟨#[]⟩,0,⟨#[]⟩,0,⟨#[]⟩,⟨#[]⟩,0,0⟩
theorem qj (l:List ah):(l.map eT).map ft.op=l.map ah.op:=by rw [XC];rfl
theorem KU:(Tryz.prog.info? 101).map (fun i=>(i.zero,i.size,i.bytes))=some (some (.agg #[.int .i64 0,.string ⟨#[]⟩,.int .i64 0,.string ⟨#[]⟩,.int .i64 0,.string ⟨#[]⟩,.string ⟨#[]⟩,.int .i64 0,.int .i64 0]),9,104):=by kernel_rfl
theorem xi (w:World) (g:Nat) (L:List Value) (t:TypeId) (hg:g=w.heap.size):∀ j u,L[j]? = some u -> (w.alloc (.cells L.toArray t)).cell? ((⟨g,0,none⟩:Addr).add j)=some u:=by
 subst hg;exact mf w L t
theorem JI (x:ft):∀ u ∈ x.cells,u.oneCell'=true:=by
 intro u hu;simp only [ft.cells,V8,List.not_mem_nil,or_false] at hu;rcases hu with rfl|rfl|rfl|rfl|rfl|rfl|rfl|rfl|rfl<;>rfl
theorem vh (l:List ah) (v:Value) (S:Nat -> Prop) (w:World) (h:(aF fC).one w S v l) (hS:∀ b,S b -> b<w.heap.size) (hl:l.length<=1000) :
  Calls Tryz.prog 168 #[v] w fun e w'=>∃ u,e=.returned u /\ w'.ownsRow w.heap.size 101 9 u l.length ((l.map eT).flatMap ft.cells) /\ Below w.heap.size w w':=by
 obtain ⟨i0,hi0,hz0,hz1,hz2⟩:=info_parts KU;obtain ⟨A,c,rfl,hc,hc2⟩:=cB h;have Hsl:=aG h;clear h
 go_enter Tryz.func168,Tryz.ntmps168
 go_wp2_with fail
 go_loopw [3,8] (fun rv iv wr=>∃ (k:Nat),k<=l.length /\ iv=.int .i64 (k:Int) /\ wr.ownsRow w.heap.size 101 9 rv k (((l.take k).map eT).flatMap ft.cells) /\ Below w.heap.size w wr)
  (fun rv iv wr=>l.length - (intOf iv).toNat)
 case atStart=>exact ⟨0,Vg _,rfl,World.ownsRow_nil _ _ _ _,Below.refl _ _⟩
 case round=>
  obtain ⟨k,hk,rfl,hown,hbl⟩:=hrel;by_cases hlt:k<l.length
  .have hsl:=dx Hsl.out hbl hS;obtain ⟨b,o,hv,_,_⟩:=db hsl (by omega);subst hv;obtain ⟨hcs,hok⟩:=tC hsl hlt
   have htk:((l.take (k+1)).map eT).flatMap ft.cells=((l.take k).map eT).flatMap ft.cells ++ (eT l[k]).cells:=by
    rw [Vk hlt,VE,Wy];simp
   have Htk:=aG htk;have c0:=hcs 0 _ rfl;have c1:=hcs 1 _ rfl;have c2:=hcs 2 _ rfl;have c3:=hcs 3 _ rfl;have c4:=hcs 4 _ rfl;have c5:=hcs 5 _ rfl;have c6:=hcs 6 _ rfl;clear htk hok hcs hsl;generalize l[k]=x at *;obtain ⟨xop,xla,xln,xra,xrn,xn,xu⟩:=x;simp only [XA] at c0 c1 c2 c3 c4 c5 c6;have hsz:w.heap.size<=wr.heap.size:=hbl.size
   go_wp2_with (at_builtin;refine wpList_append_own _ rfl _ _ 53 rfl w.heap.size 101 i0 (.agg #[.int .i64 0,.string ⟨#[]⟩,.int .i64 0,.string ⟨#[]⟩,.int .i64 0,.string ⟨#[]⟩,.string ⟨#[]⟩,.int .i64 0,.int .i64 0]) 9 104 Tryz.underlying53 hi0 hz0 hz1 hz2 rfl (by decide) _ _ _ rfl ((hown.alloc _).alloc _) ⟨wr.heap.size+1,0,none⟩ 1 1 [.int .i64 xop,.string ⟨#[]⟩,.int .i64 0,.string ⟨#[]⟩,.int .i64 0,.string ⟨#[]⟩,.string ⟨#[]⟩,.int .i64 0,.int .i64 0] rfl rfl (xi _ _ _ _ (by simp)) (JI (eT ⟨xop,0,0,0,0,0,0⟩)) (by unfold maxLen;omega) (by omega) (by simp;omega) ?_;intro v2 w2 hown2 hg2 _)
   have hb2:Below w.heap.size w w2:=((hbl.alloc hsz _).alloc (by simp;omega) _).grown hg2 (by simp;omega) (fun j hj=>(hown.lt j hj).1);have Hown:=aG hown;have Hown2:=aG hown2;clear hown hown2 hg2
   go_wp2_with fail
   go_roundw
   case rel=>exact ⟨k+1,by omega,by go_num,by rw [Htk.out];exact Hown2.out,hb2⟩
   case measure=>simp [intOf];omega
  .obtain rfl:k=l.length:=by omega
   rw [Vq] at hown;have Hown:=aG hown;clear hown
   go_wp2_with fail
   go_ret
   exact ⟨_,rfl,Hown.out,hbl⟩
end
section
def jT:List PanicEntry:=[{ v:=.iface 258 (.agg #[]),recovered:=false }]
abbrev H4 (vv:Value) (o d:Int) (dv cv:Value):Value:=.agg #[vv,.int .i64 o,.int .i64 d,dv,cv]
end
end
section
section
def bv (b:Bool):Value:=.iface 4 (.bool b)
def cL (w:World) (a H:Nat) (vv:Value) (o d:Int) (dv cv f:Value) (L:List Bool):Prop:=
 ∃ rv,jj w a 244 #[vv,.int .i64 o,.int .i64 d,dv,cv,f,rv] /\ w.ownsRow (a+1) 20 1 rv L.length (L.map bv) /\ a<H /\ (∀ g,rv.ownBlock=some g -> g<H)
theorem cL.below {w w':World} {a H:Nat} {vv:Value} {o d:Int} {dv cv f:Value} {L:List Bool} (h:cL w a H vv o d dv cv f L) (hb:Below H w w'):cL w' a H vv o d dv cv f L:=by
 obtain ⟨rv,h1,h2,h3,h4⟩:=h;exact ⟨rv,h1.below hb h3,vu h2 hb h4,h3,h4⟩
theorem cL.cells {w:World} {a H:Nat} {vv:Value} {o d:Int} {dv cv f:Value} {L:List Bool} (h:cL w a H vv o d dv cv f L) :
  w.cell? ⟨a,0,none⟩=some vv /\ w.cell? ⟨a,1,none⟩=some (.int .i64 o) /\ w.cell? ⟨a,2,none⟩=some (.int .i64 d) /\ w.cell? ⟨a,5,none⟩=some f:=by
 obtain ⟨rv,h1,_⟩:=h;have c0:=h1.cell 0;have c1:=h1.cell 1;have c2:=h1.cell 2;have c5:=h1.cell 5;simp at c0 c1 c2 c5;exact ⟨c0,c1,c2,c5⟩
def AF (H:Nat) (w w':World):Prop:=∀ g,H<=g -> g<w.heap.size -> w'.heap[g]? = w.heap[g]?
theorem AF.cell {H:Nat} {w w':World} (h:AF H w w') {g i:Nat} (h1:H<=g) (h2:g<w.heap.size):w'.cell? ⟨g,i,none⟩=w.cell? ⟨g,i,none⟩:=World.cell?_of_block (h g h1 h2)
theorem Ni:(Tryz.prog.info? 20).map (fun i=>(i.zero,i.size,i.bytes))=some (some .nilIface,1,16):=by kernel_rfl
def NG (v:Value) (a H:Nat) (vv:Value) (o d:Int) (dv cv f:Value) (L:List Bool) (w:World) (e:Ending) (w':World):Prop:=e=.returned v /\ cL w' a w'.heap.size vv o d dv cv f L /\ Below a w w' /\ w.heap.size<=w'.heap.size /\ AF H w w'
theorem jB (a H:Nat) (vv:Value) (o d:Int) (dv cv f:Value) (L:List Bool) (b:Bool) (w:World) (h:cL w a H vv o d dv cv f L) (hL:L.length<=1000) :
  Calls Tryz.prog 189 #[.pointer (some ⟨a,0,none⟩),.bool b] w (NG (.tuple #[]) a H vv o d dv cv f (L ++ [b]) w):=by
 obtain ⟨i0,hi0,hz0,hz1,hz2⟩:=info_parts Ni;obtain ⟨rv,hb,hown,haH,hrH⟩:=h;have hlt:=hb.lt;have c6:=hb.cell 6;have f6:=hb.frozen 6;simp at c6;obtain ⟨A,c,rfl,hc⟩:=eV hown;have HB:=aG hb;clear hb
 go_enter Tryz.func189,Tryz.ntmps189
 go_wp2_with (at_builtin;refine wpList_append_own _ rfl _ _ 242 rfl (a+1) 20 i0 .nilIface 1 16 Tryz.underlying242 hi0 hz0 hz1 hz2 rfl (by decide) _ _ _ rfl (hown.alloc _) ⟨w.heap.size,0,none⟩ 1 1 [.iface 4 (.bool b)] rfl rfl (qU _ _ _) (nY _ _) (by unfold maxLen;omega) (by omega) (by simp;omega) ?_;intro v' w1 hown' hgrow _;have hne:some a ≠ (Value.slice A L.length c).ownBlock:=C5 hown (by omega);have hb1:=(HB.out.alloc (.cells #[.iface 4 (.bool b)] 20)).grown hgrow hne;obtain ⟨A2,c2,rfl,hc2⟩:=eV hown';have d6:=hb1.cell 6;have g6:=hb1.frozen 6;simp at d6)
 have hbl:Below a w w1:=((Below.refl a w).alloc (by omega) _).grown hgrow (by simp;omega) (fun k hk=>by have:=(hown.lt k hk).1;omega);have hsz:w.heap.size<=w1.heap.size:=by have:=hgrow.size;simp at this;omega
 have hw1:a<w1.heap.size:=hb1.lt;have hlr:∀ g,(Value.slice A2 (L.length+1) c2).ownBlock=some g -> g<w1.heap.size:=fun g hg=>(hown'.lt g hg).2
 have hpast:AF H w (w1.setCell ⟨a,6,none⟩ (.slice A2 (L.length+1) c2)):=fun g hg1 hg2=>by
  rw [Below.heap_setCell w1 ⟨a,6,none⟩ _ g (by simp;omega)];have e1:w1.heap[g]? = (w.alloc (.cells #[.iface 4 (.bool b)] 20)).heap[g]?:=hgrow.block g (by simp;omega) (fun e=>by have:=hrH g e.symm;omega);rw [e1];exact Below.heap_alloc w _ g hg2
 go_end0
 refine ⟨rfl,⟨_,?_,by rw [Vi,VE];exact kP hown' (p:=⟨a,6,none⟩) (by simp) _,by simpa using hw1,fun g hg=>by have:=hlr g hg;simpa using this⟩,hbl.setCell (Os _) _,by simpa using hsz,hpast⟩
 .have:=hb1.set_ 6 (.slice A2 (L.length+1) c2);simpa using this
def Nb (b:Bool) (a H:Nat) (vv:Value) (o d:Int) (dv cv f:Value) (L:List Bool) (w:World) (e:Ending) (w':World):Prop:=e=.returned (.bool b) /\ cL w' a H vv o d dv cv f L /\ Below a w w' /\ w.heap.size<=w'.heap.size /\ AF H w w'
theorem CW (x:Bool) (w:World):(Instr.typeAssert (.iface 4 (.bool x)) 20 4 false).run Tryz.prog w=.ok (.bool x) w:=by kernel_rfl
theorem i5 (a H:Nat) (vv:Value) (o d:Int) (dv cv f:Value) (L:List Bool) (b:Bool) (w:World) (h:cL w a H vv o d dv cv f (L ++ [b])) (hL:L.length<=1000) :
  Calls Tryz.prog 170 #[.pointer (some ⟨a,0,none⟩)] w (Nb b a H vv o d dv cv f L w):=by
 obtain ⟨rv,hb,hown,haH,hrH⟩:=h;have hlt:=hb.lt;have c6:=hb.cell 6;have f6:=hb.frozen 6;simp at c6;obtain ⟨g,c,rfl,hc,hg1,hg2⟩:=og hown (by simp);have hcell:=iq hown rfl (j:=L.length) (u:=bv b) (by simp);have hown2:=rT hown (k:=L.length) (by simp)
 have hown3:w.ownsRow (a+1) 20 1 (.slice (some ⟨g,0,none⟩) L.length c) L.length (L.map bv):=by
  have e:(List.map bv (L ++ [b])).take L.length=L.map bv:=by rw [VE,W5 (by simp),VK (by simp)]
  rwa [e] at hown2
 have HB:=aG hb;have HO:=aG hown3;have hgn:a ≠ g:=by omega
 have ln:(L ++ [b]).length=L.length+1:=by simp
 rw [ln] at c6 hc;unfold bv at hcell;clear hb hown hown2 hown3 ln;have hta:=CW b
 go_enter Tryz.func170,Tryz.ntmps170
 go_wp2_with fail
 go_ret
 refine ⟨rfl,⟨_,?_,kP HO.out (p:=⟨a,6,none⟩) (by simp) _,haH,hrH⟩,(Below.refl a w).setCell (Os _) _,by simp,fun k hk _=>Below.heap_setCell w ⟨a,6,none⟩ _ k (by simp;omega)⟩;have:=HB.out.set_ 6 (.slice (some ⟨g,0,none⟩) L.length c);simpa using this
theorem fm (a H:Nat) (vv:Value) (o d:Int) (dv cv f:Value) (w:World) (h:cL w a H vv o d dv cv f []) :
  Calls Tryz.prog 170 #[.pointer (some ⟨a,0,none⟩)] w fun e w'=>e=.panicked jT /\ w=w':=by
 obtain ⟨rv,hb,hown,haH,hrH⟩:=h;have c6:=hb.cell 6;simp at c6;obtain ⟨A,c,rfl,hc⟩:=eV hown;clear hown hb
 go_enter Tryz.func170,Tryz.ntmps170
 go_wp2_with fail
 exact ⟨rfl,rfl,rfl⟩
end
section
def gi (a:Nat) (vv:Value) (o d:Int) (dv cv f:Value) (L:List Bool) (w:World) (e:Ending) (w':World):Prop:=e=.returned (.tuple #[]) /\ cL w' a w'.heap.size vv o d dv cv f L /\ Below a w w' /\ w.heap.size<=w'.heap.size
abbrev dQ (op la ln ra rn n u:Int):Value:=.agg #[.int .i64 op,.int .i64 la,.int .i64 ln,.int .i64 ra,.int .i64 rn,.int .i64 n,.int .i64 u]
theorem Un (op la ln ra rn n u:Int) (a:Nat) (vv:Value) (o d:Int) (dv cv f:Value) (L:List Bool) (w:World) (h:cL w a w.heap.size vv o d dv cv f L) (hL:L.length<=1000) (ho:op=1 \/ op=2) :
  Calls Tryz.prog 169 #[.pointer (some ⟨a,0,none⟩),dQ op la ln ra rn n u] w (gi a vv o d dv cv f (L ++ [op == 1]) w):=by
 have hb0:Below w.heap.size w (w.alloc (.cells #[.int .i64 op,.int .i64 la,.int .i64 ln,.int .i64 ra,.int .i64 rn,.int .i64 n,.int .i64 u] 61)):=(Below.refl _ _).alloc (Os _) _;have hal:a<w.heap.size:=by obtain ⟨_,_,_,h3,_⟩:=h;exact h3
 have Hp:=aG (fun b=>jB a w.heap.size vv o d dv cv f L b _ (h.below hb0) hL);have Hb:=aG hb0;clear h hb0;rcases ho with rfl|rfl
 all_goals
  go_enter Tryz.func169,Tryz.ntmps169
  go_wp2_with (go_at_call 189;refine (Hp.out _).mono ?_;rintro e w' ⟨rfl,ha,hbl,hsz,_⟩)
  go_end0
  exact ⟨rfl,ha,Hb.out.mono (Wq hal) |>.trans hbl,Vz Hb.out.size hsz⟩
theorem jY (q:Int) (hq6:q=3 \/ q=4 \/ q=5 \/ q=6 \/ q=7 \/ q=8) (la ln ra rn n u c:Int) (a k:Nat) (caps:Array Value) (vv:Value) (o d:Int) (dv cv:Value) (L:List Bool) (w:World) (h:cL w a w.heap.size vv o d dv cv (.func (.func k) #[] caps) L) (hL:L.length<=1000)
  (hcf:∀ (args:Array Value) (w:World),(callFunc k args).run Tryz.prog w=.ok (.enter k args) w)
  (HL:Hid (∀ w',Below w.heap.size w w' -> Calls Tryz.prog k (#[.agg #[.int .i64 la,.int .i64 ln],.agg #[.int .i64 ra,.int .i64 rn]] ++ caps) w' fun e w''=>e=.returned (.int .i64 c) /\ Below w'.heap.size w' w'')) :
  Calls Tryz.prog 169 #[.pointer (some ⟨a,0,none⟩),dQ q la ln ra rn n u] w (gi a vv o d dv cv (.func (.func k) #[] caps) (L ++ [Tj q c]) w):=by
 obtain ⟨W,hW⟩:∃ W,W=w.alloc (.cells #[(.int .i64 q),.int .i64 la,.int .i64 ln,.int .i64 ra,.int .i64 rn,.int .i64 n,.int .i64 u] 61):=⟨_,rfl⟩;have hb0:Below w.heap.size w W:=by rw [hW];exact (Below.refl _ _).alloc (Os _) _
 have hal:a<w.heap.size:=by obtain ⟨_,_,_,h3,_⟩:=h;exact h3
 have hz:W.heap.size=w.heap.size+1:=by rw [hW];simp
 have c5:=(h.below hb0).cells.2.2.2;have x0:W.cell? ⟨w.heap.size,0,none⟩=some (.int .i64 q):=by rw [hW];simp
 have x1:W.cell? ⟨w.heap.size,1,none⟩=some (.int .i64 la):=by rw [hW];simp
 have x2:W.cell? ⟨w.heap.size,2,none⟩=some (.int .i64 ln):=by rw [hW];simp
 have x3:W.cell? ⟨w.heap.size,3,none⟩=some (.int .i64 ra):=by rw [hW];simp
 have x4:W.cell? ⟨w.heap.size,4,none⟩=some (.int .i64 rn):=by rw [hW];simp
 have KB:=aG (fun (w':World) (hb:Below W.heap.size W w')=>(⟨(hb.cell (p:=⟨a,5,none⟩) (by show a<_;omega)).trans c5,(hb.cell (p:=⟨w.heap.size,0,none⟩) (by show w.heap.size<_;omega)).trans x0,(hb.cell (p:=⟨w.heap.size,1,none⟩) (by show w.heap.size<_;omega)).trans x1,(hb.cell (p:=⟨w.heap.size,2,none⟩) (by show w.heap.size<_;omega)).trans x2,(hb.cell (p:=⟨w.heap.size,3,none⟩) (by show w.heap.size<_;omega)).trans x3,(hb.cell (p:=⟨w.heap.size,4,none⟩) (by show w.heap.size<_;omega)).trans x4⟩ :
  w'.cell? ⟨a,5,none⟩=some (.func (.func k) #[] caps) /\ w'.cell? ⟨w.heap.size,0,none⟩=some (.int .i64 q) /\ w'.cell? ⟨w.heap.size,1,none⟩=some (.int .i64 la) /\ w'.cell? ⟨w.heap.size,2,none⟩=some (.int .i64 ln) /\ w'.cell? ⟨w.heap.size,3,none⟩=some (.int .i64 ra) /\ w'.cell? ⟨w.heap.size,4,none⟩=some (.int .i64 rn)))
 have KP:=aG (fun (w1 w2:World) (hb:Below W.heap.size W w1) (b:Bool) (ha:cL w2 a w2.heap.size vv o d dv cv (.func (.func k) #[] caps) (L ++ [b])) (hp:AF w.heap.size w1 w2)=>by
  obtain ⟨q0,q1,q2,q3,q4,q5⟩:=KB.out w1 hb;have hs:w.heap.size<w1.heap.size:=by have:=hb.size;omega
  exact (⟨ha.cells.2.2.2,(hp.cell (Os _) hs).trans q1,(hp.cell (Os _) hs).trans q2,(hp.cell (Os _) hs).trans q3,(hp.cell (Os _) hs).trans q4,(hp.cell (Os _) hs).trans q5⟩ :
   w2.cell? ⟨a,5,none⟩=some (.func (.func k) #[] caps) /\ w2.cell? ⟨w.heap.size,0,none⟩=some (.int .i64 q) /\ w2.cell? ⟨w.heap.size,1,none⟩=some (.int .i64 la) /\ w2.cell? ⟨w.heap.size,2,none⟩=some (.int .i64 ln) /\ w2.cell? ⟨w.heap.size,3,none⟩=some (.int .i64 ra) /\ w2.cell? ⟨w.heap.size,4,none⟩=some (.int .i64 rn)))
 have H:=aG h;have HW:=aG hW;have HB:=aG hb0;clear h hb0 hW;rcases hq6 with hq|hq|hq|hq|hq|hq
 all_goals
  go_enter Tryz.func169,Tryz.ntmps169
  go_wp2_with fail
  have HW2:=HW.out;rw [hq] at HW2;rw [<- HW2];clear HW2;have hS0:=KB.out W.drew ((Below.refl _ _).drew)
  go_region_held3 (fun w'=>w'.cell? ⟨a,5,none⟩=some (.func (.func k) #[] caps) /\ w'.cell? ⟨w.heap.size,0,none⟩=some (.int .i64 q) /\ w'.cell? ⟨w.heap.size,1,none⟩=some (.int .i64 la) /\ w'.cell? ⟨w.heap.size,2,none⟩=some (.int .i64 ln) /\ w'.cell? ⟨w.heap.size,3,none⟩=some (.int .i64 ra) /\ w'.cell? ⟨w.heap.size,4,none⟩=some (.int .i64 rn)) (assumption)
   (first
    | (go_at_call 190;refine (Sc _ _ _).mono ?_;rintro e w' ⟨rfl,rfl⟩)
    | (go_at_call 189;(with_reducible refine (jB a w.heap.size vv o d dv cv _ L _ _ (H.out.below hbw1) hL).mono ?_);rintro e w2 ⟨rfl,ha,hbl,hsz,hpast⟩;have K2:=KP.out _ _ hbW1 _ ha hpast)
    | ((with_reducible refine (HL.out _ HB.out.drew).mono ?_);rintro e w1 ⟨rfl,hb1⟩;have hbW1:Below W.heap.size W w1:=(Below.refl W.heap.size W).drew.trans hb1;have K1:=KB.out w1 hbW1;have hbw1:Below w.heap.size w w1:=HB.out.trans (hbW1.mono HB.out.size)))
  all_goals
   go_wp2_with fail
   go_end0
   subst hq;exact ⟨rfl,ha,(hbw1.mono (Wq hal)).trans hbl,Vz hbw1.size hsz⟩
theorem mD (q:Int) (hq6:q=3 \/ q=4 \/ q=5 \/ q=6 \/ q=7 \/ q=8) (la ln ra rn n u:Int) (a k:Nat) (caps:Array Value) (vv:Value) (o d:Int) (dv cv:Value) (L:List Bool) (w:World) (h:cL w a w.heap.size vv o d dv cv (.func (.func k) #[] caps) L) (hL:L.length<=1000)
  (hcf:∀ (args:Array Value) (w:World),(callFunc k args).run Tryz.prog w=.ok (.enter k args) w)
  (HL:Hid (∀ w',Below w.heap.size w w' -> Calls Tryz.prog k (#[.agg #[.int .i64 la,.int .i64 ln],.agg #[.int .i64 ra,.int .i64 rn]] ++ caps) w' fun e w''=>e=.panicked jT /\ Below w'.heap.size w' w'')) :
  Calls Tryz.prog 169 #[.pointer (some ⟨a,0,none⟩),dQ q la ln ra rn n u] w fun e w'=>e=.panicked jT /\ Below a w w':=by
 obtain ⟨W,hW⟩:∃ W,W=w.alloc (.cells #[(.int .i64 q),.int .i64 la,.int .i64 ln,.int .i64 ra,.int .i64 rn,.int .i64 n,.int .i64 u] 61):=⟨_,rfl⟩;have hb0:Below w.heap.size w W:=by rw [hW];exact (Below.refl _ _).alloc (Os _) _
 have hal:a<w.heap.size:=by obtain ⟨_,_,_,h3,_⟩:=h;exact h3
 have hz:W.heap.size=w.heap.size+1:=by rw [hW];simp
 have c5:=(h.below hb0).cells.2.2.2;have x0:W.cell? ⟨w.heap.size,0,none⟩=some (.int .i64 q):=by rw [hW];simp
 have x1:W.cell? ⟨w.heap.size,1,none⟩=some (.int .i64 la):=by rw [hW];simp
 have x2:W.cell? ⟨w.heap.size,2,none⟩=some (.int .i64 ln):=by rw [hW];simp
 have x3:W.cell? ⟨w.heap.size,3,none⟩=some (.int .i64 ra):=by rw [hW];simp
 have x4:W.cell? ⟨w.heap.size,4,none⟩=some (.int .i64 rn):=by rw [hW];simp
 have KB:=aG (fun (w':World) (hb:Below W.heap.size W w')=>(⟨(hb.cell (p:=⟨a,5,none⟩) (by show a<_;omega)).trans c5,(hb.cell (p:=⟨w.heap.size,0,none⟩) (by show w.heap.size<_;omega)).trans x0,(hb.cell (p:=⟨w.heap.size,1,none⟩) (by show w.heap.size<_;omega)).trans x1,(hb.cell (p:=⟨w.heap.size,2,none⟩) (by show w.heap.size<_;omega)).trans x2,(hb.cell (p:=⟨w.heap.size,3,none⟩) (by show w.heap.size<_;omega)).trans x3,(hb.cell (p:=⟨w.heap.size,4,none⟩) (by show w.heap.size<_;omega)).trans x4⟩ :
  w'.cell? ⟨a,5,none⟩=some (.func (.func k) #[] caps) /\ w'.cell? ⟨w.heap.size,0,none⟩=some (.int .i64 q) /\ w'.cell? ⟨w.heap.size,1,none⟩=some (.int .i64 la) /\ w'.cell? ⟨w.heap.size,2,none⟩=some (.int .i64 ln) /\ w'.cell? ⟨w.heap.size,3,none⟩=some (.int .i64 ra) /\ w'.cell? ⟨w.heap.size,4,none⟩=some (.int .i64 rn)))
 have H:=aG h;have HW:=aG hW;have HB:=aG hb0;clear h hb0 hW;rcases hq6 with hq|hq|hq|hq|hq|hq
 all_goals
  go_enter Tryz.func169,Tryz.ntmps169
  go_wp2_with fail
  have HW2:=HW.out;rw [hq] at HW2;rw [<- HW2];clear HW2;have hS0:=KB.out W.drew ((Below.refl _ _).drew);refine wp_region_held (S:=fun w'=>w'.cell? ⟨a,5,none⟩=some (.func (.func k) #[] caps) /\ w'.cell? ⟨w.heap.size,0,none⟩=some (.int .i64 q) /\ w'.cell? ⟨w.heap.size,1,none⟩=some (.int .i64 la) /\ w'.cell? ⟨w.heap.size,2,none⟩=some (.int .i64 ln) /\ w'.cell? ⟨w.heap.size,3,none⟩=some (.int .i64 ra) /\ w'.cell? ⟨w.heap.size,4,none⟩=some (.int .i64 rn)) (by kernel_rfl) ?_;refine wpAnyH_take (i:=0) (v:=.pointer (some ⟨a,0,none⟩)) rfl (by kernel_rfl) (by kernel_rfl) (by kernel_rfl) (fun _ _ _ h=>h) (Or.inl ⟨by rfl,?_⟩) hS0 ?_
  .intro w hSw;obtain ⟨q0,q1,q2,q3,q4,q5⟩:=hSw;go_simp
  refine wpAnyH_take (i:=1) (v:=.pointer (some ⟨w.heap.size,0,none⟩)) rfl (by kernel_rfl) (by kernel_rfl) (by kernel_rfl) (fun _ _ _ h=>h) (Or.inl ⟨by rfl,?_⟩) hS0 ?_
  .intro w hSw;obtain ⟨q0,q1,q2,q3,q4,q5⟩:=hSw;go_simp
  refine wpAnyH_take (i:=2) (v:=.int .i64 q) rfl (by kernel_rfl) (by kernel_rfl) (by kernel_rfl) (fun _ _ _ h=>h) (Or.inl ⟨by rfl,?_⟩) hS0 ?_
  .intro w hSw;obtain ⟨q0,q1,q2,q3,q4,q5⟩:=hSw;go_simp
  refine wpAnyH_take (i:=3) (v:=.pointer (some ⟨a,0,none⟩)) rfl (by kernel_rfl) (by kernel_rfl) (by kernel_rfl) (fun _ _ _ h=>h) (Or.inl ⟨by rfl,?_⟩) hS0 ?_
  .intro w hSw;obtain ⟨q0,q1,q2,q3,q4,q5⟩:=hSw;go_simp
  refine wpAnyH_take (i:=4) (v:=.pointer (some ⟨a,0,none⟩)) rfl (by kernel_rfl) (by kernel_rfl) (by kernel_rfl) (fun _ _ _ h=>h) (Or.inl ⟨by rfl,?_⟩) hS0 ?_
  .intro w hSw;obtain ⟨q0,q1,q2,q3,q4,q5⟩:=hSw;go_simp
  refine wpAnyH_take (i:=5) (v:=.pointer (some ⟨a,5,none⟩)) rfl (by kernel_rfl) (by kernel_rfl) (by kernel_rfl) (fun _ _ _ h=>h) (Or.inl ⟨by rfl,?_⟩) hS0 ?_
  .intro w hSw;obtain ⟨q0,q1,q2,q3,q4,q5⟩:=hSw;go_simp
  refine wpAnyH_take (i:=6) (v:=.func (.func k) #[] caps) rfl (by kernel_rfl) (by kernel_rfl) (by kernel_rfl) (fun _ _ _ h=>h) (Or.inl ⟨by rfl,?_⟩) hS0 ?_
  .intro w hSw;obtain ⟨q0,q1,q2,q3,q4,q5⟩:=hSw;go_simp
  refine wpAnyH_take (i:=7) (v:=.pointer (some ⟨w.heap.size,1,none⟩)) rfl (by kernel_rfl) (by kernel_rfl) (by kernel_rfl) (fun _ _ _ h=>h) (Or.inl ⟨by rfl,?_⟩) hS0 ?_
  .intro w hSw;obtain ⟨q0,q1,q2,q3,q4,q5⟩:=hSw;go_simp
  refine wpAnyH_take (i:=8) (v:=.agg #[.int .i64 la,.int .i64 ln]) rfl (by kernel_rfl) (by kernel_rfl) (by kernel_rfl) (fun _ _ _ h=>h) (Or.inl ⟨by rfl,?_⟩) hS0 ?_
  .intro w hSw;obtain ⟨q0,q1,q2,q3,q4,q5⟩:=hSw;go_simp
  refine wpAnyH_take (i:=9) (v:=.pointer (some ⟨w.heap.size,3,none⟩)) rfl (by kernel_rfl) (by kernel_rfl) (by kernel_rfl) (fun _ _ _ h=>h) (Or.inl ⟨by rfl,?_⟩) hS0 ?_
  .intro w hSw;obtain ⟨q0,q1,q2,q3,q4,q5⟩:=hSw;go_simp
  refine wpAnyH_take (i:=10) (v:=.agg #[.int .i64 ra,.int .i64 rn]) rfl (by kernel_rfl) (by kernel_rfl) (by kernel_rfl) (fun _ _ _ h=>h) (Or.inl ⟨by rfl,?_⟩) hS0 ?_
  .intro w hSw;obtain ⟨q0,q1,q2,q3,q4,q5⟩:=hSw;go_simp
  refine wpAnyH_ready (rs:=[11]) (by kernel_rfl) (by simp) ?_;refine AllReadyH.cons (o:=_) rfl (fun K hK=>?_) AllReadyH.nil
  go_simp
  refine (HL.out _ HB.out.drew).mono ?_;rintro e w1 ⟨rfl,hb1⟩;have hbW1:Below W.heap.size W w1:=(Below.refl W.heap.size W).drew.trans hb1;exact ⟨rfl,rfl,(HB.out.mono (Wq hal)).trans (hbW1.mono (by omega))⟩
def Kh:=jY 3 (by simp)
def Mz:=mD 3 (by simp)
def Kv:=jY 4 (by simp)
def NB:=mD 4 (by simp)
def LQ:=jY 5 (by simp)
def Oz:=mD 5 (by simp)
def K6:=jY 6 (by simp)
def NZ:=mD 6 (by simp)
def K3:=jY 7 (by simp)
def Me:=mD 7 (by simp)
def IC:=jY 8 (by simp)
def Ma:=mD 8 (by simp)
end
section
theorem Lq (la ln ra rn n u:Int) (a:Nat) (vv:Value) (o d:Int) (dv cv f:Value) (L:List Bool) (w:World) (h:cL w a w.heap.size vv o d dv cv f L) (hL:L.length<=1000) :
  Calls Tryz.prog 169 #[.pointer (some ⟨a,0,none⟩),dQ 9 la ln ra rn n u] w (gi a vv o d dv cv f (L ++ [bp o n]) w):=by
 obtain ⟨W,hW⟩:∃ W,W=w.alloc (.cells #[.int .i64 9,.int .i64 la,.int .i64 ln,.int .i64 ra,.int .i64 rn,.int .i64 n,.int .i64 u] 61):=⟨_,rfl⟩;have hb0:Below w.heap.size w W:=by rw [hW];exact (Below.refl _ _).alloc (Os _) _
 have hal:a<w.heap.size:=by obtain ⟨_,_,_,h3,_⟩:=h;exact h3
 have hz:W.heap.size=w.heap.size+1:=by rw [hW];simp
 have c5:=(h.below hb0).cells.2.1;have x0:W.cell? ⟨w.heap.size,5,none⟩=some (.int .i64 n):=by rw [hW];simp
 have KB:=aG (fun (w':World) (hb:Below W.heap.size W w')=>(⟨(hb.cell (p:=⟨a,1,none⟩) (by show a<_;omega)).trans c5,(hb.cell (p:=⟨w.heap.size,5,none⟩) (by show w.heap.size<_;omega)).trans x0⟩ :
  w'.cell? ⟨a,1,none⟩=some (.int .i64 o) /\ w'.cell? ⟨w.heap.size,5,none⟩=some (.int .i64 n)))
 have KP:=aG (fun (w1 w2:World) (hb:Below W.heap.size W w1) (ha:cL w2 a w2.heap.size vv o d dv cv f (L ++ [bp o n])) (hp:AF w.heap.size w1 w2)=>by
  obtain ⟨q0,q1⟩:=KB.out w1 hb;have hs:w.heap.size<w1.heap.size:=by have:=hb.size;omega
  exact (⟨ha.cells.2.1,(hp.cell (Os _) hs).trans q1⟩ :
   w2.cell? ⟨a,1,none⟩=some (.int .i64 o) /\ w2.cell? ⟨w.heap.size,5,none⟩=some (.int .i64 n)))
 have H:=aG h;have HW:=aG hW;have HB:=aG hb0;clear h hb0 hW
 go_enter Tryz.func169,Tryz.ntmps169
 go_wp2_with fail
 rw [<- HW.out];have hbW:Below W.heap.size W W.drew:=(Below.refl _ _).drew;have hbw:Below w.heap.size w W.drew:=HB.out.drew;have hS0:=KB.out W.drew hbW
 go_region_held3 (fun w'=>w'.cell? ⟨a,1,none⟩=some (.int .i64 o) /\ w'.cell? ⟨w.heap.size,5,none⟩=some (.int .i64 n)) (assumption)
  (first
   | (go_at_call 129;refine (xE _ _ _).mono ?_;rintro e w' ⟨rfl,rfl⟩)
   | (go_at_call 189;(with_reducible refine (jB a w.heap.size vv o d dv cv _ L _ _ (H.out.below hbw) hL).mono ?_);rintro e w2 ⟨rfl,ha,hbl,hsz,hpast⟩;have K2:=KP.out _ _ hbW ha hpast))
 all_goals
  go_wp2_with fail
  go_end0
  exact ⟨rfl,ha,(hbw.mono (Wq hal)).trans hbl,Vz hbw.size hsz⟩
theorem E6 (la ln ra rn n u:Int) (a:Nat) (vv:Value) (o d:Int) (dv cv f:Value) (L:List Bool) (w:World) (h:cL w a w.heap.size vv o d dv cv f L) (hL:L.length<=1000) :
  Calls Tryz.prog 169 #[.pointer (some ⟨a,0,none⟩),dQ 10 la ln ra rn n u] w (gi a vv o d dv cv f (L ++ [bp d n]) w):=by
 obtain ⟨W,hW⟩:∃ W,W=w.alloc (.cells #[.int .i64 10,.int .i64 la,.int .i64 ln,.int .i64 ra,.int .i64 rn,.int .i64 n,.int .i64 u] 61):=⟨_,rfl⟩;have hb0:Below w.heap.size w W:=by rw [hW];exact (Below.refl _ _).alloc (Os _) _
 have hal:a<w.heap.size:=by obtain ⟨_,_,_,h3,_⟩:=h;exact h3
 have hz:W.heap.size=w.heap.size+1:=by rw [hW];simp
 have c5:=(h.below hb0).cells.2.2.1;have x0:W.cell? ⟨w.heap.size,5,none⟩=some (.int .i64 n):=by rw [hW];simp
 have KB:=aG (fun (w':World) (hb:Below W.heap.size W w')=>(⟨(hb.cell (p:=⟨a,2,none⟩) (by show a<_;omega)).trans c5,(hb.cell (p:=⟨w.heap.size,5,none⟩) (by show w.heap.size<_;omega)).trans x0⟩ :
  w'.cell? ⟨a,2,none⟩=some (.int .i64 d) /\ w'.cell? ⟨w.heap.size,5,none⟩=some (.int .i64 n)))
 have KP:=aG (fun (w1 w2:World) (hb:Below W.heap.size W w1) (ha:cL w2 a w2.heap.size vv o d dv cv f (L ++ [bp d n])) (hp:AF w.heap.size w1 w2)=>by
  obtain ⟨q0,q1⟩:=KB.out w1 hb;have hs:w.heap.size<w1.heap.size:=by have:=hb.size;omega
  exact (⟨ha.cells.2.2.1,(hp.cell (Os _) hs).trans q1⟩ :
   w2.cell? ⟨a,2,none⟩=some (.int .i64 d) /\ w2.cell? ⟨w.heap.size,5,none⟩=some (.int .i64 n)))
 have H:=aG h;have HW:=aG hW;have HB:=aG hb0;clear h hb0 hW
 go_enter Tryz.func169,Tryz.ntmps169
 go_wp2_with fail
 rw [<- HW.out];have hbW:Below W.heap.size W W.drew:=(Below.refl _ _).drew;have hbw:Below w.heap.size w W.drew:=HB.out.drew;have hS0:=KB.out W.drew hbW
 go_region_held3 (fun w'=>w'.cell? ⟨a,2,none⟩=some (.int .i64 d) /\ w'.cell? ⟨w.heap.size,5,none⟩=some (.int .i64 n)) (assumption)
  (first
   | (go_at_call 129;refine (xE _ _ _).mono ?_;rintro e w' ⟨rfl,rfl⟩)
   | (go_at_call 189;(with_reducible refine (jB a w.heap.size vv o d dv cv _ L _ _ (H.out.below hbw) hL).mono ?_);rintro e w2 ⟨rfl,ha,hbl,hsz,hpast⟩;have K2:=KP.out _ _ hbW ha hpast))
 all_goals
  go_wp2_with fail
  go_end0
  exact ⟨rfl,ha,(hbw.mono (Wq hal)).trans hbl,Vz hbw.size hsz⟩
theorem MT (la ln ra rn n u:Int) (a:Nat) (vv:Value) (o d:Int) (dv cv f:Value) (L:List Bool) (b:Bool) (w:World) (h:cL w a w.heap.size vv o d dv cv f (L ++ [b])) (hL:L.length<=999) :
  Calls Tryz.prog 169 #[.pointer (some ⟨a,0,none⟩),dQ 15 la ln ra rn n u] w (gi a vv o d dv cv f (L ++ [!b]) w):=by
 have hb0:Below w.heap.size w (w.alloc (.cells #[.int .i64 15,.int .i64 la,.int .i64 ln,.int .i64 ra,.int .i64 rn,.int .i64 n,.int .i64 u] 61)):=(Below.refl _ _).alloc (Os _) _;have hal:a<w.heap.size:=by obtain ⟨_,_,_,h3,_⟩:=h;exact h3
 have Hp:=aG (i5 a w.heap.size vv o d dv cv f L b _ (h.below hb0) (by omega));have HB:=aG hb0;clear h hb0
 go_enter Tryz.func169,Tryz.ntmps169
 go_wp2_with (first
  | (go_at_call 170;refine Hp.out.mono ?_;rintro e w1 ⟨rfl,ha,hbl,hsz,_⟩)
  | (go_at_call 189;(with_reducible refine (jB a w.heap.size vv o d dv cv _ L _ _ ha (by omega)).mono ?_);rintro e w2 ⟨rfl,ha2,hbl2,hsz2,_⟩))
 go_end0
 have h1:=(HB.out.mono (Wq hal)).trans hbl;exact ⟨rfl,ha2,h1.trans hbl2,Vz (Vz HB.out.size hsz) hsz2⟩
theorem A5 (la ln ra rn n u:Int) (a:Nat) (vv:Value) (o d:Int) (dv cv f:Value) (w:World) (h:cL w a w.heap.size vv o d dv cv f []) :
  Calls Tryz.prog 169 #[.pointer (some ⟨a,0,none⟩),dQ 15 la ln ra rn n u] w fun e w'=>e=.panicked jT /\ Below a w w':=by
 have hb0:Below w.heap.size w (w.alloc (.cells #[.int .i64 15,.int .i64 la,.int .i64 ln,.int .i64 ra,.int .i64 rn,.int .i64 n,.int .i64 u] 61)):=(Below.refl _ _).alloc (Os _) _;have hal:a<w.heap.size:=by obtain ⟨_,_,_,h3,_⟩:=h;exact h3
 have Hp:=aG (fm a w.heap.size vv o d dv cv f _ (h.below hb0));have HB:=aG hb0;clear h hb0
 go_enter Tryz.func169,Tryz.ntmps169
 go_wp2_with (first
  | (go_at_call 170;refine Hp.out.mono ?_;rintro e w1 ⟨rfl,rfl⟩))
 exact ⟨rfl,rfl,HB.out.mono (Wq hal)⟩
theorem E4 (la ln ra rn n u:Int) (a:Nat) (vv:Value) (o d:Int) (dv cv f:Value) (L:List Bool) (x y:Bool) (w:World) (h:cL w a w.heap.size vv o d dv cv f ((L ++ [x]) ++ [y])) (hL:L.length<=998) :
  Calls Tryz.prog 169 #[.pointer (some ⟨a,0,none⟩),dQ 16 la ln ra rn n u] w (gi a vv o d dv cv f (L ++ [x && y]) w):=by
 obtain ⟨W,hW⟩:∃ W,W=w.alloc (.cells #[.int .i64 16,.int .i64 la,.int .i64 ln,.int .i64 ra,.int .i64 rn,.int .i64 n,.int .i64 u] 61):=⟨_,rfl⟩;have hb0:Below w.heap.size w W:=by rw [hW];exact (Below.refl _ _).alloc (Os _) _
 have hal:a<w.heap.size:=by obtain ⟨_,_,_,h3,_⟩:=h;exact h3
 have x0:W.cell? ⟨w.heap.size,0,none⟩=some (.int .i64 16):=by rw [hW];simp
 have hz:W.heap.size=w.heap.size+1:=by rw [hW];simp
 have Hp:=aG (i5 a w.heap.size vv o d dv cv f (L ++ [x]) y _ (h.below hb0) (by simp;omega));have HB:=aG hb0;have HW:=aG hW;clear h hb0 hW;cases x<;>cases y
 all_goals
  go_enter Tryz.func169,Tryz.ntmps169
  go_wp2_with fail
  rw [<- HW.out];refine Hp.out.mono ?_;rintro e w1 ⟨rfl,ha,hbl,hsz,hp1⟩;have y0:=(hp1.cell (i:=0) (Os _) (by omega)).trans x0;have hs1:w.heap.size<w1.heap.size:=by omega
  go_wp2_with fail
  refine (i5 a w.heap.size vv o d dv cv f L _ _ ha (by omega)).mono ?_;rintro e w2 ⟨rfl,ha2,hbl2,hsz2,hp2⟩;have z0:=(hp2.cell (i:=0) (Os _) hs1).trans y0;have Ha:=aG ha;clear x0 y0 hp1 hp2 ha
  go_wp2_with fail
  refine (jB a w.heap.size vv o d dv cv f L _ _ ha2 (by omega)).mono ?_;rintro e w3 ⟨rfl,ha3,hbl3,hsz3,hp3⟩
  go_wp2_with fail
  go_end0
  have h1:=((HB.out.mono (Wq hal)).trans hbl).trans hbl2;exact ⟨rfl,ha3,h1.trans hbl3,by omega⟩
theorem uq (la ln ra rn n u:Int) (a:Nat) (vv:Value) (o d:Int) (dv cv f:Value) (L:List Bool) (w:World) (h:cL w a w.heap.size vv o d dv cv f L) (hL:L.length<2) :
  Calls Tryz.prog 169 #[.pointer (some ⟨a,0,none⟩),dQ 16 la ln ra rn n u] w fun e w'=>e=.panicked jT /\ Below a w w':=by
 have hb0:Below w.heap.size w (w.alloc (.cells #[.int .i64 16,.int .i64 la,.int .i64 ln,.int .i64 ra,.int .i64 rn,.int .i64 n,.int .i64 u] 61)):=(Below.refl _ _).alloc (Os _) _;have hal:a<w.heap.size:=by obtain ⟨_,_,_,h3,_⟩:=h;exact h3
 have HB:=aG hb0
 match L,hL with
 | [],_=>
  have Hp:=aG (fm a w.heap.size vv o d dv cv f _ (h.below hb0));clear h hb0
  go_enter Tryz.func169,Tryz.ntmps169
  go_wp2_with (first
   | (go_at_call 170;refine Hp.out.mono ?_;rintro e w1 ⟨rfl,rfl⟩))
  exact ⟨rfl,rfl,HB.out.mono (Wq hal)⟩
 | [y],_=>
  have Hp:=aG (i5 a w.heap.size vv o d dv cv f [] y _ (h.below hb0) (by simp));clear h hb0
  go_enter Tryz.func169,Tryz.ntmps169
  go_wp2_with fail
  refine Hp.out.mono ?_;rintro e w1 ⟨rfl,ha,hbl,hsz,hp1⟩
  go_wp2_with fail
  refine (fm a w.heap.size vv o d dv cv f _ ha).mono ?_;rintro e w2 ⟨rfl,rfl⟩;exact ⟨rfl,rfl,(HB.out.mono (Wq hal)).trans hbl⟩
theorem GR (la ln ra rn n u:Int) (a:Nat) (vv:Value) (o d:Int) (dv cv f:Value) (L:List Bool) (x y:Bool) (w:World) (h:cL w a w.heap.size vv o d dv cv f ((L ++ [x]) ++ [y])) (hL:L.length<=998) :
  Calls Tryz.prog 169 #[.pointer (some ⟨a,0,none⟩),dQ 17 la ln ra rn n u] w (gi a vv o d dv cv f (L ++ [x || y]) w):=by
 obtain ⟨W,hW⟩:∃ W,W=w.alloc (.cells #[.int .i64 17,.int .i64 la,.int .i64 ln,.int .i64 ra,.int .i64 rn,.int .i64 n,.int .i64 u] 61):=⟨_,rfl⟩;have hb0:Below w.heap.size w W:=by rw [hW];exact (Below.refl _ _).alloc (Os _) _
 have hal:a<w.heap.size:=by obtain ⟨_,_,_,h3,_⟩:=h;exact h3
 have x0:W.cell? ⟨w.heap.size,0,none⟩=some (.int .i64 17):=by rw [hW];simp
 have hz:W.heap.size=w.heap.size+1:=by rw [hW];simp
 have Hp:=aG (i5 a w.heap.size vv o d dv cv f (L ++ [x]) y _ (h.below hb0) (by simp;omega));have HB:=aG hb0;have HW:=aG hW;clear h hb0 hW;cases x<;>cases y
 all_goals
  go_enter Tryz.func169,Tryz.ntmps169
  go_wp2_with fail
  rw [<- HW.out];refine Hp.out.mono ?_;rintro e w1 ⟨rfl,ha,hbl,hsz,hp1⟩;have y0:=(hp1.cell (i:=0) (Os _) (by omega)).trans x0;have hs1:w.heap.size<w1.heap.size:=by omega
  go_wp2_with fail
  refine (i5 a w.heap.size vv o d dv cv f L _ _ ha (by omega)).mono ?_;rintro e w2 ⟨rfl,ha2,hbl2,hsz2,hp2⟩;have z0:=(hp2.cell (i:=0) (Os _) hs1).trans y0;have Ha:=aG ha;clear x0 y0 hp1 hp2 ha
  go_wp2_with fail
  refine (jB a w.heap.size vv o d dv cv f L _ _ ha2 (by omega)).mono ?_;rintro e w3 ⟨rfl,ha3,hbl3,hsz3,hp3⟩
  go_wp2_with fail
  go_end0
  have h1:=((HB.out.mono (Wq hal)).trans hbl).trans hbl2;exact ⟨rfl,ha3,h1.trans hbl3,by omega⟩
theorem ut (la ln ra rn n u:Int) (a:Nat) (vv:Value) (o d:Int) (dv cv f:Value) (L:List Bool) (w:World) (h:cL w a w.heap.size vv o d dv cv f L) (hL:L.length<2) :
  Calls Tryz.prog 169 #[.pointer (some ⟨a,0,none⟩),dQ 17 la ln ra rn n u] w fun e w'=>e=.panicked jT /\ Below a w w':=by
 have hb0:Below w.heap.size w (w.alloc (.cells #[.int .i64 17,.int .i64 la,.int .i64 ln,.int .i64 ra,.int .i64 rn,.int .i64 n,.int .i64 u] 61)):=(Below.refl _ _).alloc (Os _) _;have hal:a<w.heap.size:=by obtain ⟨_,_,_,h3,_⟩:=h;exact h3
 have HB:=aG hb0
 match L,hL with
 | [],_=>
  have Hp:=aG (fm a w.heap.size vv o d dv cv f _ (h.below hb0));clear h hb0
  go_enter Tryz.func169,Tryz.ntmps169
  go_wp2_with (first
   | (go_at_call 170;refine Hp.out.mono ?_;rintro e w1 ⟨rfl,rfl⟩))
  exact ⟨rfl,rfl,HB.out.mono (Wq hal)⟩
 | [y],_=>
  have Hp:=aG (i5 a w.heap.size vv o d dv cv f [] y _ (h.below hb0) (by simp));clear h hb0
  go_enter Tryz.func169,Tryz.ntmps169
  go_wp2_with fail
  refine Hp.out.mono ?_;rintro e w1 ⟨rfl,ha,hbl,hsz,hp1⟩
  go_wp2_with fail
  refine (fm a w.heap.size vv o d dv cv f _ ha).mono ?_;rintro e w2 ⟨rfl,rfl⟩;exact ⟨rfl,rfl,(HB.out.mono (Wq hal)).trans hbl⟩
theorem GS (la ln ra rn n u:Int) (a:Nat) (vv:Value) (o d:Int) (dv cv f:Value) (L:List Bool) (x y:Bool) (w:World) (h:cL w a w.heap.size vv o d dv cv f ((L ++ [x]) ++ [y])) (hL:L.length<=998) :
  Calls Tryz.prog 169 #[.pointer (some ⟨a,0,none⟩),dQ 18 la ln ra rn n u] w (gi a vv o d dv cv f (L ++ [!x || y]) w):=by
 obtain ⟨W,hW⟩:∃ W,W=w.alloc (.cells #[.int .i64 18,.int .i64 la,.int .i64 ln,.int .i64 ra,.int .i64 rn,.int .i64 n,.int .i64 u] 61):=⟨_,rfl⟩;have hb0:Below w.heap.size w W:=by rw [hW];exact (Below.refl _ _).alloc (Os _) _
 have hal:a<w.heap.size:=by obtain ⟨_,_,_,h3,_⟩:=h;exact h3
 have x0:W.cell? ⟨w.heap.size,0,none⟩=some (.int .i64 18):=by rw [hW];simp
 have hz:W.heap.size=w.heap.size+1:=by rw [hW];simp
 have Hp:=aG (i5 a w.heap.size vv o d dv cv f (L ++ [x]) y _ (h.below hb0) (by simp;omega));have HB:=aG hb0;have HW:=aG hW;clear h hb0 hW;cases x<;>cases y
 all_goals
  go_enter Tryz.func169,Tryz.ntmps169
  go_wp2_with fail
  rw [<- HW.out];refine Hp.out.mono ?_;rintro e w1 ⟨rfl,ha,hbl,hsz,hp1⟩;have y0:=(hp1.cell (i:=0) (Os _) (by omega)).trans x0;have hs1:w.heap.size<w1.heap.size:=by omega
  go_wp2_with fail
  refine (i5 a w.heap.size vv o d dv cv f L _ _ ha (by omega)).mono ?_;rintro e w2 ⟨rfl,ha2,hbl2,hsz2,hp2⟩;have z0:=(hp2.cell (i:=0) (Os _) hs1).trans y0;have Ha:=aG ha;clear x0 y0 hp1 hp2 ha
  go_wp2_with fail
  refine (jB a w.heap.size vv o d dv cv f L _ _ ha2 (by omega)).mono ?_;rintro e w3 ⟨rfl,ha3,hbl3,hsz3,hp3⟩
  go_wp2_with fail
  go_end0
  have h1:=((HB.out.mono (Wq hal)).trans hbl).trans hbl2;exact ⟨rfl,ha3,h1.trans hbl3,by omega⟩
theorem uj (la ln ra rn n u:Int) (a:Nat) (vv:Value) (o d:Int) (dv cv f:Value) (L:List Bool) (w:World) (h:cL w a w.heap.size vv o d dv cv f L) (hL:L.length<2) :
  Calls Tryz.prog 169 #[.pointer (some ⟨a,0,none⟩),dQ 18 la ln ra rn n u] w fun e w'=>e=.panicked jT /\ Below a w w':=by
 have hb0:Below w.heap.size w (w.alloc (.cells #[.int .i64 18,.int .i64 la,.int .i64 ln,.int .i64 ra,.int .i64 rn,.int .i64 n,.int .i64 u] 61)):=(Below.refl _ _).alloc (Os _) _;have hal:a<w.heap.size:=by obtain ⟨_,_,_,h3,_⟩:=h;exact h3
 have HB:=aG hb0
 match L,hL with
 | [],_=>
  have Hp:=aG (fm a w.heap.size vv o d dv cv f _ (h.below hb0));clear h hb0
  go_enter Tryz.func169,Tryz.ntmps169
  go_wp2_with (first
   | (go_at_call 170;refine Hp.out.mono ?_;rintro e w1 ⟨rfl,rfl⟩))
  exact ⟨rfl,rfl,HB.out.mono (Wq hal)⟩
 | [y],_=>
  have Hp:=aG (i5 a w.heap.size vv o d dv cv f [] y _ (h.below hb0) (by simp));clear h hb0
  go_enter Tryz.func169,Tryz.ntmps169
  go_wp2_with fail
  refine Hp.out.mono ?_;rintro e w1 ⟨rfl,ha,hbl,hsz,hp1⟩
  go_wp2_with fail
  refine (fm a w.heap.size vv o d dv cv f _ ha).mono ?_;rintro e w2 ⟨rfl,rfl⟩;exact ⟨rfl,rfl,(HB.out.mono (Wq hal)).trans hbl⟩
theorem M7 (op la ln ra rn n u:Int) (a:Nat) (w:World) (hal:a<=w.heap.size) (h1:(op == 1)=false) (h2:(op == 2)=false) (h3:(op == 3)=false) (h4:(op == 4)=false) (h5:(op == 5)=false) (h6:(op == 6)=false) (h7:(op == 7)=false) (h8:(op == 8)=false)
  (h9:(op == 9)=false) (h10:(op == 10)=false) (h15:(op == 15)=false) (h16:(op == 16)=false) (h17:(op == 17)=false) (h18:(op == 18)=false) :
  Calls Tryz.prog 169 #[.pointer (some ⟨a,0,none⟩),dQ op la ln ra rn n u] w fun e w'=>e=.panicked jT /\ Below a w w':=by
 go_enter Tryz.func169,Tryz.ntmps169
 go_wp2_with fail
 exact ⟨rfl,rfl,(Below.refl _ _).alloc hal _⟩
end
section
def ks (k:Nat) (caps:Array Value) (cm:ah -> Option Int) (x:ah) (w0:World):Prop:=∀ w',Below w0.heap.size w0 w' ->
 match cm x with
 | some c=>Calls Tryz.prog k (#[.agg #[.int .i64 x.la,.int .i64 x.ln],.agg #[.int .i64 x.ra,.int .i64 x.rn]] ++ caps) w' fun e w''=>e=.returned (.int .i64 c) /\ Below w'.heap.size w' w''
 | none=>Calls Tryz.prog k (#[.agg #[.int .i64 x.la,.int .i64 x.ln],.agg #[.int .i64 x.ra,.int .i64 x.rn]] ++ caps) w' fun e w''=>e=.panicked jT /\ Below w'.heap.size w' w''
theorem ks.some_ {k:Nat} {caps:Array Value} {cm:ah -> Option Int} {x:ah} {w0 w:World} (h:ks k caps cm x w0) (hb:Below w0.heap.size w0 w) {c:Int} (hc:cm x=some c) :
  Hid (∀ w',Below w.heap.size w w' -> Calls Tryz.prog k (#[.agg #[.int .i64 x.la,.int .i64 x.ln],.agg #[.int .i64 x.ra,.int .i64 x.rn]] ++ caps) w' fun e w''=>e=.returned (.int .i64 c) /\ Below w'.heap.size w' w''):=by
 refine aG fun w' hw=>?_;have:=h w' (hb.trans (hw.mono hb.size));rw [hc] at this;exact this
theorem ks.none_ {k:Nat} {caps:Array Value} {cm:ah -> Option Int} {x:ah} {w0 w:World} (h:ks k caps cm x w0) (hb:Below w0.heap.size w0 w) (hc:cm x=none) :
  Hid (∀ w',Below w.heap.size w w' -> Calls Tryz.prog k (#[.agg #[.int .i64 x.la,.int .i64 x.ln],.agg #[.int .i64 x.ra,.int .i64 x.rn]] ++ caps) w' fun e w''=>e=.panicked jT /\ Below w'.heap.size w' w''):=by
 refine aG fun w' hw=>?_;have:=h w' (hb.trans (hw.mono hb.size));rw [hc] at this;exact this
theorem o5 {L r:List Bool} {b:Bool} (h:L.reverse=b :: r):L=r.reverse ++ [b]:=by
 have:=congrArg List.reverse h;simpa using this
theorem Fl (x:ah) (cm:ah -> Option Int) (a k:Nat) (caps:Array Value) (vv:Value) (o d:Int) (dv cv:Value) (L:List Bool) (r':List Bool) (w w0:World) (h:cL w a w.heap.size vv o d dv cv (.func (.func k) #[] caps) L) (hL:L.length<=900)
  (hcf:∀ (args:Array Value) (w:World),(callFunc k args).run Tryz.prog w=.ok (.enter k args) w) (hl:ks k caps cm x w0) (hb:Below w0.heap.size w0 w) (hr:dN cm o d x L.reverse=some r') :
  Calls Tryz.prog 169 #[.pointer (some ⟨a,0,none⟩),dQ x.op x.la x.ln x.ra x.rn x.n x.u] w (gi a vv o d dv cv (.func (.func k) #[] caps) r'.reverse w):=by
 obtain ⟨op,la,ln,ra,rn,n,u⟩:=x;unfold dN at hr;simp only at hr ⊢;split at hr
 .cases hr;have:=Un op la ln ra rn n u a vv o d dv cv _ L w h (by omega) (by assumption);simpa using this
 split at hr
 .rename_i h1;split at hr
  .rename_i c hc;cases hr;have HL:=hl.some_ hb hc;have e:op=3 \/ op=4 \/ op=5 \/ op=6 \/ op=7 \/ op=8:=(by omega);rw [Xb,WP];rcases e with rfl|rfl|rfl|rfl|rfl|rfl
   .exact Kh la ln ra rn n u c a k caps vv o d dv cv L w h (by omega) hcf HL
   .exact Kv la ln ra rn n u c a k caps vv o d dv cv L w h (by omega) hcf HL
   .exact LQ la ln ra rn n u c a k caps vv o d dv cv L w h (by omega) hcf HL
   .exact K6 la ln ra rn n u c a k caps vv o d dv cv L w h (by omega) hcf HL
   .exact K3 la ln ra rn n u c a k caps vv o d dv cv L w h (by omega) hcf HL
   .exact IC la ln ra rn n u c a k caps vv o d dv cv L w h (by omega) hcf HL
  .cases hr
 split at hr
 .rename_i h9;subst h9;cases hr;rw [Xb,WP];exact Lq la ln ra rn n u a vv o d dv cv _ L w h (by omega)
 split at hr
 .rename_i h10;subst h10;cases hr;rw [Xb,WP];exact E6 la ln ra rn n u a vv o d dv cv _ L w h (by omega)
 split at hr
 .rename_i h15;subst h15;split at hr
  .rename_i b r e;cases hr;obtain rfl:=o5 e;simp at hL;rw [Xb];exact MT la ln ra rn n u a vv o d dv cv _ _ b w h (by simp;omega)
  .cases hr
 split at hr
 .rename_i h16;split at hr
  .rename_i b a' r e;cases hr
   have e2:L=(r.reverse ++ [a']) ++ [b]:=by
    have:=o5 e;simpa using this
   subst e2;simp at hL;have e:op=16 \/ op=17 \/ op=18:=(by omega);rcases e with rfl|rfl|rfl
   .have:=E4 la ln ra rn n u a vv o d dv cv _ r.reverse a' b w h (by simp;omega);simpa using this
   .have:=GR la ln ra rn n u a vv o d dv cv _ r.reverse a' b w h (by simp;omega);simpa using this
   .have:=GS la ln ra rn n u a vv o d dv cv _ r.reverse a' b w h (by simp;omega);simpa using this
  .cases hr
 .cases hr
theorem EE (x:ah) (cm:ah -> Option Int) (a k:Nat) (caps:Array Value) (vv:Value) (o d:Int) (dv cv:Value) (L:List Bool) (w w0:World) (h:cL w a w.heap.size vv o d dv cv (.func (.func k) #[] caps) L) (hL:L.length<=900)
  (hcf:∀ (args:Array Value) (w:World),(callFunc k args).run Tryz.prog w=.ok (.enter k args) w) (hl:ks k caps cm x w0) (hb:Below w0.heap.size w0 w) (hr:dN cm o d x L.reverse=none) :
  Calls Tryz.prog 169 #[.pointer (some ⟨a,0,none⟩),dQ x.op x.la x.ln x.ra x.rn x.n x.u] w fun e w'=>e=.panicked jT /\ Below a w w':=by
 have hal:a<w.heap.size:=by obtain ⟨_,_,_,h3,_⟩:=h;exact h3
 obtain ⟨op,la,ln,ra,rn,n,u⟩:=x;unfold dN at hr;simp only at hr ⊢;split at hr
 .cases hr
 rename_i h12;split at hr
 .rename_i h1;split at hr
  .cases hr
  .rename_i hc;have HL:=hl.none_ hb hc;have e:op=3 \/ op=4 \/ op=5 \/ op=6 \/ op=7 \/ op=8:=(by omega);rcases e with rfl|rfl|rfl|rfl|rfl|rfl
   .exact Mz la ln ra rn n u a k caps vv o d dv cv L w h (by omega) hcf HL
   .exact NB la ln ra rn n u a k caps vv o d dv cv L w h (by omega) hcf HL
   .exact Oz la ln ra rn n u a k caps vv o d dv cv L w h (by omega) hcf HL
   .exact NZ la ln ra rn n u a k caps vv o d dv cv L w h (by omega) hcf HL
   .exact Me la ln ra rn n u a k caps vv o d dv cv L w h (by omega) hcf HL
   .exact Ma la ln ra rn n u a k caps vv o d dv cv L w h (by omega) hcf HL
 rename_i h38;split at hr
 .cases hr
 rename_i h9;split at hr
 .cases hr
 rename_i h10;split at hr
 .rename_i h15;subst h15;split at hr
  .cases hr
  .rename_i e;have e:L=[]:=(by simpa using e);subst e;exact A5 la ln ra rn n u a vv o d dv cv _ w h
 rename_i h15;split at hr
 .rename_i h16
  have hl2:L.length<2:=by
   rw [<- List.length_reverse]
   match hh:L.reverse with
   | []=>simp
   | [_]=>simp
   | _ :: _ :: _=>rw [hh] at hr;cases hr
  have e:op=16 \/ op=17 \/ op=18:=by omega
  rcases e with rfl|rfl|rfl
  .exact uq la ln ra rn n u a vv o d dv cv _ L w h hl2
  .exact ut la ln ra rn n u a vv o d dv cv _ L w h hl2
  .exact uj la ln ra rn n u a vv o d dv cv _ L w h hl2
 .rename_i h16;have ne:∀ k:Int,op ≠ k -> (op == k)=false:=fun k h=>VN.2 h;exact M7 op la ln ra rn n u a w (Wq hal) (ne _ (by omega)) (ne _ (by omega)) (ne _ (by omega)) (ne _ (by omega)) (ne _ (by omega)) (ne _ (by omega)) (ne _ (by omega)) (ne _ (by omega)) (ne _ (by omega)) (ne _ (by omega)) (ne _ (by omega)) (ne _ (by omega)) (ne _ (by omega)) (ne _ (by omega))
end
section
theorem Cc (p q:Addr) (w:World):Calls Tryz.prog 167 #[.pointer (some p),.pointer (some q),.nilIface] w fun e w'=>e=.returned (.tuple #[]) /\ w=w':=by
 go_enter Tryz.func167,Tryz.ntmps167
 go_wp2
 refine bodyPost_ret (results_none rfl _ _ _) rfl ?_;exact ⟨rfl,rfl⟩
theorem Bf (w:World):(Instr.typeAssert (.iface 258 (.agg #[])) 20 258 true).run Tryz.prog w=.ok (.tuple #[.agg #[],.bool true]) w:=by kernel_rfl
theorem T8 (w:World):(binOp BinOp.eql 20 (.iface 258 (.agg #[])) .nilIface).run Tryz.prog w=.ok (.bool false) w:=by kernel_rfl
theorem yL (p q:Nat) (x:Bool) (y:Int) (w:World) (hp:jj w p 4 #[.bool x]) (hq:jj w q 44 #[.int .i64 y]) (hpq:p ≠ q) {B:Nat} (hBp:B<=p) (hBq:B<=q):Calls Tryz.prog 167 #[.pointer (some ⟨p,0,none⟩),.pointer (some ⟨q,0,none⟩),.iface 258 (.agg #[])] w fun e w'=>e=.returned (.tuple #[]) /\ jj w' p 4 #[.bool false] /\ jj w' q 44 #[.int .i64 17] /\ Below B w w':=by
 have hta:=Bf;have heq:=T8;have c0:=hp.cell 0;have f0:=hp.frozen 0;have d0:=hq.cell 0;have g0:=hq.frozen 0;simp at c0 d0;have hpl:=hp.lt;have hql:=hq.lt;have HP:=aG hp;have HQ:=aG hq;clear hp hq
 go_enter Tryz.func167,Tryz.ntmps167
 go_wp2
 go_end0
 refine ⟨rfl,?_,?_,(((Below.refl B w).setCell hBp _).setCell hBq _).alloc (by simp;omega) _⟩
 .have h1:=HP.out.set_ 0 (.bool false);have h2:=(h1.far (p:=⟨q,0,none⟩) (by simpa using hpq) (.int .i64 17)).alloc (.cells #[] 258);simpa using h2
 .have h1:=HQ.out.far (p:=⟨p,0,none⟩) (by simpa using Ne.symm hpq) (.bool false);have h2:=(h1.set_ 0 (.int .i64 17)).alloc (.cells #[] 258);simpa using h2
theorem tp (p q:Addr) (w:World) :
  CallsD Tryz.prog 166 #[.pointer (some p),.pointer (some q)] .returning w fun e u' w'=>e=.returned (.tuple #[]) /\ u'=.returning /\ w=w':=by
 refine callsD_of_wpS Tryz.func166 rfl fun c₀ cs hu=>?_;apply wpS_region;simp [wpOpsS,go_sem,recoverD,hu,Tryz.ntmps166,Exit.thenS];refine (Cc p q w).mono ?_;rintro e w' ⟨rfl,rfl⟩;cases c₀;simp_all [bodyPostS,results,Tryz.results166]
theorem sv (p q:Nat) (x:Bool) (y:Int) (w:World) (hp:jj w p 4 #[.bool x]) (hq:jj w q 44 #[.int .i64 y]) (hpq:p ≠ q) {B:Nat} (hBp:B<=p) (hBq:B<=q) :
  CallsD Tryz.prog 166 #[.pointer (some ⟨p,0,none⟩),.pointer (some ⟨q,0,none⟩)] (.panicking jT) w fun e u' w'=>e=.returned (.tuple #[]) /\ u'=.panicking [{ v:=.iface 258 (.agg #[]),recovered:=true }] /\ (jj w' p 4 #[.bool false] /\ jj w' q 44 #[.int .i64 17] /\ Below B w w'):=by
 have H:=aG (yL p q x y w hp hq hpq hBp hBq);clear hp hq;refine callsD_of_wpS Tryz.func166 rfl fun c₀ cs hu=>?_;apply wpS_region;simp [wpOpsS,go_sem,recoverD,hu,Tryz.ntmps166,Exit.thenS,jT];refine H.out.mono ?_;rintro e w' ⟨rfl,h1,h2,h3⟩;refine ⟨rfl,_,rfl,.tuple #[],?_,rfl,rfl,h1,h2,h3⟩;simp [results,Tryz.results166,go_sem]
end
section
theorem rX (k:Nat) (caps:Array Value) (w:World):(binOp BinOp.eql 210 (.func (.func k) #[] caps) .nilFunc).run Tryz.prog w=.ok (.bool false) w:=by kernel_rfl
def W0 (w:World) (vv:Value) (o d:Int) (dv cv:Value):World:=((w.alloc (.cells #[vv,.int .i64 o,.int .i64 d,dv,cv] 132)).alloc (.cells #[.bool false] 4)).alloc (.cells #[.int .i64 0] 44)
theorem yj (w:World) (vv:Value) (o d:Int) (dv cv:Value):(W0 w vv o d dv cv).heap.size=w.heap.size+3 /\ Below w.heap.size w (W0 w vv o d dv cv) /\ jj (W0 w vv o d dv cv) w.heap.size 132 #[vv,.int .i64 o,.int .i64 d,dv,cv] /\
  jj (W0 w vv o d dv cv) (w.heap.size+1) 4 #[.bool false] /\ jj (W0 w vv o d dv cv) (w.heap.size+1+1) 44 #[.int .i64 0]:=by
 unfold W0;refine ⟨by simp,(((Below.refl _ _).alloc (Os _) _).alloc (by simp) _).alloc (by simp;omega) _,(((jj.new w _ _).alloc _).alloc _),?_,?_⟩
 .have:=(jj.new (w.alloc (.cells #[vv,.int .i64 o,.int .i64 d,dv,cv] 132)) 4 #[.bool false]).alloc (.cells #[.int .i64 0] 44);simpa using this
 .have:=jj.new ((w.alloc (.cells #[vv,.int .i64 o,.int .i64 d,dv,cv] 132)).alloc (.cells #[.bool false] 4)) 44 #[.int .i64 0];simpa using this
theorem DV (x:ah) (h:x.ok):(eT x).ok:=by
 refine ⟨h.1,?_,?_,?_,?_,?_,?_,?_,?_⟩<;>first|exact ⟨by simp [eT],by simp [eT]⟩|exact Vg _
theorem Ae {w:World} {S:Nat -> Prop} {v:Value} {l:List ah} (h:(aF fC).one w S v l):∀ x ∈ l,x.ok:=by
 intro x hx;obtain ⟨i,hi,rfl⟩:=VB hx;obtain ⟨A,c,rfl,_,_⟩:=cB h;obtain ⟨b,o,hv,_,_⟩:=db h (by omega);subst hv;exact (tC h hi).2
def Rg:Option (List Bool) -> Option Bool
 | some (b :: _)=>some b
 | _=>none
theorem NL (x:Option (List Bool)):(match x with | some (b :: _)=>some b | _=>none)=Rg x:=by
 match x with
 | none=>rfl
 | some []=>rfl
 | some (_ :: _)=>rfl
theorem qC (cm:ah -> Option Int) (o d:Int) (a b:List ah):∀ r,da cm o d (a ++ b) r=(da cm o d a r).bind (da cm o d b):=by
 induction a with
 | nil=>intro r;rfl
 | cons x a ih=>intro r;rw [Wg,da,da];cases dN cm o d x r<;>simp [ih]
theorem Gu (cm:ah -> Option Int) (o d:Int) (a:List ah) (x:ah) (r:List Bool):da cm o d (a ++ [x]) r=(da cm o d a r).bind (dN cm o d x):=by
 rw [qC]
 cases da cm o d a r with
 | none=>rfl
 | some r'=>simp only [Wm,da];cases dN cm o d x r'<;>rfl
theorem GQ {cm:ah -> Option Int} {o d:Int} {x:ah} {r r':List Bool} (h:dN cm o d x r=some r'):r'.length<=r.length+1:=by
 unfold dN at h;split at h
 .cases h;simp
 split at h
 .split at h
  .cases h;simp
  .cases h
 split at h
 .cases h;simp
 split at h
 .cases h;simp
 split at h
 .split at h
  .cases h;simp
  .cases h
 split at h
 .split at h
  .cases h;simp
  .cases h
 .cases h
theorem cL.up {w:World} {a H H':Nat} {vv:Value} {o d:Int} {dv cv f:Value} {L:List Bool} (h:cL w a H vv o d dv cv f L) (hh:H<=H'):cL w a H' vv o d dv cv f L:=by
 obtain ⟨rv,h1,h2,h3,h4⟩:=h;exact ⟨rv,h1,h2,by omega,fun g hg=>by have:=h4 g hg;omega⟩
def pn (R:Option Bool) (w:World) (e:Ending) (w':World):Prop:=e=.returned (.tuple #[.bool (jf R),.int .i64 (rg R)]) /\ Below w.heap.size w w'
theorem F7 (l:List ah) (lv:Value) (S:Nat -> Prop) (k:Nat) (caps:Array Value) (vv:Value) (o d:Int) (dv cv:Value) (w:World) (h:(aF fC).one w S lv l) (hS:∀ b,S b -> b<w.heap.size) (hl:l.length<=900) (hbad:be (l.map ah.op) ≠ 0) :
  Calls Tryz.prog 134 #[lv,.func (.func k) #[] caps,H4 vv o d dv cv] w (pn none w):=by
 have hmf:∀ (fn:Fn) (first cap:Array Value) (w:World),(Instr.makeFunc fn first cap).run Tryz.prog w=.ok (.func fn first cap) w:=fun _ _ _ _=>rfl;have Hsl:=aG h;have HS:=aG hS;obtain ⟨E,hE⟩:∃ E,E=be (l.map ah.op):=⟨_,rfl⟩;have hne:(E != 0)=true:=by rw [hE];simpa using hbad
 have HE:=aG hE;clear h hS hbad hE;have hnil:=rX k caps;obtain ⟨hz,hb0,hB0,hB1,hB2⟩:=yj w vv o d dv cv;obtain ⟨X,hX⟩:∃ X,X=W0 w vv o d dv cv:=⟨_,rfl⟩;rw [<- hX] at hz hb0 hB0 hB1 hB2;unfold W0 at hX;have HX:=aG hX;have H0:=aG hb0;have HB1:=aG hB1;have HB2:=aG hB2;clear hX hb0 hB0 hB1 hB2
 go_enter_defers Tryz.func134,Tryz.ntmps134
 go_wp2_with fail
 rw [<- HX.out];refine (vh l lv S X (dx Hsl.out H0.out HS.out) (fun b hb=>Vm (HS.out b hb) H0.out.size) (by omega)).mono ?_;rintro e w1 ⟨u,rfl,hown,hb1⟩
 have hsh:=rS (r:=t3) ft.cells (l:=l.map eT) (fun x hx=>by
  obtain ⟨y,hy,rfl⟩:=Vt.1 hx;obtain ⟨i,hi,rfl⟩:=VB hy;exact ⟨rfl,DV _ (Ae Hsl.out _ (Vf hi))⟩) hown (by decide)
 have Hsh:=aG hsh;clear hown hsh
 go_wp2_with fail
 refine (pE (l.map eT) u _ w1 Hsh.out (fun b hb=>hb.2)).mono ?_;rintro e w2 ⟨rfl,hb2⟩;rw [qj,<- HE.out];have hX2:Below X.heap.size X w2:=hb1.trans (hb2.mono hb1.size);have B1:=HB1.out.below hX2 (by omega);have B2:=HB2.out.below hX2 (by omega);have c1:=B1.cell 0;have c2:=B2.cell 0;have f1:=B1.frozen 0;have f2:=B2.frozen 0;simp at c1 c2;have D1:=(B1.set_ 0 (.bool false)).far (p:=⟨w.heap.size+1+1,0,none⟩) (by simp) (.int .i64 17);have D2:=(B2.far (p:=⟨w.heap.size+1,0,none⟩) (by simp) (.bool false)).set_ 0 (.int .i64 17);have d1:=D1.cell 0;have d2:=D2.cell 0;simp at d1 d2;have HX2:=aG hX2;clear hX2 hb1 hb2 B1 B2 D1 D2
 go_wp2_with fail
 refine leaves_cons (f:=166) (args:=#[.pointer (some ⟨w.heap.size+1,0,none⟩),.pointer (some ⟨w.heap.size+1+1,0,none⟩)]) (by simp) (by simp [go_sem]) ?_;refine (tp ⟨w.heap.size+1,0,none⟩ ⟨w.heap.size+1+1,0,none⟩ _).mono ?_;rintro e u' w'' ⟨rfl,rfl,rfl⟩;simp [Leaves,settle,results,Tryz.results134,go_sem,d1,d2];exact ⟨rfl,((H0.out.trans (HX2.out.mono H0.out.size)).setCell (by show _<=w.heap.size+1;omega) _).setCell (by show _<=w.heap.size+1+1;omega) _⟩
theorem Iv (l:List ah) (lv:Value) (S:Nat -> Prop) (k:Nat) (caps:Array Value) (vv:Value) (o d:Int) (dv cv:Value) (w:World) (h:(aF fC).one w S lv l) (hS:∀ b,S b -> b<w.heap.size) (hl:l.length<=900) (hbad:be (l.map ah.op)=0)
  (hcf:∀ (args:Array Value) (w:World),(callFunc k args).run Tryz.prog w=.ok (.enter k args) w) (cm:ah -> Option Int) (HL:Hid (∀ x ∈ l,ks k caps cm x w)) :
  Calls Tryz.prog 134 #[lv,.func (.func k) #[] caps,H4 vv o d dv cv] w (pn (gj cm o d l) w):=by
 have hmf:∀ (fn:Fn) (first cap:Array Value) (w:World),(Instr.makeFunc fn first cap).run Tryz.prog w=.ok (.func fn first cap) w:=fun _ _ _ _=>rfl;have Hsl:=aG h;have HS:=aG hS;obtain ⟨R,hR⟩:∃ R,R=gj cm o d l:=⟨_,rfl⟩;rw [<- hR];have hRR:R=Rg (da cm o d l []):=by rw [hR];unfold gj;rw [Vh (by simpa using hbad)];exact NL _
 have HR:=aG hRR;clear hR hRR;obtain ⟨E,hE⟩:∃ E,E=be (l.map ah.op):=⟨_,rfl⟩;have hne:(E != 0)=false:=by rw [hE];simpa using hbad
 have HE:=aG hE;clear h hS hbad hE;have hnil:=rX k caps;obtain ⟨hz,hb0,hB0,hB1,hB2⟩:=yj w vv o d dv cv;obtain ⟨X,hX⟩:∃ X,X=W0 w vv o d dv cv:=⟨_,rfl⟩;rw [<- hX] at hz hb0 hB0 hB1 hB2;unfold W0 at hX;have HX:=aG hX;have H0:=aG hb0;have HB0:=aG hB0;have HB1:=aG hB1;have HB2:=aG hB2;clear hX hb0 hB0 hB1 hB2
 go_enter_defers Tryz.func134,Tryz.ntmps134
 go_wp2_with fail
 rw [<- HX.out];refine (vh l lv S X (dx Hsl.out H0.out HS.out) (fun b hb=>Vm (HS.out b hb) H0.out.size) (by omega)).mono ?_;rintro e w1 ⟨u,rfl,hown,hb1⟩
 have hsh:=rS (r:=t3) ft.cells (l:=l.map eT) (fun x hx=>by
  obtain ⟨y,hy,rfl⟩:=Vt.1 hx;obtain ⟨i,hi,rfl⟩:=VB hy;exact ⟨rfl,DV _ (Ae Hsl.out _ (Vf hi))⟩) hown (by decide)
 have Hsh:=aG hsh;clear hown hsh
 go_wp2_with fail
 refine (pE (l.map eT) u _ w1 Hsh.out (fun b hb=>hb.2)).mono ?_;rintro e w2 ⟨rfl,hb2⟩;rw [qj,<- HE.out];have hX2:Below X.heap.size X w2:=hb1.trans (hb2.mono hb1.size);have B1:=HB1.out.below hX2 (by omega);have B2:=HB2.out.below hX2 (by omega);have B0:=HB0.out.below hX2 (by omega);have s0:=B0.cell 0;have s1:=B0.cell 1;have s2:=B0.cell 2;have s3:=B0.cell 3;have s4:=B0.cell 4;simp at s0 s1 s2 s3 s4;obtain ⟨Y,hY⟩:∃ Y,Y=w2.alloc (.cells #[vv,.int .i64 o,.int .i64 d,dv,cv,.func (.func k) #[] caps,.slice none 0 0] 244):=⟨_,rfl⟩;have hX2s:=hX2.size;have hY1:Below w.heap.size w Y:=by rw [hY];exact (H0.out.trans (hX2.mono (by omega))).alloc (by omega) _
 have hY2:cL Y w2.heap.size Y.heap.size vv o d dv cv (.func (.func k) #[] caps) []:=by
  rw [hY];exact ⟨_,jj.new _ _ _,World.ownsRow_nil _ _ _ _,by simp,fun g hg=>by simp [Value.ownBlock] at hg⟩
 have B1':=B1.alloc (.cells #[vv,.int .i64 o,.int .i64 d,dv,cv,.func (.func k) #[] caps,.slice none 0 0] 244);have B2':=B2.alloc (.cells #[vv,.int .i64 o,.int .i64 d,dv,cv,.func (.func k) #[] caps,.slice none 0 0] 244);rw [<- hY] at B1' B2';have hYz:Y.heap.size=w2.heap.size+1:=by rw [hY];simp
 have HY:=aG hY;have HY1:=aG hY1;have HY2:=aG hY2;have HB1Y:=aG B1';have HB2Y:=aG B2';obtain ⟨A,c,rfl,hc,hc2⟩:=cB Hsl.out;clear hX2 hb1 hb2 B1 B2 B0 hY hY1 hY2 B1' B2' HB0 HB1 HB2
 go_wp2_with fail
 rw [<- HY.out]
 go_loopw [26] (fun iv wr=>∃ (k':Nat) (L:List Bool),k'<=l.length /\ iv=.int .i64 (k':Int) /\ da cm o d (l.take k') []=some L.reverse /\ L.length<=k' /\ cL wr w2.heap.size wr.heap.size vv o d dv cv (.func (.func k) #[] caps) L /\ Below w2.heap.size Y wr /\ Y.heap.size<=wr.heap.size)
  (fun iv wr=>l.length - (intOf iv).toNat)
 case atStart=>exact ⟨0,[],Vg _,rfl,rfl,Os _,HY2.out,Below.refl _ _,Os _⟩
 case round=>
  obtain ⟨i,L,hi,rfl,hrun,hLi,hask,hbl,hysz⟩:=hrel;have hbw:Below w.heap.size w wr:=HY1.out.trans (hbl.mono (by omega));have Hrun:=aG hrun;have Hask:=aG hask;clear hrun hask;by_cases hlt:i<l.length
  .have hsl:=dx Hsl.out hbw HS.out;obtain ⟨b,ob,hv,_,_⟩:=db hsl (by omega);subst hv;obtain ⟨hcs,hok⟩:=tC hsl hlt;have hLess:=HL.out l[i] (Vf hlt)
   have htk:da cm o d (l.take (i+1)) []=dN cm o d l[i] L.reverse:=by
    rw [Vk hlt,Gu,Hrun.out];rfl
   have hall:da cm o d l []=(dN cm o d l[i] L.reverse).bind (da cm o d (l.drop (i+1))):=by
    rw [<- htk,<- qC,WX]
   have Htk:=aG htk;have Hall:=aG hall;have HLess:=aG hLess;have c0:=hcs 0 _ rfl;have c1:=hcs 1 _ rfl;have c2:=hcs 2 _ rfl;have c3:=hcs 3 _ rfl;have c4:=hcs 4 _ rfl;have c5:=hcs 5 _ rfl;have c6:=hcs 6 _ rfl;clear htk hall hLess hok hcs hsl;generalize l[i]=x at *;obtain ⟨xop,xla,xln,xra,xrn,xn,xu⟩:=x;simp only [XA] at c0 c1 c2 c3 c4 c5 c6;have hbx:=hbw.alloc (by have:=hbw.size;omega) (.cells #[.int .i64 xop,.int .i64 xla,.int .i64 xln,.int .i64 xra,.int .i64 xrn,.int .i64 xn,.int .i64 xu] 61);have hax:=(Hask.out.below ((Below.refl wr.heap.size wr).alloc (Os _) (.cells #[.int .i64 xop,.int .i64 xla,.int .i64 xln,.int .i64 xra,.int .i64 xrn,.int .i64 xn,.int .i64 xu] 61))).up (H':=(wr.alloc (.cells #[.int .i64 xop,.int .i64 xla,.int .i64 xln,.int .i64 xra,.int .i64 xrn,.int .i64 xn,.int .i64 xu] 61)).heap.size) (by simp)
   cases hst:dN cm o d ⟨xop,xla,xln,xra,xrn,xn,xu⟩ L.reverse with
   | some r'=>
    have hC:=aG (Fl ⟨xop,xla,xln,xra,xrn,xn,xu⟩ cm w2.heap.size k caps vv o d dv cv L r' _ w hax (by omega) hcf HLess.out hbx hst);have Hst:=aG hst;clear hst hax hbx
    go_wp2_with fail
    refine hC.out.mono ?_;rintro e w3 ⟨rfl,ha3,hb3,hs3⟩;have hlen:=GQ Hst.out;rw [List.length_reverse] at hlen;have Hb3:=aG hb3;have hs4:wr.heap.size+1<=w3.heap.size:=(by simpa using hs3);clear hb3 hs3
    go_wp2_with fail
    go_roundw
    case rel=>exact ⟨i+1,r'.reverse,by omega,by go_num,by rw [Htk.out,Hst.out,WP],by rw [List.length_reverse];omega,ha3,(hbl.alloc (by omega) _).trans Hb3.out,by omega⟩
    case measure=>simp [intOf];omega
   | none=>
    have hC:=aG (EE ⟨xop,xla,xln,xra,xrn,xn,xu⟩ cm w2.heap.size k caps vv o d dv cv L _ w hax (by omega) hcf HLess.out hbx hst);have hRn:R=none:=by rw [HR.out,Hall.out,hst];rfl
    have HRn:=aG hRn;clear hst hax hbx hRn
    go_wp2_with fail
    refine hC.out.mono ?_;rintro e w3 ⟨rfl,hb3⟩;have hbY3:Below w2.heap.size Y w3:=(hbl.alloc (by omega) _).trans hb3;have hD:=aG (sv (w.heap.size+1) (w.heap.size+1+1) false 0 w3 (HB1Y.out.below hbY3 (by omega)) (HB2Y.out.below hbY3 (by omega)) (by omega) (B:=w.heap.size) (by omega) (by omega));refine leaves_cons (f:=166) (args:=#[.pointer (some ⟨w.heap.size+1,0,none⟩),.pointer (some ⟨w.heap.size+1+1,0,none⟩)]) (by simp) (by simp [go_sem]) ?_;refine hD.out.mono ?_;rintro e u' w'' ⟨rfl,rfl,e1,e2,e3⟩;have d1:=e1.cell 0;have d2:=e2.cell 0;simp at d1 d2;simp [Leaves,settle,results,Tryz.results134,go_sem,d1,d2];exact ⟨by rw [HRn.out];rfl,(HY1.out.trans (hbY3.mono (by omega))).trans e3⟩
  .obtain rfl:i=l.length:=by omega
   have hfull:=Hrun.out;rw [Vq] at hfull;rcases ey L with rfl|⟨q,b,rfl⟩
   .have hRn:R=none:=by rw [HR.out,hfull];rfl
    have HRn:=aG hRn;have hC:=aG (fm w2.heap.size wr.heap.size vv o d dv cv _ wr Hask.out);clear hRn hfull
    go_wp2_with fail
    refine hC.out.mono ?_;rintro e w3 ⟨rfl,rfl⟩;have hD:=aG (sv (w.heap.size+1) (w.heap.size+1+1) false 0 wr (HB1Y.out.below hbl (by omega)) (HB2Y.out.below hbl (by omega)) (by omega) (B:=w.heap.size) (by omega) (by omega));refine leaves_cons (f:=166) (args:=#[.pointer (some ⟨w.heap.size+1,0,none⟩),.pointer (some ⟨w.heap.size+1+1,0,none⟩)]) (by simp) (by simp [go_sem]) ?_;refine hD.out.mono ?_;rintro e u' w'' ⟨rfl,rfl,e1,e2,e3⟩;have d1:=e1.cell 0;have d2:=e2.cell 0;simp at d1 d2;simp [Leaves,settle,results,Tryz.results134,go_sem,d1,d2];exact ⟨by rw [HRn.out];rfl,hbw.trans e3⟩
   .have hRs:R=some b:=by rw [HR.out,hfull];simp [Rg]
    have HRs:=aG hRs;have hC:=aG (i5 w2.heap.size wr.heap.size vv o d dv cv _ q b wr Hask.out (by simp at hLi;omega));clear hRs hfull
    go_wp2_with fail
    refine hC.out.mono ?_;rintro e w3 ⟨rfl,_,hb3,hs3,_⟩;have hbY3:Below w2.heap.size Y w3:=hbl.trans hb3;have B1:=HB1Y.out.below hbY3 (by omega);have B2:=HB2Y.out.below hbY3 (by omega);have c1:=B1.cell 0;have c2:=B2.cell 0;have f1:=B1.frozen 0;have f2:=B2.frozen 0;simp at c1 c2;have D1:=(B1.set_ 0 (.bool b)).far (p:=⟨w.heap.size+1+1,0,none⟩) (by simp) (.int .i64 0);have D2:=(B2.far (p:=⟨w.heap.size+1,0,none⟩) (by simp) (.bool b)).set_ 0 (.int .i64 0);have d1:=D1.cell 0;have d2:=D2.cell 0;simp at d1 d2;have HbY3:=aG hbY3;clear B1 B2 D1 D2 hb3 hbY3
    go_wp2_with fail
    refine leaves_cons (f:=166) (args:=#[.pointer (some ⟨w.heap.size+1,0,none⟩),.pointer (some ⟨w.heap.size+1+1,0,none⟩)]) (by simp) (by simp [go_sem]) ?_;refine (tp ⟨w.heap.size+1,0,none⟩ ⟨w.heap.size+1+1,0,none⟩ _).mono ?_;rintro e u' w'' ⟨rfl,rfl,rfl⟩;simp [Leaves,settle,results,Tryz.results134,go_sem,d1,d2];exact ⟨by rw [HRs.out];rfl,((HY1.out.trans (HbY3.out.mono (by omega))).setCell (by show _<=w.heap.size+1;omega) _).setCell (by show _<=w.heap.size+1+1;omega) _⟩
end
section
theorem GN (l:List ah) (lv:Value) (S:Nat -> Prop) (k:Nat) (caps:Array Value) (vv:Value) (o d:Int) (dv cv:Value) (w:World) (h:(aF fC).one w S lv l) (hS:∀ b,S b -> b<w.heap.size) (hl:l.length<=900)
  (hcf:∀ (args:Array Value) (w:World),(callFunc k args).run Tryz.prog w=.ok (.enter k args) w) (cm:ah -> Option Int) (HL:∀ x ∈ l,ks k caps cm x w) :
  Calls Tryz.prog 134 #[lv,.func (.func k) #[] caps,H4 vv o d dv cv] w (pn (gj cm o d l) w):=by
 by_cases hc:be (l.map ah.op)=0
 .exact Iv l lv S k caps vv o d dv cv w h hS hl hc hcf cm (aG HL)
 .have e:gj cm o d l=none:=by unfold gj;rw [Vn hc]
  rw [e];exact F7 l lv S k caps vv o d dv cv w h hS hl hc
end
section
theorem JY {w:World} {S:Nat -> Prop} {v:Value} {l:List ah} (h:RT w S v (aR l)) (hl:∀ x ∈ l,x.ok):(aF fC).one w S v l:=by
 obtain ⟨A,cap,rfl,hc,hm,_,hA⟩:=h.sl_inv;refine ⟨A,cap,by simp,by simpa using hc,hm,fun h0=>?_⟩;obtain ⟨b,o,rfl,hb,U,hcell,hr,_⟩:=hA (by simpa using h0);refine ⟨b,o,rfl,hb,fun i hi=>⟨l[i].cells,fun j u hu=>?_,rfl,hl _ (Vf hi)⟩⟩;have h1:(l.map bX)[i]? = some (bX l[i]):=by simp [hi]
 have h3:∀ (j:Nat) (u:Value),l[i].cells[j]? = some u -> (bX l[i])[j]? = some (AV.c u):=by
  intro j u hu;unfold ah.cells at hu
  match j with
  | 0 | 1 | 2 | 3 | 4 | 5 | 6=>simp at hu;subst hu;rfl
  | j+7=>simp at hu
 have h4:=h3 j u hu;have h2:=hcell i j _ _ h1 h4;rw [Gj (hr i j _ _ h1 h4)] at h2;exact h2
theorem mT (s i:Int):aw Tryz.prog 129 [eI s,eI i] (val (.bool (bp s i))):=
 fM (fb Tryz.func129 rfl (by decide)) fun S w vs hS hn hv=>by
  obtain ⟨a,b,rfl⟩:=zl hn;obtain rfl:=Gj (hv 0 a _ rfl rfl);obtain rfl:=Gj (hv 1 b _ rfl rfl);exact (xE s i w).mono fun e w' ⟨h1,h2⟩=>⟨h1,h2 ▸ Below.refl _ _⟩
theorem Hn (l:List Int) (hl:l.length<=1073741824) (ho:∀ x ∈ l,aI x):aw Tryz.prog 29 [sI l] (val (.int .i64 (kH l))):=
 fM (fb Tryz.func29 rfl (by decide)) fun S w vs hS hn hv=>by
  obtain ⟨a,rfl⟩:∃ a,vs = #[a]:=⟨vs[0]'(by simp at hn;omega),by apply Array.ext (by simpa using hn);intro i h1 h2;simp at h2;subst h2;rfl⟩;exact ug l a w hl (xU (hv 0 a _ rfl rfl) hS ho)
def dm (m:bk) (x:Bool × Int):Option (Int × Int × List ah × Int):=
 if x.1=true then (if 0<=x.2 then (m.miles[x.2.toNat]?).map fun K=>(K.stage,K.event,K.cond,x.2) else none)
 else (if 0<=x.2 then (m.guards[x.2.toNat]?).map fun g=>(g.stage,g.event,g.cond,-1) else none)
def Lw (m:bk) (opn st:Int):Bool:=
 ((m.stages.getD st.toNat (⟨#[]⟩,0)).2 == -1) || (decide ((m.stages.getD st.toNat (⟨#[]⟩,0)).2<m.stages.length) && bp opn (m.stages.getD st.toNat (⟨#[]⟩,0)).2)
end
section
def D6 (m:bk) (st:Int):Bool:=decide (0<=st) && decide (st<(m.stages.length:Int))
def po (m:bk) (opn:Int) (x:Bool × Int) (event:Int):Bool:=
 match dm m x with
 | some (st,ev,_,_)=>D6 m st && ((ev == -1 || ev == event) && (bp opn st == x.1) && (x.1 || Lw m opn st))
 | none=>false
def fW (m:bk) (s:St) (x:Bool × Int) (event:Int):Bool:=po m s.opn x event && (match dm m x with | some (_,_,cond,_)=>jf (i7 cond s) | none=>false)
end
section
def uf (l:List Ml) (st d:Int):Nat -> Int
 | 0=>d
 | k+1=>if l[k]?.map (·.stage)=some st then co (uf l st d k) (k:Int) else uf l st d k
def eY (m:bk) (s:St) (x:Bool × Int):St:=
 match dm m x with
 | some (st,_,_,mi)=>
  if D6 m st=true then
   if x.1=true then { s with don:=dK s.don mi,opn:=(wn (gA m) st ++ [st]).foldl co s.opn }
   else { s with opn:=dK s.opn st,don:=uf m.miles st s.don m.miles.length }
  else s
 | none=>s
end
section
def ik (m:bk) (event:Int) (s:St) (x:Bool × Int):St:=if fW m s x event=true then eY m s x else s
def mb (m:bk) (event:Int) (s:St) (k:Nat):St:=(m.order.take k).foldl (ik m event) s
theorem CS (m:bk) (s:St) (x:Bool × Int):(eY m s x).vals=s.vals /\ (eY m s x).did=s.did /\ (eY m s x).cnt=s.cnt:=by
 unfold eY;split
 .split
  .split<;>simp
  .simp
 .simp
theorem BP (m:bk) (event:Int) (s:St) (x:Bool × Int):(ik m event s x).vals=s.vals /\ (ik m event s x).did=s.did /\ (ik m event s x).cnt=s.cnt:=by
 unfold ik;split
 .exact CS m s x
 .simp
theorem pV (m:bk) (event:Int):∀ (l:List (Bool × Int)) (s:St),(l.foldl (ik m event) s).vals=s.vals /\ (l.foldl (ik m event) s).did=s.did /\ (l.foldl (ik m event) s).cnt=s.cnt
 | [],s=>by simp
 | x :: l,s=>by
  have h:=pV m event l (ik m event s x);have h2:=BP m event s x;simp [h,h2]
end
end
section
section
theorem pT (l:List ah) (s:St) (hl:l.length<=1000000) (ho:aI s.opn) (hd:aI s.don):aw Tryz.prog 100 [aR l,.agg (gE s)] ⟨.tup [eB (jf (i7 l s)),eI (rg (i7 l s))],[],0⟩:=by
 refine aa ag Tryz.func100 rfl (by decide) Tryz.ntmps100 Tryz.results100 rfl (⟨fun id o h=>(by cases h),⟨trivial,trivial,trivial⟩⟩) ?_;by_cases hc:be (l.map ah.op)=0 /\ ∀ x ∈ l,iX s.vals true x=true
 .have hck:=vp l s true hl true (by simp only [true_iff];exact hc);obtain ⟨b,h1,h2⟩:=Ar hc.1 hc.2
  have hlen:0<l.length /\ l.length<=64:=by
   have:=hc.1;unfold be at this;simp only [Vo] at this;split at this
   .cases this
   .split at this
    .cases this
    .omega
  have ht:(l.map ah.op).take 70=l.map ah.op:=VK (by simp;omega);have hsh:=zL l hl;rw [ht] at hsh;have ew:IntKind.i64.wrap ((l.length:Int) - 1)=((l.length - 1:Nat):Int):=by rw [aD (by omega) (by omega)];omega
  have hat:=Kl l s (by omega) ho hd (l.length) (l.length - 1) (by omega) b [] (by omega) (by rw [show l.length - 1+1=l.length by omega,Vq];exact h1)
  repeat' first|refine go ?_|decide|refine sp ?_ ?_<;>intro _
  refine ay hck ?_
  repeat' first|refine go ?_|decide|refine sp ?_ ?_<;>intro _
  refine ap [] [0,1,3,4,5,6] (.exec 2 (.exec 7 (.exec 8 (.exec 9 .done)))) (by kernel_rfl) (by simp) ?_
  repeat' first|refine ge ew ?_|decide|refine sp ?_ ?_<;>intro _
  refine dM hsh (.inr qO) ?_
  repeat' first|refine ge ew ?_|decide|refine sp ?_ ?_<;>intro _
  refine ay (by exact hat) ?_
  repeat' first|refine go ?_|decide|refine sp ?_ ?_<;>intro _
  exact aX (by rw [h2];rfl)
 .have hck:=vp l s true hl false (by simp only [VL,false_iff];exact hc)
  repeat' first|refine go ?_|decide|refine sp ?_ ?_<;>intro _
  refine ay hck ?_
  repeat' first|refine go ?_|decide|refine sp ?_ ?_<;>intro _
  exact aX (by rw [zo hc];rfl)
theorem RE (m:bk) (hl:m.stages.length<=1000000):aw Tryz.prog 30 [.agg (aW m)] (iZ 3 1 ((gA m).map fun n=>[eI n])):=by
 refine aa ag Tryz.func30 rfl (by decide) Tryz.ntmps30 Tryz.results30 rfl (cT _ _ _) ?_
 repeat' first|refine go ?_|decide|refine sp ?_ ?_<;>intro _
 refine af (fun st=>∃ k:Nat,k<=m.stages.length /\ st=⟨22,[(1,.op 0 0 0),(3,.osl 1),(4,eI (k:Int))],[(0,some (.box 32 (aW m))),(1,some (.row 3 1 ((m.stages.take k).map fun p=>[eI p.2])))],2⟩) (fun st=>m.stages.length - ax st 4) ⟨_,((bA 3 3 1 (by simp only [jn,aj.get,bh,aj.put,↓reduceIte,reduceCtorEq,Nat.reduceLT,Nat.reduceEqDiff,Nat.reduceAdd,Nat.reduceLeDiff,eq_self,implies_true,VA,VP])).trans (wS [0,1] @VA)),0,Vg _,rfl⟩ ?_;rintro _ ⟨k,hk,rfl⟩;by_cases hlt:k<m.stages.length
 .have et:(m.stages.take (k+1)).map (fun p=>[eI p.2])=(m.stages.take k).map (fun p=>[eI p.2]) ++ [[eI m.stages[k].2]]:=dT _ _ hlt
  repeat' first|refine go ?_|simp only [ab,hlt]|decide|refine sp ?_ ?_<;>intro _
  refine ⟨rfl,by simp only [Vr];omega,rI (wS [0,3] et) ⟨k+1,by omega,rfl⟩⟩
 .obtain rfl:k=m.stages.length:=by omega
  repeat' first|refine go ?_|simp only [ab,hlt]|decide|refine sp ?_ ?_<;>intro _
  exact aY (by simp [ae.gc,gA])
theorem Pa (l:List Int) (a i:Int) (hl:l.length<=1073741824) (ho:∀ x ∈ l,aI x):aw Tryz.prog 66 [sI l,eI a,eI i] (val (.bool (decide (Nu l a i)))):=
 fM (fb Tryz.func66 rfl (by decide)) fun S w vs hS hn hv=>by
  obtain ⟨v,v1,v2,rfl⟩:∃ v v1 v2,vs = #[v,v1,v2]:=⟨vs[0]'(by simp at hn;omega),vs[1]'(by simp at hn;omega),vs[2]'(by simp at hn;omega),by
   apply Array.ext
   .simpa using hn
   .intro i h1 h2;simp at h2
    match i,h2 with
    | 0,_=>rfl
    | 1,_=>rfl
    | 2,_=>rfl⟩
  obtain rfl:=Gj (hv 1 v1 _ rfl rfl);obtain rfl:=Gj (hv 2 v2 _ rfl rfl);exact (Ii l v a i w hl (xU (hv 0 v _ rfl rfl) hS ho)).mono fun e w' ⟨h1,h2⟩=>⟨h1,h2 ▸ Below.refl _ _⟩
theorem dX (n most:Int):aw Tryz.prog 155 [eI n,eI most] (val (.bool (eE n most))):=by
 refine aa ag Tryz.func155 rfl (by decide) Tryz.ntmps155 Tryz.results155 rfl (aL _) ?_;unfold eE
 repeat' first|refine go ?_|decide|refine sp ?_ ?_<;>intro _
 all_goals (rename_i h;rw [h];simp)
theorem uP (m:bk) (s:St) (xm:Bool) (xn event:Int) (hf:ur m) (ho:aI s.opn) (hd:aI s.don):aw Tryz.prog 123 [.agg (aW m),.agg (gE s),.agg [eB xm,eI xn],eI event] (val (.bool (fW m s (xm,xn) event))):=by
 refine aa ag Tryz.func123 rfl (by decide) Tryz.ntmps123 Tryz.results123 rfl (aL _) ?_;obtain ⟨hgl,hml,hsl,-⟩:=id hf.sizes
 cases xm with
 | true=>
  by_cases hin:0<=xn /\ xn<(m.miles.length:Int)
  .obtain ⟨k,rfl⟩:∃ k:Nat,xn=(k:Int):=⟨xn.toNat,by omega⟩;have hk:k<m.miles.length:=(by omega);have ei:eE (k:Int) (m.miles.length:Int)=true:=by simp [eE];omega
   have eR:fW m s (true,(k:Int)) event=(eE m.miles[k].stage m.stages.length && ((m.miles[k].event == -1) || (m.miles[k].event == event)) && bp s.opn m.miles[k].stage && jf (i7 m.miles[k].cond s)):=by
    simp [fW,po,dm,hk,D6,eE,Bool.and_assoc]
   rw [eR];have hho:=pT m.miles[k].cond s (by have:=hf.miles _ (Vf hk);omega) ho hd
   repeat' first|refine go ?_|simp only [ab,hk]|decide|refine sp ?_ ?_<;>intro _
   refine ay (dX _ _) ?_
   repeat' first|refine go ?_|simp only [ab,hk,ei]|decide|refine sp ?_ ?_<;>intro _
   refine cZ hho (ro) ?_
   repeat' first|refine go ?_|decide|refine sp ?_ ?_<;>intro _
   refine ay (dX _ _) ?_
   repeat' first|refine go ?_|decide|refine sp ?_ ?_<;>intro _
   all_goals first
    | (simp [*];done)
    | (refine ay (eJ _ _ ho) ?_;(repeat' (first | refine go ?_ | decide | refine sp ?_ ?_<;>intro _));all_goals (simp [*];done))
  .have ei:eE xn (m.miles.length:Int)=false:=by unfold eE;rw [VW];simp only [Vx];omega
   have eR:fW m s (true,xn) event=false:=by
    have:dm m (true,xn)=none:=by
     simp only [dm,if_true];split
     .rw [Vs (by omega)];try rfl
     .rfl
    simp [fW,po,this]
   rw [eR]
   repeat' first|refine go ?_|decide|refine sp ?_ ?_<;>intro _
   refine ay (dX _ _) ?_
   repeat' first|refine ge ei ?_|decide|refine sp ?_ ?_<;>intro _
 | false=>
  by_cases hin:0<=xn /\ xn<(m.guards.length:Int)
  .obtain ⟨k,rfl⟩:∃ k:Nat,xn=(k:Int):=⟨xn.toNat,by omega⟩;have hk:k<m.guards.length:=(by omega);have ei:eE (k:Int) (m.guards.length:Int)=true:=by simp [eE];omega
   have hho:=pT m.guards[k].cond s (by have:=hf.guards _ (Vf hk);omega) ho hd;by_cases hst:0<=m.guards[k].stage /\ m.guards[k].stage<(m.stages.length:Int)
   .obtain ⟨q,hq⟩:∃ q:Nat,m.guards[k].stage=(q:Int):=⟨m.guards[k].stage.toNat,by omega⟩;have hql:q<m.stages.length:=(by omega);have es:eE (q:Int) (m.stages.length:Int)=true:=by simp [eE];omega
    have eR:fW m s (false,(k:Int)) event=(((m.guards[k].event == -1) || (m.guards[k].event == event)) && !bp s.opn q && ((m.stages[q].2 == -1) || (eE m.stages[q].2 m.stages.length && bp s.opn m.stages[q].2)) && jf (i7 m.guards[k].cond s)):=by
     have hno:∀ p:Int,(decide (p<(m.stages.length:Int)) && bp s.opn p)=(eE p m.stages.length && bp s.opn p):=fun p=>by
      by_cases h0:0<=p
      .simp [eE,h0]
      .rw [jg _ _ (by omega)];simp
     simp [fW,po,dm,hk,D6,hq,Lw,hql,hno]
    rw [eR]
    repeat' first|refine go ?_|simp only [ab,hk]|decide|refine sp ?_ ?_<;>intro _
    refine aA (by kernel_rfl) ?_
    repeat' first|refine go ?_|simp only [ab,hk]|decide|refine sp ?_ ?_<;>intro _
    refine aP (dX _ _) ?_
    repeat' first|refine go ?_|simp only [ab,hk,ei]|decide|refine sp ?_ ?_<;>intro _
    refine aP (dX _ _) ?_;rw [hq]
    repeat' first|refine go ?_|simp only [ab,hk,es,hq,hql]|decide|refine sp ?_ ?_<;>intro _
    refine cZ hho (ro) ?_
    repeat' first|refine ge hq ?_|decide|refine sp ?_ ?_<;>intro _
    all_goals first
     | (simp [*];done)
     | (refine ay (eJ _ _ ho) ?_;(repeat' (first | refine go ?_ | decide | refine sp ?_ ?_<;>intro _)))
    all_goals first
     | (simp [*];done)
     | (refine ay (dX _ _) ?_;(repeat' (first | refine go ?_ | decide | refine sp ?_ ?_<;>intro _)))
    all_goals first
     | (simp [*];done)
     | (refine ay (eJ _ _ ho) ?_;(repeat' (first | refine go ?_ | decide | refine sp ?_ ?_<;>intro _)))
    all_goals (simp [*];done)
   .have es:eE m.guards[k].stage (m.stages.length:Int)=false:=by unfold eE;rw [VW];simp only [Vx];omega
    have eR:fW m s (false,(k:Int)) event=false:=by
     have:D6 m m.guards[k].stage=false:=by unfold D6;rw [VW];simp only [Vx];omega
     simp [fW,po,dm,hk,this]
    rw [eR]
    repeat' first|refine go ?_|simp only [ab,hk]|decide|refine sp ?_ ?_<;>intro _
    refine aA (by kernel_rfl) ?_
    repeat' first|refine go ?_|simp only [ab,hk]|decide|refine sp ?_ ?_<;>intro _
    refine aP (dX _ _) ?_
    repeat' first|refine go ?_|simp only [ab,hk,ei]|decide|refine sp ?_ ?_<;>intro _
    refine aP (dX _ _) ?_
    repeat' first|refine go ?_|simp only [ab,hk,es]|decide|refine sp ?_ ?_<;>intro _
  .have ei:eE xn (m.guards.length:Int)=false:=by unfold eE;rw [VW];simp only [Vx];omega
   have eR:fW m s (false,xn) event=false:=by
    have:dm m (false,xn)=none:=by
     simp only [dm,VL,if_false];split
     .rw [Vs (by omega)];try rfl
     .rfl
    simp [fW,po,this]
   rw [eR]
   repeat' first|refine go ?_|decide|refine sp ?_ ?_<;>intro _
   refine aA (by kernel_rfl) ?_
   repeat' first|refine go ?_|decide|refine sp ?_ ?_<;>intro _
   refine aP (dX _ _) ?_
   repeat' first|refine ge ei ?_|decide|refine sp ?_ ?_<;>intro _
end
end
section
section
def cN (o:Int):Prop:=0<=o /\ o<2147483648
theorem dl {o:Int} (h:cN o):aI o:=by unfold cN at h;unfold aI;omega
theorem Ka (s:Int):cN (kR s:Int):=by
 have:=gn s;unfold cN;omega
theorem pe (s i:Int):cN (dK s i):=by
 unfold dK;split
 .have h1:kR s ||| 2 ^ i.toNat<2 ^ 31:=Nat.or_lt_two_pow (gn s) (Nat.pow_lt_pow_right (by omega) (by omega));unfold cN;omega
 .exact Ka s
theorem mc (s i:Int):cN (co s i):=by
 unfold co;split
 .have h1:kR s ^^^ (kR s &&& 2 ^ i.toNat)<2 ^ 31:=Nat.xor_lt_two_pow (gn s) (XD Nat.and_le_left (gn s));unfold cN;omega
 .exact Ka s
theorem wN:∀ (l:List Int) (o:Int),cN o -> cN (l.foldl co o)
 | [],o,h=>h
 | i :: l,o,h=>wN l _ (mc o i)
theorem xo (l:List Ml) (st d:Int) (h:cN d):∀ k,cN (uf l st d k)
 | 0=>h
 | k+1=>by
  unfold uf;split
  .exact mc _ _
  .exact xo l st d h k
theorem zJ:∀ (l:List Int) (o j:Int),bp (l.foldl co o) j=(bp o j && !decide (j ∈ l))
 | [],o,j=>by simp
 | i :: l,o,j=>by
  rw [Xc,zJ l,iG];by_cases h:j=i
  .simp [h]
  .have:(j == i)=false:=by simpa using h
   simp [this,h]
theorem sa (l:List Ml) (st d:Int) (i:Nat):∀ k,bp (uf l st d k) (i:Int)=(bp d (i:Int) && !(decide (i<k) && decide (l[i]?.map (·.stage)=some st)))
 | 0=>by simp [uf]
 | k+1=>by
  unfold uf;split
  .rename_i h;rw [iG,sa l st d i k];by_cases hik:i=k
   .subst hik;simp [h]
   .have e1:((i:Int) == (k:Int))=false:=by simp;omega
    have e2:decide (i<k+1)=decide (i<k):=by rw [decide_eq_decide];omega
    rw [e1,e2];simp
  .rename_i h;rw [sa l st d i k];by_cases hik:i=k
   .subst hik;simp [h]
   .have e2:decide (i<k+1)=decide (i<k):=by rw [decide_eq_decide];omega
    rw [e2]
def fh (s:Int) (p:Nat -> Bool):List Bool:=(List.range 31).map fun (i:Nat)=>bp s (i:Int) && !p i
def gB (q:Nat -> Bool) (k:Nat):Nat -> Bool:=fun i=>decide (i<k) && q i
theorem uX (s:Int) (q:Nat -> Bool):fh s (gB q 0)=rd s:=by simp [fh,rd,gB]
theorem zM (s:Int) (p:Nat -> Bool):(fh s p).length=31:=by simp [fh]
theorem tn {s:Int} {q:Nat -> Bool} {k:Nat} (h:q k=true):(fh s (gB q k)).set k false=fh s (gB q (k+1)):=by
 apply V2;intro i;rw [Wz];simp only [fh,Ve,Vo,List.length_range];by_cases hi:i<31
 .rw [Ws hi];split
  .rename_i e;subst e;rw [Vn hi];simp [gB,h]
  .rename_i e;have e2:decide (i<k+1)=decide (i<k):=by rw [decide_eq_decide];omega
   simp [gB,e2]
 .rw [Vs (by simp;omega)];split
  .rw [Vh (by omega)];rfl
  .rfl
theorem Dt {s:Int} {q:Nat -> Bool} {k:Nat} (h:q k=false):fh s (gB q k)=fh s (gB q (k+1)):=by
 have:gB q k=gB q (k+1):=by
  funext i
  unfold gB;by_cases hik:i=k
  .subst hik;simp [h]
  .have e2:decide (i<k+1)=decide (i<k):=by rw [decide_eq_decide];omega
   rw [e2]
 rw [this]
theorem yn (s:Int) (p:Nat -> Bool) {t:Int} (ht:cN t) (h:∀ j:Nat,j<31 -> bp t (j:Int)=(bp s (j:Int) && !p j)):nk (fh s p) 31=t:=by
 have hr:=jW (fun j=>(fh s p).getD j false) 31;unfold nk;refine Dm (by omega) ht fun j hj=>?_;rw [u3 _ j hj,h j hj];simp [fh,hj]
noncomputable def qA (m:bk) (st:Int):Nat -> Bool:=fun i=>decide ((i:Int)=st) || decide (Nu (gA m) st (i:Int))
def qB (m:bk) (st:Int):Nat -> Bool:=fun i=>decide (m.miles[i]?.map (·.stage)=some st)
theorem Sp {m:bk} {st s:Int} (hst:iJ (gA m) st) (hs:cN s):nk (fh s (gB (qA m st) m.stages.length)) 31=(wn (gA m) st ++ [st]).foldl co s:=by
 refine yn s _ (wN _ _ hs) fun j hj=>?_;rw [zJ]
 congr 2
 have hpl:(gA m).length=m.stages.length:=by simp [gA]
 rw [Wo];simp only [VG,gB,qA,Vw,Xd,Vp,VF];unfold wn;rw [Vn hst];simp only [Vt,List.mem_filter,WS,VG];have hst':=hst;unfold iJ at hst';constructor
 .rintro (⟨k,⟨h1,h2,h3⟩,h4⟩ | h)
  .obtain rfl:k=j:=by omega
   obtain ⟨i,h5,h6,h7⟩:=(vE (gA m) (k:Int) st hst'.1 h2).1 h3;exact ⟨by omega,.inr ⟨i,h5,h6,hst'.1,h7⟩⟩
  .exact ⟨by omega,.inl h⟩
 .rintro ⟨h1,h2⟩;by_cases he:(j:Int)=st
  .exact .inr he
  .left;rcases h2 with h2|⟨i,h5,h6,h7,h8⟩
   .exact absurd h2 he
   .exact ⟨j,⟨by omega,he,(vE (gA m) (j:Int) st hst'.1 he).2 ⟨i,h5,h6,h8⟩⟩,rfl⟩
theorem QK {m:bk} {st s:Int} (hs:cN s):nk (fh s (gB (qB m st) m.miles.length)) 31=uf m.miles st s m.miles.length:=by
 refine yn s _ (xo _ _ _ hs _) fun j hj=>?_;rw [sa];rfl
theorem jp {l:List Bool}:∀ row ∈ l.map (fun b=>[eB b]),∀ av ∈ row,av.plain:=fun row hr av ha=>by
 obtain ⟨n,_,rfl⟩:=Vt.1 hr;simp at ha;subst ha;trivial
theorem zy (m:bk) (s:St) (xm:Bool) (xn:Int) (hf:ur m) (hp:∀ p ∈ m.stages,aI p.2) (ho:cN s.opn) (hd:cN s.don):aw Tryz.prog 124 [.agg (aW m),.agg (gE s),.agg [eB xm,eI xn]] ⟨.agg (gE (eY m s (xm,xn))),[],0⟩:=by
 refine aa ag Tryz.func124 rfl (by decide) Tryz.ntmps124 Tryz.results124 rfl (⟨fun id o h=>(by cases h),⟨trivial,trivial,trivial,trivial,trivial,trivial⟩⟩) ?_;obtain ⟨hgl,hml,hsl,-⟩:=id hf.sizes;have hpl:(gA m).length=m.stages.length:=by simp [gA]
 have hpo:∀ x ∈ gA m,aI x:=fun x hx=>by
  obtain ⟨p,hp',rfl⟩:=Vt.1 hx;exact hp p hp'
 have ro:dJ [.agg (aW m),.agg (gE s),.agg [eB xm,eI xn]]:=by simp [dJ,eU,aM,aU]
 cases xm with
 | true=>
  by_cases hin:0<=xn /\ xn<(m.miles.length:Int)
  .obtain ⟨k,rfl⟩:∃ k:Nat,xn=(k:Int):=⟨xn.toNat,by omega⟩;have hk:k<m.miles.length:=(by omega);have ei:eE (k:Int) (m.miles.length:Int)=true:=by simp [eE];omega
   by_cases hst:0<=m.miles[k].stage /\ m.miles[k].stage<(m.stages.length:Int)
   .have es:eE m.miles[k].stage (m.stages.length:Int)=true:=by unfold eE;simp;omega
    have hs2:D6 m m.miles[k].stage=true:=by unfold D6;simp;omega
    have eR:eY m s (true,(k:Int))={ s with don:=dK s.don k,opn:=(wn (gA m) m.miles[k].stage ++ [m.miles[k].stage]).foldl co s.opn }:=by
     simp [eY,dm,hk,hs2]
    rw [eR,<- Sp (m:=m) (by unfold iJ;omega) ho];have eK:Hj m.miles[k]=[eS m.miles[k].name,eI m.miles[k].stage,eI m.miles[k].event,aR m.miles[k].cond,eB m.miles[k].final]:=rfl;generalize hstg:m.miles[k].stage=st at hst es hs2 eK;have hput:=sY s.don (k:Int) true (dl hd) (by omega) (by omega);simp only [if_true] at hput
    repeat' first|refine go ?_|simp only [ab,hk]|decide|refine sp ?_ ?_<;>intro _
    refine aA (by kernel_rfl) ?_
    repeat' first|refine go ?_|simp only [ab,hk]|decide|refine sp ?_ ?_<;>intro _
    refine aP (dX _ _) ?_
    repeat' first|refine go ?_|simp only [ab,hk,ei,hstg]|decide|refine sp ?_ ?_<;>intro _
    refine aP (dX _ _) ?_
    repeat' first|refine go ?_|simp only [ab,hk,ei,es,hstg]|decide|refine sp ?_ ?_<;>intro _
    refine ay hput ?_
    repeat' first|refine go ?_|decide|refine sp ?_ ?_<;>intro _
    refine dM (Km s.opn (dl ho)) (.inr jp) ?_
    repeat' first|refine go ?_|decide|refine sp ?_ ?_<;>intro _
    rw [<- uX s.opn (qA m st)];refine af (fun s'=>∃ i:Nat,i<=m.stages.length /\ s'=⟨148,[(3,.op 0 0 0),(4,.op 1 0 0),(6,.op 2 0 0),(7,eI st),(8,.osl 3),(9,eI (i:Int))],[(0,some (.box 32 (aW m))),(1,some (.box 132 (gE { s with don:=dK s.don k }))),(2,some (.box 132 [.c (.slice none 0 0),eI 0,eI 0,.c (.slice none 0 0),.c (.slice none 0 0)])),(3,some (.row 4 1 ((fh s.opn (gB (qA m st) i)).map fun b=>[eB b])))],4⟩) (fun s'=>m.stages.length - ax s' 9) ⟨_,(wR [0,1,3,4]),0,Vg _,rfl⟩ ?_;rintro _ ⟨i,hi,rfl⟩;have hml31:=zM s.opn (gB (qA m st) i);by_cases hlt:i<m.stages.length
    .have hi31:i<(fh s.opn (gB (qA m st) i)).length:=(by omega);have hset:(((fh s.opn (gB (qA m st) i)).map fun b=>[eB b]).set i [eB false])=((fh s.opn (gB (qA m st) i)).set i false).map fun b=>[eB b]:=(by rw [WK])
     repeat' first|refine go ?_|simp only [ab,hlt,hi31]|decide|refine sp ?_ ?_<;>intro _
     .rename_i h;have hq:qA m st i=true:=by simp [qA];left;simpa using h
      exact rI (j8 (by (first|((simp only [md,lV,dD,cO,aE.lt,AV.lt,AV.ltL,jn,aj.get,bh,aj.put,↓reduceIte,reduceCtorEq,Nat.reduceLT,Nat.reduceEqDiff,Nat.reduceAdd,Nat.reduceLeDiff,eq_self,implies_true,hset,tn hq])<;>(repeat' apply And.intro)<;>first|(rw [n9 (by omega)];done)|(simp;done)|omega)|fail))) ⟨i+1,by omega,rfl⟩
     .rename_i h;refine dM (RE m (by omega)) (.inr fr) ?_
      repeat' first|refine go ?_|decide|refine sp ?_ ?_<;>intro _
      refine ay (Pa (gA m) st (i:Int) (by omega) hpo) ?_
      repeat' first|refine go ?_|simp only [ab,hlt,hi31]|decide|refine sp ?_ ?_<;>intro _
      .rename_i h2;have hq:qA m st i=true:=(by simp only [qA,h2,Bool.or_true]);exact rI (mo [0,1,2,3] ⟨(by decide),(by (first|((simp only [jP,i6,dD,cO,aE.lt,AV.lt,AV.ltL,AV.ren,AV.renL,aE.ren,Xt,List.getD_cons_succ,VI,Wt,jn,aj.get,bh,aj.put,↓reduceIte,reduceCtorEq,Nat.reduceLT,Nat.reduceEqDiff,Nat.reduceAdd,Nat.reduceLeDiff,eq_self,implies_true,hset,tn hq])<;>(repeat' apply And.intro)<;>first|(rw [n9 (by omega)];done)|(simp;done)|omega)|fail))⟩) ⟨i+1,by omega,rfl⟩
      .rename_i h2
       have hq:qA m st i=false:=by
        simp only [qA,h2,Bool.or_false];simpa using h
       exact rI (mo [0,1,2,3] ⟨(by decide),(by (first|((simp only [jP,i6,dD,cO,aE.lt,AV.lt,AV.ltL,AV.ren,AV.renL,aE.ren,Xt,List.getD_cons_succ,VI,Wt,jn,aj.get,bh,aj.put,↓reduceIte,reduceCtorEq,Nat.reduceLT,Nat.reduceEqDiff,Nat.reduceAdd,Nat.reduceLeDiff,eq_self,implies_true,Dt hq])<;>(repeat' apply And.intro)<;>first|(rw [n9 (by omega)];done)|(simp;done)|omega)|fail))⟩) ⟨i+1,by omega,rfl⟩
    .obtain rfl:i=m.stages.length:=by omega
     have hsum:=IB (fh s.opn (gB (qA m st) m.stages.length)) (by omega);rw [hml31] at hsum
     repeat' first|refine go ?_|simp only [ab,hlt]|decide|refine sp ?_ ?_<;>intro _
     refine ay (by exact hsum) ?_
     repeat' first|refine go ?_|decide|refine sp ?_ ?_<;>intro _
     exact aX (by simp [AV.ren,AV.renL])
   .have es:eE m.miles[k].stage (m.stages.length:Int)=false:=by unfold eE;rw [VW];simp only [Vx];omega
    have eR:eY m s (true,(k:Int))=s:=by
     have:D6 m m.miles[k].stage=false:=by unfold D6;rw [VW];simp only [Vx];omega
     simp [eY,dm,hk,this]
    rw [eR]
    repeat' first|refine go ?_|simp only [ab,hk]|decide|refine sp ?_ ?_<;>intro _
    refine aA (by kernel_rfl) ?_
    repeat' first|refine go ?_|simp only [ab,hk]|decide|refine sp ?_ ?_<;>intro _
    refine aP (dX _ _) ?_
    repeat' first|refine go ?_|simp only [ab,hk,ei]|decide|refine sp ?_ ?_<;>intro _
    refine aP (dX _ _) ?_
    repeat' first|refine go ?_|simp only [ab,hk,ei,es]|decide|refine sp ?_ ?_<;>intro _
    exact aX (by simp [AV.ren,AV.renL])
  .have ei:eE xn (m.miles.length:Int)=false:=by unfold eE;rw [VW];simp only [Vx];omega
   have eR:eY m s (true,xn)=s:=by
    have:dm m (true,xn)=none:=by
     simp only [dm,if_true];split
     .rw [Vs (by omega)];try rfl
     .rfl
    simp [eY,this]
   rw [eR]
   repeat' first|refine go ?_|decide|refine sp ?_ ?_<;>intro _
   refine aA (by kernel_rfl) ?_
   repeat' first|refine go ?_|decide|refine sp ?_ ?_<;>intro _
   refine aP (dX _ _) ?_
   repeat' first|refine ge ei ?_|decide|refine sp ?_ ?_<;>intro _
   exact aX (by simp [AV.ren,AV.renL])
 | false=>
  by_cases hin:0<=xn /\ xn<(m.guards.length:Int)
  .obtain ⟨k,rfl⟩:∃ k:Nat,xn=(k:Int):=⟨xn.toNat,by omega⟩;have hk:k<m.guards.length:=(by omega);have ei:eE (k:Int) (m.guards.length:Int)=true:=by simp [eE];omega
   by_cases hst:0<=m.guards[k].stage /\ m.guards[k].stage<(m.stages.length:Int)
   .have es:eE m.guards[k].stage (m.stages.length:Int)=true:=by unfold eE;simp;omega
    have hs2:D6 m m.guards[k].stage=true:=by unfold D6;simp;omega
    have eR:eY m s (false,(k:Int))={ s with opn:=dK s.opn m.guards[k].stage,don:=uf m.miles m.guards[k].stage s.don m.miles.length }:=by
     simp [eY,dm,hk,hs2]
    rw [eR,<- QK hd];generalize hstg:m.guards[k].stage=st at hst es hs2;have hput:=sY s.opn st true (dl ho) hst.1 (by omega);simp only [if_true] at hput
    repeat' first|refine go ?_|simp only [ab,hk]|decide|refine sp ?_ ?_<;>intro _
    refine aA (by kernel_rfl) ?_
    repeat' first|refine go ?_|simp only [ab,hk]|decide|refine sp ?_ ?_<;>intro _
    refine aP (dX _ _) ?_
    repeat' first|refine go ?_|simp only [ab,hk,ei,hstg]|decide|refine sp ?_ ?_<;>intro _
    refine aP (dX _ _) ?_
    repeat' first|refine go ?_|simp only [ab,hk,ei,es,hstg]|decide|refine sp ?_ ?_<;>intro _
    refine ay hput ?_
    repeat' first|refine go ?_|decide|refine sp ?_ ?_<;>intro _
    refine dM (Km s.don (dl hd)) (.inr jp) ?_
    repeat' first|refine go ?_|decide|refine sp ?_ ?_<;>intro _
    rw [<- uX s.don (qB m st)];refine af (fun s'=>∃ i:Nat,i<=m.miles.length /\ s'=⟨148,[(3,.op 0 0 0),(4,.op 1 0 0),(6,.op 2 0 0),(10,eI st),(11,.osl 3),(12,eI (i:Int))],[(0,some (.box 32 (aW m))),(1,some (.box 132 (gE { s with opn:=dK s.opn st }))),(2,some (.box 132 [.c (.slice none 0 0),eI 0,eI 0,.c (.slice none 0 0),.c (.slice none 0 0)])),(3,some (.row 4 1 ((fh s.don (gB (qB m st) i)).map fun b=>[eB b])))],4⟩) (fun s'=>m.miles.length - ax s' 12) ⟨_,(wR [0,1,3,4]),0,Vg _,rfl⟩ ?_;rintro _ ⟨i,hi,rfl⟩;have hml31:=zM s.don (gB (qB m st) i);by_cases hlt:i<m.miles.length
    .have hi31:i<(fh s.don (gB (qB m st) i)).length:=(by omega);have hset:(((fh s.don (gB (qB m st) i)).map fun b=>[eB b]).set i [eB false])=((fh s.don (gB (qB m st) i)).set i false).map fun b=>[eB b]:=(by rw [WK])
     repeat' first|refine go ?_|simp only [ab,hlt,hi31]|decide|refine sp ?_ ?_<;>intro _
     .rename_i h;have hq:qB m st i=true:=by simp [qB,hlt];simpa using h
      exact rI (j8 (by (first|((simp only [md,lV,dD,cO,aE.lt,AV.lt,AV.ltL,jn,aj.get,bh,aj.put,↓reduceIte,reduceCtorEq,Nat.reduceLT,Nat.reduceEqDiff,Nat.reduceAdd,Nat.reduceLeDiff,eq_self,implies_true,hset,tn hq])<;>(repeat' apply And.intro)<;>first|(rw [n9 (by omega)];done)|(simp;done)|omega)|fail))) ⟨i+1,by omega,rfl⟩
     .rename_i h;have hq:qB m st i=false:=by simp [qB,hlt];simpa using h
      exact rI (j8 (by (first|((simp only [md,lV,dD,cO,aE.lt,AV.lt,AV.ltL,jn,aj.get,bh,aj.put,↓reduceIte,reduceCtorEq,Nat.reduceLT,Nat.reduceEqDiff,Nat.reduceAdd,Nat.reduceLeDiff,eq_self,implies_true,Dt hq])<;>(repeat' apply And.intro)<;>first|(rw [n9 (by omega)];done)|(simp;done)|omega)|fail))) ⟨i+1,by omega,rfl⟩
    .obtain rfl:i=m.miles.length:=by omega
     have hsum:=IB (fh s.don (gB (qB m st) m.miles.length)) (by omega);rw [hml31] at hsum
     repeat' first|refine go ?_|simp only [ab,hlt]|decide|refine sp ?_ ?_<;>intro _
     refine ay (by exact hsum) ?_
     repeat' first|refine go ?_|decide|refine sp ?_ ?_<;>intro _
     exact aX (by simp [AV.ren,AV.renL])
   .have es:eE m.guards[k].stage (m.stages.length:Int)=false:=by unfold eE;rw [VW];simp only [Vx];omega
    have eR:eY m s (false,(k:Int))=s:=by
     have:D6 m m.guards[k].stage=false:=by unfold D6;rw [VW];simp only [Vx];omega
     simp [eY,dm,hk,this]
    rw [eR]
    repeat' first|refine go ?_|simp only [ab,hk]|decide|refine sp ?_ ?_<;>intro _
    refine aA (by kernel_rfl) ?_
    repeat' first|refine go ?_|simp only [ab,hk]|decide|refine sp ?_ ?_<;>intro _
    refine aP (dX _ _) ?_
    repeat' first|refine go ?_|simp only [ab,hk,ei]|decide|refine sp ?_ ?_<;>intro _
    refine aP (dX _ _) ?_
    repeat' first|refine go ?_|simp only [ab,hk,ei,es]|decide|refine sp ?_ ?_<;>intro _
    exact aX (by simp [AV.ren,AV.renL])
  .have ei:eE xn (m.guards.length:Int)=false:=by unfold eE;rw [VW];simp only [Vx];omega
   have eR:eY m s (false,xn)=s:=by
    have:dm m (false,xn)=none:=by
     simp only [dm,VL,if_false];split
     .rw [Vs (by omega)];try rfl
     .rfl
    simp [eY,this]
   rw [eR]
   repeat' first|refine go ?_|decide|refine sp ?_ ?_<;>intro _
   refine aA (by kernel_rfl) ?_
   repeat' first|refine go ?_|decide|refine sp ?_ ?_<;>intro _
   refine aP (dX _ _) ?_
   repeat' first|refine ge ei ?_|decide|refine sp ?_ ?_<;>intro _
   exact aX (by simp [AV.ren,AV.renL])
theorem D0 (m:bk) (s:St) (x:Bool × Int) (h:cN s.opn /\ cN s.don):cN (eY m s x).opn /\ cN (eY m s x).don:=by
 unfold eY;split
 .split
  .split
   .exact ⟨wN _ _ h.1,pe _ _⟩
   .exact ⟨pe _ _,xo _ _ _ h.2 _⟩
  .exact h
 .exact h
theorem N9 (m:bk) (event:Int) (s:St) (x:Bool × Int) (h:cN s.opn /\ cN s.don):cN (ik m event s x).opn /\ cN (ik m event s x).don:=by
 unfold ik;split
 .exact D0 m s x h
 .exact h
theorem sA (m:bk) (event:Int):∀ (l:List (Bool × Int)) (s:St),cN s.opn /\ cN s.don -> cN (l.foldl (ik m event) s).opn /\ cN (l.foldl (ik m event) s).don
 | [],s,h=>h
 | x :: l,s,h=>sA m event l _ (N9 m event s x h)
theorem TP (s:St):(⟨.agg (gE s),[],0⟩:cM).Ok:=⟨fun id o h=>(by cases h),⟨trivial,trivial,trivial,trivial,trivial,trivial⟩⟩
theorem IZ (m:bk) (s:St) (event:Int) (hf:ur m) (hp:∀ p ∈ m.stages,aI p.2) (ho:cN s.opn) (hd:cN s.don):aw Tryz.prog 112 [.agg (aW m),.agg (gE s),eI event] ⟨.agg (gE (mb m event s m.order.length)),[],0⟩:=by
 refine aa ag Tryz.func112 rfl (by decide) Tryz.ntmps112 Tryz.results112 rfl (TP _) ?_
 repeat' first|refine go ?_|decide|refine sp ?_ ?_<;>intro _
 have hol:m.order.length<=40:=hf.sizes.2.2.2.2.2.2.2.2.1;have e0:mb m event s 0=s:=rfl;refine af (fun s'=>∃ k:Nat,k<=m.order.length /\ s'=⟨33,[(2,eI event),(3,.op 0 0 0),(4,.op 1 0 0),(6,.op 2 0 0),(7,eI (k:Int))],[(0,some (.box 32 (aW m))),(1,some (.box 132 (gE (mb m event s k)))),(2,some (.box 132 [.c (.slice none 0 0),eI 0,eI 0,.c (.slice none 0 0),.c (.slice none 0 0)]))],3⟩) (fun st=>m.order.length - ax st 7) ⟨_,(wE e0),0,Vg _,rfl⟩ ?_;rintro _ ⟨k,hk,rfl⟩;by_cases hlt:k<m.order.length
 .have ef:mb m event s (k+1)=ik m event (mb m event s k) m.order[k]:=Fm _ _ _ hlt;have hv:=sA m event (m.order.take k) s ⟨ho,hd⟩
  change cN (mb m event s k).opn /\ cN (mb m event s k).don at hv
  repeat' first|refine go ?_|simp only [ab,hlt]|decide|refine sp ?_ ?_<;>intro _
  generalize mb m event s k=t at ef hv ⊢;refine aA (by kernel_rfl) ?_;obtain ⟨x,hx⟩:∃ x,m.order[k]=x:=⟨_,rfl⟩;rw [hx] at ef
  repeat' first|refine go ?_|simp only [ab,hlt,hx]|decide|refine sp ?_ ?_<;>intro _
  refine aP (uP m t x.1 x.2 event hf (dl hv.1) (dl hv.2)) ?_
  repeat' first|refine go ?_|decide|refine sp ?_ ?_<;>intro _
  .rename_i h;have e1:ik m event t x=eY m t x:=Vn h;rw [e1] at ef;refine Cs 7 (by kernel_rfl) ?_
   repeat' first|refine go ?_|simp only [ab,hlt,hx]|decide|refine sp ?_ ?_<;>intro _
   refine cZ (zy m t x.1 x.2 hf hp hv.1 hv.2) (ro) ?_
   repeat' first|refine go ?_|decide|refine sp ?_ ?_<;>intro _
   exact rI (wE ef) ⟨k+1,by omega,rfl⟩
  .rename_i h;have e1:ik m event t x=t:=Vh (by rw [show (x:Bool × Int)=(x.1,x.2) from rfl,h];simp);rw [e1] at ef;exact rI (wE ef) ⟨k+1,by omega,rfl⟩
 .obtain rfl:k=m.order.length:=by omega
  repeat' first|refine go ?_|simp only [ab,hlt]|decide|refine sp ?_ ?_<;>intro _
  exact aX (by simp only [AV.ren,AV.renL])
end
section
def oY (f:Nat -> Bool):Nat -> Bool
 | 0=>true
 | n+1=>oY f n && f n
def iO (f:Nat -> Bool):Nat -> Bool
 | 0=>false
 | n+1=>iO f n || f n
theorem Ap (f:Nat -> Bool):∀ n,oY f n=true ↔ ∀ i,i<n -> f i=true
 | 0=>by simp [oY]
 | n+1=>by
  rw [oY,Vw,Ap f n];constructor
  .intro ⟨h1,h2⟩ i hi;rcases Vv i n with h|h
   .exact h1 i h
   .obtain rfl:i=n:=by omega
    exact h2
  .exact fun h=>⟨fun i hi=>h i (by omega),h n (by omega)⟩
theorem fq (f:Nat -> Bool):∀ n,iO f n=true ↔ ∃ i,i<n /\ f i=true
 | 0=>by simp [iO]
 | n+1=>by
  rw [iO,Xd,fq f n];constructor
  .rintro (⟨i,h1,h2⟩ | h)
   .exact ⟨i,by omega,h2⟩
   .exact ⟨n,by omega,h⟩
  .rintro ⟨i,h1,h2⟩;rcases Vv i n with h|h
   .exact .inl ⟨i,h,h2⟩
   .obtain rfl:i=n:=by omega
    exact .inr h2
theorem lY {f:Nat -> Bool} {k n:Nat} (hk:k<n) (h:f k=true):iO f n=true:=(fq f n).2 ⟨k,hk,h⟩
theorem kp {f:Nat -> Bool} {k:Nat} (h1:iO f k=false) (h:f k=false):iO f (k+1)=false:=by simp [iO,h1,h]
def jG (n:Int):Int:=2 ^ (max 0 (min n 31)).toNat - 1
theorem wv (n:Int):aw Tryz.prog 158 [eI n] (val (.int .i64 (jG n))):=by
 refine aa ag Tryz.func158 rfl (by decide) Tryz.ntmps158 Tryz.results158 rfl (aL _) ?_;have h0:¬ (max 0 (min n 31)<0):=by omega
 have h2:(max 0 (min n 31)).toNat<=31:=by omega
 have h1:min (max 0 (min n 31)).toNat IntKind.i64.bits=(max 0 (min n 31)).toNat:=by
  have:IntKind.i64.bits=64:=rfl;omega
 have hp:(1:Int)<=2 ^ (max 0 (min n 31)).toNat /\ (2:Int) ^ (max 0 (min n 31)).toNat<=2147483648:=by
  have h3:2 ^ (max 0 (min n 31)).toNat<=2 ^ 31:=VU (by omega) h2;have h4:1<=2 ^ (max 0 (min n 31)).toNat:=XE;have e:(2:Int) ^ (max 0 (min n 31)).toNat=((2 ^ (max 0 (min n 31)).toNat:Nat):Int):=by simp
  rw [e];omega
 have w1:IntKind.i64.wrap (1 * 2 ^ (max 0 (min n 31)).toNat)=2 ^ (max 0 (min n 31)).toNat:=by
  rw [Int.one_mul];exact aD (by omega) (by omega)
 have w2:IntKind.i64.wrap (2 ^ (max 0 (min n 31)).toNat - 1)=2 ^ (max 0 (min n 31)).toNat - 1:=aD (by omega) (by omega);unfold jG
 repeat' first|refine ge (kf h0 (kf h1 (kf w1 w2))) ?_|decide|refine sp ?_ ?_<;>intro _
def FU (s n:Int):Bool:=decide (0<=s) && decide (s<=jG n)
def AB (m:bk) (s:St) (i:Nat):Bool:=FU (s.did.getD i 0) m.users.length && decide (0<=s.cnt.getD i 0) && decide (s.cnt.getD i 0<=(m.events[i]?.map (·.times)).getD 0)
def yk (m:bk) (s:St):Bool:=decide (s.vals.length=m.attrs.length) && decide (s.did.length=m.events.length) && decide (s.cnt.length=m.events.length) && FU s.opn m.stages.length && FU s.don m.miles.length && oY (AB m s) m.events.length
def fV (m:bk) (s:St) (k:Nat):Bool:=(m.miles[k]?.map (·.final)).getD false && bp s.don (k:Int)
def gb (m:bk) (s:St):Bool:=iO (fV m s) m.miles.length
theorem lh (m:bk) (s:St) (hl:m.miles.length<=1000000):aw Tryz.prog 131 [.agg (aW m),.agg (gE s)] (val (.bool (gb m s))):=by
 refine aa ag Tryz.func131 rfl (by decide) Tryz.ntmps131 Tryz.results131 rfl (aL _) ?_
 repeat' first|refine gq ?_|decide|refine sp ?_ ?_<;>intro _
 unfold gb;refine af (fun st=>∃ k:Nat,k<=m.miles.length /\ iO (fV m s) k=false /\ st=⟨24,[(2,.op 0 0 0),(3,.op 1 0 0),(8,.sl 5 (m.miles.map Hj)),(9,eI (m.miles.length:Int)),(10,eI (k:Int))],[(0,some (.box 32 (aW m))),(1,some (.box 132 (gE s)))],2⟩) (fun st=>m.miles.length - ax st 10) ⟨_,wC,0,Vg _,rfl,rfl⟩ ?_;rintro _ ⟨k,hk,hI,rfl⟩;by_cases hlt:k<m.miles.length
 .have eF:fV m s k=(m.miles[k].final && bp s.don (k:Int)):=by simp [fV,hlt]
  repeat' first|refine gq ?_|simp only [ab,hlt]|decide|refine sp ?_ ?_<;>intro _|((with_reducible first|apply ay (g:=129)|apply aP (g:=129));exact (mT _ _))
  all_goals first
   | (symm;refine lY hlt ?_;rw [eF];grind)
   | exact rI wC ⟨k+1,by omega,kp hI (by rw [eF];grind),rfl⟩
 .obtain rfl:k=m.miles.length:=by omega
  repeat' first|refine gf @hlt ?_|decide|refine sp ?_ ?_<;>intro _
  exact hI.symm
def rc (l:List Int) (i:Int):Int:=if 0<=i /\ i<(l.length:Int) then l.getD i.toNat 0 else 0
theorem TY (l:List Int) (i:Int):aw Tryz.prog 183 [sI l,eI i] (val (.int .i64 (rc l i))):=by
 refine aa ag Tryz.func183 rfl (by decide) Tryz.ntmps183 Tryz.results183 rfl (aL _) ?_;unfold rc;by_cases h:0<=i /\ i<(l.length:Int)
 .obtain ⟨k,rfl⟩:∃ k:Nat,i=(k:Int):=⟨i.toNat,by omega⟩;have hk:k<l.length:=by omega
  rw [Vn h]
  repeat' first|refine go ?_|simp only [ab,hk]|decide|refine sp ?_ ?_<;>intro _
  all_goals grind
 .rw [Vh h]
  repeat' first|refine go ?_|decide|refine sp ?_ ?_<;>intro _
  rename_i h1 h2;simp at h1 h2;omega
def A6 (m:bk) (role user:Int):Bool:=decide (0<=role) && decide (role<(m.roles.length:Int)) && decide (0<=user) && decide (user<(m.users.length:Int)) && ((m.roles[role.toNat]?).map (fun p=>bp p.2 user)).getD false
theorem Ub (m:bk) (role user:Int):aw Tryz.prog 182 [.agg (aW m),eI role,eI user] (val (.bool (A6 m role user))):=by
 refine aa ag Tryz.func182 rfl (by decide) Tryz.ntmps182 Tryz.results182 rfl (aL _) ?_;by_cases h:0<=role /\ role<(m.roles.length:Int)
 .obtain ⟨k,rfl⟩:∃ k:Nat,role=(k:Int):=⟨role.toNat,by omega⟩;have hk:k<m.roles.length:=by omega
  have eR:A6 m k user=(decide (0<=user) && decide (user<(m.users.length:Int)) && bp m.roles[k].2 user):=by simp [A6,hk]
  rw [eR]
  repeat' first|refine gq ?_|simp only [ab,hk]|decide|refine sp ?_ ?_<;>intro _|((with_reducible first|apply ay (g:=129)|apply aP (g:=129));exact (mT _ _))
  all_goals grind
 .have eR:A6 m role user=false:=by
   have:(decide (0<=role) && decide (role<(m.roles.length:Int)))=false:=by
    rw [VW];simp only [Vx];omega
   simp [A6,this]
  rw [eR]
  repeat' first|refine gq ?_|decide|refine sp ?_ ?_<;>intro _
  all_goals first
   | rfl
   | (exfalso;grind)
def jE (m:bk) (s:St) (event user:Int) (k:Nat):Bool:=((m.sods[k]?).map (fun x=>((x.1 == event) && bp (rc s.did x.2) user) || ((x.2 == event) && bp (rc s.did x.1) user))).getD false
def wL (m:bk) (s:St) (event user:Int):Bool:=iO (jE m s event user) m.sods.length
theorem Mp (m:bk) (s:St) (event user:Int) (hl:m.sods.length<=1000000):aw Tryz.prog 192 [.agg (aW m),.agg (gE s),eI event,eI user] (val (.bool (wL m s event user))):=by
 refine aa ag Tryz.func192 rfl (by decide) Tryz.ntmps192 Tryz.results192 rfl (aL _) ?_
 repeat' first|refine gq ?_|decide|refine sp ?_ ?_<;>intro _
 unfold wL;refine af (fun st=>∃ k:Nat,k<=m.sods.length /\ iO (jE m s event user) k=false /\ st=⟨47,[(2,eI event),(3,eI user),(4,.op 0 0 0),(5,.op 1 0 0),(12,.sl 2 (m.sods.map Tu)),(13,eI (m.sods.length:Int)),(14,eI (k:Int))],[(0,some (.box 32 (aW m))),(1,some (.box 132 (gE s)))],2⟩) (fun st=>m.sods.length - ax st 14) ⟨_,wC,0,Vg _,rfl,rfl⟩ ?_;rintro _ ⟨k,hk,hI,rfl⟩;by_cases hlt:k<m.sods.length
 .obtain ⟨⟨a,b⟩,hx⟩:∃ x,m.sods[k]=x:=⟨_,rfl⟩;have ex:Tu m.sods[k]=[eI a,eI b]:=by rw [hx]
  have eF:jE m s event user k=(((a == event) && bp (rc s.did b) user) || ((b == event) && bp (rc s.did a) user)):=by simp [jE,hlt,hx]
  repeat' first|refine gq ?_|simp only [ab,hlt,ex]|decide|refine sp ?_ ?_<;>intro _|((with_reducible first|apply ay (g:=129)|apply aP (g:=129));exact (mT _ _))|((with_reducible first|apply ay (g:=183)|apply aP (g:=183));exact (TY _ _))
  all_goals first
   | (symm;refine lY hlt ?_;rw [eF];grind)
   | exact rI wC ⟨k+1,by omega,kp hI (by rw [eF];grind),rfl⟩
 .obtain rfl:k=m.sods.length:=by omega
  repeat' first|refine gf @hlt ?_|decide|refine sp ?_ ?_<;>intro _
  exact hI.symm
noncomputable def wg (m:bk) (event:Int):Option Ev:=if 0<=event then m.events[event.toNat]? else none
noncomputable def jw (m:bk) (s:St) (event user:Int):Bool:=
 match wg m event with
 | none=>false
 | some x=>!gb m s && decide (x.stage<(m.stages.length:Int)) && bp s.opn x.stage && A6 m x.role user && (decide (x.times<=0) || decide (rc s.cnt event<x.times))
theorem Lp (m:bk) (s:St) (event user:Int) (hl:m.miles.length<=1000000):aw Tryz.prog 161 [.agg (aW m),.agg (gE s),eI event,eI user] (val (.bool (jw m s event user))):=by
 refine aa ag Tryz.func161 rfl (by decide) Tryz.ntmps161 Tryz.results161 rfl (aL _) ?_;by_cases h:0<=event /\ event<(m.events.length:Int)
 .obtain ⟨k,rfl⟩:∃ k:Nat,event=(k:Int):=⟨event.toNat,by omega⟩;have hk:k<m.events.length:=by omega
  obtain ⟨x,hx⟩:∃ x,m.events[k]=x:=⟨_,rfl⟩;have ee:wg m (k:Int)=some x:=by simp [wg,hk,hx]
  have eR:jw m s k user=(!gb m s && decide (x.stage<(m.stages.length:Int)) && bp s.opn x.stage && A6 m x.role user && (decide (x.times<=0) || decide (rc s.cnt k<x.times))):=by simp only [jw,ee]
  rw [eR]
  repeat' first|refine gq ?_|simp only [ab,hk,hx]|decide|refine sp ?_ ?_<;>intro _|((with_reducible first|apply ay (g:=129)|apply aP (g:=129));exact (mT _ _))|((with_reducible first|apply ay (g:=131)|apply aP (g:=131));exact (lh _ _ hl))|((with_reducible first|apply ay (g:=182)|apply aP (g:=182));exact (Ub _ _ _))|((with_reducible first|apply ay (g:=183)|apply aP (g:=183));exact (TY _ _))
  all_goals grind
 .have ee:wg m event=none:=by
   unfold wg;split
   .exact Vs (by omega)
   .rfl
  have eR:jw m s event user=false:=by simp only [jw,ee]
  rw [eR]
  repeat' first|refine gq ?_|decide|refine sp ?_ ?_<;>intro _|((with_reducible first|apply ay (g:=131)|apply aP (g:=131));exact (lh _ _ hl))
  all_goals first
   | rfl
   | (exfalso;grind)
noncomputable def dV (m:bk) (s:St) (event user:Int):Bool:=jw m s event user && !wL m s event user
theorem uY (m:bk) (s:St) (event user:Int) (hl:m.miles.length<=1000000) (hl2:m.sods.length<=1000000):aw Tryz.prog 180 [.agg (aW m),.agg (gE s),eI event,eI user] (val (.bool (dV m s event user))):=by
 refine aa ag Tryz.func180 rfl (by decide) Tryz.ntmps180 Tryz.results180 rfl (aL _) ?_;unfold dV
 repeat' first|refine gq ?_|decide|refine sp ?_ ?_<;>intro _|((with_reducible first|apply ay (g:=161)|apply aP (g:=161));exact (Lp _ _ _ _ hl))|((with_reducible first|apply ay (g:=192)|apply aP (g:=192));exact (Mp _ _ _ _ hl2))
 all_goals grind
def dR (f:Nat -> Bool):Nat -> List Int
 | 0=>[]
 | n+1=>if f n=true then dR f n ++ [(n:Int)] else dR f n
theorem ms (f:Nat -> Bool):∀ n,(dR f n).length<=n
 | 0=>by simp [dR]
 | n+1=>by
  have:=ms f n;unfold dR;split
  .simp;omega
  .omega
noncomputable def fA (m:bk) (s:St) (event:Int):List Int:=dR (fun u=>dV m s event (u:Int)) m.users.length
theorem Ur (m:bk) (s:St) (event:Int) (hl:m.miles.length<=1000000) (hl2:m.sods.length<=1000000) (hl3:m.users.length<=1000000):aw Tryz.prog 157 [.agg (aW m),.agg (gE s),eI event] (iZ 3 1 ((fA m s event).map fun n=>[eI n])):=by
 refine aa ag Tryz.func157 rfl (by decide) Tryz.ntmps157 Tryz.results157 rfl (cT _ _ _) ?_
 repeat' first|refine go ?_|decide|refine sp ?_ ?_<;>intro _
 unfold fA;obtain ⟨f,hf⟩:∃ f:Nat -> Bool,f=fun u:Nat=>dV m s event (u:Int):=⟨_,rfl⟩;rw [<- hf];have e0:dR f 0=[]:=rfl;refine af (fun st=>∃ k:Nat,k<=m.users.length /\ st=⟨26,[(2,eI event),(3,.op 0 0 0),(4,.op 1 0 0),(7,.osl 2),(11,eI (m.users.length:Int)),(12,eI (k:Int))],[(0,some (.box 32 (aW m))),(1,some (.box 132 (gE s))),(2,some (.row 3 1 ((dR f k).map fun n=>[eI n])))],3⟩) (fun st=>m.users.length - ax st 12) ⟨_,((bA 7 3 1 (by simp only [jn,aj.get,bh,aj.put,↓reduceIte,reduceCtorEq,Nat.reduceLT,Nat.reduceEqDiff,Nat.reduceAdd,Nat.reduceLeDiff,eq_self,implies_true,e0,VP])).trans (wS [0,1,2] e0)),0,Vg _,rfl⟩ ?_;rintro _ ⟨k,hk,rfl⟩;have hlen:=ms f k;by_cases hlt:k<m.users.length
 .have hef:dV m s event (k:Int)=f k:=by rw [hf]
  repeat' first|refine gf @hlt ?_|decide|refine sp ?_ ?_<;>intro _|((refine ay (uY m s event (k:Int) hl hl2) ?_;rw [hef]))
  .rename_i h
   have et:(dR f (k+1)).map (fun n=>[eI n])=(dR f k).map (fun n=>[eI n]) ++ [[eI (k:Int)]]:=by
    rw [dR,Vn h];simp
   refine ⟨rfl,by omega,rI (wS [0,1,4] et) ⟨k+1,by omega,rfl⟩⟩
  .rename_i h
   have et:dR f (k+1)=dR f k:=by
    rw [dR,Vh (by simp [h])]
   exact rI (wE et) ⟨k+1,by omega,rfl⟩
 .obtain rfl:k=m.users.length:=by omega
  repeat' first|refine gf @hlt ?_|decide|refine sp ?_ ?_<;>intro _
  exact aY (by simp [ae.gc])
end
end
end Go.Proofs.YtmmoidfcfjklaaaGreat
