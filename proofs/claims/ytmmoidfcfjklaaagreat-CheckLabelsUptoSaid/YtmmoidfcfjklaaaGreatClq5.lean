/-
  Parts of the proof: Clp7, Clp8, Clp9, Clp10.
-/
import Derived.Test.YtmmoidfcfjklaaaGreatClq4
import Derived.Deep.AppendLies
import Derived.Deep.RegionLaw
import Derived.IntWalk
import Derived.Deep.RegionHeld3
import Derived.Deep.RegionHeld2
import Derived.Deep.DrawnRows
import Derived.Defers
import Derived.Recover
import Derived.Conc.MuLone
set_option linter.unusedVariables false
set_option linter.unusedSimpArgs false
set_option linter.defProp false
set_option maxRecDepth 100000
set_option maxHeartbeats 16000000
namespace Go.Proofs.YtmmoidfcfjklaaaGreat
open Go.RowKit
section
section
theorem px (n:Int):aw Tryz.prog 61 [eI n] (val (.int .i64 (aC n))):=by
 refine aa ag Tryz.func61 rfl (by decide) Tryz.ntmps61 Tryz.results61 rfl (aI _) ?_
 repeat' first|refine go ?_|decide|refine sp ?_ ?_<;>intro _
 all_goals (simp [aC] at *;(repeat' split)<;>omega)
abbrev oX (n:Int):List AV:=[eI n,eS ByteArray.empty,eI 0,eS ByteArray.empty,eI 0,eS ByteArray.empty,eS ByteArray.empty,eI 0,eI 0]
abbrev sY (l:List Int):AV:=.sl 9 (l.map oX)
theorem Lu (ops:List Int):∀ (i:Nat) (w:Int),-1<=kF ops i w /\ kF ops i w<i \/ kF ops i w = -1
 | 0,w=>.inr rfl
 | i+1,w=>by
  unfold kF;split
  .exact .inr rfl
  .split
   .left;omega
   .rcases Lu ops i (w+(aC (ops.getD i 0) - 1)) with h | h
    .left;omega
    .exact .inr h
theorem LG (l:List Int) (q:Nat) (hq:q<=l.length) (hl:l.length<=1000000):aw Tryz.prog 26 [sY l,eI ((q:Int) - 1)] (val (.int .i64 (kF l q 1))):=by
 refine aa ag Tryz.func26 rfl (by decide) Tryz.ntmps26 Tryz.results26 rfl (aI _) ?_
 repeat' first|refine go ?_|decide|refine sp ?_ ?_<;>intro _
 refine ae (fun st=>∃ (k:Nat) (v:Int),k<=q /\ 1<=v /\ v<=1+2 * ((q:Int) - k) /\ kF l k v=kF l q 1 /\ st=⟨28,[(0,sY l),(5,eI v),(6,eI ((k:Int) - 1))],[],0⟩) (fun st=>(match st.get 6 with | .c (.int _ n)=>(n+1).toNat | _=>0)) ⟨_,wC,q,1,Vh _,by omega,by omega,rfl,rfl⟩ ?_;rintro _ ⟨k,v,hk,hv0,hv1,hb,rfl⟩
 cases k with
 | zero=>
  have e0:decide ((0:Int)<=((0:Nat):Int) - 1)=false:=by decide
  repeat' first|refine ge e0 ?_|decide|refine sp ?_ ?_<;>intro _
  rw [<- hb];rfl
 | succ j=>
  have ej:((j+1:Nat):Int) - 1=(j:Int):=by omega
  have hj:j<l.length:=by omega
  simp only [ej];rw [kF,xe hj] at hb
  repeat' first|refine go ?_|simp only [hj,ab]|decide|refine sp ?_ ?_<;>intro _
  refine ax (px _) ?_;have ha:=ma l[j];generalize aC l[j]=n at ha hb ⊢;have ew1:IntKind.i64.wrap (n - 1)=n - 1:=aB (by omega) (by omega);have ew2:IntKind.i64.wrap (v+(n - 1))=v+(n - 1):=aB (by omega) (by omega)
  repeat' first|refine go ?_|simp only [hj,ab,ew1,ew2]|decide|refine sp ?_ ?_<;>intro _
  .rename_i h;have h:n<0:=(by simpa using h);rw [<- hb,Vo h]
  .rename_i h h2;have h:¬ n<0:=(by simpa using h);have h2:v+(n - 1)=0:=(by simpa using h2);rw [<- hb,Vj h,Vo h2]
  .rename_i h h2;have h:¬ n<0:=(by simpa using h);have h2:¬ v+(n - 1)=0:=(by simpa using h2);rw [Vj h,Vj h2] at hb;have ew:IntKind.i64.wrap ((j:Int) - 1)=(j:Int) - 1:=aB (by omega) (by omega);exact rI (wE ew) ⟨j,v+(n - 1),by omega,by omega,by omega,hb,rfl⟩
theorem ul (l:List Int) (hl:l.length<=1000000):aw Tryz.prog 12 [sY l] (val (.int .i64 (bf l))):=by
 refine aa ag Tryz.func12 rfl (by decide) Tryz.ntmps12 Tryz.results12 rfl (aI _) ?_;have ew:IntKind.i64.wrap ((l.length:Int) - 1)=(l.length:Int) - 1:=aB (by omega) (by omega)
 repeat' first|refine ge ew ?_|decide|refine sp ?_ ?_<;>intro _
 .rename_i h;have h:l.length=0:=by simpa using h
  simp [bf,h]
 .rename_i h h2;have h:¬ l.length=0:=by simpa using h
  have h2:64<l.length:=by simp at h2;omega
  simp only [bf,Vj h,Vo h2]
 .rename_i h h2;have h:¬ l.length=0:=by simpa using h
  have h2:¬ 64<l.length:=by simp at h2;omega
  refine ax (LG l l.length (Vh _) hl) ?_;have hz:=Mf (ops:=l) (by omega)
  repeat' first|refine go ?_|decide|refine sp ?_ ?_<;>intro _
  .rename_i h3
   have h3:¬ bx l 0=some 1:=by
    rw [<- hz];simpa using h3
   simp only [bf,Vj h,Vj h2,Vj h3]
  .rename_i h3
   have h3:bx l 0=some 1:=by
    rw [<- hz];simpa using h3
   simp only [bf,Vj h,Vj h2,Vo h3]
theorem yU (l:List ah) (hl:l.length<=1000000):aw Tryz.prog 139 [aX l] (g8 101 9 (((l.map ah.op).take 70).map oX)):=by
 refine aa ag Tryz.func139 rfl (by decide) Tryz.ntmps139 Tryz.results139 rfl (ch _ _ _) ?_
 repeat' first|refine go ?_|decide|refine sp ?_ ?_<;>intro _
 refine ae (fun st=>∃ k:Nat,k<=l.length /\ k<=70 /\ st=⟨25,[(0,aX l),(3,.osl 0),(4,eI (k:Int))],[(0,some (.row 101 9 (((l.map ah.op).take k).map oX)))],1⟩) (fun st=>l.length - ap st 4) ⟨_,((be 3 101 9 (by simp only [iz,aj.get,bb,aj.put,↓reduceIte,reduceCtorEq,Nat.reduceLT,Nat.reduceEqDiff,Nat.reduceAdd,Nat.reduceLeDiff,eq_self,implies_true,Vu])).trans (wS [0] @Vu)),0,Vd _,by omega,rfl⟩ ?_;rintro _ ⟨k,hk,hk2,rfl⟩
 have hfin:¬ (k<l.length /\ k<70) -> ((l.map ah.op).take k)=((l.map ah.op).take 70):=fun h=>by
  by_cases h1:k=70
  .rw [h1]
  .rw [VF (by simp;omega),VF (by simp;omega)]
 by_cases hlt:k<l.length
 .by_cases h70:k<70
  .have e1:decide ((k:Int)<70)=true:=by simp;omega
   have et:((l.map ah.op).take (k+1)).map oX=((l.map ah.op).take k).map oX ++ [oX l[k].op]:=by
    rw [dc oX (l.map ah.op) (by simpa using hlt)];simp
   have hkl:((l.map ah.op).take k).length=k:=by simp;omega
   repeat' first|refine go ?_|simp only [ab,hlt,e1]|decide|refine sp ?_ ?_<;>intro _
   refine ⟨rfl,by omega,rI (wS [2] et) ⟨k+1,by omega,by omega,rfl⟩⟩
  .have e1:decide ((k:Int)<70)=false:=by simp;omega
   repeat' first|refine go ?_|simp only [ab,hlt,e1]|decide|refine sp ?_ ?_<;>intro _
   rw [<- hfin (by omega)];exact aM (by simp [af.gc])
 .repeat' first|refine go ?_|simp only [ab,hlt]|decide|refine sp ?_ ?_<;>intro _
  rw [<- hfin (by omega)];exact aM (by simp [af.gc])
theorem rY (l:List Int) (e:Nat) (he:e<l.length) (h:aC l[e]=0):aw Tryz.prog 52 [sY l,eI (e:Int)] (val (.slice none 0 0)):=by
 refine aa ag Tryz.func52 rfl (by decide) Tryz.ntmps52 Tryz.results52 rfl (aI _) ?_
 repeat' first|refine go ?_|simp only [ab,he]|decide|refine sp ?_ ?_<;>intro _
 refine ax (px _) ?_;rw [h];have e0:((0:Int) == 0)=true:=by decide
 repeat' first|refine ge e0 ?_|decide|refine sp ?_ ?_<;>intro _
theorem Oq (l:List Int) (e:Nat) (he:e<l.length) (h:aC l[e]=1) (hl:l.length<=1000000):aw Tryz.prog 52 [sY l,eI (e:Int)] (g8 3 1 [[eI ((e:Int) - 1)]]):=by
 refine aa ag Tryz.func52 rfl (by decide) Tryz.ntmps52 Tryz.results52 rfl (ch _ _ _) ?_;have ew:IntKind.i64.wrap ((e:Int) - 1)=(e:Int) - 1:=aB (by omega) (by omega)
 repeat' first|refine go ?_|simp only [ab,he]|decide|refine sp ?_ ?_<;>intro _
 refine ax (px _) ?_;rw [h]
 repeat' first|refine ge ew ?_|decide|refine sp ?_ ?_<;>intro _
 all_goals first
  | (refine ⟨rfl,aM (by simp [af.gc])⟩;done)
  | (rename_i h;simp at h;done)
  | exact aM (by simp [af.gc])
theorem OX (l:List Int) (e:Nat) (he:e<l.length) (h:aC l[e]=2) (hl:l.length<=1000000):aw Tryz.prog 52 [sY l,eI (e:Int)] (g8 3 1 [[eI (kF l e 1 - 1)],[eI ((e:Int) - 1)]]):=by
 refine aa ag Tryz.func52 rfl (by decide) Tryz.ntmps52 Tryz.results52 rfl (ch _ _ _) ?_;have ew:IntKind.i64.wrap ((e:Int) - 1)=(e:Int) - 1:=aB (by omega) (by omega)
 repeat' first|refine go ?_|simp only [ab,he]|decide|refine sp ?_ ?_<;>intro _
 refine ax (px _) ?_;rw [h]
 repeat' first|refine ge ew ?_|decide|refine sp ?_ ?_<;>intro _
 all_goals first
  | (rename_i h;simp at h;done)
  | skip
 refine ax (LG l e (by omega) hl) ?_
 have ew2:IntKind.i64.wrap (kF l e 1 - 1)=kF l e 1 - 1:=by
  rcases Lu l e 1 with h|h<;>exact aB (by omega) (by omega)
 repeat' first|refine ge (kf ew ew2) ?_|decide|refine sp ?_ ?_<;>intro _
 exact ⟨rfl,aM (by simp [af.gc])⟩
def sU (vals:List Int) (a:Int):Bool:=decide (-1<=a) && decide (a<(vals.length:Int))
theorem AZ (s:St) (a n:Int):aw Tryz.prog 172 [.agg (gh s),.agg [eI a,eI n]] (val (.bool (sU s.vals a))):=by
 refine aa ag Tryz.func172 rfl (by decide) Tryz.ntmps172 Tryz.results172 rfl (aI _) ?_;unfold sU
 repeat' first|refine go ?_|decide|refine sp ?_ ?_<;>intro _
 all_goals (rename_i h;rw [h];simp)
theorem KU (s:St) (a n v:Int) (h:tf s.vals a n=some v):aw Tryz.prog 174 [.agg (gh s),.agg [eI a,eI n]] (val (.int .i64 v)):=by
 refine aa ag Tryz.func174 rfl (by decide) Tryz.ntmps174 Tryz.results174 rfl (aI _) ?_;unfold tf at h;by_cases h1:a = -1
 .rw [Vo h1] at h;cases h;subst h1;have e0:((-1:Int) == -1)=true:=by decide
  repeat' first|refine ge e0 ?_|decide|refine sp ?_ ?_<;>intro _
 .rw [Vj h1] at h;by_cases h2:a<0
  .rw [Vo h2] at h;cases h
  .rw [Vj h2] at h;obtain ⟨k,rfl⟩:∃ k:Nat,a=(k:Int):=⟨a.toNat,by omega⟩;obtain ⟨hk,rfl⟩:=Vf.1 h;simp only [Wy] at hk;have e1:((k:Int) == -1)=false:=by rw [VP];omega
   repeat' first|refine go ?_|simp only [ab,hk,e1]|decide|refine sp ?_ ?_<;>intro _
theorem Rn (op a b:Int):aw Tryz.prog 173 [eI op,eI a,eI b] (val (.bool (Rf op (zQ a b)))):=by
  refine aa ag Tryz.func173 rfl (by decide) Tryz.ntmps173 Tryz.results173 rfl (aI _) ?_
  repeat' first|refine go ?_|decide|refine sp ?_ ?_<;>intro _
  all_goals
    (simp only [Wu,VP,ne_eq] at *
     simp_all [Rf,zQ]
     try ((repeat' split)<;>simp_all<;>omega))
end
section
theorem rr {l:List Int}:∀ row ∈ l.map oX,∀ av ∈ row,av.plain:=fun row hr av ha=>by
 obtain ⟨n,_,rfl⟩:=Vx.1 hr;simp [oX] at ha;rcases ha with rfl|rfl|rfl|rfl|rfl|rfl|rfl|rfl|rfl<;>trivial
def rj (attrs:Bool) (op:Int):Bool:=attrs && decide (3<=op) && decide (op<=8)
theorem I1 (vals:List Int) (x:ah) (attrs:Bool):jw vals attrs x = !((decide (18<x.op) || (decide (10<x.op) && decide (x.op<15))) || (rj attrs x.op && (!sU vals x.la || !sU vals x.ra))):=by
 unfold jw rj sU;simp only [Bool.and_assoc,Bool.or_assoc]
theorem wq (l:List ah) (s:St) (attrs:Bool) (hl:l.length<=1000000) (b:Bool) (hb:b=true ↔ (bf (l.map ah.op)=0 /\ ∀ x ∈ l,jw s.vals attrs x=true)):aw Tryz.prog 137 [aX l,.agg (gh s),eB attrs] (val (.bool b)):=by
 refine aa ag Tryz.func137 rfl (by decide) Tryz.ntmps137 Tryz.results137 rfl (aI _) ?_
 have h70:bf ((l.map ah.op).take 70)=bf (l.map ah.op):=by
  by_cases h:l.length<=70
  .rw [VF (by simpa using h)]
  .have e7:((l.map ah.op).take 70).length=70:=by rw [Vr,Vp];omega
   have e8:(l.map ah.op).length=l.length:=Vp ..;unfold bf;rw [Vj (by omega),Vo (by omega),Vj (by omega),Vo (by omega)]
 repeat' first|refine go ?_|decide|refine sp ?_ ?_<;>intro _
 refine cd (yU l hl) (.inr rr) ?_
 repeat' first|refine go ?_|decide|refine sp ?_ ?_<;>intro _
 refine ax (ul _ (by simp;omega)) ?_;rw [h70]
 repeat' first|refine go ?_|decide|refine sp ?_ ?_<;>intro _
 .rename_i h;symm;rw [Wi];intro h2;have h3:=(hb.1 h2).1;simp [h3] at h
 .rename_i h;have hc:bf (l.map ah.op)=0:=by simpa using h
  refine ae (fun st=>∃ k:Nat,k<=l.length /\ (∀ i (hi:i<l.length),i<k -> jw s.vals attrs l[i]=true) /\ st=⟨65,[(0,aX l),(2,eB attrs),(4,.op 0 0 0),(7,eI (k:Int))],[(0,some (.box 132 (gh s)))],1⟩) (fun st=>l.length - ap st 7) ⟨_,wC,0,Vd _,fun i _ h=>by omega,rfl⟩ ?_;rintro _ ⟨k,hk,hI,rfl⟩;by_cases hlt:k<l.length
  .have hno:jw s.vals attrs l[k]=false -> b=false:=fun h2=>by
    rw [Wi];intro h3;rw [(hb.1 h3).2 _ (Vg hlt)] at h2;cases h2
   have hyes:jw s.vals attrs l[k]=true -> ∀ i (hi:i<l.length),i<k+1 -> jw s.vals attrs l[i]=true:=fun h2 i hi h3=>by
    rcases Vw i k with h4|h4
    .exact hI i hi h4
    .obtain rfl:i=k:=by omega
     exact h2
   rw [I1] at hno hyes;generalize hx:l[k]=x at hno hyes;obtain ⟨op,la,ln,ra,rn,n,u⟩:=x;simp only at hno hyes;have ex:cq l[k]=[eI op,eI la,eI ln,eI ra,eI rn,eI n,eI u]:=(by rw [hx]);have eop:l[k].op=op:=(by rw [hx])
   repeat' first|refine go ?_|simp only [ab,hlt,ex,eop]|decide|refine sp ?_ ?_<;>intro _
   refine aA (by kernel_rfl) ?_
   repeat' first|refine go ?_|simp only [ab,hlt,ex,eop]|decide|refine sp ?_ ?_<;>intro _
   all_goals first
    | (symm;exact hno (by simp [rj, *]))
    | exact rI wC ⟨k+1,by omega,hyes (by simp [rj, *]),rfl⟩
    | skip
   all_goals
    refine aL (AZ s la ln) ?_
    repeat' first|refine go ?_|simp only [ab,hlt,ex,eop]|decide|refine sp ?_ ?_<;>intro _
    all_goals first
     | (symm;exact hno (by simp [rj, *]))
     | exact rI wC ⟨k+1,by omega,hyes (by simp [rj, *]),rfl⟩
     | skip
   all_goals
    refine aL (AZ s ra rn) ?_
    repeat' first|refine go ?_|simp only [ab,hlt,ex,eop]|decide|refine sp ?_ ?_<;>intro _
    all_goals first
     | (symm;exact hno (by simp [rj, *]))
     | exact rI wC ⟨k+1,by omega,hyes (by simp [rj, *]),rfl⟩
     | skip
  .obtain rfl:k=l.length:=by omega
   repeat' first|refine go ?_|simp only [ab,hlt]|decide|refine sp ?_ ?_<;>intro _
   symm;exact hb.2 ⟨hc,fun x hx=>by obtain ⟨i,hi,rfl⟩:=VD hx;exact hI i hi hi⟩
theorem Mx {s:St} {x:ah} {c:Int} (h:yB s.vals x=some c):∃ a b,tf s.vals x.la x.ln=some a /\ tf s.vals x.ra x.rn=some b /\ c=zQ a b:=by
 unfold yB at h;split at h
 .rename_i a b ha hb;cases h;exact ⟨a,b,ha,hb,rfl⟩
 .cases h
theorem Jy (l:List ah) (s:St) (hl:l.length<=70) (ho:aF s.opn) (hd:aF s.don):∀ (n e:Nat) (he:e<l.length) (v:Bool) (r:List Bool),e<n -> de (yB s.vals) s.opn s.don (l.take (e+1)) []=some (v :: r) ->
  aw Tryz.prog 138 [aX l,sY (l.map ah.op),eI (e:Int),.agg (gh s)] (val (.bool v))
 | 0,e,he,v,r,hn,_=>by omega
 | n+1,e,he,v,r,hn,hr=>by
  refine aa ag Tryz.func138 rfl (by decide) Tryz.ntmps138 Tryz.results138 rfl (aI _) ?_;obtain ⟨r0,h1,h2⟩:=mK he hr;have hel:e<(l.map ah.op).length:=by simpa using he
  have eo:(l.map ah.op)[e]=l[e].op:=by simp
  have ih:=Jy l s hl ho hd n;have z1:(0:Int)<((1:Nat):Int):=by decide
  have z2:(0:Int)<((2:Nat):Int):=by decide
  have z3:(1:Int)<((2:Nat):Int):=by decide
  generalize hx:l[e]=x at h2 eo;obtain ⟨op,la,ln,ra,rn,xn,u⟩:=x;have ex:cq l[e]=[eI op,eI la,eI ln,eI ra,eI rn,eI xn,eI u]:=by rw [hx]
  simp only at eo;unfold du at h2;simp only at h2;split at h2
  .rename_i hop;have ha:aC (l.map ah.op)[e]=0:=by rw [eo];unfold aC;rw [Vo (by omega)]
   have hk:=rY (l.map ah.op) e hel ha;simp at h2;rcases hop with rfl|rfl
   .have hv:v=true:=by rw [<- h2.1];rfl
    subst hv
    repeat' first|refine go ?_|simp only [ab,he,ex]|decide|refine sp ?_ ?_<;>intro _
    refine ax hk ?_;have e1:((1:Int) == 1)=true:=(by decide)
    repeat' first|refine ge e1 ?_|decide|refine sp ?_ ?_<;>intro _
   .have hv:v=false:=by rw [<- h2.1];rfl
    subst hv
    repeat' first|refine go ?_|simp only [ab,he,ex]|decide|refine sp ?_ ?_<;>intro _
    refine ax hk ?_
    repeat' first|refine go ?_|simp only [Int.reduceBEq]|decide|refine sp ?_ ?_<;>intro _
  split at h2
  .rename_i hop;have ha:aC (l.map ah.op)[e]=0:=by rw [eo];unfold aC;rw [Vo (by omega)]
   have hk:=rY (l.map ah.op) e hel ha;split at h2
   .rename_i c hc;obtain ⟨a,b,hva,hvb,rfl⟩:=Mx hc;simp only at hva hvb;cases h2;have h6:op=3 \/ op=4 \/ op=5 \/ op=6 \/ op=7 \/ op=8:=(by omega);rcases h6 with rfl|rfl|rfl|rfl|rfl|rfl
    all_goals
     repeat' first|refine go ?_|simp only [ab,he,ex]|decide|refine sp ?_ ?_<;>intro _
     refine ax hk ?_
     repeat' first|refine go ?_|simp only [Int.reduceBEq]|decide|refine sp ?_ ?_<;>intro _
     refine aA (by kernel_rfl) ?_
     repeat' first|refine go ?_|decide|refine sp ?_ ?_<;>intro _
     refine aL (KU s la ln a hva) ?_
     repeat' first|refine go ?_|decide|refine sp ?_ ?_<;>intro _
     refine aL (KU s ra rn b hvb) ?_
     repeat' first|refine go ?_|decide|refine sp ?_ ?_<;>intro _
     refine aL (Rn _ a b) ?_
     repeat' first|refine go ?_|decide|refine sp ?_ ?_<;>intro _
   .cases h2
  split at h2
  .rename_i hop;have ha:aC (l.map ah.op)[e]=0:=by rw [eo];unfold aC;rw [Vo (by omega)]
   have hk:=rY (l.map ah.op) e hel ha;subst hop;cases h2
   repeat' first|refine go ?_|simp only [ab,he,ex]|decide|refine sp ?_ ?_<;>intro _
   refine ax hk ?_
   repeat' first|refine go ?_|simp only [Int.reduceBEq]|decide|refine sp ?_ ?_<;>intro _
   refine ax (dA s.opn xn ho) ?_
   repeat' first|refine go ?_|decide|refine sp ?_ ?_<;>intro _
  split at h2
  .rename_i hop;have ha:aC (l.map ah.op)[e]=0:=by rw [eo];unfold aC;rw [Vo (by omega)]
   have hk:=rY (l.map ah.op) e hel ha;subst hop;cases h2
   repeat' first|refine go ?_|simp only [ab,he,ex]|decide|refine sp ?_ ?_<;>intro _
   refine ax hk ?_
   repeat' first|refine go ?_|simp only [Int.reduceBEq]|decide|refine sp ?_ ?_<;>intro _
   refine ax (dA s.don xn hd) ?_
   repeat' first|refine go ?_|decide|refine sp ?_ ?_<;>intro _
  have hpre:∀ (a:Bool) (q:List Bool),r0=a :: q -> ∃ e0,e=e0+1:=fun a q hq=>by
   cases e with
   | zero=>
    simp [de] at h1;rw [h1] at hq;cases hq
   | succ e0=>exact ⟨e0,rfl⟩
  split at h2
  .rename_i hop;have ha:aC (l.map ah.op)[e]=1:=by rw [eo];unfold aC;rw [Vj (by omega),Vo (by omega)]
   have hk:=Oq (l.map ah.op) e hel ha (by simp;omega);subst hop;split at h2
   .rename_i a q;obtain ⟨e0,rfl⟩:=hpre a q rfl;have ee:((e0+1:Nat):Int) - 1=(e0:Int):=(by omega);rw [ee] at hk;have h3:=ih e0 (by omega) a q (by omega) h1;cases h2
    repeat' first|refine go ?_|simp only [ab,he,ex]|decide|refine sp ?_ ?_<;>intro _
    refine cd hk (.inr (eC (l:=[(e0:Int)]))) ?_
    repeat' first|refine go ?_|simp only [Int.reduceBEq]|decide|refine sp ?_ ?_<;>intro _
    refine aA (by kernel_rfl) ?_
    repeat' first|refine go ?_|simp only [Int.reduceLT,Int.reduceLE,XB,z1,z2,z3]|decide|refine sp ?_ ?_<;>intro _
    refine aL h3 ?_
    repeat' first|refine go ?_|decide|refine sp ?_ ?_<;>intro _
   .cases h2
  split at h2
  .rename_i hop;have ha:aC (l.map ah.op)[e]=2:=by rw [eo];unfold aC;rw [Vj (by omega),Vj (by omega),Vo (by omega)]
   have hk:=OX (l.map ah.op) e hel ha (by simp;omega);split at h2
   .rename_i b a q;obtain ⟨e0,rfl⟩:=hpre b (a :: q) rfl;have ee:((e0+1:Nat):Int) - 1=(e0:Int):=(by omega);have h3:=ih e0 (by omega) b (a :: q) (by omega) h1;obtain ⟨bg,h4,h5,h6⟩:=Ib (by omega) h1
    have h7:∃ b0,bg=b0+1:=by
     cases bg with
     | zero=>simp [de] at h6
     | succ b0=>exact ⟨b0,rfl⟩
    obtain ⟨b0,rfl⟩:=h7;have eb:((b0+1:Nat):Int) - 1=(b0:Int):=(by omega);rw [ee,h5,eb] at hk;have h8:=ih b0 (by omega) a q (by omega) h6;cases h2;have h9:op=16 \/ op=17 \/ op=18:=(by omega);rcases h9 with rfl|rfl|rfl
    all_goals
     repeat' first|refine go ?_|simp only [ab,he,ex]|decide|refine sp ?_ ?_<;>intro _
     refine cd hk (.inr (eC (l:=[(b0:Int),(e0:Int)]))) ?_
     repeat' first|refine go ?_|simp only [Int.reduceBEq]|decide|refine sp ?_ ?_<;>intro _
     refine aA (by kernel_rfl) ?_
     repeat' first|refine go ?_|simp only [Int.reduceLT,Int.reduceLE,XB,z1,z2,z3]|decide|refine sp ?_ ?_<;>intro _
     refine aL h8 ?_
     repeat' first|refine go ?_|simp only [Int.reduceLT,Int.reduceLE,XB,z1,z2,z3,Int.toNat_one]|decide|refine sp ?_ ?_<;>intro _
     all_goals first|(refine aL h3 ?_;(repeat' (first|refine go ?_|decide|refine sp ?_ ?_<;>intro _)))|skip
     all_goals first|rfl|(simp_all;done)
   .cases h2
  .cases h2
end
section
theorem Nw (l:List Int) (i:Int) (k d:Nat) (x:Int) (h:iO l i k=tG l x) (hx:¬ jd l x):iO l i (k+d) = -1:=
 AQ l i k (by rw [h];exact ((jC l x).resolve_left fun hh=>hx hh.1).2) d
theorem RE (l:List Int) (v:Value) (i n:Int) (w:World) (hl:l.length<=1073741824) (hn0:0<=n) (hn:n<=4294967296) (hv:RI w v l) :
  Calls Tryz.prog 107 #[v,.int .i64 i,.int .i64 n] w fun e w'=>e=.returned (.int .i64 (iO l i n.toNat)) /\ w=w':=by
 obtain ⟨A,c,rfl,hc⟩:=hv.form;obtain ⟨N,rfl⟩:=XC hn0;rw [Wy]
 go_enter Tryz.func107,Tryz.ntmps107
 go_wp2_with fail
 go_loop [1,7] (fun x j=>∃ (k:Nat) (y:Int),k<=N /\ j=.int .i64 (k:Int) /\ x=.int .i64 y /\ iO l i k=tG l y) (fun x j=>N - (intOf j).toNat)
 case atStart=>exact ⟨0,i,Vd _,rfl,rfl,rfl⟩
 case round=>
  obtain ⟨k,y,hk,rfl,rfl,hup⟩:=hrel;by_cases hlt:k<N
  .by_cases hy:jd l y
   .obtain ⟨hy1,hy2⟩:=hy;obtain ⟨z,rfl⟩:=XC hy1;obtain ⟨b,o,rfl,hcell,hb1,hb2⟩:=hv.at_ (show z<l.length by omega)
    have e:iO l i (k+1)=tG l (l.getD z 0):=by
     show mD l (iO l i k)=_;rw [hup,yM];unfold mD;rw [Vo ⟨hy1,hy2⟩];simp
    have E:=aE e;clear hup e;generalize l.getD z 0=y' at *
    go_wp2_with fail
    go_round
    case rel=>exact ⟨k+1,y',by omega,by go_num,rfl,E.out⟩
    case measure=>simp [intOf];omega
   .have e:=Nw l i k (N - k) y hup hy;rw [show k+(N - k)=N from by omega] at e;have E:=aE e;clear e hup;by_cases h0:0<=y
    .have h1:(l.length:Int)<=y:=by unfold jd at hy;omega
     clear hy
     go_wp2_with fail
     go_ret
     rw [E.out];exact ⟨rfl,rfl⟩
    .clear hy
     go_wp2_with fail
     go_ret
     rw [E.out];exact ⟨rfl,rfl⟩
  .obtain rfl:k=N:=by omega
   by_cases hy:jd l y
   .have e:iO l i k=y:=by rw [hup];exact ((jC l y).resolve_right fun hh=>hh.1 hy).2
    have E:=aE e;clear e hup;obtain ⟨hy1,hy2⟩:=hy
    go_wp2_with fail
    go_ret
    rw [E.out];exact ⟨rfl,rfl⟩
   .have e:iO l i k = -1:=by rw [hup];exact ((jC l y).resolve_left fun hh=>hy hh.1).2
    have E:=aE e;clear e hup;by_cases h0:0<=y
    .have h1:(l.length:Int)<=y:=by unfold jd at hy;omega
     clear hy
     go_wp2_with fail
     go_ret
     rw [E.out];exact ⟨rfl,rfl⟩
    .clear hy
     go_wp2_with fail
     go_ret
     rw [E.out];exact ⟨rfl,rfl⟩
noncomputable instance (l:List Int) (a i:Int):Decidable (Nc l a i):=Classical.propDecidable _
theorem Jw (l:List Int) (v:Value) (a i:Int) (w:World) (hl:l.length<=1073741824) (hv:RI w v l) :
  Calls Tryz.prog 66 #[v,.int .i64 a,.int .i64 i] w fun e w'=>e=.returned (.bool (decide (Nc l a i))) /\ w=w':=by
 obtain ⟨A,c,rfl,hc⟩:=hv.form
 go_enter Tryz.func66,Tryz.ntmps66
 go_wp2_with fail
 go_loop [7] (fun j=>∃ k:Nat,1<=k /\ k<=l.length+1 /\ j=.int .i64 (k:Int) /\ ∀ m,1<=m -> m<k -> ¬ (0<=a /\ iO l i m=a)) (fun j=>l.length+1 - (intOf j).toNat)
 case atStart=>exact ⟨1,Vh _,by omega,rfl,fun m h1 h2=>by omega⟩
 case round=>
  obtain ⟨k,hk1,hk,rfl,hno⟩:=hrel;have Hno:=aE hno;clear hno;by_cases hlt:k<=l.length
  .have hup:=RE l _ i (k:Int) w hl (by omega) (by omega) hv;rw [Wy] at hup;have hyes:0<=a -> iO l i k=a -> decide (Nc l a i)=true:=fun h1 h2=>Vy ⟨k,hk1,hlt,h1,h2⟩
   have hnext:¬ (0<=a /\ iO l i k=a) -> ∀ m,1<=m -> m<k+1 -> ¬ (0<=a /\ iO l i m=a):=fun h m h1 h2=>by
    by_cases e:m=k
    .subst e;exact h
    .exact Hno.out m h1 (by omega)
   have Hup:=aE hup;have Hyes:=aE hyes;have Hnext:=aE hnext;clear hup hyes hnext Hno;generalize iO l i k=y at *;by_cases h0:0<=a
   .by_cases h1:y=a
    .have h2:(y == a)=true:=(by simpa using h1);have E:=aE (Hyes.out h0 h1);clear h1
     go_wp2_with (go_at_call 107;refine Hup.out.mono ?_;rintro e w' ⟨rfl,rfl⟩)
     go_ret
     rw [E.out];exact ⟨rfl,rfl⟩
    .have h2:(y == a)=false:=(by simpa using h1);have E:=aE (Hnext.out (fun hh=>h1 hh.2));clear h1
     go_wp2_with (go_at_call 107;refine Hup.out.mono ?_;rintro e w' ⟨rfl,rfl⟩)
     go_round
     case rel=>exact ⟨k+1,by omega,by omega,by go_num,E.out⟩
     case measure=>simp [intOf];omega
   .have E:=aE (Hnext.out (fun hh=>h0 hh.1))
    go_wp2_with fail
    go_round
    case rel=>exact ⟨k+1,by omega,by omega,by go_num,E.out⟩
    case measure=>simp [intOf];omega
  .have e:decide (Nc l a i)=false:=by
    refine Vv fun ⟨m,h1,h2,h3,h4⟩=>Hno.out m h1 (by omega) ⟨h3,h4⟩
   have E:=aE e;clear e
   go_wp2_with fail
   go_ret
   rw [E.out];exact ⟨rfl,rfl⟩
end
section
theorem BE (l:List Int) (k:Nat) (hk:k<l.length) (hno:∀ j,j<k -> ¬ pQ l (j:Int)) (hy:pQ l (k:Int)):kU l=(k:Int):=by
 unfold kU
 have:(List.range l.length).find? (fun (i:Nat)=>decide (pQ l (i:Int)))=some k:=by
  rw [List.find?_range_eq_some];exact ⟨by simpa using hy,by simpa using hk,fun j hj=>by simpa using hno j hj⟩
 rw [this];rfl
theorem E2 (l:List Int) (hno:∀ j,j<l.length -> ¬ pQ l (j:Int)):kU l = -1:=by
 unfold kU
 have:(List.range l.length).find? (fun (i:Nat)=>decide (pQ l (i:Int)))=none:=by
  rw [List.find?_eq_none];intro j hj;simpa using hno j (by simpa using hj)
 rw [this];rfl
theorem uD (l:List Int) (v:Value) (w:World) (hl:l.length<=1073741824) (hv:RI w v l) :
  Calls Tryz.prog 29 #[v] w fun e w'=>e=.returned (.int .i64 (kU l)) /\ Below w.heap.size w w':=by
 obtain ⟨A,c,rfl,hc⟩:=hv.form
 go_enter Tryz.func29,Tryz.ntmps29
 go_wp2_with fail
 go_loop [3] (fun j=>∃ k:Nat,k<=l.length /\ j=.int .i64 (k:Int) /\ ∀ m,m<k -> ¬ pQ l (m:Int)) (fun j=>l.length - (intOf j).toNat)
 case atStart=>exact ⟨0,Vd _,rfl,fun m hm=>by omega⟩
 case round=>
  obtain ⟨k,hk,rfl,hno⟩:=hrel;have Hno:=aE hno;clear hno;by_cases hlt:k<l.length
  .have ha:=Jw l _ (k:Int) (k:Int) w hl hv;have hci:=Ko l (k:Int) ⟨by omega,by omega⟩
   have e:decide (Nc l (k:Int) (k:Int))=decide (pQ l (k:Int)):=by
    refine decide_eq_decide.2 ⟨fun ⟨j,h1,h2,_,h3⟩=>hci.2 ⟨j,h1,h2,h3⟩,fun h=>?_⟩;obtain ⟨j,h1,h2,h3⟩:=hci.1 h;exact ⟨j,h1,h2,by omega,h3⟩
   rw [e] at ha;by_cases hy:pQ l (k:Int)
   .rw [Vy hy] at ha;have Ha:=aE ha;have E:=aE (BE l k hlt Hno.out hy);clear ha e hci hy
    go_wp2_with (go_at_call 66;refine Ha.out.mono ?_;rintro e w2 ⟨rfl,rfl⟩)
    go_ret
    rw [E.out];exact ⟨rfl,Below.refl _ _⟩
   .rw [Vv hy] at ha;have Ha:=aE ha;have Hy:=aE hy;clear ha e hci hy
    go_wp2_with (go_at_call 66;refine Ha.out.mono ?_;rintro e w2 ⟨rfl,rfl⟩)
    go_round
    case rel=>
     refine ⟨k+1,by omega,by go_num,fun m hm=>?_⟩;by_cases e:m=k
     .subst e;exact Hy.out
     .exact Hno.out m (by omega)
    case measure=>simp [intOf];omega
  .obtain rfl:k=l.length:=by omega
   have E:=aE (E2 l Hno.out)
   go_wp2_with fail
   go_ret
   rw [E.out];exact ⟨rfl,Below.refl _ _⟩
end
section
theorem tE {w:World} {base:Nat} {e:TypeId} {g n c:Nat} {xs:List Value} (h:w.ownsRow base e 1 (.slice (some ⟨g,0,none⟩) n c) n xs) {k:Nat} (hk:k<=n):w.ownsRow base e 1 (.slice (some ⟨g,0,none⟩) k c) k (xs.take k):=by
 obtain ⟨hl,h|⟨g',cap,cur,hv,hb,hg,hn,hm,hs,ht⟩⟩:=h
 .exact absurd h.1 (by simp)
 .simp at hv;obtain ⟨rfl,rfl⟩:=hv;refine ⟨by simp at hl ⊢;omega,.inr ⟨g,c,cur,rfl,hb,hg,by omega,hm,hs,?_⟩⟩;rw [<- ht,List.take_take]
  congr 1
  omega
theorem qN (w:World) (v:Value) (t:TypeId):∀ j u,[v][j]? = some u -> (w.alloc (.cells #[v] t)).cell? ((⟨w.heap.size,0,none⟩:Addr).add j)=some u:=mE w [v] t
theorem o5 (w:World) (v:Value) (t:TypeId):∀ j u,[v][j]? = some u -> ((w.alloc (.cells #[v] t)).drew).cell? ((⟨w.heap.size,0,none⟩:Addr).add j)=some u:=mE w [v] t
theorem tK:(Tryz.prog.info? 166).map (fun i=>(i.zero,i.size,i.bytes))=some (some .nilIface,1,16):=by kernel_rfl
theorem ph (t:TypeId) (x:Value):∀ u ∈ [Value.iface t x],u.oneCell'=true:=by intro u hu;simp at hu;subst hu;rfl
def Gx (p:TypeId × Value):Value:=.iface p.1 p.2
def oh (base d:Nat) (ok:Bool) (w:World) (B:Nat) (e:Ending) (w':World):Prop:=∃ v xs,e=.returned (.tuple #[v,.bool ok]) /\ w'.ownsRow base 166 1 v d (List.map Gx xs) /\ Below B w w'
theorem TR (op i:Int) (v:Value) (n base B:Nat) (xs:List (TypeId × Value)) (w:World) (ho:aC op=0) (hown:w.ownsRow base 166 1 v n (xs.map Gx)) (hn:n<=1000) (hB:B<=base) (hb:base<=w.heap.size) :
  Calls Tryz.prog 127 #[v,.int .i64 op,.int .i64 i] w (oh base (n+1) true w B):=by
 obtain ⟨i0,hi0,hz0,hz1,hz2⟩:=info_parts tK;have Ho:=aE ho;clear ho;obtain ⟨A,c,rfl,hc⟩:=io hown
 go_enter Tryz.func127,Tryz.ntmps127
 go_wp2_with (first
  | (go_at_call 37;refine (kd _ _).mono ?_;rintro e w' ⟨rfl,rfl⟩;rw [Ho.out])
  | (at_builtin;refine wpList_append_own _ rfl _ _ 203 rfl base 166 i0 .nilIface 1 16 Tryz.underlying203 hi0 hz0 hz1 hz2 rfl (by decide) _ _ _ rfl (hown.alloc _) ⟨w.heap.size,0,none⟩ 1 1 [.iface 228 (.agg #[.int .i64 i])] rfl rfl (qN _ _ _) (ph _ _) (by unfold maxLen;omega) (by omega) (by simp;omega) ?_;intro v' w1 hown' hgrow _))
 go_ret2
 exact ⟨v',xs ++ [(228,.agg #[.int .i64 i])],rfl,by rw [VI];exact hown',((Below.refl _ _).alloc (by omega) _).grown hgrow (by simp;omega) (fun k hk=>by have:=(hown.lt k hk).1;omega)⟩
theorem TX (op i:Int) (v:Value) (n base B:Nat) (xs:List (TypeId × Value)) (w:World) (ho:aC op=1) (h1:1<=n) (hown:w.ownsRow base 166 1 v n (xs.map Gx)) (hn:n<=1000) (hB:B<=base) (hb:base<=w.heap.size) :
  Calls Tryz.prog 127 #[v,.int .i64 op,.int .i64 i] w (oh base n true w B):=by
 obtain ⟨i0,hi0,hz0,hz1,hz2⟩:=info_parts tK;have Ho:=aE ho;clear ho;obtain ⟨g,c,rfl,hc,hgb,hgw⟩:=oc hown (by omega);have hlen:=hown.1;rw [Vp] at hlen;obtain ⟨xt,xv,hx⟩:∃ xt xv,(xs.map Gx)[n - 1]? = some (.iface xt xv):=⟨(xs[n - 1]'(by omega)).1,(xs[n - 1]'(by omega)).2,by rw [Ve,p0 (by omega)];rfl⟩;have hcell:=j8 hown rfl hx;have hown2:=tE hown (k:=n - 1) (by omega);have Hown:=aE hown;have Hx:=aE hx;have Hlen:=aE hlen;clear hown hx hlen
 go_enter Tryz.func127,Tryz.ntmps127
 go_wp2_with (first
  | (go_at_call 37;refine (kd _ _).mono ?_;rintro e w' ⟨rfl,rfl⟩;rw [Ho.out])
  | fail)
 have s1:IntKind.i64.wrap ((n:Int) - 1)=(n:Int) - 1:=IntWalk.i64_in _ (by omega);have s2:0<=(n:Int) - 1:=by omega
 have s3:((n:Int) - 1).toNat=n - 1:=by omega
 have s4:(n:Int) - 1<=(c:Int):=by omega
 have s5:(n:Int) - 1<(n:Int):=by omega
 go_region_law (refine step_append_lies _ rfl (.tmp 33) (.tmp 42) 203 rfl base 166 i0 .nilIface 1 16 Tryz.underlying203 hi0 hz0 hz1 hz2 rfl (by decide) _ (n - 1) _ rfl (hown2.alloc _).drew ⟨w.heap.size,0,none⟩ 1 1 [.iface 230 (.agg #[.int .i64 i,.iface xt xv])] rfl rfl (o5 _ _ _) (ph _ _) (by omega) (by unfold maxLen;omega) (by omega) (by simp;omega) _ rfl ?_;intro g2 c2 w2 hown3 hg2 hat hlt)
 have h4:w2.ownsRow base 166 1 (.slice (some ⟨g2,0,none⟩) n c2) n (List.map Gx (xs.take (n - 1) ++ [(230,.agg #[.int .i64 i,.iface xt xv])])):=by
  have h:=hown3;rw [VI,List.map_take];rw [show n - 1+1=n by omega] at h;exact h
 have hbl:Below B w w2:=(((Below.refl _ _).alloc (by omega) _).drew).grown hg2 (by simp;omega) (fun k hk=>by have:=(hown2.lt k hk).1;omega)
 go_wp2_with fail
 go_ret2
 exact ⟨_,_,rfl,h4,hbl⟩
theorem T9 (op i:Int) (v:Value) (n base B:Nat) (xs:List (TypeId × Value)) (w:World) (ho:aC op=2) (h1:2<=n) (hown:w.ownsRow base 166 1 v n (xs.map Gx)) (hn:n<=1000) (hB:B<=base) (hb:base<=w.heap.size) :
  Calls Tryz.prog 127 #[v,.int .i64 op,.int .i64 i] w (oh base (n - 1) true w B):=by
 obtain ⟨i0,hi0,hz0,hz1,hz2⟩:=info_parts tK;have Ho:=aE ho;clear ho;obtain ⟨g,c,rfl,hc,hgb,hgw⟩:=oc hown (by omega);have hlen:=hown.1;rw [Vp] at hlen;obtain ⟨xt,xv,hx⟩:∃ xt xv,(xs.map Gx)[n - 1]? = some (.iface xt xv):=⟨(xs[n - 1]'(by omega)).1,(xs[n - 1]'(by omega)).2,by rw [Ve,p0 (by omega)];rfl⟩;obtain ⟨yt,yv,hy⟩:∃ xt xv,(xs.map Gx)[n - 2]? = some (.iface xt xv):=⟨(xs[n - 2]'(by omega)).1,(xs[n - 2]'(by omega)).2,by rw [Ve,p0 (by omega)];rfl⟩;have hcell:=j8 hown rfl hx;have hcelly:=j8 hown rfl hy;have hown2:=tE hown (k:=n - 2) (by omega);have Hown:=aE hown;have Hx:=aE hx;have Hy:=aE hy;have Hlen:=aE hlen;clear hown hx hlen hy
 go_enter Tryz.func127,Tryz.ntmps127
 go_wp2_with (first
  | (go_at_call 37;refine (kd _ _).mono ?_;rintro e w' ⟨rfl,rfl⟩;rw [Ho.out])
  | fail)
 have s1:IntKind.i64.wrap ((n:Int) - 1)=(n:Int) - 1:=IntWalk.i64_in _ (by omega);have s2:0<=(n:Int) - 1:=by omega
 have s3:((n:Int) - 1).toNat=n - 1:=by omega
 have s5:(n:Int) - 1<(n:Int):=by omega
 have s6:IntKind.i64.wrap ((n:Int) - 2)=(n:Int) - 2:=IntWalk.i64_in _ (by omega);have s7:0<=(n:Int) - 2:=by omega
 have s8:((n:Int) - 2).toNat=n - 2:=by omega
 have s9:(n:Int) - 2<=(c:Int):=by omega
 have s10:(n:Int) - 2<(n:Int):=by omega
 have s11:(1:Int)<=(n:Int):=by omega
 have s12:(2:Int)<=(n:Int):=by omega
 go_region_law (refine step_append_lies _ rfl (.tmp 54) (.tmp 68) 203 rfl base 166 i0 .nilIface 1 16 Tryz.underlying203 hi0 hz0 hz1 hz2 rfl (by decide) _ (n - 2) _ rfl (hown2.alloc _).drew ⟨w.heap.size,0,none⟩ 1 1 [.iface 232 (.agg #[.int .i64 i,.iface yt yv,.iface xt xv])] rfl rfl (o5 _ _ _) (ph _ _) (by omega) (by unfold maxLen;omega) (by omega) (by simp;omega) _ rfl ?_;intro g2 c2 w2 hown3 hg2 hat hlt)
 all_goals
  have h4:w2.ownsRow base 166 1 (.slice (some ⟨g2,0,none⟩) (n - 2+1) c2) (n - 1) (List.map Gx (xs.take (n - 2) ++ [(232,.agg #[.int .i64 i,.iface yt yv,.iface xt xv])])):=by
   have h:=hown3;rw [VI,List.map_take];rw [show n - 2+1=n - 1 by omega] at h ⊢;exact h
  have hbl:Below B w w2:=(((Below.refl _ _).alloc (by omega) _).drew).grown hg2 (by simp;omega) (fun k hk=>by have:=(hown2.lt k hk).1;omega)
  go_wp2_with fail
  go_ret2
  exact ⟨_,_,rfl,h4,hbl⟩
theorem R9 (op i:Int) (v:Value) (n base B:Nat) (xs:List (TypeId × Value)) (w:World) (ho:cD n op=none) (hown:w.ownsRow base 166 1 v n (xs.map Gx)) (hn:n<=1000) (hB:B<=base) (hb:base<=w.heap.size) :
  Calls Tryz.prog 127 #[v,.int .i64 op,.int .i64 i] w fun e w'=>e=.returned (.tuple #[v,.bool false]) /\ w=w':=by
 obtain ⟨A,c,rfl,hc⟩:=io hown;have Hown:=aE hown;clear hown
 have key:(aC op=1 /\ n=0) \/ (aC op=2 /\ n=0) \/ (aC op=2 /\ n=1) \/ aC op = -1:=by
  unfold cD at ho;have:aC op=0 \/ aC op=1 \/ aC op=2 \/ aC op = -1:=by unfold aC;(repeat' split)<;>simp
  split at ho
  .cases ho
  .split at ho
   .cases ho
   .split at ho
    .cases ho
    .omega
 clear ho;rcases key with ⟨ho,rfl⟩|⟨ho,rfl⟩|⟨ho,rfl⟩|ho
 all_goals
  have Ho:=aE ho;clear ho
  go_enter Tryz.func127,Tryz.ntmps127
  go_wp2_with (first
   | (go_at_call 37;refine (kd _ _).mono ?_;rintro e w' ⟨rfl,rfl⟩;rw [Ho.out])
   | fail)
  go_ret2
  exact ⟨rfl,rfl⟩
theorem LY (op i:Int) (v:Value) (n base B:Nat) (xs:List (TypeId × Value)) (w:World) {d:Nat} (ho:cD n op=some d) (hown:w.ownsRow base 166 1 v n (xs.map Gx)) (hn:n<=1000) (hB:B<=base) (hb:base<=w.heap.size) :
  Calls Tryz.prog 127 #[v,.int .i64 op,.int .i64 i] w (oh base d true w B):=by
 unfold cD at ho;split at ho
 .cases ho;exact TR op i v n base B xs w (by assumption) hown hn hB hb
 .split at ho
  .rename_i h;cases ho;exact TX op i v _ base B xs w h.1 h.2 hown hn hB hb
  .split at ho
   .rename_i h;cases ho;exact T9 op i v n base B xs w h.1 h.2 hown hn hB hb
   .cases ho
end
section
theorem qR (a b:List Int):∀ d,bx (a ++ b) d=(bx a d).bind (bx b):=by
 induction a with
 | nil=>intro d;rfl
 | cons x a ih=>intro d;rw [Ww,bx,bx];cases cD d x<;>simp [ih]
theorem F6 (a:List Int) (x:Int) (d:Nat):bx (a ++ [x]) d=(bx a d).bind fun d'=>cD d' x:=by
 rw [qR]
 cases bx a d with
 | none=>rfl
 | some d'=>simp [bx];cases cD d' x<;>rfl
theorem A5 {d op:_} {d':Nat} (h:cD d op=some d'):d'<=d+1:=by
 unfold cD at h;split at h
 .cases h;omega
 .split at h
  .cases h;omega
  .split at h
   .cases h;omega
   .cases h
def Hc (r:Int) (w:World) (e:Ending) (w':World):Prop:=∃ v,e=.returned (.tuple #[v,.int .i64 r]) /\ Below w.heap.size w w'
theorem Hq (l:List fx) (v:Value) (S:Nat -> Prop) (w:World) (h:(aJ sK).one w S v l) (hS:∀ b,S b -> b<w.heap.size) :
  Calls Tryz.prog 81 #[v] w (Hc (bf (l.map fx.op)) w):=by
 obtain ⟨A,c,rfl,hc,hc2⟩:=dk h;by_cases h0:l.length=0
 .have e:bf (l.map fx.op)=12:=by unfold bf;rw [Vo (by simpa using h0)]
  rw [e,h0]
  go_enter Tryz.func81,Tryz.ntmps81
  go_wp2_with fail
  go_ret2
  exact ⟨_,rfl,Below.refl _ _⟩
 .by_cases h1:64<l.length
  .have e:bf (l.map fx.op)=3:=by unfold bf;rw [Vj (by simpa using h0),Vo (by simpa using h1)]
   rw [e];have hd:(((l.length:Nat):Int) == 0)=false:=VP.2 (by omega);have hd2:decide ((64:Int)<(l.length:Int))=true:=by simp;omega
   go_enter Tryz.func81,Tryz.ntmps81
   go_wp2_with fail
   go_ret2
   exact ⟨_,rfl,Below.refl _ _⟩
  .obtain ⟨b,o,rfl,hSb,hrow⟩:=dJ h (by omega);have e:bf (l.map fx.op)=if bx (l.map fx.op) 0=some 1 then 0 else 17:=by unfold bf;rw [Vj (by simpa using h0),Vj (by simpa using h1)]
   rw [e];clear e;obtain ⟨R,hR⟩:∃ R,R=bx (l.map fx.op) 0:=⟨_,rfl⟩;rw [<- hR];obtain ⟨E,hE⟩:∃ E:Int,E=if R=some 1 then 0 else 17:=⟨_,rfl⟩;rw [<- hE];have HR:=aE hR;have HE:=aE hE;have Hsl:=aE h;clear hR hrow hE h;have hd:(((l.length:Nat):Int) == 0)=false:=VP.2 (by omega);have hd2:decide ((64:Int)<(l.length:Int))=false:=by simp;omega
   go_enter Tryz.func81,Tryz.ntmps81
   go_wp2_with fail
   go_loopw [4,19] (fun rv iv wr=>∃ (k d:Nat) (xs:List (TypeId × Value)),k<=l.length /\ d<=k /\ iv=.int .i64 (k:Int) /\ bx ((l.take k).map fx.op) 0=some d /\ wr.ownsRow w.heap.size 166 1 rv d (xs.map Gx) /\ Below w.heap.size w wr)
    (fun rv iv wr=>l.length - (intOf iv).toNat)
   case atStart=>exact ⟨0,0,[],Vd _,Vh _,rfl,rfl,World.ownsRow_nil _ _ _ _,Below.refl _ _⟩
   case round=>
    obtain ⟨k,d,xs,hk,hdk,rfl,hrn,hown,hbl⟩:=hrel;have Hrn:=aE hrn;clear hrn;by_cases hlt:k<l.length
    .obtain ⟨hcs,hok⟩:=Jn (fo Hsl.out hbl hS) hlt;have hnx:=F6 ((l.take k).map fx.op) l[k].op 0;rw [Hrn.out] at hnx
     have hall:bx (l.map fx.op) 0=(bx ((l.take k).map fx.op ++ [l[k].op]) 0).bind (bx ((l.drop (k+1)).map fx.op)):=by
      rw [<- qR,VZ,List.singleton_append,<- V1,<- WG hlt,<- VI,WY]
     rw [<- HR.out] at hall
     have htk:(l.take (k+1)).map fx.op=(l.take k).map fx.op ++ [l[k].op]:=by
      rw [Vi hlt,VI];rfl
     have Hnx:=aE hnx;have Hall:=aE hall;have Htk:=aE htk;have Hok:=aE hok;have c0:=hcs 0 _ rfl;have c1:=hcs 1 _ rfl;have c2:=hcs 2 _ rfl;have c3:=hcs 3 _ rfl;have c4:=hcs 4 _ rfl;have c5:=hcs 5 _ rfl;have c6:=hcs 6 _ rfl;have c7:=hcs 7 _ rfl;have c8:=hcs 8 _ rfl;clear hnx hall htk hok hcs;generalize l[k]=x at *;obtain ⟨xop,xln,xlv,xrn,xrv,xnm,xus,xli,xco⟩:=x;simp only [XE] at c0 c1 c2 c3 c4 c5 c6 c7 c8;have hsz:w.heap.size<=wr.heap.size:=hbl.size
     cases hp:cD d xop with
     | none=>
      have Hp:=aE hp;clear hp
      go_wp2_with fail
      refine (R9 _ _ _ d w.heap.size 0 xs _ Hp.out (hown.alloc _) (by omega) (Vd _) (by simp;omega)).mono ?_;rintro e w' ⟨rfl,rfl⟩
      go_wp2_with fail
      go_ret2
      have e17:E=17:=by
       rw [HE.out,Hall.out,Hnx.out];simp [Hp.out]
      exact ⟨_,by rw [e17];rfl,hbl.alloc hsz _⟩
     | some d'=>
      have Hp:=aE hp;clear hp
      go_wp2_with fail
      refine (LY _ _ _ d w.heap.size w.heap.size xs _ Hp.out (hown.alloc _) (by omega) (Vh _) (by simp;omega)).mono ?_;rintro e w' ⟨v',xs',rfl,hown',hbl'⟩;have Hown:=aE hown;clear hown
      go_wp2_with fail
      go_roundw
      case rel=>exact ⟨k+1,d',xs',by omega,by have:=A5 Hp.out;omega,by go_num,by rw [Htk.out,Hnx.out];exact Hp.out,hown',(hbl.alloc hsz _).trans hbl'⟩
      case measure=>simp [intOf];omega
    .obtain rfl:k=l.length:=by omega
     have hf:=Hrn.out;rw [Vq,<- HR.out] at hf;have Hf:=aE hf;clear hf;obtain ⟨A,c',rfl,hc'⟩:=io hown
     cases hd1:((d:Int) != 1) with
     | true=>
      have e17:E=17:=by
       rw [HE.out,Hf.out,Vj (by simp at hd1 ⊢;omega)]
      have E17:=aE e17;clear e17
      go_wp2_with fail
      go_ret2
      exact ⟨_,by rw [E17.out];rfl,hbl⟩
     | false=>
      obtain rfl:d=1:=by simp at hd1;omega
      have e0:E=0:=(by rw [HE.out,Hf.out,Vo rfl]);have E0:=aE e0;clear e0;have hxl:xs.length=1:=by have:=hown.1;simpa using this
      obtain ⟨x,rfl⟩:∃ x,xs=[x]:=List.length_eq_one_iff.1 hxl;obtain ⟨g,c2,hv,hc2',_,_⟩:=oc hown (by omega);cases hv;have hcell:=j8 hown rfl (j:=0) (u:=Gx x) rfl;clear hown hxl
      go_wp2_with fail
      go_ret2
      exact ⟨_,by rw [E0.out];rfl,hbl⟩
theorem pT (l:List fx) (v:Value) (S:Nat -> Prop) (w:World) (h:(aJ sK).one w S v l) (hS:∀ b,S b -> b<w.heap.size) :
  Calls Tryz.prog 36 #[v] w fun e w'=>e=.returned (.int .i64 (bf (l.map fx.op))) /\ Below w.heap.size w w':=by
 have H:=aE (Hq l v S w h hS);clear h hS
 go_enter Tryz.func36,Tryz.ntmps36
 go_wp2_with (go_at_call 81;refine H.out.mono ?_;rintro e w' ⟨nv,rfl,hb⟩)
 go_ret
 exact ⟨rfl,hb⟩
def eU (x:ah):fx:=⟨x.op,⟨#[]⟩,0,⟨#[]⟩,0,⟨#[]⟩,⟨#[]⟩,0,0⟩
theorem pC (l:List ah):(l.map eU).map fx.op=l.map ah.op:=by rw [List.map_map];rfl
theorem Kp:(Tryz.prog.info? 101).map (fun i=>(i.zero,i.size,i.bytes))=some (some (.agg #[.int .i64 0,.string ⟨#[]⟩,.int .i64 0,.string ⟨#[]⟩,.int .i64 0,.string ⟨#[]⟩,.string ⟨#[]⟩,.int .i64 0,.int .i64 0]),9,104):=by kernel_rfl
theorem xA (w:World) (g:Nat) (L:List Value) (t:TypeId) (hg:g=w.heap.size):∀ j u,L[j]? = some u -> (w.alloc (.cells L.toArray t)).cell? ((⟨g,0,none⟩:Addr).add j)=some u:=by
 subst hg;exact mE w L t
theorem KN (x:fx):∀ u ∈ x.cells,u.oneCell'=true:=by
 intro u hu;simp only [fx.cells,Wf,List.not_mem_nil,or_false] at hu;rcases hu with rfl|rfl|rfl|rfl|rfl|rfl|rfl|rfl|rfl<;>rfl
theorem vc (l:List ah) (v:Value) (S:Nat -> Prop) (w:World) (h:(aJ fD).one w S v l) (hS:∀ b,S b -> b<w.heap.size) (hl:l.length<=1000) :
  Calls Tryz.prog 168 #[v] w fun e w'=>∃ u,e=.returned u /\ w'.ownsRow w.heap.size 101 9 u l.length ((l.map eU).flatMap fx.cells) /\ Below w.heap.size w w':=by
 obtain ⟨i0,hi0,hz0,hz1,hz2⟩:=info_parts Kp;obtain ⟨A,c,rfl,hc,hc2⟩:=dk h;have Hsl:=aE h;clear h
 go_enter Tryz.func168,Tryz.ntmps168
 go_wp2_with fail
 go_loopw [3,8] (fun rv iv wr=>∃ (k:Nat),k<=l.length /\ iv=.int .i64 (k:Int) /\ wr.ownsRow w.heap.size 101 9 rv k (((l.take k).map eU).flatMap fx.cells) /\ Below w.heap.size w wr)
  (fun rv iv wr=>l.length - (intOf iv).toNat)
 case atStart=>exact ⟨0,Vd _,rfl,World.ownsRow_nil _ _ _ _,Below.refl _ _⟩
 case round=>
  obtain ⟨k,hk,rfl,hown,hbl⟩:=hrel;by_cases hlt:k<l.length
  .have hsl:=fo Hsl.out hbl hS;obtain ⟨b,o,hv,_,_⟩:=dJ hsl (by omega);subst hv;obtain ⟨hcs,hok⟩:=tv hsl hlt
   have htk:((l.take (k+1)).map eU).flatMap fx.cells=((l.take k).map eU).flatMap fx.cells ++ (eU l[k]).cells:=by
    rw [Vi hlt,VI,Wx];simp
   have Htk:=aE htk;have c0:=hcs 0 _ rfl;have c1:=hcs 1 _ rfl;have c2:=hcs 2 _ rfl;have c3:=hcs 3 _ rfl;have c4:=hcs 4 _ rfl;have c5:=hcs 5 _ rfl;have c6:=hcs 6 _ rfl;clear htk hok hcs hsl;generalize l[k]=x at *;obtain ⟨xop,xla,xln,xra,xrn,xn,xu⟩:=x;simp only [XE] at c0 c1 c2 c3 c4 c5 c6;have hsz:w.heap.size<=wr.heap.size:=hbl.size
   go_wp2_with (at_builtin;refine wpList_append_own _ rfl _ _ 53 rfl w.heap.size 101 i0 (.agg #[.int .i64 0,.string ⟨#[]⟩,.int .i64 0,.string ⟨#[]⟩,.int .i64 0,.string ⟨#[]⟩,.string ⟨#[]⟩,.int .i64 0,.int .i64 0]) 9 104 Tryz.underlying53 hi0 hz0 hz1 hz2 rfl (by decide) _ _ _ rfl ((hown.alloc _).alloc _) ⟨wr.heap.size+1,0,none⟩ 1 1 [.int .i64 xop,.string ⟨#[]⟩,.int .i64 0,.string ⟨#[]⟩,.int .i64 0,.string ⟨#[]⟩,.string ⟨#[]⟩,.int .i64 0,.int .i64 0] rfl rfl (xA _ _ _ _ (by simp)) (KN (eU ⟨xop,0,0,0,0,0,0⟩)) (by unfold maxLen;omega) (by omega) (by simp;omega) ?_;intro v2 w2 hown2 hg2 _)
   have hb2:Below w.heap.size w w2:=((hbl.alloc hsz _).alloc (by simp;omega) _).grown hg2 (by simp;omega) (fun j hj=>(hown.lt j hj).1);have Hown:=aE hown;have Hown2:=aE hown2;clear hown hown2 hg2
   go_wp2_with fail
   go_roundw
   case rel=>exact ⟨k+1,by omega,by go_num,by rw [Htk.out];exact Hown2.out,hb2⟩
   case measure=>simp [intOf];omega
  .obtain rfl:k=l.length:=by omega
   rw [Vq] at hown;have Hown:=aE hown;clear hown
   go_wp2_with fail
   go_ret
   exact ⟨_,rfl,Hown.out,hbl⟩
end
section
def ka:List PanicEntry:=[{ v:=.iface 258 (.agg #[]),recovered:=false }]
abbrev Ly (vv:Value) (o d:Int) (dv cv:Value):Value:=.agg #[vv,.int .i64 o,.int .i64 d,dv,cv]
end
end
section
section
def bv (b:Bool):Value:=.iface 4 (.bool b)
def cP (w:World) (a H:Nat) (vv:Value) (o d:Int) (dv cv f:Value) (L:List Bool):Prop:=
 ∃ rv,jX w a 244 #[vv,.int .i64 o,.int .i64 d,dv,cv,f,rv] /\ w.ownsRow (a+1) 20 1 rv L.length (L.map bv) /\ a<H /\ (∀ g,rv.ownBlock=some g -> g<H)
theorem cP.below {w w':World} {a H:Nat} {vv:Value} {o d:Int} {dv cv f:Value} {L:List Bool} (h:cP w a H vv o d dv cv f L) (hb:Below H w w'):cP w' a H vv o d dv cv f L:=by
 obtain ⟨rv,h1,h2,h3,h4⟩:=h;exact ⟨rv,h1.below hb h3,G8 h2 hb h4,h3,h4⟩
theorem cP.cells {w:World} {a H:Nat} {vv:Value} {o d:Int} {dv cv f:Value} {L:List Bool} (h:cP w a H vv o d dv cv f L) :
  w.cell? ⟨a,0,none⟩=some vv /\ w.cell? ⟨a,1,none⟩=some (.int .i64 o) /\ w.cell? ⟨a,2,none⟩=some (.int .i64 d) /\ w.cell? ⟨a,5,none⟩=some f:=by
 obtain ⟨rv,h1,_⟩:=h;have c0:=h1.cell 0;have c1:=h1.cell 1;have c2:=h1.cell 2;have c5:=h1.cell 5;simp at c0 c1 c2 c5;exact ⟨c0,c1,c2,c5⟩
def AW (H:Nat) (w w':World):Prop:=∀ g,H<=g -> g<w.heap.size -> w'.heap[g]? = w.heap[g]?
theorem AW.cell {H:Nat} {w w':World} (h:AW H w w') {g i:Nat} (h1:H<=g) (h2:g<w.heap.size):w'.cell? ⟨g,i,none⟩=w.cell? ⟨g,i,none⟩:=World.cell?_of_block (h g h1 h2)
theorem Pe:(Tryz.prog.info? 20).map (fun i=>(i.zero,i.size,i.bytes))=some (some .nilIface,1,16):=by kernel_rfl
def Mz (v:Value) (a H:Nat) (vv:Value) (o d:Int) (dv cv f:Value) (L:List Bool) (w:World) (e:Ending) (w':World):Prop:=e=.returned v /\ cP w' a w'.heap.size vv o d dv cv f L /\ Below a w w' /\ w.heap.size<=w'.heap.size /\ AW H w w'
theorem jO (a H:Nat) (vv:Value) (o d:Int) (dv cv f:Value) (L:List Bool) (b:Bool) (w:World) (h:cP w a H vv o d dv cv f L) (hL:L.length<=1000) :
  Calls Tryz.prog 189 #[.pointer (some ⟨a,0,none⟩),.bool b] w (Mz (.tuple #[]) a H vv o d dv cv f (L ++ [b]) w):=by
 obtain ⟨i0,hi0,hz0,hz1,hz2⟩:=info_parts Pe;obtain ⟨rv,hb,hown,haH,hrH⟩:=h;have hlt:=hb.lt;have c6:=hb.cell 6;have f6:=hb.frozen 6;simp at c6;obtain ⟨A,c,rfl,hc⟩:=io hown;have HB:=aE hb;clear hb
 go_enter Tryz.func189,Tryz.ntmps189
 go_wp2_with (at_builtin;refine wpList_append_own _ rfl _ _ 242 rfl (a+1) 20 i0 .nilIface 1 16 Tryz.underlying242 hi0 hz0 hz1 hz2 rfl (by decide) _ _ _ rfl (hown.alloc _) ⟨w.heap.size,0,none⟩ 1 1 [.iface 4 (.bool b)] rfl rfl (qN _ _ _) (ph _ _) (by unfold maxLen;omega) (by omega) (by simp;omega) ?_;intro v' w1 hown' hgrow _;have hne:some a ≠ (Value.slice A L.length c).ownBlock:=Ch hown (by omega);have hb1:=(HB.out.alloc (.cells #[.iface 4 (.bool b)] 20)).grown hgrow hne;obtain ⟨A2,c2,rfl,hc2⟩:=io hown';have d6:=hb1.cell 6;have g6:=hb1.frozen 6;simp at d6)
 have hbl:Below a w w1:=((Below.refl a w).alloc (by omega) _).grown hgrow (by simp;omega) (fun k hk=>by have:=(hown.lt k hk).1;omega);have hsz:w.heap.size<=w1.heap.size:=by have:=hgrow.size;simp at this;omega
 have hw1:a<w1.heap.size:=hb1.lt;have hlr:∀ g,(Value.slice A2 (L.length+1) c2).ownBlock=some g -> g<w1.heap.size:=fun g hg=>(hown'.lt g hg).2
 have hpast:AW H w (w1.setCell ⟨a,6,none⟩ (.slice A2 (L.length+1) c2)):=fun g hg1 hg2=>by
  rw [Below.heap_setCell w1 ⟨a,6,none⟩ _ g (by simp;omega)];have e1:w1.heap[g]? = (w.alloc (.cells #[.iface 4 (.bool b)] 20)).heap[g]?:=hgrow.block g (by simp;omega) (fun e=>by have:=hrH g e.symm;omega);rw [e1];exact Below.heap_alloc w _ g hg2
 go_end0
 refine ⟨rfl,⟨_,?_,by rw [Vk,VI];exact r6 hown' (p:=⟨a,6,none⟩) (by simp) _,by simpa using hw1,fun g hg=>by have:=hlr g hg;simpa using this⟩,hbl.setCell (Vh _) _,by simpa using hsz,hpast⟩
 .have:=hb1.set_ 6 (.slice A2 (L.length+1) c2);simpa using this
def OS (b:Bool) (a H:Nat) (vv:Value) (o d:Int) (dv cv f:Value) (L:List Bool) (w:World) (e:Ending) (w':World):Prop:=e=.returned (.bool b) /\ cP w' a H vv o d dv cv f L /\ Below a w w' /\ w.heap.size<=w'.heap.size /\ AW H w w'
theorem Cz (x:Bool) (w:World):(Instr.typeAssert (.iface 4 (.bool x)) 20 4 false).run Tryz.prog w=.ok (.bool x) w:=by kernel_rfl
theorem jj (a H:Nat) (vv:Value) (o d:Int) (dv cv f:Value) (L:List Bool) (b:Bool) (w:World) (h:cP w a H vv o d dv cv f (L ++ [b])) (hL:L.length<=1000) :
  Calls Tryz.prog 170 #[.pointer (some ⟨a,0,none⟩)] w (OS b a H vv o d dv cv f L w):=by
 obtain ⟨rv,hb,hown,haH,hrH⟩:=h;have hlt:=hb.lt;have c6:=hb.cell 6;have f6:=hb.frozen 6;simp at c6;obtain ⟨g,c,rfl,hc,hg1,hg2⟩:=oc hown (by simp);have hcell:=j8 hown rfl (j:=L.length) (u:=bv b) (by simp);have hown2:=tE hown (k:=L.length) (by simp)
 have hown3:w.ownsRow (a+1) 20 1 (.slice (some ⟨g,0,none⟩) L.length c) L.length (L.map bv):=by
  have e:(List.map bv (L ++ [b])).take L.length=L.map bv:=by rw [VI,Wj (by simp),VF (by simp)]
  rwa [e] at hown2
 have HB:=aE hb;have HO:=aE hown3;have hgn:a ≠ g:=by omega
 have ln:(L ++ [b]).length=L.length+1:=by simp
 rw [ln] at c6 hc;unfold bv at hcell;clear hb hown hown2 hown3 ln;have hta:=Cz b
 go_enter Tryz.func170,Tryz.ntmps170
 go_wp2_with fail
 go_ret
 refine ⟨rfl,⟨_,?_,r6 HO.out (p:=⟨a,6,none⟩) (by simp) _,haH,hrH⟩,(Below.refl a w).setCell (Vh _) _,by simp,fun k hk _=>Below.heap_setCell w ⟨a,6,none⟩ _ k (by simp;omega)⟩;have:=HB.out.set_ 6 (.slice (some ⟨g,0,none⟩) L.length c);simpa using this
theorem fq (a H:Nat) (vv:Value) (o d:Int) (dv cv f:Value) (w:World) (h:cP w a H vv o d dv cv f []) :
  Calls Tryz.prog 170 #[.pointer (some ⟨a,0,none⟩)] w fun e w'=>e=.panicked ka /\ w=w':=by
 obtain ⟨rv,hb,hown,haH,hrH⟩:=h;have c6:=hb.cell 6;simp at c6;obtain ⟨A,c,rfl,hc⟩:=io hown;clear hown hb
 go_enter Tryz.func170,Tryz.ntmps170
 go_wp2_with fail
 exact ⟨rfl,rfl,rfl⟩
end
section
def gm (a:Nat) (vv:Value) (o d:Int) (dv cv f:Value) (L:List Bool) (w:World) (e:Ending) (w':World):Prop:=e=.returned (.tuple #[]) /\ cP w' a w'.heap.size vv o d dv cv f L /\ Below a w w' /\ w.heap.size<=w'.heap.size
abbrev dR (op la ln ra rn n u:Int):Value:=.agg #[.int .i64 op,.int .i64 la,.int .i64 ln,.int .i64 ra,.int .i64 rn,.int .i64 n,.int .i64 u]
theorem TB (op la ln ra rn n u:Int) (a:Nat) (vv:Value) (o d:Int) (dv cv f:Value) (L:List Bool) (w:World) (h:cP w a w.heap.size vv o d dv cv f L) (hL:L.length<=1000) (ho:op=1 \/ op=2) :
  Calls Tryz.prog 169 #[.pointer (some ⟨a,0,none⟩),dR op la ln ra rn n u] w (gm a vv o d dv cv f (L ++ [op == 1]) w):=by
 have hb0:Below w.heap.size w (w.alloc (.cells #[.int .i64 op,.int .i64 la,.int .i64 ln,.int .i64 ra,.int .i64 rn,.int .i64 n,.int .i64 u] 61)):=(Below.refl _ _).alloc (Vh _) _;have hal:a<w.heap.size:=by obtain ⟨_,_,_,h3,_⟩:=h;exact h3
 have Hp:=aE (fun b=>jO a w.heap.size vv o d dv cv f L b _ (h.below hb0) hL);have Hb:=aE hb0;clear h hb0;rcases ho with rfl|rfl
 all_goals
  go_enter Tryz.func169,Tryz.ntmps169
  go_wp2_with (go_at_call 189;refine (Hp.out _).mono ?_;rintro e w' ⟨rfl,ha,hbl,hsz,_⟩)
  go_end0
  exact ⟨rfl,ha,Hb.out.mono (Wp hal) |>.trans hbl,VC Hb.out.size hsz⟩
theorem kB (q:Int) (hq6:q=3 \/ q=4 \/ q=5 \/ q=6 \/ q=7 \/ q=8) (la ln ra rn n u c:Int) (a k:Nat) (caps:Array Value) (vv:Value) (o d:Int) (dv cv:Value) (L:List Bool) (w:World) (h:cP w a w.heap.size vv o d dv cv (.func (.func k) #[] caps) L) (hL:L.length<=1000)
  (hcf:∀ (args:Array Value) (w:World),(callFunc k args).run Tryz.prog w=.ok (.enter k args) w)
  (HL:Hid (∀ w',Below w.heap.size w w' -> Calls Tryz.prog k (#[.agg #[.int .i64 la,.int .i64 ln],.agg #[.int .i64 ra,.int .i64 rn]] ++ caps) w' fun e w''=>e=.returned (.int .i64 c) /\ Below w'.heap.size w' w'')) :
  Calls Tryz.prog 169 #[.pointer (some ⟨a,0,none⟩),dR q la ln ra rn n u] w (gm a vv o d dv cv (.func (.func k) #[] caps) (L ++ [Rf q c]) w):=by
 obtain ⟨W,hW⟩:∃ W,W=w.alloc (.cells #[(.int .i64 q),.int .i64 la,.int .i64 ln,.int .i64 ra,.int .i64 rn,.int .i64 n,.int .i64 u] 61):=⟨_,rfl⟩;have hb0:Below w.heap.size w W:=by rw [hW];exact (Below.refl _ _).alloc (Vh _) _
 have hal:a<w.heap.size:=by obtain ⟨_,_,_,h3,_⟩:=h;exact h3
 have hz:W.heap.size=w.heap.size+1:=by rw [hW];simp
 have c5:=(h.below hb0).cells.2.2.2;have x0:W.cell? ⟨w.heap.size,0,none⟩=some (.int .i64 q):=by rw [hW];simp
 have x1:W.cell? ⟨w.heap.size,1,none⟩=some (.int .i64 la):=by rw [hW];simp
 have x2:W.cell? ⟨w.heap.size,2,none⟩=some (.int .i64 ln):=by rw [hW];simp
 have x3:W.cell? ⟨w.heap.size,3,none⟩=some (.int .i64 ra):=by rw [hW];simp
 have x4:W.cell? ⟨w.heap.size,4,none⟩=some (.int .i64 rn):=by rw [hW];simp
 have KB:=aE (fun (w':World) (hb:Below W.heap.size W w')=>(⟨(hb.cell (p:=⟨a,5,none⟩) (by show a<_;omega)).trans c5,(hb.cell (p:=⟨w.heap.size,0,none⟩) (by show w.heap.size<_;omega)).trans x0,(hb.cell (p:=⟨w.heap.size,1,none⟩) (by show w.heap.size<_;omega)).trans x1,(hb.cell (p:=⟨w.heap.size,2,none⟩) (by show w.heap.size<_;omega)).trans x2,(hb.cell (p:=⟨w.heap.size,3,none⟩) (by show w.heap.size<_;omega)).trans x3,(hb.cell (p:=⟨w.heap.size,4,none⟩) (by show w.heap.size<_;omega)).trans x4⟩ :
  w'.cell? ⟨a,5,none⟩=some (.func (.func k) #[] caps) /\ w'.cell? ⟨w.heap.size,0,none⟩=some (.int .i64 q) /\ w'.cell? ⟨w.heap.size,1,none⟩=some (.int .i64 la) /\ w'.cell? ⟨w.heap.size,2,none⟩=some (.int .i64 ln) /\ w'.cell? ⟨w.heap.size,3,none⟩=some (.int .i64 ra) /\ w'.cell? ⟨w.heap.size,4,none⟩=some (.int .i64 rn)))
 have KP:=aE (fun (w1 w2:World) (hb:Below W.heap.size W w1) (b:Bool) (ha:cP w2 a w2.heap.size vv o d dv cv (.func (.func k) #[] caps) (L ++ [b])) (hp:AW w.heap.size w1 w2)=>by
  obtain ⟨q0,q1,q2,q3,q4,q5⟩:=KB.out w1 hb;have hs:w.heap.size<w1.heap.size:=by have:=hb.size;omega
  exact (⟨ha.cells.2.2.2,(hp.cell (Vh _) hs).trans q1,(hp.cell (Vh _) hs).trans q2,(hp.cell (Vh _) hs).trans q3,(hp.cell (Vh _) hs).trans q4,(hp.cell (Vh _) hs).trans q5⟩ :
   w2.cell? ⟨a,5,none⟩=some (.func (.func k) #[] caps) /\ w2.cell? ⟨w.heap.size,0,none⟩=some (.int .i64 q) /\ w2.cell? ⟨w.heap.size,1,none⟩=some (.int .i64 la) /\ w2.cell? ⟨w.heap.size,2,none⟩=some (.int .i64 ln) /\ w2.cell? ⟨w.heap.size,3,none⟩=some (.int .i64 ra) /\ w2.cell? ⟨w.heap.size,4,none⟩=some (.int .i64 rn)))
 have H:=aE h;have HW:=aE hW;have HB:=aE hb0;clear h hb0 hW;rcases hq6 with hq|hq|hq|hq|hq|hq
 all_goals
  go_enter Tryz.func169,Tryz.ntmps169
  go_wp2_with fail
  have HW2:=HW.out;rw [hq] at HW2;rw [<- HW2];clear HW2;have hS0:=KB.out W.drew ((Below.refl _ _).drew)
  go_region_held3 (fun w'=>w'.cell? ⟨a,5,none⟩=some (.func (.func k) #[] caps) /\ w'.cell? ⟨w.heap.size,0,none⟩=some (.int .i64 q) /\ w'.cell? ⟨w.heap.size,1,none⟩=some (.int .i64 la) /\ w'.cell? ⟨w.heap.size,2,none⟩=some (.int .i64 ln) /\ w'.cell? ⟨w.heap.size,3,none⟩=some (.int .i64 ra) /\ w'.cell? ⟨w.heap.size,4,none⟩=some (.int .i64 rn)) (assumption)
   (first
    | (go_at_call 190;refine (RA _ _ _).mono ?_;rintro e w' ⟨rfl,rfl⟩)
    | (go_at_call 189;(with_reducible refine (jO a w.heap.size vv o d dv cv _ L _ _ (H.out.below hbw1) hL).mono ?_);rintro e w2 ⟨rfl,ha,hbl,hsz,hpast⟩;have K2:=KP.out _ _ hbW1 _ ha hpast)
    | ((with_reducible refine (HL.out _ HB.out.drew).mono ?_);rintro e w1 ⟨rfl,hb1⟩;have hbW1:Below W.heap.size W w1:=(Below.refl W.heap.size W).drew.trans hb1;have K1:=KB.out w1 hbW1;have hbw1:Below w.heap.size w w1:=HB.out.trans (hbW1.mono HB.out.size)))
  all_goals
   go_wp2_with fail
   go_end0
   subst hq;exact ⟨rfl,ha,(hbw1.mono (Wp hal)).trans hbl,VC hbw1.size hsz⟩
theorem my (q:Int) (hq6:q=3 \/ q=4 \/ q=5 \/ q=6 \/ q=7 \/ q=8) (la ln ra rn n u:Int) (a k:Nat) (caps:Array Value) (vv:Value) (o d:Int) (dv cv:Value) (L:List Bool) (w:World) (h:cP w a w.heap.size vv o d dv cv (.func (.func k) #[] caps) L) (hL:L.length<=1000)
  (hcf:∀ (args:Array Value) (w:World),(callFunc k args).run Tryz.prog w=.ok (.enter k args) w)
  (HL:Hid (∀ w',Below w.heap.size w w' -> Calls Tryz.prog k (#[.agg #[.int .i64 la,.int .i64 ln],.agg #[.int .i64 ra,.int .i64 rn]] ++ caps) w' fun e w''=>e=.panicked ka /\ Below w'.heap.size w' w'')) :
  Calls Tryz.prog 169 #[.pointer (some ⟨a,0,none⟩),dR q la ln ra rn n u] w fun e w'=>e=.panicked ka /\ Below a w w':=by
 obtain ⟨W,hW⟩:∃ W,W=w.alloc (.cells #[(.int .i64 q),.int .i64 la,.int .i64 ln,.int .i64 ra,.int .i64 rn,.int .i64 n,.int .i64 u] 61):=⟨_,rfl⟩;have hb0:Below w.heap.size w W:=by rw [hW];exact (Below.refl _ _).alloc (Vh _) _
 have hal:a<w.heap.size:=by obtain ⟨_,_,_,h3,_⟩:=h;exact h3
 have hz:W.heap.size=w.heap.size+1:=by rw [hW];simp
 have c5:=(h.below hb0).cells.2.2.2;have x0:W.cell? ⟨w.heap.size,0,none⟩=some (.int .i64 q):=by rw [hW];simp
 have x1:W.cell? ⟨w.heap.size,1,none⟩=some (.int .i64 la):=by rw [hW];simp
 have x2:W.cell? ⟨w.heap.size,2,none⟩=some (.int .i64 ln):=by rw [hW];simp
 have x3:W.cell? ⟨w.heap.size,3,none⟩=some (.int .i64 ra):=by rw [hW];simp
 have x4:W.cell? ⟨w.heap.size,4,none⟩=some (.int .i64 rn):=by rw [hW];simp
 have KB:=aE (fun (w':World) (hb:Below W.heap.size W w')=>(⟨(hb.cell (p:=⟨a,5,none⟩) (by show a<_;omega)).trans c5,(hb.cell (p:=⟨w.heap.size,0,none⟩) (by show w.heap.size<_;omega)).trans x0,(hb.cell (p:=⟨w.heap.size,1,none⟩) (by show w.heap.size<_;omega)).trans x1,(hb.cell (p:=⟨w.heap.size,2,none⟩) (by show w.heap.size<_;omega)).trans x2,(hb.cell (p:=⟨w.heap.size,3,none⟩) (by show w.heap.size<_;omega)).trans x3,(hb.cell (p:=⟨w.heap.size,4,none⟩) (by show w.heap.size<_;omega)).trans x4⟩ :
  w'.cell? ⟨a,5,none⟩=some (.func (.func k) #[] caps) /\ w'.cell? ⟨w.heap.size,0,none⟩=some (.int .i64 q) /\ w'.cell? ⟨w.heap.size,1,none⟩=some (.int .i64 la) /\ w'.cell? ⟨w.heap.size,2,none⟩=some (.int .i64 ln) /\ w'.cell? ⟨w.heap.size,3,none⟩=some (.int .i64 ra) /\ w'.cell? ⟨w.heap.size,4,none⟩=some (.int .i64 rn)))
 have H:=aE h;have HW:=aE hW;have HB:=aE hb0;clear h hb0 hW;rcases hq6 with hq|hq|hq|hq|hq|hq
 all_goals
  go_enter Tryz.func169,Tryz.ntmps169
  go_wp2_with fail
  have HW2:=HW.out;rw [hq] at HW2;rw [<- HW2];clear HW2;have hS0:=KB.out W.drew ((Below.refl _ _).drew);refine wp_region_held (S:=fun w'=>w'.cell? ⟨a,5,none⟩=some (.func (.func k) #[] caps) /\ w'.cell? ⟨w.heap.size,0,none⟩=some (.int .i64 q) /\ w'.cell? ⟨w.heap.size,1,none⟩=some (.int .i64 la) /\ w'.cell? ⟨w.heap.size,2,none⟩=some (.int .i64 ln) /\ w'.cell? ⟨w.heap.size,3,none⟩=some (.int .i64 ra) /\ w'.cell? ⟨w.heap.size,4,none⟩=some (.int .i64 rn)) (by kernel_rfl) ?_;refine wpAnyH_take (i:=0) (v:=.pointer (some ⟨a,0,none⟩)) rfl (by kernel_rfl) (by kernel_rfl) (by kernel_rfl) (fun _ _ _ h=>h) (Or.inl ⟨by rfl,?_⟩) hS0 ?_
  .intro w hSw;obtain ⟨q0,q1,q2,q3,q4,q5⟩:=hSw;go_simp
  refine wpAnyH_take (i:=1) (v:=.pointer (some ⟨w.heap.size,0,none⟩)) rfl (by kernel_rfl) (by kernel_rfl) (by kernel_rfl) (fun _ _ _ h=>h) (Or.inl ⟨by rfl,?_⟩) hS0 ?_
  .intro w hSw;obtain ⟨q0,q1,q2,q3,q4,q5⟩:=hSw;go_simp
  refine wpAnyH_take (i:=2) (v:=.int .i64 q) rfl (by kernel_rfl) (by kernel_rfl) (by kernel_rfl) (fun _ _ _ h=>h) (Or.inl ⟨by rfl,?_⟩) hS0 ?_
  .intro w hSw;obtain ⟨q0,q1,q2,q3,q4,q5⟩:=hSw;go_simp
  refine wpAnyH_take (i:=3) (v:=.pointer (some ⟨a,0,none⟩)) rfl (by kernel_rfl) (by kernel_rfl) (by kernel_rfl) (fun _ _ _ h=>h) (Or.inl ⟨by rfl,?_⟩) hS0 ?_
  .intro w hSw;obtain ⟨q0,q1,q2,q3,q4,q5⟩:=hSw;go_simp
  refine wpAnyH_take (i:=4) (v:=.pointer (some ⟨a,0,none⟩)) rfl (by kernel_rfl) (by kernel_rfl) (by kernel_rfl) (fun _ _ _ h=>h) (Or.inl ⟨by rfl,?_⟩) hS0 ?_
  .intro w hSw;obtain ⟨q0,q1,q2,q3,q4,q5⟩:=hSw;go_simp
  refine wpAnyH_take (i:=5) (v:=.pointer (some ⟨a,5,none⟩)) rfl (by kernel_rfl) (by kernel_rfl) (by kernel_rfl) (fun _ _ _ h=>h) (Or.inl ⟨by rfl,?_⟩) hS0 ?_
  .intro w hSw;obtain ⟨q0,q1,q2,q3,q4,q5⟩:=hSw;go_simp
  refine wpAnyH_take (i:=6) (v:=.func (.func k) #[] caps) rfl (by kernel_rfl) (by kernel_rfl) (by kernel_rfl) (fun _ _ _ h=>h) (Or.inl ⟨by rfl,?_⟩) hS0 ?_
  .intro w hSw;obtain ⟨q0,q1,q2,q3,q4,q5⟩:=hSw;go_simp
  refine wpAnyH_take (i:=7) (v:=.pointer (some ⟨w.heap.size,1,none⟩)) rfl (by kernel_rfl) (by kernel_rfl) (by kernel_rfl) (fun _ _ _ h=>h) (Or.inl ⟨by rfl,?_⟩) hS0 ?_
  .intro w hSw;obtain ⟨q0,q1,q2,q3,q4,q5⟩:=hSw;go_simp
  refine wpAnyH_take (i:=8) (v:=.agg #[.int .i64 la,.int .i64 ln]) rfl (by kernel_rfl) (by kernel_rfl) (by kernel_rfl) (fun _ _ _ h=>h) (Or.inl ⟨by rfl,?_⟩) hS0 ?_
  .intro w hSw;obtain ⟨q0,q1,q2,q3,q4,q5⟩:=hSw;go_simp
  refine wpAnyH_take (i:=9) (v:=.pointer (some ⟨w.heap.size,3,none⟩)) rfl (by kernel_rfl) (by kernel_rfl) (by kernel_rfl) (fun _ _ _ h=>h) (Or.inl ⟨by rfl,?_⟩) hS0 ?_
  .intro w hSw;obtain ⟨q0,q1,q2,q3,q4,q5⟩:=hSw;go_simp
  refine wpAnyH_take (i:=10) (v:=.agg #[.int .i64 ra,.int .i64 rn]) rfl (by kernel_rfl) (by kernel_rfl) (by kernel_rfl) (fun _ _ _ h=>h) (Or.inl ⟨by rfl,?_⟩) hS0 ?_
  .intro w hSw;obtain ⟨q0,q1,q2,q3,q4,q5⟩:=hSw;go_simp
  refine wpAnyH_ready (rs:=[11]) (by kernel_rfl) (by simp) ?_;refine AllReadyH.cons (o:=_) rfl (fun K hK=>?_) AllReadyH.nil
  go_simp
  refine (HL.out _ HB.out.drew).mono ?_;rintro e w1 ⟨rfl,hb1⟩;have hbW1:Below W.heap.size W w1:=(Below.refl W.heap.size W).drew.trans hb1;exact ⟨rfl,rfl,(HB.out.mono (Wp hal)).trans (hbW1.mono (by omega))⟩
def H7:=kB 3 (by simp)
def Og:=my 3 (by simp)
def Jq:=kB 4 (by simp)
def O9:=my 4 (by simp)
def Jl:=kB 5 (by simp)
def Ny:=my 5 (by simp)
def KZ:=kB 6 (by simp)
def NH:=my 6 (by simp)
def Ll:=kB 7 (by simp)
def MS:=my 7 (by simp)
def Kt:=kB 8 (by simp)
def Nf:=my 8 (by simp)
end
section
theorem Lr (la ln ra rn n u:Int) (a:Nat) (vv:Value) (o d:Int) (dv cv f:Value) (L:List Bool) (w:World) (h:cP w a w.heap.size vv o d dv cv f L) (hL:L.length<=1000) :
  Calls Tryz.prog 169 #[.pointer (some ⟨a,0,none⟩),dR 9 la ln ra rn n u] w (gm a vv o d dv cv f (L ++ [bq o n]) w):=by
 obtain ⟨W,hW⟩:∃ W,W=w.alloc (.cells #[.int .i64 9,.int .i64 la,.int .i64 ln,.int .i64 ra,.int .i64 rn,.int .i64 n,.int .i64 u] 61):=⟨_,rfl⟩;have hb0:Below w.heap.size w W:=by rw [hW];exact (Below.refl _ _).alloc (Vh _) _
 have hal:a<w.heap.size:=by obtain ⟨_,_,_,h3,_⟩:=h;exact h3
 have hz:W.heap.size=w.heap.size+1:=by rw [hW];simp
 have c5:=(h.below hb0).cells.2.1;have x0:W.cell? ⟨w.heap.size,5,none⟩=some (.int .i64 n):=by rw [hW];simp
 have KB:=aE (fun (w':World) (hb:Below W.heap.size W w')=>(⟨(hb.cell (p:=⟨a,1,none⟩) (by show a<_;omega)).trans c5,(hb.cell (p:=⟨w.heap.size,5,none⟩) (by show w.heap.size<_;omega)).trans x0⟩ :
  w'.cell? ⟨a,1,none⟩=some (.int .i64 o) /\ w'.cell? ⟨w.heap.size,5,none⟩=some (.int .i64 n)))
 have KP:=aE (fun (w1 w2:World) (hb:Below W.heap.size W w1) (ha:cP w2 a w2.heap.size vv o d dv cv f (L ++ [bq o n])) (hp:AW w.heap.size w1 w2)=>by
  obtain ⟨q0,q1⟩:=KB.out w1 hb;have hs:w.heap.size<w1.heap.size:=by have:=hb.size;omega
  exact (⟨ha.cells.2.1,(hp.cell (Vh _) hs).trans q1⟩ :
   w2.cell? ⟨a,1,none⟩=some (.int .i64 o) /\ w2.cell? ⟨w.heap.size,5,none⟩=some (.int .i64 n)))
 have H:=aE h;have HW:=aE hW;have HB:=aE hb0;clear h hb0 hW
 go_enter Tryz.func169,Tryz.ntmps169
 go_wp2_with fail
 rw [<- HW.out];have hbW:Below W.heap.size W W.drew:=(Below.refl _ _).drew;have hbw:Below w.heap.size w W.drew:=HB.out.drew;have hS0:=KB.out W.drew hbW
 go_region_held3 (fun w'=>w'.cell? ⟨a,1,none⟩=some (.int .i64 o) /\ w'.cell? ⟨w.heap.size,5,none⟩=some (.int .i64 n)) (assumption)
  (first
   | (go_at_call 129;refine (xU _ _ _).mono ?_;rintro e w' ⟨rfl,rfl⟩)
   | (go_at_call 189;(with_reducible refine (jO a w.heap.size vv o d dv cv _ L _ _ (H.out.below hbw) hL).mono ?_);rintro e w2 ⟨rfl,ha,hbl,hsz,hpast⟩;have K2:=KP.out _ _ hbW ha hpast))
 all_goals
  go_wp2_with fail
  go_end0
  exact ⟨rfl,ha,(hbw.mono (Wp hal)).trans hbl,VC hbw.size hsz⟩
theorem Fa (la ln ra rn n u:Int) (a:Nat) (vv:Value) (o d:Int) (dv cv f:Value) (L:List Bool) (w:World) (h:cP w a w.heap.size vv o d dv cv f L) (hL:L.length<=1000) :
  Calls Tryz.prog 169 #[.pointer (some ⟨a,0,none⟩),dR 10 la ln ra rn n u] w (gm a vv o d dv cv f (L ++ [bq d n]) w):=by
 obtain ⟨W,hW⟩:∃ W,W=w.alloc (.cells #[.int .i64 10,.int .i64 la,.int .i64 ln,.int .i64 ra,.int .i64 rn,.int .i64 n,.int .i64 u] 61):=⟨_,rfl⟩;have hb0:Below w.heap.size w W:=by rw [hW];exact (Below.refl _ _).alloc (Vh _) _
 have hal:a<w.heap.size:=by obtain ⟨_,_,_,h3,_⟩:=h;exact h3
 have hz:W.heap.size=w.heap.size+1:=by rw [hW];simp
 have c5:=(h.below hb0).cells.2.2.1;have x0:W.cell? ⟨w.heap.size,5,none⟩=some (.int .i64 n):=by rw [hW];simp
 have KB:=aE (fun (w':World) (hb:Below W.heap.size W w')=>(⟨(hb.cell (p:=⟨a,2,none⟩) (by show a<_;omega)).trans c5,(hb.cell (p:=⟨w.heap.size,5,none⟩) (by show w.heap.size<_;omega)).trans x0⟩ :
  w'.cell? ⟨a,2,none⟩=some (.int .i64 d) /\ w'.cell? ⟨w.heap.size,5,none⟩=some (.int .i64 n)))
 have KP:=aE (fun (w1 w2:World) (hb:Below W.heap.size W w1) (ha:cP w2 a w2.heap.size vv o d dv cv f (L ++ [bq d n])) (hp:AW w.heap.size w1 w2)=>by
  obtain ⟨q0,q1⟩:=KB.out w1 hb;have hs:w.heap.size<w1.heap.size:=by have:=hb.size;omega
  exact (⟨ha.cells.2.2.1,(hp.cell (Vh _) hs).trans q1⟩ :
   w2.cell? ⟨a,2,none⟩=some (.int .i64 d) /\ w2.cell? ⟨w.heap.size,5,none⟩=some (.int .i64 n)))
 have H:=aE h;have HW:=aE hW;have HB:=aE hb0;clear h hb0 hW
 go_enter Tryz.func169,Tryz.ntmps169
 go_wp2_with fail
 rw [<- HW.out];have hbW:Below W.heap.size W W.drew:=(Below.refl _ _).drew;have hbw:Below w.heap.size w W.drew:=HB.out.drew;have hS0:=KB.out W.drew hbW
 go_region_held3 (fun w'=>w'.cell? ⟨a,2,none⟩=some (.int .i64 d) /\ w'.cell? ⟨w.heap.size,5,none⟩=some (.int .i64 n)) (assumption)
  (first
   | (go_at_call 129;refine (xU _ _ _).mono ?_;rintro e w' ⟨rfl,rfl⟩)
   | (go_at_call 189;(with_reducible refine (jO a w.heap.size vv o d dv cv _ L _ _ (H.out.below hbw) hL).mono ?_);rintro e w2 ⟨rfl,ha,hbl,hsz,hpast⟩;have K2:=KP.out _ _ hbW ha hpast))
 all_goals
  go_wp2_with fail
  go_end0
  exact ⟨rfl,ha,(hbw.mono (Wp hal)).trans hbl,VC hbw.size hsz⟩
theorem NU (la ln ra rn n u:Int) (a:Nat) (vv:Value) (o d:Int) (dv cv f:Value) (L:List Bool) (b:Bool) (w:World) (h:cP w a w.heap.size vv o d dv cv f (L ++ [b])) (hL:L.length<=999) :
  Calls Tryz.prog 169 #[.pointer (some ⟨a,0,none⟩),dR 15 la ln ra rn n u] w (gm a vv o d dv cv f (L ++ [!b]) w):=by
 have hb0:Below w.heap.size w (w.alloc (.cells #[.int .i64 15,.int .i64 la,.int .i64 ln,.int .i64 ra,.int .i64 rn,.int .i64 n,.int .i64 u] 61)):=(Below.refl _ _).alloc (Vh _) _;have hal:a<w.heap.size:=by obtain ⟨_,_,_,h3,_⟩:=h;exact h3
 have Hp:=aE (jj a w.heap.size vv o d dv cv f L b _ (h.below hb0) (by omega));have HB:=aE hb0;clear h hb0
 go_enter Tryz.func169,Tryz.ntmps169
 go_wp2_with (first
  | (go_at_call 170;refine Hp.out.mono ?_;rintro e w1 ⟨rfl,ha,hbl,hsz,_⟩)
  | (go_at_call 189;(with_reducible refine (jO a w.heap.size vv o d dv cv _ L _ _ ha (by omega)).mono ?_);rintro e w2 ⟨rfl,ha2,hbl2,hsz2,_⟩))
 go_end0
 have h1:=(HB.out.mono (Wp hal)).trans hbl;exact ⟨rfl,ha2,h1.trans hbl2,VC (VC HB.out.size hsz) hsz2⟩
theorem z9 (la ln ra rn n u:Int) (a:Nat) (vv:Value) (o d:Int) (dv cv f:Value) (w:World) (h:cP w a w.heap.size vv o d dv cv f []) :
  Calls Tryz.prog 169 #[.pointer (some ⟨a,0,none⟩),dR 15 la ln ra rn n u] w fun e w'=>e=.panicked ka /\ Below a w w':=by
 have hb0:Below w.heap.size w (w.alloc (.cells #[.int .i64 15,.int .i64 la,.int .i64 ln,.int .i64 ra,.int .i64 rn,.int .i64 n,.int .i64 u] 61)):=(Below.refl _ _).alloc (Vh _) _;have hal:a<w.heap.size:=by obtain ⟨_,_,_,h3,_⟩:=h;exact h3
 have Hp:=aE (fq a w.heap.size vv o d dv cv f _ (h.below hb0));have HB:=aE hb0;clear h hb0
 go_enter Tryz.func169,Tryz.ntmps169
 go_wp2_with (first
  | (go_at_call 170;refine Hp.out.mono ?_;rintro e w1 ⟨rfl,rfl⟩))
 exact ⟨rfl,rfl,HB.out.mono (Wp hal)⟩
theorem He (la ln ra rn n u:Int) (a:Nat) (vv:Value) (o d:Int) (dv cv f:Value) (L:List Bool) (x y:Bool) (w:World) (h:cP w a w.heap.size vv o d dv cv f ((L ++ [x]) ++ [y])) (hL:L.length<=998) :
  Calls Tryz.prog 169 #[.pointer (some ⟨a,0,none⟩),dR 16 la ln ra rn n u] w (gm a vv o d dv cv f (L ++ [x && y]) w):=by
 obtain ⟨W,hW⟩:∃ W,W=w.alloc (.cells #[.int .i64 16,.int .i64 la,.int .i64 ln,.int .i64 ra,.int .i64 rn,.int .i64 n,.int .i64 u] 61):=⟨_,rfl⟩;have hb0:Below w.heap.size w W:=by rw [hW];exact (Below.refl _ _).alloc (Vh _) _
 have hal:a<w.heap.size:=by obtain ⟨_,_,_,h3,_⟩:=h;exact h3
 have x0:W.cell? ⟨w.heap.size,0,none⟩=some (.int .i64 16):=by rw [hW];simp
 have hz:W.heap.size=w.heap.size+1:=by rw [hW];simp
 have Hp:=aE (jj a w.heap.size vv o d dv cv f (L ++ [x]) y _ (h.below hb0) (by simp;omega));have HB:=aE hb0;have HW:=aE hW;clear h hb0 hW;cases x<;>cases y
 all_goals
  go_enter Tryz.func169,Tryz.ntmps169
  go_wp2_with fail
  rw [<- HW.out];refine Hp.out.mono ?_;rintro e w1 ⟨rfl,ha,hbl,hsz,hp1⟩;have y0:=(hp1.cell (i:=0) (Vh _) (by omega)).trans x0;have hs1:w.heap.size<w1.heap.size:=by omega
  go_wp2_with fail
  refine (jj a w.heap.size vv o d dv cv f L _ _ ha (by omega)).mono ?_;rintro e w2 ⟨rfl,ha2,hbl2,hsz2,hp2⟩;have z0:=(hp2.cell (i:=0) (Vh _) hs1).trans y0;have Ha:=aE ha;clear x0 y0 hp1 hp2 ha
  go_wp2_with fail
  refine (jO a w.heap.size vv o d dv cv f L _ _ ha2 (by omega)).mono ?_;rintro e w3 ⟨rfl,ha3,hbl3,hsz3,hp3⟩
  go_wp2_with fail
  go_end0
  have h1:=((HB.out.mono (Wp hal)).trans hbl).trans hbl2;exact ⟨rfl,ha3,h1.trans hbl3,by omega⟩
theorem uU (la ln ra rn n u:Int) (a:Nat) (vv:Value) (o d:Int) (dv cv f:Value) (L:List Bool) (w:World) (h:cP w a w.heap.size vv o d dv cv f L) (hL:L.length<2) :
  Calls Tryz.prog 169 #[.pointer (some ⟨a,0,none⟩),dR 16 la ln ra rn n u] w fun e w'=>e=.panicked ka /\ Below a w w':=by
 have hb0:Below w.heap.size w (w.alloc (.cells #[.int .i64 16,.int .i64 la,.int .i64 ln,.int .i64 ra,.int .i64 rn,.int .i64 n,.int .i64 u] 61)):=(Below.refl _ _).alloc (Vh _) _;have hal:a<w.heap.size:=by obtain ⟨_,_,_,h3,_⟩:=h;exact h3
 have HB:=aE hb0
 match L,hL with
 | [],_=>
  have Hp:=aE (fq a w.heap.size vv o d dv cv f _ (h.below hb0));clear h hb0
  go_enter Tryz.func169,Tryz.ntmps169
  go_wp2_with (first
   | (go_at_call 170;refine Hp.out.mono ?_;rintro e w1 ⟨rfl,rfl⟩))
  exact ⟨rfl,rfl,HB.out.mono (Wp hal)⟩
 | [y],_=>
  have Hp:=aE (jj a w.heap.size vv o d dv cv f [] y _ (h.below hb0) (by simp));clear h hb0
  go_enter Tryz.func169,Tryz.ntmps169
  go_wp2_with fail
  refine Hp.out.mono ?_;rintro e w1 ⟨rfl,ha,hbl,hsz,hp1⟩
  go_wp2_with fail
  refine (fq a w.heap.size vv o d dv cv f _ ha).mono ?_;rintro e w2 ⟨rfl,rfl⟩;exact ⟨rfl,rfl,(HB.out.mono (Wp hal)).trans hbl⟩
theorem GN (la ln ra rn n u:Int) (a:Nat) (vv:Value) (o d:Int) (dv cv f:Value) (L:List Bool) (x y:Bool) (w:World) (h:cP w a w.heap.size vv o d dv cv f ((L ++ [x]) ++ [y])) (hL:L.length<=998) :
  Calls Tryz.prog 169 #[.pointer (some ⟨a,0,none⟩),dR 17 la ln ra rn n u] w (gm a vv o d dv cv f (L ++ [x || y]) w):=by
 obtain ⟨W,hW⟩:∃ W,W=w.alloc (.cells #[.int .i64 17,.int .i64 la,.int .i64 ln,.int .i64 ra,.int .i64 rn,.int .i64 n,.int .i64 u] 61):=⟨_,rfl⟩;have hb0:Below w.heap.size w W:=by rw [hW];exact (Below.refl _ _).alloc (Vh _) _
 have hal:a<w.heap.size:=by obtain ⟨_,_,_,h3,_⟩:=h;exact h3
 have x0:W.cell? ⟨w.heap.size,0,none⟩=some (.int .i64 17):=by rw [hW];simp
 have hz:W.heap.size=w.heap.size+1:=by rw [hW];simp
 have Hp:=aE (jj a w.heap.size vv o d dv cv f (L ++ [x]) y _ (h.below hb0) (by simp;omega));have HB:=aE hb0;have HW:=aE hW;clear h hb0 hW;cases x<;>cases y
 all_goals
  go_enter Tryz.func169,Tryz.ntmps169
  go_wp2_with fail
  rw [<- HW.out];refine Hp.out.mono ?_;rintro e w1 ⟨rfl,ha,hbl,hsz,hp1⟩;have y0:=(hp1.cell (i:=0) (Vh _) (by omega)).trans x0;have hs1:w.heap.size<w1.heap.size:=by omega
  go_wp2_with fail
  refine (jj a w.heap.size vv o d dv cv f L _ _ ha (by omega)).mono ?_;rintro e w2 ⟨rfl,ha2,hbl2,hsz2,hp2⟩;have z0:=(hp2.cell (i:=0) (Vh _) hs1).trans y0;have Ha:=aE ha;clear x0 y0 hp1 hp2 ha
  go_wp2_with fail
  refine (jO a w.heap.size vv o d dv cv f L _ _ ha2 (by omega)).mono ?_;rintro e w3 ⟨rfl,ha3,hbl3,hsz3,hp3⟩
  go_wp2_with fail
  go_end0
  have h1:=((HB.out.mono (Wp hal)).trans hbl).trans hbl2;exact ⟨rfl,ha3,h1.trans hbl3,by omega⟩
theorem uW (la ln ra rn n u:Int) (a:Nat) (vv:Value) (o d:Int) (dv cv f:Value) (L:List Bool) (w:World) (h:cP w a w.heap.size vv o d dv cv f L) (hL:L.length<2) :
  Calls Tryz.prog 169 #[.pointer (some ⟨a,0,none⟩),dR 17 la ln ra rn n u] w fun e w'=>e=.panicked ka /\ Below a w w':=by
 have hb0:Below w.heap.size w (w.alloc (.cells #[.int .i64 17,.int .i64 la,.int .i64 ln,.int .i64 ra,.int .i64 rn,.int .i64 n,.int .i64 u] 61)):=(Below.refl _ _).alloc (Vh _) _;have hal:a<w.heap.size:=by obtain ⟨_,_,_,h3,_⟩:=h;exact h3
 have HB:=aE hb0
 match L,hL with
 | [],_=>
  have Hp:=aE (fq a w.heap.size vv o d dv cv f _ (h.below hb0));clear h hb0
  go_enter Tryz.func169,Tryz.ntmps169
  go_wp2_with (first
   | (go_at_call 170;refine Hp.out.mono ?_;rintro e w1 ⟨rfl,rfl⟩))
  exact ⟨rfl,rfl,HB.out.mono (Wp hal)⟩
 | [y],_=>
  have Hp:=aE (jj a w.heap.size vv o d dv cv f [] y _ (h.below hb0) (by simp));clear h hb0
  go_enter Tryz.func169,Tryz.ntmps169
  go_wp2_with fail
  refine Hp.out.mono ?_;rintro e w1 ⟨rfl,ha,hbl,hsz,hp1⟩
  go_wp2_with fail
  refine (fq a w.heap.size vv o d dv cv f _ ha).mono ?_;rintro e w2 ⟨rfl,rfl⟩;exact ⟨rfl,rfl,(HB.out.mono (Wp hal)).trans hbl⟩
theorem GW (la ln ra rn n u:Int) (a:Nat) (vv:Value) (o d:Int) (dv cv f:Value) (L:List Bool) (x y:Bool) (w:World) (h:cP w a w.heap.size vv o d dv cv f ((L ++ [x]) ++ [y])) (hL:L.length<=998) :
  Calls Tryz.prog 169 #[.pointer (some ⟨a,0,none⟩),dR 18 la ln ra rn n u] w (gm a vv o d dv cv f (L ++ [!x || y]) w):=by
 obtain ⟨W,hW⟩:∃ W,W=w.alloc (.cells #[.int .i64 18,.int .i64 la,.int .i64 ln,.int .i64 ra,.int .i64 rn,.int .i64 n,.int .i64 u] 61):=⟨_,rfl⟩;have hb0:Below w.heap.size w W:=by rw [hW];exact (Below.refl _ _).alloc (Vh _) _
 have hal:a<w.heap.size:=by obtain ⟨_,_,_,h3,_⟩:=h;exact h3
 have x0:W.cell? ⟨w.heap.size,0,none⟩=some (.int .i64 18):=by rw [hW];simp
 have hz:W.heap.size=w.heap.size+1:=by rw [hW];simp
 have Hp:=aE (jj a w.heap.size vv o d dv cv f (L ++ [x]) y _ (h.below hb0) (by simp;omega));have HB:=aE hb0;have HW:=aE hW;clear h hb0 hW;cases x<;>cases y
 all_goals
  go_enter Tryz.func169,Tryz.ntmps169
  go_wp2_with fail
  rw [<- HW.out];refine Hp.out.mono ?_;rintro e w1 ⟨rfl,ha,hbl,hsz,hp1⟩;have y0:=(hp1.cell (i:=0) (Vh _) (by omega)).trans x0;have hs1:w.heap.size<w1.heap.size:=by omega
  go_wp2_with fail
  refine (jj a w.heap.size vv o d dv cv f L _ _ ha (by omega)).mono ?_;rintro e w2 ⟨rfl,ha2,hbl2,hsz2,hp2⟩;have z0:=(hp2.cell (i:=0) (Vh _) hs1).trans y0;have Ha:=aE ha;clear x0 y0 hp1 hp2 ha
  go_wp2_with fail
  refine (jO a w.heap.size vv o d dv cv f L _ _ ha2 (by omega)).mono ?_;rintro e w3 ⟨rfl,ha3,hbl3,hsz3,hp3⟩
  go_wp2_with fail
  go_end0
  have h1:=((HB.out.mono (Wp hal)).trans hbl).trans hbl2;exact ⟨rfl,ha3,h1.trans hbl3,by omega⟩
theorem uT (la ln ra rn n u:Int) (a:Nat) (vv:Value) (o d:Int) (dv cv f:Value) (L:List Bool) (w:World) (h:cP w a w.heap.size vv o d dv cv f L) (hL:L.length<2) :
  Calls Tryz.prog 169 #[.pointer (some ⟨a,0,none⟩),dR 18 la ln ra rn n u] w fun e w'=>e=.panicked ka /\ Below a w w':=by
 have hb0:Below w.heap.size w (w.alloc (.cells #[.int .i64 18,.int .i64 la,.int .i64 ln,.int .i64 ra,.int .i64 rn,.int .i64 n,.int .i64 u] 61)):=(Below.refl _ _).alloc (Vh _) _;have hal:a<w.heap.size:=by obtain ⟨_,_,_,h3,_⟩:=h;exact h3
 have HB:=aE hb0
 match L,hL with
 | [],_=>
  have Hp:=aE (fq a w.heap.size vv o d dv cv f _ (h.below hb0));clear h hb0
  go_enter Tryz.func169,Tryz.ntmps169
  go_wp2_with (first
   | (go_at_call 170;refine Hp.out.mono ?_;rintro e w1 ⟨rfl,rfl⟩))
  exact ⟨rfl,rfl,HB.out.mono (Wp hal)⟩
 | [y],_=>
  have Hp:=aE (jj a w.heap.size vv o d dv cv f [] y _ (h.below hb0) (by simp));clear h hb0
  go_enter Tryz.func169,Tryz.ntmps169
  go_wp2_with fail
  refine Hp.out.mono ?_;rintro e w1 ⟨rfl,ha,hbl,hsz,hp1⟩
  go_wp2_with fail
  refine (fq a w.heap.size vv o d dv cv f _ ha).mono ?_;rintro e w2 ⟨rfl,rfl⟩;exact ⟨rfl,rfl,(HB.out.mono (Wp hal)).trans hbl⟩
theorem OL (op la ln ra rn n u:Int) (a:Nat) (w:World) (hal:a<=w.heap.size) (h1:(op == 1)=false) (h2:(op == 2)=false) (h3:(op == 3)=false) (h4:(op == 4)=false) (h5:(op == 5)=false) (h6:(op == 6)=false) (h7:(op == 7)=false) (h8:(op == 8)=false)
  (h9:(op == 9)=false) (h10:(op == 10)=false) (h15:(op == 15)=false) (h16:(op == 16)=false) (h17:(op == 17)=false) (h18:(op == 18)=false) :
  Calls Tryz.prog 169 #[.pointer (some ⟨a,0,none⟩),dR op la ln ra rn n u] w fun e w'=>e=.panicked ka /\ Below a w w':=by
 go_enter Tryz.func169,Tryz.ntmps169
 go_wp2_with fail
 exact ⟨rfl,rfl,(Below.refl _ _).alloc hal _⟩
end
section
def kJ (k:Nat) (caps:Array Value) (cm:ah -> Option Int) (x:ah) (w0:World):Prop:=∀ w',Below w0.heap.size w0 w' ->
 match cm x with
 | some c=>Calls Tryz.prog k (#[.agg #[.int .i64 x.la,.int .i64 x.ln],.agg #[.int .i64 x.ra,.int .i64 x.rn]] ++ caps) w' fun e w''=>e=.returned (.int .i64 c) /\ Below w'.heap.size w' w''
 | none=>Calls Tryz.prog k (#[.agg #[.int .i64 x.la,.int .i64 x.ln],.agg #[.int .i64 x.ra,.int .i64 x.rn]] ++ caps) w' fun e w''=>e=.panicked ka /\ Below w'.heap.size w' w''
theorem kJ.some_ {k:Nat} {caps:Array Value} {cm:ah -> Option Int} {x:ah} {w0 w:World} (h:kJ k caps cm x w0) (hb:Below w0.heap.size w0 w) {c:Int} (hc:cm x=some c) :
  Hid (∀ w',Below w.heap.size w w' -> Calls Tryz.prog k (#[.agg #[.int .i64 x.la,.int .i64 x.ln],.agg #[.int .i64 x.ra,.int .i64 x.rn]] ++ caps) w' fun e w''=>e=.returned (.int .i64 c) /\ Below w'.heap.size w' w''):=by
 refine aE fun w' hw=>?_;have:=h w' (hb.trans (hw.mono hb.size));rw [hc] at this;exact this
theorem kJ.none_ {k:Nat} {caps:Array Value} {cm:ah -> Option Int} {x:ah} {w0 w:World} (h:kJ k caps cm x w0) (hb:Below w0.heap.size w0 w) (hc:cm x=none) :
  Hid (∀ w',Below w.heap.size w w' -> Calls Tryz.prog k (#[.agg #[.int .i64 x.la,.int .i64 x.ln],.agg #[.int .i64 x.ra,.int .i64 x.rn]] ++ caps) w' fun e w''=>e=.panicked ka /\ Below w'.heap.size w' w''):=by
 refine aE fun w' hw=>?_;have:=h w' (hb.trans (hw.mono hb.size));rw [hc] at this;exact this
theorem pk {L r:List Bool} {b:Bool} (h:L.reverse=b :: r):L=r.reverse ++ [b]:=by
 have:=congrArg List.reverse h;simpa using this
theorem GK (x:ah) (cm:ah -> Option Int) (a k:Nat) (caps:Array Value) (vv:Value) (o d:Int) (dv cv:Value) (L:List Bool) (r':List Bool) (w w0:World) (h:cP w a w.heap.size vv o d dv cv (.func (.func k) #[] caps) L) (hL:L.length<=900)
  (hcf:∀ (args:Array Value) (w:World),(callFunc k args).run Tryz.prog w=.ok (.enter k args) w) (hl:kJ k caps cm x w0) (hb:Below w0.heap.size w0 w) (hr:du cm o d x L.reverse=some r') :
  Calls Tryz.prog 169 #[.pointer (some ⟨a,0,none⟩),dR x.op x.la x.ln x.ra x.rn x.n x.u] w (gm a vv o d dv cv (.func (.func k) #[] caps) r'.reverse w):=by
 obtain ⟨op,la,ln,ra,rn,n,u⟩:=x;unfold du at hr;simp only at hr ⊢;split at hr
 .cases hr;have:=TB op la ln ra rn n u a vv o d dv cv _ L w h (by omega) (by assumption);simpa using this
 split at hr
 .rename_i h1;split at hr
  .rename_i c hc;cases hr;have HL:=hl.some_ hb hc;have e:op=3 \/ op=4 \/ op=5 \/ op=6 \/ op=7 \/ op=8:=(by omega);rw [List.reverse_cons,Xt];rcases e with rfl|rfl|rfl|rfl|rfl|rfl
   .exact H7 la ln ra rn n u c a k caps vv o d dv cv L w h (by omega) hcf HL
   .exact Jq la ln ra rn n u c a k caps vv o d dv cv L w h (by omega) hcf HL
   .exact Jl la ln ra rn n u c a k caps vv o d dv cv L w h (by omega) hcf HL
   .exact KZ la ln ra rn n u c a k caps vv o d dv cv L w h (by omega) hcf HL
   .exact Ll la ln ra rn n u c a k caps vv o d dv cv L w h (by omega) hcf HL
   .exact Kt la ln ra rn n u c a k caps vv o d dv cv L w h (by omega) hcf HL
  .cases hr
 split at hr
 .rename_i h9;subst h9;cases hr;rw [List.reverse_cons,Xt];exact Lr la ln ra rn n u a vv o d dv cv _ L w h (by omega)
 split at hr
 .rename_i h10;subst h10;cases hr;rw [List.reverse_cons,Xt];exact Fa la ln ra rn n u a vv o d dv cv _ L w h (by omega)
 split at hr
 .rename_i h15;subst h15;split at hr
  .rename_i b r e;cases hr;obtain rfl:=pk e;simp at hL;rw [List.reverse_cons];exact NU la ln ra rn n u a vv o d dv cv _ _ b w h (by simp;omega)
  .cases hr
 split at hr
 .rename_i h16;split at hr
  .rename_i b a' r e;cases hr
   have e2:L=(r.reverse ++ [a']) ++ [b]:=by
    have:=pk e;simpa using this
   subst e2;simp at hL;have e:op=16 \/ op=17 \/ op=18:=(by omega);rcases e with rfl|rfl|rfl
   .have:=He la ln ra rn n u a vv o d dv cv _ r.reverse a' b w h (by simp;omega);simpa using this
   .have:=GN la ln ra rn n u a vv o d dv cv _ r.reverse a' b w h (by simp;omega);simpa using this
   .have:=GW la ln ra rn n u a vv o d dv cv _ r.reverse a' b w h (by simp;omega);simpa using this
  .cases hr
 .cases hr
theorem Gj (x:ah) (cm:ah -> Option Int) (a k:Nat) (caps:Array Value) (vv:Value) (o d:Int) (dv cv:Value) (L:List Bool) (w w0:World) (h:cP w a w.heap.size vv o d dv cv (.func (.func k) #[] caps) L) (hL:L.length<=900)
  (hcf:∀ (args:Array Value) (w:World),(callFunc k args).run Tryz.prog w=.ok (.enter k args) w) (hl:kJ k caps cm x w0) (hb:Below w0.heap.size w0 w) (hr:du cm o d x L.reverse=none) :
  Calls Tryz.prog 169 #[.pointer (some ⟨a,0,none⟩),dR x.op x.la x.ln x.ra x.rn x.n x.u] w fun e w'=>e=.panicked ka /\ Below a w w':=by
 have hal:a<w.heap.size:=by obtain ⟨_,_,_,h3,_⟩:=h;exact h3
 obtain ⟨op,la,ln,ra,rn,n,u⟩:=x;unfold du at hr;simp only at hr ⊢;split at hr
 .cases hr
 rename_i h12;split at hr
 .rename_i h1;split at hr
  .cases hr
  .rename_i hc;have HL:=hl.none_ hb hc;have e:op=3 \/ op=4 \/ op=5 \/ op=6 \/ op=7 \/ op=8:=(by omega);rcases e with rfl|rfl|rfl|rfl|rfl|rfl
   .exact Og la ln ra rn n u a k caps vv o d dv cv L w h (by omega) hcf HL
   .exact O9 la ln ra rn n u a k caps vv o d dv cv L w h (by omega) hcf HL
   .exact Ny la ln ra rn n u a k caps vv o d dv cv L w h (by omega) hcf HL
   .exact NH la ln ra rn n u a k caps vv o d dv cv L w h (by omega) hcf HL
   .exact MS la ln ra rn n u a k caps vv o d dv cv L w h (by omega) hcf HL
   .exact Nf la ln ra rn n u a k caps vv o d dv cv L w h (by omega) hcf HL
 rename_i h38;split at hr
 .cases hr
 rename_i h9;split at hr
 .cases hr
 rename_i h10;split at hr
 .rename_i h15;subst h15;split at hr
  .cases hr
  .rename_i e;have e:L=[]:=(by simpa using e);subst e;exact z9 la ln ra rn n u a vv o d dv cv _ w h
 rename_i h15;split at hr
 .rename_i h16
  have hl2:L.length<2:=by
   rw [<- List.length_reverse]
   match hh:L.reverse with
   | []=>simp
   | [_]=>simp
   | _ :: _ :: _=>rw [hh] at hr;cases hr
  have e:op=16 \/ op=17 \/ op=18:=by omega
  rcases e with rfl|rfl|rfl
  .exact uU la ln ra rn n u a vv o d dv cv _ L w h hl2
  .exact uW la ln ra rn n u a vv o d dv cv _ L w h hl2
  .exact uT la ln ra rn n u a vv o d dv cv _ L w h hl2
 .rename_i h16;have ne:∀ k:Int,op ≠ k -> (op == k)=false:=fun k h=>VP.2 h;exact OL op la ln ra rn n u a w (Wp hal) (ne _ (by omega)) (ne _ (by omega)) (ne _ (by omega)) (ne _ (by omega)) (ne _ (by omega)) (ne _ (by omega)) (ne _ (by omega)) (ne _ (by omega)) (ne _ (by omega)) (ne _ (by omega)) (ne _ (by omega)) (ne _ (by omega)) (ne _ (by omega)) (ne _ (by omega))
end
section
theorem BN (p q:Addr) (w:World):Calls Tryz.prog 167 #[.pointer (some p),.pointer (some q),.nilIface] w fun e w'=>e=.returned (.tuple #[]) /\ w=w':=by
 go_enter Tryz.func167,Tryz.ntmps167
 go_wp2
 refine bodyPost_ret (results_none rfl _ _ _) rfl ?_;exact ⟨rfl,rfl⟩
theorem CD (w:World):(Instr.typeAssert (.iface 258 (.agg #[])) 20 258 true).run Tryz.prog w=.ok (.tuple #[.agg #[],.bool true]) w:=by kernel_rfl
theorem Ua (w:World):(binOp BinOp.eql 20 (.iface 258 (.agg #[])) .nilIface).run Tryz.prog w=.ok (.bool false) w:=by kernel_rfl
theorem Ay (p q:Nat) (x:Bool) (y:Int) (w:World) (hp:jX w p 4 #[.bool x]) (hq:jX w q 44 #[.int .i64 y]) (hpq:p ≠ q) {B:Nat} (hBp:B<=p) (hBq:B<=q):Calls Tryz.prog 167 #[.pointer (some ⟨p,0,none⟩),.pointer (some ⟨q,0,none⟩),.iface 258 (.agg #[])] w fun e w'=>e=.returned (.tuple #[]) /\ jX w' p 4 #[.bool false] /\ jX w' q 44 #[.int .i64 17] /\ Below B w w':=by
 have hta:=CD;have heq:=Ua;have c0:=hp.cell 0;have f0:=hp.frozen 0;have d0:=hq.cell 0;have g0:=hq.frozen 0;simp at c0 d0;have hpl:=hp.lt;have hql:=hq.lt;have HP:=aE hp;have HQ:=aE hq;clear hp hq
 go_enter Tryz.func167,Tryz.ntmps167
 go_wp2
 go_end0
 refine ⟨rfl,?_,?_,(((Below.refl B w).setCell hBp _).setCell hBq _).alloc (by simp;omega) _⟩
 .have h1:=HP.out.set_ 0 (.bool false);have h2:=(h1.far (p:=⟨q,0,none⟩) (by simpa using hpq) (.int .i64 17)).alloc (.cells #[] 258);simpa using h2
 .have h1:=HQ.out.far (p:=⟨p,0,none⟩) (by simpa using Ne.symm hpq) (.bool false);have h2:=(h1.set_ 0 (.int .i64 17)).alloc (.cells #[] 258);simpa using h2
theorem sN (p q:Addr) (w:World) :
  CallsD Tryz.prog 166 #[.pointer (some p),.pointer (some q)] .returning w fun e u' w'=>e=.returned (.tuple #[]) /\ u'=.returning /\ w=w':=by
 refine callsD_of_wpS Tryz.func166 rfl fun c₀ cs hu=>?_;apply wpS_region;simp [wpOpsS,go_sem,recoverD,hu,Tryz.ntmps166,Exit.thenS];refine (BN p q w).mono ?_;rintro e w' ⟨rfl,rfl⟩;cases c₀;simp_all [bodyPostS,results,Tryz.results166]
theorem tg (p q:Nat) (x:Bool) (y:Int) (w:World) (hp:jX w p 4 #[.bool x]) (hq:jX w q 44 #[.int .i64 y]) (hpq:p ≠ q) {B:Nat} (hBp:B<=p) (hBq:B<=q) :
  CallsD Tryz.prog 166 #[.pointer (some ⟨p,0,none⟩),.pointer (some ⟨q,0,none⟩)] (.panicking ka) w fun e u' w'=>e=.returned (.tuple #[]) /\ u'=.panicking [{ v:=.iface 258 (.agg #[]),recovered:=true }] /\ (jX w' p 4 #[.bool false] /\ jX w' q 44 #[.int .i64 17] /\ Below B w w'):=by
 have H:=aE (Ay p q x y w hp hq hpq hBp hBq);clear hp hq;refine callsD_of_wpS Tryz.func166 rfl fun c₀ cs hu=>?_;apply wpS_region;simp [wpOpsS,go_sem,recoverD,hu,Tryz.ntmps166,Exit.thenS,ka];refine H.out.mono ?_;rintro e w' ⟨rfl,h1,h2,h3⟩;refine ⟨rfl,_,rfl,.tuple #[],?_,rfl,rfl,h1,h2,h3⟩;simp [results,Tryz.results166,go_sem]
end
section
theorem uc (k:Nat) (caps:Array Value) (w:World):(binOp BinOp.eql 210 (.func (.func k) #[] caps) .nilFunc).run Tryz.prog w=.ok (.bool false) w:=by kernel_rfl
def W0 (w:World) (vv:Value) (o d:Int) (dv cv:Value):World:=((w.alloc (.cells #[vv,.int .i64 o,.int .i64 d,dv,cv] 132)).alloc (.cells #[.bool false] 4)).alloc (.cells #[.int .i64 0] 44)
theorem zn (w:World) (vv:Value) (o d:Int) (dv cv:Value):(W0 w vv o d dv cv).heap.size=w.heap.size+3 /\ Below w.heap.size w (W0 w vv o d dv cv) /\ jX (W0 w vv o d dv cv) w.heap.size 132 #[vv,.int .i64 o,.int .i64 d,dv,cv] /\
  jX (W0 w vv o d dv cv) (w.heap.size+1) 4 #[.bool false] /\ jX (W0 w vv o d dv cv) (w.heap.size+1+1) 44 #[.int .i64 0]:=by
 unfold W0;refine ⟨by simp,(((Below.refl _ _).alloc (Vh _) _).alloc (by simp) _).alloc (by simp;omega) _,(((jX.new w _ _).alloc _).alloc _),?_,?_⟩
 .have:=(jX.new (w.alloc (.cells #[vv,.int .i64 o,.int .i64 d,dv,cv] 132)) 4 #[.bool false]).alloc (.cells #[.int .i64 0] 44);simpa using this
 .have:=jX.new ((w.alloc (.cells #[vv,.int .i64 o,.int .i64 d,dv,cv] 132)).alloc (.cells #[.bool false] 4)) 44 #[.int .i64 0];simpa using this
theorem D4 (x:ah) (h:x.ok):(eU x).ok:=by
 refine ⟨h.1,?_,?_,?_,?_,?_,?_,?_,?_⟩<;>first|exact ⟨by simp [eU],by simp [eU]⟩|exact Vd _
theorem yH {w:World} {S:Nat -> Prop} {v:Value} {l:List ah} (h:(aJ fD).one w S v l):∀ x ∈ l,x.ok:=by
 intro x hx;obtain ⟨i,hi,rfl⟩:=VD hx;obtain ⟨A,c,rfl,_,_⟩:=dk h;obtain ⟨b,o,hv,_,_⟩:=dJ h (by omega);subst hv;exact (tv h hi).2
def SN:Option (List Bool) -> Option Bool
 | some (b :: _)=>some b
 | _=>none
theorem Nt (x:Option (List Bool)):(match x with | some (b :: _)=>some b | _=>none)=SN x:=by
 match x with
 | none=>rfl
 | some []=>rfl
 | some (_ :: _)=>rfl
theorem re (cm:ah -> Option Int) (o d:Int) (a b:List ah):∀ r,de cm o d (a ++ b) r=(de cm o d a r).bind (de cm o d b):=by
 induction a with
 | nil=>intro r;rfl
 | cons x a ih=>intro r;rw [Ww,de,de];cases du cm o d x r<;>simp [ih]
theorem G6 (cm:ah -> Option Int) (o d:Int) (a:List ah) (x:ah) (r:List Bool):de cm o d (a ++ [x]) r=(de cm o d a r).bind (du cm o d x):=by
 rw [re]
 cases de cm o d a r with
 | none=>rfl
 | some r'=>simp only [Wm,de];cases du cm o d x r'<;>rfl
theorem FD {cm:ah -> Option Int} {o d:Int} {x:ah} {r r':List Bool} (h:du cm o d x r=some r'):r'.length<=r.length+1:=by
 unfold du at h;split at h
 .cases h;simp
 split at h
 .split at h
  .cases h;simp
  .cases h
 split at h
 .cases h;simp
 split at h
 .cases h;simp
 split at h
 .split at h
  .cases h;simp
  .cases h
 split at h
 .split at h
  .cases h;simp
  .cases h
 .cases h
theorem cP.up {w:World} {a H H':Nat} {vv:Value} {o d:Int} {dv cv f:Value} {L:List Bool} (h:cP w a H vv o d dv cv f L) (hh:H<=H'):cP w a H' vv o d dv cv f L:=by
 obtain ⟨rv,h1,h2,h3,h4⟩:=h;exact ⟨rv,h1,h2,by omega,fun g hg=>by have:=h4 g hg;omega⟩
def qo (R:Option Bool) (w:World) (e:Ending) (w':World):Prop:=e=.returned (.tuple #[.bool (ic R),.int .i64 (pX R)]) /\ Below w.heap.size w w'
theorem EN (l:List ah) (lv:Value) (S:Nat -> Prop) (k:Nat) (caps:Array Value) (vv:Value) (o d:Int) (dv cv:Value) (w:World) (h:(aJ fD).one w S lv l) (hS:∀ b,S b -> b<w.heap.size) (hl:l.length<=900) (hbad:bf (l.map ah.op) ≠ 0) :
  Calls Tryz.prog 134 #[lv,.func (.func k) #[] caps,Ly vv o d dv cv] w (qo none w):=by
 have hmf:∀ (fn:Fn) (first cap:Array Value) (w:World),(Instr.makeFunc fn first cap).run Tryz.prog w=.ok (.func fn first cap) w:=fun _ _ _ _=>rfl;have Hsl:=aE h;have HS:=aE hS;obtain ⟨E,hE⟩:∃ E,E=bf (l.map ah.op):=⟨_,rfl⟩;have hne:(E != 0)=true:=by rw [hE];simpa using hbad
 have HE:=aE hE;clear h hS hbad hE;have hnil:=uc k caps;obtain ⟨hz,hb0,hB0,hB1,hB2⟩:=zn w vv o d dv cv;obtain ⟨X,hX⟩:∃ X,X=W0 w vv o d dv cv:=⟨_,rfl⟩;rw [<- hX] at hz hb0 hB0 hB1 hB2;unfold W0 at hX;have HX:=aE hX;have H0:=aE hb0;have HB1:=aE hB1;have HB2:=aE hB2;clear hX hb0 hB0 hB1 hB2
 go_enter_defers Tryz.func134,Tryz.ntmps134
 go_wp2_with fail
 rw [<- HX.out];refine (vc l lv S X (fo Hsl.out H0.out HS.out) (fun b hb=>Vn (HS.out b hb) H0.out.size) (by omega)).mono ?_;rintro e w1 ⟨u,rfl,hown,hb1⟩
 have hsh:=sC (r:=sK) fx.cells (l:=l.map eU) (fun x hx=>by
  obtain ⟨y,hy,rfl⟩:=Vx.1 hx;obtain ⟨i,hi,rfl⟩:=VD hy;exact ⟨rfl,D4 _ (yH Hsl.out _ (Vg hi))⟩) hown (by decide)
 have Hsh:=aE hsh;clear hown hsh
 go_wp2_with fail
 refine (pT (l.map eU) u _ w1 Hsh.out (fun b hb=>hb.2)).mono ?_;rintro e w2 ⟨rfl,hb2⟩;rw [pC,<- HE.out];have hX2:Below X.heap.size X w2:=hb1.trans (hb2.mono hb1.size);have B1:=HB1.out.below hX2 (by omega);have B2:=HB2.out.below hX2 (by omega);have c1:=B1.cell 0;have c2:=B2.cell 0;have f1:=B1.frozen 0;have f2:=B2.frozen 0;simp at c1 c2;have D1:=(B1.set_ 0 (.bool false)).far (p:=⟨w.heap.size+1+1,0,none⟩) (by simp) (.int .i64 17);have D2:=(B2.far (p:=⟨w.heap.size+1,0,none⟩) (by simp) (.bool false)).set_ 0 (.int .i64 17);have d1:=D1.cell 0;have d2:=D2.cell 0;simp at d1 d2;have HX2:=aE hX2;clear hX2 hb1 hb2 B1 B2 D1 D2
 go_wp2_with fail
 refine leaves_cons (f:=166) (args:=#[.pointer (some ⟨w.heap.size+1,0,none⟩),.pointer (some ⟨w.heap.size+1+1,0,none⟩)]) (by simp) (by simp [go_sem]) ?_;refine (sN ⟨w.heap.size+1,0,none⟩ ⟨w.heap.size+1+1,0,none⟩ _).mono ?_;rintro e u' w'' ⟨rfl,rfl,rfl⟩;simp [Leaves,settle,results,Tryz.results134,go_sem,d1,d2];exact ⟨rfl,((H0.out.trans (HX2.out.mono H0.out.size)).setCell (by show _<=w.heap.size+1;omega) _).setCell (by show _<=w.heap.size+1+1;omega) _⟩
theorem JP (l:List ah) (lv:Value) (S:Nat -> Prop) (k:Nat) (caps:Array Value) (vv:Value) (o d:Int) (dv cv:Value) (w:World) (h:(aJ fD).one w S lv l) (hS:∀ b,S b -> b<w.heap.size) (hl:l.length<=900) (hbad:bf (l.map ah.op)=0)
  (hcf:∀ (args:Array Value) (w:World),(callFunc k args).run Tryz.prog w=.ok (.enter k args) w) (cm:ah -> Option Int) (HL:Hid (∀ x ∈ l,kJ k caps cm x w)) :
  Calls Tryz.prog 134 #[lv,.func (.func k) #[] caps,Ly vv o d dv cv] w (qo (fN cm o d l) w):=by
 have hmf:∀ (fn:Fn) (first cap:Array Value) (w:World),(Instr.makeFunc fn first cap).run Tryz.prog w=.ok (.func fn first cap) w:=fun _ _ _ _=>rfl;have Hsl:=aE h;have HS:=aE hS;obtain ⟨R,hR⟩:∃ R,R=fN cm o d l:=⟨_,rfl⟩;rw [<- hR];have hRR:R=SN (de cm o d l []):=by rw [hR];unfold fN;rw [Vj (by simpa using hbad)];exact Nt _
 have HR:=aE hRR;clear hR hRR;obtain ⟨E,hE⟩:∃ E,E=bf (l.map ah.op):=⟨_,rfl⟩;have hne:(E != 0)=false:=by rw [hE];simpa using hbad
 have HE:=aE hE;clear h hS hbad hE;have hnil:=uc k caps;obtain ⟨hz,hb0,hB0,hB1,hB2⟩:=zn w vv o d dv cv;obtain ⟨X,hX⟩:∃ X,X=W0 w vv o d dv cv:=⟨_,rfl⟩;rw [<- hX] at hz hb0 hB0 hB1 hB2;unfold W0 at hX;have HX:=aE hX;have H0:=aE hb0;have HB0:=aE hB0;have HB1:=aE hB1;have HB2:=aE hB2;clear hX hb0 hB0 hB1 hB2
 go_enter_defers Tryz.func134,Tryz.ntmps134
 go_wp2_with fail
 rw [<- HX.out];refine (vc l lv S X (fo Hsl.out H0.out HS.out) (fun b hb=>Vn (HS.out b hb) H0.out.size) (by omega)).mono ?_;rintro e w1 ⟨u,rfl,hown,hb1⟩
 have hsh:=sC (r:=sK) fx.cells (l:=l.map eU) (fun x hx=>by
  obtain ⟨y,hy,rfl⟩:=Vx.1 hx;obtain ⟨i,hi,rfl⟩:=VD hy;exact ⟨rfl,D4 _ (yH Hsl.out _ (Vg hi))⟩) hown (by decide)
 have Hsh:=aE hsh;clear hown hsh
 go_wp2_with fail
 refine (pT (l.map eU) u _ w1 Hsh.out (fun b hb=>hb.2)).mono ?_;rintro e w2 ⟨rfl,hb2⟩;rw [pC,<- HE.out];have hX2:Below X.heap.size X w2:=hb1.trans (hb2.mono hb1.size);have B1:=HB1.out.below hX2 (by omega);have B2:=HB2.out.below hX2 (by omega);have B0:=HB0.out.below hX2 (by omega);have s0:=B0.cell 0;have s1:=B0.cell 1;have s2:=B0.cell 2;have s3:=B0.cell 3;have s4:=B0.cell 4;simp at s0 s1 s2 s3 s4;obtain ⟨Y,hY⟩:∃ Y,Y=w2.alloc (.cells #[vv,.int .i64 o,.int .i64 d,dv,cv,.func (.func k) #[] caps,.slice none 0 0] 244):=⟨_,rfl⟩;have hX2s:=hX2.size;have hY1:Below w.heap.size w Y:=by rw [hY];exact (H0.out.trans (hX2.mono (by omega))).alloc (by omega) _
 have hY2:cP Y w2.heap.size Y.heap.size vv o d dv cv (.func (.func k) #[] caps) []:=by
  rw [hY];exact ⟨_,jX.new _ _ _,World.ownsRow_nil _ _ _ _,by simp,fun g hg=>by simp [Value.ownBlock] at hg⟩
 have B1':=B1.alloc (.cells #[vv,.int .i64 o,.int .i64 d,dv,cv,.func (.func k) #[] caps,.slice none 0 0] 244);have B2':=B2.alloc (.cells #[vv,.int .i64 o,.int .i64 d,dv,cv,.func (.func k) #[] caps,.slice none 0 0] 244);rw [<- hY] at B1' B2';have hYz:Y.heap.size=w2.heap.size+1:=by rw [hY];simp
 have HY:=aE hY;have HY1:=aE hY1;have HY2:=aE hY2;have HB1Y:=aE B1';have HB2Y:=aE B2';obtain ⟨A,c,rfl,hc,hc2⟩:=dk Hsl.out;clear hX2 hb1 hb2 B1 B2 B0 hY hY1 hY2 B1' B2' HB0 HB1 HB2
 go_wp2_with fail
 rw [<- HY.out]
 go_loopw [26] (fun iv wr=>∃ (k':Nat) (L:List Bool),k'<=l.length /\ iv=.int .i64 (k':Int) /\ de cm o d (l.take k') []=some L.reverse /\ L.length<=k' /\ cP wr w2.heap.size wr.heap.size vv o d dv cv (.func (.func k) #[] caps) L /\ Below w2.heap.size Y wr /\ Y.heap.size<=wr.heap.size)
  (fun iv wr=>l.length - (intOf iv).toNat)
 case atStart=>exact ⟨0,[],Vd _,rfl,rfl,Vh _,HY2.out,Below.refl _ _,Vh _⟩
 case round=>
  obtain ⟨i,L,hi,rfl,hrun,hLi,hask,hbl,hysz⟩:=hrel;have hbw:Below w.heap.size w wr:=HY1.out.trans (hbl.mono (by omega));have Hrun:=aE hrun;have Hask:=aE hask;clear hrun hask;by_cases hlt:i<l.length
  .have hsl:=fo Hsl.out hbw HS.out;obtain ⟨b,ob,hv,_,_⟩:=dJ hsl (by omega);subst hv;obtain ⟨hcs,hok⟩:=tv hsl hlt;have hLess:=HL.out l[i] (Vg hlt)
   have htk:de cm o d (l.take (i+1)) []=du cm o d l[i] L.reverse:=by
    rw [Vi hlt,G6,Hrun.out];rfl
   have hall:de cm o d l []=(du cm o d l[i] L.reverse).bind (de cm o d (l.drop (i+1))):=by
    rw [<- htk,<- re,WY]
   have Htk:=aE htk;have Hall:=aE hall;have HLess:=aE hLess;have c0:=hcs 0 _ rfl;have c1:=hcs 1 _ rfl;have c2:=hcs 2 _ rfl;have c3:=hcs 3 _ rfl;have c4:=hcs 4 _ rfl;have c5:=hcs 5 _ rfl;have c6:=hcs 6 _ rfl;clear htk hall hLess hok hcs hsl;generalize l[i]=x at *;obtain ⟨xop,xla,xln,xra,xrn,xn,xu⟩:=x;simp only [XE] at c0 c1 c2 c3 c4 c5 c6;have hbx:=hbw.alloc (by have:=hbw.size;omega) (.cells #[.int .i64 xop,.int .i64 xla,.int .i64 xln,.int .i64 xra,.int .i64 xrn,.int .i64 xn,.int .i64 xu] 61);have hax:=(Hask.out.below ((Below.refl wr.heap.size wr).alloc (Vh _) (.cells #[.int .i64 xop,.int .i64 xla,.int .i64 xln,.int .i64 xra,.int .i64 xrn,.int .i64 xn,.int .i64 xu] 61))).up (H':=(wr.alloc (.cells #[.int .i64 xop,.int .i64 xla,.int .i64 xln,.int .i64 xra,.int .i64 xrn,.int .i64 xn,.int .i64 xu] 61)).heap.size) (by simp)
   cases hst:du cm o d ⟨xop,xla,xln,xra,xrn,xn,xu⟩ L.reverse with
   | some r'=>
    have hC:=aE (GK ⟨xop,xla,xln,xra,xrn,xn,xu⟩ cm w2.heap.size k caps vv o d dv cv L r' _ w hax (by omega) hcf HLess.out hbx hst);have Hst:=aE hst;clear hst hax hbx
    go_wp2_with fail
    refine hC.out.mono ?_;rintro e w3 ⟨rfl,ha3,hb3,hs3⟩;have hlen:=FD Hst.out;rw [List.length_reverse] at hlen;have Hb3:=aE hb3;have hs4:wr.heap.size+1<=w3.heap.size:=(by simpa using hs3);clear hb3 hs3
    go_wp2_with fail
    go_roundw
    case rel=>exact ⟨i+1,r'.reverse,by omega,by go_num,by rw [Htk.out,Hst.out,Xt],by rw [List.length_reverse];omega,ha3,(hbl.alloc (by omega) _).trans Hb3.out,by omega⟩
    case measure=>simp [intOf];omega
   | none=>
    have hC:=aE (Gj ⟨xop,xla,xln,xra,xrn,xn,xu⟩ cm w2.heap.size k caps vv o d dv cv L _ w hax (by omega) hcf HLess.out hbx hst);have hRn:R=none:=by rw [HR.out,Hall.out,hst];rfl
    have HRn:=aE hRn;clear hst hax hbx hRn
    go_wp2_with fail
    refine hC.out.mono ?_;rintro e w3 ⟨rfl,hb3⟩;have hbY3:Below w2.heap.size Y w3:=(hbl.alloc (by omega) _).trans hb3;have hD:=aE (tg (w.heap.size+1) (w.heap.size+1+1) false 0 w3 (HB1Y.out.below hbY3 (by omega)) (HB2Y.out.below hbY3 (by omega)) (by omega) (B:=w.heap.size) (by omega) (by omega));refine leaves_cons (f:=166) (args:=#[.pointer (some ⟨w.heap.size+1,0,none⟩),.pointer (some ⟨w.heap.size+1+1,0,none⟩)]) (by simp) (by simp [go_sem]) ?_;refine hD.out.mono ?_;rintro e u' w'' ⟨rfl,rfl,e1,e2,e3⟩;have d1:=e1.cell 0;have d2:=e2.cell 0;simp at d1 d2;simp [Leaves,settle,results,Tryz.results134,go_sem,d1,d2];exact ⟨by rw [HRn.out];rfl,(HY1.out.trans (hbY3.mono (by omega))).trans e3⟩
  .obtain rfl:i=l.length:=by omega
   have hfull:=Hrun.out;rw [Vq] at hfull;rcases iC L with rfl|⟨q,b,rfl⟩
   .have hRn:R=none:=by rw [HR.out,hfull];rfl
    have HRn:=aE hRn;have hC:=aE (fq w2.heap.size wr.heap.size vv o d dv cv _ wr Hask.out);clear hRn hfull
    go_wp2_with fail
    refine hC.out.mono ?_;rintro e w3 ⟨rfl,rfl⟩;have hD:=aE (tg (w.heap.size+1) (w.heap.size+1+1) false 0 wr (HB1Y.out.below hbl (by omega)) (HB2Y.out.below hbl (by omega)) (by omega) (B:=w.heap.size) (by omega) (by omega));refine leaves_cons (f:=166) (args:=#[.pointer (some ⟨w.heap.size+1,0,none⟩),.pointer (some ⟨w.heap.size+1+1,0,none⟩)]) (by simp) (by simp [go_sem]) ?_;refine hD.out.mono ?_;rintro e u' w'' ⟨rfl,rfl,e1,e2,e3⟩;have d1:=e1.cell 0;have d2:=e2.cell 0;simp at d1 d2;simp [Leaves,settle,results,Tryz.results134,go_sem,d1,d2];exact ⟨by rw [HRn.out];rfl,hbw.trans e3⟩
   .have hRs:R=some b:=by rw [HR.out,hfull];simp [SN]
    have HRs:=aE hRs;have hC:=aE (jj w2.heap.size wr.heap.size vv o d dv cv _ q b wr Hask.out (by simp at hLi;omega));clear hRs hfull
    go_wp2_with fail
    refine hC.out.mono ?_;rintro e w3 ⟨rfl,_,hb3,hs3,_⟩;have hbY3:Below w2.heap.size Y w3:=hbl.trans hb3;have B1:=HB1Y.out.below hbY3 (by omega);have B2:=HB2Y.out.below hbY3 (by omega);have c1:=B1.cell 0;have c2:=B2.cell 0;have f1:=B1.frozen 0;have f2:=B2.frozen 0;simp at c1 c2;have D1:=(B1.set_ 0 (.bool b)).far (p:=⟨w.heap.size+1+1,0,none⟩) (by simp) (.int .i64 0);have D2:=(B2.far (p:=⟨w.heap.size+1,0,none⟩) (by simp) (.bool b)).set_ 0 (.int .i64 0);have d1:=D1.cell 0;have d2:=D2.cell 0;simp at d1 d2;have HbY3:=aE hbY3;clear B1 B2 D1 D2 hb3 hbY3
    go_wp2_with fail
    refine leaves_cons (f:=166) (args:=#[.pointer (some ⟨w.heap.size+1,0,none⟩),.pointer (some ⟨w.heap.size+1+1,0,none⟩)]) (by simp) (by simp [go_sem]) ?_;refine (sN ⟨w.heap.size+1,0,none⟩ ⟨w.heap.size+1+1,0,none⟩ _).mono ?_;rintro e u' w'' ⟨rfl,rfl,rfl⟩;simp [Leaves,settle,results,Tryz.results134,go_sem,d1,d2];exact ⟨by rw [HRs.out];rfl,((HY1.out.trans (HbY3.out.mono (by omega))).setCell (by show _<=w.heap.size+1;omega) _).setCell (by show _<=w.heap.size+1+1;omega) _⟩
end
section
theorem FP (l:List ah) (lv:Value) (S:Nat -> Prop) (k:Nat) (caps:Array Value) (vv:Value) (o d:Int) (dv cv:Value) (w:World) (h:(aJ fD).one w S lv l) (hS:∀ b,S b -> b<w.heap.size) (hl:l.length<=900)
  (hcf:∀ (args:Array Value) (w:World),(callFunc k args).run Tryz.prog w=.ok (.enter k args) w) (cm:ah -> Option Int) (HL:∀ x ∈ l,kJ k caps cm x w) :
  Calls Tryz.prog 134 #[lv,.func (.func k) #[] caps,Ly vv o d dv cv] w (qo (fN cm o d l) w):=by
 by_cases hc:bf (l.map ah.op)=0
 .exact JP l lv S k caps vv o d dv cv w h hS hl hc hcf cm (aE HL)
 .have e:fN cm o d l=none:=by unfold fN;rw [Vo hc]
  rw [e];exact EN l lv S k caps vv o d dv cv w h hS hl hc
end
section
theorem Ja {w:World} {S:Nat -> Prop} {v:Value} {l:List ah} (h:RT w S v (aX l)) (hl:∀ x ∈ l,x.ok):(aJ fD).one w S v l:=by
 obtain ⟨A,cap,rfl,hc,hm,_,hA⟩:=h.sl_inv;refine ⟨A,cap,by simp,by simpa using hc,hm,fun h0=>?_⟩;obtain ⟨b,o,rfl,hb,U,hcell,hr,_⟩:=hA (by simpa using h0);refine ⟨b,o,rfl,hb,fun i hi=>⟨l[i].cells,fun j u hu=>?_,rfl,hl _ (Vg hi)⟩⟩;have h1:(l.map cq)[i]? = some (cq l[i]):=by simp [hi]
 have h3:∀ (j:Nat) (u:Value),l[i].cells[j]? = some u -> (cq l[i])[j]? = some (AV.c u):=by
  intro j u hu;unfold ah.cells at hu
  match j with
  | 0 | 1 | 2 | 3 | 4 | 5 | 6=>simp at hu;subst hu;rfl
  | j+7=>simp at hu
 have h4:=h3 j u hu;have h2:=hcell i j _ _ h1 h4;rw [Gn (hr i j _ _ h1 h4)] at h2;exact h2
theorem nh (s i:Int):aw Tryz.prog 129 [eI s,eI i] (val (.bool (bq s i))):=
 fQ (fb Tryz.func129 rfl (by decide)) fun S w vs hS hn hv=>by
  obtain ⟨a,b,rfl⟩:=zz hn;obtain rfl:=Gn (hv 0 a _ rfl rfl);obtain rfl:=Gn (hv 1 b _ rfl rfl);exact (xU s i w).mono fun e w' ⟨h1,h2⟩=>⟨h1,h2 ▸ Below.refl _ _⟩
theorem Kd (l:List Int) (hl:l.length<=1073741824) (ho:∀ x ∈ l,aF x):aw Tryz.prog 29 [sI l] (val (.int .i64 (kU l))):=
 fQ (fb Tryz.func29 rfl (by decide)) fun S w vs hS hn hv=>by
  obtain ⟨a,rfl⟩:∃ a,vs = #[a]:=⟨vs[0]'(by simp at hn;omega),by apply Array.ext (by simpa using hn);intro i h1 h2;simp at h2;subst h2;rfl⟩;exact uD l a w hl (yu (hv 0 a _ rfl rfl) hS ho)
def dn (m:bl) (x:Bool × Int):Option (Int × Int × List ah × Int):=
 if x.1=true then (if 0<=x.2 then (m.miles[x.2.toNat]?).map fun K=>(K.stage,K.event,K.cond,x.2) else none)
 else (if 0<=x.2 then (m.guards[x.2.toNat]?).map fun g=>(g.stage,g.event,g.cond,-1) else none)
def LF (m:bl) (opn st:Int):Bool:=
 ((m.stages.getD st.toNat (⟨#[]⟩,0)).2 == -1) || (decide ((m.stages.getD st.toNat (⟨#[]⟩,0)).2<m.stages.length) && bq opn (m.stages.getD st.toNat (⟨#[]⟩,0)).2)
end
section
def Ee (m:bl) (st:Int):Bool:=decide (0<=st) && decide (st<(m.stages.length:Int))
def qs (m:bl) (opn:Int) (x:Bool × Int) (event:Int):Bool:=
 match dn m x with
 | some (st,ev,_,_)=>Ee m st && ((ev == -1 || ev == event) && (bq opn st == x.1) && (x.1 || LF m opn st))
 | none=>false
def fW (m:bl) (s:St) (x:Bool × Int) (event:Int):Bool:=qs m s.opn x event && (match dn m x with | some (_,_,cond,_)=>ic (jg cond s) | none=>false)
end
section
def uE (l:List Ml) (st d:Int):Nat -> Int
 | 0=>d
 | k+1=>if l[k]?.map (·.stage)=some st then cr (uE l st d k) (k:Int) else uE l st d k
def eW (m:bl) (s:St) (x:Bool × Int):St:=
 match dn m x with
 | some (st,_,_,mi)=>
  if Ee m st=true then
   if x.1=true then { s with don:=dN s.don mi,opn:=(xx (gz m) st ++ [st]).foldl cr s.opn }
   else { s with opn:=dN s.opn st,don:=uE m.miles st s.don m.miles.length }
  else s
 | none=>s
end
section
def ip (m:bl) (event:Int) (s:St) (x:Bool × Int):St:=if fW m s x event=true then eW m s x else s
def l5 (m:bl) (event:Int) (s:St) (k:Nat):St:=(m.order.take k).foldl (ip m event) s
theorem BU (m:bl) (s:St) (x:Bool × Int):(eW m s x).vals=s.vals /\ (eW m s x).did=s.did /\ (eW m s x).cnt=s.cnt:=by
 unfold eW;split
 .split
  .split<;>simp
  .simp
 .simp
theorem Ds (m:bl) (event:Int) (s:St) (x:Bool × Int):(ip m event s x).vals=s.vals /\ (ip m event s x).did=s.did /\ (ip m event s x).cnt=s.cnt:=by
 unfold ip;split
 .exact BU m s x
 .simp
theorem qg (m:bl) (event:Int):∀ (l:List (Bool × Int)) (s:St),(l.foldl (ip m event) s).vals=s.vals /\ (l.foldl (ip m event) s).did=s.did /\ (l.foldl (ip m event) s).cnt=s.cnt
 | [],s=>by simp
 | x :: l,s=>by
  have h:=qg m event l (ip m event s x);have h2:=Ds m event s x;simp [h,h2]
end
end
section
section
theorem qa (l:List ah) (s:St) (hl:l.length<=1000000) (ho:aF s.opn) (hd:aF s.don):aw Tryz.prog 100 [aX l,.agg (gh s)] ⟨.tup [eB (ic (jg l s)),eI (pX (jg l s))],[],0⟩:=by
 refine aa ag Tryz.func100 rfl (by decide) Tryz.ntmps100 Tryz.results100 rfl (⟨fun id o h=>(by cases h),⟨trivial,trivial,trivial⟩⟩) ?_;by_cases hc:bf (l.map ah.op)=0 /\ ∀ x ∈ l,jw s.vals true x=true
 .have hck:=wq l s true hl true (by simp only [true_iff];exact hc);obtain ⟨b,h1,h2⟩:=zr hc.1 hc.2
  have hlen:0<l.length /\ l.length<=64:=by
   have:=hc.1;unfold bf at this;simp only [Vp] at this;split at this
   .cases this
   .split at this
    .cases this
    .omega
  have ht:(l.map ah.op).take 70=l.map ah.op:=VF (by simp;omega);have hsh:=yU l hl;rw [ht] at hsh;have ew:IntKind.i64.wrap ((l.length:Int) - 1)=((l.length - 1:Nat):Int):=by rw [aB (by omega) (by omega)];omega
  have hat:=Jy l s (by omega) ho hd (l.length) (l.length - 1) (by omega) b [] (by omega) (by rw [show l.length - 1+1=l.length by omega,Vq];exact h1)
  repeat' first|refine go ?_|decide|refine sp ?_ ?_<;>intro _
  refine ax hck ?_
  repeat' first|refine go ?_|decide|refine sp ?_ ?_<;>intro _
  refine ay [] [0,1,3,4,5,6] (.exec 2 (.exec 7 (.exec 8 (.exec 9 .done)))) (by kernel_rfl) (by simp) ?_
  repeat' first|refine ge ew ?_|decide|refine sp ?_ ?_<;>intro _
  refine cd hsh (.inr rr) ?_
  repeat' first|refine ge ew ?_|decide|refine sp ?_ ?_<;>intro _
  refine ax (by exact hat) ?_
  repeat' first|refine go ?_|decide|refine sp ?_ ?_<;>intro _
  exact aV (by rw [h2];rfl)
 .have hck:=wq l s true hl false (by simp only [VM,false_iff];exact hc)
  repeat' first|refine go ?_|decide|refine sp ?_ ?_<;>intro _
  refine ax hck ?_
  repeat' first|refine go ?_|decide|refine sp ?_ ?_<;>intro _
  exact aV (by rw [Ar hc];rfl)
theorem SO (m:bl) (hl:m.stages.length<=1000000):aw Tryz.prog 30 [.agg (aQ m)] (g8 3 1 ((gz m).map fun n=>[eI n])):=by
 refine aa ag Tryz.func30 rfl (by decide) Tryz.ntmps30 Tryz.results30 rfl (ch _ _ _) ?_
 repeat' first|refine go ?_|decide|refine sp ?_ ?_<;>intro _
 refine ae (fun st=>∃ k:Nat,k<=m.stages.length /\ st=⟨22,[(1,.op 0 0 0),(3,.osl 1),(4,eI (k:Int))],[(0,some (.box 32 (aQ m))),(1,some (.row 3 1 ((m.stages.take k).map fun p=>[eI p.2])))],2⟩) (fun st=>m.stages.length - ap st 4) ⟨_,((be 3 3 1 (by simp only [iz,aj.get,bb,aj.put,↓reduceIte,reduceCtorEq,Nat.reduceLT,Nat.reduceEqDiff,Nat.reduceAdd,Nat.reduceLeDiff,eq_self,implies_true,Vu,VL])).trans (wS [0,1] @Vu)),0,Vd _,rfl⟩ ?_;rintro _ ⟨k,hk,rfl⟩;by_cases hlt:k<m.stages.length
 .have et:(m.stages.take (k+1)).map (fun p=>[eI p.2])=(m.stages.take k).map (fun p=>[eI p.2]) ++ [[eI m.stages[k].2]]:=dc _ _ hlt
  repeat' first|refine go ?_|simp only [ab,hlt]|decide|refine sp ?_ ?_<;>intro _
  refine ⟨rfl,by simp only [Vr];omega,rI (wS [0,3] et) ⟨k+1,by omega,rfl⟩⟩
 .obtain rfl:k=m.stages.length:=by omega
  repeat' first|refine go ?_|simp only [ab,hlt]|decide|refine sp ?_ ?_<;>intro _
  exact aM (by simp [af.gc,gz])
theorem Pm (l:List Int) (a i:Int) (hl:l.length<=1073741824) (ho:∀ x ∈ l,aF x):aw Tryz.prog 66 [sI l,eI a,eI i] (val (.bool (decide (Nc l a i)))):=
 fQ (fb Tryz.func66 rfl (by decide)) fun S w vs hS hn hv=>by
  obtain ⟨v,v1,v2,rfl⟩:∃ v v1 v2,vs = #[v,v1,v2]:=⟨vs[0]'(by simp at hn;omega),vs[1]'(by simp at hn;omega),vs[2]'(by simp at hn;omega),by
   apply Array.ext
   .simpa using hn
   .intro i h1 h2;simp at h2
    match i,h2 with
    | 0,_=>rfl
    | 1,_=>rfl
    | 2,_=>rfl⟩
  obtain rfl:=Gn (hv 1 v1 _ rfl rfl);obtain rfl:=Gn (hv 2 v2 _ rfl rfl);exact (Jw l v a i w hl (yu (hv 0 v _ rfl rfl) hS ho)).mono fun e w' ⟨h1,h2⟩=>⟨h1,h2 ▸ Below.refl _ _⟩
theorem dX (n most:Int):aw Tryz.prog 155 [eI n,eI most] (val (.bool (eV n most))):=by
 refine aa ag Tryz.func155 rfl (by decide) Tryz.ntmps155 Tryz.results155 rfl (aI _) ?_;unfold eV
 repeat' first|refine go ?_|decide|refine sp ?_ ?_<;>intro _
 all_goals (rename_i h;rw [h];simp)
theorem wl (m:bl) (s:St) (xm:Bool) (xn event:Int) (hf:uX m) (ho:aF s.opn) (hd:aF s.don):aw Tryz.prog 123 [.agg (aQ m),.agg (gh s),.agg [eB xm,eI xn],eI event] (val (.bool (fW m s (xm,xn) event))):=by
 refine aa ag Tryz.func123 rfl (by decide) Tryz.ntmps123 Tryz.results123 rfl (aI _) ?_;obtain ⟨hgl,hml,hsl,-⟩:=id hf.sizes
 cases xm with
 | true=>
  by_cases hin:0<=xn /\ xn<(m.miles.length:Int)
  .obtain ⟨k,rfl⟩:∃ k:Nat,xn=(k:Int):=⟨xn.toNat,by omega⟩;have hk:k<m.miles.length:=(by omega);have ei:eV (k:Int) (m.miles.length:Int)=true:=by simp [eV];omega
   have eR:fW m s (true,(k:Int)) event=(eV m.miles[k].stage m.stages.length && ((m.miles[k].event == -1) || (m.miles[k].event == event)) && bq s.opn m.miles[k].stage && ic (jg m.miles[k].cond s)):=by
    simp [fW,qs,dn,hk,Ee,eV,Bool.and_assoc]
   rw [eR];have hho:=qa m.miles[k].cond s (by have:=hf.miles _ (Vg hk);omega) ho hd
   repeat' first|refine go ?_|simp only [ab,hk]|decide|refine sp ?_ ?_<;>intro _
   refine ax (dX _ _) ?_
   repeat' first|refine go ?_|simp only [ab,hk,ei]|decide|refine sp ?_ ?_<;>intro _
   refine bJ hho (ro) ?_
   repeat' first|refine go ?_|decide|refine sp ?_ ?_<;>intro _
   refine ax (dX _ _) ?_
   repeat' first|refine go ?_|decide|refine sp ?_ ?_<;>intro _
   all_goals first
    | (simp [*];done)
    | (refine ax (dA _ _ ho) ?_;(repeat' (first | refine go ?_ | decide | refine sp ?_ ?_<;>intro _));all_goals (simp [*];done))
  .have ei:eV xn (m.miles.length:Int)=false:=by unfold eV;rw [VW];simp only [VA];omega
   have eR:fW m s (true,xn) event=false:=by
    have:dn m (true,xn)=none:=by
     simp only [dn,if_true];split
     .rw [Vt (by omega)];try rfl
     .rfl
    simp [fW,qs,this]
   rw [eR]
   repeat' first|refine go ?_|decide|refine sp ?_ ?_<;>intro _
   refine ax (dX _ _) ?_
   repeat' first|refine ge ei ?_|decide|refine sp ?_ ?_<;>intro _
 | false=>
  by_cases hin:0<=xn /\ xn<(m.guards.length:Int)
  .obtain ⟨k,rfl⟩:∃ k:Nat,xn=(k:Int):=⟨xn.toNat,by omega⟩;have hk:k<m.guards.length:=(by omega);have ei:eV (k:Int) (m.guards.length:Int)=true:=by simp [eV];omega
   have hho:=qa m.guards[k].cond s (by have:=hf.guards _ (Vg hk);omega) ho hd;by_cases hst:0<=m.guards[k].stage /\ m.guards[k].stage<(m.stages.length:Int)
   .obtain ⟨q,hq⟩:∃ q:Nat,m.guards[k].stage=(q:Int):=⟨m.guards[k].stage.toNat,by omega⟩;have hql:q<m.stages.length:=(by omega);have es:eV (q:Int) (m.stages.length:Int)=true:=by simp [eV];omega
    have eR:fW m s (false,(k:Int)) event=(((m.guards[k].event == -1) || (m.guards[k].event == event)) && !bq s.opn q && ((m.stages[q].2 == -1) || (eV m.stages[q].2 m.stages.length && bq s.opn m.stages[q].2)) && ic (jg m.guards[k].cond s)):=by
     have hno:∀ p:Int,(decide (p<(m.stages.length:Int)) && bq s.opn p)=(eV p m.stages.length && bq s.opn p):=fun p=>by
      by_cases h0:0<=p
      .simp [eV,h0]
      .rw [jB _ _ (by omega)];simp
     simp [fW,qs,dn,hk,Ee,hq,LF,hql,hno]
    rw [eR]
    repeat' first|refine go ?_|simp only [ab,hk]|decide|refine sp ?_ ?_<;>intro _
    refine aA (by kernel_rfl) ?_
    repeat' first|refine go ?_|simp only [ab,hk]|decide|refine sp ?_ ?_<;>intro _
    refine aL (dX _ _) ?_
    repeat' first|refine go ?_|simp only [ab,hk,ei]|decide|refine sp ?_ ?_<;>intro _
    refine aL (dX _ _) ?_;rw [hq]
    repeat' first|refine go ?_|simp only [ab,hk,es,hq,hql]|decide|refine sp ?_ ?_<;>intro _
    refine bJ hho (ro) ?_
    repeat' first|refine ge hq ?_|decide|refine sp ?_ ?_<;>intro _
    all_goals first
     | (simp [*];done)
     | (refine ax (dA _ _ ho) ?_;(repeat' (first | refine go ?_ | decide | refine sp ?_ ?_<;>intro _)))
    all_goals first
     | (simp [*];done)
     | (refine ax (dX _ _) ?_;(repeat' (first | refine go ?_ | decide | refine sp ?_ ?_<;>intro _)))
    all_goals first
     | (simp [*];done)
     | (refine ax (dA _ _ ho) ?_;(repeat' (first | refine go ?_ | decide | refine sp ?_ ?_<;>intro _)))
    all_goals (simp [*];done)
   .have es:eV m.guards[k].stage (m.stages.length:Int)=false:=by unfold eV;rw [VW];simp only [VA];omega
    have eR:fW m s (false,(k:Int)) event=false:=by
     have:Ee m m.guards[k].stage=false:=by unfold Ee;rw [VW];simp only [VA];omega
     simp [fW,qs,dn,hk,this]
    rw [eR]
    repeat' first|refine go ?_|simp only [ab,hk]|decide|refine sp ?_ ?_<;>intro _
    refine aA (by kernel_rfl) ?_
    repeat' first|refine go ?_|simp only [ab,hk]|decide|refine sp ?_ ?_<;>intro _
    refine aL (dX _ _) ?_
    repeat' first|refine go ?_|simp only [ab,hk,ei]|decide|refine sp ?_ ?_<;>intro _
    refine aL (dX _ _) ?_
    repeat' first|refine go ?_|simp only [ab,hk,es]|decide|refine sp ?_ ?_<;>intro _
  .have ei:eV xn (m.guards.length:Int)=false:=by unfold eV;rw [VW];simp only [VA];omega
   have eR:fW m s (false,xn) event=false:=by
    have:dn m (false,xn)=none:=by
     simp only [dn,VM,if_false];split
     .rw [Vt (by omega)];try rfl
     .rfl
    simp [fW,qs,this]
   rw [eR]
   repeat' first|refine go ?_|decide|refine sp ?_ ?_<;>intro _
   refine aA (by kernel_rfl) ?_
   repeat' first|refine go ?_|decide|refine sp ?_ ?_<;>intro _
   refine aL (dX _ _) ?_
   repeat' first|refine ge ei ?_|decide|refine sp ?_ ?_<;>intro _
end
end
section
section
def cR (o:Int):Prop:=0<=o /\ o<2147483648
theorem dp {o:Int} (h:cR o):aF o:=by unfold cR at h;unfold aF;omega
theorem IM (s:Int):cR (lx s:Int):=by
 have:=gp s;unfold cR;omega
theorem ot (s i:Int):cR (dN s i):=by
 unfold dN;split
 .have h1:lx s ||| 2 ^ i.toNat<2 ^ 31:=Nat.or_lt_two_pow (gp s) (Nat.pow_lt_pow_right (by omega) (by omega));unfold cR;omega
 .exact IM s
theorem mf (s i:Int):cR (cr s i):=by
 unfold cr;split
 .have h1:lx s ^^^ (lx s &&& 2 ^ i.toNat)<2 ^ 31:=Nat.xor_lt_two_pow (gp s) (XG Nat.and_le_left (gp s));unfold cR;omega
 .exact IM s
theorem xP:∀ (l:List Int) (o:Int),cR o -> cR (l.foldl cr o)
 | [],o,h=>h
 | i :: l,o,h=>xP l _ (mf o i)
theorem xb (l:List Ml) (st d:Int) (h:cR d):∀ k,cR (uE l st d k)
 | 0=>h
 | k+1=>by
  unfold uE;split
  .exact mf _ _
  .exact xb l st d h k
theorem Aw:∀ (l:List Int) (o j:Int),bq (l.foldl cr o) j=(bq o j && !decide (j ∈ l))
 | [],o,j=>by simp
 | i :: l,o,j=>by
  rw [List.foldl_cons,Aw l,iZ];by_cases h:j=i
  .simp [h]
  .have:(j == i)=false:=by simpa using h
   simp [this,h]
theorem uk (l:List Ml) (st d:Int) (i:Nat):∀ k,bq (uE l st d k) (i:Int)=(bq d (i:Int) && !(decide (i<k) && decide (l[i]?.map (·.stage)=some st)))
 | 0=>by simp [uE]
 | k+1=>by
  unfold uE;split
  .rename_i h;rw [iZ,uk l st d i k];by_cases hik:i=k
   .subst hik;simp [h]
   .have e1:((i:Int) == (k:Int))=false:=by simp;omega
    have e2:decide (i<k+1)=decide (i<k):=by rw [decide_eq_decide];omega
    rw [e1,e2];simp
  .rename_i h;rw [uk l st d i k];by_cases hik:i=k
   .subst hik;simp [h]
   .have e2:decide (i<k+1)=decide (i<k):=by rw [decide_eq_decide];omega
    rw [e2]
def fh (s:Int) (p:Nat -> Bool):List Bool:=(List.range 31).map fun (i:Nat)=>bq s (i:Int) && !p i
def il (q:Nat -> Bool) (k:Nat):Nat -> Bool:=fun i=>decide (i<k) && q i
theorem wn (s:Int) (q:Nat -> Bool):fh s (il q 0)=rx s:=by simp [fh,rx,il]
theorem yS (s:Int) (p:Nat -> Bool):(fh s p).length=31:=by simp [fh]
theorem sV {s:Int} {q:Nat -> Bool} {k:Nat} (h:q k=true):(fh s (il q k)).set k false=fh s (il q (k+1)):=by
 apply V3;intro i;rw [WJ];simp only [fh,Ve,Vp,List.length_range];by_cases hi:i<31
 .rw [V6 hi];split
  .rename_i e;subst e;rw [Vo hi];simp [il,h]
  .rename_i e;have e2:decide (i<k+1)=decide (i<k):=by rw [decide_eq_decide];omega
   simp [il,e2]
 .rw [Vt (by simp;omega)];split
  .rw [Vj (by omega)];rfl
  .rfl
theorem Eg {s:Int} {q:Nat -> Bool} {k:Nat} (h:q k=false):fh s (il q k)=fh s (il q (k+1)):=by
 have:il q k=il q (k+1):=by
  funext i
  unfold il;by_cases hik:i=k
  .subst hik;simp [h]
  .have e2:decide (i<k+1)=decide (i<k):=by rw [decide_eq_decide];omega
   rw [e2]
 rw [this]
theorem AX (s:Int) (p:Nat -> Bool) {t:Int} (ht:cR t) (h:∀ j:Nat,j<31 -> bq t (j:Int)=(bq s (j:Int) && !p j)):nD (fh s p) 31=t:=by
 have hr:=kD (fun j=>(fh s p).getD j false) 31;unfold nD;refine Ec (by omega) ht fun j hj=>?_;rw [vB _ j hj,h j hj];simp [fh,hj]
noncomputable def qA (m:bl) (st:Int):Nat -> Bool:=fun i=>decide ((i:Int)=st) || decide (Nc (gz m) st (i:Int))
def qB (m:bl) (st:Int):Nat -> Bool:=fun i=>decide (m.miles[i]?.map (·.stage)=some st)
theorem RJ {m:bl} {st s:Int} (hst:jd (gz m) st) (hs:cR s):nD (fh s (il (qA m st) m.stages.length)) 31=(xx (gz m) st ++ [st]).foldl cr s:=by
 refine AX s _ (xP _ _ hs) fun j hj=>?_;rw [Aw]
 congr 2
 have hpl:(gz m).length=m.stages.length:=by simp [gz]
 rw [Ws];simp only [VJ,il,qA,VB,Xl,Vs,VH];unfold xx;rw [Vo hst];simp only [Vx,List.mem_filter,WM,VJ];have hst':=hst;unfold jd at hst';constructor
 .rintro (⟨k,⟨h1,h2,h3⟩,h4⟩ | h)
  .obtain rfl:k=j:=by omega
   obtain ⟨i,h5,h6,h7⟩:=(wk (gz m) (k:Int) st hst'.1 h2).1 h3;exact ⟨by omega,.inr ⟨i,h5,h6,hst'.1,h7⟩⟩
  .exact ⟨by omega,.inl h⟩
 .rintro ⟨h1,h2⟩;by_cases he:(j:Int)=st
  .exact .inr he
  .left;rcases h2 with h2|⟨i,h5,h6,h7,h8⟩
   .exact absurd h2 he
   .exact ⟨j,⟨by omega,he,(wk (gz m) (j:Int) st hst'.1 he).2 ⟨i,h5,h6,h8⟩⟩,rfl⟩
theorem Th {m:bl} {st s:Int} (hs:cR s):nD (fh s (il (qB m st) m.miles.length)) 31=uE m.miles st s m.miles.length:=by
 refine AX s _ (xb _ _ _ hs _) fun j hj=>?_;rw [uk];rfl
theorem jM {l:List Bool}:∀ row ∈ l.map (fun b=>[eB b]),∀ av ∈ row,av.plain:=fun row hr av ha=>by
 obtain ⟨n,_,rfl⟩:=Vx.1 hr;simp at ha;subst ha;trivial
theorem Bn (m:bl) (s:St) (xm:Bool) (xn:Int) (hf:uX m) (hp:∀ p ∈ m.stages,aF p.2) (ho:cR s.opn) (hd:cR s.don):aw Tryz.prog 124 [.agg (aQ m),.agg (gh s),.agg [eB xm,eI xn]] ⟨.agg (gh (eW m s (xm,xn))),[],0⟩:=by
 refine aa ag Tryz.func124 rfl (by decide) Tryz.ntmps124 Tryz.results124 rfl (⟨fun id o h=>(by cases h),⟨trivial,trivial,trivial,trivial,trivial,trivial⟩⟩) ?_;obtain ⟨hgl,hml,hsl,-⟩:=id hf.sizes;have hpl:(gz m).length=m.stages.length:=by simp [gz]
 have hpo:∀ x ∈ gz m,aF x:=fun x hx=>by
  obtain ⟨p,hp',rfl⟩:=Vx.1 hx;exact hp p hp'
 have ro:fc [.agg (aQ m),.agg (gh s),.agg [eB xm,eI xn]]:=by simp [fc,fH,aR,aY]
 cases xm with
 | true=>
  by_cases hin:0<=xn /\ xn<(m.miles.length:Int)
  .obtain ⟨k,rfl⟩:∃ k:Nat,xn=(k:Int):=⟨xn.toNat,by omega⟩;have hk:k<m.miles.length:=(by omega);have ei:eV (k:Int) (m.miles.length:Int)=true:=by simp [eV];omega
   by_cases hst:0<=m.miles[k].stage /\ m.miles[k].stage<(m.stages.length:Int)
   .have es:eV m.miles[k].stage (m.stages.length:Int)=true:=by unfold eV;simp;omega
    have hs2:Ee m m.miles[k].stage=true:=by unfold Ee;simp;omega
    have eR:eW m s (true,(k:Int))={ s with don:=dN s.don k,opn:=(xx (gz m) m.miles[k].stage ++ [m.miles[k].stage]).foldl cr s.opn }:=by
     simp [eW,dn,hk,hs2]
    rw [eR,<- RJ (m:=m) (by unfold jd;omega) ho];have eK:HH m.miles[k]=[eS m.miles[k].name,eI m.miles[k].stage,eI m.miles[k].event,aX m.miles[k].cond,eB m.miles[k].final]:=rfl;generalize hstg:m.miles[k].stage=st at hst es hs2 eK;have hput:=sD s.don (k:Int) true (dp hd) (by omega) (by omega);simp only [if_true] at hput
    repeat' first|refine go ?_|simp only [ab,hk]|decide|refine sp ?_ ?_<;>intro _
    refine aA (by kernel_rfl) ?_
    repeat' first|refine go ?_|simp only [ab,hk]|decide|refine sp ?_ ?_<;>intro _
    refine aL (dX _ _) ?_
    repeat' first|refine go ?_|simp only [ab,hk,ei,hstg]|decide|refine sp ?_ ?_<;>intro _
    refine aL (dX _ _) ?_
    repeat' first|refine go ?_|simp only [ab,hk,ei,es,hstg]|decide|refine sp ?_ ?_<;>intro _
    refine ax hput ?_
    repeat' first|refine go ?_|decide|refine sp ?_ ?_<;>intro _
    refine cd (Li s.opn (dp ho)) (.inr jM) ?_
    repeat' first|refine go ?_|decide|refine sp ?_ ?_<;>intro _
    rw [<- wn s.opn (qA m st)];refine ae (fun s'=>∃ i:Nat,i<=m.stages.length /\ s'=⟨148,[(3,.op 0 0 0),(4,.op 1 0 0),(6,.op 2 0 0),(7,eI st),(8,.osl 3),(9,eI (i:Int))],[(0,some (.box 32 (aQ m))),(1,some (.box 132 (gh { s with don:=dN s.don k }))),(2,some (.box 132 [.c (.slice none 0 0),eI 0,eI 0,.c (.slice none 0 0),.c (.slice none 0 0)])),(3,some (.row 4 1 ((fh s.opn (il (qA m st) i)).map fun b=>[eB b])))],4⟩) (fun s'=>m.stages.length - ap s' 9) ⟨_,(wR [0,1,3,4]),0,Vd _,rfl⟩ ?_;rintro _ ⟨i,hi,rfl⟩;have hml31:=yS s.opn (il (qA m st) i);by_cases hlt:i<m.stages.length
    .have hi31:i<(fh s.opn (il (qA m st) i)).length:=(by omega);have hset:(((fh s.opn (il (qA m st) i)).map fun b=>[eB b]).set i [eB false])=((fh s.opn (il (qA m st) i)).set i false).map fun b=>[eB b]:=(by rw [W8])
     repeat' first|refine go ?_|simp only [ab,hlt,hi31]|decide|refine sp ?_ ?_<;>intro _
     .rename_i h;have hq:qA m st i=true:=by simp [qA];left;simpa using h
      exact rI (kn (by (first|((simp only [lY,mo,dC,cX,aD.lt,AV.lt,AV.ltL,iz,aj.get,bb,aj.put,↓reduceIte,reduceCtorEq,Nat.reduceLT,Nat.reduceEqDiff,Nat.reduceAdd,Nat.reduceLeDiff,eq_self,implies_true,hset,sV hq])<;>(repeat' apply And.intro)<;>first|(rw [oH (by omega)];done)|(simp;done)|omega)|fail))) ⟨i+1,by omega,rfl⟩
     .rename_i h;refine cd (SO m (by omega)) (.inr eC) ?_
      repeat' first|refine go ?_|decide|refine sp ?_ ?_<;>intro _
      refine ax (Pm (gz m) st (i:Int) (by omega) hpo) ?_
      repeat' first|refine go ?_|simp only [ab,hlt,hi31]|decide|refine sp ?_ ?_<;>intro _
      .rename_i h2;have hq:qA m st i=true:=(by simp only [qA,h2,Bool.or_true]);exact rI (mU [0,1,2,3] ⟨(by decide),(by (first|((simp only [jZ,jA,dC,cX,aD.lt,AV.lt,AV.ltL,AV.ren,AV.renL,aD.ren,Xw,List.getD_cons_succ,VN,Wq,iz,aj.get,bb,aj.put,↓reduceIte,reduceCtorEq,Nat.reduceLT,Nat.reduceEqDiff,Nat.reduceAdd,Nat.reduceLeDiff,eq_self,implies_true,hset,sV hq])<;>(repeat' apply And.intro)<;>first|(rw [oH (by omega)];done)|(simp;done)|omega)|fail))⟩) ⟨i+1,by omega,rfl⟩
      .rename_i h2
       have hq:qA m st i=false:=by
        simp only [qA,h2,XQ];simpa using h
       exact rI (mU [0,1,2,3] ⟨(by decide),(by (first|((simp only [jZ,jA,dC,cX,aD.lt,AV.lt,AV.ltL,AV.ren,AV.renL,aD.ren,Xw,List.getD_cons_succ,VN,Wq,iz,aj.get,bb,aj.put,↓reduceIte,reduceCtorEq,Nat.reduceLT,Nat.reduceEqDiff,Nat.reduceAdd,Nat.reduceLeDiff,eq_self,implies_true,Eg hq])<;>(repeat' apply And.intro)<;>first|(rw [oH (by omega)];done)|(simp;done)|omega)|fail))⟩) ⟨i+1,by omega,rfl⟩
    .obtain rfl:i=m.stages.length:=by omega
     have hsum:=Jr (fh s.opn (il (qA m st) m.stages.length)) (by omega);rw [hml31] at hsum
     repeat' first|refine go ?_|simp only [ab,hlt]|decide|refine sp ?_ ?_<;>intro _
     refine ax (by exact hsum) ?_
     repeat' first|refine go ?_|decide|refine sp ?_ ?_<;>intro _
     exact aV (by simp [AV.ren,AV.renL])
   .have es:eV m.miles[k].stage (m.stages.length:Int)=false:=by unfold eV;rw [VW];simp only [VA];omega
    have eR:eW m s (true,(k:Int))=s:=by
     have:Ee m m.miles[k].stage=false:=by unfold Ee;rw [VW];simp only [VA];omega
     simp [eW,dn,hk,this]
    rw [eR]
    repeat' first|refine go ?_|simp only [ab,hk]|decide|refine sp ?_ ?_<;>intro _
    refine aA (by kernel_rfl) ?_
    repeat' first|refine go ?_|simp only [ab,hk]|decide|refine sp ?_ ?_<;>intro _
    refine aL (dX _ _) ?_
    repeat' first|refine go ?_|simp only [ab,hk,ei]|decide|refine sp ?_ ?_<;>intro _
    refine aL (dX _ _) ?_
    repeat' first|refine go ?_|simp only [ab,hk,ei,es]|decide|refine sp ?_ ?_<;>intro _
    exact aV (by simp [AV.ren,AV.renL])
  .have ei:eV xn (m.miles.length:Int)=false:=by unfold eV;rw [VW];simp only [VA];omega
   have eR:eW m s (true,xn)=s:=by
    have:dn m (true,xn)=none:=by
     simp only [dn,if_true];split
     .rw [Vt (by omega)];try rfl
     .rfl
    simp [eW,this]
   rw [eR]
   repeat' first|refine go ?_|decide|refine sp ?_ ?_<;>intro _
   refine aA (by kernel_rfl) ?_
   repeat' first|refine go ?_|decide|refine sp ?_ ?_<;>intro _
   refine aL (dX _ _) ?_
   repeat' first|refine ge ei ?_|decide|refine sp ?_ ?_<;>intro _
   exact aV (by simp [AV.ren,AV.renL])
 | false=>
  by_cases hin:0<=xn /\ xn<(m.guards.length:Int)
  .obtain ⟨k,rfl⟩:∃ k:Nat,xn=(k:Int):=⟨xn.toNat,by omega⟩;have hk:k<m.guards.length:=(by omega);have ei:eV (k:Int) (m.guards.length:Int)=true:=by simp [eV];omega
   by_cases hst:0<=m.guards[k].stage /\ m.guards[k].stage<(m.stages.length:Int)
   .have es:eV m.guards[k].stage (m.stages.length:Int)=true:=by unfold eV;simp;omega
    have hs2:Ee m m.guards[k].stage=true:=by unfold Ee;simp;omega
    have eR:eW m s (false,(k:Int))={ s with opn:=dN s.opn m.guards[k].stage,don:=uE m.miles m.guards[k].stage s.don m.miles.length }:=by
     simp [eW,dn,hk,hs2]
    rw [eR,<- Th hd];generalize hstg:m.guards[k].stage=st at hst es hs2;have hput:=sD s.opn st true (dp ho) hst.1 (by omega);simp only [if_true] at hput
    repeat' first|refine go ?_|simp only [ab,hk]|decide|refine sp ?_ ?_<;>intro _
    refine aA (by kernel_rfl) ?_
    repeat' first|refine go ?_|simp only [ab,hk]|decide|refine sp ?_ ?_<;>intro _
    refine aL (dX _ _) ?_
    repeat' first|refine go ?_|simp only [ab,hk,ei,hstg]|decide|refine sp ?_ ?_<;>intro _
    refine aL (dX _ _) ?_
    repeat' first|refine go ?_|simp only [ab,hk,ei,es,hstg]|decide|refine sp ?_ ?_<;>intro _
    refine ax hput ?_
    repeat' first|refine go ?_|decide|refine sp ?_ ?_<;>intro _
    refine cd (Li s.don (dp hd)) (.inr jM) ?_
    repeat' first|refine go ?_|decide|refine sp ?_ ?_<;>intro _
    rw [<- wn s.don (qB m st)];refine ae (fun s'=>∃ i:Nat,i<=m.miles.length /\ s'=⟨148,[(3,.op 0 0 0),(4,.op 1 0 0),(6,.op 2 0 0),(10,eI st),(11,.osl 3),(12,eI (i:Int))],[(0,some (.box 32 (aQ m))),(1,some (.box 132 (gh { s with opn:=dN s.opn st }))),(2,some (.box 132 [.c (.slice none 0 0),eI 0,eI 0,.c (.slice none 0 0),.c (.slice none 0 0)])),(3,some (.row 4 1 ((fh s.don (il (qB m st) i)).map fun b=>[eB b])))],4⟩) (fun s'=>m.miles.length - ap s' 12) ⟨_,(wR [0,1,3,4]),0,Vd _,rfl⟩ ?_;rintro _ ⟨i,hi,rfl⟩;have hml31:=yS s.don (il (qB m st) i);by_cases hlt:i<m.miles.length
    .have hi31:i<(fh s.don (il (qB m st) i)).length:=(by omega);have hset:(((fh s.don (il (qB m st) i)).map fun b=>[eB b]).set i [eB false])=((fh s.don (il (qB m st) i)).set i false).map fun b=>[eB b]:=(by rw [W8])
     repeat' first|refine go ?_|simp only [ab,hlt,hi31]|decide|refine sp ?_ ?_<;>intro _
     .rename_i h;have hq:qB m st i=true:=by simp [qB,hlt];simpa using h
      exact rI (kn (by (first|((simp only [lY,mo,dC,cX,aD.lt,AV.lt,AV.ltL,iz,aj.get,bb,aj.put,↓reduceIte,reduceCtorEq,Nat.reduceLT,Nat.reduceEqDiff,Nat.reduceAdd,Nat.reduceLeDiff,eq_self,implies_true,hset,sV hq])<;>(repeat' apply And.intro)<;>first|(rw [oH (by omega)];done)|(simp;done)|omega)|fail))) ⟨i+1,by omega,rfl⟩
     .rename_i h;have hq:qB m st i=false:=by simp [qB,hlt];simpa using h
      exact rI (kn (by (first|((simp only [lY,mo,dC,cX,aD.lt,AV.lt,AV.ltL,iz,aj.get,bb,aj.put,↓reduceIte,reduceCtorEq,Nat.reduceLT,Nat.reduceEqDiff,Nat.reduceAdd,Nat.reduceLeDiff,eq_self,implies_true,Eg hq])<;>(repeat' apply And.intro)<;>first|(rw [oH (by omega)];done)|(simp;done)|omega)|fail))) ⟨i+1,by omega,rfl⟩
    .obtain rfl:i=m.miles.length:=by omega
     have hsum:=Jr (fh s.don (il (qB m st) m.miles.length)) (by omega);rw [hml31] at hsum
     repeat' first|refine go ?_|simp only [ab,hlt]|decide|refine sp ?_ ?_<;>intro _
     refine ax (by exact hsum) ?_
     repeat' first|refine go ?_|decide|refine sp ?_ ?_<;>intro _
     exact aV (by simp [AV.ren,AV.renL])
   .have es:eV m.guards[k].stage (m.stages.length:Int)=false:=by unfold eV;rw [VW];simp only [VA];omega
    have eR:eW m s (false,(k:Int))=s:=by
     have:Ee m m.guards[k].stage=false:=by unfold Ee;rw [VW];simp only [VA];omega
     simp [eW,dn,hk,this]
    rw [eR]
    repeat' first|refine go ?_|simp only [ab,hk]|decide|refine sp ?_ ?_<;>intro _
    refine aA (by kernel_rfl) ?_
    repeat' first|refine go ?_|simp only [ab,hk]|decide|refine sp ?_ ?_<;>intro _
    refine aL (dX _ _) ?_
    repeat' first|refine go ?_|simp only [ab,hk,ei]|decide|refine sp ?_ ?_<;>intro _
    refine aL (dX _ _) ?_
    repeat' first|refine go ?_|simp only [ab,hk,ei,es]|decide|refine sp ?_ ?_<;>intro _
    exact aV (by simp [AV.ren,AV.renL])
  .have ei:eV xn (m.guards.length:Int)=false:=by unfold eV;rw [VW];simp only [VA];omega
   have eR:eW m s (false,xn)=s:=by
    have:dn m (false,xn)=none:=by
     simp only [dn,VM,if_false];split
     .rw [Vt (by omega)];try rfl
     .rfl
    simp [eW,this]
   rw [eR]
   repeat' first|refine go ?_|decide|refine sp ?_ ?_<;>intro _
   refine aA (by kernel_rfl) ?_
   repeat' first|refine go ?_|decide|refine sp ?_ ?_<;>intro _
   refine aL (dX _ _) ?_
   repeat' first|refine ge ei ?_|decide|refine sp ?_ ?_<;>intro _
   exact aV (by simp [AV.ren,AV.renL])
theorem DX (m:bl) (s:St) (x:Bool × Int) (h:cR s.opn /\ cR s.don):cR (eW m s x).opn /\ cR (eW m s x).don:=by
 unfold eW;split
 .split
  .split
   .exact ⟨xP _ _ h.1,ot _ _⟩
   .exact ⟨ot _ _,xb _ _ _ h.2 _⟩
  .exact h
 .exact h
theorem OW (m:bl) (event:Int) (s:St) (x:Bool × Int) (h:cR s.opn /\ cR s.don):cR (ip m event s x).opn /\ cR (ip m event s x).don:=by
 unfold ip;split
 .exact DX m s x h
 .exact h
theorem tn (m:bl) (event:Int):∀ (l:List (Bool × Int)) (s:St),cR s.opn /\ cR s.don -> cR (l.foldl (ip m event) s).opn /\ cR (l.foldl (ip m event) s).don
 | [],s,h=>h
 | x :: l,s,h=>tn m event l _ (OW m event s x h)
theorem T6 (s:St):(⟨.agg (gh s),[],0⟩:cS).Ok:=⟨fun id o h=>(by cases h),⟨trivial,trivial,trivial,trivial,trivial,trivial⟩⟩
theorem IP (m:bl) (s:St) (event:Int) (hf:uX m) (hp:∀ p ∈ m.stages,aF p.2) (ho:cR s.opn) (hd:cR s.don):aw Tryz.prog 112 [.agg (aQ m),.agg (gh s),eI event] ⟨.agg (gh (l5 m event s m.order.length)),[],0⟩:=by
 refine aa ag Tryz.func112 rfl (by decide) Tryz.ntmps112 Tryz.results112 rfl (T6 _) ?_
 repeat' first|refine go ?_|decide|refine sp ?_ ?_<;>intro _
 have hol:m.order.length<=40:=hf.sizes.2.2.2.2.2.2.2.2.1;have e0:l5 m event s 0=s:=rfl;refine ae (fun s'=>∃ k:Nat,k<=m.order.length /\ s'=⟨33,[(2,eI event),(3,.op 0 0 0),(4,.op 1 0 0),(6,.op 2 0 0),(7,eI (k:Int))],[(0,some (.box 32 (aQ m))),(1,some (.box 132 (gh (l5 m event s k)))),(2,some (.box 132 [.c (.slice none 0 0),eI 0,eI 0,.c (.slice none 0 0),.c (.slice none 0 0)]))],3⟩) (fun st=>m.order.length - ap st 7) ⟨_,(wE e0),0,Vd _,rfl⟩ ?_;rintro _ ⟨k,hk,rfl⟩;by_cases hlt:k<m.order.length
 .have ef:l5 m event s (k+1)=ip m event (l5 m event s k) m.order[k]:=Fb _ _ _ hlt;have hv:=tn m event (m.order.take k) s ⟨ho,hd⟩
  change cR (l5 m event s k).opn /\ cR (l5 m event s k).don at hv
  repeat' first|refine go ?_|simp only [ab,hlt]|decide|refine sp ?_ ?_<;>intro _
  generalize l5 m event s k=t at ef hv ⊢;refine aA (by kernel_rfl) ?_;obtain ⟨x,hx⟩:∃ x,m.order[k]=x:=⟨_,rfl⟩;rw [hx] at ef
  repeat' first|refine go ?_|simp only [ab,hlt,hx]|decide|refine sp ?_ ?_<;>intro _
  refine aL (wl m t x.1 x.2 event hf (dp hv.1) (dp hv.2)) ?_
  repeat' first|refine go ?_|decide|refine sp ?_ ?_<;>intro _
  .rename_i h;have e1:ip m event t x=eW m t x:=Vo h;rw [e1] at ef;refine BT 7 (by kernel_rfl) ?_
   repeat' first|refine go ?_|simp only [ab,hlt,hx]|decide|refine sp ?_ ?_<;>intro _
   refine bJ (Bn m t x.1 x.2 hf hp hv.1 hv.2) (ro) ?_
   repeat' first|refine go ?_|decide|refine sp ?_ ?_<;>intro _
   exact rI (wE ef) ⟨k+1,by omega,rfl⟩
  .rename_i h;have e1:ip m event t x=t:=Vj (by rw [show (x:Bool × Int)=(x.1,x.2) from rfl,h];simp);rw [e1] at ef;exact rI (wE ef) ⟨k+1,by omega,rfl⟩
 .obtain rfl:k=m.order.length:=by omega
  repeat' first|refine go ?_|simp only [ab,hlt]|decide|refine sp ?_ ?_<;>intro _
  exact aV (by simp only [AV.ren,AV.renL])
end
section
def oK (f:Nat -> Bool):Nat -> Bool
 | 0=>true
 | n+1=>oK f n && f n
def fg (f:Nat -> Bool):Nat -> Bool
 | 0=>false
 | n+1=>fg f n || f n
theorem AO (f:Nat -> Bool):∀ n,oK f n=true ↔ ∀ i,i<n -> f i=true
 | 0=>by simp [oK]
 | n+1=>by
  rw [oK,VB,AO f n];constructor
  .intro ⟨h1,h2⟩ i hi;rcases Vw i n with h|h
   .exact h1 i h
   .obtain rfl:i=n:=by omega
    exact h2
  .exact fun h=>⟨fun i hi=>h i (by omega),h n (by omega)⟩
theorem eu (f:Nat -> Bool):∀ n,fg f n=true ↔ ∃ i,i<n /\ f i=true
 | 0=>by simp [fg]
 | n+1=>by
  rw [fg,Xl,eu f n];constructor
  .rintro (⟨i,h1,h2⟩ | h)
   .exact ⟨i,by omega,h2⟩
   .exact ⟨n,by omega,h⟩
  .rintro ⟨i,h1,h2⟩;rcases Vw i n with h|h
   .exact .inl ⟨i,h,h2⟩
   .obtain rfl:i=n:=by omega
    exact .inr h2
theorem lZ {f:Nat -> Bool} {k n:Nat} (hk:k<n) (h:f k=true):fg f n=true:=(eu f n).2 ⟨k,hk,h⟩
theorem kb {f:Nat -> Bool} {k:Nat} (h1:fg f k=false) (h:f k=false):fg f (k+1)=false:=by simp [fg,h1,h]
def j5 (n:Int):Int:=2 ^ (max 0 (min n 31)).toNat - 1
theorem xG (n:Int):aw Tryz.prog 158 [eI n] (val (.int .i64 (j5 n))):=by
 refine aa ag Tryz.func158 rfl (by decide) Tryz.ntmps158 Tryz.results158 rfl (aI _) ?_;have h0:¬ (max 0 (min n 31)<0):=by omega
 have h2:(max 0 (min n 31)).toNat<=31:=by omega
 have h1:min (max 0 (min n 31)).toNat IntKind.i64.bits=(max 0 (min n 31)).toNat:=by
  have:IntKind.i64.bits=64:=rfl;omega
 have hp:(1:Int)<=2 ^ (max 0 (min n 31)).toNat /\ (2:Int) ^ (max 0 (min n 31)).toNat<=2147483648:=by
  have h3:2 ^ (max 0 (min n 31)).toNat<=2 ^ 31:=VU (by omega) h2;have h4:1<=2 ^ (max 0 (min n 31)).toNat:=XH;have e:(2:Int) ^ (max 0 (min n 31)).toNat=((2 ^ (max 0 (min n 31)).toNat:Nat):Int):=by simp
  rw [e];omega
 have w1:IntKind.i64.wrap (1 * 2 ^ (max 0 (min n 31)).toNat)=2 ^ (max 0 (min n 31)).toNat:=by
  rw [Int.one_mul];exact aB (by omega) (by omega)
 have w2:IntKind.i64.wrap (2 ^ (max 0 (min n 31)).toNat - 1)=2 ^ (max 0 (min n 31)).toNat - 1:=aB (by omega) (by omega);unfold j5
 repeat' first|refine ge (kf h0 (kf h1 (kf w1 w2))) ?_|decide|refine sp ?_ ?_<;>intro _
def G3 (s n:Int):Bool:=decide (0<=s) && decide (s<=j5 n)
def Ah (m:bl) (s:St) (i:Nat):Bool:=G3 (s.did.getD i 0) m.users.length && decide (0<=s.cnt.getD i 0) && decide (s.cnt.getD i 0<=(m.events[i]?.map (·.times)).getD 0)
def AF (m:bl) (s:St):Bool:=decide (s.vals.length=m.attrs.length) && decide (s.did.length=m.events.length) && decide (s.cnt.length=m.events.length) && G3 s.opn m.stages.length && G3 s.don m.miles.length && oK (Ah m s) m.events.length
def fV (m:bl) (s:St) (k:Nat):Bool:=(m.miles[k]?.map (·.final)).getD false && bq s.don (k:Int)
def fa (m:bl) (s:St):Bool:=fg (fV m s) m.miles.length
theorem k6 (m:bl) (s:St) (hl:m.miles.length<=1000000):aw Tryz.prog 131 [.agg (aQ m),.agg (gh s)] (val (.bool (fa m s))):=by
 refine aa ag Tryz.func131 rfl (by decide) Tryz.ntmps131 Tryz.results131 rfl (aI _) ?_
 repeat' first|refine gq ?_|decide|refine sp ?_ ?_<;>intro _
 unfold fa;refine ae (fun st=>∃ k:Nat,k<=m.miles.length /\ fg (fV m s) k=false /\ st=⟨24,[(2,.op 0 0 0),(3,.op 1 0 0),(8,.sl 5 (m.miles.map HH)),(9,eI (m.miles.length:Int)),(10,eI (k:Int))],[(0,some (.box 32 (aQ m))),(1,some (.box 132 (gh s)))],2⟩) (fun st=>m.miles.length - ap st 10) ⟨_,wC,0,Vd _,rfl,rfl⟩ ?_;rintro _ ⟨k,hk,hI,rfl⟩;by_cases hlt:k<m.miles.length
 .have eF:fV m s k=(m.miles[k].final && bq s.don (k:Int)):=by simp [fV,hlt]
  repeat' first|refine gq ?_|simp only [ab,hlt]|decide|refine sp ?_ ?_<;>intro _|((with_reducible first|apply ax (g:=129)|apply aL (g:=129));exact (nh _ _))
  all_goals first
   | (symm;refine lZ hlt ?_;rw [eF];grind)
   | exact rI wC ⟨k+1,by omega,kb hI (by rw [eF];grind),rfl⟩
 .obtain rfl:k=m.miles.length:=by omega
  repeat' first|refine gf @hlt ?_|decide|refine sp ?_ ?_<;>intro _
  exact hI.symm
def rG (l:List Int) (i:Int):Int:=if 0<=i /\ i<(l.length:Int) then l.getD i.toNat 0 else 0
theorem TH (l:List Int) (i:Int):aw Tryz.prog 183 [sI l,eI i] (val (.int .i64 (rG l i))):=by
 refine aa ag Tryz.func183 rfl (by decide) Tryz.ntmps183 Tryz.results183 rfl (aI _) ?_;unfold rG;by_cases h:0<=i /\ i<(l.length:Int)
 .obtain ⟨k,rfl⟩:∃ k:Nat,i=(k:Int):=⟨i.toNat,by omega⟩;have hk:k<l.length:=by omega
  rw [Vo h]
  repeat' first|refine go ?_|simp only [ab,hk]|decide|refine sp ?_ ?_<;>intro _
  all_goals grind
 .rw [Vj h]
  repeat' first|refine go ?_|decide|refine sp ?_ ?_<;>intro _
  rename_i h1 h2;simp at h1 h2;omega
def Bz (m:bl) (role user:Int):Bool:=decide (0<=role) && decide (role<(m.roles.length:Int)) && decide (0<=user) && decide (user<(m.users.length:Int)) && ((m.roles[role.toNat]?).map (fun p=>bq p.2 user)).getD false
theorem Uj (m:bl) (role user:Int):aw Tryz.prog 182 [.agg (aQ m),eI role,eI user] (val (.bool (Bz m role user))):=by
 refine aa ag Tryz.func182 rfl (by decide) Tryz.ntmps182 Tryz.results182 rfl (aI _) ?_;by_cases h:0<=role /\ role<(m.roles.length:Int)
 .obtain ⟨k,rfl⟩:∃ k:Nat,role=(k:Int):=⟨role.toNat,by omega⟩;have hk:k<m.roles.length:=by omega
  have eR:Bz m k user=(decide (0<=user) && decide (user<(m.users.length:Int)) && bq m.roles[k].2 user):=by simp [Bz,hk]
  rw [eR]
  repeat' first|refine gq ?_|simp only [ab,hk]|decide|refine sp ?_ ?_<;>intro _|((with_reducible first|apply ax (g:=129)|apply aL (g:=129));exact (nh _ _))
  all_goals grind
 .have eR:Bz m role user=false:=by
   have:(decide (0<=role) && decide (role<(m.roles.length:Int)))=false:=by
    rw [VW];simp only [VA];omega
   simp [Bz,this]
  rw [eR]
  repeat' first|refine gq ?_|decide|refine sp ?_ ?_<;>intro _
  all_goals first
   | rfl
   | (exfalso;grind)
def jK (m:bl) (s:St) (event user:Int) (k:Nat):Bool:=((m.sods[k]?).map (fun x=>((x.1 == event) && bq (rG s.did x.2) user) || ((x.2 == event) && bq (rG s.did x.1) user))).getD false
def xD (m:bl) (s:St) (event user:Int):Bool:=fg (jK m s event user) m.sods.length
theorem N2 (m:bl) (s:St) (event user:Int) (hl:m.sods.length<=1000000):aw Tryz.prog 192 [.agg (aQ m),.agg (gh s),eI event,eI user] (val (.bool (xD m s event user))):=by
 refine aa ag Tryz.func192 rfl (by decide) Tryz.ntmps192 Tryz.results192 rfl (aI _) ?_
 repeat' first|refine gq ?_|decide|refine sp ?_ ?_<;>intro _
 unfold xD;refine ae (fun st=>∃ k:Nat,k<=m.sods.length /\ fg (jK m s event user) k=false /\ st=⟨47,[(2,eI event),(3,eI user),(4,.op 0 0 0),(5,.op 1 0 0),(12,.sl 2 (m.sods.map Tq)),(13,eI (m.sods.length:Int)),(14,eI (k:Int))],[(0,some (.box 32 (aQ m))),(1,some (.box 132 (gh s)))],2⟩) (fun st=>m.sods.length - ap st 14) ⟨_,wC,0,Vd _,rfl,rfl⟩ ?_;rintro _ ⟨k,hk,hI,rfl⟩;by_cases hlt:k<m.sods.length
 .obtain ⟨⟨a,b⟩,hx⟩:∃ x,m.sods[k]=x:=⟨_,rfl⟩;have ex:Tq m.sods[k]=[eI a,eI b]:=by rw [hx]
  have eF:jK m s event user k=(((a == event) && bq (rG s.did b) user) || ((b == event) && bq (rG s.did a) user)):=by simp [jK,hlt,hx]
  repeat' first|refine gq ?_|simp only [ab,hlt,ex]|decide|refine sp ?_ ?_<;>intro _|((with_reducible first|apply ax (g:=129)|apply aL (g:=129));exact (nh _ _))|((with_reducible first|apply ax (g:=183)|apply aL (g:=183));exact (TH _ _))
  all_goals first
   | (symm;refine lZ hlt ?_;rw [eF];grind)
   | exact rI wC ⟨k+1,by omega,kb hI (by rw [eF];grind),rfl⟩
 .obtain rfl:k=m.sods.length:=by omega
  repeat' first|refine gf @hlt ?_|decide|refine sp ?_ ?_<;>intro _
  exact hI.symm
noncomputable def xE (m:bl) (event:Int):Option Ev:=if 0<=event then m.events[event.toNat]? else none
noncomputable def ir (m:bl) (s:St) (event user:Int):Bool:=
 match xE m event with
 | none=>false
 | some x=>!fa m s && decide (x.stage<(m.stages.length:Int)) && bq s.opn x.stage && Bz m x.role user && (decide (x.times<=0) || decide (rG s.cnt event<x.times))
theorem IJ (m:bl) (s:St) (event user:Int) (hl:m.miles.length<=1000000):aw Tryz.prog 161 [.agg (aQ m),.agg (gh s),eI event,eI user] (val (.bool (ir m s event user))):=by
 refine aa ag Tryz.func161 rfl (by decide) Tryz.ntmps161 Tryz.results161 rfl (aI _) ?_;by_cases h:0<=event /\ event<(m.events.length:Int)
 .obtain ⟨k,rfl⟩:∃ k:Nat,event=(k:Int):=⟨event.toNat,by omega⟩;have hk:k<m.events.length:=by omega
  obtain ⟨x,hx⟩:∃ x,m.events[k]=x:=⟨_,rfl⟩;have ee:xE m (k:Int)=some x:=by simp [xE,hk,hx]
  have eR:ir m s k user=(!fa m s && decide (x.stage<(m.stages.length:Int)) && bq s.opn x.stage && Bz m x.role user && (decide (x.times<=0) || decide (rG s.cnt k<x.times))):=by simp only [ir,ee]
  rw [eR]
  repeat' first|refine gq ?_|simp only [ab,hk,hx]|decide|refine sp ?_ ?_<;>intro _|((with_reducible first|apply ax (g:=129)|apply aL (g:=129));exact (nh _ _))|((with_reducible first|apply ax (g:=131)|apply aL (g:=131));exact (k6 _ _ hl))|((with_reducible first|apply ax (g:=182)|apply aL (g:=182));exact (Uj _ _ _))|((with_reducible first|apply ax (g:=183)|apply aL (g:=183));exact (TH _ _))
  all_goals grind
 .have ee:xE m event=none:=by
   unfold xE;split
   .exact Vt (by omega)
   .rfl
  have eR:ir m s event user=false:=by simp only [ir,ee]
  rw [eR]
  repeat' first|refine gq ?_|decide|refine sp ?_ ?_<;>intro _|((with_reducible first|apply ax (g:=131)|apply aL (g:=131));exact (k6 _ _ hl))
  all_goals first
   | rfl
   | (exfalso;grind)
noncomputable def dZ (m:bl) (s:St) (event user:Int):Bool:=ir m s event user && !xD m s event user
theorem vg (m:bl) (s:St) (event user:Int) (hl:m.miles.length<=1000000) (hl2:m.sods.length<=1000000):aw Tryz.prog 180 [.agg (aQ m),.agg (gh s),eI event,eI user] (val (.bool (dZ m s event user))):=by
 refine aa ag Tryz.func180 rfl (by decide) Tryz.ntmps180 Tryz.results180 rfl (aI _) ?_;unfold dZ
 repeat' first|refine gq ?_|decide|refine sp ?_ ?_<;>intro _|((with_reducible first|apply ax (g:=161)|apply aL (g:=161));exact (IJ _ _ _ _ hl))|((with_reducible first|apply ax (g:=192)|apply aL (g:=192));exact (N2 _ _ _ _ hl2))
 all_goals grind
def eh (f:Nat -> Bool):Nat -> List Int
 | 0=>[]
 | n+1=>if f n=true then eh f n ++ [(n:Int)] else eh f n
theorem mw (f:Nat -> Bool):∀ n,(eh f n).length<=n
 | 0=>by simp [eh]
 | n+1=>by
  have:=mw f n;unfold eh;split
  .simp;omega
  .omega
noncomputable def fA (m:bl) (s:St) (event:Int):List Int:=eh (fun u=>dZ m s event (u:Int)) m.users.length
theorem UJ (m:bl) (s:St) (event:Int) (hl:m.miles.length<=1000000) (hl2:m.sods.length<=1000000) (hl3:m.users.length<=1000000):aw Tryz.prog 157 [.agg (aQ m),.agg (gh s),eI event] (g8 3 1 ((fA m s event).map fun n=>[eI n])):=by
 refine aa ag Tryz.func157 rfl (by decide) Tryz.ntmps157 Tryz.results157 rfl (ch _ _ _) ?_
 repeat' first|refine go ?_|decide|refine sp ?_ ?_<;>intro _
 unfold fA;obtain ⟨f,hf⟩:∃ f:Nat -> Bool,f=fun u:Nat=>dZ m s event (u:Int):=⟨_,rfl⟩;rw [<- hf];have e0:eh f 0=[]:=rfl;refine ae (fun st=>∃ k:Nat,k<=m.users.length /\ st=⟨26,[(2,eI event),(3,.op 0 0 0),(4,.op 1 0 0),(7,.osl 2),(11,eI (m.users.length:Int)),(12,eI (k:Int))],[(0,some (.box 32 (aQ m))),(1,some (.box 132 (gh s))),(2,some (.row 3 1 ((eh f k).map fun n=>[eI n])))],3⟩) (fun st=>m.users.length - ap st 12) ⟨_,((be 7 3 1 (by simp only [iz,aj.get,bb,aj.put,↓reduceIte,reduceCtorEq,Nat.reduceLT,Nat.reduceEqDiff,Nat.reduceAdd,Nat.reduceLeDiff,eq_self,implies_true,e0,VL])).trans (wS [0,1,2] e0)),0,Vd _,rfl⟩ ?_;rintro _ ⟨k,hk,rfl⟩;have hlen:=mw f k;by_cases hlt:k<m.users.length
 .have hef:dZ m s event (k:Int)=f k:=by rw [hf]
  repeat' first|refine gf @hlt ?_|decide|refine sp ?_ ?_<;>intro _|((refine ax (vg m s event (k:Int) hl hl2) ?_;rw [hef]))
  .rename_i h
   have et:(eh f (k+1)).map (fun n=>[eI n])=(eh f k).map (fun n=>[eI n]) ++ [[eI (k:Int)]]:=by
    rw [eh,Vo h];simp
   refine ⟨rfl,by omega,rI (wS [0,1,4] et) ⟨k+1,by omega,rfl⟩⟩
  .rename_i h
   have et:eh f (k+1)=eh f k:=by
    rw [eh,Vj (by simp [h])]
   exact rI (wE et) ⟨k+1,by omega,rfl⟩
 .obtain rfl:k=m.users.length:=by omega
  repeat' first|refine gf @hlt ?_|decide|refine sp ?_ ?_<;>intro _
  exact aM (by simp [af.gc])
end
end
end Go.Proofs.YtmmoidfcfjklaaaGreat
