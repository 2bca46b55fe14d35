/-
  Parts of the proof: Sinp30, Sinp31, Sinp32.
-/
import Derived.Test.YtglaiabelcefeaaGreatSinq9
import Derived.Test.YtglaiabelcefeaaGreatProg
set_option linter.unusedVariables false
set_option linter.unusedSimpArgs false
set_option linter.defProp false
set_option maxRecDepth 100000
set_option maxHeartbeats 16000000
namespace Go.Proofs.YtglaiabelcefeaaGreat
open Go.RowKit
section
section
theorem IB(m:aJ)(hf:jN m)(hc:iR m)(hk:TF m)(h:tK m):am Tryz.prog 53 [.agg (aC m)] (val (.bool true)):=by
 refine aa ag Tryz.func53 rfl (by decide) Tryz.ntmps53 Tryz.results53 rfl (aD _) ?_;obtain⟨hgs,hms,hsts,hevs,hats,huss,hros,hsos,-⟩:=id hf.sizes
 repeat' first|refine go ?_|decide|refine sp ?_ ?_<;>intro _
 refine af (fun st=>∃k:Nat,k<=m.roles.length/\st=⟨132,[(1,.op 0 0 0),(16,.sl 2 (m.roles.map Mq)),(17,eI (m.roles.length:Int)),(18,eI (k:Int))],[(0,some (.box 32 (aC m)))],1⟩) (fun st=>m.roles.length-ax st 18) ⟨_,(wR [0]),0,UR _,rfl⟩ ?_;rintro _ ⟨k,hkl,rfl⟩;by_cases hlt:k<m.roles.length
 .obtain ⟨g1,g2,g3⟩:=h.roles k hlt;have hu:=hk.users;have q0:((m.users.length:Int)<0)=False:=by simp
  have d1:decide (m.roles[k].2<=0)=false:=U5 (by omega)
  have d2:decide (IntKind.i64.wrap (1 * 2 ^ min m.users.length IntKind.i64.bits)<=m.roles[k].2)=false:=by
   have hp:2 ^ m.users.length<=2 ^ 4:=Vp (by omega) hu;have hp1:1<=2 ^ m.users.length:=WR
   have e1:(2:Int) ^ min m.users.length IntKind.i64.bits=((2 ^ m.users.length:Nat):Int):=by
    rw[show min m.users.length IntKind.i64.bits=m.users.length from Xw (by show m.users.length<=64;omega)];simp
   rw[e1,Int.one_mul,aE (by omega) (by omega)];exact U5 (by omega)
  repeat' first|refine gq ?_|simp only[ab,hlt,q0,d1,d2]|decide|refine sp ?_ ?_<;>intro _
  all_goals exact rI (wR [0]) ⟨k+1,by omega,rfl⟩
 obtain rfl:k=m.roles.length:=by omega
 repeat' first|refine ge @hlt ?_|decide|refine sp ?_ ?_<;>intro _
 clear hkl hlt;refine af (fun st=>∃k:Nat,k<=m.stages.length/\st=⟨132,[(1,.op 0 0 0),(36,.sl 2 (m.stages.map Mq)),(37,eI (m.stages.length:Int)),(38,eI (k:Int))],[(0,some (.box 32 (aC m)))],1⟩) (fun st=>m.stages.length-ax st 38) ⟨_,(wR [0]),0,UR _,rfl⟩ ?_;rintro _ ⟨k,hkl,rfl⟩;by_cases hlt:k<m.stages.length
 .rcases h.stages k hlt with g|g
  .have q:(m.stages[k].2 != -1)=false:=by rw[g];rfl
   repeat' first|refine gq ?_|simp only[ab,hlt,q]|decide|refine sp ?_ ?_<;>intro _
   all_goals exact rI (wR [0]) ⟨k+1,by omega,rfl⟩
  .have hI:=qx m.stages[k].2 m.stages.length;rw[g] at hI
   have q:(m.stages[k].2 != -1)=true:=by
    simp only[df,U1,U7] at g;simp;omega
   repeat' first|refine gq ?_|simp only[ab,hlt,q]|decide|refine sp ?_ ?_<;>intro _|refine cA hI ?_|fail
   all_goals exact rI (wR [0]) ⟨k+1,by omega,rfl⟩
 obtain rfl:k=m.stages.length:=by omega
 repeat' first|refine ge @hlt ?_|decide|refine sp ?_ ?_<;>intro _
 clear hkl hlt;refine af (fun st=>∃k:Nat,k<=m.events.length/\st=⟨132,[(1,.op 0 0 0),(56,.sl 5 (m.events.map t9)),(57,eI (m.events.length:Int)),(58,eI (k:Int))],[(0,some (.box 32 (aC m)))],1⟩) (fun st=>m.events.length-ax st 58) ⟨_,(wR [0]),0,UR _,rfl⟩ ?_;rintro _ ⟨k,hkl,rfl⟩;by_cases hlt:k<m.events.length
 .obtain ⟨x,hx⟩:∃x,m.events[k]=x:=⟨_,rfl⟩;have hE:=AO m x hk.attrs (hx ▸ hf.events _ (UQ hlt)) (hx ▸ h.events k hlt)
  repeat' first|refine gq ?_|simp only[ab,hlt,hx]|decide|refine sp ?_ ?_<;>intro _|refine cA hE ?_|fail
  all_goals exact rI (wR [0]) ⟨k+1,by omega,rfl⟩
 obtain rfl:k=m.events.length:=by omega
 repeat' first|refine ge @hlt ?_|decide|refine sp ?_ ?_<;>intro _
 clear hkl hlt;refine af (fun st=>∃k:Nat,k<=m.guards.length/\st=⟨132,[(1,.op 0 0 0),(68,.sl 3 (m.guards.map El)),(69,eI (m.guards.length:Int)),(70,eI (k:Int))],[(0,some (.box 32 (aC m)))],1⟩) (fun st=>m.guards.length-ax st 70) ⟨_,(wR [0]),0,UR _,rfl⟩ ?_;rintro _ ⟨k,hkl,rfl⟩;by_cases hlt:k<m.guards.length
 .obtain ⟨x,hx⟩:∃x,m.guards[k]=x:=⟨_,rfl⟩;have hl:=hf.guards x (hx ▸ UQ hlt);have hE:=vn m x.stage x.event x.cond (by omega) (hc.1 x (hx ▸ UQ hlt)) (hx ▸ h.guards k hlt)
  repeat' first|refine gq ?_|simp only[ab,hlt,hx]|decide|refine sp ?_ ?_<;>intro _|refine cA hE ?_|fail
  all_goals exact rI (wR [0]) ⟨k+1,by omega,rfl⟩
 obtain rfl:k=m.guards.length:=by omega
 repeat' first|refine ge @hlt ?_|decide|refine sp ?_ ?_<;>intro _
 clear hkl hlt;refine af (fun st=>∃k:Nat,k<=m.miles.length/\st=⟨132,[(1,.op 0 0 0),(85,.sl 5 (m.miles.map yg)),(86,eI (m.miles.length:Int)),(87,eI (k:Int))],[(0,some (.box 32 (aC m)))],1⟩) (fun st=>m.miles.length-ax st 87) ⟨_,(wR [0]),0,UR _,rfl⟩ ?_;rintro _ ⟨k,hkl,rfl⟩;by_cases hlt:k<m.miles.length
 .obtain ⟨x,hx⟩:∃x,m.miles[k]=x:=⟨_,rfl⟩;have hl:=hf.miles x (hx ▸ UQ hlt);have hE:=vn m x.stage x.event x.cond (by omega) (hc.2 x (hx ▸ UQ hlt)) (hx ▸ h.miles k hlt)
  repeat' first|refine gq ?_|simp only[ab,hlt,hx]|decide|refine sp ?_ ?_<;>intro _|refine cA hE ?_|fail
  all_goals exact rI (wR [0]) ⟨k+1,by omega,rfl⟩
 obtain rfl:k=m.miles.length:=by omega
 repeat' first|refine ge @hlt ?_|decide|refine sp ?_ ?_<;>intro _
 clear hkl hlt;refine af (fun st=>∃k:Nat,k<=m.sods.length/\st=⟨132,[(1,.op 0 0 0),(102,.sl 2 (m.sods.map DG)),(103,eI (m.sods.length:Int)),(104,eI (k:Int))],[(0,some (.box 32 (aC m)))],1⟩) (fun st=>m.sods.length-ax st 104) ⟨_,(wR [0]),0,UR _,rfl⟩ ?_;rintro _ ⟨k,hkl,rfl⟩;by_cases hlt:k<m.sods.length
 .obtain ⟨g1,g2,g3⟩:=h.sods k hlt;have hI1:=qx m.sods[k].1 m.events.length;have hI2:=qx m.sods[k].2 m.events.length;rw[g1] at hI1;rw[g2] at hI2;have q:(m.sods[k].1 == m.sods[k].2)=false:=by simp[g3]
  repeat' first|refine gq ?_|simp only[ab,hlt,q]|decide|refine sp ?_ ?_<;>intro _|refine cA hI1 ?_|refine cA hI2 ?_|fail
  all_goals exact rI (wR [0]) ⟨k+1,by omega,rfl⟩
 obtain rfl:k=m.sods.length:=by omega
 repeat' first|refine gf @hlt ?_|decide|refine sp ?_ ?_<;>intro _
theorem Fv(m:aJ)(hf:jN m)(hc:iR m)(hp:∀p∈m.stages,aA p.2)(h:mZ m):am Tryz.prog 24 [.agg (aC m)] (val (.bool true)):=by
 refine aa ag Tryz.func24 rfl (by decide) Tryz.ntmps24 Tryz.results24 rfl (aD _) ?_;obtain⟨hg,hm,hst,hev,hat,hus,hro,hso,hor,-⟩:=id hf.sizes;obtain⟨js,ho,hjl,hgr⟩:=h.order;have hF:=QI m h.chk;have hP:=IB m hf hc h.chk h.named;have hB:=H6 m.events (by omega) hf.events h.writes h.sum;have hN:=Co m (by omega);have hCi:=Fb (pars m) (by simp[pars];omega) (wh hp);have hCn:=u6 m hf;have hO:=Ls m js hf hp hjl hgr;rw[<- ho] at hO;have hE:=JY m.order (by omega);have d1:decide (0<=dW (pars m))=false:=U5 (by have:=h.chk.circle;omega);have z0:((0:Int) == 0)=true:=rfl
 repeat' first|refine gq ?_|decide|refine sp ?_ ?_<;>intro _|refine cA hF ?_|refine cA hP ?_|refine cA hB ?_|fail
 refine dg hN (.inr bk) ?_
 repeat' first|refine go ?_|decide|refine sp ?_ ?_<;>intro _
 refine al hCi ?_
 repeat' first|refine ge d1 ?_|decide|refine sp ?_ ?_<;>intro _
 have hc6:=h.consts;refine lS hCn (fun h0=>?_) (fun h0=>?_)
 .have z6:decide ((6:Int)<((0:Nat):Int))=false:=rfl
  repeat' first|refine ge z6 ?_|decide|refine sp ?_ ?_<;>intro _
  refine pg hO (.inr ⟨⟨trivial,trivial,trivial⟩,jM,trivial⟩) ?_;simp only[AV.shift,AV.shiftL,ae.shift,aB.shift,VE,Vn,Wc,VR]
  repeat' first|refine ge z0 ?_|decide|refine sp ?_ ?_<;>intro _
  refine al hE ?_
  repeat' first|refine go ?_|decide|refine sp ?_ ?_<;>intro _
 .have z6:decide ((6:Int)<((ba m []).length:Int))=false:=U5 (by omega);have z7:decide (6<(ba m []).length)=false:=U5 (by omega)
  repeat' first|refine ge (kf z6 z7) ?_|decide|refine sp ?_ ?_<;>intro _
  refine pg hO (.inr ⟨⟨trivial,trivial,trivial⟩,jM,trivial⟩) ?_;simp only[AV.shift,AV.shiftL,ae.shift,aB.shift,VE,Vn,Wc,VR]
  repeat' first|refine ge z0 ?_|decide|refine sp ?_ ?_<;>intro _
  refine al hE ?_
  repeat' first|refine go ?_|decide|refine sp ?_ ?_<;>intro _
end
section
def nj(n:Int):Prop:=-9223372036854775808<=n/\n<=9223372036854775807
instance (n:Int):Decidable (nj n):=by unfold nj;infer_instance
def K3(a b:Int):cu:=if nj (a+b) then ⟨.tup [eI (a+b),eB true],[],0⟩ else ⟨.tup [eI 0,eB false],[],0⟩
theorem Pq(a b:Int):(K3 a b).Ok:=by
 unfold K3;split<;>exact⟨fun id o h=>(by cases h),⟨trivial,trivial,trivial⟩⟩
theorem UG:(true == true)=true:=rfl
theorem UF:(true == false)=false:=rfl
theorem UE:(false == true)=false:=rfl
theorem UI:(false == false)=true:=rfl
theorem UK:(true != true)=false:=rfl
theorem UM:(false != false)=false:=rfl
theorem IH(a b:Int)(ha:aA a)(hb:aA b):am Tryz.prog 67 [eI a,eI b] (K3 a b):=by
 refine aa ag Tryz.func67 rfl (by decide) Tryz.ntmps67 Tryz.results67 rfl (Pq a b) ?_;unfold aA at ha hb;unfold K3;by_cases g:nj (a+b)
 .rw [UZ g];unfold nj at g;have ew:IntKind.i64.wrap (a+b)=a+b:=aE (by omega) (by omega);by_cases h1:a<0<;>by_cases h2:b<0
  .have d1:decide (a<0)=true:=Vb h1;have d2:decide (b<0)=true:=Vb h2;have d3:decide (a+b<0)=true:=Vb (by omega)
   repeat' first|refine gf (kf d1 (kf d2 (kf ew (kf d3 (kf @UG @UK))))) ?_|decide|refine sp ?_ ?_<;>intro _
   all_goals exact aF (by simp[AV.ren,AV.renL])
  .have d1:decide (a<0)=true:=Vb h1;have d2:decide (b<0)=false:=U5 h2
   repeat' first|refine gf (kf d1 (kf d2 (kf ew @UF))) ?_|decide|refine sp ?_ ?_<;>intro _
   all_goals exact aF (by simp[AV.ren,AV.renL])
  .have d1:decide (a<0)=false:=U5 h1;have d2:decide (b<0)=true:=Vb h2
   repeat' first|refine gf (kf d1 (kf d2 (kf ew @UE))) ?_|decide|refine sp ?_ ?_<;>intro _
   all_goals exact aF (by simp[AV.ren,AV.renL])
  .have d1:decide (a<0)=false:=U5 h1;have d2:decide (b<0)=false:=U5 h2;have d3:decide (a+b<0)=false:=U5 (by omega)
   repeat' first|refine gf (kf d1 (kf d2 (kf ew (kf d3 (kf @UI @UM))))) ?_|decide|refine sp ?_ ?_<;>intro _
   all_goals exact aF (by simp[AV.ren,AV.renL])
 .rw [UX g];unfold nj at g;by_cases h1:a<0<;>by_cases h2:b<0
  .have d1:decide (a<0)=true:=Vb h1;have d2:decide (b<0)=true:=Vb h2;have ew:IntKind.i64.wrap (a+b)=a+b+18446744073709551616:=by rw[IntKind.wrap];simp[IntKind.bits,IntKind.signed];omega
   have d3:decide (a+b+18446744073709551616<0)=false:=U5 (by omega)
   repeat' first|refine gf (kf d1 (kf d2 (kf ew (kf d3 (kf @UG @UE))))) ?_|decide|refine sp ?_ ?_<;>intro _
   all_goals exact aF (by simp[AV.ren,AV.renL])
  .omega
  .omega
  .have d1:decide (a<0)=false:=U5 h1;have d2:decide (b<0)=false:=U5 h2;have ew:IntKind.i64.wrap (a+b)=a+b-18446744073709551616:=by rw[IntKind.wrap];simp[IntKind.bits,IntKind.signed];omega
   have d3:decide (a+b-18446744073709551616<0)=true:=Vb (by omega)
   repeat' first|refine gf (kf d1 (kf d2 (kf ew (kf d3 (kf @UI @UF))))) ?_|decide|refine sp ?_ ?_<;>intro _
   all_goals exact aF (by simp[AV.ren,AV.renL])
def eJ(c n:Int):Int:=if n<1 then 0 else c / 8589934592 % n
theorem lT{c:Int}{n:Nat}(hn:0<n):0<=eJ c (n:Int)/\eJ c (n:Int)<(n:Int):=by
 unfold eJ;rw[UX (by omega)];exact⟨Int.emod_nonneg _ (by omega),Int.emod_lt_of_pos _ (by omega)⟩
def oW(near:List Int)(c:Int):Int×Int:=
 let n:=near.getD (eJ (aM c) (near.length:Int)).toNat 0
 let d:=eJ (aM (aM c)) 3-1
 (if nj (n+d) then n+d else n,aM (aM c))
theorem OC{near:List Int}{c:Int}(h:∀x∈near,aA x)(hn:0<near.length):aA (oW near c).1/\rA (oW near c).2:=by
 obtain⟨h1,h2⟩:=lT (c:=aM c) hn;refine⟨?_,kO _⟩;unfold oW;simp only;split
 .rename_i g;unfold nj at g;unfold aA;omega
 .have hlt:(eJ (aM c) (near.length:Int)).toNat<near.length:=by omega
  rw[Os,p0 hlt];exact h _ (UQ hlt)
theorem GF{cx:Cx}{w:World}{tab:ae}{L:Nat->Value}{f:FuncId}{a:AV}(h:bL cx w tab L undef (.bfn f [a])):False:=by
 obtain⟨y,h1,_⟩:=wn h;cases h1
theorem Ly(near:List Int)(c:Int)(hn:0<near.length)(hl:near.length<=1000000)(hok:∀x∈near,aA x)(hc:rA c) :
  y8 Tryz.prog 29 89 [eU c] [] [sI near,.bfn 25 [.op 0 0 0]] (fun av cells' objs'=>av=eI (oW near c).1/\cells'=[eU (oW near c).2]/\objs'=[]):=by
 refine ud ag Tryz.func29 rfl (by decide) Tryz.ntmps29 Tryz.results29 1 (.bfn 25 [.op 0 0 0]) rfl (MD _ 0 0) GF rfl (by kernel_rfl) (by simp[AV.ltL,AV.lt]) (by simp[AV.ltL,AV.lt]) (by simp[dF]) ?_;simp only[cz,Wd,We];obtain⟨p1,p2⟩:=lT (c:=aM c) hn;have q0:0<=eJ (aM (aM c)) 3/\eJ (aM (aM c)) 3<3:=lT (c:=aM (aM c)) (n:=3) (by omega);obtain⟨q1,q2⟩:=q0;obtain⟨i,hi⟩:∃i:Nat,eJ (aM c) (near.length:Int)=(i:Int):=⟨(eJ (aM c) (near.length:Int)).toNat,by omega⟩;have hil:i<near.length:=by omega
 have hP1:=CO (aM c) (near.length:Int) (kO c) (by unfold aA;omega);have hP2:=CO (aM (aM c)) 3 (kO _) (by unfold aA;omega);have e1:(if (near.length:Int)<1 then 0 else aM c / 8589934592 % (near.length:Int))=(i:Int):=hi;have e2:(if (3:Int)<1 then 0 else aM (aM c) / 8589934592 % 3)=eJ (aM (aM c)) 3:=rfl;rw[e1] at hP1;rw[e2] at hP2
 have hnum:oW near c=(if nj (near[i]+(eJ (aM (aM c)) 3-1)) then near[i]+(eJ (aM (aM c)) 3-1) else near[i],aM (aM c)):=by
  unfold oW;simp only[hi,VD,Os,p0 hil,Vi]
 rw[hnum];obtain⟨d,hd⟩:∃d,d=eJ (aM (aM c)) 3:=⟨_,rfl⟩;rw[<- hd] at hP2 q1 q2 ⊢;have hA:=IH near[i] (d-1) (hok _ (UQ hil)) (by unfold aA;omega);have ew:IntKind.i64.wrap (d-1)=d-1:=aE (by omega) (by omega);have hN1:=xp c;have hN2:=xp (aM c);generalize aM (aM c)=c2 at *;generalize aM c=c1 at *
 repeat' first|refine go ?_|decide|refine sp ?_ ?_<;>intro _
 refine Py ?_;refine oJ ag Tryz.func25 rfl (by decide) Tryz.ntmps25 Tryz.results25 rfl (by kernel_rfl) [0,1,8] fun vs=>?_
 repeat' first|refine ge (kf @j5 @i9) ?_|decide|refine sp ?_ ?_<;>intro _
 refine al hN1 ?_
 repeat' first|refine ge (kf @j5 @i9) ?_|decide|refine sp ?_ ?_<;>intro _
 refine al hP1 ?_
 repeat' first|refine go ?_|simp only[DU,EH,ol,j5,i9,cX,fw,fA,aB.shift,fx]|decide|refine sp ?_ ?_<;>intro _
 repeat' first|refine go ?_|simp only[ab,hil]|decide|refine sp ?_ ?_<;>intro _
 refine Py ?_;refine oJ ag Tryz.func25 rfl (by decide) Tryz.ntmps25 Tryz.results25 rfl (by kernel_rfl) [1,5,16] fun vs2=>?_
 repeat' first|refine ge (kf @j5 @i9) ?_|decide|refine sp ?_ ?_<;>intro _
 refine al hN2 ?_
 repeat' first|refine ge (kf @j5 @i9) ?_|decide|refine sp ?_ ?_<;>intro _
 refine al hP2 ?_
 repeat' first|refine go ?_|simp only[DU,EH,ol,j5,i9,cX,fw,fA,aB.shift,fx]|decide|refine sp ?_ ?_<;>intro _
 repeat' first|refine ge ew ?_|decide|refine sp ?_ ?_<;>intro _
 unfold K3 at hA;by_cases g:nj (near[i]+(d-1))
 .rw [UZ g] at hA ⊢;refine cL hA (ro) ?_
  repeat' first|refine gq ?_|decide|refine sp ?_ ?_<;>intro _
  all_goals exact⟨[eU c2],[],⟨rfl,rfl⟩,trivial,⟨rfl,by simp[AV.ltL,AV.lt],by simp⟩,(wS [4] (kf @cz.eq_1 (kf @cz.eq_2 @We)))⟩
 .rw [UX g] at hA ⊢;refine cL hA (ro) ?_
  repeat' first|refine gq ?_|decide|refine sp ?_ ?_<;>intro _
  all_goals exact⟨[eU c2],[],⟨rfl,rfl⟩,trivial,⟨rfl,by simp[AV.ltL,AV.lt],by simp⟩,(wS [4] (kf @cz.eq_1 (kf @cz.eq_2 @We)))⟩
end
section
theorem mG(v:Mv):am Tryz.prog 74 [.agg (qZ v)] (val (.bool (gI v))):=by
 refine aa ag Tryz.func74 rfl (by decide) Tryz.ntmps74 Tryz.results74 rfl (aD _) ?_;unfold gI
 repeat' first|refine go ?_|decide|refine sp ?_ ?_<;>intro _
 all_goals grind
theorem g9(l:List Int){k:Nat}(h:k<l.length):((l.take (k+1)).map fun n=>[eI n])=((l.take k).map fun n=>[eI n]) ++ [[eI l[k]]]:=dm (fun n=>[eI n]) l h
theorem C6(sets mv vals:List Int)(i:Nat)(hi:i<vals.length)(k:Nat)(hk:k<sets.length)(hm:k<mv.length) :
  (a7 sets mv vals (k+1))[i]'(by rw[cJ];exact hi)=if sets[k]=(i:Int) then mv[k] else (a7 sets mv vals k)[i]'(by rw[cJ];exact hi):=by
 have e:a7 sets mv vals (k+1)=if 0<=sets[k]/\sets[k]<((a7 sets mv vals k).length:Int) then (a7 sets mv vals k).set (sets[k]).toNat mv[k] else a7 sets mv vals k:=by
  rw[a7];simp only[Os,p0 hk,p0 hm,Vi]
 have hl:=cJ sets mv vals k;simp only[e];by_cases h:sets[k]=(i:Int)
 .rw [UZ h];have h2:0<=sets[k]/\sets[k]<((a7 sets mv vals k).length:Int):=by omega
  simp only[UZ h2];rw[List.getElem_set,UZ (by omega)]
 .rw [UX h];by_cases h2:0<=sets[k]/\sets[k]<((a7 sets mv vals k).length:Int)
  .simp only[UZ h2];rw[List.getElem_set_ne (by omega)]
  .simp only[UX h2]
theorem Kl(m:aJ)(s:St)(v:Mv)(e:Nat)(x:Ev)(he:v.event=(e:Int))(hlt:e<m.events.length)(hx:m.events[e]=x)(hd:e<s.did.length)(hc:e<s.cnt.length)(hv:x.sets.length=v.vals.length)(hu:0<=v.user/\v.user<31)(hdid:aA s.did[e])(hce:s.cnt.length=m.events.length)
  (hl1:s.vals.length<=1000000) (hl2:s.did.length<=1000000) (hl3:s.cnt.length<=1000000) (hl4:x.sets.length<=1000000) (hw:0<x.times -> -9223372036854775808<=s.cnt[e]/\s.cnt[e]<9223372036854775807) :
  am Tryz.prog 75 [.agg (aC m),.agg (cy s),.agg (qZ v)] ⟨.agg (cy (dh m s v)),[],0⟩:=by
 obtain⟨ve,vu,vv⟩:=v;simp only at he hv hu;subst he;have ee:mh m (e:Int)=some x:=by simp[mh,hlt,hx]
 have et:dh m s ⟨(e:Int),vu,vv⟩=⟨a7 x.sets vv s.vals x.sets.length,s.opn,s.don,s.did.set e (bn s.did[e] vu),if 0<x.times then s.cnt.set e (s.cnt[e]+1) else s.cnt⟩:=by
  unfold dh;simp only[ee,VD,Os,p0 hd,p0 hc,Vi]
 rw[et];obtain⟨V,hV⟩:∃V,a7 x.sets vv s.vals x.sets.length=V:=⟨_,rfl⟩;obtain⟨D,hD⟩:∃D,s.did.set e (bn s.did[e] vu)=D:=⟨_,rfl⟩;obtain⟨C,hC⟩:∃C,(if 0<x.times then s.cnt.set e (s.cnt[e]+1) else s.cnt)=C:=⟨_,rfl⟩;have hVl:V.length=s.vals.length:=by rw[<- hV,cJ]
 have hDl:D.length=s.did.length:=by rw[<- hD,W3]
 have hCl:C.length=s.cnt.length:=by rw[<- hC];split<;>simp
 rw[hV,hD,hC];refine am.still (R:=⟨.agg [.osl 0,eI s.opn,eI s.don,.osl 1,.osl 2],[(0,some (.row 2 1 (V.map fun n=>[eI n]))),(1,some (.row 3 1 (D.map fun n=>[eI n]))),(2,some (.row 3 1 (C.map fun n=>[eI n])))],3⟩) [0,1,2] ?_ ?_ (by simp[AV.lt,AV.ltL])
 .refine aa ag Tryz.func75 rfl (by decide) Tryz.ntmps75 Tryz.results75 rfl (fR (by simp[bX,aB.lt,AV.ltL,AV.lt]) (by simp[AV.lt,AV.ltL])) ?_
  repeat' first|refine go ?_|decide|refine sp ?_ ?_<;>intro _
  refine af (fun st'=>∃i:Nat,i<=s.vals.length/\st'=⟨134,[(3,.op 0 0 0),(4,.op 1 0 0),(5,.op 2 0 0),(6,.op 3 0 0),(7,.op 4 0 0),(8,eI (i:Int))],[(0,some (.box 32 (aC m))),(1,some (.box 59 (cy s))),(2,some (.box 76 [eI (e:Int),eI vu,sI vv])),(3,some (.box 59 [.c (.slice none 0 0),eI 0,eI 0,.c (.slice none 0 0),.c (.slice none 0 0)])),(4,some (.box 59 [.osl 5,eI s.opn,eI s.don,.c (.slice none 0 0),.c (.slice none 0 0)])),(5,some (.row 2 1 ((V.take i).map fun n=>[eI n])))],6⟩) (fun st'=>s.vals.length-ax st' 8)
   ⟨_,(cQ 4 0 2 1 (t:=59) (cells:=[.c (.slice none 0 0),eI s.opn,eI s.don,.c (.slice none 0 0),.c (.slice none 0 0)]) (by simp[ae.gc]) rfl).trans (wE (kf @Wi @Va)),0,UR _,rfl⟩ ?_
  rintro _ ⟨i,hi,rfl⟩;by_cases hi2:i<s.vals.length
  .repeat' first|refine go ?_|simp only[ab,hi2]|decide|refine sp ?_ ?_<;>intro _
   have hVi:i<V.length:=(by omega);have hg:∀k,i<(a7 x.sets vv s.vals k).length:=fun k=>by rw[cJ];exact hi2
   have e0:(a7 x.sets vv s.vals 0)[i]'(hg 0)=s.vals[i]:=rfl;refine af (fun st'=>∃k:Nat,k<=x.sets.length/\∃n,n=(a7 x.sets vv s.vals k)[i]'(hg k)/\st'=⟨134,[(3,.op 0 0 0),(4,.op 1 0 0),(5,.op 2 0 0),(6,.op 3 0 0),(7,.op 4 0 0),(8,eI (i:Int)),(9,eI n),(10,eI (k:Int))],[(0,some (.box 32 (aC m))),(1,some (.box 59 (cy s))),(2,some (.box 76 [eI (e:Int),eI vu,sI vv])),(3,some (.box 59 [.c (.slice none 0 0),eI 0,eI 0,.c (.slice none 0 0),.c (.slice none 0 0)])),(4,some (.box 59 [.osl 5,eI s.opn,eI s.don,.c (.slice none 0 0),.c (.slice none 0 0)])),(5,some (.row 2 1 ((V.take i).map fun n=>[eI n])))],6⟩) (fun st'=>x.sets.length-ax st' 10) ⟨_,wC,0,UR _,_,e0.symm,rfl⟩ ?_;rintro _ ⟨k,hk,n,hn,rfl⟩;by_cases hk2:k<x.sets.length
   .have hkv:k<vv.length:=(by omega);obtain⟨a,ha⟩:∃a,x.sets[k]=a:=⟨_,rfl⟩;have hst:=C6 x.sets vv s.vals i hi2 k hk2 hkv;rw[<- hn,ha] at hst
    repeat' first|refine go ?_|simp only[ab,hlt,hx,hk2,hkv,ha]|decide|refine sp ?_ ?_<;>intro _
    .rename_i h;simp at h;refine rI wC ⟨k+1,by omega,vv[k],?_,rfl⟩;rw[hst,UZ h]
    .rename_i h;simp at h;refine rI wC ⟨k+1,by omega,n,?_,rfl⟩;rw[hst,UX h]
   .obtain rfl:k=x.sets.length:=by omega
    have hkv:(x.sets.length<vv.length)=False:=by simp;omega
    have hn2:n=V[i]:=by rw[hn];simp only[hV]
    have htk:(V.take (i+1)).map (fun n=>[eI n])=(V.take i).map (fun n=>[eI n]) ++ [[eI n]]:=(by rw[g9 V hVi,hn2]);have htl:(V.take i).length<=1000000:=by rw[U2];omega
    repeat' first|refine go ?_|simp only[ab,hlt,hx,hkv]|decide|refine sp ?_ ?_<;>intro _
    exact⟨rfl,⟨by omega,by omega⟩,rI (wS [0,1,2,3,4,7] @htk) ⟨i+1,by omega,rfl⟩⟩
  .obtain rfl:i=s.vals.length:=by omega
   have hVt:V.take s.vals.length=V:=by rw[<- hVl];exact U6
   repeat' first|refine ge (kf hi2 @hVt) ?_|decide|refine sp ?_ ?_<;>intro _
   refine af (fun st'=>∃i:Nat,i<=s.did.length/\st'=⟨134,[(3,.op 0 0 0),(4,.op 1 0 0),(5,.op 2 0 0),(6,.op 3 0 0),(7,.op 4 0 0),(11,eI (i:Int))],[(0,some (.box 32 (aC m))),(1,some (.box 59 (cy s))),(2,some (.box 76 [eI (e:Int),eI vu,sI vv])),(3,some (.box 59 [.c (.slice none 0 0),eI 0,eI 0,.c (.slice none 0 0),.c (.slice none 0 0)])),(4,some (.box 59 [.osl 5,eI s.opn,eI s.don,.osl 6,.c (.slice none 0 0)])),(5,some (.row 2 1 (V.map fun n=>[eI n]))),(6,some (.row 3 1 ((D.take i).map fun n=>[eI n])))],7⟩) (fun st'=>s.did.length-ax st' 11)
    ⟨_,(cQ 4 3 3 1 (t:=59) (cells:=[.osl 5,eI s.opn,eI s.don,.c (.slice none 0 0),.c (.slice none 0 0)]) (by simp[ae.gc]) rfl).trans (wE (kf @Wi (kf @WQ @Va))),0,UR _,rfl⟩ ?_
   rintro _ ⟨i,hi,rfl⟩;by_cases hi3:i<s.did.length
   .have hDi:i<D.length:=(by omega);have htl:(D.take i).length<=1000000:=by rw[U2];omega
    have hpt:=qL s.did[e] vu true hdid hu.1 hu.2;rw[UZ rfl] at hpt;by_cases hie:i=e
    .subst hie;have hDe:D[i]=bn s.did[i] vu:=(by simp only[<- hD,List.getElem_set_self]);have htk:(D.take (i+1)).map (fun n=>[eI n])=(D.take i).map (fun n=>[eI n]) ++ [[eI (bn s.did[i] vu)]]:=(by rw[g9 D hDi,hDe]);have hq:(((i:Nat):Int) == ((i:Nat):Int))=true:=(by simp)
     repeat' first|refine gq ?_|simp only[ab,hi3,hq]|decide|refine sp ?_ ?_<;>intro _|refine cA hpt ?_|fail
     exact⟨rfl,⟨by omega,by omega⟩,rI (wS [0,1,2,3,4,5,8] @htk) ⟨i+1,by omega,rfl⟩⟩
    .have hDe:D[i]=s.did[i]:=by simp only[<- hD];rw[List.getElem_set_ne (Ne.symm hie)]
     have htk:(D.take (i+1)).map (fun n=>[eI n])=(D.take i).map (fun n=>[eI n]) ++ [[eI s.did[i]]]:=(by rw[g9 D hDi,hDe]);have hq:(((i:Nat):Int) == ((e:Nat):Int))=false:=by simp;omega
     repeat' first|refine gq ?_|simp only[ab,hi3,hq]|decide|refine sp ?_ ?_<;>intro _|refine cA hpt ?_|fail
     exact⟨rfl,⟨by omega,by omega⟩,rI (wS [0,1,2,3,4,5,8] @htk) ⟨i+1,by omega,rfl⟩⟩
   .obtain rfl:i=s.did.length:=by omega
    have hDt:D.take s.did.length=D:=by rw[<- hDl];exact U6
    repeat' first|refine ge (kf hi3 @hDt) ?_|decide|refine sp ?_ ?_<;>intro _
    refine af (fun st'=>∃i:Nat,i<=s.cnt.length/\st'=⟨134,[(3,.op 0 0 0),(4,.op 1 0 0),(5,.op 2 0 0),(6,.op 3 0 0),(7,.op 4 0 0),(13,eI (i:Int))],[(0,some (.box 32 (aC m))),(1,some (.box 59 (cy s))),(2,some (.box 76 [eI (e:Int),eI vu,sI vv])),(3,some (.box 59 [.c (.slice none 0 0),eI 0,eI 0,.c (.slice none 0 0),.c (.slice none 0 0)])),(4,some (.box 59 [.osl 5,eI s.opn,eI s.don,.osl 6,.osl 7])),(5,some (.row 2 1 (V.map fun n=>[eI n]))),(6,some (.row 3 1 (D.map fun n=>[eI n]))),(7,some (.row 3 1 ((C.take i).map fun n=>[eI n])))],8⟩) (fun st'=>s.cnt.length-ax st' 13)
     ⟨_,(cQ 4 4 3 1 (t:=59) (cells:=[.osl 5,eI s.opn,eI s.don,.osl 6,.c (.slice none 0 0)]) (by simp[ae.gc]) rfl).trans (wE (kf @Wi (kf @WQ @Va))),0,UR _,rfl⟩ ?_
    rintro _ ⟨i,hi,rfl⟩;by_cases hi4:i<s.cnt.length
    .have hCi:i<C.length:=(by omega);have hie5:i<m.events.length:=(by omega);have htl:(C.take i).length<=1000000:=by rw[U2];omega
     by_cases hie:i=e
     .subst hie;by_cases hti:0<x.times
      .have hw':=hw hti;have ew:IntKind.i64.wrap (s.cnt[i]+1)=s.cnt[i]+1:=aE (by omega) (by omega);have hCe:C[i]=s.cnt[i]+1:=(by simp only[<- hC,UZ hti,List.getElem_set_self]);have htk:(C.take (i+1)).map (fun n=>[eI n])=(C.take i).map (fun n=>[eI n]) ++ [[eI (s.cnt[i]+1)]]:=(by rw[g9 C hCi,hCe]);have hq:(((i:Nat):Int) == ((i:Nat):Int))=true:=(by simp)
       repeat' first|refine gq ?_|simp only[ab,hi4,hq,hie5,hx,hti,ew]|decide|refine sp ?_ ?_<;>intro _
       exact⟨rfl,⟨by omega,by omega⟩,rI (wS [0,1,2,3,4,5,6,9] @htk) ⟨i+1,by omega,rfl⟩⟩
      .have hCe:C[i]=s.cnt[i]:=(by simp only[<- hC,UX hti]);have htk:(C.take (i+1)).map (fun n=>[eI n])=(C.take i).map (fun n=>[eI n]) ++ [[eI s.cnt[i]]]:=(by rw[g9 C hCi,hCe]);have hq:(((i:Nat):Int) == ((i:Nat):Int))=true:=(by simp)
       repeat' first|refine gq ?_|simp only[ab,hi4,hq,hie5,hx,hti]|decide|refine sp ?_ ?_<;>intro _
       exact⟨rfl,⟨by omega,by omega⟩,rI (wS [0,1,2,3,4,5,6,9] @htk) ⟨i+1,by omega,rfl⟩⟩
     .have hCe:C[i]=s.cnt[i]:=by
       simp only[<- hC];split
       .rw [List.getElem_set_ne (Ne.symm hie)]
       .rfl
      have htk:(C.take (i+1)).map (fun n=>[eI n])=(C.take i).map (fun n=>[eI n]) ++ [[eI s.cnt[i]]]:=(by rw[g9 C hCi,hCe]);have hq:(((i:Nat):Int) == ((e:Nat):Int))=false:=by simp;omega
      repeat' first|refine gq ?_|simp only[ab,hi4,hq]|decide|refine sp ?_ ?_<;>intro _
      exact⟨rfl,⟨by omega,by omega⟩,rI (wS [0,1,2,3,4,5,6,9] @htk) ⟨i+1,by omega,rfl⟩⟩
    .obtain rfl:i=s.cnt.length:=by omega
     have hCt:C.take s.cnt.length=C:=by rw[<- hCl];exact U6
     repeat' first|refine ge (kf hi4 @hCt) ?_|decide|refine sp ?_ ?_<;>intro _
     exact⟨[5,6,7],by decide,rfl,by simp[b6,ae.gc]⟩
 .simp [cu.frzs,cu.frz,ae.gc,AV.frz,AV.frzL,bw,aB.frz]
end
end
section
section
structure Uo(s:St):Prop where
 opn:aA s.opn
 don:aA s.don
 did:∀x∈s.did,aA x
theorem Nx(m:aJ)(s:St)(v:Mv)(hf:jN m)(hr:∀p∈m.roles,aA p.2)(hs:Uo s):am Tryz.prog 73 [.agg (aC m),.agg (cy s),.agg (qZ v)] (val (.int .i64 (gD m s v))):=by
 refine aa ag Tryz.func73 rfl (by decide) Tryz.ntmps73 Tryz.results73 rfl (aD _) ?_;obtain⟨hgl,hml,hsl,hel,hal,hul,hrl,hsol,hol,hil⟩:=id hf.sizes;obtain⟨ve,vu,vv⟩:=v;have hany:=Ii m s (by omega) (by omega) (by omega) (by omega) hs.opn hs.don hr hs.did;have hchk:=Ae m s (by omega) hs.opn hs.don hs.did
 cases hid:gI ⟨ve,vu,vv⟩ with
 | true=>
  unfold gD;simp only[hid]
  repeat' first|refine gf @hid ?_|decide|refine sp ?_ ?_<;>intro _|refine cA hchk ?_|((with_reducible first|apply al (g:=74)|apply aO (g:=74));exact(mG ⟨ve,vu,vv⟩))|refine cA hany ?_|fail
  all_goals grind
 | false=>
  have henb:=tR m s ve vu (by omega) (by omega) hs.opn hs.don hr hs.did
  cases hen:bB m s ve vu with
  | false=>
   unfold gD;simp only[hid,hen]
   repeat' first|refine gf (kf @hid @hen) ?_|decide|refine sp ?_ ?_<;>intro _|refine cA hchk ?_|((with_reducible first|apply al (g:=74)|apply aO (g:=74));exact(mG ⟨ve,vu,vv⟩))|refine cA henb ?_|fail
   all_goals grind
  | true=>
   obtain⟨k,rfl,hk,hk2⟩:=ks hen;have hsl:fP m (k:Int)=m.events[k].sets.length:=(by simp[fP,hk]);unfold gD;simp only[hid,hen,hsl]
   repeat' first|refine gq ?_|simp only[hid,hen,ab,hk]|decide|refine sp ?_ ?_<;>intro _|refine cA hchk ?_|((with_reducible first|apply al (g:=74)|apply aO (g:=74));exact(mG ⟨(k:Int),vu,vv⟩))|refine cA henb ?_|fail
   all_goals grind
theorem P5(m:aJ)(s:St)(v:Mv)(hf:jN m)(hfs:O0 s)(hvl:v.vals.length<=1000000)(hp:∀p∈m.stages,aA p.2)(hr:∀p∈m.roles,aA p.2)(hs:Uo s)(ht:∀e∈m.events,aA e.times) :
  am Tryz.prog 32 [.agg (aC m),.agg (cy s),.agg (qZ v)] ⟨.tup [.agg (cy (iU m s v).1),eI (iU m s v).2],[],0⟩:=by
 refine dp.tree (Post:=fun R=>∃ids,(R.frzs ids).r.lt 0/\kF (R.frzs ids).r (.tup [.agg (cy (iU m s v).1),eI (iU m s v).2])) ?_ (by simp[AV.lt,AV.ltL]) fun R h=>h;refine bj ag Tryz.func32 rfl (by decide) Tryz.ntmps32 Tryz.results32 rfl ?_;have hmay:=Nx m s v hf hr hs;have hnil:kF (.tup [.agg [.c (.slice none 0 0),eI 0,eI 0,.c (.slice none 0 0),.c (.slice none 0 0)],eI (gD m s v)]) (.tup [.agg (cy l7),eI (gD m s v)]):=.tup ⟨.agg ⟨.nil 1,.refl _,.refl _,.nil 1,.nil 1,trivial⟩,.one (.refl _),trivial⟩;have hz:((0:Int) != 0)=false:=by decide
 by_cases h0:gD m s v=0
 .cases hid:gI v with
  | true=>
   have ed:iU m s v=(s,0):=(by simp[iU,h0,hid]);rw[ed]
   repeat' first|refine gf (kf h0 (kf hz @hid)) ?_|decide|refine sp ?_ ?_<;>intro _|refine cA hmay ?_|((with_reducible first|apply al (g:=74)|apply aO (g:=74));exact(mG v))
   all_goals exact lE (by simp[AV.ren,AV.renL]) (by simp[AV.lt,AV.ltL]) (.tup ⟨.one (.refl _),.one (.refl _),trivial⟩)
  | false=>
   have ed:iU m s v=(cP m v.event (dh m s v) m.order.length,0):=(by simp[iU,h0,hid]);rw[ed]
   have hen:bB m s v.event v.user=true/\v.vals.length=fP m v.event/\fe m s=true:=by
    unfold gD at h0
    grind
   obtain⟨k,hke,hk,hk2⟩:=ks hen.1;have hsl:fP m v.event=m.events[k].sets.length:=(by simp[fP,hk,hke]);obtain⟨hl1,hl2,hl3⟩:=hfs;have hck:=hen.2.2;unfold fe at hck;simp only[U1,U7] at hck;obtain⟨⟨⟨⟨⟨hc1,hc2⟩,hc3⟩,hc4⟩,hc5⟩,hall⟩:=hck;have hd:k<s.did.length:=(by omega);have hcn:k<s.cnt.length:=(by omega);have hat:=(km _ _).1 hall k hk;simp only[jF,Os,p0 hd,p0 hcn,p0 hk,Vi,Vz,U1,U7] at hat
   have hfm:iI m s v.event v.user=true:=by
    have h2:=hen.1;unfold bB at h2;simp only[U1] at h2;exact h2.1
   unfold iI at hfm;rw[hk2] at hfm;simp only[U1,Wb,U7] at hfm
   have hus:0<=v.user/\v.user<31:=by
    have h3:=hfm.1.2;unfold yf at h3;simp only[U1,U7] at h3;have:=hf.sizes.2.2.2.2.2.1;omega
   have hfree:0<m.events[k].times->s.cnt[k]<m.events[k].times:=fun h1=>by
    have h3:=hfm.2;unfold pH at h3;rw[hke,UZ (by omega)] at h3;simp only[VD,Os,p0 hcn,Vi] at h3;omega
   have htm:=ht _ (UQ hk);unfold aA at htm;have htk:=Kl m s v k m.events[k] hke hk rfl hd hcn (by omega) hus (hs.did _ (UQ hd)) hc3 (by omega) (by omega) (by omega) (by omega) (fun h1=>by have:=hfree h1;omega);have hopn:(dh m s v).opn=s.opn/\(dh m s v).don=s.don:=by unfold dh;split<;>exact⟨rfl,rfl⟩
   have hps:=Ax m (dh m s v) v.event hf hp (by rw[hopn.1];exact gQ hc4) (by rw[hopn.2];exact gQ hc5)
   repeat' first|refine ge (kf h0 (kf hz @hid)) ?_|decide|refine sp ?_ ?_<;>intro _
   refine al hmay ?_
   repeat' first|refine ge (kf h0 (kf hz @hid)) ?_|decide|refine sp ?_ ?_<;>intro _
   refine al (by exact mG v) ?_
   repeat' first|refine ge (kf h0 (kf hz @hid)) ?_|decide|refine sp ?_ ?_<;>intro _
   refine aG [3] [0,1,2,3,5,6] (.exec 4 (.exec 7 (.exec 8 (.exec 9 .done)))) (by kernel_rfl) (by simp[ae.gc]) ?_
   repeat' first|refine gf (kf h0 (kf hz @hid)) ?_|decide|refine sp ?_ ?_<;>intro _|refine cA htk ?_|refine cA hps ?_|fail
   all_goals exact lE (by simp[AV.ren,AV.renL]) (by simp[AV.lt,AV.ltL]) (.tup ⟨.one (.refl _),.one (.refl _),trivial⟩)
 .have ed:iU m s v=(l7,gD m s v):=by simp[iU,h0]
  have h0':(gD m s v != 0)=true:=by simp[h0]
  rw[ed]
  repeat' first|refine gf h0' ?_|decide|refine sp ?_ ?_<;>intro _|refine cA hmay ?_|((with_reducible first|apply al (g:=74)|apply aO (g:=74));exact(mG v))
  all_goals exact lE (by simp[AV.ren,AV.renL]) (by simp[AV.lt,AV.ltL]) hnil
end
section
theorem CZ{s:Int}{n:Nat}(h1:I5 s)(h2:∀i:Nat,n<=i->i<31->aQ s (i:Int)=false):lB s (n:Int)=true:=(oU s n h1).2 h2
theorem yc{s:Int}{n:Nat}(h:lB s (n:Int)=true){i:Nat}(hi:n<=i)(hl:i<31):aQ s (i:Int)=false:=(oU s n (gQ h)).1 h i hi hl
theorem rD{s:Int}{n:Nat}{i:Int}(h:lB s (n:Int)=true)(h0:0<=i)(h1:i<n):lB (bn s i) (n:Int)=true:=CZ (Id s i) fun j hj hl=>by
 rw[gT,yc h hj hl];have:((j:Int) == i)=false:=by simp;omega
 simp[this]
theorem KI{s:Int}{n:Nat}{l:List Int}(h:lB s (n:Int)=true):lB (l.foldl aZ s) (n:Int)=true:=CZ (EO l s (gQ h)) fun j hj hl=>by
 rw[VA];intro h2;have:=((pK l s (j:Int)).1 h2).1;rw[yc h hj hl] at this;cases this
theorem Jb{l:List Ml}{st d:Int}{n:Nat}(h:lB d (n:Int)=true)(k:Nat):lB (iV l st d k) (n:Int)=true:=CZ (EA l st d (gQ h) k) fun j hj hl=>by
 rw[VA];intro h2;have:=(qi l st d j k h2).1;rw[yc h hj hl] at this;cases this
theorem Am{m:aJ}{x:Bool×Int}{st ev mi:Int}{cond:List aw}(hx:x.1=true)(h:a5 m x=some (st,ev,cond,mi)):0<=mi/\mi<(m.miles.length:Int):=by
 unfold a5 at h;rw[UZ hx] at h;split at h
 .rename_i h0
  cases hk:m.miles[x.2.toNat]? with
  | none=>rw[hk] at h;cases h
  | some K=>
   rw[hk] at h;simp at h;have:=(US.1 hk).1;rw[<- h.2.2.2];omega
 .cases h
theorem MY{m:aJ}{event:Int}{s:St}{x:Bool×Int}(h1:lB s.opn (m.stages.length:Int)=true)(h2:lB s.don (m.miles.length:Int)=true):lB (db m event s x).opn (m.stages.length:Int)=true/\lB (db m event s x).don (m.miles.length:Int)=true:=by
 unfold db;split
 .unfold cd
  cases hx:a5 m x with
  | none=>exact⟨h1,h2⟩
  | some q=>
   obtain⟨st,ev,cond,mi⟩:=q;simp only;split
   .rename_i hin;have hst:0<=st/\st<(m.stages.length:Int):=(by simpa[ua] using hin);split
    .rename_i hm;have hmi:=Am hm hx;exact⟨KI h1,rD h2 hmi.1 hmi.2⟩
    .exact ⟨rD h1 hst.1 hst.2,Jb h2 _⟩
   .exact ⟨h1,h2⟩
 .exact ⟨h1,h2⟩
theorem x7{m:aJ}{event:Int}:∀(l:List (Bool×Int)){s:St},lB s.opn (m.stages.length:Int)=true->lB s.don (m.miles.length:Int)=true->lB (l.foldl (db m event) s).opn (m.stages.length:Int)=true/\lB (l.foldl (db m event) s).don (m.miles.length:Int)=true
 | [],s,h1,h2=>⟨h1,h2⟩
 | x :: l,s,h1,h2=>by
  obtain⟨h3,h4⟩:=MY (event:=event) (x:=x) h1 h2;exact x7 l h3 h4
theorem tQ{m:aJ}{s:St}{e:Nat}{u:Int}(h:bB m s (e:Int) u=true):∃he:e<m.events.length,0<=u/\u<(m.users.length:Int)/\(m.events[e].times<=0\/pH s.cnt (e:Int)<m.events[e].times):=by
 obtain⟨k,hk,hlt,hx⟩:=ks h;obtain rfl:e=k:=by omega
 refine⟨hlt,?_⟩;unfold bB iI at h;rw[hx] at h;simp only[U1,Wb,U7,yf] at h;obtain⟨⟨⟨_,h1⟩,h2⟩,_⟩:=h;exact⟨h1.1.1.2,h1.1.2,h2⟩
theorem oe{m:aJ}{s:St}:fe m s=true↔s.vals.length=m.attrs.length/\s.did.length=m.events.length/\s.cnt.length=m.events.length/\lB s.opn (m.stages.length:Int)=true/\lB s.don (m.miles.length:Int)=true/\∀i,i<m.events.length->jF m s i=true:=by
 unfold fe;simp only[U1,U7,km,and_assoc]
theorem mU{m:aJ}{s:St}{i:Nat}(hi:i<m.events.length):jF m s i=true↔lB (s.did.getD i 0) (m.users.length:Int)=true/\0<=s.cnt.getD i 0/\s.cnt.getD i 0<=m.events[i].times:=by
 unfold jF;simp[hi,and_assoc]
theorem rB{m:aJ}{s:St}{e:Nat}{u:Int}{vals:List Int}(he:e<m.events.length):dh m s ⟨(e:Int),u,vals⟩=⟨a7 m.events[e].sets vals s.vals m.events[e].sets.length,s.opn,s.don,s.did.set e (bn (s.did.getD e 0) u),if 0<m.events[e].times then s.cnt.set e (s.cnt.getD e 0+1) else s.cnt⟩:=by
 unfold dh mh;simp[he]
theorem JC{m:aJ}{s:St}{e:Nat}{u:Int}{vals:List Int}(hc:fe m s=true)(hen:bB m s (e:Int) u=true)(k:Nat):fe m (cP m (e:Int) (dh m s ⟨(e:Int),u,vals⟩) k)=true:=by
 obtain⟨he,hu0,hu1,htm⟩:=tQ hen;obtain⟨h1,h2,h3,h4,h5,h6⟩:=oe.1 hc;obtain⟨v1,v2,v3⟩:=fj m (e:Int) (m.order.take k) (dh m s ⟨(e:Int),u,vals⟩);have ht:=rB (m:=m) (s:=s) (u:=u) (vals:=vals) he;have hof:=x7 (m:=m) (event:=(e:Int)) (m.order.take k) (s:=dh m s ⟨(e:Int),u,vals⟩) (by rw[ht];exact h4) (by rw[ht];exact h5);unfold cP;refine oe.2 ⟨?_,?_,?_,hof.1,hof.2,fun i hi=>(mU hi).2 ?_⟩
 .rw [v1,ht];simpa[cJ] using h1
 .rw [v2,ht];simpa using h2
 .rw [v3,ht];simp only;split
  .simpa using h3
  .exact h3
 .obtain ⟨g1,g2,g3⟩:=(mU hi).1 (h6 i hi);rw[v2,v3,ht];simp only;refine⟨?_,?_⟩
  .by_cases e1:i=e
   .subst e1;have:(s.did.set i (bn (s.did.getD i 0) u)).getD i 0=bn (s.did.getD i 0) u:=by simp[List.getD,show i<s.did.length by omega]
    rw[this];exact rD g1 hu0 hu1
   .have:(s.did.set e (bn (s.did.getD e 0) u)).getD i 0=s.did.getD i 0:=by simp[List.getD,Wf,Ne.symm e1]
    rw[this];exact g1
  .split
   .rename_i hpos;by_cases e1:i=e
    .subst e1;have:(s.cnt.set i (s.cnt.getD i 0+1)).getD i 0=s.cnt.getD i 0+1:=by simp[List.getD,show i<s.cnt.length by omega]
     rw[this]
     have ha:pH s.cnt (i:Int)=s.cnt.getD i 0:=by
      unfold pH;rw[UZ ⟨by omega,by omega⟩];rfl
     rw[ha] at htm;omega
    .have:(s.cnt.set e (s.cnt.getD e 0+1)).getD i 0=s.cnt.getD i 0:=by simp[List.getD,Wf,Ne.symm e1]
     rw[this];exact⟨g2,g3⟩
   .exact ⟨g2,g3⟩
noncomputable def ql(m:aJ)(s:St)(e:Nat):List Mv:=(fm m s (e:Int)).map fun u=>⟨(e:Int),u,List.replicate ((m.events[e]?.map (·.sets.length)).getD 0) 0⟩
noncomputable def fS(m:aJ)(s:St):Nat->List Mv
 | 0=>[]
 | e+1=>fS m s e ++ ql m s e
theorem ki{f:Nat->Bool}:∀{n:Nat} {x:Int},x∈dz f n↔ ∃k:Nat,k<n/\x=(k:Int)/\f k=true
 | 0,x=>by simp[dz]
 | n+1,x=>by
  unfold dz;split
  .rename_i h;rw[U4,ki,Ve];constructor
   .rintro (⟨k,h1,h2,h3⟩|rfl)
    .exact ⟨k,by omega,h2,h3⟩
    .exact ⟨n,by omega,rfl,h⟩
   .rintro ⟨k,h1,h2,h3⟩;by_cases e:k=n
    .exact .inr (by rw[h2,e])
    .exact .inl ⟨k,by omega,h2,h3⟩
  .rename_i h;rw[ki];constructor
   .rintro ⟨k,h1,h2,h3⟩;exact⟨k,by omega,h2,h3⟩
   .rintro ⟨k,h1,h2,h3⟩;by_cases e:k=n
    .exact absurd (e ▸ h3) h
    .exact ⟨k,by omega,h2,h3⟩
structure wP(m:aJ)(s:St)(v:Mv)(e:Nat):Prop where
 ev:v.event=(e:Int)
 lt:e<m.events.length
 en:bB m s (e:Int) v.user=true
 len:v.vals.length=(m.events[e]?.map (·.sets.length)).getD 0
theorem ye{m:aJ}{s:St}:∀{n:Nat},n<=m.events.length->∀v∈fS m s n,∃e,wP m s v e
 | 0,_,v,h=>by simp[fS] at h
 | n+1,hn,v,h=>by
  rw[fS,U4] at h;rcases h with h|h
  .exact ye (by omega) v h
  .obtain ⟨u,hu,rfl⟩:=U3.1 h;obtain⟨k,hk,rfl,hf⟩:=ki.1 hu;exact⟨n,rfl,by omega,hf,by simp⟩
theorem Bj{m:aJ}{s:St}(h:fS m s m.events.length=[]):tu m s=false:=by
 rw[VA];intro ha;obtain⟨e,he,h1⟩:=(ij _ _).1 ha;obtain⟨u,hu,h2⟩:=(ij _ _).1 h1
 have key:∀n,e<n->∃v,v∈fS m s n:=by
  intro n hn
  induction n with
  | zero=>omega
  | succ n ih=>
   rw[fS];by_cases e1:e=n
   .subst e1;exact⟨_,U4.2 (.inr (U3.2 ⟨(u:Int),ki.2 ⟨u,hu,rfl,h2⟩,rfl⟩))⟩
   .obtain ⟨v,hv⟩:=ih (by omega);exact⟨v,U4.2 (.inl hv)⟩
 obtain⟨v,hv⟩:=key _ he;rw[h] at hv;cases hv
theorem Qx{m:aJ}{s:St}{v:Mv}{e:Nat}(hc:fe m s=true)(h:wP m s v e):gD m s v=0/\gI v=false:=by
 have hid:gI v=false:=by
  unfold gI;have:(v.event == -1)=false:=by rw[h.ev];simp
  rw[this];rfl
 refine⟨?_,hid⟩;unfold gD;rw[UX (by rw[hc];simp),UX (by rw[hid];simp),h.ev,UX (by rw[h.en];simp),UZ];rw[h.len];unfold fP;rfl
theorem zj{m:aJ}{s:St}{v:Mv}{e:Nat}(hc:fe m s=true)(h:wP m s v e):iU m s v=(cP m (e:Int) (dh m s v) m.order.length,0):=by
 obtain⟨h1,h2⟩:=Qx hc h;unfold iU;rw[UZ h1,UX (by rw[h2];simp),h.ev]
theorem Rb{m:aJ}{s:St}{v:Mv}{e:Nat}(hc:fe m s=true)(h:wP m s v e):fe m (iU m s v).1=true:=by
 rw[zj hc h];obtain⟨ve,vu,vv⟩:=v;have he:=h.ev;simp only at he;subst he;exact JC hc h.en _
theorem Sz{m:aJ}{s:St}{v:Mv}{e:Nat}(hci:dW (pars m)<0)(hc:fe m s=true)(h:wP m s v e)(hs:ux m s.opn):ux m (iU m s v).1.opn:=by
 rw[zj hc h];obtain⟨ve,vu,vv⟩:=v;have he:=h.ev;simp only at he;subst he;refine r4 hci (e:Int) _ _ ?_;rw[rB h.lt];exact hs
theorem Nw{m:aJ}{s:St}{v:Mv}{e:Nat}(hc:fe m s=true)(h:wP m s v e):(∀k,k<s.did.length->∀i:Int,aQ (s.did.getD k 0) i=true->aQ ((iU m s v).1.did.getD k 0) i=true)/\(∀k,k<s.cnt.length->s.cnt.getD k 0<=(iU m s v).1.cnt.getD k 0):=by
 rw[zj hc h];obtain⟨ve,vu,vv⟩:=v;have he:=h.ev;simp only at he;subst he;obtain⟨v1,v2,v3⟩:=fj m (e:Int) (m.order.take m.order.length) (dh m s ⟨(e:Int),vu,vv⟩);unfold cP;rw[v2,v3,rB h.lt];refine⟨fun k hk i hb=>?_,fun k hk=>?_⟩
 .by_cases e1:k=e
  .subst e1;have:(s.did.set k (bn (s.did.getD k 0) vu)).getD k 0=bn (s.did.getD k 0) vu:=by simp[List.getD,hk]
   simp only[this];rw[gT,hb];simp
  .have:(s.did.set e (bn (s.did.getD e 0) vu)).getD k 0=s.did.getD k 0:=by simp[List.getD,Wf,Ne.symm e1]
   simp only[this];exact hb
 .simp only;split
  .by_cases e1:k=e
   .subst e1;have:(s.cnt.set k (s.cnt.getD k 0+1)).getD k 0=s.cnt.getD k 0+1:=by simp[List.getD,hk]
    rw[this];omega
   .have:(s.cnt.set e (s.cnt.getD e 0+1)).getD k 0=s.cnt.getD k 0:=by simp[List.getD,Wf,Ne.symm e1]
    rw[this];exact WU _
  .exact WU _
end
section
theorem L8:am Tryz.prog 65 [] ⟨.agg [eI (-1),eI (-1),.c (.slice none 0 0)],[],0⟩:=by
 refine aa ag Tryz.func65 rfl (by decide) Tryz.ntmps65 Tryz.results65 rfl (⟨fun id o h=>(by cases h),by simp[AV.lt,AV.ltL]⟩) ?_
 repeat' first|refine go ?_|decide|refine sp ?_ ?_<;>intro _
 exact aF (by simp[AV.ren,AV.renL])
end
section
abbrev ui(l:List Int):List (List AV):=l.map fun n=>[eI n]
def jn(ids:Nat->Nat)(l:List Mv):List (List AV):=l.mapIdx fun i v=>[eI v.event,eI v.user,.osl (ids i)]
theorem nl(ids:Nat->Nat)(l:List Mv):(jn ids l).length=l.length:=by simp[jn]
theorem ET{ids:Nat->Nat}{l:List Mv}{i:Nat}(h:i<l.length):(jn ids l)[i]?.getD []=[eI l[i].event,eI l[i].user,.osl (ids i)]:=by simp[jn,h]
def xE(ids:Nat->Nat)(m x:Nat)(i:Nat):Nat:=if i=m then x else ids i
theorem yD(ids:Nat->Nat)(l:List Mv)(v:Mv)(x:Nat):jn ids l ++ [[eI v.event,eI v.user,.osl x]]=jn (xE ids l.length x) (l ++ [v]):=by
 apply VS;intro j;unfold jn;rw[List.getElem?_mapIdx];by_cases h:j<l.length
 .rw [Vq (by simpa using h),Vq h,List.getElem?_mapIdx];simp[xE,Nat.ne_of_lt h,h]
 .rw [Vu (by simpa using h),Vu (by omega)];by_cases e:j=l.length
  .subst e;simp[xE]
  .obtain ⟨d,hd⟩:∃d,j-l.length=d+1:=⟨j-l.length-1,by omega⟩;have hd2:j-(List.mapIdx (fun i (v:Mv)=>[eI v.event,eI v.user,AV.osl (ids i)]) l).length=d+1:=by rw[List.length_mapIdx];exact hd
   rw[hd,hd2];rfl
structure EP(T:ae)(o:Nat)(ids:Nat->Nat)(l:List Mv)(nx:Nat):Prop where
 out:T.get o=some (.nest 76 3 (jn ids l))
 inn:∀i (h:i<l.length),T.get (ids i)=some (.nest 2 1 (ui l[i].vals))
 inj:∀i j,i<l.length->j<l.length->ids i=ids j->i=j
 ne:∀i,i<l.length->ids i≠o
 lt:∀i,i<l.length->ids i<nx
 lo:o<nx
theorem Ak{T:ae}{ids:Nat->Nat}{l:List Mv}{v:Mv}{x o nx:Nat}(h1:T.get o=some (.nest 76 3 (jn ids l ++ [[eI v.event,eI v.user,.osl x]])))(h2:∀i (h:i<l.length),T.get (ids i)=some (.nest 2 1 (ui l[i].vals)))(h3:T.get x=some (.nest 2 1 (ui v.vals)))
  (hlt:∀i,i<l.length->ids i<x) (hinj:∀i j,i<l.length->j<l.length->ids i=ids j->i=j) (hx:x<o) (ho:o<nx):EP T o (xE ids l.length x) (l ++ [v]) nx:=by
 have ha:∀i,i<l.length->xE ids l.length x i=ids i:=fun i hi=>UX (by omega);have hm:xE ids l.length x l.length=x:=UZ rfl
 have hl:∀i,i<l.length+1->xE ids l.length x i<=x:=fun i hi=>by
  by_cases e:i=l.length
  .rw [e,hm];exact UU _
  .rw [ha i (by omega)];exact Wh (hlt i (by omega))
 refine⟨by rw[h1,yD],fun i hi=>?_,fun i j hi hj h=>?_,fun i hi h=>?_,fun i hi=>?_,ho⟩
 .rw [UW,Vs] at hi;by_cases e:i=l.length
  .subst e;rw[hm,h3];simp
  .rw [ha i (by omega),h2 i (by omega),WC (by omega)]
 .rw [UW,Vs] at hi hj;by_cases e:i=l.length<;>by_cases e2:j=l.length
  .omega
  .rw [e,hm,ha j (by omega)] at h;have:=hlt j (by omega);omega
  .rw [e2,hm,ha i (by omega)] at h;have:=hlt i (by omega);omega
  .rw [ha i (by omega),ha j (by omega)] at h;exact hinj i j (by omega) (by omega) h
 .rw [UW,Vs] at hi;have:=hl i hi;omega
 .rw [UW,Vs] at hi;have:=hl i hi;omega
theorem tb(m:aJ)(s:St):∀e,(fS m s e).length<=m.users.length * e
 | 0=>by simp[fS]
 | e+1=>by
  have h1:=tb m s e;have h2:=jb (fun u=>bB m s (e:Int) (u:Int)) m.users.length;rw[fS,UW,Nat.mul_add];simp only[ql,fm,Vd];omega
def Ui(T:ae)(nx:Nat)(l:List Mv)(av:AV):Prop:=(l=[]/\av=.c (.slice none 0 0))\/∃o ids,l≠[]/\av=.osl o/\EP T o ids l nx
theorem Ui.keep{T T':ae}{nx nx':Nat}{l:List Mv}{av:AV}(h:Ui T nx l av)(ht:∀id,id<nx->T'.get id=T.get id)(hn:nx<=nx'):Ui T' nx' l av:=by
 rcases h with h|⟨o,ids,h1,h2,h3⟩
 .exact .inl h
 .exact .inr ⟨o,ids,h1,h2,by rw[ht o h3.lo];exact h3.out,fun i hi=>by rw[ht _ (h3.lt i hi)];exact h3.inn i hi,h3.inj,h3.ne,fun i hi=>UY (h3.lt i hi) hn,UY h3.lo hn⟩
def FU(m:aJ)(s:St)(R:cu):Prop:=
 (fS m s m.events.length=[]/\R=gl 76 3 [[eI (-1),eI (-1),.c (.slice none 0 0)]])\/∃T nx o ids,fS m s m.events.length≠[]/\EP T o ids (fS m s m.events.length) nx/\R=⟨.osl o,T,nx⟩
theorem Nb(m:aJ)(s:St)(hf:jN m)(hc:fe m s=true):dp Tryz.prog 27 [.agg (aC m),.agg (cy s)] (FU m s):=by
 refine ug ag Tryz.func27 rfl (by decide) Tryz.ntmps27 Tryz.results27 rfl ?_;obtain⟨hgl,hml,hsl,hel,hal,hul,hrl,hsol,hol,hil⟩:=id hf.sizes;have hC:=oQ m s (by omega);rw[hc] at hC
 repeat' first|refine go ?_|decide|refine sp ?_ ?_<;>intro _
 refine al hC ?_
 repeat' first|refine go ?_|decide|refine sp ?_ ?_<;>intro _
 have hnil:fS m s 0=[]:=rfl;refine af (fun st=>∃(e nx:Nat)(T:ae)(av:AV),e<=m.events.length/\Ui T nx (fS m s e) av/\(T.get 0=some (.box 32 (aC m))/\T.get 1=some (.box 59 (cy s))/\1<nx)/\st=⟨50,[(2,.op 0 0 0),(3,.op 1 0 0),(5,av),(16,.sl 5 (m.events.map t9)),(17,eI (m.events.length:Int)),(18,eI (e:Int))],T,nx⟩) (fun st=>m.events.length-ax st 18) ⟨_,(ma (by(first|((simp only[gu,iC,aj.get,aX,aj.put,↓reduceIte,reduceCtorEq,Nat.reduceLT,Nat.reduceEqDiff,Nat.reduceAdd,Nat.reduceLeDiff,eq_self,implies_true])<;>(repeat' apply And.intro)<;>first|(rw[jx (by omega)];done)|(simp;done)|omega)|fail))),0,2,[(1,some (.box 59 (cy s))),(0,some (.box 32 (aC m)))],.c (.slice none 0 0),UR _,.inl ⟨rfl,rfl⟩,⟨rfl,rfl,by omega⟩,rfl⟩ ?_;rintro _ ⟨e,nx,T,av,he,hM,⟨hT0,hT1,hnx⟩,rfl⟩;have g0:(0=nx)=False:=by simp;omega
 have g1:(1=nx)=False:=by simp;omega
 by_cases hlt:e<m.events.length
 .obtain ⟨x,hx⟩:∃x,m.events[e]=x:=⟨_,rfl⟩;have rE:(m.events.map t9)[e]?.getD []=t9 x:=by simp[hlt,hx]
  have hW:=T7 m s (e:Int) (by omega) (by omega) (by omega)
  have hwl:(fm m s (e:Int)).length<=10:=by
   have:=jb (fun u=>bB m s (e:Int) (u:Int)) m.users.length;unfold fm;omega
  repeat' first|refine ge (kf @hlt (kf rE (kf hT0 (kf hT1 (kf g0 g1))))) ?_|decide|refine sp ?_ ?_<;>intro _
  refine dg hW (.inr (by intro row hr av ha;simp at hr;(try obtain⟨_,_,rfl⟩:=hr);simp at ha;subst_vars;simp[AV.plain])) ?_;obtain⟨who,hwho⟩:∃who,who=fm m s (e:Int):=⟨_,rfl⟩
  have hE:∀k (hk:k<who.length),(ql m s e).take (k+1)=(ql m s e).take k ++ [⟨(e:Int),who[k],List.replicate x.sets.length 0⟩]:=fun k hk=>by
   subst hwho;have hk2:k<(ql m s e).length:=(by simpa[ql] using hk);rw[U0 hk2];simp[ql,hlt,hx]
  have hEl:(ql m s e).length=who.length:=by rw[hwho];simp[ql]
  rw[<- hwho] at hwl ⊢;clear hW
  repeat' first|refine ge @hlt ?_|decide|refine sp ?_ ?_<;>intro _
  refine af (fun st=>∃(k nx2:Nat)(T2:ae)(av2:AV),k<=who.length/\Ui T2 nx2 (fS m s e ++ (ql m s e).take k) av2/\(T2.get 0=some (.box 32 (aC m))/\T2.get 1=some (.box 59 (cy s))/\T2.get nx=some (.box 67 (t9 x))/\T2.get (nx+1)=some (.row 3 1 (who.map fun n=>[eI n]))/\nx+1<nx2)/\st=⟨50,[(2,.op 0 0 0),(3,.op 1 0 0),(5,av2),(6,eI (e:Int)),(7,.op nx 0 0),(16,.sl 5 (m.events.map t9)),(17,eI (m.events.length:Int)),(18,eI (e:Int)),(26,.osl (nx+1)),(27,eI (who.length:Int)),(28,eI (k:Int))],T2,nx2⟩) (fun st=>who.length-ax st 28) ⟨_,(ma (by(first|((simp only[gu,iC,aj.get,aX,aj.put,↓reduceIte,reduceCtorEq,Nat.reduceLT,Nat.reduceEqDiff,Nat.reduceAdd,Nat.reduceLeDiff,eq_self,implies_true])<;>(repeat' apply And.intro)<;>first|(rw[jx (by omega)];done)|(simp;done)|omega)|fail))),0,nx+1+1,_,av,UR _,?_,?_,rfl⟩ ?_
  .rw [Va,VH];refine hM.keep (fun id hid=>?_) (by omega);simp only[ae.gc];repeat rw[UX (by omega)]
  .refine ⟨?_,?_,?_,?_,by omega⟩
   .simp only[ae.gc];repeat rw[UX (by omega)]
    exact hT0
   .simp only[ae.gc];repeat rw[UX (by omega)]
    exact hT1
   .simp only[ae.gc,↓reduceIte];rw[UX (by omega)]
   .simp only[ae.gc,↓reduceIte]
  clear hM hT0 hT1;rintro _ ⟨k,nx2,T2,av2,hk,hM,⟨hT0,hT1,hTx,hTw,hn2⟩,rfl⟩;by_cases hkl:k<who.length
  .have rW:(who.map fun n=>[eI n])[k]?.getD []=[eI who[k]]:=by simp[hkl]
   have hsz:x.sets.length<=10:=by
    rw[<- hx];exact hf.events _ (UQ hlt)
   have i0:(0:Int)<=(x.sets.length:Int):=(by omega);have i1:(x.sets.length:Int)<=16777216:=(by omega);have hz:List.replicate x.sets.length [eI 0]=ui (List.replicate x.sets.length 0):=(by simp);have q1:(nx2=nx2+1)=False:=(by simp);have q2:(nx2=nx2+1+1)=False:=by simp;omega
   have q3:(nx=nx2)=False:=by simp;omega
   have q4:(nx=nx2+1)=False:=by simp;omega
   have q5:(nx+1=nx2)=False:=by simp;omega
   rcases hM with ⟨hl0,rfl⟩|⟨o,ids,hl0,rfl,hN⟩
   .repeat' first|refine ge (kf @hkl (kf rW (kf hT0 (kf hT1 (kf @hTx (kf @hTw (kf i0 (kf i1 (kf hz (kf q1 (kf q2 (kf q3 (kf q4 q5))))))))))))) ?_|decide|refine sp ?_ ?_<;>intro _
    refine⟨by omega,rfl,rI (ma (by(first|((simp only[gu,iC,aj.get,aX,aj.put,↓reduceIte,reduceCtorEq,Nat.reduceLT,Nat.reduceEqDiff,Nat.reduceAdd,Nat.reduceLeDiff,eq_self,implies_true])<;>(repeat' apply And.intro)<;>first|(rw[jx (by omega)];done)|(simp;done)|omega)|fail))) ⟨k+1,_,_,_,by omega,.inr ⟨nx2+1+1,xE (fun _=>0) 0 nx2,by rw[hE k hkl];simp,rfl,?_⟩,⟨?_,?_,?_,?_,Xm (Xm (Xm hn2))⟩,rfl⟩⟩
    .rw [hE k hkl,<- Vw,hl0];refine Ak (l:=[]) (v:=⟨(e:Int),who[k],List.replicate x.sets.length 0⟩) (x:=nx2) ?_ (fun i hi=>by cases hi) ?_ (fun i hi=>by cases hi) (fun i j hi=>by cases hi) (by omega) (VT _)
     .simp only[ae.gc,↓reduceIte];rfl
     .simp only[ae.gc,↓reduceIte];repeat rw[UX (by omega)]
    all_goals
     simp only[ae.gc];repeat rw[UX (by omega)]
     assumption
   .have q6:(o=nx2)=False:=by have:=hN.lo;simp;omega
    have q7:(o=nx2+1)=False:=by have:=hN.lo;simp;omega
    have hO:=hN.out
    have hlb:(fS m s e ++ (ql m s e).take k).length<=1000:=by
     have h1:=tb m s e;have h2:m.users.length * e<=10 * 10:=WI (by omega) (by omega);have h3:=List.length_take_le k (ql m s e);rw[UW];omega
    have o0:0≠o:=fun e=>by
     rw[e,hO] at hT0;cases hT0
    have o1:1≠o:=fun e=>by
     rw[e,hO] at hT1;cases hT1
    have o2:nx≠o:=fun e=>by
     rw[e,hO] at hTx;cases hTx
    have o3:nx+1≠o:=fun e=>by
     rw[e,hO] at hTw;cases hTw
    repeat' first|refine ge (kf @hkl (kf rW (kf hT0 (kf hT1 (kf @hTx (kf @hTw (kf i0 (kf i1 (kf hz (kf q1 (kf q2 (kf q3 (kf q4 (kf q5 (kf q6 (kf q7 (kf hO @nl))))))))))))))))) ?_|decide|refine sp ?_ ?_<;>intro _
    refine⟨by omega,rfl,⟨by omega,by omega⟩,rI (ma (by(first|((simp only[gu,iC,aj.get,aX,aj.put,↓reduceIte,reduceCtorEq,Nat.reduceLT,Nat.reduceEqDiff,Nat.reduceAdd,Nat.reduceLeDiff,eq_self,implies_true])<;>(repeat' apply And.intro)<;>first|(rw[jx (by omega)];done)|(simp;done)|omega)|fail))) ⟨k+1,_,_,_,by omega,.inr ⟨nx2+1+1,xE ids (fS m s e ++ (ql m s e).take k).length nx2,by rw[hE k hkl];simp,rfl,?_⟩,⟨?_,?_,?_,?_,Xm (Xm (Xm hn2))⟩,rfl⟩⟩
    .rw [hE k hkl,<- Vw];refine Ak (v:=⟨(e:Int),who[k],List.replicate x.sets.length 0⟩) (x:=nx2) ?_ (fun i hi=>?_) ?_ hN.lt hN.inj (by omega) (VT _)
     .simp only[ae.gc,↓reduceIte]
     .have h1:=hN.lt i hi;have h2:=hN.ne i hi;simp only[ae.gc];rw[UX (by omega),UX h2,UX (by omega),UX (by omega)];exact hN.inn i hi
     .simp only[ae.gc,↓reduceIte];have h2:=hN.lo;repeat rw[UX (by omega)]
    all_goals
     simp only[ae.gc];rw[UX (by omega),UX (by assumption),UX (by omega),UX (by omega)]
     assumption
  obtain rfl:k=who.length:=by omega
  rw[Vg (Nat.le_of_eq hEl)] at hM
  repeat' first|refine ge @hkl ?_|decide|refine sp ?_ ?_<;>intro _
  exact rI (ma (by(first|((simp only[gu,iC,aj.get,aX,aj.put,↓reduceIte,reduceCtorEq,Nat.reduceLT,Nat.reduceEqDiff,Nat.reduceAdd,Nat.reduceLeDiff,eq_self,implies_true])<;>(repeat' apply And.intro)<;>first|(rw[jx (by omega)];done)|(simp;done)|omega)|fail))) ⟨e+1,nx2,T2,av2,by omega,hM,⟨hT0,hT1,by omega⟩,rfl⟩
 obtain rfl:e=m.events.length:=by omega
 rcases hM with ⟨hl0,rfl⟩|⟨o,ids,hl0,rfl,hN⟩
 .have z1:(((0:Nat):Int) == 0)=true:=rfl
  repeat' first|refine ge (kf @hlt z1) ?_|decide|refine sp ?_ ?_<;>intro _
  refine cL L8 (ro) ?_
  repeat' first|refine go ?_|decide|refine sp ?_ ?_<;>intro _
  refine⟨rfl,⟨50,[(4,.osl 0)],[(0,some (.row 76 3 [[eI (-1),eI (-1),.c (.slice none 0 0)]]))],1⟩,mn [nx] (by simp) rfl (by simp[gz,aj.get,aX,AV.ren]) (by simp[fV,ae.gc,aB.ren]) (by simp[cU,AV.lt]) (by simp[bX,aB.lt]),⟨WK,.inl ⟨hl0,rfl⟩⟩⟩
 .have hpos:=WJ.2 hl0;have z1:(((fS m s m.events.length).length:Int) == 0)=false:=by simp;omega
  have hO:=hN.out
  repeat' first|refine ge (kf @hlt (kf hO (kf @nl z1))) ?_|decide|refine sp ?_ ?_<;>intro _
  exact⟨_,F0 _,⟨hN.lo,.inr ⟨T,nx,o,ids,hl0,hN,rfl⟩⟩⟩
end
section
def iG(f:Nat->Bool):Nat->Nat
 | 0=>0
 | n+1=>if iG f n=n/\f n=true then n+1 else iG f n
theorem oC(f:Nat->Bool):∀n,iG f n<=n
 | 0=>UU _
 | n+1=>by
  have:=oC f n;unfold iG;split<;>omega
theorem qb(f:Nat->Bool):∀n i,i<iG f n->f i=true
 | 0,i,h=>by simp[iG] at h
 | n+1,i,h=>by
  unfold iG at h;split at h
  .rename_i h2;rcases U9 i n with h3|h3
   .exact qb f n i (by omega)
   .obtain rfl:i=n:=by omega
    exact h2.2
  .exact qb f n i h
theorem nU(f:Nat->Bool):∀n,iG f n<n->f (iG f n)=false
 | 0,h=>by simp[iG] at h
 | n+1,h=>by
  have hle:=oC f n;unfold iG at h ⊢;split at h
  .omega
  .rename_i h2;rw[UX h2];by_cases h3:iG f n=n
   .rw [h3];cases hf:f n
    .rfl
    .exact absurd ⟨h3,hf⟩ h2
   .exact nU f n (by omega)
theorem yw(f:Nat->Bool){n k:Nat}(hk:k<=n)(h1:∀i,i<k->f i=true)(h2:k<n->f k=false):iG f n=k:=by
 have hle:=oC f n;rcases Wp (iG f n) k with h|h|h
 .have:=nU f n (by omega);rw[h1 _ h] at this;cases this
 .exact h
 .have:=qb f n k h;rw[h2 (by omega)] at this;cases this
theorem I2(f:Nat->Bool){n k:Nat}(hk:k<=n)(h1:∀i,i<k->f i=true):k<=iG f n:=by
 rcases U9 (iG f n) k with h|h
 .have:=nU f n (by omega);rw[h1 _ h] at this;cases this
 .exact h
def qr:Mv:=⟨0,0,[]⟩
noncomputable def Bb(m:aJ)(l:List Mv):Nat->St
 | 0=>b7 m
 | k+1=>(iU m (Bb m l k) (l.getD k qr)).1
noncomputable def yi(m:aJ)(l:List Mv)(k:Nat):Int:=(iU m (Bb m l k) (l.getD k qr)).2
noncomputable def Ps(m:aJ)(l:List Mv)(k:Nat):Bool:=yi m l k == 0
noncomputable def zk(m:aJ)(l:List Mv):Nat:=iG (Ps m l) l.length
noncomputable def mj(m:aJ)(l:List Mv):Int:=if zk m l=l.length then 0 else yi m l (zk m l)
noncomputable def kK(m:aJ)(l:List Mv):List St:=(List.range (zk m l+1)).map (Bb m l)
theorem FQ(m:aJ)(l:List Mv):(kK m l).length=zk m l+1:=by simp[kK]
theorem IJ(m:aJ)(l:List Mv){i:Nat}(h:i<(kK m l).length):(kK m l)[i]=Bb m l i:=by simp[kK]
structure nf(s:St):Prop where
 vals:s.vals.length<=10
 did:s.did.length<=10
 cnt:s.cnt.length<=10
 ok:Uo s
 nums:∀x∈s.vals,aA x
theorem nf.fit{s:St}(h:nf s):O0 s:=by
 have h1:=h.vals;have h2:=h.did;have h3:=h.cnt;unfold O0;omega
theorem kL:cb 0:=by unfold cb;omega
theorem sH(m:aJ)(hf:jN m)(hi:∀x∈m.inits,aA x):nf (b7 m):=by
 obtain⟨h1,h2,h3⟩:=fj m (-1) (m.order.take m.order.length) (eT m);have h4:=lW m (-1) (m.order.take m.order.length) (eT m) ⟨kL,kL⟩;obtain⟨-,-,-,hel,-,-,-,-,-,hil⟩:=id hf.sizes;unfold b7 cP;refine⟨by rw[h1];exact hil,by rw[h2];simp[eT];omega,by rw[h3];simp[eT];omega,⟨bW h4.1,bW h4.2,fun x hx=>?_⟩,fun x hx=>?_⟩
 .rw [h2] at hx;simp only[eT] at hx;rw[(List.mem_replicate.1 hx).2];exact bW kL
 .rw [h1] at hx;exact hi x hx
theorem KX:nf l7:=⟨by simp[l7],by simp[l7],by simp[l7],⟨bW kL,bW kL,by simp[l7]⟩,by simp[l7]⟩
theorem ED(m:aJ)(s:St)(v:Mv)(hg:nf s)(hv:∀x∈v.vals,aA x):nf (iU m s v).1:=by
 unfold iU;split
 .rename_i hmay;split
  .exact hg
  .have hen:fe m s=true:=by
    unfold gD at hmay
    grind
   unfold fe at hen;simp only[U1,U7] at hen;obtain⟨⟨⟨⟨⟨hc1,hc2⟩,hc3⟩,hc4⟩,hc5⟩,-⟩:=hen;obtain⟨h1,h2,h3⟩:=fj m v.event (m.order.take m.order.length) (dh m s v)
   have ht:(dh m s v).opn=s.opn/\(dh m s v).don=s.don/\(dh m s v).vals.length=s.vals.length/\(dh m s v).did.length=s.did.length/\(dh m s v).cnt.length=s.cnt.length/\∀x∈(dh m s v).did,aA x:=by
    unfold dh;split
    .exact ⟨rfl,rfl,rfl,rfl,rfl,hg.ok.did⟩
    .refine ⟨rfl,rfl,cJ ..,by simp,?_,fun x hx=>?_⟩
     .simp only;split<;>simp
     .rcases V9 hx with h|h
      .exact hg.ok.did x h
      .rw [h];exact bW (jk _ _)
   have h4:=lW m v.event (m.order.take m.order.length) (dh m s v) ⟨by rw[ht.1];exact gQ hc4,by rw[ht.2.1];exact gQ hc5⟩;have g1:=hg.vals;have g2:=hg.did;have g3:=hg.cnt;unfold cP;refine⟨by rw[h1,ht.2.2.1];exact g1,by rw[h2,ht.2.2.2.1];exact g2,by rw[h3,ht.2.2.2.2.1];exact g3,⟨bW h4.1,bW h4.2,fun x hx=>?_⟩,fun x hx=>?_⟩
   .rw [h2] at hx;exact ht.2.2.2.2.2 x hx
   .rw [h1] at hx;exact vN m s v hg.nums hv x hx
 .exact KX
structure Df(l:List Mv):Prop where
 len:l.length<=41
 vals:∀v∈l,v.vals.length<=50
 nums:∀v∈l,∀x∈v.vals,aA x
theorem AZ(m:aJ)(l:List Mv)(hf:jN m)(hi:∀x∈m.inits,aA x)(hl:Df l):∀k,nf (Bb m l k)
 | 0=>sH m hf hi
 | k+1=>ED m _ _ (AZ m l hf hi hl k) fun x hx=>by
  by_cases hk:k<l.length
  .rw [Os,p0 hk] at hx;exact hl.nums _ (UQ hk) x hx
  .rw [Os,Vh (by omega)] at hx;simp[qr] at hx
noncomputable def fD(m:aJ)(l:List Mv)(k:Nat):List St:=(List.range (k+1)).map (Bb m l)
theorem rQ(m:aJ)(l:List Mv)(k:Nat):(fD m l k).length=k+1:=by simp[fD]
theorem G0(m:aJ)(l:List Mv)(k i:Nat)(h:i<(fD m l k).length):(fD m l k)[i]=Bb m l i:=by simp[fD]
abbrev Ub(l:List St):AV:=.sl 5 (l.map cy)
theorem tz{α:Type}(f:Nat -> α)(k:Nat):(List.range (k+1)).map f=(List.range k).map f ++ [f k]:=by
 rw[V5,Vc];rfl
structure j4(m:aJ):Prop where
 fit:jN m
 cond:iR m
 pars:∀p∈m.stages,aA p.2
 inits:∀x∈m.inits,aA x
 roles:∀p∈m.roles,aA p.2
 times:∀e∈m.events,aA e.times
theorem Q9(m:aJ)(l:List Mv)(hm:j4 m)(hl:Df l):am Tryz.prog 10 [.agg (aC m),SG l] ⟨.tup [Ub (kK m l),eI (mj m l)],[],0⟩:=by
 refine am.still (R:=⟨.tup [.osl 0,eI (mj m l)],[(0,some (.row 59 5 ((kK m l).map cy)))],1⟩) [0] ?_ (by simp[cu.frzs,cu.frz,ae.gc,AV.frz,AV.frzL,bw,aB.frz]) (by simp[AV.lt,AV.ltL]);refine aa ag Tryz.func10 rfl (by decide) Tryz.ntmps10 Tryz.results10 rfl (fR (by simp[bX,aB.lt,AV.ltL,AV.lt]) (by simp[AV.lt,AV.ltL])) ?_;have hlen:=hl.len;have e0:(fD m l 0).map cy=[cy (b7 m)]:=rfl
 repeat' first|refine gq ?_|decide|refine sp ?_ ?_<;>intro _|((with_reducible apply cL (g:=31));exact(u5 m hm.fit hm.pars);exact(ro))
 refine⟨rfl,?_⟩;refine af (fun st=>∃k:Nat,k<=l.length/\(∀i,i<k->Ps m l i=true)/\st=⟨41,[(1,SG l),(2,.op 0 0 0),(6,.osl 1),(7,eI (k:Int))],[(0,some (.box 32 (aC m))),(1,some (.row 59 5 ((fD m l k).map cy)))],2⟩) (fun st=>l.length-ax st 7) ⟨_,(wE e0),0,UR _,by simp,rfl⟩ ?_;rintro _ ⟨k,hk,hok,rfl⟩;by_cases hk2:k<l.length
 .have hgs:=AZ m l hm.fit hm.inits hl k;have hd:=P5 m (Bb m l k) l[k] hm.fit hgs.fit (by have:=hl.vals _ (UQ hk2);omega) hm.pars hm.roles hgs.ok hm.times;have hlk:l.getD k qr=l[k]:=by rw[Os,p0 hk2];rfl
  have h1:(iU m (Bb m l k) l[k]).1=Bb m l (k+1):=by rw[Bb,hlk]
  have h2:(iU m (Bb m l k) l[k]).2=yi m l k:=by rw[yi,hlk]
  rw[h1,h2] at hd;have hrow:k<(fD m l k).length:=by rw[rQ];omega
  have hat:(fD m l k)[k]=Bb m l k:=G0 ..;have hlr:(fD m l k).length<=1000000:=by rw[rQ];omega
  have hsn:(fD m l (k+1)).map cy=(fD m l k).map cy ++ [cy (Bb m l (k+1))]:=by unfold fD;rw[tz (Bb m l) (k+1),Vc];rfl
  repeat' first|refine ge hk2 ?_|decide|refine sp ?_ ?_<;>intro _
  refine aG [] [0,1,2,3,4,5,6,7,8] (.two 9 (.take 10 (.take 11 (.take 12 (.exec 13 (.exec 14 (.exec 15 .done)))))) 13 (.exec 9 (.take 10 (.take 11 (.take 12 (.exec 14 (.exec 15 .done))))))) (by kernel_rfl) (by simp[ae.gc]) ?_;by_cases hek:yi m l k=0
  .have hok':∀i,i<k+1->Ps m l i=true:=fun i hi=>by
    rcases U9 i k with h|h
    .exact hok i h
    .obtain rfl:i=k:=by omega
     simp[Ps,hek]
   have hz:((0:Int) != 0)=false:=by decide
   repeat' first|refine gq ?_|simp only[ab,hk2,hrow,hat,hek,hz]|decide|refine sp ?_ ?_<;>intro _|refine cA ((hek ▸ hd)) ?_|(with_reducible apply And.intro)
   all_goals first
    | rfl
    | omega
    | exact rI (wS [0,4] @hsn) ⟨k+1,by omega,hok',rfl⟩
  .have hz:(yi m l k != 0)=true:=(by simp[hek]);have hG:zk m l=k:=yw _ hk hok fun _=>by simp[Ps,hek]
   have hE:mj m l=yi m l k:=by unfold mj;rw[UX (by omega),hG]
   have hR:fD m l k=kK m l:=by unfold kK fD;rw[hG]
   repeat' first|refine gq ?_|simp only[ab,hk2,hrow,hat,hz]|decide|refine sp ?_ ?_<;>intro _|refine cA hd ?_|(with_reducible apply And.intro)
   all_goals first
    | exact⟨[1],by decide,by simp[AV.ren,AV.renL,hE],by simp[b6,ae.gc,hR]⟩
    | (exfalso;simp_all)
 .obtain rfl:k=l.length:=by omega
  have hG:zk m l=l.length:=yw _ (UU _) hok fun h=>absurd h (Nat.lt_irrefl _);have hE:mj m l=0:=by unfold mj;rw[UZ hG]
  have hR:fD m l l.length=kK m l:=by unfold kK fD;rw[hG]
  repeat' first|refine gf hk2 ?_|decide|refine sp ?_ ?_<;>intro _
  exact⟨[1],by decide,by simp[AV.ren,AV.renL,hE],by simp[b6,ae.gc,hR]⟩
end
section
def bK(near:List Int)(c:Int):Nat->List Int×Int
 | 0=>([],c)
 | i+1=>((bK near c i).1 ++ [(oW near (bK near c i).2).1],(oW near (bK near c i).2).2)
theorem kn(near:List Int)(c:Int):∀i,(bK near c i).1.length=i
 | 0=>rfl
 | i+1=>by simp[bK,kn near c i]
theorem tW{near:List Int}{c:Int}(h:∀x∈near,aA x)(hn:0<near.length)(hc:rA c):∀i,(∀x∈(bK near c i).1,aA x)/\rA (bK near c i).2
 | 0=>⟨fun x hx=>by simp[bK] at hx,hc⟩
 | i+1=>by
  obtain⟨h1,h2⟩:=tW h hn hc i;have h3:=OC (c:=(bK near c i).2) h hn;refine⟨fun x hx=>?_,h3.2⟩;rw[bK,U4,Ve] at hx;rcases hx with hx|rfl
  .exact h1 x hx
  .exact h3.1
def jg(m:aJ)(s:St):List Int:=if aR (ba m [] ++ s.vals)=[] then [0] else aR (ba m [] ++ s.vals)
theorem vP(m:aJ)(s:St):0<(jg m s).length:=by
 unfold jg;split
 .simp
 .rename_i h;exact WJ.2 h
theorem CM(l:List aw)(h:∀x∈l,x.ok):∀n∈bN l,aA n:=fun n hn=>by
 obtain⟨x,hx,hn⟩:=VP.1 hn;have hk:=h x hx;unfold gW at hn;split at hn
 .rcases U4.1 hn with hn|hn
  .split at hn
   .obtain rfl:=Ve.1 hn;exact hk.2.2.1
   .cases hn
  .split at hn
   .obtain rfl:=Ve.1 hn;exact hk.2.2.2.2.1
   .cases hn
 .cases hn
theorem sY(l:List aw)(h:∀x∈l,x.ok):∀n∈ce l,aA n:=fun n hn=>CM l h n (((bm (bN l)).2 n).1 hn)
theorem sq(m:aJ)(hc:iR m):∀n∈ba m [],aA n:=fun n hn=>by
 have hn:=((bm _).2 n).1 hn;rcases U4.1 hn with hn|hn
 .rcases U4.1 hn with hn|hn
  .exact sY [] (fun x hx=>by cases hx) n hn
  .obtain ⟨g,hg,hn⟩:=VP.1 hn;exact sY _ (hc.1 g hg) n hn
 .obtain ⟨g,hg,hn⟩:=VP.1 hn;exact sY _ (hc.2 g hg) n hn
theorem Jm(m:aJ)(s:St)(hc:iR m)(hs:∀x∈s.vals,aA x):∀x∈jg m s,aA x:=fun x hx=>by
 unfold jg at hx;split at hx
 .obtain rfl:=Ve.1 hx;unfold aA;omega
 .have hx:=((bm _).2 x).1 hx;rcases U4.1 hx with hx|hx
  .exact sq m hc x hx
  .exact hs x hx
noncomputable def ii(m:aJ)(s:St):List Mv:=if fS m s m.events.length=[] then [⟨-1,-1,[]⟩] else fS m s m.events.length
theorem uL(m:aJ)(s:St):0<(ii m s).length:=by
 unfold ii;split
 .simp
 .rename_i h;exact WJ.2 h
noncomputable def mY(m:aJ)(s:St)(c:Int):Mv:=(ii m s).getD (eJ (aM c) ((ii m s).length:Int)).toNat qr
theorem kI(m:aJ)(s:St)(c:Int):mY m s c∈ii m s:=by
 obtain⟨h1,h2⟩:=lT (c:=aM c) (uL m s);unfold mY;rw[Os,p0 (show(eJ (aM c) ((ii m s).length:Int)).toNat<(ii m s).length by omega)];exact UQ _
noncomputable def im(m:aJ)(s:St)(c:Int):Mv×Int:=
 (⟨(mY m s c).event,(mY m s c).user,(bK (jg m s) (aM c) (mY m s c).vals.length).1⟩,(bK (jg m s) (aM c) (mY m s c).vals.length).2)
noncomputable def br(m:aJ)(seed:Int):Nat->Int×St
 | 0=>(seed,b7 m)
 | k+1=>((im m (br m seed k).2 (br m seed k).1).2,(iU m (br m seed k).2 (im m (br m seed k).2 (br m seed k).1).1).1)
noncomputable def OL(m:aJ)(seed:Int)(k:Nat):Mv:=(im m (br m seed k).2 (br m seed k).1).1
noncomputable def eH(m:aJ)(seed:Int)(k:Nat):List Mv:=(List.range k).map (OL m seed)
theorem jl(m:aJ)(seed:Int)(k:Nat):(eH m seed k).length=k:=by simp[eH]
theorem Ge(m:aJ)(seed:Int)(k:Nat):eH m seed (k+1)=eH m seed k ++ [OL m seed k]:=tz _ _
theorem Ud(c:Int)(n:Int)(hn:aA n):IL Tryz.prog 25 89 [eU c] [] [eI n] (fun av cells' objs'=>av=eI (eJ (aM c) n)/\cells'=[eU (aM c)]/\objs'=[]):=by
 refine xy ag Tryz.func25 rfl (by decide) Tryz.ntmps25 Tryz.results25 rfl (by kernel_rfl) (by simp[AV.ltL,AV.lt]) (by simp[dF]) ?_;simp only[cz,Wd,We];have hN:=xp c;have hP:am Tryz.prog 60 [eU (aM c),eI n] (val (.int .i64 (eJ (aM c) n))):=CO (aM c) n (kO c) hn;generalize eJ (aM c) n=p at *;generalize aM c=c1 at *
 repeat' first|refine go ?_|decide|refine sp ?_ ?_<;>intro _
 refine al hN ?_
 repeat' first|refine go ?_|decide|refine sp ?_ ?_<;>intro _
 refine al hP ?_
 repeat' first|refine go ?_|decide|refine sp ?_ ?_<;>intro _
 exact⟨[eU c1],[],⟨rfl,rfl⟩,trivial,⟨rfl,by simp[AV.ltL,AV.lt],by simp⟩,(wS [0] (kf @cz.eq_1 (kf @cz.eq_2 @We)))⟩
structure UC(B T:ae)(n0 o nx:Nat)(X:Nat->AV)(l:List Mv):Prop where
 base:∀id,id<n0->T.get id=B.get id
 out:∃rows,T.get o=some (.nest 76 3 rows)/\rows.length=l.length/\∀j (h:j<l.length),rows[j]?.getD []=[eI l[j].event,eI l[j].user,X j]
 inn:∀j (h:j<l.length),(X j=.c (.slice none 0 0)/\l[j].vals=[])\/∃id,X j=.osl id/\n0<=id/\id≠o/\id<nx/\T.get id=some (.nest 2 1 (ui l[j].vals))
 lo:n0<=o/\o<nx
end
section
noncomputable def RG(m:aJ)(s:St):List Mv:=if fS m s m.events.length=[] then [⟨-1,-1,[]⟩] else fS m s m.events.length
structure Tx(m:aJ)(s:St)(v:Mv):Prop where
 is:(iU m s v).2=0
 chk:fe m (iU m s v).1=true
 snd:ux m s.opn->ux m (iU m s v).1.opn
 did:∀k,k<s.did.length->∀i:Int,aQ (s.did.getD k 0) i=true->aQ ((iU m s v).1.did.getD k 0) i=true
 cnt:∀k,k<s.cnt.length->s.cnt.getD k 0<=(iU m s v).1.cnt.getD k 0
theorem ME{m:aJ}{s:St}(hci:dW (pars m)<0)(hc:fe m s=true){v:Mv}(hv:v∈RG m s){vs:List Int}(hl:vs.length=v.vals.length):Tx m s ⟨v.event,v.user,vs⟩:=by
 unfold RG at hv;split at hv
 .rename_i h0;obtain rfl:v=⟨-1,-1,[]⟩:=by simpa using hv
  obtain rfl:vs=[]:=VW hl;have hid:gI ⟨-1,-1,[]⟩=true:=rfl
  have hm:gD m s ⟨-1,-1,[]⟩=0:=by
   unfold gD;rw[UX (by rw[hc];simp),UZ hid,UX (by rw[Bj h0];simp)]
  have hd:iU m s ⟨-1,-1,[]⟩=(s,0):=by
   unfold iU;rw[UZ hm,UZ hid]
  refine⟨?_,?_,?_,?_,?_⟩
  .show (iU m s ⟨-1,-1,[]⟩).2=0;rw[hd]
  .show fe m (iU m s ⟨-1,-1,[]⟩).1=true;rw[hd];exact hc
  .show ux m s.opn->ux m (iU m s ⟨-1,-1,[]⟩).1.opn;rw[hd];exact id
  .show ∀k,k<s.did.length->∀i:Int,aQ (s.did.getD k 0) i=true->aQ ((iU m s ⟨-1,-1,[]⟩).1.did.getD k 0) i=true;rw[hd];exact fun k _ i h=>h
  .show ∀k,k<s.cnt.length->s.cnt.getD k 0<=(iU m s ⟨-1,-1,[]⟩).1.cnt.getD k 0;rw[hd];exact fun k _=>WU _
 .obtain ⟨e,he⟩:=ye (UU _) v hv;have he2:wP m s ⟨v.event,v.user,vs⟩ e:=⟨he.ev,he.lt,he.en,hl.trans he.len⟩;have hmo:=Nw hc he2;exact⟨by rw[zj hc he2],Rb hc he2,Sz hci hc he2,hmo.1,hmo.2⟩
end
section
theorem tl(n:Nat):lB 0 (n:Int)=true:=by
 unfold lB jz;have:(0:Int)<2 ^ (max 0 (min (n:Int) 31)).toNat:=Int.pow_pos (by omega);simp;omega
theorem Dr(m:aJ)(h3:m.inits.length=m.attrs.length)(ht:∀i (h:i<m.events.length),0<=m.events[i].times):fe m (b7 m)=true:=by
 have hof:=x7 (m:=m) (event:=-1) (m.order.take m.order.length) (s:=eT m) (tl _) (tl _);have hv:=fj m (-1) (m.order.take m.order.length) (eT m);have e1:(b7 m).vals=m.inits:=hv.1;have e2:(b7 m).did=List.replicate m.events.length 0:=hv.2.1;have e3:(b7 m).cnt=List.replicate m.events.length 0:=hv.2.2
 have g:∀i,(List.replicate m.events.length (0:Int)).getD i 0=0:=fun i=>by
  rw[Os,List.getElem?_replicate];split<;>rfl
 refine oe.2 ⟨by rw[e1,h3],by rw[e2];simp,by rw[e3];simp,hof.1,hof.2,fun i hi=>(mU hi).2 ?_⟩;rw[e2,e3,g];exact⟨tl _,WU _,ht i hi⟩
theorem r8{m:aJ}{s:St}(hf:jN m):∀v∈ii m s,v.vals.length<=10:=by
 unfold ii;split
 .simp
 .intro v hv;obtain⟨e,he⟩:=ye (UU _) v hv;rw[he.len];have:=he.lt;simp only[p0 he.lt,Vz,Vi];exact hf.events _ (UQ _)
theorem DF{m:aJ}{s:St}:∀{n:Nat},∀v∈fS m s n,∃q,v.vals=List.replicate q 0
 | 0,v,h=>by simp[fS] at h
 | n+1,v,h=>by
  rw[fS,U4] at h;rcases h with h|h
  .exact DF v h
  .obtain ⟨u,hu,rfl⟩:=U3.1 h;exact⟨_,rfl⟩
theorem BV{m:aJ}{s:St}:∀v∈ii m s,∃n,v.vals=List.replicate n 0:=by
 unfold ii;split
 .intro v hv;obtain rfl:=Ve.1 hv;exact⟨0,rfl⟩
 .intro v hv;exact DF v hv
structure Uz(m:aJ)(seed:Int)(k:Nat):Prop where
 ch:rA (br m seed k).1
 chk:fe m (br m seed k).2=true
 good:nf (br m seed k).2
theorem EQ{m:aJ}{s:St}(hm:j4 m)(h:nf s):∀x∈jg m s,aA x:=Jm m s hm.cond h.nums
theorem pX{m:aJ}{s:St}{c:Int}(hm:j4 m)(hF:mZ m)(hc:fe m s=true):Tx m s (im m s c).1:=by
 have hv:mY m s c∈RG m s:=kI m s c;exact ME hF.chk.circle hc hv (kn _ _ _)
theorem pQ{m:aJ}{s:St}{c:Int}(hm:j4 m)(hg:nf s)(hc:rA c):(∀x∈(im m s c).1.vals,aA x)/\(im m s c).1.vals.length<=10/\rA (im m s c).2:=by
 have h:=tW (EQ hm hg) (vP m s) (kO c) (mY m s c).vals.length;refine⟨h.1,?_,h.2⟩;have h2:=r8 hm.fit _ (kI m s c);show(bK (jg m s) (aM c) (mY m s c).vals.length).1.length<=10;rw[kn];exact h2
theorem pI{m:aJ}{seed:Int}(hm:j4 m)(hF:mZ m)(hs:rA seed):∀k,Uz m seed k
 | 0=>⟨hs,Dr m hF.chk.inits fun i h=>(hF.writes.each i h).1,sH m hm.fit hm.inits⟩
 | k+1=>by
  obtain⟨h1,h2,h3⟩:=pI hm hF hs k;have hg:=pX (c:=(br m seed k).1) hm hF h2;obtain⟨v1,v2,v3⟩:=pQ (c:=(br m seed k).1) hm h3 h1;exact⟨v3,hg.chk,ED m _ _ h3 v1⟩
theorem Ed{m:aJ}{seed:Int}{n k:Nat}(h:k<n):(eH m seed n).getD k qr=OL m seed k:=by simp[eH,List.getD,h]
theorem CF{m:aJ}{seed:Int}{n:Nat}:∀k,k<=n->Bb m (eH m seed n) k=(br m seed k).2
 | 0,_=>rfl
 | k+1,h=>by
  rw[Bb,CF k (by omega),Ed (by omega)];rfl
theorem NW{m:aJ}{seed:Int}(hm:j4 m)(hF:mZ m)(hs:rA seed){n k:Nat}(h:k<n):Ps m (eH m seed n) k=true:=by
 unfold Ps yi;rw[CF k (by omega),Ed h];have hg:=pX (c:=(br m seed k).1) hm hF (pI hm hF hs k).chk;show((iU m (br m seed k).2 (im m (br m seed k).2 (br m seed k).1).1).2 == 0)=true;rw[hg.is];rfl
theorem Ac{m:aJ}{seed:Int}(hm:j4 m)(hF:mZ m)(hs:rA seed)(n:Nat):zk m (eH m seed n)=n:=by
 have h1:=oC (Ps m (eH m seed n)) (eH m seed n).length;have h2:=I2 (Ps m (eH m seed n)) (n:=(eH m seed n).length) (k:=n) (by rw[jl];exact UU _) fun i hi=>NW hm hF hs hi;rw[jl] at h1 h2;unfold zk;rw[jl];omega
theorem MK{m:aJ}{seed:Int}(hm:j4 m)(hF:mZ m)(hs:rA seed)(n:Nat):mj m (eH m seed n)=0:=by
 unfold mj;rw[UZ (by rw[Ac hm hF hs,jl])]
theorem H7{m:aJ}{seed:Int}(hm:j4 m)(hF:mZ m)(hs:rA seed)(n:Nat)(hn:n<=41):Df (eH m seed n):=by
 have hv:∀v∈eH m seed n,(∀x∈v.vals,aA x)/\v.vals.length<=10:=fun v hv=>by
  obtain⟨k,_,rfl⟩:=U3.1 hv;obtain⟨h1,h2,h3⟩:=pI hm hF hs k;obtain⟨v1,v2,v3⟩:=pQ (c:=(br m seed k).1) hm h3 h1;exact⟨v1,v2⟩
 exact⟨by rw[jl];exact hn,fun v h=>by have:=(hv v h).2;omega,fun v h=>(hv v h).1⟩
end
section
theorem Af(m:aJ)(x:Bool×Int):a5 (bP m) x=(a5 m x).map fun q=>(q.1,q.2.1,[yT],q.2.2.2):=by
 unfold a5 bP;simp only[UV];split
 .split
  .cases m.miles[x.2.toNat]?<;>rfl
  .rfl
 .split
  .cases m.guards[x.2.toNat]?<;>rfl
  .rfl
theorem zT(m:aJ)(x:Bool×Int):dw m x=((a5 m x).map fun q=>q.2.2.1).getD []:=by
 unfold a5 dw;split
 .split
  .cases m.miles[x.2.toNat]?<;>rfl
  .rfl
 .split
  .cases m.guards[x.2.toNat]?<;>rfl
  .rfl
theorem Nf(s:St):n6 (dS [yT] s)=true:=rfl
theorem Dc(m:aJ)(s:St)(x:Bool×Int)(event:Int):dq (bP m) s x event=eZ m s.opn x event:=by
 unfold dq eZ;rw[Af]
 cases a5 m x with
 | none=>rfl
 | some q=>
  obtain⟨st,ev,cond,mi⟩:=q;simp only[Vz,Nf,Bool.and_true];rfl
theorem Li(m:aJ)(s:St)(x:Bool×Int)(event:Int):dq m s x event=(n6 (dS (dw m x) s) && eZ m s.opn x event):=by
 unfold dq;rw[zT]
 cases h:a5 m x with
 | none=>
  have:eZ m s.opn x event=false:=by
   unfold eZ;rw[h]
  rw[this,VK,Bool.and_false]
 | some q=>
  obtain⟨st,ev,cond,mi⟩:=q;rw[Bool.and_comm];rfl
theorem Hg(m:aJ){s t:St}(x:Bool×Int)(ho:s.opn=t.opn)(hd:s.don=t.don):(cd m s x).opn=(cd m t x).opn/\(cd m s x).don=(cd m t x).don:=by
 unfold cd;split
 .split
  .split
   .exact ⟨by simp only;rw[ho],by simp only;rw[hd]⟩
   .exact ⟨by simp only;rw[ho],by simp only;rw[hd]⟩
  .exact ⟨ho,hd⟩
 .exact ⟨ho,hd⟩
theorem FC(m:aJ)(c:List Int)(z:Zn)(event:Int){s t:St}(x:Bool×Int)(hz:z.cls=iB t.vals c)(hv:t.vals.length<=31)(hn:zy (dw m x) c)(ho:s.opn=t.opn)(hd:s.don=t.don) :
  (jQ m c z event s x).opn=(db m event t x).opn/\(jQ m c z event s x).don=(db m event t x).don:=by
 have h1:dL (dw m x) z c s=dS (dw m x) t:=by
  rw[<- FD z c t (dw m x) hz hv hn];unfold dL;rw[ho,hd]
 unfold jQ db;rw[h1,Dc,Li,ho];split
 .exact Hg m x ho hd
 .exact ⟨ho,hd⟩
theorem vR(m:aJ)(c:List Int)(z:Zn)(event:Int)(hn:∀x,zy (dw m x) c):∀(l:List (Bool×Int)){s t:St},z.cls=iB t.vals c->t.vals.length<=31->s.opn=t.opn->s.don=t.don ->
  (l.foldl (jQ m c z event) s).opn=(l.foldl (db m event) t).opn/\(l.foldl (jQ m c z event) s).don=(l.foldl (db m event) t).don
 | [],_,_,_,_,ho,hd=>⟨ho,hd⟩
 | x :: l,s,t,hz,hv,ho,hd=>by
  obtain⟨h1,h2⟩:=FC m c z event x hz hv (hn x) ho hd;have h3:=(sk m event t x).1;exact vR m c z event hn l (by rw[h3];exact hz) (by rw[h3];exact hv) h1 h2
theorem E1(m:aJ)(x:Bool×Int):zy (dw m x) (ba m []):=by
 have key:∀l:List aw,(∀n∈ce l,n∈ba m [])->zy l (ba m []):=fun l h y hy hc=>⟨fun e=>h _ ((qz l y hy hc).1 e),fun e=>h _ ((qz l y hy hc).2 e)⟩;have nil:zy [] (ba m []):=fun y hy=>by cases hy
 unfold dw;split
 .split
  .cases h:m.miles[x.2.toNat]? with
   | none=>exact nil
   | some K=>exact key _ fun n hn=>((bm _).2 n).2 (V8 _ (VP.2 ⟨K,r2 h,hn⟩))
  .exact nil
 .split
  .cases h:m.guards[x.2.toNat]? with
   | none=>exact nil
   | some K=>exact key _ fun n hn=>((bm _).2 n).2 (VU _ (V8 _ (VP.2 ⟨K,r2 h,hn⟩)))
  .exact nil
theorem uE{m:aJ}{cnt:List Int}{e:Nat}(hF:k6 m.events)(he:e<m.events.length)(hl:cnt.length=m.events.length)(h0:0<=cnt.getD e 0)(h1:m.events[e].times<=0\/cnt.getD e 0<m.events[e].times):∀k,k<=m.events.length ->
  cY m cnt k=cY m (if 0<m.events[e].times then cnt.set e (cnt.getD e 0+1) else cnt) k+(if e<k then (m.events[e].sets.length:Int) else 0)
 | 0,_=>by simp[cY]
 | k+1,hk=>by
  have ih:=uE hF he hl h0 h1 k (by omega);have hw:=(hF.each e he).2.2;have hw0:=(hF.each e he).1;unfold cY;rw[ih]
  have hev:DN m cnt k=DN m (if 0<m.events[e].times then cnt.set e (cnt.getD e 0+1) else cnt) k+(if k=e then (m.events[e].sets.length:Int) else 0):=by
   by_cases ht:0<m.events[e].times
   .rw [UZ ht];by_cases e1:k=e
    .subst e1;rw[UZ rfl];have g1:mX cnt k=cnt.getD k 0:=by unfold mX;split<;>omega
     have g2:mX (cnt.set k (cnt.getD k 0+1)) k=cnt.getD k 0+1:=by
      have:(cnt.set k (cnt.getD k 0+1)).getD k 0=cnt.getD k 0+1:=by simp[List.getD,show k<cnt.length by omega]
      unfold mX;rw[this,UZ ⟨by rw[W3];omega,by omega⟩]
     unfold DN;rw[g1,g2,p0 he];simp only[Vz,Vi];obtain⟨q,hq⟩:∃q:Nat,m.events[k].times-cnt.getD k 0=(q:Int)+1:=⟨(m.events[k].times-cnt.getD k 0-1).toNat,by omega⟩;rw[hq,show m.events[k].times-(cnt.getD k 0+1)=(q:Int) by omega,show((max 0 ((q:Int)+1)).toNat:Int)=(q:Int)+1 by omega,show((max 0 (q:Int)).toNat:Int)=(q:Int) by omega,Int.add_mul,Int.one_mul]
    .rw [UX e1];have g:(cnt.set e (cnt.getD e 0+1)).getD k 0=cnt.getD k 0:=(by simp[List.getD,Wf,Ne.symm e1]);have g1:mX (cnt.set e (cnt.getD e 0+1)) k=mX cnt k:=by unfold mX;rw[g,W3]
     unfold DN;rw[g1,Int.add_zero]
   .rw [UX ht];have:m.events[e].sets.length=0:=hw (by omega);rw[this];split<;>simp
  rw[hev];by_cases e1:k=e
  .subst e1;rw[UZ rfl,UX (Nat.lt_irrefl _),UZ (VT _)];omega
  .rw [UX e1];by_cases e2:e<k
   .rw [UZ e2,UZ (show e<k+1 by omega)];omega
   .rw [UX e2,UX (show ¬e<k+1 by omega)];omega
theorem GR{m:aJ}{s:St}{v:Mv}{e:Nat}(hF:mZ m)(hc:fe m s=true)(h:wP m s v e):∃y∈ly m (ba m []) (gg m (ba m []) s),y.nd=gg m (ba m []) (iU m s v).1:=by
 obtain⟨c,hce⟩:∃c,c=ba m []:=⟨_,rfl⟩;have hn:∀x,zy (dw m x) c:=fun x=>by rw[hce];exact E1 m x
 rw[<- hce,zj hc h];obtain⟨c1,c2,c3,c4,c5,c6⟩:=oe.1 hc;obtain⟨d1,d2,d3⟩:=(mU h.lt).1 (c6 e h.lt);have hat:=hF.chk.attrs;obtain⟨_,u0,u1,ht⟩:=tQ h.en
 have hat2:pH s.cnt (e:Int)=s.cnt.getD e 0:=by
  have:=h.lt;unfold pH;rw[UZ ⟨by omega,by omega⟩];rfl
 rw[hat2] at ht;obtain⟨ve,vu,vv⟩:=v;obtain rfl:ve=(e:Int):=h.ev;simp only at u0 u1;have hen:=h.en;have helt:=h.lt;simp only at hen;have hP:uD m c (gg m c s):=Cg m c (gg m c s) s.vals (by omega) c1 rfl (oe.2 ⟨by simp[qs],c2,c3,c4,c5,fun i hi=>c6 i hi⟩);have hls:=uE hF.writes helt c3 d2 ht m.events.length (UU _);rw[UZ helt] at hls;have hl4:=vZ hF s.cnt;have hlp:=(vZ hF (if 0<m.events[e].times then s.cnt.set e (s.cnt.getD e 0+1) else s.cnt)).1;obtain⟨cnt',hcnt⟩:∃cnt',cnt'=(if 0<m.events[e].times then s.cnt.set e (s.cnt.getD e 0+1) else s.cnt):=⟨_,rfl⟩;rw[<- hcnt] at hls hlp
 have hwr:=EN s.vals c m.events[e].sets vv (cY m s.cnt m.events.length) (by omega) (fun i hi=>by
  have hs:=(hF.named.events e helt).2.2;have h1:=(hs i hi).1;unfold df at h1;simp only[U1,U7] at h1;rw[iH hi,c1];exact h1) (by omega) m.events[e].sets.length (UU _) (by omega)
 rw[show cY m s.cnt m.events.length-(m.events[e].sets.length:Int)=cY m cnt' m.events.length by omega] at hwr;obtain⟨z',hz'⟩:∃z',z'=bS (a7 m.events[e].sets vv s.vals m.events[e].sets.length) c (cY m cnt' m.events.length):=⟨_,rfl⟩;rw[<- hz'] at hwr;have hse:oD m e=m.events[e].sets:=pf helt;refine⟨⟨(e:Int),vu,oq m c { eV m (gg m c s) e vu with z:=z' } (e:Int)⟩,?_,?_⟩
 .unfold ly;rw[UZ hP];refine VU _ ((kA _ _).2 ?_);unfold dP lL gE;refine VP.2 ⟨e,Wu.2 helt,VP.2 ⟨vu,?_,U3.2 ⟨z',?_,rfl⟩⟩⟩
  .exact ki.2 ⟨vu.toNat,by omega,by omega,by
    have e1:((vu.toNat:Nat):Int)=vu:=(by omega);rw[e1];exact hen⟩
  .unfold dn;rw[hse];exact hwr
 .rw [rB helt,<- hcnt];obtain⟨t,hte⟩:∃t:St,t=⟨a7 m.events[e].sets vv s.vals m.events[e].sets.length,s.opn,s.don,s.did.set e (bn (s.did.getD e 0) vu),cnt'⟩:=⟨_,rfl⟩;rw[<- hte];obtain⟨v1,v2,v3⟩:=fj m (e:Int) (m.order.take m.order.length) t;have hsl:=cJ m.events[e].sets vv s.vals m.events[e].sets.length;have hfs:=vR m c z' (e:Int) hn (m.order.take m.order.length) (s:=bE { eV m (gg m c s) e vu with z:=z' }) (t:=t) (by rw[hz',hte];rfl) (by rw[hte];show(a7 _ _ _ _).length<=31;omega) (by rw[hte];rfl) (by rw[hte];rfl)
  have hnd:∀a b:Nd,a.z=b.z->a.opn=b.opn->a.don=b.don->a.did=b.did->a.cnt=b.cnt->a=b:=fun a b h1 h2 h3 h4 h5=>by
   cases a;cases b;simp only at h1 h2 h3 h4 h5;subst h1 h2 h3 h4 h5;rfl
  refine hnd _ _ ?_ hfs.1 hfs.2 ?_ ?_
  .show z'=bS (cP m (e:Int) t m.order.length).vals c (cY m (cP m (e:Int) t m.order.length).cnt m.events.length);unfold cP;rw[v1,v3,hz',hte]
  .show s.did.set e (bn (s.did.getD e 0) vu)=(cP m (e:Int) t m.order.length).did;unfold cP;rw[v2,hte]
  .show (if 0<(m.events[e]?.map (·.times)).getD 0 then s.cnt.set e (s.cnt.getD e 0+1) else s.cnt)=(cP m (e:Int) t m.order.length).cnt;unfold cP;rw[v3,hte,p0 helt];exact hcnt.symm
theorem GX{m:aJ}{c:List Int}{N:List Nd}{E:List (List D4)}(hX:AU m c N E N.length){n:Nd}(hn:n∈N){y:Sn}(hy:y∈ly m c n):y.nd∈N:=by
 obtain⟨i,hi,rfl⟩:=U8 hn;have hl:=hX.len;obtain⟨h1,h2⟩:=hX.rows i hi (by omega);obtain⟨j,hj,rfl⟩:=U8 hy;exact r2 (h2 j hj (by omega)).2.2.2
theorem KD{m:aJ}{seed:Int}{N:List Nd}{E:List (List D4)}(hm:j4 m)(hF:mZ m)(hs:rA seed)(hX:AU m (ba m []) N E N.length):∀k,gg m (ba m []) (br m seed k).2∈N
 | 0=>r2 hX.first
 | k+1=>by
  have ih:=KD hm hF hs hX k;have hc:=(pI hm hF hs k).chk;show gg m (ba m []) (iU m (br m seed k).2 (im m (br m seed k).2 (br m seed k).1).1).1∈N;obtain⟨s,hse⟩:∃s,s=(br m seed k).2:=⟨_,rfl⟩;obtain⟨q,hqe⟩:∃q,q=(br m seed k).1:=⟨_,rfl⟩;rw[<- hse] at ih hc ⊢;rw[<- hqe];have hv:=kI m s q;unfold ii at hv;by_cases h0:fS m s m.events.length=[]
  .rw [UZ h0,Ve] at hv
   have hst:(im m s q).1=⟨-1,-1,[]⟩:=by
    unfold im;rw[hv];rfl
   have hm0:gD m s ⟨-1,-1,[]⟩=0:=by
    unfold gD;rw[UX (by rw[hc];simp),UZ (show gI ⟨-1,-1,[]⟩=true from rfl),UX (by rw[Bj h0];simp)]
   have hd:iU m s ⟨-1,-1,[]⟩=(s,0):=by
    unfold iU;rw[UZ hm0,UZ (show gI ⟨-1,-1,[]⟩=true from rfl)]
   rw[hst,hd];exact ih
  .rw [UX h0] at hv;obtain⟨e,he⟩:=ye (UU _) _ hv;have he2:wP m s (im m s q).1 e:=⟨he.ev,he.lt,he.en,(kn _ _ _).trans he.len⟩;obtain⟨y,hy,hyn⟩:=GR hF hc he2;rw[<- hyn];exact GX hX ih hy
end
end
section
section
theorem nz{st:aj}{b:Nat}{t:TypeId}{v:Value}:kx st b [] t [.c v] []=(b,some (.box t [.c v])) :: st.tab:=rfl
theorem GI{T B:ae}{n0 o nx:Nat}{ids:Nat->Nat}{l:List Mv}(hN:EP T o ids l nx)(hy:∀id ob,B.get id=some ob->id<n0):UC B (T.shift n0 ++ B) n0 (o+n0) (n0+nx) (fun j=>.osl (ids j+n0)) l:=by
 have hg:=mK hy T;have hlo:=hN.lo;refine⟨fun id hid=>by rw[hg,UZ hid],⟨(jn ids l).map (AV.shiftL n0),?_,by rw[Vd,nl],fun j hj=>?_⟩,fun j hj=>.inr ⟨ids j+n0,rfl,by omega,?_,?_,?_⟩,by omega,by omega⟩
 .rw [hg,UX (by omega),show o+n0-n0=o by omega,hN.out];rfl
 .rw [UV];have:=ET (ids:=ids) hj
  cases hr:(jn ids l)[j]? with
  | none=>rw[hr] at this;cases this
  | some r=>
   rw[hr] at this;simp only[Vi] at this;rw[this];rfl
 .have:=hN.ne j hj;omega
 .have:=hN.lt j hj;omega
 .rw [hg,UX (by omega),show ids j+n0-n0=ids j by omega,hN.inn j hj];simp[aB.shift,bl,AV.shift,Function.comp_def]
theorem FW(k e sz:Nat)(rows:List (List AV)):aB.shift k (.row e sz rows)=.row e sz rows:=rfl
theorem DX(l:List Int)(n:Nat):(∀row∈ui l,AV.ltL n row)=True:=by
 exact eq_true fun row hr=>by
  obtain⟨x,_,rfl⟩:=U3.1 hr;exact⟨trivial,trivial⟩
theorem Ee(l:List Int)(ids:List Nat):(ui l).map (AV.renL ids)=ui l:=by
 rw[Xt];rfl
theorem Ft(m:aJ)(s:St):(jg m s).length<=(ba m []).length+s.vals.length+1:=by
 have:=fh (ba m [] ++ s.vals);rw[UW] at this;unfold jg;split
 .simp
 .omega
theorem PB(m:aJ)(seed:Int)(n:Nat)(hm:j4 m)(hF:mZ m)(hs:rA seed)(hn:n<=41):am Tryz.prog 9 [.agg (aC m),eU seed,eI (n:Int)] ⟨.tup [SG (eH m seed n),eU (br m seed n).1],[],0⟩:=by
 refine am.still (R:=⟨.tup [.osl 0,eU (br m seed n).1],[(0,some (.row 76 3 ((eH m seed n).map qZ)))],1⟩) [0] ?_ (by simp[cu.frzs,cu.frz,ae.gc,AV.frz,AV.frzL,bw,aB.frz]) (by simp[AV.lt,AV.ltL]);refine aa ag Tryz.func9 rfl (by decide) Tryz.ntmps9 Tryz.results9 rfl (fR (by simp[bX,aB.lt,AV.ltL,AV.lt]) (by simp[AV.lt,AV.ltL])) ?_;obtain⟨hgl,hml,hsl,hel,hal,hul,hrl,hsol,hol,hil⟩:=id hm.fit.sizes;have hC:=Fv m hm.fit hm.cond hm.pars hF;have q2:min (n:Int) 1000=(n:Int):=by omega
 have i1:(br m seed 0).1=seed:=rfl;have i2:(br m seed 0).2=b7 m:=rfl;have i3:eH m seed 0=[]:=rfl
 repeat' first|refine go ?_|decide|refine sp ?_ ?_<;>intro _
 refine al hC ?_
 repeat' first|refine go ?_|decide|refine sp ?_ ?_<;>intro _
 refine cL (OT m hm.fit hm.cond hm.pars hm.inits) (ro) ?_
 repeat' first|refine ge q2 ?_|decide|refine sp ?_ ?_<;>intro _
 refine af (fun st=>∃k:Nat,k<=n/\st=⟨76,[(3,.op 0 0 0),(8,.osl 3),(9,.op 1 0 0),(10,.bfn 25 [.op 1 0 0]),(11,.op 2 0 0),(29,eI (n:Int)),(30,eI (k:Int))],[(0,some (.box 32 (aC m))),(1,some (.box 89 [eU (br m seed k).1])),(2,some (.box 59 (cy (br m seed k).2))),(3,some (.row 76 3 ((eH m seed k).map qZ)))],4⟩) (fun st=>n-ax st 30) ⟨_,((bq 8 76 3 (by simp only[iC,aj.get,aX,aj.put,↓reduceIte,reduceCtorEq,Nat.reduceLT,Nat.reduceEqDiff,Nat.reduceAdd,Nat.reduceLeDiff,eq_self,implies_true,i1,i2,i3,Vn])).trans (wS [0,1,2,3] (kf i1 (kf i2 i3)))),0,UR _,rfl⟩ ?_;rintro _ ⟨k,hk,rfl⟩;obtain⟨k1,k2,k3⟩:=pI hm hF hs k;by_cases hlt:k<n
 case neg=>
  obtain rfl:k=n:=by omega
  repeat' first|refine gf @hlt ?_|decide|refine sp ?_ ?_<;>intro _
  all_goals exact⟨[3],by simp,rfl,⟨WK,⟨_,_,_,rfl⟩,by simp[ae.gc]⟩,trivial⟩
 have hsu:=Ge m seed k;have hmv:OL m seed k=(im m (br m seed k).2 (br m seed k).1).1:=rfl;have hs1:(br m seed (k+1)).1=(im m (br m seed k).2 (br m seed k).1).2:=rfl;have hs2:(br m seed (k+1)).2=(iU m (br m seed k).2 (im m (br m seed k).2 (br m seed k).1).1).1:=rfl;rw[hmv] at hsu;have hgood:=pX (c:=(br m seed k).1) hm hF k2;obtain⟨sv1,sv2,sv3⟩:=pQ (c:=(br m seed k).1) hm k3 k1;have hmoves:=Nb m (br m seed k).2 hm.fit k2;have hpts:=GE m (br m seed k).2 hm.fit hF.consts (by have:=k3.vals;omega);have hDo:=UD m (br m seed k).2 (im m (br m seed k).2 (br m seed k).1).1 hm.fit k3.fit (by omega) hm.cond hm.pars k3.nums sv1 hm.times (fun _=>Tl m _ (by omega) (by omega) (by omega) (by omega));rw[hgood.is,<- hs2] at hDo;have hnr:(if aR (ba m [] ++ (br m seed k).2.vals)=[] then [0] else aR (ba m [] ++ (br m seed k).2.vals))=jg m (br m seed k).2:=rfl;rw[hnr] at hpts;have hnp:=vP m (br m seed k).2;have hno:=EQ hm k3;have hcp:=lT (c:=aM (br m seed k).1) (uL m (br m seed k).2);have hst:im m (br m seed k).2 (br m seed k).1=(⟨(mY m (br m seed k).2 (br m seed k).1).event,(mY m (br m seed k).2 (br m seed k).1).user,(bK (jg m (br m seed k).2) (aM (br m seed k).1) (mY m (br m seed k).2 (br m seed k).1).vals.length).1⟩,(bK (jg m (br m seed k).2) (aM (br m seed k).1) (mY m (br m seed k).2 (br m seed k).1).vals.length).2):=rfl;have hma:mY m (br m seed k).2 (br m seed k).1=(ii m (br m seed k).2).getD (eJ (aM (br m seed k).1) ((ii m (br m seed k).2).length:Int)).toNat qr:=rfl;have hvl:=r8 hm.fit _ (kI m (br m seed k).2 (br m seed k).1);have hvz:=BV _ (kI m (br m seed k).2 (br m seed k).1);have hnl:=Ft m (br m seed k).2
 have hnl2:(jg m (br m seed k).2).length<=1000:=by
  have h1:=k3.vals;have h2:=hF.consts;omega
 rw[hst] at hsu hs1 hDo;generalize mY m (br m seed k).2 (br m seed k).1=v at *;generalize jg m (br m seed k).2=near at *;obtain⟨t,ht⟩:∃t,(br m seed (k+1)).2=t:=⟨_,rfl⟩;rw[ht] at hs2 hDo;generalize (br m seed k).2=s at *;generalize (br m seed k).1=c at *
 repeat' first|refine ge @hlt ?_|decide|refine sp ?_ ?_<;>intro _
 refine vO hmoves ?_;rintro R hR;refine⟨ro,?_⟩;rcases hR with ⟨hl0,rfl⟩|⟨T0,nx0,o0,ids,hl0,hN,rfl⟩
 .have hLaw:ii m s=[⟨-1,-1,[]⟩]:=UZ hl0;rw[hLaw] at hcp hma
  have hp0:eJ (aM c) 1=0:=by
   have h1:0<=eJ (aM c) 1/\eJ (aM c) 1<1:=hcp;omega
  have hv0:v=⟨-1,-1,[]⟩:=by
   rw[hma];show [(⟨-1,-1,[]⟩:Mv)].getD (eJ (aM c) 1).toNat qr=_;rw[hp0];rfl
  have hve:v.event = -1:=by rw[hv0]
  have hvu:v.user = -1:=by rw[hv0]
  obtain⟨q,hq⟩:∃q:Nat,q=0:=⟨0,rfl⟩;have hql:v.vals.length=q:=by rw[hv0,hq];rfl
  have hOf:=Ud c 1 (by unfold aA;omega);rw[hp0] at hOf;have o1:((1:Nat):Int)=1:=rfl;simp only[gl,AV.shift,ae.shift,aB.shift,VE,Vn,Wc,VR]
  repeat' first|refine ge @FW ?_|decide|refine sp ?_ ?_<;>intro _
  refine EM [] hOf (by simp[m8,pi]) ?_ trivial (by simp) (fun p hp=>by cases hp) (fun av cells' objs' he=>?_)
  .rfl
  obtain⟨rfl,rfl,rfl⟩:=he;simp only[nz,Wd,WT];have e0:([[eI (-1),eI (-1),.c (.slice none 0 0)]]:List (List AV))[Int.toNat 0]?.getD []=[eI (-1),eI (-1),.c (.slice none 0 0)]:=rfl;have z0:(0:Int)<((1:Nat):Int):=by decide
  have z1:Int.toNat 0<1:=by decide
  repeat' first|refine ge (kf e0 (kf z0 z1)) ?_|decide|refine sp ?_ ?_<;>intro _
  refine cL hpts (ro) ?_
  repeat' first|refine go ?_|decide|refine sp ?_ ?_<;>intro _
  have tre:∀(l:List Int),∀row∈ui l,bD row:=fun l row hr=>by
   obtain⟨x,_,rfl⟩:=U3.1 hr;simp[bD,dl]
  have wk:∀(j:Nat)(ch:Int)(vs:List Int),ct ⟨76,[(3,.op 0 0 0),(8,.osl 3),(9,.op 1 0 0),(10,.bfn 25 [.op 1 0 0]),(11,.op 2 0 0),(13,.op 4 0 0),(14,sI near),(29,eI (n:Int)),(30,eI (k:Int)),(47,eI (q:Int)),(48,eI (j:Int))],[(0,some (.box 32 (aC m))),(1,some (.box 89 [eU ch])),(2,some (.box 59 (cy s))),(3,some (.row 76 3 ((eH m seed k).map qZ))),(4,some (.box 76 [eI v.event,eI v.user,.osl 5])),(5,some (.nest 2 1 (ui vs)))],6⟩ ⟨76,[(3,.op 0 0 0),(8,.osl 3),(9,.op 1 0 0),(10,.bfn 25 [.op 1 0 0]),(11,.op 2 0 0),(13,.op 4 0 0),(14,sI near),(29,eI (n:Int)),(30,eI (k:Int)),(47,eI (q:Int)),(48,eI (j:Int))],[(0,some (.box 32 (aC m))),(1,some (.box 89 [eU ch])),(2,some (.box 59 (cy s))),(3,some (.row 76 3 ((eH m seed k).map qZ))),(4,some (.box 76 [eI v.event,eI v.user,sI vs]))],5⟩:=fun j ch vs=>(uS (e:=2) (sz:=1) 5 (by simp[ae.gc]) (tre vs)).trans (wS [0,1,2,3,4] (kf @fk.eq_1 (kf @fk.eq_2 (kf @bw.eq_1 (kf @bw.eq_2 (kf @aB.frz.eq_1 (kf @aB.frz.eq_2 (kf @aB.frz.eq_3 (kf @aB.frz.eq_4 (kf @aB.frz.eq_5 (kf @AV.frz.eq_1 (kf @AV.frz.eq_2 (kf @AV.frz.eq_3 (kf @AV.frz.eq_4 (kf @AV.frz.eq_5 (kf @AV.frz.eq_6 (kf @AV.frz.eq_7 (kf @AV.frz.eq_8 (kf @AV.frz.eq_9 (kf @AV.frz.eq_10 (kf @AV.frzL.eq_1 (kf @AV.frzL.eq_2 @Vz))))))))))))))))))))));refine af (fun st=>∃i:Nat,(i<q/\st=⟨76,[(3,.op 0 0 0),(8,.osl 3),(9,.op 1 0 0),(10,.bfn 25 [.op 1 0 0]),(11,.op 2 0 0),(13,.op 4 0 0),(14,sI near),(29,eI (n:Int)),(30,eI (k:Int)),(47,eI (q:Int)),(48,eI (i:Int))],[(0,some (.box 32 (aC m))),(1,some (.box 89 [eU (bK near (aM c) i).2])),(2,some (.box 59 (cy s))),(3,some (.row 76 3 ((eH m seed k).map qZ))),(4,some (.box 76 [eI v.event,eI v.user,.osl 5])),(5,some (.nest 2 1 (ui ((bK near (aM c) i).1 ++ List.replicate (q-i) 0))))],6⟩)\/(i=q/\st=⟨76,[(3,.op 0 0 0),(8,.osl 3),(9,.op 1 0 0),(10,.bfn 25 [.op 1 0 0]),(11,.op 2 0 0),(13,.op 4 0 0),(14,sI near),(29,eI (n:Int)),(30,eI (k:Int)),(47,eI (q:Int)),(48,eI (q:Int))],[(0,some (.box 32 (aC m))),(1,some (.box 89 [eU (bK near (aM c) q).2])),(2,some (.box 59 (cy s))),(3,some (.row 76 3 ((eH m seed k).map qZ))),(4,some (.box 76 [eI v.event,eI v.user,sI (bK near (aM c) q).1]))],5⟩)) (fun st=>q-ax st 48) ?_ ?_
  .have vv1:(bK near (aM c) q).1=[]:=by rw[hq];rfl
   have vv2:(bK near (aM c) q).2=aM c:=by rw[hq];rfl
   exact⟨_,ct.trans (cQ 5 2 2 1 rfl rfl) (ct.trans (Gx 6 rfl) (ct.trans (mn [0,1,2,3,5,6] (by decide) rfl (by simp[gz,aj.get,aX,AV.ren,AV.renL,hq]) (by simp[fV,ae.gc,aB.ren,AV.renL,AV.ren,vv1,vv2,hve,hvu]) (by simp[cU,AV.lt,AV.ltL]) (by simp[bX,aB.lt,AV.ltL,AV.lt,vv1])) (wk q (bK near (aM c) q).2 (bK near (aM c) q).1))),0,.inr ⟨hq.symm,rfl⟩⟩
  rintro _ ⟨i2,⟨hi2,rfl⟩|⟨hiq,rfl⟩⟩
  .omega
  .have d1:decide (q<q)=false:=(by simp);rw[hql] at hsu hs1 hDo;have et:(eH m seed (k+1)).map qZ=(eH m seed k).map qZ ++ [[eI v.event,eI v.user,sI (bK near (aM c) q).1]]:=by rw[hsu,Vc];rfl
   have hslen:(eH m seed k).length=k:=jl ..
   repeat' first|refine ge (kf d1 @hslen) ?_|decide|refine sp ?_ ?_<;>intro _
   refine⟨rfl,⟨by omega,by omega⟩,?_⟩;refine cL hDo (ro) ?_
   repeat' first|refine go ?_|decide|refine sp ?_ ?_<;>intro _
   exact rI (wS [0,1,2,6] (kf et (kf ht hs1))) ⟨k+1,by omega,rfl⟩
 .have hLaw:ii m s=fS m s m.events.length:=UX hl0
  have hAt:=GI (B:=[(0,some (.box 32 (aC m))),(1,some (.box 89 [eU c])),(2,some (.box 59 (cy s))),(3,some (.row 76 3 ((eH m seed k).map qZ)))]) (n0:=4) hN (by
   intro id ob h;simp only[ae.gc] at h;repeat' split at h
   all_goals first|omega|cases h)
  simp only[AV.shift];generalize T0.shift 4 ++ [(0,some (.box 32 (aC m))),(1,some (.box 89 [eU c])),(2,some (.box 59 (cy s))),(3,some (.row 76 3 ((eH m seed k).map qZ)))]=T at *;generalize 4+nx0=nx at *;generalize o0+4=o at *;rw[hLaw] at hcp hma;have hll:=tb m s m.events.length;have hll2:m.users.length * m.events.length<=10 * 10:=WI (by omega) (by omega);have hll3:(fS m s m.events.length).length<=100:=by omega
  clear hll hll2;generalize fS m s m.events.length=l at *;obtain⟨hB,⟨rows,hO,hrl,hrj⟩,hin,hlo⟩:=hAt;have b0:=hB 0 (by omega);have b1:=hB 1 (by omega);have b2:=hB 2 (by omega);have b3:=hB 3 (by omega);simp only[ae.gc,↓reduceIte,Nat.reduceEqDiff,reduceCtorEq] at b0 b1 b2 b3;obtain⟨i,hi⟩:∃i:Nat,eJ (aM c) (l.length:Int)=(i:Int):=⟨(eJ (aM c) (l.length:Int)).toNat,by omega⟩;have hil:i<l.length:=by omega
  have hvi:v=l[i]:=by
   rw[hma,hi,VD,Os,p0 hil];rfl
  have hri:=hrj i hil;have hOf:=Ud c (l.length:Int) (by unfold aA;omega);rw[hi] at hOf
  repeat' first|refine ge (kf hO @hrl) ?_|decide|refine sp ?_ ?_<;>intro _
  refine EM [] hOf (by simp[m8,pi]) ?_ trivial (by simp) (fun p hp=>by cases hp) (fun av cells' objs' he=>?_)
  .rw [b1];rfl
  obtain⟨rfl,rfl,rfl⟩:=he;simp only[nz,Wd,WT];have o1:(o=1)=False:=by simp;omega
  rcases hin i hil with ⟨hX,_⟩|⟨id,hX,g1,g2,g3,g4⟩
  .cases hX
  have hX:ids i+4=id:=by injection hX
  rw[hX] at hri;rw[<- hvi] at hri g4;obtain⟨q,hq⟩:=hvz;have hql:v.vals.length=q:=by rw[hq,List.length_replicate]
  rw[hq] at g4;have x0:(0=nx)=False:=by simp;omega
  have x1:(1=nx)=False:=by simp;omega
  have x2:(2=nx)=False:=by simp;omega
  have x3:(3=nx)=False:=by simp;omega
  have x4:(id=nx)=False:=by simp;omega
  have x5:(id=1)=False:=by simp;omega
  have x6:(id=o)=False:=by simp;exact g2
  repeat' first|refine ge (kf hO (kf @hrl (kf @hri (kf @hil (kf o1 (kf x0 (kf x1 (kf x2 (kf x3 (kf x4 (kf x5 (kf b0 (kf b1 (kf b2 (kf b3 g4))))))))))))))) ?_|decide|refine sp ?_ ?_<;>intro _
  refine cL hpts (ro) ?_
  repeat' first|refine ge (kf hO (kf @hrl (kf @hri (kf @hil (kf o1 (kf x0 (kf x1 (kf x2 (kf x3 (kf x4 (kf x5 (kf b0 (kf b1 (kf b2 (kf b3 (kf g4 @List.length_replicate.{0})))))))))))))))) ?_|decide|refine sp ?_ ?_<;>intro _
  have tre:∀(l:List Int),∀row∈ui l,bD row:=fun l row hr=>by
   obtain⟨x,_,rfl⟩:=U3.1 hr;simp[bD,dl]
  have wk:∀(j:Nat)(ch:Int)(vs:List Int),ct ⟨76,[(3,.op 0 0 0),(8,.osl 3),(9,.op 1 0 0),(10,.bfn 25 [.op 1 0 0]),(11,.op 2 0 0),(13,.op 4 0 0),(14,sI near),(29,eI (n:Int)),(30,eI (k:Int)),(47,eI (q:Int)),(48,eI (j:Int))],[(0,some (.box 32 (aC m))),(1,some (.box 89 [eU ch])),(2,some (.box 59 (cy s))),(3,some (.row 76 3 ((eH m seed k).map qZ))),(4,some (.box 76 [eI v.event,eI v.user,.osl 5])),(5,some (.nest 2 1 (ui vs)))],6⟩ ⟨76,[(3,.op 0 0 0),(8,.osl 3),(9,.op 1 0 0),(10,.bfn 25 [.op 1 0 0]),(11,.op 2 0 0),(13,.op 4 0 0),(14,sI near),(29,eI (n:Int)),(30,eI (k:Int)),(47,eI (q:Int)),(48,eI (j:Int))],[(0,some (.box 32 (aC m))),(1,some (.box 89 [eU ch])),(2,some (.box 59 (cy s))),(3,some (.row 76 3 ((eH m seed k).map qZ))),(4,some (.box 76 [eI v.event,eI v.user,sI vs]))],5⟩:=fun j ch vs=>(uS (e:=2) (sz:=1) 5 (by simp[ae.gc]) (tre vs)).trans (wS [0,1,2,3,4] (kf @fk.eq_1 (kf @fk.eq_2 (kf @bw.eq_1 (kf @bw.eq_2 (kf @aB.frz.eq_1 (kf @aB.frz.eq_2 (kf @aB.frz.eq_3 (kf @aB.frz.eq_4 (kf @aB.frz.eq_5 (kf @AV.frz.eq_1 (kf @AV.frz.eq_2 (kf @AV.frz.eq_3 (kf @AV.frz.eq_4 (kf @AV.frz.eq_5 (kf @AV.frz.eq_6 (kf @AV.frz.eq_7 (kf @AV.frz.eq_8 (kf @AV.frz.eq_9 (kf @AV.frz.eq_10 (kf @AV.frzL.eq_1 (kf @AV.frzL.eq_2 @Vz))))))))))))))))))))));refine af (fun st=>∃i:Nat,(i<q/\st=⟨76,[(3,.op 0 0 0),(8,.osl 3),(9,.op 1 0 0),(10,.bfn 25 [.op 1 0 0]),(11,.op 2 0 0),(13,.op 4 0 0),(14,sI near),(29,eI (n:Int)),(30,eI (k:Int)),(47,eI (q:Int)),(48,eI (i:Int))],[(0,some (.box 32 (aC m))),(1,some (.box 89 [eU (bK near (aM c) i).2])),(2,some (.box 59 (cy s))),(3,some (.row 76 3 ((eH m seed k).map qZ))),(4,some (.box 76 [eI v.event,eI v.user,.osl 5])),(5,some (.nest 2 1 (ui ((bK near (aM c) i).1 ++ List.replicate (q-i) 0))))],6⟩)\/(i=q/\st=⟨76,[(3,.op 0 0 0),(8,.osl 3),(9,.op 1 0 0),(10,.bfn 25 [.op 1 0 0]),(11,.op 2 0 0),(13,.op 4 0 0),(14,sI near),(29,eI (n:Int)),(30,eI (k:Int)),(47,eI (q:Int)),(48,eI (q:Int))],[(0,some (.box 32 (aC m))),(1,some (.box 89 [eU (bK near (aM c) q).2])),(2,some (.box 59 (cy s))),(3,some (.row 76 3 ((eH m seed k).map qZ))),(4,some (.box 76 [eI v.event,eI v.user,sI (bK near (aM c) q).1]))],5⟩)) (fun st=>q-ax st 48) ?_ ?_
  .have VV:(bK near (aM c) 0).1=[]/\(bK near (aM c) 0).2=aM c:=⟨rfl,rfl⟩;by_cases hq0:0<q
   .exact ⟨_,mn [0,1,2,3,nx,id] (by simp;omega) rfl (by simp[gz,aj.get,aX,AV.ren,AV.renL]) (by simp[fV,ae.gc,aB.ren,AV.renL,AV.ren,x0,x1,x2,x3,x4,x5,b0,b1,b2,b3,g4,VV]) (by simp[cU,AV.lt,AV.ltL]) (by simp[bX,aB.lt,AV.ltL,AV.lt];intro row hr;rcases hr with ⟨a,_,rfl⟩|⟨_,rfl⟩<;>simp[AV.ltL,AV.lt]),0,.inl ⟨hq0,rfl⟩⟩
   .obtain rfl:q=0:=by omega
    exact⟨_,(mn [0,1,2,3,nx,id] (by simp;omega) rfl (by simp[gz,aj.get,aX,AV.ren,AV.renL]) (by simp[fV,ae.gc,aB.ren,AV.renL,AV.ren,x0,x1,x2,x3,x4,x5,b0,b1,b2,b3,g4,VV]) (by simp[cU,AV.lt,AV.ltL]) (by simp[bX,aB.lt,AV.ltL,AV.lt])).trans (wk 0 (aM c) (List.replicate 0 0)),0,.inr ⟨rfl,rfl⟩⟩
  rintro _ ⟨i2,⟨hi2,rfl⟩|⟨hiq,rfl⟩⟩
  .obtain ⟨w1,w2⟩:=tW hno hnp (kO c) i2;have hNu:=Ly near (bK near (aM c) i2).2 hnp (by omega) hno w2;have hsv:bK near (aM c) (i2+1)=((bK near (aM c) i2).1 ++ [(oW near (bK near (aM c) i2).2).1],(oW near (bK near (aM c) i2).2).2):=rfl;have hvl2:=kn near (aM c) i2;have d1:decide (i2<q)=true:=Vb hi2
   repeat' first|refine ge d1 ?_|decide|refine sp ?_ ?_<;>intro _
   refine aG [1,5] [0,1,2,3,4] (.exec 5 (.take 6 (.exec 7 .done))) (by kernel_rfl) (by simp[ae.gc]) ?_
   repeat' first|refine go ?_|decide|refine sp ?_ ?_<;>intro _
   refine AI [] hNu rfl (by simp[ae.gc,AV.renL,AV.ren]) trivial (by simp) ?_ (fun av cells' objs' he=>?_)
   .rintro p hp id hid;cases hp;simp at hid;subst hid;exact .inl (by simp)
   obtain⟨rfl,rfl,rfl⟩:=he;simp only[nz,Wd,WT];have hlen:((bK near (aM c) i2).1 ++ List.replicate (q-i2) 0).length=q:=by rw[UW,List.length_replicate,hvl2];omega
   have hset:(ui ((bK near (aM c) i2).1 ++ List.replicate (q-i2) 0)).set i2 [eI (oW near (bK near (aM c) i2).2).1]=ui ((bK near (aM c) (i2+1)).1 ++ List.replicate (q-(i2+1)) 0):=by
    rw[hsv,show q-i2=(q-(i2+1))+1 by omega,List.replicate_succ];have h1:((bK near (aM c) i2).1.map fun n=>[eI n]).length=i2:=(by rw[Vd,hvl2]);simp only[ui,Vc,VE,Vn];rw[List.set_append_right _ _ (by omega),h1,W6,Wi];simp
   have hru:(ui ((bK near (aM c) i2).1 ++ List.replicate (q-i2) 0))[i2]?.getD []=[eI (((bK near (aM c) i2).1 ++ List.replicate (q-i2) 0)[i2]'(by omega))]:=by rw[ui,UV,p0 (by omega)];rfl
   repeat' first|refine ge (kf @hlen (kf hi2 (kf @hru @hset))) ?_|decide|refine sp ?_ ?_<;>intro _
   have hv2:(bK near (aM c) (i2+1)).2=(oW near (bK near (aM c) i2).2).2:=rfl;by_cases hlast:i2+1<q
   .exact rI (wS [0,1,2,3,4,5] (kf hv2 (kf @DX @Ee))) ⟨i2+1,.inl ⟨hlast,rfl⟩⟩
   .have hq1:i2+1=q:=(by omega);have hset2:ui ((bK near (aM c) (i2+1)).1 ++ List.replicate (q-(i2+1)) 0)=ui (bK near (aM c) q).1:=(by rw[hq1,W6,List.replicate_zero,VH]);have hv3:(bK near (aM c) q).2=(oW near (bK near (aM c) i2).2).2:=(by rw[<- hq1,hv2]);have hw1:IntKind.i64.wrap ((i2:Int)+1)=(q:Int):=by rw[aE (by omega) (by omega)];omega
    exact gv (ct.trans (wS [0,1,2,3,4,5] (kf @hset2 (kf hv3 (kf hw1 (kf @DX @Ee))))) (wk q _ _)) ⟨q,.inr ⟨rfl,rfl⟩⟩ (by simp -implicitDefEqProofs (maxSteps:=5000000) only[w5,↓reduceIte,reduceCtorEq,Nat.reduceLT,Nat.reduceEqDiff,Nat.reduceAdd,Nat.reduceMul,Nat.reduceSub,Nat.reduceLeDiff,Nat.reduceBEq,ax,hw1];omega)
  .have d1:decide (q<q)=false:=(by simp);rw[hql] at hsu hs1 hDo;have et:(eH m seed (k+1)).map qZ=(eH m seed k).map qZ ++ [[eI v.event,eI v.user,sI (bK near (aM c) q).1]]:=by rw[hsu,Vc];rfl
   have hslen:(eH m seed k).length=k:=jl ..
   repeat' first|refine ge (kf d1 @hslen) ?_|decide|refine sp ?_ ?_<;>intro _
   refine⟨rfl,⟨by omega,by omega⟩,?_⟩;refine cL hDo (ro) ?_
   repeat' first|refine go ?_|decide|refine sp ?_ ?_<;>intro _
   exact rI (wS [0,1,2,6] (kf et (kf ht hs1))) ⟨k+1,by omega,rfl⟩
end
section
def fu:aJ:=⟨[],[],[],[],[],[],[],[],[],[]⟩
theorem Uv:jN fu:=⟨by simp[tw,fu],by simp[fu],by simp[fu],by simp[fu]⟩
theorem TY:j4 fu:=⟨Uv,⟨fun g hg=>(by cases hg),fun g hg=>(by cases hg)⟩,fun g hg=>(by cases hg),fun g hg=>(by cases hg),fun g hg=>(by cases hg),fun g hg=>(by cases hg)⟩
theorem Us:TF fu:=⟨by simp[fu],by simp[fu],by simp[fu],by simp[fu],by simp[fu],by simp[fu],by simp[fu],by simp[fu],by simp[fu],by decide⟩
theorem R0:tK fu:=⟨fun i h=>absurd h (W4 _),fun i h=>absurd h (W4 _),fun i h=>absurd h (W4 _),fun i h=>absurd h (W4 _),fun i h=>absurd h (W4 _),fun i h=>absurd h (W4 _)⟩
theorem Tc:mZ fu:=⟨Us,R0,⟨fun i h=>absurd h (W4 _)⟩,by decide,by simp[ba,fu,ce,bN,aR],⟨[],rfl,rfl,fun j h=>absurd h (W4 _)⟩⟩
theorem Tq(s:Int)(k:Nat):(OL fu s k).event = -1:=by
 have h:=kI fu (br fu s k).2 (br fu s k).1;unfold ii at h;have e:fS fu (br fu s k).2 fu.events.length=[]:=rfl;rw[UZ e,Ve] at h;show(mY fu (br fu s k).2 (br fu s k).1).event = -1;rw[h]
abbrev TC:List AV:=[.c (.slice none 0 0),.c (.slice none 0 0),.c (.slice none 0 0),.c (.slice none 0 0),.c (.slice none 0 0),.c (.slice none 0 0),.c (.slice none 0 0),.c (.slice none 0 0),.c (.slice none 0 0),.c (.slice none 0 0)]
theorem nX:am Tryz.prog 6 [] (val (.bool true)):=by
 refine aa ag Tryz.func6 rfl (by decide) Tryz.ntmps6 Tryz.results6 rfl (aD _) ?_;have hR:=(PB fu 1 2 TY Tc ⟨by decide,by decide⟩ (by omega)).fits (args:=[.agg TC,eU 1,eI 2]) ⟨.agg ⟨.nil 1,.nil 1,.nil 1,.nil 2,.nil 2,.nil 5,.nil 3,.nil 5,.nil 2,.nil 2,trivial⟩,.one (.refl _),.one (.refl _),trivial⟩;have hN:=xp 0
 have eN:(aM 0 == 1442695040888963407)=true:=by
  unfold aM;rw[n9,n9];rfl
 have hl:eH fu 1 2=[OL fu 1 0,OL fu 1 1]:=rfl;have h0:=Tq 1 0;rw[hl] at hR;generalize (br fu 1 2).1=cc at *;generalize OL fu 1 0=x0 at *;generalize OL fu 1 1=x1 at *;obtain⟨ev0,us0,vl0⟩:=x0;have h0:ev0 = -1:=h0;subst h0
 repeat' first|refine go ?_|decide|refine sp ?_ ?_<;>intro _
 refine cL hR (ro) ?_;have q2:(((2:Nat):Int) == 2)=true:=rfl;have q1:((-1:Int) == -1)=true:=rfl;have b0:(0:Int)<((2:Nat):Int):=by decide
 have b1:Int.toNat 0<2:=by decide
 have b3:(0:Int)<=0:=by decide
 have g0:∀l:List (List AV),l[Int.toNat 0]?.getD []=l.headD []:=fun l=>by cases l<;>rfl
 repeat' first|refine gf (kf eN (kf q1 (kf q2 (kf b0 (kf b1 (kf b3 g0)))))) ?_|decide|refine sp ?_ ?_<;>intro _|refine cA hN ?_|(with_reducible apply And.intro)
end
section
theorem GJ(m:aJ)(h:iR m):∀n∈ba m [],aA n:=sq m h
theorem Pi(m:aJ)(seed:Int)(a:Nat)(hc:iR m)(hp:∀p∈m.stages,aA p.2)(hi:∀x∈m.inits,aA x)(hr:∀p∈m.roles,aA p.2)(ht:∀e∈m.events,aA e.times)(hs:rA seed)(ha:a<256) :
  am Tryz.prog 3 [.agg (aC m),eU seed,.c (.int .u8 (a:Int))] (val (.bool true)):=by
 refine aa ag Tryz.func3 rfl (by decide) Tryz.ntmps3 Tryz.results3 rfl (aD _) ?_
 repeat' first|refine go ?_|decide|refine sp ?_ ?_<;>intro _
 refine lQ (Fy m) fun g hg=>?_
 cases g with
 | true=>(repeat' (first|refine gq ?_|decide|refine sp ?_ ?_<;>intro _|((with_reducible first|apply al (g:=6)|apply aO (g:=6));exact nX)))
 | false=>
 have hf:=hg rfl
 repeat' first|refine go ?_|decide|refine sp ?_ ?_<;>intro _
 refine lQ (C4 m hf hp) fun g2 hg2=>?_
 cases g2 with
 | false=>(repeat' (first|refine gq ?_|decide|refine sp ?_ ?_<;>intro _|((with_reducible first|apply al (g:=6)|apply aO (g:=6));exact nX)))
 | true=>
 have hF:=hg2 rfl;have hm:j4 m:=⟨hf,hc,hp,hi,hr,ht⟩;obtain⟨hgl,hml,hsl,hel,hal,hul,hrl,hsol,hol,hil⟩:=id hf.sizes;have q12:((12:Int)=0)=False:=by simp
 have e1:((a:Nat):Int).tmod 12=((a % 12:Nat):Int):=by rw[Xc (by omega)];omega
 obtain⟨A,hA,hA2⟩:∃A,a % 12=A/\A<12:=⟨_,rfl,Nat.mod_lt _ (by omega)⟩;rw[hA] at e1;have w1:IntKind.i64.wrap (A:Int)=(A:Int):=aE (by omega) (by omega);have hR:=PB m seed A hm hF hs (by omega);have hAl:=Q9 m (eH m seed A) hm (H7 hm hF hs A (by omega));rw[MK hm hF hs] at hAl;have hCo:=(y6 m [] (by simp) (by omega) (by omega) hf.guards hf.miles).fits (args:=[.agg (aC m),.c (.slice none 0 0)]) ⟨.one (.refl _),.one (.nil 7),trivial⟩;have hok:=GJ m hc;have hin:=fun N E (h:AU m (ba m []) N E N.length)=>KD hm hF hs h;have hck6:=hF.consts;obtain⟨c,hce⟩:∃c,c=ba m []:=⟨_,rfl⟩;rw[<- hce] at hCo hok hin hck6;have hE:jC m c:=⟨hf,hF,by omega,hok,hp,hr⟩;have hX:=G6 m c 100 hE hi (by omega);have e100:((100:Nat):Int)=100:=rfl;rw[e100] at hX
 repeat' first|refine gq ?_|decide|refine sp ?_ ?_<;>intro _|refine cA hCo ?_|fail
 refine vO hX ?_;rintro R (rfl|⟨N,E,hXk,hNl,rfl⟩)
 .refine ⟨ro,?_⟩
  repeat' first|refine gf @cX ?_|decide|refine sp ?_ ?_<;>intro _|((with_reducible first|apply al (g:=6)|apply aO (g:=6));exact nX)
 refine⟨ro,?_⟩;have hN:=hin N E hXk;have hrl:(kK m (eH m seed A)).length=A+1:=by rw[FQ,Ac hm hF hs]
 obtain⟨S,hSe⟩:∃S,S=kK m (eH m seed A):=⟨_,rfl⟩
 have hSat:∀k (h:k<S.length),S[k]=(br m seed k).2:=fun k h=>by
  subst hSe;rw[IJ,CF k (by omega)]
 rw[<- hSe] at hAl hrl
 have hm10:∀e∈m.events,e.times<=10/\e.sets.length<=10:=fun x hx=>by
  obtain⟨i,hi,rfl⟩:=U8 hx;have h1:=(hF.writes.each i hi).2.1;have h2:=lZ hF hi;exact⟨by omega,by omega⟩
 have z0:((0:Int) == 0)=true:=rfl
 repeat' first|refine gf (kf @cX (kf q12 (kf e1 w1))) ?_|decide|refine sp ?_ ?_<;>intro _|refine cA hR ?_|refine cA hAl ?_|fail
 refine af (fun st=>∃k:Nat,k<=A+1/\st=⟨71,[(3,.op 0 0 0),(7,sI c),(8,.op 1 0 0),(12,Ub S),(13,eI 0),(14,eI (k:Int))],[(0,some (.box 32 (aC m))),(1,some (.box 40 [.sl 6 (N.map kD),.sl 1 (xl E)]))],2⟩) (fun st=>A+1-ax st 14) ⟨_,(wE @cX),0,UR _,rfl⟩ ?_;rintro _ ⟨k,hk,rfl⟩;by_cases hlt:k<A+1
 .have hkS:k<S.length:=by omega
  obtain⟨s,hse⟩:∃s,s=S[k]:=⟨_,rfl⟩;have hrow:(S.map cy)[k]?.getD []=cy s:=by rw[hse];simp[hkS]
  have hss:s=(br m seed k).2:=by rw[hse,hSat]
  have hg:=(pI hm hF hs k).good;have hmem:=hN k;rw[<- hss] at hg hmem;have g1:=hg.vals;have g2:=hg.did;have g3:=hg.cnt;have hO:=zY m c s (by omega) hm10 (by omega) (by omega) hg.nums hok (by omega) (by omega);have hFi:=Aj N (gg m c s) (by omega) (N:=20) (by omega) hXk.bnd;have hfi:sj N (gg m c s)=((N.idxOf (gg m c s):Nat):Int):=UZ hmem;rw[hfi] at hFi;obtain⟨q,hq⟩:∃q,q=N.idxOf (gg m c s):=⟨_,rfl⟩;rw[<- hq] at hFi;have hge:decide ((q:Int)<0)=false:=U5 (by omega)
  repeat' first|refine ge (kf @hrow (kf @hlt @hkS)) ?_|decide|refine sp ?_ ?_<;>intro _
  refine aG [] [0,1,2,3,4,5,6,7] (.exec 8 (.exec 9 (.take 10 .done))) (by kernel_rfl) (by simp[ae.gc]) ?_
  repeat' first|refine gf (kf @hrow (kf @hlt (kf @hkS @hge))) ?_|decide|refine sp ?_ ?_<;>intro _|refine cA hO ?_|refine cA hFi ?_|fail
  all_goals exact rI wC ⟨k+1,by omega,rfl⟩
 .obtain rfl:k=A+1:=by omega
  have hlt2:¬A+1<S.length:=by omega
  repeat' first|refine gf (kf @hlt (kf @hlt2 (kf @hrl z0))) ?_|decide|refine sp ?_ ?_<;>intro _|((with_reducible first|apply al (g:=6)|apply aO (g:=6));exact nX)
end
section
theorem cM:dU Tryz.prog 3 (eW .i64):=vq Tryz.underlying3
theorem y5:dU Tryz.prog 2 (eW .i64):=vq Tryz.underlying2
def Sd:io (Int×Int×Unit):=cq (eW .i64) (cq (eW .i64) rV)
theorem AD:dU Tryz.prog 117 Sd:=
 cG Tryz.underlying117 (by kernel_rfl) (aI (by kernel_rfl) (by kernel_rfl) cM (aI (by kernel_rfl) (by kernel_rfl) y5 (dM _ _)))
def Tf:io (Int×(Int×Int×Unit)×(Int×Int×Unit)×Int×Int×Unit):=cq (eW .i64) (cq Sd (cq Sd (cq (eW .i64) (cq (eW .i64) rV))))
theorem BQ:dU Tryz.prog 119 Tf:=
 cG Tryz.underlying119 (by kernel_rfl) (aI (by kernel_rfl) (by kernel_rfl) cM (aI (by kernel_rfl) (by kernel_rfl) AD (aI (by kernel_rfl) (by kernel_rfl) AD (aI (by kernel_rfl) (by kernel_rfl) cM (aI (by kernel_rfl) (by kernel_rfl) cM (dM _ _))))))
theorem ER:dU Tryz.prog 119 gJ:=gU BQ (fun p=>⟨p.1,p.2.1.1,p.2.1.2.1,p.2.2.1.1,p.2.2.1.2.1,p.2.2.2.1,p.2.2.2.2.1⟩) (by
 rintro w S cs ⟨op,⟨la,ln,_⟩,⟨ra,rn,_⟩,n,u,_⟩ h;obtain⟨c0,q0,e0,⟨a0,h0⟩,h'⟩:=aW h;obtain⟨c1,q1,e1,h1,h''⟩:=aW h';obtain⟨c2,q2,e2,h2,h3⟩:=aW h'';obtain⟨c3,q3,e3,⟨a3,h3'⟩,h4⟩:=aW h3;obtain⟨c4,q4,e4,⟨a4,h4'⟩,h5⟩:=aW h4;have h5:q4=[]:=h5;obtain⟨d0,k0,f0,⟨b0,g0⟩,m0⟩:=aW h1;obtain⟨d1,k1,f1,⟨b1,g1⟩,m1⟩:=aW m0;have m1:k1=[]:=m1;obtain⟨d2,k2,f2,⟨b2,g2⟩,m2⟩:=aW h2;obtain⟨d3,k3,f3,⟨b3,g3⟩,m3⟩:=aW m2;have m3:k3=[]:=m3;refine⟨?_,eC h0,eC g0,eC g1,eC g2,eC g3,eC h3',eC h4'⟩;rw[e0,e1,e2,e3,e4,h5,a0,f0,f1,m1,b0,b1,f2,f3,m3,b2,b3,a3,a4];rfl)
theorem su:dU Tryz.prog 61 (aP gJ):=cp Tryz.underlying61 (by kernel_rfl) (by decide) ER
theorem Cr:dU Tryz.prog 52 (aP (eW .i64)):=cp Tryz.underlying52 (by kernel_rfl) (by decide) cM
end
section
theorem j2:dU Tryz.prog 9 qV:=xS Tryz.underlying9
theorem tL:dU Tryz.prog 4 EF:=BM Tryz.underlying4
theorem pc{t:TypeId}(h:dU Tryz.prog t (cq qV (cq (eW .i64) rV))):dU Tryz.prog t fO:=gU h (fun p=>(p.1,p.2.1)) (by
 rintro w S cs ⟨s,n,_⟩ h;obtain⟨c0,q0,e0,⟨a0,h0⟩,h⟩:=aW h;obtain⟨c1,q1,e1,⟨a1,h1⟩,h⟩:=aW h;have h:q1=[]:=h;exact⟨by rw[e0,e1,a0,a1,h];rfl,h0,eC h1⟩)
theorem Dk:dU Tryz.prog 103 fO:=pc (cG Tryz.underlying103 (by kernel_rfl) (aI (by kernel_rfl) (by kernel_rfl) j2 (aI (by kernel_rfl) (by kernel_rfl) cM (dM _ _))))
theorem HA:dU Tryz.prog 101 fO:=pc (cG Tryz.underlying101 (by kernel_rfl) (aI (by kernel_rfl) (by kernel_rfl) j2 (aI (by kernel_rfl) (by kernel_rfl) cM (dM _ _))))
theorem Ma:dU Tryz.prog 108 o8:=gU (r:=cq (eW .i64) (cq (eW .i64) rV)) (cG Tryz.underlying108 (by kernel_rfl) (aI (by kernel_rfl) (by kernel_rfl) cM (aI (by kernel_rfl) (by kernel_rfl) cM (dM _ _)))) (fun p=>(p.1,p.2.1)) (by
 rintro w S cs ⟨s,n,_⟩ h;obtain⟨c0,q0,e0,⟨a0,h0⟩,h⟩:=aW h;obtain⟨c1,q1,e1,⟨a1,h1⟩,h⟩:=aW h;have h:q1=[]:=h;exact⟨by rw[e0,e1,a0,a1,h];rfl,eC h0,eC h1⟩)
theorem zo:dU Tryz.prog 114 oM:=gU (r:=cq EF (cq (eW .i64) rV)) (cG Tryz.underlying114 (by kernel_rfl) (aI (by kernel_rfl) (by kernel_rfl) tL (aI (by kernel_rfl) (by kernel_rfl) cM (dM _ _)))) (fun p=>(p.1,p.2.1)) (by
 rintro w S cs ⟨s,n,_⟩ h;obtain⟨c0,q0,e0,a0,h⟩:=aW h;have a0:c0=[.bool s]:=a0;obtain⟨c1,q1,e1,⟨a1,h1⟩,h⟩:=aW h;have h:q1=[]:=h;exact⟨by rw[e0,e1,a0,a1,h];rfl,eC h1⟩)
theorem Bt:dU Tryz.prog 63 Tw:=gU (r:=cq (eW .i64) (cq (eW .i64) (cq (aP gJ) rV))) (cG Tryz.underlying63 (by kernel_rfl) (aI (by kernel_rfl) (by kernel_rfl) cM (aI (by kernel_rfl) (by kernel_rfl) cM (aI (by kernel_rfl) (by kernel_rfl) su (dM _ _))))) (fun p=>⟨p.1,p.2.1,p.2.2.1⟩) (by
 rintro w S cs ⟨s,n,l,_⟩ h;obtain⟨c0,q0,e0,⟨a0,h0⟩,h⟩:=aW h;obtain⟨c1,q1,e1,⟨a1,h1⟩,h⟩:=aW h;obtain⟨c2,q2,e2,h2,h⟩:=aW h;have h:q2=[]:=h;obtain⟨cv,rfl,h2⟩:=fG (r:=aP gJ) rfl h2;exact⟨cv,by rw[e0,e1,e2,a0,a1,h];rfl,h2,eC h0,eC h1⟩)
theorem F8:dU Tryz.prog 65 Tp:=gU (r:=cq qV (cq (eW .i64) (cq (eW .i64) (cq (aP gJ) (cq EF rV))))) (cG Tryz.underlying65 (by kernel_rfl) (aI (by kernel_rfl) (by kernel_rfl) j2 (aI (by kernel_rfl) (by kernel_rfl) cM (aI (by kernel_rfl) (by kernel_rfl) cM (aI (by kernel_rfl) (by kernel_rfl) su (aI (by kernel_rfl) (by kernel_rfl) tL (dM _ _))))))) (fun p=>⟨p.1,p.2.1,p.2.2.1,p.2.2.2.1,p.2.2.2.2.1⟩) (by
 rintro w S cs ⟨nm,s,n,l,b,_⟩ h;obtain⟨c9,q9,e9,⟨a9,h9⟩,h⟩:=aW h;obtain⟨c0,q0,e0,⟨a0,h0⟩,h⟩:=aW h;obtain⟨c1,q1,e1,⟨a1,h1⟩,h⟩:=aW h;obtain⟨c2,q2,e2,h2,h⟩:=aW h;obtain⟨c3,q3,e3,a3,h⟩:=aW h;have a3:c3=[.bool b]:=a3;have h:q3=[]:=h;obtain⟨cv,rfl,h2⟩:=fG (r:=aP gJ) rfl h2;exact⟨cv,by rw[e9,e0,e1,e2,e3,a9,a0,a1,a3,h];rfl,h2,eC h0,eC h1,h9⟩)
theorem Dn:dU Tryz.prog 67 TN:=gU (r:=cq qV (cq (eW .i64) (cq (eW .i64) (cq (aP (eW .i64)) (cq (eW .i64) rV))))) (cG Tryz.underlying67 (by kernel_rfl) (aI (by kernel_rfl) (by kernel_rfl) j2 (aI (by kernel_rfl) (by kernel_rfl) cM (aI (by kernel_rfl) (by kernel_rfl) cM (aI (by kernel_rfl) (by kernel_rfl) Cr (aI (by kernel_rfl) (by kernel_rfl) cM (dM _ _))))))) (fun p=>⟨p.1,p.2.1,p.2.2.1,p.2.2.2.1,p.2.2.2.2.1⟩) (by
 rintro w S cs ⟨nm,s,n,l,b,_⟩ h;obtain⟨c9,q9,e9,⟨a9,h9⟩,h⟩:=aW h;obtain⟨c0,q0,e0,⟨a0,h0⟩,h⟩:=aW h;obtain⟨c1,q1,e1,⟨a1,h1⟩,h⟩:=aW h;obtain⟨c2,q2,e2,h2,h⟩:=aW h;obtain⟨c3,q3,e3,⟨a3,h3⟩,h⟩:=aW h;have h:q3=[]:=h;obtain⟨cv,rfl,h2⟩:=fG (r:=aP (eW .i64)) rfl h2;exact⟨cv,by rw[e9,e0,e1,e2,e3,a9,a0,a1,a3,h];rfl,h2,eC h0,eC h1,eC h3,h9⟩)
abbrev Ur:=cq (aP qV) (cq (aP (eW .i64)) (cq (aP qV) (cq (aP fO) (cq (aP fO) (cq (aP TN) (cq (aP Tw) (cq (aP Tp) (cq (aP o8) (cq (aP oM) rV)))))))))
theorem GW:dU Tryz.prog 32 Ur:=cG Tryz.underlying32 (by kernel_rfl) (aI (by kernel_rfl) (by kernel_rfl) (cp Tryz.underlying22 (by kernel_rfl) (by decide) j2) (aI (by kernel_rfl) (by kernel_rfl) (cp Tryz.underlying23 (by kernel_rfl) (by decide) y5) (aI (by kernel_rfl) (by kernel_rfl) (cp Tryz.underlying22 (by kernel_rfl) (by decide) j2) (aI (by kernel_rfl) (by kernel_rfl) (cp Tryz.underlying24 (by kernel_rfl) (by decide) HA) (aI (by kernel_rfl) (by kernel_rfl) (cp Tryz.underlying25 (by kernel_rfl) (by decide) Dk) (aI (by kernel_rfl) (by kernel_rfl) (cp Tryz.underlying26 (by kernel_rfl) (by decide) Dn) (aI (by kernel_rfl) (by kernel_rfl) (cp Tryz.underlying27 (by kernel_rfl) (by decide) Bt) (aI (by kernel_rfl) (by kernel_rfl) (cp Tryz.underlying28 (by kernel_rfl) (by decide) F8) (aI (by kernel_rfl) (by kernel_rfl) (cp Tryz.underlying29 (by kernel_rfl) (by decide) Ma) (aI (by kernel_rfl) (by kernel_rfl) (cp Tryz.underlying30 (by kernel_rfl) (by decide) zo) (dM _ _)))))))))))
theorem L5{H:Type}{enc:TypeId×Value->H}{w:World}{fuel:Nat}{cs:Array Value}{x:DataW H×List MemPlace}(h:DataW.trod enc Tryz.prog w 0 (fun _=>true) true fuel 32 cs.toList=some x) :
  ∃(V:MV)(m:aJ),cs=V.cells/\Ct w V m:=by
 obtain⟨⟨attrs,inits,users,roles,stages,events,guards,miles,sods,order,_⟩,h⟩:=GW H enc w fuel _ _ h;obtain⟨c0,q0,e0,h0,h⟩:=aW h;obtain⟨c1,q1,e1,h1,h⟩:=aW h;obtain⟨c2,q2,e2,h2,h⟩:=aW h;obtain⟨c3,q3,e3,h3,h⟩:=aW h;obtain⟨c4,q4,e4,h4,h⟩:=aW h;obtain⟨c5,q5,e5,h5,h⟩:=aW h;obtain⟨c6,q6,e6,h6,h⟩:=aW h;obtain⟨c7,q7,e7,h7,h⟩:=aW h;obtain⟨c8,q8,e8,h8,h⟩:=aW h;obtain⟨c9,q9,e9,h9,h⟩:=aW h;obtain rfl:q9=[]:=h;obtain⟨v0,rfl,h0⟩:=fG (r:=aP qV) rfl h0;obtain⟨v1,rfl,h1⟩:=fG (r:=aP (eW .i64)) rfl h1;obtain⟨v2,rfl,h2⟩:=fG (r:=aP qV) rfl h2;obtain⟨v3,rfl,h3⟩:=fG (r:=aP fO) rfl h3;obtain⟨v4,rfl,h4⟩:=fG (r:=aP fO) rfl h4;obtain⟨v5,rfl,h5⟩:=fG (r:=aP TN) rfl h5;obtain⟨v6,rfl,h6⟩:=fG (r:=aP Tw) rfl h6;obtain⟨v7,rfl,h7⟩:=fG (r:=aP Tp) rfl h7;obtain⟨v8,rfl,h8⟩:=fG (r:=aP o8) rfl h8;obtain⟨v9,rfl,h9⟩:=fG (r:=aP oM) rfl h9;refine⟨⟨v0,v1,v2,v3,v4,v5,v6,v7,v8,v9⟩,⟨attrs,inits,users,roles,stages,events,guards,miles,sods,order⟩,?_,⟨h0,h1,h2,h3,h4,h5,h6,h7,h8,h9⟩⟩;apply Array.ext';rw[e0,e1,e2,e3,e4,e5,e6,e7,e8,e9];rfl
end
section
def rd{α:Type}(r:io α)(f:α -> List AV):Prop:=∀(w:World)(S:Nat->Prop)(cs:List Value)(x:α),r.at_ w S cs x->(f x).length=r.size/\∀(j:Nat)(u:Value)(av:AV),cs[j]? = some u->(f x)[j]? = some av->RT w S u av/\u.oneCell'=true
theorem rd.slice{α:Type}{r:io α}{f:α -> List AV}(h:rd r f){w:World}{S:Nat->Prop}{v:Value}{l:List α}(hv:(aP r).one w S v l):RT w S v (.sl r.size (l.map f)):=by
 obtain⟨A,c,rfl,h1,h2⟩:=dR hv;by_cases h0:0<l.length
 .obtain ⟨b,o,rfl,hb,hrow⟩:=dT hv h0
  classical
  let cs:Nat->List Value:=fun i=>if hi:i<l.length then (hrow i hi).choose else []
  have hcs:∀i (hi:i<l.length),(∀(j:Nat)(u:Value),(cs i)[j]? = some u->w.cell? ⟨b,o+i * r.size+j,none⟩=some u)/\r.at_ w S (cs i) l[i]:=fun i hi=>by
   have:=(hrow i hi).choose_spec;simpa[cs,hi] using this
  have key:∀(i j:Nat)(row:List AV)(av:AV),(l.map f)[i]? = some row->row[j]? = some av->∃hi:i<l.length,(cs i)[j]? = some ((cs i).getD j undef)/\RT w S ((cs i).getD j undef) av/\((cs i).getD j undef).oneCell'=true:=fun i j row av h3 h4=>by
   have hi:i<l.length:=by
    have:=(US.1 h3).1;simpa using this
   have hf:row=f l[i]:=by
    rw[UV,p0 hi] at h3;exact(Wk h3).symm
   subst hf;obtain⟨h5,h6⟩:=h w S (cs i) l[i] (hcs i hi).2
   have hj:j<(cs i).length:=by
    rw[r.len (hcs i hi).2,<- h5];exact(US.1 h4).1
   have e:(cs i)[j]? = some ((cs i).getD j undef):=by
    rw[Os,p0 hj];rfl
   exact⟨hi,e,h6 j _ av e h4⟩
  refine .sl _ _ c r.size _ b o (fun i j=>(cs i).getD j undef) (by simp) h1 h2 (fun _=>⟨rfl,hb⟩) (fun row hr=>?_) (fun _ i j row av h3 h4=>?_) (fun i j row av h3 h4=>(key i j row av h3 h4).elim fun _ h=>h.2.2) (fun i j row av h3 h4=>(key i j row av h3 h4).elim fun _ h=>h.2.1)
  .obtain ⟨i,hi,rfl⟩:=U8 hr;have hi:i<l.length:=(by simpa using hi);simp only[Xq];exact(h w S (cs i) l[i] (hcs i hi).2).1
  .obtain ⟨hi,h5,_⟩:=key i j row av h3 h4;exact(hcs i hi).1 j _ h5
 .have:l=[]:=WX.1 (by omega);subst this;exact .sl A 0 c r.size [] 0 0 (fun _ _=>undef) rfl h1 h2 (fun h=>by omega) (by simp) (fun h=>by omega) (by simp) (by simp)
theorem gO{α:Type}{r:io α}{f:α -> List AV}(g:α -> List Value)(hg:∀w S cs x,r.at_ w S cs x->cs=g x)(hs:∀x,(g x).length=r.size)(ho:∀x u,u∈g x->u.oneCell'=true)(hf:∀x,f x=(g x).map .c):rd r f:=fun w S cs x h=>by
 obtain rfl:=hg w S cs x h;rw[hf];refine⟨by simp[hs],fun j u av h1 h2=>?_⟩;rw[UV,h1] at h2;cases h2;exact⟨.c u,ho x u (r2 h1)⟩
theorem zD:rd qV (fun s=>[eS s]):=gO (fun s=>[.string s]) (fun w S cs x h=>h.1) (fun x=>rfl) (fun x u h=>by simp at h;subst h;rfl) (fun x=>rfl)
theorem AY:rd (eW .i64) (fun n=>[eI n]):=gO (fun n=>[.int .i64 n]) (fun w S cs x h=>h.1) (fun x=>rfl) (fun x u h=>by simp at h;subst h;rfl) (fun x=>rfl)
theorem DW:rd fO Mq:=gO (fun p=>[.string p.1,.int .i64 p.2]) (fun w S cs x h=>h.1) (fun x=>rfl) (fun x u h=>by simp at h;rcases h with rfl|rfl<;>rfl) (fun x=>rfl)
theorem M7:rd o8 DG:=gO (fun p=>[.int .i64 p.1,.int .i64 p.2]) (fun w S cs x h=>h.1) (fun x=>rfl) (fun x u h=>by simp at h;rcases h with rfl|rfl<;>rfl) (fun x=>rfl)
theorem NG:rd oM gk:=gO (fun p=>[.bool p.1,.int .i64 p.2]) (fun w S cs x h=>h.1) (fun x=>rfl) (fun x u h=>by simp at h;rcases h with rfl|rfl<;>rfl) (fun x=>rfl)
theorem uG:rd gJ gc:=gO aw.cells (fun w S cs x h=>h.1) (fun x=>rfl) (fun x u h=>by simp[aw.cells] at h;rcases h with rfl|rfl|rfl|rfl|rfl|rfl|rfl<;>rfl) (fun x=>rfl)
theorem pu{α:Type}{r:io α}{w:World}{S:Nat->Prop}{v:Value}{l:List α}(h:(aP r).one w S v l):v.oneCell'=true:=by
 obtain⟨A,c,rfl,_⟩:=dR h;rfl
theorem NK:rd Tw El:=fun w S cs x ⟨cv,h1,h2,_⟩=>by
 subst h1;refine⟨rfl,fun j u av h3 h4=>?_⟩
 match j with
 | 0=>simp at h3 h4;subst h3;subst h4;exact⟨.c _,rfl⟩
 | 1=>simp at h3 h4;subst h3;subst h4;exact⟨.c _,rfl⟩
 | 2=>simp at h3 h4;subst h3;subst h4;exact⟨uG.slice h2,pu h2⟩
 | j+3=>simp at h3
theorem Oq:rd Tp yg:=fun w S cs x ⟨cv,h1,h2,_⟩=>by
 subst h1;refine⟨rfl,fun j u av h3 h4=>?_⟩
 match j with
 | 0=>simp at h3 h4;subst h3;subst h4;exact⟨.c _,rfl⟩
 | 1=>simp at h3 h4;subst h3;subst h4;exact⟨.c _,rfl⟩
 | 2=>simp at h3 h4;subst h3;subst h4;exact⟨.c _,rfl⟩
 | 3=>simp at h3 h4;subst h3;subst h4;exact⟨uG.slice h2,pu h2⟩
 | 4=>simp at h3 h4;subst h3;subst h4;exact⟨.c _,rfl⟩
 | j+5=>simp at h3
theorem ML:rd TN t9:=fun w S cs x ⟨cv,h1,h2,_⟩=>by
 subst h1;refine⟨rfl,fun j u av h3 h4=>?_⟩
 match j with
 | 0=>simp at h3 h4;subst h3;subst h4;exact⟨.c _,rfl⟩
 | 1=>simp at h3 h4;subst h3;subst h4;exact⟨.c _,rfl⟩
 | 2=>simp at h3 h4;subst h3;subst h4;exact⟨.c _,rfl⟩
 | 3=>simp at h3 h4;subst h3;subst h4;exact⟨AY.slice h2,pu h2⟩
 | 4=>simp at h3 h4;subst h3;subst h4;exact⟨.c _,rfl⟩
 | j+5=>simp at h3
theorem Qz{w:World}{V:MV}{m:aJ}(h:Ct w V m):RT w (fun b=>b<w.heap.size) (.agg V.cells) (.agg (aC m)):=by
 refine .agg _ _ rfl fun j u av h1 h2=>?_
 match j with
 | 0=>simp[MV.cells] at h1 h2;subst h1;subst h2;exact zD.slice h.attrs
 | 1=>simp[MV.cells] at h1 h2;subst h1;subst h2;exact AY.slice h.inits
 | 2=>simp[MV.cells] at h1 h2;subst h1;subst h2;exact zD.slice h.users
 | 3=>simp[MV.cells] at h1 h2;subst h1;subst h2;exact DW.slice h.roles
 | 4=>simp[MV.cells] at h1 h2;subst h1;subst h2;exact DW.slice h.stages
 | 5=>simp[MV.cells] at h1 h2;subst h1;subst h2;exact ML.slice h.events
 | 6=>simp[MV.cells] at h1 h2;subst h1;subst h2;exact NK.slice h.guards
 | 7=>simp[MV.cells] at h1 h2;subst h1;subst h2;exact Oq.slice h.miles
 | 8=>simp[MV.cells] at h1 h2;subst h1;subst h2;exact M7.slice h.sods
 | 9=>simp[MV.cells] at h1 h2;subst h1;subst h2;exact NG.slice h.order
 | j+10=>simp at h2
theorem gh{α:Type}{r:io α}{w:World}{S:Nat->Prop}{v:Value}{l:List α}{Q:α -> Prop}(h:(aP r).one w S v l)(hq:∀cs x,r.at_ w S cs x->Q x):∀x∈l,Q x:=fun x hx=>by
 obtain⟨i,hi,rfl⟩:=U8 hx;obtain⟨A,c,rfl,_⟩:=dR h;obtain⟨b,o,rfl,_,hrow⟩:=dT h (by omega);obtain⟨cs,_,h2⟩:=hrow i hi;exact hq cs _ h2
theorem GB{w:World}{V:MV}{m:aJ}(h:Ct w V m):iR m:=
 ⟨gh h.guards fun cs x ⟨cv,_,h2,_⟩=>gh h2 fun cs y h3=>h3.2,gh h.miles fun cs x ⟨cv,_,h2,_⟩=>gh h2 fun cs y h3=>h3.2⟩
theorem Ju{w:World}{V:MV}{m:aJ}(h:Ct w V m):∀p∈m.stages,aA p.2:=gh h.stages fun cs x h2=>h2.2.2
end
section
open Go.ChangeShapes Go.WideShapes Go.ChangeAt Go.RowKit
theorem Tj{n:Int}(h:(Lit.int .u8 n).wf=true):∃k:Nat,n=(k:Int)/\k<256:=by
 have h2:0<=n/\n<=255:=by simpa[Lit.wf,IntKind.min,IntKind.max,IntKind.signed,IntKind.bits] using h
 exact⟨n.toNat,by omega,by omega⟩
theorem TJ{n:Int}(h:(Lit.int .u64 n).wf=true):rA n:=by
 have h2:0<=n/\n<=18446744073709551615:=by simpa[Lit.wf,IntKind.min,IntKind.max,IntKind.signed,IntKind.bits] using h
 unfold rA;omega
theorem Hi{w:World}{V:MV}{m:aJ}(h:Ct w V m):∀p∈m.roles,aA p.2:=gh h.roles fun cs x h2=>h2.2.2
theorem GZ{w:World}{V:MV}{m:aJ}(h:Ct w V m):∀x∈m.inits,aA x:=gh h.inits fun cs x h2=>eC h2.2
theorem Fs{w:World}{V:MV}{m:aJ}(h:Ct w V m):∀e∈m.events,aA e.times:=gh h.events fun cs x ⟨cv,_,h2⟩=>h2.2.2.2.1
end
end
end Go.Proofs.YtglaiabelcefeaaGreat
