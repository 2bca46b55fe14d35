/-
  Parts of the proof: Sinp25, Sinp26, Sinp27, Sinp28, Sinp29.
-/
import Derived.Test.YtglaiabelcefeaaGreatSinq8
import Derived.WalkKit
import Derived.WalkMore
import Derived.Deep.RegionLaw
import Derived.Lib.SliceRun
import Derived.Deep.MidRow
import Derived.Deep.Upon
import Derived.Shelf.RegionOpenPlain
import Derived.Deep.LoopGhost
import Derived.Sort.WalkB12
set_option linter.unusedVariables false
set_option linter.unusedSimpArgs false
set_option linter.defProp false
set_option maxRecDepth 100000
set_option maxHeartbeats 16000000
namespace Go.Proofs.YtglaiabelcefeaaGreat
open Go.RowKit
section
section
noncomputable def yr(m:aJ)(x:aw)(y:Nat):Bool:=
 if x.op=9 then bR m y == x.n || (!decide (y<m.guards.length) && decide (Mp (pars m) (bR m y) x.n))
 else if x.op=10 then (if y<m.guards.length then decide (0<=x.n) && decide (x.n<(m.miles.length:Int)) && (iE m (true,x.n) == bR m y) else ((y-m.guards.length:Nat):Int) == x.n) else false
theorem TH(m:aJ)(x:aw)(y:Nat)(hf:jN m)(hp:∀p∈m.stages,aA p.2)(hy:y<m.guards.length+m.miles.length):am Tryz.prog 86 [.agg (aC m),.agg (gc x),eI (y:Int)] (val (.bool (yr m x y))):=by
 refine aa ag Tryz.func86 rfl (by decide) Tryz.ntmps86 Tryz.results86 rfl (aD _) ?_;obtain⟨hg,hm,hst,-⟩:=id hf.sizes;obtain⟨op,la,ln,ra,rn,n,u⟩:=x;have hpl:(pars m).length<=1073741824:=by simp[pars];omega
 by_cases h9:op=9
 .subst h9;have z1:((9:Int) == 9)=true:=rfl;have e0:yr m ⟨9,la,ln,ra,rn,n,u⟩ y=(bR m y == n || (!decide (y<m.guards.length) && decide (Mp (pars m) (bR m y) n))):=by simp[yr]
  rw[e0]
  repeat' first|refine ge z1 ?_|decide|refine sp ?_ ?_<;>intro _
  refine aG [] [0,1,3,4] (.exec 2 (.take 5 (.take 6 (.take 7 (.take 8 (.take 9 (.take 10 (.take 12 (.take 13 (.take 15 (.take 16 (.exec 11 (.exec 14 (.exec 17 (.take 18 (.take 19 (.exec 20 .done))))))))))))))))) (by kernel_rfl) (by simp) ?_
  repeat' first|refine go ?_|decide|refine sp ?_ ?_<;>intro _
  refine al (ld m y hf hy) ?_;by_cases hs:bR m y=n
  .have z2:(bR m y == n)=true:=(by simp[hs]);rw[z2]
   repeat' first|refine ge z2 ?_|decide|refine sp ?_ ?_<;>intro _
   all_goals simp
  .have z2:(bR m y == n)=false:=(by simp[hs]);rw[z2,Xn];by_cases hgd:y<m.guards.length
   .have z3:decide (y<m.guards.length)=true:=Vb hgd;rw[z3]
    repeat' first|refine ge (kf z2 z3) ?_|decide|refine sp ?_ ?_<;>intro _
    all_goals try simp
   .have z3:decide (y<m.guards.length)=false:=U5 hgd;rw[z3]
    repeat' first|refine ge (kf z2 z3) ?_|decide|refine sp ?_ ?_<;>intro _
    refine dg (og m (by omega)) (.inr bk) ?_
    repeat' first|refine ge (kf z2 z3) ?_|decide|refine sp ?_ ?_<;>intro _
    refine al (ld m y hf hy) ?_
    repeat' first|refine ge (kf z2 z3) ?_|decide|refine sp ?_ ?_<;>intro _
    refine al (PG (pars m) (bR m y) n hpl (wh hp)) ?_
    repeat' first|refine ge (kf z2 z3) ?_|decide|refine sp ?_ ?_<;>intro _
    all_goals simp
 by_cases h10:op=10
 .subst h10;have z1:((10:Int) == 9)=false:=rfl;have z4:((10:Int) == 10)=true:=rfl;by_cases hgd:y<m.guards.length
  .have z3:decide (y<m.guards.length)=true:=Vb hgd;have e0:yr m ⟨10,la,ln,ra,rn,n,u⟩ y=(decide (0<=n) && decide (n<(m.miles.length:Int)) && (iE m (true,n) == bR m y)):=(by simp[yr,hgd]);rw[e0];by_cases hn:0<=n/\n<(m.miles.length:Int)
   .obtain ⟨j,rfl⟩:∃j:Nat,n=(j:Int):=⟨n.toNat,by omega⟩;have hj:j<m.miles.length:=(by omega)
    repeat' first|refine ge (kf z1 (kf z3 z4)) ?_|decide|refine sp ?_ ?_<;>intro _
    refine ay (by kernel_rfl) ?_
    repeat' first|refine go ?_|simp only[z4,ab,hj]|decide|refine sp ?_ ?_<;>intro _
    refine aO (ld m y hf hy) ?_
    repeat' first|refine go ?_|simp only[z4,ab,hj]|decide|refine sp ?_ ?_<;>intro _
    simp[iE,hj]
   .have hn2:decide (0<=n)=false\/decide (n<(m.miles.length:Int))=false:=by
     rcases Int.lt_or_le n 0 with h|h
     .left;simp;omega
     .right;simp;omega
    rcases hn2 with hn2|hn2
    .rw [hn2]
     repeat' first|refine ge (kf z1 (kf z3 z4)) ?_|decide|refine sp ?_ ?_<;>intro _
     refine ay (by kernel_rfl) ?_
     repeat' first|refine ge (kf z4 hn2) ?_|decide|refine sp ?_ ?_<;>intro _
     all_goals simp
    .rw [hn2]
     repeat' first|refine ge (kf z1 (kf z3 z4)) ?_|decide|refine sp ?_ ?_<;>intro _
     refine ay (by kernel_rfl) ?_
     repeat' first|refine ge (kf z4 hn2) ?_|decide|refine sp ?_ ?_<;>intro _
     all_goals simp
  .have z3:decide (y<m.guards.length)=false:=U5 hgd;have e0:yr m ⟨10,la,ln,ra,rn,n,u⟩ y=(((y-m.guards.length:Nat):Int) == n):=(by simp[yr,hgd]);rw[e0];have ew:IntKind.i64.wrap ((y:Int)-(m.guards.length:Int))=((y-m.guards.length:Nat):Int):=by rw[aE (by omega) (by omega)];omega
   repeat' first|refine ge (kf z1 (kf z3 (kf z4 ew))) ?_|decide|refine sp ?_ ?_<;>intro _
 .have z1:(op == 9)=false:=by simp[h9]
  have z4:(op == 10)=false:=by simp[h10]
  have e0:yr m ⟨op,la,ln,ra,rn,n,u⟩ y=false:=by simp[yr,h9,h10]
  rw[e0]
  repeat' first|refine ge (kf z1 z4) ?_|decide|refine sp ?_ ?_<;>intro _
  all_goals
   refine ay (by kernel_rfl) ?_
   repeat' first|refine ge (kf z1 z4) ?_|decide|refine sp ?_ ?_<;>intro _
noncomputable def fE(m:aJ)(x y:Nat):Bool:=((iT m x).any fun i=>yr m i y) || (decide (y<m.guards.length) && (if x<m.guards.length then decide (0<=bR m x) && decide (bR m x<(m.stages.length:Int)) && ((m.stages[(bR m x).toNat]?.map (·.2)).getD 0 == bR m y) else bR m x == bR m y))
theorem uy{α:Type}(l:List α)(p:α -> Bool){k:Nat}(h:k<l.length):(l.take (k+1)).any p=((l.take k).any p || p l[k]):=by
 rw[U0 h,List.any_append];simp
theorem Lp(m:aJ)(x y:Nat)(hf:jN m)(hp:∀p∈m.stages,aA p.2)(hx:x<m.guards.length+m.miles.length)(hy:y<m.guards.length+m.miles.length):am Tryz.prog 42 [.agg (aC m),eI (x:Int),eI (y:Int)] (val (.bool (fE m x y))):=by
 refine aa ag Tryz.func42 rfl (by decide) Tryz.ntmps42 Tryz.results42 rfl (aD _) ?_;obtain⟨hg,hm,-⟩:=id hf.sizes
 repeat' first|refine go ?_|decide|refine sp ?_ ?_<;>intro _
 refine cL (P2 m x hf hx) (ro) ?_;have hcl:=Dm m hf x;obtain⟨l,hl⟩:∃l,l=iT m x:=⟨_,rfl⟩;obtain⟨w,hw⟩:∃w,w=fE m x y:=⟨_,rfl⟩;have hwd:fE m x y=(l.any (fun i=>yr m i y) || (decide (y<m.guards.length) && (if x<m.guards.length then decide (0<=bR m x) && decide (bR m x<(m.stages.length:Int)) && ((m.stages[(bR m x).toNat]?.map (·.2)).getD 0 == bR m y) else bR m x == bR m y))):=by rw[hl];rfl
 rw[<- hl] at hcl ⊢;rw[<- hw] at hwd ⊢
 repeat' first|refine go ?_|decide|refine sp ?_ ?_<;>intro _
 refine af (fun st=>∃(k:Nat),(k<=l.length/\(l.take k).any (fun i=>yr m i y)=false)/\st=⟨65,[(1,eI (x:Int)),(2,eI (y:Int)),(3,.op 0 0 0),(7,bf l),(8,eI (k:Int))],[(0,some (.box 32 (aC m)))],1⟩) (fun st=>l.length-ax st 8) ⟨_,wC,0,⟨UR _,rfl⟩,rfl⟩ ?_;rintro _ ⟨k,⟨hk,hI⟩,rfl⟩;by_cases hlt:k<l.length
 .repeat' first|refine go ?_|simp only[ab,hlt]|decide|refine sp ?_ ?_<;>intro _
  refine aG [] [0,1,2,3,4,5] (.exec 6 .done) (by kernel_rfl) (by simp) ?_
  repeat' first|refine go ?_|simp only[ab,hlt]|decide|refine sp ?_ ?_<;>intro _
  refine al (TH m l[k] y hf hp hy) ?_;have hst:=uy l (fun i=>yr m i y) hlt
  cases hb:yr m l[k] y with
  | true=>
   have hwt:w=true:=by
    have:l.any (fun i=>yr m i y)=true:=WS.2 ⟨_,UQ hlt,hb⟩;rw[hwd,this,Bool.true_or]
   rw[hwt]
   repeat' first|refine go ?_|simp only[ab,hlt]|decide|refine sp ?_ ?_<;>intro _
  | false=>
   repeat' first|refine go ?_|simp only[ab,hlt]|decide|refine sp ?_ ?_<;>intro _
   exact rI wC ⟨k+1,⟨by omega,by rw[hst,hI,hb];rfl⟩,rfl⟩
 .obtain rfl:k=l.length:=by omega
  rw[U6] at hI;rw[hI,Xn] at hwd;by_cases hgd:y<m.guards.length
  .have z3:decide (y<m.guards.length)=true:=Vb hgd;rw[z3,VC] at hwd;have z3n:decide (m.guards.length<=y)=false:=U5 (by omega);by_cases hxg:x<m.guards.length
   .have z5:decide (m.guards.length<=x)=false:=U5 (by omega);rw[UZ hxg] at hwd
    repeat' first|refine ge (kf @hlt (kf @z3n z5)) ?_|decide|refine sp ?_ ?_<;>intro _
    refine al (ld m x hf hx) ?_;generalize bR m x=sx at *
    repeat' first|refine ge z5 ?_|decide|refine sp ?_ ?_<;>intro _
    by_cases hn:0<=sx/\sx<(m.stages.length:Int)
    .obtain ⟨j,rfl⟩:∃j:Nat,sx=(j:Int):=⟨sx.toNat,by omega⟩;have hj:j<m.stages.length:=(by omega);have hwe:w=(m.stages[j].2 == bR m y):=by rw[hwd];simp[hj]
     rw[hwe];refine ay (by kernel_rfl) ?_
     repeat' first|refine go ?_|simp only[ab,hj]|decide|refine sp ?_ ?_<;>intro _
     refine aO (ld m y hf hy) ?_
     repeat' first|refine go ?_|simp only[ab,hj]|decide|refine sp ?_ ?_<;>intro _
    .have hn2:decide (0<=sx)=false\/(decide (0<=sx)=true/\decide (sx<(m.stages.length:Int))=false):=by
      rcases Int.lt_or_le sx 0 with h|h
      .left;simp;omega
      .right;exact⟨Vb h,by simp;omega⟩
     rcases hn2 with hn2|⟨hn1,hn2⟩
     .rw [hn2,VK,VK] at hwd;rw[hwd];refine ay (by kernel_rfl) ?_
      repeat' first|refine ge hn2 ?_|decide|refine sp ?_ ?_<;>intro _
     .rw [hn1,hn2,VC,VK] at hwd;rw[hwd];refine ay (by kernel_rfl) ?_
      repeat' first|refine ge (kf hn1 hn2) ?_|decide|refine sp ?_ ?_<;>intro _
   .have z5:decide (m.guards.length<=x)=true:=Vb (by omega);rw[UX hxg] at hwd;rw[hwd]
    repeat' first|refine ge (kf @hlt (kf @z3n z5)) ?_|decide|refine sp ?_ ?_<;>intro _
    refine al (ld m x hf hx) ?_
    repeat' first|refine ge z5 ?_|decide|refine sp ?_ ?_<;>intro _
    refine al (ld m y hf hy) ?_
    repeat' first|refine go ?_|decide|refine sp ?_ ?_<;>intro _
  .have z3:decide (y<m.guards.length)=false:=U5 hgd;rw[z3,VK] at hwd;rw[hwd];have z3n:decide (m.guards.length<=y)=true:=Vb (by omega)
   repeat' first|refine ge (kf @hlt @z3n) ?_|decide|refine sp ?_ ?_<;>intro _
end
section
theorem B6{l:List Int}(hn:∀k:Nat,k<l.length->¬j0 l (k:Int)){i p x:Int}(hi:da l i)(hp:da l p)(hpar:fF l i=p)(h0:0<=x)(hx:x∈bI l p):x∈bI l i:=by
 obtain⟨m,q,h,hs⟩:=kS l i;have hc:=lN hn hi h hs;obtain⟨j,h1,h2,h3⟩:=pe hx
 have e:∀j,gi l i (j+1)=gi l p j:=by
  intro j
  induction j with
  | zero=>
   rw[mR,hpar];rcases fv l p with h|h
   .exact h.2.symm
   .exact absurd hp h.1
  | succ j ih=>
   show fF l (gi l i (j+1))=fF l (gi l p j);rw[ih]
 rcases wO h hs (.inl (by rw[hc];have:=hi.1;omega)) j with h4|h4
 .rw [e,h3] at h4;omega
 .rw [e,h3] at h4;exact h4
theorem Rn{l:List Int}{i p:Int}(hi:da l i)(hp:da l p)(hpar:fF l i=p)(hne:p≠i)(hn:∀k:Nat,k<l.length->¬j0 l (k:Int)):p∈bI l i:=by
 obtain⟨m,q,h,hs⟩:=kS l i;have hc:=lN hn hi h hs;rcases wO h hs (.inl (by rw[hc];have:=hi.1;omega)) 0 with h4|h4
 .rw [mR,hpar] at h4;have:=hp.1;omega
 .rw [mR,hpar] at h4;exact h4
theorem pK:∀(l:List Int)(o j:Int),aQ (l.foldl aZ o) j=true↔aQ o j=true/\j∉l
 | [],o,j=>by simp
 | i :: l,o,j=>by
  rw[List.foldl_cons,pK l,de];simp only[U1,Bool.not_eq_true',Vv,ne_eq,VL,not_or];exact⟨fun⟨⟨h1,h2⟩,h3⟩=>⟨h2,h1,h3⟩,fun⟨h1,h2,h3⟩=>⟨⟨h2,h1⟩,h3⟩⟩
theorem qi(l:List Ml)(st d:Int)(i:Nat):∀k,aQ (iV l st d k) (i:Int)=true->aQ d (i:Int)=true/\(i<k->l[i]?.map (·.stage)≠some st)
 | 0,h=>⟨h,fun h=>by omega⟩
 | k+1,h=>by
  unfold iV at h;split at h
  .rename_i hk;rw[de] at h;simp only[U1,Bool.not_eq_true',Vv,ne_eq] at h;obtain⟨h1,h2⟩:=qi l st d i k h.2;exact⟨h1,fun hik=>h2 (by omega)⟩
  .rename_i hk;obtain⟨h1,h2⟩:=qi l st d i k h;refine⟨h1,fun hik=>?_⟩;rcases U9 i k with h3|h3
   .exact h2 h3
   .obtain rfl:i=k:=by omega
    exact hk
def I5(o:Int):Prop:=0<=o/\o<2147483648
theorem Kh(s:Int):I5 (jA s:Int):=by
 have:=dD s;unfold I5;omega
theorem Id(s i:Int):I5 (bn s i):=by
 unfold bn;split
 .rename_i h;have h1:jA s ||| 2 ^ i.toNat<2 ^ 31:=Wq (dD s) (Wg (by omega) (by omega));unfold I5;omega
 .exact Kh s
theorem qR(s i:Int):I5 (aZ s i):=by
 unfold aZ;split
 .rename_i h;have h1:jA s ^^^ (jA s &&& 2 ^ i.toNat)<2 ^ 31:=Xv (dD s) (Nat.and_lt_two_pow _ (Wg (by omega) (by omega)));unfold I5;omega
 .exact Kh s
theorem EO:∀(l:List Int)(o:Int),I5 o->I5 (l.foldl aZ o)
 | [],o,h=>h
 | i :: l,o,_=>EO l _ (qR o i)
theorem EA(l:List Ml)(st d:Int)(h:I5 d):∀k,I5 (iV l st d k)
 | 0=>h
 | k+1=>by
  unfold iV;split
  .exact qR _ _
  .exact EA l st d h k
def ux(m:aJ)(o:Int):Prop:=∀i (h:i<m.stages.length),0<=m.stages[i].2->m.stages[i].2<(m.stages.length:Int)->aQ o (i:Int)=true->aQ o m.stages[i].2=true
theorem K6{m:aJ}{i:Nat}(hi:i<m.stages.length)(h1:0<=m.stages[i].2)(h2:m.stages[i].2<(m.stages.length:Int)):fF (pars m) (i:Int)=m.stages[i].2/\da (pars m) m.stages[i].2/\da (pars m) (i:Int):=by
 have hl:(pars m).length=m.stages.length:=by simp[pars]
 have ha:da (pars m) (i:Int):=⟨by omega,by rw[hl];omega⟩;have hb:da (pars m) m.stages[i].2:=⟨h1,by rw[hl];exact h2⟩;refine⟨?_,hb,ha⟩;unfold fF;rw[UZ ha];have e:(pars m).getD (i:Int).toNat 0=m.stages[i].2:=by simp[pars,hi]
 rw[e];unfold pS;rw[UZ hb]
theorem CW{m:aJ}(hc:dW (pars m)<0)(s:St)(x:Bool×Int)(event:Int)(hs:ux m s.opn):ux m (db m event s x).opn:=by
 have hn:=zz _ hc;unfold db;split
 .rename_i hf;unfold cd;unfold dq eZ at hf
  cases hx:a5 m x with
  | none=>simpa[hx] using hs
  | some q=>
   obtain⟨st,ev,cond,mi⟩:=q;rw[hx] at hf;simp only[U1] at hf;obtain⟨⟨hin,⟨-,hop⟩,hab⟩,-⟩:=hf
   have hst:da (pars m) st:=by
    simp[ua] at hin;exact⟨hin.1,by simpa[pars] using hin.2⟩
   simp only[hin,if_true];split
   .rename_i hm;intro i hi h1 h2 h3;simp only[pK,U4,Ve,not_or] at h3 ⊢;obtain⟨h3,h4,h5⟩:=h3;obtain⟨e1,e2,e3⟩:=K6 hi h1 h2;refine⟨hs i hi h1 h2 h3,fun h6=>h4 ?_,fun h6=>h4 ?_⟩
    .refine (pv _ _ _ hst e3).1 ?_;exact B6 hn e3 e2 e1 hst.1 ((pv _ _ _ hst e2).2 h6)
    .refine (pv _ _ _ hst e3).1 ?_;have:=Rn e3 e2 e1 (by rw[h6];exact fun e=>h5 e.symm) hn
     rwa [h6] at this
   .rename_i hm;intro i hi h1 h2 h3;simp only at h3 ⊢;rw[gT] at h3 ⊢;simp only[Wb,U1,U7,Wz] at h3 ⊢;right;rcases h3 with ⟨_,h3⟩|h3
    .have hx1:x.1=false:=(by simpa using hm);rw[hx1] at hab;simp only[Xn] at hab
     have e:(m.stages.getD st.toNat (⟨#[]⟩,0))=m.stages[i]:=by
      rw[<- h3];simp[hi]
     unfold nP at hab;rw[e] at hab;simp only[Wb,Wz,U1] at hab;rcases hab with h|h
     .omega
     .exact h.2
    .exact hs i hi h1 h2 h3
 .exact hs
theorem r4{m:aJ}(hc:dW (pars m)<0)(event:Int):∀(l:List (Bool×Int))(s:St),ux m s.opn->ux m (l.foldl (db m event) s).opn
 | [],s,h=>h
 | x :: l,s,h=>r4 hc event l _ (CW hc s x event h)
end
section
abbrev kc(m:aJ):Nat:=m.guards.length+m.miles.length
theorem GL(l:List Int)(a s:Int)(h:a≠s):((bI l s).any (a == ·))=decide (Mp l a s):=by
 rw[Wl,WS,decide_eq_true_iff];constructor
 .rintro ⟨x,hx,he⟩;obtain rfl:a=x:=eq_of_beq he
  have h0:0<=a:=by
   have:=sw l s a hx;unfold da at this;omega
  obtain⟨j,h1,h2,h3⟩:=(mQ l s a h0 (Ne.symm h)).1 hx;exact⟨j,h1,h2,h0,h3⟩
 .rintro ⟨j,h1,h2,h0,h3⟩;exact⟨a,(mQ l s a h0 (Ne.symm h)).2 ⟨j,h1,h2,h3⟩,by simp⟩
theorem Ic{m:aJ}{i:Nat}(h:i<m.guards.length):co m i=(false,(i:Int)):=by simp[co,h]
theorem GU{m:aJ}{i:Nat}(h:¬i<m.guards.length):co m i=(true,((i-m.guards.length:Nat):Int)):=by simp[co,h]
theorem wM(m:aJ)(i:Nat):iE m (co m i)=bR m i:=by
 by_cases h:i<m.guards.length
 .rw [Ic h];simp[iE,bR,h]
 .rw [GU h];simp[iE,bR,h]
theorem RK(m:aJ)(i:Nat):re m (co m i)=iT m i:=by
 by_cases h:i<m.guards.length
 .rw [Ic h];simp[re,iT,h]
 .rw [GU h];simp[re,iT,h]
theorem AB{m:aJ}{i:Nat}(h:i<kc m):fb m (co m i)=true:=by
 by_cases h2:i<m.guards.length
 .rw [Ic h2];simp[fb,h2]
 .rw [GU h2];simp[fb];unfold kc at h;omega
theorem xJ(m:aJ)(i:Nat):(co m i).1 = !decide (i<m.guards.length):=by
 by_cases h:i<m.guards.length
 .rw [Ic h];simp[h]
 .rw [GU h];simp[h]
theorem Ku(m:aJ)(x:aw)(y:Nat):jy m x (co m y)=yr m x y:=by
 unfold jy yr;by_cases h9:x.op=9
 .rw [UZ h9,UZ h9];unfold qg;rw[wM,xJ];by_cases he:bR m y=x.n
  .simp [he]
  .rw [GL _ _ _ he]
 .rw [UX h9,UX h9];by_cases h10:x.op=10
  .rw [UZ h10,UZ h10,xJ,wM];by_cases hg:y<m.guards.length
   .simp only[hg,decide_true,XC,VB,if_false,if_true];rw[Bool.beq_comm (a:=bR m y)]
   .simp only[hg,decide_false,WF,if_true,if_false];rw[GU hg]
  .rw [UX h10,UX h10]
theorem AM{m:aJ}{x y:Nat}(hx:x<kc m)(hy:y<kc m):gt m (co m x) (co m y)=fE m x y:=by
 unfold gt fE;rw[AB hx,AB hy,RK,VC,VC,Bool.or_comm]
 congr 1
 .congr 1
  funext i
  exact Ku m i y
 .unfold lj;rw[xJ,xJ,wM,wM];by_cases hg:y<m.guards.length<;>by_cases hg2:x<m.guards.length<;>simp[hg,hg2]
def zm(m:aJ)(js:List Nat)(i:Nat):Prop:=i∉js/\∀k,k<kc m->k∈js\/fE m i k=false
structure nc(m:aJ)(js:List Nat)(i:Nat):Prop where
 lt:i<kc m
 free:zm m js i
 first:∀i',i'<i->¬zm m js i'
theorem nc.uniq{m:aJ}{js:List Nat}{i k:Nat}(h:nc m js i)(h2:nc m js k):i=k:=by
 rcases Wp i k with h3|h3|h3
 .exact absurd h.free (h2.first i h3)
 .exact h3
 .exact absurd h2.free (h.first k h3)
def nW(m:aJ)(js:List Nat):Prop:=∀j (h:j<js.length),nc m (js.take j) js[j]
theorem Be{m:aJ}{js:List Nat}{i:Nat}(h:nW m js)(hi:nc m js i):nW m (js ++ [i]):=fun j hj=>by
 rw[UW,Vs] at hj;rcases U9 j js.length with h3|h3
 .rw [VX (by omega),WC h3];exact h j h3
 .obtain rfl:j=js.length:=by omega
  rw[VX (by omega),U6,Xf (by omega)];simpa using hi
theorem xx{bs:List Bool}{js:List Nat}{n j:Nat}(hb:∀i (h:i<bs.length),bs[i]=decide (i∈js)):∀i (h:i<(bs.set j true).length),(bs.set j true)[i]=decide (i∈js ++ [j]):=fun i h=>by
 rw[List.getElem_set];split
 .rename_i e;subst e;simp
 .rename_i e;rw[hb];simp[Ne.symm e]
theorem Jo(m:aJ)(hf:jN m)(hp:∀p∈m.stages,aA p.2):dp Tryz.prog 17 [.agg (aC m)] fun R=>(∃js:List Nat,R=⟨.tup [.osl 0,eI 0],[(0,some (.row 114 2 ((js.map (co m)).map gk)))],1⟩/\js.length=kc m/\nW m js)\/R=⟨.tup [.c (.slice none 0 0),eI 10],[],0⟩:=by
 refine bj ag Tryz.func17 rfl (by decide) Tryz.ntmps17 Tryz.results17 rfl ?_;obtain⟨hg,hm,-⟩:=id hf.sizes
 repeat' first|refine go ?_|decide|refine sp ?_ ?_<;>intro _
 refine al (Mu m hf) ?_;obtain⟨n,hn⟩:∃n,n=m.guards.length+m.miles.length:=⟨_,rfl⟩;have hnS:kc m=n:=hn.symm;rw[<- hn]
 repeat' first|refine go ?_|decide|refine sp ?_ ?_<;>intro _
 refine⟨by omega,?_⟩;refine af (fun st=>∃(bs:List Bool)(js:List Nat),(bs.length=n/\js.length<=n/\(∀i (h:i<bs.length),bs[i]=decide (i∈js))/\nW m js)/\st=⟨66,[(1,.op 0 0 0),(4,eI (n:Int)),(5,.osl 1),(6,.osl 2)],[(0,some (.box 32 (aC m))),(1,some (.row 4 1 (bs.map fun b=>[eB b]))),(2,some (.row 114 2 ((js.map (co m)).map gk)))],3⟩) (fun st=>n-ow st 2) ⟨_,((bq 6 114 2 (by simp only[iC,aj.get,aX,aj.put,↓reduceIte,reduceCtorEq,Nat.reduceLT,Nat.reduceEqDiff,Nat.reduceAdd,Nat.reduceLeDiff,eq_self,implies_true,Vn,List.map_replicate])).trans (wS [0,1,2] @List.map_replicate.{0,0})),List.replicate n false,[],⟨by simp,UR _,fun i h=>by simp,fun j h=>by simp at h⟩,rfl⟩ ?_;rintro _ ⟨bs,js,⟨hbs,ho,hbd,hgr⟩,rfl⟩;have hol:(js.map (co m)).length=js.length:=Vd ..;by_cases hlt:js.length<n
 .repeat' first|refine ge (kf @hlt @hol) ?_|decide|refine sp ?_ ?_<;>intro _
  refine af (fun st=>∃(i:Nat)(v:Int),(i<=n/\((v<0/\∀i',i'<i->¬zm m js i')\/∃j:Nat,v=(j:Int)/\nc m js j))/\st=⟨66,[(1,.op 0 0 0),(4,eI (n:Int)),(5,.osl 1),(6,.osl 2),(7,eI v),(8,eI (i:Int))],[(0,some (.box 32 (aC m))),(1,some (.row 4 1 (bs.map fun b=>[eB b]))),(2,some (.row 114 2 ((js.map (co m)).map gk)))],3⟩) (fun st=>n-ax st 8) ⟨_,wC,0,-1,⟨UR _,.inl ⟨by omega,fun i' h=>absurd h (by omega)⟩⟩,rfl⟩ ?_;rintro _ ⟨i,v,⟨hi,hv⟩,rfl⟩;rcases hv with ⟨hv0,hno⟩|⟨j,rfl,hnx⟩
  .by_cases hlt2:i<n
   .have hib:i<bs.length:=by omega
    repeat' first|refine go ?_|simp only[ab,hlt2,hv0,hib]|decide|refine sp ?_ ?_<;>intro _
    refine af (fun st=>∃(k:Nat)(f:Bool),(k<=n/\(f=true↔i∉js/\∀k',k'<k->k' ∈js\/fE m i k'=false))/\st=⟨66,[(1,.op 0 0 0),(4,eI (n:Int)),(5,.osl 1),(6,.osl 2),(7,eI v),(8,eI (i:Int)),(9,eB f),(10,eI (k:Int))],[(0,some (.box 32 (aC m))),(1,some (.row 4 1 (bs.map fun b=>[eB b]))),(2,some (.row 114 2 ((js.map (co m)).map gk)))],3⟩) (fun st=>n-ax st 10) ⟨_,wC,0,!bs[i],⟨UR _,by rw[hbd];simp⟩,rfl⟩ ?_;rintro _ ⟨k,f,⟨hk,hF⟩,rfl⟩;by_cases hlt3:k<n
    .have hkb:k<bs.length:=by omega
     have hstep:∀b:Bool,(b=true↔(k∈js\/fE m i k=false))->((f && b)=true↔i∉js/\∀k',k'<k+1->k' ∈js\/fE m i k'=false):=fun b hb=>by
      rw[U1,hF,hb];constructor
      .rintro ⟨⟨h1,h2⟩,h3⟩;refine⟨h1,fun k' h4=>?_⟩;rcases U9 k' k with h5|h5
       .exact h2 k' h5
       .obtain rfl:k'=k:=by omega
        exact h3
      .rintro ⟨h1,h2⟩;exact⟨⟨h1,fun k' h4=>h2 k' (by omega)⟩,h2 k (by omega)⟩
     have hW:=Lp m i k hf hp (by omega) (by omega)
     cases f with
     | false=>
      repeat' first|refine go ?_|simp only[ab,hlt3,hkb]|decide|refine sp ?_ ?_<;>intro _
      exact rI wC ⟨k+1,false,⟨by omega,hstep (decide (k∈js\/fE m i k=false)) (by simp)⟩,rfl⟩
     | true=>
      cases hbk:bs[k] with
      | true=>
       have hmem:k∈js:=by
        have:=hbd k hkb;rw[hbk] at this;exact of_decide_eq_true this.symm
       repeat' first|refine go ?_|simp only[ab,hlt3,hkb,hbk]|decide|refine sp ?_ ?_<;>intro _
       exact rI wC ⟨k+1,true,⟨by omega,hstep true (by simp[hmem])⟩,rfl⟩
      | false=>
       have hmem:k∉js:=by
        have:=hbd k hkb;rw[hbk] at this;exact of_decide_eq_false this.symm
       repeat' first|refine go ?_|simp only[ab,hlt3,hkb,hbk]|decide|refine sp ?_ ?_<;>intro _
       refine al hW ?_;have hs2:=hstep (!fE m i k) (by simp[hmem]);rw[VC] at hs2
       repeat' first|refine go ?_|simp only[ab,hkb]|decide|refine sp ?_ ?_<;>intro _
       exact rI wC ⟨k+1,!fE m i k,⟨by omega,hs2⟩,rfl⟩
    .obtain rfl:k=n:=by omega
     have hFr:f=true↔zm m js i:=by
      rw[hF];unfold zm;rw[hnS]
     cases f with
     | true=>
      repeat' first|refine go ?_|simp only[ab,hlt3]|decide|refine sp ?_ ?_<;>intro _
      exact rI wC ⟨i+1,(i:Int),⟨by omega,.inr ⟨i,rfl,⟨by omega,hFr.1 rfl,hno⟩⟩⟩,rfl⟩
     | false=>
      repeat' first|refine go ?_|simp only[ab,hlt3]|decide|refine sp ?_ ?_<;>intro _
      refine rI wC ⟨i+1,v,⟨by omega,.inl ⟨hv0,fun i' h=>?_⟩⟩,rfl⟩;rcases U9 i' i with h5|h5
      .exact hno i' h5
      .obtain rfl:i'=i:=by omega
       exact fun h6=>by have:=hFr.2 h6;cases this
   .repeat' first|refine ge (kf @hlt2 hv0) ?_|decide|refine sp ?_ ?_<;>intro _
    exact⟨_,.inr rfl,⟨fun id o h=>(by cases h),trivial,trivial,trivial⟩,aF (by simp[AV.ren,AV.renL])⟩
  .have hjn:j<n:=by have:=hnx.lt;omega
   have hjb:j<bs.length:=(by omega);have hj0:decide ((j:Int)<0)=false:=(by simp);have et:((js ++ [j]).map (co m)).map gk=(js.map (co m)).map gk ++ [gk (co m j)]:=by rw[Vc,Vc];rfl
   have hset:(bs.map fun b=>[eB b]).set j [eB true]=(bs.set j true).map fun b=>[eB b]:=(by rw[WH]);have hnew:(bs.set j true).length=n/\(js ++ [j]).length<=n/\(∀i (h:i<(bs.set j true).length),(bs.set j true)[i]=decide (i∈js ++ [j]))/\nW m (js ++ [j]):=⟨by simp[hbs],by simp;omega,xx (n:=n) hbd,Be hgr hnx⟩;by_cases hi2:i<n
   .repeat' first|refine go ?_|simp only[hi2,hj0,ab,hjb,Int.reduceToNat]|decide|refine sp ?_ ?_<;>intro _
    refine cL (PC m j hf (by omega)) (ro) ?_
    repeat' first|refine go ?_|simp only[ab,hjb]|decide|refine sp ?_ ?_<;>intro _
    refine⟨rfl,by omega,gv (wS [0,1,4] (kf @hset et)) ⟨bs.set j true,js ++ [j],hnew,rfl⟩ (by simp[ow,ae.gc];omega)⟩
   .repeat' first|refine go ?_|simp only[hi2,hj0,ab,hjb,Int.reduceToNat]|decide|refine sp ?_ ?_<;>intro _
    refine cL (PC m j hf (by omega)) (ro) ?_
    repeat' first|refine go ?_|simp only[ab,hjb]|decide|refine sp ?_ ?_<;>intro _
    refine⟨rfl,by omega,gv (wS [0,1,4] (kf @hset et)) ⟨bs.set j true,js ++ [j],hnew,rfl⟩ (by simp[ow,ae.gc];omega)⟩
 .repeat' first|refine ge (kf @hlt @hol) ?_|decide|refine sp ?_ ?_<;>intro _
  refine⟨_,.inl ⟨js,rfl,by omega,hgr⟩,⟨fun id o h=>?_,WK,trivial,trivial⟩,⟨[2],by simp,rfl,⟨WK,⟨_,_,_,rfl⟩,by simp[ae.gc]⟩,trivial⟩⟩;simp only[ae.gc] at h;split at h
  .rename_i e;cases h;subst e;exact⟨WK,trivial⟩
  .cases h
end
section
theorem py{α:Type}(f:α -> List Int):∀l:List α,(∀x∈l,(f x).length<=800)->(l.flatMap f).length<=800 * l.length
 | [],_=>by simp
 | x :: l,h=>by
  have h1:=h x (Vr ..);have h2:=py f l fun y hy=>h y (Vx _ hy);simp only[V4,UW,Vl];omega
theorem kQ(l:List aw)(h:l.length<=400):(ce l).length<=800:=by
 have h1:=fh (bN l);have h2:=jq l;unfold ce;omega
end
end
section
section
theorem Gt(a b:List (Bool×Int))(ha:a.length<=1000000)(hb:b.length<=1000000):dp Tryz.prog 18 [.sl 2 (a.map gk),.sl 2 (b.map gk)] fun R=>∃r,R=val (.bool r)/\(r=true->a=b):=by
 refine bj ag Tryz.func18 rfl (by decide) Tryz.ntmps18 Tryz.results18 rfl ?_
 repeat' first|refine go ?_|decide|refine sp ?_ ?_<;>intro _
 .exact cK ⟨false,rfl,fun h=>by cases h⟩
 .rename_i hl;have hl:a.length=b.length:=by simp at hl;omega
  refine af (fun st=>∃(k:Nat),(k<=a.length/\∀i (h:i<a.length) (h2:i<b.length),i<k->a[i]=b[i])/\st=⟨26,[(0,.sl 2 (a.map gk)),(1,.sl 2 (b.map gk)),(5,eI (k:Int))],[],0⟩) (fun st=>a.length-ax st 5) ⟨_,wC,0,⟨UR _,fun i h h2 h3=>absurd h3 (by omega)⟩,rfl⟩ ?_;rintro _ ⟨k,⟨hk,hI⟩,rfl⟩;by_cases hlt:k<a.length
  .have hlt2:k<b.length:=by omega
   repeat' first|refine go ?_|simp only[ab,hlt,hlt2]|decide|refine sp ?_ ?_<;>intro _
   refine ay (by kernel_rfl) ?_
   repeat' first|refine go ?_|simp only[ab,hlt,hlt2]|decide|refine sp ?_ ?_<;>intro _
   refine⟨_,u4 .neq (.inr rfl) a[k] b[k],?_⟩
   repeat' first|refine go ?_|decide|refine sp ?_ ?_<;>intro _
   all_goals first|with_reducible exact cK ⟨false,rfl,fun h=>by cases h⟩|skip
   rename_i hne;refine rI wC ⟨k+1,⟨by omega,fun i h h2 h3=>?_⟩,rfl⟩;rcases U9 i k with h5|h5
   .exact hI i h h2 h5
   .obtain rfl:i=k:=by omega
    simp at hne;exact Prod.ext hne.1 hne.2
  .repeat' first|refine go ?_|simp only[ab,hlt]|decide|refine sp ?_ ?_<;>intro _
   exact cK ⟨true,rfl,fun _=>List.ext_getElem hl fun i h1 h2=>hI i h1 h2 (by omega)⟩
structure mZ(m:aJ):Prop where
 chk:TF m
 named:tK m
 writes:k6 m.events
 sum:jh m.events<=4
 consts:(ba m []).length<=6
 order:∃js:List Nat,m.order=js.map (co m)/\js.length=kc m/\nW m js
theorem C4(m:aJ)(hf:jN m)(hp:∀p∈m.stages,aA p.2):dp Tryz.prog 5 [.agg (aC m)] fun R=>∃b,R=val (.bool b)/\(b=true->mZ m):=by
 refine bj ag Tryz.func5 rfl (by decide) Tryz.ntmps5 Tryz.results5 rfl ?_;obtain⟨hg,hm,hst,hev,hat,hus,hro,hso,hor,-⟩:=id hf.sizes;have hpl:(pars m).length<=1073741824:=by simp[pars];omega
 have hpo:∀x∈pars m,aA x:=fun x hx=>by
  obtain⟨p,hp',rfl⟩:=U3.1 hx;exact hp p hp'
 repeat' first|refine go ?_|decide|refine sp ?_ ?_<;>intro _
 all_goals first|with_reducible exact cK ⟨false,rfl,fun h=>by cases h⟩|skip
 refine lQ (Lz m hf) fun b hnm=>?_
 repeat' first|refine go ?_|decide|refine sp ?_ ?_<;>intro _
 all_goals first|with_reducible exact cK ⟨false,rfl,fun h=>by cases h⟩|skip
 rename_i hbn;have hbn:b=true:=by simpa using hbn
 have hnm:=hnm hbn;refine vO (Gu m.events (by omega) hf.events) ?_;rintro _ ⟨n,rfl,hwr⟩;refine⟨.inr ⟨trivial,trivial⟩,?_⟩;simp only[val,AV.shift,ae.shift,Vn,VR]
 repeat' first|refine go ?_|decide|refine sp ?_ ?_<;>intro _
 all_goals first|with_reducible exact cK ⟨false,rfl,fun h=>by cases h⟩|skip
 refine dg (og m (by omega)) (.inr bk) ?_
 repeat' first|refine go ?_|decide|refine sp ?_ ?_<;>intro _
 refine al (JR (pars m) hpl hpo) ?_
 repeat' first|refine go ?_|decide|refine sp ?_ ?_<;>intro _
 all_goals first|with_reducible exact cK ⟨false,rfl,fun h=>by cases h⟩|skip
 have chk:TF m:=by refine⟨?_,?_,?_,?_,?_,?_,?_,?_,?_,?_⟩<;>(simp only[Vf,bne_eq_false_iff_eq] at *;omega)
 have hwr2:n=jh m.events/\k6 m.events:=hwr.resolve_left (by simp only[Vf,bne_eq_false_iff_eq] at *;omega);have hn4:n<=4:=by simp only[Vf,bne_eq_false_iff_eq] at *;omega
 refine cL ((y6 m [] (by simp) hg hm hf.guards hf.miles).fits (args:=[.agg (aC m),.c (.slice none 0 0)]) ⟨.one (.refl _),.one (.nil 7),trivial⟩) (ro) ?_
 repeat' first|refine go ?_|decide|refine sp ?_ ?_<;>intro _
 all_goals first|with_reducible exact cK ⟨false,rfl,fun h=>by cases h⟩|skip
 rename_i hc6;have hc6:(ba m []).length<=6:=by simp only[Vf] at hc6;omega
 refine vO (Jo m hf hp) fun R hR=>?_;rcases hR with ⟨js,rfl,hjl,hgr⟩|rfl
 .have e0:((0:Int) == 0)=true:=by decide
  refine⟨.inr ⟨⟨trivial,trivial,trivial⟩,jM,trivial⟩,?_⟩;simp only[AV.shift,AV.shiftL,ae.shift,aB.shift]
  repeat' first|refine ge e0 ?_|decide|refine sp ?_ ?_<;>intro _
  refine lQ (Gt (js.map (co m)) m.order (by rw[Vd,hjl];unfold kc;omega) (by omega)) fun x hx=>?_
  repeat' first|refine go ?_|decide|refine sp ?_ ?_<;>intro _
  exact cK ⟨_,rfl,fun h=>⟨chk,hnm,hwr2.2,by rw[<- hwr2.1];exact hn4,hc6,js,(hx h).symm,hjl,hgr⟩⟩
 .have e0:((10:Int) == 0)=false:=by decide
  refine⟨.inr ⟨⟨trivial,trivial,trivial⟩,trivial⟩,?_⟩;simp only[AV.shift,AV.shiftL,ae.shift,aB.shift]
  repeat' first|refine ge e0 ?_|decide|refine sp ?_ ?_<;>intro _
  exact cK ⟨false,rfl,fun h=>by cases h⟩
end
section
deriving instance DecidableEq for Nd
theorem uO(a b:Nd)(h1:a.z.cls.length<=1000000)(h2:a.z.gaps.length<=1000000)(h3:a.did.length<=1000000)(h4:a.cnt.length<=1000000):am Tryz.prog 33 [.agg (kD a),.agg (kD b)] (val (.bool (decide (a=b)))):=by
 refine aa ag Tryz.func33 rfl (by decide) Tryz.ntmps33 Tryz.results33 rfl (aD _) ?_;obtain⟨t,ht,hZ⟩:=lY (Ei a.z b.z h1 h2);have hD:=yX a.did b.did h3;have hC:=yX a.cnt b.cnt h4
 have e:decide (a=b)=(t && ((a.opn == b.opn) && ((a.don == b.don) && (decide (a.did=b.did) && decide (a.cnt=b.cnt))))):=by
  obtain⟨az,ao,ad,ai,ac⟩:=a;obtain⟨bz,bo,bd,bi,bc⟩:=b;rw[Wl];simp only[U7,U1,Wz,Nd.mk.injEq];rw[ht]
 rw[e]
 cases t with
 | false=>(repeat' (first|refine gf @VK ?_|decide|refine sp ?_ ?_<;>intro _|refine cA hZ ?_|fail))
 | true=>
  cases h5:a.opn == b.opn with
  | false=>(repeat' (first|refine gf (kf h5 (kf @VK @VC)) ?_|decide|refine sp ?_ ?_<;>intro _|refine cA hZ ?_|fail))
  | true=>
   cases h6:a.don == b.don with
   | false=>(repeat' (first|refine gf (kf h5 (kf h6 (kf @VK @VC))) ?_|decide|refine sp ?_ ?_<;>intro _|refine cA hZ ?_|fail))
   | true=>
    cases h7:decide (a.did=b.did) with
    | false=>
     rw[h7] at hD
     repeat' first|refine gf (kf h5 (kf h6 (kf @VK @VC))) ?_|decide|refine sp ?_ ?_<;>intro _|refine cA hZ ?_|refine cA hD ?_|fail
    | true=>
     rw[h7] at hD
     cases h8:decide (a.cnt=b.cnt) with
     | false=>
      rw[h8] at hC
      repeat' first|refine gf (kf h5 (kf h6 (kf @VK @VC))) ?_|decide|refine sp ?_ ?_<;>intro _|refine cA hZ ?_|refine cA hD ?_|refine cA hC ?_|fail
     | true=>
      rw[h8] at hC
      repeat' first|refine gf (kf h5 (kf h6 (kf @VK @VC))) ?_|decide|refine sp ?_ ?_<;>intro _|refine cA hZ ?_|refine cA hD ?_|refine cA hC ?_|fail
structure Sn where
 ev:Int
 us:Int
 nd:Nd
deriving DecidableEq
abbrev uu(x:Sn):List AV:=[eI x.ev,eI x.us,.sl 2 (x.nd.z.cls.map du),sI x.nd.z.gaps,eI x.nd.opn,eI x.nd.don,sI x.nd.did,sI x.nd.cnt]
structure uq(N:Nat)(n:Nd):Prop where
 z:nh N n.z
 did:n.did.length<=10
 cnt:n.cnt.length<=10
 opn:aA n.opn
 don:aA n.don
 dok:∀x∈n.did,aA x
theorem MF(l:List Sn)(x:Sn)(hll:l.length<=2700000000000){N:Nat}(hN:N<=1000000)(hl:∀y∈l,uq N y.nd):am Tryz.prog 50 [.sl 8 (l.map uu),.agg (uu x)] (val (.bool (decide (x∈l)))):=by
 refine aa ag Tryz.func50 rfl (by decide) Tryz.ntmps50 Tryz.results50 rfl (aD _) ?_
 repeat' first|refine go ?_|decide|refine sp ?_ ?_<;>intro _
 refine af (fun st=>∃k:Nat,k<=l.length/\x∉l.take k/\st=⟨40,[(0,.sl 8 (l.map uu)),(3,.op 0 0 0),(5,eI (k:Int))],[(0,some (.box 84 (uu x)))],1⟩) (fun st=>l.length-ax st 5) ⟨_,wC,0,UR _,by simp,rfl⟩ ?_;rintro _ ⟨k,hk,hI,rfl⟩;by_cases hlt:k<l.length
 .obtain ⟨y,hy⟩:∃y,y=l[k]:=⟨_,rfl⟩;have hrow:(l.map uu)[k]?.getD []=uu y:=by rw[hy];simp[hlt]
  have hB:=hl y (hy ▸ UQ hlt);have b1:=hB.z.cl;have b2:=hB.z.ga;have b3:=hB.did;have b4:=hB.cnt;have hS:=uO y.nd x.nd (by omega) (by omega) (by omega) (by omega);have hm:x∈l.take (k+1)↔x∈l.take k\/x=y:=by rw[U0 hlt,U4,Ve,hy]
  have q2:List.drop 2 (uu y)=kD y.nd:=rfl;have next:¬y=x->x∉l.take (k+1):=fun hne h=>(hm.1 h).elim hI fun e=>hne e.symm
  cases h5:y.ev == x.ev with
  | false=>
   have hne:¬y=x:=fun e=>by rw[e] at h5;simp at h5
   repeat' first|refine gf (kf @hrow (kf @hlt h5)) ?_|decide|refine sp ?_ ?_<;>intro _
   all_goals exact rI wC ⟨k+1,by omega,next hne,rfl⟩
  | true=>
   cases h6:y.us == x.us with
   | false=>
    have hne:¬y=x:=fun e=>by rw[e] at h6;simp at h6
    repeat' first|refine gf (kf @hrow (kf @hlt (kf h5 h6))) ?_|decide|refine sp ?_ ?_<;>intro _
    all_goals exact rI wC ⟨k+1,by omega,next hne,rfl⟩
   | true=>
    cases h7:decide (y.nd=x.nd) with
    | false=>
     rw[h7] at hS;have hne:¬y=x:=fun e=>by rw[e] at h7;simp at h7
     repeat' first|refine gf (kf @hrow (kf @hlt (kf h5 h6))) ?_|decide|refine sp ?_ ?_<;>intro _|refine cA hS ?_|fail
     all_goals exact rI wC ⟨k+1,by omega,next hne,rfl⟩
    | true=>
     rw[h7] at hS
     have he:x=y:=by
      obtain⟨e1,e2,e3⟩:=x;obtain⟨f1,f2,f3⟩:=y;simp at h5 h6 h7;rw[h5,h6,h7]
     have hmem:x∈l:=by rw[he,hy];exact UQ hlt
     rw[Vb hmem]
     repeat' first|refine gf (kf @hrow (kf @hlt (kf h5 h6))) ?_|decide|refine sp ?_ ?_<;>intro _|refine cA hS ?_|fail
     all_goals trace_state
 .obtain rfl:k=l.length:=by omega
  rw[U6] at hI;rw[U5 hI]
  repeat' first|refine gf @hlt ?_|decide|refine sp ?_ ?_<;>intro _
def eV(m:aJ)(n:Nd)(e:Nat)(u:Int):Nd:=⟨n.z,n.opn,n.don,n.did.set e (bn (n.did.getD e 0) u),if 0<(m.events[e]?.map (·.times)).getD 0 then n.cnt.set e (n.cnt.getD e 0+1) else n.cnt⟩
theorem NY(m:aJ)(n:Nd)(e:Nat)(u:Int)(he:e<m.events.length)(hd:e<n.did.length)(hc:e<n.cnt.length)(hdl:n.did.length<=1000000)(hcl:n.cnt.length<=1000000)(hdo:aA (n.did.getD e 0))(hco:-1000<=n.cnt.getD e 0/\n.cnt.getD e 0<=1000)(hu:0<=u/\u<31) :
  am Tryz.prog 48 [.agg (aC m),.agg (kD n),eI (e:Int),eI u] ⟨.agg (kD (eV m n e u)),[],0⟩:=by
 refine am.still (R:=⟨.agg [.sl 2 (n.z.cls.map du),sI n.z.gaps,eI n.opn,eI n.don,.osl 0,.osl 1],[(0,some (.row 3 1 ((eV m n e u).did.map fun n=>[eI n]))),(1,some (.row 3 1 ((eV m n e u).cnt.map fun n=>[eI n])))],2⟩) [0,1] ?_ (by simp[cu.frzs,cu.frz,ae.gc,AV.frz,AV.frzL,bw,aB.frz,eV]) (by simp[AV.lt,AV.ltL]);refine aa ag Tryz.func48 rfl (by decide) Tryz.ntmps48 Tryz.results48 rfl (fR (by simp[bX,aB.lt,AV.ltL,AV.lt]) (by simp[AV.lt,AV.ltL])) ?_;obtain⟨x,hx⟩:∃x,x=m.events[e]:=⟨_,rfl⟩;have hrx:(m.events.map t9)[e]?.getD []=t9 x:=by rw[hx];simp[he]
 obtain⟨d,hde⟩:∃d,d=n.did.getD e 0:=⟨_,rfl⟩;obtain⟨c,hce⟩:∃c,c=n.cnt.getD e 0:=⟨_,rfl⟩;have hrd:(n.did.map fun n=>[eI n])[e]?.getD []=[eI d]:=by rw[hde];simp[List.getD,hd]
 have hrc:(n.cnt.map fun n=>[eI n])[e]?.getD []=[eI c]:=by rw[hce];simp[List.getD,hc]
 rw[<- hde] at hdo;rw[<- hce] at hco;have hP:=qL d u true hdo hu.1 hu.2;rw[UZ rfl] at hP;have hsd:(n.did.map fun n=>[eI n]).set e [eI (bn d u)]=(eV m n e u).did.map fun n=>[eI n]:=by rw[eV,<- hde,WH]
 have ht:(m.events[e]?.map (·.times)).getD 0=x.times:=by rw[hx];simp[he]
 have ec:IntKind.i64.wrap (c+1)=c+1:=aE (by omega) (by omega)
 repeat' first|refine ge (kf @hrd hd) ?_|decide|refine sp ?_ ?_<;>intro _
 refine⟨rfl,⟨by omega,by omega⟩,?_⟩;refine al hP ?_
 repeat' first|refine ge (kf @hrd (kf hd @hsd)) ?_|decide|refine sp ?_ ?_<;>intro _
 refine⟨rfl,⟨by omega,by omega⟩,?_⟩;by_cases h0:0<x.times
 .have d0:decide (0<x.times)=true:=Vb h0;have hsc:(n.cnt.map fun n=>[eI n]).set e [eI (c+1)]=(eV m n e u).cnt.map fun n=>[eI n]:=by rw[eV,ht,UZ h0,<- hce,WH]
  repeat' first|refine gf (kf @hrx (kf he (kf @hrc (kf hc (kf d0 (kf ec @hsc)))))) ?_|decide|refine sp ?_ ?_<;>intro _
  exact⟨[4,6],by decide,rfl,by simp[b6,ae.gc]⟩
 .have d0:decide (0<x.times)=false:=U5 h0;have hsc:(eV m n e u).cnt=n.cnt:=by rw[eV,ht,UX h0]
  rw[hsc]
  repeat' first|refine gf (kf @hrx (kf he (kf @hrc (kf hc d0)))) ?_|decide|refine sp ?_ ?_<;>intro _
  exact⟨[4,6],by decide,rfl,by simp[b6,ae.gc]⟩
theorem vd(n:Nd)(h1:n.did.length<=1000000)(h2:n.cnt.length<=1000000):am Tryz.prog 45 [.agg (kD n)] ⟨.agg (cy (bE n)),[],0⟩:=
 dp.tree (vh n h1 h2) (by simp[AV.lt,AV.ltL]) fun R hR=>by
  subst hR;exact⟨[],by simp[cu.frzs,AV.lt,AV.ltL],.one (.agg ⟨.nil 1,.refl _,.refl _,.refl _,.refl _,trivial⟩)⟩
def dw(m:aJ)(x:Bool×Int):List aw:=if x.1=true then (if 0<=x.2 then ((m.miles[x.2.toNat]?).map (·.cond)).getD [] else []) else (if 0<=x.2 then ((m.guards[x.2.toNat]?).map (·.cond)).getD [] else [])
theorem Ln(m:aJ)(xm:Bool)(xn:Int):am Tryz.prog 96 [.agg (aC m),.agg [eB xm,eI xn]] ⟨bf (dw m (xm,xn)),[],0⟩:=by
 refine dp.tree (Post:=fun R=>∃ids,(R.frzs ids).r.lt 0/\kF (R.frzs ids).r (bf (dw m (xm,xn)))) ?_ (by simp[AV.lt,AV.ltL]) fun R h=>h;refine bj ag Tryz.func96 rfl (by decide) Tryz.ntmps96 Tryz.results96 rfl ?_;have hI:=fun n most=>dY n most;have rN:kF (.c (.slice none 0 0)) (bf []):=.one (.one (.nil 7))
 cases xm with
 | true=>
  by_cases h0:0<=xn
  .obtain ⟨k,rfl⟩:∃k:Nat,xn=(k:Int):=⟨xn.toNat,by omega⟩;by_cases hk:k<m.miles.length
   .obtain ⟨g,hg⟩:∃g,g=m.miles[k]:=⟨_,rfl⟩;have hrg:(m.miles.map yg)[k]?.getD []=yg g:=by rw[hg];simp[hk]
    have e:dw m (true,(k:Int))=g.cond:=(by simp[dw,hk,hg]);have hIn:df (k:Int) (m.miles.length:Int)=true:=by simp[df];omega
    rw[e]
    repeat' first|refine gf (kf @hrg (kf hk @hIn)) ?_|decide|refine sp ?_ ?_<;>intro _|refine cA (hI _ _) ?_|fail
    all_goals first|exact lE (by simp[AV.ren]) (by simp[AV.lt]) rN|exact lE (by simp[AV.ren]) (by simp[AV.lt]) (.one (.one (.refl _)))
   .have e:dw m (true,(k:Int))=[]:=(by simp[dw,hk]);have hIn:df (k:Int) (m.miles.length:Int)=false:=by simp[df];omega
    rw[e]
    repeat' first|refine gf @hIn ?_|decide|refine sp ?_ ?_<;>intro _|refine cA (hI _ _) ?_|fail
    all_goals first|exact lE (by simp[AV.ren]) (by simp[AV.lt]) rN|exact lE (by simp[AV.ren]) (by simp[AV.lt]) (.one (.one (.refl _)))
  .have e:dw m (true,xn)=[]:=(by simp[dw,h0]);have hIn:df xn (m.miles.length:Int)=false:=by simp[df];omega
   rw[e]
   repeat' first|refine gf @hIn ?_|decide|refine sp ?_ ?_<;>intro _|refine cA (hI _ _) ?_|fail
   all_goals first|exact lE (by simp[AV.ren]) (by simp[AV.lt]) rN|exact lE (by simp[AV.ren]) (by simp[AV.lt]) (.one (.one (.refl _)))
 | false=>
  by_cases h0:0<=xn
  .obtain ⟨k,rfl⟩:∃k:Nat,xn=(k:Int):=⟨xn.toNat,by omega⟩;by_cases hk:k<m.guards.length
   .obtain ⟨g,hg⟩:∃g,g=m.guards[k]:=⟨_,rfl⟩;have hrg:(m.guards.map El)[k]?.getD []=El g:=by rw[hg];simp[hk]
    have e:dw m (false,(k:Int))=g.cond:=(by simp[dw,hk,hg]);have hIn:df (k:Int) (m.guards.length:Int)=true:=by simp[df];omega
    rw[e]
    repeat' first|refine gf (kf @hrg (kf hk @hIn)) ?_|decide|refine sp ?_ ?_<;>intro _|refine cA (hI _ _) ?_|fail
    all_goals first|exact lE (by simp[AV.ren]) (by simp[AV.lt]) rN|exact lE (by simp[AV.ren]) (by simp[AV.lt]) (.one (.one (.refl _)))
   .have e:dw m (false,(k:Int))=[]:=(by simp[dw,hk]);have hIn:df (k:Int) (m.guards.length:Int)=false:=by simp[df];omega
    rw[e]
    repeat' first|refine gf @hIn ?_|decide|refine sp ?_ ?_<;>intro _|refine cA (hI _ _) ?_|fail
    all_goals first|exact lE (by simp[AV.ren]) (by simp[AV.lt]) rN|exact lE (by simp[AV.ren]) (by simp[AV.lt]) (.one (.one (.refl _)))
  .have e:dw m (false,xn)=[]:=(by simp[dw,h0]);have hIn:df xn (m.guards.length:Int)=false:=by simp[df];omega
   rw[e]
   repeat' first|refine gf @hIn ?_|decide|refine sp ?_ ?_<;>intro _|refine cA (hI _ _) ?_|fail
   all_goals first|exact lE (by simp[AV.ren]) (by simp[AV.lt]) rN|exact lE (by simp[AV.ren]) (by simp[AV.lt]) (.one (.one (.refl _)))
def bP(m:aJ):aJ:={ m with guards:=m.guards.map fun g=>{ g with cond:=[yT] },miles:=m.miles.map fun g=>{ g with cond:=[yT] } }
abbrev TU:List AV:=[.c (.slice none 0 0),.c (.slice none 0 0),.c (.slice none 0 0),.c (.slice none 0 0),.c (.slice none 0 0),.c (.slice none 0 0),.c (.slice none 0 0),.c (.slice none 0 0),.c (.slice none 0 0),.c (.slice none 0 0)]
theorem K7(m:aJ)(hg:m.guards.length<=1000000)(hm:m.miles.length<=1000000):am Tryz.prog 94 [.agg (aC m)] ⟨.agg (aC (bP m)),[],0⟩:=by
 refine am.still (R:=⟨.agg [.sl 1 (m.attrs.map fun s=>[eS s]),sI m.inits,.sl 1 (m.users.map fun s=>[eS s]),.sl 2 (m.roles.map Mq),.sl 2 (m.stages.map Mq),.sl 5 (m.events.map t9),.osl 0,.osl 1,.sl 2 (m.sods.map DG),.sl 2 (m.order.map gk)],[(0,some (.row 63 3 ((bP m).guards.map El))),(1,some (.row 65 5 ((bP m).miles.map yg)))],2⟩) [0,1] ?_ (by simp[cu.frzs,cu.frz,ae.gc,AV.frz,AV.frzL,bw,aB.frz,bP]) (by simp[AV.lt,AV.ltL]);refine aa ag Tryz.func94 rfl (by decide) Tryz.ntmps94 Tryz.results94 rfl (fR (by simp[bX,aB.lt,AV.ltL,AV.lt]) (by simp[AV.lt,AV.ltL])) ?_;have hT:bf [yT]=.sl 7 [[eI 1,eI 0,eI 0,eI 0,eI 0,eI 0,eI 0]]:=rfl
 repeat' first|refine go ?_|decide|refine sp ?_ ?_<;>intro _
 refine af (fun st=>∃k:Nat,k<=m.guards.length/\st=⟨52,[(1,.op 0 0 0),(2,.op 1 0 0),(3,.osl 2),(4,eI (k:Int))],[(0,some (.box 32 (aC m))),(1,some (.box 32 TU)),(2,some (.row 63 3 (((bP m).guards.take k).map El)))],3⟩) (fun st=>m.guards.length-ax st 4) ⟨_,((bq 3 63 3 (by simp only[iC,aj.get,aX,aj.put,↓reduceIte,reduceCtorEq,Nat.reduceLT,Nat.reduceEqDiff,Nat.reduceAdd,Nat.reduceLeDiff,eq_self,implies_true,Va,Vn])).trans (wS [0,1,2] @Va)),0,UR _,rfl⟩ ?_;rintro _ ⟨k,hk,rfl⟩;have hol:(bP m).guards.length=m.guards.length:=by simp[bP]
 by_cases hlt:k<m.guards.length
 .obtain ⟨g,hge⟩:∃g,g=m.guards[k]:=⟨_,rfl⟩;have hrg:(m.guards.map El)[k]?.getD []=El g:=by rw[hge];simp[hlt]
  have et:((bP m).guards.take (k+1)).map El=((bP m).guards.take k).map El ++ [[eI g.stage,eI g.event,.sl 7 [[eI 1,eI 0,eI 0,eI 0,eI 0,eI 0,eI 0]]]]:=by
   rw[U0 (by omega)];simp[bP,hge]
  have htl:((bP m).guards.take k).length<=1000000:=by rw[U2];omega
  obtain⟨O,hO⟩:∃O,O=(bP m).guards.take k:=⟨_,rfl⟩;rw[<- hO] at et htl ⊢
  repeat' first|refine gf (kf @hrg @hlt) ?_|decide|refine sp ?_ ?_<;>intro _|(with_reducible apply And.intro)
  all_goals first
   | rfl
   | omega
   | exact rI (wS [0,1,6] (kf et hO)) ⟨k+1,by omega,rfl⟩
 .obtain rfl:k=m.guards.length:=by omega
  have ha:(bP m).guards.take m.guards.length=(bP m).guards:=Vg (by omega);rw[ha]
  repeat' first|refine gf @hlt ?_|decide|refine sp ?_ ?_<;>intro _
  refine af (fun st=>∃k:Nat,k<=m.miles.length/\st=⟨52,[(1,.op 0 0 0),(2,.op 1 0 0),(3,.osl 2),(6,.osl 3),(7,eI (k:Int))],[(0,some (.box 32 (aC m))),(1,some (.box 32 TU)),(2,some (.row 63 3 ((bP m).guards.map El))),(3,some (.row 65 5 (((bP m).miles.take k).map yg)))],4⟩) (fun st=>m.miles.length-ax st 7) ⟨_,((bq 6 65 5 (by simp only[iC,aj.get,aX,aj.put,↓reduceIte,reduceCtorEq,Nat.reduceLT,Nat.reduceEqDiff,Nat.reduceAdd,Nat.reduceLeDiff,eq_self,implies_true,Va,Vn])).trans (wS [0,1,2,3] @Va)),0,UR _,rfl⟩ ?_;rintro _ ⟨k,hk,rfl⟩;have hol2:(bP m).miles.length=m.miles.length:=by simp[bP]
  by_cases hlt2:k<m.miles.length
  .obtain ⟨g,hge⟩:∃g,g=m.miles[k]:=⟨_,rfl⟩;have hrg:(m.miles.map yg)[k]?.getD []=yg g:=by rw[hge];simp[hlt2]
   have et:((bP m).miles.take (k+1)).map yg=((bP m).miles.take k).map yg ++ [[eS g.name,eI g.stage,eI g.event,.sl 7 [[eI 1,eI 0,eI 0,eI 0,eI 0,eI 0,eI 0]],eB g.final]]:=by
    rw[U0 (by omega)];simp[bP,hge]
   have htl:((bP m).miles.take k).length<=1000000:=by rw[U2];omega
   obtain⟨O,hO⟩:∃O,O=(bP m).miles.take k:=⟨_,rfl⟩;rw[<- hO] at et htl ⊢
   repeat' first|refine gf (kf @hrg @hlt2) ?_|decide|refine sp ?_ ?_<;>intro _|(with_reducible apply And.intro)
   all_goals first
    | rfl
    | omega
    | exact rI (wS [0,1,2,7] (kf et hO)) ⟨k+1,by omega,rfl⟩
  .obtain rfl:k=m.miles.length:=by omega
   have ha2:(bP m).miles.take m.miles.length=(bP m).miles:=Vg (by omega);rw[ha2]
   repeat' first|refine gf @hlt2 ?_|decide|refine sp ?_ ?_<;>intro _
   all_goals exact⟨[2,3],by decide,rfl,by simp[b6,ae.gc]⟩
theorem Jl{m:aJ}(h:jN m):jN (bP m):=by
 refine⟨?_,fun g hg=>?_,fun g hg=>?_,h.events⟩
 .have:=h.sizes;simpa[tw,bP] using this
 .obtain ⟨x,_,rfl⟩:=U3.1 hg;simp
 .obtain ⟨x,_,rfl⟩:=U3.1 hg;simp
theorem LV{m:aJ}(h:jN m)(x:Bool×Int):(dw m x).length<=80:=by
 unfold dw;split<;>split
 .cases he:m.miles[x.2.toNat]? with
  | none=>simp
  | some g=>simpa using h.miles g (r2 he)
 .simp
 .cases he:m.guards[x.2.toNat]? with
  | none=>simp
  | some g=>simpa using h.guards g (r2 he)
 .simp
noncomputable def jQ(m:aJ)(c:List Int)(z:Zn)(event:Int)(s:St)(x:Bool×Int):St:=if (n6 (dL (dw m x) z c s) && dq (bP m) s x event)=true then cd m s x else s
noncomputable def lc(m:aJ)(c:List Int)(z:Zn)(event:Int)(k:Nat)(s:St):St:=(m.order.take k).foldl (jQ m c z event) s
noncomputable def oq(m:aJ)(c:List Int)(n:Nd)(event:Int):Nd:=⟨n.z,(lc m c n.z event m.order.length (bE n)).opn,(lc m c n.z event m.order.length (bE n)).don,n.did,n.cnt⟩
theorem qJ{m:aJ}{c:List Int}{z:Zn}{event:Int}{k:Nat}(s:St)(hk:k<m.order.length):lc m c z event (k+1) s=jQ m c z event (lc m c z event k s) m.order[k]:=by
 unfold lc;rw[U0 hk,List.foldl_append];rfl
theorem pJ(m:aJ)(c:List Int)(z:Zn)(event:Int)(s:St)(h:cb s.opn/\cb s.don):∀k,k<=m.order.length->cb (lc m c z event k s).opn/\cb (lc m c z event k s).don
 | 0,_=>by simpa[lc] using h
 | k+1,hk=>by
  rw[qJ s (by omega)];have ih:=pJ m c z event s h k (by omega);unfold jQ;split
  .exact D8 m _ _ ih
  .exact ih
theorem LK(m:aJ)(c:List Int)(n:Nd)(event:Int)(hf:jN m)(hp:∀p∈m.stages,aA p.2)(hc:c.length<=1000){N:Nat}(hN:N<=1000)(hB:uq N n)(ho:cb n.opn)(hd:cb n.don):am Tryz.prog 49 [.agg (aC m),sI c,.agg (kD n),eI event] ⟨.agg (kD (oq m c n event)),[],0⟩:=by
 obtain⟨hgl,hml,hsl,hel,hal,hul,hrl,hsol,hol,hil⟩:=id hf.sizes;have hcl:=hB.z.cl;have hdl:=hB.did;have hcn:=hB.cnt;have hSt:=vd n (by omega) (by omega);have hFr:=K7 m (by omega) (by omega);refine aa ag Tryz.func49 rfl (by decide) Tryz.ntmps49 Tryz.results49 rfl (⟨fun id o h=>(by cases h),⟨trivial,trivial,trivial,trivial,trivial,trivial,trivial⟩⟩) ?_
 repeat' first|refine gq ?_|decide|refine sp ?_ ?_<;>intro _|refine cA hSt ?_|refine cA hFr ?_|fail
 refine af (fun st=>∃(k:Nat)(s:St),k<=m.order.length/\s=lc m c n.z event k (bE n)/\st=⟨61,[(1,sI c),(3,eI event),(4,.op 0 0 0),(6,.op 1 0 0),(8,.op 2 0 0),(9,.op 3 0 0),(10,.op 4 0 0),(11,eI (k:Int))],[(0,some (.box 32 (aC m))),(1,some (.box 56 (kD n))),(2,some (.box 56 [.c (.slice none 0 0),.c (.slice none 0 0),eI 0,eI 0,.c (.slice none 0 0),.c (.slice none 0 0)])),(3,some (.box 59 (cy s))),(4,some (.box 32 (aC (bP m))))],5⟩) (fun st=>m.order.length-ax st 11) ⟨_,wC,0,bE n,UR _,rfl,rfl⟩ ?_;rintro _ ⟨k,s,hk,hs,rfl⟩;have h31:=pJ m c n.z event (bE n) ⟨ho,hd⟩ k hk;rw[<- hs] at h31;by_cases hlt:k<m.order.length
 .have hst:=qJ (c:=c) (z:=n.z) (event:=event) (bE n) hlt;rw[<- hs] at hst;obtain⟨x,hx⟩:∃x,x=m.order[k]:=⟨_,rfl⟩;have hrx:(m.order.map gk)[k]?.getD []=gk x:=by rw[hx];simp[hlt]
  rw[<- hx] at hst;obtain⟨xm,xn⟩:=x;have hC:=Ln m xm xn;have hcnl:=LV hf (xm,xn);have hH:=Fw (dw m (xm,xn)) n.z c s (by omega) (by omega) hc hB.z.at_ (bW h31.1) (bW h31.2);have hF:=uM (bP m) s xm xn event (Jl hf) (bW h31.1) (bW h31.2);have hFi:=AA m s xm xn hf hp h31.1 h31.2;obtain⟨b,hb⟩:∃b,b=n6 (dL (dw m (xm,xn)) n.z c s):=⟨_,rfl⟩;obtain⟨e,he⟩:∃e,e=zr (dL (dw m (xm,xn)) n.z c s):=⟨_,rfl⟩;have ht:jQ m c n.z event s (xm,xn)=if (b && dq (bP m) s (xm,xn) event)=true then cd m s (xm,xn) else s:=by rw[jQ,<- hb]
  rw[ht] at hst;rw[<- hb,<- he] at hH;obtain⟨f,hff⟩:∃f,f=dq (bP m) s (xm,xn) event:=⟨_,rfl⟩;rw[<- hff] at hF hst
  repeat' first|refine ge (kf @hrx @hlt) ?_|decide|refine sp ?_ ?_<;>intro _
  refine aG [] [0,1,3,4,5,6] (.exec 2 (.exec 7 (.take 8 (.take 9 (.take 10 (.exec 11 (.exec 12 .done))))))) (by kernel_rfl) (by simp[ae.gc]) ?_
  cases b with
  | false=>
   rw[VK,UX (by simp)] at hst
   repeat' first|refine gf (kf @hrx @hlt) ?_|decide|refine sp ?_ ?_<;>intro _|refine cA hC ?_|refine cA hH ?_|fail
   all_goals exact rI wC ⟨k+1,s,by omega,hst.symm,rfl⟩
  | true=>
   cases f with
   | false=>
    rw[VC,UX (by simp)] at hst
    repeat' first|refine gf (kf @hrx @hlt) ?_|decide|refine sp ?_ ?_<;>intro _|refine cA hC ?_|refine cA hH ?_|refine cA hF ?_|fail
    all_goals exact rI wC ⟨k+1,s,by omega,hst.symm,rfl⟩
   | true=>
    rw[VC,UZ rfl] at hst
    repeat' first|refine gf (kf @hrx @hlt) ?_|decide|refine sp ?_ ?_<;>intro _|refine cA hC ?_|refine cA hH ?_|refine cA hF ?_|refine cA hFi ?_|fail
    all_goals exact rI wC ⟨k+1,cd m s (xm,xn),by omega,hst.symm,rfl⟩
 .obtain rfl:k=m.order.length:=by omega
  have hn:oq m c n event=⟨n.z,s.opn,s.don,n.did,n.cnt⟩:=by rw[oq,<- hs]
  rw[hn]
  repeat' first|refine gf @hlt ?_|decide|refine sp ?_ ?_<;>intro _
  all_goals exact Bw rfl
structure jC(m:aJ)(c:List Int):Prop where
 fit:jN m
 ck:mZ m
 clen:c.length<=9
 cok:∀x∈c,aA x
 stg:∀p∈m.stages,aA p.2
 rol:∀p∈m.roles,aA p.2
noncomputable def gE(m:aJ)(c:List Int)(n:Nd)(e:Nat)(u:Int)(zs:List Zn):List Sn:=zs.map fun z=>⟨(e:Int),u,oq m c { eV m n e u with z:=z } (e:Int)⟩
noncomputable def oD(m:aJ)(e:Nat):List Int:=(m.events[e]?.map (·.sets)).getD []
noncomputable def dn(m:aJ)(n:Nd)(e:Nat):List Zn:=qY n.z (oD m e) (cY m n.cnt m.events.length) (oD m e).length
noncomputable def lL(m:aJ)(c:List Int)(n:Nd)(e:Nat):List Sn:=(fm m (bE n) (e:Int)).flatMap fun u=>gE m c n e u (dn m n e)
noncomputable def dP(m:aJ)(c:List Int)(n:Nd)(k:Nat):List Sn:=(List.range k).flatMap (lL m c n)
open Classical in
noncomputable def ly(m:aJ)(c:List Int)(n:Nd):List Sn:=if uD m c n then cF (dP m c n m.events.length) ++ (if tu m (bE n)=true then [] else [⟨-1,-1,n⟩]) else []
end
section
def o9(l:List fo):Nat->Nat
 | 0=>0
 | a+1=>o9 l a+cE l (a:Int)
theorem vp(x:fo)(l:List fo):∀k,o9 (x :: l) k=o9 [x] k+o9 l k
 | 0=>rfl
 | k+1=>by
  have h:cE (x :: l) (k:Int)=cE [x] (k:Int)+cE l (k:Int):=by
   unfold cE;rw[List.countP_cons,List.countP_cons];simp;omega
  rw[o9,o9,o9,vp x l k,h];omega
theorem za{x:fo}{a:Nat}(h:aQ x.attrs (a:Int)=true):∀k,a<k->1<=o9 [x] k
 | 0,hk=>absurd hk (by omega)
 | k+1,hk=>by
  rw[o9];by_cases e:a=k
  .have:cE [x] (k:Int)=1:=by rw[<- e];simp[cE,h]
   omega
  .have:=za h k (by omega);omega
theorem Ks{x:fo}(h:0<x.attrs/\x.attrs<2147483648):∃a:Nat,a<31/\aQ x.attrs (a:Int)=true:=by
 have hne:aN x≠0:=by unfold aN;omega
 obtain⟨i,hi⟩:∃i,(aN x).testBit i=true:=Classical.byContradiction fun hn=>hne (Wt fun i=>by
  rw[Nat.zero_testBit]
  cases h2:(aN x).testBit i with
  | false=>rfl
  | true=>exact absurd ⟨i,h2⟩ hn)
 have h31:i<31:=by
  refine Classical.byContradiction fun hn=>?_;have h1:aN x<2 ^ i:=UY (by unfold aN;omega:aN x<2 ^ 31) (Vp (by omega) (by omega));rw[V6 h1] at hi;cases hi
 exact⟨i,h31,by rw[i7 ⟨by omega,h.2⟩ h31];exact hi⟩
theorem vC:∀l:List fo,(∀x∈l,(0<=x.attrs/\x.attrs<2147483648)/\(0<x.attrs\/0<=x.const))->l.length<=o9 l 31+fq l
 | [],_=>UR _
 | x :: l,h=>by
  have ih:=vC l fun y hy=>h y (Vx _ hy);obtain⟨h1,h2⟩:=h x Vr
  have hn:fq (x :: l)=fq l+(if x.const = -1 then 0 else 1):=by
   unfold fq;rw[List.countP_cons];by_cases e:x.const = -1<;>simp[e]
  rw[vp,hn,Vl];by_cases e:x.const = -1
  .obtain ⟨a,ha,hb⟩:=Ks (x:=x) ⟨by omega,h1.2⟩;have:=za hb 31 ha;rw[UZ e];omega
  .rw [UX e];omega
theorem OQ{l:List fo}{n:Nat}(h:∀a:Nat,a<31->(cE l (a:Int):Int)=if (a:Int)<(n:Int) then 1 else 0):∀k,k<=31->o9 l k<=n
 | 0,_=>UR _
 | k+1,hk=>by
  have key:∀j,j<=31->o9 l j<=min j n:=fun j=>by
   induction j with
   | zero=>intro _;simp[o9]
   | succ j ih=>
    intro hj;have h1:=ih (by omega);have h2:=h j (by omega);rw[o9];split at h2<;>omega
  have:=key (k+1) hk;omega
theorem Bq{l:List fo}{n:Nat}{m:Int}(hn:n<=31)(hat:∀x∈l,x.attrs<9223372036854775808)(h:oZ l (n:Int) m):(l.length:Int)<=n+m:=by
 have hd:=(rF l n m hn hat).2 h;rw[U1,U7] at hd;obtain⟨hb,hm⟩:=hd;obtain⟨hA,hC⟩:=(DI l (n:Int)).1 hb
 have h1:=vC l fun x hx=>by
  obtain⟨i,hi,rfl⟩:=U8 hx;obtain⟨k1,k2,_⟩:=(nG _ _).1 (hC i hi);exact⟨k1,k2⟩
 have h2:=OQ ((D7 l (n:Int) 31).1 hA) 31 (UU _);omega
theorem QX(m:aJ)(c:List Int){k:Nat}(hk:k<m.events.length)(h0:0<=m.events[k].times):DN m c k<=m.events[k].times * (m.events[k].sets.length:Int):=by
 unfold DN;have hw:=z8 c k;simp only[p0 hk,Vz,Vi];have h1:(((max 0 (m.events[k].times-mX c k)).toNat:Nat):Int)<=m.events[k].times:=by omega
 exact Int.mul_le_mul_of_nonneg_right h1 (WP _)
theorem yH(m:aJ)(c:List Int)(hw:k6 m.events):∀k,k<=m.events.length->cY m c k<=jh (m.events.take k)
 | 0,_=>by simp[cY,jh]
 | k+1,hk=>by
  have h1:=yH m c hw k (by omega);have h2:=QX m c (k:=k) (by omega) (hw.each k (by omega)).1;rw[cY,jc (by omega)];omega
theorem NS(m:aJ)(c:List Int)(k:Nat):0<=DN m c k:=by
 unfold DN;exact Int.mul_nonneg (WP _) (WP _)
theorem vg(m:aJ)(c:List Int):∀k,0<=cY m c k
 | 0=>WU _
 | k+1=>by
  have:=vg m c k;have:=NS m c k;rw[cY];omega
theorem A6{l:List Ev}(hw:k6 l):∀{k:Nat} (hk:k<l.length) (n:Nat),k<n->n<=l.length->l[k].times * (l[k].sets.length:Int)<=jh (l.take n)
 | k,hk,0,h,_=>absurd h (by omega)
 | k,hk,n+1,h,hn=>by
  have h0:∀i (hi:i<l.length),0<=l[i].times * (l[i].sets.length:Int):=fun i hi=>Int.mul_nonneg (hw.each i hi).1 (WP _)
  have hp:∀j,j<=l.length->0<=jh (l.take j):=fun j=>by
   induction j with
   | zero=>intro _;simp[jh]
   | succ j ih=>
    intro hj;have:=ih (by omega);have:=h0 j (by omega);rw[jc (by omega)];omega
  rw[jc (by omega)];by_cases e:k=n
  .subst e;have:=hp k (by omega);omega
  .have:=A6 hw hk n (by omega) (by omega);have:=h0 n (by omega);omega
theorem lZ{m:aJ}(h:mZ m){k:Nat}(hk:k<m.events.length):m.events[k].sets.length<=4:=by
 have h1:=A6 h.writes hk m.events.length hk (UU _);rw[U6] at h1;have h2:=h.sum;obtain⟨h3,h4,h5⟩:=h.writes.each k hk;by_cases e:m.events[k].times=0
 .have:=h5 e;omega
 .have h6:(1:Int) * (m.events[k].sets.length:Int)<=m.events[k].times * (m.events[k].sets.length:Int):=Int.mul_le_mul_of_nonneg_right (by omega) (WP _);omega
theorem vZ{m:aJ}(h:mZ m)(c:List Int):0<=cY m c m.events.length/\cY m c m.events.length<=4:=by
 have h1:=yH m c h.writes m.events.length (UU _);rw[U6] at h1;have h2:=h.sum;exact⟨vg m c _,by omega⟩
theorem nh.mono{N M:Nat}{z:Zn}(h:nh N z)(hm:N<=M):nh M z:=⟨by have:=h.cl;omega,by have:=h.ga;omega,h.at_⟩
structure oi(m:aJ)(n:Nd):Prop where
 did:n.did.length=m.events.length
 cnt:n.cnt.length=m.events.length
 opn:cb n.opn
 don:cb n.don
 each:∀i,i<m.events.length->cb (n.did.getD i 0)/\0<=n.cnt.getD i 0/\n.cnt.getD i 0<=3
 z:nh 14 n.z
 gap:(n.z.gaps.length:Int)=max ((n.z.cls.length:Int)-1) 0
theorem Iq{m:aJ}{c:List Int}{n:Nd}(hE:jC m c)(hat:∀x∈n.z.cls,aA x.attrs)(h:uD m c n):oi m n:=by
 obtain⟨h1,⟨⟨h2,h3,h4⟩,_⟩⟩:=h;unfold fe qs at h1;simp only[U1,U7] at h1;obtain⟨⟨⟨⟨⟨c1,c2⟩,c3⟩,c4⟩,c5⟩,c6⟩:=h1;have h5:=Bq (n:=m.attrs.length) (by have:=hE.ck.chk.attrs;omega) (fun x hx=>by have:=(hat x hx).2;omega) h3;have h6:=fh c;have h7:=hE.clen;have h8:=hE.ck.chk.attrs;refine⟨c2,c3,gQ c4,gQ c5,fun i hi=>?_,⟨by omega,by have:=h4.1;omega,hat⟩,h4.1⟩;have h9:=(km _ _).1 c6 i hi;unfold jF at h9;simp only[U1,U7,p0 hi,Vz,Vi] at h9;have h10:=(hE.ck.writes.each i hi).2.1;exact⟨gQ h9.1.1,h9.1.2,by omega⟩
theorem pf{m:aJ}{e:Nat}(he:e<m.events.length):oD m e=m.events[e].sets:=by simp[oD,he]
theorem I3{m:aJ}(h:mZ m){e:Nat}(he:e<m.events.length):∀a∈oD m e,0<=a/\a<31:=by
 intro a ha;rw[pf he] at ha;obtain⟨i,hi,rfl⟩:=U8 ha;have h1:=((h.named.events e he).2.2 i hi).1;have h2:=h.chk.attrs;unfold df at h1;simp only[U1,U7] at h1;omega
theorem nI{f:Nat->Bool}:∀{n:Nat} {u:Int},u∈dz f n->0<=u/\u<(n:Int)
 | 0,u,h=>by simp[dz] at h
 | n+1,u,h=>by
  rw[dz] at h;split at h
  .rcases U4.1 h with h1|h1
   .have:=nI h1;omega
   .simp at h1;omega
  .have:=nI h;omega
section
variable {m:aJ} {c:List Int} {n:Nd}
theorem mp(hE:jC m c)(hK:oi m n){e:Nat}(he:e<m.events.length):Uy 20 (dn m n e)/\(dn m n e).length<=2000404224:=by
 have hs:=lZ hE.ck he;rw[<- pf he] at hs;have hl:=(vZ hE.ck n.cnt).2;refine⟨fun y hy=>?_,wB (oD m e) hK.z hl _ (by omega)⟩;exact((Ew (oD m e) hK.z hl _ (by omega)).1 y hy).mono (by omega)
theorem Lo(hB:uq 20 n)(hK:oi m n)(e:Nat)(u:Int)(z:Zn)(hz:nh 20 z):uq 20 { eV m n e u with z:=z }:=by
 refine⟨hz,?_,?_,hB.opn,hB.don,fun x hx=>?_⟩
 .simp only[eV,W3];exact hB.did
 .simp only[eV];split
  .rw [W3];exact hB.cnt
  .exact hB.cnt
 .simp only[eV] at hx;rcases V9 hx with h1|h1
  .exact hB.dok x h1
  .rw [h1];exact tY _ _
theorem Rr{N:Nat}(hB:uq N n)(ho:cb n.opn)(hd:cb n.don)(event:Int):uq N (oq m c n event):=by
 have h:=pJ m c n.z event (bE n) ⟨ho,hd⟩ m.order.length (UU _);exact⟨hB.z,hB.did,hB.cnt,bW h.1,bW h.2,hB.dok⟩
theorem LF(hB:uq 20 n)(hK:oi m n)(e:Nat)(u:Int){zs:List Zn}(hz:Uy 20 zs):∀s∈gE m c n e u zs,uq 20 s.nd:=by
 intro s hs;obtain⟨z,h1,rfl⟩:=U3.1 hs;exact Rr (Lo hB hK e u z (hz z h1)) hK.opn hK.don _
theorem Kb(hE:jC m c)(hB:uq 20 n)(hK:oi m n){e:Nat}(he:e<m.events.length):∀s∈lL m c n e,uq 20 s.nd:=by
 intro s hs;obtain⟨u,_,h1⟩:=VP.1 hs;exact LF hB hK e u (mp hE hK he).1 s h1
theorem tM(hE:jC m c)(s:St)(e:Int):(fm m s e).length<=4:=by
 have h1:=jb (fun u=>bB m s e (u:Int)) m.users.length;have h2:=hE.ck.chk.users;unfold fm;omega
theorem Cj(hE:jC m c)(hK:oi m n){e:Nat}(he:e<m.events.length):(lL m c n e).length<=8001616896:=by
 have h1:=j7 (fun u=>gE m c n e u (dn m n e)) 2000404224 (fm m (bE n) (e:Int)) fun u _=>by
  rw[gE,Vd];exact(mp hE hK he).2
 have h2:=tM hE (bE n) (e:Int);have h3:=Vk 2000404224 h2;unfold lL;omega
theorem ls(hE:jC m c)(hK:oi m n):∀k,k<=m.events.length->(dP m c n k).length<=k * 8001616896
 | 0,_=>by simp[dP]
 | k+1,hk=>by
  have h1:=ls hE hK k (by omega);have h2:=Cj hE hK (e:=k) (by omega)
  have h3:dP m c n (k+1)=dP m c n k ++ lL m c n k:=by
   unfold dP;rw[V5,Wj];simp
  rw[h3,UW,Xk];omega
theorem zn(hE:jC m c)(hB:uq 20 n)(hK:oi m n){k:Nat}(hk:k<=m.events.length):∀s∈dP m c n k,uq 20 s.nd:=by
 intro s hs;obtain⟨e,he,h1⟩:=VP.1 hs;exact Kb hE hB hK (by have:=Wu.1 he;omega) s h1
theorem N5(hE:jC m c)(hB:uq 20 n):∀s∈ly m c n,uq 20 s.nd:=by
 intro s hs;unfold ly at hs;split at hs
 .rename_i hP;have hK:=Iq hE hB.z.at_ hP;rcases U4.1 hs with h1|h1
  .rw [kA] at h1;exact zn hE hB hK (UU _) s h1
  .split at h1
   .simp at h1
   .simp only[Ve] at h1;rw[h1];exact hB
 .simp at hs
end
end
end
section
section
theorem yI{all:List (Int×Int)}{c a b:Nat}(hb:b<=c)(h:jX all (a:Int) (b:Int)=true):∀n,a<n->((a:Int),(b:Int))∈gG all c n
 | 0,h2=>absurd h2 (by omega)
 | n+1,h2=>by
  unfold gG;by_cases e:a=n
  .subst e;refine V8 _ ?_;unfold eE;exact U3.2 ⟨b,Xg.2 ⟨Wu.2 (by omega),h⟩,rfl⟩
  .exact VU _ (yI hb h n (by omega))
theorem sV(g r:Int):∀n k:Nat,k<n->jX (gH g r n) (bM (k:Int) (r-1)) (bM (g-1-k) (r-1))=true
 | 0,k,h=>absurd h (by omega)
 | n+1,k,h=>by
  unfold gH;by_cases e:k=n
  .subst e;split
   .rename_i h2;exact h2
   .simp [jX]
  .have ih:=sV g r n k (by omega);split
   .exact ih
   .unfold jX at ih ⊢;rw[List.any_append,ih];rfl
theorem Fg{r u y w:Int}(h:1<=r)(h2:r<=20)(h3:u<y)(h4:y<w):(cC u y (aY (r-1)),cC y w (aY (r-1)))∈qn (cC u w (aY r)) r:=by
 have hs:=vQ h h2;have hM:=(fM (r-1)).1;obtain⟨A,hA⟩:∃A:Nat,y=u+1+A:=⟨(y-u-1).toNat,by omega⟩;obtain⟨B,hB⟩:∃B:Nat,w=y+1+B:=⟨(w-y-1).toNat,by omega⟩;obtain⟨M,hMe⟩:∃M:Nat,aY (r-1)=(M:Int):=⟨(aY (r-1)).toNat,by omega⟩;have hg1:cC u y (aY (r-1))=((min A M:Nat):Int):=by unfold cC;rw[hMe];omega
 have hg2:cC y w (aY (r-1))=((min B M:Nat):Int):=by unfold cC;rw[hMe];omega
 have hg3:cC u w (aY r)=((min (A+B+1) (2 * M+1):Nat):Int):=by unfold cC;rw[hs,hMe];omega
 have hcl:∀n:Int,bM n (r-1)=if n<0 then 0 else min n (M:Int):=fun n=>by unfold bM;rw[hMe]
 rw[hg1,hg2,hg3];unfold qn;rw[UX (by omega)]
 have key:∃G:Nat,Kw ((min (A+B+1) (2 * M+1):Nat):Int) r=(G:Int)/\∃k:Nat,k<G/\min k M=min A M/\min (G-1-k) M=min B M:=by
  have hc:bM ((min (A+B+1) (2 * M+1):Nat):Int) r=((min (A+B+1) (2 * M+1):Nat):Int):=by unfold bM;rw[hs,hMe];split<;>omega
  unfold Kw;rw[hc,hs,hMe];by_cases e:A+B+1<2 * M+1
  .rw [UX (by omega)];exact⟨A+B+1,by omega,A,by omega,rfl,by omega⟩
  .rw [UZ (by omega)];refine⟨6 * M+6,by omega,?_⟩;by_cases e1:A<=M
   .exact ⟨A,by omega,rfl,by omega⟩
   .by_cases e2:M<=B
    .exact ⟨2 * M+1,by omega,by omega,by omega⟩
    .exact ⟨6 * M+6-1-B,by omega,by omega,by omega⟩
 obtain⟨G,hG,k,hk,k1,k2⟩:=key;rw[hG,hMe,VD,VD];have hp:=sV (G:Int) r G k hk;rw[hcl,hcl,UX (by omega),UX (by omega)] at hp;rw[show min (k:Int) (M:Int)=((min A M:Nat):Int) by omega,show min ((G:Int)-1-k) (M:Int)=((min B M:Nat):Int) by omega] at hp;exact yI (by omega) hp _ (by omega)
theorem te(z:Zn)(a r:Int):∀n i,i<n->yh z a i r∈iy z a r n/\(i+1<z.cls.length->∀p∈qn (z.gaps.getD i 0) r,gS z a (i+1) r i [p.1,p.2] (i+1)∈iy z a r n)
 | 0,i,h=>absurd h (by omega)
 | n+1,i,h=>by
  unfold iy;by_cases e:i=n
  .subst e;constructor
   .refine V8 _ ?_;split
    .exact Vr
    .exact Ve.2 rfl
   .intro h1 p hp;refine V8 _ ?_;rw[UZ h1];unfold kb;rw[U6];exact Vx _ (U3.2 ⟨p,hp,rfl⟩)
  .obtain ⟨h1,h2⟩:=te z a r n i (by omega);exact⟨VU _ h1,fun h3 p hp=>VU _ (h2 h3 p hp)⟩
def zL(g:Int->fo)(a y:Int)(n:Int):fo:=if n=y then ⟨bn (g n).attrs a,(g n).const⟩ else g n
theorem DZ{g:Int->fo}{r a:Int}{L:List Int}(h:1<=r)(ha:0<=a/\a<=30)(hno:∀n,aQ (g n).attrs a=false) :
  gM (zl L g r) a r=if L.length=0 then [gS (zl L g r) a 0 r 0 [] 0] else qe (zl L g r) a r (aY (r-1)).toNat ((aY (r-1)).toNat+1) ++ iy (zl L g r) a r L.length ++ qU (zl L g r) a r ((aY (r-1)).toNat+1):=by
 unfold gM;have h1:(zl L g r).cls.length=L.length:=by simp
 have h2:(zl L g r).gaps.length=L.length-1:=pp _ _;rw[UX (by rw[h1,h2];omega),UX,h1];rw[Bool.not_eq_true,List.any_eq_false];intro x hx;obtain⟨n,_,rfl⟩:=U3.1 hx;rw[hno];simp
theorem Rm{g:Int->fo}{r a y:Int}{l1 l2:List Int}(h:1<=r)(h2:r<=20)(ha:0<=a/\a<=30)(hno:∀n,aQ (g n).attrs a=false)(hup:Up (l1 ++ y :: l2)) :
  zl (l1 ++ y :: l2) (zL g a y) (r-1)∈gM (zl (l1 ++ y :: l2) g r) a r:=by
 have hpw:=VN.1 hup
 have hn1:∀n∈l1,n≠y:=fun n hn e=>by
  have:=hpw.2.2 n hn y Vr;omega
 have hn2:∀n∈l2,n≠y:=fun n hn e=>by
  have:=(Wv.1 hpw.2.1).1 n hn;omega
 rw[DZ h ha hno,UX (by simp)];refine VU _ (V8 _ ?_);have hlen:(l1 ++ y :: l2).length=l1.length+1+l2.length:=by rw[UW,Vl];omega
 have e:zl (l1 ++ y :: l2) (zL g a y) (r-1)=yh (zl (l1 ++ y :: l2) g r) a l1.length r:=by
  unfold yh ns
  have hg:((l1 ++ y :: l2).map g).getD l1.length default=g y:=by
   rw[Vc,Os,Vu (by rw[Vd];exact UU _),Vd,W6];rfl
  show(⟨_,_⟩:Zn)=⟨((l1 ++ y :: l2).map g).set l1.length _,(gR (aY r) (l1 ++ y :: l2)).map _⟩;rw[xk h h2,hg]
  congr 1
  rw[Vc,VE,Vc,VE,List.set_append_right _ _ (by rw[Vd];exact UU _),Vd,W6,Wi]
  congr 1
  .exact WA fun n hn=>UX (hn1 n hn)
  .congr 1
   .exact UZ rfl
   .exact WA fun n hn=>UX (hn2 n hn)
 rw[e];exact(te (zl (l1 ++ y :: l2) g r) a r _ l1.length (by omega)).1
theorem JA{g:Int->fo}{a y:Int}{l:List Int}(h:∀n∈l,n≠y):l.map (zL g a y)=l.map g:=WA fun n hn=>UX (h n hn)
theorem EI{x y:Int}(r:Int):∃k:Nat,cC x y (aY (r-1))=(k:Int)/\k<=(aY (r-1)).toNat:=by
 have:=(fM (r-1)).1;refine⟨(cC x y (aY (r-1))).toNat,?_,?_⟩<;>unfold cC<;>omega
theorem O5{g:Int->fo}{r a y:Int}(h:1<=r)(h2:r<=20)(ha:0<=a/\a<=30)(hno:∀n,aQ (g n).attrs a=false)(hy:g y=⟨0,-1⟩)(l1 l2:List Int)(hup:Up (l1 ++ y :: l2)) :
  zl (l1 ++ y :: l2) (zL g a y) (r-1)∈gM (zl (l1 ++ l2) g r) a r:=by
 have hpw:=VN.1 hup;have hlt1:∀n∈l1,n<y:=fun n hn=>hpw.2.2 n hn y Vr;have hlt2:∀n∈l2,y<n:=fun n hn=>(Wv.1 hpw.2.1).1 n hn
 have hn1:∀n∈l1,n≠y:=fun n hn e=>by
  have:=hlt1 n hn;omega
 have hn2:∀n∈l2,n≠y:=fun n hn e=>by
  have:=hlt2 n hn;omega
 have hwy:zL g a y y=⟨bn 0 a,-1⟩:=by
  unfold zL;rw[UZ rfl,hy]
 have hcls:(l1 ++ y :: l2).map (zL g a y)=l1.map g ++ ⟨bn 0 a,-1⟩ :: l2.map g:=by
  rw[Vc,VE,hwy,JA hn1,JA hn2]
 have hcM:=(fM (r-1)).1;have hz:zl (l1 ++ y :: l2) (zL g a y) (r-1)=⟨l1.map g ++ ⟨bn 0 a,-1⟩ :: l2.map g,gR (aY (r-1)) (l1 ++ y :: l2)⟩:=by rw[<- hcls]
 have hcg:∀L:List Int,ns (zl L g r) r=gR (aY (r-1)) L:=fun L=>xk h h2 L
 have hown:∀(L:List Int)(at_ ahead behind:Nat)(come:List Int),gS (zl L g r) a at_ r ahead come behind=⟨(L.map g).take at_ ++ ⟨bn 0 a,-1⟩ :: (L.map g).drop at_,(gR (aY (r-1)) L).take ahead ++ (come ++ (gR (aY (r-1)) L).drop behind)⟩:=fun L _ _ _ _=>by
  unfold gS;rw[hcg]
 rw[hz,DZ h ha hno];rcases List.eq_nil_or_concat l1 with e1|⟨t1,u,e1⟩
 .subst e1
  cases l2 with
  | nil=>
   rw[UZ (show([] ++ []:List Int).length=0 from rfl),hown];exact Ve.2 rfl
  | cons w t=>
   rw[UX (by simp)];refine VU _ (VU _ ?_);obtain⟨k,hk,hk2⟩:=EI (x:=y) (y:=w) r;refine U3.2 ⟨(aY (r-1)).toNat-k,Wu.2 (by omega),?_⟩;rw[hown,show(aY (r-1)).toNat-((aY (r-1)).toNat-k)=k by omega];show(⟨_,_⟩:Zn)=⟨_,cC y w (aY (r-1)) :: gR (aY (r-1)) (w :: t)⟩;rw[hk];rfl
 .rw [List.concat_eq_append] at e1;subst e1
  cases l2 with
  | nil=>
   rw[UX (by simp)];refine V8 _ ?_;obtain⟨k,hk,hk2⟩:=EI (x:=u) (y:=y) r;refine U3.2 ⟨k,Wu.2 (by omega),?_⟩;have hl:(zl (t1 ++ [u] ++ []) g r).cls.length=t1.length+1:=(by simp);rw[hown,hl,VH,Ef,hk];have hgl:(gR (aY (r-1)) (t1 ++ [u])).length=t1.length+1-1:=by rw[pp];simp
   have hml:((t1 ++ [u]).map g).length=t1.length+1:=(by simp);rw[Vg (by omega),WG (by omega),Vg (by omega),WG (by omega)];rfl
  | cons w t=>
   rw[UX (by simp)];refine VU _ (V8 _ ?_);have hl:(t1 ++ [u] ++ w :: t).length=t1.length+1+1+t.length:=by simp;omega
   have hgl:(gR (aY (r-1)) (t1 ++ [u])).length=t1.length:=by rw[pp];simp
   have hgl2:(gR (aY r) (t1 ++ [u])).length=t1.length:=by rw[pp];simp
   have hu:u<y:=hlt1 u (by simp);have hw:y<w:=hlt2 w Vr;have e0:t1 ++ [u] ++ w :: t=t1 ++ u :: w :: t:=(by simp)
   have hgD:(zl (t1 ++ [u] ++ w :: t) g r).gaps.getD t1.length 0=cC u w (aY r):=by
    show(gR (aY r) (t1 ++ [u] ++ w :: t)).getD t1.length 0=_;rw[e0,pk,Os,Vu (by omega),hgl2,W6];rfl
   have hm:=(te (zl (t1 ++ [u] ++ w :: t) g r) a r (t1 ++ [u] ++ w :: t).length t1.length (by omega)).2 (by simp) _ (by rw[hgD];exact Fg h h2 hu hw);rw[hown] at hm;have hml:((t1 ++ [u]).map g).length=t1.length+1:=(by simp)
   have e1:((t1 ++ [u] ++ w :: t).map g).take (t1.length+1)=(t1 ++ [u]).map g:=by
    rw[Vc,VX (by omega),Vg (by omega)]
   have e2:((t1 ++ [u] ++ w :: t).map g).drop (t1.length+1)=(w :: t).map g:=by
    rw[Vc,List.drop_append_of_le_length (by omega),WG (by omega),VR]
   have e3:(gR (aY (r-1)) (t1 ++ [u] ++ w :: t)).take t1.length=gR (aY (r-1)) (t1 ++ [u]):=by
    rw[e0,pk,VX (by omega),Vg (by omega)]
   have e4:(gR (aY (r-1)) (t1 ++ [u] ++ w :: t)).drop (t1.length+1)=gR (aY (r-1)) (w :: t):=by
    rw[e0,pk,List.drop_append,hgl,WG (by omega),show t1.length+1-t1.length=1 by omega];rfl
   rw[e1,e2,e3,e4] at hm
   have e5:gR (aY (r-1)) (t1 ++ [u] ++ y :: w :: t)=gR (aY (r-1)) (t1 ++ [u]) ++ ([cC u y (aY (r-1)),cC y w (aY (r-1))] ++ gR (aY (r-1)) (w :: t)):=by
    rw[Vw,List.singleton_append,pk];rfl
   rw[e5];exact hm
theorem il{l:List Int}{n:Int}:n∈l↔ ∃q:Nat,q<l.length/\l.getD q 0=n:=by
 rw[List.mem_iff_getElem];constructor
 .rintro ⟨q,h,rfl⟩;exact⟨q,h,iH h⟩
 .rintro ⟨q,h,rfl⟩;exact⟨q,h,(iH h).symm⟩
theorem Gq(vals c:List Int)(a:Nat)(y r:Int)(ha:a<vals.length)(hv:vals.length<=31)(h:1<=r)(h2:r<=20):bS (vals.set a y) c (r-1)∈gM (eD (bS vals c r) (a:Int) r) (a:Int) r:=by
 obtain⟨x,hx⟩:∃x,x=vals.getD a 0:=⟨_,rfl⟩;obtain⟨f,hf⟩:∃f,f=ey vals c:=⟨_,rfl⟩;obtain⟨g,hg⟩:∃g,g=H4 f (a:Int):=⟨_,rfl⟩
 have hbit:∀(n:Int)(j:Int),aQ (f n).attrs j=true↔ ∃q:Nat,j=(q:Int)/\q<vals.length/\vals.getD q 0=n:=fun n j=>by
  rw[hf];exact kM vals n vals.length hv j
 have hf31:∀n,cb (f n).attrs:=fun n=>by rw[hf];exact si _ _ _
 have hgb:∀(n:Int)(j:Int),aQ (g n).attrs j=true↔ ∃q:Nat,q≠a/\j=(q:Int)/\q<vals.length/\vals.getD q 0=n:=fun n j=>by
  rw[hg];show aQ (aZ (f n).attrs (a:Int)) j=true↔_;rw[de,U1,hbit,Bool.not_eq_true',Vv];constructor
  .rintro ⟨h1,q,h3,h4,h5⟩;exact⟨q,by omega,h3,h4,h5⟩
  .rintro ⟨q,h1,h3,h4,h5⟩;exact⟨by omega,q,h3,h4,h5⟩
 have hg31:∀n,cb (g n).attrs:=fun n=>by rw[hg];exact iz _ _
 have hgc:∀n,(g n).const=dE (aR c) n (aR c).length:=fun n=>by rw[hg,hf];rfl
 have hgno:∀n,aQ (g n).attrs (a:Int)=false:=fun n=>by rw[hg];exact Mk _ _ _
 have hcst:∀n,(g n).const = -1↔n∉c:=fun n=>by
  rw[hgc];rcases jf (aR c) n (aR c).length with ⟨h3,h4⟩|⟨q,h3,h4,h5⟩
  .refine ⟨fun _ hm=>?_,fun _=>h3⟩;obtain⟨q,h5,h6⟩:=il.1 (((bm c).2 n).2 hm);exact h4 q h5 h6
  .refine ⟨fun e=>by omega,fun hm=>absurd (((bm c).2 n).1 (il.2 ⟨q,h4,h5⟩)) hm⟩
 have hatt:∀n,(g n).attrs=0↔ ∀q:Nat,q≠a->q<vals.length->vals.getD q 0≠n:=fun n=>by
  constructor
  .intro e q h3 h4 h5;have:=(hgb n (q:Int)).2 ⟨q,h3,rfl,h4,h5⟩;rw[e,pY] at this;cases this
  .intro hq;refine tN (hg31 n) ⟨WU _,by omega⟩ fun j _=>?_;rw[pY,VA];intro e;obtain⟨q,h3,h4,h5,h6⟩:=(hgb n (j:Int)).1 e;exact hq q h3 h5 h6
 have hP:∀n,g n=⟨0,-1⟩↔(∀q:Nat,q≠a->q<vals.length->vals.getD q 0≠n)/\n∉c:=fun n=>by
  rw[<- hatt,<- hcst];constructor
  .intro e;rw[e];exact⟨rfl,rfl⟩
  .rintro ⟨e1,e2⟩;cases hgn:g n;rw[hgn] at e1 e2;simp only at e1 e2;rw[e1,e2]
 obtain⟨upL,memL⟩:=bm (vals ++ c);have hxL:x∈a6 vals c:=(memL x).2 (VU _ (il.2 ⟨a,ha,hx.symm⟩));obtain⟨l1,l2,hL⟩:=List.append_of_mem hxL;have upL':Up (l1 ++ x :: l2):=hL ▸ upL;have memL':∀n,n∈l1 ++ x :: l2↔n∈vals ++ c:=fun n=>by rw[<- hL];exact memL n
 have hdr:=Nh (f:=f) (r:=r) (a:=(a:Int)) upL' (fun n hn=>by
  rw[VA];intro e;obtain⟨q,h3,h4,h5⟩:=(hbit n _).1 e;have:q=a:=by omega
  subst this;exact hn (by rw[hx,h5])) ((hbit x _).2 ⟨a,rfl,ha,hx.symm⟩) hf31
 have hpw:=VN.1 upL'
 have hm12:∀n,n∈l1 ++ l2↔n∈l1 ++ x :: l2/\n≠x:=fun n=>by
  rw[U4,U4,VL];constructor
  .rintro (h3|h3)
   .exact ⟨.inl h3,fun e=>by have:=hpw.2.2 n h3 x Vr;omega⟩
   .exact ⟨.inr (.inr h3),fun e=>by have:=(Wv.1 hpw.2.1).1 n h3;omega⟩
  .rintro ⟨h3|h3|h3,h4⟩
   .exact .inl h3
   .exact absurd h3 h4
   .exact .inr h3
 have up12:Up (l1 ++ l2):=VN.2 ⟨hpw.1,(Wv.1 hpw.2.1).2,fun u hu w hw=>hpw.2.2 u hu w (Vx _ hw)⟩
 have hall:∀n,g n≠⟨0,-1⟩->n∈l1 ++ x :: l2:=fun n hn=>(memL' n).2 (by
  rw[U4];refine Classical.byContradiction fun hno=>hn ((hP n).2 ⟨fun q _ h4 h5=>hno (.inl (il.2 ⟨q,h4,h5⟩)),fun h3=>hno (.inr h3)⟩))
 have hne:∀n,n∈l1 ++ x :: l2->n≠x->g n≠⟨0,-1⟩:=fun n hn hnx e=>by
  obtain⟨h3,h4⟩:=(hP n).1 e;rcases U4.1 ((memL' n).1 hn) with h5|h5
  .obtain ⟨q,h6,h7⟩:=il.1 h5;exact h3 q (fun e=>hnx (by rw[hx,<- e,h7])) h6 h7
  .exact h4 h5
 -- what is left when the number is taken out
 obtain⟨L1,up1,mem1,hD⟩:∃L1,Up L1/\(∀n,n∈L1↔g n≠⟨0,-1⟩)/\eD (bS vals c r) (a:Int) r=zl L1 g r:=by
  rw[zi,hL,<- hf,hdr,<- hg]
  have hxx:(aZ (f x).attrs (a:Int)=0/\(f x).const = -1)↔g x=⟨0,-1⟩:=by
   rw[hg];unfold H4;simp
  by_cases e:g x=⟨0,-1⟩
  .rw [UZ (hxx.2 e)];refine⟨_,up12,fun n=>⟨fun hn=>?_,fun hn=>(hm12 n).2 ⟨hall n hn,fun e2=>hn (e2 ▸ e)⟩⟩,rfl⟩;obtain⟨h3,h4⟩:=(hm12 n).1 hn;exact hne n h3 h4
  .rw [UX (fun h=>e (hxx.1 h))];refine⟨_,upL',fun n=>⟨fun hn=>?_,hall n⟩,rfl⟩;by_cases e2:n=x
   .rw [e2];exact e
   .exact hne n hn e2
 rw[hD]
 -- the new numbers
 have hsl:(vals.set a y).length=vals.length:=by simp
 have hsg:∀q:Nat,q<vals.length->(vals.set a y).getD q 0=if q=a then y else vals.getD q 0:=fun q hq=>by
  rw[Os,Wf];by_cases e:q=a
  .subst e;rw[UZ rfl,UZ rfl,UZ hq];rfl
  .rw [UX (Ne.symm e),UX e,Os]
 have hnew:∀n,ey (vals.set a y) c n=zL g (a:Int) y n:=fun n=>by
  have hc2:(ey (vals.set a y) c n).const=(zL g (a:Int) y n).const:=by
   unfold zL;split<;>exact(hgc n).symm
  have ha2:(ey (vals.set a y) c n).attrs=(zL g (a:Int) y n).attrs:=by
   refine tN (si _ _ _) ?_ fun j hj=>?_
   .unfold zL;split
    .exact jk _ _
    .exact hg31 n
   .rw [Wl];show aQ (cn (vals.set a y) n (vals.set a y).length) (j:Int)=true↔_;rw[kM _ _ _ (by omega)]
    have hw:aQ (zL g (a:Int) y n).attrs (j:Int)=true↔(n=y/\j=a)\/aQ (g n).attrs (j:Int)=true:=by
     unfold zL;by_cases e:n=y
     .rw [UZ e];show aQ (bn _ _) _=true↔_;rw[gT,Wb,U1,U7,Wz];constructor
      .rintro (⟨_,h3⟩|h3)
       .exact .inl ⟨e,by omega⟩
       .exact .inr h3
      .rintro (⟨_,h3⟩|h3)
       .exact .inl ⟨by omega,by omega⟩
       .exact .inr h3
     .rw [UX e];exact⟨.inr,fun h3=>h3.elim (fun h4=>absurd h4.1 e) id⟩
    rw[hw,hgb,hsl];constructor
    .rintro ⟨q,h3,h4,h5⟩;rw[hsg q h4] at h5;by_cases e:q=a
     .rw [UZ e] at h5;exact .inl ⟨h5.symm,by omega⟩
     .rw [UX e] at h5;exact .inr ⟨q,e,h3,h4,h5⟩
    .rintro (⟨h3,h4⟩|⟨q,h3,h4,h5,h6⟩)
     .exact ⟨a,by omega,ha,by rw[hsg a ha,UZ rfl];exact h3.symm⟩
     .exact ⟨q,h4,h5,by rw[hsg q h5,UX h3];exact h6⟩
  cases h5:ey (vals.set a y) c n;cases h6:zL g (a:Int) y n;rw[h5,h6] at hc2 ha2;simp only at hc2 ha2;rw[hc2,ha2]
 obtain⟨up2,mem2⟩:=bm (vals.set a y ++ c)
 have mem2':∀n,n∈a6 (vals.set a y) c↔n=y\/g n≠⟨0,-1⟩:=fun n=>by
  refine(mem2 n).trans ?_;rw[U4];constructor
  .rintro (h3|h3)
   .obtain ⟨q,h4,h5⟩:=il.1 h3;rw[hsl] at h4;rw[hsg q h4] at h5;by_cases e:q=a
    .rw [UZ e] at h5;exact .inl h5.symm
    .rw [UX e] at h5;exact .inr fun e2=>((hP n).1 e2).1 q e h4 h5
   .exact .inr fun e2=>((hP n).1 e2).2 h3
  .rintro (h3|h3)
   .exact .inl (il.2 ⟨a,by omega,by rw[hsg a ha,UZ rfl];exact h3.symm⟩)
   .refine Classical.byContradiction fun hno=>h3 ((hP n).2 ⟨fun q h4 h5 h6=>hno (.inl (il.2 ⟨q,by omega,by rw[hsg q h5,UX h4];exact h6⟩)),fun h4=>hno (.inr h4)⟩)
 have hz:bS (vals.set a y) c (r-1)=zl (a6 (vals.set a y) c) (zL g (a:Int) y) (r-1):=by
  rw[zi]
  congr 1
  exact funext hnew
 have ha30:0<=(a:Int)/\(a:Int)<=30:=by omega
 rw[hz];obtain⟨L2,hL2⟩:∃L2,L2=a6 (vals.set a y) c:=⟨_,rfl⟩;have upL2:Up L2:=hL2 ▸ up2;rw[<- hL2] at mem2' ⊢;obtain⟨k1,k2,hk⟩:=List.append_of_mem ((mem2' y).2 (.inl rfl));subst hk;by_cases e:g y=⟨0,-1⟩
 .have hpw2:=VN.1 upL2
  have hk12:L1=k1 ++ k2:=by
   refine mm _ _ up1 (VN.2 ⟨hpw2.1,(Wv.1 hpw2.2.1).2,fun u hu w hw=>hpw2.2.2 u hu w (Vx _ hw)⟩) fun n=>?_;rw[mem1,U4];constructor
   .intro hn;have h3:=(mem2' n).2 (.inr hn);rw[U4,VL] at h3;rcases h3 with h3|h3|h3
    .exact .inl h3
    .exact absurd (h3 ▸ e) hn
    .exact .inr h3
   .intro hn
    have hny:n≠y:=fun e2=>by
     rcases hn with h3|h3
     .have:=hpw2.2.2 n h3 y Vr;omega
     .have:=(Wv.1 hpw2.2.1).1 n h3;omega
    exact((mem2' n).1 (by rw[U4,VL];exact hn.elim .inl fun h3=>.inr (.inr h3))).resolve_left hny
  rw[hk12];exact O5 h h2 ha30 hgno e k1 k2 upL2
 .have hk12:L1=k1 ++ y :: k2:=mm _ _ up1 upL2 fun n=>by
   rw[mem1,mem2'];exact⟨.inr,fun h3=>h3.elim (fun h4=>h4 ▸ e) id⟩
  rw[hk12];exact Rm h h2 ha30 hgno upL2
theorem EN(vals c sets mv:List Int)(r:Int)(hv:vals.length<=31)(hin:∀i,i<sets.length->0<=sets.getD i 0/\sets.getD i 0<(vals.length:Int))(h2:r<=20):∀i:Nat,i<=sets.length->(i:Int)<=r->bS (a7 sets mv vals i) c (r-i)∈qY (bS vals c r) sets r i
 | 0,_,_=>by
  unfold qY a7;rw[show r-((0:Nat):Int)=r by omega];exact Ve.2 rfl
 | i+1,h1,h3=>by
  have ih:=EN vals c sets mv r hv hin h2 i (by omega) (by omega);unfold qY;rw[kA,VP];refine⟨_,ih,?_⟩;obtain⟨p1,p2⟩:=hin i (by omega);have hl:=cJ sets mv vals i
  have hs:a7 sets mv vals (i+1)=(a7 sets mv vals i).set (sets.getD i 0).toNat (mv.getD i 0):=by
   conv=>lhs;unfold a7
   simp only;rw[UZ ⟨p1,by rw[hl];exact p2⟩]
  obtain⟨a,ha⟩:∃a:Nat,sets.getD i 0=(a:Int):=⟨(sets.getD i 0).toNat,by omega⟩;rw[hs,ha,VD,show r-((i+1:Nat):Int)=r-(i:Int)-1 by omega];exact Gq _ c a _ _ (by omega) (by omega) (by omega) (by omega)
end
section
theorem C2{α:Type}[DecidableEq α](l:List α)(x:α):cF (l ++ [x])=if x∈cF l then cF l else cF l ++ [x]:=by
 unfold cF;rw[List.foldl_append];rfl
noncomputable def jV(m:aJ)(c:List Int)(n:Nd)(e i j:Nat):List Sn:=
 dP m c n e ++ (((fm m (bE n) (e:Int)).take i).flatMap (fun u=>gE m c n e u (dn m n e)) ++ ((((fm m (bE n) (e:Int))[i]?.map fun u=>gE m c n e u (dn m n e)).getD []).take j))
theorem Ff(m:aJ)(c:List Int)(n:Nd)(e:Nat):jV m c n e 0 0=dP m c n e:=by simp[jV]
theorem HV(m:aJ)(c:List Int)(n:Nd)(e:Nat){i:Nat}(hi:i<(fm m (bE n) (e:Int)).length):jV m c n e i (dn m n e).length=jV m c n e (i+1) 0:=by
 unfold jV;rw[U0 hi,p0 hi,Wj];simp only[Vz,Vi,V4,V7,VH,Va]
 congr 2
 exact Vg (by rw[gE,Vd];exact UU _)
theorem LG(m:aJ)(c:List Int)(n:Nd)(e:Nat):jV m c n e (fm m (bE n) (e:Int)).length 0=dP m c n (e+1):=by
 unfold jV dP;rw[U6,V5,Wj];simp[lL]
theorem Fq(m:aJ)(c:List Int)(n:Nd)(e:Nat){i j:Nat}(hi:i<(fm m (bE n) (e:Int)).length)(hj:j<(dn m n e).length) :
  jV m c n e i (j+1)=jV m c n e i j ++ [⟨(e:Int),(fm m (bE n) (e:Int))[i],oq m c { eV m n e (fm m (bE n) (e:Int))[i] with z:=(dn m n e)[j] } (e:Int)⟩]:=by
 unfold jV;rw[p0 hi];simp only[Vz,Vi];rw[U0 (by simpa[gE] using hj)];simp[gE]
theorem KT(m:aJ)(c:List Int)(n:Nd)(e:Nat){i j:Nat}:∀s∈jV m c n e i j,s∈dP m c n (e+1):=by
 intro s hs;unfold dP;rw[V5,Wj,U4];unfold jV at hs;rcases U4.1 hs with h|h
 .exact .inl h
 .right;simp only[V4,V7,VH];unfold lL;rcases U4.1 h with h1|h1
  .obtain ⟨u,hu,h2⟩:=VP.1 h1;exact VP.2 ⟨u,Vt hu,h2⟩
  .have h2:=Vt h1
   cases hw:(fm m (bE n) (e:Int))[i]? with
   | none=>rw[hw] at h2;simp at h2
   | some u=>
    rw[hw] at h2;exact VP.2 ⟨u,r2 hw,h2⟩
theorem Mn{m:aJ}{c:List Int}{n:Nd}(hE:jC m c)(hK:oi m n){e i j:Nat}(he:e<m.events.length):(jV m c n e i j).length<=72014552064:=by
 have h1:=ls hE hK e (by omega);have h2:=hE.ck.chk.events
 have h3:=j7 (fun u=>gE m c n e u (dn m n e)) 2000404224 ((fm m (bE n) (e:Int)).take i) fun u _=>by
  rw[gE,Vd];exact(mp hE hK he).2
 have h4:=tM hE (bE n) (e:Int);have h5:((fm m (bE n) (e:Int)).take i).length<=4:=by rw[U2];omega
 have h6:=Vk 2000404224 h5
 have h7:(((((fm m (bE n) (e:Int))[i]?.map fun u=>gE m c n e u (dn m n e)).getD []).take j)).length<=2000404224:=by
  rw[U2]
  cases hw:(fm m (bE n) (e:Int))[i]? with
  | none=>simp
  | some u=>
   have:=(mp hE hK he).2;simp[gE];omega
 have h8:=Vk 8001616896 (show e<=6 by omega);unfold jV;rw[UW,UW];omega
theorem J2(m:aJ)(c:List Int)(n:Nd)(hE:jC m c)(hB:uq 20 n):am Tryz.prog 23 [.agg (aC m),sI c,.agg (kD n)] ⟨.sl 8 ((ly m c n).map uu),[],0⟩:=by
 refine jP 84 ?_;refine bj ag Tryz.func23 rfl (by decide) Tryz.ntmps23 Tryz.results23 rfl ?_;have hf:=hE.fit;have hck:=hE.ck;obtain⟨hgl,hml,hsl,hel,hal,hul,hrl,hsol,hol,hil⟩:=id hf.sizes;have hcl:=hB.z.cl;have hga:=hB.z.ga;have hdl:=hB.did;have hcn:=hB.cnt;have hc9:=hE.clen
 have hm:∀e∈m.events,e.times<=10/\e.sets.length<=10:=fun x hx=>by
  obtain⟨i,hi,rfl⟩:=U8 hx;have h1:=(hck.writes.each i hi).2.1;have h2:=lZ hck hi;exact⟨by omega,by omega⟩
 obtain⟨t,ht,hC⟩:=lY (ya m c n hel hm (by omega) (by omega) (by omega) (by omega) hE.cok hB.z.at_ (by omega) (by omega) hB.opn hB.don hB.dok);have hSt:=vd n (by omega) (by omega)
 cases t with
 | false=>
  have hn:ly m c n=[]:=UX fun h=>by have:=ht.2 h;cases this
  rw[hn]
  repeat' first|refine gq ?_|decide|refine sp ?_ ?_<;>intro _|refine cA hC ?_|fail
  all_goals exact cK (jD rfl)
 | true=>
  have hP:=ht.1 rfl;have hK:=Iq hE hB.z.at_ hP;have hn:ly m c n=cF (dP m c n m.events.length) ++ (if tu m (bE n)=true then [] else [⟨-1,-1,n⟩]):=UZ hP;rw[hn];have hos:aA (bE n).opn:=hB.opn;have hds:aA (bE n).don:=hB.don;have hdis:∀x∈(bE n).did,aA x:=hB.dok;have hL:=sN m n.cnt hel hm (by omega);have hle:=vZ hck n.cnt;have hA:=Ii m (bE n) (by omega) (by omega) (by omega) (by omega) hos hds hE.rol hdis;obtain⟨s,hs⟩:∃s,s=bE n:=⟨_,rfl⟩
  repeat' first|refine gq ?_|decide|refine sp ?_ ?_<;>intro _|refine cA hC ?_|refine cA hSt ?_|fail
  refine af (fun st=>∃e:Nat,e<=m.events.length/\st=⟨102,[(1,sI c),(3,.op 0 0 0),(5,.op 1 0 0),(7,.osl 3),(8,.op 2 0 0),(9,eI (e:Int))],[(0,some (.box 32 (aC m))),(1,some (.box 56 (kD n))),(2,some (.box 59 (cy (bE n)))),(3,some (.row 84 8 ((cF (dP m c n e)).map uu)))],4⟩) (fun st=>m.events.length-ax st 9) ⟨_,((bq 7 84 8 (by simp only[iC,aj.get,aX,aj.put,↓reduceIte,reduceCtorEq,Nat.reduceLT,Nat.reduceEqDiff,Nat.reduceAdd,Nat.reduceLeDiff,eq_self,implies_true,dP,Wx,V7,cF,WW,Vn])).trans (wS [0,1,2,3] (kf @dP.eq_1 (kf @Wx (kf @V7 (kf @cF.eq_1 @WW)))))),0,UR _,rfl⟩ ?_;rintro _ ⟨e,he,rfl⟩;by_cases hlt:e<m.events.length
  .obtain ⟨x,hx⟩:∃x,x=m.events[e]:=⟨_,rfl⟩;have hrx:(m.events.map t9)[e]?.getD []=t9 x:=by rw[hx];simp[hlt]
   have hse:oD m e=x.sets:=by rw[hx];exact pf hlt
   have hsl4:=lZ hck hlt;rw[<- hx] at hsl4;have hW:=HM n.z x.sets (cY m n.cnt m.events.length) hK.z (by omega) (by rw[<- hse];exact I3 hck hlt) ⟨by omega,hle.2⟩;have hze:dn m n e=qY n.z x.sets (cY m n.cnt m.events.length) x.sets.length:=(by rw[dn,hse]);rw[<- hze] at hW;obtain⟨hzB,hzl⟩:=mp hE hK hlt;have hWho:=KS m (bE n) (e:Int) (by omega) (by omega) (by omega) hos hds hE.rol hdis;have hWhoT:am Tryz.prog 47 [.agg (aC m),.agg (cy (bE n)),eI (e:Int)] ⟨sI (fm m (bE n) (e:Int)),[],0⟩:=am.still [0] hWho (by simp[cu.frzs,cu.frz,gl,ae.gc,AV.frz]) (by simp[AV.lt]);have hwl:=tM hE (bE n) (e:Int)
   have hwm:∀u∈fm m (bE n) (e:Int),0<=u/\u<31:=fun u hu=>by
    have:=nI hu;omega
   have hz0:=Ff m c n e;have hall:=LG m c n e
   repeat' first|refine ge (kf @hrx @hlt) ?_|decide|refine sp ?_ ?_<;>intro _
   refine aG [] [0,1,2,3,4,5,6,7,8,9,10] (.exec 11 (.exec 12 (.exec 13 .done))) (by kernel_rfl) (by simp[ae.gc]) ?_
   repeat' first|refine gf (kf @hrx @hlt) ?_|decide|refine sp ?_ ?_<;>intro _|refine cA hL ?_|refine cA hW ?_|refine cA hWhoT ?_|fail
   refine af (fun st=>∃i:Nat,i<=(fm m (bE n) (e:Int)).length/\st=⟨102,[(1,sI c),(3,.op 0 0 0),(5,.op 1 0 0),(7,.osl 3),(8,.op 2 0 0),(9,eI (e:Int)),(10,.sl 2 ((dn m n e).map cS)),(11,sI (fm m (bE n) (e:Int))),(12,eI (i:Int))],[(0,some (.box 32 (aC m))),(1,some (.box 56 (kD n))),(2,some (.box 59 (cy (bE n)))),(3,some (.row 84 8 ((cF (jV m c n e i 0)).map uu)))],4⟩) (fun st=>(fm m (bE n) (e:Int)).length-ax st 12) ⟨_,(wE hz0),0,UR _,rfl⟩ ?_;rintro _ ⟨i,hi,rfl⟩;by_cases hli:i<(fm m (bE n) (e:Int)).length
   .have hsuc:=fun j (hj:j<(dn m n e).length)=>Fq m c n e hli hj;have hnx:=HV m c n e hli;obtain⟨W,hWe⟩:∃W,W=fm m (bE n) (e:Int):=⟨_,rfl⟩;obtain⟨u,hu⟩:∃u,u=(fm m (bE n) (e:Int))[i]:=⟨_,rfl⟩;have hru:((fm m (bE n) (e:Int)).map fun n=>[eI n])[i]?.getD []=[eI u]:=by rw[hu];simp[hli]
    have huo:=hwm u (hu ▸ UQ hli);have hk:=hK.each e hlt;have hTk:=NY m n e u hlt (by have:=hK.did;omega) (by have:=hK.cnt;omega) (by omega) (by omega) (bW hk.1) ⟨by omega,by omega⟩ huo;have hTB:=fun z (hz:nh 20 z)=>Lo hB hK e u z hz;simp only[<- hu] at hsuc;obtain⟨T,hTe⟩:∃T,T=eV m n e u:=⟨_,rfl⟩;rw[<- hTe] at hTk hTB hsuc;have hTz:T.opn=n.opn/\T.don=n.don:=by rw[hTe];exact⟨rfl,rfl⟩
    repeat' first|refine ge (kf @hru @hli) ?_|decide|refine sp ?_ ?_<;>intro _
    refine aG [] [0,1,2,3,4,5,6] (.two 7 (.exec 8 (.exec 9 .done)) 8 (.exec 7 (.exec 9 .done))) (by kernel_rfl) (by simp[ae.gc]) ?_
    repeat' first|refine gf (kf @hru @hli) ?_|decide|refine sp ?_ ?_<;>intro _|refine cA hTk ?_|(with_reducible apply And.intro)
    all_goals
     refine af (fun st=>∃(j:Nat)(z:Zn),j<=(dn m n e).length/\st=⟨102,[(1,sI c),(3,.op 0 0 0),(5,.op 1 0 0),(7,.osl 3),(8,.op 2 0 0),(9,eI (e:Int)),(10,.sl 2 ((dn m n e).map cS)),(11,sI (fm m (bE n) (e:Int))),(12,eI (i:Int)),(13,.op 4 0 0),(14,eI (j:Int))],[(0,some (.box 32 (aC m))),(1,some (.box 56 (kD n))),(2,some (.box 59 (cy (bE n)))),(3,some (.row 84 8 ((cF (jV m c n e i j)).map uu))),(4,some (.box 56 (kD { T with z:=z })))],5⟩) (fun st=>(dn m n e).length-ax st 14) ⟨_,wC,0,T.z,UR _,rfl⟩ ?_;rintro _ ⟨j,z0,hj,rfl⟩;by_cases hlj:j<(dn m n e).length
     .obtain ⟨z,hz⟩:∃z,z=(dn m n e)[j]:=⟨_,rfl⟩;have hrz:((dn m n e).map cS)[j]?.getD []=cS z:=by rw[hz];simp[hlj]
      have hzB2:=hzB z (hz ▸ UQ hlj);have hs1:=hsuc j hlj;rw[<- hz] at hs1;have hNB:=hTB z hzB2;have hPs:=LK m c { T with z:=z } (e:Int) hf hE.stg (by omega) (N:=20) (by omega) hNB (by rw[show({ T with z:=z }:Nd).opn=n.opn from hTz.1];exact hK.opn) (by rw[show({ T with z:=z }:Nd).don=n.don from hTz.2];exact hK.don);have hal:=Mn (c:=c) (i:=i) (j:=j) hE hK hlt;have hul:=mE (jV m c n e i j)
      have hsub:∀y∈cF (jV m c n e i j),uq 20 y.nd:=fun y hy=>by
       rw[kA] at hy;exact zn hE hB hK (by omega) y (KT m c n e y hy)
      have hus:=C2 (jV m c n e i j) ⟨(e:Int),u,oq m c { T with z:=z } (e:Int)⟩;rw[<- hs1] at hus;obtain⟨P,hPe⟩:∃P,P=oq m c { T with z:=z } (e:Int):=⟨_,rfl⟩;rw[<- hPe] at hPs hus;obtain⟨A,hA2⟩:∃A,A=cF (jV m c n e i j):=⟨_,rfl⟩;rw[<- hA2] at hul hsub hus ⊢;have hH:=MF A ⟨(e:Int),u,P⟩ (by omega) (N:=20) (by omega) hsub;by_cases hmem:(⟨(e:Int),u,P⟩:Sn)∈A
      .rw [UZ hmem] at hus;rw[Vb hmem] at hH
       repeat' first|refine ge (kf @hlj @hrz) ?_|decide|refine sp ?_ ?_<;>intro _
       refine aG [] [0,1,2,3,4,5,6,7,8] (.two 9 (.take 10 (.exec 11 (.exec 12 .done))) 11 (.exec 9 (.take 10 (.exec 12 .done)))) (by kernel_rfl) (by simp[ae.gc]) ?_
       repeat' first|refine gf (kf @hru (kf @hli (kf @hlj @hrz))) ?_|decide|refine sp ?_ ?_<;>intro _|refine cA hPs ?_|refine cA hH ?_|(with_reducible apply And.intro)
       all_goals exact rI (wE @hus) ⟨j+1,z,by omega,rfl⟩
      .rw [UX hmem] at hus;rw[U5 hmem] at hH;have et:(cF (jV m c n e i (j+1))).map uu=A.map uu ++ [uu ⟨(e:Int),u,P⟩]:=by rw[hus];simp
       repeat' first|refine ge (kf @hlj @hrz) ?_|decide|refine sp ?_ ?_<;>intro _
       refine aG [] [0,1,2,3,4,5,6,7,8] (.two 9 (.take 10 (.exec 11 (.exec 12 .done))) 11 (.exec 9 (.take 10 (.exec 12 .done)))) (by kernel_rfl) (by simp[ae.gc]) ?_
       repeat' first|refine gf (kf @hru (kf @hli (kf @hlj @hrz))) ?_|decide|refine sp ?_ ?_<;>intro _|refine cA hPs ?_|refine cA hH ?_|(with_reducible apply And.intro)
       all_goals first
        | rfl
        | omega
        | exact rI (wS [0,1,2,7,4] (kf et hA2)) ⟨j+1,z,by omega,rfl⟩
     .obtain rfl:j=(dn m n e).length:=by omega
      rw[hnx]
      repeat' first|refine gf @hlj ?_|decide|refine sp ?_ ?_<;>intro _
      all_goals exact rI wC ⟨i+1,by omega,rfl⟩
   .obtain rfl:i=(fm m (bE n) (e:Int)).length:=by omega
    repeat' first|refine gf @hli ?_|decide|refine sp ?_ ?_<;>intro _
    all_goals exact rI (wE @hall) ⟨e+1,by omega,rfl⟩
  .obtain rfl:e=m.events.length:=by omega
   have hUl:=mE (dP m c n m.events.length);have hNl:=ls hE hK m.events.length (UU _);have hev:=hck.chk.events;have hNl2:=Vk 8001616896 hev;obtain⟨U,hU⟩:∃U,U=cF (dP m c n m.events.length):=⟨_,rfl⟩;rw[<- hU] at hUl ⊢
   cases hb:tu m (bE n) with
   | true=>
    rw[hb] at hA;rw[UZ rfl,VH]
    repeat' first|refine gf @hlt ?_|decide|refine sp ?_ ?_<;>intro _|refine cA hA ?_|fail
    all_goals exact zQ rfl lp
   | false=>
    rw[hb] at hA;rw[UX (by simp)];have et:(U ++ [(⟨-1,-1,n⟩:Sn)]).map uu=U.map uu ++ [uu ⟨-1,-1,n⟩]:=(by simp);rw[et]
    repeat' first|refine gf @hlt ?_|decide|refine sp ?_ ?_<;>intro _|refine cA hA ?_|(with_reducible apply And.intro)
    all_goals first
     | rfl
     | omega
     | exact zQ rfl lp
end
section
theorem Lc{α:Type}[DecidableEq α]{x:α}:∀{l:List α} {k:Nat} (hk:k<l.length),l[k]=x->x∉l.take k->l.idxOf x=k
 | y :: l,0,_,h,_=>by
  have:y=x:=h;rw[this,List.idxOf_cons_self]
 | y :: l,k+1,hk,h,hn=>by
  have h1:x≠y/\x∉l.take k:=by simpa using hn
  have hb:(y == x)=false:=Vv.2 (Ne.symm h1.1);rw[List.idxOf_cons,hb,cond_false,Lc (by simpa using hk) (by simpa using h) h1.2]
 | [],k,hk,_,_=>absurd hk (by simp)
def sj(l:List Nd)(n:Nd):Int:=if n∈l then (l.idxOf n:Int) else -1
theorem Aj(l:List Nd)(n:Nd)(hll:l.length<=2700000000000){N:Nat}(hN:N<=1000000)(hl:∀y∈l,uq N y):am Tryz.prog 11 [.sl 6 (l.map kD),.agg (kD n)] (val (.int .i64 (sj l n))):=by
 refine aa ag Tryz.func11 rfl (by decide) Tryz.ntmps11 Tryz.results11 rfl (aD _) ?_
 repeat' first|refine go ?_|decide|refine sp ?_ ?_<;>intro _
 refine af (fun st=>∃k:Nat,k<=l.length/\n∉l.take k/\st=⟨19,[(0,.sl 6 (l.map kD)),(3,.op 0 0 0),(5,eI (k:Int))],[(0,some (.box 56 (kD n)))],1⟩) (fun st=>l.length-ax st 5) ⟨_,wC,0,UR _,by simp,rfl⟩ ?_;rintro _ ⟨k,hk,hI,rfl⟩;by_cases hlt:k<l.length
 .obtain ⟨y,hy⟩:∃y,y=l[k]:=⟨_,rfl⟩;have hrow:(l.map kD)[k]?.getD []=kD y:=by rw[hy];simp[hlt]
  have hB:=hl y (hy ▸ UQ hlt);have b1:=hB.z.cl;have b2:=hB.z.ga;have b3:=hB.did;have b4:=hB.cnt;have hS:=uO y n (by omega) (by omega) (by omega) (by omega);have hm:n∈l.take (k+1)↔n∈l.take k\/n=y:=by rw[U0 hlt,U4,Ve,hy]
  cases h7:decide (y=n) with
  | false=>
   rw[h7] at hS;have hne:¬y=n:=fun e=>by rw[e] at h7;simp at h7
   repeat' first|refine gf (kf @hrow @hlt) ?_|decide|refine sp ?_ ?_<;>intro _|refine cA hS ?_|fail
   all_goals exact rI wC ⟨k+1,by omega,fun h=>(hm.1 h).elim hI fun e=>hne e.symm,rfl⟩
  | true=>
   rw[h7] at hS;have he:y=n:=(by simpa using h7);have hmem:n∈l:=by rw[<- he,hy];exact UQ hlt
   have hix:sj l n=(k:Int):=by
    rw[sj,UZ hmem,Lc hlt (by rw[<- hy];exact he) hI]
   rw[hix]
   repeat' first|refine gf (kf @hrow @hlt) ?_|decide|refine sp ?_ ?_<;>intro _|refine cA hS ?_|fail
 .obtain rfl:k=l.length:=by omega
  rw[U6] at hI;have hix:sj l n = -1:=UX hI;rw[hix]
  repeat' first|refine gf @hlt ?_|decide|refine sp ?_ ?_<;>intro _
def jE(N:List Nd)(l:List Sn)(r:List D4):Prop:=r.length=l.length/\∀j (h:j<l.length) (h2:j<r.length),r[j].ev=l[j].ev/\r[j].us=l[j].us/\0<=r[j].dst/\N[r[j].dst.toNat]? = some l[j].nd
theorem jE.mono{N N':List Nd}{l:List Sn}{r:List D4}(h:jE N l r)(hp:N <+: N'):jE N' l r:=by
 obtain⟨t,rfl⟩:=hp;refine⟨h.1,fun j h1 h2=>?_⟩;obtain⟨k1,k2,k3,k4⟩:=h.2 j h1 h2;exact⟨k1,k2,k3,by rw[Vq (US.1 k4).1];exact k4⟩
theorem jE.snoc{N:List Nd}{l:List Sn}{r:List D4}{k:Nat}(hk:k<l.length)(h:jE N (l.take k) r){e:D4}(he:e.ev=l[k].ev/\e.us=l[k].us/\0<=e.dst/\N[e.dst.toNat]? = some l[k].nd):jE N (l.take (k+1)) (r ++ [e]):=by
 have hl:r.length=k:=by
  have:=h.1;rw[U2] at this;omega
 refine⟨by rw[UW,Vs,U2];omega,fun j h1 h2=>?_⟩;by_cases e1:j=k
 .subst e1
  have:(r ++ [e])[j]=e:=by
   rw[Xf (by omega)];simp[hl]
  rw[this,Wr];exact he
 .have h3:j<k:=by
   rw[U2] at h1;omega
  have h4:=h.2 j (by rw[U2];omega) (by omega);rw[WC (by omega),Wr];rw[Wr] at h4;exact h4
structure AU(m:aJ)(c:List Int)(N:List Nd)(E:List (List D4))(k:Nat):Prop where
 first:N[0]? = some (gg m c (b7 m))
 len:E.length=k
 le:k<=N.length
 nd:N.Nodup
 bnd:∀n∈N,uq 20 n
 rows:∀i (h:i<N.length) (h2:i<E.length),jE N (ly m c N[i]) E[i]
structure Nc(m:aJ)(c:List Int)(N0 N:List Nd)(L:List Sn)(r:List D4)(i:Nat):Prop where
 pre:N0 <+: N
 len:N.length<=N0.length+i
 nd:N.Nodup
 bnd:∀n∈N,uq 20 n
 edg:jE N (L.take i) r
def Iw(m:aJ)(c:List Int)(most:Nat)(R:cu):Prop:=R=⟨.tup [.agg [.c (.slice none 0 0),.c (.slice none 0 0)],eB false],[],0⟩\/∃N E,AU m c N E N.length/\N.length<=most/\R=⟨.tup [.agg [.sl 6 (N.map kD),.sl 1 (xl E)],eB true],[],0⟩
def T6(m:aJ)(c:List Int)(most:Nat)(R:cu):Prop:=R=⟨.tup [.agg [.c (.slice none 0 0),.c (.slice none 0 0)],eB false],[],0⟩\/∃N E,AU m c N E N.length/\N.length<=most/\R=⟨.tup [.agg [.osl 0,.osl 1],eB true],[(0,some (.row 56 6 (N.map kD))),(1,some (.row 82 1 (xl E)))],2⟩
theorem Qh{P:Program}{f:FuncId}{args:List AV}{m:aJ}{c:List Int}{most:Nat}(h:dp P f args (T6 m c most)):dp P f args (Iw m c most):=
 (((h.frz 0).frz 1).drop).mono fun R hR=>by
  obtain⟨R1,⟨R2,⟨R3,h3,rfl⟩,rfl⟩,h4⟩:=hR;rcases h3 with rfl|⟨N,E,h5,h6,rfl⟩
  .rcases h4 with ⟨_,rfl⟩|⟨h4,_⟩
   .left;simp[cu.frz,ae.get]
   .exact absurd (by simp[cu.frz,ae.get,AV.lt,AV.ltL]) h4
  .rcases h4 with ⟨_,rfl⟩|⟨h4,_⟩
   .right;exact⟨N,E,h5,h6,by simp[cu.frz,ae.gc,AV.frz,AV.frzL,bw,aB.frz]⟩
   .exact absurd (by simp[cu.frz,ae.gc,AV.frz,AV.frzL,bw,aB.frz,AV.lt,AV.ltL]) h4
theorem GP{m:aJ}{c:List Int}{n:Nd}(hE:jC m c)(hB:uq 20 n):(ly m c n).length<=48009701377:=by
 unfold ly;split
 .rename_i hP;have hK:=Iq hE hB.z.at_ hP;have h1:=mE (dP m c n m.events.length);have h2:=ls hE hK m.events.length (UU _);have h3:=Vk 8001616896 hE.ck.chk.events;rw[UW];split
  .simp only[Wd];omega
  .simp only[Vs];omega
 .exact UR _
theorem G3(vals c:List Int)(h:vals.length+c.length<=20):nh 20 (bS vals c 0)/\∀r,nh 20 (bS vals c r):=by
 have key:∀r,nh 20 (bS vals c r):=fun r=>by
  have hl:=fh (vals ++ c);rw[UW] at hl;refine⟨by simp[bS,iB,a6];omega,by simp[bS,fH,a6];omega,fun x hx=>?_⟩;obtain⟨n,_,rfl⟩:=U3.1 hx;exact pP _ _ _
 exact⟨key 0,key⟩
theorem OO{m:aJ}{c:List Int}(hE:jC m c):uq 20 (gg m c (b7 m)):=by
 obtain⟨e1,e2,e3⟩:=zU m;have h1:=hE.ck.chk;have h2:=hE.clen;have h3:=h1.attrs;have h4:=h1.inits;have h5:=h1.events;have h31:=lW m (-1) (m.order.take m.order.length) (eT m) (by simp[eT,cb])
 have hd:(b7 m).did=List.replicate m.events.length 0:=by
  have h:=fj m (-1) (m.order.take m.order.length) (eT m);unfold b7 cP;rw[h.2.1];rfl
 refine⟨(G3 (b7 m).vals c (by rw[e1];omega)).2 _,by show(b7 m).did.length<=10;omega,by show(b7 m).cnt.length<=10;omega,bW h31.1,bW h31.2,fun x hx=>?_⟩;have hx2:x∈(b7 m).did:=hx;rw[hd] at hx2;rw[(List.mem_replicate.1 hx2).2];simp[aA]
theorem G6(m:aJ)(c:List Int)(most:Nat)(hE:jC m c)(hi:∀x∈m.inits,aA x)(hmost:most<=1000):dp Tryz.prog 8 [.agg (aC m),sI c,eI (most:Int)] (Iw m c most):=by
 refine Qh ?_;refine bj ag Tryz.func8 rfl (by decide) Tryz.ntmps8 Tryz.results8 rfl ?_;have hc9:=hE.clen;obtain⟨hgl,hml,hsl,hel,hal,hul,hrl,hsol,hol,hil⟩:=id hE.fit.sizes
 have hm:∀e∈m.events,e.times<=10/\e.sets.length<=10:=fun x hx=>by
  obtain⟨i,hi,rfl⟩:=U8 hx;have h1:=(hE.ck.writes.each i hi).2.1;have h2:=lZ hE.ck hi;exact⟨by omega,by omega⟩
 have hBg:=xV m c hE.fit hE.stg hi hm (by omega) hE.cok;have hBB:=OO hE;obtain⟨n0,hn0⟩:∃n0,n0=gg m c (b7 m):=⟨_,rfl⟩;have hX0:AU m c [n0] [] 0:=⟨by rw[hn0];rfl,rfl,UR _,by simp,fun n hn=>by simp only[Ve] at hn;rw[hn,hn0];exact hBB,fun i h h2=>absurd h2 (by simp)⟩;have e0:([n0]:List Nd).map kD=[kD n0]:=rfl;rw[<- hn0] at hBg
 repeat' first|refine gq ?_|decide|refine sp ?_ ?_<;>intro _|refine cA hBg ?_|fail
 refine⟨rfl,?_⟩
 refine af (fun st=>∃(k:Nat)(N:List Nd)(E:List (List D4)),(AU m c N E k/\(N.length<=most\/(k=0/\N.length=1)))/\st=⟨96,[(1,sI c),(2,eI (most:Int)),(3,.op 0 0 0),(6,.op 1 0 0),(8,.op 2 0 0),(9,eI (k:Int))],[(0,some (.box 32 (aC m))),(1,some (.box 40 [.c (.slice none 0 0),.c (.slice none 0 0)])),(2,some (.box 40 [.osl 3,.osl 4])),(3,some (.row 56 6 (N.map kD))),(4,some (.row 82 1 (xl E)))],5⟩) (fun st=>most+2-ax st 9)
  ⟨_,((cQ 3 1 82 1 (t:=40) (cells:=[.osl 2,.c (.slice none 0 0)]) (by simp[ae.gc]) rfl).trans (wS [0,1,3,2,4] (kf @Wi (kf @WQ (kf e0 @xl.eq_1))))),0,[n0],[],⟨hX0,.inr ⟨rfl,rfl⟩⟩,rfl⟩ ?_
 rintro _ ⟨k,N,E,⟨hX,hlen⟩,rfl⟩;have hNl:N.length<=1000:=by omega
 by_cases hlt:k<N.length
 .obtain ⟨n,hn⟩:∃n,n=N[k]:=⟨_,rfl⟩;have hnB:=hX.bnd n (hn ▸ UQ hlt);have hrn:(N.map kD)[k]?.getD []=kD n:=by rw[hn];simp[hlt]
  have hNx:=J2 m c n hE hnB;have hLl:=GP hE hnB;have hLB:=N5 hE hnB;obtain⟨L,hL⟩:∃L,L=ly m c n:=⟨_,rfl⟩;rw[<- hL] at hNx hLl hLB;have hkm:k<=most+1:=by omega
  repeat' first|refine ge (kf @hlt @hrn) ?_|decide|refine sp ?_ ?_<;>intro _
  refine aG [] [0,1,2,3,4,5,6] (.exec 7 (.exec 8 .done)) (by kernel_rfl) (by simp[ae.gc]) ?_
  repeat' first|refine gf (kf @hlt @hrn) ?_|decide|refine sp ?_ ?_<;>intro _|refine cA hNx ?_|fail
  have hXi0:Nc m c N N L [] 0:=⟨List.prefix_rfl,UU _,hX.nd,hX.bnd,⟨rfl,fun j h _=>absurd h (by simp)⟩⟩
  refine af (fun st=>∃(i:Nat)(M:List Nd)(r:List D4),(i<=L.length/\Nc m c N M L r i)/\st=⟨96,[(1,sI c),(2,eI (most:Int)),(3,.op 0 0 0),(6,.op 1 0 0),(8,.op 2 0 0),(9,eI (k:Int)),(10,.sl 8 (L.map uu)),(11,.osl 5),(12,eI (i:Int))],[(0,some (.box 32 (aC m))),(1,some (.box 40 [.c (.slice none 0 0),.c (.slice none 0 0)])),(2,some (.box 40 [.osl 3,.osl 4])),(3,some (.row 56 6 (M.map kD))),(4,some (.row 82 1 (xl E))),(5,some (.row 86 3 (r.map QJ)))],6⟩) (fun st=>L.length-ax st 12)
   ⟨_,((bq 11 86 3 (by simp only[iC,aj.get,aX,aj.put,↓reduceIte,reduceCtorEq,Nat.reduceLT,Nat.reduceEqDiff,Nat.reduceAdd,Nat.reduceLeDiff,eq_self,implies_true,Vn])).trans (wS [0,1,2,3,4,5] trivial)),0,N,[],⟨UR _,hXi0⟩,rfl⟩ ?_
  rintro _ ⟨i,M,r,⟨hil2,hXi⟩,rfl⟩;have hMl:=hXi.len
  have hrl2:r.length<=48009701377:=by
   have:=hXi.edg.1;rw[U2] at this;omega
  by_cases hli:i<L.length
  .obtain ⟨y,hy⟩:∃y,y=L[i]:=⟨_,rfl⟩;have hry:(L.map uu)[i]?.getD []=uu y:=by rw[hy];simp[hli]
   have q2:List.drop 2 (uu y)=kD y.nd:=rfl;have hyB:=hLB y (hy ▸ UQ hli);have hF:=Aj M y.nd (by omega) (N:=20) (by omega) hXi.bnd;by_cases hmem:y.nd∈M
   .have hfi:sj M y.nd=(M.idxOf y.nd:Int):=UZ hmem;have hge:decide ((M.idxOf y.nd:Int)<0)=false:=U5 (by omega);have hidx:=List.idxOf_lt_length_of_mem hmem;have hget:M[M.idxOf y.nd]? = some y.nd:=(by rw[p0 hidx,List.getElem_idxOf]);rw[hfi] at hF;obtain⟨q,hq⟩:∃q,q=M.idxOf y.nd:=⟨_,rfl⟩;rw[<- hq] at hF hge hget;have hXn:Nc m c N M L (r ++ [⟨y.ev,y.us,(q:Int)⟩]) (i+1):=⟨hXi.pre,by omega,hXi.nd,hXi.bnd,hXi.edg.snoc hli (by rw[<- hy];exact⟨rfl,rfl,by simp,by simpa using hget⟩)⟩;have et:(r ++ [(⟨y.ev,y.us,(q:Int)⟩:D4)]).map QJ=r.map QJ ++ [[eI y.ev,eI y.us,eI (q:Int)]]:=(by simp)
    repeat' first|refine ge (kf @hli @hry) ?_|decide|refine sp ?_ ?_<;>intro _
    refine aG [] [0,1,2,3,4,5,6] (.exec 7 (.exec 8 .done)) (by kernel_rfl) (by simp[ae.gc]) ?_
    repeat' first|refine ge (kf @hli (kf @hry q2)) ?_|decide|refine sp ?_ ?_<;>intro _
    refine al hF ?_
    repeat' first|refine ge (kf @hli (kf @hry (kf q2 @hge))) ?_|decide|refine sp ?_ ?_<;>intro _
    refine aG [5] [0,1,2,3,4,5,6,7,8,9,10,11,12] (.exec 13 (.exec 14 (.exec 15 .done))) (by kernel_rfl) (by simp[ae.gc]) ?_
    repeat' first|refine gf (kf @hli (kf @hry (kf q2 @hge))) ?_|decide|refine sp ?_ ?_<;>intro _|(with_reducible apply And.intro)
    all_goals first
     | rfl
     | omega
     | exact rI (wS [0,1,2,3,4,7] et) ⟨i+1,M,_,⟨by omega,hXn⟩,rfl⟩
   .have hfi:sj M y.nd = -1:=UX hmem;have hge:decide ((-1:Int)<0)=true:=(by decide);rw[hfi] at hF
    have hXn:Nc m c N (M ++ [y.nd]) L (r ++ [⟨y.ev,y.us,(M.length:Int)⟩]) (i+1):=by
     refine⟨hXi.pre.trans (List.prefix_append _ _),by rw[UW,Vs];omega,?_,fun n hn=>?_,(hXi.edg.mono (List.prefix_append _ _)).snoc hli (by rw[<- hy];exact⟨rfl,rfl,by simp,by simp⟩)⟩
     .rw [List.nodup_append];refine⟨hXi.nd,by simp,fun a ha b hb=>?_⟩;simp only[Ve] at hb;rw[hb];exact fun e=>hmem (e ▸ ha)
     .rcases U4.1 hn with h1|h1
      .exact hXi.bnd n h1
      .simp only[Ve] at h1;rw[h1];exact hyB
    have et:(r ++ [(⟨y.ev,y.us,(M.length:Int)⟩:D4)]).map QJ=r.map QJ ++ [[eI y.ev,eI y.us,eI (M.length:Int)]]:=(by simp);have et2:(M ++ [y.nd]).map kD=M.map kD ++ [kD y.nd]:=(by simp)
    repeat' first|refine ge (kf @hli @hry) ?_|decide|refine sp ?_ ?_<;>intro _
    refine aG [] [0,1,2,3,4,5,6] (.exec 7 (.exec 8 .done)) (by kernel_rfl) (by simp[ae.gc]) ?_
    repeat' first|refine ge (kf @hli (kf @hry q2)) ?_|decide|refine sp ?_ ?_<;>intro _
    refine al hF ?_
    repeat' first|refine ge (kf @hli (kf @hry (kf q2 @hge))) ?_|decide|refine sp ?_ ?_<;>intro _
    refine aG [2,3] [0,2,3,4,5,6] (.two 1 (.exec 7 (.exec 8 (.take 9 (.exec 10 .done)))) 7 (.exec 1 (.exec 8 (.take 9 (.exec 10 .done))))) (by kernel_rfl) (by simp[ae.gc]) ?_
    repeat' first|refine ge (kf @hli (kf @hry (kf q2 @hge))) ?_|decide|refine sp ?_ ?_<;>intro _
    repeat' (with_reducible apply And.intro)
    all_goals first
     | rfl
     | omega
     | skip
    all_goals refine aG [5] [0,1,2,3,4,5,6,7,8,9,10,11,12] (.exec 13 (.exec 14 (.exec 15 .done))) (by kernel_rfl) (by simp[ae.gc]) ?_
    all_goals
     repeat' first|refine gf (kf @hli (kf @hry (kf q2 @hge))) ?_|decide|refine sp ?_ ?_<;>intro _|(with_reducible apply And.intro)
     all_goals first
      | rfl
      | omega
      | exact rI (wS [0,1,2,7,4,9] (kf et et2)) ⟨i+1,M ++ [y.nd],_,⟨by omega,hXn⟩,rfl⟩
  .obtain rfl:i=L.length:=by omega
   have hMl2:M.length<=50000000000:=(by omega);by_cases hmo:most<M.length
   .have hmd:decide ((most:Int)<(M.length:Int))=true:=Vb (by omega)
    repeat' first|refine gf (kf @hli @hmo) ?_|decide|refine sp ?_ ?_<;>intro _
    all_goals exact⟨_,.inl rfl,⟨fun id o h=>(by cases h),by simp[AV.lt,AV.ltL]⟩,aF (by simp[AV.ren,AV.renL])⟩
   .have hXe:AU m c M (E ++ [r]) (k+1):=by
     obtain⟨t,ht⟩:=hXi.pre;have hMle:N.length<=M.length:=by rw[<- ht,UW];omega
     refine⟨?_,by rw[UW,Vs,hX.len],by omega,hXi.nd,hXi.bnd,fun j h h2=>?_⟩
     .rw [<- ht,Vq (by omega)];exact hX.first
     .have hjl:j<k+1:=by rw[UW,Vs,hX.len] at h2;exact h2
      have hge:M[j]=N[j]'(by omega):=by
       simp only[<- ht];rw[WC (by omega)]
      rw[hge];by_cases e:j=k
      .subst e
       have h3:(E ++ [r])[j]=r:=by
        rw[Xf (by rw[hX.len];omega)];simp[hX.len]
       rw[h3,<- hn,<- hL];have:=hXi.edg;rw[U6] at this;exact this
      .have h3:(E ++ [r])[j]=E[j]'(by rw[hX.len];omega):=WC _;rw[h3];exact(hX.rows j (by omega) (by rw[hX.len];omega)).mono hXi.pre
    have et:xl (E ++ [r])=xl E ++ [[.sl 3 (r.map QJ)]]:=(by simp[xl]);have hEl:E.length<=1000:=by rw[hX.len];omega
    repeat' first|refine gf (kf @hli @hmo) ?_|decide|refine sp ?_ ?_<;>intro _|(with_reducible apply And.intro)
    all_goals first
     | rfl
     | omega
     | exact rI (wS [0,1,2,3,7] et) ⟨k+1,M,E ++ [r],⟨hXe,.inl (by omega)⟩,rfl⟩
 .have hkn:k=N.length:=by have:=hX.le;omega
  subst hkn;have hle:N.length<=most:=by omega
  have hd:decide ((N.length:Int)<=(most:Int))=true:=Vb (by omega)
  repeat' first|refine ge (kf @hlt @hle) ?_|decide|refine sp ?_ ?_<;>intro _
  refine aG [1] [0,1,2,3,4,5] (.exec 6 (.exec 7 .done)) (by kernel_rfl) (by simp[ae.gc]) ?_
  repeat' first|refine gf (kf @hlt @hle) ?_|decide|refine sp ?_ ?_<;>intro _
  all_goals exact⟨_,.inr ⟨N,E,hX,hle,rfl⟩,fR (by simp[bX,aB.lt,AV.ltL,AV.lt]) (by simp[AV.lt,AV.ltL]),⟨[3,4],by decide,rfl,by simp[b6,ae.gc]⟩⟩
end
end
section
section
theorem rb{w:World}{g o:Nat}{cur:Array Value}{e:TypeId}{f:Nat×Nat}(hg:w.heap[g]? = some (.cells cur e f))(v:Value):(w.setCell ⟨g,o,none⟩ v).heap[g]? = some (.cells (cur.setIfInBounds o v) e f):=by
 simp[World.setCell,Array.getElem?_modify,hg]
theorem g7{g:Nat}{e:TypeId}{f:Nat×Nat}:∀(vs:List Value)(o:Nat)(w:World)(cur:Array Value),w.heap[g]? = some (.cells cur e f)->o+vs.length<=cur.size->∃cur':Array Value,(w.setCells g o vs).heap[g]? = some (.cells cur' e f)/\cur'.toList=cur.toList.take o ++ vs ++ cur.toList.drop (o+vs.length)
 | [],o,w,cur,hg,_=>⟨cur,hg,by simp⟩
 | v :: vs,o,w,cur,hg,hl=>by
  simp only[Vl] at hl;obtain⟨cur',h1,h2⟩:=g7 vs (o+1) _ _ (rb hg v) (by simp;omega);refine⟨cur',h1,?_⟩;rw[h2];have ho:o<cur.toList.length:=by simp;omega
  rw[Array.toList_setIfInBounds];simp only[Vl];rw[U0 (by simpa using ho)];simp only[List.getElem_set_self,Vw,Wc,VR];rw[List.take_set_of_le (UU _),List.drop_set_of_lt (by omega),show o+1+vs.length=o+(vs.length+1) by omega]
theorem F3(w:World)(b o:Nat)(c:Nat)(hc:∀j,j<2->(w.cell? ⟨b,o+j,none⟩).isSome=true)(hf:∀j,j<2->w.frozen? ⟨b,o+j,none⟩=false)(ty:TypeId) :
  (Builtin.clear_ #[30] ty #[.slice (some ⟨b,o,none⟩) 1 c]).run Tryz.prog w=.ok (.tuple #[]) (w.setCells b o [.bool false,.int .i64 0]):=by
 have hz:∀w,(zeroValue 114).run Tryz.prog w=.ok (.agg #[.bool false,.int .i64 0]) w:=Tryz.zeroValue114;have ht:Tryz.prog.underlying 30=some (.slice 114):=Tryz.underlying30;have hst:=run_storeCells_cells (P:=Tryz.prog) b o [.bool false,.int .i64 0] 0 w (by simpa using hc) (by simpa using hf) (by intro v hv;simp at hv;rcases hv with rfl|rfl<;>rfl);simp only[WT] at hst;simp[Builtin.clear_,Sem.run_bind,run_underlying ht,hz];rw[show(Builtin.zeroCells (Value.agg #[Value.bool false,Value.int IntKind.i64 0]).cells 1).toList=[Value.bool false,Value.int IntKind.i64 0] by kernel_rfl,hst];rfl
theorem BE(w:World)(g cap n i:Nat)(cur:Array Value)(hg:w.heap[g]? = some (.cells cur 114 (0,0)))(hcs:cap * 2<=cur.size)(hcn:n<=cap)(hm:cap<=9223372036854775807)(hi:i<n)(hone:∀x∈cur.toList.take (n * 2),x.oneCell'=true) :
  Calls Tryz.prog 111 #[.slice (some ⟨g,0,none⟩) n cap,.int .i64 (i:Int),.int .i64 ((i+1:Nat):Int)] w fun e w'=>
   e=.returned (.slice (some ⟨g,0,none⟩) (n-1) cap)/\w'=(w.drew.setCells g (i * 2) ((cur.toList.drop ((i+1) * 2)).take ((n-1-i) * 2))).setCells g ((n-1) * 2) [.bool false,.int .i64 0]:=by
 obtain⟨j,hj⟩:∃j,j=i+1:=⟨_,rfl⟩;rw[<- hj];obtain⟨news,hnews⟩:∃news,news=(cur.toList.drop ((j) * 2)).take ((n-1-i) * 2):=⟨_,rfl⟩;have hlen:news.length=(n-(j)) * 2:=by rw[hnews];simp;omega
 have hcell:∀k,k<cap * 2->w.cell? ⟨g,k,none⟩=cur[k]?:=fun k hk=>by simp[World.cell?,hg]
 have hfz:∀k,w.frozen? ⟨g,k,none⟩=false:=fun k=>by simp[World.frozen?,hg]
 have hget:∀t u,news[t]? = some u->w.cell? ⟨g,(j) * 2+t,none⟩=some u:=fun t u hu=>by
  have ht:=(US.1 hu).1;rw[hlen] at ht;rw[hnews,List.getElem?_take_of_lt (by omega),VJ,V0] at hu;rw[hcell _ (by omega)];exact hu
 have hone':∀u∈news,u.oneCell'=true:=fun u hu=>by
  refine hone u ?_;rw[hnews] at hu;obtain⟨k,hk,rfl⟩:=U8 hu;simp only[U2,VO,VI] at hk;rw[Wr,List.getElem_drop];exact WL.2 ⟨(j) * 2+k,by simp;omega,rfl⟩
 obtain⟨A,hA,hsrc⟩:∃A:Addr,(if cap=j then some (⟨g,0,none⟩:Addr) else some ⟨g,(j) * 2,none⟩)=some A/\Hid (∀t u,news[t]? = some u->w.drew.cell? (A.add t)=some u):=by
  by_cases h:cap=j
  .refine ⟨⟨g,0,none⟩,by simp[h],fun t u hu=>?_⟩;have h0:news.length=0:=by rw[hlen];omega
   rw[WX.1 h0] at hu;simp at hu
  .exact ⟨⟨g,(j) * 2,none⟩,by simp[h],fun t u hu=>by rw[Addr.add_lit];exact hget t u hu⟩
 have s1:Hid (news.length=(n-(j)) * 2):=hlen;have s2:Hid (∀u∈news,u.oneCell'=true):=hone'
 have s3:Hid (∀t,t<news.length->(w.drew.cell? ⟨g,0+i * 2+t,none⟩).isSome=true/\w.drew.frozen? ⟨g,0+i * 2+t,none⟩=false):=by
  intro t ht;rw[hlen] at ht;refine⟨?_,hfz _⟩;show(w.cell? _).isSome=true;rw[hcell _ (by omega)];have:0+i * 2+t<cur.size:=by omega
  rw[UT this];rfl
 obtain⟨W1,hW1⟩:∃W1,W1=w.drew.setCells g (0+i * 2) news:=⟨_,rfl⟩
 have hcl:∀ty c,(Builtin.clear_ #[30] ty #[.slice (some ⟨g,(n-1) * 2,none⟩) (n-(n-1)) c]).run Tryz.prog W1=.ok (.tuple #[]) (W1.setCells g ((n-1) * 2) [.bool false,.int .i64 0]):=fun ty c=>by
  rw[show n-(n-1)=1 by omega];refine F3 W1 g ((n-1) * 2) c (fun j hj=>?_) (fun j hj=>?_) ty
  .rw [hW1];refine World.isSome_setCells _ _ _ _ _ ?_;show(w.cell? _).isSome=true;rw[hcell _ (by omega),UT (by omega)];rfl
  .rw [hW1,World.frozen?_setCells];exact hfz _
 rw[<- hnews];have mixed:=ag;have hic:i<=cap:=by omega
 have hjc:j<=cap:=by omega
 have hin:j<=n:=by omega
 have hne:i≠j:=by omega
 have hij:i<j:=by omega
 have hc1:¬cap=n-1:=by omega
 have hn1:n-1<=n:=by omega
 have hn2:n-1<=cap:=by omega
 have hsum:i+(n-j)=n-1:=by omega
 have ht:Tryz.prog.underlying 30=some (.slice 114):=Tryz.underlying30
 obtain⟨i0,hi0,hz0⟩:∃i0,Tryz.prog.info? 114=some i0/\i0.size=2:=by
  have h2:=JS;obtain⟨i1,z,hund,hi,hz,hs,hb,hzs,hsz⟩:=fW h2;exact⟨i1,hi,hs⟩
 have hW:Hid (W1=w.drew.setCells g (0+i * 2) news):=hW1;clear hj hget hone' hnews hcell hfz hone hlen hW1 hg hcs
 go_enter Tryz.func111,Tryz.ntmps111
 go_wp2_with fail
 go_region_law_o (refine step_append_room rfl (.tmp 22) (.tmp 25) 30 rfl 114 i0 2 ht hi0 hz0 g 0 i cap (by simp[Act.eval,Act.put]) A (n-(j)) (cap-(j)) news (by simp[Act.eval,Act.put]) s1.out hsrc.out s2.out (by omega) s3.out ?_;rw[<- hW.out])
 go_wp2
 go_ret
 exact⟨rfl,by rw[hW.out,We]⟩
theorem xD(w:World)(g o:Nat)(v:Value):w.grownBy (w.setCell ⟨g,o,none⟩ v) (some g):=
 ⟨rfl,rfl,rfl,by simp[World.setCell],fun k _ hne=>by
  have:g≠k:=fun e=>hne (by rw[e]);simp[World.setCell,Array.getElem?_modify,this]⟩
theorem nK{w w' w'':World}{r:Option Nat}(h:w.grownBy w' r)(h':w'.grownBy w'' r):w.grownBy w'' r:=
 ⟨h'.os.trans h.os,h'.tape.trans h.tape,h'.output.trans h.output,Vj h.size h'.size,fun k hk hne=>(h'.block k (UY hk h.size) hne).trans (h.block k hk hne)⟩
theorem jY(g:Nat):∀(vs:List Value)(o:Nat)(w:World),w.grownBy (w.setCells g o vs) (some g)
 | [],_,w=>⟨rfl,rfl,rfl,UU _,fun _ _ _=>rfl⟩
 | v :: vs,o,w=>nK (xD w g o v) (jY g vs (o+1) _)
theorem ot{α:Type}{sz:Nat}:∀{vals:List (List α)} (i:Nat),(∀r∈vals,r.length=sz)->vals.flatten.take (i * sz)=(vals.take i).flatten
 | [],i,_=>by simp
 | r :: vals,0,_=>by simp
 | r :: vals,i+1,h=>by
  have hr:=h r (by simp);rw[List.flatten_cons,List.take_succ_cons,List.flatten_cons,V3,Nat.one_mul,List.take_append,hr];rw[Vg (by omega),show i * sz+sz-sz=i * sz by omega,ot i fun r hr=>h r (by simp[hr])]
theorem o7{α:Type}{sz:Nat}:∀{vals:List (List α)} (i:Nat),(∀r∈vals,r.length=sz)->vals.flatten.drop (i * sz)=(vals.drop i).flatten
 | [],i,_=>by simp
 | r :: vals,0,_=>by simp
 | r :: vals,i+1,h=>by
  have hr:=h r (by simp);rw[List.flatten_cons,List.drop_succ_cons,V3,Nat.one_mul,List.drop_append,hr];rw[WG (by omega),show i * sz+sz-sz=i * sz by omega,VR,o7 i fun r hr=>h r (by simp[hr])]
theorem Cm(vals:List (List Value))(i:Nat)(hi:i<vals.length)(h2:∀r∈vals,r.length=2/\∀x∈r,x.oneCell'=true):Te Tryz.prog 111 114 2 vals [.int .i64 (i:Int),.int .i64 ((i+1:Nat):Int)] (vals.eraseIdx i):=by
 refine⟨ca Tryz.func111 rfl (by decide),fun w v base hown=>?_⟩;obtain⟨hl,hown⟩:=hown;rcases hown with ⟨_,h0⟩|⟨g,cap,cur,rfl,hb,hg,hcn,hm,hcs,htk⟩
 .omega
 have hlen:vals.flatten.length=vals.length * 2:=by
  have:=jt _root_.id 2 vals (fun r hr=>(h2 r hr).1)
  rwa [Xx] at this
 have h2':∀r∈vals,r.length=2:=fun r hr=>(h2 r hr).1;have hlt:=(Vm.1 hg).1;refine(BE w g cap vals.length i cur hg hcs hcn (by simpa[maxLen] using hm) hi (fun x hx=>?_)).mono ?_
 .rw [htk] at hx;obtain⟨r,hr,hx⟩:=List.mem_flatten.1 hx;exact(h2 r hr).2 x hx
 rintro ex w' ⟨rfl,rfl⟩
 have hnews:((cur.toList.drop ((i+1) * 2)).take ((vals.length-1-i) * 2))=(vals.drop (i+1)).flatten:=by
  rw[<- o7 (i+1) h2',<- htk,List.drop_take]
  congr 1
  omega
 rw[hnews]
 have hnl:(vals.drop (i+1)).flatten.length=(vals.length-(i+1)) * 2:=by
  have:=jt _root_.id 2 (vals.drop (i+1)) (fun r hr=>h2' r (Wa hr));rw[Xx] at this;rw[this,VO]
 obtain⟨c1,hc1,hc1'⟩:=g7 (vals.drop (i+1)).flatten (i * 2) w.drew cur hg (by omega)
 have hs1:c1.size=cur.size:=by
  have:=congrArg List.length hc1';simp only[VI,UW,U2,VO] at this;omega
 obtain⟨c2,hc2,hc2'⟩:=g7 [.bool false,.int .i64 0] ((vals.length-1) * 2) _ c1 hc1 (by simp;omega)
 have hs2:c2.size=cur.size:=by
  have:=congrArg List.length hc2';simp only[VI,UW,U2,VO,Vl,Wd] at this;omega
 have htake:c2.toList.take ((vals.length-1) * 2)=(vals.eraseIdx i).flatten:=by
  rw[hc2',Vw,VX (by simp;omega),List.take_take,Nat.min_self,hc1',Vw]
  have e1:cur.toList.take (i * 2)=(vals.take i).flatten:=by
   rw[<- ot i h2',<- htk,List.take_take,Xw (by omega)]
  rw[e1,<- Vw,<- List.flatten_append,<- Ws]
  have e2:(vals.eraseIdx i).flatten.length=(vals.length-1) * 2:=by
   have:=jt _root_.id 2 (vals.eraseIdx i) (fun r hr=>h2' r (List.mem_of_mem_eraseIdx hr));rw[Xx] at this;rw[this,List.length_eraseIdx_of_lt hi]
  rw[VX (by omega),Vg (by omega)]
 have hel:(vals.eraseIdx i).length=vals.length-1:=List.length_eraseIdx_of_lt hi;refine⟨_,rfl,?_,?_,rfl⟩
 .rw [hel];refine⟨?_,.inr ⟨g,cap,c2,rfl,hb,hc2,by omega,hm,by omega,htake⟩⟩;have e3:c2.toList.length=cur.size:=by rw[VI,hs2]
  rw[<- htake,U2,e3];omega
 .exact nK (w':=w.drew) ⟨rfl,rfl,rfl,UU _,fun _ _ _=>rfl⟩ (nK (jY g _ _ _) (jY g _ _ _))
end
section
theorem yR(l:List (Bool×Int)):i5 (l.map fun p=>[Value.bool p.1,Value.int .i64 p.2])=l.map gk:=by
 simp[i5]
theorem Pj{st:aj}{id:Nat}{l:List (Bool×Int)}{i:Nat}{K:AV->aj->Prop}(hid:st.tab.get id=some (.row 114 2 (l.map gk)))(hi:i<l.length)
  (hk:K (.osl st.next) ⟨st.n,st.env,bO st.tab st.next (some id) (.row 114 2 ((l.eraseIdx i).map gk)),st.next+1⟩):gb none Tryz.prog st 111 [.osl id,eI (i:Int),eI ((i+1:Nat):Int)] K:=by
 refine .inr (.inl ⟨rfl,.inl (.inl ⟨id,114,2,l.map (fun p=>[Value.bool p.1,Value.int .i64 p.2]),[.int .i64 (i:Int),.int .i64 ((i+1:Nat):Int)],(l.eraseIdx i).map (fun p=>[Value.bool p.1,Value.int .i64 p.2]),rfl,by rw[yR];exact hid,?_,?_,by rw[yR];exact hk⟩)⟩)
 .have:=Cm (l.map fun p=>[Value.bool p.1,Value.int .i64 p.2]) i (by simpa using hi) (fun r hr=>by
   obtain⟨p,_,rfl⟩:=U3.1 hr;exact⟨rfl,fun x hx=>by simp at hx;rcases hx with rfl|rfl<;>rfl⟩)
  rwa [Ws,<- List.map_take,<- List.map_drop,<- Vc,<- Ws] at this
 .intro r hr;obtain⟨p,_,rfl⟩:=U3.1 hr;exact⟨rfl,fun x hx=>by simp at hx;rcases hx with rfl|rfl<;>rfl⟩
theorem GK(m:aJ)(x y:Bool×Int)(hf:jN m)(hp:∀p∈m.stages,aA p.2):am Tryz.prog 109 [.agg (gk y),.rp (aC m),.rp (gk x)] (val (.bool (gt m x y))):=by
 obtain⟨bx,nx⟩:=x;obtain⟨b,n⟩:=y;refine aa ag Tryz.func109 rfl (by decide) Tryz.ntmps109 Tryz.results109 rfl (aD _) ?_
 repeat' first|refine go ?_|decide|refine sp ?_ ?_<;>intro _
 refine al (FP m bx nx b n hf hp) ?_
 repeat' first|refine go ?_|decide|refine sp ?_ ?_<;>intro _
theorem KZ(m:aJ)(x:Bool×Int)(left:List (Bool×Int))(hl:left.length<=1000000)(hf:jN m)(hp:∀p∈m.stages,aA p.2):am Tryz.prog 107 [.agg (gk x),.rp [.sl 2 (left.map gk)],.rp (aC m)] (val (.bool (!left.any (gt m x)))):=by
 refine aa ag Tryz.func107 rfl (by decide) Tryz.ntmps107 Tryz.results107 rfl (aD _) ?_
 repeat' first|refine go ?_|decide|refine sp ?_ ?_<;>intro _
 refine al (xO 109 [.rp (aC m),.rp (gk x)] left (gt m x) hl ⟨trivial,trivial,trivial⟩ fun y _=>GK m x y hf hp) ?_
 repeat' first|refine go ?_|decide|refine sp ?_ ?_<;>intro _
theorem HT{α β:Type}(f:α -> β)(l:List α)(j:Nat):(l.map f).eraseIdx j=(l.eraseIdx j).map f:=by
 rw[Ws,Ws,Vc,List.map_take,List.map_drop]
def dA(m:aJ)(js:List Nat):List Nat:=(List.range (kc m)).filter fun i=>decide (i∉js)
theorem fL{m:aJ}{js:List Nat}{i:Nat}:i∈dA m js↔i<kc m/\i∉js:=by simp[dA]
theorem DE(m:aJ)(js:List Nat):(dA m js).Pairwise (· < ·):=List.Pairwise.filter _ (List.pairwise_lt_range)
theorem IA(m:aJ):Hs m=(List.range (kc m)).map (co m):=by
 unfold Hs kc;rw[List.range_add,Vc]
 congr 1
 .refine WA fun k hk=>?_;rw[Ic (by simpa using hk)]
 .rw [Xt];refine WA fun k hk=>?_;show _=co m (m.guards.length+k);rw[GU (by omega),show m.guards.length+k-m.guards.length=k by omega]
theorem Dy{m:aJ}{js:List Nat}{j:Nat}(hj:j<(dA m js).length):(dA m js).eraseIdx j=dA m (js ++ [(dA m js)[j]]):=by
 have hnd:(dA m js).Nodup:=(DE m js).imp fun h=>Nat.ne_of_lt h
 have h1:(dA m js).eraseIdx j=(dA m js).erase (dA m js)[j]:=by
  rw[List.erase_eq_eraseIdx_of_idxOf (hnd.idxOf_getElem j hj)]
 rw[h1,hnd.erase_eq_filter];obtain⟨v,hv⟩:∃v,v=(dA m js)[j]:=⟨_,rfl⟩;rw[<- hv];clear hv h1;unfold dA;rw[List.filter_filter];refine List.filter_congr fun x _=>?_;rw[Wl];simp;constructor
 .rintro ⟨h1,h2⟩;exact⟨h2,h1⟩
 .rintro ⟨h1,h2⟩;exact⟨h2,h1⟩
theorem HF{m:aJ}{js:List Nat}{j:Nat}(hj:j<(dA m js).length)(h:∀k∈dA m js,fE m (dA m js)[j] k=false)(hf:∀i (hi:i<j),∃k∈dA m js,fE m ((dA m js)[i]'(by omega)) k=true):nc m js (dA m js)[j]:=by
 have hm:=fL.1 (UQ hj);refine⟨hm.1,⟨hm.2,fun k hk=>?_⟩,fun i' hi' hF=>?_⟩
 .by_cases hkj:k∈js
  .exact .inl hkj
  .exact .inr (h k (fL.2 ⟨hk,hkj⟩))
 .have hl:i' ∈dA m js:=fL.2 ⟨by omega,hF.1⟩;obtain⟨p,hp,he⟩:=U8 hl
  have hpj:p<j:=by
   refine Classical.byContradiction fun hn=>?_;rcases U9 j p with h2|h2
   .have:=(Vo.1 (DE m js)) j p hj hp h2;omega
   .obtain rfl:p=j:=by omega
    omega
  obtain⟨k,hk,hw⟩:=hf p hpj;rw[he] at hw;have hk2:=fL.1 hk;rcases hF.2 k hk2.1 with h3|h3
  .exact hk2.2 h3
  .rw [hw] at h3;cases h3
theorem zg(m:aJ):dA m []=List.range (kc m):=by
 unfold dA;rw[List.filter_eq_self];simp
theorem Ls(m:aJ)(js0:List Nat)(hf:jN m)(hp:∀p∈m.stages,aA p.2)(hj0:js0.length=kc m)(hgr:nW m js0):am Tryz.prog 58 [.agg (aC m)] ⟨.tup [.osl 0,eI 0],[(0,some (.row 114 2 ((js0.map (co m)).map gk)))],1⟩:=by
 refine aa ag Tryz.func58 rfl (by decide) Tryz.ntmps58 Tryz.results58 rfl (fR (by simp[bX,aB.lt,AV.ltL,AV.lt]) (by simp[AV.lt,AV.ltL])) ?_;obtain⟨hg,hm,-⟩:=id hf.sizes;have hnS:kc m<=24:=by unfold kc;omega
 have hall:(Hs m).length<=24:=by rw[IA];simpa using hnS
 repeat' first|refine go ?_|decide|refine sp ?_ ?_<;>intro _
 refine dg (NI m (by omega) (by omega)) (.inr jM) ?_
 repeat' first|refine go ?_|decide|refine sp ?_ ?_<;>intro _
 have hA0:(Hs m).map gk=((dA m []).map (co m)).map gk:=by rw[IA,zg]
 refine af (fun st=>∃(k:Nat),(k<=js0.length/\(dA m (js0.take k)).length+k=kc m)/\st=⟨30,[(1,.op 0 0 0),(4,.op 2 0 0),(5,.osl 3)],[(0,some (.box 32 (aC m))),(1,some (.row 114 2 (((dA m (js0.take k)).map (co m)).map gk))),(2,some (.box 30 [.osl 1])),(3,some (.row 114 2 (((js0.take k).map (co m)).map gk)))],4⟩) (fun st=>ow st 1) ⟨_,((bq 5 114 2 (by simp only[iC,aj.get,aX,aj.put,↓reduceIte,reduceCtorEq,Nat.reduceLT,Nat.reduceEqDiff,Nat.reduceAdd,Nat.reduceLeDiff,eq_self,implies_true,Vn,Va,hA0])).trans (wS [0,1,2,3] (kf @Va hA0))),0,⟨UR _,by rw[Va,zg,List.length_range];rfl⟩,rfl⟩ ?_;rintro _ ⟨k,⟨hk,hkn⟩,rfl⟩;obtain⟨js,hjs⟩:∃js,js=js0.take k:=⟨_,rfl⟩;have hjl:js.length=k:=by rw[hjs,U2];omega
 rw[<- hjs];obtain⟨L,hL⟩:∃L,L=dA m js:=⟨_,rfl⟩
 have hLl:L.length<=24:=by
  have:=WN (fun i=>decide (i∉js)) (List.range (kc m));rw[List.length_range] at this;rw[hL];unfold dA;omega
 have hLm:(L.map (co m)).length=L.length:=Vd ..;rw[<- hjs,<- hL] at hkn;rw[<- hL];by_cases hlt:k<js0.length
 .have hnx:nc m js js0[k]:=by rw[hjs];exact hgr k hlt
  have hin:js0[k]∈L:=by rw[hL];exact fL.2 ⟨hnx.lt,hnx.free.1⟩
  have hpos:0<L.length:=List.length_pos_of_mem hin;have hltI:decide ((0:Int)<(L.length:Int))=true:=by simp;omega
  repeat' first|refine ge (kf @hltI @hLm) ?_|decide|refine sp ?_ ?_<;>intro _
  refine al (uF 107 [.rp [.sl 2 ((L.map (co m)).map gk)],.rp (aC m)] (L.map (co m)) (fun x=>!(L.map (co m)).any (gt m x)) (by rw[hLm];omega) ⟨trivial,trivial,trivial⟩ fun x _=>KZ m x (L.map (co m)) (by rw[hLm];omega) hf hp) ?_
  have hwn:∀x∈L,((L.map (co m)).any (gt m (co m x))=true↔ ∃y∈L,fE m x y=true):=fun x hx=>by
   rw[WS];constructor
   .rintro ⟨y,hy,hw⟩;obtain⟨z,hz,rfl⟩:=U3.1 hy;rw[AM (fL.1 (hL ▸ hx)).1 (fL.1 (hL ▸ hz)).1] at hw;exact⟨z,hz,hw⟩
   .rintro ⟨y,hy,hw⟩;refine⟨co m y,List.mem_map_of_mem hy,?_⟩;rw[AM (fL.1 (hL ▸ hx)).1 (fL.1 (hL ▸ hy)).1];exact hw
  rcases tZ (fun x=>!(L.map (co m)).any (gt m x)) (L.map (co m)) with ⟨h1,h2⟩|⟨j,hj,h1,h2,h3⟩
  .exfalso;have h4:=h2 _ (List.mem_map_of_mem hin);simp only[Bool.not_eq_false'] at h4;obtain⟨y,hy,hw⟩:=(hwn _ hin).1 h4;have hy2:=fL.1 (hL ▸ hy);rcases hnx.free.2 y hy2.1 with h5|h5
   .exact hy2.2 h5
   .rw [hw] at h5;cases h5
  .have hjL:j<L.length:=by rw[hLm] at hj;exact hj
   have hLj:(L.map (co m))[j]=co m L[j]:=by simp
   have hnx2:nc m js L[j]:=by
    have key:nc m js ((dA m js)[j]'(by rw[<- hL];exact hjL)):=HF (by rw[<- hL];exact hjL) (fun y hy=>by
     have h4:¬(L.map (co m)).any (gt m (co m L[j]))=true:=by
      rw[hLj] at h2;simpa using h2
     rw[hwn _ (UQ hjL)] at h4;have h5:¬fE m L[j] y=true:=fun h=>h4 ⟨y,hL ▸ hy,h⟩;have h6:fE m L[j] y=false:=(by simpa using h5);simpa only[hL] using h6) (fun i hi=>by
     have h4:=h3 i hi;simp only[Xq,Bool.not_eq_false'] at h4;obtain⟨y,hy,hw⟩:=(hwn _ (UQ (show i<L.length by omega))).1 h4;exact⟨y,hL ▸ hy,by simpa only[hL] using hw⟩)
    simpa only[hL] using key
   have hje:L[j]=js0[k]:=hnx2.uniq hnx;have e0:decide ((j:Int)<0)=false:=(by simp);have ew:IntKind.i64.wrap ((j:Int)+1)=((j+1:Nat):Int):=by rw[aE (by omega) (by omega)];rfl
   rw[h1];have htk:js0.take (k+1)=js ++ [L[j]]:=(by rw[hje,hjs,U0 hlt])
   have hE:(L.map (co m)).eraseIdx j=(dA m (js0.take (k+1))).map (co m):=by
    rw[HT,htk];have:=Dy (m:=m) (js:=js) (j:=j) (by rw[<- hL];exact hjL);simp only[<- hL] at this;rw[this]
   have hE1:(((L.map (co m)).eraseIdx j).map gk)=((dA m (js0.take (k+1))).map (co m)).map gk:=(by rw[hE]);have et:(((js0.take (k+1)).map (co m)).map gk)=(js.map (co m)).map gk ++ [gk (co m L[j])]:=by rw[htk,Vc,Vc];rfl
   have hjs1:(js.map (co m)).length=k:=(by rw[Vd,hjl]);have hra:((L.map (co m)).map gk)[j]?.getD []=gk (co m L[j]):=(by simp[hjL])
   repeat' first|refine ge (kf e0 (kf @hra (kf @hjL @hLm))) ?_|decide|refine sp ?_ ?_<;>intro _
   refine⟨rfl,by omega,?_⟩;rw[ew];refine Pj (l:=L.map (co m)) (by simp[ae.gc]) hj ?_
   repeat' first|refine ge e0 ?_|decide|refine sp ?_ ?_<;>intro _
   have hel:((L.map (co m)).eraseIdx j).length+1=L.length:=by rw[List.length_eraseIdx_of_lt hj,hLm];omega
   rw[hE] at hel;rw[Vd] at hel;exact gv (wS [0,6,2,5] (kf et hE1)) ⟨k+1,⟨by omega,by omega⟩,rfl⟩ (by simp only[ow,ae.gc];simp;omega)
 .obtain rfl:k=js0.length:=by omega
  rw[U6] at hjs;have hL0:L=[]:=VW (by omega);have hltI:decide ((0:Int)<(L.length:Int))=false:=U5 (by rw[hL0];simp)
  repeat' first|refine ge (kf @hltI @hLm) ?_|decide|refine sp ?_ ?_<;>intro _
  rw[hjs];exact⟨[3],by simp,rfl,⟨WK,⟨_,_,_,rfl⟩,by simp[ae.gc]⟩,trivial⟩
end
section
theorem Ug{vs:Array Value}(h:vs.size=1):∃a,vs = #[a]:=⟨vs[0],by apply XB (by simpa using h);intro i h1 h2;simp at h2;match i with|0=>rfl⟩
theorem Fb(l:List Int)(hl:l.length<=1073741824)(ho:∀x∈l,aA x):am Tryz.prog 55 [sI l] (val (.int .i64 (dW l))):=
 cg (ca Tryz.func55 rfl (by decide)) fun S w vs hS hn hv=>by
  obtain⟨a,rfl⟩:=Ug (by simpa using hn);exact B3 l a w hl (mL (hv 0 a _ rfl rfl) hS ho)
theorem QI(m:aJ)(h:TF m):am Tryz.prog 52 [.agg (aC m)] (val (.bool true)):=by
 refine aa ag Tryz.func52 rfl (by decide) Tryz.ntmps52 Tryz.results52 rfl (aD _) ?_;have d1:decide ((m.attrs.length:Int)<=5)=true:=Vb (by have:=h.attrs;omega);have d2:((m.inits.length:Int) == (m.attrs.length:Int))=true:=by simp[h.inits]
 have d3:decide ((m.users.length:Int)<=4)=true:=Vb (by have:=h.users;omega);have d4:decide ((m.roles.length:Int)<=4)=true:=Vb (by have:=h.roles;omega);have d5:decide ((m.stages.length:Int)<=8)=true:=Vb (by have:=h.stages;omega);have d6:decide ((m.events.length:Int)<=6)=true:=Vb (by have:=h.events;omega);have d7:decide ((m.guards.length:Int)<=12)=true:=Vb (by have:=h.guards;omega);have d8:decide ((m.miles.length:Int)<=8)=true:=Vb (by have:=h.miles;omega);have d9:decide ((m.sods.length:Int)<=6)=true:=Vb (by have:=h.sods;omega)
 repeat' first|refine gf (kf d1 (kf d2 (kf d3 (kf d4 (kf d5 (kf d6 (kf d7 (kf d8 d9)))))))) ?_|decide|refine sp ?_ ?_<;>intro _
theorem qx(n m:Int):am Tryz.prog 99 [eI n,eI m] (val (.bool (df n m))):=by
 refine aa ag Tryz.func99 rfl (by decide) Tryz.ntmps99 Tryz.results99 rfl (aD _) ?_;unfold df;by_cases g:0<=n
 .have d1:decide (0<=n)=true:=Vb g
  repeat' first|refine gf (kf d1 @VC) ?_|decide|refine sp ?_ ?_<;>intro _
 .have d1:decide (0<=n)=false:=U5 g
  repeat' first|refine gf (kf d1 @VK) ?_|decide|refine sp ?_ ?_<;>intro _
theorem H6(l:List Ev)(hl:l.length<=1000)(hs:∀e∈l,e.sets.length<=10)(hw:k6 l)(h4:jh l<=4):am Tryz.prog 54 [.sl 5 (l.map t9)] (val (.bool true)):=by
 refine aa ag Tryz.func54 rfl (by decide) Tryz.ntmps54 Tryz.results54 rfl (aD _) ?_
 repeat' first|refine go ?_|decide|refine sp ?_ ?_<;>intro _
 refine af (fun st=>∃k:Nat,k<=l.length/\st=⟨42,[(3,eI (jh (l.take k))),(6,.sl 5 (l.map t9)),(7,eI (l.length:Int)),(8,eI (k:Int))],[],0⟩) (fun st=>l.length-ax st 8) ⟨_,(wE (kf @Va @Bk)),0,UR _,rfl⟩ ?_;rintro _ ⟨k,hk,rfl⟩;have hbd:=nH hs k hk fun i h h2=>⟨(hw.each i h).1,(hw.each i h).2.1⟩;by_cases hlt:k<l.length
 .obtain ⟨g1,g2,g3⟩:=hw.each k hlt;have h2:=hs _ (UQ hlt);have h3:0<=l[k].times * (l[k].sets.length:Int):=Int.mul_nonneg g1 (by omega);have h4:l[k].times * (l[k].sets.length:Int)<=3 * 10:=Int.mul_le_mul g2 (by omega) (by omega) (by omega);have e1:IntKind.i64.wrap (l[k].times * (l[k].sets.length:Int))=l[k].times * (l[k].sets.length:Int):=aE (by omega) (by omega)
  have e2:IntKind.i64.wrap (jh (l.take k)+l[k].times * (l[k].sets.length:Int))=jh (l.take (k+1)):=by
   rw[jc hlt];exact aE (by omega) (by omega)
  have d1:decide (l[k].times<0)=false:=U5 (by omega);have d2:decide (3<l[k].times)=false:=U5 (by omega);by_cases hz:l[k].times=0
  .have d3:(l[k].times == 0)=true:=(by simp[hz]);have d4:decide (0<(l[k].sets.length:Int))=false:=U5 (by have:=g3 hz;omega);have d5:decide (0<l[k].sets.length)=false:=U5 (by have:=g3 hz;omega)
   repeat' first|refine gq ?_|simp only[ab,hlt,d1,d2,d3,d4,d5,e1]|decide|refine sp ?_ ?_<;>intro _
   all_goals exact rI (wE (kf e1 e2)) ⟨k+1,by omega,rfl⟩
  .have d3:(l[k].times == 0)=false:=by simp[hz]
   repeat' first|refine gq ?_|simp only[ab,hlt,d1,d2,d3,e1]|decide|refine sp ?_ ?_<;>intro _
   all_goals exact rI (wE (kf e1 e2)) ⟨k+1,by omega,rfl⟩
 .obtain rfl:k=l.length:=by omega
  rw[U6];have d6:decide (jh l<=4)=true:=Vb h4
  repeat' first|refine gf (kf @hlt d6) ?_|decide|refine sp ?_ ?_<;>intro _
theorem Co(m:aJ)(hl:m.stages.length<=1000000):am Tryz.prog 56 [.agg (aC m)] (gl 3 1 ((pars m).map fun n=>[eI n])):=by
 refine aa ag Tryz.func56 rfl (by decide) Tryz.ntmps56 Tryz.results56 rfl (cW _ _ _) ?_
 repeat' first|refine go ?_|decide|refine sp ?_ ?_<;>intro _
 refine af (fun st=>∃k:Nat,k<=m.stages.length/\st=⟨20,[(1,.op 0 0 0),(3,.osl 1),(7,.sl 2 (m.stages.map Mq)),(8,eI (m.stages.length:Int)),(9,eI (k:Int))],[(0,some (.box 32 (aC m))),(1,some (.row 3 1 ((m.stages.take k).map fun p=>[eI p.2])))],2⟩) (fun st=>m.stages.length-ax st 9) ⟨_,((bq 3 3 1 (by simp only[iC,aj.get,aX,aj.put,↓reduceIte,reduceCtorEq,Nat.reduceLT,Nat.reduceEqDiff,Nat.reduceAdd,Nat.reduceLeDiff,eq_self,implies_true,Va,Vn])).trans (wS [0,1] @Va)),0,UR _,rfl⟩ ?_;rintro _ ⟨k,hk,rfl⟩;by_cases hlt:k<m.stages.length
 .have et:(m.stages.take (k+1)).map (fun p=>[eI p.2])=(m.stages.take k).map (fun p=>[eI p.2]) ++ [[eI m.stages[k].2]]:=dm _ _ hlt
  repeat' first|refine go ?_|simp only[ab,hlt]|decide|refine sp ?_ ?_<;>intro _
  refine⟨rfl,by simp only[U2];omega,rI (wS [0,4] et) ⟨k+1,by omega,rfl⟩⟩
 .obtain rfl:k=m.stages.length:=by omega
  repeat' first|refine go ?_|simp only[ab,hlt]|decide|refine sp ?_ ?_<;>intro _
  exact aV (by simp[ae.gc,pars])
theorem JY(l:List (Bool×Int))(hl:l.length<=1000000):am Tryz.prog 59 [.sl 2 (l.map gk),.sl 2 (l.map gk)] (val (.bool true)):=by
 refine aa ag Tryz.func59 rfl (by decide) Tryz.ntmps59 Tryz.results59 rfl (aD _) ?_;have q:((l.length:Int) != (l.length:Int))=false:=by simp
 repeat' first|refine ge q ?_|decide|refine sp ?_ ?_<;>intro _
 refine af (fun st=>∃k:Nat,k<=l.length/\st=⟨26,[(0,.sl 2 (l.map gk)),(1,.sl 2 (l.map gk)),(12,eI (l.length:Int)),(13,eI (k:Int))],[],0⟩) (fun st=>l.length-ax st 13) ⟨_,wC,0,UR _,rfl⟩ ?_;rintro _ ⟨k,hk,rfl⟩;by_cases hlt:k<l.length
 .repeat' first|refine go ?_|simp only[ab,hlt]|decide|refine sp ?_ ?_<;>intro _
  refine ay (by kernel_rfl) ?_
  repeat' first|refine go ?_|simp only[ab,hlt]|decide|refine sp ?_ ?_<;>intro _
  refine⟨_,u4 .neq (.inr rfl) l[k] l[k],?_⟩;have e0:(!(l[k].1 == l[k].1 && l[k].2 == l[k].2))=false:=by simp
  repeat' first|refine ge e0 ?_|decide|refine sp ?_ ?_<;>intro _
  exact rI wC ⟨k+1,by omega,rfl⟩
 .repeat' first|refine go ?_|simp only[ab,hlt]|decide|refine sp ?_ ?_<;>intro _
def kp(l:List Int):Nat:=l.foldl (fun n a=>n ||| 2 ^ a.toNat) 0
theorem Ir:kp []=0:=rfl
theorem pC{l:List Int}{k:Nat}(h:k<l.length):kp (l.take (k+1))=kp (l.take k) ||| 2 ^ l[k].toNat:=by
 unfold kp;rw[U0 h,List.foldl_append];rfl
theorem D5{l:List Int}:∀k,k<=l.length->(∀i (h:i<l.length),l[i].toNat<5)->kp (l.take k)<2 ^ 5
 | 0,_,_=>by simp[kp]
 | k+1,hk,h=>by
  rw[pC (by omega)];exact Wq (D5 k (by omega) h) (Wg (by omega) (h k (by omega)))
theorem yl{l:List Int}(j:Nat):∀k,k<=l.length->(kp (l.take k)).testBit j=true->∃i,∃h:i<l.length,i<k/\l[i].toNat=j
 | 0,_,h=>by simp[kp] at h
 | k+1,hk,h=>by
  rw[pC (by omega),Nat.testBit_or,Wb] at h;rcases h with h|h
  .obtain ⟨i,h1,h2,h3⟩:=yl j k (by omega) h;exact⟨i,h1,by omega,h3⟩
  .rw [Nat.testBit_two_pow] at h;exact⟨k,by omega,by omega,of_decide_eq_true h⟩
theorem Th:∀n:Fin 32,∀a:Fin 5,bits .and .i64 (((n.val:Nat):Int).fdiv (2 ^ min (((a.val:Nat):Int).toNat) IntKind.i64.bits)) 1=(if n.val.testBit a.val then 1 else 0)/\bits .or .i64 ((n.val:Nat):Int) (IntKind.i64.wrap (1 * 2 ^ min (((a.val:Nat):Int).toNat) IntKind.i64.bits))=(((n.val ||| 2 ^ a.val):Nat):Int):=by decide +kernel
theorem AO(m:aJ)(e:Ev)(ha:m.attrs.length<=5)(hs:e.sets.length<=10)(h:xg m e):am Tryz.prog 100 [.agg (aC m),.agg (t9 e)] (val (.bool true)):=by
 refine aa ag Tryz.func100 rfl (by decide) Tryz.ntmps100 Tryz.results100 rfl (aD _) ?_;obtain⟨h1,h2,h3⟩:=h
 have h5:∀i (hi:i<e.sets.length),e.sets[i].toNat<5/\0<=e.sets[i]:=fun i hi=>by
  have:=(h3 i hi).1;simp only[df,U1,U7] at this;omega
 repeat' first|refine go ?_|decide|refine sp ?_ ?_<;>intro _
 refine af (fun st=>∃k:Nat,k<=e.sets.length/\st=⟨47,[(2,.op 0 0 0),(3,.op 1 0 0),(5,eI (kp (e.sets.take k):Int)),(9,sI e.sets),(10,eI (e.sets.length:Int)),(11,eI (k:Int))],[(0,some (.box 32 (aC m))),(1,some (.box 67 (t9 e)))],2⟩) (fun st=>e.sets.length-ax st 11) ⟨_,(ja (by(first|((simp only[gu,lz,cU,bX,aB.lt,AV.lt,AV.ltL,iC,aj.get,aX,aj.put,↓reduceIte,reduceCtorEq,Nat.reduceLT,Nat.reduceEqDiff,Nat.reduceAdd,Nat.reduceLeDiff,eq_self,implies_true,Va,Ir])<;>(repeat' apply And.intro)<;>first|(rw[jx (by omega)];done)|(simp;done)|omega)|fail))),0,UR _,rfl⟩ ?_;rintro _ ⟨k,hk,rfl⟩;by_cases hlt:k<e.sets.length
 .have hmk:=D5 k hk fun i hi=>(h5 i hi).1
  have hnb:(kp (e.sets.take k)).testBit e.sets[k].toNat=false:=by
   rw[VA];intro hb;obtain⟨i,hi,hik,he⟩:=yl _ k hk hb;have g1:=(h5 i hi).2;have g2:=(h5 k hlt).2;exact(h3 k hlt).2 i hik (by omega)
  have hsn:=pC hlt;obtain⟨a,ha5,hae⟩:∃a:Nat,a<5/\e.sets[k]=(a:Int):=⟨e.sets[k].toNat,(h5 k hlt).1,by have:=(h5 k hlt).2;omega⟩;have hin:=qx (a:Int) m.attrs.length;rw[show df (a:Int) m.attrs.length=true by rw[<- hae];exact(h3 k hlt).1] at hin;rw[hae] at hnb hsn;rw[VD] at hnb hsn;have hb:=Th ⟨kp (e.sets.take k),hmk⟩ ⟨a,ha5⟩;rw[UX (by rw[hnb];simp),<- hsn] at hb;obtain⟨b1,b2⟩:=hb;rw[VD] at b1 b2;have q0:((a:Int)<0)=False:=by simp
  have q1:((0:Int) == 1)=false:=rfl;obtain⟨n2,hn2⟩:∃n2,n2=kp (e.sets.take (k+1)):=⟨_,rfl⟩;rw[<- hn2] at b2;clear hsn;generalize kp (e.sets.take k)=n at *
  repeat' first|refine gq ?_|simp only[ab,hlt,hae,q0,b1,b2,q1]|decide|refine sp ?_ ?_<;>intro _|refine cA hin ?_|fail
  all_goals exact rI (wE hn2) ⟨k+1,by omega,rfl⟩
 .obtain rfl:k=e.sets.length:=by omega
  have hi1:=qx e.role m.roles.length;have hi2:=qx e.stage m.stages.length;rw[h1] at hi1;rw[h2] at hi2
  repeat' first|refine gf @hlt ?_|decide|refine sp ?_ ?_<;>intro _|refine cA hi1 ?_|refine cA hi2 ?_|fail
end
section
theorem IC{w:World}{S:Nat->Prop}{v:Value}{l:List Int}(h:RT w S v (.sl 9 (l.map iP)))(hl:∀x∈l,aA x):∃L:List fa,L.map fa.op=l/\(aP t0).one w S v L:=by
 refine⟨l.map fun o=>⟨o,⟨#[]⟩,0,⟨#[]⟩,0,⟨#[]⟩,⟨#[]⟩,0,0⟩,by simp[Function.comp_def],?_⟩;obtain⟨A,cap,rfl,hc,hm,_,hA⟩:=h.sl_inv;refine⟨A,cap,by simp,by simpa using hc,hm,fun h0=>?_⟩;obtain⟨b,o,rfl,hb,U,hcell,hr,_⟩:=hA (by simpa using h0);refine⟨b,o,rfl,hb,fun i hi=>⟨(l.map fun o=>(⟨o,⟨#[]⟩,0,⟨#[]⟩,0,⟨#[]⟩,⟨#[]⟩,0,0⟩:fa))[i].cells,fun j u hu=>?_,rfl,?_⟩⟩
 .have hi':i<l.length:=by simpa using hi
  have h1:(l.map iP)[i]? = some (iP l[i]):=by simp[hi']
  have h3:∀(j:Nat)(u:Value),(⟨l[i],⟨#[]⟩,0,⟨#[]⟩,0,⟨#[]⟩,⟨#[]⟩,0,0⟩:fa).cells[j]? = some u->(iP l[i])[j]? = some (AV.c u):=by
   intro j u hu;unfold fa.cells at hu
   match j with
   | 0|1|2|3|4|5|6|7|8=>simp at hu;subst hu;rfl
   | j+9=>simp at hu
  have h4:=h3 j u (by simpa using hu);have h2:=hcell i j _ _ h1 h4;rw[y4 (hr i j _ _ h1 h4)] at h2;exact h2
 .have hi':i<l.length:=by simpa using hi
  have:=hl _ (UQ hi');have z:aA 0:=by simp[aA]
  have e:(ByteArray.size ⟨#[]⟩)<=9223372036854775807:=by decide
  rw[Xq];exact⟨this,z,z,z,z,e,e,e,e⟩
theorem yn(l:List Int)(hl:∀x∈l,aA x):am Tryz.prog 174 [qG l] (val (.int .i64 (bF l))):=
 cg (ca Tryz.func174 rfl (by decide)) fun S w vs hS hn hv=>by
  obtain⟨a,rfl⟩:=Ug (by simpa using hn);obtain⟨L,h1,h2⟩:=IC (hv 0 a _ rfl rfl) hl;have:=qm L a S w h2 hS.sub;rw[h1] at this;exact this
theorem xq{l:List Int}:∀row∈l.map iP,∀av∈row,AV.plain av:=fun row hr av ha=>by
 obtain⟨x,_,rfl⟩:=U3.1 hr;simp only[VL,List.not_mem_nil,or_false] at ha;rcases ha with rfl|rfl|rfl|rfl|rfl|rfl|rfl|rfl|rfl<;>trivial
theorem KC(l:List aw)(hl:l.length<=100000):am Tryz.prog 175 [bf l] (gl 151 9 ((l.map aw.op).map iP)):=by
 refine aa ag Tryz.func175 rfl (by decide) Tryz.ntmps175 Tryz.results175 rfl (cW _ _ _) ?_
 repeat' first|refine go ?_|decide|refine sp ?_ ?_<;>intro _
 refine af (fun st=>∃k:Nat,k<=l.length/\st=⟨20,[(3,.osl 0),(6,bf l),(7,eI (l.length:Int)),(8,eI (k:Int))],[(0,some (.row 151 9 (((l.map aw.op).take k).map iP)))],1⟩) (fun st=>l.length-ax st 8) ⟨_,((bq 3 151 9 (by simp only[iC,aj.get,aX,aj.put,↓reduceIte,reduceCtorEq,Nat.reduceLT,Nat.reduceEqDiff,Nat.reduceAdd,Nat.reduceLeDiff,eq_self,implies_true,Va,Vn])).trans (wS [0] @Va)),0,UR _,rfl⟩ ?_;rintro _ ⟨k,hk,rfl⟩;have hkl:((l.map aw.op).take k).length=k:=by simp;omega
 by_cases hlt:k<l.length
 .have et:((l.map aw.op).take (k+1)).map iP=((l.map aw.op).take k).map iP ++ [iP l[k].op]:=by
   rw[dm iP (l.map aw.op) (by simpa using hlt)];simp
  repeat' first|refine go ?_|simp only[ab,hlt]|decide|refine sp ?_ ?_<;>intro _
  refine⟨rfl,by omega,rI (wS [3] et) ⟨k+1,by omega,rfl⟩⟩
 .obtain rfl:k=l.length:=by omega
  have ef:(l.map aw.op).take l.length=l.map aw.op:=Vg (by simp)
  repeat' first|refine ge @hlt ?_|decide|refine sp ?_ ?_<;>intro _
  rw[ef];exact aV (by simp[ae.gc])
theorem qQ(op:Int):am Tryz.prog 178 [eI op] (val (.bool (decide (3<=op) && decide (op<=8)))):=by
 refine aa ag Tryz.func178 rfl (by decide) Tryz.ntmps178 Tryz.results178 rfl (aD _) ?_;by_cases g:3<=op
 .have d1:decide (3<=op)=true:=Vb g
  repeat' first|refine gf (kf d1 @VC) ?_|decide|refine sp ?_ ?_<;>intro _
 .have d1:decide (3<=op)=false:=U5 g
  repeat' first|refine gf (kf d1 @VK) ?_|decide|refine sp ?_ ?_<;>intro _
theorem Ez(m:aJ)(a n:Int):am Tryz.prog 208 [.agg [eI a,eI n],.rp (aC m)] (val (.bool (decide (-1<=a) && decide (a<(m.attrs.length:Int))))):=by
 refine aa ag Tryz.func208 rfl (by decide) Tryz.ntmps208 Tryz.results208 rfl (aD _) ?_;by_cases g:-1<=a
 .have d1:decide (-1<=a)=true:=Vb g
  repeat' first|refine gf (kf d1 @VC) ?_|decide|refine sp ?_ ?_<;>intro _
 .have d1:decide (-1<=a)=false:=U5 g
  repeat' first|refine gf (kf d1 @VK) ?_|decide|refine sp ?_ ?_<;>intro _
theorem oh(n q:Int):am Tryz.prog 209 [eI n,eI q] (val (.bool (df n q))):=by
 refine aa ag Tryz.func209 rfl (by decide) Tryz.ntmps209 Tryz.results209 rfl (aD _) ?_;unfold df;by_cases g:0<=n
 .have d1:decide (0<=n)=true:=Vb g
  repeat' first|refine gf (kf d1 @VC) ?_|decide|refine sp ?_ ?_<;>intro _
 .have d1:decide (0<=n)=false:=U5 g
  repeat' first|refine gf (kf d1 @VK) ?_|decide|refine sp ?_ ?_<;>intro _
theorem RN(m:aJ)(x:aw)(h:kT m x=true):am Tryz.prog 176 [.agg (aC m),.agg (gc x)] (val (.bool true)):=by
 refine aa ag Tryz.func176 rfl (by decide) Tryz.ntmps176 Tryz.results176 rfl (aD _) ?_;obtain⟨op,la,ln,ra,rn,n,u⟩:=x;have hC:=qQ op;unfold kT at h;by_cases g:3<=op/\op<=8
 .have e1:(decide (3<=op) && decide (op<=8))=true:=by simp;omega
  rw[e1] at hC;rw[UZ e1] at h;simp only[U1] at h;have h1:=Ez m la ln;have h2:=Ez m ra rn;rw[h.1.1.1,h.1.1.2] at h1;rw[h.1.2,h.2] at h2;simp only[Bool.and_self] at h1 h2
  repeat' first|refine gq ?_|decide|refine sp ?_ ?_<;>intro _|refine cA hC ?_|refine cA h1 ?_|refine cA h2 ?_|fail
 .have e1:(decide (3<=op) && decide (op<=8))=false:=by
   rw[Vy];by_cases g2:3<=op
   .right;simp;omega
   .left;simp;omega
  rw[e1] at hC h;simp only[VB,if_false] at h;by_cases h9:op=9
  .subst h9;simp only[Int.reduceLT,decide_false,Bool.or_self,VB,if_false,if_true,U1] at h;have h1:=oh n m.stages.length;have e2:df n m.stages.length=true:=by simp only[df,U1];exact h.1
   rw[e2] at h1;have q9:((9:Int) == 9)=true:=rfl
   repeat' first|refine gf q9 ?_|decide|refine sp ?_ ?_<;>intro _|refine cA hC ?_|refine cA h1 ?_|fail
  have q9:(op == 9)=false:=by simp[h9]
  by_cases h10:op=10
  .subst h10;simp only[Int.reduceLT,Int.reduceEq,decide_false,Bool.or_self,VB,if_false,if_true,U1] at h;have h1:=oh n m.miles.length;have e2:df n m.miles.length=true:=by simp only[df,U1];exact h.1
   rw[e2] at h1;have q10:((10:Int) == 10)=true:=rfl
   repeat' first|refine gf (kf q9 q10) ?_|decide|refine sp ?_ ?_<;>intro _|refine cA hC ?_|refine cA h1 ?_|fail
  have q10:(op == 10)=false:=by simp[h10]
  by_cases h11:op=11
  .subst h11;simp only[Int.reduceLT,Int.reduceEq,decide_false,Bool.or_self,VB,if_false,if_true,U1] at h;have h1:=oh n m.events.length;have e2:df n m.events.length=true:=by simp only[df,U1];exact h.1
   rw[e2] at h1;have q11:((11:Int) == 11)=true:=rfl
   repeat' first|refine gf (kf q9 (kf q10 q11)) ?_|decide|refine sp ?_ ?_<;>intro _|refine cA hC ?_|refine cA h1 ?_|fail
  have q11:(op == 11)=false:=by simp[h11]
  by_cases h12:op=12
  .subst h12;simp only[Int.reduceLT,Int.reduceEq,decide_false,Bool.or_self,VB,if_false,if_true,U1,bne_self_eq_false,Xn] at h;have h1:=oh n m.events.length;have e2:df n m.events.length=true:=by simp only[df,U1];exact h.1
   rw[e2] at h1;have h2:=oh u m.users.length;have e3:df u m.users.length=true:=by simp only[df,U1];exact h.2
   rw[e3] at h2;have q12:((12:Int) == 12)=true:=rfl
   repeat' first|refine gf (kf q9 (kf q10 (kf q11 q12))) ?_|decide|refine sp ?_ ?_<;>intro _|refine cA hC ?_|refine cA h1 ?_|refine cA h2 ?_|fail
  have q12:(op == 12)=false:=by simp[h12]
  repeat' first|refine gf (kf q9 (kf q10 (kf q11 q12))) ?_|decide|refine sp ?_ ?_<;>intro _|refine cA hC ?_|fail
theorem xL(m:aJ)(l:List aw)(hl:l.length<=100000)(hx:∀x∈l,x.ok)(h:PQ m l):am Tryz.prog 141 [.agg (aC m),bf l,eB false] (val (.bool true)):=by
 refine aa ag Tryz.func141 rfl (by decide) Tryz.ntmps141 Tryz.results141 rfl (aD _) ?_;have hT:=yn (l.map aw.op) (fun o ho=>by obtain⟨x,hx',rfl⟩:=U3.1 ho;exact(hx x hx').1);rw[h.1] at hT;have z0:((0:Int) != 0)=false:=rfl
 repeat' first|refine go ?_|decide|refine sp ?_ ?_<;>intro _
 refine dg (KC l hl) (.inr xq) ?_
 repeat' first|refine go ?_|decide|refine sp ?_ ?_<;>intro _
 refine al hT ?_
 repeat' first|refine ge z0 ?_|decide|refine sp ?_ ?_<;>intro _
 refine af (fun st=>∃(k:Nat),k<=l.length/\st=⟨45,[(3,.op 0 0 0),(2,eB false),(14,bf l),(15,eI (l.length:Int)),(16,eI (k:Int))],[(0,some (.box 32 (aC m)))],1⟩) (fun st=>l.length-ax st 16) ⟨_,(wR [0]),0,UR _,rfl⟩ ?_;rintro _ ⟨k,hk,rfl⟩;by_cases hlt:k<l.length
 .obtain ⟨g1,g2⟩:=h.2 k hlt;have hH:=RN m l[k] g1;by_cases g11:11<=l[k].op
  .have d1:decide (11<=l[k].op)=true:=Vb g11;have d2:decide (l[k].op<=14)=false:=U5 (by omega);have d3:decide (19<=l[k].op)=false:=U5 (by omega)
   repeat' first|refine gq ?_|simp only[ab,hlt,d1,d2,d3]|decide|refine sp ?_ ?_<;>intro _|refine cA hH ?_|fail
   all_goals exact rI (wR [0]) ⟨k+1,by omega,rfl⟩
  .have d1:decide (11<=l[k].op)=false:=U5 g11;have d3:decide (19<=l[k].op)=false:=U5 (by omega)
   repeat' first|refine gq ?_|simp only[ab,hlt,d1,d3]|decide|refine sp ?_ ?_<;>intro _|refine cA hH ?_|fail
   all_goals exact rI (wR [0]) ⟨k+1,by omega,rfl⟩
 .repeat' first|refine gf @hlt ?_|decide|refine sp ?_ ?_<;>intro _
theorem vn(m:aJ)(st ev:Int)(l:List aw)(hl:l.length<=100000)(hx:∀x∈l,x.ok)(h:tq m st ev l):am Tryz.prog 101 [.agg (aC m),eI st,eI ev,bf l] (val (.bool true)):=by
 refine aa ag Tryz.func101 rfl (by decide) Tryz.ntmps101 Tryz.results101 rfl (aD _) ?_;obtain⟨h1,h2,h3⟩:=h;have hB:=xL m l hl hx h3;have hS:=qx st m.stages.length;rw[h1] at hS;rcases h2 with rfl|h2
 .have q:((-1:Int) == -1)=true:=rfl
  repeat' first|refine gf q ?_|decide|refine sp ?_ ?_<;>intro _|refine cA hS ?_|refine cA hB ?_|fail
 .have hE:=qx ev m.events.length;rw[h2] at hE
  have q:(ev == -1)=false:=by
   simp only[df,U1,U7] at h2;simp;omega
  repeat' first|refine gf q ?_|decide|refine sp ?_ ?_<;>intro _|refine cA hS ?_|refine cA hE ?_|refine cA hB ?_|fail
end
end
section
section
abbrev eU(n:Int):AV:=.c (.int .u64 n)
def rA(n:Int):Prop:=0<=n/\n<18446744073709551616
theorem n9(n:Int):IntKind.u64.wrap n=n % 18446744073709551616:=by simp[IntKind.wrap,IntKind.bits,IntKind.signed]
theorem JW{n:Int}(h:rA n):IntKind.u64.wrap n=n:=by
 unfold rA at h;rw[n9];omega
def aM(c:Int):Int:=IntKind.u64.wrap (IntKind.u64.wrap (c * 6364136223846793005)+1442695040888963407)
theorem kO(c:Int):rA (aM c):=by
 unfold aM rA;rw[n9];omega
theorem xp(c:Int):am Tryz.prog 19 [eU c] (val (.int .u64 (aM c))):=by
 refine aa ag Tryz.func19 rfl (by decide) Tryz.ntmps19 Tryz.results19 rfl (aD _) ?_
 repeat' first|refine gq ?_|decide|refine sp ?_ ?_<;>intro _
 all_goals rfl
theorem UL:((33:Int)<0)=False:=by simp
theorem TR{c:Int}(h:rA c):c.fdiv (2 ^ min (Int.toNat 33) IntKind.u64.bits)=c / 8589934592:=by
 rw[Int.fdiv_eq_ediv_of_nonneg _ (by decide)];rfl
theorem CO(c n:Int)(hc:rA c)(hn:aA n):am Tryz.prog 60 [eU c,eI n] (val (.int .i64 (if n<1 then 0 else c / 8589934592 % n))):=by
 refine aa ag Tryz.func60 rfl (by decide) Tryz.ntmps60 Tryz.results60 rfl (aD _) ?_;by_cases g:n<1
 .have d1:decide (n<1)=true:=Vb g;rw[UZ g]
  repeat' first|refine gf d1 ?_|decide|refine sp ?_ ?_<;>intro _
 .have d1:decide (n<1)=false:=U5 g;rw[UX g];have f1:=TR hc;unfold aA at hn;unfold rA at hc;have f2:IntKind.u64.wrap n=n:=JW ⟨by omega,by omega⟩;have f3:(n=0)=False:=by simp;omega
  have f4:(c / 8589934592).tmod n=c / 8589934592 % n:=Xc (by omega)
  have f5:IntKind.i64.wrap (c / 8589934592 % n)=c / 8589934592 % n:=by
   have h1:=Int.emod_nonneg (c / 8589934592) (show n≠0 by omega);have h2:=Int.emod_lt_of_pos (c / 8589934592) (show 0<n by omega);exact aE (by omega) (by omega)
  repeat' first|refine gf (kf d1 (kf @UL (kf f1 (kf f2 (kf f3 (kf f4 f5)))))) ?_|decide|refine sp ?_ ?_<;>intro _
end
section
theorem oY{vs:Array Value}{a:AV}(hn:vs.size=[a].length):∃x,vs = #[x]:=⟨vs[0]'(by simp at hn;omega),by
 apply XB (by simpa using hn);intro i h1 h2;simp at h2;subst h2;rfl⟩
theorem Hz:am Tryz.prog 114 [.c (.slice none 0 0)] (val (.slice none 0 0)):=
 cg (ca Tryz.func114 rfl (by decide)) fun S w vs hS hn hv=>by
  obtain⟨a,rfl⟩:=oY hn;have h:=hv 0 a _ rfl rfl;cases h;exact(Tryz.slices_Clone_nil 0 0 w).mono (by rintro e w' ⟨rfl,rfl⟩;exact⟨rfl,Below.refl _ _⟩)
theorem I9:am Tryz.prog 117 [.c (.slice none 0 0)] (val (.tuple #[])):=
 cg (ca Tryz.func117 rfl (by decide)) fun S w vs hS hn hv=>by
  obtain⟨a,rfl⟩:=oY hn;have h:=hv 0 a _ rfl rfl;cases h;exact u2 none 0 w
theorem A8:am Tryz.prog 118 [.c (.slice none 0 0)] (val (.slice none 0 0)):=
 cg (ca Tryz.func118 rfl (by decide)) fun S w vs hS hn hv=>by
  obtain⟨a,rfl⟩:=oY hn;have h:=hv 0 a _ rfl rfl;cases h;exact(Tryz.slices_Compact_int_empty none 0 w).mono (by rintro e w' ⟨rfl,rfl⟩;exact⟨rfl,Below.refl _ _⟩)
theorem qh:am Tryz.prog 66 [.c (.slice none 0 0)] (val (.slice none 0 0)):=by
 refine aa ag Tryz.func66 rfl (by decide) Tryz.ntmps66 Tryz.results66 rfl (aD _) ?_
 repeat' first|refine gq ?_|decide|refine sp ?_ ?_<;>intro _|((with_reducible first|apply al (g:=114)|apply aO (g:=114));exact Hz)|((with_reducible first|apply al (g:=117)|apply aO (g:=117));exact I9)|((with_reducible first|apply al (g:=118)|apply aO (g:=118));exact A8)
end
section
def PL:St:=⟨[],0,0,[],[]⟩
abbrev v0:List AV:=[eI (-1),eI (-1),.c (.slice none 0 0)]
theorem Gl:dp Tryz.prog 66 [.sl 1 []] (fun R=>∃A c,R=val (.slice A 0 c)):=
 ⟨ca Tryz.func66 rfl (by decide),fun S w vs h1 h2 h3=>by
  obtain⟨a,rfl⟩:=oY h2;refine(uA [] a w (by simp) (LI.of_rt (h3 0 a _ rfl rfl) h1)).mono fun e w' ⟨v',h4,h5,h6⟩=>?_;rw[yG] at h5;obtain⟨A,c,hv',_⟩:=h5;obtain rfl:v'=.slice A 0 c:=hv';exact⟨_,fun _=>undef,val _,⟨A,c,rfl⟩,aD _,h4,⟨jo h6,fun id o h=>(by cases h),fun id id' o o' g h=>(by cases h),fun b hb=>hb.elim⟩,.tree (.c _)⟩⟩
end
section
open Go.RowKit Go.Sort
theorem wi{w:World}{base g cap n m:Nat}{e:TypeId}{xs:List Value}(h:w.ownsRow base e 1 (.slice (some ⟨g,0,none⟩) n cap) n xs)(hm:m<=n):w.ownsRow base e 1 (.slice (some ⟨g,0,none⟩) m cap) m (xs.take m):=by
 obtain⟨hl,⟨he,_⟩|⟨g',cap',cur,hv,hb,hg,h1,h2,h3,h4⟩⟩:=h
 .cases he
 .cases hv;refine⟨by simp;omega,.inr ⟨g,cap,cur,rfl,hb,hg,by omega,h2,h3,?_⟩⟩;rw[<- h4,List.take_take]
  congr 1
  omega
theorem sv(l:List Int)(v:Value)(w:World)(hl:l.length<=1000000)(hp:0<l.length)(h:LI w v l) :
  Calls Tryz.prog 66 #[v] w fun e w'=>∃v',e=.returned v' /\ w'.ownsRow w.heap.size 2 1 v' (md l).length ((md l).map (Value.int .i64))/\Below w.heap.size w w':=by
 obtain⟨i0,hi0,hz0,hz1,hz2⟩:=info_parts wt;obtain⟨b,o,c,rfl,hc,hb,hcell⟩:=h.some_ hp
 have h1:=Tryz.slices_Clone i0 (.int .i64 0) 1 8 hi0 hz0 hz1 hz2 rfl (by decide) Tryz.sizeOf2 b o l.length c (l.map (Value.int .i64)) w (by simp) (by unfold maxLen;omega) (by omega)
  (fun j u hj=>by
   rw[UV] at hj;rcases U9 j l.length with hlt|hge
   .rw [p0 hlt] at hj;obtain rfl:Value.int .i64 l[j]=u:=by simpa using hj
    exact hcell j hlt
   .rw [Vh hge] at hj;simp at hj)
  (fun u hu=>by obtain⟨x,_,rfl⟩:=U3.1 hu;rfl)
 have H1:=ar h1;clear h1;unfold md;have hSl:(l.mergeSort fun x y=>decide (x<=y)).length=l.length:=List.length_mergeSort ..;generalize hSd:(l.mergeSort fun x y=>decide (x<=y))=S at *;have HSd:=ar hSd;have HSl:=ar hSl;clear hSd hSl
 go_enter Tryz.func66,Tryz.ntmps66
 go_wp2_with fail
 refine H1.out.mono ?_;rintro e w1 ⟨v',rfl,hown,hnn,hb1⟩;obtain⟨_,⟨_,hn0⟩|⟨g,cap,cur,rfl,hbase,hblk,hn,hcap,hcs,htake⟩⟩:=hown
 .omega
 rw[Nat.mul_one] at htake;have hg:g<w1.heap.size:=(Vm.1 hblk).1;have hH:=holds_of_blockI hblk htake;have h2:=Tryz.slices_Sort_int g 0 cap l w1 hH hg (by omega);rw[HSd.out] at h2;have H2:=ar h2;clear h2 H1 hH
 go_wp2_with fail
 refine H2.out.mono ?_;rintro e w2 ⟨rfl,n,os,rfl⟩;have hSl:=HSl.out;have hown2:=ownsRow_sortedI (n:=n) (os:=os) (ts:=S) hSl hbase hblk hn hcap hcs;have hgr2:=grownBy_sortedI (w:=w1) (g:=g) (n:=n) (os:=os) S.toArray;generalize Go.Sort.grow (putRow (Value.int .i64) (Sort.ahead w1 n) g 0 S.toArray) os=w2 at *;have hb2:Below w.heap.size w w2:=hb1.grown hgr2 hb1.size (fun j hj=>by cases hj;exact hbase);obtain⟨_,⟨hx,_⟩|⟨g',cap',cur2,hv,_,hblk2,_,_,hcs2,htake2⟩⟩:=hown2
 .cases hx
 cases hv;rw[Nat.mul_one,<- hSl] at htake2;have hg2:g<w2.heap.size:=(Vm.1 hblk2).1;have hH2:=holds_of_blockI hblk2 htake2;have h3:=Tryz.slices_Compact_int g 0 cap S w2 hH2 (by omega) (by omega);rw[hSl] at h3;have H3:=ar h3;have hcl:=qN S;clear h3 H2 hH2
 go_wp2_with fail
 refine H3.out.mono ?_;rintro e w3 ⟨rfl,q,hw3⟩;have hown3:=ownsRow_sortedI (n:=q) (os:=#[]) (ss:=S) (ts:=Lib.compact S ++ List.replicate (S.length-(Lib.compact S).length) 0) (by simp;omega) hbase hblk2 (by omega) hcap hcs2;have hgr3:=grownBy_sortedI (w:=w2) (g:=g) (n:=q) (os:=#[]) (Lib.compact S ++ List.replicate (S.length-(Lib.compact S).length) 0).toArray;rw[grow_empty] at hown3 hgr3;rw[hSl] at hown3 hgr3;rw[<- hw3] at hown3 hgr3;have hb3:Below w.heap.size w w3:=hb2.grown hgr3 hb2.size (fun j hj=>by cases hj;exact hbase)
 have hLI:w3.ownsRow w.heap.size 2 1 (.slice (some ⟨g,0,none⟩) (Lib.compact S).length cap) (Lib.compact S).length ((Lib.compact S).map (Value.int .i64)):=by
  have h7:=wi hown3 (m:=(Lib.compact S).length) (by omega);rw[Vc,VX (by simp),Vg (by simp)] at h7;exact h7
 clear hw3 H3 hown3 hgr3 hblk hblk2 htake htake2
 go_wp2_with fail
 go_ret
 exact⟨_,rfl,hLI,hb3⟩
theorem wF{f:FuncId}{args:List AV}{t:TypeId}{l:List Int}(he:fy Tryz.prog f)
  (h:∀(S:Nat->Prop)(w:World)(vs:Array Value),FJ w S->vs.size=args.length->(∀(j:Nat)(v:Value)(av:AV),vs[j]? = some v->args[j]? = some av->RT w S v av)->Calls Tryz.prog f vs w fun e w'=>∃v',e=.returned v' /\ w'.ownsRow w.heap.size t 1 v' l.length (l.map (Value.int .i64))/\Below w.heap.size w w'):am Tryz.prog f args (gl t 1 (l.map fun n=>[eI n])):=
 ⟨he,fun S w vs h1 h2 h3=>(h S w vs h1 h2 h3).mono fun e w' ⟨v,h4,h5,h6⟩=>by
  have hget:∀id o,(gl t 1 (l.map fun n=>[eI n])).tab.get id=some o->id=0/\o=.row t 1 (l.map fun n=>[eI n]):=fun id o ho=>by
   simp only[gl,ae.gc] at ho;split at ho
   .cases ho;exact⟨by assumption,rfl⟩
   .cases ho
  refine⟨v,fun _=>v,_,rfl,cW ..,h4,⟨jo h6,fun id o ho=>?_,fun id id' o o' g h7 h8 _ _=>?_,fun b hb=>hb.elim⟩,.osl _ _ fun sz u hk=>?_⟩
  .obtain ⟨_,rfl⟩:=hget id o ho;refine⟨fun row hr=>?_,_,by rw[Vd];exact rG h5,fun x hx=>?_,fun i j row av ha hb=>?_⟩
   .obtain ⟨n,_,rfl⟩:=U3.1 hr;rfl
   .obtain ⟨n,_,rfl⟩:=U3.1 hx;rfl
   .rw [UV] at ha
    cases hi:l[i]? with
    | none=>simp[hi] at ha
    | some n=>
     simp[hi] at ha;subst ha
     cases j with
     | zero=>
      simp at hb;subst hb;exact⟨.int .i64 n,by simp[hi],.c _⟩
     | succ j=>simp at hb
  .rw [(hget id o h7).1,(hget id' o' h8).1]
  .unfold Kx at hk
   cases ho:(gl t 1 (l.map fun n=>[eI n])).tab.get 0 with
   | none=>simp[ho] at hk
   | some o=>simp[ho] at hk;exact hk.2⟩
theorem gn(l:List Int)(hl:l.length<=1000000)(hne:l≠[]):am Tryz.prog 66 [sI l] (gl 2 1 ((aR l).map fun n=>[eI n])):=
 wF (ca Tryz.func66 rfl (by decide)) fun S w vs hS hn hv=>by
  obtain⟨a,rfl⟩:=M0 hn;refine(sv l a w hl (WJ.2 hne) (LI.of_rt (hv 0 a _ rfl rfl) hS)).mono fun e w' ⟨v',h1,h2,h3⟩=>?_;rw[yG] at h2;exact⟨v',h1,h2,h3⟩
def MC(l:List Int):cu:=if l=[] then val (.slice none 0 0) else gl 2 1 (l.map fun n=>[eI n])
theorem LW(l:List Int):(MC l).Ok:=by
 unfold MC;split
 .exact aD _
 .exact cW _ _ _
theorem gB{l:List Int}(h:l≠[]):aR l≠[]:=fun h2=>by
 cases l with
 | nil=>exact h rfl
 | cons x l=>
  have:=((bm (x :: l)).2 x).2 (Vr ..);rw[h2] at this;cases this
theorem lS{P:Program}{u:Option (Nat×List Nat)}{st:aj}{g:FuncId}{args:List AV}{K:AV->aj->Prop}{l:List Int}(h:am P g (args.map (gj st.tab)) (MC l))
  (h1:l=[]->K (.c (.slice none 0 0)) st) (h2:l≠[]->K (.osl st.next) ⟨st.n,st.env,(st.next,some (.row 2 1 (l.map fun n=>[eI n]))) :: st.tab,st.next+1⟩):gb u P st g args K:=by
 unfold MC at h;by_cases hl:l=[]
 .rw [UZ hl] at h;exact cL h (.inr trivial) (h1 hl)
 .rw [UX hl] at h;exact dg h (.inr bk) (h2 hl)
theorem Dp{l:List Int}(h:l≠[]):MC l=gl 2 1 (l.map fun n=>[eI n]):=UX h
theorem DC{l:List Int}{st:aj}(h:l=[]):fp (MC l) st (.c (.slice none 0 0)):=by
 rw[show MC l=val (.slice none 0 0) from UZ h];exact aF rfl
def fI(l:List aw):List (Int×Int):=l.flatMap fun x=>if dI x=true then [(x.la,x.ln),(x.ra,x.rn)] else []
def f7(l:List (Int×Int)):List Int:=(l.filter fun p=>p.1 == -1).map (·.2)
theorem vM(a b:List (Int×Int)):f7 (a ++ b)=f7 a ++ f7 b:=by simp[f7]
theorem sW:∀l:List aw,f7 (fI l)=bN l
 | []=>rfl
 | x :: l=>by
  have ih:=sW l;unfold fI bN at *;rw[V4,V4,vM,ih]
  congr 1
  unfold gW
  cases hc:dI x with
  | false=>rfl
  | true=>
   rw[UZ rfl,UZ rfl];by_cases h1:x.la = -1<;>by_cases h2:x.ra = -1<;>simp[f7,h1,h2]
theorem z9(l:List aw){k:Nat}(h:k<l.length):fI (l.take (k+1))=fI (l.take k) ++ (if dI l[k]=true then [(l[k].la,l[k].ln),(l[k].ra,l[k].rn)] else []):=by
 unfold fI;rw[U0 h,Wj];simp
theorem sK(l:List aw):(fI l).length<=2 * l.length:=by
 induction l with
 | nil=>simp[fI]
 | cons x l ih=>
  unfold fI at *;rw[V4,UW,Vl];have h2:(if dI x=true then [(x.la,x.ln),(x.ra,x.rn)] else []).length<=2:=by split<;>simp
  omega
theorem N7(l:List aw)(hl:l.length<=4000):am Tryz.prog 143 [bf l] ⟨.sl 2 ((fI l).map DG),[],0⟩:=by
 refine am.still (R:=gl 117 2 ((fI l).map DG)) [0] ?_ (by simp[gl,cu.frzs,cu.frz,ae.gc,AV.frz,AV.frzL,bw,aB.frz]) (by simp[AV.lt,AV.ltL]);refine aa ag Tryz.func143 rfl (by decide) Tryz.ntmps143 Tryz.results143 rfl (cW _ _ _) ?_
 repeat' first|refine go ?_|decide|refine sp ?_ ?_<;>intro _
 refine af (fun st=>∃k:Nat,k<=l.length/\st=⟨24,[(3,.osl 0),(6,bf l),(7,eI (l.length:Int)),(8,eI (k:Int))],[(0,some (.row 117 2 ((fI (l.take k)).map DG)))],1⟩) (fun st=>l.length-ax st 8) ⟨_,((bq 3 117 2 (by simp only[iC,aj.get,aX,aj.put,↓reduceIte,reduceCtorEq,Nat.reduceLT,Nat.reduceEqDiff,Nat.reduceAdd,Nat.reduceLeDiff,eq_self,implies_true,Va,show fI []=[] from rfl,Vn])).trans (wS [0] (kf @Va (show fI []=[] from rfl)))),0,UR _,rfl⟩ ?_;rintro _ ⟨k,hk,rfl⟩;have hvl:=sK (l.take k);have htl:(l.take k).length=k:=by simp;omega
 by_cases hlt:k<l.length
 .have hC:=qQ l[k].op;have hsn:=z9 l hlt
  cases hc:dI l[k] with
  | true=>
   have hc2:(decide (3<=l[k].op) && decide (l[k].op<=8))=true:=hc;rw[hc2] at hC;rw[hc,UZ rfl] at hsn;have et:(fI (l.take (k+1))).map DG=(fI (l.take k)).map DG ++ [[eI l[k].la,eI l[k].ln],[eI l[k].ra,eI l[k].rn]]:=by rw[hsn,Vc];rfl
   repeat' first|refine go ?_|simp only[ab,hlt]|decide|refine sp ?_ ?_<;>intro _
   refine al hC ?_
   repeat' first|refine go ?_|simp only[ab,hlt]|decide|refine sp ?_ ?_<;>intro _
   exact⟨rfl,by omega,rI (wS [3] et) ⟨k+1,by omega,rfl⟩⟩
  | false=>
   have hc2:(decide (3<=l[k].op) && decide (l[k].op<=8))=false:=hc;rw[hc2] at hC;rw[hc,UX (by simp),VH] at hsn
   repeat' first|refine go ?_|simp only[ab,hlt]|decide|refine sp ?_ ?_<;>intro _
   refine al hC ?_
   repeat' first|refine go ?_|simp only[ab,hlt]|decide|refine sp ?_ ?_<;>intro _
   exact rI (wS [0] @hsn) ⟨k+1,by omega,rfl⟩
 .obtain rfl:k=l.length:=by omega
  repeat' first|refine ge @hlt ?_|decide|refine sp ?_ ?_<;>intro _
  exact aV (by simp[ae.gc])
theorem lu(l:List aw)(hl:l.length<=400):am Tryz.prog 104 [bf l] (MC (ce l)):=by
 refine aa ag Tryz.func104 rfl (by decide) Tryz.ntmps104 Tryz.results104 rfl (LW _) ?_;have hvl:=sK l
 repeat' first|refine go ?_|decide|refine sp ?_ ?_<;>intro _
 refine cL (N7 l (by omega)) (ro) ?_;obtain⟨V,hV⟩:∃V,V=fI l:=⟨_,rfl⟩;have hcn:ce l=aR (f7 V):=by rw[hV,sW];rfl
 rw[<- hV] at hvl ⊢;rw[hcn];clear hcn hV
 repeat' first|refine go ?_|decide|refine sp ?_ ?_<;>intro _
 have hnl:∀k,(f7 (V.take k)).length<=V.length:=fun k=>by
  unfold f7;rw[Vd];refine Vj (WN _ _) ?_;rw[U2];omega
 refine af (fun st=>∃k:Nat,k<=V.length/\((f7 (V.take k)=[]/\st=⟨24,[(3,.c (.slice none 0 0)),(7,.sl 2 (V.map DG)),(8,eI (V.length:Int)),(9,eI (k:Int))],[],0⟩)\/(f7 (V.take k)≠[]/\st=⟨24,[(3,.osl 0),(7,.sl 2 (V.map DG)),(8,eI (V.length:Int)),(9,eI (k:Int))],[(0,some (.row 2 1 ((f7 (V.take k)).map fun n=>[eI n])))],1⟩))) (fun st=>V.length-ax st 9) ⟨_,wC,0,UR _,.inl ⟨rfl,rfl⟩⟩ ?_;rintro _ ⟨k,hk,hst⟩;have hk2:=hnl k;by_cases hlt:k<V.length
 .obtain ⟨p,hp⟩:∃p,V[k]=p:=⟨_,rfl⟩
  have hsn:f7 (V.take (k+1))=f7 (V.take k) ++ (if p.1 = -1 then [p.2] else []):=by
   rw[U0 hlt,vM,hp]
   congr 1
   by_cases h:p.1 = -1<;>simp[f7,h]
  by_cases h1:p.1 = -1
  .rw [UZ h1] at hsn;have d1:(p.1 == -1)=true:=(by simp[h1]);have et:(f7 (V.take (k+1))).map (fun n=>[eI n])=(f7 (V.take k)).map (fun n=>[eI n]) ++ [[eI p.2]]:=by rw[hsn,Vc];rfl
   have hne:f7 (V.take (k+1))≠[]:=by rw[hsn];simp
   rcases hst with ⟨h0,rfl⟩|⟨h0,rfl⟩
   .rw [h0,VR] at hsn;have et1:(f7 (V.take (k+1))).map (fun n=>[eI n])=[[eI p.2]]:=by rw[hsn];rfl
    repeat' first|refine go ?_|simp only[ab,hlt,hp,d1]|decide|refine sp ?_ ?_<;>intro _
    refine⟨rfl,rI (wS [2] et1) ⟨k+1,by omega,.inr ⟨hne,rfl⟩⟩⟩
   .repeat' first|refine go ?_|simp only[ab,hlt,hp,d1]|decide|refine sp ?_ ?_<;>intro _
    refine⟨rfl,⟨by omega,by omega⟩,rI (wS [3] et) ⟨k+1,by omega,.inr ⟨hne,rfl⟩⟩⟩
  .rw [UX h1,VH] at hsn;have d1:(p.1 == -1)=false:=(by simp[h1]);rcases hst with ⟨h0,rfl⟩|⟨h0,rfl⟩
   .repeat' first|refine go ?_|simp only[ab,hlt,hp,d1]|decide|refine sp ?_ ?_<;>intro _
    exact rI wC ⟨k+1,by omega,.inl ⟨by rw[hsn];exact h0,rfl⟩⟩
   .repeat' first|refine go ?_|simp only[ab,hlt,hp,d1]|decide|refine sp ?_ ?_<;>intro _
    exact rI (wS [0] @hsn) ⟨k+1,by omega,.inr ⟨by rw[hsn];exact h0,rfl⟩⟩
 .obtain rfl:k=V.length:=by omega
  rw[U6] at hst hk2;rcases hst with ⟨h0,rfl⟩|⟨h0,rfl⟩
  .rw [h0]
   repeat' first|refine ge @hlt ?_|decide|refine sp ?_ ?_<;>intro _
   refine al qh ?_
   repeat' first|refine go ?_|decide|refine sp ?_ ?_<;>intro _
   exact DC rfl
  .have hS:=gn (f7 V) (by omega) h0
   repeat' first|refine ge @hlt ?_|decide|refine sp ?_ ?_<;>intro _
   refine dg hS (.inr bk) ?_
   repeat' first|refine go ?_|decide|refine sp ?_ ?_<;>intro _
   rw[Dp (gB h0)];exact aV (by simp[ae.gc])
theorem u6(m:aJ)(hf:jN m):am Tryz.prog 57 [.agg (aC m),.c (.slice none 0 0)] (MC (ba m [])):=by
 refine aa ag Tryz.func57 rfl (by decide) Tryz.ntmps57 Tryz.results57 rfl (LW _) ?_;obtain⟨hg,hm,-⟩:=id hf.sizes;obtain⟨f,hff⟩:∃f,f=fun g:Gd=>ce g.cond:=⟨_,rfl⟩;obtain⟨g2,hg2⟩:∃f,f=fun g:Ml=>ce g.cond:=⟨_,rfl⟩
 have hfl:∀k,((m.guards.take k).flatMap f).length<=11200:=fun k=>by
  have h1:=py f (m.guards.take k) fun x hx=>by
   rw[hff];exact kQ _ (by have:=hf.guards x (Vt hx);omega)
  rw[U2] at h1;omega
 have hgl:∀k,((m.miles.take k).flatMap g2).length<=8000:=fun k=>by
  have h1:=py g2 (m.miles.take k) fun x hx=>by
   rw[hg2];exact kQ _ (by have:=hf.miles x (Vt hx);omega)
  rw[U2] at h1;omega
 have hC:ba m []=aR (m.guards.flatMap f ++ m.miles.flatMap g2):=by
  rw[hff,hg2];show aR ((ce [] ++ _) ++ _)=_;rw[show ce []=[] from rfl,VR]
 rw[hC];have hN0:am Tryz.prog 104 [.c (.slice none 0 0)] (val (.slice none 0 0)):=(lu [] (by simp)).fits (args:=[.c (.slice none 0 0)]) ⟨.one (.nil 7),trivial⟩
 repeat' first|refine go ?_|decide|refine sp ?_ ?_<;>intro _
 refine al hN0 ?_
 repeat' first|refine go ?_|decide|refine sp ?_ ?_<;>intro _
 refine af (fun st=>∃k:Nat,k<=m.guards.length/\(((m.guards.take k).flatMap f=[]/\st=⟨40,[(2,.op 0 0 0),(5,.c (.slice none 0 0)),(13,.sl 3 (m.guards.map El)),(14,eI (m.guards.length:Int)),(15,eI (k:Int))],[(0,some (.box 32 (aC m)))],1⟩)\/((m.guards.take k).flatMap f≠[]/\st=⟨40,[(2,.op 0 0 0),(5,.osl 1),(13,.sl 3 (m.guards.map El)),(14,eI (m.guards.length:Int)),(15,eI (k:Int))],[(0,some (.box 32 (aC m))),(1,some (.row 2 1 (((m.guards.take k).flatMap f).map fun n=>[eI n])))],2⟩))) (fun st=>m.guards.length-ax st 15) ⟨_,wC,0,UR _,.inl ⟨rfl,rfl⟩⟩ ?_;rintro _ ⟨k,hk,hst⟩;have hkl:=hfl k;by_cases hlt:k<m.guards.length
 .obtain ⟨x,hx⟩:∃x,m.guards[k]=x:=⟨_,rfl⟩;have hxc:=hf.guards x (hx ▸ UQ hlt);have hNx:=lu x.cond (by omega);have hcl:=kQ x.cond (by omega);have hsn:(m.guards.take (k+1)).flatMap f=(m.guards.take k).flatMap f ++ ce x.cond:=by rw[ji f _ hlt,hx,hff]
  generalize (m.guards.take k).flatMap f=A at *;generalize ce x.cond=C at *;have et:((m.guards.take (k+1)).flatMap f).map (fun n=>[eI n])=A.map (fun n=>[eI n]) ++ C.map (fun n=>[eI n]):=by rw[hsn,Vc]
  rcases hst with ⟨h0,rfl⟩|⟨h0,rfl⟩
  .rw [h0,VR] at hsn
   repeat' first|refine go ?_|simp only[ab,hlt,hx]|decide|refine sp ?_ ?_<;>intro _
   refine lS hNx (fun hc=>?_) (fun hc=>?_)
   .rw [hc] at hsn
    repeat' first|refine ge @Xu ?_|decide|refine sp ?_ ?_<;>intro _
    exact rI (wR [0]) ⟨k+1,by omega,.inl ⟨hsn,rfl⟩⟩
   .have et2:((m.guards.take (k+1)).flatMap f).map (fun n=>[eI n])=C.map (fun n=>[eI n]):=by rw[hsn]
    repeat' first|refine go ?_|decide|refine sp ?_ ?_<;>intro _
    refine⟨⟨by omega,by omega⟩,rI (wS [0,3] et2) ⟨k+1,by omega,.inr ⟨by rw[hsn];exact hc,rfl⟩⟩⟩
  .have hne:(m.guards.take (k+1)).flatMap f≠[]:=by rw[hsn];simp[h0]
   repeat' first|refine go ?_|simp only[ab,hlt,hx]|decide|refine sp ?_ ?_<;>intro _
   refine lS hNx (fun hc=>?_) (fun hc=>?_)
   .have et2:((m.guards.take (k+1)).flatMap f).map (fun n=>[eI n])=A.map (fun n=>[eI n]):=by rw[et,hc,Vn,VH]
    repeat' first|refine go ?_|decide|refine sp ?_ ?_<;>intro _
    refine⟨⟨by omega,by omega⟩,rI (wS [0,3] et2) ⟨k+1,by omega,.inr ⟨hne,rfl⟩⟩⟩
   .repeat' first|refine go ?_|decide|refine sp ?_ ?_<;>intro _
    refine⟨⟨by omega,by omega⟩,rI (wS [0,4] et) ⟨k+1,by omega,.inr ⟨hne,rfl⟩⟩⟩
 obtain rfl:k=m.guards.length:=by omega
 rw[U6] at hst hkl;obtain⟨O,hO⟩:∃O,m.guards.flatMap f=O:=⟨_,rfl⟩;rw[hO] at hst hkl ⊢;rcases hst with ⟨h0,rfl⟩|⟨h0,rfl⟩
 .repeat' first|refine ge @hlt ?_|decide|refine sp ?_ ?_<;>intro _
  refine af (fun st=>∃k:Nat,k<=m.miles.length/\((O ++ (m.miles.take k).flatMap g2=[]/\st=⟨40,[(2,.op 0 0 0),(5,.c (.slice none 0 0)),(26,.sl 5 (m.miles.map yg)),(27,eI (m.miles.length:Int)),(28,eI (k:Int))],[(0,some (.box 32 (aC m)))],1⟩)\/(O ++ (m.miles.take k).flatMap g2≠[]/\st=⟨40,[(2,.op 0 0 0),(5,.osl 1),(26,.sl 5 (m.miles.map yg)),(27,eI (m.miles.length:Int)),(28,eI (k:Int))],[(0,some (.box 32 (aC m))),(1,some (.row 2 1 ((O ++ (m.miles.take k).flatMap g2).map fun n=>[eI n])))],2⟩))) (fun st=>m.miles.length-ax st 28) ⟨_,(wE trivial),0,UR _,.inl ⟨by rw[Va,h0];rfl,rfl⟩⟩ ?_;rintro _ ⟨k,hk3,hst⟩;have hkl3:=hgl k;by_cases hlt3:k<m.miles.length
  .obtain ⟨x,hx⟩:∃x,m.miles[k]=x:=⟨_,rfl⟩;have hxc:=hf.miles x (hx ▸ UQ hlt3);have hNx:=lu x.cond (by omega);have hcl:=kQ x.cond (by omega);have hsn:O ++ (m.miles.take (k+1)).flatMap g2=(O ++ (m.miles.take k).flatMap g2) ++ ce x.cond:=(by rw[ji g2 _ hlt3,hx,hg2,Vw]);have hAl:(O ++ (m.miles.take k).flatMap g2).length<=20000:=by rw[UW];omega
   generalize O ++ (m.miles.take k).flatMap g2=A at *;generalize ce x.cond=C at *;have et:(O ++ (m.miles.take (k+1)).flatMap g2).map (fun n=>[eI n])=A.map (fun n=>[eI n]) ++ C.map (fun n=>[eI n]):=(by rw[hsn,Vc]);rcases hst with ⟨h0,rfl⟩|⟨h0,rfl⟩
   .rw [h0,VR] at hsn
    repeat' first|refine go ?_|simp only[ab,hlt3,hx]|decide|refine sp ?_ ?_<;>intro _
    refine lS hNx (fun hc=>?_) (fun hc=>?_)
    .rw [hc] at hsn
     repeat' first|refine ge @Xu ?_|decide|refine sp ?_ ?_<;>intro _
     exact rI (wR [0]) ⟨k+1,by omega,.inl ⟨hsn,rfl⟩⟩
    .have et2:(O ++ (m.miles.take (k+1)).flatMap g2).map (fun n=>[eI n])=C.map (fun n=>[eI n]):=by rw[hsn]
     repeat' first|refine go ?_|decide|refine sp ?_ ?_<;>intro _
     refine⟨⟨by omega,by omega⟩,rI (wS [0,3] et2) ⟨k+1,by omega,.inr ⟨by rw[hsn];exact hc,rfl⟩⟩⟩
   .have hne:O ++ (m.miles.take (k+1)).flatMap g2≠[]:=by rw[hsn];simp[h0]
    repeat' first|refine go ?_|simp only[ab,hlt3,hx]|decide|refine sp ?_ ?_<;>intro _
    refine lS hNx (fun hc=>?_) (fun hc=>?_)
    .have et2:(O ++ (m.miles.take (k+1)).flatMap g2).map (fun n=>[eI n])=A.map (fun n=>[eI n]):=by rw[et,hc,Vn,VH]
     repeat' first|refine go ?_|decide|refine sp ?_ ?_<;>intro _
     refine⟨⟨by omega,by omega⟩,rI (wS [0,3] et2) ⟨k+1,by omega,.inr ⟨hne,rfl⟩⟩⟩
    .repeat' first|refine go ?_|decide|refine sp ?_ ?_<;>intro _
     refine⟨⟨by omega,by omega⟩,rI (wS [0,4] et) ⟨k+1,by omega,.inr ⟨hne,rfl⟩⟩⟩
  obtain rfl:k=m.miles.length:=by omega
  rw[U6] at hst hkl3;have hAl:(O ++ m.miles.flatMap g2).length<=20000:=by rw[UW];omega
  generalize O ++ m.miles.flatMap g2=A at *;rcases hst with ⟨h0,rfl⟩|⟨h0,rfl⟩
  .rw [h0]
   repeat' first|refine ge @hlt3 ?_|decide|refine sp ?_ ?_<;>intro _
   refine al qh ?_
   repeat' first|refine go ?_|decide|refine sp ?_ ?_<;>intro _
   exact DC rfl
  .repeat' first|refine ge @hlt3 ?_|decide|refine sp ?_ ?_<;>intro _
   refine dg (gn A (by omega) h0) (.inr bk) ?_
   repeat' first|refine go ?_|decide|refine sp ?_ ?_<;>intro _
   rw[Dp (gB h0)];exact aV (by simp[ae.gc])
 .have hi0:(O ++ (m.miles.take 0).flatMap g2).map (fun n=>[eI n])=O.map (fun n=>[eI n]):=by rw[Va,V7,VH]
  repeat' first|refine ge @hlt ?_|decide|refine sp ?_ ?_<;>intro _
  refine af (fun st=>∃k:Nat,k<=m.miles.length/\((O ++ (m.miles.take k).flatMap g2=[]/\st=⟨40,[(2,.op 0 0 0),(5,.c (.slice none 0 0)),(26,.sl 5 (m.miles.map yg)),(27,eI (m.miles.length:Int)),(28,eI (k:Int))],[(0,some (.box 32 (aC m)))],1⟩)\/(O ++ (m.miles.take k).flatMap g2≠[]/\st=⟨40,[(2,.op 0 0 0),(5,.osl 1),(26,.sl 5 (m.miles.map yg)),(27,eI (m.miles.length:Int)),(28,eI (k:Int))],[(0,some (.box 32 (aC m))),(1,some (.row 2 1 ((O ++ (m.miles.take k).flatMap g2).map fun n=>[eI n])))],2⟩))) (fun st=>m.miles.length-ax st 28) ⟨_,(wE hi0),0,UR _,.inr ⟨by rw[Va,V7,VH];exact h0,rfl⟩⟩ ?_;rintro _ ⟨k,hk3,hst⟩;have hkl3:=hgl k;by_cases hlt3:k<m.miles.length
  .obtain ⟨x,hx⟩:∃x,m.miles[k]=x:=⟨_,rfl⟩;have hxc:=hf.miles x (hx ▸ UQ hlt3);have hNx:=lu x.cond (by omega);have hcl:=kQ x.cond (by omega);have hsn:O ++ (m.miles.take (k+1)).flatMap g2=(O ++ (m.miles.take k).flatMap g2) ++ ce x.cond:=(by rw[ji g2 _ hlt3,hx,hg2,Vw]);have hAl:(O ++ (m.miles.take k).flatMap g2).length<=20000:=by rw[UW];omega
   generalize O ++ (m.miles.take k).flatMap g2=A at *;generalize ce x.cond=C at *;have et:(O ++ (m.miles.take (k+1)).flatMap g2).map (fun n=>[eI n])=A.map (fun n=>[eI n]) ++ C.map (fun n=>[eI n]):=(by rw[hsn,Vc]);rcases hst with ⟨h0,rfl⟩|⟨h0,rfl⟩
   .rw [h0,VR] at hsn
    repeat' first|refine go ?_|simp only[ab,hlt3,hx]|decide|refine sp ?_ ?_<;>intro _
    refine lS hNx (fun hc=>?_) (fun hc=>?_)
    .rw [hc] at hsn
     repeat' first|refine ge @Xu ?_|decide|refine sp ?_ ?_<;>intro _
     exact rI (wR [0]) ⟨k+1,by omega,.inl ⟨hsn,rfl⟩⟩
    .have et2:(O ++ (m.miles.take (k+1)).flatMap g2).map (fun n=>[eI n])=C.map (fun n=>[eI n]):=by rw[hsn]
     repeat' first|refine go ?_|decide|refine sp ?_ ?_<;>intro _
     refine⟨⟨by omega,by omega⟩,rI (wS [0,3] et2) ⟨k+1,by omega,.inr ⟨by rw[hsn];exact hc,rfl⟩⟩⟩
   .have hne:O ++ (m.miles.take (k+1)).flatMap g2≠[]:=by rw[hsn];simp[h0]
    repeat' first|refine go ?_|simp only[ab,hlt3,hx]|decide|refine sp ?_ ?_<;>intro _
    refine lS hNx (fun hc=>?_) (fun hc=>?_)
    .have et2:(O ++ (m.miles.take (k+1)).flatMap g2).map (fun n=>[eI n])=A.map (fun n=>[eI n]):=by rw[et,hc,Vn,VH]
     repeat' first|refine go ?_|decide|refine sp ?_ ?_<;>intro _
     refine⟨⟨by omega,by omega⟩,rI (wS [0,3] et2) ⟨k+1,by omega,.inr ⟨hne,rfl⟩⟩⟩
    .repeat' first|refine go ?_|decide|refine sp ?_ ?_<;>intro _
     refine⟨⟨by omega,by omega⟩,rI (wS [0,4] et) ⟨k+1,by omega,.inr ⟨hne,rfl⟩⟩⟩
  obtain rfl:k=m.miles.length:=by omega
  rw[U6] at hst hkl3;have hAl:(O ++ m.miles.flatMap g2).length<=20000:=by rw[UW];omega
  generalize O ++ m.miles.flatMap g2=A at *;rcases hst with ⟨h0,rfl⟩|⟨h0,rfl⟩
  .rw [h0]
   repeat' first|refine ge @hlt3 ?_|decide|refine sp ?_ ?_<;>intro _
   refine al qh ?_
   repeat' first|refine go ?_|decide|refine sp ?_ ?_<;>intro _
   exact DC rfl
  .repeat' first|refine ge @hlt3 ?_|decide|refine sp ?_ ?_<;>intro _
   refine dg (gn A (by omega) h0) (.inr bk) ?_
   repeat' first|refine go ?_|decide|refine sp ?_ ?_<;>intro _
   rw[Dp (gB h0)];exact aV (by simp[ae.gc])
theorem GE(m:aJ)(s:St)(hf:jN m)(hcl:(ba m []).length<=6)(hs:s.vals.length<=1000):am Tryz.prog 28 [.agg (aC m),.agg (cy s)] ⟨sI (if aR (ba m [] ++ s.vals)=[] then [0] else aR (ba m [] ++ s.vals)),[],0⟩:=by
 refine am.still (R:=gl 2 1 ((if aR (ba m [] ++ s.vals)=[] then [0] else aR (ba m [] ++ s.vals)).map fun n=>[eI n])) [0] ?_ (by simp[gl,cu.frzs,cu.frz,ae.gc,AV.frz,AV.frzL,bw,aB.frz]) (by simp[AV.lt,AV.ltL]);refine aa ag Tryz.func28 rfl (by decide) Tryz.ntmps28 Tryz.results28 rfl (cW _ _ _) ?_;have hC:=u6 m hf;have q1:(((0:Nat):Int) == 0)=true:=rfl
 repeat' first|refine go ?_|decide|refine sp ?_ ?_<;>intro _
 refine aG [] [0,2,3] (.exec 1 (.exec 4 (.exec 5 (.exec 6 .done)))) (by kernel_rfl) (by simp[ae.gc]) ?_
 repeat' first|refine go ?_|decide|refine sp ?_ ?_<;>intro _
 refine lS hC (fun h0=>?_) (fun h0=>?_)
 .rw [h0,VR];by_cases hv:s.vals=[]
  .rw [hv];rw[show(if aR ([]:List Int)=[] then [0] else aR [])=[0] from UZ rfl]
   repeat' first|refine go ?_|decide|refine sp ?_ ?_<;>intro _
   refine vO (Post:=fun R=>∃A c,R=val (.slice A 0 c)) ?_ fun R hR=>?_
   .repeat' first|decide|refine go ?_
    exact Gl
   .obtain ⟨A,c,rfl⟩:=hR;refine⟨.inr ⟨trivial,trivial⟩,?_⟩
    repeat' first|refine gq ?_|simp only[val,AV.shift,cX,q1]|decide|refine sp ?_ ?_<;>intro _|(with_reducible apply And.intro)
    all_goals first
     | rfl
     | exact aV (by simp[ae.gc])
  .repeat' first|refine go ?_|decide|refine sp ?_ ?_<;>intro _
   refine⟨⟨by omega,by omega⟩,?_⟩;refine dg (gn s.vals (by omega) hv) (.inr bk) ?_
   have hz:(((aR s.vals).length:Int) == 0)=false:=by
    have:=WJ.2 (gB hv);simp;exact gB hv
   rw[UX (gB hv)]
   repeat' first|refine ge hz ?_|decide|refine sp ?_ ?_<;>intro _
   exact aV (by simp[ae.gc])
 .have hne:ba m [] ++ s.vals≠[]:=by simp[h0]
  have hsn:((ba m []).map (fun n=>[eI n])) ++ (s.vals.map fun n=>[eI n])=(ba m [] ++ s.vals).map fun n=>[eI n]:=by rw[Vc]
  repeat' first|refine ge @hsn ?_|decide|refine sp ?_ ?_<;>intro _
  refine⟨⟨by omega,by omega⟩,?_⟩;refine dg (gn (ba m [] ++ s.vals) (by simp only[UW];omega) hne) (.inr bk) ?_
  have hz:(((aR (ba m [] ++ s.vals)).length:Int) == 0)=false:=by
   have:=WJ.2 (gB hne);simp;exact gB hne
  rw[UX (gB hne)]
  repeat' first|refine ge hz ?_|decide|refine sp ?_ ?_<;>intro _
  exact aV (by simp[ae.gc])
end
end
end Go.Proofs.YtglaiabelcefeaaGreat
