/-
  Parts of the proof: Sinp8, Sinp9, Sinp10, Sinp11.
-/
import Derived.Test.YtglaiabelcefeaaGreatSinq4
import Derived.Deep.AppendLies
import Derived.Deep.RegionLaw
import Derived.IntWalk
import Derived.Deep.RegionHeld3
import Derived.Deep.RegionHeld2
import Derived.Deep.DrawnRows
import Derived.Defers
import Derived.Recover
import Derived.Conc.MuLone
set_option linter.unusedVariables false
set_option linter.unusedSimpArgs false
set_option linter.defProp false
set_option maxRecDepth 100000
set_option maxHeartbeats 16000000
namespace Go.Proofs.YtglaiabelcefeaaGreat
open Go.RowKit
section
section
theorem qS{l:List Int}:∀row∈l.map iP,∀av∈row,av.plain:=fun row hr av ha=>by
 obtain⟨n,_,rfl⟩:=U3.1 hr;simp[iP] at ha;rcases ha with rfl|rfl|rfl|rfl|rfl|rfl|rfl|rfl|rfl<;>trivial
def qu(attrs:Bool)(op:Int):Bool:=attrs && decide (3<=op) && decide (op<=8)
theorem Js(vals:List Int)(x:aw)(attrs:Bool):jr vals attrs x = !((decide (18<x.op) || (decide (10<x.op) && decide (x.op<15))) || (qu attrs x.op && (!sD vals x.la || !sD vals x.ra))):=by
 unfold jr qu sD;simp only[Bool.and_assoc,Bool.or_assoc]
theorem vE(l:List aw)(s:St)(attrs:Bool)(hl:l.length<=1000000)(b:Bool)(hb:b=true↔(bF (l.map aw.op)=0/\∀x∈l,jr s.vals attrs x=true)):am Tryz.prog 171 [bf l,.agg (cy s),eB attrs] (val (.bool b)):=by
 refine aa ag Tryz.func171 rfl (by decide) Tryz.ntmps171 Tryz.results171 rfl (aD _) ?_
 have h70:bF ((l.map aw.op).take 70)=bF (l.map aw.op):=by
  by_cases h:l.length<=70
  .rw [Vg (by simpa using h)]
  .have e7:((l.map aw.op).take 70).length=70:=by rw[U2,Vd];omega
   have e8:(l.map aw.op).length=l.length:=Vd ..;unfold bF;rw[UX (by omega),UZ (by omega),UX (by omega),UZ (by omega)]
 repeat' first|refine go ?_|decide|refine sp ?_ ?_<;>intro _
 refine dg (zh l hl) (.inr qS) ?_
 repeat' first|refine go ?_|decide|refine sp ?_ ?_<;>intro _
 refine al (tv _ (by simp;omega)) ?_;rw[h70]
 repeat' first|refine go ?_|decide|refine sp ?_ ?_<;>intro _
 .rename_i h;symm;rw[VA];intro h2;have h3:=(hb.1 h2).1;simp[h3] at h
 .rename_i h;have hc:bF (l.map aw.op)=0:=by simpa using h
  refine af (fun st=>∃k:Nat,k<=l.length/\(∀i (hi:i<l.length),i<k->jr s.vals attrs l[i]=true)/\st=⟨65,[(0,bf l),(2,eB attrs),(4,.op 0 0 0),(7,eI (k:Int))],[(0,some (.box 59 (cy s)))],1⟩) (fun st=>l.length-ax st 7) ⟨_,wC,0,UR _,fun i _ h=>by omega,rfl⟩ ?_;rintro _ ⟨k,hk,hI,rfl⟩;by_cases hlt:k<l.length
  .have hno:jr s.vals attrs l[k]=false->b=false:=fun h2=>by
    rw[VA];intro h3;rw[(hb.1 h3).2 _ (UQ hlt)] at h2;cases h2
   have hyes:jr s.vals attrs l[k]=true->∀i (hi:i<l.length),i<k+1->jr s.vals attrs l[i]=true:=fun h2 i hi h3=>by
    rcases U9 i k with h4|h4
    .exact hI i hi h4
    .obtain rfl:i=k:=by omega
     exact h2
   rw[Js] at hno hyes;generalize hx:l[k]=x at hno hyes;obtain⟨op,la,ln,ra,rn,n,u⟩:=x;simp only at hno hyes;have ex:gc l[k]=[eI op,eI la,eI ln,eI ra,eI rn,eI n,eI u]:=(by rw[hx]);have eop:l[k].op=op:=(by rw[hx])
   repeat' first|refine go ?_|simp only[ab,hlt,ex,eop]|decide|refine sp ?_ ?_<;>intro _
   refine ay (by kernel_rfl) ?_
   repeat' first|refine go ?_|simp only[ab,hlt,ex,eop]|decide|refine sp ?_ ?_<;>intro _
   all_goals first
    | (symm;exact hno (by simp[qu, *]))
    | exact rI wC ⟨k+1,by omega,hyes (by simp[qu, *]),rfl⟩
    | skip
   all_goals
    refine aO (y2 s la ln) ?_
    repeat' first|refine go ?_|simp only[ab,hlt,ex,eop]|decide|refine sp ?_ ?_<;>intro _
    all_goals first
     | (symm;exact hno (by simp[qu, *]))
     | exact rI wC ⟨k+1,by omega,hyes (by simp[qu, *]),rfl⟩
     | skip
   all_goals
    refine aO (y2 s ra rn) ?_
    repeat' first|refine go ?_|simp only[ab,hlt,ex,eop]|decide|refine sp ?_ ?_<;>intro _
    all_goals first
     | (symm;exact hno (by simp[qu, *]))
     | exact rI wC ⟨k+1,by omega,hyes (by simp[qu, *]),rfl⟩
     | skip
  .obtain rfl:k=l.length:=by omega
   repeat' first|refine go ?_|simp only[ab,hlt]|decide|refine sp ?_ ?_<;>intro _
   symm;exact hb.2 ⟨hc,fun x hx=>by obtain⟨i,hi,rfl⟩:=U8 hx;exact hI i hi hi⟩
theorem OW{s:St}{x:aw}{c:Int}(h:p7 s.vals x=some c):∃a b,fT s.vals x.la x.ln=some a/\fT s.vals x.ra x.rn=some b/\c=n8 a b:=by
 unfold p7 at h;split at h
 .rename_i a b ha hb;cases h;exact⟨a,b,ha,hb,rfl⟩
 .cases h
theorem L4(l:List aw)(s:St)(hl:l.length<=70)(ho:aA s.opn)(hd:aA s.don):∀(n e:Nat)(he:e<l.length)(v:Bool)(r:List Bool),e<n->cO (p7 s.vals) s.opn s.don (l.take (e+1)) []=some (v :: r) ->
  am Tryz.prog 172 [bf l,qG (l.map aw.op),eI (e:Int),.agg (cy s)] (val (.bool v))
 | 0,e,he,v,r,hn,_=>by omega
 | n+1,e,he,v,r,hn,hr=>by
  refine aa ag Tryz.func172 rfl (by decide) Tryz.ntmps172 Tryz.results172 rfl (aD _) ?_;obtain⟨r0,h1,h2⟩:=mS he hr;have hel:e<(l.map aw.op).length:=by simpa using he
  have eo:(l.map aw.op)[e]=l[e].op:=by simp
  have ih:=L4 l s hl ho hd n;have z1:(0:Int)<((1:Nat):Int):=by decide
  have z2:(0:Int)<((2:Nat):Int):=by decide
  have z3:(1:Int)<((2:Nat):Int):=by decide
  generalize hx:l[e]=x at h2 eo;obtain⟨op,la,ln,ra,rn,xn,u⟩:=x;have ex:gc l[e]=[eI op,eI la,eI ln,eI ra,eI rn,eI xn,eI u]:=by rw[hx]
  simp only at eo;unfold cD at h2;simp only at h2;split at h2
  .rename_i hop;have ha:be (l.map aw.op)[e]=0:=by rw[eo];unfold be;rw[UZ (by omega)]
   have hk:=rm (l.map aw.op) e hel ha;simp at h2;rcases hop with rfl|rfl
   .have hv:v=true:=by rw[<- h2.1];rfl
    subst hv
    repeat' first|refine go ?_|simp only[ab,he,ex]|decide|refine sp ?_ ?_<;>intro _
    refine al hk ?_;have e1:((1:Int) == 1)=true:=(by decide)
    repeat' first|refine ge e1 ?_|decide|refine sp ?_ ?_<;>intro _
   .have hv:v=false:=by rw[<- h2.1];rfl
    subst hv
    repeat' first|refine go ?_|simp only[ab,he,ex]|decide|refine sp ?_ ?_<;>intro _
    refine al hk ?_
    repeat' first|refine go ?_|simp only[Int.reduceBEq]|decide|refine sp ?_ ?_<;>intro _
  split at h2
  .rename_i hop;have ha:be (l.map aw.op)[e]=0:=by rw[eo];unfold be;rw[UZ (by omega)]
   have hk:=rm (l.map aw.op) e hel ha;split at h2
   .rename_i c hc;obtain⟨a,b,hva,hvb,rfl⟩:=OW hc;simp only at hva hvb;cases h2;have h6:op=3\/op=4\/op=5\/op=6\/op=7\/op=8:=(by omega);rcases h6 with rfl|rfl|rfl|rfl|rfl|rfl
    all_goals
     repeat' first|refine go ?_|simp only[ab,he,ex]|decide|refine sp ?_ ?_<;>intro _
     refine al hk ?_
     repeat' first|refine go ?_|simp only[Int.reduceBEq]|decide|refine sp ?_ ?_<;>intro _
     refine ay (by kernel_rfl) ?_
     repeat' first|refine go ?_|decide|refine sp ?_ ?_<;>intro _
     refine aO (K5 s la ln a hva) ?_
     repeat' first|refine go ?_|decide|refine sp ?_ ?_<;>intro _
     refine aO (K5 s ra rn b hvb) ?_
     repeat' first|refine go ?_|decide|refine sp ?_ ?_<;>intro _
     refine aO (QH _ a b) ?_
     repeat' first|refine go ?_|decide|refine sp ?_ ?_<;>intro _
   .cases h2
  split at h2
  .rename_i hop;have ha:be (l.map aw.op)[e]=0:=by rw[eo];unfold be;rw[UZ (by omega)]
   have hk:=rm (l.map aw.op) e hel ha;subst hop;cases h2
   repeat' first|refine go ?_|simp only[ab,he,ex]|decide|refine sp ?_ ?_<;>intro _
   refine al hk ?_
   repeat' first|refine go ?_|simp only[Int.reduceBEq]|decide|refine sp ?_ ?_<;>intro _
   refine al (eQ s.opn xn ho) ?_
   repeat' first|refine go ?_|decide|refine sp ?_ ?_<;>intro _
  split at h2
  .rename_i hop;have ha:be (l.map aw.op)[e]=0:=by rw[eo];unfold be;rw[UZ (by omega)]
   have hk:=rm (l.map aw.op) e hel ha;subst hop;cases h2
   repeat' first|refine go ?_|simp only[ab,he,ex]|decide|refine sp ?_ ?_<;>intro _
   refine al hk ?_
   repeat' first|refine go ?_|simp only[Int.reduceBEq]|decide|refine sp ?_ ?_<;>intro _
   refine al (eQ s.don xn hd) ?_
   repeat' first|refine go ?_|decide|refine sp ?_ ?_<;>intro _
  have hpre:∀(a:Bool)(q:List Bool),r0=a :: q->∃e0,e=e0+1:=fun a q hq=>by
   cases e with
   | zero=>
    simp[cO] at h1;rw[h1] at hq;cases hq
   | succ e0=>exact⟨e0,rfl⟩
  split at h2
  .rename_i hop;have ha:be (l.map aw.op)[e]=1:=by rw[eo];unfold be;rw[UX (by omega),UZ (by omega)]
   have hk:=Oz (l.map aw.op) e hel ha (by simp;omega);subst hop;split at h2
   .rename_i a q;obtain⟨e0,rfl⟩:=hpre a q rfl;have ee:((e0+1:Nat):Int)-1=(e0:Int):=(by omega);rw[ee] at hk;have h3:=ih e0 (by omega) a q (by omega) h1;cases h2
    repeat' first|refine go ?_|simp only[ab,he,ex]|decide|refine sp ?_ ?_<;>intro _
    refine dg hk (.inr (bk (l:=[(e0:Int)]))) ?_
    repeat' first|refine go ?_|simp only[Int.reduceBEq]|decide|refine sp ?_ ?_<;>intro _
    refine ay (by kernel_rfl) ?_
    repeat' first|refine go ?_|simp only[Int.reduceLT,Int.reduceLE,Xr,z1,z2,z3]|decide|refine sp ?_ ?_<;>intro _
    refine aO h3 ?_
    repeat' first|refine go ?_|decide|refine sp ?_ ?_<;>intro _
   .cases h2
  split at h2
  .rename_i hop;have ha:be (l.map aw.op)[e]=2:=by rw[eo];unfold be;rw[UX (by omega),UX (by omega),UZ (by omega)]
   have hk:=M8 (l.map aw.op) e hel ha (by simp;omega);split at h2
   .rename_i b a q;obtain⟨e0,rfl⟩:=hpre b (a :: q) rfl;have ee:((e0+1:Nat):Int)-1=(e0:Int):=(by omega);have h3:=ih e0 (by omega) b (a :: q) (by omega) h1;obtain⟨bg,h4,h5,h6⟩:=JZ (by omega) h1
    have h7:∃b0,bg=b0+1:=by
     cases bg with
     | zero=>simp[cO] at h6
     | succ b0=>exact⟨b0,rfl⟩
    obtain⟨b0,rfl⟩:=h7;have eb:((b0+1:Nat):Int)-1=(b0:Int):=(by omega);rw[ee,h5,eb] at hk;have h8:=ih b0 (by omega) a q (by omega) h6;cases h2;have h9:op=16\/op=17\/op=18:=(by omega);rcases h9 with rfl|rfl|rfl
    all_goals
     repeat' first|refine go ?_|simp only[ab,he,ex]|decide|refine sp ?_ ?_<;>intro _
     refine dg hk (.inr (bk (l:=[(b0:Int),(e0:Int)]))) ?_
     repeat' first|refine go ?_|simp only[Int.reduceBEq]|decide|refine sp ?_ ?_<;>intro _
     refine ay (by kernel_rfl) ?_
     repeat' first|refine go ?_|simp only[Int.reduceLT,Int.reduceLE,Xr,z1,z2,z3]|decide|refine sp ?_ ?_<;>intro _
     refine aO h8 ?_
     repeat' first|refine go ?_|simp only[Int.reduceLT,Int.reduceLE,Xr,z1,z2,z3,Int.toNat_one]|decide|refine sp ?_ ?_<;>intro _
     all_goals first|(refine aO h3 ?_;(repeat' (first|refine go ?_|decide|refine sp ?_ ?_<;>intro _)))|skip
     all_goals first|rfl|(simp_all;done)
   .cases h2
  .cases h2
end
section
theorem NC(l:List Int)(i:Int)(k d:Nat)(x:Int)(h:gi l i k=pS l x)(hx:¬da l x):gi l i (k+d) = -1:=
 yO l i k (by rw[h];exact((fv l x).resolve_left fun hh=>hx hh.1).2) d
theorem Rx(l:List Int)(v:Value)(i n:Int)(w:World)(hl:l.length<=1073741824)(hn0:0<=n)(hn:n<=4294967296)(hv:RI w v l) :
  Calls Tryz.prog 84 #[v,.int .i64 i,.int .i64 n] w fun e w'=>e=.returned (.int .i64 (gi l i n.toNat))/\w=w':=by
 obtain⟨A,c,rfl,hc⟩:=hv.form;obtain⟨N,rfl⟩:=WZ hn0;rw[VD]
 go_enter Tryz.func84,Tryz.ntmps84
 go_wp2_with fail
 go_loop [1,7] (fun x j=>∃(k:Nat)(y:Int),k<=N/\j=.int .i64 (k:Int)/\x=.int .i64 y/\gi l i k=pS l y) (fun x j=>N-(intOf j).toNat)
 case atStart=>exact⟨0,i,UR _,rfl,rfl,rfl⟩
 case round=>
  obtain⟨k,y,hk,rfl,rfl,hup⟩:=hrel;by_cases hlt:k<N
  .by_cases hy:da l y
   .obtain ⟨hy1,hy2⟩:=hy;obtain⟨z,rfl⟩:=WZ hy1;obtain⟨b,o,rfl,hcell,hb1,hb2⟩:=hv.at_ (show z<l.length by omega)
    have e:gi l i (k+1)=pS l (l.getD z 0):=by
     show fF l (gi l i k)=_;rw[hup,yk];unfold fF;rw[UZ ⟨hy1,hy2⟩];simp
    have E:=ar e;clear hup e;generalize l.getD z 0=y' at *
    go_wp2_with fail
    go_round
    case rel=>exact⟨k+1,y',by omega,by go_num,rfl,E.out⟩
    case measure=>simp[intOf];omega
   .have e:=NC l i k (N-k) y hup hy;rw[show k+(N-k)=N from by omega] at e;have E:=ar e;clear e hup;by_cases h0:0<=y
    .have h1:(l.length:Int)<=y:=by unfold da at hy;omega
     clear hy
     go_wp2_with fail
     go_ret
     rw[E.out];exact⟨rfl,rfl⟩
    .clear hy
     go_wp2_with fail
     go_ret
     rw[E.out];exact⟨rfl,rfl⟩
  .obtain rfl:k=N:=by omega
   by_cases hy:da l y
   .have e:gi l i k=y:=by rw[hup];exact((fv l y).resolve_right fun hh=>hh.1 hy).2
    have E:=ar e;clear e hup;obtain⟨hy1,hy2⟩:=hy
    go_wp2_with fail
    go_ret
    rw[E.out];exact⟨rfl,rfl⟩
   .have e:gi l i k = -1:=by rw[hup];exact((fv l y).resolve_left fun hh=>hy hh.1).2
    have E:=ar e;clear e hup;by_cases h0:0<=y
    .have h1:(l.length:Int)<=y:=by unfold da at hy;omega
     clear hy
     go_wp2_with fail
     go_ret
     rw[E.out];exact⟨rfl,rfl⟩
    .clear hy
     go_wp2_with fail
     go_ret
     rw[E.out];exact⟨rfl,rfl⟩
noncomputable instance (l:List Int) (a i:Int):Decidable (Mp l a i):=Classical.propDecidable _
theorem IP(l:List Int)(v:Value)(a i:Int)(w:World)(hl:l.length<=1073741824)(hv:RI w v l) :
  Calls Tryz.prog 40 #[v,.int .i64 a,.int .i64 i] w fun e w'=>e=.returned (.bool (decide (Mp l a i)))/\w=w':=by
 obtain⟨A,c,rfl,hc⟩:=hv.form
 go_enter Tryz.func40,Tryz.ntmps40
 go_wp2_with fail
 go_loop [7] (fun j=>∃k:Nat,1<=k/\k<=l.length+1/\j=.int .i64 (k:Int)/\∀m,1<=m->m<k->¬(0<=a/\gi l i m=a)) (fun j=>l.length+1-(intOf j).toNat)
 case atStart=>exact⟨1,UU _,by omega,rfl,fun m h1 h2=>by omega⟩
 case round=>
  obtain⟨k,hk1,hk,rfl,hno⟩:=hrel;have Hno:=ar hno;clear hno;by_cases hlt:k<=l.length
  .have hup:=Rx l _ i (k:Int) w hl (by omega) (by omega) hv;rw[VD] at hup;have hyes:0<=a->gi l i k=a->decide (Mp l a i)=true:=fun h1 h2=>Vb ⟨k,hk1,hlt,h1,h2⟩
   have hnext:¬(0<=a/\gi l i k=a)->∀m,1<=m->m<k+1->¬(0<=a/\gi l i m=a):=fun h m h1 h2=>by
    by_cases e:m=k
    .subst e;exact h
    .exact Hno.out m h1 (by omega)
   have Hup:=ar hup;have Hyes:=ar hyes;have Hnext:=ar hnext;clear hup hyes hnext Hno;generalize gi l i k=y at *;by_cases h0:0<=a
   .by_cases h1:y=a
    .have h2:(y == a)=true:=(by simpa using h1);have E:=ar (Hyes.out h0 h1);clear h1
     go_wp2_with (go_at_call 84;refine Hup.out.mono ?_;rintro e w' ⟨rfl,rfl⟩)
     go_ret
     rw[E.out];exact⟨rfl,rfl⟩
    .have h2:(y == a)=false:=(by simpa using h1);have E:=ar (Hnext.out (fun hh=>h1 hh.2));clear h1
     go_wp2_with (go_at_call 84;refine Hup.out.mono ?_;rintro e w' ⟨rfl,rfl⟩)
     go_round
     case rel=>exact⟨k+1,by omega,by omega,by go_num,E.out⟩
     case measure=>simp[intOf];omega
   .have E:=ar (Hnext.out (fun hh=>h0 hh.1))
    go_wp2_with fail
    go_round
    case rel=>exact⟨k+1,by omega,by omega,by go_num,E.out⟩
    case measure=>simp[intOf];omega
  .have e:decide (Mp l a i)=false:=by
    refine U5 fun⟨m,h1,h2,h3,h4⟩=>Hno.out m h1 (by omega) ⟨h3,h4⟩
   have E:=ar e;clear e
   go_wp2_with fail
   go_ret
   rw[E.out];exact⟨rfl,rfl⟩
end
section
def fl(p:Nat->Bool)(k:Nat):List Int:=((List.range k).filter p).map fun(n:Nat)=>(n:Int)
theorem Q8(p:Nat->Bool)(k:Nat)(h:p k=true):fl p (k+1)=fl p k ++ [(k:Int)]:=by simp[fl,V5,h]
theorem Pv(p:Nat->Bool)(k:Nat)(h:p k=false):fl p (k+1)=fl p k:=by simp[fl,V5,h]
theorem PW(p:Nat->Bool)(k:Nat):(fl p k).length<=k:=by
 have:=WN p (List.range k);simpa[fl] using this
theorem sw(l:List Int)(i:Int):∀x∈bI l i,da l x:=by
 obtain⟨m,p,h,_⟩:=kS l i;exact h.at_
theorem uV(l:List Int)(i:Int):(bI l i).length<=l.length:=by
 obtain⟨m,p,h,_⟩:=kS l i;rw[h.len];exact h.room
theorem RI.list{w:World}{base:Nat}{v:Value}{n:Nat}{l L:List Int}(h:w.ownsRow base 3 1 v n (L.map (Value.int .i64)))(hx:∀x∈L,da l x)(hl:l.length<=1073741824):RI w v L:=
 RI.own h fun x hh=>by have:=hx x hh;unfold da at this;omega
end
section
theorem SY{p:Nat->Bool}{k:Nat}{w wr:World}{v v2:Value}{w1 w2:World}(h:p k=true)(hb:Below w.heap.size w wr)(hb1:Below wr.heap.size wr w1)
  (hown:w1.ownsRow w.heap.size 3 1 v (fl p k).length ((fl p k).map (Value.int .i64)))
  (hown2:w2.ownsRow w.heap.size 3 1 v2 ((fl p k).length+1) ((fl p k).map (Value.int .i64) ++ [Value.int .i64 (k:Int)])) (hg2:(w1.alloc (.cells #[.int .i64 (k:Int)] 3)).grownBy w2 v.ownBlock) :
  w2.ownsRow w.heap.size 3 1 v2 (fl p (k+1)).length ((fl p (k+1)).map (Value.int .i64))/\Below w.heap.size w w2:=by
 have hb0:=hb.trans (hb1.mono hb.size);refine⟨?_,(hb0.alloc hb0.size _).grown hg2 (by have:=hb0.size;simp;omega) (fun g hg=>(hown.lt g hg).1)⟩;rw[Q8 p k h,UW,Vc];exact hown2
theorem G4(l:List Int)(v:Value)(i:Int)(w:World)(hl:l.length<=1073741824)(hv:RI w v l) :
  Calls Tryz.prog 153 #[v,.int .i64 i] w (tg (dB l i) w):=by
 obtain⟨i0,hi0,hz0,hz1,hz2⟩:=info_parts D6;obtain⟨A,c,rfl,hc⟩:=hv.form;by_cases hi:da l i
 .obtain ⟨p,hp⟩:∃p:Nat->Bool,p=fun(k:Nat)=>decide ((k:Int)≠i/\i∈bI l (k:Int)):=⟨_,rfl⟩;have e:dB l i=fl p l.length:=by unfold dB;rw[UZ hi,hp];rfl
  rw[e];have Hp:=ar hp;clear hp e;obtain⟨hi1,hi2⟩:=hi
  go_enter Tryz.func153,Tryz.ntmps153
  go_wp2_with fail
  go_loopw [5,18] (fun u j wr=>∃k:Nat,k<=l.length/\j=.int .i64 (k:Int)/\wr.ownsRow w.heap.size 3 1 u (fl p k).length ((fl p k).map (Value.int .i64))/\Below w.heap.size w wr) (fun u j wr=>l.length-(intOf j).toNat)
  case atStart=>exact⟨0,UR _,rfl,World.ownsRow_nil _ _ _ _,Below.refl _ _⟩
  case round=>
   obtain⟨k,hk,rfl,hown,hb⟩:=hrel;have hfl:=PW p k;by_cases hlt:k<l.length
   .have hv1:=hv.below hb;by_cases hki:(k:Int)=i
    .have h1:((k:Int) != i)=false:=(by simp[hki]);have hpk:p k=false:=by rw[Hp.out];simp[hki]
     have E:=ar (Pv p k hpk);clear hki hpk
     go_wp2_with fail
     go_roundw
     case rel=>exact⟨k+1,by omega,by go_num,by rw[E.out];exact hown,hb⟩
     case measure=>simp[intOf];omega
    .have h1:((k:Int) != i)=true:=(by simp[hki]);have ha:=pU l _ (k:Int) wr hl hv1;have hab:=sw l (k:Int);have hal:=uV l (k:Int);have hpk:p k=decide (i∈bI l (k:Int)):=by rw[Hp.out];simp[hki]
     generalize bI l (k:Int)=L at *;have Ha:=ar ha;have Hab:=ar hab;have Hpk:=ar hpk;clear ha hab hpk hki;by_cases hm:i∈L
     .have hpk:p k=true:=by rw[Hpk.out];exact Vb hm
      have HP:=ar hpk;have hd:=Vb hm;clear hpk hm;have HD:=ar hd;clear hd
      go_wp2_with fail
      refine Ha.out.mono ?_;rintro e w1 ⟨v1,rfl,hown1,hb1⟩;have hri:=RI.list hown1 Hab.out hl;have hcn:=lf L v1 i w1 (by omega) hri;rw[HD.out] at hcn;have Hcn:=ar hcn;have hownk:=sO hown hb1;have hb0:=hb.trans (hb1.mono hb.size);clear hcn hown;obtain⟨A',c',rfl,hc'⟩:=gy hownk
      go_wp2_with (first
       | (go_at_call 142;refine Hcn.out.mono ?_;rintro e w2 ⟨rfl,rfl⟩)
       | (at_builtin;refine wpList_append_own _ rfl (.tmp 31) (.tmp 33) 52 rfl w.heap.size 3 i0 _ 1 8 Tryz.underlying52 hi0 hz0 hz1 hz2 rfl (by omega) _ (fl p k).length _ rfl (hownk.alloc _) ⟨w1.heap.size,0,none⟩ 1 1 [.int .i64 (k:Int)] rfl rfl (Er _ _ _) (D9 _) (by unfold maxLen;omega) (by omega) (by have:=hb0.size;simp;omega) ?_;intro v2 w2 hown2 hg2 _))
      go_roundw
      case rel=>exact⟨k+1,by omega,by go_num,SY HP.out hb hb1 hownk hown2 hg2⟩
      case measure=>simp[intOf];omega
     .have hpk:p k=false:=by rw[Hpk.out];exact U5 hm
      have E:=ar (Pv p k hpk);have HD:=ar (U5 hm);clear hpk hm
      go_wp2_with fail
      refine Ha.out.mono ?_;rintro e w1 ⟨v1,rfl,hown1,hb1⟩;have hri:=RI.list hown1 Hab.out hl;have hcn:=lf L v1 i w1 (by omega) hri;rw[HD.out] at hcn;have Hcn:=ar hcn;have hownk:=sO hown hb1;have hb0:=hb.trans (hb1.mono hb.size);clear hcn hown
      go_wp2_with (go_at_call 142;refine Hcn.out.mono ?_;rintro e w2 ⟨rfl,rfl⟩)
      go_roundw
      case rel=>exact⟨k+1,by omega,by go_num,by rw[E.out];exact hownk,hb0⟩
      case measure=>simp[intOf];omega
   .obtain rfl:k=l.length:=by omega
    go_wp2_with fail
    go_ret
    exact⟨_,rfl,hown,hb⟩
 .have e:dB l i=[]:=by unfold dB;rw[UX hi]
  rw[e];clear e;by_cases h0:0<=i
  .have h1:(l.length:Int)<=i:=by unfold da at hi;omega
   go_enter Tryz.func153,Tryz.ntmps153
   go_wp2_with fail
   go_ret
   exact⟨_,rfl,World.ownsRow_nil _ _ _ _,Below.refl _ _⟩
  .go_enter Tryz.func153,Tryz.ntmps153
   go_wp2_with fail
   go_ret
   exact⟨_,rfl,World.ownsRow_nil _ _ _ _,Below.refl _ _⟩
theorem t6(l:List Int)(k:Nat)(hk:k<l.length)(hno:∀j,j<k->¬j0 l (j:Int))(hy:j0 l (k:Int)):dW l=(k:Int):=by
 unfold dW
 have:(List.range l.length).find? (fun(i:Nat)=>decide (j0 l (i:Int)))=some k:=by
  rw[List.find?_range_eq_some];exact⟨by simpa using hy,by simpa using hk,fun j hj=>by simpa using hno j hj⟩
 rw[this];rfl
theorem vw(l:List Int)(hno:∀j,j<l.length->¬j0 l (j:Int)):dW l = -1:=by
 unfold dW
 have:(List.range l.length).find? (fun(i:Nat)=>decide (j0 l (i:Int)))=none:=by
  rw[List.find?_eq_none];intro j hj;simpa using hno j (by simpa using hj)
 rw[this];rfl
theorem ue(l:List Int)(v:Value)(w:World)(hl:l.length<=1073741824)(hv:RI w v l) :
  Calls Tryz.prog 15 #[v] w fun e w'=>e=.returned (.int .i64 (dW l))/\Below w.heap.size w w':=by
 obtain⟨A,c,rfl,hc⟩:=hv.form
 go_enter Tryz.func15,Tryz.ntmps15
 go_wp2_with fail
 go_loop [3] (fun j=>∃k:Nat,k<=l.length/\j=.int .i64 (k:Int)/\∀m,m<k->¬j0 l (m:Int)) (fun j=>l.length-(intOf j).toNat)
 case atStart=>exact⟨0,UR _,rfl,fun m hm=>by omega⟩
 case round=>
  obtain⟨k,hk,rfl,hno⟩:=hrel;have Hno:=ar hno;clear hno;by_cases hlt:k<l.length
  .have ha:=IP l _ (k:Int) (k:Int) w hl hv;have hci:=A1 l (k:Int) ⟨by omega,by omega⟩
   have e:decide (Mp l (k:Int) (k:Int))=decide (j0 l (k:Int)):=by
    refine decide_eq_decide.2 ⟨fun⟨j,h1,h2,_,h3⟩=>hci.2 ⟨j,h1,h2,h3⟩,fun h=>?_⟩;obtain⟨j,h1,h2,h3⟩:=hci.1 h;exact⟨j,h1,h2,by omega,h3⟩
   rw[e] at ha;by_cases hy:j0 l (k:Int)
   .rw [Vb hy] at ha;have Ha:=ar ha;have E:=ar (t6 l k hlt Hno.out hy);clear ha e hci hy
    go_wp2_with (go_at_call 40;refine Ha.out.mono ?_;rintro e w2 ⟨rfl,rfl⟩)
    go_ret
    rw[E.out];exact⟨rfl,Below.refl _ _⟩
   .rw [U5 hy] at ha;have Ha:=ar ha;have Hy:=ar hy;clear ha e hci hy
    go_wp2_with (go_at_call 40;refine Ha.out.mono ?_;rintro e w2 ⟨rfl,rfl⟩)
    go_round
    case rel=>
     refine⟨k+1,by omega,by go_num,fun m hm=>?_⟩;by_cases e:m=k
     .subst e;exact Hy.out
     .exact Hno.out m (by omega)
    case measure=>simp[intOf];omega
  .obtain rfl:k=l.length:=by omega
   have E:=ar (vw l Hno.out)
   go_wp2_with fail
   go_ret
   rw[E.out];exact⟨rfl,Below.refl _ _⟩
theorem B3(l:List Int)(v:Value)(w:World)(hl:l.length<=1073741824)(hv:RI w v l) :
  Calls Tryz.prog 55 #[v] w fun e w'=>e=.returned (.int .i64 (dW l))/\Below w.heap.size w w':=by
 obtain⟨A,c,rfl,hc⟩:=hv.form
 go_enter Tryz.func55,Tryz.ntmps55
 go_wp2_with fail
 go_loopw [10] (fun j wr=>∃k:Nat,k<=l.length/\j=.int .i64 (k:Int)/\(∀m,m<k->¬j0 l (m:Int))/\Below w.heap.size w wr) (fun j wr=>l.length-(intOf j).toNat)
 case atStart=>exact⟨0,UR _,rfl,fun m hm=>by omega,Below.refl _ _⟩
 case round=>
  obtain⟨k,hk,rfl,hno,hb⟩:=hrel;have Hno:=ar hno;clear hno;by_cases hlt:k<l.length
  .have ha:=pU l _ (k:Int) wr hl (hv.below hb);have hab:=sw l (k:Int);have hal:=uV l (k:Int);have hcd:j0 l (k:Int)↔fF l (((bI l (k:Int)).getLast?).getD (k:Int))=(k:Int):=⟨fun h=>h.2,fun h=>⟨⟨by omega,by omega⟩,h⟩⟩;generalize bI l (k:Int)=L at *;have Ha:=ar ha;have Hab:=ar hab;have Hcd:=ar hcd;clear ha hab hcd;have hin:=fun(q:Int) (w1:World) (h:RI w1 (.slice A l.length c) l)=>CR l _ q w1 (by omega) h;have Hin:=ar hin;clear hin
   go_upto_if 19 with (go_at_call 102;refine Ha.out.mono ?_;rintro e w1 ⟨v1,rfl,hown1,hb1⟩;obtain⟨A',c',rfl,hc'⟩:=gy hown1)
   have hri:=RI.list hown1 Hab.out hl;have hb0:=hb.trans (hb1.mono hb.size);clear hown1
   go_cut [4] (fun u wx=>u=.int .i64 ((L.getLast?).getD (k:Int))/\w1=wx)
   case first=>
    by_cases hL:0<L.length
    .obtain ⟨b,o,rfl,hcell,_,_⟩:=hri.at_ (show L.length-1<L.length by omega)
     have e:L.getD (L.length-1) 0=(L.getLast?).getD (k:Int):=by
      rw[List.getLast?_eq_getElem?,List.getD,p0 (show L.length-1<L.length by omega)];rfl
     have E:=ar e;generalize (L.getLast?).getD (k:Int)=z at *;rw[e] at hcell;clear e
     go_wp2_with fail
     go_meet
     case rel=>exact⟨rfl,rfl⟩
    .have e:(L.getLast?).getD (k:Int)=(k:Int):=by
      obtain rfl:L=[]:=VW (by omega);rfl
     have E:=ar e;clear e;generalize (L.getLast?).getD (k:Int)=z at *
     go_wp2_with fail
     go_meet
     case rel=>exact⟨by rw[E.out],rfl⟩
   case rest=>
    obtain⟨rfl,rfl⟩:=hcut;have hq:=Hin.out ((L.getLast?).getD (k:Int)) w1 (hv.below hb0);generalize (L.getLast?).getD (k:Int)=z at *;have Hq:=ar hq;clear hq Hin;have hpz:fF l z = -1\/da l (fF l z):=Bv l z;by_cases hy:j0 l (k:Int)
    .have e:=Hcd.out.1 hy;have h1:(fF l z == (k:Int))=true:=(by simpa using e)
     have hq2:Calls Tryz.prog 103 #[.slice A l.length c,.int .i64 z] w1 fun e w'=>e=.returned (.tuple #[.int .i64 (k:Int),.bool true])/\w1=w':=by
      have:=Dz l _ z (k:Int) w1 (by omega) (hv.below hb0) e ⟨by omega,by omega⟩;exact this
     have Hq2:=ar hq2;have E:=ar (t6 l k hlt Hno.out hy);clear hy e h1 hq2 hpz Hq
     go_wp2_with (go_at_call 103;refine Hq2.out.mono ?_;rintro e w2 ⟨rfl,rfl⟩)
     go_ret
     rw[E.out];exact⟨rfl,hb0⟩
    .have hne:fF l z≠(k:Int):=fun e=>hy (Hcd.out.2 e);have Hy:=ar hy;rcases hpz with hpz|hpz
     .have Hq2:=ar (PN l _ z w1 (by omega) (hv.below hb0) hpz);clear hy hne hpz Hq
      go_wp2_with (go_at_call 103;refine Hq2.out.mono ?_;rintro e w2 ⟨rfl,rfl⟩)
      go_roundw
      case rel=>
       refine⟨k+1,by omega,by go_num,fun m hm=>?_,hb0⟩;by_cases e:m=k
       .subst e;exact Hy.out
       .exact Hno.out m (by omega)
      case measure=>simp[intOf];omega
     .have Hq2:=ar (Dz l _ z _ w1 (by omega) (hv.below hb0) rfl hpz);have h1:(fF l z == (k:Int))=false:=(by simpa using hne);generalize fF l z=y at *;clear hy hne hpz Hq
      go_wp2_with (go_at_call 103;refine Hq2.out.mono ?_;rintro e w2 ⟨rfl,rfl⟩)
      go_roundw
      case rel=>
       refine⟨k+1,by omega,by go_num,fun m hm=>?_,hb0⟩;by_cases e:m=k
       .subst e;exact Hy.out
       .exact Hno.out m (by omega)
      case measure=>simp[intOf];omega
  .obtain rfl:k=l.length:=by omega
   have E:=ar (vw l Hno.out)
   go_wp2_with fail
   go_ret
   rw[E.out];exact⟨rfl,hb⟩
end
section
theorem lN{l:List Int}(hn:∀k:Nat,k<l.length->¬j0 l (k:Int)){i:Int}(hi:da l i){m:Nat}{p:Int}(h:mo l i m p (bI l i))(hs:m9 l i p (bI l i)):gi l i (m+1) = -1:=by
 have hnc:∀x,da l x->∀j,1<=j->j<=l.length->gi l x j≠x:=by
  intro x hx j h1 h2 h3;obtain⟨n,rfl⟩:=WZ hx.1;have hc:=(A1 l n hx).2 ⟨j,h1,h2,h3⟩;exact hn n (by have:=hx.2;omega) hc
 rw[<- h.cur];rcases hs with hs|hs|hs
 .exact hs
 .exfalso;have hnd:(i :: bI l i).Nodup:=List.nodup_cons.2 ⟨h.not,h.nodup⟩
  have hlen:=pD l.length _ hnd (fun x hx=>by
   rcases VL.1 hx with rfl|hx
   .exact hi
   .exact h.at_ x hx)
  simp[h.len] at hlen;exact hnc i hi (m+1) (by omega) hlen (by rw[<- h.cur];exact hs)
 .exfalso;obtain⟨a,ha⟩:=List.mem_iff_getElem?.1 hs;have ham:a<m:=by rw[<- h.len];exact(US.1 ha).1
  rw[h.eq a ham,h.cur] at ha;have ha:=Wk ha;have hat:da l (gi l i (a+1)):=h.at_ _ (r2 (h.eq a ham))
  have sh:∀d,gi l (gi l i (a+1)) d=gi l i (a+1+d):=by
   intro d
   induction d with
   | zero=>exact((fv l _).resolve_right fun hh=>hh.1 hat).2
   | succ d ih=>show fF l _=fF l _;rw[ih];rfl
  refine hnc _ hat (m-a) (by omega) (by have:=h.room;omega) ?_;rw[sh,ha]
  congr 1
  omega
theorem zz(l:List Int)(h:dW l<0):∀k:Nat,k<l.length->¬j0 l (k:Int):=by
 intro k hk hc;unfold dW at h
 cases hf:(List.range l.length).find? (fun(i:Nat)=>decide (j0 l (i:Int))) with
 | none=>
  rw[List.find?_eq_none] at hf;have:=hf k (by simpa using hk);simp[hc] at this
 | some n=>
  rw[hf] at h;simp at h;omega
theorem pv(l:List Int)(i k:Int)(hi:da l i)(hk:da l k):(i∈bI l k)↔(k∈dB l i):=by
 obtain⟨n,rfl⟩:=WZ hk.1;unfold dB;rw[UZ hi];simp only[U3,Xg,Wu,U7];refine⟨fun h=>⟨n,⟨by have:=hk.2;omega,fun e=>?_,h⟩,rfl⟩,fun⟨a,⟨_,_,h⟩,e⟩=>?_⟩
 .obtain ⟨m,p,hu,_⟩:=kS l (n:Int);rw[<- e] at h;exact hu.not h
 .have:a=n:=by omega
  subst this;exact h
end
section
theorem sy{w:World}{base:Nat}{e:TypeId}{g n c:Nat}{xs:List Value}(h:w.ownsRow base e 1 (.slice (some ⟨g,0,none⟩) n c) n xs){k:Nat}(hk:k<=n):w.ownsRow base e 1 (.slice (some ⟨g,0,none⟩) k c) k (xs.take k):=by
 obtain⟨hl,h|⟨g',cap,cur,hv,hb,hg,hn,hm,hs,ht⟩⟩:=h
 .exact absurd h.1 (by simp)
 .simp at hv;obtain⟨rfl,rfl⟩:=hv;refine⟨by simp at hl ⊢;omega,.inr ⟨g,c,cur,rfl,hb,hg,by omega,hm,hs,?_⟩⟩;rw[<- ht,List.take_take]
  congr 1
  omega
theorem qC(w:World)(v:Value)(t:TypeId):∀j u,[v][j]? = some u->(w.alloc (.cells #[v] t)).cell? ((⟨w.heap.size,0,none⟩:Addr).add j)=some u:=mW w [v] t
theorem oa(w:World)(v:Value)(t:TypeId):∀j u,[v][j]? = some u->((w.alloc (.cells #[v] t)).drew).cell? ((⟨w.heap.size,0,none⟩:Addr).add j)=some u:=mW w [v] t
theorem rR:(Tryz.prog.info? 245).map (fun i=>(i.zero,i.size,i.bytes))=some (some .nilIface,1,16):=by kernel_rfl
theorem oS(t:TypeId)(x:Value):∀u∈[Value.iface t x],u.oneCell'=true:=by intro u hu;simp at hu;subst hu;rfl
def FH(p:TypeId×Value):Value:=.iface p.1 p.2
def ox(base d:Nat)(ok:Bool)(w:World)(B:Nat)(e:Ending)(w':World):Prop:=∃v xs,e=.returned (.tuple #[v,.bool ok])/\w'.ownsRow base 245 1 v d (List.map FH xs)/\Below B w w'
theorem TQ(op i:Int)(v:Value)(n base B:Nat)(xs:List (TypeId×Value))(w:World)(ho:be op=0)(hown:w.ownsRow base 245 1 v n (xs.map FH))(hn:n<=1000)(hB:B<=base)(hb:base<=w.heap.size) :
  Calls Tryz.prog 222 #[v,.int .i64 op,.int .i64 i] w (ox base (n+1) true w B):=by
 obtain⟨i0,hi0,hz0,hz1,hz2⟩:=info_parts rR;have Ho:=ar ho;clear ho;obtain⟨A,c,rfl,hc⟩:=gy hown
 go_enter Tryz.func222,Tryz.ntmps222
 go_wp2_with (first
  | (go_at_call 226;refine(mI _ _).mono ?_;rintro e w' ⟨rfl,rfl⟩;rw[Ho.out])
  | (at_builtin;refine wpList_append_own _ rfl _ _ 266 rfl base 245 i0 .nilIface 1 16 Tryz.underlying266 hi0 hz0 hz1 hz2 rfl (by decide) _ _ _ rfl (hown.alloc _) ⟨w.heap.size,0,none⟩ 1 1 [.iface 275 (.agg #[.int .i64 i])] rfl rfl (qC _ _ _) (oS _ _) (by unfold maxLen;omega) (by omega) (by simp;omega) ?_;intro v' w1 hown' hgrow _))
 go_ret2
 exact⟨v',xs ++ [(275,.agg #[.int .i64 i])],rfl,by rw[Vc];exact hown',((Below.refl _ _).alloc (by omega) _).grown hgrow (by simp;omega) (fun k hk=>by have:=(hown.lt k hk).1;omega)⟩
theorem Tr(op i:Int)(v:Value)(n base B:Nat)(xs:List (TypeId×Value))(w:World)(ho:be op=1)(h1:1<=n)(hown:w.ownsRow base 245 1 v n (xs.map FH))(hn:n<=1000)(hB:B<=base)(hb:base<=w.heap.size) :
  Calls Tryz.prog 222 #[v,.int .i64 op,.int .i64 i] w (ox base n true w B):=by
 obtain⟨i0,hi0,hz0,hz1,hz2⟩:=info_parts rR;have Ho:=ar ho;clear ho;obtain⟨g,c,rfl,hc,hgb,hgw⟩:=o5 hown (by omega);have hlen:=hown.1;rw[Vd] at hlen;obtain⟨xt,xv,hx⟩:∃xt xv,(xs.map FH)[n-1]? = some (.iface xt xv):=⟨(xs[n-1]'(by omega)).1,(xs[n-1]'(by omega)).2,by rw[UV,p0 (by omega)];rfl⟩;have hcell:=kH hown rfl hx;have hown2:=sy hown (k:=n-1) (by omega);have Hown:=ar hown;have Hx:=ar hx;have Hlen:=ar hlen;clear hown hx hlen
 go_enter Tryz.func222,Tryz.ntmps222
 go_wp2_with (first
  | (go_at_call 226;refine(mI _ _).mono ?_;rintro e w' ⟨rfl,rfl⟩;rw[Ho.out])
  | fail)
 have s1:IntKind.i64.wrap ((n:Int)-1)=(n:Int)-1:=IntWalk.i64_in _ (by omega);have s2:0<=(n:Int)-1:=by omega
 have s3:((n:Int)-1).toNat=n-1:=by omega
 have s4:(n:Int)-1<=(c:Int):=by omega
 have s5:(n:Int)-1<(n:Int):=by omega
 go_region_law (refine step_append_lies _ rfl (.tmp 33) (.tmp 42) 266 rfl base 245 i0 .nilIface 1 16 Tryz.underlying266 hi0 hz0 hz1 hz2 rfl (by decide) _ (n-1) _ rfl (hown2.alloc _).drew ⟨w.heap.size,0,none⟩ 1 1 [.iface 277 (.agg #[.int .i64 i,.iface xt xv])] rfl rfl (oa _ _ _) (oS _ _) (by omega) (by unfold maxLen;omega) (by omega) (by simp;omega) _ rfl ?_;intro g2 c2 w2 hown3 hg2 hat hlt)
 have h4:w2.ownsRow base 245 1 (.slice (some ⟨g2,0,none⟩) n c2) n (List.map FH (xs.take (n-1) ++ [(277,.agg #[.int .i64 i,.iface xt xv])])):=by
  have h:=hown3;rw[Vc,List.map_take];rw[show n-1+1=n by omega] at h;exact h
 have hbl:Below B w w2:=(((Below.refl _ _).alloc (by omega) _).drew).grown hg2 (by simp;omega) (fun k hk=>by have:=(hown2.lt k hk).1;omega)
 go_wp2_with fail
 go_ret2
 exact⟨_,_,rfl,h4,hbl⟩
theorem Tv(op i:Int)(v:Value)(n base B:Nat)(xs:List (TypeId×Value))(w:World)(ho:be op=2)(h1:2<=n)(hown:w.ownsRow base 245 1 v n (xs.map FH))(hn:n<=1000)(hB:B<=base)(hb:base<=w.heap.size) :
  Calls Tryz.prog 222 #[v,.int .i64 op,.int .i64 i] w (ox base (n-1) true w B):=by
 obtain⟨i0,hi0,hz0,hz1,hz2⟩:=info_parts rR;have Ho:=ar ho;clear ho;obtain⟨g,c,rfl,hc,hgb,hgw⟩:=o5 hown (by omega);have hlen:=hown.1;rw[Vd] at hlen;obtain⟨xt,xv,hx⟩:∃xt xv,(xs.map FH)[n-1]? = some (.iface xt xv):=⟨(xs[n-1]'(by omega)).1,(xs[n-1]'(by omega)).2,by rw[UV,p0 (by omega)];rfl⟩;obtain⟨yt,yv,hy⟩:∃xt xv,(xs.map FH)[n-2]? = some (.iface xt xv):=⟨(xs[n-2]'(by omega)).1,(xs[n-2]'(by omega)).2,by rw[UV,p0 (by omega)];rfl⟩;have hcell:=kH hown rfl hx;have hcelly:=kH hown rfl hy;have hown2:=sy hown (k:=n-2) (by omega);have Hown:=ar hown;have Hx:=ar hx;have Hy:=ar hy;have Hlen:=ar hlen;clear hown hx hlen hy
 go_enter Tryz.func222,Tryz.ntmps222
 go_wp2_with (first
  | (go_at_call 226;refine(mI _ _).mono ?_;rintro e w' ⟨rfl,rfl⟩;rw[Ho.out])
  | fail)
 have s1:IntKind.i64.wrap ((n:Int)-1)=(n:Int)-1:=IntWalk.i64_in _ (by omega);have s2:0<=(n:Int)-1:=by omega
 have s3:((n:Int)-1).toNat=n-1:=by omega
 have s5:(n:Int)-1<(n:Int):=by omega
 have s6:IntKind.i64.wrap ((n:Int)-2)=(n:Int)-2:=IntWalk.i64_in _ (by omega);have s7:0<=(n:Int)-2:=by omega
 have s8:((n:Int)-2).toNat=n-2:=by omega
 have s9:(n:Int)-2<=(c:Int):=by omega
 have s10:(n:Int)-2<(n:Int):=by omega
 have s11:(1:Int)<=(n:Int):=by omega
 have s12:(2:Int)<=(n:Int):=by omega
 go_region_law (refine step_append_lies _ rfl (.tmp 54) (.tmp 68) 266 rfl base 245 i0 .nilIface 1 16 Tryz.underlying266 hi0 hz0 hz1 hz2 rfl (by decide) _ (n-2) _ rfl (hown2.alloc _).drew ⟨w.heap.size,0,none⟩ 1 1 [.iface 279 (.agg #[.int .i64 i,.iface yt yv,.iface xt xv])] rfl rfl (oa _ _ _) (oS _ _) (by omega) (by unfold maxLen;omega) (by omega) (by simp;omega) _ rfl ?_;intro g2 c2 w2 hown3 hg2 hat hlt)
 all_goals
  have h4:w2.ownsRow base 245 1 (.slice (some ⟨g2,0,none⟩) (n-2+1) c2) (n-1) (List.map FH (xs.take (n-2) ++ [(279,.agg #[.int .i64 i,.iface yt yv,.iface xt xv])])):=by
   have h:=hown3;rw[Vc,List.map_take];rw[show n-2+1=n-1 by omega] at h ⊢;exact h
  have hbl:Below B w w2:=(((Below.refl _ _).alloc (by omega) _).drew).grown hg2 (by simp;omega) (fun k hk=>by have:=(hown2.lt k hk).1;omega)
  go_wp2_with fail
  go_ret2
  exact⟨_,_,rfl,h4,hbl⟩
theorem QM(op i:Int)(v:Value)(n base B:Nat)(xs:List (TypeId×Value))(w:World)(ho:iY n op=none)(hown:w.ownsRow base 245 1 v n (xs.map FH))(hn:n<=1000)(hB:B<=base)(hb:base<=w.heap.size) :
  Calls Tryz.prog 222 #[v,.int .i64 op,.int .i64 i] w fun e w'=>e=.returned (.tuple #[v,.bool false])/\w=w':=by
 obtain⟨A,c,rfl,hc⟩:=gy hown;have Hown:=ar hown;clear hown
 have key:(be op=1/\n=0)\/(be op=2/\n=0)\/(be op=2/\n=1)\/be op = -1:=by
  unfold iY at ho;have:be op=0\/be op=1\/be op=2\/be op = -1:=by unfold be;(repeat' split)<;>simp
  split at ho
  .cases ho
  .split at ho
   .cases ho
   .split at ho
    .cases ho
    .omega
 clear ho;rcases key with ⟨ho,rfl⟩|⟨ho,rfl⟩|⟨ho,rfl⟩|ho
 all_goals
  have Ho:=ar ho;clear ho
  go_enter Tryz.func222,Tryz.ntmps222
  go_wp2_with (first
   | (go_at_call 226;refine(mI _ _).mono ?_;rintro e w' ⟨rfl,rfl⟩;rw[Ho.out])
   | fail)
  go_ret2
  exact⟨rfl,rfl⟩
theorem Lq(op i:Int)(v:Value)(n base B:Nat)(xs:List (TypeId×Value))(w:World){d:Nat}(ho:iY n op=some d)(hown:w.ownsRow base 245 1 v n (xs.map FH))(hn:n<=1000)(hB:B<=base)(hb:base<=w.heap.size) :
  Calls Tryz.prog 222 #[v,.int .i64 op,.int .i64 i] w (ox base d true w B):=by
 unfold iY at ho;split at ho
 .cases ho;exact TQ op i v n base B xs w (by assumption) hown hn hB hb
 .split at ho
  .rename_i h;cases ho;exact Tr op i v _ base B xs w h.1 h.2 hown hn hB hb
  .split at ho
   .rename_i h;cases ho;exact Tv op i v n base B xs w h.1 h.2 hown hn hB hb
   .cases ho
end
section
theorem qF(a b:List Int):∀d,dt (a ++ b) d=(dt a d).bind (dt b):=by
 induction a with
 | nil=>intro d;rfl
 | cons x a ih=>intro d;rw[Wc,dt,dt];cases iY d x<;>simp[ih]
theorem Gn(a:List Int)(x:Int)(d:Nat):dt (a ++ [x]) d=(dt a d).bind fun d'=>iY d' x:=by
 rw[qF]
 cases dt a d with
 | none=>rfl
 | some d'=>simp[dt];cases iY d' x<;>rfl
theorem IV{d op:_}{d':Nat}(h:iY d op=some d'):d'<=d+1:=by
 unfold iY at h;split at h
 .cases h;omega
 .split at h
  .cases h;omega
  .split at h
   .cases h;omega
   .cases h
def Fd(r:Int)(w:World)(e:Ending)(w':World):Prop:=∃v,e=.returned (.tuple #[v,.int .i64 r])/\Below w.heap.size w w'
theorem HH(l:List fa)(v:Value)(S:Nat->Prop)(w:World)(h:(aP t0).one w S v l)(hS:∀b,S b->b<w.heap.size) :
  Calls Tryz.prog 207 #[v] w (Fd (bF (l.map fa.op)) w):=by
 obtain⟨A,c,rfl,hc,hc2⟩:=dR h;by_cases h0:l.length=0
 .have e:bF (l.map fa.op)=12:=by unfold bF;rw[UZ (by simpa using h0)]
  rw[e,h0]
  go_enter Tryz.func207,Tryz.ntmps207
  go_wp2_with fail
  go_ret2
  exact⟨_,rfl,Below.refl _ _⟩
 .by_cases h1:64<l.length
  .have e:bF (l.map fa.op)=3:=by unfold bF;rw[UX (by simpa using h0),UZ (by simpa using h1)]
   rw[e];have hd:(((l.length:Nat):Int) == 0)=false:=Vv.2 (by omega);have hd2:decide ((64:Int)<(l.length:Int))=true:=by simp;omega
   go_enter Tryz.func207,Tryz.ntmps207
   go_wp2_with fail
   go_ret2
   exact⟨_,rfl,Below.refl _ _⟩
  .obtain ⟨b,o,rfl,hSb,hrow⟩:=dT h (by omega);have e:bF (l.map fa.op)=if dt (l.map fa.op) 0=some 1 then 0 else 17:=by unfold bF;rw[UX (by simpa using h0),UX (by simpa using h1)]
   rw[e];clear e;obtain⟨R,hR⟩:∃R,R=dt (l.map fa.op) 0:=⟨_,rfl⟩;rw[<- hR];obtain⟨E,hE⟩:∃E:Int,E=if R=some 1 then 0 else 17:=⟨_,rfl⟩;rw[<- hE];have HR:=ar hR;have HE:=ar hE;have Hsl:=ar h;clear hR hrow hE h;have hd:(((l.length:Nat):Int) == 0)=false:=Vv.2 (by omega);have hd2:decide ((64:Int)<(l.length:Int))=false:=by simp;omega
   go_enter Tryz.func207,Tryz.ntmps207
   go_wp2_with fail
   go_loopw [4,19] (fun rv iv wr=>∃(k d:Nat)(xs:List (TypeId×Value)),k<=l.length/\d<=k/\iv=.int .i64 (k:Int)/\dt ((l.take k).map fa.op) 0=some d/\wr.ownsRow w.heap.size 245 1 rv d (xs.map FH)/\Below w.heap.size w wr)
    (fun rv iv wr=>l.length-(intOf iv).toNat)
   case atStart=>exact⟨0,0,[],UR _,UU _,rfl,rfl,World.ownsRow_nil _ _ _ _,Below.refl _ _⟩
   case round=>
    obtain⟨k,d,xs,hk,hdk,rfl,hrn,hown,hbl⟩:=hrel;have Hrn:=ar hrn;clear hrn;by_cases hlt:k<l.length
    .obtain ⟨hcs,hok⟩:=KU (bV Hsl.out hbl hS) hlt;have hnx:=Gn ((l.take k).map fa.op) l[k].op 0;rw[Hrn.out] at hnx
     have hall:dt (l.map fa.op) 0=(dt ((l.take k).map fa.op ++ [l[k].op]) 0).bind (dt ((l.drop (k+1)).map fa.op)):=by
      rw[<- qF,Vw,List.singleton_append,<- VE,<- Xe hlt,<- Vc,Xd]
     rw[<- HR.out] at hall
     have htk:(l.take (k+1)).map fa.op=(l.take k).map fa.op ++ [l[k].op]:=by
      rw[U0 hlt,Vc];rfl
     have Hnx:=ar hnx;have Hall:=ar hall;have Htk:=ar htk;have Hok:=ar hok;have c0:=hcs 0 _ rfl;have c1:=hcs 1 _ rfl;have c2:=hcs 2 _ rfl;have c3:=hcs 3 _ rfl;have c4:=hcs 4 _ rfl;have c5:=hcs 5 _ rfl;have c6:=hcs 6 _ rfl;have c7:=hcs 7 _ rfl;have c8:=hcs 8 _ rfl;clear hnx hall htk hok hcs;generalize l[k]=x at *;obtain⟨xop,xln,xlv,xrn,xrv,xnm,xus,xli,xco⟩:=x;simp only[WT] at c0 c1 c2 c3 c4 c5 c6 c7 c8;have hsz:w.heap.size<=wr.heap.size:=hbl.size
     cases hp:iY d xop with
     | none=>
      have Hp:=ar hp;clear hp
      go_wp2_with fail
      refine(QM _ _ _ d w.heap.size 0 xs _ Hp.out (hown.alloc _) (by omega) (UR _) (by simp;omega)).mono ?_;rintro e w' ⟨rfl,rfl⟩
      go_wp2_with fail
      go_ret2
      have e17:E=17:=by
       rw[HE.out,Hall.out,Hnx.out];simp[Hp.out]
      exact⟨_,by rw[e17];rfl,hbl.alloc hsz _⟩
     | some d'=>
      have Hp:=ar hp;clear hp
      go_wp2_with fail
      refine(Lq _ _ _ d w.heap.size w.heap.size xs _ Hp.out (hown.alloc _) (by omega) (UU _) (by simp;omega)).mono ?_;rintro e w' ⟨v',xs',rfl,hown',hbl'⟩;have Hown:=ar hown;clear hown
      go_wp2_with fail
      go_roundw
      case rel=>exact⟨k+1,d',xs',by omega,by have:=IV Hp.out;omega,by go_num,by rw[Htk.out,Hnx.out];exact Hp.out,hown',(hbl.alloc hsz _).trans hbl'⟩
      case measure=>simp[intOf];omega
    .obtain rfl:k=l.length:=by omega
     have hf:=Hrn.out;rw[U6,<- HR.out] at hf;have Hf:=ar hf;clear hf;obtain⟨A,c',rfl,hc'⟩:=gy hown
     cases hd1:((d:Int) != 1) with
     | true=>
      have e17:E=17:=by
       rw[HE.out,Hf.out,UX (by simp at hd1 ⊢;omega)]
      have E17:=ar e17;clear e17
      go_wp2_with fail
      go_ret2
      exact⟨_,by rw[E17.out];rfl,hbl⟩
     | false=>
      obtain rfl:d=1:=by simp at hd1;omega
      have e0:E=0:=(by rw[HE.out,Hf.out,UZ rfl]);have E0:=ar e0;clear e0;have hxl:xs.length=1:=by have:=hown.1;simpa using this
      obtain⟨x,rfl⟩:∃x,xs=[x]:=List.length_eq_one_iff.1 hxl;obtain⟨g,c2,hv,hc2',_,_⟩:=o5 hown (by omega);cases hv;have hcell:=kH hown rfl (j:=0) (u:=FH x) rfl;clear hown hxl
      go_wp2_with fail
      go_ret2
      exact⟨_,by rw[E0.out];rfl,hbl⟩
theorem qm(l:List fa)(v:Value)(S:Nat->Prop)(w:World)(h:(aP t0).one w S v l)(hS:∀b,S b->b<w.heap.size) :
  Calls Tryz.prog 174 #[v] w fun e w'=>e=.returned (.int .i64 (bF (l.map fa.op)))/\Below w.heap.size w w':=by
 have H:=ar (HH l v S w h hS);clear h hS
 go_enter Tryz.func174,Tryz.ntmps174
 go_wp2_with (go_at_call 207;refine H.out.mono ?_;rintro e w' ⟨nv,rfl,hb⟩)
 go_ret
 exact⟨rfl,hb⟩
def gm(x:aw):fa:=⟨x.op,⟨#[]⟩,0,⟨#[]⟩,0,⟨#[]⟩,⟨#[]⟩,0,0⟩
theorem vJ(l:List aw):(l.map gm).map fa.op=l.map aw.op:=by rw[Xt];rfl
theorem LT:(Tryz.prog.info? 151).map (fun i=>(i.zero,i.size,i.bytes))=some (some (.agg #[.int .i64 0,.string ⟨#[]⟩,.int .i64 0,.string ⟨#[]⟩,.int .i64 0,.string ⟨#[]⟩,.string ⟨#[]⟩,.int .i64 0,.int .i64 0]),9,104):=by kernel_rfl
theorem xY(w:World)(g:Nat)(L:List Value)(t:TypeId)(hg:g=w.heap.size):∀j u,L[j]? = some u->(w.alloc (.cells L.toArray t)).cell? ((⟨g,0,none⟩:Addr).add j)=some u:=by
 subst hg;exact mW w L t
theorem LP(x:fa):∀u∈x.cells,u.oneCell'=true:=by
 intro u hu;simp only[fa.cells,VL,List.not_mem_nil,or_false] at hu;rcases hu with rfl|rfl|rfl|rfl|rfl|rfl|rfl|rfl|rfl<;>rfl
theorem uY(l:List aw)(v:Value)(S:Nat->Prop)(w:World)(h:(aP gJ).one w S v l)(hS:∀b,S b->b<w.heap.size)(hl:l.length<=1000) :
  Calls Tryz.prog 213 #[v] w fun e w'=>∃u,e=.returned u/\w'.ownsRow w.heap.size 151 9 u l.length ((l.map gm).flatMap fa.cells)/\Below w.heap.size w w':=by
 obtain⟨i0,hi0,hz0,hz1,hz2⟩:=info_parts LT;obtain⟨A,c,rfl,hc,hc2⟩:=dR h;have Hsl:=ar h;clear h
 go_enter Tryz.func213,Tryz.ntmps213
 go_wp2_with fail
 go_loopw [3,8] (fun rv iv wr=>∃(k:Nat),k<=l.length/\iv=.int .i64 (k:Int)/\wr.ownsRow w.heap.size 151 9 rv k (((l.take k).map gm).flatMap fa.cells)/\Below w.heap.size w wr)
  (fun rv iv wr=>l.length-(intOf iv).toNat)
 case atStart=>exact⟨0,UR _,rfl,World.ownsRow_nil _ _ _ _,Below.refl _ _⟩
 case round=>
  obtain⟨k,hk,rfl,hown,hbl⟩:=hrel;by_cases hlt:k<l.length
  .have hsl:=bV Hsl.out hbl hS;obtain⟨b,o,hv,_,_⟩:=dT hsl (by omega);subst hv;obtain⟨hcs,hok⟩:=tm hsl hlt
   have htk:((l.take (k+1)).map gm).flatMap fa.cells=((l.take k).map gm).flatMap fa.cells ++ (gm l[k]).cells:=by
    rw[U0 hlt,Vc,Wj];simp
   have Htk:=ar htk;have c0:=hcs 0 _ rfl;have c1:=hcs 1 _ rfl;have c2:=hcs 2 _ rfl;have c3:=hcs 3 _ rfl;have c4:=hcs 4 _ rfl;have c5:=hcs 5 _ rfl;have c6:=hcs 6 _ rfl;clear htk hok hcs hsl;generalize l[k]=x at *;obtain⟨xop,xla,xln,xra,xrn,xn,xu⟩:=x;simp only[WT] at c0 c1 c2 c3 c4 c5 c6;have hsz:w.heap.size<=wr.heap.size:=hbl.size
   go_wp2_with (at_builtin;refine wpList_append_own _ rfl _ _ 145 rfl w.heap.size 151 i0 (.agg #[.int .i64 0,.string ⟨#[]⟩,.int .i64 0,.string ⟨#[]⟩,.int .i64 0,.string ⟨#[]⟩,.string ⟨#[]⟩,.int .i64 0,.int .i64 0]) 9 104 Tryz.underlying145 hi0 hz0 hz1 hz2 rfl (by decide) _ _ _ rfl ((hown.alloc _).alloc _) ⟨wr.heap.size+1,0,none⟩ 1 1 [.int .i64 xop,.string ⟨#[]⟩,.int .i64 0,.string ⟨#[]⟩,.int .i64 0,.string ⟨#[]⟩,.string ⟨#[]⟩,.int .i64 0,.int .i64 0] rfl rfl (xY _ _ _ _ (by simp)) (LP (gm ⟨xop,0,0,0,0,0,0⟩)) (by unfold maxLen;omega) (by omega) (by simp;omega) ?_;intro v2 w2 hown2 hg2 _)
   have hb2:Below w.heap.size w w2:=((hbl.alloc hsz _).alloc (by simp;omega) _).grown hg2 (by simp;omega) (fun j hj=>(hown.lt j hj).1);have Hown:=ar hown;have Hown2:=ar hown2;clear hown hown2 hg2
   go_wp2_with fail
   go_roundw
   case rel=>exact⟨k+1,by omega,by go_num,by rw[Htk.out];exact Hown2.out,hb2⟩
   case measure=>simp[intOf];omega
  .obtain rfl:k=l.length:=by omega
   rw[U6] at hown;have Hown:=ar hown;clear hown
   go_wp2_with fail
   go_ret
   exact⟨_,rfl,Hown.out,hbl⟩
end
section
def ir:List PanicEntry:=[{ v:=.iface 259 (.agg #[]),recovered:=false }]
def lr(vv:Value)(o d:Int)(dv cv:Value):Array Value:=#[vv,.int .i64 o,.int .i64 d,dv,cv]
abbrev ng(vv:Value)(o d:Int)(dv cv:Value):Value:=.agg #[vv,.int .i64 o,.int .i64 d,dv,cv]
theorem sX(vals:List Int)(vv:Value)(S:Nat->Prop)(o d:Int)(dv cv:Value)(a n r:Int)(w:World)(h:(aP (eW .i64)).one w S vv vals)(hS:∀b,S b->b<w.heap.size)(hr:fT vals a n=some r) :
  Calls Tryz.prog 187 #[ng vv o d dv cv,.agg #[.int .i64 a,.int .i64 n]] w fun e w'=>e=.returned (.int .i64 r)/\w'=(w.alloc (.cells #[vv,.int .i64 o,.int .i64 d,dv,cv] 59)).alloc (.cells #[.int .i64 a,.int .i64 n] 117):=by
 unfold fT at hr;obtain⟨A,c,rfl,hc,hc2⟩:=dR h;by_cases h1:a = -1
 .rw [UZ h1] at hr;cases hr;subst h1
  go_enter Tryz.func187,Tryz.ntmps187
  go_wp2_with fail
  go_ret
  exact⟨rfl,rfl⟩
 .rw [UX h1] at hr;by_cases h2:a<0
  .rw [UZ h2] at hr;cases hr
  .rw [UX h2] at hr;obtain⟨k,rfl⟩:∃k:Nat,a=(k:Int):=⟨a.toNat,by omega⟩;rw[show(k:Int).toNat=k from rfl] at hr;have hk:=(US.1 hr).1;have hk2:=(US.1 hr).2;obtain⟨b,ob,rfl,hb,hrow⟩:=dT h (by omega);obtain⟨hcell,_,_⟩:=EJ h hk;rw[hk2] at hcell;have hblt:=hS b hb;have Hh:=ar h;have Hr:=ar hr;have hm1:(((k:Nat):Int) == -1)=false:=Vv.2 (by omega);have hlt:(k:Int)<(vals.length:Int):=(by omega);clear h hr hrow hk2 h1
   go_enter Tryz.func187,Tryz.ntmps187
   go_wp2_with fail
   go_ret
   exact⟨rfl,rfl⟩
theorem yQ(vals:List Int)(vv:Value)(S:Nat->Prop)(o d:Int)(dv cv:Value)(a n:Int)(w:World)(h:(aP (eW .i64)).one w S vv vals)(hr:fT vals a n=none) :
  Calls Tryz.prog 187 #[ng vv o d dv cv,.agg #[.int .i64 a,.int .i64 n]] w fun e w'=>e=.panicked ir/\w'=(w.alloc (.cells #[vv,.int .i64 o,.int .i64 d,dv,cv] 59)).alloc (.cells #[.int .i64 a,.int .i64 n] 117):=by
 unfold fT at hr;obtain⟨A,c,rfl,hc,hc2⟩:=dR h;have Hh:=ar h;clear h;by_cases h1:a = -1
 .rw [UZ h1] at hr;cases hr
 .rw [UX h1] at hr;have hm1:(a == -1)=false:=Vv.2 h1;by_cases h2:a<0
  .have hd:decide (a<0)=true:=by simpa using h2
   clear hr h1
   go_enter Tryz.func187,Tryz.ntmps187
   go_wp2_with fail
   exact⟨rfl,rfl,rfl⟩
  .rw [UX h2] at hr;have hd:decide (a<0)=false:=(by simpa using h2)
   have hge:(vals.length:Int)<=a:=by
    have:=List.getElem?_eq_none_iff.1 hr;omega
   clear hr h1
   go_enter Tryz.func187,Tryz.ntmps187
   go_wp2_with fail
   exact⟨rfl,rfl,rfl⟩
def Ki(w:World)(p:List PanicEntry)(w':World):Prop:=p=ir/\Below w.heap.size w w'
def yE(w:World)(e:Ending)(w':World):Prop:=∃p,e=.panicked p/\Ki w p w'
theorem EV(vals:List Int)(vv:Value)(S:Nat->Prop)(o d:Int)(dv cv:Value)(la ln ra rn x y:Int)(sb:Nat)(w:World)(h:(aP (eW .i64)).one w S vv vals)(hS:∀b,S b->b<w.heap.size)(hb:jd w sb 59 (lr vv o d dv cv))(hx:fT vals la ln=some x)(hy:fT vals ra rn=some y) :
  Calls Tryz.prog 185 #[.agg #[.int .i64 la,.int .i64 ln],.agg #[.int .i64 ra,.int .i64 rn],.pointer (some ⟨sb,0,none⟩)] w fun e w'=>e=.returned (.int .i64 (n8 x y))/\Below w.heap.size w w':=by
 have hsb:=hb.lt;have c0:=hb.cell 0;have c1:=hb.cell 1;have c2:=hb.cell 2;have c3:=hb.cell 3;have c4:=hb.cell 4;simp[lr] at c0 c1 c2 c3 c4;have V1:=ar (fun(w':World) (hw:Below w.heap.size w w')=>sX vals vv S o d dv cv la ln x w' (bV h hw hS) (fun b hb=>UY (hS b hb) hw.size) hx);have V2:=ar (fun(w':World) (hw:Below w.heap.size w w')=>sX vals vv S o d dv cv ra rn y w' (bV h hw hS) (fun b hb=>UY (hS b hb) hw.size) hy);clear h hS hb hx hy
 go_enter Tryz.func185,Tryz.ntmps185
 go_wp2_with fail
 have hbW:Below w.heap.size w ((w.alloc (.cells #[.int .i64 la,.int .i64 ln] 117)).alloc (.cells #[.int .i64 ra,.int .i64 rn] 117)):=((Below.refl _ _).alloc (UU _) _).alloc (by simp) _;have hz:((w.alloc (.cells #[.int .i64 la,.int .i64 ln] 117)).alloc (.cells #[.int .i64 ra,.int .i64 rn] 117)).heap.size=w.heap.size+2:=by simp
 have x0:((w.alloc (.cells #[.int .i64 la,.int .i64 ln] 117)).alloc (.cells #[.int .i64 ra,.int .i64 rn] 117)).cell? ⟨w.heap.size,0,none⟩=some (.int .i64 la):=by simp
 have x1:((w.alloc (.cells #[.int .i64 la,.int .i64 ln] 117)).alloc (.cells #[.int .i64 ra,.int .i64 rn] 117)).cell? ⟨w.heap.size,1,none⟩=some (.int .i64 ln):=by simp
 have y0:((w.alloc (.cells #[.int .i64 la,.int .i64 ln] 117)).alloc (.cells #[.int .i64 ra,.int .i64 rn] 117)).cell? ⟨w.heap.size+1,0,none⟩=some (.int .i64 ra):=by simp
 have y1:((w.alloc (.cells #[.int .i64 la,.int .i64 ln] 117)).alloc (.cells #[.int .i64 ra,.int .i64 rn] 117)).cell? ⟨w.heap.size+1,1,none⟩=some (.int .i64 rn):=by simp
 generalize (w.alloc (.cells #[.int .i64 la,.int .i64 ln] 117)).alloc (.cells #[.int .i64 ra,.int .i64 rn] 117)=W at *;have d0:=(hbW.cell (p:=⟨sb,0,none⟩) hsb).trans c0;have d1:=(hbW.cell (p:=⟨sb,1,none⟩) hsb).trans c1;have d2:=(hbW.cell (p:=⟨sb,2,none⟩) hsb).trans c2;have d3:=(hbW.cell (p:=⟨sb,3,none⟩) hsb).trans c3;have d4:=(hbW.cell (p:=⟨sb,4,none⟩) hsb).trans c4;clear c0 c1 c2 c3 c4;have hsbW:sb<W.heap.size:=by omega
 have KEEP:=ar (fun(w':World) (hb:Below W.heap.size W w')=>(⟨(hb.cell (p:=⟨sb,0,none⟩) hsbW).trans d0,(hb.cell (p:=⟨sb,1,none⟩) hsbW).trans d1,(hb.cell (p:=⟨sb,2,none⟩) hsbW).trans d2,(hb.cell (p:=⟨sb,3,none⟩) hsbW).trans d3,(hb.cell (p:=⟨sb,4,none⟩) hsbW).trans d4,
  (hb.cell (p:=⟨w.heap.size,0,none⟩) (by show w.heap.size<_;omega)).trans x0,(hb.cell (p:=⟨w.heap.size,1,none⟩) (by show w.heap.size<_;omega)).trans x1,(hb.cell (p:=⟨w.heap.size+1,0,none⟩) (by show w.heap.size+1<_;omega)).trans y0,(hb.cell (p:=⟨w.heap.size+1,1,none⟩) (by show w.heap.size+1<_;omega)).trans y1⟩ :
  w'.cell? ⟨sb,0,none⟩=some vv/\w'.cell? ⟨sb,1,none⟩=some (.int .i64 o)/\w'.cell? ⟨sb,2,none⟩=some (.int .i64 d)/\w'.cell? ⟨sb,3,none⟩=some dv/\w'.cell? ⟨sb,4,none⟩=some cv/\w'.cell? ⟨w.heap.size,0,none⟩=some (.int .i64 la)/\w'.cell? ⟨w.heap.size,1,none⟩=some (.int .i64 ln)/\w'.cell? ⟨w.heap.size+1,0,none⟩=some (.int .i64 ra)/\w'.cell? ⟨w.heap.size+1,1,none⟩=some (.int .i64 rn)))
 go_region_held3 (fun w'=>w'.cell? ⟨sb,0,none⟩=some vv/\w'.cell? ⟨sb,1,none⟩=some (.int .i64 o)/\w'.cell? ⟨sb,2,none⟩=some (.int .i64 d)/\w'.cell? ⟨sb,3,none⟩=some dv/\w'.cell? ⟨sb,4,none⟩=some cv/\w'.cell? ⟨w.heap.size,0,none⟩=some (.int .i64 la)/\w'.cell? ⟨w.heap.size,1,none⟩=some (.int .i64 ln)/\w'.cell? ⟨w.heap.size+1,0,none⟩=some (.int .i64 ra)/\w'.cell? ⟨w.heap.size+1,1,none⟩=some (.int .i64 rn))
  ((refine KEEP.out _ ?_;repeat (first|exact Below.refl _ _|refine Below.drew ?_|refine Below.alloc ?_ (by first|omega|(simp;done)|(simp;omega)) _)))
  (first|(go_at_call 187;(with_reducible refine(V1.out _ ?_).mono ?_);(repeat (first|exact hbW|refine Below.drew ?_|refine Below.alloc ?_ (by first|omega|(simp;done)|(simp;omega)) _));rintro e w' ⟨rfl,rfl⟩)|(go_at_call 187;(with_reducible refine(V2.out _ ?_).mono ?_);(repeat (first|exact hbW|refine Below.drew ?_|refine Below.alloc ?_ (by first|omega|(simp;done)|(simp;omega)) _));rintro e w' ⟨rfl,rfl⟩)|(go_at_call 186;refine(O7 _ _ _).mono ?_;rintro e w' ⟨rfl,rfl⟩))
 all_goals
  go_wp2_with fail
  go_ret
  refine⟨rfl,?_⟩;repeat (first|exact hbW|refine Below.drew ?_|refine Below.alloc ?_ (by first|omega|(simp;done)|(simp;omega)) _)
theorem BI(vals:List Int)(vv:Value)(S:Nat->Prop)(o d:Int)(dv cv:Value)(la ln ra rn:Int)(sb:Nat)(w:World)(h:(aP (eW .i64)).one w S vv vals)(hS:∀b,S b->b<w.heap.size)(hb:jd w sb 59 (lr vv o d dv cv))(hx:fT vals la ln=none)  :
  Calls Tryz.prog 185 #[.agg #[.int .i64 la,.int .i64 ln],.agg #[.int .i64 ra,.int .i64 rn],.pointer (some ⟨sb,0,none⟩)] w (yE w):=by
 have hsb:=hb.lt;have c0:=hb.cell 0;have c1:=hb.cell 1;have c2:=hb.cell 2;have c3:=hb.cell 3;have c4:=hb.cell 4;simp[lr] at c0 c1 c2 c3 c4;have V1:=ar (fun(w':World) (hw:Below w.heap.size w w')=>yQ vals vv S o d dv cv la ln w' (bV h hw hS) hx);clear h hS hb hx
 go_enter Tryz.func185,Tryz.ntmps185
 go_wp2_with fail
 have hbW:Below w.heap.size w ((w.alloc (.cells #[.int .i64 la,.int .i64 ln] 117)).alloc (.cells #[.int .i64 ra,.int .i64 rn] 117)):=((Below.refl _ _).alloc (UU _) _).alloc (by simp) _;have hz:((w.alloc (.cells #[.int .i64 la,.int .i64 ln] 117)).alloc (.cells #[.int .i64 ra,.int .i64 rn] 117)).heap.size=w.heap.size+2:=by simp
 have x0:((w.alloc (.cells #[.int .i64 la,.int .i64 ln] 117)).alloc (.cells #[.int .i64 ra,.int .i64 rn] 117)).cell? ⟨w.heap.size,0,none⟩=some (.int .i64 la):=by simp
 have x1:((w.alloc (.cells #[.int .i64 la,.int .i64 ln] 117)).alloc (.cells #[.int .i64 ra,.int .i64 rn] 117)).cell? ⟨w.heap.size,1,none⟩=some (.int .i64 ln):=by simp
 have y0:((w.alloc (.cells #[.int .i64 la,.int .i64 ln] 117)).alloc (.cells #[.int .i64 ra,.int .i64 rn] 117)).cell? ⟨w.heap.size+1,0,none⟩=some (.int .i64 ra):=by simp
 have y1:((w.alloc (.cells #[.int .i64 la,.int .i64 ln] 117)).alloc (.cells #[.int .i64 ra,.int .i64 rn] 117)).cell? ⟨w.heap.size+1,1,none⟩=some (.int .i64 rn):=by simp
 generalize (w.alloc (.cells #[.int .i64 la,.int .i64 ln] 117)).alloc (.cells #[.int .i64 ra,.int .i64 rn] 117)=W at *;have d0:=(hbW.cell (p:=⟨sb,0,none⟩) hsb).trans c0;have d1:=(hbW.cell (p:=⟨sb,1,none⟩) hsb).trans c1;have d2:=(hbW.cell (p:=⟨sb,2,none⟩) hsb).trans c2;have d3:=(hbW.cell (p:=⟨sb,3,none⟩) hsb).trans c3;have d4:=(hbW.cell (p:=⟨sb,4,none⟩) hsb).trans c4;clear c0 c1 c2 c3 c4;have hsbW:sb<W.heap.size:=by omega
 have KEEP:=ar (fun(w':World) (hb:Below W.heap.size W w')=>(⟨(hb.cell (p:=⟨sb,0,none⟩) hsbW).trans d0,(hb.cell (p:=⟨sb,1,none⟩) hsbW).trans d1,(hb.cell (p:=⟨sb,2,none⟩) hsbW).trans d2,(hb.cell (p:=⟨sb,3,none⟩) hsbW).trans d3,(hb.cell (p:=⟨sb,4,none⟩) hsbW).trans d4,
  (hb.cell (p:=⟨w.heap.size,0,none⟩) (by show w.heap.size<_;omega)).trans x0,(hb.cell (p:=⟨w.heap.size,1,none⟩) (by show w.heap.size<_;omega)).trans x1,(hb.cell (p:=⟨w.heap.size+1,0,none⟩) (by show w.heap.size+1<_;omega)).trans y0,(hb.cell (p:=⟨w.heap.size+1,1,none⟩) (by show w.heap.size+1<_;omega)).trans y1⟩ :
  w'.cell? ⟨sb,0,none⟩=some vv/\w'.cell? ⟨sb,1,none⟩=some (.int .i64 o)/\w'.cell? ⟨sb,2,none⟩=some (.int .i64 d)/\w'.cell? ⟨sb,3,none⟩=some dv/\w'.cell? ⟨sb,4,none⟩=some cv/\w'.cell? ⟨w.heap.size,0,none⟩=some (.int .i64 la)/\w'.cell? ⟨w.heap.size,1,none⟩=some (.int .i64 ln)/\w'.cell? ⟨w.heap.size+1,0,none⟩=some (.int .i64 ra)/\w'.cell? ⟨w.heap.size+1,1,none⟩=some (.int .i64 rn)))
 have hS0:=KEEP.out W.drew ((Below.refl _ _).drew);refine wp_region_held (S:=fun w'=>w'.cell? ⟨sb,0,none⟩=some vv/\w'.cell? ⟨sb,1,none⟩=some (.int .i64 o)/\w'.cell? ⟨sb,2,none⟩=some (.int .i64 d)/\w'.cell? ⟨sb,3,none⟩=some dv/\w'.cell? ⟨sb,4,none⟩=some cv/\w'.cell? ⟨w.heap.size,0,none⟩=some (.int .i64 la)/\w'.cell? ⟨w.heap.size,1,none⟩=some (.int .i64 ln)/\w'.cell? ⟨w.heap.size+1,0,none⟩=some (.int .i64 ra)/\w'.cell? ⟨w.heap.size+1,1,none⟩=some (.int .i64 rn)) (by kernel_rfl) ?_;refine wpAnyH_take (i:=0) (v:=ng vv o d dv cv) rfl (by kernel_rfl) (by kernel_rfl) (by kernel_rfl) (fun _ _ _ h=>h) (Or.inl ⟨by rfl,?_⟩) hS0 ?_
 .intro w hSw;obtain⟨q0,q1,q2,q3,q4,q5,q6,q7,q8⟩:=hSw;go_simp
 refine wpAnyH_take (i:=1) (v:=.agg #[.int .i64 la,.int .i64 ln]) rfl (by kernel_rfl) (by kernel_rfl) (by kernel_rfl) (fun _ _ _ h=>h) (Or.inl ⟨by rfl,?_⟩) hS0 ?_
 .intro w hSw;obtain⟨q0,q1,q2,q3,q4,q5,q6,q7,q8⟩:=hSw;go_simp
 refine wpAnyH_take (i:=3) (v:=ng vv o d dv cv) rfl (by kernel_rfl) (by kernel_rfl) (by kernel_rfl) (fun _ _ _ h=>h) (Or.inl ⟨by rfl,?_⟩) hS0 ?_
 .intro w hSw;obtain⟨q0,q1,q2,q3,q4,q5,q6,q7,q8⟩:=hSw;go_simp
 refine wpAnyH_take (i:=4) (v:=.agg #[.int .i64 ra,.int .i64 rn]) rfl (by kernel_rfl) (by kernel_rfl) (by kernel_rfl) (fun _ _ _ h=>h) (Or.inl ⟨by rfl,?_⟩) hS0 ?_
 .intro w hSw;obtain⟨q0,q1,q2,q3,q4,q5,q6,q7,q8⟩:=hSw;go_simp
 refine wpAnyH_ready (rs:=[2]) (by kernel_rfl) (by simp) ?_;refine AllReadyH.cons (o:=_) rfl (fun K hK=>?_) AllReadyH.nil
 go_simp
 refine(V1.out _ ?_).mono ?_
 .repeat (first|exact hbW|refine Below.drew ?_|refine Below.alloc ?_ (by first|omega|(simp;done)|(simp;omega)) _)
 rintro e w' ⟨rfl,rfl⟩;refine⟨rfl,ir,rfl,rfl,?_⟩;repeat (first|exact hbW|refine Below.drew ?_|refine Below.alloc ?_ (by first|omega|(simp;done)|(simp;omega)) _)
theorem BX(vals:List Int)(vv:Value)(S:Nat->Prop)(o d:Int)(dv cv:Value)(la ln ra rn x:Int)(sb:Nat)(w:World)(h:(aP (eW .i64)).one w S vv vals)(hS:∀b,S b->b<w.heap.size)(hb:jd w sb 59 (lr vv o d dv cv))(hx:fT vals la ln=some x)(hy:fT vals ra rn=none) :
  Calls Tryz.prog 185 #[.agg #[.int .i64 la,.int .i64 ln],.agg #[.int .i64 ra,.int .i64 rn],.pointer (some ⟨sb,0,none⟩)] w (yE w):=by
 have hsb:=hb.lt;have c0:=hb.cell 0;have c1:=hb.cell 1;have c2:=hb.cell 2;have c3:=hb.cell 3;have c4:=hb.cell 4;simp[lr] at c0 c1 c2 c3 c4;have V1:=ar (fun(w':World) (hw:Below w.heap.size w w')=>sX vals vv S o d dv cv la ln x w' (bV h hw hS) (fun b hb=>UY (hS b hb) hw.size) hx);have V2:=ar (fun(w':World) (hw:Below w.heap.size w w')=>yQ vals vv S o d dv cv ra rn w' (bV h hw hS) hy);clear h hS hb hx hy
 go_enter Tryz.func185,Tryz.ntmps185
 go_wp2_with fail
 have hbW:Below w.heap.size w ((w.alloc (.cells #[.int .i64 la,.int .i64 ln] 117)).alloc (.cells #[.int .i64 ra,.int .i64 rn] 117)):=((Below.refl _ _).alloc (UU _) _).alloc (by simp) _;have hz:((w.alloc (.cells #[.int .i64 la,.int .i64 ln] 117)).alloc (.cells #[.int .i64 ra,.int .i64 rn] 117)).heap.size=w.heap.size+2:=by simp
 have x0:((w.alloc (.cells #[.int .i64 la,.int .i64 ln] 117)).alloc (.cells #[.int .i64 ra,.int .i64 rn] 117)).cell? ⟨w.heap.size,0,none⟩=some (.int .i64 la):=by simp
 have x1:((w.alloc (.cells #[.int .i64 la,.int .i64 ln] 117)).alloc (.cells #[.int .i64 ra,.int .i64 rn] 117)).cell? ⟨w.heap.size,1,none⟩=some (.int .i64 ln):=by simp
 have y0:((w.alloc (.cells #[.int .i64 la,.int .i64 ln] 117)).alloc (.cells #[.int .i64 ra,.int .i64 rn] 117)).cell? ⟨w.heap.size+1,0,none⟩=some (.int .i64 ra):=by simp
 have y1:((w.alloc (.cells #[.int .i64 la,.int .i64 ln] 117)).alloc (.cells #[.int .i64 ra,.int .i64 rn] 117)).cell? ⟨w.heap.size+1,1,none⟩=some (.int .i64 rn):=by simp
 generalize (w.alloc (.cells #[.int .i64 la,.int .i64 ln] 117)).alloc (.cells #[.int .i64 ra,.int .i64 rn] 117)=W at *;have d0:=(hbW.cell (p:=⟨sb,0,none⟩) hsb).trans c0;have d1:=(hbW.cell (p:=⟨sb,1,none⟩) hsb).trans c1;have d2:=(hbW.cell (p:=⟨sb,2,none⟩) hsb).trans c2;have d3:=(hbW.cell (p:=⟨sb,3,none⟩) hsb).trans c3;have d4:=(hbW.cell (p:=⟨sb,4,none⟩) hsb).trans c4;clear c0 c1 c2 c3 c4;have hsbW:sb<W.heap.size:=by omega
 have KEEP:=ar (fun(w':World) (hb:Below W.heap.size W w')=>(⟨(hb.cell (p:=⟨sb,0,none⟩) hsbW).trans d0,(hb.cell (p:=⟨sb,1,none⟩) hsbW).trans d1,(hb.cell (p:=⟨sb,2,none⟩) hsbW).trans d2,(hb.cell (p:=⟨sb,3,none⟩) hsbW).trans d3,(hb.cell (p:=⟨sb,4,none⟩) hsbW).trans d4,
  (hb.cell (p:=⟨w.heap.size,0,none⟩) (by show w.heap.size<_;omega)).trans x0,(hb.cell (p:=⟨w.heap.size,1,none⟩) (by show w.heap.size<_;omega)).trans x1,(hb.cell (p:=⟨w.heap.size+1,0,none⟩) (by show w.heap.size+1<_;omega)).trans y0,(hb.cell (p:=⟨w.heap.size+1,1,none⟩) (by show w.heap.size+1<_;omega)).trans y1⟩ :
  w'.cell? ⟨sb,0,none⟩=some vv/\w'.cell? ⟨sb,1,none⟩=some (.int .i64 o)/\w'.cell? ⟨sb,2,none⟩=some (.int .i64 d)/\w'.cell? ⟨sb,3,none⟩=some dv/\w'.cell? ⟨sb,4,none⟩=some cv/\w'.cell? ⟨w.heap.size,0,none⟩=some (.int .i64 la)/\w'.cell? ⟨w.heap.size,1,none⟩=some (.int .i64 ln)/\w'.cell? ⟨w.heap.size+1,0,none⟩=some (.int .i64 ra)/\w'.cell? ⟨w.heap.size+1,1,none⟩=some (.int .i64 rn)))
 have hS0:=KEEP.out W.drew ((Below.refl _ _).drew);refine wp_region_held (S:=fun w'=>w'.cell? ⟨sb,0,none⟩=some vv/\w'.cell? ⟨sb,1,none⟩=some (.int .i64 o)/\w'.cell? ⟨sb,2,none⟩=some (.int .i64 d)/\w'.cell? ⟨sb,3,none⟩=some dv/\w'.cell? ⟨sb,4,none⟩=some cv/\w'.cell? ⟨w.heap.size,0,none⟩=some (.int .i64 la)/\w'.cell? ⟨w.heap.size,1,none⟩=some (.int .i64 ln)/\w'.cell? ⟨w.heap.size+1,0,none⟩=some (.int .i64 ra)/\w'.cell? ⟨w.heap.size+1,1,none⟩=some (.int .i64 rn)) (by kernel_rfl) ?_;refine wpAnyH_take (i:=0) (v:=ng vv o d dv cv) rfl (by kernel_rfl) (by kernel_rfl) (by kernel_rfl) (fun _ _ _ h=>h) (Or.inl ⟨by rfl,?_⟩) hS0 ?_
 .intro w hSw;obtain⟨q0,q1,q2,q3,q4,q5,q6,q7,q8⟩:=hSw;go_simp
 refine wpAnyH_take (i:=1) (v:=.agg #[.int .i64 la,.int .i64 ln]) rfl (by kernel_rfl) (by kernel_rfl) (by kernel_rfl) (fun _ _ _ h=>h) (Or.inl ⟨by rfl,?_⟩) hS0 ?_
 .intro w hSw;obtain⟨q0,q1,q2,q3,q4,q5,q6,q7,q8⟩:=hSw;go_simp
 refine wpAnyH_take (i:=3) (v:=ng vv o d dv cv) rfl (by kernel_rfl) (by kernel_rfl) (by kernel_rfl) (fun _ _ _ h=>h) (Or.inl ⟨by rfl,?_⟩) hS0 ?_
 .intro w hSw;obtain⟨q0,q1,q2,q3,q4,q5,q6,q7,q8⟩:=hSw;go_simp
 refine wpAnyH_take (i:=4) (v:=.agg #[.int .i64 ra,.int .i64 rn]) rfl (by kernel_rfl) (by kernel_rfl) (by kernel_rfl) (fun _ _ _ h=>h) (Or.inl ⟨by rfl,?_⟩) hS0 ?_
 .intro w hSw;obtain⟨q0,q1,q2,q3,q4,q5,q6,q7,q8⟩:=hSw;go_simp
 refine wpAnyH_ready (rs:=[2]) (by kernel_rfl) (by simp) ?_;refine AllReadyH.cons (o:=_) rfl (fun K hK=>?_) AllReadyH.nil
 go_simp
 refine(V1.out _ ?_).mono ?_
 .repeat (first|exact hbW|refine Below.drew ?_|refine Below.alloc ?_ (by first|omega|(simp;done)|(simp;omega)) _)
 rintro e w' ⟨rfl,rfl⟩;refine hK.out _ _ (KEEP.out _ ?_) (fun hH=>?_)
 .repeat (first|exact Below.refl _ _|refine Below.drew ?_|refine Below.alloc ?_ (by first|omega|(simp;done)|(simp;omega)) _)
 clear hK K;refine wpAnyH_ready (rs:=[5]) (by kernel_rfl) (by simp) ?_;refine AllReadyH.cons (o:=_) rfl (fun K hK=>?_) AllReadyH.nil
 go_simp
 refine(V2.out _ ?_).mono ?_
 .repeat (first|exact hbW|refine Below.drew ?_|refine Below.alloc ?_ (by first|omega|(simp;done)|(simp;omega)) _)
 rintro e w' ⟨rfl,rfl⟩;refine⟨rfl,ir,rfl,rfl,?_⟩;repeat (first|exact hbW|refine Below.drew ?_|refine Below.alloc ?_ (by first|omega|(simp;done)|(simp;omega)) _)
end
end
section
section
def bv(b:Bool):Value:=.iface 4 (.bool b)
def cT(w:World)(a H:Nat)(vv:Value)(o d:Int)(dv cv f:Value)(L:List Bool):Prop:=
 ∃rv,jd w a 255 #[vv,.int .i64 o,.int .i64 d,dv,cv,f,rv]/\w.ownsRow (a+1) 20 1 rv L.length (L.map bv)/\a<H/\(∀g,rv.ownBlock=some g->g<H)
theorem cT.below{w w':World}{a H:Nat}{vv:Value}{o d:Int}{dv cv f:Value}{L:List Bool}(h:cT w a H vv o d dv cv f L)(hb:Below H w w'):cT w' a H vv o d dv cv f L:=by
 obtain⟨rv,h1,h2,h3,h4⟩:=h;exact⟨rv,h1.below hb h3,vS h2 hb h4,h3,h4⟩
theorem cT.cells{w:World}{a H:Nat}{vv:Value}{o d:Int}{dv cv f:Value}{L:List Bool}(h:cT w a H vv o d dv cv f L) :
  w.cell? ⟨a,0,none⟩=some vv/\w.cell? ⟨a,1,none⟩=some (.int .i64 o)/\w.cell? ⟨a,2,none⟩=some (.int .i64 d)/\w.cell? ⟨a,5,none⟩=some f:=by
 obtain⟨rv,h1,_⟩:=h;have c0:=h1.cell 0;have c1:=h1.cell 1;have c2:=h1.cell 2;have c5:=h1.cell 5;simp at c0 c1 c2 c5;exact⟨c0,c1,c2,c5⟩
def A3(H:Nat)(w w':World):Prop:=∀g,H<=g->g<w.heap.size->w'.heap[g]? = w.heap[g]?
theorem A3.cell{H:Nat}{w w':World}(h:A3 H w w'){g i:Nat}(h1:H<=g)(h2:g<w.heap.size):w'.cell? ⟨g,i,none⟩=w.cell? ⟨g,i,none⟩:=World.cell?_of_block (h g h1 h2)
theorem Ni:(Tryz.prog.info? 20).map (fun i=>(i.zero,i.size,i.bytes))=some (some .nilIface,1,16):=by kernel_rfl
def MU(v:Value)(a H:Nat)(vv:Value)(o d:Int)(dv cv f:Value)(L:List Bool)(w:World)(e:Ending)(w':World):Prop:=e=.returned v/\cT w' a w'.heap.size vv o d dv cv f L/\Below a w w' /\ w.heap.size<=w'.heap.size/\A3 H w w'
theorem jG(a H:Nat)(vv:Value)(o d:Int)(dv cv f:Value)(L:List Bool)(b:Bool)(w:World)(h:cT w a H vv o d dv cv f L)(hL:L.length<=1000) :
  Calls Tryz.prog 223 #[.pointer (some ⟨a,0,none⟩),.bool b] w (MU (.tuple #[]) a H vv o d dv cv f (L ++ [b]) w):=by
 obtain⟨i0,hi0,hz0,hz1,hz2⟩:=info_parts Ni;obtain⟨rv,hb,hown,haH,hrH⟩:=h;have hlt:=hb.lt;have c6:=hb.cell 6;have f6:=hb.frozen 6;simp at c6;obtain⟨A,c,rfl,hc⟩:=gy hown;have HB:=ar hb;clear hb
 go_enter Tryz.func223,Tryz.ntmps223
 go_wp2_with (at_builtin;refine wpList_append_own _ rfl _ _ 253 rfl (a+1) 20 i0 .nilIface 1 16 Tryz.underlying253 hi0 hz0 hz1 hz2 rfl (by decide) _ _ _ rfl (hown.alloc _) ⟨w.heap.size,0,none⟩ 1 1 [.iface 4 (.bool b)] rfl rfl (qC _ _ _) (oS _ _) (by unfold maxLen;omega) (by omega) (by simp;omega) ?_;intro v' w1 hown' hgrow _;have hne:some a≠(Value.slice A L.length c).ownBlock:=Sj hown (by omega);have hb1:=(HB.out.alloc (.cells #[.iface 4 (.bool b)] 20)).grown hgrow hne;obtain⟨A2,c2,rfl,hc2⟩:=gy hown';have d6:=hb1.cell 6;have g6:=hb1.frozen 6;simp at d6)
 have hbl:Below a w w1:=((Below.refl a w).alloc (by omega) _).grown hgrow (by simp;omega) (fun k hk=>by have:=(hown.lt k hk).1;omega);have hsz:w.heap.size<=w1.heap.size:=by have:=hgrow.size;simp at this;omega
 have hw1:a<w1.heap.size:=hb1.lt;have hlr:∀g,(Value.slice A2 (L.length+1) c2).ownBlock=some g->g<w1.heap.size:=fun g hg=>(hown'.lt g hg).2
 have hpast:A3 H w (w1.setCell ⟨a,6,none⟩ (.slice A2 (L.length+1) c2)):=fun g hg1 hg2=>by
  rw[Below.heap_setCell w1 ⟨a,6,none⟩ _ g (by simp;omega)];have e1:w1.heap[g]? = (w.alloc (.cells #[.iface 4 (.bool b)] 20)).heap[g]?:=hgrow.block g (by simp;omega) (fun e=>by have:=hrH g e.symm;omega);rw[e1];exact Below.heap_alloc w _ g hg2
 go_end0
 refine⟨rfl,⟨_,?_,by rw[UW,Vc];exact Ep hown' (p:=⟨a,6,none⟩) (by simp) _,by simpa using hw1,fun g hg=>by have:=hlr g hg;simpa using this⟩,hbl.setCell (UU _) _,by simpa using hsz,hpast⟩
 .have:=hb1.set_ 6 (.slice A2 (L.length+1) c2);simpa using this
def OZ(b:Bool)(a H:Nat)(vv:Value)(o d:Int)(dv cv f:Value)(L:List Bool)(w:World)(e:Ending)(w':World):Prop:=e=.returned (.bool b)/\cT w' a H vv o d dv cv f L/\Below a w w' /\ w.heap.size<=w'.heap.size/\A3 H w w'
theorem Du(x:Bool)(w:World):(Instr.typeAssert (.iface 4 (.bool x)) 20 4 false).run Tryz.prog w=.ok (.bool x) w:=by kernel_rfl
theorem jp(a H:Nat)(vv:Value)(o d:Int)(dv cv f:Value)(L:List Bool)(b:Bool)(w:World)(h:cT w a H vv o d dv cv f (L ++ [b]))(hL:L.length<=1000) :
  Calls Tryz.prog 215 #[.pointer (some ⟨a,0,none⟩)] w (OZ b a H vv o d dv cv f L w):=by
 obtain⟨rv,hb,hown,haH,hrH⟩:=h;have hlt:=hb.lt;have c6:=hb.cell 6;have f6:=hb.frozen 6;simp at c6;obtain⟨g,c,rfl,hc,hg1,hg2⟩:=o5 hown (by simp);have hcell:=kH hown rfl (j:=L.length) (u:=bv b) (by simp);have hown2:=sy hown (k:=L.length) (by simp)
 have hown3:w.ownsRow (a+1) 20 1 (.slice (some ⟨g,0,none⟩) L.length c) L.length (L.map bv):=by
  have e:(List.map bv (L ++ [b])).take L.length=L.map bv:=by rw[Vc,VX (by simp),Vg (by simp)]
  rwa [e] at hown2
 have HB:=ar hb;have HO:=ar hown3;have hgn:a≠g:=by omega
 have ln:(L ++ [b]).length=L.length+1:=by simp
 rw[ln] at c6 hc;unfold bv at hcell;clear hb hown hown2 hown3 ln;have hta:=Du b
 go_enter Tryz.func215,Tryz.ntmps215
 go_wp2_with fail
 go_ret
 refine⟨rfl,⟨_,?_,Ep HO.out (p:=⟨a,6,none⟩) (by simp) _,haH,hrH⟩,(Below.refl a w).setCell (UU _) _,by simp,fun k hk _=>Below.heap_setCell w ⟨a,6,none⟩ _ k (by simp;omega)⟩;have:=HB.out.set_ 6 (.slice (some ⟨g,0,none⟩) L.length c);simpa using this
theorem fB(a H:Nat)(vv:Value)(o d:Int)(dv cv f:Value)(w:World)(h:cT w a H vv o d dv cv f []) :
  Calls Tryz.prog 215 #[.pointer (some ⟨a,0,none⟩)] w fun e w'=>e=.panicked ir/\w=w':=by
 obtain⟨rv,hb,hown,haH,hrH⟩:=h;have c6:=hb.cell 6;simp at c6;obtain⟨A,c,rfl,hc⟩:=gy hown;clear hown hb
 go_enter Tryz.func215,Tryz.ntmps215
 go_wp2_with fail
 exact⟨rfl,rfl,rfl⟩
end
section
def gw(a:Nat)(vv:Value)(o d:Int)(dv cv f:Value)(L:List Bool)(w:World)(e:Ending)(w':World):Prop:=e=.returned (.tuple #[])/\cT w' a w'.heap.size vv o d dv cv f L/\Below a w w' /\ w.heap.size<=w'.heap.size
abbrev dX(op la ln ra rn n u:Int):Value:=.agg #[.int .i64 op,.int .i64 la,.int .i64 ln,.int .i64 ra,.int .i64 rn,.int .i64 n,.int .i64 u]
theorem Uk(op la ln ra rn n u:Int)(a:Nat)(vv:Value)(o d:Int)(dv cv f:Value)(L:List Bool)(w:World)(h:cT w a w.heap.size vv o d dv cv f L)(hL:L.length<=1000)(ho:op=1\/op=2) :
  Calls Tryz.prog 214 #[.pointer (some ⟨a,0,none⟩),dX op la ln ra rn n u] w (gw a vv o d dv cv f (L ++ [op == 1]) w):=by
 have hb0:Below w.heap.size w (w.alloc (.cells #[.int .i64 op,.int .i64 la,.int .i64 ln,.int .i64 ra,.int .i64 rn,.int .i64 n,.int .i64 u] 119)):=(Below.refl _ _).alloc (UU _) _;have hal:a<w.heap.size:=by obtain⟨_,_,_,h3,_⟩:=h;exact h3
 have Hp:=ar (fun b=>jG a w.heap.size vv o d dv cv f L b _ (h.below hb0) hL);have Hb:=ar hb0;clear h hb0;rcases ho with rfl|rfl
 all_goals
  go_enter Tryz.func214,Tryz.ntmps214
  go_wp2_with (go_at_call 223;refine(Hp.out _).mono ?_;rintro e w' ⟨rfl,ha,hbl,hsz,_⟩)
  go_end0
  exact⟨rfl,ha,Hb.out.mono (Wh hal) |>.trans hbl,Vj Hb.out.size hsz⟩
theorem kz(q:Int)(hq6:q=3\/q=4\/q=5\/q=6\/q=7\/q=8)(la ln ra rn n u c:Int)(a k:Nat)(caps:Array Value)(vv:Value)(o d:Int)(dv cv:Value)(L:List Bool)(w:World)(h:cT w a w.heap.size vv o d dv cv (.func (.func k) #[] caps) L)(hL:L.length<=1000)
  (hcf:∀(args:Array Value)(w:World),(callFunc k args).run Tryz.prog w=.ok (.enter k args) w)
  (HL:Hid (∀w',Below w.heap.size w w' -> Calls Tryz.prog k (#[.agg #[.int .i64 la,.int .i64 ln],.agg #[.int .i64 ra,.int .i64 rn]] ++ caps) w' fun e w''=>e=.returned (.int .i64 c)/\Below w'.heap.size w' w'')) :
  Calls Tryz.prog 214 #[.pointer (some ⟨a,0,none⟩),dX q la ln ra rn n u] w (gw a vv o d dv cv (.func (.func k) #[] caps) (L ++ [Ta q c]) w):=by
 obtain⟨W,hW⟩:∃W,W=w.alloc (.cells #[(.int .i64 q),.int .i64 la,.int .i64 ln,.int .i64 ra,.int .i64 rn,.int .i64 n,.int .i64 u] 119):=⟨_,rfl⟩;have hb0:Below w.heap.size w W:=by rw[hW];exact(Below.refl _ _).alloc (UU _) _
 have hal:a<w.heap.size:=by obtain⟨_,_,_,h3,_⟩:=h;exact h3
 have hz:W.heap.size=w.heap.size+1:=by rw[hW];simp
 have c5:=(h.below hb0).cells.2.2.2;have x0:W.cell? ⟨w.heap.size,0,none⟩=some (.int .i64 q):=by rw[hW];simp
 have x1:W.cell? ⟨w.heap.size,1,none⟩=some (.int .i64 la):=by rw[hW];simp
 have x2:W.cell? ⟨w.heap.size,2,none⟩=some (.int .i64 ln):=by rw[hW];simp
 have x3:W.cell? ⟨w.heap.size,3,none⟩=some (.int .i64 ra):=by rw[hW];simp
 have x4:W.cell? ⟨w.heap.size,4,none⟩=some (.int .i64 rn):=by rw[hW];simp
 have KB:=ar (fun(w':World) (hb:Below W.heap.size W w')=>(⟨(hb.cell (p:=⟨a,5,none⟩) (by show a<_;omega)).trans c5,(hb.cell (p:=⟨w.heap.size,0,none⟩) (by show w.heap.size<_;omega)).trans x0,(hb.cell (p:=⟨w.heap.size,1,none⟩) (by show w.heap.size<_;omega)).trans x1,(hb.cell (p:=⟨w.heap.size,2,none⟩) (by show w.heap.size<_;omega)).trans x2,(hb.cell (p:=⟨w.heap.size,3,none⟩) (by show w.heap.size<_;omega)).trans x3,(hb.cell (p:=⟨w.heap.size,4,none⟩) (by show w.heap.size<_;omega)).trans x4⟩ :
  w'.cell? ⟨a,5,none⟩=some (.func (.func k) #[] caps)/\w'.cell? ⟨w.heap.size,0,none⟩=some (.int .i64 q)/\w'.cell? ⟨w.heap.size,1,none⟩=some (.int .i64 la)/\w'.cell? ⟨w.heap.size,2,none⟩=some (.int .i64 ln)/\w'.cell? ⟨w.heap.size,3,none⟩=some (.int .i64 ra)/\w'.cell? ⟨w.heap.size,4,none⟩=some (.int .i64 rn)))
 have KP:=ar (fun(w1 w2:World) (hb:Below W.heap.size W w1) (b:Bool) (ha:cT w2 a w2.heap.size vv o d dv cv (.func (.func k) #[] caps) (L ++ [b])) (hp:A3 w.heap.size w1 w2)=>by
  obtain⟨q0,q1,q2,q3,q4,q5⟩:=KB.out w1 hb;have hs:w.heap.size<w1.heap.size:=by have:=hb.size;omega
  exact(⟨ha.cells.2.2.2,(hp.cell (UU _) hs).trans q1,(hp.cell (UU _) hs).trans q2,(hp.cell (UU _) hs).trans q3,(hp.cell (UU _) hs).trans q4,(hp.cell (UU _) hs).trans q5⟩ :
   w2.cell? ⟨a,5,none⟩=some (.func (.func k) #[] caps)/\w2.cell? ⟨w.heap.size,0,none⟩=some (.int .i64 q)/\w2.cell? ⟨w.heap.size,1,none⟩=some (.int .i64 la)/\w2.cell? ⟨w.heap.size,2,none⟩=some (.int .i64 ln)/\w2.cell? ⟨w.heap.size,3,none⟩=some (.int .i64 ra)/\w2.cell? ⟨w.heap.size,4,none⟩=some (.int .i64 rn)))
 have H:=ar h;have HW:=ar hW;have HB:=ar hb0;clear h hb0 hW;rcases hq6 with hq|hq|hq|hq|hq|hq
 all_goals
  go_enter Tryz.func214,Tryz.ntmps214
  go_wp2_with fail
  have HW2:=HW.out;rw[hq] at HW2;rw[<- HW2];clear HW2;have hS0:=KB.out W.drew ((Below.refl _ _).drew)
  go_region_held3 (fun w'=>w'.cell? ⟨a,5,none⟩=some (.func (.func k) #[] caps)/\w'.cell? ⟨w.heap.size,0,none⟩=some (.int .i64 q)/\w'.cell? ⟨w.heap.size,1,none⟩=some (.int .i64 la)/\w'.cell? ⟨w.heap.size,2,none⟩=some (.int .i64 ln)/\w'.cell? ⟨w.heap.size,3,none⟩=some (.int .i64 ra)/\w'.cell? ⟨w.heap.size,4,none⟩=some (.int .i64 rn)) (assumption)
   (first
    | (go_at_call 224;refine(RC _ _ _).mono ?_;rintro e w' ⟨rfl,rfl⟩)
    | (go_at_call 223;(with_reducible refine(jG a w.heap.size vv o d dv cv _ L _ _ (H.out.below hbw1) hL).mono ?_);rintro e w2 ⟨rfl,ha,hbl,hsz,hpast⟩;have K2:=KP.out _ _ hbW1 _ ha hpast)
    | ((with_reducible refine(HL.out _ HB.out.drew).mono ?_);rintro e w1 ⟨rfl,hb1⟩;have hbW1:Below W.heap.size W w1:=(Below.refl W.heap.size W).drew.trans hb1;have K1:=KB.out w1 hbW1;have hbw1:Below w.heap.size w w1:=HB.out.trans (hbW1.mono HB.out.size)))
  all_goals
   go_wp2_with fail
   go_end0
   subst hq;exact⟨rfl,ha,(hbw1.mono (Wh hal)).trans hbl,Vj hbw1.size hsz⟩
theorem mT(q:Int)(hq6:q=3\/q=4\/q=5\/q=6\/q=7\/q=8)(la ln ra rn n u:Int)(a k:Nat)(caps:Array Value)(vv:Value)(o d:Int)(dv cv:Value)(L:List Bool)(w:World)(h:cT w a w.heap.size vv o d dv cv (.func (.func k) #[] caps) L)(hL:L.length<=1000)
  (hcf:∀(args:Array Value)(w:World),(callFunc k args).run Tryz.prog w=.ok (.enter k args) w)
  (HL:Hid (∀w',Below w.heap.size w w' -> Calls Tryz.prog k (#[.agg #[.int .i64 la,.int .i64 ln],.agg #[.int .i64 ra,.int .i64 rn]] ++ caps) w' fun e w''=>e=.panicked ir/\Below w'.heap.size w' w'')) :
  Calls Tryz.prog 214 #[.pointer (some ⟨a,0,none⟩),dX q la ln ra rn n u] w fun e w'=>e=.panicked ir/\Below a w w':=by
 obtain⟨W,hW⟩:∃W,W=w.alloc (.cells #[(.int .i64 q),.int .i64 la,.int .i64 ln,.int .i64 ra,.int .i64 rn,.int .i64 n,.int .i64 u] 119):=⟨_,rfl⟩;have hb0:Below w.heap.size w W:=by rw[hW];exact(Below.refl _ _).alloc (UU _) _
 have hal:a<w.heap.size:=by obtain⟨_,_,_,h3,_⟩:=h;exact h3
 have hz:W.heap.size=w.heap.size+1:=by rw[hW];simp
 have c5:=(h.below hb0).cells.2.2.2;have x0:W.cell? ⟨w.heap.size,0,none⟩=some (.int .i64 q):=by rw[hW];simp
 have x1:W.cell? ⟨w.heap.size,1,none⟩=some (.int .i64 la):=by rw[hW];simp
 have x2:W.cell? ⟨w.heap.size,2,none⟩=some (.int .i64 ln):=by rw[hW];simp
 have x3:W.cell? ⟨w.heap.size,3,none⟩=some (.int .i64 ra):=by rw[hW];simp
 have x4:W.cell? ⟨w.heap.size,4,none⟩=some (.int .i64 rn):=by rw[hW];simp
 have KB:=ar (fun(w':World) (hb:Below W.heap.size W w')=>(⟨(hb.cell (p:=⟨a,5,none⟩) (by show a<_;omega)).trans c5,(hb.cell (p:=⟨w.heap.size,0,none⟩) (by show w.heap.size<_;omega)).trans x0,(hb.cell (p:=⟨w.heap.size,1,none⟩) (by show w.heap.size<_;omega)).trans x1,(hb.cell (p:=⟨w.heap.size,2,none⟩) (by show w.heap.size<_;omega)).trans x2,(hb.cell (p:=⟨w.heap.size,3,none⟩) (by show w.heap.size<_;omega)).trans x3,(hb.cell (p:=⟨w.heap.size,4,none⟩) (by show w.heap.size<_;omega)).trans x4⟩ :
  w'.cell? ⟨a,5,none⟩=some (.func (.func k) #[] caps)/\w'.cell? ⟨w.heap.size,0,none⟩=some (.int .i64 q)/\w'.cell? ⟨w.heap.size,1,none⟩=some (.int .i64 la)/\w'.cell? ⟨w.heap.size,2,none⟩=some (.int .i64 ln)/\w'.cell? ⟨w.heap.size,3,none⟩=some (.int .i64 ra)/\w'.cell? ⟨w.heap.size,4,none⟩=some (.int .i64 rn)))
 have H:=ar h;have HW:=ar hW;have HB:=ar hb0;clear h hb0 hW;rcases hq6 with hq|hq|hq|hq|hq|hq
 all_goals
  go_enter Tryz.func214,Tryz.ntmps214
  go_wp2_with fail
  have HW2:=HW.out;rw[hq] at HW2;rw[<- HW2];clear HW2;have hS0:=KB.out W.drew ((Below.refl _ _).drew);refine wp_region_held (S:=fun w'=>w'.cell? ⟨a,5,none⟩=some (.func (.func k) #[] caps)/\w'.cell? ⟨w.heap.size,0,none⟩=some (.int .i64 q)/\w'.cell? ⟨w.heap.size,1,none⟩=some (.int .i64 la)/\w'.cell? ⟨w.heap.size,2,none⟩=some (.int .i64 ln)/\w'.cell? ⟨w.heap.size,3,none⟩=some (.int .i64 ra)/\w'.cell? ⟨w.heap.size,4,none⟩=some (.int .i64 rn)) (by kernel_rfl) ?_;refine wpAnyH_take (i:=0) (v:=.pointer (some ⟨a,0,none⟩)) rfl (by kernel_rfl) (by kernel_rfl) (by kernel_rfl) (fun _ _ _ h=>h) (Or.inl ⟨by rfl,?_⟩) hS0 ?_
  .intro w hSw;obtain⟨q0,q1,q2,q3,q4,q5⟩:=hSw;go_simp
  refine wpAnyH_take (i:=1) (v:=.pointer (some ⟨w.heap.size,0,none⟩)) rfl (by kernel_rfl) (by kernel_rfl) (by kernel_rfl) (fun _ _ _ h=>h) (Or.inl ⟨by rfl,?_⟩) hS0 ?_
  .intro w hSw;obtain⟨q0,q1,q2,q3,q4,q5⟩:=hSw;go_simp
  refine wpAnyH_take (i:=2) (v:=.int .i64 q) rfl (by kernel_rfl) (by kernel_rfl) (by kernel_rfl) (fun _ _ _ h=>h) (Or.inl ⟨by rfl,?_⟩) hS0 ?_
  .intro w hSw;obtain⟨q0,q1,q2,q3,q4,q5⟩:=hSw;go_simp
  refine wpAnyH_take (i:=3) (v:=.pointer (some ⟨a,0,none⟩)) rfl (by kernel_rfl) (by kernel_rfl) (by kernel_rfl) (fun _ _ _ h=>h) (Or.inl ⟨by rfl,?_⟩) hS0 ?_
  .intro w hSw;obtain⟨q0,q1,q2,q3,q4,q5⟩:=hSw;go_simp
  refine wpAnyH_take (i:=4) (v:=.pointer (some ⟨a,0,none⟩)) rfl (by kernel_rfl) (by kernel_rfl) (by kernel_rfl) (fun _ _ _ h=>h) (Or.inl ⟨by rfl,?_⟩) hS0 ?_
  .intro w hSw;obtain⟨q0,q1,q2,q3,q4,q5⟩:=hSw;go_simp
  refine wpAnyH_take (i:=5) (v:=.pointer (some ⟨a,5,none⟩)) rfl (by kernel_rfl) (by kernel_rfl) (by kernel_rfl) (fun _ _ _ h=>h) (Or.inl ⟨by rfl,?_⟩) hS0 ?_
  .intro w hSw;obtain⟨q0,q1,q2,q3,q4,q5⟩:=hSw;go_simp
  refine wpAnyH_take (i:=6) (v:=.func (.func k) #[] caps) rfl (by kernel_rfl) (by kernel_rfl) (by kernel_rfl) (fun _ _ _ h=>h) (Or.inl ⟨by rfl,?_⟩) hS0 ?_
  .intro w hSw;obtain⟨q0,q1,q2,q3,q4,q5⟩:=hSw;go_simp
  refine wpAnyH_take (i:=7) (v:=.pointer (some ⟨w.heap.size,1,none⟩)) rfl (by kernel_rfl) (by kernel_rfl) (by kernel_rfl) (fun _ _ _ h=>h) (Or.inl ⟨by rfl,?_⟩) hS0 ?_
  .intro w hSw;obtain⟨q0,q1,q2,q3,q4,q5⟩:=hSw;go_simp
  refine wpAnyH_take (i:=8) (v:=.agg #[.int .i64 la,.int .i64 ln]) rfl (by kernel_rfl) (by kernel_rfl) (by kernel_rfl) (fun _ _ _ h=>h) (Or.inl ⟨by rfl,?_⟩) hS0 ?_
  .intro w hSw;obtain⟨q0,q1,q2,q3,q4,q5⟩:=hSw;go_simp
  refine wpAnyH_take (i:=9) (v:=.pointer (some ⟨w.heap.size,3,none⟩)) rfl (by kernel_rfl) (by kernel_rfl) (by kernel_rfl) (fun _ _ _ h=>h) (Or.inl ⟨by rfl,?_⟩) hS0 ?_
  .intro w hSw;obtain⟨q0,q1,q2,q3,q4,q5⟩:=hSw;go_simp
  refine wpAnyH_take (i:=10) (v:=.agg #[.int .i64 ra,.int .i64 rn]) rfl (by kernel_rfl) (by kernel_rfl) (by kernel_rfl) (fun _ _ _ h=>h) (Or.inl ⟨by rfl,?_⟩) hS0 ?_
  .intro w hSw;obtain⟨q0,q1,q2,q3,q4,q5⟩:=hSw;go_simp
  refine wpAnyH_ready (rs:=[11]) (by kernel_rfl) (by simp) ?_;refine AllReadyH.cons (o:=_) rfl (fun K hK=>?_) AllReadyH.nil
  go_simp
  refine(HL.out _ HB.out.drew).mono ?_;rintro e w1 ⟨rfl,hb1⟩;have hbW1:Below W.heap.size W w1:=(Below.refl W.heap.size W).drew.trans hb1;exact⟨rfl,rfl,(HB.out.mono (Wh hal)).trans (hbW1.mono (by omega))⟩
def JH:=kz 3 (by simp)
def Ng:=mT 3 (by simp)
def Jz:=kz 4 (by simp)
def NX:=mT 4 (by simp)
def KK:=kz 5 (by simp)
def N3:=mT 5 (by simp)
def J5:=kz 6 (by simp)
def M1:=mT 6 (by simp)
def I4:=kz 7 (by simp)
def Pe:=mT 7 (by simp)
def JK:=kz 8 (by simp)
def Mz:=mT 8 (by simp)
end
section
theorem JO(la ln ra rn n u:Int)(a:Nat)(vv:Value)(o d:Int)(dv cv f:Value)(L:List Bool)(w:World)(h:cT w a w.heap.size vv o d dv cv f L)(hL:L.length<=1000) :
  Calls Tryz.prog 214 #[.pointer (some ⟨a,0,none⟩),dX 9 la ln ra rn n u] w (gw a vv o d dv cv f (L ++ [aQ o n]) w):=by
 obtain⟨W,hW⟩:∃W,W=w.alloc (.cells #[.int .i64 9,.int .i64 la,.int .i64 ln,.int .i64 ra,.int .i64 rn,.int .i64 n,.int .i64 u] 119):=⟨_,rfl⟩;have hb0:Below w.heap.size w W:=by rw[hW];exact(Below.refl _ _).alloc (UU _) _
 have hal:a<w.heap.size:=by obtain⟨_,_,_,h3,_⟩:=h;exact h3
 have hz:W.heap.size=w.heap.size+1:=by rw[hW];simp
 have c5:=(h.below hb0).cells.2.1;have x0:W.cell? ⟨w.heap.size,5,none⟩=some (.int .i64 n):=by rw[hW];simp
 have KB:=ar (fun(w':World) (hb:Below W.heap.size W w')=>(⟨(hb.cell (p:=⟨a,1,none⟩) (by show a<_;omega)).trans c5,(hb.cell (p:=⟨w.heap.size,5,none⟩) (by show w.heap.size<_;omega)).trans x0⟩ :
  w'.cell? ⟨a,1,none⟩=some (.int .i64 o)/\w'.cell? ⟨w.heap.size,5,none⟩=some (.int .i64 n)))
 have KP:=ar (fun(w1 w2:World) (hb:Below W.heap.size W w1) (ha:cT w2 a w2.heap.size vv o d dv cv f (L ++ [aQ o n])) (hp:A3 w.heap.size w1 w2)=>by
  obtain⟨q0,q1⟩:=KB.out w1 hb;have hs:w.heap.size<w1.heap.size:=by have:=hb.size;omega
  exact(⟨ha.cells.2.1,(hp.cell (UU _) hs).trans q1⟩ :
   w2.cell? ⟨a,1,none⟩=some (.int .i64 o)/\w2.cell? ⟨w.heap.size,5,none⟩=some (.int .i64 n)))
 have H:=ar h;have HW:=ar hW;have HB:=ar hb0;clear h hb0 hW
 go_enter Tryz.func214,Tryz.ntmps214
 go_wp2_with fail
 rw[<- HW.out];have hbW:Below W.heap.size W W.drew:=(Below.refl _ _).drew;have hbw:Below w.heap.size w W.drew:=HB.out.drew;have hS0:=KB.out W.drew hbW
 go_region_held3 (fun w'=>w'.cell? ⟨a,1,none⟩=some (.int .i64 o)/\w'.cell? ⟨w.heap.size,5,none⟩=some (.int .i64 n)) (assumption)
  (first
   | (go_at_call 182;refine(wU _ _ _).mono ?_;rintro e w' ⟨rfl,rfl⟩)
   | (go_at_call 223;(with_reducible refine(jG a w.heap.size vv o d dv cv _ L _ _ (H.out.below hbw) hL).mono ?_);rintro e w2 ⟨rfl,ha,hbl,hsz,hpast⟩;have K2:=KP.out _ _ hbW ha hpast))
 all_goals
  go_wp2_with fail
  go_end0
  exact⟨rfl,ha,(hbw.mono (Wh hal)).trans hbl,Vj hbw.size hsz⟩
theorem HJ(la ln ra rn n u:Int)(a:Nat)(vv:Value)(o d:Int)(dv cv f:Value)(L:List Bool)(w:World)(h:cT w a w.heap.size vv o d dv cv f L)(hL:L.length<=1000) :
  Calls Tryz.prog 214 #[.pointer (some ⟨a,0,none⟩),dX 10 la ln ra rn n u] w (gw a vv o d dv cv f (L ++ [aQ d n]) w):=by
 obtain⟨W,hW⟩:∃W,W=w.alloc (.cells #[.int .i64 10,.int .i64 la,.int .i64 ln,.int .i64 ra,.int .i64 rn,.int .i64 n,.int .i64 u] 119):=⟨_,rfl⟩;have hb0:Below w.heap.size w W:=by rw[hW];exact(Below.refl _ _).alloc (UU _) _
 have hal:a<w.heap.size:=by obtain⟨_,_,_,h3,_⟩:=h;exact h3
 have hz:W.heap.size=w.heap.size+1:=by rw[hW];simp
 have c5:=(h.below hb0).cells.2.2.1;have x0:W.cell? ⟨w.heap.size,5,none⟩=some (.int .i64 n):=by rw[hW];simp
 have KB:=ar (fun(w':World) (hb:Below W.heap.size W w')=>(⟨(hb.cell (p:=⟨a,2,none⟩) (by show a<_;omega)).trans c5,(hb.cell (p:=⟨w.heap.size,5,none⟩) (by show w.heap.size<_;omega)).trans x0⟩ :
  w'.cell? ⟨a,2,none⟩=some (.int .i64 d)/\w'.cell? ⟨w.heap.size,5,none⟩=some (.int .i64 n)))
 have KP:=ar (fun(w1 w2:World) (hb:Below W.heap.size W w1) (ha:cT w2 a w2.heap.size vv o d dv cv f (L ++ [aQ d n])) (hp:A3 w.heap.size w1 w2)=>by
  obtain⟨q0,q1⟩:=KB.out w1 hb;have hs:w.heap.size<w1.heap.size:=by have:=hb.size;omega
  exact(⟨ha.cells.2.2.1,(hp.cell (UU _) hs).trans q1⟩ :
   w2.cell? ⟨a,2,none⟩=some (.int .i64 d)/\w2.cell? ⟨w.heap.size,5,none⟩=some (.int .i64 n)))
 have H:=ar h;have HW:=ar hW;have HB:=ar hb0;clear h hb0 hW
 go_enter Tryz.func214,Tryz.ntmps214
 go_wp2_with fail
 rw[<- HW.out];have hbW:Below W.heap.size W W.drew:=(Below.refl _ _).drew;have hbw:Below w.heap.size w W.drew:=HB.out.drew;have hS0:=KB.out W.drew hbW
 go_region_held3 (fun w'=>w'.cell? ⟨a,2,none⟩=some (.int .i64 d)/\w'.cell? ⟨w.heap.size,5,none⟩=some (.int .i64 n)) (assumption)
  (first
   | (go_at_call 182;refine(wU _ _ _).mono ?_;rintro e w' ⟨rfl,rfl⟩)
   | (go_at_call 223;(with_reducible refine(jG a w.heap.size vv o d dv cv _ L _ _ (H.out.below hbw) hL).mono ?_);rintro e w2 ⟨rfl,ha,hbl,hsz,hpast⟩;have K2:=KP.out _ _ hbW ha hpast))
 all_goals
  go_wp2_with fail
  go_end0
  exact⟨rfl,ha,(hbw.mono (Wh hal)).trans hbl,Vj hbw.size hsz⟩
theorem Ol(la ln ra rn n u:Int)(a:Nat)(vv:Value)(o d:Int)(dv cv f:Value)(L:List Bool)(b:Bool)(w:World)(h:cT w a w.heap.size vv o d dv cv f (L ++ [b]))(hL:L.length<=999) :
  Calls Tryz.prog 214 #[.pointer (some ⟨a,0,none⟩),dX 15 la ln ra rn n u] w (gw a vv o d dv cv f (L ++ [!b]) w):=by
 have hb0:Below w.heap.size w (w.alloc (.cells #[.int .i64 15,.int .i64 la,.int .i64 ln,.int .i64 ra,.int .i64 rn,.int .i64 n,.int .i64 u] 119)):=(Below.refl _ _).alloc (UU _) _;have hal:a<w.heap.size:=by obtain⟨_,_,_,h3,_⟩:=h;exact h3
 have Hp:=ar (jp a w.heap.size vv o d dv cv f L b _ (h.below hb0) (by omega));have HB:=ar hb0;clear h hb0
 go_enter Tryz.func214,Tryz.ntmps214
 go_wp2_with (first
  | (go_at_call 215;refine Hp.out.mono ?_;rintro e w1 ⟨rfl,ha,hbl,hsz,_⟩)
  | (go_at_call 223;(with_reducible refine(jG a w.heap.size vv o d dv cv _ L _ _ ha (by omega)).mono ?_);rintro e w2 ⟨rfl,ha2,hbl2,hsz2,_⟩))
 go_end0
 have h1:=(HB.out.mono (Wh hal)).trans hbl;exact⟨rfl,ha2,h1.trans hbl2,Vj (Vj HB.out.size hsz) hsz2⟩
theorem zF(la ln ra rn n u:Int)(a:Nat)(vv:Value)(o d:Int)(dv cv f:Value)(w:World)(h:cT w a w.heap.size vv o d dv cv f []) :
  Calls Tryz.prog 214 #[.pointer (some ⟨a,0,none⟩),dX 15 la ln ra rn n u] w fun e w'=>e=.panicked ir/\Below a w w':=by
 have hb0:Below w.heap.size w (w.alloc (.cells #[.int .i64 15,.int .i64 la,.int .i64 ln,.int .i64 ra,.int .i64 rn,.int .i64 n,.int .i64 u] 119)):=(Below.refl _ _).alloc (UU _) _;have hal:a<w.heap.size:=by obtain⟨_,_,_,h3,_⟩:=h;exact h3
 have Hp:=ar (fB a w.heap.size vv o d dv cv f _ (h.below hb0));have HB:=ar hb0;clear h hb0
 go_enter Tryz.func214,Tryz.ntmps214
 go_wp2_with (first
  | (go_at_call 215;refine Hp.out.mono ?_;rintro e w1 ⟨rfl,rfl⟩))
 exact⟨rfl,rfl,HB.out.mono (Wh hal)⟩
theorem Fp(la ln ra rn n u:Int)(a:Nat)(vv:Value)(o d:Int)(dv cv f:Value)(L:List Bool)(x y:Bool)(w:World)(h:cT w a w.heap.size vv o d dv cv f ((L ++ [x]) ++ [y]))(hL:L.length<=998) :
  Calls Tryz.prog 214 #[.pointer (some ⟨a,0,none⟩),dX 16 la ln ra rn n u] w (gw a vv o d dv cv f (L ++ [x && y]) w):=by
 obtain⟨W,hW⟩:∃W,W=w.alloc (.cells #[.int .i64 16,.int .i64 la,.int .i64 ln,.int .i64 ra,.int .i64 rn,.int .i64 n,.int .i64 u] 119):=⟨_,rfl⟩;have hb0:Below w.heap.size w W:=by rw[hW];exact(Below.refl _ _).alloc (UU _) _
 have hal:a<w.heap.size:=by obtain⟨_,_,_,h3,_⟩:=h;exact h3
 have x0:W.cell? ⟨w.heap.size,0,none⟩=some (.int .i64 16):=by rw[hW];simp
 have hz:W.heap.size=w.heap.size+1:=by rw[hW];simp
 have Hp:=ar (jp a w.heap.size vv o d dv cv f (L ++ [x]) y _ (h.below hb0) (by simp;omega));have HB:=ar hb0;have HW:=ar hW;clear h hb0 hW;cases x<;>cases y
 all_goals
  go_enter Tryz.func214,Tryz.ntmps214
  go_wp2_with fail
  rw[<- HW.out];refine Hp.out.mono ?_;rintro e w1 ⟨rfl,ha,hbl,hsz,hp1⟩;have y0:=(hp1.cell (i:=0) (UU _) (by omega)).trans x0;have hs1:w.heap.size<w1.heap.size:=by omega
  go_wp2_with fail
  refine(jp a w.heap.size vv o d dv cv f L _ _ ha (by omega)).mono ?_;rintro e w2 ⟨rfl,ha2,hbl2,hsz2,hp2⟩;have z0:=(hp2.cell (i:=0) (UU _) hs1).trans y0;have Ha:=ar ha;clear x0 y0 hp1 hp2 ha
  go_wp2_with fail
  refine(jG a w.heap.size vv o d dv cv f L _ _ ha2 (by omega)).mono ?_;rintro e w3 ⟨rfl,ha3,hbl3,hsz3,hp3⟩
  go_wp2_with fail
  go_end0
  have h1:=((HB.out.mono (Wh hal)).trans hbl).trans hbl2;exact⟨rfl,ha3,h1.trans hbl3,by omega⟩
theorem uo(la ln ra rn n u:Int)(a:Nat)(vv:Value)(o d:Int)(dv cv f:Value)(L:List Bool)(w:World)(h:cT w a w.heap.size vv o d dv cv f L)(hL:L.length<2) :
  Calls Tryz.prog 214 #[.pointer (some ⟨a,0,none⟩),dX 16 la ln ra rn n u] w fun e w'=>e=.panicked ir/\Below a w w':=by
 have hb0:Below w.heap.size w (w.alloc (.cells #[.int .i64 16,.int .i64 la,.int .i64 ln,.int .i64 ra,.int .i64 rn,.int .i64 n,.int .i64 u] 119)):=(Below.refl _ _).alloc (UU _) _;have hal:a<w.heap.size:=by obtain⟨_,_,_,h3,_⟩:=h;exact h3
 have HB:=ar hb0
 match L,hL with
 | [],_=>
  have Hp:=ar (fB a w.heap.size vv o d dv cv f _ (h.below hb0));clear h hb0
  go_enter Tryz.func214,Tryz.ntmps214
  go_wp2_with (first
   | (go_at_call 215;refine Hp.out.mono ?_;rintro e w1 ⟨rfl,rfl⟩))
  exact⟨rfl,rfl,HB.out.mono (Wh hal)⟩
 | [y],_=>
  have Hp:=ar (jp a w.heap.size vv o d dv cv f [] y _ (h.below hb0) (by simp));clear h hb0
  go_enter Tryz.func214,Tryz.ntmps214
  go_wp2_with fail
  refine Hp.out.mono ?_;rintro e w1 ⟨rfl,ha,hbl,hsz,hp1⟩
  go_wp2_with fail
  refine(fB a w.heap.size vv o d dv cv f _ ha).mono ?_;rintro e w2 ⟨rfl,rfl⟩;exact⟨rfl,rfl,(HB.out.mono (Wh hal)).trans hbl⟩
theorem Fh(la ln ra rn n u:Int)(a:Nat)(vv:Value)(o d:Int)(dv cv f:Value)(L:List Bool)(x y:Bool)(w:World)(h:cT w a w.heap.size vv o d dv cv f ((L ++ [x]) ++ [y]))(hL:L.length<=998) :
  Calls Tryz.prog 214 #[.pointer (some ⟨a,0,none⟩),dX 17 la ln ra rn n u] w (gw a vv o d dv cv f (L ++ [x || y]) w):=by
 obtain⟨W,hW⟩:∃W,W=w.alloc (.cells #[.int .i64 17,.int .i64 la,.int .i64 ln,.int .i64 ra,.int .i64 rn,.int .i64 n,.int .i64 u] 119):=⟨_,rfl⟩;have hb0:Below w.heap.size w W:=by rw[hW];exact(Below.refl _ _).alloc (UU _) _
 have hal:a<w.heap.size:=by obtain⟨_,_,_,h3,_⟩:=h;exact h3
 have x0:W.cell? ⟨w.heap.size,0,none⟩=some (.int .i64 17):=by rw[hW];simp
 have hz:W.heap.size=w.heap.size+1:=by rw[hW];simp
 have Hp:=ar (jp a w.heap.size vv o d dv cv f (L ++ [x]) y _ (h.below hb0) (by simp;omega));have HB:=ar hb0;have HW:=ar hW;clear h hb0 hW;cases x<;>cases y
 all_goals
  go_enter Tryz.func214,Tryz.ntmps214
  go_wp2_with fail
  rw[<- HW.out];refine Hp.out.mono ?_;rintro e w1 ⟨rfl,ha,hbl,hsz,hp1⟩;have y0:=(hp1.cell (i:=0) (UU _) (by omega)).trans x0;have hs1:w.heap.size<w1.heap.size:=by omega
  go_wp2_with fail
  refine(jp a w.heap.size vv o d dv cv f L _ _ ha (by omega)).mono ?_;rintro e w2 ⟨rfl,ha2,hbl2,hsz2,hp2⟩;have z0:=(hp2.cell (i:=0) (UU _) hs1).trans y0;have Ha:=ar ha;clear x0 y0 hp1 hp2 ha
  go_wp2_with fail
  refine(jG a w.heap.size vv o d dv cv f L _ _ ha2 (by omega)).mono ?_;rintro e w3 ⟨rfl,ha3,hbl3,hsz3,hp3⟩
  go_wp2_with fail
  go_end0
  have h1:=((HB.out.mono (Wh hal)).trans hbl).trans hbl2;exact⟨rfl,ha3,h1.trans hbl3,by omega⟩
theorem ur(la ln ra rn n u:Int)(a:Nat)(vv:Value)(o d:Int)(dv cv f:Value)(L:List Bool)(w:World)(h:cT w a w.heap.size vv o d dv cv f L)(hL:L.length<2) :
  Calls Tryz.prog 214 #[.pointer (some ⟨a,0,none⟩),dX 17 la ln ra rn n u] w fun e w'=>e=.panicked ir/\Below a w w':=by
 have hb0:Below w.heap.size w (w.alloc (.cells #[.int .i64 17,.int .i64 la,.int .i64 ln,.int .i64 ra,.int .i64 rn,.int .i64 n,.int .i64 u] 119)):=(Below.refl _ _).alloc (UU _) _;have hal:a<w.heap.size:=by obtain⟨_,_,_,h3,_⟩:=h;exact h3
 have HB:=ar hb0
 match L,hL with
 | [],_=>
  have Hp:=ar (fB a w.heap.size vv o d dv cv f _ (h.below hb0));clear h hb0
  go_enter Tryz.func214,Tryz.ntmps214
  go_wp2_with (first
   | (go_at_call 215;refine Hp.out.mono ?_;rintro e w1 ⟨rfl,rfl⟩))
  exact⟨rfl,rfl,HB.out.mono (Wh hal)⟩
 | [y],_=>
  have Hp:=ar (jp a w.heap.size vv o d dv cv f [] y _ (h.below hb0) (by simp));clear h hb0
  go_enter Tryz.func214,Tryz.ntmps214
  go_wp2_with fail
  refine Hp.out.mono ?_;rintro e w1 ⟨rfl,ha,hbl,hsz,hp1⟩
  go_wp2_with fail
  refine(fB a w.heap.size vv o d dv cv f _ ha).mono ?_;rintro e w2 ⟨rfl,rfl⟩;exact⟨rfl,rfl,(HB.out.mono (Wh hal)).trans hbl⟩
theorem FA(la ln ra rn n u:Int)(a:Nat)(vv:Value)(o d:Int)(dv cv f:Value)(L:List Bool)(x y:Bool)(w:World)(h:cT w a w.heap.size vv o d dv cv f ((L ++ [x]) ++ [y]))(hL:L.length<=998) :
  Calls Tryz.prog 214 #[.pointer (some ⟨a,0,none⟩),dX 18 la ln ra rn n u] w (gw a vv o d dv cv f (L ++ [!x || y]) w):=by
 obtain⟨W,hW⟩:∃W,W=w.alloc (.cells #[.int .i64 18,.int .i64 la,.int .i64 ln,.int .i64 ra,.int .i64 rn,.int .i64 n,.int .i64 u] 119):=⟨_,rfl⟩;have hb0:Below w.heap.size w W:=by rw[hW];exact(Below.refl _ _).alloc (UU _) _
 have hal:a<w.heap.size:=by obtain⟨_,_,_,h3,_⟩:=h;exact h3
 have x0:W.cell? ⟨w.heap.size,0,none⟩=some (.int .i64 18):=by rw[hW];simp
 have hz:W.heap.size=w.heap.size+1:=by rw[hW];simp
 have Hp:=ar (jp a w.heap.size vv o d dv cv f (L ++ [x]) y _ (h.below hb0) (by simp;omega));have HB:=ar hb0;have HW:=ar hW;clear h hb0 hW;cases x<;>cases y
 all_goals
  go_enter Tryz.func214,Tryz.ntmps214
  go_wp2_with fail
  rw[<- HW.out];refine Hp.out.mono ?_;rintro e w1 ⟨rfl,ha,hbl,hsz,hp1⟩;have y0:=(hp1.cell (i:=0) (UU _) (by omega)).trans x0;have hs1:w.heap.size<w1.heap.size:=by omega
  go_wp2_with fail
  refine(jp a w.heap.size vv o d dv cv f L _ _ ha (by omega)).mono ?_;rintro e w2 ⟨rfl,ha2,hbl2,hsz2,hp2⟩;have z0:=(hp2.cell (i:=0) (UU _) hs1).trans y0;have Ha:=ar ha;clear x0 y0 hp1 hp2 ha
  go_wp2_with fail
  refine(jG a w.heap.size vv o d dv cv f L _ _ ha2 (by omega)).mono ?_;rintro e w3 ⟨rfl,ha3,hbl3,hsz3,hp3⟩
  go_wp2_with fail
  go_end0
  have h1:=((HB.out.mono (Wh hal)).trans hbl).trans hbl2;exact⟨rfl,ha3,h1.trans hbl3,by omega⟩
theorem uv(la ln ra rn n u:Int)(a:Nat)(vv:Value)(o d:Int)(dv cv f:Value)(L:List Bool)(w:World)(h:cT w a w.heap.size vv o d dv cv f L)(hL:L.length<2) :
  Calls Tryz.prog 214 #[.pointer (some ⟨a,0,none⟩),dX 18 la ln ra rn n u] w fun e w'=>e=.panicked ir/\Below a w w':=by
 have hb0:Below w.heap.size w (w.alloc (.cells #[.int .i64 18,.int .i64 la,.int .i64 ln,.int .i64 ra,.int .i64 rn,.int .i64 n,.int .i64 u] 119)):=(Below.refl _ _).alloc (UU _) _;have hal:a<w.heap.size:=by obtain⟨_,_,_,h3,_⟩:=h;exact h3
 have HB:=ar hb0
 match L,hL with
 | [],_=>
  have Hp:=ar (fB a w.heap.size vv o d dv cv f _ (h.below hb0));clear h hb0
  go_enter Tryz.func214,Tryz.ntmps214
  go_wp2_with (first
   | (go_at_call 215;refine Hp.out.mono ?_;rintro e w1 ⟨rfl,rfl⟩))
  exact⟨rfl,rfl,HB.out.mono (Wh hal)⟩
 | [y],_=>
  have Hp:=ar (jp a w.heap.size vv o d dv cv f [] y _ (h.below hb0) (by simp));clear h hb0
  go_enter Tryz.func214,Tryz.ntmps214
  go_wp2_with fail
  refine Hp.out.mono ?_;rintro e w1 ⟨rfl,ha,hbl,hsz,hp1⟩
  go_wp2_with fail
  refine(fB a w.heap.size vv o d dv cv f _ ha).mono ?_;rintro e w2 ⟨rfl,rfl⟩;exact⟨rfl,rfl,(HB.out.mono (Wh hal)).trans hbl⟩
theorem O4(op la ln ra rn n u:Int)(a:Nat)(w:World)(hal:a<=w.heap.size)(h1:(op == 1)=false)(h2:(op == 2)=false)(h3:(op == 3)=false)(h4:(op == 4)=false)(h5:(op == 5)=false)(h6:(op == 6)=false)(h7:(op == 7)=false)(h8:(op == 8)=false)
  (h9:(op == 9)=false) (h10:(op == 10)=false) (h15:(op == 15)=false) (h16:(op == 16)=false) (h17:(op == 17)=false) (h18:(op == 18)=false) :
  Calls Tryz.prog 214 #[.pointer (some ⟨a,0,none⟩),dX op la ln ra rn n u] w fun e w'=>e=.panicked ir/\Below a w w':=by
 go_enter Tryz.func214,Tryz.ntmps214
 go_wp2_with fail
 exact⟨rfl,rfl,(Below.refl _ _).alloc hal _⟩
end
section
def lh(k:Nat)(caps:Array Value)(cm:aw->Option Int)(x:aw)(w0:World):Prop:=∀w',Below w0.heap.size w0 w' ->
 match cm x with
 | some c=>Calls Tryz.prog k (#[.agg #[.int .i64 x.la,.int .i64 x.ln],.agg #[.int .i64 x.ra,.int .i64 x.rn]] ++ caps) w' fun e w''=>e=.returned (.int .i64 c)/\Below w'.heap.size w' w''
 | none=>Calls Tryz.prog k (#[.agg #[.int .i64 x.la,.int .i64 x.ln],.agg #[.int .i64 x.ra,.int .i64 x.rn]] ++ caps) w' fun e w''=>e=.panicked ir/\Below w'.heap.size w' w''
theorem lh.some_{k:Nat}{caps:Array Value}{cm:aw->Option Int}{x:aw}{w0 w:World}(h:lh k caps cm x w0)(hb:Below w0.heap.size w0 w){c:Int}(hc:cm x=some c) :
  Hid (∀w',Below w.heap.size w w' -> Calls Tryz.prog k (#[.agg #[.int .i64 x.la,.int .i64 x.ln],.agg #[.int .i64 x.ra,.int .i64 x.rn]] ++ caps) w' fun e w''=>e=.returned (.int .i64 c)/\Below w'.heap.size w' w''):=by
 refine ar fun w' hw=>?_;have:=h w' (hb.trans (hw.mono hb.size));rw[hc] at this;exact this
theorem lh.none_{k:Nat}{caps:Array Value}{cm:aw->Option Int}{x:aw}{w0 w:World}(h:lh k caps cm x w0)(hb:Below w0.heap.size w0 w)(hc:cm x=none) :
  Hid (∀w',Below w.heap.size w w' -> Calls Tryz.prog k (#[.agg #[.int .i64 x.la,.int .i64 x.ln],.agg #[.int .i64 x.ra,.int .i64 x.rn]] ++ caps) w' fun e w''=>e=.panicked ir/\Below w'.heap.size w' w''):=by
 refine ar fun w' hw=>?_;have:=h w' (hb.trans (hw.mono hb.size));rw[hc] at this;exact this
theorem oG{L r:List Bool}{b:Bool}(h:L.reverse=b :: r):L=r.reverse ++ [b]:=by
 have:=congrArg List.reverse h;simpa using this
theorem E7(x:aw)(cm:aw->Option Int)(a k:Nat)(caps:Array Value)(vv:Value)(o d:Int)(dv cv:Value)(L:List Bool)(r':List Bool)(w w0:World)(h:cT w a w.heap.size vv o d dv cv (.func (.func k) #[] caps) L)(hL:L.length<=900)
  (hcf:∀(args:Array Value)(w:World),(callFunc k args).run Tryz.prog w=.ok (.enter k args) w) (hl:lh k caps cm x w0) (hb:Below w0.heap.size w0 w) (hr:cD cm o d x L.reverse=some r') :
  Calls Tryz.prog 214 #[.pointer (some ⟨a,0,none⟩),dX x.op x.la x.ln x.ra x.rn x.n x.u] w (gw a vv o d dv cv (.func (.func k) #[] caps) r'.reverse w):=by
 obtain⟨op,la,ln,ra,rn,n,u⟩:=x;unfold cD at hr;simp only at hr ⊢;split at hr
 .cases hr;have:=Uk op la ln ra rn n u a vv o d dv cv _ L w h (by omega) (by assumption);simpa using this
 split at hr
 .rename_i h1;split at hr
  .rename_i c hc;cases hr;have HL:=hl.some_ hb hc;have e:op=3\/op=4\/op=5\/op=6\/op=7\/op=8:=(by omega);rw[List.reverse_cons,Xl];rcases e with rfl|rfl|rfl|rfl|rfl|rfl
   .exact JH la ln ra rn n u c a k caps vv o d dv cv L w h (by omega) hcf HL
   .exact Jz la ln ra rn n u c a k caps vv o d dv cv L w h (by omega) hcf HL
   .exact KK la ln ra rn n u c a k caps vv o d dv cv L w h (by omega) hcf HL
   .exact J5 la ln ra rn n u c a k caps vv o d dv cv L w h (by omega) hcf HL
   .exact I4 la ln ra rn n u c a k caps vv o d dv cv L w h (by omega) hcf HL
   .exact JK la ln ra rn n u c a k caps vv o d dv cv L w h (by omega) hcf HL
  .cases hr
 split at hr
 .rename_i h9;subst h9;cases hr;rw[List.reverse_cons,Xl];exact JO la ln ra rn n u a vv o d dv cv _ L w h (by omega)
 split at hr
 .rename_i h10;subst h10;cases hr;rw[List.reverse_cons,Xl];exact HJ la ln ra rn n u a vv o d dv cv _ L w h (by omega)
 split at hr
 .rename_i h15;subst h15;split at hr
  .rename_i b r e;cases hr;obtain rfl:=oG e;simp at hL;rw[List.reverse_cons];exact Ol la ln ra rn n u a vv o d dv cv _ _ b w h (by simp;omega)
  .cases hr
 split at hr
 .rename_i h16;split at hr
  .rename_i b a' r e;cases hr
   have e2:L=(r.reverse ++ [a']) ++ [b]:=by
    have:=oG e;simpa using this
   subst e2;simp at hL;have e:op=16\/op=17\/op=18:=(by omega);rcases e with rfl|rfl|rfl
   .have:=Fp la ln ra rn n u a vv o d dv cv _ r.reverse a' b w h (by simp;omega);simpa using this
   .have:=Fh la ln ra rn n u a vv o d dv cv _ r.reverse a' b w h (by simp;omega);simpa using this
   .have:=FA la ln ra rn n u a vv o d dv cv _ r.reverse a' b w h (by simp;omega);simpa using this
  .cases hr
 .cases hr
theorem Gk(x:aw)(cm:aw->Option Int)(a k:Nat)(caps:Array Value)(vv:Value)(o d:Int)(dv cv:Value)(L:List Bool)(w w0:World)(h:cT w a w.heap.size vv o d dv cv (.func (.func k) #[] caps) L)(hL:L.length<=900)
  (hcf:∀(args:Array Value)(w:World),(callFunc k args).run Tryz.prog w=.ok (.enter k args) w) (hl:lh k caps cm x w0) (hb:Below w0.heap.size w0 w) (hr:cD cm o d x L.reverse=none) :
  Calls Tryz.prog 214 #[.pointer (some ⟨a,0,none⟩),dX x.op x.la x.ln x.ra x.rn x.n x.u] w fun e w'=>e=.panicked ir/\Below a w w':=by
 have hal:a<w.heap.size:=by obtain⟨_,_,_,h3,_⟩:=h;exact h3
 obtain⟨op,la,ln,ra,rn,n,u⟩:=x;unfold cD at hr;simp only at hr ⊢;split at hr
 .cases hr
 rename_i h12;split at hr
 .rename_i h1;split at hr
  .cases hr
  .rename_i hc;have HL:=hl.none_ hb hc;have e:op=3\/op=4\/op=5\/op=6\/op=7\/op=8:=(by omega);rcases e with rfl|rfl|rfl|rfl|rfl|rfl
   .exact Ng la ln ra rn n u a k caps vv o d dv cv L w h (by omega) hcf HL
   .exact NX la ln ra rn n u a k caps vv o d dv cv L w h (by omega) hcf HL
   .exact N3 la ln ra rn n u a k caps vv o d dv cv L w h (by omega) hcf HL
   .exact M1 la ln ra rn n u a k caps vv o d dv cv L w h (by omega) hcf HL
   .exact Pe la ln ra rn n u a k caps vv o d dv cv L w h (by omega) hcf HL
   .exact Mz la ln ra rn n u a k caps vv o d dv cv L w h (by omega) hcf HL
 rename_i h38;split at hr
 .cases hr
 rename_i h9;split at hr
 .cases hr
 rename_i h10;split at hr
 .rename_i h15;subst h15;split at hr
  .cases hr
  .rename_i e;have e:L=[]:=(by simpa using e);subst e;exact zF la ln ra rn n u a vv o d dv cv _ w h
 rename_i h15;split at hr
 .rename_i h16
  have hl2:L.length<2:=by
   rw[<- List.length_reverse]
   match hh:L.reverse with
   | []=>simp
   | [_]=>simp
   | _ :: _ :: _=>rw[hh] at hr;cases hr
  have e:op=16\/op=17\/op=18:=by omega
  rcases e with rfl|rfl|rfl
  .exact uo la ln ra rn n u a vv o d dv cv _ L w h hl2
  .exact ur la ln ra rn n u a vv o d dv cv _ L w h hl2
  .exact uv la ln ra rn n u a vv o d dv cv _ L w h hl2
 .rename_i h16;have ne:∀k:Int,op≠k->(op == k)=false:=fun k h=>Vv.2 h;exact O4 op la ln ra rn n u a w (Wh hal) (ne _ (by omega)) (ne _ (by omega)) (ne _ (by omega)) (ne _ (by omega)) (ne _ (by omega)) (ne _ (by omega)) (ne _ (by omega)) (ne _ (by omega)) (ne _ (by omega)) (ne _ (by omega)) (ne _ (by omega)) (ne _ (by omega)) (ne _ (by omega)) (ne _ (by omega))
end
section
theorem Bn(p q:Addr)(w:World):Calls Tryz.prog 212 #[.pointer (some p),.pointer (some q),.nilIface] w fun e w'=>e=.returned (.tuple #[])/\w=w':=by
 go_enter Tryz.func212,Tryz.ntmps212
 go_wp2
 refine bodyPost_ret (results_none rfl _ _ _) rfl ?_;exact⟨rfl,rfl⟩
theorem CI(w:World):(Instr.typeAssert (.iface 259 (.agg #[])) 20 259 true).run Tryz.prog w=.ok (.tuple #[.agg #[],.bool true]) w:=by kernel_rfl
theorem Uh(w:World):(binOp BinOp.eql 20 (.iface 259 (.agg #[])) .nilIface).run Tryz.prog w=.ok (.bool false) w:=by kernel_rfl
theorem AJ(p q:Nat)(x:Bool)(y:Int)(w:World)(hp:jd w p 4 #[.bool x])(hq:jd w q 47 #[.int .i64 y])(hpq:p≠q){B:Nat}(hBp:B<=p)(hBq:B<=q):Calls Tryz.prog 212 #[.pointer (some ⟨p,0,none⟩),.pointer (some ⟨q,0,none⟩),.iface 259 (.agg #[])] w fun e w'=>e=.returned (.tuple #[])/\jd w' p 4 #[.bool false]/\jd w' q 47 #[.int .i64 17]/\Below B w w':=by
 have hta:=CI;have heq:=Uh;have c0:=hp.cell 0;have f0:=hp.frozen 0;have d0:=hq.cell 0;have g0:=hq.frozen 0;simp at c0 d0;have hpl:=hp.lt;have hql:=hq.lt;have HP:=ar hp;have HQ:=ar hq;clear hp hq
 go_enter Tryz.func212,Tryz.ntmps212
 go_wp2
 go_end0
 refine⟨rfl,?_,?_,(((Below.refl B w).setCell hBp _).setCell hBq _).alloc (by simp;omega) _⟩
 .have h1:=HP.out.set_ 0 (.bool false);have h2:=(h1.far (p:=⟨q,0,none⟩) (by simpa using hpq) (.int .i64 17)).alloc (.cells #[] 259);simpa using h2
 .have h1:=HQ.out.far (p:=⟨p,0,none⟩) (by simpa using Ne.symm hpq) (.bool false);have h2:=(h1.set_ 0 (.int .i64 17)).alloc (.cells #[] 259);simpa using h2
theorem tr(p q:Addr)(w:World) :
  CallsD Tryz.prog 211 #[.pointer (some p),.pointer (some q)] .returning w fun e u' w'=>e=.returned (.tuple #[])/\u'=.returning/\w=w':=by
 refine callsD_of_wpS Tryz.func211 rfl fun c₀ cs hu=>?_;apply wpS_region;simp[wpOpsS,go_sem,recoverD,hu,Tryz.ntmps211,Exit.thenS];refine(Bn p q w).mono ?_;rintro e w' ⟨rfl,rfl⟩;cases c₀;simp_all [bodyPostS,results,Tryz.results211]
theorem tX(p q:Nat)(x:Bool)(y:Int)(w:World)(hp:jd w p 4 #[.bool x])(hq:jd w q 47 #[.int .i64 y])(hpq:p≠q){B:Nat}(hBp:B<=p)(hBq:B<=q) :
  CallsD Tryz.prog 211 #[.pointer (some ⟨p,0,none⟩),.pointer (some ⟨q,0,none⟩)] (.panicking ir) w fun e u' w'=>e=.returned (.tuple #[])/\u'=.panicking [{ v:=.iface 259 (.agg #[]),recovered:=true }]/\(jd w' p 4 #[.bool false]/\jd w' q 47 #[.int .i64 17]/\Below B w w'):=by
 have H:=ar (AJ p q x y w hp hq hpq hBp hBq);clear hp hq;refine callsD_of_wpS Tryz.func211 rfl fun c₀ cs hu=>?_;apply wpS_region;simp[wpOpsS,go_sem,recoverD,hu,Tryz.ntmps211,Exit.thenS,ir];refine H.out.mono ?_;rintro e w' ⟨rfl,h1,h2,h3⟩;refine⟨rfl,_,rfl,.tuple #[],?_,rfl,rfl,h1,h2,h3⟩;simp[results,Tryz.results211,go_sem]
end
section
theorem sA(k:Nat)(caps:Array Value)(w:World):(binOp BinOp.eql 229 (.func (.func k) #[] caps) .nilFunc).run Tryz.prog w=.ok (.bool false) w:=by kernel_rfl
def W0(w:World)(vv:Value)(o d:Int)(dv cv:Value):World:=((w.alloc (.cells #[vv,.int .i64 o,.int .i64 d,dv,cv] 59)).alloc (.cells #[.bool false] 4)).alloc (.cells #[.int .i64 0] 47)
theorem zO(w:World)(vv:Value)(o d:Int)(dv cv:Value):(W0 w vv o d dv cv).heap.size=w.heap.size+3/\Below w.heap.size w (W0 w vv o d dv cv)/\jd (W0 w vv o d dv cv) w.heap.size 59 #[vv,.int .i64 o,.int .i64 d,dv,cv] /\
  jd (W0 w vv o d dv cv) (w.heap.size+1) 4 #[.bool false]/\jd (W0 w vv o d dv cv) (w.heap.size+1+1) 47 #[.int .i64 0]:=by
 unfold W0;refine⟨by simp,(((Below.refl _ _).alloc (UU _) _).alloc (by simp) _).alloc (by simp;omega) _,(((jd.new w _ _).alloc _).alloc _),?_,?_⟩
 .have:=(jd.new (w.alloc (.cells #[vv,.int .i64 o,.int .i64 d,dv,cv] 59)) 4 #[.bool false]).alloc (.cells #[.int .i64 0] 47);simpa using this
 .have:=jd.new ((w.alloc (.cells #[vv,.int .i64 o,.int .i64 d,dv,cv] 59)).alloc (.cells #[.bool false] 4)) 47 #[.int .i64 0];simpa using this
theorem EE(x:aw)(h:x.ok):(gm x).ok:=by
 refine⟨h.1,?_,?_,?_,?_,?_,?_,?_,?_⟩<;>first|exact⟨by simp[gm],by simp[gm]⟩|exact UR _
theorem yU{w:World}{S:Nat->Prop}{v:Value}{l:List aw}(h:(aP gJ).one w S v l):∀x∈l,x.ok:=by
 intro x hx;obtain⟨i,hi,rfl⟩:=U8 hx;obtain⟨A,c,rfl,_,_⟩:=dR h;obtain⟨b,o,hv,_,_⟩:=dT h (by omega);subst hv;exact(tm h hi).2
def Ql:Option (List Bool)->Option Bool
 | some (b :: _)=>some b
 | _=>none
theorem Oe(x:Option (List Bool)):(match x with|some (b :: _)=>some b|_=>none)=Ql x:=by
 match x with
 | none=>rfl
 | some []=>rfl
 | some (_ :: _)=>rfl
theorem qo(cm:aw->Option Int)(o d:Int)(a b:List aw):∀r,cO cm o d (a ++ b) r=(cO cm o d a r).bind (cO cm o d b):=by
 induction a with
 | nil=>intro r;rfl
 | cons x a ih=>intro r;rw[Wc,cO,cO];cases cD cm o d x r<;>simp[ih]
theorem Fk(cm:aw->Option Int)(o d:Int)(a:List aw)(x:aw)(r:List Bool):cO cm o d (a ++ [x]) r=(cO cm o d a r).bind (cD cm o d x):=by
 rw[qo]
 cases cO cm o d a r with
 | none=>rfl
 | some r'=>simp only[W8,cO];cases cD cm o d x r'<;>rfl
theorem Gg{cm:aw->Option Int}{o d:Int}{x:aw}{r r':List Bool}(h:cD cm o d x r=some r'):r'.length<=r.length+1:=by
 unfold cD at h;split at h
 .cases h;simp
 split at h
 .split at h
  .cases h;simp
  .cases h
 split at h
 .cases h;simp
 split at h
 .cases h;simp
 split at h
 .split at h
  .cases h;simp
  .cases h
 split at h
 .split at h
  .cases h;simp
  .cases h
 .cases h
theorem cT.up{w:World}{a H H':Nat}{vv:Value}{o d:Int}{dv cv f:Value}{L:List Bool}(h:cT w a H vv o d dv cv f L)(hh:H<=H'):cT w a H' vv o d dv cv f L:=by
 obtain⟨rv,h1,h2,h3,h4⟩:=h;exact⟨rv,h1,h2,by omega,fun g hg=>by have:=h4 g hg;omega⟩
def mw(R:Option Bool)(w:World)(e:Ending)(w':World):Prop:=e=.returned (.tuple #[.bool (n6 R),.int .i64 (zr R)])/\Below w.heap.size w w'
theorem Hw(l:List aw)(lv:Value)(S:Nat->Prop)(k:Nat)(caps:Array Value)(vv:Value)(o d:Int)(dv cv:Value)(w:World)(h:(aP gJ).one w S lv l)(hS:∀b,S b->b<w.heap.size)(hl:l.length<=900)(hbad:bF (l.map aw.op)≠0) :
  Calls Tryz.prog 184 #[lv,.func (.func k) #[] caps,ng vv o d dv cv] w (mw none w):=by
 have hmf:∀(fn:Fn)(first cap:Array Value)(w:World),(Instr.makeFunc fn first cap).run Tryz.prog w=.ok (.func fn first cap) w:=fun _ _ _ _=>rfl;have Hsl:=ar h;have HS:=ar hS;obtain⟨E,hE⟩:∃E,E=bF (l.map aw.op):=⟨_,rfl⟩;have hne:(E != 0)=true:=by rw[hE];simpa using hbad
 have HE:=ar hE;clear h hS hbad hE;have hnil:=sA k caps;obtain⟨hz,hb0,hB0,hB1,hB2⟩:=zO w vv o d dv cv;obtain⟨X,hX⟩:∃X,X=W0 w vv o d dv cv:=⟨_,rfl⟩;rw[<- hX] at hz hb0 hB0 hB1 hB2;unfold W0 at hX;have HX:=ar hX;have H0:=ar hb0;have HB1:=ar hB1;have HB2:=ar hB2;clear hX hb0 hB0 hB1 hB2
 go_enter_defers Tryz.func184,Tryz.ntmps184
 go_wp2_with fail
 rw[<- HX.out];refine(uY l lv S X (bV Hsl.out H0.out HS.out) (fun b hb=>UY (HS.out b hb) H0.out.size) (by omega)).mono ?_;rintro e w1 ⟨u,rfl,hown,hb1⟩
 have hsh:=sJ (r:=t0) fa.cells (l:=l.map gm) (fun x hx=>by
  obtain⟨y,hy,rfl⟩:=U3.1 hx;obtain⟨i,hi,rfl⟩:=U8 hy;exact⟨rfl,EE _ (yU Hsl.out _ (UQ hi))⟩) hown (by decide)
 have Hsh:=ar hsh;clear hown hsh
 go_wp2_with fail
 refine(qm (l.map gm) u _ w1 Hsh.out (fun b hb=>hb.2)).mono ?_;rintro e w2 ⟨rfl,hb2⟩;rw[vJ,<- HE.out];have hX2:Below X.heap.size X w2:=hb1.trans (hb2.mono hb1.size);have B1:=HB1.out.below hX2 (by omega);have B2:=HB2.out.below hX2 (by omega);have c1:=B1.cell 0;have c2:=B2.cell 0;have f1:=B1.frozen 0;have f2:=B2.frozen 0;simp at c1 c2;have D1:=(B1.set_ 0 (.bool false)).far (p:=⟨w.heap.size+1+1,0,none⟩) (by simp) (.int .i64 17);have D2:=(B2.far (p:=⟨w.heap.size+1,0,none⟩) (by simp) (.bool false)).set_ 0 (.int .i64 17);have d1:=D1.cell 0;have d2:=D2.cell 0;simp at d1 d2;have HX2:=ar hX2;clear hX2 hb1 hb2 B1 B2 D1 D2
 go_wp2_with fail
 refine leaves_cons (f:=211) (args:=#[.pointer (some ⟨w.heap.size+1,0,none⟩),.pointer (some ⟨w.heap.size+1+1,0,none⟩)]) (by simp) (by simp[go_sem]) ?_;refine(tr ⟨w.heap.size+1,0,none⟩ ⟨w.heap.size+1+1,0,none⟩ _).mono ?_;rintro e u' w'' ⟨rfl,rfl,rfl⟩;simp[Leaves,settle,results,Tryz.results184,go_sem,d1,d2];exact⟨rfl,((H0.out.trans (HX2.out.mono H0.out.size)).setCell (by show _<=w.heap.size+1;omega) _).setCell (by show _<=w.heap.size+1+1;omega) _⟩
theorem IU(l:List aw)(lv:Value)(S:Nat->Prop)(k:Nat)(caps:Array Value)(vv:Value)(o d:Int)(dv cv:Value)(w:World)(h:(aP gJ).one w S lv l)(hS:∀b,S b->b<w.heap.size)(hl:l.length<=900)(hbad:bF (l.map aw.op)=0)
  (hcf:∀(args:Array Value)(w:World),(callFunc k args).run Tryz.prog w=.ok (.enter k args) w) (cm:aw->Option Int) (HL:Hid (∀x∈l,lh k caps cm x w)) :
  Calls Tryz.prog 184 #[lv,.func (.func k) #[] caps,ng vv o d dv cv] w (mw (gY cm o d l) w):=by
 have hmf:∀(fn:Fn)(first cap:Array Value)(w:World),(Instr.makeFunc fn first cap).run Tryz.prog w=.ok (.func fn first cap) w:=fun _ _ _ _=>rfl;have Hsl:=ar h;have HS:=ar hS;obtain⟨R,hR⟩:∃R,R=gY cm o d l:=⟨_,rfl⟩;rw[<- hR];have hRR:R=Ql (cO cm o d l []):=by rw[hR];unfold gY;rw[UX (by simpa using hbad)];exact Oe _
 have HR:=ar hRR;clear hR hRR;obtain⟨E,hE⟩:∃E,E=bF (l.map aw.op):=⟨_,rfl⟩;have hne:(E != 0)=false:=by rw[hE];simpa using hbad
 have HE:=ar hE;clear h hS hbad hE;have hnil:=sA k caps;obtain⟨hz,hb0,hB0,hB1,hB2⟩:=zO w vv o d dv cv;obtain⟨X,hX⟩:∃X,X=W0 w vv o d dv cv:=⟨_,rfl⟩;rw[<- hX] at hz hb0 hB0 hB1 hB2;unfold W0 at hX;have HX:=ar hX;have H0:=ar hb0;have HB0:=ar hB0;have HB1:=ar hB1;have HB2:=ar hB2;clear hX hb0 hB0 hB1 hB2
 go_enter_defers Tryz.func184,Tryz.ntmps184
 go_wp2_with fail
 rw[<- HX.out];refine(uY l lv S X (bV Hsl.out H0.out HS.out) (fun b hb=>UY (HS.out b hb) H0.out.size) (by omega)).mono ?_;rintro e w1 ⟨u,rfl,hown,hb1⟩
 have hsh:=sJ (r:=t0) fa.cells (l:=l.map gm) (fun x hx=>by
  obtain⟨y,hy,rfl⟩:=U3.1 hx;obtain⟨i,hi,rfl⟩:=U8 hy;exact⟨rfl,EE _ (yU Hsl.out _ (UQ hi))⟩) hown (by decide)
 have Hsh:=ar hsh;clear hown hsh
 go_wp2_with fail
 refine(qm (l.map gm) u _ w1 Hsh.out (fun b hb=>hb.2)).mono ?_;rintro e w2 ⟨rfl,hb2⟩;rw[vJ,<- HE.out];have hX2:Below X.heap.size X w2:=hb1.trans (hb2.mono hb1.size);have B1:=HB1.out.below hX2 (by omega);have B2:=HB2.out.below hX2 (by omega);have B0:=HB0.out.below hX2 (by omega);have s0:=B0.cell 0;have s1:=B0.cell 1;have s2:=B0.cell 2;have s3:=B0.cell 3;have s4:=B0.cell 4;simp at s0 s1 s2 s3 s4;obtain⟨Y,hY⟩:∃Y,Y=w2.alloc (.cells #[vv,.int .i64 o,.int .i64 d,dv,cv,.func (.func k) #[] caps,.slice none 0 0] 255):=⟨_,rfl⟩;have hX2s:=hX2.size;have hY1:Below w.heap.size w Y:=by rw[hY];exact(H0.out.trans (hX2.mono (by omega))).alloc (by omega) _
 have hY2:cT Y w2.heap.size Y.heap.size vv o d dv cv (.func (.func k) #[] caps) []:=by
  rw[hY];exact⟨_,jd.new _ _ _,World.ownsRow_nil _ _ _ _,by simp,fun g hg=>by simp[Value.ownBlock] at hg⟩
 have B1':=B1.alloc (.cells #[vv,.int .i64 o,.int .i64 d,dv,cv,.func (.func k) #[] caps,.slice none 0 0] 255);have B2':=B2.alloc (.cells #[vv,.int .i64 o,.int .i64 d,dv,cv,.func (.func k) #[] caps,.slice none 0 0] 255);rw[<- hY] at B1' B2';have hYz:Y.heap.size=w2.heap.size+1:=by rw[hY];simp
 have HY:=ar hY;have HY1:=ar hY1;have HY2:=ar hY2;have HB1Y:=ar B1';have HB2Y:=ar B2';obtain⟨A,c,rfl,hc,hc2⟩:=dR Hsl.out;clear hX2 hb1 hb2 B1 B2 B0 hY hY1 hY2 B1' B2' HB0 HB1 HB2
 go_wp2_with fail
 rw[<- HY.out]
 go_loopw [26] (fun iv wr=>∃(k':Nat)(L:List Bool),k'<=l.length/\iv=.int .i64 (k':Int)/\cO cm o d (l.take k') []=some L.reverse/\L.length<=k' /\ cT wr w2.heap.size wr.heap.size vv o d dv cv (.func (.func k) #[] caps) L/\Below w2.heap.size Y wr/\Y.heap.size<=wr.heap.size)
  (fun iv wr=>l.length-(intOf iv).toNat)
 case atStart=>exact⟨0,[],UR _,rfl,rfl,UU _,HY2.out,Below.refl _ _,UU _⟩
 case round=>
  obtain⟨i,L,hi,rfl,hrun,hLi,hask,hbl,hysz⟩:=hrel;have hbw:Below w.heap.size w wr:=HY1.out.trans (hbl.mono (by omega));have Hrun:=ar hrun;have Hask:=ar hask;clear hrun hask;by_cases hlt:i<l.length
  .have hsl:=bV Hsl.out hbw HS.out;obtain⟨b,ob,hv,_,_⟩:=dT hsl (by omega);subst hv;obtain⟨hcs,hok⟩:=tm hsl hlt;have hLess:=HL.out l[i] (UQ hlt)
   have htk:cO cm o d (l.take (i+1)) []=cD cm o d l[i] L.reverse:=by
    rw[U0 hlt,Fk,Hrun.out];rfl
   have hall:cO cm o d l []=(cD cm o d l[i] L.reverse).bind (cO cm o d (l.drop (i+1))):=by
    rw[<- htk,<- qo,Xd]
   have Htk:=ar htk;have Hall:=ar hall;have HLess:=ar hLess;have c0:=hcs 0 _ rfl;have c1:=hcs 1 _ rfl;have c2:=hcs 2 _ rfl;have c3:=hcs 3 _ rfl;have c4:=hcs 4 _ rfl;have c5:=hcs 5 _ rfl;have c6:=hcs 6 _ rfl;clear htk hall hLess hok hcs hsl;generalize l[i]=x at *;obtain⟨xop,xla,xln,xra,xrn,xn,xu⟩:=x;simp only[WT] at c0 c1 c2 c3 c4 c5 c6;have hbx:=hbw.alloc (by have:=hbw.size;omega) (.cells #[.int .i64 xop,.int .i64 xla,.int .i64 xln,.int .i64 xra,.int .i64 xrn,.int .i64 xn,.int .i64 xu] 119);have hax:=(Hask.out.below ((Below.refl wr.heap.size wr).alloc (UU _) (.cells #[.int .i64 xop,.int .i64 xla,.int .i64 xln,.int .i64 xra,.int .i64 xrn,.int .i64 xn,.int .i64 xu] 119))).up (H':=(wr.alloc (.cells #[.int .i64 xop,.int .i64 xla,.int .i64 xln,.int .i64 xra,.int .i64 xrn,.int .i64 xn,.int .i64 xu] 119)).heap.size) (by simp)
   cases hst:cD cm o d ⟨xop,xla,xln,xra,xrn,xn,xu⟩ L.reverse with
   | some r'=>
    have hC:=ar (E7 ⟨xop,xla,xln,xra,xrn,xn,xu⟩ cm w2.heap.size k caps vv o d dv cv L r' _ w hax (by omega) hcf HLess.out hbx hst);have Hst:=ar hst;clear hst hax hbx
    go_wp2_with fail
    refine hC.out.mono ?_;rintro e w3 ⟨rfl,ha3,hb3,hs3⟩;have hlen:=Gg Hst.out;rw[List.length_reverse] at hlen;have Hb3:=ar hb3;have hs4:wr.heap.size+1<=w3.heap.size:=(by simpa using hs3);clear hb3 hs3
    go_wp2_with fail
    go_roundw
    case rel=>exact⟨i+1,r'.reverse,by omega,by go_num,by rw[Htk.out,Hst.out,Xl],by rw[List.length_reverse];omega,ha3,(hbl.alloc (by omega) _).trans Hb3.out,by omega⟩
    case measure=>simp[intOf];omega
   | none=>
    have hC:=ar (Gk ⟨xop,xla,xln,xra,xrn,xn,xu⟩ cm w2.heap.size k caps vv o d dv cv L _ w hax (by omega) hcf HLess.out hbx hst);have hRn:R=none:=by rw[HR.out,Hall.out,hst];rfl
    have HRn:=ar hRn;clear hst hax hbx hRn
    go_wp2_with fail
    refine hC.out.mono ?_;rintro e w3 ⟨rfl,hb3⟩;have hbY3:Below w2.heap.size Y w3:=(hbl.alloc (by omega) _).trans hb3;have hD:=ar (tX (w.heap.size+1) (w.heap.size+1+1) false 0 w3 (HB1Y.out.below hbY3 (by omega)) (HB2Y.out.below hbY3 (by omega)) (by omega) (B:=w.heap.size) (by omega) (by omega));refine leaves_cons (f:=211) (args:=#[.pointer (some ⟨w.heap.size+1,0,none⟩),.pointer (some ⟨w.heap.size+1+1,0,none⟩)]) (by simp) (by simp[go_sem]) ?_;refine hD.out.mono ?_;rintro e u' w'' ⟨rfl,rfl,e1,e2,e3⟩;have d1:=e1.cell 0;have d2:=e2.cell 0;simp at d1 d2;simp[Leaves,settle,results,Tryz.results184,go_sem,d1,d2];exact⟨by rw[HRn.out];rfl,(HY1.out.trans (hbY3.mono (by omega))).trans e3⟩
  .obtain rfl:i=l.length:=by omega
   have hfull:=Hrun.out;rw[U6] at hfull;rcases Bi L with rfl|⟨q,b,rfl⟩
   .have hRn:R=none:=by rw[HR.out,hfull];rfl
    have HRn:=ar hRn;have hC:=ar (fB w2.heap.size wr.heap.size vv o d dv cv _ wr Hask.out);clear hRn hfull
    go_wp2_with fail
    refine hC.out.mono ?_;rintro e w3 ⟨rfl,rfl⟩;have hD:=ar (tX (w.heap.size+1) (w.heap.size+1+1) false 0 wr (HB1Y.out.below hbl (by omega)) (HB2Y.out.below hbl (by omega)) (by omega) (B:=w.heap.size) (by omega) (by omega));refine leaves_cons (f:=211) (args:=#[.pointer (some ⟨w.heap.size+1,0,none⟩),.pointer (some ⟨w.heap.size+1+1,0,none⟩)]) (by simp) (by simp[go_sem]) ?_;refine hD.out.mono ?_;rintro e u' w'' ⟨rfl,rfl,e1,e2,e3⟩;have d1:=e1.cell 0;have d2:=e2.cell 0;simp at d1 d2;simp[Leaves,settle,results,Tryz.results184,go_sem,d1,d2];exact⟨by rw[HRn.out];rfl,hbw.trans e3⟩
   .have hRs:R=some b:=by rw[HR.out,hfull];simp[Ql]
    have HRs:=ar hRs;have hC:=ar (jp w2.heap.size wr.heap.size vv o d dv cv _ q b wr Hask.out (by simp at hLi;omega));clear hRs hfull
    go_wp2_with fail
    refine hC.out.mono ?_;rintro e w3 ⟨rfl,_,hb3,hs3,_⟩;have hbY3:Below w2.heap.size Y w3:=hbl.trans hb3;have B1:=HB1Y.out.below hbY3 (by omega);have B2:=HB2Y.out.below hbY3 (by omega);have c1:=B1.cell 0;have c2:=B2.cell 0;have f1:=B1.frozen 0;have f2:=B2.frozen 0;simp at c1 c2;have D1:=(B1.set_ 0 (.bool b)).far (p:=⟨w.heap.size+1+1,0,none⟩) (by simp) (.int .i64 0);have D2:=(B2.far (p:=⟨w.heap.size+1,0,none⟩) (by simp) (.bool b)).set_ 0 (.int .i64 0);have d1:=D1.cell 0;have d2:=D2.cell 0;simp at d1 d2;have HbY3:=ar hbY3;clear B1 B2 D1 D2 hb3 hbY3
    go_wp2_with fail
    refine leaves_cons (f:=211) (args:=#[.pointer (some ⟨w.heap.size+1,0,none⟩),.pointer (some ⟨w.heap.size+1+1,0,none⟩)]) (by simp) (by simp[go_sem]) ?_;refine(tr ⟨w.heap.size+1,0,none⟩ ⟨w.heap.size+1+1,0,none⟩ _).mono ?_;rintro e u' w'' ⟨rfl,rfl,rfl⟩;simp[Leaves,settle,results,Tryz.results184,go_sem,d1,d2];exact⟨by rw[HRs.out];rfl,((HY1.out.trans (HbY3.out.mono (by omega))).setCell (by show _<=w.heap.size+1;omega) _).setCell (by show _<=w.heap.size+1+1;omega) _⟩
end
section
theorem FN(args:Array Value)(w:World):(callFunc 185 args).run Tryz.prog w=.ok (.enter 185 args) w:=by
 simp[go_sem,Tryz.func185]
theorem R8(vals:List Int)(vv:Value)(S:Nat->Prop)(o d:Int)(dv cv:Value)(sb:Nat)(w:World)(h:(aP (eW .i64)).one w S vv vals)(hS:∀b,S b->b<w.heap.size)(hb:jd w sb 59 (lr vv o d dv cv))(x:aw) :
  lh 185 #[.pointer (some ⟨sb,0,none⟩)] (p7 vals) x w:=by
 intro w' hw;have h':=bV h hw hS;have hS':∀b,S b->b<w'.heap.size:=fun b hb=>UY (hS b hb) hw.size;have hb':=hb.below hw hb.lt;unfold p7
 cases hx:fT vals x.la x.ln with
 | none=>exact BI vals vv S o d dv cv x.la x.ln x.ra x.rn sb w' h' hS' hb' hx |>.mono fun e w'' ⟨p,h1,h2,h3⟩=>⟨by rw[h1,h2],h3⟩
 | some a=>
  cases hy:fT vals x.ra x.rn with
  | none=>exact BX vals vv S o d dv cv x.la x.ln x.ra x.rn a sb w' h' hS' hb' hx hy |>.mono fun e w'' ⟨p,h1,h2,h3⟩=>⟨by rw[h1,h2],h3⟩
  | some b=>exact EV vals vv S o d dv cv x.la x.ln x.ra x.rn a b sb w' h' hS' hb' hx hy
theorem Fl(l:List aw)(lv:Value)(S:Nat->Prop)(k:Nat)(caps:Array Value)(vv:Value)(o d:Int)(dv cv:Value)(w:World)(h:(aP gJ).one w S lv l)(hS:∀b,S b->b<w.heap.size)(hl:l.length<=900)
  (hcf:∀(args:Array Value)(w:World),(callFunc k args).run Tryz.prog w=.ok (.enter k args) w) (cm:aw->Option Int) (HL:∀x∈l,lh k caps cm x w) :
  Calls Tryz.prog 184 #[lv,.func (.func k) #[] caps,ng vv o d dv cv] w (mw (gY cm o d l) w):=by
 by_cases hc:bF (l.map aw.op)=0
 .exact IU l lv S k caps vv o d dv cv w h hS hl hc hcf cm (ar HL)
 .have e:gY cm o d l=none:=by unfold gY;rw[UZ hc]
  rw[e];exact Hw l lv S k caps vv o d dv cv w h hS hl hc
theorem Hk(l:List aw)(s:St)(lv vv:Value)(dv cv:Value)(S T:Nat->Prop)(w:World)(h:(aP gJ).one w S lv l)(hS:∀b,S b->b<w.heap.size)(hl:l.length<=900)(hv:(aP (eW .i64)).one w T vv s.vals)(hT:∀b,T b->b<w.heap.size) :
  Calls Tryz.prog 152 #[lv,ng vv s.opn s.don dv cv] w (mw (dS l s) w):=by
 obtain⟨vals,o,d,did,cnt⟩:=s;simp only at hv ⊢;unfold dS;simp only;have hmf:∀(fn:Fn)(first cap:Array Value)(w:World),(Instr.makeFunc fn first cap).run Tryz.prog w=.ok (.func fn first cap) w:=fun _ _ _ _=>rfl;have hb0:Below w.heap.size w (w.alloc (.cells #[vv,.int .i64 o,.int .i64 d,dv,cv] 59)):=(Below.refl _ _).alloc (UU _) _;have hC:=ar (Fl l lv S 185 #[.pointer (some ⟨w.heap.size,0,none⟩)] vv o d dv cv _ (bV h hb0 hS) (fun b hb=>by have:=hS b hb;simp;omega) hl FN (p7 vals) (fun x _=>R8 vals vv T o d dv cv w.heap.size _ (bV hv hb0 hT) (fun b hb=>by have:=hT b hb;simp;omega) (jd.new w _ _) x));have HB:=ar hb0;clear h hS hv hT hb0
 go_enter Tryz.func152,Tryz.ntmps152
 go_wp2_with fail
 refine hC.out.mono ?_;rintro e w1 ⟨rfl,hb1⟩
 go_wp2_with fail
 go_ret2
 exact⟨rfl,HB.out.trans (hb1.mono HB.out.size)⟩
end
section
theorem Mf{w:World}{S:Nat->Prop}{v:Value}{l:List aw}(h:RT w S v (bf l))(hl:∀x∈l,x.ok):(aP gJ).one w S v l:=by
 obtain⟨A,cap,rfl,hc,hm,_,hA⟩:=h.sl_inv;refine⟨A,cap,by simp,by simpa using hc,hm,fun h0=>?_⟩;obtain⟨b,o,rfl,hb,U,hcell,hr,_⟩:=hA (by simpa using h0);refine⟨b,o,rfl,hb,fun i hi=>⟨l[i].cells,fun j u hu=>?_,rfl,hl _ (UQ hi)⟩⟩;have h1:(l.map gc)[i]? = some (gc l[i]):=by simp[hi]
 have h3:∀(j:Nat)(u:Value),l[i].cells[j]? = some u->(gc l[i])[j]? = some (AV.c u):=by
  intro j u hu;unfold aw.cells at hu
  match j with
  | 0|1|2|3|4|5|6=>simp at hu;subst hu;rfl
  | j+7=>simp at hu
 have h4:=h3 j u hu;have h2:=hcell i j _ _ h1 h4;rw[y4 (hr i j _ _ h1 h4)] at h2;exact h2
theorem vK(s i:Int):am Tryz.prog 182 [eI s,eI i] (val (.bool (aQ s i))):=
 cg (ca Tryz.func182 rfl (by decide)) fun S w vs hS hn hv=>by
  obtain⟨a,b,rfl⟩:=kR hn;obtain rfl:=y4 (hv 0 a _ rfl rfl);obtain rfl:=y4 (hv 1 b _ rfl rfl);exact(wU s i w).mono fun e w' ⟨h1,h2⟩=>⟨h1,h2 ▸ Below.refl _ _⟩
theorem Ch(s i:Int):am Tryz.prog 122 [eI s,eI i] (val (.int .i64 (bn s i))):=
 cg (ca Tryz.func122 rfl (by decide)) fun S w vs hS hn hv=>by
  obtain⟨a,b,rfl⟩:=kR hn;obtain rfl:=y4 (hv 0 a _ rfl rfl);obtain rfl:=y4 (hv 1 b _ rfl rfl);exact(JE s i w).mono fun e w' ⟨h1,h2⟩=>⟨h1,h2 ▸ Below.refl _ _⟩
theorem vX(s i:Int):am Tryz.prog 155 [eI s,eI i] (val (.int .i64 (aZ s i))):=
 cg (ca Tryz.func155 rfl (by decide)) fun S w vs hS hn hv=>by
  obtain⟨a,b,rfl⟩:=kR hn;obtain rfl:=y4 (hv 0 a _ rfl rfl);obtain rfl:=y4 (hv 1 b _ rfl rfl);exact(AR s i w).mono fun e w' ⟨h1,h2⟩=>⟨h1,h2 ▸ Below.refl _ _⟩
theorem we(l:List Int)(i:Int)(hl:l.length<=1073741824)(ho:∀x∈l,aA x):am Tryz.prog 153 [sI l,eI i] (gl 3 1 ((dB l i).map fun n=>[eI n])):=
 oH (ca Tryz.func153 rfl (by decide)) fun S w vs hS hn hv=>by
  obtain⟨a,b,rfl⟩:=kR hn;obtain rfl:=y4 (hv 1 b _ rfl rfl);exact G4 l a i w hl (mL (hv 0 a _ rfl rfl) hS ho)
theorem JR(l:List Int)(hl:l.length<=1073741824)(ho:∀x∈l,aA x):am Tryz.prog 15 [sI l] (val (.int .i64 (dW l))):=
 cg (ca Tryz.func15 rfl (by decide)) fun S w vs hS hn hv=>by
  obtain⟨a,rfl⟩:∃a,vs = #[a]:=⟨vs[0]'(by simp at hn;omega),by apply XB (by simpa using hn);intro i h1 h2;simp at h2;subst h2;rfl⟩;exact ue l a w hl (mL (hv 0 a _ rfl rfl) hS ho)
theorem O9(l:List aw)(s:St)(hl:l.length<=900)(ho:∀x∈l,x.ok)(hs:∀x∈s.vals,aA x):am Tryz.prog 152 [bf l,.agg (cy s)] ⟨.tup [eB (n6 (dS l s)),eI (zr (dS l s))],[],0⟩:=
 ⟨ca Tryz.func152 rfl (by decide),fun S w vs hS hn hv=>by
  obtain⟨a,b,rfl⟩:=kR hn;have hb:=hv 1 b _ rfl rfl
  cases hb with
  | agg xs cs hxn hr=>
   have hx:∀j (hj:j<5),∃x,xs[j]? = some x:=fun j hj=>⟨_,UT (by simp at hxn;omega)⟩;obtain⟨x0,e0⟩:=hx 0 (by omega);obtain⟨x1,e1⟩:=hx 1 (by omega);obtain⟨x2,e2⟩:=hx 2 (by omega);obtain⟨x3,e3⟩:=hx 3 (by omega);obtain⟨x4,e4⟩:=hx 4 (by omega)
   have hxs:xs = #[x0,x1,x2,x3,x4]:=by
    apply Array.ext_getElem?;intro j
    match j with
    | 0=>simpa using e0
    | 1=>simpa using e1
    | 2=>simpa using e2
    | 3=>simpa using e3
    | 4=>simpa using e4
    | j+5=>
     rw[Array.getElem?_eq_none (by simp at hxn;omega)];simp
   obtain rfl:=y4 (hr 1 x1 _ e1 rfl);obtain rfl:=y4 (hr 2 x2 _ e2 rfl);subst hxs;have h0:=hr 0 x0 _ e0 rfl;refine(Hk l s a x0 x3 x4 S (fun b=>b<w.heap.size) w (Mf (hv 0 a _ rfl rfl) ho) hS hl (mL h0 hS hs) (fun b hb=>hb)).mono fun e w' ⟨h1,h2⟩=>?_;refine⟨_,fun _=>undef,_,rfl,⟨fun id o h=>(by cases h),⟨trivial,trivial,trivial⟩⟩,h1,⟨jo h2,fun id o h=>(by cases h),fun id id' o o' g h=>(by cases h),fun b hb=>hb.elim⟩,.tree (.tup _ _ rfl fun j x av h3 h4=>?_)⟩
   match j with
   | 0=>simp at h3 h4;subst h3;subst h4;exact .c _
   | 1=>simp at h3 h4;subst h3;subst h4;exact .c _
   | j+2=>simp at h3⟩
def a5(m:aJ)(x:Bool×Int):Option (Int×Int×List aw×Int):=
 if x.1=true then (if 0<=x.2 then (m.miles[x.2.toNat]?).map fun K=>(K.stage,K.event,K.cond,x.2) else none)
 else (if 0<=x.2 then (m.guards[x.2.toNat]?).map fun g=>(g.stage,g.event,g.cond,-1) else none)
def iq(m:aJ)(x:Bool×Int):cu:=
 match a5 m x with
 | some (st,ev,cond,mi)=>⟨.tup [.agg [eI st,eI ev,bf cond,eI mi],eB (decide (0<=st) && decide (st<m.stages.length))],[],0⟩
 | none=>⟨.tup [.agg [eI 0,eI 0,.c (.slice none 0 0),eI 0],eB false],[],0⟩
theorem M6(m:aJ)(x:Bool×Int):(iq m x).Ok:=by
 unfold iq;split<;>exact⟨fun id o h=>(by cases h),⟨⟨trivial,trivial,trivial,trivial,trivial⟩,trivial,trivial⟩⟩
theorem wq(m:aJ)(xm:Bool)(xn:Int):am Tryz.prog 151 [.agg (aC m),.agg [eB xm,eI xn]] (iq m (xm,xn)):=by
 refine aa ag Tryz.func151 rfl (by decide) Tryz.ntmps151 Tryz.results151 rfl (M6 m (xm,xn)) ?_;by_cases h0:0<=xn
 .obtain ⟨k,rfl⟩:∃k:Nat,xn=(k:Int):=⟨xn.toNat,by omega⟩;cases xm
  .by_cases hk:k<m.guards.length
   .have e:a5 m (false,(k:Int))=some (m.guards[k].stage,m.guards[k].event,m.guards[k].cond,-1):=(by simp[a5,hk]);have eR:iq m (false,(k:Int))=⟨.tup [.agg [eI m.guards[k].stage,eI m.guards[k].event,bf m.guards[k].cond,eI (-1)],eB (decide (0<=m.guards[k].stage) && decide (m.guards[k].stage<m.stages.length))],[],0⟩:=by unfold iq;rw[e]
    rw[eR]
    repeat' first|refine go ?_|simp only[ab,hk]|decide|refine sp ?_ ?_<;>intro _
    refine aG [2] [0,1,2,3,4,5,6,7,8,9,10,11] (.exec 12 (.exec 13 .done)) (by kernel_rfl) (by simp[ae.gc]) ?_
    repeat' first|refine go ?_|simp only[ab,hk]|decide|refine sp ?_ ?_<;>intro _
    .rename_i h;exact aF (by simp only[AV.ren,AV.renL,h,VC])
    .rename_i h;exact aF (by simp only[AV.ren,AV.renL,h,VK])
   .have eR:iq m (false,(k:Int))=⟨.tup [.agg [eI 0,eI 0,.c (.slice none 0 0),eI 0],eB false],[],0⟩:=(by simp[iq,a5,hk]);rw[eR]
    repeat' first|refine go ?_|simp only[ab,hk]|decide|refine sp ?_ ?_<;>intro _
    exact aF rfl
  .by_cases hk:k<m.miles.length
   .have e:a5 m (true,(k:Int))=some (m.miles[k].stage,m.miles[k].event,m.miles[k].cond,(k:Int)):=(by simp[a5,hk]);have eR:iq m (true,(k:Int))=⟨.tup [.agg [eI m.miles[k].stage,eI m.miles[k].event,bf m.miles[k].cond,eI k],eB (decide (0<=m.miles[k].stage) && decide (m.miles[k].stage<m.stages.length))],[],0⟩:=by unfold iq;rw[e]
    rw[eR]
    repeat' first|refine go ?_|simp only[ab,hk]|decide|refine sp ?_ ?_<;>intro _
    refine aG [2] [0,1,2,3,4,5,6,7,8,9,10,11] (.exec 12 (.exec 13 .done)) (by kernel_rfl) (by simp[ae.gc]) ?_
    repeat' first|refine go ?_|simp only[ab,hk]|decide|refine sp ?_ ?_<;>intro _
    .rename_i h;exact aF (by simp only[AV.ren,AV.renL,h,VC])
    .rename_i h;exact aF (by simp only[AV.ren,AV.renL,h,VK])
   .have eR:iq m (true,(k:Int))=⟨.tup [.agg [eI 0,eI 0,.c (.slice none 0 0),eI 0],eB false],[],0⟩:=(by simp[iq,a5,hk]);rw[eR]
    repeat' first|refine go ?_|simp only[ab,hk]|decide|refine sp ?_ ?_<;>intro _
    exact aF rfl
 .have eR:iq m (xm,xn)=⟨.tup [.agg [eI 0,eI 0,.c (.slice none 0 0),eI 0],eB false],[],0⟩:=by cases xm<;>simp[iq,a5,h0]
  rw[eR];cases xm
  all_goals
   repeat' first|refine ge h0 ?_|decide|refine sp ?_ ?_<;>intro _
   exact aF rfl
def nP(m:aJ)(opn st:Int):Bool:=
 ((m.stages.getD st.toNat (⟨#[]⟩,0)).2 == -1) || (decide ((m.stages.getD st.toNat (⟨#[]⟩,0)).2<m.stages.length) && aQ opn (m.stages.getD st.toNat (⟨#[]⟩,0)).2)
theorem N2(m:aJ)(s:St)(k:Nat)(hk:k<m.stages.length):am Tryz.prog 183 [.agg (aC m),.agg (cy s),eI (k:Int)] (val (.bool (nP m s.opn k))):=by
 refine aa ag Tryz.func183 rfl (by decide) Tryz.ntmps183 Tryz.results183 rfl (aD _) ?_;have e:nP m s.opn k=((m.stages[k].2 == -1) || (decide (m.stages[k].2<m.stages.length) && aQ s.opn m.stages[k].2)):=by simp[nP,hk]
 rw[e]
 repeat' first|refine go ?_|simp only[ab,hk]|decide|refine sp ?_ ?_<;>intro _
 .rename_i h;rw[h];rfl
 .rename_i h1 h2;refine al (vK _ _) ?_
  repeat' first|refine go ?_|simp only[ab,hk]|decide|refine sp ?_ ?_<;>intro _
  rw[h1];simp[h2]
 .rename_i h1 h2;rw[h1];simp[h2]
end
section
def ua(m:aJ)(st:Int):Bool:=decide (0<=st) && decide (st<(m.stages.length:Int))
theorem sU{m:aJ}{x:Bool×Int}(h:a5 m x=none):iq m x=⟨.tup [.agg [eI 0,eI 0,.c (.slice none 0 0),eI 0],eB false],[],0⟩:=by unfold iq;rw[h]
theorem ny{m:aJ}{x:Bool×Int}{st ev mi:Int}{cond:List aw}(h:a5 m x=some (st,ev,cond,mi)):iq m x=⟨.tup [.agg [eI st,eI ev,bf cond,eI mi],eB (ua m st)],[],0⟩:=by unfold iq;rw[h];rfl
def eZ(m:aJ)(opn:Int)(x:Bool×Int)(event:Int):Bool:=
 match a5 m x with
 | some (st,ev,_,_)=>ua m st && ((ev == -1 || ev == event) && (aQ opn st == x.1) && (x.1 || nP m opn st))
 | none=>false
theorem Ow(m:aJ)(s:St)(xm:Bool)(xn event:Int):am Tryz.prog 150 [.agg (aC m),.agg (cy s),.agg [eB xm,eI xn],eI event] (val (.bool (eZ m s.opn (xm,xn) event))):=by
 refine aa ag Tryz.func150 rfl (by decide) Tryz.ntmps150 Tryz.results150 rfl (aD _) ?_
 repeat' first|refine go ?_|decide|refine sp ?_ ?_<;>intro _
 have ro:m8 [.agg (aC m),.agg [eB xm,eI xn]]:=by simp[m8,pi,bD,dl]
 cases hf:a5 m (xm,xn) with
 | none=>
  have e:eZ m s.opn (xm,xn) event=false:=by simp[eZ,hf]
  rw[e];have hA:=wq m xm xn;rw[sU hf] at hA;refine cL hA (.inl ro) ?_
  repeat' first|refine go ?_|decide|refine sp ?_ ?_<;>intro _
  refine ay (by kernel_rfl) ?_
  repeat' first|refine go ?_|decide|refine sp ?_ ?_<;>intro _
 | some q=>
  obtain⟨st,ev,cond,mi⟩:=q;have e:eZ m s.opn (xm,xn) event=(ua m st && ((ev == -1 || ev == event) && (aQ s.opn st == xm) && (xm || nP m s.opn st))):=by simp[eZ,hf]
  rw[e];have hA:=wq m xm xn;rw[ny hf] at hA;refine cL hA (.inl ro) ?_
  repeat' first|refine go ?_|decide|refine sp ?_ ?_<;>intro _
  refine ay (by kernel_rfl) ?_
  repeat' first|refine go ?_|decide|refine sp ?_ ?_<;>intro _
  .rename_i h;simp at h;simp[h]
  .rename_i h1 h2 h3;have e1:(ev == -1 || ev == event)=false:=by simp at h2 h3;simp[h2,h3]
   simp[e1]
  all_goals
   have e0:ua m st=true:=(by simp_all);have e1:(ev == -1 || ev == event)=true:=(by simp_all);refine aO (vK _ _) ?_
   repeat' first|refine go ?_|decide|refine sp ?_ ?_<;>intro _
   .rename_i h;simp at h;simp[h]
   .rename_i h h3;subst h3;have e2:aQ s.opn st=true:=(by simpa using h);simp[e0,e1,e2]
   .rename_i h h3;subst h3;have e2:aQ s.opn st=false:=(by simpa using h);obtain⟨k,rfl⟩:∃k:Nat,st=(k:Int):=⟨st.toNat,by simp[ua] at e0;omega⟩;have hk:k<m.stages.length:=by simp[ua] at e0;omega
    refine al (N2 m s k hk) ?_
    repeat' first|refine go ?_|decide|refine sp ?_ ?_<;>intro _
    simp[e0,e1,e2]
def dq(m:aJ)(s:St)(x:Bool×Int)(event:Int):Bool:=eZ m s.opn x event && (match a5 m x with|some (_,_,cond,_)=>n6 (dS cond s)|none=>false)
theorem oI{m:aJ}{x:Bool×Int}{st ev mi:Int}{cond:List aw}(h:a5 m x=some (st,ev,cond,mi)):(∃g∈m.guards,g.cond=cond)\/(∃g∈m.miles,g.cond=cond):=by
 unfold a5 at h;split at h
 all_goals
  split at h
  .simp at h;obtain⟨a,ha,hb⟩:=h;have:=r2 ha
   first|exact .inl ⟨a,this,hb.2.2.1⟩|exact .inr ⟨a,this,hb.2.2.1⟩
  .cases h
theorem Nt(m:aJ)(s:St)(xm:Bool)(xn event:Int)(hf:jN m)(hc:iR m)(hs:∀x∈s.vals,aA x):am Tryz.prog 112 [.agg (aC m),.agg (cy s),.agg [eB xm,eI xn],eI event] (val (.bool (dq m s (xm,xn) event))):=by
 refine aa ag Tryz.func112 rfl (by decide) Tryz.ntmps112 Tryz.results112 rfl (aD _) ?_
 repeat' first|refine go ?_|decide|refine sp ?_ ?_<;>intro _
 refine al (Ow m s xm xn event) ?_
 repeat' first|refine go ?_|decide|refine sp ?_ ?_<;>intro _
 .rename_i h;simp at h;simp[dq,h]
 .rename_i h;have hr:eZ m s.opn (xm,xn) event=true:=by simpa using h
  have ro:m8 [.agg (aC m),.agg [eB xm,eI xn]]:=by simp[m8,pi,bD,dl]
  cases he:a5 m (xm,xn) with
  | none=>simp[eZ,he] at hr
  | some q=>
   obtain⟨st,ev,cond,mi⟩:=q;have hA:=wq m xm xn;rw[ny he] at hA;refine cL hA (.inl ro) ?_
   repeat' first|refine go ?_|decide|refine sp ?_ ?_<;>intro _
   have hcl:cond.length<=900:=by
    rcases oI he with ⟨g,hg,rfl⟩|⟨g,hg,rfl⟩
    .have:=hf.guards g hg;omega
    .have:=hf.miles g hg;omega
   have hco:∀x∈cond,x.ok:=by
    rcases oI he with ⟨g,hg,rfl⟩|⟨g,hg,rfl⟩
    .exact hc.1 g hg
    .exact hc.2 g hg
   refine cL (O9 cond s hcl hco hs) (.inl (by simp[m8,pi,bD,dl])) ?_
   repeat' first|refine go ?_|decide|refine sp ?_ ?_<;>intro _
   simp[dq,hr,he]
theorem vk(m:aJ)(hl:m.stages.length<=1000000):am Tryz.prog 154 [.agg (aC m)] (gl 3 1 ((m.stages.map (·.2)).map fun n=>[eI n])):=by
 refine aa ag Tryz.func154 rfl (by decide) Tryz.ntmps154 Tryz.results154 rfl (cW _ _ _) ?_
 repeat' first|refine go ?_|decide|refine sp ?_ ?_<;>intro _
 refine af (fun st=>∃k:Nat,k<=m.stages.length/\st=⟨20,[(3,.osl 0),(7,.sl 2 (m.stages.map Mq)),(8,eI m.stages.length),(9,eI (k:Int))],[(0,some (.row 3 1 ((m.stages.take k).map fun p=>[eI p.2])))],1⟩) (fun st=>m.stages.length-ax st 9) ⟨_,((bq 3 3 1 (by simp only[iC,aj.get,aX,aj.put,↓reduceIte,reduceCtorEq,Nat.reduceLT,Nat.reduceEqDiff,Nat.reduceAdd,Nat.reduceLeDiff,eq_self,implies_true,Va,Vn])).trans (wS [1] @Va)),0,UR _,rfl⟩ ?_;rintro _ ⟨k,hk,rfl⟩;by_cases hlt:k<m.stages.length
 .have et:(m.stages.take (k+1)).map (fun p=>[eI p.2])=(m.stages.take k).map (fun p=>[eI p.2]) ++ [[eI m.stages[k].2]]:=dm _ _ hlt;have el:((m.stages.take k).map fun p=>[eI p.2]).length+1<=1000000:=by simp;omega
  repeat' first|refine go ?_|simp only[ab,hlt]|decide|refine sp ?_ ?_<;>intro _
  refine⟨rfl,by simp only[U2];omega,rI (wS [3] et) ⟨k+1,by omega,rfl⟩⟩
 .obtain rfl:k=m.stages.length:=by omega
  repeat' first|refine go ?_|simp only[ab,hlt]|decide|refine sp ?_ ?_<;>intro _
  exact aV (by simp[ae.gc])
end
end
section
section
theorem Fx(l:List Int)(i:Int):(dB l i).length<=l.length:=by
 unfold dB;split
 .rw [Vd];exact Vj (WN _ _) (by simp)
 .simp
def iV(l:List Ml)(st d:Int):Nat->Int
 | 0=>d
 | k+1=>if l[k]?.map (·.stage)=some st then aZ (iV l st d k) (k:Int) else iV l st d k
def cd(m:aJ)(s:St)(x:Bool×Int):St:=
 match a5 m x with
 | some (st,_,_,mi)=>
  if ua m st=true then
   if x.1=true then { s with don:=bn s.don mi,opn:=(dB (pars m) st ++ [st]).foldl aZ s.opn }
   else { s with opn:=bn s.opn st,don:=iV m.miles st s.don m.miles.length }
  else s
 | none=>s
theorem Qs(m:aJ)(s:St)(xm:Bool)(xn:Int)(hf:jN m)(hp:∀p∈m.stages,aA p.2):am Tryz.prog 113 [.agg (aC m),.agg (cy s),.agg [eB xm,eI xn]] ⟨.agg (cy (cd m s (xm,xn))),[],0⟩:=by
 refine aa ag Tryz.func113 rfl (by decide) Tryz.ntmps113 Tryz.results113 rfl (⟨fun id o h=>(by cases h),⟨trivial,trivial,trivial,trivial,trivial,trivial⟩⟩) ?_
 repeat' first|refine go ?_|decide|refine sp ?_ ?_<;>intro _
 have ro:m8 [.agg (aC m),.agg [eB xm,eI xn]]:=by simp[m8,pi,bD,dl]
 have hA:=wq m xm xn;obtain⟨-,hmi,hst,-⟩:=id hf.sizes
 cases he:a5 m (xm,xn) with
 | none=>
  rw[sU he] at hA;refine cL hA (.inl ro) ?_
  repeat' first|refine go ?_|decide|refine sp ?_ ?_<;>intro _
  exact aF (by simp[cd,he,AV.ren,AV.renL])
 | some q=>
  obtain⟨st,ev,cond,mi⟩:=q;rw[ny he] at hA;refine cL hA (.inl ro) ?_
  repeat' first|refine go ?_|decide|refine sp ?_ ?_<;>intro _
  .rename_i h;have h:ua m st=false:=(by simpa using h);exact aF (by simp[cd,he,h,AV.ren,AV.renL])
  .rename_i h hx;refine al (Ch _ _) ?_
   repeat' first|refine go ?_|decide|refine sp ?_ ?_<;>intro _
   have hbl:(dB (pars m) st).length<=1000:=by
    have:=Fx (pars m) st;simp[pars] at this ⊢;omega
   have hpl:(pars m).length<=1073741824:=by simp[pars];omega
   have hpo:∀x∈pars m,aA x:=fun x hx=>by
    obtain⟨p,hp',rfl⟩:=U3.1 hx;exact hp p hp'
   refine se (fun s'=>s'=⟨77,[(4,.op 0 0 0),(6,.op 1 0 0),(38,.osl 2),(39,eI ((dB (pars m) st ++ [st]).length:Int)),(40,eI 0)],[(0,some (.box 59 (cy { s with don:=bn s.don mi }))),(1,some (.box 59 [.c (.slice none 0 0),eI 0,eI 0,.c (.slice none 0 0),.c (.slice none 0 0)])),(2,some (.row 3 1 ((dB (pars m) st ++ [st]).map fun n=>[eI n])))],3⟩)
    [] [0,2,3,5,6,10] (.two 1 (.two 4 (.exec 7 (.exec 8 (.take 9 .done))) 7 (.exec 4 (.exec 8 (.take 9 .done)))) 7 (.exec 1 (.exec 4 (.exec 8 (.take 9 .done))))) (by kernel_rfl) (by simp) ?_ ?_
   .repeat' first|refine go ?_|decide|refine sp ?_ ?_<;>intro _
    have fin:(((dB (pars m) st).map fun n=>[eI n]).length<=9223372036854775806/\(((dB (pars m) st).map fun n=>[eI n]).length+1) * 8<=140737488355328):=by simp;omega
    refine⟨?_,rfl,?_⟩
    .refine dg (vk m (by omega)) (.inr bk) ?_
     repeat' first|refine go ?_|decide|refine sp ?_ ?_<;>intro _
     refine⟨?_,rfl,?_⟩
     .refine dg (we (pars m) st hpl hpo) (.inr bk) ?_
      repeat' first|refine go ?_|decide|refine sp ?_ ?_<;>intro _
      exact⟨rfl,⟨by omega,by omega⟩,dZ (wS [1,3,8] (kf @Vc @UW)) rfl⟩
     .refine dg (we (pars m) st hpl hpo) (.inr bk) ?_
      repeat' first|refine go ?_|decide|refine sp ?_ ?_<;>intro _
      exact⟨⟨by omega,by omega⟩,dZ (wS [1,3,8] (kf @Vc @UW)) rfl⟩
    .refine dg (vk m (by omega)) (.inr bk) ?_
     repeat' first|refine go ?_|decide|refine sp ?_ ?_<;>intro _
     refine dg (we (pars m) st hpl hpo) (.inr bk) ?_
     repeat' first|refine go ?_|decide|refine sp ?_ ?_<;>intro _
     exact⟨⟨by omega,by omega⟩,dZ (wS [1,3,8] (kf @Vc @UW)) rfl⟩
   .rintro _ rfl
    have eR:cd m s (true,xn)={ s with don:=bn s.don mi,opn:=(dB (pars m) st ++ [st]).foldl aZ s.opn }:=by
     subst hx;simp at h;simp[cd,he,h]
    subst hx;rw[eR];have hL:(dB (pars m) st ++ [st]).length<=1001:=by simp;omega
    generalize dB (pars m) st ++ [st]=L at hL ⊢
    repeat' first|refine go ?_|decide|refine sp ?_ ?_<;>intro _
    refine af (fun s'=>∃k:Nat,k<=L.length/\s'=⟨77,[(4,.op 0 0 0),(6,.op 1 0 0),(38,.osl 2),(39,eI (L.length:Int)),(40,eI (k:Int))],[(0,some (.box 59 (cy { s with don:=bn s.don mi,opn:=(L.take k).foldl aZ s.opn }))),(1,some (.box 59 [.c (.slice none 0 0),eI 0,eI 0,.c (.slice none 0 0),.c (.slice none 0 0)])),(2,some (.row 3 1 (L.map fun n=>[eI n])))],3⟩) (fun st=>L.length-ax st 40) ⟨_,(wE (kf @Va @WW)),0,UR _,rfl⟩ ?_;rintro _ ⟨k,hk,rfl⟩;by_cases hlt:k<L.length
    .have ef:=pz aZ s.opn L hlt
     repeat' first|refine go ?_|simp only[ab,hlt]|decide|refine sp ?_ ?_<;>intro _
     refine al (vX _ _) ?_
     repeat' first|refine go ?_|simp only[ab,hlt]|decide|refine sp ?_ ?_<;>intro _
     exact rI (wE ef) ⟨k+1,by omega,rfl⟩
    .obtain rfl:k=L.length:=by omega
     repeat' first|refine go ?_|simp only[ab,hlt]|decide|refine sp ?_ ?_<;>intro _
     exact aF (by simp only[AV.ren,AV.renL,U6])
  .rename_i h hx;refine al (Ch _ _) ?_
   repeat' first|refine go ?_|decide|refine sp ?_ ?_<;>intro _
   have eR:cd m s (false,xn)={ s with opn:=bn s.opn st,don:=iV m.miles st s.don m.miles.length }:=by
    subst hx;simp at h;simp[cd,he,h]
   subst hx;rw[eR];refine af (fun s'=>∃k:Nat,k<=m.miles.length/\s'=⟨77,[(4,.op 0 0 0),(6,.op 1 0 0),(7,.op 2 0 0),(58,.sl 5 (m.miles.map yg)),(59,eI (m.miles.length:Int)),(60,eI (k:Int))],[(0,some (.box 59 (cy { s with opn:=bn s.opn st,don:=iV m.miles st s.don k }))),(1,some (.box 59 [.c (.slice none 0 0),eI 0,eI 0,.c (.slice none 0 0),.c (.slice none 0 0)])),(2,some (.box 207 [eI st,eI ev,bf cond,eI mi]))],3⟩) (fun st=>m.miles.length-ax st 60) ⟨_,(wS [1,3,4] (kf @iV.eq_1 @iV.eq_2)),0,UR _,rfl⟩ ?_;rintro _ ⟨k,hk,rfl⟩;by_cases hlt:k<m.miles.length
   .repeat' first|refine go ?_|simp only[ab,hlt]|decide|refine sp ?_ ?_<;>intro _
    .rename_i hq
     have eu:iV m.miles st s.don (k+1)=aZ (iV m.miles st s.don k) (k:Int):=by
      have:m.miles[k].stage=st:=by simpa using hq
      simp[iV,hlt,this]
     refine al (vX _ _) ?_
     repeat' first|refine go ?_|simp only[ab,hlt]|decide|refine sp ?_ ?_<;>intro _
     exact rI (wE eu) ⟨k+1,by omega,rfl⟩
    .rename_i hq
     have eu:iV m.miles st s.don (k+1)=iV m.miles st s.don k:=by
      have:m.miles[k].stage≠st:=by simpa using hq
      simp[iV,hlt,this]
     exact rI (wE eu) ⟨k+1,by omega,rfl⟩
   .obtain rfl:k=m.miles.length:=by omega
    repeat' first|refine go ?_|simp only[ab,hlt]|decide|refine sp ?_ ?_<;>intro _
    exact aF (by simp only[AV.ren,AV.renL])
end
section
def db(m:aJ)(event:Int)(s:St)(x:Bool×Int):St:=if dq m s x event=true then cd m s x else s
def cP(m:aJ)(event:Int)(s:St)(k:Nat):St:=(m.order.take k).foldl (db m event) s
theorem Dj(m:aJ)(s:St)(x:Bool×Int):(cd m s x).vals=s.vals/\(cd m s x).did=s.did/\(cd m s x).cnt=s.cnt:=by
 unfold cd;split
 .split
  .split<;>simp
  .simp
 .simp
theorem sk(m:aJ)(event:Int)(s:St)(x:Bool×Int):(db m event s x).vals=s.vals/\(db m event s x).did=s.did/\(db m event s x).cnt=s.cnt:=by
 unfold db;split
 .exact Dj m s x
 .simp
theorem fj(m:aJ)(event:Int):∀(l:List (Bool×Int))(s:St),(l.foldl (db m event) s).vals=s.vals/\(l.foldl (db m event) s).did=s.did/\(l.foldl (db m event) s).cnt=s.cnt
 | [],s=>by simp
 | x :: l,s=>by
  have h:=fj m event l (db m event s x);have h2:=sk m event s x;simp[h,h2]
theorem Mi(m:aJ)(s:St)(event:Int)(hf:jN m)(hc:iR m)(hp:∀p∈m.stages,aA p.2)(hs:∀x∈s.vals,aA x):am Tryz.prog 61 [.agg (aC m),.agg (cy s),eI event] ⟨.agg (cy (cP m event s m.order.length)),[],0⟩:=by
 refine aa ag Tryz.func61 rfl (by decide) Tryz.ntmps61 Tryz.results61 rfl (⟨fun id o h=>(by cases h),⟨trivial,trivial,trivial,trivial,trivial,trivial⟩⟩) ?_
 repeat' first|refine go ?_|decide|refine sp ?_ ?_<;>intro _
 have hol:m.order.length<=40:=hf.sizes.2.2.2.2.2.2.2.2.1;have e0:cP m event s 0=s:=rfl;refine af (fun s'=>∃k:Nat,k<=m.order.length/\s'=⟨31,[(2,eI event),(3,.op 0 0 0),(4,.op 1 0 0),(6,.op 2 0 0),(11,eI (m.order.length:Int)),(12,eI (k:Int))],[(0,some (.box 32 (aC m))),(1,some (.box 59 (cy (cP m event s k)))),(2,some (.box 59 [.c (.slice none 0 0),eI 0,eI 0,.c (.slice none 0 0),.c (.slice none 0 0)]))],3⟩) (fun st=>m.order.length-ax st 12) ⟨_,(wE e0),0,UR _,rfl⟩ ?_;rintro _ ⟨k,hk,rfl⟩;by_cases hlt:k<m.order.length
 .have ef:cP m event s (k+1)=db m event (cP m event s k) m.order[k]:=pz _ _ _ hlt;have hv:=fj m event (m.order.take k) s
  have hs':∀x∈(cP m event s k).vals,aA x:=by
   unfold cP;rw[hv.1];exact hs
  repeat' first|refine go ?_|simp only[ab,hlt]|decide|refine sp ?_ ?_<;>intro _
  generalize cP m event s k=t at ef hs' ⊢;generalize m.order[k]=x at ef ⊢;refine al (Nt m t x.1 x.2 event hf hc hs') ?_
  repeat' first|refine go ?_|decide|refine sp ?_ ?_<;>intro _
  .rename_i h;have e1:db m event t x=cd m t x:=UZ h;rw[e1] at ef;refine cL (Qs m t x.1 x.2 hf hp) (ro) ?_
   repeat' first|refine go ?_|decide|refine sp ?_ ?_<;>intro _
   exact rI (wE ef) ⟨k+1,by omega,rfl⟩
  .rename_i h;have e1:db m event t x=t:=UX (by rw[show(x:Bool×Int)=(x.1,x.2) from rfl,h];simp);rw[e1] at ef;exact rI (wE ef) ⟨k+1,by omega,rfl⟩
 .obtain rfl:k=m.order.length:=by omega
  repeat' first|refine go ?_|simp only[ab,hlt]|decide|refine sp ?_ ?_<;>intro _
  exact aF (by simp only[AV.ren,AV.renL])
end
section
theorem pV(l:List aw)(s:St)(hl:l.length<=1000000)(ho:aA s.opn)(hd:aA s.don):am Tryz.prog 139 [bf l,.agg (cy s)] ⟨.tup [eB (n6 (dS l s)),eI (zr (dS l s))],[],0⟩:=by
 refine aa ag Tryz.func139 rfl (by decide) Tryz.ntmps139 Tryz.results139 rfl (⟨fun id o h=>(by cases h),⟨trivial,trivial,trivial⟩⟩) ?_;by_cases hc:bF (l.map aw.op)=0/\∀x∈l,jr s.vals true x=true
 .have hck:=vE l s true hl true (by simp only[true_iff];exact hc);obtain⟨b,h1,h2⟩:=zS hc.1 hc.2
  have hlen:0<l.length/\l.length<=64:=by
   have:=hc.1;unfold bF at this;simp only[Vd] at this;split at this
   .cases this
   .split at this
    .cases this
    .omega
  have ht:(l.map aw.op).take 70=l.map aw.op:=Vg (by simp;omega);have hsh:=zh l hl;rw[ht] at hsh;have ew:IntKind.i64.wrap ((l.length:Int)-1)=((l.length-1:Nat):Int):=by rw[aE (by omega) (by omega)];omega
  have hat:=L4 l s (by omega) ho hd (l.length) (l.length-1) (by omega) b [] (by omega) (by rw[show l.length-1+1=l.length by omega,U6];exact h1)
  repeat' first|refine go ?_|decide|refine sp ?_ ?_<;>intro _
  refine al hck ?_
  repeat' first|refine go ?_|decide|refine sp ?_ ?_<;>intro _
  refine aG [] [0,1,3,4,5,6] (.exec 2 (.exec 7 (.exec 8 (.exec 9 .done)))) (by kernel_rfl) (by simp) ?_
  repeat' first|refine ge ew ?_|decide|refine sp ?_ ?_<;>intro _
  refine dg hsh (.inr qS) ?_
  repeat' first|refine ge ew ?_|decide|refine sp ?_ ?_<;>intro _
  refine al (by exact hat) ?_
  repeat' first|refine go ?_|decide|refine sp ?_ ?_<;>intro _
  exact aF (by rw[h2];rfl)
 .have hck:=vE l s true hl false (by simp only[VB,false_iff];exact hc)
  repeat' first|refine go ?_|decide|refine sp ?_ ?_<;>intro _
  refine al hck ?_
  repeat' first|refine go ?_|decide|refine sp ?_ ?_<;>intro _
  exact aF (by rw[yo hc];rfl)
theorem QO(m:aJ)(hl:m.stages.length<=1000000):am Tryz.prog 16 [.agg (aC m)] (gl 3 1 ((pars m).map fun n=>[eI n])):=by
 refine aa ag Tryz.func16 rfl (by decide) Tryz.ntmps16 Tryz.results16 rfl (cW _ _ _) ?_
 repeat' first|refine go ?_|decide|refine sp ?_ ?_<;>intro _
 refine af (fun st=>∃k:Nat,k<=m.stages.length/\st=⟨22,[(1,.op 0 0 0),(3,.osl 1),(4,eI (k:Int))],[(0,some (.box 32 (aC m))),(1,some (.row 3 1 ((m.stages.take k).map fun p=>[eI p.2])))],2⟩) (fun st=>m.stages.length-ax st 4) ⟨_,((bq 3 3 1 (by simp only[iC,aj.get,aX,aj.put,↓reduceIte,reduceCtorEq,Nat.reduceLT,Nat.reduceEqDiff,Nat.reduceAdd,Nat.reduceLeDiff,eq_self,implies_true,Va,Vn])).trans (wS [0,1] @Va)),0,UR _,rfl⟩ ?_;rintro _ ⟨k,hk,rfl⟩;by_cases hlt:k<m.stages.length
 .have et:(m.stages.take (k+1)).map (fun p=>[eI p.2])=(m.stages.take k).map (fun p=>[eI p.2]) ++ [[eI m.stages[k].2]]:=dm _ _ hlt
  repeat' first|refine go ?_|simp only[ab,hlt]|decide|refine sp ?_ ?_<;>intro _
  refine⟨rfl,by simp only[U2];omega,rI (wS [0,3] et) ⟨k+1,by omega,rfl⟩⟩
 .obtain rfl:k=m.stages.length:=by omega
  repeat' first|refine go ?_|simp only[ab,hlt]|decide|refine sp ?_ ?_<;>intro _
  exact aV (by simp[ae.gc,pars])
theorem PG(l:List Int)(a i:Int)(hl:l.length<=1073741824)(ho:∀x∈l,aA x):am Tryz.prog 40 [sI l,eI a,eI i] (val (.bool (decide (Mp l a i)))):=
 cg (ca Tryz.func40 rfl (by decide)) fun S w vs hS hn hv=>by
  obtain⟨v,v1,v2,rfl⟩:∃v v1 v2,vs = #[v,v1,v2]:=⟨vs[0]'(by simp at hn;omega),vs[1]'(by simp at hn;omega),vs[2]'(by simp at hn;omega),by
   apply XB
   .simpa using hn
   .intro i h1 h2;simp at h2
    match i,h2 with
    | 0,_=>rfl
    | 1,_=>rfl
    | 2,_=>rfl⟩
  obtain rfl:=y4 (hv 1 v1 _ rfl rfl);obtain rfl:=y4 (hv 2 v2 _ rfl rfl);exact(IP l v a i w hl (mL (hv 0 v _ rfl rfl) hS ho)).mono fun e w' ⟨h1,h2⟩=>⟨h1,h2 ▸ Below.refl _ _⟩
theorem dY(n most:Int):am Tryz.prog 140 [eI n,eI most] (val (.bool (df n most))):=by
 refine aa ag Tryz.func140 rfl (by decide) Tryz.ntmps140 Tryz.results140 rfl (aD _) ?_;unfold df
 repeat' first|refine go ?_|decide|refine sp ?_ ?_<;>intro _
 all_goals(rename_i h;rw[h];simp)
theorem uM(m:aJ)(s:St)(xm:Bool)(xn event:Int)(hf:jN m)(ho:aA s.opn)(hd:aA s.don):am Tryz.prog 97 [.agg (aC m),.agg (cy s),.agg [eB xm,eI xn],eI event] (val (.bool (dq m s (xm,xn) event))):=by
 refine aa ag Tryz.func97 rfl (by decide) Tryz.ntmps97 Tryz.results97 rfl (aD _) ?_;obtain⟨hgl,hml,hsl,-⟩:=id hf.sizes
 cases xm with
 | true=>
  by_cases hin:0<=xn/\xn<(m.miles.length:Int)
  .obtain ⟨k,rfl⟩:∃k:Nat,xn=(k:Int):=⟨xn.toNat,by omega⟩;have hk:k<m.miles.length:=(by omega);have ei:df (k:Int) (m.miles.length:Int)=true:=by simp[df];omega
   have eR:dq m s (true,(k:Int)) event=(df m.miles[k].stage m.stages.length && ((m.miles[k].event == -1) || (m.miles[k].event == event)) && aQ s.opn m.miles[k].stage && n6 (dS m.miles[k].cond s)):=by
    simp[dq,eZ,a5,hk,ua,df,Bool.and_assoc]
   rw[eR];have hho:=pV m.miles[k].cond s (by have:=hf.miles _ (UQ hk);omega) ho hd
   repeat' first|refine go ?_|simp only[ab,hk]|decide|refine sp ?_ ?_<;>intro _
   refine al (dY _ _) ?_
   repeat' first|refine go ?_|simp only[ab,hk,ei]|decide|refine sp ?_ ?_<;>intro _
   refine cL hho (ro) ?_
   repeat' first|refine go ?_|decide|refine sp ?_ ?_<;>intro _
   refine al (dY _ _) ?_
   repeat' first|refine go ?_|decide|refine sp ?_ ?_<;>intro _
   all_goals first
    | (simp[*];done)
    | (refine al (eQ _ _ ho) ?_;(repeat' (first|refine go ?_|decide|refine sp ?_ ?_<;>intro _));all_goals(simp[*];done))
  .have ei:df xn (m.miles.length:Int)=false:=by unfold df;rw[Vy];simp only[Vf];omega
   have eR:dq m s (true,xn) event=false:=by
    have:a5 m (true,xn)=none:=by
     simp only[a5,if_true];split
     .rw [Vh (by omega)];try rfl
     .rfl
    simp[dq,eZ,this]
   rw[eR]
   repeat' first|refine go ?_|decide|refine sp ?_ ?_<;>intro _
   refine al (dY _ _) ?_
   repeat' first|refine ge ei ?_|decide|refine sp ?_ ?_<;>intro _
 | false=>
  by_cases hin:0<=xn/\xn<(m.guards.length:Int)
  .obtain ⟨k,rfl⟩:∃k:Nat,xn=(k:Int):=⟨xn.toNat,by omega⟩;have hk:k<m.guards.length:=(by omega);have ei:df (k:Int) (m.guards.length:Int)=true:=by simp[df];omega
   have hho:=pV m.guards[k].cond s (by have:=hf.guards _ (UQ hk);omega) ho hd;by_cases hst:0<=m.guards[k].stage/\m.guards[k].stage<(m.stages.length:Int)
   .obtain ⟨q,hq⟩:∃q:Nat,m.guards[k].stage=(q:Int):=⟨m.guards[k].stage.toNat,by omega⟩;have hql:q<m.stages.length:=(by omega);have es:df (q:Int) (m.stages.length:Int)=true:=by simp[df];omega
    have eR:dq m s (false,(k:Int)) event=(((m.guards[k].event == -1) || (m.guards[k].event == event)) && !aQ s.opn q && ((m.stages[q].2 == -1) || (df m.stages[q].2 m.stages.length && aQ s.opn m.stages[q].2)) && n6 (dS m.guards[k].cond s)):=by
     have hno:∀p:Int,(decide (p<(m.stages.length:Int)) && aQ s.opn p)=(df p m.stages.length && aQ s.opn p):=fun p=>by
      by_cases h0:0<=p
      .simp [df,h0]
      .rw [kd _ _ (by omega)];simp
     simp[dq,eZ,a5,hk,ua,hq,nP,hql,hno]
    rw[eR]
    repeat' first|refine go ?_|simp only[ab,hk]|decide|refine sp ?_ ?_<;>intro _
    refine ay (by kernel_rfl) ?_
    repeat' first|refine go ?_|simp only[ab,hk]|decide|refine sp ?_ ?_<;>intro _
    refine aO (dY _ _) ?_
    repeat' first|refine go ?_|simp only[ab,hk,ei]|decide|refine sp ?_ ?_<;>intro _
    refine aO (dY _ _) ?_;rw[hq]
    repeat' first|refine go ?_|simp only[ab,hk,es,hq,hql]|decide|refine sp ?_ ?_<;>intro _
    refine cL hho (ro) ?_
    repeat' first|refine ge hq ?_|decide|refine sp ?_ ?_<;>intro _
    all_goals first
     | (simp[*];done)
     | (refine al (eQ _ _ ho) ?_;(repeat' (first|refine go ?_|decide|refine sp ?_ ?_<;>intro _)))
    all_goals first
     | (simp[*];done)
     | (refine al (dY _ _) ?_;(repeat' (first|refine go ?_|decide|refine sp ?_ ?_<;>intro _)))
    all_goals first
     | (simp[*];done)
     | (refine al (eQ _ _ ho) ?_;(repeat' (first|refine go ?_|decide|refine sp ?_ ?_<;>intro _)))
    all_goals(simp[*];done)
   .have es:df m.guards[k].stage (m.stages.length:Int)=false:=by unfold df;rw[Vy];simp only[Vf];omega
    have eR:dq m s (false,(k:Int)) event=false:=by
     have:ua m m.guards[k].stage=false:=by unfold ua;rw[Vy];simp only[Vf];omega
     simp[dq,eZ,a5,hk,this]
    rw[eR]
    repeat' first|refine go ?_|simp only[ab,hk]|decide|refine sp ?_ ?_<;>intro _
    refine ay (by kernel_rfl) ?_
    repeat' first|refine go ?_|simp only[ab,hk]|decide|refine sp ?_ ?_<;>intro _
    refine aO (dY _ _) ?_
    repeat' first|refine go ?_|simp only[ab,hk,ei]|decide|refine sp ?_ ?_<;>intro _
    refine aO (dY _ _) ?_
    repeat' first|refine go ?_|simp only[ab,hk,es]|decide|refine sp ?_ ?_<;>intro _
  .have ei:df xn (m.guards.length:Int)=false:=by unfold df;rw[Vy];simp only[Vf];omega
   have eR:dq m s (false,xn) event=false:=by
    have:a5 m (false,xn)=none:=by
     simp only[a5,VB,if_false];split
     .rw [Vh (by omega)];try rfl
     .rfl
    simp[dq,eZ,this]
   rw[eR]
   repeat' first|refine go ?_|decide|refine sp ?_ ?_<;>intro _
   refine ay (by kernel_rfl) ?_
   repeat' first|refine go ?_|decide|refine sp ?_ ?_<;>intro _
   refine aO (dY _ _) ?_
   repeat' first|refine ge ei ?_|decide|refine sp ?_ ?_<;>intro _
end
end
section
section
def cb(o:Int):Prop:=0<=o/\o<2147483648
theorem bW{o:Int}(h:cb o):aA o:=by unfold cb at h;unfold aA;omega
theorem LZ(s:Int):cb (jA s:Int):=by
 have:=dD s;unfold cb;omega
theorem jk(s i:Int):cb (bn s i):=by
 unfold bn;split
 .have h1:jA s ||| 2 ^ i.toNat<2 ^ 31:=Wq (dD s) (Wg (by omega) (by omega));unfold cb;omega
 .exact LZ s
theorem iz(s i:Int):cb (aZ s i):=by
 unfold aZ;split
 .have h1:jA s ^^^ (jA s &&& 2 ^ i.toNat)<2 ^ 31:=Xv (dD s) (Xb Xz (dD s));unfold cb;omega
 .exact LZ s
theorem wc:∀(l:List Int)(o:Int),cb o->cb (l.foldl aZ o)
 | [],o,h=>h
 | i :: l,o,h=>wc l _ (iz o i)
theorem wo(l:List Ml)(st d:Int)(h:cb d):∀k,cb (iV l st d k)
 | 0=>h
 | k+1=>by
  unfold iV;split
  .exact iz _ _
  .exact wo l st d h k
theorem zX:∀(l:List Int)(o j:Int),aQ (l.foldl aZ o) j=(aQ o j && !decide (j∈l))
 | [],o,j=>by simp
 | i :: l,o,j=>by
  rw[List.foldl_cons,zX l,de];by_cases h:j=i
  .simp [h]
  .have:(j == i)=false:=by simpa using h
   simp[this,h]
theorem tS(l:List Ml)(st d:Int)(i:Nat):∀k,aQ (iV l st d k) (i:Int)=(aQ d (i:Int) && !(decide (i<k) && decide (l[i]?.map (·.stage)=some st)))
 | 0=>by simp[iV]
 | k+1=>by
  unfold iV;split
  .rename_i h;rw[de,tS l st d i k];by_cases hik:i=k
   .subst hik;simp[h]
   .have e1:((i:Int) == (k:Int))=false:=by simp;omega
    have e2:decide (i<k+1)=decide (i<k):=by rw[decide_eq_decide];omega
    rw[e1,e2];simp
  .rename_i h;rw[tS l st d i k];by_cases hik:i=k
   .subst hik;simp[h]
   .have e2:decide (i<k+1)=decide (i<k):=by rw[decide_eq_decide];omega
    rw[e2]
def ft(s:Int)(p:Nat->Bool):List Bool:=(List.range 31).map fun(i:Nat)=>aQ s (i:Int) && !p i
def iJ(q:Nat->Bool)(k:Nat):Nat->Bool:=fun i=>decide (i<k) && q i
theorem va(s:Int)(q:Nat->Bool):ft s (iJ q 0)=qX s:=by simp[ft,qX,iJ]
theorem zb(s:Int)(p:Nat->Bool):(ft s p).length=31:=by simp[ft]
theorem sd{s:Int}{q:Nat->Bool}{k:Nat}(h:q k=true):(ft s (iJ q k)).set k false=ft s (iJ q (k+1)):=by
 apply VS;intro i;rw[Wf];simp only[ft,UV,Vd,List.length_range];by_cases hi:i<31
 .rw [List.getElem?_range hi];split
  .rename_i e;subst e;rw[UZ hi];simp[iJ,h]
  .rename_i e;have e2:decide (i<k+1)=decide (i<k):=by rw[decide_eq_decide];omega
   simp[iJ,e2]
 .rw [Vh (by simp;omega)];split
  .rw [UX (by omega)];rfl
  .rfl
theorem EL{s:Int}{q:Nat->Bool}{k:Nat}(h:q k=false):ft s (iJ q k)=ft s (iJ q (k+1)):=by
 have:iJ q k=iJ q (k+1):=by
  funext i
  unfold iJ;by_cases hik:i=k
  .subst hik;simp[h]
  .have e2:decide (i<k+1)=decide (i<k):=by rw[decide_eq_decide];omega
   rw[e2]
 rw[this]
theorem A0(s:Int)(p:Nat->Bool){t:Int}(ht:cb t)(h:∀j:Nat,j<31->aQ t (j:Int)=(aQ s (j:Int) && !p j)):nT (ft s p) 31=t:=by
 have hr:=ky (fun j=>(ft s p).getD j false) 31;unfold nT;refine Ex (by omega) ht fun j hj=>?_;rw[uT _ j hj,h j hj];simp[ft,hj]
noncomputable def qA(m:aJ)(st:Int):Nat->Bool:=fun i=>decide ((i:Int)=st) || decide (Mp (pars m) st (i:Int))
def qB(m:aJ)(st:Int):Nat->Bool:=fun i=>decide (m.miles[i]?.map (·.stage)=some st)
theorem RR{m:aJ}{st s:Int}(hst:da (pars m) st)(hs:cb s):nT (ft s (iJ (qA m st) m.stages.length)) 31=(dB (pars m) st ++ [st]).foldl aZ s:=by
 refine A0 s _ (wc _ _ hs) fun j hj=>?_;rw[zX]
 congr 2
 have hpl:(pars m).length=m.stages.length:=by simp[pars]
 rw[Wl];simp only[U7,iJ,qA,U1,Wb,U4,Ve];unfold dB;rw[UZ hst];simp only[U3,Xg,Wu,U7];have hst':=hst;unfold da at hst';constructor
 .rintro (⟨k,⟨h1,h2,h3⟩,h4⟩|h)
  .obtain rfl:k=j:=by omega
   obtain⟨i,h5,h6,h7⟩:=(mQ (pars m) (k:Int) st hst'.1 h2).1 h3;exact⟨by omega,.inr ⟨i,h5,h6,hst'.1,h7⟩⟩
  .exact ⟨by omega,.inl h⟩
 .rintro ⟨h1,h2⟩;by_cases he:(j:Int)=st
  .exact .inr he
  .left;rcases h2 with h2|⟨i,h5,h6,h7,h8⟩
   .exact absurd h2 he
   .exact ⟨j,⟨by omega,he,(mQ (pars m) (j:Int) st hst'.1 he).2 ⟨i,h5,h6,h8⟩⟩,rfl⟩
theorem Sg{m:aJ}{st s:Int}(hs:cb s):nT (ft s (iJ (qB m st) m.miles.length)) 31=iV m.miles st s m.miles.length:=by
 refine A0 s _ (wo _ _ _ hs _) fun j hj=>?_;rw[tS];rfl
theorem jB{l:List Bool}:∀row∈l.map (fun b=>[eB b]),∀av∈row,av.plain:=fun row hr av ha=>by
 obtain⟨n,_,rfl⟩:=U3.1 hr;simp at ha;subst ha;trivial
theorem AA(m:aJ)(s:St)(xm:Bool)(xn:Int)(hf:jN m)(hp:∀p∈m.stages,aA p.2)(ho:cb s.opn)(hd:cb s.don):am Tryz.prog 98 [.agg (aC m),.agg (cy s),.agg [eB xm,eI xn]] ⟨.agg (cy (cd m s (xm,xn))),[],0⟩:=by
 refine aa ag Tryz.func98 rfl (by decide) Tryz.ntmps98 Tryz.results98 rfl (⟨fun id o h=>(by cases h),⟨trivial,trivial,trivial,trivial,trivial,trivial⟩⟩) ?_;obtain⟨hgl,hml,hsl,-⟩:=id hf.sizes;have hpl:(pars m).length=m.stages.length:=by simp[pars]
 have hpo:∀x∈pars m,aA x:=fun x hx=>by
  obtain⟨p,hp',rfl⟩:=U3.1 hx;exact hp p hp'
 have ro:m8 [.agg (aC m),.agg (cy s),.agg [eB xm,eI xn]]:=by simp[m8,pi,bD,dl]
 cases xm with
 | true=>
  by_cases hin:0<=xn/\xn<(m.miles.length:Int)
  .obtain ⟨k,rfl⟩:∃k:Nat,xn=(k:Int):=⟨xn.toNat,by omega⟩;have hk:k<m.miles.length:=(by omega);have ei:df (k:Int) (m.miles.length:Int)=true:=by simp[df];omega
   by_cases hst:0<=m.miles[k].stage/\m.miles[k].stage<(m.stages.length:Int)
   .have es:df m.miles[k].stage (m.stages.length:Int)=true:=by unfold df;simp;omega
    have hs2:ua m m.miles[k].stage=true:=by unfold ua;simp;omega
    have eR:cd m s (true,(k:Int))={ s with don:=bn s.don k,opn:=(dB (pars m) m.miles[k].stage ++ [m.miles[k].stage]).foldl aZ s.opn }:=by
     simp[cd,a5,hk,hs2]
    rw[eR,<- RR (m:=m) (by unfold da;omega) ho];have eK:yg m.miles[k]=[eS m.miles[k].name,eI m.miles[k].stage,eI m.miles[k].event,bf m.miles[k].cond,eB m.miles[k].final]:=rfl;generalize hstg:m.miles[k].stage=st at hst es hs2 eK;have hput:=qL s.don (k:Int) true (bW hd) (by omega) (by omega);simp only[if_true] at hput
    repeat' first|refine go ?_|simp only[ab,hk]|decide|refine sp ?_ ?_<;>intro _
    refine ay (by kernel_rfl) ?_
    repeat' first|refine go ?_|simp only[ab,hk]|decide|refine sp ?_ ?_<;>intro _
    refine aO (dY _ _) ?_
    repeat' first|refine go ?_|simp only[ab,hk,ei,hstg]|decide|refine sp ?_ ?_<;>intro _
    refine aO (dY _ _) ?_
    repeat' first|refine go ?_|simp only[ab,hk,ei,es,hstg]|decide|refine sp ?_ ?_<;>intro _
    refine al hput ?_
    repeat' first|refine go ?_|decide|refine sp ?_ ?_<;>intro _
    refine dg (Ld s.opn (bW ho)) (.inr jB) ?_
    repeat' first|refine go ?_|decide|refine sp ?_ ?_<;>intro _
    rw[<- va s.opn (qA m st)];refine af (fun s'=>∃i:Nat,i<=m.stages.length/\s'=⟨148,[(3,.op 0 0 0),(4,.op 1 0 0),(6,.op 2 0 0),(7,eI st),(8,.osl 3),(9,eI (i:Int))],[(0,some (.box 32 (aC m))),(1,some (.box 59 (cy { s with don:=bn s.don k }))),(2,some (.box 59 [.c (.slice none 0 0),eI 0,eI 0,.c (.slice none 0 0),.c (.slice none 0 0)])),(3,some (.row 4 1 ((ft s.opn (iJ (qA m st) i)).map fun b=>[eB b])))],4⟩) (fun s'=>m.stages.length-ax s' 9) ⟨_,(wR [0,1,3,4]),0,UR _,rfl⟩ ?_;rintro _ ⟨i,hi,rfl⟩;have hml31:=zb s.opn (iJ (qA m st) i);by_cases hlt:i<m.stages.length
    .have hi31:i<(ft s.opn (iJ (qA m st) i)).length:=(by omega);have hset:(((ft s.opn (iJ (qA m st) i)).map fun b=>[eB b]).set i [eB false])=((ft s.opn (iJ (qA m st) i)).set i false).map fun b=>[eB b]:=(by rw[WH])
     repeat' first|refine go ?_|simp only[ab,hlt,hi31]|decide|refine sp ?_ ?_<;>intro _
     .rename_i h;have hq:qA m st i=true:=by simp[qA];left;simpa using h
      exact rI (ja (by(first|((simp only[gu,lz,cU,bX,aB.lt,AV.lt,AV.ltL,iC,aj.get,aX,aj.put,↓reduceIte,reduceCtorEq,Nat.reduceLT,Nat.reduceEqDiff,Nat.reduceAdd,Nat.reduceLeDiff,eq_self,implies_true,hset,sd hq])<;>(repeat' apply And.intro)<;>first|(rw[jx (by omega)];done)|(simp;done)|omega)|fail))) ⟨i+1,by omega,rfl⟩
     .rename_i h;refine dg (QO m (by omega)) (.inr bk) ?_
      repeat' first|refine go ?_|decide|refine sp ?_ ?_<;>intro _
      refine al (PG (pars m) st (i:Int) (by omega) hpo) ?_
      repeat' first|refine go ?_|simp only[ab,hlt,hi31]|decide|refine sp ?_ ?_<;>intro _
      .rename_i h2;have hq:qA m st i=true:=(by simp only[qA,h2,Bool.or_true]);exact rI (mu [0,1,2,3] ⟨(by decide),(by(first|((simp only[gz,fV,cU,bX,aB.lt,AV.lt,AV.ltL,AV.ren,AV.renL,aB.ren,Xo,List.getD_cons_succ,Vl,Wd,iC,aj.get,aX,aj.put,↓reduceIte,reduceCtorEq,Nat.reduceLT,Nat.reduceEqDiff,Nat.reduceAdd,Nat.reduceLeDiff,eq_self,implies_true,hset,sd hq])<;>(repeat' apply And.intro)<;>first|(rw[jx (by omega)];done)|(simp;done)|omega)|fail))⟩) ⟨i+1,by omega,rfl⟩
      .rename_i h2
       have hq:qA m st i=false:=by
        simp only[qA,h2,Bool.or_false];simpa using h
       exact rI (mu [0,1,2,3] ⟨(by decide),(by(first|((simp only[gz,fV,cU,bX,aB.lt,AV.lt,AV.ltL,AV.ren,AV.renL,aB.ren,Xo,List.getD_cons_succ,Vl,Wd,iC,aj.get,aX,aj.put,↓reduceIte,reduceCtorEq,Nat.reduceLT,Nat.reduceEqDiff,Nat.reduceAdd,Nat.reduceLeDiff,eq_self,implies_true,EL hq])<;>(repeat' apply And.intro)<;>first|(rw[jx (by omega)];done)|(simp;done)|omega)|fail))⟩) ⟨i+1,by omega,rfl⟩
    .obtain rfl:i=m.stages.length:=by omega
     have hsum:=KR (ft s.opn (iJ (qA m st) m.stages.length)) (by omega);rw[hml31] at hsum
     repeat' first|refine go ?_|simp only[ab,hlt]|decide|refine sp ?_ ?_<;>intro _
     refine al (by exact hsum) ?_
     repeat' first|refine go ?_|decide|refine sp ?_ ?_<;>intro _
     exact aF (by simp[AV.ren,AV.renL])
   .have es:df m.miles[k].stage (m.stages.length:Int)=false:=by unfold df;rw[Vy];simp only[Vf];omega
    have eR:cd m s (true,(k:Int))=s:=by
     have:ua m m.miles[k].stage=false:=by unfold ua;rw[Vy];simp only[Vf];omega
     simp[cd,a5,hk,this]
    rw[eR]
    repeat' first|refine go ?_|simp only[ab,hk]|decide|refine sp ?_ ?_<;>intro _
    refine ay (by kernel_rfl) ?_
    repeat' first|refine go ?_|simp only[ab,hk]|decide|refine sp ?_ ?_<;>intro _
    refine aO (dY _ _) ?_
    repeat' first|refine go ?_|simp only[ab,hk,ei]|decide|refine sp ?_ ?_<;>intro _
    refine aO (dY _ _) ?_
    repeat' first|refine go ?_|simp only[ab,hk,ei,es]|decide|refine sp ?_ ?_<;>intro _
    exact aF (by simp[AV.ren,AV.renL])
  .have ei:df xn (m.miles.length:Int)=false:=by unfold df;rw[Vy];simp only[Vf];omega
   have eR:cd m s (true,xn)=s:=by
    have:a5 m (true,xn)=none:=by
     simp only[a5,if_true];split
     .rw [Vh (by omega)];try rfl
     .rfl
    simp[cd,this]
   rw[eR]
   repeat' first|refine go ?_|decide|refine sp ?_ ?_<;>intro _
   refine ay (by kernel_rfl) ?_
   repeat' first|refine go ?_|decide|refine sp ?_ ?_<;>intro _
   refine aO (dY _ _) ?_
   repeat' first|refine ge ei ?_|decide|refine sp ?_ ?_<;>intro _
   exact aF (by simp[AV.ren,AV.renL])
 | false=>
  by_cases hin:0<=xn/\xn<(m.guards.length:Int)
  .obtain ⟨k,rfl⟩:∃k:Nat,xn=(k:Int):=⟨xn.toNat,by omega⟩;have hk:k<m.guards.length:=(by omega);have ei:df (k:Int) (m.guards.length:Int)=true:=by simp[df];omega
   by_cases hst:0<=m.guards[k].stage/\m.guards[k].stage<(m.stages.length:Int)
   .have es:df m.guards[k].stage (m.stages.length:Int)=true:=by unfold df;simp;omega
    have hs2:ua m m.guards[k].stage=true:=by unfold ua;simp;omega
    have eR:cd m s (false,(k:Int))={ s with opn:=bn s.opn m.guards[k].stage,don:=iV m.miles m.guards[k].stage s.don m.miles.length }:=by
     simp[cd,a5,hk,hs2]
    rw[eR,<- Sg hd];generalize hstg:m.guards[k].stage=st at hst es hs2;have hput:=qL s.opn st true (bW ho) hst.1 (by omega);simp only[if_true] at hput
    repeat' first|refine go ?_|simp only[ab,hk]|decide|refine sp ?_ ?_<;>intro _
    refine ay (by kernel_rfl) ?_
    repeat' first|refine go ?_|simp only[ab,hk]|decide|refine sp ?_ ?_<;>intro _
    refine aO (dY _ _) ?_
    repeat' first|refine go ?_|simp only[ab,hk,ei,hstg]|decide|refine sp ?_ ?_<;>intro _
    refine aO (dY _ _) ?_
    repeat' first|refine go ?_|simp only[ab,hk,ei,es,hstg]|decide|refine sp ?_ ?_<;>intro _
    refine al hput ?_
    repeat' first|refine go ?_|decide|refine sp ?_ ?_<;>intro _
    refine dg (Ld s.don (bW hd)) (.inr jB) ?_
    repeat' first|refine go ?_|decide|refine sp ?_ ?_<;>intro _
    rw[<- va s.don (qB m st)];refine af (fun s'=>∃i:Nat,i<=m.miles.length/\s'=⟨148,[(3,.op 0 0 0),(4,.op 1 0 0),(6,.op 2 0 0),(10,eI st),(11,.osl 3),(12,eI (i:Int))],[(0,some (.box 32 (aC m))),(1,some (.box 59 (cy { s with opn:=bn s.opn st }))),(2,some (.box 59 [.c (.slice none 0 0),eI 0,eI 0,.c (.slice none 0 0),.c (.slice none 0 0)])),(3,some (.row 4 1 ((ft s.don (iJ (qB m st) i)).map fun b=>[eB b])))],4⟩) (fun s'=>m.miles.length-ax s' 12) ⟨_,(wR [0,1,3,4]),0,UR _,rfl⟩ ?_;rintro _ ⟨i,hi,rfl⟩;have hml31:=zb s.don (iJ (qB m st) i);by_cases hlt:i<m.miles.length
    .have hi31:i<(ft s.don (iJ (qB m st) i)).length:=(by omega);have hset:(((ft s.don (iJ (qB m st) i)).map fun b=>[eB b]).set i [eB false])=((ft s.don (iJ (qB m st) i)).set i false).map fun b=>[eB b]:=(by rw[WH])
     repeat' first|refine go ?_|simp only[ab,hlt,hi31]|decide|refine sp ?_ ?_<;>intro _
     .rename_i h;have hq:qB m st i=true:=by simp[qB,hlt];simpa using h
      exact rI (ja (by(first|((simp only[gu,lz,cU,bX,aB.lt,AV.lt,AV.ltL,iC,aj.get,aX,aj.put,↓reduceIte,reduceCtorEq,Nat.reduceLT,Nat.reduceEqDiff,Nat.reduceAdd,Nat.reduceLeDiff,eq_self,implies_true,hset,sd hq])<;>(repeat' apply And.intro)<;>first|(rw[jx (by omega)];done)|(simp;done)|omega)|fail))) ⟨i+1,by omega,rfl⟩
     .rename_i h;have hq:qB m st i=false:=by simp[qB,hlt];simpa using h
      exact rI (ja (by(first|((simp only[gu,lz,cU,bX,aB.lt,AV.lt,AV.ltL,iC,aj.get,aX,aj.put,↓reduceIte,reduceCtorEq,Nat.reduceLT,Nat.reduceEqDiff,Nat.reduceAdd,Nat.reduceLeDiff,eq_self,implies_true,EL hq])<;>(repeat' apply And.intro)<;>first|(rw[jx (by omega)];done)|(simp;done)|omega)|fail))) ⟨i+1,by omega,rfl⟩
    .obtain rfl:i=m.miles.length:=by omega
     have hsum:=KR (ft s.don (iJ (qB m st) m.miles.length)) (by omega);rw[hml31] at hsum
     repeat' first|refine go ?_|simp only[ab,hlt]|decide|refine sp ?_ ?_<;>intro _
     refine al (by exact hsum) ?_
     repeat' first|refine go ?_|decide|refine sp ?_ ?_<;>intro _
     exact aF (by simp[AV.ren,AV.renL])
   .have es:df m.guards[k].stage (m.stages.length:Int)=false:=by unfold df;rw[Vy];simp only[Vf];omega
    have eR:cd m s (false,(k:Int))=s:=by
     have:ua m m.guards[k].stage=false:=by unfold ua;rw[Vy];simp only[Vf];omega
     simp[cd,a5,hk,this]
    rw[eR]
    repeat' first|refine go ?_|simp only[ab,hk]|decide|refine sp ?_ ?_<;>intro _
    refine ay (by kernel_rfl) ?_
    repeat' first|refine go ?_|simp only[ab,hk]|decide|refine sp ?_ ?_<;>intro _
    refine aO (dY _ _) ?_
    repeat' first|refine go ?_|simp only[ab,hk,ei]|decide|refine sp ?_ ?_<;>intro _
    refine aO (dY _ _) ?_
    repeat' first|refine go ?_|simp only[ab,hk,ei,es]|decide|refine sp ?_ ?_<;>intro _
    exact aF (by simp[AV.ren,AV.renL])
  .have ei:df xn (m.guards.length:Int)=false:=by unfold df;rw[Vy];simp only[Vf];omega
   have eR:cd m s (false,xn)=s:=by
    have:a5 m (false,xn)=none:=by
     simp only[a5,VB,if_false];split
     .rw [Vh (by omega)];try rfl
     .rfl
    simp[cd,this]
   rw[eR]
   repeat' first|refine go ?_|decide|refine sp ?_ ?_<;>intro _
   refine ay (by kernel_rfl) ?_
   repeat' first|refine go ?_|decide|refine sp ?_ ?_<;>intro _
   refine aO (dY _ _) ?_
   repeat' first|refine ge ei ?_|decide|refine sp ?_ ?_<;>intro _
   exact aF (by simp[AV.ren,AV.renL])
theorem D8(m:aJ)(s:St)(x:Bool×Int)(h:cb s.opn/\cb s.don):cb (cd m s x).opn/\cb (cd m s x).don:=by
 unfold cd;split
 .split
  .split
   .exact ⟨wc _ _ h.1,jk _ _⟩
   .exact ⟨jk _ _,wo _ _ _ h.2 _⟩
  .exact h
 .exact h
theorem OA(m:aJ)(event:Int)(s:St)(x:Bool×Int)(h:cb s.opn/\cb s.don):cb (db m event s x).opn/\cb (db m event s x).don:=by
 unfold db;split
 .exact D8 m s x h
 .exact h
theorem lW(m:aJ)(event:Int):∀(l:List (Bool×Int))(s:St),cb s.opn/\cb s.don->cb (l.foldl (db m event) s).opn/\cb (l.foldl (db m event) s).don
 | [],s,h=>h
 | x :: l,s,h=>lW m event l _ (OA m event s x h)
theorem Qq(s:St):(⟨.agg (cy s),[],0⟩:cu).Ok:=⟨fun id o h=>(by cases h),⟨trivial,trivial,trivial,trivial,trivial,trivial⟩⟩
theorem Ax(m:aJ)(s:St)(event:Int)(hf:jN m)(hp:∀p∈m.stages,aA p.2)(ho:cb s.opn)(hd:cb s.don):am Tryz.prog 71 [.agg (aC m),.agg (cy s),eI event] ⟨.agg (cy (cP m event s m.order.length)),[],0⟩:=by
 refine aa ag Tryz.func71 rfl (by decide) Tryz.ntmps71 Tryz.results71 rfl (Qq _) ?_
 repeat' first|refine go ?_|decide|refine sp ?_ ?_<;>intro _
 have hol:m.order.length<=40:=hf.sizes.2.2.2.2.2.2.2.2.1;have e0:cP m event s 0=s:=rfl;refine af (fun s'=>∃k:Nat,k<=m.order.length/\s'=⟨33,[(2,eI event),(3,.op 0 0 0),(4,.op 1 0 0),(6,.op 2 0 0),(7,eI (k:Int))],[(0,some (.box 32 (aC m))),(1,some (.box 59 (cy (cP m event s k)))),(2,some (.box 59 [.c (.slice none 0 0),eI 0,eI 0,.c (.slice none 0 0),.c (.slice none 0 0)]))],3⟩) (fun st=>m.order.length-ax st 7) ⟨_,(wE e0),0,UR _,rfl⟩ ?_;rintro _ ⟨k,hk,rfl⟩;by_cases hlt:k<m.order.length
 .have ef:cP m event s (k+1)=db m event (cP m event s k) m.order[k]:=pz _ _ _ hlt;have hv:=lW m event (m.order.take k) s ⟨ho,hd⟩
  change cb (cP m event s k).opn/\cb (cP m event s k).don at hv
  repeat' first|refine go ?_|simp only[ab,hlt]|decide|refine sp ?_ ?_<;>intro _
  generalize cP m event s k=t at ef hv ⊢;refine ay (by kernel_rfl) ?_;obtain⟨x,hx⟩:∃x,m.order[k]=x:=⟨_,rfl⟩;rw[hx] at ef
  repeat' first|refine go ?_|simp only[ab,hlt,hx]|decide|refine sp ?_ ?_<;>intro _
  refine aO (uM m t x.1 x.2 event hf (bW hv.1) (bW hv.2)) ?_
  repeat' first|refine go ?_|decide|refine sp ?_ ?_<;>intro _
  .rename_i h;have e1:db m event t x=cd m t x:=UZ h;rw[e1] at ef;refine BF 7 (by kernel_rfl) ?_
   repeat' first|refine go ?_|simp only[ab,hlt,hx]|decide|refine sp ?_ ?_<;>intro _
   refine cL (AA m t x.1 x.2 hf hp hv.1 hv.2) (ro) ?_
   repeat' first|refine go ?_|decide|refine sp ?_ ?_<;>intro _
   exact rI (wE ef) ⟨k+1,by omega,rfl⟩
  .rename_i h;have e1:db m event t x=t:=UX (by rw[show(x:Bool×Int)=(x.1,x.2) from rfl,h];simp);rw[e1] at ef;exact rI (wE ef) ⟨k+1,by omega,rfl⟩
 .obtain rfl:k=m.order.length:=by omega
  repeat' first|refine go ?_|simp only[ab,hlt]|decide|refine sp ?_ ?_<;>intro _
  exact aF (by simp only[AV.ren,AV.renL])
end
end
end Go.Proofs.YtglaiabelcefeaaGreat
