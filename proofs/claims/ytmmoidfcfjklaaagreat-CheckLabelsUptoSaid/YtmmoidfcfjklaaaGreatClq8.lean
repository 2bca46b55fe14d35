/-
  Parts of the proof: Clp19, Clp20, Clp21, Clp22, Clp23, Clp24.
-/
import Derived.Test.YtmmoidfcfjklaaaGreatClq7
import Derived.Deep.OwnRows
import Derived.Deep.RegionWith
import Derived.Maps.AppendAt
set_option linter.unusedVariables false
set_option linter.unusedSimpArgs false
set_option linter.defProp false
set_option maxRecDepth 100000
set_option maxHeartbeats 16000000
namespace Go.Proofs.YtmmoidfcfjklaaaGreat
open Go.RowKit
section
section
abbrev dM (l:List Bool):List (List AV):=l.map fun b=>[eB b]
abbrev fI (l:List Bool):AV:=.sl 1 (dM l)
abbrev n8 (next:List (List Int)):List (List AV):=next.map fun r=>[sI r]
abbrev iL (next:List (List Int)):AV:=.sl 1 (n8 next)
structure nc (next:List (List Int)):Prop where
 len:next.length<=200
 row:∀ r ∈ next,r.length<=4000
 ok:∀ r ∈ next,∀ x ∈ r,aF x
theorem qf (a:List Bool) (i:Int) (ha:a.length<=1000000000):aw Tryz.prog 105 [fI a,eI i] (val (.bool (rq a i))):=by
 refine aa ag Tryz.func105 rfl (by decide) Tryz.ntmps105 Tryz.results105 rfl (aI _) ?_;by_cases h0:0<=i
 .obtain ⟨q,rfl⟩:∃ q:Nat,i=(q:Int):=⟨i.toNat,by omega⟩;rw [gr];by_cases h1:q<a.length
  .obtain ⟨x,hx⟩:∃ x,x=a[q]:=⟨_,rfl⟩;have hrow:(a.map fun b=>[eB b])[q]?.getD []=[eB x]:=by rw [hx];simp [h1]
   have hg:a.getD q false=x:=by rw [hx];simp [List.getD,h1]
   rw [hg]
   repeat' first|refine ge (kf @hrow h1) ?_|decide|refine sp ?_ ?_<;>intro _
   all_goals first|rfl|(simp_all;done)
  .have hg:a.getD q false=false:=by rw [Vm,Vt (by omega)];rfl
   rw [hg]
   repeat' first|refine ge h1 ?_|decide|refine sp ?_ ?_<;>intro _
   all_goals first|rfl|(simp_all;done)
 .have hg:rq a i=false:=by simp [rq,h0]
  have d:decide (0<=i)=false:=by simpa using h0
  rw [hg]
  repeat' first|refine ge d ?_|decide|refine sp ?_ ?_<;>intro _
  all_goals first|rfl|(simp_all;done)
def bW (new old:List Bool) (j:Nat):List Bool:=new.take j ++ old.drop j
theorem gy {new old:List Bool} (h:new.length=old.length) {j:Nat} (hj:j<=old.length):(bW new old j).length=old.length:=by simp [bW];omega
theorem lq {new old:List Bool} (h:new.length=old.length) {j:Nat} (hj:j<old.length):(dM (bW new old j))[j]?.getD []=[eB (old.getD j false)]:=by
 have h1:(bW new old j)[j]? = some old[j]:=by
  unfold bW;rw [VQ (by simp;omega)];simp only [Vr,VV];rw [show j+(j - min j new.length)=j by omega,p0 hj]
 simp [h1,List.getD,hj]
theorem jn {new old:List Bool} (h:new.length=old.length) {j:Nat} (hj:j<old.length):(dM (bW new old j)).set j [eB (new.getD j false)]=dM (bW new old (j+1)):=by
 have h1:new.getD j false=new[j]'(by omega):=by simp [List.getD,show j<new.length by omega]
 have h2:bW new old j=new.take j ++ old[j] :: old.drop (j+1):=by rw [bW,List.getElem_cons_drop]
 have h3:bW new old (j+1)=new.take j ++ new[j]'(by omega) :: old.drop (j+1):=by rw [bW,Vi (by omega),VZ,List.singleton_append]
 rw [h1,h2,h3];simp only [VI,V1];rw [List.set_append_right _ _ (by simp;omega)];simp [Nat.min_eq_left (show j<=new.length by omega)]
theorem wm {new old:List Bool} (h:new.length=old.length) {j:Nat} (hj:j<old.length) {v:Bool} (hv:new.getD j false=v):(bW new old j).set j v=bW new old (j+1):=by
 have h1:v=new[j]'(by omega):=by rw [<- hv];simp [List.getD,show j<new.length by omega]
 have h2:bW new old j=new.take j ++ old[j] :: old.drop (j+1):=by rw [bW,List.getElem_cons_drop]
 have h3:bW new old (j+1)=new.take j ++ new[j]'(by omega) :: old.drop (j+1):=by rw [bW,Vi (by omega),VZ,List.singleton_append]
 rw [h1,h2,h3,List.set_append_right _ _ (by simp;omega),Vr,Nat.min_eq_left (by omega),Nat.sub_self];rfl
theorem zC {new old:List Bool} (h:new.length=old.length) {j:Nat} (hj:j<old.length):(bW new old j)[j]? = some (old.getD j false):=by
 unfold bW;rw [VQ (by simp;omega)];simp only [Vr,VV];rw [show j+(j - min j new.length)=j by omega,p0 hj];simp [List.getD,hj]
theorem iu {new old:List Bool} (h:new.length=old.length):bW new old old.length=new:=by simp [bW,VF (Nat.le_of_eq h)]
theorem gc (new old:List Bool):bW new old 0=old:=by simp [bW]
theorem Am {X:List Bool} {i:Nat} {v:Bool} (h:X[i]? = some v):X.set i v=X:=by
 obtain ⟨h1,rfl⟩:=Vf.1 h;exact List.set_getElem_self h1
theorem yV {X:List Bool} {i:Nat} (v:Bool) (h:i<X.length):(dM (X.set i v))[i]?.getD []=[eB v]:=by simp [h]
theorem ub (X:List Bool) (i:Nat) (v u:Bool):(dM (X.set i v)).set i [eB u]=dM (X.set i u):=by
 rw [<- W8,List.set_set]
theorem r8 (X:List Bool) (i:Nat) (u:Bool):(dM X).set i [eB u]=dM (X.set i u):=by rw [<- W8]
theorem tA {n:Nat} {a:List Bool} {q:List Int} {j:Nat} (h:j<q.length):iw n a (q.take (j+1))=(iw n a (q.take j) || (decide (q[j]<(n:Int)) && rq a q[j])):=by
 unfold iw;rw [Vi h,List.any_append];simp
theorem Em {next:List (List Int)} {a:List Bool} {k:Nat} (h:k<next.length):(pA next a).getD k false=iw next.length a next[k]:=by simp [pA,List.getD,h]
theorem D3 {n k:Nat} (h:k<n):(List.replicate n false).getD k false=false:=by simp [List.getD,h]
theorem KH (next:List (List Int)) (a:List Bool) (hx:nc next) (ha:a.length<=1000000):aw Tryz.prog 55 [iL next,fI a] (g8 4 1 (dM (pA next a))):=by
 refine aa ag Tryz.func55 rfl (by decide) Tryz.ntmps55 Tryz.results55 rfl (ch _ _ _) ?_;have hnl:=hx.len;obtain ⟨N,hN⟩:∃ N,N=pA next a:=⟨_,rfl⟩;have hNl:N.length=(List.replicate next.length false).length:=by rw [hN];simp [pA]
 have hF:(List.replicate next.length false).length=next.length:=by simp
 obtain ⟨F,hFe⟩:∃ F,F=List.replicate next.length false:=⟨_,rfl⟩;have hF0:dM F=List.replicate next.length [eB false]:=by rw [hFe];simp
 rw [<- hFe] at hNl hF;have hg:∀ k (h:k<next.length),N.getD k false=iw next.length a next[k]:=fun k h=>by rw [hN,Em h]
 have hf:∀ k,k<next.length -> F.getD k false=false:=fun k h=>by rw [hFe,D3 h]
 rw [<- hN]
 repeat' first|refine go ?_|decide|refine sp ?_ ?_<;>intro _
 refine ⟨⟨by omega,by omega⟩,?_⟩;refine ae (fun st=>∃ k:Nat,k<=next.length /\ st=⟨51,[(0,iL next),(1,fI a),(5,.osl 0),(6,eI (k:Int))],[(0,some (.row 4 1 (dM (bW N F k))))],1⟩) (fun st=>next.length - ap st 6) ⟨_,(wE (kf @gc hF0)),0,Vd _,rfl⟩ ?_;rintro _ ⟨k,hk,rfl⟩;by_cases hlt:k<next.length
 .obtain ⟨q,hq⟩:∃ q,q=next[k]:=⟨_,rfl⟩;have hrow:(n8 next)[k]?.getD []=[sI q]:=by rw [hq];simp [n8,hlt]
  have hql:q.length<=4000:=by rw [hq];exact hx.row _ (Vg hlt)
  have hul:(bW N F k).length=next.length:=by rw [gy hNl (by omega)];exact hF
  have hs0:(bW N F k).set k (iw next.length a (q.take 0))=bW N F k:=Am (by rw [zC hNl (by omega),hf k hlt];rfl);have hs1:(bW N F k).set k (iw next.length a (q.take q.length))=bW N F (k+1):=wm hNl (by omega) (by rw [hg k hlt,Vq,hq]);obtain ⟨X,hX⟩:∃ X,X=bW N F k:=⟨_,rfl⟩;rw [<- hX] at hul hs0 hs1 ⊢
  repeat' first|refine ge (kf @hrow @hlt) ?_|decide|refine sp ?_ ?_<;>intro _
  refine ae (fun st=>∃ j:Nat,j<=q.length /\ st=⟨51,[(0,iL next),(1,fI a),(5,.osl 0),(6,eI (k:Int)),(7,eI (j:Int))],[(0,some (.row 4 1 (dM (X.set k (iw next.length a (q.take j))))))],1⟩) (fun st=>q.length - ap st 7) ⟨_,(wE hs0),0,Vd _,rfl⟩ ?_;rintro _ ⟨j,hj,rfl⟩;by_cases hlt2:j<q.length
  .obtain ⟨x,hx2⟩:∃ x,x=q[j]:=⟨_,rfl⟩;have hrj:(q.map fun n=>[eI n])[j]?.getD []=[eI x]:=by rw [hx2];simp [hlt2]
   have ea:=tA (n:=next.length) (a:=a) hlt2;rw [<- hx2] at ea;have hI:=qf a x (by omega);obtain ⟨v,hv⟩:∃ v,v=iw next.length a (q.take j):=⟨_,rfl⟩;have hcs:=ub X k v true;have hcg:=yV v (show k<X.length by omega);have hkx:k<(X.set k v).length:=by rw [We];omega
   rw [<- hv] at ea ⊢;by_cases hd:x<(next.length:Int)
   .have d:decide (x<(next.length:Int))=true:=Vy hd;rw [d,VX] at ea
    cases hb:rq a x with
    | true=>
     rw [hb,Bool.or_true] at ea;rw [hb] at hI
     repeat' first|refine gf (kf @hrow (kf @hlt (kf @hrj (kf @hlt2 (kf d (kf @hkx (kf @hcg @hcs))))))) ?_|decide|refine sp ?_ ?_<;>intro _|refine cA hI ?_|fail
     all_goals exact rI (wE (kf ea @hcs)) ⟨j+1,by omega,rfl⟩
    | false=>
     rw [hb,XQ] at ea;rw [hb] at hI
     repeat' first|refine gf (kf @hrow (kf @hlt (kf @hrj (kf @hlt2 d)))) ?_|decide|refine sp ?_ ?_<;>intro _|refine cA hI ?_|fail
     all_goals exact rI (wE ea) ⟨j+1,by omega,rfl⟩
   .have d:decide (x<(next.length:Int))=false:=Vv hd;rw [d,VY,XQ] at ea
    repeat' first|refine gf (kf @hrow (kf @hlt (kf @hrj (kf @hlt2 d)))) ?_|decide|refine sp ?_ ?_<;>intro _|refine cA hI ?_|fail
    all_goals exact rI (wE ea) ⟨j+1,by omega,rfl⟩
  .obtain rfl:j=q.length:=by omega
   rw [hs1]
   repeat' first|refine gf (kf @hrow (kf @hlt @hlt2)) ?_|decide|refine sp ?_ ?_<;>intro _
   all_goals exact rI wC ⟨k+1,by omega,rfl⟩
 .obtain rfl:k=next.length:=by omega
  have e1:bW N F next.length=N:=by rw [<- hF];exact iu hNl
  rw [e1]
  repeat' first|refine gf @hlt ?_|decide|refine sp ?_ ?_<;>intro _
  all_goals exact aM (by simp [af.gc])
def Fl (N o:List Bool) (j:Nat):Bool:=(List.range j).all fun i=>N.getD i false == o.getD i false
theorem AC (N o:List Bool) (j:Nat):Fl N o (j+1)=(Fl N o j && (N.getD j false == o.getD j false)):=by simp [Fl,Wn]
theorem Ie {N o:List Bool} (h:N.length=o.length):Fl N o o.length=true ↔ N=o:=by
 constructor
 .intro hs;apply XA h;intro i h1 h2;have:=W6.1 hs i (WM.2 h2);simpa [List.getD,h1,h2] using this
 .rintro rfl;simp [Fl]
theorem KG (next:List (List Int)) (a b out:List Bool) (k:Nat) (hk:k<next.length):(ni next a b out).getD k false=(b.getD k false || (a.getD k false && (pA next out).getD k false)):=by
 unfold ni;rw [List.getD,Ve,V6 hk];rfl
theorem LD (next:List (List Int)) (out:List Bool) (k:Nat) (hk:k<next.length):(j6 next out).getD k false=(out.getD k false && (pA next out).getD k false):=by
 unfold j6;rw [List.getD,Ve,V6 hk];rfl
theorem aP (l:List Bool):∀ row ∈ dM l,∀ a ∈ row,AV.plain a:=by
 intro row hr a ha;obtain ⟨b,_,rfl⟩:=Vx.1 hr;simp at ha;subst ha;trivial
theorem LS (next:List (List Int)) (a b:List Bool) (hx:nc next) (ha:a.length<=1000000) (hb:b.length<=1000000):aw Tryz.prog 58 [iL next,fI a,fI b] (g8 4 1 (dM (ux next a b))):=by
 refine aa ag Tryz.func58 rfl (by decide) Tryz.ntmps58 Tryz.results58 rfl (ch _ _ _) ?_;have hnl:=hx.len;have hF0:dM (pc next a b 0)=List.replicate next.length [eB false]:=by simp [pc]
 repeat' first|refine go ?_|decide|refine sp ?_ ?_<;>intro _
 refine ⟨⟨by omega,by omega⟩,?_⟩;refine ae (fun st=>∃ k:Nat,k<=next.length+1 /\ k<=cnt (pc next a b k)+1 /\ st=⟨71,[(0,iL next),(1,fI a),(2,fI b),(7,.osl 0),(8,eI (k:Int))],[(0,some (.row 4 1 (dM (pc next a b k))))],1⟩) (fun st=>next.length+1 - ap st 8) ⟨_,(wE hF0),0,Vd _,Vd _,rfl⟩ ?_;rintro _ ⟨k,hk,hkc,rfl⟩;have hol:(pc next a b k).length=next.length:=gY ..;by_cases hlt:k<=next.length
 .have hlt2:decide ((k:Int)<=(next.length:Int))=true:=Vy (by omega);have hs:pc next a b (k+1)=ni next a b (pc next a b k):=rfl;have hst:=C0 next a b k;have hmo:=KQ next a b k;obtain ⟨o,ho⟩:∃ o,o=pc next a b k:=⟨_,rfl⟩;rw [<- ho] at hs hol hkc hst hmo ⊢;have hev:=KH next o hx (by omega);have hxl:(pA next o).length=o.length:=by simp [pA,hol]
  have hnl2:(ni next a b o).length=o.length:=by rw [oz,hol]
  have hnx:=fun j (hj:j<o.length)=>KG next a b o j (by omega);obtain ⟨X,hX⟩:∃ X,X=pA next o:=⟨_,rfl⟩;rw [<- hX] at hev hxl hnx;obtain ⟨N,hN⟩:∃ N,N=ni next a b o:=⟨_,rfl⟩;rw [<- hN] at hs hnl2 hnx;rw [hs] at hst hmo
  repeat' first|refine ge (kf @hlt @hlt2) ?_|decide|refine sp ?_ ?_<;>intro _
  refine cd hev (.inr (aP _)) ?_
  repeat' first|refine go ?_|decide|refine sp ?_ ?_<;>intro _
  refine ae (fun st=>∃ j:Nat,j<=o.length /\ st=⟨71,[(0,iL next),(1,fI a),(2,fI b),(7,.osl 0),(8,eI (k:Int)),(9,.osl 1),(10,eB (Fl N o j)),(11,eI (j:Int))],[(0,some (.row 4 1 (dM (bW N o j)))),(1,some (.row 4 1 (dM X)))],2⟩) (fun st=>o.length - ap st 11) ⟨_,(wE (kf @gc (kf @Fl.eq_1 (kf @WN @List.all_nil.{0})))),0,Vd _,rfl⟩ ?_;rintro _ ⟨j,hj,rfl⟩;have hul:=gy hnl2 hj;by_cases hlt3:j<o.length
  .have d1:decide ((j:Int)<((bW N o j).length:Int))=true:=Vy (by omega);have d2:decide ((j:Int)<(X.length:Int))=true:=Vy (by omega);have d3:j<(bW N o j).length:=(by omega);have d4:j<X.length:=(by omega);have r1:=lq hnl2 hlt3;have r2:(dM X)[j]?.getD []=[eB (X.getD j false)]:=(by simp [List.getD,d4]);have hset:=jn hnl2 hlt3;have hsm:=AC N o j;have hIa:=qf a (j:Int) (by omega);have hIb:=qf b (j:Int) (by omega);rw [hnx j hlt3] at hset hsm;rw [gr] at hIa hIb;obtain ⟨v,hv⟩:∃ v,v=X.getD j false:=⟨_,rfl⟩;obtain ⟨u,hu⟩:∃ u,u=o.getD j false:=⟨_,rfl⟩;obtain ⟨x,hx1⟩:∃ x,x=a.getD j false:=⟨_,rfl⟩;obtain ⟨y,hy1⟩:∃ y,y=b.getD j false:=⟨_,rfl⟩;obtain ⟨s,hs1⟩:∃ s,s=Fl N o j:=⟨_,rfl⟩;rw [<- hv,<- hx1,<- hy1] at hset;rw [<- hs1,<- hv,<- hx1,<- hy1,<- hu] at hsm;rw [<- hv] at r2;rw [<- hu] at r1;rw [<- hx1] at hIa;rw [<- hy1] at hIb;rw [<- hs1];cases y<;>cases x<;>cases s<;>simp only [Bool.true_or,Xv,VX,VY] at hset hsm
   all_goals
    repeat' first|refine gf (kf d1 (kf d2 (kf d3 (kf d4 (kf r1 (kf r2 @hset)))))) ?_|decide|refine sp ?_ ?_<;>intro _|refine cA hIb ?_|refine cA hIa ?_|fail
    all_goals exact rI (wE (kf @hset @hsm)) ⟨j+1,by omega,rfl⟩
  .obtain rfl:j=o.length:=by omega
   have d1:decide ((o.length:Int)<((bW N o o.length).length:Int))=false:=Vv (by omega);have e1:bW N o o.length=N:=iu hnl2;have d2:¬ o.length<N.length:=(by omega);have hse:=Ie hnl2;rw [e1] at d1 ⊢
   cases hs1:Fl N o o.length with
   | true=>
    have hNo:=hse.1 hs1;by_cases h0:0<k
    .have d3:decide ((0:Int)<(k:Int))=true:=Vy (by omega);rw [<- hst hNo]
     repeat' first|refine gf (kf d1 (kf d2 (kf d3 h0))) ?_|decide|refine sp ?_ ?_<;>intro _
     all_goals exact aM (by simp [af.gc])
    .obtain rfl:k=0:=by omega
     have d3:decide ((0:Int)<((0:Nat):Int))=false:=rfl
     repeat' first|refine gf (kf d1 (kf d2 d3)) ?_|decide|refine sp ?_ ?_<;>intro _
     all_goals exact rI (wE hs) ⟨1,by omega,by omega,rfl⟩
   | false=>
    have hNo:=hmo fun h=>by rw [hse.2 h] at hs1;cases hs1
    repeat' first|refine gf (kf d1 d2) ?_|decide|refine sp ?_ ?_<;>intro _
    all_goals exact rI (wE hs) ⟨k+1,by omega,by rw [hs];omega,rfl⟩
 .obtain rfl:k=next.length+1:=by omega
  have hlt2:decide (((next.length+1:Nat):Int)<=(next.length:Int))=false:=Vv (by omega);have hlt3:¬ next.length+1<=next.length:=by omega
  rw [Nq next a b (next.length+1) (by omega)]
  repeat' first|refine ge (kf @hlt2 @hlt3) ?_|decide|refine sp ?_ ?_<;>intro _
  all_goals exact aM (by simp [af.gc])
theorem TY (next:List (List Int)) (a:List Bool) (hx:nc next) (ha:a.length<=1000000):aw Tryz.prog 59 [iL next,fI a] (g8 4 1 (dM (EA next a))):=by
 refine aa ag Tryz.func59 rfl (by decide) Tryz.ntmps59 Tryz.results59 rfl (ch _ _ _) ?_;have hnl:=hx.len;obtain ⟨G,hG⟩:∃ G,G=n7 next a 0:=⟨_,rfl⟩;have hFl:(List.replicate next.length false).length=next.length:=by simp
 obtain ⟨F,hFe⟩:∃ F,F=List.replicate next.length false:=⟨_,rfl⟩;have hF0:dM F=List.replicate next.length [eB false]:=by rw [hFe];simp
 rw [<- hFe] at hFl;have hGl:G.length=F.length:=by rw [hG,eQ,hFl]
 have hGa:∀ k,k<next.length -> G.getD k false=a.getD k false:=fun k h=>by
  rw [hG,Ws,me];exact ⟨fun h=>h.2,fun h2=>⟨h,h2⟩⟩
 repeat' first|refine go ?_|decide|refine sp ?_ ?_<;>intro _
 refine ⟨⟨by omega,by omega⟩,?_⟩;refine ae (fun st=>∃ k:Nat,k<=next.length /\ st=⟨77,[(0,iL next),(1,fI a),(5,.osl 0),(6,eI (k:Int))],[(0,some (.row 4 1 (dM (bW G F k))))],1⟩) (fun st=>next.length - ap st 6) ⟨_,(wE (kf @gc hF0)),0,Vd _,rfl⟩ ?_;rintro _ ⟨k,hk,rfl⟩;have hul:=gy hGl (j:=k) (by omega);by_cases hlt:k<next.length
 .have d1:decide ((k:Int)<((bW G F k).length:Int))=true:=Vy (by omega);have d3:k<(bW G F k).length:=by omega
  have r1:=lq hGl (j:=k) (by omega);have hset:=jn hGl (j:=k) (by omega);have hI:=qf a (k:Int) (by omega);rw [gr] at hI;rw [hGa k hlt] at hset
  repeat' first|refine gf (kf d1 (kf d3 (kf r1 @hset))) ?_|decide|refine sp ?_ ?_<;>intro _|refine cA hI ?_|fail
  all_goals exact rI (wE @hset) ⟨k+1,by omega,rfl⟩
 .obtain rfl:k=next.length:=by omega
  have e1:bW G F next.length=G:=by rw [<- hFl];exact iu hGl
  have d1:decide ((next.length:Int)<(G.length:Int))=false:=Vv (by omega);have d2:¬ next.length<G.length:=by omega
  rw [e1,hG];rw [hG] at d1 d2
  repeat' first|refine ge (kf d1 d2) ?_|decide|refine sp ?_ ?_<;>intro _
  refine ae (fun st=>∃ k:Nat,cnt (n7 next a k)+k<=next.length /\ st=⟨77,[(0,iL next),(1,fI a),(5,.osl 0),(7,eI (k:Int))],[(0,some (.row 4 1 (dM (n7 next a k))))],1⟩) (fun st=>next.length+1 - ap st 7) ⟨_,wC,0,by have:=ns (n7 next a 0);rw [eQ] at this;exact this,rfl⟩ ?_;rintro _ ⟨k,hkc,rfl⟩;have hol:(n7 next a k).length=next.length:=eQ ..;have hlt:k<=next.length:=by omega
  have hlt2:decide ((k:Int)<=(next.length:Int))=true:=Vy (by omega);have hs:n7 next a (k+1)=j6 next (n7 next a k):=rfl;have hst:=BX next a k;have hmo:=KA next a k;obtain ⟨o,ho⟩:∃ o,o=n7 next a k:=⟨_,rfl⟩;rw [<- ho] at hs hol hkc hst hmo ⊢;have hev:=KH next o hx (by omega);have hxl:(pA next o).length=o.length:=by simp [pA,hol]
  have hnl2:(j6 next o).length=o.length:=by rw [oi,hol]
  have hnx:=fun j (hj:j<o.length)=>LD next o j (by omega);obtain ⟨X,hX⟩:∃ X,X=pA next o:=⟨_,rfl⟩;rw [<- hX] at hev hxl hnx;obtain ⟨N,hN⟩:∃ N,N=j6 next o:=⟨_,rfl⟩;rw [<- hN] at hs hnl2 hnx;rw [hs] at hst hmo
  repeat' first|refine ge (kf @hlt @hlt2) ?_|decide|refine sp ?_ ?_<;>intro _
  refine cd hev (.inr (aP _)) ?_
  repeat' first|refine go ?_|decide|refine sp ?_ ?_<;>intro _
  refine ae (fun st=>∃ j:Nat,j<=o.length /\ st=⟨77,[(0,iL next),(1,fI a),(5,.osl 0),(7,eI (k:Int)),(8,.osl 1),(9,eB (Fl N o j)),(10,eI (j:Int))],[(0,some (.row 4 1 (dM (bW N o j)))),(1,some (.row 4 1 (dM X)))],2⟩) (fun st=>o.length - ap st 10) ⟨_,(wE (kf @gc (kf @Fl.eq_1 (kf @WN @List.all_nil.{0})))),0,Vd _,rfl⟩ ?_;rintro _ ⟨j,hj,rfl⟩;have hul:=gy hnl2 hj;by_cases hlt3:j<o.length
  .have d1:decide ((j:Int)<((bW N o j).length:Int))=true:=Vy (by omega);have d2:decide ((j:Int)<(X.length:Int))=true:=Vy (by omega);have d3:j<(bW N o j).length:=(by omega);have d4:j<X.length:=(by omega);have r1:=lq hnl2 hlt3;have r2:(dM X)[j]?.getD []=[eB (X.getD j false)]:=(by simp [List.getD,d4]);have hset:=jn hnl2 hlt3;have hsm:=AC N o j;rw [hnx j hlt3] at hset hsm;obtain ⟨v,hv⟩:∃ v,v=X.getD j false:=⟨_,rfl⟩;obtain ⟨u,hu⟩:∃ u,u=o.getD j false:=⟨_,rfl⟩;obtain ⟨s,hs1⟩:∃ s,s=Fl N o j:=⟨_,rfl⟩;rw [<- hv,<- hu] at hset;rw [<- hs1,<- hv,<- hu] at hsm;rw [<- hv] at r2;rw [<- hu] at r1;rw [<- hs1];cases u<;>cases v<;>cases s<;>simp only [VX,VY,beq_self_eq_true,Bool.and_self,Bool.and_true,Bool.and_false] at hset hsm
   all_goals
    repeat' first|refine gf (kf d1 (kf d2 (kf d3 (kf d4 (kf r1 (kf r2 @hset)))))) ?_|decide|refine sp ?_ ?_<;>intro _
    all_goals exact rI (wE (kf @hset @hsm)) ⟨j+1,by omega,rfl⟩
  .obtain rfl:j=o.length:=by omega
   have d1:decide ((o.length:Int)<((bW N o o.length).length:Int))=false:=Vv (by omega);have e1:bW N o o.length=N:=iu hnl2;have d2:¬ o.length<N.length:=(by omega);have hse:=Ie hnl2;rw [e1] at d1 ⊢
   cases hs1:Fl N o o.length with
   | true=>
    rw [<- hst (hse.1 hs1)]
    repeat' first|refine gf (kf d1 d2) ?_|decide|refine sp ?_ ?_<;>intro _
    all_goals exact aM (by simp [af.gc])
   | false=>
    have hNo:=hmo fun h=>by rw [hse.2 h] at hs1;cases hs1
    repeat' first|refine gf (kf d1 d2) ?_|decide|refine sp ?_ ?_<;>intro _
    all_goals exact rI (wE hs) ⟨k+1,by rw [hs];omega,rfl⟩
theorem vq (a:List Bool) (i:Int) (ha:a.length<=1000000000):aw Tryz.prog 93 [fI a,eI i] (val (.bool (rq a i))):=by
 refine aa ag Tryz.func93 rfl (by decide) Tryz.ntmps93 Tryz.results93 rfl (aI _) ?_;by_cases h0:0<=i
 .obtain ⟨q,rfl⟩:∃ q:Nat,i=(q:Int):=⟨i.toNat,by omega⟩;rw [gr];by_cases h1:q<a.length
  .obtain ⟨x,hx⟩:∃ x,x=a[q]:=⟨_,rfl⟩;have hrow:(a.map fun b=>[eB b])[q]?.getD []=[eB x]:=by rw [hx];simp [h1]
   have hg:a.getD q false=x:=by rw [hx];simp [List.getD,h1]
   rw [hg]
   repeat' first|refine ge (kf @hrow h1) ?_|decide|refine sp ?_ ?_<;>intro _
   all_goals first|rfl|(simp_all;done)
  .have hg:a.getD q false=false:=by rw [Vm,Vt (by omega)];rfl
   rw [hg]
   repeat' first|refine ge h1 ?_|decide|refine sp ?_ ?_<;>intro _
   all_goals first|rfl|(simp_all;done)
 .have hg:rq a i=false:=by simp [rq,h0]
  have d:decide (0<=i)=false:=by simpa using h0
  rw [hg]
  repeat' first|refine ge d ?_|decide|refine sp ?_ ?_<;>intro _
  all_goals first|rfl|(simp_all;done)
theorem JA (next:List (List Int)) (i:Int) (hl:next.length<=1000000000):aw Tryz.prog 94 [iL next,eI i] (val (.bool (decide (0<=i) && decide (i<(next.length:Int))))):=by
 refine aa ag Tryz.func94 rfl (by decide) Tryz.ntmps94 Tryz.results94 rfl (aI _) ?_;by_cases h0:0<=i
 .have d:decide (0<=i)=true:=Vy h0;rw [d,VX]
  repeat' first|refine ge d ?_|decide|refine sp ?_ ?_<;>intro _
  all_goals first|rfl|(simp_all;done)
 .have d:decide (0<=i)=false:=Vv h0;rw [d,VY]
  repeat' first|refine ge d ?_|decide|refine sp ?_ ?_<;>intro _
  all_goals first|rfl|(simp_all;done)
theorem UG (a:List Bool) (ha:a.length<=1000000):aw Tryz.prog 43 [fI a] (g8 4 1 (dM (a.map (!·)))):=by
 refine aa ag Tryz.func43 rfl (by decide) Tryz.ntmps43 Tryz.results43 rfl (ch _ _ _) ?_;obtain ⟨N,hN⟩:∃ N,N=a.map (!·):=⟨_,rfl⟩;have hF:(List.replicate a.length false).length=a.length:=by simp
 obtain ⟨F,hFe⟩:∃ F,F=List.replicate a.length false:=⟨_,rfl⟩;have hF0:dM F=List.replicate a.length [eB false]:=by rw [hFe];simp
 rw [<- hFe] at hF;have hNl:N.length=F.length:=by rw [hN,Vp,hF]
 have hg:∀ k (h:k<a.length),N.getD k false = !a[k]:=fun k h=>by rw [hN];simp [List.getD,h]
 rw [<- hN]
 repeat' first|refine go ?_|decide|refine sp ?_ ?_<;>intro _
 refine ⟨⟨by omega,by omega⟩,?_⟩;refine ae (fun st=>∃ k:Nat,k<=a.length /\ st=⟨23,[(3,.osl 0),(9,fI a),(10,eI (a.length:Int)),(11,eI (k:Int))],[(0,some (.row 4 1 (dM (bW N F k))))],1⟩) (fun st=>a.length - ap st 11) ⟨_,(wE (kf @gc hF0)),0,Vd _,rfl⟩ ?_;rintro _ ⟨k,hk,rfl⟩;have hul:=gy hNl (j:=k) (by omega);by_cases hlt:k<a.length
 .obtain ⟨x,hx⟩:∃ x,x=a[k]:=⟨_,rfl⟩;have hrow:(a.map fun b=>[eB b])[k]?.getD []=[eB x]:=by rw [hx];simp [hlt]
  have d3:k<(bW N F k).length:=by omega
  have r1:=lq hNl (j:=k) (by omega);have hset:=jn hNl (j:=k) (by omega);rw [hg k hlt,<- hx] at hset
  repeat' first|refine gf (kf @hrow (kf @hlt (kf d3 (kf r1 @hset)))) ?_|decide|refine sp ?_ ?_<;>intro _
  all_goals exact rI (wE @hset) ⟨k+1,by omega,rfl⟩
 .obtain rfl:k=a.length:=by omega
  have e1:bW N F a.length=N:=by rw [<- hF];exact iu hNl
  rw [e1]
  repeat' first|refine gf @hlt ?_|decide|refine sp ?_ ?_<;>intro _
  all_goals exact aM (by simp [af.gc])
end
section
theorem Ul (a b:List Bool) (ha:a.length<=1000000) (hb:b.length<=1000000):aw Tryz.prog 44 [fI a,fI b] (g8 4 1 (dM (ld a b))):=by
 refine aa ag Tryz.func44 rfl (by decide) Tryz.ntmps44 Tryz.results44 rfl (ch _ _ _) ?_;obtain ⟨M,hM⟩:∃ M:Nat,M=max a.length b.length:=⟨_,rfl⟩;have hMi:(if (b.length:Int) > (a.length:Int) then (b.length:Int) else (a.length:Int))=(M:Int):=by rw [hM];split<;>omega
 have hMj:max (a.length:Int) (b.length:Int)=(M:Int):=by rw [hM];omega
 obtain ⟨N,hN⟩:∃ N,N=ld a b:=⟨_,rfl⟩;have hF:(List.replicate M false).length=M:=by simp
 obtain ⟨F,hFe⟩:∃ F,F=List.replicate M false:=⟨_,rfl⟩;have hF0:dM F=List.replicate M [eB false]:=by rw [hFe];simp
 rw [<- hFe] at hF;have hNl:N.length=F.length:=by rw [hN,hF,hM];simp [ld]
 have hg:∀ k,N.getD k false=(a.getD k false && b.getD k false):=fun k=>by rw [hN,ia]
 rw [<- hN]
 repeat' first|refine ge (kf @hMi @hMj) ?_|decide|refine sp ?_ ?_<;>intro _
 refine ⟨⟨by omega,by omega⟩,?_⟩;refine ae (fun st=>∃ k:Nat,k<=M /\ st=⟨31,[(0,fI a),(1,fI b),(5,.osl 0),(14,eI (M:Int)),(15,eI (k:Int))],[(0,some (.row 4 1 (dM (bW N F k))))],1⟩) (fun st=>M - ap st 15) ⟨_,(wE (kf @gc hF0)),0,Vd _,rfl⟩ ?_;rintro _ ⟨k,hk,rfl⟩;have hul:=gy hNl (j:=k) (by omega);by_cases hlt:k<M
 .have d3:k<(bW N F k).length:=by omega
  have r1:=lq hNl (j:=k) (by omega);have hset:=jn hNl (j:=k) (by omega);have hIa:=vq a (k:Int) (by omega);have hIb:=vq b (k:Int) (by omega);rw [gr] at hIa hIb;rw [hg k] at hset;obtain ⟨x,hx1⟩:∃ x,x=a.getD k false:=⟨_,rfl⟩;obtain ⟨y,hy1⟩:∃ y,y=b.getD k false:=⟨_,rfl⟩;rw [<- hx1] at hIa hset;rw [<- hy1] at hIb hset;cases x<;>simp only [VX,VY] at hset
  all_goals
   repeat' first|refine gf (kf @hlt (kf d3 (kf r1 @hset))) ?_|decide|refine sp ?_ ?_<;>intro _|refine cA hIa ?_|refine cA hIb ?_|fail
   all_goals exact rI (wE @hset) ⟨k+1,by omega,rfl⟩
 .obtain rfl:k=M:=by omega
  have e1:bW N F k=N:=by rw [<- hF];exact iu hNl
  rw [e1]
  repeat' first|refine gf @hlt ?_|decide|refine sp ?_ ?_<;>intro _
  all_goals exact aM (by simp [af.gc])
theorem UP (next:List (List Int)) (a:List Bool) (hx:nc next) (ha:a.length<=1000000):aw Tryz.prog 45 [iL next,fI a] (g8 4 1 (dM (pA next a))):=by
 refine aa ag Tryz.func45 rfl (by decide) Tryz.ntmps45 Tryz.results45 rfl (ch _ _ _) ?_;have hnl:=hx.len;obtain ⟨N,hN⟩:∃ N,N=pA next a:=⟨_,rfl⟩;have hNl:N.length=(List.replicate next.length false).length:=by rw [hN];simp [pA]
 have hF:(List.replicate next.length false).length=next.length:=by simp
 obtain ⟨F,hFe⟩:∃ F,F=List.replicate next.length false:=⟨_,rfl⟩;have hF0:dM F=List.replicate next.length [eB false]:=by rw [hFe];simp
 rw [<- hFe] at hNl hF;have hg:∀ k (h:k<next.length),N.getD k false=iw next.length a next[k]:=fun k h=>by rw [hN,Em h]
 have hf:∀ k,k<next.length -> F.getD k false=false:=fun k h=>by rw [hFe,D3 h]
 rw [<- hN]
 repeat' first|refine go ?_|decide|refine sp ?_ ?_<;>intro _
 refine ⟨⟨by omega,by omega⟩,?_⟩;refine ae (fun st=>∃ k:Nat,k<=next.length /\ st=⟨46,[(0,iL next),(1,fI a),(5,.osl 0),(13,iL next),(14,eI (next.length:Int)),(15,eI (k:Int))],[(0,some (.row 4 1 (dM (bW N F k))))],1⟩) (fun st=>next.length - ap st 15) ⟨_,(wE (kf @gc hF0)),0,Vd _,rfl⟩ ?_;rintro _ ⟨k,hk,rfl⟩;by_cases hlt:k<next.length
 .obtain ⟨q,hq⟩:∃ q,q=next[k]:=⟨_,rfl⟩;have hrow:(n8 next)[k]?.getD []=[sI q]:=by rw [hq];simp [n8,hlt]
  have hql:q.length<=4000:=by rw [hq];exact hx.row _ (Vg hlt)
  have hul:(bW N F k).length=next.length:=by rw [gy hNl (by omega)];exact hF
  have hs0:(bW N F k).set k (iw next.length a (q.take 0))=bW N F k:=Am (by rw [zC hNl (by omega),hf k hlt];rfl);have hs1:(bW N F k).set k (iw next.length a (q.take q.length))=bW N F (k+1):=wm hNl (by omega) (by rw [hg k hlt,Vq,hq]);obtain ⟨X,hX⟩:∃ X,X=bW N F k:=⟨_,rfl⟩;rw [<- hX] at hul hs0 hs1 ⊢
  repeat' first|refine ge (kf @hrow @hlt) ?_|decide|refine sp ?_ ?_<;>intro _
  refine ae (fun st=>∃ j:Nat,j<=q.length /\ st=⟨46,[(0,iL next),(1,fI a),(5,.osl 0),(13,iL next),(14,eI (next.length:Int)),(15,eI (k:Int)),(6,eI (k:Int)),(20,sI q),(21,eI (q.length:Int)),(22,eI (j:Int))],[(0,some (.row 4 1 (dM (X.set k (iw next.length a (q.take j))))))],1⟩) (fun st=>q.length - ap st 22) ⟨_,(wE hs0),0,Vd _,rfl⟩ ?_;rintro _ ⟨j,hj,rfl⟩;by_cases hlt2:j<q.length
  .obtain ⟨x,hx2⟩:∃ x,x=q[j]:=⟨_,rfl⟩;have hrj:(q.map fun n=>[eI n])[j]?.getD []=[eI x]:=by rw [hx2];simp [hlt2]
   have ea:=tA (n:=next.length) (a:=a) hlt2;rw [<- hx2] at ea;have hI:=vq a x (by omega);have hP:=JA next x (by omega);obtain ⟨v,hv⟩:∃ v,v=iw next.length a (q.take j):=⟨_,rfl⟩;have hkx:k<(X.set k v).length:=by rw [We];omega
   have hcg:=yV v (show k<X.length by omega);have hct:=ub X k v true;have hcf:=ub X k v false
   have hpa:(decide (x<(next.length:Int)) && rq a x)=((decide (0<=x) && decide (x<(next.length:Int))) && rq a x):=by
    by_cases h0:0<=x
    .simp [h0]
    .simp [h0,rq]
   rw [hpa] at ea;obtain ⟨p,hp⟩:∃ p,p=(decide (0<=x) && decide (x<(next.length:Int))):=⟨_,rfl⟩;obtain ⟨y,hy⟩:∃ y,y=rq a x:=⟨_,rfl⟩;rw [<- hv,<- hp,<- hy] at ea;rw [<- hp] at hP;rw [<- hy] at hI;rw [<- hv];cases v<;>cases p<;>cases y<;>simp only [Bool.true_or,Xv,VX,VY] at ea
   all_goals
    repeat' first|refine gf (kf @hrow (kf @hlt (kf @hrj (kf @hlt2 (kf @hkx (kf @hcg (kf @hct @hcf))))))) ?_|decide|refine sp ?_ ?_<;>intro _|refine cA hP ?_|refine cA hI ?_|fail
    all_goals exact rI (wE (kf ea (kf @hct @hcf))) ⟨j+1,by omega,rfl⟩
  .obtain rfl:j=q.length:=by omega
   rw [hs1]
   repeat' first|refine gf (kf @hrow (kf @hlt @hlt2)) ?_|decide|refine sp ?_ ?_<;>intro _
   all_goals exact rI wC ⟨k+1,by omega,rfl⟩
 .obtain rfl:k=next.length:=by omega
  have e1:bW N F next.length=N:=by rw [<- hF];exact iu hNl
  rw [e1]
  repeat' first|refine gf @hlt ?_|decide|refine sp ?_ ?_<;>intro _
  all_goals exact aM (by simp [af.gc])
end
section
def RR (w:World) (v:Value) (l:List (List Int)):Prop:=(aJ (aJ (fl .i64))).one w (fun b=>b<w.heap.size) v l
theorem RR.below {w w':World} {v:Value} {l:List (List Int)} (h:RR w v l) (hb:Below w.heap.size w w'):RR w' v l:=gQ (fo h hb fun b h=>h) fun b h=>Vn h hb.size
theorem RR.form {w:World} {v:Value} {l:List (List Int)} (h:RR w v l):∃ A c,v=.slice A l.length c /\ l.length<=c:=by
 obtain ⟨A,c,h1,h2,_⟩:=dk h;exact ⟨A,c,h1,h2⟩
theorem RR.at_ {w:World} {A:Option Addr} {n c:Nat} {l:List (List Int)} (h:RR w (.slice A n c) l) {k:Nat} (hk:k<l.length) :
  ∃ b o A' c',A=some ⟨b,o,none⟩ /\ w.cell? ⟨b,o+k,none⟩=some (.slice A' (l.getD k []).length c') /\ (l.getD k []).length<=c' /\ c'<=9223372036854775807 /\ RI w (.slice A' (l.getD k []).length c') (l.getD k []):=by
 obtain ⟨b,o,rfl,hb,_⟩:=dJ h (by omega);have:=Nb h hk;rw [List.getD,p0 hk];obtain ⟨A',c',h1,h2,h3,h4⟩:=this;exact ⟨b,o,A',c',rfl,h1,h2,h3,h4⟩
theorem Pc:(Tryz.prog.info? 87).map (fun i=>(i.zero,i.size,i.bytes))=some (some (.slice none 0 0),1,24):=by kernel_rfl
theorem sq (next:List (List Int)) (v:Value) (i:Int) (w:World) (hl:next.length<=9223372036854775807) (hv:RR w v next) :
  Calls Tryz.prog 94 #[v,.int .i64 i] w fun e w'=>e=.returned (.bool (decide (0<=i /\ i<(next.length:Int)))) /\ w=w':=by
 obtain ⟨A,c,rfl,hc⟩:=hv.form;by_cases h0:0<=i
 .by_cases h1:i<(next.length:Int)
  .rw [Vy (show 0<=i /\ i<(next.length:Int) from ⟨h0,h1⟩)]
   go_enter Tryz.func94,Tryz.ntmps94
   go_wp2_with fail
   go_ret
   exact ⟨by simp_all,rfl⟩
  .rw [Vv (show ¬ (0<=i /\ i<(next.length:Int)) from fun h=>h1 h.2)]
   go_enter Tryz.func94,Tryz.ntmps94
   go_wp2_with fail
   go_ret
   exact ⟨by simp_all,rfl⟩
 .rw [Vv (show ¬ (0<=i /\ i<(next.length:Int)) from fun h=>h0 h.1)]
  go_enter Tryz.func94,Tryz.ntmps94
  go_wp2_with fail
  go_ret
  exact ⟨by simp_all,rfl⟩
end
section
theorem cN (l:List Bool) (k:Nat) (x:Bool) (h:k<l.length) (j:Nat):(l.set k x).getD j false=if j=k then x else l.getD j false:=by
 simp only [List.getD,WJ];by_cases e:j=k
 .subst e;simp [h]
 .rw [Vj (fun h=>e h.symm),Vj e]
theorem Bo (n j:Nat):(List.replicate n false).getD j false=false:=by
 rw [List.getD,Wz];split<;>rfl
end
section
end
section
end
section
end
end
section
section
def ju (w:World) (g:Nat) (rows:List (List Int)):Prop:=∃ f:Nat -> Value,w.rowIs g 87 rows.length f /\
 (∀ j,j<rows.length -> w.ownsRow (g+1) 3 1 (f j) (rows.getD j []).length ((rows.getD j []).map (Value.int .i64))) /\
 (∀ i j b,i<rows.length -> j<rows.length -> i ≠ j -> (f i).ownBlock=some b -> (f j).ownBlock ≠ some b)
theorem ju.made (w:World) (n:Nat):ju (w.alloc (.cells (madeCells #[.slice none 0 0] n) 87)) w.heap.size (List.replicate n []):=by
 refine ⟨fun _=>.slice none 0 0,?_,fun j hj=>?_,fun i j b _ _ _ h=>by simp [Value.ownBlock] at h⟩
 .rw [List.length_replicate];exact World.rowIs_made _ _ _ _
 .have:(List.replicate n ([]:List Int)).getD j []=[]:=by rw [List.getD,Wz];split<;>rfl
  rw [this];exact World.ownsRow_nil _ _ _ _
theorem Gy {w w':World} {base e size n:Nat} {v:Value} {xs:List Value} (h:w.ownsRow base e size v n xs) (hk:∀ b,v.ownBlock=some b -> w'.heap[b]? = w.heap[b]?):w'.ownsRow base e size v n xs:=by
 refine ⟨h.1,?_⟩;rcases h.2 with hn|⟨g,cap,cur,rfl,hbg,hg,rest⟩
 .exact .inl hn
 .exact .inr ⟨g,cap,cur,rfl,hbg,(hk g (by simp [Value.ownBlock])).trans hg,rest⟩
theorem sT (rows:List (List Int)) (k:Nat) (x:List Int) (h:k<rows.length) (j:Nat):(rows.set k x).getD j []=if j=k then x else rows.getD j []:=by
 simp only [List.getD,WJ];by_cases e:j=k
 .subst e;simp [h]
 .rw [Vj (fun h=>e h.symm),Vj e]
theorem ju.push {w w2:World} {g k:Nat} {rows:List (List Int)} {x:Int} {v v2:Value} {f:Nat -> Value} {o:Obj} (h1:w.rowIs g 87 rows.length f)
  (h2:∀ j,j<rows.length -> w.ownsRow (g+1) 3 1 (f j) (rows.getD j []).length ((rows.getD j []).map (Value.int .i64)))
  (h3:∀ i j b,i<rows.length -> j<rows.length -> i ≠ j -> (f i).ownBlock=some b -> (f j).ownBlock ≠ some b)
  (hk:k<rows.length) (hv:f k=v) (hown:w2.ownsRow (g+1) 3 1 v2 ((rows.getD k []).length+1) ((rows.getD k []).map (Value.int .i64) ++ [Value.int .i64 x]))
  (hg:(w.alloc o).grownBy w2 v.ownBlock) (hat:v2.ownBlock=v.ownBlock \/ v2.ownBlock=some (w.alloc o).heap.size) :
  ju (w2.setCell ⟨g,k,none⟩ v2) g (rows.set k (rows.getD k [] ++ [x])):=by
 subst hv;have hgw:=h1.lt;have hne:=Ch (h2 k hk) (g:=g) (by omega);have hkeep:∀ b,b<w.heap.size -> some b ≠ (f k).ownBlock -> w2.heap[b]? = w.heap[b]?:=fun b hb hb2=>(hg.block b (by simp;omega) hb2).trans (Below.heap_alloc w o b hb);have h1':=(h1.of_block (hkeep g hgw hne)).set k v2;refine ⟨_,by rw [We];exact h1',fun j hj=>?_,fun i j b hi hj hij=>?_⟩
 .rw [We] at hj;rw [sT _ _ _ hk];by_cases e:j=k
  .rw [Vo e,Vo e,Vk,VI];exact r6 hown (by simp) _
  .rw [Vj e,Vj e];refine r6 (Gy (h2 j hj) fun b hb=>hkeep b ((h2 j hj).lt b hb).2 fun hb2=>?_) (by simp) _;exact h3 j k b hj hk e hb hb2.symm
 .rw [We] at hi hj
  have hfresh:∀ j,j<rows.length -> j ≠ k -> ∀ b,(f j).ownBlock=some b -> v2.ownBlock ≠ some b:=by
   intro j hj hjk b hb hb2;rcases hat with h|h
   .exact h3 j k b hj hk hjk hb (h ▸ hb2)
   .rw [h] at hb2;have:=((h2 j hj).lt b hb).2;simp at hb2;omega
  intro h;split at h
  .rw [Vj (by omega)];exact fun hb=>hfresh j hj (by omega) b hb h
  .rename_i hik;split
   .exact hfresh i hi hik b h
   .exact h3 i j b hi hj hij h
theorem ju.read {w:World} {g:Nat} {rows:List (List Int)} (h:ju w g rows) (hx:∀ r ∈ rows,∀ x ∈ r,-9223372036854775808<=x /\ x<=9223372036854775807) (hl:rows.length<=9223372036854775807) :
  (aJ (aJ (fl .i64))).one w (fun b=>g<=b /\ b<w.heap.size) (.slice (some ⟨g,0,none⟩) rows.length rows.length) rows:=by
 obtain ⟨f,h1,h2,h3⟩:=h;refine ⟨_,_,rfl,Vh _,hl,fun h0=>⟨g,0,rfl,⟨Vh _,h1.lt⟩,fun i hi=>⟨[f i],fun j u hu=>?_,?_⟩⟩⟩
 .cases j with
  | succ j=>simp at hu
  | zero=>
   simp only [WR,Xc] at hu;subst hu;have:(aJ (fl .i64)).size=1:=rfl;rw [this];simpa using h1.cell hi
 .have:=h2 i hi;rw [List.getD,p0 hi] at this
  have h4:=B4 (r:=fl .i64) (Value.int .i64) this rfl (fun a ha=>⟨rfl,by
   have:=hx _ (Vg hi) a ha;exact vk this.1 this.2⟩)
  exact gQ h4 fun b hb=>⟨by omega,hb.2⟩
theorem gn (l:List Int) (m:Nat) (h:m<l.length):l.getD m 0=l[m]:=by rw [List.getD,p0 h];rfl
structure cY (next:List (List Int)) (i m:Nat) (rows:List (List Int)):Prop where
 len:rows.length=next.length
 count:∀ k,k<next.length -> ∀ x:Nat,((rows.getD k []).count (x:Int))=if x<i then (next.getD x []).count (k:Int) else if x=i then ((next.getD i []).take m).count (k:Int) else 0
 only:∀ r ∈ rows,∀ y ∈ r,∃ x:Nat,y=(x:Int) /\ x<next.length
 small:∀ k,(rows.getD k []).length<=4000 * i+m
theorem cY.start (next:List (List Int)):cY next 0 0 (List.replicate next.length []):=by
 have e:∀ k,(List.replicate next.length ([]:List Int)).getD k []=[]:=fun k=>by rw [List.getD,Wz];split<;>rfl
 refine ⟨by simp,fun k hk x=>?_,fun r hr y hy=>?_,fun k=>by rw [e];simp⟩
 .rw [e];simp
 .rw [List.mem_replicate] at hr;rw [hr.2] at hy;simp at hy
theorem cY.skip {next:List (List Int)} {i m:Nat} {rows:List (List Int)} (h:cY next i m rows) (hm:m<(next.getD i []).length) (hy:¬ (0<=(next.getD i []).getD m 0 /\ (next.getD i []).getD m 0<(next.length:Int))):cY next i (m+1) rows:=by
 refine ⟨h.len,fun k hk x=>?_,h.only,fun k=>by have:=h.small k;omega⟩;rw [h.count k hk x];split
 .rfl
 .split
  .have:((next.getD i []))[m] ≠ (k:Int):=by
    intro e;rw [gn _ _ hm,e] at hy;omega
   rw [Vi hm,List.count_append,Xu,VP.2 this];rfl
  .rfl
theorem cY.push {next:List (List Int)} {i m:Nat} {rows:List (List Int)} (h:cY next i m rows) (hi:i<next.length) (hm:m<(next.getD i []).length) (q:Nat) (hq:(next.getD i []).getD m 0=(q:Int)) (hql:q<next.length) :
  cY next i (m+1) (rows.set q (rows.getD q [] ++ [(i:Int)])):=by
 have hq':((next.getD i []))[m]=(q:Int):=by rw [<- hq,gn _ _ hm]
 have hqr:q<rows.length:=by rw [h.len];exact hql
 refine ⟨by rw [We,h.len],fun k hk x=>?_,fun r hr y hy=>?_,fun k=>?_⟩
 .rw [sT _ _ _ hqr];have hc:=h.count k hk x;by_cases e:k=q
  .subst e;rw [Vo rfl,List.count_append,hc,Xu];by_cases ex:x=i
   .subst ex;simp only [Nat.lt_irrefl,if_false,if_true,↓reduceIte,beq_self_eq_true];rw [Vi hm,List.count_append,Xu,hq'];simp
   .have:((i:Int) == (x:Int))=false:=by simp;omega
    rw [this,Vj ex];simp [ex]
  .rw [Vj e,hc];by_cases ex:x=i
   .subst ex;simp only [Nat.lt_irrefl,if_false,if_true,↓reduceIte];rw [Vi hm,List.count_append,Xu,hq'];have:((q:Int) == (k:Int))=false:=by simp;omega
    rw [this];simp
   .rw [Vj ex,Vj ex]
 .rcases Wk hr with h1 | h1
  .exact h.only r h1 y hy
  .subst h1;rcases Vs.1 hy with h2|h2
   .have:rows.getD q [] ∈ rows:=by rw [List.getD,p0 hqr];exact Vg hqr
    exact h.only _ this y h2
   .simp at h2;exact ⟨i,h2,hi⟩
 .rw [sT _ _ _ hqr];split
  .rename_i e;subst e;have:=h.small k;rw [Vk,Vz];omega
  .have:=h.small k;omega
theorem cY.row {next:List (List Int)} {i:Nat} {rows:List (List Int)} (h:cY next i (next.getD i []).length rows) (hr:(next.getD i []).length<=4000):cY next (i+1) 0 rows:=by
 refine ⟨h.len,fun k hk x=>?_,h.only,fun k=>by have:=h.small k;omega⟩;rw [h.count k hk x];by_cases ex:x=i
 .subst ex;rw [Vj (by omega),Vo rfl,Vo (by omega),Vq]
 .by_cases h2:x<i
  .rw [Vo h2,Vo (by omega)]
  .rw [Vj h2,Vj ex,Vj (by omega)];simp
theorem Mh (next:List (List Int)) (vn:Value) (w:World) (hl:next.length<=200) (hr:∀ r ∈ next,r.length<=4000) (hn:RR w vn next) :
  Calls Tryz.prog 95 #[vn] w fun e w'=>e=.returned (.slice (some ⟨w.heap.size,0,none⟩) next.length next.length) /\ ∃ rows,cY next next.length 0 rows /\ ju w' w.heap.size rows /\ Below w.heap.size w w':=by
 obtain ⟨A,c,rfl,hc⟩:=hn.form;have hmk:=run_make_row' (P:=Tryz.prog) 78 87 (.slice none 0 0) 24 Tryz.underlying78 Pc rfl .i64 .i64 next.length (by omega) (by omega);obtain ⟨i0,hi0,hz0,hz1,hz2⟩:=info_parts O4;have Hr:=aE hr;clear hr
 go_enter Tryz.func95,Tryz.ntmps95
 go_wp2_with fail
 have ho:=ju.made w next.length;have hb0:=(Below.refl w.heap.size w).alloc (Vh _) (.cells (madeCells #[.slice none 0 0] next.length) 87);clear hmk
 go_loopw [13] (fun i wr=>∃ (k:Nat) (L:List (List Int)),k<=next.length /\ i=.int .i64 (k:Int) /\ cY next k 0 L /\ ju wr w.heap.size L /\ Below w.heap.size w wr) (fun i wr=>next.length - (intOf i).toNat)
 case atStart=>exact ⟨0,_,Vd _,rfl,cY.start next,ho,hb0⟩
 case round=>
  clear ho hb0;obtain ⟨k,L,hk,rfl,hL,ho,hb⟩:=hrel;by_cases hlt:k<next.length
  .obtain ⟨b,o,A',c',rfl,hcell0,hc1,hc2,hri⟩:=hn.at_ hlt;have hcell:=(hb.cell (World.block_lt_of_cell? w _ hcell0)).trans hcell0
   have hrow:(next.getD k []).length<=4000:=by
    rw [List.getD,p0 hlt];exact Hr.out _ (Vg hlt)
   obtain ⟨row,hrw⟩:∃ row,row=next.getD k []:=⟨_,rfl⟩;rw [<- hrw] at hcell hc1 hri hrow;have Hrw:=aE hrw;have HL0:=aE hL;have Hb:=aE hb;have Ho:=aE ho;clear hrw hcell0 hL hb ho
   go_wp2_with fail
   go_loopw [20] (fun i wx=>∃ (m:Nat) (L:List (List Int)),m<=row.length /\ i=.int .i64 (m:Int) /\ cY next k m L /\ ju wx w.heap.size L /\ Below w.heap.size w wx) (fun i wx=>row.length - (intOf i).toNat)
   case atStart=>exact ⟨0,L,Vd _,rfl,HL0.out,Ho.out,Hb.out⟩
   case round=>
    clear hcell HL0 Hb Ho;obtain ⟨m,L,hm,rfl,hL,ho,hb⟩:=hrel;by_cases hmlt:m<row.length
    .obtain ⟨b2,o2,rfl,hcell2,hy1,hy2⟩:=(hri.below hb).at_ hmlt;have hpl:=sq next _ (row.getD m 0) wr (by omega) (hn.below hb);by_cases hp:0<=row.getD m 0 /\ row.getD m 0<(next.length:Int)
     .obtain ⟨q,hq⟩:=XC hp.1;have hql:q<next.length:=(by omega);have hpp:decide (0<=row.getD m 0 /\ row.getD m 0<(next.length:Int))=true:=Vy hp;rw [hpp] at hpl;rw [hq] at hpl hcell2;have hst:=hL.push hlt (by rw [<- Hrw.out];exact hmlt) q (by rw [<- Hrw.out];exact hq) hql;have hlen:=hL.len;have hsm:=hL.small q;have Hpl:=aE hpl;clear hpl hpp hp hq hL;obtain ⟨f,r1,r2,r3⟩:=ho;obtain ⟨ql,hqq⟩:∃ ql,ql=L.getD q []:=⟨_,rfl⟩;have hown:=r2 q (by omega);rw [<- hqq] at hown hsm;have c1:=r1.cell (i:=q) (by omega);have f1:=r1.frozen q;have hgl:=r1.lt;obtain ⟨v,hv⟩:∃ v,f q=v:=⟨_,rfl⟩;rw [hv] at c1 hown;obtain ⟨A1,cp1,rfl,hcp1⟩:=io hown;have R1:=aE r1;have R2:=aE r2;have R3:=aE r3;have Hqq:=aE hqq;have Hv:=aE hv;have Hst:=aE hst;have Hlen:=aE hlen;clear r1 r2 r3 hqq hv hst hlen
      go_wp2_with (first
       | (go_at_call 94;refine Hpl.out.mono ?_;rintro e w2 ⟨rfl,rfl⟩)
       | (at_builtin;refine wpList_append_own_at _ rfl (.tmp 32) (.tmp 34) 87 rfl (w.heap.size+1) 3 i0 _ 1 8 Tryz.underlying87 hi0 hz0 hz1 hz2 rfl (by omega) _ ql.length _ rfl (hown.alloc _) ⟨wr.heap.size,0,none⟩ 1 1 [.int .i64 (k:Int)] rfl rfl (O7 _ _ _) (NL _) (by unfold maxLen;omega) (by omega) (by simp;omega) ?_;intro v2 w2 hown2 hg2 _ hat;obtain ⟨A2,c2,rfl,_⟩:=io hown2;have hb2:=(hb.alloc (by omega) (.cells #[.int .i64 (k:Int)] 3)).grown hg2 (by simp;omega) (fun j hj=>by have:=(World.ownsRow.lt hown j hj).1;omega);have hne:=Ch hown (g:=w.heap.size) (by omega);have hbk:w2.heap[w.heap.size]? = wr.heap[w.heap.size]?:=(hg2.block _ (by simp;omega) hne).trans (Below.heap_alloc wr _ _ hgl);have hcx:=(World.cell?_of_block (a:=⟨w.heap.size,q,none⟩) hbk).trans c1;have hfx:=(World.frozen?_of_block (a:=⟨w.heap.size,q,none⟩) hbk).trans f1))
      go_roundw
      case rel=>
       refine ⟨m+1,_,by omega,by go_num,Hst.out,?_,hb2.setCell (Vh _) _⟩;exact ju.push (o:=.cells #[.int .i64 (k:Int)] 3) R1.out R2.out R3.out (by rw [Hlen.out];exact hql) Hv.out (by rw [<- Hqq.out];exact hown2) hg2 hat
      case measure=>simp [intOf];omega
     .have hpp:decide (0<=row.getD m 0 /\ row.getD m 0<(next.length:Int))=false:=Vv hp;rw [hpp] at hpl;have hst:=hL.skip (by rw [<- Hrw.out];exact hmlt) (by rw [<- Hrw.out];exact hp);have Hpl:=aE hpl;have Hst:=aE hst;clear hpl hpp hp hst hL;generalize row.getD m 0=y at *
      go_wp2_with (go_at_call 94;refine Hpl.out.mono ?_;rintro e w2 ⟨rfl,rfl⟩)
      go_roundw
      case rel=>exact ⟨m+1,L,by omega,by go_num,Hst.out,ho,hb⟩
      case measure=>simp [intOf];omega
    .obtain rfl:m=row.length:=by omega
     rw [Hrw.out] at hL;have hL2:=hL.row (by rw [<- Hrw.out];exact hrow);have HL2:=aE hL2;clear hL hL2
     go_wp2_with fail
     go_roundw
     case rel=>exact ⟨k+1,L,by omega,by go_num,HL2.out,ho,hb⟩
     case measure=>simp [intOf];omega
  .obtain rfl:k=next.length:=by omega
   have HL:=aE hL;clear hL
   go_wp2_with fail
   go_ret
   exact ⟨rfl,L,HL.out,ho,hb⟩
end
section
theorem yx {L:List Bool} {i:Nat} (h:L.getD i false=true):i<L.length:=by
 rcases Vw i L.length with h1|h1
 .exact h1
 .rw [List.getD,Vt h1] at h;simp at h
theorem r4:∀ (L:List Bool) (i:Nat),i<L.length -> L.getD i false=false -> cnt (L.set i true)=cnt L+1
 | [],i,h,_=>by simp at h
 | x :: L,0,_,h=>by
  have:x=false:=by simpa using h
  subst this;simp [cnt]
 | x :: L,i+1,h,h2=>by
  have:=r4 L i (by simpa using h) (by simpa using h2);unfold cnt at this ⊢;cases x<;>simp_all
theorem qr:∀ (L:List Bool) (i:Nat),i<L.length -> L.getD i false=true -> cnt (L.set i false)+1=cnt L
 | [],i,h,_=>by simp at h
 | x :: L,0,_,h=>by
  have:x=true:=by simpa using h
  subst this;simp [cnt]
 | x :: L,i+1,h,h2=>by
  have:=qr L i (by simpa using h) (by simpa using h2);unfold cnt at this ⊢;cases x<;>simp_all
theorem zw {next rows:List (List Int)} (h:cY next next.length 0 rows) {k:Nat} (hk:k<next.length) (i:Nat):(i:Int) ∈ rows.getD k [] ↔ i<next.length /\ n4 next i k:=by
 rw [<- XJ,h.count k hk i];unfold n4;constructor
 .intro h;split at h
  .rename_i hi;exact ⟨hi,XJ.1 h,hk⟩
  .split at h
   .simp at h
   .simp at h
 .rintro ⟨hi,h2,_⟩;rw [Vo hi];exact XJ.2 h2
theorem ye {next rows:List (List Int)} (h:cY next next.length 0 rows) {k m:Nat} (hk:k<next.length) (hm:m<(rows.getD k []).length):∃ i:Nat,(rows.getD k []).getD m 0=(i:Int) /\ i<next.length /\ n4 next i k:=by
 have hmem:(rows.getD k []).getD m 0 ∈ rows.getD k []:=by rw [gn _ _ hm];exact Vg hm
 have hr:rows.getD k [] ∈ rows:=by
  have:k<rows.length:=by rw [h.len];exact hk
  rw [List.getD,p0 this];exact Vg this
 obtain ⟨i,hi,hin⟩:=h.only _ hr _ hmem;rw [hi] at hmem;exact ⟨i,hi,(zw h hk i).1 hmem⟩
structure WU (next:List (List Int)) (a b:List Bool) (ex:Nat -> Nat -> Prop) (L:List Bool) (F:List Int):Prop where
 len:L.length=next.length
 sound:∀ i,L.getD i false=true -> DW next a b i
 base:∀ i,i<next.length -> b.getD i false=true -> L.getD i false=true
 inW:∀ x ∈ F,∃ j:Nat,x=(j:Int) /\ L.getD j false=true
 closed:∀ k,L.getD k false=true -> (k:Int) ∈ F \/ ∀ i,i<next.length -> n4 next i k -> a.getD i false=true -> L.getD i false=true \/ ex i k
 small:F.length<=cnt L
def EP:Nat -> Nat -> Prop:=fun _ _=>False
def sk (row:List Int) (k0 m:Nat):Nat -> Nat -> Prop:=fun i k=>k=k0 /\ (i:Int) ∈ row.drop m
section
variable {next:List (List Int)} {a b:List Bool} {L:List Bool} {F:List Int} {rows:List (List Int)}
theorem WU.pop {W:List Int} {x:Int} (h:WU next a b EP L (W ++ [x])) (hB:cY next next.length 0 rows):∃ k0:Nat,x=(k0:Int) /\ k0<next.length /\ L.getD k0 false=true /\ WU next a b (sk (rows.getD k0 []) k0 0) L W:=by
 obtain ⟨k0,rfl,hk0⟩:=h.inW x (by simp);have hkn:k0<next.length:=by rw [<- h.len];exact yx hk0
 refine ⟨k0,rfl,hkn,hk0,h.len,h.sound,h.base,fun y hy=>h.inW y (by simp [hy]),fun k hk=>?_,by have:=h.small;simp at this;omega⟩;rcases h.closed k hk with h1|h1
 .rcases Vs.1 h1 with h2 | h2
  .exact .inl h2
  .have:k=k0:=by simp at h2;omega
   subst this;exact .inr fun i hi he ha=>.inr ⟨rfl,by rw [Xy];exact (zw hB hkn i).2 ⟨hi,he⟩⟩
 .exact .inr fun i hi he ha=>(h1 i hi he ha).elim .inl (fun h=>h.elim)
theorem Bk {row:List Int} {m:Nat} (hm:m<row.length) {x:Int} (h:x ∈ row.drop m):x=row.getD m 0 \/ x ∈ row.drop (m+1):=by
 rw [WG hm] at h;rw [gn _ _ hm];exact Wf.1 h
theorem WU.skip {row:List Int} {k0 m i:Nat} (h:WU next a b (sk row k0 m) L F) (hm:m<row.length) (hi:row.getD m 0=(i:Int)) (hs:L.getD i false=true \/ a.getD i false=false):WU next a b (sk row k0 (m+1)) L F:=by
 refine ⟨h.len,h.sound,h.base,h.inW,fun k hk=>?_,h.small⟩;rcases h.closed k hk with h1|h1
 .exact .inl h1
 .refine .inr fun j hj he ha=>?_;rcases h1 j hj he ha with h2|⟨h2,h3⟩
  .exact .inl h2
  .rcases Bk hm h3 with h4 | h4
   .rw [hi] at h4;have:j=i:=by omega
    subst this;rcases hs with h5|h5
    .exact .inl h5
    .rw [h5] at ha;simp at ha
   .exact .inr ⟨h2,h4⟩
theorem WU.push {row:List Int} {k0 m i:Nat} (h:WU next a b (sk row k0 m) L F) (hm:m<row.length) (hi:row.getD m 0=(i:Int)) (hin:i<next.length) (he:n4 next i k0) (hk0:L.getD k0 false=true) (hL:L.getD i false=false) (ha:a.getD i false=true) :
  WU next a b (sk row k0 (m+1)) (L.set i true) (F ++ [(i:Int)]):=by
 have hil:i<L.length:=by rw [h.len];exact hin
 have hset:∀ j,L.getD j false=true -> (L.set i true).getD j false=true:=fun j hj=>by rw [cN _ _ _ hil];split;rfl;exact hj
 refine ⟨by rw [We,h.len],fun j hj=>?_,fun j hj hb=>hset j (h.base j hj hb),fun x hx=>?_,fun k hk=>?_,by rw [r4 _ _ hil hL];have:=h.small;simp;omega⟩
 .rw [cN _ _ _ hil] at hj;split at hj
  .rename_i e;subst e;exact .step _ _ hin ha he (h.sound _ hk0)
  .exact h.sound j hj
 .rcases Vs.1 hx with h1 | h1
  .obtain ⟨j,h2,h3⟩:=h.inW x h1;exact ⟨j,h2,hset j h3⟩
  .simp at h1;exact ⟨i,h1,by rw [cN _ _ _ hil,Vo rfl]⟩
 .rw [cN _ _ _ hil] at hk;split at hk
  .rename_i e;subst e;exact .inl (by simp)
  .rcases h.closed k hk with h1 | h1
   .exact .inl (by simp [h1])
   .refine .inr fun j hj he2 ha2=>?_;rcases h1 j hj he2 ha2 with h2|⟨h2,h3⟩
    .exact .inl (hset j h2)
    .rcases Bk hm h3 with h4 | h4
     .rw [hi] at h4;have:j=i:=by omega
      subst this;exact .inl (by rw [cN _ _ _ hil,Vo rfl])
     .exact .inr ⟨h2,h4⟩
theorem WU.close {row:List Int} {k0 m:Nat} (h:WU next a b (sk row k0 m) L F) (hm:row.length<=m):WU next a b EP L F:=by
 refine ⟨h.len,h.sound,h.base,h.inW,fun k hk=>?_,h.small⟩;rcases h.closed k hk with h1|h1
 .exact .inl h1
 .refine .inr fun j hj he ha=>?_;rcases h1 j hj he ha with h2|⟨h2,h3⟩
  .exact .inl h2
  .rw [List.drop_eq_nil_of_le hm] at h3;simp at h3
theorem WU.done (h:WU next a b EP L []):L=ux next a b:=by
 refine iy (by rw [h.len,cF]) fun i _=>?_;rw [un];refine ⟨h.sound i,u9 next a b L (fun i hi hh=>?_) i⟩;rcases hh with h1|⟨h1,k,h2,h3⟩
 .exact h.base i hi h1
 .rcases h.closed k h3 with h4 | h4
  .simp at h4
  .exact (h4 i hi h2 h1).elim id (fun h=>h.elim)
theorem WU.cnt {ex:Nat -> Nat -> Prop} (h:WU next a b ex L F):cnt L<=next.length:=by rw [<- h.len];exact ns L
structure IU (next:List (List Int)) (b:List Bool) (i:Nat) (L:List Bool) (F:List Int):Prop where
 len:L.length=next.length
 sound:∀ j,L.getD j false=true -> j<i /\ j<next.length /\ b.getD j false=true
 base:∀ j,j<i -> b.getD j false=true -> L.getD j false=true
 inW:∀ x ∈ F,∃ j:Nat,x=(j:Int) /\ L.getD j false=true
 all:∀ k,L.getD k false=true -> (k:Int) ∈ F
 small:F.length<=cnt L
theorem IU.start (next:List (List Int)) (b:List Bool):IU next b 0 (List.replicate next.length false) []:=by
 refine ⟨by simp,fun j hj=>?_,fun j hj=>by omega,fun x hx=>by simp at hx,fun k hk=>?_,by simp⟩
 .rw [Bo] at hj;simp at hj
 .rw [Bo] at hk;simp at hk
theorem IU.skip {i:Nat} (h:IU next b i L F) (hb:b.getD i false=false):IU next b (i+1) L F:=by
 refine ⟨h.len,fun j hj=>?_,fun j hj hb2=>?_,h.inW,h.all,h.small⟩
 .have:=h.sound j hj;exact ⟨by omega,this.2⟩
 .by_cases e:j=i
  .subst e;rw [hb] at hb2;simp at hb2
  .exact h.base j (by omega) hb2
theorem IU.push {i:Nat} (h:IU next b i L F) (hi:i<next.length) (hb:b.getD i false=true):IU next b (i+1) (L.set i true) (F ++ [(i:Int)]):=by
 have hil:i<L.length:=by rw [h.len];exact hi
 have hL:L.getD i false=false:=by
  cases h2:L.getD i false with
  | false=>rfl
  | true=>have:=(h.sound i h2).1;omega
 refine ⟨by rw [We,h.len],fun j hj=>?_,fun j hj hb2=>?_,fun x hx=>?_,fun k hk=>?_,by rw [r4 _ _ hil hL];have:=h.small;simp;omega⟩
 .rw [cN _ _ _ hil] at hj;split at hj
  .rename_i e;subst e;exact ⟨by omega,hi,hb⟩
  .have:=h.sound j hj;exact ⟨by omega,this.2⟩
 .rw [cN _ _ _ hil];split
  .rfl
  .exact h.base j (by omega) hb2
 .rcases Vs.1 hx with h1 | h1
  .obtain ⟨j,h2,h3⟩:=h.inW x h1;exact ⟨j,h2,by rw [cN _ _ _ hil];split;rfl;exact h3⟩
  .simp at h1;exact ⟨i,h1,by rw [cN _ _ _ hil,Vo rfl]⟩
 .rw [cN _ _ _ hil] at hk;split at hk
  .rename_i e;subst e;simp
  .have:=h.all k hk;simp [this]
theorem IU.done (h:IU next b next.length L F):WU next a b EP L F:=
 ⟨h.len,fun i hi=>.here i (h.sound i hi).2.1 (h.sound i hi).2.2,fun i hi hb=>h.base i hi hb,h.inW,fun k hk=>.inl (h.all k hk),h.small⟩
end
end
section
theorem M4 {next rows:List (List Int)} (h:cY next next.length 0 rows) (hl:next.length<=200):∀ r ∈ rows,∀ x ∈ r,-9223372036854775808<=x /\ x<=9223372036854775807:=fun r hr x hx=>by
 obtain ⟨i,rfl,hi⟩:=h.only r hr x hx;omega
end
section
def d8:Nat -> (Nat -> Nat) -> Nat
 | 0,_=>0
 | n+1,f=>d8 n f+f n
theorem kH:∀ (n:Nat) {f g:Nat -> Nat},(∀ i,i<n -> f i=g i) -> d8 n f=d8 n g
 | 0,_,_,_=>rfl
 | n+1,f,g,h=>by rw [d8,d8,kH n (fun i hi=>h i (by omega)),h n (by omega)]
theorem ve:∀ (n:Nat) {f g:Nat -> Nat} (i0:Nat),i0<n -> (∀ i,i<n -> i ≠ i0 -> f i=g i) -> d8 n f+g i0=d8 n g+f i0
 | 0,_,_,i0,h,_=>by omega
 | n+1,f,g,i0,h,hh=>by
  rw [d8,d8];by_cases e:i0=n
  .subst e;rw [kH i0 (f:=f) (g:=g) (fun i hi=>hh i (by omega) (by omega))];omega
  .have:=ve n (f:=f) (g:=g) i0 (by omega) (fun i hi=>hh i (by omega));have:=hh n (by omega) (fun h=>e h.symm);omega
theorem ws:∀ (n:Nat) {f:Nat -> Nat},d8 n f ≠ 0 -> ∃ i,i<n /\ f i ≠ 0
 | 0,f,h=>absurd rfl h
 | n+1,f,h=>by
  rw [d8] at h;by_cases e:f n=0
  .obtain ⟨i,h1,h2⟩:=ws n (f:=f) (by omega);exact ⟨i,by omega,h2⟩
  .exact ⟨n,by omega,e⟩
theorem wG:∀ (n:Nat) (f:Nat -> Nat) (i:Nat),i<n -> f i<=d8 n f
 | 0,f,i,h=>by omega
 | n+1,f,i,h=>by
  rw [d8];by_cases e:i=n
  .subst e;omega
  .have:=wG n f i (by omega);omega
theorem zF:∀ (n:Nat) {f:Nat -> Nat} (B:Nat),(∀ i,i<n -> f i<=B) -> d8 n f<=n * B
 | 0,_,B,_=>by simp [d8]
 | n+1,f,B,h=>by
  rw [d8,Xh];have:=zF n B (fun i hi=>h i (by omega));have:=h n (by omega);omega
def cE (next:List (List Int)) (k i:Nat):Nat:=(next.getD k []).count (i:Int)
theorem TM {next:List (List Int)} (hr:∀ r ∈ next,r.length<=4000) (k i:Nat):cE next k i<=4000:=by
 unfold cE;refine VC List.count_le_length ?_;rcases Vw k next.length with h|h
 .rw [List.getD,p0 h];exact hr _ (Vg h)
 .rw [List.getD,Vt h];simp
theorem sF {next rows:List (List Int)} (h:cY next next.length 0 rows) {i k:Nat} (hi:i<next.length) (hk:k<next.length):(rows.getD i []).count (k:Int)=cE next k i:=by
 rw [h.count i hi k,Vo hk];rfl
theorem lR (l:List Int) (k:Nat) (x:Int) (h:k<l.length) (j:Nat):(l.set k x).getD j 0=if j=k then x else l.getD j 0:=by
 simp only [List.getD,WJ];by_cases e:j=k
 .subst e;simp [h]
 .rw [Vj (fun h=>e h.symm),Vj e]
structure BB (next rows:List (List Int)) (L:List Bool) (i m:Nat) (lf:List Int):Prop where
 len:lf.length=next.length
 val:∀ k,k<next.length -> lf.getD k 0=((d8 i (fun j=>if L.getD j false=true then cE next k j else 0)+(if L.getD i false=true then ((rows.getD i []).take m).count (k:Int) else 0):Nat):Int)
 small:∀ k,0<=lf.getD k 0 /\ lf.getD k 0<=800000 * i+m
theorem wv (n j:Nat):(List.replicate n (0:Int)).getD j 0=0:=by
 rw [List.getD,Wz];split<;>rfl
section
variable {next rows:List (List Int)} {L:List Bool} {lf:List Int}
theorem BB.start (next rows:List (List Int)) (L:List Bool):BB next rows L 0 0 (List.replicate next.length 0):=
 ⟨by simp,fun k hk=>by rw [wv];simp [d8],fun k=>by rw [wv];simp⟩
theorem BB.skip {i m:Nat} (h:BB next rows L i m lf) (hL:L.getD i false=false):BB next rows L i (m+1) lf:=
 ⟨h.len,fun k hk=>by rw [h.val k hk,hL];simp,fun k=>by have:=h.small k;omega⟩
theorem BB.add {i m q:Nat} (h:BB next rows L i m lf) (hL:L.getD i false=true) (hm:m<(rows.getD i []).length) (hq:(rows.getD i []).getD m 0=(q:Int)) (hqn:q<next.length):BB next rows L i (m+1) (lf.set q (lf.getD q 0+1)):=by
 have hql:q<lf.length:=by rw [h.len];exact hqn
 rw [gn _ _ hm] at hq;refine ⟨by rw [We,h.len],fun k hk=>?_,fun k=>?_⟩
 .rw [lR _ _ _ hql,Vi hm,List.count_append,Xu,hq];have:=h.val k hk;have hv:=h.val q hqn;rw [Vo hL] at this hv ⊢;by_cases e:k=q
  .subst e;rw [Vo rfl,this];simp;omega
  .have e2:((q:Int) == (k:Int))=false:=by simp;omega
   rw [Vj e,this,e2];simp
 .rw [lR _ _ _ hql];split
  .have:=h.small q;omega
  .have:=h.small k;omega
theorem BB.row {i:Nat} (h:BB next rows L i (rows.getD i []).length lf) (hB:cY next next.length 0 rows) (hi:i<next.length) (hr:(rows.getD i []).length<=800000):BB next rows L (i+1) 0 lf:=by
 refine ⟨h.len,fun k hk=>?_,fun k=>by have:=h.small k;omega⟩;rw [h.val k hk,Vq,d8,sF hB hi hk];simp
end
def al (L:List Bool) (F:List Int) (i:Nat):Bool:=L.getD i false || decide ((i:Int) ∈ F)
def wL (next:List (List Int)) (L:List Bool) (F:List Int) (k:Nat):Nat:=d8 next.length (fun i=>if al L F i=true then cE next k i else 0)
structure GU (next:List (List Int)) (a:List Bool) (q:Nat -> Prop) (ex:Nat -> Nat) (L:List Bool) (F:List Int) (lf:List Int):Prop where
 len:L.length=next.length
 lenF:lf.length=next.length
 nodup:F.Nodup
 inW:∀ x ∈ F,∃ j:Nat,x=(j:Int) /\ j<next.length /\ L.getD j false=false
 inA:∀ j,L.getD j false=true -> a.getD j false=true
 sup:∀ j,Kz next a j -> L.getD j false=true
 val:∀ k,k<next.length -> lf.getD k 0=((wL next L F k+ex k:Nat):Int)
 pos:∀ k,k<next.length -> ¬ q k -> L.getD k false=true -> lf.getD k 0 ≠ 0
 small:F.length+cnt L<=next.length
def DV:Nat -> Prop:=fun _=>False
def HN:Nat -> Nat:=fun _=>0
section
variable {next rows:List (List Int)} {a:List Bool} {q q':Nat -> Prop} {ex:Nat -> Nat} {L:List Bool} {F:List Int} {lf:List Int}
theorem GU.settle (h:GU next a q ex L F lf) (k:Nat) (hq:∀ j,q j -> j=k \/ q' j) (hk:¬ (L.getD k false=true /\ lf.getD k 0=0)):GU next a q' ex L F lf:=
 ⟨h.len,h.lenF,h.nodup,h.inW,h.inA,h.sup,h.val,fun j hj hnq hL=>by
  by_cases e:q j
  .rcases hq j e with rfl | h2
   .exact fun h0=>hk ⟨hL,h0⟩
   .exact absurd h2 hnq
  .exact h.pos j hj e hL,h.small⟩
theorem GU.take (h:GU next a q ex L F lf) (k:Nat) (hq:∀ j,q j -> j=k \/ q' j) (hk:L.getD k false=true) (h0:lf.getD k 0=0):GU next a q' ex (L.set k false) (F ++ [(k:Int)]) lf:=by
 have hkl:=yx hk;have hkn:k<next.length:=by rw [<- h.len];exact hkl
 have hal:∀ i,al (L.set k false) (F ++ [(k:Int)]) i=al L F i:=fun i=>by
  unfold al;rw [cN _ _ _ hkl];by_cases e:i=k
  .subst e;rw [Vo rfl,hk];simp
  .have e2:((i:Int) ∈ F ++ [(k:Int)]) ↔ (i:Int) ∈ F:=by simp;omega
   rw [Vj e,decide_eq_decide.2 e2]
 have hsum:∀ j,wL next (L.set k false) (F ++ [(k:Int)]) j=wL next L F j:=fun j=>kH _ fun i _=>by rw [hal]
 have hz:wL next L F k=0:=by have:=h.val k hkn;omega
 have hnot:¬ Kz next a k:=by
  rintro ⟨S,h1,h2⟩;obtain ⟨_,_,k',he,hs⟩:=h2 k h1;have hE:Kz next a k':=⟨S,hs,h2⟩;have hL:=h.sup k' hE;have:=wG next.length (fun i=>if al L F i=true then cE next k i else 0) k' he.2;have hal2:al L F k'=true:=by unfold al;rw [hL];rfl
  have hc:0<cE next k k':=XJ.2 he.1;unfold wL at hz;simp only [hal2,if_true] at this;omega
 have hkF:(k:Int) ∉ F:=fun hm=>by
  obtain ⟨j,h1,_,h3⟩:=h.inW _ hm;have:j=k:=by omega
  subst this;rw [hk] at h3;simp at h3
 refine ⟨by rw [We,h.len],h.lenF,?_,fun x hx=>?_,fun j hj=>?_,fun j hj=>?_,fun j hj=>by rw [hsum];exact h.val j hj,fun j hj hnq hL=>?_,?_⟩
 .rw [Xq];refine ⟨h.nodup,by simp,fun x hx y hy=>?_⟩;simp at hy;subst hy;exact fun e=>hkF (e ▸ hx)
 .rcases Vs.1 hx with h1 | h1
  .obtain ⟨j,h2,h3,h4⟩:=h.inW x h1;refine ⟨j,h2,h3,?_⟩;rw [cN _ _ _ hkl];split;rfl;exact h4
  .simp at h1;exact ⟨k,h1,hkn,by rw [cN _ _ _ hkl,Vo rfl]⟩
 .rw [cN _ _ _ hkl] at hj;split at hj
  .simp at hj
  .exact h.inA j hj
 .rw [cN _ _ _ hkl];split
  .rename_i e;subst e;exact absurd hj hnot
  .exact h.sup j hj
 .rw [cN _ _ _ hkl] at hL;split at hL
  .simp at hL
  .rename_i e;refine h.pos j hj (fun hqj=>?_) hL;rcases hq j hqj with h2|h2
   .exact e h2
   .exact hnq h2
 .have:=qr L k hkl hk;have:=h.small;simp;omega
theorem GU.pop {W:List Int} {x:Int} (h:GU next a DV HN L (W ++ [x]) lf) (hB:cY next next.length 0 rows):∃ i0:Nat,x=(i0:Int) /\ i0<next.length /\ GU next a DV (fun k=>((rows.getD i0 []).drop 0).count (k:Int)) L W lf:=by
 obtain ⟨i0,rfl,hi0,hL0⟩:=h.inW x (by simp);have hnd:=h.nodup;rw [Xq] at hnd;have hni:(i0:Int) ∉ W:=fun hm=>hnd.2.2 _ hm _ (by simp) rfl;refine ⟨i0,rfl,hi0,h.len,h.lenF,hnd.1,fun y hy=>h.inW y (by simp [hy]),h.inA,h.sup,fun k hk=>?_,h.pos,by have:=h.small;simp at this;omega⟩;rw [h.val k hk,Xy,sF hB hi0 hk]
 have hu:=ve next.length (f:=fun i=>if al L (W ++ [(i0:Int)]) i=true then cE next k i else 0) (g:=fun i=>if al L W i=true then cE next k i else 0) i0 hi0 (fun i _ hne=>by
  have:al L (W ++ [(i0:Int)]) i=al L W i:=by
   unfold al;have e2:((i:Int) ∈ W ++ [(i0:Int)]) ↔ (i:Int) ∈ W:=by simp;omega
   rw [decide_eq_decide.2 e2]
  rw [this])
 have h1:al L (W ++ [(i0:Int)]) i0=true:=by unfold al;simp
 have h2:al L W i0=false:=by unfold al;rw [hL0];simp [hni]
 simp only [h1,h2,if_true] at hu;unfold wL HN;simp at hu ⊢;omega
theorem GU.dec {row:List Int} {m k:Nat} (h:GU next a DV (fun k=>(row.drop m).count (k:Int)) L F lf) (hm:m<row.length) (hk:row.getD m 0=(k:Int)) (hkn:k<next.length) :
  GU next a (fun j=>j=k) (fun k=>(row.drop (m+1)).count (k:Int)) L F (lf.set k (lf.getD k 0 - 1)):=by
 have hkl:k<lf.length:=by rw [h.lenF];exact hkn
 rw [gn _ _ hm] at hk;refine ⟨h.len,by rw [We,h.lenF],h.nodup,h.inW,h.inA,h.sup,fun j hj=>?_,fun j hj hne hL=>?_,h.small⟩
 .have hv:=h.val j hj;have hvk:=h.val k hkn;rw [lR _ _ _ hkl];rw [WG hm,List.count_cons,hk] at hv hvk;by_cases e:j=k
  .subst e;rw [Vo rfl];simp at hv ⊢;omega
  .have e2:((k:Int) == (j:Int))=false:=by simp;omega
   rw [Vj e,hv,e2];simp
 .rw [lR _ _ _ hkl,Vj hne];exact h.pos j hj (fun h=>h) hL
theorem GU.bound (h:GU next a q ex L F lf) (hl:next.length<=200) (hr:∀ r ∈ next,r.length<=4000) (hx:∀ k,ex k<=800000) (k:Nat):0<=lf.getD k 0 /\ lf.getD k 0<=1600000:=by
 rcases Vw k next.length with hk|hk
 .have:=h.val k hk
  have h2:wL next L F k<=next.length * 4000:=zF _ _ fun i _=>by
   split
   .exact TM hr k i
   .omega
  have:=hx k;omega
 .rw [List.getD,Vt (by rw [h.lenF];exact hk)];simp
theorem GU.close {row:List Int} {m:Nat} (h:GU next a DV (fun k=>(row.drop m).count (k:Int)) L F lf) (hm:row.length<=m):GU next a DV HN L F lf:=
 ⟨h.len,h.lenF,h.nodup,h.inW,h.inA,h.sup,fun k hk=>by rw [h.val k hk,List.drop_eq_nil_of_le hm];simp [HN],h.pos,h.small⟩
theorem GU.done (h:GU next a DV HN L [] lf):L=EA next a:=by
 refine iy (by rw [h.len,dl]) fun i _=>?_;rw [w9];refine ⟨u8 next a L (fun i hi=>?_) i,h.sup i⟩;have hin:i<next.length:=by rw [<- h.len];exact yx hi
 refine ⟨hin,h.inA i hi,?_⟩;have h1:=h.val i hin;have h2:=h.pos i hin (fun h=>h) hi;obtain ⟨k,hk,hk2⟩:=ws next.length (f:=fun j=>if al L [] j=true then cE next i j else 0) (by unfold wL HN at h1;omega)
 have hak:al L [] k=true:=by
  cases e:al L [] k with
  | true=>rfl
  | false=>rw [e] at hk2;simp at hk2
 simp only [hak,if_true] at hk2;refine ⟨k,⟨XJ.1 (Nat.pos_of_ne_zero hk2),hk⟩,?_⟩;unfold al at hak;simpa using hak
theorem GU.start (hB:cY next next.length 0 rows) (h:BB next rows (n7 next a 0) next.length 0 lf):GU next a (fun j=>0<=j) HN (n7 next a 0) [] lf:=by
 refine ⟨eQ _ _ _,h.len,by simp,fun x hx=>by simp at hx,fun j hj=>((me next a j).1 hj).2,r5 next a 0,fun k hk=>?_,fun k _ hq=>absurd (Vd _) hq,?_⟩
 .rw [h.val k hk];unfold wL HN al;simp
 .have:=ns (n7 next a 0);rw [eQ] at this;simpa using this
end
section
variable {w wx w':World} {hi:Nat} {va:Value} {rows:List (List Int)} {L:List Bool} {F F':List Int} {lf:List Int}
end
end
section
theorem Oo {w:World} {S:Nat -> Prop} {v:Value} {l:List (List Int)} (h:RT w S v (iL l)) (hS:Gu w S) (hl:∀ r ∈ l,∀ x ∈ r,aF x):RR w v l:=by
 obtain ⟨A,cap,rfl,hc,hm,_,hA⟩:=h.sl_inv;refine ⟨A,cap,by simp,by simpa using hc,hm,fun h0=>?_⟩;obtain ⟨b,o,rfl,hb,U,hcell,hr,_⟩:=hA (by simpa using h0);refine ⟨b,o,rfl,hS b hb,fun i hi=>?_⟩;have h1:(n8 l)[i]? = some [sI l[i]]:=by simp [hi]
 have h2:=hcell i 0 _ _ h1 rfl;have h3:=yu (hr i 0 _ _ h1 rfl) hS (hl _ (Vg hi));obtain ⟨A',c',h4,h5⟩:=h3;refine ⟨[U i 0],fun j u hu=>?_,A',c',by rw [h4],h5⟩
 cases j with
 | zero=>
  simp at hu;subst hu;simpa [aJ] using h2
 | succ j=>simp at hu
theorem Jb:qj (aJ (fl .i64)) (fun l=>[sI l]):=fun w S cs l h=>by
 obtain ⟨A,c,rfl,h1,h2,h3⟩:=h;refine ⟨rfl,fun j u av h4 h5=>?_⟩
 match j with
 | 0=>
  simp at h4 h5;subst h4;subst h5;exact ⟨sj.slice ⟨A,c,rfl,h1,h2,h3⟩,rfl⟩
 | j+1=>simp at h4
theorem ID (next:List (List Int)) (hx:nc next):dQ Tryz.prog 95 [iL next] fun R=>∃ rows,cY next next.length 0 rows /\ R=⟨iL rows,[],0⟩:=
 ⟨fb Tryz.func95 rfl (by decide),fun S w vs hS hn hv=>by
  obtain ⟨a,rfl⟩:=PL hn;refine (Mh next a w hx.len hx.row (Oo (hv 0 a _ rfl rfl) hS hx.ok)).mono ?_;rintro e w' ⟨rfl,rows,hB,hO,hb⟩;have hlen:rows.length=next.length:=hB.len;have h5:=hO.read (M4 hB hx.len) (by have:=hx.len;omega);rw [hlen] at h5;refine ⟨_,fun _=>undef,⟨iL rows,[],0⟩,⟨rows,hB,rfl⟩,⟨fun id o h=>(by cases h),by simp [AV.lt]⟩,rfl,⟨j0 hb,fun id o h=>(by cases h),fun id id' o o' g h=>(by cases h),fun b hb=>hb.elim⟩,.tree ?_⟩;exact (Jb.slice h5).mono (fun _ _=>rfl) fun b hb=>⟨hb.2,⟨.inr hb.1,fun hX=>hX⟩,fun id o h=>(by cases h)⟩⟩
abbrev oW (r:List Int):aD:=.row 3 1 (r.map fun n=>[eI n])
def D6 (st:aj):Nat:=match st.tab.get 0 with | some (.row _ _ rows)=>rows.countP (fun r=>match r with | [.c (.bool b)]=>b | _=>false) | _=>0
def Px (st:aj):Nat:=match st.tab.get 2 with | some (.row _ _ rows)=>rows.length | _=>0
def TD (st:aj):Nat:=match st.get 12 with | .c (.bool true)=>1 | _=>0
def RP (n:Nat) (st:aj):Nat:=2 * (n - D6 st)+Px st+TD st
theorem Af (L:List Bool):(dM L).countP (fun r=>match r with | [.c (.bool b)]=>b | _=>false)=cnt L:=by
 unfold cnt;rw [List.countP_map,List.countP_eq_length_filter];rfl
theorem oA {n N:Nat} {a0 a1 a2 a7 a8 a9:AV} {x:Int} {o:Bool} {L:List Bool} {W:List Int} {ob:Option aD} {t:TypeId} (hN:12<N):RP n ⟨N,[(0,a0),(1,a1),(2,a2),(7,a7),(8,a8),(9,a9),(11,eI x),(12,eB o)],[(0,some (.row t 1 (dM L))),(1,ob),(2,some (oW W))],3⟩=2 * (n - cnt L)+W.length+(if o=true then 1 else 0):=by
 have h:=Af L;cases o<;>simp only [RP,D6,Px,TD,af.gc,aj.get,bb,h,hN,Vp,↓reduceIte,Nat.reduceEqDiff,reduceCtorEq,VM]
def TJ (next:List (List Int)) (a b:List Bool) (o:Bool) (x:Int) (L:List Bool) (W:List Int):Prop:=(o=false /\ W=[] /\ WU next a b EP L []) \/ (o=true /\ WU next a b EP L (W ++ [x]))
theorem UV (next:List (List Int)) (a b:List Bool) (hx:nc next) (ha:a.length<=1000000) (hb:b.length<=1000000):aw Tryz.prog 46 [iL next,fI a,fI b] (g8 4 1 (dM (ux next a b))):=by
 refine aa ag Tryz.func46 rfl (by decide) Tryz.ntmps46 Tryz.results46 rfl (ch _ _ _) ?_;have hnl:=hx.len;have hF0:dM (List.replicate next.length false)=List.replicate next.length [eB false]:=by simp
 repeat' first|refine go ?_|decide|refine sp ?_ ?_<;>intro _
 refine ⟨⟨by omega,by omega⟩,?_⟩;refine tQ (ID next hx) ?_;rintro R ⟨rows,hB,rfl⟩;refine ⟨ro,?_⟩;have hrl:rows.length=next.length:=hB.len
 repeat' first|refine ge @bh ?_|decide|refine sp ?_ ?_<;>intro _
 refine ae (fun st=>∃ (k:Nat) (L:List Bool) (F:List Int),k<=next.length /\ IU next b k L F /\ st=⟨69,[(0,iL next),(1,fI a),(2,fI b),(7,.osl 0),(8,iL rows),(9,.op 1 0 0),(21,eI (next.length:Int)),(22,eI (k:Int))],[(0,some (.row 4 1 (dM L))),(1,some (.box 176 [.osl 2])),(2,some (oW F))],3⟩) (fun st=>next.length - ap st 22)
  ⟨_,((cu 1 0 3 1 (t:=176) (cells:=[.c (.slice none 0 0)]) (by simp [af.gc]) rfl).trans (wE (kf @WB hF0))),0,_,[],Vd _,IU.start next b,rfl⟩ ?_
 .rintro _ ⟨k,L,F,hk,hI,rfl⟩;have hLl:=hI.len;have hFl:F.length<=200:=by have:=hI.small;have:=ns L;omega
  by_cases hlt:k<next.length
  .have hIb:=vq b (k:Int) (by omega);rw [gr] at hIb
   cases hbk:b.getD k false with
   | false=>
    rw [hbk] at hIb;have hI2:=hI.skip hbk
    repeat' first|refine gf @hlt ?_|decide|refine sp ?_ ?_<;>intro _|refine cA hIb ?_|fail
    all_goals exact rI wC ⟨k+1,L,F,by omega,hI2,rfl⟩
   | true=>
    rw [hbk] at hIb;have hI2:=hI.push hlt hbk;have hkl:k<L.length:=(by omega);have hset:=r8 L k true;have hdr:List.drop 1 ((dM L)[k]?.getD [])=[]:=(by simp [hkl])
    repeat' first|refine gf (kf @hlt (kf @hkl (kf @hdr @hset))) ?_|decide|refine sp ?_ ?_<;>intro _|refine cA hIb ?_|fail
    refine lD ?_;refine cg ag Tryz.func96 rfl (by decide) Tryz.ntmps96 Tryz.results96 rfl (by kernel_rfl) [0,1,2,7,8,9,21,22] fun vs=>?_
    repeat' first|refine ge (kf @bO @bE) ?_|decide|refine sp ?_ ?_<;>intro _
    refine ⟨rfl,⟨by omega,by omega⟩,?_⟩
    repeat' first|refine go ?_|simp only [fS,fT,gi,bO,bE,bh,bI,bH,aD.shift,ca]|decide|refine sp ?_ ?_<;>intro _
    repeat' first|refine go ?_|decide|refine sp ?_ ?_<;>intro _
    have e1:(F ++ [(k:Int)]).map (fun n=>[eI n])=F.map (fun n=>[eI n]) ++ [[eI (k:Int)]]:=(by simp);all_goals exact rI (wS [3,4,8] e1) ⟨k+1,_,_,by omega,hI2,rfl⟩
  .obtain rfl:k=next.length:=by omega
   have hW:=hI.done (a:=a)
   repeat' first|refine ge @hlt ?_|decide|refine sp ?_ ?_<;>intro _
   have hF4:F.length<=200:=hFl;rcases iC F with rfl|⟨W,x,rfl⟩
   case' inl=>
    refine lD ?_;refine cg ag Tryz.func97 rfl (by decide) Tryz.ntmps97 Tryz.results97 rfl (by kernel_rfl) [0,1,2,7,8,9] fun vs=>?_;have hw:IntKind.i64.wrap (((0:Nat):Int) - 1) = -1:=(by decide);have hn:decide ((-1:Int)<0)=true:=rfl
    repeat' first|refine ge (kf @bO (kf @bE (kf hw hn))) ?_|decide|refine sp ?_ ?_<;>intro _
    repeat' first|refine go ?_|simp only [fS,fT,gi,bO,bE,bh,bI,bH,aD.shift,ca]|decide|refine sp ?_ ?_<;>intro _
    repeat' first|refine go ?_|decide|refine sp ?_ ?_<;>intro _
   case' inr=>
    have hFl:W.length+1<=200:=(by simpa using hF4);refine lD ?_;refine cg ag Tryz.func97 rfl (by decide) Tryz.ntmps97 Tryz.results97 rfl (by kernel_rfl) [0,1,2,7,8,9] fun vs=>?_;have hw:IntKind.i64.wrap ((W.length:Int)+1 - 1)=(W.length:Int):=by rw [aB (by omega) (by omega)];omega
    have hlt:(W.length:Int)<(W.length:Int)+1:=(by omega);have hrow:(List.map (fun n=>[eI n]) (W ++ [x]))[W.length]?.getD []=[eI x]:=(by simp);have hlt2:W.length<W.length+1:=(by omega);have hle:(W.length:Int)<=(W.length:Int)+1:=(by omega);have htk:List.take W.length (List.map (fun n=>[eI n]) (W ++ [x]))=List.map (fun n=>[eI n]) W:=(by simp);have hn:decide ((W.length:Int)<0)=false:=Vv (by omega)
    repeat' first|refine ge (kf @bO (kf @bE (kf @Vk (kf @Vz (kf @Xm (kf @XO (kf hw (kf hn (kf @hlt (kf @hlt2 (kf @hle (kf @hrow @htk)))))))))))) ?_|decide|refine sp ?_ ?_<;>intro _
    repeat' first|refine go ?_|simp only [fS,fT,gi,bO,bE,bh,bI,bH,aD.shift,ca]|decide|refine sp ?_ ?_<;>intro _
    repeat' first|refine go ?_|decide|refine sp ?_ ?_<;>intro _
   all_goals
    refine ae (fun st=>∃ (x:Int) (o:Bool) (L:List Bool) (W:List Int),TJ next a b o x L W /\ st=⟨69,[(0,iL next),(1,fI a),(2,fI b),(7,.osl 0),(8,iL rows),(9,.op 1 0 0),(11,eI x),(12,eB o)],[(0,some (.row 4 1 (dM L))),(1,some (.box 176 [.osl 2])),(2,some (oW W))],3⟩) (RP next.length)
     ?_ ?_
    .first
      | exact ⟨_,(wR [3,4,5]),0,false,_,[],.inl ⟨rfl,rfl,hW⟩,rfl⟩
      | exact ⟨_,(wR [3,4,7]),x,true,_,_,.inr ⟨rfl,hW⟩,rfl⟩
    rintro _ ⟨x,o,L,W,hH,rfl⟩;rcases hH with ⟨rfl,rfl,hW⟩|⟨rfl,hW⟩
    .repeat' first|refine gq ?_|decide|refine sp ?_ ?_<;>intro _
     rw [hW.done];all_goals exact aM (by simp [af.gc])
    .obtain ⟨k0,rfl,hk0,hL0,hW⟩:=hW.pop hB;have hLl:=hW.len;obtain ⟨q,hq⟩:∃ q,q=rows.getD k0 []:=⟨_,rfl⟩;rw [<- hq] at hW;have hrow:(n8 rows)[k0]?.getD []=[sI q]:=by rw [hq];simp [List.getD,show k0<rows.length by omega]
     have hk1:k0<rows.length:=(by omega);have hql:q.length<=1000000:=by have:=hB.small k0;rw [<- hq] at this;omega
     repeat' first|refine ge (kf @hrow hk1) ?_|decide|refine sp ?_ ?_<;>intro _
     refine ae (fun st=>∃ (m:Nat) (L2:List Bool) (F:List Int),m<=q.length /\ WU next a b (sk q k0 m) L2 F /\ L2.getD k0 false=true /\ 2 * (next.length - cnt L2)+F.length<=2 * (next.length - cnt L)+W.length /\ st=⟨69,[(0,iL next),(1,fI a),(2,fI b),(7,.osl 0),(8,iL rows),(9,.op 1 0 0),(46,sI q),(47,eI (q.length:Int)),(48,eI (m:Int))],[(0,some (.row 4 1 (dM L2))),(1,some (.box 176 [.osl 2])),(2,some (oW F))],3⟩) (fun st=>q.length - ap st 48) ⟨_,(wE trivial),0,L,W,Vd _,hW,hL0,Vh _,rfl⟩ ?_;rintro _ ⟨m,L2,F,hm,hW2,hL2,hmu,rfl⟩;have hLl2:=hW2.len;have hFl:F.length<=200:=by have:=hW2.small;have:=hW2.cnt;omega
     by_cases hlt:m<q.length
     .obtain ⟨i,hi,hil,hie⟩:=ye hB hk0 (by rw [<- hq];exact hlt);rw [<- hq] at hi;have hi2:q[m]=(i:Int):=(by rw [<- hi,gn _ _ hlt]);have hrj:(q.map fun n=>[eI n])[m]?.getD []=[eI (i:Int)]:=by rw [<- hi2];simp [hlt]
      have hi3:i<L2.length:=(by omega);have hIa:=vq a (i:Int) (by omega);rw [gr] at hIa;have hri:(dM L2)[i]?.getD []=[eB (L2.getD i false)]:=(by simp [List.getD,hi3])
      cases hv:L2.getD i false with
      | true=>
       have hW3:=hW2.skip hlt hi (.inl hv);rw [hv] at hri
       repeat' first|refine gf (kf @hlt (kf @hrj (kf hi3 @hri))) ?_|decide|refine sp ?_ ?_<;>intro _
       all_goals exact rI wC ⟨m+1,L2,F,by omega,hW3,hL2,hmu,rfl⟩
      | false=>
       rw [hv] at hri
       cases hav:a.getD i false with
       | false=>
        have hW3:=hW2.skip hlt hi (.inr hav);rw [hav] at hIa
        repeat' first|refine gf (kf @hlt (kf @hrj (kf hi3 @hri))) ?_|decide|refine sp ?_ ?_<;>intro _|refine cA hIa ?_|fail
        all_goals exact rI wC ⟨m+1,L2,F,by omega,hW3,hL2,hmu,rfl⟩
       | true=>
        have hW3:=hW2.push hlt hi hil hie hL2 hv hav;rw [hav] at hIa;have hset:=r8 L2 i true;have hL3:(L2.set i true).getD k0 false=true:=by rw [cN _ _ _ hi3];split;rfl;exact hL2
        have hc3:=r4 L2 i hi3 hv;have hc4:=hW3.cnt;have e1:(F ++ [(i:Int)]).map (fun n=>[eI n])=F.map (fun n=>[eI n]) ++ [[eI (i:Int)]]:=(by simp)
        repeat' first|refine gf (kf @hlt (kf @hrj (kf hi3 (kf @hri @hset)))) ?_|decide|refine sp ?_ ?_<;>intro _|refine cA hIa ?_|fail
        refine lD ?_;refine cg ag Tryz.func96 rfl (by decide) Tryz.ntmps96 Tryz.results96 rfl (by kernel_rfl) [0,1,2,7,8,9,46,47,48] fun vs=>?_
        repeat' first|refine ge (kf @bO @bE) ?_|decide|refine sp ?_ ?_<;>intro _
        refine ⟨rfl,⟨by omega,by omega⟩,?_⟩
        repeat' first|refine go ?_|simp only [fS,fT,gi,bO,bE,bh,bI,bH,aD.shift,ca]|decide|refine sp ?_ ?_<;>intro _
        repeat' first|refine go ?_|decide|refine sp ?_ ?_<;>intro _
        all_goals exact rI (wS [3,4,8] e1) ⟨m+1,_,_,by omega,hW3,hL3,by rw [hc3,Vk];simp only [Vz];omega,rfl⟩
     .obtain rfl:m=q.length:=by omega
      have hW4:=hW2.close (Vh _)
      repeat' first|refine ge @hlt ?_|decide|refine sp ?_ ?_<;>intro _
      rcases iC F with rfl|⟨W2,y,rfl⟩
      .have hlt9:=hlt;refine lD ?_;refine cg ag Tryz.func97 rfl (by decide) Tryz.ntmps97 Tryz.results97 rfl (by kernel_rfl) [0,1,2,7,8,9] fun vs=>?_;have hw:IntKind.i64.wrap (((0:Nat):Int) - 1) = -1:=(by decide);have hn:decide ((-1:Int)<0)=true:=rfl
       repeat' first|refine ge (kf @bO (kf @bE (kf hw hn))) ?_|decide|refine sp ?_ ?_<;>intro _
       repeat' first|refine go ?_|simp only [fS,fT,gi,bO,bE,bh,bI,bH,aD.shift,ca]|decide|refine sp ?_ ?_<;>intro _
       repeat' first|refine go ?_|decide|refine sp ?_ ?_<;>intro _
       all_goals exact cZ (wR [3,4,5]) ⟨0,false,_,[],.inl ⟨rfl,rfl,hW4⟩,rfl⟩ (by rw [oA (by decide),oA (by decide)];simp only [Vk,Vz,Wq,↓reduceIte,VM] at hmu ⊢;omega)
      .have hFl:W2.length+1<=200:=(by simpa using hFl);refine lD ?_;refine cg ag Tryz.func97 rfl (by decide) Tryz.ntmps97 Tryz.results97 rfl (by kernel_rfl) [0,1,2,7,8,9] fun vs=>?_;have hw:IntKind.i64.wrap ((W2.length:Int)+1 - 1)=(W2.length:Int):=by rw [aB (by omega) (by omega)];omega
       have hlt:(W2.length:Int)<(W2.length:Int)+1:=(by omega);have hrow:(List.map (fun n=>[eI n]) (W2 ++ [y]))[W2.length]?.getD []=[eI y]:=(by simp);have hlt2:W2.length<W2.length+1:=(by omega);have hle:(W2.length:Int)<=(W2.length:Int)+1:=(by omega);have htk:List.take W2.length (List.map (fun n=>[eI n]) (W2 ++ [y]))=List.map (fun n=>[eI n]) W2:=(by simp);have hn:decide ((W2.length:Int)<0)=false:=Vv (by omega)
       repeat' first|refine ge (kf @bO (kf @bE (kf @Vk (kf @Vz (kf @Xm (kf @XO (kf hw (kf hn (kf @hlt (kf @hlt2 (kf @hle (kf @hrow @htk)))))))))))) ?_|decide|refine sp ?_ ?_<;>intro _
       repeat' first|refine go ?_|simp only [fS,fT,gi,bO,bE,bh,bI,bH,aD.shift,ca]|decide|refine sp ?_ ?_<;>intro _
       repeat' first|refine go ?_|decide|refine sp ?_ ?_<;>intro _
       all_goals exact cZ (wR [3,4,7]) ⟨y,true,_,_,.inr ⟨rfl,hW4⟩,rfl⟩ (by rw [oA (by decide),oA (by decide)];simp only [Vk,Vz,Wq,↓reduceIte,VM] at hmu ⊢;omega)
end
end
section
section
def PB (st:aj):Nat:=match st.tab.get 3 with | some (.row _ _ rows)=>rows.length | _=>0
def Tw (st:aj):Nat:=match st.get 16 with | .c (.bool true)=>1 | _=>0
def Rz (st:aj):Nat:=2 * D6 st+PB st+Tw st
theorem pm {N:Nat} {a0 a1 a5 a6 a7 a8:AV} {x:Int} {o:Bool} {L:List Bool} {W:List Int} {ob ob2:Option aD} {t:TypeId} (hN:16<N):Rz ⟨N,[(0,a0),(1,a1),(5,a5),(6,a6),(7,a7),(13,a8),(15,eI x),(16,eB o)],[(0,some (.row t 1 (dM L))),(1,ob),(2,ob2),(3,some (oW W))],4⟩=2 * cnt L+W.length+(if o=true then 1 else 0):=by
 have h:=Af L;cases o<;>simp only [Rz,D6,PB,Tw,af.gc,aj.get,bb,h,hN,Vp,↓reduceIte,Nat.reduceEqDiff,reduceCtorEq,VM]
def Uy (next:List (List Int)) (a:List Bool) (o:Bool) (x:Int) (L:List Bool) (W lf:List Int):Prop:=(o=false /\ W=[] /\ GU next a DV HN L [] lf) \/ (o=true /\ GU next a DV HN L (W ++ [x]) lf)
theorem pr {l:List Int} {i:Nat} (h:i<l.length):(l.map fun n=>[eI n])[i]?.getD []=[eI (l.getD i 0)]:=by simp [List.getD,h]
theorem zf (l:List Int) (i:Nat) (v:Int):(l.map fun n=>[eI n]).set i [eI v]=(l.set i v).map fun n=>[eI n]:=by rw [W8]
theorem UW (next:List (List Int)) (a:List Bool) (hx:nc next) (ha:a.length<=1000000):aw Tryz.prog 47 [iL next,fI a] (g8 4 1 (dM (EA next a))):=by
 refine aa ag Tryz.func47 rfl (by decide) Tryz.ntmps47 Tryz.results47 rfl (ch _ _ _) ?_;have hnl:=hx.len;have hrl0:=hx.row;obtain ⟨G,hG⟩:∃ G,G=n7 next a 0:=⟨_,rfl⟩;have hFl:(List.replicate next.length false).length=next.length:=by simp
 obtain ⟨F0,hFe⟩:∃ F,F=List.replicate next.length false:=⟨_,rfl⟩;have hF0:dM F0=List.replicate next.length [eB false]:=by rw [hFe];simp
 rw [<- hFe] at hFl;have hGl:G.length=F0.length:=by rw [hG,eQ,hFl]
 have hGa:∀ k,k<next.length -> G.getD k false=a.getD k false:=fun k h=>by
  rw [hG,Ws,me];exact ⟨fun h=>h.2,fun h2=>⟨h,h2⟩⟩
 have hZ0:(List.replicate next.length (0:Int)).map (fun n=>[eI n])=List.replicate next.length [eI 0]:=by simp
 repeat' first|refine go ?_|decide|refine sp ?_ ?_<;>intro _
 refine ⟨⟨by omega,by omega⟩,⟨by omega,by omega⟩,?_⟩;refine tQ (ID next hx) ?_;rintro R ⟨rows,hB,rfl⟩;refine ⟨ro,?_⟩;have hrl:rows.length=next.length:=hB.len
 repeat' first|refine ge @bh ?_|decide|refine sp ?_ ?_<;>intro _
 refine ae (fun st=>∃ k:Nat,k<=next.length /\ st=⟨128,[(0,iL next),(1,fI a),(5,.osl 0),(6,.osl 1),(7,iL rows),(28,eI (next.length:Int)),(29,eI (k:Int))],[(0,some (.row 4 1 (dM (bW G F0 k)))),(1,some (oW (List.replicate next.length 0)))],2⟩) (fun st=>next.length - ap st 29) ⟨_,(wE (kf @gc (kf hF0 hZ0))),0,Vd _,rfl⟩ ?_;rintro _ ⟨k,hk,rfl⟩;have hul:=gy hGl (j:=k) (by omega);by_cases hlt:k<next.length
 .have d3:k<(bW G F0 k).length:=by omega
  have r1:=lq hGl (j:=k) (by omega);have hset:=jn hGl (j:=k) (by omega);have hI:=vq a (k:Int) (by omega);rw [gr] at hI;rw [hGa k hlt] at hset
  repeat' first|refine gf (kf @hlt (kf d3 (kf r1 @hset))) ?_|decide|refine sp ?_ ?_<;>intro _|refine cA hI ?_|fail
  all_goals exact rI (wE @hset) ⟨k+1,by omega,rfl⟩
 .obtain rfl:k=next.length:=by omega
  have e1:bW G F0 next.length=G:=by rw [<- hFl];exact iu hGl
  rw [e1]
  repeat' first|refine ge @hlt ?_|decide|refine sp ?_ ?_<;>intro _
  refine ae (fun st=>∃ (k:Nat) (lf:List Int),k<=next.length /\ BB next rows G k 0 lf /\ st=⟨128,[(0,iL next),(1,fI a),(5,.osl 0),(6,.osl 1),(7,iL rows),(39,iL rows),(40,eI (next.length:Int)),(41,eI (k:Int))],[(0,some (.row 4 1 (dM G))),(1,some (oW lf))],2⟩) (fun st=>next.length - ap st 41) ⟨_,(wE @hrl),0,_,Vd _,BB.start next rows G,rfl⟩ ?_;rintro _ ⟨k,lf,hk,hLf,rfl⟩;have hll:=hLf.len;by_cases hlt:k<next.length
  .obtain ⟨q,hq⟩:∃ q,q=rows.getD k []:=⟨_,rfl⟩;have hrow:(n8 rows)[k]?.getD []=[sI q]:=by rw [hq];simp [List.getD,show k<rows.length by omega]
   have hk1:k<rows.length:=(by omega);have hql:q.length<=800000:=by have:=hB.small k;rw [<- hq] at this;omega
   repeat' first|refine ge (kf @hrow (kf hk1 @hlt)) ?_|decide|refine sp ?_ ?_<;>intro _
   refine ae (fun st=>∃ (m:Nat) (lf:List Int),m<=q.length /\ BB next rows G k m lf /\ st=⟨128,[(0,iL next),(1,fI a),(5,.osl 0),(6,.osl 1),(7,iL rows),(39,iL rows),(40,eI (next.length:Int)),(41,eI (k:Int)),(9,eI (k:Int)),(46,sI q),(47,eI (q.length:Int)),(48,eI (m:Int))],[(0,some (.row 4 1 (dM G))),(1,some (oW lf))],2⟩) (fun st=>q.length - ap st 48) ⟨_,(wE trivial),0,lf,Vd _,hLf,rfl⟩ ?_;rintro _ ⟨m,lf,hm,hLf,rfl⟩;have hll:=hLf.len;have hkG:k<G.length:=(by omega);have hrG:(dM G)[k]?.getD []=[eB (G.getD k false)]:=(by simp [List.getD,hkG]);by_cases hlt2:m<q.length
   .obtain ⟨i,hi,hil,hie⟩:=ye hB hlt (by rw [<- hq];exact hlt2);have hi1:=hi;rw [<- hq] at hi;have hi2:q[m]=(i:Int):=(by rw [<- hi,gn _ _ hlt2]);have hrj:(q.map fun n=>[eI n])[m]?.getD []=[eI (i:Int)]:=by rw [<- hi2];simp [hlt2]
    have hi3:i<lf.length:=(by omega);have hri:=pr hi3
    cases hv:G.getD k false with
    | false=>
     have h3:=hLf.skip hv;rw [hv] at hrG
     repeat' first|refine gf (kf @hlt2 (kf @hrj (kf @hkG @hrG))) ?_|decide|refine sp ?_ ?_<;>intro _
     all_goals exact rI wC ⟨m+1,lf,by omega,h3,rfl⟩
    | true=>
     have h3:=hLf.add hv (by rw [<- hq];exact hlt2) hi1 hil;rw [hv] at hrG;have hsm:=hLf.small i;have hw:IntKind.i64.wrap (lf.getD i 0+1)=lf.getD i 0+1:=aB (by omega) (by omega);have hset:=zf lf i (lf.getD i 0+1)
     repeat' first|refine gf (kf @hlt2 (kf @hrj (kf @hkG (kf @hrG (kf hi3 (kf @hri (kf hw @hset))))))) ?_|decide|refine sp ?_ ?_<;>intro _
     all_goals exact rI (wE @hset) ⟨m+1,_,by omega,h3,rfl⟩
   .obtain rfl:m=q.length:=by omega
    have h3:=BB.row (i:=k) (by rw [<- hq];exact hLf) hB hlt (by rw [<- hq];exact hql)
    repeat' first|refine gf @hlt2 ?_|decide|refine sp ?_ ?_<;>intro _
    all_goals exact rI wC ⟨k+1,lf,by omega,h3,rfl⟩
  .obtain rfl:k=next.length:=by omega
   have hGU:=GU.start (a:=a) (lf:=lf) hB (by rw [<- hG];exact hLf);rw [<- hG] at hGU
   repeat' first|refine ge @hlt ?_|decide|refine sp ?_ ?_<;>intro _
   refine ae (fun st=>∃ (k:Nat) (L:List Bool) (F:List Int),k<=next.length /\ GU next a (fun j=>k<=j) HN L F lf /\ st=⟨128,[(0,iL next),(1,fI a),(5,.osl 0),(6,.osl 1),(7,iL rows),(13,.op 2 0 0),(65,eI (next.length:Int)),(66,eI (k:Int))],[(0,some (.row 4 1 (dM L))),(1,some (oW lf)),(2,some (.box 176 [.osl 3])),(3,some (oW F))],4⟩) (fun st=>next.length - ap st 66)
    ⟨_,((cu 2 0 3 1 (t:=176) (cells:=[.c (.slice none 0 0)]) (by simp [af.gc]) rfl).trans (wE @WB)),0,G,[],Vd _,hGU,rfl⟩ ?_
   rintro _ ⟨k,L,F,hk,hU,rfl⟩;have hLl:=hU.len;have hFl:F.length<=200:=by have:=hU.small;omega
   by_cases hlt:k<next.length
   .have hkL:k<L.length:=(by omega);have hkf:k<lf.length:=(by omega);have hrL:(dM L)[k]?.getD []=[eB (L.getD k false)]:=(by simp [List.getD,hkL]);have hrf:=pr hkf;have hq:∀ j,k<=j -> j=k \/ k+1<=j:=fun j h=>by omega
    cases hv:L.getD k false with
    | false=>
     have h3:=hU.settle k hq (by rw [hv];simp);rw [hv] at hrL
     repeat' first|refine gf (kf @hlt (kf @hkL @hrL)) ?_|decide|refine sp ?_ ?_<;>intro _
     all_goals exact rI wC ⟨k+1,L,F,by omega,h3,rfl⟩
    | true=>
     rw [hv] at hrL;by_cases h0:lf.getD k 0=0
     .have h3:=hU.take k hq hv h0;have hz:(lf.getD k 0 == 0)=true:=Wu.2 h0;have hset:=r8 L k false;have e1:(F ++ [(k:Int)]).map (fun n=>[eI n])=F.map (fun n=>[eI n]) ++ [[eI (k:Int)]]:=(by simp)
      repeat' first|refine gf (kf @hlt (kf @hkL (kf @hrL (kf @hkf (kf @hrf (kf hz @hset)))))) ?_|decide|refine sp ?_ ?_<;>intro _
      refine lD ?_;refine cg ag Tryz.func96 rfl (by decide) Tryz.ntmps96 Tryz.results96 rfl (by kernel_rfl) [0,1,5,6,7,13,65,66] fun vs=>?_
      repeat' first|refine ge (kf @bO @bE) ?_|decide|refine sp ?_ ?_<;>intro _
      refine ⟨rfl,⟨by omega,by omega⟩,?_⟩
      repeat' first|refine go ?_|simp only [fS,fT,gi,bO,bE,bh,bI,bH,aD.shift,ca]|decide|refine sp ?_ ?_<;>intro _
      repeat' first|refine go ?_|decide|refine sp ?_ ?_<;>intro _
      all_goals exact rI (wS [4,5,6,10] e1) ⟨k+1,_,_,by omega,h3,rfl⟩
     .have h3:=hU.settle k hq (fun h=>h0 h.2);have hz:(lf.getD k 0 == 0)=false:=(by simpa using h0)
      repeat' first|refine gf (kf @hlt (kf @hkL (kf @hrL (kf @hkf (kf @hrf hz))))) ?_|decide|refine sp ?_ ?_<;>intro _
      all_goals exact rI wC ⟨k+1,L,F,by omega,h3,rfl⟩
   .obtain rfl:k=next.length:=by omega
    have hW:GU next a DV HN L F lf:=⟨hU.len,hU.lenF,hU.nodup,hU.inW,hU.inA,hU.sup,hU.val,fun k hk _ hL=>hU.pos k hk (by omega) hL,hU.small⟩;have hF4:F.length<=200:=hFl
    repeat' first|refine ge @hlt ?_|decide|refine sp ?_ ?_<;>intro _
    rcases iC F with rfl|⟨W,x,rfl⟩
    case' inl=>
     refine lD ?_;refine cg ag Tryz.func97 rfl (by decide) Tryz.ntmps97 Tryz.results97 rfl (by kernel_rfl) [0,1,5,6,7,13] fun vs=>?_;have hw:IntKind.i64.wrap (((0:Nat):Int) - 1) = -1:=(by decide);have hn:decide ((-1:Int)<0)=true:=rfl
     repeat' first|refine ge (kf @bO (kf @bE (kf hw hn))) ?_|decide|refine sp ?_ ?_<;>intro _
     repeat' first|refine go ?_|simp only [fS,fT,gi,bO,bE,bh,bI,bH,aD.shift,ca]|decide|refine sp ?_ ?_<;>intro _
     repeat' first|refine go ?_|decide|refine sp ?_ ?_<;>intro _
    case' inr=>
     have hFl:W.length+1<=200:=(by simpa using hF4);refine lD ?_;refine cg ag Tryz.func97 rfl (by decide) Tryz.ntmps97 Tryz.results97 rfl (by kernel_rfl) [0,1,5,6,7,13] fun vs=>?_;have hw:IntKind.i64.wrap ((W.length:Int)+1 - 1)=(W.length:Int):=by rw [aB (by omega) (by omega)];omega
     have hlt:(W.length:Int)<(W.length:Int)+1:=(by omega);have hrow:(List.map (fun n=>[eI n]) (W ++ [x]))[W.length]?.getD []=[eI x]:=(by simp);have hlt2:W.length<W.length+1:=(by omega);have hle:(W.length:Int)<=(W.length:Int)+1:=(by omega);have htk:List.take W.length (List.map (fun n=>[eI n]) (W ++ [x]))=List.map (fun n=>[eI n]) W:=(by simp);have hn:decide ((W.length:Int)<0)=false:=Vv (by omega)
     repeat' first|refine ge (kf @bO (kf @bE (kf @Vk (kf @Vz (kf @Xm (kf @XO (kf hw (kf hn (kf @hlt (kf @hlt2 (kf @hle (kf @hrow @htk)))))))))))) ?_|decide|refine sp ?_ ?_<;>intro _
     repeat' first|refine go ?_|simp only [fS,fT,gi,bO,bE,bh,bI,bH,aD.shift,ca]|decide|refine sp ?_ ?_<;>intro _
     repeat' first|refine go ?_|decide|refine sp ?_ ?_<;>intro _
    all_goals
     refine ae (fun st=>∃ (x:Int) (o:Bool) (L:List Bool) (W lf:List Int),Uy next a o x L W lf /\ st=⟨128,[(0,iL next),(1,fI a),(5,.osl 0),(6,.osl 1),(7,iL rows),(13,.op 2 0 0),(15,eI x),(16,eB o)],[(0,some (.row 4 1 (dM L))),(1,some (oW lf)),(2,some (.box 176 [.osl 3])),(3,some (oW W))],4⟩) Rz ?_ ?_
     .first
       | exact ⟨_,(wR [4,5,6,7]),0,false,_,[],_,.inl ⟨rfl,rfl,hW⟩,rfl⟩
       | exact ⟨_,(wR [4,5,6,9]),x,true,_,_,_,.inr ⟨rfl,hW⟩,rfl⟩
     rintro _ ⟨x,o,L,W,lf,hH,rfl⟩;rcases hH with ⟨rfl,rfl,hW⟩|⟨rfl,hW⟩
     .repeat' first|refine gq ?_|decide|refine sp ?_ ?_<;>intro _
      rw [hW.done];all_goals exact aM (by simp [af.gc])
     .obtain ⟨k0,rfl,hk0,hW⟩:=hW.pop hB;obtain ⟨q,hq⟩:∃ q,q=rows.getD k0 []:=⟨_,rfl⟩;rw [<- hq] at hW;have hrow:(n8 rows)[k0]?.getD []=[sI q]:=by rw [hq];simp [List.getD,show k0<rows.length by omega]
      have hk1:k0<rows.length:=(by omega);have hql:q.length<=800000:=by have:=hB.small k0;rw [<- hq] at this;omega
      repeat' first|refine ge (kf @hrow hk1) ?_|decide|refine sp ?_ ?_<;>intro _
      refine ae (fun st=>∃ (m:Nat) (L2:List Bool) (F lf:List Int),m<=q.length /\ GU next a DV (fun k=>(q.drop m).count (k:Int)) L2 F lf /\ 2 * cnt L2+F.length<=2 * cnt L+W.length /\ st=⟨128,[(0,iL next),(1,fI a),(5,.osl 0),(6,.osl 1),(7,iL rows),(13,.op 2 0 0),(98,sI q),(99,eI (q.length:Int)),(100,eI (m:Int))],[(0,some (.row 4 1 (dM L2))),(1,some (oW lf)),(2,some (.box 176 [.osl 3])),(3,some (oW F))],4⟩) (fun st=>q.length - ap st 100) ⟨_,(wE trivial),0,L,W,lf,Vd _,hW,Vh _,rfl⟩ ?_;rintro _ ⟨m,L2,F,lf,hm,hW2,hmu,rfl⟩;have hLl2:=hW2.len;have hlf2:=hW2.lenF;have hFl:F.length<=200:=by have:=hW2.small;omega
      by_cases hlt:m<q.length
      .obtain ⟨i,hi,hil,hie⟩:=ye hB hk0 (by rw [<- hq];exact hlt);rw [<- hq] at hi;have hi2:q[m]=(i:Int):=(by rw [<- hi,gn _ _ hlt]);have hrj:(q.map fun n=>[eI n])[m]?.getD []=[eI (i:Int)]:=by rw [<- hi2];simp [hlt]
       have hi3:i<L2.length:=(by omega);have hi4:i<lf.length:=(by omega);have hri:(dM L2)[i]?.getD []=[eB (L2.getD i false)]:=(by simp [List.getD,hi3]);have hrf:=pr hi4;have hbd:=hW2.bound hnl hrl0 (fun k=>by have:((q.drop m).count (k:Int))<=(q.drop m).length:=List.count_le_length;rw [Wa] at this;omega) i;have hdec:=hW2.dec hlt hi hil;have hw:IntKind.i64.wrap (lf.getD i 0 - 1)=lf.getD i 0 - 1:=aB (by omega) (by omega);have hsetf:=zf lf i (lf.getD i 0 - 1);have hi5:i<(lf.set i (lf.getD i 0 - 1)).length:=by rw [We];exact hi4
       have hg5:(lf.set i (lf.getD i 0 - 1)).getD i 0=lf.getD i 0 - 1:=(by rw [lR _ _ _ hi4,Vo rfl]);have hrf5:=pr hi5;rw [hg5] at hrf5;have hq1:∀ j,j=i -> j=i \/ DV j:=fun j h=>.inl h;obtain ⟨lf5,hlf5⟩:∃ l,l=lf.set i (lf.getD i 0 - 1):=⟨_,rfl⟩;rw [<- hlf5] at hdec hsetf hi5 hg5 hrf5
       cases hv:L2.getD i false with
       | false=>
        have h3:=hdec.settle (q':=DV) i hq1 (by rw [hv];simp);rw [hv] at hri
        repeat' first|refine gf (kf @hlt (kf @hrj (kf hi3 (kf hi4 (kf @hri (kf @hrf (kf hw @hsetf))))))) ?_|decide|refine sp ?_ ?_<;>intro _
        all_goals exact rI (wE @hsetf) ⟨m+1,L2,F,_,by omega,h3,hmu,rfl⟩
       | true=>
        rw [hv] at hri;by_cases h0:lf.getD i 0 - 1=0
        .have h3:=hdec.take (q':=DV) i hq1 hv (by rw [hg5];exact h0);have hz:(lf.getD i 0 - 1 == 0)=true:=Wu.2 h0;have hset:=r8 L2 i false;have hc3:=qr L2 i hi3 hv;have e1:(F ++ [(i:Int)]).map (fun n=>[eI n])=F.map (fun n=>[eI n]) ++ [[eI (i:Int)]]:=(by simp)
         repeat' first|refine gf (kf @hlt (kf @hrj (kf hi3 (kf hi4 (kf @hri (kf @hrf (kf hw (kf @hsetf (kf hi5 (kf @hrf5 (kf hz @hset))))))))))) ?_|decide|refine sp ?_ ?_<;>intro _
         refine lD ?_;refine cg ag Tryz.func96 rfl (by decide) Tryz.ntmps96 Tryz.results96 rfl (by kernel_rfl) [0,1,5,6,7,13,98,99,100] fun vs=>?_
         repeat' first|refine ge (kf @bO @bE) ?_|decide|refine sp ?_ ?_<;>intro _
         refine ⟨rfl,⟨by omega,by omega⟩,?_⟩
         repeat' first|refine go ?_|simp only [fS,fT,gi,bO,bE,bh,bI,bH,aD.shift,ca]|decide|refine sp ?_ ?_<;>intro _
         repeat' first|refine go ?_|decide|refine sp ?_ ?_<;>intro _
         all_goals exact rI (wS [4,5,6,10] (kf e1 @hsetf)) ⟨m+1,_,_,_,by omega,h3,by rw [Vk];simp only [Vz];omega,rfl⟩
        .have h3:=hdec.settle (q':=DV) i hq1 (fun h=>h0 (by rw [<- hg5];exact h.2));have hz:(lf.getD i 0 - 1 == 0)=false:=(by simpa using h0)
         repeat' first|refine gf (kf @hlt (kf @hrj (kf hi3 (kf hi4 (kf @hri (kf @hrf (kf hw (kf @hsetf (kf hi5 (kf @hrf5 hz)))))))))) ?_|decide|refine sp ?_ ?_<;>intro _
         all_goals exact rI (wE @hsetf) ⟨m+1,L2,F,_,by omega,h3,hmu,rfl⟩
      .obtain rfl:m=q.length:=by omega
       have hW4:=hW2.close (Vh _)
       repeat' first|refine ge @hlt ?_|decide|refine sp ?_ ?_<;>intro _
       rcases iC F with rfl|⟨W2,y,rfl⟩
       .have hlt9:=hlt;refine lD ?_;refine cg ag Tryz.func97 rfl (by decide) Tryz.ntmps97 Tryz.results97 rfl (by kernel_rfl) [0,1,5,6,7,13] fun vs=>?_;have hw:IntKind.i64.wrap (((0:Nat):Int) - 1) = -1:=(by decide);have hn:decide ((-1:Int)<0)=true:=rfl
        repeat' first|refine ge (kf @bO (kf @bE (kf hw hn))) ?_|decide|refine sp ?_ ?_<;>intro _
        repeat' first|refine go ?_|simp only [fS,fT,gi,bO,bE,bh,bI,bH,aD.shift,ca]|decide|refine sp ?_ ?_<;>intro _
        repeat' first|refine go ?_|decide|refine sp ?_ ?_<;>intro _
        all_goals exact cZ (wR [4,5,6,7]) ⟨0,false,_,[],_,.inl ⟨rfl,rfl,hW4⟩,rfl⟩ (by rw [pm (by decide),pm (by decide)];simp only [Vk,Vz,Wq,↓reduceIte,VM] at hmu ⊢;omega)
       .have hFl:W2.length+1<=200:=(by simpa using hFl);refine lD ?_;refine cg ag Tryz.func97 rfl (by decide) Tryz.ntmps97 Tryz.results97 rfl (by kernel_rfl) [0,1,5,6,7,13] fun vs=>?_;have hw:IntKind.i64.wrap ((W2.length:Int)+1 - 1)=(W2.length:Int):=by rw [aB (by omega) (by omega)];omega
        have hlt:(W2.length:Int)<(W2.length:Int)+1:=(by omega);have hrow:(List.map (fun n=>[eI n]) (W2 ++ [y]))[W2.length]?.getD []=[eI y]:=(by simp);have hlt2:W2.length<W2.length+1:=(by omega);have hle:(W2.length:Int)<=(W2.length:Int)+1:=(by omega);have htk:List.take W2.length (List.map (fun n=>[eI n]) (W2 ++ [y]))=List.map (fun n=>[eI n]) W2:=(by simp);have hn:decide ((W2.length:Int)<0)=false:=Vv (by omega)
        repeat' first|refine ge (kf @bO (kf @bE (kf @Vk (kf @Vz (kf @Xm (kf @XO (kf hw (kf hn (kf @hlt (kf @hlt2 (kf @hle (kf @hrow @htk)))))))))))) ?_|decide|refine sp ?_ ?_<;>intro _
        repeat' first|refine go ?_|simp only [fS,fT,gi,bO,bE,bh,bI,bH,aD.shift,ca]|decide|refine sp ?_ ?_<;>intro _
        repeat' first|refine go ?_|decide|refine sp ?_ ?_<;>intro _
        all_goals exact cZ (wR [4,5,6,9]) ⟨y,true,_,_,_,.inr ⟨rfl,hW4⟩,rfl⟩ (by rw [pm (by decide),pm (by decide)];simp only [Vk,Vz,Wq,↓reduceIte,VM] at hmu ⊢;omega)
end
section
structure nT where
 ev:Int
 us:Int
 dst:Int
abbrev HG (e:nT):List AV:=[eI e.ev,eI e.us,eI e.dst]
abbrev ib (l:List (List nT)):List (List AV):=l.map fun r=>[.sl 3 (r.map HG)]
abbrev aU (l:List (List nT)):List (List Int):=l.map fun r=>r.map nT.dst
theorem MZ (sz:Nat) (rows:List (List AV)) (l:List (List nT)) (hl:l.length<=1000000) (hr:∀ r ∈ l,r.length<=1000000):aw Tryz.prog 21 [.agg [.sl sz rows,.sl 1 (ib l)]] (g8 87 1 (n8 (aU l))):=by
 refine aa ag Tryz.func21 rfl (by decide) Tryz.ntmps21 Tryz.results21 rfl (ch _ _ _) ?_
 repeat' first|refine go ?_|decide|refine sp ?_ ?_<;>intro _
 refine ae (fun st=>∃ k:Nat,k<=l.length /\ st=⟨34,[(3,.osl 0),(10,.sl 1 (ib l)),(11,eI (l.length:Int)),(12,eI (k:Int))],[(0,some (.row 87 1 (n8 (aU (l.take k)))))],1⟩) (fun st=>l.length - ap st 12) ⟨_,((be 3 87 1 (by simp only [iz,aj.get,bb,aj.put,↓reduceIte,reduceCtorEq,Nat.reduceLT,Nat.reduceEqDiff,Nat.reduceAdd,Nat.reduceLeDiff,eq_self,implies_true,aU,n8,Vu])).trans (wS [1] (kf @aU.eq_1 (kf @n8.eq_1 @Vu)))),0,Vd _,rfl⟩ ?_;rintro _ ⟨k,hk,rfl⟩;by_cases hlt:k<l.length
 .have hrk:=hr _ (Vg hlt);obtain ⟨q,hq⟩:∃ q,q=l[k]:=⟨_,rfl⟩;have hrow:(ib l)[k]?.getD []=[.sl 3 (q.map HG)]:=by rw [hq];simp [ib,hlt]
  rw [<- hq] at hrk
  repeat' first|refine ge (kf @hrow @hlt) ?_|decide|refine sp ?_ ?_<;>intro _
  refine ae (fun st=>∃ j:Nat,j<=q.length /\ st=⟨34,[(3,.osl 0),(10,.sl 1 (ib l)),(11,eI (l.length:Int)),(12,eI (k:Int)),(6,.osl 1),(16,.sl 3 (q.map HG)),(17,eI (q.length:Int)),(18,eI (j:Int))],[(0,some (.row 87 1 (n8 (aU (l.take k))))),(1,some (.row 3 1 ((q.take j).map fun e=>[eI e.dst])))],2⟩) (fun st=>q.length - ap st 18) ⟨_,((be 6 3 1 (by simp only [iz,aj.get,bb,aj.put,↓reduceIte,reduceCtorEq,Nat.reduceLT,Nat.reduceEqDiff,Nat.reduceAdd,Nat.reduceLeDiff,eq_self,implies_true,Vu])).trans (wS [0,1] @Vu)),0,Vd _,rfl⟩ ?_
  .rintro _ ⟨j,hj,rfl⟩;by_cases hlt2:j<q.length
   .have et:(q.take (j+1)).map (fun e=>[eI e.dst])=(q.take j).map (fun e=>[eI e.dst]) ++ [[eI q[j].dst]]:=dc _ _ hlt2
    repeat' first|refine go ?_|simp only [ab,hlt2]|decide|refine sp ?_ ?_<;>intro _
    refine ⟨rfl,⟨by simp only [Vr];omega,by simp only [Vr];omega⟩,cZ (wS [0,4] et) ⟨j+1,by omega,rfl⟩ (by simp only [ap,aj.get,bb,aj.put,↓reduceIte,Nat.reduceLT,Nat.reduceEqDiff];omega)⟩
   obtain rfl:j=q.length:=by omega
   repeat' first|refine go ?_|simp only [ab,hlt2,Vq]|decide|refine sp ?_ ?_<;>intro _
   have et:n8 (aU (l.take (k+1)))=n8 (aU (l.take k)) ++ [[.sl 1 (q.map fun e=>[eI e.dst])]]:=by
    rw [Vi hlt,<- hq];simp [n8,aU,sI,Function.comp_def]
   refine ⟨rfl,⟨by simp only [Vr];omega,by simp only [Vr];omega⟩,cZ (wS [3] et) ⟨k+1,by omega,rfl⟩ (by simp only [ap,aj.get,bb,aj.put,↓reduceIte,Nat.reduceLT,Nat.reduceEqDiff];omega)⟩
 obtain rfl:k=l.length:=by omega
 repeat' first|refine ge (kf @hlt @Vq) ?_|decide|refine sp ?_ ?_<;>intro _
 exact aM (by simp [af.gc])
noncomputable def fF (next:List (List Int)) (sets:List (List Bool)) (s:df):List Bool:=
 let a:=sets.getD s.a.toNat []
 let b:=sets.getD s.b.toNat []
 if (s.op == 15)=true then a.map (!·) else if (s.op == 16)=true then ld a b else if (s.op == 20)=true then pA next a else if (s.op == 26)=true then ux next a b else EA next a
abbrev jL (l:List (List Bool)):List (List AV):=l.map fun a=>[fI a]
theorem tp {l:List (List Bool)} {i:Int} (h:0<=i) (hl:i<l.length):(jL l)[i.toNat]?.getD []=[fI (l.getD i.toNat [])]:=by
 have:i.toNat<l.length:=by omega
 simp [jL,List.getD,this]
theorem pd {l:List (List Bool)} {i:Int} (h:0<=i) (hl:i<l.length):l.getD i.toNat [] ∈ l:=by
 have:i.toNat<l.length:=by omega
 simp [List.getD,this]
theorem J8 (next:List (List Int)) (sets:List (List Bool)) (s:df) (hx:nc next) (hs:∀ a ∈ sets,a.length<=1000000) (ha:0<=s.a /\ s.a<sets.length) (hb:0<=s.b /\ s.b<sets.length) :
  aw Tryz.prog 23 [.rp [iL next,.sl 1 (jL sets)],.agg (nU s)] (g8 4 1 (dM (fF next sets s))):=by
 refine aa ag Tryz.func23 rfl (by decide) Tryz.ntmps23 Tryz.results23 rfl (ch _ _ _) ?_;obtain ⟨a0,a1⟩:=ha;obtain ⟨b0,b1⟩:=hb;have a2:s.a.toNat<sets.length:=by omega
 have b2:s.b.toNat<sets.length:=by omega
 have ra:=tp a0 a1;have rb:=tp b0 b1;have la:=hs _ (pd a0 a1);have lb:=hs _ (pd b0 b1)
 repeat' first|refine go ?_|decide|refine sp ?_ ?_<;>intro _
 refine aA (by kernel_rfl) ?_
 repeat' first|refine ge (kf a0 (kf a1 (kf a2 ra))) ?_|decide|refine sp ?_ ?_<;>intro _
 .rename_i h1;have e:fF next sets s=(sets.getD s.a.toNat []).map (!·):=by simp only [fF,h1,↓reduceIte,VM]
  rw [e];refine cd (UG _ la) (.inr (aP _)) ?_
  repeat' first|refine go ?_|decide|refine sp ?_ ?_<;>intro _
  exact aM (by simp [af.gc])
 .rename_i h1 h2;have e:fF next sets s=ld (sets.getD s.a.toNat []) (sets.getD s.b.toNat []):=by simp only [fF,h1,h2,↓reduceIte,VM]
  rw [e];refine ay [] [0,1,2,3,4,5,6,7,8] (.exec 9 (.exec 10 .done)) (by kernel_rfl) (by simp [af.gc]) ?_
  repeat' first|refine ge (kf b0 (kf b1 (kf b2 rb))) ?_|decide|refine sp ?_ ?_<;>intro _
  refine cd (Ul _ _ la lb) (.inr (aP _)) ?_
  repeat' first|refine go ?_|decide|refine sp ?_ ?_<;>intro _
  exact aM (by simp [af.gc])
 .rename_i h1 h2 h3;have e:fF next sets s=pA next (sets.getD s.a.toNat []):=by simp only [fF,h1,h2,h3,↓reduceIte,VM]
  rw [e];refine cd (UP next _ hx la) (.inr (aP _)) ?_
  repeat' first|refine go ?_|decide|refine sp ?_ ?_<;>intro _
  exact aM (by simp [af.gc])
 .rename_i h1 h2 h3 h4;have e:fF next sets s=ux next (sets.getD s.a.toNat []) (sets.getD s.b.toNat []):=by simp only [fF,h1,h2,h3,h4,↓reduceIte,VM]
  rw [e];refine ay [] [0,1,2,3,4,5,6,7,8,9,10,11,12] (.exec 13 (.exec 14 .done)) (by kernel_rfl) (by simp [af.gc]) ?_
  repeat' first|refine ge (kf b0 (kf b1 (kf b2 rb))) ?_|decide|refine sp ?_ ?_<;>intro _
  refine cd (UV next _ _ hx la lb) (.inr (aP _)) ?_
  repeat' first|refine go ?_|decide|refine sp ?_ ?_<;>intro _
  exact aM (by simp [af.gc])
 .rename_i h1 h2 h3 h4;have e:fF next sets s=EA next (sets.getD s.a.toNat []):=by simp only [fF,h1,h2,h3,h4,↓reduceIte,VM]
  rw [e];refine cd (UW next _ hx la) (.inr (aP _)) ?_
  repeat' first|refine go ?_|decide|refine sp ?_ ?_<;>intro _
  exact aM (by simp [af.gc])
noncomputable def gv (next:List (List Int)) (at_:ah -> List Bool) (sets:List (List Bool)) (s:df):List Bool:=if 1<=s.op /\ s.op<=14 then at_ s.x else fF next sets s
noncomputable def dm (next:List (List Int)) (at_:ah -> List Bool) (l:List df):List (List Bool):=l.foldl (fun sets s=>sets ++ [gv next at_ sets s]) []
theorem lu {next:List (List Int)} {at_:ah -> List Bool} {l:List df} {k:Nat} (hk:k<l.length):dm next at_ (l.take (k+1))=dm next at_ (l.take k) ++ [gv next at_ (dm next at_ (l.take k)) l[k]]:=by
 unfold dm;rw [Vi hk,WK];rfl
theorem jc {next:List (List Int)} {at_:ah -> List Bool} (l:List df):∀ k,k<=l.length -> (dm next at_ (l.take k)).length=k
 | 0,_=>by simp [dm]
 | k+1,hk=>by
  rw [lu (by omega),Vk,jc l k (by omega)];rfl
theorem ES {next:List (List Int)} {sets:List (List Bool)} {s:df} {n:Nat} (hs:∀ a ∈ sets,a.length=n) (ha:0<=s.a /\ s.a<sets.length) (hb:0<=s.b /\ s.b<sets.length) (hn:next.length=n):(fF next sets s).length=n:=by
 have la:=hs _ (pd ha.1 ha.2);have lb:=hs _ (pd hb.1 hb.2);unfold fF;simp only;split
 .simp only [Vp];exact la
 .split
  .unfold ld;simp only [Vp,List.length_range,la,lb,Nat.max_self]
  .split
   .rw [sJ];exact hn
   .split
    .rw [cF];exact hn
    .rw [dl];exact hn
theorem pP {next:List (List Int)} {at_:ah -> List Bool} {l:List df} {n:Nat} (hl:k9 l) (hn:next.length=n) (hat:∀ s ∈ l,1<=s.op /\ s.op<=14 -> (at_ s.x).length=n):∀ k,k<=l.length -> ∀ a ∈ dm next at_ (l.take k),a.length=n
 | 0,_,a,ha=>by simp [dm] at ha
 | k+1,hk,a,ha=>by
  rw [lu (by omega)] at ha;rcases Vs.1 ha with ha|ha
  .exact pP hl hn hat k (by omega) a ha
  .simp at ha;subst ha;unfold gv;split
   .rename_i h;exact hat _ (Vg (by omega)) h
   .rename_i h;have h1:=hl.lt k l[k] (p0 (by omega));have h2:=h1.2.2.1 h;have h3:=jc (next:=next) (at_:=at_) l k (by omega);exact ES (pP hl hn hat k (by omega)) ⟨h1.1.1,by omega⟩ ⟨h1.2.1.1,by omega⟩ hn
end
end
section
section
noncomputable def gu (next:List (List Int)) (at_:ah -> List Bool) (l:List ah):List Bool:=(dm next at_ (gg l).1).getD (gG (gg l).2).toNat []
noncomputable def iM (n:Nat) (es:List (List nT)) (at_:ah -> List Bool) (l:List ah):cS:=
 if bf (l.map ah.op)=0 /\ n=es.length then ⟨.tup [fI (gu (aU es) at_ l),eI 0],[],0⟩ else ⟨.tup [.c (.slice none 0 0),eI 17],[],0⟩
theorem GF (n:Nat) (es:List (List nT)) (at_:ah -> List Bool) (l:List ah):(iM n es at_ l).Ok:=by
 unfold iM;split
 .exact ⟨fun id o h=>(by cases h),⟨trivial,trivial,trivial⟩⟩
 .exact ⟨fun id o h=>(by cases h),⟨trivial,trivial,trivial⟩⟩
def U5 (m:bl) (c:List Int) (sz:Nat) (rows:List (List AV)) (es:List (List nT)) (at_:ah -> List Bool) (L:List df) (n:Int) (st:aj):Prop:=∃ k:Nat,k<=L.length /\
 st=⟨90,[(1,sI c),(4,.op 0 0 0),(6,.op 1 0 0),(10,.sl 10 (L.map nU)),(11,eI n),(13,.op 2 0 0),(38,eI (L.length:Int)),(39,eI (k:Int))],[(0,some (.box 32 (aQ m))),(1,some (.box 39 [.sl sz rows,.sl 1 (ib es)])),(2,some (.box 82 [iL (aU es),.osl 3])),(3,some (.row 43 1 (jL (dm (aU es) at_ (L.take k)))))],4⟩
theorem vT (m:bl) (c:List Int) (sz:Nat) (rows:List (List AV)) (hsz:(bA Tryz.prog 36).2=sz) (es:List (List nT)) (l:List ah) (at_:ah -> List Bool) (hx:∀ x ∈ l,x.ok) (hl:l.length<=1000000) (hr:rows.length<=1000000) (he:es.length<=1000000) (hee:∀ r ∈ es,r.length<=1000000)
  (hnx:rows.length=es.length -> nc (aU es))
  (hat:rows.length=es.length -> ∀ s ∈ (gg l).1,s.x.ok -> 1<=s.op /\ s.op<=14 -> s.x.op=s.op -> aw Tryz.prog 22 [.agg (aQ m),sI c,.sl sz rows,.agg (cq s.x)] (g8 4 1 (dM (at_ s.x))) /\ (at_ s.x).length=rows.length) :
  aw Tryz.prog 8 [.agg (aQ m),sI c,.agg [.sl sz rows,.sl 1 (ib es)],aX l] (iM rows.length es at_ l):=by
 refine aa ag Tryz.func8 rfl (by decide) Tryz.ntmps8 Tryz.results8 rfl (GF _ _ _ _) ?_;have hst:=Nv l hx hl;by_cases hc:bf (l.map ah.op)=0
 .have hr:nE l=⟨.tup [.sl 10 ((gg l).1.map nU),eI (gG (gg l).2),eI 0],[],0⟩:=Vo hc;rw [hr] at hst
  repeat' first|refine go ?_|decide|refine sp ?_ ?_<;>intro _
  refine bJ hst (ro) ?_;have z:((0:Int) != 0)=false:=rfl;by_cases hn:rows.length=es.length
  .have en:((rows.length:Int) != (es.length:Int))=false:=(by simp [hn]);have hR:iM rows.length es at_ l=⟨.tup [fI (gu (aU es) at_ l),eI 0],[],0⟩:=Vo ⟨hc,hn⟩;rw [hR];obtain ⟨L,hL⟩:∃ L,L=(gg l).1:=⟨_,rfl⟩;obtain ⟨n,hn'⟩:∃ n,n=gG (gg l).2:=⟨_,rfl⟩
   have hlen:0<l.length /\ l.length<=64:=by
    have:=hc;unfold bf at this;simp only [Vp] at this;split at this
    .cases this
    .split at this
     .cases this
     .omega
   have hrow:bx (l.map ah.op) 0=some 1:=by
    have:=hc;unfold bf at this;simp only [Vp] at this;split at this
    .cases this
    .split at this
     .cases this
     .split at this
      .assumption
      .cases this
   obtain ⟨hgs,hdep⟩:=mN hrow hx hlen.2 l.length (Vh _);rw [Vq] at hgs hdep;rw [hrow] at hdep
   have hin:In L n:=by
    rw [hL,hn'];exact hgs.row _ (jf (by have:=WD hdep;omega)).1
   have hgL:ey (8 * l.length) L:=hL ▸ hgs.good;have hlF:gu (aU es) at_ l=(dm (aU es) at_ L).getD n.toNat []:=(by rw [gu,<- hL,<- hn']);rw [hlF,<- hL,<- hn'];have hxn:=hnx hn;have hl2:L.length<=512:=by have:=hgL.len;omega
   repeat' first|refine ge (kf z (kf en @hsz)) ?_|decide|refine sp ?_ ?_<;>intro _
   refine cd (MZ sz rows es he hee) (ro) ?_
   repeat' first|refine go ?_|decide|refine sp ?_ ?_<;>intro _
   refine ae (U5 m c sz rows es at_ L n) (fun st=>L.length - ap st 39) ?_ ?_
   .refine ⟨_,(oe _ 2).trans ?_,0,Vd _,rfl⟩;simp only [iE,gj,b8,af.gc,aD.frz,AV.frz,AV.frzL,↓reduceIte,Nat.reduceEqDiff,VT,XM,reduceCtorEq,Xz];exact (cu 3 1 43 1 (t:=82) (cells:=[iL (aU es),.c (.slice none 0 0)]) rfl rfl).trans (wS [0,1,3,4] (kf @WB (kf @W5 (kf @Vu (kf @dm.eq_1 @WV)))))
   rintro _ ⟨k,hk,rfl⟩;have hle:=jc (next:=aU es) (at_:=at_) L
   have hatl:∀ s ∈ L,1<=s.op /\ s.op<=14 -> (at_ s.x).length=rows.length:=fun s hs hop=>by
    obtain ⟨i,hi⟩:=V8 hs;exact (hat hn s (hL ▸ hs) (hgL.ok s hs).2.2.2 hop ((hgL.st.lt i s hi).2.2.2 hop)).2
   by_cases hlt:k<L.length
   .have hst3:=hgL.st.lt k L[k] (p0 hlt);have hok:=hgL.ok L[k] (Vg hlt);have hss:=lu (next:=aU es) (at_:=at_) hlt;obtain ⟨S,hS⟩:∃ S,S=dm (aU es) at_ (L.take k):=⟨_,rfl⟩;have hSl:S.length=k:=hS ▸ hle k hk
    have hSb:∀ a ∈ S,a.length<=1000000:=fun a ha=>by
     have:=pP hgL.st (by rw [Vp];exact hn.symm) hatl k hk a (hS ▸ ha);omega
    rw [<- hS] at hss ⊢;obtain ⟨s,hs⟩:∃ s,s=L[k]:=⟨_,rfl⟩;rw [<- hs] at hst3 hok hss;have hrow:(L.map nU)[k]?.getD []=nU s:=by rw [hs];simp [hlt]
    by_cases hop:1<=s.op /\ s.op<=14
    .have d1:decide (1<=s.op)=true:=Vy hop.1;have d2:decide (s.op<=14)=true:=Vy hop.2;have hF:gv (aU es) at_ S s=at_ s.x:=Vo hop;rw [hF] at hss
     repeat' first|refine ge (kf @hrow (kf @hlt (kf d1 d2))) ?_|decide|refine sp ?_ ?_<;>intro _
     refine ay [2,3] [0,1,2,3,5,6,7,8,9,10] (.two 4 (.exec 11 (.exec 12 (.exec 13 (.take 14 (.take 15 (.exec 16 .done)))))) 11 (.two 4 (.exec 12 (.exec 13 (.take 14 (.take 15 (.exec 16 .done))))) 12 (.exec 4 (.exec 13 (.take 14 (.take 15 (.exec 16 .done))))))) (by kernel_rfl) (by simp [af.gc]) ?_
     repeat' first|refine go ?_|decide|refine sp ?_ ?_<;>intro _
     refine ⟨?_,?_⟩;all_goals refine cd (hat hn s (by rw [<- hL,hs];exact Vg hlt) hok.2.2.2 hop (hst3.2.2.2 hop)).1 (.inr (aP _)) ?_
     all_goals
      repeat' first|refine go ?_|decide|refine sp ?_ ?_<;>intro _
      first|refine ⟨rfl,⟨(by (try simp only [Vp]);omega),(by (try simp only [Vp]);omega)⟩,?_⟩|refine ⟨⟨rfl,⟨(by (try simp only [Vp]);omega),(by (try simp only [Vp]);omega)⟩,?_⟩,rfl,⟨(by (try simp only [Vp]);omega),(by (try simp only [Vp]);omega)⟩,?_⟩
      all_goals
       exact cZ (wS [0,1,2,7] (kf @hss @VI)) ⟨k+1,by omega,rfl⟩ (by simp only [ap,aj.get,bb,aj.put,↓reduceIte,Nat.reduceLT,Nat.reduceEqDiff];omega)
    .have hd:(decide (1<=s.op)=true /\ decide (s.op<=14)=false) \/ decide (1<=s.op)=false:=by
      by_cases h1:1<=s.op
      .exact .inl ⟨Vy h1,Vv (by omega)⟩
      .exact .inr (Vv h1)
     have hF:gv (aU es) at_ S s=fF (aU es) S s:=Vj hop;rw [hF] at hss;have ha:=hst3.2.2.1 hop;rcases hd with ⟨d1,d2⟩|d1
     .repeat' first|refine ge (kf @hrow (kf @hlt (kf d1 d2))) ?_|decide|refine sp ?_ ?_<;>intro _
      refine ay [2,3] [0,1,2,3,5,6] (.two 4 (.exec 7 (.exec 8 (.exec 9 (.take 10 (.take 11 (.exec 12 .done)))))) 7 (.two 4 (.exec 8 (.exec 9 (.take 10 (.take 11 (.exec 12 .done))))) 8 (.exec 4 (.exec 9 (.take 10 (.take 11 (.exec 12 .done))))))) (by kernel_rfl) (by simp [af.gc]) ?_
      repeat' first|refine go ?_|decide|refine sp ?_ ?_<;>intro _
      refine ⟨?_,?_⟩;all_goals refine cd (J8 (aU es) S s hxn hSb ⟨hst3.1.1,by omega⟩ ⟨hst3.2.1.1,by omega⟩) (.inr (aP _)) ?_
      all_goals
       repeat' first|refine go ?_|decide|refine sp ?_ ?_<;>intro _
       first|refine ⟨rfl,⟨(by (try simp only [Vp]);omega),(by (try simp only [Vp]);omega)⟩,?_⟩|refine ⟨⟨rfl,⟨(by (try simp only [Vp]);omega),(by (try simp only [Vp]);omega)⟩,?_⟩,rfl,⟨(by (try simp only [Vp]);omega),(by (try simp only [Vp]);omega)⟩,?_⟩
       all_goals
        exact cZ (wS [0,1,2,7] (kf @hss @VI)) ⟨k+1,by omega,rfl⟩ (by simp only [ap,aj.get,bb,aj.put,↓reduceIte,Nat.reduceLT,Nat.reduceEqDiff];omega)
     .repeat' first|refine ge (kf @hrow (kf @hlt d1)) ?_|decide|refine sp ?_ ?_<;>intro _
      refine ay [2,3] [0,1,2,3,5,6] (.two 4 (.exec 7 (.exec 8 (.exec 9 (.take 10 (.take 11 (.exec 12 .done)))))) 7 (.two 4 (.exec 8 (.exec 9 (.take 10 (.take 11 (.exec 12 .done))))) 8 (.exec 4 (.exec 9 (.take 10 (.take 11 (.exec 12 .done))))))) (by kernel_rfl) (by simp [af.gc]) ?_
      repeat' first|refine go ?_|decide|refine sp ?_ ?_<;>intro _
      refine ⟨?_,?_⟩;all_goals refine cd (J8 (aU es) S s hxn hSb ⟨hst3.1.1,by omega⟩ ⟨hst3.2.1.1,by omega⟩) (.inr (aP _)) ?_
      all_goals
       repeat' first|refine go ?_|decide|refine sp ?_ ?_<;>intro _
       first|refine ⟨rfl,⟨(by (try simp only [Vp]);omega),(by (try simp only [Vp]);omega)⟩,?_⟩|refine ⟨⟨rfl,⟨(by (try simp only [Vp]);omega),(by (try simp only [Vp]);omega)⟩,?_⟩,rfl,⟨(by (try simp only [Vp]);omega),(by (try simp only [Vp]);omega)⟩,?_⟩
       all_goals
        exact cZ (wS [0,1,2,7] (kf @hss @VI)) ⟨k+1,by omega,rfl⟩ (by simp only [ap,aj.get,bb,aj.put,↓reduceIte,Nat.reduceLT,Nat.reduceEqDiff];omega)
   obtain rfl:k=L.length:=by omega
   have hLn:=hle L.length (Vh _);rw [Vq] at hLn;have n0:=hin.ge;have n1:n<((dm (aU es) at_ L).length:Int):=by rw [hLn];exact hin.lt
   have n2:n.toNat<(dm (aU es) at_ L).length:=(by omega);have rn:=tp n0 n1
   repeat' first|refine ge (kf @hlt (kf @Vq (kf n0 (kf n1 (kf n2 rn))))) ?_|decide|refine sp ?_ ?_<;>intro _
   exact fM rfl
  .have en:((rows.length:Int) != (es.length:Int))=true:=by simp;omega
   have hR:iM rows.length es at_ l=⟨.tup [.c (.slice none 0 0),eI 17],[],0⟩:=Vj fun h=>hn h.2;rw [hR]
   repeat' first|refine ge (kf z (kf en @hsz)) ?_|decide|refine sp ?_ ?_<;>intro _
   exact fM rfl
 .have hr:nE l=⟨.tup [.c (.slice none 0 0),eI 0,eI 17],[],0⟩:=Vj hc;have hR:iM rows.length es at_ l=⟨.tup [.c (.slice none 0 0),eI 17],[],0⟩:=Vj fun h=>hc h.1;rw [hr] at hst;rw [hR];have z:((17:Int) != 0)=true:=rfl
  repeat' first|refine go ?_|decide|refine sp ?_ ?_<;>intro _
  refine bJ hst (ro) ?_
  repeat' first|refine ge z ?_|decide|refine sp ?_ ?_<;>intro _
  exact fM rfl
noncomputable def gV (n:Nat) (es:List (List nT)) (at_:ah -> List Bool) (l:List ah):cS:=
 if bf (l.map ah.op)=0 /\ n=es.length then (if n=0 then ⟨.tup [eB false,eI 12],[],0⟩ else ⟨.tup [eB ((gu (aU es) at_ l).getD 0 false),eI 0],[],0⟩) else ⟨.tup [eB false,eI 17],[],0⟩
theorem Gm (n:Nat) (es:List (List nT)) (at_:ah -> List Bool) (l:List ah):(gV n es at_ l).Ok:=by
 unfold gV;split
 .split
  .exact ⟨fun id o h=>(by cases h),⟨trivial,trivial,trivial⟩⟩
  .exact ⟨fun id o h=>(by cases h),⟨trivial,trivial,trivial⟩⟩
 .exact ⟨fun id o h=>(by cases h),⟨trivial,trivial,trivial⟩⟩
theorem wz (m:bl) (c:List Int) (sz:Nat) (rows:List (List AV)) (es:List (List nT)) (l:List ah) (at_:ah -> List Bool)
  (hlab:aw Tryz.prog 8 [.agg (aQ m),sI c,.agg [.sl sz rows,.sl 1 (ib es)],aX l] (iM rows.length es at_ l)) (hlen:bf (l.map ah.op)=0 /\ rows.length=es.length -> (gu (aU es) at_ l).length=rows.length) :
  aw Tryz.prog 10 [.agg (aQ m),sI c,.agg [.sl sz rows,.sl 1 (ib es)],aX l] (gV rows.length es at_ l):=by
 refine aa ag Tryz.func10 rfl (by decide) Tryz.ntmps10 Tryz.results10 rfl (Gm _ _ _ _) ?_;by_cases h:bf (l.map ah.op)=0 /\ rows.length=es.length
 .have hR:iM rows.length es at_ l=⟨.tup [fI (gu (aU es) at_ l),eI 0],[],0⟩:=Vo h;rw [hR] at hlab;have hl:=hlen h;obtain ⟨q,hq⟩:∃ q,q=gu (aU es) at_ l:=⟨_,rfl⟩;have z:((0:Int) != 0)=false:=rfl;rw [<- hq] at hlab hl;by_cases hn:rows.length=0
  .have hH:gV rows.length es at_ l=⟨.tup [eB false,eI 12],[],0⟩:=(by rw [gV,Vo h,Vo hn]);have e0:((q.length:Int) == 0)=true:=Wu.2 (by omega);rw [hH]
   repeat' first|refine go ?_|decide|refine sp ?_ ?_<;>intro _
   refine bJ hlab (ro) ?_
   repeat' first|refine ge (kf z e0) ?_|decide|refine sp ?_ ?_<;>intro _
   exact fM rfl
  .have hH:gV rows.length es at_ l=⟨.tup [eB (q.getD 0 false),eI 0],[],0⟩:=(by rw [gV,Vo h,Vj hn,<- hq]);have e0:((q.length:Int) == 0)=false:=VP.2 (by omega);have e1:(0:Int)<q.length:=(by omega);have e2:0<q.length:=(by omega)
   have e3:(dM q)[0]?.getD []=[eB (q.getD 0 false)]:=by
    rw [Ve,p0 e2];simp [List.getD,e2]
   have e4:Int.toNat 0=0:=rfl;rw [hH]
   repeat' first|refine go ?_|decide|refine sp ?_ ?_<;>intro _
   refine bJ hlab (ro) ?_
   repeat' first|refine ge (kf z (kf e0 (kf e1 (kf e2 (kf e3 (kf e4 @Xo)))))) ?_|decide|refine sp ?_ ?_<;>intro _
   exact fM rfl
 .have hR:iM rows.length es at_ l=⟨.tup [.c (.slice none 0 0),eI 17],[],0⟩:=Vj h;have hH:gV rows.length es at_ l=⟨.tup [eB false,eI 17],[],0⟩:=Vj h;have z:((17:Int) != 0)=true:=rfl;rw [hR] at hlab;rw [hH]
  repeat' first|refine go ?_|decide|refine sp ?_ ?_<;>intro _
  refine bJ hlab (ro) ?_
  repeat' first|refine ge z ?_|decide|refine sp ?_ ?_<;>intro _
  exact fM rfl
end
section
def gJ (ops:List Int):Nat -> Nat -> Int
 | 0,_=>-1
 | i+1,want=>
  if aC (ops.getD i 0)=0 then (if want=1 then (i:Int) else gJ ops i (want - 1))
  else if aC (ops.getD i 0)=1 then gJ ops i want
  else if aC (ops.getD i 0)=2 then gJ ops i (want+1)
  else -1
theorem k8 (op:Int):aC op=0 \/ aC op=1 \/ aC op=2 \/ aC op = -1:=by
 unfold aC;split
 .exact .inl rfl
 .split
  .exact .inr (.inl rfl)
  .split
   .exact .inr (.inr (.inl rfl))
   .exact .inr (.inr (.inr rfl))
theorem vp (ops:List Int) {i:Nat} (hi:i<ops.length) (d:Nat):bx (ops.take (i+1)) d=(bx (ops.take i) d).bind fun d'=>cD d' (ops.getD i 0):=by
 rw [Vi hi,ji]
 congr 1
 funext d'
 have:ops.getD i 0=ops[i]:=by simp [List.getD,hi]
 rw [this,bx];cases cD d' ops[i]<;>rfl
theorem tY (ops:List Int):∀ (q want d:Nat),q<=ops.length -> 1<=want -> want<=d -> bx (ops.take q) 0=some d -> ∃ b:Nat,gJ ops q want=(b:Int) /\ b<q /\ bx (ops.take b) 0=some (d - want)
 | 0,want,d,_,h1,h2,h=>by
  simp [bx] at h;omega
 | i+1,want,d,hi,h1,h2,h=>by
  rw [vp ops (by omega)] at h
  cases hd:bx (ops.take i) 0 with
  | none=>rw [hd] at h;cases h
  | some d'=>
   rw [hd,Wm] at h;unfold cD at h;rw [gJ];rcases k8 (ops.getD i 0) with e|e|e|e
   .rw [Vo e] at h;cases h;rw [Vo e];by_cases hw:want=1
    .rw [Vo hw];exact ⟨i,rfl,Wb _,by rw [hd,hw];rfl⟩
    .rw [Vj hw];obtain ⟨b,e1,e2,e3⟩:=tY ops i (want - 1) d' (by omega) (by omega) (by omega) hd;exact ⟨b,e1,by omega,by rw [e3];congr 1;omega⟩
   .have e0:¬ aC (ops.getD i 0)=0:=(by omega);rw [Vj e0] at h ⊢;rw [Vo e];by_cases h3:1<=d'
    .rw [Vo ⟨e,h3⟩] at h;cases h;obtain ⟨b,e1,e2,e3⟩:=tY ops i want d (by omega) h1 h2 hd;exact ⟨b,e1,by omega,e3⟩
    .rw [Vj (by simp [h3]),Vj (by omega)] at h;cases h
   .have e0:¬ aC (ops.getD i 0)=0:=(by omega);have e1':¬ aC (ops.getD i 0)=1:=(by omega);rw [Vj e0,Vj (fun h=>e1' h.1)] at h;rw [Vj e0,Vj e1',Vo e];by_cases h3:2<=d'
    .rw [Vo ⟨e,h3⟩] at h;cases h;obtain ⟨b,e1,e2,e3⟩:=tY ops i (want+1) d' (by omega) (by omega) (by omega) hd;exact ⟨b,e1,by omega,by rw [e3];congr 1;omega⟩
    .rw [Vj (by simp [h3])] at h;cases h
   .rw [Vj (by omega),Vj (by omega),Vj (by omega)] at h;cases h
theorem JG {ops:List Int} {b d:Nat} (hb:b<=ops.length) (h:bx (ops.take b) 0=some d) (h0:0<b):0<d:=by
 obtain ⟨i,rfl⟩:∃ i,b=i+1:=⟨b - 1,by omega⟩;rw [vp ops (by omega)] at h
 cases hd:bx (ops.take i) 0 with
 | none=>rw [hd] at h;cases h
 | some d'=>
  rw [hd,Wm] at h;unfold cD at h;split at h
  .cases h;omega
  .split at h
   .cases h;omega
   .split at h
    .cases h;omega
    .cases h
theorem mS (ops:List Int):∀ (q want b:Nat),q<=ops.length -> 1<=want -> gJ ops q want=(b:Int) -> ∃ bs,ops.take q=ops.take b ++ bs /\ ∀ d,bx bs d=some (d+want)
 | 0,want,b,_,_,h=>by
  rw [gJ] at h;omega
 | i+1,want,b,hi,h1,h=>by
  have hs:=Vi (l:=ops) (show i<ops.length by omega);have hg:ops.getD i 0=ops[i]:=by simp [List.getD,show i<ops.length by omega]
  rw [gJ,hg] at h;rcases k8 ops[i] with e|e|e|e
  .rw [Vo e] at h;by_cases hw:want=1
   .rw [Vo hw] at h;have:i=b:=by omega
    subst this;exact ⟨[ops[i]],hs,fun d=>by simp [bx,cD,e,hw]⟩
   .rw [Vj hw] at h;obtain ⟨bs,e1,e2⟩:=mS ops i (want - 1) b (by omega) (by omega) h;exact ⟨bs ++ [ops[i]],by rw [hs,e1,VZ],fun d=>by rw [ji,e2,Wm,bx,cD,Vo e];simp [bx];omega⟩
  .have e0:¬ aC ops[i]=0:=(by omega);rw [Vj e0,Vo e] at h;obtain ⟨bs,e1,e2⟩:=mS ops i want b (by omega) h1 h;exact ⟨bs ++ [ops[i]],by rw [hs,e1,VZ],fun d=>by rw [ji,e2,Wm,bx,cD,Vj e0,Vo ⟨e,by omega⟩];simp [bx]⟩
  .have e0:¬ aC ops[i]=0:=(by omega);have e1':¬ aC ops[i]=1:=(by omega);rw [Vj e0,Vj e1',Vo e] at h;obtain ⟨bs,e1,e2⟩:=mS ops i (want+1) b (by omega) (by omega) h;exact ⟨bs ++ [ops[i]],by rw [hs,e1,VZ],fun d=>by rw [ji,e2,Wm,bx,cD,Vj e0,Vj (by simp [e1']),Vo ⟨e,by omega⟩];simp [bx]⟩
  .rw [Vj (by omega),Vj (by omega),Vj (by omega)] at h;omega
def lB (ops:List Int):Int:=if ops.length=0 then 12 else if 64<ops.length then 3 else if gJ ops ops.length 1=0 then 0 else 17
theorem vL (ops:List Int) (h0:ops.length ≠ 0) (h64:ops.length<=64):gJ ops ops.length 1=0 ↔ bx ops 0=some 1:=by
 constructor
 .intro h;obtain ⟨bs,e1,e2⟩:=mS ops ops.length 1 0 (Vh _) (Vh _) (by simpa using h);rw [Vq,Vu,WW] at e1;rw [e1,e2]
 .intro h;obtain ⟨b,e1,e2,e3⟩:=tY ops ops.length 1 1 (Vh _) (Vh _) (Vh _) (by rw [Vq];exact h);by_cases hb:b=0
  .rw [e1,hb];rfl
  .have:=JG (by omega) e3 (by omega);omega
def fw (a:List Bool) (row:List Int):Bool:=row.all fun k=>rq a k
def Gi (next:List (List Int)) (a:List Bool):List Bool:=next.map (fw a)
def iP (next:List (List Int)) (a out:List Bool):List Bool:=(List.range out.length).map fun i=>out.getD i false || (rq a (i:Int) && (Gi next out).getD i false)
def nI (next:List (List Int)) (a b:List Bool):Nat -> List Bool
 | 0=>b
 | m+1=>iP next a (nI next a b m)
def BA (next:List (List Int)) (a b:List Bool):List Bool:=nI next a b (next.length+1)
def iH (op:Int) (a b:List Bool):List Bool:=(List.range (min a.length b.length)).map fun i=>if op=18 then !(a.getD i false) || b.getD i false else if op=17 then a.getD i false || b.getD i false else a.getD i false && b.getD i false
noncomputable def pH (next:List (List Int)) (op:Int) (a:List Bool):List Bool:=
 if op=15 then a.map (!·)
 else if op=19 then Gi next a
 else if op=20 then pA next a
 else if op=21 then BA next (List.replicate next.length true) a
 else if op=22 then ux next (List.replicate next.length true) a
 else if op=23 then (ux next (List.replicate next.length true) (a.map (!·))).map (!·)
 else EA next a
noncomputable def tW (next:List (List Int)) (op:Int) (a b:List Bool):List Bool:=
 if op=25 then BA next a b else if op=26 then ux next a b else iH op a b
abbrev Rm:=List (List Bool)
def fG (s:Rm):List Bool:=s.getLastD []
noncomputable def iX (next:List (List Int)) (at_:ah -> List Bool) (s:Rm) (x:ah):Rm:=
 if aC x.op=1 then s.dropLast ++ [pH next x.op (fG s)]
 else if aC x.op=2 then s.dropLast.dropLast ++ [tW next x.op (fG s.dropLast) (fG s)]
 else s ++ [at_ x]
noncomputable def dq (next:List (List Int)) (at_:ah -> List Bool) (l:List ah):Rm:=l.foldl (iX next at_) []
theorem mC {next:List (List Int)} {at_:ah -> List Bool} {l:List ah} {k:Nat} (hk:k<l.length):dq next at_ (l.take (k+1))=iX next at_ (dq next at_ (l.take k)) l[k]:=by
 unfold dq;rw [Vi hk,WK];rfl
noncomputable def uF (next:List (List Int)) (at_:ah -> List Bool) (l:List ah):List Bool:=fG (dq next at_ l)
theorem tb (next:List (List Int)) (a:List Bool):(Gi next a).length=next.length:=by simp [Gi]
theorem cQ (next:List (List Int)) (a b:List Bool):∀ m,(nI next a b m).length=b.length
 | 0=>rfl
 | m+1=>by rw [nI,iP,Vp,List.length_range,cQ next a b m]
theorem z8 (next:List (List Int)) (op:Int) (a:List Bool) (h:a.length=next.length):(pH next op a).length=next.length:=by
 unfold pH;split
 .simp [h]
 .split
  .exact tb _ _
  .split
   .exact sJ _ _
   .split
    .rw [BA,cQ,h]
    .split
     .exact cF _ _ _
     .split
      .simp [cF]
      .exact dl _ _
theorem Bq (next:List (List Int)) (op:Int) (a b:List Bool) (ha:a.length=next.length) (hb:b.length=next.length):(tW next op a b).length=next.length:=by
 unfold tW;split
 .rw [BA,cQ,hb]
 .split
  .exact cF _ _ _
  .simp [iH,ha,hb]
theorem gO {s:Rm} (h:0<s.length):fG s ∈ s:=by
 have hne:s ≠ []:=by intro e;simp [e] at h
 unfold fG;rw [List.getLastD_eq_getLast?,List.getLast?_eq_some_getLast hne];exact List.getLast_mem hne
theorem uh {s:Rm} {a:List Bool} (h:a ∈ s.dropLast):a ∈ s:=(List.dropLast_sublist _).subset h
theorem mY {d d':Nat} {op:Int} (h:cD d op=some d'):(aC op=0 /\ d'=d+1) \/ (aC op=1 /\ 1<=d /\ d'=d) \/ (aC op=2 /\ 2<=d /\ d'=d - 1):=by
 unfold cD at h;split at h
 .rename_i e;cases h;exact .inl ⟨e,rfl⟩
 .split at h
  .rename_i e;cases h;exact .inr (.inl ⟨e.1,e.2,rfl⟩)
  .split at h
   .rename_i e;cases h;exact .inr (.inr ⟨e.1,e.2,rfl⟩)
   .cases h
theorem oS {next:List (List Int)} {at_:ah -> List Bool} {l:List ah} {e:Nat} (h:bx (l.map ah.op) 0=some e) (hat:∀ x ∈ l,aC x.op=0 -> (at_ x).length=next.length):∀ k,k<=l.length -> (∀ a ∈ dq next at_ (l.take k),a.length=next.length) /\ bx ((l.take k).map ah.op) 0=some (dq next at_ (l.take k)).length
 | 0,_=>⟨by simp [dq],by simp [dq,bx]⟩
 | k+1,hk=>by
  obtain ⟨h1,h2⟩:=oS h hat k (by omega);obtain ⟨d,h3,d',h4,h5⟩:=mA h (show k<l.length by omega);rw [h2] at h3;cases h3;rw [mC (by omega),h5];generalize dq next at_ (l.take k)=s at *;unfold iX;rcases mY h4 with ⟨e1,rfl⟩|⟨e1,e2,rfl⟩|⟨e1,e2,rfl⟩
  .rw [Vj (by omega),Vj (by omega)];refine ⟨fun a ha=>?_,by simp⟩;rcases Vs.1 ha with ha|ha
   .exact h1 a ha
   .simp at ha;subst ha;exact hat _ (Vg _) e1
  .rw [Vo e1];refine ⟨fun a ha=>?_,by simp;omega⟩;rcases Vs.1 ha with ha|ha
   .exact h1 a (uh ha)
   .simp at ha;subst ha;exact z8 _ _ _ (h1 _ (gO e2))
  .rw [Vj (by omega),Vo e1];refine ⟨fun a ha=>?_,by simp;omega⟩;rcases Vs.1 ha with ha|ha
   .exact h1 a (uh (uh ha))
   .simp at ha;subst ha;exact Bq _ _ _ _ (h1 _ (uh (gO (by simp;omega)))) (h1 _ (gO (by omega)))
theorem rP {next:List (List Int)} {at_:ah -> List Bool} {l:List ah} {e:Nat} (h:bx (l.map ah.op) 0=some e) (hat:∀ x ∈ l,aC x.op=0 -> (at_ x).length=next.length):∀ (q want b:Nat),q<=l.length -> 1<=want -> want<=(dq next at_ (l.take q)).length -> gJ (l.map ah.op) q want=(b:Int) ->
  b<=q /\ dq next at_ (l.take b)=(dq next at_ (l.take q)).take ((dq next at_ (l.take q)).length - want)
 | 0,want,b,_,h1,h2,hb=>by
  simp [dq] at h2;omega
 | i+1,want,b,hi,h1,h2,hb=>by
  obtain ⟨g1,g2⟩:=oS h hat i (by omega);obtain ⟨d,h3,d',h4,h5⟩:=mA h (show i<l.length by omega);rw [g2] at h3;cases h3;have hg:(l.map ah.op).getD i 0=l[i].op:=by simp [List.getD,show i<l.length by omega]
  rw [gJ,hg] at hb;rw [mC (by omega)] at h2 ⊢;rcases mY h4 with ⟨e1,_⟩|⟨e1,e2,_⟩|⟨e1,e2,_⟩
  .rw [Vo e1] at hb;have hs:iX next at_ (dq next at_ (l.take i)) l[i]=dq next at_ (l.take i) ++ [at_ l[i]]:=(by rw [iX,Vj (by omega),Vj (by omega)]);rw [hs] at h2 ⊢;rw [Vk,Vz] at h2 ⊢;by_cases hw:want=1
   .rw [Vo hw] at hb;have:i=b:=by omega
    subst this;refine ⟨by omega,?_⟩;rw [hw,WA,List.take_left'];rfl
   .rw [Vj hw] at hb;obtain ⟨k1,k2⟩:=rP h hat i (want - 1) b (by omega) (by omega) (by omega) hb;refine ⟨by omega,?_⟩;rw [k2,Wj (by omega)]
    congr 1
    omega
  .rw [Vj (by omega),Vo e1] at hb;have hs:iX next at_ (dq next at_ (l.take i)) l[i]=(dq next at_ (l.take i)).dropLast ++ [pH next l[i].op (fG (dq next at_ (l.take i)))]:=(by rw [iX,Vo e1]);rw [hs] at h2 ⊢;rw [Vk,Vz,Xb] at h2 ⊢;obtain ⟨k1,k2⟩:=rP h hat i want b (by omega) h1 (by omega) hb;refine ⟨by omega,?_⟩;rw [k2,Wj (by rw [Xb];omega),WZ,List.take_take]
   congr 1
   omega
  .rw [Vj (by omega),Vj (by omega),Vo e1] at hb;have hs:iX next at_ (dq next at_ (l.take i)) l[i]=(dq next at_ (l.take i)).dropLast.dropLast ++ [tW next l[i].op (fG (dq next at_ (l.take i)).dropLast) (fG (dq next at_ (l.take i)))]:=(by rw [iX,Vj (by omega),Vo e1]);rw [hs] at h2 ⊢;rw [Vk,Vz,Xb,Xb] at h2 ⊢;obtain ⟨k1,k2⟩:=rP h hat i (want+1) b (by omega) (by omega) (by omega) hb;refine ⟨by omega,?_⟩;rw [k2,Wj (by rw [Xb,Xb];omega),WZ,WZ,List.take_take,List.take_take]
   congr 1
   simp;omega
end
section
abbrev uV (n:Int):List AV:=[eI n,eS ByteArray.empty,eI 0,eS ByteArray.empty,eI 0,eS ByteArray.empty,eS ByteArray.empty,eI 0,eI 0]
end
section
theorem Ab (n:Int):aw Tryz.prog 61 [eI n] (val (.int .i64 (aC n))):=by
 refine aa ag Tryz.func61 rfl (by decide) Tryz.ntmps61 Tryz.results61 rfl (aI _) ?_;unfold aC
 repeat' first|refine go ?_|decide|refine sp ?_ ?_<;>intro _
 all_goals
  simp only [VJ,VA,Wu,VP,VB,Xl] at *
  (repeat' split)<;>first|rfl|(exfalso;omega)
theorem Ad (l:List Int) (q:Nat) (hq:q<=l.length) (hl:l.length<=1000000):aw Tryz.prog 26 [.sl 9 (l.map uV),eI ((q:Int) - 1)] (val (.int .i64 (gJ l q 1))):=by
 refine aa ag Tryz.func26 rfl (by decide) Tryz.ntmps26 Tryz.results26 rfl (aI _) ?_
 repeat' first|refine go ?_|decide|refine sp ?_ ?_<;>intro _
 refine ae (fun st=>∃ k w:Nat,k<=q /\ (1<=w /\ w+k<=q+1 /\ gJ l q 1=gJ l k w) /\ st=⟨28,[(0,.sl 9 (l.map uV)),(5,eI (w:Int)),(6,eI ((k:Int) - 1))],[],0⟩) (fun st=>(match st.get 6 with | .c (.int _ n)=>(n+1).toNat | _=>0)) ⟨_,wC,q,1,Vh _,⟨Vh _,by omega,rfl⟩,rfl⟩ ?_;rintro _ ⟨k,w,hk,⟨hw1,hw2,hB⟩,rfl⟩;rw [hB]
 cases k with
 | zero=>
  have e0:decide ((0:Int)<=((0:Nat):Int) - 1)=false:=by decide
  rw [gJ]
  repeat' first|refine ge e0 ?_|decide|refine sp ?_ ?_<;>intro _
 | succ j=>
  have ej:((j+1:Nat):Int) - 1=(j:Int):=by omega
  have hj:j<l.length:=by omega
  simp only [ej];obtain ⟨x,hx⟩:∃ x,x=l[j]:=⟨_,rfl⟩;have hrow:(l.map uV)[j]?.getD []=uV x:=by rw [hx];simp [hj]
  have hg:l.getD j 0=x:=by rw [hx];simp [List.getD,hj]
  have hA:=Ab x;have ew:IntKind.i64.wrap ((j:Int) - 1)=(j:Int) - 1:=aB (by omega) (by omega);have d0:decide ((0:Int)<=(j:Int))=true:=by simp
  rw [gJ,hg] at hB ⊢;rcases k8 x with e|e|e|e
  .rw [e] at hA;rw [Vo e] at hB ⊢;have e1:IntKind.i64.wrap ((0:Int) - 1) = -1:=(by decide);have e2:IntKind.i64.wrap ((w:Int) + -1)=((w - 1:Nat):Int):=by rw [aB (by omega) (by omega)];omega
   have d1:decide ((0:Int)<0)=false:=(by decide);by_cases hw:w=1
   .have d2:(((w - 1:Nat):Int) == 0)=true:=Wu.2 (by omega);rw [Vo hw]
    repeat' first|refine gf (kf @hrow (kf hj (kf e1 (kf e2 (kf d0 (kf d1 d2)))))) ?_|decide|refine sp ?_ ?_<;>intro _|refine cA hA ?_|fail
   .have d2:(((w - 1:Nat):Int) == 0)=false:=VP.2 (by omega);rw [Vj hw] at hB ⊢
    repeat' first|refine gf (kf @hrow (kf hj (kf e1 (kf e2 (kf d0 (kf d1 d2)))))) ?_|decide|refine sp ?_ ?_<;>intro _|refine cA hA ?_|fail
    all_goals
     rw [<- hB];exact rI (wE ew) ⟨j,w - 1,by omega,⟨by omega,by omega,hB⟩,rfl⟩
  .rw [e] at hA;rw [Vj (by omega),Vo e] at hB ⊢;have e1:IntKind.i64.wrap ((1:Int) - 1)=0:=(by decide);have e2:IntKind.i64.wrap ((w:Int)+0)=(w:Int):=by rw [aB (by omega) (by omega)];omega
   have d1:decide ((1:Int)<0)=false:=(by decide);have d2:((w:Int) == 0)=false:=VP.2 (by omega)
   repeat' first|refine gf (kf @hrow (kf hj (kf e1 (kf e2 (kf d0 (kf d1 d2)))))) ?_|decide|refine sp ?_ ?_<;>intro _|refine cA hA ?_|fail
   all_goals
    rw [<- hB];exact rI (wE ew) ⟨j,w,by omega,⟨by omega,by omega,hB⟩,rfl⟩
  .rw [e] at hA;rw [Vj (by omega),Vj (by omega),Vo e] at hB ⊢;have e1:IntKind.i64.wrap ((2:Int) - 1)=1:=(by decide);have e2:IntKind.i64.wrap ((w:Int)+1)=((w+1:Nat):Int):=by rw [aB (by omega) (by omega)];omega
   have d1:decide ((2:Int)<0)=false:=(by decide);have d2:(((w+1:Nat):Int) == 0)=false:=VP.2 (by omega)
   repeat' first|refine gf (kf @hrow (kf hj (kf e1 (kf e2 (kf d0 (kf d1 d2)))))) ?_|decide|refine sp ?_ ?_<;>intro _|refine cA hA ?_|fail
   all_goals
    rw [<- hB];exact rI (wE ew) ⟨j,w+1,by omega,⟨by omega,by omega,hB⟩,rfl⟩
  .rw [e] at hA;rw [Vj (by omega),Vj (by omega),Vj (by omega)];have d1:decide ((-1:Int)<0)=true:=(by decide)
   repeat' first|refine gf (kf @hrow (kf hj (kf d0 d1))) ?_|decide|refine sp ?_ ?_<;>intro _|refine cA hA ?_|fail
theorem CT (l:List Int) (hl:l.length<=1000000):aw Tryz.prog 12 [.sl 9 (l.map uV)] (val (.int .i64 (lB l))):=by
 refine aa ag Tryz.func12 rfl (by decide) Tryz.ntmps12 Tryz.results12 rfl (aI _) ?_;have ew:IntKind.i64.wrap ((l.length:Int) - 1)=(l.length:Int) - 1:=aB (by omega) (by omega);have hB:=Ad l l.length (Vh _) hl;unfold lB;by_cases h0:l.length=0
 .have d0:((l.length:Int) == 0)=true:=Wu.2 (by omega);rw [Vo h0]
  repeat' first|refine gf d0 ?_|decide|refine sp ?_ ?_<;>intro _
 .have d0:((l.length:Int) == 0)=false:=VP.2 (by omega);rw [Vj h0];by_cases h1:64<l.length
  .have d1:decide ((64:Int)<(l.length:Int))=true:=Vy (by omega);rw [Vo h1]
   repeat' first|refine gf (kf d0 d1) ?_|decide|refine sp ?_ ?_<;>intro _
  .have d1:decide ((64:Int)<(l.length:Int))=false:=Vv (by omega);rw [Vj h1];by_cases h2:gJ l l.length 1=0
   .have d2:(gJ l l.length 1 != 0)=false:=(by simp [h2]);rw [Vo h2]
    repeat' first|refine gf (kf d0 (kf d1 (kf d2 ew))) ?_|decide|refine sp ?_ ?_<;>intro _|refine cA hB ?_|fail
   .have d2:(gJ l l.length 1 != 0)=true:=(by simp [h2]);rw [Vj h2]
    repeat' first|refine gf (kf d0 (kf d1 (kf d2 ew))) ?_|decide|refine sp ?_ ?_<;>intro _|refine cA hB ?_|fail
def Dj (e:TypeId) (sz:Nat) (rows:List (List AV)) (R:cS):Prop:=R=g8 e sz rows \/ (R=val (.slice none 0 0) /\ rows=[])
theorem iJ {P:Program} {f:FuncId} {args:List AV} (e:TypeId) {sz:Nat} {rows:List (List AV)} (h:dQ P f args (Dj e sz rows)):aw P f args ⟨.sl sz rows,[],0⟩:=o6 h
theorem i6 {e:TypeId} {sz:Nat} {rows:List (List AV)} (h:rows=[]):Dj e sz rows (val (.slice none 0 0)):=.inr ⟨rfl,h⟩
theorem i9 {e:TypeId} {sz:Nat} {rows:List (List AV)}:Dj e sz rows (g8 e sz rows):=.inl rfl
def IL (l:List Int) (e:Nat):List Int:=if aC (l.getD e 0)=0 then [] else if aC (l.getD e 0)=1 then [(e:Int) - 1] else [gJ l e 1 - 1,(e:Int) - 1]
theorem rW (l:List Int):∀ (q w:Nat),-1<=gJ l q w /\ gJ l q w<(q:Int)
 | 0,w=>by rw [gJ];omega
 | i+1,w=>by
  have h1:=rW l i (w - 1);have h2:=rW l i w;have h3:=rW l i (w+1);rw [gJ];repeat' split
  all_goals omega
theorem Tb (l:List Int) (e:Nat) (he:e<l.length) (hl:l.length<=1000000):aw Tryz.prog 52 [.sl 9 (l.map uV),eI (e:Int)] ⟨sI (IL l e),[],0⟩:=by
 refine iJ 3 ?_;refine bj ag Tryz.func52 rfl (by decide) Tryz.ntmps52 Tryz.results52 rfl ?_;obtain ⟨x,hx⟩:∃ x,x=l[e]:=⟨_,rfl⟩;have hrow:(l.map uV)[e]?.getD []=uV x:=by rw [hx];simp [he]
 have hg:l.getD e 0=x:=by rw [hx];simp [List.getD,he]
 have hA:=Ab x;have hB:=Ad l e (by omega) hl;have hb:=rW l e 1;have ew:IntKind.i64.wrap ((e:Int) - 1)=(e:Int) - 1:=aB (by omega) (by omega);have ew2:IntKind.i64.wrap (gJ l e 1 - 1)=gJ l e 1 - 1:=aB (by omega) (by omega);unfold IL;rw [hg];by_cases h0:aC x=0
 .have d0:(aC x == 0)=true:=by simp [h0]
  rw [Vo h0]
  repeat' first|refine gf (kf @hrow (kf he d0)) ?_|decide|refine sp ?_ ?_<;>intro _|refine cA hA ?_|fail
  all_goals exact cI (i6 rfl)
 .have d0:(aC x == 0)=false:=by simp [h0]
  rw [Vj h0];by_cases h1:aC x=1
  .have d1:(aC x == 1)=true:=(by simp [h1]);rw [Vo h1]
   repeat' first|refine gf (kf @hrow (kf he (kf d0 (kf d1 ew)))) ?_|decide|refine sp ?_ ?_<;>intro _|refine cA hA ?_|fail
   exact ⟨rfl,tt rfl i9⟩
  .have d1:(aC x == 1)=false:=(by simp [h1]);rw [Vj h1]
   repeat' first|refine gf (kf @hrow (kf he (kf d0 (kf d1 (kf ew ew2))))) ?_|decide|refine sp ?_ ?_<;>intro _|refine cA hA ?_|refine cA hB ?_|fail
   exact ⟨rfl,tt rfl i9⟩
theorem Mt (l:List ah) (hl:l.length<=70):aw Tryz.prog 13 [aX l] (g8 101 9 ((l.map ah.op).map uV)):=by
 refine aa ag Tryz.func13 rfl (by decide) Tryz.ntmps13 Tryz.results13 rfl (ch _ _ _) ?_
 repeat' first|refine go ?_|decide|refine sp ?_ ?_<;>intro _
 refine ae (fun st=>∃ k:Nat,k<=l.length /\ st=⟨25,[(0,aX l),(3,.osl 0),(4,eI (k:Int))],[(0,some (.row 101 9 (((l.take k).map ah.op).map uV)))],1⟩) (fun st=>l.length - ap st 4) ⟨_,((be 3 101 9 (by simp only [iz,aj.get,bb,aj.put,↓reduceIte,reduceCtorEq,Nat.reduceLT,Nat.reduceEqDiff,Nat.reduceAdd,Nat.reduceLeDiff,eq_self,implies_true,Vu,VL])).trans (wS [0] @Vu)),0,Vd _,rfl⟩ ?_;rintro _ ⟨k,hk,rfl⟩;by_cases hlt:k<l.length
 .have et:((l.take (k+1)).map ah.op).map uV=((l.take k).map ah.op).map uV ++ [uV l[k].op]:=by
   rw [Vi hlt];simp only [VI,V1,VL]
  obtain ⟨x,hx⟩:∃ x,x=l[k]:=⟨_,rfl⟩;have hrow:(l.map cq)[k]?.getD []=cq x:=by rw [hx];simp [hlt]
  have d7:decide ((k:Int)<70)=true:=Vy (by omega);have htl:(l.take k).length<=70:=by rw [Vr];omega
  rw [<- hx] at et
  repeat' first|refine gf (kf @hrow (kf @hlt d7)) ?_|decide|refine sp ?_ ?_<;>intro _|(with_reducible apply And.intro)
  all_goals first
   | rfl
   | omega
   | exact rI (wS [2] et) ⟨k+1,by omega,rfl⟩
 .obtain rfl:k=l.length:=by omega
  repeat' first|refine gf (kf @hlt @Vq) ?_|decide|refine sp ?_ ?_<;>intro _
  exact aM (by simp [af.gc])
end
end
section
section
def cp (g r:Int):Int:=if g<0 then 0 else min g (cV r)
abbrev eP (p:Int × Int):List AV:=[eI p.1,eI p.2]
theorem lL (r:Int):0<=cV r /\ cV r<=1048575:=by
 unfold cV;have h1:(2:Nat) ^ (min r.toNat 20)<=2 ^ 20:=VU (by omega) (by omega);have h2:((2 ^ (min r.toNat 20):Nat):Int)=(2:Int) ^ (min r.toNat 20):=by simp
 have h3:(0:Int)<2 ^ (min r.toNat 20):=Int.pow_pos (by omega);omega
theorem sR (g r:Int):0<=cp g r /\ cp g r<=cV r:=by
 have:=lL r;unfold cp;split<;>omega
theorem n5 (g r:Int):aw Tryz.prog 177 [eI g,eI r] (val (.int .i64 (cp g r))):=by
 refine aa ag Tryz.func177 rfl (by decide) Tryz.ntmps177 Tryz.results177 rfl (aI _) ?_;have hC:=vu r;by_cases h:g<0
 .have d:decide (g<0)=true:=by simpa using h
  unfold cp;rw [Vo h]
  repeat' first|refine gf d ?_|decide|refine sp ?_ ?_<;>intro _
 .have d:decide (g<0)=false:=by simpa using h
  unfold cp;rw [Vj h]
  repeat' first|refine gf d ?_|decide|refine sp ?_ ?_<;>intro _|refine cA hC ?_|fail
theorem UQ:(0:Int)<=1:=by decide
theorem UO:(0:Int)<((2:Nat):Int):=by decide
theorem UR:(1:Int)<((2:Nat):Int):=by decide
def lW (l:List (Int × Int)) (a b:Int):Bool:=l.any fun p=>p.1 == a && p.2 == b
theorem Jj {l:List (Int × Int)} {k:Nat} (hk:k<l.length) (a b:Int):lW (l.take (k+1)) a b=(lW (l.take k) a b || (l[k].1 == a && l[k].2 == b)):=by
 unfold lW;rw [Vi hk,List.any_append];simp
theorem OP {l:List (Int × Int)} (k:Nat) (a b:Int) (h:lW (l.take k) a b=true):lW l a b=true:=by
 unfold lW at *;rw [XD] at *;obtain ⟨x,hx,h⟩:=h;exact ⟨x,VR hx,h⟩
theorem CB (l:List (Int × Int)) (a b:Int) (hl:l.length<=1000000000000):aw Tryz.prog 179 [.sl 2 (l.map eP),eI a,eI b] (val (.bool (lW l a b))):=by
 refine aa ag Tryz.func179 rfl (by decide) Tryz.ntmps179 Tryz.results179 rfl (aI _) ?_
 repeat' first|refine go ?_|decide|refine sp ?_ ?_<;>intro _
 refine ae (fun st=>∃ k:Nat,k<=l.length /\ lW (l.take k) a b=false /\ st=⟨30,[(0,.sl 2 (l.map eP)),(1,eI a),(2,eI b),(7,eI (k:Int))],[],0⟩) (fun st=>l.length - ap st 7) ⟨_,wC,0,Vd _,rfl,rfl⟩ ?_;rintro _ ⟨k,hk,hI,rfl⟩;by_cases hlt:k<l.length
 .have hp:=Jj hlt a b;rw [hI,Xv] at hp;obtain ⟨x,hx⟩:∃ x,x=l[k]:=⟨_,rfl⟩;have hrow:(l.map eP)[k]?.getD []=eP x:=by rw [hx];simp [hlt]
  rw [<- hx] at hp;have q0:List.drop (Int.toNat 0 * 1) (eP x)=[eI x.1,eI x.2]:=rfl;have q1:List.drop (Int.toNat 1 * 1) (eP x)=[eI x.2]:=rfl
  cases h1:x.1 == a with
  | false=>
   rw [h1,VY] at hp
   repeat' first|refine ge (kf @hrow (kf @hlt (kf h1 (kf UO q0)))) ?_|decide|refine sp ?_ ?_<;>intro _
   exact rI wC ⟨k+1,by omega,hp,rfl⟩
  | true=>
   cases h2:x.2 == b with
   | false=>
    rw [h1,h2,VX] at hp
    repeat' first|refine ge (kf @hrow (kf @hlt (kf h1 (kf h2 (kf UO (kf UR (kf q0 (kf q1 UQ)))))))) ?_|decide|refine sp ?_ ?_<;>intro _
    exact rI wC ⟨k+1,by omega,hp,rfl⟩
   | true=>
    rw [h1,h2,VX] at hp;have:=OP _ _ _ hp;rw [this]
    repeat' first|refine ge (kf @hrow (kf @hlt (kf h1 (kf h2 (kf UO (kf UR (kf q0 (kf q1 UQ)))))))) ?_|decide|refine sp ?_ ?_<;>intro _
 .obtain rfl:k=l.length:=by omega
  rw [Vq] at hI;rw [hI]
  repeat' first|refine ge @hlt ?_|decide|refine sp ?_ ?_<;>intro _
def iU (g r:Int):Nat -> List (Int × Int)
 | 0=>[]
 | a+1=>if lW (iU g r a) (cp a (r - 1)) (cp (g - 1 - a) (r - 1))=true then iU g r a else iU g r a ++ [(cp a (r - 1),cp (g - 1 - a) (r - 1))]
theorem qp (g r:Int):∀ a,(iU g r a).length<=a
 | 0=>Vh _
 | a+1=>by
  have:=qp g r a;rw [iU];split
  .omega
  .rw [Vk,Vz];omega
theorem Sv (q:Nat) (r:Int) (hq:q<=100000000) (hr:-1000000<=r /\ r<=1000000):aw Tryz.prog 178 [eI (q:Int),eI r] (g8 55 2 ((iU (q:Int) r q).map eP)):=by
 refine aa ag Tryz.func178 rfl (by decide) Tryz.ntmps178 Tryz.results178 rfl (ch _ _ _) ?_;have er:IntKind.i64.wrap (r - 1)=r - 1:=aB (by omega) (by omega)
 repeat' first|refine go ?_|decide|refine sp ?_ ?_<;>intro _
 refine ae (fun st=>∃ k:Nat,k<=q /\ st=⟨37,[(0,eI (q:Int)),(1,eI r),(5,.osl 0),(6,eI (k:Int))],[(0,some (.row 55 2 ((iU (q:Int) r k).map eP)))],1⟩) (fun st=>q - ap st 6) ⟨_,((be 5 55 2 (by simp only [iz,aj.get,bb,aj.put,↓reduceIte,reduceCtorEq,Nat.reduceLT,Nat.reduceEqDiff,Nat.reduceAdd,Nat.reduceLeDiff,eq_self,implies_true,iU,VL])).trans (wS [0] (kf @iU.eq_1 @iU.eq_2))),0,Vd _,rfl⟩ ?_;rintro _ ⟨k,hk,rfl⟩;by_cases hlt:k<q
 .have e1:IntKind.i64.wrap ((q:Int) - 1)=(q:Int) - 1:=aB (by omega) (by omega);have e2:IntKind.i64.wrap ((q:Int) - 1 - (k:Int))=(q:Int) - 1 - (k:Int):=aB (by omega) (by omega);have hlen:=qp (q:Int) r k;have hs:=iU.eq_2 (q:Int) r k;have h1:=n5 (k:Int) (r - 1);have h2:=n5 ((q:Int) - 1 - (k:Int)) (r - 1);obtain ⟨x,hx⟩:∃ x,x=cp (k:Int) (r - 1):=⟨_,rfl⟩;obtain ⟨y,hy⟩:∃ y,y=cp ((q:Int) - 1 - (k:Int)) (r - 1):=⟨_,rfl⟩;rw [<- hx] at h1 hs;rw [<- hy] at h2 hs;obtain ⟨T,hT⟩:∃ T,T=iU (q:Int) r k:=⟨_,rfl⟩;rw [<- hT] at hs hlen ⊢;have h3:=CB T x y (by omega)
  cases hh:lW T x y with
  | true=>
   rw [hh,Vo rfl] at hs;rw [hh] at h3
   repeat' first|refine gf (kf @hlt (kf er (kf e1 e2))) ?_|decide|refine sp ?_ ?_<;>intro _|refine cA h1 ?_|refine cA h2 ?_|refine cA h3 ?_|fail
   all_goals exact rI (wE hs) ⟨k+1,by omega,rfl⟩
  | false=>
   rw [hh,Vj (by simp)] at hs;rw [hh] at h3
   repeat' first|refine gf (kf @hlt (kf er (kf e1 e2))) ?_|decide|refine sp ?_ ?_<;>intro _|refine cA h1 ?_|refine cA h2 ?_|refine cA h3 ?_|fail
   all_goals
    have hm:(iU (q:Int) r (k+1)).map eP=T.map eP ++ [[eI x,eI y]]:=by rw [hs];simp
    exact ⟨rfl,⟨by omega,by omega⟩,rI (wS [2] hm) ⟨k+1,by omega,rfl⟩⟩
 .obtain rfl:k=q:=by omega
  repeat' first|refine ge @hlt ?_|decide|refine sp ?_ ?_<;>intro _
  exact aM (by simp [af.gc])
def eL (all:List (Int × Int)) (a b:Nat):List (Int × Int):=((List.range b).filter fun (j:Nat)=>lW all (a:Int) (j:Int)).map fun (j:Nat)=>((a:Int),(j:Int))
theorem rd (all:List (Int × Int)) (a b:Nat):eL all a (b+1)=eL all a b ++ (if lW all (a:Int) (b:Int)=true then [((a:Int),(b:Int))] else []):=by
 unfold eL;rw [Wn,List.filter_append,VI]
 congr 1
 by_cases h:lW all (a:Int) (b:Int)=true
 .rw [Vo h];simp [h]
 .rw [Vj h];simp [h]
theorem ue (all:List (Int × Int)) (a b:Nat):(eL all a b).length<=b:=by
 unfold eL;rw [Vp];refine VC (List.length_filter_le _ _) ?_;simp
def ig (all:List (Int × Int)) (c:Nat):Nat -> List (Int × Int)
 | 0=>[]
 | a+1=>ig all c a ++ eL all a (c+1)
theorem ua (all:List (Int × Int)) (c:Nat):∀ a,(ig all c a).length<=a * (c+1)
 | 0=>by simp [ig]
 | a+1=>by
  have h1:=ua all c a;have h2:=ue all a (c+1);rw [ig,Vk,Xh];omega
def NZ (g r:Int):Int:=if cp g r=cV r then 3 * cp g r+3 else cp g r
def uL (g r:Int):List (Int × Int):=if r<1 \/ g<1 then [] else ig (iU (NZ g r) r (NZ g r).toNat) (cV (r - 1)).toNat ((cV (r - 1)).toNat+1)
theorem AH (g r:Int):(uL g r).length<=((cV (r - 1)).toNat+1) * ((cV (r - 1)).toNat+1):=by
 unfold uL;split
 .exact Vd _
 .exact ua _ _ _
theorem L8 (g r:Int) (hr:-1000000<=r /\ r<=1000000):aw Tryz.prog 150 [eI g,eI r] ⟨.sl 2 ((uL g r).map eP),[],0⟩:=by
 refine iJ 55 ?_;refine bj ag Tryz.func150 rfl (by decide) Tryz.ntmps150 Tryz.results150 rfl ?_;unfold uL;by_cases hbad:r<1 \/ g<1
 .rw [Vo hbad];by_cases h1:r<1
  .have d1:decide (r<1)=true:=Vy h1
   repeat' first|refine gf d1 ?_|decide|refine sp ?_ ?_<;>intro _
   all_goals exact cI (i6 rfl)
  .have d1:decide (r<1)=false:=Vv h1;have d2:decide (g<1)=true:=Vy (by omega)
   repeat' first|refine gf (kf d1 d2) ?_|decide|refine sp ?_ ?_<;>intro _
   all_goals exact cI (i6 rfl)
 .rw [Vj hbad];have d1:decide (r<1)=false:=Vv (by omega);have d2:decide (g<1)=false:=Vv (by omega);have er:IntKind.i64.wrap (r - 1)=r - 1:=aB (by omega) (by omega);have hC:=n5 g r;have hc:=sR g r;have hp:=lL r;have hp1:=lL (r - 1);have hR:=vu r;have hR1:=vu (r - 1);obtain ⟨c,hcc⟩:∃ c:Nat,cV (r - 1)=(c:Int):=⟨(cV (r - 1)).toNat,by omega⟩;obtain ⟨q,hq⟩:∃ q:Nat,NZ g r=(q:Int):=⟨(NZ g r).toNat,by unfold NZ;split<;>omega⟩;have hqb:q<=100000000:=by unfold NZ at hq;split at hq<;>omega
  have e1:(NZ g r).toNat=q:=by omega
  have e2:(cV (r - 1)).toNat=c:=by omega
  rw [e1,e2,hq];rw [hcc] at hR1 hp1;have hT:aw Tryz.prog 178 [eI (q:Int),eI r] ⟨.sl 2 ((iU (q:Int) r q).map eP),[],0⟩:=aw.still [0] (Sv q r hqb hr) (by simp [cS.frzs,cS.frz,g8,af.gc,AV.frz]) (by simp [AV.lt]);have hTl:=qp (q:Int) r q;obtain ⟨T,hTe⟩:∃ T,T=iU (q:Int) r q:=⟨_,rfl⟩;rw [<- hTe] at hT hTl ⊢;have hcb:c<=1048575:=by omega
  have hb1:∀ a b:Nat,a<=c+1 -> b<=c+1 -> (ig T c a ++ eL T a b).length<=1099511627776+1048577:=fun a b ha hb=>by
   have h1:=ua T c a;have h2:=ue T a b;have h3:a * (c+1)<=1048576 * 1048576:=Xj (by omega) (by omega);rw [Vk];omega
  by_cases hcap:cp g r=cV r
  .have d3:(cp g r == cV r)=true:=Wu.2 hcap;have hqq:3 * cp g r+3=(q:Int):=by unfold NZ at hq;rw [Vo hcap] at hq;exact hq
   have w1:IntKind.i64.wrap (3 * cp g r)=3 * cp g r:=aB (by omega) (by omega);have w2:IntKind.i64.wrap (3 * cp g r+3)=(q:Int):=by rw [hqq];exact aB (by omega) (by omega)
   repeat' first|refine gf (kf d1 (kf d2 (kf d3 (kf er (kf w1 w2))))) ?_|decide|refine sp ?_ ?_<;>intro _|refine cA hC ?_|refine cA hR ?_|refine cA hT ?_|fail
   refine ae (fun st=>∃ a:Nat,a<=c+1 /\ st=⟨55,[(1,eI r),(5,.osl 0),(7,.sl 2 (T.map eP)),(8,eI (a:Int))],[(0,some (.row 55 2 ((ig T c a).map eP)))],1⟩) (fun st=>c+1 - ap st 8) ⟨_,((be 5 55 2 (by simp only [iz,aj.get,bb,aj.put,↓reduceIte,reduceCtorEq,Nat.reduceLT,Nat.reduceEqDiff,Nat.reduceAdd,Nat.reduceLeDiff,eq_self,implies_true,ig,VL])).trans (wS [0] (kf @ig.eq_1 @ig.eq_2))),0,Vd _,rfl⟩ ?_;rintro _ ⟨a,ha,rfl⟩;by_cases hla:a<=c
   .repeat' first|refine gf (kf @hla er) ?_|decide|refine sp ?_ ?_<;>intro _|refine cA hR1 ?_|fail
    refine ae (fun st=>∃ b:Nat,b<=c+1 /\ st=⟨55,[(1,eI r),(5,.osl 0),(7,.sl 2 (T.map eP)),(8,eI (a:Int)),(9,eI (b:Int))],[(0,some (.row 55 2 ((ig T c a ++ eL T a b).map eP)))],1⟩) (fun st=>c+1 - ap st 9) ⟨_,(wE (kf @eL.eq_1 (kf @WN @List.filter_nil.{0}))),0,Vd _,rfl⟩ ?_;rintro _ ⟨b,hb,rfl⟩;by_cases hlb:b<=c
    .have hH:=CB T (a:Int) (b:Int) (by omega);have hs:=rd T a b;have hlen:=hb1 a b ha hb;obtain ⟨O,hO⟩:∃ O,O=ig T c a ++ eL T a b:=⟨_,rfl⟩;have hs2:ig T c a ++ eL T a (b+1)=O ++ (if lW T (a:Int) (b:Int)=true then [((a:Int),(b:Int))] else []):=(by rw [hs,hO,VZ]);rw [<- hO] at hlen ⊢
     cases hh:lW T (a:Int) (b:Int) with
     | true=>
      rw [hh,Vo rfl] at hs2;rw [hh] at hH;have et:(ig T c a ++ eL T a (b+1)).map eP=O.map eP ++ [[eI (a:Int),eI (b:Int)]]:=by rw [hs2];simp
      repeat' first|refine gf (kf @hlb er) ?_|decide|refine sp ?_ ?_<;>intro _|refine cA hR1 ?_|refine cA hH ?_|(with_reducible apply And.intro)
      all_goals first
       | rfl
       | omega
       | exact rI (wS [2] et) ⟨b+1,by omega,rfl⟩
     | false=>
      rw [hh,Vj (by simp),Wr] at hs2;rw [hh] at hH
      repeat' first|refine gf (kf @hlb er) ?_|decide|refine sp ?_ ?_<;>intro _|refine cA hR1 ?_|refine cA hH ?_|fail
      all_goals exact rI (wE hs2) ⟨b+1,by omega,rfl⟩
    .obtain rfl:b=c+1:=by omega
     have hs:ig T c (a+1)=ig T c a ++ eL T a (c+1):=rfl
     repeat' first|refine gf (kf @hlb er) ?_|decide|refine sp ?_ ?_<;>intro _|refine cA hR1 ?_|fail
     all_goals exact rI (wE hs) ⟨a+1,by omega,rfl⟩
   .obtain rfl:a=c+1:=by omega
    repeat' first|refine gf (kf @hla er) ?_|decide|refine sp ?_ ?_<;>intro _|refine cA hR1 ?_|fail
    all_goals exact tt rfl i9
  .have d3:(cp g r == cV r)=false:=VP.2 hcap;have hqq:cp g r=(q:Int):=by unfold NZ at hq;rw [Vj hcap] at hq;exact hq
   rw [hqq] at hC d3
   repeat' first|refine gf (kf d1 (kf d2 (kf d3 er))) ?_|decide|refine sp ?_ ?_<;>intro _|refine cA hC ?_|refine cA hR ?_|refine cA hT ?_|fail
   refine ae (fun st=>∃ a:Nat,a<=c+1 /\ st=⟨55,[(1,eI r),(5,.osl 0),(7,.sl 2 (T.map eP)),(8,eI (a:Int))],[(0,some (.row 55 2 ((ig T c a).map eP)))],1⟩) (fun st=>c+1 - ap st 8) ⟨_,((be 5 55 2 (by simp only [iz,aj.get,bb,aj.put,↓reduceIte,reduceCtorEq,Nat.reduceLT,Nat.reduceEqDiff,Nat.reduceAdd,Nat.reduceLeDiff,eq_self,implies_true,ig,VL])).trans (wS [0] (kf @ig.eq_1 @ig.eq_2))),0,Vd _,rfl⟩ ?_;rintro _ ⟨a,ha,rfl⟩;by_cases hla:a<=c
   .repeat' first|refine gf (kf @hla er) ?_|decide|refine sp ?_ ?_<;>intro _|refine cA hR1 ?_|fail
    refine ae (fun st=>∃ b:Nat,b<=c+1 /\ st=⟨55,[(1,eI r),(5,.osl 0),(7,.sl 2 (T.map eP)),(8,eI (a:Int)),(9,eI (b:Int))],[(0,some (.row 55 2 ((ig T c a ++ eL T a b).map eP)))],1⟩) (fun st=>c+1 - ap st 9) ⟨_,(wE (kf @eL.eq_1 (kf @WN @List.filter_nil.{0}))),0,Vd _,rfl⟩ ?_;rintro _ ⟨b,hb,rfl⟩;by_cases hlb:b<=c
    .have hH:=CB T (a:Int) (b:Int) (by omega);have hs:=rd T a b;have hlen:=hb1 a b ha hb;obtain ⟨O,hO⟩:∃ O,O=ig T c a ++ eL T a b:=⟨_,rfl⟩;have hs2:ig T c a ++ eL T a (b+1)=O ++ (if lW T (a:Int) (b:Int)=true then [((a:Int),(b:Int))] else []):=(by rw [hs,hO,VZ]);rw [<- hO] at hlen ⊢
     cases hh:lW T (a:Int) (b:Int) with
     | true=>
      rw [hh,Vo rfl] at hs2;rw [hh] at hH;have et:(ig T c a ++ eL T a (b+1)).map eP=O.map eP ++ [[eI (a:Int),eI (b:Int)]]:=by rw [hs2];simp
      repeat' first|refine gf (kf @hlb er) ?_|decide|refine sp ?_ ?_<;>intro _|refine cA hR1 ?_|refine cA hH ?_|(with_reducible apply And.intro)
      all_goals first
       | rfl
       | omega
       | exact rI (wS [2] et) ⟨b+1,by omega,rfl⟩
     | false=>
      rw [hh,Vj (by simp),Wr] at hs2;rw [hh] at hH
      repeat' first|refine gf (kf @hlb er) ?_|decide|refine sp ?_ ?_<;>intro _|refine cA hR1 ?_|refine cA hH ?_|fail
      all_goals exact rI (wE hs2) ⟨b+1,by omega,rfl⟩
    .obtain rfl:b=c+1:=by omega
     have hs:ig T c (a+1)=ig T c a ++ eL T a (c+1):=rfl
     repeat' first|refine gf (kf @hlb er) ?_|decide|refine sp ?_ ?_<;>intro _|refine cA hR1 ?_|fail
     all_goals exact rI (wE hs) ⟨a+1,by omega,rfl⟩
   .obtain rfl:a=c+1:=by omega
    repeat' first|refine gf (kf @hla er) ?_|decide|refine sp ?_ ?_<;>intro _|refine cA hR1 ?_|fail
    all_goals exact tt rfl i9
end
section
def iW (L:List Int) (r:Int) (k:Nat):List Int:=(List.range (k - 1)).map fun i=>pb (L.getD i 0) (L.getD (i+1) 0) (cV r)
theorem DL (L:List Int) (r:Int) (k:Nat):iW L r (k+2)=iW L r (k+1) ++ [pb (L.getD k 0) (L.getD (k+1) 0) (cV r)]:=by
 unfold iW;rw [show k+2 - 1=k+1 by omega,show k+1 - 1=k by omega,Wn,VI];rfl
def oQ (vals c:List Int) (r:Int):Zn:=⟨E7 vals c,iW (jh vals c) r (jh vals c).length⟩
theorem pM (vals:List Int) (n:Int):∀ k,aF (ff vals n k)
 | 0=>by unfold ff aF;omega
 | k+1=>by
  unfold ff;split
  .exact dp (ot _ _)
  .exact pM vals n k
theorem NK (r:Int):cV r<=4294967296:=by
 have h1:(2:Nat) ^ (min r.toNat 20)<=2 ^ 20:=VU (by omega) (by omega);have h2:((2 ^ (min r.toNat 20):Nat):Int)=(2:Int) ^ (min r.toNat 20):=by simp
 unfold cV;omega
theorem IA (vals c:List Int) (r:Int) (h1:vals.length<=31) (h2:c.length<=400) (hv:∀ x ∈ vals,aF x) (hc:∀ x ∈ c,aF x):aw Tryz.prog 111 [sI vals,sI c,eI r] ⟨.agg (cw (oQ vals c r)),[],0⟩:=by
 refine aw.still (R:=⟨.agg [.osl 0,.osl 1],[(0,some (.row 213 2 ((E7 vals c).map cO))),(1,some (.row 3 1 ((iW (jh vals c) r (jh vals c).length).map fun n=>[eI n])))],2⟩) [0,1] ?_ (by simp [cS.frzs,cS.frz,af.gc,AV.frz,AV.frzL,b8,aD.frz,oQ]) (by simp [AV.lt,AV.ltL]);refine aa ag Tryz.func111 rfl (by decide) Tryz.ntmps111 Tryz.results111 rfl (ls (by simp [cX,aD.lt,AV.ltL,AV.lt]) (by simp [AV.lt,AV.ltL])) ?_;have hS:=f9 c (by omega);have hN:=za vals c (by omega) h2;have hLlen:(jh vals c).length<=431:=by have:=fB (vals ++ c);simp at this;unfold jh;omega
 have hSlen:(bX c).length<=400:=by have:=fB c;omega
 have hLok:∀ x ∈ jh vals c,aF x:=fun x hx=>by
  have:=((iD (vals ++ c)).2 x).1 hx;rcases Vs.1 this with h|h
  .exact hv x h
  .exact hc x h
 have hcl:∀ k,(E7 vals c).take k=((jh vals c).take k).map (DT vals c):=fun k=>by unfold E7;rw [List.map_take]
 have hgt:decide (31<(vals.length:Int))=false:=by simp only [VA];omega
 have hgt2:decide (31<vals.length)=false:=by simp only [VA];omega
 have hcls:E7 vals c=(jh vals c).map (DT vals c):=rfl;obtain ⟨cf,hcf⟩:∃ f,DT vals c=f:=⟨_,rfl⟩;obtain ⟨sc,hsc⟩:∃ sc,bX c=sc:=⟨_,rfl⟩;obtain ⟨L,hL⟩:∃ L,jh vals c=L:=⟨_,rfl⟩;rw [hcls,hcf];rw [hsc] at hS hSlen;rw [hL] at hN hLlen hLok ⊢;have hcfv:∀ n,cf n=⟨ff vals n vals.length,gx sc n sc.length⟩:=fun n=>by rw [<- hcf,<- hsc];rfl
 repeat' first|refine gf (kf @hgt @hgt2) ?_|decide|refine sp ?_ ?_<;>intro _|refine cA hS ?_|refine cA hN ?_|fail
 refine ae (fun st=>∃ k:Nat,k<=L.length /\ st=⟨94,[(0,sI vals),(2,eI r),(6,.op 0 0 0),(7,sI sc),(8,sI L),(9,.op 1 0 0),(10,eI (k:Int))],[(0,some (.box 91 [.c (.slice none 0 0),.c (.slice none 0 0)])),(1,some (.box 91 [.osl 2,.osl 3])),(2,some (.row 213 2 ((L.take k).map fun n=>cO (cf n)))),(3,some (.row 3 1 ((iW L r k).map fun n=>[eI n])))],4⟩) (fun st=>L.length - ap st 10)
  ⟨_,((cu 1 0 213 2 (t:=91) (cells:=[.c (.slice none 0 0),.c (.slice none 0 0)]) (by simp [af.gc]) rfl).trans ((cu 1 1 3 1 (t:=91) (cells:=[.osl 2,.c (.slice none 0 0)]) (by simp [af.gc]) rfl).trans (wE (kf @WB (kf @W5 (kf @Vu (kf @iW.eq_1 (kf @WN @Nat.zero_sub)))))))),0,Vd _,rfl⟩ ?_
 rintro _ ⟨k,hk,rfl⟩;by_cases hlt:k<L.length
 .obtain ⟨n,hn⟩:∃ n,L[k]=n:=⟨_,rfl⟩
  repeat' first|refine gf @hlt ?_|decide|refine sp ?_ ?_<;>intro _
  refine ae (fun st=>∃ i:Nat,i<=vals.length /\ st=⟨94,[(0,sI vals),(2,eI r),(6,.op 0 0 0),(7,sI sc),(8,sI L),(9,.op 1 0 0),(10,eI (k:Int)),(11,.op 4 0 0),(12,eI (i:Int))],[(0,some (.box 91 [.c (.slice none 0 0),.c (.slice none 0 0)])),(1,some (.box 91 [.osl 2,.osl 3])),(2,some (.row 213 2 ((L.take k).map fun n=>cO (cf n)))),(3,some (.row 3 1 ((iW L r k).map fun n=>[eI n]))),(4,some (.box 213 [eI (ff vals n i),eI (-1)]))],5⟩) (fun st=>vals.length - ap st 12) ⟨_,(wE (kf @ff.eq_1 @ff.eq_2)),0,Vd _,rfl⟩ ?_;rintro _ ⟨i,hi,rfl⟩;by_cases hi2:i<vals.length
  .have hP:=sD (ff vals n i) (i:Int) true (pM vals n i) (by omega) (by omega);by_cases he:vals[i]=n
   .have hev:(vals[i] == n)=true:=by simpa using he
    have hst:ff vals n (i+1)=dN (ff vals n i) (i:Int):=by
     rw [ff,Vo (by rw [Vm,p0 hi2];exact he)]
    repeat' first|refine gq ?_|simp only [ab,hi2,hlt,hn,hev]|decide|refine sp ?_ ?_<;>intro _|refine cA hP ?_|fail
    all_goals exact rI (wE @hst) ⟨i+1,by omega,rfl⟩
   .have hev:(vals[i] == n)=false:=by simpa using he
    have hst:ff vals n (i+1)=ff vals n i:=by
     rw [ff,Vj (by rw [Vm,p0 hi2];exact he)]
    repeat' first|refine gq ?_|simp only [ab,hi2,hlt,hn,hev]|decide|refine sp ?_ ?_<;>intro _
    all_goals exact rI (wE @hst) ⟨i+1,by omega,rfl⟩
  .obtain rfl:i=vals.length:=by omega
   obtain ⟨A,hA⟩:∃ A,ff vals n vals.length=A:=⟨_,rfl⟩;rw [hA]
   repeat' first|refine gf hi2 ?_|decide|refine sp ?_ ?_<;>intro _
   refine ae (fun st=>∃ i:Nat,i<=sc.length /\ st=⟨94,[(0,sI vals),(2,eI r),(6,.op 0 0 0),(7,sI sc),(8,sI L),(9,.op 1 0 0),(10,eI (k:Int)),(11,.op 4 0 0),(13,eI (i:Int))],[(0,some (.box 91 [.c (.slice none 0 0),.c (.slice none 0 0)])),(1,some (.box 91 [.osl 2,.osl 3])),(2,some (.row 213 2 ((L.take k).map fun n=>cO (cf n)))),(3,some (.row 3 1 ((iW L r k).map fun n=>[eI n]))),(4,some (.box 213 [eI A,eI (gx sc n i)]))],5⟩) (fun st=>sc.length - ap st 13) ⟨_,(wE (kf @gx.eq_1 @gx.eq_2)),0,Vd _,rfl⟩ ?_;rintro _ ⟨i,hi,rfl⟩;by_cases hi3:i<sc.length
   .by_cases he:sc[i]=n
    .have hev:(sc[i] == n)=true:=by simpa using he
     have hst:gx sc n (i+1)=(i:Int):=by
      rw [gx,Vo (by rw [Vm,p0 hi3];exact he)]
     repeat' first|refine gq ?_|simp only [ab,hi3,hlt,hn,hev]|decide|refine sp ?_ ?_<;>intro _
     all_goals exact rI (wE @hst) ⟨i+1,by omega,rfl⟩
    .have hev:(sc[i] == n)=false:=by simpa using he
     have hst:gx sc n (i+1)=gx sc n i:=by
      rw [gx,Vj (by rw [Vm,p0 hi3];exact he)]
     repeat' first|refine gq ?_|simp only [ab,hi3,hlt,hn,hev]|decide|refine sp ?_ ?_<;>intro _
     all_goals exact rI (wE @hst) ⟨i+1,by omega,rfl⟩
   .obtain rfl:i=sc.length:=by omega
    have hx:cf n=⟨A,gx sc n sc.length⟩:=(by rw [hcfv,hA]);have hsn:(L.take (k+1)).map (fun n=>cO (cf n))=(L.take k).map (fun n=>cO (cf n)) ++ [[eI A,eI (gx sc n sc.length)]]:=(by rw [dc _ L hlt,hn,hx]);have htl:(L.take k).length<=431:=by rw [Vr];omega
    obtain ⟨C,hC⟩:∃ C,gx sc n sc.length=C:=⟨_,rfl⟩;rw [hC] at hsn ⊢
    cases k with
    | zero=>
     have hg:iW L r (0+1)=iW L r 0:=rfl;have d1:decide (0<((0:Nat):Int))=false:=(by decide);have d2:decide (0<0)=false:=(by decide)
     repeat' first|refine gf (kf hi3 (kf d1 d2)) ?_|decide|refine sp ?_ ?_<;>intro _|(with_reducible apply And.intro)
     all_goals first
      | rfl
      | omega
      | (simp;omega)
      | exact rI (wS [0,1,6,3] (kf @hsn hg)) ⟨0+1,by omega,rfl⟩
    | succ k=>
     have hk0:k<L.length:=(by omega);have hgs:=DL L r k;have e0:L.getD k 0=L[k]:=by rw [Vm,p0 hk0];rfl
     have e1:L.getD (k+1) 0=n:=by rw [Vm,p0 hlt];exact hn
     rw [e0,e1] at hgs;have hgl:(iW L r (k+1)).length<=431:=by simp [iW];omega
     have hG:=Pw L[k] n (cV r) (hLok _ (Vg hk0)) (hn ▸ hLok _ (Vg hlt)) (NK r);have hCp:=vu r;have ek:IntKind.i64.wrap (((k+1:Nat):Int) - 1)=(k:Int):=by rw [aB (by omega) (by omega)];omega
     have d1:decide (0<((k+1:Nat):Int))=true:=by simp only [VJ];omega
     have d2:decide (0<k+1)=true:=(by simp);have hgm:(iW L r (k+2)).map (fun n=>[eI n])=(iW L r (k+1)).map (fun n=>[eI n]) ++ [[eI (pb L[k] n (cV r))]]:=by rw [hgs];simp
     repeat' first|refine ge (kf hi3 (kf d1 d2)) ?_|decide|refine sp ?_ ?_<;>intro _
     refine ay [1,3] [0,2,3,4,5,6,7,8,9,10,11] (.two 1 (.exec 12 (.exec 13 (.exec 14 (.exec 15 (.take 16 (.exec 17 .done)))))) 12 (.two 1 (.exec 13 (.exec 14 (.exec 15 (.take 16 (.exec 17 .done))))) 13 (.two 1 (.exec 14 (.exec 15 (.take 16 (.exec 17 .done)))) 14 (.exec 1 (.exec 15 (.take 16 (.exec 17 .done))))))) (by kernel_rfl) (by simp [af.gc]) ?_
     repeat' first|refine gq ?_|simp only [ab,hlt,hk0,hn,ek]|decide|refine sp ?_ ?_<;>intro _|refine cA hCp ?_|refine cA hG ?_|(with_reducible apply And.intro)
     all_goals first
      | rfl
      | omega
      | (simp;omega)
      | exact rI (wS [0,1,8,6] (kf @hsn @hgm)) ⟨k+1+1,by omega,rfl⟩
 .obtain rfl:k=L.length:=by omega
  repeat' first|refine gf (kf @hlt @Vq) ?_|decide|refine sp ?_ ?_<;>intro _
  exact ⟨[2,3],by decide,rfl,by simp [cM,af.gc]⟩
end
end
section
section
def Tt (z:Zn) (i:Nat) (r:Int) (k:Nat):Int:=if k=i+1 then cp (cp (z.gaps.getD (i - 1) 0) r+cp (z.gaps.getD i 0) r+1) r else z.gaps.getD (k - 1) 0
instance:Inhabited fU:=⟨⟨0,0⟩⟩
def nf (z:Zn) (i:Nat) (r:Int):Nat -> Zn
 | 0=>⟨[],[]⟩
 | k+1=>if k=i then nf z i r k else ⟨(nf z i r k).cls ++ [z.cls.getD k default],if (nf z i r k).cls.length=0 then (nf z i r k).gaps else (nf z i r k).gaps ++ [Tt z i r k]⟩
theorem xS (z:Zn) (i:Nat) (r:Int):∀ k,(nf z i r k).cls.length=if i<k then k - 1 else k
 | 0=>by simp [nf]
 | k+1=>by
  have h:=xS z i r k;rw [nf];split
  .rename_i e;rw [h,e,Vj (by omega),Vo (by omega)];omega
  .rename_i e;rw [Vk,Vz,h];split<;>split<;>omega
theorem uw (z:Zn) (i:Nat) (r:Int):∀ k,(nf z i r k).gaps.length=(nf z i r k).cls.length - 1
 | 0=>by simp [nf]
 | k+1=>by
  have h:=uw z i r k;rw [nf];split
  .exact h
  .simp only [Vk,Vz];split
   .rw [h];omega
   .rw [Vk,Vz,h];omega
theorem Gz (z:Zn) (i:Nat) (r:Int) (hi:i<z.cls.length) (hc:z.cls.length<=1000000) (hg:z.gaps.length=z.cls.length - 1):aw Tryz.prog 151 [.agg (cw z),eI (i:Int),eI r] ⟨.agg (cw (nf z i r z.cls.length)),[],0⟩:=by
 refine aw.still (R:=⟨.agg [.osl 0,.osl 1],[(0,some (.row 213 2 ((nf z i r z.cls.length).cls.map cO))),(1,some (.row 3 1 ((nf z i r z.cls.length).gaps.map fun n=>[eI n])))],2⟩) [0,1] ?_ (by simp [cS.frzs,cS.frz,af.gc,AV.frz,AV.frzL,b8,aD.frz]) (by simp [AV.lt,AV.ltL]);refine aa ag Tryz.func151 rfl (by decide) Tryz.ntmps151 Tryz.results151 rfl (ls (by simp [cX,aD.lt,AV.ltL,AV.lt]) (by simp [AV.lt,AV.ltL])) ?_;have ei:IntKind.i64.wrap ((i:Int) - 1)=(i:Int) - 1:=aB (by omega) (by omega)
 repeat' first|refine go ?_|decide|refine sp ?_ ?_<;>intro _
 refine ae (fun st=>∃ k:Nat,k<=z.cls.length /\ st=⟨66,[(1,eI (i:Int)),(2,eI r),(3,.op 0 0 0),(6,.op 1 0 0),(7,.op 2 0 0),(8,eI (k:Int))],[(0,some (.box 91 (cw z))),(1,some (.box 91 [.c (.slice none 0 0),.c (.slice none 0 0)])),(2,some (.box 91 [.osl 3,.osl 4])),(3,some (.row 213 2 ((nf z i r k).cls.map cO))),(4,some (.row 3 1 ((nf z i r k).gaps.map fun n=>[eI n])))],5⟩) (fun st=>z.cls.length - ap st 8)
  ⟨_,((cu 2 0 213 2 (t:=91) (cells:=[.c (.slice none 0 0),.c (.slice none 0 0)]) (by simp [af.gc]) rfl).trans ((cu 2 1 3 1 (t:=91) (cells:=[.osl 3,.c (.slice none 0 0)]) (by simp [af.gc]) rfl).trans (wE (kf @WB (kf @W5 (kf @nf.eq_1 @nf.eq_2)))))),0,Vd _,rfl⟩ ?_
 rintro _ ⟨k,hk,rfl⟩;by_cases hlt:k<z.cls.length
 .have hl1:=xS z i r k;have hl2:=uw z i r k;have hs:=nf.eq_2 z i r k;have hW:(nf z i r k).cls.length<=1000000:=by rw [hl1];split<;>omega
  obtain ⟨x,hx⟩:∃ x,z.cls[k]=x:=⟨_,rfl⟩;have hxg:z.cls.getD k default=x:=by rw [Vm,p0 hlt,<- hx];rfl
  have hrx:(z.cls.map cO)[k]?.getD []=cO x:=by simp [hlt,hx]
  rw [hxg] at hs;obtain ⟨o,ho⟩:∃ o,o=nf z i r k:=⟨_,rfl⟩;rw [<- ho] at hs hl1 hl2 hW ⊢;by_cases he:k=i
  .have d1:((k:Int) == (i:Int))=true:=Wu.2 (by omega);rw [Vo he] at hs
   repeat' first|refine gf (kf @hlt d1) ?_|decide|refine sp ?_ ?_<;>intro _
   all_goals exact rI (wE hs) ⟨k+1,by omega,rfl⟩
  .have d1:((k:Int) == (i:Int))=false:=VP.2 (by omega);rw [Vj he] at hs;have hcm:((nf z i r (k+1)).cls).map cO=o.cls.map cO ++ [cO x]:=by rw [hs];simp
   by_cases h0:o.cls.length=0
   .have d2:decide ((0:Int)<(o.cls.length:Int))=false:=Vv (by omega);have hgm:(nf z i r (k+1)).gaps=o.gaps:=by rw [hs];simp [h0]
    repeat' first|refine ge (kf @hlt (kf d1 d2)) ?_|decide|refine sp ?_ ?_<;>intro _
    refine ay [2,3] [0,2,3,4,5,6] (.two 1 (.exec 7 (.exec 8 (.take 9 (.exec 10 .done)))) 7 (.exec 1 (.exec 8 (.take 9 (.exec 10 .done))))) (by kernel_rfl) (by simp [af.gc]) ?_
    repeat' first|refine gf (kf @hrx @hlt) ?_|decide|refine sp ?_ ?_<;>intro _|(with_reducible apply And.intro)
    all_goals first
     | rfl
     | omega
     | exact rI (wS [0,1,2,6,4] (kf @hcm @hgm)) ⟨k+1,by omega,rfl⟩
   .have d2:decide ((0:Int)<(o.cls.length:Int))=true:=Vy (by omega)
    have hk1:1<=k:=by
     rw [hl1] at h0;split at h0<;>omega
    have hgm:(nf z i r (k+1)).gaps.map (fun n=>[eI n])=o.gaps.map (fun n=>[eI n]) ++ [[eI (Tt z i r k)]]:=by rw [hs];simp [h0]
    have ek:IntKind.i64.wrap ((k:Int) - 1)=((k - 1:Nat):Int):=by rw [aB (by omega) (by omega)];omega
    have hkg:k - 1<z.gaps.length:=(by omega);obtain ⟨y,hy⟩:∃ y,z.gaps[k - 1]=y:=⟨_,rfl⟩;have hry:(z.gaps.map fun n=>[eI n])[k - 1]?.getD []=[eI y]:=(by simp [hkg,hy]);by_cases h1:k=i+1
    .have d3:(((k - 1:Nat):Int) == (i:Int))=true:=Wu.2 (by omega)
     have hi1:1<=i:=by
      rw [hl1] at h0;split at h0<;>omega
     have ei2:IntKind.i64.wrap ((i:Int) - 1)=((i - 1:Nat):Int):=by rw [ei];omega
     have hig:i - 1<z.gaps.length:=(by omega);obtain ⟨u,hu⟩:∃ u,z.gaps[i - 1]=u:=⟨_,rfl⟩;have hru:(z.gaps.map fun n=>[eI n])[i - 1]?.getD []=[eI u]:=(by simp [hig,hu]);have c1:=n5 u r;have c2:=n5 y r;have hb1:=sR u r;have hb2:=sR y r;have hb3:=lL r
     have eG:Tt z i r k=cp (cp u r+cp y r+1) r:=by
      rw [Tt,Vo h1,Vm,p0 hig,Vm,p0 (by omega),VG,VG,hu];simp only [<- hy,h1,WA]
     rw [eG] at hgm;obtain ⟨p,hp⟩:∃ p,p=cp u r:=⟨_,rfl⟩;obtain ⟨q,hq⟩:∃ q,q=cp y r:=⟨_,rfl⟩;rw [<- hp] at c1 hb1;rw [<- hq] at c2 hb2;rw [<- hp,<- hq] at hgm;have e1:IntKind.i64.wrap (p+q)=p+q:=aB (by omega) (by omega);have e2:IntKind.i64.wrap (p+q+1)=p+q+1:=aB (by omega) (by omega);have c3:=n5 (p+q+1) r;have hgl:o.gaps.length<=1000000:=(by omega)
     repeat' first|refine gf (kf @hlt (kf d1 (kf d2 (kf d3 (kf ek (kf ei2 (kf @hkg (kf @hig (kf @hry (kf @hru (kf e1 e2))))))))))) ?_|decide|refine sp ?_ ?_<;>intro _|refine cA c1 ?_|refine cA c2 ?_|refine cA c3 ?_|fail
     refine ⟨rfl,⟨by omega,by omega⟩,?_⟩;refine ay [2,3] [0,2,3,4,5,6] (.two 1 (.exec 7 (.exec 8 (.take 9 (.exec 10 .done)))) 7 (.exec 1 (.exec 8 (.take 9 (.exec 10 .done))))) (by kernel_rfl) (by simp [af.gc]) ?_
     repeat' first|refine gf (kf @hrx @hlt) ?_|decide|refine sp ?_ ?_<;>intro _|(with_reducible apply And.intro)
     all_goals first
      | rfl
      | omega
      | exact rI (wS [0,1,2,8,6] (kf @hcm @hgm)) ⟨k+1,by omega,rfl⟩
    .have d3:(((k - 1:Nat):Int) == (i:Int))=false:=VP.2 (by omega);have eG:Tt z i r k=y:=(by rw [Tt,Vj h1,Vm,p0 hkg,VG,hy]);rw [eG] at hgm;have hgl:o.gaps.length<=1000000:=(by omega)
     repeat' first|refine gf (kf @hlt (kf d1 (kf d2 (kf d3 (kf ek (kf @hkg @hry)))))) ?_|decide|refine sp ?_ ?_<;>intro _
     refine ⟨rfl,⟨by omega,by omega⟩,?_⟩;refine ay [2,3] [0,2,3,4,5,6] (.two 1 (.exec 7 (.exec 8 (.take 9 (.exec 10 .done)))) 7 (.exec 1 (.exec 8 (.take 9 (.exec 10 .done))))) (by kernel_rfl) (by simp [af.gc]) ?_
     repeat' first|refine gf (kf @hrx @hlt) ?_|decide|refine sp ?_ ?_<;>intro _|(with_reducible apply And.intro)
     all_goals first
      | rfl
      | omega
      | exact rI (wS [0,1,2,8,6] (kf @hcm @hgm)) ⟨k+1,by omega,rfl⟩
 .obtain rfl:k=z.cls.length:=by omega
  repeat' first|refine gf @hlt ?_|decide|refine sp ?_ ?_<;>intro _
  exact ⟨[3,4],by decide,rfl,by simp [cM,af.gc]⟩
structure nk (N:Nat) (z:Zn):Prop where
 cl:z.cls.length<=N
 ga:z.gaps.length<=N
 at_:∀ x ∈ z.cls,aF x.attrs
def rS (z:Zn) (a:Int) (i:Nat):Zn:=⟨z.cls.set i ⟨cr (z.cls.getD i default).attrs a,(z.cls.getD i default).const⟩,z.gaps⟩
def Ek (a r:Int):Nat -> Zn -> Nat -> Zn
 | 0,z,_=>z
 | n+1,z,i=>
  if z.cls.length<=i then z
  else if bq (z.cls.getD i default).attrs a=false then Ek a r n z (i+1)
  else if cr (z.cls.getD i default).attrs a=0 /\ (z.cls.getD i default).const = -1 then Ek a r n (nf (rS z a i) i r z.cls.length) i
  else Ek a r n (rS z a i) (i+1)
def fm (z:Zn) (a r:Int):Zn:=if (z.gaps.length:Int)=max ((z.cls.length:Int) - 1) 0 then Ek a r z.cls.length z 0 else z
theorem Ba (s i:Int):aF (cr s i):=dp (mf s i)
theorem rT (z:Zn) (i:Nat) (r:Int):∀ k,k<=z.cls.length -> ∀ x ∈ (nf z i r k).cls,x ∈ z.cls
 | 0,_,x,hx=>by simp [nf] at hx
 | k+1,hk,x,hx=>by
  rw [nf] at hx;split at hx
  .exact rT z i r k (by omega) x hx
  .rcases Vs.1 hx with h | h
   .exact rT z i r k (by omega) x h
   .simp only [VH] at h;subst h;rw [Vm,p0 (by omega),VG];exact Vg _
theorem Ed (z:Zn) (a:Int) (i:Nat):(rS z a i).cls.length=z.cls.length:=by simp [rS]
theorem IE {z:Zn} (a:Int) (i:Nat) (h:∀ x ∈ z.cls,aF x.attrs):∀ x ∈ (rS z a i).cls,aF x.attrs:=by
 intro x hx;rcases Wk hx with h1|h1
 .exact h x h1
 .rw [h1];exact Ba _ _
theorem Bc (z:Zn) (i:Nat) (r:Int) (hi:i<z.cls.length):(nf z i r z.cls.length).cls.length=z.cls.length - 1 /\ (nf z i r z.cls.length).gaps.length=z.cls.length - 1 - 1:=by
 have h1:=xS z i r z.cls.length;rw [Vo hi] at h1;exact ⟨h1,by rw [uw,h1]⟩
def UT (st:aj):Nat:=match st.tab.get 0 with
 | some (.box _ (.sl _ rows :: _))=>rows.length - ap st 7
 | _=>0
theorem QJ (z:Zn) (a r:Int) {N:Nat} (hN:N<=1000000) (hz:nk N z) (ha:0<=a /\ a<31):aw Tryz.prog 117 [.agg (cw z),eI a,eI r] ⟨.agg (cw (fm z a r)),[],0⟩:=by
 have hcl:=hz.cl;refine aa ag Tryz.func117 rfl (by decide) Tryz.ntmps117 Tryz.results117 rfl (⟨fun id o h=>(by cases h),⟨trivial,trivial,trivial⟩⟩) ?_;have ew:IntKind.i64.wrap ((z.cls.length:Int) - 1)=(z.cls.length:Int) - 1:=aB (by omega) (by omega);by_cases hg:(z.gaps.length:Int)=max ((z.cls.length:Int) - 1) 0
 .have d0:((z.gaps.length:Int) != max ((z.cls.length:Int) - 1) 0)=false:=by simp [hg]
  have hD:fm z a r=Ek a r z.cls.length z 0:=Vo hg;rw [hD];obtain ⟨Q,hQ⟩:∃ Q,Q=Ek a r z.cls.length z 0:=⟨_,rfl⟩;rw [<- hQ]
  repeat' first|refine ge (kf ew d0) ?_|decide|refine sp ?_ ?_<;>intro _
  refine ae (fun st=>∃ (n i:Nat) (y:Zn),(y.cls.length<=i+n /\ i<=y.cls.length /\ nk N y /\ y.gaps.length=y.cls.length - 1 /\ Ek a r n y i=Q) /\ st=⟨75,[(1,eI a),(2,eI r),(3,.op 0 0 0),(6,.op 1 0 0),(7,eI (i:Int))],[(0,some (.box 91 (cw y))),(1,some (.box 91 [.c (.slice none 0 0),.c (.slice none 0 0)]))],2⟩) UT ⟨_,wC,z.cls.length,0,z,⟨by omega,Vd _,hz,by omega,hQ.symm⟩,rfl⟩ ?_;rintro _ ⟨n,i,y,⟨hn,hi,hy,hyg,hF⟩,rfl⟩;have hyl:=hy.cl
  have mu0:∀ (i':Nat) (y':Zn),UT ⟨75,[(1,eI a),(2,eI r),(3,.op 0 0 0),(6,.op 1 0 0),(7,eI (i':Int))],[(0,some (.box 91 (cw y'))),(1,some (.box 91 [.c (.slice none 0 0),.c (.slice none 0 0)]))],2⟩=y'.cls.length - i':=fun i' y'=>by
   simp [UT,ap,aj.get,bb,af.gc]
  by_cases hlt:i<y.cls.length
  .obtain ⟨x,hx⟩:∃ x,y.cls[i]=x:=⟨_,rfl⟩;have hxg:y.cls.getD i default=x:=by rw [Vm,p0 hlt,<- hx];rfl
   have hrx:(y.cls.map cO)[i]?.getD []=cO x:=(by simp [hlt,hx]);have hxo:aF x.attrs:=hy.at_ x (hx ▸ Vg hlt);have hH:=dA x.attrs a hxo;have hP:=sD x.attrs a false hxo ha.1 ha.2;obtain ⟨n,rfl⟩:∃ n',n=n'+1:=⟨n - 1,by omega⟩;rw [Ek,Vj (by omega),hxg] at hF
   cases hb:bq x.attrs a with
   | false=>
    rw [hb,Vo rfl] at hF;rw [hb] at hH
    repeat' first|refine gf (kf @hrx @hlt) ?_|decide|refine sp ?_ ?_<;>intro _|refine cA hH ?_|fail
    all_goals exact cZ wC ⟨n,i+1,y,⟨by omega,by omega,hy,hyg,hF⟩,rfl⟩ (by rw [mu0,mu0];omega)
   | true=>
    rw [hb,Vj (by simp)] at hF;rw [hb] at hH;rw [Vj (by simp)] at hP;obtain ⟨v,hv⟩:∃ v,v=cr x.attrs a:=⟨_,rfl⟩;rw [<- hv] at hF hP;have hset:(y.cls.map cO).set i [eI v,eI x.const]=(rS y a i).cls.map cO:=(by rw [rS,hxg,<- hv,W8]);have hdl:=Ed y a i
    repeat' first|refine ge (kf @hrx @hlt) ?_|decide|refine sp ?_ ?_<;>intro _
    refine ax hH ?_
    repeat' first|refine ge (kf @hrx @hlt) ?_|decide|refine sp ?_ ?_<;>intro _
    refine ⟨rfl,⟨by omega,by omega⟩,?_⟩;refine ax hP ?_;have h3:i<(rS y a i).cls.length:=(by omega)
    have hr3:((rS y a i).cls.map cO)[i]?.getD []=[eI v,eI x.const]:=by
     rw [<- hset];simp [hlt]
    have hdo:=IE a i hy.at_;have hdg:(rS y a i).gaps=y.gaps:=rfl;have hdz:cw (rS y a i)=[.sl 2 ((rS y a i).cls.map cO),sI y.gaps]:=rfl;by_cases h0:v=0 /\ x.const = -1
    .have b1:(v == 0)=true:=Wu.2 h0.1;have b2:(x.const == -1)=true:=Wu.2 h0.2;rw [Vo h0,<- hdl] at hF;have hW:=Gz (rS y a i) i r h3 (by omega) (by rw [hdg,hdl];exact hyg);obtain ⟨w1,w2⟩:=Bc (rS y a i) i r h3;have w3:=rT (rS y a i) i r _ (Vh _);obtain ⟨W,hWe⟩:∃ W,W=nf (rS y a i) i r (rS y a i).cls.length:=⟨_,rfl⟩;rw [<- hWe] at hF hW w1 w2 w3
     repeat' first|refine ge (kf @hrx (kf @hlt (kf @hset (kf h3 (kf hr3 (kf b1 b2)))))) ?_|decide|refine sp ?_ ?_<;>intro _
     refine qY [3] (R:=⟨.agg (cw W),[],0⟩) ?_ ?_ ?_
     .repeat' first|decide|refine go ?_
      exact hW
     .repeat' first|decide|refine go ?_
      left;simp [fc,fH,aR,aY]
     .repeat' first|refine ge @bh ?_|decide|refine sp ?_ ?_<;>intro _
      exact cZ wC ⟨n,i,W,⟨by omega,by omega,⟨by omega,by omega,fun u hu=>hdo u (w3 u hu)⟩,by omega,hF⟩,rfl⟩ (by rw [mu0,mu0];omega)
    .rw [Vj h0] at hF;by_cases h1:v=0
     .have b1:(v == 0)=true:=Wu.2 h1;have b2:(x.const == -1)=false:=VP.2 fun e=>h0 ⟨h1,e⟩
      repeat' first|refine ge (kf @hrx (kf @hlt (kf @hset (kf h3 (kf hr3 (kf b1 b2)))))) ?_|decide|refine sp ?_ ?_<;>intro _
      refine cZ ((oe _ 3).trans ?_) ⟨n,i+1,rS y a i,⟨by omega,by omega,⟨by omega,by rw [hdg];omega,hdo⟩,by rw [hdg,hdl];exact hyg,hF⟩,rfl⟩ (by rw [mu0,mu0];omega);simp only [iE,gj,b8,af.gc,aD.frz,AV.frz,AV.frzL,↓reduceIte,Nat.reduceEqDiff,VT,XM,reduceCtorEq,Xz];exact (wE @hdz)
     .have b1:(v == 0)=false:=VP.2 h1
      repeat' first|refine ge (kf @hrx (kf @hlt (kf @hset (kf h3 (kf hr3 b1))))) ?_|decide|refine sp ?_ ?_<;>intro _
      refine cZ ((oe _ 3).trans ?_) ⟨n,i+1,rS y a i,⟨by omega,by omega,⟨by omega,by rw [hdg];omega,hdo⟩,by rw [hdg,hdl];exact hyg,hF⟩,rfl⟩ (by rw [mu0,mu0];omega);simp only [iE,gj,b8,af.gc,aD.frz,AV.frz,AV.frzL,↓reduceIte,Nat.reduceEqDiff,VT,XM,reduceCtorEq,Xz];exact (wE @hdz)
  .obtain rfl:i=y.cls.length:=by omega
   have hq:Q=y:=by
    cases n with
    | zero=>exact hF.symm
    | succ n=>rw [Ek,Vo (Vh _)] at hF;exact hF.symm
   rw [hq]
   repeat' first|refine gf @hlt ?_|decide|refine sp ?_ ?_<;>intro _
   all_goals exact fM rfl
 .have d0:((z.gaps.length:Int) != max ((z.cls.length:Int) - 1) 0)=true:=by simp [hg]
  have hD:fm z a r=z:=Vj hg;rw [hD]
  repeat' first|refine ge (kf ew d0) ?_|decide|refine sp ?_ ?_<;>intro _
  exact fM rfl
end
end
end Go.Proofs.YtmmoidfcfjklaaaGreat
