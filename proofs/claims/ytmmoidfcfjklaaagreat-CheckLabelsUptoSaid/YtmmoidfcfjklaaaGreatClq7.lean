/-
  Parts of the proof: Clp14, Clp15, Clp16, Clp17, Clp18.
-/
import Derived.Test.YtmmoidfcfjklaaaGreatClq6
import Derived.Test.YtmmoidfcfjklaaaGreatProg
import Derived.DeepKeys4
import Derived.WalkKit
set_option linter.unusedVariables false
set_option linter.unusedSimpArgs false
set_option linter.defProp false
set_option maxRecDepth 100000
set_option maxHeartbeats 16000000
namespace Go.Proofs.YtmmoidfcfjklaaaGreat
open Go.RowKit
section
section
theorem OA {vs:Array Value} {a:AV} (hn:vs.size=[a].length):∃ x,vs = #[x]:=⟨vs[0]'(by simp at hn;omega),by
 apply Array.ext (by simpa using hn);intro i h1 h2;simp at h2;subst h2;rfl⟩
theorem Bd (l:List Int) (hl:l.length<=1000000):aw Tryz.prog 186 [sI l] ⟨sI (bX l),[],0⟩:=
 Cb (fb Tryz.func186 rfl (by decide)) fun S w vs hS hn hv=>by
  obtain ⟨a,rfl⟩:=OA hn;refine (uZ l a w hl (LI.of_rt (hv 0 a _ rfl rfl) hS)).mono fun e w' ⟨v',h1,h2,h3⟩=>?_;rw [IV] at h2;exact ⟨v',h1,fun S' hS'=>h2.rt hS',h3⟩
def yl (e:TypeId) (sz:Nat) (rows:List (List AV)) (R:cS):Prop:=R=g8 e sz rows \/ R=⟨.sl sz rows,[],0⟩
theorem oq {P:Program} {f:FuncId} {args:List AV} (e:TypeId) {sz:Nat} {rows:List (List AV)} (h:dQ P f args (yl e sz rows)):aw P f args ⟨.sl sz rows,[],0⟩:=
 h.tree (by simp [AV.lt]) fun R hR=>by
  rcases hR with rfl|rfl
  .refine ⟨[0],?_⟩;have e:((g8 e sz rows).frzs [0]).r=.sl sz rows:=(by simp [cS.frzs,cS.frz,g8,af.gc,AV.frz]);rw [e];exact ⟨trivial,.one (.one (.refl _))⟩
  .exact ⟨[],trivial,.one (.one (.refl _))⟩
theorem Gv (x:Int) (O:List Int) (m:Nat):(gA x (O.take m)).1.length<=m+1:=by
 have:=Az x (O.take m);have h2:=List.length_take_le m O;split at this<;>omega
theorem xZ (l:List Int) (hl:l.length<=5000000):aw Tryz.prog 16 [sI l] (g8 2 1 ((bX l).map fun n=>[eI n])):=by
 refine aa ag Tryz.func16 rfl (by decide) Tryz.ntmps16 Tryz.results16 rfl (ch _ _ _) ?_
 repeat' first|refine go ?_|decide|refine sp ?_ ?_<;>intro _
 refine ae (fun st=>∃ k:Nat,k<=l.length /\ st=⟨67,[(0,sI l),(3,.osl 0),(4,eI (k:Int))],[(0,some (.row 2 1 ((bX (l.take k)).map fun n=>[eI n])))],1⟩) (fun st=>l.length - ap st 4) ⟨_,((be 3 2 1 (by simp only [iz,aj.get,bb,aj.put,↓reduceIte,reduceCtorEq,Nat.reduceLT,Nat.reduceEqDiff,Nat.reduceAdd,Nat.reduceLeDiff,eq_self,implies_true,Vu,bX,WV,VL])).trans (wS [0] (kf @Vu (kf @bX.eq_1 @WV)))),0,Vd _,rfl⟩ ?_;rintro _ ⟨k,hk,rfl⟩;by_cases hlt:k<l.length
 .have hst:=B9 l k hlt
  have hol:(bX (l.take k)).length<=5000000:=by
   have:=fB (l.take k);have:=List.length_take_le k l;omega
  obtain ⟨x,hx⟩:∃ x,x=l[k]:=⟨_,rfl⟩;have hrx:(l.map fun n=>[eI n])[k]?.getD []=[eI x]:=by rw [hx];simp [hlt]
  rw [<- hx] at hst;obtain ⟨O,hO⟩:∃ O,O=bX (l.take k):=⟨_,rfl⟩;rw [<- hO] at hst hol ⊢
  repeat' first|refine ge @hlt ?_|decide|refine sp ?_ ?_<;>intro _
  refine ae (fun st=>∃ m:Nat,m<=O.length /\ st=⟨67,[(0,sI l),(3,.osl 0),(4,eI (k:Int)),(5,.osl 1),(6,eB (gA x (O.take m)).2),(7,eI (m:Int))],[(0,some (.row 2 1 (O.map fun n=>[eI n]))),(1,some (.row 2 1 ((gA x (O.take m)).1.map fun n=>[eI n])))],2⟩) (fun st=>O.length - ap st 7) ⟨_,((be 5 2 1 (by simp only [iz,aj.get,bb,aj.put,↓reduceIte,reduceCtorEq,Nat.reduceLT,Nat.reduceEqDiff,Nat.reduceAdd,Nat.reduceLeDiff,eq_self,implies_true,Vu,gA,WV,VL])).trans (wS [0,1] (kf @Vu (kf @gA.eq_1 @WV)))),0,Vd _,rfl⟩ ?_;rintro _ ⟨m,hm,rfl⟩;have hil:=Gv x O m;by_cases hlt2:m<O.length
  .have hs:=G7 x O m hlt2;obtain ⟨y,hy⟩:∃ y,y=O[m]:=⟨_,rfl⟩;have hry:(O.map fun n=>[eI n])[m]?.getD []=[eI y]:=by rw [hy];simp [hlt2]
   rw [<- hy] at hs;obtain ⟨n,b,hn⟩:∃ n b,gA x (O.take m)=(n,b):=⟨_,_,rfl⟩;rw [hn] at hs hil ⊢;simp only at hil;by_cases hxy:x<=y
   .have d1:decide (x<=y)=true:=Vy hxy;by_cases hne:y=x
    .have d2:(y != x)=false:=by simp [hne]
     cases b with
     | true=>
      rw [Ms x y n hne] at hs
      repeat' first|refine gf (kf @hlt (kf @hlt2 (kf @hrx (kf @hry (kf d1 d2))))) ?_|decide|refine sp ?_ ?_<;>intro _|(with_reducible apply And.intro)
      all_goals first
       | rfl
       | omega
       | exact rI (wS [0,1] hs) ⟨m+1,by omega,rfl⟩
     | false=>
      rw [Oi x y n hxy hne] at hs;have e1:(n ++ [x]).map (fun n=>[eI n])=n.map (fun n=>[eI n]) ++ [[eI x]]:=(by simp)
      repeat' first|refine gf (kf @hlt (kf @hlt2 (kf @hrx (kf @hry (kf d1 d2))))) ?_|decide|refine sp ?_ ?_<;>intro _|(with_reducible apply And.intro)
      all_goals first
       | rfl
       | omega
       | exact rI (wS [0,3] (kf hs e1)) ⟨m+1,by omega,rfl⟩
    .have d2:(y != x)=true:=by simp [hne]
     cases b with
     | true=>
      rw [EK x y n hne] at hs;have e1:(n ++ [y]).map (fun n=>[eI n])=n.map (fun n=>[eI n]) ++ [[eI y]]:=(by simp)
      repeat' first|refine gf (kf @hlt (kf @hlt2 (kf @hrx (kf @hry (kf d1 d2))))) ?_|decide|refine sp ?_ ?_<;>intro _|(with_reducible apply And.intro)
      all_goals first
       | rfl
       | omega
       | exact rI (wS [0,3] (kf hs e1)) ⟨m+1,by omega,rfl⟩
     | false=>
      rw [Ij x y n hxy hne] at hs;have e1:((n ++ [x]) ++ [y]).map (fun n=>[eI n])=(n.map (fun n=>[eI n]) ++ [[eI x]]) ++ [[eI y]]:=(by simp)
      repeat' first|refine gf (kf @hlt (kf @hlt2 (kf @hrx (kf @hry (kf d1 d2))))) ?_|decide|refine sp ?_ ?_<;>intro _|(with_reducible apply And.intro)
      all_goals first
       | rfl
       | omega
       | (simp;omega)
       | exact rI (wS [0,5] (kf hs e1)) ⟨m+1,by omega,rfl⟩
   .have d1:decide (x<=y)=false:=Vv hxy;have hne:y ≠ x:=(by omega);have d2:(y != x)=true:=(by simp [hne]);have e1:(n ++ [y]).map (fun n=>[eI n])=n.map (fun n=>[eI n]) ++ [[eI y]]:=(by simp)
    cases b with
    | true=>
     rw [EK x y n hne] at hs
     repeat' first|refine gf (kf @hlt (kf @hlt2 (kf @hrx (kf @hry (kf d1 d2))))) ?_|decide|refine sp ?_ ?_<;>intro _|(with_reducible apply And.intro)
     all_goals first
      | rfl
      | omega
      | exact rI (wS [0,3] (kf hs e1)) ⟨m+1,by omega,rfl⟩
    | false=>
     rw [NC x y n hxy] at hs
     repeat' first|refine gf (kf @hlt (kf @hlt2 (kf @hrx (kf @hry (kf d1 d2))))) ?_|decide|refine sp ?_ ?_<;>intro _|(with_reducible apply And.intro)
     all_goals first
      | rfl
      | omega
      | exact rI (wS [0,3] (kf hs e1)) ⟨m+1,by omega,rfl⟩
  .obtain rfl:m=O.length:=by omega
   rw [Vq] at hil ⊢;unfold wT at hst;obtain ⟨n,b,hn⟩:∃ n b,gA x O=(n,b):=⟨_,_,rfl⟩;rw [hn] at hst hil ⊢;simp only at hil
   cases b with
   | true=>
    simp only [↓reduceIte] at hst
    repeat' first|refine gf (kf @hlt (kf @hlt2 @hrx)) ?_|decide|refine sp ?_ ?_<;>intro _|(with_reducible apply And.intro)
    all_goals first
     | rfl
     | omega
     | exact rI (wS [1] @hst) ⟨k+1,by omega,rfl⟩
   | false=>
    simp only [↓reduceIte,VM] at hst;have e1:(n ++ [x]).map (fun n=>[eI n])=n.map (fun n=>[eI n]) ++ [[eI x]]:=(by simp)
    repeat' first|refine gf (kf @hlt (kf @hlt2 @hrx)) ?_|decide|refine sp ?_ ?_<;>intro _|(with_reducible apply And.intro)
    all_goals first
     | rfl
     | omega
     | exact rI (wS [3] (kf @hst e1)) ⟨k+1,by omega,rfl⟩
 .obtain rfl:k=l.length:=by omega
  repeat' first|refine gf (kf @hlt @Vq) ?_|decide|refine sp ?_ ?_<;>intro _
  exact aM (by simp [af.gc])
theorem f9 (l:List Int) (hl:l.length<=5000000):aw Tryz.prog 16 [sI l] ⟨sI (bX l),[],0⟩:=
 oq 2 ((xZ l hl).mono fun R h=>.inl h)
def vh (c:List Int) (n:Int):Nat:=c.countP (fun x=>decide (x<n))
theorem Fq (c:List Int) (n:Int) (hc:Up c) (hl:c.length<=1000000):aw Tryz.prog 185 [sI c,eI n] ⟨.tup [eI (vh c n:Int),eB (decide (n ∈ c))],[],0⟩:=
 ⟨fb Tryz.func185 rfl (by decide),fun S w vs hS hn hv=>by
  obtain ⟨a,b,rfl⟩:=zz hn;obtain rfl:=Gn (hv 1 b _ rfl rfl);refine (K0 c n a w hl (LI.of_rt (hv 0 a _ rfl rfl) hS)).mono fun e w' ⟨⟨r,h1,hF⟩,h2⟩=>?_;obtain ⟨e1,e2⟩:=vS c n hc r hF.le (fun h0=>hF.lo h0 (by have:=hF.le;omega)) hF.hi;rw [e2,<- e1] at h1;refine ⟨_,fun _=>undef,_,rfl,⟨fun id o h=>(by cases h),⟨trivial,trivial,trivial⟩⟩,h1,⟨j0 h2,fun id o h=>(by cases h),fun id id' o o' g h=>(by cases h),fun b hb=>hb.elim⟩,.tree (.tup _ _ rfl fun j x av h3 h4=>?_)⟩
  match j with
  | 0=>simp at h3 h4;subst h3;subst h4;exact .c _
  | 1=>simp at h3 h4;subst h3;subst h4;exact .c _
  | j+2=>simp at h3⟩
structure fU where
 attrs:Int
 const:Int
structure Zn where
 cls:List fU
 gaps:List Int
abbrev cO (x:fU):List AV:=[eI x.attrs,eI x.const]
abbrev cw (z:Zn):List AV:=[.sl 2 (z.cls.map cO),sI z.gaps]
def rA {α:Type} (p:α -> Bool) (l:List α):Int:=match l.findIdx? p with | some k=>(k:Int) | none=>-1
theorem xJ {α:Type} {p:α -> Bool} {l:List α} {k:Nat} (hk:k<l.length) (h:p l[k]=true) (hn:∀ i (h:i<k),p (l[i]'(by omega))=false):rA p l=(k:Int):=by
 have:l.findIdx? p=some k:=List.findIdx?_eq_some_iff_getElem.2 ⟨hk,h,fun j hj=>by simp [hn j hj]⟩;unfold rA;rw [this]
theorem qw {α:Type} {p:α -> Bool} {l:List α} (h:∀ x ∈ l,p x=false):rA p l = -1:=by
 have:l.findIdx? p=none:=List.findIdx?_eq_none_iff.2 h;unfold rA;rw [this]
theorem CI {α:Type} (p:α -> Bool) (l:List α):(rA p l = -1 /\ ∀ x ∈ l,p x=false) \/ ∃ k:Nat,∃ h:k<l.length,rA p l=(k:Int) /\ p l[k]=true /\ ∀ i (h:i<k),p (l[i]'(by omega))=false:=by
 unfold rA
 cases hf:l.findIdx? p with
 | none=>exact .inl ⟨rfl,List.findIdx?_eq_none_iff.1 hf⟩
 | some k=>
  obtain ⟨h1,h2,h3⟩:=List.findIdx?_eq_some_iff_getElem.1 hf;exact .inr ⟨k,h1,rfl,h2,fun i hi=>by simpa using h3 i hi⟩
theorem Mi {α:Type} (p:α -> Bool) (l:List α):decide (0<=rA p l)=l.any p:=by
 rcases CI p l with ⟨h1,h2⟩|⟨k,hk,h1,h2,_⟩
 .rw [h1];symm;simpa using h2
 .rw [h1];have:l.any p=true:=XD.2 ⟨_,Vg hk,h2⟩;rw [this];simp
def Cc (c:List Int) (a n:Int) (x:fU):Bool:=(a != -1 && bq x.attrs a) || (a == -1 && decide (n ∈ c) && x.const == (vh c n:Int))
def eM (z:Zn) (consts:List Int) (a n:Int):Int:=rA (Cc (bX consts) a n) z.cls
def rC (z:Zn) (consts:List Int) (la ln ra rn:Int):Int:=
 if eM z consts la ln<0 \/ eM z consts ra rn<0 then 0 else zQ (eM z consts la ln) (eM z consts ra rn)
theorem G1 (g:FuncId) (caps:List AV) (l:List fU) (p:fU -> Bool) (hl:l.length<=1000000) (ht:aR caps) (hp:∀ x ∈ l,aw Tryz.prog g (.agg (cO x) :: caps) (val (.bool (p x)))):aw Tryz.prog 187 [.sl 2 (l.map cO),.fn g caps] (val (.int .i64 (rA p l))):=by
 refine aa ag Tryz.func187 rfl (by decide) Tryz.ntmps187 Tryz.results187 rfl (aI _) ?_;have hlt0:AV.ltL 0 caps:=sS ht
 repeat' first|refine go ?_|decide|refine sp ?_ ?_<;>intro _
 refine ae (fun st=>∃ k:Nat,k<=l.length /\ (∀ i (h:i<l.length),i<k -> p l[i]=false) /\ st=⟨19,[(0,.sl 2 (l.map cO)),(1,.fn g caps),(7,eI (l.length:Int)),(8,eI (k:Int))],[],0⟩) (fun st=>l.length - ap st 8) ⟨_,(wE @hlt0),0,Vd _,fun i _ h=>by omega,rfl⟩ ?_;rintro _ ⟨k,hk,hn,rfl⟩;by_cases hlt:k<l.length
 .repeat' first|refine go ?_|simp only [ab,hlt]|decide|refine sp ?_ ?_<;>intro _
  refine DQ (args:=[_]) ht (hp _ (Vg hlt)) ?_
  repeat' first|refine go ?_|simp only [ab,hlt]|decide|refine sp ?_ ?_<;>intro _
  .rename_i h;rw [xJ hlt h fun i hi=>hn i (by omega) hi]
  .rename_i h;refine rI (wE @hlt0) ⟨k+1,by omega,fun i hi h2=>?_,rfl⟩;rcases Vw i k with h3|h3
   .exact hn i hi h3
   .obtain rfl:i=k:=by omega
    exact h
 .obtain rfl:k=l.length:=by omega
  repeat' first|refine ge @hlt ?_|decide|refine sp ?_ ?_<;>intro _
  rw [qw fun x hx=>by obtain ⟨i,hi,rfl⟩:=VD hx;exact hn i hi hi]
theorem J2 (c:List Int) (a n:Int) (x:fU):aw Tryz.prog 188 [.agg (cO x),.rp [eI a,eI n],.rp [eB (decide (n ∈ c))],.rp [eI (vh c n:Int)]] (val (.bool (Cc c a n x))):=by
 refine aa ag Tryz.func188 rfl (by decide) Tryz.ntmps188 Tryz.results188 rfl (aI _) ?_
 repeat' first|refine gq ?_|decide|refine sp ?_ ?_<;>intro _|((with_reducible first|apply ax (g:=129)|apply aL (g:=129));exact (nh x.attrs a))
 all_goals simp_all [Cc]
theorem rZ (z:Zn) (consts:List Int) (a n:Int) (h1:z.cls.length<=1000000) (h2:consts.length<=1000000):aw Tryz.prog 165 [.agg (cw z),sI consts,.agg [eI a,eI n]] (val (.int .i64 (eM z consts a n))):=by
 refine aa ag Tryz.func165 rfl (by decide) Tryz.ntmps165 Tryz.results165 rfl (aI _) ?_;have hlen:=fB consts;have hS:=Bd consts h2;have hF:=Fq (bX consts) n (iD consts).1 (by omega);have hI:=G1 188 [.rp [eI a,eI n],.rp [eB (decide (n ∈ bX consts))],.rp [eI (vh (bX consts) n:Int)]] z.cls (Cc (bX consts) a n) h1 (by simp [aR,aY]) (fun x _=>J2 (bX consts) a n x)
 repeat' first|refine go ?_|decide|refine sp ?_ ?_<;>intro _
 refine ay [] [0,2,3] (.three 1 (.three 4 (.take 5 (.take 6 (.take 7 (.two 8 (.exec 9 (.exec 10 (.exec 11 .done))) 9 (.exec 8 (.exec 10 (.exec 11 .done))))))) 8 (.two 4 (.take 5 (.take 6 (.take 7 (.exec 9 (.exec 10 (.exec 11 .done)))))) 9 (.exec 4 (.take 5 (.take 6 (.take 7 (.exec 10 (.exec 11 .done))))))) 9 (.two 4 (.take 5 (.take 6 (.take 7 (.exec 8 (.exec 10 (.exec 11 .done)))))) 8 (.exec 4 (.take 5 (.take 6 (.take 7 (.exec 10 (.exec 11 .done)))))))) 8 (.two 1 (.two 4 (.take 5 (.take 6 (.take 7 (.exec 9 (.exec 10 (.exec 11 .done)))))) 9 (.exec 4 (.take 5 (.take 6 (.take 7 (.exec 10 (.exec 11 .done))))))) 9 (.exec 1 (.exec 4 (.take 5 (.take 6 (.take 7 (.exec 10 (.exec 11 .done)))))))) 9 (.two 1 (.two 4 (.take 5 (.take 6 (.take 7 (.exec 8 (.exec 10 (.exec 11 .done)))))) 8 (.exec 4 (.take 5 (.take 6 (.take 7 (.exec 10 (.exec 11 .done))))))) 8 (.exec 1 (.exec 4 (.take 5 (.take 6 (.take 7 (.exec 10 (.exec 11 .done))))))))) (by kernel_rfl) (by simp [af.gc]) ?_
 repeat' first|refine gq ?_|decide|refine sp ?_ ?_<;>intro _|refine cA hS ?_|refine cA hF ?_|(with_reducible apply And.intro)|refine cA hI ?_|fail
 all_goals rfl
end
section
theorem AE (a:Int):aw Tryz.prog 191 [eI a] (val (.bool false)):=by
 refine aa ag Tryz.func191 rfl (by decide) Tryz.ntmps191 Tryz.results191 rfl (aI _) ?_;have h:(a != a)=false:=by simp
 repeat' first|refine gf h ?_|decide|refine sp ?_ ?_<;>intro _
theorem Rs (a b:Int):aw Tryz.prog 171 [eI a,eI b] (val (.int .i64 (zQ a b))):=by
 refine aa ag Tryz.func171 rfl (by decide) Tryz.ntmps171 Tryz.results171 rfl (aI _) ?_
 repeat' first|refine gq ?_|decide|refine sp ?_ ?_<;>intro _|((with_reducible first|apply ax (g:=191)|apply aL (g:=191));exact (AE a))|((with_reducible first|apply ax (g:=191)|apply aL (g:=191));exact (AE b))
 all_goals (simp only [zQ];simp_all;try omega)
theorem Cs (z:Zn) (consts:List Int) (la ln ra rn:Int) (h1:z.cls.length<=1000000) (h2:consts.length<=1000000):aw Tryz.prog 136 [.agg (cw z),sI consts,.agg [eI la,eI ln],.agg [eI ra,eI rn]] (val (.int .i64 (rC z consts la ln ra rn))):=by
 refine aa ag Tryz.func136 rfl (by decide) Tryz.ntmps136 Tryz.results136 rfl (aI _) ?_;unfold rC
 repeat' first|refine gq ?_|decide|refine sp ?_ ?_<;>intro _|((with_reducible first|apply ax (g:=165)|apply aL (g:=165));exact (rZ z consts la ln h1 h2))|((with_reducible first|apply ax (g:=165)|apply aL (g:=165));exact (rZ z consts ra rn h1 h2))|((with_reducible first|apply ax (g:=171)|apply aL (g:=171));exact (Rs _ _))
 all_goals (simp_all;try omega)
theorem Gq (g:FuncId) (caps:List AV) (l:List (ah)) (p:ah -> Bool) (hl:l.length<=1000000) (ht:aR caps) (hp:∀ x ∈ l,aw Tryz.prog g (.agg (cq x) :: caps) (val (.bool (p x)))):aw Tryz.prog 184 [aX l,.fn g caps] (val (.int .i64 (rA p l))):=by
 refine aa ag Tryz.func184 rfl (by decide) Tryz.ntmps184 Tryz.results184 rfl (aI _) ?_;have hlt0:AV.ltL 0 caps:=sS ht
 repeat' first|refine go ?_|decide|refine sp ?_ ?_<;>intro _
 refine ae (fun st=>∃ k:Nat,k<=l.length /\ (∀ i (h:i<l.length),i<k -> p l[i]=false) /\ st=⟨19,[(0,aX l),(1,.fn g caps),(7,eI (l.length:Int)),(8,eI (k:Int))],[],0⟩) (fun st=>l.length - ap st 8) ⟨_,(wE @hlt0),0,Vd _,fun i _ h=>by omega,rfl⟩ ?_;rintro _ ⟨k,hk,hn,rfl⟩;by_cases hlt:k<l.length
 .repeat' first|refine go ?_|simp only [ab,hlt]|decide|refine sp ?_ ?_<;>intro _
  refine DQ (args:=[_]) ht (hp _ (Vg hlt)) ?_
  repeat' first|refine go ?_|simp only [ab,hlt]|decide|refine sp ?_ ?_<;>intro _
  .rename_i h;rw [xJ hlt h fun i hi=>hn i (by omega) hi]
  .rename_i h;refine rI (wE @hlt0) ⟨k+1,by omega,fun i hi h2=>?_,rfl⟩;rcases Vw i k with h3|h3
   .exact hn i hi h3
   .obtain rfl:i=k:=by omega
    exact h
 .obtain rfl:k=l.length:=by omega
  repeat' first|refine ge @hlt ?_|decide|refine sp ?_ ?_<;>intro _
  rw [qw fun x hx=>by obtain ⟨i,hi,rfl⟩:=VD hx;exact hn i hi hi]
theorem w7 (g:FuncId) (caps:List AV) (l:List (ah)) (p:ah -> Bool) (hl:l.length<=1000000) (ht:aR caps) (hp:∀ x ∈ l,aw Tryz.prog g (.agg (cq x) :: caps) (val (.bool (p x)))):aw Tryz.prog 162 [aX l,.fn g caps] (val (.bool (l.any p))):=by
 refine aa ag Tryz.func162 rfl (by decide) Tryz.ntmps162 Tryz.results162 rfl (aI _) ?_
 repeat' first|refine go ?_|decide|refine sp ?_ ?_<;>intro _
 refine ax (by simp only [V1,VL,gB];rw [show caps.map (ij [])=caps from qJ ht];exact Gq g caps l p hl ht hp) ?_
 repeat' first|refine go ?_|decide|refine sp ?_ ?_<;>intro _
 rw [Mi]
def dt (x:ah):Bool:=decide (3<=x.op) && decide (x.op<=8)
theorem Bb (x:ah):aw Tryz.prog 164 [.agg (cq x)] (val (.bool (dt x))):=by
 refine aa ag Tryz.func164 rfl (by decide) Tryz.ntmps164 Tryz.results164 rfl (aI _) ?_;unfold dt
 repeat' first|refine gq ?_|decide|refine sp ?_ ?_<;>intro _
 all_goals grind
def iI (z:Zn) (c:List Int) (x:ah):Bool:=dt x && (decide (eM z c x.la x.ln<0) || decide (eM z c x.ra x.rn<0))
def lh (l:List ah) (z:Zn) (c:List Int):Bool:=!(l.any (iI z c))
theorem I4 (z:Zn) (c:List Int) (x:ah) (h1:z.cls.length<=1000000) (h2:c.length<=1000000):aw Tryz.prog 163 [.agg (cq x),.rp (cw z),.rp [sI c]] (val (.bool (iI z c x))):=by
 refine aa ag Tryz.func163 rfl (by decide) Tryz.ntmps163 Tryz.results163 rfl (aI _) ?_;unfold iI
 repeat' first|refine gq ?_|decide|refine sp ?_ ?_<;>intro _|((with_reducible first|apply ax (g:=164)|apply aL (g:=164));exact (Bb x))|((with_reducible first|apply ax (g:=165)|apply aL (g:=165));exact (rZ z c x.la x.ln h1 h2))|((with_reducible first|apply ax (g:=165)|apply aL (g:=165));exact (rZ z c x.ra x.rn h1 h2))
 all_goals (simp_all;try omega)
theorem Nk (l:List ah) (z:Zn) (c:List Int) (hl:l.length<=1000000) (h1:z.cls.length<=1000000) (h2:c.length<=1000000):aw Tryz.prog 133 [aX l,.agg (cw z),sI c] (val (.bool (lh l z c))):=by
 refine aa ag Tryz.func133 rfl (by decide) Tryz.ntmps133 Tryz.results133 rfl (aI _) ?_;unfold lh;have hC:=w7 163 [.rp (cw z),.rp [sI c]] l (iI z c) hl (by simp [aR,aY]) (fun x _=>I4 z c x h1 h2)
 repeat' first|refine gq ?_|decide|refine sp ?_ ?_<;>intro _|refine cA hC ?_|fail
theorem E5 (z:Zn) (c:List Int) (la ln ra rn:Int) (h1:z.cls.length<=1000000) (h2:c.length<=1000000):aw Tryz.prog 135 [.agg [eI la,eI ln],.agg [eI ra,eI rn],.rp (cw z),.rp [sI c]] (val (.int .i64 (rC z c la ln ra rn))):=by
 refine aa ag Tryz.func135 rfl (by decide) Tryz.ntmps135 Tryz.results135 rfl (aI _) ?_
 repeat' first|refine gq ?_|decide|refine sp ?_ ?_<;>intro _|((with_reducible first|apply ax (g:=136)|apply aL (g:=136));exact (Cs z c la ln ra rn h1 h2))
theorem Oc (g:FuncId) (caps:List AV) (l:List ah) (s:St) (f:Int -> Int -> Int -> Int -> Int) (hl:l.length<=900) (ho:∀ x ∈ l,x.ok)
  (hg:∀ la ln ra rn,aw Tryz.prog g (.agg [eI la,eI ln] :: .agg [eI ra,eI rn] :: caps) (val (.int .i64 (f la ln ra rn)))) :
  aw Tryz.prog 134 [aX l,.fn g caps,.agg (gh s)] ⟨.tup [eB (ic (fN (fun x=>some (f x.la x.ln x.ra x.rn)) s.opn s.don l)),eI (pX (fN (fun x=>some (f x.la x.ln x.ra x.rn)) s.opn s.don l))],[],0⟩:=
 ⟨fb Tryz.func134 rfl (by decide),fun S w vs hS hn hv=>by
  obtain ⟨a,fv,b,rfl⟩:∃ a fv b,vs = #[a,fv,b]:=⟨vs[0]'(by simp at hn;omega),vs[1]'(by simp at hn;omega),vs[2]'(by simp at hn;omega),by
   apply Array.ext (by simpa using hn);intro i h1 h2;simp at h2
   match i with
   | 0=>rfl
   | 1=>rfl
   | 2=>rfl
   | i+3=>omega⟩
  have hf:=hv 1 fv _ rfl rfl;have hb:=hv 2 b _ rfl rfl
  cases hf with
  | fn _ ys _ hyn hyr=>
  cases hb with
  | agg xs cs hxn hr=>
   have hx:∀ j (hj:j<5),∃ x,xs[j]? = some x:=fun j hj=>⟨_,Vl (by simp at hxn;omega)⟩;obtain ⟨x0,e0⟩:=hx 0 (by omega);obtain ⟨x1,e1⟩:=hx 1 (by omega);obtain ⟨x2,e2⟩:=hx 2 (by omega);obtain ⟨x3,e3⟩:=hx 3 (by omega);obtain ⟨x4,e4⟩:=hx 4 (by omega)
   have hxs:xs = #[x0,x1,x2,x3,x4]:=by
    apply Array.ext_getElem?;intro j
    match j with
    | 0=>simpa using e0
    | 1=>simpa using e1
    | 2=>simpa using e2
    | 3=>simpa using e3
    | 4=>simpa using e4
    | j+5=>
     rw [Array.getElem?_eq_none (by simp at hxn;omega)];simp
   obtain rfl:=Gn (hr 1 x1 _ e1 rfl);obtain rfl:=Gn (hr 2 x2 _ e2 rfl);subst hxs
   have hles:∀ x ∈ l,kJ g ys (fun x=>some (f x.la x.ln x.ra x.rn)) x w:=fun x _ w' hw'=>by
    refine (hg x.la x.ln x.ra x.rn).calls (by simp [hyn];omega) (fun j v av h3 h4=>?_) (hS.amb.below hw')
    match j with
    | 0=>
     rw [V5 (by simp)] at h3;simp at h3 h4;subst h3;subst h4;refine .agg _ _ rfl fun i u av h5 h6=>?_
     match i with
     | 0=>simp at h5 h6;subst h5;subst h6;exact .c _
     | 1=>simp at h5 h6;subst h5;subst h6;exact .c _
     | i+2=>simp at h5
    | 1=>
     rw [V5 (by simp)] at h3;simp at h3 h4;subst h3;subst h4;refine .agg _ _ rfl fun i u av h5 h6=>?_
     match i with
     | 0=>simp at h5 h6;subst h5;subst h6;exact .c _
     | 1=>simp at h5 h6;subst h5;subst h6;exact .c _
     | i+2=>simp at h5
    | j+2=>
     have h3':ys[j]? = some v:=by
      rw [Xg (by simp)] at h3;simpa using h3
     have h4':caps[j]? = some av:=(by simpa using h4);exact (hyr j v av h3' h4').mono (fun p hp=>hw'.cell (hS _ hp)) (fun b hb=>Vn (hS b hb) hw'.size)
   have hcf:∀ (args:Array Value) (w:World),(callFunc g args).run Tryz.prog w=.ok (.enter g args) w:=(hg 0 0 0 0).1;refine (FP l a S g ys x0 s.opn s.don x3 x4 w (Ja (hv 0 a _ rfl rfl) ho) hS hl hcf _ hles).mono fun e w' ⟨h1,h2⟩=>?_;refine ⟨_,fun _=>undef,_,rfl,⟨fun id o h=>(by cases h),⟨trivial,trivial,trivial⟩⟩,h1,⟨j0 h2,fun id o h=>(by cases h),fun id id' o o' g h=>(by cases h),fun b hb=>hb.elim⟩,.tree (.tup _ _ rfl fun j x av h3 h4=>?_)⟩
   match j with
   | 0=>simp at h3 h4;subst h3;subst h4;exact .c _
   | 1=>simp at h3 h4;subst h3;subst h4;exact .c _
   | j+2=>simp at h3⟩
def bG (l:List ah) (z:Zn) (c:List Int) (s:St):Option Bool:=if lh l z c=true then fN (fun x=>some (rC z c x.la x.ln x.ra x.rn)) s.opn s.don l else none
theorem Iz (l:List ah) (z:Zn) (c:List Int) (s:St) (hl:l.length<=900) (ho:∀ x ∈ l,x.ok) (h1:z.cls.length<=1000000) (h2:c.length<=1000000):aw Tryz.prog 92 [aX l,.agg (cw z),sI c,.agg (gh s)] ⟨.tup [eB (ic (bG l z c s)),eI (pX (bG l z c s))],[],0⟩:=by
 have hok:(⟨.tup [eB (ic (bG l z c s)),eI (pX (bG l z c s))],[],0⟩:cS).Ok:=⟨fun id o h=>(by cases h),by simp [AV.lt,AV.ltL]⟩;refine aa ag Tryz.func92 rfl (by decide) Tryz.ntmps92 Tryz.results92 rfl (hok) ?_;have hK:=Nk l z c (by omega) h1 h2;have hS:=Oc 135 [.rp (cw z),.rp [sI c]] l s (rC z c) hl ho (fun la ln ra rn=>E5 z c la ln ra rn h1 h2)
 cases hk:lh l z c with
 | true=>
  rw [hk] at hK;have hz:bG l z c s=fN (fun x=>some (rC z c x.la x.ln x.ra x.rn)) s.opn s.don l:=by unfold bG;rw [Vo hk]
  rw [hz]
  repeat' first|refine gq ?_|decide|refine sp ?_ ?_<;>intro _|refine cA hK ?_|(((with_reducible apply bJ);exact hS;exact (.inr (by simp [AV.plain,AV.plainL]))))
  all_goals exact aV (by first|rfl|simp [AV.ren,AV.renL])
 | false=>
  rw [hk] at hK;have hz:bG l z c s=none:=by unfold bG;rw [Vj (by simp [hk])]
  rw [hz]
  repeat' first|refine gq ?_|decide|refine sp ?_ ?_<;>intro _|refine cA hK ?_|fail
  all_goals exact aV (by first|rfl|simp [AV.ren,AV.renL,ic,pX])
end
section
theorem Ao {c:List Int} (hc:Up c) {n:Int} {q:Nat} (hq:q<c.length) (h:c[q]=n):vh c n=q:=by
 have hp:=WH.1 hc;exact (vS c n hc q (by omega) (fun h0=>by rw [<- h];exact hp (q - 1) q (by omega) hq (by omega)) (fun _=>by omega)).1
theorem NN {c:List Int} (hc:Up c) (a n:Int) (x:fU):Cc c a n x=((a != -1 && bq x.attrs a) || (a == -1 && (decide (0<=x.const) && decide (x.const<(c.length:Int)) && (c.getD x.const.toNat 0 == n)))):=by
 have key:(decide (n ∈ c) && x.const == (vh c n:Int))=(decide (0<=x.const) && decide (x.const<(c.length:Int)) && (c.getD x.const.toNat 0 == n)):=by
  rw [Ws];simp only [VB,VJ,Wu];constructor
  .rintro ⟨h1,h2⟩;obtain ⟨i,hi,he⟩:=VD h1;rw [Ao hc hi he] at h2;rw [h2];refine ⟨⟨by omega,by omega⟩,?_⟩;rw [Wy,Vm,p0 hi];exact he
  .rintro ⟨⟨h1,h2⟩,h3⟩;obtain ⟨q,hq⟩:∃ q:Nat,x.const=(q:Int):=⟨x.const.toNat,by omega⟩;rw [hq] at h2 h3 ⊢;have hql:q<c.length:=(by omega);rw [Wy,Vm,p0 hql] at h3;have h3:c[q]=n:=h3;exact ⟨h3 ▸ Vg hql,by rw [Ao hc hql h3]⟩
 unfold Cc;rw [Bool.and_assoc,key]
theorem oE (z:Zn) (consts:List Int) (a n:Int) (h1:z.cls.length<=1000000) (h2:consts.length<=1000) (ho:∀ x ∈ z.cls,aF x.attrs):aw Tryz.prog 99 [.agg (cw z),sI consts,.agg [eI a,eI n]] (val (.int .i64 (eM z consts a n))):=by
 refine aa ag Tryz.func99 rfl (by decide) Tryz.ntmps99 Tryz.results99 rfl (aI _) ?_;have hlen:=fB consts;have hup:=(iD consts).1;unfold eM;have hS:=f9 consts (by omega);obtain ⟨c,hc⟩:∃ c,bX consts=c:=⟨_,rfl⟩;rw [hc] at hS hlen hup ⊢;obtain ⟨p,hp⟩:∃ p,Cc c a n=p:=⟨_,rfl⟩;rw [hp]
 repeat' first|refine gq ?_|decide|refine sp ?_ ?_<;>intro _|refine cA hS ?_|fail
 refine ae (fun st=>∃ k:Nat,k<=z.cls.length /\ (∀ i (h:i<z.cls.length),i<k -> p z.cls[i]=false) /\ st=⟨61,[(3,.op 0 0 0),(5,.op 1 0 0),(7,sI c),(8,eI (k:Int))],[(0,some (.box 91 (cw z))),(1,some (.box 59 [eI a,eI n]))],2⟩) (fun st=>z.cls.length - ap st 8) ⟨_,wC,0,Vd _,fun i _ h=>by omega,rfl⟩ ?_;rintro _ ⟨k,hk,hn,rfl⟩;by_cases hlt:k<z.cls.length
 .have hh:=dA z.cls[k].attrs a (ho _ (Vg hlt));have hP:=NN hup a n z.cls[k];rw [hp] at hP;obtain ⟨x,hx⟩:∃ x,z.cls[k]=x:=⟨_,rfl⟩;have hyes:p x=true -> rA p z.cls=(k:Int):=fun h=>xJ hlt (by rw [hx];exact h) fun i hi=>hn i (by omega) hi
  have hno:p x=false -> ∀ i (h:i<z.cls.length),i<k+1 -> p z.cls[i]=false:=fun h i hi h2=>by
   rcases Vw i k with h3|h3
   .exact hn i hi h3
   .obtain rfl:i=k:=by omega
    rw [hx];exact h
  rw [hx] at hh hP;obtain ⟨xa,xc⟩:=x;by_cases hq:0<=xc /\ xc<(c.length:Int)
  .obtain ⟨q,rfl⟩:∃ q:Nat,xc=(q:Int):=⟨xc.toNat,by omega⟩;have hql:q<c.length:=(by omega);have hcq:c.getD q 0=c[q]:=by rw [Vm,p0 hql];rfl
   repeat' first|refine gq ?_|simp only [ab,hlt,hx,hql]|decide|refine sp ?_ ?_<;>intro _|refine cA hh ?_|fail
   all_goals first
    | (rw [hyes (by rw [hP];clear hn hno hyes hP;simp_all)];done)
    | exact rI (wR [0,1]) ⟨k+1,by omega,hno (by rw [hP];clear hn hno hyes hP;simp_all),rfl⟩
    | (exfalso;simp at *;omega)
  .have hg:(decide (0<=xc) && decide (xc<(c.length:Int)))=false:=by
    rw [Wi];intro h;exact hq (by simpa using h)
   have hP2:p ⟨xa,xc⟩=(a != -1 && bq xa a):=by
    rw [hP];simp only [hg,VY,Bool.and_false,XQ]
   clear hP
   repeat' first|refine gq ?_|simp only [ab,hlt,hx]|decide|refine sp ?_ ?_<;>intro _|refine cA hh ?_|fail
   all_goals first
    | (rw [hyes (by rw [hP2];clear hn hno hyes hP2;simp_all)];done)
    | exact rI (wR [0,1]) ⟨k+1,by omega,hno (by rw [hP2];clear hn hno hyes hP2;simp_all),rfl⟩
    | (exfalso;simp at *;omega)
 .obtain rfl:k=z.cls.length:=by omega
  repeat' first|refine gf @hlt ?_|decide|refine sp ?_ ?_<;>intro _
  rw [qw fun x hx=>by obtain ⟨i,hi,rfl⟩:=VD hx;exact hn i hi hi]
theorem Jo (l:List ah) (z:Zn) (c:List Int) (hl:l.length<=1000000) (h1:z.cls.length<=1000000) (h2:c.length<=1000) (ho:∀ x ∈ z.cls,aF x.attrs):aw Tryz.prog 98 [aX l,.agg (cw z),sI c] (val (.bool (lh l z c))):=by
 refine aa ag Tryz.func98 rfl (by decide) Tryz.ntmps98 Tryz.results98 rfl (aI _) ?_;unfold lh
 repeat' first|refine go ?_|decide|refine sp ?_ ?_<;>intro _
 refine ae (fun st=>∃ k:Nat,k<=l.length /\ (∀ i (h:i<l.length),i<k -> iI z c l[i]=false) /\ st=⟨50,[(0,aX l),(2,sI c),(4,.op 0 0 0),(7,eI (k:Int))],[(0,some (.box 91 (cw z)))],1⟩) (fun st=>l.length - ap st 7) ⟨_,wC,0,Vd _,fun i _ h=>by omega,rfl⟩ ?_;rintro _ ⟨k,hk,hn,rfl⟩;by_cases hlt:k<l.length
 .obtain ⟨x,hx⟩:∃ x,l[k]=x:=⟨_,rfl⟩;have hL:=oE z c x.la x.ln h1 h2 ho;have hR:=oE z c x.ra x.rn h1 h2 ho
  have hyes:iI z c x=true -> (!l.any (iI z c))=false:=fun h=>by
   have:l.any (iI z c)=true:=XD.2 ⟨_,Vg hlt,by rw [hx];exact h⟩;rw [this];rfl
  have hno:iI z c x=false -> ∀ i (h:i<l.length),i<k+1 -> iI z c l[i]=false:=fun h i hi h2=>by
   rcases Vw i k with h3|h3
   .exact hn i hi h3
   .obtain rfl:i=k:=by omega
    rw [hx];exact h
  repeat' first|refine gq ?_|simp only [ab,hlt,hx]|decide|refine sp ?_ ?_<;>intro _|refine cA hL ?_|refine cA hR ?_|fail
  all_goals first
   | (rw [hyes (by clear hn hno hyes hL hR;simp_all [iI,dt])];done)
   | exact rI wC ⟨k+1,by omega,hno (by clear hn hno hyes hL hR;simp_all [iI,dt];try (intros;omega)),rfl⟩
   | (exfalso;simp at *;omega)
 .obtain rfl:k=l.length:=by omega
  have:l.any (iI z c)=false:=by
   rw [List.any_eq_false];intro x hx;obtain ⟨i,hi,rfl⟩:=VD hx;rw [hn i hi hi];simp
  repeat' first|refine gf (kf @hlt (kf @this @Xa)) ?_|decide|refine sp ?_ ?_<;>intro _
def eD (z:Zn) (c:List Int) (x:ah):ah:=if dt x=true then ⟨x.op,-1,eM z c x.la x.ln,-1,eM z c x.ra x.rn,x.n,x.u⟩ else x
theorem KF (z:Zn) (c:List Int) (x:ah):(eD z c x).op=x.op:=by unfold eD;split<;>rfl
theorem Cj (z:Zn) (c:List Int) (vals:List Int) (o d:Int) (x:ah) (r:List Bool) (h:iI z c x=false):du (yB vals) o d (eD z c x) r=du (fun x=>some (rC z c x.la x.ln x.ra x.rn)) o d x r:=by
 by_cases hc:dt x=true
 .have h3:3<=x.op /\ x.op<=8:=by simpa [dt] using hc
  have hp:¬ eM z c x.la x.ln<0 /\ ¬ eM z c x.ra x.rn<0:=by
   unfold iI at h;rw [hc] at h;simpa using h
  unfold eD;rw [Vo hc];unfold du;simp only [show ¬ (x.op=1 \/ x.op=2) by omega,if_false,h3,and_self,if_true]
  have:yB vals ⟨x.op,-1,eM z c x.la x.ln,-1,eM z c x.ra x.rn,x.n,x.u⟩=some (zQ (eM z c x.la x.ln) (eM z c x.ra x.rn)):=by
   simp [yB,tf]
  rw [this];unfold rC;rw [Vj (by omega)]
 .unfold eD;rw [Vj hc];have h3:¬ (3<=x.op /\ x.op<=8):=by simpa [dt] using hc
  unfold du;simp only [h3,if_false]
theorem wj (z:Zn) (c:List Int) (vals:List Int) (o d:Int):∀ (l:List ah) (r:List Bool),(∀ x ∈ l,iI z c x=false) -> de (yB vals) o d (l.map (eD z c)) r=de (fun x=>some (rC z c x.la x.ln x.ra x.rn)) o d l r
 | [],r,_=>rfl
 | x :: l,r,h=>by
  rw [V1,de,de,Cj z c vals o d x r (h x (Wc ..))]
  cases du (fun x=>some (rC z c x.la x.ln x.ra x.rn)) o d x r with
  | none=>rfl
  | some r'=>exact wj z c vals o d l r' fun y hy=>h y (V0 _ hy)
theorem Br (z:Zn) (c:List Int) (s:St) (l:List ah) (h:lh l z c=true):jg (l.map (eD z c)) s=bG l z c s:=by
 have hl:∀ x ∈ l,iI z c x=false:=by
  unfold lh at h;simpa using h
 have ho:(l.map (eD z c)).map ah.op=l.map ah.op:=by
  rw [List.map_map];exact List.map_congr_left fun x _=>KF z c x
 unfold bG;rw [Vo h];unfold jg fN;rw [ho,wj z c s.vals s.opn s.don l [] hl]
theorem vd (l:List ah) (z:Zn) (c:List Int) (s:St) (hl:l.length<=900) (h1:z.cls.length<=1000000) (h2:c.length<=1000) (ho:∀ x ∈ z.cls,aF x.attrs) (hop:aF s.opn) (hdo:aF s.don):aw Tryz.prog 49 [aX l,.agg (cw z),sI c,.agg (gh s)] ⟨.tup [eB (ic (bG l z c s)),eI (pX (bG l z c s))],[],0⟩:=by
 have hok:(⟨.tup [eB (ic (bG l z c s)),eI (pX (bG l z c s))],[],0⟩:cS).Ok:=⟨fun id o h=>(by cases h),by simp [AV.lt,AV.ltL]⟩;refine aa ag Tryz.func49 rfl (by decide) Tryz.ntmps49 Tryz.results49 rfl (hok) ?_;have hK:=Jo l z c (by omega) h1 h2 ho
 cases hk:lh l z c with
 | false=>
  rw [hk] at hK;have hz:bG l z c s=none:=by unfold bG;rw [Vj (by simp [hk])]
  rw [hz]
  repeat' first|refine gq ?_|decide|refine sp ?_ ?_<;>intro _|refine cA hK ?_|fail
  all_goals exact aV (by first|rfl|simp [AV.ren,AV.renL,ic,pX])
 | true=>
  rw [hk] at hK
  repeat' first|refine gq ?_|decide|refine sp ?_ ?_<;>intro _|refine cA hK ?_|fail
  refine ae (fun st=>∃ k:Nat,k<=l.length /\ st=⟨59,[(0,aX l),(2,sI c),(5,.op 0 0 0),(7,.op 1 0 0),(10,.osl 2),(11,eI (k:Int))],[(0,some (.box 91 (cw z))),(1,some (.box 132 (gh s))),(2,some (.row 61 7 ((l.take k).map fun x=>cq (eD z c x))))],3⟩) (fun st=>l.length - ap st 11) ⟨_,((be 10 61 7 (by simp only [iz,aj.get,bb,aj.put,↓reduceIte,reduceCtorEq,Nat.reduceLT,Nat.reduceEqDiff,Nat.reduceAdd,Nat.reduceLeDiff,eq_self,implies_true,Vu,VL])).trans (wS [0,1,2] @Vu)),0,Vd _,rfl⟩ ?_;rintro _ ⟨k,hk2,rfl⟩;by_cases hlt:k<l.length
  .obtain ⟨x,hx⟩:∃ x,l[k]=x:=⟨_,rfl⟩;have hL:=oE z c x.la x.ln h1 h2 ho;have hR:=oE z c x.ra x.rn h1 h2 ho;have hsn:(l.take (k+1)).map (fun x=>cq (eD z c x))=(l.take k).map (fun x=>cq (eD z c x)) ++ [cq (eD z c x)]:=(by rw [dc _ l hlt,hx]);have htl:(l.take k).length<=900:=by rw [Vr];omega
   cases hc:dt x with
   | true=>
    have hs:eD z c x=⟨x.op,-1,eM z c x.la x.ln,-1,eM z c x.ra x.rn,x.n,x.u⟩:=by unfold eD;rw [Vo hc]
    rw [hs] at hsn;have h3:decide (3<=x.op)=true /\ decide (x.op<=8)=true:=(by simpa [dt] using hc)
    repeat' first|refine gq ?_|simp only [ab,hlt,hx,h3.1,h3.2]|decide|refine sp ?_ ?_<;>intro _|refine cA hL ?_|refine cA hR ?_|(with_reducible apply And.intro)
    all_goals first
     | rfl
     | omega
     | exact rI (wS [0,1,5] @hsn) ⟨k+1,by omega,rfl⟩
   | false=>
    have hs:eD z c x=x:=by unfold eD;rw [Vj (by simp [hc])]
    rw [hs] at hsn
    repeat' first|refine gq ?_|simp only [ab,hlt,hx]|decide|refine sp ?_ ?_<;>intro _|refine cA hL ?_|refine cA hR ?_|(with_reducible apply And.intro)
    all_goals first
     | rfl
     | omega
     | (exfalso;simp_all [dt];done)
     | (exfalso;simp_all [dt];omega)
     | exact rI (wS [0,1,5] @hsn) ⟨k+1,by omega,rfl⟩
  .obtain rfl:k=l.length:=by omega
   have hH:=qa (l.map (eD z c)) s (by simp;omega) hop hdo;rw [Br z c s l hk] at hH;have em:(l.map (eD z c)).map cq=l.map fun x=>cq (eD z c x):=by rw [List.map_map];rfl
   simp only [aX,em] at hH
   repeat' first|refine ge (kf @hlt @Vq) ?_|decide|refine sp ?_ ?_<;>intro _
   refine bJ (r:=.tup [eB (ic (bG l z c s)),eI (pX (bG l z c s))]) ?_ (.inr (by simp [AV.plain,AV.plainL])) ?_
   .repeat' first|decide|refine go ?_
    exact hH
   .repeat' first|refine gq ?_|decide|refine sp ?_ ?_<;>intro _
    all_goals exact aV (by first|rfl|simp [AV.ren,AV.renL])
end
section
def jh (vals c:List Int):List Int:=bX (vals ++ c)
def ff (vals:List Int) (n:Int):Nat -> Int
 | 0=>0
 | k+1=>if vals.getD k 0=n then dN (ff vals n k) (k:Int) else ff vals n k
def gx (c:List Int) (n:Int):Nat -> Int
 | 0=>-1
 | k+1=>if c.getD k 0=n then (k:Int) else gx c n k
def DT (vals c:List Int) (n:Int):fU:=⟨ff vals n vals.length,gx (bX c) n (bX c).length⟩
def E7 (vals c:List Int):List fU:=(jh vals c).map (DT vals c)
end
end
section
section
def cV (r:Int):Int:=2 ^ (min r.toNat 20) - 1
theorem vu (r:Int):aw Tryz.prog 144 [eI r] (val (.int .i64 (cV r))):=by
 refine aa ag Tryz.func144 rfl (by decide) Tryz.ntmps144 Tryz.results144 rfl (aI _) ?_
 repeat' first|refine go ?_|decide|refine sp ?_ ?_<;>intro _
 refine ae (fun st=>∃ k:Nat,k<=20 /\ (k=0 \/ (k:Int)<=r) /\ st=⟨18,[(0,eI r),(3,eI (2 ^ k - 1)),(4,eI (k:Int))],[],0⟩) (fun st=>20 - ap st 4) ⟨_,wC,0,Vd _,.inl rfl,rfl⟩ ?_;rintro _ ⟨k,hk,hr,rfl⟩
 have hp:(2:Int) ^ k<=1048576:=by
  have h1:(2:Nat) ^ k<=2 ^ 20:=VU (by omega) hk;have h2:((2 ^ k:Nat):Int)=(2:Int) ^ k:=by simp
  omega
 have hp0:(0:Int)<2 ^ k:=Int.pow_pos (by omega);have hps:(2:Int) ^ (k+1)=2 * 2 ^ k:=by rw [Int.pow_succ,Int.mul_comm]
 have ew1:IntKind.i64.wrap (2 * (2 ^ k - 1))=2 * (2 ^ k - 1):=aB (by omega) (by omega);have ew2:IntKind.i64.wrap (2 * (2 ^ k - 1)+1)=2 ^ (k+1) - 1:=by rw [aB (by omega) (by omega)];omega
 by_cases h1:(k:Int)<r
 .by_cases h2:k<20
  .have d1:decide ((k:Int)<r)=true:=(by simpa using h1);have d2:decide ((k:Int)<20)=true:=by simp only [VJ];omega
   repeat' first|refine gf (kf d1 (kf d2 (kf ew1 ew2))) ?_|decide|refine sp ?_ ?_<;>intro _
   exact rI wC ⟨k+1,by omega,by omega,rfl⟩
  .have d1:decide ((k:Int)<r)=true:=(by simpa using h1);have d2:decide ((k:Int)<20)=false:=by simp only [VA];omega
   repeat' first|refine gf (kf d1 d2) ?_|decide|refine sp ?_ ?_<;>intro _
   unfold cV;rw [show min r.toNat 20=k by omega]
 .have d1:decide ((k:Int)<r)=false:=by simpa using h1
  repeat' first|refine gf d1 ?_|decide|refine sp ?_ ?_<;>intro _
  unfold cV;rw [show min r.toNat 20=k by omega]
def pb (a b m:Int):Int:=max 0 (min (b - a - 1) m)
theorem Pw (a b m:Int) (ha:aF a) (hb:aF b) (hm:m<=4294967296):aw Tryz.prog 143 [eI a,eI b,eI m] (val (.int .i64 (pb a b m))):=by
 refine aa ag Tryz.func143 rfl (by decide) Tryz.ntmps143 Tryz.results143 rfl (aI _) ?_
 repeat' first|refine go ?_|decide|refine sp ?_ ?_<;>intro _
 unfold aF at ha hb;refine ae (fun st=>∃ (k:Nat) (a':Int),(k:Int)<=pb a b m /\ a'=a+k /\ st=⟨27,[(0,eI a'),(1,eI b),(2,eI m),(7,eI (k:Int))],[],0⟩) (fun st=>m.toNat - ap st 7) ⟨_,wC,0,a,by unfold pb;omega,by omega,rfl⟩ ?_;rintro _ ⟨k,a',hk,ha',rfl⟩;by_cases h:(k:Int)<m /\ a'<b /\ a'+1<b
 .have d1:decide ((k:Int)<m)=true:=by simpa using h.1
  have d2:decide (a'<b)=true:=by simpa using h.2.1
  have d3:decide (a'+1<b)=true:=by simpa using h.2.2
  have ew:IntKind.i64.wrap (a'+1)=a'+1:=aB (by omega) (by omega)
  repeat' first|refine gf (kf d1 (kf d2 (kf ew d3))) ?_|decide|refine sp ?_ ?_<;>intro _
  exact rI wC ⟨k+1,a'+1,by unfold pb at *;omega,by omega,rfl⟩
 .have hg:(k:Int)=pb a b m:=by unfold pb at *;omega
  by_cases h1:(k:Int)<m
  .have d1:decide ((k:Int)<m)=true:=(by simpa using h1);by_cases h2:a'<b
   .have d2:decide (a'<b)=true:=(by simpa using h2);have d3:decide (a'+1<b)=false:=by simp only [VA];omega
    have ew:IntKind.i64.wrap (a'+1)=a'+1:=aB (by omega) (by omega)
    repeat' first|refine gf (kf d1 (kf d2 (kf ew d3))) ?_|decide|refine sp ?_ ?_<;>intro _
    exact hg
   .have d2:decide (a'<b)=false:=by simpa using h2
    repeat' first|refine gf (kf d1 d2) ?_|decide|refine sp ?_ ?_<;>intro _
    exact hg
  .have d1:decide ((k:Int)<m)=false:=by simpa using h1
   repeat' first|refine gf d1 ?_|decide|refine sp ?_ ?_<;>intro _
   exact hg
theorem za (vals c:List Int) (h1:vals.length<=400) (h2:c.length<=400):aw Tryz.prog 142 [sI vals,sI c] ⟨sI (jh vals c),[],0⟩:=by
 have hok:(⟨sI (jh vals c),[],0⟩:cS).Ok:=⟨fun id o h=>(by cases h),by simp [AV.lt]⟩;refine aa ag Tryz.func142 rfl (by decide) Tryz.ntmps142 Tryz.results142 rfl (hok) ?_;have hS:=f9 (vals ++ c) (by simp;omega);have em:(vals.map fun n=>[eI n]) ++ (c.map fun n=>[eI n])=(vals ++ c).map fun n=>[eI n]:=by rw [VI]
 repeat' first|refine gf em ?_|decide|refine sp ?_ ?_<;>intro _|(with_reducible apply And.intro)
 all_goals first
  | rfl
  | omega
  | skip
 refine qY [2] (R:=⟨sI (bX (vals ++ c)),[],0⟩) ?_ ?_ ?_
 .repeat' first|decide|refine go ?_
  exact hS
 .repeat' first|decide|refine go ?_
  left;simp [fc,fH,aR,aY]
 .repeat' first|refine gq ?_|decide|refine sp ?_ ?_<;>intro _
  all_goals exact aV (by first|rfl|simp [AV.ren,AV.renL])
def kT (x:ah):List Int:=if dt x=true then (if x.la = -1 then [x.ln] else []) ++ (if x.ra = -1 then [x.rn] else []) else []
def cG (l:List ah):List Int:=l.flatMap kT
theorem CK (x:ah):(kT x).length<=2:=by
 unfold kT;split
 .split<;>split<;>simp
 .simp
theorem lm:∀ l:List ah,(cG l).length<=2 * l.length
 | []=>by simp [cG]
 | x :: l=>by
  have h1:=CK x;have h2:=lm l;unfold cG at *;simp only [Wt,Vk,VN];omega
theorem lQ (l:List ah) (hl:l.length<=1100000):aw Tryz.prog 15 [aX l] ⟨sI (bX (cG l)),[],0⟩:=by
 have hok:(⟨sI (bX (cG l)),[],0⟩:cS).Ok:=⟨fun id o h=>(by cases h),by simp [AV.lt]⟩;refine aa ag Tryz.func15 rfl (by decide) Tryz.ntmps15 Tryz.results15 rfl (hok) ?_;have hlen:=lm l;have hS:=f9 (cG l) (by omega)
 repeat' first|refine go ?_|decide|refine sp ?_ ?_<;>intro _
 refine ae (fun st=>∃ k:Nat,k<=l.length /\ st=⟨59,[(0,aX l),(3,.osl 0),(4,eI (k:Int))],[(0,some (.row 2 1 ((cG (l.take k)).map fun n=>[eI n])))],1⟩) (fun st=>l.length - ap st 4) ⟨_,((be 3 2 1 (by simp only [iz,aj.get,bb,aj.put,↓reduceIte,reduceCtorEq,Nat.reduceLT,Nat.reduceEqDiff,Nat.reduceAdd,Nat.reduceLeDiff,eq_self,implies_true,Vu,cG,Wl,VL])).trans (wS [0] (kf @Vu (kf @cG.eq_1 @Wl)))),0,Vd _,rfl⟩ ?_;rintro _ ⟨k,hk,rfl⟩;by_cases hlt:k<l.length
 .obtain ⟨x,hx⟩:∃ x,l[k]=x:=⟨_,rfl⟩
  have hsn:cG (l.take (k+1))=cG (l.take k) ++ kT x:=by
   unfold cG;rw [Xp,p0 hlt,hx];simp
  have htl:(cG (l.take k)).length<=2200000:=by
   have:=lm (l.take k);rw [Vr] at this;omega
  obtain ⟨op,la,ln,ra,rn,xn,xu⟩:=x;by_cases hc:3<=op /\ op<=8
  .have hcm:dt ⟨op,la,ln,ra,rn,xn,xu⟩=true:=(by simp [dt,hc]);have d1:decide (op<3)=false:=by simp only [VA];omega
   have d2:decide (8<op)=false:=by simp only [VA];omega
   have hna:kT ⟨op,la,ln,ra,rn,xn,xu⟩=(if la = -1 then [ln] else []) ++ (if ra = -1 then [rn] else []):=by unfold kT;rw [Vo hcm]
   rw [hna] at hsn;by_cases ha:la = -1
   .have ha1:(la == -1)=true:=(by simpa using ha);by_cases hb:ra = -1
    .have hb1:(ra == -1)=true:=(by simpa using hb);rw [Vo ha,Vo hb] at hsn;have hs2:(cG (l.take (k+1))).map (fun n=>[eI n])=((cG (l.take k)).map (fun n=>[eI n]) ++ [[eI ln]]) ++ [[eI rn]]:=by rw [hsn];simp
     repeat' first|refine gq ?_|simp only [ab,hlt,hx,d1,d2,ha1,hb1]|decide|refine sp ?_ ?_<;>intro _|(with_reducible apply And.intro)
     all_goals first
      | rfl
      | omega
      | (simp;omega)
      | exact rI (wS [4] hs2) ⟨k+1,by omega,rfl⟩
    .have hb1:(ra == -1)=false:=(by simpa using hb);rw [Vo ha,Vj hb] at hsn;have hs2:(cG (l.take (k+1))).map (fun n=>[eI n])=(cG (l.take k)).map (fun n=>[eI n]) ++ [[eI ln]]:=by rw [hsn];simp
     repeat' first|refine gq ?_|simp only [ab,hlt,hx,d1,d2,ha1,hb1]|decide|refine sp ?_ ?_<;>intro _|(with_reducible apply And.intro)
     all_goals first
      | rfl
      | omega
      | (simp;omega)
      | exact rI (wS [2] hs2) ⟨k+1,by omega,rfl⟩
   .have ha1:(la == -1)=false:=(by simpa using ha);by_cases hb:ra = -1
    .have hb1:(ra == -1)=true:=(by simpa using hb);rw [Vj ha,Vo hb] at hsn;have hs2:(cG (l.take (k+1))).map (fun n=>[eI n])=(cG (l.take k)).map (fun n=>[eI n]) ++ [[eI rn]]:=by rw [hsn];simp
     repeat' first|refine gq ?_|simp only [ab,hlt,hx,d1,d2,ha1,hb1]|decide|refine sp ?_ ?_<;>intro _|(with_reducible apply And.intro)
     all_goals first
      | rfl
      | omega
      | (simp;omega)
      | exact rI (wS [2] hs2) ⟨k+1,by omega,rfl⟩
    .have hb1:(ra == -1)=false:=(by simpa using hb);rw [Vj ha,Vj hb] at hsn;have hs2:(cG (l.take (k+1))).map (fun n=>[eI n])=(cG (l.take k)).map (fun n=>[eI n]):=by rw [hsn];simp
     repeat' first|refine gq ?_|simp only [ab,hlt,hx,d1,d2,ha1,hb1]|decide|refine sp ?_ ?_<;>intro _
     exact rI (wE hs2) ⟨k+1,by omega,rfl⟩
  .have hcm:dt ⟨op,la,ln,ra,rn,xn,xu⟩=false:=by
    rw [Wi];intro h;exact hc (by simpa [dt] using h)
   have hna:kT ⟨op,la,ln,ra,rn,xn,xu⟩=[]:=by unfold kT;rw [Vj (by simp [hcm])]
   rw [hna,Wr] at hsn;have hs2:(cG (l.take (k+1))).map (fun n=>[eI n])=(cG (l.take k)).map (fun n=>[eI n]):=(by rw [hsn])
   repeat' first|refine gq ?_|simp only [ab,hlt,hx]|decide|refine sp ?_ ?_<;>intro _
   all_goals first
    | exact rI (wE hs2) ⟨k+1,by omega,rfl⟩
    | (exfalso;simp at *;omega)
 .obtain rfl:k=l.length:=by omega
  repeat' first|refine ge (kf @hlt @Vq) ?_|decide|refine sp ?_ ?_<;>intro _
  refine qY [0] (R:=⟨sI (bX (cG l)),[],0⟩) ?_ ?_ ?_
  .repeat' first|decide|refine go ?_
   exact hS
  .repeat' first|decide|refine go ?_
   left;simp [fc,fH,aR,aY]
  .repeat' first|refine gq ?_|decide|refine sp ?_ ?_<;>intro _
   all_goals exact aV (by first|rfl|simp [AV.ren,AV.renL])
end
section
theorem cL:dP Tryz.prog 3 (fl .i64):=vC Tryz.underlying3
theorem yF:dP Tryz.prog 2 (fl .i64):=vC Tryz.underlying2
def PV:gw (Int × Int × Unit):=cy (fl .i64) (cy (fl .i64) tU)
theorem zN:dP Tryz.prog 59 PV:=
 cK Tryz.underlying59 (by kernel_rfl) (aG (by kernel_rfl) (by kernel_rfl) cL (aG (by kernel_rfl) (by kernel_rfl) yF (dG _ _)))
def Us:gw (Int × (Int × Int × Unit) × (Int × Int × Unit) × Int × Int × Unit):=cy (fl .i64) (cy PV (cy PV (cy (fl .i64) (cy (fl .i64) tU))))
theorem BF:dP Tryz.prog 61 Us:=
 cK Tryz.underlying61 (by kernel_rfl) (aG (by kernel_rfl) (by kernel_rfl) cL (aG (by kernel_rfl) (by kernel_rfl) zN (aG (by kernel_rfl) (by kernel_rfl) zN (aG (by kernel_rfl) (by kernel_rfl) cL (aG (by kernel_rfl) (by kernel_rfl) cL (dG _ _))))))
theorem Hg:dP Tryz.prog 61 fD:=gL BF (fun p=>⟨p.1,p.2.1.1,p.2.1.2.1,p.2.2.1.1,p.2.2.1.2.1,p.2.2.2.1,p.2.2.2.2.1⟩) (by
 rintro w S cs ⟨op,⟨la,ln,_⟩,⟨ra,rn,_⟩,n,u,_⟩ h;obtain ⟨c0,q0,e0,⟨a0,h0⟩,h'⟩:=aZ h;obtain ⟨c1,q1,e1,h1,h''⟩:=aZ h';obtain ⟨c2,q2,e2,h2,h3⟩:=aZ h'';obtain ⟨c3,q3,e3,⟨a3,h3'⟩,h4⟩:=aZ h3;obtain ⟨c4,q4,e4,⟨a4,h4'⟩,h5⟩:=aZ h4;have h5:q4=[]:=h5;obtain ⟨d0,k0,f0,⟨b0,g0⟩,m0⟩:=aZ h1;obtain ⟨d1,k1,f1,⟨b1,g1⟩,m1⟩:=aZ m0;have m1:k1=[]:=m1;obtain ⟨d2,k2,f2,⟨b2,g2⟩,m2⟩:=aZ h2;obtain ⟨d3,k3,f3,⟨b3,g3⟩,m3⟩:=aZ m2;have m3:k3=[]:=m3;refine ⟨?_,dY h0,dY g0,dY g1,dY g2,dY g3,dY h3',dY h4'⟩;rw [e0,e1,e2,e3,e4,h5,a0,f0,f1,m1,b0,b1,f2,f3,m3,b2,b3,a3,a4];rfl)
theorem nB:dP Tryz.prog 33 (aJ fD):=cz Tryz.underlying33 (by kernel_rfl) (by decide) Hg
theorem B5:dP Tryz.prog 87 (aJ (fl .i64)):=cz Tryz.underlying87 (by kernel_rfl) (by decide) cL
end
section
theorem kx:dP Tryz.prog 9 rD:=wU Tryz.underlying9
theorem sM:dP Tryz.prog 4 D9:=B3 Tryz.underlying4
theorem ou {t:TypeId} (h:dP Tryz.prog t (cy rD (cy (fl .i64) tU))):dP Tryz.prog t fR:=gL h (fun p=>(p.1,p.2.1)) (by
 rintro w S cs ⟨s,n,_⟩ h;obtain ⟨c0,q0,e0,⟨a0,h0⟩,h⟩:=aZ h;obtain ⟨c1,q1,e1,⟨a1,h1⟩,h⟩:=aZ h;have h:q1=[]:=h;exact ⟨by rw [e0,e1,a0,a1,h];rfl,h0,dY h1⟩)
theorem CL:dP Tryz.prog 141 fR:=ou (cK Tryz.underlying141 (by kernel_rfl) (aG (by kernel_rfl) (by kernel_rfl) kx (aG (by kernel_rfl) (by kernel_rfl) cL (dG _ _))))
theorem Fm:dP Tryz.prog 139 fR:=ou (cK Tryz.underlying139 (by kernel_rfl) (aG (by kernel_rfl) (by kernel_rfl) kx (aG (by kernel_rfl) (by kernel_rfl) cL (dG _ _))))
theorem Lm:dP Tryz.prog 146 pz:=gL (r:=cy (fl .i64) (cy (fl .i64) tU)) (cK Tryz.underlying146 (by kernel_rfl) (aG (by kernel_rfl) (by kernel_rfl) cL (aG (by kernel_rfl) (by kernel_rfl) cL (dG _ _)))) (fun p=>(p.1,p.2.1)) (by
 rintro w S cs ⟨s,n,_⟩ h;obtain ⟨c0,q0,e0,⟨a0,h0⟩,h⟩:=aZ h;obtain ⟨c1,q1,e1,⟨a1,h1⟩,h⟩:=aZ h;have h:q1=[]:=h;exact ⟨by rw [e0,e1,a0,a1,h];rfl,dY h0,dY h1⟩)
theorem zk:dP Tryz.prog 151 oO:=gL (r:=cy D9 (cy (fl .i64) tU)) (cK Tryz.underlying151 (by kernel_rfl) (aG (by kernel_rfl) (by kernel_rfl) sM (aG (by kernel_rfl) (by kernel_rfl) cL (dG _ _)))) (fun p=>(p.1,p.2.1)) (by
 rintro w S cs ⟨s,n,_⟩ h;obtain ⟨c0,q0,e0,a0,h⟩:=aZ h;have a0:c0=[.bool s]:=a0;obtain ⟨c1,q1,e1,⟨a1,h1⟩,h⟩:=aZ h;have h:q1=[]:=h;exact ⟨by rw [e0,e1,a0,a1,h];rfl,dY h1⟩)
theorem DD:dP Tryz.prog 67 Tu:=gL (r:=cy (fl .i64) (cy (fl .i64) (cy (aJ fD) tU))) (cK Tryz.underlying67 (by kernel_rfl) (aG (by kernel_rfl) (by kernel_rfl) cL (aG (by kernel_rfl) (by kernel_rfl) cL (aG (by kernel_rfl) (by kernel_rfl) nB (dG _ _))))) (fun p=>⟨p.1,p.2.1,p.2.2.1⟩) (by
 rintro w S cs ⟨s,n,l,_⟩ h;obtain ⟨c0,q0,e0,⟨a0,h0⟩,h⟩:=aZ h;obtain ⟨c1,q1,e1,⟨a1,h1⟩,h⟩:=aZ h;obtain ⟨c2,q2,e2,h2,h⟩:=aZ h;have h:q2=[]:=h;obtain ⟨cv,rfl,h2⟩:=fy (r:=aJ fD) rfl h2;exact ⟨cv,by rw [e0,e1,e2,a0,a1,h];rfl,h2,dY h0,dY h1⟩)
theorem FK:dP Tryz.prog 69 Tp:=gL (r:=cy rD (cy (fl .i64) (cy (fl .i64) (cy (aJ fD) (cy D9 tU))))) (cK Tryz.underlying69 (by kernel_rfl) (aG (by kernel_rfl) (by kernel_rfl) kx (aG (by kernel_rfl) (by kernel_rfl) cL (aG (by kernel_rfl) (by kernel_rfl) cL (aG (by kernel_rfl) (by kernel_rfl) nB (aG (by kernel_rfl) (by kernel_rfl) sM (dG _ _))))))) (fun p=>⟨p.1,p.2.1,p.2.2.1,p.2.2.2.1,p.2.2.2.2.1⟩) (by
 rintro w S cs ⟨nm,s,n,l,b,_⟩ h;obtain ⟨c9,q9,e9,⟨a9,h9⟩,h⟩:=aZ h;obtain ⟨c0,q0,e0,⟨a0,h0⟩,h⟩:=aZ h;obtain ⟨c1,q1,e1,⟨a1,h1⟩,h⟩:=aZ h;obtain ⟨c2,q2,e2,h2,h⟩:=aZ h;obtain ⟨c3,q3,e3,a3,h⟩:=aZ h;have a3:c3=[.bool b]:=a3;have h:q3=[]:=h;obtain ⟨cv,rfl,h2⟩:=fy (r:=aJ fD) rfl h2;exact ⟨cv,by rw [e9,e0,e1,e2,e3,a9,a0,a1,a3,h];rfl,h2,dY h0,dY h1,h9⟩)
theorem DM:dP Tryz.prog 103 TF:=gL (r:=cy rD (cy (fl .i64) (cy (fl .i64) (cy (aJ (fl .i64)) (cy (fl .i64) tU))))) (cK Tryz.underlying103 (by kernel_rfl) (aG (by kernel_rfl) (by kernel_rfl) kx (aG (by kernel_rfl) (by kernel_rfl) cL (aG (by kernel_rfl) (by kernel_rfl) cL (aG (by kernel_rfl) (by kernel_rfl) B5 (aG (by kernel_rfl) (by kernel_rfl) cL (dG _ _))))))) (fun p=>⟨p.1,p.2.1,p.2.2.1,p.2.2.2.1,p.2.2.2.2.1⟩) (by
 rintro w S cs ⟨nm,s,n,l,b,_⟩ h;obtain ⟨c9,q9,e9,⟨a9,h9⟩,h⟩:=aZ h;obtain ⟨c0,q0,e0,⟨a0,h0⟩,h⟩:=aZ h;obtain ⟨c1,q1,e1,⟨a1,h1⟩,h⟩:=aZ h;obtain ⟨c2,q2,e2,h2,h⟩:=aZ h;obtain ⟨c3,q3,e3,⟨a3,h3⟩,h⟩:=aZ h;have h:q3=[]:=h;obtain ⟨cv,rfl,h2⟩:=fy (r:=aJ (fl .i64)) rfl h2;exact ⟨cv,by rw [e9,e0,e1,e2,e3,a9,a0,a1,a3,h];rfl,h2,dY h0,dY h1,dY h3,h9⟩)
abbrev UY:=cy (aJ rD) (cy (aJ (fl .i64)) (cy (aJ rD) (cy (aJ fR) (cy (aJ fR) (cy (aJ TF) (cy (aJ Tu) (cy (aJ Tp) (cy (aJ pz) (cy (aJ oO) tU)))))))))
theorem GZ:dP Tryz.prog 32 UY:=cK Tryz.underlying32 (by kernel_rfl) (aG (by kernel_rfl) (by kernel_rfl) (cz Tryz.underlying22 (by kernel_rfl) (by decide) kx) (aG (by kernel_rfl) (by kernel_rfl) (cz Tryz.underlying23 (by kernel_rfl) (by decide) yF) (aG (by kernel_rfl) (by kernel_rfl) (cz Tryz.underlying22 (by kernel_rfl) (by decide) kx) (aG (by kernel_rfl) (by kernel_rfl) (cz Tryz.underlying24 (by kernel_rfl) (by decide) Fm) (aG (by kernel_rfl) (by kernel_rfl) (cz Tryz.underlying25 (by kernel_rfl) (by decide) CL) (aG (by kernel_rfl) (by kernel_rfl) (cz Tryz.underlying26 (by kernel_rfl) (by decide) DM) (aG (by kernel_rfl) (by kernel_rfl) (cz Tryz.underlying27 (by kernel_rfl) (by decide) DD) (aG (by kernel_rfl) (by kernel_rfl) (cz Tryz.underlying28 (by kernel_rfl) (by decide) FK) (aG (by kernel_rfl) (by kernel_rfl) (cz Tryz.underlying29 (by kernel_rfl) (by decide) Lm) (aG (by kernel_rfl) (by kernel_rfl) (cz Tryz.underlying30 (by kernel_rfl) (by decide) zk) (dG _ _)))))))))))
theorem Jh {H:Type} {enc:TypeId × Value -> H} {w:World} {fuel:Nat} {cs:Array Value} {x:DataW H × List MemPlace} (h:DataW.trod enc Tryz.prog w 0 (fun _=>true) true fuel 32 cs.toList=some x) :
  ∃ (V:MV) (m:bl),cs=V.cells /\ Jm w V m:=by
 obtain ⟨⟨attrs,inits,users,roles,stages,events,guards,miles,sods,order,_⟩,h⟩:=GZ H enc w fuel _ _ h;obtain ⟨c0,q0,e0,h0,h⟩:=aZ h;obtain ⟨c1,q1,e1,h1,h⟩:=aZ h;obtain ⟨c2,q2,e2,h2,h⟩:=aZ h;obtain ⟨c3,q3,e3,h3,h⟩:=aZ h;obtain ⟨c4,q4,e4,h4,h⟩:=aZ h;obtain ⟨c5,q5,e5,h5,h⟩:=aZ h;obtain ⟨c6,q6,e6,h6,h⟩:=aZ h;obtain ⟨c7,q7,e7,h7,h⟩:=aZ h;obtain ⟨c8,q8,e8,h8,h⟩:=aZ h;obtain ⟨c9,q9,e9,h9,h⟩:=aZ h;obtain rfl:q9=[]:=h;obtain ⟨v0,rfl,h0⟩:=fy (r:=aJ rD) rfl h0;obtain ⟨v1,rfl,h1⟩:=fy (r:=aJ (fl .i64)) rfl h1;obtain ⟨v2,rfl,h2⟩:=fy (r:=aJ rD) rfl h2;obtain ⟨v3,rfl,h3⟩:=fy (r:=aJ fR) rfl h3;obtain ⟨v4,rfl,h4⟩:=fy (r:=aJ fR) rfl h4;obtain ⟨v5,rfl,h5⟩:=fy (r:=aJ TF) rfl h5;obtain ⟨v6,rfl,h6⟩:=fy (r:=aJ Tu) rfl h6;obtain ⟨v7,rfl,h7⟩:=fy (r:=aJ Tp) rfl h7;obtain ⟨v8,rfl,h8⟩:=fy (r:=aJ pz) rfl h8;obtain ⟨v9,rfl,h9⟩:=fy (r:=aJ oO) rfl h9;refine ⟨⟨v0,v1,v2,v3,v4,v5,v6,v7,v8,v9⟩,⟨attrs,inits,users,roles,stages,events,guards,miles,sods,order⟩,?_,⟨h0,h1,h2,h3,h4,h5,h6,h7,h8,h9⟩⟩;apply Array.ext';rw [e0,e1,e2,e3,e4,e5,e6,e7,e8,e9];rfl
end
section
def qj {α:Type} (r:gw α) (f:α -> List AV):Prop:=∀ (w:World) (S:Nat -> Prop) (cs:List Value) (x:α),r.at_ w S cs x -> (f x).length=r.size /\ ∀ (j:Nat) (u:Value) (av:AV),cs[j]? = some u -> (f x)[j]? = some av -> RT w S u av /\ u.oneCell'=true
theorem qj.slice {α:Type} {r:gw α} {f:α -> List AV} (h:qj r f) {w:World} {S:Nat -> Prop} {v:Value} {l:List α} (hv:(aJ r).one w S v l):RT w S v (.sl r.size (l.map f)):=by
 obtain ⟨A,c,rfl,h1,h2⟩:=dk hv;by_cases h0:0<l.length
 .obtain ⟨b,o,rfl,hb,hrow⟩:=dJ hv h0
  classical
  let cs:Nat -> List Value:=fun i=>if hi:i<l.length then (hrow i hi).choose else []
  have hcs:∀ i (hi:i<l.length),(∀ (j:Nat) (u:Value),(cs i)[j]? = some u -> w.cell? ⟨b,o+i * r.size+j,none⟩=some u) /\ r.at_ w S (cs i) l[i]:=fun i hi=>by
   have:=(hrow i hi).choose_spec;simpa [cs,hi] using this
  have key:∀ (i j:Nat) (row:List AV) (av:AV),(l.map f)[i]? = some row -> row[j]? = some av -> ∃ hi:i<l.length,(cs i)[j]? = some ((cs i).getD j undef) /\ RT w S ((cs i).getD j undef) av /\ ((cs i).getD j undef).oneCell'=true:=fun i j row av h3 h4=>by
   have hi:i<l.length:=by
    have:=(Vf.1 h3).1;simpa using this
   have hf:row=f l[i]:=by
    rw [Ve,p0 hi] at h3;exact (WD h3).symm
   subst hf;obtain ⟨h5,h6⟩:=h w S (cs i) l[i] (hcs i hi).2
   have hj:j<(cs i).length:=by
    rw [r.len (hcs i hi).2,<- h5];exact (Vf.1 h4).1
   have e:(cs i)[j]? = some ((cs i).getD j undef):=by
    rw [Vm,p0 hj];rfl
   exact ⟨hi,e,h6 j _ av e h4⟩
  refine .sl _ _ c r.size _ b o (fun i j=>(cs i).getD j undef) (by simp) h1 h2 (fun _=>⟨rfl,hb⟩) (fun row hr=>?_) (fun _ i j row av h3 h4=>?_) (fun i j row av h3 h4=>(key i j row av h3 h4).elim fun _ h=>h.2.2) (fun i j row av h3 h4=>(key i j row av h3 h4).elim fun _ h=>h.2.1)
  .obtain ⟨i,hi,rfl⟩:=VD hr;have hi:i<l.length:=(by simpa using hi);simp only [List.getElem_map];exact (h w S (cs i) l[i] (hcs i hi).2).1
  .obtain ⟨hi,h5,_⟩:=key i j row av h3 h4;exact (hcs i hi).1 j _ h5
 .have:l=[]:=WO.1 (by omega);subst this;exact .sl A 0 c r.size [] 0 0 (fun _ _=>undef) rfl h1 h2 (fun h=>by omega) (by simp) (fun h=>by omega) (by simp) (by simp)
theorem gS {α:Type} {r:gw α} {f:α -> List AV} (g:α -> List Value) (hg:∀ w S cs x,r.at_ w S cs x -> cs=g x) (hs:∀ x,(g x).length=r.size) (ho:∀ x u,u ∈ g x -> u.oneCell'=true) (hf:∀ x,f x=(g x).map .c):qj r f:=fun w S cs x h=>by
 obtain rfl:=hg w S cs x h;rw [hf];refine ⟨by simp [hs],fun j u av h1 h2=>?_⟩;rw [Ve,h1] at h2;cases h2;exact ⟨.c u,ho x u (Os h1)⟩
theorem zH:qj rD (fun s=>[eS s]):=gS (fun s=>[.string s]) (fun w S cs x h=>h.1) (fun x=>rfl) (fun x u h=>by simp at h;subst h;rfl) (fun x=>rfl)
theorem sj:qj (fl .i64) (fun n=>[eI n]):=gS (fun n=>[.int .i64 n]) (fun w S cs x h=>h.1) (fun x=>rfl) (fun x u h=>by simp at h;subst h;rfl) (fun x=>rfl)
theorem Ej:qj fR Tx:=gS (fun p=>[.string p.1,.int .i64 p.2]) (fun w S cs x h=>h.1) (fun x=>rfl) (fun x u h=>by simp at h;rcases h with rfl | rfl<;>rfl) (fun x=>rfl)
theorem MI:qj pz Tq:=gS (fun p=>[.int .i64 p.1,.int .i64 p.2]) (fun w S cs x h=>h.1) (fun x=>rfl) (fun x u h=>by simp at h;rcases h with rfl | rfl<;>rfl) (fun x=>rfl)
theorem MR:qj oO yA:=gS (fun p=>[.bool p.1,.int .i64 p.2]) (fun w S cs x h=>h.1) (fun x=>rfl) (fun x u h=>by simp at h;rcases h with rfl | rfl<;>rfl) (fun x=>rfl)
theorem pI:qj fD cq:=gS ah.cells (fun w S cs x h=>h.1) (fun x=>rfl) (fun x u h=>by simp [ah.cells] at h;rcases h with rfl | rfl | rfl | rfl | rfl | rfl | rfl<;>rfl) (fun x=>rfl)
theorem qy {α:Type} {r:gw α} {w:World} {S:Nat -> Prop} {v:Value} {l:List α} (h:(aJ r).one w S v l):v.oneCell'=true:=by
 obtain ⟨A,c,rfl,_⟩:=dk h;rfl
theorem Ns:qj Tu JL:=fun w S cs x ⟨cv,h1,h2,_⟩=>by
 subst h1;refine ⟨rfl,fun j u av h3 h4=>?_⟩
 match j with
 | 0=>simp at h3 h4;subst h3;subst h4;exact ⟨.c _,rfl⟩
 | 1=>simp at h3 h4;subst h3;subst h4;exact ⟨.c _,rfl⟩
 | 2=>simp at h3 h4;subst h3;subst h4;exact ⟨pI.slice h2,qy h2⟩
 | j+3=>simp at h3
theorem O3:qj Tp HH:=fun w S cs x ⟨cv,h1,h2,_⟩=>by
 subst h1;refine ⟨rfl,fun j u av h3 h4=>?_⟩
 match j with
 | 0=>simp at h3 h4;subst h3;subst h4;exact ⟨.c _,rfl⟩
 | 1=>simp at h3 h4;subst h3;subst h4;exact ⟨.c _,rfl⟩
 | 2=>simp at h3 h4;subst h3;subst h4;exact ⟨.c _,rfl⟩
 | 3=>simp at h3 h4;subst h3;subst h4;exact ⟨pI.slice h2,qy h2⟩
 | 4=>simp at h3 h4;subst h3;subst h4;exact ⟨.c _,rfl⟩
 | j+5=>simp at h3
theorem MJ:qj TF OU:=fun w S cs x ⟨cv,h1,h2,_⟩=>by
 subst h1;refine ⟨rfl,fun j u av h3 h4=>?_⟩
 match j with
 | 0=>simp at h3 h4;subst h3;subst h4;exact ⟨.c _,rfl⟩
 | 1=>simp at h3 h4;subst h3;subst h4;exact ⟨.c _,rfl⟩
 | 2=>simp at h3 h4;subst h3;subst h4;exact ⟨.c _,rfl⟩
 | 3=>simp at h3 h4;subst h3;subst h4;exact ⟨sj.slice h2,qy h2⟩
 | 4=>simp at h3 h4;subst h3;subst h4;exact ⟨.c _,rfl⟩
 | j+5=>simp at h3
theorem Qz {w:World} {V:MV} {m:bl} (h:Jm w V m):RT w (fun b=>b<w.heap.size) (.agg V.cells) (.agg (aQ m)):=by
 refine .agg _ _ rfl fun j u av h1 h2=>?_
 match j with
 | 0=>simp [MV.cells] at h1 h2;subst h1;subst h2;exact zH.slice h.attrs
 | 1=>simp [MV.cells] at h1 h2;subst h1;subst h2;exact sj.slice h.inits
 | 2=>simp [MV.cells] at h1 h2;subst h1;subst h2;exact zH.slice h.users
 | 3=>simp [MV.cells] at h1 h2;subst h1;subst h2;exact Ej.slice h.roles
 | 4=>simp [MV.cells] at h1 h2;subst h1;subst h2;exact Ej.slice h.stages
 | 5=>simp [MV.cells] at h1 h2;subst h1;subst h2;exact MJ.slice h.events
 | 6=>simp [MV.cells] at h1 h2;subst h1;subst h2;exact Ns.slice h.guards
 | 7=>simp [MV.cells] at h1 h2;subst h1;subst h2;exact O3.slice h.miles
 | 8=>simp [MV.cells] at h1 h2;subst h1;subst h2;exact MI.slice h.sods
 | 9=>simp [MV.cells] at h1 h2;subst h1;subst h2;exact MR.slice h.order
 | j+10=>simp at h2
theorem f7 {α:Type} {r:gw α} {w:World} {S:Nat -> Prop} {v:Value} {l:List α} {Q:α -> Prop} (h:(aJ r).one w S v l) (hq:∀ cs x,r.at_ w S cs x -> Q x):∀ x ∈ l,Q x:=fun x hx=>by
 obtain ⟨i,hi,rfl⟩:=VD hx;obtain ⟨A,c,rfl,_⟩:=dk h;obtain ⟨b,o,rfl,_,hrow⟩:=dJ h (by omega);obtain ⟨cs,_,h2⟩:=hrow i hi;exact hq cs _ h2
theorem Fh {w:World} {V:MV} {m:bl} (h:Jm w V m):Db m:=
 ⟨f7 h.guards fun cs x ⟨cv,_,h2,_⟩=>f7 h2 fun cs y h3=>h3.2,f7 h.miles fun cs x ⟨cv,_,h2,_⟩=>f7 h2 fun cs y h3=>h3.2⟩
end
section
theorem oe (st:aj) (id:Nat):dH st (iE st id):=fun cx a w L h=>⟨L,(qt h id).1,fun b hb=>⟨hb.1,hb.2.1,fun k o hk=>by
 unfold iE at hk;split at hk
 .simp only [af.gc,dh] at hk;split at hk
  .cases hk
  .cases hg:st.tab.get k with
   | none=>simp [hg] at hk
   | some o'=>exact hb.2.2 k o' hg
 .exact hb.2.2 k o hk⟩⟩
end
section
section
variable {P:Program} {cx:Cx} {a:Act} {w w' w'':World} {st st':aj} {tab tab' tab'':af} {L L' L'':Nat -> Value} {nx nx':Nat}
theorem Fz.refl:Fz w tab L w tab L:=⟨Vh _,fun _ _ _=>rfl,fun id o g h1 h2 _=>⟨id,o,h1,h2⟩⟩
theorem Fz.trans (h:Fz w tab L w' tab' L') (k:Fz w' tab' L' w'' tab'' L''):Fz w tab L w'' tab'' L'':=
  ⟨VC h.size k.size,
   fun j hj hn=>(k.keep j (Vn hj h.size) fun id o h1 h2=>(h.young id o j h1 h2 hj).elim fun id2 ⟨o2,h3,h4⟩=>hn id2 o2 h3 h4).trans (h.keep j hj hn),
   fun id o g h1 h2 hg=>(k.young id o g h1 h2 (Vn hg h.size)).elim fun id2 ⟨o2,h3,h4⟩=>h.young id2 o2 g h3 h4 hg⟩
theorem Fr.fz (h:Fr cx w tab L nx w' tab' L' nx'):Fz w tab L w' tab' L':=⟨h.size,h.keep,h.young⟩
theorem xM (hw:dH st st') (h:aH cx a w st L):∃ L',aH cx a w st' L' /\ Fz w st.tab L w st'.tab L':=by
 obtain ⟨L',h1,h2⟩:=hw _ _ _ _ h;refine ⟨L',h1,Vh _,fun _ _ _=>rfl,fun id o g h3 h4 h5=>?_⟩;refine Classical.byContradiction fun hno=>?_;have hS:Sx cx w st.tab L g:=⟨h5,⟨.inr ((h1.lay.objs id o h3).ge h4).1,fun hX=>(h1.lay.ex g hX).2 id o h3 h4⟩,fun id2 o2 h6 h7=>hno ⟨id2,o2,h6,h7⟩⟩;exact (h2 g hS).2.2 id o h3 h4
theorem rX {ops:Array Oper} {K:aj -> Prop} {Q:Exit -> Act -> World -> Prop} {T:Nat -> Prop}:∀ (l:List Oper) (a:Act) (w:World) (st:aj) (L:Nat -> Value),(∀ o ∈ l,Im o=true /\ ∀ t,T t -> o.dst ≠ some t) ->
  (∀ a' w' st' L',K st' -> aH cx a' w' st' L' -> Fz w st.tab L w' st'.tab L' -> cB T a a' -> Q .normal a' w') -> aH cx a w st L -> lH P ops K l st -> wpList P ops Q l a w
 | [],a,w,st,L,_,hQ,h,hp=>hQ a w st L hp h Fz.refl (.refl a)
 | o :: rest,a,w,st,L,hf,hQ,h,hp=>by
  unfold lH at hp;obtain ⟨hfo,hdo⟩:=hf o (Wc ..);have hrest:=fun o' (ho':o' ∈ rest)=>hf o' (V0 _ ho');refine wpList_step fun K' hK'=>?_;rcases cC h hp o rfl with ⟨hw,st1,h1,h2,e1,e2⟩|⟨hw,st1,h1,h2,e1,e2⟩
  .rw [Vo hw];refine Oper.wp_mono (fun a' w' ⟨⟨st2,L2,h3,h4,h5,h6⟩,h7⟩=>hK' a' w' (rX rest a' w' st2 L2 hrest (fun a3 w3 st3 L3 h8 h9 h10 h11=>hQ a3 w3 st3 L3 h8 h9 ?_ (cB.trans ⟨h6,h7⟩ h11)) h4 h3)) (fr hdo (Dk h2 h1 hfo));have h5:=h5.fz;rw [e1] at h5;exact h5.trans h10
  .rw [Vj (by simp [hw])];refine hK' _ _ (rX rest _ w _ L hrest (fun a3 w3 st3 L3 h8 h9 h10 h11=>hQ a3 w3 st3 L3 h8 h9 ?_ (((cB.refl a).put hdo).trans h11)) (bZ h2 o.dst) h1);rw [bN,e1] at h10;exact h10
theorem Fz.below (hy:∀ id o g,tab.get id=some o -> aO (L id)=some g -> g<w.heap.size) (hb:Below w.heap.size w w'):Fz w tab L w' tab L:=⟨hb.size,fun k hk _=>hb.block k hk,fun id o g h1 h2 _=>⟨id,o,h1,h2⟩⟩
def gE (t:Nat):Code -> Bool
 | .skip=>true
 | .region _ ops _=>ops.toList.all fun o=>Im o && !(o.dst == some t)
 | .seq x y=>gE t x && gE t y
 | .cond _ x y=>gE t x && gE t y
 | .block _ x=>gE t x
 | .loop x=>gE t x
 | .exit _=>true
 | .ret=>true
 | .label _=>true
 | .scope x=>gE t x
 | _=>false
abbrev xd (cx:Cx) (a:Act) (w:World) (tab:af) (L:Nat -> Value) (t:Nat) (Q:Exit -> aj -> Prop):Exit -> Act -> World -> Prop:=fun e a' w'=>∃ st' L',Q e st' /\ aH cx a' w' st' L' /\ Fz w tab L w' st'.tab L' /\ cB (fun k=>k=t) a a'
theorem yL (hm:P.follows .mixedOrders=true) (t:Nat):∀ (c:Code),gE t c=true -> ∀ (Q:Exit -> aj -> Prop) (a:Act) (w:World) (st:aj) (L:Nat -> Value),aH cx a w st L -> bD P c Q st -> c.wp P (xd cx a w st.tab L t Q) a w:=by
 intro c
 induction c with
 | skip=>exact fun _ Q a w st L h hp=>wp_skip ⟨st,L,hp,h,Fz.refl,.refl a⟩
 | region id ops draw=>
  intro hf Q a w st L h hp;unfold bD F2 at hp;simp only [gE,W6,VB] at hf;have hf:∀ o ∈ ops.toList,Im o=true /\ ∀ k,k=t -> o.dst ≠ some k:=fun o ho=>⟨(hf o ho).1,fun k hk=>by subst hk;simpa using (hf o ho).2⟩;have hT:∀ (i:Nat) (o:Oper),ops[i]? = some o -> ∀ k,k=t -> o.dst ≠ some k:=fun i o ho=>(hf o (Array.mem_toList_iff.2 (Array.mem_of_getElem? ho))).2;have hyg:∀ id o g,st.tab.get id=some o -> aO (L id)=some g -> g<w.heap.size:=fun id o g h1 h2=>((h.lay.objs id o h1).ge h2).2
  cases draw with
  | false=>exact wp_region_list (rX (T:=fun k=>k=t) _ a w st L hf (fun a' w' st' L' h1 h2 h3 h4=>⟨st',L',h1,h2,h3,h4⟩) h (by simpa using hp))
  | true=>
   simp only [if_true] at hp;obtain ⟨l⟩:=ops;rcases hp with ⟨hB,hp⟩|⟨n,hB,hp⟩|⟨ids,hd,s,hB,K',hK',hids,hp⟩
   .exact wp_region_quiet (C:=fun w'=>Below w.heap.size w w') hm hB ((Below.refl _ _).drew) (mv (L:=L) (T:=fun k=>k=t) (a0:=a) (tab0:=st.tab) (fun a' st' h1 h2 h3 h4 w' hw'=>⟨st',L,h1,fX h2 hw',by rw [h3];exact Fz.below hyg hw',h4⟩) _ _ _ (fun o ho=>(hf o ho).2) rfl (.refl a) h hp)
   .have h':aH cx a w.drew st L:=fX h ((Below.refl _ _).drew);have hz:Fz w st.tab L w.drew st.tab L:=Fz.below hyg ((Below.refl _ _).drew);exact wp_region_still_tail n hm hB (r9 (T:=fun k=>k=t) (a0:=a) (tab0:=st.tab) (fun a' st' h1 h2 h3 h4=>rX (T:=fun k=>k=t) _ a' w.drew st' L (fun o ho=>hf o (Wo ho)) (fun a2 w2 st2 L2 h5 h6 h7 h8=>⟨st2,L2,h5,h6,hz.trans (by rw [<- h3];exact h7),h4.trans h8⟩) h2 h1) _ _ _ (fun o ho=>(hf o (VR ho)).2) rfl (.refl a) h' hp)
   .simp only [VB] at hB;have hB:=And.intro hB.1 (WX hB.2);have h':aH cx a w.drew st L:=fX h ((Below.refl _ _).drew)
    let G:Nat -> Prop:=fun k=>∃ id ∈ ids,aO (L id)=some k
    refine Code.wp_mono (Q:=mz (xd cx a w st.tab L t Q)) (fun e a w hq=>?_) (wp_region_held (S:=fun w'=>lS w.drew.heap.size G w.drew w') hm ?_)
    .cases e<;>first|exact hq|exact hq.elim
    .refine mg (T:=st.tab) (Tz:=fun k=>k=t) (a0:=a) (nx:=st.next) (ids:=ids) hB.1.1 hT s ⟨Vh _,fun _ _ _=>rfl⟩ (fun w' b hw' hb o u hu=>?_) (fun listed a' st' hA hT' hN hB' hK h2 fuel hf'=>?_) hd _ _ _ (.refl a) h' rfl rfl hB.1.2 hp _ hB.2
     .have hlt:=World.block_lt_of_cell? w.drew _ hu;refine (World.cell?_of_block (hw'.block b hlt fun ⟨id,hid,hbl⟩=>?_)).trans hu;obtain ⟨ob,hob⟩:=V4.1 (hids id hid);rcases hb with hb|⟨id',o',hni,hget,hbl'⟩
      .exact hb.2.2 id ob hob hbl
      .exact hni (h.lay.sep id' id o' ob b hget hob hbl' hbl ▸ hid)
     .refine ce (Q:=xd cx a w st.tab L t Q) (T0:=st.tab) (T:=fun k=>k=t) (a0:=a) (L0:=L) hB.1.1 hT (fun a2 w2 st2 L2 h3 h4 h5 h6 h7 h8=>?_) s listed a' w.drew st' L h2 ⟨Vh _,fun _ _ _=>rfl⟩ (fun id o g h3 h4 _=>by
       rw [hT'] at h4;have:=(h.young id o h4).1;omega) (fun id hid g hg=>⟨id,hid,hg⟩) (fun id hid=>by
       obtain ⟨ob,hob⟩:=V4.1 (hids id hid);rw [hN];exact (h.young id ob hob).1) ⟨fun _ _=>rfl,by rw [hN];exact Vh _,fun id o _ hg=>⟨o,by rw [<- hT'];exact hg⟩,fun id o g _ hni hg hbl=>?_⟩ hA hB' hK fuel hf'
      .obtain ⟨st3,hw3,h9⟩:=hK' st2 h3;obtain ⟨L3,h10,h11⟩:=xM hw3 h4;have hG:∀ k,G k -> ∃ id o,st.tab.get id=some o /\ aO (L id)=some k:=fun k ⟨id,hid,hbl⟩=>(V4.1 (hids id hid)).elim fun ob hob=>⟨id,ob,hob,hbl⟩
       have hz:Fz w st.tab L w2 st2.tab L2:=by
        have hsz:w.drew.heap.size=w.heap.size:=rfl;refine ⟨h5.size,fun k hk hn=>h5.block k hk fun hg=>?_,fun id o g h12 h13 h14=>?_⟩
        .obtain ⟨id,ob,h12,h13⟩:=hG k hg;exact hn id ob h12 h13
        .rcases Vw id st.next with hlt | hge
         .obtain ⟨o',ho'⟩:=h7.old id o hlt h12;exact ⟨id,o',ho',by rw [<- h7.loc id hlt];exact h13⟩
         .rcases h6 id o g hge h12 h13 with h15 | h15
          .have:w.heap.size<=g:=h15;omega
          .exact hG g h15
       exact ⟨st3,L3,h9,h10,hz.trans h11,h8⟩
      .refine ⟨((h'.lay.objs id _ hg).ge hbl).2,fun ⟨id',hid',hbl'⟩=>hni ?_⟩;obtain ⟨ob,hob⟩:=V4.1 (hids id' hid');exact h.lay.sep id id' _ ob g hg hob hbl hbl' ▸ hid'
 | seq x y ihx ihy=>
  intro hf Q a w st L h hp;simp only [gE,VB] at hf;unfold bD at hp;refine wp_seq (Code.wp_mono (fun e a' w' ⟨st',L',h1,h2,h3,h4⟩=>?_) (ihx hf.1 _ a w st L h hp))
  cases e with
  | normal=>exact Code.wp_mono (fun e a2 w2 ⟨st2,L2,k1,k2,k3,k4⟩=>⟨st2,L2,k1,k2,h3.trans k3,h4.trans k4⟩) (ihy hf.2 Q a' w' st' L' h2 h1)
  | _=>exact ⟨st',L',h1,h2,h3,h4⟩
 | cond c x y ihx ihy=>
  intro hf Q a w st L h hp;simp only [gE,VB] at hf;unfold bD ow at hp;split at hp
  .rename_i b hb;have hv:=(am h c).1;rw [hb] at hv;have hv:=hv.c_inv;cases b
   .exact wp_cond_false hv (ihy hf.2 Q a w st L h hp)
   .exact wp_cond_true hv (ihx hf.1 Q a w st L h hp)
  .exact hp.elim
 | block id x ih=>
  intro hf Q a w st L h hp;simp only [gE] at hf;unfold bD at hp;refine wp_block (Code.wp_mono (fun e a' w' ⟨st',L',h1,h2,h3⟩=>?_) (ih hf _ a w st L h hp))
  cases e with
  | exit id'=>
   simp only [ii,Exit.inBlock] at h1 ⊢;split
   .rename_i e;rw [Vo e] at h1;exact ⟨st',L',h1,h2,h3⟩
   .rename_i e;rw [Vj e] at h1;exact ⟨st',L',h1,h2,h3⟩
  | _=>exact ⟨st',L',h1,h2,h3⟩
 | loop x ih=>
  intro hf Q a0 w0 st0 L0 h hp;simp only [gE] at hf;unfold bD at hp;obtain ⟨I,μ,⟨st1,hw1,hI⟩,hr⟩:=hp
  let p:Act -> World -> Nat -> Prop:=fun a w n=>∃ st L,I st /\ aH cx a w st L /\ (Fz w0 st0.tab L0 w st.tab L /\ cB (fun k=>k=t) a0 a) /\ μ st=n
  obtain ⟨L1,hL1,hz1⟩:=xM hw1 h;refine wp_loop (fun a w=>∃ n,p a w n) (fun a w=>lE (p a w)) ⟨_,st1,L1,hI,hL1,⟨hz1,.refl a0⟩,rfl⟩ fun a w hpa=>?_;obtain ⟨⟨st,L,h1,h2,⟨h3,h3a⟩,h4⟩,_⟩:=gK hpa;refine Code.wp_mono (fun e a' w' ⟨st',L',h5,h6,h7,h8⟩=>?_) (ih hf _ a w st L h2 (hr st h1))
  cases e with
  | normal=>
   obtain ⟨st'',hw,hI'',hlt⟩:=h5;obtain ⟨L1,hL1,hz1⟩:=xM hw h6;have hpn:p a' w' (μ st''):=⟨st'',L1,hI'',hL1,⟨(h3.trans h7).trans hz1,h3a.trans h8⟩,rfl⟩;refine ⟨⟨_,hpn⟩,?_⟩;have:=(gK ⟨_,hpn⟩).2 _ hpn;show lE (p a' w')<lE (p a w);omega
  | _=>exact ⟨st',L',h5,h6,h3.trans h7,h3a.trans h8⟩
 | exit id=>exact fun _ Q a w st L h hp=>wp_exit ⟨st,L,hp,h,Fz.refl,.refl a⟩
 | ret=>exact fun _ Q a w st L h hp=>wp_ret ⟨st,L,hp,h,Fz.refl,.refl a⟩
 | label l=>exact fun _ Q a w st L h hp=>wp_label ⟨st,L,hp,h,Fz.refl,.refl a⟩
 | scope x ih=>
  intro hf Q a w st L h hp;simp only [gE] at hf;unfold bD at hp;refine wp_scope_straight (Code.wp_mono (fun e a' w' ⟨st',L',h1,h2⟩=>?_) (ih hf _ a w st L h hp))
  cases e with
  | goto l=>exact h1
  | _=>exact ⟨st',L',h1,h2⟩
 | _=>exact fun hf=>(by cases hf)
end
end
section
def fj (st:aj) (ts:List Nat):List (Nat × AV):=ts.map fun t=>(t,st.get t)
theorem vz (st:aj) (t:Nat):∀ ts:List Nat,bb (fj st ts) t=st.get t \/ bb (fj st ts) t=.any
 | []=>.inr rfl
 | k :: ts=>by
  show (if t=k then st.get k else bb (fj st ts) t)=_ \/ (if t=k then st.get k else bb (fj st ts) t)=_;split
  .rename_i e;subst e;exact .inl rfl
  .exact vz st t ts
theorem bO (st:aj):fj st []=[]:=rfl
theorem bE (st:aj) (t:Nat) (ts:List Nat):fj st (t :: ts)=(t,st.get t) :: fj st ts:=rfl
def gi (vs:Array Value) (n nx g:Nat) (K:AV -> aj -> Prop) (st:aj) (av:AV):Prop:=
 match st.tab.get g with
 | some (.ghost vs' env)=>vs'=vs /\ K (av.shift nx) ⟨n,ca nx env,(g+nx,none) :: st.tab.shift nx,nx+st.next⟩
 | _=>False
def Ac (P:Program) (rs:List ResultVar) (vs:Array Value) (n nx g:Nat) (K:AV -> aj -> Prop):Exit -> aj -> Prop
 | .normal,st=>db P st rs fun avs=>gi vs n nx g K st (gC avs)
 | .ret,st=>db P st rs fun avs=>gi vs n nx g K st (gC avs)
 | _,_=>False
section
variable {P:Program} {rs:List ResultVar} {vs:Array Value} {n nx g k i:Nat} {K:AV -> aj -> Prop} {st:aj} {o:aD} {T:af}
theorem fS:Ac P rs vs n nx g K .normal st=db P st rs fun avs=>gi vs n nx g K st (gC avs):=rfl
theorem fT:Ac P rs vs n nx g K .ret st=db P st rs fun avs=>gi vs n nx g K st (gC avs):=rfl
theorem bh:af.shift k []=[]:=rfl
theorem bI:af.shift k ((i,some o) :: T)=(i+k,some (o.shift k)) :: af.shift k T:=rfl
theorem bH:af.shift k ((i,none) :: T)=(i+k,none) :: af.shift k T:=rfl
end
theorem Di {n m:Nat} (hnm:n<=m):∀ {o:aD},o.lt n -> o.lt m
 | .box _ _,h=>ak.2 fun x hx=>AV.lt_mono hnm (ak.1 h x hx)
 | .row _ _ _,_=>trivial
 | .map _,_=>trivial
 | .nest _ _ _,h=>fun row hr=>ak.2 fun x hx=>AV.lt_mono hnm (ak.1 (h row hr) x hx)
 | .ghost _ _,h=>dK hnm h
theorem zi {n k:Nat}:∀ {o:aD},o.lt n -> (o.shift k).lt (k+n)
 | .box _ cells,h=>by
  show AV.ltL _ (AV.shiftL k cells);rw [bt];refine ak.2 fun x hx=>?_;obtain ⟨y,hy,rfl⟩:=Vx.1 hx;exact iB (ak.1 h y hy)
 | .row _ _ _,_=>trivial
 | .map _,_=>trivial
 | .nest _ _ rows,h=>by
  intro row hr;obtain ⟨r,hr',rfl⟩:=Vx.1 hr;rw [bt];refine ak.2 fun x hx=>?_;obtain ⟨y,hy,rfl⟩:=Vx.1 hx;exact iB (ak.1 (h r hr') y hy)
 | .ghost _ _,h=>mn h
theorem JB (k:Nat) (o:aD):(o.shift k).sz=o.sz:=by cases o<;>simp [aD.shift,aD.sz,bt]
theorem sv {cx:Cx} {a:Act} {w:World} {st:aj} {L:Nat -> Value} (h:aH cx a w st L):∀ ts:List Nat,dC st.next (fj st ts)
 | []=>trivial
 | t :: ts=>⟨(h.env t).2,sv h ts⟩
section
variable {P:Program} {cx:Cx} {a:Act} {w:World} {st:aj} {L:Nat -> Value}
theorem ug (h:aH cx a w st L):∀ (l:List ResultVar) (K:List AV -> Prop),db P st l K ->
  ∃ vs avs,K avs /\ vs.length=avs.length /\ AV.ltL st.next avs /\ (∀ (j:Nat) (v:Value) (av:AV),vs[j]? = some v -> avs[j]? = some av -> bQ cx w st.tab L v av) /\
   (l.mapM (nZ a.tmps):Sem (List Value)).run P w=.ok vs w
 | [],K,hp=>⟨[],[],hp,rfl,trivial,by simp,by simp⟩
 | .tmp t :: l,K,hp=>by
  obtain ⟨vs,avs,h1,h2,hl,h3,h4⟩:=ug h l _ hp;refine ⟨a.tmps.getD t undef :: vs,st.get t :: avs,h1,by simp [h2],⟨(h.env t).2,hl⟩,fun j v av h5 h6=>?_,?_⟩
  .cases j with
   | zero=>
    cases h5;cases h6;exact (h.env t).1
   | succ j=>exact h3 j v av (by simpa using h5) (by simpa using h6)
  .simp only [List.mapM_cons,nZ,Sem.run_bind,Sem.run_pure,Result.andThen_ok,h4]
 | .cell p ty :: l,K,hp=>by
  obtain ⟨u,au,h1,h2,h3,h4⟩:=(yf (nx:=st.next) h.lay (fun id o hid=>(h.young id o hid).2) (h.env p).1 hp).one;obtain ⟨vs,avs,h5,h6,hl,h7,h8⟩:=ug h l _ h1;refine ⟨u :: vs,au :: avs,h5,by simp [h6],⟨h3,hl⟩,fun j v av h9 h10=>?_,?_⟩
  .cases j with
   | zero=>
    cases h9;cases h10;exact h2
   | succ j=>exact h7 j v av (by simpa using h9) (by simpa using h10)
  .have:=lT (h4 w (Below.refl _ _));simp only [List.mapM_cons,nZ];rw [Sem.run_bind,this];simp only [Sem.run_bind,Sem.run_pure,Result.andThen_ok,h8]
theorem O8 {fn:Func} {K:AV -> Prop} (h:aH cx a w st L) (hp:db P st fn.results.toList fun avs=>K (gC avs)):∃ v av,K av /\ bQ cx w st.tab L v av /\ av.lt st.next /\ (results fn a.tmps).run P w=.ok v w:=by
 obtain ⟨vs,avs,h1,h2,hl,h3,h4⟩:=ug h _ _ hp
 have hm:(results fn a.tmps).run P w=.ok (if h:vs.toArray.size=1 then vs.toArray[0] else .tuple vs.toArray) w:=by
  rw [sr,Sem.run_bind,Array.mapM_eq_mapM_toList];simp only [bind_pure_comp,Sem.run_map,h4];rfl
 refine ⟨_,gC avs,h1,?_,?_,hm⟩
 .clear hm h4 h1 hl
  match vs,avs,h2,h3 with
  | [v],[av],_,h3=>exact h3 0 v av rfl rfl
  | [],[],_,h3=>exact .tup _ _ rfl (by simp)
  | v :: v' :: vs,av :: av' :: avs,h2,h3=>
   simp only [gC,Xn,VN];rw [dif_neg (by omega)];exact .tup _ _ (by simpa using h2) fun j x av h4 h5=>h3 j x av (by simpa using h4) h5
 .clear hm h4 h1 h3 h2
  match avs,hl with
  | [av],hl=>exact hl.1
  | [],hl=>exact hl
  | av :: av' :: avs,hl=>exact hl
end
def U7 (P:Program) (c:Code) (t:Nat) (Q:Exit -> aj -> Prop) (st:aj):Prop:=∀ (cx:Cx) (a:Act) (w:World) (L:Nat -> Value),aH cx a w st L -> c.wp P (xd cx a w st.tab L t Q) a w
theorem SG {P:Program} (hm:P.follows .mixedOrders=true) {c:Code} {t:Nat} (hz:gE t c=true) {Q:Exit -> aj -> Prop} {st:aj} (h:bD P c Q st):U7 P c t Q st:=fun cx a w L hc=>yL hm t c hz Q a w st L hc h
theorem Dx {P : Program} {f : FuncId} {fn : Func} {c : Code} (hf : P.funcs[f]? = some fn) (hb : fn.body = some c) (hname : (fn.name == "runtime.NumGoroutine") = false) {st : aj} {avs : List AV} {K : AV → aj → Prop} {n : Nat} (hnt : fn.ntmps = n) {rs : List ResultVar} (hrs : fn.results = rs.toArray)
  (hn:Nat.ble avs.length n=true) (g:Nat) (ts:List Nat)
  (h:∀ vs:Array Value,U7 P c n (Ac P rs vs st.n st.next g K) ⟨n,dg 0 avs,(st.next,some (.ghost vs (fj st ts))) :: st.tab,st.next+1⟩):Kb P st f avs K:=by
 have hn:=WX hn;subst hnt;refine ⟨fun vs w=>?_,fun cx a w L vs dst hc hvn hv=>?_⟩
 ·have : ¬ fn.name = "runtime.NumGoroutine" := by simpa using hname
  simp [callFunc,Sem.run_bind,hf,this,hb]
 obtain ⟨tab2,ht2⟩:∃ tab2:af,tab2=(st.next,some (.ghost a.tmps (fj st ts))) :: st.tab:=⟨_,rfl⟩;have hget:∀ id,tab2.get id=if id=st.next then some (.ghost a.tmps (fj st ts)) else st.tab.get id:=fun id=>by rw [ht2,af.gc]
 have hnone:∀ id o,st.next<=id -> st.tab.get id=some o -> False:=fun id o h1 h2=>by have:=(hc.young id o h2).1;omega
 have hold:∀ id,id<st.next -> tab2.get id=st.tab.get id /\ br L st.next (.bool false) id=L id:=fun id hid=>⟨by rw [hget,Vj (by omega)],by unfold br;rw [Vj (by omega)]⟩;have hLG:br L st.next (.bool false) st.next=.bool false:=by unfold br;rw [Vo rfl]
 have hge:∀ id o,st.next<=id -> tab2.get id=some o -> id=st.next /\ o=.ghost a.tmps (fj st ts):=fun id o h1 h2=>by
  rw [hget] at h2;split at h2
  .rename_i e;cases h2;exact ⟨e,rfl⟩
  .exact (hnone id o h1 h2).elim
 have hnew:∀ id o b,st.next<=id -> tab2.get id=some o -> aO (br L st.next (.bool false) id)=some b -> w.heap.size<=b:=fun id o b h1 h2 h3=>by
  obtain ⟨rfl,_⟩:=hge id o h1 h2;rw [hLG] at h3;cases h3
 have hext:=gN (cx:=cx) (Below.refl w.heap.size w) hold (fun id o hid=>(hc.young id o hid).1) hnew
 have hlay:je cx w tab2 (br L st.next (.bool false)):=kg hc.lay hc.young (Below.refl _ _) hold (fun id o h1 h2=>by
   obtain ⟨rfl,rfl⟩:=hge id o h1 h2;refine ⟨hLG,fun t ht=>?_⟩;rcases vz st t ts with e|e
   .rw [e];exact hext.rv (hc.env t).1 (hc.env t).2
   .rw [e];exact .tree (.any _)) hnew fun id id' o o' b h1 h2 h3 h4 _ _=>by rw [(hge id o h1 h3).1,(hge id' o' h2 h4).1]
 have hyoung:∀ id o,tab2.get id=some o -> id<st.next+1 /\ o.lt (st.next+1):=fun id o hid=>by
  rcases Vw id st.next with hlt|hge'
  .rw [(hold id hlt).1] at hid;have:=hc.young id o hid;exact ⟨by omega,Di (VS _) this.2⟩
  .obtain ⟨rfl,rfl⟩:=hge id o hge' hid;exact ⟨Wb _,dK (VS _) (sv hc ts)⟩
 have hC:aH cx { tmps:=vs ++ Array.replicate (fn.ntmps - vs.size) undef,defers:=[] } w ⟨fn.ntmps,dg 0 avs,tab2,st.next+1⟩ (br L st.next (.bool false)):=by
  refine ⟨hlay,?_,jR.nil _ _ _,hyoung,fun t=>?_⟩
  .simp;omega
  have e:(⟨fn.ntmps,dg 0 avs,tab2,st.next+1⟩:aj).get t=avs.getD t .any:=by
   show (if t<fn.ntmps then bb (dg 0 avs) t else .any)=_;rw [jo];split
   .simp
   .simp [List.getD,Vt (show avs.length<=t by omega)]
  rw [e];by_cases ht:t<avs.length
  .have ht':t<vs.size:=by omega
   have e2:(vs ++ Array.replicate (fn.ntmps - vs.size) undef).getD t undef=vs[t]:=by
    rw [V9,V5 ht',Vl ht'];rfl
   have e3:avs.getD t .any=avs[t]:=(by simp [List.getD,ht]);rw [e2,e3];have:=hv t _ _ (Vl ht') (p0 ht);exact ⟨hext.rv this.1 this.2,AV.lt_mono (VS _) this.2⟩
  .have e3:avs.getD t .any=.any:=(by simp [List.getD,Vt (Nat.le_of_not_lt ht)]);rw [e3];exact ⟨.tree (.any _),trivial⟩
 have hcode:=h a.tmps;rw [<- ht2] at hcode;refine calls_of_wp hf hb (Code.wp_mono (fun ex a' w' ⟨st',L',h1,h2,h3,hA⟩=>?_) (hcode cx _ w _ hC))
 have hown2:∀ b,(∀ id o,st.tab.get id=some o -> aO (L id) ≠ some b) -> ∀ id o,tab2.get id=some o -> aO (br L st.next (.bool false) id) ≠ some b:=fun b hb id o hid hg=>by
  rcases Vw id st.next with hlt|hge'
  .rw [(hold id hlt).1] at hid;rw [(hold id hlt).2] at hg;exact hb id o hid hg
  .obtain ⟨rfl,_⟩:=hge id o hge' hid;rw [hLG] at hg;cases hg
 have hback:∀ id o b,tab2.get id=some o -> aO (br L st.next (.bool false) id)=some b -> ∃ id2 o2,st.tab.get id2=some o2 /\ aO (L id2)=some b:=fun id o b hid hg=>by
  rcases Vw id st.next with hlt|hge'
  .rw [(hold id hlt).1] at hid;rw [(hold id hlt).2] at hg;exact ⟨id,o,hid,hg⟩
  .obtain ⟨rfl,_⟩:=hge id o hge' hid;rw [hLG] at hg;cases hg
 have key:(db P st' rs fun avs=>gi a.tmps st.n st.next g K st' (gC avs)) -> a'.defers=[] /\ ∃ u,(results fn a'.tmps).run P w'=.ok u w' /\ ∃ v av st'' L'',Ending.returned u=.returned v /\ K av st'' /\ aH cx (a.put dst v) w' (st''.put dst av) L'' /\ Fr cx w st.tab L st.next w' st''.tab L'' st''.next:=fun h1=>by
  obtain ⟨v,av,hbk,hrv,hlv,hrun⟩:=O8 (K:=fun av=>gi a.tmps st.n st.next g K st' av) (fn:=fn) h2 (by rw [hrs];exact h1);refine ⟨hA.defers,v,hrun,?_⟩;unfold gi at hbk;split at hbk
  case h_2=>exact hbk.elim
  rename_i vs' env hg;obtain ⟨rfl,hK⟩:=hbk;obtain ⟨_,hgh⟩:=h2.lay.objs g _ hg;have hghl:=(h2.young g _ hg).2;obtain ⟨tab3,ht3⟩:∃ tab3:af,tab3=(g+st.next,none) :: st'.tab.shift st.next:=⟨_,rfl⟩;rw [<- ht3] at hK
  have hsh:∀ id,(af.shift st.next st'.tab).get id=if id<st.next then none else (st'.tab.get (id - st.next)).map (aD.shift st.next):=fun id=>by
   have:=qi (tab:=[]) (k:=st.next) (fun id o h=>by cases h) st'.tab id;rw [Wr] at this;exact this
  have hget3:∀ id o,tab3.get id=some o -> st.next<=id /\ ∃ o',st'.tab.get (id - st.next)=some o' /\ o=o'.shift st.next:=fun id o hid=>by
   rw [ht3,af.gc] at hid;split at hid
   .cases hid
   .rw [hsh] at hid;split at hid
    .cases hid
    .rename_i hlt
     cases ho:st'.tab.get (id - st.next) with
     | none=>rw [ho] at hid;cases hid
     | some o'=>
      rw [ho] at hid;cases hid;exact ⟨by omega,o',rfl,rfl⟩
  have hS3:∀ b,Sx cx w' st'.tab L' b -> Sx cx w' tab3 (fun id=>L' (id - st.next)) b:=fun b hb=>⟨hb.1,hb.2.1,fun id o hid hg=>by
   obtain ⟨_,o',h4,_⟩:=hget3 id o hid;exact hb.2.2 _ o' h4 hg⟩
  have hK3:∀ id p,Kx tab3 (fun id=>L' (id - st.next)) (id+st.next)=some p -> Kx st'.tab L' id=some p:=fun id p hk=>by
   unfold Kx at *
   cases ho:tab3.get (id+st.next) with
   | none=>rw [ho] at hk;cases hk
   | some o=>
    obtain ⟨_,o',h4,h5⟩:=hget3 _ o ho;rw [WA] at h4;rw [ho] at hk;rw [h4];simp only [VT,WA,h5,JB] at hk ⊢;exact hk
  have hrv3:∀ {x av},bQ cx w' st'.tab L' x av -> bQ cx w' tab3 (fun id=>L' (id - st.next)) x (av.shift st.next):=fun hr=>hr.conv (.inl hS3) hK3
  have hlay3:je cx w' tab3 (fun id=>L' (id - st.next)):=by
   refine ⟨h2.lay.below,fun id o hid=>?_,fun id id' o o' b h4 h5 h6 h7=>?_,fun b hb=>⟨(h2.lay.ex b hb).1,fun id o hid=>?_⟩⟩
   .obtain ⟨_,o',h4,rfl⟩:=hget3 id o hid;have hob:=h2.lay.objs _ o' h4
    cases o' with
    | box t cells=>
     obtain ⟨g',cs,h5,h6,h7,h8,h9⟩:=hob;refine ⟨g',cs,h5,h6,h7,by simpa [bt] using h8,fun j x av h10 h11=>?_⟩;rw [bt,Ve] at h11
     cases hj:cells[j]? with
     | none=>simp [hj] at h11
     | some av'=>
      simp [hj] at h11;subst h11;exact ⟨hrv3 (h9 j x av' h10 hj).1,(h9 j x av' h10 hj).2⟩
    | row e sz rows=>
     obtain ⟨h5,xs,h6,h7,h8⟩:=hob;refine ⟨h5,xs,h6,h7,fun i j row av h9 h10=>?_⟩;obtain ⟨x,hx,hrt⟩:=h8 i j row av h9 h10;exact ⟨x,hx,hrt.mono (fun _ _=>rfl) hS3⟩
    | map ents=>exact hob
    | nest e sz rows=>
     obtain ⟨h5,xs,h6,h7,h8⟩:=hob;refine ⟨fun row hr=>?_,xs,by rw [Vp];exact h6,h7,fun i j row av h9 h10=>?_⟩
     .obtain ⟨r,hr',rfl⟩:=Vx.1 hr;rw [bt,Vp];exact h5 r hr'
     .rw [Ve] at h9
      cases hi:rows[i]? with
      | none=>simp [hi] at h9
      | some row'=>
       simp [hi] at h9;subst h9;rw [bt,Ve] at h10
       cases hj:row'[j]? with
       | none=>simp [hj] at h10
       | some av'=>
        simp [hj] at h10;subst h10;obtain ⟨x,hx,hr⟩:=h8 i j row' av' hi hj;exact ⟨x,hx,hrv3 hr⟩
    | ghost vs2 env2=>
     refine ⟨hob.1,fun t ht=>?_⟩;rw [i7];exact hrv3 (hob.2 t ht)
   .obtain ⟨k1,o1,h8,_⟩:=hget3 id o h4;obtain ⟨k2,o2,h9,_⟩:=hget3 id' o' h5;have:=h2.lay.sep _ _ o1 o2 b h8 h9 h6 h7;omega
   .obtain ⟨_,o',h4,_⟩:=hget3 id o hid;exact (h2.lay.ex b hb).2 _ o' h4
  have hblk:∀ b,Sx cx w st.tab L b -> w'.heap[b]? = w.heap[b]?:=fun b hb=>h3.keep b hb.1 (hown2 b hb.2.2)
  have hsub:∀ b,Sx cx w st.tab L b -> Sx cx w' tab3 (fun id=>L' (id - st.next)) b:=fun b hb=>⟨Vn hb.1 h3.size,hb.2.1,fun id o hid hg=>by
   obtain ⟨_,o',h4,_⟩:=hget3 id o hid;obtain ⟨id2,o2,h5,h6⟩:=h3.young _ o' b h4 hg hb.1;exact hown2 b hb.2.2 id2 o2 h5 h6⟩
  have hC3:aH cx a w' ⟨st.n,ca st.next env,tab3,st.next+st'.next⟩ (fun id=>L' (id - st.next)):=by
   refine ⟨hlay3,hc.size,hc.defers.mono hblk hsub,fun id o hid=>?_,fun t=>?_⟩
   .obtain ⟨h4,o',h5,rfl⟩:=hget3 id o hid;have:=h2.young _ o' h5;refine ⟨?_,zi this.2⟩;show id<st.next+st'.next;omega
   .show bQ cx w' tab3 _ _ (if t<st.n then bb (ca st.next env) t else .any) /\ AV.lt _ (if t<st.n then bb (ca st.next env) t else .any);split
    .rename_i htn;rw [i7];exact ⟨hrv3 (hgh t (by rw [hc.size];exact htn)),iB (fY hghl t)⟩
    .exact ⟨.tree (.any _),trivial⟩
  refine ⟨v,_,_,_,rfl,hK,bp hC3 (hrv3 hrv) (iB hlv) dst,⟨⟨hblk,hsub,fun id p hid hk=>?_⟩,h3.size,fun k hk hn=>h3.keep k hk (hown2 k hn),fun id o b h4 h5 h6=>?_,W3 _ _⟩⟩
  .unfold Kx at hk
   cases ho:tab3.get id with
   | none=>rw [ho] at hk;cases hk
   | some o=>
    have:=(hget3 id o ho).1;omega
  .obtain ⟨_,o',h7,_⟩:=hget3 id o h4;obtain ⟨id2,o2,h8,h9⟩:=h3.young _ o' b h7 h5 h6;exact hback id2 o2 b h8 h9
 cases ex with
 | normal=>exact key h1
 | ret=>exact key h1
 | _=>exact h1.elim
theorem zq {P : Program} (hm : P.follows .mixedOrders = true) {f : FuncId} {fn : Func} {c : Code} (hf : P.funcs[f]? = some fn) (hb : fn.body = some c) (hname : (fn.name == "runtime.NumGoroutine") = false) {st : aj} {avs : List AV} {K : AV → aj → Prop} {n : Nat} (hnt : fn.ntmps = n) {rs : List ResultVar} (hrs : fn.results = rs.toArray)
  (hn:Nat.ble avs.length n=true) (hz:gE n c=true) (g:Nat) (ts:List Nat)
  (h:∀ vs:Array Value,bD P c (Ac P rs vs st.n st.next g K) ⟨n,dg 0 avs,(st.next,some (.ghost vs (fj st ts))) :: st.tab,st.next+1⟩):Kb P st f avs K:=
 Dx hf hb hname hnt hrs hn g ts fun vs=>SG hm hz (h vs)
theorem cg {P : Program} (hm : P.follows .mixedOrders = true) {f : FuncId} {fn : Func} {c : Code} (hf : P.funcs[f]? = some fn) (hb : fn.body = some c) (hname : (fn.name == "runtime.NumGoroutine") = false) {st : aj} {avs : List AV} {K : AV → aj → Prop} {n : Nat} (hnt : fn.ntmps = n) {rs : List ResultVar} (hrs : fn.results = rs.toArray)
  (hn:Nat.ble avs.length n=true) (hz:gE n c=true) (ts:List Nat)
  (h:∀ vs:Array Value,bD P c (Ac P rs vs st.n st.next st.next K) ⟨n,dg 0 avs,(st.next,some (.ghost vs (fj st ts))) :: st.tab,st.next+1⟩):Kb P st f avs K:=
 zq hm hf hb hname hnt hrs hn hz st.next ts h
theorem TE {cx:Cx} {a:Act} {w:World} {st st':aj} {L L':Nat -> Value} (h1:aH cx a w st' L') (h2:∀ b,Sx cx w st.tab L b -> Sx cx w st'.tab L' b):Fz w st.tab L w st'.tab L':=by
 refine ⟨Vh _,fun _ _ _=>rfl,fun id o g h3 h4 h5=>?_⟩;refine Classical.byContradiction fun hno=>?_;have hS:Sx cx w st.tab L g:=⟨h5,⟨.inr ((h1.lay.objs id o h3).ge h4).1,fun hX=>(h1.lay.ex g hX).2 id o h3 h4⟩,fun id2 o2 h6 h7=>hno ⟨id2,o2,h6,h7⟩⟩;exact (h2 g hS).2.2 id o h3 h4
theorem bU {P : Program} (hm : P.follows .mixedOrders = true) {f : FuncId} {fn : Func} {c : Code} (hf : P.funcs[f]? = some fn) (hb : fn.body = some c) (hname : (fn.name == "runtime.NumGoroutine") = false) {n : Nat} (hnt : fn.ntmps = n) {rs : List ResultVar} (hrs : fn.results = rs.toArray)
  {t:TypeId} {cells:List AV} {objs:List aD} {rest:List AV} {Post:AV -> List AV -> List aD -> Prop} (hn:Nat.ble (rest.length+1) n=true) (hz:gE 0 c=true) (hlt:AV.ltL (objs.length+1) cells) (hpl:∀ o ∈ objs,bV o)
  (h:bD P c (Pq P rs t cells.length Post) ⟨n,dg 0 (.op 0 0 0 :: rest),bS 0 (.box t cells :: objs),objs.length+1⟩):GV P f t cells objs rest Post:=by
 have hn:=WX hn;subst hnt;refine ⟨fun vs w=>?_,hlt,fun cx w L vs hlay hvn hv0 hvr=>?_⟩
 ·have : ¬ fn.name = "runtime.NumGoroutine" := by simpa using hname
  simp [callFunc,Sem.run_bind,hf,this,hb]
 obtain ⟨tab0,ht0⟩:∃ tab0,tab0=bS 0 (aD.box t cells :: objs):=⟨_,rfl⟩;rw [<- ht0] at hlay hvr h ⊢;have hget0:tab0.get 0=some (.box t cells):=by rw [ht0,jk];rfl
 obtain ⟨g,cs,hLb,_,hheap,_⟩:=hlay.objs 0 _ hget0;have hvz:∃ x,vs[0]? = some x:=⟨_,Vl (by omega)⟩;obtain ⟨x0,hx0⟩:=hvz;obtain rfl:=hv0 x0 hx0
 have hC:aH cx { tmps:=vs ++ Array.replicate (fn.ntmps - vs.size) undef,defers:=[] } w ⟨fn.ntmps,dg 0 (.op 0 0 0 :: rest),tab0,objs.length+1⟩ L:=by
  refine ⟨hlay,?_,jR.nil _ _ _,fun id o ho=>?_,fun k=>?_⟩
  .simp;omega
  .rw [ht0,jk] at ho;simp only [Vd,if_true,Nat.sub_zero] at ho;have hlen:=(Vf.1 ho).1;refine ⟨by simpa using hlen,?_⟩
   cases id with
   | zero=>
    simp at ho;subst ho;exact hlt
   | succ id=>exact u3 (hpl o (Os (by simpa using ho))) _
  have e:(⟨fn.ntmps,dg 0 (.op 0 0 0 :: rest),tab0,objs.length+1⟩:aj).get k=(AV.op 0 0 0 :: rest).getD k .any:=by
   show (if k<fn.ntmps then bb (dg 0 (.op 0 0 0 :: rest)) k else .any)=_;rw [jo];split
   .simp
   .simp [List.getD,Vt (show (AV.op 0 0 0 :: rest).length<=k by simp;omega)]
  rw [e];by_cases hlt':k<rest.length+1
  .have ht':k<vs.size:=by omega
   have e2:(vs ++ Array.replicate (fn.ntmps - vs.size) undef).getD k undef=vs[k]:=by
    rw [V9,V5 ht',Vl ht'];rfl
   rw [e2]
   cases k with
   | zero=>
    have e3:vs[0]=L 0:=by
     have h0:vs[0]? = some vs[0]:=Vl (by omega);exact WD (h0.symm.trans hx0)
    rw [e3,hLb]
    exact ⟨.op _ 0 0 0 fun sz v' hk=>by
     simp [Kx,hget0,hLb] at hk;rw [<- hk.2];exact ⟨g,rfl,by simp⟩,Nat.succ_pos _⟩
   | succ k=>
    have hr:k<rest.length:=(by omega);have e4:(AV.op 0 0 0 :: rest).getD (k+1) .any=rest[k]:=(by simp [List.getD,hr]);rw [e4];have:=hvr k _ _ (Vl ht') (p0 hr);exact ⟨.tree this,this.lt _⟩
  .have e3:(AV.op 0 0 0 :: rest).getD k .any=.any:=(by simp [List.getD,Vt (show (AV.op 0 0 0 :: rest).length<=k by simp;omega)]);rw [e3];exact ⟨.tree (.any _),trivial⟩
 refine calls_of_wp hf hb (Code.wp_mono (fun ex a' w' ⟨st',L',h1,h2,h3,hA⟩=>?_) (yL hm 0 c hz _ _ w _ _ hC h))
 have h50:a'.tmps.getD 0 undef=L 0:=by
  rw [hA.slots 0 rfl,V9,V5 (by omega),hx0];rfl
 have key:(db P st' rs fun avs=>∃ cells' objs',Post (gC avs) cells' objs' /\ fH (gC avs) /\ (cells'.length=cells.length /\ AV.ltL (objs'.length+1) cells' /\ ∀ o ∈ objs',bV o) /\ dH st' ⟨st'.n,[(0,.op 0 0 0)],bS 0 (.box t cells' :: objs'),objs'.length+1⟩) ->
   a'.defers=[] /\ ∃ u,(results fn a'.tmps).run P w'=.ok u w' /\ ∃ v av cells' objs' L',Ending.returned u=.returned v /\ Post av cells' objs' /\ je cx w' (bS 0 (.box t cells' :: objs')) L' /\ RT w' (Sx cx w' (bS 0 (.box t cells' :: objs')) L') v av /\ L' 0=L 0 /\ cells'.length=cells.length /\
   AV.ltL (objs'.length+1) cells' /\ (∀ o ∈ objs',bV o) /\ Fz w tab0 L w' (bS 0 (.box t cells' :: objs')) L':=fun h1=>by
  obtain ⟨u,av,⟨cells',objs',hPost,hro,⟨hl1,hl2,hl3⟩,hw⟩,hrv,hrun⟩:=Jc (K:=fun av=>∃ cells' objs',Post av cells' objs' /\ fH av /\ (cells'.length=cells.length /\ AV.ltL (objs'.length+1) cells' /\ ∀ o ∈ objs',bV o) /\ dH st' ⟨st'.n,[(0,.op 0 0 0)],bS 0 (.box t cells' :: objs'),objs'.length+1⟩) (fn:=fn) h2 (by rw [hrs];exact h1);obtain ⟨L2,hC2,hS2⟩:=hw _ _ _ _ h2;refine ⟨hA.defers,u,hrun,u,av,cells',objs',L2,rfl,hPost,hC2.lay,(Pu hrv hro).mono (fun _ _=>rfl) hS2,?_,hl1,hl2,hl3,h3.trans (TE hC2 hS2)⟩;have hget2:(bS 0 (aD.box t cells' :: objs')).get 0=some (.box t cells'):=by rw [jk];rfl
  obtain ⟨g2,cs2,hL2,_⟩:=hC2.lay.objs 0 _ hget2;have hr:=(hC2.env 0).1
  have e5:(⟨st'.n,[(0,.op 0 0 0)],bS 0 (.box t cells' :: objs'),objs'.length+1⟩:aj).get 0=.op 0 0 0:=by
   have:0<st'.n:=by
    have h6:=h2.size;refine Nat.pos_of_ne_zero fun h7=>?_;have h8:a'.tmps = #[]:=Array.eq_empty_of_size_eq_zero (by omega);rw [h8,hLb] at h50;cases h50
   simp [aj.get,bb,this]
  rw [e5,h50] at hr;obtain ⟨g3,hg3,he⟩:=hr.op_inv _ _ (cU hget2);rw [hL2] at hg3 ⊢;cases hg3;rw [he];simp
 cases ex with
 | normal=>exact key h1
 | ret=>exact key h1
 | _=>exact h1.elim
theorem ox (l:List Nat):∀ {cs:List AV},aR cs -> AV.renL l cs=cs
 | [],_=>rfl
 | a :: cs,h=>by
  have h1:aY a:=h.1;have h2:=ox l (cs:=cs) h.2;show a.ren l :: AV.renL l cs=a :: cs;rw [h2];cases a<;>first|rfl|exact (h1:False).elim
theorem QE (l:List Nat) {a:AV} (h:fH a):a.ren l=a:=by
 cases a with
 | osl=>exact h.elim
 | op=>exact h.elim
 | tup=>exact h.elim
 | agg cs=>show AV.agg _=_;rw [ox l h]
 | fn f cs=>show AV.fn f _=_;rw [ox l h]
 | bfn f cs=>show AV.bfn f _=_;rw [ox l h]
 | _=>rfl
theorem DU (l:List Nat):∀ {cs:List AV},fc cs -> AV.renL l cs=cs
 | [],_=>rfl
 | a :: cs,h=>by
  show a.ren l :: AV.renL l cs=a :: cs;rw [QE l h.1,DU l h.2]
theorem GV.toA {P:Program} {f:FuncId} {t:TypeId} {cells:List AV} {objs:List aD} {rest:List AV} {Post:AV -> List AV -> List aD -> Prop} (h:GV P f t cells objs rest Post) (hro:fc rest):Lt P f t cells objs (.op 0 0 0 :: rest) Post:=
 ⟨h.1,h.2.1,fun cx w L vs hlay hn hv=>h.2.2 cx w L vs hlay (by simpa using hn) (fun x hx=>by
  have hget0:(bS 0 (aD.box t cells :: objs)).get 0=some (.box t cells):=by rw [jk];rfl
  obtain ⟨g,h1,h2⟩:=(hv 0 x _ hx rfl).op_inv _ _ (cU hget0);obtain ⟨g',cs,h3,_⟩:=hlay.objs 0 _ hget0;rw [h3] at h1 ⊢;cases h1;simpa using h2) (fun j x av hx hav=>Pu (hv (j+1) x av hx (by simpa using hav)) (wV.1 hro av (Os hav)))⟩
theorem K8 {u:Option (Nat × List Nat)} {P:Program} {st:aj} {f:FuncId} {K:AV -> aj -> Prop} {t:TypeId} {cells:List AV} {objs:List aD} {args avs:List AV} {Post:AV -> List AV -> List aD -> Prop} {b:Nat} (ids:List Nat) (h:Lt P f t cells objs args Post) (he:avs=AV.renL (b :: ids) args)
  (hb:st.tab.get b=some (.box t (AV.renL (b :: ids) cells))) (ho:sH st.tab ids objs) (hd:(b :: ids).Nodup) (hu:∀ p,u=some p -> ∀ id ∈ b :: ids,lp p.1 p.2 id)
  (hk:∀ av cells' objs',Post av cells' objs' -> K av { st with tab:=jx st b ids t cells' objs',next:=st.next+objs'.length }):gD u P st f avs K:=
 .inr (.inr (.inl ⟨t,cells,objs,args,Post,b,ids,h,he,hb,ho,hd,hu,hk⟩))
theorem En {u:Option (Nat × List Nat)} {P:Program} {st:aj} {f:FuncId} {K:AV -> aj -> Prop} {t:TypeId} {cells:List AV} {objs:List aD} {rest:List AV} {Post:AV -> List AV -> List aD -> Prop} {b:Nat} (ids:List Nat) (h:GV P f t cells objs rest Post) (hro:fc rest)
  (hb:st.tab.get b=some (.box t (AV.renL (b :: ids) cells))) (ho:sH st.tab ids objs) (hd:(b :: ids).Nodup) (hu:∀ p,u=some p -> ∀ id ∈ b :: ids,lp p.1 p.2 id)
  (hk:∀ av cells' objs',Post av cells' objs' -> K av { st with tab:=jx st b ids t cells' objs',next:=st.next+objs'.length }):gD u P st f (.op b 0 0 :: rest) K:=
 K8 ids (h.toA hro) (by show _=AV.ren _ (.op 0 0 0) :: AV.renL _ rest;rw [DU _ hro];rfl) hb ho hd hu hk
theorem lD {P:Program} {st:aj} {f:FuncId} {avs:List AV} {K:AV -> aj -> Prop} (h:Kb P st f avs K):gD none P st f avs K:=.inr (.inl ⟨rfl,.inl (.inr (.inr h))⟩)
end
section
deriving instance DecidableEq for ah
structure df where
 op:Int
 a:Int
 b:Int
 x:ah
deriving DecidableEq
def qL:ah:=⟨0,0,0,0,0,0,0⟩
instance:Inhabited df:=⟨⟨0,0,0,qL⟩⟩
def HK (l:List df) (i:Int):df:=l.getD i.toNat default
def bB (l:List df) (s:df):List df × Int:=
 if s.op=15 /\ (HK l s.a).op=15 then (l,(HK l s.a).a) else if s ∈ l then (l,(l.idxOf s:Int)) else (l ++ [s],l.length)
abbrev dB (a:Int):df:=⟨15,a,0,qL⟩
abbrev lK (a b:Int):df:=⟨16,a,b,qL⟩
abbrev HJ (a:Int):df:=⟨20,a,0,qL⟩
abbrev u6 (a b:Int):df:=⟨26,a,b,qL⟩
abbrev EM (a:Int):df:=⟨24,a,0,qL⟩
abbrev tx (x:ah):df:=⟨x.op,0,0,x⟩
structure k9 (l:List df):Prop where
 nd:l.Nodup
 lt:∀ (i:Nat) (s:df),l[i]? = some s -> (0<=s.a /\ (s.a<i \/ s.a=0)) /\ (0<=s.b /\ (s.b<i \/ s.b=0)) /\ (¬(1<=s.op /\ s.op<=14) -> s.a<i) /\ (1<=s.op /\ s.op<=14 -> s.x.op=s.op)
def CA (l:List df) (s:df):Prop:=(0<=s.a /\ (s.a<l.length \/ s.a=0)) /\ (0<=s.b /\ (s.b<l.length \/ s.b=0)) /\ (¬(1<=s.op /\ s.op<=14) -> s.a<l.length) /\ (1<=s.op /\ s.op<=14 -> s.x.op=s.op)
theorem yz {l:List df} {i:Int} (h:0<=i) (hl:i<l.length):l[i.toNat]? = some (HK l i):=by
 have:i.toNat<l.length:=by omega
 simp [HK,List.getD,this]
theorem R5 {l:List df} {s:df} (h:k9 l) (hs:CA l s):k9 (bB l s).1 /\ (0<=(bB l s).2 /\ (bB l s).2<(bB l s).1.length) /\ l <+: (bB l s).1 /\ (bB l s).1.length<=l.length+1:=by
 unfold bB;by_cases h1:s.op=15 /\ (HK l s.a).op=15
 .rw [Vo h1];have h2:=hs.2.2.1 (by omega);have h3:=h.lt _ _ (yz hs.1.1 h2);have h4:=h3.2.2.1 (by omega);exact ⟨h,⟨h3.1.1,by simp only;omega⟩,XN,VS _⟩
 .rw [Vj h1];by_cases h2:s ∈ l
  .rw [Vo h2];have:=Xi h2;exact ⟨h,⟨by simp only;omega,by simp only;omega⟩,XN,VS _⟩
  .rw [Vj h2];refine ⟨⟨?_,fun i t hi=>?_⟩,⟨by simp only;omega,by simp only [Vk,Vz];omega⟩,XI _ _,by simp⟩
   .rw [Xq];refine ⟨h.nd,by simp,fun a ha b hb=>?_⟩;simp at hb;subst hb;exact fun e=>h2 (e ▸ ha)
   .simp only at hi;by_cases h3:i<l.length
    .rw [VO h3] at hi;exact h.lt i t hi
    .rw [VQ (by omega)] at hi
     have h4:i - l.length=0:=by
      have:=(Vf.1 hi).1;simp at this;omega
     rw [h4] at hi;simp at hi;subst hi;have h5:i=l.length:=(by omega);subst h5;exact hs
abbrev nU (s:df):List AV:=[eI s.op,eI s.a,eI s.b,eI s.x.op,eI s.x.la,eI s.x.ln,eI s.x.ra,eI s.x.rn,eI s.x.n,eI s.x.u]
def E1 (s:df):List Value:=[.int .i64 s.op,.int .i64 s.a,.int .i64 s.b,.int .i64 s.x.op,.int .i64 s.x.la,.int .i64 s.x.ln,.int .i64 s.x.ra,.int .i64 s.x.rn,.int .i64 s.x.n,.int .i64 s.x.u]
def tZ (s:df):Value:=.agg (E1 s).toArray
theorem A6 {s t:df} (h:tZ s=tZ t):s=t:=by
 obtain ⟨a,b,c,x⟩:=s;obtain ⟨a',b',c',x'⟩:=t;obtain ⟨x1,x2,x3,x4,x5,x6,x7⟩:=x;obtain ⟨y1,y2,y3,y4,y5,y6,y7⟩:=x';simp [tZ,E1] at h;simp [h]
structure mm (ents:List (Value × Value)) (l:List df):Prop where
 of:∀ e ∈ ents,∃ (n:Nat) (s:df),l[n]? = some s /\ e=(tZ s,.int .i64 (n:Int))
 all:∀ (n:Nat) (s:df),l[n]? = some s -> (tZ s,Value.int .i64 (n:Int)) ∈ ents
theorem E9:mm [] []:=⟨fun e he=>(by cases he),fun n s h=>(by simp at h)⟩
theorem vP {ents:List (Value × Value)} {l:List df} {s:df} {r:Option Value} (h:mm ents l) (hn:l.Nodup) (hr:C7 ents (tZ s) r):(s ∈ l /\ r=some (.int .i64 (l.idxOf s:Int))) \/ (s ∉ l /\ r=none):=by
 cases r with
 | some v=>
  left;obtain ⟨n,t,h1,h2⟩:=h.of _ hr;simp only [Prod.mk.injEq] at h2;have:=A6 h2.1;subst this;have hlt:=(Vf.1 h1).1;have hm:=Os h1;refine ⟨hm,?_⟩;rw [h2.2]
  have h3:l[l.idxOf s]? = some s:=by
   rw [p0 (Xi hm),List.getElem_idxOf]
  have h4:=(List.getElem?_inj hlt hn).1 (h1.trans h3.symm);rw [<- h4]
 | none=>
  right;refine ⟨fun hm=>?_,rfl⟩;obtain ⟨n,hn'⟩:=V8 hm;exact hr _ (h.all n s hn') rfl
theorem vJ {ents ents':List (Value × Value)} {l:List df} {s:df} (h:mm ents l) (hs:s ∉ l) (hp:I9 ents (tZ s) (.int .i64 (l.length:Int)) ents'):mm ents' (l ++ [s]):=by
 rcases hp with ⟨j,o,h1,_⟩|⟨h1,rfl⟩
 .obtain ⟨n,t,h2,h3⟩:=h.of _ (Os h1);simp only [Prod.mk.injEq] at h3;have:=A6 h3.1;subst this;exact absurd (Os h2) hs
 .refine ⟨fun e he=>?_,fun n t hn=>?_⟩
  .rcases Vs.1 he with he | he
   .obtain ⟨n,t,h2,h3⟩:=h.of e he;exact ⟨n,t,by rw [VO (Vf.1 h2).1];exact h2,h3⟩
   .simp at he;exact ⟨l.length,s,by simp,he⟩
  .by_cases h3:n<l.length
   .rw [VO h3] at hn;exact List.mem_append_left _ (h.all n t hn)
   .have h4:=(Vf.1 hn).1;simp at h4;have h5:n=l.length:=(by omega);subst h5;simp at hn;subst hn;exact List.mem_append_right _ (by simp)
def df.ok (s:df):Prop:=aF s.op /\ aF s.a /\ aF s.b /\ s.x.ok
end
section
theorem mL:Maps.Keyed Tryz.prog 84:=Maps.Keyed.of_law (deep_law (m:=4) (by omega) (by kernel_rfl) (by kernel_rfl) (by kernel_rfl))
theorem Ur {n:Int} (h:aF n):(Lit.int .i64 n).wf=true:=by
 unfold aF at h;have h1:IntKind.min .i64 = -9223372036854775808:=by rfl
 have h2:IntKind.max .i64=9223372036854775807:=by rfl
 simp [Lit.wf,h1,h2];omega
theorem nX (d:Nat) {n:Int} (h:aF n):Tryz.prog.keyLits (d+1) 3 [.int .i64 n]=some [.int .i64 n]:=by
 have hu:Tryz.prog.underlying 3=some (.int .i64):=by kernel_rfl
 simp [Program.keyLits,hu,Ur h]
theorem qd {P : Program} {d t : Nat} {cs : List Value} {fs : Array Field} (hu : P.underlying t = some (.struct fs)) (hl : cs.length = P.cellsOf t) (ha : fs.all (fun f => f.name != "_") = true) :
  P.keyLits (d+1) t cs=(fs.toList.mapM fun f=>P.keyLits d f.type ((cs.drop f.offset).take (P.cellsOf f.type))).map List.flatten:=by
 simp only [Program.keyLits,hu];rw [Vo ⟨hl,ha⟩]
theorem M6 (d:Nat) {n:Int} (h:aF n):Tryz.prog.keyLits (d+1) 2 [.int .i64 n]=some [.int .i64 n]:=by
 have hu:Tryz.prog.underlying 2=some (.int .i64):=by kernel_rfl
 simp [Program.keyLits,hu,Ur h]
theorem D5 (d:Nat) {a b:Int} (ha:aF a) (hb:aF b):Tryz.prog.keyLits (d+2) 59 [.int .i64 a,.int .i64 b]=some [.int .i64 a,.int .i64 b]:=by
 have hi:Tryz.prog.cellsOf 3=1:=by kernel_rfl
 have hi2:Tryz.prog.cellsOf 2=1:=by kernel_rfl
 have hc:Tryz.prog.cellsOf 59=2:=by kernel_rfl
 rw [qd Tryz.underlying59 (by rw [hc];rfl) (by kernel_rfl)];simp [hi,hi2,nX d ha,M6 d hb]
theorem Oy (d:Nat) {x:ah} (h:x.ok):Tryz.prog.keyLits (d+3) 61 [.int .i64 x.op,.int .i64 x.la,.int .i64 x.ln,.int .i64 x.ra,.int .i64 x.rn,.int .i64 x.n,.int .i64 x.u]=some [.int .i64 x.op,.int .i64 x.la,.int .i64 x.ln,.int .i64 x.ra,.int .i64 x.rn,.int .i64 x.n,.int .i64 x.u]:=by
 have hc:Tryz.prog.cellsOf 61=7:=by kernel_rfl
 have hc2:Tryz.prog.cellsOf 59=2:=by kernel_rfl
 have hi:Tryz.prog.cellsOf 3=1:=by kernel_rfl
 obtain ⟨g1,g2,g3,g4,g5,g6,g7⟩:=h;rw [qd Tryz.underlying61 (by rw [hc];rfl) (by kernel_rfl)];simp [hi,hc2,nX (d+1) g1,D5 d g2 g3,D5 d g4 g5,nX (d+1) g6,nX (d+1) g7]
theorem PN (d:Nat) {s:df} (h:s.ok):Tryz.prog.keyLits (d+4) 84 (E1 s)=some [.int .i64 s.op,.int .i64 s.a,.int .i64 s.b,.int .i64 s.x.op,.int .i64 s.x.la,.int .i64 s.x.ln,.int .i64 s.x.ra,.int .i64 s.x.rn,.int .i64 s.x.n,.int .i64 s.x.u]:=by
 have hc:Tryz.prog.cellsOf 84=10:=by kernel_rfl
 have hc7:Tryz.prog.cellsOf 61=7:=by kernel_rfl
 have hi:Tryz.prog.cellsOf 3=1:=by kernel_rfl
 obtain ⟨g1,g2,g3,g4⟩:=h;have k:=Oy d g4;rw [qd Tryz.underlying84 (by rw [hc];rfl) (by kernel_rfl)];simp [hi,hc7,nX (d+2) g1,nX (d+2) g2,nX (d+2) g3,E1,k]
theorem jH {s:df} (h:s.ok):yy Tryz.prog 84 (tZ s):=by
 have hu:=Tryz.underlying84;have h1:Tryz.prog.keyType 84=true:=by kernel_rfl
 have hc:Tryz.prog.cellsOf 84=10:=by kernel_rfl
 obtain ⟨d,hd⟩:∃ d,Tryz.prog.types.size+1=d+4:=⟨Tryz.prog.types.size - 3,by kernel_rfl⟩;have h2:(tZ s).formed Tryz.prog 84=true:=by simp [tZ,Value.formed,hu,hc,E1]
 have h3:(tZ s).cells.toList=E1 s:=rfl;unfold yy keyOf;rw [hu];simp only [h1,h2,Bool.and_true,if_true,h3,hd,PN d h];exact ⟨_,rfl⟩
end
end
section
section
abbrev HD:List AV:=[.osl 1,.osl 2,.osl 3]
abbrev oL (l:List df):aD:=.row 84 10 (l.map nU)
abbrev oR (r:List Int):aD:=.row 3 1 (r.map fun x=>[eI x])
abbrev rk (l:List df) (ents:List (Value × Value)) (r:List Int):List aD:=[oL l,.map ents,oR r]
def Ku (l':List df) (r':List Int) (v:Int) (av:AV) (cells':List AV) (objs':List aD):Prop:=av=eI v /\ cells'=HD /\ ∃ ents',mm ents' l' /\ objs'=rk l' ents' r'
def Hm (P:Program) (f:FuncId) (rest:List AV) (l:List df) (r:List Int) (l':List df) (r':List Int) (v:Int):Prop:=
 ∀ ents,mm ents l -> GV P f 119 HD (rk l ents r) rest (Ku l' r' v)
theorem pZ (s:df) (l:List df) (r:List Int) (hs:s.ok) (hl:k9 l) (hm:CA l s) (hall:∀ t ∈ l,t.ok) (hlen:l.length<=100000):Hm Tryz.prog 89 [.agg (nU s)] l r (bB l s).1 r (bB l s).2:=by
 intro ents hme;refine bU ag Tryz.func89 rfl (by decide) Tryz.ntmps89 Tryz.results89 rfl (by kernel_rfl) (by simp [AV.ltL,AV.lt]) (by simp [bV]) ?_;have n0:(0:Int)<=s.a:=hm.1.1;by_cases h:s.op=15 /\ (HK l s.a).op=15
 .obtain ⟨h15,h16⟩:=h;have e15:(s.op == 15)=true:=by simp [h15]
  have e16:((HK l s.a).op == 15)=true:=by simp [h16]
  have na:=hm.2.2.1 (by omega);have na2:s.a.toNat<l.length:=by omega
  have hrow:(List.map nU l)[s.a.toNat]?.getD []=nU (HK l s.a):=by
   have:=yz n0 na;rw [Ve,this];rfl
  have hF:bB l s=(l,(HK l s.a).a):=by rw [bB,Vo ⟨h15,h16⟩]
  rw [hF]
  repeat' first|refine go ?_|simp only [bS,n0,e15]|decide|refine sp ?_ ?_<;>intro _
  refine aA (by kernel_rfl) ?_
  repeat' first|refine go ?_|simp only [bS,n0,e15,e16,na,na2,hrow]|decide|refine sp ?_ ?_<;>intro _
  refine aA (by kernel_rfl) ?_
  repeat' first|refine go ?_|simp only [bS,n0,e15,e16,na,na2,hrow]|decide|refine sp ?_ ?_<;>intro _
  exact ⟨HD,rk l ents r,⟨rfl,rfl,ents,hme,rfl⟩,trivial,⟨rfl,by simp [AV.ltL,AV.lt],by simp [bV]⟩,(wS [0,1,2,3] (kf @bS.eq_1 @bS.eq_2))⟩
 .have hF:bB l s=if s ∈ l then (l,(l.idxOf s:Int)) else (l ++ [s],(l.length:Int)):=by rw [bB,Vj h]
  have key:((s.op == 15)=true /\ ((HK l s.a).op == 15)=false /\ s.a<l.length /\ s.a.toNat<l.length /\ (List.map nU l)[s.a.toNat]?.getD []=nU (HK l s.a)) \/ (s.op == 15)=false:=by
   by_cases h15:s.op=15
   .left;have na:=hm.2.2.1 (by omega);refine ⟨by simp [h15],by simpa using fun e=>h ⟨h15,e⟩,na,by omega,?_⟩;have:=yz n0 na;rw [Ve,this];rfl
   .right;simp [h15]
  rw [hF];rcases key with ⟨e15,e16,na,na2,hrow⟩|e15
  .repeat' first|refine go ?_|simp only [bS,n0,e15]|decide|refine sp ?_ ?_<;>intro _
   refine aA (by kernel_rfl) ?_
   repeat' first|refine go ?_|simp only [bS,n0,e15,e16,na,na2,hrow]|decide|refine sp ?_ ?_<;>intro _
   refine ay [] [0,1,2,3,4] (.exec 5 (.take 6 (.take 7 (.take 8 (.exec 9 (.exec 10 .done)))))) (by kernel_rfl) (by simp [af.gc]) ?_
   repeat' first|refine go ?_|decide|refine sp ?_ ?_<;>intro _
   refine ⟨⟨mL,jH hs,fun e he=>?_⟩,fun q hq=>?_⟩
   .obtain ⟨n,t,h1,rfl⟩:=hme.of e he;exact jH (hall t (Os h1))
   rcases vP hme hl.nd hq with ⟨hin,rfl⟩|⟨hin,rfl⟩
   .rw [Vo hin]
    repeat' first|refine go ?_|decide|refine sp ?_ ?_<;>intro _
    exact ⟨HD,rk l ents r,⟨rfl,rfl,ents,hme,rfl⟩,trivial,⟨rfl,by simp [AV.ltL,AV.lt],by simp [bV]⟩,(wS [0,1,2,3] (kf @bS.eq_1 @bS.eq_2))⟩
   .rw [Vj hin]
    repeat' first|refine go ?_|decide|refine sp ?_ ?_<;>intro _
    refine ay [0,1] [0,1,2,3,5] (.two 4 (.exec 6 (.exec 7 (.take 8 (.take 9 (.exec 10 .done))))) 6 (.exec 4 (.exec 7 (.take 8 (.take 9 (.exec 10 .done)))))) (by kernel_rfl) (by simp [af.gc]) ?_
    repeat' first|refine go ?_|decide|refine sp ?_ ?_<;>intro _
    refine ⟨⟨rfl,⟨by omega,by omega⟩,?_⟩,rfl,⟨by omega,by omega⟩,?_⟩
    all_goals
     refine ay [2] [0,1,2,3,4,5] (.exec 6 .done) (by kernel_rfl) (by simp [af.gc]) ?_
     repeat' first|refine go ?_|decide|refine sp ?_ ?_<;>intro _
     refine ⟨⟨mL,jH hs,fun e he=>?_⟩,fun ents' hp=>?_⟩
     .obtain ⟨n,t,h1,rfl⟩:=hme.of e he;exact jH (hall t (Os h1))
     repeat' first|refine go ?_|decide|refine sp ?_ ?_<;>intro _
     exact ⟨HD,rk (l ++ [s]) ents' r,⟨rfl,rfl,ents',vJ hme hin hp,rfl⟩,trivial,⟨rfl,by simp [AV.ltL,AV.lt],by simp [bV]⟩,(wS [0,6,2,3] (kf @bS.eq_1 @bS.eq_2))⟩
  .repeat' first|refine go ?_|simp only [bS,n0,e15]|decide|refine sp ?_ ?_<;>intro _
   refine aA (by kernel_rfl) ?_
   repeat' first|refine go ?_|simp only [bS,n0,e15]|decide|refine sp ?_ ?_<;>intro _
   refine ay [] [0,1,2,3,4] (.exec 5 (.take 6 (.take 7 (.take 8 (.exec 9 (.exec 10 .done)))))) (by kernel_rfl) (by simp [af.gc]) ?_
   repeat' first|refine go ?_|decide|refine sp ?_ ?_<;>intro _
   refine ⟨⟨mL,jH hs,fun e he=>?_⟩,fun q hq=>?_⟩
   .obtain ⟨n,t,h1,rfl⟩:=hme.of e he;exact jH (hall t (Os h1))
   rcases vP hme hl.nd hq with ⟨hin,rfl⟩|⟨hin,rfl⟩
   .rw [Vo hin]
    repeat' first|refine go ?_|decide|refine sp ?_ ?_<;>intro _
    exact ⟨HD,rk l ents r,⟨rfl,rfl,ents,hme,rfl⟩,trivial,⟨rfl,by simp [AV.ltL,AV.lt],by simp [bV]⟩,(wS [0,1,2,3] (kf @bS.eq_1 @bS.eq_2))⟩
   .rw [Vj hin]
    repeat' first|refine go ?_|decide|refine sp ?_ ?_<;>intro _
    refine ay [0,1] [0,1,2,3,5] (.two 4 (.exec 6 (.exec 7 (.take 8 (.take 9 (.exec 10 .done))))) 6 (.exec 4 (.exec 7 (.take 8 (.take 9 (.exec 10 .done)))))) (by kernel_rfl) (by simp [af.gc]) ?_
    repeat' first|refine go ?_|decide|refine sp ?_ ?_<;>intro _
    refine ⟨⟨rfl,⟨by omega,by omega⟩,?_⟩,rfl,⟨by omega,by omega⟩,?_⟩
    all_goals
     refine ay [2] [0,1,2,3,4,5] (.exec 6 .done) (by kernel_rfl) (by simp [af.gc]) ?_
     repeat' first|refine go ?_|decide|refine sp ?_ ?_<;>intro _
     refine ⟨⟨mL,jH hs,fun e he=>?_⟩,fun ents' hp=>?_⟩
     .obtain ⟨n,t,h1,rfl⟩:=hme.of e he;exact jH (hall t (Os h1))
     repeat' first|refine go ?_|decide|refine sp ?_ ?_<;>intro _
     exact ⟨HD,rk (l ++ [s]) ents' r,⟨rfl,rfl,ents',vJ hme hin hp,rfl⟩,trivial,⟨rfl,by simp [AV.ltL,AV.lt],by simp [bV]⟩,(wS [0,6,2,3] (kf @bS.eq_1 @bS.eq_2))⟩
end
end
section
section
abbrev Mk:=List df × Int
def Bs (l:List df) (a b:Int):Mk:=
 let p1:=bB l (dB b)
 let p2:=bB p1.1 (dB a)
 let p3:=bB p2.1 (lK p2.2 p1.2)
 let p4:=bB p3.1 (u6 p1.2 p3.2)
 let p5:=bB p4.1 (dB p4.2)
 let p6:=bB p5.1 (EM p1.2)
 let p7:=bB p6.1 (dB p6.2)
 bB p7.1 (lK p5.2 p7.2)
abbrev dD:ah:=⟨1,0,0,0,0,0,0⟩
def jz (l:List df) (op a:Int):Mk:=
 if (op == 19)=true then
  let p1:=bB l (dB a)
  let p2:=bB p1.1 (HJ p1.2)
  bB p2.1 (dB p2.2)
 else if (op == 20)=true then bB l (HJ a)
 else if (op == 21)=true then
  let p1:=bB l (dB a)
  let p2:=bB p1.1 (EM p1.2)
  bB p2.1 (dB p2.2)
 else if (op == 22)=true then
  let p1:=bB l (tx dD)
  bB p1.1 (u6 p1.2 a)
 else if (op == 23)=true then
  let p1:=bB l (dB a)
  let p2:=bB p1.1 (tx dD)
  let p3:=bB p2.1 (u6 p2.2 p1.2)
  bB p3.1 (dB p3.2)
 else if (op == 24)=true then bB l (EM a)
 else bB l (dB a)
def jD (l:List df) (op a b:Int):Mk:=
 if (op == 17)=true then
  let p1:=bB l (dB a)
  let p2:=bB p1.1 (dB b)
  let p3:=bB p2.1 (lK p1.2 p2.2)
  bB p3.1 (dB p3.2)
 else if (op == 18)=true then
  let p1:=bB l (dB b)
  let p2:=bB p1.1 (lK a p1.2)
  bB p2.1 (dB p2.2)
 else if (op == 25)=true then Bs l a b
 else if (op == 26)=true then bB l (u6 a b)
 else bB l (lK a b)
structure ey (n:Nat) (l:List df):Prop where
 st:k9 l
 ok:∀ t ∈ l,t.ok
 len:l.length<=n
 lim:n<=100000
structure In (l:List df) (a:Int):Prop where
 ge:0<=a
 lt:a<l.length
theorem In.mono {l l':List df} {a:Int} (h:In l a) (hp:l <+: l'):In l' a:=⟨h.ge,by have:=h.lt;have:=hp.length_le;omega⟩
theorem In.ok64 {n:Nat} {l:List df} {a:Int} (h:In l a) (hg:ey n l):aF a:=by
 have:=h.ge;have:=h.lt;have:=hg.len;have:=hg.lim;unfold aF;omega
structure km (n:Nat) (l:List df) (p:Mk):Prop where
 good:ey n p.1
 isIn:In p.1 p.2
 pre:l <+: p.1
theorem mI {n:Nat} {l:List df} {s:df} (h:ey n l) (hm:CA l s) (hs:s.ok) (hn:n<100000):km (n+1) l (bB l s):=by
 obtain ⟨h1,h2,h3,h4⟩:=R5 h.st hm;have:=h.len;refine ⟨⟨h1,fun t ht=>?_,by omega,hn⟩,⟨h2.1,h2.2⟩,h3⟩;unfold bB at ht;split at ht
 .exact h.ok t ht
 .split at ht
  .exact h.ok t ht
  .rcases Vs.1 ht with ht | ht
   .exact h.ok t ht
   .simp at ht;rw [ht];exact hs
theorem lM:qL.ok:=by simp [ah.ok,qL,aF]
theorem jq:dD.ok:=by simp [ah.ok,aF]
section
variable {n:Nat} {l:List df} {a b:Int}
theorem o7 {op:Int} {x:ah} (ha:In l a) (h:¬(1<=op /\ op<=14):=by decide):CA l ⟨op,a,0,x⟩:=⟨⟨ha.ge,.inl ha.lt⟩,⟨Xo 0,.inr rfl⟩,fun _=>ha.lt,fun e=>absurd e h⟩
theorem wd {op:Int} {x:ah} (ha:In l a) (hb:In l b) (h:¬(1<=op /\ op<=14):=by decide):CA l ⟨op,a,b,x⟩:=⟨⟨ha.ge,.inl ha.lt⟩,⟨hb.ge,.inl hb.lt⟩,fun _=>ha.lt,fun e=>absurd e h⟩
theorem Kh {x:ah} (hx:1<=x.op /\ x.op<=14):CA l (tx x):=⟨⟨Xo 0,.inr rfl⟩,⟨Xo 0,.inr rfl⟩,fun h=>absurd hx h,fun _=>rfl⟩
theorem TV (hg:ey n l) (ha:In l a):(dB a).ok:=⟨by simp [aF],ha.ok64 hg,by simp [aF],lM⟩
theorem TP (hg:ey n l) (ha:In l a):(HJ a).ok:=⟨by simp [aF],ha.ok64 hg,by simp [aF],lM⟩
theorem T8 (hg:ey n l) (ha:In l a):(EM a).ok:=⟨by simp [aF],ha.ok64 hg,by simp [aF],lM⟩
theorem UI (hg:ey n l) (ha:In l a) (hb:In l b):(lK a b).ok:=⟨by simp [aF],ha.ok64 hg,hb.ok64 hg,lM⟩
theorem Ug (hg:ey n l) (ha:In l a) (hb:In l b):(u6 a b).ok:=⟨by simp [aF],ha.ok64 hg,hb.ok64 hg,lM⟩
theorem UL {x:ah} (hx:x.ok):(tx x).ok:=⟨hx.1,by simp [aF],by simp [aF],hx⟩
theorem mu (hg:ey n l) (ha:In l a) (hn:n<100000):km (n+1) l (bB l (dB a)):=mI hg (o7 ha) (TV hg ha) hn
theorem UN (hg:ey n l) (ha:In l a) (hn:n<100000):km (n+1) l (bB l (HJ a)):=mI hg (o7 ha) (TP hg ha) hn
theorem S1 (hg:ey n l) (ha:In l a) (hn:n<100000):km (n+1) l (bB l (EM a)):=mI hg (o7 ha) (T8 hg ha) hn
theorem HC (hg:ey n l) (ha:In l a) (hb:In l b) (hn:n<100000):km (n+1) l (bB l (lK a b)):=mI hg (wd ha hb) (UI hg ha hb) hn
theorem Pv (hg:ey n l) (ha:In l a) (hb:In l b) (hn:n<100000):km (n+1) l (bB l (u6 a b)):=mI hg (wd ha hb) (Ug hg ha hb) hn
theorem Ps {x:ah} (hg:ey n l) (hx:x.ok) (h15:1<=x.op /\ x.op<=14) (hn:n<100000):km (n+1) l (bB l (tx x)):=mI hg (Kh h15) (UL hx) hn
end
theorem bw {P:Program} {u:Option (Nat × List Nat)} {st:aj} {f:FuncId} {K:AV -> aj -> Prop} {rest:List AV} {l l':List df} {r r':List Int} {v:Int} {b i j k:Nat} {ents:List (Value × Value)} (h:Hm P f rest l r l' r' v) (hme:mm ents l) (hro:fc rest)
  (hb:st.tab.get b=some (.box 119 [.osl i,.osl j,.osl k])) (hi:st.tab.get i=some (oL l)) (hj:st.tab.get j=some (.map ents)) (hk:st.tab.get k=some (oR r)) (hd:[b,i,j,k].Nodup) (hu:∀ p,u=some p -> ∀ id ∈ [b,i,j,k],lp p.1 p.2 id)
  (hK:∀ ents',mm ents' l' -> K (eI v) { st with tab:=(b,some (.box 119 [.osl st.next,.osl (st.next+1),.osl (st.next+2)])) :: (st.next,some (oL l')) :: (st.next+1,some (.map ents')) :: (st.next+2,some (oR r')) :: (i,none) :: (j,none) :: (k,none) :: st.tab,next:=st.next+3 }) :
  gD u P st f (.op b 0 0 :: rest) K:=by
 refine En [i,j,k] (h ents hme) hro (by rw [hb];simp [AV.renL,AV.ren]) ⟨⟨hi,trivial⟩,⟨hj,trivial⟩,⟨hk,trivial⟩,trivial⟩ hd hu ?_;rintro av cells' objs' ⟨rfl,rfl,ents',hme',rfl⟩;have:=hK ents' hme';simpa [jx,bS,AV.renL,AV.ren,List.range'] using this
theorem dL {P:Program} {rs:List ResultVar} {l:List df} {r:List Int} {v:Int} {st:aj} {ents:List (Value × Value)} (hme:mm ents l) (hw:dH st ⟨st.n,[(0,.op 0 0 0)],[(0,some (.box 119 HD)),(1,some (oL l)),(2,some (.map ents)),(3,some (oR r))],4⟩) :
  ∃ cells' objs',Ku l r v (eI v) cells' objs' /\ fH (eI v) /\ (cells'.length=3 /\ AV.ltL (objs'.length+1) cells' /\ ∀ o ∈ objs',bV o) /\ dH st ⟨st.n,[(0,.op 0 0 0)],bS 0 (.box 119 cells' :: objs'),objs'.length+1⟩:=
 ⟨HD,rk l ents r,⟨rfl,rfl,ents,hme,rfl⟩,trivial,⟨rfl,by simp [AV.ltL,AV.lt],by simp [bV]⟩,hw⟩
theorem iY {n:Nat} {l:List df} {a:Int} (r:List Int) (hg:ey n l) (ha:In l a):Hm Tryz.prog 82 [eI a] l r (bB l (dB a)).1 r (bB l (dB a)).2:=by
 intro ents hme;refine bU ag Tryz.func82 rfl (by decide) Tryz.ntmps82 Tryz.results82 rfl (by kernel_rfl) (by simp [AV.ltL,AV.lt]) (by simp [bV]) ?_
 repeat' first|refine go ?_|simp only [bS]|decide|refine sp ?_ ?_<;>intro _
 refine bw (pZ (dB a) l r (TV hg ha) hg.st (o7 ha) hg.ok (VC hg.len hg.lim)) hme (by simp [fc,fH,aR,aY]) rfl rfl rfl rfl (by decide) (fun p hp=>by cases hp) fun ents' hme'=>?_
 repeat' first|refine go ?_|decide|refine sp ?_ ?_<;>intro _
 exact dL (P:=Tryz.prog) (rs:=[]) hme' (wR [0,4,5,6])
theorem JI {n:Nat} {l:List df} {a:Int} (r:List Int) (hg:ey n l) (ha:In l a):Hm Tryz.prog 83 [eI a] l r (bB l (HJ a)).1 r (bB l (HJ a)).2:=by
 intro ents hme;refine bU ag Tryz.func83 rfl (by decide) Tryz.ntmps83 Tryz.results83 rfl (by kernel_rfl) (by simp [AV.ltL,AV.lt]) (by simp [bV]) ?_
 repeat' first|refine go ?_|simp only [bS]|decide|refine sp ?_ ?_<;>intro _
 refine bw (pZ (HJ a) l r (TP hg ha) hg.st (o7 ha) hg.ok (VC hg.len hg.lim)) (by assumption) (by simp [fc,fH,aR,aY]) rfl rfl rfl rfl (by decide) (fun p hp=>by cases hp) fun ents' hme'=>?_
 repeat' first|refine go ?_|decide|refine sp ?_ ?_<;>intro _
 exact dL (P:=Tryz.prog) (rs:=[]) hme' (wR [0,4,5,6])
theorem B8 {n:Nat} {l:List df} {a:Int} (r:List Int) (hg:ey n l) (ha:In l a):Hm Tryz.prog 84 [eI a] l r (bB l (EM a)).1 r (bB l (EM a)).2:=by
 intro ents hme;refine bU ag Tryz.func84 rfl (by decide) Tryz.ntmps84 Tryz.results84 rfl (by kernel_rfl) (by simp [AV.ltL,AV.lt]) (by simp [bV]) ?_
 repeat' first|refine go ?_|simp only [bS]|decide|refine sp ?_ ?_<;>intro _
 refine bw (pZ (EM a) l r (T8 hg ha) hg.st (o7 ha) hg.ok (VC hg.len hg.lim)) (by assumption) (by simp [fc,fH,aR,aY]) rfl rfl rfl rfl (by decide) (fun p hp=>by cases hp) fun ents' hme'=>?_
 repeat' first|refine go ?_|decide|refine sp ?_ ?_<;>intro _
 exact dL (P:=Tryz.prog) (rs:=[]) hme' (wR [0,4,5,6])
theorem zR {n:Nat} {l:List df} {a b:Int} (r:List Int) (hg:ey n l) (ha:In l a) (hb:In l b):Hm Tryz.prog 87 [eI a,eI b] l r (bB l (lK a b)).1 r (bB l (lK a b)).2:=by
 intro ents hme;refine bU ag Tryz.func87 rfl (by decide) Tryz.ntmps87 Tryz.results87 rfl (by kernel_rfl) (by simp [AV.ltL,AV.lt]) (by simp [bV]) ?_
 repeat' first|refine go ?_|simp only [bS]|decide|refine sp ?_ ?_<;>intro _
 refine bw (pZ (lK a b) l r (UI hg ha hb) hg.st (wd ha hb) hg.ok (VC hg.len hg.lim)) (by assumption) (by simp [fc,fH,aR,aY]) rfl rfl rfl rfl (by decide) (fun p hp=>by cases hp) fun ents' hme'=>?_
 repeat' first|refine go ?_|decide|refine sp ?_ ?_<;>intro _
 exact dL (P:=Tryz.prog) (rs:=[]) hme' (wR [0,4,5,6])
theorem rK {n:Nat} {l:List df} {a b:Int} (r:List Int) (hg:ey n l) (ha:In l a) (hb:In l b):Hm Tryz.prog 85 [eI a,eI b] l r (bB l (u6 a b)).1 r (bB l (u6 a b)).2:=by
 intro ents hme;refine bU ag Tryz.func85 rfl (by decide) Tryz.ntmps85 Tryz.results85 rfl (by kernel_rfl) (by simp [AV.ltL,AV.lt]) (by simp [bV]) ?_
 repeat' first|refine go ?_|simp only [bS]|decide|refine sp ?_ ?_<;>intro _
 refine bw (pZ (u6 a b) l r (Ug hg ha hb) hg.st (wd ha hb) hg.ok (VC hg.len hg.lim)) (by assumption) (by simp [fc,fH,aR,aY]) rfl rfl rfl rfl (by decide) (fun p hp=>by cases hp) fun ents' hme'=>?_
 repeat' first|refine go ?_|decide|refine sp ?_ ?_<;>intro _
 exact dL (P:=Tryz.prog) (rs:=[]) hme' (wR [0,4,5,6])
theorem IX {n:Nat} {l:List df} {x:ah} (r:List Int) (hg:ey n l) (hx:x.ok) (h15:1<=x.op /\ x.op<=14):Hm Tryz.prog 41 [.agg (cq x)] l r (bB l (tx x)).1 r (bB l (tx x)).2:=by
 intro ents hme;refine bU ag Tryz.func41 rfl (by decide) Tryz.ntmps41 Tryz.results41 rfl (by kernel_rfl) (by simp [AV.ltL,AV.lt]) (by simp [bV]) ?_
 repeat' first|refine go ?_|simp only [bS]|decide|refine sp ?_ ?_<;>intro _
 refine bw (pZ (tx x) l r (UL hx) hg.st (Kh h15) hg.ok (VC hg.len hg.lim)) (by assumption) (by simp [fc,fH,aR,aY]) rfl rfl rfl rfl (by decide) (fun p hp=>by cases hp) fun ents' hme'=>?_
 repeat' first|refine go ?_|decide|refine sp ?_ ?_<;>intro _
 exact dL (P:=Tryz.prog) (rs:=[]) hme' (wR [0,5,6,7])
theorem Bj {n:Nat} {l:List df} (r:List Int) (hg:ey n l):Hm Tryz.prog 86 [] l r (bB l (tx dD)).1 r (bB l (tx dD)).2:=by
 intro ents hme;refine bU ag Tryz.func86 rfl (by decide) Tryz.ntmps86 Tryz.results86 rfl (by kernel_rfl) (by simp [AV.ltL,AV.lt]) (by simp [bV]) ?_
 repeat' first|refine go ?_|simp only [bS]|decide|refine sp ?_ ?_<;>intro _
 refine bw (IX (x:=dD) r hg jq (by decide)) (by assumption) (by simp [fc,fH,aR,aY]) rfl rfl rfl rfl (by decide) (fun p hp=>by cases hp) fun ents' hme'=>?_
 repeat' first|refine go ?_|decide|refine sp ?_ ?_<;>intro _
 exact dL (P:=Tryz.prog) (rs:=[]) hme' (wR [0,4,5,6])
theorem Ue {n:Nat} {l:List df} {a b:Int} (hg:ey n l) (ha:In l a) (hb:In l b) (hn:n+8<=100000):km (n+8) l (Bs l a b):=by
 have m1:=mu hg hb (by omega);have m2:=mu m1.good (ha.mono m1.pre) (by omega);have m3:=HC m2.good m2.isIn (m1.isIn.mono m2.pre) (by omega);have m4:=Pv m3.good ((m1.isIn.mono m2.pre).mono m3.pre) m3.isIn (by omega);have m5:=mu m4.good m4.isIn (by omega);have m6:=S1 m5.good ((((m1.isIn.mono m2.pre).mono m3.pre).mono m4.pre).mono m5.pre) (by omega);have m7:=mu m6.good m6.isIn (by omega);have m8:=HC m7.good ((m5.isIn.mono m6.pre).mono m7.pre) m7.isIn (by omega);exact ⟨m8.good,m8.isIn,((((((m1.pre.trans m2.pre).trans m3.pre).trans m4.pre).trans m5.pre).trans m6.pre).trans m7.pre).trans m8.pre⟩
theorem TG {n:Nat} {l:List df} {a b:Int} (r:List Int) (hg:ey n l) (ha:In l a) (hb:In l b) (hn:n+8<=100000):Hm Tryz.prog 88 [eI a,eI b] l r (Bs l a b).1 r (Bs l a b).2:=by
 have m1:=mu hg hb (by omega);have m2:=mu m1.good (ha.mono m1.pre) (by omega);have m3:=HC m2.good m2.isIn (m1.isIn.mono m2.pre) (by omega);have m4:=Pv m3.good ((m1.isIn.mono m2.pre).mono m3.pre) m3.isIn (by omega);have m5:=mu m4.good m4.isIn (by omega);have m6:=S1 m5.good ((((m1.isIn.mono m2.pre).mono m3.pre).mono m4.pre).mono m5.pre) (by omega);have m7:=mu m6.good m6.isIn (by omega);have m8:=HC m7.good ((m5.isIn.mono m6.pre).mono m7.pre) m7.isIn (by omega);simp only [Bs];intro ents hme;refine bU ag Tryz.func88 rfl (by decide) Tryz.ntmps88 Tryz.results88 rfl (by kernel_rfl) (by simp [AV.ltL,AV.lt]) (by simp [bV]) ?_
 repeat' first|refine go ?_|simp only [bS]|decide|refine sp ?_ ?_<;>intro _
 refine bw (iY r hg hb) (by assumption) (by simp [fc,fH,aR,aY]) rfl rfl rfl rfl (by decide) (fun p hp=>by cases hp) fun ents' hme'=>?_
 repeat' first|refine go ?_|decide|refine sp ?_ ?_<;>intro _
 refine bw (iY r m1.good (ha.mono m1.pre)) (by assumption) (by simp [fc,fH,aR,aY]) rfl rfl rfl rfl (by decide) (fun p hp=>by cases hp) fun ents' hme'=>?_
 repeat' first|refine go ?_|decide|refine sp ?_ ?_<;>intro _
 refine bw (zR r m2.good m2.isIn (m1.isIn.mono m2.pre)) (by assumption) (by simp [fc,fH,aR,aY]) rfl rfl rfl rfl (by decide) (fun p hp=>by cases hp) fun ents' hme'=>?_
 repeat' first|refine go ?_|decide|refine sp ?_ ?_<;>intro _
 refine bw (rK r m3.good ((m1.isIn.mono m2.pre).mono m3.pre) m3.isIn) (by assumption) (by simp [fc,fH,aR,aY]) rfl rfl rfl rfl (by decide) (fun p hp=>by cases hp) fun ents' hme'=>?_
 repeat' first|refine go ?_|decide|refine sp ?_ ?_<;>intro _
 refine bw (iY r m4.good m4.isIn) (by assumption) (by simp [fc,fH,aR,aY]) rfl rfl rfl rfl (by decide) (fun p hp=>by cases hp) fun ents' hme'=>?_
 repeat' first|refine go ?_|decide|refine sp ?_ ?_<;>intro _
 refine bw (B8 r m5.good ((((m1.isIn.mono m2.pre).mono m3.pre).mono m4.pre).mono m5.pre)) (by assumption) (by simp [fc,fH,aR,aY]) rfl rfl rfl rfl (by decide) (fun p hp=>by cases hp) fun ents' hme'=>?_
 repeat' first|refine go ?_|decide|refine sp ?_ ?_<;>intro _
 refine bw (iY r m6.good m6.isIn) (by assumption) (by simp [fc,fH,aR,aY]) rfl rfl rfl rfl (by decide) (fun p hp=>by cases hp) fun ents' hme'=>?_
 repeat' first|refine go ?_|decide|refine sp ?_ ?_<;>intro _
 refine bw (zR r m7.good ((m5.isIn.mono m6.pre).mono m7.pre) m7.isIn) (by assumption) (by simp [fc,fH,aR,aY]) rfl rfl rfl rfl (by decide) (fun p hp=>by cases hp) fun ents' hme'=>?_
 repeat' first|refine go ?_|decide|refine sp ?_ ?_<;>intro _
 exact dL (P:=Tryz.prog) (rs:=[]) hme' (wR [0,25,26,27])
theorem UF {n:Nat} {l:List df} {op a:Int} (r:List Int) (hg:ey n l) (ha:In l a) (hn:n+8<=100000):Hm Tryz.prog 38 [eI op,eI a] l r (jz l op a).1 r (jz l op a).2:=by
 intro ents hme;refine bU ag Tryz.func38 rfl (by decide) Tryz.ntmps38 Tryz.results38 rfl (by kernel_rfl) (by simp [AV.ltL,AV.lt]) (by simp [bV]) ?_
 repeat' first|refine go ?_|simp only [bS]|decide|refine sp ?_ ?_<;>intro _
 .rename_i h1;have e:jz l op a=bB (bB (bB l (dB a)).1 (HJ (bB l (dB a)).2)).1 (dB (bB (bB l (dB a)).1 (HJ (bB l (dB a)).2)).2):=by simp [jz,h1]
  have m1:=mu hg ha (by omega);have m2:=UN m1.good m1.isIn (by omega);rw [e];refine bw (iY r hg ha) (by assumption) (by simp [fc,fH,aR,aY]) rfl rfl rfl rfl (by decide) (fun p hp=>by cases hp) fun ents' hme'=>?_
  repeat' first|refine go ?_|decide|refine sp ?_ ?_<;>intro _
  refine bw (JI r m1.good m1.isIn) (by assumption) (by simp [fc,fH,aR,aY]) rfl rfl rfl rfl (by decide) (fun p hp=>by cases hp) fun ents' hme'=>?_
  repeat' first|refine go ?_|decide|refine sp ?_ ?_<;>intro _
  refine bw (iY r m2.good m2.isIn) (by assumption) (by simp [fc,fH,aR,aY]) rfl rfl rfl rfl (by decide) (fun p hp=>by cases hp) fun ents' hme'=>?_
  repeat' first|refine go ?_|decide|refine sp ?_ ?_<;>intro _
  exact dL (P:=Tryz.prog) (rs:=[]) hme' (wR [0,10,11,12])
 .rename_i h1 h2;have e:jz l op a=bB l (HJ a):=by simp [jz,h1,h2]
  rw [e];refine bw (JI r hg ha) (by assumption) (by simp [fc,fH,aR,aY]) rfl rfl rfl rfl (by decide) (fun p hp=>by cases hp) fun ents' hme'=>?_
  repeat' first|refine go ?_|decide|refine sp ?_ ?_<;>intro _
  exact dL (P:=Tryz.prog) (rs:=[]) hme' (wR [0,4,5,6])
 .rename_i h1 h2 h3;have e:jz l op a=bB (bB (bB l (dB a)).1 (EM (bB l (dB a)).2)).1 (dB (bB (bB l (dB a)).1 (EM (bB l (dB a)).2)).2):=by simp [jz,h1,h2,h3]
  have m1:=mu hg ha (by omega);have m2:=S1 m1.good m1.isIn (by omega);rw [e];refine bw (iY r hg ha) (by assumption) (by simp [fc,fH,aR,aY]) rfl rfl rfl rfl (by decide) (fun p hp=>by cases hp) fun ents' hme'=>?_
  repeat' first|refine go ?_|decide|refine sp ?_ ?_<;>intro _
  refine bw (B8 r m1.good m1.isIn) (by assumption) (by simp [fc,fH,aR,aY]) rfl rfl rfl rfl (by decide) (fun p hp=>by cases hp) fun ents' hme'=>?_
  repeat' first|refine go ?_|decide|refine sp ?_ ?_<;>intro _
  refine bw (iY r m2.good m2.isIn) (by assumption) (by simp [fc,fH,aR,aY]) rfl rfl rfl rfl (by decide) (fun p hp=>by cases hp) fun ents' hme'=>?_
  repeat' first|refine go ?_|decide|refine sp ?_ ?_<;>intro _
  exact dL (P:=Tryz.prog) (rs:=[]) hme' (wR [0,10,11,12])
 .rename_i h1 h2 h3 h4;have e:jz l op a=bB (bB l (tx dD)).1 (u6 (bB l (tx dD)).2 a):=by simp [jz,h1,h2,h3,h4]
  have m1:=Ps hg jq (by decide) (by omega);rw [e];refine bw (Bj r hg) (by assumption) (by simp [fc,fH,aR,aY]) rfl rfl rfl rfl (by decide) (fun p hp=>by cases hp) fun ents' hme'=>?_
  repeat' first|refine go ?_|decide|refine sp ?_ ?_<;>intro _
  refine bw (rK r m1.good m1.isIn (ha.mono m1.pre)) (by assumption) (by simp [fc,fH,aR,aY]) rfl rfl rfl rfl (by decide) (fun p hp=>by cases hp) fun ents' hme'=>?_
  repeat' first|refine go ?_|decide|refine sp ?_ ?_<;>intro _
  exact dL (P:=Tryz.prog) (rs:=[]) hme' (wR [0,7,8,9])
 .rename_i h1 h2 h3 h4 h5;have e:jz l op a=bB (bB (bB (bB l (dB a)).1 (tx dD)).1 (u6 (bB (bB l (dB a)).1 (tx dD)).2 (bB l (dB a)).2)).1 (dB (bB (bB (bB l (dB a)).1 (tx dD)).1 (u6 (bB (bB l (dB a)).1 (tx dD)).2 (bB l (dB a)).2)).2):=by simp [jz,h1,h2,h3,h4,h5]
  have m1:=mu hg ha (by omega);have m2:=Ps m1.good jq (by decide) (by omega);have m3:=Pv m2.good m2.isIn (m1.isIn.mono m2.pre) (by omega);rw [e];refine bw (iY r hg ha) (by assumption) (by simp [fc,fH,aR,aY]) rfl rfl rfl rfl (by decide) (fun p hp=>by cases hp) fun ents' hme'=>?_
  repeat' first|refine go ?_|decide|refine sp ?_ ?_<;>intro _
  refine bw (Bj r m1.good) (by assumption) (by simp [fc,fH,aR,aY]) rfl rfl rfl rfl (by decide) (fun p hp=>by cases hp) fun ents' hme'=>?_
  repeat' first|refine go ?_|decide|refine sp ?_ ?_<;>intro _
  refine bw (rK r m2.good m2.isIn (m1.isIn.mono m2.pre)) (by assumption) (by simp [fc,fH,aR,aY]) rfl rfl rfl rfl (by decide) (fun p hp=>by cases hp) fun ents' hme'=>?_
  repeat' first|refine go ?_|decide|refine sp ?_ ?_<;>intro _
  refine bw (iY r m3.good m3.isIn) (by assumption) (by simp [fc,fH,aR,aY]) rfl rfl rfl rfl (by decide) (fun p hp=>by cases hp) fun ents' hme'=>?_
  repeat' first|refine go ?_|decide|refine sp ?_ ?_<;>intro _
  exact dL (P:=Tryz.prog) (rs:=[]) hme' (wR [0,13,14,15])
 .rename_i h1 h2 h3 h4 h5 h6;have e:jz l op a=bB l (EM a):=by simp [jz,h1,h2,h3,h4,h5,h6]
  rw [e];refine bw (B8 r hg ha) (by assumption) (by simp [fc,fH,aR,aY]) rfl rfl rfl rfl (by decide) (fun p hp=>by cases hp) fun ents' hme'=>?_
  repeat' first|refine go ?_|decide|refine sp ?_ ?_<;>intro _
  exact dL (P:=Tryz.prog) (rs:=[]) hme' (wR [0,4,5,6])
 .rename_i h1 h2 h3 h4 h5 h6;have e:jz l op a=bB l (dB a):=by simp [jz,h1,h2,h3,h4,h5,h6]
  rw [e];refine bw (iY r hg ha) (by assumption) (by simp [fc,fH,aR,aY]) rfl rfl rfl rfl (by decide) (fun p hp=>by cases hp) fun ents' hme'=>?_
  repeat' first|refine go ?_|decide|refine sp ?_ ?_<;>intro _
  exact dL (P:=Tryz.prog) (rs:=[]) hme' (wR [0,4,5,6])
theorem Uc {n:Nat} {l:List df} {op a b:Int} (r:List Int) (hg:ey n l) (ha:In l a) (hb:In l b) (hn:n+8<=100000):Hm Tryz.prog 40 [eI op,eI a,eI b] l r (jD l op a b).1 r (jD l op a b).2:=by
 intro ents hme;refine bU ag Tryz.func40 rfl (by decide) Tryz.ntmps40 Tryz.results40 rfl (by kernel_rfl) (by simp [AV.ltL,AV.lt]) (by simp [bV]) ?_
 repeat' first|refine go ?_|simp only [bS]|decide|refine sp ?_ ?_<;>intro _
 .rename_i h1;have e:jD l op a b=bB (bB (bB (bB l (dB a)).1 (dB b)).1 (lK (bB l (dB a)).2 (bB (bB l (dB a)).1 (dB b)).2)).1 (dB (bB (bB (bB l (dB a)).1 (dB b)).1 (lK (bB l (dB a)).2 (bB (bB l (dB a)).1 (dB b)).2)).2):=by simp [jD,h1]
  have m1:=mu hg ha (by omega);have m2:=mu m1.good (hb.mono m1.pre) (by omega);have m3:=HC m2.good (m1.isIn.mono m2.pre) m2.isIn (by omega);rw [e];refine bw (iY r hg ha) (by assumption) (by simp [fc,fH,aR,aY]) rfl rfl rfl rfl (by decide) (fun p hp=>by cases hp) fun ents' hme'=>?_
  repeat' first|refine go ?_|decide|refine sp ?_ ?_<;>intro _
  refine bw (iY r m1.good (hb.mono m1.pre)) (by assumption) (by simp [fc,fH,aR,aY]) rfl rfl rfl rfl (by decide) (fun p hp=>by cases hp) fun ents' hme'=>?_
  repeat' first|refine go ?_|decide|refine sp ?_ ?_<;>intro _
  refine bw (zR r m2.good (m1.isIn.mono m2.pre) m2.isIn) (by assumption) (by simp [fc,fH,aR,aY]) rfl rfl rfl rfl (by decide) (fun p hp=>by cases hp) fun ents' hme'=>?_
  repeat' first|refine go ?_|decide|refine sp ?_ ?_<;>intro _
  refine bw (iY r m3.good m3.isIn) (by assumption) (by simp [fc,fH,aR,aY]) rfl rfl rfl rfl (by decide) (fun p hp=>by cases hp) fun ents' hme'=>?_
  repeat' first|refine go ?_|decide|refine sp ?_ ?_<;>intro _
  exact dL (P:=Tryz.prog) (rs:=[]) hme' (wR [0,13,14,15])
 .rename_i h1 h2;have e:jD l op a b=bB (bB (bB l (dB b)).1 (lK a (bB l (dB b)).2)).1 (dB (bB (bB l (dB b)).1 (lK a (bB l (dB b)).2)).2):=by simp [jD,h1,h2]
  have m1:=mu hg hb (by omega);have m2:=HC m1.good (ha.mono m1.pre) m1.isIn (by omega);rw [e];refine bw (iY r hg hb) (by assumption) (by simp [fc,fH,aR,aY]) rfl rfl rfl rfl (by decide) (fun p hp=>by cases hp) fun ents' hme'=>?_
  repeat' first|refine go ?_|decide|refine sp ?_ ?_<;>intro _
  refine bw (zR r m1.good (ha.mono m1.pre) m1.isIn) (by assumption) (by simp [fc,fH,aR,aY]) rfl rfl rfl rfl (by decide) (fun p hp=>by cases hp) fun ents' hme'=>?_
  repeat' first|refine go ?_|decide|refine sp ?_ ?_<;>intro _
  refine bw (iY r m2.good m2.isIn) (by assumption) (by simp [fc,fH,aR,aY]) rfl rfl rfl rfl (by decide) (fun p hp=>by cases hp) fun ents' hme'=>?_
  repeat' first|refine go ?_|decide|refine sp ?_ ?_<;>intro _
  exact dL (P:=Tryz.prog) (rs:=[]) hme' (wR [0,10,11,12])
 .rename_i h1 h2 h3;have e:jD l op a b=Bs l a b:=by simp [jD,h1,h2,h3]
  rw [e];refine bw (TG r hg ha hb hn) (by assumption) (by simp [fc,fH,aR,aY]) rfl rfl rfl rfl (by decide) (fun p hp=>by cases hp) fun ents' hme'=>?_
  repeat' first|refine go ?_|decide|refine sp ?_ ?_<;>intro _
  exact dL (P:=Tryz.prog) (rs:=[]) hme' (wR [0,4,5,6])
 .rename_i h1 h2 h3 h4;have e:jD l op a b=bB l (u6 a b):=by simp [jD,h1,h2,h3,h4]
  rw [e];refine bw (rK r hg ha hb) (by assumption) (by simp [fc,fH,aR,aY]) rfl rfl rfl rfl (by decide) (fun p hp=>by cases hp) fun ents' hme'=>?_
  repeat' first|refine go ?_|decide|refine sp ?_ ?_<;>intro _
  exact dL (P:=Tryz.prog) (rs:=[]) hme' (wR [0,4,5,6])
 .rename_i h1 h2 h3 h4;have e:jD l op a b=bB l (lK a b):=by simp [jD,h1,h2,h3,h4]
  rw [e];refine bw (zR r hg ha hb) (by assumption) (by simp [fc,fH,aR,aY]) rfl rfl rfl rfl (by decide) (fun p hp=>by cases hp) fun ents' hme'=>?_
  repeat' first|refine go ?_|decide|refine sp ?_ ?_<;>intro _
  exact dL (P:=Tryz.prog) (rs:=[]) hme' (wR [0,4,5,6])
theorem Kr {l:List df} {x:Int} (r:List Int) (hr:r.length<=100000):Hm Tryz.prog 39 [] l (r ++ [x]) l r x:=by
 intro ents hme;refine bU ag Tryz.func39 rfl (by decide) Tryz.ntmps39 Tryz.results39 rfl (by kernel_rfl) (by simp [AV.ltL,AV.lt]) (by simp [bV]) ?_
 have hw:IntKind.i64.wrap ((r.length:Int)+1 - 1)=(r.length:Int):=by
  rw [aB (by omega) (by omega)];omega
 have hlt:(r.length:Int)<(r.length:Int)+1:=by omega
 have hrow:(List.map (fun x=>[eI x]) (r ++ [x]))[r.length]?.getD []=[eI x]:=by simp
 have hlt2:r.length<r.length+1:=by omega
 have hle:(r.length:Int)<=(r.length:Int)+1:=by omega
 have htk:List.take r.length (List.map (fun x=>[eI x]) (r ++ [x]))=List.map (fun x=>[eI x]) r:=by simp
 repeat' first|refine go ?_|simp only [bS,Vk,Vz,Xm,XO,hw,hlt,hlt2,hle,hrow,htk]|decide|refine sp ?_ ?_<;>intro _
 exact dL (P:=Tryz.prog) (rs:=[]) hme (wR [0,1,2,4])
end
end
section
section
abbrev TC:=List df × List Int
def gG (r:List Int):Int:=r.getLastD 0
def ly (p:TC) (x:ah):TC:=
 if aC x.op=1 then
  let q:=jz p.1 x.op (gG p.2)
  (q.1,p.2.dropLast ++ [q.2])
 else if aC x.op=2 then
  let q:=jD p.1 x.op (gG p.2.dropLast) (gG p.2)
  (q.1,p.2.dropLast.dropLast ++ [q.2])
 else
  let q:=bB p.1 (tx x)
  (q.1,p.2 ++ [q.2])
def gg (l:List ah):TC:=l.foldl ly ([],[])
theorem pU {l:List ah} {k:Nat} (hk:k<l.length):gg (l.take (k+1))=ly (gg (l.take k)) l[k]:=by
 unfold gg;rw [Vi hk,WK];rfl
theorem ey.mono {n m:Nat} {l:List df} (h:ey n l) (hn:n<=m) (hm:m<=100000):ey m l:=⟨h.st,h.ok,VC h.len hn,hm⟩
theorem km.mono {n m:Nat} {l:List df} {p:Mk} (h:km n l p) (hn:n<=m) (hm:m<=100000):km m l p:=⟨h.good.mono hn hm,h.isIn,h.pre⟩
theorem Pr {n:Nat} {l:List df} {op a:Int} (hg:ey n l) (ha:In l a) (hn:n+8<=100000):km (n+8) l (jz l op a):=by
 unfold jz;split
 .have m1:=mu hg ha (by omega);have m2:=UN m1.good m1.isIn (by omega);have m3:=mu m2.good m2.isIn (by omega);exact km.mono ⟨m3.good,m3.isIn,(m1.pre.trans m2.pre).trans m3.pre⟩ (by omega) hn
 .split
  .exact (UN hg ha (by omega)).mono (by omega) hn
  .split
   .have m1:=mu hg ha (by omega);have m2:=S1 m1.good m1.isIn (by omega);have m3:=mu m2.good m2.isIn (by omega);exact km.mono ⟨m3.good,m3.isIn,(m1.pre.trans m2.pre).trans m3.pre⟩ (by omega) hn
   .split
    .have m1:=Ps hg jq (by decide) (by omega);have m2:=Pv m1.good m1.isIn (ha.mono m1.pre) (by omega);exact km.mono ⟨m2.good,m2.isIn,m1.pre.trans m2.pre⟩ (by omega) hn
    .split
     .have m1:=mu hg ha (by omega);have m2:=Ps m1.good jq (by decide) (by omega);have m3:=Pv m2.good m2.isIn (m1.isIn.mono m2.pre) (by omega);have m4:=mu m3.good m3.isIn (by omega);exact km.mono ⟨m4.good,m4.isIn,((m1.pre.trans m2.pre).trans m3.pre).trans m4.pre⟩ (by omega) hn
     .split
      .exact (S1 hg ha (by omega)).mono (by omega) hn
      .exact (mu hg ha (by omega)).mono (by omega) hn
theorem Pn {n:Nat} {l:List df} {op a b:Int} (hg:ey n l) (ha:In l a) (hb:In l b) (hn:n+8<=100000):km (n+8) l (jD l op a b):=by
 unfold jD;split
 .have m1:=mu hg ha (by omega);have m2:=mu m1.good (hb.mono m1.pre) (by omega);have m3:=HC m2.good (m1.isIn.mono m2.pre) m2.isIn (by omega);have m4:=mu m3.good m3.isIn (by omega);exact km.mono ⟨m4.good,m4.isIn,((m1.pre.trans m2.pre).trans m3.pre).trans m4.pre⟩ (by omega) hn
 .split
  .have m1:=mu hg hb (by omega);have m2:=HC m1.good (ha.mono m1.pre) m1.isIn (by omega);have m3:=mu m2.good m2.isIn (by omega);exact km.mono ⟨m3.good,m3.isIn,(m1.pre.trans m2.pre).trans m3.pre⟩ (by omega) hn
  .split
   .exact Ue hg ha hb hn
   .split
    .exact (Pv hg ha hb (by omega)).mono (by omega) hn
    .exact (HC hg ha hb (by omega)).mono (by omega) hn
theorem Dh {op:Int} (h:aC op=0):1<=op /\ op<=14:=by
 unfold aC at h;split at h
 .assumption
 .split at h
  .omega
  .split at h<;>omega
theorem kz {r:List Int} (h:0<r.length):r=r.dropLast ++ [gG r]:=by
 have hne:r ≠ []:=by intro e;simp [e] at h
 unfold gG;rw [List.getLastD_eq_getLast?,List.getLast?_eq_some_getLast hne,VG,List.dropLast_concat_getLast hne]
structure K7 (n:Nat) (p:TC):Prop where
 good:ey n p.1
 row:∀ a ∈ p.2,In p.1 a
theorem jf {r:List Int} (h:0<r.length):gG r ∈ r /\ ∀ a ∈ r.dropLast,a ∈ r:=by
 have e:=kz h;refine ⟨?_,fun a ha=>(List.dropLast_sublist _).subset ha⟩;rw [e];simp [gG]
theorem Ln {n d:Nat} {p:TC} {x:ah} (h:K7 n p) (hx:x.ok) (hp:cD p.2.length x.op=some d) (hn:n+8<=100000):K7 (n+8) (ly p x) /\ (ly p x).2.length=d:=by
 unfold cD at hp;unfold ly;by_cases h1:aC x.op=1
 .have h0:aC x.op ≠ 0:=by omega
  rw [Vj h0] at hp;by_cases hd:1<=p.2.length
  .rw [Vo ⟨h1,hd⟩] at hp;rw [Vo h1];have hm:=jf hd;have m:=Pr (op:=x.op) h.good (h.row _ hm.1) hn;refine ⟨⟨m.good,fun a ha=>?_⟩,?_⟩
   .rcases Vs.1 ha with ha | ha
    .exact (h.row a (hm.2 a ha)).mono m.pre
    .simp at ha;rw [ha];exact m.isIn
   .cases hp;simp;omega
  .rw [Vj (by simp [hd]),Vj (by omega)] at hp;cases hp
 .rw [Vj h1];by_cases h2:aC x.op=2
  .rw [Vj (by omega),Vj (by omega)] at hp;by_cases hd:2<=p.2.length
   .rw [Vo ⟨h2,hd⟩] at hp;rw [Vo h2];have hm:=jf (show 0<p.2.length by omega);have hm2:=jf (r:=p.2.dropLast) (by simp;omega);have m:=Pn (op:=x.op) h.good (h.row _ (hm.2 _ hm2.1)) (h.row _ hm.1) hn;refine ⟨⟨m.good,fun a ha=>?_⟩,?_⟩
    .rcases Vs.1 ha with ha | ha
     .exact (h.row a (hm.2 a (hm2.2 a ha))).mono m.pre
     .simp at ha;rw [ha];exact m.isIn
    .cases hp;simp;omega
   .rw [Vj (by simp [hd])] at hp;cases hp
  .rw [Vj h2];by_cases h0:aC x.op=0
   .rw [Vo h0] at hp;have h15:=Dh h0;have m:=(Ps h.good hx h15 (by omega)).mono (m:=n+8) (by omega) hn;refine ⟨⟨m.good,fun a ha=>?_⟩,?_⟩
    .rcases Vs.1 ha with ha | ha
     .exact (h.row a ha).mono m.pre
     .simp at ha;rw [ha];exact m.isIn
    .cases hp;simp
   .rw [Vj h0,Vj (by simp [h1]),Vj (by simp [h2])] at hp;cases hp
theorem ji:∀ (a b:List Int) (d:Nat),bx (a ++ b) d=(bx a d).bind (bx b)
 | [],b,d=>rfl
 | op :: a,b,d=>by
  simp only [Ww,bx]
  cases cD d op with
  | none=>rfl
  | some d'=>exact ji a b d'
theorem mA {l:List ah} {k e:Nat} (h:bx (l.map ah.op) 0=some e) (hk:k<l.length):∃ d,bx ((l.take k).map ah.op) 0=some d /\ ∃ d',cD d l[k].op=some d' /\ bx ((l.take (k+1)).map ah.op) 0=some d':=by
 have h1:l=l.take k ++ l[k] :: l.drop (k+1):=by rw [List.getElem_cons_drop,WY]
 rw [h1,VI,ji] at h
 cases hd:bx ((l.take k).map ah.op) 0 with
 | none=>rw [hd] at h;cases h
 | some d=>
  refine ⟨d,rfl,?_⟩;rw [hd] at h;simp only [V1,Wm,bx] at h
  cases hp:cD d l[k].op with
  | none=>rw [hp] at h;cases h
  | some d'=>
   refine ⟨d',rfl,?_⟩;rw [Vi hk,VI,ji,hd];simp [bx,hp]
theorem sb:∀ (l:List Int) (d e:Nat),bx l d=some e -> e<=d+l.length
 | [],d,e,h=>by cases h;exact Vh _
 | op :: l,d,e,h=>by
  rw [bx] at h
  cases hp:cD d op with
  | none=>rw [hp] at h;cases h
  | some d'=>
   rw [hp] at h;have h1:=sb l d' e h;have h2:=A5 hp;simp only [VN];omega
theorem mN {l:List ah} {e:Nat} (h:bx (l.map ah.op) 0=some e) (hx:∀ x ∈ l,x.ok) (hl:l.length<=64):∀ k,k<=l.length -> K7 (8 * k) (gg (l.take k)) /\ bx ((l.take k).map ah.op) 0=some (gg (l.take k)).2.length
 | 0,_=>⟨⟨⟨⟨by simp [gg],fun i s hi=>by simp [gg] at hi⟩,fun t ht=>by simp [gg] at ht,by simp [gg],by omega⟩,fun a ha=>by simp [gg] at ha⟩,by simp [bx,gg]⟩
 | k+1,hk=>by
  obtain ⟨h1,h2⟩:=mN h hx hl k (by omega);obtain ⟨d,h3,d',h4,h5⟩:=mA h (show k<l.length by omega);rw [h2] at h3;cases h3;obtain ⟨h6,h7⟩:=Ln h1 (hx _ (Vg (by omega))) h4 (by omega);rw [pU (by omega)];exact ⟨by rw [show 8 * (k+1)=8 * k+8 by omega];exact h6,by rw [h5,h7]⟩
theorem fM {r av:AV} {st:aj} (h:r.ren []=av):d9 ⟨r,[],0⟩ st av:=⟨[],List.nodup_nil,h,trivial⟩
theorem PL {vs:Array Value} (h:vs.size=1):∃ a,vs = #[a]:=⟨vs[0],by apply Array.ext (by simpa using h);intro i h1 h2;simp at h2;match i with | 0=>rfl⟩
abbrev qZ (op:Int):List AV:=[eI op,.c (.string ByteArray.empty),eI 0,.c (.string ByteArray.empty),eI 0,.c (.string ByteArray.empty),.c (.string ByteArray.empty),eI 0,eI 0]
theorem IO0 {w:World} {S:Nat -> Prop} {v:Value} {l:List ah} (h:RT w S v (.sl 9 (l.map fun x=>qZ x.op))) (hl:∀ x ∈ l,x.ok):(aJ sK).one w S v (l.map eU):=by
 obtain ⟨A,cap,rfl,hc,hm,_,hA⟩:=h.sl_inv;refine ⟨A,cap,by simp,by simpa using hc,hm,fun h0=>?_⟩;obtain ⟨b,o,rfl,hb,U,hcell,hr,_⟩:=hA (by simpa using h0);refine ⟨b,o,rfl,hb,fun i hi=>⟨(l.map eU)[i].cells,fun j u hu=>?_,rfl,?_⟩⟩
 .have hi':i<l.length:=by simpa using hi
  have h1:(l.map fun x=>qZ x.op)[i]? = some (qZ l[i].op):=by simp [hi']
  have h3:∀ (j:Nat) (u:Value),(eU l[i]).cells[j]? = some u -> (qZ l[i].op)[j]? = some (AV.c u):=by
   intro j u hu;unfold fx.cells eU at hu
   match j with
   | 0 | 1 | 2 | 3 | 4 | 5 | 6 | 7 | 8=>simp at hu;subst hu;rfl
   | j+9=>simp at hu
  have h4:=h3 j u (by simpa using hu);have h2:=hcell i j _ _ h1 h4;rw [Gn (hr i j _ _ h1 h4)] at h2;exact h2
 .have hi':i<l.length:=by simpa using hi
  have:=(hl _ (Vg hi')).1;have z:aF 0:=by simp [aF]
  have e:(ByteArray.size ⟨#[]⟩)<=9223372036854775807:=by decide
  rw [List.getElem_map];exact ⟨this,z,z,z,z,e,e,e,e⟩
theorem Ox (l:List ah) (hl:∀ x ∈ l,x.ok):aw Tryz.prog 36 [.sl 9 (l.map fun x=>qZ x.op)] (val (.int .i64 (bf (l.map ah.op)))):=
 fQ (fb Tryz.func36 rfl (by decide)) fun S w vs hS hn hv=>by
  obtain ⟨a,rfl⟩:=PL hn;have:=pT (l.map eU) a S w (IO0 (hv 0 a _ rfl rfl) hl) hS.sub;rw [pC] at this;exact this
theorem Md (op:Int):aw Tryz.prog 37 [eI op] (val (.int .i64 (aC op))):=
 fQ (fb Tryz.func37 rfl (by decide)) fun S w vs hS hn hv=>by
  obtain ⟨a,rfl⟩:=PL hn;obtain rfl:=Gn (hv 0 a _ rfl rfl);exact (kd op w).mono fun e w' ⟨h1,h2⟩=>⟨h1,h2 ▸ Below.refl _ _⟩
def nE (l:List ah):cS:=if bf (l.map ah.op)=0 then ⟨.tup [.sl 10 ((gg l).1.map nU),eI (gG (gg l).2),eI 0],[],0⟩ else ⟨.tup [.c (.slice none 0 0),eI 0,eI 17],[],0⟩
def Le (rows:List (List AV)) (ents:List (Value × Value)) (r:List Int) (x:Int) (av:AV) (cells':List AV) (objs':List aD):Prop:=av=eI x /\ cells'=[.sl 10 rows,.osl 1,.osl 2] /\ objs'=[.map ents,oR r]
theorem TW {x:Int} (rows:List (List AV)) (ents:List (Value × Value)) (r:List Int) (hr:r.length<=100000):GV Tryz.prog 39 119 [.sl 10 rows,.osl 1,.osl 2] [.map ents,oR (r ++ [x])] [] (Le rows ents r x):=by
 refine bU ag Tryz.func39 rfl (by decide) Tryz.ntmps39 Tryz.results39 rfl (by kernel_rfl) (by simp [AV.ltL,AV.lt]) (by simp [bV]) ?_
 have hw:IntKind.i64.wrap ((r.length:Int)+1 - 1)=(r.length:Int):=by
  rw [aB (by omega) (by omega)];omega
 have hlt:(r.length:Int)<(r.length:Int)+1:=by omega
 have hrow:(List.map (fun x=>[eI x]) (r ++ [x]))[r.length]?.getD []=[eI x]:=by simp
 have hlt2:r.length<r.length+1:=by omega
 have hle:(r.length:Int)<=(r.length:Int)+1:=by omega
 have htk:List.take r.length (List.map (fun x=>[eI x]) (r ++ [x]))=List.map (fun x=>[eI x]) r:=by simp
 repeat' first|refine go ?_|simp only [bS,Vk,Vz,Xm,XO,hw,hlt,hlt2,hle,hrow,htk]|decide|refine sp ?_ ?_<;>intro _
 exact ⟨[.sl 10 rows,.osl 1,.osl 2],[.map ents,oR r],⟨rfl,rfl,rfl⟩,trivial,⟨rfl,by simp [AV.ltL,AV.lt],by simp [bV]⟩,(wS [0,1,3] (kf @bS.eq_1 @bS.eq_2))⟩
def JV (l:List ah) (st:aj):Prop:=∃ (k:Nat) (ents:List (Value × Value)) (L:List df) (r:List Int),k<=l.length /\ (gg (l.take k)=(L,r) /\ mm ents L) /\
  ((k<l.length /\ st=⟨80,[(8,.op 0 0 0),(32,aX l),(33,eI (l.length:Int)),(34,eI (k:Int))],[(0,some (.box 119 HD)),(1,some (oL L)),(2,some (.map ents)),(3,some (oR r))],4⟩) \/
   (k=l.length /\ st=⟨80,[(8,.op 0 0 0),(32,aX l),(33,eI (l.length:Int)),(34,eI (k:Int))],[(0,some (.box 119 [.sl 10 (L.map nU),.osl 1,.osl 2])),(1,some (.map ents)),(2,some (oR r))],3⟩))
theorem mb {l:List ah} {k:Nat} {n:Nat} {st:aj} {L:List df} {r:List Int} {ents:List (Value × Value)} (hk:k<l.length) (hrun:gg (l.take (k+1))=(L,r)) (hme:mm ents L)
  (hw:dH st ⟨80,[(8,.op 0 0 0),(32,aX l),(33,eI (l.length:Int)),(34,eI ((k+1:Nat):Int))],[(0,some (.box 119 HD)),(1,some (oL L)),(2,some (.map ents)),(3,some (oR r))],4⟩) (hn:n=l.length - k) :
  tj (JV l) (fun st=>l.length - ap st 34) n st:=by
 by_cases h:k+1<l.length
 .refine cZ hw ⟨k+1,ents,L,r,by omega,⟨hrun,hme⟩,.inl ⟨h,rfl⟩⟩ ?_;simp only [ap,aj.get,bb,↓reduceIte,Nat.reduceLT,Nat.reduceEqDiff];omega
 .have hl:k+1=l.length:=by omega
  refine cZ (hw.trans ((oe _ 1).trans ?_)) ⟨k+1,ents,L,r,by omega,⟨hrun,hme⟩,.inr ⟨hl,rfl⟩⟩ ?_
  .simp only [iE,gj,b8,af.gc,aD.frz,AV.frz,AV.frzL,HD,↓reduceIte,Nat.reduceEqDiff,VT,XM,reduceCtorEq,Xz];exact (wR [0,2,3])
  .simp only [ap,aj.get,bb,↓reduceIte,Nat.reduceLT,Nat.reduceEqDiff];omega
theorem Hh (l:List ah):(nE l).Ok:=by
 unfold nE;split
 .exact ⟨fun id o h=>(by cases h),⟨trivial,trivial,trivial,trivial⟩⟩
 .exact ⟨fun id o h=>(by cases h),⟨trivial,trivial,trivial,trivial⟩⟩
theorem Nv (l:List ah) (hx:∀ x ∈ l,x.ok) (hl:l.length<=1000000):aw Tryz.prog 20 [aX l] (nE l):=by
 refine aa ag Tryz.func20 rfl (by decide) Tryz.ntmps20 Tryz.results20 rfl (Hh l) ?_
 repeat' first|refine go ?_|decide|refine sp ?_ ?_<;>intro _
 refine ae (fun st=>∃ k:Nat,k<=l.length /\ st=⟨80,[(0,aX l),(5,.osl 0),(13,aX l),(14,eI (l.length:Int)),(15,eI (k:Int))],[(0,some (.row 101 9 ((l.take k).map fun x=>qZ x.op)))],1⟩) (fun st=>l.length - ap st 15) ⟨_,((be 5 101 9 (by simp only [iz,aj.get,bb,aj.put,↓reduceIte,reduceCtorEq,Nat.reduceLT,Nat.reduceEqDiff,Nat.reduceAdd,Nat.reduceLeDiff,eq_self,implies_true,Vu])).trans (wS [0] @Vu)),0,Vd _,rfl⟩ ?_;rintro _ ⟨k,hk,rfl⟩;by_cases hlt:k<l.length
 .have et:(l.take (k+1)).map (fun x=>qZ x.op)=(l.take k).map (fun x=>qZ x.op) ++ [[AV.c (Value.int IntKind.i64 l[k].op),AV.c (Value.string ByteArray.empty),AV.c (Value.int IntKind.i64 0),AV.c (Value.string ByteArray.empty),AV.c (Value.int IntKind.i64 0),AV.c (Value.string ByteArray.empty),AV.c (Value.string ByteArray.empty),AV.c (Value.int IntKind.i64 0),AV.c (Value.int IntKind.i64 0)]]:=dc _ _ hlt
  repeat' first|refine go ?_|simp only [ab,hlt]|decide|refine sp ?_ ?_<;>intro _
  refine ⟨rfl,⟨by simp only [Vr];omega,by simp only [Vr];omega⟩,rI (wS [3] et) ⟨k+1,by omega,rfl⟩⟩
 obtain rfl:k=l.length:=by omega
 repeat' first|refine go ?_|simp only [ab,hlt,Vq]|decide|refine sp ?_ ?_<;>intro _
 refine ax (by exact Ox l hx) ?_;by_cases hc:bf (l.map ah.op)=0
 .have ec:(bf (l.map ah.op) != 0)=false:=by simp [hc]
  have hr:nE l=⟨.tup [.sl 10 ((gg l).1.map nU),eI (gG (gg l).2),eI 0],[],0⟩:=Vo hc;rw [hr]
  have hlen:0<l.length /\ l.length<=64:=by
   have:=hc;unfold bf at this;simp only [Vp] at this;split at this
   .cases this
   .split at this
    .cases this
    .omega
  have hrow:bx (l.map ah.op) 0=some 1:=by
   have:=hc;unfold bf at this;simp only [Vp] at this;split at this
   .cases this
   .split at this
    .cases this
    .split at this
     .assumption
     .cases this
  repeat' first|refine ge ec ?_|decide|refine sp ?_ ?_<;>intro _
  refine ae (JV l) (fun st=>l.length - ap st 34) ⟨_,((cu 2 0 84 10 (t:=119) (cells:=[.c (.slice none 0 0),.osl 1,.c (.slice none 0 0)]) (by simp [af.gc]) rfl).trans ((cu 2 2 3 1 (t:=119) (cells:=[.osl 3,.osl 1,.c (.slice none 0 0)]) (by simp [af.gc]) rfl).trans (wS [2,3,1,4] (kf @WB @W5)))),0,[],[],[],Vd _,⟨rfl,E9⟩,.inl ⟨hlen.1,rfl⟩⟩ ?_;rintro _ ⟨k,ents,L,r,hk,⟨hrun,hme⟩,⟨hlt,rfl⟩ | ⟨rfl,rfl⟩⟩
  .obtain ⟨hgs,hdep⟩:=mN hrow hx hlen.2 k hk;rw [hrun] at hgs hdep;obtain ⟨d,h3,d',h4,h5⟩:=mA hrow hlt;rw [hdep] at h3;cases h3;have hnext:=pU hlt;rw [hrun] at hnext;have hxk:=hx _ (Vg hlt)
   have hrl:r.length<=100000:=by
    have:=sb _ _ _ hdep;simp only [Vp,Vr] at this;omega
   have hrl2:r.length<=64:=by
    have:=sb _ _ _ hdep;simp only [Vp,Vr] at this;omega
   repeat' first|refine go ?_|simp only [ab,hlt]|decide|refine sp ?_ ?_<;>intro _
   refine ax (Md _) ?_;by_cases h1:aC l[k].op=1
   .have e1:(aC l[k].op == 1)=true:=by simp [h1]
    obtain ⟨r,a,rfl⟩:∃ r' a,r=r' ++ [a]:=by
     have:1<=r.length:=by
      unfold cD at h4;rw [Vj (by omega)] at h4;by_cases hd:1<=r.length
      .exact hd
      .rw [Vj (by simp [hd]),Vj (by omega)] at h4;cases h4
     exact ⟨_,_,kz this⟩
    simp only [Vk,Vz] at hrl hrl2;have ha:In L a:=hgs.row a (by simp)
    have estep:ly (L,r ++ [a]) l[k]=((jz L l[k].op a).1,r ++ [(jz L l[k].op a).2]):=by
     unfold ly;rw [Vo h1];simp [gG]
    repeat' first|refine ge e1 ?_|decide|refine sp ?_ ?_<;>intro _
    refine ay [0,1,2,3] [0,1,2,3] (.exec 4 (.exec 5 (.exec 6 .done))) (by kernel_rfl) (by simp [af.gc]) ?_
    repeat' first|refine go ?_|decide|refine sp ?_ ?_<;>intro _
    refine bw (Kr r (by omega)) (by assumption) (by simp [fc,fH,aR,aY]) rfl rfl rfl rfl (by decide) (by rintro p hp;cases hp;simp [lp]) fun ents1 hm1=>?_
    repeat' first|refine go ?_|decide|refine sp ?_ ?_<;>intro _
    refine bw (UF (op:=l[k].op) r hgs.good ha (by omega)) (by assumption) (by simp [fc,fH,aR,aY]) rfl rfl rfl rfl (by decide) (by rintro p hp;cases hp;simp [lp]) fun ents2 hm2=>?_
    repeat' first|refine ge @Vk ?_|decide|refine sp ?_ ?_<;>intro _
    refine ⟨rfl,⟨by omega,by omega⟩,?_⟩;exact mb hlt (by rw [hnext];exact estep) hm2 (wS [0,8,9,12] @VI) (by simp only [ap,aj.get,bb,↓reduceIte,Nat.reduceLT,Nat.reduceEqDiff];omega)
   by_cases h2:aC l[k].op=2
   .have e1:(aC l[k].op == 1)=false:=(by simp [h1]);have e2:(aC l[k].op == 2)=true:=(by simp [h2])
    obtain ⟨r,a,b,rfl⟩:∃ r' a b,r=(r' ++ [a]) ++ [b]:=by
     have:2<=r.length:=by
      unfold cD at h4;rw [Vj (by omega),Vj (by omega)] at h4;by_cases hd:2<=r.length
      .exact hd
      .rw [Vj (by simp [hd])] at h4;cases h4
     exact ⟨r.dropLast.dropLast,gG r.dropLast,gG r,by
      rw [<- kz (r:=r.dropLast) (by simp;omega)];exact kz (by omega)⟩
    simp only [Vk,Vz] at hrl hrl2;have ha:In L a:=hgs.row a (by simp);have hb:In L b:=hgs.row b (by simp)
    have estep:ly (L,(r ++ [a]) ++ [b]) l[k]=((jD L l[k].op a b).1,r ++ [(jD L l[k].op a b).2]):=by
     unfold ly;rw [Vj h1,Vo h2];simp [gG]
    repeat' first|refine ge (kf e1 e2) ?_|decide|refine sp ?_ ?_<;>intro _
    refine bw (Kr (r ++ [a]) (by simp;omega)) (by assumption) (by simp [fc,fH,aR,aY]) rfl rfl rfl rfl (by decide) (fun p hp=>by cases hp) fun ents1 hm1=>?_
    repeat' first|refine go ?_|decide|refine sp ?_ ?_<;>intro _
    refine ay [0,5,6,7] [0,1,2,3,5] (.exec 4 (.exec 6 (.exec 7 .done))) (by kernel_rfl) (by simp [af.gc]) ?_
    repeat' first|refine go ?_|decide|refine sp ?_ ?_<;>intro _
    refine bw (Kr r (by omega)) (by assumption) (by simp [fc,fH,aR,aY]) rfl rfl rfl rfl (by decide) (by rintro p hp;cases hp;simp [lp]) fun ents2 hm2=>?_
    repeat' first|refine go ?_|decide|refine sp ?_ ?_<;>intro _
    refine bw (Uc (op:=l[k].op) r hgs.good ha hb (by omega)) (by assumption) (by simp [fc,fH,aR,aY]) rfl rfl rfl rfl (by decide) (by rintro p hp;cases hp;simp [lp]) fun ents3 hm3=>?_
    repeat' first|refine ge @Vk ?_|decide|refine sp ?_ ?_<;>intro _
    refine ⟨rfl,⟨by omega,by omega⟩,?_⟩;exact mb hlt (by rw [hnext];exact estep) hm3 (wS [0,11,12,15] @VI) (by simp only [ap,aj.get,bb,↓reduceIte,Nat.reduceLT,Nat.reduceEqDiff];omega)
   have e1:(aC l[k].op == 1)=false:=(by simp [h1]);have e2:(aC l[k].op == 2)=false:=(by simp [h2])
   have h15:1<=l[k].op /\ l[k].op<=14:=by
    unfold cD at h4;by_cases h0:aC l[k].op=0
    .exact Dh h0
    .rw [Vj h0,Vj (by simp [h1]),Vj (by simp [h2])] at h4;cases h4
   have estep:ly (L,r) l[k]=((bB L (tx l[k])).1,r ++ [(bB L (tx l[k])).2]):=by
    unfold ly;rw [Vj h1,Vj h2]
   repeat' first|refine ge (kf e1 e2) ?_|decide|refine sp ?_ ?_<;>intro _
   refine bw (IX r hgs.good hxk h15) (by assumption) (by simp [fc,fH,aR,aY]) rfl rfl rfl rfl (by decide) (fun p hp=>by cases hp) fun ents1 hm1=>?_
   repeat' first|refine ge @Vk ?_|decide|refine sp ?_ ?_<;>intro _
   refine ⟨rfl,⟨by omega,by omega⟩,?_⟩;exact mb hlt (by rw [hnext];exact estep) hm1 (wS [0,5,6,9] @VI) (by simp only [ap,aj.get,bb,↓reduceIte,Nat.reduceLT,Nat.reduceEqDiff];omega)
  .have hlt:¬ l.length<l.length:=(by omega);have hdep:=(mN hrow hx hlen.2 l.length (Vh _)).2;rw [Vq] at hrun hdep;rw [hrow,hrun] at hdep
   obtain ⟨x,rfl⟩:∃ x,r=[] ++ [x]:=by
    have h1:r.length=1:=by simpa using hdep.symm
    exact ⟨r[0],by
     apply XA (by simpa using h1);intro i h2 h3;have:i=0:=by omega
     subst this;rfl⟩
   rw [hrun]
   repeat' first|refine go ?_|simp only [ab,hlt]|decide|refine sp ?_ ?_<;>intro _
   refine ay [0,1,2] [0,1,2,4] (.two 3 (.exec 5 (.exec 6 (.exec 7 (.exec 8 .done)))) 5 (.exec 3 (.exec 6 (.exec 7 (.exec 8 .done))))) (by kernel_rfl) (by simp [af.gc]) ?_
   repeat' first|refine go ?_|decide|refine sp ?_ ?_<;>intro _
   refine ⟨?_,?_⟩
   all_goals
    refine En [1,2] (TW (L.map nU) ents [] (by simp)) (by simp [fc]) (by simp [af.gc,AV.renL,AV.ren]) ⟨⟨rfl,trivial⟩,⟨rfl,trivial⟩,trivial⟩ (by decide) (by rintro p hp;cases hp;simp [lp]) ?_;rintro av cells' objs' ⟨rfl,rfl,rfl⟩
    repeat' first|refine go ?_|simp only [jx,bS,AV.renL,AV.ren]|decide|refine sp ?_ ?_<;>intro _
    exact fM rfl
 .have ec:(bf (l.map ah.op) != 0)=true:=by simp [hc]
  have hr:nE l=⟨.tup [.c (.slice none 0 0),eI 0,eI 17],[],0⟩:=Vj hc;rw [hr]
  repeat' first|refine ge ec ?_|decide|refine sp ?_ ?_<;>intro _
  exact fM rfl
end
section
def rq (a:List Bool) (i:Int):Bool:=decide (0<=i) && a.getD i.toNat false
theorem gr (a:List Bool) (i:Nat):rq a (i:Int)=a.getD i false:=by simp [rq]
theorem S6 {a:List Bool} {i:Int} (h:rq a i=true):0<=i /\ i<(a.length:Int):=by
 simp only [rq,VB,VJ] at h;refine ⟨h.1,?_⟩;rcases Vw i.toNat a.length with h1|h1
 .omega
 .rw [List.getD,Vt h1] at h;simp at h
def n4 (next:List (List Int)) (i k:Nat):Prop:=(k:Int) ∈ next.getD i [] /\ k<next.length
def iw (n:Nat) (a:List Bool) (row:List Int):Bool:=row.any fun k=>decide (k<(n:Int)) && rq a k
def pA (next:List (List Int)) (a:List Bool):List Bool:=next.map (iw next.length a)
theorem sJ (next:List (List Int)) (a:List Bool):(pA next a).length=next.length:=by simp [pA]
theorem J6 (next:List (List Int)) (a:List Bool) (i:Nat):(pA next a).getD i false=true ↔ ∃ k,n4 next i k /\ a.getD k false=true:=by
 unfold pA iw n4;rw [List.getD,Ve];rcases Vw i next.length with h|h
 .rw [p0 h];simp only [VT,VG,XD,VB,VJ];have e:next.getD i []=next[i]:=by rw [List.getD,p0 h];rfl
  rw [e];refine ⟨fun ⟨k,h1,h2,h3⟩=>?_,fun ⟨k,⟨h1,h2⟩,h3⟩=>⟨(k:Int),h1,by omega,by rw [gr];exact h3⟩⟩;obtain ⟨m,rfl⟩:=XC (S6 h3).1;exact ⟨m,⟨h1,by omega⟩,by rw [<- gr];exact h3⟩
 .rw [Vt h];have e:next.getD i []=[]:=by rw [List.getD,Vt h];rfl
  rw [e];simp
inductive DW (next:List (List Int)) (a b:List Bool):Nat -> Prop
 | here (i:Nat):i<next.length -> b.getD i false=true -> DW next a b i
 | step (i k:Nat):i<next.length -> a.getD i false=true -> n4 next i k -> DW next a b k -> DW next a b i
def Kz (next:List (List Int)) (a:List Bool) (i:Nat):Prop:=∃ S:Nat -> Prop,S i /\ ∀ j,S j -> j<next.length /\ a.getD j false=true /\ ∃ k,n4 next j k /\ S k
open Classical in
noncomputable def ux (next:List (List Int)) (a b:List Bool):List Bool:=(List.range next.length).map fun i=>decide (DW next a b i)
open Classical in
noncomputable def EA (next:List (List Int)) (a:List Bool):List Bool:=(List.range next.length).map fun i=>decide (Kz next a i)
theorem cF (next:List (List Int)) (a b:List Bool):(ux next a b).length=next.length:=by simp [ux]
theorem dl (next:List (List Int)) (a:List Bool):(EA next a).length=next.length:=by simp [EA]
theorem DW.lt {next:List (List Int)} {a b:List Bool} {i:Nat} (h:DW next a b i):i<next.length:=by cases h<;>assumption
theorem Kz.lt {next:List (List Int)} {a:List Bool} {i:Nat} (h:Kz next a i):i<next.length:=by obtain ⟨S,h1,h2⟩:=h;exact (h2 i h1).1
theorem un (next:List (List Int)) (a b:List Bool) (i:Nat):(ux next a b).getD i false=true ↔ DW next a b i:=by
 unfold ux;rw [List.getD,Ve];rcases Vw i next.length with h|h
 .rw [V6 h];simp
 .rw [Vt (by simpa using h)];simp;exact fun hh=>by have:=hh.lt;omega
theorem w9 (next:List (List Int)) (a:List Bool) (i:Nat):(EA next a).getD i false=true ↔ Kz next a i:=by
 unfold EA;rw [List.getD,Ve];rcases Vw i next.length with h|h
 .rw [V6 h];simp
 .rw [Vt (by simpa using h)];simp;exact fun hh=>by have:=hh.lt;omega
theorem iy {a b:List Bool} (hl:a.length=b.length) (h:∀ i,i<a.length -> (a.getD i false=true ↔ b.getD i false=true)):a=b:=by
 apply XA hl;intro i h1 h2;have:=h i h1;rw [List.getD,p0 h1,List.getD,p0 h2] at this;simp at this
 first|exact this|exact Ws.2 this
def cnt (a:List Bool):Nat:=(a.filter id).length
theorem ns (a:List Bool):cnt a<=a.length:=List.length_filter_le _ _
theorem C5:∀ {a b:List Bool},a.length=b.length -> (∀ i,a.getD i false=true -> b.getD i false=true) -> a ≠ b -> cnt a<cnt b:=by
 intro a
 induction a with
 | nil=>intro b hl _ hne;cases b with
  | nil=>exact absurd rfl hne
  | cons y b=>simp at hl
 | cons x a ih=>
  intro b hl h hne
  cases b with
  | nil=>simp at hl
  | cons y b=>
   have h0:=h 0;have hs:∀ i,a.getD i false=true -> b.getD i false=true:=fun i hi=>by have:=h (i+1);simpa using this (by simpa using hi)
   simp at h0;by_cases e:a=b
   .subst e;have:x ≠ y:=fun e=>hne (by rw [e]);cases x<;>cases y<;>simp_all [cnt]
   .have:=ih (by simpa using hl) hs e;unfold cnt at this ⊢;cases x<;>cases y<;>simp_all<;>omega
theorem OM:∀ {a:List Bool},cnt a=a.length -> ∀ i,i<a.length -> a.getD i false=true:=by
 intro a
 induction a with
 | nil=>intro _ i hi;simp at hi
 | cons x a ih=>
  intro h i hi;have hc:=ns a
  cases x with
  | false=>
   have:cnt (false :: a)=cnt a:=by simp [cnt]
   rw [this] at h;simp at h;omega
  | true=>
   have:cnt (true :: a)=cnt a+1:=by simp [cnt]
   rw [this] at h
   cases i with
   | zero=>simp
   | succ i=>simpa using ih (by simpa using h) i (by simpa using hi)
def ni (next:List (List Int)) (a b out:List Bool):List Bool:=(List.range next.length).map fun i=>b.getD i false || (a.getD i false && (pA next out).getD i false)
theorem oz (next:List (List Int)) (a b out:List Bool):(ni next a b out).length=next.length:=by simp [ni]
theorem ti (next:List (List Int)) (a b out:List Bool) (i:Nat):(ni next a b out).getD i false=true ↔ i<next.length /\ (b.getD i false=true \/ (a.getD i false=true /\ ∃ k,n4 next i k /\ out.getD k false=true)):=by
 unfold ni;rw [List.getD,Ve];rcases Vw i next.length with h|h
 .rw [V6 h];simp only [VT,VG,Xl,VB,J6];exact ⟨fun hh=>⟨h,hh⟩,fun hh=>hh.2⟩
 .rw [Vt (by simpa using h)];simp;omega
def pc (next:List (List Int)) (a b:List Bool):Nat -> List Bool
 | 0=>List.replicate next.length false
 | m+1=>ni next a b (pc next a b m)
theorem gY (next:List (List Int)) (a b:List Bool):∀ m,(pc next a b m).length=next.length
 | 0=>by simp [pc]
 | m+1=>oz _ _ _ _
theorem qk (next:List (List Int)) (a b:List Bool):∀ m i,(pc next a b m).getD i false=true -> DW next a b i
 | 0,i,h=>by
  exfalso;rw [pc,List.getD,Wz] at h;split at h<;>simp at h
 | m+1,i,h=>by
  rw [pc,ti] at h;obtain ⟨h0,h⟩:=h;rcases h with h|⟨h1,k,h2,h3⟩
  .exact .here i h0 h
  .exact .step i k h0 h1 h2 (qk next a b m k h3)
theorem AB (next:List (List Int)) (a b:List Bool):∀ m i,(pc next a b m).getD i false=true -> (pc next a b (m+1)).getD i false=true
 | 0,i,h=>by
  exfalso;rw [pc,List.getD,Wz] at h;split at h<;>simp at h
 | m+1,i,h=>by
  rw [pc,ti] at h ⊢;obtain ⟨h0,h⟩:=h;refine ⟨h0,?_⟩;rcases h with h|⟨h1,k,h2,h3⟩
  .exact .inl h
  .exact .inr ⟨h1,k,h2,AB next a b m k h3⟩
theorem u9 (next:List (List Int)) (a b out:List Bool) (h:∀ i,i<next.length -> (b.getD i false=true \/ (a.getD i false=true /\ ∃ k,n4 next i k /\ out.getD k false=true)) -> out.getD i false=true):∀ i,DW next a b i -> out.getD i false=true:=by
 intro i hi
 induction hi with
 | here i h0 h1=>exact h i h0 (.inl h1)
 | step i k h0 h1 h2 _ ih=>exact h i h0 (.inr ⟨h1,k,h2,ih⟩)
theorem C0 (next:List (List Int)) (a b:List Bool) (m:Nat) (h:pc next a b (m+1)=pc next a b m):pc next a b (m+1)=ux next a b:=by
 refine iy (by rw [gY,cF]) fun i _=>?_;rw [un];refine ⟨qk next a b _ i,u9 next a b _ (fun i hi hh=>?_) i⟩;rw [pc,ti,<- h];exact ⟨hi,hh⟩
theorem Nq (next:List (List Int)) (a b:List Bool) (m:Nat) (h:next.length<=cnt (pc next a b m)):pc next a b m=ux next a b:=by
 refine iy (by rw [gY,cF]) fun i hi=>?_;rw [un];refine ⟨qk next a b _ i,fun _=>OM ?_ i hi⟩;have:=ns (pc next a b m);rw [gY] at this ⊢;omega
def j6 (next:List (List Int)) (out:List Bool):List Bool:=(List.range next.length).map fun i=>out.getD i false && (pA next out).getD i false
theorem oi (next:List (List Int)) (out:List Bool):(j6 next out).length=next.length:=by simp [j6]
theorem pj (next:List (List Int)) (out:List Bool) (i:Nat):(j6 next out).getD i false=true ↔ i<next.length /\ out.getD i false=true /\ ∃ k,n4 next i k /\ out.getD k false=true:=by
 unfold j6;rw [List.getD,Ve];rcases Vw i next.length with h|h
 .rw [V6 h];simp only [VT,VG,VB,J6];exact ⟨fun hh=>⟨h,hh⟩,fun hh=>hh.2⟩
 .rw [Vt (by simpa using h)];simp;omega
def n7 (next:List (List Int)) (a:List Bool):Nat -> List Bool
 | 0=>(List.range next.length).map fun i=>a.getD i false
 | m+1=>j6 next (n7 next a m)
theorem eQ (next:List (List Int)) (a:List Bool):∀ m,(n7 next a m).length=next.length
 | 0=>by simp [n7]
 | m+1=>oi _ _
theorem me (next:List (List Int)) (a:List Bool) (i:Nat):(n7 next a 0).getD i false=true ↔ i<next.length /\ a.getD i false=true:=by
 rw [n7,List.getD,Ve];rcases Vw i next.length with h|h
 .rw [V6 h];simp [h]
 .rw [Vt (by simpa using h)];simp;omega
theorem r5 (next:List (List Int)) (a:List Bool):∀ m i,Kz next a i -> (n7 next a m).getD i false=true
 | 0,i,h=>by
  obtain ⟨S,h1,h2⟩:=h;obtain ⟨h3,h4,_⟩:=h2 i h1;exact (me next a i).2 ⟨h3,h4⟩
 | m+1,i,h=>by
  rw [n7,pj];obtain ⟨S,h1,h2⟩:=h;obtain ⟨h3,h4,k,h5,h6⟩:=h2 i h1;exact ⟨h3,r5 next a m i ⟨S,h1,h2⟩,k,h5,r5 next a m k ⟨S,h6,h2⟩⟩
theorem J3 (next:List (List Int)) (a:List Bool):∀ m i,(n7 next a m).getD i false=true -> i<next.length /\ a.getD i false=true
 | 0,i,h=>(me next a i).1 h
 | m+1,i,h=>by
  rw [n7,pj] at h;exact J3 next a m i h.2.1
theorem u8 (next:List (List Int)) (a out:List Bool) (h:∀ i,out.getD i false=true -> i<next.length /\ a.getD i false=true /\ ∃ k,n4 next i k /\ out.getD k false=true):∀ i,out.getD i false=true -> Kz next a i:=
 fun i hi=>⟨fun j=>out.getD j false=true,hi,fun j hj=>h j hj⟩
theorem BX (next:List (List Int)) (a:List Bool) (m:Nat) (h:n7 next a (m+1)=n7 next a m):n7 next a (m+1)=EA next a:=by
 refine iy (by rw [eQ,dl]) fun i _=>?_;rw [w9];refine ⟨u8 next a _ (fun i hi=>?_) i,r5 next a _ i⟩;have h1:=J3 next a _ i hi;rw [h] at hi ⊢;rw [<- h,n7,pj] at hi;exact ⟨h1.1,h1.2,hi.2.2⟩
theorem KA (next:List (List Int)) (a:List Bool) (m:Nat) (h:n7 next a (m+1) ≠ n7 next a m):cnt (n7 next a (m+1))<cnt (n7 next a m):=
 C5 (by rw [eQ,eQ]) (fun i hi=>by rw [n7,pj] at hi;exact hi.2.1) h
theorem KQ (next:List (List Int)) (a b:List Bool) (m:Nat) (h:pc next a b (m+1) ≠ pc next a b m):cnt (pc next a b m)<cnt (pc next a b (m+1)):=
 C5 (by rw [gY,gY]) (AB next a b m) (fun e=>h e.symm)
def ld (a b:List Bool):List Bool:=(List.range (max a.length b.length)).map fun i=>a.getD i false && b.getD i false
theorem ia (a b:List Bool) (i:Nat):(ld a b).getD i false=(a.getD i false && b.getD i false):=by
 unfold ld;rw [List.getD,Ve];rcases Vw i (max a.length b.length) with h|h
 .rw [V6 h];rfl
 .rw [Vt (by simpa using h),List.getD,Vt (by omega)];rfl
end
end
end Go.Proofs.YtmmoidfcfjklaaaGreat
