/-
  Parts of the proof: Ctp24, Ctp25, Ctp26, Ctp27, Ctp28, Ctp29, Ctp30.
-/
import Derived.Test.YtmmoidfcfjklaaaGreatCtq8
set_option linter.unusedVariables false
set_option linter.unusedSimpArgs false
set_option linter.defProp false
set_option maxRecDepth 100000
set_option maxHeartbeats 16000000
namespace Go.Proofs.YtmmoidfcfjklaaaGreat
open Go.RowKit
section
section
theorem T2 : (Tryz.prog.fieldsOf 213).toList.map (fun f => (f.name, f.type, f.offset)) = [("Attrs", 3, 0), ("Const", 3, 1)] := by kernel_rfl
theorem RS (op:BinOp) (hop:op=.eql \/ op=.neq) (a b:fQ):tA Tryz.prog op 213 (.agg #[.int .i64 a.attrs,.int .i64 a.const]) (.agg #[.int .i64 b.attrs,.int .i64 b.const]) (.bool (if op matches .eql then (a.attrs == b.attrs && a.const == b.const) else !(a.attrs == b.attrs && a.const == b.const))):=by
 have ht:=T2
 obtain ⟨f,g,hfs⟩:∃ f g,(Tryz.prog.fieldsOf 213).toList=[f,g]:=by
  generalize (Tryz.prog.fieldsOf 213).toList=l at ht ⊢
  cases l with
  | nil=>simp at ht
  | cons f l=>cases l with
   | nil=>simp at ht
   | cons g l=>cases l with
    | nil=>exact ⟨f,g,rfl⟩
    | cons h l=>simp at ht
 rw [hfs] at ht;simp only [VY,VP,List.cons.injEq,Prod.mk.injEq,and_true] at ht;obtain ⟨⟨h1,h2,h3⟩,h4,h5,h6⟩:=ht;refine uZ [(.int .i64 a.attrs,.int .i64 b.attrs),(.int .i64 a.const,.int .i64 b.const)] (by kernel_rfl) (by kernel_rfl) (by kernel_rfl) (by rw [hfs];rfl) (fun k f' p hk hp=>?_) (by simp [my,sj]) hop;rw [hfs] at hk
 match k,hk,hp with
 | 0,hk,hp=>
  cases hk;cases hp;refine ⟨by rw [h1];decide,?_,by rw [h3];rfl,by rw [h3];rfl⟩;rw [h2]
  kernel_rfl
 | 1,hk,hp=>
  cases hk;cases hp;refine ⟨by rw [h4];decide,?_,by rw [h6];rfl,by rw [h6];rfl⟩;rw [h5]
  kernel_rfl
 | k+2,hk,hp=>simp at hk
instance:DecidableEq fQ:=fun a b=>decidable_of_iff (a.attrs=b.attrs /\ a.const=b.const) (by cases a;cases b;simp)
theorem Ut (x y:fQ):tA Tryz.prog .neq 213 (.agg #[.int .i64 x.attrs,.int .i64 x.const]) (.agg #[.int .i64 y.attrs,.int .i64 y.const]) (.bool (decide (x ≠ y))):=by
 have h:=RS .neq (.inr rfl) x y
 have e:decide (x ≠ y) = !(x.attrs == y.attrs && x.const == y.const):=by
  rw [Wo];cases x;cases y;simp
 rw [e];exact h
theorem PX {a b:Zn} (h1:a.cls=b.cls) (h2:a.gaps=b.gaps):a=b:=by
 cases a;cases b;simp at h1 h2;rw [h1,h2]
theorem vl {α:Type} {a b:List α} (hl:a.length=b.length) (h:∀ i (h1:i<a.length) (h2:i<b.length),a[i]=b[i]):a=b:=Xw hl h
theorem D7 (a b:Zn) (h1:a.cls.length<=1000000) (h2:a.gaps.length<=1000000):dt Tryz.prog 125 [.agg (cu a),.agg (cu b)] fun R=>∃ t,R=val (.bool t) /\ (t=true ↔ a=b):=by
 refine bm ag Tryz.func125 rfl (by decide) Tryz.ntmps125 Tryz.results125 rfl ?_;have no1:a.cls.length ≠ b.cls.length -> ¬ a=b:=fun h e=>h (by rw [e]);have no2:a.gaps.length ≠ b.gaps.length -> ¬ a=b:=fun h e=>h (by rw [e]);by_cases hl1:a.cls.length=b.cls.length
 .have d1:((a.cls.length:Int) != (b.cls.length:Int))=false:=by simp [hl1]
  by_cases hl2:a.gaps.length=b.gaps.length
  .have d2:((a.gaps.length:Int) != (b.gaps.length:Int))=false:=by simp [hl2]
   repeat' first|refine gf (kf d1 d2) ?_|decide|refine sp ?_ ?_<;>intro _
   refine af (fun st=>∃ k:Nat,k<=a.cls.length /\ (∀ i (h1:i<a.cls.length) (h2:i<b.cls.length),i<k -> a.cls[i]=b.cls[i]) /\ st=⟨59,[(2,.op 0 0 0),(3,.op 1 0 0),(5,eI (k:Int))],[(0,some (.box 91 (cu a))),(1,some (.box 91 (cu b)))],2⟩) (fun st=>a.cls.length - ax st 5) ⟨_,wC,0,Vg _,fun i _ _ h=>by omega,rfl⟩ ?_;rintro _ ⟨k,hk,hs,rfl⟩;by_cases hlt:k<a.cls.length
   .have hlt2:k<b.cls.length:=(by omega);have hB:=Ut a.cls[k] b.cls[k];by_cases hxy:a.cls[k]=b.cls[k]
    .rw [Vu (by simpa using hxy)] at hB;obtain ⟨x,hx⟩:∃ x,a.cls[k]=x:=⟨_,rfl⟩;obtain ⟨y,hy⟩:∃ y,b.cls[k]=y:=⟨_,rfl⟩;rw [hx,hy] at hB
     repeat' first|refine gq ?_|simp only [ab,hlt,hlt2,hx,hy]|decide|refine sp ?_ ?_<;>intro _
     all_goals refine ⟨_,hB,?_⟩
     all_goals (repeat' (first|refine gq ?_|decide|refine sp ?_ ?_<;>intro _))
     all_goals exact cU wC ⟨k+1,by omega,fun i h1 h2 h3=>(by
      rcases Vv i k with h|h
      .exact hs i h1 h2 h
      .obtain rfl:i=k:=by omega
       exact hxy),rfl⟩ (by simp only [ax,jn,aj.get,bh,aj.put,↓reduceIte,reduceCtorEq,Nat.reduceLT,Nat.reduceEqDiff,Nat.reduceAdd,Nat.reduceLeDiff,eq_self,implies_true];omega)
    .rw [VC hxy] at hB;have hno:¬ a=b:=fun e=>hxy (by subst e;rfl);obtain ⟨x,hx⟩:∃ x,a.cls[k]=x:=⟨_,rfl⟩;obtain ⟨y,hy⟩:∃ y,b.cls[k]=y:=⟨_,rfl⟩;rw [hx,hy] at hB
     repeat' first|refine gq ?_|simp only [ab,hlt,hlt2,hx,hy]|decide|refine sp ?_ ?_<;>intro _
     all_goals refine ⟨_,hB,?_⟩
     all_goals (repeat' (first|refine gq ?_|decide|refine sp ?_ ?_<;>intro _))
     all_goals exact cI ⟨false,rfl,by simp;exact hno⟩
   .have hcls:a.cls=b.cls:=vl hl1 fun i h1 h2=>hs i h1 h2 (by omega)
    repeat' first|refine gf @hlt ?_|decide|refine sp ?_ ?_<;>intro _
    refine af (fun st=>∃ k:Nat,k<=a.gaps.length /\ (∀ i (h1:i<a.gaps.length) (h2:i<b.gaps.length),i<k -> a.gaps[i]=b.gaps[i]) /\ st=⟨59,[(2,.op 0 0 0),(3,.op 1 0 0),(6,eI (k:Int))],[(0,some (.box 91 (cu a))),(1,some (.box 91 (cu b)))],2⟩) (fun st=>a.gaps.length - ax st 6) ⟨_,wC,0,Vg _,fun i _ _ h=>by omega,rfl⟩ ?_;rintro _ ⟨k,hk,hs2,rfl⟩;by_cases hlt2:k<a.gaps.length
    .have hlt3:k<b.gaps.length:=(by omega);by_cases hxy:a.gaps[k]=b.gaps[k]
     .have d3:(a.gaps[k] != b.gaps[k])=false:=by simpa using hxy
      repeat' first|refine gq ?_|simp only [ab,hlt2,hlt3,d3]|decide|refine sp ?_ ?_<;>intro _
      all_goals exact cU wC ⟨k+1,by omega,fun i h1 h2 h3=>(by
       rcases Vv i k with h|h
       .exact hs2 i h1 h2 h
       .obtain rfl:i=k:=by omega
        exact hxy),rfl⟩ (by simp only [ax,jn,aj.get,bh,aj.put,↓reduceIte,reduceCtorEq,Nat.reduceLT,Nat.reduceEqDiff,Nat.reduceAdd,Nat.reduceLeDiff,eq_self,implies_true];omega)
     .have d3:(a.gaps[k] != b.gaps[k])=true:=(by simpa using hxy);have hno:¬ a=b:=fun e=>hxy (by subst e;rfl)
      repeat' first|refine gq ?_|simp only [ab,hlt2,hlt3,d3]|decide|refine sp ?_ ?_<;>intro _
      all_goals exact cI ⟨false,rfl,by simp;exact hno⟩
    .have hgaps:a.gaps=b.gaps:=vl hl2 fun i h1 h2=>hs2 i h1 h2 (by omega)
     repeat' first|refine gf @hlt2 ?_|decide|refine sp ?_ ?_<;>intro _
     all_goals exact cI ⟨true,rfl,by simp;exact PX hcls hgaps⟩
  .have d2:((a.gaps.length:Int) != (b.gaps.length:Int))=true:=by simp;omega
   repeat' first|refine gf (kf d1 d2) ?_|decide|refine sp ?_ ?_<;>intro _
   exact cI ⟨false,rfl,by simp;exact no2 hl2⟩
 .have d1:((a.cls.length:Int) != (b.cls.length:Int))=true:=by simp;omega
  repeat' first|refine gf d1 ?_|decide|refine sp ?_ ?_<;>intro _
  exact cI ⟨false,rfl,by simp;exact no1 hl1⟩
end
section
def Us (a b:Int):Int:=bits .and .i64 a b
def Fe (l:List fQ):Int:=l.foldl (fun a x=>UU a x.attrs) 0
def fB (l:List fQ):Nat:=l.countP fun x=>!(x.const == -1)
theorem E1 (l:List fQ) (x:fQ):Fe (l ++ [x])=UU (Fe l) x.attrs:=by simp [Fe]
theorem tM (l:List fQ) (x:fQ):fB (l ++ [x])=fB l+(if x.const = -1 then 0 else 1):=by
 unfold fB;rw [List.countP_append];by_cases h:x.const = -1<;>simp [h]
theorem IP (l:List fQ):fB l<=l.length:=List.countP_le_length
def Io (l:List fQ) (x:fQ):Prop:=0<=x.attrs /\ Us x.attrs (Fe l)=0 /\ ¬ (x.attrs=0 /\ x.const = -1) /\ (x.const = -1 \/ x.const=(fB l:Int))
def rJ (l:List fQ) (n k:Int):Prop:=(∀ i (h:i<l.length),Io (l.take i) l[i]) /\ Fe l=jG n /\ (fB l:Int)=k
end
section
theorem lM {P:Program} {f:FuncId} {args:List AV} {Q:Prop} (h:dt P f args fun R=>∃ b,R=val (.bool b) /\ (b=true ↔ Q)):∃ t:Bool,(t=true ↔ Q) /\ aw P f args (val (.bool t)):=by
 by_cases hQ:Q
 .exact ⟨true,by simp [hQ],h.mono fun R ⟨b,h1,h2⟩=>by rw [h1,h2.2 hQ]⟩
 .exact ⟨false,by simp [hQ],h.mono fun R ⟨b,h1,h2⟩=>by
   cases b with
   | true=>exact absurd (h2.1 rfl) hQ
   | false=>exact h1⟩
def xr (z:Zn) (cap:Int):Prop:=(z.gaps.length:Int)=max ((z.cls.length:Int) - 1) 0 /\ ∀ i (h:i<z.gaps.length),0<=z.gaps[i] /\ z.gaps[i]<=cap
def mO (l:List fQ) (k:Nat):List Nat:=(List.range k).filter fun i=>decide (0<=(l[i]?.map (·.const)).getD (-1))
theorem mr (l:List fQ) {k:Nat} (hk:k<l.length):mO l (k+1)=if 0<=l[k].const then mO l k ++ [k] else mO l k:=by
 unfold mO;rw [Wu,List.filter_append];by_cases h:0<=l[k].const
 .rw [Vn h];simp [f4 hk,h]
 .rw [Vh h];simp [f4 hk];omega
def dr (z:Zn) (p q:Nat):List Int:=(z.gaps.take q).drop p
def n4 (z:Zn) (p q:Nat) (cap a b:Int):Prop:=
 oQ a b ((q:Int) - p - 1+(dr z p q).sum+1)=(q:Int) - p - 1+(dr z p q).sum \/ ((∃ g ∈ dr z p q,g=cap) /\ (q:Int) - p - 1+(dr z p q).sum<oQ a b ((q:Int) - p - 1+(dr z p q).sum+1))
theorem JQ (cap:Int) (hc:0<=cap):∀ l:List Int,(∀ g ∈ l,0<=g /\ g<=cap) -> 0<=l.sum /\ l.sum<=cap * l.length
 | [],_=>by simp
 | g :: l,h=>by
  have h1:=JQ cap hc l fun x hx=>h x (VT _ hx);have h2:=h g (V1 ..);rw [XN,VI,WV,Int.mul_add];omega
end
section
deriving instance DecidableEq for fQ
deriving instance DecidableEq for Zn
def ch {α:Type} [DecidableEq α] (l:List α):List α:=l.foldl (fun o x=>if x ∈ o then o else o ++ [x]) []
theorem kK {α:Type} [DecidableEq α] {l:List α} {k:Nat} (hk:k<l.length):ch (l.take (k+1))=if l[k] ∈ ch (l.take k) then ch (l.take k) else ch (l.take k) ++ [l[k]]:=by
 unfold ch;rw [Vk hk,Wh];rfl
theorem ml {α:Type} [DecidableEq α] (l:List α):∀ k,k<=l.length -> (ch (l.take k)).length<=k /\ ∀ x ∈ ch (l.take k),x ∈ l
 | 0,_=>by simp [ch]
 | k+1,hk=>by
  obtain ⟨h1,h2⟩:=ml l k (by omega);rw [kK (by omega)];split
  .exact ⟨by omega,h2⟩
  .refine ⟨by rw [Vi,Vy];omega,fun x hx=>?_⟩;rcases Vp.1 hx with h|h
   .exact h2 x h
   .simp only [VF] at h;rw [h];exact Vf _
theorem mm {α:Type} [DecidableEq α] (l:List α) (x:α):x ∈ ch l ↔ x ∈ l:=by
 constructor
 .intro h;have:=(ml l l.length (Os _)).2 x;rw [Vq] at this;exact this h
 .intro h
  have key:∀ k,k<=l.length -> ∀ y ∈ l.take k,y ∈ ch (l.take k):=fun k=>by
   induction k with
   | zero=>intro _ y hy;simp at hy
   | succ k ih=>
    intro hk y hy;rw [kK (by omega)];rw [Vk (by omega)] at hy;rcases Vp.1 hy with h1|h1
    .have:=ih (by omega) y h1;split
     .exact this
     .exact List.mem_append_left _ this
    .simp only [VF] at h1;subst h1;split
     .assumption
     .simp
  have:=key l.length (Os _) x (by rw [Vq];exact h)
  rwa [Vq] at this
theorem mn {α:Type} [DecidableEq α] (l:List α):(ch l).length<=l.length:=by
 have:=(ml l l.length (Os _)).1
 rwa [Vq] at this
theorem S4 (l:List Zn) (z:Zn) (hll:l.length<=2700000000000) (hl:∀ y ∈ l,y.cls.length<=1000000 /\ y.gaps.length<=1000000):aw Tryz.prog 152 [.sl 2 (l.map cu),.agg (cu z)] (val (.bool (decide (z ∈ l)))):=by
 refine aa ag Tryz.func152 rfl (by decide) Tryz.ntmps152 Tryz.results152 rfl (aL _) ?_
 repeat' first|refine go ?_|decide|refine sp ?_ ?_<;>intro _
 refine af (fun st=>∃ k:Nat,k<=l.length /\ z ∉ l.take k /\ st=⟨18,[(0,.sl 2 (l.map cu)),(3,.op 0 0 0),(5,eI (k:Int))],[(0,some (.box 91 (cu z)))],1⟩) (fun st=>l.length - ax st 5) ⟨_,wC,0,Vg _,by simp,rfl⟩ ?_;rintro _ ⟨k,hk,hI,rfl⟩;by_cases hlt:k<l.length
 .obtain ⟨x,hx⟩:∃ x,x=l[k]:=⟨_,rfl⟩;have hrow:(l.map cu)[k]?.getD []=cu x:=by rw [hx];simp [hlt]
  obtain ⟨g1,g2⟩:=hl x (hx ▸ Vf hlt);obtain ⟨t,ht,hS⟩:=lM (D7 x z g1 g2);have hm:z ∈ l.take (k+1) ↔ z ∈ l.take k \/ z=x:=by rw [Vk hlt,Vp,VF,hx]
  cases t with
  | true=>
   have e:=ht.1 rfl;have hmem:z ∈ l:=by rw [<- e,hx];exact Vf hlt
   rw [VC hmem]
   repeat' first|refine gf (kf @hrow @hlt) ?_|decide|refine sp ?_ ?_<;>intro _|refine cA hS ?_|fail
  | false=>
   have hne:¬ x=z:=fun e=>by have:=ht.2 e;cases this
   repeat' first|refine gf (kf @hrow @hlt) ?_|decide|refine sp ?_ ?_<;>intro _|refine cA hS ?_|fail
   all_goals exact rI wC ⟨k+1,by omega,fun h=>(hm.1 h).elim hI fun e=>hne e.symm,rfl⟩
 .obtain rfl:k=l.length:=by omega
  rw [Vq] at hI;rw [Vu hI]
  repeat' first|refine gf @hlt ?_|decide|refine sp ?_ ?_<;>intro _
theorem MZ (l:List Zn) (hl:∀ y ∈ l,y.cls.length<=1000000 /\ y.gaps.length<=1000000) (hll:l.length<=2700000000000):aw Tryz.prog 118 [.sl 2 (l.map cu)] (iZ 91 2 ((ch l).map cu)):=by
 refine aa ag Tryz.func118 rfl (by decide) Tryz.ntmps118 Tryz.results118 rfl (cT _ _ _) ?_
 repeat' first|refine go ?_|decide|refine sp ?_ ?_<;>intro _
 refine af (fun st=>∃ k:Nat,k<=l.length /\ st=⟨26,[(0,.sl 2 (l.map cu)),(3,.osl 0),(4,eI (k:Int))],[(0,some (.row 91 2 ((ch (l.take k)).map cu)))],1⟩) (fun st=>l.length - ax st 4) ⟨_,((bA 3 91 2 (by simp only [jn,aj.get,bh,aj.put,↓reduceIte,reduceCtorEq,Nat.reduceLT,Nat.reduceEqDiff,Nat.reduceAdd,Nat.reduceLeDiff,eq_self,implies_true,VA,ch,Wr,VP])).trans (wS [0] (kf @VA (kf @ch.eq_1 @Wr)))),0,Vg _,rfl⟩ ?_;rintro _ ⟨k,hk,rfl⟩;by_cases hlt:k<l.length
 .obtain ⟨x,hx⟩:∃ x,x=l[k]:=⟨_,rfl⟩;have hrow:(l.map cu)[k]?.getD []=cu x:=by rw [hx];simp [hlt]
  have hs:=kK hlt;obtain ⟨g1,g2⟩:=ml l k hk;obtain ⟨U,hU⟩:∃ U,U=ch (l.take k):=⟨_,rfl⟩;rw [<- hU,<- hx] at hs;rw [<- hU] at g1 g2 ⊢;have hH:=S4 U x (by omega) fun y hy=>hl y (g2 y hy);by_cases hm:x ∈ U
  .rw [Vn hm] at hs;rw [VC hm] at hH
   repeat' first|refine gf (kf @hrow @hlt) ?_|decide|refine sp ?_ ?_<;>intro _|refine cA hH ?_|fail
   all_goals exact rI (wE hs) ⟨k+1,by omega,rfl⟩
  .rw [Vh hm] at hs;rw [Vu hm] at hH;have et:(ch (l.take (k+1))).map cu=U.map cu ++ [cu x]:=by rw [hs];simp
   repeat' first|refine gf (kf @hrow @hlt) ?_|decide|refine sp ?_ ?_<;>intro _|refine cA hH ?_|(with_reducible apply And.intro)
   all_goals first
    | rfl
    | omega
    | exact rI (wS [2] et) ⟨k+1,by omega,rfl⟩
 .obtain rfl:k=l.length:=by omega
  repeat' first|refine gf (kf @hlt @Vq) ?_|decide|refine sp ?_ ?_<;>intro _
  exact aY (by simp [ae.gc])
def t8 (z:Zn) (l:List Int) (r:Int):Nat -> List Zn
 | 0=>[z]
 | i+1=>ch ((t8 z l r i).flatMap fun o=>jk (fp o (l.getD i 0) (r - i)) (l.getD i 0) (r - i))
def OO:Nat -> Nat
 | 4=>1316
 | 3=>348
 | 2=>104
 | _=>42
def Qf:Nat -> Nat
 | 0=>1
 | r+1=>OO (r+1) * Qf r
theorem gU {α β:Type} (f:α -> List β) (b:Nat):∀ l:List α,(∀ x ∈ l,(f x).length<=b) -> (l.flatMap f).length<=l.length * b
 | [],_=>by simp
 | x :: l,h=>by
  have h1:=gU f b l fun y hy=>h y (VT _ hy);have h2:=h x V1;rw [Ww,Vi,VI,Xh];omega
theorem MX {r:Int} (h:r<=4) (h1:1<=r):(r=4 -> (cR (r - 1)).toNat=7) /\ (r=3 -> (cR (r - 1)).toNat=3) /\ (r=2 -> (cR (r - 1)).toNat=1) /\ (r=1 -> (cR (r - 1)).toNat=0):=
 ⟨fun e=>by rw [e];decide,fun e=>by rw [e];decide,fun e=>by rw [e];decide,fun e=>by rw [e];decide⟩
theorem zK (z:Zn) (a:Int) {r:Int} (hz:z.cls.length<=20) (hr:r<=4):(jk z a r).length<=if r<1 then 0 else OO r.toNat:=by
 unfold jk;split
 .exact Vg _
 .rename_i hb;have h1:¬ r<1:=fun h=>hb (.inl h);rw [Vh h1];have hlo:=MX hr (by omega);have hB:=sk z a r z.cls.length;split
  .exact Vg _
  .split
   .have:1<=OO r.toNat:=by unfold OO;split<;>omega
    simpa using this
   .rw [Vi,Vi,tB,AM];have h4:r=4 \/ r=3 \/ r=2 \/ r=1:=(by omega);rcases h4 with e|e|e|e
    .rw [hlo.1 e] at hB ⊢;have:=VD (1+(7+1) * (7+1)) hz;subst e;show _<=1316;omega
    .rw [hlo.2.1 e] at hB ⊢;have:=VD (1+(3+1) * (3+1)) hz;subst e;show _<=348;omega
    .rw [hlo.2.2.1 e] at hB ⊢;have:=VD (1+(1+1) * (1+1)) hz;subst e;show _<=104;omega
    .rw [hlo.2.2.2 e] at hB ⊢;have:=VD (1+(0+1) * (0+1)) hz;subst e;show _<=42;omega
theorem DC:∀ r,1<=Qf r
 | 0=>Os _
 | r+1=>by
  have h1:=DC r;have h2:1<=OO (r+1):=by unfold OO;split<;>omega
  rw [Qf];exact Xk h2 h1
def UQ (N:Nat) (l:List Zn):Prop:=∀ y ∈ l,mU N y
theorem ry {N:Nat} (a r:Int):∀ (n:Nat) (z:Zn) (i:Nat),mU N z -> z.gaps.length=z.cls.length - 1 -> mU N (DN a r n z i) /\ (DN a r n z i).cls.length<=z.cls.length /\ (DN a r n z i).gaps.length=(DN a r n z i).cls.length - 1
 | 0,z,i,h,hg=>⟨h,Os _,hg⟩
 | n+1,z,i,h,hg=>by
  rw [DN];split
  .exact ⟨h,Os _,hg⟩
  .rename_i hi;split
   .exact ry a r n z (i+1) h hg
   .have hc:=Du z a i;have hB:mU N (rk z a i):=⟨by rw [hc];exact h.cl,h.ga,IJ a i h.at_⟩;split
    .obtain ⟨w1,w2⟩:=ye (rk z a i) i r (by rw [hc];omega);have hm:=rL (rk z a i) i r _ (Os _);rw [hc] at w1 w2 hm;have hcl:=h.cl;obtain ⟨k1,k2,k3⟩:=ry (N:=N) a r n (mP (rk z a i) i r z.cls.length) i ⟨by rw [w1];omega,by rw [w2];omega,fun x hx=>hB.at_ x (hm x hx)⟩ (by rw [w1,w2]);rw [w1] at k2;exact ⟨k1,by omega,k3⟩
    .obtain ⟨k1,k2,k3⟩:=ry a r n (rk z a i) (i+1) hB (by rw [hc];exact hg);exact ⟨k1,by omega,k3⟩
theorem oE {N:Nat} {z:Zn} (a r:Int) (h:mU N z):mU N (fp z a r) /\ (fp z a r).cls.length<=z.cls.length:=by
 unfold fp;split
 .rename_i hg;obtain ⟨k1,k2,_⟩:=ry a r z.cls.length z 0 h (by omega);exact ⟨k1,k2⟩
 .exact ⟨h,Os _⟩
theorem r6 (s i:Int):aI (dK s i):=dl (pe s i)
theorem vT {N:Nat} {z:Zn} (a:Int) (at_:Nat) (r:Int) (ahead:Nat) (come:List Int) (behind:Nat) (h:mU N z) (hat:at_<=z.cls.length) (hg:(ahead+come.length)+(z.gaps.length - behind)<=N+1) (hah:ahead<=z.gaps.length):mU (N+1) (iY z a at_ r ahead come behind):=by
 have hcl:=h.cl;refine ⟨?_,?_,fun x hx=>?_⟩
 .simp only [iY,Vi,VI,Vr,Wa];omega
 .have:(oA z r).length=z.gaps.length:=by simp [oA]
  simp only [iY,Vi,Vr,Wa];omega
 .rcases Vp.1 hx with h1 | h1
  .exact h.at_ x (VQ h1)
  .rcases V8.1 h1 with h2 | h2
   .rw [h2];exact r6 _ _
   .exact h.at_ x (Wp h2)
theorem Ph {N:Nat} {z:Zn} (a:Int) (i:Nat) (r:Int) (h:mU N z):mU (N+1) (BW z a i r):=by
 have hcl:=h.cl;have hga:=h.ga;refine ⟨by simp [BW];omega,by simp [BW,oA];omega,fun x hx=>?_⟩;rcases Wj hx with h1|h1
 .exact h.at_ x h1
 .rw [h1];exact r6 _ _
theorem z7 {N:Nat} {z:Zn} (a r:Int) (h:mU N z) (hg:z.gaps.length=z.cls.length - 1):∀ i,i<=z.cls.length -> ∀ y ∈ jm z a r i,mU (N+1) y
 | 0,_,y,hy=>by simp [jm] at hy
 | i+1,hi,y,hy=>by
  have hcl:=h.cl;rw [jm] at hy;rcases Vp.1 hy with h1|h1
  .exact z7 a r h hg i (by omega) y h1
  .split at h1
   .rcases V8.1 h1 with h2 | h2
    .rw [h2];exact Ph a i r h
    .obtain ⟨p,_,rfl⟩:=Vt.1 h2;exact vT a _ r _ _ _ h (by omega) (by simp only [VI,Wt];omega) (by omega)
   .simp only [VF] at h1;rw [h1];exact Ph a i r h
theorem Jn {N:Nat} {z:Zn} (a r:Int) (h:mU N z):∀ y ∈ jk z a r,mU (N+1) y:=by
 have hcl:=h.cl;intro y hy;unfold jk at hy;split at hy
 .simp at hy
 .rename_i hb;have hg:z.gaps.length=z.cls.length - 1:=by omega
  split at hy
  .simp at hy
  .split at hy
   .rename_i h0;simp only [VF] at hy;rw [hy];exact vT a _ r _ _ _ h (Vg _) (by simp;omega) (Vg _)
   .rename_i h0;rcases Vp.1 hy with h1|h1
    .rcases Vp.1 h1 with h2 | h2
     .obtain ⟨j,_,rfl⟩:=Vt.1 h2;exact vT a _ r _ _ _ h (Vg _) (by simp;omega) (Vg _)
     .exact z7 a r h hg _ (Os _) y h2
    .obtain ⟨j,_,rfl⟩:=Vt.1 h1;exact vT a _ r _ _ _ h (Os _) (by simp;omega) (by omega)
theorem DR {N:Nat} {z:Zn} (l:List Int) {r:Int} (h:mU N z) (hr:r<=4):∀ i,N+i<=20 -> UQ (N+i) (t8 z l r i) /\ (t8 z l r i).length * Qf (r - i).toNat<=Qf r.toNat
 | 0,_=>by
  refine ⟨fun y hy=>?_,?_⟩
  .simp only [t8,VF] at hy;rw [hy];exact h
  .simp [t8]
 | i+1,hi=>by
  obtain ⟨h1,h2⟩:=DR l h hr i (by omega)
  have hf:∀ o ∈ t8 z l r i,(jk (fp o (l.getD i 0) (r - i)) (l.getD i 0) (r - i)).length<=if r - i<1 then 0 else OO (r - i).toNat:=fun o ho=>by
   have hd:=(oE (l.getD i 0) (r - i) (h1 o ho)).1.cl;exact zK _ _ (by omega) (by omega)
  refine ⟨fun y hy=>?_,?_⟩
  .rw [t8,mm,V6] at hy;obtain ⟨o,ho,hy⟩:=hy;exact Jn _ _ (oE _ _ (h1 o ho)).1 y hy
  .have h3:=mn ((t8 z l r i).flatMap fun o=>jk (fp o (l.getD i 0) (r - i)) (l.getD i 0) (r - i));have h4:=gU _ _ _ hf;rw [t8];by_cases hc:r - (i:Int)<1
   .rw [Vn hc] at h4;have h5:(ch ((t8 z l r i).flatMap fun o=>jk (fp o (l.getD i 0) (r - i)) (l.getD i 0) (r - i))).length=0:=(by omega);rw [h5,Xf];exact Vg _
   .rw [Vh hc] at h4;obtain ⟨q,hq⟩:∃ q:Nat,(r - (i:Int)).toNat=q+1:=⟨(r - (i:Int)).toNat - 1,by omega⟩;have hq2:(r - ((i+1:Nat):Int)).toNat=q:=(by omega);rw [hq2];rw [hq] at h2 h4;rw [Qf] at h2;refine Vz (VD _ (Vz h3 h4)) ?_;rw [Nat.mul_assoc];exact h2
theorem Ue {r:Int} (h:r<=4):Qf r.toNat<=2000404224:=by
 have:r.toNat=0 \/ r.toNat=1 \/ r.toNat=2 \/ r.toNat=3 \/ r.toNat=4:=by omega
 rcases this with e|e|e|e|e<;>rw [e]<;>decide
theorem xj {N:Nat} {z:Zn} (l:List Int) {r:Int} (h:mU N z) (hr:r<=4) (i:Nat) (hi:N+i<=20):(t8 z l r i).length<=2000404224:=by
 have h1:=(DR l h hr i hi).2;have h2:=DC (r - i).toNat
 have h3:=Ue hr;have h4:=Nat.le_mul_of_pos_right (t8 z l r i).length h2;omega
theorem E7 (z:Zn) (l:List Int) (r:Int) {N:Nat} (hz:mU N z) (hN:N+l.length<=20) (hl:∀ a ∈ l,0<=a /\ a<31) (hr:-1000<=r /\ r<=4):aw Tryz.prog 73 [.agg (cu z),sI l,eI r] ⟨.sl 2 ((t8 z l r l.length).map cu),[],0⟩:=by
 refine jF 91 ?_;refine bm ag Tryz.func73 rfl (by decide) Tryz.ntmps73 Tryz.results73 rfl ?_;have e00:(t8 z l r 0).map cu=[cu z]:=rfl;have ha0:∀ i:Nat,i<=20 -> IntKind.i64.wrap (r - (i:Int))=r - (i:Int):=fun i hi=>aD (by omega) (by omega)
 repeat' first|refine gq ?_|decide|refine sp ?_ ?_<;>intro _
 refine ⟨rfl,?_⟩;refine af (fun st=>∃ i:Nat,i<=l.length /\ st=⟨50,[(1,sI l),(2,eI r),(3,.op 0 0 0),(7,.osl 1),(8,eI (i:Int))],[(0,some (.box 91 (cu z))),(1,some (.row 91 2 ((t8 z l r i).map cu)))],2⟩) (fun st=>l.length - ax st 8) ⟨_,(wE e00),0,Vg _,rfl⟩ ?_;rintro _ ⟨i,hi,rfl⟩;obtain ⟨hB,-⟩:=DR l hz hr.2 i (by omega);have hL:=xj l hz hr.2 i (by omega);by_cases hlt:i<l.length
 .have hBn:=xj l hz hr.2 (i+1) (by omega);obtain ⟨a,ha⟩:∃ a,a=l[i]:=⟨_,rfl⟩;have hra:(l.map fun n=>[eI n])[i]?.getD []=[eI a]:=by rw [ha];simp [hlt]
  have hga:l.getD i 0=a:=by rw [ha];simp [List.getD,hlt]
  have hao:=hl a (ha ▸ Vf hlt);have ew:=ha0 i (by omega);have hs:t8 z l r (i+1)=ch ((t8 z l r i).flatMap fun o=>jk (fp o a (r - i)) a (r - i)):=by rw [t8,hga]
  obtain ⟨O,hO⟩:∃ O,O=t8 z l r i:=⟨_,rfl⟩;rw [<- hO] at hs hB hL ⊢
  have hpl:∀ o ∈ O,(jk (fp o a (r - i)) a (r - i)).length<=1316:=fun o ho=>by
   have hd:=(oE a (r - i) (hB o ho)).1.cl;have h1:=zK (fp o a (r - i)) a (r:=r - i) (by omega) (by omega);have h2:OO (r - i).toNat<=1316:=by unfold OO;split<;>omega
   split at h1<;>omega
  have hfl:∀ k,k<=O.length -> ((O.take k).flatMap fun o=>jk (fp o a (r - i)) a (r - i)).length<=2632531959000:=fun k hk=>by
   have h1:=gU (fun o=>jk (fp o a (r - i)) a (r - i)) 1316 (O.take k) fun o ho=>hpl o (VQ ho);rw [Vr] at h1;have h2:min k O.length * 1316<=2000404224 * 1316:=VD _ (by omega);omega
  repeat' first|refine gf @hlt ?_|decide|refine sp ?_ ?_<;>intro _
  refine af (fun st=>∃ k:Nat,k<=O.length /\ st=⟨50,[(1,sI l),(2,eI r),(3,.op 0 0 0),(7,.osl 1),(8,eI (i:Int)),(9,.osl 2),(10,eI (k:Int))],[(0,some (.box 91 (cu z))),(1,some (.row 91 2 (O.map cu))),(2,some (.row 91 2 (((O.take k).flatMap fun o=>jk (fp o a (r - i)) a (r - i)).map cu)))],3⟩) (fun st=>O.length - ax st 10) ⟨_,((bA 9 91 2 (by simp only [jn,aj.get,bh,aj.put,↓reduceIte,reduceCtorEq,Nat.reduceLT,Nat.reduceEqDiff,Nat.reduceAdd,Nat.reduceLeDiff,eq_self,implies_true,VA,Wl,VP])).trans (wS [0,1,2] (kf @VA @Wl))),0,Vg _,rfl⟩ ?_;rintro _ ⟨k,hk,rfl⟩;have hFk:=hfl k hk;by_cases hlk:k<O.length
  .obtain ⟨o,ho⟩:∃ o,o=O[k]:=⟨_,rfl⟩;have hom:o ∈ O:=ho ▸ Vf hlk;have hro:(O.map cu)[k]?.getD []=cu o:=by rw [ho];simp [hlk]
   have hD:=RN o a (r - i) (N:=N+i) (by omega) (hB o hom) hao;have hdB:=(oE a (r - i) (hB o hom)).1;have hP:=Nj (fp o a (r - i)) a (r - i) (N:=N+i) (by omega) hdB ⟨by omega,by omega⟩;have hpo:=hpl o hom
   have et:((O.take (k+1)).flatMap fun o=>jk (fp o a (r - i)) a (r - i)).map cu=((O.take k).flatMap fun o=>jk (fp o a (r - i)) a (r - i)).map cu ++ (jk (fp o a (r - i)) a (r - i)).map cu:=by
    rw [Vk hlk,Wy,<- ho];simp
   obtain ⟨F,hF⟩:∃ F,F=(O.take k).flatMap fun o=>jk (fp o a (r - i)) a (r - i):=⟨_,rfl⟩;rw [<- hF] at et hFk ⊢;obtain ⟨D,hDe⟩:∃ D,D=fp o a (r - i):=⟨_,rfl⟩;rw [<- hDe] at hD hP hpo et;obtain ⟨P,hPe⟩:∃ P,P=jk D a (r - i):=⟨_,rfl⟩;rw [<- hPe] at hP hpo et
   repeat' first|refine ge (kf @hlt (kf @hlk (kf @hro (kf @hra ew)))) ?_|decide|refine sp ?_ ?_<;>intro _
   refine ap [2] [0,1,2,3,4,5,6,7,8,9,10,11,13,14,15,16,17,18,19] (.exec 12 (.exec 20 (.exec 21 (.exec 22 .done)))) (by kernel_rfl) (by simp [ae.gc]) ?_
   repeat' first|refine gf (kf @hlt (kf @hlk (kf @hro (kf @hra ew)))) ?_|decide|refine sp ?_ ?_<;>intro _|refine cA hD ?_|refine cA hP ?_|(with_reducible apply And.intro)
   all_goals first
    | rfl
    | omega
    | exact rI (wS [0,1,3] (kf et hF)) ⟨k+1,by omega,rfl⟩
  .obtain rfl:k=O.length:=by omega
   rw [Vq] at hFk ⊢
   have hZB:∀ y ∈ O.flatMap fun o=>jk (fp o a (r - i)) a (r - i),y.cls.length<=1000000 /\ y.gaps.length<=1000000:=fun y hy=>by
    obtain ⟨o,ho,hy⟩:=V6.1 hy;have h1:=Jn a (r - i) (oE a (r - i) (hB o ho)).1 y hy;have h2:=h1.cl;have h3:=h1.ga;exact ⟨by omega,by omega⟩
   have hU:=MZ _ hZB (by omega);rw [<- hs] at hU
   repeat' first|refine gf @hlk ?_|decide|refine sp ?_ ?_<;>intro _
   refine u2 [2] (R:=iZ 91 2 ((t8 z l r (i+1)).map cu)) ?_ ?_ ?_
   .repeat' first|decide|refine go ?_
    exact hU
   .repeat' first|decide|refine go ?_
    left;simp [dJ,eU,aM,aU]
   .repeat' first|refine go ?_|simp only [iZ,aB,bG,bF,aE.shift]|decide|refine sp ?_ ?_<;>intro _
    all_goals exact rI (wR [0,3]) ⟨i+1,by omega,rfl⟩
 .obtain rfl:i=l.length:=by omega
  repeat' first|refine gf @hlt ?_|decide|refine sp ?_ ?_<;>intro _
  all_goals exact yf rfl kG
end
section
structure Nd where
 z:Zn
 opn:Int
 don:Int
 did:List Int
 cnt:List Int
abbrev jR (n:Nd):List AV:=[.sl 2 (n.z.cls.map cK),sI n.z.gaps,eI n.opn,eI n.don,sI n.did,sI n.cnt]
abbrev Uw (l:List Nd):AV:=.sl 6 (l.map jR)
def bD (n:Nd):St:=⟨[],n.opn,n.don,n.did,n.cnt⟩
noncomputable def Ed (m:bk) (c:List Int) (n:Nd) (x:ah):Bool:=(jM m (bD n) x).getD (jf (cc [x] n.z c (bD n)))
theorem Pv (m:bk) (c:List Int) (n:Nd) (x:ah) (hl:m.events.length<=1000000) (hl2:m.users.length<=1000000) (hl3:m.miles.length<=1000000) (hl4:m.sods.length<=1000000) (hx:x.ok) (h1:n.z.cls.length<=1000000) (h2:c.length<=1000000) (h3:n.did.length<=1000000) (h4:n.cnt.length<=1000000) :
  aw Tryz.prog 42 [.agg (aW m),sI c,.agg (jR n),.agg (bX x)] (val (.bool (Ed m c n x))):=by
 refine aa ag Tryz.func42 rfl (by decide) Tryz.ntmps42 Tryz.results42 rfl (aL _) ?_;have hS:=Kq (n.z.cls.map cK) (n.z.gaps.map fun n=>[eI n]) n.opn n.don n.did n.cnt h3 h4;have hA:=O0 m (bD n) x hl hl2 hl3 hl4;have hA2:=hA.fits (args:=[.agg (aW m),.agg [.c (.slice none 0 0),eI n.opn,eI n.don,sI n.did,sI n.cnt],.agg (bX x)]) ⟨.one (.refl _),.agg ⟨.nil 1,.refl _,.refl _,.refl _,.refl _,trivial⟩,.one (.refl _),trivial⟩
 cases ha:jM m (bD n) x with
 | some b=>
  rw [ha] at hA2;have hv:Ed m c n x=b:=by unfold Ed;rw [ha];rfl
  rw [hv]
  repeat' first|refine gf @Option.isSome_some.{0} ?_|decide|refine sp ?_ ?_<;>intro _|refine cA hS ?_|refine cA hA2 ?_|fail
  all_goals rfl
 | none=>
  rw [ha] at hA2;have hv:Ed m c n x=jf (cc [x] n.z c (bD n)):=by unfold Ed;rw [ha];rfl
  rw [hv];have hZ:=Ip [x] n.z c (bD n) (by simp) (by simpa using hx) h1 h2;have hZ2:=hZ.fits (args:=[aR [x],.agg (cu n.z),sI c,.agg [.c (.slice none 0 0),eI n.opn,eI n.don,sI n.did,sI n.cnt]]) ⟨.one (.refl _),.one (.refl _),.one (.refl _),.agg ⟨.nil 1,.refl _,.refl _,.refl _,.refl _,trivial⟩,trivial⟩
  repeat' first|refine gf @Option.isSome_none.{0} ?_|decide|refine sp ?_ ?_<;>intro _|refine cA hS ?_|refine cA hA2 ?_|fail
  refine ⟨rfl,?_⟩;refine u2 [4] (R:=⟨.tup [eB (jf (cc [x] n.z c (bD n))),eI (rg (cc [x] n.z c (bD n)))],[],0⟩) ?_ ?_ ?_
  .repeat' first|decide|refine go ?_
   exact hZ2
  .repeat' first|decide|refine go ?_
   left;simp [dJ,eU,aM,aU]
  .repeat' first|refine gq ?_|decide|refine sp ?_ ?_<;>intro _
theorem vd (n:Nd) (h1:n.did.length<=1000000) (h2:n.cnt.length<=1000000):aw Tryz.prog 51 [.agg (jR n)] ⟨.agg [.c (.slice none 0 0),eI n.opn,eI n.don,sI n.did,sI n.cnt],[],0⟩:=by
 refine aw.still (R:=⟨.agg [.c (.slice none 0 0),eI n.opn,eI n.don,.osl 0,.osl 1],[(0,some (.row 3 1 (n.did.map fun n=>[eI n]))),(1,some (.row 3 1 (n.cnt.map fun n=>[eI n])))],2⟩) [0,1] ?_ (by simp [cM.frzs,cM.frz,ae.gc,AV.frz,AV.frzL,b9,aE.frz]) (by simp [AV.lt,AV.ltL]);refine aa ag Tryz.func51 rfl (by decide) Tryz.ntmps51 Tryz.results51 rfl (kC (by simp [cO,aE.lt,AV.ltL,AV.lt]) (by simp [AV.lt,AV.ltL])) ?_
 repeat' first|refine go ?_|decide|refine sp ?_ ?_<;>intro _
 refine ap [1] [0,1,2,3,5,6,9,10] (.two 4 (.two 7 (.exec 8 (.exec 11 (.take 12 (.exec 13 .done)))) 8 (.exec 7 (.exec 11 (.take 12 (.exec 13 .done))))) 8 (.exec 4 (.exec 7 (.exec 11 (.take 12 (.exec 13 .done)))))) (by kernel_rfl) (by simp [ae.gc]) ?_
 repeat' first|refine gq ?_|decide|refine sp ?_ ?_<;>intro _|(with_reducible apply And.intro)
 all_goals first
  | omega
  | rfl
  | exact ⟨[3,5],by decide,rfl,by simp [cH,ae.gc]⟩
  | exact ⟨[4,5],by decide,rfl,by simp [cH,ae.gc]⟩
  | exact ⟨[5,4],by decide,rfl,by simp [cH,ae.gc]⟩
  | exact ⟨[5,3],by decide,rfl,by simp [cH,ae.gc]⟩
theorem FR (m:bk) (c:List Int) (l:List Nd) (x:ah) (hl:m.events.length<=1000000) (hl2:m.users.length<=1000000) (hl3:m.miles.length<=1000000) (hl4:m.sods.length<=1000000) (hx:x.ok) (h2:c.length<=1000000)
  (hll:l.length<=1000000) (h1:∀ n ∈ l,n.z.cls.length<=1000000 /\ n.did.length<=1000000 /\ n.cnt.length<=1000000) :
  aw Tryz.prog 22 [.agg (aW m),sI c,Uw l,.agg (bX x)] (iZ 4 1 (l.map fun n=>[eB (Ed m c n x)])):=by
 refine aa ag Tryz.func22 rfl (by decide) Tryz.ntmps22 Tryz.results22 rfl (cT _ _ _) ?_
 repeat' first|refine go ?_|decide|refine sp ?_ ?_<;>intro _
 refine af (fun st=>∃ k:Nat,k<=l.length /\ st=⟨28,[(1,sI c),(4,.op 0 0 0),(7,.op 1 0 0),(9,.osl 2),(12,Uw l),(13,eI (l.length:Int)),(14,eI (k:Int))],[(0,some (.box 32 (aW m))),(1,some (.box 61 (bX x))),(2,some (.row 4 1 ((l.take k).map fun n=>[eB (Ed m c n x)])))],3⟩) (fun st=>l.length - ax st 14) ⟨_,((bA 9 4 1 (by simp only [jn,aj.get,bh,aj.put,↓reduceIte,reduceCtorEq,Nat.reduceLT,Nat.reduceEqDiff,Nat.reduceAdd,Nat.reduceLeDiff,eq_self,implies_true,VA,VP])).trans (wS [0,1,2] @VA)),0,Vg _,rfl⟩ ?_;rintro _ ⟨k,hk,rfl⟩;by_cases hlt:k<l.length
 .obtain ⟨n,hn⟩:∃ n,l[k]=n:=⟨_,rfl⟩;obtain ⟨g1,g2,g3⟩:=h1 n (hn ▸ Vf hlt);have hA:=Pv m c n x hl hl2 hl3 hl4 hx g1 h2 g2 g3;have hsn:(l.take (k+1)).map (fun n=>[eB (Ed m c n x)])=(l.take k).map (fun n=>[eB (Ed m c n x)]) ++ [[eB (Ed m c n x)]]:=by rw [dT _ l hlt,hn]
  have htl:(l.take k).length<=1000000:=by rw [Vr];omega
  repeat' first|refine gq ?_|simp only [ab,hlt,hn]|decide|refine sp ?_ ?_<;>intro _|refine cA hA ?_|(with_reducible apply And.intro)
  all_goals first
   | rfl
   | omega
   | exact rI (wS [0,1,5] @hsn) ⟨k+1,by omega,rfl⟩
 .obtain rfl:k=l.length:=by omega
  repeat' first|refine gf (kf @hlt @Vq) ?_|decide|refine sp ?_ ?_<;>intro _
  all_goals exact aY (by simp [ae.gc])
end
section
theorem D4 (l:List fQ) (k:Nat):(mO l k).Pairwise (· < ·):=List.Pairwise.filter _ List.pairwise_lt_range
theorem za (l:List fQ) (k:Nat) {i:Nat} (h:i ∈ mO l k):i<k:=by
 unfold mO at h;simp at h;exact h.1
def cD (z:Zn):List Nat:=mO z.cls z.cls.length
def Ce (z:Zn) (n:Int) (c:List Int) (r:Int):Prop:=
 ((0<=n /\ n<=31) /\ rJ z.cls n ((bV c).length:Int) /\ xr z (cR r)) /\ ∀ i,i+1<(cD z).length -> n4 z ((cD z).getD i 0) ((cD z).getD (i+1) 0) (cR r) ((bV c).getD i 0) ((bV c).getD (i+1) 0)
end
section
theorem qE (z:Zn) (p:Nat):dr z p p=[]:=by
 unfold dr;rw [List.drop_eq_nil_iff,Vr];omega
theorem yB (z:Zn) {p q:Nat} {g:Int} (h:z.gaps[q]? = some g) (hpq:p<=q):dr z p (q+1)=dr z p q ++ [g]:=by
 have hq:q<z.gaps.length:=(Vd.1 h).1;unfold dr;rw [Xo,h,List.drop_append_of_le_length (by rw [Vr];omega)];rfl
end
section
theorem jU (l:List Int) (i j:Nat) (v:Int) (h:i<l.length):(l.set i v).getD j 0=if i=j then v else l.getD j 0:=by
 simp only [Vl,Wz];split
 .rename_i e;subst e;simp [h]
 .rfl
def Hi (g:List Int) (p q:Nat) (A A':List Int):Prop:=
 A'.length=A.length /\ (∀ i,i<=p \/ q<=i -> A'.getD i 0=A.getD i 0) /\ ∀ i,p<i -> i<q -> A'.getD i 0=A'.getD (i - 1) 0+(g.getD (i - 1) 0+1)
def JB (g:List Int) (w q:Nat) (A A':List Int):Prop:=
 A'.length=A.length /\ (∀ i,i<w \/ q<=i -> A'.getD i 0=A.getD i 0) /\ ∀ i,w<=i -> i<q -> A'.getD i 0=A'.getD (i+1) 0+(-(g.getD i 0) - 1)
theorem Hi.start (g:List Int) (p:Nat) (A:List Int):Hi g p (p+1) A A:=⟨rfl,fun _ _=>rfl,fun i h1 h2=>by omega⟩
theorem Hi.step {g:List Int} {p k:Nat} {A A':List Int} (h:Hi g p (p+k+1) A A') (hl:p+k+1<A.length):Hi g p (p+(k+1)+1) A (A'.set (p+k+1) (A'.getD (p+k) 0+(g.getD (p+k) 0+1))):=by
 obtain ⟨h1,h2,h3⟩:=h;refine ⟨by rw [VS,h1],fun i hi=>?_,fun i h4 h5=>?_⟩
 .rw [jU _ _ _ _ (by omega),Vh (by omega)];exact h2 i (by omega)
 .rw [jU _ _ _ _ (by omega),jU _ _ _ _ (by omega),Vh (by omega:¬ p+k+1=i - 1)];split
  .rename_i e;subst e;rfl
  .exact h3 i h4 (by omega)
theorem JB.start (g:List Int) (q:Nat) (A:List Int):JB g q q A A:=⟨rfl,fun _ _=>rfl,fun i h1 h2=>by omega⟩
theorem JB.step {g:List Int} {w q:Nat} {A A':List Int} (h:JB g (w+1) q A A') (hw:w<q) (hl:w<A.length):JB g w q A (A'.set w (A'.getD (w+1) 0+(-(g.getD w 0) - 1))):=by
 obtain ⟨h1,h2,h3⟩:=h;refine ⟨by rw [VS,h1],fun i hi=>?_,fun i h4 h5=>?_⟩
 .rw [jU _ _ _ _ (by omega),Vh (by omega)];exact h2 i (by omega)
 .rw [jU _ _ _ _ (by omega),jU _ _ _ _ (by omega),Vh (by omega:¬ w=i+1)];split
  .rename_i e;subst e;rfl
  .exact h3 i (by omega) h5
theorem Hi.bound {g:List Int} {p q:Nat} {A A':List Int} (h:Hi g p q A A') (hpq:p<q) (B:Int) (hg:∀ i,0<=g.getD i 0 /\ g.getD i 0<=B):∀ d,p+d<q -> A.getD p 0<=A'.getD (p+d) 0 /\ A'.getD (p+d) 0<=A.getD p 0+(B+1) * d
 | 0,_=>by
  have:=h.2.1 p (.inl (Os _));rw [show p+0=p from rfl,this];simp
 | d+1,hd=>by
  have ih:=h.bound hpq B hg d (by omega);have h1:=h.2.2 (p+(d+1)) (by omega) hd;rw [show p+(d+1) - 1=p+d by omega] at h1;have h2:=hg (p+d);rw [h1];rw [WV,Int.mul_add];omega
theorem JB.bound {g:List Int} {w q:Nat} {A A':List Int} (h:JB g w q A A') (B:Int) (hg:∀ i,0<=g.getD i 0 /\ g.getD i 0<=B):∀ d,w+d<=q -> d<=q -> A.getD q 0 - (B+1) * d<=A'.getD (q - d) 0 /\ A'.getD (q - d) 0<=A.getD q 0
 | 0,_,_=>by
  have:=h.2.1 q (.inr (Os _));rw [show q - 0=q from rfl,this];simp
 | d+1,hd,hq=>by
  have ih:=h.bound B hg d (by omega) (by omega);have h1:=h.2.2 (q - (d+1)) (by omega) (by omega);rw [show q - (d+1)+1=q - d by omega] at h1;have h2:=hg (q - (d+1));rw [h1];rw [WV,Int.mul_add];omega
end
section
def U5 (g:List Int) (cap:Int) (p i q w:Nat):Prop:=(w=q /\ ∀ j,p<=j -> j<i -> g.getD j 0 ≠ cap) \/ (p<w /\ w<=i /\ g.getD (w - 1) 0=cap)
end
section
theorem U5.start (g:List Int) (cap:Int) (p q:Nat):U5 g cap p p q q:=.inl ⟨rfl,fun j h1 h2=>by omega⟩
end
section
theorem TH (a b:Nat) (ha:a<2 ^ 63) (hb:b<2 ^ 63):UU (a:Int) (b:Int)=((a ||| b:Nat):Int):=by
 show IntKind.i64.wrap ((BitVec.ofInt 64 (a:Int) ||| BitVec.ofInt 64 (b:Int)).toNat:Int)=_;rw [BitVec.toNat_or,ig a (by omega),ig b (by omega)];exact tU _ (Nat.or_lt_two_pow ha hb)
theorem HV (a b:Nat) (ha:a<2 ^ 63) (hb:b<2 ^ 63):Us (a:Int) (b:Int)=((a &&& b:Nat):Int):=by
 show IntKind.i64.wrap ((BitVec.ofInt 64 (a:Int) &&& BitVec.ofInt 64 (b:Int)).toNat:Int)=_;rw [BitVec.toNat_and,ig a (by omega),ig b (by omega)];exact tU _ (XD Nat.and_le_left (by omega))
def aN (x:fQ):Nat:=x.attrs.toNat
theorem oZ:∀ l:List fQ,(∀ x ∈ l,0<=x.attrs /\ x.attrs<9223372036854775808) -> ∃ A:Nat,Fe l=(A:Int) /\ A<2 ^ 63 /\ ∀ q,A.testBit q=true ↔ ∃ x ∈ l,(aN x).testBit q=true:=fun L=>by
 induction hk:L.length using Nat.strongRecOn generalizing L with
 | _ k ih=>
  intro hL;rcases List.eq_nil_or_concat L with rfl|⟨l,m,rfl⟩
  .exact ⟨0,rfl,by decide,fun q=>by simp⟩
  .rw [List.concat_eq_append] at *;obtain ⟨A,h1,h2,h3⟩:=ih l.length (by simp at hk;omega) l rfl fun x hx=>hL x (List.mem_append_left _ hx);have hm:=hL m (by simp);have e1:m.attrs=((aN m:Nat):Int):=by unfold aN;omega
   have hlt:aN m<2 ^ 63:=by unfold aN;omega
   refine ⟨A ||| aN m,?_,Nat.or_lt_two_pow h2 hlt,fun q=>?_⟩
   .rw [E1,h1,e1,TH _ _ h2 hlt]
   .rw [Nat.testBit_or,Xd,h3];simp only [Vp,VF];constructor
    .rintro (⟨x,hx,hb⟩ | hb)
     .exact ⟨x,.inl hx,hb⟩
     .exact ⟨m,.inr rfl,hb⟩
    .rintro ⟨x,hx | rfl,hb⟩
     .exact .inl ⟨x,hx,hb⟩
     .exact .inr hb
structure ZB (l:List fQ) (n:Nat):Prop where
 nn:∀ x ∈ l,0<=x.attrs /\ x.attrs<2147483648
 lt:∀ x ∈ l,∀ q,(aN x).testBit q=true -> q<n
 dis:∀ i j (hi:i<l.length) (hj:j<l.length) (q:Nat),(aN l[i]).testBit q=true -> (aN l[j]).testBit q=true -> i=j
 all:∀ q,q<n -> ∃ i,∃ h:i<l.length,(aN l[i]).testBit q=true
theorem T7 {l:List fQ} {n:Nat} {k:Int} (hn:n<=31) (h:rJ l (n:Int) k) (hl:∀ x ∈ l,x.attrs<9223372036854775808):ZB l n:=by
 obtain ⟨h1,h2,_⟩:=h
 have hnn:∀ x ∈ l,0<=x.attrs /\ x.attrs<9223372036854775808:=fun x hx=>by
  obtain ⟨i,hi,rfl⟩:=VB hx;exact ⟨(h1 i hi).1,hl _ (Vf hi)⟩
 obtain ⟨A,hA,hAlt,hAb⟩:=oZ l hnn
 have hA2:A=2 ^ n - 1:=by
  rw [hA] at h2;unfold jG at h2;have e:(max 0 (min (n:Int) 31)).toNat=n:=by omega
  rw [e] at h2;have h3:1<=2 ^ n:=XE;have h4:((2 ^ n - 1:Nat):Int)=(2:Int) ^ n - 1:=by rw [Int.natCast_sub h3];simp
  omega
 have hlt:∀ x ∈ l,∀ q,(aN x).testBit q=true -> q<n:=fun x hx q hq=>by
  have:=(hAb q).2 ⟨x,hx,hq⟩;rw [hA2,WQ] at this;simpa using this
 have hlow:∀ i j (hi:i<l.length) (hj:j<l.length) (q:Nat),i<j -> (aN l[i]).testBit q=true -> (aN l[j]).testBit q=true -> False:=fun i j hi hj q hij h3 h4=>by
  have h5:=(h1 j hj).2.1;obtain ⟨B,hB,hBlt,hBb⟩:=oZ (l.take j) fun x hx=>hnn x (VQ hx);have e1:l[j].attrs=((aN l[j]:Nat):Int):=by have:=hnn _ (Vf hj);unfold aN;omega
  have hlt2:aN l[j]<2 ^ 63:=by have:=hnn _ (Vf hj);unfold aN;omega
  rw [hB,e1,HV _ _ hlt2 hBlt] at h5;have h6:aN l[j] &&& B=0:=by omega
  have h7:(aN l[j] &&& B).testBit q=true:=by
   rw [Nat.testBit_and,h4,(hBb q).2 ⟨l[i],List.mem_take_iff_getElem.2 ⟨i,by omega,rfl⟩,h3⟩];rfl
  rw [h6] at h7;simp at h7
 refine ⟨fun x hx=>⟨(hnn x hx).1,?_⟩,hlt,fun i j hi hj q h3 h4=>?_,fun q hq=>?_⟩
 .have:aN x<2 ^ 31:=Nat.lt_pow_two_of_testBit _ fun q hq=>by
   cases hb:(aN x).testBit q with
   | false=>rfl
   | true=>have:=hlt x hx q hb;omega
  have h0:=(hnn x hx).1;unfold aN at this;omega
 .rcases Xa i j with h5 | h5 | h5
  .exact (hlow i j hi hj q h5 h3 h4).elim
  .exact h5
  .exact (hlow j i hj hi q h5 h4 h3).elim
 .have:A.testBit q=true:=by
   rw [hA2,WQ];simpa using hq
  obtain ⟨x,hx,hb⟩:=(hAb q).1 this;obtain ⟨i,hi,rfl⟩:=VB hx;exact ⟨i,hi,hb⟩
theorem oM {l:List fQ} (h:∀ i (h:i<l.length),Io (l.take i) l[i]):∀ k,k<=l.length -> (mO l k).length=fB (l.take k)
 | 0,_=>by simp [mO,fB]
 | k+1,hk=>by
  have ih:=oM h k (by omega);have hc:=(h k (by omega)).2.2.2;rw [mr l (by omega),Vk (by omega),tM];by_cases h1:l[k].const = -1
  .rw [Vh (by omega),Vn h1];omega
  .rw [Vn (by omega),Vh h1,Vi,Vy];omega
theorem zG (l:List fQ) {i:Nat}:∀ d,i+d<=l.length -> ∃ t,mO l (i+d)=mO l i ++ t
 | 0,_=>⟨[],by simp⟩
 | d+1,hd=>by
  obtain ⟨t,ht⟩:=zG l (i:=i) d (by omega);rw [show i+(d+1)=i+d+1 by omega,mr l (by omega)];split
  .exact ⟨t ++ [i+d],by rw [ht,VZ]⟩
  .exact ⟨t,ht⟩
theorem Tb {z:Zn} (h:∀ i (h:i<z.cls.length),Io (z.cls.take i) z.cls[i]) {i:Nat} (hi:i<z.cls.length) (hc:z.cls[i].const ≠ -1):∃ j:Nat,z.cls[i].const=(j:Int) /\ ∃ hj:j<(cD z).length,(cD z)[j]=i:=by
 have h1:=((h i hi).2.2.2).resolve_left hc;have h2:=oM h i (by omega);obtain ⟨t,ht⟩:=zG z.cls (i:=i+1) (z.cls.length - (i+1)) (by omega);rw [show i+1+(z.cls.length - (i+1))=z.cls.length by omega,mr z.cls hi,Vn (by omega)] at ht;have e:cD z=mO z.cls i ++ [i] ++ t:=ht;refine ⟨(mO z.cls i).length,by omega,by rw [e];simp,?_⟩;simp [e]
def Gk (z:Zn) (cap:Int) (A:List Int) (i:Nat):Prop:=A.getD (i+1) 0 - A.getD i 0 - 1=z.gaps.getD i 0 \/ (z.gaps.getD i 0=cap /\ cap<=A.getD (i+1) 0 - A.getD i 0 - 1)
end
end
section
section
def cF (l:List fQ) (a:Int):Nat:=l.countP fun x=>bp x.attrs a
theorem BT (l:List fQ) (x:fQ) (a:Int):cF (l ++ [x]) a=cF l a+(if bp x.attrs a=true then 1 else 0):=by
 unfold cF;rw [List.countP_append];cases h:bp x.attrs a<;>simp [h]
theorem JA (l:List fQ) (a:Int):cF l a<=l.length:=List.countP_le_length
theorem Rq (z:Zn) (a:Int) (h1:z.cls.length<=1000000) (hat:∀ x ∈ z.cls,aI x.attrs):aw Tryz.prog 175 [.agg (cu z),eI a] (val (.int .i64 (cF z.cls a:Int))):=by
 refine aa ag Tryz.func175 rfl (by decide) Tryz.ntmps175 Tryz.results175 rfl (aL _) ?_
 repeat' first|refine go ?_|decide|refine sp ?_ ?_<;>intro _
 refine af (fun st=>∃ (k:Nat) (s:Int),k<=z.cls.length /\ s=(cF (z.cls.take k) a:Int) /\ st=⟨25,[(1,eI a),(2,.op 0 0 0),(5,eI s),(6,eI (k:Int))],[(0,some (.box 91 (cu z)))],1⟩) (fun st=>z.cls.length - ax st 6) ⟨_,wC,0,0,Vg _,rfl,rfl⟩ ?_;rintro _ ⟨k,s,hk,hs,rfl⟩;by_cases hlt:k<z.cls.length
 .have htk:cF (z.cls.take (k+1)) a=cF (z.cls.take k) a+(if bp z.cls[k].attrs a=true then 1 else 0):=by rw [Vk hlt,BT]
  have hle:=JA (z.cls.take k) a;rw [Vr] at hle;have hH:=eJ z.cls[k].attrs a (hat _ (Vf hlt));generalize hc:z.cls[k]=c at *
  cases hb:bp c.attrs a with
  | true=>
   rw [hb] at hH;rw [hb,Vn rfl] at htk;have ew:IntKind.i64.wrap (s+1)=s+1:=aD (by omega) (by omega)
   repeat' first|refine gq ?_|simp only [ab,hlt,hc,ew]|decide|refine sp ?_ ?_<;>intro _|refine cA hH ?_|fail
   all_goals exact rI (wE ew) ⟨k+1,s+1,by omega,by omega,rfl⟩
  | false=>
   rw [hb] at hH;rw [hb,Vh (by simp)] at htk
   repeat' first|refine gq ?_|simp only [ab,hlt,hc]|decide|refine sp ?_ ?_<;>intro _|refine cA hH ?_|fail
   all_goals exact rI wC ⟨k+1,s,by omega,by omega,rfl⟩
 .obtain rfl:k=z.cls.length:=by omega
  rw [Vq] at hs;rw [<- hs]
  repeat' first|refine gf @hlt ?_|decide|refine sp ?_ ?_<;>intro _
def Pf (l:List fQ) (n:Int) (k:Nat):Bool:=(List.range k).all fun a=>decide ((cF l (a:Int):Int)=if (a:Int)<n then 1 else 0)
theorem Ir (l:List fQ) (n:Int) (k:Nat):Pf l n (k+1)=(Pf l n k && decide ((cF l (k:Int):Int)=if (k:Int)<n then 1 else 0)):=by
 unfold Pf;rw [Wu,List.all_append];simp
def pr (l:List fQ) (x:fQ):Bool:=decide (0<=x.attrs) && decide (x.attrs<2147483648) && (decide (0<x.attrs) || decide (0<=x.const)) && (x.const == -1 || x.const == (fB l:Int))
def L9 (l:List fQ) (n:Int) (k:Nat):Bool:=Pf l n 31 && (List.range k).all fun i=>pr (l.take i) (l.getD i ⟨0,0⟩)
theorem JV (l:List fQ) (n:Int) {k:Nat} (hk:k<l.length):L9 l n (k+1)=(L9 l n k && pr (l.take k) l[k]):=by
 unfold L9;rw [Wu,List.all_append,Bool.and_assoc];simp [Vl,f4 hk]
theorem FP (z:Zn) (n m:Int) (h1:z.cls.length<=1000000) (hat:∀ x ∈ z.cls,aI x.attrs):aw Tryz.prog 146 [.agg (cu z),eI n,eI m] (val (.bool (L9 z.cls n z.cls.length && decide ((fB z.cls:Int)=m)))):=by
  refine aa ag Tryz.func146 rfl (by decide) Tryz.ntmps146 Tryz.results146 rfl (aL _) ?_
  repeat' first|refine go ?_|decide|refine sp ?_ ?_<;>intro _
  refine af (fun st=>∃ (k:Nat) (ok:Bool),k<=31 /\ ok=Pf z.cls n k /\ st=⟨88,[(1,eI n),(2,eI m),(3,.op 0 0 0),(7,.c (.bool ok)),(8,eI (k:Int))],[(0,some (.box 91 (cu z)))],1⟩) (fun st=>31 - ax st 8) ⟨_,wC,0,true,Vg _,rfl,rfl⟩ ?_;rintro _ ⟨k,ok,hk,hok,rfl⟩;by_cases hlt:k<31
  . have d0:decide ((k:Int)<31)=true:=VC (by omega);have hs:=Ir z.cls n k;rw [<- hok] at hs;have hS:=Rq z (k:Int) h1 hat
    generalize (cF z.cls (k:Int):Int)=s at *;by_cases g:(k:Int)<n
    . have d1:decide ((k:Int)<n)=true:=VC g;rw [Vn g] at hs
      cases ok with
      | false=>
        repeat' first|refine gf (kf d0 d1) ?_|decide|refine sp ?_ ?_<;>intro _
        all_goals exact rI wC ⟨k+1,false,by omega,by rw [hs];rfl,rfl⟩
      | true=>
        have e1:(s == 1)=decide (s=1):=by by_cases h:s=1<;>simp [h]
        repeat' first|refine gf (kf d0 d1) ?_|decide|refine sp ?_ ?_<;>intro _|refine cA hS ?_|fail
        all_goals exact rI wC ⟨k+1,(s == 1),by omega,by rw [hs,e1];rfl,rfl⟩
    . have d1:decide ((k:Int)<n)=false:=Vu g;rw [Vh g] at hs
      cases ok with
      | false=>
        repeat' first|refine gf (kf d0 d1) ?_|decide|refine sp ?_ ?_<;>intro _
        all_goals exact rI wC ⟨k+1,false,by omega,by rw [hs];rfl,rfl⟩
      | true=>
        have e1:(s == 0)=decide (s=0):=by by_cases h:s=0<;>simp [h]
        repeat' first|refine gf (kf d0 d1) ?_|decide|refine sp ?_ ?_<;>intro _|refine cA hS ?_|fail
        all_goals exact rI wC ⟨k+1,(s == 0),by omega,by rw [hs,e1];rfl,rfl⟩
  obtain rfl:k=31:=by omega
  have d0:decide (((31:Nat):Int)<31)=false:=rfl
  repeat' first|refine gf d0 ?_|decide|refine sp ?_ ?_<;>intro _
  clear hk;refine af (fun st=>∃ (i:Nat) (o:Bool) (x:Int),i<=z.cls.length /\ o=L9 z.cls n i /\ x=(fB (z.cls.take i):Int) /\ st=⟨88,[(1,eI n),(2,eI m),(3,.op 0 0 0),(7,.c (.bool o)),(9,eI x),(10,eI (i:Int))],[(0,some (.box 91 (cu z)))],1⟩) (fun st=>z.cls.length - ax st 10) ⟨_,wC,0,ok,0,Vg _,by rw [hok];simp [L9],rfl,rfl⟩ ?_;rintro _ ⟨i,o,x,hi,ho,hx,rfl⟩;by_cases hlt:i<z.cls.length
  . have hnx:(fB (z.cls.take (i+1)):Int)=x+(if z.cls[i].const = -1 then 0 else 1):=by rw [Vk hlt,tM,hx];split<;>simp
    have hnl:x<=1000000:=by have:=IP (z.cls.take i);rw [Vr] at this;omega
    have hs:=JV z.cls n hlt;rw [<- ho] at hs;unfold pr at hs;rw [<- hx] at hs;have hx0:0<=x:=(by omega);clear hx ho;generalize hc:z.cls[i]=c at *;obtain ⟨g1,d1⟩:∃ b,decide (0<=c.attrs)=b:=⟨_,rfl⟩;obtain ⟨g2,d2⟩:∃ b,decide (c.attrs<2147483648)=b:=⟨_,rfl⟩;obtain ⟨g3,d3⟩:∃ b,decide (0<c.attrs)=b:=⟨_,rfl⟩;obtain ⟨g4,d4⟩:∃ b,decide (0<=c.const)=b:=⟨_,rfl⟩;obtain ⟨g5,d5⟩:∃ b,(c.const == -1)=b:=⟨_,rfl⟩;obtain ⟨g6,d6⟩:∃ b,(c.const == x)=b:=⟨_,rfl⟩;have d7:(c.const != -1) = !g5:=by rw [<- d5];rfl
    have ew:IntKind.i64.wrap (x+1)=x+1:=aD (by omega) (by omega);rw [d1,d2,d3,d4,d5,d6] at hs
    have hnx2:(fB (z.cls.take (i+1)):Int)=if g5=true then x else x+1:=by
      rw [hnx,<- d5];by_cases h:c.const = -1<;>simp [h]
    clear hnx;cases o<;>cases g5
    . (repeat' (first|refine gq ?_|simp only [ab,hlt,hc,d7,W7,XM,ew]|decide|refine sp ?_ ?_<;>intro _))
      all_goals exact rI (wE ew) ⟨i+1,false,x+1,by omega,by rw [hs];rfl,by rw [hnx2];rfl,rfl⟩
    . (repeat' (first|refine gq ?_|simp only [ab,hlt,hc,d7,W7,XM,ew]|decide|refine sp ?_ ?_<;>intro _))
      all_goals exact rI (wE ew) ⟨i+1,false,x,by omega,by rw [hs];rfl,by rw [hnx2];rfl,rfl⟩
    . cases g1<;>cases g2<;>cases g3<;>cases g4<;>cases g6 <;>
      ((repeat' (first|refine gq ?_|simp only [ab,hlt,hc,d1,d2,d3,d4,d5,d6,d7,W7,XM,ew]|decide|refine sp ?_ ?_<;>intro _))
       all_goals first|exact rI (wE ew) ⟨i+1,true,x+1,by omega,by rw [hs];rfl,by rw [hnx2];rfl,rfl⟩|exact rI (wE ew) ⟨i+1,false,x+1,by omega,by rw [hs];rfl,by rw [hnx2];rfl,rfl⟩)
    . cases g1<;>cases g2<;>cases g3<;>cases g4 <;>
      ((repeat' (first|refine gq ?_|simp only [ab,hlt,hc,d1,d2,d3,d4,d5,d7,W7,XM,ew]|decide|refine sp ?_ ?_<;>intro _))
       all_goals first|exact rI (wE ew) ⟨i+1,true,x,by omega,by rw [hs];rfl,by rw [hnx2];rfl,rfl⟩|exact rI (wE ew) ⟨i+1,false,x,by omega,by rw [hs];rfl,by rw [hnx2];rfl,rfl⟩)
  . obtain rfl:i=z.cls.length:=by omega
    rw [Vq] at hx;have e1:decide ((fB z.cls:Int)=m)=(x == m):=by rw [hx];by_cases h:(fB z.cls:Int)=m<;>simp [h]
    rw [e1,<- ho]
    cases o with
    | false=>
      repeat' first|refine gf @hlt ?_|decide|refine sp ?_ ?_<;>intro _
      all_goals simp
    | true=>
      repeat' first|refine gf @hlt ?_|decide|refine sp ?_ ?_<;>intro _
      all_goals simp
end
section
theorem iH {x:fQ} (h:0<=x.attrs /\ x.attrs<2147483648) {a:Nat} (ha:a<31):bp x.attrs (a:Int)=(aN x).testBit a:=by
 rw [cS _ _ ha]
 congr 1
 unfold kR aN;omega
theorem Ia {l:List fQ} {a:Int} {i j:Nat} (hij:i<j) (hj:j<l.length) (h1:bp (l[i]'(by omega)).attrs a=true) (h2:bp l[j].attrs a=true):2<=cF l a:=by
 have e:cF l a=cF (l.take j) a+cF (l.drop j) a:=by
  unfold cF;rw [<- List.countP_append,WX]
 have p1:0<cF (l.take j) a:=Xu.2 ⟨l[i],List.mem_take_iff_getElem.2 ⟨i,by omega,rfl⟩,h1⟩;have p2:0<cF (l.drop j) a:=Xu.2 ⟨l[j],by rw [WH hj];exact V1 ..,h2⟩;omega
theorem qz {a:Int}:∀ l:List fQ,(∀ i j (hi:i<l.length) (hj:j<l.length),bp l[i].attrs a=true -> bp l[j].attrs a=true -> i=j) -> cF l a<=1
 | [],_=>by simp [cF]
 | x :: l,h=>by
  have ih:=qz l fun i j hi hj h1 h2=>by
   have:=h (i+1) (j+1) (by simpa using hi) (by simpa using hj) (by simpa using h1) (by simpa using h2);omega
  by_cases hx:bp x.attrs a=true
  .have hz:cF l a=0:=List.countP_eq_zero.2 fun y hy hb=>by
    obtain ⟨j,hj,rfl⟩:=VB hy;have:=h 0 (j+1) (by simp) (by simpa using hj) (by simpa using hx) (by simpa using hb);omega
   unfold cF at *;rw [List.countP_cons,hz,Vn hx];exact Os _
  .unfold cF at *;rw [List.countP_cons,Vh hx];exact ih
theorem DT (l:List fQ) (n:Int) (k:Nat):Pf l n k=true ↔ ∀ a:Nat,a<k -> (cF l (a:Int):Int)=if (a:Int)<n then 1 else 0:=by
 unfold Pf;rw [Xj];simp only [WS,VG]
theorem nE (l:List fQ) (x:fQ):pr l x=true ↔ (0<=x.attrs /\ x.attrs<2147483648) /\ (0<x.attrs \/ 0<=x.const) /\ (x.const = -1 \/ x.const=(fB l:Int)):=by
 unfold pr;simp only [Vw,Xd,VG,Wv];constructor
 .rintro ⟨⟨⟨h1,h2⟩,h3⟩,h4⟩;exact ⟨⟨h1,h2⟩,h3,h4⟩
 .rintro ⟨⟨h1,h2⟩,h3,h4⟩;exact ⟨⟨⟨h1,h2⟩,h3⟩,h4⟩
theorem Eg (l:List fQ) (n:Int):L9 l n l.length=true ↔ Pf l n 31=true /\ ∀ i (h:i<l.length),pr (l.take i) l[i]=true:=by
 unfold L9;rw [Vw,Xj];constructor
 .rintro ⟨h1,h2⟩;refine ⟨h1,fun i h=>?_⟩;have:=h2 i (WS.2 h)
  rwa [Vl,f4 h] at this
 .rintro ⟨h1,h2⟩;refine ⟨h1,fun i h=>?_⟩;have:=h2 i (WS.1 h)
  rwa [Vl,f4 (WS.1 h)]
theorem tD (l:List fQ) (n:Nat) (m:Int) (hn:n<=31) (hat:∀ x ∈ l,x.attrs<9223372036854775808):(L9 l (n:Int) l.length && decide ((fB l:Int)=m))=true ↔ rJ l (n:Int) m:=by
 rw [Vw,VG,Eg,DT];constructor
 .rintro ⟨⟨hA,hC⟩,hm⟩;have hc:=fun i h=>(nE _ _).1 (hC i h)
  have hnn:∀ x ∈ l,0<=x.attrs /\ x.attrs<2147483648:=fun x hx=>by
   obtain ⟨i,hi,rfl⟩:=VB hx;exact (hc i hi).1
  have hb31:∀ x ∈ l,∀ q,(aN x).testBit q=true -> q<31:=fun x hx q hq=>by
   rcases Vv q 31 with h|h
   .exact h
   .have h2:aN x<2 ^ q:=Vm (show aN x<2 ^ 31 by have:=hnn x hx;unfold aN;omega) (VU (by omega) h);rw [WG h2] at hq;cases hq
  have hdis:∀ i j (hi:i<l.length) (hj:j<l.length) (q:Nat),i<j -> (aN l[i]).testBit q=true -> (aN l[j]).testBit q=true -> False:=fun i j hi hj q hij h1 h2=>by
   have hq:=hb31 _ (Vf hi) q h1;rw [<- iH (hnn _ (Vf hi)) hq] at h1;rw [<- iH (hnn _ (Vf hj)) hq] at h2;have:=Ia hij hj h1 h2;have h5:=hA q hq;split at h5<;>omega
  refine ⟨fun i h=>⟨(hc i h).1.1,?_,?_,(hc i h).2.2⟩,?_,hm⟩
  .obtain ⟨B,hB,hBlt,hBb⟩:=oZ (l.take i) fun x hx=>by have:=hnn x (VQ hx);omega
   have h0:=(hc i h).1;have e1:l[i].attrs=((aN l[i]:Nat):Int):=by unfold aN;omega
   rw [hB,e1,HV _ _ (by unfold aN;omega) hBlt]
   have:aN l[i] &&& B=0:=Xr fun q=>by
    rw [Nat.zero_testBit,Nat.testBit_and]
    cases h1:(aN l[i]).testBit q with
    | false=>rfl
    | true=>
     cases h2:B.testBit q with
     | false=>rfl
     | true=>
      obtain ⟨x,hx,hb⟩:=(hBb q).1 h2;obtain ⟨j,hj,rfl⟩:=List.mem_take_iff_getElem.1 hx;exact (hdis j i (by omega) h q (by omega) hb h1).elim
   rw [this];rfl
  .rintro ⟨h1,h2⟩;have:=(hc i h).2.1;omega
  .obtain ⟨A,hA1,hA2,hA3⟩:=oZ l fun x hx=>by have:=hnn x hx;omega
   have e:(max 0 (min (n:Int) 31)).toNat=n:=(by omega);have h3:1<=2 ^ n:=XE;have h4:((2 ^ n - 1:Nat):Int)=(2:Int) ^ n - 1:=by rw [Int.natCast_sub h3];simp
   rw [hA1];unfold jG;rw [e,<- h4]
   congr 1
   refine Xr fun q=>?_;rw [WQ];rw [Wo,hA3,VG];constructor
   .rintro ⟨x,hx,hb⟩;have hq:=hb31 x hx q hb;rw [<- iH (hnn x hx) hq] at hb;have h5:=hA q hq;have h6:0<cF l (q:Int):=Xu.2 ⟨x,hx,hb⟩;split at h5<;>omega
   .intro hq;have h5:=hA q (by omega);rw [Vn (by omega)] at h5;obtain ⟨x,hx,hb⟩:=Xu.1 (show 0<cF l (q:Int) by omega);rw [iH (hnn x hx) (by omega)] at hb;exact ⟨x,hx,hb⟩
 .intro h;have hB:=T7 hn h hat
  refine ⟨⟨fun a ha=>?_,fun i hi=>(nE _ _).2 ⟨hB.nn _ (Vf hi),?_,(h.1 i hi).2.2.2⟩⟩,h.2.2⟩
  .have hle:=qz (a:=(a:Int)) l fun i j hi hj h1 h2=>by
    rw [iH (hB.nn _ (Vf hi)) ha] at h1;rw [iH (hB.nn _ (Vf hj)) ha] at h2;exact hB.dis i j hi hj a h1 h2
   split
   .obtain ⟨i,hi,hb⟩:=hB.all a (by omega);rw [<- iH (hB.nn _ (Vf hi)) ha] at hb;have h6:0<cF l (a:Int):=Xu.2 ⟨_,Vf hi,hb⟩;omega
   .have:cF l (a:Int)=0:=List.countP_eq_zero.2 fun x hx hb=>by
     rw [iH (hB.nn x hx) ha] at hb;have:=hB.lt x hx a hb;omega
    omega
  .have h1:=(h.1 i hi).2.2;have h2:=(h.1 i hi).1;rcases h1.2 with h3|h3
   .have:¬ l[i].attrs=0:=fun h4=>h1.1 ⟨h4,h3⟩;omega
   .omega
end
section
theorem QV (z:Zn) (p q:Nat) (cap a b:Int) (hpq:p<q) (hq:q<=z.gaps.length) (h2:z.gaps.length<=40) (hg:∀ i (h:i<z.gaps.length),0<=z.gaps[i] /\ z.gaps[i]<=cap) (hcap:0<=cap /\ cap<=1048576) (ha:aI a) (hb:aI b) :
  dt Tryz.prog 147 [.agg (cu z),eI (p:Int),eI (q:Int),eI cap,eI a,eI b] fun R=>∃ t,R=val (.bool t) /\ (t=true ↔ n4 z p q cap a b):=by
 refine bm ag Tryz.func147 rfl (by decide) Tryz.ntmps147 Tryz.results147 rfl ?_;unfold n4
 have hsb:∀ k,p<=k -> k<=q -> 0<=(dr z p k).sum /\ (dr z p k).sum<=42000000:=fun k h1 h2k=>by
  have h:=JQ cap hcap.1 (dr z p k) fun g hgm=>by
   obtain ⟨i,hi,rfl⟩:=VB (VQ (Wp hgm));exact hg i hi
  have h5:((dr z p k).length:Int)<=40:=by unfold dr;rw [Wa,Vr];omega
  have h6:cap * ((dr z p k).length:Int)<=1048576 * 40:=Int.mul_le_mul hcap.2 h5 (by omega) (by omega);omega
 have e1:IntKind.i64.wrap ((q:Int) - (p:Int))=(q:Int) - p:=aD (by omega) (by omega);obtain ⟨B,hB⟩:∃ B,(q:Int) - p - 1=B:=⟨_,rfl⟩;have e2:IntKind.i64.wrap ((q:Int) - (p:Int) - 1)=B:=by rw [hB];exact aD (by omega) (by omega)
 rw [hB];have hB1:0<=B /\ B<=40:=by omega
 repeat' first|refine ge (kf e1 e2) ?_|decide|refine sp ?_ ?_<;>intro _
 refine af (fun st=>∃ (k:Nat) (s:Int) (w:Bool),p<=k /\ k<=q /\ s=B+(dr z p k).sum /\ (w=true ↔ ∃ g ∈ dr z p k,g=cap) /\ st=⟨60,[(2,eI (q:Int)),(3,eI cap),(4,eI a),(5,eI b),(6,.op 0 0 0),(13,eI s),(14,.c (.bool w)),(15,eI (k:Int))],[(0,some (.box 91 (cu z)))],1⟩) (fun st=>q - ax st 15) ⟨_,(wE (kf e1 e2)),p,B,false,Os _,by omega,by rw [qE];simp,by rw [qE];simp,rfl⟩ ?_;rintro _ ⟨k,s,w,hpk,hk,hs,hw,rfl⟩;by_cases hlt:k<q
 .have hkg:k<z.gaps.length:=by omega
  have htk:dr z p (k+1)=dr z p k ++ [z.gaps[k]]:=yB z (f4 hkg) hpk;have h5:=hsb k hpk (by omega);have h6:=hsb (k+1) (by omega) (by omega);rw [htk,List.sum_append,List.sum_singleton] at h6;have d0:decide ((k:Int)<(q:Int))=true:=VC (by omega);have es:IntKind.i64.wrap (s+z.gaps[k])=s+z.gaps[k]:=aD (by omega) (by omega);have hs2:s+z.gaps[k]=B+(dr z p (k+1)).sum:=by rw [htk,List.sum_append,List.sum_singleton];omega
  have hw2:(w || z.gaps[k] == cap)=true ↔ ∃ g ∈ dr z p (k+1),g=cap:=by
   rw [htk,Xd,hw];simp only [Vp,VF,Wv];constructor
   .rintro (⟨g,h1,h2⟩ | h)
    .exact ⟨g,.inl h1,h2⟩
    .exact ⟨_,.inr rfl,h⟩
   .rintro ⟨g,h1 | rfl,h2⟩
    .exact .inl ⟨g,h1,h2⟩
    .exact .inr h2
  clear hw hs hsb htk hg;generalize hgk:z.gaps[k]=g at *
  cases w with
  | true=>
   repeat' first|refine gq ?_|simp only [ab,hkg,hgk,hlt,es]|decide|refine sp ?_ ?_<;>intro _
   all_goals exact rI (wE es) ⟨k+1,s+g,true,by omega,by omega,hs2,by simpa using hw2,rfl⟩
  | false=>
   by_cases hgc:g=cap
   .have d1:(g == cap)=true:=by simpa using hgc
    repeat' first|refine gq ?_|simp only [ab,hkg,hgk,hlt,es,d1]|decide|refine sp ?_ ?_<;>intro _
    all_goals exact rI (wE (kf es d1)) ⟨k+1,s+g,true,by omega,by omega,hs2,by rw [<- hw2,d1];rfl,rfl⟩
   .have d1:(g == cap)=false:=by simpa using hgc
    repeat' first|refine gq ?_|simp only [ab,hkg,hgk,hlt,es,d1]|decide|refine sp ?_ ?_<;>intro _
    all_goals exact rI (wE (kf es d1)) ⟨k+1,s+g,false,by omega,by omega,hs2,by rw [<- hw2,d1];rfl,rfl⟩
 .obtain rfl:k=q:=by omega
  have d0:decide ((k:Int)<(k:Int))=false:=by simp
  have h5:=hsb k hpk (Os _);have es:IntKind.i64.wrap (s+1)=s+1:=aD (by omega) (by omega);have hG:=O5 a b (s+1) ha hb (by omega);rw [<- hs];by_cases g1:oQ a b (s+1)=s
  .have d1:(oQ a b (s+1) == s)=true:=by simpa using g1
   repeat' first|refine gf (kf @hlt (kf es d1)) ?_|decide|refine sp ?_ ?_<;>intro _|refine cA hG ?_|fail
   all_goals exact cI ⟨true,rfl,by simp [g1]⟩
  .have d1:(oQ a b (s+1) == s)=false:=by simpa using g1
   cases w with
   | true=>
    repeat' first|refine gf (kf @hlt (kf es d1)) ?_|decide|refine sp ?_ ?_<;>intro _|refine cA hG ?_|fail
    all_goals exact cI ⟨_,rfl,by simp at hw;simp [g1,hw]⟩
   | false=>
    repeat' first|refine gf (kf @hlt (kf es d1)) ?_|decide|refine sp ?_ ?_<;>intro _|refine cA hG ?_|fail
    all_goals exact cI ⟨_,rfl,by simp at hw;simp [g1,hw]⟩
theorem Ep (z:Zn) (n:Int) (c:List Int) (r:Int) (h1:z.cls.length<=40) (h2:z.gaps.length<=40) (h3:c.length<=100000) (hc:∀ x ∈ c,aI x) (hr:cR r<=1048576) (hat:∀ x ∈ z.cls,aI x.attrs):dt Tryz.prog 115 [.agg (cu z),eI n,sI c,eI r] fun R=>∃ b,R=val (.bool b) /\ (b=true ↔ Ce z n c r):=by
 refine bm ag Tryz.func115 rfl (by decide) Tryz.ntmps115 Tryz.results115 rfl ?_;have hS:=fY c (by omega);have hCap:=uA r;have hcap0:=Q7 r;have hsl:=fy c;have hso:∀ x ∈ bV c,aI x:=fun x hx=>hc x (((il c).2 x).1 hx);unfold Ce;generalize bV c=sc at *;generalize cR r=cap at *;by_cases g1:0<=n
 .have d1:decide (n<0)=false:=by simpa using g1
  by_cases g2:n<=31
  .have d2:decide (31<n)=false:=(by simpa using g2);obtain ⟨m,rfl⟩:∃ m:Nat,n=(m:Int):=⟨n.toNat,by omega⟩;have hC:=FP z (m:Int) (sc.length:Int) (by omega) hat
   have hfd:=tD z.cls m (sc.length:Int) (by omega) fun x hx=>by have:=hat x hx;unfold aI at this;omega
   generalize (L9 z.cls (m:Int) z.cls.length && decide ((fB z.cls:Int)=(sc.length:Int)))=t1 at *;rw [<- hfd]
   cases t1 with
   | false=>
    repeat' first|refine gf (kf d1 d2) ?_|decide|refine sp ?_ ?_<;>intro _|refine cA hS ?_|refine cA hC ?_|fail
    all_goals exact cI ⟨false,rfl,by simp⟩
   | true=>
    have hF:=hfd.1 rfl;have e1:IntKind.i64.wrap ((z.cls.length:Int) - 1)=(z.cls.length:Int) - 1:=aD (by omega) (by omega);by_cases g3:(z.gaps.length:Int)=max ((z.cls.length:Int) - 1) 0
    .have d3:((z.gaps.length:Int) != max ((z.cls.length:Int) - 1) 0)=false:=by simp [g3]
     repeat' first|refine gf (kf d1 (kf d2 (kf d3 e1))) ?_|decide|refine sp ?_ ?_<;>intro _|refine cA hS ?_|refine cA hC ?_|fail
     refine af (fun st=>∃ i:Nat,i<=z.gaps.length /\ (∀ j (h:j<z.gaps.length),j<i -> 0<=z.gaps[j] /\ z.gaps[j]<=cap) /\ st=⟨100,[(3,eI r),(4,.op 0 0 0),(9,sI sc),(10,eI (-1)),(11,eI (i:Int))],[(0,some (.box 91 (cu z)))],1⟩) (fun st=>z.gaps.length - ax st 11) ⟨_,wC,0,Vg _,fun j _ h=>by omega,rfl⟩ ?_;rintro _ ⟨i,hi,hok,rfl⟩;by_cases hlt:i<z.gaps.length
     .have hno:¬ (0<=z.gaps[i] /\ z.gaps[i]<=cap) -> ¬ xr z cap:=fun h h2=>h (h2.2 i hlt)
      have hok2:(0<=z.gaps[i] /\ z.gaps[i]<=cap) -> ∀ j (h:j<z.gaps.length),j<i+1 -> 0<=z.gaps[j] /\ z.gaps[j]<=cap:=fun h j hj hji=>by
       rcases Vv j i with h2|h2
       .exact hok j hj h2
       .obtain rfl:j=i:=by omega
        exact h
      generalize hg:z.gaps[i]=g at *;by_cases g4:g<0
      .have d4:decide (g<0)=true:=by simpa using g4
       repeat' first|refine gq ?_|simp only [ab,hlt,hg,d4]|decide|refine sp ?_ ?_<;>intro _|refine cA hCap ?_|fail
       all_goals exact cI ⟨false,rfl,by simp;exact fun _ h=>(hno (by omega) h).elim⟩
      .have d4:decide (g<0)=false:=(by simpa using g4);by_cases g5:cap<g
       .have d5:decide (cap<g)=true:=by simpa using g5
        repeat' first|refine gq ?_|simp only [ab,hlt,hg,d4,d5]|decide|refine sp ?_ ?_<;>intro _|refine cA hCap ?_|fail
        all_goals exact cI ⟨false,rfl,by simp;exact fun _ h=>(hno (by omega) h).elim⟩
       .have d5:decide (cap<g)=false:=by simpa using g5
        repeat' first|refine gq ?_|simp only [ab,hlt,hg,d4,d5]|decide|refine sp ?_ ?_<;>intro _|refine cA hCap ?_|fail
        all_goals exact rI wC ⟨i+1,by omega,hok2 ⟨by omega,by omega⟩,rfl⟩
     obtain rfl:i=z.gaps.length:=by omega
     have hG:xr z cap:=⟨g3,fun j hj=>hok j hj hj⟩
     repeat' first|refine gf @hlt ?_|decide|refine sp ?_ ?_<;>intro _
     clear hok hi
     have hFl:(cD z).length=sc.length:=by
      have e1:=oM hF.1 z.cls.length (Os _);rw [Vq] at e1;have e2:=hF.2.2;unfold cD;omega
     have hlt2:∀ i ∈ cD z,i<z.cls.length:=fun i hi=>za _ _ hi;have hgl:=hG.1
     have hRoom:∀ i,i+1<(cD z).length -> ∃ t:Bool,(t=true ↔ n4 z ((cD z).getD i 0) ((cD z).getD (i+1) 0) cap (sc.getD i 0) (sc.getD (i+1) 0)) /\ aw Tryz.prog 147 [.agg (cu z),eI (((cD z).getD i 0:Nat):Int),eI (((cD z).getD (i+1) 0:Nat):Int),eI cap,eI (sc.getD i 0),eI (sc.getD (i+1) 0)] (val (.bool t)):=fun i hi=>by
      have e1:(cD z).getD i 0=(cD z)[i]:=by rw [Vl,f4 (by omega)];rfl
      have e2:(cD z).getD (i+1) 0=(cD z)[i+1]:=by rw [Vl,f4 (by omega)];rfl
      have e3:sc.getD i 0=sc[i]:=by rw [Vl,f4 (by omega)];rfl
      have e4:sc.getD (i+1) 0=sc[i+1]:=by rw [Vl,f4 (by omega)];rfl
      have h5:=Wk.1 (D4 z.cls z.cls.length) i (i+1) (by unfold cD at hi;omega) (by unfold cD at hi;omega) (by omega);have h6:=hlt2 _ (Vf hi);exact lM (QV z _ _ cap _ _ (by rw [e1,e2];exact h5) (by rw [e2];omega) h2 hG.2 ⟨hcap0,hr⟩ (by rw [e3];exact hso _ (Vf _)) (by rw [e4];exact hso _ (Vf _)))
     refine af (fun st=>∃ (i m:Nat) (w:Int),i<=z.cls.length /\ m=(mO z.cls i).length /\ ((m=0 /\ w = -1) \/ (0<m /\ w=(((cD z).getD (m - 1) 0:Nat):Int))) /\ (∀ j,j+1<m -> n4 z ((cD z).getD j 0) ((cD z).getD (j+1) 0) cap (sc.getD j 0) (sc.getD (j+1) 0)) /\ st=⟨100,[(3,eI r),(4,.op 0 0 0),(9,sI sc),(10,eI w),(12,eI (i:Int))],[(0,some (.box 91 (cu z)))],1⟩) (fun st=>z.cls.length - ax st 12) ⟨_,wC,0,0,-1,Vg _,rfl,.inl ⟨rfl,rfl⟩,fun j h=>by omega,rfl⟩ ?_;rintro _ ⟨i,m',w,hi,hm,hw,hok,rfl⟩;by_cases hlt:i<z.cls.length
     .have hsn:=mr z.cls hlt;have hn1:=oM hF.1 i (by omega);have hfa:=Tb hF.1 hlt;have hco:=(hF.1 i hlt).2.2.2;generalize hcc:z.cls[i]=c at *;by_cases g4:c.const = -1
      .have d4:decide (c.const<0)=true:=by rw [g4];rfl
       rw [Vh (by omega)] at hsn
       repeat' first|refine gq ?_|simp only [ab,hlt,hcc,d4]|decide|refine sp ?_ ?_<;>intro _
       all_goals exact rI wC ⟨i+1,m',w,by omega,by rw [hsn];exact hm,hw,hok,rfl⟩
      .have hco2:=hco.resolve_left g4;obtain ⟨j,hj1,hj2,hj3⟩:=hfa g4;obtain rfl:m'=j:=by omega
       have d4:decide (c.const<0)=false:=by rw [hj1];simp
       rw [Vn (by omega)] at hsn;have hm2:m'+1=(mO z.cls (i+1)).length:=by rw [hsn,Vi,<- hm];rfl
       have hwi:((0=m'+1 /\ (i:Int) = -1) \/ (0<m'+1 /\ (i:Int)=(((cD z).getD (m'+1 - 1) 0:Nat):Int))):=.inr ⟨by omega,by rw [WB,Vl,f4 hj2,VH,hj3]⟩;rcases hw with ⟨hm0,hw0⟩|⟨hm0,hw0⟩
       .subst hw0
        repeat' first|refine gq ?_|simp only [ab,hlt,hcc,d4,Int.reduceLE,Int.reduceLT,Int.reduceNeg]|decide|refine sp ?_ ?_<;>intro _|refine cA hCap ?_|fail
        all_goals exact rI wC ⟨i+1,m'+1,i,by omega,hm2,by omega,fun j h=>by omega,rfl⟩
       .obtain ⟨k,rfl⟩:∃ k,m'=k+1:=⟨m' - 1,by omega⟩;obtain ⟨t,ht,hR⟩:=hRoom k hj2;have hi2:(cD z).getD (k+1) 0=i:=(by rw [Vl,f4 hj2,VH,hj3]);have hs0:k<sc.length:=(by omega);have hs1:k+1<sc.length:=(by omega);have e3:sc.getD k 0=sc[k]:=by rw [Vl,f4 hs0];rfl
        have e4:sc.getD (k+1) 0=sc[k+1]:=by rw [Vl,f4 hs1];rfl
        rw [WB] at hw0
        have hok2:n4 z ((cD z).getD k 0) ((cD z).getD (k+1) 0) cap (sc.getD k 0) (sc.getD (k+1) 0) -> ∀ i,i+1<k+1+1 -> n4 z ((cD z).getD i 0) ((cD z).getD (i+1) 0) cap (sc.getD i 0) (sc.getD (i+1) 0):=fun h i h1=>by
         rcases Vv i k with h3|h3
         .exact hok i (by omega)
         .obtain rfl:i=k:=by omega
          exact h
        have hno:¬ n4 z ((cD z).getD k 0) ((cD z).getD (k+1) 0) cap (sc.getD k 0) (sc.getD (k+1) 0) -> ¬ ∀ i,i+1<(cD z).length -> n4 z ((cD z).getD i 0) ((cD z).getD (i+1) 0) cap (sc.getD i 0) (sc.getD (i+1) 0):=fun h h2=>h (h2 k hj2);rw [<- ht] at hok2 hno;rw [<- hw0,hi2,e3,e4] at hR;have f1:sc[k]? = some sc[k]:=f4 hs0;have f2:sc[k+1]? = some sc[k+1]:=f4 hs1;have hw1:0<=w:=(by omega);have d5:decide (0<=w)=true:=VC hw1;have d4b:decide (((k+1:Nat):Int)<0)=false:=by simp only [Vx];omega
        have e5:IntKind.i64.wrap (((k+1:Nat):Int) - 1)=(k:Int):=by rw [aD (by omega) (by omega)];omega
        clear hRoom ht hok hco hfa e3 e4;obtain ⟨x3,hx3⟩:∃ x,sc[k]=x:=⟨_,rfl⟩;obtain ⟨x4,hx4⟩:∃ x,sc[k+1]=x:=⟨_,rfl⟩;rw [hx3,hx4] at hR
        cases t with
        | true=>
         repeat' first|refine gq ?_|simp only [ab,hlt,hcc,d4b,d5,hj1,hs0,hs1,hx3,hx4,e5]|decide|refine sp ?_ ?_<;>intro _|refine cA hCap ?_|refine cA hR ?_|fail
         all_goals exact rI wC ⟨i+1,k+1+1,i,by omega,hm2,by omega,hok2 rfl,rfl⟩
        | false=>
         repeat' first|refine gq ?_|simp only [ab,hlt,hcc,d4b,d5,hj1,hs0,hs1,hx3,hx4,e5]|decide|refine sp ?_ ?_<;>intro _|refine cA hCap ?_|refine cA hR ?_|fail
         all_goals exact cI ⟨false,rfl,⟨fun h=>(by cases h),fun h=>absurd h.2 (hno (by simp))⟩⟩
     .obtain rfl:i=z.cls.length:=by omega
      repeat' first|refine gf @hlt ?_|decide|refine sp ?_ ?_<;>intro _
      all_goals exact cI ⟨true,rfl,by simp;exact ⟨⟨by omega,hG⟩,fun i h=>hok i (by rw [hm];exact h)⟩⟩
    .have d3:((z.gaps.length:Int) != max ((z.cls.length:Int) - 1) 0)=true:=by simpa using g3
     repeat' first|refine gf (kf d1 (kf d2 (kf d3 e1))) ?_|decide|refine sp ?_ ?_<;>intro _|refine cA hS ?_|refine cA hC ?_|fail
     all_goals exact cI ⟨false,rfl,by simp;exact fun _ h=>(g3 h.1).elim⟩
  .have d2:decide (31<n)=true:=by simpa using g2
   repeat' first|refine gf (kf d1 d2) ?_|decide|refine sp ?_ ?_<;>intro _|refine cA hS ?_|fail
   all_goals exact cI ⟨false,rfl,by simp;omega⟩
 .have d1:decide (n<0)=true:=by simpa using g1
  repeat' first|refine gf d1 ?_|decide|refine sp ?_ ?_<;>intro _|refine cA hS ?_|fail
  all_goals exact cI ⟨false,rfl,by simp;omega⟩
end
section
theorem Lh {z:Zn} {cap:Int} {p q:Nat} {A A':List Int} (h:Hi z.gaps p q A A') {i:Nat} (h1:p<=i) (h2:i+1<q):Gk z cap A' i:=by
 have:=h.2.2 (i+1) (by omega) h2;rw [WB] at this;left;omega
theorem Qp {z:Zn} {cap:Int} {w q:Nat} {A A':List Int} (h:JB z.gaps w q A A') {i:Nat} (h1:w<=i) (h2:i<q):Gk z cap A' i:=by
 have:=h.2.2 i h1 h2;left;omega
theorem Lx {z:Zn} {cap:Int} {A A':List Int} {i:Nat} (h:Gk z cap A i) (h1:A'.getD i 0=A.getD i 0) (h2:A'.getD (i+1) 0=A.getD (i+1) 0):Gk z cap A' i:=by
 unfold Gk at *;rw [h1,h2];exact h
def Tr (A:List Int):Prop:=∀ i,-4398046511104<=A.getD i 0 /\ A.getD i 0<=4398046511104
def R8 (z:Zn) (sc:List Int):Prop:=z.cls.length<=40 /\ (∀ i,0<=z.gaps.getD i 0 /\ z.gaps.getD i 0<=1048576) /\ ∀ t,-1099511627776<=sc.getD t 0 /\ sc.getD t 0<=1099511627776
theorem Hi.bd {g:List Int} {p q:Nat} {A A':List Int} (h:Hi g p q A A') (hpq:p<q) (hq:q<=42) (hg:∀ i,0<=g.getD i 0 /\ g.getD i 0<=1048576) (hp:-1099511627776<=A.getD p 0 /\ A.getD p 0<=1099511627776) (hb:Tr A):Tr A':=fun i=>by
 by_cases h1:i<=p \/ q<=i
 .rw [h.2.1 i h1];exact hb i
 .have h2:=h.bound hpq 1048576 hg (i - p) (by omega);rw [show p+(i - p)=i by omega] at h2;omega
theorem JB.bd {g:List Int} {w q:Nat} {A A':List Int} (h:JB g w q A A') (hq:q<=42) (hg:∀ i,0<=g.getD i 0 /\ g.getD i 0<=1048576) (hp:-1099511627776<=A.getD q 0 /\ A.getD q 0<=1099511627776) (hb:Tr A):Tr A':=fun i=>by
 by_cases h1:i<w \/ q<=i
 .rw [h.2.1 i h1];exact hb i
 .have h2:=h.bound 1048576 hg (q - i) (by omega) (by omega);rw [show q - (q - i)=i by omega] at h2;omega
structure kO (z:Zn) (sc:List Int) (cap:Int) (A:List Int) (gB:Nat):Prop where
 len:A.length=z.cls.length
 fix:∀ t,t<(cD z).length -> A.getD ((cD z).getD t 0) 0=sc.getD t 0
 gap:∀ i,i<gB -> Gk z cap A i
 bd:Tr A
theorem PW (z:Zn) {s t:Nat} (hst:s<t) (ht:t<(cD z).length):(cD z).getD s 0<(cD z).getD t 0:=by
 have:=Wk.1 (D4 z.cls z.cls.length) s t (by show s<(cD z).length;omega) ht hst;rw [Vl,Vl,f4 ht,f4 (by omega)];exact this
theorem IW (z:Zn) {s t:Nat} (hst:s<=t) (ht:t<(cD z).length):(cD z).getD s 0<=(cD z).getD t 0:=by
 rcases Nat.eq_or_lt_of_le hst with rfl|h
 .exact Os _
 .exact Wq (PW z h ht)
theorem Dy (z:Zn) {t:Nat} (ht:t<(cD z).length):(cD z).getD t 0<z.cls.length:=by
 rw [Vl,f4 ht];exact za _ _ (Vf ht)
theorem kO.down {z:Zn} {sc:List Int} {cap:Int} {A A':List Int} (h:kO z sc cap A 0) (h0:0<(cD z).length) (hD:JB z.gaps 0 ((cD z).getD 0 0) A A') (hB:R8 z sc):kO z sc cap A' ((cD z).getD 0 0):=
 ⟨hD.1.trans h.len,fun t ht=>by rw [hD.2.1 _ (.inr (IW z (Vg _) ht))];exact h.fix t ht,fun i hi=>Qp hD (Vg _) hi,hD.bd (by have:=Dy z h0;have:=hB.1;omega) hB.2.1 (by rw [h.fix 0 h0];exact hB.2.2 0) h.bd⟩
theorem kO.up {z:Zn} {sc:List Int} {cap:Int} {A A':List Int} {k:Nat} (h:kO z sc cap A ((cD z).getD k 0)) (hk:k+1=(cD z).length) (hU:Hi z.gaps ((cD z).getD k 0) (max z.cls.length ((cD z).getD k 0+1)) A A') (hB:R8 z sc):kO z sc cap A' (z.cls.length - 1):=by
 have hz:=hB.1;have hq:=Dy z (t:=k) (by omega);have hb2:Tr A':=hU.bd (by omega) (by omega) hB.2.1 (by rw [h.fix k (by omega)];exact hB.2.2 k) h.bd;have hsame:∀ i,i<=(cD z).getD k 0 -> A'.getD i 0=A.getD i 0:=fun i hi=>hU.2.1 i (.inl hi);refine ⟨hU.1.trans h.len,fun t ht=>?_,fun i hi=>?_,hb2⟩
 .rw [hsame _ (IW z (by omega) (by omega))];exact h.fix t ht
 .rcases Vv i ((cD z).getD k 0) with h1 | h1
  .exact Lx (h.gap i h1) (hsame i (by omega)) (hsame (i+1) (by omega))
  .exact Lh hU h1 (by omega)
theorem kO.none {z:Zn} {sc:List Int} {cap:Int} {A A':List Int} (h:kO z sc cap A 0) (hU:Hi z.gaps 0 (max z.cls.length 1) A A') (h0:(cD z).length=0) (hz:A.getD 0 0=0) (hB:R8 z sc):kO z sc cap A' (z.cls.length - 1):=
 ⟨hU.1.trans h.len,fun t ht=>by omega,fun i hi=>Lh hU (Vg _) (by omega),hU.bd (by omega) (by have:=hB.1;omega) hB.2.1 (by rw [hz];omega) h.bd⟩
end
section
theorem FB (l:List ah) (h:∀ x ∈ l,x.ok):∀ n ∈ cC l,aI n:=fun n hn=>by
 obtain ⟨x,hx,hm⟩:=V6.1 hn;have hxo:=h x hx;unfold ky at hm;split at hm
 .rcases Vp.1 hm with hm | hm
  .split at hm
   .simp at hm;rw [hm];exact hxo.2.2.1
   .cases hm
  .split at hm
   .simp at hm;rw [hm];exact hxo.2.2.2.2.1
   .cases hm
 .cases hm
end
section
def ff (l:List ah):List Int:=bV (cC l)
def fj (m:bk) (p:List ah):List Int:=bV ((ff p ++ m.guards.flatMap fun g=>ff g.cond) ++ m.miles.flatMap fun g=>ff g.cond)
theorem kl (l:List ah):(ff l).length<=2 * l.length:=by
 have h1:=fy (cC l);have h2:=kX l;unfold ff;omega
theorem pR {α:Type} (f:α -> List Int) (g:α -> Nat) (h:∀ x,(f x).length<=2 * g x):∀ l:List α,(l.flatMap f).length<=2 * (l.map g).sum
 | []=>by simp
 | x :: l=>by
  have h1:=h x;have h2:=pR f g h l;simp only [Ww,Vi,VY,XN];omega
theorem ve {α:Type} (f:α -> List Int) (l:List α) (k:Nat):((l.take k).flatMap f).length<=(l.flatMap f).length:=by
 conv=>rhs;rw [<- WX k l,Wy,Vi]
 omega
theorem yl {α:Type} (g:α -> Nat) {l:List α} {x:α} (h:x ∈ l):g x<=(l.map g).sum:=by
 induction l with
 | nil=>cases h
 | cons y l ih=>
  simp only [VY,XN]
  cases V8.1 h with
  | inl e=>subst e;omega
  | inr e=>have:=ih e;omega
theorem sQ {α:Type} (f:α -> List Int) (l:List α) {k:Nat} (h:k<l.length):(l.take (k+1)).flatMap f=(l.take k).flatMap f ++ f l[k]:=by
 rw [Vk h,Wy];simp
theorem uN (m:bk) (p:List ah) (hg:m.guards.length<=11000000) (hm:m.miles.length<=11000000) (hT:p.length+(m.guards.map fun g=>g.cond.length).sum+(m.miles.map fun g=>g.cond.length).sum<=1100000):aw Tryz.prog 6 [.agg (aW m),aR p] ⟨sI (fj m p),[],0⟩:=by
 have hok:(⟨sI (fj m p),[],0⟩:cM).Ok:=⟨fun id o h=>(by cases h),by simp [AV.lt]⟩;refine aa ag Tryz.func6 rfl (by decide) Tryz.ntmps6 Tryz.results6 rfl (hok) ?_;have hgc:∀ g ∈ m.guards,g.cond.length<=1100000:=fun g hg=>by have:=yl (fun g:Gd=>g.cond.length) hg;omega
 have hmc:∀ g ∈ m.miles,g.cond.length<=1100000:=fun g hg=>by have:=yl (fun g:Ml=>g.cond.length) hg;omega
 have hN:aw Tryz.prog 15 [aR p] ⟨sI (ff p),[],0⟩:=lQ p (by omega);have hpl:=kl p;obtain ⟨f,hf⟩:∃ f,f=fun g:Gd=>ff g.cond:=⟨_,rfl⟩;obtain ⟨g2,hg2⟩:∃ f,f=fun g:Ml=>ff g.cond:=⟨_,rfl⟩
 have hfl:∀ k,((m.guards.take k).flatMap f).length<=2 * (m.guards.map fun g=>g.cond.length).sum:=fun k=>by
  rw [hf];exact Vz (ve _ _ k) (pR (fun g:Gd=>ff g.cond) (fun g=>g.cond.length) (fun x=>kl x.cond) m.guards)
 have hgl:∀ k,((m.miles.take k).flatMap g2).length<=2 * (m.miles.map fun g=>g.cond.length).sum:=fun k=>by
  rw [hg2];exact Vz (ve _ _ k) (pR (fun g:Ml=>ff g.cond) (fun g=>g.cond.length) (fun x=>kl x.cond) m.miles)
 have hC:fj m p=bV ((ff p ++ m.guards.flatMap f) ++ m.miles.flatMap g2):=by rw [hf,hg2];rfl
 rw [hC]
 have hlt1:(ff p ++ m.guards.flatMap f).length<=2200000:=by
  have:=hfl m.guards.length;rw [Vq] at this;rw [Vi];omega
 have hlt2:((ff p ++ m.guards.flatMap f) ++ m.miles.flatMap g2).length<=4400000:=by
  have:=hgl m.miles.length;rw [Vq] at this;rw [Vi];omega
 have hS:=fY ((ff p ++ m.guards.flatMap f) ++ m.miles.flatMap g2) (by omega)
 repeat' first|refine gq ?_|decide|refine sp ?_ ?_<;>intro _|refine cA hN ?_|(with_reducible apply And.intro)
 all_goals first
  | rfl
  | omega
  | skip
 refine af (fun st=>∃ k:Nat,k<=m.guards.length /\ st=⟨46,[(2,.op 0 0 0),(5,.osl 1),(6,eI (k:Int))],[(0,some (.box 32 (aW m))),(1,some (.row 2 1 ((ff p ++ (m.guards.take k).flatMap f).map fun n=>[eI n])))],2⟩) (fun st=>m.guards.length - ax st 6) ⟨_,(wS [0,2] (kf @VA @Wl)),0,Vg _,rfl⟩ ?_;rintro _ ⟨k,hk,rfl⟩;by_cases hlt:k<m.guards.length
 .obtain ⟨x,hx⟩:∃ x,m.guards[k]=x:=⟨_,rfl⟩;have hxc:=hgc x (hx ▸ Vf hlt);have hNx:aw Tryz.prog 15 [aR x.cond] ⟨sI (ff x.cond),[],0⟩:=lQ x.cond (by omega)
  have hsn:(ff p ++ (m.guards.take (k+1)).flatMap f).map (fun n=>[eI n])=(ff p ++ (m.guards.take k).flatMap f).map (fun n=>[eI n]) ++ (ff x.cond).map (fun n=>[eI n]):=by
   rw [sQ f _ hlt,hx,<- VZ,VE,hf]
  have hl1:(ff p ++ (m.guards.take k).flatMap f).length<=2200000:=by have:=hfl k;rw [Vi];omega
  have hl2:=kl x.cond
  repeat' first|refine gq ?_|simp only [ab,hlt,hx]|decide|refine sp ?_ ?_<;>intro _|refine cA hNx ?_|(with_reducible apply And.intro)
  all_goals first
   | rfl
   | omega
   | exact rI (wS [0,2] @hsn) ⟨k+1,by omega,rfl⟩
 .obtain rfl:k=m.guards.length:=by omega
  rw [Vq];obtain ⟨O,hO⟩:∃ O,ff p ++ m.guards.flatMap f=O:=⟨_,rfl⟩;rw [hO] at hlt1 hlt2 hS ⊢
  repeat' first|refine gf @hlt ?_|decide|refine sp ?_ ?_<;>intro _
  refine af (fun st=>∃ k:Nat,k<=m.miles.length /\ st=⟨46,[(2,.op 0 0 0),(5,.osl 1),(7,eI (k:Int))],[(0,some (.box 32 (aW m))),(1,some (.row 2 1 ((O ++ (m.miles.take k).flatMap g2).map fun n=>[eI n])))],2⟩) (fun st=>m.miles.length - ax st 7) ⟨_,(wE (kf @VA @Wl)),0,Vg _,rfl⟩ ?_;rintro _ ⟨k,hk2,rfl⟩;by_cases hlt3:k<m.miles.length
  .obtain ⟨x,hx⟩:∃ x,m.miles[k]=x:=⟨_,rfl⟩;have hxc:=hmc x (hx ▸ Vf hlt3);have hNx:aw Tryz.prog 15 [aR x.cond] ⟨sI (ff x.cond),[],0⟩:=lQ x.cond (by omega)
   have hsn:(O ++ (m.miles.take (k+1)).flatMap g2).map (fun n=>[eI n])=(O ++ (m.miles.take k).flatMap g2).map (fun n=>[eI n]) ++ (ff x.cond).map (fun n=>[eI n]):=by
    rw [sQ g2 _ hlt3,hx,<- VZ,VE,hg2]
   have hl1:(O ++ (m.miles.take k).flatMap g2).length<=4400000:=by have:=hgl k;rw [Vi];omega
   have hl2:=kl x.cond
   repeat' first|refine gq ?_|simp only [ab,hlt3,hx]|decide|refine sp ?_ ?_<;>intro _|refine cA hNx ?_|(with_reducible apply And.intro)
   all_goals first
    | rfl
    | omega
    | exact rI (wS [0,2] @hsn) ⟨k+1,by omega,rfl⟩
  .obtain rfl:k=m.miles.length:=by omega
   rw [Vq]
   repeat' first|refine ge @hlt3 ?_|decide|refine sp ?_ ?_<;>intro _
   refine u2 [1] (R:=⟨sI (bV (O ++ m.miles.flatMap g2)),[],0⟩) ?_ ?_ ?_
   .repeat' first|decide|refine go ?_
    exact hS
   .repeat' first|decide|refine go ?_
    left;simp [dJ,eU,aM,aU]
   .repeat' first|refine gq ?_|decide|refine sp ?_ ?_<;>intro _
    all_goals exact aX (by first|rfl|simp [AV.ren,AV.renL])
theorem HI (m:bk) (p:List ah) (hp:p.length<=400) (hg:m.guards.length<=14) (hm:m.miles.length<=10) (hgc:∀ g ∈ m.guards,g.cond.length<=80) (hmc:∀ g ∈ m.miles,g.cond.length<=80):aw Tryz.prog 6 [.agg (aW m),aR p] ⟨sI (fj m p),[],0⟩:=by
 have h:∀ (α:Type) (f:α -> Nat) (l:List α),(∀ x ∈ l,f x<=80) -> (l.map f).sum<=80 * l.length:=fun α f l=>by
  induction l with
  | nil=>simp
  | cons x l ih=>
   intro h;have:=h x (V1 ..);have:=ih fun y hy=>h y (VT _ hy);simp only [VY,XN,VI];omega
 have:=h _ (fun g:Gd=>g.cond.length) m.guards hgc;have:=h _ (fun g:Ml=>g.cond.length) m.miles hmc;exact uN m p (by omega) (by omega) (by omega)
end
end
section
section
def wz (c:List Int) (i:Nat):Int:=if i<c.length /\ 0<c.getD i 0 then c.getD i 0 else 0
def L8 (m:bk) (c:List Int) (k:Nat):Int:=(max 0 ((m.events[k]?.map (·.times)).getD 0 - wz c k)).toNat * (((m.events[k]?.map (·.sets.length)).getD 0:Nat):Int)
def fk (m:bk) (c:List Int):Nat -> Int
 | 0=>0
 | k+1=>fk m c k+L8 m c k
theorem zd (c:List Int) (i:Nat):0<=wz c i:=by
 unfold wz;split<;>omega
theorem GW (m:bk) (c:List Int) (he:m.events.length<=10) (hm:∀ e ∈ m.events,e.times<=1000 /\ e.sets.length<=10) (hc:c.length<=1000000):aw Tryz.prog 74 [.agg (aW m),sI c] (val (.int .i64 (fk m c m.events.length))):=by
 refine aa ag Tryz.func74 rfl (by decide) Tryz.ntmps74 Tryz.results74 rfl (aL _) ?_
 repeat' first|refine go ?_|decide|refine sp ?_ ?_<;>intro _
 refine af (fun st=>∃ (k:Nat) (n:Int),k<=m.events.length /\ n=fk m c k /\ 0<=n /\ n<=10000 * k /\ st=⟨50,[(1,sI c),(2,.op 0 0 0),(5,eI n),(6,eI (k:Int))],[(0,some (.box 32 (aW m)))],1⟩) (fun st=>m.events.length - ax st 6) ⟨_,wC,0,0,Vg _,rfl,by omega,by omega,rfl⟩ ?_;rintro _ ⟨k,n,hk,hn,hn0,hn1,rfl⟩;by_cases hlt:k<m.events.length
 .obtain ⟨e,hev⟩:∃ e,m.events[k]=e:=⟨_,rfl⟩;obtain ⟨ht,hs⟩:=hm e (hev ▸ Vf hlt);have hw0:=zd c k
  have hE:L8 m c k=(max 0 (e.times - wz c k)).toNat * (e.sets.length:Int):=by
   unfold L8;rw [f4 hlt,hev];rfl
  obtain ⟨w,hw⟩:∃ w,wz c k=w:=⟨_,rfl⟩;rw [hw] at hE hw0;obtain ⟨J,hJ⟩:∃ J,(max 0 (e.times - w)).toNat=J:=⟨_,rfl⟩;rw [hJ] at hE;have hJ10:J<=100000:=by omega
  obtain ⟨S,hS⟩:∃ S,e.sets.length=S:=⟨_,rfl⟩;rw [hS] at hE hs;by_cases hkc:k<c.length
  .by_cases hpos:0<c[k]
   .have hwc:c[k]=w:=by
     rw [<- hw,wz,Vn ⟨hkc,by rw [Vl,f4 hkc];exact hpos⟩,Vl,f4 hkc];rfl
    have d1:decide (0<w)=true:=by rw [<- hwc];simpa using hpos
    repeat' first|refine gq ?_|simp only [ab,hlt,hkc,hwc,d1]|decide|refine sp ?_ ?_<;>intro _
    refine af (fun st=>∃ (j:Nat) (was q:Int),j<=J /\ was=w+j /\ q=n+((j * S:Nat):Int) /\ st=⟨50,[(1,sI c),(2,.op 0 0 0),(5,eI q),(6,eI (k:Int)),(7,eI was)],[(0,some (.box 32 (aW m)))],1⟩) (fun st=>1000 - ax st 7) ⟨_,wC,0,w,n,Vg _,by omega,by simp,rfl⟩ ?_;rintro _ ⟨j,was,q,hj,hwas,hq,rfl⟩;have hjs:j * S<=1000 * 10:=Xk (by omega) (by omega);by_cases hlw:was<e.times
    .have d2:decide (was<e.times)=true:=(by simpa using hlw);have ew1:IntKind.i64.wrap (q+(S:Int))=q+(S:Int):=aD (by omega) (by omega);have ew2:IntKind.i64.wrap (was+1)=was+1:=aD (by omega) (by omega);have hss:(j+1) * S=j * S+S:=Xh j S
     repeat' first|refine gq ?_|simp only [ab,hlt,hev,hS,d2,ew1,ew2]|decide|refine sp ?_ ?_<;>intro _
     exact rI wC ⟨j+1,was+1,q+(S:Int),by omega,by omega,by rw [hss];omega,rfl⟩
    .have d2:decide (was<e.times)=false:=(by simpa using hlw);obtain rfl:j=J:=by omega
     have hev2:L8 m c k=((j * S:Nat):Int):=by rw [hE];simp
     repeat' first|refine gq ?_|simp only [ab,hlt,hev,d2]|decide|refine sp ?_ ?_<;>intro _
     exact rI wC ⟨k+1,q,by omega,by rw [fk,hev2,<- hn,hq],by omega,by omega,rfl⟩
   .have d1:decide (0<c[k])=false:=(by simpa using hpos);obtain rfl:w=0:=by rw [<- hw,wz,Vh (by rw [Vl,f4 hkc];exact fun h=>hpos h.2)]
    repeat' first|refine gq ?_|simp only [ab,hlt,hkc,d1]|decide|refine sp ?_ ?_<;>intro _
    refine af (fun st=>∃ (j:Nat) (was q:Int),j<=J /\ was=0+(j:Int) /\ q=n+((j * S:Nat):Int) /\ st=⟨50,[(1,sI c),(2,.op 0 0 0),(5,eI q),(6,eI (k:Int)),(7,eI was)],[(0,some (.box 32 (aW m)))],1⟩) (fun st=>1000 - ax st 7) ⟨_,wC,0,0,n,Vg _,by omega,by simp,rfl⟩ ?_;rintro _ ⟨j,was,q,hj,hwas,hq,rfl⟩;have hjs:j * S<=1000 * 10:=Xk (by omega) (by omega);by_cases hlw:was<e.times
    .have d2:decide (was<e.times)=true:=(by simpa using hlw);have ew1:IntKind.i64.wrap (q+(S:Int))=q+(S:Int):=aD (by omega) (by omega);have ew2:IntKind.i64.wrap (was+1)=was+1:=aD (by omega) (by omega);have hss:(j+1) * S=j * S+S:=Xh j S
     repeat' first|refine gq ?_|simp only [ab,hlt,hev,hS,d2,ew1,ew2]|decide|refine sp ?_ ?_<;>intro _
     exact rI wC ⟨j+1,was+1,q+(S:Int),by omega,by omega,by rw [hss];omega,rfl⟩
    .have d2:decide (was<e.times)=false:=(by simpa using hlw);obtain rfl:j=J:=by omega
     have hev2:L8 m c k=((j * S:Nat):Int):=by rw [hE];simp
     repeat' first|refine gq ?_|simp only [ab,hlt,hev,d2]|decide|refine sp ?_ ?_<;>intro _
     exact rI wC ⟨k+1,q,by omega,by rw [fk,hev2,<- hn,hq],by omega,by omega,rfl⟩
  .obtain rfl:w=0:=by rw [<- hw,wz,Vh (fun h=>hkc h.1)]
   repeat' first|refine gq ?_|simp only [ab,hlt,hkc]|decide|refine sp ?_ ?_<;>intro _
   refine af (fun st=>∃ (j:Nat) (was q:Int),j<=J /\ was=0+(j:Int) /\ q=n+((j * S:Nat):Int) /\ st=⟨50,[(1,sI c),(2,.op 0 0 0),(5,eI q),(6,eI (k:Int)),(7,eI was)],[(0,some (.box 32 (aW m)))],1⟩) (fun st=>1000 - ax st 7) ⟨_,wC,0,0,n,Vg _,by omega,by simp,rfl⟩ ?_;rintro _ ⟨j,was,q,hj,hwas,hq,rfl⟩;have hjs:j * S<=1000 * 10:=Xk (by omega) (by omega);by_cases hlw:was<e.times
   .have d2:decide (was<e.times)=true:=(by simpa using hlw);have ew1:IntKind.i64.wrap (q+(S:Int))=q+(S:Int):=aD (by omega) (by omega);have ew2:IntKind.i64.wrap (was+1)=was+1:=aD (by omega) (by omega);have hss:(j+1) * S=j * S+S:=Xh j S
    repeat' first|refine gq ?_|simp only [ab,hlt,hev,hS,d2,ew1,ew2]|decide|refine sp ?_ ?_<;>intro _
    exact rI wC ⟨j+1,was+1,q+(S:Int),by omega,by omega,by rw [hss];omega,rfl⟩
   .have d2:decide (was<e.times)=false:=(by simpa using hlw);obtain rfl:j=J:=by omega
    have hev2:L8 m c k=((j * S:Nat):Int):=by rw [hE];simp
    repeat' first|refine gq ?_|simp only [ab,hlt,hev,d2]|decide|refine sp ?_ ?_<;>intro _
    exact rI wC ⟨k+1,q,by omega,by rw [fk,hev2,<- hn,hq],by omega,by omega,rfl⟩
 .obtain rfl:k=m.events.length:=by omega
  repeat' first|refine gf @hlt ?_|decide|refine sp ?_ ?_<;>intro _
  exact hn
end
section
theorem sD (m:bk) (c:List Int) (he:m.events.length<=10) (hm:∀ e ∈ m.events,e.times<=10 /\ e.sets.length<=10) (hc:c.length<=1000000):aw Tryz.prog 74 [.agg (aW m),sI c] (val (.int .i64 (fk m c m.events.length))):=
 GW m c he (fun e h=>⟨by have:=(hm e h).1;omega,(hm e h).2⟩) hc
end
section
def qw (m:bk) (c:List Int) (s:St):Nd:=⟨o6 s.vals c (fk m s.cnt m.events.length),s.opn,s.don,s.did,s.cnt⟩
theorem Lv (m:bk) (c:List Int) (s:St) (he:m.events.length<=10) (hm:∀ e ∈ m.events,e.times<=10 /\ e.sets.length<=10) (h1:s.vals.length<=31) (h2:c.length<=400) (hv:∀ x ∈ s.vals,aI x) (hc:∀ x ∈ c,aI x) (h3:s.did.length<=1000000) (h4:s.cnt.length<=1000000):aw Tryz.prog 70 [.agg (aW m),sI c,.agg (gE s)] ⟨.agg (jR (qw m c s)),[],0⟩:=by
 have hL:=sD m s.cnt he hm h4;have hO:=Hz s.vals c (fk m s.cnt m.events.length) h1 h2 hv hc;unfold qw;obtain ⟨z,hz⟩:∃ z,o6 s.vals c (fk m s.cnt m.events.length)=z:=⟨_,rfl⟩;rw [hz] at hO ⊢;refine aw.still (R:=⟨.agg [.sl 2 (z.cls.map cK),sI z.gaps,eI s.opn,eI s.don,.osl 0,.osl 1],[(0,some (.row 3 1 (s.did.map fun n=>[eI n]))),(1,some (.row 3 1 (s.cnt.map fun n=>[eI n])))],2⟩) [0,1] ?_ (by simp [cM.frzs,cM.frz,ae.gc,AV.frz,AV.frzL,b9,aE.frz]) (by simp [AV.lt,AV.ltL]);refine aa ag Tryz.func70 rfl (by decide) Tryz.ntmps70 Tryz.results70 rfl (kC (by simp [cO,aE.lt,AV.ltL,AV.lt]) (by simp [AV.lt,AV.ltL])) ?_
 repeat' first|refine go ?_|decide|refine sp ?_ ?_<;>intro _
 refine ap [2] [0,1,2,3,4,5,8,9,10,11,13,14,17,18] (.three 6 (.three 7 (.two 12 (.two 15 (.exec 16 (.exec 19 (.take 20 (.exec 21 .done)))) 16 (.exec 15 (.exec 19 (.take 20 (.exec 21 .done))))) 16 (.exec 12 (.exec 15 (.exec 19 (.take 20 (.exec 21 .done)))))) 12 (.two 7 (.two 15 (.exec 16 (.exec 19 (.take 20 (.exec 21 .done)))) 16 (.exec 15 (.exec 19 (.take 20 (.exec 21 .done))))) 16 (.exec 7 (.exec 15 (.exec 19 (.take 20 (.exec 21 .done)))))) 16 (.two 7 (.exec 12 (.exec 15 (.exec 19 (.take 20 (.exec 21 .done))))) 12 (.exec 7 (.exec 15 (.exec 19 (.take 20 (.exec 21 .done))))))) 12 (.two 6 (.two 7 (.two 15 (.exec 16 (.exec 19 (.take 20 (.exec 21 .done)))) 16 (.exec 15 (.exec 19 (.take 20 (.exec 21 .done))))) 16 (.exec 7 (.exec 15 (.exec 19 (.take 20 (.exec 21 .done)))))) 16 (.exec 6 (.exec 7 (.exec 15 (.exec 19 (.take 20 (.exec 21 .done))))))) 16 (.two 6 (.two 7 (.exec 12 (.exec 15 (.exec 19 (.take 20 (.exec 21 .done))))) 12 (.exec 7 (.exec 15 (.exec 19 (.take 20 (.exec 21 .done)))))) 12 (.exec 6 (.exec 7 (.exec 15 (.exec 19 (.take 20 (.exec 21 .done)))))))) (by kernel_rfl) (by simp [ae.gc]) ?_
 repeat' first|refine gq ?_|decide|refine sp ?_ ?_<;>intro _|refine cA hL ?_|refine cA hO ?_|(with_reducible apply And.intro)
 all_goals first
  | omega
  | rfl
  | exact ⟨[4,6],by decide,rfl,by simp [cH,ae.gc]⟩
  | exact ⟨[5,6],by decide,rfl,by simp [cH,ae.gc]⟩
  | exact ⟨[6,5],by decide,rfl,by simp [cH,ae.gc]⟩
  | exact ⟨[6,4],by decide,rfl,by simp [cH,ae.gc]⟩
end
section
theorem z9 (m:bk):(eD m).vals=m.inits /\ (eD m).did.length=m.events.length /\ (eD m).cnt.length=m.events.length:=by
 have h:=pV m (-1) (m.order.take m.order.length) (kx m);unfold eD mb;rw [h.1,h.2.1,h.2.2];simp [kx]
theorem wZ (m:bk) (c:List Int) (hf:ur m) (hp:∀ p ∈ m.stages,aI p.2) (hi:∀ x ∈ m.inits,aI x) (hm:∀ e ∈ m.events,e.times<=10 /\ e.sets.length<=10) (h2:c.length<=400) (hc:∀ x ∈ c,aI x):aw Tryz.prog 33 [.agg (aW m),sI c] ⟨.agg (jR (qw m c (eD m))),[],0⟩:=by
 obtain ⟨-,-,-,hel,-,-,-,-,-,hil⟩:=id hf.sizes;obtain ⟨e1,e2,e3⟩:=z9 m;have hB:=GB m hf hp;have hO:=Lv m c (eD m) hel hm (by rw [e1];omega) h2 (by rw [e1];exact hi) hc (by omega) (by omega);have hok:(⟨.agg (jR (qw m c (eD m))),[],0⟩:cM).Ok:=⟨fun id o h=>(by cases h),by simp [AV.lt,AV.ltL]⟩;generalize qw m c (eD m)=nd at *;refine aa ag Tryz.func33 rfl (by decide) Tryz.ntmps33 Tryz.results33 rfl (hok) ?_
 repeat' first|refine go ?_|decide|refine sp ?_ ?_<;>intro _
 refine ap [1] [0,1,2] (.exec 3 (.exec 4 (.exec 5 .done))) (by kernel_rfl) (by simp [ae.gc]) ?_
 repeat' first|refine gq ?_|decide|refine sp ?_ ?_<;>intro _|refine cA hB ?_|refine cA hO ?_|(with_reducible apply And.intro)
 all_goals exact aX (by first|rfl|simp [AV.ren,AV.renL])
end
section
def vg (m:bk) (n:Nd):St:=⟨List.replicate m.attrs.length 0,n.opn,n.don,n.did,n.cnt⟩
def Dz (m:bk) (c:List Int) (n:Nd):Prop:=yk m (vg m n)=true /\ Ce n.z (m.attrs.length:Int) c (fk m n.cnt m.events.length)
end
section
theorem Nn:(0:Int)<((4:Nat):Int):=by decide
theorem OU:(1:Int)<((4:Nat):Int):=by decide
theorem Ny:(2:Int)<((4:Nat):Int):=by decide
theorem MA:(3:Int)<((4:Nat):Int):=by decide
def lF (m:bk) (x:ah):Bool:=
 if (decide (3<=x.op) && decide (x.op<=8))=true then decide (-1<=x.la) && decide (x.la<(m.attrs.length:Int)) && decide (-1<=x.ra) && decide (x.ra<(m.attrs.length:Int))
 else if (decide (x.op<9) || decide (12<x.op))=true then true
 else decide (0<=x.n) && decide (x.n<(if x.op=9 then (m.stages.length:Int) else if x.op=10 then (m.miles.length:Int) else (m.events.length:Int))) && (x.op != 12 || (decide (0<=x.u) && decide (x.u<(m.users.length:Int))))
theorem KX (m:bk) (x:ah):aw Tryz.prog 106 [.agg (aW m),.agg (bX x)] (val (.bool (lF m x))):=by
 refine aa ag Tryz.func106 rfl (by decide) Tryz.ntmps106 Tryz.results106 rfl (aL _) ?_;obtain ⟨op,la,ln,ra,rn,n,u⟩:=x;by_cases h1:3<=op /\ op<=8
 .have e1:decide (3<=op)=true:=by simp;omega
  have e2:decide (op<=8)=true:=by simp;omega
  have eR:lF m ⟨op,la,ln,ra,rn,n,u⟩=(decide (-1<=la) && decide (la<(m.attrs.length:Int)) && decide (-1<=ra) && decide (ra<(m.attrs.length:Int))):=by simp [lF,h1]
  rw [eR]
  repeat' first|refine ge (kf e1 e2) ?_|decide|refine sp ?_ ?_<;>intro _
  all_goals (rename_i h;simp at h;first|(simp_all;done)|(simp_all;omega))
 .by_cases h2:op<9 \/ 12<op
  .have eR:lF m ⟨op,la,ln,ra,rn,n,u⟩=true:=by
    rcases h2 with h2|h2<;>simp [lF,h2]<;>omega
   rw [eR]
   repeat' first|refine go ?_|decide|refine sp ?_ ?_<;>intro _
   all_goals first|rfl|(exfalso;simp at *;omega)
  .have h3:op=9 \/ op=10 \/ op=11 \/ op=12:=(by omega);rcases h3 with rfl|rfl|rfl|rfl
   .have e1:decide ((3:Int)<=9)=true:=(by decide);have e2:decide ((9:Int)<=8)=false:=(by decide);have e3:decide ((9:Int)<9)=false:=(by decide);have e4:decide ((12:Int)<9)=false:=(by decide);have e5:((9:Int) != 12)=true:=(by decide);have ew:IntKind.i64.wrap ((9:Int) - 9)=0:=(by decide)
    repeat' first|refine ge (kf e1 (kf e2 (kf e3 (kf e4 (kf e5 ew))))) ?_|decide|refine sp ?_ ?_<;>intro _
    refine ⟨rfl,aA (by kernel_rfl) ?_⟩
    repeat' first|refine go ?_|simp only [e1,e2,e3,e4,e5,ew,Nn,OU,Ny,MA,Int.reduceLE,Int.reduceLT,Xx,Int.toNat_one,Int.reduceToNat,WO,WM,VH]|decide|refine sp ?_ ?_<;>intro _
    all_goals first|(simp_all [lF];done)|(simp_all [lF];omega)
   .have e1:decide ((3:Int)<=10)=true:=(by decide);have e2:decide ((10:Int)<=8)=false:=(by decide);have e3:decide ((10:Int)<9)=false:=(by decide);have e4:decide ((12:Int)<10)=false:=(by decide);have e5:((10:Int) != 12)=true:=(by decide);have ew:IntKind.i64.wrap ((10:Int) - 9)=1:=(by decide)
    repeat' first|refine ge (kf e1 (kf e2 (kf e3 (kf e4 (kf e5 ew))))) ?_|decide|refine sp ?_ ?_<;>intro _
    refine ⟨rfl,aA (by kernel_rfl) ?_⟩
    repeat' first|refine go ?_|simp only [e1,e2,e3,e4,e5,ew,Nn,OU,Ny,MA,Int.reduceLE,Int.reduceLT,Xx,Int.toNat_one,Int.reduceToNat,WO,WM,VH]|decide|refine sp ?_ ?_<;>intro _
    all_goals first|(simp_all [lF];done)|(simp_all [lF];omega)
   .have e1:decide ((3:Int)<=11)=true:=(by decide);have e2:decide ((11:Int)<=8)=false:=(by decide);have e3:decide ((11:Int)<9)=false:=(by decide);have e4:decide ((12:Int)<11)=false:=(by decide);have e5:((11:Int) != 12)=true:=(by decide);have ew:IntKind.i64.wrap ((11:Int) - 9)=2:=(by decide)
    repeat' first|refine ge (kf e1 (kf e2 (kf e3 (kf e4 (kf e5 ew))))) ?_|decide|refine sp ?_ ?_<;>intro _
    refine ⟨rfl,aA (by kernel_rfl) ?_⟩
    repeat' first|refine go ?_|simp only [e1,e2,e3,e4,e5,ew,Nn,OU,Ny,MA,Int.reduceLE,Int.reduceLT,Xx,Int.toNat_one,Int.reduceToNat,WO,WM,VH]|decide|refine sp ?_ ?_<;>intro _
    all_goals first|(simp_all [lF];done)|(simp_all [lF];omega)
   .have e1:decide ((3:Int)<=12)=true:=(by decide);have e2:decide ((12:Int)<=8)=false:=(by decide);have e3:decide ((12:Int)<9)=false:=(by decide);have e4:decide ((12:Int)<12)=false:=(by decide);have e5:((12:Int) != 12)=false:=(by decide);have ew:IntKind.i64.wrap ((12:Int) - 9)=3:=(by decide)
    repeat' first|refine ge (kf e1 (kf e2 (kf e3 (kf e4 (kf e5 ew))))) ?_|decide|refine sp ?_ ?_<;>intro _
    refine ⟨rfl,aA (by kernel_rfl) ?_⟩
    repeat' first|refine go ?_|simp only [e1,e2,e3,e4,e5,ew,Nn,OU,Ny,MA,Int.reduceLE,Int.reduceLT,Xx,Int.toNat_one,Int.reduceToNat,WO,WM,VH]|decide|refine sp ?_ ?_<;>intro _
    all_goals first|(simp_all [lF];done)|(simp_all [lF];omega)
end
section
theorem oh (m:bk) (hl:m.stages.length<=1000000):aw Tryz.prog 30 [.agg (aW m)] (iZ 3 1 ((gA m).map fun n=>[eI n])):=by
 refine aa ag Tryz.func30 rfl (by decide) Tryz.ntmps30 Tryz.results30 rfl (cT _ _ _) ?_
 repeat' first|refine go ?_|decide|refine sp ?_ ?_<;>intro _
 refine af (fun st=>∃ k:Nat,k<=m.stages.length /\ st=⟨22,[(1,.op 0 0 0),(3,.osl 1),(4,eI (k:Int))],[(0,some (.box 32 (aW m))),(1,some (.row 3 1 ((m.stages.take k).map fun p=>[eI p.2])))],2⟩) (fun st=>m.stages.length - ax st 4) ⟨_,((bA 3 3 1 (by simp only [jn,aj.get,bh,aj.put,↓reduceIte,reduceCtorEq,Nat.reduceLT,Nat.reduceEqDiff,Nat.reduceAdd,Nat.reduceLeDiff,eq_self,implies_true,VA,VP])).trans (wS [0,1] @VA)),0,Vg _,rfl⟩ ?_;rintro _ ⟨k,hk,rfl⟩;by_cases hlt:k<m.stages.length
 .have et:(m.stages.take (k+1)).map (fun p=>[eI p.2])=(m.stages.take k).map (fun p=>[eI p.2]) ++ [[eI m.stages[k].2]]:=dT _ _ hlt
  repeat' first|refine go ?_|simp only [ab,hlt]|decide|refine sp ?_ ?_<;>intro _
  refine ⟨rfl,by simp only [Vr];omega,rI (wS [0,3] et) ⟨k+1,by omega,rfl⟩⟩
 .obtain rfl:k=m.stages.length:=by omega
  repeat' first|refine go ?_|simp only [ab,hlt]|decide|refine sp ?_ ?_<;>intro _
  exact aY (by simp [ae.gc,gA])
end
section
theorem N5 (m:bk) (hf:ur m):aw Tryz.prog 67 [.agg (aW m)] (val (.int .i64 ((m.guards.length+m.miles.length:Nat):Int))):=by
 refine aa ag Tryz.func67 rfl (by decide) Tryz.ntmps67 Tryz.results67 rfl (aL _) ?_;obtain ⟨hg,hm,-⟩:=id hf.sizes
 repeat' first|refine go ?_|decide|refine sp ?_ ?_<;>intro _
 rw [aD (by omega) (by omega)];simp
theorem BI (a b:Nat):IntKind.i64.wrap ((a+b:Nat) - (a:Int))=(b:Int) \/ b > 9223372036854775807:=by
 rcases Vv 9223372036854775807 b with h|h
 .exact .inr h
 .left;rw [aD (by omega) (by omega)];omega
def nz (m:bk) (i:Nat):Bool × Int:=if i<m.guards.length then (false,(i:Int)) else (true,((i - m.guards.length:Nat):Int))
def cp (m:bk) (i:Nat):Int:=if h:i<m.guards.length then m.guards[i].stage else (m.miles[i - m.guards.length]?.map (·.stage)).getD 0
def ku (m:bk) (i:Nat):List ah:=if h:i<m.guards.length then m.guards[i].cond else (m.miles[i - m.guards.length]?.map (·.cond)).getD []
theorem O1 (m:bk) (i:Nat) (hf:ur m) (hi:i<m.guards.length+m.miles.length):aw Tryz.prog 69 [.agg (aW m),eI (i:Int)] ⟨.agg (ya (nz m i)),[],0⟩:=by
 refine aa ag Tryz.func69 rfl (by decide) Tryz.ntmps69 Tryz.results69 rfl (⟨fun id o h=>(by cases h),⟨trivial,trivial,trivial⟩⟩) ?_;obtain ⟨hg,hm,-⟩:=id hf.sizes;by_cases hlt:i<m.guards.length
 .have e:nz m i=(false,(i:Int)):=by simp [nz,hlt]
  rw [e]
  repeat' first|refine ge @hlt ?_|decide|refine sp ?_ ?_<;>intro _
  exact aX (by simp [AV.ren,AV.renL])
 .obtain ⟨j,rfl⟩:∃ j,i=m.guards.length+j:=⟨i - m.guards.length,by omega⟩;have e:nz m (m.guards.length+j)=(true,(j:Int)):=by simp [nz]
  have ew:IntKind.i64.wrap (((m.guards.length+j:Nat):Int) - (m.guards.length:Int))=(j:Int):=(BI _ _).resolve_right (by omega);rw [e]
  repeat' first|refine ge (kf @hlt ew) ?_|decide|refine sp ?_ ?_<;>intro _
  exact aX (by simp [AV.ren,AV.renL])
theorem kF (m:bk) (i:Nat) (hf:ur m) (hi:i<m.guards.length+m.miles.length):aw Tryz.prog 110 [.agg (aW m),eI (i:Int)] (val (.int .i64 (cp m i))):=by
 refine aa ag Tryz.func110 rfl (by decide) Tryz.ntmps110 Tryz.results110 rfl (aL _) ?_;obtain ⟨hg,hm,-⟩:=id hf.sizes;by_cases hlt:i<m.guards.length
 .have e:cp m i=m.guards[i].stage:=by simp [cp,hlt]
  rw [e]
  repeat' first|refine go ?_|simp only [hlt,ab]|decide|refine sp ?_ ?_<;>intro _
 .obtain ⟨j,rfl⟩:∃ j,i=m.guards.length+j:=⟨i - m.guards.length,by omega⟩;have hj:j<m.miles.length:=by omega
  have e:cp m (m.guards.length+j)=m.miles[j].stage:=by simp only [cp];rw [dif_neg (by omega)];simp [hj]
  have ew:IntKind.i64.wrap (((m.guards.length+j:Nat):Int) - (m.guards.length:Int))=(j:Int):=(BI _ _).resolve_right (by omega);rw [e]
  repeat' first|refine go ?_|simp only [hlt,ew,hj,ab]|decide|refine sp ?_ ?_<;>intro _
theorem Rh (m:bk) (i:Nat) (hf:ur m) (hi:i<m.guards.length+m.miles.length):aw Tryz.prog 108 [.agg (aW m),eI (i:Int)] ⟨aR (ku m i),[],0⟩:=by
 refine aa ag Tryz.func108 rfl (by decide) Tryz.ntmps108 Tryz.results108 rfl (⟨fun id o h=>(by cases h),trivial⟩) ?_;obtain ⟨hg,hm,-⟩:=id hf.sizes;by_cases hlt:i<m.guards.length
 .have e:ku m i=m.guards[i].cond:=by simp [ku,hlt]
  rw [e]
  repeat' first|refine go ?_|simp only [hlt,ab]|decide|refine sp ?_ ?_<;>intro _
  exact aX (by simp [AV.ren,AV.renL])
 .obtain ⟨j,rfl⟩:∃ j,i=m.guards.length+j:=⟨i - m.guards.length,by omega⟩;have hj:j<m.miles.length:=by omega
  have e:ku m (m.guards.length+j)=m.miles[j].cond:=by simp only [ku];rw [dif_neg (by omega)];simp [hj]
  have ew:IntKind.i64.wrap (((m.guards.length+j:Nat):Int) - (m.guards.length:Int))=(j:Int):=(BI _ _).resolve_right (by omega);rw [e]
  repeat' first|refine go ?_|simp only [hlt,ew,hj,ab]|decide|refine sp ?_ ?_<;>intro _
  exact aX (by simp [AV.ren,AV.renL])
theorem CP (m:bk) (hf:ur m) (i:Nat):(ku m i).length<=80:=by
 unfold ku;split
 .exact hf.guards _ (Vf _)
 .rcases Vv (i - m.guards.length) m.miles.length with h | h
  .simp [f4 h];exact hf.miles _ (Vf _)
  .simp [Vs h]
end
section
def xG (st:aj) (id:Nat):Nat:=match st.tab.get id with | some (.row _ _ rows)=>rows.length | _=>0
end
section
structure U6 (m:bk):Prop where
 attrs:m.attrs.length<=5
 inits:m.inits.length=m.attrs.length
 users:m.users.length<=4
 roles:m.roles.length<=4
 stages:m.stages.length<=8
 events:m.events.length<=6
 guards:m.guards.length<=12
 miles:m.miles.length<=8
 sods:m.sods.length<=6
 circle:kH (gA m)<0
end
section
theorem Ju (r:Int):cR r<=1048576:=by
 unfold cR;have h1:(2:Nat) ^ (min r.toNat 20)<=2 ^ 20:=VU (by omega) (by omega);have h2:((2 ^ (min r.toNat 20):Nat):Int)=(2:Int) ^ (min r.toNat 20):=by simp
 omega
end
section
theorem xf (m:bk) (c:List Int) (n:Nd) (he:m.events.length<=10) (hm:∀ e ∈ m.events,e.times<=10 /\ e.sets.length<=10) (ha:m.attrs.length<=1000000) (h1:n.z.cls.length<=40) (h2:n.z.gaps.length<=40) (h3:c.length<=100000) (hc:∀ x ∈ c,aI x) (hat:∀ x ∈ n.z.cls,aI x.attrs) (h5:n.did.length<=1000000) (h4:n.cnt.length<=1000000) (hop:aI n.opn) (hdo:aI n.don) (hdid:∀ x ∈ n.did,aI x):dt Tryz.prog 72 [.agg (aW m),sI c,.agg (jR n)] fun R=>∃ b,R=val (.bool b) /\ (b=true ↔ Dz m c n):=by
 refine bm ag Tryz.func72 rfl (by decide) Tryz.ntmps72 Tryz.results72 rfl ?_;have hSt:=vd n h5 h4;have hS:=Jj m (vg m n) (by omega) hop hdo hdid;have hL:=sD m n.cnt he hm h4;have hrep:List.replicate m.attrs.length [eI 0]=(List.replicate m.attrs.length 0).map fun n=>[eI n]:=by simp
 obtain ⟨t,ht,hZ⟩:=lM (Ep n.z (m.attrs.length:Int) c (fk m n.cnt m.events.length) h1 h2 h3 hc (Ju _) hat);unfold Dz;rw [<- ht];clear ht;generalize fk m n.cnt m.events.length=L at *
 cases hb:yk m (vg m n) with
 | true=>
  rw [hb] at hS
  repeat' first|refine gq ?_|decide|refine sp ?_ ?_<;>intro _|refine cA hSt ?_|fail
  refine ⟨⟨by omega,by omega⟩,?_⟩
  repeat' first|refine gq ?_|simp only [hrep,vg]|decide|refine sp ?_ ?_<;>intro _|refine cA hS ?_|refine cA hL ?_|refine cA hZ ?_|fail
  all_goals exact cI ⟨t,rfl,by simp⟩
 | false=>
  rw [hb] at hS
  repeat' first|refine gq ?_|decide|refine sp ?_ ?_<;>intro _|refine cA hSt ?_|fail
  refine ⟨⟨by omega,by omega⟩,?_⟩
  repeat' first|refine gq ?_|simp only [hrep,vg]|decide|refine sp ?_ ?_<;>intro _|refine cA hS ?_|refine cA hL ?_|refine cA hZ ?_|fail
  all_goals exact cI ⟨false,rfl,by simp⟩
end
end
section
section
theorem QO (q:Nat) (hq:q<=60):aw Tryz.prog 62 [eI (q:Int)] (val (.int .i64 (((2 ^ q - 1:Nat):Int)))):=by
 refine aa ag Tryz.func62 rfl (by decide) Tryz.ntmps62 Tryz.results62 rfl (aL _) ?_
 repeat' first|refine go ?_|decide|refine sp ?_ ?_<;>intro _
 refine af (fun st=>∃ k:Nat,k<=q /\ st=⟨14,[(0,eI (q:Int)),(3,eI ((2 ^ k - 1:Nat):Int)),(4,eI (k:Int))],[],0⟩) (fun st=>q - ax st 4) ⟨_,wC,0,Vg _,rfl⟩ ?_;rintro _ ⟨k,hk,rfl⟩;by_cases hlt:k<q
 .have hp:2 ^ k<=2 ^ 59:=VU (by omega) (by omega);have hp1:1<=2 ^ k:=XE;have e1:IntKind.i64.wrap (2 * ((2 ^ k - 1:Nat):Int))=2 * ((2 ^ k - 1:Nat):Int):=aD (by omega) (by omega)
  have e2:IntKind.i64.wrap (2 * ((2 ^ k - 1:Nat):Int)+1)=((2 ^ (k+1) - 1:Nat):Int):=by
   rw [aD (by omega) (by omega),Nat.pow_succ];omega
  repeat' first|refine ge (kf @hlt (kf e1 e2)) ?_|decide|refine sp ?_ ?_<;>intro _
  exact rI (wE (kf e1 e2)) ⟨k+1,by omega,rfl⟩
 .obtain rfl:k=q:=by omega
  repeat' first|refine ge @hlt ?_|decide|refine sp ?_ ?_<;>intro _
theorem kr (m:bk) (l:List ah) (prop:Bool) (hl:l.length<=1000):dt Tryz.prog 65 [.agg (aW m),aR l,eB prop] fun R=>∃ b,R=val (.bool b) /\ (b=true -> be (l.map ah.op)=0 /\ ∀ i (h:i<l.length),lF m l[i]=true /\ (prop=false -> ¬ (18<l[i].op \/ (10<l[i].op /\ l[i].op<15)))):=by
 refine bm ag Tryz.func65 rfl (by decide) Tryz.ntmps65 Tryz.results65 rfl ?_
 repeat' first|refine go ?_|decide|refine sp ?_ ?_<;>intro _
 refine af (fun st=>∃ k:Nat,k<=l.length /\ k<=70 /\ st=⟨67,[(1,aR l),(2,eB prop),(3,.op 0 0 0),(7,.osl 1),(8,eI (k:Int))],[(0,some (.box 32 (aW m))),(1,some (.row 101 9 (((l.map ah.op).take k).map oq)))],2⟩) (fun st=>l.length - ax st 8) ⟨_,((bA 7 101 9 (by simp only [jn,aj.get,bh,aj.put,↓reduceIte,reduceCtorEq,Nat.reduceLT,Nat.reduceEqDiff,Nat.reduceAdd,Nat.reduceLeDiff,eq_self,implies_true,VA,VP])).trans (wS [0,1] @VA)),0,Vg _,by omega,rfl⟩ ?_;rintro _ ⟨k,hk,hk70,rfl⟩;have hkl:((l.map ah.op).take k).length=k:=by simp;omega
 have hlen2:((l.map ah.op).take k).length<=1000000:=by omega
 by_cases hgo:k<l.length /\ k<70
 .obtain ⟨hlt,h70⟩:=hgo;have e1:decide ((k:Int)<70)=true:=by simp;omega
  have et:((l.map ah.op).take (k+1)).map oq=((l.map ah.op).take k).map oq ++ [oq l[k].op]:=by
   rw [dT oq (l.map ah.op) (by simpa using hlt)];simp
  repeat' first|refine go ?_|simp only [ab,hlt,e1]|decide|refine sp ?_ ?_<;>intro _
  refine ⟨rfl,by simp only [hkl,Vo,Vr];omega,rI (wS [0,3] et) ⟨k+1,by omega,by omega,rfl⟩⟩
 .have hfin:((l.map ah.op).take k)=(l.map ah.op).take 70:=by
   by_cases h1:k=70
   .rw [h1]
   .rw [VK (by simp;omega),VK (by simp;omega)]
  have hchk:=su ((l.map ah.op).take k) hlen2
  have hE:be ((l.map ah.op).take k)=0 -> be (l.map ah.op)=0:=fun h=>by
   rcases Vv 64 l.length with h64|h64
   .exfalso;have:64<((l.map ah.op).take k).length:=by omega
    unfold be at h;rw [Vh (by omega),Vn this] at h;cases h
   .rw [VK (by simp;omega)] at h;exact h
  have hcond:decide (k<l.length)=false \/ (decide (k<l.length)=true /\ decide ((k:Int)<70)=false):=by
   by_cases h:k<l.length
   .exact .inr ⟨VC h,Vu (by omega)⟩
   .exact .inl (Vu h)
  by_cases hz:be ((l.map ah.op).take k)=0
  .have z1:(be ((l.map ah.op).take k) != 0)=false:=(by simp [hz]);have hE:=hE hz;have fin:KC Tryz.prog (Code.skip) (fun _ _=>True) ⟨0,[],[],0⟩ -> True:=fun _=>trivial;rcases hcond with d1|⟨d1,d2⟩
   .repeat' first|refine ge d1 ?_|decide|refine sp ?_ ?_<;>intro _
    refine ay hchk ?_
    repeat' first|refine ge z1 ?_|decide|refine sp ?_ ?_<;>intro _
    refine af (fun st=>∃ q:Nat,q<=l.length /\ (∀ i (h:i<l.length),i<q -> lF m l[i]=true /\ (prop=false -> ¬ (18<l[i].op \/ (10<l[i].op /\ l[i].op<15)))) /\ st=⟨67,[(1,aR l),(2,eB prop),(3,.op 0 0 0),(9,eI (q:Int))],[(0,some (.box 32 (aW m)))],1⟩) (fun st=>l.length - ax st 9) ⟨_,wC,0,Vg _,fun i h h2=>absurd h2 (by omega),rfl⟩ ?_;rintro _ ⟨q,hq,hI,rfl⟩;by_cases hlt2:q<l.length
    .repeat' first|refine go ?_|simp only [ab,hlt2]|decide|refine sp ?_ ?_<;>intro _
     refine aA (by kernel_rfl) ?_
     repeat' first|refine go ?_|simp only [ab,hlt2]|decide|refine sp ?_ ?_<;>intro _
     refine aP (KX m l[q]) ?_
     repeat' first|refine go ?_|simp only [ab,hlt2]|decide|refine sp ?_ ?_<;>intro _
     all_goals first|with_reducible exact cI ⟨false,rfl,fun h=>by cases h⟩|skip
     all_goals
      refine rI wC ⟨q+1,by omega,fun i h h2=>?_,rfl⟩;rcases Vv i q with h3|h3
      .exact hI i h h3
      .obtain rfl:i=q:=by omega
       simp_all
       try omega
    .repeat' first|refine go ?_|simp only [ab,hlt2]|decide|refine sp ?_ ?_<;>intro _
     exact cI ⟨true,rfl,fun _=>⟨hE,fun i h=>hI i h (by omega)⟩⟩
   .repeat' first|refine ge (kf d1 d2) ?_|decide|refine sp ?_ ?_<;>intro _
    refine ay hchk ?_
    repeat' first|refine ge z1 ?_|decide|refine sp ?_ ?_<;>intro _
    refine af (fun st=>∃ q:Nat,q<=l.length /\ (∀ i (h:i<l.length),i<q -> lF m l[i]=true /\ (prop=false -> ¬ (18<l[i].op \/ (10<l[i].op /\ l[i].op<15)))) /\ st=⟨67,[(1,aR l),(2,eB prop),(3,.op 0 0 0),(9,eI (q:Int))],[(0,some (.box 32 (aW m)))],1⟩) (fun st=>l.length - ax st 9) ⟨_,wC,0,Vg _,fun i h h2=>absurd h2 (by omega),rfl⟩ ?_;rintro _ ⟨q,hq,hI,rfl⟩;by_cases hlt2:q<l.length
    .repeat' first|refine go ?_|simp only [ab,hlt2]|decide|refine sp ?_ ?_<;>intro _
     refine aA (by kernel_rfl) ?_
     repeat' first|refine go ?_|simp only [ab,hlt2]|decide|refine sp ?_ ?_<;>intro _
     refine aP (KX m l[q]) ?_
     repeat' first|refine go ?_|simp only [ab,hlt2]|decide|refine sp ?_ ?_<;>intro _
     all_goals first|with_reducible exact cI ⟨false,rfl,fun h=>by cases h⟩|skip
     all_goals
      refine rI wC ⟨q+1,by omega,fun i h h2=>?_,rfl⟩;rcases Vv i q with h3|h3
      .exact hI i h h3
      .obtain rfl:i=q:=by omega
       simp_all
       try omega
    .repeat' first|refine go ?_|simp only [ab,hlt2]|decide|refine sp ?_ ?_<;>intro _
     exact cI ⟨true,rfl,fun _=>⟨hE,fun i h=>hI i h (by omega)⟩⟩
  .have z1:(be ((l.map ah.op).take k) != 0)=true:=(by simp [hz]);rcases hcond with d1|⟨d1,d2⟩
   .repeat' first|refine ge d1 ?_|decide|refine sp ?_ ?_<;>intro _
    refine ay hchk ?_
    repeat' first|refine ge z1 ?_|decide|refine sp ?_ ?_<;>intro _
    exact cI ⟨false,rfl,fun h=>by cases h⟩
   .repeat' first|refine ge (kf d1 d2) ?_|decide|refine sp ?_ ?_<;>intro _
    refine ay hchk ?_
    repeat' first|refine ge z1 ?_|decide|refine sp ?_ ?_<;>intro _
    exact cI ⟨false,rfl,fun h=>by cases h⟩
def lw (l:List Ev):Int:=(l.map fun e=>e.times * (e.sets.length:Int)).sum
structure oU (l:List Ev):Prop where
 each:∀ i (h:i<l.length),0<=l[i].times /\ l[i].times<=3 /\ (l[i].times=0 -> l[i].sets.length=0)
theorem H8:lw []=0:=rfl
theorem j7 {l:List Ev} {k:Nat} (hk:k<l.length):lw (l.take (k+1))=lw (l.take k)+l[k].times * (l[k].sets.length:Int):=by
 unfold lw;rw [Vk hk,VE,List.sum_append];simp
theorem se {l:List Ev} (hs:∀ e ∈ l,e.sets.length<=10):∀ k,k<=l.length -> (∀ i (h:i<l.length),i<k -> 0<=l[i].times /\ l[i].times<=3) -> 0<=lw (l.take k) /\ lw (l.take k)<=30 * (k:Int)
 | 0,_,_=>by simp [lw]
 | k+1,hk,h=>by
  have ih:=se hs k (by omega) fun i hi h2=>h i hi (by omega);have h1:=h k (by omega) (by omega);have h2:=hs _ (Vf (show k<l.length by omega));rw [j7 (by omega)];have h3:0<=l[k].times * (l[k].sets.length:Int):=Int.mul_nonneg h1.1 (by omega);have h4:l[k].times * (l[k].sets.length:Int)<=3 * 10:=Int.mul_le_mul h1.2 (by omega) (by omega) (by omega);omega
theorem Fa (l:List Ev) (hl:l.length<=1000) (hs:∀ e ∈ l,e.sets.length<=10):dt Tryz.prog 28 [.sl 5 (l.map MU)] fun R=>∃ v,R=val (.int .i64 v) /\ (v<0 \/ (v=lw l /\ oU l)):=by
 refine bm ag Tryz.func28 rfl (by decide) Tryz.ntmps28 Tryz.results28 rfl ?_
 repeat' first|refine go ?_|decide|refine sp ?_ ?_<;>intro _
 refine af (fun st=>∃ k:Nat,k<=l.length /\ (∀ i (h:i<l.length),i<k -> 0<=l[i].times /\ l[i].times<=3 /\ (l[i].times=0 -> l[i].sets.length=0)) /\ st=⟨54,[(0,.sl 5 (l.map MU)),(3,eI (lw (l.take k))),(4,eI (k:Int))],[],0⟩) (fun st=>l.length - ax st 4) ⟨_,(wE (kf @VA @H8)),0,Vg _,fun i h h2=>absurd h2 (by omega),rfl⟩ ?_;rintro _ ⟨k,hk,hI,rfl⟩;have hbd:=se hs k hk fun i h h2=>⟨(hI i h h2).1,(hI i h h2).2.1⟩;by_cases hlt:k<l.length
 .by_cases hg:0<=l[k].times /\ l[k].times<=3 /\ (l[k].times=0 -> l[k].sets.length=0)
  .have h2:=hs _ (Vf hlt);have h3:0<=l[k].times * (l[k].sets.length:Int):=Int.mul_nonneg hg.1 (by omega);have h4:l[k].times * (l[k].sets.length:Int)<=3 * 10:=Int.mul_le_mul hg.2.1 (by omega) (by omega) (by omega);have e1:IntKind.i64.wrap (l[k].times * (l[k].sets.length:Int))=l[k].times * (l[k].sets.length:Int):=aD (by omega) (by omega)
   have e2:IntKind.i64.wrap (lw (l.take k)+l[k].times * (l[k].sets.length:Int))=lw (l.take (k+1)):=by
    rw [j7 hlt];exact aD (by omega) (by omega)
   have hI':∀ i (h:i<l.length),i<k+1 -> 0<=l[i].times /\ l[i].times<=3 /\ (l[i].times=0 -> l[i].sets.length=0):=fun i h h2=>by
    rcases Vv i k with h3|h3
    .exact hI i h h3
    .obtain rfl:i=k:=by omega
     exact hg
   have d1:decide (l[k].times<0)=false:=Vu (by omega);have d2:decide (3<l[k].times)=false:=Vu (by omega);by_cases hz:l[k].times=0
   .have d3:(l[k].times == 0)=true:=(by simp [hz]);have d4:decide (0<(l[k].sets.length:Int))=false:=Vu (by have:=hg.2.2 hz;omega);have d5:decide (0<l[k].sets.length)=false:=Vu (by have:=hg.2.2 hz;omega)
    repeat' first|refine go ?_|simp only [ab,hlt,d1,d2,d3,d4,d5,e1]|decide|refine sp ?_ ?_<;>intro _
    all_goals exact rI (wE (kf e1 e2)) ⟨k+1,by omega,hI',rfl⟩
   .have d3:(l[k].times == 0)=false:=by simp [hz]
    repeat' first|refine go ?_|simp only [ab,hlt,d1,d2,d3,e1]|decide|refine sp ?_ ?_<;>intro _
    all_goals exact rI (wE (kf e1 e2)) ⟨k+1,by omega,hI',rfl⟩
  .have hbad:decide (l[k].times<0)=true \/ (decide (l[k].times<0)=false /\ decide (3<l[k].times)=true) \/ (decide (l[k].times<0)=false /\ decide (3<l[k].times)=false /\ (l[k].times == 0)=true /\ decide (0<(l[k].sets.length:Int))=true /\ decide (0<l[k].sets.length)=true):=by
    by_cases h1:l[k].times<0
    .exact .inl (VC h1)
    by_cases h2:3<l[k].times
    .exact .inr (.inl ⟨Vu h1,VC h2⟩)
    have h3:l[k].times=0:=Classical.byContradiction fun h=>hg ⟨by omega,by omega,fun h'=>absurd h' h⟩;have h4:0<l[k].sets.length:=Nat.pos_of_ne_zero fun h=>hg ⟨by omega,by omega,fun _=>h⟩;exact .inr (.inr ⟨Vu h1,Vu h2,by simp [h3],VC (by omega),VC h4⟩)
   rcases hbad with d1|⟨d1,d2⟩|⟨d1,d2,d3,d4,d5⟩
   .repeat' first|refine go ?_|simp only [ab,hlt,d1]|decide|refine sp ?_ ?_<;>intro _
    exact cI ⟨-1,rfl,.inl (by omega)⟩
   .repeat' first|refine go ?_|simp only [ab,hlt,d1,d2]|decide|refine sp ?_ ?_<;>intro _
    exact cI ⟨-1,rfl,.inl (by omega)⟩
   .repeat' first|refine go ?_|simp only [ab,hlt,d1,d2,d3,d4,d5]|decide|refine sp ?_ ?_<;>intro _
    all_goals exact cI ⟨-1,rfl,.inl (by omega)⟩
 .obtain rfl:k=l.length:=by omega
  repeat' first|refine ge @hlt ?_|decide|refine sp ?_ ?_<;>intro _
  exact cI ⟨_,rfl,.inr ⟨by simp only [Vq],⟨fun i h=>hI i h h⟩⟩⟩
end
end
section
section
def Uv (m:bk) (l:List ah):Prop:=be (l.map ah.op)=0 /\ ∀ i (h:i<l.length),lF m l[i]=true /\ ¬ (18<l[i].op \/ (10<l[i].op /\ l[i].op<15))
def LT (m:bk) (l:List Int):Prop:=∀ i (h:i<l.length),eE l[i] m.attrs.length=true /\ ∀ j (h:j<i),l[j] ≠ l[i]
def Jy (m:bk) (p:ByteArray × Int):Prop:=0<p.2 /\ p.2<16 /\ p.2<=((2 ^ m.users.length - 1:Nat):Int)
def Ba (m:bk) (p:ByteArray × Int):Prop:=p.2 = -1 \/ eE p.2 m.stages.length=true
def De (m:bk) (e:Ev):Prop:=eE e.role m.roles.length=true /\ eE e.stage m.stages.length=true /\ LT m e.sets
def vP (m:bk) (st ev:Int) (l:List ah):Prop:=eE st m.stages.length=true /\ (ev = -1 \/ eE ev m.events.length=true) /\ Uv m l
def QG (m:bk) (p:Int × Int):Prop:=eE p.1 m.events.length=true /\ eE p.2 m.events.length=true /\ p.1 ≠ p.2
structure Cl (m:bk):Prop where
 roles:∀ i (h:i<m.roles.length),Jy m m.roles[i]
 stages:∀ i (h:i<m.stages.length),Ba m m.stages[i]
 events:∀ i (h:i<m.events.length),De m m.events[i]
 guards:∀ i (h:i<m.guards.length),vP m m.guards[i].stage m.guards[i].event m.guards[i].cond
 miles:∀ i (h:i<m.miles.length),vP m m.miles[i].stage m.miles[i].event m.miles[i].cond
 sods:∀ i (h:i<m.sods.length),QG m m.sods[i]
def r5 {α:Type} (l:List α) (p:α -> Prop) (k:Nat):Prop:=∀ i (h:i<l.length),i<k -> p l[i]
theorem r5.zero {α:Type} (l:List α) (p:α -> Prop):r5 l p 0:=fun i h h2=>absurd h2 (by omega)
theorem r5.succ {α:Type} {l:List α} {p:α -> Prop} {k:Nat} (h:r5 l p k) (hk:k<l.length) (hp:p l[k]):r5 l p (k+1):=fun i hi h2=>by
 rcases Vv i k with h3|h3
 .exact h i hi h3
 .obtain rfl:i=k:=by omega
  exact hp
theorem NF (m:bk) (l:List Int) (hl:l.length<=1000000):∃ b,aw Tryz.prog 64 [.agg (aW m),sI l] (val (.bool b)) /\ (b=true -> LT m l):=by
 classical
 exact ⟨decide (∀ i (h:i<l.length),eE l[i] m.attrs.length=true /\ ∀ j (h:j<i),l[j] ≠ l[i]),S5 m l hl _ (by simp),fun h=>by unfold LT;simpa using h⟩
def NM (m:bk) (a b c d e f:Nat):Prop:=r5 m.roles (Jy m) a /\ r5 m.stages (Ba m) b /\ r5 m.events (De m) c /\ r5 m.guards (fun g=>vP m g.stage g.event g.cond) d /\ r5 m.miles (fun g=>vP m g.stage g.event g.cond) e /\ r5 m.sods (QG m) f
theorem NM.s1 {m:bk} {a b c d e f:Nat} (h:NM m a b c d e f) (hk:a<m.roles.length) (hp:Jy m m.roles[a]):NM m (a+1) b c d e f:=⟨h.1.succ hk hp,h.2⟩
theorem NM.s2 {m:bk} {a b c d e f:Nat} (h:NM m a b c d e f) (hk:b<m.stages.length) (hp:Ba m m.stages[b]):NM m a (b+1) c d e f:=⟨h.1,h.2.1.succ hk hp,h.2.2⟩
theorem NM.s3 {m:bk} {a b c d e f:Nat} (h:NM m a b c d e f) (hk:c<m.events.length) (hp:De m m.events[c]):NM m a b (c+1) d e f:=⟨h.1,h.2.1,h.2.2.1.succ hk hp,h.2.2.2⟩
theorem NM.s4 {m:bk} {a b c d e f:Nat} (h:NM m a b c d e f) (hk:d<m.guards.length) (hp:vP m m.guards[d].stage m.guards[d].event m.guards[d].cond):NM m a b c (d+1) e f:=⟨h.1,h.2.1,h.2.2.1,h.2.2.2.1.succ hk hp,h.2.2.2.2⟩
theorem NM.s5 {m:bk} {a b c d e f:Nat} (h:NM m a b c d e f) (hk:e<m.miles.length) (hp:vP m m.miles[e].stage m.miles[e].event m.miles[e].cond):NM m a b c d (e+1) f:=⟨h.1,h.2.1,h.2.2.1,h.2.2.2.1,h.2.2.2.2.1.succ hk hp,h.2.2.2.2.2⟩
theorem NM.s6 {m:bk} {a b c d e f:Nat} (h:NM m a b c d e f) (hk:f<m.sods.length) (hp:QG m m.sods[f]):NM m a b c d e (f+1):=⟨h.1,h.2.1,h.2.2.1,h.2.2.2.1,h.2.2.2.2.1,h.2.2.2.2.2.succ hk hp⟩
theorem NM.named {m:bk} (h:NM m m.roles.length m.stages.length m.events.length m.guards.length m.miles.length m.sods.length):Cl m:=⟨fun i hi=>h.1 i hi hi,fun i hi=>h.2.1 i hi hi,fun i hi=>h.2.2.1 i hi hi,fun i hi=>h.2.2.2.1 i hi hi,fun i hi=>h.2.2.2.2.1 i hi hi,fun i hi=>h.2.2.2.2.2 i hi hi⟩
theorem JD (m:bk) (hf:ur m):dt Tryz.prog 27 [.agg (aW m)] fun R=>∃ b,R=val (.bool b) /\ (b=true -> Cl m):=by
 refine bm ag Tryz.func27 rfl (by decide) Tryz.ntmps27 Tryz.results27 rfl ?_;obtain ⟨hg,hm,hst,hev,hat,hus,hro,hso,-⟩:=id hf.sizes
 repeat' first|refine go ?_|decide|refine sp ?_ ?_<;>intro _
 refine af (fun st=>∃ (k:Nat) (b:Bool),k<=m.roles.length /\ (b=true -> NM m k 0 0 0 0 0) /\ st=⟨233,[(1,.op 0 0 0),(3,eB b),(4,eI (k:Int))],[(0,some (.box 32 (aW m)))],1⟩) (fun st=>m.roles.length - ax st 4) ⟨_,wC,0,true,Vg _,fun _=>⟨.zero _ _,.zero _ _,.zero _ _,.zero _ _,.zero _ _,.zero _ _⟩,rfl⟩ ?_;rintro _ ⟨k,b,hk,hI,rfl⟩;by_cases hlt:k<m.roles.length
 .repeat' first|refine go ?_|simp only [ab,hlt]|decide|refine sp ?_ ?_<;>intro _
  all_goals first|with_reducible exact rI wC ⟨k+1,false,by omega,(fun h=>by cases h),rfl⟩|skip
  refine ay (QO m.users.length (by omega)) ?_
  repeat' first|refine go ?_|simp only [ab,hlt]|decide|refine sp ?_ ?_<;>intro _
  refine rI wC ⟨k+1,decide (m.roles[k].2<=((2 ^ m.users.length - 1:Nat):Int)),by omega,fun h=>(hI (by assumption)).s1 hlt ⟨?_,?_,of_decide_eq_true h⟩,rfl⟩;all_goals (apply of_decide_eq_true;assumption)
 obtain rfl:k=m.roles.length:=by omega
 repeat' first|refine go ?_|simp only [ab,hlt]|decide|refine sp ?_ ?_<;>intro _
 clear hk hlt;refine af (fun st=>∃ (k:Nat) (b:Bool),k<=m.stages.length /\ (b=true -> NM m m.roles.length k 0 0 0 0) /\ st=⟨233,[(1,.op 0 0 0),(3,eB b),(6,eI (k:Int))],[(0,some (.box 32 (aW m)))],1⟩) (fun st=>m.stages.length - ax st 6) ⟨_,wC,0,b,Vg _,hI,rfl⟩ ?_;clear hI b;rintro _ ⟨k,b,hk,hI,rfl⟩;by_cases hlt:k<m.stages.length
 .repeat' first|refine go ?_|simp only [ab,hlt]|decide|refine sp ?_ ?_<;>intro _
  all_goals first|with_reducible exact rI wC ⟨k+1,false,by omega,(fun h=>by cases h),rfl⟩|skip
  all_goals first|exact rI wC ⟨k+1,true,by omega,(fun h=>(hI (by assumption)).s2 hlt (.inl (eq_of_beq (by assumption)))),rfl⟩|skip
  refine ay (uw m.stages[k].2 m.stages.length) ?_
  repeat' first|refine go ?_|simp only [ab,hlt]|decide|refine sp ?_ ?_<;>intro _
  exact rI wC ⟨k+1,eE m.stages[k].2 m.stages.length,by omega,(fun h=>(hI (by assumption)).s2 hlt (.inr h)),rfl⟩
 obtain rfl:k=m.stages.length:=by omega
 repeat' first|refine go ?_|simp only [ab,hlt]|decide|refine sp ?_ ?_<;>intro _
 clear hk hlt;refine af (fun st=>∃ (k:Nat) (b:Bool),k<=m.events.length /\ (b=true -> NM m m.roles.length m.stages.length k 0 0 0) /\ st=⟨233,[(1,.op 0 0 0),(3,eB b),(8,eI (k:Int))],[(0,some (.box 32 (aW m)))],1⟩) (fun st=>m.events.length - ax st 8) ⟨_,wC,0,b,Vg _,hI,rfl⟩ ?_;clear hI b;rintro _ ⟨k,b,hk,hI,rfl⟩;by_cases hlt:k<m.events.length
 .have hs:=hf.events _ (Vf hlt);obtain ⟨x,hx,hxp⟩:=NF m m.events[k].sets (by omega)
  repeat' first|refine go ?_|simp only [ab,hlt]|decide|refine sp ?_ ?_<;>intro _
  all_goals first|with_reducible exact rI wC ⟨k+1,false,by omega,(fun h=>by cases h),rfl⟩|skip
  refine ay (uw _ _) ?_
  repeat' first|refine go ?_|simp only [ab,hlt]|decide|refine sp ?_ ?_<;>intro _
  all_goals first|with_reducible exact rI wC ⟨k+1,false,by omega,(fun h=>by cases h),rfl⟩|skip
  refine ay (uw _ _) ?_
  repeat' first|refine go ?_|simp only [ab,hlt]|decide|refine sp ?_ ?_<;>intro _
  all_goals first|with_reducible exact rI wC ⟨k+1,false,by omega,(fun h=>by cases h),rfl⟩|skip
  refine ay hx ?_
  repeat' first|refine go ?_|simp only [ab,hlt]|decide|refine sp ?_ ?_<;>intro _
  exact rI wC ⟨k+1,x,by omega,(fun h=>(hI (by assumption)).s3 hlt ⟨by assumption,by assumption,hxp h⟩),rfl⟩
 obtain rfl:k=m.events.length:=by omega
 repeat' first|refine go ?_|simp only [ab,hlt]|decide|refine sp ?_ ?_<;>intro _
 clear hk hlt;refine af (fun st=>∃ (k:Nat) (b:Bool),k<=m.guards.length /\ (b=true -> NM m m.roles.length m.stages.length m.events.length k 0 0) /\ st=⟨233,[(1,.op 0 0 0),(3,eB b),(10,eI (k:Int))],[(0,some (.box 32 (aW m)))],1⟩) (fun st=>m.guards.length - ax st 10) ⟨_,wC,0,b,Vg _,hI,rfl⟩ ?_;clear hI b;rintro _ ⟨k,b,hk,hI,rfl⟩;by_cases hlt:k<m.guards.length
 .have hs:=hf.guards _ (Vf hlt)
  repeat' first|refine go ?_|simp only [ab,hlt]|decide|refine sp ?_ ?_<;>intro _
  all_goals first|with_reducible exact rI wC ⟨k+1,false,by omega,(fun h=>by cases h),rfl⟩|skip
  refine ay (uw _ _) ?_
  repeat' first|refine go ?_|simp only [ab,hlt]|decide|refine sp ?_ ?_<;>intro _
  all_goals first|with_reducible exact rI wC ⟨k+1,false,by omega,(fun h=>by cases h),rfl⟩|skip
  .refine lJ (kr m m.guards[k].cond false (by omega)) fun x hx=>?_
   repeat' first|refine go ?_|simp only [ab,hlt]|decide|refine sp ?_ ?_<;>intro _
   exact rI wC ⟨k+1,x,by omega,(fun h=>(hI (by assumption)).s4 hlt ⟨by assumption,.inl (eq_of_beq (by assumption)),(hx h).1,fun i hi=>⟨((hx h).2 i hi).1,((hx h).2 i hi).2 rfl⟩⟩),rfl⟩
  .refine ay (uw _ _) ?_
   repeat' first|refine go ?_|simp only [ab,hlt]|decide|refine sp ?_ ?_<;>intro _
   all_goals first|with_reducible exact rI wC ⟨k+1,false,by omega,(fun h=>by cases h),rfl⟩|skip
   refine lJ (kr m m.guards[k].cond false (by omega)) fun x hx=>?_
   repeat' first|refine go ?_|simp only [ab,hlt]|decide|refine sp ?_ ?_<;>intro _
   exact rI wC ⟨k+1,x,by omega,(fun h=>(hI (by assumption)).s4 hlt ⟨by assumption,.inr (by assumption),(hx h).1,fun i hi=>⟨((hx h).2 i hi).1,((hx h).2 i hi).2 rfl⟩⟩),rfl⟩
 obtain rfl:k=m.guards.length:=by omega
 repeat' first|refine go ?_|simp only [ab,hlt]|decide|refine sp ?_ ?_<;>intro _
 clear hk hlt;refine af (fun st=>∃ (k:Nat) (b:Bool),k<=m.miles.length /\ (b=true -> NM m m.roles.length m.stages.length m.events.length m.guards.length k 0) /\ st=⟨233,[(1,.op 0 0 0),(3,eB b),(12,eI (k:Int))],[(0,some (.box 32 (aW m)))],1⟩) (fun st=>m.miles.length - ax st 12) ⟨_,wC,0,b,Vg _,hI,rfl⟩ ?_;clear hI b;rintro _ ⟨k,b,hk,hI,rfl⟩;by_cases hlt:k<m.miles.length
 .have hs:=hf.miles _ (Vf hlt)
  repeat' first|refine go ?_|simp only [ab,hlt]|decide|refine sp ?_ ?_<;>intro _
  all_goals first|with_reducible exact rI wC ⟨k+1,false,by omega,(fun h=>by cases h),rfl⟩|skip
  refine ay (uw _ _) ?_
  repeat' first|refine go ?_|simp only [ab,hlt]|decide|refine sp ?_ ?_<;>intro _
  all_goals first|with_reducible exact rI wC ⟨k+1,false,by omega,(fun h=>by cases h),rfl⟩|skip
  .refine lJ (kr m m.miles[k].cond false (by omega)) fun x hx=>?_
   repeat' first|refine go ?_|simp only [ab,hlt]|decide|refine sp ?_ ?_<;>intro _
   exact rI wC ⟨k+1,x,by omega,(fun h=>(hI (by assumption)).s5 hlt ⟨by assumption,.inl (eq_of_beq (by assumption)),(hx h).1,fun i hi=>⟨((hx h).2 i hi).1,((hx h).2 i hi).2 rfl⟩⟩),rfl⟩
  .refine ay (uw _ _) ?_
   repeat' first|refine go ?_|simp only [ab,hlt]|decide|refine sp ?_ ?_<;>intro _
   all_goals first|with_reducible exact rI wC ⟨k+1,false,by omega,(fun h=>by cases h),rfl⟩|skip
   refine lJ (kr m m.miles[k].cond false (by omega)) fun x hx=>?_
   repeat' first|refine go ?_|simp only [ab,hlt]|decide|refine sp ?_ ?_<;>intro _
   exact rI wC ⟨k+1,x,by omega,(fun h=>(hI (by assumption)).s5 hlt ⟨by assumption,.inr (by assumption),(hx h).1,fun i hi=>⟨((hx h).2 i hi).1,((hx h).2 i hi).2 rfl⟩⟩),rfl⟩
 obtain rfl:k=m.miles.length:=by omega
 repeat' first|refine go ?_|simp only [ab,hlt]|decide|refine sp ?_ ?_<;>intro _
 clear hk hlt;refine af (fun st=>∃ (k:Nat) (b:Bool),k<=m.sods.length /\ (b=true -> NM m m.roles.length m.stages.length m.events.length m.guards.length m.miles.length k) /\ st=⟨233,[(1,.op 0 0 0),(3,eB b),(14,eI (k:Int))],[(0,some (.box 32 (aW m)))],1⟩) (fun st=>m.sods.length - ax st 14) ⟨_,wC,0,b,Vg _,hI,rfl⟩ ?_;clear hI b;rintro _ ⟨k,b,hk,hI,rfl⟩;by_cases hlt:k<m.sods.length
 .repeat' first|refine go ?_|simp only [ab,hlt]|decide|refine sp ?_ ?_<;>intro _
  refine aA (by kernel_rfl) ?_
  repeat' first|refine go ?_|simp only [ab,hlt]|decide|refine sp ?_ ?_<;>intro _
  all_goals first|with_reducible exact rI wC ⟨k+1,false,by omega,(fun h=>by cases h),rfl⟩|skip
  refine aP (uw _ _) ?_
  repeat' first|refine go ?_|simp only [ab,hlt]|decide|refine sp ?_ ?_<;>intro _
  all_goals first|with_reducible exact rI wC ⟨k+1,false,by omega,(fun h=>by cases h),rfl⟩|skip
  refine aP (uw _ _) ?_
  repeat' first|refine go ?_|simp only [ab,hlt]|decide|refine sp ?_ ?_<;>intro _
  all_goals first|with_reducible exact rI wC ⟨k+1,false,by omega,(fun h=>by cases h),rfl⟩|skip
  exact rI wC ⟨k+1,(m.sods[k].1 != m.sods[k].2),by omega,(fun h=>(hI (by assumption)).s6 hlt ⟨by assumption,by assumption,by simpa using h⟩),rfl⟩
 obtain rfl:k=m.sods.length:=by omega
 repeat' first|refine go ?_|simp only [ab,hlt]|decide|refine sp ?_ ?_<;>intro _
 exact cI ⟨_,rfl,fun h=>(hI h).named⟩
end
section
def P4 (m:bk) (x:Bool × Int):Int:=if x.1=true then (m.miles[x.2.toNat]?.map (·.stage)).getD 0 else (m.guards[x.2.toNat]?.map (·.stage)).getD 0
end
section
theorem NQ {m:bk} (hp:∀ p ∈ m.stages,aI p.2):∀ x ∈ gA m,aI x:=fun x hx=>by
 obtain ⟨p,hp',rfl⟩:=Vt.1 hx;exact hp p hp'
end
end
section
section
noncomputable def BR (m:bk) (x:ah) (y:Nat):Bool:=
 if x.op=9 then cp m y == x.n || (!decide (y<m.guards.length) && decide (Nu (gA m) (cp m y) x.n))
 else if x.op=10 then (if y<m.guards.length then decide (0<=x.n) && decide (x.n<(m.miles.length:Int)) && (P4 m (true,x.n) == cp m y) else ((y - m.guards.length:Nat):Int) == x.n) else false
theorem T5 (m:bk) (x:ah) (y:Nat) (hf:ur m) (hp:∀ p ∈ m.stages,aI p.2) (hy:y<m.guards.length+m.miles.length):aw Tryz.prog 109 [.agg (aW m),.agg (bX x),eI (y:Int)] (val (.bool (BR m x y))):=by
 refine aa ag Tryz.func109 rfl (by decide) Tryz.ntmps109 Tryz.results109 rfl (aL _) ?_;obtain ⟨hg,hm,hst,-⟩:=id hf.sizes;obtain ⟨op,la,ln,ra,rn,n,u⟩:=x;have hpl:(gA m).length<=1073741824:=by simp [gA];omega
 by_cases h9:op=9
 .subst h9;have z1:((9:Int) == 9)=true:=rfl;have e0:BR m ⟨9,la,ln,ra,rn,n,u⟩ y=(cp m y == n || (!decide (y<m.guards.length) && decide (Nu (gA m) (cp m y) n))):=by simp [BR]
  rw [e0]
  repeat' first|refine ge z1 ?_|decide|refine sp ?_ ?_<;>intro _
  refine ap [] [0,1,3,4] (.exec 2 (.take 5 (.take 6 (.take 7 (.take 8 (.take 9 (.take 10 (.take 12 (.take 13 (.take 15 (.take 16 (.exec 11 (.exec 14 (.exec 17 (.take 18 (.take 19 (.exec 20 .done))))))))))))))))) (by kernel_rfl) (by simp) ?_
  repeat' first|refine go ?_|decide|refine sp ?_ ?_<;>intro _
  refine ay (kF m y hf hy) ?_;by_cases hs:cp m y=n
  .have z2:(cp m y == n)=true:=(by simp [hs]);rw [z2]
   repeat' first|refine ge z2 ?_|decide|refine sp ?_ ?_<;>intro _
   all_goals simp
  .have z2:(cp m y == n)=false:=(by simp [hs]);rw [z2,Bool.false_or];by_cases hgd:y<m.guards.length
   .have z3:decide (y<m.guards.length)=true:=VC hgd;rw [z3]
    repeat' first|refine ge (kf z2 z3) ?_|decide|refine sp ?_ ?_<;>intro _
    all_goals try simp
   .have z3:decide (y<m.guards.length)=false:=Vu hgd;rw [z3]
    repeat' first|refine ge (kf z2 z3) ?_|decide|refine sp ?_ ?_<;>intro _
    refine dM (oh m (by omega)) (.inr fr) ?_
    repeat' first|refine ge (kf z2 z3) ?_|decide|refine sp ?_ ?_<;>intro _
    refine ay (kF m y hf hy) ?_
    repeat' first|refine ge (kf z2 z3) ?_|decide|refine sp ?_ ?_<;>intro _
    refine ay (Pa (gA m) (cp m y) n hpl (NQ hp)) ?_
    repeat' first|refine ge (kf z2 z3) ?_|decide|refine sp ?_ ?_<;>intro _
    all_goals simp
 by_cases h10:op=10
 .subst h10;have z1:((10:Int) == 9)=false:=rfl;have z4:((10:Int) == 10)=true:=rfl;by_cases hgd:y<m.guards.length
  .have z3:decide (y<m.guards.length)=true:=VC hgd;have e0:BR m ⟨10,la,ln,ra,rn,n,u⟩ y=(decide (0<=n) && decide (n<(m.miles.length:Int)) && (P4 m (true,n) == cp m y)):=(by simp [BR,hgd]);rw [e0];by_cases hn:0<=n /\ n<(m.miles.length:Int)
   .obtain ⟨j,rfl⟩:∃ j:Nat,n=(j:Int):=⟨n.toNat,by omega⟩;have hj:j<m.miles.length:=(by omega)
    repeat' first|refine ge (kf z1 (kf z3 z4)) ?_|decide|refine sp ?_ ?_<;>intro _
    refine aA (by kernel_rfl) ?_
    repeat' first|refine go ?_|simp only [z4,ab,hj]|decide|refine sp ?_ ?_<;>intro _
    refine aP (kF m y hf hy) ?_
    repeat' first|refine go ?_|simp only [z4,ab,hj]|decide|refine sp ?_ ?_<;>intro _
    simp [P4,hj]
   .have hn2:decide (0<=n)=false \/ decide (n<(m.miles.length:Int))=false:=by
     rcases Int.lt_or_le n 0 with h|h
     .left;simp;omega
     .right;simp;omega
    rcases hn2 with hn2|hn2
    .rw [hn2]
     repeat' first|refine ge (kf z1 (kf z3 z4)) ?_|decide|refine sp ?_ ?_<;>intro _
     refine aA (by kernel_rfl) ?_
     repeat' first|refine ge (kf z4 hn2) ?_|decide|refine sp ?_ ?_<;>intro _
     all_goals simp
    .rw [hn2]
     repeat' first|refine ge (kf z1 (kf z3 z4)) ?_|decide|refine sp ?_ ?_<;>intro _
     refine aA (by kernel_rfl) ?_
     repeat' first|refine ge (kf z4 hn2) ?_|decide|refine sp ?_ ?_<;>intro _
     all_goals simp
  .have z3:decide (y<m.guards.length)=false:=Vu hgd;have e0:BR m ⟨10,la,ln,ra,rn,n,u⟩ y=(((y - m.guards.length:Nat):Int) == n):=(by simp [BR,hgd]);rw [e0];have ew:IntKind.i64.wrap ((y:Int) - (m.guards.length:Int))=((y - m.guards.length:Nat):Int):=by rw [aD (by omega) (by omega)];omega
   repeat' first|refine ge (kf z1 (kf z3 (kf z4 ew))) ?_|decide|refine sp ?_ ?_<;>intro _
 .have z1:(op == 9)=false:=by simp [h9]
  have z4:(op == 10)=false:=by simp [h10]
  have e0:BR m ⟨op,la,ln,ra,rn,n,u⟩ y=false:=by simp [BR,h9,h10]
  rw [e0]
  repeat' first|refine ge (kf z1 z4) ?_|decide|refine sp ?_ ?_<;>intro _
  all_goals
   refine aA (by kernel_rfl) ?_
   repeat' first|refine ge (kf z1 z4) ?_|decide|refine sp ?_ ?_<;>intro _
noncomputable def jO (m:bk) (x y:Nat):Bool:=((ku m x).any fun i=>BR m i y) || (decide (y<m.guards.length) && (if x<m.guards.length then decide (0<=cp m x) && decide (cp m x<(m.stages.length:Int)) && ((m.stages[(cp m x).toNat]?.map (·.2)).getD 0 == cp m y) else cp m x == cp m y))
theorem uo {α:Type} (l:List α) (p:α -> Bool) {k:Nat} (h:k<l.length):(l.take (k+1)).any p=((l.take k).any p || p l[k]):=by
 rw [Vk h,List.any_append];simp
theorem Ic (m:bk) (x y:Nat) (hf:ur m) (hp:∀ p ∈ m.stages,aI p.2) (hx:x<m.guards.length+m.miles.length) (hy:y<m.guards.length+m.miles.length):aw Tryz.prog 68 [.agg (aW m),eI (x:Int),eI (y:Int)] (val (.bool (jO m x y))):=by
 refine aa ag Tryz.func68 rfl (by decide) Tryz.ntmps68 Tryz.results68 rfl (aL _) ?_;obtain ⟨hg,hm,-⟩:=id hf.sizes
 repeat' first|refine go ?_|decide|refine sp ?_ ?_<;>intro _
 refine cZ (Rh m x hf hx) (ro) ?_;have hcl:=CP m hf x;obtain ⟨l,hl⟩:∃ l,l=ku m x:=⟨_,rfl⟩;obtain ⟨w,hw⟩:∃ w,w=jO m x y:=⟨_,rfl⟩;have hwd:jO m x y=(l.any (fun i=>BR m i y) || (decide (y<m.guards.length) && (if x<m.guards.length then decide (0<=cp m x) && decide (cp m x<(m.stages.length:Int)) && ((m.stages[(cp m x).toNat]?.map (·.2)).getD 0 == cp m y) else cp m x == cp m y))):=by rw [hl];rfl
 rw [<- hl] at hcl ⊢;rw [<- hw] at hwd ⊢
 repeat' first|refine go ?_|decide|refine sp ?_ ?_<;>intro _
 refine af (fun st=>∃ (k:Nat),(k<=l.length /\ (l.take k).any (fun i=>BR m i y)=false) /\ st=⟨65,[(1,eI (x:Int)),(2,eI (y:Int)),(3,.op 0 0 0),(7,aR l),(8,eI (k:Int))],[(0,some (.box 32 (aW m)))],1⟩) (fun st=>l.length - ax st 8) ⟨_,wC,0,⟨Vg _,rfl⟩,rfl⟩ ?_;rintro _ ⟨k,⟨hk,hI⟩,rfl⟩;by_cases hlt:k<l.length
 .repeat' first|refine go ?_|simp only [ab,hlt]|decide|refine sp ?_ ?_<;>intro _
  refine ap [] [0,1,2,3,4,5] (.exec 6 .done) (by kernel_rfl) (by simp) ?_
  repeat' first|refine go ?_|simp only [ab,hlt]|decide|refine sp ?_ ?_<;>intro _
  refine ay (T5 m l[k] y hf hp hy) ?_;have hst:=uo l (fun i=>BR m i y) hlt
  cases hb:BR m l[k] y with
  | true=>
   have hwt:w=true:=by
    have:l.any (fun i=>BR m i y)=true:=Xz.2 ⟨_,Vf hlt,hb⟩;rw [hwd,this,Bool.true_or]
   rw [hwt]
   repeat' first|refine go ?_|simp only [ab,hlt]|decide|refine sp ?_ ?_<;>intro _
  | false=>
   repeat' first|refine go ?_|simp only [ab,hlt]|decide|refine sp ?_ ?_<;>intro _
   exact rI wC ⟨k+1,⟨by omega,by rw [hst,hI,hb];rfl⟩,rfl⟩
 .obtain rfl:k=l.length:=by omega
  rw [Vq] at hI;rw [hI,Bool.false_or] at hwd;by_cases hgd:y<m.guards.length
  .have z3:decide (y<m.guards.length)=true:=VC hgd;rw [z3,V4] at hwd;have z3n:decide (m.guards.length<=y)=false:=Vu (by omega);by_cases hxg:x<m.guards.length
   .have z5:decide (m.guards.length<=x)=false:=Vu (by omega);rw [Vn hxg] at hwd
    repeat' first|refine ge (kf @hlt (kf @z3n z5)) ?_|decide|refine sp ?_ ?_<;>intro _
    refine ay (kF m x hf hx) ?_;generalize cp m x=sx at *
    repeat' first|refine ge z5 ?_|decide|refine sp ?_ ?_<;>intro _
    by_cases hn:0<=sx /\ sx<(m.stages.length:Int)
    .obtain ⟨j,rfl⟩:∃ j:Nat,sx=(j:Int):=⟨sx.toNat,by omega⟩;have hj:j<m.stages.length:=(by omega);have hwe:w=(m.stages[j].2 == cp m y):=by rw [hwd];simp [hj]
     rw [hwe];refine aA (by kernel_rfl) ?_
     repeat' first|refine go ?_|simp only [ab,hj]|decide|refine sp ?_ ?_<;>intro _
     refine aP (kF m y hf hy) ?_
     repeat' first|refine go ?_|simp only [ab,hj]|decide|refine sp ?_ ?_<;>intro _
    .have hn2:decide (0<=sx)=false \/ (decide (0<=sx)=true /\ decide (sx<(m.stages.length:Int))=false):=by
      rcases Int.lt_or_le sx 0 with h|h
      .left;simp;omega
      .right;exact ⟨VC h,by simp;omega⟩
     rcases hn2 with hn2|⟨hn1,hn2⟩
     .rw [hn2,Wf,Wf] at hwd;rw [hwd];refine aA (by kernel_rfl) ?_
      repeat' first|refine ge hn2 ?_|decide|refine sp ?_ ?_<;>intro _
     .rw [hn1,hn2,V4,Wf] at hwd;rw [hwd];refine aA (by kernel_rfl) ?_
      repeat' first|refine ge (kf hn1 hn2) ?_|decide|refine sp ?_ ?_<;>intro _
   .have z5:decide (m.guards.length<=x)=true:=VC (by omega);rw [Vh hxg] at hwd;rw [hwd]
    repeat' first|refine ge (kf @hlt (kf @z3n z5)) ?_|decide|refine sp ?_ ?_<;>intro _
    refine ay (kF m x hf hx) ?_
    repeat' first|refine ge z5 ?_|decide|refine sp ?_ ?_<;>intro _
    refine ay (kF m y hf hy) ?_
    repeat' first|refine go ?_|decide|refine sp ?_ ?_<;>intro _
  .have z3:decide (y<m.guards.length)=false:=Vu hgd;rw [z3,Wf] at hwd;rw [hwd];have z3n:decide (m.guards.length<=y)=true:=VC (by omega)
   repeat' first|refine ge (kf @hlt @z3n) ?_|decide|refine sp ?_ ?_<;>intro _
end
section
abbrev Fs (m:bk):Nat:=m.guards.length+m.miles.length
def yc (m:bk) (js:List Nat) (i:Nat):Prop:=i ∉ js /\ ∀ k,k<Fs m -> k ∈ js \/ jO m i k=false
structure KY (m:bk) (js:List Nat) (i:Nat):Prop where
 lt:i<Fs m
 free:yc m js i
 first:∀ i',i'<i -> ¬ yc m js i'
def qa (m:bk) (js:List Nat):Prop:=∀ j (h:j<js.length),KY m (js.take j) js[j]
theorem zE {m:bk} {js:List Nat} {i:Nat} (h:qa m js) (hi:KY m js i):qa m (js ++ [i]):=fun j hj=>by
 rw [Vi,Vy] at hj;rcases Vv j js.length with h3|h3
 .rw [W5 (by omega),W4 h3];exact h j h3
 .obtain rfl:j=js.length:=by omega
  rw [W5 (by omega),Vq,Xl (by omega)];simpa using hi
theorem wM {bs:List Bool} {js:List Nat} {n j:Nat} (hb:∀ i (h:i<bs.length),bs[i]=decide (i ∈ js)):∀ i (h:i<(bs.set j true).length),(bs.set j true)[i]=decide (i ∈ js ++ [j]):=fun i h=>by
 rw [List.getElem_set];split
 .rename_i e;subst e;simp
 .rename_i e;rw [hb];simp [Ne.symm e]
theorem IH (m:bk) (hf:ur m) (hp:∀ p ∈ m.stages,aI p.2):dt Tryz.prog 31 [.agg (aW m)] fun R=>(∃ js:List Nat,R=⟨.tup [.osl 0,eI 0],[(0,some (.row 151 2 ((js.map (nz m)).map ya)))],1⟩ /\ js.length=Fs m /\ qa m js) \/ R=⟨.tup [.c (.slice none 0 0),eI 10],[],0⟩:=by
 refine bm ag Tryz.func31 rfl (by decide) Tryz.ntmps31 Tryz.results31 rfl ?_;obtain ⟨hg,hm,-⟩:=id hf.sizes
 repeat' first|refine go ?_|decide|refine sp ?_ ?_<;>intro _
 refine ay (N5 m hf) ?_;obtain ⟨n,hn⟩:∃ n,n=m.guards.length+m.miles.length:=⟨_,rfl⟩;have hnS:Fs m=n:=hn.symm;rw [<- hn]
 repeat' first|refine go ?_|decide|refine sp ?_ ?_<;>intro _
 refine ⟨by omega,?_⟩;refine af (fun st=>∃ (bs:List Bool) (js:List Nat),(bs.length=n /\ js.length<=n /\ (∀ i (h:i<bs.length),bs[i]=decide (i ∈ js)) /\ qa m js) /\ st=⟨66,[(1,.op 0 0 0),(4,eI (n:Int)),(5,.osl 1),(6,.osl 2)],[(0,some (.box 32 (aW m))),(1,some (.row 4 1 (bs.map fun b=>[eB b]))),(2,some (.row 151 2 ((js.map (nz m)).map ya)))],3⟩) (fun st=>n - xG st 2) ⟨_,((bA 6 151 2 (by simp only [jn,aj.get,bh,aj.put,↓reduceIte,reduceCtorEq,Nat.reduceLT,Nat.reduceEqDiff,Nat.reduceAdd,Nat.reduceLeDiff,eq_self,implies_true,VP,List.map_replicate])).trans (wS [0,1,2] @List.map_replicate.{0,0})),List.replicate n false,[],⟨by simp,Vg _,fun i h=>by simp,fun j h=>by simp at h⟩,rfl⟩ ?_;rintro _ ⟨bs,js,⟨hbs,ho,hbd,hgr⟩,rfl⟩;have hol:(js.map (nz m)).length=js.length:=Vo ..;by_cases hlt:js.length<n
 .repeat' first|refine ge (kf @hlt @hol) ?_|decide|refine sp ?_ ?_<;>intro _
  refine af (fun st=>∃ (i:Nat) (v:Int),(i<=n /\ ((v<0 /\ ∀ i',i'<i -> ¬ yc m js i') \/ ∃ j:Nat,v=(j:Int) /\ KY m js j)) /\ st=⟨66,[(1,.op 0 0 0),(4,eI (n:Int)),(5,.osl 1),(6,.osl 2),(7,eI v),(8,eI (i:Int))],[(0,some (.box 32 (aW m))),(1,some (.row 4 1 (bs.map fun b=>[eB b]))),(2,some (.row 151 2 ((js.map (nz m)).map ya)))],3⟩) (fun st=>n - ax st 8) ⟨_,wC,0,-1,⟨Vg _,.inl ⟨by omega,fun i' h=>absurd h (by omega)⟩⟩,rfl⟩ ?_;rintro _ ⟨i,v,⟨hi,hv⟩,rfl⟩;rcases hv with ⟨hv0,hno⟩|⟨j,rfl,hnx⟩
  .by_cases hlt2:i<n
   .have hib:i<bs.length:=by omega
    repeat' first|refine go ?_|simp only [ab,hlt2,hv0,hib]|decide|refine sp ?_ ?_<;>intro _
    refine af (fun st=>∃ (k:Nat) (f:Bool),(k<=n /\ (f=true ↔ i ∉ js /\ ∀ k',k'<k -> k' ∈ js \/ jO m i k'=false)) /\ st=⟨66,[(1,.op 0 0 0),(4,eI (n:Int)),(5,.osl 1),(6,.osl 2),(7,eI v),(8,eI (i:Int)),(9,eB f),(10,eI (k:Int))],[(0,some (.box 32 (aW m))),(1,some (.row 4 1 (bs.map fun b=>[eB b]))),(2,some (.row 151 2 ((js.map (nz m)).map ya)))],3⟩) (fun st=>n - ax st 10) ⟨_,wC,0,!bs[i],⟨Vg _,by rw [hbd];simp⟩,rfl⟩ ?_;rintro _ ⟨k,f,⟨hk,hF⟩,rfl⟩;by_cases hlt3:k<n
    .have hkb:k<bs.length:=by omega
     have hstep:∀ b:Bool,(b=true ↔ (k ∈ js \/ jO m i k=false)) -> ((f && b)=true ↔ i ∉ js /\ ∀ k',k'<k+1 -> k' ∈ js \/ jO m i k'=false):=fun b hb=>by
      rw [Vw,hF,hb];constructor
      .rintro ⟨⟨h1,h2⟩,h3⟩;refine ⟨h1,fun k' h4=>?_⟩;rcases Vv k' k with h5|h5
       .exact h2 k' h5
       .obtain rfl:k'=k:=by omega
        exact h3
      .rintro ⟨h1,h2⟩;exact ⟨⟨h1,fun k' h4=>h2 k' (by omega)⟩,h2 k (by omega)⟩
     have hW:=Ic m i k hf hp (by omega) (by omega)
     cases f with
     | false=>
      repeat' first|refine go ?_|simp only [ab,hlt3,hkb]|decide|refine sp ?_ ?_<;>intro _
      exact rI wC ⟨k+1,false,⟨by omega,hstep (decide (k ∈ js \/ jO m i k=false)) (by simp)⟩,rfl⟩
     | true=>
      cases hbk:bs[k] with
      | true=>
       have hmem:k ∈ js:=by
        have:=hbd k hkb;rw [hbk] at this;exact of_decide_eq_true this.symm
       repeat' first|refine go ?_|simp only [ab,hlt3,hkb,hbk]|decide|refine sp ?_ ?_<;>intro _
       exact rI wC ⟨k+1,true,⟨by omega,hstep true (by simp [hmem])⟩,rfl⟩
      | false=>
       have hmem:k ∉ js:=by
        have:=hbd k hkb;rw [hbk] at this;exact of_decide_eq_false this.symm
       repeat' first|refine go ?_|simp only [ab,hlt3,hkb,hbk]|decide|refine sp ?_ ?_<;>intro _
       refine ay hW ?_;have hs2:=hstep (!jO m i k) (by simp [hmem]);rw [V4] at hs2
       repeat' first|refine go ?_|simp only [ab,hkb]|decide|refine sp ?_ ?_<;>intro _
       exact rI wC ⟨k+1,!jO m i k,⟨by omega,hs2⟩,rfl⟩
    .obtain rfl:k=n:=by omega
     have hFr:f=true ↔ yc m js i:=by
      rw [hF];unfold yc;rw [hnS]
     cases f with
     | true=>
      repeat' first|refine go ?_|simp only [ab,hlt3]|decide|refine sp ?_ ?_<;>intro _
      exact rI wC ⟨i+1,(i:Int),⟨by omega,.inr ⟨i,rfl,⟨by omega,hFr.1 rfl,hno⟩⟩⟩,rfl⟩
     | false=>
      repeat' first|refine go ?_|simp only [ab,hlt3]|decide|refine sp ?_ ?_<;>intro _
      refine rI wC ⟨i+1,v,⟨by omega,.inl ⟨hv0,fun i' h=>?_⟩⟩,rfl⟩;rcases Vv i' i with h5|h5
      .exact hno i' h5
      .obtain rfl:i'=i:=by omega
       exact fun h6=>by have:=hFr.2 h6;cases this
   .repeat' first|refine ge (kf @hlt2 hv0) ?_|decide|refine sp ?_ ?_<;>intro _
    exact ⟨_,.inr rfl,⟨fun id o h=>(by cases h),trivial,trivial,trivial⟩,aX (by simp [AV.ren,AV.renL])⟩
  .have hjn:j<n:=by have:=hnx.lt;omega
   have hjb:j<bs.length:=(by omega);have hj0:decide ((j:Int)<0)=false:=(by simp);have et:((js ++ [j]).map (nz m)).map ya=(js.map (nz m)).map ya ++ [ya (nz m j)]:=by rw [VE,VE];rfl
   have hset:(bs.map fun b=>[eB b]).set j [eB true]=(bs.set j true).map fun b=>[eB b]:=(by rw [WK]);have hnew:(bs.set j true).length=n /\ (js ++ [j]).length<=n /\ (∀ i (h:i<(bs.set j true).length),(bs.set j true)[i]=decide (i ∈ js ++ [j])) /\ qa m (js ++ [j]):=⟨by simp [hbs],by simp;omega,wM (n:=n) hbd,zE hgr hnx⟩;by_cases hi2:i<n
   .repeat' first|refine go ?_|simp only [hi2,hj0,ab,hjb,Int.reduceToNat]|decide|refine sp ?_ ?_<;>intro _
    refine cZ (O1 m j hf (by omega)) (ro) ?_
    repeat' first|refine go ?_|simp only [ab,hjb]|decide|refine sp ?_ ?_<;>intro _
    refine ⟨rfl,by omega,cU (wS [0,1,4] (kf @hset et)) ⟨bs.set j true,js ++ [j],hnew,rfl⟩ (by simp [xG,ae.gc];omega)⟩
   .repeat' first|refine go ?_|simp only [hi2,hj0,ab,hjb,Int.reduceToNat]|decide|refine sp ?_ ?_<;>intro _
    refine cZ (O1 m j hf (by omega)) (ro) ?_
    repeat' first|refine go ?_|simp only [ab,hjb]|decide|refine sp ?_ ?_<;>intro _
    refine ⟨rfl,by omega,cU (wS [0,1,4] (kf @hset et)) ⟨bs.set j true,js ++ [j],hnew,rfl⟩ (by simp [xG,ae.gc];omega)⟩
 .repeat' first|refine ge (kf @hlt @hol) ?_|decide|refine sp ?_ ?_<;>intro _
  refine ⟨_,.inl ⟨js,rfl,by omega,hgr⟩,⟨fun id o h=>?_,XI,trivial,trivial⟩,⟨[2],by simp,rfl,⟨XI,⟨_,_,_,rfl⟩,by simp [ae.gc]⟩,trivial⟩⟩;simp only [ae.gc] at h;split at h
  .rename_i e;cases h;subst e;exact ⟨XI,trivial⟩
  .cases h
end
section
theorem FX (a b:List (Bool × Int)) (ha:a.length<=1000000) (hb:b.length<=1000000):dt Tryz.prog 32 [.sl 2 (a.map ya),.sl 2 (b.map ya)] fun R=>∃ r,R=val (.bool r) /\ (r=true -> a=b):=by
 refine bm ag Tryz.func32 rfl (by decide) Tryz.ntmps32 Tryz.results32 rfl ?_
 repeat' first|refine go ?_|decide|refine sp ?_ ?_<;>intro _
 .exact cI ⟨false,rfl,fun h=>by cases h⟩
 .rename_i hl;have hl:a.length=b.length:=by simp at hl;omega
  refine af (fun st=>∃ (k:Nat),(k<=a.length /\ ∀ i (h:i<a.length) (h2:i<b.length),i<k -> a[i]=b[i]) /\ st=⟨26,[(0,.sl 2 (a.map ya)),(1,.sl 2 (b.map ya)),(5,eI (k:Int))],[],0⟩) (fun st=>a.length - ax st 5) ⟨_,wC,0,⟨Vg _,fun i h h2 h3=>absurd h3 (by omega)⟩,rfl⟩ ?_;rintro _ ⟨k,⟨hk,hI⟩,rfl⟩;by_cases hlt:k<a.length
  .have hlt2:k<b.length:=by omega
   repeat' first|refine go ?_|simp only [ab,hlt,hlt2]|decide|refine sp ?_ ?_<;>intro _
   refine aA (by kernel_rfl) ?_
   repeat' first|refine go ?_|simp only [ab,hlt,hlt2]|decide|refine sp ?_ ?_<;>intro _
   refine ⟨_,GK .neq (.inr rfl) a[k] b[k],?_⟩
   repeat' first|refine go ?_|decide|refine sp ?_ ?_<;>intro _
   all_goals first|with_reducible exact cI ⟨false,rfl,fun h=>by cases h⟩|skip
   rename_i hne;refine rI wC ⟨k+1,⟨by omega,fun i h h2 h3=>?_⟩,rfl⟩;rcases Vv i k with h5|h5
   .exact hI i h h2 h5
   .obtain rfl:i=k:=by omega
    simp at hne;exact Prod.ext hne.1 hne.2
  .repeat' first|refine go ?_|simp only [ab,hlt]|decide|refine sp ?_ ?_<;>intro _
   exact cI ⟨true,rfl,fun _=>Xw hl fun i h1 h2=>hI i h1 h2 (by omega)⟩
structure JR (m:bk):Prop where
 chk:U6 m
 named:Cl m
 writes:oU m.events
 sum:lw m.events<=4
 consts:(fj m []).length<=6
 order:∃ js:List Nat,m.order=js.map (nz m) /\ js.length=Fs m /\ qa m js
theorem Bk (m:bk) (hf:ur m) (hp:∀ p ∈ m.stages,aI p.2):dt Tryz.prog 18 [.agg (aW m)] fun R=>∃ b,R=val (.bool b) /\ (b=true -> JR m):=by
 refine bm ag Tryz.func18 rfl (by decide) Tryz.ntmps18 Tryz.results18 rfl ?_;obtain ⟨hg,hm,hst,hev,hat,hus,hro,hso,hor,-⟩:=id hf.sizes;have hpl:(gA m).length<=1073741824:=by simp [gA];omega
 have hpo:∀ x ∈ gA m,aI x:=fun x hx=>by
  obtain ⟨p,hp',rfl⟩:=Vt.1 hx;exact hp p hp'
 repeat' first|refine go ?_|decide|refine sp ?_ ?_<;>intro _
 all_goals first|with_reducible exact cI ⟨false,rfl,fun h=>by cases h⟩|skip
 refine lJ (JD m hf) fun b hnm=>?_
 repeat' first|refine go ?_|decide|refine sp ?_ ?_<;>intro _
 all_goals first|with_reducible exact cI ⟨false,rfl,fun h=>by cases h⟩|skip
 rename_i hbn;have hbn:b=true:=by simpa using hbn
 have hnm:=hnm hbn;refine tw (Fa m.events (by omega) hf.events) ?_;rintro _ ⟨n,rfl,hwr⟩;refine ⟨.inr ⟨trivial,trivial⟩,?_⟩;simp only [val,AV.shift,ae.shift,VP,WT]
 repeat' first|refine go ?_|decide|refine sp ?_ ?_<;>intro _
 all_goals first|with_reducible exact cI ⟨false,rfl,fun h=>by cases h⟩|skip
 refine dM (oh m (by omega)) (.inr fr) ?_
 repeat' first|refine go ?_|decide|refine sp ?_ ?_<;>intro _
 refine ay (Hn (gA m) hpl hpo) ?_
 repeat' first|refine go ?_|decide|refine sp ?_ ?_<;>intro _
 all_goals first|with_reducible exact cI ⟨false,rfl,fun h=>by cases h⟩|skip
 have chk:U6 m:=by refine ⟨?_,?_,?_,?_,?_,?_,?_,?_,?_,?_⟩<;>(simp only [Vx,bne_eq_false_iff_eq] at *;omega)
 have hwr2:n=lw m.events /\ oU m.events:=hwr.resolve_left (by simp only [Vx,bne_eq_false_iff_eq] at *;omega);have hn4:n<=4:=by simp only [Vx,bne_eq_false_iff_eq] at *;omega
 refine cZ ((HI m [] (by simp) hg hm hf.guards hf.miles).fits (args:=[.agg (aW m),.c (.slice none 0 0)]) ⟨.one (.refl _),.one (.nil 7),trivial⟩) (ro) ?_
 repeat' first|refine go ?_|decide|refine sp ?_ ?_<;>intro _
 all_goals first|with_reducible exact cI ⟨false,rfl,fun h=>by cases h⟩|skip
 rename_i hc6;have hc6:(fj m []).length<=6:=by simp only [Vx] at hc6;omega
 refine tw (IH m hf hp) fun R hR=>?_;rcases hR with ⟨js,rfl,hjl,hgr⟩|rfl
 .have e0:((0:Int) == 0)=true:=by decide
  refine ⟨.inr ⟨⟨trivial,trivial,trivial⟩,Ax,trivial⟩,?_⟩;simp only [AV.shift,AV.shiftL,ae.shift,aE.shift]
  repeat' first|refine ge e0 ?_|decide|refine sp ?_ ?_<;>intro _
  refine lJ (FX (js.map (nz m)) m.order (by rw [Vo,hjl];unfold Fs;omega) (by omega)) fun x hx=>?_
  repeat' first|refine go ?_|decide|refine sp ?_ ?_<;>intro _
  exact cI ⟨_,rfl,fun h=>⟨chk,hnm,hwr2.2,by rw [<- hwr2.1];exact hn4,hc6,js,(hx h).symm,hjl,hgr⟩⟩
 .have e0:((10:Int) == 0)=false:=by decide
  refine ⟨.inr ⟨⟨trivial,trivial,trivial⟩,trivial⟩,?_⟩;simp only [AV.shift,AV.shiftL,ae.shift,aE.shift]
  repeat' first|refine ge e0 ?_|decide|refine sp ?_ ?_<;>intro _
  exact cI ⟨false,rfl,fun h=>by cases h⟩
end
end
section
section
deriving instance DecidableEq for Nd
theorem u6 (a b:Nd) (h1:a.z.cls.length<=1000000) (h2:a.z.gaps.length<=1000000) (h3:a.did.length<=1000000) (h4:a.cnt.length<=1000000):aw Tryz.prog 80 [.agg (jR a),.agg (jR b)] (val (.bool (decide (a=b)))):=by
 refine aa ag Tryz.func80 rfl (by decide) Tryz.ntmps80 Tryz.results80 rfl (aL _) ?_;obtain ⟨t,ht,hZ⟩:=lM (D7 a.z b.z h1 h2);have hD:=yo a.did b.did h3;have hC:=yo a.cnt b.cnt h4
 have e:decide (a=b)=(t && ((a.opn == b.opn) && ((a.don == b.don) && (decide (a.did=b.did) && decide (a.cnt=b.cnt))))):=by
  obtain ⟨az,ao,ad,ai,ac⟩:=a;obtain ⟨bz,bo,bd,bi,bc⟩:=b;rw [Wo];simp only [VG,Vw,Wv,Nd.mk.injEq];rw [ht]
 rw [e]
 cases t with
 | false=>(repeat' (first | refine gf @Wf ?_ | decide | refine sp ?_ ?_<;>intro _ | refine cA hZ ?_|fail))
 | true=>
  cases h5:a.opn == b.opn with
  | false=>(repeat' (first | refine gf (kf h5 (kf @Wf @V4)) ?_ | decide | refine sp ?_ ?_<;>intro _ | refine cA hZ ?_|fail))
  | true=>
   cases h6:a.don == b.don with
   | false=>(repeat' (first | refine gf (kf h5 (kf h6 (kf @Wf @V4))) ?_ | decide | refine sp ?_ ?_<;>intro _ | refine cA hZ ?_|fail))
   | true=>
    cases h7:decide (a.did=b.did) with
    | false=>
     rw [h7] at hD
     repeat' first|refine gf (kf h5 (kf h6 (kf @Wf @V4))) ?_|decide|refine sp ?_ ?_<;>intro _|refine cA hZ ?_|refine cA hD ?_|fail
    | true=>
     rw [h7] at hD
     cases h8:decide (a.cnt=b.cnt) with
     | false=>
      rw [h8] at hC
      repeat' first|refine gf (kf h5 (kf h6 (kf @Wf @V4))) ?_|decide|refine sp ?_ ?_<;>intro _|refine cA hZ ?_|refine cA hD ?_|refine cA hC ?_|fail
     | true=>
      rw [h8] at hC
      repeat' first|refine gf (kf h5 (kf h6 (kf @Wf @V4))) ?_|decide|refine sp ?_ ?_<;>intro _|refine cA hZ ?_|refine cA hD ?_|refine cA hC ?_|fail
structure Sn where
 ev:Int
 us:Int
 nd:Nd
deriving DecidableEq
abbrev uc (x:Sn):List AV:=[eI x.ev,eI x.us,.sl 2 (x.nd.z.cls.map cK),sI x.nd.z.gaps,eI x.nd.opn,eI x.nd.don,sI x.nd.did,sI x.nd.cnt]
structure ua (N:Nat) (n:Nd):Prop where
 z:mU N n.z
 did:n.did.length<=10
 cnt:n.cnt.length<=10
 opn:aI n.opn
 don:aI n.don
 dok:∀ x ∈ n.did,aI x
theorem Mi (l:List Sn) (x:Sn) (hll:l.length<=2700000000000) {N:Nat} (hN:N<=1000000) (hl:∀ y ∈ l,ua N y.nd):aw Tryz.prog 78 [.sl 8 (l.map uc),.agg (uc x)] (val (.bool (decide (x ∈ l)))):=by
 refine aa ag Tryz.func78 rfl (by decide) Tryz.ntmps78 Tryz.results78 rfl (aL _) ?_
 repeat' first|refine go ?_|decide|refine sp ?_ ?_<;>intro _
 refine af (fun st=>∃ k:Nat,k<=l.length /\ x ∉ l.take k /\ st=⟨40,[(0,.sl 8 (l.map uc)),(3,.op 0 0 0),(5,eI (k:Int))],[(0,some (.box 115 (uc x)))],1⟩) (fun st=>l.length - ax st 5) ⟨_,wC,0,Vg _,by simp,rfl⟩ ?_;rintro _ ⟨k,hk,hI,rfl⟩;by_cases hlt:k<l.length
 .obtain ⟨y,hy⟩:∃ y,y=l[k]:=⟨_,rfl⟩;have hrow:(l.map uc)[k]?.getD []=uc y:=by rw [hy];simp [hlt]
  have hB:=hl y (hy ▸ Vf hlt);have b1:=hB.z.cl;have b2:=hB.z.ga;have b3:=hB.did;have b4:=hB.cnt;have hS:=u6 y.nd x.nd (by omega) (by omega) (by omega) (by omega);have hm:x ∈ l.take (k+1) ↔ x ∈ l.take k \/ x=y:=by rw [Vk hlt,Vp,VF,hy]
  have q2:List.drop 2 (uc y)=jR y.nd:=rfl;have next:¬ y=x -> x ∉ l.take (k+1):=fun hne h=>(hm.1 h).elim hI fun e=>hne e.symm
  cases h5:y.ev == x.ev with
  | false=>
   have hne:¬ y=x:=fun e=>by rw [e] at h5;simp at h5
   repeat' first|refine gf (kf @hrow (kf @hlt h5)) ?_|decide|refine sp ?_ ?_<;>intro _
   all_goals exact rI wC ⟨k+1,by omega,next hne,rfl⟩
  | true=>
   cases h6:y.us == x.us with
   | false=>
    have hne:¬ y=x:=fun e=>by rw [e] at h6;simp at h6
    repeat' first|refine gf (kf @hrow (kf @hlt (kf h5 h6))) ?_|decide|refine sp ?_ ?_<;>intro _
    all_goals exact rI wC ⟨k+1,by omega,next hne,rfl⟩
   | true=>
    cases h7:decide (y.nd=x.nd) with
    | false=>
     rw [h7] at hS;have hne:¬ y=x:=fun e=>by rw [e] at h7;simp at h7
     repeat' first|refine gf (kf @hrow (kf @hlt (kf h5 h6))) ?_|decide|refine sp ?_ ?_<;>intro _|refine cA hS ?_|fail
     all_goals exact rI wC ⟨k+1,by omega,next hne,rfl⟩
    | true=>
     rw [h7] at hS
     have he:x=y:=by
      obtain ⟨e1,e2,e3⟩:=x;obtain ⟨f1,f2,f3⟩:=y;simp at h5 h6 h7;rw [h5,h6,h7]
     have hmem:x ∈ l:=by rw [he,hy];exact Vf hlt
     rw [VC hmem]
     repeat' first|refine gf (kf @hrow (kf @hlt (kf h5 h6))) ?_|decide|refine sp ?_ ?_<;>intro _|refine cA hS ?_|fail
     all_goals trace_state
 .obtain rfl:k=l.length:=by omega
  rw [Vq] at hI;rw [Vu hI]
  repeat' first|refine gf @hlt ?_|decide|refine sp ?_ ?_<;>intro _
def fw (m:bk) (n:Nd) (e:Nat) (u:Int):Nd:=⟨n.z,n.opn,n.don,n.did.set e (dK (n.did.getD e 0) u),if 0<(m.events[e]?.map (·.times)).getD 0 then n.cnt.set e (n.cnt.getD e 0+1) else n.cnt⟩
theorem N2 (m:bk) (n:Nd) (e:Nat) (u:Int) (he:e<m.events.length) (hd:e<n.did.length) (hc:e<n.cnt.length) (hdl:n.did.length<=1000000) (hcl:n.cnt.length<=1000000) (hdo:aI (n.did.getD e 0)) (hco:-1000<=n.cnt.getD e 0 /\ n.cnt.getD e 0<=1000) (hu:0<=u /\ u<31) :
  aw Tryz.prog 76 [.agg (aW m),.agg (jR n),eI (e:Int),eI u] ⟨.agg (jR (fw m n e u)),[],0⟩:=by
 refine aw.still (R:=⟨.agg [.sl 2 (n.z.cls.map cK),sI n.z.gaps,eI n.opn,eI n.don,.osl 0,.osl 1],[(0,some (.row 3 1 ((fw m n e u).did.map fun n=>[eI n]))),(1,some (.row 3 1 ((fw m n e u).cnt.map fun n=>[eI n])))],2⟩) [0,1] ?_ (by simp [cM.frzs,cM.frz,ae.gc,AV.frz,AV.frzL,b9,aE.frz,fw]) (by simp [AV.lt,AV.ltL]);refine aa ag Tryz.func76 rfl (by decide) Tryz.ntmps76 Tryz.results76 rfl (kC (by simp [cO,aE.lt,AV.ltL,AV.lt]) (by simp [AV.lt,AV.ltL])) ?_;obtain ⟨x,hx⟩:∃ x,x=m.events[e]:=⟨_,rfl⟩;have hrx:(m.events.map MU)[e]?.getD []=MU x:=by rw [hx];simp [he]
 obtain ⟨d,hde⟩:∃ d,d=n.did.getD e 0:=⟨_,rfl⟩;obtain ⟨c,hce⟩:∃ c,c=n.cnt.getD e 0:=⟨_,rfl⟩;have hrd:(n.did.map fun n=>[eI n])[e]?.getD []=[eI d]:=by rw [hde];simp [List.getD,hd]
 have hrc:(n.cnt.map fun n=>[eI n])[e]?.getD []=[eI c]:=by rw [hce];simp [List.getD,hc]
 rw [<- hde] at hdo;rw [<- hce] at hco;have hP:=sY d u true hdo hu.1 hu.2;rw [Vn rfl] at hP;have hsd:(n.did.map fun n=>[eI n]).set e [eI (dK d u)]=(fw m n e u).did.map fun n=>[eI n]:=by rw [fw,<- hde,WK]
 have ht:(m.events[e]?.map (·.times)).getD 0=x.times:=by rw [hx];simp [he]
 have ec:IntKind.i64.wrap (c+1)=c+1:=aD (by omega) (by omega)
 repeat' first|refine ge (kf @hrd hd) ?_|decide|refine sp ?_ ?_<;>intro _
 refine ⟨rfl,⟨by omega,by omega⟩,?_⟩;refine ay hP ?_
 repeat' first|refine ge (kf @hrd (kf hd @hsd)) ?_|decide|refine sp ?_ ?_<;>intro _
 refine ⟨rfl,⟨by omega,by omega⟩,?_⟩;by_cases h0:0<x.times
 .have d0:decide (0<x.times)=true:=VC h0;have hsc:(n.cnt.map fun n=>[eI n]).set e [eI (c+1)]=(fw m n e u).cnt.map fun n=>[eI n]:=by rw [fw,ht,Vn h0,<- hce,WK]
  repeat' first|refine gf (kf @hrx (kf he (kf @hrc (kf hc (kf d0 (kf ec @hsc)))))) ?_|decide|refine sp ?_ ?_<;>intro _
  exact ⟨[4,6],by decide,rfl,by simp [cH,ae.gc]⟩
 .have d0:decide (0<x.times)=false:=Vu h0;have hsc:(fw m n e u).cnt=n.cnt:=by rw [fw,ht,Vh h0]
  rw [hsc]
  repeat' first|refine gf (kf @hrx (kf he (kf @hrc (kf hc d0)))) ?_|decide|refine sp ?_ ?_<;>intro _
  exact ⟨[4,6],by decide,rfl,by simp [cH,ae.gc]⟩
theorem vo (n:Nd) (h1:n.did.length<=1000000) (h2:n.cnt.length<=1000000):aw Tryz.prog 51 [.agg (jR n)] ⟨.agg (gE (bD n)),[],0⟩:=
 dt.tree (vd n h1 h2) (by simp [AV.lt,AV.ltL]) fun R hR=>by
  subst hR;exact ⟨[],by simp [cM.frzs,AV.lt,AV.ltL],.one (.agg ⟨.nil 1,.refl _,.refl _,.refl _,.refl _,trivial⟩)⟩
def fZ (m:bk) (x:Bool × Int):List ah:=if x.1=true then (if 0<=x.2 then ((m.miles[x.2.toNat]?).map (·.cond)).getD [] else []) else (if 0<=x.2 then ((m.guards[x.2.toNat]?).map (·.cond)).getD [] else [])
theorem LX (m:bk) (xm:Bool) (xn:Int):aw Tryz.prog 122 [.agg (aW m),.agg [eB xm,eI xn]] ⟨aR (fZ m (xm,xn)),[],0⟩:=by
 refine dt.tree (Post:=fun R=>∃ ids,(R.frzs ids).r.lt 0 /\ oI (R.frzs ids).r (aR (fZ m (xm,xn)))) ?_ (by simp [AV.lt,AV.ltL]) fun R h=>h;refine bm ag Tryz.func122 rfl (by decide) Tryz.ntmps122 Tryz.results122 rfl ?_;have hI:=fun n most=>dX n most;have rN:oI (.c (.slice none 0 0)) (aR []):=.one (.one (.nil 7))
 cases xm with
 | true=>
  by_cases h0:0<=xn
  .obtain ⟨k,rfl⟩:∃ k:Nat,xn=(k:Int):=⟨xn.toNat,by omega⟩;by_cases hk:k<m.miles.length
   .obtain ⟨g,hg⟩:∃ g,g=m.miles[k]:=⟨_,rfl⟩;have hrg:(m.miles.map Hj)[k]?.getD []=Hj g:=by rw [hg];simp [hk]
    have e:fZ m (true,(k:Int))=g.cond:=(by simp [fZ,hk,hg]);have hIn:eE (k:Int) (m.miles.length:Int)=true:=by simp [eE];omega
    rw [e]
    repeat' first|refine gf (kf @hrg (kf hk @hIn)) ?_|decide|refine sp ?_ ?_<;>intro _|refine cA (hI _ _) ?_|fail
    all_goals first|exact ri (by simp [AV.ren]) (by simp [AV.lt]) rN|exact ri (by simp [AV.ren]) (by simp [AV.lt]) (.one (.one (.refl _)))
   .have e:fZ m (true,(k:Int))=[]:=(by simp [fZ,hk]);have hIn:eE (k:Int) (m.miles.length:Int)=false:=by simp [eE];omega
    rw [e]
    repeat' first|refine gf @hIn ?_|decide|refine sp ?_ ?_<;>intro _|refine cA (hI _ _) ?_|fail
    all_goals first|exact ri (by simp [AV.ren]) (by simp [AV.lt]) rN|exact ri (by simp [AV.ren]) (by simp [AV.lt]) (.one (.one (.refl _)))
  .have e:fZ m (true,xn)=[]:=(by simp [fZ,h0]);have hIn:eE xn (m.miles.length:Int)=false:=by simp [eE];omega
   rw [e]
   repeat' first|refine gf @hIn ?_|decide|refine sp ?_ ?_<;>intro _|refine cA (hI _ _) ?_|fail
   all_goals first|exact ri (by simp [AV.ren]) (by simp [AV.lt]) rN|exact ri (by simp [AV.ren]) (by simp [AV.lt]) (.one (.one (.refl _)))
 | false=>
  by_cases h0:0<=xn
  .obtain ⟨k,rfl⟩:∃ k:Nat,xn=(k:Int):=⟨xn.toNat,by omega⟩;by_cases hk:k<m.guards.length
   .obtain ⟨g,hg⟩:∃ g,g=m.guards[k]:=⟨_,rfl⟩;have hrg:(m.guards.map IK)[k]?.getD []=IK g:=by rw [hg];simp [hk]
    have e:fZ m (false,(k:Int))=g.cond:=(by simp [fZ,hk,hg]);have hIn:eE (k:Int) (m.guards.length:Int)=true:=by simp [eE];omega
    rw [e]
    repeat' first|refine gf (kf @hrg (kf hk @hIn)) ?_|decide|refine sp ?_ ?_<;>intro _|refine cA (hI _ _) ?_|fail
    all_goals first|exact ri (by simp [AV.ren]) (by simp [AV.lt]) rN|exact ri (by simp [AV.ren]) (by simp [AV.lt]) (.one (.one (.refl _)))
   .have e:fZ m (false,(k:Int))=[]:=(by simp [fZ,hk]);have hIn:eE (k:Int) (m.guards.length:Int)=false:=by simp [eE];omega
    rw [e]
    repeat' first|refine gf @hIn ?_|decide|refine sp ?_ ?_<;>intro _|refine cA (hI _ _) ?_|fail
    all_goals first|exact ri (by simp [AV.ren]) (by simp [AV.lt]) rN|exact ri (by simp [AV.ren]) (by simp [AV.lt]) (.one (.one (.refl _)))
  .have e:fZ m (false,xn)=[]:=(by simp [fZ,h0]);have hIn:eE xn (m.guards.length:Int)=false:=by simp [eE];omega
   rw [e]
   repeat' first|refine gf @hIn ?_|decide|refine sp ?_ ?_<;>intro _|refine cA (hI _ _) ?_|fail
   all_goals first|exact ri (by simp [AV.ren]) (by simp [AV.lt]) rN|exact ri (by simp [AV.ren]) (by simp [AV.lt]) (.one (.one (.refl _)))
def b8 (m:bk):bk:={ m with guards:=m.guards.map fun g=>{ g with cond:=[dy] },miles:=m.miles.map fun g=>{ g with cond:=[dy] } }
abbrev UA:List AV:=[.c (.slice none 0 0),.c (.slice none 0 0),.c (.slice none 0 0),.c (.slice none 0 0),.c (.slice none 0 0),.c (.slice none 0 0),.c (.slice none 0 0),.c (.slice none 0 0),.c (.slice none 0 0),.c (.slice none 0 0)]
theorem Hu (m:bk) (hg:m.guards.length<=1000000) (hm:m.miles.length<=1000000):aw Tryz.prog 121 [.agg (aW m)] ⟨.agg (aW (b8 m)),[],0⟩:=by
 refine aw.still (R:=⟨.agg [.sl 1 (m.attrs.map fun s=>[eS s]),sI m.inits,.sl 1 (m.users.map fun s=>[eS s]),.sl 2 (m.roles.map Tw),.sl 2 (m.stages.map Tw),.sl 5 (m.events.map MU),.osl 0,.osl 1,.sl 2 (m.sods.map Tu),.sl 2 (m.order.map ya)],[(0,some (.row 67 3 ((b8 m).guards.map IK))),(1,some (.row 69 5 ((b8 m).miles.map Hj)))],2⟩) [0,1] ?_ (by simp [cM.frzs,cM.frz,ae.gc,AV.frz,AV.frzL,b9,aE.frz,b8]) (by simp [AV.lt,AV.ltL]);refine aa ag Tryz.func121 rfl (by decide) Tryz.ntmps121 Tryz.results121 rfl (kC (by simp [cO,aE.lt,AV.ltL,AV.lt]) (by simp [AV.lt,AV.ltL])) ?_;have hT:aR [dy]=.sl 7 [[eI 1,eI 0,eI 0,eI 0,eI 0,eI 0,eI 0]]:=rfl
 repeat' first|refine go ?_|decide|refine sp ?_ ?_<;>intro _
 refine af (fun st=>∃ k:Nat,k<=m.guards.length /\ st=⟨52,[(1,.op 0 0 0),(2,.op 1 0 0),(3,.osl 2),(4,eI (k:Int))],[(0,some (.box 32 (aW m))),(1,some (.box 32 UA)),(2,some (.row 67 3 (((b8 m).guards.take k).map IK)))],3⟩) (fun st=>m.guards.length - ax st 4) ⟨_,((bA 3 67 3 (by simp only [jn,aj.get,bh,aj.put,↓reduceIte,reduceCtorEq,Nat.reduceLT,Nat.reduceEqDiff,Nat.reduceAdd,Nat.reduceLeDiff,eq_self,implies_true,VA,VP])).trans (wS [0,1,2] @VA)),0,Vg _,rfl⟩ ?_;rintro _ ⟨k,hk,rfl⟩;have hol:(b8 m).guards.length=m.guards.length:=by simp [b8]
 by_cases hlt:k<m.guards.length
 .obtain ⟨g,hge⟩:∃ g,g=m.guards[k]:=⟨_,rfl⟩;have hrg:(m.guards.map IK)[k]?.getD []=IK g:=by rw [hge];simp [hlt]
  have et:((b8 m).guards.take (k+1)).map IK=((b8 m).guards.take k).map IK ++ [[eI g.stage,eI g.event,.sl 7 [[eI 1,eI 0,eI 0,eI 0,eI 0,eI 0,eI 0]]]]:=by
   rw [Vk (by omega)];simp [b8,hge]
  have htl:((b8 m).guards.take k).length<=1000000:=by rw [Vr];omega
  obtain ⟨O,hO⟩:∃ O,O=(b8 m).guards.take k:=⟨_,rfl⟩;rw [<- hO] at et htl ⊢
  repeat' first|refine gf (kf @hrg @hlt) ?_|decide|refine sp ?_ ?_<;>intro _|(with_reducible apply And.intro)
  all_goals first
   | rfl
   | omega
   | exact rI (wS [0,1,6] (kf et hO)) ⟨k+1,by omega,rfl⟩
 .obtain rfl:k=m.guards.length:=by omega
  have ha:(b8 m).guards.take m.guards.length=(b8 m).guards:=VK (by omega);rw [ha]
  repeat' first|refine gf @hlt ?_|decide|refine sp ?_ ?_<;>intro _
  refine af (fun st=>∃ k:Nat,k<=m.miles.length /\ st=⟨52,[(1,.op 0 0 0),(2,.op 1 0 0),(3,.osl 2),(6,.osl 3),(7,eI (k:Int))],[(0,some (.box 32 (aW m))),(1,some (.box 32 UA)),(2,some (.row 67 3 ((b8 m).guards.map IK))),(3,some (.row 69 5 (((b8 m).miles.take k).map Hj)))],4⟩) (fun st=>m.miles.length - ax st 7) ⟨_,((bA 6 69 5 (by simp only [jn,aj.get,bh,aj.put,↓reduceIte,reduceCtorEq,Nat.reduceLT,Nat.reduceEqDiff,Nat.reduceAdd,Nat.reduceLeDiff,eq_self,implies_true,VA,VP])).trans (wS [0,1,2,3] @VA)),0,Vg _,rfl⟩ ?_;rintro _ ⟨k,hk,rfl⟩;have hol2:(b8 m).miles.length=m.miles.length:=by simp [b8]
  by_cases hlt2:k<m.miles.length
  .obtain ⟨g,hge⟩:∃ g,g=m.miles[k]:=⟨_,rfl⟩;have hrg:(m.miles.map Hj)[k]?.getD []=Hj g:=by rw [hge];simp [hlt2]
   have et:((b8 m).miles.take (k+1)).map Hj=((b8 m).miles.take k).map Hj ++ [[eS g.name,eI g.stage,eI g.event,.sl 7 [[eI 1,eI 0,eI 0,eI 0,eI 0,eI 0,eI 0]],eB g.final]]:=by
    rw [Vk (by omega)];simp [b8,hge]
   have htl:((b8 m).miles.take k).length<=1000000:=by rw [Vr];omega
   obtain ⟨O,hO⟩:∃ O,O=(b8 m).miles.take k:=⟨_,rfl⟩;rw [<- hO] at et htl ⊢
   repeat' first|refine gf (kf @hrg @hlt2) ?_|decide|refine sp ?_ ?_<;>intro _|(with_reducible apply And.intro)
   all_goals first
    | rfl
    | omega
    | exact rI (wS [0,1,2,7] (kf et hO)) ⟨k+1,by omega,rfl⟩
  .obtain rfl:k=m.miles.length:=by omega
   have ha2:(b8 m).miles.take m.miles.length=(b8 m).miles:=VK (by omega);rw [ha2]
   repeat' first|refine gf @hlt2 ?_|decide|refine sp ?_ ?_<;>intro _
   all_goals exact ⟨[2,3],by decide,rfl,by simp [cH,ae.gc]⟩
theorem JN {m:bk} (h:ur m):ur (b8 m):=by
 refine ⟨?_,fun g hg=>?_,fun g hg=>?_,h.events⟩
 .have:=h.sizes;simpa [wt,b8] using this
 .obtain ⟨x,_,rfl⟩:=Vt.1 hg;simp
 .obtain ⟨x,_,rfl⟩:=Vt.1 hg;simp
theorem K9 {m:bk} (h:ur m) (x:Bool × Int):(fZ m x).length<=80:=by
 unfold fZ;split<;>split
 .cases he:m.miles[x.2.toNat]? with
  | none=>simp
  | some g=>simpa using h.miles g (p0 he)
 .simp
 .cases he:m.guards[x.2.toNat]? with
  | none=>simp
  | some g=>simpa using h.guards g (p0 he)
 .simp
noncomputable def t0 (m:bk) (c:List Int) (z:Zn) (event:Int) (s:St) (x:Bool × Int):St:=if (jf (cc (fZ m x) z c s) && fW (b8 m) s x event)=true then eY m s x else s
noncomputable def kw (m:bk) (c:List Int) (z:Zn) (event:Int) (k:Nat) (s:St):St:=(m.order.take k).foldl (t0 m c z event) s
noncomputable def qS (m:bk) (c:List Int) (n:Nd) (event:Int):Nd:=⟨n.z,(kw m c n.z event m.order.length (bD n)).opn,(kw m c n.z event m.order.length (bD n)).don,n.did,n.cnt⟩
theorem qN {m:bk} {c:List Int} {z:Zn} {event:Int} {k:Nat} (s:St) (hk:k<m.order.length):kw m c z event (k+1) s=t0 m c z event (kw m c z event k s) m.order[k]:=by
 unfold kw;rw [Vk hk,Wh];rfl
theorem pJ (m:bk) (c:List Int) (z:Zn) (event:Int) (s:St) (h:cN s.opn /\ cN s.don):∀ k,k<=m.order.length -> cN (kw m c z event k s).opn /\ cN (kw m c z event k s).don
 | 0,_=>by simpa [kw] using h
 | k+1,hk=>by
  rw [qN s (by omega)];have ih:=pJ m c z event s h k (by omega);unfold t0;split
  .exact D0 m _ _ ih
  .exact ih
theorem Iy (m:bk) (c:List Int) (n:Nd) (event:Int) (hf:ur m) (hp:∀ p ∈ m.stages,aI p.2) (hc:c.length<=1000) {N:Nat} (hN:N<=1000) (hB:ua N n) (ho:cN n.opn) (hd:cN n.don):aw Tryz.prog 77 [.agg (aW m),sI c,.agg (jR n),eI event] ⟨.agg (jR (qS m c n event)),[],0⟩:=by
 obtain ⟨hgl,hml,hsl,hel,hal,hul,hrl,hsol,hol,hil⟩:=id hf.sizes;have hcl:=hB.z.cl;have hdl:=hB.did;have hcn:=hB.cnt;have hSt:=vo n (by omega) (by omega);have hFr:=Hu m (by omega) (by omega);refine aa ag Tryz.func77 rfl (by decide) Tryz.ntmps77 Tryz.results77 rfl (⟨fun id o h=>(by cases h),⟨trivial,trivial,trivial,trivial,trivial,trivial,trivial⟩⟩) ?_
 repeat' first|refine gq ?_|decide|refine sp ?_ ?_<;>intro _|refine cA hSt ?_|refine cA hFr ?_|fail
 refine af (fun st=>∃ (k:Nat) (s:St),k<=m.order.length /\ s=kw m c n.z event k (bD n) /\ st=⟨61,[(1,sI c),(3,eI event),(4,.op 0 0 0),(6,.op 1 0 0),(8,.op 2 0 0),(9,.op 3 0 0),(10,.op 4 0 0),(11,eI (k:Int))],[(0,some (.box 32 (aW m))),(1,some (.box 93 (jR n))),(2,some (.box 93 [.c (.slice none 0 0),.c (.slice none 0 0),eI 0,eI 0,.c (.slice none 0 0),.c (.slice none 0 0)])),(3,some (.box 132 (gE s))),(4,some (.box 32 (aW (b8 m))))],5⟩) (fun st=>m.order.length - ax st 11) ⟨_,wC,0,bD n,Vg _,rfl,rfl⟩ ?_;rintro _ ⟨k,s,hk,hs,rfl⟩;have h31:=pJ m c n.z event (bD n) ⟨ho,hd⟩ k hk;rw [<- hs] at h31;by_cases hlt:k<m.order.length
 .have hst:=qN (c:=c) (z:=n.z) (event:=event) (bD n) hlt;rw [<- hs] at hst;obtain ⟨x,hx⟩:∃ x,x=m.order[k]:=⟨_,rfl⟩;have hrx:(m.order.map ya)[k]?.getD []=ya x:=by rw [hx];simp [hlt]
  rw [<- hx] at hst;obtain ⟨xm,xn⟩:=x;have hC:=LX m xm xn;have hcnl:=K9 hf (xm,xn);have hH:=Fc (fZ m (xm,xn)) n.z c s (by omega) (by omega) hc hB.z.at_ (dl h31.1) (dl h31.2);have hF:=uP (b8 m) s xm xn event (JN hf) (dl h31.1) (dl h31.2);have hFi:=zy m s xm xn hf hp h31.1 h31.2;obtain ⟨b,hb⟩:∃ b,b=jf (cc (fZ m (xm,xn)) n.z c s):=⟨_,rfl⟩;obtain ⟨e,he⟩:∃ e,e=rg (cc (fZ m (xm,xn)) n.z c s):=⟨_,rfl⟩;have ht:t0 m c n.z event s (xm,xn)=if (b && fW (b8 m) s (xm,xn) event)=true then eY m s (xm,xn) else s:=by rw [t0,<- hb]
  rw [ht] at hst;rw [<- hb,<- he] at hH;obtain ⟨f,hff⟩:∃ f,f=fW (b8 m) s (xm,xn) event:=⟨_,rfl⟩;rw [<- hff] at hF hst
  repeat' first|refine ge (kf @hrx @hlt) ?_|decide|refine sp ?_ ?_<;>intro _
  refine ap [] [0,1,3,4,5,6] (.exec 2 (.exec 7 (.take 8 (.take 9 (.take 10 (.exec 11 (.exec 12 .done))))))) (by kernel_rfl) (by simp [ae.gc]) ?_
  cases b with
  | false=>
   rw [Wf,Vh (by simp)] at hst
   repeat' first|refine gf (kf @hrx @hlt) ?_|decide|refine sp ?_ ?_<;>intro _|refine cA hC ?_|refine cA hH ?_|fail
   all_goals exact rI wC ⟨k+1,s,by omega,hst.symm,rfl⟩
  | true=>
   cases f with
   | false=>
    rw [V4,Vh (by simp)] at hst
    repeat' first|refine gf (kf @hrx @hlt) ?_|decide|refine sp ?_ ?_<;>intro _|refine cA hC ?_|refine cA hH ?_|refine cA hF ?_|fail
    all_goals exact rI wC ⟨k+1,s,by omega,hst.symm,rfl⟩
   | true=>
    rw [V4,Vn rfl] at hst
    repeat' first|refine gf (kf @hrx @hlt) ?_|decide|refine sp ?_ ?_<;>intro _|refine cA hC ?_|refine cA hH ?_|refine cA hF ?_|refine cA hFi ?_|fail
    all_goals exact rI wC ⟨k+1,eY m s (xm,xn),by omega,hst.symm,rfl⟩
 .obtain rfl:k=m.order.length:=by omega
  have hn:qS m c n event=⟨n.z,s.opn,s.don,n.did,n.cnt⟩:=by rw [qS,<- hs]
  rw [hn]
  repeat' first|refine gf @hlt ?_|decide|refine sp ?_ ?_<;>intro _
  all_goals exact gM rfl
structure gF (m:bk) (c:List Int):Prop where
 fit:ur m
 ck:JR m
 clen:c.length<=9
 cok:∀ x ∈ c,aI x
 stg:∀ p ∈ m.stages,aI p.2
 rol:∀ p ∈ m.roles,aI p.2
noncomputable def gO (m:bk) (c:List Int) (n:Nd) (e:Nat) (u:Int) (zs:List Zn):List Sn:=zs.map fun z=>⟨(e:Int),u,qS m c { fw m n e u with z:=z } (e:Int)⟩
noncomputable def qx (m:bk) (e:Nat):List Int:=(m.events[e]?.map (·.sets)).getD []
noncomputable def dq (m:bk) (n:Nd) (e:Nat):List Zn:=t8 n.z (qx m e) (fk m n.cnt m.events.length) (qx m e).length
noncomputable def nr (m:bk) (c:List Int) (n:Nd) (e:Nat):List Sn:=(fA m (bD n) (e:Int)).flatMap fun u=>gO m c n e u (dq m n e)
noncomputable def du (m:bk) (c:List Int) (n:Nd) (k:Nat):List Sn:=(List.range k).flatMap (nr m c n)
open Classical in
noncomputable def kk (m:bk) (c:List Int) (n:Nd):List Sn:=if Dz m c n then ch (du m c n m.events.length) ++ (if ux m (bD n)=true then [] else [⟨-1,-1,n⟩]) else []
end
section
def nQ (l:List fQ):Nat -> Nat
 | 0=>0
 | a+1=>nQ l a+cF l (a:Int)
theorem vR (x:fQ) (l:List fQ):∀ k,nQ (x :: l) k=nQ [x] k+nQ l k
 | 0=>rfl
 | k+1=>by
  have h:cF (x :: l) (k:Int)=cF [x] (k:Int)+cF l (k:Int):=by
   unfold cF;rw [List.countP_cons,List.countP_cons];simp;omega
  rw [nQ,nQ,nQ,vR x l k,h];omega
theorem zF {x:fQ} {a:Nat} (h:bp x.attrs (a:Int)=true):∀ k,a<k -> 1<=nQ [x] k
 | 0,hk=>absurd hk (by omega)
 | k+1,hk=>by
  rw [nQ];by_cases e:a=k
  .have:cF [x] (k:Int)=1:=by rw [<- e];simp [cF,h]
   omega
  .have:=zF h k (by omega);omega
theorem I2 {x:fQ} (h:0<x.attrs /\ x.attrs<2147483648):∃ a:Nat,a<31 /\ bp x.attrs (a:Int)=true:=by
 have hne:aN x ≠ 0:=by unfold aN;omega
 obtain ⟨i,hi⟩:∃ i,(aN x).testBit i=true:=Classical.byContradiction fun hn=>hne (Xr fun i=>by
  rw [Nat.zero_testBit]
  cases h2:(aN x).testBit i with
  | false=>rfl
  | true=>exact absurd ⟨i,h2⟩ hn)
 have h31:i<31:=by
  refine Classical.byContradiction fun hn=>?_;have h1:aN x<2 ^ i:=Vm (by unfold aN;omega:aN x<2 ^ 31) (VU (by omega) (by omega));rw [WG h1] at hi;cases hi
 exact ⟨i,h31,by rw [iH ⟨by omega,h.2⟩ h31];exact hi⟩
theorem uM:∀ l:List fQ,(∀ x ∈ l,(0<=x.attrs /\ x.attrs<2147483648) /\ (0<x.attrs \/ 0<=x.const)) -> l.length<=nQ l 31+fB l
 | [],_=>Vg _
 | x :: l,h=>by
  have ih:=uM l fun y hy=>h y (VT _ hy);obtain ⟨h1,h2⟩:=h x V1
  have hn:fB (x :: l)=fB l+(if x.const = -1 then 0 else 1):=by
   unfold fB;rw [List.countP_cons];by_cases e:x.const = -1<;>simp [e]
  rw [vR,hn,VI];by_cases e:x.const = -1
  .obtain ⟨a,ha,hb⟩:=I2 (x:=x) ⟨by omega,h1.2⟩;have:=zF hb 31 ha;rw [Vn e];omega
  .rw [Vh e];omega
theorem Mn {l:List fQ} {n:Nat} (h:∀ a:Nat,a<31 -> (cF l (a:Int):Int)=if (a:Int)<(n:Int) then 1 else 0):∀ k,k<=31 -> nQ l k<=n
 | 0,_=>Vg _
 | k+1,hk=>by
  have key:∀ j,j<=31 -> nQ l j<=min j n:=fun j=>by
   induction j with
   | zero=>intro _;simp [nQ]
   | succ j ih=>
    intro hj;have h1:=ih (by omega);have h2:=h j (by omega);rw [nQ];split at h2<;>omega
  have:=key (k+1) hk;omega
theorem Ct {l:List fQ} {n:Nat} {m:Int} (hn:n<=31) (hat:∀ x ∈ l,x.attrs<9223372036854775808) (h:rJ l (n:Int) m):(l.length:Int)<=n+m:=by
 have hd:=(tD l n m hn hat).2 h;rw [Vw,VG] at hd;obtain ⟨hb,hm⟩:=hd;obtain ⟨hA,hC⟩:=(Eg l (n:Int)).1 hb
 have h1:=uM l fun x hx=>by
  obtain ⟨i,hi,rfl⟩:=VB hx;obtain ⟨k1,k2,_⟩:=(nE _ _).1 (hC i hi);exact ⟨k1,k2⟩
 have h2:=Mn ((DT l (n:Int) 31).1 hA) 31 (Os _);omega
theorem SS (m:bk) (c:List Int) {k:Nat} (hk:k<m.events.length) (h0:0<=m.events[k].times):L8 m c k<=m.events[k].times * (m.events[k].sets.length:Int):=by
 unfold L8;have hw:=zd c k;simp only [f4 hk,VX,VH];have h1:(((max 0 (m.events[k].times - wz c k)).toNat:Nat):Int)<=m.events[k].times:=by omega
 exact Int.mul_le_mul_of_nonneg_right h1 (WZ _)
theorem yT (m:bk) (c:List Int) (hw:oU m.events):∀ k,k<=m.events.length -> fk m c k<=lw (m.events.take k)
 | 0,_=>by simp [fk,lw]
 | k+1,hk=>by
  have h1:=yT m c hw k (by omega);have h2:=SS m c (k:=k) (by omega) (hw.each k (by omega)).1;rw [fk,j7 (by omega)];omega
theorem Ob (m:bk) (c:List Int) (k:Nat):0<=L8 m c k:=by
 unfold L8;exact Int.mul_nonneg (WZ _) (WZ _)
theorem u8 (m:bk) (c:List Int):∀ k,0<=fk m c k
 | 0=>Xn _
 | k+1=>by
  have:=u8 m c k;have:=Ob m c k;rw [fk];omega
theorem yG {l:List Ev} (hw:oU l):∀ {k:Nat} (hk:k<l.length) (n:Nat),k<n -> n<=l.length -> l[k].times * (l[k].sets.length:Int)<=lw (l.take n)
 | k,hk,0,h,_=>absurd h (by omega)
 | k,hk,n+1,h,hn=>by
  have h0:∀ i (hi:i<l.length),0<=l[i].times * (l[i].sets.length:Int):=fun i hi=>Int.mul_nonneg (hw.each i hi).1 (WZ _)
  have hp:∀ j,j<=l.length -> 0<=lw (l.take j):=fun j=>by
   induction j with
   | zero=>intro _;simp [lw]
   | succ j ih=>
    intro hj;have:=ih (by omega);have:=h0 j (by omega);rw [j7 (by omega)];omega
  rw [j7 (by omega)];by_cases e:k=n
  .subst e;have:=hp k (by omega);omega
  .have:=yG hw hk n (by omega) (by omega);have:=h0 n (by omega);omega
theorem oD {m:bk} (h:JR m) {k:Nat} (hk:k<m.events.length):m.events[k].sets.length<=4:=by
 have h1:=yG h.writes hk m.events.length hk (Os _);rw [Vq] at h1;have h2:=h.sum;obtain ⟨h3,h4,h5⟩:=h.writes.each k hk;by_cases e:m.events[k].times=0
 .have:=h5 e;omega
 .have h6:(1:Int) * (m.events[k].sets.length:Int)<=m.events[k].times * (m.events[k].sets.length:Int):=Int.mul_le_mul_of_nonneg_right (by omega) (WZ _);omega
theorem JP {m:bk} (h:JR m) (c:List Int):0<=fk m c m.events.length /\ fk m c m.events.length<=4:=by
 have h1:=yT m c h.writes m.events.length (Os _);rw [Vq] at h1;have h2:=h.sum;exact ⟨u8 m c _,by omega⟩
theorem mU.mono {N M:Nat} {z:Zn} (h:mU N z) (hm:N<=M):mU M z:=⟨by have:=h.cl;omega,by have:=h.ga;omega,h.at_⟩
structure ot (m:bk) (n:Nd):Prop where
 did:n.did.length=m.events.length
 cnt:n.cnt.length=m.events.length
 opn:cN n.opn
 don:cN n.don
 each:∀ i,i<m.events.length -> cN (n.did.getD i 0) /\ 0<=n.cnt.getD i 0 /\ n.cnt.getD i 0<=3
 z:mU 14 n.z
 gap:(n.z.gaps.length:Int)=max ((n.z.cls.length:Int) - 1) 0
theorem J8 {m:bk} {c:List Int} {n:Nd} (hE:gF m c) (hat:∀ x ∈ n.z.cls,aI x.attrs) (h:Dz m c n):ot m n:=by
 obtain ⟨h1,⟨⟨h2,h3,h4⟩,_⟩⟩:=h;unfold yk vg at h1;simp only [Vw,VG] at h1;obtain ⟨⟨⟨⟨⟨c1,c2⟩,c3⟩,c4⟩,c5⟩,c6⟩:=h1;have h5:=Ct (n:=m.attrs.length) (by have:=hE.ck.chk.attrs;omega) (fun x hx=>by have:=(hat x hx).2;omega) h3;have h6:=fy c;have h7:=hE.clen;have h8:=hE.ck.chk.attrs;refine ⟨c2,c3,pw c4,pw c5,fun i hi=>?_,⟨by omega,by have:=h4.1;omega,hat⟩,h4.1⟩;have h9:=(Ap _ _).1 c6 i hi;unfold AB at h9;simp only [Vw,VG,f4 hi,VX,VH] at h9;have h10:=(hE.ck.writes.each i hi).2.1;exact ⟨pw h9.1.1,h9.1.2,by omega⟩
theorem rV {m:bk} {e:Nat} (he:e<m.events.length):qx m e=m.events[e].sets:=by simp [qx,he]
theorem J4 {m:bk} (h:JR m) {e:Nat} (he:e<m.events.length):∀ a ∈ qx m e,0<=a /\ a<31:=by
 intro a ha;rw [rV he] at ha;obtain ⟨i,hi,rfl⟩:=VB ha;have h1:=((h.named.events e he).2.2 i hi).1;have h2:=h.chk.attrs;unfold eE at h1;simp only [Vw,VG] at h1;omega
theorem mw {f:Nat -> Bool}:∀ {n:Nat} {u:Int},u ∈ dR f n -> 0<=u /\ u<(n:Int)
 | 0,u,h=>by simp [dR] at h
 | n+1,u,h=>by
  rw [dR] at h;split at h
  .rcases Vp.1 h with h1 | h1
   .have:=mw h1;omega
   .simp at h1;omega
  .have:=mw h;omega
section
variable {m:bk} {c:List Int} {n:Nd}
theorem lA (hE:gF m c) (hK:ot m n) {e:Nat} (he:e<m.events.length):UQ 20 (dq m n e) /\ (dq m n e).length<=2000404224:=by
 have hs:=oD hE.ck he;rw [<- rV he] at hs;have hl:=(JP hE.ck n.cnt).2;refine ⟨fun y hy=>?_,xj (qx m e) hK.z hl _ (by omega)⟩;exact ((DR (qx m e) hK.z hl _ (by omega)).1 y hy).mono (by omega)
theorem Ik (hB:ua 20 n) (hK:ot m n) (e:Nat) (u:Int) (z:Zn) (hz:mU 20 z):ua 20 { fw m n e u with z:=z }:=by
 refine ⟨hz,?_,?_,hB.opn,hB.don,fun x hx=>?_⟩
 .simp only [fw,VS];exact hB.did
 .simp only [fw];split
  .rw [VS];exact hB.cnt
  .exact hB.cnt
 .simp only [fw] at hx;rcases Wj hx with h1|h1
  .exact hB.dok x h1
  .rw [h1];exact r6 _ _
theorem QH {N:Nat} (hB:ua N n) (ho:cN n.opn) (hd:cN n.don) (event:Int):ua N (qS m c n event):=by
 have h:=pJ m c n.z event (bD n) ⟨ho,hd⟩ m.order.length (Os _);exact ⟨hB.z,hB.did,hB.cnt,dl h.1,dl h.2,hB.dok⟩
theorem Jg (hB:ua 20 n) (hK:ot m n) (e:Nat) (u:Int) {zs:List Zn} (hz:UQ 20 zs):∀ s ∈ gO m c n e u zs,ua 20 s.nd:=by
 intro s hs;obtain ⟨z,h1,rfl⟩:=Vt.1 hs;exact QH (Ik hB hK e u z (hz z h1)) hK.opn hK.don _
theorem Iu (hE:gF m c) (hB:ua 20 n) (hK:ot m n) {e:Nat} (he:e<m.events.length):∀ s ∈ nr m c n e,ua 20 s.nd:=by
 intro s hs;obtain ⟨u,_,h1⟩:=V6.1 hs;exact Jg hB hK e u (lA hE hK he).1 s h1
theorem sK (hE:gF m c) (s:St) (e:Int):(fA m s e).length<=4:=by
 have h1:=ms (fun u=>dV m s e (u:Int)) m.users.length;have h2:=hE.ck.chk.users;unfold fA;omega
theorem Dc (hE:gF m c) (hK:ot m n) {e:Nat} (he:e<m.events.length):(nr m c n e).length<=8001616896:=by
 have h1:=gU (fun u=>gO m c n e u (dq m n e)) 2000404224 (fA m (bD n) (e:Int)) fun u _=>by
  rw [gO,Vo];exact (lA hE hK he).2
 have h2:=sK hE (bD n) (e:Int);have h3:=VD 2000404224 h2;unfold nr;omega
theorem kq (hE:gF m c) (hK:ot m n):∀ k,k<=m.events.length -> (du m c n k).length<=k * 8001616896
 | 0,_=>by simp [du]
 | k+1,hk=>by
  have h1:=kq hE hK k (by omega);have h2:=Dc hE hK (e:=k) (by omega)
  have h3:du m c n (k+1)=du m c n k ++ nr m c n k:=by
   unfold du;rw [Wu,Wy];simp
  rw [h3,Vi,Xh];omega
theorem AG (hE:gF m c) (hB:ua 20 n) (hK:ot m n) {k:Nat} (hk:k<=m.events.length):∀ s ∈ du m c n k,ua 20 s.nd:=by
 intro s hs;obtain ⟨e,he,h1⟩:=V6.1 hs;exact Iu hE hB hK (by have:=WS.1 he;omega) s h1
theorem NC (hE:gF m c) (hB:ua 20 n):∀ s ∈ kk m c n,ua 20 s.nd:=by
 intro s hs;unfold kk at hs;split at hs
 .rename_i hP;have hK:=J8 hE hB.z.at_ hP;rcases Vp.1 hs with h1|h1
  .rw [mm] at h1;exact AG hE hB hK (Os _) s h1
  .split at h1
   .simp at h1
   .simp only [VF] at h1;rw [h1];exact hB
 .simp at hs
end
end
end
end Go.Proofs.YtmmoidfcfjklaaaGreat
