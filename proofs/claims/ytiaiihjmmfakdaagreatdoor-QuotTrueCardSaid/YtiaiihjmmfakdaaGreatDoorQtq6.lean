/-
  Parts of the proof: Qtp10, Qtp11, Qtp12, Qtp13, Qtp14, Qtp15, Qtp16.
-/
import Derived.Test.YtiaiihjmmfakdaaGreatDoorQtq5
import Derived.WalkKit
import Derived.WalkLawsBesides
import Derived.Test.YtiaiihjmmfakdaaGreatDoorSortShelf
import Derived.Deep.LoopGhost
import Derived.Deep.Draws
import Derived.Deep.QuietTactic
import Derived.OpenShut
import Derived.ProofKit
import Derived.Deep.AppendLies
import Derived.Deep.DeepCutAuto
set_option linter.unusedVariables false
set_option linter.unusedSimpArgs false
set_option linter.defProp false
set_option maxRecDepth 100000
set_option maxHeartbeats 16000000
namespace Go.Proofs.YtiaiihjmmfakdaaGreatDoor
open Go.RowKit
section
section
theorem zu {κ:Type} [DecidableEq κ] (ks:List κ):cK (cK ks)=cK ks:=by
 have e:cK ks=ks.map fun k=>((aZ ks).idxOf k:Int):=rfl
 conv=>lhs;rw [e]
 exact nr ks fun a ha b hb h=>tq ((aY _ _).2 ha) ((aY _ _).2 hb) (by omega)
theorem Bc (next:List (List Int)) (col:List Int) (t:Nat):cK (bA next col t)=bA next col t:=by
 cases t with
 | zero=>rw [bA,zu]
 | succ t=>rw [bA,zu]
theorem Ia {next:List (List Int)} {col:List Int} {t:Nat} (h:br (bA next col (t+1))=br (bA next col t)):bA next col (t+1)=bA next col t:=by
 have hl:=gh next col t;have hs:=fun {i j}=>DA h (i:=i) (j:=j);have hn:=Bc next col t;obtain ⟨c,hc⟩:∃ c,c=bA next col t:=⟨_,rfl⟩;have e:bA next col (t+1)=cK (fI next c):=by rw [hc];rfl
 rw [e];rw [<- hc] at hl hs hn ⊢
 have ek:fI next c=c.map fun v=>ph next c (c.idxOf v):=by
  apply OZ (by simp [fI,hl]);intro i h1 h2;have hi:i<next.length:=by simpa [fI] using h1
  have hic:i<c.length:=by omega
  have hm:c[i] ∈ c:=Nt hic;have hx:=N5 hm;have hg:=OQ hx;have e2:eT c (c.idxOf c[i]:Int)=eT c (i:Int):=by rw [cu hx,cu hic,hg]
  simp only [fI,List.getElem_map,List.getElem_range];unfold ph;rw [e2,hs (show c.idxOf c[i]<next.length by omega) hi e2]
 have hi:cK (c.map fun v=>ph next c (c.idxOf v))=cK c:=nr c fun a ha b hb hab=>by
  have h1:=N5 ha;have h2:=N5 hb;unfold ph at hab;have h3:=(List.cons.inj hab).1;rw [cu h1,cu h2,OQ h1,OQ h2] at h3;exact h3
 rw [ek,hi,hn]
theorem uF {next:List (List Int)} {col:List Int} {t:Nat} (h:br (bA next col (t+1))=br (bA next col t)):∀ d,bA next col (t+d)=bA next col t
 | 0=>rfl
 | d+1=>by
  have ih:=uF h d;have e1:bA next col (t+(d+1))=cK (fI next (bA next col (t+d))):=rfl;have e2:bA next col (t+1)=cK (fI next (bA next col t)):=rfl;rw [e1,ih,<- e2,Ia h]
theorem Lk {next:List (List Int)} {col:List Int} {t s:Nat} (ht:br (bA next col (t+1))=br (bA next col t)) (hs:br (bA next col (s+1))=br (bA next col s)):bA next col t=bA next col s:=by
 by_cases h:t<=s
 .have:=uF ht (s - t);rw [show t+(s - t)=s by omega] at this;exact this.symm
 .have:=uF hs (t - s);rw [show s+(t - s)=t by omega] at this;exact this
theorem JC (next:List (List Int)) (col:List Int):∃ t,br (bA next col (t+1))=br (bA next col t):=by
 refine Classical.byContradiction fun hn=>?_;have hne:∀ t,¬ br (bA next col (t+1))=br (bA next col t):=fun t h=>hn ⟨t,h⟩
 have key:∀ t:Nat,(t:Int)<=br (bA next col t):=fun t=>by
  induction t with
  | zero=>exact (me 0).1
  | succ t ih=>
   have h1:=zQ (next:=next) (col:=col) t;have h2:=hne t;omega
 have h1:=key (next.length+1);have h2:=(me (next:=next) (col:=col) (next.length+1)).2;omega
def o9 (b:Bool):Int:=if b then 1 else 0
theorem th (b:Bool):0<=o9 b /\ o9 b<=1:=by cases b<;>simp [o9]
def d8 (at_:al -> List Bool) (s:Nat × (Nat -> Int)) (x:al):Nat × (Nat -> Int):=if aC x.op=0 then (s.1+1,if s.1+1<=20 then fun k=>2 * s.2 k+o9 ((at_ x).getD k false) else s.2) else s
def fy (at_:al -> List Bool) (l:List al):Nat × (Nat -> Int):=l.foldl (d8 at_) (0,fun _=>0)
theorem kJ (at_:al -> List Bool) (l:List al) (x:al):fy at_ (l ++ [x])=d8 at_ (fy at_ l) x:=by simp [fy,OI]
theorem Gm (at_:al -> List Bool) (l:List al):(fy at_ l).1<=l.length:=by
 induction l using qi with
 | h0=>simp [fy]
 | h1 l x ih=>
  rw [kJ,NB,N4];unfold d8;split
  .simp only;omega
  .omega
theorem IA (at_:al -> List Bool) (l:List al) (k:Nat):0<=(fy at_ l).2 k /\ (fy at_ l).2 k<2 ^ (min (fy at_ l).1 20):=by
 induction l using qi with
 | h0=>simp [fy]
 | h1 l x ih=>
  rw [kJ];unfold d8;split
  .simp only;split
   .have hb:=th ((at_ x).getD k false);have e1:min ((fy at_ l).1+1) 20=min (fy at_ l).1 20+1:=(by omega);rw [e1,Int.pow_succ];show 0<=2 * (fy at_ l).2 k+o9 ((at_ x).getD k false) /\ 2 * (fy at_ l).2 k+o9 ((at_ x).getD k false)<_;omega
   .have e1:min ((fy at_ l).1+1) 20=min (fy at_ l).1 20:=(by omega);rw [e1];exact ih
  .exact ih
theorem Hp (at_:al -> List Bool) (l:List al) (k:Nat):0<=(fy at_ l).2 k /\ (fy at_ l).2 k<1048576:=by
 obtain ⟨h1,h2⟩:=IA at_ l k;refine ⟨h1,Int.lt_of_lt_of_le h2 ?_⟩
 have:(2:Int) ^ (min (fy at_ l).1 20)<=2 ^ 20:=by
  have:=Od (n:=2) (by omega) (show min (fy at_ l).1 20<=20 by omega)
  exact_mod_cast this
 exact this
theorem A5 (at_:al -> List Bool) (l:List al) {i k:Nat} (hc:(fy at_ l).1<=20) (he:(fy at_ l).2 i=(fy at_ l).2 k):∀ x ∈ l,aC x.op=0 -> (at_ x).getD i false=(at_ x).getD k false:=by
 induction l using qi with
 | h0=>simp
 | h1 l x ih=>
  rw [kJ] at hc he;intro y hy ha;unfold d8 at hc he;by_cases h0:aC x.op=0
  .rw [ND h0] at hc he;simp only at hc he;rw [ND hc] at he;have b1:=th ((at_ x).getD i false);have b2:=th ((at_ x).getD k false);have e1:(fy at_ l).2 i=(fy at_ l).2 k:=(by omega);have e2:o9 ((at_ x).getD i false)=o9 ((at_ x).getD k false):=(by omega);rcases NK.1 hy with hy|hy
   .exact ih (by omega) e1 y hy ha
   .rw [NR.1 hy];revert e2;cases (at_ x).getD i false<;>cases (at_ x).getD k false<;>simp [o9]
  .rw [Ny h0] at hc he;rcases NK.1 hy with hy|hy
   .exact ih hc he y hy ha
   .rw [NR.1 hy] at ha;exact absurd ha h0
def fm (c:List Int) (n:Nat) (a:List Bool) (k:Nat):List Bool:=(List.range n).map fun (z:Nat)=>((List.range k).foldl (fun v j=>if c.getD j 0=(z:Int) then a.getD j false else v) false)
theorem fq (c:List Int) (n:Nat) (a:List Bool) (k:Nat):(fm c n a k).length=n:=by simp [fm]
theorem yX (c:List Int) (n:Nat) (a:List Bool):fm c n a 0=List.replicate n false:=by
 refine de (by simp [fq]) fun i hi=>?_;rw [fq] at hi;simp [fm,List.getD,hi]
theorem uU (c:List Int) (n:Nat) (a:List Bool) (k:Nat) {z:Nat} (hz:z<n):(fm c n a k).getD z false=(List.range k).foldl (fun v j=>if c.getD j 0=(z:Int) then a.getD j false else v) false:=by
 rw [fm,NA,Nu,Ol hz];rfl
theorem Bz (c:List Int) (n:Nat) (a:List Bool) {k:Nat} {z:Nat} (hz:z<n) (hc:c.getD k 0=(z:Int)):(dZ (fm c n a k)).set z [eB (a.getD k false)]=dZ (fm c n a (k+1)):=by
 apply Oh;intro j;rw [O4];simp only [NI,fq,Nu]
 have hs:∀ j,j<n -> (fm c n a (k+1))[j]? = some (if c.getD k 0=(j:Int) then a.getD k false else (fm c n a k).getD j false):=fun j hj=>by
  rw [uU c n a k hj];simp [fm,hj,OL,OI]
 by_cases e:z=j
 .subst e;rw [ND rfl,ND hz,hs z hz,ND hc];rfl
 .rw [Ny e];by_cases hj:j<n
  .rw [hs j hj,Ny (by omega)];have:j<(fm c n a k).length:=by rw [fq];exact hj
   simp [List.getD,this]
  .rw [NN (by rw [fq];omega),NN (by rw [fq];omega)]
theorem yG (c:List Int) (n:Nat) (a:List Bool) (K:Nat) (h:∀ i j,i<K -> j<K -> c.getD i 0=c.getD j 0 -> a.getD i false=a.getD j false) {i:Nat} (hi:i<K) {z:Nat} (hz:z<n) (hc:c.getD i 0=(z:Int)):(fm c n a K).getD z false=a.getD i false:=by
 rw [uU c n a K hz]
 have key:∀ k,k<=K -> ((List.range k).foldl (fun v j=>if c.getD j 0=(z:Int) then a.getD j false else v) false=a.getD i false \/ ∀ j,j<k -> ¬ c.getD j 0=(z:Int)):=fun k=>by
  induction k with
  | zero=>intro _;exact .inr fun j hj=>by omega
  | succ k ih=>
   intro hk;rw [OL,OI];simp only [List.foldl_cons,OW];by_cases hz2:c.getD k 0=(z:Int)
   .left;rw [ND hz2];exact h k i (by omega) hi (by rw [hz2,hc])
   .rw [Ny hz2];rcases ih (by omega) with h1|h1
    .exact .inl h1
    .refine .inr fun j hj=>?_;by_cases e:j=k
     .rw [e];exact hz2
     .exact h1 j (by omega)
 rcases key K (Nz _) with h1|h1
 .exact h1
 .exact absurd hc (h1 i hi)
end
section
theorem kA (op:Int):aC op = -1 \/ aC op=0 \/ aC op=1 \/ aC op=2:=by
 unfold aC;split
 .exact .inr (.inl rfl)
 .split
  .exact .inr (.inr (.inl rfl))
  .split
   .exact .inr (.inr (.inr rfl))
   .exact .inl rfl
theorem lb {d:Nat} {op:Int} {d':Nat}:dI d op=some d' ↔ 0<=aC op /\ aC op<=d /\ (d':Int)=d+1 - aC op:=by
 unfold dI;rcases kA op with h|h|h|h<;>simp only [h]
 .simp
 .simp;omega
 .by_cases h1:1<=d
  .simp [h1];omega
  .simp [h1];omega
 .by_cases h1:2<=d
  .simp [h1];omega
  .simp [h1];omega
theorem IZ (a b:List Int):∀ d,bq (a ++ b) d=(bq a d).bind (bq b):=by
 induction a with
 | nil=>intro d;rfl
 | cons x a ih=>intro d;rw [OS,bq,bq];cases dI d x<;>simp [ih]
theorem uy (ops:List Int) {i:Nat} (h:i<ops.length):bq (ops.take (i+1)) 0=(bq (ops.take i) 0).bind fun d=>dI d ops[i]:=by
 rw [PI,Nq h,IZ]
 congr 1
 funext d
 simp [bq];cases dI d ops[i]<;>rfl
theorem tt {ops:List Int} {i d':Nat} (h:i<ops.length) (hr:bq (ops.take (i+1)) 0=some d'):∃ d,bq (ops.take i) 0=some d /\ 0<=aC ops[i] /\ aC ops[i]<=d /\ (d':Int)=d+1 - aC ops[i]:=by
 rw [uy ops h] at hr
 cases hd:bq (ops.take i) 0 with
 | none=>simp [hd] at hr
 | some d=>
  simp [hd] at hr;exact ⟨d,rfl,lb.1 hr⟩
def jk (ops:List Int):Nat -> Int -> Int
 | 0,_=>-1
 | i+1,want=>if aC (ops.getD i 0)<0 then -1 else if want+(aC (ops.getD i 0) - 1)=0 then (i:Int) else jk ops i (want+(aC (ops.getD i 0) - 1))
theorem tM {ops:List Int} {i:Nat} (h:i<ops.length):ops.getD i 0=ops[i]:=by simp [h]
theorem zI {ops:List Int} {d e:Nat} (hd:1<=d):∀ (i:Nat) (want:Int) (di:Nat),i<=ops.length -> bq (ops.take i) 0=some di -> (di:Int)=d - 1+want -> 1<=want -> (∀ j,i<=j -> j<=e -> ∃ dj,bq (ops.take j) 0=some dj /\ d<=dj) ->
  ∃ b:Nat,b<i /\ jk ops i want=b /\ bq (ops.take b) 0=some (d - 1) /\ ∀ j,b<j -> j<=e -> ∃ dj,bq (ops.take j) 0=some dj /\ d<=dj
 | 0,want,di,_,hr,hdi,hw,_=>by
  simp [bq] at hr;omega
 | i+1,want,di,hi,hr,hdi,hw,hj=>by
  obtain ⟨d0,h0,h1,h2,h3⟩:=tt (by omega) hr;rw [jk,tM (by omega:i<ops.length),Ny (by omega)];by_cases hz:want+(aC ops[i] - 1)=0
  .rw [ND hz];refine ⟨i,by omega,rfl,by rw [h0];congr 1;omega,fun j h4 h5=>hj j (by omega) h5⟩
  .rw [Ny hz]
   obtain ⟨b,h4,h5,h6,h7⟩:=zI (e:=e) hd i (want+(aC ops[i] - 1)) d0 (by omega) h0 (by omega) (by omega) fun j h4 h5=>by
    rcases NP i j with h6|h6
    .exact hj j (by omega) h5
    .obtain rfl:i=j:=by omega
     exact ⟨d0,h0,by omega⟩
   exact ⟨b,by omega,h5,h6,h7⟩
theorem Db {ops:List Int} {i d:Nat} (h:i<ops.length) (hr:bq (ops.take (i+1)) 0=some d):1<=d:=by
 obtain ⟨d0,_,h1,h2,h3⟩:=tt h hr;omega
theorem Eu {ops:List Int} {e d:Nat} (he:e<ops.length) (hr:bq (ops.take (e+1)) 0=some d) :
  ∃ b:Nat,b<=e /\ jk ops (e+1) 1=b /\ bq (ops.take b) 0=some (d - 1) /\ ∀ j,b<j -> j<=e+1 -> ∃ dj,bq (ops.take j) 0=some dj /\ d<=dj:=by
 have hd:=Db he hr
 obtain ⟨b,h1,h2⟩:=zI (e:=e+1) hd (e+1) 1 d (by omega) hr (by omega) (by omega) fun j h1 h2=>by
  obtain rfl:j=e+1:=by omega
  exact ⟨d,hr,Nz _⟩
 exact ⟨b,by omega,h2⟩
theorem xe (ops:List Int):∀ (i:Nat) (want:Int),i<=ops.length -> 1<=want -> jk ops i want=0 -> bq (ops.take i) 0=some want.toNat
 | 0,want,_,_,h=>by simp [jk] at h
 | i+1,want,hi,hw,h=>by
  have hlt:i<ops.length:=by omega
  rw [jk,tM hlt] at h;split at h
  .omega
  .rename_i h1;rw [uy ops hlt];split at h
   .rename_i h2;obtain rfl:i=0:=by omega
    have h3:aC ops[0]=0 /\ want=1:=by
     rcases kA ops[0] with h|h|h|h<;>omega
    rw [h3.2];simp only [NJ,bq,OE];rw [lb];omega
   .rename_i h2;rw [xe ops i _ (by omega) (by omega) h,OE,lb];omega
theorem D8 {ops:List Int} (h0:0<ops.length):jk ops ops.length 1=0 ↔ bq ops 0=some 1:=by
 constructor
 .intro h;have:=xe ops ops.length 1 (Nz _) (by omega) h
  rwa [NG] at this
 .intro h;have e1:ops.length - 1+1=ops.length:=by omega
  obtain ⟨b,h1,h2,h3,h4⟩:=Eu (ops:=ops) (e:=ops.length - 1) (d:=1) (by omega) (by rw [e1,NG];exact h);rw [e1] at h2;rw [h2]
  cases b with
  | zero=>rfl
  | succ b=>
   have:=Db (by omega) h3;omega
section
variable {cm:al -> Option Int} {o d:Int}
theorem K9 (a b:List al):∀ r,ez cm o d (a ++ b) r=(ez cm o d a r).bind (ez cm o d b):=by
 induction a with
 | nil=>intro r;rfl
 | cons x a ih=>intro r;rw [OS,ez,ez];cases fJ cm o d x r<;>simp [ih]
theorem z9 (l:List al) {i:Nat} (h:i<l.length):ez cm o d (l.take (i+1)) []=(ez cm o d (l.take i) []).bind (fJ cm o d l[i]):=by
 rw [PI,Nq h,K9]
 congr 1
 funext r
 simp [ez];cases fJ cm o d l[i] r<;>rfl
theorem qe {x:al} {r r':List Bool} (h:fJ cm o d x r=some r'):∃ k:Nat,aC x.op=k /\ k<=r.length /\ ∃ v,r'=v :: r.drop k:=by
 unfold fJ at h;split at h
 .rename_i h1;cases h;exact ⟨0,by unfold aC;rw [ND (by omega)];rfl,by omega,_,rfl⟩
 .split at h
  .rename_i h1;split at h
   .cases h;exact ⟨0,by unfold aC;rw [ND (by omega)];rfl,by omega,_,rfl⟩
   .cases h
  .split at h
   .rename_i h1;cases h;exact ⟨0,by unfold aC;rw [ND (by omega)];rfl,by omega,_,rfl⟩
   .split at h
    .rename_i h1;cases h;exact ⟨0,by unfold aC;rw [ND (by omega)];rfl,by omega,_,rfl⟩
    .split at h
     .rename_i h1;split at h
      .cases h;exact ⟨1,by unfold aC;rw [Ny (by omega),ND (by omega)];rfl,by simp,_,rfl⟩
      .cases h
     .split at h
      .rename_i h1;split at h
       .cases h;exact ⟨2,by unfold aC;rw [Ny (by omega),Ny (by omega),ND (by omega)];rfl,by simp,_,rfl⟩
       .cases h
      .cases h
theorem k6 {l:List al} {i:Nat} {r':List Bool} (h:i<l.length) (hr:ez cm o d (l.take (i+1)) []=some r'):∃ r,ez cm o d (l.take i) []=some r /\ fJ cm o d l[i] r=some r':=by
 rw [z9 l h] at hr
 cases hd:ez cm o d (l.take i) [] with
 | none=>simp [hd] at hr
 | some r=>
  simp [hd] at hr;exact ⟨r,rfl,hr⟩
theorem qV {l:List al}:∀ {i:Nat} {r:List Bool},i<=l.length -> ez cm o d (l.take i) []=some r -> bq ((l.map al.op).take i) 0=some r.length
 | 0,r,_,h=>by
  simp [ez] at h;subst h;simp [bq]
 | i+1,r,hi,h=>by
  obtain ⟨r0,h1,h2⟩:=k6 (by omega) h;have h3:=qV (by omega) h1;obtain ⟨k,h4,h5,v,rfl⟩:=qe h2;rw [uy _ (by simp;omega),h3,OE,lb];simp [h4];omega
theorem Fs {l:List al} {e:Nat} {v:Bool} {r:List Bool} (he:e<l.length) (h:ez cm o d (l.take (e+1)) []=some (v :: r)) :
  ∃ b:Nat,b<=e /\ jk (l.map al.op) (e+1) 1=b /\ ez cm o d (l.take b) []=some r:=by
 have hrow:=qV (by omega) h;obtain ⟨b,h1,h2,h3,h4⟩:=Eu (by simpa using he) hrow;refine ⟨b,h1,h2,?_⟩
 have down:∀ k j,j+k=e+1 -> ∃ q,ez cm o d (l.take j) []=some q:=by
  intro k
  induction k with
  | zero=>
   intro j hj;obtain rfl:j=e+1:=by omega
   exact ⟨_,h⟩
  | succ k ih=>
   intro j hj;obtain ⟨q,hq⟩:=ih (j+1) (by omega);obtain ⟨q0,hq0,_⟩:=k6 (by omega) hq;exact ⟨q0,hq0⟩
 obtain ⟨q,hq⟩:=down (e+1 - b) b (by omega);have hql:=qV (by omega) hq;rw [h3] at hql;have hql:r.length=q.length:=by simpa using hql
 have up:∀ k,b+k<=e+1 -> ∃ t,ez cm o d (l.take (b+k)) []=some (t ++ q):=by
  intro k
  induction k with
  | zero=>exact fun _=>⟨[],hq⟩
  | succ k ih=>
   intro hk;obtain ⟨t,ht⟩:=ih (by omega);obtain ⟨r1,hr1⟩:=down (e+1 - (b+k+1)) (b+k+1) (by omega);obtain ⟨r0,h5,h6⟩:=k6 (by omega) hr1;rw [ht] at h5;cases h5;obtain ⟨c,h7,h8,v',rfl⟩:=qe h6;obtain ⟨dj,h9,h10⟩:=h4 (b+k+1) (by omega) (by omega);have h11:=qV (by omega) hr1;rw [h9] at h11;have h11:dj=(t ++ q).length - c+1:=(by simpa using h11);rw [NB] at h11 h8;simp only [NZ] at h10;refine ⟨v' :: t.drop c,?_⟩;rw [show b+(k+1)=b+k+1 by omega,hr1,List.drop_append_of_le_length (by omega)];rfl
 obtain ⟨t,ht⟩:=up (e+1 - b) (by omega);rw [show b+(e+1 - b)=e+1 by omega,h] at ht;have ht:=OX ht
 have htl:t.length=1:=by
  have:=congrArg List.length ht;simp at this;omega
 obtain ⟨v',rfl⟩:∃ v',t=[v']:=by
  match t,htl with
  | [v'],_=>exact ⟨v',rfl⟩
 rw [hq];simp at ht;rw [ht.2]
end
def g8 (vals:List Int) (attrs:Bool) (x:al):Bool:=
 !(decide (18<x.op) || (decide (10<x.op) && decide (x.op<15)) || (attrs && decide (3<=x.op) && decide (x.op<=8) && (!(decide (-1<=x.la) && decide (x.la<vals.length)) || !(decide (-1<=x.ra) && decide (x.ra<vals.length)))))
theorem vK (vals:List Int) (a n:Int):(qH vals a n).isSome=(decide (-1<=a) && decide (a<vals.length)):=by
 unfold qH;by_cases h1:a = -1
 .subst h1;simp;omega
 .rw [Ny h1];by_cases h2:a<0
  .rw [ND h2];simp;omega
  .rw [Ny h2];rw [O7];simp;omega
theorem uP (vals:List Int) (x:al):(uJ vals x).isSome=((decide (-1<=x.la) && decide (x.la<vals.length)) && (decide (-1<=x.ra) && decide (x.ra<vals.length))):=by
 rw [<- vK vals x.la x.ln,<- vK vals x.ra x.rn];unfold uJ;cases qH vals x.la x.ln<;>cases qH vals x.ra x.rn<;>rfl
theorem HS {s:St} {x:al} {r:List Bool} (h:g8 s.vals true x=true) (h0:0<=aC x.op) (h1:aC x.op<=r.length):∃ r',fJ (uJ s.vals) s.opn s.don x r=some r':=by
 have hc:=uP s.vals x;unfold g8 at h;simp only [Bool.not_eq_true',Bool.or_eq_false_iff,Oi,NQ,Oq,Bool.not_eq_false'] at h;unfold fJ;split
 .exact ⟨_,rfl⟩
 .split
  .rename_i h2 h3
   have:(uJ s.vals x).isSome=true:=by
    rw [hc,NU];rcases h.2 with h4|h4
    .rcases h4 with h4 | h4<;>simp at h4<;>omega
    .exact h4
   obtain ⟨c,hc⟩:=Oo.1 this;rw [hc];exact ⟨_,rfl⟩
  .split
   .exact ⟨_,rfl⟩
   .split
    .exact ⟨_,rfl⟩
    .split
     .rename_i h6;have:aC x.op=1:=by unfold aC;rw [Ny (by omega),ND (by omega)]
      cases r with
      | nil=>simp at h1;omega
      | cons a r=>exact ⟨_,rfl⟩
     .split
      .rename_i h6;have:aC x.op=2:=by unfold aC;rw [Ny (by omega),Ny (by omega),ND (by omega)]
       match r with
       | []=>simp at h1;omega
       | [a]=>simp at h1;omega
       | b :: a :: r=>exact ⟨_,rfl⟩
      .rename_i h2 h3 h4 h5 h6 h7;exfalso;have h8:=h.1;unfold aC at h0;split at h0
       .rename_i h9;rcases h8 with ⟨h10,h11⟩;rcases h11 with h11|h11<;>omega
       .split at h0
        .omega
        .split at h0<;>omega
theorem FP {s:St} {l:List al} (hl:∀ x ∈ l,g8 s.vals true x=true):∀ (i:Nat) (d:Nat),i<=l.length -> bq ((l.map al.op).take i) 0=some d -> ∃ r,ez (uJ s.vals) s.opn s.don (l.take i) []=some r /\ r.length=d
 | 0,d,_,h=>by
  simp [bq] at h;exact ⟨[],by simp [ez],h⟩
 | i+1,d,hi,h=>by
  have hlt:i<l.length:=by omega
  obtain ⟨d0,h0,h1,h2,h3⟩:=tt (by simpa using hlt) h;obtain ⟨r,h4,h5⟩:=FP hl i d0 (by omega) h0;simp only [List.getElem_map] at h1 h2 h3;obtain ⟨r',h6⟩:=HS (s:=s) (r:=r) (hl l[i] (Nt hlt)) h1 (by omega);have h7:ez (uJ s.vals) s.opn s.don (l.take (i+1)) []=some r':=by rw [z9 l hlt,h4,OE,h6]
  have h8:=qV (by omega) h7;rw [h] at h8;exact ⟨r',h7,(OX h8).symm⟩
theorem xS {s:St} {l:List al} {r:List Bool} (h:ez (uJ s.vals) s.opn s.don l []=some r):∀ x ∈ l,g8 s.vals true x=true:=by
 intro x hx;obtain ⟨i,hi,rfl⟩:=NV hx
 have down:∀ k j,j+k=l.length -> ∃ q,ez (uJ s.vals) s.opn s.don (l.take j) []=some q:=by
  intro k
  induction k with
  | zero=>
   intro j hj;obtain rfl:j=l.length:=by omega
   exact ⟨r,by rw [NG];exact h⟩
  | succ k ih=>
   intro j hj;obtain ⟨q,hq⟩:=ih (j+1) (by omega);obtain ⟨q0,hq0,_⟩:=k6 (by omega) hq;exact ⟨q0,hq0⟩
 obtain ⟨q,hq⟩:=down (l.length - (i+1)) (i+1) (by omega);obtain ⟨q0,_,h2⟩:=k6 hi hq;have hc:=uP s.vals l[i];unfold g8;simp only [Bool.not_eq_true',Bool.or_eq_false_iff,Oi,NQ,Oq,Bool.not_eq_false'];unfold fJ at h2;split at h2
 .rename_i h3;exact ⟨⟨by omega,by omega⟩,.inl (by omega)⟩
 .split at h2
  .rename_i h3 h4;split at h2
   .rename_i c hcm;rw [hcm] at hc;simp only [Option.isSome_some] at hc;have hc:=hc.symm;rw [NU] at hc;exact ⟨⟨by omega,by omega⟩,.inr hc⟩
   .cases h2
  .split at h2
   .exact ⟨⟨by omega,by omega⟩,.inl (by omega)⟩
   .split at h2
    .exact ⟨⟨by omega,by omega⟩,.inl (by omega)⟩
    .split at h2
     .exact ⟨⟨by omega,by omega⟩,.inl (by omega)⟩
     .split at h2
      .exact ⟨⟨by omega,by omega⟩,.inl (by omega)⟩
      .cases h2
theorem vZ {l:List al} {s:St} (h1:cc (l.map al.op)=0) (h2:∀ x ∈ l,g8 s.vals true x=true):∃ b,ez (uJ s.vals) s.opn s.don l []=some [b] /\ g7 l s=some b:=by
 have h3:bq (l.map al.op) 0=some 1:=by
  unfold cc at h1;split at h1
  .cases h1
  .split at h1
   .cases h1
   .split at h1
    .assumption
    .cases h1
 obtain ⟨r,h4,h5⟩:=FP h2 l.length 1 (Nz _) (by rw [show l.length=(l.map al.op).length by simp,NG];exact h3);rw [NG] at h4
 match r,h5 with
 | [b],_=>
  refine ⟨b,h4,?_⟩;unfold g7 lY;rw [Ny (by simp [h1]),h4]
theorem vu {l:List al} {s:St} (h:¬ (cc (l.map al.op)=0 /\ ∀ x ∈ l,g8 s.vals true x=true)):g7 l s=none:=by
 unfold g7 lY;split
 .rfl
 .rename_i h1
  cases hr:ez (uJ s.vals) s.opn s.don l [] with
  | none=>rfl
  | some r=>exact absurd ⟨by simpa using h1,xS hr⟩ h
end
section
theorem tz:((2:Int)=0)=False:=by simp
theorem cL (s i:Int) (hs:aB s):ax Tryz.prog 92 [eI s,eI i] (val (.bool (bk s i))):=by
 refine aa ah Tryz.func92 rfl (by decide) Tryz.ntmps92 Tryz.results92 rfl (aH _) ?_
 repeat' first|refine go ?_|decide|refine sp ?_ ?_<;>intro _
 .rename_i h;simp at h;simp [bk];omega
 .rename_i h1 h2;simp at h1 h2;simp [bk];omega
 .rename_i h1 h2;simp at h1 h2;obtain ⟨q,rfl⟩:∃ q:Nat,i=(q:Int):=⟨i.toNat,by omega⟩;have e0:s / 2 ^ 0=s:=by simp
  refine ae (fun st=>∃ k:Nat,k<=q /\ st=⟨31,[(0,eI (s / 2 ^ k)),(1,eI (q:Int)),(5,eI (k:Int))],[],0⟩) (fun st=>q - aq st 5) ⟨_,(wE e0),0,Nv _,rfl⟩ ?_;rintro _ ⟨k,hk,rfl⟩;have hp:(1:Int)<=2 ^ k:=Int.pow_pos (by omega)
  have hd0:-9223372036854775808<=s / 2 ^ k:=by
   refine Int.le_ediv_of_mul_le (by omega) ?_;have:=hs.1;generalize (2:Int) ^ k=p at *;omega
  have hd1:s / 2 ^ k<=9223372036854775807:=by
   by_cases h:s<0
   .have:=Int.ediv_neg_of_neg_of_pos h (by omega:(0:Int)<2 ^ k);omega
   .exact Int.le_trans (Int.ediv_le_self _ (by omega)) hs.2
  have ed:s / 2 ^ (k+1)=s / 2 ^ k / 2:=by
   rw [Int.pow_succ,Int.ediv_ediv_of_nonneg (Int.le_of_lt (Int.pow_pos (by omega)))]
  generalize hx:s / 2 ^ k=x at *;by_cases hxn:x % 2=1 /\ x<0
  .have et:x.tmod 2 = -1:=by
    have h3:x.tmod 2 = -((-x) % 2):=by
     rw [<- Int.tmod_eq_emod_of_nonneg (by omega),Int.neg_tmod];omega
    omega
   have en:decide ((-1:Int)<0)=true:=(by decide);have em:IntKind.i64.wrap (0 - (-1))=1:=(by decide);have ew:IntKind.i64.wrap (x - 1)=x - 1:=ar (by omega) (by omega)
   have eq:(x - 1).tdiv 2=x / 2:=by
    have h3:(2:Int) ∣ x - 1:=⟨x / 2,by omega⟩;rw [Int.tdiv_eq_ediv_of_dvd h3];omega
   by_cases hlt:k<q
   .repeat' first|refine ge (kf @hlt (kf @tz (kf et (kf en (kf em (kf ew eq)))))) ?_|decide|refine sp ?_ ?_<;>intro _
    have ew2:IntKind.i64.wrap (x / 2)=x / 2:=ar (by omega) (by omega);exact rI (wE (kf ed ew2)) ⟨k+1,by omega,rfl⟩
   .obtain rfl:k=q:=by omega
    repeat' first|refine ge (kf @hlt (kf @tz et)) ?_|decide|refine sp ?_ ?_<;>intro _
    have hk31:(k:Int)<31:=(by omega);simp [bk,hx,hk31,hxn.1]
  have et:x.tmod 2=x % 2:=by
   by_cases h:x<0
   .have h0:x % 2=0:=(by omega);rw [h0];exact Int.tmod_eq_zero_of_dvd ⟨x / 2,by omega⟩
   .exact Int.tmod_eq_emod_of_nonneg (by omega)
  have en:decide (x % 2<0)=false:=by simp;omega
  have ew:IntKind.i64.wrap (x - x % 2)=x - x % 2:=ar (by omega) (by omega)
  have eq:(x - x % 2).tdiv 2=x / 2:=by
   have h3:(2:Int) ∣ x - x % 2:=⟨x / 2,by omega⟩;rw [Int.tdiv_eq_ediv_of_dvd h3];omega
  by_cases hlt:k<q
  .repeat' first|refine ge (kf @hlt (kf @tz (kf et (kf en (kf ew eq))))) ?_|decide|refine sp ?_ ?_<;>intro _
   have ew2:IntKind.i64.wrap (x / 2)=x / 2:=ar (by omega) (by omega);exact rI (wE (kf ed ew2)) ⟨k+1,by omega,rfl⟩
  .obtain rfl:k=q:=by omega
   repeat' first|refine ge (kf @hlt (kf @tz et)) ?_|decide|refine sp ?_ ?_<;>intro _
   have hk31:(k:Int)<31:=(by omega);simp [bk,hx,hk31];rcases Int.emod_two_eq x with h|h<;>simp [h]
def j0 (f:Nat -> Bool):Nat -> Nat
 | 0=>0
 | k+1=>j0 f k+if f k=true then 2 ^ k else 0
theorem iY (f:Nat -> Bool):∀ k,j0 f k<2 ^ k
 | 0=>by simp [j0]
 | k+1=>by
  have:=iY f k;unfold j0;rw [Nat.pow_succ];split<;>omega
theorem lc (f:Nat -> Bool):∀ k j,(j0 f k).testBit j=(decide (j<k) && f j)
 | 0,j=>by simp [j0]
 | k+1,j=>by
  have hl:=iY f k;unfold j0;split
  .rename_i hf;rw [Nat.add_comm];rcases Pp j k with h|h|h
   .rw [Nat.testBit_two_pow_add_gt h,lc f k j];simp [h,show j<k+1 by omega]
   .subst h;rw [Nat.testBit_two_pow_add_eq,lc f j j];simp [hf]
   .rw [O0,Eq.comm]
    .simp;omega
    .have:2 ^ (k+1)<=2 ^ j:=Od (by omega) h;rw [Nat.pow_succ] at this;omega
  .rename_i hf;rw [Nat.add_zero,lc f k j];rcases Pp j k with h|h|h
   .simp [h,show j<k+1 by omega]
   .subst h;simp [hf]
   .simp [show ¬ j<k by omega,show ¬ j<k+1 by omega]
theorem tb (f:Nat -> Bool) (j:Nat) (hj:j<31):bk (j0 f 31:Nat) (j:Int)=f j:=by
 rw [cQ _ j hj,pT _ (iY f 31),lc];simp [hj]
theorem Aa {a b:Int} (ha:0<=a /\ a<2147483648) (hb:0<=b /\ b<2147483648) (h:∀ j:Nat,j<31 -> bk a j=bk b j):a=b:=by
 have e1:((lr a:Nat):Int)=a:=by unfold lr;omega
 have e2:((lr b:Nat):Int)=b:=by unfold lr;omega
 rw [<- e1,<- e2]
 congr 1
 apply Nat.eq_of_testBit_eq;intro j;by_cases hj:j<31
 .rw [<- cQ a j hj,<- cQ b j hj];exact h j hj
 .rw [O0 (NH (fB a) (Od (by omega) (by omega))),O0 (NH (fB b) (Od (by omega) (by omega)))]
abbrev sB (l:List Bool):AV:=.sl 1 (l.map fun b=>[eB b])
def lJ (l:List Bool) (k:Nat):Int:=(j0 (fun i=>l.getD i false) k:Nat)
def y0 (k:Nat):Int:=(2 ^ k:Nat)
theorem BW {k:Nat} (hk:k<=31):IntKind.i64.wrap (y0 k * 2)=y0 (k+1):=by
 have h2:2 ^ k<=2 ^ 31:=Od (by omega) hk;unfold y0;rw [Nat.pow_succ];generalize 2 ^ k=p at *;rw [ar (by omega) (by omega)];simp
theorem Ec {l:List Bool} {k:Nat} (hk:k<=31) (h:l.getD k false=true):IntKind.i64.wrap (lJ l k+y0 k)=lJ l (k+1):=by
 have h2:2 ^ k<=2 ^ 31:=Od (by omega) hk;have h1:=iY (fun i=>l.getD i false) k;unfold lJ y0;rw [j0,ND h];generalize j0 (fun i=>l.getD i false) k=b at *;generalize 2 ^ k=p at *;rw [ar (by omega) (by omega)];simp
theorem H9 {l:List Bool} {k:Nat} (h:l.getD k false=false):lJ l k=lJ l (k+1):=by
 unfold lJ;rw [j0,Ny (by rw [h];simp)];rfl
theorem Fw (l:List Bool) (hl:l.length<=31):ax Tryz.prog 158 [sB l] (val (.int .i64 (lJ l l.length))):=by
 refine aa ah Tryz.func158 rfl (by decide) Tryz.ntmps158 Tryz.results158 rfl (aH _) ?_
 repeat' first|refine go ?_|decide|refine sp ?_ ?_<;>intro _
 have e0:lJ l 0=0:=rfl;have e1:y0 0=1:=rfl;refine ae (fun st=>∃ k:Nat,k<=l.length /\ st=⟨22,[(0,sB l),(3,eI (lJ l k)),(4,eI (y0 k)),(5,eI (k:Int))],[],0⟩) (fun st=>l.length - aq st 5) ⟨_,(wE (kf e0 e1)),0,Nv _,rfl⟩ ?_;rintro _ ⟨k,hk,rfl⟩;by_cases hlt:k<l.length
 .have ep:=BW (k:=k) (by omega);have eg:l.getD k false=l[k]:=by simp [hlt]
  repeat' first|refine go ?_|simp only [ab,hlt]|decide|refine sp ?_ ?_<;>intro _
  .rename_i hb;have ew:=Ec (l:=l) (k:=k) (by omega) (by rw [eg];exact hb);exact rI (wE (kf ew ep)) ⟨k+1,by omega,rfl⟩
  .rename_i hb;have ew:=H9 (l:=l) (k:=k) (by rw [eg];exact hb);rw [ew];exact rI (wE ep) ⟨k+1,by omega,rfl⟩
 .obtain rfl:k=l.length:=by omega
  repeat' first|refine go ?_|simp only [ab,hlt]|decide|refine sp ?_ ?_<;>intro _
def pa (s:Int):List Bool:=(List.range 31).map fun (i:Nat)=>bk s (i:Int)
theorem F2 (s:Int) (hs:aB s):ax Tryz.prog 157 [eI s] (ic 4 1 ((pa s).map fun b=>[eB b])):=by
 refine aa ah Tryz.func157 rfl (by decide) Tryz.ntmps157 Tryz.results157 rfl (cB _ _ _) ?_
 repeat' first|refine go ?_|decide|refine sp ?_ ?_<;>intro _
 have hil:(pa s).length=31:=by simp [pa]
 refine ae (fun st=>∃ k:Nat,k<=31 /\ st=⟨16,[(0,eI s),(3,.osl 0),(4,eI (k:Int))],[(0,some (.row 4 1 (((pa s).take k).map fun b=>[eB b])))],1⟩) (fun st=>31 - aq st 4) ⟨_,((aR 3 4 1 (by simp only [ia,aj.get,aX,aj.put,↓reduceIte,reduceCtorEq,Nat.reduceLT,Nat.reduceEqDiff,Nat.reduceAdd,Nat.reduceLeDiff,eq_self,implies_true,NJ])).trans (wS [0] @NJ)),0,Nv _,rfl⟩ ?_;rintro _ ⟨k,hk,rfl⟩;by_cases hlt:k<31
 .have et:((pa s).take (k+1)).map (fun b=>[eB b])=((pa s).take k).map (fun b=>[eB b]) ++ [[eB (bk s (k:Int))]]:=by
   rw [eh (fun b=>[eB b]) (pa s) (show k<(pa s).length by omega)];simp [pa]
  have hkl:((pa s).take k).length=k:=by rw [NF];omega
  have e1:decide ((k:Int)<31)=true:=by simp;omega
  repeat' first|refine ge e1 ?_|decide|refine sp ?_ ?_<;>intro _
  refine aw (cL s k hs) ?_
  repeat' first|refine ge e1 ?_|decide|refine sp ?_ ?_<;>intro _
  refine ⟨rfl,by omega,rI (wS [2] et) ⟨k+1,by omega,rfl⟩⟩
 .obtain rfl:k=31:=by omega
  have e1:decide (((31:Nat):Int)<31)=false:=by decide
  repeat' first|refine ge e1 ?_|decide|refine sp ?_ ?_<;>intro _
  refine aO ?_;simp [af.gc,NT (Nat.le_of_eq hil)]
theorem H8 (s:Int) (i:Int) (b:Bool) (h0:0<=i) (h1:i<31):lJ ((pa s).set i.toNat b) 31=if b=true then cY s i else bQ s i:=by
 have hr:=iY (fun j=>((pa s).set i.toNat b).getD j false) 31
 have hw:(0:Int)<=(if b=true then cY s i else bQ s i) /\ (if b=true then cY s i else bQ s i)<2147483648:=by
  split
  .unfold cY;rw [ND ⟨h0,h1⟩];have:lr s ||| 2 ^ i.toNat<2 ^ 31:=Nat.or_lt_two_pow (fB s) (Nat.pow_lt_pow_right (by omega) (by omega));omega
  .unfold bQ;rw [ND ⟨h0,h1⟩];have:lr s ^^^ (lr s &&& 2 ^ i.toNat)<2 ^ 31:=Nat.xor_lt_two_pow (fB s) (Nat.lt_of_le_of_lt Nat.and_le_left (fB s));omega
 unfold lJ;refine Aa (by omega) hw fun j hj=>?_;rw [tb _ j hj];have hlen:(pa s).length=31:=by simp [pa]
 have hg:((pa s).set i.toNat b).getD j false=if i.toNat=j then b else bk s (j:Int):=by
  rw [NA,O4];split
  .rename_i h;rw [hlen,ND (by omega)];rfl
  .simp [pa,hj]
 rw [hg];have e1:(decide (0<=i /\ i<31))=true:=by simp [h0,h1]
 split
 .rename_i h;have h2:((j:Int) == i)=true:=by simp;omega
  cases b
  .simp [gN,h2]
  .simp [sO,e1,h2]
 .rename_i h;have h2:((j:Int) == i)=false:=by simp;omega
  cases b
  .simp [gN,h2]
  .simp [sO,h2]
theorem qR (s i:Int) (b:Bool) (hs:aB s) (h0:0<=i) (h1:i<31):ax Tryz.prog 127 [eI s,eI i,eB b] (val (.int .i64 (if b=true then cY s i else bQ s i))):=by
 refine aa ah Tryz.func127 rfl (by decide) Tryz.ntmps127 Tryz.results127 rfl (aH _) ?_;rw [<- H8 s i b h0 h1];have hlen:(pa s).length=31:=by simp [pa]
 obtain ⟨q,rfl⟩:∃ q:Nat,i=(q:Int):=⟨i.toNat,by omega⟩;have e1:decide ((q:Int)<=30)=true:=by simp;omega
 have hq:q<(pa s).length:=by omega
 have iu:∀ row ∈ (pa s).map (fun b=>[eB b]),∀ av ∈ row,av.plain:=fun row hr av ha=>by
  obtain ⟨n,_,rfl⟩:=NC.1 hr;simp at ha;subst ha;trivial
 have hset:(((pa s).map fun b=>[eB b]).set q [eB b])=((pa s).set q b).map fun b=>[eB b]:=by rw [Pw]
 repeat' first|refine ge e1 ?_|decide|refine sp ?_ ?_<;>intro _
 refine ce (F2 s hs) (.inr iu) ?_
 repeat' first|refine ge e1 ?_|decide|refine sp ?_ ?_<;>intro _
 have hs':=Fw ((pa s).set q b) (by simp;omega);rw [Pg,hlen] at hs';refine ⟨by omega,?_⟩
 repeat' first|refine go ?_|simp only [e1,ab,hq]|decide|refine sp ?_ ?_<;>intro _
 rw [hset];refine aw (by exact hs') ?_
 repeat' first|refine go ?_|decide|refine sp ?_ ?_<;>intro _
end
section
theorem mJ (n:Int):ax Tryz.prog 13 [eI n] (val (.int .i64 (aC n))):=by
 refine aa ah Tryz.func13 rfl (by decide) Tryz.ntmps13 Tryz.results13 rfl (aH _) ?_
 repeat' first|refine go ?_|decide|refine sp ?_ ?_<;>intro _
 all_goals (simp [aC] at *;(repeat' split)<;>omega)
abbrev nz (n:Int):List AV:=[eI n,eS ByteArray.empty,eI 0,eS ByteArray.empty,eI 0,eS ByteArray.empty,eS ByteArray.empty,eI 0,eI 0]
abbrev pM (l:List Int):AV:=.sl 9 (l.map nz)
theorem Dl (ops:List Int):∀ (i:Nat) (w:Int),-1<=jk ops i w /\ jk ops i w<i \/ jk ops i w = -1
 | 0,w=>.inr rfl
 | i+1,w=>by
  unfold jk;split
  .exact .inr rfl
  .split
   .left;omega
   .rcases Dl ops i (w+(aC (ops.getD i 0) - 1)) with h | h
    .left;omega
    .exact .inr h
theorem Gb (l:List Int) (q:Nat) (hq:q<=l.length) (hl:l.length<=1000000):ax Tryz.prog 28 [pM l,eI ((q:Int) - 1)] (val (.int .i64 (jk l q 1))):=by
 refine aa ah Tryz.func28 rfl (by decide) Tryz.ntmps28 Tryz.results28 rfl (aH _) ?_
 repeat' first|refine go ?_|decide|refine sp ?_ ?_<;>intro _
 refine ae (fun st=>∃ (k:Nat) (v:Int),k<=q /\ 1<=v /\ v<=1+2 * ((q:Int) - k) /\ jk l k v=jk l q 1 /\ st=⟨28,[(0,pM l),(5,eI v),(6,eI ((k:Int) - 1))],[],0⟩) (fun st=>(match st.get 6 with | .c (.int _ n)=>(n+1).toNat | _=>0)) ⟨_,wC,q,1,Nz _,by omega,by omega,rfl,rfl⟩ ?_;rintro _ ⟨k,v,hk,hv0,hv1,hb,rfl⟩
 cases k with
 | zero=>
  have e0:decide ((0:Int)<=((0:Nat):Int) - 1)=false:=by decide
  repeat' first|refine ge e0 ?_|decide|refine sp ?_ ?_<;>intro _
  rw [<- hb];rfl
 | succ j=>
  have ej:((j+1:Nat):Int) - 1=(j:Int):=by omega
  have hj:j<l.length:=by omega
  simp only [ej];rw [jk,tM hj] at hb
  repeat' first|refine go ?_|simp only [hj,ab]|decide|refine sp ?_ ?_<;>intro _
  refine aw (mJ _) ?_;have ha:=kA l[j];generalize aC l[j]=n at ha hb ⊢;have ew1:IntKind.i64.wrap (n - 1)=n - 1:=ar (by omega) (by omega);have ew2:IntKind.i64.wrap (v+(n - 1))=v+(n - 1):=ar (by omega) (by omega)
  repeat' first|refine go ?_|simp only [hj,ab,ew1,ew2]|decide|refine sp ?_ ?_<;>intro _
  .rename_i h;have h:n<0:=(by simpa using h);rw [<- hb,ND h]
  .rename_i h h2;have h:¬ n<0:=(by simpa using h);have h2:v+(n - 1)=0:=(by simpa using h2);rw [<- hb,Ny h,ND h2]
  .rename_i h h2;have h:¬ n<0:=(by simpa using h);have h2:¬ v+(n - 1)=0:=(by simpa using h2);rw [Ny h,Ny h2] at hb;have ew:IntKind.i64.wrap ((j:Int) - 1)=(j:Int) - 1:=ar (by omega) (by omega);exact rI (wE ew) ⟨j,v+(n - 1),by omega,by omega,by omega,hb,rfl⟩
theorem qh (l:List Int) (hl:l.length<=1000000):ax Tryz.prog 8 [pM l] (val (.int .i64 (cc l))):=by
 refine aa ah Tryz.func8 rfl (by decide) Tryz.ntmps8 Tryz.results8 rfl (aH _) ?_;have ew:IntKind.i64.wrap ((l.length:Int) - 1)=(l.length:Int) - 1:=ar (by omega) (by omega)
 repeat' first|refine ge ew ?_|decide|refine sp ?_ ?_<;>intro _
 .rename_i h;have h:l.length=0:=by simpa using h
  simp [cc,h]
 .rename_i h h2;have h:¬ l.length=0:=by simpa using h
  have h2:64<l.length:=by simp at h2;omega
  simp only [cc,Ny h,ND h2]
 .rename_i h h2;have h:¬ l.length=0:=by simpa using h
  have h2:¬ 64<l.length:=by simp at h2;omega
  refine aw (Gb l l.length (Nz _) hl) ?_;have hz:=D8 (ops:=l) (by omega)
  repeat' first|refine go ?_|decide|refine sp ?_ ?_<;>intro _
  .rename_i h3
   have h3:¬ bq l 0=some 1:=by
    rw [<- hz];simpa using h3
   simp only [cc,Ny h,Ny h2,Ny h3]
  .rename_i h3
   have h3:bq l 0=some 1:=by
    rw [<- hz];simpa using h3
   simp only [cc,Ny h,Ny h2,ND h3]
theorem uX (l:List al) (hl:l.length<=1000000):ax Tryz.prog 135 [a7 l] (ic 76 9 (((l.map al.op).take 70).map nz)):=by
 refine aa ah Tryz.func135 rfl (by decide) Tryz.ntmps135 Tryz.results135 rfl (cB _ _ _) ?_
 repeat' first|refine go ?_|decide|refine sp ?_ ?_<;>intro _
 refine ae (fun st=>∃ k:Nat,k<=l.length /\ k<=70 /\ st=⟨25,[(0,a7 l),(3,.osl 0),(4,eI (k:Int))],[(0,some (.row 76 9 (((l.map al.op).take k).map nz)))],1⟩) (fun st=>l.length - aq st 4) ⟨_,((aR 3 76 9 (by simp only [ia,aj.get,aX,aj.put,↓reduceIte,reduceCtorEq,Nat.reduceLT,Nat.reduceEqDiff,Nat.reduceAdd,Nat.reduceLeDiff,eq_self,implies_true,NJ])).trans (wS [0] @NJ)),0,Nv _,by omega,rfl⟩ ?_;rintro _ ⟨k,hk,hk2,rfl⟩
 have hfin:¬ (k<l.length /\ k<70) -> ((l.map al.op).take k)=((l.map al.op).take 70):=fun h=>by
  by_cases h1:k=70
  .rw [h1]
  .rw [NT (by simp;omega),NT (by simp;omega)]
 by_cases hlt:k<l.length
 .by_cases h70:k<70
  .have e1:decide ((k:Int)<70)=true:=by simp;omega
   have et:((l.map al.op).take (k+1)).map nz=((l.map al.op).take k).map nz ++ [nz l[k].op]:=by
    rw [eh nz (l.map al.op) (by simpa using hlt)];simp
   have hkl:((l.map al.op).take k).length=k:=by simp;omega
   repeat' first|refine go ?_|simp only [ab,hlt,e1]|decide|refine sp ?_ ?_<;>intro _
   refine ⟨rfl,by omega,rI (wS [2] et) ⟨k+1,by omega,by omega,rfl⟩⟩
  .have e1:decide ((k:Int)<70)=false:=by simp;omega
   repeat' first|refine go ?_|simp only [ab,hlt,e1]|decide|refine sp ?_ ?_<;>intro _
   rw [<- hfin (by omega)];exact aO (by simp [af.gc])
 .repeat' first|refine go ?_|simp only [ab,hlt]|decide|refine sp ?_ ?_<;>intro _
  rw [<- hfin (by omega)];exact aO (by simp [af.gc])
theorem pE (l:List Int) (e:Nat) (he:e<l.length) (h:aC l[e]=0):ax Tryz.prog 50 [pM l,eI (e:Int)] (val (.slice none 0 0)):=by
 refine aa ah Tryz.func50 rfl (by decide) Tryz.ntmps50 Tryz.results50 rfl (aH _) ?_
 repeat' first|refine go ?_|simp only [ab,he]|decide|refine sp ?_ ?_<;>intro _
 refine aw (mJ _) ?_;rw [h];have e0:((0:Int) == 0)=true:=by decide
 repeat' first|refine ge e0 ?_|decide|refine sp ?_ ?_<;>intro _
theorem Hd (l:List Int) (e:Nat) (he:e<l.length) (h:aC l[e]=1) (hl:l.length<=1000000):ax Tryz.prog 50 [pM l,eI (e:Int)] (ic 3 1 [[eI ((e:Int) - 1)]]):=by
 refine aa ah Tryz.func50 rfl (by decide) Tryz.ntmps50 Tryz.results50 rfl (cB _ _ _) ?_;have ew:IntKind.i64.wrap ((e:Int) - 1)=(e:Int) - 1:=ar (by omega) (by omega)
 repeat' first|refine go ?_|simp only [ab,he]|decide|refine sp ?_ ?_<;>intro _
 refine aw (mJ _) ?_;rw [h]
 repeat' first|refine ge ew ?_|decide|refine sp ?_ ?_<;>intro _
 all_goals first
  | (refine ⟨rfl,aO (by simp [af.gc])⟩;done)
  | (rename_i h;simp at h;done)
  | exact aO (by simp [af.gc])
theorem Hn (l:List Int) (e:Nat) (he:e<l.length) (h:aC l[e]=2) (hl:l.length<=1000000):ax Tryz.prog 50 [pM l,eI (e:Int)] (ic 3 1 [[eI (jk l e 1 - 1)],[eI ((e:Int) - 1)]]):=by
 refine aa ah Tryz.func50 rfl (by decide) Tryz.ntmps50 Tryz.results50 rfl (cB _ _ _) ?_;have ew:IntKind.i64.wrap ((e:Int) - 1)=(e:Int) - 1:=ar (by omega) (by omega)
 repeat' first|refine go ?_|simp only [ab,he]|decide|refine sp ?_ ?_<;>intro _
 refine aw (mJ _) ?_;rw [h]
 repeat' first|refine ge ew ?_|decide|refine sp ?_ ?_<;>intro _
 all_goals first
  | (rename_i h;simp at h;done)
  | skip
 refine aw (Gb l e (by omega) hl) ?_
 have ew2:IntKind.i64.wrap (jk l e 1 - 1)=jk l e 1 - 1:=by
  rcases Dl l e 1 with h|h<;>exact ar (by omega) (by omega)
 repeat' first|refine ge (kf ew ew2) ?_|decide|refine sp ?_ ?_<;>intro _
 exact ⟨rfl,aO (by simp [af.gc])⟩
def pH (vals:List Int) (a:Int):Bool:=decide (-1<=a) && decide (a<(vals.length:Int))
theorem vY (s:St) (a n:Int):ax Tryz.prog 160 [.agg (il s),.agg [eI a,eI n]] (val (.bool (pH s.vals a))):=by
 refine aa ah Tryz.func160 rfl (by decide) Tryz.ntmps160 Tryz.results160 rfl (aH _) ?_;unfold pH
 repeat' first|refine go ?_|decide|refine sp ?_ ?_<;>intro _
 all_goals (rename_i h;rw [h];simp)
theorem CL (s:St) (a n v:Int) (h:qH s.vals a n=some v):ax Tryz.prog 162 [.agg (il s),.agg [eI a,eI n]] (val (.int .i64 v)):=by
 refine aa ah Tryz.func162 rfl (by decide) Tryz.ntmps162 Tryz.results162 rfl (aH _) ?_;unfold qH at h;by_cases h1:a = -1
 .rw [ND h1] at h;cases h;subst h1;have e0:((-1:Int) == -1)=true:=by decide
  repeat' first|refine ge e0 ?_|decide|refine sp ?_ ?_<;>intro _
 .rw [Ny h1] at h;by_cases h2:a<0
  .rw [ND h2] at h;cases h
  .rw [Ny h2] at h;obtain ⟨k,rfl⟩:∃ k:Nat,a=(k:Int):=⟨a.toNat,by omega⟩;obtain ⟨hk,rfl⟩:=Nw.1 h;simp only [Ou] at hk;have e1:((k:Int) == -1)=false:=by rw [Oa];omega
   repeat' first|refine go ?_|simp only [ab,hk,e1]|decide|refine sp ?_ ?_<;>intro _
theorem JB (op a b:Int):ax Tryz.prog 161 [eI op,eI a,eI b] (val (.bool (M0 op (Cs a b)))):=by
  refine aa ah Tryz.func161 rfl (by decide) Tryz.ntmps161 Tryz.results161 rfl (aH _) ?_
  repeat' first|refine go ?_|decide|refine sp ?_ ?_<;>intro _
  all_goals
    (simp only [O2,Oa,ne_eq] at *
     simp_all [M0,Cs]
     try ((repeat' split)<;>simp_all<;>omega))
end
end
section
section
theorem o7 {l:List Int}:∀ row ∈ l.map nz,∀ av ∈ row,av.plain:=fun row hr av ha=>by
 obtain ⟨n,_,rfl⟩:=NC.1 hr;simp [nz] at ha;rcases ha with rfl|rfl|rfl|rfl|rfl|rfl|rfl|rfl|rfl<;>trivial
def oS (attrs:Bool) (op:Int):Bool:=attrs && decide (3<=op) && decide (op<=8)
theorem DC (vals:List Int) (x:al) (attrs:Bool):g8 vals attrs x = !((decide (18<x.op) || (decide (10<x.op) && decide (x.op<15))) || (oS attrs x.op && (!pH vals x.la || !pH vals x.ra))):=by
 unfold g8 oS pH;simp only [Bool.and_assoc,Bool.or_assoc]
theorem sR (l:List al) (s:St) (attrs:Bool) (hl:l.length<=1000000) (b:Bool) (hb:b=true ↔ (cc (l.map al.op)=0 /\ ∀ x ∈ l,g8 s.vals attrs x=true)):ax Tryz.prog 133 [a7 l,.agg (il s),eB attrs] (val (.bool b)):=by
 refine aa ah Tryz.func133 rfl (by decide) Tryz.ntmps133 Tryz.results133 rfl (aH _) ?_
 have h70:cc ((l.map al.op).take 70)=cc (l.map al.op):=by
  by_cases h:l.length<=70
  .rw [NT (by simpa using h)]
  .have e7:((l.map al.op).take 70).length=70:=by rw [NF,NI];omega
   have e8:(l.map al.op).length=l.length:=NI ..;unfold cc;rw [Ny (by omega),ND (by omega),Ny (by omega),ND (by omega)]
 repeat' first|refine go ?_|decide|refine sp ?_ ?_<;>intro _
 refine ce (uX l hl) (.inr o7) ?_
 repeat' first|refine go ?_|decide|refine sp ?_ ?_<;>intro _
 refine aw (qh _ (by simp;omega)) ?_;rw [h70]
 repeat' first|refine go ?_|decide|refine sp ?_ ?_<;>intro _
 .rename_i h;symm;rw [OM];intro h2;have h3:=(hb.1 h2).1;simp [h3] at h
 .rename_i h;have hc:cc (l.map al.op)=0:=by simpa using h
  refine ae (fun st=>∃ k:Nat,k<=l.length /\ (∀ i (hi:i<l.length),i<k -> g8 s.vals attrs l[i]=true) /\ st=⟨65,[(0,a7 l),(2,eB attrs),(4,.op 0 0 0),(7,eI (k:Int))],[(0,some (.box 106 (il s)))],1⟩) (fun st=>l.length - aq st 7) ⟨_,wC,0,Nv _,fun i _ h=>by omega,rfl⟩ ?_;rintro _ ⟨k,hk,hI,rfl⟩;by_cases hlt:k<l.length
  .have hno:g8 s.vals attrs l[k]=false -> b=false:=fun h2=>by
    rw [OM];intro h3;rw [(hb.1 h3).2 _ (Nt hlt)] at h2;cases h2
   have hyes:g8 s.vals attrs l[k]=true -> ∀ i (hi:i<l.length),i<k+1 -> g8 s.vals attrs l[i]=true:=fun h2 i hi h3=>by
    rcases NP i k with h4|h4
    .exact hI i hi h4
    .obtain rfl:i=k:=by omega
     exact h2
   rw [DC] at hno hyes;generalize hx:l[k]=x at hno hyes;obtain ⟨op,la,ln,ra,rn,n,u⟩:=x;simp only at hno hyes;have ex:eD l[k]=[eI op,eI la,eI ln,eI ra,eI rn,eI n,eI u]:=(by rw [hx]);have eop:l[k].op=op:=(by rw [hx])
   repeat' first|refine go ?_|simp only [ab,hlt,ex,eop]|decide|refine sp ?_ ?_<;>intro _
   refine aA (by kernel_rfl) ?_
   repeat' first|refine go ?_|simp only [ab,hlt,ex,eop]|decide|refine sp ?_ ?_<;>intro _
   all_goals first
    | (symm;exact hno (by simp [oS, *]))
    | exact rI wC ⟨k+1,by omega,hyes (by simp [oS, *]),rfl⟩
    | skip
   all_goals
    refine aL (vY s la ln) ?_
    repeat' first|refine go ?_|simp only [ab,hlt,ex,eop]|decide|refine sp ?_ ?_<;>intro _
    all_goals first
     | (symm;exact hno (by simp [oS, *]))
     | exact rI wC ⟨k+1,by omega,hyes (by simp [oS, *]),rfl⟩
     | skip
   all_goals
    refine aL (vY s ra rn) ?_
    repeat' first|refine go ?_|simp only [ab,hlt,ex,eop]|decide|refine sp ?_ ?_<;>intro _
    all_goals first
     | (symm;exact hno (by simp [oS, *]))
     | exact rI wC ⟨k+1,by omega,hyes (by simp [oS, *]),rfl⟩
     | skip
  .obtain rfl:k=l.length:=by omega
   repeat' first|refine go ?_|simp only [ab,hlt]|decide|refine sp ?_ ?_<;>intro _
   symm;exact hb.2 ⟨hc,fun x hx=>by obtain ⟨i,hi,rfl⟩:=NV hx;exact hI i hi hi⟩
theorem GD {s:St} {x:al} {c:Int} (h:uJ s.vals x=some c):∃ a b,qH s.vals x.la x.ln=some a /\ qH s.vals x.ra x.rn=some b /\ c=Cs a b:=by
 unfold uJ at h;split at h
 .rename_i a b ha hb;cases h;exact ⟨a,b,ha,hb,rfl⟩
 .cases h
theorem EF (l:List al) (s:St) (hl:l.length<=70) (ho:aB s.opn) (hd:aB s.don):∀ (n e:Nat) (he:e<l.length) (v:Bool) (r:List Bool),e<n -> ez (uJ s.vals) s.opn s.don (l.take (e+1)) []=some (v :: r) ->
  ax Tryz.prog 134 [a7 l,pM (l.map al.op),eI (e:Int),.agg (il s)] (val (.bool v))
 | 0,e,he,v,r,hn,_=>by omega
 | n+1,e,he,v,r,hn,hr=>by
  refine aa ah Tryz.func134 rfl (by decide) Tryz.ntmps134 Tryz.results134 rfl (aH _) ?_;obtain ⟨r0,h1,h2⟩:=k6 he hr;have hel:e<(l.map al.op).length:=by simpa using he
  have eo:(l.map al.op)[e]=l[e].op:=by simp
  have ih:=EF l s hl ho hd n;have z1:(0:Int)<((1:Nat):Int):=by decide
  have z2:(0:Int)<((2:Nat):Int):=by decide
  have z3:(1:Int)<((2:Nat):Int):=by decide
  generalize hx:l[e]=x at h2 eo;obtain ⟨op,la,ln,ra,rn,xn,u⟩:=x;have ex:eD l[e]=[eI op,eI la,eI ln,eI ra,eI rn,eI xn,eI u]:=by rw [hx]
  simp only at eo;unfold fJ at h2;simp only at h2;split at h2
  .rename_i hop;have ha:aC (l.map al.op)[e]=0:=by rw [eo];unfold aC;rw [ND (by omega)]
   have hk:=pE (l.map al.op) e hel ha;simp at h2;rcases hop with rfl|rfl
   .have hv:v=true:=by rw [<- h2.1];rfl
    subst hv
    repeat' first|refine go ?_|simp only [ab,he,ex]|decide|refine sp ?_ ?_<;>intro _
    refine aw hk ?_;have e1:((1:Int) == 1)=true:=(by decide)
    repeat' first|refine ge e1 ?_|decide|refine sp ?_ ?_<;>intro _
   .have hv:v=false:=by rw [<- h2.1];rfl
    subst hv
    repeat' first|refine go ?_|simp only [ab,he,ex]|decide|refine sp ?_ ?_<;>intro _
    refine aw hk ?_
    repeat' first|refine go ?_|simp only [Int.reduceBEq]|decide|refine sp ?_ ?_<;>intro _
  split at h2
  .rename_i hop;have ha:aC (l.map al.op)[e]=0:=by rw [eo];unfold aC;rw [ND (by omega)]
   have hk:=pE (l.map al.op) e hel ha;split at h2
   .rename_i c hc;obtain ⟨a,b,hva,hvb,rfl⟩:=GD hc;simp only at hva hvb;cases h2;have h6:op=3 \/ op=4 \/ op=5 \/ op=6 \/ op=7 \/ op=8:=(by omega);rcases h6 with rfl|rfl|rfl|rfl|rfl|rfl
    all_goals
     repeat' first|refine go ?_|simp only [ab,he,ex]|decide|refine sp ?_ ?_<;>intro _
     refine aw hk ?_
     repeat' first|refine go ?_|simp only [Int.reduceBEq]|decide|refine sp ?_ ?_<;>intro _
     refine aA (by kernel_rfl) ?_
     repeat' first|refine go ?_|decide|refine sp ?_ ?_<;>intro _
     refine aL (CL s la ln a hva) ?_
     repeat' first|refine go ?_|decide|refine sp ?_ ?_<;>intro _
     refine aL (CL s ra rn b hvb) ?_
     repeat' first|refine go ?_|decide|refine sp ?_ ?_<;>intro _
     refine aL (JB _ a b) ?_
     repeat' first|refine go ?_|decide|refine sp ?_ ?_<;>intro _
   .cases h2
  split at h2
  .rename_i hop;have ha:aC (l.map al.op)[e]=0:=by rw [eo];unfold aC;rw [ND (by omega)]
   have hk:=pE (l.map al.op) e hel ha;subst hop;cases h2
   repeat' first|refine go ?_|simp only [ab,he,ex]|decide|refine sp ?_ ?_<;>intro _
   refine aw hk ?_
   repeat' first|refine go ?_|simp only [Int.reduceBEq]|decide|refine sp ?_ ?_<;>intro _
   refine aw (cL s.opn xn ho) ?_
   repeat' first|refine go ?_|decide|refine sp ?_ ?_<;>intro _
  split at h2
  .rename_i hop;have ha:aC (l.map al.op)[e]=0:=by rw [eo];unfold aC;rw [ND (by omega)]
   have hk:=pE (l.map al.op) e hel ha;subst hop;cases h2
   repeat' first|refine go ?_|simp only [ab,he,ex]|decide|refine sp ?_ ?_<;>intro _
   refine aw hk ?_
   repeat' first|refine go ?_|simp only [Int.reduceBEq]|decide|refine sp ?_ ?_<;>intro _
   refine aw (cL s.don xn hd) ?_
   repeat' first|refine go ?_|decide|refine sp ?_ ?_<;>intro _
  have hpre:∀ (a:Bool) (q:List Bool),r0=a :: q -> ∃ e0,e=e0+1:=fun a q hq=>by
   cases e with
   | zero=>
    simp [ez] at h1;rw [h1] at hq;cases hq
   | succ e0=>exact ⟨e0,rfl⟩
  split at h2
  .rename_i hop;have ha:aC (l.map al.op)[e]=1:=by rw [eo];unfold aC;rw [Ny (by omega),ND (by omega)]
   have hk:=Hd (l.map al.op) e hel ha (by simp;omega);subst hop;split at h2
   .rename_i a q;obtain ⟨e0,rfl⟩:=hpre a q rfl;have ee:((e0+1:Nat):Int) - 1=(e0:Int):=(by omega);rw [ee] at hk;have h3:=ih e0 (by omega) a q (by omega) h1;cases h2
    repeat' first|refine go ?_|simp only [ab,he,ex]|decide|refine sp ?_ ?_<;>intro _
    refine ce hk (.inr (dT (l:=[(e0:Int)]))) ?_
    repeat' first|refine go ?_|simp only [Int.reduceBEq]|decide|refine sp ?_ ?_<;>intro _
    refine aA (by kernel_rfl) ?_
    repeat' first|refine go ?_|simp only [Int.reduceLT,Int.reduceLE,PO,z1,z2,z3]|decide|refine sp ?_ ?_<;>intro _
    refine aL h3 ?_
    repeat' first|refine go ?_|decide|refine sp ?_ ?_<;>intro _
   .cases h2
  split at h2
  .rename_i hop;have ha:aC (l.map al.op)[e]=2:=by rw [eo];unfold aC;rw [Ny (by omega),Ny (by omega),ND (by omega)]
   have hk:=Hn (l.map al.op) e hel ha (by simp;omega);split at h2
   .rename_i b a q;obtain ⟨e0,rfl⟩:=hpre b (a :: q) rfl;have ee:((e0+1:Nat):Int) - 1=(e0:Int):=(by omega);have h3:=ih e0 (by omega) b (a :: q) (by omega) h1;obtain ⟨bg,h4,h5,h6⟩:=Fs (by omega) h1
    have h7:∃ b0,bg=b0+1:=by
     cases bg with
     | zero=>simp [ez] at h6
     | succ b0=>exact ⟨b0,rfl⟩
    obtain ⟨b0,rfl⟩:=h7;have eb:((b0+1:Nat):Int) - 1=(b0:Int):=(by omega);rw [ee,h5,eb] at hk;have h8:=ih b0 (by omega) a q (by omega) h6;cases h2;have h9:op=16 \/ op=17 \/ op=18:=(by omega);rcases h9 with rfl|rfl|rfl
    all_goals
     repeat' first|refine go ?_|simp only [ab,he,ex]|decide|refine sp ?_ ?_<;>intro _
     refine ce hk (.inr (dT (l:=[(b0:Int),(e0:Int)]))) ?_
     repeat' first|refine go ?_|simp only [Int.reduceBEq]|decide|refine sp ?_ ?_<;>intro _
     refine aA (by kernel_rfl) ?_
     repeat' first|refine go ?_|simp only [Int.reduceLT,Int.reduceLE,PO,z1,z2,z3]|decide|refine sp ?_ ?_<;>intro _
     refine aL h8 ?_
     repeat' first|refine go ?_|simp only [Int.reduceLT,Int.reduceLE,PO,z1,z2,z3,Int.toNat_one]|decide|refine sp ?_ ?_<;>intro _
     all_goals first|(refine aL h3 ?_;(repeat' (first|refine go ?_|decide|refine sp ?_ ?_<;>intro _)))|skip
     all_goals first|rfl|(simp_all;done)
   .cases h2
  .cases h2
end
section
theorem HH (l:List Int) (i:Int) (k d:Nat) (x:Int) (h:gz l i k=qQ l x) (hx:¬ gL l x):gz l i (k+d) = -1:=
 wU l i k (by rw [h];exact ((gS l x).resolve_left fun hh=>hx hh.1).2) d
theorem Jz (l:List Int) (v:Value) (i n:Int) (w:World) (hl:l.length<=1073741824) (hn0:0<=n) (hn:n<=4294967296) (hv:RI w v l) :
  Calls Tryz.prog 114 #[v,.int .i64 i,.int .i64 n] w fun e w'=>e=.returned (.int .i64 (gz l i n.toNat)) /\ w=w':=by
 obtain ⟨A,c,rfl,hc⟩:=hv.form;obtain ⟨N,rfl⟩:=Int.eq_ofNat_of_zero_le hn0;rw [Ou]
 go_enter Tryz.func114,Tryz.ntmps114
 go_wp2_with fail
 go_loop [1,7] (fun x j=>∃ (k:Nat) (y:Int),k<=N /\ j=.int .i64 (k:Int) /\ x=.int .i64 y /\ gz l i k=qQ l y) (fun x j=>N - (intOf j).toNat)
 case atStart=>exact ⟨0,i,Nv _,rfl,rfl,rfl⟩
 case round=>
  obtain ⟨k,y,hk,rfl,rfl,hup⟩:=hrel;by_cases hlt:k<N
  .by_cases hy:gL l y
   .obtain ⟨hy1,hy2⟩:=hy;obtain ⟨z,rfl⟩:=Int.eq_ofNat_of_zero_le hy1;obtain ⟨b,o,rfl,hcell,hb1,hb2⟩:=hv.at_ (show z<l.length by omega)
    have e:gz l i (k+1)=qQ l (l.getD z 0):=by
     show kR l (gz l i k)=_;rw [hup,uO];unfold kR;rw [ND ⟨hy1,hy2⟩];simp
    have E:=jO e;clear hup e;generalize l.getD z 0=y' at *
    go_wp2_with fail
    go_round
    case rel=>exact ⟨k+1,y',by omega,by go_num,rfl,E.out⟩
    case measure=>simp [intOf];omega
   .have e:=HH l i k (N - k) y hup hy;rw [show k+(N - k)=N from by omega] at e;have E:=jO e;clear e hup;by_cases h0:0<=y
    .have h1:(l.length:Int)<=y:=by unfold gL at hy;omega
     clear hy
     go_wp2_with fail
     go_ret
     rw [E.out];exact ⟨rfl,rfl⟩
    .clear hy
     go_wp2_with fail
     go_ret
     rw [E.out];exact ⟨rfl,rfl⟩
  .obtain rfl:k=N:=by omega
   by_cases hy:gL l y
   .have e:gz l i k=y:=by rw [hup];exact ((gS l y).resolve_right fun hh=>hh.1 hy).2
    have E:=jO e;clear e hup;obtain ⟨hy1,hy2⟩:=hy
    go_wp2_with fail
    go_ret
    rw [E.out];exact ⟨rfl,rfl⟩
   .have e:gz l i k = -1:=by rw [hup];exact ((gS l y).resolve_left fun hh=>hy hh.1).2
    have E:=jO e;clear e hup;by_cases h0:0<=y
    .have h1:(l.length:Int)<=y:=by unfold gL at hy;omega
     clear hy
     go_wp2_with fail
     go_ret
     rw [E.out];exact ⟨rfl,rfl⟩
    .clear hy
     go_wp2_with fail
     go_ret
     rw [E.out];exact ⟨rfl,rfl⟩
noncomputable instance (l:List Int) (a i:Int):Decidable (Hm l a i):=Classical.propDecidable _
theorem EC (l:List Int) (v:Value) (a i:Int) (w:World) (hl:l.length<=1073741824) (hv:RI w v l) :
  Calls Tryz.prog 74 #[v,.int .i64 a,.int .i64 i] w fun e w'=>e=.returned (.bool (decide (Hm l a i))) /\ w=w':=by
 obtain ⟨A,c,rfl,hc⟩:=hv.form
 go_enter Tryz.func74,Tryz.ntmps74
 go_wp2_with fail
 go_loop [7] (fun j=>∃ k:Nat,1<=k /\ k<=l.length+1 /\ j=.int .i64 (k:Int) /\ ∀ m,1<=m -> m<k -> ¬ (0<=a /\ gz l i m=a)) (fun j=>l.length+1 - (intOf j).toNat)
 case atStart=>exact ⟨1,Nz _,by omega,rfl,fun m h1 h2=>by omega⟩
 case round=>
  obtain ⟨k,hk1,hk,rfl,hno⟩:=hrel;have Hno:=jO hno;clear hno;by_cases hlt:k<=l.length
  .have hup:=Jz l _ i (k:Int) w hl (by omega) (by omega) hv;rw [Ou] at hup;have hyes:0<=a -> gz l i k=a -> decide (Hm l a i)=true:=fun h1 h2=>NL ⟨k,hk1,hlt,h1,h2⟩
   have hnext:¬ (0<=a /\ gz l i k=a) -> ∀ m,1<=m -> m<k+1 -> ¬ (0<=a /\ gz l i m=a):=fun h m h1 h2=>by
    by_cases e:m=k
    .subst e;exact h
    .exact Hno.out m h1 (by omega)
   have Hup:=jO hup;have Hyes:=jO hyes;have Hnext:=jO hnext;clear hup hyes hnext Hno;generalize gz l i k=y at *;by_cases h0:0<=a
   .by_cases h1:y=a
    .have h2:(y == a)=true:=(by simpa using h1);have E:=jO (Hyes.out h0 h1);clear h1
     go_wp2_with (go_at_call 114;refine Hup.out.mono ?_;rintro e w' ⟨rfl,rfl⟩)
     go_ret
     rw [E.out];exact ⟨rfl,rfl⟩
    .have h2:(y == a)=false:=(by simpa using h1);have E:=jO (Hnext.out (fun hh=>h1 hh.2));clear h1
     go_wp2_with (go_at_call 114;refine Hup.out.mono ?_;rintro e w' ⟨rfl,rfl⟩)
     go_round
     case rel=>exact ⟨k+1,by omega,by omega,by go_num,E.out⟩
     case measure=>simp [intOf];omega
   .have E:=jO (Hnext.out (fun hh=>h0 hh.1))
    go_wp2_with fail
    go_round
    case rel=>exact ⟨k+1,by omega,by omega,by go_num,E.out⟩
    case measure=>simp [intOf];omega
  .have e:decide (Hm l a i)=false:=by
    refine NE fun ⟨m,h1,h2,h3,h4⟩=>Hno.out m h1 (by omega) ⟨h3,h4⟩
   have E:=jO e;clear e
   go_wp2_with fail
   go_ret
   rw [E.out];exact ⟨rfl,rfl⟩
end
section
theorem y7 (l:List Int) (k:Nat) (hk:k<l.length) (hno:∀ j,j<k -> ¬ nX l (j:Int)) (hy:nX l (k:Int)):jJ l=(k:Int):=by
 unfold jJ
 have:(List.range l.length).find? (fun (i:Nat)=>decide (nX l (i:Int)))=some k:=by
  rw [List.find?_range_eq_some];exact ⟨by simpa using hy,by simpa using hk,fun j hj=>by simpa using hno j hj⟩
 rw [this];rfl
theorem BX (l:List Int) (hno:∀ j,j<l.length -> ¬ nX l (j:Int)):jJ l = -1:=by
 unfold jJ
 have:(List.range l.length).find? (fun (i:Nat)=>decide (nX l (i:Int)))=none:=by
  rw [List.find?_eq_none];intro j hj;simpa using hno j (by simpa using hj)
 rw [this];rfl
theorem rH (l:List Int) (v:Value) (w:World) (hl:l.length<=1073741824) (hv:RI w v l) :
  Calls Tryz.prog 24 #[v] w fun e w'=>e=.returned (.int .i64 (jJ l)) /\ Below w.heap.size w w':=by
 obtain ⟨A,c,rfl,hc⟩:=hv.form
 go_enter Tryz.func24,Tryz.ntmps24
 go_wp2_with fail
 go_loop [3] (fun j=>∃ k:Nat,k<=l.length /\ j=.int .i64 (k:Int) /\ ∀ m,m<k -> ¬ nX l (m:Int)) (fun j=>l.length - (intOf j).toNat)
 case atStart=>exact ⟨0,Nv _,rfl,fun m hm=>by omega⟩
 case round=>
  obtain ⟨k,hk,rfl,hno⟩:=hrel;have Hno:=jO hno;clear hno;by_cases hlt:k<l.length
  .have ha:=EC l _ (k:Int) (k:Int) w hl hv;have hci:=Fi l (k:Int) ⟨by omega,by omega⟩
   have e:decide (Hm l (k:Int) (k:Int))=decide (nX l (k:Int)):=by
    refine decide_eq_decide.2 ⟨fun ⟨j,h1,h2,_,h3⟩=>hci.2 ⟨j,h1,h2,h3⟩,fun h=>?_⟩;obtain ⟨j,h1,h2,h3⟩:=hci.1 h;exact ⟨j,h1,h2,by omega,h3⟩
   rw [e] at ha;by_cases hy:nX l (k:Int)
   .rw [NL hy] at ha;have Ha:=jO ha;have E:=jO (y7 l k hlt Hno.out hy);clear ha e hci hy
    go_wp2_with (go_at_call 74;refine Ha.out.mono ?_;rintro e w2 ⟨rfl,rfl⟩)
    go_ret
    rw [E.out];exact ⟨rfl,Below.refl _ _⟩
   .rw [NE hy] at ha;have Ha:=jO ha;have Hy:=jO hy;clear ha e hci hy
    go_wp2_with (go_at_call 74;refine Ha.out.mono ?_;rintro e w2 ⟨rfl,rfl⟩)
    go_round
    case rel=>
     refine ⟨k+1,by omega,by go_num,fun m hm=>?_⟩;by_cases e:m=k
     .subst e;exact Hy.out
     .exact Hno.out m (by omega)
    case measure=>simp [intOf];omega
  .obtain rfl:k=l.length:=by omega
   have E:=jO (BX l Hno.out)
   go_wp2_with fail
   go_ret
   rw [E.out];exact ⟨rfl,Below.refl _ _⟩
end
section
end
section
def W0 (w:World) (vv:Value) (o d:Int) (dv cv:Value):World:=((w.alloc (.cells #[vv,.int .i64 o,.int .i64 d,dv,cv] 106)).alloc (.cells #[.bool false] 4)).alloc (.cells #[.int .i64 0] 37)
end
section
theorem Ey (l:List Int) (hl:l.length<=1073741824) (ho:∀ x ∈ l,aB x):ax Tryz.prog 24 [sI l] (val (.int .i64 (jJ l))):=
 iK (jc Tryz.func24 rfl (by decide)) fun S w vs hS hn hv=>by
  obtain ⟨a,rfl⟩:∃ a,vs = #[a]:=⟨vs[0]'(by simp at hn;omega),by apply Array.ext (by simpa using hn);intro i h1 h2;simp at h2;subst h2;rfl⟩;exact rH l a w hl (zE (hv 0 a _ rfl rfl) hS ho)
def cE (m:bb) (x:Bool × Int):Option (Int × Int × List al × Int):=
 if x.1=true then (if 0<=x.2 then (m.miles[x.2.toNat]?).map fun K=>(K.stage,K.event,K.cond,x.2) else none)
 else (if 0<=x.2 then (m.guards[x.2.toNat]?).map fun g=>(g.stage,g.event,g.cond,-1) else none)
def C7 (m:bb) (opn st:Int):Bool:=
 ((m.stages.getD st.toNat (⟨#[]⟩,0)).2 == -1) || (decide ((m.stages.getD st.toNat (⟨#[]⟩,0)).2<m.stages.length) && bk opn (m.stages.getD st.toNat (⟨#[]⟩,0)).2)
end
section
def zy (m:bb) (st:Int):Bool:=decide (0<=st) && decide (st<(m.stages.length:Int))
def n5 (m:bb) (opn:Int) (x:Bool × Int) (event:Int):Bool:=
 match cE m x with
 | some (st,ev,_,_)=>zy m st && ((ev == -1 || ev == event) && (bk opn st == x.1) && (x.1 || C7 m opn st))
 | none=>false
def fb (m:bb) (s:St) (x:Bool × Int) (event:Int):Bool:=n5 m s.opn x event && (match cE m x with | some (_,_,cond,_)=>mA (g7 cond s) | none=>false)
end
section
def rF (l:List Ml) (st d:Int):Nat -> Int
 | 0=>d
 | k+1=>if l[k]?.map (·.stage)=some st then bQ (rF l st d k) (k:Int) else rF l st d k
def dD (m:bb) (s:St) (x:Bool × Int):St:=
 match cE m x with
 | some (st,_,_,mi)=>
  if zy m st=true then
   if x.1=true then { s with don:=cY s.don mi,opn:=(ud (fF m) st ++ [st]).foldl bQ s.opn }
   else { s with opn:=cY s.opn st,don:=rF m.miles st s.don m.miles.length }
  else s
 | none=>s
end
section
def gl (m:bb) (event:Int) (s:St) (x:Bool × Int):St:=if fb m s x event=true then dD m s x else s
def j9 (m:bb) (event:Int) (s:St) (k:Nat):St:=(m.order.take k).foldl (gl m event) s
theorem yZ (m:bb) (s:St) (x:Bool × Int):(dD m s x).vals=s.vals /\ (dD m s x).did=s.did /\ (dD m s x).cnt=s.cnt:=by
 unfold dD;split
 .split
  .split<;>simp
  .simp
 .simp
theorem xK (m:bb) (event:Int) (s:St) (x:Bool × Int):(gl m event s x).vals=s.vals /\ (gl m event s x).did=s.did /\ (gl m event s x).cnt=s.cnt:=by
 unfold gl;split
 .exact yZ m s x
 .simp
theorem od (m:bb) (event:Int):∀ (l:List (Bool × Int)) (s:St),(l.foldl (gl m event) s).vals=s.vals /\ (l.foldl (gl m event) s).did=s.did /\ (l.foldl (gl m event) s).cnt=s.cnt
 | [],s=>by simp
 | x :: l,s=>by
  have h:=od m event l (gl m event s x);have h2:=xK m event s x;simp [h,h2]
end
end
section
section
theorem oc (l:List al) (s:St) (hl:l.length<=1000000) (ho:aB s.opn) (hd:aB s.don):ax Tryz.prog 91 [a7 l,.agg (il s)] ⟨.tup [eB (mA (g7 l s)),eI (xv (g7 l s))],[],0⟩:=by
 refine aa ah Tryz.func91 rfl (by decide) Tryz.ntmps91 Tryz.results91 rfl (⟨fun id o h=>(by cases h),⟨trivial,trivial,trivial⟩⟩) ?_;by_cases hc:cc (l.map al.op)=0 /\ ∀ x ∈ l,g8 s.vals true x=true
 .have hck:=sR l s true hl true (by simp only [true_iff];exact hc);obtain ⟨b,h1,h2⟩:=vZ hc.1 hc.2
  have hlen:0<l.length /\ l.length<=64:=by
   have:=hc.1;unfold cc at this;simp only [NI] at this;split at this
   .cases this
   .split at this
    .cases this
    .omega
  have ht:(l.map al.op).take 70=l.map al.op:=NT (by simp;omega);have hsh:=uX l hl;rw [ht] at hsh;have ew:IntKind.i64.wrap ((l.length:Int) - 1)=((l.length - 1:Nat):Int):=by rw [ar (by omega) (by omega)];omega
  have hat:=EF l s (by omega) ho hd (l.length) (l.length - 1) (by omega) b [] (by omega) (by rw [show l.length - 1+1=l.length by omega,NG];exact h1)
  repeat' first|refine go ?_|decide|refine sp ?_ ?_<;>intro _
  refine aw hck ?_
  repeat' first|refine go ?_|decide|refine sp ?_ ?_<;>intro _
  refine aD [] [0,1,3,4,5,6] (.exec 2 (.exec 7 (.exec 8 (.exec 9 .done)))) (by kernel_rfl) (by simp) ?_
  repeat' first|refine ge ew ?_|decide|refine sp ?_ ?_<;>intro _
  refine ce hsh (.inr o7) ?_
  repeat' first|refine ge ew ?_|decide|refine sp ?_ ?_<;>intro _
  refine aw (by exact hat) ?_
  repeat' first|refine go ?_|decide|refine sp ?_ ?_<;>intro _
  exact aU (by rw [h2];rfl)
 .have hck:=sR l s true hl false (by simp only [Ox,false_iff];exact hc)
  repeat' first|refine go ?_|decide|refine sp ?_ ?_<;>intro _
  refine aw hck ?_
  repeat' first|refine go ?_|decide|refine sp ?_ ?_<;>intro _
  exact aU (by rw [vu hc];rfl)
theorem LX (m:bb) (hl:m.stages.length<=1000000):ax Tryz.prog 25 [.agg (aQ m)] (ic 3 1 ((fF m).map fun n=>[eI n])):=by
 refine aa ah Tryz.func25 rfl (by decide) Tryz.ntmps25 Tryz.results25 rfl (cB _ _ _) ?_
 repeat' first|refine go ?_|decide|refine sp ?_ ?_<;>intro _
 refine ae (fun st=>∃ k:Nat,k<=m.stages.length /\ st=⟨22,[(1,.op 0 0 0),(3,.osl 1),(4,eI (k:Int))],[(0,some (.box 32 (aQ m))),(1,some (.row 3 1 ((m.stages.take k).map fun p=>[eI p.2])))],2⟩) (fun st=>m.stages.length - aq st 4) ⟨_,((aR 3 3 1 (by simp only [ia,aj.get,aX,aj.put,↓reduceIte,reduceCtorEq,Nat.reduceLT,Nat.reduceEqDiff,Nat.reduceAdd,Nat.reduceLeDiff,eq_self,implies_true,NJ,N3])).trans (wS [0,1] @NJ)),0,Nv _,rfl⟩ ?_;rintro _ ⟨k,hk,rfl⟩;by_cases hlt:k<m.stages.length
 .have et:(m.stages.take (k+1)).map (fun p=>[eI p.2])=(m.stages.take k).map (fun p=>[eI p.2]) ++ [[eI m.stages[k].2]]:=eh _ _ hlt
  repeat' first|refine go ?_|simp only [ab,hlt]|decide|refine sp ?_ ?_<;>intro _
  refine ⟨rfl,by simp only [NF];omega,rI (wS [0,3] et) ⟨k+1,by omega,rfl⟩⟩
 .obtain rfl:k=m.stages.length:=by omega
  repeat' first|refine go ?_|simp only [ab,hlt]|decide|refine sp ?_ ?_<;>intro _
  exact aO (by simp [af.gc,fF])
theorem IH (l:List Int) (a i:Int) (hl:l.length<=1073741824) (ho:∀ x ∈ l,aB x):ax Tryz.prog 74 [sI l,eI a,eI i] (val (.bool (decide (Hm l a i)))):=
 iK (jc Tryz.func74 rfl (by decide)) fun S w vs hS hn hv=>by
  obtain ⟨v,v1,v2,rfl⟩:∃ v v1 v2,vs = #[v,v1,v2]:=⟨vs[0]'(by simp at hn;omega),vs[1]'(by simp at hn;omega),vs[2]'(by simp at hn;omega),by
   apply Array.ext
   .simpa using hn
   .intro i h1 h2;simp at h2
    match i,h2 with
    | 0,_=>rfl
    | 1,_=>rfl
    | 2,_=>rfl⟩
  obtain rfl:=L8 (hv 1 v1 _ rfl rfl);obtain rfl:=L8 (hv 2 v2 _ rfl rfl);exact (EC l v a i w hl (zE (hv 0 v _ rfl rfl) hS ho)).mono fun e w' ⟨h1,h2⟩=>⟨h1,h2 ▸ Below.refl _ _⟩
theorem dl (n most:Int):ax Tryz.prog 159 [eI n,eI most] (val (.bool (dx n most))):=by
 refine aa ah Tryz.func159 rfl (by decide) Tryz.ntmps159 Tryz.results159 rfl (aH _) ?_;unfold dx
 repeat' first|refine go ?_|decide|refine sp ?_ ?_<;>intro _
 all_goals (rename_i h;rw [h];simp)
theorem sE (m:bb) (s:St) (xm:Bool) (xn event:Int) (hf:rL m) (ho:aB s.opn) (hd:aB s.don):ax Tryz.prog 130 [.agg (aQ m),.agg (il s),.agg [eB xm,eI xn],eI event] (val (.bool (fb m s (xm,xn) event))):=by
 refine aa ah Tryz.func130 rfl (by decide) Tryz.ntmps130 Tryz.results130 rfl (aH _) ?_;obtain ⟨hgl,hml,hsl,-⟩:=id hf.sizes
 cases xm with
 | true=>
  by_cases hin:0<=xn /\ xn<(m.miles.length:Int)
  .obtain ⟨k,rfl⟩:∃ k:Nat,xn=(k:Int):=⟨xn.toNat,by omega⟩;have hk:k<m.miles.length:=(by omega);have ei:dx (k:Int) (m.miles.length:Int)=true:=by simp [dx];omega
   have eR:fb m s (true,(k:Int)) event=(dx m.miles[k].stage m.stages.length && ((m.miles[k].event == -1) || (m.miles[k].event == event)) && bk s.opn m.miles[k].stage && mA (g7 m.miles[k].cond s)):=by
    simp [fb,n5,cE,hk,zy,dx,Bool.and_assoc]
   rw [eR];have hho:=oc m.miles[k].cond s (by have:=hf.miles _ (Nt hk);omega) ho hd
   repeat' first|refine go ?_|simp only [ab,hk]|decide|refine sp ?_ ?_<;>intro _
   refine aw (dl _ _) ?_
   repeat' first|refine go ?_|simp only [ab,hk,ei]|decide|refine sp ?_ ?_<;>intro _
   refine bI hho (ro) ?_
   repeat' first|refine go ?_|decide|refine sp ?_ ?_<;>intro _
   refine aw (dl _ _) ?_
   repeat' first|refine go ?_|decide|refine sp ?_ ?_<;>intro _
   all_goals first
    | (simp [*];done)
    | (refine aw (cL _ _ ho) ?_;(repeat' (first | refine go ?_ | decide | refine sp ?_ ?_<;>intro _));all_goals (simp [*];done))
  .have ei:dx xn (m.miles.length:Int)=false:=by unfold dx;rw [Oi];simp only [NQ];omega
   have eR:fb m s (true,xn) event=false:=by
    have:cE m (true,xn)=none:=by
     simp only [cE,if_true];split
     .rw [NN (by omega)];try rfl
     .rfl
    simp [fb,n5,this]
   rw [eR]
   repeat' first|refine go ?_|decide|refine sp ?_ ?_<;>intro _
   refine aw (dl _ _) ?_
   repeat' first|refine ge ei ?_|decide|refine sp ?_ ?_<;>intro _
 | false=>
  by_cases hin:0<=xn /\ xn<(m.guards.length:Int)
  .obtain ⟨k,rfl⟩:∃ k:Nat,xn=(k:Int):=⟨xn.toNat,by omega⟩;have hk:k<m.guards.length:=(by omega);have ei:dx (k:Int) (m.guards.length:Int)=true:=by simp [dx];omega
   have hho:=oc m.guards[k].cond s (by have:=hf.guards _ (Nt hk);omega) ho hd;by_cases hst:0<=m.guards[k].stage /\ m.guards[k].stage<(m.stages.length:Int)
   .obtain ⟨q,hq⟩:∃ q:Nat,m.guards[k].stage=(q:Int):=⟨m.guards[k].stage.toNat,by omega⟩;have hql:q<m.stages.length:=(by omega);have es:dx (q:Int) (m.stages.length:Int)=true:=by simp [dx];omega
    have eR:fb m s (false,(k:Int)) event=(((m.guards[k].event == -1) || (m.guards[k].event == event)) && !bk s.opn q && ((m.stages[q].2 == -1) || (dx m.stages[q].2 m.stages.length && bk s.opn m.stages[q].2)) && mA (g7 m.guards[k].cond s)):=by
     have hno:∀ p:Int,(decide (p<(m.stages.length:Int)) && bk s.opn p)=(dx p m.stages.length && bk s.opn p):=fun p=>by
      by_cases h0:0<=p
      .simp [dx,h0]
      .rw [jm _ _ (by omega)];simp
     simp [fb,n5,cE,hk,zy,hq,C7,hql,hno]
    rw [eR]
    repeat' first|refine go ?_|simp only [ab,hk]|decide|refine sp ?_ ?_<;>intro _
    refine aA (by kernel_rfl) ?_
    repeat' first|refine go ?_|simp only [ab,hk]|decide|refine sp ?_ ?_<;>intro _
    refine aL (dl _ _) ?_
    repeat' first|refine go ?_|simp only [ab,hk,ei]|decide|refine sp ?_ ?_<;>intro _
    refine aL (dl _ _) ?_;rw [hq]
    repeat' first|refine go ?_|simp only [ab,hk,es,hq,hql]|decide|refine sp ?_ ?_<;>intro _
    refine bI hho (ro) ?_
    repeat' first|refine ge hq ?_|decide|refine sp ?_ ?_<;>intro _
    all_goals first
     | (simp [*];done)
     | (refine aw (cL _ _ ho) ?_;(repeat' (first | refine go ?_ | decide | refine sp ?_ ?_<;>intro _)))
    all_goals first
     | (simp [*];done)
     | (refine aw (dl _ _) ?_;(repeat' (first | refine go ?_ | decide | refine sp ?_ ?_<;>intro _)))
    all_goals first
     | (simp [*];done)
     | (refine aw (cL _ _ ho) ?_;(repeat' (first | refine go ?_ | decide | refine sp ?_ ?_<;>intro _)))
    all_goals (simp [*];done)
   .have es:dx m.guards[k].stage (m.stages.length:Int)=false:=by unfold dx;rw [Oi];simp only [NQ];omega
    have eR:fb m s (false,(k:Int)) event=false:=by
     have:zy m m.guards[k].stage=false:=by unfold zy;rw [Oi];simp only [NQ];omega
     simp [fb,n5,cE,hk,this]
    rw [eR]
    repeat' first|refine go ?_|simp only [ab,hk]|decide|refine sp ?_ ?_<;>intro _
    refine aA (by kernel_rfl) ?_
    repeat' first|refine go ?_|simp only [ab,hk]|decide|refine sp ?_ ?_<;>intro _
    refine aL (dl _ _) ?_
    repeat' first|refine go ?_|simp only [ab,hk,ei]|decide|refine sp ?_ ?_<;>intro _
    refine aL (dl _ _) ?_
    repeat' first|refine go ?_|simp only [ab,hk,es]|decide|refine sp ?_ ?_<;>intro _
  .have ei:dx xn (m.guards.length:Int)=false:=by unfold dx;rw [Oi];simp only [NQ];omega
   have eR:fb m s (false,xn) event=false:=by
    have:cE m (false,xn)=none:=by
     simp only [cE,Ox,if_false];split
     .rw [NN (by omega)];try rfl
     .rfl
    simp [fb,n5,this]
   rw [eR]
   repeat' first|refine go ?_|decide|refine sp ?_ ?_<;>intro _
   refine aA (by kernel_rfl) ?_
   repeat' first|refine go ?_|decide|refine sp ?_ ?_<;>intro _
   refine aL (dl _ _) ?_
   repeat' first|refine ge ei ?_|decide|refine sp ?_ ?_<;>intro _
end
end
section
section
def ci (o:Int):Prop:=0<=o /\ o<2147483648
theorem cF {o:Int} (h:ci o):aB o:=by unfold ci at h;unfold aB;omega
theorem Fa (s:Int):ci (lr s:Int):=by
 have:=fB s;unfold ci;omega
theorem ne (s i:Int):ci (cY s i):=by
 unfold cY;split
 .have h1:lr s ||| 2 ^ i.toNat<2 ^ 31:=Nat.or_lt_two_pow (fB s) (Nat.pow_lt_pow_right (by omega) (by omega));unfold ci;omega
 .exact Fa s
theorem kg (s i:Int):ci (bQ s i):=by
 unfold bQ;split
 .have h1:lr s ^^^ (lr s &&& 2 ^ i.toNat)<2 ^ 31:=Nat.xor_lt_two_pow (fB s) (Nat.lt_of_le_of_lt Nat.and_le_left (fB s));unfold ci;omega
 .exact Fa s
theorem tj:∀ (l:List Int) (o:Int),ci o -> ci (l.foldl bQ o)
 | [],o,h=>h
 | i :: l,o,h=>tj l _ (kg o i)
theorem t7 (l:List Ml) (st d:Int) (h:ci d):∀ k,ci (rF l st d k)
 | 0=>h
 | k+1=>by
  unfold rF;split
  .exact kg _ _
  .exact t7 l st d h k
theorem uS:∀ (l:List Int) (o j:Int),bk (l.foldl bQ o) j=(bk o j && !decide (j ∈ l))
 | [],o,j=>by simp
 | i :: l,o,j=>by
  rw [List.foldl_cons,uS l,gN];by_cases h:j=i
  .simp [h]
  .have:(j == i)=false:=by simpa using h
   simp [this,h]
theorem rf (l:List Ml) (st d:Int) (i:Nat):∀ k,bk (rF l st d k) (i:Int)=(bk d (i:Int) && !(decide (i<k) && decide (l[i]?.map (·.stage)=some st)))
 | 0=>by simp [rF]
 | k+1=>by
  unfold rF;split
  .rename_i h;rw [gN,rf l st d i k];by_cases hik:i=k
   .subst hik;simp [h]
   .have e1:((i:Int) == (k:Int))=false:=by simp;omega
    have e2:decide (i<k+1)=decide (i<k):=by rw [decide_eq_decide];omega
    rw [e1,e2];simp
  .rename_i h;rw [rf l st d i k];by_cases hik:i=k
   .subst hik;simp [h]
   .have e2:decide (i<k+1)=decide (i<k):=by rw [decide_eq_decide];omega
    rw [e2]
def dG (s:Int) (p:Nat -> Bool):List Bool:=(List.range 31).map fun (i:Nat)=>bk s (i:Int) && !p i
def gv (q:Nat -> Bool) (k:Nat):Nat -> Bool:=fun i=>decide (i<k) && q i
theorem sV (s:Int) (q:Nat -> Bool):dG s (gv q 0)=pa s:=by simp [dG,pa,gv]
theorem vt (s:Int) (p:Nat -> Bool):(dG s p).length=31:=by simp [dG]
theorem ry {s:Int} {q:Nat -> Bool} {k:Nat} (h:q k=true):(dG s (gv q k)).set k false=dG s (gv q (k+1)):=by
 apply Oh;intro i;rw [O4];simp only [dG,Nu,NI,List.length_range];by_cases hi:i<31
 .rw [Ol hi];split
  .rename_i e;subst e;rw [ND hi];simp [gv,h]
  .rename_i e;have e2:decide (i<k+1)=decide (i<k):=by rw [decide_eq_decide];omega
   simp [gv,e2]
 .rw [NN (by simp;omega)];split
  .rw [Ny (by omega)];rfl
  .rfl
theorem Ak {s:Int} {q:Nat -> Bool} {k:Nat} (h:q k=false):dG s (gv q k)=dG s (gv q (k+1)):=by
 have:gv q k=gv q (k+1):=by
  funext i
  unfold gv;by_cases hik:i=k
  .subst hik;simp [h]
  .have e2:decide (i<k+1)=decide (i<k):=by rw [decide_eq_decide];omega
   rw [e2]
 rw [this]
theorem xb (s:Int) (p:Nat -> Bool) {t:Int} (ht:ci t) (h:∀ j:Nat,j<31 -> bk t (j:Int)=(bk s (j:Int) && !p j)):lJ (dG s p) 31=t:=by
 have hr:=iY (fun j=>(dG s p).getD j false) 31;unfold lJ;refine Aa (by omega) ht fun j hj=>?_;rw [tb _ j hj,h j hj];simp [dG,hj]
noncomputable def qA (m:bb) (st:Int):Nat -> Bool:=fun i=>decide ((i:Int)=st) || decide (Hm (fF m) st (i:Int))
def qB (m:bb) (st:Int):Nat -> Bool:=fun i=>decide (m.miles[i]?.map (·.stage)=some st)
theorem Kj {m:bb} {st s:Int} (hst:gL (fF m) st) (hs:ci s):lJ (dG s (gv (qA m st) m.stages.length)) 31=(ud (fF m) st ++ [st]).foldl bQ s:=by
 refine xb s _ (tj _ _ hs) fun j hj=>?_;rw [uS]
 congr 2
 have hpl:(fF m).length=m.stages.length:=by simp [fF]
 rw [O7];simp only [NW,gv,qA,NU,PE,NK,NR];unfold ud;rw [ND hst];simp only [NC,List.mem_filter,Pc,NW];have hst':=hst;unfold gL at hst';constructor
 .rintro (⟨k,⟨h1,h2,h3⟩,h4⟩ | h)
  .obtain rfl:k=j:=by omega
   obtain ⟨i,h5,h6,h7⟩:=(s9 (fF m) (k:Int) st hst'.1 h2).1 h3;exact ⟨by omega,.inr ⟨i,h5,h6,hst'.1,h7⟩⟩
  .exact ⟨by omega,.inl h⟩
 .rintro ⟨h1,h2⟩;by_cases he:(j:Int)=st
  .exact .inr he
  .left;rcases h2 with h2|⟨i,h5,h6,h7,h8⟩
   .exact absurd h2 he
   .exact ⟨j,⟨by omega,he,(s9 (fF m) (j:Int) st hst'.1 he).2 ⟨i,h5,h6,h8⟩⟩,rfl⟩
theorem Ku {m:bb} {st s:Int} (hs:ci s):lJ (dG s (gv (qB m st) m.miles.length)) 31=rF m.miles st s m.miles.length:=by
 refine xb s _ (t7 _ _ _ hs _) fun j hj=>?_;rw [rf];rfl
theorem iu {l:List Bool}:∀ row ∈ l.map (fun b=>[eB b]),∀ av ∈ row,av.plain:=fun row hr av ha=>by
 obtain ⟨n,_,rfl⟩:=NC.1 hr;simp at ha;subst ha;trivial
theorem wY (m:bb) (s:St) (xm:Bool) (xn:Int) (hf:rL m) (hp:∀ p ∈ m.stages,aB p.2) (ho:ci s.opn) (hd:ci s.don):ax Tryz.prog 131 [.agg (aQ m),.agg (il s),.agg [eB xm,eI xn]] ⟨.agg (il (dD m s (xm,xn))),[],0⟩:=by
 refine aa ah Tryz.func131 rfl (by decide) Tryz.ntmps131 Tryz.results131 rfl (⟨fun id o h=>(by cases h),⟨trivial,trivial,trivial,trivial,trivial,trivial⟩⟩) ?_;obtain ⟨hgl,hml,hsl,-⟩:=id hf.sizes;have hpl:(fF m).length=m.stages.length:=by simp [fF]
 have hpo:∀ x ∈ fF m,aB x:=fun x hx=>by
  obtain ⟨p,hp',rfl⟩:=NC.1 hx;exact hp p hp'
 have ro:pi [.agg (aQ m),.agg (il s),.agg [eB xm,eI xn]]:=by simp [pi,yS,bV,dk]
 cases xm with
 | true=>
  by_cases hin:0<=xn /\ xn<(m.miles.length:Int)
  .obtain ⟨k,rfl⟩:∃ k:Nat,xn=(k:Int):=⟨xn.toNat,by omega⟩;have hk:k<m.miles.length:=(by omega);have ei:dx (k:Int) (m.miles.length:Int)=true:=by simp [dx];omega
   by_cases hst:0<=m.miles[k].stage /\ m.miles[k].stage<(m.stages.length:Int)
   .have es:dx m.miles[k].stage (m.stages.length:Int)=true:=by unfold dx;simp;omega
    have hs2:zy m m.miles[k].stage=true:=by unfold zy;simp;omega
    have eR:dD m s (true,(k:Int))={ s with don:=cY s.don k,opn:=(ud (fF m) m.miles[k].stage ++ [m.miles[k].stage]).foldl bQ s.opn }:=by
     simp [dD,cE,hk,hs2]
    rw [eR,<- Kj (m:=m) (by unfold gL;omega) ho];have eK:EM m.miles[k]=[eS m.miles[k].name,eI m.miles[k].stage,eI m.miles[k].event,a7 m.miles[k].cond,eB m.miles[k].final]:=rfl;generalize hstg:m.miles[k].stage=st at hst es hs2 eK;have hput:=qR s.don (k:Int) true (cF hd) (by omega) (by omega);simp only [if_true] at hput
    repeat' first|refine go ?_|simp only [ab,hk]|decide|refine sp ?_ ?_<;>intro _
    refine aA (by kernel_rfl) ?_
    repeat' first|refine go ?_|simp only [ab,hk]|decide|refine sp ?_ ?_<;>intro _
    refine aL (dl _ _) ?_
    repeat' first|refine go ?_|simp only [ab,hk,ei,hstg]|decide|refine sp ?_ ?_<;>intro _
    refine aL (dl _ _) ?_
    repeat' first|refine go ?_|simp only [ab,hk,ei,es,hstg]|decide|refine sp ?_ ?_<;>intro _
    refine aw hput ?_
    repeat' first|refine go ?_|decide|refine sp ?_ ?_<;>intro _
    refine ce (F2 s.opn (cF ho)) (.inr iu) ?_
    repeat' first|refine go ?_|decide|refine sp ?_ ?_<;>intro _
    rw [<- sV s.opn (qA m st)];refine ae (fun s'=>∃ i:Nat,i<=m.stages.length /\ s'=⟨148,[(3,.op 0 0 0),(4,.op 1 0 0),(6,.op 2 0 0),(7,eI st),(8,.osl 3),(9,eI (i:Int))],[(0,some (.box 32 (aQ m))),(1,some (.box 106 (il { s with don:=cY s.don k }))),(2,some (.box 106 [.c (.slice none 0 0),eI 0,eI 0,.c (.slice none 0 0),.c (.slice none 0 0)])),(3,some (.row 4 1 ((dG s.opn (gv (qA m st) i)).map fun b=>[eB b])))],4⟩) (fun s'=>m.stages.length - aq s' 9) ⟨_,(wR [0,1,3,4]),0,Nv _,rfl⟩ ?_;rintro _ ⟨i,hi,rfl⟩;have hml31:=vt s.opn (gv (qA m st) i);by_cases hlt:i<m.stages.length
    .have hi31:i<(dG s.opn (gv (qA m st) i)).length:=(by omega);have hset:(((dG s.opn (gv (qA m st) i)).map fun b=>[eB b]).set i [eB false])=((dG s.opn (gv (qA m st) i)).set i false).map fun b=>[eB b]:=(by rw [Pw])
     repeat' first|refine go ?_|simp only [ab,hlt,hi31]|decide|refine sp ?_ ?_<;>intro _
     .rename_i h;have hq:qA m st i=true:=by simp [qA];left;simpa using h
      exact rI (gP (by (first|((simp only [ku,ky,cT,cr,aE.lt,AV.lt,AV.ltL,ia,aj.get,aX,aj.put,↓reduceIte,reduceCtorEq,Nat.reduceLT,Nat.reduceEqDiff,Nat.reduceAdd,Nat.reduceLeDiff,eq_self,implies_true,hset,ry hq])<;>(repeat' apply And.intro)<;>first|(rw [mD (by omega)];done)|(simp;done)|omega)|fail))) ⟨i+1,by omega,rfl⟩
     .rename_i h;refine ce (LX m (by omega)) (.inr dT) ?_
      repeat' first|refine go ?_|decide|refine sp ?_ ?_<;>intro _
      refine aw (IH (fF m) st (i:Int) (by omega) hpo) ?_
      repeat' first|refine go ?_|simp only [ab,hlt,hi31]|decide|refine sp ?_ ?_<;>intro _
      .rename_i h2;have hq:qA m st i=true:=(by simp only [qA,h2,Bool.or_true]);exact rI (kI [0,1,2,3] ⟨(by decide),(by (first|((simp only [iE,gZ,cT,cr,aE.lt,AV.lt,AV.ltL,AV.ren,AV.renL,aE.ren,PK,List.getD_cons_succ,NZ,Ps,ia,aj.get,aX,aj.put,↓reduceIte,reduceCtorEq,Nat.reduceLT,Nat.reduceEqDiff,Nat.reduceAdd,Nat.reduceLeDiff,eq_self,implies_true,hset,ry hq])<;>(repeat' apply And.intro)<;>first|(rw [mD (by omega)];done)|(simp;done)|omega)|fail))⟩) ⟨i+1,by omega,rfl⟩
      .rename_i h2
       have hq:qA m st i=false:=by
        simp only [qA,h2,PW];simpa using h
       exact rI (kI [0,1,2,3] ⟨(by decide),(by (first|((simp only [iE,gZ,cT,cr,aE.lt,AV.lt,AV.ltL,AV.ren,AV.renL,aE.ren,PK,List.getD_cons_succ,NZ,Ps,ia,aj.get,aX,aj.put,↓reduceIte,reduceCtorEq,Nat.reduceLT,Nat.reduceEqDiff,Nat.reduceAdd,Nat.reduceLeDiff,eq_self,implies_true,Ak hq])<;>(repeat' apply And.intro)<;>first|(rw [mD (by omega)];done)|(simp;done)|omega)|fail))⟩) ⟨i+1,by omega,rfl⟩
    .obtain rfl:i=m.stages.length:=by omega
     have hsum:=Fw (dG s.opn (gv (qA m st) m.stages.length)) (by omega);rw [hml31] at hsum
     repeat' first|refine go ?_|simp only [ab,hlt]|decide|refine sp ?_ ?_<;>intro _
     refine aw (by exact hsum) ?_
     repeat' first|refine go ?_|decide|refine sp ?_ ?_<;>intro _
     exact aU (by simp [AV.ren,AV.renL])
   .have es:dx m.miles[k].stage (m.stages.length:Int)=false:=by unfold dx;rw [Oi];simp only [NQ];omega
    have eR:dD m s (true,(k:Int))=s:=by
     have:zy m m.miles[k].stage=false:=by unfold zy;rw [Oi];simp only [NQ];omega
     simp [dD,cE,hk,this]
    rw [eR]
    repeat' first|refine go ?_|simp only [ab,hk]|decide|refine sp ?_ ?_<;>intro _
    refine aA (by kernel_rfl) ?_
    repeat' first|refine go ?_|simp only [ab,hk]|decide|refine sp ?_ ?_<;>intro _
    refine aL (dl _ _) ?_
    repeat' first|refine go ?_|simp only [ab,hk,ei]|decide|refine sp ?_ ?_<;>intro _
    refine aL (dl _ _) ?_
    repeat' first|refine go ?_|simp only [ab,hk,ei,es]|decide|refine sp ?_ ?_<;>intro _
    exact aU (by simp [AV.ren,AV.renL])
  .have ei:dx xn (m.miles.length:Int)=false:=by unfold dx;rw [Oi];simp only [NQ];omega
   have eR:dD m s (true,xn)=s:=by
    have:cE m (true,xn)=none:=by
     simp only [cE,if_true];split
     .rw [NN (by omega)];try rfl
     .rfl
    simp [dD,this]
   rw [eR]
   repeat' first|refine go ?_|decide|refine sp ?_ ?_<;>intro _
   refine aA (by kernel_rfl) ?_
   repeat' first|refine go ?_|decide|refine sp ?_ ?_<;>intro _
   refine aL (dl _ _) ?_
   repeat' first|refine ge ei ?_|decide|refine sp ?_ ?_<;>intro _
   exact aU (by simp [AV.ren,AV.renL])
 | false=>
  by_cases hin:0<=xn /\ xn<(m.guards.length:Int)
  .obtain ⟨k,rfl⟩:∃ k:Nat,xn=(k:Int):=⟨xn.toNat,by omega⟩;have hk:k<m.guards.length:=(by omega);have ei:dx (k:Int) (m.guards.length:Int)=true:=by simp [dx];omega
   by_cases hst:0<=m.guards[k].stage /\ m.guards[k].stage<(m.stages.length:Int)
   .have es:dx m.guards[k].stage (m.stages.length:Int)=true:=by unfold dx;simp;omega
    have hs2:zy m m.guards[k].stage=true:=by unfold zy;simp;omega
    have eR:dD m s (false,(k:Int))={ s with opn:=cY s.opn m.guards[k].stage,don:=rF m.miles m.guards[k].stage s.don m.miles.length }:=by
     simp [dD,cE,hk,hs2]
    rw [eR,<- Ku hd];generalize hstg:m.guards[k].stage=st at hst es hs2;have hput:=qR s.opn st true (cF ho) hst.1 (by omega);simp only [if_true] at hput
    repeat' first|refine go ?_|simp only [ab,hk]|decide|refine sp ?_ ?_<;>intro _
    refine aA (by kernel_rfl) ?_
    repeat' first|refine go ?_|simp only [ab,hk]|decide|refine sp ?_ ?_<;>intro _
    refine aL (dl _ _) ?_
    repeat' first|refine go ?_|simp only [ab,hk,ei,hstg]|decide|refine sp ?_ ?_<;>intro _
    refine aL (dl _ _) ?_
    repeat' first|refine go ?_|simp only [ab,hk,ei,es,hstg]|decide|refine sp ?_ ?_<;>intro _
    refine aw hput ?_
    repeat' first|refine go ?_|decide|refine sp ?_ ?_<;>intro _
    refine ce (F2 s.don (cF hd)) (.inr iu) ?_
    repeat' first|refine go ?_|decide|refine sp ?_ ?_<;>intro _
    rw [<- sV s.don (qB m st)];refine ae (fun s'=>∃ i:Nat,i<=m.miles.length /\ s'=⟨148,[(3,.op 0 0 0),(4,.op 1 0 0),(6,.op 2 0 0),(10,eI st),(11,.osl 3),(12,eI (i:Int))],[(0,some (.box 32 (aQ m))),(1,some (.box 106 (il { s with opn:=cY s.opn st }))),(2,some (.box 106 [.c (.slice none 0 0),eI 0,eI 0,.c (.slice none 0 0),.c (.slice none 0 0)])),(3,some (.row 4 1 ((dG s.don (gv (qB m st) i)).map fun b=>[eB b])))],4⟩) (fun s'=>m.miles.length - aq s' 12) ⟨_,(wR [0,1,3,4]),0,Nv _,rfl⟩ ?_;rintro _ ⟨i,hi,rfl⟩;have hml31:=vt s.don (gv (qB m st) i);by_cases hlt:i<m.miles.length
    .have hi31:i<(dG s.don (gv (qB m st) i)).length:=(by omega);have hset:(((dG s.don (gv (qB m st) i)).map fun b=>[eB b]).set i [eB false])=((dG s.don (gv (qB m st) i)).set i false).map fun b=>[eB b]:=(by rw [Pw])
     repeat' first|refine go ?_|simp only [ab,hlt,hi31]|decide|refine sp ?_ ?_<;>intro _
     .rename_i h;have hq:qB m st i=true:=by simp [qB,hlt];simpa using h
      exact rI (gP (by (first|((simp only [ku,ky,cT,cr,aE.lt,AV.lt,AV.ltL,ia,aj.get,aX,aj.put,↓reduceIte,reduceCtorEq,Nat.reduceLT,Nat.reduceEqDiff,Nat.reduceAdd,Nat.reduceLeDiff,eq_self,implies_true,hset,ry hq])<;>(repeat' apply And.intro)<;>first|(rw [mD (by omega)];done)|(simp;done)|omega)|fail))) ⟨i+1,by omega,rfl⟩
     .rename_i h;have hq:qB m st i=false:=by simp [qB,hlt];simpa using h
      exact rI (gP (by (first|((simp only [ku,ky,cT,cr,aE.lt,AV.lt,AV.ltL,ia,aj.get,aX,aj.put,↓reduceIte,reduceCtorEq,Nat.reduceLT,Nat.reduceEqDiff,Nat.reduceAdd,Nat.reduceLeDiff,eq_self,implies_true,Ak hq])<;>(repeat' apply And.intro)<;>first|(rw [mD (by omega)];done)|(simp;done)|omega)|fail))) ⟨i+1,by omega,rfl⟩
    .obtain rfl:i=m.miles.length:=by omega
     have hsum:=Fw (dG s.don (gv (qB m st) m.miles.length)) (by omega);rw [hml31] at hsum
     repeat' first|refine go ?_|simp only [ab,hlt]|decide|refine sp ?_ ?_<;>intro _
     refine aw (by exact hsum) ?_
     repeat' first|refine go ?_|decide|refine sp ?_ ?_<;>intro _
     exact aU (by simp [AV.ren,AV.renL])
   .have es:dx m.guards[k].stage (m.stages.length:Int)=false:=by unfold dx;rw [Oi];simp only [NQ];omega
    have eR:dD m s (false,(k:Int))=s:=by
     have:zy m m.guards[k].stage=false:=by unfold zy;rw [Oi];simp only [NQ];omega
     simp [dD,cE,hk,this]
    rw [eR]
    repeat' first|refine go ?_|simp only [ab,hk]|decide|refine sp ?_ ?_<;>intro _
    refine aA (by kernel_rfl) ?_
    repeat' first|refine go ?_|simp only [ab,hk]|decide|refine sp ?_ ?_<;>intro _
    refine aL (dl _ _) ?_
    repeat' first|refine go ?_|simp only [ab,hk,ei]|decide|refine sp ?_ ?_<;>intro _
    refine aL (dl _ _) ?_
    repeat' first|refine go ?_|simp only [ab,hk,ei,es]|decide|refine sp ?_ ?_<;>intro _
    exact aU (by simp [AV.ren,AV.renL])
  .have ei:dx xn (m.guards.length:Int)=false:=by unfold dx;rw [Oi];simp only [NQ];omega
   have eR:dD m s (false,xn)=s:=by
    have:cE m (false,xn)=none:=by
     simp only [cE,Ox,if_false];split
     .rw [NN (by omega)];try rfl
     .rfl
    simp [dD,this]
   rw [eR]
   repeat' first|refine go ?_|decide|refine sp ?_ ?_<;>intro _
   refine aA (by kernel_rfl) ?_
   repeat' first|refine go ?_|decide|refine sp ?_ ?_<;>intro _
   refine aL (dl _ _) ?_
   repeat' first|refine ge ei ?_|decide|refine sp ?_ ?_<;>intro _
   exact aU (by simp [AV.ren,AV.renL])
theorem zR (m:bb) (s:St) (x:Bool × Int) (h:ci s.opn /\ ci s.don):ci (dD m s x).opn /\ ci (dD m s x).don:=by
 unfold dD;split
 .split
  .split
   .exact ⟨tj _ _ h.1,ne _ _⟩
   .exact ⟨ne _ _,t7 _ _ _ h.2 _⟩
  .exact h
 .exact h
theorem GZ (m:bb) (event:Int) (s:St) (x:Bool × Int) (h:ci s.opn /\ ci s.don):ci (gl m event s x).opn /\ ci (gl m event s x).don:=by
 unfold gl;split
 .exact zR m s x h
 .exact h
theorem qt (m:bb) (event:Int):∀ (l:List (Bool × Int)) (s:St),ci s.opn /\ ci s.don -> ci (l.foldl (gl m event) s).opn /\ ci (l.foldl (gl m event) s).don
 | [],s,h=>h
 | x :: l,s,h=>qt m event l _ (GZ m event s x h)
theorem MR (s:St):(⟨.agg (il s),[],0⟩:cG).Ok:=⟨fun id o h=>(by cases h),⟨trivial,trivial,trivial,trivial,trivial,trivial⟩⟩
theorem Fu (m:bb) (s:St) (event:Int) (hf:rL m) (hp:∀ p ∈ m.stages,aB p.2) (ho:ci s.opn) (hd:ci s.don):ax Tryz.prog 119 [.agg (aQ m),.agg (il s),eI event] ⟨.agg (il (j9 m event s m.order.length)),[],0⟩:=by
 refine aa ah Tryz.func119 rfl (by decide) Tryz.ntmps119 Tryz.results119 rfl (MR _) ?_
 repeat' first|refine go ?_|decide|refine sp ?_ ?_<;>intro _
 have hol:m.order.length<=40:=hf.sizes.2.2.2.2.2.2.2.2.1;have e0:j9 m event s 0=s:=rfl;refine ae (fun s'=>∃ k:Nat,k<=m.order.length /\ s'=⟨33,[(2,eI event),(3,.op 0 0 0),(4,.op 1 0 0),(6,.op 2 0 0),(7,eI (k:Int))],[(0,some (.box 32 (aQ m))),(1,some (.box 106 (il (j9 m event s k)))),(2,some (.box 106 [.c (.slice none 0 0),eI 0,eI 0,.c (.slice none 0 0),.c (.slice none 0 0)]))],3⟩) (fun st=>m.order.length - aq st 7) ⟨_,(wE e0),0,Nv _,rfl⟩ ?_;rintro _ ⟨k,hk,rfl⟩;by_cases hlt:k<m.order.length
 .have ef:j9 m event s (k+1)=gl m event (j9 m event s k) m.order[k]:=Bd _ _ _ hlt;have hv:=qt m event (m.order.take k) s ⟨ho,hd⟩
  change ci (j9 m event s k).opn /\ ci (j9 m event s k).don at hv
  repeat' first|refine go ?_|simp only [ab,hlt]|decide|refine sp ?_ ?_<;>intro _
  generalize j9 m event s k=t at ef hv ⊢;refine aA (by kernel_rfl) ?_;obtain ⟨x,hx⟩:∃ x,m.order[k]=x:=⟨_,rfl⟩;rw [hx] at ef
  repeat' first|refine go ?_|simp only [ab,hlt,hx]|decide|refine sp ?_ ?_<;>intro _
  refine aL (sE m t x.1 x.2 event hf (cF hv.1) (cF hv.2)) ?_
  repeat' first|refine go ?_|decide|refine sp ?_ ?_<;>intro _
  .rename_i h;have e1:gl m event t x=dD m t x:=ND h;rw [e1] at ef;refine yT 7 (by kernel_rfl) ?_
   repeat' first|refine go ?_|simp only [ab,hlt,hx]|decide|refine sp ?_ ?_<;>intro _
   refine bI (wY m t x.1 x.2 hf hp hv.1 hv.2) (ro) ?_
   repeat' first|refine go ?_|decide|refine sp ?_ ?_<;>intro _
   exact rI (wE ef) ⟨k+1,by omega,rfl⟩
  .rename_i h;have e1:gl m event t x=t:=Ny (by rw [show (x:Bool × Int)=(x.1,x.2) from rfl,h];simp);rw [e1] at ef;exact rI (wE ef) ⟨k+1,by omega,rfl⟩
 .obtain rfl:k=m.order.length:=by omega
  repeat' first|refine go ?_|simp only [ab,hlt]|decide|refine sp ?_ ?_<;>intro _
  exact aU (by simp only [AV.ren,AV.renL])
end
section
def mM (f:Nat -> Bool):Nat -> Bool
 | 0=>true
 | n+1=>mM f n && f n
def dV (f:Nat -> Bool):Nat -> Bool
 | 0=>false
 | n+1=>dV f n || f n
theorem vp (f:Nat -> Bool):∀ n,mM f n=true ↔ ∀ i,i<n -> f i=true
 | 0=>by simp [mM]
 | n+1=>by
  rw [mM,NU,vp f n];constructor
  .intro ⟨h1,h2⟩ i hi;rcases NP i n with h|h
   .exact h1 i h
   .obtain rfl:i=n:=by omega
    exact h2
  .exact fun h=>⟨fun i hi=>h i (by omega),h n (by omega)⟩
theorem nc (f:Nat -> Bool):∀ n,dV f n=true ↔ ∃ i,i<n /\ f i=true
 | 0=>by simp [dV]
 | n+1=>by
  rw [dV,PE,nc f n];constructor
  .rintro (⟨i,h1,h2⟩ | h)
   .exact ⟨i,by omega,h2⟩
   .exact ⟨n,by omega,h⟩
  .rintro ⟨i,h1,h2⟩;rcases NP i n with h|h
   .exact .inl ⟨i,h,h2⟩
   .obtain rfl:i=n:=by omega
    exact .inr h2
theorem qs {f:Nat -> Bool} {k n:Nat} (hk:k<n) (h:f k=true):dV f n=true:=(nc f n).2 ⟨k,hk,h⟩
theorem nJ {f:Nat -> Bool} {k:Nat} (h1:dV f k=false) (h:f k=false):dV f (k+1)=false:=by simp [dV,h1,h]
def l5 (n:Int):Int:=2 ^ (max 0 (min n 31)).toNat - 1
def BQ (s n:Int):Bool:=decide (0<=s) && decide (s<=l5 n)
def vM (m:bb) (s:St) (i:Nat):Bool:=BQ (s.did.getD i 0) m.users.length && decide (0<=s.cnt.getD i 0) && decide (s.cnt.getD i 0<=(m.events[i]?.map (·.times)).getD 0)
def uZ (m:bb) (s:St):Bool:=decide (s.vals.length=m.attrs.length) && decide (s.did.length=m.events.length) && decide (s.cnt.length=m.events.length) && BQ s.opn m.stages.length && BQ s.don m.miles.length && mM (vM m s) m.events.length
def jM (m:bb) (s:St) (k:Nat):Bool:=(m.miles[k]?.map (·.final)).getD false && bk s.don (k:Int)
def f4 (m:bb) (s:St):Bool:=dV (jM m s) m.miles.length
def xo (l:List Int) (i:Int):Int:=if 0<=i /\ i<(l.length:Int) then l.getD i.toNat 0 else 0
def Gr (m:bb) (role user:Int):Bool:=decide (0<=role) && decide (role<(m.roles.length:Int)) && decide (0<=user) && decide (user<(m.users.length:Int)) && ((m.roles[role.toNat]?).map (fun p=>bk p.2 user)).getD false
def m8 (m:bb) (s:St) (event user:Int) (k:Nat):Bool:=((m.sods[k]?).map (fun x=>((x.1 == event) && bk (xo s.did x.2) user) || ((x.2 == event) && bk (xo s.did x.1) user))).getD false
def Dn (m:bb) (s:St) (event user:Int):Bool:=dV (m8 m s event user) m.sods.length
noncomputable def FS0 (m:bb) (event:Int):Option Ev:=if 0<=event then m.events[event.toNat]? else none
noncomputable def kr (m:bb) (s:St) (event user:Int):Bool:=
 match FS0 m event with
 | none=>false
 | some x=>!f4 m s && decide (x.stage<(m.stages.length:Int)) && bk s.opn x.stage && Gr m x.role user && (decide (x.times<=0) || decide (xo s.cnt event<x.times))
noncomputable def gj (m:bb) (s:St) (event user:Int):Bool:=kr m s event user && !Dn m s event user
def fC (f:Nat -> Bool):Nat -> List Int
 | 0=>[]
 | n+1=>if f n=true then fC f n ++ [(n:Int)] else fC f n
theorem nS (f:Nat -> Bool):∀ n,(fC f n).length<=n
 | 0=>by simp [fC]
 | n+1=>by
  have:=nS f n;unfold fC;split
  .simp;omega
  .omega
noncomputable def eW (m:bb) (s:St) (event:Int):List Int:=fC (fun u=>gj m s event (u:Int)) m.users.length
end
section
section
variable {P:Program} {f:FuncId} {args:List AV}
theorem GU {cx:Cx} {w':World} {L:Nat -> Value} {v:Value} {R:cG} (h5:R.Ok) (h7:im cx w' R.tab L) (h8:bx cx w' R.tab L v R.r) (id:Nat):(R.frz id).Ok /\ im cx w' (R.frz id).tab L /\ bx cx w' (R.frz id).tab L v (R.frz id).r:=by
 unfold cG.frz;split
 .rename_i e' sz rows hid;obtain ⟨h9,h10⟩:=qJ h7 (fun k o hk=>(h5.young k o hk).2) hid;refine ⟨⟨fun k o hk=>?_,lR h5.lt⟩,h9,h10 v _ h8 h5.lt⟩;simp only [af.gc,cz] at hk;split at hk
  .cases hk
  .cases hg:R.tab.get k with
   | none=>simp [hg] at hk
   | some o'=>
    simp [hg] at hk;subst hk;exact ⟨(h5.young k o' hg).1,lQ (h5.young k o' hg).2⟩
 .exact ⟨h5,h7,h8⟩
theorem wa {cx:Cx} {w':World} {L:Nat -> Value} {v:Value}:∀ (ids:List Nat) {R:cG},R.Ok -> im cx w' R.tab L -> bx cx w' R.tab L v R.r -> (R.frzs ids).Ok /\ im cx w' (R.frzs ids).tab L /\ bx cx w' (R.frzs ids).tab L v (R.frzs ids).r
 | [],R,h1,h2,h3=>⟨h1,h2,h3⟩
 | id :: ids,R,h1,h2,h3=>by
  obtain ⟨h4,h5,h6⟩:=GU h1 h2 h3 id;exact wa ids h4 h5 h6
inductive ns:AV -> AV -> Prop
 | one {a b:AV} (h:rd a b):ns a b
 | tup {l l':List AV} (h:ow l l'):ns (.tup l) (.tup l')
theorem DZ {w:World} {S:Nat -> Prop} {K:Nat -> Option (Nat × Value)} {x:Value} {av:AV} (h:RV w S K x av):av.lt 0 -> RT w S x av:=by
 induction h with
 | tree h=>exact fun _=>h
 | osl x id h=>exact fun h2=>by simp [AV.lt] at h2
 | op x id i j h=>exact fun h2=>by simp [AV.lt] at h2
 | agg xs cs hn hr ih=>
  intro h2;simp only [AV.lt] at h2;exact .agg xs cs hn fun j x av h3 h4=>ih j x av h3 h4 (ag.1 h2 av (Nr h4))
 | tup xs cs hn hr ih=>
  intro h2;simp only [AV.lt] at h2;exact .tup xs cs hn fun j x av h3 h4=>ih j x av h3 h4 (ag.1 h2 av (Nr h4))
 | fn f xs cs hn hr ih=>
  intro h2;simp only [AV.lt] at h2;exact .fn f xs cs hn fun j x av h3 h4=>ih j x av h3 h4 (ag.1 h2 av (Nr h4))
 | bfn f xs cs hn hr ih=>
  intro h2;simp only [AV.lt] at h2;exact .bfn f xs cs hn fun j x av h3 h4=>ih j x av h3 h4 (ag.1 h2 av (Nr h4))
theorem RT.tup_inv {w:World} {S:Nat -> Prop} {x:Value} {cs:List AV} (h:RT w S x (.tup cs)):∃ xs:Array Value,x=.tuple xs /\ xs.size=cs.length /\ ∀ (j:Nat) (x:Value) (av:AV),xs[j]? = some x -> cs[j]? = some av -> RT w S x av:=by
 cases h with
 | tup xs _ hn hr=>exact ⟨xs,rfl,hn,hr⟩
theorem ns.rt {w:World} {S:Nat -> Prop} {v:Value} {a b:AV} (h:ns a b) (hr:RT w S v a):RT w S v b:=by
 cases h with
 | one h=>exact h.rt hr
 | @tup l l' h=>
  obtain ⟨xs,rfl,hn,hx⟩:=hr.tup_inv;obtain ⟨h1,h2⟩:=h.spec;refine .tup xs l' (by omega) fun j x av h3 h4=>?_
  have hj:j<l.length:=by
   have:=(Nw.1 h4).1;omega
  have h5:l[j]? = some l[j]:=Nq hj;exact (h2 j _ av h5 h4).rt (hx j x _ h3 h5)
theorem jW {R:cG} (h1:cr R.n R.tab) (h2:R.r.lt R.n):R.Ok:=by
 refine ⟨?_,h2⟩;revert h1;generalize R.tab=T
 induction T with
 | nil=>exact fun _ id o h=>by cases h
 | cons p T ih=>
  obtain ⟨k,ob⟩:=p;intro h1 id o h;rw [af.gc] at h
  cases ob with
  | none=>
   simp only [cr] at h1;split at h
   .cases h
   .exact ih h1 id o h
  | some ob=>
   simp only [cr] at h1;split at h
   .rename_i e;cases h;exact ⟨by rw [e];exact h1.1.1,h1.1.2⟩
   .exact ih h1.2 id o h
theorem dn.tree {Post:cG -> Prop} {r':AV} (h:dn P f args Post) (hl:r'.lt 0) (hp:∀ R,Post R -> ∃ ids,(R.frzs ids).r.lt 0 /\ ns (R.frzs ids).r r'):ax P f args ⟨r',[],0⟩:=
 ⟨h.1,fun S w vs h1 h2 h3=>(h.2 S w vs h1 h2 h3).mono fun e w' ⟨v,L,R,h4,h5,h6,h7,h8⟩=>by
  obtain ⟨ids,ha,hc⟩:=hp R h4;obtain ⟨h9,h10,h11⟩:=wa ids h5 h7 h8;have hext:kP (Cx.mk0 S w h1) w' (R.frzs ids).tab L 0 w' [] L:=⟨fun _ _=>rfl,fun b hb=>⟨hb.1,hb.2.1,fun k o hk=>(by cases hk)⟩,fun k p _ hk=>by simp [Kx,af.get] at hk⟩;have h12:=DZ (hext.rv h11 ha) ha;exact ⟨v,L,⟨r',[],0⟩,rfl,⟨fun id o hk=>(by cases hk),hl⟩,h6,⟨h10.below,fun id o hk=>(by cases hk),fun id id' o o' g hk=>(by cases hk),fun b hb=>hb.elim⟩,.tree (hc.rt h12)⟩⟩
end
theorem tv {P:Program} {f:FuncId} {args:List AV} {e:TypeId} {sz:Nat} {rows:List (List AV)} (h:dn P f args fun R=>R=ic e sz rows \/ (R=val (.slice none 0 0) /\ rows=[])):ax P f args ⟨.sl sz rows,[],0⟩:=
 h.tree (by simp [AV.lt]) fun R hR=>by
  rcases hR with rfl|⟨rfl,rfl⟩
  .refine ⟨[0],?_⟩;have e:((ic e sz rows).frzs [0]).r=.sl sz rows:=(by simp [cG.frzs,cG.frz,ic,af.gc,AV.frz]);rw [e];exact ⟨trivial,.one (.one (.refl _))⟩
  .exact ⟨[],trivial,.one (.one (.nil sz))⟩
def jI (m:bb):St:=⟨m.inits,0,0,List.replicate m.events.length 0,List.replicate m.events.length 0⟩
def dt (m:bb):cG:=⟨.agg [sI m.inits,eI 0,eI 0,.osl 0,.osl 1],[(0,some (.row 3 1 ((List.replicate m.events.length 0).map fun n=>[eI n]))),(1,some (.row 3 1 ((List.replicate m.events.length 0).map fun n=>[eI n])))],2⟩
end
section
def dr (m:bb):St:=j9 m (-1) (jI m) m.order.length
theorem CC (m:bb) (hl:m.inits.length<=1000000) (hl2:m.events.length<=1000000):ax Tryz.prog 120 [.agg (aQ m)] ⟨.agg (il (jI m)),[],0⟩:=by
 refine ax.still (R:=⟨.agg [.osl 2,eI 0,eI 0,.osl 0,.osl 1],(2,some (.row 2 1 (m.inits.map fun n=>[eI n]))) :: (dt m).tab,3⟩) [0,1,2] ?_ ?_ (by simp [AV.lt,AV.ltL])
 .refine aa ah Tryz.func120 rfl (by decide) Tryz.ntmps120 Tryz.results120 rfl (jW (by simp [dt,cr,aE.lt,AV.ltL,AV.lt]) (by simp [AV.lt,AV.ltL])) ?_
  repeat' first|refine go ?_|decide|refine sp ?_ ?_<;>intro _
  refine aD [1] [1,2,4,6] (.three 0 (.three 3 (.two 5 (.exec 7 (.take 8 (.exec 9 .done))) 7 (.exec 5 (.take 8 (.exec 9 .done)))) 5 (.two 3 (.exec 7 (.take 8 (.exec 9 .done))) 7 (.exec 3 (.take 8 (.exec 9 .done)))) 7 (.two 3 (.exec 5 (.take 8 (.exec 9 .done))) 5 (.exec 3 (.take 8 (.exec 9 .done))))) 5 (.two 0 (.two 3 (.exec 7 (.take 8 (.exec 9 .done))) 7 (.exec 3 (.take 8 (.exec 9 .done)))) 7 (.exec 0 (.exec 3 (.take 8 (.exec 9 .done))))) 7 (.two 0 (.two 3 (.exec 5 (.take 8 (.exec 9 .done))) 5 (.exec 3 (.take 8 (.exec 9 .done)))) 5 (.exec 0 (.exec 3 (.take 8 (.exec 9 .done)))))) (by kernel_rfl) (by simp [af.gc]) ?_
  repeat' first|refine gq ?_|decide|refine sp ?_ ?_<;>intro _|(with_reducible apply And.intro)
  all_goals first
   | omega
   | rfl
   | exact ⟨[2,3,4],by decide,rfl,by simp [cb,dt,af.gc]⟩
   | exact ⟨[2,3,5],by decide,rfl,by simp [cb,dt,af.gc]⟩
   | exact ⟨[2,4,3],by decide,rfl,by simp [cb,dt,af.gc]⟩
   | exact ⟨[2,4,5],by decide,rfl,by simp [cb,dt,af.gc]⟩
   | exact ⟨[2,5,3],by decide,rfl,by simp [cb,dt,af.gc]⟩
   | exact ⟨[2,5,4],by decide,rfl,by simp [cb,dt,af.gc]⟩
   | exact ⟨[3,2,4],by decide,rfl,by simp [cb,dt,af.gc]⟩
   | exact ⟨[3,2,5],by decide,rfl,by simp [cb,dt,af.gc]⟩
   | exact ⟨[3,4,5],by decide,rfl,by simp [cb,dt,af.gc]⟩
   | exact ⟨[3,5,4],by decide,rfl,by simp [cb,dt,af.gc]⟩
   | exact ⟨[4,2,5],by decide,rfl,by simp [cb,dt,af.gc]⟩
   | exact ⟨[4,3,5],by decide,rfl,by simp [cb,dt,af.gc]⟩
   | exact ⟨[4,5,3],by decide,rfl,by simp [cb,dt,af.gc]⟩
   | exact ⟨[5,2,4],by decide,rfl,by simp [cb,dt,af.gc]⟩
   | exact ⟨[5,4,3],by decide,rfl,by simp [cb,dt,af.gc]⟩
   | exact ⟨[5,3,4],by decide,rfl,by simp [cb,dt,af.gc]⟩
 .simp [dt,jI,cG.frzs,cG.frz,af.gc,AV.frz,AV.frzL,bE,aE.frz]
theorem Cf (m:bb) (hf:rL m) (hp:∀ p ∈ m.stages,aB p.2):ax Tryz.prog 79 [.agg (aQ m)] ⟨.agg (il (dr m)),[],0⟩:=by
 refine aa ah Tryz.func79 rfl (by decide) Tryz.ntmps79 Tryz.results79 rfl (MR _) ?_;obtain ⟨-,-,-,hel,-,-,-,-,-,hil⟩:=id hf.sizes;have z:ci 0:=by unfold ci;omega
 repeat' first|refine go ?_|decide|refine sp ?_ ?_<;>intro _
 refine aD [1] [0,1] (.exec 2 (.exec 3 (.exec 4 .done))) (by kernel_rfl) (by simp [af.gc]) ?_
 repeat' first|refine gq ?_|decide|refine sp ?_ ?_<;>intro _|((with_reducible apply bI (g:=120));exact (CC _ (by omega) (by omega));exact (ro))|((with_reducible apply bI (g:=119));exact (Fu m (jI m) (-1) hf hp z z);exact (ro))
 exact aU (by simp [AV.ren,AV.renL,dr])
end
section
noncomputable def yY (m:bb) (s:St):Bool:=dV (fun e=>dV (fun u=>gj m s (e:Int) (u:Int)) m.users.length) m.events.length
theorem pg {r' av:AV} {st:aj} (hr:av.ren []=av) (hl:av.lt 0) (hf:ns av r'):∃ R:cG,(∃ ids,(R.frzs ids).r.lt 0 /\ ns (R.frzs ids).r r') /\ R.Ok /\ dw R st av:=⟨⟨av,[],0⟩,⟨[],hl,hf⟩,⟨fun id o h=>(by cases h),hl⟩,aU hr⟩
end
section
theorem fj (m:bb) (s:St) (hl:m.miles.length<=1000000) (hd:aB s.don):ax Tryz.prog 94 [.agg (aQ m),.agg (il s)] (val (.bool (f4 m s))):=by
 refine aa ah Tryz.func94 rfl (by decide) Tryz.ntmps94 Tryz.results94 rfl (aH _) ?_
 repeat' first|refine gq ?_|decide|refine sp ?_ ?_<;>intro _
 unfold f4;refine ae (fun st=>∃ k:Nat,k<=m.miles.length /\ dV (jM m s) k=false /\ st=⟨25,[(2,.op 0 0 0),(3,.op 1 0 0),(5,eI (k:Int))],[(0,some (.box 32 (aQ m))),(1,some (.box 106 (il s)))],2⟩) (fun st=>m.miles.length - aq st 5) ⟨_,wC,0,Nv _,rfl,rfl⟩ ?_;rintro _ ⟨k,hk,hI,rfl⟩;by_cases hlt:k<m.miles.length
 .have eF:jM m s k=(m.miles[k].final && bk s.don (k:Int)):=by simp [jM,hlt]
  repeat' first|refine gq ?_|simp only [ab,hlt]|decide|refine sp ?_ ?_<;>intro _|((with_reducible first|apply aw (g:=92)|apply aL (g:=92));exact (cL _ _ hd))
  all_goals first
   | (symm;refine qs hlt ?_;rw [eF];grind)
   | exact rI wC ⟨k+1,by omega,nJ hI (by rw [eF];grind),rfl⟩
 .obtain rfl:k=m.miles.length:=by omega
  repeat' first|refine gf @hlt ?_|decide|refine sp ?_ ?_<;>intro _
  exact hI.symm
theorem mc (n most:Int):ax Tryz.prog 136 [eI n,eI most] (val (.bool (dx n most))):=by
 refine aa ah Tryz.func136 rfl (by decide) Tryz.ntmps136 Tryz.results136 rfl (aH _) ?_;unfold dx
 repeat' first|refine go ?_|decide|refine sp ?_ ?_<;>intro _
 all_goals grind
theorem t8 (m:bb) (s:St) (event user:Int) (hl:m.miles.length<=1000000) (ho:aB s.opn) (hd:aB s.don) (hr:∀ p ∈ m.roles,aB p.2):ax Tryz.prog 137 [.agg (aQ m),.agg (il s),eI event,eI user] (val (.bool (kr m s event user))):=by
 refine aa ah Tryz.func137 rfl (by decide) Tryz.ntmps137 Tryz.results137 rfl (aH _) ?_;by_cases h:0<=event /\ event<(m.events.length:Int)
 .obtain ⟨k,rfl⟩:∃ k:Nat,event=(k:Int):=⟨event.toNat,by omega⟩;have hk:k<m.events.length:=by omega
  obtain ⟨x,hx⟩:∃ x,m.events[k]=x:=⟨_,rfl⟩;have ee:FS0 m (k:Int)=some x:=by simp [FS0,hk,hx]
  have eR:kr m s k user=(!f4 m s && decide (x.stage<(m.stages.length:Int)) && bk s.opn x.stage && Gr m x.role user && (decide (x.times<=0) || decide (xo s.cnt k<x.times))):=by simp only [kr,ee]
  have eN:¬ 0<=x.stage -> bk s.opn x.stage=false:=fun h=>jm _ _ (by omega);rw [eR];by_cases hc:k<s.cnt.length
  .have eA:xo s.cnt k=s.cnt[k]:=(by simp [xo,hc]);by_cases hro:0<=x.role /\ x.role<(m.roles.length:Int)
   .obtain ⟨q,hq⟩:∃ q:Nat,x.role=(q:Int):=⟨x.role.toNat,by omega⟩;have hq2:q<m.roles.length:=(by omega);have eO:Gr m x.role user=(decide (0<=user) && decide (user<(m.users.length:Int)) && bk m.roles[q].2 user):=(by simp [Gr,hq,hq2]);have hrq:=hr _ (Nt hq2);rw [eA,eO];unfold dx at *
    repeat' first|refine gq ?_|simp only [ab,hk,hx,hc,hq,hq2]|decide|refine sp ?_ ?_<;>intro _|((with_reducible first|apply aw (g:=92)|apply aL (g:=92));exact (cL _ _ ho))|((with_reducible first|apply aw (g:=92)|apply aL (g:=92));exact (cL _ _ hrq))|((with_reducible first|apply aw (g:=94)|apply aL (g:=94));exact (fj _ _ hl hd))|((with_reducible first|apply aw (g:=136)|apply aL (g:=136));exact (mc _ _))
    all_goals (unfold dx at *;grind)
   .have eO:Gr m x.role user=false:=by
     have:(decide (0<=x.role) && decide (x.role<(m.roles.length:Int)))=false:=by
      rw [Oi];simp only [NQ];omega
     simp [Gr,this]
    have eI':dx x.role (m.roles.length:Int)=false:=by unfold dx;grind
    rw [eA,eO]
    repeat' first|refine gq ?_|simp only [ab,hk,hx,hc,eI']|decide|refine sp ?_ ?_<;>intro _|((with_reducible first|apply aw (g:=92)|apply aL (g:=92));exact (cL _ _ ho))|((with_reducible first|apply aw (g:=94)|apply aL (g:=94));exact (fj _ _ hl hd))|((with_reducible first|apply aw (g:=136)|apply aL (g:=136));exact (mc _ _))
    all_goals (unfold dx at *;grind)
  .have eA:xo s.cnt k=0:=by simp [xo];omega
   by_cases hro:0<=x.role /\ x.role<(m.roles.length:Int)
   .obtain ⟨q,hq⟩:∃ q:Nat,x.role=(q:Int):=⟨x.role.toNat,by omega⟩;have hq2:q<m.roles.length:=(by omega);have eO:Gr m x.role user=(decide (0<=user) && decide (user<(m.users.length:Int)) && bk m.roles[q].2 user):=(by simp [Gr,hq,hq2]);have hrq:=hr _ (Nt hq2);rw [eA,eO]
    repeat' first|refine gq ?_|simp only [ab,hk,hx,hc,hq,hq2]|decide|refine sp ?_ ?_<;>intro _|((with_reducible first|apply aw (g:=92)|apply aL (g:=92));exact (cL _ _ ho))|((with_reducible first|apply aw (g:=92)|apply aL (g:=92));exact (cL _ _ hrq))|((with_reducible first|apply aw (g:=94)|apply aL (g:=94));exact (fj _ _ hl hd))|((with_reducible first|apply aw (g:=136)|apply aL (g:=136));exact (mc _ _))
    all_goals (unfold dx at *;grind)
   .have eO:Gr m x.role user=false:=by
     have:(decide (0<=x.role) && decide (x.role<(m.roles.length:Int)))=false:=by
      rw [Oi];simp only [NQ];omega
     simp [Gr,this]
    have eI':dx x.role (m.roles.length:Int)=false:=by unfold dx;grind
    rw [eA,eO]
    repeat' first|refine gq ?_|simp only [ab,hk,hx,hc,eI']|decide|refine sp ?_ ?_<;>intro _|((with_reducible first|apply aw (g:=92)|apply aL (g:=92));exact (cL _ _ ho))|((with_reducible first|apply aw (g:=94)|apply aL (g:=94));exact (fj _ _ hl hd))|((with_reducible first|apply aw (g:=136)|apply aL (g:=136));exact (mc _ _))
    all_goals (unfold dx at *;grind)
 .have ee:FS0 m event=none:=by
   unfold FS0;split
   .exact NN (by omega)
   .rfl
  have eR:kr m s event user=false:=by simp only [kr,ee]
  have eI':dx event (m.events.length:Int)=false:=by unfold dx;grind
  rw [eR]
  repeat' first|refine gf eI' ?_|decide|refine sp ?_ ?_<;>intro _|((with_reducible first|apply aw (g:=136)|apply aL (g:=136));exact (mc _ _))
end
end
section
section
theorem y3 (s:St) (event user:Int) (hd:∀ x ∈ s.did,aB x):ax Tryz.prog 93 [.agg (il s),eI event,eI user] (val (.bool (bk (xo s.did event) user))):=by
 refine aa ah Tryz.func93 rfl (by decide) Tryz.ntmps93 Tryz.results93 rfl (aH _) ?_;by_cases h:0<=event /\ event<(s.did.length:Int)
 .obtain ⟨k,rfl⟩:∃ k:Nat,event=(k:Int):=⟨event.toNat,by omega⟩;have hk:k<s.did.length:=by omega
  have eA:xo s.did k=s.did[k]:=by simp [xo,hk]
  have eI':dx (k:Int) (s.did.length:Int)=true:=by unfold dx;simp;omega
  rw [eA]
  repeat' first|refine gq ?_|simp only [ab,hk,eI']|decide|refine sp ?_ ?_<;>intro _|((with_reducible first|apply aw (g:=136)|apply aL (g:=136));exact (mc _ _))|((with_reducible first|apply aw (g:=92)|apply aL (g:=92));exact (cL _ _ (hd _ (Nt hk))))
 .have eA:xo s.did event=0:=by unfold xo;rw [Ny h]
  have eI':dx event (s.did.length:Int)=false:=by unfold dx;grind
  have eB':bk 0 user=false:=by simp [bk]
  rw [eA,eB']
  repeat' first|refine gf eI' ?_|decide|refine sp ?_ ?_<;>intro _|((with_reducible first|apply aw (g:=136)|apply aL (g:=136));exact (mc _ _))
theorem yy (m:bb) (s:St) (event user:Int) (hl:m.miles.length<=1000000) (hl2:m.sods.length<=1000000) (ho:aB s.opn) (hd:aB s.don) (hr:∀ p ∈ m.roles,aB p.2) (hdid:∀ x ∈ s.did,aB x):ax Tryz.prog 126 [.agg (aQ m),.agg (il s),eI event,eI user] (val (.bool (gj m s event user))):=by
 refine aa ah Tryz.func126 rfl (by decide) Tryz.ntmps126 Tryz.results126 rfl (aH _) ?_;unfold gj
 cases hfr:kr m s event user with
 | false=>
  repeat' first|refine gf @hfr ?_|decide|refine sp ?_ ?_<;>intro _|((with_reducible first|apply aw (g:=137)|apply aL (g:=137));exact (t8 m s event user hl ho hd hr))
  rfl
 | true=>
  repeat' first|refine gf @hfr ?_|decide|refine sp ?_ ?_<;>intro _|((with_reducible first|apply aw (g:=137)|apply aL (g:=137));exact (t8 m s event user hl ho hd hr))
  unfold Dn;refine ae (fun st=>∃ k:Nat,k<=m.sods.length /\ dV (m8 m s event user) k=false /\ st=⟨57,[(2,eI event),(3,eI user),(4,.op 0 0 0),(5,.op 1 0 0),(9,eI (k:Int))],[(0,some (.box 32 (aQ m))),(1,some (.box 106 (il s)))],2⟩) (fun st=>m.sods.length - aq st 9) ⟨_,wC,0,Nv _,rfl,rfl⟩ ?_;rintro _ ⟨k,hk,hI,rfl⟩;by_cases hlt:k<m.sods.length
  .obtain ⟨⟨a,b⟩,hx⟩:∃ x,m.sods[k]=x:=⟨_,rfl⟩;have ex:MZ m.sods[k]=[eI a,eI b]:=(by rw [hx]);have eF:m8 m s event user k=(((a == event) && bk (xo s.did b) user) || ((b == event) && bk (xo s.did a) user)):=(by simp [m8,hlt,hx])
   repeat' first|refine ge @hlt ?_|decide|refine sp ?_ ?_<;>intro _
   refine aD [] [0,1,2,3,4,5,6,7,8,9,10,11] (.exec 12 (.exec 13 .done)) (by kernel_rfl) (by simp [af.gc]) ?_
   repeat' first|refine gq ?_|simp only [ab,hlt,ex]|decide|refine sp ?_ ?_<;>intro _|((with_reducible first|apply aw (g:=93)|apply aL (g:=93));exact (y3 s b user hdid))|((with_reducible first|apply aw (g:=93)|apply aL (g:=93));exact (y3 s a user hdid))
   all_goals first
    | (rw [show dV (m8 m s event user) m.sods.length=true from qs hlt (by rw [eF];grind)];rfl)
    | exact rI wC ⟨k+1,by omega,nJ hI (by rw [eF];grind),rfl⟩
  .obtain rfl:k=m.sods.length:=by omega
   repeat' first|refine gf @hlt ?_|decide|refine sp ?_ ?_<;>intro _
   rw [hI];rfl
theorem yK (m:bb) (s:St) (event:Int) (hl:m.miles.length<=1000000) (hl2:m.sods.length<=1000000) (hl3:m.users.length<=1000000) (ho:aB s.opn) (hd:aB s.don) (hr:∀ p ∈ m.roles,aB p.2) (hdid:∀ x ∈ s.did,aB x):ax Tryz.prog 83 [.agg (aQ m),.agg (il s),eI event] (ic 3 1 ((eW m s event).map fun n=>[eI n])):=by
 refine aa ah Tryz.func83 rfl (by decide) Tryz.ntmps83 Tryz.results83 rfl (cB _ _ _) ?_
 repeat' first|refine go ?_|decide|refine sp ?_ ?_<;>intro _
 unfold eW;obtain ⟨f,hf⟩:∃ f:Nat -> Bool,f=fun u:Nat=>gj m s event (u:Int):=⟨_,rfl⟩;rw [<- hf];have e0:fC f 0=[]:=rfl;refine ae (fun st=>∃ k:Nat,k<=m.users.length /\ st=⟨26,[(2,eI event),(3,.op 0 0 0),(4,.op 1 0 0),(7,.osl 2),(8,eI (k:Int))],[(0,some (.box 32 (aQ m))),(1,some (.box 106 (il s))),(2,some (.row 3 1 ((fC f k).map fun n=>[eI n])))],3⟩) (fun st=>m.users.length - aq st 8) ⟨_,((aR 7 3 1 (by simp only [ia,aj.get,aX,aj.put,↓reduceIte,reduceCtorEq,Nat.reduceLT,Nat.reduceEqDiff,Nat.reduceAdd,Nat.reduceLeDiff,eq_self,implies_true,e0,N3])).trans (wS [0,1,2] e0)),0,Nv _,rfl⟩ ?_;rintro _ ⟨k,hk,rfl⟩;have hlen:=nS f k;by_cases hlt:k<m.users.length
 .have hef:gj m s event (k:Int)=f k:=by rw [hf]
  repeat' first|refine gf @hlt ?_|decide|refine sp ?_ ?_<;>intro _|((refine aw (yy m s event (k:Int) hl hl2 ho hd hr hdid) ?_;rw [hef]))
  .rename_i h
   have et:(fC f (k+1)).map (fun n=>[eI n])=(fC f k).map (fun n=>[eI n]) ++ [[eI (k:Int)]]:=by
    rw [fC,ND h];simp
   refine ⟨rfl,by omega,rI (wS [0,1,4] et) ⟨k+1,by omega,rfl⟩⟩
  .rename_i h
   have et:fC f (k+1)=fC f k:=by
    rw [fC,Ny (by simp [h])]
   exact rI (wE et) ⟨k+1,by omega,rfl⟩
 .obtain rfl:k=m.users.length:=by omega
  repeat' first|refine gf @hlt ?_|decide|refine sp ?_ ?_<;>intro _
  exact aO (by simp [af.gc])
theorem sQ (f:Nat -> Bool):∀ n,decide (0<((fC f n).length:Int))=dV f n
 | 0=>rfl
 | n+1=>by
  have:=sQ f n;unfold fC dV;split
  .rename_i h;simp [h]
  .rename_i h;simp only [h,PW,this]
theorem Fx (m:bb) (s:St) (hle:m.events.length<=1000000) (hl:m.miles.length<=1000000) (hl2:m.sods.length<=1000000) (hl3:m.users.length<=1000000) (ho:aB s.opn) (hd:aB s.don) (hr:∀ p ∈ m.roles,aB p.2) (hdid:∀ x ∈ s.did,aB x):ax Tryz.prog 87 [.agg (aQ m),.agg (il s)] (val (.bool (yY m s))):=by
 refine aa ah Tryz.func87 rfl (by decide) Tryz.ntmps87 Tryz.results87 rfl (aH _) ?_
 repeat' first|refine go ?_|decide|refine sp ?_ ?_<;>intro _
 unfold yY;obtain ⟨f,hf⟩:∃ f:Nat -> Bool,f=fun e:Nat=>dV (fun u=>gj m s (e:Int) (u:Int)) m.users.length:=⟨_,rfl⟩;rw [<- hf];refine ae (fun st=>∃ k:Nat,k<=m.events.length /\ dV f k=false /\ st=⟨19,[(2,.op 0 0 0),(3,.op 1 0 0),(5,eI (k:Int))],[(0,some (.box 32 (aQ m))),(1,some (.box 106 (il s)))],2⟩) (fun st=>m.events.length - aq st 5) ⟨_,wC,0,Nv _,rfl,rfl⟩ ?_;rintro _ ⟨k,hk,hI,rfl⟩;by_cases hlt:k<m.events.length
 .have hef:decide (0<((eW m s (k:Int)).length:Int))=f k:=by rw [hf];exact sQ _ _
  repeat' first|refine gf @hlt ?_|decide|refine sp ?_ ?_<;>intro _|((with_reducible apply ce (g:=83));exact (yK m s (k:Int) hl hl2 hl3 ho hd hr hdid);exact (.inr dT))
  all_goals rename_i h
  all_goals simp only [NI,hef] at h
  .symm;exact qs hlt h
  .exact rI wC ⟨k+1,by omega,nJ hI h,rfl⟩
 .obtain rfl:k=m.events.length:=by omega
  repeat' first|refine gf @hlt ?_|decide|refine sp ?_ ?_<;>intro _
  exact hI.symm
end
section
theorem qz (n:Nat):l5 (n:Int)=((2 ^ (min n 31) - 1:Nat):Int):=by
 have h1:(max 0 (min (n:Int) 31)).toNat=min n 31:=by omega
 have h2:0<2 ^ (min n 31):=Nat.two_pow_pos _;unfold l5;rw [h1];generalize min n 31=k at *;have:((2 ^ k:Nat):Int)=(2:Int) ^ k:=by simp
 omega
theorem wX (s:Int) (n:Nat) (hs:0<=s /\ s<2147483648):BQ s (n:Int)=true ↔ ∀ i:Nat,n<=i -> i<31 -> bk s (i:Int)=false:=by
 obtain ⟨q,rfl⟩:∃ q:Nat,s=(q:Int):=⟨s.toNat,by omega⟩;have hq:q<2 ^ 31:=by omega
 have hl:lr (q:Int)=q:=by
  simp only [lr];omega
 unfold BQ;rw [qz];have h2:0<2 ^ (min n 31):=Nat.two_pow_pos _;constructor
 .intro h i h3 h4;simp at h;have hlt:q<2 ^ (min n 31):=by omega
  rw [cQ _ _ h4,hl];refine O0 (NH hlt ?_);exact Od (by omega) (by omega)
 .intro h
  have hlt:q<2 ^ (min n 31):=by
   refine Nat.lt_pow_two_of_testBit _ fun i hi=>?_;by_cases h31:i<31
   .have:=h i (by omega) h31
    rwa [cQ _ _ h31,hl] at this
   .refine O0 (NH hq ?_);exact Od (by omega) (by omega)
  simp;omega
theorem BE (n:Nat):l5 (n:Int)<2147483648:=by
 rw [qz];have:2 ^ (min n 31)<=2 ^ 31:=Od (by omega) (by omega);have h2:0<2 ^ (min n 31):=Nat.two_pow_pos _;omega
theorem nG {s:Int} {n:Nat} (h:BQ s (n:Int)=true):ci s:=by
 unfold BQ at h;simp at h;have:=BE n;unfold ci;omega
theorem qG (s:Int) (n:Nat) (hs:aB s):ax Tryz.prog 149 [eI s,eI (n:Int)] (val (.bool (BQ s (n:Int)))):=by
  refine aa ah Tryz.func149 rfl (by decide) Tryz.ntmps149 Tryz.results149 rfl (aH _) ?_
  repeat' first|refine go ?_|decide|refine sp ?_ ?_<;>intro _
  refine ae (fun st=>∃ k:Nat,k<=31 /\ (∀ i:Nat,n<=i -> i<k -> bk s (i:Int)=false) /\ st=⟨24,[(0,eI s),(1,eI (n:Int)),(5,eI (k:Int))],[],0⟩) (fun st=>31 - aq st 5) ⟨_,wC,0,Nv _,by simp,rfl⟩ ?_;rintro _ ⟨k,hk,hI,rfl⟩;by_cases hlt:k<31
  . have h31:(k:Int)<31:=by omega
    repeat' first|refine gf h31 ?_|decide|refine sp ?_ ?_<;>intro _|((with_reducible first|apply aw (g:=92)|apply aL (g:=92));exact (cL _ _ hs))
    all_goals first
      | (rename_i h1 h2
         simp at h1;symm;rw [OM];intro hof;have:=(wX s n (nG hof)).1 hof k (by omega) hlt;rw [this] at h2;cases h2)
      | (rename_i h1 h2
         simp at h1;refine rI wC ⟨k+1,by omega,fun i hi hi2=>?_,rfl⟩;rcases NP i k with h3|h3
         . exact hI i hi h3
         . obtain rfl:i=k:=by omega
           exact h2)
      | (rename_i h1
         simp at h1;refine rI wC ⟨k+1,by omega,fun i hi hi2=>?_,rfl⟩;exact hI i hi (by omega))
  . obtain rfl:k=31:=by omega
    have h31:(((31:Nat):Int)<31)=False:=by simp
    repeat' first|refine gf h31 ?_|decide|refine sp ?_ ?_<;>intro _
    . rename_i h1;simp at h1;by_cases h2:s<=2147483647
      . rw [(wX s n ⟨h1,by omega⟩).2 hI];simp [h2]
      . have h3:BQ s (n:Int)=false:=by
          rw [OM];intro hof;have:=nG hof;unfold ci at this;omega
        rw [h3];simp [h2]
    . rename_i h1;simp at h1;symm;rw [OM];intro hof;have:=nG hof;unfold ci at this;omega
theorem F9 (m:bb) (s:St) (hl:m.events.length<=1000000) (ho:aB s.opn) (hd:aB s.don) (hdid:∀ x ∈ s.did,aB x):ax Tryz.prog 121 [.agg (aQ m),.agg (il s)] (val (.bool (uZ m s))):=by
 refine aa ah Tryz.func121 rfl (by decide) Tryz.ntmps121 Tryz.results121 rfl (aH _) ?_;by_cases hsz:s.vals.length=m.attrs.length /\ s.did.length=m.events.length /\ s.cnt.length=m.events.length
 .obtain ⟨h1,h2,h3⟩:=hsz;have n1:(((s.vals.length:Nat):Int) != ((m.attrs.length:Nat):Int))=false:=by simp [h1]
  have n2:(((s.did.length:Nat):Int) != ((m.events.length:Nat):Int))=false:=by simp [h2]
  have n3:(((s.cnt.length:Nat):Int) != ((m.events.length:Nat):Int))=false:=by simp [h3]
  have hall:uZ m s=(BQ s.opn m.stages.length && BQ s.don m.miles.length && mM (vM m s) m.events.length):=by simp [uZ,h1,h2,h3]
  rw [hall];obtain ⟨f,hf⟩:∃ f,f=vM m s:=⟨_,rfl⟩;rw [<- hf];have e0:mM f 0=true:=rfl
  have loop:∀ (b0:Bool) (k:Nat),k<m.events.length -> ∀ b,(b0 && mM f k)=b -> (b0 && mM f (k+1))=(b && f k):=fun b0 k hk b hb=>by
   rw [<- hb];simp [mM,Bool.and_assoc]
  repeat' first|refine gf (kf n1 (kf n2 n3)) ?_|decide|refine sp ?_ ?_<;>intro _|((with_reducible first|apply aw (g:=149)|apply aL (g:=149));exact (qG _ _ ho))|((with_reducible first|apply aw (g:=149)|apply aL (g:=149));exact (qG _ _ hd))
  .rename_i h;rw [h,Oq];obtain ⟨b0,hb0⟩:∃ b,BQ s.don m.miles.length=b:=⟨_,rfl⟩;rw [hb0];refine ae (fun st=>∃ k:Nat,k<=m.events.length /\ st=⟨86,[(2,.op 0 0 0),(3,.op 1 0 0),(5,eI (m.events.length:Int)),(6,eB (b0 && mM f k)),(7,eI (k:Int))],[(0,some (.box 32 (aQ m))),(1,some (.box 106 (il s)))],2⟩) (fun st=>m.events.length - aq st 7) ⟨_,(wE (kf hb0 (kf e0 @Bool.and_true))),0,Nv _,rfl⟩ ?_;rintro _ ⟨k,hk,rfl⟩;by_cases hlt:k<m.events.length
   .have hd':k<s.did.length:=(by omega);have hc:k<s.cnt.length:=(by omega);have eF:f k=(BQ s.did[k] m.users.length && decide (0<=s.cnt[k]) && decide (s.cnt[k]<=m.events[k].times)):=by rw [hf];simp [vM,hd',hc,hlt]
    have hs:=loop b0 k hlt;obtain ⟨b,hb⟩:∃ b,(b0 && mM f k)=b:=⟨_,rfl⟩;have hs:=hs b hb;rw [hb]
    repeat' first|refine gq ?_|simp only [ab,hlt,hd',hc]|decide|refine sp ?_ ?_<;>intro _|((with_reducible first|apply aw (g:=149)|apply aL (g:=149));exact (qG _ _ (hdid _ (Nt hd'))))
    .have hv:(b0 && mM f (k+1))=decide (s.cnt[k]<=m.events[k].times):=(by grind);exact rI (wE hv) ⟨k+1,by omega,rfl⟩
    all_goals
     have hv:(b0 && mM f (k+1))=false:=(by grind);exact rI (wE hv) ⟨k+1,by omega,rfl⟩
   .obtain rfl:k=m.events.length:=by omega
    repeat' first|refine gf @hlt ?_|decide|refine sp ?_ ?_<;>intro _
  .rename_i h;rw [h];refine ae (fun st=>∃ k:Nat,k<=m.events.length /\ st=⟨86,[(2,.op 0 0 0),(3,.op 1 0 0),(5,eI (m.events.length:Int)),(6,eB false),(7,eI (k:Int))],[(0,some (.box 32 (aQ m))),(1,some (.box 106 (il s)))],2⟩) (fun st=>m.events.length - aq st 7) ⟨_,wC,0,Nv _,rfl⟩ ?_;rintro _ ⟨k,hk,rfl⟩;by_cases hlt:k<m.events.length
   .repeat' first|refine gf @hlt ?_|decide|refine sp ?_ ?_<;>intro _
    all_goals exact rI wC ⟨k+1,by omega,rfl⟩
   .obtain rfl:k=m.events.length:=by omega
    repeat' first|refine gf @hlt ?_|decide|refine sp ?_ ?_<;>intro _
    simp
 .have hall:uZ m s=false:=by
   unfold uZ;rw [OM];simp only [ne_eq,NU,NW]
   grind
  rw [hall]
  repeat' first|refine gq ?_|decide|refine sp ?_ ?_<;>intro _
  all_goals first
   | rfl
   | (exfalso;grind)
end
section
noncomputable def IR (m:bb) (s:St):Bool:=dV (fun i=>bk s.opn (i:Int)) m.stages.length
noncomputable def pw (m:bb) (s:St):Bool:=dV (fun e=>dV (fun u=>kr m s (e:Int) (u:Int)) m.users.length) m.events.length
noncomputable def uE (m:bb) (s:St):Bool:=IR m s && pw m s && !yY m s
theorem B6 (m:bb) (s:St) (h:pw m s=true):f4 m s=false:=by
 unfold pw at h;obtain ⟨e,he,h⟩:=(nc _ _).1 h;obtain ⟨u,hu,h⟩:=(nc _ _).1 h;unfold kr at h;cases hc:f4 m s
 .rfl
 .rw [hc] at h;simp at h;split at h<;>cases h
theorem Ds (m:bb) (s:St) (hst:m.stages.length<=1000000) (hle:m.events.length<=1000000) (hl:m.miles.length<=1000000) (hl2:m.sods.length<=1000000) (hl3:m.users.length<=1000000) (ho:aB s.opn) (hd:aB s.don) (hr:∀ p ∈ m.roles,aB p.2) (hdid:∀ x ∈ s.did,aB x):ax Tryz.prog 95 [.agg (aQ m),.agg (il s)] (val (.bool (uE m s))):=by
 refine aa ah Tryz.func95 rfl (by decide) Tryz.ntmps95 Tryz.results95 rfl (aH _) ?_;obtain ⟨f1,hf1⟩:∃ f:Nat -> Bool,f=fun (i:Nat)=>bk s.opn (i:Int):=⟨_,rfl⟩;obtain ⟨f2,hf2⟩:∃ f:Nat -> Nat -> Bool,f=fun (e u:Nat)=>kr m s (e:Int) (u:Int):=⟨_,rfl⟩;obtain ⟨f3,hf3⟩:∃ f:Nat -> Bool,f=fun e=>dV (f2 e) m.users.length:=⟨_,rfl⟩;have ho1:IR m s=dV f1 m.stages.length:=by rw [hf1];rfl
 have hfr:pw m s=dV f3 m.events.length:=by rw [hf3,hf2];rfl
 repeat' first|refine gq ?_|decide|refine sp ?_ ?_<;>intro _
 refine ae (fun st=>∃ (k:Nat) (b:Bool),k<=m.stages.length /\ b=dV f1 k /\ st=⟨62,[(2,.op 0 0 0),(3,.op 1 0 0),(5,eB b),(6,eB false),(7,eI (k:Int))],[(0,some (.box 32 (aQ m))),(1,some (.box 106 (il s)))],2⟩) (fun st=>m.stages.length - aq st 7) ⟨_,wC,0,false,Nv _,rfl,rfl⟩ ?_;rintro _ ⟨k,b,hk,hb,rfl⟩;by_cases hlt:k<m.stages.length
 .cases b with
  | true=>
   repeat' first|refine gf @hlt ?_|decide|refine sp ?_ ?_<;>intro _
   exact rI wC ⟨k+1,true,by omega,by simp [dV,<- hb],rfl⟩
  | false=>
   have hh:=cL s.opn (k:Int) ho
   repeat' first|refine gf @hlt ?_|decide|refine sp ?_ ?_<;>intro _|refine cA hh ?_|fail
   exact rI wC ⟨k+1,bk s.opn (k:Int),by omega,by rw [dV,<- hb,PX,hf1],rfl⟩
 .obtain rfl:k=m.stages.length:=by omega
  rw [<- ho1] at hb
  repeat' first|refine gf @hlt ?_|decide|refine sp ?_ ?_<;>intro _
  refine ae (fun st=>∃ (e:Nat) (c:Bool),e<=m.events.length /\ c=dV f3 e /\ st=⟨62,[(2,.op 0 0 0),(3,.op 1 0 0),(5,eB b),(6,eB c),(8,eI (e:Int))],[(0,some (.box 32 (aQ m))),(1,some (.box 106 (il s)))],2⟩) (fun st=>m.events.length - aq st 8) ⟨_,wC,0,false,Nv _,rfl,rfl⟩ ?_;rintro _ ⟨e,c,he,hc,rfl⟩;by_cases hle2:e<m.events.length
  .repeat' first|refine gf @hle2 ?_|decide|refine sp ?_ ?_<;>intro _
   refine ae (fun st=>∃ (u:Nat) (d:Bool),u<=m.users.length /\ d=(dV f3 e || dV (f2 e) u) /\ st=⟨62,[(2,.op 0 0 0),(3,.op 1 0 0),(5,eB b),(6,eB d),(8,eI (e:Int)),(9,eI (u:Int))],[(0,some (.box 32 (aQ m))),(1,some (.box 106 (il s)))],2⟩) (fun st=>m.users.length - aq st 9) ⟨_,wC,0,c,Nv _,by simp [dV,hc],rfl⟩ ?_;rintro _ ⟨u,d,hu,hd2,rfl⟩;by_cases hlu:u<m.users.length
   .cases d with
    | true=>
     repeat' first|refine gf @hlu ?_|decide|refine sp ?_ ?_<;>intro _
     exact rI wC ⟨u+1,true,by omega,by simp only [dV,<- Bool.or_assoc,<- hd2,Bool.true_or],rfl⟩
    | false=>
     have hh:=t8 m s (e:Int) (u:Int) hl ho hd hr
     repeat' first|refine gf @hlu ?_|decide|refine sp ?_ ?_<;>intro _|refine cA hh ?_|fail
     exact rI wC ⟨u+1,kr m s (e:Int) (u:Int),by omega,by rw [dV,<- Bool.or_assoc,<- hd2,PX,hf2],rfl⟩
   .obtain rfl:u=m.users.length:=by omega
    repeat' first|refine gf @hlu ?_|decide|refine sp ?_ ?_<;>intro _
    exact rI wC ⟨e+1,d,by omega,by rw [hd2];simp [dV,hf3],rfl⟩
  .obtain rfl:e=m.events.length:=by omega
   rw [<- hfr] at hc;have hsk:uE m s=(b && c && !yY m s):=by unfold uE;rw [hb,hc]
   rw [hsk]
   cases b with
   | false=>(repeat' (first | refine gf (kf @hle2 @Os) ?_ | decide | refine sp ?_ ?_<;>intro _))
   | true=>
    cases c with
    | false=>(repeat' (first | refine gf (kf @hle2 (kf @Os @Oq)) ?_ | decide | refine sp ?_ ?_<;>intro _))
    | true=>
     have hco:=B6 m s hc.symm;have h1:=fj m s hl hd;rw [hco] at h1;have h2:=Fx m s hle hl hl2 hl3 ho hd hr hdid
     repeat' first|refine gf (kf @hle2 @Oq) ?_|decide|refine sp ?_ ?_<;>intro _|refine cA h1 ?_|refine cA h2 ?_|fail
end
section
noncomputable def jF (m:bb) (s:St) (x:al):Option Bool:=
 if x.op=1 then some true else if x.op=2 then some false else if x.op=9 then some (bk s.opn x.n) else if x.op=10 then some (bk s.don x.n)
 else if x.op=11 then some (decide (0<((eW m s x.n).length:Int))) else if x.op=12 then some (bk (xo s.did x.n) x.u)
 else if x.op=13 then some (f4 m s) else if x.op=14 then some (uE m s) else none
noncomputable def qf (m:bb) (s:St) (x:al):Bool:=(jF m s x).getD false
theorem m6 (x:al):ax Tryz.prog 35 [.agg (eD x)] (val (.bool (decide (3<=x.op) && decide (x.op<=8)))):=by
 refine aa ah Tryz.func35 rfl (by decide) Tryz.ntmps35 Tryz.results35 rfl (aH _) ?_
 repeat' first|refine gq ?_|decide|refine sp ?_ ?_<;>intro _
 all_goals grind
theorem Bi (m:bb) (s:St) (x:al) (hst:m.stages.length<=1000000) (hle:m.events.length<=1000000) (hl:m.miles.length<=1000000) (hl2:m.sods.length<=1000000) (hl3:m.users.length<=1000000) (ho:aB s.opn) (hd:aB s.don) (hr:∀ p ∈ m.roles,aB p.2) (hdid:∀ x ∈ s.did,aB x):ax Tryz.prog 37 [.agg (aQ m),.agg (il s),.agg (eD x)] (val (.bool (qf m s x))):=by
 refine aa ah Tryz.func37 rfl (by decide) Tryz.ntmps37 Tryz.results37 rfl (aH _) ?_
 repeat' first|refine gq ?_|decide|refine sp ?_ ?_<;>intro _|((with_reducible apply ce (g:=83));exact (yK m s x.n hl hl2 hl3 ho hd hr hdid);exact (.inr dT))|((with_reducible first|apply aw (g:=93)|apply aL (g:=93));exact (y3 s x.n x.u hdid))|((with_reducible first|apply aw (g:=94)|apply aL (g:=94));exact (fj m s hl hd))|((with_reducible first|apply aw (g:=95)|apply aL (g:=95));exact (Ds m s hst hle hl hl2 hl3 ho hd hr hdid))|((with_reducible first|apply aw (g:=92)|apply aL (g:=92));exact (cL s.opn x.n ho))|((with_reducible first|apply aw (g:=92)|apply aL (g:=92));exact (cL s.don x.n hd))
 all_goals first
  | (simp_all [qf,jF];done)
  | (by_cases h2:x.op=2<;>simp_all [qf,jF])
end
section
end
section
end
section
end
section
theorem GL (x y:Int) (n:List Int) (h:y=x):j5 x (n,true) y=(n,true):=by simp [j5,h]
theorem zW (x y:Int) (n:List Int) (h:y ≠ x):j5 x (n,true) y=(n ++ [y],true):=by simp [j5,h]
theorem GK (x y:Int) (n:List Int) (h1:x<=y) (h:y=x):j5 x (n,false) y=(n ++ [x],true):=by simp [j5,h]
theorem Gl (x y:Int) (n:List Int) (h1:x<=y) (h:y ≠ x):j5 x (n,false) y=((n ++ [x]) ++ [y],true):=by simp [j5,h,h1]
theorem IC (x y:Int) (n:List Int) (h1:¬ x<=y):j5 x (n,false) y=(n ++ [y],false):=by
 have:y ≠ x:=by omega
 simp [j5,h1,this]
end
section
def uh (e:TypeId) (sz:Nat) (rows:List (List AV)) (R:cG):Prop:=R=ic e sz rows \/ R=⟨.sl sz rows,[],0⟩
theorem jT {P:Program} {f:FuncId} {args:List AV} (e:TypeId) {sz:Nat} {rows:List (List AV)} (h:dn P f args (uh e sz rows)):ax P f args ⟨.sl sz rows,[],0⟩:=
 h.tree (by simp [AV.lt]) fun R hR=>by
  rcases hR with rfl|rfl
  .refine ⟨[0],?_⟩;have e:((ic e sz rows).frzs [0]).r=.sl sz rows:=(by simp [cG.frzs,cG.frz,ic,af.gc,AV.frz]);rw [e];exact ⟨trivial,.one (.one (.refl _))⟩
  .exact ⟨[],trivial,.one (.one (.refl _))⟩
theorem BF (x:Int) (O:List Int) (m:Nat):(fD x (O.take m)).1.length<=m+1:=by
 have:=wQ x (O.take m);have h2:=Pu m O;split at this<;>omega
theorem tZ (l:List Int) (hl:l.length<=5000000):ax Tryz.prog 31 [sI l] (ic 2 1 ((bO l).map fun n=>[eI n])):=by
 refine aa ah Tryz.func31 rfl (by decide) Tryz.ntmps31 Tryz.results31 rfl (cB _ _ _) ?_
 repeat' first|refine go ?_|decide|refine sp ?_ ?_<;>intro _
 refine ae (fun st=>∃ k:Nat,k<=l.length /\ st=⟨67,[(0,sI l),(3,.osl 0),(4,eI (k:Int))],[(0,some (.row 2 1 ((bO (l.take k)).map fun n=>[eI n])))],1⟩) (fun st=>l.length - aq st 4) ⟨_,((aR 3 2 1 (by simp only [ia,aj.get,aX,aj.put,↓reduceIte,reduceCtorEq,Nat.reduceLT,Nat.reduceEqDiff,Nat.reduceAdd,Nat.reduceLeDiff,eq_self,implies_true,NJ,bO,OW,N3])).trans (wS [0] (kf @NJ (kf @bO.eq_1 @OW)))),0,Nv _,rfl⟩ ?_;rintro _ ⟨k,hk,rfl⟩;by_cases hlt:k<l.length
 .have hst:=yw l k hlt
  have hol:(bO (l.take k)).length<=5000000:=by
   have:=d9 (l.take k);have:=Pu k l;omega
  obtain ⟨x,hx⟩:∃ x,x=l[k]:=⟨_,rfl⟩;have hrx:(l.map fun n=>[eI n])[k]?.getD []=[eI x]:=by rw [hx];simp [hlt]
  rw [<- hx] at hst;obtain ⟨O,hO⟩:∃ O,O=bO (l.take k):=⟨_,rfl⟩;rw [<- hO] at hst hol ⊢
  repeat' first|refine ge @hlt ?_|decide|refine sp ?_ ?_<;>intro _
  refine ae (fun st=>∃ m:Nat,m<=O.length /\ st=⟨67,[(0,sI l),(3,.osl 0),(4,eI (k:Int)),(5,.osl 1),(6,eB (fD x (O.take m)).2),(7,eI (m:Int))],[(0,some (.row 2 1 (O.map fun n=>[eI n]))),(1,some (.row 2 1 ((fD x (O.take m)).1.map fun n=>[eI n])))],2⟩) (fun st=>O.length - aq st 7) ⟨_,((aR 5 2 1 (by simp only [ia,aj.get,aX,aj.put,↓reduceIte,reduceCtorEq,Nat.reduceLT,Nat.reduceEqDiff,Nat.reduceAdd,Nat.reduceLeDiff,eq_self,implies_true,NJ,fD,OW,N3])).trans (wS [0,1] (kf @NJ (kf @fD.eq_1 @OW)))),0,Nv _,rfl⟩ ?_;rintro _ ⟨m,hm,rfl⟩;have hil:=BF x O m;by_cases hlt2:m<O.length
  .have hs:=B5 x O m hlt2;obtain ⟨y,hy⟩:∃ y,y=O[m]:=⟨_,rfl⟩;have hry:(O.map fun n=>[eI n])[m]?.getD []=[eI y]:=by rw [hy];simp [hlt2]
   rw [<- hy] at hs;obtain ⟨n,b,hn⟩:∃ n b,fD x (O.take m)=(n,b):=⟨_,_,rfl⟩;rw [hn] at hs hil ⊢;simp only at hil;by_cases hxy:x<=y
   .have d1:decide (x<=y)=true:=NL hxy;by_cases hne:y=x
    .have d2:(y != x)=false:=by simp [hne]
     cases b with
     | true=>
      rw [GL x y n hne] at hs
      repeat' first|refine gf (kf @hlt (kf @hlt2 (kf @hrx (kf @hry (kf d1 d2))))) ?_|decide|refine sp ?_ ?_<;>intro _|(with_reducible apply And.intro)
      all_goals first
       | rfl
       | omega
       | exact rI (wS [0,1] hs) ⟨m+1,by omega,rfl⟩
     | false=>
      rw [GK x y n hxy hne] at hs;have e1:(n ++ [x]).map (fun n=>[eI n])=n.map (fun n=>[eI n]) ++ [[eI x]]:=(by simp)
      repeat' first|refine gf (kf @hlt (kf @hlt2 (kf @hrx (kf @hry (kf d1 d2))))) ?_|decide|refine sp ?_ ?_<;>intro _|(with_reducible apply And.intro)
      all_goals first
       | rfl
       | omega
       | exact rI (wS [0,3] (kf hs e1)) ⟨m+1,by omega,rfl⟩
    .have d2:(y != x)=true:=by simp [hne]
     cases b with
     | true=>
      rw [zW x y n hne] at hs;have e1:(n ++ [y]).map (fun n=>[eI n])=n.map (fun n=>[eI n]) ++ [[eI y]]:=(by simp)
      repeat' first|refine gf (kf @hlt (kf @hlt2 (kf @hrx (kf @hry (kf d1 d2))))) ?_|decide|refine sp ?_ ?_<;>intro _|(with_reducible apply And.intro)
      all_goals first
       | rfl
       | omega
       | exact rI (wS [0,3] (kf hs e1)) ⟨m+1,by omega,rfl⟩
     | false=>
      rw [Gl x y n hxy hne] at hs;have e1:((n ++ [x]) ++ [y]).map (fun n=>[eI n])=(n.map (fun n=>[eI n]) ++ [[eI x]]) ++ [[eI y]]:=(by simp)
      repeat' first|refine gf (kf @hlt (kf @hlt2 (kf @hrx (kf @hry (kf d1 d2))))) ?_|decide|refine sp ?_ ?_<;>intro _|(with_reducible apply And.intro)
      all_goals first
       | rfl
       | omega
       | (simp;omega)
       | exact rI (wS [0,5] (kf hs e1)) ⟨m+1,by omega,rfl⟩
   .have d1:decide (x<=y)=false:=NE hxy;have hne:y ≠ x:=(by omega);have d2:(y != x)=true:=(by simp [hne]);have e1:(n ++ [y]).map (fun n=>[eI n])=n.map (fun n=>[eI n]) ++ [[eI y]]:=(by simp)
    cases b with
    | true=>
     rw [zW x y n hne] at hs
     repeat' first|refine gf (kf @hlt (kf @hlt2 (kf @hrx (kf @hry (kf d1 d2))))) ?_|decide|refine sp ?_ ?_<;>intro _|(with_reducible apply And.intro)
     all_goals first
      | rfl
      | omega
      | exact rI (wS [0,3] (kf hs e1)) ⟨m+1,by omega,rfl⟩
    | false=>
     rw [IC x y n hxy] at hs
     repeat' first|refine gf (kf @hlt (kf @hlt2 (kf @hrx (kf @hry (kf d1 d2))))) ?_|decide|refine sp ?_ ?_<;>intro _|(with_reducible apply And.intro)
     all_goals first
      | rfl
      | omega
      | exact rI (wS [0,3] (kf hs e1)) ⟨m+1,by omega,rfl⟩
  .obtain rfl:m=O.length:=by omega
   rw [NG] at hil ⊢;unfold tB at hst;obtain ⟨n,b,hn⟩:∃ n b,fD x O=(n,b):=⟨_,_,rfl⟩;rw [hn] at hst hil ⊢;simp only at hil
   cases b with
   | true=>
    simp only [↓reduceIte] at hst
    repeat' first|refine gf (kf @hlt (kf @hlt2 @hrx)) ?_|decide|refine sp ?_ ?_<;>intro _|(with_reducible apply And.intro)
    all_goals first
     | rfl
     | omega
     | exact rI (wS [1] @hst) ⟨k+1,by omega,rfl⟩
   | false=>
    simp only [↓reduceIte,Ox] at hst;have e1:(n ++ [x]).map (fun n=>[eI n])=n.map (fun n=>[eI n]) ++ [[eI x]]:=(by simp)
    repeat' first|refine gf (kf @hlt (kf @hlt2 @hrx)) ?_|decide|refine sp ?_ ?_<;>intro _|(with_reducible apply And.intro)
    all_goals first
     | rfl
     | omega
     | exact rI (wS [3] (kf @hst e1)) ⟨k+1,by omega,rfl⟩
 .obtain rfl:k=l.length:=by omega
  repeat' first|refine gf (kf @hlt @NG) ?_|decide|refine sp ?_ ?_<;>intro _
  exact aO (by simp [af.gc])
theorem fg (l:List Int) (hl:l.length<=5000000):ax Tryz.prog 31 [sI l] ⟨sI (bO l),[],0⟩:=
 jT 2 ((tZ l hl).mono fun R h=>.inl h)
def D3 (c:List Int) (n:Int):Nat:=c.countP (fun x=>decide (x<n))
structure fr where
 attrs:Int
 const:Int
structure Zn where
 cls:List fr
 gaps:List Int
abbrev cC (x:fr):List AV:=[eI x.attrs,eI x.const]
abbrev ch (z:Zn):List AV:=[.sl 2 (z.cls.map cC),sI z.gaps]
def AO {α:Type} (p:α -> Bool) (l:List α):Int:=match l.findIdx? p with | some k=>(k:Int) | none=>-1
theorem HA {α:Type} {p:α -> Bool} {l:List α} {k:Nat} (hk:k<l.length) (h:p l[k]=true) (hn:∀ i (h:i<k),p (l[i]'(by omega))=false):AO p l=(k:Int):=by
 have:l.findIdx? p=some k:=List.findIdx?_eq_some_iff_getElem.2 ⟨hk,h,fun j hj=>by simp [hn j hj]⟩;unfold AO;rw [this]
theorem AF {α:Type} {p:α -> Bool} {l:List α} (h:∀ x ∈ l,p x=false):AO p l = -1:=by
 have:l.findIdx? p=none:=List.findIdx?_eq_none_iff.2 h;unfold AO;rw [this]
def Hi (c:List Int) (a n:Int) (x:fr):Bool:=(a != -1 && bk x.attrs a) || (a == -1 && decide (n ∈ c) && x.const == (D3 c n:Int))
def dF (z:Zn) (consts:List Int) (a n:Int):Int:=AO (Hi (bO consts) a n) z.cls
def yV (z:Zn) (consts:List Int) (la ln ra rn:Int):Int:=
 if dF z consts la ln<0 \/ dF z consts ra rn<0 then 0 else Cs (dF z consts la ln) (dF z consts ra rn)
end
section
def cX (x:al):Bool:=decide (3<=x.op) && decide (x.op<=8)
def iA (z:Zn) (c:List Int) (x:al):Bool:=cX x && (decide (dF z c x.la x.ln<0) || decide (dF z c x.ra x.rn<0))
def nF (l:List al) (z:Zn) (c:List Int):Bool:=!(l.any (iA z c))
def bZ (l:List al) (z:Zn) (c:List Int) (s:St):Option Bool:=if nF l z c=true then lY (fun x=>some (yV z c x.la x.ln x.ra x.rn)) s.opn s.don l else none
end
end
section
section
theorem wh {c:List Int} (hc:Up c) {n:Int} {q:Nat} (hq:q<c.length) (h:c[q]=n):D3 c n=q:=by
 have hp:=O1.1 hc;exact (Ck c n hc q (by omega) (fun h0=>by rw [<- h];exact hp (q - 1) q (by omega) hq (by omega)) (fun _=>by omega)).1
theorem HQ {c:List Int} (hc:Up c) (a n:Int) (x:fr):Hi c a n x=((a != -1 && bk x.attrs a) || (a == -1 && (decide (0<=x.const) && decide (x.const<(c.length:Int)) && (c.getD x.const.toNat 0 == n)))):=by
 have key:(decide (n ∈ c) && x.const == (D3 c n:Int))=(decide (0<=x.const) && decide (x.const<(c.length:Int)) && (c.getD x.const.toNat 0 == n)):=by
  rw [O7];simp only [NU,NW,O2];constructor
  .rintro ⟨h1,h2⟩;obtain ⟨i,hi,he⟩:=NV h1;rw [wh hc hi he] at h2;rw [h2];refine ⟨⟨by omega,by omega⟩,?_⟩;rw [Ou,NA,Nq hi];exact he
  .rintro ⟨⟨h1,h2⟩,h3⟩;obtain ⟨q,hq⟩:∃ q:Nat,x.const=(q:Int):=⟨x.const.toNat,by omega⟩;rw [hq] at h2 h3 ⊢;have hql:q<c.length:=(by omega);rw [Ou,NA,Nq hql] at h3;have h3:c[q]=n:=h3;exact ⟨h3 ▸ Nt hql,by rw [wh hc hql h3]⟩
 unfold Hi;rw [Bool.and_assoc,key]
theorem mH (z:Zn) (consts:List Int) (a n:Int) (h1:z.cls.length<=1000000) (h2:consts.length<=1000) (ho:∀ x ∈ z.cls,aB x.attrs):ax Tryz.prog 90 [.agg (ch z),sI consts,.agg [eI a,eI n]] (val (.int .i64 (dF z consts a n))):=by
 refine aa ah Tryz.func90 rfl (by decide) Tryz.ntmps90 Tryz.results90 rfl (aH _) ?_;have hlen:=d9 consts;have hup:=(dL consts).1;unfold dF;have hS:=fg consts (by omega);obtain ⟨c,hc⟩:∃ c,bO consts=c:=⟨_,rfl⟩;rw [hc] at hS hlen hup ⊢;obtain ⟨p,hp⟩:∃ p,Hi c a n=p:=⟨_,rfl⟩;rw [hp]
 repeat' first|refine gq ?_|decide|refine sp ?_ ?_<;>intro _|refine cA hS ?_|fail
 refine ae (fun st=>∃ k:Nat,k<=z.cls.length /\ (∀ i (h:i<z.cls.length),i<k -> p z.cls[i]=false) /\ st=⟨61,[(3,.op 0 0 0),(5,.op 1 0 0),(7,sI c),(8,eI (k:Int))],[(0,some (.box 60 (ch z))),(1,some (.box 54 [eI a,eI n]))],2⟩) (fun st=>z.cls.length - aq st 8) ⟨_,wC,0,Nv _,fun i _ h=>by omega,rfl⟩ ?_;rintro _ ⟨k,hk,hn,rfl⟩;by_cases hlt:k<z.cls.length
 .have hh:=cL z.cls[k].attrs a (ho _ (Nt hlt));have hP:=HQ hup a n z.cls[k];rw [hp] at hP;obtain ⟨x,hx⟩:∃ x,z.cls[k]=x:=⟨_,rfl⟩;have hyes:p x=true -> AO p z.cls=(k:Int):=fun h=>HA hlt (by rw [hx];exact h) fun i hi=>hn i (by omega) hi
  have hno:p x=false -> ∀ i (h:i<z.cls.length),i<k+1 -> p z.cls[i]=false:=fun h i hi h2=>by
   rcases NP i k with h3|h3
   .exact hn i hi h3
   .obtain rfl:i=k:=by omega
    rw [hx];exact h
  rw [hx] at hh hP;obtain ⟨xa,xc⟩:=x;by_cases hq:0<=xc /\ xc<(c.length:Int)
  .obtain ⟨q,rfl⟩:∃ q:Nat,xc=(q:Int):=⟨xc.toNat,by omega⟩;have hql:q<c.length:=(by omega);have hcq:c.getD q 0=c[q]:=by rw [NA,Nq hql];rfl
   repeat' first|refine gq ?_|simp only [ab,hlt,hx,hql]|decide|refine sp ?_ ?_<;>intro _|refine cA hh ?_|fail
   all_goals first
    | (rw [hyes (by rw [hP];clear hn hno hyes hP;simp_all)];done)
    | exact rI (wR [0,1]) ⟨k+1,by omega,hno (by rw [hP];clear hn hno hyes hP;simp_all),rfl⟩
    | (exfalso;simp at *;omega)
  .have hg:(decide (0<=xc) && decide (xc<(c.length:Int)))=false:=by
    rw [OM];intro h;exact hq (by simpa using h)
   have hP2:p ⟨xa,xc⟩=(a != -1 && bk xa a):=by
    rw [hP];simp only [hg,Os,Bool.and_false,PW]
   clear hP
   repeat' first|refine gq ?_|simp only [ab,hlt,hx]|decide|refine sp ?_ ?_<;>intro _|refine cA hh ?_|fail
   all_goals first
    | (rw [hyes (by rw [hP2];clear hn hno hyes hP2;simp_all)];done)
    | exact rI (wR [0,1]) ⟨k+1,by omega,hno (by rw [hP2];clear hn hno hyes hP2;simp_all),rfl⟩
    | (exfalso;simp at *;omega)
 .obtain rfl:k=z.cls.length:=by omega
  repeat' first|refine gf @hlt ?_|decide|refine sp ?_ ?_<;>intro _
  rw [AF fun x hx=>by obtain ⟨i,hi,rfl⟩:=NV hx;exact hn i hi hi]
theorem Ee (l:List al) (z:Zn) (c:List Int) (hl:l.length<=1000000) (h1:z.cls.length<=1000000) (h2:c.length<=1000) (ho:∀ x ∈ z.cls,aB x.attrs):ax Tryz.prog 89 [a7 l,.agg (ch z),sI c] (val (.bool (nF l z c))):=by
 refine aa ah Tryz.func89 rfl (by decide) Tryz.ntmps89 Tryz.results89 rfl (aH _) ?_;unfold nF
 repeat' first|refine go ?_|decide|refine sp ?_ ?_<;>intro _
 refine ae (fun st=>∃ k:Nat,k<=l.length /\ (∀ i (h:i<l.length),i<k -> iA z c l[i]=false) /\ st=⟨50,[(0,a7 l),(2,sI c),(4,.op 0 0 0),(7,eI (k:Int))],[(0,some (.box 60 (ch z)))],1⟩) (fun st=>l.length - aq st 7) ⟨_,wC,0,Nv _,fun i _ h=>by omega,rfl⟩ ?_;rintro _ ⟨k,hk,hn,rfl⟩;by_cases hlt:k<l.length
 .obtain ⟨x,hx⟩:∃ x,l[k]=x:=⟨_,rfl⟩;have hL:=mH z c x.la x.ln h1 h2 ho;have hR:=mH z c x.ra x.rn h1 h2 ho
  have hyes:iA z c x=true -> (!l.any (iA z c))=false:=fun h=>by
   have:l.any (iA z c)=true:=List.any_eq_true.2 ⟨_,Nt hlt,by rw [hx];exact h⟩;rw [this];rfl
  have hno:iA z c x=false -> ∀ i (h:i<l.length),i<k+1 -> iA z c l[i]=false:=fun h i hi h2=>by
   rcases NP i k with h3|h3
   .exact hn i hi h3
   .obtain rfl:i=k:=by omega
    rw [hx];exact h
  repeat' first|refine gq ?_|simp only [ab,hlt,hx]|decide|refine sp ?_ ?_<;>intro _|refine cA hL ?_|refine cA hR ?_|fail
  all_goals first
   | (rw [hyes (by clear hn hno hyes hL hR;simp_all [iA,cX])];done)
   | exact rI wC ⟨k+1,by omega,hno (by clear hn hno hyes hL hR;simp_all [iA,cX];try (intros;omega)),rfl⟩
   | (exfalso;simp at *;omega)
 .obtain rfl:k=l.length:=by omega
  have:l.any (iA z c)=false:=by
   rw [List.any_eq_false];intro x hx;obtain ⟨i,hi,rfl⟩:=NV hx;rw [hn i hi hi];simp
  repeat' first|refine gf (kf @hlt (kf @this @PN)) ?_|decide|refine sp ?_ ?_<;>intro _
def dz (z:Zn) (c:List Int) (x:al):al:=if cX x=true then ⟨x.op,-1,dF z c x.la x.ln,-1,dF z c x.ra x.rn,x.n,x.u⟩ else x
theorem ET (z:Zn) (c:List Int) (x:al):(dz z c x).op=x.op:=by unfold dz;split<;>rfl
theorem xD (z:Zn) (c:List Int) (vals:List Int) (o d:Int) (x:al) (r:List Bool) (h:iA z c x=false):fJ (uJ vals) o d (dz z c x) r=fJ (fun x=>some (yV z c x.la x.ln x.ra x.rn)) o d x r:=by
 by_cases hc:cX x=true
 .have h3:3<=x.op /\ x.op<=8:=by simpa [cX] using hc
  have hp:¬ dF z c x.la x.ln<0 /\ ¬ dF z c x.ra x.rn<0:=by
   unfold iA at h;rw [hc] at h;simpa using h
  unfold dz;rw [ND hc];unfold fJ;simp only [show ¬ (x.op=1 \/ x.op=2) by omega,if_false,h3,and_self,if_true]
  have:uJ vals ⟨x.op,-1,dF z c x.la x.ln,-1,dF z c x.ra x.rn,x.n,x.u⟩=some (Cs (dF z c x.la x.ln) (dF z c x.ra x.rn)):=by
   simp [uJ,qH]
  rw [this];unfold yV;rw [Ny (by omega)]
 .unfold dz;rw [Ny hc];have h3:¬ (3<=x.op /\ x.op<=8):=by simpa [cX] using hc
  unfold fJ;simp only [h3,if_false]
theorem sM (z:Zn) (c:List Int) (vals:List Int) (o d:Int):∀ (l:List al) (r:List Bool),(∀ x ∈ l,iA z c x=false) -> ez (uJ vals) o d (l.map (dz z c)) r=ez (fun x=>some (yV z c x.la x.ln x.ra x.rn)) o d l r
 | [],r,_=>rfl
 | x :: l,r,h=>by
  rw [Oz,ez,ez,xD z c vals o d x r (h x (Ob ..))]
  cases fJ (fun x=>some (yV z c x.la x.ln x.ra x.rn)) o d x r with
  | none=>rfl
  | some r'=>exact sM z c vals o d l r' fun y hy=>h y (N7 _ hy)
theorem wB (z:Zn) (c:List Int) (s:St) (l:List al) (h:nF l z c=true):g7 (l.map (dz z c)) s=bZ l z c s:=by
 have hl:∀ x ∈ l,iA z c x=false:=by
  unfold nF at h;simpa using h
 have ho:(l.map (dz z c)).map al.op=l.map al.op:=by
  rw [List.map_map];exact List.map_congr_left fun x _=>ET z c x
 unfold bZ;rw [ND h];unfold g7 lY;rw [ho,sM z c s.vals s.opn s.don l [] hl]
theorem sY (l:List al) (z:Zn) (c:List Int) (s:St) (hl:l.length<=900) (h1:z.cls.length<=1000000) (h2:c.length<=1000) (ho:∀ x ∈ z.cls,aB x.attrs) (hop:aB s.opn) (hdo:aB s.don):ax Tryz.prog 36 [a7 l,.agg (ch z),sI c,.agg (il s)] ⟨.tup [eB (mA (bZ l z c s)),eI (xv (bZ l z c s))],[],0⟩:=by
 have hok:(⟨.tup [eB (mA (bZ l z c s)),eI (xv (bZ l z c s))],[],0⟩:cG).Ok:=⟨fun id o h=>(by cases h),by simp [AV.lt,AV.ltL]⟩;refine aa ah Tryz.func36 rfl (by decide) Tryz.ntmps36 Tryz.results36 rfl (hok) ?_;have hK:=Ee l z c (by omega) h1 h2 ho
 cases hk:nF l z c with
 | false=>
  rw [hk] at hK;have hz:bZ l z c s=none:=by unfold bZ;rw [Ny (by simp [hk])]
  rw [hz]
  repeat' first|refine gq ?_|decide|refine sp ?_ ?_<;>intro _|refine cA hK ?_|fail
  all_goals exact aU (by first|rfl|simp [AV.ren,AV.renL,mA,xv])
 | true=>
  rw [hk] at hK
  repeat' first|refine gq ?_|decide|refine sp ?_ ?_<;>intro _|refine cA hK ?_|fail
  refine ae (fun st=>∃ k:Nat,k<=l.length /\ st=⟨59,[(0,a7 l),(2,sI c),(5,.op 0 0 0),(7,.op 1 0 0),(10,.osl 2),(11,eI (k:Int))],[(0,some (.box 60 (ch z))),(1,some (.box 106 (il s))),(2,some (.row 56 7 ((l.take k).map fun x=>eD (dz z c x))))],3⟩) (fun st=>l.length - aq st 11) ⟨_,((aR 10 56 7 (by simp only [ia,aj.get,aX,aj.put,↓reduceIte,reduceCtorEq,Nat.reduceLT,Nat.reduceEqDiff,Nat.reduceAdd,Nat.reduceLeDiff,eq_self,implies_true,NJ,N3])).trans (wS [0,1,2] @NJ)),0,Nv _,rfl⟩ ?_;rintro _ ⟨k,hk2,rfl⟩;by_cases hlt:k<l.length
  .obtain ⟨x,hx⟩:∃ x,l[k]=x:=⟨_,rfl⟩;have hL:=mH z c x.la x.ln h1 h2 ho;have hR:=mH z c x.ra x.rn h1 h2 ho;have hsn:(l.take (k+1)).map (fun x=>eD (dz z c x))=(l.take k).map (fun x=>eD (dz z c x)) ++ [eD (dz z c x)]:=(by rw [eh _ l hlt,hx]);have htl:(l.take k).length<=900:=by rw [NF];omega
   cases hc:cX x with
   | true=>
    have hs:dz z c x=⟨x.op,-1,dF z c x.la x.ln,-1,dF z c x.ra x.rn,x.n,x.u⟩:=by unfold dz;rw [ND hc]
    rw [hs] at hsn;have h3:decide (3<=x.op)=true /\ decide (x.op<=8)=true:=(by simpa [cX] using hc)
    repeat' first|refine gq ?_|simp only [ab,hlt,hx,h3.1,h3.2]|decide|refine sp ?_ ?_<;>intro _|refine cA hL ?_|refine cA hR ?_|(with_reducible apply And.intro)
    all_goals first
     | rfl
     | omega
     | exact rI (wS [0,1,5] @hsn) ⟨k+1,by omega,rfl⟩
   | false=>
    have hs:dz z c x=x:=by unfold dz;rw [Ny (by simp [hc])]
    rw [hs] at hsn
    repeat' first|refine gq ?_|simp only [ab,hlt,hx]|decide|refine sp ?_ ?_<;>intro _|refine cA hL ?_|refine cA hR ?_|(with_reducible apply And.intro)
    all_goals first
     | rfl
     | omega
     | (exfalso;simp_all [cX];done)
     | (exfalso;simp_all [cX];omega)
     | exact rI (wS [0,1,5] @hsn) ⟨k+1,by omega,rfl⟩
  .obtain rfl:k=l.length:=by omega
   have hH:=oc (l.map (dz z c)) s (by simp;omega) hop hdo;rw [wB z c s l hk] at hH;have em:(l.map (dz z c)).map eD=l.map fun x=>eD (dz z c x):=by rw [List.map_map];rfl
   simp only [a7,em] at hH
   repeat' first|refine ge (kf @hlt @NG) ?_|decide|refine sp ?_ ?_<;>intro _
   refine bI (r:=.tup [eB (mA (bZ l z c s)),eI (xv (bZ l z c s))]) ?_ (.inr (by simp [AV.plain,AV.plainL])) ?_
   .repeat' first|decide|refine go ?_
    exact hH
   .repeat' first|refine gq ?_|decide|refine sp ?_ ?_<;>intro _
    all_goals exact aU (by first|rfl|simp [AV.ren,AV.renL])
end
section
def hY (vals c:List Int):List Int:=bO (vals ++ c)
def dE (vals:List Int) (n:Int):Nat -> Int
 | 0=>0
 | k+1=>if vals.getD k 0=n then cY (dE vals n k) (k:Int) else dE vals n k
def fA (c:List Int) (n:Int):Nat -> Int
 | 0=>-1
 | k+1=>if c.getD k 0=n then (k:Int) else fA c n k
def zF (vals c:List Int) (n:Int):fr:=⟨dE vals n vals.length,fA (bO c) n (bO c).length⟩
def Be (vals c:List Int):List fr:=(hY vals c).map (zF vals c)
end
section
def cj (r:Int):Int:=2 ^ (min r.toNat 20) - 1
theorem s0 (r:Int):ax Tryz.prog 148 [eI r] (val (.int .i64 (cj r))):=by
 refine aa ah Tryz.func148 rfl (by decide) Tryz.ntmps148 Tryz.results148 rfl (aH _) ?_
 repeat' first|refine go ?_|decide|refine sp ?_ ?_<;>intro _
 refine ae (fun st=>∃ k:Nat,k<=20 /\ (k=0 \/ (k:Int)<=r) /\ st=⟨18,[(0,eI r),(3,eI (2 ^ k - 1)),(4,eI (k:Int))],[],0⟩) (fun st=>20 - aq st 4) ⟨_,wC,0,Nv _,.inl rfl,rfl⟩ ?_;rintro _ ⟨k,hk,hr,rfl⟩
 have hp:(2:Int) ^ k<=1048576:=by
  have h1:(2:Nat) ^ k<=2 ^ 20:=Od (by omega) hk;have h2:((2 ^ k:Nat):Int)=(2:Int) ^ k:=by simp
  omega
 have hp0:(0:Int)<2 ^ k:=Int.pow_pos (by omega);have hps:(2:Int) ^ (k+1)=2 * 2 ^ k:=by rw [Int.pow_succ,Int.mul_comm]
 have ew1:IntKind.i64.wrap (2 * (2 ^ k - 1))=2 * (2 ^ k - 1):=ar (by omega) (by omega);have ew2:IntKind.i64.wrap (2 * (2 ^ k - 1)+1)=2 ^ (k+1) - 1:=by rw [ar (by omega) (by omega)];omega
 by_cases h1:(k:Int)<r
 .by_cases h2:k<20
  .have d1:decide ((k:Int)<r)=true:=(by simpa using h1);have d2:decide ((k:Int)<20)=true:=by simp only [NW];omega
   repeat' first|refine gf (kf d1 (kf d2 (kf ew1 ew2))) ?_|decide|refine sp ?_ ?_<;>intro _
   exact rI wC ⟨k+1,by omega,by omega,rfl⟩
  .have d1:decide ((k:Int)<r)=true:=(by simpa using h1);have d2:decide ((k:Int)<20)=false:=by simp only [NQ];omega
   repeat' first|refine gf (kf d1 d2) ?_|decide|refine sp ?_ ?_<;>intro _
   unfold cj;rw [show min r.toNat 20=k by omega]
 .have d1:decide ((k:Int)<r)=false:=by simpa using h1
  repeat' first|refine gf d1 ?_|decide|refine sp ?_ ?_<;>intro _
  unfold cj;rw [show min r.toNat 20=k by omega]
def mY (a b m:Int):Int:=max 0 (min (b - a - 1) m)
theorem IE (a b m:Int) (ha:aB a) (hb:aB b) (hm:m<=4294967296):ax Tryz.prog 147 [eI a,eI b,eI m] (val (.int .i64 (mY a b m))):=by
 refine aa ah Tryz.func147 rfl (by decide) Tryz.ntmps147 Tryz.results147 rfl (aH _) ?_
 repeat' first|refine go ?_|decide|refine sp ?_ ?_<;>intro _
 unfold aB at ha hb;refine ae (fun st=>∃ (k:Nat) (a':Int),(k:Int)<=mY a b m /\ a'=a+k /\ st=⟨27,[(0,eI a'),(1,eI b),(2,eI m),(7,eI (k:Int))],[],0⟩) (fun st=>m.toNat - aq st 7) ⟨_,wC,0,a,by unfold mY;omega,by omega,rfl⟩ ?_;rintro _ ⟨k,a',hk,ha',rfl⟩;by_cases h:(k:Int)<m /\ a'<b /\ a'+1<b
 .have d1:decide ((k:Int)<m)=true:=by simpa using h.1
  have d2:decide (a'<b)=true:=by simpa using h.2.1
  have d3:decide (a'+1<b)=true:=by simpa using h.2.2
  have ew:IntKind.i64.wrap (a'+1)=a'+1:=ar (by omega) (by omega)
  repeat' first|refine gf (kf d1 (kf d2 (kf ew d3))) ?_|decide|refine sp ?_ ?_<;>intro _
  exact rI wC ⟨k+1,a'+1,by unfold mY at *;omega,by omega,rfl⟩
 .have hg:(k:Int)=mY a b m:=by unfold mY at *;omega
  by_cases h1:(k:Int)<m
  .have d1:decide ((k:Int)<m)=true:=(by simpa using h1);by_cases h2:a'<b
   .have d2:decide (a'<b)=true:=(by simpa using h2);have d3:decide (a'+1<b)=false:=by simp only [NQ];omega
    have ew:IntKind.i64.wrap (a'+1)=a'+1:=ar (by omega) (by omega)
    repeat' first|refine gf (kf d1 (kf d2 (kf ew d3))) ?_|decide|refine sp ?_ ?_<;>intro _
    exact hg
   .have d2:decide (a'<b)=false:=by simpa using h2
    repeat' first|refine gf (kf d1 d2) ?_|decide|refine sp ?_ ?_<;>intro _
    exact hg
  .have d1:decide ((k:Int)<m)=false:=by simpa using h1
   repeat' first|refine gf d1 ?_|decide|refine sp ?_ ?_<;>intro _
   exact hg
theorem vl (vals c:List Int) (h1:vals.length<=400) (h2:c.length<=400):ax Tryz.prog 146 [sI vals,sI c] ⟨sI (hY vals c),[],0⟩:=by
 have hok:(⟨sI (hY vals c),[],0⟩:cG).Ok:=⟨fun id o h=>(by cases h),by simp [AV.lt]⟩;refine aa ah Tryz.func146 rfl (by decide) Tryz.ntmps146 Tryz.results146 rfl (hok) ?_;have hS:=fg (vals ++ c) (by simp;omega);have em:(vals.map fun n=>[eI n]) ++ (c.map fun n=>[eI n])=(vals ++ c).map fun n=>[eI n]:=by rw [OB]
 repeat' first|refine gf em ?_|decide|refine sp ?_ ?_<;>intro _|(with_reducible apply And.intro)
 all_goals first
  | rfl
  | omega
  | skip
 refine nv [2] (R:=⟨sI (bO (vals ++ c)),[],0⟩) ?_ ?_ ?_
 .repeat' first|decide|refine go ?_
  exact hS
 .repeat' first|decide|refine go ?_
  left;simp [pi,yS,bV,dk]
 .repeat' first|refine gq ?_|decide|refine sp ?_ ?_<;>intro _
  all_goals exact aU (by first|rfl|simp [AV.ren,AV.renL])
def jE (x:al):List Int:=if cX x=true then (if x.la = -1 then [x.ln] else []) ++ (if x.ra = -1 then [x.rn] else []) else []
def b7 (l:List al):List Int:=l.flatMap jE
theorem xZ (x:al):(jE x).length<=2:=by
 unfold jE;split
 .split<;>split<;>simp
 .simp
theorem jH:∀ l:List al,(b7 l).length<=2 * l.length
 | []=>by simp [b7]
 | x :: l=>by
  have h1:=xZ x;have h2:=jH l;unfold b7 at *;simp only [O3,NB,NZ];omega
theorem kw (l:List al) (hl:l.length<=1100000):ax Tryz.prog 30 [a7 l] ⟨sI (bO (b7 l)),[],0⟩:=by
 have hok:(⟨sI (bO (b7 l)),[],0⟩:cG).Ok:=⟨fun id o h=>(by cases h),by simp [AV.lt]⟩;refine aa ah Tryz.func30 rfl (by decide) Tryz.ntmps30 Tryz.results30 rfl (hok) ?_;have hlen:=jH l;have hS:=fg (b7 l) (by omega)
 repeat' first|refine go ?_|decide|refine sp ?_ ?_<;>intro _
 refine ae (fun st=>∃ k:Nat,k<=l.length /\ st=⟨59,[(0,a7 l),(3,.osl 0),(4,eI (k:Int))],[(0,some (.row 2 1 ((b7 (l.take k)).map fun n=>[eI n])))],1⟩) (fun st=>l.length - aq st 4) ⟨_,((aR 3 2 1 (by simp only [ia,aj.get,aX,aj.put,↓reduceIte,reduceCtorEq,Nat.reduceLT,Nat.reduceEqDiff,Nat.reduceAdd,Nat.reduceLeDiff,eq_self,implies_true,NJ,b7,OG,N3])).trans (wS [0] (kf @NJ (kf @b7.eq_1 @OG)))),0,Nv _,rfl⟩ ?_;rintro _ ⟨k,hk,rfl⟩;by_cases hlt:k<l.length
 .obtain ⟨x,hx⟩:∃ x,l[k]=x:=⟨_,rfl⟩
  have hsn:b7 (l.take (k+1))=b7 (l.take k) ++ jE x:=by
   unfold b7;rw [PI,Nq hlt,hx];simp
  have htl:(b7 (l.take k)).length<=2200000:=by
   have:=jH (l.take k);rw [NF] at this;omega
  obtain ⟨op,la,ln,ra,rn,xn,xu⟩:=x;by_cases hc:3<=op /\ op<=8
  .have hcm:cX ⟨op,la,ln,ra,rn,xn,xu⟩=true:=(by simp [cX,hc]);have d1:decide (op<3)=false:=by simp only [NQ];omega
   have d2:decide (8<op)=false:=by simp only [NQ];omega
   have hna:jE ⟨op,la,ln,ra,rn,xn,xu⟩=(if la = -1 then [ln] else []) ++ (if ra = -1 then [rn] else []):=by unfold jE;rw [ND hcm]
   rw [hna] at hsn;by_cases ha:la = -1
   .have ha1:(la == -1)=true:=(by simpa using ha);by_cases hb:ra = -1
    .have hb1:(ra == -1)=true:=(by simpa using hb);rw [ND ha,ND hb] at hsn;have hs2:(b7 (l.take (k+1))).map (fun n=>[eI n])=((b7 (l.take k)).map (fun n=>[eI n]) ++ [[eI ln]]) ++ [[eI rn]]:=by rw [hsn];simp
     repeat' first|refine gq ?_|simp only [ab,hlt,hx,d1,d2,ha1,hb1]|decide|refine sp ?_ ?_<;>intro _|(with_reducible apply And.intro)
     all_goals first
      | rfl
      | omega
      | (simp;omega)
      | exact rI (wS [4] hs2) ⟨k+1,by omega,rfl⟩
    .have hb1:(ra == -1)=false:=(by simpa using hb);rw [ND ha,Ny hb] at hsn;have hs2:(b7 (l.take (k+1))).map (fun n=>[eI n])=(b7 (l.take k)).map (fun n=>[eI n]) ++ [[eI ln]]:=by rw [hsn];simp
     repeat' first|refine gq ?_|simp only [ab,hlt,hx,d1,d2,ha1,hb1]|decide|refine sp ?_ ?_<;>intro _|(with_reducible apply And.intro)
     all_goals first
      | rfl
      | omega
      | (simp;omega)
      | exact rI (wS [2] hs2) ⟨k+1,by omega,rfl⟩
   .have ha1:(la == -1)=false:=(by simpa using ha);by_cases hb:ra = -1
    .have hb1:(ra == -1)=true:=(by simpa using hb);rw [Ny ha,ND hb] at hsn;have hs2:(b7 (l.take (k+1))).map (fun n=>[eI n])=(b7 (l.take k)).map (fun n=>[eI n]) ++ [[eI rn]]:=by rw [hsn];simp
     repeat' first|refine gq ?_|simp only [ab,hlt,hx,d1,d2,ha1,hb1]|decide|refine sp ?_ ?_<;>intro _|(with_reducible apply And.intro)
     all_goals first
      | rfl
      | omega
      | (simp;omega)
      | exact rI (wS [2] hs2) ⟨k+1,by omega,rfl⟩
    .have hb1:(ra == -1)=false:=(by simpa using hb);rw [Ny ha,Ny hb] at hsn;have hs2:(b7 (l.take (k+1))).map (fun n=>[eI n])=(b7 (l.take k)).map (fun n=>[eI n]):=by rw [hsn];simp
     repeat' first|refine gq ?_|simp only [ab,hlt,hx,d1,d2,ha1,hb1]|decide|refine sp ?_ ?_<;>intro _
     exact rI (wE hs2) ⟨k+1,by omega,rfl⟩
  .have hcm:cX ⟨op,la,ln,ra,rn,xn,xu⟩=false:=by
    rw [OM];intro h;exact hc (by simpa [cX] using h)
   have hna:jE ⟨op,la,ln,ra,rn,xn,xu⟩=[]:=by unfold jE;rw [Ny (by simp [hcm])]
   rw [hna,OK] at hsn;have hs2:(b7 (l.take (k+1))).map (fun n=>[eI n])=(b7 (l.take k)).map (fun n=>[eI n]):=(by rw [hsn])
   repeat' first|refine gq ?_|simp only [ab,hlt,hx]|decide|refine sp ?_ ?_<;>intro _
   all_goals first
    | exact rI (wE hs2) ⟨k+1,by omega,rfl⟩
    | (exfalso;simp at *;omega)
 .obtain rfl:k=l.length:=by omega
  repeat' first|refine ge (kf @hlt @NG) ?_|decide|refine sp ?_ ?_<;>intro _
  refine nv [0] (R:=⟨sI (bO (b7 l)),[],0⟩) ?_ ?_ ?_
  .repeat' first|decide|refine go ?_
   exact hS
  .repeat' first|decide|refine go ?_
   left;simp [pi,yS,bV,dk]
  .repeat' first|refine gq ?_|decide|refine sp ?_ ?_<;>intro _
   all_goals exact aU (by first|rfl|simp [AV.ren,AV.renL])
end
section
abbrev lF (n:Int):List AV:=[eI n,eS ByteArray.empty,eI 0,eS ByteArray.empty,eI 0,eS ByteArray.empty,eS ByteArray.empty,eI 0,eI 0]
end
section
theorem rr (n:Int):ax Tryz.prog 13 [eI n] (val (.int .i64 (aC n))):=by
 refine aa ah Tryz.func13 rfl (by decide) Tryz.ntmps13 Tryz.results13 rfl (aH _) ?_;unfold aC
 repeat' first|refine go ?_|decide|refine sp ?_ ?_<;>intro _
 all_goals
  simp only [NW,NQ,O2,Oa,NU,PE] at *
  (repeat' split)<;>first|rfl|(exfalso;omega)
theorem wy (l:List Int) (q:Nat) (hq:q<=l.length) (hl:l.length<=1000000):ax Tryz.prog 28 [.sl 9 (l.map lF),eI ((q:Int) - 1)] (val (.int .i64 (fZ l q 1))):=by
 refine aa ah Tryz.func28 rfl (by decide) Tryz.ntmps28 Tryz.results28 rfl (aH _) ?_
 repeat' first|refine go ?_|decide|refine sp ?_ ?_<;>intro _
 refine ae (fun st=>∃ k w:Nat,k<=q /\ (1<=w /\ w+k<=q+1 /\ fZ l q 1=fZ l k w) /\ st=⟨28,[(0,.sl 9 (l.map lF)),(5,eI (w:Int)),(6,eI ((k:Int) - 1))],[],0⟩) (fun st=>(match st.get 6 with | .c (.int _ n)=>(n+1).toNat | _=>0)) ⟨_,wC,q,1,Nz _,⟨Nz _,by omega,rfl⟩,rfl⟩ ?_;rintro _ ⟨k,w,hk,⟨hw1,hw2,hB⟩,rfl⟩;rw [hB]
 cases k with
 | zero=>
  have e0:decide ((0:Int)<=((0:Nat):Int) - 1)=false:=by decide
  rw [fZ]
  repeat' first|refine ge e0 ?_|decide|refine sp ?_ ?_<;>intro _
 | succ j=>
  have ej:((j+1:Nat):Int) - 1=(j:Int):=by omega
  have hj:j<l.length:=by omega
  simp only [ej];obtain ⟨x,hx⟩:∃ x,x=l[j]:=⟨_,rfl⟩;have hrow:(l.map lF)[j]?.getD []=lF x:=by rw [hx];simp [hj]
  have hg:l.getD j 0=x:=by rw [hx];simp [List.getD,hj]
  have hA:=rr x;have ew:IntKind.i64.wrap ((j:Int) - 1)=(j:Int) - 1:=ar (by omega) (by omega);have d0:decide ((0:Int)<=(j:Int))=true:=by simp
  rw [fZ,hg] at hB ⊢;rcases jD x with e|e|e|e
  .rw [e] at hA;rw [ND e] at hB ⊢;have e1:IntKind.i64.wrap ((0:Int) - 1) = -1:=(by decide);have e2:IntKind.i64.wrap ((w:Int) + -1)=((w - 1:Nat):Int):=by rw [ar (by omega) (by omega)];omega
   have d1:decide ((0:Int)<0)=false:=(by decide);by_cases hw:w=1
   .have d2:(((w - 1:Nat):Int) == 0)=true:=O2.2 (by omega);rw [ND hw]
    repeat' first|refine gf (kf @hrow (kf hj (kf e1 (kf e2 (kf d0 (kf d1 d2)))))) ?_|decide|refine sp ?_ ?_<;>intro _|refine cA hA ?_|fail
   .have d2:(((w - 1:Nat):Int) == 0)=false:=Oa.2 (by omega);rw [Ny hw] at hB ⊢
    repeat' first|refine gf (kf @hrow (kf hj (kf e1 (kf e2 (kf d0 (kf d1 d2)))))) ?_|decide|refine sp ?_ ?_<;>intro _|refine cA hA ?_|fail
    all_goals
     rw [<- hB];exact rI (wE ew) ⟨j,w - 1,by omega,⟨by omega,by omega,hB⟩,rfl⟩
  .rw [e] at hA;rw [Ny (by omega),ND e] at hB ⊢;have e1:IntKind.i64.wrap ((1:Int) - 1)=0:=(by decide);have e2:IntKind.i64.wrap ((w:Int)+0)=(w:Int):=by rw [ar (by omega) (by omega)];omega
   have d1:decide ((1:Int)<0)=false:=(by decide);have d2:((w:Int) == 0)=false:=Oa.2 (by omega)
   repeat' first|refine gf (kf @hrow (kf hj (kf e1 (kf e2 (kf d0 (kf d1 d2)))))) ?_|decide|refine sp ?_ ?_<;>intro _|refine cA hA ?_|fail
   all_goals
    rw [<- hB];exact rI (wE ew) ⟨j,w,by omega,⟨by omega,by omega,hB⟩,rfl⟩
  .rw [e] at hA;rw [Ny (by omega),Ny (by omega),ND e] at hB ⊢;have e1:IntKind.i64.wrap ((2:Int) - 1)=1:=(by decide);have e2:IntKind.i64.wrap ((w:Int)+1)=((w+1:Nat):Int):=by rw [ar (by omega) (by omega)];omega
   have d1:decide ((2:Int)<0)=false:=(by decide);have d2:(((w+1:Nat):Int) == 0)=false:=Oa.2 (by omega)
   repeat' first|refine gf (kf @hrow (kf hj (kf e1 (kf e2 (kf d0 (kf d1 d2)))))) ?_|decide|refine sp ?_ ?_<;>intro _|refine cA hA ?_|fail
   all_goals
    rw [<- hB];exact rI (wE ew) ⟨j,w+1,by omega,⟨by omega,by omega,hB⟩,rfl⟩
  .rw [e] at hA;rw [Ny (by omega),Ny (by omega),Ny (by omega)];have d1:decide ((-1:Int)<0)=true:=(by decide)
   repeat' first|refine gf (kf @hrow (kf hj (kf d0 d1))) ?_|decide|refine sp ?_ ?_<;>intro _|refine cA hA ?_|fail
theorem zo (l:List Int) (hl:l.length<=1000000):ax Tryz.prog 8 [.sl 9 (l.map lF)] (val (.int .i64 (sm l))):=by
 refine aa ah Tryz.func8 rfl (by decide) Tryz.ntmps8 Tryz.results8 rfl (aH _) ?_;have ew:IntKind.i64.wrap ((l.length:Int) - 1)=(l.length:Int) - 1:=ar (by omega) (by omega);have hB:=wy l l.length (Nz _) hl;unfold sm;by_cases h0:l.length=0
 .have d0:((l.length:Int) == 0)=true:=O2.2 (by omega);rw [ND h0]
  repeat' first|refine gf d0 ?_|decide|refine sp ?_ ?_<;>intro _
 .have d0:((l.length:Int) == 0)=false:=Oa.2 (by omega);rw [Ny h0];by_cases h1:64<l.length
  .have d1:decide ((64:Int)<(l.length:Int))=true:=NL (by omega);rw [ND h1]
   repeat' first|refine gf (kf d0 d1) ?_|decide|refine sp ?_ ?_<;>intro _
  .have d1:decide ((64:Int)<(l.length:Int))=false:=NE (by omega);rw [Ny h1];by_cases h2:fZ l l.length 1=0
   .have d2:(fZ l l.length 1 != 0)=false:=(by simp [h2]);rw [ND h2]
    repeat' first|refine gf (kf d0 (kf d1 (kf d2 ew))) ?_|decide|refine sp ?_ ?_<;>intro _|refine cA hB ?_|fail
   .have d2:(fZ l l.length 1 != 0)=true:=(by simp [h2]);rw [Ny h2]
    repeat' first|refine gf (kf d0 (kf d1 (kf d2 ew))) ?_|decide|refine sp ?_ ?_<;>intro _|refine cA hB ?_|fail
def y9 (e:TypeId) (sz:Nat) (rows:List (List AV)) (R:cG):Prop:=R=ic e sz rows \/ (R=val (.slice none 0 0) /\ rows=[])
theorem fc {P:Program} {f:FuncId} {args:List AV} (e:TypeId) {sz:Nat} {rows:List (List AV)} (h:dn P f args (y9 e sz rows)):ax P f args ⟨.sl sz rows,[],0⟩:=tv h
theorem gO {e:TypeId} {sz:Nat} {rows:List (List AV)} (h:rows=[]):y9 e sz rows (val (.slice none 0 0)):=.inr ⟨rfl,h⟩
theorem gc {e:TypeId} {sz:Nat} {rows:List (List AV)}:y9 e sz rows (ic e sz rows):=.inl rfl
def DQ (l:List Int) (e:Nat):List Int:=if aC (l.getD e 0)=0 then [] else if aC (l.getD e 0)=1 then [(e:Int) - 1] else [fZ l e 1 - 1,(e:Int) - 1]
theorem pj (l:List Int):∀ (q w:Nat),-1<=fZ l q w /\ fZ l q w<(q:Int)
 | 0,w=>by rw [fZ];omega
 | i+1,w=>by
  have h1:=pj l i (w - 1);have h2:=pj l i w;have h3:=pj l i (w+1);rw [fZ];repeat' split
  all_goals omega
theorem LZ (l:List Int) (e:Nat) (he:e<l.length) (hl:l.length<=1000000):ax Tryz.prog 50 [.sl 9 (l.map lF),eI (e:Int)] ⟨sI (DQ l e),[],0⟩:=by
 refine fc 3 ?_;refine aM ah Tryz.func50 rfl (by decide) Tryz.ntmps50 Tryz.results50 rfl ?_;obtain ⟨x,hx⟩:∃ x,x=l[e]:=⟨_,rfl⟩;have hrow:(l.map lF)[e]?.getD []=lF x:=by rw [hx];simp [he]
 have hg:l.getD e 0=x:=by rw [hx];simp [List.getD,he]
 have hA:=rr x;have hB:=wy l e (by omega) hl;have hb:=pj l e 1;have ew:IntKind.i64.wrap ((e:Int) - 1)=(e:Int) - 1:=ar (by omega) (by omega);have ew2:IntKind.i64.wrap (fZ l e 1 - 1)=fZ l e 1 - 1:=ar (by omega) (by omega);unfold DQ;rw [hg];by_cases h0:aC x=0
 .have d0:(aC x == 0)=true:=by simp [h0]
  rw [ND h0]
  repeat' first|refine gf (kf @hrow (kf he d0)) ?_|decide|refine sp ?_ ?_<;>intro _|refine cA hA ?_|fail
  all_goals exact ca (gO rfl)
 .have d0:(aC x == 0)=false:=by simp [h0]
  rw [Ny h0];by_cases h1:aC x=1
  .have d1:(aC x == 1)=true:=(by simp [h1]);rw [ND h1]
   repeat' first|refine gf (kf @hrow (kf he (kf d0 (kf d1 ew)))) ?_|decide|refine sp ?_ ?_<;>intro _|refine cA hA ?_|fail
   exact ⟨rfl,qW rfl gc⟩
  .have d1:(aC x == 1)=false:=(by simp [h1]);rw [Ny h1]
   repeat' first|refine gf (kf @hrow (kf he (kf d0 (kf d1 (kf ew ew2))))) ?_|decide|refine sp ?_ ?_<;>intro _|refine cA hA ?_|refine cA hB ?_|fail
   exact ⟨rfl,qW rfl gc⟩
theorem HL (l:List al) (hl:l.length<=70):ax Tryz.prog 5 [a7 l] (ic 76 9 ((l.map al.op).map lF)):=by
 refine aa ah Tryz.func5 rfl (by decide) Tryz.ntmps5 Tryz.results5 rfl (cB _ _ _) ?_
 repeat' first|refine go ?_|decide|refine sp ?_ ?_<;>intro _
 refine ae (fun st=>∃ k:Nat,k<=l.length /\ st=⟨25,[(0,a7 l),(3,.osl 0),(4,eI (k:Int))],[(0,some (.row 76 9 (((l.take k).map al.op).map lF)))],1⟩) (fun st=>l.length - aq st 4) ⟨_,((aR 3 76 9 (by simp only [ia,aj.get,aX,aj.put,↓reduceIte,reduceCtorEq,Nat.reduceLT,Nat.reduceEqDiff,Nat.reduceAdd,Nat.reduceLeDiff,eq_self,implies_true,NJ,N3])).trans (wS [0] @NJ)),0,Nv _,rfl⟩ ?_;rintro _ ⟨k,hk,rfl⟩;by_cases hlt:k<l.length
 .have et:((l.take (k+1)).map al.op).map lF=((l.take k).map al.op).map lF ++ [lF l[k].op]:=by
   rw [Ns hlt];simp only [OB,Oz,N3]
  obtain ⟨x,hx⟩:∃ x,x=l[k]:=⟨_,rfl⟩;have hrow:(l.map eD)[k]?.getD []=eD x:=by rw [hx];simp [hlt]
  have d7:decide ((k:Int)<70)=true:=NL (by omega);have htl:(l.take k).length<=70:=by rw [NF];omega
  rw [<- hx] at et
  repeat' first|refine gf (kf @hrow (kf @hlt d7)) ?_|decide|refine sp ?_ ?_<;>intro _|(with_reducible apply And.intro)
  all_goals first
   | rfl
   | omega
   | exact rI (wS [2] et) ⟨k+1,by omega,rfl⟩
 .obtain rfl:k=l.length:=by omega
  repeat' first|refine gf (kf @hlt @NG) ?_|decide|refine sp ?_ ?_<;>intro _
  exact aO (by simp [af.gc])
end
end
section
section
def bR (g r:Int):Int:=if g<0 then 0 else min g (cj r)
abbrev eP (p:Int × Int):List AV:=[eI p.1,eI p.2]
theorem kq (r:Int):0<=cj r /\ cj r<=1048575:=by
 unfold cj;have h1:(2:Nat) ^ (min r.toNat 20)<=2 ^ 20:=Od (by omega) (by omega);have h2:((2 ^ (min r.toNat 20):Nat):Int)=(2:Int) ^ (min r.toNat 20):=by simp
 have h3:(0:Int)<2 ^ (min r.toNat 20):=Int.pow_pos (by omega);omega
theorem rz (g r:Int):0<=bR g r /\ bR g r<=cj r:=by
 have:=kq r;unfold bR;split<;>omega
theorem lE (g r:Int):ax Tryz.prog 194 [eI g,eI r] (val (.int .i64 (bR g r))):=by
 refine aa ah Tryz.func194 rfl (by decide) Tryz.ntmps194 Tryz.results194 rfl (aH _) ?_;have hC:=s0 r;by_cases h:g<0
 .have d:decide (g<0)=true:=by simpa using h
  unfold bR;rw [ND h]
  repeat' first|refine gf d ?_|decide|refine sp ?_ ?_<;>intro _
 .have d:decide (g<0)=false:=by simpa using h
  unfold bR;rw [Ny h]
  repeat' first|refine gf d ?_|decide|refine sp ?_ ?_<;>intro _|refine cA hC ?_|fail
theorem M6:(0:Int)<=1:=by decide
theorem M1:(0:Int)<((2:Nat):Int):=by decide
theorem M7:(1:Int)<((2:Nat):Int):=by decide
def kC (l:List (Int × Int)) (a b:Int):Bool:=l.any fun p=>p.1 == a && p.2 == b
theorem Dp {l:List (Int × Int)} {k:Nat} (hk:k<l.length) (a b:Int):kC (l.take (k+1)) a b=(kC (l.take k) a b || (l[k].1 == a && l[k].2 == b)):=by
 unfold kC;rw [Ns hk,List.any_append];simp
theorem Io {l:List (Int × Int)} (k:Nat) (a b:Int) (h:kC (l.take k) a b=true):kC l a b=true:=by
 unfold kC at *;rw [List.any_eq_true] at *;obtain ⟨x,hx,h⟩:=h;exact ⟨x,N6 hx,h⟩
theorem yp (l:List (Int × Int)) (a b:Int) (hl:l.length<=1000000000000):ax Tryz.prog 196 [.sl 2 (l.map eP),eI a,eI b] (val (.bool (kC l a b))):=by
 refine aa ah Tryz.func196 rfl (by decide) Tryz.ntmps196 Tryz.results196 rfl (aH _) ?_
 repeat' first|refine go ?_|decide|refine sp ?_ ?_<;>intro _
 refine ae (fun st=>∃ k:Nat,k<=l.length /\ kC (l.take k) a b=false /\ st=⟨30,[(0,.sl 2 (l.map eP)),(1,eI a),(2,eI b),(7,eI (k:Int))],[],0⟩) (fun st=>l.length - aq st 7) ⟨_,wC,0,Nv _,rfl,rfl⟩ ?_;rintro _ ⟨k,hk,hI,rfl⟩;by_cases hlt:k<l.length
 .have hp:=Dp hlt a b;rw [hI,PX] at hp;obtain ⟨x,hx⟩:∃ x,x=l[k]:=⟨_,rfl⟩;have hrow:(l.map eP)[k]?.getD []=eP x:=by rw [hx];simp [hlt]
  rw [<- hx] at hp;have q0:List.drop (Int.toNat 0 * 1) (eP x)=[eI x.1,eI x.2]:=rfl;have q1:List.drop (Int.toNat 1 * 1) (eP x)=[eI x.2]:=rfl
  cases h1:x.1 == a with
  | false=>
   rw [h1,Os] at hp
   repeat' first|refine ge (kf @hrow (kf @hlt (kf h1 (kf M1 q0)))) ?_|decide|refine sp ?_ ?_<;>intro _
   exact rI wC ⟨k+1,by omega,hp,rfl⟩
  | true=>
   cases h2:x.2 == b with
   | false=>
    rw [h1,h2,Oq] at hp
    repeat' first|refine ge (kf @hrow (kf @hlt (kf h1 (kf h2 (kf M1 (kf M7 (kf q0 (kf q1 M6)))))))) ?_|decide|refine sp ?_ ?_<;>intro _
    exact rI wC ⟨k+1,by omega,hp,rfl⟩
   | true=>
    rw [h1,h2,Oq] at hp;have:=Io _ _ _ hp;rw [this]
    repeat' first|refine ge (kf @hrow (kf @hlt (kf h1 (kf h2 (kf M1 (kf M7 (kf q0 (kf q1 M6)))))))) ?_|decide|refine sp ?_ ?_<;>intro _
 .obtain rfl:k=l.length:=by omega
  rw [NG] at hI;rw [hI]
  repeat' first|refine ge @hlt ?_|decide|refine sp ?_ ?_<;>intro _
def gJ (g r:Int):Nat -> List (Int × Int)
 | 0=>[]
 | a+1=>if kC (gJ g r a) (bR a (r - 1)) (bR (g - 1 - a) (r - 1))=true then gJ g r a else gJ g r a ++ [(bR a (r - 1),bR (g - 1 - a) (r - 1))]
theorem nU (g r:Int):∀ a,(gJ g r a).length<=a
 | 0=>Nz _
 | a+1=>by
  have:=nU g r a;rw [gJ];split
  .omega
  .rw [NB,N4];omega
theorem KP (q:Nat) (r:Int) (hq:q<=100000000) (hr:-1000000<=r /\ r<=1000000):ax Tryz.prog 195 [eI (q:Int),eI r] (ic 221 2 ((gJ (q:Int) r q).map eP)):=by
 refine aa ah Tryz.func195 rfl (by decide) Tryz.ntmps195 Tryz.results195 rfl (cB _ _ _) ?_;have er:IntKind.i64.wrap (r - 1)=r - 1:=ar (by omega) (by omega)
 repeat' first|refine go ?_|decide|refine sp ?_ ?_<;>intro _
 refine ae (fun st=>∃ k:Nat,k<=q /\ st=⟨37,[(0,eI (q:Int)),(1,eI r),(5,.osl 0),(6,eI (k:Int))],[(0,some (.row 221 2 ((gJ (q:Int) r k).map eP)))],1⟩) (fun st=>q - aq st 6) ⟨_,((aR 5 221 2 (by simp only [ia,aj.get,aX,aj.put,↓reduceIte,reduceCtorEq,Nat.reduceLT,Nat.reduceEqDiff,Nat.reduceAdd,Nat.reduceLeDiff,eq_self,implies_true,gJ,N3])).trans (wS [0] (kf @gJ.eq_1 @gJ.eq_2))),0,Nv _,rfl⟩ ?_;rintro _ ⟨k,hk,rfl⟩;by_cases hlt:k<q
 .have e1:IntKind.i64.wrap ((q:Int) - 1)=(q:Int) - 1:=ar (by omega) (by omega);have e2:IntKind.i64.wrap ((q:Int) - 1 - (k:Int))=(q:Int) - 1 - (k:Int):=ar (by omega) (by omega);have hlen:=nU (q:Int) r k;have hs:=gJ.eq_2 (q:Int) r k;have h1:=lE (k:Int) (r - 1);have h2:=lE ((q:Int) - 1 - (k:Int)) (r - 1);obtain ⟨x,hx⟩:∃ x,x=bR (k:Int) (r - 1):=⟨_,rfl⟩;obtain ⟨y,hy⟩:∃ y,y=bR ((q:Int) - 1 - (k:Int)) (r - 1):=⟨_,rfl⟩;rw [<- hx] at h1 hs;rw [<- hy] at h2 hs;obtain ⟨T,hT⟩:∃ T,T=gJ (q:Int) r k:=⟨_,rfl⟩;rw [<- hT] at hs hlen ⊢;have h3:=yp T x y (by omega)
  cases hh:kC T x y with
  | true=>
   rw [hh,ND rfl] at hs;rw [hh] at h3
   repeat' first|refine gf (kf @hlt (kf er (kf e1 e2))) ?_|decide|refine sp ?_ ?_<;>intro _|refine cA h1 ?_|refine cA h2 ?_|refine cA h3 ?_|fail
   all_goals exact rI (wE hs) ⟨k+1,by omega,rfl⟩
  | false=>
   rw [hh,Ny (by simp)] at hs;rw [hh] at h3
   repeat' first|refine gf (kf @hlt (kf er (kf e1 e2))) ?_|decide|refine sp ?_ ?_<;>intro _|refine cA h1 ?_|refine cA h2 ?_|refine cA h3 ?_|fail
   all_goals
    have hm:(gJ (q:Int) r (k+1)).map eP=T.map eP ++ [[eI x,eI y]]:=by rw [hs];simp
    exact ⟨rfl,⟨by omega,by omega⟩,rI (wS [2] hm) ⟨k+1,by omega,rfl⟩⟩
 .obtain rfl:k=q:=by omega
  repeat' first|refine ge @hlt ?_|decide|refine sp ?_ ?_<;>intro _
  exact aO (by simp [af.gc])
def dq (all:List (Int × Int)) (a b:Nat):List (Int × Int):=((List.range b).filter fun (j:Nat)=>kC all (a:Int) (j:Int)).map fun (j:Nat)=>((a:Int),(j:Int))
theorem oH (all:List (Int × Int)) (a b:Nat):dq all a (b+1)=dq all a b ++ (if kC all (a:Int) (b:Int)=true then [((a:Int),(b:Int))] else []):=by
 unfold dq;rw [OL,List.filter_append,OB]
 congr 1
 by_cases h:kC all (a:Int) (b:Int)=true
 .rw [ND h];simp [h]
 .rw [Ny h];simp [h]
theorem ql (all:List (Int × Int)) (a b:Nat):(dq all a b).length<=b:=by
 unfold dq;rw [NI];refine N2 (Ph _ _) ?_;simp
def gk (all:List (Int × Int)) (c:Nat):Nat -> List (Int × Int)
 | 0=>[]
 | a+1=>gk all c a ++ dq all a (c+1)
theorem pO (all:List (Int × Int)) (c:Nat):∀ a,(gk all c a).length<=a * (c+1)
 | 0=>by simp [gk]
 | a+1=>by
  have h1:=pO all c a;have h2:=ql all a (c+1);rw [gk,NB,PS];omega
def HK (g r:Int):Int:=if bR g r=cj r then 3 * bR g r+3 else bR g r
def rE (g r:Int):List (Int × Int):=if r<1 \/ g<1 then [] else gk (gJ (HK g r) r (HK g r).toNat) (cj (r - 1)).toNat ((cj (r - 1)).toNat+1)
theorem xf (g r:Int):(rE g r).length<=((cj (r - 1)).toNat+1) * ((cj (r - 1)).toNat+1):=by
 unfold rE;split
 .exact Nv _
 .exact pO _ _ _
theorem FX (g r:Int) (hr:-1000000<=r /\ r<=1000000):ax Tryz.prog 154 [eI g,eI r] ⟨.sl 2 ((rE g r).map eP),[],0⟩:=by
 refine fc 221 ?_;refine aM ah Tryz.func154 rfl (by decide) Tryz.ntmps154 Tryz.results154 rfl ?_;unfold rE;by_cases hbad:r<1 \/ g<1
 .rw [ND hbad];by_cases h1:r<1
  .have d1:decide (r<1)=true:=NL h1
   repeat' first|refine gf d1 ?_|decide|refine sp ?_ ?_<;>intro _
   all_goals exact ca (gO rfl)
  .have d1:decide (r<1)=false:=NE h1;have d2:decide (g<1)=true:=NL (by omega)
   repeat' first|refine gf (kf d1 d2) ?_|decide|refine sp ?_ ?_<;>intro _
   all_goals exact ca (gO rfl)
 .rw [Ny hbad];have d1:decide (r<1)=false:=NE (by omega);have d2:decide (g<1)=false:=NE (by omega);have er:IntKind.i64.wrap (r - 1)=r - 1:=ar (by omega) (by omega);have hC:=lE g r;have hc:=rz g r;have hp:=kq r;have hp1:=kq (r - 1);have hR:=s0 r;have hR1:=s0 (r - 1);obtain ⟨c,hcc⟩:∃ c:Nat,cj (r - 1)=(c:Int):=⟨(cj (r - 1)).toNat,by omega⟩;obtain ⟨q,hq⟩:∃ q:Nat,HK g r=(q:Int):=⟨(HK g r).toNat,by unfold HK;split<;>omega⟩;have hqb:q<=100000000:=by unfold HK at hq;split at hq<;>omega
  have e1:(HK g r).toNat=q:=by omega
  have e2:(cj (r - 1)).toNat=c:=by omega
  rw [e1,e2,hq];rw [hcc] at hR1 hp1;have hT:ax Tryz.prog 195 [eI (q:Int),eI r] ⟨.sl 2 ((gJ (q:Int) r q).map eP),[],0⟩:=ax.still [0] (KP q r hqb hr) (by simp [cG.frzs,cG.frz,ic,af.gc,AV.frz]) (by simp [AV.lt]);have hTl:=nU (q:Int) r q;obtain ⟨T,hTe⟩:∃ T,T=gJ (q:Int) r q:=⟨_,rfl⟩;rw [<- hTe] at hT hTl ⊢;have hcb:c<=1048575:=by omega
  have hb1:∀ a b:Nat,a<=c+1 -> b<=c+1 -> (gk T c a ++ dq T a b).length<=1099511627776+1048577:=fun a b ha hb=>by
   have h1:=pO T c a;have h2:=ql T a b;have h3:a * (c+1)<=1048576 * 1048576:=Pz (by omega) (by omega);rw [NB];omega
  by_cases hcap:bR g r=cj r
  .have d3:(bR g r == cj r)=true:=O2.2 hcap;have hqq:3 * bR g r+3=(q:Int):=by unfold HK at hq;rw [ND hcap] at hq;exact hq
   have w1:IntKind.i64.wrap (3 * bR g r)=3 * bR g r:=ar (by omega) (by omega);have w2:IntKind.i64.wrap (3 * bR g r+3)=(q:Int):=by rw [hqq];exact ar (by omega) (by omega)
   repeat' first|refine gf (kf d1 (kf d2 (kf d3 (kf er (kf w1 w2))))) ?_|decide|refine sp ?_ ?_<;>intro _|refine cA hC ?_|refine cA hR ?_|refine cA hT ?_|fail
   refine ae (fun st=>∃ a:Nat,a<=c+1 /\ st=⟨55,[(1,eI r),(5,.osl 0),(7,.sl 2 (T.map eP)),(8,eI (a:Int))],[(0,some (.row 221 2 ((gk T c a).map eP)))],1⟩) (fun st=>c+1 - aq st 8) ⟨_,((aR 5 221 2 (by simp only [ia,aj.get,aX,aj.put,↓reduceIte,reduceCtorEq,Nat.reduceLT,Nat.reduceEqDiff,Nat.reduceAdd,Nat.reduceLeDiff,eq_self,implies_true,gk,N3])).trans (wS [0] (kf @gk.eq_1 @gk.eq_2))),0,Nv _,rfl⟩ ?_;rintro _ ⟨a,ha,rfl⟩;by_cases hla:a<=c
   .repeat' first|refine gf (kf @hla er) ?_|decide|refine sp ?_ ?_<;>intro _|refine cA hR1 ?_|fail
    refine ae (fun st=>∃ b:Nat,b<=c+1 /\ st=⟨55,[(1,eI r),(5,.osl 0),(7,.sl 2 (T.map eP)),(8,eI (a:Int)),(9,eI (b:Int))],[(0,some (.row 221 2 ((gk T c a ++ dq T a b).map eP)))],1⟩) (fun st=>c+1 - aq st 9) ⟨_,(wE (kf @dq.eq_1 (kf @O8 @List.filter_nil.{0}))),0,Nv _,rfl⟩ ?_;rintro _ ⟨b,hb,rfl⟩;by_cases hlb:b<=c
    .have hH:=yp T (a:Int) (b:Int) (by omega);have hs:=oH T a b;have hlen:=hb1 a b ha hb;obtain ⟨O,hO⟩:∃ O,O=gk T c a ++ dq T a b:=⟨_,rfl⟩;have hs2:gk T c a ++ dq T a (b+1)=O ++ (if kC T (a:Int) (b:Int)=true then [((a:Int),(b:Int))] else []):=(by rw [hs,hO,Oj]);rw [<- hO] at hlen ⊢
     cases hh:kC T (a:Int) (b:Int) with
     | true=>
      rw [hh,ND rfl] at hs2;rw [hh] at hH;have et:(gk T c a ++ dq T a (b+1)).map eP=O.map eP ++ [[eI (a:Int),eI (b:Int)]]:=by rw [hs2];simp
      repeat' first|refine gf (kf @hlb er) ?_|decide|refine sp ?_ ?_<;>intro _|refine cA hR1 ?_|refine cA hH ?_|(with_reducible apply And.intro)
      all_goals first
       | rfl
       | omega
       | exact rI (wS [2] et) ⟨b+1,by omega,rfl⟩
     | false=>
      rw [hh,Ny (by simp),OK] at hs2;rw [hh] at hH
      repeat' first|refine gf (kf @hlb er) ?_|decide|refine sp ?_ ?_<;>intro _|refine cA hR1 ?_|refine cA hH ?_|fail
      all_goals exact rI (wE hs2) ⟨b+1,by omega,rfl⟩
    .obtain rfl:b=c+1:=by omega
     have hs:gk T c (a+1)=gk T c a ++ dq T a (c+1):=rfl
     repeat' first|refine gf (kf @hlb er) ?_|decide|refine sp ?_ ?_<;>intro _|refine cA hR1 ?_|fail
     all_goals exact rI (wE hs) ⟨a+1,by omega,rfl⟩
   .obtain rfl:a=c+1:=by omega
    repeat' first|refine gf (kf @hla er) ?_|decide|refine sp ?_ ?_<;>intro _|refine cA hR1 ?_|fail
    all_goals exact qW rfl gc
  .have d3:(bR g r == cj r)=false:=Oa.2 hcap;have hqq:bR g r=(q:Int):=by unfold HK at hq;rw [Ny hcap] at hq;exact hq
   rw [hqq] at hC d3
   repeat' first|refine gf (kf d1 (kf d2 (kf d3 er))) ?_|decide|refine sp ?_ ?_<;>intro _|refine cA hC ?_|refine cA hR ?_|refine cA hT ?_|fail
   refine ae (fun st=>∃ a:Nat,a<=c+1 /\ st=⟨55,[(1,eI r),(5,.osl 0),(7,.sl 2 (T.map eP)),(8,eI (a:Int))],[(0,some (.row 221 2 ((gk T c a).map eP)))],1⟩) (fun st=>c+1 - aq st 8) ⟨_,((aR 5 221 2 (by simp only [ia,aj.get,aX,aj.put,↓reduceIte,reduceCtorEq,Nat.reduceLT,Nat.reduceEqDiff,Nat.reduceAdd,Nat.reduceLeDiff,eq_self,implies_true,gk,N3])).trans (wS [0] (kf @gk.eq_1 @gk.eq_2))),0,Nv _,rfl⟩ ?_;rintro _ ⟨a,ha,rfl⟩;by_cases hla:a<=c
   .repeat' first|refine gf (kf @hla er) ?_|decide|refine sp ?_ ?_<;>intro _|refine cA hR1 ?_|fail
    refine ae (fun st=>∃ b:Nat,b<=c+1 /\ st=⟨55,[(1,eI r),(5,.osl 0),(7,.sl 2 (T.map eP)),(8,eI (a:Int)),(9,eI (b:Int))],[(0,some (.row 221 2 ((gk T c a ++ dq T a b).map eP)))],1⟩) (fun st=>c+1 - aq st 9) ⟨_,(wE (kf @dq.eq_1 (kf @O8 @List.filter_nil.{0}))),0,Nv _,rfl⟩ ?_;rintro _ ⟨b,hb,rfl⟩;by_cases hlb:b<=c
    .have hH:=yp T (a:Int) (b:Int) (by omega);have hs:=oH T a b;have hlen:=hb1 a b ha hb;obtain ⟨O,hO⟩:∃ O,O=gk T c a ++ dq T a b:=⟨_,rfl⟩;have hs2:gk T c a ++ dq T a (b+1)=O ++ (if kC T (a:Int) (b:Int)=true then [((a:Int),(b:Int))] else []):=(by rw [hs,hO,Oj]);rw [<- hO] at hlen ⊢
     cases hh:kC T (a:Int) (b:Int) with
     | true=>
      rw [hh,ND rfl] at hs2;rw [hh] at hH;have et:(gk T c a ++ dq T a (b+1)).map eP=O.map eP ++ [[eI (a:Int),eI (b:Int)]]:=by rw [hs2];simp
      repeat' first|refine gf (kf @hlb er) ?_|decide|refine sp ?_ ?_<;>intro _|refine cA hR1 ?_|refine cA hH ?_|(with_reducible apply And.intro)
      all_goals first
       | rfl
       | omega
       | exact rI (wS [2] et) ⟨b+1,by omega,rfl⟩
     | false=>
      rw [hh,Ny (by simp),OK] at hs2;rw [hh] at hH
      repeat' first|refine gf (kf @hlb er) ?_|decide|refine sp ?_ ?_<;>intro _|refine cA hR1 ?_|refine cA hH ?_|fail
      all_goals exact rI (wE hs2) ⟨b+1,by omega,rfl⟩
    .obtain rfl:b=c+1:=by omega
     have hs:gk T c (a+1)=gk T c a ++ dq T a (c+1):=rfl
     repeat' first|refine gf (kf @hlb er) ?_|decide|refine sp ?_ ?_<;>intro _|refine cA hR1 ?_|fail
     all_goals exact rI (wE hs) ⟨a+1,by omega,rfl⟩
   .obtain rfl:a=c+1:=by omega
    repeat' first|refine gf (kf @hla er) ?_|decide|refine sp ?_ ?_<;>intro _|refine cA hR1 ?_|fail
    all_goals exact qW rfl gc
end
section
def gI (L:List Int) (r:Int) (k:Nat):List Int:=(List.range (k - 1)).map fun i=>mY (L.getD i 0) (L.getD (i+1) 0) (cj r)
theorem xO (L:List Int) (r:Int) (k:Nat):gI L r (k+2)=gI L r (k+1) ++ [mY (L.getD k 0) (L.getD (k+1) 0) (cj r)]:=by
 unfold gI;rw [show k+2 - 1=k+1 by omega,show k+1 - 1=k by omega,OL,OB];rfl
def mw (vals c:List Int) (r:Int):Zn:=⟨Be vals c,gI (hY vals c) r (hY vals c).length⟩
theorem n7 (vals:List Int) (n:Int):∀ k,aB (dE vals n k)
 | 0=>by unfold dE aB;omega
 | k+1=>by
  unfold dE;split
  .exact cF (ne _ _)
  .exact n7 vals n k
theorem G1 (r:Int):cj r<=4294967296:=by
 have h1:(2:Nat) ^ (min r.toNat 20)<=2 ^ 20:=Od (by omega) (by omega);have h2:((2 ^ (min r.toNat 20):Nat):Int)=(2:Int) ^ (min r.toNat 20):=by simp
 unfold cj;omega
theorem F8 (vals c:List Int) (r:Int) (h1:vals.length<=31) (h2:c.length<=400) (hv:∀ x ∈ vals,aB x) (hc:∀ x ∈ c,aB x):ax Tryz.prog 118 [sI vals,sI c,eI r] ⟨.agg (ch (mw vals c r)),[],0⟩:=by
 refine ax.still (R:=⟨.agg [.osl 0,.osl 1],[(0,some (.row 128 2 ((Be vals c).map cC))),(1,some (.row 3 1 ((gI (hY vals c) r (hY vals c).length).map fun n=>[eI n])))],2⟩) [0,1] ?_ (by simp [cG.frzs,cG.frz,af.gc,AV.frz,AV.frzL,bE,aE.frz,mw]) (by simp [AV.lt,AV.ltL]);refine aa ah Tryz.func118 rfl (by decide) Tryz.ntmps118 Tryz.results118 rfl (jW (by simp [cr,aE.lt,AV.ltL,AV.lt]) (by simp [AV.lt,AV.ltL])) ?_;have hS:=fg c (by omega);have hN:=vl vals c (by omega) h2;have hLlen:(hY vals c).length<=431:=by have:=d9 (vals ++ c);simp at this;unfold hY;omega
 have hSlen:(bO c).length<=400:=by have:=d9 c;omega
 have hLok:∀ x ∈ hY vals c,aB x:=fun x hx=>by
  have:=((dL (vals ++ c)).2 x).1 hx;rcases NK.1 this with h|h
  .exact hv x h
  .exact hc x h
 have hcl:∀ k,(Be vals c).take k=((hY vals c).take k).map (zF vals c):=fun k=>by unfold Be;rw [List.map_take]
 have hgt:decide (31<(vals.length:Int))=false:=by simp only [NQ];omega
 have hgt2:decide (31<vals.length)=false:=by simp only [NQ];omega
 have hcls:Be vals c=(hY vals c).map (zF vals c):=rfl;obtain ⟨cf,hcf⟩:∃ f,zF vals c=f:=⟨_,rfl⟩;obtain ⟨sc,hsc⟩:∃ sc,bO c=sc:=⟨_,rfl⟩;obtain ⟨L,hL⟩:∃ L,hY vals c=L:=⟨_,rfl⟩;rw [hcls,hcf];rw [hsc] at hS hSlen;rw [hL] at hN hLlen hLok ⊢;have hcfv:∀ n,cf n=⟨dE vals n vals.length,fA sc n sc.length⟩:=fun n=>by rw [<- hcf,<- hsc];rfl
 repeat' first|refine gf (kf @hgt @hgt2) ?_|decide|refine sp ?_ ?_<;>intro _|refine cA hS ?_|refine cA hN ?_|fail
 refine ae (fun st=>∃ k:Nat,k<=L.length /\ st=⟨94,[(0,sI vals),(2,eI r),(6,.op 0 0 0),(7,sI sc),(8,sI L),(9,.op 1 0 0),(10,eI (k:Int))],[(0,some (.box 60 [.c (.slice none 0 0),.c (.slice none 0 0)])),(1,some (.box 60 [.osl 2,.osl 3])),(2,some (.row 128 2 ((L.take k).map fun n=>cC (cf n)))),(3,some (.row 3 1 ((gI L r k).map fun n=>[eI n])))],4⟩) (fun st=>L.length - aq st 10)
  ⟨_,((dN 1 0 128 2 (t:=60) (cells:=[.c (.slice none 0 0),.c (.slice none 0 0)]) (by simp [af.gc]) rfl).trans ((dN 1 1 3 1 (t:=60) (cells:=[.osl 2,.c (.slice none 0 0)]) (by simp [af.gc]) rfl).trans (wE (kf @PQ (kf @PR (kf @NJ (kf @gI.eq_1 (kf @O8 @Nat.zero_sub)))))))),0,Nv _,rfl⟩ ?_
 rintro _ ⟨k,hk,rfl⟩;by_cases hlt:k<L.length
 .obtain ⟨n,hn⟩:∃ n,L[k]=n:=⟨_,rfl⟩
  repeat' first|refine gf @hlt ?_|decide|refine sp ?_ ?_<;>intro _
  refine ae (fun st=>∃ i:Nat,i<=vals.length /\ st=⟨94,[(0,sI vals),(2,eI r),(6,.op 0 0 0),(7,sI sc),(8,sI L),(9,.op 1 0 0),(10,eI (k:Int)),(11,.op 4 0 0),(12,eI (i:Int))],[(0,some (.box 60 [.c (.slice none 0 0),.c (.slice none 0 0)])),(1,some (.box 60 [.osl 2,.osl 3])),(2,some (.row 128 2 ((L.take k).map fun n=>cC (cf n)))),(3,some (.row 3 1 ((gI L r k).map fun n=>[eI n]))),(4,some (.box 128 [eI (dE vals n i),eI (-1)]))],5⟩) (fun st=>vals.length - aq st 12) ⟨_,(wE (kf @dE.eq_1 @dE.eq_2)),0,Nv _,rfl⟩ ?_;rintro _ ⟨i,hi,rfl⟩;by_cases hi2:i<vals.length
  .have hP:=qR (dE vals n i) (i:Int) true (n7 vals n i) (by omega) (by omega);by_cases he:vals[i]=n
   .have hev:(vals[i] == n)=true:=by simpa using he
    have hst:dE vals n (i+1)=cY (dE vals n i) (i:Int):=by
     rw [dE,ND (by rw [NA,Nq hi2];exact he)]
    repeat' first|refine gq ?_|simp only [ab,hi2,hlt,hn,hev]|decide|refine sp ?_ ?_<;>intro _|refine cA hP ?_|fail
    all_goals exact rI (wE @hst) ⟨i+1,by omega,rfl⟩
   .have hev:(vals[i] == n)=false:=by simpa using he
    have hst:dE vals n (i+1)=dE vals n i:=by
     rw [dE,Ny (by rw [NA,Nq hi2];exact he)]
    repeat' first|refine gq ?_|simp only [ab,hi2,hlt,hn,hev]|decide|refine sp ?_ ?_<;>intro _
    all_goals exact rI (wE @hst) ⟨i+1,by omega,rfl⟩
  .obtain rfl:i=vals.length:=by omega
   obtain ⟨A,hA⟩:∃ A,dE vals n vals.length=A:=⟨_,rfl⟩;rw [hA]
   repeat' first|refine gf hi2 ?_|decide|refine sp ?_ ?_<;>intro _
   refine ae (fun st=>∃ i:Nat,i<=sc.length /\ st=⟨94,[(0,sI vals),(2,eI r),(6,.op 0 0 0),(7,sI sc),(8,sI L),(9,.op 1 0 0),(10,eI (k:Int)),(11,.op 4 0 0),(13,eI (i:Int))],[(0,some (.box 60 [.c (.slice none 0 0),.c (.slice none 0 0)])),(1,some (.box 60 [.osl 2,.osl 3])),(2,some (.row 128 2 ((L.take k).map fun n=>cC (cf n)))),(3,some (.row 3 1 ((gI L r k).map fun n=>[eI n]))),(4,some (.box 128 [eI A,eI (fA sc n i)]))],5⟩) (fun st=>sc.length - aq st 13) ⟨_,(wE (kf @fA.eq_1 @fA.eq_2)),0,Nv _,rfl⟩ ?_;rintro _ ⟨i,hi,rfl⟩;by_cases hi3:i<sc.length
   .by_cases he:sc[i]=n
    .have hev:(sc[i] == n)=true:=by simpa using he
     have hst:fA sc n (i+1)=(i:Int):=by
      rw [fA,ND (by rw [NA,Nq hi3];exact he)]
     repeat' first|refine gq ?_|simp only [ab,hi3,hlt,hn,hev]|decide|refine sp ?_ ?_<;>intro _
     all_goals exact rI (wE @hst) ⟨i+1,by omega,rfl⟩
    .have hev:(sc[i] == n)=false:=by simpa using he
     have hst:fA sc n (i+1)=fA sc n i:=by
      rw [fA,Ny (by rw [NA,Nq hi3];exact he)]
     repeat' first|refine gq ?_|simp only [ab,hi3,hlt,hn,hev]|decide|refine sp ?_ ?_<;>intro _
     all_goals exact rI (wE @hst) ⟨i+1,by omega,rfl⟩
   .obtain rfl:i=sc.length:=by omega
    have hx:cf n=⟨A,fA sc n sc.length⟩:=(by rw [hcfv,hA]);have hsn:(L.take (k+1)).map (fun n=>cC (cf n))=(L.take k).map (fun n=>cC (cf n)) ++ [[eI A,eI (fA sc n sc.length)]]:=(by rw [eh _ L hlt,hn,hx]);have htl:(L.take k).length<=431:=by rw [NF];omega
    obtain ⟨C,hC⟩:∃ C,fA sc n sc.length=C:=⟨_,rfl⟩;rw [hC] at hsn ⊢
    cases k with
    | zero=>
     have hg:gI L r (0+1)=gI L r 0:=rfl;have d1:decide (0<((0:Nat):Int))=false:=(by decide);have d2:decide (0<0)=false:=(by decide)
     repeat' first|refine gf (kf hi3 (kf d1 d2)) ?_|decide|refine sp ?_ ?_<;>intro _|(with_reducible apply And.intro)
     all_goals first
      | rfl
      | omega
      | (simp;omega)
      | exact rI (wS [0,1,6,3] (kf @hsn hg)) ⟨0+1,by omega,rfl⟩
    | succ k=>
     have hk0:k<L.length:=(by omega);have hgs:=xO L r k;have e0:L.getD k 0=L[k]:=by rw [NA,Nq hk0];rfl
     have e1:L.getD (k+1) 0=n:=by rw [NA,Nq hlt];exact hn
     rw [e0,e1] at hgs;have hgl:(gI L r (k+1)).length<=431:=by simp [gI];omega
     have hG:=IE L[k] n (cj r) (hLok _ (Nt hk0)) (hn ▸ hLok _ (Nt hlt)) (G1 r);have hCp:=s0 r;have ek:IntKind.i64.wrap (((k+1:Nat):Int) - 1)=(k:Int):=by rw [ar (by omega) (by omega)];omega
     have d1:decide (0<((k+1:Nat):Int))=true:=by simp only [NW];omega
     have d2:decide (0<k+1)=true:=(by simp);have hgm:(gI L r (k+2)).map (fun n=>[eI n])=(gI L r (k+1)).map (fun n=>[eI n]) ++ [[eI (mY L[k] n (cj r))]]:=by rw [hgs];simp
     repeat' first|refine ge (kf hi3 (kf d1 d2)) ?_|decide|refine sp ?_ ?_<;>intro _
     refine aD [1,3] [0,2,3,4,5,6,7,8,9,10,11] (.two 1 (.exec 12 (.exec 13 (.exec 14 (.exec 15 (.take 16 (.exec 17 .done)))))) 12 (.two 1 (.exec 13 (.exec 14 (.exec 15 (.take 16 (.exec 17 .done))))) 13 (.two 1 (.exec 14 (.exec 15 (.take 16 (.exec 17 .done)))) 14 (.exec 1 (.exec 15 (.take 16 (.exec 17 .done))))))) (by kernel_rfl) (by simp [af.gc]) ?_
     repeat' first|refine gq ?_|simp only [ab,hlt,hk0,hn,ek]|decide|refine sp ?_ ?_<;>intro _|refine cA hCp ?_|refine cA hG ?_|(with_reducible apply And.intro)
     all_goals first
      | rfl
      | omega
      | (simp;omega)
      | exact rI (wS [0,1,8,6] (kf @hsn @hgm)) ⟨k+1+1,by omega,rfl⟩
 .obtain rfl:k=L.length:=by omega
  repeat' first|refine gf (kf @hlt @NG) ?_|decide|refine sp ?_ ?_<;>intro _
  exact ⟨[2,3],by decide,rfl,by simp [cb,af.gc]⟩
end
end
end Go.Proofs.YtiaiihjmmfakdaaGreatDoor
