/-
  Parts of the proof: Dgqp7, Dgqp8, Dgqp9, Dgqp10, Dgqp11, Dgqp12.
-/
import Derived.Test.YtiaiihjmmfakdaaGreatDoorDgqq4
import Derived.WalkKit
import Derived.Test.YtiaiihjmmfakdaaGreatDoorRows
import Derived.ProofKit
import Derived.OpenShut
import Derived.SizedLaws
import Derived.WalkSpells
import Derived.ScopeJumps
import Derived.WalkMore
import Derived.WalkLawsBesides
import Derived.Handy
import Derived.Deep.DeepCutAuto
import Derived.Deep.CutBlock
import Derived.BigQuiet
import Derived.Deep.QuietTactic
import Derived.Test.YtiaiihjmmfakdaaGreatDoorSortShelf
import Derived.Deep.LoopGhost
import Derived.Deep.Draws
import Derived.Lib.SlicesCompact
import Derived.Deep.AppendLies
import Derived.Sort.OwnSortedInts
set_option linter.unusedVariables false
set_option linter.unusedSimpArgs false
set_option linter.defProp false
set_option maxRecDepth 100000
set_option maxHeartbeats 16000000
namespace Go.Proofs.YtiaiihjmmfakdaaGreatDoor
open Go.RowKit
section
section
theorem qT:∀ (n:Nat) (l:List Int),l.Nodup -> (∀ x ∈ l,0<=x /\ x<(n:Int)) -> l.length<=n:=by
 intro n
 induction n with
 | zero=>
  intro l _ h
  cases l with
  | nil=>simp
  | cons x l=>have:=h x (by simp);omega
 | succ n ih=>
  intro l hn h;by_cases hm:(n:Int) ∈ l
  .have h1:=ih (l.erase (n:Int)) (hn.erase _) (fun x hx=>by
    have:=(hn.mem_erase_iff).1 hx;have:=h x this.2;omega)
   rw [List.length_erase_of_mem hm] at h1;omega
  .have:=ih l hn (fun x hx=>by
    have h2:=h x hx;have:x ≠ (n:Int):=fun e=>hm (e ▸ hx);omega)
   omega
def gt (l:List Int) (i:Int):Prop:=0<=i /\ i<(l.length:Int)
instance (l:List Int) (i:Int):Decidable (gt l i):=by unfold gt;infer_instance
def py (l:List Int) (i:Int):Int:=if gt l i then i else -1
def kw (l:List Int) (i:Int):Int:=if gt l i then py l (l.getD i.toNat 0) else -1
def f8 (l:List Int) (i:Int):Nat -> Int
 | 0=>py l i
 | k+1=>kw l (f8 l i k)
def Cm (l:List Int) (i:Int):Nat -> Int -> List Int -> List Int
 | 0,_,out=>out
 | f+1,p,out=>if kw l p = -1 \/ kw l p=i \/ kw l p ∈ out then out else Cm l i f (kw l p) (out ++ [kw l p])
def dY (l:List Int) (i:Int):List Int:=Cm l i l.length i []
theorem gN (l:List Int) (i:Int):(gt l i /\ py l i=i) \/ (¬ gt l i /\ py l i = -1):=by
 unfold py;split<;>simp [*]
theorem El (l:List Int) (i:Int):py l i = -1 \/ gt l (py l i):=by
 rcases gN l i with ⟨h,e⟩|⟨_,e⟩<;>rw [e]
 .exact .inr h
 .exact .inl rfl
theorem Gn (l:List Int) (i:Int):kw l i = -1 \/ gt l (kw l i):=by
 unfold kw;split
 .exact El _ _
 .exact .inl rfl
theorem uV (l:List Int) (i:Int):kw l (py l i)=kw l i:=by
 rcases gN l i with ⟨h,e⟩|⟨h,e⟩
 .rw [e]
 .rw [e];unfold kw;rw [KY h,KY (by simp [gt])]
theorem pY (l:List Int):kw l (-1) = -1:=by unfold kw;rw [KY (by simp [gt])]
theorem uG (l:List Int) (i:Int) (k:Nat) (h:f8 l i k = -1):∀ d,f8 l i (k+d) = -1
 | 0=>h
 | d+1=>by rw [<- Mj,f8,uG l i k h d,pY]
theorem rL (l:List Int) (i:Int):f8 l i 1=kw l i:=uV l i
structure nh (l:List Int) (i:Int) (m:Nat) (p:Int) (out:List Int):Prop where
 len:out.length=m
 eq:∀ j,j<m -> out[j]? = some (f8 l i (j+1))
 cur:kw l p=f8 l i (m+1)
 nodup:out.Nodup
 at_:∀ x ∈ out,gt l x
 not:i ∉ out
 room:m<=l.length
 rest:Cm l i (l.length - m) p out=dY l i
theorem nh.start (l:List Int) (i:Int):nh l i 0 i []:=
 ⟨rfl,fun j h=>by omega,(rL l i).symm,List.nodup_nil,fun x h=>by simp at h,by simp,by omega,rfl⟩
def l9 (l:List Int) (i:Int) (p:Int) (out:List Int):Prop:=kw l p = -1 \/ kw l p=i \/ kw l p ∈ out
instance (l:List Int) (i p:Int) (out:List Int):Decidable (l9 l i p out):=by unfold l9;infer_instance
theorem nh.stop {l:List Int} {i:Int} {m:Nat} {p:Int} {out:List Int} (h:nh l i m p out) (hs:l9 l i p out):out=dY l i:=by
 rw [<- h.rest]
 cases l.length - m with
 | zero=>rfl
 | succ f=>rw [Cm];exact (K5 hs).symm
theorem nh.next {l:List Int} {i:Int} {m:Nat} {p:Int} {out:List Int} (h:nh l i m p out) (hs:¬ l9 l i p out):nh l i (m+1) (kw l p) (out ++ [kw l p]) /\ m+1<=l.length:=by
 unfold l9 at hs;simp only [not_or] at hs;have hat:gt l (kw l p):=(Gn l p).resolve_left hs.1
 have hnd:(out ++ [kw l p]).Nodup:=by
  rw [List.nodup_append];refine ⟨h.nodup,by simp,fun a ha b hb e=>?_⟩;simp at hb;subst hb;subst e;exact hs.2.2 ha
 have hall:∀ x ∈ out ++ [kw l p],gt l x:=by
  intro x hx;rcases K2.1 hx with hx|hx
  .exact h.at_ x hx
  .simp at hx;subst hx;exact hat
 have hlen:m+1<=l.length:=by
  have:=qT l.length _ hnd hall;simp [h.len] at this;exact this
 refine ⟨⟨by simp [h.len],fun j hj=>?_,by rw [show f8 l i (m+1+1)=kw l (f8 l i (m+1)) from rfl,h.cur],hnd,hall,?_,hlen,?_⟩,hlen⟩
 .by_cases hjm:j<m
  .rw [Ls (by rw [h.len];exact hjm)];exact h.eq j hjm
  .have:j=m:=by omega
   subst this;rw [LC (by rw [h.len];omega),h.len,Nat.sub_self];simp [h.cur]
 .intro hi;rcases K2.1 hi with hi|hi
  .exact h.not hi
  .simp at hi;exact hs.2.1 hi.symm
 .have:=h.rest;rw [show l.length - m=(l.length - (m+1))+1 from by omega,Cm,KY (by simp only [not_or];exact hs)] at this;exact this
theorem wq (l:List Int) (i:Int):∃ m p,nh l i m p (dY l i) /\ l9 l i p (dY l i):=by
 have key:∀ (f m:Nat) (p:Int) (out:List Int),nh l i m p out -> l.length+1 - m<=f -> ∃ m p,nh l i m p (dY l i) /\ l9 l i p (dY l i):=by
  intro f
  induction f with
  | zero=>intro m p out h hf;have:=h.room;omega
  | succ f ih=>
   intro m p out h hf;by_cases hs:l9 l i p out
   .have e:=h.stop hs;rw [e] at h hs;exact ⟨m,p,h,hs⟩
   .have:=(h.next hs).1;exact ih _ _ _ this (by omega)
 exact key _ 0 i [] (nh.start l i) (KW _)
def mK (l:List Int) (i:Int):Prop:=gt l i /\ kw l (((dY l i).getLast?).getD i)=i
instance (l:List Int) (i:Int):Decidable (mK l i):=by unfold mK;infer_instance
theorem C9 {l:List Int} {i:Int} {m:Nat} {p:Int} {out:List Int} (h:nh l i m p out):kw l ((out.getLast?).getD i)=f8 l i (m+1):=by
 cases m with
 | zero=>
  have:out=[]:=LQ h.len;subst this;exact (rL l i).symm
 | succ m=>
  have h1:=h.eq m (by omega);rw [List.getLast?_eq_getElem?,h.len,MU,h1];rfl
theorem DD {l:List Int} {i:Int} {m:Nat} {p:Int} (h:nh l i m p (dY l i)) (hs:l9 l i p (dY l i)) (hc:f8 l i (m+1) ≠ i \/ i = -1):∀ j,f8 l i (j+1) = -1 \/ f8 l i (j+1) ∈ dY l i:=by
 have hst:f8 l i (m+1) = -1 \/ f8 l i (m+1) ∈ dY l i:=by
  rw [<- h.cur];rcases hs with hs|hs|hs
  .exact .inl hs
  .rw [h.cur] at hs;rcases hc with hc|hc
   .exact absurd hs hc
   .rw [h.cur,hs,hc];exact .inl rfl
  .exact .inr hs
 intro j
 induction j with
 | zero=>
  cases m with
  | zero=>exact hst
  | succ m=>exact .inr (KO (h.eq 0 (by omega)))
 | succ j ih=>
  rcases ih with ih|ih
  .left;rw [f8,ih,pY]
  .obtain ⟨a,ha⟩:=List.mem_iff_getElem?.1 ih;have ham:a<m:=by rw [<- h.len];exact (KS.1 ha).1
   rw [h.eq a ham] at ha
   have e:f8 l i (j+1+1)=f8 l i (a+1+1):=by
    show kw l (f8 l i (j+1))=kw l (f8 l i (a+1));rw [Mk ha]
   rw [e];by_cases ham2:a+1<m
   .exact .inr (KO (h.eq (a+1) ham2))
   .have:a+1=m:=by omega
    rw [this];exact hst
theorem sb {l:List Int} {i:Int} {x:Int} (hx:x ∈ dY l i):∃ j,1<=j /\ j<=l.length /\ f8 l i j=x:=by
 obtain ⟨m,p,h,_⟩:=wq l i;obtain ⟨a,ha⟩:=List.mem_iff_getElem?.1 hx;have ham:a<m:=by rw [<- h.len];exact (KS.1 ha).1
 rw [h.eq a ham] at ha;exact ⟨a+1,by omega,by have:=h.room;omega,Mk ha⟩
theorem rd (l:List Int) (i x:Int) (hx:0<=x) (hne:i ≠ x):x ∈ dY l i ↔ ∃ j,1<=j /\ j<=l.length /\ f8 l i j=x:=by
 refine ⟨sb,fun ⟨j,h1,h2,h3⟩=>?_⟩;obtain ⟨m,p,h,hs⟩:=wq l i;by_cases hc:f8 l i (m+1)=i
 .
  have key:∀ j,f8 l i (j+1) ∈ dY l i \/ f8 l i (j+1)=i \/ f8 l i (j+1) = -1:=by
   intro j
   induction j with
   | zero=>
    cases m with
    | zero=>exact .inr (.inl hc)
    | succ m=>exact .inl (KO (h.eq 0 (by omega)))
   | succ j ih=>
    rcases ih with ih|ih|ih
    .obtain ⟨a,ha⟩:=List.mem_iff_getElem?.1 ih;have ham:a<m:=by rw [<- h.len];exact (KS.1 ha).1
     rw [h.eq a ham] at ha
     have e:f8 l i (j+1+1)=f8 l i (a+1+1):=by
      show kw l (f8 l i (j+1))=kw l (f8 l i (a+1));rw [Mk ha]
     rw [e];by_cases ham2:a+1<m
     .exact .inl (KO (h.eq (a+1) ham2))
     .have:a+1=m:=by omega
      rw [this];exact .inr (.inl hc)
    .have e:f8 l i (j+1+1)=f8 l i 1:=by
      show kw l (f8 l i (j+1))=f8 l i 1;rw [ih,rL]
     rw [e]
     cases m with
     | zero=>exact .inr (.inl hc)
     | succ m=>exact .inl (KO (h.eq 0 (by omega)))
    .right;right;rw [f8,ih,pY]
  have:=key (j - 1);rw [show j - 1+1=j from by omega,h3] at this;rcases this with this|this|this
  .exact this
  .exact absurd this.symm hne
  .omega
 .have:=DD h hs (.inl hc) (j - 1);rw [show j - 1+1=j from by omega,h3] at this;rcases this with this|this
  .omega
  .exact this
theorem Ca (l:List Int) (i:Int) (hi:gt l i):mK l i ↔ ∃ j,1<=j /\ j<=l.length /\ f8 l i j=i:=by
 obtain ⟨m,p,h,hs⟩:=wq l i;unfold mK;rw [C9 h];refine ⟨fun hh=>⟨m+1,by omega,?_,hh.2⟩,fun ⟨j,h1,h2,h3⟩=>⟨hi,?_⟩⟩
 .have hnd:(i :: dY l i).Nodup:=List.nodup_cons.2 ⟨h.not,h.nodup⟩
  have:=qT l.length _ hnd (fun x hx=>by
   rcases LR.1 hx with rfl|hx
   .exact hi
   .exact h.at_ x hx)
  simp [h.len] at this;omega
 .by_cases hc:f8 l i (m+1)=i
  .exact hc
  .have:=DD h hs (.inl hc) (j - 1);rw [show j - 1+1=j from by omega,h3] at this;rcases this with this|this
   .have:=hi.1;omega
   .exact absurd this h.not
def jv (l:List Int):Int:=(((List.range l.length).find? fun (i:Nat)=>decide (mK l (i:Int))).map fun (i:Nat)=>(i:Int)).getD (-1)
def se (l:List Int) (i:Int):List Int:=if gt l i then (((List.range l.length).filter fun (k:Nat)=>decide ((k:Int) ≠ i /\ i ∈ dY l (k:Int))).map fun (k:Nat)=>(k:Int)) else []
def FT (l:List Int) (a i:Int):Prop:=∃ j,1<=j /\ j<=l.length /\ 0<=a /\ f8 l i j=a
end
section
open Go.ChangeShapes Go.WideShapes Go.ChangeAt Go.RowKit
theorem IB:ownKnob Tryz.prog.godebug=none:=by kernel_rfl
theorem Ee:laidOutB Tryz.prog=true:=by kernel_rfl
theorem EQ:Tryz.prog.underlying 4=some .bool:=Tryz.underlying4
theorem kW {H:Type} {enc:TypeId × Value -> H} {P:Program} (hl:laidOutB P=true) {W W':World} (hb:Below W.heap.size W W') (sp:Nat -> Bool) :
  ∀ {ts:List TypeId} {vs:List Value} {ds:List (DataW H)} {ps:List MemPlace},(ts.all fun t=>P.readableRec t && decide (t<P.types.size))=true ->
   DataW.TrodAll enc P W 0 (fun _=>true) true ts vs ds ps -> (∀ x ∈ ps,x.block<W.heap.size) -> (∀ p ∈ ps,sp p.block=true) -> DataW.TrodAll enc P W' 0 sp true ts vs ds ps
 | [],[],[],_,_,h,_,_=>h
 | t :: ts,v :: vs,d :: ds,ps,ht,h,hlt,hs=>by
  obtain ⟨p,q,h1,h2,rfl⟩:=h;simp only [List.all_cons,Li,Lp] at ht;refine ⟨p,q,WideElems.Trod_stays hl ht.1.1 ht.1.2 h1 (fun x hx=>hb.same (hlt x (K2.2 (.inl hx)))) (fun x hx=>hs x (K2.2 (.inl hx))),?_,rfl⟩;exact kW hl hb sp (by simpa using ht.2) h2 (fun x hx=>hlt x (K2.2 (.inr hx))) (fun x hx=>hs x (K2.2 (.inr hx)))
 | [],[],_ :: _,_,_,h,_,_=>h.elim
 | [],_ :: _,_,_,_,h,_,_=>h.elim
 | _ :: _,[],_,_,_,h,_,_=>h.elim
 | _ :: _,_ :: _,[],_,_,h,_,_=>h.elim
theorem Ag {H:Type} {enc:TypeId × Value -> H} {f:Func} {s:ChangeSpec} {fid:FuncId} {W:World} {args:Array Value} {ds gs:List (DataW H)} {before:List MemPlace}
  (hts:(f.params.toList.all fun t=>Tryz.prog.readableRec t && decide (t<Tryz.prog.types.size))=true) (hrt:f.resultTypes = #[4]) (hsv:s.vars=[])
  (hW:DataW.Whole enc Tryz.prog f.params.toList s.vars false W args.toList ds gs before)
  (hfn:∀ gs',gs'=[] -> s.fn H (ds ++ gs')={ results:=[.lit (.bool true)],args:=ds })
  (hc:Calls Tryz.prog fid args W fun e W'=>e=.returned (.bool true) /\ Below W.heap.size W W') :
  Calls Tryz.prog fid args W fun e W'=>∃ v,e=.returned v /\ s.post enc Tryz.prog f false true false false W args v W':=by
 refine hc.mono fun e W' ⟨he,hb⟩=>⟨_,he,?_⟩;have hW':=hW;obtain ⟨p,q,hA,hV,rfl,hfz,hnd⟩:=hW;rw [hsv] at hV;obtain ⟨rfl,rfl⟩:=trodVars_none hV;have hlt:∀ x ∈ p,x.block<W.heap.size:=fun x hx=>hW'.lt x (K2.2 (.inl hx));have e1:=hfn [] rfl;refine ⟨ds,[],p ++ [],[],p,[],hW',?_,?_,?_,hb.frame _,fun h=>by cases h⟩
 .rw [e1,hrt];exact trodAll_mk1 (shut_bool EQ true)
 .rw [e1];exact kW Ee hb _ hts hA hlt (fun x hx=>by simpa using hlt x hx)
 .rw [e1,hsv];rfl
end
section
def RI (w:World) (v:Value) (l:List Int):Prop:=(aY (ey .i64)).one w (fun b=>b<w.heap.size) v l
theorem RI.form {w:World} {v:Value} {l:List Int} (h:RI w v l):∃ A c,v=.slice A l.length c /\ l.length<=c:=by
 obtain ⟨A,c,h1,h2,_⟩:=fE h;exact ⟨A,c,h1,h2⟩
theorem RI.at_ {w:World} {A:Option Addr} {n c:Nat} {l:List Int} (h:RI w (.slice A n c) l) {k:Nat} (hk:k<l.length) :
  ∃ b o,A=some ⟨b,o,none⟩ /\ w.cell? ⟨b,o+k,none⟩=some (.int .i64 (l.getD k 0)) /\ -9223372036854775808<=l.getD k 0 /\ l.getD k 0<=9223372036854775807:=by
 obtain ⟨b,o,rfl,hb,_⟩:=ja h (by omega);have:=FV h hk;rw [List.getD,KN hk];exact ⟨b,o,rfl,this⟩
end
section
theorem x6 {w:World} {S:Nat -> Prop} {v:Value} {l:List Int} (h:RT w S v (sI l)) (hS:Ax w S) (hl:∀ x ∈ l,aq x):RI w v l:=by
 obtain ⟨A,cap,rfl,hc,hm,_,hA⟩:=h.sl_inv;refine ⟨A,cap,by simp,by simpa using hc,hm,fun h0=>?_⟩;obtain ⟨b,o,rfl,hb,U,hcell,hr,_⟩:=hA (by simpa using h0);refine ⟨b,o,rfl,hS b hb,fun i hi=>⟨[.int .i64 l[i]],fun j u hu=>?_,rfl,?_⟩⟩
 .have h1:(l.map fun n=>[eI n])[i]? = some [eI l[i]]:=by simp [hi]
  have h2:=hcell i 0 _ _ h1 rfl;have h3:=B2 (hr i 0 _ _ h1 rfl)
  cases j with
  | zero=>
   simp at hu;subst hu;rw [h3] at h2;simpa [ey] using h2
  | succ j=>simp at hu
 .have:=hl _ (KQ hi);exact Ah this.1 this.2
theorem CF {vs:Array Value} (h:vs.size=2):∃ a b,vs = #[a,b]:=⟨vs[0],vs[1],by apply MP (by simpa using h);intro i h1 h2;simp at h2;match i with | 0=>rfl | 1=>rfl⟩
theorem a5 {r av:AV} {st:ak} (h:r.ren []=av):dW ⟨r,[],0⟩ st av:=⟨[],List.nodup_nil,h,trivial⟩
theorem tD {l:List (Bool × Int)}:∀ row ∈ l.map ta,∀ av ∈ row,av.plain:=fun row hr av ha=>by
 obtain ⟨n,_,rfl⟩:=K8.1 hr;simp at ha;rcases ha with rfl|rfl<;>trivial
theorem Cc : (Tryz.prog.fieldsOf 154).toList.map (fun f => (f.name, f.type, f.offset)) = [("Mile", 4, 0), ("N", 3, 1)] := by kernel_rfl
theorem zM (op:BinOp) (hop:op=.eql \/ op=.neq) (a b:Bool × Int):pD Tryz.prog op 154 (.agg #[.bool a.1,.int .i64 a.2]) (.agg #[.bool b.1,.int .i64 b.2]) (.bool (if op matches .eql then (a.1 == b.1 && a.2 == b.2) else !(a.1 == b.1 && a.2 == b.2))):=by
 have ht:=Cc
 obtain ⟨f,g,hfs⟩:∃ f g,(Tryz.prog.fieldsOf 154).toList=[f,g]:=by
  generalize (Tryz.prog.fieldsOf 154).toList=l at ht ⊢
  cases l with
  | nil=>simp at ht
  | cons f l=>cases l with
   | nil=>simp at ht
   | cons g l=>cases l with
    | nil=>exact ⟨f,g,rfl⟩
    | cons h l=>simp at ht
 rw [hfs] at ht;simp only [Mc,Lq,List.cons.injEq,Prod.mk.injEq,and_true] at ht;obtain ⟨⟨h1,h2,h3⟩,h4,h5,h6⟩:=ht;refine qU [(.bool a.1,.bool b.1),(.int .i64 a.2,.int .i64 b.2)] (by kernel_rfl) (by kernel_rfl) (by kernel_rfl) (by rw [hfs];rfl) (fun k f' p hk hp=>?_) (by simp [ky,pR]) hop;rw [hfs] at hk
 match k,hk,hp with
 | 0,hk,hp=>
  cases hk;cases hp;refine ⟨by rw [h1];decide,?_,by rw [h3];rfl,by rw [h3];rfl⟩;rw [h2]
  kernel_rfl
 | 1,hk,hp=>
  cases hk;cases hp;refine ⟨by rw [h4];decide,?_,by rw [h6];rfl,by rw [h6];rfl⟩;rw [h5]
  kernel_rfl
 | k+2,hk,hp=>simp at hk
end
section
theorem wn (w:World) (k:Nat) (os:Array Obj):Below w.heap.size w (Sort.grow (w.drewN k) os):=
 ⟨rfl,rfl,rfl,by simp,fun i hi=>by rw [Sort.heap_grow_old _ _ (by simpa using hi)];rfl⟩
theorem zL (n:Int) (w:World) (h:-9223372036854775808<=n /\ n<=9223372036854775807) (htab:JA w) :
  Calls Tryz.prog 41 #[.int .i64 n] w fun e w'=>e=.returned (.string ⟨(Lib.itoa n).toArray⟩) /\ Below w.heap.size w w':=by
 have hfi:=Tryz.internal_strconv_FormatInt_10 n h.1 h.2 w htab;have Hfi:=dI hfi;clear hfi
 go_enter Tryz.func41,Tryz.ntmps41
 go_wp2_with (first
  | (go_at_call 138;refine Hfi.out.mono ?_;rintro e w2 ⟨rfl,k,os,rfl⟩)
  | go_in)
 go_ret
 exact ⟨rfl,wn _ _ _⟩
def nC (n:Int):ByteArray:=⟨(Lib.itoa n).toArray⟩
theorem xP (n:Int) (h:aq n):aw Tryz.prog 41 [eI n] (val (.string (nC n))):=
 dx (dQ Tryz.func41 rfl (by decide)) fun S w vs hS hn hv=>by
  have hn1:vs.size=1:=hn;obtain ⟨a,rfl⟩:∃ a,vs = #[a]:=⟨vs[0],by apply MP (by simpa using hn1);intro i h1 h2;simp at h2;subst h2;rfl⟩;obtain rfl:=B2 (hv 0 a _ rfl rfl);exact zL n w h hS.amb.tab
abbrev sW (xs:List ByteArray):AV:=.sl 1 (xs.map fun s=>[.c (.string s)])
theorem EL {w:World} {S:Nat -> Prop} {v:Value} {xs:List ByteArray} (h:RT w S v (sW xs)) (hS:Ax w S):∃ A cap,v=.slice A xs.length cap /\ (xs ≠ [] -> ∃ b o,A=some ⟨b,o,none⟩ /\ b<w.heap.size /\ xs.length<=cap /\ ∀ (j:Nat) (x:ByteArray),xs[j]? = some x -> w.cell? ⟨b,o+j,none⟩=some (.string x)):=by
 generalize hav:sW xs=av at h
 cases h with
 | sl A n cap sz rows b o U hn hc hm hA hs hcell hone hr=>
  injection hav with e1 e2
  subst e1;subst e2;rw [Lg] at hn;subst hn;refine ⟨A,cap,rfl,fun hne=>?_⟩;have h0:0<xs.length:=List.length_pos_iff.2 hne;obtain ⟨rfl,hb⟩:=hA h0;refine ⟨b,o,rfl,hS.sub b hb,hc,fun j x hx=>?_⟩;have h1:(xs.map fun s=>[AV.c (.string s)])[j]? = some [.c (.string x)]:=by simp [hx]
  have h2:=hcell h0 j 0 _ _ h1 rfl;have h3:=B2 (hr j 0 _ _ h1 rfl);rw [h3] at h2;simpa using h2
 | _=>cases hav
theorem Jo (xs:List ByteArray) (sep:ByteArray) (hN:xs.length<=1000000) (hlen:(Lib.join (xs.map (·.data.toList)) sep.data.toList).length<=1000000000):aw Tryz.prog 190 [sW xs,.c (.string sep)] (val (.string ⟨(Lib.join (xs.map (·.data.toList)) sep.data.toList).toArray⟩)):=
 dx (dQ Tryz.func190 rfl (by decide)) fun S w vs hS hn hv=>by
  have hn1:vs.size=2:=hn;obtain ⟨a,b,rfl⟩:∃ a b,vs = #[a,b]:=⟨vs[0],vs[1],by apply MP (by simpa using hn1);intro i h1 h2;simp at h2;match i with|0=>rfl|1=>rfl⟩;obtain rfl:=B2 (hv 1 b _ rfl rfl);obtain ⟨A,cap,rfl,h⟩:=EL (hv 0 a _ rfl rfl) hS
  cases xs with
  | nil=>
   refine (Tryz.strings_Join_none A cap sep w).mono fun e w' ⟨h1,h2⟩=>⟨h1,h2 ▸ Below.refl _ _⟩
  | cons x xs=>
   obtain ⟨b,o,rfl,h1,h2,h3⟩:=h (by simp);exact Tryz.strings_Join b o cap (x :: xs) sep w h3 h1 (by omega) h2 (by omega)
end
section
abbrev pv (b:Nat):Bool -> AV
 | true=>.op b 0 0
 | false=>.c (.pointer none)
abbrev oC (b i:Nat) (u:Bool) (rest:List AV):List AV:=pv b u :: .osl i :: rest
abbrev xX (l:List ByteArray):ar:=.row 9 1 (l.map fun s=>[eS s])
def df (l:List ByteArray):List UInt8:=l.flatMap fun s=>s.data.toList
theorem zo (l:List ByteArray) (s:ByteArray):df (l ++ [s])=df l ++ s.data.toList:=by simp [df]
theorem Ak (l:List ByteArray) {k:Nat} (h:k<l.length):df (l.take (k+1))=df (l.take k) ++ l[k].data.toList:=by rw [KX h,zo]
theorem Du (l:List ByteArray) (k:Nat):(df (l.take k)).length<=(df l).length:=by
 have h:df l=df (l.take k) ++ df (l.drop k):=by
  unfold df;rw [<- LW,List.take_append_drop]
 rw [h,f4];omega
def mn (P:Program) (f:FuncId) (args rest:List AV) (B B':List UInt8):Prop:=
 ∀ u,jL P f 135 (oC 0 1 u rest) [aO B] (.op 0 0 0 :: args) fun _ c o=>∃ u',c=oC 0 1 u' rest /\ o=[aO B']
def zc (P:Program) (f:FuncId) (args rest:List AV) (v:Value):Prop:=
 ∀ (B:List UInt8) (u:Bool),jL P f 135 (oC 0 1 u rest) [aO B] (.op 0 0 0 :: args) fun av c o=>av=.c v /\ c=oC 0 1 u rest /\ o=[aO B]
def G5 (P:Program) (f:FuncId) (rest:List AV) (l:List ByteArray) (B B':List UInt8):Prop:=
 ∀ u,jL P f 135 (oC 0 1 u rest) [aO B,xX l] [.op 0 0 0,.osl 2] fun _ c o=>∃ u',c=oC 0 1 u' rest /\ o=[aO B']
theorem lF {b i:Nat} {u:Bool} {rest:List AV} (ht:bu rest) (is:List Nat):AV.renL (b :: i :: is) (oC 0 1 u rest)=oC b i u rest:=by
 cases u<;>simp [AV.renL,AV.ren,fq _ ht]
section
variable {P:Program} {st:ak} {f:FuncId} {K:AV -> ak -> Prop} {args rest:List AV} {B B':List UInt8} {b i:Nat} {u:Bool} {w:Option (Nat × List Nat)}
theorem dP (h:mn P f args rest B B') (ht:bu rest) (hro:gb args) (hb:st.tab.get b=some (.box 135 (oC b i u rest))) (hi:st.tab.get i=some (aO B)) (hne:b ≠ i) (hu:∀ p,w=some p -> ∀ id ∈ [b,i],iP p.1 p.2 id)
  (hk:∀ av u',K av { st with tab:=(b,some (.box 135 (oC b st.next u' rest))) :: (st.next,some (aO B')) :: (i,none) :: st.tab,next:=st.next+1 }):fk w P st f (.op b 0 0 :: args) K:=by
 refine j9 (b:=b) [i] (h u) (by show _=AV.ren _ (.op 0 0 0) :: AV.renL _ args;rw [sH _ hro];rfl) (by rw [lF ht];exact hb) ⟨⟨hi,by simp [aF]⟩,trivial⟩ (by simpa using hne) hu fun av c o he=>?_;obtain ⟨u',rfl,rfl⟩:=he;have:=hk av u';simpa [fv,aE,lF ht] using this
theorem iO {v:Value} (h:zc P f args rest v) (ht:bu rest) (hro:gb args) (hb:st.tab.get b=some (.box 135 (oC b i u rest))) (hi:st.tab.get i=some (aO B)) (hne:b ≠ i) (hu:∀ p,w=some p -> ∀ id ∈ [b,i],iP p.1 p.2 id)
  (hk:K (.c v) { st with tab:=(b,some (.box 135 (oC b st.next u rest))) :: (st.next,some (aO B)) :: (i,none) :: st.tab,next:=st.next+1 }):fk w P st f (.op b 0 0 :: args) K:=by
 refine j9 (b:=b) [i] (h B u) (by show _=AV.ren _ (.op 0 0 0) :: AV.renL _ args;rw [sH _ hro];rfl) (by rw [lF ht];exact hb) ⟨⟨hi,by simp [aF]⟩,trivial⟩ (by simpa using hne) hu fun av c o he=>?_;obtain ⟨rfl,rfl,rfl⟩:=he;simpa [fv,aE,lF ht] using hk
theorem cb {l:List ByteArray} {j:Nat} (h:G5 P f rest l B B') (ht:bu rest) (hb:st.tab.get b=some (.box 135 (oC b i u rest))) (hi:st.tab.get i=some (aO B)) (hj:st.tab.get j=some (xX l)) (hne:[b,i,j].Nodup) (hu:∀ p,w=some p -> ∀ id ∈ [b,i,j],iP p.1 p.2 id)
  (hk:∀ av u',K av { st with tab:=(b,some (.box 135 (oC b st.next u' rest))) :: (st.next,some (aO B')) :: (i,none) :: (j,none) :: st.tab,next:=st.next+1 }):fk w P st f [.op b 0 0,.osl j] K:=by
 refine j9 (b:=b) [i,j] (h u) rfl (by rw [lF ht];exact hb) ⟨⟨hi,by simp [aF]⟩,⟨hj,by simp [aF]⟩,trivial⟩ hne hu fun av c o he=>?_;obtain ⟨u',rfl,rfl⟩:=he;have:=hk av u';simpa [fv,aE,lF ht] using this
end
theorem fC (u:Bool):PA (pv 0 u):=by cases u;exact .inl rfl;exact .inr rfl
theorem iJ {cx:Cx} {w:World} {tab:aa} {L:Nat -> Value} {o:ar} (ho:tab.get 0=some o) (h:bx cx w tab L undef (.op 0 0 0)):False:=by
 obtain ⟨_,_,e⟩:=h.op_inv _ _ (bI ho);cases e
theorem ql (rest:List AV) (hr:rest.length=11) (ht:bu rest) (B:List UInt8) (s:ByteArray) (hB:B.length+s.size<=140737488355328):mn Tryz.prog 105 [.c (.string s)] rest B (B ++ s.data.toList):=fun u=>by
 have h:=qg (pv 0 u) (fC u) rest hr (be ht) (fun l=>fq l ht) B s hB;refine ⟨h.1,h.2.1,fun cx w L vs h1 h2 h3=>(h.2.2 cx w L vs h1 h2 h3).mono fun e w' he=>?_⟩;obtain ⟨v,av,c,o,L',e1,⟨e2,e3⟩,e4⟩:=he;exact ⟨v,av,c,o,L',e1,⟨true,e2,e3⟩,e4⟩
theorem CN (rest:List AV) (hr:rest.length=11) (ht:bu rest) (l:List ByteArray) (hl:l.length<=1000000) (B:List UInt8) (hB:B.length+(df l).length<=140737488355328):G5 Tryz.prog 61 rest l B (B ++ df l):=fun u=>by
 have hl2:∀ n,AV.ltL n rest=True:=fun n=>eq_true (be ht);have hren:∀ is,AV.renL is rest=rest:=fun is=>fq is ht;refine cM (Post:=fun c o=>∃ u',c=oC 0 1 u' rest /\ o=[aO (B ++ df l)]) ah Tryz.func61 rfl (by decide) Tryz.ntmps61 Tryz.results61 0 (.op 0 0 0) rfl (lD 0 0) iJ rfl (by kernel_rfl) ⟨(fC u).lt _,by show 1<3;omega,be ht⟩ (by simp [AV.ltL,AV.lt]) (by simp [aF]) ?_;have hz:B ++ df (l.take 0)=B:=by simp [df]
 repeat' first|refine go ?_|simp only [aE]|decide|refine sp ?_ ?_<;>intro _
 refine af (fun st=>∃ (k:Nat) (u':Bool),k<=l.length /\ st=⟨18,[(0,.op 0 0 0),(6,.osl 2),(7,eI (l.length:Int)),(8,eI (k:Int))],[(0,some (.box 135 (oC 0 1 u' rest))),(1,some (aO (B ++ df (l.take k)))),(2,some (xX l))],3⟩) (fun st=>l.length - ap st 8) ⟨_,by cases u<;>exact (wE (kf hz hl2)),0,u,KR _,rfl⟩ ?_;rintro _ ⟨k,u',hk,rfl⟩;by_cases hlt:k<l.length
 .obtain ⟨s,hs⟩:∃ s,s=l[k]:=⟨_,rfl⟩;have hrs:(l.map fun s=>[eS s])[k]?.getD []=[eS s]:=by rw [hs];simp [hlt]
  have ec:=Ak l hlt;have hpre:=Du l (k+1);rw [<- hs] at ec;rw [ec,f4] at hpre;have hss:s.data.toList.length=s.size:=by rw [Ll];rfl
  have eb:B ++ df (l.take k) ++ s.data.toList=B ++ df (l.take (k+1)):=by rw [ec,KZ]
  have hW:=ql rest hr ht (B ++ df (l.take k)) s (by rw [f4];omega);rw [eb] at hW
  repeat' first|refine ge (kf @hlt @hrs) ?_|decide|refine sp ?_ ?_<;>intro _
  refine dP (b:=0) (i:=1) (u:=u') hW ht (by simp [gb,iv]) (by simp [aa.gc]) (by simp [aa.gc]) (by decide) (fun p hp=>by cases hp) fun av u2=>?_;cases u2<;>(repeat' (first|refine go ?_|decide|refine sp ?_ ?_<;>intro _))
  .exact rI (wS [0,3,2] (kf @hren hl2)) ⟨k+1,false,by omega,rfl⟩
  .exact rI (wS [0,3,2] (kf @hren hl2)) ⟨k+1,true,by omega,rfl⟩
 .obtain rfl:k=l.length:=by omega
  rw [K7];cases u'<;>(repeat' (first|refine ge (kf @hlt (kf @eh @d9)) ?_|decide|refine sp ?_ ?_<;>intro _))
  .exact ⟨oC 0 1 false rest,_,⟨false,rfl,rfl⟩,⟨by simp,⟨trivial,by show 1<2;omega,be ht⟩,by simp [aF]⟩,(wS [0,1] (kf @aE.eq_1 (kf @aE.eq_2 (kf @hren hl2))))⟩
  .exact ⟨oC 0 1 true rest,_,⟨true,rfl,rfl⟩,⟨by simp,⟨by show 0<2;omega,by show 1<2;omega,be ht⟩,by simp [aF]⟩,(wS [0,1] (kf @aE.eq_1 (kf @aE.eq_2 (kf @hren hl2))))⟩
end
section
theorem jX (op:Int):bm op = -1 \/ bm op=0 \/ bm op=1 \/ bm op=2:=by
 unfold bm;split
 .exact .inr (.inl rfl)
 .split
  .exact .inr (.inr (.inl rfl))
  .split
   .exact .inr (.inr (.inr rfl))
   .exact .inl rfl
theorem kx {d:Nat} {op:Int} {d':Nat}:rr d op=some d' ↔ 0<=bm op /\ bm op<=d /\ (d':Int)=d+1 - bm op:=by
 unfold rr;rcases jX op with h|h|h|h<;>simp only [h]
 .simp
 .simp;omega
 .by_cases h1:1<=d
  .simp [h1];omega
  .simp [h1];omega
 .by_cases h1:2<=d
  .simp [h1];omega
  .simp [h1];omega
theorem GC (a b:List Int):∀ d,eu (a ++ b) d=(eu a d).bind (eu b):=by
 induction a with
 | nil=>intro d;rfl
 | cons x a ih=>intro d;rw [Md,eu,eu];cases rr d x<;>simp [ih]
theorem sU (ops:List Int) {i:Nat} (h:i<ops.length):eu (ops.take (i+1)) 0=(eu (ops.take i) 0).bind fun d=>rr d ops[i]:=by
 rw [ML,KN h,GC]
 congr 1
 funext d
 simp [eu];cases rr d ops[i]<;>rfl
theorem sE {ops:List Int} {i d':Nat} (h:i<ops.length) (hr:eu (ops.take (i+1)) 0=some d'):∃ d,eu (ops.take i) 0=some d /\ 0<=bm ops[i] /\ bm ops[i]<=d /\ (d':Int)=d+1 - bm ops[i]:=by
 rw [sU ops h] at hr
 cases hd:eu (ops.take i) 0 with
 | none=>simp [hd] at hr
 | some d=>
  simp [hd] at hr;exact ⟨d,rfl,kx.1 hr⟩
def iI (ops:List Int):Nat -> Int -> Int
 | 0,_=>-1
 | i+1,want=>if bm (ops.getD i 0)<0 then -1 else if want+(bm (ops.getD i 0) - 1)=0 then (i:Int) else iI ops i (want+(bm (ops.getD i 0) - 1))
theorem sN {ops:List Int} {i:Nat} (h:i<ops.length):ops.getD i 0=ops[i]:=by simp [h]
theorem xU {ops:List Int} {d e:Nat} (hd:1<=d):∀ (i:Nat) (want:Int) (di:Nat),i<=ops.length -> eu (ops.take i) 0=some di -> (di:Int)=d - 1+want -> 1<=want -> (∀ j,i<=j -> j<=e -> ∃ dj,eu (ops.take j) 0=some dj /\ d<=dj) ->
  ∃ b:Nat,b<i /\ iI ops i want=b /\ eu (ops.take b) 0=some (d - 1) /\ ∀ j,b<j -> j<=e -> ∃ dj,eu (ops.take j) 0=some dj /\ d<=dj
 | 0,want,di,_,hr,hdi,hw,_=>by
  simp [eu] at hr;omega
 | i+1,want,di,hi,hr,hdi,hw,hj=>by
  obtain ⟨d0,h0,h1,h2,h3⟩:=sE (by omega) hr;rw [iI,sN (by omega:i<ops.length),KY (by omega)];by_cases hz:want+(bm ops[i] - 1)=0
  .rw [K5 hz];refine ⟨i,by omega,rfl,by rw [h0];congr 1;omega,fun j h4 h5=>hj j (by omega) h5⟩
  .rw [KY hz]
   obtain ⟨b,h4,h5,h6,h7⟩:=xU (e:=e) hd i (want+(bm ops[i] - 1)) d0 (by omega) h0 (by omega) (by omega) fun j h4 h5=>by
    rcases Ld i j with h6|h6
    .exact hj j (by omega) h5
    .obtain rfl:i=j:=by omega
     exact ⟨d0,h0,by omega⟩
   exact ⟨b,by omega,h5,h6,h7⟩
theorem Dg {ops:List Int} {i d:Nat} (h:i<ops.length) (hr:eu (ops.take (i+1)) 0=some d):1<=d:=by
 obtain ⟨d0,_,h1,h2,h3⟩:=sE h hr;omega
theorem BJ {ops:List Int} {e d:Nat} (he:e<ops.length) (hr:eu (ops.take (e+1)) 0=some d) :
  ∃ b:Nat,b<=e /\ iI ops (e+1) 1=b /\ eu (ops.take b) 0=some (d - 1) /\ ∀ j,b<j -> j<=e+1 -> ∃ dj,eu (ops.take j) 0=some dj /\ d<=dj:=by
 have hd:=Dg he hr
 obtain ⟨b,h1,h2⟩:=xU (e:=e+1) hd (e+1) 1 d (by omega) hr (by omega) (by omega) fun j h1 h2=>by
  obtain rfl:j=e+1:=by omega
  exact ⟨d,hr,KW _⟩
 exact ⟨b,by omega,h2⟩
theorem tC (ops:List Int):∀ (i:Nat) (want:Int),i<=ops.length -> 1<=want -> iI ops i want=0 -> eu (ops.take i) 0=some want.toNat
 | 0,want,_,_,h=>by simp [iI] at h
 | i+1,want,hi,hw,h=>by
  have hlt:i<ops.length:=by omega
  rw [iI,sN hlt] at h;split at h
  .omega
  .rename_i h1;rw [sU ops hlt];split at h
   .rename_i h2;obtain rfl:i=0:=by omega
    have h3:bm ops[0]=0 /\ want=1:=by
     rcases jX ops[0] with h|h|h|h<;>omega
    rw [h3.2];simp only [Lb,eu,Mq];rw [kx];omega
   .rename_i h2;rw [tC ops i _ (by omega) (by omega) h,Mq,kx];omega
theorem Bx {ops:List Int} (h0:0<ops.length):iI ops ops.length 1=0 ↔ eu ops 0=some 1:=by
 constructor
 .intro h;have:=tC ops ops.length 1 (KW _) (by omega) h
  rwa [K7] at this
 .intro h;have e1:ops.length - 1+1=ops.length:=by omega
  obtain ⟨b,h1,h2,h3,h4⟩:=BJ (ops:=ops) (e:=ops.length - 1) (d:=1) (by omega) (by rw [e1,K7];exact h);rw [e1] at h2;rw [h2]
  cases b with
  | zero=>rfl
  | succ b=>
   have:=Dg (by omega) h3;omega
section
variable {cm:aJ -> Option Int} {o d:Int}
theorem G3 (a b:List aJ):∀ r,d8 cm o d (a ++ b) r=(d8 cm o d a r).bind (d8 cm o d b):=by
 induction a with
 | nil=>intro r;rfl
 | cons x a ih=>intro r;rw [Md,d8,d8];cases gn cm o d x r<;>simp [ih]
theorem ye (l:List aJ) {i:Nat} (h:i<l.length):d8 cm o d (l.take (i+1)) []=(d8 cm o d (l.take i) []).bind (gn cm o d l[i]):=by
 rw [ML,KN h,G3]
 congr 1
 funext r
 simp [d8];cases gn cm o d l[i] r<;>rfl
theorem pI {x:aJ} {r r':List Bool} (h:gn cm o d x r=some r'):∃ k:Nat,bm x.op=k /\ k<=r.length /\ ∃ v,r'=v :: r.drop k:=by
 unfold gn at h;split at h
 .rename_i h1;cases h;exact ⟨0,by unfold bm;rw [K5 (by omega)];rfl,by omega,_,rfl⟩
 .split at h
  .rename_i h1;split at h
   .cases h;exact ⟨0,by unfold bm;rw [K5 (by omega)];rfl,by omega,_,rfl⟩
   .cases h
  .split at h
   .rename_i h1;cases h;exact ⟨0,by unfold bm;rw [K5 (by omega)];rfl,by omega,_,rfl⟩
   .split at h
    .rename_i h1;cases h;exact ⟨0,by unfold bm;rw [K5 (by omega)];rfl,by omega,_,rfl⟩
    .split at h
     .rename_i h1;split at h
      .cases h;exact ⟨1,by unfold bm;rw [KY (by omega),K5 (by omega)];rfl,by simp,_,rfl⟩
      .cases h
     .split at h
      .rename_i h1;split at h
       .cases h;exact ⟨2,by unfold bm;rw [KY (by omega),KY (by omega),K5 (by omega)];rfl,by simp,_,rfl⟩
       .cases h
      .cases h
theorem kL {l:List aJ} {i:Nat} {r':List Bool} (h:i<l.length) (hr:d8 cm o d (l.take (i+1)) []=some r'):∃ r,d8 cm o d (l.take i) []=some r /\ gn cm o d l[i] r=some r':=by
 rw [ye l h] at hr
 cases hd:d8 cm o d (l.take i) [] with
 | none=>simp [hd] at hr
 | some r=>
  simp [hd] at hr;exact ⟨r,rfl,hr⟩
theorem pV {l:List aJ}:∀ {i:Nat} {r:List Bool},i<=l.length -> d8 cm o d (l.take i) []=some r -> eu ((l.map aJ.op).take i) 0=some r.length
 | 0,r,_,h=>by
  simp [d8] at h;subst h;simp [eu]
 | i+1,r,hi,h=>by
  obtain ⟨r0,h1,h2⟩:=kL (by omega) h;have h3:=pV (by omega) h1;obtain ⟨k,h4,h5,v,rfl⟩:=pI h2;rw [sU _ (by simp;omega),h3,Mq,kx];simp [h4];omega
theorem DZ {l:List aJ} {e:Nat} {v:Bool} {r:List Bool} (he:e<l.length) (h:d8 cm o d (l.take (e+1)) []=some (v :: r)) :
  ∃ b:Nat,b<=e /\ iI (l.map aJ.op) (e+1) 1=b /\ d8 cm o d (l.take b) []=some r:=by
 have hrow:=pV (by omega) h;obtain ⟨b,h1,h2,h3,h4⟩:=BJ (by simpa using he) hrow;refine ⟨b,h1,h2,?_⟩
 have down:∀ k j,j+k=e+1 -> ∃ q,d8 cm o d (l.take j) []=some q:=by
  intro k
  induction k with
  | zero=>
   intro j hj;obtain rfl:j=e+1:=by omega
   exact ⟨_,h⟩
  | succ k ih=>
   intro j hj;obtain ⟨q,hq⟩:=ih (j+1) (by omega);obtain ⟨q0,hq0,_⟩:=kL (by omega) hq;exact ⟨q0,hq0⟩
 obtain ⟨q,hq⟩:=down (e+1 - b) b (by omega);have hql:=pV (by omega) hq;rw [h3] at hql;have hql:r.length=q.length:=by simpa using hql
 have up:∀ k,b+k<=e+1 -> ∃ t,d8 cm o d (l.take (b+k)) []=some (t ++ q):=by
  intro k
  induction k with
  | zero=>exact fun _=>⟨[],hq⟩
  | succ k ih=>
   intro hk;obtain ⟨t,ht⟩:=ih (by omega);obtain ⟨r1,hr1⟩:=down (e+1 - (b+k+1)) (b+k+1) (by omega);obtain ⟨r0,h5,h6⟩:=kL (by omega) hr1;rw [ht] at h5;cases h5;obtain ⟨c,h7,h8,v',rfl⟩:=pI h6;obtain ⟨dj,h9,h10⟩:=h4 (b+k+1) (by omega) (by omega);have h11:=pV (by omega) hr1;rw [h9] at h11;have h11:dj=(t ++ q).length - c+1:=(by simpa using h11);rw [f4] at h11 h8;simp only [KU] at h10;refine ⟨v' :: t.drop c,?_⟩;rw [show b+(k+1)=b+k+1 by omega,hr1,List.drop_append_of_le_length (by omega)];rfl
 obtain ⟨t,ht⟩:=up (e+1 - b) (by omega);rw [show b+(e+1 - b)=e+1 by omega,h] at ht;have ht:=Mk ht
 have htl:t.length=1:=by
  have:=congrArg List.length ht;simp at this;omega
 obtain ⟨v',rfl⟩:∃ v',t=[v']:=by
  match t,htl with
  | [v'],_=>exact ⟨v',rfl⟩
 rw [hq];simp at ht;rw [ht.2]
end
def gH (vals:List Int) (attrs:Bool) (x:aJ):Bool:=
 !(decide (18<x.op) || (decide (10<x.op) && decide (x.op<15)) || (attrs && decide (3<=x.op) && decide (x.op<=8) && (!(decide (-1<=x.la) && decide (x.la<vals.length)) || !(decide (-1<=x.ra) && decide (x.ra<vals.length)))))
theorem tc (vals:List Int) (a n:Int):(p3 vals a n).isSome=(decide (-1<=a) && decide (a<vals.length)):=by
 unfold p3;by_cases h1:a = -1
 .subst h1;simp;omega
 .rw [KY h1];by_cases h2:a<0
  .rw [K5 h2];simp;omega
  .rw [KY h2];rw [MB];simp;omega
theorem uK (vals:List Int) (x:aJ):(s9 vals x).isSome=((decide (-1<=x.la) && decide (x.la<vals.length)) && (decide (-1<=x.ra) && decide (x.ra<vals.length))):=by
 rw [<- tc vals x.la x.ln,<- tc vals x.ra x.rn];unfold s9;cases p3 vals x.la x.ln<;>cases p3 vals x.ra x.rn<;>rfl
theorem Fa {s:St} {x:aJ} {r:List Bool} (h:gH s.vals true x=true) (h0:0<=bm x.op) (h1:bm x.op<=r.length):∃ r',gn (s9 s.vals) s.opn s.don x r=some r':=by
 have hc:=uK s.vals x;unfold gH at h;simp only [Bool.not_eq_true',Bool.or_eq_false_iff,Lv,Lc,L5,Bool.not_eq_false'] at h;unfold gn;split
 .exact ⟨_,rfl⟩
 .split
  .rename_i h2 h3
   have:(s9 s.vals x).isSome=true:=by
    rw [hc,Li];rcases h.2 with h4|h4
    .rcases h4 with h4 | h4<;>simp at h4<;>omega
    .exact h4
   obtain ⟨c,hc⟩:=LB.1 this;rw [hc];exact ⟨_,rfl⟩
  .split
   .exact ⟨_,rfl⟩
   .split
    .exact ⟨_,rfl⟩
    .split
     .rename_i h6;have:bm x.op=1:=by unfold bm;rw [KY (by omega),K5 (by omega)]
      cases r with
      | nil=>simp at h1;omega
      | cons a r=>exact ⟨_,rfl⟩
     .split
      .rename_i h6;have:bm x.op=2:=by unfold bm;rw [KY (by omega),KY (by omega),K5 (by omega)]
       match r with
       | []=>simp at h1;omega
       | [a]=>simp at h1;omega
       | b :: a :: r=>exact ⟨_,rfl⟩
      .rename_i h2 h3 h4 h5 h6 h7;exfalso;have h8:=h.1;unfold bm at h0;split at h0
       .rename_i h9;rcases h8 with ⟨h10,h11⟩;rcases h11 with h11|h11<;>omega
       .split at h0
        .omega
        .split at h0<;>omega
theorem Cu {s:St} {l:List aJ} (hl:∀ x ∈ l,gH s.vals true x=true):∀ (i:Nat) (d:Nat),i<=l.length -> eu ((l.map aJ.op).take i) 0=some d -> ∃ r,d8 (s9 s.vals) s.opn s.don (l.take i) []=some r /\ r.length=d
 | 0,d,_,h=>by
  simp [eu] at h;exact ⟨[],by simp [d8],h⟩
 | i+1,d,hi,h=>by
  have hlt:i<l.length:=by omega
  obtain ⟨d0,h0,h1,h2,h3⟩:=sE (by simpa using hlt) h;obtain ⟨r,h4,h5⟩:=Cu hl i d0 (by omega) h0;simp only [List.getElem_map] at h1 h2 h3;obtain ⟨r',h6⟩:=Fa (s:=s) (r:=r) (hl l[i] (KQ hlt)) h1 (by omega);have h7:d8 (s9 s.vals) s.opn s.don (l.take (i+1)) []=some r':=by rw [ye l hlt,h4,Mq,h6]
  have h8:=pV (by omega) h7;rw [h] at h8;exact ⟨r',h7,(Mk h8).symm⟩
theorem xB {s:St} {l:List aJ} {r:List Bool} (h:d8 (s9 s.vals) s.opn s.don l []=some r):∀ x ∈ l,gH s.vals true x=true:=by
 intro x hx;obtain ⟨i,hi,rfl⟩:=Le hx
 have down:∀ k j,j+k=l.length -> ∃ q,d8 (s9 s.vals) s.opn s.don (l.take j) []=some q:=by
  intro k
  induction k with
  | zero=>
   intro j hj;obtain rfl:j=l.length:=by omega
   exact ⟨r,by rw [K7];exact h⟩
  | succ k ih=>
   intro j hj;obtain ⟨q,hq⟩:=ih (j+1) (by omega);obtain ⟨q0,hq0,_⟩:=kL (by omega) hq;exact ⟨q0,hq0⟩
 obtain ⟨q,hq⟩:=down (l.length - (i+1)) (i+1) (by omega);obtain ⟨q0,_,h2⟩:=kL hi hq;have hc:=uK s.vals l[i];unfold gH;simp only [Bool.not_eq_true',Bool.or_eq_false_iff,Lv,Lc,L5,Bool.not_eq_false'];unfold gn at h2;split at h2
 .rename_i h3;exact ⟨⟨by omega,by omega⟩,.inl (by omega)⟩
 .split at h2
  .rename_i h3 h4;split at h2
   .rename_i c hcm;rw [hcm] at hc;simp only [Option.isSome_some] at hc;have hc:=hc.symm;rw [Li] at hc;exact ⟨⟨by omega,by omega⟩,.inr hc⟩
   .cases h2
  .split at h2
   .exact ⟨⟨by omega,by omega⟩,.inl (by omega)⟩
   .split at h2
    .exact ⟨⟨by omega,by omega⟩,.inl (by omega)⟩
    .split at h2
     .exact ⟨⟨by omega,by omega⟩,.inl (by omega)⟩
     .split at h2
      .exact ⟨⟨by omega,by omega⟩,.inl (by omega)⟩
      .cases h2
theorem tU {l:List aJ} {s:St} (h1:cp (l.map aJ.op)=0) (h2:∀ x ∈ l,gH s.vals true x=true):∃ b,d8 (s9 s.vals) s.opn s.don l []=some [b] /\ gO l s=some b:=by
 have h3:eu (l.map aJ.op) 0=some 1:=by
  unfold cp at h1;split at h1
  .cases h1
  .split at h1
   .cases h1
   .split at h1
    .assumption
    .cases h1
 obtain ⟨r,h4,h5⟩:=Cu h2 l.length 1 (KW _) (by rw [show l.length=(l.map aJ.op).length by simp,K7];exact h3);rw [K7] at h4
 match r,h5 with
 | [b],_=>
  refine ⟨b,h4,?_⟩;unfold gO pm;rw [KY (by simp [h1]),h4]
theorem uh {l:List aJ} {s:St} (h:¬ (cp (l.map aJ.op)=0 /\ ∀ x ∈ l,gH s.vals true x=true)):gO l s=none:=by
 unfold gO pm;split
 .rfl
 .rename_i h1
  cases hr:d8 (s9 s.vals) s.opn s.don l [] with
  | none=>rfl
  | some r=>exact absurd ⟨by simpa using h1,xB hr⟩ h
end
section
theorem r7:((2:Int)=0)=False:=by simp
theorem dk (s i:Int) (hs:aq s):aw Tryz.prog 92 [eI s,eI i] (val (.bool (aW s i))):=by
 refine ab ah Tryz.func92 rfl (by decide) Tryz.ntmps92 Tryz.results92 rfl (aU _) ?_
 repeat' first|refine go ?_|decide|refine sp ?_ ?_<;>intro _
 .rename_i h;simp at h;simp [aW];omega
 .rename_i h1 h2;simp at h1 h2;simp [aW];omega
 .rename_i h1 h2;simp at h1 h2;obtain ⟨q,rfl⟩:∃ q:Nat,i=(q:Int):=⟨i.toNat,by omega⟩;have e0:s / 2 ^ 0=s:=by simp
  refine af (fun st=>∃ k:Nat,k<=q /\ st=⟨31,[(0,eI (s / 2 ^ k)),(1,eI (q:Int)),(5,eI (k:Int))],[],0⟩) (fun st=>q - ap st 5) ⟨_,(wE e0),0,KR _,rfl⟩ ?_;rintro _ ⟨k,hk,rfl⟩;have hp:(1:Int)<=2 ^ k:=MS (by omega)
  have hd0:-9223372036854775808<=s / 2 ^ k:=by
   refine Int.le_ediv_of_mul_le (by omega) ?_;have:=hs.1;generalize (2:Int) ^ k=p at *;omega
  have hd1:s / 2 ^ k<=9223372036854775807:=by
   by_cases h:s<0
   .have:=Int.ediv_neg_of_neg_of_pos h (by omega:(0:Int)<2 ^ k);omega
   .exact Int.le_trans (Int.ediv_le_self _ (by omega)) hs.2
  have ed:s / 2 ^ (k+1)=s / 2 ^ k / 2:=by
   rw [Int.pow_succ,Int.ediv_ediv_of_nonneg (Int.le_of_lt (MS (by omega)))]
  generalize hx:s / 2 ^ k=x at *;by_cases hxn:x % 2=1 /\ x<0
  .have et:x.tmod 2 = -1:=by
    have h3:x.tmod 2 = -((-x) % 2):=by
     rw [<- LZ (by omega),Int.neg_tmod];omega
    omega
   have en:decide ((-1:Int)<0)=true:=(by decide);have em:IntKind.i64.wrap (0 - (-1))=1:=(by decide);have ew:IntKind.i64.wrap (x - 1)=x - 1:=ay (by omega) (by omega)
   have eq:(x - 1).tdiv 2=x / 2:=by
    have h3:(2:Int) ∣ x - 1:=⟨x / 2,by omega⟩;rw [Int.tdiv_eq_ediv_of_dvd h3];omega
   by_cases hlt:k<q
   .repeat' first|refine ge (kf @hlt (kf @r7 (kf et (kf en (kf em (kf ew eq)))))) ?_|decide|refine sp ?_ ?_<;>intro _
    have ew2:IntKind.i64.wrap (x / 2)=x / 2:=ay (by omega) (by omega);exact rI (wE (kf ed ew2)) ⟨k+1,by omega,rfl⟩
   .obtain rfl:k=q:=by omega
    repeat' first|refine ge (kf @hlt (kf @r7 et)) ?_|decide|refine sp ?_ ?_<;>intro _
    have hk31:(k:Int)<31:=(by omega);simp [aW,hx,hk31,hxn.1]
  have et:x.tmod 2=x % 2:=by
   by_cases h:x<0
   .have h0:x % 2=0:=(by omega);rw [h0];exact Int.tmod_eq_zero_of_dvd ⟨x / 2,by omega⟩
   .exact LZ (by omega)
  have en:decide (x % 2<0)=false:=by simp;omega
  have ew:IntKind.i64.wrap (x - x % 2)=x - x % 2:=ay (by omega) (by omega)
  have eq:(x - x % 2).tdiv 2=x / 2:=by
   have h3:(2:Int) ∣ x - x % 2:=⟨x / 2,by omega⟩;rw [Int.tdiv_eq_ediv_of_dvd h3];omega
  by_cases hlt:k<q
  .repeat' first|refine ge (kf @hlt (kf @r7 (kf et (kf en (kf ew eq))))) ?_|decide|refine sp ?_ ?_<;>intro _
   have ew2:IntKind.i64.wrap (x / 2)=x / 2:=ay (by omega) (by omega);exact rI (wE (kf ed ew2)) ⟨k+1,by omega,rfl⟩
  .obtain rfl:k=q:=by omega
   repeat' first|refine ge (kf @hlt (kf @r7 et)) ?_|decide|refine sp ?_ ?_<;>intro _
   have hk31:(k:Int)<31:=(by omega);simp [aW,hx,hk31];rcases Int.emod_two_eq x with h|h<;>simp [h]
def jN (f:Nat -> Bool):Nat -> Nat
 | 0=>0
 | k+1=>jN f k+if f k=true then 2 ^ k else 0
theorem iD (f:Nat -> Bool):∀ k,jN f k<2 ^ k
 | 0=>by simp [jN]
 | k+1=>by
  have:=iD f k;unfold jN;rw [Nat.pow_succ];split<;>omega
theorem kA (f:Nat -> Bool):∀ k j,(jN f k).testBit j=(decide (j<k) && f j)
 | 0,j=>by simp [jN]
 | k+1,j=>by
  have hl:=iD f k;unfold jN;split
  .rename_i hf;rw [Nat.add_comm];rcases Mz j k with h|h|h
   .rw [Nat.testBit_two_pow_add_gt h,kA f k j];simp [h,show j<k+1 by omega]
   .subst h;rw [Nat.testBit_two_pow_add_eq,kA f j j];simp [hf]
   .rw [Mf,Eq.comm]
    .simp;omega
    .have:2 ^ (k+1)<=2 ^ j:=Lu (by omega) h;rw [Nat.pow_succ] at this;omega
  .rename_i hf;rw [Nat.add_zero,kA f k j];rcases Mz j k with h|h|h
   .simp [h,show j<k+1 by omega]
   .subst h;simp [hf]
   .simp [show ¬ j<k by omega,show ¬ j<k+1 by omega]
theorem qs (f:Nat -> Bool) (j:Nat) (hj:j<31):aW (jN f 31:Nat) (j:Int)=f j:=by
 rw [cJ _ j hj,o7 _ (iD f 31),kA];simp [hj]
theorem yg {a b:Int} (ha:0<=a /\ a<2147483648) (hb:0<=b /\ b<2147483648) (h:∀ j:Nat,j<31 -> aW a j=aW b j):a=b:=by
 have e1:((kY a:Nat):Int)=a:=by unfold kY;omega
 have e2:((kY b:Nat):Int)=b:=by unfold kY;omega
 rw [<- e1,<- e2]
 congr 1
 apply Nat.eq_of_testBit_eq;intro j;by_cases hj:j<31
 .rw [<- cJ a j hj,<- cJ b j hj];exact h j hj
 .rw [Mf (K1 (fu a) (Lu (by omega) (by omega))),Mf (K1 (fu b) (Lu (by omega) (by omega)))]
abbrev sB (l:List Bool):AV:=.sl 1 (l.map fun b=>[eB b])
def lC (l:List Bool) (k:Nat):Int:=(jN (fun i=>l.getD i false) k:Nat)
def xd (k:Nat):Int:=(2 ^ k:Nat)
theorem zz {k:Nat} (hk:k<=31):IntKind.i64.wrap (xd k * 2)=xd (k+1):=by
 have h2:2 ^ k<=2 ^ 31:=Lu (by omega) hk;unfold xd;rw [Nat.pow_succ];generalize 2 ^ k=p at *;rw [ay (by omega) (by omega)];simp
theorem Co {l:List Bool} {k:Nat} (hk:k<=31) (h:l.getD k false=true):IntKind.i64.wrap (lC l k+xd k)=lC l (k+1):=by
 have h2:2 ^ k<=2 ^ 31:=Lu (by omega) hk;have h1:=iD (fun i=>l.getD i false) k;unfold lC xd;rw [jN,K5 h];generalize jN (fun i=>l.getD i false) k=b at *;generalize 2 ^ k=p at *;rw [ay (by omega) (by omega)];simp
theorem FW {l:List Bool} {k:Nat} (h:l.getD k false=false):lC l k=lC l (k+1):=by
 unfold lC;rw [jN,KY (by rw [h];simp)];rfl
theorem Dz (l:List Bool) (hl:l.length<=31):aw Tryz.prog 158 [sB l] (val (.int .i64 (lC l l.length))):=by
 refine ab ah Tryz.func158 rfl (by decide) Tryz.ntmps158 Tryz.results158 rfl (aU _) ?_
 repeat' first|refine go ?_|decide|refine sp ?_ ?_<;>intro _
 have e0:lC l 0=0:=rfl;have e1:xd 0=1:=rfl;refine af (fun st=>∃ k:Nat,k<=l.length /\ st=⟨22,[(0,sB l),(3,eI (lC l k)),(4,eI (xd k)),(5,eI (k:Int))],[],0⟩) (fun st=>l.length - ap st 5) ⟨_,(wE (kf e0 e1)),0,KR _,rfl⟩ ?_;rintro _ ⟨k,hk,rfl⟩;by_cases hlt:k<l.length
 .have ep:=zz (k:=k) (by omega);have eg:l.getD k false=l[k]:=by simp [hlt]
  repeat' first|refine go ?_|simp only [ae,hlt]|decide|refine sp ?_ ?_<;>intro _
  .rename_i hb;have ew:=Co (l:=l) (k:=k) (by omega) (by rw [eg];exact hb);exact rI (wE (kf ew ep)) ⟨k+1,by omega,rfl⟩
  .rename_i hb;have ew:=FW (l:=l) (k:=k) (by rw [eg];exact hb);rw [ew];exact rI (wE ep) ⟨k+1,by omega,rfl⟩
 .obtain rfl:k=l.length:=by omega
  repeat' first|refine go ?_|simp only [ae,hlt]|decide|refine sp ?_ ?_<;>intro _
def nY (s:Int):List Bool:=(List.range 31).map fun (i:Nat)=>aW s (i:Int)
theorem AB (s:Int) (hs:aq s):aw Tryz.prog 157 [eI s] (gi 4 1 ((nY s).map fun b=>[eB b])):=by
 refine ab ah Tryz.func157 rfl (by decide) Tryz.ntmps157 Tryz.results157 rfl (dB _ _ _) ?_
 repeat' first|refine go ?_|decide|refine sp ?_ ?_<;>intro _
 have hil:(nY s).length=31:=by simp [nY]
 refine af (fun st=>∃ k:Nat,k<=31 /\ st=⟨16,[(0,eI s),(3,.osl 0),(4,eI (k:Int))],[(0,some (.row 4 1 (((nY s).take k).map fun b=>[eB b])))],1⟩) (fun st=>31 - ap st 4) ⟨_,((bf 3 4 1 (by simp only [iu,ak.get,bl,ak.put,↓reduceIte,reduceCtorEq,Nat.reduceLT,Nat.reduceEqDiff,Nat.reduceAdd,Nat.reduceLeDiff,eq_self,implies_true,Lb])).trans (wS [0] @Lb)),0,KR _,rfl⟩ ?_;rintro _ ⟨k,hk,rfl⟩;by_cases hlt:k<31
 .have et:((nY s).take (k+1)).map (fun b=>[eB b])=((nY s).take k).map (fun b=>[eB b]) ++ [[eB (aW s (k:Int))]]:=by
   rw [eU (fun b=>[eB b]) (nY s) (show k<(nY s).length by omega)];simp [nY]
  have hkl:((nY s).take k).length=k:=by rw [K6];omega
  have e1:decide ((k:Int)<31)=true:=by simp;omega
  repeat' first|refine ge e1 ?_|decide|refine sp ?_ ?_<;>intro _
  refine aA (dk s k hs) ?_
  repeat' first|refine ge e1 ?_|decide|refine sp ?_ ?_<;>intro _
  refine ⟨rfl,by omega,rI (wS [2] et) ⟨k+1,by omega,rfl⟩⟩
 .obtain rfl:k=31:=by omega
  have e1:decide (((31:Nat):Int)<31)=false:=by decide
  repeat' first|refine ge e1 ?_|decide|refine sp ?_ ?_<;>intro _
  refine bk ?_;simp [aa.gc,Lj (Nat.le_of_eq hil)]
theorem Fq (s:Int) (i:Int) (b:Bool) (h0:0<=i) (h1:i<31):lC ((nY s).set i.toNat b) 31=if b=true then cQ s i else bN s i:=by
 have hr:=iD (fun j=>((nY s).set i.toNat b).getD j false) 31
 have hw:(0:Int)<=(if b=true then cQ s i else bN s i) /\ (if b=true then cQ s i else bN s i)<2147483648:=by
  split
  .unfold cQ;rw [K5 ⟨h0,h1⟩];have:kY s ||| 2 ^ i.toNat<2 ^ 31:=Nat.or_lt_two_pow (fu s) (Nat.pow_lt_pow_right (by omega) (by omega));omega
  .unfold bN;rw [K5 ⟨h0,h1⟩];have:kY s ^^^ (kY s &&& 2 ^ i.toNat)<2 ^ 31:=Nat.xor_lt_two_pow (fu s) (Nat.lt_of_le_of_lt Nat.and_le_left (fu s));omega
 unfold lC;refine yg (by omega) hw fun j hj=>?_;rw [qs _ j hj];have hlen:(nY s).length=31:=by simp [nY]
 have hg:((nY s).set i.toNat b).getD j false=if i.toNat=j then b else aW s (j:Int):=by
  rw [KP,MK];split
  .rename_i h;rw [hlen,K5 (by omega)];rfl
  .simp [nY,hj]
 rw [hg];have e1:(decide (0<=i /\ i<31))=true:=by simp [h0,h1]
 split
 .rename_i h;have h2:((j:Int) == i)=true:=by simp;omega
  cases b
  .simp [gu,h2]
  .simp [rj,e1,h2]
 .rename_i h;have h2:((j:Int) == i)=false:=by simp;omega
  cases b
  .simp [gu,h2]
  .simp [rj,h2]
theorem pz (s i:Int) (b:Bool) (hs:aq s) (h0:0<=i) (h1:i<31):aw Tryz.prog 127 [eI s,eI i,eB b] (val (.int .i64 (if b=true then cQ s i else bN s i))):=by
 refine ab ah Tryz.func127 rfl (by decide) Tryz.ntmps127 Tryz.results127 rfl (aU _) ?_;rw [<- Fq s i b h0 h1];have hlen:(nY s).length=31:=by simp [nY]
 obtain ⟨q,rfl⟩:∃ q:Nat,i=(q:Int):=⟨i.toNat,by omega⟩;have e1:decide ((q:Int)<=30)=true:=by simp;omega
 have hq:q<(nY s).length:=by omega
 have g7:∀ row ∈ (nY s).map (fun b=>[eB b]),∀ av ∈ row,av.plain:=fun row hr av ha=>by
  obtain ⟨n,_,rfl⟩:=K8.1 hr;simp at ha;subst ha;trivial
 have hset:(((nY s).map fun b=>[eB b]).set q [eB b])=((nY s).set q b).map fun b=>[eB b]:=by rw [MW]
 repeat' first|refine ge e1 ?_|decide|refine sp ?_ ?_<;>intro _
 refine iU (AB s hs) (.inr g7) ?_
 repeat' first|refine ge e1 ?_|decide|refine sp ?_ ?_<;>intro _
 have hs':=Dz ((nY s).set q b) (by simp;omega);rw [List.length_set,hlen] at hs';refine ⟨by omega,?_⟩
 repeat' first|refine go ?_|simp only [e1,ae,hq]|decide|refine sp ?_ ?_<;>intro _
 rw [hset];refine aA (by exact hs') ?_
 repeat' first|refine go ?_|decide|refine sp ?_ ?_<;>intro _
end
end
section
section
theorem ms (n:Int):aw Tryz.prog 13 [eI n] (val (.int .i64 (bm n))):=by
 refine ab ah Tryz.func13 rfl (by decide) Tryz.ntmps13 Tryz.results13 rfl (aU _) ?_
 repeat' first|refine go ?_|decide|refine sp ?_ ?_<;>intro _
 all_goals (simp [bm] at *;(repeat' split)<;>omega)
abbrev my (n:Int):List AV:=[eI n,eS ByteArray.empty,eI 0,eS ByteArray.empty,eI 0,eS ByteArray.empty,eS ByteArray.empty,eI 0,eI 0]
abbrev pa (l:List Int):AV:=.sl 9 (l.map my)
theorem AJ (ops:List Int):∀ (i:Nat) (w:Int),-1<=iI ops i w /\ iI ops i w<i \/ iI ops i w = -1
 | 0,w=>.inr rfl
 | i+1,w=>by
  unfold iI;split
  .exact .inr rfl
  .split
   .left;omega
   .rcases AJ ops i (w+(bm (ops.getD i 0) - 1)) with h | h
    .left;omega
    .exact .inr h
theorem Cw (l:List Int) (q:Nat) (hq:q<=l.length) (hl:l.length<=1000000):aw Tryz.prog 28 [pa l,eI ((q:Int) - 1)] (val (.int .i64 (iI l q 1))):=by
 refine ab ah Tryz.func28 rfl (by decide) Tryz.ntmps28 Tryz.results28 rfl (aU _) ?_
 repeat' first|refine go ?_|decide|refine sp ?_ ?_<;>intro _
 refine af (fun st=>∃ (k:Nat) (v:Int),k<=q /\ 1<=v /\ v<=1+2 * ((q:Int) - k) /\ iI l k v=iI l q 1 /\ st=⟨28,[(0,pa l),(5,eI v),(6,eI ((k:Int) - 1))],[],0⟩) (fun st=>(match st.get 6 with | .c (.int _ n)=>(n+1).toNat | _=>0)) ⟨_,wC,q,1,KW _,by omega,by omega,rfl,rfl⟩ ?_;rintro _ ⟨k,v,hk,hv0,hv1,hb,rfl⟩
 cases k with
 | zero=>
  have e0:decide ((0:Int)<=((0:Nat):Int) - 1)=false:=by decide
  repeat' first|refine ge e0 ?_|decide|refine sp ?_ ?_<;>intro _
  rw [<- hb];rfl
 | succ j=>
  have ej:((j+1:Nat):Int) - 1=(j:Int):=by omega
  have hj:j<l.length:=by omega
  simp only [ej];rw [iI,sN hj] at hb
  repeat' first|refine go ?_|simp only [hj,ae]|decide|refine sp ?_ ?_<;>intro _
  refine aA (ms _) ?_;have ha:=jX l[j];generalize bm l[j]=n at ha hb ⊢;have ew1:IntKind.i64.wrap (n - 1)=n - 1:=ay (by omega) (by omega);have ew2:IntKind.i64.wrap (v+(n - 1))=v+(n - 1):=ay (by omega) (by omega)
  repeat' first|refine go ?_|simp only [hj,ae,ew1,ew2]|decide|refine sp ?_ ?_<;>intro _
  .rename_i h;have h:n<0:=(by simpa using h);rw [<- hb,K5 h]
  .rename_i h h2;have h:¬ n<0:=(by simpa using h);have h2:v+(n - 1)=0:=(by simpa using h2);rw [<- hb,KY h,K5 h2]
  .rename_i h h2;have h:¬ n<0:=(by simpa using h);have h2:¬ v+(n - 1)=0:=(by simpa using h2);rw [KY h,KY h2] at hb;have ew:IntKind.i64.wrap ((j:Int) - 1)=(j:Int) - 1:=ay (by omega) (by omega);exact rI (wE ew) ⟨j,v+(n - 1),by omega,by omega,by omega,hb,rfl⟩
theorem pL (l:List Int) (hl:l.length<=1000000):aw Tryz.prog 8 [pa l] (val (.int .i64 (cp l))):=by
 refine ab ah Tryz.func8 rfl (by decide) Tryz.ntmps8 Tryz.results8 rfl (aU _) ?_;have ew:IntKind.i64.wrap ((l.length:Int) - 1)=(l.length:Int) - 1:=ay (by omega) (by omega)
 repeat' first|refine ge ew ?_|decide|refine sp ?_ ?_<;>intro _
 .rename_i h;have h:l.length=0:=by simpa using h
  simp [cp,h]
 .rename_i h h2;have h:¬ l.length=0:=by simpa using h
  have h2:64<l.length:=by simp at h2;omega
  simp only [cp,KY h,K5 h2]
 .rename_i h h2;have h:¬ l.length=0:=by simpa using h
  have h2:¬ 64<l.length:=by simp at h2;omega
  refine aA (Cw l l.length (KW _) hl) ?_;have hz:=Bx (ops:=l) (by omega)
  repeat' first|refine go ?_|decide|refine sp ?_ ?_<;>intro _
  .rename_i h3
   have h3:¬ eu l 0=some 1:=by
    rw [<- hz];simpa using h3
   simp only [cp,KY h,KY h2,KY h3]
  .rename_i h3
   have h3:eu l 0=some 1:=by
    rw [<- hz];simpa using h3
   simp only [cp,KY h,KY h2,K5 h3]
theorem uL (l:List aJ) (hl:l.length<=1000000):aw Tryz.prog 135 [bw l] (gi 76 9 (((l.map aJ.op).take 70).map my)):=by
 refine ab ah Tryz.func135 rfl (by decide) Tryz.ntmps135 Tryz.results135 rfl (dB _ _ _) ?_
 repeat' first|refine go ?_|decide|refine sp ?_ ?_<;>intro _
 refine af (fun st=>∃ k:Nat,k<=l.length /\ k<=70 /\ st=⟨25,[(0,bw l),(3,.osl 0),(4,eI (k:Int))],[(0,some (.row 76 9 (((l.map aJ.op).take k).map my)))],1⟩) (fun st=>l.length - ap st 4) ⟨_,((bf 3 76 9 (by simp only [iu,ak.get,bl,ak.put,↓reduceIte,reduceCtorEq,Nat.reduceLT,Nat.reduceEqDiff,Nat.reduceAdd,Nat.reduceLeDiff,eq_self,implies_true,Lb])).trans (wS [0] @Lb)),0,KR _,by omega,rfl⟩ ?_;rintro _ ⟨k,hk,hk2,rfl⟩
 have hfin:¬ (k<l.length /\ k<70) -> ((l.map aJ.op).take k)=((l.map aJ.op).take 70):=fun h=>by
  by_cases h1:k=70
  .rw [h1]
  .rw [Lj (by simp;omega),Lj (by simp;omega)]
 by_cases hlt:k<l.length
 .by_cases h70:k<70
  .have e1:decide ((k:Int)<70)=true:=by simp;omega
   have et:((l.map aJ.op).take (k+1)).map my=((l.map aJ.op).take k).map my ++ [my l[k].op]:=by
    rw [eU my (l.map aJ.op) (by simpa using hlt)];simp
   have hkl:((l.map aJ.op).take k).length=k:=by simp;omega
   repeat' first|refine go ?_|simp only [ae,hlt,e1]|decide|refine sp ?_ ?_<;>intro _
   refine ⟨rfl,by omega,rI (wS [2] et) ⟨k+1,by omega,by omega,rfl⟩⟩
  .have e1:decide ((k:Int)<70)=false:=by simp;omega
   repeat' first|refine go ?_|simp only [ae,hlt,e1]|decide|refine sp ?_ ?_<;>intro _
   rw [<- hfin (by omega)];exact bk (by simp [aa.gc])
 .repeat' first|refine go ?_|simp only [ae,hlt]|decide|refine sp ?_ ?_<;>intro _
  rw [<- hfin (by omega)];exact bk (by simp [aa.gc])
theorem om (l:List Int) (e:Nat) (he:e<l.length) (h:bm l[e]=0):aw Tryz.prog 50 [pa l,eI (e:Int)] (val (.slice none 0 0)):=by
 refine ab ah Tryz.func50 rfl (by decide) Tryz.ntmps50 Tryz.results50 rfl (aU _) ?_
 repeat' first|refine go ?_|simp only [ae,he]|decide|refine sp ?_ ?_<;>intro _
 refine aA (ms _) ?_;rw [h];have e0:((0:Int) == 0)=true:=by decide
 repeat' first|refine ge e0 ?_|decide|refine sp ?_ ?_<;>intro _
theorem Fi (l:List Int) (e:Nat) (he:e<l.length) (h:bm l[e]=1) (hl:l.length<=1000000):aw Tryz.prog 50 [pa l,eI (e:Int)] (gi 3 1 [[eI ((e:Int) - 1)]]):=by
 refine ab ah Tryz.func50 rfl (by decide) Tryz.ntmps50 Tryz.results50 rfl (dB _ _ _) ?_;have ew:IntKind.i64.wrap ((e:Int) - 1)=(e:Int) - 1:=ay (by omega) (by omega)
 repeat' first|refine go ?_|simp only [ae,he]|decide|refine sp ?_ ?_<;>intro _
 refine aA (ms _) ?_;rw [h]
 repeat' first|refine ge ew ?_|decide|refine sp ?_ ?_<;>intro _
 all_goals first
  | (refine ⟨rfl,bk (by simp [aa.gc])⟩;done)
  | (rename_i h;simp at h;done)
  | exact bk (by simp [aa.gc])
theorem Em (l:List Int) (e:Nat) (he:e<l.length) (h:bm l[e]=2) (hl:l.length<=1000000):aw Tryz.prog 50 [pa l,eI (e:Int)] (gi 3 1 [[eI (iI l e 1 - 1)],[eI ((e:Int) - 1)]]):=by
 refine ab ah Tryz.func50 rfl (by decide) Tryz.ntmps50 Tryz.results50 rfl (dB _ _ _) ?_;have ew:IntKind.i64.wrap ((e:Int) - 1)=(e:Int) - 1:=ay (by omega) (by omega)
 repeat' first|refine go ?_|simp only [ae,he]|decide|refine sp ?_ ?_<;>intro _
 refine aA (ms _) ?_;rw [h]
 repeat' first|refine ge ew ?_|decide|refine sp ?_ ?_<;>intro _
 all_goals first
  | (rename_i h;simp at h;done)
  | skip
 refine aA (Cw l e (by omega) hl) ?_
 have ew2:IntKind.i64.wrap (iI l e 1 - 1)=iI l e 1 - 1:=by
  rcases AJ l e 1 with h|h<;>exact ay (by omega) (by omega)
 repeat' first|refine ge (kf ew ew2) ?_|decide|refine sp ?_ ?_<;>intro _
 exact ⟨rfl,bk (by simp [aa.gc])⟩
def pn (vals:List Int) (a:Int):Bool:=decide (-1<=a) && decide (a<(vals.length:Int))
theorem tz (s:St) (a n:Int):aw Tryz.prog 160 [.agg (i6 s),.agg [eI a,eI n]] (val (.bool (pn s.vals a))):=by
 refine ab ah Tryz.func160 rfl (by decide) Tryz.ntmps160 Tryz.results160 rfl (aU _) ?_;unfold pn
 repeat' first|refine go ?_|decide|refine sp ?_ ?_<;>intro _
 all_goals (rename_i h;rw [h];simp)
theorem Dj (s:St) (a n v:Int) (h:p3 s.vals a n=some v):aw Tryz.prog 162 [.agg (i6 s),.agg [eI a,eI n]] (val (.int .i64 v)):=by
 refine ab ah Tryz.func162 rfl (by decide) Tryz.ntmps162 Tryz.results162 rfl (aU _) ?_;unfold p3 at h;by_cases h1:a = -1
 .rw [K5 h1] at h;cases h;subst h1;have e0:((-1:Int) == -1)=true:=by decide
  repeat' first|refine ge e0 ?_|decide|refine sp ?_ ?_<;>intro _
 .rw [KY h1] at h;by_cases h2:a<0
  .rw [K5 h2] at h;cases h
  .rw [KY h2] at h;obtain ⟨k,rfl⟩:∃ k:Nat,a=(k:Int):=⟨a.toNat,by omega⟩;obtain ⟨hk,rfl⟩:=KS.1 h;simp only [L9] at hk;have e1:((k:Int) == -1)=false:=by rw [LJ];omega
   repeat' first|refine go ?_|simp only [ae,hk,e1]|decide|refine sp ?_ ?_<;>intro _
theorem I4 (op a b:Int):aw Tryz.prog 161 [eI op,eI a,eI b] (val (.bool (Ko op (zH a b)))):=by
  refine ab ah Tryz.func161 rfl (by decide) Tryz.ntmps161 Tryz.results161 rfl (aU _) ?_
  repeat' first|refine go ?_|decide|refine sp ?_ ?_<;>intro _
  all_goals
    (simp only [MC,LJ,ne_eq] at *
     simp_all [Ko,zH]
     try ((repeat' split)<;>simp_all<;>omega))
end
section
theorem nG {l:List Int}:∀ row ∈ l.map my,∀ av ∈ row,av.plain:=fun row hr av ha=>by
 obtain ⟨n,_,rfl⟩:=K8.1 hr;simp [my] at ha;rcases ha with rfl|rfl|rfl|rfl|rfl|rfl|rfl|rfl|rfl<;>trivial
def nS (attrs:Bool) (op:Int):Bool:=attrs && decide (3<=op) && decide (op<=8)
theorem CQ (vals:List Int) (x:aJ) (attrs:Bool):gH vals attrs x = !((decide (18<x.op) || (decide (10<x.op) && decide (x.op<15))) || (nS attrs x.op && (!pn vals x.la || !pn vals x.ra))):=by
 unfold gH nS pn;simp only [Bool.and_assoc,Bool.or_assoc]
theorem qJ (l:List aJ) (s:St) (attrs:Bool) (hl:l.length<=1000000) (b:Bool) (hb:b=true ↔ (cp (l.map aJ.op)=0 /\ ∀ x ∈ l,gH s.vals attrs x=true)):aw Tryz.prog 133 [bw l,.agg (i6 s),eB attrs] (val (.bool b)):=by
 refine ab ah Tryz.func133 rfl (by decide) Tryz.ntmps133 Tryz.results133 rfl (aU _) ?_
 have h70:cp ((l.map aJ.op).take 70)=cp (l.map aJ.op):=by
  by_cases h:l.length<=70
  .rw [Lj (by simpa using h)]
  .have e7:((l.map aJ.op).take 70).length=70:=by rw [K6,Lg];omega
   have e8:(l.map aJ.op).length=l.length:=Lg ..;unfold cp;rw [KY (by omega),K5 (by omega),KY (by omega),K5 (by omega)]
 repeat' first|refine go ?_|decide|refine sp ?_ ?_<;>intro _
 refine iU (uL l hl) (.inr nG) ?_
 repeat' first|refine go ?_|decide|refine sp ?_ ?_<;>intro _
 refine aA (pL _ (by simp;omega)) ?_;rw [h70]
 repeat' first|refine go ?_|decide|refine sp ?_ ?_<;>intro _
 .rename_i h;symm;rw [L4];intro h2;have h3:=(hb.1 h2).1;simp [h3] at h
 .rename_i h;have hc:cp (l.map aJ.op)=0:=by simpa using h
  refine af (fun st=>∃ k:Nat,k<=l.length /\ (∀ i (hi:i<l.length),i<k -> gH s.vals attrs l[i]=true) /\ st=⟨65,[(0,bw l),(2,eB attrs),(4,.op 0 0 0),(7,eI (k:Int))],[(0,some (.box 106 (i6 s)))],1⟩) (fun st=>l.length - ap st 7) ⟨_,wC,0,KR _,fun i _ h=>by omega,rfl⟩ ?_;rintro _ ⟨k,hk,hI,rfl⟩;by_cases hlt:k<l.length
  .have hno:gH s.vals attrs l[k]=false -> b=false:=fun h2=>by
    rw [L4];intro h3;rw [(hb.1 h3).2 _ (KQ hlt)] at h2;cases h2
   have hyes:gH s.vals attrs l[k]=true -> ∀ i (hi:i<l.length),i<k+1 -> gH s.vals attrs l[i]=true:=fun h2 i hi h3=>by
    rcases Ld i k with h4|h4
    .exact hI i hi h4
    .obtain rfl:i=k:=by omega
     exact h2
   rw [CQ] at hno hyes;generalize hx:l[k]=x at hno hyes;obtain ⟨op,la,ln,ra,rn,n,u⟩:=x;simp only at hno hyes;have ex:jO l[k]=[eI op,eI la,eI ln,eI ra,eI rn,eI n,eI u]:=(by rw [hx]);have eop:l[k].op=op:=(by rw [hx])
   repeat' first|refine go ?_|simp only [ae,hlt,ex,eop]|decide|refine sp ?_ ?_<;>intro _
   refine aD (by kernel_rfl) ?_
   repeat' first|refine go ?_|simp only [ae,hlt,ex,eop]|decide|refine sp ?_ ?_<;>intro _
   all_goals first
    | (symm;exact hno (by simp [nS, *]))
    | exact rI wC ⟨k+1,by omega,hyes (by simp [nS, *]),rfl⟩
    | skip
   all_goals
    refine aZ (tz s la ln) ?_
    repeat' first|refine go ?_|simp only [ae,hlt,ex,eop]|decide|refine sp ?_ ?_<;>intro _
    all_goals first
     | (symm;exact hno (by simp [nS, *]))
     | exact rI wC ⟨k+1,by omega,hyes (by simp [nS, *]),rfl⟩
     | skip
   all_goals
    refine aZ (tz s ra rn) ?_
    repeat' first|refine go ?_|simp only [ae,hlt,ex,eop]|decide|refine sp ?_ ?_<;>intro _
    all_goals first
     | (symm;exact hno (by simp [nS, *]))
     | exact rI wC ⟨k+1,by omega,hyes (by simp [nS, *]),rfl⟩
     | skip
  .obtain rfl:k=l.length:=by omega
   repeat' first|refine go ?_|simp only [ae,hlt]|decide|refine sp ?_ ?_<;>intro _
   symm;exact hb.2 ⟨hc,fun x hx=>by obtain ⟨i,hi,rfl⟩:=Le hx;exact hI i hi hi⟩
theorem Ed {s:St} {x:aJ} {c:Int} (h:s9 s.vals x=some c):∃ a b,p3 s.vals x.la x.ln=some a /\ p3 s.vals x.ra x.rn=some b /\ c=zH a b:=by
 unfold s9 at h;split at h
 .rename_i a b ha hb;cases h;exact ⟨a,b,ha,hb,rfl⟩
 .cases h
theorem DE (l:List aJ) (s:St) (hl:l.length<=70) (ho:aq s.opn) (hd:aq s.don):∀ (n e:Nat) (he:e<l.length) (v:Bool) (r:List Bool),e<n -> d8 (s9 s.vals) s.opn s.don (l.take (e+1)) []=some (v :: r) ->
  aw Tryz.prog 134 [bw l,pa (l.map aJ.op),eI (e:Int),.agg (i6 s)] (val (.bool v))
 | 0,e,he,v,r,hn,_=>by omega
 | n+1,e,he,v,r,hn,hr=>by
  refine ab ah Tryz.func134 rfl (by decide) Tryz.ntmps134 Tryz.results134 rfl (aU _) ?_;obtain ⟨r0,h1,h2⟩:=kL he hr;have hel:e<(l.map aJ.op).length:=by simpa using he
  have eo:(l.map aJ.op)[e]=l[e].op:=by simp
  have ih:=DE l s hl ho hd n;have z1:(0:Int)<((1:Nat):Int):=by decide
  have z2:(0:Int)<((2:Nat):Int):=by decide
  have z3:(1:Int)<((2:Nat):Int):=by decide
  generalize hx:l[e]=x at h2 eo;obtain ⟨op,la,ln,ra,rn,xn,u⟩:=x;have ex:jO l[e]=[eI op,eI la,eI ln,eI ra,eI rn,eI xn,eI u]:=by rw [hx]
  simp only at eo;unfold gn at h2;simp only at h2;split at h2
  .rename_i hop;have ha:bm (l.map aJ.op)[e]=0:=by rw [eo];unfold bm;rw [K5 (by omega)]
   have hk:=om (l.map aJ.op) e hel ha;simp at h2;rcases hop with rfl|rfl
   .have hv:v=true:=by rw [<- h2.1];rfl
    subst hv
    repeat' first|refine go ?_|simp only [ae,he,ex]|decide|refine sp ?_ ?_<;>intro _
    refine aA hk ?_;have e1:((1:Int) == 1)=true:=(by decide)
    repeat' first|refine ge e1 ?_|decide|refine sp ?_ ?_<;>intro _
   .have hv:v=false:=by rw [<- h2.1];rfl
    subst hv
    repeat' first|refine go ?_|simp only [ae,he,ex]|decide|refine sp ?_ ?_<;>intro _
    refine aA hk ?_
    repeat' first|refine go ?_|simp only [Int.reduceBEq]|decide|refine sp ?_ ?_<;>intro _
  split at h2
  .rename_i hop;have ha:bm (l.map aJ.op)[e]=0:=by rw [eo];unfold bm;rw [K5 (by omega)]
   have hk:=om (l.map aJ.op) e hel ha;split at h2
   .rename_i c hc;obtain ⟨a,b,hva,hvb,rfl⟩:=Ed hc;simp only at hva hvb;cases h2;have h6:op=3 \/ op=4 \/ op=5 \/ op=6 \/ op=7 \/ op=8:=(by omega);rcases h6 with rfl|rfl|rfl|rfl|rfl|rfl
    all_goals
     repeat' first|refine go ?_|simp only [ae,he,ex]|decide|refine sp ?_ ?_<;>intro _
     refine aA hk ?_
     repeat' first|refine go ?_|simp only [Int.reduceBEq]|decide|refine sp ?_ ?_<;>intro _
     refine aD (by kernel_rfl) ?_
     repeat' first|refine go ?_|decide|refine sp ?_ ?_<;>intro _
     refine aZ (Dj s la ln a hva) ?_
     repeat' first|refine go ?_|decide|refine sp ?_ ?_<;>intro _
     refine aZ (Dj s ra rn b hvb) ?_
     repeat' first|refine go ?_|decide|refine sp ?_ ?_<;>intro _
     refine aZ (I4 _ a b) ?_
     repeat' first|refine go ?_|decide|refine sp ?_ ?_<;>intro _
   .cases h2
  split at h2
  .rename_i hop;have ha:bm (l.map aJ.op)[e]=0:=by rw [eo];unfold bm;rw [K5 (by omega)]
   have hk:=om (l.map aJ.op) e hel ha;subst hop;cases h2
   repeat' first|refine go ?_|simp only [ae,he,ex]|decide|refine sp ?_ ?_<;>intro _
   refine aA hk ?_
   repeat' first|refine go ?_|simp only [Int.reduceBEq]|decide|refine sp ?_ ?_<;>intro _
   refine aA (dk s.opn xn ho) ?_
   repeat' first|refine go ?_|decide|refine sp ?_ ?_<;>intro _
  split at h2
  .rename_i hop;have ha:bm (l.map aJ.op)[e]=0:=by rw [eo];unfold bm;rw [K5 (by omega)]
   have hk:=om (l.map aJ.op) e hel ha;subst hop;cases h2
   repeat' first|refine go ?_|simp only [ae,he,ex]|decide|refine sp ?_ ?_<;>intro _
   refine aA hk ?_
   repeat' first|refine go ?_|simp only [Int.reduceBEq]|decide|refine sp ?_ ?_<;>intro _
   refine aA (dk s.don xn hd) ?_
   repeat' first|refine go ?_|decide|refine sp ?_ ?_<;>intro _
  have hpre:∀ (a:Bool) (q:List Bool),r0=a :: q -> ∃ e0,e=e0+1:=fun a q hq=>by
   cases e with
   | zero=>
    simp [d8] at h1;rw [h1] at hq;cases hq
   | succ e0=>exact ⟨e0,rfl⟩
  split at h2
  .rename_i hop;have ha:bm (l.map aJ.op)[e]=1:=by rw [eo];unfold bm;rw [KY (by omega),K5 (by omega)]
   have hk:=Fi (l.map aJ.op) e hel ha (by simp;omega);subst hop;split at h2
   .rename_i a q;obtain ⟨e0,rfl⟩:=hpre a q rfl;have ee:((e0+1:Nat):Int) - 1=(e0:Int):=(by omega);rw [ee] at hk;have h3:=ih e0 (by omega) a q (by omega) h1;cases h2
    repeat' first|refine go ?_|simp only [ae,he,ex]|decide|refine sp ?_ ?_<;>intro _
    refine iU hk (.inr (eJ (l:=[(e0:Int)]))) ?_
    repeat' first|refine go ?_|simp only [Int.reduceBEq]|decide|refine sp ?_ ?_<;>intro _
    refine aD (by kernel_rfl) ?_
    repeat' first|refine go ?_|simp only [Int.reduceLT,Int.reduceLE,MR,z1,z2,z3]|decide|refine sp ?_ ?_<;>intro _
    refine aZ h3 ?_
    repeat' first|refine go ?_|decide|refine sp ?_ ?_<;>intro _
   .cases h2
  split at h2
  .rename_i hop;have ha:bm (l.map aJ.op)[e]=2:=by rw [eo];unfold bm;rw [KY (by omega),KY (by omega),K5 (by omega)]
   have hk:=Em (l.map aJ.op) e hel ha (by simp;omega);split at h2
   .rename_i b a q;obtain ⟨e0,rfl⟩:=hpre b (a :: q) rfl;have ee:((e0+1:Nat):Int) - 1=(e0:Int):=(by omega);have h3:=ih e0 (by omega) b (a :: q) (by omega) h1;obtain ⟨bg,h4,h5,h6⟩:=DZ (by omega) h1
    have h7:∃ b0,bg=b0+1:=by
     cases bg with
     | zero=>simp [d8] at h6
     | succ b0=>exact ⟨b0,rfl⟩
    obtain ⟨b0,rfl⟩:=h7;have eb:((b0+1:Nat):Int) - 1=(b0:Int):=(by omega);rw [ee,h5,eb] at hk;have h8:=ih b0 (by omega) a q (by omega) h6;cases h2;have h9:op=16 \/ op=17 \/ op=18:=(by omega);rcases h9 with rfl|rfl|rfl
    all_goals
     repeat' first|refine go ?_|simp only [ae,he,ex]|decide|refine sp ?_ ?_<;>intro _
     refine iU hk (.inr (eJ (l:=[(b0:Int),(e0:Int)]))) ?_
     repeat' first|refine go ?_|simp only [Int.reduceBEq]|decide|refine sp ?_ ?_<;>intro _
     refine aD (by kernel_rfl) ?_
     repeat' first|refine go ?_|simp only [Int.reduceLT,Int.reduceLE,MR,z1,z2,z3]|decide|refine sp ?_ ?_<;>intro _
     refine aZ h8 ?_
     repeat' first|refine go ?_|simp only [Int.reduceLT,Int.reduceLE,MR,z1,z2,z3,Int.toNat_one]|decide|refine sp ?_ ?_<;>intro _
     all_goals first|(refine aZ h3 ?_;(repeat' (first|refine go ?_|decide|refine sp ?_ ?_<;>intro _)))|skip
     all_goals first|rfl|(simp_all;done)
   .cases h2
  .cases h2
end
section
theorem ES (l:List Int) (i:Int) (k d:Nat) (x:Int) (h:f8 l i k=py l x) (hx:¬ gt l x):f8 l i (k+d) = -1:=
 uG l i k (by rw [h];exact ((gN l x).resolve_left fun hh=>hx hh.1).2) d
theorem HE (l:List Int) (v:Value) (i n:Int) (w:World) (hl:l.length<=1073741824) (hn0:0<=n) (hn:n<=4294967296) (hv:RI w v l) :
  Calls Tryz.prog 114 #[v,.int .i64 i,.int .i64 n] w fun e w'=>e=.returned (.int .i64 (f8 l i n.toNat)) /\ w=w':=by
 obtain ⟨A,c,rfl,hc⟩:=hv.form;obtain ⟨N,rfl⟩:=Int.eq_ofNat_of_zero_le hn0;rw [L9]
 go_enter Tryz.func114,Tryz.ntmps114
 go_wp2_with fail
 go_loop [1,7] (fun x j=>∃ (k:Nat) (y:Int),k<=N /\ j=.int .i64 (k:Int) /\ x=.int .i64 y /\ f8 l i k=py l y) (fun x j=>N - (intOf j).toNat)
 case atStart=>exact ⟨0,i,KR _,rfl,rfl,rfl⟩
 case round=>
  obtain ⟨k,y,hk,rfl,rfl,hup⟩:=hrel;by_cases hlt:k<N
  .by_cases hy:gt l y
   .obtain ⟨hy1,hy2⟩:=hy;obtain ⟨z,rfl⟩:=Int.eq_ofNat_of_zero_le hy1;obtain ⟨b,o,rfl,hcell,hb1,hb2⟩:=hv.at_ (show z<l.length by omega)
    have e:f8 l i (k+1)=py l (l.getD z 0):=by
     show kw l (f8 l i k)=_;rw [hup,uV];unfold kw;rw [K5 ⟨hy1,hy2⟩];simp
    have E:=dI e;clear hup e;generalize l.getD z 0=y' at *
    go_wp2_with fail
    go_round
    case rel=>exact ⟨k+1,y',by omega,by go_num,rfl,E.out⟩
    case measure=>simp [intOf];omega
   .have e:=ES l i k (N - k) y hup hy;rw [show k+(N - k)=N from by omega] at e;have E:=dI e;clear e hup;by_cases h0:0<=y
    .have h1:(l.length:Int)<=y:=by unfold gt at hy;omega
     clear hy
     go_wp2_with fail
     go_ret
     rw [E.out];exact ⟨rfl,rfl⟩
    .clear hy
     go_wp2_with fail
     go_ret
     rw [E.out];exact ⟨rfl,rfl⟩
  .obtain rfl:k=N:=by omega
   by_cases hy:gt l y
   .have e:f8 l i k=y:=by rw [hup];exact ((gN l y).resolve_right fun hh=>hh.1 hy).2
    have E:=dI e;clear e hup;obtain ⟨hy1,hy2⟩:=hy
    go_wp2_with fail
    go_ret
    rw [E.out];exact ⟨rfl,rfl⟩
   .have e:f8 l i k = -1:=by rw [hup];exact ((gN l y).resolve_left fun hh=>hy hh.1).2
    have E:=dI e;clear e hup;by_cases h0:0<=y
    .have h1:(l.length:Int)<=y:=by unfold gt at hy;omega
     clear hy
     go_wp2_with fail
     go_ret
     rw [E.out];exact ⟨rfl,rfl⟩
    .clear hy
     go_wp2_with fail
     go_ret
     rw [E.out];exact ⟨rfl,rfl⟩
noncomputable instance (l:List Int) (a i:Int):Decidable (FT l a i):=Classical.propDecidable _
theorem B8 (l:List Int) (v:Value) (a i:Int) (w:World) (hl:l.length<=1073741824) (hv:RI w v l) :
  Calls Tryz.prog 74 #[v,.int .i64 a,.int .i64 i] w fun e w'=>e=.returned (.bool (decide (FT l a i))) /\ w=w':=by
 obtain ⟨A,c,rfl,hc⟩:=hv.form
 go_enter Tryz.func74,Tryz.ntmps74
 go_wp2_with fail
 go_loop [7] (fun j=>∃ k:Nat,1<=k /\ k<=l.length+1 /\ j=.int .i64 (k:Int) /\ ∀ m,1<=m -> m<k -> ¬ (0<=a /\ f8 l i m=a)) (fun j=>l.length+1 - (intOf j).toNat)
 case atStart=>exact ⟨1,KW _,by omega,rfl,fun m h1 h2=>by omega⟩
 case round=>
  obtain ⟨k,hk1,hk,rfl,hno⟩:=hrel;have Hno:=dI hno;clear hno;by_cases hlt:k<=l.length
  .have hup:=HE l _ i (k:Int) w hl (by omega) (by omega) hv;rw [L9] at hup;have hyes:0<=a -> f8 l i k=a -> decide (FT l a i)=true:=fun h1 h2=>K4 ⟨k,hk1,hlt,h1,h2⟩
   have hnext:¬ (0<=a /\ f8 l i k=a) -> ∀ m,1<=m -> m<k+1 -> ¬ (0<=a /\ f8 l i m=a):=fun h m h1 h2=>by
    by_cases e:m=k
    .subst e;exact h
    .exact Hno.out m h1 (by omega)
   have Hup:=dI hup;have Hyes:=dI hyes;have Hnext:=dI hnext;clear hup hyes hnext Hno;generalize f8 l i k=y at *;by_cases h0:0<=a
   .by_cases h1:y=a
    .have h2:(y == a)=true:=(by simpa using h1);have E:=dI (Hyes.out h0 h1);clear h1
     go_wp2_with (go_at_call 114;refine Hup.out.mono ?_;rintro e w' ⟨rfl,rfl⟩)
     go_ret
     rw [E.out];exact ⟨rfl,rfl⟩
    .have h2:(y == a)=false:=(by simpa using h1);have E:=dI (Hnext.out (fun hh=>h1 hh.2));clear h1
     go_wp2_with (go_at_call 114;refine Hup.out.mono ?_;rintro e w' ⟨rfl,rfl⟩)
     go_round
     case rel=>exact ⟨k+1,by omega,by omega,by go_num,E.out⟩
     case measure=>simp [intOf];omega
   .have E:=dI (Hnext.out (fun hh=>h0 hh.1))
    go_wp2_with fail
    go_round
    case rel=>exact ⟨k+1,by omega,by omega,by go_num,E.out⟩
    case measure=>simp [intOf];omega
  .have e:decide (FT l a i)=false:=by
    refine K0 fun ⟨m,h1,h2,h3,h4⟩=>Hno.out m h1 (by omega) ⟨h3,h4⟩
   have E:=dI e;clear e
   go_wp2_with fail
   go_ret
   rw [E.out];exact ⟨rfl,rfl⟩
end
section
theorem vL (l:List Int) (k:Nat) (hk:k<l.length) (hno:∀ j,j<k -> ¬ mK l (j:Int)) (hy:mK l (k:Int)):jv l=(k:Int):=by
 unfold jv
 have:(List.range l.length).find? (fun (i:Nat)=>decide (mK l (i:Int)))=some k:=by
  rw [List.find?_range_eq_some];exact ⟨by simpa using hy,by simpa using hk,fun j hj=>by simpa using hno j hj⟩
 rw [this];rfl
theorem zj (l:List Int) (hno:∀ j,j<l.length -> ¬ mK l (j:Int)):jv l = -1:=by
 unfold jv
 have:(List.range l.length).find? (fun (i:Nat)=>decide (mK l (i:Int)))=none:=by
  rw [List.find?_eq_none];intro j hj;simpa using hno j (by simpa using hj)
 rw [this];rfl
theorem qn (l:List Int) (v:Value) (w:World) (hl:l.length<=1073741824) (hv:RI w v l) :
  Calls Tryz.prog 24 #[v] w fun e w'=>e=.returned (.int .i64 (jv l)) /\ Below w.heap.size w w':=by
 obtain ⟨A,c,rfl,hc⟩:=hv.form
 go_enter Tryz.func24,Tryz.ntmps24
 go_wp2_with fail
 go_loop [3] (fun j=>∃ k:Nat,k<=l.length /\ j=.int .i64 (k:Int) /\ ∀ m,m<k -> ¬ mK l (m:Int)) (fun j=>l.length - (intOf j).toNat)
 case atStart=>exact ⟨0,KR _,rfl,fun m hm=>by omega⟩
 case round=>
  obtain ⟨k,hk,rfl,hno⟩:=hrel;have Hno:=dI hno;clear hno;by_cases hlt:k<l.length
  .have ha:=B8 l _ (k:Int) (k:Int) w hl hv;have hci:=Ca l (k:Int) ⟨by omega,by omega⟩
   have e:decide (FT l (k:Int) (k:Int))=decide (mK l (k:Int)):=by
    refine decide_eq_decide.2 ⟨fun ⟨j,h1,h2,_,h3⟩=>hci.2 ⟨j,h1,h2,h3⟩,fun h=>?_⟩;obtain ⟨j,h1,h2,h3⟩:=hci.1 h;exact ⟨j,h1,h2,by omega,h3⟩
   rw [e] at ha;by_cases hy:mK l (k:Int)
   .rw [K4 hy] at ha;have Ha:=dI ha;have E:=dI (vL l k hlt Hno.out hy);clear ha e hci hy
    go_wp2_with (go_at_call 74;refine Ha.out.mono ?_;rintro e w2 ⟨rfl,rfl⟩)
    go_ret
    rw [E.out];exact ⟨rfl,Below.refl _ _⟩
   .rw [K0 hy] at ha;have Ha:=dI ha;have Hy:=dI hy;clear ha e hci hy
    go_wp2_with (go_at_call 74;refine Ha.out.mono ?_;rintro e w2 ⟨rfl,rfl⟩)
    go_round
    case rel=>
     refine ⟨k+1,by omega,by go_num,fun m hm=>?_⟩;by_cases e:m=k
     .subst e;exact Hy.out
     .exact Hno.out m (by omega)
    case measure=>simp [intOf];omega
  .obtain rfl:k=l.length:=by omega
   have E:=dI (zj l Hno.out)
   go_wp2_with fail
   go_ret
   rw [E.out];exact ⟨rfl,Below.refl _ _⟩
end
section
end
section
def W0 (w:World) (vv:Value) (o d:Int) (dv cv:Value):World:=((w.alloc (.cells #[vv,.int .i64 o,.int .i64 d,dv,cv] 106)).alloc (.cells #[.bool false] 4)).alloc (.cells #[.int .i64 0] 37)
end
section
theorem Kf (s i:Int):aw Tryz.prog 143 [eI s,eI i] (val (.bool (aW s i))):=
 dx (dQ Tryz.func143 rfl (by decide)) fun S w vs hS hn hv=>by
  obtain ⟨a,b,rfl⟩:=CF hn;obtain rfl:=B2 (hv 0 a _ rfl rfl);obtain rfl:=B2 (hv 1 b _ rfl rfl);exact (E9 s i w).mono fun e w' ⟨h1,h2⟩=>⟨h1,h2 ▸ Below.refl _ _⟩
theorem Cd (l:List Int) (hl:l.length<=1073741824) (ho:∀ x ∈ l,aq x):aw Tryz.prog 24 [sI l] (val (.int .i64 (jv l))):=
 dx (dQ Tryz.func24 rfl (by decide)) fun S w vs hS hn hv=>by
  obtain ⟨a,rfl⟩:∃ a,vs = #[a]:=⟨vs[0]'(by simp at hn;omega),by apply MP (by simpa using hn);intro i h1 h2;simp at h2;subst h2;rfl⟩;exact qn l a w hl (x6 (hv 0 a _ rfl rfl) hS ho)
def cu (m:aR) (x:Bool × Int):Option (Int × Int × List aJ × Int):=
 if x.1=true then (if 0<=x.2 then (m.miles[x.2.toNat]?).map fun K=>(K.stage,K.event,K.cond,x.2) else none)
 else (if 0<=x.2 then (m.guards[x.2.toNat]?).map fun g=>(g.stage,g.event,g.cond,-1) else none)
def CT (m:aR) (opn st:Int):Bool:=
 ((m.stages.getD st.toNat (⟨#[]⟩,0)).2 == -1) || (decide ((m.stages.getD st.toNat (⟨#[]⟩,0)).2<m.stages.length) && aW opn (m.stages.getD st.toNat (⟨#[]⟩,0)).2)
end
section
def x7 (m:aR) (st:Int):Bool:=decide (0<=st) && decide (st<(m.stages.length:Int))
def ns (m:aR) (opn:Int) (x:Bool × Int) (event:Int):Bool:=
 match cu m x with
 | some (st,ev,_,_)=>x7 m st && ((ev == -1 || ev == event) && (aW opn st == x.1) && (x.1 || CT m opn st))
 | none=>false
def eM (m:aR) (s:St) (x:Bool × Int) (event:Int):Bool:=ns m s.opn x event && (match cu m x with | some (_,_,cond,_)=>qj (gO cond s) | none=>false)
end
section
def qm (l:List Ml) (st d:Int):Nat -> Int
 | 0=>d
 | k+1=>if l[k]?.map (·.stage)=some st then bN (qm l st d k) (k:Int) else qm l st d k
def du (m:aR) (s:St) (x:Bool × Int):St:=
 match cu m x with
 | some (st,_,_,mi)=>
  if x7 m st=true then
   if x.1=true then { s with don:=cQ s.don mi,opn:=(se (fy m) st ++ [st]).foldl bN s.opn }
   else { s with opn:=cQ s.opn st,don:=qm m.miles st s.don m.miles.length }
  else s
 | none=>s
end
section
def fR (m:aR) (event:Int) (s:St) (x:Bool × Int):St:=if eM m s x event=true then du m s x else s
def jM (m:aR) (event:Int) (s:St) (k:Nat):St:=(m.order.take k).foldl (fR m event) s
theorem wT (m:aR) (s:St) (x:Bool × Int):(du m s x).vals=s.vals /\ (du m s x).did=s.did /\ (du m s x).cnt=s.cnt:=by
 unfold du;split
 .split
  .split<;>simp
  .simp
 .simp
theorem wX (m:aR) (event:Int) (s:St) (x:Bool × Int):(fR m event s x).vals=s.vals /\ (fR m event s x).did=s.did /\ (fR m event s x).cnt=s.cnt:=by
 unfold fR;split
 .exact wT m s x
 .simp
theorem kD (m:aR) (event:Int):∀ (l:List (Bool × Int)) (s:St),(l.foldl (fR m event) s).vals=s.vals /\ (l.foldl (fR m event) s).did=s.did /\ (l.foldl (fR m event) s).cnt=s.cnt
 | [],s=>by simp
 | x :: l,s=>by
  have h:=kD m event l (fR m event s x);have h2:=wX m event s x;simp [h,h2]
end
end
section
section
theorem mV (l:List aJ) (s:St) (hl:l.length<=1000000) (ho:aq s.opn) (hd:aq s.don):aw Tryz.prog 91 [bw l,.agg (i6 s)] ⟨.tup [eB (qj (gO l s)),eI (zE (gO l s))],[],0⟩:=by
 refine ab ah Tryz.func91 rfl (by decide) Tryz.ntmps91 Tryz.results91 rfl (⟨fun id o h=>(by cases h),⟨trivial,trivial,trivial⟩⟩) ?_;by_cases hc:cp (l.map aJ.op)=0 /\ ∀ x ∈ l,gH s.vals true x=true
 .have hck:=qJ l s true hl true (by simp only [true_iff];exact hc);obtain ⟨b,h1,h2⟩:=tU hc.1 hc.2
  have hlen:0<l.length /\ l.length<=64:=by
   have:=hc.1;unfold cp at this;simp only [Lg] at this;split at this
   .cases this
   .split at this
    .cases this
    .omega
  have ht:(l.map aJ.op).take 70=l.map aJ.op:=Lj (by simp;omega);have hsh:=uL l hl;rw [ht] at hsh;have ew:IntKind.i64.wrap ((l.length:Int) - 1)=((l.length - 1:Nat):Int):=by rw [ay (by omega) (by omega)];omega
  have hat:=DE l s (by omega) ho hd (l.length) (l.length - 1) (by omega) b [] (by omega) (by rw [show l.length - 1+1=l.length by omega,K7];exact h1)
  repeat' first|refine go ?_|decide|refine sp ?_ ?_<;>intro _
  refine aA hck ?_
  repeat' first|refine go ?_|decide|refine sp ?_ ?_<;>intro _
  refine aB [] [0,1,3,4,5,6] (.exec 2 (.exec 7 (.exec 8 (.exec 9 .done)))) (by kernel_rfl) (by simp) ?_
  repeat' first|refine ge ew ?_|decide|refine sp ?_ ?_<;>intro _
  refine iU hsh (.inr nG) ?_
  repeat' first|refine ge ew ?_|decide|refine sp ?_ ?_<;>intro _
  refine aA (by exact hat) ?_
  repeat' first|refine go ?_|decide|refine sp ?_ ?_<;>intro _
  exact a5 (by rw [h2];rfl)
 .have hck:=qJ l s true hl false (by simp only [LH,false_iff];exact hc)
  repeat' first|refine go ?_|decide|refine sp ?_ ?_<;>intro _
  refine aA hck ?_
  repeat' first|refine go ?_|decide|refine sp ?_ ?_<;>intro _
  exact a5 (by rw [uh hc];rfl)
theorem Ie (m:aR) (hl:m.stages.length<=1000000):aw Tryz.prog 25 [.agg (aM m)] (gi 3 1 ((fy m).map fun n=>[eI n])):=by
 refine ab ah Tryz.func25 rfl (by decide) Tryz.ntmps25 Tryz.results25 rfl (dB _ _ _) ?_
 repeat' first|refine go ?_|decide|refine sp ?_ ?_<;>intro _
 refine af (fun st=>∃ k:Nat,k<=m.stages.length /\ st=⟨22,[(1,.op 0 0 0),(3,.osl 1),(4,eI (k:Int))],[(0,some (.box 32 (aM m))),(1,some (.row 3 1 ((m.stages.take k).map fun p=>[eI p.2])))],2⟩) (fun st=>m.stages.length - ap st 4) ⟨_,((bf 3 3 1 (by simp only [iu,ak.get,bl,ak.put,↓reduceIte,reduceCtorEq,Nat.reduceLT,Nat.reduceEqDiff,Nat.reduceAdd,Nat.reduceLeDiff,eq_self,implies_true,Lb,Lq])).trans (wS [0,1] @Lb)),0,KR _,rfl⟩ ?_;rintro _ ⟨k,hk,rfl⟩;by_cases hlt:k<m.stages.length
 .have et:(m.stages.take (k+1)).map (fun p=>[eI p.2])=(m.stages.take k).map (fun p=>[eI p.2]) ++ [[eI m.stages[k].2]]:=eU _ _ hlt
  repeat' first|refine go ?_|simp only [ae,hlt]|decide|refine sp ?_ ?_<;>intro _
  refine ⟨rfl,by simp only [K6];omega,rI (wS [0,3] et) ⟨k+1,by omega,rfl⟩⟩
 .obtain rfl:k=m.stages.length:=by omega
  repeat' first|refine go ?_|simp only [ae,hlt]|decide|refine sp ?_ ?_<;>intro _
  exact bk (by simp [aa.gc,fy])
theorem F7 (l:List Int) (a i:Int) (hl:l.length<=1073741824) (ho:∀ x ∈ l,aq x):aw Tryz.prog 74 [sI l,eI a,eI i] (val (.bool (decide (FT l a i)))):=
 dx (dQ Tryz.func74 rfl (by decide)) fun S w vs hS hn hv=>by
  obtain ⟨v,v1,v2,rfl⟩:∃ v v1 v2,vs = #[v,v1,v2]:=⟨vs[0]'(by simp at hn;omega),vs[1]'(by simp at hn;omega),vs[2]'(by simp at hn;omega),by
   apply MP
   .simpa using hn
   .intro i h1 h2;simp at h2
    match i,h2 with
    | 0,_=>rfl
    | 1,_=>rfl
    | 2,_=>rfl⟩
  obtain rfl:=B2 (hv 1 v1 _ rfl rfl);obtain rfl:=B2 (hv 2 v2 _ rfl rfl);exact (B8 l v a i w hl (x6 (hv 0 v _ rfl rfl) hS ho)).mono fun e w' ⟨h1,h2⟩=>⟨h1,h2 ▸ Below.refl _ _⟩
theorem cY (n most:Int):aw Tryz.prog 159 [eI n,eI most] (val (.bool (dg n most))):=by
 refine ab ah Tryz.func159 rfl (by decide) Tryz.ntmps159 Tryz.results159 rfl (aU _) ?_;unfold dg
 repeat' first|refine go ?_|decide|refine sp ?_ ?_<;>intro _
 all_goals (rename_i h;rw [h];simp)
theorem rf (m:aR) (s:St) (xm:Bool) (xn event:Int) (hf:p9 m) (ho:aq s.opn) (hd:aq s.don):aw Tryz.prog 130 [.agg (aM m),.agg (i6 s),.agg [eB xm,eI xn],eI event] (val (.bool (eM m s (xm,xn) event))):=by
 refine ab ah Tryz.func130 rfl (by decide) Tryz.ntmps130 Tryz.results130 rfl (aU _) ?_;obtain ⟨hgl,hml,hsl,-⟩:=id hf.sizes
 cases xm with
 | true=>
  by_cases hin:0<=xn /\ xn<(m.miles.length:Int)
  .obtain ⟨k,rfl⟩:∃ k:Nat,xn=(k:Int):=⟨xn.toNat,by omega⟩;have hk:k<m.miles.length:=(by omega);have ei:dg (k:Int) (m.miles.length:Int)=true:=by simp [dg];omega
   have eR:eM m s (true,(k:Int)) event=(dg m.miles[k].stage m.stages.length && ((m.miles[k].event == -1) || (m.miles[k].event == event)) && aW s.opn m.miles[k].stage && qj (gO m.miles[k].cond s)):=by
    simp [eM,ns,cu,hk,x7,dg,Bool.and_assoc]
   rw [eR];have hho:=mV m.miles[k].cond s (by have:=hf.miles _ (KQ hk);omega) ho hd
   repeat' first|refine go ?_|simp only [ae,hk]|decide|refine sp ?_ ?_<;>intro _
   refine aA (cY _ _) ?_
   repeat' first|refine go ?_|simp only [ae,hk,ei]|decide|refine sp ?_ ?_<;>intro _
   refine dU hho (ro) ?_
   repeat' first|refine go ?_|decide|refine sp ?_ ?_<;>intro _
   refine aA (cY _ _) ?_
   repeat' first|refine go ?_|decide|refine sp ?_ ?_<;>intro _
   all_goals first
    | (simp [*];done)
    | (refine aA (dk _ _ ho) ?_;(repeat' (first | refine go ?_ | decide | refine sp ?_ ?_<;>intro _));all_goals (simp [*];done))
  .have ei:dg xn (m.miles.length:Int)=false:=by unfold dg;rw [Lv];simp only [Lc];omega
   have eR:eM m s (true,xn) event=false:=by
    have:cu m (true,xn)=none:=by
     simp only [cu,if_true];split
     .rw [Lh (by omega)];try rfl
     .rfl
    simp [eM,ns,this]
   rw [eR]
   repeat' first|refine go ?_|decide|refine sp ?_ ?_<;>intro _
   refine aA (cY _ _) ?_
   repeat' first|refine ge ei ?_|decide|refine sp ?_ ?_<;>intro _
 | false=>
  by_cases hin:0<=xn /\ xn<(m.guards.length:Int)
  .obtain ⟨k,rfl⟩:∃ k:Nat,xn=(k:Int):=⟨xn.toNat,by omega⟩;have hk:k<m.guards.length:=(by omega);have ei:dg (k:Int) (m.guards.length:Int)=true:=by simp [dg];omega
   have hho:=mV m.guards[k].cond s (by have:=hf.guards _ (KQ hk);omega) ho hd;by_cases hst:0<=m.guards[k].stage /\ m.guards[k].stage<(m.stages.length:Int)
   .obtain ⟨q,hq⟩:∃ q:Nat,m.guards[k].stage=(q:Int):=⟨m.guards[k].stage.toNat,by omega⟩;have hql:q<m.stages.length:=(by omega);have es:dg (q:Int) (m.stages.length:Int)=true:=by simp [dg];omega
    have eR:eM m s (false,(k:Int)) event=(((m.guards[k].event == -1) || (m.guards[k].event == event)) && !aW s.opn q && ((m.stages[q].2 == -1) || (dg m.stages[q].2 m.stages.length && aW s.opn m.stages[q].2)) && qj (gO m.guards[k].cond s)):=by
     have hno:∀ p:Int,(decide (p<(m.stages.length:Int)) && aW s.opn p)=(dg p m.stages.length && aW s.opn p):=fun p=>by
      by_cases h0:0<=p
      .simp [dg,h0]
      .rw [iK _ _ (by omega)];simp
     simp [eM,ns,cu,hk,x7,hq,CT,hql,hno]
    rw [eR]
    repeat' first|refine go ?_|simp only [ae,hk]|decide|refine sp ?_ ?_<;>intro _
    refine aD (by kernel_rfl) ?_
    repeat' first|refine go ?_|simp only [ae,hk]|decide|refine sp ?_ ?_<;>intro _
    refine aZ (cY _ _) ?_
    repeat' first|refine go ?_|simp only [ae,hk,ei]|decide|refine sp ?_ ?_<;>intro _
    refine aZ (cY _ _) ?_;rw [hq]
    repeat' first|refine go ?_|simp only [ae,hk,es,hq,hql]|decide|refine sp ?_ ?_<;>intro _
    refine dU hho (ro) ?_
    repeat' first|refine ge hq ?_|decide|refine sp ?_ ?_<;>intro _
    all_goals first
     | (simp [*];done)
     | (refine aA (dk _ _ ho) ?_;(repeat' (first | refine go ?_ | decide | refine sp ?_ ?_<;>intro _)))
    all_goals first
     | (simp [*];done)
     | (refine aA (cY _ _) ?_;(repeat' (first | refine go ?_ | decide | refine sp ?_ ?_<;>intro _)))
    all_goals first
     | (simp [*];done)
     | (refine aA (dk _ _ ho) ?_;(repeat' (first | refine go ?_ | decide | refine sp ?_ ?_<;>intro _)))
    all_goals (simp [*];done)
   .have es:dg m.guards[k].stage (m.stages.length:Int)=false:=by unfold dg;rw [Lv];simp only [Lc];omega
    have eR:eM m s (false,(k:Int)) event=false:=by
     have:x7 m m.guards[k].stage=false:=by unfold x7;rw [Lv];simp only [Lc];omega
     simp [eM,ns,cu,hk,this]
    rw [eR]
    repeat' first|refine go ?_|simp only [ae,hk]|decide|refine sp ?_ ?_<;>intro _
    refine aD (by kernel_rfl) ?_
    repeat' first|refine go ?_|simp only [ae,hk]|decide|refine sp ?_ ?_<;>intro _
    refine aZ (cY _ _) ?_
    repeat' first|refine go ?_|simp only [ae,hk,ei]|decide|refine sp ?_ ?_<;>intro _
    refine aZ (cY _ _) ?_
    repeat' first|refine go ?_|simp only [ae,hk,es]|decide|refine sp ?_ ?_<;>intro _
  .have ei:dg xn (m.guards.length:Int)=false:=by unfold dg;rw [Lv];simp only [Lc];omega
   have eR:eM m s (false,xn) event=false:=by
    have:cu m (false,xn)=none:=by
     simp only [cu,LH,if_false];split
     .rw [Lh (by omega)];try rfl
     .rfl
    simp [eM,ns,this]
   rw [eR]
   repeat' first|refine go ?_|decide|refine sp ?_ ?_<;>intro _
   refine aD (by kernel_rfl) ?_
   repeat' first|refine go ?_|decide|refine sp ?_ ?_<;>intro _
   refine aZ (cY _ _) ?_
   repeat' first|refine ge ei ?_|decide|refine sp ?_ ?_<;>intro _
end
end
section
section
def cc (o:Int):Prop:=0<=o /\ o<2147483648
theorem cw {o:Int} (h:cc o):aq o:=by unfold cc at h;unfold aq;omega
theorem CL (s:Int):cc (kY s:Int):=by
 have:=fu s;unfold cc;omega
theorem mF (s i:Int):cc (cQ s i):=by
 unfold cQ;split
 .have h1:kY s ||| 2 ^ i.toNat<2 ^ 31:=Nat.or_lt_two_pow (fu s) (Nat.pow_lt_pow_right (by omega) (by omega));unfold cc;omega
 .exact CL s
theorem jT (s i:Int):cc (bN s i):=by
 unfold bN;split
 .have h1:kY s ^^^ (kY s &&& 2 ^ i.toNat)<2 ^ 31:=Nat.xor_lt_two_pow (fu s) (Nat.lt_of_le_of_lt Nat.and_le_left (fu s));unfold cc;omega
 .exact CL s
theorem sv:∀ (l:List Int) (o:Int),cc o -> cc (l.foldl bN o)
 | [],o,h=>h
 | i :: l,o,h=>sv l _ (jT o i)
theorem rD (l:List Ml) (st d:Int) (h:cc d):∀ k,cc (qm l st d k)
 | 0=>h
 | k+1=>by
  unfold qm;split
  .exact jT _ _
  .exact rD l st d h k
theorem uQ:∀ (l:List Int) (o j:Int),aW (l.foldl bN o) j=(aW o j && !decide (j ∈ l))
 | [],o,j=>by simp
 | i :: l,o,j=>by
  rw [List.foldl_cons,uQ l,gu];by_cases h:j=i
  .simp [h]
  .have:(j == i)=false:=by simpa using h
   simp [this,h]
theorem oI (l:List Ml) (st d:Int) (i:Nat):∀ k,aW (qm l st d k) (i:Int)=(aW d (i:Int) && !(decide (i<k) && decide (l[i]?.map (·.stage)=some st)))
 | 0=>by simp [qm]
 | k+1=>by
  unfold qm;split
  .rename_i h;rw [gu,oI l st d i k];by_cases hik:i=k
   .subst hik;simp [h]
   .have e1:((i:Int) == (k:Int))=false:=by simp;omega
    have e2:decide (i<k+1)=decide (i<k):=by rw [decide_eq_decide];omega
    rw [e1,e2];simp
  .rename_i h;rw [oI l st d i k];by_cases hik:i=k
   .subst hik;simp [h]
   .have e2:decide (i<k+1)=decide (i<k):=by rw [decide_eq_decide];omega
    rw [e2]
def dF (s:Int) (p:Nat -> Bool):List Bool:=(List.range 31).map fun (i:Nat)=>aW s (i:Int) && !p i
def fW (q:Nat -> Bool) (k:Nat):Nat -> Bool:=fun i=>decide (i<k) && q i
theorem qN (s:Int) (q:Nat -> Bool):dF s (fW q 0)=nY s:=by simp [dF,nY,fW]
theorem tp (s:Int) (p:Nat -> Bool):(dF s p).length=31:=by simp [dF]
theorem oZ {s:Int} {q:Nat -> Bool} {k:Nat} (h:q k=true):(dF s (fW q k)).set k false=dF s (fW q (k+1)):=by
 apply LU;intro i;rw [MK];simp only [dF,KV,Lg,List.length_range];by_cases hi:i<31
 .rw [List.getElem?_range hi];split
  .rename_i e;subst e;rw [K5 hi];simp [fW,h]
  .rename_i e;have e2:decide (i<k+1)=decide (i<k):=by rw [decide_eq_decide];omega
   simp [fW,e2]
 .rw [Lh (by simp;omega)];split
  .rw [KY (by omega)];rfl
  .rfl
theorem x9 {s:Int} {q:Nat -> Bool} {k:Nat} (h:q k=false):dF s (fW q k)=dF s (fW q (k+1)):=by
 have:fW q k=fW q (k+1):=by
  funext i
  unfold fW;by_cases hik:i=k
  .subst hik;simp [h]
  .have e2:decide (i<k+1)=decide (i<k):=by rw [decide_eq_decide];omega
   rw [e2]
 rw [this]
theorem ul (s:Int) (p:Nat -> Bool) {t:Int} (ht:cc t) (h:∀ j:Nat,j<31 -> aW t (j:Int)=(aW s (j:Int) && !p j)):lC (dF s p) 31=t:=by
 have hr:=iD (fun j=>(dF s p).getD j false) 31;unfold lC;refine yg (by omega) ht fun j hj=>?_;rw [qs _ j hj,h j hj];simp [dF,hj]
noncomputable def qA (m:aR) (st:Int):Nat -> Bool:=fun i=>decide ((i:Int)=st) || decide (FT (fy m) st (i:Int))
def qB (m:aR) (st:Int):Nat -> Bool:=fun i=>decide (m.miles[i]?.map (·.stage)=some st)
theorem Im {m:aR} {st s:Int} (hst:gt (fy m) st) (hs:cc s):lC (dF s (fW (qA m st) m.stages.length)) 31=(se (fy m) st ++ [st]).foldl bN s:=by
 refine ul s _ (sv _ _ hs) fun j hj=>?_;rw [uQ]
 congr 2
 have hpl:(fy m).length=m.stages.length:=by simp [fy]
 rw [MB];simp only [Lp,fW,qA,Li,Bool.or_eq_true,K2,K9];unfold se;rw [K5 hst];simp only [K8,List.mem_filter,Ma,Lp];have hst':=hst;unfold gt at hst';constructor
 .rintro (⟨k,⟨h1,h2,h3⟩,h4⟩ | h)
  .obtain rfl:k=j:=by omega
   obtain ⟨i,h5,h6,h7⟩:=(rd (fy m) (k:Int) st hst'.1 h2).1 h3;exact ⟨by omega,.inr ⟨i,h5,h6,hst'.1,h7⟩⟩
  .exact ⟨by omega,.inl h⟩
 .rintro ⟨h1,h2⟩;by_cases he:(j:Int)=st
  .exact .inr he
  .left;rcases h2 with h2|⟨i,h5,h6,h7,h8⟩
   .exact absurd h2 he
   .exact ⟨j,⟨by omega,he,(rd (fy m) (j:Int) st hst'.1 he).2 ⟨i,h5,h6,h8⟩⟩,rfl⟩
theorem Ix {m:aR} {st s:Int} (hs:cc s):lC (dF s (fW (qB m st) m.miles.length)) 31=qm m.miles st s m.miles.length:=by
 refine ul s _ (rD _ _ _ hs _) fun j hj=>?_;rw [oI];rfl
theorem g7 {l:List Bool}:∀ row ∈ l.map (fun b=>[eB b]),∀ av ∈ row,av.plain:=fun row hr av ha=>by
 obtain ⟨n,_,rfl⟩:=K8.1 hr;simp at ha;subst ha;trivial
theorem vg (m:aR) (s:St) (xm:Bool) (xn:Int) (hf:p9 m) (hp:∀ p ∈ m.stages,aq p.2) (ho:cc s.opn) (hd:cc s.don):aw Tryz.prog 131 [.agg (aM m),.agg (i6 s),.agg [eB xm,eI xn]] ⟨.agg (i6 (du m s (xm,xn))),[],0⟩:=by
 refine ab ah Tryz.func131 rfl (by decide) Tryz.ntmps131 Tryz.results131 rfl (⟨fun id o h=>(by cases h),⟨trivial,trivial,trivial,trivial,trivial,trivial⟩⟩) ?_;obtain ⟨hgl,hml,hsl,-⟩:=id hf.sizes;have hpl:(fy m).length=m.stages.length:=by simp [fy]
 have hpo:∀ x ∈ fy m,aq x:=fun x hx=>by
  obtain ⟨p,hp',rfl⟩:=K8.1 hx;exact hp p hp'
 have ro:gb [.agg (aM m),.agg (i6 s),.agg [eB xm,eI xn]]:=by simp [gb,iv,bu,b7]
 cases xm with
 | true=>
  by_cases hin:0<=xn /\ xn<(m.miles.length:Int)
  .obtain ⟨k,rfl⟩:∃ k:Nat,xn=(k:Int):=⟨xn.toNat,by omega⟩;have hk:k<m.miles.length:=(by omega);have ei:dg (k:Int) (m.miles.length:Int)=true:=by simp [dg];omega
   by_cases hst:0<=m.miles[k].stage /\ m.miles[k].stage<(m.stages.length:Int)
   .have es:dg m.miles[k].stage (m.stages.length:Int)=true:=by unfold dg;simp;omega
    have hs2:x7 m m.miles[k].stage=true:=by unfold x7;simp;omega
    have eR:du m s (true,(k:Int))={ s with don:=cQ s.don k,opn:=(se (fy m) m.miles[k].stage ++ [m.miles[k].stage]).foldl bN s.opn }:=by
     simp [du,cu,hk,hs2]
    rw [eR,<- Im (m:=m) (by unfold gt;omega) ho];have eK:tj m.miles[k]=[eS m.miles[k].name,eI m.miles[k].stage,eI m.miles[k].event,bw m.miles[k].cond,eB m.miles[k].final]:=rfl;generalize hstg:m.miles[k].stage=st at hst es hs2 eK;have hput:=pz s.don (k:Int) true (cw hd) (by omega) (by omega);simp only [if_true] at hput
    repeat' first|refine go ?_|simp only [ae,hk]|decide|refine sp ?_ ?_<;>intro _
    refine aD (by kernel_rfl) ?_
    repeat' first|refine go ?_|simp only [ae,hk]|decide|refine sp ?_ ?_<;>intro _
    refine aZ (cY _ _) ?_
    repeat' first|refine go ?_|simp only [ae,hk,ei,hstg]|decide|refine sp ?_ ?_<;>intro _
    refine aZ (cY _ _) ?_
    repeat' first|refine go ?_|simp only [ae,hk,ei,es,hstg]|decide|refine sp ?_ ?_<;>intro _
    refine aA hput ?_
    repeat' first|refine go ?_|decide|refine sp ?_ ?_<;>intro _
    refine iU (AB s.opn (cw ho)) (.inr g7) ?_
    repeat' first|refine go ?_|decide|refine sp ?_ ?_<;>intro _
    rw [<- qN s.opn (qA m st)];refine af (fun s'=>∃ i:Nat,i<=m.stages.length /\ s'=⟨148,[(3,.op 0 0 0),(4,.op 1 0 0),(6,.op 2 0 0),(7,eI st),(8,.osl 3),(9,eI (i:Int))],[(0,some (.box 32 (aM m))),(1,some (.box 106 (i6 { s with don:=cQ s.don k }))),(2,some (.box 106 [.c (.slice none 0 0),eI 0,eI 0,.c (.slice none 0 0),.c (.slice none 0 0)])),(3,some (.row 4 1 ((dF s.opn (fW (qA m st) i)).map fun b=>[eB b])))],4⟩) (fun s'=>m.stages.length - ap s' 9) ⟨_,(wR [0,1,3,4]),0,KR _,rfl⟩ ?_;rintro _ ⟨i,hi,rfl⟩;have hml31:=tp s.opn (fW (qA m st) i);by_cases hlt:i<m.stages.length
    .have hi31:i<(dF s.opn (fW (qA m st) i)).length:=(by omega);have hset:(((dF s.opn (fW (qA m st) i)).map fun b=>[eB b]).set i [eB false])=((dF s.opn (fW (qA m st) i)).set i false).map fun b=>[eB b]:=(by rw [MW])
     repeat' first|refine go ?_|simp only [ae,hlt,hi31]|decide|refine sp ?_ ?_<;>intro _
     .rename_i h;have hq:qA m st i=true:=by simp [qA];left;simpa using h
      exact rI (iT (by (first|((simp only [jU,jW,cS,cg,ar.lt,AV.lt,AV.ltL,iu,ak.get,bl,ak.put,↓reduceIte,reduceCtorEq,Nat.reduceLT,Nat.reduceEqDiff,Nat.reduceAdd,Nat.reduceLeDiff,eq_self,implies_true,hset,oZ hq])<;>(repeat' apply And.intro)<;>first|(rw [mc (by omega)];done)|(simp;done)|omega)|fail))) ⟨i+1,by omega,rfl⟩
     .rename_i h;refine iU (Ie m (by omega)) (.inr eJ) ?_
      repeat' first|refine go ?_|decide|refine sp ?_ ?_<;>intro _
      refine aA (F7 (fy m) st (i:Int) (by omega) hpo) ?_
      repeat' first|refine go ?_|simp only [ae,hlt,hi31]|decide|refine sp ?_ ?_<;>intro _
      .rename_i h2;have hq:qA m st i=true:=(by simp only [qA,h2,Bool.or_true]);exact rI (kI [0,1,2,3] ⟨(by decide),(by (first|((simp only [il,gM,cS,cg,ar.lt,AV.lt,AV.ltL,AV.ren,AV.renL,ar.ren,MD,MN,KU,K3,iu,ak.get,bl,ak.put,↓reduceIte,reduceCtorEq,Nat.reduceLT,Nat.reduceEqDiff,Nat.reduceAdd,Nat.reduceLeDiff,eq_self,implies_true,hset,oZ hq])<;>(repeat' apply And.intro)<;>first|(rw [mc (by omega)];done)|(simp;done)|omega)|fail))⟩) ⟨i+1,by omega,rfl⟩
      .rename_i h2
       have hq:qA m st i=false:=by
        simp only [qA,h2,Bool.or_false];simpa using h
       exact rI (kI [0,1,2,3] ⟨(by decide),(by (first|((simp only [il,gM,cS,cg,ar.lt,AV.lt,AV.ltL,AV.ren,AV.renL,ar.ren,MD,MN,KU,K3,iu,ak.get,bl,ak.put,↓reduceIte,reduceCtorEq,Nat.reduceLT,Nat.reduceEqDiff,Nat.reduceAdd,Nat.reduceLeDiff,eq_self,implies_true,x9 hq])<;>(repeat' apply And.intro)<;>first|(rw [mc (by omega)];done)|(simp;done)|omega)|fail))⟩) ⟨i+1,by omega,rfl⟩
    .obtain rfl:i=m.stages.length:=by omega
     have hsum:=Dz (dF s.opn (fW (qA m st) m.stages.length)) (by omega);rw [hml31] at hsum
     repeat' first|refine go ?_|simp only [ae,hlt]|decide|refine sp ?_ ?_<;>intro _
     refine aA (by exact hsum) ?_
     repeat' first|refine go ?_|decide|refine sp ?_ ?_<;>intro _
     exact a5 (by simp [AV.ren,AV.renL])
   .have es:dg m.miles[k].stage (m.stages.length:Int)=false:=by unfold dg;rw [Lv];simp only [Lc];omega
    have eR:du m s (true,(k:Int))=s:=by
     have:x7 m m.miles[k].stage=false:=by unfold x7;rw [Lv];simp only [Lc];omega
     simp [du,cu,hk,this]
    rw [eR]
    repeat' first|refine go ?_|simp only [ae,hk]|decide|refine sp ?_ ?_<;>intro _
    refine aD (by kernel_rfl) ?_
    repeat' first|refine go ?_|simp only [ae,hk]|decide|refine sp ?_ ?_<;>intro _
    refine aZ (cY _ _) ?_
    repeat' first|refine go ?_|simp only [ae,hk,ei]|decide|refine sp ?_ ?_<;>intro _
    refine aZ (cY _ _) ?_
    repeat' first|refine go ?_|simp only [ae,hk,ei,es]|decide|refine sp ?_ ?_<;>intro _
    exact a5 (by simp [AV.ren,AV.renL])
  .have ei:dg xn (m.miles.length:Int)=false:=by unfold dg;rw [Lv];simp only [Lc];omega
   have eR:du m s (true,xn)=s:=by
    have:cu m (true,xn)=none:=by
     simp only [cu,if_true];split
     .rw [Lh (by omega)];try rfl
     .rfl
    simp [du,this]
   rw [eR]
   repeat' first|refine go ?_|decide|refine sp ?_ ?_<;>intro _
   refine aD (by kernel_rfl) ?_
   repeat' first|refine go ?_|decide|refine sp ?_ ?_<;>intro _
   refine aZ (cY _ _) ?_
   repeat' first|refine ge ei ?_|decide|refine sp ?_ ?_<;>intro _
   exact a5 (by simp [AV.ren,AV.renL])
 | false=>
  by_cases hin:0<=xn /\ xn<(m.guards.length:Int)
  .obtain ⟨k,rfl⟩:∃ k:Nat,xn=(k:Int):=⟨xn.toNat,by omega⟩;have hk:k<m.guards.length:=(by omega);have ei:dg (k:Int) (m.guards.length:Int)=true:=by simp [dg];omega
   by_cases hst:0<=m.guards[k].stage /\ m.guards[k].stage<(m.stages.length:Int)
   .have es:dg m.guards[k].stage (m.stages.length:Int)=true:=by unfold dg;simp;omega
    have hs2:x7 m m.guards[k].stage=true:=by unfold x7;simp;omega
    have eR:du m s (false,(k:Int))={ s with opn:=cQ s.opn m.guards[k].stage,don:=qm m.miles m.guards[k].stage s.don m.miles.length }:=by
     simp [du,cu,hk,hs2]
    rw [eR,<- Ix hd];generalize hstg:m.guards[k].stage=st at hst es hs2;have hput:=pz s.opn st true (cw ho) hst.1 (by omega);simp only [if_true] at hput
    repeat' first|refine go ?_|simp only [ae,hk]|decide|refine sp ?_ ?_<;>intro _
    refine aD (by kernel_rfl) ?_
    repeat' first|refine go ?_|simp only [ae,hk]|decide|refine sp ?_ ?_<;>intro _
    refine aZ (cY _ _) ?_
    repeat' first|refine go ?_|simp only [ae,hk,ei,hstg]|decide|refine sp ?_ ?_<;>intro _
    refine aZ (cY _ _) ?_
    repeat' first|refine go ?_|simp only [ae,hk,ei,es,hstg]|decide|refine sp ?_ ?_<;>intro _
    refine aA hput ?_
    repeat' first|refine go ?_|decide|refine sp ?_ ?_<;>intro _
    refine iU (AB s.don (cw hd)) (.inr g7) ?_
    repeat' first|refine go ?_|decide|refine sp ?_ ?_<;>intro _
    rw [<- qN s.don (qB m st)];refine af (fun s'=>∃ i:Nat,i<=m.miles.length /\ s'=⟨148,[(3,.op 0 0 0),(4,.op 1 0 0),(6,.op 2 0 0),(10,eI st),(11,.osl 3),(12,eI (i:Int))],[(0,some (.box 32 (aM m))),(1,some (.box 106 (i6 { s with opn:=cQ s.opn st }))),(2,some (.box 106 [.c (.slice none 0 0),eI 0,eI 0,.c (.slice none 0 0),.c (.slice none 0 0)])),(3,some (.row 4 1 ((dF s.don (fW (qB m st) i)).map fun b=>[eB b])))],4⟩) (fun s'=>m.miles.length - ap s' 12) ⟨_,(wR [0,1,3,4]),0,KR _,rfl⟩ ?_;rintro _ ⟨i,hi,rfl⟩;have hml31:=tp s.don (fW (qB m st) i);by_cases hlt:i<m.miles.length
    .have hi31:i<(dF s.don (fW (qB m st) i)).length:=(by omega);have hset:(((dF s.don (fW (qB m st) i)).map fun b=>[eB b]).set i [eB false])=((dF s.don (fW (qB m st) i)).set i false).map fun b=>[eB b]:=(by rw [MW])
     repeat' first|refine go ?_|simp only [ae,hlt,hi31]|decide|refine sp ?_ ?_<;>intro _
     .rename_i h;have hq:qB m st i=true:=by simp [qB,hlt];simpa using h
      exact rI (iT (by (first|((simp only [jU,jW,cS,cg,ar.lt,AV.lt,AV.ltL,iu,ak.get,bl,ak.put,↓reduceIte,reduceCtorEq,Nat.reduceLT,Nat.reduceEqDiff,Nat.reduceAdd,Nat.reduceLeDiff,eq_self,implies_true,hset,oZ hq])<;>(repeat' apply And.intro)<;>first|(rw [mc (by omega)];done)|(simp;done)|omega)|fail))) ⟨i+1,by omega,rfl⟩
     .rename_i h;have hq:qB m st i=false:=by simp [qB,hlt];simpa using h
      exact rI (iT (by (first|((simp only [jU,jW,cS,cg,ar.lt,AV.lt,AV.ltL,iu,ak.get,bl,ak.put,↓reduceIte,reduceCtorEq,Nat.reduceLT,Nat.reduceEqDiff,Nat.reduceAdd,Nat.reduceLeDiff,eq_self,implies_true,x9 hq])<;>(repeat' apply And.intro)<;>first|(rw [mc (by omega)];done)|(simp;done)|omega)|fail))) ⟨i+1,by omega,rfl⟩
    .obtain rfl:i=m.miles.length:=by omega
     have hsum:=Dz (dF s.don (fW (qB m st) m.miles.length)) (by omega);rw [hml31] at hsum
     repeat' first|refine go ?_|simp only [ae,hlt]|decide|refine sp ?_ ?_<;>intro _
     refine aA (by exact hsum) ?_
     repeat' first|refine go ?_|decide|refine sp ?_ ?_<;>intro _
     exact a5 (by simp [AV.ren,AV.renL])
   .have es:dg m.guards[k].stage (m.stages.length:Int)=false:=by unfold dg;rw [Lv];simp only [Lc];omega
    have eR:du m s (false,(k:Int))=s:=by
     have:x7 m m.guards[k].stage=false:=by unfold x7;rw [Lv];simp only [Lc];omega
     simp [du,cu,hk,this]
    rw [eR]
    repeat' first|refine go ?_|simp only [ae,hk]|decide|refine sp ?_ ?_<;>intro _
    refine aD (by kernel_rfl) ?_
    repeat' first|refine go ?_|simp only [ae,hk]|decide|refine sp ?_ ?_<;>intro _
    refine aZ (cY _ _) ?_
    repeat' first|refine go ?_|simp only [ae,hk,ei]|decide|refine sp ?_ ?_<;>intro _
    refine aZ (cY _ _) ?_
    repeat' first|refine go ?_|simp only [ae,hk,ei,es]|decide|refine sp ?_ ?_<;>intro _
    exact a5 (by simp [AV.ren,AV.renL])
  .have ei:dg xn (m.guards.length:Int)=false:=by unfold dg;rw [Lv];simp only [Lc];omega
   have eR:du m s (false,xn)=s:=by
    have:cu m (false,xn)=none:=by
     simp only [cu,LH,if_false];split
     .rw [Lh (by omega)];try rfl
     .rfl
    simp [du,this]
   rw [eR]
   repeat' first|refine go ?_|decide|refine sp ?_ ?_<;>intro _
   refine aD (by kernel_rfl) ?_
   repeat' first|refine go ?_|decide|refine sp ?_ ?_<;>intro _
   refine aZ (cY _ _) ?_
   repeat' first|refine ge ei ?_|decide|refine sp ?_ ?_<;>intro _
   exact a5 (by simp [AV.ren,AV.renL])
theorem x1 (m:aR) (s:St) (x:Bool × Int) (h:cc s.opn /\ cc s.don):cc (du m s x).opn /\ cc (du m s x).don:=by
 unfold du;split
 .split
  .split
   .exact ⟨sv _ _ h.1,mF _ _⟩
   .exact ⟨mF _ _,rD _ _ _ h.2 _⟩
  .exact h
 .exact h
theorem EG (m:aR) (event:Int) (s:St) (x:Bool × Int) (h:cc s.opn /\ cc s.don):cc (fR m event s x).opn /\ cc (fR m event s x).don:=by
 unfold fR;split
 .exact x1 m s x h
 .exact h
theorem oV (m:aR) (event:Int):∀ (l:List (Bool × Int)) (s:St),cc s.opn /\ cc s.don -> cc (l.foldl (fR m event) s).opn /\ cc (l.foldl (fR m event) s).don
 | [],s,h=>h
 | x :: l,s,h=>oV m event l _ (EG m event s x h)
theorem JM (s:St):(⟨.agg (i6 s),[],0⟩:ce).Ok:=⟨fun id o h=>(by cases h),⟨trivial,trivial,trivial,trivial,trivial,trivial⟩⟩
theorem CB (m:aR) (s:St) (event:Int) (hf:p9 m) (hp:∀ p ∈ m.stages,aq p.2) (ho:cc s.opn) (hd:cc s.don):aw Tryz.prog 119 [.agg (aM m),.agg (i6 s),eI event] ⟨.agg (i6 (jM m event s m.order.length)),[],0⟩:=by
 refine ab ah Tryz.func119 rfl (by decide) Tryz.ntmps119 Tryz.results119 rfl (JM _) ?_
 repeat' first|refine go ?_|decide|refine sp ?_ ?_<;>intro _
 have hol:m.order.length<=40:=hf.sizes.2.2.2.2.2.2.2.2.1;have e0:jM m event s 0=s:=rfl;refine af (fun s'=>∃ k:Nat,k<=m.order.length /\ s'=⟨33,[(2,eI event),(3,.op 0 0 0),(4,.op 1 0 0),(6,.op 2 0 0),(7,eI (k:Int))],[(0,some (.box 32 (aM m))),(1,some (.box 106 (i6 (jM m event s k)))),(2,some (.box 106 [.c (.slice none 0 0),eI 0,eI 0,.c (.slice none 0 0),.c (.slice none 0 0)]))],3⟩) (fun st=>m.order.length - ap st 7) ⟨_,(wE e0),0,KR _,rfl⟩ ?_;rintro _ ⟨k,hk,rfl⟩;by_cases hlt:k<m.order.length
 .have ef:jM m event s (k+1)=fR m event (jM m event s k) m.order[k]:=yp _ _ _ hlt;have hv:=oV m event (m.order.take k) s ⟨ho,hd⟩
  change cc (jM m event s k).opn /\ cc (jM m event s k).don at hv
  repeat' first|refine go ?_|simp only [ae,hlt]|decide|refine sp ?_ ?_<;>intro _
  generalize jM m event s k=t at ef hv ⊢;refine aD (by kernel_rfl) ?_;obtain ⟨x,hx⟩:∃ x,m.order[k]=x:=⟨_,rfl⟩;rw [hx] at ef
  repeat' first|refine go ?_|simp only [ae,hlt,hx]|decide|refine sp ?_ ?_<;>intro _
  refine aZ (rf m t x.1 x.2 event hf (cw hv.1) (cw hv.2)) ?_
  repeat' first|refine go ?_|decide|refine sp ?_ ?_<;>intro _
  .rename_i h;have e1:fR m event t x=du m t x:=K5 h;rw [e1] at ef;refine vz 7 (by kernel_rfl) ?_
   repeat' first|refine go ?_|simp only [ae,hlt,hx]|decide|refine sp ?_ ?_<;>intro _
   refine dU (vg m t x.1 x.2 hf hp hv.1 hv.2) (ro) ?_
   repeat' first|refine go ?_|decide|refine sp ?_ ?_<;>intro _
   exact rI (wE ef) ⟨k+1,by omega,rfl⟩
  .rename_i h;have e1:fR m event t x=t:=KY (by rw [show (x:Bool × Int)=(x.1,x.2) from rfl,h];simp);rw [e1] at ef;exact rI (wE ef) ⟨k+1,by omega,rfl⟩
 .obtain rfl:k=m.order.length:=by omega
  repeat' first|refine go ?_|simp only [ae,hlt]|decide|refine sp ?_ ?_<;>intro _
  exact a5 (by simp only [AV.ren,AV.renL])
end
section
def lS (f:Nat -> Bool):Nat -> Bool
 | 0=>true
 | n+1=>lS f n && f n
def jJ (f:Nat -> Bool):Nat -> Bool
 | 0=>false
 | n+1=>jJ f n || f n
theorem uA (f:Nat -> Bool):∀ n,lS f n=true ↔ ∀ i,i<n -> f i=true
 | 0=>by simp [lS]
 | n+1=>by
  rw [lS,Li,uA f n];constructor
  .intro ⟨h1,h2⟩ i hi;rcases Ld i n with h|h
   .exact h1 i h
   .obtain rfl:i=n:=by omega
    exact h2
  .exact fun h=>⟨fun i hi=>h i (by omega),h n (by omega)⟩
theorem tJ (f:Nat -> Bool):∀ n,jJ f n=true ↔ ∃ i,i<n /\ f i=true
 | 0=>by simp [jJ]
 | n+1=>by
  rw [jJ,Bool.or_eq_true,tJ f n];constructor
  .rintro (⟨i,h1,h2⟩ | h)
   .exact ⟨i,by omega,h2⟩
   .exact ⟨n,by omega,h⟩
  .rintro ⟨i,h1,h2⟩;rcases Ld i n with h|h
   .exact .inl ⟨i,h,h2⟩
   .obtain rfl:i=n:=by omega
    exact .inr h2
theorem oM {f:Nat -> Bool} {k n:Nat} (hk:k<n) (h:f k=true):jJ f n=true:=(tJ f n).2 ⟨k,hk,h⟩
theorem mN {f:Nat -> Bool} {k:Nat} (h1:jJ f k=false) (h:f k=false):jJ f (k+1)=false:=by simp [jJ,h1,h]
def k8 (n:Int):Int:=2 ^ (max 0 (min n 31)).toNat - 1
def zm (s n:Int):Bool:=decide (0<=s) && decide (s<=k8 n)
def u7 (m:aR) (s:St) (i:Nat):Bool:=zm (s.did.getD i 0) m.users.length && decide (0<=s.cnt.getD i 0) && decide (s.cnt.getD i 0<=(m.events[i]?.map (·.times)).getD 0)
def un (m:aR) (s:St):Bool:=decide (s.vals.length=m.attrs.length) && decide (s.did.length=m.events.length) && decide (s.cnt.length=m.events.length) && zm s.opn m.stages.length && zm s.don m.miles.length && lS (u7 m s) m.events.length
def i8 (m:aR) (s:St) (k:Nat):Bool:=(m.miles[k]?.map (·.final)).getD false && aW s.don (k:Int)
def km (m:aR) (s:St):Bool:=jJ (i8 m s) m.miles.length
def vH (l:List Int) (i:Int):Int:=if 0<=i /\ i<(l.length:Int) then l.getD i.toNat 0 else 0
def D3 (m:aR) (role user:Int):Bool:=decide (0<=role) && decide (role<(m.roles.length:Int)) && decide (0<=user) && decide (user<(m.users.length:Int)) && ((m.roles[role.toNat]?).map (fun p=>aW p.2 user)).getD false
def l7 (m:aR) (s:St) (event user:Int) (k:Nat):Bool:=((m.sods[k]?).map (fun x=>((x.1 == event) && aW (vH s.did x.2) user) || ((x.2 == event) && aW (vH s.did x.1) user))).getD false
def Cp (m:aR) (s:St) (event user:Int):Bool:=jJ (l7 m s event user) m.sods.length
noncomputable def BV (m:aR) (event:Int):Option Ev:=if 0<=event then m.events[event.toNat]? else none
noncomputable def oL (m:aR) (s:St) (event user:Int):Bool:=
 match BV m event with
 | none=>false
 | some x=>!km m s && decide (x.stage<(m.stages.length:Int)) && aW s.opn x.stage && D3 m x.role user && (decide (x.times<=0) || decide (vH s.cnt event<x.times))
noncomputable def fT (m:aR) (s:St) (event user:Int):Bool:=oL m s event user && !Cp m s event user
def fm (f:Nat -> Bool):Nat -> List Int
 | 0=>[]
 | n+1=>if f n=true then fm f n ++ [(n:Int)] else fm f n
theorem nj (f:Nat -> Bool):∀ n,(fm f n).length<=n
 | 0=>by simp [fm]
 | n+1=>by
  have:=nj f n;unfold fm;split
  .simp;omega
  .omega
noncomputable def fh (m:aR) (s:St) (event:Int):List Int:=fm (fun u=>fT m s event (u:Int)) m.users.length
end
section
section
variable {P:Program} {f:FuncId} {args:List AV}
theorem D8 {cx:Cx} {w':World} {L:Nat -> Value} {v:Value} {R:ce} (h5:R.Ok) (h7:fY cx w' R.tab L) (h8:bx cx w' R.tab L v R.r) (id:Nat):(R.frz id).Ok /\ fY cx w' (R.frz id).tab L /\ bx cx w' (R.frz id).tab L v (R.frz id).r:=by
 unfold ce.frz;split
 .rename_i e' sz rows hid;obtain ⟨h9,h10⟩:=oG h7 (fun k o hk=>(h5.young k o hk).2) hid;refine ⟨⟨fun k o hk=>?_,lr h5.lt⟩,h9,h10 v _ h8 h5.lt⟩;simp only [aa.gc,ct] at hk;split at hk
  .cases hk
  .cases hg:R.tab.get k with
   | none=>simp [hg] at hk
   | some o'=>
    simp [hg] at hk;subst hk;exact ⟨(h5.young k o' hg).1,ll (h5.young k o' hg).2⟩
 .exact ⟨h5,h7,h8⟩
theorem tB {cx:Cx} {w':World} {L:Nat -> Value} {v:Value}:∀ (ids:List Nat) {R:ce},R.Ok -> fY cx w' R.tab L -> bx cx w' R.tab L v R.r -> (R.frzs ids).Ok /\ fY cx w' (R.frzs ids).tab L /\ bx cx w' (R.frzs ids).tab L v (R.frzs ids).r
 | [],R,h1,h2,h3=>⟨h1,h2,h3⟩
 | id :: ids,R,h1,h2,h3=>by
  obtain ⟨h4,h5,h6⟩:=D8 h1 h2 h3 id;exact tB ids h4 h5 h6
inductive mG:AV -> AV -> Prop
 | one {a b:AV} (h:o9 a b):mG a b
 | tup {l l':List AV} (h:mW l l'):mG (.tup l) (.tup l')
theorem Az {w:World} {S:Nat -> Prop} {K:Nat -> Option (Nat × Value)} {x:Value} {av:AV} (h:RV w S K x av):av.lt 0 -> RT w S x av:=by
 induction h with
 | tree h=>exact fun _=>h
 | osl x id h=>exact fun h2=>by simp [AV.lt] at h2
 | op x id i j h=>exact fun h2=>by simp [AV.lt] at h2
 | agg xs cs hn hr ih=>
  intro h2;simp only [AV.lt] at h2;exact .agg xs cs hn fun j x av h3 h4=>ih j x av h3 h4 (ag.1 h2 av (KO h4))
 | tup xs cs hn hr ih=>
  intro h2;simp only [AV.lt] at h2;exact .tup xs cs hn fun j x av h3 h4=>ih j x av h3 h4 (ag.1 h2 av (KO h4))
 | fn f xs cs hn hr ih=>
  intro h2;simp only [AV.lt] at h2;exact .fn f xs cs hn fun j x av h3 h4=>ih j x av h3 h4 (ag.1 h2 av (KO h4))
 | bfn f xs cs hn hr ih=>
  intro h2;simp only [AV.lt] at h2;exact .bfn f xs cs hn fun j x av h3 h4=>ih j x av h3 h4 (ag.1 h2 av (KO h4))
theorem RT.tup_inv {w:World} {S:Nat -> Prop} {x:Value} {cs:List AV} (h:RT w S x (.tup cs)):∃ xs:Array Value,x=.tuple xs /\ xs.size=cs.length /\ ∀ (j:Nat) (x:Value) (av:AV),xs[j]? = some x -> cs[j]? = some av -> RT w S x av:=by
 cases h with
 | tup xs _ hn hr=>exact ⟨xs,rfl,hn,hr⟩
theorem mG.rt {w:World} {S:Nat -> Prop} {v:Value} {a b:AV} (h:mG a b) (hr:RT w S v a):RT w S v b:=by
 cases h with
 | one h=>exact h.rt hr
 | @tup l l' h=>
  obtain ⟨xs,rfl,hn,hx⟩:=hr.tup_inv;obtain ⟨h1,h2⟩:=h.spec;refine .tup xs l' (by omega) fun j x av h3 h4=>?_
  have hj:j<l.length:=by
   have:=(KS.1 h4).1;omega
  have h5:l[j]? = some l[j]:=KN hj;exact (h2 j _ av h5 h4).rt (hx j x _ h3 h5)
theorem jr {R:ce} (h1:cg R.n R.tab) (h2:R.r.lt R.n):R.Ok:=by
 refine ⟨?_,h2⟩;revert h1;generalize R.tab=T
 induction T with
 | nil=>exact fun _ id o h=>by cases h
 | cons p T ih=>
  obtain ⟨k,ob⟩:=p;intro h1 id o h;rw [aa.gc] at h
  cases ob with
  | none=>
   simp only [cg] at h1;split at h
   .cases h
   .exact ih h1 id o h
  | some ob=>
   simp only [cg] at h1;split at h
   .rename_i e;cases h;exact ⟨by rw [e];exact h1.1.1,h1.1.2⟩
   .exact ih h1.2 id o h
theorem cT.tree {Post:ce -> Prop} {r':AV} (h:cT P f args Post) (hl:r'.lt 0) (hp:∀ R,Post R -> ∃ ids,(R.frzs ids).r.lt 0 /\ mG (R.frzs ids).r r'):aw P f args ⟨r',[],0⟩:=
 ⟨h.1,fun S w vs h1 h2 h3=>(h.2 S w vs h1 h2 h3).mono fun e w' ⟨v,L,R,h4,h5,h6,h7,h8⟩=>by
  obtain ⟨ids,ha,hc⟩:=hp R h4;obtain ⟨h9,h10,h11⟩:=tB ids h5 h7 h8;have hext:kc (Cx.mk0 S w h1) w' (R.frzs ids).tab L 0 w' [] L:=⟨fun _ _=>rfl,fun b hb=>⟨hb.1,hb.2.1,fun k o hk=>(by cases hk)⟩,fun k p _ hk=>by simp [Kx,aa.get] at hk⟩;have h12:=Az (hext.rv h11 ha) ha;exact ⟨v,L,⟨r',[],0⟩,rfl,⟨fun id o hk=>(by cases hk),hl⟩,h6,⟨h10.below,fun id o hk=>(by cases hk),fun id id' o o' g hk=>(by cases hk),fun b hb=>hb.elim⟩,.tree (hc.rt h12)⟩⟩
end
theorem sC {P:Program} {f:FuncId} {args:List AV} {e:TypeId} {sz:Nat} {rows:List (List AV)} (h:cT P f args fun R=>R=gi e sz rows \/ (R=val (.slice none 0 0) /\ rows=[])):aw P f args ⟨.sl sz rows,[],0⟩:=
 h.tree (by simp [AV.lt]) fun R hR=>by
  rcases hR with rfl|⟨rfl,rfl⟩
  .refine ⟨[0],?_⟩;have e:((gi e sz rows).frzs [0]).r=.sl sz rows:=(by simp [ce.frzs,ce.frz,gi,aa.gc,AV.frz]);rw [e];exact ⟨trivial,.one (.one (.refl _))⟩
  .exact ⟨[],trivial,.one (.one (.nil sz))⟩
def im (m:aR):St:=⟨m.inits,0,0,List.replicate m.events.length 0,List.replicate m.events.length 0⟩
def dl (m:aR):ce:=⟨.agg [sI m.inits,eI 0,eI 0,.osl 0,.osl 1],[(0,some (.row 3 1 ((List.replicate m.events.length 0).map fun n=>[eI n]))),(1,some (.row 3 1 ((List.replicate m.events.length 0).map fun n=>[eI n])))],2⟩
end
section
def co (m:aR):St:=jM m (-1) (im m) m.order.length
theorem zA (m:aR) (hl:m.inits.length<=1000000) (hl2:m.events.length<=1000000):aw Tryz.prog 120 [.agg (aM m)] ⟨.agg (i6 (im m)),[],0⟩:=by
 refine aw.still (R:=⟨.agg [.osl 2,eI 0,eI 0,.osl 0,.osl 1],(2,some (.row 2 1 (m.inits.map fun n=>[eI n]))) :: (dl m).tab,3⟩) [0,1,2] ?_ ?_ (by simp [AV.lt,AV.ltL])
 .refine ab ah Tryz.func120 rfl (by decide) Tryz.ntmps120 Tryz.results120 rfl (jr (by simp [dl,cg,ar.lt,AV.ltL,AV.lt]) (by simp [AV.lt,AV.ltL])) ?_
  repeat' first|refine go ?_|decide|refine sp ?_ ?_<;>intro _
  refine aB [1] [1,2,4,6] (.three 0 (.three 3 (.two 5 (.exec 7 (.take 8 (.exec 9 .done))) 7 (.exec 5 (.take 8 (.exec 9 .done)))) 5 (.two 3 (.exec 7 (.take 8 (.exec 9 .done))) 7 (.exec 3 (.take 8 (.exec 9 .done)))) 7 (.two 3 (.exec 5 (.take 8 (.exec 9 .done))) 5 (.exec 3 (.take 8 (.exec 9 .done))))) 5 (.two 0 (.two 3 (.exec 7 (.take 8 (.exec 9 .done))) 7 (.exec 3 (.take 8 (.exec 9 .done)))) 7 (.exec 0 (.exec 3 (.take 8 (.exec 9 .done))))) 7 (.two 0 (.two 3 (.exec 5 (.take 8 (.exec 9 .done))) 5 (.exec 3 (.take 8 (.exec 9 .done)))) 5 (.exec 0 (.exec 3 (.take 8 (.exec 9 .done)))))) (by kernel_rfl) (by simp [aa.gc]) ?_
  repeat' first|refine gq ?_|decide|refine sp ?_ ?_<;>intro _|(with_reducible apply And.intro)
  all_goals first
   | omega
   | rfl
   | exact ⟨[2,3,4],by decide,rfl,by simp [b9,dl,aa.gc]⟩
   | exact ⟨[2,3,5],by decide,rfl,by simp [b9,dl,aa.gc]⟩
   | exact ⟨[2,4,3],by decide,rfl,by simp [b9,dl,aa.gc]⟩
   | exact ⟨[2,4,5],by decide,rfl,by simp [b9,dl,aa.gc]⟩
   | exact ⟨[2,5,3],by decide,rfl,by simp [b9,dl,aa.gc]⟩
   | exact ⟨[2,5,4],by decide,rfl,by simp [b9,dl,aa.gc]⟩
   | exact ⟨[3,2,4],by decide,rfl,by simp [b9,dl,aa.gc]⟩
   | exact ⟨[3,2,5],by decide,rfl,by simp [b9,dl,aa.gc]⟩
   | exact ⟨[3,4,5],by decide,rfl,by simp [b9,dl,aa.gc]⟩
   | exact ⟨[3,5,4],by decide,rfl,by simp [b9,dl,aa.gc]⟩
   | exact ⟨[4,2,5],by decide,rfl,by simp [b9,dl,aa.gc]⟩
   | exact ⟨[4,3,5],by decide,rfl,by simp [b9,dl,aa.gc]⟩
   | exact ⟨[4,5,3],by decide,rfl,by simp [b9,dl,aa.gc]⟩
   | exact ⟨[5,2,4],by decide,rfl,by simp [b9,dl,aa.gc]⟩
   | exact ⟨[5,4,3],by decide,rfl,by simp [b9,dl,aa.gc]⟩
   | exact ⟨[5,3,4],by decide,rfl,by simp [b9,dl,aa.gc]⟩
 .simp [dl,im,ce.frzs,ce.frz,aa.gc,AV.frz,AV.frzL,bK,ar.frz]
theorem zF (m:aR) (hf:p9 m) (hp:∀ p ∈ m.stages,aq p.2):aw Tryz.prog 79 [.agg (aM m)] ⟨.agg (i6 (co m)),[],0⟩:=by
 refine ab ah Tryz.func79 rfl (by decide) Tryz.ntmps79 Tryz.results79 rfl (JM _) ?_;obtain ⟨-,-,-,hel,-,-,-,-,-,hil⟩:=id hf.sizes;have z:cc 0:=by unfold cc;omega
 repeat' first|refine go ?_|decide|refine sp ?_ ?_<;>intro _
 refine aB [1] [0,1] (.exec 2 (.exec 3 (.exec 4 .done))) (by kernel_rfl) (by simp [aa.gc]) ?_
 repeat' first|refine gq ?_|decide|refine sp ?_ ?_<;>intro _|((with_reducible apply dU (g:=120));exact (zA _ (by omega) (by omega));exact (ro))|((with_reducible apply dU (g:=119));exact (CB m (im m) (-1) hf hp z z);exact (ro))
 exact a5 (by simp [AV.ren,AV.renL,co])
end
section
theorem sq:∀ (k u:Nat),u<10 ^ (k+1) -> (Lib.decDigits u).length<=k+1
 | 0,u,h=>by
  rw [Lib.decDigits,dif_pos (by simpa using h)];simp
 | k+1,u,h=>by
  rw [Lib.decDigits];split
  .simp
  .have:=sq k (u / 10) (by rw [Nat.pow_succ] at h;omega);rw [f4,Lo];omega
theorem fX {n:Int} (h:aq n):(Lib.itoa n).length<=20:=by
 have hp:(10:Nat) ^ (18+1)=10000000000000000000:=by decide
 obtain ⟨h1,h2⟩:=h;unfold Lib.itoa;split
 .have:=sq 18 n.natAbs (by omega);rw [KU];omega
 .have:=sq 18 n.toNat (by omega);omega
end
end
section
section
abbrev rC (m:aR) (c:List Int):List AV:=aM m ++ [sI c]
theorem s0 (m:aR) (c:List Int):(rC m c).length=11:=rfl
theorem bn (m:aR) (c:List Int):bu (rC m c):=by simp [bu,b7]
def fI:ByteArray:=⟨#[63]⟩
def aC (l:List ByteArray) (i:Int):ByteArray:=if 0<=i /\ i<(l.length:Int) then (l[i.toNat]?).getD fI else fI
theorem ou (m:aR) (c:List Int) (n:Int) (hn:aq n) (B:List UInt8) (hB:B.length<=140737488355000):mn Tryz.prog 62 [eI n] (rC m c) B (B ++ Lib.itoa n):=fun u=>by
 have hi:=fX hn;have hl2:∀ n,AV.ltL n (rC m c)=True:=fun n=>eq_true (be (bn m c));have hren:∀ is,AV.renL is (rC m c)=rC m c:=fun is=>fq is (bn m c);have hP:=xP n hn;have hc:df [nC n]=Lib.itoa n:=by simp [df,nC]
 have hPut:=CN (rC m c) (s0 m c) (bn m c) [nC n] (by simp) B (by rw [hc];omega);rw [hc] at hPut;refine cM (Post:=fun c' o=>∃ u',c'=oC 0 1 u' (rC m c) /\ o=[aO (B ++ Lib.itoa n)]) ah Tryz.func62 rfl (by decide) Tryz.ntmps62 Tryz.results62 0 (.op 0 0 0) rfl (lD 0 0) iJ rfl (by kernel_rfl) ⟨(fC u).lt _,by show 1<2;omega,be (bn m c)⟩ (by simp [AV.ltL,AV.lt]) (by simp [aF]) ?_;obtain ⟨rest,hrest⟩:∃ r,r=rC m c:=⟨_,rfl⟩;have htr:=bn m c;rw [<- hrest] at hPut hl2 hren htr ⊢
 repeat' first|refine go ?_|simp only [aE]|decide|refine sp ?_ ?_<;>intro _
 refine aA hP ?_
 repeat' first|refine go ?_|simp only [aE]|decide|refine sp ?_ ?_<;>intro _
 refine ⟨rfl,?_⟩;refine cb (b:=0) (i:=1) (j:=2) (u:=u) hPut htr (by simp [aa.gc]) (by simp [aa.gc]) (by simp [aa.gc]) (by decide) (fun p hp=>by cases hp) fun av u2=>?_;cases u2<;>(repeat' (first|refine ge (kf @eh @d9) ?_|decide|refine sp ?_ ?_<;>intro _))
 .exact ⟨oC 0 1 false rest,_,⟨false,rfl,rfl⟩,⟨by simp,⟨trivial,by show 1<2;omega,be htr⟩,by simp [aF]⟩,(wS [0,3] (kf @aE.eq_1 (kf @aE.eq_2 (kf @hren hl2))))⟩
 .exact ⟨oC 0 1 true rest,_,⟨true,rfl,rfl⟩,⟨by simp,⟨by show 0<2;omega,by show 1<2;omega,be htr⟩,by simp [aF]⟩,(wS [0,3] (kf @aE.eq_1 (kf @aE.eq_2 (kf @hren hl2))))⟩
theorem IJ (m:aR) (c:List Int) (i:Int):zc Tryz.prog 189 [eI i] (rC m c) (.string (aC m.attrs i)):=fun B u=>by
 refine zZ.toA (rest:=[eI i]) ?_ (by simp [gb,iv]);have hpv:(pv 0 u).lt 2:=(fC u).lt 1;refine jj ah Tryz.func189 rfl (by decide) Tryz.ntmps189 Tryz.results189 rfl (by kernel_rfl) ⟨hpv,by show 1<2;omega,be (bn m c)⟩ (by simp [aF]) ?_;have hlt2:∀ b:Bool,AV.ltL 2 (oC 0 1 b (rC m c)):=fun b=>⟨(fC b).lt 1,by show 1<2;omega,be (bn m c)⟩;by_cases h0:0<=i
 .by_cases h1:i<(m.attrs.length:Int)
  .have hq:i.toNat<m.attrs.length:=(by omega);obtain ⟨x,hx⟩:∃ x,x=m.attrs[i.toNat]:=⟨_,rfl⟩;have hr:(m.attrs.map fun s=>[eS s])[i.toNat]?.getD []=[eS x]:=by rw [hx];simp [hq]
   have hw:aC m.attrs i=x:=by unfold aC;rw [K5 ⟨h0,h1⟩];simp [hq,hx]
   rw [hw];have d0:decide (i<0)=false:=K0 (by omega);have d1:decide ((m.attrs.length:Int)<=i)=false:=K0 (by omega);cases u<;>(repeat' (first|refine go ?_|simp only [aE,d0,d1,h0,h1,hq,hr]|decide|refine sp ?_ ?_<;>intro _))
   all_goals first
    | exact ⟨oC 0 1 false (rC m c),[aO B],⟨rfl,rfl⟩,trivial,⟨rfl,hlt2 false,by simp [aF]⟩,(wS [0,1] (kf @aE.eq_1 @aE.eq_2))⟩
    | exact ⟨oC 0 1 true (rC m c),[aO B],⟨rfl,rfl⟩,trivial,⟨rfl,hlt2 true,by simp [aF]⟩,(wS [0,1] (kf @aE.eq_1 @aE.eq_2))⟩
  .have hw:aC m.attrs i=fI:=KY (fun h=>h1 h.2);rw [hw];have d0:decide (i<0)=false:=K0 (by omega);have d1:decide ((m.attrs.length:Int)<=i)=true:=K4 (by omega);cases u<;>(repeat' (first|refine go ?_|simp only [aE,d0,d1]|decide|refine sp ?_ ?_<;>intro _));all_goals first|exact ⟨oC 0 1 false (rC m c),[aO B],⟨rfl,rfl,rfl⟩,trivial,⟨rfl,hlt2 false,by simp [aF]⟩,(wS [0,1] (kf @aE.eq_1 @aE.eq_2))⟩|exact ⟨oC 0 1 true (rC m c),[aO B],⟨rfl,rfl,rfl⟩,trivial,⟨rfl,hlt2 true,by simp [aF]⟩,(wS [0,1] (kf @aE.eq_1 @aE.eq_2))⟩|trace_state
 .have hw:aC m.attrs i=fI:=KY (fun h=>h0 h.1);rw [hw];have d0:decide (i<0)=true:=K4 (by omega);cases u<;>(repeat' (first|refine go ?_|simp only [aE,d0]|decide|refine sp ?_ ?_<;>intro _));all_goals first|exact ⟨oC 0 1 false (rC m c),[aO B],⟨rfl,rfl,rfl⟩,trivial,⟨rfl,hlt2 false,by simp [aF]⟩,(wS [0,1] (kf @aE.eq_1 @aE.eq_2))⟩|exact ⟨oC 0 1 true (rC m c),[aO B],⟨rfl,rfl,rfl⟩,trivial,⟨rfl,hlt2 true,by simp [aF]⟩,(wS [0,1] (kf @aE.eq_1 @aE.eq_2))⟩|trace_state
theorem BR (m:aR) (c:List Int) (i:Int):zc Tryz.prog 107 [eI i] (rC m c) (.string (aC m.users i)):=fun B u=>by
 refine zZ.toA (rest:=[eI i]) ?_ (by simp [gb,iv]);have hpv:(pv 0 u).lt 2:=(fC u).lt 1;refine jj ah Tryz.func107 rfl (by decide) Tryz.ntmps107 Tryz.results107 rfl (by kernel_rfl) ⟨hpv,by show 1<2;omega,be (bn m c)⟩ (by simp [aF]) ?_;have hlt2:∀ b:Bool,AV.ltL 2 (oC 0 1 b (rC m c)):=fun b=>⟨(fC b).lt 1,by show 1<2;omega,be (bn m c)⟩;by_cases h0:0<=i
 .by_cases h1:i<(m.users.length:Int)
  .have hq:i.toNat<m.users.length:=(by omega);obtain ⟨x,hx⟩:∃ x,x=m.users[i.toNat]:=⟨_,rfl⟩;have hr:(m.users.map fun s=>[eS s])[i.toNat]?.getD []=[eS x]:=by rw [hx];simp [hq]
   have hw:aC m.users i=x:=by unfold aC;rw [K5 ⟨h0,h1⟩];simp [hq,hx]
   rw [hw];have d0:decide (i<0)=false:=K0 (by omega);have d1:decide ((m.users.length:Int)<=i)=false:=K0 (by omega);cases u<;>(repeat' (first|refine go ?_|simp only [aE,d0,d1,h0,h1,hq,hr]|decide|refine sp ?_ ?_<;>intro _))
   all_goals first
    | exact ⟨oC 0 1 false (rC m c),[aO B],⟨rfl,rfl⟩,trivial,⟨rfl,hlt2 false,by simp [aF]⟩,(wS [0,1] (kf @aE.eq_1 @aE.eq_2))⟩
    | exact ⟨oC 0 1 true (rC m c),[aO B],⟨rfl,rfl⟩,trivial,⟨rfl,hlt2 true,by simp [aF]⟩,(wS [0,1] (kf @aE.eq_1 @aE.eq_2))⟩
  .have hw:aC m.users i=fI:=KY (fun h=>h1 h.2);rw [hw];have d0:decide (i<0)=false:=K0 (by omega);have d1:decide ((m.users.length:Int)<=i)=true:=K4 (by omega);cases u<;>(repeat' (first|refine go ?_|simp only [aE,d0,d1]|decide|refine sp ?_ ?_<;>intro _));all_goals first|exact ⟨oC 0 1 false (rC m c),[aO B],⟨rfl,rfl,rfl⟩,trivial,⟨rfl,hlt2 false,by simp [aF]⟩,(wS [0,1] (kf @aE.eq_1 @aE.eq_2))⟩|exact ⟨oC 0 1 true (rC m c),[aO B],⟨rfl,rfl,rfl⟩,trivial,⟨rfl,hlt2 true,by simp [aF]⟩,(wS [0,1] (kf @aE.eq_1 @aE.eq_2))⟩|trace_state
 .have hw:aC m.users i=fI:=KY (fun h=>h0 h.1);rw [hw];have d0:decide (i<0)=true:=K4 (by omega);cases u<;>(repeat' (first|refine go ?_|simp only [aE,d0]|decide|refine sp ?_ ?_<;>intro _));all_goals first|exact ⟨oC 0 1 false (rC m c),[aO B],⟨rfl,rfl,rfl⟩,trivial,⟨rfl,hlt2 false,by simp [aF]⟩,(wS [0,1] (kf @aE.eq_1 @aE.eq_2))⟩|exact ⟨oC 0 1 true (rC m c),[aO B],⟨rfl,rfl,rfl⟩,trivial,⟨rfl,hlt2 true,by simp [aF]⟩,(wS [0,1] (kf @aE.eq_1 @aE.eq_2))⟩|trace_state
theorem tY (m:aR) (c:List Int) (i:Int):zc Tryz.prog 108 [eI i] (rC m c) (.string (aC (m.events.map (·.name)) i)):=fun B u=>by
 refine zZ.toA (rest:=[eI i]) ?_ (by simp [gb,iv]);have hpv:(pv 0 u).lt 2:=(fC u).lt 1;refine jj ah Tryz.func108 rfl (by decide) Tryz.ntmps108 Tryz.results108 rfl (by kernel_rfl) ⟨hpv,by show 1<2;omega,be (bn m c)⟩ (by simp [aF]) ?_;have hlt2:∀ b:Bool,AV.ltL 2 (oC 0 1 b (rC m c)):=fun b=>⟨(fC b).lt 1,by show 1<2;omega,be (bn m c)⟩;by_cases h0:0<=i
 .by_cases h1:i<(m.events.length:Int)
  .have hq:i.toNat<m.events.length:=(by omega);obtain ⟨x,hx⟩:∃ x,x=m.events[i.toNat]:=⟨_,rfl⟩;have hr:(m.events.map wY)[i.toNat]?.getD []=wY x:=by rw [hx];simp [hq]
   have hw:aC (m.events.map (·.name)) i=x.name:=by unfold aC;rw [K5 ⟨h0,by simpa using h1⟩];simp [hq,hx]
   rw [hw];have d0:decide (i<0)=false:=K0 (by omega);have d1:decide ((m.events.length:Int)<=i)=false:=K0 (by omega);cases u<;>(repeat' (first|refine go ?_|simp only [aE,d0,d1,h0,h1,hq,hr]|decide|refine sp ?_ ?_<;>intro _))
   all_goals first
    | exact ⟨oC 0 1 false (rC m c),[aO B],⟨rfl,rfl⟩,trivial,⟨rfl,hlt2 false,by simp [aF]⟩,(wS [0,1] (kf @aE.eq_1 @aE.eq_2))⟩
    | exact ⟨oC 0 1 true (rC m c),[aO B],⟨rfl,rfl⟩,trivial,⟨rfl,hlt2 true,by simp [aF]⟩,(wS [0,1] (kf @aE.eq_1 @aE.eq_2))⟩
  .have hw:aC (m.events.map (·.name)) i=fI:=KY (fun h=>h1 (by simpa using h.2));rw [hw];have d0:decide (i<0)=false:=K0 (by omega);have d1:decide ((m.events.length:Int)<=i)=true:=K4 (by omega);cases u<;>(repeat' (first|refine go ?_|simp only [aE,d0,d1]|decide|refine sp ?_ ?_<;>intro _));all_goals first|exact ⟨oC 0 1 false (rC m c),[aO B],⟨rfl,rfl,rfl⟩,trivial,⟨rfl,hlt2 false,by simp [aF]⟩,(wS [0,1] (kf @aE.eq_1 @aE.eq_2))⟩|exact ⟨oC 0 1 true (rC m c),[aO B],⟨rfl,rfl,rfl⟩,trivial,⟨rfl,hlt2 true,by simp [aF]⟩,(wS [0,1] (kf @aE.eq_1 @aE.eq_2))⟩|trace_state
 .have hw:aC (m.events.map (·.name)) i=fI:=KY (fun h=>h0 h.1);rw [hw];have d0:decide (i<0)=true:=K4 (by omega);cases u<;>(repeat' (first|refine go ?_|simp only [aE,d0]|decide|refine sp ?_ ?_<;>intro _));all_goals first|exact ⟨oC 0 1 false (rC m c),[aO B],⟨rfl,rfl,rfl⟩,trivial,⟨rfl,hlt2 false,by simp [aF]⟩,(wS [0,1] (kf @aE.eq_1 @aE.eq_2))⟩|exact ⟨oC 0 1 true (rC m c),[aO B],⟨rfl,rfl,rfl⟩,trivial,⟨rfl,hlt2 true,by simp [aF]⟩,(wS [0,1] (kf @aE.eq_1 @aE.eq_2))⟩|trace_state
end
section
noncomputable def Dx (m:aR) (s:St):Bool:=jJ (fun e=>jJ (fun u=>fT m s (e:Int) (u:Int)) m.users.length) m.events.length
theorem n4 {r' av:AV} {st:ak} (hr:av.ren []=av) (hl:av.lt 0) (hf:mG av r'):∃ R:ce,(∃ ids,(R.frzs ids).r.lt 0 /\ mG (R.frzs ids).r r') /\ R.Ok /\ dW R st av:=⟨⟨av,[],0⟩,⟨[],hl,hf⟩,⟨fun id o h=>(by cases h),hl⟩,a5 hr⟩
end
section
theorem gY (m:aR) (s:St) (hl:m.miles.length<=1000000) (hd:aq s.don):aw Tryz.prog 94 [.agg (aM m),.agg (i6 s)] (val (.bool (km m s))):=by
 refine ab ah Tryz.func94 rfl (by decide) Tryz.ntmps94 Tryz.results94 rfl (aU _) ?_
 repeat' first|refine gq ?_|decide|refine sp ?_ ?_<;>intro _
 unfold km;refine af (fun st=>∃ k:Nat,k<=m.miles.length /\ jJ (i8 m s) k=false /\ st=⟨25,[(2,.op 0 0 0),(3,.op 1 0 0),(5,eI (k:Int))],[(0,some (.box 32 (aM m))),(1,some (.box 106 (i6 s)))],2⟩) (fun st=>m.miles.length - ap st 5) ⟨_,wC,0,KR _,rfl,rfl⟩ ?_;rintro _ ⟨k,hk,hI,rfl⟩;by_cases hlt:k<m.miles.length
 .have eF:i8 m s k=(m.miles[k].final && aW s.don (k:Int)):=by simp [i8,hlt]
  repeat' first|refine gq ?_|simp only [ae,hlt]|decide|refine sp ?_ ?_<;>intro _|((with_reducible first|apply aA (g:=92)|apply aZ (g:=92));exact (dk _ _ hd))
  all_goals first
   | (symm;refine oM hlt ?_;rw [eF];grind)
   | exact rI wC ⟨k+1,by omega,mN hI (by rw [eF];grind),rfl⟩
 .obtain rfl:k=m.miles.length:=by omega
  repeat' first|refine gf @hlt ?_|decide|refine sp ?_ ?_<;>intro _
  exact hI.symm
theorem lB (n most:Int):aw Tryz.prog 136 [eI n,eI most] (val (.bool (dg n most))):=by
 refine ab ah Tryz.func136 rfl (by decide) Tryz.ntmps136 Tryz.results136 rfl (aU _) ?_;unfold dg
 repeat' first|refine go ?_|decide|refine sp ?_ ?_<;>intro _
 all_goals grind
theorem yj (m:aR) (s:St) (event user:Int) (hl:m.miles.length<=1000000) (ho:aq s.opn) (hd:aq s.don) (hr:∀ p ∈ m.roles,aq p.2):aw Tryz.prog 137 [.agg (aM m),.agg (i6 s),eI event,eI user] (val (.bool (oL m s event user))):=by
 refine ab ah Tryz.func137 rfl (by decide) Tryz.ntmps137 Tryz.results137 rfl (aU _) ?_;by_cases h:0<=event /\ event<(m.events.length:Int)
 .obtain ⟨k,rfl⟩:∃ k:Nat,event=(k:Int):=⟨event.toNat,by omega⟩;have hk:k<m.events.length:=by omega
  obtain ⟨x,hx⟩:∃ x,m.events[k]=x:=⟨_,rfl⟩;have ee:BV m (k:Int)=some x:=by simp [BV,hk,hx]
  have eR:oL m s k user=(!km m s && decide (x.stage<(m.stages.length:Int)) && aW s.opn x.stage && D3 m x.role user && (decide (x.times<=0) || decide (vH s.cnt k<x.times))):=by simp only [oL,ee]
  have eN:¬ 0<=x.stage -> aW s.opn x.stage=false:=fun h=>iK _ _ (by omega);rw [eR];by_cases hc:k<s.cnt.length
  .have eA:vH s.cnt k=s.cnt[k]:=(by simp [vH,hc]);by_cases hro:0<=x.role /\ x.role<(m.roles.length:Int)
   .obtain ⟨q,hq⟩:∃ q:Nat,x.role=(q:Int):=⟨x.role.toNat,by omega⟩;have hq2:q<m.roles.length:=(by omega);have eO:D3 m x.role user=(decide (0<=user) && decide (user<(m.users.length:Int)) && aW m.roles[q].2 user):=(by simp [D3,hq,hq2]);have hrq:=hr _ (KQ hq2);rw [eA,eO];unfold dg at *
    repeat' first|refine gq ?_|simp only [ae,hk,hx,hc,hq,hq2]|decide|refine sp ?_ ?_<;>intro _|((with_reducible first|apply aA (g:=92)|apply aZ (g:=92));exact (dk _ _ ho))|((with_reducible first|apply aA (g:=92)|apply aZ (g:=92));exact (dk _ _ hrq))|((with_reducible first|apply aA (g:=94)|apply aZ (g:=94));exact (gY _ _ hl hd))|((with_reducible first|apply aA (g:=136)|apply aZ (g:=136));exact (lB _ _))
    all_goals (unfold dg at *;grind)
   .have eO:D3 m x.role user=false:=by
     have:(decide (0<=x.role) && decide (x.role<(m.roles.length:Int)))=false:=by
      rw [Lv];simp only [Lc];omega
     simp [D3,this]
    have eI':dg x.role (m.roles.length:Int)=false:=by unfold dg;grind
    rw [eA,eO]
    repeat' first|refine gq ?_|simp only [ae,hk,hx,hc,eI']|decide|refine sp ?_ ?_<;>intro _|((with_reducible first|apply aA (g:=92)|apply aZ (g:=92));exact (dk _ _ ho))|((with_reducible first|apply aA (g:=94)|apply aZ (g:=94));exact (gY _ _ hl hd))|((with_reducible first|apply aA (g:=136)|apply aZ (g:=136));exact (lB _ _))
    all_goals (unfold dg at *;grind)
  .have eA:vH s.cnt k=0:=by simp [vH];omega
   by_cases hro:0<=x.role /\ x.role<(m.roles.length:Int)
   .obtain ⟨q,hq⟩:∃ q:Nat,x.role=(q:Int):=⟨x.role.toNat,by omega⟩;have hq2:q<m.roles.length:=(by omega);have eO:D3 m x.role user=(decide (0<=user) && decide (user<(m.users.length:Int)) && aW m.roles[q].2 user):=(by simp [D3,hq,hq2]);have hrq:=hr _ (KQ hq2);rw [eA,eO]
    repeat' first|refine gq ?_|simp only [ae,hk,hx,hc,hq,hq2]|decide|refine sp ?_ ?_<;>intro _|((with_reducible first|apply aA (g:=92)|apply aZ (g:=92));exact (dk _ _ ho))|((with_reducible first|apply aA (g:=92)|apply aZ (g:=92));exact (dk _ _ hrq))|((with_reducible first|apply aA (g:=94)|apply aZ (g:=94));exact (gY _ _ hl hd))|((with_reducible first|apply aA (g:=136)|apply aZ (g:=136));exact (lB _ _))
    all_goals (unfold dg at *;grind)
   .have eO:D3 m x.role user=false:=by
     have:(decide (0<=x.role) && decide (x.role<(m.roles.length:Int)))=false:=by
      rw [Lv];simp only [Lc];omega
     simp [D3,this]
    have eI':dg x.role (m.roles.length:Int)=false:=by unfold dg;grind
    rw [eA,eO]
    repeat' first|refine gq ?_|simp only [ae,hk,hx,hc,eI']|decide|refine sp ?_ ?_<;>intro _|((with_reducible first|apply aA (g:=92)|apply aZ (g:=92));exact (dk _ _ ho))|((with_reducible first|apply aA (g:=94)|apply aZ (g:=94));exact (gY _ _ hl hd))|((with_reducible first|apply aA (g:=136)|apply aZ (g:=136));exact (lB _ _))
    all_goals (unfold dg at *;grind)
 .have ee:BV m event=none:=by
   unfold BV;split
   .exact Lh (by omega)
   .rfl
  have eR:oL m s event user=false:=by simp only [oL,ee]
  have eI':dg event (m.events.length:Int)=false:=by unfold dg;grind
  rw [eR]
  repeat' first|refine gf eI' ?_|decide|refine sp ?_ ?_<;>intro _|((with_reducible first|apply aA (g:=136)|apply aZ (g:=136));exact (lB _ _))
end
section
theorem BQ (s:St) (event user:Int) (hd:∀ x ∈ s.did,aq x):aw Tryz.prog 93 [.agg (i6 s),eI event,eI user] (val (.bool (aW (vH s.did event) user))):=by
 refine ab ah Tryz.func93 rfl (by decide) Tryz.ntmps93 Tryz.results93 rfl (aU _) ?_;by_cases h:0<=event /\ event<(s.did.length:Int)
 .obtain ⟨k,rfl⟩:∃ k:Nat,event=(k:Int):=⟨event.toNat,by omega⟩;have hk:k<s.did.length:=by omega
  have eA:vH s.did k=s.did[k]:=by simp [vH,hk]
  have eI':dg (k:Int) (s.did.length:Int)=true:=by unfold dg;simp;omega
  rw [eA]
  repeat' first|refine gq ?_|simp only [ae,hk,eI']|decide|refine sp ?_ ?_<;>intro _|((with_reducible first|apply aA (g:=136)|apply aZ (g:=136));exact (lB _ _))|((with_reducible first|apply aA (g:=92)|apply aZ (g:=92));exact (dk _ _ (hd _ (KQ hk))))
 .have eA:vH s.did event=0:=by unfold vH;rw [KY h]
  have eI':dg event (s.did.length:Int)=false:=by unfold dg;grind
  have eB':aW 0 user=false:=by simp [aW]
  rw [eA,eB']
  repeat' first|refine gf eI' ?_|decide|refine sp ?_ ?_<;>intro _|((with_reducible first|apply aA (g:=136)|apply aZ (g:=136));exact (lB _ _))
theorem wl (m:aR) (s:St) (event user:Int) (hl:m.miles.length<=1000000) (hl2:m.sods.length<=1000000) (ho:aq s.opn) (hd:aq s.don) (hr:∀ p ∈ m.roles,aq p.2) (hdid:∀ x ∈ s.did,aq x):aw Tryz.prog 126 [.agg (aM m),.agg (i6 s),eI event,eI user] (val (.bool (fT m s event user))):=by
 refine ab ah Tryz.func126 rfl (by decide) Tryz.ntmps126 Tryz.results126 rfl (aU _) ?_;unfold fT
 cases hfr:oL m s event user with
 | false=>
  repeat' first|refine gf @hfr ?_|decide|refine sp ?_ ?_<;>intro _|((with_reducible first|apply aA (g:=137)|apply aZ (g:=137));exact (yj m s event user hl ho hd hr))
  rfl
 | true=>
  repeat' first|refine gf @hfr ?_|decide|refine sp ?_ ?_<;>intro _|((with_reducible first|apply aA (g:=137)|apply aZ (g:=137));exact (yj m s event user hl ho hd hr))
  unfold Cp;refine af (fun st=>∃ k:Nat,k<=m.sods.length /\ jJ (l7 m s event user) k=false /\ st=⟨57,[(2,eI event),(3,eI user),(4,.op 0 0 0),(5,.op 1 0 0),(9,eI (k:Int))],[(0,some (.box 32 (aM m))),(1,some (.box 106 (i6 s)))],2⟩) (fun st=>m.sods.length - ap st 9) ⟨_,wC,0,KR _,rfl,rfl⟩ ?_;rintro _ ⟨k,hk,hI,rfl⟩;by_cases hlt:k<m.sods.length
  .obtain ⟨⟨a,b⟩,hx⟩:∃ x,m.sods[k]=x:=⟨_,rfl⟩;have ex:Kl m.sods[k]=[eI a,eI b]:=(by rw [hx]);have eF:l7 m s event user k=(((a == event) && aW (vH s.did b) user) || ((b == event) && aW (vH s.did a) user)):=(by simp [l7,hlt,hx])
   repeat' first|refine ge @hlt ?_|decide|refine sp ?_ ?_<;>intro _
   refine aB [] [0,1,2,3,4,5,6,7,8,9,10,11] (.exec 12 (.exec 13 .done)) (by kernel_rfl) (by simp [aa.gc]) ?_
   repeat' first|refine gq ?_|simp only [ae,hlt,ex]|decide|refine sp ?_ ?_<;>intro _|((with_reducible first|apply aA (g:=93)|apply aZ (g:=93));exact (BQ s b user hdid))|((with_reducible first|apply aA (g:=93)|apply aZ (g:=93));exact (BQ s a user hdid))
   all_goals first
    | (rw [show jJ (l7 m s event user) m.sods.length=true from oM hlt (by rw [eF];grind)];rfl)
    | exact rI wC ⟨k+1,by omega,mN hI (by rw [eF];grind),rfl⟩
  .obtain rfl:k=m.sods.length:=by omega
   repeat' first|refine gf @hlt ?_|decide|refine sp ?_ ?_<;>intro _
   rw [hI];rfl
theorem BD (m:aR) (s:St) (event:Int) (hl:m.miles.length<=1000000) (hl2:m.sods.length<=1000000) (hl3:m.users.length<=1000000) (ho:aq s.opn) (hd:aq s.don) (hr:∀ p ∈ m.roles,aq p.2) (hdid:∀ x ∈ s.did,aq x):aw Tryz.prog 83 [.agg (aM m),.agg (i6 s),eI event] (gi 3 1 ((fh m s event).map fun n=>[eI n])):=by
 refine ab ah Tryz.func83 rfl (by decide) Tryz.ntmps83 Tryz.results83 rfl (dB _ _ _) ?_
 repeat' first|refine go ?_|decide|refine sp ?_ ?_<;>intro _
 unfold fh;obtain ⟨f,hf⟩:∃ f:Nat -> Bool,f=fun u:Nat=>fT m s event (u:Int):=⟨_,rfl⟩;rw [<- hf];have e0:fm f 0=[]:=rfl;refine af (fun st=>∃ k:Nat,k<=m.users.length /\ st=⟨26,[(2,eI event),(3,.op 0 0 0),(4,.op 1 0 0),(7,.osl 2),(8,eI (k:Int))],[(0,some (.box 32 (aM m))),(1,some (.box 106 (i6 s))),(2,some (.row 3 1 ((fm f k).map fun n=>[eI n])))],3⟩) (fun st=>m.users.length - ap st 8) ⟨_,((bf 7 3 1 (by simp only [iu,ak.get,bl,ak.put,↓reduceIte,reduceCtorEq,Nat.reduceLT,Nat.reduceEqDiff,Nat.reduceAdd,Nat.reduceLeDiff,eq_self,implies_true,e0,Lq])).trans (wS [0,1,2] e0)),0,KR _,rfl⟩ ?_;rintro _ ⟨k,hk,rfl⟩;have hlen:=nj f k;by_cases hlt:k<m.users.length
 .have hef:fT m s event (k:Int)=f k:=by rw [hf]
  repeat' first|refine gf @hlt ?_|decide|refine sp ?_ ?_<;>intro _|((refine aA (wl m s event (k:Int) hl hl2 ho hd hr hdid) ?_;rw [hef]))
  .rename_i h
   have et:(fm f (k+1)).map (fun n=>[eI n])=(fm f k).map (fun n=>[eI n]) ++ [[eI (k:Int)]]:=by
    rw [fm,K5 h];simp
   refine ⟨rfl,by omega,rI (wS [0,1,4] et) ⟨k+1,by omega,rfl⟩⟩
  .rename_i h
   have et:fm f (k+1)=fm f k:=by
    rw [fm,KY (by simp [h])]
   exact rI (wE et) ⟨k+1,by omega,rfl⟩
 .obtain rfl:k=m.users.length:=by omega
  repeat' first|refine gf @hlt ?_|decide|refine sp ?_ ?_<;>intro _
  exact bk (by simp [aa.gc])
theorem qE (f:Nat -> Bool):∀ n,decide (0<((fm f n).length:Int))=jJ f n
 | 0=>rfl
 | n+1=>by
  have:=qE f n;unfold fm jJ;split
  .rename_i h;simp [h]
  .rename_i h;simp only [h,Bool.or_false,this]
theorem Ju (m:aR) (s:St) (hle:m.events.length<=1000000) (hl:m.miles.length<=1000000) (hl2:m.sods.length<=1000000) (hl3:m.users.length<=1000000) (ho:aq s.opn) (hd:aq s.don) (hr:∀ p ∈ m.roles,aq p.2) (hdid:∀ x ∈ s.did,aq x):aw Tryz.prog 87 [.agg (aM m),.agg (i6 s)] (val (.bool (Dx m s))):=by
 refine ab ah Tryz.func87 rfl (by decide) Tryz.ntmps87 Tryz.results87 rfl (aU _) ?_
 repeat' first|refine go ?_|decide|refine sp ?_ ?_<;>intro _
 unfold Dx;obtain ⟨f,hf⟩:∃ f:Nat -> Bool,f=fun e:Nat=>jJ (fun u=>fT m s (e:Int) (u:Int)) m.users.length:=⟨_,rfl⟩;rw [<- hf];refine af (fun st=>∃ k:Nat,k<=m.events.length /\ jJ f k=false /\ st=⟨19,[(2,.op 0 0 0),(3,.op 1 0 0),(5,eI (k:Int))],[(0,some (.box 32 (aM m))),(1,some (.box 106 (i6 s)))],2⟩) (fun st=>m.events.length - ap st 5) ⟨_,wC,0,KR _,rfl,rfl⟩ ?_;rintro _ ⟨k,hk,hI,rfl⟩;by_cases hlt:k<m.events.length
 .have hef:decide (0<((fh m s (k:Int)).length:Int))=f k:=by rw [hf];exact qE _ _
  repeat' first|refine gf @hlt ?_|decide|refine sp ?_ ?_<;>intro _|((with_reducible apply iU (g:=83));exact (BD m s (k:Int) hl hl2 hl3 ho hd hr hdid);exact (.inr eJ))
  all_goals rename_i h
  all_goals simp only [Lg,hef] at h
  .symm;exact oM hlt h
  .exact rI wC ⟨k+1,by omega,mN hI h,rfl⟩
 .obtain rfl:k=m.events.length:=by omega
  repeat' first|refine gf @hlt ?_|decide|refine sp ?_ ?_<;>intro _
  exact hI.symm
end
section
theorem oP (n:Nat):k8 (n:Int)=((2 ^ (min n 31) - 1:Nat):Int):=by
 have h1:(max 0 (min (n:Int) 31)).toNat=min n 31:=by omega
 have h2:0<2 ^ (min n 31):=Nat.two_pow_pos _;unfold k8;rw [h1];generalize min n 31=k at *;have:((2 ^ k:Nat):Int)=(2:Int) ^ k:=by simp
 omega
theorem vd (s:Int) (n:Nat) (hs:0<=s /\ s<2147483648):zm s (n:Int)=true ↔ ∀ i:Nat,n<=i -> i<31 -> aW s (i:Int)=false:=by
 obtain ⟨q,rfl⟩:∃ q:Nat,s=(q:Int):=⟨s.toNat,by omega⟩;have hq:q<2 ^ 31:=by omega
 have hl:kY (q:Int)=q:=by
  simp only [kY];omega
 unfold zm;rw [oP];have h2:0<2 ^ (min n 31):=Nat.two_pow_pos _;constructor
 .intro h i h3 h4;simp at h;have hlt:q<2 ^ (min n 31):=by omega
  rw [cJ _ _ h4,hl];refine Mf (K1 hlt ?_);exact Lu (by omega) (by omega)
 .intro h
  have hlt:q<2 ^ (min n 31):=by
   refine Nat.lt_pow_two_of_testBit _ fun i hi=>?_;by_cases h31:i<31
   .have:=h i (by omega) h31
    rwa [cJ _ _ h31,hl] at this
   .refine Mf (K1 hq ?_);exact Lu (by omega) (by omega)
  simp;omega
theorem yW (n:Nat):k8 (n:Int)<2147483648:=by
 rw [oP];have:2 ^ (min n 31)<=2 ^ 31:=Lu (by omega) (by omega);have h2:0<2 ^ (min n 31):=Nat.two_pow_pos _;omega
theorem nl {s:Int} {n:Nat} (h:zm s (n:Int)=true):cc s:=by
 unfold zm at h;simp at h;have:=yW n;unfold cc;omega
theorem pJ (s:Int) (n:Nat) (hs:aq s):aw Tryz.prog 149 [eI s,eI (n:Int)] (val (.bool (zm s (n:Int)))):=by
  refine ab ah Tryz.func149 rfl (by decide) Tryz.ntmps149 Tryz.results149 rfl (aU _) ?_
  repeat' first|refine go ?_|decide|refine sp ?_ ?_<;>intro _
  refine af (fun st=>∃ k:Nat,k<=31 /\ (∀ i:Nat,n<=i -> i<k -> aW s (i:Int)=false) /\ st=⟨24,[(0,eI s),(1,eI (n:Int)),(5,eI (k:Int))],[],0⟩) (fun st=>31 - ap st 5) ⟨_,wC,0,KR _,by simp,rfl⟩ ?_;rintro _ ⟨k,hk,hI,rfl⟩;by_cases hlt:k<31
  . have h31:(k:Int)<31:=by omega
    repeat' first|refine gf h31 ?_|decide|refine sp ?_ ?_<;>intro _|((with_reducible first|apply aA (g:=92)|apply aZ (g:=92));exact (dk _ _ hs))
    all_goals first
      | (rename_i h1 h2
         simp at h1;symm;rw [L4];intro hof;have:=(vd s n (nl hof)).1 hof k (by omega) hlt;rw [this] at h2;cases h2)
      | (rename_i h1 h2
         simp at h1;refine rI wC ⟨k+1,by omega,fun i hi hi2=>?_,rfl⟩;rcases Ld i k with h3|h3
         . exact hI i hi h3
         . obtain rfl:i=k:=by omega
           exact h2)
      | (rename_i h1
         simp at h1;refine rI wC ⟨k+1,by omega,fun i hi hi2=>?_,rfl⟩;exact hI i hi (by omega))
  . obtain rfl:k=31:=by omega
    have h31:(((31:Nat):Int)<31)=False:=by simp
    repeat' first|refine gf h31 ?_|decide|refine sp ?_ ?_<;>intro _
    . rename_i h1;simp at h1;by_cases h2:s<=2147483647
      . rw [(vd s n ⟨h1,by omega⟩).2 hI];simp [h2]
      . have h3:zm s (n:Int)=false:=by
          rw [L4];intro hof;have:=nl hof;unfold cc at this;omega
        rw [h3];simp [h2]
    . rename_i h1;simp at h1;symm;rw [L4];intro hof;have:=nl hof;unfold cc at this;omega
theorem DW (m:aR) (s:St) (hl:m.events.length<=1000000) (ho:aq s.opn) (hd:aq s.don) (hdid:∀ x ∈ s.did,aq x):aw Tryz.prog 121 [.agg (aM m),.agg (i6 s)] (val (.bool (un m s))):=by
 refine ab ah Tryz.func121 rfl (by decide) Tryz.ntmps121 Tryz.results121 rfl (aU _) ?_;by_cases hsz:s.vals.length=m.attrs.length /\ s.did.length=m.events.length /\ s.cnt.length=m.events.length
 .obtain ⟨h1,h2,h3⟩:=hsz;have n1:(((s.vals.length:Nat):Int) != ((m.attrs.length:Nat):Int))=false:=by simp [h1]
  have n2:(((s.did.length:Nat):Int) != ((m.events.length:Nat):Int))=false:=by simp [h2]
  have n3:(((s.cnt.length:Nat):Int) != ((m.events.length:Nat):Int))=false:=by simp [h3]
  have hall:un m s=(zm s.opn m.stages.length && zm s.don m.miles.length && lS (u7 m s) m.events.length):=by simp [un,h1,h2,h3]
  rw [hall];obtain ⟨f,hf⟩:∃ f,f=u7 m s:=⟨_,rfl⟩;rw [<- hf];have e0:lS f 0=true:=rfl
  have loop:∀ (b0:Bool) (k:Nat),k<m.events.length -> ∀ b,(b0 && lS f k)=b -> (b0 && lS f (k+1))=(b && f k):=fun b0 k hk b hb=>by
   rw [<- hb];simp [lS,Bool.and_assoc]
  repeat' first|refine gf (kf n1 (kf n2 n3)) ?_|decide|refine sp ?_ ?_<;>intro _|((with_reducible first|apply aA (g:=149)|apply aZ (g:=149));exact (pJ _ _ ho))|((with_reducible first|apply aA (g:=149)|apply aZ (g:=149));exact (pJ _ _ hd))
  .rename_i h;rw [h,L5];obtain ⟨b0,hb0⟩:∃ b,zm s.don m.miles.length=b:=⟨_,rfl⟩;rw [hb0];refine af (fun st=>∃ k:Nat,k<=m.events.length /\ st=⟨86,[(2,.op 0 0 0),(3,.op 1 0 0),(5,eI (m.events.length:Int)),(6,eB (b0 && lS f k)),(7,eI (k:Int))],[(0,some (.box 32 (aM m))),(1,some (.box 106 (i6 s)))],2⟩) (fun st=>m.events.length - ap st 7) ⟨_,(wE (kf hb0 (kf e0 @Bool.and_true))),0,KR _,rfl⟩ ?_;rintro _ ⟨k,hk,rfl⟩;by_cases hlt:k<m.events.length
   .have hd':k<s.did.length:=(by omega);have hc:k<s.cnt.length:=(by omega);have eF:f k=(zm s.did[k] m.users.length && decide (0<=s.cnt[k]) && decide (s.cnt[k]<=m.events[k].times)):=by rw [hf];simp [u7,hd',hc,hlt]
    have hs:=loop b0 k hlt;obtain ⟨b,hb⟩:∃ b,(b0 && lS f k)=b:=⟨_,rfl⟩;have hs:=hs b hb;rw [hb]
    repeat' first|refine gq ?_|simp only [ae,hlt,hd',hc]|decide|refine sp ?_ ?_<;>intro _|((with_reducible first|apply aA (g:=149)|apply aZ (g:=149));exact (pJ _ _ (hdid _ (KQ hd'))))
    .have hv:(b0 && lS f (k+1))=decide (s.cnt[k]<=m.events[k].times):=(by grind);exact rI (wE hv) ⟨k+1,by omega,rfl⟩
    all_goals
     have hv:(b0 && lS f (k+1))=false:=(by grind);exact rI (wE hv) ⟨k+1,by omega,rfl⟩
   .obtain rfl:k=m.events.length:=by omega
    repeat' first|refine gf @hlt ?_|decide|refine sp ?_ ?_<;>intro _
  .rename_i h;rw [h];refine af (fun st=>∃ k:Nat,k<=m.events.length /\ st=⟨86,[(2,.op 0 0 0),(3,.op 1 0 0),(5,eI (m.events.length:Int)),(6,eB false),(7,eI (k:Int))],[(0,some (.box 32 (aM m))),(1,some (.box 106 (i6 s)))],2⟩) (fun st=>m.events.length - ap st 7) ⟨_,wC,0,KR _,rfl⟩ ?_;rintro _ ⟨k,hk,rfl⟩;by_cases hlt:k<m.events.length
   .repeat' first|refine gf @hlt ?_|decide|refine sp ?_ ?_<;>intro _
    all_goals exact rI wC ⟨k+1,by omega,rfl⟩
   .obtain rfl:k=m.events.length:=by omega
    repeat' first|refine gf @hlt ?_|decide|refine sp ?_ ?_<;>intro _
    simp
 .have hall:un m s=false:=by
   unfold un;rw [L4];simp only [ne_eq,Li,Lp]
   grind
  rw [hall]
  repeat' first|refine gq ?_|decide|refine sp ?_ ?_<;>intro _
  all_goals first
   | rfl
   | (exfalso;grind)
end
section
end
section
def LI (w:World) (v:Value) (l:List Int):Prop:=
 ∃ A c,v=.slice A l.length c /\ l.length<=c /\ (0<l.length -> ∃ b o,A=some ⟨b,o,none⟩ /\ b<w.heap.size /\ ∀ i (h:i<l.length),w.cell? ⟨b,o+i,none⟩=some (.int .i64 l[i]))
theorem LI.some_ {w:World} {v:Value} {l:List Int} (h:LI w v l) (hp:0<l.length):∃ b o c,v=.slice (some ⟨b,o,none⟩) l.length c /\ l.length<=c /\ b<w.heap.size /\ ∀ i (h:i<l.length),w.cell? ⟨b,o+i,none⟩=some (.int .i64 l[i]):=by
 obtain ⟨A,c,rfl,hc,hr⟩:=h;obtain ⟨b,o,rfl,hb,hcell⟩:=hr hp;exact ⟨b,o,c,rfl,hc,hb,hcell⟩
end
section
def LN (B:Nat) (w:World) (v:Value) (l:List Int):Prop:=
 ∃ A c,v=.slice A l.length c /\ l.length<=c /\ c<=9223372036854775807 /\ (0<l.length -> ∃ b o,A=some ⟨b,o,none⟩ /\ B<=b /\ b<w.heap.size /\ ∀ i (h:i<l.length),w.cell? ⟨b,o+i,none⟩=some (.int .i64 l[i]))
theorem LN.rt {B:Nat} {w:World} {S:Nat -> Prop} {v:Value} {l:List Int} (h:LN B w v l) (hS:∀ b,B<=b -> b<w.heap.size -> S b):RT w S v (sI l):=by
 obtain ⟨A,c,rfl,h1,h2,h3⟩:=h
 have key:∀ (i j:Nat) (row:List AV) (av:AV),(l.map fun n=>[eI n])[i]? = some row -> row[j]? = some av -> ∃ hi:i<l.length,j=0 /\ av=eI l[i]:=fun i j row av h4 h5=>by
  have hi:i<l.length:=by
   have:=(KS.1 h4).1;simpa using this
  rw [KV,KN hi] at h4;cases h4
  match j with
  | 0=>exact ⟨hi,rfl,by simpa using h5.symm⟩
  | j+1=>simp at h5
 by_cases h0:0<l.length
 .obtain ⟨b,o,rfl,hb,hbs,hcell⟩:=h3 h0;refine .sl _ _ c 1 _ b o (fun i _=>.int .i64 (l.getD i 0)) (by simp) h1 h2 (fun _=>⟨rfl,hS b hb hbs⟩) (fun row hr=>by obtain ⟨n,_,rfl⟩:=K8.1 hr;rfl) (fun _ i j row av h4 h5=>?_) (fun _ _ _ _ _ _=>rfl) (fun i j row av h4 h5=>?_)
  .obtain ⟨hi,rfl,_⟩:=key i j row av h4 h5;rw [Nat.mul_one,Nat.add_zero,hcell i hi,KP,KN hi];rfl
  .obtain ⟨hi,rfl,rfl⟩:=key i j row av h4 h5;rw [KP,KN hi];exact .c _
 .have:l=[]:=Mm.1 (by omega);subst this;exact .sl A 0 c 1 [] 0 0 (fun _ _=>undef) rfl h1 h2 (fun h=>by omega) (by simp) (fun h=>by omega) (by simp) (by simp)
theorem LI.of_rt {w:World} {S:Nat -> Prop} {v:Value} {l:List Int} (h:RT w S v (sI l)) (hS:Ax w S):LI w v l:=by
 obtain ⟨A,cap,rfl,hc,hm,_,hA⟩:=h.sl_inv;refine ⟨A,cap,by simp,by simpa using hc,fun h0=>?_⟩;obtain ⟨b,o,rfl,hb,U,hcell,hr,_⟩:=hA (by simpa using h0);refine ⟨b,o,rfl,hS b hb,fun i hi=>?_⟩;have h1:(l.map fun n=>[eI n])[i]? = some [eI l[i]]:=by simp [hi]
 have h2:=hcell i 0 _ _ h1 rfl;have h3:=B2 (hr i 0 _ _ h1 rfl);rw [h3] at h2;simpa using h2
theorem vM {P:Program} {f:FuncId} {args:List AV} {sz:Nat} {rows:List (List AV)} (he:eL P f)
  (h:∀ (S:Nat -> Prop) (w:World) (vs:Array Value),Ax w S -> vs.size=args.length -> (∀ (j:Nat) (v:Value) (av:AV),vs[j]? = some v -> args[j]? = some av -> RT w S v av) ->
   Calls P f vs w fun e w'=>∃ v,e=.returned v /\ (∀ S',(∀ b,w.heap.size<=b -> b<w'.heap.size -> S' b) -> RT w' S' v (.sl sz rows)) /\ Below w.heap.size w w'):aw P f args ⟨.sl sz rows,[],0⟩:=
 ⟨he,fun S w vs h1 h2 h3=>(h S w vs h1 h2 h3).mono fun e w' ⟨v,h4,h5,h6⟩=>⟨v,fun _=>undef,⟨.sl sz rows,[],0⟩,rfl,⟨fun id o h=>(by cases h),by simp [AV.lt]⟩,h4,⟨mZ h6,fun id o h=>(by cases h),fun id id' o o' g h=>(by cases h),fun b hb=>hb.elim⟩,.tree (h5 _ fun b hb hb2=>⟨hb2,⟨.inr hb,fun hX=>hX⟩,fun id o h=>(by cases h)⟩)⟩⟩
end
end
section
section
def jP (x:Int) (st:List Int × Bool) (y:Int):List Int × Bool:=
 ((st.1 ++ (if st.2=false /\ x<=y then [x] else [])) ++ (if y ≠ x then [y] else []),st.2 || decide (x<=y))
def fA (x:Int) (l:List Int):List Int × Bool:=l.foldl (jP x) ([],false)
def rW (x:Int) (out:List Int):List Int:=if (fA x out).2 then (fA x out).1 else (fA x out).1 ++ [x]
def aP (l:List Int):List Int:=l.foldl (fun out x=>rW x out) []
theorem mT (x:Int) (l:List Int) (y:Int):fA x (l ++ [y])=jP x (fA x l) y:=by simp [fA]
theorem yy (x:Int) (l:List Int) (k:Nat) (h:k<l.length):fA x (l.take (k+1))=jP x (fA x (l.take k)) l[k]:=by
 rw [KX h,mT]
theorem lA (l:List Int) (x:Int):aP (l ++ [x])=rW x (aP l):=by simp [aP]
theorem wK (l:List Int) (k:Nat) (h:k<l.length):aP (l.take (k+1))=rW l[k] (aP (l.take k)):=by
 rw [KX h,lA]
theorem mC {p:List Int -> Prop} (h0:p []) (h1:∀ l x,p l -> p (l ++ [x])) (l:List Int):p l:=by
 rw [<- List.reverse_reverse l]
 induction l.reverse with
 | nil=>exact h0
 | cons x r ih=>rw [List.reverse_cons];exact h1 _ _ ih
theorem uj (x:Int) (l:List Int):(fA x l).1.length<=l.length+(if (fA x l).2 then 1 else 0):=by
 induction l using mC with
 | h0=>simp [fA]
 | h1 l y ih=>
  rw [mT];generalize fA x l=st at *;obtain ⟨n,b⟩:=st;cases b<;>by_cases h1:x<=y<;>by_cases h2:y=x<;>simp [jP,h1,h2] at ih ⊢<;>omega
theorem Bn (x:Int) (l:List Int):(rW x l).length<=l.length+1:=by
 have:=uj x l;unfold rW;split<;>rename_i h<;>simp [h] at this ⊢<;>omega
theorem cW (l:List Int):(aP l).length<=l.length:=by
 induction l using mC with
 | h0=>simp [aP]
 | h1 l y ih=>rw [lA];have:=Bn y (aP l);simp;omega
def Up (l:List Int):Prop:=l.Pairwise (· < ·)
theorem D9 (x:Int) (l:List Int) (h:Up l) :
  Up (fA x l).1 /\ (∀ z,z ∈ (fA x l).1 ↔ z ∈ l \/ ((fA x l).2=true /\ z=x)) /\ ((fA x l).2=true ↔ ∃ z ∈ l,x<=z) /\ ((fA x l).2=true -> x ∈ (fA x l).1):=by
 induction l using mC with
 | h0=>simp [fA,Up]
 | h1 l y ih=>
  have hl:Up l:=(Mb.1 h).1;have hy:∀ z ∈ l,z<y:=fun z hz=>(Mb.1 h).2.2 z hz y (by simp);obtain ⟨i1,i2,i3,i4⟩:=ih hl;rw [mT];generalize fA x l=st at *;obtain ⟨n,b⟩:=st;simp only at i1 i2 i3 i4
  cases b with
  | true=>
   obtain ⟨z,hz,hxz⟩:=i3.1 rfl;have hxy:x<y:=by have:=hy z hz;omega
   have hne:y ≠ x:=(by omega);simp only [jP,Bool.true_or,Bool.true_eq_false,false_and,if_false,Ln,K5 hne];refine ⟨Mb.2 ⟨i1,by simp,?_⟩,?_,?_,?_⟩
   .intro a ha c hc;rw [K9] at hc;subst hc;rcases (i2 a).1 ha with h|⟨_,rfl⟩
    .exact hy a h
    .exact hxy
   .intro a;simp only [K2,K9,i2];constructor
    .rintro ((h | h) | h)
     .exact .inl (.inl h)
     .exact .inr h
     .exact .inl (.inr h)
    .rintro ((h | h) | h)
     .exact .inl (.inl h)
     .exact .inr h
     .exact .inl (.inr h)
   .exact ⟨fun _=>⟨z,by simp [hz],hxz⟩,fun _=>trivial⟩
   .intro _;simp [i4 rfl]
  | false=>
   have hlow:∀ z ∈ l,z<x:=fun z hz=>by
    rcases Int.lt_or_le z x with h|h
    .exact h
    .exact absurd (i3.2 ⟨z,hz,h⟩) (by simp)
   have hn:∀ z,z ∈ n ↔ z ∈ l:=fun z=>by rw [i2];simp
   by_cases hxy:x<=y
   .by_cases hne:y=x
    .subst hne;simp only [jP,Mw,and_self,if_true,ne_eq,not_true,if_false,Ln,decide_true,Bool.or_true];refine ⟨Mb.2 ⟨i1,by simp,?_⟩,?_,?_,?_⟩
     .intro a ha c hc;rw [K9] at hc;subst hc;exact hy a ((hn a).1 ha)
     .intro a;simp only [K2,K9,hn];constructor
      .rintro (h | h)
       .exact .inl (.inl h)
       .exact .inl (.inr h)
      .rintro (h | ⟨_,h⟩)
       .exact h
       .exact .inr h
     .exact ⟨fun _=>⟨y,by simp,Mw _⟩,fun _=>trivial⟩
     .intro _;simp
    .simp only [jP,hxy,and_self,if_true,ne_eq,hne,not_false_eq_true,decide_true,Bool.or_true];refine ⟨?_,?_,?_,?_⟩
     .unfold Up;rw [KZ];refine Mb.2 ⟨i1,by simp;omega,?_⟩;intro a ha c hc;have hal:=(hn a).1 ha;have h1:=hlow a hal;have h2:=hy a hal;simp at hc;rcases hc with rfl|rfl
      .exact h1
      .exact h2
     .intro a;simp only [K2,K9,hn];constructor
      .rintro ((h | h) | h)
       .exact .inl (.inl h)
       .exact .inr ⟨by simp,h⟩
       .exact .inl (.inr h)
      .rintro ((h | h) | ⟨_,h⟩)
       .exact .inl (.inl h)
       .exact .inr h
       .exact .inl (.inr h)
     .exact ⟨fun _=>⟨y,by simp,hxy⟩,fun _=>trivial⟩
     .intro _;simp
   .have hne:y ≠ x:=(by omega);have hd:decide (x<=y)=false:=K0 hxy;simp only [jP,hxy,and_false,if_false,Ln,K5 hne,hd,Bool.or_false];refine ⟨Mb.2 ⟨i1,by simp,?_⟩,?_,?_,?_⟩
    .intro a ha c hc;rw [K9] at hc;subst hc;exact hy a ((hn a).1 ha)
    .intro a;simp only [K2,K9,hn];simp
    .constructor
     .intro h;cases h
     .rintro ⟨z,hz,hxz⟩;rcases K2.1 hz with h|h
      .have:=hlow z h;omega
      .rw [K9] at h;subst h;exact absurd hxz hxy
    .intro h;cases h
theorem Ey (x:Int) (l:List Int) (h:Up l):Up (rW x l) /\ ∀ z,z ∈ rW x l ↔ z ∈ l \/ z=x:=by
 obtain ⟨i1,i2,i3,i4⟩:=D9 x l h;unfold rW;split
 .rename_i hb;refine ⟨i1,fun z=>?_⟩;rw [i2];simp [hb]
 .rename_i hb
  have hlow:∀ z ∈ l,z<x:=fun z hz=>by
   rcases Int.lt_or_le z x with h|h
   .exact h
   .exact absurd (i3.2 ⟨z,hz,h⟩) hb
  have hn:∀ z,z ∈ (fA x l).1 ↔ z ∈ l:=fun z=>by rw [i2];simp [hb]
  refine ⟨Mb.2 ⟨i1,by simp,?_⟩,fun z=>?_⟩
  .intro a ha c hc;rw [K9] at hc;subst hc;exact hlow a ((hn a).1 ha)
  .simp [hn]
theorem dJ (l:List Int):Up (aP l) /\ ∀ z,z ∈ aP l ↔ z ∈ l:=by
 induction l using mC with
 | h0=>simp [aP,Up]
 | h1 l x ih=>
  obtain ⟨h1,h2⟩:=Ey x _ ih.1;rw [lA];exact ⟨h1,fun z=>by rw [h2,ih.2];simp⟩
theorem DA:∀ (a b:List Int),Up a -> Up b -> (∀ z,z ∈ a ↔ z ∈ b) -> a=b
 | [],[],_,_,_=>rfl
 | [],y :: b,_,_,h=>by have:=(h y).2 (by simp);simp at this
 | x :: a,[],_,_,h=>by have:=(h x).1 (by simp);simp at this
 | x :: a,y :: b,ha,hb,h=>by
  have ha':=List.pairwise_cons.1 ha;have hb':=List.pairwise_cons.1 hb
  have hxy:x=y:=by
   rcases LR.1 ((h x).1 (by simp)) with h1|h1
   .exact h1
   .rcases LR.1 ((h y).2 (by simp)) with h2 | h2
    .exact h2.symm
    .have:=hb'.1 x h1;have:=ha'.1 y h2;omega
  subst hxy;rw [DA a b ha'.2 hb'.2 (fun z=>?_)];constructor
  .intro hz;rcases LR.1 ((h z).1 (by simp [hz])) with h1|h1
   .subst h1;have:=ha'.1 z hz;omega
   .exact h1
  .intro hz;rcases LR.1 ((h z).2 (by simp [hz])) with h1|h1
   .subst h1;have:=hb'.1 z hz;omega
   .exact h1
theorem wV (d:Array Int) (hs:∀ i j,i<j -> j<d.size -> d[i]! <= d[j]!) (m:Nat) (hm:m<=d.size) :
  Up (Lib.compactUpTo d m) /\ (∀ z,z ∈ Lib.compactUpTo d m ↔ ∃ i,i<m /\ d[i]! = z):=by
 induction m with
 | zero=>simp [Lib.compactUpTo,Up]
 | succ m ih=>
  obtain ⟨h1,h2⟩:=ih (by omega);rw [Lib.compactUpTo_succ];by_cases hk:Lib.keeps d m=true
  .rw [K5 hk];refine ⟨Mb.2 ⟨h1,by simp,?_⟩,fun z=>?_⟩
   .intro a ha c hc;rw [K9] at hc;subst hc;obtain ⟨i,hi,rfl⟩:=(h2 a).1 ha;simp only [Lib.keeps,Lp] at hk;have h3:=hs (m - 1) m (by omega) (by omega)
    have h4:d[i]! <= d[m - 1]!:=by
     rcases Ld i (m - 1) with h|h
     .exact hs i (m - 1) h (by omega)
     .rw [show i=m - 1 by omega];exact Mw _
    rcases hk with h|h
    .omega
    .have:d[m]! ≠ d[m - 1]!:=h;omega
   .simp only [K2,K9,h2];constructor
    .rintro (⟨i,hi,rfl⟩ | rfl)
     .exact ⟨i,by omega,rfl⟩
     .exact ⟨m,by omega,rfl⟩
    .rintro ⟨i,hi,rfl⟩;rcases Ld i m with h|h
     .exact .inl ⟨i,h,rfl⟩
     .exact .inr (by rw [show i=m by omega])
  .rw [KY hk,Ln];refine ⟨h1,fun z=>?_⟩;rw [h2];simp only [Lib.keeps,Lp,not_or,ne_eq,Decidable.not_not] at hk;constructor
   .rintro ⟨i,hi,rfl⟩;exact ⟨i,by omega,rfl⟩
   .rintro ⟨i,hi,rfl⟩;rcases Ld i m with h|h
    .exact ⟨i,h,rfl⟩
    .exact ⟨m - 1,by omega,by rw [<- hk.2,show i=m by omega]⟩
def nM (l:List Int):List Int:=Lib.compact (l.mergeSort fun x y=>decide (x<=y))
theorem BI (l:List Int):nM l=aP l:=by
 have hp:(l.mergeSort fun x y=>decide (x<=y)).Pairwise (fun a b=>decide (a<=b)=true):=List.pairwise_mergeSort (le:=fun x y=>decide (x<=y)) (fun a b c h1 h2=>by simp at *;omega) (fun a b=>by simp;omega) l;have hm:∀ z,z ∈ (l.mergeSort fun x y=>decide (x<=y)) ↔ z ∈ l:=fun z=>List.mem_mergeSort;unfold nM Lib.compact;generalize (l.mergeSort fun x y=>decide (x<=y))=s at *
 have hs:∀ i j,i<j -> j<s.toArray.size -> s.toArray[i]! <= s.toArray[j]!:=by
  intro i j hij hj;have hj':j<s.length:=by simpa using hj
  have h1:=Mg.1 hp i j (by omega) hj' hij;rw [getElem!_pos _ i (by simp;omega),getElem!_pos _ j hj];simpa using h1
 obtain ⟨h1,h2⟩:=wV s.toArray hs s.length (by simp);refine DA _ _ h1 (dJ l).1 (fun z=>?_);rw [h2,(dJ l).2,<- hm];constructor
 .rintro ⟨i,hi,rfl⟩;rw [getElem!_pos _ i (by simpa using hi)];simp
 .intro hz;obtain ⟨i,hi,rfl⟩:=Le hz;exact ⟨i,hi,by rw [getElem!_pos _ i (by simpa using hi)];simp⟩
theorem y3 (s:List Int) (n:Int) (h:Up s) (r:Nat) (hr:r<=s.length) (hlo:∀ (h0:0<r),s[r - 1]'(by omega)<n) (hhi:∀ (h1:r<s.length),n<=s[r]) :
  s.countP (fun x=>decide (x<n))=r /\ (decide (r<s.length) && (s[r]? == some n))=decide (n ∈ s):=by
 have hp:=Mg.1 h
 have hlow:∀ i (hi:i<r),s[i]'(by omega)<n:=fun i hi=>by
  have h1:=hlo (by omega);rcases Ld i (r - 1) with h2|h2
  .have:=hp i (r - 1) (by omega) (by omega) h2;omega
  .have e:i=r - 1:=(by omega);subst e;exact h1
 have hhigh:∀ i (hi:r<=i) (hi2:i<s.length),n<=s[i]:=fun i hi hi2=>by
  have h1:=hhi (by omega);rcases Ld r i with h2|h2
  .have:=hp r i (by omega) hi2 h2;omega
  .have e:i=r:=(by omega);subst e;exact h1
 constructor
 .rw [<- List.take_append_drop r s,List.countP_append]
  have e1:(s.take r).countP (fun x=>decide (x<n))=(s.take r).length:=List.countP_eq_length.2 (fun a ha=>by
   obtain ⟨i,hi,rfl⟩:=Le ha;rw [K6] at hi;rw [List.getElem_take];exact K4 (hlow i (by omega)))
  have e2:(s.drop r).countP (fun x=>decide (x<n))=0:=List.countP_eq_zero.2 (fun a ha=>by
   obtain ⟨i,hi,rfl⟩:=Le ha;rw [LG] at hi;rw [List.getElem_drop];have:=hhigh (r+i) (by omega) (by omega);simp;omega)
  rw [e1,e2,K6];omega
 .by_cases hm:n ∈ s
  .obtain ⟨i,hi,he⟩:=Le hm;have h1:¬ i<r:=fun h=>by have:=hlow i h;omega
   have h2:=hhi (by omega)
   have h3:i=r:=by
    rcases Ld r i with h4|h4
    .have:=hp r i (by omega) hi h4;omega
    .omega
   subst h3;simp [hm,hi,he]
  .have:¬ (r<s.length /\ s[r]? = some n):=fun ⟨h1,h2⟩=>hm (KO h2);simp only [hm,decide_false];rw [L4];intro hc;simp only [Li,Lp,MC] at hc;exact this hc
end
section
theorem Ew (x y:Int) (n:List Int) (h:y=x):jP x (n,true) y=(n,true):=by simp [jP,h]
theorem xW (x y:Int) (n:List Int) (h:y ≠ x):jP x (n,true) y=(n ++ [y],true):=by simp [jP,h]
theorem EN (x y:Int) (n:List Int) (h1:x<=y) (h:y=x):jP x (n,false) y=(n ++ [x],true):=by simp [jP,h]
theorem C5 (x y:Int) (n:List Int) (h1:x<=y) (h:y ≠ x):jP x (n,false) y=((n ++ [x]) ++ [y],true):=by simp [jP,h,h1]
theorem Ej (x y:Int) (n:List Int) (h1:¬ x<=y):jP x (n,false) y=(n ++ [y],false):=by
 have:y ≠ x:=by omega
 simp [jP,h1,this]
end
section
open Go.RowKit Go.Sort
theorem xO:(Tryz.prog.info? 2).map (fun i=>(i.zero,i.size,i.bytes))=some (some (.int .i64 0),1,8):=by kernel_rfl
end
section
open Go.RowKit Go.Sort
theorem tM (S:List Int):(Lib.compact S).length<=S.length:=by
 unfold Lib.compact Lib.compactUpTo;rw [Lg];have:=List.length_filter_le (Lib.keeps S.toArray) (List.range S.length);simpa using this
theorem ws (A:Option Addr) (c:Nat) (w:World) :
  Calls Tryz.prog 102 #[.slice A 0 c] w fun e w'=>(∃ A' c',e=.returned (.slice A' 0 c') /\ c'<=9223372036854775807) /\ Below w.heap.size w w':=by
 cases A with
 | none=>exact (Tryz.slices_Clone_nil 0 c w).mono (by rintro e w' ⟨rfl,rfl⟩;exact ⟨⟨_,_,rfl,by decide⟩,Below.refl _ _⟩)
 | some a=>
  obtain ⟨i0,hi0,hz0,hz1,hz2⟩:=info_parts xO;have q22:∀ (w:World) (a:Option Addr) (n c n' c':Nat),(binOp .eql 23 (.slice a n c) (.slice none n' c')).run Tryz.prog w=.ok (.bool a.isNone) w:=fun w a n c n' c'=>Lib.run_eql_slice_nil w _ _ a n c n' c' Tryz.underlying23
  go_enter Tryz.func102,Tryz.ntmps102
  go_wp2_with fail
  go_ret
  exact ⟨⟨_,_,rfl,by decide⟩,(Below.refl _ _).alloc (KW _) _⟩
theorem Cg (A:Option Addr) (c:Nat) (w:World) :
  Calls Tryz.prog 178 #[.slice A 0 c,.int .i64 0,.int .i64 0] w fun e w'=>e=.returned (.tuple #[]) /\ Below w.heap.size w w':=by
 go_enter Tryz.func178,Tryz.ntmps178
 go_wp2_with fail
 go_loopw [6] (fun i wr=>i=.int .i64 1 /\ Below w.heap.size w wr) (fun i wr=>0)
 case atStart=>exact ⟨rfl,Below.refl _ _⟩
 case round=>
  obtain ⟨rfl,hbl⟩:=hrel
  go_wp2_with fail
  go_end0
  exact ⟨rfl,hbl⟩
theorem CW (A:Option Addr) (c:Nat) (L:Int) (w:World) :
  Calls Tryz.prog 141 #[.slice A 0 c,.int .i64 0,.int .i64 0,.int .i64 L] w fun e w'=>e=.returned (.tuple #[]) /\ Below w.heap.size w w':=by
 go_enter Tryz.func141,Tryz.ntmps141
 go_wp2_with fail
 go_loopw [1,2] (fun a b wr=>a=.int .i64 0 /\ b=.int .i64 0 /\ Below w.heap.size w wr) (fun a b wr=>0)
 case atStart=>exact ⟨rfl,rfl,Below.refl _ _⟩
 case round=>
  obtain ⟨rfl,rfl,hbl⟩:=hrel;have h:=Cg A c wr
  go_wp2_with fail
  refine h.mono ?_;rintro e w2 ⟨rfl,hb2⟩
  go_wp2_with fail
  refine bodyPost_ret (results_none rfl _ _ _) rfl ?_;exact ⟨rfl,hbl.trans (hb2.mono hbl.size)⟩
theorem yO (A:Option Addr) (c:Nat) (w:World) :
  Calls Tryz.prog 103 #[.slice A 0 c] w fun e w'=>e=.returned (.tuple #[]) /\ Below w.heap.size w w':=by
 have h1:=Tryz.bits_Len 0 w (by decide) (by decide);generalize Lib.bitLen (0:Int).toNat=L at *;have h2:=CW A c L w
 go_enter Tryz.func103,Tryz.ntmps103
 go_wp2_with fail
 refine h1.mono ?_;rintro e w2 ⟨rfl,rfl⟩
 go_wp2_with fail
 refine h2.mono ?_;rintro e w3 ⟨rfl,hb⟩
 go_wp2_with fail
 go_end0
 exact ⟨rfl,hb⟩
theorem p6 (v:Value) (w:World) (h:LI w v []) :
  Calls Tryz.prog 60 #[v] w fun e w'=>∃ v',e=.returned v' /\ LN w.heap.size w' v' (nM []) /\ Below w.heap.size w w':=by
 obtain ⟨A,c,rfl,hc,_⟩:=h;have h1:=ws A c w;simp only [K3]
 go_enter Tryz.func60,Tryz.ntmps60
 go_wp2_with fail
 refine h1.mono ?_;rintro e w2 ⟨⟨A',c',rfl,hc9⟩,hb2⟩;have h2:=yO A' c' w2
 go_wp2_with fail
 refine h2.mono ?_;rintro e w3 ⟨rfl,hb3⟩;have h3:=Tryz.slices_Compact_int_empty A' c' w3
 go_wp2_with fail
 refine h3.mono ?_;rintro e w4 ⟨rfl,rfl⟩
 go_wp2_with fail
 go_ret
 rw [show nM []=[] by simp [nM,Lib.compact,Lib.compactUpTo]];exact ⟨_,rfl,⟨A',c',rfl,KR _,hc9,fun h=>absurd h (by simp)⟩,hb2.trans (hb3.mono hb2.size)⟩
end
section
open Go.RowKit Go.Sort
theorem o8 (l:List Int) (v:Value) (w:World) (hl:l.length<=1000000) (hp:0<l.length) (h:LI w v l) :
  Calls Tryz.prog 60 #[v] w fun e w'=>∃ v',e=.returned v' /\ LN w.heap.size w' v' (nM l) /\ Below w.heap.size w w':=by
 obtain ⟨i0,hi0,hz0,hz1,hz2⟩:=info_parts xO;obtain ⟨b,o,c,rfl,hc,hb,hcell⟩:=h.some_ hp
 have h1:=Tryz.slices_Clone i0 (.int .i64 0) 1 8 hi0 hz0 hz1 hz2 rfl (by decide) Tryz.sizeOf2 b o l.length c (l.map (Value.int .i64)) w (by simp) (by unfold maxLen;omega) (by omega)
  (fun j u hj=>by
   rw [KV] at hj;rcases Ld j l.length with hlt|hge
   .rw [KN hlt] at hj;obtain rfl:Value.int .i64 l[j]=u:=by simpa using hj
    exact hcell j hlt
   .rw [Lh hge] at hj;simp at hj)
  (fun u hu=>by obtain ⟨x,_,rfl⟩:=K8.1 hu;rfl)
 have H1:=dI h1;clear h1;unfold nM;have hSl:(l.mergeSort fun x y=>decide (x<=y)).length=l.length:=List.length_mergeSort ..;generalize hSd:(l.mergeSort fun x y=>decide (x<=y))=S at *;have HSd:=dI hSd;have HSl:=dI hSl;clear hSd hSl
 go_enter Tryz.func60,Tryz.ntmps60
 go_wp2_with fail
 refine H1.out.mono ?_;rintro e w1 ⟨v',rfl,hown,hnn,hb1⟩;obtain ⟨_,⟨_,hn0⟩|⟨g,cap,cur,rfl,hbase,hblk,hn,hcap,hcs,htake⟩⟩:=hown
 .omega
 rw [Nat.mul_one] at htake;have hg:g<w1.heap.size:=(Lt.1 hblk).1;have hH:=holds_of_blockI hblk htake;have h2:=Tryz.slices_Sort_int g 0 cap l w1 hH hg (by omega);rw [HSd.out] at h2;have H2:=dI h2;clear h2 H1 hH
 go_wp2_with fail
 refine H2.out.mono ?_;rintro e w2 ⟨rfl,n,os,rfl⟩;have hSl:=HSl.out;have hown2:=ownsRow_sortedI (n:=n) (os:=os) (ts:=S) hSl hbase hblk hn hcap hcs;have hgr2:=grownBy_sortedI (w:=w1) (g:=g) (n:=n) (os:=os) S.toArray;generalize Go.Sort.grow (putRow (Value.int .i64) (Sort.ahead w1 n) g 0 S.toArray) os=w2 at *;have hb2:Below w.heap.size w w2:=hb1.grown hgr2 hb1.size (fun j hj=>by cases hj;exact hbase);obtain ⟨_,⟨hx,_⟩|⟨g',cap',cur2,hv,_,hblk2,_,_,hcs2,htake2⟩⟩:=hown2
 .cases hx
 cases hv;rw [Nat.mul_one,<- hSl] at htake2;have hg2:g<w2.heap.size:=(Lt.1 hblk2).1;have hH2:=holds_of_blockI hblk2 htake2;have h3:=Tryz.slices_Compact_int g 0 cap S w2 hH2 (by omega) (by omega);rw [hSl] at h3;have H3:=dI h3;have hcl:=tM S;clear h3 H2 hH2
 go_wp2_with fail
 refine H3.out.mono ?_;rintro e w3 ⟨rfl,q,hw3⟩;have hown3:=ownsRow_sortedI (n:=q) (os:=#[]) (ss:=S) (ts:=Lib.compact S ++ List.replicate (S.length - (Lib.compact S).length) 0) (by simp;omega) hbase hblk2 (by omega) hcap hcs2;have hgr3:=grownBy_sortedI (w:=w2) (g:=g) (n:=q) (os:=#[]) (Lib.compact S ++ List.replicate (S.length - (Lib.compact S).length) 0).toArray;rw [grow_empty] at hown3 hgr3;rw [hSl] at hown3 hgr3;rw [<- hw3] at hown3 hgr3;have hb3:Below w.heap.size w w3:=hb2.grown hgr3 hb2.size (fun j hj=>by cases hj;exact hbase)
 have hLI:LN w.heap.size w3 (.slice (some ⟨g,0,none⟩) (Lib.compact S).length cap) (Lib.compact S):=by
  refine ⟨_,_,rfl,by omega,by unfold maxLen at hcap;omega,fun _=>⟨g,0,rfl,hbase,?_,fun i hi=>?_⟩⟩
  .have:=hgr3.size;omega
  .rw [L8];exact CS hown3 rfl (by rw [KV,Ls hi,KN hi];rfl)
 clear hw3 H3 hown3 hgr3 hblk hblk2 htake htake2
 go_wp2_with fail
 go_ret
 exact ⟨_,rfl,hLI,hb3⟩
theorem qd (l:List Int) (v:Value) (w:World) (hl:l.length<=1000000) (h:LI w v l) :
  Calls Tryz.prog 60 #[v] w fun e w'=>∃ v',e=.returned v' /\ LN w.heap.size w' v' (nM l) /\ Below w.heap.size w w':=by
 cases l with
 | nil=>exact p6 v w h
 | cons x l=>exact o8 (x :: l) v w hl (by simp) h
end
section
theorem En {vs:Array Value} {a:AV} (hn:vs.size=[a].length):∃ x,vs = #[x]:=⟨vs[0]'(by simp at hn;omega),by
 apply MP (by simpa using hn);intro i h1 h2;simp at h2;subst h2;rfl⟩
theorem nI (l:List Int) (hl:l.length<=1000000):aw Tryz.prog 60 [sI l] ⟨sI (aP l),[],0⟩:=
 vM (dQ Tryz.func60 rfl (by decide)) fun S w vs hS hn hv=>by
  obtain ⟨a,rfl⟩:=En hn;refine (qd l a w hl (LI.of_rt (hv 0 a _ rfl rfl) hS)).mono fun e w' ⟨v',h1,h2,h3⟩=>?_;rw [BI] at h2;exact ⟨v',h1,fun S' hS'=>h2.rt hS',h3⟩
def EH (e:TypeId) (sz:Nat) (rows:List (List AV)) (R:ce):Prop:=R=gi e sz rows \/ R=⟨.sl sz rows,[],0⟩
theorem rE {P:Program} {f:FuncId} {args:List AV} (e:TypeId) {sz:Nat} {rows:List (List AV)} (h:cT P f args (EH e sz rows)):aw P f args ⟨.sl sz rows,[],0⟩:=
 h.tree (by simp [AV.lt]) fun R hR=>by
  rcases hR with rfl|rfl
  .refine ⟨[0],?_⟩;have e:((gi e sz rows).frzs [0]).r=.sl sz rows:=(by simp [ce.frzs,ce.frz,gi,aa.gc,AV.frz]);rw [e];exact ⟨trivial,.one (.one (.refl _))⟩
  .exact ⟨[],trivial,.one (.one (.refl _))⟩
theorem zw (x:Int) (O:List Int) (m:Nat):(fA x (O.take m)).1.length<=m+1:=by
 have:=uj x (O.take m);have h2:=List.length_take_le m O;split at this<;>omega
theorem jx (l:List Int) (hl:l.length<=5000000):aw Tryz.prog 31 [sI l] (gi 2 1 ((aP l).map fun n=>[eI n])):=by
 refine ab ah Tryz.func31 rfl (by decide) Tryz.ntmps31 Tryz.results31 rfl (dB _ _ _) ?_
 repeat' first|refine go ?_|decide|refine sp ?_ ?_<;>intro _
 refine af (fun st=>∃ k:Nat,k<=l.length /\ st=⟨67,[(0,sI l),(3,.osl 0),(4,eI (k:Int))],[(0,some (.row 2 1 ((aP (l.take k)).map fun n=>[eI n])))],1⟩) (fun st=>l.length - ap st 4) ⟨_,((bf 3 2 1 (by simp only [iu,ak.get,bl,ak.put,↓reduceIte,reduceCtorEq,Nat.reduceLT,Nat.reduceEqDiff,Nat.reduceAdd,Nat.reduceLeDiff,eq_self,implies_true,Lb,aP,MF,Lq])).trans (wS [0] (kf @Lb (kf @aP.eq_1 @MF)))),0,KR _,rfl⟩ ?_;rintro _ ⟨k,hk,rfl⟩;by_cases hlt:k<l.length
 .have hst:=wK l k hlt
  have hol:(aP (l.take k)).length<=5000000:=by
   have:=cW (l.take k);have:=List.length_take_le k l;omega
  obtain ⟨x,hx⟩:∃ x,x=l[k]:=⟨_,rfl⟩;have hrx:(l.map fun n=>[eI n])[k]?.getD []=[eI x]:=by rw [hx];simp [hlt]
  rw [<- hx] at hst;obtain ⟨O,hO⟩:∃ O,O=aP (l.take k):=⟨_,rfl⟩;rw [<- hO] at hst hol ⊢
  repeat' first|refine ge @hlt ?_|decide|refine sp ?_ ?_<;>intro _
  refine af (fun st=>∃ m:Nat,m<=O.length /\ st=⟨67,[(0,sI l),(3,.osl 0),(4,eI (k:Int)),(5,.osl 1),(6,eB (fA x (O.take m)).2),(7,eI (m:Int))],[(0,some (.row 2 1 (O.map fun n=>[eI n]))),(1,some (.row 2 1 ((fA x (O.take m)).1.map fun n=>[eI n])))],2⟩) (fun st=>O.length - ap st 7) ⟨_,((bf 5 2 1 (by simp only [iu,ak.get,bl,ak.put,↓reduceIte,reduceCtorEq,Nat.reduceLT,Nat.reduceEqDiff,Nat.reduceAdd,Nat.reduceLeDiff,eq_self,implies_true,Lb,fA,MF,Lq])).trans (wS [0,1] (kf @Lb (kf @fA.eq_1 @MF)))),0,KR _,rfl⟩ ?_;rintro _ ⟨m,hm,rfl⟩;have hil:=zw x O m;by_cases hlt2:m<O.length
  .have hs:=yy x O m hlt2;obtain ⟨y,hy⟩:∃ y,y=O[m]:=⟨_,rfl⟩;have hry:(O.map fun n=>[eI n])[m]?.getD []=[eI y]:=by rw [hy];simp [hlt2]
   rw [<- hy] at hs;obtain ⟨n,b,hn⟩:∃ n b,fA x (O.take m)=(n,b):=⟨_,_,rfl⟩;rw [hn] at hs hil ⊢;simp only at hil;by_cases hxy:x<=y
   .have d1:decide (x<=y)=true:=K4 hxy;by_cases hne:y=x
    .have d2:(y != x)=false:=by simp [hne]
     cases b with
     | true=>
      rw [Ew x y n hne] at hs
      repeat' first|refine gf (kf @hlt (kf @hlt2 (kf @hrx (kf @hry (kf d1 d2))))) ?_|decide|refine sp ?_ ?_<;>intro _|(with_reducible apply And.intro)
      all_goals first
       | rfl
       | omega
       | exact rI (wS [0,1] hs) ⟨m+1,by omega,rfl⟩
     | false=>
      rw [EN x y n hxy hne] at hs;have e1:(n ++ [x]).map (fun n=>[eI n])=n.map (fun n=>[eI n]) ++ [[eI x]]:=(by simp)
      repeat' first|refine gf (kf @hlt (kf @hlt2 (kf @hrx (kf @hry (kf d1 d2))))) ?_|decide|refine sp ?_ ?_<;>intro _|(with_reducible apply And.intro)
      all_goals first
       | rfl
       | omega
       | exact rI (wS [0,3] (kf hs e1)) ⟨m+1,by omega,rfl⟩
    .have d2:(y != x)=true:=by simp [hne]
     cases b with
     | true=>
      rw [xW x y n hne] at hs;have e1:(n ++ [y]).map (fun n=>[eI n])=n.map (fun n=>[eI n]) ++ [[eI y]]:=(by simp)
      repeat' first|refine gf (kf @hlt (kf @hlt2 (kf @hrx (kf @hry (kf d1 d2))))) ?_|decide|refine sp ?_ ?_<;>intro _|(with_reducible apply And.intro)
      all_goals first
       | rfl
       | omega
       | exact rI (wS [0,3] (kf hs e1)) ⟨m+1,by omega,rfl⟩
     | false=>
      rw [C5 x y n hxy hne] at hs;have e1:((n ++ [x]) ++ [y]).map (fun n=>[eI n])=(n.map (fun n=>[eI n]) ++ [[eI x]]) ++ [[eI y]]:=(by simp)
      repeat' first|refine gf (kf @hlt (kf @hlt2 (kf @hrx (kf @hry (kf d1 d2))))) ?_|decide|refine sp ?_ ?_<;>intro _|(with_reducible apply And.intro)
      all_goals first
       | rfl
       | omega
       | (simp;omega)
       | exact rI (wS [0,5] (kf hs e1)) ⟨m+1,by omega,rfl⟩
   .have d1:decide (x<=y)=false:=K0 hxy;have hne:y ≠ x:=(by omega);have d2:(y != x)=true:=(by simp [hne]);have e1:(n ++ [y]).map (fun n=>[eI n])=n.map (fun n=>[eI n]) ++ [[eI y]]:=(by simp)
    cases b with
    | true=>
     rw [xW x y n hne] at hs
     repeat' first|refine gf (kf @hlt (kf @hlt2 (kf @hrx (kf @hry (kf d1 d2))))) ?_|decide|refine sp ?_ ?_<;>intro _|(with_reducible apply And.intro)
     all_goals first
      | rfl
      | omega
      | exact rI (wS [0,3] (kf hs e1)) ⟨m+1,by omega,rfl⟩
    | false=>
     rw [Ej x y n hxy] at hs
     repeat' first|refine gf (kf @hlt (kf @hlt2 (kf @hrx (kf @hry (kf d1 d2))))) ?_|decide|refine sp ?_ ?_<;>intro _|(with_reducible apply And.intro)
     all_goals first
      | rfl
      | omega
      | exact rI (wS [0,3] (kf hs e1)) ⟨m+1,by omega,rfl⟩
  .obtain rfl:m=O.length:=by omega
   rw [K7] at hil ⊢;unfold rW at hst;obtain ⟨n,b,hn⟩:∃ n b,fA x O=(n,b):=⟨_,_,rfl⟩;rw [hn] at hst hil ⊢;simp only at hil
   cases b with
   | true=>
    simp only [↓reduceIte] at hst
    repeat' first|refine gf (kf @hlt (kf @hlt2 @hrx)) ?_|decide|refine sp ?_ ?_<;>intro _|(with_reducible apply And.intro)
    all_goals first
     | rfl
     | omega
     | exact rI (wS [1] @hst) ⟨k+1,by omega,rfl⟩
   | false=>
    simp only [↓reduceIte,LH] at hst;have e1:(n ++ [x]).map (fun n=>[eI n])=n.map (fun n=>[eI n]) ++ [[eI x]]:=(by simp)
    repeat' first|refine gf (kf @hlt (kf @hlt2 @hrx)) ?_|decide|refine sp ?_ ?_<;>intro _|(with_reducible apply And.intro)
    all_goals first
     | rfl
     | omega
     | exact rI (wS [3] (kf @hst e1)) ⟨k+1,by omega,rfl⟩
 .obtain rfl:k=l.length:=by omega
  repeat' first|refine gf (kf @hlt @K7) ?_|decide|refine sp ?_ ?_<;>intro _
  exact bk (by simp [aa.gc])
theorem eQ (l:List Int) (hl:l.length<=5000000):aw Tryz.prog 31 [sI l] ⟨sI (aP l),[],0⟩:=
 rE 2 ((jx l hl).mono fun R h=>.inl h)
def A8 (c:List Int) (n:Int):Nat:=c.countP (fun x=>decide (x<n))
structure dN where
 attrs:Int
 const:Int
structure Zn where
 cls:List dN
 gaps:List Int
abbrev bR (x:dN):List AV:=[eI x.attrs,eI x.const]
abbrev bW (z:Zn):List AV:=[.sl 2 (z.cls.map bR),sI z.gaps]
def zV {α:Type} (p:α -> Bool) (l:List α):Int:=match l.findIdx? p with | some k=>(k:Int) | none=>-1
theorem Fj {α:Type} {p:α -> Bool} {l:List α} {k:Nat} (hk:k<l.length) (h:p l[k]=true) (hn:∀ i (h:i<k),p (l[i]'(by omega))=false):zV p l=(k:Int):=by
 have:l.findIdx? p=some k:=List.findIdx?_eq_some_iff_getElem.2 ⟨hk,h,fun j hj=>by simp [hn j hj]⟩;unfold zV;rw [this]
theorem yN {α:Type} {p:α -> Bool} {l:List α} (h:∀ x ∈ l,p x=false):zV p l = -1:=by
 have:l.findIdx? p=none:=List.findIdx?_eq_none_iff.2 h;unfold zV;rw [this]
def Et (c:List Int) (a n:Int) (x:dN):Bool:=(a != -1 && aW x.attrs a) || (a == -1 && decide (n ∈ c) && x.const == (A8 c n:Int))
def dA (z:Zn) (consts:List Int) (a n:Int):Int:=zV (Et (aP consts) a n) z.cls
def Ba (z:Zn) (consts:List Int) (la ln ra rn:Int):Int:=
 if dA z consts la ln<0 \/ dA z consts ra rn<0 then 0 else zH (dA z consts la ln) (dA z consts ra rn)
end
section
def gj (x:aJ):Bool:=decide (3<=x.op) && decide (x.op<=8)
def ij (z:Zn) (c:List Int) (x:aJ):Bool:=gj x && (decide (dA z c x.la x.ln<0) || decide (dA z c x.ra x.rn<0))
def mY (l:List aJ) (z:Zn) (c:List Int):Bool:=!(l.any (ij z c))
def dS (l:List aJ) (z:Zn) (c:List Int) (s:St):Option Bool:=if mY l z c=true then pm (fun x=>some (Ba z c x.la x.ln x.ra x.rn)) s.opn s.don l else none
end
section
theorem tI {c:List Int} (hc:Up c) {n:Int} {q:Nat} (hq:q<c.length) (h:c[q]=n):A8 c n=q:=by
 have hp:=Mg.1 hc;exact (y3 c n hc q (by omega) (fun h0=>by rw [<- h];exact hp (q - 1) q (by omega) hq (by omega)) (fun _=>by omega)).1
theorem EZ {c:List Int} (hc:Up c) (a n:Int) (x:dN):Et c a n x=((a != -1 && aW x.attrs a) || (a == -1 && (decide (0<=x.const) && decide (x.const<(c.length:Int)) && (c.getD x.const.toNat 0 == n)))):=by
 have key:(decide (n ∈ c) && x.const == (A8 c n:Int))=(decide (0<=x.const) && decide (x.const<(c.length:Int)) && (c.getD x.const.toNat 0 == n)):=by
  rw [MB];simp only [Li,Lp,MC];constructor
  .rintro ⟨h1,h2⟩;obtain ⟨i,hi,he⟩:=Le h1;rw [tI hc hi he] at h2;rw [h2];refine ⟨⟨by omega,by omega⟩,?_⟩;rw [L9,KP,KN hi];exact he
  .rintro ⟨⟨h1,h2⟩,h3⟩;obtain ⟨q,hq⟩:∃ q:Nat,x.const=(q:Int):=⟨x.const.toNat,by omega⟩;rw [hq] at h2 h3 ⊢;have hql:q<c.length:=(by omega);rw [L9,KP,KN hql] at h3;have h3:c[q]=n:=h3;exact ⟨h3 ▸ KQ hql,by rw [tI hc hql h3]⟩
 unfold Et;rw [Bool.and_assoc,key]
theorem lL (z:Zn) (consts:List Int) (a n:Int) (h1:z.cls.length<=1000000) (h2:consts.length<=1000) (ho:∀ x ∈ z.cls,aq x.attrs):aw Tryz.prog 90 [.agg (bW z),sI consts,.agg [eI a,eI n]] (val (.int .i64 (dA z consts a n))):=by
 refine ab ah Tryz.func90 rfl (by decide) Tryz.ntmps90 Tryz.results90 rfl (aU _) ?_;have hlen:=cW consts;have hup:=(dJ consts).1;unfold dA;have hS:=eQ consts (by omega);obtain ⟨c,hc⟩:∃ c,aP consts=c:=⟨_,rfl⟩;rw [hc] at hS hlen hup ⊢;obtain ⟨p,hp⟩:∃ p,Et c a n=p:=⟨_,rfl⟩;rw [hp]
 repeat' first|refine gq ?_|decide|refine sp ?_ ?_<;>intro _|refine cA hS ?_|fail
 refine af (fun st=>∃ k:Nat,k<=z.cls.length /\ (∀ i (h:i<z.cls.length),i<k -> p z.cls[i]=false) /\ st=⟨61,[(3,.op 0 0 0),(5,.op 1 0 0),(7,sI c),(8,eI (k:Int))],[(0,some (.box 60 (bW z))),(1,some (.box 54 [eI a,eI n]))],2⟩) (fun st=>z.cls.length - ap st 8) ⟨_,wC,0,KR _,fun i _ h=>by omega,rfl⟩ ?_;rintro _ ⟨k,hk,hn,rfl⟩;by_cases hlt:k<z.cls.length
 .have hh:=dk z.cls[k].attrs a (ho _ (KQ hlt));have hP:=EZ hup a n z.cls[k];rw [hp] at hP;obtain ⟨x,hx⟩:∃ x,z.cls[k]=x:=⟨_,rfl⟩;have hyes:p x=true -> zV p z.cls=(k:Int):=fun h=>Fj hlt (by rw [hx];exact h) fun i hi=>hn i (by omega) hi
  have hno:p x=false -> ∀ i (h:i<z.cls.length),i<k+1 -> p z.cls[i]=false:=fun h i hi h2=>by
   rcases Ld i k with h3|h3
   .exact hn i hi h3
   .obtain rfl:i=k:=by omega
    rw [hx];exact h
  rw [hx] at hh hP;obtain ⟨xa,xc⟩:=x;by_cases hq:0<=xc /\ xc<(c.length:Int)
  .obtain ⟨q,rfl⟩:∃ q:Nat,xc=(q:Int):=⟨xc.toNat,by omega⟩;have hql:q<c.length:=(by omega);have hcq:c.getD q 0=c[q]:=by rw [KP,KN hql];rfl
   repeat' first|refine gq ?_|simp only [ae,hlt,hx,hql]|decide|refine sp ?_ ?_<;>intro _|refine cA hh ?_|fail
   all_goals first
    | (rw [hyes (by rw [hP];clear hn hno hyes hP;simp_all)];done)
    | exact rI (wR [0,1]) ⟨k+1,by omega,hno (by rw [hP];clear hn hno hyes hP;simp_all),rfl⟩
    | (exfalso;simp at *;omega)
  .have hg:(decide (0<=xc) && decide (xc<(c.length:Int)))=false:=by
    rw [L4];intro h;exact hq (by simpa using h)
   have hP2:p ⟨xa,xc⟩=(a != -1 && aW xa a):=by
    rw [hP];simp only [hg,L6,Bool.and_false,Bool.or_false]
   clear hP
   repeat' first|refine gq ?_|simp only [ae,hlt,hx]|decide|refine sp ?_ ?_<;>intro _|refine cA hh ?_|fail
   all_goals first
    | (rw [hyes (by rw [hP2];clear hn hno hyes hP2;simp_all)];done)
    | exact rI (wR [0,1]) ⟨k+1,by omega,hno (by rw [hP2];clear hn hno hyes hP2;simp_all),rfl⟩
    | (exfalso;simp at *;omega)
 .obtain rfl:k=z.cls.length:=by omega
  repeat' first|refine gf @hlt ?_|decide|refine sp ?_ ?_<;>intro _
  rw [yN fun x hx=>by obtain ⟨i,hi,rfl⟩:=Le hx;exact hn i hi hi]
theorem CR (l:List aJ) (z:Zn) (c:List Int) (hl:l.length<=1000000) (h1:z.cls.length<=1000000) (h2:c.length<=1000) (ho:∀ x ∈ z.cls,aq x.attrs):aw Tryz.prog 89 [bw l,.agg (bW z),sI c] (val (.bool (mY l z c))):=by
 refine ab ah Tryz.func89 rfl (by decide) Tryz.ntmps89 Tryz.results89 rfl (aU _) ?_;unfold mY
 repeat' first|refine go ?_|decide|refine sp ?_ ?_<;>intro _
 refine af (fun st=>∃ k:Nat,k<=l.length /\ (∀ i (h:i<l.length),i<k -> ij z c l[i]=false) /\ st=⟨50,[(0,bw l),(2,sI c),(4,.op 0 0 0),(7,eI (k:Int))],[(0,some (.box 60 (bW z)))],1⟩) (fun st=>l.length - ap st 7) ⟨_,wC,0,KR _,fun i _ h=>by omega,rfl⟩ ?_;rintro _ ⟨k,hk,hn,rfl⟩;by_cases hlt:k<l.length
 .obtain ⟨x,hx⟩:∃ x,l[k]=x:=⟨_,rfl⟩;have hL:=lL z c x.la x.ln h1 h2 ho;have hR:=lL z c x.ra x.rn h1 h2 ho
  have hyes:ij z c x=true -> (!l.any (ij z c))=false:=fun h=>by
   have:l.any (ij z c)=true:=List.any_eq_true.2 ⟨_,KQ hlt,by rw [hx];exact h⟩;rw [this];rfl
  have hno:ij z c x=false -> ∀ i (h:i<l.length),i<k+1 -> ij z c l[i]=false:=fun h i hi h2=>by
   rcases Ld i k with h3|h3
   .exact hn i hi h3
   .obtain rfl:i=k:=by omega
    rw [hx];exact h
  repeat' first|refine gq ?_|simp only [ae,hlt,hx]|decide|refine sp ?_ ?_<;>intro _|refine cA hL ?_|refine cA hR ?_|fail
  all_goals first
   | (rw [hyes (by clear hn hno hyes hL hR;simp_all [ij,gj])];done)
   | exact rI wC ⟨k+1,by omega,hno (by clear hn hno hyes hL hR;simp_all [ij,gj];try (intros;omega)),rfl⟩
   | (exfalso;simp at *;omega)
 .obtain rfl:k=l.length:=by omega
  have:l.any (ij z c)=false:=by
   rw [List.any_eq_false];intro x hx;obtain ⟨i,hi,rfl⟩:=Le hx;rw [hn i hi hi];simp
  repeat' first|refine gf (kf @hlt (kf @this @MQ)) ?_|decide|refine sp ?_ ?_<;>intro _
def dc (z:Zn) (c:List Int) (x:aJ):aJ:=if gj x=true then ⟨x.op,-1,dA z c x.la x.ln,-1,dA z c x.ra x.rn,x.n,x.u⟩ else x
theorem Di (z:Zn) (c:List Int) (x:aJ):(dc z c x).op=x.op:=by unfold dc;split<;>rfl
theorem wk (z:Zn) (c:List Int) (vals:List Int) (o d:Int) (x:aJ) (r:List Bool) (h:ij z c x=false):gn (s9 vals) o d (dc z c x) r=gn (fun x=>some (Ba z c x.la x.ln x.ra x.rn)) o d x r:=by
 by_cases hc:gj x=true
 .have h3:3<=x.op /\ x.op<=8:=by simpa [gj] using hc
  have hp:¬ dA z c x.la x.ln<0 /\ ¬ dA z c x.ra x.rn<0:=by
   unfold ij at h;rw [hc] at h;simpa using h
  unfold dc;rw [K5 hc];unfold gn;simp only [show ¬ (x.op=1 \/ x.op=2) by omega,if_false,h3,and_self,if_true]
  have:s9 vals ⟨x.op,-1,dA z c x.la x.ln,-1,dA z c x.ra x.rn,x.n,x.u⟩=some (zH (dA z c x.la x.ln) (dA z c x.ra x.rn)):=by
   simp [s9,p3]
  rw [this];unfold Ba;rw [KY (by omega)]
 .unfold dc;rw [KY hc];have h3:¬ (3<=x.op /\ x.op<=8):=by simpa [gj] using hc
  unfold gn;simp only [h3,if_false]
theorem qM (z:Zn) (c:List Int) (vals:List Int) (o d:Int):∀ (l:List aJ) (r:List Bool),(∀ x ∈ l,ij z c x=false) -> d8 (s9 vals) o d (l.map (dc z c)) r=d8 (fun x=>some (Ba z c x.la x.ln x.ra x.rn)) o d l r
 | [],r,_=>rfl
 | x :: l,r,h=>by
  rw [Mc,d8,d8,wk z c vals o d x r (h x (LD ..))]
  cases gn (fun x=>some (Ba z c x.la x.ln x.ra x.rn)) o d x r with
  | none=>rfl
  | some r'=>exact qM z c vals o d l r' fun y hy=>h y (Lz _ hy)
theorem uZ (z:Zn) (c:List Int) (s:St) (l:List aJ) (h:mY l z c=true):gO (l.map (dc z c)) s=dS l z c s:=by
 have hl:∀ x ∈ l,ij z c x=false:=by
  unfold mY at h;simpa using h
 have ho:(l.map (dc z c)).map aJ.op=l.map aJ.op:=by
  rw [List.map_map];exact List.map_congr_left fun x _=>Di z c x
 unfold dS;rw [K5 h];unfold gO pm;rw [ho,qM z c s.vals s.opn s.don l [] hl]
theorem zU (l:List aJ) (z:Zn) (c:List Int) (s:St) (hl:l.length<=900) (h1:z.cls.length<=1000000) (h2:c.length<=1000) (ho:∀ x ∈ z.cls,aq x.attrs) (hop:aq s.opn) (hdo:aq s.don):aw Tryz.prog 36 [bw l,.agg (bW z),sI c,.agg (i6 s)] ⟨.tup [eB (qj (dS l z c s)),eI (zE (dS l z c s))],[],0⟩:=by
 have hok:(⟨.tup [eB (qj (dS l z c s)),eI (zE (dS l z c s))],[],0⟩:ce).Ok:=⟨fun id o h=>(by cases h),by simp [AV.lt,AV.ltL]⟩;refine ab ah Tryz.func36 rfl (by decide) Tryz.ntmps36 Tryz.results36 rfl (hok) ?_;have hK:=CR l z c (by omega) h1 h2 ho
 cases hk:mY l z c with
 | false=>
  rw [hk] at hK;have hz:dS l z c s=none:=by unfold dS;rw [KY (by simp [hk])]
  rw [hz]
  repeat' first|refine gq ?_|decide|refine sp ?_ ?_<;>intro _|refine cA hK ?_|fail
  all_goals exact a5 (by first|rfl|simp [AV.ren,AV.renL,qj,zE])
 | true=>
  rw [hk] at hK
  repeat' first|refine gq ?_|decide|refine sp ?_ ?_<;>intro _|refine cA hK ?_|fail
  refine af (fun st=>∃ k:Nat,k<=l.length /\ st=⟨59,[(0,bw l),(2,sI c),(5,.op 0 0 0),(7,.op 1 0 0),(10,.osl 2),(11,eI (k:Int))],[(0,some (.box 60 (bW z))),(1,some (.box 106 (i6 s))),(2,some (.row 56 7 ((l.take k).map fun x=>jO (dc z c x))))],3⟩) (fun st=>l.length - ap st 11) ⟨_,((bf 10 56 7 (by simp only [iu,ak.get,bl,ak.put,↓reduceIte,reduceCtorEq,Nat.reduceLT,Nat.reduceEqDiff,Nat.reduceAdd,Nat.reduceLeDiff,eq_self,implies_true,Lb,Lq])).trans (wS [0,1,2] @Lb)),0,KR _,rfl⟩ ?_;rintro _ ⟨k,hk2,rfl⟩;by_cases hlt:k<l.length
  .obtain ⟨x,hx⟩:∃ x,l[k]=x:=⟨_,rfl⟩;have hL:=lL z c x.la x.ln h1 h2 ho;have hR:=lL z c x.ra x.rn h1 h2 ho;have hsn:(l.take (k+1)).map (fun x=>jO (dc z c x))=(l.take k).map (fun x=>jO (dc z c x)) ++ [jO (dc z c x)]:=(by rw [eU _ l hlt,hx]);have htl:(l.take k).length<=900:=by rw [K6];omega
   cases hc:gj x with
   | true=>
    have hs:dc z c x=⟨x.op,-1,dA z c x.la x.ln,-1,dA z c x.ra x.rn,x.n,x.u⟩:=by unfold dc;rw [K5 hc]
    rw [hs] at hsn;have h3:decide (3<=x.op)=true /\ decide (x.op<=8)=true:=(by simpa [gj] using hc)
    repeat' first|refine gq ?_|simp only [ae,hlt,hx,h3.1,h3.2]|decide|refine sp ?_ ?_<;>intro _|refine cA hL ?_|refine cA hR ?_|(with_reducible apply And.intro)
    all_goals first
     | rfl
     | omega
     | exact rI (wS [0,1,5] @hsn) ⟨k+1,by omega,rfl⟩
   | false=>
    have hs:dc z c x=x:=by unfold dc;rw [KY (by simp [hc])]
    rw [hs] at hsn
    repeat' first|refine gq ?_|simp only [ae,hlt,hx]|decide|refine sp ?_ ?_<;>intro _|refine cA hL ?_|refine cA hR ?_|(with_reducible apply And.intro)
    all_goals first
     | rfl
     | omega
     | (exfalso;simp_all [gj];done)
     | (exfalso;simp_all [gj];omega)
     | exact rI (wS [0,1,5] @hsn) ⟨k+1,by omega,rfl⟩
  .obtain rfl:k=l.length:=by omega
   have hH:=mV (l.map (dc z c)) s (by simp;omega) hop hdo;rw [uZ z c s l hk] at hH;have em:(l.map (dc z c)).map jO=l.map fun x=>jO (dc z c x):=by rw [List.map_map];rfl
   simp only [bw,em] at hH
   repeat' first|refine ge (kf @hlt @K7) ?_|decide|refine sp ?_ ?_<;>intro _
   refine dU (r:=.tup [eB (qj (dS l z c s)),eI (zE (dS l z c s))]) ?_ (.inr (by simp [AV.plain,AV.plainL])) ?_
   .repeat' first|decide|refine go ?_
    exact hH
   .repeat' first|refine gq ?_|decide|refine sp ?_ ?_<;>intro _
    all_goals exact a5 (by first|rfl|simp [AV.ren,AV.renL])
end
section
def gJ (vals c:List Int):List Int:=aP (vals ++ c)
def dz (vals:List Int) (n:Int):Nat -> Int
 | 0=>0
 | k+1=>if vals.getD k 0=n then cQ (dz vals n k) (k:Int) else dz vals n k
def fl (c:List Int) (n:Int):Nat -> Int
 | 0=>-1
 | k+1=>if c.getD k 0=n then (k:Int) else fl c n k
def xH (vals c:List Int) (n:Int):dN:=⟨dz vals n vals.length,fl (aP c) n (aP c).length⟩
def Aa (vals c:List Int):List dN:=(gJ vals c).map (xH vals c)
end
end
end Go.Proofs.YtiaiihjmmfakdaaGreatDoor
