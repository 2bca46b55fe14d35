/-
  Parts of the proof: Sinp19, Sinp20, Sinp21, Sinp22, Sinp23, Sinp24.
-/
import Derived.Test.YtglaiabelcefeaaGreatSinq7
set_option linter.unusedVariables false
set_option linter.unusedSimpArgs false
set_option linter.defProp false
set_option maxRecDepth 100000
set_option maxHeartbeats 16000000
namespace Go.Proofs.YtglaiabelcefeaaGreat
open Go.RowKit
section
section
theorem TV : (Tryz.prog.fieldsOf 142).toList.map (fun f => (f.name, f.type, f.offset)) = [("Attrs", 3, 0), ("Const", 3, 1)] := by kernel_rfl
theorem S3(op:BinOp)(hop:op=.eql\/op=.neq)(a b:fo):tU Tryz.prog op 142 (.agg #[.int .i64 a.attrs,.int .i64 a.const]) (.agg #[.int .i64 b.attrs,.int .i64 b.const]) (.bool (if op matches .eql then (a.attrs == b.attrs && a.const == b.const) else !(a.attrs == b.attrs && a.const == b.const))):=by
 have ht:=TV
 obtain⟨f,g,hfs⟩:∃f g,(Tryz.prog.fieldsOf 142).toList=[f,g]:=by
  generalize (Tryz.prog.fieldsOf 142).toList=l at ht ⊢
  cases l with
  | nil=>simp at ht
  | cons f l=>cases l with
   | nil=>simp at ht
   | cons g l=>cases l with
    | nil=>exact⟨f,g,rfl⟩
    | cons h l=>simp at ht
 rw[hfs] at ht;simp only[VE,Vn,List.cons.injEq,Prod.mk.injEq,and_true] at ht;obtain⟨⟨h1,h2,h3⟩,h4,h5,h6⟩:=ht;refine vz [(.int .i64 a.attrs,.int .i64 b.attrs),(.int .i64 a.const,.int .i64 b.const)] (by kernel_rfl) (by kernel_rfl) (by kernel_rfl) (by rw[hfs];rfl) (fun k f' p hk hp=>?_) (by simp[mF,tF]) hop;rw[hfs] at hk
 match k,hk,hp with
 | 0,hk,hp=>
  cases hk;cases hp;refine⟨by rw[h1];decide,?_,by rw[h3];rfl,by rw[h3];rfl⟩;rw[h2]
  kernel_rfl
 | 1,hk,hp=>
  cases hk;cases hp;refine⟨by rw[h4];decide,?_,by rw[h6];rfl,by rw[h6];rfl⟩;rw[h5]
  kernel_rfl
 | k+2,hk,hp=>simp at hk
instance:DecidableEq fo:=fun a b=>decidable_of_iff (a.attrs=b.attrs/\a.const=b.const) (by cases a;cases b;simp)
theorem Ti(x y:fo):tU Tryz.prog .neq 142 (.agg #[.int .i64 x.attrs,.int .i64 x.const]) (.agg #[.int .i64 y.attrs,.int .i64 y.const]) (.bool (decide (x≠y))):=by
 have h:=S3 .neq (.inr rfl) x y
 have e:decide (x≠y) = !(x.attrs == y.attrs && x.const == y.const):=by
  rw[Wl];cases x;cases y;simp
 rw[e];exact h
theorem QF{a b:Zn}(h1:a.cls=b.cls)(h2:a.gaps=b.gaps):a=b:=by
 cases a;cases b;simp at h1 h2;rw[h1,h2]
theorem uX{α:Type}{a b:List α}(hl:a.length=b.length)(h:∀i (h1:i<a.length) (h2:i<b.length),a[i]=b[i]):a=b:=List.ext_getElem hl h
theorem Ei(a b:Zn)(h1:a.cls.length<=1000000)(h2:a.gaps.length<=1000000):dp Tryz.prog 76 [.agg (cS a),.agg (cS b)] fun R=>∃t,R=val (.bool t)/\(t=true↔a=b):=by
 refine bj ag Tryz.func76 rfl (by decide) Tryz.ntmps76 Tryz.results76 rfl ?_;have no1:a.cls.length≠b.cls.length->¬a=b:=fun h e=>h (by rw[e]);have no2:a.gaps.length≠b.gaps.length->¬a=b:=fun h e=>h (by rw[e]);by_cases hl1:a.cls.length=b.cls.length
 .have d1:((a.cls.length:Int) != (b.cls.length:Int))=false:=by simp[hl1]
  by_cases hl2:a.gaps.length=b.gaps.length
  .have d2:((a.gaps.length:Int) != (b.gaps.length:Int))=false:=by simp[hl2]
   repeat' first|refine gf (kf d1 d2) ?_|decide|refine sp ?_ ?_<;>intro _
   refine af (fun st=>∃k:Nat,k<=a.cls.length/\(∀i (h1:i<a.cls.length) (h2:i<b.cls.length),i<k->a.cls[i]=b.cls[i])/\st=⟨59,[(2,.op 0 0 0),(3,.op 1 0 0),(5,eI (k:Int))],[(0,some (.box 54 (cS a))),(1,some (.box 54 (cS b)))],2⟩) (fun st=>a.cls.length-ax st 5) ⟨_,wC,0,UR _,fun i _ _ h=>by omega,rfl⟩ ?_;rintro _ ⟨k,hk,hs,rfl⟩;by_cases hlt:k<a.cls.length
   .have hlt2:k<b.cls.length:=(by omega);have hB:=Ti a.cls[k] b.cls[k];by_cases hxy:a.cls[k]=b.cls[k]
    .rw [U5 (by simpa using hxy)] at hB;obtain⟨x,hx⟩:∃x,a.cls[k]=x:=⟨_,rfl⟩;obtain⟨y,hy⟩:∃y,b.cls[k]=y:=⟨_,rfl⟩;rw[hx,hy] at hB
     repeat' first|refine gq ?_|simp only[ab,hlt,hlt2,hx,hy]|decide|refine sp ?_ ?_<;>intro _
     all_goals refine⟨_,hB,?_⟩
     all_goals(repeat' (first|refine gq ?_|decide|refine sp ?_ ?_<;>intro _))
     all_goals exact gv wC ⟨k+1,by omega,fun i h1 h2 h3=>(by
      rcases U9 i k with h|h
      .exact hs i h1 h2 h
      .obtain rfl:i=k:=by omega
       exact hxy),rfl⟩ (by simp only[ax,iC,aj.get,aX,aj.put,↓reduceIte,reduceCtorEq,Nat.reduceLT,Nat.reduceEqDiff,Nat.reduceAdd,Nat.reduceLeDiff,eq_self,implies_true];omega)
    .rw [Vb hxy] at hB;have hno:¬a=b:=fun e=>hxy (by subst e;rfl);obtain⟨x,hx⟩:∃x,a.cls[k]=x:=⟨_,rfl⟩;obtain⟨y,hy⟩:∃y,b.cls[k]=y:=⟨_,rfl⟩;rw[hx,hy] at hB
     repeat' first|refine gq ?_|simp only[ab,hlt,hlt2,hx,hy]|decide|refine sp ?_ ?_<;>intro _
     all_goals refine⟨_,hB,?_⟩
     all_goals(repeat' (first|refine gq ?_|decide|refine sp ?_ ?_<;>intro _))
     all_goals exact cK ⟨false,rfl,by simp;exact hno⟩
   .have hcls:a.cls=b.cls:=uX hl1 fun i h1 h2=>hs i h1 h2 (by omega)
    repeat' first|refine gf @hlt ?_|decide|refine sp ?_ ?_<;>intro _
    refine af (fun st=>∃k:Nat,k<=a.gaps.length/\(∀i (h1:i<a.gaps.length) (h2:i<b.gaps.length),i<k->a.gaps[i]=b.gaps[i])/\st=⟨59,[(2,.op 0 0 0),(3,.op 1 0 0),(6,eI (k:Int))],[(0,some (.box 54 (cS a))),(1,some (.box 54 (cS b)))],2⟩) (fun st=>a.gaps.length-ax st 6) ⟨_,wC,0,UR _,fun i _ _ h=>by omega,rfl⟩ ?_;rintro _ ⟨k,hk,hs2,rfl⟩;by_cases hlt2:k<a.gaps.length
    .have hlt3:k<b.gaps.length:=(by omega);by_cases hxy:a.gaps[k]=b.gaps[k]
     .have d3:(a.gaps[k] != b.gaps[k])=false:=by simpa using hxy
      repeat' first|refine gq ?_|simp only[ab,hlt2,hlt3,d3]|decide|refine sp ?_ ?_<;>intro _
      all_goals exact gv wC ⟨k+1,by omega,fun i h1 h2 h3=>(by
       rcases U9 i k with h|h
       .exact hs2 i h1 h2 h
       .obtain rfl:i=k:=by omega
        exact hxy),rfl⟩ (by simp only[ax,iC,aj.get,aX,aj.put,↓reduceIte,reduceCtorEq,Nat.reduceLT,Nat.reduceEqDiff,Nat.reduceAdd,Nat.reduceLeDiff,eq_self,implies_true];omega)
     .have d3:(a.gaps[k] != b.gaps[k])=true:=(by simpa using hxy);have hno:¬a=b:=fun e=>hxy (by subst e;rfl)
      repeat' first|refine gq ?_|simp only[ab,hlt2,hlt3,d3]|decide|refine sp ?_ ?_<;>intro _
      all_goals exact cK ⟨false,rfl,by simp;exact hno⟩
    .have hgaps:a.gaps=b.gaps:=uX hl2 fun i h1 h2=>hs2 i h1 h2 (by omega)
     repeat' first|refine gf @hlt2 ?_|decide|refine sp ?_ ?_<;>intro _
     all_goals exact cK ⟨true,rfl,by simp;exact QF hcls hgaps⟩
  .have d2:((a.gaps.length:Int) != (b.gaps.length:Int))=true:=by simp;omega
   repeat' first|refine gf (kf d1 d2) ?_|decide|refine sp ?_ ?_<;>intro _
   exact cK ⟨false,rfl,by simp;exact no2 hl2⟩
 .have d1:((a.cls.length:Int) != (b.cls.length:Int))=true:=by simp;omega
  repeat' first|refine gf d1 ?_|decide|refine sp ?_ ?_<;>intro _
  exact cK ⟨false,rfl,by simp;exact no1 hl1⟩
end
section
def T4(a b:Int):Int:=bits .and .i64 a b
def Dq(l:List fo):Int:=l.foldl (fun a x=>TS a x.attrs) 0
def fq(l:List fo):Nat:=l.countP fun x=>!(x.const == -1)
theorem vo(l:List fo)(x:fo):Dq (l ++ [x])=TS (Dq l) x.attrs:=by simp[Dq]
theorem tC(l:List fo)(x:fo):fq (l ++ [x])=fq l+(if x.const = -1 then 0 else 1):=by
 unfold fq;rw[List.countP_append];by_cases h:x.const = -1<;>simp[h]
theorem LU(l:List fo):fq l<=l.length:=List.countP_le_length
def H8(l:List fo)(x:fo):Prop:=0<=x.attrs/\T4 x.attrs (Dq l)=0/\¬(x.attrs=0/\x.const = -1)/\(x.const = -1\/x.const=(fq l:Int))
def oZ(l:List fo)(n k:Int):Prop:=(∀i (h:i<l.length),H8 (l.take i) l[i])/\Dq l=jz n/\(fq l:Int)=k
end
section
theorem PZ(a b:Nat)(ha:a<2 ^ 62)(hb:b<2 ^ 62):bits .and .i64 (a:Int) (b:Int)=((a &&& b:Nat):Int):=by
 show IntKind.i64.wrap ((BitVec.ofInt 64 (a:Int) &&& BitVec.ofInt 64 (b:Int)).toNat:Int)=_;rw[BitVec.toNat_and,dk a (by omega),dk b (by omega)];exact j6 _ (Xb Xz (by omega))
theorem u3(vals:List Int)(m:Int)(hv:vals.length<=31){a:Nat}(ha:cn vals m vals.length=(a:Int))(hlt:a<2 ^ 31)(q:Nat):a.testBit q=true↔ ∃h:q<vals.length,vals[q]=m:=by
 by_cases hq:q<31
 .have h1:=kM vals m vals.length hv (q:Int);rw[ha,cR _ _ hq,nC a hlt] at h1;rw[h1];constructor
  .rintro ⟨q',e,h2,h3⟩;obtain rfl:q=q':=by omega
   rw[Os,p0 h2] at h3;exact⟨h2,h3⟩
  .rintro ⟨h2,h3⟩;exact⟨q,rfl,h2,by rw[Os,p0 h2];exact h3⟩
 .have:a.testBit q=false:=V6 (UY hlt (Vp (by decide) (by omega)));rw[this];constructor
  .intro h;cases h
  .rintro ⟨h,_⟩;omega
theorem vx(vals c:List Int)(hv:vals.length<=31):∀L:List Int,∃A:Nat,Dq (L.map (ey vals c))=(A:Int)/\A<2 ^ 31/\∀q,A.testBit q=true↔ ∃h:q<vals.length,vals[q]∈L:=fun L=>by
 induction hk:L.length using Nat.strongRecOn generalizing L with
 | _ k ih=>
  rcases List.eq_nil_or_concat L with rfl|⟨l,m,rfl⟩
  .exact ⟨0,rfl,by decide,fun q=>by simp⟩
  .obtain ⟨A,h1,h2,h3⟩:=ih l.length (by simp at hk;omega) l rfl;obtain⟨a,ha,hlt⟩:=p4 vals m vals.length hv;have hb:=u3 vals m hv ha hlt;have e:TS (A:Int) (a:Int)=((A ||| a:Nat):Int):=JG A a (by omega) (by omega);refine⟨A ||| a,?_,Wq h2 hlt,fun q=>?_⟩
   .rw [List.concat_eq_append,Vc,List.map_singleton,vo,h1];show TS _ (cn vals m vals.length)=_;rw[ha,e]
   .rw [Nat.testBit_or,Wb,h3,hb];constructor
    .rintro (⟨h,h4⟩|⟨h,h4⟩)
     .exact ⟨h,by simp[h4]⟩
     .exact ⟨h,by simp[h4]⟩
    .rintro ⟨h,h4⟩;simp at h4;rcases h4 with h4|h4
     .exact .inl ⟨h,h4⟩
     .exact .inr ⟨h,h4⟩
theorem ov{sc:List Int}(hup:Up sc)(m:Int):(m∉sc/\dE sc m sc.length = -1)\/(∃i:Nat,∃h:i<sc.length,sc[i]=m/\dE sc m sc.length=(i:Int)):=by
 rcases jf sc m sc.length with ⟨h1,h2⟩|⟨q,h1,h2,h3⟩
 .refine .inl ⟨fun hm=>?_,h1⟩;obtain⟨i,hi,rfl⟩:=U8 hm;exact h2 i hi (by rw[Os,p0 hi];rfl)
 .refine .inr ⟨q,h2,?_,h1⟩;rw[Os,p0 h2] at h3;exact h3
theorem BJ{L sc:List Int}(hL:Up L)(hsc:Up sc)(hin:∀x∈sc,x∈L){i:Nat}(hi:i<L.length):((L.take i).filter fun x=>decide (x∈sc))=sc.filter fun x=>decide (x<L[i]):=by
 refine mm _ _ (List.Pairwise.filter _ (hL.sublist (List.take_sublist _ _))) (List.Pairwise.filter _ hsc) fun z=>?_;simp only[Xg,U7];constructor
 .rintro ⟨h1,h2⟩;obtain⟨j,hj,rfl⟩:=U8 h1;rw[U2] at hj;rw[Wr] at h2 ⊢;exact⟨h2,Vo.1 hL j i (by omega) hi (by omega)⟩
 .rintro ⟨h1,h2⟩;refine⟨?_,h1⟩;obtain⟨j,hj,rfl⟩:=U8 (hin z h1);rcases U9 j i with h|h
  .exact List.mem_iff_getElem.2 ⟨j,by rw[U2];omega,by rw[Wr]⟩
  .rcases U9 i j with h3|h3
   .have:=Vo.1 hL i j hi hj h3;omega
   .obtain rfl:i=j:=by omega
    omega
theorem K8{sc:List Int}(hsc:Up sc){i:Nat}(hi:i<sc.length):(sc.filter fun x=>decide (x<sc[i])).length=i:=by
 have:(sc.filter fun x=>decide (x<sc[i]))=sc.take i:=by
  refine mm _ _ (List.Pairwise.filter _ hsc) (hsc.sublist (List.take_sublist _ _)) fun z=>?_;simp only[Xg,U7];constructor
  .rintro ⟨h1,h2⟩;obtain⟨j,hj,rfl⟩:=U8 h1;rcases U9 j i with h|h
   .exact List.mem_iff_getElem.2 ⟨j,by rw[U2];omega,by rw[Wr]⟩
   .rcases U9 i j with h3|h3
    .have:=Vo.1 hsc i j hi hj h3;omega
    .obtain rfl:i=j:=by omega
     omega
  .intro h1;obtain⟨j,hj,rfl⟩:=U8 h1;rw[U2] at hj;rw[Wr];exact⟨UQ _,Vo.1 hsc j i (by omega) hi (by omega)⟩
 rw[this,U2];omega
theorem vV(vals c:List Int)(L:List Int):fq (L.map (ey vals c))=(L.filter fun x=>decide (x∈aR c)).length:=by
 have hup:=(bm c).1;unfold fq;rw[List.countP_map,List.countP_eq_length_filter]
 congr 1
 refine List.filter_congr fun x _=>?_;show(!((ey vals c x).const == -1))=_;unfold ey;rcases ov hup x with ⟨h1,h2⟩|⟨i,hi,h1,h2⟩
 .simp [h2,h1]
 .have:x∈aR c:=h1 ▸ UQ hi;rw[h2,Wl];simp[this]
theorem AX(vals c:List Int)(hv:vals.length<=31):oZ (iB vals c) (vals.length:Int) ((aR c).length:Int):=by
 have hL:=(bm (vals ++ c)).1;have hm:=(bm (vals ++ c)).2;have hsc:=(bm c).1;have hscm:=(bm c).2;have hin:∀x∈aR c,x∈a6 vals c:=fun x hx=>(hm x).2 (V8 _ ((hscm x).1 hx));have hvin:∀x∈vals,x∈a6 vals c:=fun x hx=>(hm x).2 (VU _ hx);unfold iB;have hmem:∀x∈a6 vals c,x∈vals\/x∈aR c:=fun x hx=>(U4.1 ((hm x).1 hx)).imp id (hscm x).2;have hL:Up (a6 vals c):=hL;clear hm;generalize a6 vals c=L at *;refine⟨fun i hi=>?_,?_,?_⟩
 .rw [Vd] at hi;rw[<- List.map_take,Xq];obtain⟨A,h1,h2,h3⟩:=vx vals c hv (L.take i);obtain⟨a,ha,hlt⟩:=p4 vals L[i] vals.length hv;have hb:=u3 vals L[i] hv ha hlt;have hca:(ey vals c L[i]).attrs=(a:Int):=ha;have hcc:(ey vals c L[i]).const=dE (aR c) L[i] (aR c).length:=rfl;refine⟨by rw[hca];omega,?_,?_,?_⟩
  .rw [hca,h1];show bits .and .i64 (a:Int) (A:Int)=0;rw[PZ a A (by omega) (by omega)]
   have:a &&& A=0:=by
    apply Wt;intro q;rw[XA,Nat.zero_testBit,Vy];rcases hq:a.testBit q with _|_
    .exact .inl rfl
    .refine .inr (VA.2 fun h4=>?_);obtain⟨h5,h6⟩:=(hb q).1 hq;obtain⟨_,h7⟩:=(h3 q).1 h4;rw[h6] at h7;obtain⟨j,hj,h8⟩:=U8 h7;rw[U2] at hj;rw[Wr] at h8;have:=Vo.1 hL j i (by omega) hi (by omega);omega
   rw[this];rfl
  .rintro ⟨h4,h5⟩;rw[hca] at h4;rw[hcc] at h5;obtain rfl:a=0:=by omega
   rcases hmem L[i] (UQ hi) with h6|h6
   .obtain ⟨q,hq,h7⟩:=U8 h6;have:=(hb q).2 ⟨hq,h7⟩;simp at this
   .rcases ov hsc L[i] with ⟨h7,_⟩|⟨j,hj,h7,h8⟩
    .exact h7 h6
    .omega
  .rw [hcc,vV];rcases ov hsc L[i] with ⟨_,h7⟩|⟨j,hj,h7,h8⟩
   .exact .inl h7
   .refine .inr ?_;rw[h8,BJ hL hsc hin hi,<- h7,K8 hsc hj]
 .obtain ⟨A,h1,h2,h3⟩:=vx vals c hv L;rw[h1];unfold jz;have e1:(max 0 (min (vals.length:Int) 31)).toNat=vals.length:=by omega
  rw[e1]
  have hA:A=2 ^ vals.length-1:=by
   apply Wt;intro q;rw[W7,Wl,h3];simp only[U7];exact⟨fun h=>h.1,fun h=>⟨h,hvin _ (UQ h)⟩⟩
  have h5:1<=2 ^ vals.length:=WR;have h6:(2:Int) ^ vals.length=((2 ^ vals.length:Nat):Int):=by simp
  rw[hA,h6];omega
 .rw [vV]
  congr 1
  have:(L.filter fun x=>decide (x∈aR c))=aR c:=by
   refine mm _ _ (List.Pairwise.filter _ hL) hsc fun z=>?_;simp only[Xg,U7];exact⟨fun h=>h.2,fun h=>⟨hin z h,h⟩⟩
  rw[this]
end
section
theorem lY{P:Program}{f:FuncId}{args:List AV}{Q:Prop}(h:dp P f args fun R=>∃b,R=val (.bool b)/\(b=true↔Q)):∃t:Bool,(t=true↔Q)/\am P f args (val (.bool t)):=by
 by_cases hQ:Q
 .exact ⟨true,by simp[hQ],h.mono fun R ⟨b,h1,h2⟩=>by rw[h1,h2.2 hQ]⟩
 .exact ⟨false,by simp[hQ],h.mono fun R ⟨b,h1,h2⟩=>by
   cases b with
   | true=>exact absurd (h2.1 rfl) hQ
   | false=>exact h1⟩
def xi(z:Zn)(cap:Int):Prop:=(z.gaps.length:Int)=max ((z.cls.length:Int)-1) 0/\∀i (h:i<z.gaps.length),0<=z.gaps[i]/\z.gaps[i]<=cap
def j1(l:List fo)(k:Nat):List Nat:=(List.range k).filter fun i=>decide (0<=(l[i]?.map (·.const)).getD (-1))
theorem kj(l:List fo){k:Nat}(hk:k<l.length):j1 l (k+1)=if 0<=l[k].const then j1 l k ++ [k] else j1 l k:=by
 unfold j1;rw[V5,List.filter_append];by_cases h:0<=l[k].const
 .rw [UZ h];simp[p0 hk,h]
 .rw [UX h];simp[p0 hk];omega
def cB(z:Zn)(p q:Nat):List Int:=(z.gaps.take q).drop p
def na(z:Zn)(p q:Nat)(cap a b:Int):Prop:=
 cC a b ((q:Int)-p-1+(cB z p q).sum+1)=(q:Int)-p-1+(cB z p q).sum\/((∃g∈cB z p q,g=cap)/\(q:Int)-p-1+(cB z p q).sum<cC a b ((q:Int)-p-1+(cB z p q).sum+1))
theorem Im(cap:Int)(hc:0<=cap):∀l:List Int,(∀g∈l,0<=g/\g<=cap)->0<=l.sum/\l.sum<=cap * l.length
 | [],_=>by simp
 | g :: l,h=>by
  have h1:=Im cap hc l fun x hx=>h x (Vx _ hx);have h2:=h g (Vr ..);rw[List.sum_cons,Vl,Int.natCast_add,Int.mul_add];omega
end
section
deriving instance DecidableEq for fo
deriving instance DecidableEq for Zn
def cF{α:Type}[DecidableEq α](l:List α):List α:=l.foldl (fun o x=>if x∈o then o else o ++ [x]) []
theorem nM{α:Type}[DecidableEq α]{l:List α}{k:Nat}(hk:k<l.length):cF (l.take (k+1))=if l[k]∈cF (l.take k) then cF (l.take k) else cF (l.take k) ++ [l[k]]:=by
 unfold cF;rw[U0 hk,List.foldl_append];rfl
theorem mV{α:Type}[DecidableEq α](l:List α):∀k,k<=l.length->(cF (l.take k)).length<=k/\∀x∈cF (l.take k),x∈l
 | 0,_=>by simp[cF]
 | k+1,hk=>by
  obtain⟨h1,h2⟩:=mV l k (by omega);rw[nM (by omega)];split
  .exact ⟨by omega,h2⟩
  .refine ⟨by rw[UW,Vs];omega,fun x hx=>?_⟩;rcases U4.1 hx with h|h
   .exact h2 x h
   .simp only[Ve] at h;rw[h];exact UQ _
theorem kA{α:Type}[DecidableEq α](l:List α)(x:α):x∈cF l↔x∈l:=by
 constructor
 .intro h;have:=(mV l l.length (UU _)).2 x;rw[U6] at this;exact this h
 .intro h
  have key:∀k,k<=l.length->∀y∈l.take k,y∈cF (l.take k):=fun k=>by
   induction k with
   | zero=>intro _ y hy;simp at hy
   | succ k ih=>
    intro hk y hy;rw[nM (by omega)];rw[U0 (by omega)] at hy;rcases U4.1 hy with h1|h1
    .have:=ih (by omega) y h1;split
     .exact this
     .exact VU _ this
    .simp only[Ve] at h1;subst h1;split
     .assumption
     .simp
  have:=key l.length (UU _) x (by rw[U6];exact h)
  rwa [U6] at this
theorem mE{α:Type}[DecidableEq α](l:List α):(cF l).length<=l.length:=by
 have:=(mV l l.length (UU _)).1
 rwa [U6] at this
theorem S7(l:List Zn)(z:Zn)(hll:l.length<=2700000000000)(hl:∀y∈l,y.cls.length<=1000000/\y.gaps.length<=1000000):am Tryz.prog 134 [.sl 2 (l.map cS),.agg (cS z)] (val (.bool (decide (z∈l)))):=by
 refine aa ag Tryz.func134 rfl (by decide) Tryz.ntmps134 Tryz.results134 rfl (aD _) ?_
 repeat' first|refine go ?_|decide|refine sp ?_ ?_<;>intro _
 refine af (fun st=>∃k:Nat,k<=l.length/\z∉l.take k/\st=⟨18,[(0,.sl 2 (l.map cS)),(3,.op 0 0 0),(5,eI (k:Int))],[(0,some (.box 54 (cS z)))],1⟩) (fun st=>l.length-ax st 5) ⟨_,wC,0,UR _,by simp,rfl⟩ ?_;rintro _ ⟨k,hk,hI,rfl⟩;by_cases hlt:k<l.length
 .obtain ⟨x,hx⟩:∃x,x=l[k]:=⟨_,rfl⟩;have hrow:(l.map cS)[k]?.getD []=cS x:=by rw[hx];simp[hlt]
  obtain⟨g1,g2⟩:=hl x (hx ▸ UQ hlt);obtain⟨t,ht,hS⟩:=lY (Ei x z g1 g2);have hm:z∈l.take (k+1)↔z∈l.take k\/z=x:=by rw[U0 hlt,U4,Ve,hx]
  cases t with
  | true=>
   have e:=ht.1 rfl;have hmem:z∈l:=by rw[<- e,hx];exact UQ hlt
   rw[Vb hmem]
   repeat' first|refine gf (kf @hrow @hlt) ?_|decide|refine sp ?_ ?_<;>intro _|refine cA hS ?_|fail
  | false=>
   have hne:¬x=z:=fun e=>by have:=ht.2 e;cases this
   repeat' first|refine gf (kf @hrow @hlt) ?_|decide|refine sp ?_ ?_<;>intro _|refine cA hS ?_|fail
   all_goals exact rI wC ⟨k+1,by omega,fun h=>(hm.1 h).elim hI fun e=>hne e.symm,rfl⟩
 .obtain rfl:k=l.length:=by omega
  rw[U6] at hI;rw[U5 hI]
  repeat' first|refine gf @hlt ?_|decide|refine sp ?_ ?_<;>intro _
theorem Od(l:List Zn)(hl:∀y∈l,y.cls.length<=1000000/\y.gaps.length<=1000000)(hll:l.length<=2700000000000):am Tryz.prog 92 [.sl 2 (l.map cS)] (gl 54 2 ((cF l).map cS)):=by
 refine aa ag Tryz.func92 rfl (by decide) Tryz.ntmps92 Tryz.results92 rfl (cW _ _ _) ?_
 repeat' first|refine go ?_|decide|refine sp ?_ ?_<;>intro _
 refine af (fun st=>∃k:Nat,k<=l.length/\st=⟨26,[(0,.sl 2 (l.map cS)),(3,.osl 0),(4,eI (k:Int))],[(0,some (.row 54 2 ((cF (l.take k)).map cS)))],1⟩) (fun st=>l.length-ax st 4) ⟨_,((bq 3 54 2 (by simp only[iC,aj.get,aX,aj.put,↓reduceIte,reduceCtorEq,Nat.reduceLT,Nat.reduceEqDiff,Nat.reduceAdd,Nat.reduceLeDiff,eq_self,implies_true,Va,cF,WW,Vn])).trans (wS [0] (kf @Va (kf @cF.eq_1 @WW)))),0,UR _,rfl⟩ ?_;rintro _ ⟨k,hk,rfl⟩;by_cases hlt:k<l.length
 .obtain ⟨x,hx⟩:∃x,x=l[k]:=⟨_,rfl⟩;have hrow:(l.map cS)[k]?.getD []=cS x:=by rw[hx];simp[hlt]
  have hs:=nM hlt;obtain⟨g1,g2⟩:=mV l k hk;obtain⟨U,hU⟩:∃U,U=cF (l.take k):=⟨_,rfl⟩;rw[<- hU,<- hx] at hs;rw[<- hU] at g1 g2 ⊢;have hH:=S7 U x (by omega) fun y hy=>hl y (g2 y hy);by_cases hm:x∈U
  .rw [UZ hm] at hs;rw[Vb hm] at hH
   repeat' first|refine gf (kf @hrow @hlt) ?_|decide|refine sp ?_ ?_<;>intro _|refine cA hH ?_|fail
   all_goals exact rI (wE hs) ⟨k+1,by omega,rfl⟩
  .rw [UX hm] at hs;rw[U5 hm] at hH;have et:(cF (l.take (k+1))).map cS=U.map cS ++ [cS x]:=by rw[hs];simp
   repeat' first|refine gf (kf @hrow @hlt) ?_|decide|refine sp ?_ ?_<;>intro _|refine cA hH ?_|(with_reducible apply And.intro)
   all_goals first
    | rfl
    | omega
    | exact rI (wS [2] et) ⟨k+1,by omega,rfl⟩
 .obtain rfl:k=l.length:=by omega
  repeat' first|refine gf (kf @hlt @U6) ?_|decide|refine sp ?_ ?_<;>intro _
  exact aV (by simp[ae.gc])
def qY(z:Zn)(l:List Int)(r:Int):Nat->List Zn
 | 0=>[z]
 | i+1=>cF ((qY z l r i).flatMap fun o=>gM (eD o (l.getD i 0) (r-i)) (l.getD i 0) (r-i))
def NV:Nat->Nat
 | 4=>1316
 | 3=>348
 | 2=>104
 | _=>42
def Qw:Nat->Nat
 | 0=>1
 | r+1=>NV (r+1) * Qw r
theorem j7{α β:Type}(f:α -> List β)(b:Nat):∀l:List α,(∀x∈l,(f x).length<=b)->(l.flatMap f).length<=l.length * b
 | [],_=>by simp
 | x :: l,h=>by
  have h1:=j7 f b l fun y hy=>h y (Vx _ hy);have h2:=h x Vr;rw[V4,UW,Vl,Xk];omega
theorem Na{r:Int}(h:r<=4)(h1:1<=r):(r=4->(aY (r-1)).toNat=7)/\(r=3->(aY (r-1)).toNat=3)/\(r=2->(aY (r-1)).toNat=1)/\(r=1->(aY (r-1)).toNat=0):=
 ⟨fun e=>by rw[e];decide,fun e=>by rw[e];decide,fun e=>by rw[e];decide,fun e=>by rw[e];decide⟩
theorem AE(z:Zn)(a:Int){r:Int}(hz:z.cls.length<=20)(hr:r<=4):(gM z a r).length<=if r<1 then 0 else NV r.toNat:=by
 unfold gM;split
 .exact UR _
 .rename_i hb;have h1:¬r<1:=fun h=>hb (.inl h);rw[UX h1];have hlo:=Na hr (by omega);have hB:=t5 z a r z.cls.length;split
  .exact UR _
  .split
   .have:1<=NV r.toNat:=by unfold NV;split<;>omega
    simpa using this
   .rw [UW,UW,sF,Bf];have h4:r=4\/r=3\/r=2\/r=1:=(by omega);rcases h4 with e|e|e|e
    .rw [hlo.1 e] at hB ⊢;have:=Vk (1+(7+1) * (7+1)) hz;subst e;show _<=1316;omega
    .rw [hlo.2.1 e] at hB ⊢;have:=Vk (1+(3+1) * (3+1)) hz;subst e;show _<=348;omega
    .rw [hlo.2.2.1 e] at hB ⊢;have:=Vk (1+(1+1) * (1+1)) hz;subst e;show _<=104;omega
    .rw [hlo.2.2.2 e] at hB ⊢;have:=Vk (1+(0+1) * (0+1)) hz;subst e;show _<=42;omega
theorem D0:∀r,1<=Qw r
 | 0=>UU _
 | r+1=>by
  have h1:=D0 r;have h2:1<=NV (r+1):=by unfold NV;split<;>omega
  rw[Qw];exact WI h2 h1
def Uy(N:Nat)(l:List Zn):Prop:=∀y∈l,nh N y
theorem rz{N:Nat}(a r:Int):∀(n:Nat)(z:Zn)(i:Nat),nh N z->z.gaps.length=z.cls.length-1->nh N (uc a r n z i)/\(uc a r n z i).cls.length<=z.cls.length/\(uc a r n z i).gaps.length=(uc a r n z i).cls.length-1
 | 0,z,i,h,hg=>⟨h,UU _,hg⟩
 | n+1,z,i,h,hg=>by
  rw[uc];split
  .exact ⟨h,UU _,hg⟩
  .rename_i hi;split
   .exact rz a r n z (i+1) h hg
   .have hc:=DS z a i;have hB:nh N (pj z a i):=⟨by rw[hc];exact h.cl,h.ga,Mg a i h.at_⟩;split
    .obtain ⟨w1,w2⟩:=Al (pj z a i) i r (by rw[hc];omega);have hm:=rq (pj z a i) i r _ (UU _);rw[hc] at w1 w2 hm;have hcl:=h.cl;obtain⟨k1,k2,k3⟩:=rz (N:=N) a r n (lF (pj z a i) i r z.cls.length) i ⟨by rw[w1];omega,by rw[w2];omega,fun x hx=>hB.at_ x (hm x hx)⟩ (by rw[w1,w2]);rw[w1] at k2;exact⟨k1,by omega,k3⟩
    .obtain ⟨k1,k2,k3⟩:=rz a r n (pj z a i) (i+1) hB (by rw[hc];exact hg);exact⟨k1,by omega,k3⟩
theorem oV{N:Nat}{z:Zn}(a r:Int)(h:nh N z):nh N (eD z a r)/\(eD z a r).cls.length<=z.cls.length:=by
 unfold eD;split
 .rename_i hg;obtain⟨k1,k2,_⟩:=rz a r z.cls.length z 0 h (by omega);exact⟨k1,k2⟩
 .exact ⟨h,UU _⟩
theorem tY(s i:Int):aA (bn s i):=bW (jk s i)
theorem wA{N:Nat}{z:Zn}(a:Int)(at_:Nat)(r:Int)(ahead:Nat)(come:List Int)(behind:Nat)(h:nh N z)(hat:at_<=z.cls.length)(hg:(ahead+come.length)+(z.gaps.length-behind)<=N+1)(hah:ahead<=z.gaps.length):nh (N+1) (gS z a at_ r ahead come behind):=by
 have hcl:=h.cl;refine⟨?_,?_,fun x hx=>?_⟩
 .simp only[gS,UW,Vl,U2,VO];omega
 .have:(ns z r).length=z.gaps.length:=by simp[ns]
  simp only[gS,UW,U2,VO];omega
 .rcases U4.1 hx with h1|h1
  .exact h.at_ x (Vt h1)
  .rcases VL.1 h1 with h2|h2
   .rw [h2];exact tY _ _
   .exact h.at_ x (Wa h2)
theorem PJ{N:Nat}{z:Zn}(a:Int)(i:Nat)(r:Int)(h:nh N z):nh (N+1) (yh z a i r):=by
 have hcl:=h.cl;have hga:=h.ga;refine⟨by simp[yh];omega,by simp[yh,ns];omega,fun x hx=>?_⟩;rcases V9 hx with h1|h1
 .exact h.at_ x h1
 .rw [h1];exact tY _ _
theorem yA{N:Nat}{z:Zn}(a r:Int)(h:nh N z)(hg:z.gaps.length=z.cls.length-1):∀i,i<=z.cls.length->∀y∈iy z a r i,nh (N+1) y
 | 0,_,y,hy=>by simp[iy] at hy
 | i+1,hi,y,hy=>by
  have hcl:=h.cl;rw[iy] at hy;rcases U4.1 hy with h1|h1
  .exact yA a r h hg i (by omega) y h1
  .split at h1
   .rcases VL.1 h1 with h2|h2
    .rw [h2];exact PJ a i r h
    .obtain ⟨p,_,rfl⟩:=U3.1 h2;exact wA a _ r _ _ _ h (by omega) (by simp only[Vl,Wd];omega) (by omega)
   .simp only[Ve] at h1;rw[h1];exact PJ a i r h
theorem Lu{N:Nat}{z:Zn}(a r:Int)(h:nh N z):∀y∈gM z a r,nh (N+1) y:=by
 have hcl:=h.cl;intro y hy;unfold gM at hy;split at hy
 .simp at hy
 .rename_i hb;have hg:z.gaps.length=z.cls.length-1:=by omega
  split at hy
  .simp at hy
  .split at hy
   .rename_i h0;simp only[Ve] at hy;rw[hy];exact wA a _ r _ _ _ h (UR _) (by simp;omega) (UR _)
   .rename_i h0;rcases U4.1 hy with h1|h1
    .rcases U4.1 h1 with h2|h2
     .obtain ⟨j,_,rfl⟩:=U3.1 h2;exact wA a _ r _ _ _ h (UR _) (by simp;omega) (UR _)
     .exact yA a r h hg _ (UU _) y h2
    .obtain ⟨j,_,rfl⟩:=U3.1 h1;exact wA a _ r _ _ _ h (UU _) (by simp;omega) (by omega)
theorem Ew{N:Nat}{z:Zn}(l:List Int){r:Int}(h:nh N z)(hr:r<=4):∀i,N+i<=20->Uy (N+i) (qY z l r i)/\(qY z l r i).length * Qw (r-i).toNat<=Qw r.toNat
 | 0,_=>by
  refine⟨fun y hy=>?_,?_⟩
  .simp only[qY,Ve] at hy;rw[hy];exact h
  .simp [qY]
 | i+1,hi=>by
  obtain⟨h1,h2⟩:=Ew l h hr i (by omega)
  have hf:∀o∈qY z l r i,(gM (eD o (l.getD i 0) (r-i)) (l.getD i 0) (r-i)).length<=if r-i<1 then 0 else NV (r-i).toNat:=fun o ho=>by
   have hd:=(oV (l.getD i 0) (r-i) (h1 o ho)).1.cl;exact AE _ _ (by omega) (by omega)
  refine⟨fun y hy=>?_,?_⟩
  .rw [qY,kA,VP] at hy;obtain⟨o,ho,hy⟩:=hy;exact Lu _ _ (oV _ _ (h1 o ho)).1 y hy
  .have h3:=mE ((qY z l r i).flatMap fun o=>gM (eD o (l.getD i 0) (r-i)) (l.getD i 0) (r-i));have h4:=j7 _ _ _ hf;rw[qY];by_cases hc:r-(i:Int)<1
   .rw [UZ hc] at h4;have h5:(cF ((qY z l r i).flatMap fun o=>gM (eD o (l.getD i 0) (r-i)) (l.getD i 0) (r-i))).length=0:=(by omega);rw[h5,W5];exact UR _
   .rw [UX hc] at h4;obtain⟨q,hq⟩:∃q:Nat,(r-(i:Int)).toNat=q+1:=⟨(r-(i:Int)).toNat-1,by omega⟩;have hq2:(r-((i+1:Nat):Int)).toNat=q:=(by omega);rw[hq2];rw[hq] at h2 h4;rw[Qw] at h2;refine Vj (Vk _ (Vj h3 h4)) ?_;rw[Nat.mul_assoc];exact h2
theorem T8{r:Int}(h:r<=4):Qw r.toNat<=2000404224:=by
 have:r.toNat=0\/r.toNat=1\/r.toNat=2\/r.toNat=3\/r.toNat=4:=by omega
 rcases this with e|e|e|e|e<;>rw[e]<;>decide
theorem wB{N:Nat}{z:Zn}(l:List Int){r:Int}(h:nh N z)(hr:r<=4)(i:Nat)(hi:N+i<=20):(qY z l r i).length<=2000404224:=by
 have h1:=(Ew l h hr i hi).2;have h2:=D0 (r-i).toNat
 have h3:=T8 hr;have h4:=Nat.le_mul_of_pos_right (qY z l r i).length h2;omega
theorem HM(z:Zn)(l:List Int)(r:Int){N:Nat}(hz:nh N z)(hN:N+l.length<=20)(hl:∀a∈l,0<=a/\a<31)(hr:-1000<=r/\r<=4):am Tryz.prog 46 [.agg (cS z),sI l,eI r] ⟨.sl 2 ((qY z l r l.length).map cS),[],0⟩:=by
 refine jP 54 ?_;refine bj ag Tryz.func46 rfl (by decide) Tryz.ntmps46 Tryz.results46 rfl ?_;have e00:(qY z l r 0).map cS=[cS z]:=rfl;have ha0:∀i:Nat,i<=20->IntKind.i64.wrap (r-(i:Int))=r-(i:Int):=fun i hi=>aE (by omega) (by omega)
 repeat' first|refine gq ?_|decide|refine sp ?_ ?_<;>intro _
 refine⟨rfl,?_⟩;refine af (fun st=>∃i:Nat,i<=l.length/\st=⟨50,[(1,sI l),(2,eI r),(3,.op 0 0 0),(7,.osl 1),(8,eI (i:Int))],[(0,some (.box 54 (cS z))),(1,some (.row 54 2 ((qY z l r i).map cS)))],2⟩) (fun st=>l.length-ax st 8) ⟨_,(wE e00),0,UR _,rfl⟩ ?_;rintro _ ⟨i,hi,rfl⟩;obtain⟨hB,-⟩:=Ew l hz hr.2 i (by omega);have hL:=wB l hz hr.2 i (by omega);by_cases hlt:i<l.length
 .have hBn:=wB l hz hr.2 (i+1) (by omega);obtain⟨a,ha⟩:∃a,a=l[i]:=⟨_,rfl⟩;have hra:(l.map fun n=>[eI n])[i]?.getD []=[eI a]:=by rw[ha];simp[hlt]
  have hga:l.getD i 0=a:=by rw[ha];simp[List.getD,hlt]
  have hao:=hl a (ha ▸ UQ hlt);have ew:=ha0 i (by omega);have hs:qY z l r (i+1)=cF ((qY z l r i).flatMap fun o=>gM (eD o a (r-i)) a (r-i)):=by rw[qY,hga]
  obtain⟨O,hO⟩:∃O,O=qY z l r i:=⟨_,rfl⟩;rw[<- hO] at hs hB hL ⊢
  have hpl:∀o∈O,(gM (eD o a (r-i)) a (r-i)).length<=1316:=fun o ho=>by
   have hd:=(oV a (r-i) (hB o ho)).1.cl;have h1:=AE (eD o a (r-i)) a (r:=r-i) (by omega) (by omega);have h2:NV (r-i).toNat<=1316:=by unfold NV;split<;>omega
   split at h1<;>omega
  have hfl:∀k,k<=O.length->((O.take k).flatMap fun o=>gM (eD o a (r-i)) a (r-i)).length<=2632531959000:=fun k hk=>by
   have h1:=j7 (fun o=>gM (eD o a (r-i)) a (r-i)) 1316 (O.take k) fun o ho=>hpl o (Vt ho);rw[U2] at h1;have h2:min k O.length * 1316<=2000404224 * 1316:=Vk _ (by omega);omega
  repeat' first|refine gf @hlt ?_|decide|refine sp ?_ ?_<;>intro _
  refine af (fun st=>∃k:Nat,k<=O.length/\st=⟨50,[(1,sI l),(2,eI r),(3,.op 0 0 0),(7,.osl 1),(8,eI (i:Int)),(9,.osl 2),(10,eI (k:Int))],[(0,some (.box 54 (cS z))),(1,some (.row 54 2 (O.map cS))),(2,some (.row 54 2 (((O.take k).flatMap fun o=>gM (eD o a (r-i)) a (r-i)).map cS)))],3⟩) (fun st=>O.length-ax st 10) ⟨_,((bq 9 54 2 (by simp only[iC,aj.get,aX,aj.put,↓reduceIte,reduceCtorEq,Nat.reduceLT,Nat.reduceEqDiff,Nat.reduceAdd,Nat.reduceLeDiff,eq_self,implies_true,Va,V7,Vn])).trans (wS [0,1,2] (kf @Va @V7))),0,UR _,rfl⟩ ?_;rintro _ ⟨k,hk,rfl⟩;have hFk:=hfl k hk;by_cases hlk:k<O.length
  .obtain ⟨o,ho⟩:∃o,o=O[k]:=⟨_,rfl⟩;have hom:o∈O:=ho ▸ UQ hlk;have hro:(O.map cS)[k]?.getD []=cS o:=by rw[ho];simp[hlk]
   have hD:=SV o a (r-i) (N:=N+i) (by omega) (hB o hom) hao;have hdB:=(oV a (r-i) (hB o hom)).1;have hP:=Oo (eD o a (r-i)) a (r-i) (N:=N+i) (by omega) hdB ⟨by omega,by omega⟩;have hpo:=hpl o hom
   have et:((O.take (k+1)).flatMap fun o=>gM (eD o a (r-i)) a (r-i)).map cS=((O.take k).flatMap fun o=>gM (eD o a (r-i)) a (r-i)).map cS ++ (gM (eD o a (r-i)) a (r-i)).map cS:=by
    rw[U0 hlk,Wj,<- ho];simp
   obtain⟨F,hF⟩:∃F,F=(O.take k).flatMap fun o=>gM (eD o a (r-i)) a (r-i):=⟨_,rfl⟩;rw[<- hF] at et hFk ⊢;obtain⟨D,hDe⟩:∃D,D=eD o a (r-i):=⟨_,rfl⟩;rw[<- hDe] at hD hP hpo et;obtain⟨P,hPe⟩:∃P,P=gM D a (r-i):=⟨_,rfl⟩;rw[<- hPe] at hP hpo et
   repeat' first|refine ge (kf @hlt (kf @hlk (kf @hro (kf @hra ew)))) ?_|decide|refine sp ?_ ?_<;>intro _
   refine aG [2] [0,1,2,3,4,5,6,7,8,9,10,11,13,14,15,16,17,18,19] (.exec 12 (.exec 20 (.exec 21 (.exec 22 .done)))) (by kernel_rfl) (by simp[ae.gc]) ?_
   repeat' first|refine gf (kf @hlt (kf @hlk (kf @hro (kf @hra ew)))) ?_|decide|refine sp ?_ ?_<;>intro _|refine cA hD ?_|refine cA hP ?_|(with_reducible apply And.intro)
   all_goals first
    | rfl
    | omega
    | exact rI (wS [0,1,3] (kf et hF)) ⟨k+1,by omega,rfl⟩
  .obtain rfl:k=O.length:=by omega
   rw[U6] at hFk ⊢
   have hZB:∀y∈O.flatMap fun o=>gM (eD o a (r-i)) a (r-i),y.cls.length<=1000000/\y.gaps.length<=1000000:=fun y hy=>by
    obtain⟨o,ho,hy⟩:=VP.1 hy;have h1:=Lu a (r-i) (oV a (r-i) (hB o ho)).1 y hy;have h2:=h1.cl;have h3:=h1.ga;exact⟨by omega,by omega⟩
   have hU:=Od _ hZB (by omega);rw[<- hs] at hU
   repeat' first|refine gf @hlk ?_|decide|refine sp ?_ ?_<;>intro _
   refine Ag [2] (R:=gl 54 2 ((qY z l r (i+1)).map cS)) ?_ ?_ ?_
   .repeat' first|decide|refine go ?_
    exact hU
   .repeat' first|decide|refine go ?_
    left;simp[m8,pi,bD,dl]
   .repeat' first|refine go ?_|simp only[gl,cX,fw,fA,aB.shift]|decide|refine sp ?_ ?_<;>intro _
    all_goals exact rI (wR [0,3]) ⟨i+1,by omega,rfl⟩
 .obtain rfl:i=l.length:=by omega
  repeat' first|refine gf @hlt ?_|decide|refine sp ?_ ?_<;>intro _
  all_goals exact zQ rfl lp
end
section
def gR(M:Int):List Int->List Int
 | []=>[]
 | [_]=>[]
 | x :: y :: l=>cC x y M :: gR M (y :: l)
theorem pp(M:Int):∀l,(gR M l).length=l.length-1
 | []=>rfl
 | [_]=>rfl
 | x :: y :: l=>by
  have:=pp M (y :: l);simp only[gR,Vl] at this ⊢;omega
theorem pk(M:Int)(x y:Int)(l2:List Int):∀l1,gR M (l1 ++ x :: y :: l2)=gR M (l1 ++ [x]) ++ cC x y M :: gR M (y :: l2)
 | []=>rfl
 | [u]=>rfl
 | u :: w :: l=>by
  have:=pk M x y l2 (w :: l);show cC u w M :: gR M (w :: l ++ x :: y :: l2)=cC u w M :: gR M (w :: l ++ [x]) ++ _;rw[this];rfl
theorem Ef(M:Int)(l:List Int)(x y:Int):gR M (l ++ [x] ++ [y])=gR M (l ++ [x]) ++ [cC x y M]:=by
 rw[Vw];exact pk M x y [] l
theorem DV(M:Int):∀(l:List Int)(i:Nat),i+1<l.length->(gR M l).getD i 0=cC (l.getD i 0) (l.getD (i+1) 0) M
 | [],i,h=>absurd h (by simp)
 | [_],i,h=>absurd h (by simp)
 | x :: y :: l,0,_=>rfl
 | x :: y :: l,i+1,h=>DV M (y :: l) i (by simpa using h)
theorem Bm(r:Int):∀L,fH L r L.length=gR (aY r) L
 | []=>rfl
 | [_]=>rfl
 | x :: y :: l=>by
  have:=Bm r (y :: l);rw[gR,<- this];unfold fH;simp only[Vl,Wm];rw[List.range_succ_eq_map,VE,Xt];rfl
theorem vQ{r:Int}(h:1<=r)(h2:r<=20):aY r=2 * aY (r-1)+1:=by
 obtain⟨n,rfl⟩:∃n:Nat,r=(n:Int)+1:=⟨(r-1).toNat,by omega⟩;unfold aY;rw[show((n:Int)+1-1).toNat=n by omega,show((n:Int)+1).toNat=n+1 by omega,Xw (by omega),Xw (by omega),Int.pow_succ];omega
theorem L9{r:Int}(h:1<=r)(h2:r<=20)(a b:Int):bM (cC a b (aY r)) (r-1)=cC a b (aY (r-1)):=by
 have h3:=vQ h h2;have h4:=(fM (r-1)).1;unfold bM cC;generalize aY (r-1)=M at *;generalize aY r=M2 at *;split<;>omega
theorem xk{r:Int}(h:1<=r)(h2:r<=20):∀l,((gR (aY r) l).map fun n=>bM n (r-1))=gR (aY (r-1)) l
 | []=>rfl
 | [_]=>rfl
 | x :: y :: l=>by rw[gR,gR,VE,L9 h h2,xk h h2]
abbrev zl(L:List Int)(f:Int->fo)(r:Int):Zn:=⟨L.map f,gR (aY r) L⟩
theorem zi(vals c:List Int)(r:Int):bS vals c r=zl (a6 vals c) (ey vals c) r:=by
 unfold bS iB;rw[Bm]
theorem tN{s t:Int}(hs:cb s)(ht:cb t)(h:∀j:Nat,j<31->aQ s (j:Int)=aQ t (j:Int)):s=t:=by
 unfold cb at hs ht;have e1:jA s=s.toNat:=by unfold jA;omega
 have e2:jA t=t.toNat:=by unfold jA;omega
 have:jA s=jA t:=Wt fun j=>by
  by_cases hj:j<31
  .rw [<- cR _ _ hj,<- cR _ _ hj];exact h j hj
  .have h3:(2:Nat) ^ 31<=2 ^ j:=Vp (by omega) (by omega);rw[V6 (UY (dD s) h3),V6 (UY (dD t) h3)]
 omega
theorem si(vals:List Int)(n:Int):∀k,cb (cn vals n k)
 | 0=>⟨WU _,by unfold cn;omega⟩
 | k+1=>by
  unfold cn;split
  .exact jk _ _
  .exact si vals n k
theorem sm{f:Int->fo}{L:List Int}{i:Nat}(h:i<L.length):(L.map f).getD i default=f (L.getD i 0):=by
 rw[Os,Os,UV,p0 h];rfl
theorem BO(a r:Int):∀(n:Nat)(z:Zn)(i:Nat),(∀x∈z.cls,aQ x.attrs a=false)->uc a r n z i=z
 | 0,_,_,_=>rfl
 | n+1,z,i,h=>by
  unfold uc;split
  .rfl
  .rename_i h1
   have hm:z.cls.getD i default∈z.cls:=by
    rw[Os,p0 (by omega)];exact UQ _
   rw[UZ (h _ hm)];exact BO a r n z (i+1) h
theorem Ec(a r:Int)(z:Zn)(p:Nat)(hp:p<z.cls.length)(hno:∀i,i<p->aQ (z.cls.getD i default).attrs a=false)(hit:aQ (z.cls.getD p default).attrs a=true):∀n i,i<=p->p<i+n ->
  ∃n',uc a r n z i=if aZ (z.cls.getD p default).attrs a=0/\(z.cls.getD p default).const = -1 then uc a r n' (lF (pj z a p) p r z.cls.length) p else uc a r n' (pj z a p) (p+1)
 | 0,i,h1,h2=>absurd h2 (by omega)
 | n+1,i,h1,h2=>by
  by_cases e:i=p
  .subst e;refine⟨n,?_⟩
   conv=>lhs;unfold uc
   rw[UX (by omega),UX (by rw[hit];simp)]
  .obtain ⟨n',h3⟩:=Ec a r z p hp hno hit n (i+1) (by omega) (by omega);refine⟨n',?_⟩
   conv=>lhs;unfold uc
   rw[UX (by omega),UZ (hno i (by omega))];exact h3
theorem Gi{l:List Int}(h:0<l.length):∃l',l=l' ++ [l.getD (l.length-1) 0]:=by
 refine⟨l.dropLast,?_⟩;have hne:l≠[]:=WJ.1 h
 have e:l.getD (l.length-1) 0=l.getLast hne:=by
  rw[Os,p0 (by omega),List.getLast_eq_getElem];rfl
 rw[e,List.dropLast_concat_getLast]
theorem Ll(M:Int){l:List Int}(y:Int)(h:0<l.length):gR M (l ++ [y])=gR M l ++ [cC (l.getD (l.length-1) 0) y M]:=by
 obtain⟨l',h2⟩:=Gi h;generalize l.getD (l.length-1) 0=x at *;subst h2;exact Ef M l' x y
theorem I8(g:Int->fo)(r:Int)(L:List Int)(hup:Up L)(p:Nat)(hp:p<L.length):∀k,k<=L.length->lF (zl L g r) p r k=⟨((L.take k).eraseIdx p).map g,gR (aY r) ((L.take k).eraseIdx p)⟩
 | 0,_=>by simp[lF,gR]
 | k+1,hk=>by
  have ih:=I8 g r L hup p hp k (by omega)
  have ht:L.take (k+1)=L.take k ++ [L.getD k 0]:=by
   rw[U0 (by omega),Os,p0 (by omega)];rfl
  have htl:(L.take k).length=k:=by rw[U2];omega
  have hlt:∀i j,i<j->j<L.length->L.getD i 0<L.getD j 0:=fun i j h1 h2=>by
   rw[Os,Os,p0 h2,p0 (show i<L.length by omega)];exact Vo.1 hup i j _ _ h1
  unfold lF;rw[ih,ht];by_cases e:k=p
  .subst e;rw[UZ rfl,List.eraseIdx_append_of_length_le (by omega),List.eraseIdx_of_length_le (by omega),htl,W6];simp
  .rw [UX e]
   have he:(L.take k ++ [L.getD k 0]).eraseIdx p=(L.take k).eraseIdx p ++ [L.getD k 0]:=by
    rcases U9 p k with h|h
    .rw [List.eraseIdx_append_of_lt_length (by omega)]
    .rw [List.eraseIdx_of_length_le (by rw[UW,htl,Vs];omega),List.eraseIdx_of_length_le (by omega)]
   rw[he]
   have hl:((L.take k).eraseIdx p).length=if p<k then k-1 else k:=by
    rw[List.length_eraseIdx,htl]
   have hel:∀i,((L.take k).eraseIdx p).getD i 0=if i<p then (L.take k).getD i 0 else (L.take k).getD (i+1) 0:=fun i=>by
    rw[Os,List.getElem?_eraseIdx];split<;>rw[Os]
   have htk:∀i,i<k->(L.take k).getD i 0=L.getD i 0:=fun i h=>by
    rw[Os,VM,UZ h,Os]
   generalize (L.take k).eraseIdx p=l at *;have hc:(zl L g r).cls.getD k default=g (L.getD k 0):=sm (by omega);rw[hc];simp only[Vc,VE,Vn,Vd];by_cases h0:l.length=0
   .rw [UZ h0];have:l=[]:=VW h0;subst this;rfl
   .rw [UX h0,Ll _ _ (by omega)]
    congr 2
    have hg:∀i,i+1<L.length->(zl L g r).gaps.getD i 0=cC (L.getD i 0) (L.getD (i+1) 0) (aY r):=fun i h=>DV _ L i h
    have hw:PK (zl L g r) p r k=cC (l.getD (l.length-1) 0) (L.getD k 0) (aY r):=by
     unfold PK;by_cases e2:k=p+1
     .subst e2;rw[UZ rfl];rw[UZ (by omega)] at hl;have e3:l.length-1=p-1:=(by omega);have hp0:0<p:=(by omega);obtain⟨q,rfl⟩:∃q,p=q+1:=⟨p-1,by omega⟩;rw[e3,hel,UZ (by omega),htk _ (by omega),hg _ (by omega),hg _ (by omega)];simp only[Wm];have h4:=hlt q (q+1) (by omega) (by omega);have h5:=hlt (q+1) (q+1+1) (by omega) (by omega);have h6:=(fM r).1;generalize L.getD q 0=A at *;generalize L.getD (q+1) 0=B at *;generalize L.getD (q+1+1) 0=C at *;unfold bM cC;generalize aY r=M at *;repeat' split
      all_goals omega
     .rw [UX e2]
      have hk0:0<k:=by
       rcases Xa k with h|h
       .subst h;rw[UX (by omega)] at hl;omega
       .exact h
      obtain⟨q,rfl⟩:∃q,k=q+1:=⟨k-1,by omega⟩;simp only[Wm];rw[hg _ (by omega),hel];rcases U9 p (q+1) with h|h
      .rw [UZ h] at hl;rw[UX (by omega),show l.length-1+1=q by omega,htk _ (by omega)]
      .rw [UX (by omega)] at hl;rw[UZ (by omega),show l.length-1=q by omega,htk _ (by omega)]
    rw[hw]
def H4(f:Int->fo)(a:Int)(n:Int):fo:=⟨aZ (f n).attrs a,(f n).const⟩
theorem Mk(f:Int->fo)(a n:Int):aQ (H4 f a n).attrs a=false:=by
 unfold H4;simp only;rw[de];simp
theorem Ap{f:Int->fo}{a n:Int}(h1:cb (f n).attrs)(h2:aQ (f n).attrs a=false):H4 f a n=f n:=by
 unfold H4
 have:aZ (f n).attrs a=(f n).attrs:=tN (iz _ _) h1 fun j hj=>by
  rw[de];by_cases e:(j:Int)=a
  .rw [<- e] at h2;rw[h2];simp
  .rw [Vv.2 e];rfl
 rw[this]
theorem Nh{f:Int->fo}{r a x:Int}{l1 l2:List Int}(hup:Up (l1 ++ x :: l2))(h1:∀n,n≠x->aQ (f n).attrs a=false)(hx:aQ (f x).attrs a=true)(hi:∀n,cb (f n).attrs) :
  eD (zl (l1 ++ x :: l2) f r) a r=if aZ (f x).attrs a=0/\(f x).const = -1 then zl (l1 ++ l2) (H4 f a) r else zl (l1 ++ x :: l2) (H4 f a) r:=by
 obtain⟨L,hL⟩:∃L,L=l1 ++ x :: l2:=⟨_,rfl⟩;have hLl:L.length=l1.length+1+l2.length:=by rw[hL,UW,Vl];omega
 have hgx:L.getD l1.length 0=x:=by
  rw[hL,Os,Vu (UU _),W6];rfl
 have hpw:=VN.1 hup
 have hnx1:∀n∈l1,n≠x:=fun n hn e=>by
  have:=hpw.2.2 n hn x Vr;omega
 have hnx2:∀n∈l2,n≠x:=fun n hn e=>by
  have:=(Wv.1 hpw.2.1).1 n hn;omega
 have hlen:(zl L f r).cls.length=L.length:=by simp
 have hcp:(zl L f r).cls.getD l1.length default=f x:=by rw[sm (by omega),hgx]
 have hdr:pj (zl L f r) a l1.length=zl L (H4 f a) r:=by
  unfold pj;rw[hcp];show(⟨(L.map f).set l1.length _,_⟩:Zn)=⟨L.map (H4 f a),_⟩
  congr 1
  rw[hL,Vc,VE,List.set_append_right _ _ (by rw[Vd];exact UU _),Vd,W6,Wi,Vc,VE]
  congr 1
  .exact WA fun n hn=>(Ap (hi n) (h1 n (hnx1 n hn))).symm
  .congr 1
   exact WA fun n hn=>(Ap (hi n) (h1 n (hnx2 n hn))).symm
 have hno:∀M:List Int,∀y∈(zl M (H4 f a) r).cls,aQ y.attrs a=false:=fun M y hy=>by
  obtain⟨n,_,rfl⟩:=U3.1 hy;exact Mk f a n
 rw[<- hL];unfold eD;rw[UZ (by rw[hlen];show((gR (aY r) L).length:Int)=_;rw[pp];omega)]
 obtain⟨n',e⟩:=Ec a r (zl L f r) l1.length (by omega) (fun i hi'=>by
  rw[sm (by omega)];refine h1 _ ?_
  have:L.getD i 0=l1[i]:=by
   rw[hL,Os,Vq hi',p0 hi'];rfl
  rw[this];exact hnx1 _ (UQ hi')) (by rw[hcp];exact hx) (zl L f r).cls.length 0 (UR _) (by omega)
 rw[e,hcp,hdr];split
 .rw [hlen,I8 (H4 f a) r L (hL ▸ hup) l1.length (by omega) L.length (UU _),U6]
  have he:L.eraseIdx l1.length=l1 ++ l2:=by
   rw[hL,List.eraseIdx_append_of_length_le (UU _),W6,List.eraseIdx_cons_zero]
  rw[he];exact BO _ _ _ _ _ (hno _)
 .exact BO _ _ _ _ _ (hno _)
end
section
structure Nd where
 z:Zn
 opn:Int
 don:Int
 did:List Int
 cnt:List Int
abbrev kD(n:Nd):List AV:=[.sl 2 (n.z.cls.map du),sI n.z.gaps,eI n.opn,eI n.don,sI n.did,sI n.cnt]
def bE(n:Nd):St:=⟨[],n.opn,n.don,n.did,n.cnt⟩
theorem vh(n:Nd)(h1:n.did.length<=1000000)(h2:n.cnt.length<=1000000):am Tryz.prog 45 [.agg (kD n)] ⟨.agg [.c (.slice none 0 0),eI n.opn,eI n.don,sI n.did,sI n.cnt],[],0⟩:=by
 refine am.still (R:=⟨.agg [.c (.slice none 0 0),eI n.opn,eI n.don,.osl 0,.osl 1],[(0,some (.row 3 1 (n.did.map fun n=>[eI n]))),(1,some (.row 3 1 (n.cnt.map fun n=>[eI n])))],2⟩) [0,1] ?_ (by simp[cu.frzs,cu.frz,ae.gc,AV.frz,AV.frzL,bw,aB.frz]) (by simp[AV.lt,AV.ltL]);refine aa ag Tryz.func45 rfl (by decide) Tryz.ntmps45 Tryz.results45 rfl (fR (by simp[bX,aB.lt,AV.ltL,AV.lt]) (by simp[AV.lt,AV.ltL])) ?_
 repeat' first|refine go ?_|decide|refine sp ?_ ?_<;>intro _
 refine aG [1] [0,1,2,3,5,6,9,10] (.two 4 (.two 7 (.exec 8 (.exec 11 (.take 12 (.exec 13 .done)))) 8 (.exec 7 (.exec 11 (.take 12 (.exec 13 .done))))) 8 (.exec 4 (.exec 7 (.exec 11 (.take 12 (.exec 13 .done)))))) (by kernel_rfl) (by simp[ae.gc]) ?_
 repeat' first|refine gq ?_|decide|refine sp ?_ ?_<;>intro _|(with_reducible apply And.intro)
 all_goals first
  | omega
  | rfl
  | exact⟨[3,5],by decide,rfl,by simp[b6,ae.gc]⟩
  | exact⟨[4,5],by decide,rfl,by simp[b6,ae.gc]⟩
  | exact⟨[5,4],by decide,rfl,by simp[b6,ae.gc]⟩
  | exact⟨[5,3],by decide,rfl,by simp[b6,ae.gc]⟩
end
section
theorem DR(l:List fo)(k:Nat):(j1 l k).Pairwise (· < ·):=List.Pairwise.filter _ List.pairwise_lt_range
theorem y9(l:List fo)(k:Nat){i:Nat}(h:i∈j1 l k):i<k:=by
 unfold j1 at h;simp at h;exact h.1
def dy(z:Zn):List Nat:=j1 z.cls z.cls.length
def wd(z:Zn)(n:Int)(c:List Int)(r:Int):Prop:=
 ((0<=n/\n<=31)/\oZ z.cls n ((aR c).length:Int)/\xi z (aY r))/\∀i,i+1<(dy z).length->na z ((dy z).getD i 0) ((dy z).getD (i+1) 0) (aY r) ((aR c).getD i 0) ((aR c).getD (i+1) 0)
end
section
theorem Ah(vals c:List Int)(L:List Int):∀k,k<=L.length->(j1 (L.map (ey vals c)) k).map (fun i=>L.getD i 0)=(L.take k).filter fun x=>decide (x∈aR c)
 | 0,_=>by simp[j1]
 | k+1,h=>by
  have ih:=Ah vals c L k (by omega);have hk:k<L.length:=by omega
  have hup:=(bm c).1;rw[kj _ (by rw[Vd];omega),U0 hk,List.filter_append,<- ih,Xq];have e:L.getD k 0=L[k]:=by rw[Os,p0 hk];rfl
  have hc:(ey vals c L[k]).const=dE (aR c) L[k] (aR c).length:=rfl;rcases ov hup L[k] with ⟨h1,h2⟩|⟨i,hi,h1,h2⟩
  .rw [UX (by rw[hc,h2];omega)];simp[h1]
  .have hm:L[k]∈aR c:=h1 ▸ UQ hi;rw[UZ (by rw[hc,h2];omega),Vc];simp[hm,hk]
theorem L6(vals c:List Int)(r:Int):(dy (bS vals c r)).map (fun i=>(a6 vals c).getD i 0)=aR c:=by
 have hL:Up (a6 vals c):=(bm (vals ++ c)).1;have hm:=(bm (vals ++ c)).2;have hsc:=(bm c).1;have hscm:=(bm c).2;have hin:∀x∈aR c,x∈a6 vals c:=fun x hx=>(hm x).2 (V8 _ ((hscm x).1 hx))
 have e:dy (bS vals c r)=j1 ((a6 vals c).map (ey vals c)) (a6 vals c).length:=by
  show j1 (iB vals c) (iB vals c).length=_;unfold iB;rw[Vd]
 rw[e,Ah vals c _ _ (UU _),U6];refine mm _ _ (List.Pairwise.filter _ hL) hsc fun z=>?_;simp only[Xg,U7];exact⟨fun h=>h.2,fun h=>⟨hin z h,h⟩⟩
theorem FE(L:List Int)(r:Int):(fH L r L.length).length=L.length-1:=by simp[fH]
theorem uN(L:List Int)(r:Int){i:Nat}(h:i+1<L.length):(fH L r L.length)[i]? = some (cC (L.getD i 0) (L.getD (i+1) 0) (aY r)):=by
 unfold fH;rw[UV,List.getElem?_range (by omega)];rfl
theorem me(z:Zn)(p:Nat):cB z p p=[]:=by
 unfold cB;rw[List.drop_eq_nil_iff,U2];omega
theorem qt(z:Zn){p q:Nat}{g:Int}(h:z.gaps[q]? = some g)(hpq:p<=q):cB z p (q+1)=cB z p q ++ [g]:=by
 have hq:q<z.gaps.length:=(US.1 h).1;unfold cB;rw[Xj,h,List.drop_append_of_le_length (by rw[U2];omega)];rfl
theorem zC(vals c:List Int)(r:Int)(p:Nat):∀d,p+d<(a6 vals c).length->0<d ->
  ((d:Int)-1+(cB (bS vals c r) p (p+d)).sum<=(a6 vals c).getD (p+d) 0-(a6 vals c).getD p 0-1/\0<=(cB (bS vals c r) p (p+d)).sum) /\
  ((∃g∈cB (bS vals c r) p (p+d),g=aY r)\/(d:Int)-1+(cB (bS vals c r) p (p+d)).sum=(a6 vals c).getD (p+d) 0-(a6 vals c).getD p 0-1)
 | 0,_,h=>by omega
 | d+1,hd,_=>by
  have hL:Up (a6 vals c):=(bm (vals ++ c)).1;have hg:=uN (a6 vals c) r (i:=p+d) (by omega);have hs:=qt (bS vals c r) (p:=p) (q:=p+d) hg (by omega);have hlt:=Vo.1 hL (p+d) (p+d+1) (by omega) (by omega) (by omega);have e1:(a6 vals c).getD (p+d) 0=(a6 vals c)[p+d]:=by rw[Os,p0 (by omega)];rfl
  have e2:(a6 vals c).getD (p+d+1) 0=(a6 vals c)[p+d+1]:=by rw[Os,p0 (by omega)];rfl
  rw[<- e1,<- e2] at hlt;have hcap:=CG r
  have hgv:cC ((a6 vals c).getD (p+d) 0) ((a6 vals c).getD (p+d+1) 0) (aY r)=aY r\/cC ((a6 vals c).getD (p+d) 0) ((a6 vals c).getD (p+d+1) 0) (aY r)=(a6 vals c).getD (p+d+1) 0-(a6 vals c).getD (p+d) 0-1:=by
   unfold cC;omega
  have hgb:0<=cC ((a6 vals c).getD (p+d) 0) ((a6 vals c).getD (p+d+1) 0) (aY r)/\cC ((a6 vals c).getD (p+d) 0) ((a6 vals c).getD (p+d+1) 0) (aY r)<=(a6 vals c).getD (p+d+1) 0-(a6 vals c).getD (p+d) 0-1:=by
   unfold cC;omega
  generalize cC ((a6 vals c).getD (p+d) 0) ((a6 vals c).getD (p+d+1) 0) (aY r)=g at *;show _/\_;rw[show p+(d+1)=p+d+1 from rfl,hs,List.sum_append,List.sum_singleton];have hpush:((d+1:Nat):Int)=(d:Int)+1:=by omega
  rw[hpush];rcases Xa d with rfl|hd0
  .rw [show p+0=p from rfl] at *;rw[me];simp only[List.sum_nil,VR,Ve];clear hL hg hs;refine⟨by omega,?_⟩;rcases hgv with h|h
   .exact .inl ⟨g,rfl,h⟩
   .exact .inr (by omega)
  .obtain ⟨⟨h1,h0⟩,h2⟩:=zC vals c r p d (by omega) hd0;clear hL hg hs;refine⟨by omega,?_⟩;rcases hgv with h|h
   .exact .inl ⟨g,V8 _ (Ve.2 rfl),h⟩
   .rcases h2 with ⟨x,hx,h3⟩|h2
    .exact .inl ⟨x,VU _ hx,h3⟩
    .exact .inr (by omega)
theorem Cl(vals c:List Int)(r:Int)(hv:vals.length<=31):wd (bS vals c r) (vals.length:Int) c r:=by
 have hcap:=CG r;have hcl:(bS vals c r).cls.length=(a6 vals c).length:=by show(iB vals c).length=_;unfold iB;rw[Vd]
 have hgl:(bS vals c r).gaps.length=(a6 vals c).length-1:=FE _ r;refine⟨⟨⟨by omega,by omega⟩,AX vals c hv,by omega,fun i hi=>?_⟩,fun i hi=>?_⟩
 .rw [hgl] at hi;have h:=uN (a6 vals c) r (i:=i) (by omega)
  have e:(bS vals c r).gaps[i]=cC ((a6 vals c).getD i 0) ((a6 vals c).getD (i+1) 0) (aY r):=by
   have h2:(bS vals c r).gaps[i]? = some (bS vals c r).gaps[i]:=p0 (by omega);exact Wk (h2.symm.trans h)
  rw[e];unfold cC;omega
 .have hf:=L6 vals c r;have hup:(dy (bS vals c r)).Pairwise (· < ·):=DR _ _;have hlt2:∀j∈dy (bS vals c r),j<(bS vals c r).cls.length:=fun j hj=>y9 _ _ hj
  have hval:∀j,j<(dy (bS vals c r)).length->(a6 vals c).getD ((dy (bS vals c r)).getD j 0) 0=(aR c).getD j 0:=fun j hj=>by
   rw[<- hf];simp[Os,UV,p0 hj]
  have a1:=hval i (by omega);have a2:=hval (i+1) hi;have e1:(dy (bS vals c r)).getD i 0=(dy (bS vals c r))[i]:=by rw[Os,p0 (by omega)];rfl
  have e2:(dy (bS vals c r)).getD (i+1) 0=(dy (bS vals c r))[i+1]:=by rw[Os,p0 (by omega)];rfl
  have h5:=Vo.1 hup i (i+1) (by omega) hi (by omega);have h6:=hlt2 _ (UQ hi);rw[<- e1,<- e2] at h5;rw[<- e2,hcl] at h6;rw[<- a1,<- a2];clear hf hup hlt2 hval a1 a2 e1 e2;generalize (dy (bS vals c r)).getD i 0=p at *;generalize (dy (bS vals c r)).getD (i+1) 0=q at *;obtain⟨d,rfl⟩:∃d,q=p+d:=⟨q-p,by omega⟩;obtain⟨⟨h1,h0⟩,h2⟩:=zC vals c r p d h6 (by omega);unfold na;have ed:((p+d:Nat):Int)-(p:Int)-1=(d:Int)-1:=by omega
  rw[ed];generalize (cB (bS vals c r) p (p+d)).sum=S at *;generalize (a6 vals c).getD (p+d) 0=b at *;generalize (a6 vals c).getD p 0=a at *;have hd:0<d:=by omega
  by_cases hS:(d:Int)-1+S=b-a-1
  .refine .inl ?_;unfold cC;omega
  .rcases h2 with h2|h2
   .refine .inr ⟨h2,?_⟩;unfold cC;omega
   .exact absurd h2 hS
end
section
end
section
end
section
end
section
theorem T3(a b:Nat)(ha:a<2 ^ 63)(hb:b<2 ^ 63):TS (a:Int) (b:Int)=((a ||| b:Nat):Int):=by
 show IntKind.i64.wrap ((BitVec.ofInt 64 (a:Int) ||| BitVec.ofInt 64 (b:Int)).toNat:Int)=_;rw[BitVec.toNat_or,dk a (by omega),dk b (by omega)];exact j6 _ (Wq ha hb)
theorem LS(a b:Nat)(ha:a<2 ^ 63)(hb:b<2 ^ 63):T4 (a:Int) (b:Int)=((a &&& b:Nat):Int):=by
 show IntKind.i64.wrap ((BitVec.ofInt 64 (a:Int) &&& BitVec.ofInt 64 (b:Int)).toNat:Int)=_;rw[BitVec.toNat_and,dk a (by omega),dk b (by omega)];exact j6 _ (Xb Xz (by omega))
def aN(x:fo):Nat:=x.attrs.toNat
theorem nY:∀l:List fo,(∀x∈l,0<=x.attrs/\x.attrs<9223372036854775808)->∃A:Nat,Dq l=(A:Int)/\A<2 ^ 63/\∀q,A.testBit q=true↔ ∃x∈l,(aN x).testBit q=true:=fun L=>by
 induction hk:L.length using Nat.strongRecOn generalizing L with
 | _ k ih=>
  intro hL;rcases List.eq_nil_or_concat L with rfl|⟨l,m,rfl⟩
  .exact ⟨0,rfl,by decide,fun q=>by simp⟩
  .rw [List.concat_eq_append] at *;obtain⟨A,h1,h2,h3⟩:=ih l.length (by simp at hk;omega) l rfl fun x hx=>hL x (VU _ hx);have hm:=hL m (by simp);have e1:m.attrs=((aN m:Nat):Int):=by unfold aN;omega
   have hlt:aN m<2 ^ 63:=by unfold aN;omega
   refine⟨A ||| aN m,?_,Wq h2 hlt,fun q=>?_⟩
   .rw [vo,h1,e1,T3 _ _ h2 hlt]
   .rw [Nat.testBit_or,Wb,h3];simp only[U4,Ve];constructor
    .rintro (⟨x,hx,hb⟩|hb)
     .exact ⟨x,.inl hx,hb⟩
     .exact ⟨m,.inr rfl,hb⟩
    .rintro ⟨x,hx|rfl,hb⟩
     .exact .inl ⟨x,hx,hb⟩
     .exact .inr hb
structure ZB(l:List fo)(n:Nat):Prop where
 nn:∀x∈l,0<=x.attrs/\x.attrs<2147483648
 lt:∀x∈l,∀q,(aN x).testBit q=true->q<n
 dis:∀i j (hi:i<l.length) (hj:j<l.length) (q:Nat),(aN l[i]).testBit q=true->(aN l[j]).testBit q=true->i=j
 all:∀q,q<n->∃i,∃h:i<l.length,(aN l[i]).testBit q=true
theorem TP{l:List fo}{n:Nat}{k:Int}(hn:n<=31)(h:oZ l (n:Int) k)(hl:∀x∈l,x.attrs<9223372036854775808):ZB l n:=by
 obtain⟨h1,h2,_⟩:=h
 have hnn:∀x∈l,0<=x.attrs/\x.attrs<9223372036854775808:=fun x hx=>by
  obtain⟨i,hi,rfl⟩:=U8 hx;exact⟨(h1 i hi).1,hl _ (UQ hi)⟩
 obtain⟨A,hA,hAlt,hAb⟩:=nY l hnn
 have hA2:A=2 ^ n-1:=by
  rw[hA] at h2;unfold jz at h2;have e:(max 0 (min (n:Int) 31)).toNat=n:=by omega
  rw[e] at h2;have h3:1<=2 ^ n:=WR;have h4:((2 ^ n-1:Nat):Int)=(2:Int) ^ n-1:=by rw[Int.natCast_sub h3];simp
  omega
 have hlt:∀x∈l,∀q,(aN x).testBit q=true->q<n:=fun x hx q hq=>by
  have:=(hAb q).2 ⟨x,hx,hq⟩;rw[hA2,W7] at this;simpa using this
 have hlow:∀i j (hi:i<l.length) (hj:j<l.length) (q:Nat),i<j->(aN l[i]).testBit q=true->(aN l[j]).testBit q=true->False:=fun i j hi hj q hij h3 h4=>by
  have h5:=(h1 j hj).2.1;obtain⟨B,hB,hBlt,hBb⟩:=nY (l.take j) fun x hx=>hnn x (Vt hx);have e1:l[j].attrs=((aN l[j]:Nat):Int):=by have:=hnn _ (UQ hj);unfold aN;omega
  have hlt2:aN l[j]<2 ^ 63:=by have:=hnn _ (UQ hj);unfold aN;omega
  rw[hB,e1,LS _ _ hlt2 hBlt] at h5;have h6:aN l[j] &&& B=0:=by omega
  have h7:(aN l[j] &&& B).testBit q=true:=by
   rw[XA,h4,(hBb q).2 ⟨l[i],WL.2 ⟨i,by omega,rfl⟩,h3⟩];rfl
  rw[h6] at h7;simp at h7
 refine⟨fun x hx=>⟨(hnn x hx).1,?_⟩,hlt,fun i j hi hj q h3 h4=>?_,fun q hq=>?_⟩
 .have:aN x<2 ^ 31:=Nat.lt_pow_two_of_testBit _ fun q hq=>by
   cases hb:(aN x).testBit q with
   | false=>rfl
   | true=>have:=hlt x hx q hb;omega
  have h0:=(hnn x hx).1;unfold aN at this;omega
 .rcases Wp i j with h5|h5|h5
  .exact (hlow i j hi hj q h5 h3 h4).elim
  .exact h5
  .exact (hlow j i hj hi q h5 h4 h3).elim
 .have:A.testBit q=true:=by
   rw[hA2,W7];simpa using hq
  obtain⟨x,hx,hb⟩:=(hAb q).1 this;obtain⟨i,hi,rfl⟩:=U8 hx;exact⟨i,hi,hb⟩
theorem pb{l:List fo}(h:∀i (h:i<l.length),H8 (l.take i) l[i]):∀k,k<=l.length->(j1 l k).length=fq (l.take k)
 | 0,_=>by simp[j1,fq]
 | k+1,hk=>by
  have ih:=pb h k (by omega);have hc:=(h k (by omega)).2.2.2;rw[kj l (by omega),U0 (by omega),tC];by_cases h1:l[k].const = -1
  .rw [UX (by omega),UZ h1];omega
  .rw [UZ (by omega),UX h1,UW,Vs];omega
theorem yq(l:List fo){i:Nat}:∀d,i+d<=l.length->∃t,j1 l (i+d)=j1 l i ++ t
 | 0,_=>⟨[],by simp⟩
 | d+1,hd=>by
  obtain⟨t,ht⟩:=yq l (i:=i) d (by omega);rw[show i+(d+1)=i+d+1 by omega,kj l (by omega)];split
  .exact ⟨t ++ [i+d],by rw[ht,Vw]⟩
  .exact ⟨t,ht⟩
theorem SM{z:Zn}(h:∀i (h:i<z.cls.length),H8 (z.cls.take i) z.cls[i]){i:Nat}(hi:i<z.cls.length)(hc:z.cls[i].const≠ -1):∃j:Nat,z.cls[i].const=(j:Int)/\∃hj:j<(dy z).length,(dy z)[j]=i:=by
 have h1:=((h i hi).2.2.2).resolve_left hc;have h2:=pb h i (by omega);obtain⟨t,ht⟩:=yq z.cls (i:=i+1) (z.cls.length-(i+1)) (by omega);rw[show i+1+(z.cls.length-(i+1))=z.cls.length by omega,kj z.cls hi,UZ (by omega)] at ht;have e:dy z=j1 z.cls i ++ [i] ++ t:=ht;refine⟨(j1 z.cls i).length,by omega,by rw[e];simp,?_⟩;simp[e]
end
end
section
section
def cE(l:List fo)(a:Int):Nat:=l.countP fun x=>aQ x.attrs a
theorem BC(l:List fo)(x:fo)(a:Int):cE (l ++ [x]) a=cE l a+(if aQ x.attrs a=true then 1 else 0):=by
 unfold cE;rw[List.countP_append];cases h:aQ x.attrs a<;>simp[h]
theorem KF(l:List fo)(a:Int):cE l a<=l.length:=List.countP_le_length
theorem Sq(z:Zn)(a:Int)(h1:z.cls.length<=1000000)(hat:∀x∈z.cls,aA x.attrs):am Tryz.prog 164 [.agg (cS z),eI a] (val (.int .i64 (cE z.cls a:Int))):=by
 refine aa ag Tryz.func164 rfl (by decide) Tryz.ntmps164 Tryz.results164 rfl (aD _) ?_
 repeat' first|refine go ?_|decide|refine sp ?_ ?_<;>intro _
 refine af (fun st=>∃(k:Nat)(s:Int),k<=z.cls.length/\s=(cE (z.cls.take k) a:Int)/\st=⟨25,[(1,eI a),(2,.op 0 0 0),(5,eI s),(6,eI (k:Int))],[(0,some (.box 54 (cS z)))],1⟩) (fun st=>z.cls.length-ax st 6) ⟨_,wC,0,0,UR _,rfl,rfl⟩ ?_;rintro _ ⟨k,s,hk,hs,rfl⟩;by_cases hlt:k<z.cls.length
 .have htk:cE (z.cls.take (k+1)) a=cE (z.cls.take k) a+(if aQ z.cls[k].attrs a=true then 1 else 0):=by rw[U0 hlt,BC]
  have hle:=KF (z.cls.take k) a;rw[U2] at hle;have hH:=eQ z.cls[k].attrs a (hat _ (UQ hlt));generalize hc:z.cls[k]=c at *
  cases hb:aQ c.attrs a with
  | true=>
   rw[hb] at hH;rw[hb,UZ rfl] at htk;have ew:IntKind.i64.wrap (s+1)=s+1:=aE (by omega) (by omega)
   repeat' first|refine gq ?_|simp only[ab,hlt,hc,ew]|decide|refine sp ?_ ?_<;>intro _|refine cA hH ?_|fail
   all_goals exact rI (wE ew) ⟨k+1,s+1,by omega,by omega,rfl⟩
  | false=>
   rw[hb] at hH;rw[hb,UX (by simp)] at htk
   repeat' first|refine gq ?_|simp only[ab,hlt,hc]|decide|refine sp ?_ ?_<;>intro _|refine cA hH ?_|fail
   all_goals exact rI wC ⟨k+1,s,by omega,by omega,rfl⟩
 .obtain rfl:k=z.cls.length:=by omega
  rw[U6] at hs;rw[<- hs]
  repeat' first|refine gf @hlt ?_|decide|refine sp ?_ ?_<;>intro _
def PP(l:List fo)(n:Int)(k:Nat):Bool:=(List.range k).all fun a=>decide ((cE l (a:Int):Int)=if (a:Int)<n then 1 else 0)
theorem J1(l:List fo)(n:Int)(k:Nat):PP l n (k+1)=(PP l n k && decide ((cE l (k:Int):Int)=if (k:Int)<n then 1 else 0)):=by
 unfold PP;rw[V5,List.all_append];simp
def qc(l:List fo)(x:fo):Bool:=decide (0<=x.attrs) && decide (x.attrs<2147483648) && (decide (0<x.attrs) || decide (0<=x.const)) && (x.const == -1 || x.const == (fq l:Int))
def Mr(l:List fo)(n:Int)(k:Nat):Bool:=PP l n 31 && (List.range k).all fun i=>qc (l.take i) (l.getD i ⟨0,0⟩)
theorem JM(l:List fo)(n:Int){k:Nat}(hk:k<l.length):Mr l n (k+1)=(Mr l n k && qc (l.take k) l[k]):=by
 unfold Mr;rw[V5,List.all_append,Bool.and_assoc];simp[Os,p0 hk]
theorem GH(z:Zn)(n m:Int)(h1:z.cls.length<=1000000)(hat:∀x∈z.cls,aA x.attrs):am Tryz.prog 127 [.agg (cS z),eI n,eI m] (val (.bool (Mr z.cls n z.cls.length && decide ((fq z.cls:Int)=m)))):=by
  refine aa ag Tryz.func127 rfl (by decide) Tryz.ntmps127 Tryz.results127 rfl (aD _) ?_
  repeat' first|refine go ?_|decide|refine sp ?_ ?_<;>intro _
  refine af (fun st=>∃(k:Nat)(ok:Bool),k<=31/\ok=PP z.cls n k/\st=⟨88,[(1,eI n),(2,eI m),(3,.op 0 0 0),(7,.c (.bool ok)),(8,eI (k:Int))],[(0,some (.box 54 (cS z)))],1⟩) (fun st=>31-ax st 8) ⟨_,wC,0,true,UR _,rfl,rfl⟩ ?_;rintro _ ⟨k,ok,hk,hok,rfl⟩;by_cases hlt:k<31
  . have d0:decide ((k:Int)<31)=true:=Vb (by omega);have hs:=J1 z.cls n k;rw[<- hok] at hs;have hS:=Sq z (k:Int) h1 hat
    generalize (cE z.cls (k:Int):Int)=s at *;by_cases g:(k:Int)<n
    . have d1:decide ((k:Int)<n)=true:=Vb g;rw[UZ g] at hs
      cases ok with
      | false=>
        repeat' first|refine gf (kf d0 d1) ?_|decide|refine sp ?_ ?_<;>intro _
        all_goals exact rI wC ⟨k+1,false,by omega,by rw[hs];rfl,rfl⟩
      | true=>
        have e1:(s == 1)=decide (s=1):=by by_cases h:s=1<;>simp[h]
        repeat' first|refine gf (kf d0 d1) ?_|decide|refine sp ?_ ?_<;>intro _|refine cA hS ?_|fail
        all_goals exact rI wC ⟨k+1,(s == 1),by omega,by rw[hs,e1];rfl,rfl⟩
    . have d1:decide ((k:Int)<n)=false:=U5 g;rw[UX g] at hs
      cases ok with
      | false=>
        repeat' first|refine gf (kf d0 d1) ?_|decide|refine sp ?_ ?_<;>intro _
        all_goals exact rI wC ⟨k+1,false,by omega,by rw[hs];rfl,rfl⟩
      | true=>
        have e1:(s == 0)=decide (s=0):=by by_cases h:s=0<;>simp[h]
        repeat' first|refine gf (kf d0 d1) ?_|decide|refine sp ?_ ?_<;>intro _|refine cA hS ?_|fail
        all_goals exact rI wC ⟨k+1,(s == 0),by omega,by rw[hs,e1];rfl,rfl⟩
  obtain rfl:k=31:=by omega
  have d0:decide (((31:Nat):Int)<31)=false:=rfl
  repeat' first|refine gf d0 ?_|decide|refine sp ?_ ?_<;>intro _
  clear hk;refine af (fun st=>∃(i:Nat)(o:Bool)(x:Int),i<=z.cls.length/\o=Mr z.cls n i/\x=(fq (z.cls.take i):Int)/\st=⟨88,[(1,eI n),(2,eI m),(3,.op 0 0 0),(7,.c (.bool o)),(9,eI x),(10,eI (i:Int))],[(0,some (.box 54 (cS z)))],1⟩) (fun st=>z.cls.length-ax st 10) ⟨_,wC,0,ok,0,UR _,by rw[hok];simp[Mr],rfl,rfl⟩ ?_;rintro _ ⟨i,o,x,hi,ho,hx,rfl⟩;by_cases hlt:i<z.cls.length
  . have hnx:(fq (z.cls.take (i+1)):Int)=x+(if z.cls[i].const = -1 then 0 else 1):=by rw[U0 hlt,tC,hx];split<;>simp
    have hnl:x<=1000000:=by have:=LU (z.cls.take i);rw[U2] at this;omega
    have hs:=JM z.cls n hlt;rw[<- ho] at hs;unfold qc at hs;rw[<- hx] at hs;have hx0:0<=x:=(by omega);clear hx ho;generalize hc:z.cls[i]=c at *;obtain⟨g1,d1⟩:∃b,decide (0<=c.attrs)=b:=⟨_,rfl⟩;obtain⟨g2,d2⟩:∃b,decide (c.attrs<2147483648)=b:=⟨_,rfl⟩;obtain⟨g3,d3⟩:∃b,decide (0<c.attrs)=b:=⟨_,rfl⟩;obtain⟨g4,d4⟩:∃b,decide (0<=c.const)=b:=⟨_,rfl⟩;obtain⟨g5,d5⟩:∃b,(c.const == -1)=b:=⟨_,rfl⟩;obtain⟨g6,d6⟩:∃b,(c.const == x)=b:=⟨_,rfl⟩;have d7:(c.const != -1) = !g5:=by rw[<- d5];rfl
    have ew:IntKind.i64.wrap (x+1)=x+1:=aE (by omega) (by omega);rw[d1,d2,d3,d4,d5,d6] at hs
    have hnx2:(fq (z.cls.take (i+1)):Int)=if g5=true then x else x+1:=by
      rw[hnx,<- d5];by_cases h:c.const = -1<;>simp[h]
    clear hnx;cases o<;>cases g5
    . (repeat' (first|refine gq ?_|simp only[ab,hlt,hc,d7,WF,XC,ew]|decide|refine sp ?_ ?_<;>intro _))
      all_goals exact rI (wE ew) ⟨i+1,false,x+1,by omega,by rw[hs];rfl,by rw[hnx2];rfl,rfl⟩
    . (repeat' (first|refine gq ?_|simp only[ab,hlt,hc,d7,WF,XC,ew]|decide|refine sp ?_ ?_<;>intro _))
      all_goals exact rI (wE ew) ⟨i+1,false,x,by omega,by rw[hs];rfl,by rw[hnx2];rfl,rfl⟩
    . cases g1<;>cases g2<;>cases g3<;>cases g4<;>cases g6 <;>
      ((repeat' (first|refine gq ?_|simp only[ab,hlt,hc,d1,d2,d3,d4,d5,d6,d7,WF,XC,ew]|decide|refine sp ?_ ?_<;>intro _))
       all_goals first|exact rI (wE ew) ⟨i+1,true,x+1,by omega,by rw[hs];rfl,by rw[hnx2];rfl,rfl⟩|exact rI (wE ew) ⟨i+1,false,x+1,by omega,by rw[hs];rfl,by rw[hnx2];rfl,rfl⟩)
    . cases g1<;>cases g2<;>cases g3<;>cases g4 <;>
      ((repeat' (first|refine gq ?_|simp only[ab,hlt,hc,d1,d2,d3,d4,d5,d7,WF,XC,ew]|decide|refine sp ?_ ?_<;>intro _))
       all_goals first|exact rI (wE ew) ⟨i+1,true,x,by omega,by rw[hs];rfl,by rw[hnx2];rfl,rfl⟩|exact rI (wE ew) ⟨i+1,false,x,by omega,by rw[hs];rfl,by rw[hnx2];rfl,rfl⟩)
  . obtain rfl:i=z.cls.length:=by omega
    rw[U6] at hx;have e1:decide ((fq z.cls:Int)=m)=(x == m):=by rw[hx];by_cases h:(fq z.cls:Int)=m<;>simp[h]
    rw[e1,<- ho]
    cases o with
    | false=>
      repeat' first|refine gf @hlt ?_|decide|refine sp ?_ ?_<;>intro _
      all_goals simp
    | true=>
      repeat' first|refine gf @hlt ?_|decide|refine sp ?_ ?_<;>intro _
      all_goals simp
end
section
theorem i7{x:fo}(h:0<=x.attrs/\x.attrs<2147483648){a:Nat}(ha:a<31):aQ x.attrs (a:Int)=(aN x).testBit a:=by
 rw[cR _ _ ha]
 congr 1
 unfold jA aN;omega
theorem J9{l:List fo}{a:Int}{i j:Nat}(hij:i<j)(hj:j<l.length)(h1:aQ (l[i]'(by omega)).attrs a=true)(h2:aQ l[j].attrs a=true):2<=cE l a:=by
 have e:cE l a=cE (l.take j) a+cE (l.drop j) a:=by
  unfold cE;rw[<- List.countP_append,Xd]
 have p1:0<cE (l.take j) a:=Xp.2 ⟨l[i],WL.2 ⟨i,by omega,rfl⟩,h1⟩;have p2:0<cE (l.drop j) a:=Xp.2 ⟨l[j],by rw[Xe hj];exact Vr ..,h2⟩;omega
theorem qM{a:Int}:∀l:List fo,(∀i j (hi:i<l.length) (hj:j<l.length),aQ l[i].attrs a=true->aQ l[j].attrs a=true->i=j)->cE l a<=1
 | [],_=>by simp[cE]
 | x :: l,h=>by
  have ih:=qM l fun i j hi hj h1 h2=>by
   have:=h (i+1) (j+1) (by simpa using hi) (by simpa using hj) (by simpa using h1) (by simpa using h2);omega
  by_cases hx:aQ x.attrs a=true
  .have hz:cE l a=0:=List.countP_eq_zero.2 fun y hy hb=>by
    obtain⟨j,hj,rfl⟩:=U8 hy;have:=h 0 (j+1) (by simp) (by simpa using hj) (by simpa using hx) (by simpa using hb);omega
   unfold cE at *;rw[List.countP_cons,hz,UZ hx];exact UU _
  .unfold cE at *;rw[List.countP_cons,UX hx];exact ih
theorem D7(l:List fo)(n:Int)(k:Nat):PP l n k=true↔ ∀a:Nat,a<k->(cE l (a:Int):Int)=if (a:Int)<n then 1 else 0:=by
 unfold PP;rw[List.all_eq_true];simp only[Wu,U7]
theorem nG(l:List fo)(x:fo):qc l x=true↔(0<=x.attrs/\x.attrs<2147483648)/\(0<x.attrs\/0<=x.const)/\(x.const = -1\/x.const=(fq l:Int)):=by
 unfold qc;simp only[U1,Wb,U7,Wz];constructor
 .rintro ⟨⟨⟨h1,h2⟩,h3⟩,h4⟩;exact⟨⟨h1,h2⟩,h3,h4⟩
 .rintro ⟨⟨h1,h2⟩,h3,h4⟩;exact⟨⟨⟨h1,h2⟩,h3⟩,h4⟩
theorem DI(l:List fo)(n:Int):Mr l n l.length=true↔PP l n 31=true/\∀i (h:i<l.length),qc (l.take i) l[i]=true:=by
 unfold Mr;rw[U1,List.all_eq_true];constructor
 .rintro ⟨h1,h2⟩;refine⟨h1,fun i h=>?_⟩;have:=h2 i (Wu.2 h)
  rwa [Os,p0 h] at this
 .rintro ⟨h1,h2⟩;refine⟨h1,fun i h=>?_⟩;have:=h2 i (Wu.1 h)
  rwa [Os,p0 (Wu.1 h)]
theorem rF(l:List fo)(n:Nat)(m:Int)(hn:n<=31)(hat:∀x∈l,x.attrs<9223372036854775808):(Mr l (n:Int) l.length && decide ((fq l:Int)=m))=true↔oZ l (n:Int) m:=by
 rw[U1,U7,DI,D7];constructor
 .rintro ⟨⟨hA,hC⟩,hm⟩;have hc:=fun i h=>(nG _ _).1 (hC i h)
  have hnn:∀x∈l,0<=x.attrs/\x.attrs<2147483648:=fun x hx=>by
   obtain⟨i,hi,rfl⟩:=U8 hx;exact(hc i hi).1
  have hb31:∀x∈l,∀q,(aN x).testBit q=true->q<31:=fun x hx q hq=>by
   rcases U9 q 31 with h|h
   .exact h
   .have h2:aN x<2 ^ q:=UY (show aN x<2 ^ 31 by have:=hnn x hx;unfold aN;omega) (Vp (by omega) h);rw[V6 h2] at hq;cases hq
  have hdis:∀i j (hi:i<l.length) (hj:j<l.length) (q:Nat),i<j->(aN l[i]).testBit q=true->(aN l[j]).testBit q=true->False:=fun i j hi hj q hij h1 h2=>by
   have hq:=hb31 _ (UQ hi) q h1;rw[<- i7 (hnn _ (UQ hi)) hq] at h1;rw[<- i7 (hnn _ (UQ hj)) hq] at h2;have:=J9 hij hj h1 h2;have h5:=hA q hq;split at h5<;>omega
  refine⟨fun i h=>⟨(hc i h).1.1,?_,?_,(hc i h).2.2⟩,?_,hm⟩
  .obtain ⟨B,hB,hBlt,hBb⟩:=nY (l.take i) fun x hx=>by have:=hnn x (Vt hx);omega
   have h0:=(hc i h).1;have e1:l[i].attrs=((aN l[i]:Nat):Int):=by unfold aN;omega
   rw[hB,e1,LS _ _ (by unfold aN;omega) hBlt]
   have:aN l[i] &&& B=0:=Wt fun q=>by
    rw[Nat.zero_testBit,XA]
    cases h1:(aN l[i]).testBit q with
    | false=>rfl
    | true=>
     cases h2:B.testBit q with
     | false=>rfl
     | true=>
      obtain⟨x,hx,hb⟩:=(hBb q).1 h2;obtain⟨j,hj,rfl⟩:=WL.1 hx;exact(hdis j i (by omega) h q (by omega) hb h1).elim
   rw[this];rfl
  .rintro ⟨h1,h2⟩;have:=(hc i h).2.1;omega
  .obtain ⟨A,hA1,hA2,hA3⟩:=nY l fun x hx=>by have:=hnn x hx;omega
   have e:(max 0 (min (n:Int) 31)).toNat=n:=(by omega);have h3:1<=2 ^ n:=WR;have h4:((2 ^ n-1:Nat):Int)=(2:Int) ^ n-1:=by rw[Int.natCast_sub h3];simp
   rw[hA1];unfold jz;rw[e,<- h4]
   congr 1
   refine Wt fun q=>?_;rw[W7];rw[Wl,hA3,U7];constructor
   .rintro ⟨x,hx,hb⟩;have hq:=hb31 x hx q hb;rw[<- i7 (hnn x hx) hq] at hb;have h5:=hA q hq;have h6:0<cE l (q:Int):=Xp.2 ⟨x,hx,hb⟩;split at h5<;>omega
   .intro hq;have h5:=hA q (by omega);rw[UZ (by omega)] at h5;obtain⟨x,hx,hb⟩:=Xp.1 (show 0<cE l (q:Int) by omega);rw[i7 (hnn x hx) (by omega)] at hb;exact⟨x,hx,hb⟩
 .intro h;have hB:=TP hn h hat
  refine⟨⟨fun a ha=>?_,fun i hi=>(nG _ _).2 ⟨hB.nn _ (UQ hi),?_,(h.1 i hi).2.2.2⟩⟩,h.2.2⟩
  .have hle:=qM (a:=(a:Int)) l fun i j hi hj h1 h2=>by
    rw[i7 (hB.nn _ (UQ hi)) ha] at h1;rw[i7 (hB.nn _ (UQ hj)) ha] at h2;exact hB.dis i j hi hj a h1 h2
   split
   .obtain ⟨i,hi,hb⟩:=hB.all a (by omega);rw[<- i7 (hB.nn _ (UQ hi)) ha] at hb;have h6:0<cE l (a:Int):=Xp.2 ⟨_,UQ hi,hb⟩;omega
   .have:cE l (a:Int)=0:=List.countP_eq_zero.2 fun x hx hb=>by
     rw[i7 (hB.nn x hx) ha] at hb;have:=hB.lt x hx a hb;omega
    omega
  .have h1:=(h.1 i hi).2.2;have h2:=(h.1 i hi).1;rcases h1.2 with h3|h3
   .have:¬l[i].attrs=0:=fun h4=>h1.1 ⟨h4,h3⟩;omega
   .omega
end
section
theorem Q6(z:Zn)(p q:Nat)(cap a b:Int)(hpq:p<q)(hq:q<=z.gaps.length)(h2:z.gaps.length<=40)(hg:∀i (h:i<z.gaps.length),0<=z.gaps[i]/\z.gaps[i]<=cap)(hcap:0<=cap/\cap<=1048576)(ha:aA a)(hb:aA b) :
  dp Tryz.prog 128 [.agg (cS z),eI (p:Int),eI (q:Int),eI cap,eI a,eI b] fun R=>∃t,R=val (.bool t)/\(t=true↔na z p q cap a b):=by
 refine bj ag Tryz.func128 rfl (by decide) Tryz.ntmps128 Tryz.results128 rfl ?_;unfold na
 have hsb:∀k,p<=k->k<=q->0<=(cB z p k).sum/\(cB z p k).sum<=42000000:=fun k h1 h2k=>by
  have h:=Im cap hcap.1 (cB z p k) fun g hgm=>by
   obtain⟨i,hi,rfl⟩:=U8 (Vt (Wa hgm));exact hg i hi
  have h5:((cB z p k).length:Int)<=40:=by unfold cB;rw[VO,U2];omega
  have h6:cap * ((cB z p k).length:Int)<=1048576 * 40:=Int.mul_le_mul hcap.2 h5 (by omega) (by omega);omega
 have e1:IntKind.i64.wrap ((q:Int)-(p:Int))=(q:Int)-p:=aE (by omega) (by omega);obtain⟨B,hB⟩:∃B,(q:Int)-p-1=B:=⟨_,rfl⟩;have e2:IntKind.i64.wrap ((q:Int)-(p:Int)-1)=B:=by rw[hB];exact aE (by omega) (by omega)
 rw[hB];have hB1:0<=B/\B<=40:=by omega
 repeat' first|refine ge (kf e1 e2) ?_|decide|refine sp ?_ ?_<;>intro _
 refine af (fun st=>∃(k:Nat)(s:Int)(w:Bool),p<=k/\k<=q/\s=B+(cB z p k).sum/\(w=true↔ ∃g∈cB z p k,g=cap)/\st=⟨60,[(2,eI (q:Int)),(3,eI cap),(4,eI a),(5,eI b),(6,.op 0 0 0),(13,eI s),(14,.c (.bool w)),(15,eI (k:Int))],[(0,some (.box 54 (cS z)))],1⟩) (fun st=>q-ax st 15) ⟨_,(wE (kf e1 e2)),p,B,false,UU _,by omega,by rw[me];simp,by rw[me];simp,rfl⟩ ?_;rintro _ ⟨k,s,w,hpk,hk,hs,hw,rfl⟩;by_cases hlt:k<q
 .have hkg:k<z.gaps.length:=by omega
  have htk:cB z p (k+1)=cB z p k ++ [z.gaps[k]]:=qt z (p0 hkg) hpk;have h5:=hsb k hpk (by omega);have h6:=hsb (k+1) (by omega) (by omega);rw[htk,List.sum_append,List.sum_singleton] at h6;have d0:decide ((k:Int)<(q:Int))=true:=Vb (by omega);have es:IntKind.i64.wrap (s+z.gaps[k])=s+z.gaps[k]:=aE (by omega) (by omega);have hs2:s+z.gaps[k]=B+(cB z p (k+1)).sum:=by rw[htk,List.sum_append,List.sum_singleton];omega
  have hw2:(w || z.gaps[k] == cap)=true↔ ∃g∈cB z p (k+1),g=cap:=by
   rw[htk,Wb,hw];simp only[U4,Ve,Wz];constructor
   .rintro (⟨g,h1,h2⟩|h)
    .exact ⟨g,.inl h1,h2⟩
    .exact ⟨_,.inr rfl,h⟩
   .rintro ⟨g,h1|rfl,h2⟩
    .exact .inl ⟨g,h1,h2⟩
    .exact .inr h2
  clear hw hs hsb htk hg;generalize hgk:z.gaps[k]=g at *
  cases w with
  | true=>
   repeat' first|refine gq ?_|simp only[ab,hkg,hgk,hlt,es]|decide|refine sp ?_ ?_<;>intro _
   all_goals exact rI (wE es) ⟨k+1,s+g,true,by omega,by omega,hs2,by simpa using hw2,rfl⟩
  | false=>
   by_cases hgc:g=cap
   .have d1:(g == cap)=true:=by simpa using hgc
    repeat' first|refine gq ?_|simp only[ab,hkg,hgk,hlt,es,d1]|decide|refine sp ?_ ?_<;>intro _
    all_goals exact rI (wE (kf es d1)) ⟨k+1,s+g,true,by omega,by omega,hs2,by rw[<- hw2,d1];rfl,rfl⟩
   .have d1:(g == cap)=false:=by simpa using hgc
    repeat' first|refine gq ?_|simp only[ab,hkg,hgk,hlt,es,d1]|decide|refine sp ?_ ?_<;>intro _
    all_goals exact rI (wE (kf es d1)) ⟨k+1,s+g,false,by omega,by omega,hs2,by rw[<- hw2,d1];rfl,rfl⟩
 .obtain rfl:k=q:=by omega
  have d0:decide ((k:Int)<(k:Int))=false:=by simp
  have h5:=hsb k hpk (UU _);have es:IntKind.i64.wrap (s+1)=s+1:=aE (by omega) (by omega);have hG:=PA a b (s+1) ha hb (by omega);rw[<- hs];by_cases g1:cC a b (s+1)=s
  .have d1:(cC a b (s+1) == s)=true:=by simpa using g1
   repeat' first|refine gf (kf @hlt (kf es d1)) ?_|decide|refine sp ?_ ?_<;>intro _|refine cA hG ?_|fail
   all_goals exact cK ⟨true,rfl,by simp[g1]⟩
  .have d1:(cC a b (s+1) == s)=false:=by simpa using g1
   cases w with
   | true=>
    repeat' first|refine gf (kf @hlt (kf es d1)) ?_|decide|refine sp ?_ ?_<;>intro _|refine cA hG ?_|fail
    all_goals exact cK ⟨_,rfl,by simp at hw;simp[g1,hw]⟩
   | false=>
    repeat' first|refine gf (kf @hlt (kf es d1)) ?_|decide|refine sp ?_ ?_<;>intro _|refine cA hG ?_|fail
    all_goals exact cK ⟨_,rfl,by simp at hw;simp[g1,hw]⟩
theorem FR(z:Zn)(n:Int)(c:List Int)(r:Int)(h1:z.cls.length<=40)(h2:z.gaps.length<=40)(h3:c.length<=100000)(hc:∀x∈c,aA x)(hr:aY r<=1048576)(hat:∀x∈z.cls,aA x.attrs):dp Tryz.prog 89 [.agg (cS z),eI n,sI c,eI r] fun R=>∃b,R=val (.bool b)/\(b=true↔wd z n c r):=by
 refine bj ag Tryz.func89 rfl (by decide) Tryz.ntmps89 Tryz.results89 rfl ?_;have hS:=fZ c (by omega);have hCap:=uW r;have hcap0:=CG r;have hsl:=fh c;have hso:∀x∈aR c,aA x:=fun x hx=>hc x (((bm c).2 x).1 hx);unfold wd;generalize aR c=sc at *;generalize aY r=cap at *;by_cases g1:0<=n
 .have d1:decide (n<0)=false:=by simpa using g1
  by_cases g2:n<=31
  .have d2:decide (31<n)=false:=(by simpa using g2);obtain⟨m,rfl⟩:∃m:Nat,n=(m:Int):=⟨n.toNat,by omega⟩;have hC:=GH z (m:Int) (sc.length:Int) (by omega) hat
   have hfd:=rF z.cls m (sc.length:Int) (by omega) fun x hx=>by have:=hat x hx;unfold aA at this;omega
   generalize (Mr z.cls (m:Int) z.cls.length && decide ((fq z.cls:Int)=(sc.length:Int)))=t1 at *;rw[<- hfd]
   cases t1 with
   | false=>
    repeat' first|refine gf (kf d1 d2) ?_|decide|refine sp ?_ ?_<;>intro _|refine cA hS ?_|refine cA hC ?_|fail
    all_goals exact cK ⟨false,rfl,by simp⟩
   | true=>
    have hF:=hfd.1 rfl;have e1:IntKind.i64.wrap ((z.cls.length:Int)-1)=(z.cls.length:Int)-1:=aE (by omega) (by omega);by_cases g3:(z.gaps.length:Int)=max ((z.cls.length:Int)-1) 0
    .have d3:((z.gaps.length:Int) != max ((z.cls.length:Int)-1) 0)=false:=by simp[g3]
     repeat' first|refine gf (kf d1 (kf d2 (kf d3 e1))) ?_|decide|refine sp ?_ ?_<;>intro _|refine cA hS ?_|refine cA hC ?_|fail
     refine af (fun st=>∃i:Nat,i<=z.gaps.length/\(∀j (h:j<z.gaps.length),j<i->0<=z.gaps[j]/\z.gaps[j]<=cap)/\st=⟨100,[(3,eI r),(4,.op 0 0 0),(9,sI sc),(10,eI (-1)),(11,eI (i:Int))],[(0,some (.box 54 (cS z)))],1⟩) (fun st=>z.gaps.length-ax st 11) ⟨_,wC,0,UR _,fun j _ h=>by omega,rfl⟩ ?_;rintro _ ⟨i,hi,hok,rfl⟩;by_cases hlt:i<z.gaps.length
     .have hno:¬(0<=z.gaps[i]/\z.gaps[i]<=cap)->¬xi z cap:=fun h h2=>h (h2.2 i hlt)
      have hok2:(0<=z.gaps[i]/\z.gaps[i]<=cap)->∀j (h:j<z.gaps.length),j<i+1->0<=z.gaps[j]/\z.gaps[j]<=cap:=fun h j hj hji=>by
       rcases U9 j i with h2|h2
       .exact hok j hj h2
       .obtain rfl:j=i:=by omega
        exact h
      generalize hg:z.gaps[i]=g at *;by_cases g4:g<0
      .have d4:decide (g<0)=true:=by simpa using g4
       repeat' first|refine gq ?_|simp only[ab,hlt,hg,d4]|decide|refine sp ?_ ?_<;>intro _|refine cA hCap ?_|fail
       all_goals exact cK ⟨false,rfl,by simp;exact fun _ h=>(hno (by omega) h).elim⟩
      .have d4:decide (g<0)=false:=(by simpa using g4);by_cases g5:cap<g
       .have d5:decide (cap<g)=true:=by simpa using g5
        repeat' first|refine gq ?_|simp only[ab,hlt,hg,d4,d5]|decide|refine sp ?_ ?_<;>intro _|refine cA hCap ?_|fail
        all_goals exact cK ⟨false,rfl,by simp;exact fun _ h=>(hno (by omega) h).elim⟩
       .have d5:decide (cap<g)=false:=by simpa using g5
        repeat' first|refine gq ?_|simp only[ab,hlt,hg,d4,d5]|decide|refine sp ?_ ?_<;>intro _|refine cA hCap ?_|fail
        all_goals exact rI wC ⟨i+1,by omega,hok2 ⟨by omega,by omega⟩,rfl⟩
     obtain rfl:i=z.gaps.length:=by omega
     have hG:xi z cap:=⟨g3,fun j hj=>hok j hj hj⟩
     repeat' first|refine gf @hlt ?_|decide|refine sp ?_ ?_<;>intro _
     clear hok hi
     have hFl:(dy z).length=sc.length:=by
      have e1:=pb hF.1 z.cls.length (UU _);rw[U6] at e1;have e2:=hF.2.2;unfold dy;omega
     have hlt2:∀i∈dy z,i<z.cls.length:=fun i hi=>y9 _ _ hi;have hgl:=hG.1
     have hRoom:∀i,i+1<(dy z).length->∃t:Bool,(t=true↔na z ((dy z).getD i 0) ((dy z).getD (i+1) 0) cap (sc.getD i 0) (sc.getD (i+1) 0))/\am Tryz.prog 128 [.agg (cS z),eI (((dy z).getD i 0:Nat):Int),eI (((dy z).getD (i+1) 0:Nat):Int),eI cap,eI (sc.getD i 0),eI (sc.getD (i+1) 0)] (val (.bool t)):=fun i hi=>by
      have e1:(dy z).getD i 0=(dy z)[i]:=by rw[Os,p0 (by omega)];rfl
      have e2:(dy z).getD (i+1) 0=(dy z)[i+1]:=by rw[Os,p0 (by omega)];rfl
      have e3:sc.getD i 0=sc[i]:=by rw[Os,p0 (by omega)];rfl
      have e4:sc.getD (i+1) 0=sc[i+1]:=by rw[Os,p0 (by omega)];rfl
      have h5:=Vo.1 (DR z.cls z.cls.length) i (i+1) (by unfold dy at hi;omega) (by unfold dy at hi;omega) (by omega);have h6:=hlt2 _ (UQ hi);exact lY (Q6 z _ _ cap _ _ (by rw[e1,e2];exact h5) (by rw[e2];omega) h2 hG.2 ⟨hcap0,hr⟩ (by rw[e3];exact hso _ (UQ _)) (by rw[e4];exact hso _ (UQ _)))
     refine af (fun st=>∃(i m:Nat)(w:Int),i<=z.cls.length/\m=(j1 z.cls i).length/\((m=0/\w = -1)\/(0<m/\w=(((dy z).getD (m-1) 0:Nat):Int)))/\(∀j,j+1<m->na z ((dy z).getD j 0) ((dy z).getD (j+1) 0) cap (sc.getD j 0) (sc.getD (j+1) 0))/\st=⟨100,[(3,eI r),(4,.op 0 0 0),(9,sI sc),(10,eI w),(12,eI (i:Int))],[(0,some (.box 54 (cS z)))],1⟩) (fun st=>z.cls.length-ax st 12) ⟨_,wC,0,0,-1,UR _,rfl,.inl ⟨rfl,rfl⟩,fun j h=>by omega,rfl⟩ ?_;rintro _ ⟨i,m',w,hi,hm,hw,hok,rfl⟩;by_cases hlt:i<z.cls.length
     .have hsn:=kj z.cls hlt;have hn1:=pb hF.1 i (by omega);have hfa:=SM hF.1 hlt;have hco:=(hF.1 i hlt).2.2.2;generalize hcc:z.cls[i]=c at *;by_cases g4:c.const = -1
      .have d4:decide (c.const<0)=true:=by rw[g4];rfl
       rw[UX (by omega)] at hsn
       repeat' first|refine gq ?_|simp only[ab,hlt,hcc,d4]|decide|refine sp ?_ ?_<;>intro _
       all_goals exact rI wC ⟨i+1,m',w,by omega,by rw[hsn];exact hm,hw,hok,rfl⟩
      .have hco2:=hco.resolve_left g4;obtain⟨j,hj1,hj2,hj3⟩:=hfa g4;obtain rfl:m'=j:=by omega
       have d4:decide (c.const<0)=false:=by rw[hj1];simp
       rw[UZ (by omega)] at hsn;have hm2:m'+1=(j1 z.cls (i+1)).length:=by rw[hsn,UW,<- hm];rfl
       have hwi:((0=m'+1/\(i:Int) = -1)\/(0<m'+1/\(i:Int)=(((dy z).getD (m'+1-1) 0:Nat):Int))):=.inr ⟨by omega,by rw[Wm,Os,p0 hj2,Vi,hj3]⟩;rcases hw with ⟨hm0,hw0⟩|⟨hm0,hw0⟩
       .subst hw0
        repeat' first|refine gq ?_|simp only[ab,hlt,hcc,d4,Int.reduceLE,Int.reduceLT,Int.reduceNeg]|decide|refine sp ?_ ?_<;>intro _|refine cA hCap ?_|fail
        all_goals exact rI wC ⟨i+1,m'+1,i,by omega,hm2,by omega,fun j h=>by omega,rfl⟩
       .obtain ⟨k,rfl⟩:∃k,m'=k+1:=⟨m' - 1,by omega⟩;obtain⟨t,ht,hR⟩:=hRoom k hj2;have hi2:(dy z).getD (k+1) 0=i:=(by rw[Os,p0 hj2,Vi,hj3]);have hs0:k<sc.length:=(by omega);have hs1:k+1<sc.length:=(by omega);have e3:sc.getD k 0=sc[k]:=by rw[Os,p0 hs0];rfl
        have e4:sc.getD (k+1) 0=sc[k+1]:=by rw[Os,p0 hs1];rfl
        rw[Wm] at hw0
        have hok2:na z ((dy z).getD k 0) ((dy z).getD (k+1) 0) cap (sc.getD k 0) (sc.getD (k+1) 0)->∀i,i+1<k+1+1->na z ((dy z).getD i 0) ((dy z).getD (i+1) 0) cap (sc.getD i 0) (sc.getD (i+1) 0):=fun h i h1=>by
         rcases U9 i k with h3|h3
         .exact hok i (by omega)
         .obtain rfl:i=k:=by omega
          exact h
        have hno:¬na z ((dy z).getD k 0) ((dy z).getD (k+1) 0) cap (sc.getD k 0) (sc.getD (k+1) 0)->¬ ∀i,i+1<(dy z).length->na z ((dy z).getD i 0) ((dy z).getD (i+1) 0) cap (sc.getD i 0) (sc.getD (i+1) 0):=fun h h2=>h (h2 k hj2);rw[<- ht] at hok2 hno;rw[<- hw0,hi2,e3,e4] at hR;have f1:sc[k]? = some sc[k]:=p0 hs0;have f2:sc[k+1]? = some sc[k+1]:=p0 hs1;have hw1:0<=w:=(by omega);have d5:decide (0<=w)=true:=Vb hw1;have d4b:decide (((k+1:Nat):Int)<0)=false:=by simp only[Vf];omega
        have e5:IntKind.i64.wrap (((k+1:Nat):Int)-1)=(k:Int):=by rw[aE (by omega) (by omega)];omega
        clear hRoom ht hok hco hfa e3 e4;obtain⟨x3,hx3⟩:∃x,sc[k]=x:=⟨_,rfl⟩;obtain⟨x4,hx4⟩:∃x,sc[k+1]=x:=⟨_,rfl⟩;rw[hx3,hx4] at hR
        cases t with
        | true=>
         repeat' first|refine gq ?_|simp only[ab,hlt,hcc,d4b,d5,hj1,hs0,hs1,hx3,hx4,e5]|decide|refine sp ?_ ?_<;>intro _|refine cA hCap ?_|refine cA hR ?_|fail
         all_goals exact rI wC ⟨i+1,k+1+1,i,by omega,hm2,by omega,hok2 rfl,rfl⟩
        | false=>
         repeat' first|refine gq ?_|simp only[ab,hlt,hcc,d4b,d5,hj1,hs0,hs1,hx3,hx4,e5]|decide|refine sp ?_ ?_<;>intro _|refine cA hCap ?_|refine cA hR ?_|fail
         all_goals exact cK ⟨false,rfl,⟨fun h=>(by cases h),fun h=>absurd h.2 (hno (by simp))⟩⟩
     .obtain rfl:i=z.cls.length:=by omega
      repeat' first|refine gf @hlt ?_|decide|refine sp ?_ ?_<;>intro _
      all_goals exact cK ⟨true,rfl,by simp;exact⟨⟨by omega,hG⟩,fun i h=>hok i (by rw[hm];exact h)⟩⟩
    .have d3:((z.gaps.length:Int) != max ((z.cls.length:Int)-1) 0)=true:=by simpa using g3
     repeat' first|refine gf (kf d1 (kf d2 (kf d3 e1))) ?_|decide|refine sp ?_ ?_<;>intro _|refine cA hS ?_|refine cA hC ?_|fail
     all_goals exact cK ⟨false,rfl,by simp;exact fun _ h=>(g3 h.1).elim⟩
  .have d2:decide (31<n)=true:=by simpa using g2
   repeat' first|refine gf (kf d1 d2) ?_|decide|refine sp ?_ ?_<;>intro _|refine cA hS ?_|fail
   all_goals exact cK ⟨false,rfl,by simp;omega⟩
 .have d1:decide (n<0)=true:=by simpa using g1
  repeat' first|refine gf d1 ?_|decide|refine sp ?_ ?_<;>intro _|refine cA hS ?_|fail
  all_goals exact cK ⟨false,rfl,by simp;omega⟩
end
section
end
section
def ce(l:List aw):List Int:=aR (bN l)
def ba(m:aJ)(p:List aw):List Int:=aR ((ce p ++ m.guards.flatMap fun g=>ce g.cond) ++ m.miles.flatMap fun g=>ce g.cond)
theorem kq(l:List aw):(ce l).length<=2 * l.length:=by
 have h1:=fh (bN l);have h2:=jq l;unfold ce;omega
theorem pq{α:Type}(f:α -> List Int)(g:α -> Nat)(h:∀x,(f x).length<=2 * g x):∀l:List α,(l.flatMap f).length<=2 * (l.map g).sum
 | []=>by simp
 | x :: l=>by
  have h1:=h x;have h2:=pq f g h l;simp only[V4,UW,VE,List.sum_cons];omega
theorem uJ{α:Type}(f:α -> List Int)(l:List α)(k:Nat):((l.take k).flatMap f).length<=(l.flatMap f).length:=by
 conv=>rhs;rw[<- Xd k l,Wj,UW]
 omega
theorem zZ{α:Type}(g:α -> Nat){l:List α}{x:α}(h:x∈l):g x<=(l.map g).sum:=by
 induction l with
 | nil=>cases h
 | cons y l ih=>
  simp only[VE,List.sum_cons]
  cases VL.1 h with
  | inl e=>subst e;omega
  | inr e=>have:=ih e;omega
theorem ji{α:Type}(f:α -> List Int)(l:List α){k:Nat}(h:k<l.length):(l.take (k+1)).flatMap f=(l.take k).flatMap f ++ f l[k]:=by
 rw[U0 h,Wj];simp
theorem Hd(m:aJ)(p:List aw)(hg:m.guards.length<=11000000)(hm:m.miles.length<=11000000)(hT:p.length+(m.guards.map fun g=>g.cond.length).sum+(m.miles.map fun g=>g.cond.length).sum<=1100000):am Tryz.prog 7 [.agg (aC m),bf p] ⟨sI (ba m p),[],0⟩:=by
 have hok:(⟨sI (ba m p),[],0⟩:cu).Ok:=⟨fun id o h=>(by cases h),by simp[AV.lt]⟩;refine aa ag Tryz.func7 rfl (by decide) Tryz.ntmps7 Tryz.results7 rfl (hok) ?_;have hgc:∀g∈m.guards,g.cond.length<=1100000:=fun g hg=>by have:=zZ (fun g:Gd=>g.cond.length) hg;omega
 have hmc:∀g∈m.miles,g.cond.length<=1100000:=fun g hg=>by have:=zZ (fun g:Ml=>g.cond.length) hg;omega
 have hN:am Tryz.prog 20 [bf p] ⟨sI (ce p),[],0⟩:=lP p (by omega);have hpl:=kq p;obtain⟨f,hf⟩:∃f,f=fun g:Gd=>ce g.cond:=⟨_,rfl⟩;obtain⟨g2,hg2⟩:∃f,f=fun g:Ml=>ce g.cond:=⟨_,rfl⟩
 have hfl:∀k,((m.guards.take k).flatMap f).length<=2 * (m.guards.map fun g=>g.cond.length).sum:=fun k=>by
  rw[hf];exact Vj (uJ _ _ k) (pq (fun g:Gd=>ce g.cond) (fun g=>g.cond.length) (fun x=>kq x.cond) m.guards)
 have hgl:∀k,((m.miles.take k).flatMap g2).length<=2 * (m.miles.map fun g=>g.cond.length).sum:=fun k=>by
  rw[hg2];exact Vj (uJ _ _ k) (pq (fun g:Ml=>ce g.cond) (fun g=>g.cond.length) (fun x=>kq x.cond) m.miles)
 have hC:ba m p=aR ((ce p ++ m.guards.flatMap f) ++ m.miles.flatMap g2):=by rw[hf,hg2];rfl
 rw[hC]
 have hlt1:(ce p ++ m.guards.flatMap f).length<=2200000:=by
  have:=hfl m.guards.length;rw[U6] at this;rw[UW];omega
 have hlt2:((ce p ++ m.guards.flatMap f) ++ m.miles.flatMap g2).length<=4400000:=by
  have:=hgl m.miles.length;rw[U6] at this;rw[UW];omega
 have hS:=fZ ((ce p ++ m.guards.flatMap f) ++ m.miles.flatMap g2) (by omega)
 repeat' first|refine gq ?_|decide|refine sp ?_ ?_<;>intro _|refine cA hN ?_|(with_reducible apply And.intro)
 all_goals first
  | rfl
  | omega
  | skip
 refine af (fun st=>∃k:Nat,k<=m.guards.length/\st=⟨46,[(2,.op 0 0 0),(5,.osl 1),(6,eI (k:Int))],[(0,some (.box 32 (aC m))),(1,some (.row 2 1 ((ce p ++ (m.guards.take k).flatMap f).map fun n=>[eI n])))],2⟩) (fun st=>m.guards.length-ax st 6) ⟨_,(wS [0,2] (kf @Va @V7)),0,UR _,rfl⟩ ?_;rintro _ ⟨k,hk,rfl⟩;by_cases hlt:k<m.guards.length
 .obtain ⟨x,hx⟩:∃x,m.guards[k]=x:=⟨_,rfl⟩;have hxc:=hgc x (hx ▸ UQ hlt);have hNx:am Tryz.prog 20 [bf x.cond] ⟨sI (ce x.cond),[],0⟩:=lP x.cond (by omega)
  have hsn:(ce p ++ (m.guards.take (k+1)).flatMap f).map (fun n=>[eI n])=(ce p ++ (m.guards.take k).flatMap f).map (fun n=>[eI n]) ++ (ce x.cond).map (fun n=>[eI n]):=by
   rw[ji f _ hlt,hx,<- Vw,Vc,hf]
  have hl1:(ce p ++ (m.guards.take k).flatMap f).length<=2200000:=by have:=hfl k;rw[UW];omega
  have hl2:=kq x.cond
  repeat' first|refine gq ?_|simp only[ab,hlt,hx]|decide|refine sp ?_ ?_<;>intro _|refine cA hNx ?_|(with_reducible apply And.intro)
  all_goals first
   | rfl
   | omega
   | exact rI (wS [0,2] @hsn) ⟨k+1,by omega,rfl⟩
 .obtain rfl:k=m.guards.length:=by omega
  rw[U6];obtain⟨O,hO⟩:∃O,ce p ++ m.guards.flatMap f=O:=⟨_,rfl⟩;rw[hO] at hlt1 hlt2 hS ⊢
  repeat' first|refine gf @hlt ?_|decide|refine sp ?_ ?_<;>intro _
  refine af (fun st=>∃k:Nat,k<=m.miles.length/\st=⟨46,[(2,.op 0 0 0),(5,.osl 1),(7,eI (k:Int))],[(0,some (.box 32 (aC m))),(1,some (.row 2 1 ((O ++ (m.miles.take k).flatMap g2).map fun n=>[eI n])))],2⟩) (fun st=>m.miles.length-ax st 7) ⟨_,(wE (kf @Va @V7)),0,UR _,rfl⟩ ?_;rintro _ ⟨k,hk2,rfl⟩;by_cases hlt3:k<m.miles.length
  .obtain ⟨x,hx⟩:∃x,m.miles[k]=x:=⟨_,rfl⟩;have hxc:=hmc x (hx ▸ UQ hlt3);have hNx:am Tryz.prog 20 [bf x.cond] ⟨sI (ce x.cond),[],0⟩:=lP x.cond (by omega)
   have hsn:(O ++ (m.miles.take (k+1)).flatMap g2).map (fun n=>[eI n])=(O ++ (m.miles.take k).flatMap g2).map (fun n=>[eI n]) ++ (ce x.cond).map (fun n=>[eI n]):=by
    rw[ji g2 _ hlt3,hx,<- Vw,Vc,hg2]
   have hl1:(O ++ (m.miles.take k).flatMap g2).length<=4400000:=by have:=hgl k;rw[UW];omega
   have hl2:=kq x.cond
   repeat' first|refine gq ?_|simp only[ab,hlt3,hx]|decide|refine sp ?_ ?_<;>intro _|refine cA hNx ?_|(with_reducible apply And.intro)
   all_goals first
    | rfl
    | omega
    | exact rI (wS [0,2] @hsn) ⟨k+1,by omega,rfl⟩
  .obtain rfl:k=m.miles.length:=by omega
   rw[U6]
   repeat' first|refine ge @hlt3 ?_|decide|refine sp ?_ ?_<;>intro _
   refine Ag [1] (R:=⟨sI (aR (O ++ m.miles.flatMap g2)),[],0⟩) ?_ ?_ ?_
   .repeat' first|decide|refine go ?_
    exact hS
   .repeat' first|decide|refine go ?_
    left;simp[m8,pi,bD,dl]
   .repeat' first|refine gq ?_|decide|refine sp ?_ ?_<;>intro _
    all_goals exact aF (by first|rfl|simp[AV.ren,AV.renL])
theorem y6(m:aJ)(p:List aw)(hp:p.length<=400)(hg:m.guards.length<=14)(hm:m.miles.length<=10)(hgc:∀g∈m.guards,g.cond.length<=80)(hmc:∀g∈m.miles,g.cond.length<=80):am Tryz.prog 7 [.agg (aC m),bf p] ⟨sI (ba m p),[],0⟩:=by
 have h:∀(α:Type)(f:α -> Nat)(l:List α),(∀x∈l,f x<=80)->(l.map f).sum<=80 * l.length:=fun α f l=>by
  induction l with
  | nil=>simp
  | cons x l ih=>
   intro h;have:=h x (Vr ..);have:=ih fun y hy=>h y (Vx _ hy);simp only[VE,List.sum_cons,Vl];omega
 have:=h _ (fun g:Gd=>g.cond.length) m.guards hgc;have:=h _ (fun g:Ml=>g.cond.length) m.miles hmc;exact Hd m p (by omega) (by omega) (by omega)
end
end
section
section
def mX(c:List Int)(i:Nat):Int:=if i<c.length/\0<c.getD i 0 then c.getD i 0 else 0
def DN(m:aJ)(c:List Int)(k:Nat):Int:=(max 0 ((m.events[k]?.map (·.times)).getD 0-mX c k)).toNat * (((m.events[k]?.map (·.sets.length)).getD 0:Nat):Int)
def cY(m:aJ)(c:List Int):Nat->Int
 | 0=>0
 | k+1=>cY m c k+DN m c k
theorem z8(c:List Int)(i:Nat):0<=mX c i:=by
 unfold mX;split<;>omega
theorem G9(m:aJ)(c:List Int)(he:m.events.length<=10)(hm:∀e∈m.events,e.times<=1000/\e.sets.length<=10)(hc:c.length<=1000000):am Tryz.prog 35 [.agg (aC m),sI c] (val (.int .i64 (cY m c m.events.length))):=by
 refine aa ag Tryz.func35 rfl (by decide) Tryz.ntmps35 Tryz.results35 rfl (aD _) ?_
 repeat' first|refine go ?_|decide|refine sp ?_ ?_<;>intro _
 refine af (fun st=>∃(k:Nat)(n:Int),k<=m.events.length/\n=cY m c k/\0<=n/\n<=10000 * k/\st=⟨50,[(1,sI c),(2,.op 0 0 0),(5,eI n),(6,eI (k:Int))],[(0,some (.box 32 (aC m)))],1⟩) (fun st=>m.events.length-ax st 6) ⟨_,wC,0,0,UR _,rfl,by omega,by omega,rfl⟩ ?_;rintro _ ⟨k,n,hk,hn,hn0,hn1,rfl⟩;by_cases hlt:k<m.events.length
 .obtain ⟨e,hev⟩:∃e,m.events[k]=e:=⟨_,rfl⟩;obtain⟨ht,hs⟩:=hm e (hev ▸ UQ hlt);have hw0:=z8 c k
  have hE:DN m c k=(max 0 (e.times-mX c k)).toNat * (e.sets.length:Int):=by
   unfold DN;rw[p0 hlt,hev];rfl
  obtain⟨w,hw⟩:∃w,mX c k=w:=⟨_,rfl⟩;rw[hw] at hE hw0;obtain⟨J,hJ⟩:∃J,(max 0 (e.times-w)).toNat=J:=⟨_,rfl⟩;rw[hJ] at hE;have hJ10:J<=100000:=by omega
  obtain⟨S,hS⟩:∃S,e.sets.length=S:=⟨_,rfl⟩;rw[hS] at hE hs;by_cases hkc:k<c.length
  .by_cases hpos:0<c[k]
   .have hwc:c[k]=w:=by
     rw[<- hw,mX,UZ ⟨hkc,by rw[Os,p0 hkc];exact hpos⟩,Os,p0 hkc];rfl
    have d1:decide (0<w)=true:=by rw[<- hwc];simpa using hpos
    repeat' first|refine gq ?_|simp only[ab,hlt,hkc,hwc,d1]|decide|refine sp ?_ ?_<;>intro _
    refine af (fun st=>∃(j:Nat)(was q:Int),j<=J/\was=w+j/\q=n+((j * S:Nat):Int)/\st=⟨50,[(1,sI c),(2,.op 0 0 0),(5,eI q),(6,eI (k:Int)),(7,eI was)],[(0,some (.box 32 (aC m)))],1⟩) (fun st=>1000-ax st 7) ⟨_,wC,0,w,n,UR _,by omega,by simp,rfl⟩ ?_;rintro _ ⟨j,was,q,hj,hwas,hq,rfl⟩;have hjs:j * S<=1000 * 10:=WI (by omega) (by omega);by_cases hlw:was<e.times
    .have d2:decide (was<e.times)=true:=(by simpa using hlw);have ew1:IntKind.i64.wrap (q+(S:Int))=q+(S:Int):=aE (by omega) (by omega);have ew2:IntKind.i64.wrap (was+1)=was+1:=aE (by omega) (by omega);have hss:(j+1) * S=j * S+S:=Xk j S
     repeat' first|refine gq ?_|simp only[ab,hlt,hev,hS,d2,ew1,ew2]|decide|refine sp ?_ ?_<;>intro _
     exact rI wC ⟨j+1,was+1,q+(S:Int),by omega,by omega,by rw[hss];omega,rfl⟩
    .have d2:decide (was<e.times)=false:=(by simpa using hlw);obtain rfl:j=J:=by omega
     have hev2:DN m c k=((j * S:Nat):Int):=by rw[hE];simp
     repeat' first|refine gq ?_|simp only[ab,hlt,hev,d2]|decide|refine sp ?_ ?_<;>intro _
     exact rI wC ⟨k+1,q,by omega,by rw[cY,hev2,<- hn,hq],by omega,by omega,rfl⟩
   .have d1:decide (0<c[k])=false:=(by simpa using hpos);obtain rfl:w=0:=by rw[<- hw,mX,UX (by rw[Os,p0 hkc];exact fun h=>hpos h.2)]
    repeat' first|refine gq ?_|simp only[ab,hlt,hkc,d1]|decide|refine sp ?_ ?_<;>intro _
    refine af (fun st=>∃(j:Nat)(was q:Int),j<=J/\was=0+(j:Int)/\q=n+((j * S:Nat):Int)/\st=⟨50,[(1,sI c),(2,.op 0 0 0),(5,eI q),(6,eI (k:Int)),(7,eI was)],[(0,some (.box 32 (aC m)))],1⟩) (fun st=>1000-ax st 7) ⟨_,wC,0,0,n,UR _,by omega,by simp,rfl⟩ ?_;rintro _ ⟨j,was,q,hj,hwas,hq,rfl⟩;have hjs:j * S<=1000 * 10:=WI (by omega) (by omega);by_cases hlw:was<e.times
    .have d2:decide (was<e.times)=true:=(by simpa using hlw);have ew1:IntKind.i64.wrap (q+(S:Int))=q+(S:Int):=aE (by omega) (by omega);have ew2:IntKind.i64.wrap (was+1)=was+1:=aE (by omega) (by omega);have hss:(j+1) * S=j * S+S:=Xk j S
     repeat' first|refine gq ?_|simp only[ab,hlt,hev,hS,d2,ew1,ew2]|decide|refine sp ?_ ?_<;>intro _
     exact rI wC ⟨j+1,was+1,q+(S:Int),by omega,by omega,by rw[hss];omega,rfl⟩
    .have d2:decide (was<e.times)=false:=(by simpa using hlw);obtain rfl:j=J:=by omega
     have hev2:DN m c k=((j * S:Nat):Int):=by rw[hE];simp
     repeat' first|refine gq ?_|simp only[ab,hlt,hev,d2]|decide|refine sp ?_ ?_<;>intro _
     exact rI wC ⟨k+1,q,by omega,by rw[cY,hev2,<- hn,hq],by omega,by omega,rfl⟩
  .obtain rfl:w=0:=by rw[<- hw,mX,UX (fun h=>hkc h.1)]
   repeat' first|refine gq ?_|simp only[ab,hlt,hkc]|decide|refine sp ?_ ?_<;>intro _
   refine af (fun st=>∃(j:Nat)(was q:Int),j<=J/\was=0+(j:Int)/\q=n+((j * S:Nat):Int)/\st=⟨50,[(1,sI c),(2,.op 0 0 0),(5,eI q),(6,eI (k:Int)),(7,eI was)],[(0,some (.box 32 (aC m)))],1⟩) (fun st=>1000-ax st 7) ⟨_,wC,0,0,n,UR _,by omega,by simp,rfl⟩ ?_;rintro _ ⟨j,was,q,hj,hwas,hq,rfl⟩;have hjs:j * S<=1000 * 10:=WI (by omega) (by omega);by_cases hlw:was<e.times
   .have d2:decide (was<e.times)=true:=(by simpa using hlw);have ew1:IntKind.i64.wrap (q+(S:Int))=q+(S:Int):=aE (by omega) (by omega);have ew2:IntKind.i64.wrap (was+1)=was+1:=aE (by omega) (by omega);have hss:(j+1) * S=j * S+S:=Xk j S
    repeat' first|refine gq ?_|simp only[ab,hlt,hev,hS,d2,ew1,ew2]|decide|refine sp ?_ ?_<;>intro _
    exact rI wC ⟨j+1,was+1,q+(S:Int),by omega,by omega,by rw[hss];omega,rfl⟩
   .have d2:decide (was<e.times)=false:=(by simpa using hlw);obtain rfl:j=J:=by omega
    have hev2:DN m c k=((j * S:Nat):Int):=by rw[hE];simp
    repeat' first|refine gq ?_|simp only[ab,hlt,hev,d2]|decide|refine sp ?_ ?_<;>intro _
    exact rI wC ⟨k+1,q,by omega,by rw[cY,hev2,<- hn,hq],by omega,by omega,rfl⟩
 .obtain rfl:k=m.events.length:=by omega
  repeat' first|refine gf @hlt ?_|decide|refine sp ?_ ?_<;>intro _
  exact hn
end
section
theorem sN(m:aJ)(c:List Int)(he:m.events.length<=10)(hm:∀e∈m.events,e.times<=10/\e.sets.length<=10)(hc:c.length<=1000000):am Tryz.prog 35 [.agg (aC m),sI c] (val (.int .i64 (cY m c m.events.length))):=
 G9 m c he (fun e h=>⟨by have:=(hm e h).1;omega,(hm e h).2⟩) hc
end
section
def gg(m:aJ)(c:List Int)(s:St):Nd:=⟨bS s.vals c (cY m s.cnt m.events.length),s.opn,s.don,s.did,s.cnt⟩
theorem zY(m:aJ)(c:List Int)(s:St)(he:m.events.length<=10)(hm:∀e∈m.events,e.times<=10/\e.sets.length<=10)(h1:s.vals.length<=31)(h2:c.length<=400)(hv:∀x∈s.vals,aA x)(hc:∀x∈c,aA x)(h3:s.did.length<=1000000)(h4:s.cnt.length<=1000000):am Tryz.prog 12 [.agg (aC m),sI c,.agg (cy s)] ⟨.agg (kD (gg m c s)),[],0⟩:=by
 have hL:=sN m s.cnt he hm h4;have hO:=LJ s.vals c (cY m s.cnt m.events.length) h1 h2 hv hc;unfold gg;obtain⟨z,hz⟩:∃z,bS s.vals c (cY m s.cnt m.events.length)=z:=⟨_,rfl⟩;rw[hz] at hO ⊢;refine am.still (R:=⟨.agg [.sl 2 (z.cls.map du),sI z.gaps,eI s.opn,eI s.don,.osl 0,.osl 1],[(0,some (.row 3 1 (s.did.map fun n=>[eI n]))),(1,some (.row 3 1 (s.cnt.map fun n=>[eI n])))],2⟩) [0,1] ?_ (by simp[cu.frzs,cu.frz,ae.gc,AV.frz,AV.frzL,bw,aB.frz]) (by simp[AV.lt,AV.ltL]);refine aa ag Tryz.func12 rfl (by decide) Tryz.ntmps12 Tryz.results12 rfl (fR (by simp[bX,aB.lt,AV.ltL,AV.lt]) (by simp[AV.lt,AV.ltL])) ?_
 repeat' first|refine go ?_|decide|refine sp ?_ ?_<;>intro _
 refine aG [2] [0,1,2,3,4,5,8,9,10,11,13,14,17,18] (.three 6 (.three 7 (.two 12 (.two 15 (.exec 16 (.exec 19 (.take 20 (.exec 21 .done)))) 16 (.exec 15 (.exec 19 (.take 20 (.exec 21 .done))))) 16 (.exec 12 (.exec 15 (.exec 19 (.take 20 (.exec 21 .done)))))) 12 (.two 7 (.two 15 (.exec 16 (.exec 19 (.take 20 (.exec 21 .done)))) 16 (.exec 15 (.exec 19 (.take 20 (.exec 21 .done))))) 16 (.exec 7 (.exec 15 (.exec 19 (.take 20 (.exec 21 .done)))))) 16 (.two 7 (.exec 12 (.exec 15 (.exec 19 (.take 20 (.exec 21 .done))))) 12 (.exec 7 (.exec 15 (.exec 19 (.take 20 (.exec 21 .done))))))) 12 (.two 6 (.two 7 (.two 15 (.exec 16 (.exec 19 (.take 20 (.exec 21 .done)))) 16 (.exec 15 (.exec 19 (.take 20 (.exec 21 .done))))) 16 (.exec 7 (.exec 15 (.exec 19 (.take 20 (.exec 21 .done)))))) 16 (.exec 6 (.exec 7 (.exec 15 (.exec 19 (.take 20 (.exec 21 .done))))))) 16 (.two 6 (.two 7 (.exec 12 (.exec 15 (.exec 19 (.take 20 (.exec 21 .done))))) 12 (.exec 7 (.exec 15 (.exec 19 (.take 20 (.exec 21 .done)))))) 12 (.exec 6 (.exec 7 (.exec 15 (.exec 19 (.take 20 (.exec 21 .done)))))))) (by kernel_rfl) (by simp[ae.gc]) ?_
 repeat' first|refine gq ?_|decide|refine sp ?_ ?_<;>intro _|refine cA hL ?_|refine cA hO ?_|(with_reducible apply And.intro)
 all_goals first
  | omega
  | rfl
  | exact⟨[4,6],by decide,rfl,by simp[b6,ae.gc]⟩
  | exact⟨[5,6],by decide,rfl,by simp[b6,ae.gc]⟩
  | exact⟨[6,5],by decide,rfl,by simp[b6,ae.gc]⟩
  | exact⟨[6,4],by decide,rfl,by simp[b6,ae.gc]⟩
end
section
theorem zU(m:aJ):(b7 m).vals=m.inits/\(b7 m).did.length=m.events.length/\(b7 m).cnt.length=m.events.length:=by
 have h:=fj m (-1) (m.order.take m.order.length) (eT m);unfold b7 cP;rw[h.1,h.2.1,h.2.2];simp[eT]
theorem xV(m:aJ)(c:List Int)(hf:jN m)(hp:∀p∈m.stages,aA p.2)(hi:∀x∈m.inits,aA x)(hm:∀e∈m.events,e.times<=10/\e.sets.length<=10)(h2:c.length<=400)(hc:∀x∈c,aA x):am Tryz.prog 22 [.agg (aC m),sI c] ⟨.agg (kD (gg m c (b7 m))),[],0⟩:=by
 obtain⟨-,-,-,hel,-,-,-,-,-,hil⟩:=id hf.sizes;obtain⟨e1,e2,e3⟩:=zU m;have hB:=u5 m hf hp;have hO:=zY m c (b7 m) hel hm (by rw[e1];omega) h2 (by rw[e1];exact hi) hc (by omega) (by omega);have hok:(⟨.agg (kD (gg m c (b7 m))),[],0⟩:cu).Ok:=⟨fun id o h=>(by cases h),by simp[AV.lt,AV.ltL]⟩;generalize gg m c (b7 m)=nd at *;refine aa ag Tryz.func22 rfl (by decide) Tryz.ntmps22 Tryz.results22 rfl (hok) ?_
 repeat' first|refine go ?_|decide|refine sp ?_ ?_<;>intro _
 refine aG [1] [0,1,2] (.exec 3 (.exec 4 (.exec 5 .done))) (by kernel_rfl) (by simp[ae.gc]) ?_
 repeat' first|refine gq ?_|decide|refine sp ?_ ?_<;>intro _|refine cA hB ?_|refine cA hO ?_|(with_reducible apply And.intro)
 all_goals exact aF (by first|rfl|simp[AV.ren,AV.renL])
end
section
def qs(m:aJ)(n:Nd):St:=⟨List.replicate m.attrs.length 0,n.opn,n.don,n.did,n.cnt⟩
def uD(m:aJ)(c:List Int)(n:Nd):Prop:=fe m (qs m n)=true/\wd n.z (m.attrs.length:Int) c (cY m n.cnt m.events.length)
theorem Cg(m:aJ)(c:List Int)(n:Nd)(vals:List Int)(hv:vals.length<=31)(ha:vals.length=m.attrs.length)(hz:n.z=bS vals c (cY m n.cnt m.events.length))(hs:fe m (qs m n)=true):uD m c n:=by
 refine⟨hs,?_⟩;rw[hz,<- ha];exact Cl vals c _ hv
end
section
theorem MG:(0:Int)<((4:Nat):Int):=by decide
theorem Ms:(1:Int)<((4:Nat):Int):=by decide
theorem OK:(2:Int)<((4:Nat):Int):=by decide
theorem MM:(3:Int)<((4:Nat):Int):=by decide
def kT(m:aJ)(x:aw):Bool:=
 if (decide (3<=x.op) && decide (x.op<=8))=true then decide (-1<=x.la) && decide (x.la<(m.attrs.length:Int)) && decide (-1<=x.ra) && decide (x.ra<(m.attrs.length:Int))
 else if (decide (x.op<9) || decide (12<x.op))=true then true
 else decide (0<=x.n) && decide (x.n<(if x.op=9 then (m.stages.length:Int) else if x.op=10 then (m.miles.length:Int) else (m.events.length:Int))) && (x.op != 12 || (decide (0<=x.u) && decide (x.u<(m.users.length:Int))))
theorem Lh(m:aJ)(x:aw):am Tryz.prog 83 [.agg (aC m),.agg (gc x)] (val (.bool (kT m x))):=by
 refine aa ag Tryz.func83 rfl (by decide) Tryz.ntmps83 Tryz.results83 rfl (aD _) ?_;obtain⟨op,la,ln,ra,rn,n,u⟩:=x;by_cases h1:3<=op/\op<=8
 .have e1:decide (3<=op)=true:=by simp;omega
  have e2:decide (op<=8)=true:=by simp;omega
  have eR:kT m ⟨op,la,ln,ra,rn,n,u⟩=(decide (-1<=la) && decide (la<(m.attrs.length:Int)) && decide (-1<=ra) && decide (ra<(m.attrs.length:Int))):=by simp[kT,h1]
  rw[eR]
  repeat' first|refine ge (kf e1 e2) ?_|decide|refine sp ?_ ?_<;>intro _
  all_goals(rename_i h;simp at h;first|(simp_all;done)|(simp_all;omega))
 .by_cases h2:op<9\/12<op
  .have eR:kT m ⟨op,la,ln,ra,rn,n,u⟩=true:=by
    rcases h2 with h2|h2<;>simp[kT,h2]<;>omega
   rw[eR]
   repeat' first|refine go ?_|decide|refine sp ?_ ?_<;>intro _
   all_goals first|rfl|(exfalso;simp at *;omega)
  .have h3:op=9\/op=10\/op=11\/op=12:=(by omega);rcases h3 with rfl|rfl|rfl|rfl
   .have e1:decide ((3:Int)<=9)=true:=(by decide);have e2:decide ((9:Int)<=8)=false:=(by decide);have e3:decide ((9:Int)<9)=false:=(by decide);have e4:decide ((12:Int)<9)=false:=(by decide);have e5:((9:Int) != 12)=true:=(by decide);have ew:IntKind.i64.wrap ((9:Int)-9)=0:=(by decide)
    repeat' first|refine ge (kf e1 (kf e2 (kf e3 (kf e4 (kf e5 ew))))) ?_|decide|refine sp ?_ ?_<;>intro _
    refine⟨rfl,ay (by kernel_rfl) ?_⟩
    repeat' first|refine go ?_|simp only[e1,e2,e3,e4,e5,ew,MG,Ms,OK,MM,Int.reduceLE,Int.reduceLT,Xr,Int.toNat_one,Int.reduceToNat,WY,WD,Vi]|decide|refine sp ?_ ?_<;>intro _
    all_goals first|(simp_all [kT];done)|(simp_all [kT];omega)
   .have e1:decide ((3:Int)<=10)=true:=(by decide);have e2:decide ((10:Int)<=8)=false:=(by decide);have e3:decide ((10:Int)<9)=false:=(by decide);have e4:decide ((12:Int)<10)=false:=(by decide);have e5:((10:Int) != 12)=true:=(by decide);have ew:IntKind.i64.wrap ((10:Int)-9)=1:=(by decide)
    repeat' first|refine ge (kf e1 (kf e2 (kf e3 (kf e4 (kf e5 ew))))) ?_|decide|refine sp ?_ ?_<;>intro _
    refine⟨rfl,ay (by kernel_rfl) ?_⟩
    repeat' first|refine go ?_|simp only[e1,e2,e3,e4,e5,ew,MG,Ms,OK,MM,Int.reduceLE,Int.reduceLT,Xr,Int.toNat_one,Int.reduceToNat,WY,WD,Vi]|decide|refine sp ?_ ?_<;>intro _
    all_goals first|(simp_all [kT];done)|(simp_all [kT];omega)
   .have e1:decide ((3:Int)<=11)=true:=(by decide);have e2:decide ((11:Int)<=8)=false:=(by decide);have e3:decide ((11:Int)<9)=false:=(by decide);have e4:decide ((12:Int)<11)=false:=(by decide);have e5:((11:Int) != 12)=true:=(by decide);have ew:IntKind.i64.wrap ((11:Int)-9)=2:=(by decide)
    repeat' first|refine ge (kf e1 (kf e2 (kf e3 (kf e4 (kf e5 ew))))) ?_|decide|refine sp ?_ ?_<;>intro _
    refine⟨rfl,ay (by kernel_rfl) ?_⟩
    repeat' first|refine go ?_|simp only[e1,e2,e3,e4,e5,ew,MG,Ms,OK,MM,Int.reduceLE,Int.reduceLT,Xr,Int.toNat_one,Int.reduceToNat,WY,WD,Vi]|decide|refine sp ?_ ?_<;>intro _
    all_goals first|(simp_all [kT];done)|(simp_all [kT];omega)
   .have e1:decide ((3:Int)<=12)=true:=(by decide);have e2:decide ((12:Int)<=8)=false:=(by decide);have e3:decide ((12:Int)<9)=false:=(by decide);have e4:decide ((12:Int)<12)=false:=(by decide);have e5:((12:Int) != 12)=false:=(by decide);have ew:IntKind.i64.wrap ((12:Int)-9)=3:=(by decide)
    repeat' first|refine ge (kf e1 (kf e2 (kf e3 (kf e4 (kf e5 ew))))) ?_|decide|refine sp ?_ ?_<;>intro _
    refine⟨rfl,ay (by kernel_rfl) ?_⟩
    repeat' first|refine go ?_|simp only[e1,e2,e3,e4,e5,ew,MG,Ms,OK,MM,Int.reduceLE,Int.reduceLT,Xr,Int.toNat_one,Int.reduceToNat,WY,WD,Vi]|decide|refine sp ?_ ?_<;>intro _
    all_goals first|(simp_all [kT];done)|(simp_all [kT];omega)
end
section
theorem og(m:aJ)(hl:m.stages.length<=1000000):am Tryz.prog 16 [.agg (aC m)] (gl 3 1 ((pars m).map fun n=>[eI n])):=by
 refine aa ag Tryz.func16 rfl (by decide) Tryz.ntmps16 Tryz.results16 rfl (cW _ _ _) ?_
 repeat' first|refine go ?_|decide|refine sp ?_ ?_<;>intro _
 refine af (fun st=>∃k:Nat,k<=m.stages.length/\st=⟨22,[(1,.op 0 0 0),(3,.osl 1),(4,eI (k:Int))],[(0,some (.box 32 (aC m))),(1,some (.row 3 1 ((m.stages.take k).map fun p=>[eI p.2])))],2⟩) (fun st=>m.stages.length-ax st 4) ⟨_,((bq 3 3 1 (by simp only[iC,aj.get,aX,aj.put,↓reduceIte,reduceCtorEq,Nat.reduceLT,Nat.reduceEqDiff,Nat.reduceAdd,Nat.reduceLeDiff,eq_self,implies_true,Va,Vn])).trans (wS [0,1] @Va)),0,UR _,rfl⟩ ?_;rintro _ ⟨k,hk,rfl⟩;by_cases hlt:k<m.stages.length
 .have et:(m.stages.take (k+1)).map (fun p=>[eI p.2])=(m.stages.take k).map (fun p=>[eI p.2]) ++ [[eI m.stages[k].2]]:=dm _ _ hlt
  repeat' first|refine go ?_|simp only[ab,hlt]|decide|refine sp ?_ ?_<;>intro _
  refine⟨rfl,by simp only[U2];omega,rI (wS [0,3] et) ⟨k+1,by omega,rfl⟩⟩
 .obtain rfl:k=m.stages.length:=by omega
  repeat' first|refine go ?_|simp only[ab,hlt]|decide|refine sp ?_ ?_<;>intro _
  exact aV (by simp[ae.gc,pars])
end
section
theorem Mu(m:aJ)(hf:jN m):am Tryz.prog 41 [.agg (aC m)] (val (.int .i64 ((m.guards.length+m.miles.length:Nat):Int))):=by
 refine aa ag Tryz.func41 rfl (by decide) Tryz.ntmps41 Tryz.results41 rfl (aD _) ?_;obtain⟨hg,hm,-⟩:=id hf.sizes
 repeat' first|refine go ?_|decide|refine sp ?_ ?_<;>intro _
 rw[aE (by omega) (by omega)];simp
theorem BD(a b:Nat):IntKind.i64.wrap ((a+b:Nat)-(a:Int))=(b:Int)\/b > 9223372036854775807:=by
 rcases U9 9223372036854775807 b with h|h
 .exact .inr h
 .left;rw[aE (by omega) (by omega)];omega
def co(m:aJ)(i:Nat):Bool×Int:=if i<m.guards.length then (false,(i:Int)) else (true,((i-m.guards.length:Nat):Int))
def bR(m:aJ)(i:Nat):Int:=if h:i<m.guards.length then m.guards[i].stage else (m.miles[i-m.guards.length]?.map (·.stage)).getD 0
def iT(m:aJ)(i:Nat):List aw:=if h:i<m.guards.length then m.guards[i].cond else (m.miles[i-m.guards.length]?.map (·.cond)).getD []
theorem PC(m:aJ)(i:Nat)(hf:jN m)(hi:i<m.guards.length+m.miles.length):am Tryz.prog 43 [.agg (aC m),eI (i:Int)] ⟨.agg (gk (co m i)),[],0⟩:=by
 refine aa ag Tryz.func43 rfl (by decide) Tryz.ntmps43 Tryz.results43 rfl (⟨fun id o h=>(by cases h),⟨trivial,trivial,trivial⟩⟩) ?_;obtain⟨hg,hm,-⟩:=id hf.sizes;by_cases hlt:i<m.guards.length
 .have e:co m i=(false,(i:Int)):=by simp[co,hlt]
  rw[e]
  repeat' first|refine ge @hlt ?_|decide|refine sp ?_ ?_<;>intro _
  exact aF (by simp[AV.ren,AV.renL])
 .obtain ⟨j,rfl⟩:∃j,i=m.guards.length+j:=⟨i-m.guards.length,by omega⟩;have e:co m (m.guards.length+j)=(true,(j:Int)):=by simp[co]
  have ew:IntKind.i64.wrap (((m.guards.length+j:Nat):Int)-(m.guards.length:Int))=(j:Int):=(BD _ _).resolve_right (by omega);rw[e]
  repeat' first|refine ge (kf @hlt ew) ?_|decide|refine sp ?_ ?_<;>intro _
  exact aF (by simp[AV.ren,AV.renL])
theorem ld(m:aJ)(i:Nat)(hf:jN m)(hi:i<m.guards.length+m.miles.length):am Tryz.prog 87 [.agg (aC m),eI (i:Int)] (val (.int .i64 (bR m i))):=by
 refine aa ag Tryz.func87 rfl (by decide) Tryz.ntmps87 Tryz.results87 rfl (aD _) ?_;obtain⟨hg,hm,-⟩:=id hf.sizes;by_cases hlt:i<m.guards.length
 .have e:bR m i=m.guards[i].stage:=by simp[bR,hlt]
  rw[e]
  repeat' first|refine go ?_|simp only[hlt,ab]|decide|refine sp ?_ ?_<;>intro _
 .obtain ⟨j,rfl⟩:∃j,i=m.guards.length+j:=⟨i-m.guards.length,by omega⟩;have hj:j<m.miles.length:=by omega
  have e:bR m (m.guards.length+j)=m.miles[j].stage:=by simp only[bR];rw[dif_neg (by omega)];simp[hj]
  have ew:IntKind.i64.wrap (((m.guards.length+j:Nat):Int)-(m.guards.length:Int))=(j:Int):=(BD _ _).resolve_right (by omega);rw[e]
  repeat' first|refine go ?_|simp only[hlt,ew,hj,ab]|decide|refine sp ?_ ?_<;>intro _
theorem P2(m:aJ)(i:Nat)(hf:jN m)(hi:i<m.guards.length+m.miles.length):am Tryz.prog 85 [.agg (aC m),eI (i:Int)] ⟨bf (iT m i),[],0⟩:=by
 refine aa ag Tryz.func85 rfl (by decide) Tryz.ntmps85 Tryz.results85 rfl (⟨fun id o h=>(by cases h),trivial⟩) ?_;obtain⟨hg,hm,-⟩:=id hf.sizes;by_cases hlt:i<m.guards.length
 .have e:iT m i=m.guards[i].cond:=by simp[iT,hlt]
  rw[e]
  repeat' first|refine go ?_|simp only[hlt,ab]|decide|refine sp ?_ ?_<;>intro _
  exact aF (by simp[AV.ren,AV.renL])
 .obtain ⟨j,rfl⟩:∃j,i=m.guards.length+j:=⟨i-m.guards.length,by omega⟩;have hj:j<m.miles.length:=by omega
  have e:iT m (m.guards.length+j)=m.miles[j].cond:=by simp only[iT];rw[dif_neg (by omega)];simp[hj]
  have ew:IntKind.i64.wrap (((m.guards.length+j:Nat):Int)-(m.guards.length:Int))=(j:Int):=(BD _ _).resolve_right (by omega);rw[e]
  repeat' first|refine go ?_|simp only[hlt,ew,hj,ab]|decide|refine sp ?_ ?_<;>intro _
  exact aF (by simp[AV.ren,AV.renL])
theorem Dm(m:aJ)(hf:jN m)(i:Nat):(iT m i).length<=80:=by
 unfold iT;split
 .exact hf.guards _ (UQ _)
 .rcases U9 (i-m.guards.length) m.miles.length with h|h
  .simp [p0 h];exact hf.miles _ (UQ _)
  .simp [Vh h]
end
section
def ow(st:aj)(id:Nat):Nat:=match st.tab.get id with|some (.row _ _ rows)=>rows.length|_=>0
end
section
structure TF(m:aJ):Prop where
 attrs:m.attrs.length<=5
 inits:m.inits.length=m.attrs.length
 users:m.users.length<=4
 roles:m.roles.length<=4
 stages:m.stages.length<=8
 events:m.events.length<=6
 guards:m.guards.length<=12
 miles:m.miles.length<=8
 sods:m.sods.length<=6
 circle:dW (pars m)<0
end
section
theorem La(r:Int):aY r<=1048576:=by
 unfold aY;have h1:(2:Nat) ^ (min r.toNat 20)<=2 ^ 20:=Vp (by omega) (by omega);have h2:((2 ^ (min r.toNat 20):Nat):Int)=(2:Int) ^ (min r.toNat 20):=by simp
 omega
end
section
theorem vU{st:aj}:∀{l:List (Nat×AV)} (t:Nat),gu st l->aX l t=st.get t\/aX l t=.any
 | [],t,_=>.inr rfl
 | (k,av) :: l,t,h=>by
  unfold aX;split
  .rename_i e;rw[e];exact .inl h.1.symm
  .exact vU t h.2
theorem ma{st:aj}{env:List (Nat×AV)}(he:gu st env):ct st ⟨st.n,env,st.tab,st.next⟩:=fun cx a w L h=>
 ⟨L,⟨h.lay,h.size,h.defers,h.young,fun t=>by
  show bL cx w st.tab L _ (if t<st.n then aX env t else .any)/\(if t<st.n then aX env t else .any).lt st.next;split
  case isFalse=>exact⟨.tree (.any _),trivial⟩
  rcases vU t he with h1|h1
  .rw [h1];exact h.env t
  .rw [h1];exact⟨.tree (.any _),trivial⟩⟩,fun b hb=>hb⟩
theorem Gx{st:aj}(id:Nat){e:TypeId}{sz:Nat}{rows:List (List AV)}(hid:st.tab.get id=some (.row e sz rows)):ct st ⟨st.n,st.env,(id,some (.nest e sz rows)) :: st.tab,st.next⟩:=by
 intro cx a w L h
 have hget:∀k o,ae.get ((id,some (.nest e sz rows)) :: st.tab) k=some o->∃o',st.tab.get k=some o' /\ o.sz=o'.sz:=fun k o hk=>by
  rw[ae.gc] at hk;split at hk
  .rename_i e1;cases hk;exact⟨.row e sz rows,by rw[e1];exact hid,rfl⟩
  .exact ⟨o,hk,rfl⟩
 have hext:lG cx w st.tab L st.next w ((id,some (.nest e sz rows)) :: st.tab) L:=⟨fun _ _=>rfl,fun b hb=>⟨hb.1,hb.2.1,fun k o hk=>by
  obtain⟨o',h1,_⟩:=hget k o hk;exact hb.2.2 k o' h1⟩,fun k p _ hk=>by
  unfold Kx at *
  cases ho:ae.get ((id,some (.nest e sz rows)) :: st.tab) k with
  | none=>simp[ho] at hk
  | some o=>
   obtain⟨o',h1,h2⟩:=hget k o ho;rw[h1];simpa[ho,h2] using hk⟩
 have hob:=h.lay.objs id _ hid
 refine⟨L,⟨⟨h.lay.below,fun k o hk=>?_,fun k k' o o' g h1 h2=>?_,fun b hb=>⟨(h.lay.ex b hb).1,fun k o hk=>by
  obtain⟨o',h1,_⟩:=hget k o hk;exact(h.lay.ex b hb).2 k o' h1⟩⟩,h.size,h.defers.mono (fun _ _=>rfl) hext.sub,fun k o hk=>?_,fun t=>⟨hext.rv (h.env t).1 (h.env t).2,(h.env t).2⟩⟩,hext.sub⟩
 .rw [ae.gc] at hk;split at hk
  .rename_i e1;cases hk;rw[e1];obtain⟨h1,xs,h2,h3,h4⟩:=hob;exact⟨h1,xs,h2,h3,fun i j row av h5 h6=>(h4 i j row av h5 h6).elim fun x hx=>⟨x,hx.1,.tree (hext.rt hx.2)⟩⟩
  .exact hext.obj (h.lay.objs k o hk) (h.young k o hk).2 fun _ _=>rfl
 .obtain ⟨o1,h3,_⟩:=hget k o h1;obtain⟨o2,h4,_⟩:=hget k' o' h2;exact h.lay.sep k k' o1 o2 g h3 h4
 .rw [ae.gc] at hk;split at hk
  .rename_i e1;cases hk;refine⟨by rw[e1];exact(h.young id _ hid).1,fun row hr=>ah.2 fun av ha=>?_⟩;obtain⟨i,hi⟩:=VZ hr;obtain⟨j,hj⟩:=VZ ha;obtain⟨_,xs,_,_,h4⟩:=hob;obtain⟨x,_,hx⟩:=h4 i j row av hi hj;exact hx.lt _
  .exact h.young k o hk
section
variable {cx:Cx} {w:World} {tab:ae} {L:Nat->Value}
end
def PD(P:Program)(rs:List ResultVar)(Post:cu->Prop):Exit->aj->Prop
 | .normal,st=>ci P st rs fun avs=>(dV avs).lt st.next/\Post ⟨dV avs,st.tab,st.next⟩
 | .ret,st=>ci P st rs fun avs=>(dV avs).lt st.next/\Post ⟨dV avs,st.tab,st.next⟩
 | _,_=>False
theorem yZ {P : Program} {f : FuncId} {fn : Func} {c : Code} (hf : P.funcs[f]? = some fn) (hb : fn.body = some c) (hname : (fn.name == "runtime.NumGoroutine") = false) {args : List AV} {Post : cu → Prop} {n : Nat} (hnt : fn.ntmps = n) {rs : List ResultVar} (hrs : fn.results = rs.toArray) (hn : Nat.ble args.length n = true)
  (h:∀(cx:Cx)(a:Act)(w:World)(L:Nat->Value),aH cx a w ⟨n,b9 0 args,[],0⟩ L->c.wp P (nJ cx (PD P rs Post)) a w):dp P f args Post:=by
 have hn:=Wo hn;subst hnt;have hrs:fn.results.toList=rs:=by rw[hrs]
 refine⟨fun vs w=>?_,fun S w vs hS hvs hv=>?_⟩
 ·have : ¬ fn.name = "runtime.NumGoroutine" := by simpa using hname
  simp[callFunc,Sem.run_bind,hf,this,hb]
 .let cx:Cx:=(Cx.mk0 S w hS)
  refine(callsIn_wide (n:=0)).1 (callsIn_of_wp_marks hf hb trivial (wpIn_wide.2 ?_));have hL:iM cx w [] (fun _=>undef):=⟨jo (Below.refl _ _),fun id o h=>(by cases h),fun id id' o o' g h=>(by cases h),fun b hb=>hb.elim⟩
  have hC:aH cx { tmps:=vs ++ Array.replicate (fn.ntmps-vs.size) undef,defers:=[] } w ⟨fn.ntmps,b9 0 args,[],0⟩ (fun _=>undef):=by
   refine⟨hL,?_,i6.nil _ _ _,fun id o h=>(by cases h),fun t=>?_⟩
   .simp;omega
   have e:(⟨fn.ntmps,b9 0 args,[],0⟩:aj).get t=args.getD t .any:=by
    show(if t<fn.ntmps then aX (b9 0 args) t else .any)=_;rw[fU];split
    .simp
    .simp [List.getD,Vh (show args.length<=t by omega)]
   rw[e];by_cases ht:t<args.length
   .have ht':t<vs.size:=by omega
    have e2:(vs ++ Array.replicate (fn.ntmps-vs.size) undef).getD t undef=vs[t]:=by
     rw[VG,VQ ht',UT ht'];rfl
    have e3:args.getD t .any=args[t]:=(by simp[List.getD,ht]);rw[e2,e3];have:=hv t _ _ (UT ht') (p0 ht);exact⟨.tree (this.mono (fun _ _=>rfl) fun b hb=>⟨hS b hb,⟨.inl hb,fun h=>h⟩,fun id o h=>by cases h⟩),this.lt 0⟩
   .have e3:args.getD t .any=.any:=(by simp[List.getD,Vh (W9 ht)]);rw[e3];exact⟨.tree (.any _),trivial⟩
  refine Code.wp_mono (fun e a w' ⟨st,L,h1,h2⟩=>?_) (h cx _ w _ hC);rw[<- hrs] at h1
  have key:(ci P st fn.results.toList fun avs=>(dV avs).lt st.next/\Post ⟨dV avs,st.tab,st.next⟩)->LeavesInM Fence.wide 0 P fn a.tmps (fun e w'=>∃v' L R,Post R/\R.Ok/\e=.returned v' /\ iM cx w' R.tab L/\bL cx w' R.tab L v' R.r) a.defers .returning w':=fun h1=>by
   refine kV _ _ h2.defers fun w2 hk2=>?_;have h2:=tc h2 hk2;clear hk2;generalize w2=w' at h2;obtain⟨v,av,⟨hlt,hPost⟩,h4,h5⟩:=wQ (K:=fun av=>av.lt st.next/\Post ⟨av,st.tab,st.next⟩) h2 h1;exact⟨v,h5,v,L,⟨av,st.tab,st.next⟩,hPost,⟨h2.young,hlt⟩,rfl,h2.lay,h4⟩
  cases e with
  | normal=>exact key h1
  | ret=>exact key h1
  | _=>exact h1.elim
def Tn(P:Program)(rs:List ResultVar)(Post:cu->Prop)(e:Exit)(st:aj):Prop:=FG (PD P rs Post e) st
theorem ug {P : Program} (hm : P.follows .mixedOrders = true) {f : FuncId} {fn : Func} {c : Code} (hf : P.funcs[f]? = some fn) (hb : fn.body = some c) (hname : (fn.name == "runtime.NumGoroutine") = false) {args : List AV} {Post : cu → Prop} {n : Nat} (hnt : fn.ntmps = n) {rs : List ResultVar} (hrs : fn.results = rs.toArray) (hn : Nat.ble args.length n = true)
  (h:bt P c (Tn P rs Post) ⟨n,b9 0 args,[],0⟩):dp P f args Post:=
 yZ hf hb hname hnt hrs hn fun cx a w L hc=>Code.wp_mono (fun e a w ⟨st,L,⟨st',hw,h1⟩,h2⟩=>(hw _ _ _ _ h2).elim fun L' h3=>⟨st',L',h1,h3.1⟩) (ms hm c _ a w _ L hc h)
theorem F0(st:aj):ct st st:=fun cx a w L h=>⟨L,h,fun b hb=>hb⟩
theorem zp{st:aj}(id:Nat){e:TypeId}{sz:Nat}{rows:List (List AV)}(hid:st.tab.get id=some (.nest e sz rows))(ht:∀row∈rows,bD row):ct st ⟨st.n,st.env,(id,some (.row e sz rows)) :: st.tab,st.next⟩:=by
 intro cx a w L h
 have hget:∀k o,ae.get ((id,some (.row e sz rows)) :: st.tab) k=some o->∃o',st.tab.get k=some o' /\ o.sz=o'.sz:=fun k o hk=>by
  rw[ae.gc] at hk;split at hk
  .rename_i e1;cases hk;exact⟨.nest e sz rows,by rw[e1];exact hid,rfl⟩
  .exact ⟨o,hk,rfl⟩
 have hext:lG cx w st.tab L st.next w ((id,some (.row e sz rows)) :: st.tab) L:=⟨fun _ _=>rfl,fun b hb=>⟨hb.1,hb.2.1,fun k o hk=>by
  obtain⟨o',h1,_⟩:=hget k o hk;exact hb.2.2 k o' h1⟩,fun k p _ hk=>by
  unfold Kx at *
  cases ho:ae.get ((id,some (.row e sz rows)) :: st.tab) k with
  | none=>simp[ho] at hk
  | some o=>
   obtain⟨o',h1,h2⟩:=hget k o ho;rw[h1];simpa[ho,h2] using hk⟩
 have hob:=h.lay.objs id _ hid
 refine⟨L,⟨⟨h.lay.below,fun k o hk=>?_,fun k k' o o' g h1 h2=>?_,fun b hb=>⟨(h.lay.ex b hb).1,fun k o hk=>by
  obtain⟨o',h1,_⟩:=hget k o hk;exact(h.lay.ex b hb).2 k o' h1⟩⟩,h.size,h.defers.mono (fun _ _=>rfl) hext.sub,fun k o hk=>?_,fun t=>⟨hext.rv (h.env t).1 (h.env t).2,(h.env t).2⟩⟩,hext.sub⟩
 .rw [ae.gc] at hk;split at hk
  .rename_i e1;cases hk;rw[e1];obtain⟨h1,xs,h2,h3,h4⟩:=hob;exact⟨h1,xs,h2,h3,fun i j row av h5 h6=>(h4 i j row av h5 h6).elim fun x hx=>⟨x,hx.1,hext.rt (dH hx.2 (dG.1 (ht row (r2 h5)) av (r2 h6)))⟩⟩
  .exact hext.obj (h.lay.objs k o hk) (h.young k o hk).2 fun _ _=>rfl
 .obtain ⟨o1,h3,_⟩:=hget k o h1;obtain⟨o2,h4,_⟩:=hget k' o' h2;exact h.lay.sep k k' o1 o2 g h3 h4
 .rw [ae.gc] at hk;split at hk
  .rename_i e1;cases hk;exact⟨by rw[e1];exact(h.young id _ hid).1,trivial⟩
  .exact h.young k o hk
theorem uS{st:aj}(id:Nat){e:TypeId}{sz:Nat}{rows:List (List AV)}(hid:st.tab.get id=some (.nest e sz rows))(ht:∀row∈rows,bD row) :
  ct st ⟨st.n,fk id sz rows st.env,(id,none) :: bw id sz rows ((id,some (.row e sz rows)) :: st.tab),st.next⟩:=by
 have h2:=tp ⟨st.n,st.env,(id,some (.row e sz rows)) :: st.tab,st.next⟩ id
 have e1:iD ⟨st.n,st.env,(id,some (.row e sz rows)) :: st.tab,st.next⟩ id=⟨st.n,fk id sz rows st.env,(id,none) :: bw id sz rows ((id,some (.row e sz rows)) :: st.tab),st.next⟩:=by
  unfold iD;simp only[ae.gc,↓reduceIte]
 rw[e1] at h2;exact(zp id hid ht).trans h2
end
section
theorem ya(m:aJ)(c:List Int)(n:Nd)(he:m.events.length<=10)(hm:∀e∈m.events,e.times<=10/\e.sets.length<=10)(ha:m.attrs.length<=1000000)(h1:n.z.cls.length<=40)(h2:n.z.gaps.length<=40)(h3:c.length<=100000)(hc:∀x∈c,aA x)(hat:∀x∈n.z.cls,aA x.attrs)(h5:n.did.length<=1000000)(h4:n.cnt.length<=1000000)(hop:aA n.opn)(hdo:aA n.don)(hdid:∀x∈n.did,aA x):dp Tryz.prog 44 [.agg (aC m),sI c,.agg (kD n)] fun R=>∃b,R=val (.bool b)/\(b=true↔uD m c n):=by
 refine BA Tryz.func44 rfl (by decide) Tryz.ntmps44 Tryz.results44 rfl ?_;have hSt:=vh n h5 h4;have hS:=Ae m (qs m n) (by omega) hop hdo hdid;have hL:=sN m n.cnt he hm h4;have hrep:List.replicate m.attrs.length [eI 0]=(List.replicate m.attrs.length 0).map fun n=>[eI n]:=by simp
 obtain⟨t,ht,hZ⟩:=lY (FR n.z (m.attrs.length:Int) c (cY m n.cnt m.events.length) h1 h2 h3 hc (La _) hat);unfold uD;rw[<- ht];clear ht;generalize cY m n.cnt m.events.length=L at *;refine iO (fun st=>st=⟨31,[(1,sI c),(3,.op 0 0 0),(5,.op 1 0 0)],[(0,some (.box 32 (aC m))),(1,some (.box 56 (kD n)))],2⟩) (jJ ag ?_) ?_
 .repeat' first|refine gq ?_|decide|refine sp ?_ ?_<;>intro _
  all_goals exact dZ wC rfl
 rintro _ rfl;refine iO (fun st=>st=⟨31,[(1,sI c),(3,.op 0 0 0),(5,.op 1 0 0),(7,.op 2 0 0)],[(0,some (.box 32 (aC m))),(1,some (.box 56 (kD n))),(2,some (.box 59 [.c (.slice none 0 0),eI n.opn,eI n.don,sI n.did,sI n.cnt]))],3⟩) (jJ ag ?_) ?_
 .repeat' first|refine gq ?_|decide|refine sp ?_ ?_<;>intro _|refine cA hSt ?_|fail
  all_goals exact dZ wC rfl
 rintro _ rfl;refine iO (fun st=>st=⟨31,[(1,sI c),(3,.op 0 0 0),(5,.op 1 0 0),(7,.op 2 0 0)],[(0,some (.box 32 (aC m))),(1,some (.box 56 (kD n))),(2,some (.box 59 [.osl 3,eI n.opn,eI n.don,sI n.did,sI n.cnt])),(3,some (.row 2 1 ((List.replicate m.attrs.length 0).map fun n=>[eI n])))],4⟩) (jJ ag ?_) ?_
 .repeat' first|refine gq ?_|decide|refine sp ?_ ?_<;>intro _
  refine⟨⟨by omega,by omega⟩,?_⟩
  repeat' first|refine gq ?_|simp only[bE]|decide|refine sp ?_ ?_<;>intro _
  all_goals rw[hrep]
  all_goals exact dZ ((zp 3 rfl fun row hr=>by
   obtain⟨x,_,rfl⟩:=U3.1 hr;simp[bD,dl]).trans wC) rfl
 rintro _ rfl;refine jJ ag ?_
 cases hb:fe m (qs m n) with
 | true=>
  rw[hb] at hS
  repeat' first|refine gq ?_|simp only[qs]|decide|refine sp ?_ ?_<;>intro _|refine cA hS ?_|refine cA hL ?_|refine cA hZ ?_|fail
  all_goals exact cK ⟨t,rfl,by simp⟩
 | false=>
  rw[hb] at hS
  repeat' first|refine gq ?_|simp only[qs]|decide|refine sp ?_ ?_<;>intro _|refine cA hS ?_|refine cA hL ?_|refine cA hZ ?_|fail
  all_goals exact cK ⟨false,rfl,by simp⟩
end
end
section
section
theorem QR(q:Nat)(hq:q<=60):am Tryz.prog 36 [eI (q:Int)] (val (.int .i64 (((2 ^ q-1:Nat):Int)))):=by
 refine aa ag Tryz.func36 rfl (by decide) Tryz.ntmps36 Tryz.results36 rfl (aD _) ?_
 repeat' first|refine go ?_|decide|refine sp ?_ ?_<;>intro _
 refine af (fun st=>∃k:Nat,k<=q/\st=⟨14,[(0,eI (q:Int)),(3,eI ((2 ^ k-1:Nat):Int)),(4,eI (k:Int))],[],0⟩) (fun st=>q-ax st 4) ⟨_,wC,0,UR _,rfl⟩ ?_;rintro _ ⟨k,hk,rfl⟩;by_cases hlt:k<q
 .have hp:2 ^ k<=2 ^ 59:=Vp (by omega) (by omega);have hp1:1<=2 ^ k:=WR;have e1:IntKind.i64.wrap (2 * ((2 ^ k-1:Nat):Int))=2 * ((2 ^ k-1:Nat):Int):=aE (by omega) (by omega)
  have e2:IntKind.i64.wrap (2 * ((2 ^ k-1:Nat):Int)+1)=((2 ^ (k+1)-1:Nat):Int):=by
   rw[aE (by omega) (by omega),Nat.pow_succ];omega
  repeat' first|refine ge (kf @hlt (kf e1 e2)) ?_|decide|refine sp ?_ ?_<;>intro _
  exact rI (wE (kf e1 e2)) ⟨k+1,by omega,rfl⟩
 .obtain rfl:k=q:=by omega
  repeat' first|refine ge @hlt ?_|decide|refine sp ?_ ?_<;>intro _
theorem kZ(m:aJ)(l:List aw)(prop:Bool)(hl:l.length<=1000):dp Tryz.prog 39 [.agg (aC m),bf l,eB prop] fun R=>∃b,R=val (.bool b)/\(b=true->bF (l.map aw.op)=0/\∀i (h:i<l.length),kT m l[i]=true/\(prop=false->¬(18<l[i].op\/(10<l[i].op/\l[i].op<15)))):=by
 refine bj ag Tryz.func39 rfl (by decide) Tryz.ntmps39 Tryz.results39 rfl ?_
 repeat' first|refine go ?_|decide|refine sp ?_ ?_<;>intro _
 refine af (fun st=>∃k:Nat,k<=l.length/\k<=70/\st=⟨67,[(1,bf l),(2,eB prop),(3,.op 0 0 0),(7,.osl 1),(8,eI (k:Int))],[(0,some (.box 32 (aC m))),(1,some (.row 151 9 (((l.map aw.op).take k).map iP)))],2⟩) (fun st=>l.length-ax st 8) ⟨_,((bq 7 151 9 (by simp only[iC,aj.get,aX,aj.put,↓reduceIte,reduceCtorEq,Nat.reduceLT,Nat.reduceEqDiff,Nat.reduceAdd,Nat.reduceLeDiff,eq_self,implies_true,Va,Vn])).trans (wS [0,1] @Va)),0,UR _,by omega,rfl⟩ ?_;rintro _ ⟨k,hk,hk70,rfl⟩;have hkl:((l.map aw.op).take k).length=k:=by simp;omega
 have hlen2:((l.map aw.op).take k).length<=1000000:=by omega
 by_cases hgo:k<l.length/\k<70
 .obtain ⟨hlt,h70⟩:=hgo;have e1:decide ((k:Int)<70)=true:=by simp;omega
  have et:((l.map aw.op).take (k+1)).map iP=((l.map aw.op).take k).map iP ++ [iP l[k].op]:=by
   rw[dm iP (l.map aw.op) (by simpa using hlt)];simp
  repeat' first|refine go ?_|simp only[ab,hlt,e1]|decide|refine sp ?_ ?_<;>intro _
  refine⟨rfl,by simp only[hkl,Vd,U2];omega,rI (wS [0,3] et) ⟨k+1,by omega,by omega,rfl⟩⟩
 .have hfin:((l.map aw.op).take k)=(l.map aw.op).take 70:=by
   by_cases h1:k=70
   .rw [h1]
   .rw [Vg (by simp;omega),Vg (by simp;omega)]
  have hchk:=tv ((l.map aw.op).take k) hlen2
  have hE:bF ((l.map aw.op).take k)=0->bF (l.map aw.op)=0:=fun h=>by
   rcases U9 64 l.length with h64|h64
   .exfalso;have:64<((l.map aw.op).take k).length:=by omega
    unfold bF at h;rw[UX (by omega),UZ this] at h;cases h
   .rw [Vg (by simp;omega)] at h;exact h
  have hcond:decide (k<l.length)=false\/(decide (k<l.length)=true/\decide ((k:Int)<70)=false):=by
   by_cases h:k<l.length
   .exact .inr ⟨Vb h,U5 (by omega)⟩
   .exact .inl (U5 h)
  by_cases hz:bF ((l.map aw.op).take k)=0
  .have z1:(bF ((l.map aw.op).take k) != 0)=false:=(by simp[hz]);have hE:=hE hz;have fin:KN Tryz.prog (Code.skip) (fun _ _=>True) ⟨0,[],[],0⟩->True:=fun _=>trivial;rcases hcond with d1|⟨d1,d2⟩
   .repeat' first|refine ge d1 ?_|decide|refine sp ?_ ?_<;>intro _
    refine al hchk ?_
    repeat' first|refine ge z1 ?_|decide|refine sp ?_ ?_<;>intro _
    refine af (fun st=>∃q:Nat,q<=l.length/\(∀i (h:i<l.length),i<q->kT m l[i]=true/\(prop=false->¬(18<l[i].op\/(10<l[i].op/\l[i].op<15))))/\st=⟨67,[(1,bf l),(2,eB prop),(3,.op 0 0 0),(9,eI (q:Int))],[(0,some (.box 32 (aC m)))],1⟩) (fun st=>l.length-ax st 9) ⟨_,wC,0,UR _,fun i h h2=>absurd h2 (by omega),rfl⟩ ?_;rintro _ ⟨q,hq,hI,rfl⟩;by_cases hlt2:q<l.length
    .repeat' first|refine go ?_|simp only[ab,hlt2]|decide|refine sp ?_ ?_<;>intro _
     refine ay (by kernel_rfl) ?_
     repeat' first|refine go ?_|simp only[ab,hlt2]|decide|refine sp ?_ ?_<;>intro _
     refine aO (Lh m l[q]) ?_
     repeat' first|refine go ?_|simp only[ab,hlt2]|decide|refine sp ?_ ?_<;>intro _
     all_goals first|with_reducible exact cK ⟨false,rfl,fun h=>by cases h⟩|skip
     all_goals
      refine rI wC ⟨q+1,by omega,fun i h h2=>?_,rfl⟩;rcases U9 i q with h3|h3
      .exact hI i h h3
      .obtain rfl:i=q:=by omega
       simp_all
       try omega
    .repeat' first|refine go ?_|simp only[ab,hlt2]|decide|refine sp ?_ ?_<;>intro _
     exact cK ⟨true,rfl,fun _=>⟨hE,fun i h=>hI i h (by omega)⟩⟩
   .repeat' first|refine ge (kf d1 d2) ?_|decide|refine sp ?_ ?_<;>intro _
    refine al hchk ?_
    repeat' first|refine ge z1 ?_|decide|refine sp ?_ ?_<;>intro _
    refine af (fun st=>∃q:Nat,q<=l.length/\(∀i (h:i<l.length),i<q->kT m l[i]=true/\(prop=false->¬(18<l[i].op\/(10<l[i].op/\l[i].op<15))))/\st=⟨67,[(1,bf l),(2,eB prop),(3,.op 0 0 0),(9,eI (q:Int))],[(0,some (.box 32 (aC m)))],1⟩) (fun st=>l.length-ax st 9) ⟨_,wC,0,UR _,fun i h h2=>absurd h2 (by omega),rfl⟩ ?_;rintro _ ⟨q,hq,hI,rfl⟩;by_cases hlt2:q<l.length
    .repeat' first|refine go ?_|simp only[ab,hlt2]|decide|refine sp ?_ ?_<;>intro _
     refine ay (by kernel_rfl) ?_
     repeat' first|refine go ?_|simp only[ab,hlt2]|decide|refine sp ?_ ?_<;>intro _
     refine aO (Lh m l[q]) ?_
     repeat' first|refine go ?_|simp only[ab,hlt2]|decide|refine sp ?_ ?_<;>intro _
     all_goals first|with_reducible exact cK ⟨false,rfl,fun h=>by cases h⟩|skip
     all_goals
      refine rI wC ⟨q+1,by omega,fun i h h2=>?_,rfl⟩;rcases U9 i q with h3|h3
      .exact hI i h h3
      .obtain rfl:i=q:=by omega
       simp_all
       try omega
    .repeat' first|refine go ?_|simp only[ab,hlt2]|decide|refine sp ?_ ?_<;>intro _
     exact cK ⟨true,rfl,fun _=>⟨hE,fun i h=>hI i h (by omega)⟩⟩
  .have z1:(bF ((l.map aw.op).take k) != 0)=true:=(by simp[hz]);rcases hcond with d1|⟨d1,d2⟩
   .repeat' first|refine ge d1 ?_|decide|refine sp ?_ ?_<;>intro _
    refine al hchk ?_
    repeat' first|refine ge z1 ?_|decide|refine sp ?_ ?_<;>intro _
    exact cK ⟨false,rfl,fun h=>by cases h⟩
   .repeat' first|refine ge (kf d1 d2) ?_|decide|refine sp ?_ ?_<;>intro _
    refine al hchk ?_
    repeat' first|refine ge z1 ?_|decide|refine sp ?_ ?_<;>intro _
    exact cK ⟨false,rfl,fun h=>by cases h⟩
def jh(l:List Ev):Int:=(l.map fun e=>e.times * (e.sets.length:Int)).sum
structure k6(l:List Ev):Prop where
 each:∀i (h:i<l.length),0<=l[i].times/\l[i].times<=3/\(l[i].times=0->l[i].sets.length=0)
theorem Bk:jh []=0:=rfl
theorem jc{l:List Ev}{k:Nat}(hk:k<l.length):jh (l.take (k+1))=jh (l.take k)+l[k].times * (l[k].sets.length:Int):=by
 unfold jh;rw[U0 hk,Vc,List.sum_append];simp
theorem nH{l:List Ev}(hs:∀e∈l,e.sets.length<=10):∀k,k<=l.length->(∀i (h:i<l.length),i<k->0<=l[i].times/\l[i].times<=3)->0<=jh (l.take k)/\jh (l.take k)<=30 * (k:Int)
 | 0,_,_=>by simp[jh]
 | k+1,hk,h=>by
  have ih:=nH hs k (by omega) fun i hi h2=>h i hi (by omega);have h1:=h k (by omega) (by omega);have h2:=hs _ (UQ (show k<l.length by omega));rw[jc (by omega)];have h3:0<=l[k].times * (l[k].sets.length:Int):=Int.mul_nonneg h1.1 (by omega);have h4:l[k].times * (l[k].sets.length:Int)<=3 * 10:=Int.mul_le_mul h1.2 (by omega) (by omega) (by omega);omega
theorem Gu(l:List Ev)(hl:l.length<=1000)(hs:∀e∈l,e.sets.length<=10):dp Tryz.prog 14 [.sl 5 (l.map t9)] fun R=>∃v,R=val (.int .i64 v)/\(v<0\/(v=jh l/\k6 l)):=by
 refine bj ag Tryz.func14 rfl (by decide) Tryz.ntmps14 Tryz.results14 rfl ?_
 repeat' first|refine go ?_|decide|refine sp ?_ ?_<;>intro _
 refine af (fun st=>∃k:Nat,k<=l.length/\(∀i (h:i<l.length),i<k->0<=l[i].times/\l[i].times<=3/\(l[i].times=0->l[i].sets.length=0))/\st=⟨54,[(0,.sl 5 (l.map t9)),(3,eI (jh (l.take k))),(4,eI (k:Int))],[],0⟩) (fun st=>l.length-ax st 4) ⟨_,(wE (kf @Va @Bk)),0,UR _,fun i h h2=>absurd h2 (by omega),rfl⟩ ?_;rintro _ ⟨k,hk,hI,rfl⟩;have hbd:=nH hs k hk fun i h h2=>⟨(hI i h h2).1,(hI i h h2).2.1⟩;by_cases hlt:k<l.length
 .by_cases hg:0<=l[k].times/\l[k].times<=3/\(l[k].times=0->l[k].sets.length=0)
  .have h2:=hs _ (UQ hlt);have h3:0<=l[k].times * (l[k].sets.length:Int):=Int.mul_nonneg hg.1 (by omega);have h4:l[k].times * (l[k].sets.length:Int)<=3 * 10:=Int.mul_le_mul hg.2.1 (by omega) (by omega) (by omega);have e1:IntKind.i64.wrap (l[k].times * (l[k].sets.length:Int))=l[k].times * (l[k].sets.length:Int):=aE (by omega) (by omega)
   have e2:IntKind.i64.wrap (jh (l.take k)+l[k].times * (l[k].sets.length:Int))=jh (l.take (k+1)):=by
    rw[jc hlt];exact aE (by omega) (by omega)
   have hI':∀i (h:i<l.length),i<k+1->0<=l[i].times/\l[i].times<=3/\(l[i].times=0->l[i].sets.length=0):=fun i h h2=>by
    rcases U9 i k with h3|h3
    .exact hI i h h3
    .obtain rfl:i=k:=by omega
     exact hg
   have d1:decide (l[k].times<0)=false:=U5 (by omega);have d2:decide (3<l[k].times)=false:=U5 (by omega);by_cases hz:l[k].times=0
   .have d3:(l[k].times == 0)=true:=(by simp[hz]);have d4:decide (0<(l[k].sets.length:Int))=false:=U5 (by have:=hg.2.2 hz;omega);have d5:decide (0<l[k].sets.length)=false:=U5 (by have:=hg.2.2 hz;omega)
    repeat' first|refine go ?_|simp only[ab,hlt,d1,d2,d3,d4,d5,e1]|decide|refine sp ?_ ?_<;>intro _
    all_goals exact rI (wE (kf e1 e2)) ⟨k+1,by omega,hI',rfl⟩
   .have d3:(l[k].times == 0)=false:=by simp[hz]
    repeat' first|refine go ?_|simp only[ab,hlt,d1,d2,d3,e1]|decide|refine sp ?_ ?_<;>intro _
    all_goals exact rI (wE (kf e1 e2)) ⟨k+1,by omega,hI',rfl⟩
  .have hbad:decide (l[k].times<0)=true\/(decide (l[k].times<0)=false/\decide (3<l[k].times)=true)\/(decide (l[k].times<0)=false/\decide (3<l[k].times)=false/\(l[k].times == 0)=true/\decide (0<(l[k].sets.length:Int))=true/\decide (0<l[k].sets.length)=true):=by
    by_cases h1:l[k].times<0
    .exact .inl (Vb h1)
    by_cases h2:3<l[k].times
    .exact .inr (.inl ⟨U5 h1,Vb h2⟩)
    have h3:l[k].times=0:=Classical.byContradiction fun h=>hg ⟨by omega,by omega,fun h'=>absurd h' h⟩;have h4:0<l[k].sets.length:=Nat.pos_of_ne_zero fun h=>hg ⟨by omega,by omega,fun _=>h⟩;exact .inr (.inr ⟨U5 h1,U5 h2,by simp[h3],Vb (by omega),Vb h4⟩)
   rcases hbad with d1|⟨d1,d2⟩|⟨d1,d2,d3,d4,d5⟩
   .repeat' first|refine go ?_|simp only[ab,hlt,d1]|decide|refine sp ?_ ?_<;>intro _
    exact cK ⟨-1,rfl,.inl (by omega)⟩
   .repeat' first|refine go ?_|simp only[ab,hlt,d1,d2]|decide|refine sp ?_ ?_<;>intro _
    exact cK ⟨-1,rfl,.inl (by omega)⟩
   .repeat' first|refine go ?_|simp only[ab,hlt,d1,d2,d3,d4,d5]|decide|refine sp ?_ ?_<;>intro _
    all_goals exact cK ⟨-1,rfl,.inl (by omega)⟩
 .obtain rfl:k=l.length:=by omega
  repeat' first|refine ge @hlt ?_|decide|refine sp ?_ ?_<;>intro _
  exact cK ⟨_,rfl,.inr ⟨by simp only[U6],⟨fun i h=>hI i h h⟩⟩⟩
end
end
section
section
def PQ(m:aJ)(l:List aw):Prop:=bF (l.map aw.op)=0/\∀i (h:i<l.length),kT m l[i]=true/\¬(18<l[i].op\/(10<l[i].op/\l[i].op<15))
def LR(m:aJ)(l:List Int):Prop:=∀i (h:i<l.length),df l[i] m.attrs.length=true/\∀j (h:j<i),l[j]≠l[i]
def KA(m:aJ)(p:ByteArray×Int):Prop:=0<p.2/\p.2<16/\p.2<=((2 ^ m.users.length-1:Nat):Int)
def C5(m:aJ)(p:ByteArray×Int):Prop:=p.2 = -1\/df p.2 m.stages.length=true
def xg(m:aJ)(e:Ev):Prop:=df e.role m.roles.length=true/\df e.stage m.stages.length=true/\LR m e.sets
def tq(m:aJ)(st ev:Int)(l:List aw):Prop:=df st m.stages.length=true/\(ev = -1\/df ev m.events.length=true)/\PQ m l
def QV(m:aJ)(p:Int×Int):Prop:=df p.1 m.events.length=true/\df p.2 m.events.length=true/\p.1≠p.2
structure tK(m:aJ):Prop where
 roles:∀i (h:i<m.roles.length),KA m m.roles[i]
 stages:∀i (h:i<m.stages.length),C5 m m.stages[i]
 events:∀i (h:i<m.events.length),xg m m.events[i]
 guards:∀i (h:i<m.guards.length),tq m m.guards[i].stage m.guards[i].event m.guards[i].cond
 miles:∀i (h:i<m.miles.length),tq m m.miles[i].stage m.miles[i].event m.miles[i].cond
 sods:∀i (h:i<m.sods.length),QV m m.sods[i]
def sL{α:Type}(l:List α)(p:α -> Prop)(k:Nat):Prop:=∀i (h:i<l.length),i<k->p l[i]
theorem sL.zero{α:Type}(l:List α)(p:α -> Prop):sL l p 0:=fun i h h2=>absurd h2 (by omega)
theorem sL.succ{α:Type}{l:List α}{p:α -> Prop}{k:Nat}(h:sL l p k)(hk:k<l.length)(hp:p l[k]):sL l p (k+1):=fun i hi h2=>by
 rcases U9 i k with h3|h3
 .exact h i hi h3
 .obtain rfl:i=k:=by omega
  exact hp
theorem Mx(m:aJ)(l:List Int)(hl:l.length<=1000000):∃b,am Tryz.prog 38 [.agg (aC m),sI l] (val (.bool b))/\(b=true->LR m l):=by
 classical
 exact⟨decide (∀i (h:i<l.length),df l[i] m.attrs.length=true/\∀j (h:j<i),l[j]≠l[i]),P4 m l hl _ (by simp),fun h=>by unfold LR;simpa using h⟩
def NM(m:aJ)(a b c d e f:Nat):Prop:=sL m.roles (KA m) a/\sL m.stages (C5 m) b/\sL m.events (xg m) c/\sL m.guards (fun g=>tq m g.stage g.event g.cond) d/\sL m.miles (fun g=>tq m g.stage g.event g.cond) e/\sL m.sods (QV m) f
theorem NM.s1{m:aJ}{a b c d e f:Nat}(h:NM m a b c d e f)(hk:a<m.roles.length)(hp:KA m m.roles[a]):NM m (a+1) b c d e f:=⟨h.1.succ hk hp,h.2⟩
theorem NM.s2{m:aJ}{a b c d e f:Nat}(h:NM m a b c d e f)(hk:b<m.stages.length)(hp:C5 m m.stages[b]):NM m a (b+1) c d e f:=⟨h.1,h.2.1.succ hk hp,h.2.2⟩
theorem NM.s3{m:aJ}{a b c d e f:Nat}(h:NM m a b c d e f)(hk:c<m.events.length)(hp:xg m m.events[c]):NM m a b (c+1) d e f:=⟨h.1,h.2.1,h.2.2.1.succ hk hp,h.2.2.2⟩
theorem NM.s4{m:aJ}{a b c d e f:Nat}(h:NM m a b c d e f)(hk:d<m.guards.length)(hp:tq m m.guards[d].stage m.guards[d].event m.guards[d].cond):NM m a b c (d+1) e f:=⟨h.1,h.2.1,h.2.2.1,h.2.2.2.1.succ hk hp,h.2.2.2.2⟩
theorem NM.s5{m:aJ}{a b c d e f:Nat}(h:NM m a b c d e f)(hk:e<m.miles.length)(hp:tq m m.miles[e].stage m.miles[e].event m.miles[e].cond):NM m a b c d (e+1) f:=⟨h.1,h.2.1,h.2.2.1,h.2.2.2.1,h.2.2.2.2.1.succ hk hp,h.2.2.2.2.2⟩
theorem NM.s6{m:aJ}{a b c d e f:Nat}(h:NM m a b c d e f)(hk:f<m.sods.length)(hp:QV m m.sods[f]):NM m a b c d e (f+1):=⟨h.1,h.2.1,h.2.2.1,h.2.2.2.1,h.2.2.2.2.1,h.2.2.2.2.2.succ hk hp⟩
theorem NM.named{m:aJ}(h:NM m m.roles.length m.stages.length m.events.length m.guards.length m.miles.length m.sods.length):tK m:=⟨fun i hi=>h.1 i hi hi,fun i hi=>h.2.1 i hi hi,fun i hi=>h.2.2.1 i hi hi,fun i hi=>h.2.2.2.1 i hi hi,fun i hi=>h.2.2.2.2.1 i hi hi,fun i hi=>h.2.2.2.2.2 i hi hi⟩
theorem Lz(m:aJ)(hf:jN m):dp Tryz.prog 13 [.agg (aC m)] fun R=>∃b,R=val (.bool b)/\(b=true->tK m):=by
 refine bj ag Tryz.func13 rfl (by decide) Tryz.ntmps13 Tryz.results13 rfl ?_;obtain⟨hg,hm,hst,hev,hat,hus,hro,hso,-⟩:=id hf.sizes
 repeat' first|refine go ?_|decide|refine sp ?_ ?_<;>intro _
 refine af (fun st=>∃(k:Nat)(b:Bool),k<=m.roles.length/\(b=true->NM m k 0 0 0 0 0)/\st=⟨233,[(1,.op 0 0 0),(3,eB b),(4,eI (k:Int))],[(0,some (.box 32 (aC m)))],1⟩) (fun st=>m.roles.length-ax st 4) ⟨_,wC,0,true,UR _,fun _=>⟨.zero _ _,.zero _ _,.zero _ _,.zero _ _,.zero _ _,.zero _ _⟩,rfl⟩ ?_;rintro _ ⟨k,b,hk,hI,rfl⟩;by_cases hlt:k<m.roles.length
 .repeat' first|refine go ?_|simp only[ab,hlt]|decide|refine sp ?_ ?_<;>intro _
  all_goals first|with_reducible exact rI wC ⟨k+1,false,by omega,(fun h=>by cases h),rfl⟩|skip
  refine al (QR m.users.length (by omega)) ?_
  repeat' first|refine go ?_|simp only[ab,hlt]|decide|refine sp ?_ ?_<;>intro _
  refine rI wC ⟨k+1,decide (m.roles[k].2<=((2 ^ m.users.length-1:Nat):Int)),by omega,fun h=>(hI (by assumption)).s1 hlt ⟨?_,?_,of_decide_eq_true h⟩,rfl⟩;all_goals(apply of_decide_eq_true;assumption)
 obtain rfl:k=m.roles.length:=by omega
 repeat' first|refine go ?_|simp only[ab,hlt]|decide|refine sp ?_ ?_<;>intro _
 clear hk hlt;refine af (fun st=>∃(k:Nat)(b:Bool),k<=m.stages.length/\(b=true->NM m m.roles.length k 0 0 0 0)/\st=⟨233,[(1,.op 0 0 0),(3,eB b),(6,eI (k:Int))],[(0,some (.box 32 (aC m)))],1⟩) (fun st=>m.stages.length-ax st 6) ⟨_,wC,0,b,UR _,hI,rfl⟩ ?_;clear hI b;rintro _ ⟨k,b,hk,hI,rfl⟩;by_cases hlt:k<m.stages.length
 .repeat' first|refine go ?_|simp only[ab,hlt]|decide|refine sp ?_ ?_<;>intro _
  all_goals first|with_reducible exact rI wC ⟨k+1,false,by omega,(fun h=>by cases h),rfl⟩|skip
  all_goals first|exact rI wC ⟨k+1,true,by omega,(fun h=>(hI (by assumption)).s2 hlt (.inl (eq_of_beq (by assumption)))),rfl⟩|skip
  refine al (uw m.stages[k].2 m.stages.length) ?_
  repeat' first|refine go ?_|simp only[ab,hlt]|decide|refine sp ?_ ?_<;>intro _
  exact rI wC ⟨k+1,df m.stages[k].2 m.stages.length,by omega,(fun h=>(hI (by assumption)).s2 hlt (.inr h)),rfl⟩
 obtain rfl:k=m.stages.length:=by omega
 repeat' first|refine go ?_|simp only[ab,hlt]|decide|refine sp ?_ ?_<;>intro _
 clear hk hlt;refine af (fun st=>∃(k:Nat)(b:Bool),k<=m.events.length/\(b=true->NM m m.roles.length m.stages.length k 0 0 0)/\st=⟨233,[(1,.op 0 0 0),(3,eB b),(8,eI (k:Int))],[(0,some (.box 32 (aC m)))],1⟩) (fun st=>m.events.length-ax st 8) ⟨_,wC,0,b,UR _,hI,rfl⟩ ?_;clear hI b;rintro _ ⟨k,b,hk,hI,rfl⟩;by_cases hlt:k<m.events.length
 .have hs:=hf.events _ (UQ hlt);obtain⟨x,hx,hxp⟩:=Mx m m.events[k].sets (by omega)
  repeat' first|refine go ?_|simp only[ab,hlt]|decide|refine sp ?_ ?_<;>intro _
  all_goals first|with_reducible exact rI wC ⟨k+1,false,by omega,(fun h=>by cases h),rfl⟩|skip
  refine al (uw _ _) ?_
  repeat' first|refine go ?_|simp only[ab,hlt]|decide|refine sp ?_ ?_<;>intro _
  all_goals first|with_reducible exact rI wC ⟨k+1,false,by omega,(fun h=>by cases h),rfl⟩|skip
  refine al (uw _ _) ?_
  repeat' first|refine go ?_|simp only[ab,hlt]|decide|refine sp ?_ ?_<;>intro _
  all_goals first|with_reducible exact rI wC ⟨k+1,false,by omega,(fun h=>by cases h),rfl⟩|skip
  refine al hx ?_
  repeat' first|refine go ?_|simp only[ab,hlt]|decide|refine sp ?_ ?_<;>intro _
  exact rI wC ⟨k+1,x,by omega,(fun h=>(hI (by assumption)).s3 hlt ⟨by assumption,by assumption,hxp h⟩),rfl⟩
 obtain rfl:k=m.events.length:=by omega
 repeat' first|refine go ?_|simp only[ab,hlt]|decide|refine sp ?_ ?_<;>intro _
 clear hk hlt;refine af (fun st=>∃(k:Nat)(b:Bool),k<=m.guards.length/\(b=true->NM m m.roles.length m.stages.length m.events.length k 0 0)/\st=⟨233,[(1,.op 0 0 0),(3,eB b),(10,eI (k:Int))],[(0,some (.box 32 (aC m)))],1⟩) (fun st=>m.guards.length-ax st 10) ⟨_,wC,0,b,UR _,hI,rfl⟩ ?_;clear hI b;rintro _ ⟨k,b,hk,hI,rfl⟩;by_cases hlt:k<m.guards.length
 .have hs:=hf.guards _ (UQ hlt)
  repeat' first|refine go ?_|simp only[ab,hlt]|decide|refine sp ?_ ?_<;>intro _
  all_goals first|with_reducible exact rI wC ⟨k+1,false,by omega,(fun h=>by cases h),rfl⟩|skip
  refine al (uw _ _) ?_
  repeat' first|refine go ?_|simp only[ab,hlt]|decide|refine sp ?_ ?_<;>intro _
  all_goals first|with_reducible exact rI wC ⟨k+1,false,by omega,(fun h=>by cases h),rfl⟩|skip
  .refine lQ (kZ m m.guards[k].cond false (by omega)) fun x hx=>?_
   repeat' first|refine go ?_|simp only[ab,hlt]|decide|refine sp ?_ ?_<;>intro _
   exact rI wC ⟨k+1,x,by omega,(fun h=>(hI (by assumption)).s4 hlt ⟨by assumption,.inl (eq_of_beq (by assumption)),(hx h).1,fun i hi=>⟨((hx h).2 i hi).1,((hx h).2 i hi).2 rfl⟩⟩),rfl⟩
  .refine al (uw _ _) ?_
   repeat' first|refine go ?_|simp only[ab,hlt]|decide|refine sp ?_ ?_<;>intro _
   all_goals first|with_reducible exact rI wC ⟨k+1,false,by omega,(fun h=>by cases h),rfl⟩|skip
   refine lQ (kZ m m.guards[k].cond false (by omega)) fun x hx=>?_
   repeat' first|refine go ?_|simp only[ab,hlt]|decide|refine sp ?_ ?_<;>intro _
   exact rI wC ⟨k+1,x,by omega,(fun h=>(hI (by assumption)).s4 hlt ⟨by assumption,.inr (by assumption),(hx h).1,fun i hi=>⟨((hx h).2 i hi).1,((hx h).2 i hi).2 rfl⟩⟩),rfl⟩
 obtain rfl:k=m.guards.length:=by omega
 repeat' first|refine go ?_|simp only[ab,hlt]|decide|refine sp ?_ ?_<;>intro _
 clear hk hlt;refine af (fun st=>∃(k:Nat)(b:Bool),k<=m.miles.length/\(b=true->NM m m.roles.length m.stages.length m.events.length m.guards.length k 0)/\st=⟨233,[(1,.op 0 0 0),(3,eB b),(12,eI (k:Int))],[(0,some (.box 32 (aC m)))],1⟩) (fun st=>m.miles.length-ax st 12) ⟨_,wC,0,b,UR _,hI,rfl⟩ ?_;clear hI b;rintro _ ⟨k,b,hk,hI,rfl⟩;by_cases hlt:k<m.miles.length
 .have hs:=hf.miles _ (UQ hlt)
  repeat' first|refine go ?_|simp only[ab,hlt]|decide|refine sp ?_ ?_<;>intro _
  all_goals first|with_reducible exact rI wC ⟨k+1,false,by omega,(fun h=>by cases h),rfl⟩|skip
  refine al (uw _ _) ?_
  repeat' first|refine go ?_|simp only[ab,hlt]|decide|refine sp ?_ ?_<;>intro _
  all_goals first|with_reducible exact rI wC ⟨k+1,false,by omega,(fun h=>by cases h),rfl⟩|skip
  .refine lQ (kZ m m.miles[k].cond false (by omega)) fun x hx=>?_
   repeat' first|refine go ?_|simp only[ab,hlt]|decide|refine sp ?_ ?_<;>intro _
   exact rI wC ⟨k+1,x,by omega,(fun h=>(hI (by assumption)).s5 hlt ⟨by assumption,.inl (eq_of_beq (by assumption)),(hx h).1,fun i hi=>⟨((hx h).2 i hi).1,((hx h).2 i hi).2 rfl⟩⟩),rfl⟩
  .refine al (uw _ _) ?_
   repeat' first|refine go ?_|simp only[ab,hlt]|decide|refine sp ?_ ?_<;>intro _
   all_goals first|with_reducible exact rI wC ⟨k+1,false,by omega,(fun h=>by cases h),rfl⟩|skip
   refine lQ (kZ m m.miles[k].cond false (by omega)) fun x hx=>?_
   repeat' first|refine go ?_|simp only[ab,hlt]|decide|refine sp ?_ ?_<;>intro _
   exact rI wC ⟨k+1,x,by omega,(fun h=>(hI (by assumption)).s5 hlt ⟨by assumption,.inr (by assumption),(hx h).1,fun i hi=>⟨((hx h).2 i hi).1,((hx h).2 i hi).2 rfl⟩⟩),rfl⟩
 obtain rfl:k=m.miles.length:=by omega
 repeat' first|refine go ?_|simp only[ab,hlt]|decide|refine sp ?_ ?_<;>intro _
 clear hk hlt;refine af (fun st=>∃(k:Nat)(b:Bool),k<=m.sods.length/\(b=true->NM m m.roles.length m.stages.length m.events.length m.guards.length m.miles.length k)/\st=⟨233,[(1,.op 0 0 0),(3,eB b),(14,eI (k:Int))],[(0,some (.box 32 (aC m)))],1⟩) (fun st=>m.sods.length-ax st 14) ⟨_,wC,0,b,UR _,hI,rfl⟩ ?_;clear hI b;rintro _ ⟨k,b,hk,hI,rfl⟩;by_cases hlt:k<m.sods.length
 .repeat' first|refine go ?_|simp only[ab,hlt]|decide|refine sp ?_ ?_<;>intro _
  refine ay (by kernel_rfl) ?_
  repeat' first|refine go ?_|simp only[ab,hlt]|decide|refine sp ?_ ?_<;>intro _
  all_goals first|with_reducible exact rI wC ⟨k+1,false,by omega,(fun h=>by cases h),rfl⟩|skip
  refine aO (uw _ _) ?_
  repeat' first|refine go ?_|simp only[ab,hlt]|decide|refine sp ?_ ?_<;>intro _
  all_goals first|with_reducible exact rI wC ⟨k+1,false,by omega,(fun h=>by cases h),rfl⟩|skip
  refine aO (uw _ _) ?_
  repeat' first|refine go ?_|simp only[ab,hlt]|decide|refine sp ?_ ?_<;>intro _
  all_goals first|with_reducible exact rI wC ⟨k+1,false,by omega,(fun h=>by cases h),rfl⟩|skip
  exact rI wC ⟨k+1,(m.sods[k].1 != m.sods[k].2),by omega,(fun h=>(hI (by assumption)).s6 hlt ⟨by assumption,by assumption,by simpa using h⟩),rfl⟩
 obtain rfl:k=m.sods.length:=by omega
 repeat' first|refine go ?_|simp only[ab,hlt]|decide|refine sp ?_ ?_<;>intro _
 exact cK ⟨_,rfl,fun h=>(hI h).named⟩
end
section
def Hs(m:aJ):List (Bool×Int):=(List.range m.guards.length).map (fun(k:Nat)=>(false,(k:Int))) ++ (List.range m.miles.length).map (fun(k:Nat)=>(true,(k:Int)))
theorem NI(m:aJ)(hg:m.guards.length<=1000)(hm:m.miles.length<=1000):am Tryz.prog 105 [.agg (aC m)] (gl 114 2 ((Hs m).map gk)):=by
 refine aa ag Tryz.func105 rfl (by decide) Tryz.ntmps105 Tryz.results105 rfl (cW _ _ _) ?_
 repeat' first|refine go ?_|decide|refine sp ?_ ?_<;>intro _
 refine af (fun st=>∃k:Nat,k<=m.guards.length/\st=⟨31,[(1,.op 0 0 0),(3,.osl 1),(8,eI (m.guards.length:Int)),(9,eI (k:Int))],[(0,some (.box 32 (aC m))),(1,some (.row 114 2 (((List.range k).map fun(k:Nat)=>(false,(k:Int))).map gk)))],2⟩) (fun st=>m.guards.length-ax st 9) ⟨_,((bq 3 114 2 (by simp only[iC,aj.get,aX,aj.put,↓reduceIte,reduceCtorEq,Nat.reduceLT,Nat.reduceEqDiff,Nat.reduceAdd,Nat.reduceLeDiff,eq_self,implies_true,Wx,Vn])).trans (wS [0,1] @Wx)),0,UR _,rfl⟩ ?_;rintro _ ⟨k,hk,rfl⟩;by_cases hlt:k<m.guards.length
 .have et:((List.range (k+1)).map fun(k:Nat)=>(false,(k:Int))).map gk=((List.range k).map fun(k:Nat)=>(false,(k:Int))).map gk ++ [gk (false,(k:Int))]:=by rw[V5];simp
  repeat' first|refine ge @hlt ?_|decide|refine sp ?_ ?_<;>intro _
  refine⟨rfl,by simp;omega,rI (wS [0,3] et) ⟨k+1,by omega,rfl⟩⟩
 obtain rfl:k=m.guards.length:=by omega
 repeat' first|refine ge @hlt ?_|decide|refine sp ?_ ?_<;>intro _
 clear hk hlt;refine af (fun st=>∃k:Nat,k<=m.miles.length/\st=⟨31,[(1,.op 0 0 0),(3,.osl 1),(20,eI (m.miles.length:Int)),(21,eI (k:Int))],[(0,some (.box 32 (aC m))),(1,some (.row 114 2 (((List.range m.guards.length).map fun(k:Nat)=>(false,(k:Int))).map gk ++ ((List.range k).map fun(k:Nat)=>(true,(k:Int))).map gk)))],2⟩) (fun st=>m.miles.length-ax st 21) ⟨_,(wS [0,1] @Wx),0,UR _,rfl⟩ ?_;rintro _ ⟨k,hk,rfl⟩;by_cases hlt:k<m.miles.length
 .have et:((List.range m.guards.length).map fun(k:Nat)=>(false,(k:Int))).map gk ++ ((List.range (k+1)).map fun(k:Nat)=>(true,(k:Int))).map gk=(((List.range m.guards.length).map fun(k:Nat)=>(false,(k:Int))).map gk ++ ((List.range k).map fun(k:Nat)=>(true,(k:Int))).map gk) ++ [gk (true,(k:Int))]:=by rw[V5];simp
  repeat' first|refine ge @hlt ?_|decide|refine sp ?_ ?_<;>intro _
  refine⟨rfl,by simp;omega,rI (wS [0,3] et) ⟨k+1,by omega,rfl⟩⟩
 obtain rfl:k=m.miles.length:=by omega
 repeat' first|refine ge @hlt ?_|decide|refine sp ?_ ?_<;>intro _
 exact aV (by simp[ae.gc,Hs])
def fb(m:aJ)(x:Bool×Int):Bool:=decide (0<=x.2) && decide (x.2<if x.1=true then (m.miles.length:Int) else (m.guards.length:Int))
theorem Ey(m:aJ)(b:Bool)(n:Int):am Tryz.prog 144 [.agg (aC m),.agg [eB b,eI n]] (val (.bool (fb m (b,n)))):=by
 refine aa ag Tryz.func144 rfl (by decide) Tryz.ntmps144 Tryz.results144 rfl (aD _) ?_;cases b
 .repeat' first|refine go ?_|decide|refine sp ?_ ?_<;>intro _
  all_goals(rename_i h;simp at h;simp[fb];omega)
 .repeat' first|refine go ?_|decide|refine sp ?_ ?_<;>intro _
  all_goals(rename_i h;simp at h;simp[fb];omega)
def iE(m:aJ)(x:Bool×Int):Int:=if x.1=true then (m.miles[x.2.toNat]?.map (·.stage)).getD 0 else (m.guards[x.2.toNat]?.map (·.stage)).getD 0
def re(m:aJ)(x:Bool×Int):List aw:=if x.1=true then (m.miles[x.2.toNat]?.map (·.cond)).getD [] else (m.guards[x.2.toNat]?.map (·.cond)).getD []
theorem vt{m:aJ}{b:Bool}{n:Int}(h:fb m (b,n)=true):∃k:Nat,n=(k:Int)/\(b=true->k<m.miles.length)/\(b=false->k<m.guards.length):=by
 simp only[fb,U1,U7] at h;obtain⟨h1,h2⟩:=h;refine⟨n.toNat,by omega,fun hb=>?_,fun hb=>?_⟩
 .subst hb;simp at h2;omega
 .subst hb;simp at h2;omega
theorem kl(m:aJ)(b:Bool)(n:Int)(h:fb m (b,n)=true):am Tryz.prog 179 [.agg (aC m),.agg [eB b,eI n]] (val (.int .i64 (iE m (b,n)))):=by
 refine aa ag Tryz.func179 rfl (by decide) Tryz.ntmps179 Tryz.results179 rfl (aD _) ?_;obtain⟨k,rfl,h1,h2⟩:=vt h;cases b
 .have hk:=h2 rfl;have e:iE m (false,(k:Int))=m.guards[k].stage:=by simp[iE,hk]
  rw[e]
  repeat' first|refine go ?_|simp only[hk,ab]|decide|refine sp ?_ ?_<;>intro _
 .have hk:=h1 rfl;have e:iE m (true,(k:Int))=m.miles[k].stage:=by simp[iE,hk]
  rw[e]
  repeat' first|refine go ?_|simp only[hk,ab]|decide|refine sp ?_ ?_<;>intro _
theorem Kr(m:aJ)(b:Bool)(n:Int)(h:fb m (b,n)=true):am Tryz.prog 147 [.agg (aC m),.agg [eB b,eI n]] ⟨bf (re m (b,n)),[],0⟩:=by
 refine aa ag Tryz.func147 rfl (by decide) Tryz.ntmps147 Tryz.results147 rfl (⟨fun id o h=>(by cases h),trivial⟩) ?_;obtain⟨k,rfl,h1,h2⟩:=vt h;cases b
 .have hk:=h2 rfl;have e:re m (false,(k:Int))=m.guards[k].cond:=by simp[re,hk]
  rw[e]
  repeat' first|refine go ?_|simp only[hk,ab]|decide|refine sp ?_ ?_<;>intro _
  exact aF (by simp[AV.ren,AV.renL])
 .have hk:=h1 rfl;have e:re m (true,(k:Int))=m.miles[k].cond:=by simp[re,hk]
  rw[e]
  repeat' first|refine go ?_|simp only[hk,ab]|decide|refine sp ?_ ?_<;>intro _
  exact aF (by simp[AV.ren,AV.renL])
theorem Aw(m:aJ)(hl:m.stages.length<=1000000):am Tryz.prog 210 [.agg (aC m)] (gl 3 1 ((pars m).map fun n=>[eI n])):=by
 refine aa ag Tryz.func210 rfl (by decide) Tryz.ntmps210 Tryz.results210 rfl (cW _ _ _) ?_
 repeat' first|refine go ?_|decide|refine sp ?_ ?_<;>intro _
 refine af (fun st=>∃k:Nat,k<=m.stages.length/\st=⟨20,[(3,.osl 0),(7,.sl 2 (m.stages.map Mq)),(8,eI m.stages.length),(9,eI (k:Int))],[(0,some (.row 3 1 ((m.stages.take k).map fun p=>[eI p.2])))],1⟩) (fun st=>m.stages.length-ax st 9) ⟨_,((bq 3 3 1 (by simp only[iC,aj.get,aX,aj.put,↓reduceIte,reduceCtorEq,Nat.reduceLT,Nat.reduceEqDiff,Nat.reduceAdd,Nat.reduceLeDiff,eq_self,implies_true,Va,Vn])).trans (wS [1] @Va)),0,UR _,rfl⟩ ?_;rintro _ ⟨k,hk,rfl⟩;by_cases hlt:k<m.stages.length
 .have et:(m.stages.take (k+1)).map (fun p=>[eI p.2])=(m.stages.take k).map (fun p=>[eI p.2]) ++ [[eI m.stages[k].2]]:=dm _ _ hlt;have el:((m.stages.take k).map fun p=>[eI p.2]).length+1<=1000000:=by simp;omega
  repeat' first|refine go ?_|simp only[ab,hlt]|decide|refine sp ?_ ?_<;>intro _
  refine⟨rfl,by simp only[U2];omega,rI (wS [3] et) ⟨k+1,by omega,rfl⟩⟩
 .obtain rfl:k=m.stages.length:=by omega
  repeat' first|refine go ?_|simp only[ab,hlt]|decide|refine sp ?_ ?_<;>intro _
  exact aV (by simp[ae.gc,pars])
end
end
section
section
theorem Jj(l:List Int)(i:Int)(hl:l.length<=1073741824)(ho:∀x∈l,aA x):am Tryz.prog 102 [sI l,eI i] (gl 3 1 ((bI l i).map fun n=>[eI n])):=
 oH (ca Tryz.func102 rfl (by decide)) fun S w vs hS hn hv=>by
  obtain⟨a,b,rfl⟩:=kR hn;obtain rfl:=y4 (hv 1 b _ rfl rfl);exact pU l a i w hl (mL (hv 0 a _ rfl rfl) hS ho)
def sG{α:Type}(p:α -> Bool)(l:List α):Int:=match l.findIdx? p with|some k=>(k:Int)|none=>-1
theorem vY{α:Type}{p:α -> Bool}{l:List α}{k:Nat}(hk:k<l.length)(h:p l[k]=true)(hn:∀i (h:i<k),p (l[i]'(by omega))=false):sG p l=(k:Int):=by
 have:l.findIdx? p=some k:=Wn.2 ⟨hk,h,fun j hj=>by simp[hn j hj]⟩;unfold sG;rw[this]
theorem p3{α:Type}{p:α -> Bool}{l:List α}(h:∀x∈l,p x=false):sG p l = -1:=by
 have:l.findIdx? p=none:=WM.2 h;unfold sG;rw[this]
theorem tZ{α:Type}(p:α -> Bool)(l:List α):(sG p l = -1/\∀x∈l,p x=false)\/∃k:Nat,∃h:k<l.length,sG p l=(k:Int)/\p l[k]=true/\∀i (h:i<k),p (l[i]'(by omega))=false:=by
 unfold sG
 cases hf:l.findIdx? p with
 | none=>exact .inl ⟨rfl,WM.1 hf⟩
 | some k=>
  obtain⟨h1,h2,h3⟩:=Wn.1 hf;exact .inr ⟨k,h1,rfl,h2,fun i hi=>by simpa using h3 i hi⟩
theorem tB{α:Type}(p:α -> Bool)(l:List α):decide (0<=sG p l)=l.any p:=by
 rcases tZ p l with ⟨h1,h2⟩|⟨k,hk,h1,h2,_⟩
 .rw [h1];symm;simpa using h2
 .rw [h1];have:l.any p=true:=WS.2 ⟨_,UQ hk,h2⟩;rw[this];simp
theorem N9(l:List Int)(n:Int)(hl:l.length<=1000000):am Tryz.prog 177 [sI l,eI n] (val (.int .i64 (sG (n == ·) l))):=by
 refine aa ag Tryz.func177 rfl (by decide) Tryz.ntmps177 Tryz.results177 rfl (aD _) ?_
 repeat' first|refine go ?_|decide|refine sp ?_ ?_<;>intro _
 refine af (fun st=>∃k:Nat,k<=l.length/\(∀i (h:i<l.length),i<k->(n == l[i])=false)/\st=⟨19,[(0,sI l),(1,eI n),(7,eI (l.length:Int)),(8,eI (k:Int))],[],0⟩) (fun st=>l.length-ax st 8) ⟨_,wC,0,UR _,fun i _ h=>by omega,rfl⟩ ?_;rintro _ ⟨k,hk,hn,rfl⟩;by_cases hlt:k<l.length
 .repeat' first|refine go ?_|simp only[ab,hlt]|decide|refine sp ?_ ?_<;>intro _
  .rename_i h;rw[vY hlt h fun i hi=>hn i (by omega) hi]
  .rename_i h;refine rI wC ⟨k+1,by omega,fun i hi h2=>?_,rfl⟩;rcases U9 i k with h3|h3
   .exact hn i hi h3
   .obtain rfl:i=k:=by omega
    exact h
 .obtain rfl:k=l.length:=by omega
  repeat' first|refine ge @hlt ?_|decide|refine sp ?_ ?_<;>intro _
  rw[p3 fun x hx=>by obtain⟨i,hi,rfl⟩:=U8 hx;exact hn i hi hi]
theorem Bz(l:List Int)(n:Int)(hl:l.length<=1000000):am Tryz.prog 142 [sI l,eI n] (val (.bool (l.any (n == ·)))):=by
 refine aa ag Tryz.func142 rfl (by decide) Tryz.ntmps142 Tryz.results142 rfl (aD _) ?_
 repeat' first|refine go ?_|decide|refine sp ?_ ?_<;>intro _
 refine al (N9 l n hl) ?_
 repeat' first|refine go ?_|decide|refine sp ?_ ?_<;>intro _
 rw[tB]
theorem Dt(g:FuncId)(caps:List AV)(l:List (aw))(p:aw->Bool)(hl:l.length<=1000000)(ht:bD caps)(hp:∀x∈l,am Tryz.prog g (.agg (gc x) :: caps) (val (.bool (p x)))):am Tryz.prog 180 [bf l,.fn g caps] (val (.int .i64 (sG p l))):=by
 refine aa ag Tryz.func180 rfl (by decide) Tryz.ntmps180 Tryz.results180 rfl (aD _) ?_;have hlt0:AV.ltL 0 caps:=t8 ht
 repeat' first|refine go ?_|decide|refine sp ?_ ?_<;>intro _
 refine af (fun st=>∃k:Nat,k<=l.length/\(∀i (h:i<l.length),i<k->p l[i]=false)/\st=⟨19,[(0,bf l),(1,.fn g caps),(7,eI (l.length:Int)),(8,eI (k:Int))],[],0⟩) (fun st=>l.length-ax st 8) ⟨_,(wE @hlt0),0,UR _,fun i _ h=>by omega,rfl⟩ ?_;rintro _ ⟨k,hk,hn,rfl⟩;by_cases hlt:k<l.length
 .repeat' first|refine go ?_|simp only[ab,hlt]|decide|refine sp ?_ ?_<;>intro _
  refine Ek (args:=[_]) ht (hp _ (UQ hlt)) ?_
  repeat' first|refine go ?_|simp only[ab,hlt]|decide|refine sp ?_ ?_<;>intro _
  .rename_i h;rw[vY hlt h fun i hi=>hn i (by omega) hi]
  .rename_i h;refine rI (wE @hlt0) ⟨k+1,by omega,fun i hi h2=>?_,rfl⟩;rcases U9 i k with h3|h3
   .exact hn i hi h3
   .obtain rfl:i=k:=by omega
    exact h
 .obtain rfl:k=l.length:=by omega
  repeat' first|refine ge @hlt ?_|decide|refine sp ?_ ?_<;>intro _
  rw[p3 fun x hx=>by obtain⟨i,hi,rfl⟩:=U8 hx;exact hn i hi hi]
theorem uk(g:FuncId)(caps:List AV)(l:List (aw))(p:aw->Bool)(hl:l.length<=1000000)(ht:bD caps)(hp:∀x∈l,am Tryz.prog g (.agg (gc x) :: caps) (val (.bool (p x)))):am Tryz.prog 146 [bf l,.fn g caps] (val (.bool (l.any p))):=by
 refine aa ag Tryz.func146 rfl (by decide) Tryz.ntmps146 Tryz.results146 rfl (aD _) ?_
 repeat' first|refine go ?_|decide|refine sp ?_ ?_<;>intro _
 refine al (by simp only[VE,Vn,gj];rw[show caps.map (gL [])=caps from mf ht];exact Dt g caps l p hl ht hp) ?_
 repeat' first|refine go ?_|decide|refine sp ?_ ?_<;>intro _
 rw[tB]
theorem uF(g:FuncId)(caps:List AV)(l:List (Bool×Int))(p:Bool×Int->Bool)(hl:l.length<=1000000)(ht:bD caps)(hp:∀x∈l,am Tryz.prog g (.agg (gk x) :: caps) (val (.bool (p x)))):am Tryz.prog 106 [.sl 2 (l.map gk),.fn g caps] (val (.int .i64 (sG p l))):=by
 refine aa ag Tryz.func106 rfl (by decide) Tryz.ntmps106 Tryz.results106 rfl (aD _) ?_;have hlt0:AV.ltL 0 caps:=t8 ht
 repeat' first|refine go ?_|decide|refine sp ?_ ?_<;>intro _
 refine af (fun st=>∃k:Nat,k<=l.length/\(∀i (h:i<l.length),i<k->p l[i]=false)/\st=⟨19,[(0,.sl 2 (l.map gk)),(1,.fn g caps),(7,eI (l.length:Int)),(8,eI (k:Int))],[],0⟩) (fun st=>l.length-ax st 8) ⟨_,(wE @hlt0),0,UR _,fun i _ h=>by omega,rfl⟩ ?_;rintro _ ⟨k,hk,hn,rfl⟩;by_cases hlt:k<l.length
 .repeat' first|refine go ?_|simp only[ab,hlt]|decide|refine sp ?_ ?_<;>intro _
  refine Ek (args:=[_]) ht (hp _ (UQ hlt)) ?_
  repeat' first|refine go ?_|simp only[ab,hlt]|decide|refine sp ?_ ?_<;>intro _
  .rename_i h;rw[vY hlt h fun i hi=>hn i (by omega) hi]
  .rename_i h;refine rI (wE @hlt0) ⟨k+1,by omega,fun i hi h2=>?_,rfl⟩;rcases U9 i k with h3|h3
   .exact hn i hi h3
   .obtain rfl:i=k:=by omega
    exact h
 .obtain rfl:k=l.length:=by omega
  repeat' first|refine ge @hlt ?_|decide|refine sp ?_ ?_<;>intro _
  rw[p3 fun x hx=>by obtain⟨i,hi,rfl⟩:=U8 hx;exact hn i hi hi]
theorem xO(g:FuncId)(caps:List AV)(l:List (Bool×Int))(p:Bool×Int->Bool)(hl:l.length<=1000000)(ht:bD caps)(hp:∀x∈l,am Tryz.prog g (.agg (gk x) :: caps) (val (.bool (p x)))):am Tryz.prog 108 [.sl 2 (l.map gk),.fn g caps] (val (.bool (l.any p))):=by
 refine aa ag Tryz.func108 rfl (by decide) Tryz.ntmps108 Tryz.results108 rfl (aD _) ?_
 repeat' first|refine go ?_|decide|refine sp ?_ ?_<;>intro _
 refine al (by simp only[VE,Vn,gj];rw[show caps.map (gL [])=caps from mf ht];exact uF g caps l p hl ht hp) ?_
 repeat' first|refine go ?_|decide|refine sp ?_ ?_<;>intro _
 rw[tB]
end
section
theorem Dw(l:List Int)(i:Int):(bI l i).length<=l.length:=by
 obtain⟨m,p,h,_⟩:=kS l i;rw[h.len];have:=h.room;omega
theorem wh{m:aJ}(hp:∀p∈m.stages,aA p.2):∀x∈pars m,aA x:=fun x hx=>by
 obtain⟨p,hp',rfl⟩:=U3.1 hx;exact hp p hp'
def qg(m:aJ)(y:Bool×Int)(s:Int):Bool:=iE m y == s || (y.1 && (bI (pars m) s).any (iE m y == ·))
theorem M5(m:aJ)(b:Bool)(n s:Int)(hm:m.stages.length<=1000000)(hp:∀p∈m.stages,aA p.2)(h:fb m (b,n)=true):am Tryz.prog 181 [.agg (aC m),.agg [eB b,eI n],eI s] (val (.bool (qg m (b,n) s))):=by
 refine aa ag Tryz.func181 rfl (by decide) Tryz.ntmps181 Tryz.results181 rfl (aD _) ?_;have hpl:(pars m).length<=1000000:=by simp[pars];omega
 have hal:=Dw (pars m) s
 repeat' first|refine go ?_|decide|refine sp ?_ ?_<;>intro _
 refine al (kl m b n h) ?_
 repeat' first|refine go ?_|decide|refine sp ?_ ?_<;>intro _
 .rename_i h1;simp[qg,h1]
 .rename_i h1 h2;refine dg (Aw m hm) (.inr bk) ?_
  repeat' first|refine go ?_|decide|refine sp ?_ ?_<;>intro _
  refine dg (Jj (pars m) s (by omega) (wh hp)) (.inr bk) ?_
  repeat' first|refine go ?_|decide|refine sp ?_ ?_<;>intro _
  refine al (Bz _ _ (by omega)) ?_
  repeat' first|refine go ?_|decide|refine sp ?_ ?_<;>intro _
  subst h2;simp only[qg,h1,Xn,VC]
 .rename_i h1 h2;subst h2;simp only[qg,h1,Xn,VK]
def jy(m:aJ)(x:aw)(y:Bool×Int):Bool:=
 if x.op=9 then qg m y x.n else if x.op=10 then (if y.1=true then y.2 == x.n else decide (0<=x.n) && decide (x.n<(m.miles.length:Int)) && (iE m y == iE m (true,x.n))) else false
theorem Nv(m:aJ)(x:aw)(b:Bool)(n:Int)(hm:m.stages.length<=1000000)(hm2:m.miles.length<=1000000)(hp:∀p∈m.stages,aA p.2)(h:fb m (b,n)=true):am Tryz.prog 149 [.agg (aC m),.agg (gc x),.agg [eB b,eI n]] (val (.bool (jy m x (b,n)))):=by
 refine aa ag Tryz.func149 rfl (by decide) Tryz.ntmps149 Tryz.results149 rfl (aD _) ?_;obtain⟨op,la,ln,ra,rn,xn,u⟩:=x
 repeat' first|refine go ?_|decide|refine sp ?_ ?_<;>intro _
 .rename_i h1;have h1:op=9:=by simpa using h1
  refine al (M5 m b n xn hm hp h) ?_
  repeat' first|refine go ?_|decide|refine sp ?_ ?_<;>intro _
  simp[jy,h1]
 .rename_i h1 h2 h3;have h1:op≠9:=by simpa using h1
  have h2:op=10:=by simpa using h2
  simp[jy,h2,h3]
 .rename_i h1 h2 h3;have h1:op≠9:=by simpa using h1
  have h2:op=10:=by simpa using h2
  have e0:jy m ⟨op,la,ln,ra,rn,xn,u⟩ (b,n)=(decide (0<=xn) && decide (xn<(m.miles.length:Int)) && (iE m (b,n) == iE m (true,xn))):=by simp[jy,h2,h3]
  rw[e0];by_cases hn:0<=xn/\xn<(m.miles.length:Int)
  .obtain ⟨j,rfl⟩:∃j:Nat,xn=(j:Int):=⟨xn.toNat,by omega⟩;have hj:j<m.miles.length:=(by omega);refine ay (by kernel_rfl) ?_
   repeat' first|refine go ?_|simp only[ab,hj]|decide|refine sp ?_ ?_<;>intro _
   refine aO (kl m b n h) ?_
   repeat' first|refine go ?_|simp only[ab,hj]|decide|refine sp ?_ ?_<;>intro _
   simp[iE,hj]
  .have hn2:decide (0<=xn)=false\/decide (xn<(m.miles.length:Int))=false:=by
    rcases Int.lt_or_le xn 0 with h|h
    .left;simp;omega
    .right;simp;omega
   rcases hn2 with hn2|hn2
   .rw [hn2];refine ay (by kernel_rfl) ?_
    repeat' first|refine ge hn2 ?_|decide|refine sp ?_ ?_<;>intro _
    all_goals simp
   .rw [hn2];refine ay (by kernel_rfl) ?_
    repeat' first|refine ge hn2 ?_|decide|refine sp ?_ ?_<;>intro _
    all_goals simp
 .rename_i h1 h2;have h1:op≠9:=by simpa using h1
  have h2:op≠10:=by simpa using h2
  simp[jy,h1,h2]
def lj(m:aJ)(x y:Bool×Int):Bool:=
 if y.1=true then false else if x.1=true then iE m x == iE m y else decide (0<=iE m x) && decide (iE m x<(m.stages.length:Int)) && ((m.stages[(iE m x).toNat]?.map (·.2)).getD 0 == iE m y)
theorem Ij(m:aJ)(bx:Bool)(nx:Int)(b:Bool)(n:Int)(hm:m.stages.length<=1000000)(hx:fb m (bx,nx)=true)(h:fb m (b,n)=true):am Tryz.prog 145 [.agg (aC m),.agg [eB bx,eI nx],.agg [eB b,eI n]] (val (.bool (lj m (bx,nx) (b,n)))):=by
 refine aa ag Tryz.func145 rfl (by decide) Tryz.ntmps145 Tryz.results145 rfl (aD _) ?_
 repeat' first|refine go ?_|decide|refine sp ?_ ?_<;>intro _
 refine al (kl m bx nx hx) ?_;generalize hsx:iE m (bx,nx)=sx
 repeat' first|refine go ?_|decide|refine sp ?_ ?_<;>intro _
 .rename_i h1;simp[lj,h1]
 .rename_i h1 h2;refine al (kl m b n h) ?_
  repeat' first|refine go ?_|decide|refine sp ?_ ?_<;>intro _
  subst h1;subst h2;simp[lj,hsx]
 .rename_i h1 h2;subst h1;subst h2;have e0:lj m (false,nx) (false,n)=(decide (0<=sx) && decide (sx<(m.stages.length:Int)) && ((m.stages[sx.toNat]?.map (·.2)).getD 0 == iE m (false,n))):=by simp[lj,hsx]
  rw[e0];by_cases hn:0<=sx/\sx<(m.stages.length:Int)
  .obtain ⟨j,rfl⟩:∃j:Nat,sx=(j:Int):=⟨sx.toNat,by omega⟩;have hj:j<m.stages.length:=(by omega);refine ay (by kernel_rfl) ?_
   repeat' first|refine go ?_|simp only[ab,hj]|decide|refine sp ?_ ?_<;>intro _
   refine aO (kl m false n h) ?_
   repeat' first|refine go ?_|simp only[ab,hj]|decide|refine sp ?_ ?_<;>intro _
   simp[hj]
  .have hn2:decide (0<=sx)=false\/decide (sx<(m.stages.length:Int))=false:=by
    rcases Int.lt_or_le sx 0 with h|h
    .left;simp;omega
    .right;simp;omega
   rcases hn2 with hn2|hn2
   .rw [hn2];refine ay (by kernel_rfl) ?_
    repeat' first|refine ge hn2 ?_|decide|refine sp ?_ ?_<;>intro _
    all_goals simp
   .rw [hn2];refine ay (by kernel_rfl) ?_
    repeat' first|refine ge hn2 ?_|decide|refine sp ?_ ?_<;>intro _
    all_goals simp
end
section
theorem KM(m:aJ)(x:aw)(b:Bool)(n:Int)(hm:m.stages.length<=1000000)(hm2:m.miles.length<=1000000)(hp:∀p∈m.stages,aA p.2)(h:fb m (b,n)=true):am Tryz.prog 148 [.agg (gc x),.rp (aC m),.rp [eB b,eI n]] (val (.bool (jy m x (b,n)))):=by
 refine aa ag Tryz.func148 rfl (by decide) Tryz.ntmps148 Tryz.results148 rfl (aD _) ?_
 repeat' first|refine go ?_|decide|refine sp ?_ ?_<;>intro _
 refine al (Nv m x b n hm hm2 hp h) ?_
 repeat' first|refine go ?_|decide|refine sp ?_ ?_<;>intro _
def gt(m:aJ)(x y:Bool×Int):Bool:=fb m x && fb m y && (lj m x y || (re m x).any fun i=>jy m i y)
theorem Jf{m:aJ}(hf:jN m)(x:Bool×Int):(re m x).length<=80:=by
 unfold re;split
 .cases h:m.miles[x.2.toNat]? with
  | none=>simp
  | some g=>exact hf.miles g (r2 h)
 .cases h:m.guards[x.2.toNat]? with
  | none=>simp
  | some g=>exact hf.guards g (r2 h)
theorem FP(m:aJ)(bx:Bool)(nx:Int)(b:Bool)(n:Int)(hf:jN m)(hp:∀p∈m.stages,aA p.2):am Tryz.prog 110 [.agg (aC m),.agg [eB bx,eI nx],.agg [eB b,eI n]] (val (.bool (gt m (bx,nx) (b,n)))):=by
 refine aa ag Tryz.func110 rfl (by decide) Tryz.ntmps110 Tryz.results110 rfl (aD _) ?_;obtain⟨hg,hm2,hm,-⟩:=id hf.sizes
 repeat' first|refine go ?_|decide|refine sp ?_ ?_<;>intro _
 refine al (Ey m bx nx) ?_
 repeat' first|refine go ?_|decide|refine sp ?_ ?_<;>intro _
 .rename_i h1;simp at h1;simp[gt,h1]
 rename_i h1;have h1:fb m (bx,nx)=true:=by simpa using h1
 refine al (Ey m b n) ?_
 repeat' first|refine go ?_|decide|refine sp ?_ ?_<;>intro _
 .rename_i h2;simp at h2;simp[gt,h2]
 rename_i h2;have h2:fb m (b,n)=true:=by simpa using h2
 refine al (Ij m bx nx b n (by omega) h1 h2) ?_
 repeat' first|refine go ?_|decide|refine sp ?_ ?_<;>intro _
 .rename_i h3;simp[gt,h1,h2,h3]
 rename_i h3;refine cL (Kr m bx nx h1) (ro) ?_;have hcl:=Jf hf (bx,nx)
 repeat' first|refine go ?_|decide|refine sp ?_ ?_<;>intro _
 refine al (uk 148 [.rp (aC m),.rp [eB b,eI n]] (re m (bx,nx)) (fun i=>jy m i (b,n)) (by omega) ⟨trivial,trivial,trivial⟩ fun x _=>KM m x b n (by omega) (by omega) hp h2) ?_
 repeat' first|refine go ?_|decide|refine sp ?_ ?_<;>intro _
 simp[gt,h1,h2,h3]
end
end
end Go.Proofs.YtglaiabelcefeaaGreat
