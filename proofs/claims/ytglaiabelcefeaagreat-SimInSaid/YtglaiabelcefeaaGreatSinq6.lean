/-
  Parts of the proof: Sinp12, Sinp13, Sinp14.
-/
import Derived.Test.YtglaiabelcefeaaGreatSinq5
import Derived.TacticsIn
import Derived.RangeFuncIn
import Derived.RangeFuncCalls
import Derived.RangeFuncRecord
import Derived.WalkKit
import Derived.WalkLawsBesides
import Derived.Test.YtglaiabelcefeaaGreatSortShelf
import Derived.Deep.LoopGhost
import Derived.Deep.Draws
import Derived.Deep.QuietTactic
import Derived.OpenShut
import Derived.ProofKit
import Derived.Lib.SlicesCompact
import Derived.Deep.AppendLies
import Derived.Deep.DeepCutAuto
import Derived.Sort.OwnSortedInts
set_option linter.unusedVariables false
set_option linter.unusedSimpArgs false
set_option linter.defProp false
set_option maxRecDepth 100000
set_option maxHeartbeats 16000000
namespace Go.Proofs.YtglaiabelcefeaaGreat
open Go.RowKit
section
section
def kr(f:Nat->Bool):Nat->Bool
 | 0=>true
 | n+1=>kr f n && f n
def jZ(f:Nat->Bool):Nat->Bool
 | 0=>false
 | n+1=>jZ f n || f n
theorem km(f:Nat->Bool):∀n,kr f n=true↔ ∀i,i<n->f i=true
 | 0=>by simp[kr]
 | n+1=>by
  rw[kr,U1,km f n];constructor
  .intro ⟨h1,h2⟩ i hi;rcases U9 i n with h|h
   .exact h1 i h
   .obtain rfl:i=n:=by omega
    exact h2
  .exact fun h=>⟨fun i hi=>h i (by omega),h n (by omega)⟩
theorem ij(f:Nat->Bool):∀n,jZ f n=true↔ ∃i,i<n/\f i=true
 | 0=>by simp[jZ]
 | n+1=>by
  rw[jZ,Wb,ij f n];constructor
  .rintro (⟨i,h1,h2⟩|h)
   .exact ⟨i,by omega,h2⟩
   .exact ⟨n,by omega,h⟩
  .rintro ⟨i,h1,h2⟩;rcases U9 i n with h|h
   .exact .inl ⟨i,h,h2⟩
   .obtain rfl:i=n:=by omega
    exact .inr h2
theorem MT{f:Nat->Bool}{k n:Nat}(hk:k<n)(h:f k=false):kr f n=false:=by
 rw[VA];intro h2;rw[(km f n).1 h2 k hk] at h;cases h
theorem l9{f:Nat->Bool}{k n:Nat}(hk:k<n)(h:f k=true):jZ f n=true:=(ij f n).2 ⟨k,hk,h⟩
theorem F1{f:Nat->Bool}{k:Nat}(h1:kr f k=true)(h:f k=true):kr f (k+1)=true:=by simp[kr,h1,h]
theorem kN{f:Nat->Bool}{k:Nat}(h1:jZ f k=false)(h:f k=false):jZ f (k+1)=false:=by simp[jZ,h1,h]
def jz(n:Int):Int:=2 ^ (max 0 (min n 31)).toNat-1
theorem NA(n:Int):am Tryz.prog 156 [eI n] (val (.int .i64 (jz n))):=by
 refine aa ag Tryz.func156 rfl (by decide) Tryz.ntmps156 Tryz.results156 rfl (aD _) ?_;have h0:¬(max 0 (min n 31)<0):=by omega
 have h2:(max 0 (min n 31)).toNat<=31:=by omega
 have h1:min (max 0 (min n 31)).toNat IntKind.i64.bits=(max 0 (min n 31)).toNat:=by
  have:IntKind.i64.bits=64:=rfl;omega
 have hp:(1:Int)<=2 ^ (max 0 (min n 31)).toNat/\(2:Int) ^ (max 0 (min n 31)).toNat<=2147483648:=by
  have h3:2 ^ (max 0 (min n 31)).toNat<=2 ^ 31:=Vp (by omega) h2;have h4:1<=2 ^ (max 0 (min n 31)).toNat:=WR;have e:(2:Int) ^ (max 0 (min n 31)).toNat=((2 ^ (max 0 (min n 31)).toNat:Nat):Int):=by simp
  rw[e];omega
 have w1:IntKind.i64.wrap (1 * 2 ^ (max 0 (min n 31)).toNat)=2 ^ (max 0 (min n 31)).toNat:=by
  rw[Int.one_mul];exact aE (by omega) (by omega)
 have w2:IntKind.i64.wrap (2 ^ (max 0 (min n 31)).toNat-1)=2 ^ (max 0 (min n 31)).toNat-1:=aE (by omega) (by omega);unfold jz
 repeat' first|refine ge (kf h0 (kf h1 (kf w1 w2))) ?_|decide|refine sp ?_ ?_<;>intro _
def lB(s n:Int):Bool:=decide (0<=s) && decide (s<=jz n)
theorem TZ(s n:Int):am Tryz.prog 115 [eI s,eI n] (val (.bool (lB s n))):=by
 refine aa ag Tryz.func115 rfl (by decide) Tryz.ntmps115 Tryz.results115 rfl (aD _) ?_;unfold lB
 repeat' first|refine gq ?_|decide|refine sp ?_ ?_<;>intro _|((with_reducible first|apply al (g:=156)|apply aO (g:=156));exact(NA _))
 all_goals simp[*]
def jF(m:aJ)(s:St)(i:Nat):Bool:=lB (s.did.getD i 0) m.users.length && decide (0<=s.cnt.getD i 0) && decide (s.cnt.getD i 0<=(m.events[i]?.map (·.times)).getD 0)
def fe(m:aJ)(s:St):Bool:=decide (s.vals.length=m.attrs.length) && decide (s.did.length=m.events.length) && decide (s.cnt.length=m.events.length) && lB s.opn m.stages.length && lB s.don m.miles.length && kr (jF m s) m.events.length
theorem oQ(m:aJ)(s:St)(hl:m.events.length<=1000000):am Tryz.prog 63 [.agg (aC m),.agg (cy s)] (val (.bool (fe m s))):=by
 refine aa ag Tryz.func63 rfl (by decide) Tryz.ntmps63 Tryz.results63 rfl (aD _) ?_
 repeat' first|refine gq ?_|decide|refine sp ?_ ?_<;>intro _|((with_reducible first|apply al (g:=115)|apply aO (g:=115));exact(TZ _ _))
 all_goals first
  | (symm;unfold fe;grind)
  | skip
 rename_i h1 h2 h3 h4 h5;have h2:s.did.length=m.events.length:=by simp at h2;omega
 have h3:s.cnt.length=m.events.length:=by simp at h3;omega
 have hall:fe m s=kr (jF m s) m.events.length:=by unfold fe;grind
 rw[hall];refine af (fun st=>∃k:Nat,k<=m.events.length/\kr (jF m s) k=true/\st=⟨87,[(2,.op 0 0 0),(3,.op 1 0 0),(51,.sl 5 (m.events.map t9)),(52,eI (m.events.length:Int)),(53,eI (k:Int))],[(0,some (.box 32 (aC m))),(1,some (.box 59 (cy s)))],2⟩) (fun st=>m.events.length-ax st 53) ⟨_,wC,0,UR _,rfl,rfl⟩ ?_;rintro _ ⟨k,hk,hI,rfl⟩;by_cases hlt:k<m.events.length
 .have hd:k<s.did.length:=by omega
  have hc:k<s.cnt.length:=by omega
  have eF:jF m s k=(lB s.did[k] m.users.length && decide (0<=s.cnt[k]) && decide (s.cnt[k]<=m.events[k].times)):=by simp[jF,hd,hc,hlt]
  repeat' first|refine gq ?_|simp only[ab,hlt,hd,hc]|decide|refine sp ?_ ?_<;>intro _|((with_reducible first|apply al (g:=115)|apply aO (g:=115));exact(TZ _ _))
  all_goals first
   | (symm;refine MT hlt ?_;rw[eF];grind)
   | exact rI wC ⟨k+1,by omega,F1 hI (by rw[eF];grind),rfl⟩
 .obtain rfl:k=m.events.length:=by omega
  repeat' first|refine gf @hlt ?_|decide|refine sp ?_ ?_<;>intro _
  exact hI.symm
def fY(m:aJ)(s:St)(k:Nat):Bool:=(m.miles[k]?.map (·.final)).getD false && aQ s.don (k:Int)
def gZ(m:aJ)(s:St):Bool:=jZ (fY m s) m.miles.length
theorem tt(m:aJ)(s:St)(hl:m.miles.length<=1000000):am Tryz.prog 188 [.agg (aC m),.agg (cy s)] (val (.bool (gZ m s))):=by
 refine aa ag Tryz.func188 rfl (by decide) Tryz.ntmps188 Tryz.results188 rfl (aD _) ?_
 repeat' first|refine gq ?_|decide|refine sp ?_ ?_<;>intro _
 unfold gZ;refine af (fun st=>∃k:Nat,k<=m.miles.length/\jZ (fY m s) k=false/\st=⟨24,[(2,.op 0 0 0),(3,.op 1 0 0),(8,.sl 5 (m.miles.map yg)),(9,eI (m.miles.length:Int)),(10,eI (k:Int))],[(0,some (.box 32 (aC m))),(1,some (.box 59 (cy s)))],2⟩) (fun st=>m.miles.length-ax st 10) ⟨_,wC,0,UR _,rfl,rfl⟩ ?_;rintro _ ⟨k,hk,hI,rfl⟩;by_cases hlt:k<m.miles.length
 .have eF:fY m s k=(m.miles[k].final && aQ s.don (k:Int)):=by simp[fY,hlt]
  repeat' first|refine gq ?_|simp only[ab,hlt]|decide|refine sp ?_ ?_<;>intro _|((with_reducible first|apply al (g:=182)|apply aO (g:=182));exact(vK _ _))
  all_goals first
   | (symm;refine l9 hlt ?_;rw[eF];grind)
   | exact rI wC ⟨k+1,by omega,kN hI (by rw[eF];grind),rfl⟩
 .obtain rfl:k=m.miles.length:=by omega
  repeat' first|refine gf @hlt ?_|decide|refine sp ?_ ?_<;>intro _
  exact hI.symm
def pH(l:List Int)(i:Int):Int:=if 0<=i/\i<(l.length:Int) then l.getD i.toNat 0 else 0
theorem T9(l:List Int)(i:Int):am Tryz.prog 190 [sI l,eI i] (val (.int .i64 (pH l i))):=by
 refine aa ag Tryz.func190 rfl (by decide) Tryz.ntmps190 Tryz.results190 rfl (aD _) ?_;unfold pH;by_cases h:0<=i/\i<(l.length:Int)
 .obtain ⟨k,rfl⟩:∃k:Nat,i=(k:Int):=⟨i.toNat,by omega⟩;have hk:k<l.length:=by omega
  rw[UZ h]
  repeat' first|refine go ?_|simp only[ab,hk]|decide|refine sp ?_ ?_<;>intro _
  all_goals grind
 .rw [UX h]
  repeat' first|refine go ?_|decide|refine sp ?_ ?_<;>intro _
  rename_i h1 h2;simp at h1 h2;omega
def yf(m:aJ)(role user:Int):Bool:=decide (0<=role) && decide (role<(m.roles.length:Int)) && decide (0<=user) && decide (user<(m.users.length:Int)) && ((m.roles[role.toNat]?).map (fun p=>aQ p.2 user)).getD false
theorem Ul(m:aJ)(role user:Int):am Tryz.prog 189 [.agg (aC m),eI role,eI user] (val (.bool (yf m role user))):=by
 refine aa ag Tryz.func189 rfl (by decide) Tryz.ntmps189 Tryz.results189 rfl (aD _) ?_;by_cases h:0<=role/\role<(m.roles.length:Int)
 .obtain ⟨k,rfl⟩:∃k:Nat,role=(k:Int):=⟨role.toNat,by omega⟩;have hk:k<m.roles.length:=by omega
  have eR:yf m k user=(decide (0<=user) && decide (user<(m.users.length:Int)) && aQ m.roles[k].2 user):=by simp[yf,hk]
  rw[eR]
  repeat' first|refine gq ?_|simp only[ab,hk]|decide|refine sp ?_ ?_<;>intro _|((with_reducible first|apply al (g:=182)|apply aO (g:=182));exact(vK _ _))
  all_goals grind
 .have eR:yf m role user=false:=by
   have:(decide (0<=role) && decide (role<(m.roles.length:Int)))=false:=by
    rw[Vy];simp only[Vf];omega
   simp[yf,this]
  rw[eR]
  repeat' first|refine gq ?_|decide|refine sp ?_ ?_<;>intro _
  all_goals first
   | rfl
   | (exfalso;grind)
def jL(m:aJ)(s:St)(event user:Int)(k:Nat):Bool:=((m.sods[k]?).map (fun x=>((x.1 == event) && aQ (pH s.did x.2) user) || ((x.2 == event) && aQ (pH s.did x.1) user))).getD false
def wK(m:aJ)(s:St)(event user:Int):Bool:=jZ (jL m s event user) m.sods.length
theorem Pm(m:aJ)(s:St)(event user:Int)(hl:m.sods.length<=1000000):am Tryz.prog 158 [.agg (aC m),.agg (cy s),eI event,eI user] (val (.bool (wK m s event user))):=by
 refine aa ag Tryz.func158 rfl (by decide) Tryz.ntmps158 Tryz.results158 rfl (aD _) ?_
 repeat' first|refine gq ?_|decide|refine sp ?_ ?_<;>intro _
 unfold wK;refine af (fun st=>∃k:Nat,k<=m.sods.length/\jZ (jL m s event user) k=false/\st=⟨47,[(2,eI event),(3,eI user),(4,.op 0 0 0),(5,.op 1 0 0),(12,.sl 2 (m.sods.map DG)),(13,eI (m.sods.length:Int)),(14,eI (k:Int))],[(0,some (.box 32 (aC m))),(1,some (.box 59 (cy s)))],2⟩) (fun st=>m.sods.length-ax st 14) ⟨_,wC,0,UR _,rfl,rfl⟩ ?_;rintro _ ⟨k,hk,hI,rfl⟩;by_cases hlt:k<m.sods.length
 .obtain ⟨⟨a,b⟩,hx⟩:∃x,m.sods[k]=x:=⟨_,rfl⟩;have ex:DG m.sods[k]=[eI a,eI b]:=by rw[hx]
  have eF:jL m s event user k=(((a == event) && aQ (pH s.did b) user) || ((b == event) && aQ (pH s.did a) user)):=by simp[jL,hlt,hx]
  repeat' first|refine gq ?_|simp only[ab,hlt,ex]|decide|refine sp ?_ ?_<;>intro _|((with_reducible first|apply al (g:=182)|apply aO (g:=182));exact(vK _ _))|((with_reducible first|apply al (g:=190)|apply aO (g:=190));exact(T9 _ _))
  all_goals first
   | (symm;refine l9 hlt ?_;rw[eF];grind)
   | exact rI wC ⟨k+1,by omega,kN hI (by rw[eF];grind),rfl⟩
 .obtain rfl:k=m.sods.length:=by omega
  repeat' first|refine gf @hlt ?_|decide|refine sp ?_ ?_<;>intro _
  exact hI.symm
noncomputable def mh(m:aJ)(event:Int):Option Ev:=if 0<=event then m.events[event.toNat]? else none
noncomputable def iI(m:aJ)(s:St)(event user:Int):Bool:=
 match mh m event with
 | none=>false
 | some x=>!gZ m s && decide (x.stage<(m.stages.length:Int)) && aQ s.opn x.stage && yf m x.role user && (decide (x.times<=0) || decide (pH s.cnt event<x.times))
theorem PT(m:aJ)(s:St)(event user:Int)(hl:m.miles.length<=1000000):am Tryz.prog 157 [.agg (aC m),.agg (cy s),eI event,eI user] (val (.bool (iI m s event user))):=by
 refine aa ag Tryz.func157 rfl (by decide) Tryz.ntmps157 Tryz.results157 rfl (aD _) ?_;by_cases h:0<=event/\event<(m.events.length:Int)
 .obtain ⟨k,rfl⟩:∃k:Nat,event=(k:Int):=⟨event.toNat,by omega⟩;have hk:k<m.events.length:=by omega
  obtain⟨x,hx⟩:∃x,m.events[k]=x:=⟨_,rfl⟩;have ee:mh m (k:Int)=some x:=by simp[mh,hk,hx]
  have eR:iI m s k user=(!gZ m s && decide (x.stage<(m.stages.length:Int)) && aQ s.opn x.stage && yf m x.role user && (decide (x.times<=0) || decide (pH s.cnt k<x.times))):=by simp only[iI,ee]
  rw[eR]
  repeat' first|refine gq ?_|simp only[ab,hk,hx]|decide|refine sp ?_ ?_<;>intro _|((with_reducible first|apply al (g:=182)|apply aO (g:=182));exact(vK _ _))|((with_reducible first|apply al (g:=188)|apply aO (g:=188));exact(tt _ _ hl))|((with_reducible first|apply al (g:=189)|apply aO (g:=189));exact(Ul _ _ _))|((with_reducible first|apply al (g:=190)|apply aO (g:=190));exact(T9 _ _))
  all_goals grind
 .have ee:mh m event=none:=by
   unfold mh;split
   .exact Vh (by omega)
   .rfl
  have eR:iI m s event user=false:=by simp only[iI,ee]
  rw[eR]
  repeat' first|refine gq ?_|decide|refine sp ?_ ?_<;>intro _|((with_reducible first|apply al (g:=188)|apply aO (g:=188));exact(tt _ _ hl))
  all_goals first
   | rfl
   | (exfalso;grind)
noncomputable def bB(m:aJ)(s:St)(event user:Int):Bool:=iI m s event user && !wK m s event user
theorem mA(m:aJ)(s:St)(event user:Int)(hl:m.miles.length<=1000000)(hl2:m.sods.length<=1000000):am Tryz.prog 116 [.agg (aC m),.agg (cy s),eI event,eI user] (val (.bool (bB m s event user))):=by
 refine aa ag Tryz.func116 rfl (by decide) Tryz.ntmps116 Tryz.results116 rfl (aD _) ?_;unfold bB
 repeat' first|refine gq ?_|decide|refine sp ?_ ?_<;>intro _|((with_reducible first|apply al (g:=157)|apply aO (g:=157));exact(PT _ _ _ _ hl))|((with_reducible first|apply al (g:=158)|apply aO (g:=158));exact(Pm _ _ _ _ hl2))
 all_goals grind
def dz(f:Nat->Bool):Nat->List Int
 | 0=>[]
 | n+1=>if f n=true then dz f n ++ [(n:Int)] else dz f n
theorem jb(f:Nat->Bool):∀n,(dz f n).length<=n
 | 0=>by simp[dz]
 | n+1=>by
  have:=jb f n;unfold dz;split
  .simp;omega
  .omega
noncomputable def fm(m:aJ)(s:St)(event:Int):List Int:=dz (fun u=>bB m s event (u:Int)) m.users.length
theorem T7(m:aJ)(s:St)(event:Int)(hl:m.miles.length<=1000000)(hl2:m.sods.length<=1000000)(hl3:m.users.length<=1000000):am Tryz.prog 64 [.agg (aC m),.agg (cy s),eI event] (gl 3 1 ((fm m s event).map fun n=>[eI n])):=by
 refine aa ag Tryz.func64 rfl (by decide) Tryz.ntmps64 Tryz.results64 rfl (cW _ _ _) ?_
 repeat' first|refine go ?_|decide|refine sp ?_ ?_<;>intro _
 unfold fm;obtain⟨f,hf⟩:∃f:Nat->Bool,f=fun u:Nat=>bB m s event (u:Int):=⟨_,rfl⟩;rw[<- hf];have e0:dz f 0=[]:=rfl;refine af (fun st=>∃k:Nat,k<=m.users.length/\st=⟨26,[(2,eI event),(3,.op 0 0 0),(4,.op 1 0 0),(7,.osl 2),(11,eI (m.users.length:Int)),(12,eI (k:Int))],[(0,some (.box 32 (aC m))),(1,some (.box 59 (cy s))),(2,some (.row 3 1 ((dz f k).map fun n=>[eI n])))],3⟩) (fun st=>m.users.length-ax st 12) ⟨_,((bq 7 3 1 (by simp only[iC,aj.get,aX,aj.put,↓reduceIte,reduceCtorEq,Nat.reduceLT,Nat.reduceEqDiff,Nat.reduceAdd,Nat.reduceLeDiff,eq_self,implies_true,e0,Vn])).trans (wS [0,1,2] e0)),0,UR _,rfl⟩ ?_;rintro _ ⟨k,hk,rfl⟩;have hlen:=jb f k;by_cases hlt:k<m.users.length
 .have hef:bB m s event (k:Int)=f k:=by rw[hf]
  repeat' first|refine gf @hlt ?_|decide|refine sp ?_ ?_<;>intro _|((refine al (mA m s event (k:Int) hl hl2) ?_;rw[hef]))
  .rename_i h
   have et:(dz f (k+1)).map (fun n=>[eI n])=(dz f k).map (fun n=>[eI n]) ++ [[eI (k:Int)]]:=by
    rw[dz,UZ h];simp
   refine⟨rfl,by omega,rI (wS [0,1,4] et) ⟨k+1,by omega,rfl⟩⟩
  .rename_i h
   have et:dz f (k+1)=dz f k:=by
    rw[dz,UX (by simp[h])]
   exact rI (wE et) ⟨k+1,by omega,rfl⟩
 .obtain rfl:k=m.users.length:=by omega
  repeat' first|refine gf @hlt ?_|decide|refine sp ?_ ?_<;>intro _
  exact aV (by simp[ae.gc])
end
section
section
variable {P:Program} {f:FuncId} {args:List AV}
theorem N1{cx:Cx}{w':World}{L:Nat->Value}{v:Value}{R:cu}(h5:R.Ok)(h7:iM cx w' R.tab L)(h8:bL cx w' R.tab L v R.r)(id:Nat):(R.frz id).Ok/\iM cx w' (R.frz id).tab L/\bL cx w' (R.frz id).tab L v (R.frz id).r:=by
 unfold cu.frz;split
 .rename_i e' sz rows hid;obtain⟨h9,h10⟩:=sQ h7 (fun k o hk=>(h5.young k o hk).2) hid;refine⟨⟨fun k o hk=>?_,nq h5.lt⟩,h9,h10 v _ h8 h5.lt⟩;simp only[ae.gc,dr] at hk;split at hk
  .cases hk
  .cases hg:R.tab.get k with
   | none=>simp[hg] at hk
   | some o'=>
    simp[hg] at hk;subst hk;exact⟨(h5.young k o' hg).1,nN (h5.young k o' hg).2⟩
 .exact ⟨h5,h7,h8⟩
theorem yP{cx:Cx}{w':World}{L:Nat->Value}{v:Value}:∀(ids:List Nat){R:cu},R.Ok->iM cx w' R.tab L->bL cx w' R.tab L v R.r->(R.frzs ids).Ok/\iM cx w' (R.frzs ids).tab L/\bL cx w' (R.frzs ids).tab L v (R.frzs ids).r
 | [],R,h1,h2,h3=>⟨h1,h2,h3⟩
 | id :: ids,R,h1,h2,h3=>by
  obtain⟨h4,h5,h6⟩:=N1 h1 h2 h3 id;exact yP ids h4 h5 h6
inductive kF:AV->AV->Prop
 | one {a b:AV} (h:rX a b):kF a b
 | tup {l l':List AV} (h:pr l l'):kF (.tup l) (.tup l')
theorem Me{w:World}{S:Nat->Prop}{K:Nat->Option (Nat×Value)}{x:Value}{av:AV}(h:RV w S K x av):av.lt 0->RT w S x av:=by
 induction h with
 | tree h=>exact fun _=>h
 | osl x id h=>exact fun h2=>by simp[AV.lt] at h2
 | op x id i j h=>exact fun h2=>by simp[AV.lt] at h2
 | agg xs cs hn hr ih=>
  intro h2;simp only[AV.lt] at h2;exact .agg xs cs hn fun j x av h3 h4=>ih j x av h3 h4 (ah.1 h2 av (r2 h4))
 | tup xs cs hn hr ih=>
  intro h2;simp only[AV.lt] at h2;exact .tup xs cs hn fun j x av h3 h4=>ih j x av h3 h4 (ah.1 h2 av (r2 h4))
 | fn f xs cs hn hr ih=>
  intro h2;simp only[AV.lt] at h2;exact .fn f xs cs hn fun j x av h3 h4=>ih j x av h3 h4 (ah.1 h2 av (r2 h4))
 | bfn f xs cs hn hr ih=>
  intro h2;simp only[AV.lt] at h2;exact .bfn f xs cs hn fun j x av h3 h4=>ih j x av h3 h4 (ah.1 h2 av (r2 h4))
theorem RT.tup_inv{w:World}{S:Nat->Prop}{x:Value}{cs:List AV}(h:RT w S x (.tup cs)):∃xs:Array Value,x=.tuple xs/\xs.size=cs.length/\∀(j:Nat)(x:Value)(av:AV),xs[j]? = some x->cs[j]? = some av->RT w S x av:=by
 cases h with
 | tup xs _ hn hr=>exact⟨xs,rfl,hn,hr⟩
theorem kF.rt{w:World}{S:Nat->Prop}{v:Value}{a b:AV}(h:kF a b)(hr:RT w S v a):RT w S v b:=by
 cases h with
 | one h=>exact h.rt hr
 | @tup l l' h=>
  obtain⟨xs,rfl,hn,hx⟩:=hr.tup_inv;obtain⟨h1,h2⟩:=h.spec;refine .tup xs l' (by omega) fun j x av h3 h4=>?_
  have hj:j<l.length:=by
   have:=(US.1 h4).1;omega
  have h5:l[j]? = some l[j]:=p0 hj;exact(h2 j _ av h5 h4).rt (hx j x _ h3 h5)
theorem fR{R:cu}(h1:bX R.n R.tab)(h2:R.r.lt R.n):R.Ok:=by
 refine⟨?_,h2⟩;revert h1;generalize R.tab=T
 induction T with
 | nil=>exact fun _ id o h=>by cases h
 | cons p T ih=>
  obtain⟨k,ob⟩:=p;intro h1 id o h;rw[ae.gc] at h
  cases ob with
  | none=>
   simp only[bX] at h1;split at h
   .cases h
   .exact ih h1 id o h
  | some ob=>
   simp only[bX] at h1;split at h
   .rename_i e;cases h;exact⟨by rw[e];exact h1.1.1,h1.1.2⟩
   .exact ih h1.2 id o h
theorem dp.tree{Post:cu->Prop}{r':AV}(h:dp P f args Post)(hl:r'.lt 0)(hp:∀R,Post R->∃ids,(R.frzs ids).r.lt 0/\kF (R.frzs ids).r r'):am P f args ⟨r',[],0⟩:=
 ⟨h.1,fun S w vs h1 h2 h3=>(h.2 S w vs h1 h2 h3).mono fun e w' ⟨v,L,R,h4,h5,h6,h7,h8⟩=>by
  obtain⟨ids,ha,hc⟩:=hp R h4;obtain⟨h9,h10,h11⟩:=yP ids h5 h7 h8;have hext:lG (Cx.mk0 S w h1) w' (R.frzs ids).tab L 0 w' [] L:=⟨fun _ _=>rfl,fun b hb=>⟨hb.1,hb.2.1,fun k o hk=>(by cases hk)⟩,fun k p _ hk=>by simp[Kx,ae.get] at hk⟩;have h12:=Me (hext.rv h11 ha) ha;exact⟨v,L,⟨r',[],0⟩,rfl,⟨fun id o hk=>(by cases hk),hl⟩,h6,⟨h10.below,fun id o hk=>(by cases hk),fun id id' o o' g hk=>(by cases hk),fun b hb=>hb.elim⟩,.tree (hc.rt h12)⟩⟩
end
theorem n5{P:Program}{f:FuncId}{args:List AV}{e:TypeId}{sz:Nat}{rows:List (List AV)}(h:dp P f args fun R=>R=gl e sz rows\/(R=val (.slice none 0 0)/\rows=[])):am P f args ⟨.sl sz rows,[],0⟩:=
 h.tree (by simp[AV.lt]) fun R hR=>by
  rcases hR with rfl|⟨rfl,rfl⟩
  .refine ⟨[0],?_⟩;have e:((gl e sz rows).frzs [0]).r=.sl sz rows:=(by simp[cu.frzs,cu.frz,gl,ae.gc,AV.frz]);rw[e];exact⟨trivial,.one (.one (.refl _))⟩
  .exact ⟨[],trivial,.one (.one (.nil sz))⟩
theorem Fe(l:List Int)(hl:l.length<=1000000):am Tryz.prog 114 [sI l] ⟨sI l,[],0⟩:=by
 refine n5 (e:=2) ?_;refine bj ag Tryz.func114 rfl (by decide) Tryz.ntmps114 Tryz.results114 rfl ?_
 repeat' first|refine go ?_|decide|refine sp ?_ ?_<;>intro _
 intro c hc
 cases c with
 | true=>
  repeat' first|refine go ?_|decide|refine sp ?_ ?_<;>intro _
  exact cK (.inr ⟨rfl,hc rfl⟩)
 | false=>
  repeat' first|refine go ?_|decide|refine sp ?_ ?_<;>intro _
  exact⟨rfl,by omega,zQ rfl (.inl rfl)⟩
theorem Kf(l:List Int)(hl:l.length<=1000000):am Tryz.prog 121 [sI l] (gl 3 1 (l.map fun n=>[eI n])):=by
 refine aa ag Tryz.func121 rfl (by decide) Tryz.ntmps121 Tryz.results121 rfl (cW _ _ _) ?_
 repeat' first|refine go ?_|decide|refine sp ?_ ?_<;>intro _
 exact⟨rfl,by omega,aV (by simp[ae.gc,Vg])⟩
theorem Ib(l:List Int)(hl:l.length<=1000000):am Tryz.prog 120 [sI l] (gl 2 1 (l.map fun n=>[eI n])):=by
 refine aa ag Tryz.func120 rfl (by decide) Tryz.ntmps120 Tryz.results120 rfl (cW _ _ _) ?_
 repeat' first|refine go ?_|decide|refine sp ?_ ?_<;>intro _
 exact⟨rfl,by omega,aV (by simp[ae.gc,Vg])⟩
def eT(m:aJ):St:=⟨m.inits,0,0,List.replicate m.events.length 0,List.replicate m.events.length 0⟩
def cH(m:aJ):cu:=⟨.agg [sI m.inits,eI 0,eI 0,.osl 0,.osl 1],[(0,some (.row 3 1 ((List.replicate m.events.length 0).map fun n=>[eI n]))),(1,some (.row 3 1 ((List.replicate m.events.length 0).map fun n=>[eI n])))],2⟩
theorem Fa(m:aJ):(cH m).Ok:=fR (by simp[cH,bX,aB.lt,AV.ltL,AV.lt]) (by simp[cH,AV.lt,AV.ltL])
theorem Pg(m:aJ)(hl:m.inits.length<=1000000)(hl2:m.events.length<=1000000):am Tryz.prog 62 [.agg (aC m)] ⟨.agg (cy (eT m)),[],0⟩:=by
 refine am.still (R:=cH m) [0,1] ?_ ?_ (by simp[AV.lt,AV.ltL])
 .refine aa ag Tryz.func62 rfl (by decide) Tryz.ntmps62 Tryz.results62 rfl (Fa _) ?_
  repeat' first|refine go ?_|decide|refine sp ?_ ?_<;>intro _
  refine aG [1] [0,1,3,4,5,7,8,9] (.three 2 (.two 6 (.exec 10 (.take 11 (.exec 12 .done))) 10 (.exec 6 (.take 11 (.exec 12 .done)))) 6 (.two 2 (.exec 10 (.take 11 (.exec 12 .done))) 10 (.exec 2 (.take 11 (.exec 12 .done)))) 10 (.two 2 (.exec 6 (.take 11 (.exec 12 .done))) 6 (.exec 2 (.take 11 (.exec 12 .done))))) (by kernel_rfl) (by simp[ae.gc]) ?_
  repeat' first|refine gq ?_|decide|refine sp ?_ ?_<;>intro _|((with_reducible apply cL (g:=114));exact(Fe _ hl);exact(ro))|(with_reducible apply And.intro)
  all_goals first
   | omega
   | exact⟨[2,3],by decide,rfl,by simp[b6,cH,ae.gc]⟩
   | exact⟨[3,2],by decide,rfl,by simp[b6,cH,ae.gc]⟩
 .simp [cH,eT,cu.frzs,cu.frz,ae.gc,AV.frz,AV.frzL,bw,aB.frz]
end
section
structure Mv where
 event:Int
 user:Int
 vals:List Int
abbrev qZ(v:Mv):List AV:=[eI v.event,eI v.user,sI v.vals]
abbrev SG(l:List Mv):AV:=.sl 3 (l.map qZ)
def gI(v:Mv):Bool:=(v.event == -1) && (v.user == -1) && decide (v.vals.length=0)
theorem pn(v:Mv):am Tryz.prog 69 [.agg (qZ v)] (val (.bool (gI v))):=by
 refine aa ag Tryz.func69 rfl (by decide) Tryz.ntmps69 Tryz.results69 rfl (aD _) ?_;unfold gI
 repeat' first|refine gq ?_|decide|refine sp ?_ ?_<;>intro _
 all_goals grind
def b7(m:aJ):St:=cP m (-1) (eT m) m.order.length
theorem OT(m:aJ)(hf:jN m)(hc:iR m)(hp:∀p∈m.stages,aA p.2)(hi:∀x∈m.inits,aA x):am Tryz.prog 26 [.agg (aC m)] ⟨.agg (cy (b7 m)),[],0⟩:=by
 refine aa ag Tryz.func26 rfl (by decide) Tryz.ntmps26 Tryz.results26 rfl (Qq _) ?_;obtain⟨-,-,-,hel,-,-,-,-,-,hil⟩:=id hf.sizes
 repeat' first|refine go ?_|decide|refine sp ?_ ?_<;>intro _
 refine aG [1] [0,1] (.exec 2 (.exec 3 (.exec 4 .done))) (by kernel_rfl) (by simp[ae.gc]) ?_
 repeat' first|refine gq ?_|decide|refine sp ?_ ?_<;>intro _|((with_reducible apply cL (g:=62));exact(Pg _ (by omega) (by omega));exact(ro))|((with_reducible apply cL (g:=61));exact(Mi m (eT m) (-1) hf hc hp hi);exact(ro))
 exact aF (by simp[AV.ren,AV.renL,b7])
theorem He(m:aJ)(hl:m.inits.length<=1000000)(hl2:m.events.length<=1000000):am Tryz.prog 72 [.agg (aC m)] ⟨.agg (cy (eT m)),[],0⟩:=by
 refine am.still (R:=⟨.agg [.osl 2,eI 0,eI 0,.osl 0,.osl 1],(2,some (.row 2 1 (m.inits.map fun n=>[eI n]))) :: (cH m).tab,3⟩) [0,1,2] ?_ ?_ (by simp[AV.lt,AV.ltL])
 .refine aa ag Tryz.func72 rfl (by decide) Tryz.ntmps72 Tryz.results72 rfl (fR (by simp[cH,bX,aB.lt,AV.ltL,AV.lt]) (by simp[AV.lt,AV.ltL])) ?_
  repeat' first|refine go ?_|decide|refine sp ?_ ?_<;>intro _
  refine aG [1] [1,2,4,6] (.three 0 (.three 3 (.two 5 (.exec 7 (.take 8 (.exec 9 .done))) 7 (.exec 5 (.take 8 (.exec 9 .done)))) 5 (.two 3 (.exec 7 (.take 8 (.exec 9 .done))) 7 (.exec 3 (.take 8 (.exec 9 .done)))) 7 (.two 3 (.exec 5 (.take 8 (.exec 9 .done))) 5 (.exec 3 (.take 8 (.exec 9 .done))))) 5 (.two 0 (.two 3 (.exec 7 (.take 8 (.exec 9 .done))) 7 (.exec 3 (.take 8 (.exec 9 .done)))) 7 (.exec 0 (.exec 3 (.take 8 (.exec 9 .done))))) 7 (.two 0 (.two 3 (.exec 5 (.take 8 (.exec 9 .done))) 5 (.exec 3 (.take 8 (.exec 9 .done)))) 5 (.exec 0 (.exec 3 (.take 8 (.exec 9 .done)))))) (by kernel_rfl) (by simp[ae.gc]) ?_
  repeat' first|refine gq ?_|decide|refine sp ?_ ?_<;>intro _|(with_reducible apply And.intro)
  all_goals first
   | omega
   | rfl
   | exact⟨[2,3,4],by decide,rfl,by simp[b6,cH,ae.gc]⟩
   | exact⟨[2,3,5],by decide,rfl,by simp[b6,cH,ae.gc]⟩
   | exact⟨[2,4,3],by decide,rfl,by simp[b6,cH,ae.gc]⟩
   | exact⟨[2,4,5],by decide,rfl,by simp[b6,cH,ae.gc]⟩
   | exact⟨[2,5,3],by decide,rfl,by simp[b6,cH,ae.gc]⟩
   | exact⟨[2,5,4],by decide,rfl,by simp[b6,cH,ae.gc]⟩
   | exact⟨[3,2,4],by decide,rfl,by simp[b6,cH,ae.gc]⟩
   | exact⟨[3,2,5],by decide,rfl,by simp[b6,cH,ae.gc]⟩
   | exact⟨[3,4,5],by decide,rfl,by simp[b6,cH,ae.gc]⟩
   | exact⟨[3,5,4],by decide,rfl,by simp[b6,cH,ae.gc]⟩
   | exact⟨[4,2,5],by decide,rfl,by simp[b6,cH,ae.gc]⟩
   | exact⟨[4,3,5],by decide,rfl,by simp[b6,cH,ae.gc]⟩
   | exact⟨[4,5,3],by decide,rfl,by simp[b6,cH,ae.gc]⟩
   | exact⟨[5,2,4],by decide,rfl,by simp[b6,cH,ae.gc]⟩
   | exact⟨[5,4,3],by decide,rfl,by simp[b6,cH,ae.gc]⟩
   | exact⟨[5,3,4],by decide,rfl,by simp[b6,cH,ae.gc]⟩
 .simp [cH,eT,cu.frzs,cu.frz,ae.gc,AV.frz,AV.frzL,bw,aB.frz]
theorem u5(m:aJ)(hf:jN m)(hp:∀p∈m.stages,aA p.2):am Tryz.prog 31 [.agg (aC m)] ⟨.agg (cy (b7 m)),[],0⟩:=by
 refine aa ag Tryz.func31 rfl (by decide) Tryz.ntmps31 Tryz.results31 rfl (Qq _) ?_;obtain⟨-,-,-,hel,-,-,-,-,-,hil⟩:=id hf.sizes;have z:cb 0:=by unfold cb;omega
 repeat' first|refine go ?_|decide|refine sp ?_ ?_<;>intro _
 refine aG [1] [0,1] (.exec 2 (.exec 3 (.exec 4 .done))) (by kernel_rfl) (by simp[ae.gc]) ?_
 repeat' first|refine gq ?_|decide|refine sp ?_ ?_<;>intro _|((with_reducible apply cL (g:=72));exact(He _ (by omega) (by omega));exact(ro))|((with_reducible apply cL (g:=71));exact(Ax m (eT m) (-1) hf hp z z);exact(ro))
 exact aF (by simp[AV.ren,AV.renL,b7])
end
section
def a7(sets mv vals:List Int):Nat->List Int
 | 0=>vals
 | k+1=>
  let v:=a7 sets mv vals k
  let a:=sets.getD k 0
  if 0<=a/\a<(v.length:Int) then v.set a.toNat (mv.getD k 0) else v
theorem cJ(sets mv vals:List Int):∀k,(a7 sets mv vals k).length=vals.length
 | 0=>rfl
 | k+1=>by
  have:=cJ sets mv vals k;unfold a7;simp only;split
  .simp [this]
  .exact this
noncomputable def dh(m:aJ)(s:St)(v:Mv):St:=
 match mh m v.event with
 | none=>s
 | some x=>⟨a7 x.sets v.vals s.vals x.sets.length,s.opn,s.don,s.did.set v.event.toNat (bn (s.did.getD v.event.toNat 0) v.user),if 0<x.times then s.cnt.set v.event.toNat (s.cnt.getD v.event.toNat 0+1) else s.cnt⟩
theorem SP(m:aJ)(s:St)(v:Mv)(e:Nat)(x:Ev)(he:v.event=(e:Int))(hlt:e<m.events.length)(hx:m.events[e]=x)(hd:e<s.did.length)(hc:e<s.cnt.length)(hv:x.sets.length<=v.vals.length)
  (hl1:s.vals.length<=1000000) (hl2:s.did.length<=1000000) (hl3:s.cnt.length<=1000000) (hl4:x.sets.length<=1000000) (hw:0<x.times -> -9223372036854775808<=s.cnt[e]/\s.cnt[e]<9223372036854775807) :
  am Tryz.prog 70 [.agg (aC m),.agg (cy s),.agg (qZ v)] ⟨.agg (cy (dh m s v)),[],0⟩:=by
 obtain⟨ve,vu,vv⟩:=v;simp only at he hv;subst he;have ee:mh m (e:Int)=some x:=by simp[mh,hlt,hx]
 have et:dh m s ⟨(e:Int),vu,vv⟩=⟨a7 x.sets vv s.vals x.sets.length,s.opn,s.don,s.did.set e (bn s.did[e] vu),if 0<x.times then s.cnt.set e (s.cnt[e]+1) else s.cnt⟩:=by
  unfold dh;simp only[ee,VD,Os,p0 hd,p0 hc,Vi]
 rw[et];refine am.still (R:=⟨.agg [.osl 0,eI s.opn,eI s.don,.osl 1,.osl 2],[(0,some (.row 2 1 ((a7 x.sets vv s.vals x.sets.length).map fun n=>[eI n]))),(1,some (.row 3 1 ((s.did.set e (bn s.did[e] vu)).map fun n=>[eI n]))),(2,some (.row 3 1 ((if 0<x.times then s.cnt.set e (s.cnt[e]+1) else s.cnt).map fun n=>[eI n])))],3⟩) [0,1,2] ?_ ?_ (by simp[AV.lt,AV.ltL])
 .refine aa ag Tryz.func70 rfl (by decide) Tryz.ntmps70 Tryz.results70 rfl (fR (by simp[bX,aB.lt,AV.ltL,AV.lt]) (by simp[AV.lt,AV.ltL])) ?_
  repeat' first|refine go ?_|simp only[ab,hlt,hx]|decide|refine sp ?_ ?_<;>intro _
  refine se (fun st'=>st'=⟨81,[(3,.op 0 0 0),(4,.op 1 0 0),(5,.op 2 0 0),(6,.op 3 0 0),(7,.op 4 0 0)],[(0,some (.box 32 (aC m))),(1,some (.box 59 [.osl 5,eI s.opn,eI s.don,.osl 6,.osl 7])),(2,some (.box 76 [eI (e:Int),eI vu,sI vv])),(3,some (.box 59 [.c (.slice none 0 0),eI 0,eI 0,.c (.slice none 0 0),.c (.slice none 0 0)])),(4,some (.box 67 (t9 x))),(5,some (.row 2 1 (s.vals.map fun n=>[eI n]))),(6,some (.row 3 1 (s.did.map fun n=>[eI n]))),(7,some (.row 3 1 (s.cnt.map fun n=>[eI n])))],8⟩) [1] [0,3,6] (.three 1 (.three 2 (.two 4 (.two 5 (.exec 7 (.take 9 (.exec 8 (.exec 10 (.take 11 (.exec 12 (.take 13 (.exec 14 .done)))))))) 7 (.take 9 (.exec 5 (.exec 8 (.exec 10 (.take 11 (.exec 12 (.take 13 (.exec 14 .done))))))))) 7 (.exec 4 (.take 9 (.exec 5 (.exec 8 (.exec 10 (.take 11 (.exec 12 (.take 13 (.exec 14 .done)))))))))) 4 (.two 2 (.two 5 (.exec 7 (.take 9 (.exec 8 (.exec 10 (.take 11 (.exec 12 (.take 13 (.exec 14 .done)))))))) 7 (.take 9 (.exec 5 (.exec 8 (.exec 10 (.take 11 (.exec 12 (.take 13 (.exec 14 .done))))))))) 7 (.exec 2 (.take 9 (.exec 5 (.exec 8 (.exec 10 (.take 11 (.exec 12 (.take 13 (.exec 14 .done)))))))))) 7 (.two 2 (.exec 4 (.take 9 (.exec 5 (.exec 8 (.exec 10 (.take 11 (.exec 12 (.take 13 (.exec 14 .done))))))))) 4 (.exec 2 (.take 9 (.exec 5 (.exec 8 (.exec 10 (.take 11 (.exec 12 (.take 13 (.exec 14 .done))))))))))) 4 (.two 1 (.two 2 (.two 5 (.exec 7 (.take 9 (.exec 8 (.exec 10 (.take 11 (.exec 12 (.take 13 (.exec 14 .done)))))))) 7 (.take 9 (.exec 5 (.exec 8 (.exec 10 (.take 11 (.exec 12 (.take 13 (.exec 14 .done))))))))) 7 (.exec 2 (.take 9 (.exec 5 (.exec 8 (.exec 10 (.take 11 (.exec 12 (.take 13 (.exec 14 .done)))))))))) 7 (.exec 1 (.exec 2 (.take 9 (.exec 5 (.exec 8 (.exec 10 (.take 11 (.exec 12 (.take 13 (.exec 14 .done))))))))))) 7 (.two 1 (.two 2 (.exec 4 (.take 9 (.exec 5 (.exec 8 (.exec 10 (.take 11 (.exec 12 (.take 13 (.exec 14 .done))))))))) 4 (.exec 2 (.take 9 (.exec 5 (.exec 8 (.exec 10 (.take 11 (.exec 12 (.take 13 (.exec 14 .done)))))))))) 4 (.exec 1 (.exec 2 (.take 9 (.exec 5 (.exec 8 (.exec 10 (.take 11 (.exec 12 (.take 13 (.exec 14 .done)))))))))))) (by kernel_rfl) (by simp[ae.gc]) ?_ ?_
  .repeat' first|refine gq ?_|decide|refine sp ?_ ?_<;>intro _|((with_reducible apply dg (g:=120));exact(Ib _ hl1);exact(.inr bk))|((with_reducible apply dg (g:=121));exact(Kf _ hl2);exact(.inr bk))|((with_reducible apply dg (g:=121));exact(Kf _ hl3);exact(.inr bk))|(with_reducible apply And.intro)
   all_goals exact dZ (wR [0,1,2,3,4,5,6,7]) rfl
  .rintro _ rfl;have es0:a7 x.sets vv s.vals 0=s.vals:=rfl
   repeat' first|refine go ?_|decide|refine sp ?_ ?_<;>intro _
   refine af (fun st'=>∃k:Nat,k<=x.sets.length/\st'=⟨81,[(3,.op 0 0 0),(4,.op 1 0 0),(5,.op 2 0 0),(6,.op 3 0 0),(7,.op 4 0 0),(29,sI x.sets),(30,eI (x.sets.length:Int)),(31,eI (k:Int))],[(0,some (.box 32 (aC m))),(1,some (.box 59 [.osl 5,eI s.opn,eI s.don,.osl 6,.osl 7])),(2,some (.box 76 [eI (e:Int),eI vu,sI vv])),(3,some (.box 59 [.c (.slice none 0 0),eI 0,eI 0,.c (.slice none 0 0),.c (.slice none 0 0)])),(4,some (.box 67 (t9 x))),(5,some (.row 2 1 ((a7 x.sets vv s.vals k).map fun n=>[eI n]))),(6,some (.row 3 1 (s.did.map fun n=>[eI n]))),(7,some (.row 3 1 (s.cnt.map fun n=>[eI n])))],8⟩) (fun st'=>x.sets.length-ax st' 31) ⟨_,(wE es0),0,UR _,rfl⟩ ?_;rintro _ ⟨k,hk,rfl⟩;have hsl:=cJ x.sets vv s.vals k;by_cases hk2:k<x.sets.length
   .have hkv:k<vv.length:=(by omega);obtain⟨a,ha⟩:∃a,x.sets[k]=a:=⟨_,rfl⟩;by_cases hin:0<=a/\a<((a7 x.sets vv s.vals k).length:Int)
    .obtain ⟨q,rfl⟩:∃q:Nat,a=(q:Int):=⟨a.toNat,by omega⟩;have hq:q<(a7 x.sets vv s.vals k).length:=(by omega)
     have ev:a7 x.sets vv s.vals (k+1)=(a7 x.sets vv s.vals k).set q vv[k]:=by
      rw[a7];simp only[Os,p0 hk2,p0 hkv,Vi,ha];rw[UZ (by omega)];rfl
     have es:((a7 x.sets vv s.vals k).map fun n=>[eI n]).set q [eI vv[k]]=(a7 x.sets vv s.vals (k+1)).map fun n=>[eI n]:=(by rw[ev,WH]);have hq1:decide ((q:Int)<(((a7 x.sets vv s.vals k).length:Nat):Int))=true:=by simp;omega
     repeat' first|refine go ?_|simp only[ab,hk2,ha,hq1,hkv]|decide|refine sp ?_ ?_<;>intro _
     .refine aG [5] [0,1,2,3,4,5,6,7,8] (.exec 9 .done) (by kernel_rfl) (by simp[ae.gc]) ?_
      repeat' first|refine go ?_|simp only[ab,hk2,ha,hkv,hq]|decide|refine sp ?_ ?_<;>intro _
      exact rI (wE es) ⟨k+1,by omega,rfl⟩
     .rename_i h;simp at h;omega
    .have ev:a7 x.sets vv s.vals (k+1)=a7 x.sets vv s.vals k:=by
      rw[a7];simp only[Os,p0 hk2,Vi,ha];rw[UX hin]
     repeat' first|refine go ?_|simp only[ab,hk2,ha,hkv]|decide|refine sp ?_ ?_<;>intro _
     all_goals first
      | exact rI (wE ev) ⟨k+1,by omega,rfl⟩
      | (exfalso;simp at *;omega)
   .obtain rfl:k=x.sets.length:=by omega
    repeat' first|refine ge hk2 ?_|decide|refine sp ?_ ?_<;>intro _
    refine aG [6] [0,1,2,3,4,5,6,7,8,10,11] (.exec 9 (.exec 12 (.take 13 (.exec 14 .done)))) (by kernel_rfl) (by simp[ae.gc]) ?_;have eds:((s.did.map fun n=>[eI n]).set e [eI (bn s.did[e] vu)])=(s.did.set e (bn s.did[e] vu)).map fun n=>[eI n]:=(by rw[WH])
    repeat' first|refine gq ?_|simp only[ab,hd]|decide|refine sp ?_ ?_<;>intro _|((with_reducible first|apply al (g:=122)|apply aO (g:=122));exact(Ch _ _))
    .rename_i ht;have ht:0<x.times:=(by simpa using ht);have hw':=hw ht;have ew:IntKind.i64.wrap (s.cnt[e]+1)=s.cnt[e]+1:=aE (by omega) (by omega)
     repeat' first|refine go ?_|simp only[ab,hc,ew]|decide|refine sp ?_ ?_<;>intro _
     rw[UZ ht];exact⟨[5,6,7],by decide,rfl,by simp[b6,ae.gc,WH]⟩
    .rename_i ht;have ht:¬0<x.times:=by simp at ht;omega
     rw[UX ht];exact⟨[5,6,7],by decide,rfl,by simp[b6,ae.gc,WH]⟩
 .simp [cu.frzs,cu.frz,ae.gc,AV.frz,AV.frzL,bw,aB.frz]
noncomputable def tu(m:aJ)(s:St):Bool:=jZ (fun e=>jZ (fun u=>bB m s (e:Int) (u:Int)) m.users.length) m.events.length
def fP(m:aJ)(event:Int):Nat:=((m.events[event.toNat]?).map (fun x=>x.sets.length)).getD 0
noncomputable def gD(m:aJ)(s:St)(v:Mv):Int:=
 if fe m s=false then 15 else if gI v=true then (if tu m s=true then 16 else 0) else if bB m s v.event v.user=false then 16 else if v.vals.length=fP m v.event then 0 else 17
theorem ks{m:aJ}{s:St}{event user:Int}(h:bB m s event user=true):∃k:Nat,event=(k:Int)/\∃h:k<m.events.length,mh m event=some m.events[k]:=by
 unfold bB iI at h;unfold mh at h ⊢;by_cases h0:0<=event
 .rw [UZ h0] at h ⊢
  cases hk:m.events[event.toNat]? with
  | none=>rw[hk] at h;simp at h
  | some x=>
   obtain⟨h1,h2⟩:=US.1 hk;exact⟨event.toNat,by omega,h1,by rw[h2]⟩
 .rw [UX h0] at h;simp at h
theorem TX(m:aJ)(s:St)(v:Mv)(hf:jN m)(hany:gI v=true->am Tryz.prog 119 [.agg (aC m),.agg (cy s)] (val (.bool (tu m s)))):am Tryz.prog 68 [.agg (aC m),.agg (cy s),.agg (qZ v)] (val (.int .i64 (gD m s v))):=by
 refine aa ag Tryz.func68 rfl (by decide) Tryz.ntmps68 Tryz.results68 rfl (aD _) ?_;obtain⟨hgl,hml,hsl,hel,hal,hul,hrl,hsol,hol,hil⟩:=id hf.sizes;obtain⟨ve,vu,vv⟩:=v
 cases hid:gI ⟨ve,vu,vv⟩ with
 | true=>
  unfold gD;simp only[hid]
  repeat' first|refine gf @hid ?_|decide|refine sp ?_ ?_<;>intro _|((with_reducible first|apply al (g:=63)|apply aO (g:=63));exact(oQ _ _ (by omega)))|((with_reducible first|apply al (g:=69)|apply aO (g:=69));exact(pn ⟨ve,vu,vv⟩))|refine cA (hany hid) ?_|fail
  all_goals grind
 | false=>
  cases hen:bB m s ve vu with
  | false=>
   unfold gD;simp only[hid,hen]
   repeat' first|refine gf (kf @hid @hen) ?_|decide|refine sp ?_ ?_<;>intro _|((with_reducible first|apply al (g:=63)|apply aO (g:=63));exact(oQ _ _ (by omega)))|((with_reducible first|apply al (g:=69)|apply aO (g:=69));exact(pn ⟨ve,vu,vv⟩))|((with_reducible first|apply al (g:=116)|apply aO (g:=116));exact(mA m s ve vu (by omega) (by omega)))
   all_goals grind
  | true=>
   obtain⟨k,rfl,hk,hk2⟩:=ks hen;have hsl:fP m (k:Int)=m.events[k].sets.length:=(by simp[fP,hk]);unfold gD;simp only[hid,hen,hsl]
   repeat' first|refine gq ?_|simp only[hid,hen,ab,hk]|decide|refine sp ?_ ?_<;>intro _|((with_reducible first|apply al (g:=63)|apply aO (g:=63));exact(oQ _ _ (by omega)))|((with_reducible first|apply al (g:=69)|apply aO (g:=69));exact(pn ⟨(k:Int),vu,vv⟩))|((with_reducible first|apply al (g:=116)|apply aO (g:=116));exact(mA m s (k:Int) vu (by omega) (by omega)))
   all_goals grind
def l7:St:=⟨[],0,0,[],[]⟩
noncomputable def iU(m:aJ)(s:St)(v:Mv):St×Int:=
 if gD m s v=0 then (if gI v=true then s else cP m v.event (dh m s v) m.order.length,0) else (l7,gD m s v)
theorem lE{r' av:AV}{st:aj}(hr:av.ren []=av)(hl:av.lt 0)(hf:kF av r'):∃R:cu,(∃ids,(R.frzs ids).r.lt 0/\kF (R.frzs ids).r r')/\R.Ok/\fp R st av:=⟨⟨av,[],0⟩,⟨[],hl,hf⟩,⟨fun id o h=>(by cases h),hl⟩,aF hr⟩
theorem vN(m:aJ)(s:St)(v:Mv)(hs:∀x∈s.vals,aA x)(hv:∀x∈v.vals,aA x):∀x∈(dh m s v).vals,aA x:=by
 unfold dh;split
 .exact hs
 .rename_i x hx;simp only;generalize x.sets.length=n
  induction n with
  | zero=>exact hs
  | succ k ih=>
   unfold a7;simp only;split
   .intro y hy;rcases V9 hy with h|h
    .exact ih y h
    .rw [h,Os];by_cases hk:k<v.vals.length
     .rw [p0 hk];exact hv _ (UQ hk)
     .rw [Vh (by omega)];unfold aA;simp
   .exact ih
theorem UD(m:aJ)(s:St)(v:Mv)(hf:jN m)(hfs:O0 s)(hvl:v.vals.length<=1000000)(hc:iR m)(hp:∀p∈m.stages,aA p.2)(hs:∀x∈s.vals,aA x)(hv:∀x∈v.vals,aA x)(ht:∀e∈m.events,aA e.times)
  (hany:gI v=true->am Tryz.prog 119 [.agg (aC m),.agg (cy s)] (val (.bool (tu m s)))):am Tryz.prog 30 [.agg (aC m),.agg (cy s),.agg (qZ v)] ⟨.tup [.agg (cy (iU m s v).1),eI (iU m s v).2],[],0⟩:=by
 refine dp.tree (Post:=fun R=>∃ids,(R.frzs ids).r.lt 0/\kF (R.frzs ids).r (.tup [.agg (cy (iU m s v).1),eI (iU m s v).2])) ?_ (by simp[AV.lt,AV.ltL]) fun R h=>h;refine bj ag Tryz.func30 rfl (by decide) Tryz.ntmps30 Tryz.results30 rfl ?_;have hmay:=TX m s v hf hany;have hnil:kF (.tup [.agg [.c (.slice none 0 0),eI 0,eI 0,.c (.slice none 0 0),.c (.slice none 0 0)],eI (gD m s v)]) (.tup [.agg (cy l7),eI (gD m s v)]):=.tup ⟨.agg ⟨.nil 1,.refl _,.refl _,.nil 1,.nil 1,trivial⟩,.one (.refl _),trivial⟩;have hz:((0:Int) != 0)=false:=by decide
 by_cases h0:gD m s v=0
 .cases hid:gI v with
  | true=>
   have ed:iU m s v=(s,0):=(by simp[iU,h0,hid]);rw[ed]
   repeat' first|refine gf (kf h0 (kf hz @hid)) ?_|decide|refine sp ?_ ?_<;>intro _|refine cA hmay ?_|((with_reducible first|apply al (g:=69)|apply aO (g:=69));exact(pn v))
   all_goals exact lE (by simp[AV.ren,AV.renL]) (by simp[AV.lt,AV.ltL]) (.tup ⟨.one (.refl _),.one (.refl _),trivial⟩)
  | false=>
   have ed:iU m s v=(cP m v.event (dh m s v) m.order.length,0):=(by simp[iU,h0,hid]);rw[ed]
   have hen:bB m s v.event v.user=true/\v.vals.length=fP m v.event/\fe m s=true:=by
    unfold gD at h0
    grind
   obtain⟨k,hke,hk,hk2⟩:=ks hen.1;have hsl:fP m v.event=m.events[k].sets.length:=(by simp[fP,hk,hke]);obtain⟨hl1,hl2,hl3⟩:=hfs;have hck:=hen.2.2;unfold fe at hck;simp only[U1,U7] at hck;obtain⟨⟨⟨⟨⟨hc1,hc2⟩,hc3⟩,-⟩,-⟩,hall⟩:=hck;have hd:k<s.did.length:=(by omega);have hcn:k<s.cnt.length:=(by omega);have hat:=(km _ _).1 hall k hk;simp only[jF,Os,p0 hd,p0 hcn,p0 hk,Vi,Vz,U1,U7] at hat
   have hfree:0<m.events[k].times->s.cnt[k]<m.events[k].times:=fun h1=>by
    have h2:=hen.1;unfold bB iI at h2;rw[hk2] at h2;simp only[U1,Wb,U7] at h2;have h3:=h2.1.2;unfold pH at h3;rw[hke,UZ (by omega)] at h3;simp only[VD,Os,p0 hcn,Vi] at h3;omega
   have htm:=ht _ (UQ hk);unfold aA at htm;have htk:=SP m s v k m.events[k] hke hk rfl hd hcn (by omega) (by omega) (by omega) (by omega) (by omega) (fun h1=>by have:=hfree h1;omega);have hps:=Mi m (dh m s v) v.event hf hc hp (vN m s v hs hv)
   repeat' first|refine ge (kf h0 (kf hz @hid)) ?_|decide|refine sp ?_ ?_<;>intro _
   refine al hmay ?_
   repeat' first|refine ge (kf h0 (kf hz @hid)) ?_|decide|refine sp ?_ ?_<;>intro _
   refine al (by exact pn v) ?_
   repeat' first|refine ge (kf h0 (kf hz @hid)) ?_|decide|refine sp ?_ ?_<;>intro _
   refine aG [3] [0,1,2,3,5,6] (.exec 4 (.exec 7 (.exec 8 (.exec 9 .done)))) (by kernel_rfl) (by simp[ae.gc]) ?_
   repeat' first|refine gf (kf h0 (kf hz @hid)) ?_|decide|refine sp ?_ ?_<;>intro _|refine cA htk ?_|refine cA hps ?_|fail
   all_goals exact lE (by simp[AV.ren,AV.renL]) (by simp[AV.lt,AV.ltL]) (.tup ⟨.one (.refl _),.one (.refl _),trivial⟩)
 .have ed:iU m s v=(l7,gD m s v):=by simp[iU,h0]
  have h0':(gD m s v != 0)=true:=by simp[h0]
  rw[ed]
  repeat' first|refine gf h0' ?_|decide|refine sp ?_ ?_<;>intro _|refine cA hmay ?_|((with_reducible first|apply al (g:=69)|apply aO (g:=69));exact(pn v))
  all_goals exact lE (by simp[AV.ren,AV.renL]) (by simp[AV.lt,AV.ltL]) hnil
end
end
section
section
section
variable {P:Program} {cx:Cx} {a:Act} {w w' w'':World} {st:aj} {tab tab' tab'':ae} {L L' L'':Nat->Value} {nx nx' nx'':Nat}
theorem bJ(st:aj)(d:Option Nat)(av:AV):(st.put d av).tab=st.tab:=by cases d<;>rfl
theorem bG(st:aj)(d:Option Nat)(av:AV):(st.put d av).next=st.next:=by cases d<;>rfl
theorem qa(h:aH cx a w st L)(hb:Below w.heap.size w w'){v:Value}{ob:aB}(hnew:∀g,aL v=some g->w.heap.size<=g):Fr cx w st.tab L st.next w' ((st.next,some ob) :: st.tab) (bp L st.next v) (st.next+1):=
 pa (fun id o hid=>(h.young id o hid).1) hb (fun id hid=>by unfold bp;rw[ae.gc,UX (by omega),UX (by omega)];exact⟨rfl,rfl⟩)
  (fun id o g h1 h2 h3=>by
   rw[ae.gc] at h2;unfold bp at h3;split at h2
   .rename_i e;rw[UZ e] at h3;exact hnew g h3
   .have:=(h.young id o h2).1;omega) (VF _)
theorem rK{id:Nat}{o o':aB}(hid:st.tab.get id=some o)(hsz:o'.sz=o.sz)(hs:w'.heap.size=w.heap.size)(hb:∀k,aL (L id)≠some k->w'.heap[k]? = w.heap[k]?):Fr cx w st.tab L st.next w' ((id,some o') :: st.tab) L st.next:=by
 have hget:∀k ok,ae.get ((id,some o') :: st.tab) k=some ok->∃ok',st.tab.get k=some ok' /\ ok.sz=ok'.sz:=fun k ok hk=>by
  rw[ae.gc] at hk;split at hk
  .rename_i e;cases hk;exact⟨o,by rw[e];exact hid,hsz⟩
  .exact ⟨ok,hk,rfl⟩
 refine⟨⟨fun b hb'=>hb b (hb'.2.2 id o hid),fun b hb'=>⟨by rw[hs];exact hb'.1,hb'.2.1,fun k ok hk=>?_⟩,fun k p _ hk=>?_⟩,by rw[hs];exact UU _,fun k hk hn=>hb k (hn id o hid),fun k ok g h1 h2 _=>?_,UU _⟩
 .obtain ⟨ok',h1,_⟩:=hget k ok hk;exact hb'.2.2 k ok' h1
 .unfold Kx at *
  cases ho:ae.get ((id,some o') :: st.tab) k with
  | none=>simp[ho] at hk
  | some ok=>
   obtain⟨ok',h1,h2⟩:=hget k ok ho;rw[h1];simpa[ho,h2] using hk
 .obtain ⟨ok',h3,_⟩:=hget k ok h1;exact⟨k,ok',h3,h2⟩
theorem J7(h:aH cx a w st L){v v':Value}{oid:Option Nat}{ob:aB}(hg:w.grownBy w' v.ownBlock)(hv:aL v'=v.ownBlock\/aL v'=some w.heap.size)
  (hown:∀g,v.ownBlock=some g->∃id,oid=some id/\aL (L id)=some g) (hoid:∀id,oid=some id->∃o,st.tab.get id=some o):Fr cx w st.tab L st.next w' (bO st.tab st.next oid ob) (bp L st.next v') (st.next+1):=by
 have hnot:∀k,(∀id o,st.tab.get id=some o->aL (L id)≠some k)->some k≠v.ownBlock:=fun k hn e=>by
  obtain⟨id,h1,h2⟩:=hown k e.symm;obtain⟨o,h3⟩:=hoid id h1;exact hn id o h3 h2
 have hget:∀k ok,(bO st.tab st.next oid ob).get k=some ok->k=st.next\/(k<st.next/\st.tab.get k=some ok):=fun k ok hk=>by
  rw[bH] at hk;split at hk
  .exact .inl (by assumption)
  .split at hk
   .cases hk
   .exact .inr ⟨(h.young k ok hk).1,hk⟩
 refine⟨⟨fun b hb=>hg.block b hb.1 (hnot b hb.2.2),fun b hb=>⟨UY hb.1 hg.size,hb.2.1,fun k ok hk=>?_⟩,fun k p hlt hk=>?_⟩,hg.size,fun k hk hn=>hg.block k hk (hnot k hn),fun k ok g h1 h2 hlt=>?_,VF _⟩
 .unfold bp;rcases hget k ok hk with rfl|⟨hlt,ho⟩
  .rw [UZ rfl];rcases hv with hv|hv
   .rw [hv];exact fun e=>hnot b hb.2.2 e.symm
   .rw [hv];intro e;cases e;exact absurd hb.1 (by omega)
  .rw [UX (by omega)];exact hb.2.2 k ok ho
 .unfold Kx bp at *;rw[UX (by omega)] at hk
  cases ho:(bO st.tab st.next oid ob).get k with
  | none=>simp[ho] at hk
  | some ok=>
   rcases hget k ok ho with rfl|⟨_,h1⟩
   .omega
   .rw [h1];rw[ho] at hk;exact hk
 .unfold bp at h2;rcases hget k ok h1 with rfl|⟨hlt',ho⟩
  .rw [UZ rfl] at h2;rcases hv with hv|hv
   .rw [hv] at h2;obtain⟨id,h3,h4⟩:=hown g h2;obtain⟨o,h5⟩:=hoid id h3;exact⟨id,o,h5,h4⟩
   .rw [hv] at h2;cases h2;omega
  .rw [UX (by omega)] at h2;exact⟨k,ok,ho,h2⟩
abbrev Cy(cx:Cx)(a:Act)(w:World)(st:aj)(L:Nat->Value)(K:aj->Prop):Act->World->Prop:=fun a' w'=>∃st' L',K st' /\ aH cx a' w' st' L' /\ Fr cx w st.tab L st.next w' st'.tab L' st'.next/\a'.defers=a.defers
theorem a8(a:Act)(d:Option Nat)(v:Value):(a.put d v).defers=a.defers:=by cases d<;>rfl
theorem oc{o:Oper}{K:aj->Prop}{Q:Exit->Act->World->Prop}(h:aH cx a w st L)(hp:cj P st.tab (bb st) o.op (aK st o.dst K)):o.wp P a w (Cy cx a w st L K) Q:=by
 obtain⟨v,av,h1,h2,h3,h4,_⟩:=li h.lay (fun id o hid=>(h.young id o hid).2) (ak h) hp;exact aU (h4 w (Below.refl _ _)) ⟨_,L,h1,bh h h2 h3 o.dst,(by rw[bJ,bG];exact Fr.refl),a8 _ _ _⟩
def Lk(o:Oper):Bool:=match o.op with
 | .defer _=>false
 | _=>true
theorem rL{id:Nat}{o ob:aB}{v':Value}(h:aH cx a w st L)(hid:st.tab.get id=some o)(hv:aL v'=aL (L id)):Fr cx w st.tab L st.next w (bO st.tab st.next (some id) ob) (bp L st.next v') (st.next+1):=by
 have hget:∀k ok,(bO st.tab st.next (some id) ob).get k=some ok->k=st.next\/(k<st.next/\st.tab.get k=some ok):=fun k ok hk=>by
  rw[bH] at hk;split at hk
  .exact .inl (by assumption)
  .split at hk
   .cases hk
   .exact .inr ⟨(h.young k ok hk).1,hk⟩
 refine⟨⟨fun _ _=>rfl,fun b hb=>⟨hb.1,hb.2.1,fun k ok hk=>?_⟩,fun k p hlt hk=>?_⟩,UU _,fun _ _ _=>rfl,fun k ok g h1 h2 _=>?_,VF _⟩
 .unfold bp;rcases hget k ok hk with rfl|⟨hlt,ho⟩
  .rw [UZ rfl,hv];exact hb.2.2 id o hid
  .rw [UX (by omega)];exact hb.2.2 k ok ho
 .unfold Kx bp at *;rw[UX (by omega)] at hk
  cases ho:(bO st.tab st.next (some id) ob).get k with
  | none=>simp[ho] at hk
  | some ok=>
   rcases hget k ok ho with rfl|⟨_,h1⟩
   .omega
   .rw [h1];rw[ho] at hk;exact hk
 .unfold bp at h2;rcases hget k ok h1 with rfl|⟨hlt',ho⟩
  .rw [UZ rfl,hv] at h2;exact⟨id,o,hid,h2⟩
  .rw [UX (by omega)] at h2;exact⟨k,ok,ho,h2⟩
theorem CB{t:TypeId}{x:Operand}{lo hi mx:Option Operand}{K:aj->Prop}{Q:Exit->Act->World->Prop}{ty:TypeId}{dst:Option Nat}{pos:String}{aft:Array Edge}{gd:Option (Nat×Bool)}(h:aH cx a w st L)
  (hp:jK P t st (bb st x) (lo.map (bb st)) (hi.map (bb st)) (mx.map (bb st)) dst K):Oper.wp (P:=P) ⟨dst,.slice t x lo hi mx,ty,pos,aft,gd⟩ a w (Cy cx a w st L K) Q:=by
 unfold jK at hp;split at hp
 .rename_i id hx;have hv:=(ak h x).1;rw[hx] at hv;split at hp
  .rename_i e sz rows hid;unfold oK at hp;split at hp
   .rename_i l h' hl hh;obtain⟨⟨h1,h2⟩,⟨rfl,h4,h5,h6⟩,h7⟩:=hp;obtain⟨hu,hsz⟩:=jv (P:=P) (t:=t) (by omega);have hvL:=hv.osl_inv _ _ (cN hid);obtain⟨hrow,xs,hown,hone,hx'⟩:=h.lay.objs id _ hid;have hs:=dK (P:=P) (t:=(bA P t).1) (by omega) w;rw[hsz,h1] at hs
    have key:∀A cap,L id=.slice A rows.length cap->rows.length<=cap->∃m,h'.toNat<=m/\m<=cap/\(Instr.sliceBounds true rows.length cap (lo.map a.eval) (hi.map a.eval) (mx.map a.eval)).run P w=.ok (0,h'.toNat,m) w:=by
     intro A cap hL hc;have hlo:=qE (d:=0) (n:=0) (fun x=>(ak h x).1) hl (by omega) rfl;have hhi:=qE (d:=rows.length) (n:=h'.toNat) (fun x=>(ak h x).1) hh (by omega) rfl
     cases mx with
     | none=>exact⟨cap,by omega,UU _,gX hlo hhi (.inl ⟨rfl,rfl⟩) (by omega) (by omega)⟩
     | some q=>
      have hq:=(ak h q).1;simp only[Vz] at h6 ⊢;unfold Gy at h6;split at h6
      .rename_i hq';cases hq'
      .rename_i k m hq'
       injection hq' with hq'
       rw[hq'] at hq;obtain⟨rfl,hb⟩:=h6;refine⟨m.toNat,UU _,by omega,gX hlo hhi (.inr ⟨rfl,⟨k,by rw[hq.c_inv,Int.toNat_of_nonneg h4]⟩,fun hn=>?_⟩) (by omega) (by omega)⟩
       cases hi with
       | none=>simp at hb
       | some _=>cases hn
      .exact h6.elim
    rcases hown.2 with ⟨hL,h0⟩|⟨g,cap,cur,hL,hb,hh',hc,hm,hcs,htake⟩
    .obtain ⟨m,hm1,hm2,hr⟩:=key none 0 (by rw[hL,h0]) (by omega);have hm0:m=0:=(by omega);have hn0:h'.toNat=0:=(by omega);refine aU (v:=.slice none 0 0) ?_ ⟨_,_,h7,kW (n:=h'.toNat) h hid (by omega) (.inl ⟨hL,rfl⟩) dst,(by rw[bJ,bG];exact rL h hid (by rw[hL])),a8 _ _ _⟩;rw[h0] at hr;simp[execOp,Sem.run_bind,hvL,hL,Instr.sliceAt,Instr.slice,run_underlying hu,hr,hs,hm0,hn0]
    .obtain ⟨m,hm1,hm2,hr⟩:=key _ cap hL hc;refine aU (v:=.slice (some ⟨g,0,none⟩) h'.toNat m) ?_ ⟨_,_,h7,kW (n:=h'.toNat) h hid (by omega) (.inr ⟨g,cap,m,hL,rfl,hm1,hm2⟩) dst,(by rw[bJ,bG];exact rL h hid (by rw[hL];rfl)),a8 _ _ _⟩;simp[execOp,Sem.run_bind,hvL,hL,Instr.sliceAt,Instr.slice,run_underlying hu,hr,hs,Addr.add_lit]
   .exact hp.elim
  .exact hp.elim
 .exact oc (o:=⟨dst,.slice t x lo hi mx,ty,pos,aft,gd⟩) h (by exact hp)
theorem C0{o:Oper}{K:aj->Prop}{Q:Exit->Act->World->Prop}(h:aH cx a w st L)(hp:je P o K st)(hf:Lk o=true):o.wp P a w (Cy cx a w st L K) Q:=by
 obtain⟨dst,op,ty,pos,aft,gd⟩:=o;unfold je at hp;simp only at hp;split at hp
 .rename_i t x;obtain⟨h1,h2⟩:=hp;have he:=ak h x;obtain⟨h3,h4⟩:=pB (P:=P) (t:=t) h he.1 he.2 h1 dst;exact aU (by simp[execOp,Sem.run_bind,h3]) ⟨_,_,h2,h4,(by rw[bJ,bG];exact qa h ((Below.refl _ _).alloc (UU _) _) (fun g hg=>by simp[aL] at hg;omega)),a8 _ _ _⟩
 .rename_i t;split at hp
  .rename_i z hz;obtain⟨h1,h2⟩:=hp;obtain⟨h3,h4⟩:=pB (P:=P) (t:=t) (av:=.c z) h (.tree (.c z)) trivial h1 dst;exact aU (by simp[execOp,Sem.run_bind,pN hz,h3]) ⟨_,_,h2,h4,(by rw[bJ,bG];exact qa h ((Below.refl _ _).alloc (UU _) _) (fun g hg=>by simp[aL] at hg;omega)),a8 _ _ _⟩
  .exact hp.elim
 .rename_i t p x;unfold pL at hp;split at hp
  .rename_i id i j hpe;split at hp
   .rename_i ty cells hid;obtain⟨rfl,h0,h1,h2,h3,h4⟩:=hp;have hpv:=(ak h p).1;rw[hpe] at hpv;have hx:=ak h x;obtain⟨w',h5,h6,h7,h8⟩:=kY h hpv hid hx.1 hx.2 h0 h1 h2 h3 dst;exact ff (by simp[execOp,Sem.run_bind,h5]) ⟨_,_,h4,h6,(by rw[bJ,bG];exact rK hid (by simp only[aB.sz,UW,U2,VO];omega) h7 h8),a8 _ _ _⟩
   .rename_i e sz rows hid;obtain⟨hi,h0,h1,h2,h3,h3',h4⟩:=hp;have hpv:=(ak h p).1;rw[hpe] at hpv;have hx:=ak h x;obtain⟨w',h5,h6,h7,h8⟩:=kU h hpv hid hx.1 hx.2 hi h0 h1 h2 h3 h3' dst;exact ff (by simp[execOp,Sem.run_bind,h5]) ⟨_,_,h4,h6,(by rw[bJ,bG];exact rK hid rfl h7 h8),a8 _ _ _⟩
   .rename_i e sz rows hid;obtain⟨hi,h0,h1,h2,h3,h4⟩:=hp;have hpv:=(ak h p).1;rw[hpe] at hpv;have hx:=ak h x;obtain⟨w',h5,h6,h7,h8⟩:=jT h hpv hid hx.1 hx.2 hi h0 h1 h2 h3 dst;exact ff (by simp[execOp,Sem.run_bind,h5]) ⟨_,_,h4,h6,(by rw[bJ,bG];exact rK hid rfl h7 h8),a8 _ _ _⟩
   .exact hp.elim
  .exact hp.elim
 .rename_i t n parts;unfold eL at hp;have hfr:=rj (cx:=cx) (w:=w) (L:=L) (st:=st) (gN (parts.toList.flatMap fun(p:Nat×Operand)=>ap (bb st p.2)))
  replace h:=f9 (gN (parts.toList.flatMap fun(p:Nat×Operand)=>ap (bb st p.2))) h
  unfold gA at hp;split at hp
  .rename_i e sz by_ ht;split at hp
   .obtain ⟨⟨h1,rfl,h3,h5⟩,h6⟩:=hp;obtain⟨v',w',L',h7,h8,hb,rfl,hv⟩:=jR h ht h1 h3 h5 dst;refine aU ?_ ⟨_,_,h6,h8,(by rw[bJ,bG];exact hfr.trans (qa h hb fun g hg=>by rw[hv] at hg;cases hg;exact UU _)),a8 _ _ _⟩;simp only[WV] at h7;simp[execOp,Sem.run_bind];simp at h7;simp[h7]
   .obtain ⟨⟨h1,rfl,h3,h5⟩,h6⟩:=hp;obtain⟨v',w',L',h7,h8,hb,rfl,hv⟩:=po h ht h1 h3 h5 dst;refine aU ?_ ⟨_,_,h6,h8,(by rw[bJ,bG];exact hfr.trans (qa h hb fun g hg=>by rw[hv] at hg;cases hg;exact UU _)),a8 _ _ _⟩;simp only[WV] at h7;simp[execOp,Sem.run_bind];simp at h7;simp[h7]
  .exact hp.elim
 .rename_i t l c;unfold qv at hp;split at hp
  .rename_i e sz by_ k1 n k2 m ht hl hc;split at hp
   .rename_i z hz;obtain⟨⟨rfl,h1,h2,h3,h4⟩,h5⟩:=hp;have hl':=(ak h l).1;have hc':=(ak h c).1;rw[hl] at hl';rw[hc] at hc';obtain⟨v',w',L',h6,h7,hb,rfl,hv⟩:=xj (k1:=k1) (k2:=k2) h ht hz h1 h2 h3 h4 dst;exact aU (by simp[execOp,Sem.run_bind,hl'.c_inv,hc'.c_inv,h6]) ⟨_,_,h5,h7,(by rw[bJ,bG];exact qa h hb fun g hg=>by rw[hv] at hg;cases hg;exact UU _),a8 _ _ _⟩
   .exact hp.elim
  .exact hp.elim
 .rename_i t parts;obtain⟨v,cs,h1,h2,h3,h4⟩:=mg h hp;refine aU ?_ ⟨_,_,h4,bh h h1 h2 dst,(by rw[bJ,bG];exact Fr.refl),a8 _ _ _⟩;simp[execOp,Sem.run_bind,h3 w]
 .rename_i t x lo hi mx;exact CB h hp
 .rename_i t r;obtain⟨hr,hp⟩:=hp
  cases r with
  | some r=>cases hr
  | none=>
   obtain⟨h1,h2⟩:=tV (P:=P) (t:=t) h dst;exact aU (by simp[execOp,Sem.run_bind,h1]) ⟨_,_,hp,h2,(by rw[bJ,bG];exact qa h ((Below.refl _ _).alloc (UU _) _) (fun g hg=>by simp[aL] at hg;omega)),a8 _ _ _⟩
 .rename_i t m k ok;obtain⟨r,av,h1,h2,h3,h4⟩:=pO (nx:=st.next) h.lay (ak h m).1 (ak h k).1 hp;exact aU (by simp[execOp,Sem.run_bind,h4]) ⟨_,_,h1,bh h h2 h3 dst,(by rw[bJ,bG];exact Fr.refl),a8 _ _ _⟩
 .rename_i t m k v;obtain⟨w',st',h1,h2,h3,h4,id,ents,ents',_,h5,rfl,h6⟩:=pm h (ak h m).1 (ak h k).1 (ak h v).1 dst hp;exact ff (by simp[execOp,Sem.run_bind,h1]) ⟨_,_,h2,h3,(by rw[bJ,bG];exact rK h5 rfl h4 h6),a8 _ _ _⟩
 .rename_i c;obtain⟨callee,args,argTypes⟩:=c;simp only at hp;split at hp
  .split at hp
   .rename_i x y t t' h1 h2;obtain rfl:args = #[x,y]:=by cases args;simp_all
    obtain rfl:argTypes = #[t,t']:=by cases argTypes;simp_all
    obtain⟨rfl,hp⟩:=hp;unfold gC at hp;split at hp
    .rename_i hnn;obtain⟨e1,e2⟩:=nL hnn;have hx1:=(ak h x).1;have hy1:=(ak h y).1;rw[e1] at hx1;rw[e2] at hy1;have hx2:=hx1.c_inv;have hy2:=hy1.c_inv;have hr:=jm (ty:=ty) (w:=w) hp.1;exact aU (by simp[execOp,Sem.run_bind,resolve,invoke,builtin,hx2,hy2,hr]) ⟨_,_,hp.2,bh h (.tree (.c _)) trivial dst,(by rw[bJ,bG];exact Fr.refl),a8 _ _ _⟩
    unfold iL at hp;split at hp
    .rename_i e sz by_ ht;split at hp
     .rename_i oid rows rows2 hx hy;obtain⟨⟨h3,h4⟩,h5⟩:=hp;obtain⟨v',w',L',h6,h7,hg,rfl,hv,hown⟩:=pT (ty:=ty) h (ak h x).1 (ak h y).1 ht hx hy (by simpa[maxLen] using h3) h4 dst
      have hoid:∀id,oid=some id->∃o,st.tab.get id=some o:=fun id hid=>by
       subst hid;unfold wN at hx;split at hx
       .rename_i id' hid';split at hx
        .rename_i e' sz' rows' hget;split at hx
         .cases hx;exact⟨_,hget⟩
         .cases hx
        .cases hx
       .cases hx
       .cases hx
      exact aU (by simp[execOp,Sem.run_bind,resolve,invoke,builtin,h6]) ⟨_,_,h5,h7,(by rw[bJ,bG];exact J7 h hg hv hown hoid),a8 _ _ _⟩
     .split at hp
      .rename_i oid rows rows2 hx hy;obtain⟨⟨h3,h4⟩,h5⟩:=hp;obtain⟨v',w',L',h6,h7,hg,rfl,hv,hown⟩:=nr (ty:=ty) h (ak h x).1 (ak h y).1 ht hx hy (by simpa[maxLen] using h3) h4 dst
       have hoid:∀id,oid=some id->∃o,st.tab.get id=some o:=fun id hid=>by
        subst hid;unfold lO at hx;split at hx
        .rename_i id' hid';split at hx
         .rename_i e' sz' rows' hget;split at hx
          .cases hx;exact⟨_,hget⟩
          .cases hx
         .cases hx
        .cases hx
        .cases hx
       exact aU (by simp[execOp,Sem.run_bind,resolve,invoke,builtin,h6]) ⟨_,_,h5,h7,(by rw[bJ,bG];exact J7 h hg hv hown hoid),a8 _ _ _⟩
      .exact hp.elim
    .exact hp.elim
   .exact hp.elim
  .unfold wu at hp;split at hp
   .rename_i x t h1 h2;obtain rfl:args = #[x]:=by cases args;simp_all
    obtain rfl:argTypes = #[t]:=by cases argTypes;simp_all
    obtain⟨w',st',h3,h4,h5,h6,id,ents,h7,rfl,h8⟩:=zW (ty:=ty) h (ak h x).1 dst hp;exact aU (by simp[execOp,Sem.run_bind,resolve,invoke,builtin,h3]) ⟨_,_,h4,h5,(by rw[bJ,bG];exact rK h7 rfl h6 h8),a8 _ _ _⟩
   .exact hp.elim
  .rcases hp with hp|hp
   .unfold B7 at hp;split at hp
    .rename_i x t h1 h2;obtain rfl:args = #[x]:=by cases args;simp_all
     obtain rfl:argTypes = #[t]:=by cases argTypes;simp_all
     obtain⟨r,av,h3,h4,h5,h6⟩:=DM (ty:=ty) (nx:=st.next) h.lay (ak h x).1 hp;exact aU (by simp[execOp,Sem.run_bind,resolve,invoke,builtin,h6]) ⟨_,_,h3,bh h h4 h5 dst,(by rw[bJ,bG];exact Fr.refl),a8 _ _ _⟩
    .exact hp.elim
   .exact oc h hp
  .rename_i f;obtain⟨g,zs,avs,hrun0,hsz,hlt,hp⟩:=y3 h hp;by_cases hmeth:Ad none P st g avs (uj dst K)
   .obtain ⟨hent,ids0,_,hc⟩:=xM h hsz (fun j v av h1 h2=>(hlt j v av h1 h2).1) hmeth dst;unfold Oper.wp;rw[hrun0 hent _ argTypes rfl];show Calls P g zs w _;refine hc.mono ?_;rintro e w' ⟨v,av,st',L',rfl,h1,h2,h3,_⟩;exact⟨_,_,h1,h2,(by rw[bJ,bG];exact h3),a8 _ _ _⟩
   replace hp:pZ P st g avs (uj dst K)\/(none=(none:Option (Nat×List Nat))/\(Eo P st g avs (uj dst K)\/Da P st g avs (uj dst K))):=by
    rcases hp with hp|hp|hp
    .exact .inl hp
    .exact .inr hp
    .exact absurd hp hmeth
   have hent:fy P g:=by
    rcases hp with (⟨R,hd,_⟩|⟨hd,_⟩)|⟨_,(⟨_,_,_,_,_,_,_,_,hd,_⟩|⟨_,_,_,_,_,_,_,_,_,hd,_⟩|⟨hd,_⟩)|⟨_,(⟨R,hd,_⟩|⟨hd,_⟩)⟩⟩
    .exact hd.1
    .exact hd
    .exact hd.1
    .exact hd.1
    .exact hd
    .exact hd.1
    .exact hd
   unfold Oper.wp;rw[hrun0 hent _ argTypes rfl];show Calls P g zs w _;have hargs:zs.size=avs.length/\∀(j:Nat)(v:Value)(av:AV),zs[j]? = some v->avs[j]? = some av->bL cx w st.tab L v av:=⟨hsz,fun j v av h1 h2=>(hlt j v av h1 h2).1⟩;rcases hp with hp|⟨_,hp|⟨ids,hp⟩⟩
   .refine (oT h hargs.1 hargs.2 hp dst).mono ?_;rintro e w' ⟨v,av,st',L',rfl,h1,h2,hb,hold,hnew,hnx⟩;exact⟨_,_,h1,h2,(by rw[bJ,bG];exact pa (fun id o hid=>(h.young id o hid).1) hb hold hnew hnx),a8 _ _ _⟩
   rotate_left
   .obtain ⟨h3,h4⟩:=mP ids h hlt;have hz:=f9 ids h;refine(oT hz (by rw[h3];exact hargs.1) (fun j v av h5 h6=>(h4 j v av h5 h6).1) hp dst).mono ?_;rintro e w' ⟨v,av,st',L',rfl,h1,h2,hb,hold,hnew,hnx⟩;exact⟨_,_,h1,h2,(by rw[bJ,bG];exact(rj ids).trans (pa (fun id o hid=>(hz.young id o hid).1) hb hold hnew hnx)),a8 _ _ _⟩
   .refine (EG h hargs.1 hlt hp dst).mono ?_;rintro e w' ⟨v,av,st',L',rfl,h1,h2,h3⟩;exact⟨_,_,h1,h2,(by rw[bJ,bG];exact h3),a8 _ _ _⟩
  .exact oc h hp
 .exact oc h hp
end
end
section
section
variable {P:Program} {cx:Cx} {a:Act} {w w':World} {st:aj} {L L':Nat->Value} {l0 n:Nat}
theorem Bs{o:Oper}{next:Act->World->Prop}{Q:Exit->Act->World->Prop}(hd:∀c,o.op≠.defer c)(h:o.wp P a w next Q):o.wpIn (Fence.wide.inRound l0) n P a w next Q:=by
 refine⟨fun _ _=>trivial,?_⟩;rw[Oper.semAt_eq _ _ _ hd];unfold Oper.wp at h;generalize (execOp a.eval o).run P w=r at h
 cases r with
 | ok x w1=>
  cases x with
  | value v=>exact h
  | skip=>exact h
  | defer d=>exact h
  | enter f args=>exact⟨fun h=>(by cases h),CallsIn.inRound l0 (callsIn_wide.2 h)⟩
  | row row args=>
   refine⟨fun h=>(by cases h),fun c cs _=>?_⟩;obtain⟨v,w',h1,h2⟩:=h c cs;exact⟨v,w',h1,by rw[fenced_inRound];exact stepsIn_wide.2 h2⟩
  | _=>exact h.elim
 | halt x w1=>
  cases x<;>first|exact h|exact h.elim
theorem Gz{o:Oper}(h:Lk o=true):∀c,o.op≠.defer c:=fun c e=>by
 unfold Lk at h;rw[e] at h;cases h
theorem wa{ops:Array Oper}{K:aj->Prop}{Q:Exit->Act->World->Prop}:∀(l:List Oper)(a:Act)(w:World)(st:aj)(L:Nat->Value),(∀o∈l,Lk o=true) ->
  (∀a' w' st' L',K st' -> aH cx a' w' st' L' -> Fr cx w st.tab L st.next w' st'.tab L' st'.next->Q .normal a' w')->aH cx a w st L->lD P ops K l st->wpListIn (Fence.wide.inRound l0) n P ops Q l a w
 | [],a,w,st,L,_,hQ,h,hp=>hQ a w st L hp h Fr.refl
 | o :: rest,a,w,st,L,hf,hQ,h,hp=>by
  unfold lD at hp;have hfo:=hf o (Vr ..);refine wpListIn_step fun K' hK'=>?_;rcases cw h hp o rfl with ⟨hw,st',h1,h2,e1,e2⟩|⟨hw,st',h1,h2,e1,e2⟩
  .rw [UZ hw];refine Bs (Gz hfo) (Oper.wp_mono (fun a' w' ⟨st'',L',h3,h4,h5,_⟩=>hK' a' w' (wa rest a' w' st'' L' (fun o ho=>hf o (Vx _ ho)) (fun a2 w2 st2 L2 h6 h7 h8=>hQ a2 w2 st2 L2 h6 h7 ?_) h4 h3)) (C0 h2 h1 hfo));rw[e1,e2] at h5;exact h5.trans h8
  .rw [UX (by simp[hw])];refine⟨fun _ _=>trivial,hK' _ _ (wa rest _ w _ L (fun o ho=>hf o (Vx _ ho)) (fun a2 w2 st2 L2 h6 h7 h8=>hQ a2 w2 st2 L2 h6 h7 ?_) (bZ h2 o.dst) h1)⟩;rw[bJ,bG,e1,e2] at h8;exact h8
def jI:Code->Bool
 | .skip=>true
 | .region _ ops draw=>!draw && ops.toList.all Lk
 | .seq x y=>jI x && jI y
 | .cond _ x y=>jI x && jI y
 | .block _ x=>jI x
 | .exit _=>true
 | .ret=>true
 | _=>false
theorem zJ:∀(c:Code),jI c=true->∀(Q:Exit->aj->Prop)(a:Act)(w:World)(st:aj)(L:Nat->Value),aH cx a w st L->bt P c Q st ->
  c.wpIn (Fence.wide.inRound l0) n P (fun e a' w'=>∃st' L',Q e st' /\ aH cx a' w' st' L' /\ Fr cx w st.tab L st.next w' st'.tab L' st'.next) a w:=by
 intro c
 induction c with
 | skip=>exact fun _ Q a w st L h hp=>wpIn_skip ⟨st,L,hp,h,Fr.refl⟩
 | region id ops draw=>
  intro hf Q a w st L h hp;unfold bt HI at hp
  cases draw with
  | false=>
   simp only[jI,WF,VC,List.all_eq_true] at hf;exact wpIn_region_list (wa _ a w st L hf (fun a' w' st' L' h1 h2 h3=>⟨st',L',h1,h2,h3⟩) h (by simpa using hp))
  | true=>cases hf
 | seq x y ihx ihy=>
  intro hf Q a w st L h hp;simp only[jI,U1] at hf;unfold bt at hp;refine wpIn_seq (wpIn_mono (ihx hf.1 _ a w st L h hp) (fun e a' w' ⟨st',L',h1,h2,h3⟩=>?_))
  cases e with
  | normal=>exact wpIn_mono (ihy hf.2 Q a' w' st' L' h2 h1) fun e a2 w2 ⟨st2,L2,h4,h5,h6⟩=>⟨st2,L2,h4,h5,h3.trans h6⟩
  | _=>exact⟨st',L',h1,h2,h3⟩
 | cond c x y ihx ihy=>
  intro hf Q a w st L h hp;simp only[jI,U1] at hf;unfold bt oX at hp;split at hp
  .rename_i b hb;have hv:=(ak h c).1;rw[hb] at hv;have hv:=hv.c_inv;cases b
   .exact wpIn_cond_false hv (ihy hf.2 Q a w st L h hp)
   .exact wpIn_cond_true hv (ihx hf.1 Q a w st L h hp)
  .exact hp.elim
 | block id x ih=>
  intro hf Q a w st L h hp;simp only[jI] at hf;unfold bt at hp;refine wpIn_block (wpIn_mono (ih hf _ a w st L h hp) (fun e a' w' ⟨st',L',h1,h2,h3⟩=>?_))
  cases e with
  | exit id'=>
   simp only[ik,Exit.inBlock] at h1 ⊢;split
   .rename_i e;rw[UZ e] at h1;exact⟨st',L',h1,h2,h3⟩
   .rename_i e;rw[UX e] at h1;exact⟨st',L',h1,h2,h3⟩
  | _=>exact⟨st',L',h1,h2,h3⟩
 | exit id=>exact fun _ Q a w st L h hp=>wpIn_exit ⟨st,L,hp,h,Fr.refl⟩
 | ret=>exact fun _ Q a w st L h hp=>wpIn_ret ⟨st,L,hp,h,Fr.refl⟩
 | _=>exact fun hf=>(by cases hf)
def pM(T:Nat->Prop)(w w':World)(b:Nat):Prop:=T b\/(w.heap.size<=b/\b<w'.heap.size)
structure xB(T:Nat->Prop)(w w':World):Prop where
 os:w'.os=w.os
 tape:w'.tape=w.tape
 output:w'.output=w.output
 size:w.heap.size<=w'.heap.size
 block:∀b,T b->w'.heap[b]? = w.heap[b]?
def Qe(P:Program)(gf:FuncId)(caps:List AV)(xs:List (List AV)):Prop:=
 fy P gf/\∀(l:Nat)(T0:Nat->Prop)(lb:Array Value)(W0:World)(J Jx:List (List AV)->(Nat->Prop)->(Nat->Prop)->World->Prop),lb.size=caps.length->FJ W0 T0 ->
  (∀(j:Nat)(v:Value)(av:AV),lb[j]? = some v->caps[j]? = some av->RT W0 T0 v av) ->
  (∀pre T M W,J pre T M W->∀b,T b->b<W.heap.size) ->
  (∀pre T M M' W W',J pre T M W->b8 M W.heap.size W W' -> (∀b,M' b->M b\/(W.heap.size<=b/\b<W'.heap.size))->J pre (pM T W W') M' W') ->
  (∀pre T M M' W W',Jx pre T M W->b8 M W.heap.size W W' -> (∀b,M' b->M b\/(W.heap.size<=b/\b<W'.heap.size))->Jx pre (pM T W W') M' W') ->
  (∀pre x T M W (vs:Array Value),J pre T M W->(pre ++ [x]) <+: xs->vs.size=x.length->(∀(j:Nat)(v:Value)(av:AV),vs[j]? = some v->x[j]? = some av->RT W (fun b=>T b/\¬M b) v av) ->
   YieldAt Fence.wide 0 P l vs W fun e W'=>(e=.returned (.bool true)/\J (pre ++ [x]) T M W' /\ xB T W W')\/(e=.returned (.bool false)/\Jx (pre ++ [x]) T M W' /\ xB T W W')) ->
  J [] T0 (fun _=>False) W0 ->
  CallsIn Fence.wide 0 P gf (#[.func (.yield l) #[] #[]] ++ lb) W0 fun e W'=>(∃v,e=.returned v)/\((∃T M,J xs T M W')\/∃pre T M,pre <+: xs/\Jx pre T M W')
theorem mD{c c':Cx}(h:aH c a w st L)(hw:c'.w0=c.w0)(hblk:∀b,Sx c w st.tab L b->w'.heap[b]? = w.heap[b]?)(hown:∀id o g,st.tab.get id=some o->aL (L id)=some g->w'.heap[g]? = w.heap[g]?)(hS:∀b,Sx c w st.tab L b->Sx c' w' st.tab L b)
  (hb:b8 c'.X c'.w0.heap.size c'.w0 w') (hex:∀b,c'.X b->b<w'.heap.size/\∀id o,st.tab.get id=some o->aL (L id)≠some b):aH c' a w' st L:=by
 have hrv:∀{x av nx},bL c w st.tab L x av->av.lt nx->bL c' w' st.tab L x av:=fun hr hl=>hr.mono hl (fun p hp=>World.cell?_of_block (hblk _ hp)) hS (fun _ _ _ h=>h);refine⟨⟨hb,fun id o hid=>?_,h.lay.sep,hex⟩,h.size,by rw[hw];exact h.defers.mono hblk hS,h.young,fun t=>⟨hrv (h.env t).1 (h.env t).2,(h.env t).2⟩⟩;have ho:=h.lay.objs id o hid;have hy:=(h.young id o hid).2
 cases o with
 | box t cells=>
  obtain⟨g,cs,h1,h2,h3,h4,h5⟩:=ho;exact⟨g,cs,h1,by rw[hw];exact h2,(hown id _ g hid (by rw[h1];rfl)).trans h3,h4,fun j x av h6 h7=>⟨hrv (h5 j x av h6 h7).1 (ah.1 hy _ (r2 h7)),(h5 j x av h6 h7).2⟩⟩
 | row e sz rows=>
  obtain⟨h1,xs,hown',h2,h3⟩:=ho;refine⟨h1,xs,⟨hown'.1,?_⟩,h2,fun i j row av ha hb=>?_⟩
  .rcases hown'.2 with hn|⟨g,cap,cur,h4,hb,hh,rest⟩
   .exact .inl hn
   .exact .inr ⟨g,cap,cur,h4,by rw[hw];exact hb,(hown id _ g hid (by rw[h4];rfl)).trans hh,rest⟩
  .obtain ⟨x,hx,hr⟩:=h3 i j row av ha hb;exact⟨x,hx,hr.mono (fun p hp=>World.cell?_of_block (hblk _ hp)) hS⟩
 | nest e sz rows=>
  obtain⟨h1,xs,hown',h2,h3⟩:=ho;refine⟨h1,xs,⟨hown'.1,?_⟩,h2,fun i j row av ha hb=>?_⟩
  .rcases hown'.2 with hn|⟨g,cap,cur,h4,hb,hh,rest⟩
   .exact .inl hn
   .exact .inr ⟨g,cap,cur,h4,by rw[hw];exact hb,(hown id _ g hid (by rw[h4];rfl)).trans hh,rest⟩
  .obtain ⟨x,hx,hr⟩:=h3 i j row av ha hb;exact⟨x,hx,hrv hr (ah.1 (hy row (r2 ha)) _ (r2 hb))⟩
 | map ents=>
  obtain⟨b,es,ck,h1,h2,h3,h4⟩:=ho;exact⟨b,es,ck,h1,by rw[hw];exact h2,(hown id _ b hid (by rw[h1];rfl)).trans h3,h4⟩
 | ghost vs env=>exact⟨ho.1,fun t ht=>hrv (ho.2 t ht) (fX hy t)⟩
def Cx.ex(c:Cx)(M:Nat->Prop)(hM:∀b,M b->c.w0.heap.size<=b):Cx:=⟨c.F,c.w0,fun b=>c.X b\/M b,c.amb,fun b h=>h.elim (c.exD b) fun h2=>Vj c.amb.le (hM b h2),c.inF⟩
def OP(cx:Cx)(a0:Act)(l:Nat)(r:Loop)(I:aj->Prop)(T M:Nat->Prop)(W:World):Prop:=
 ∃(hqq:∀b,M b->cx.w0.heap.size<=b)(st:aj)(L:Nat->Value),I st/\aH (cx.ex M hqq) a0 W st L/\W.heap[l]? = some (.loop r)/\Sx (cx.ex M hqq) W st.tab L l/\¬T l/\(∀b,M b->T b/\cx.w0.heap.size<=b)/\∀b,T b->Sx cx W st.tab L b
theorem IO0(h:aH cx a w st L)(hb:w.heap.size<=w'.heap.size){b:Nat}(hs:Sx cx w st.tab L b):Sx cx w' st.tab L b:=⟨UY hs.1 hb,hs.2.1,hs.2.2⟩
theorem Dx(h:aH cx a w st L){b:Nat}(h1:w.heap.size<=b)(h2:b<w'.heap.size):Sx cx w' st.tab L b:=
 ⟨h2,⟨.inr (Vj h.lay.below.size h1),fun hX=>absurd (h.lay.ex b hX).1 (Nat.not_lt.2 h1)⟩,fun id o hid hg=>absurd ((h.lay.objs id o hid).ge hg).2 (by omega)⟩
theorem OP.step{a0:Act}{l:Nat}{r:Loop}{I:aj->Prop}{T M M':Nat->Prop}(h:OP cx a0 l r I T M w)(hb:b8 M w.heap.size w w')(hM:∀b,M' b->M b\/(w.heap.size<=b/\b<w'.heap.size)):OP cx a0 l r I (pM T w w') M' w':=by
 obtain⟨hqq,st,L,h1,h2,h3,h4,h5,h6,h7⟩:=h;have hsz:cx.w0.heap.size<=w.heap.size:=h2.lay.below.size;have hq':∀b,M' b->cx.w0.heap.size<=b:=fun b hb2=>(hM b hb2).elim (hqq b) fun h8=>Vj hsz h8.1
 have hS:∀b,Sx (cx.ex M hqq) w st.tab L b->Sx (cx.ex M' hq') w' st.tab L b:=fun b hs=>⟨UY hs.1 hb.size,⟨hs.2.1.1,fun hx=>by
  rcases hx with hx|hx
  .exact hs.2.1.2 (.inl hx)
  .rcases hM b hx with hm|hm
   .exact hs.2.1.2 (.inr hm)
   .have:=hs.1;omega⟩,hs.2.2⟩
 have hblk:∀b,Sx (cx.ex M hqq) w st.tab L b->w'.heap[b]? = w.heap[b]?:=fun b hs=>hb.block b hs.1 fun hm=>hs.2.1.2 (.inr hm)
 have hex:∀b,(cx.ex M' hq').X b->b<w'.heap.size/\∀id o,st.tab.get id=some o->aL (L id)≠some b:=fun b hx=>by
  have old:(cx.ex M hqq).X b->b<w'.heap.size/\∀id o,st.tab.get id=some o->aL (L id)≠some b:=fun hx=>⟨UY (h2.lay.ex b hx).1 hb.size,(h2.lay.ex b hx).2⟩;rcases hx with hx|hx
  .exact old (.inl hx)
  .rcases hM b hx with hm|hm
   .exact old (.inr hm)
   .exact ⟨hm.2,fun id o hid hg=>absurd ((h2.lay.objs id o hid).ge hg).2 (by omega)⟩
 have hbel:b8 (cx.ex M' hq').X (cx.ex M' hq').w0.heap.size (cx.ex M' hq').w0 w':=by
  have h8:b8 (cx.ex M hqq).X cx.w0.heap.size cx.w0 w:=h2.lay.below;refine⟨hb.os.trans h8.os,hb.tape.trans h8.tape,hb.output.trans h8.output,Vj h8.size hb.size,fun k (hk:k<cx.w0.heap.size) hx=>?_⟩
  have hm:¬M k:=fun hm=>by
   have:=(h6 k hm).2;omega
  refine(hb.block k (by omega) hm).trans (h8.block k hk fun hx'=>?_);rcases hx' with hx'|hx'
  .exact hx (.inl hx')
  .exact hm hx'
 refine⟨hq',st,L,h1,mD h2 rfl hblk (fun id o g hid hg=>hb.block g ((h2.lay.objs id o hid).ge hg).2 fun hm=>(h2.lay.ex g (.inr hm)).2 id o hid hg) hS hbel hex,(hblk l h4).trans h3,hS l h4,fun hg=>?_,fun b hm=>?_,fun b hg=>?_⟩
 .rcases hg with hg|hg
  .exact h5 hg
  .have:=h4.1;omega
 .rcases hM b hm with hm|hm
  .exact ⟨.inl (h6 b hm).1,(h6 b hm).2⟩
  .exact ⟨.inr hm,by omega⟩
 .rcases hg with hg|hg
  .exact ⟨UY (h7 b hg).1 hb.size,(h7 b hg).2.1,(h7 b hg).2.2⟩
  .have:=Dx h2 hg.1 hg.2;exact⟨this.1,⟨this.2.1.1,fun hx=>this.2.1.2 (.inl hx)⟩,this.2.2⟩
theorem qP{A a1:Act}{st1 stA:aj}{LA:Nat->Value}(h:aH cx A w st1 L)(hf:Fr cx w st1.tab L st1.next w' stA.tab LA stA.next)(hA:aH cx a1 w' stA LA):aH cx A w' ⟨st1.n,st1.env,stA.tab,stA.next⟩ LA:=
 ⟨hA.lay,h.size,h.defers.mono hf.ext.blk hf.ext.sub,hA.young,fun t=>⟨hf.ext.rv (h.env t).1 (h.env t).2,AV.lt_mono hf.next (h.env t).2⟩⟩
theorem kJ{l:Nat}{r:Loop}(h:aH cx a w st L)(hb:cx.w0.heap.size<=l)(hl:w.heap[l]? = some (.loop r))(r':Loop):aH cx a (w.putObj l (.loop r')) st L:=by
 have:=vA h (iX.turn hb hl r') (ds:=a.defers) ⟨h.defers.1,fun d hd=>?_⟩
 .exact this
 .obtain ⟨k,h1,h2,h3,h4⟩:=h.defers.2 d hd;have hne:k≠l:=fun e=>by rw[e,hl] at h3;cases h3
  exact⟨k,h1,h2,(World.putObj_heap_other hne).trans h3,⟨by simp;exact h4.1,h4.2.1,h4.2.2⟩⟩
def jW:List (Nat×AV)->aj->aj
 | [],st=>st
 | (p,av) :: l,st=>jW l (st.put (some p) av)
theorem tj:∀(l:List (Nat×AV))(st:aj),(jW l st).tab=st.tab/\(jW l st).next=st.next/\(jW l st).n=st.n
 | [],_=>⟨rfl,rfl,rfl⟩
 | (p,av) :: l,st=>tj l (st.put (some p) av)
theorem qH:∀(ps:List Nat)(vs:List Value)(x:List AV){t:Array Value}{st:aj},aH cx { tmps:=t,defers:=[] } w st L->vs.length=ps.length->x.length=ps.length ->
  (∀(j:Nat)(v:Value)(av:AV),vs[j]? = some v->x[j]? = some av->bL cx w st.tab L v av/\av.lt st.next) ->
  aH cx { tmps:=(ps.zip vs).foldl (fun t (p:Nat×Value)=>t.setIfInBounds p.1 p.2) t,defers:=[] } w (jW (ps.zip x) st) L
 | [],_,_,_,_,h,_,_,_=>h
 | p :: ps,[],_,_,_,_,h1,_,_=>by simp at h1
 | p :: ps,v :: vs,[],_,_,_,_,h2,_=>by simp at h2
 | p :: ps,v :: vs,av :: x,t,st,h,h1,h2,h3=>by
  have h4:=h3 0 v av rfl rfl;have h5:=bh h h4.1 h4.2 (some p);exact qH ps vs x (t:=t.setIfInBounds p v) (st:=st.put (some p) av) h5 (by simpa using h1) (by simpa using h2) fun j v' av' h6 h7=>h3 (j+1) v' av' (by simpa using h6) (by simpa using h7)
def MO(I:List (List AV)->aj->Prop)(Ix:Code->List (List AV)->aj->Prop)(pre:List (List AV))(st1:aj):Exit->aj->Prop
 | .normal,st'=>FG (I pre) ⟨st1.n,st1.env,st'.tab,st'.next⟩
 | .ret,st'=>FG (Ix .ret pre) ⟨st1.n,st1.env,st'.tab,st'.next⟩
 | .exit id,st'=>FG (Ix (.exit id) pre) ⟨st1.n,st1.env,st'.tab,st'.next⟩
 | _,_=>False
def PO:Exit->aj->Prop:=fun _ _=>False
theorem AL{a0:Act}{l fn D:Nat}{T M:Nat->Prop}{ps:Array Tmp}{assign body:Code}{I:List (List AV)->aj->Prop}{Ix:Code->List (List AV)->aj->Prop}{pre:List (List AV)}{x:List AV}{vs:Array Value}
  (hfa:jI assign=true) (hfb:jI body=true) (hn:x.length=ps.size) (hb:cx.w0.heap.size<=l)
  (hr:∀st1,I pre st1->bt P assign (lU (bt P body (MO I Ix (pre ++ [x]) st1)) PO) (jW (ps.toList.zip x) st1))
  (h:OP cx a0 l { state:=.ready,pending:=none,fn,tmps:=a0.tmps,params:=ps,assign,body,defers:=D } (I pre) T M w) (hv:vs.size=x.length) (hrt:∀(j:Nat)(v:Value)(av:AV),vs[j]? = some v->x[j]? = some av->RT w (fun b=>T b/\¬M b) v av) :
  YieldAt Fence.wide 0 P l vs w fun e W'=>(e=.returned (.bool true)/\OP cx a0 l { state:=.ready,pending:=none,fn,tmps:=a0.tmps,params:=ps,assign,body,defers:=D } (I (pre ++ [x])) T M W' /\ xB T w W') \/
   (e=.returned (.bool false)/\(∃c,OP cx a0 l { state:=.done,pending:=some c,fn,tmps:=a0.tmps,params:=ps,assign,body,defers:=D } (Ix c (pre ++ [x])) T M W')/\xB T w W'):=by
 obtain⟨hqq,st1,L,hI,hC,hl,hSl,hTl,hMT,hT⟩:=h;have hb:(cx.ex M hqq).w0.heap.size<=l:=hb;have hy:=run_yield (P:=P) (args:=vs) hl (by simp;omega);refine⟨fn,_,assign,body,hy,roundIn_of_wpIn trivial ?_⟩;have hC0:aH (cx.ex M hqq) { tmps:=a0.tmps,defers:=[] } w st1 L:=⟨hC.lay,hC.size,i6.nil _ _ _,hC.young,hC.env⟩
 have hTS:∀b,T b/\¬M b->Sx (cx.ex M hqq) w st1.tab L b:=fun b hb'=>⟨(hT b hb'.1).1,⟨(hT b hb'.1).2.1.1,fun hx=>by
  rcases hx with hx|hx
  .exact (hT b hb'.1).2.1.2 hx
  .exact hb'.2 hx⟩,(hT b hb'.1).2.2⟩
 have hCp:=qH ps.toList vs.toList x hC0 (by simp;omega) (by simpa using hn) fun j v av h1 h2=>by
  have:=hrt j v av (by simpa using h1) h2;exact⟨.tree (this.mono (fun _ _=>rfl) hTS),this.lt _⟩
 have ef:(ps.zip vs).foldl (fun tmps (x:Tmp×Value)=>match x with|(t,a)=>tmps.setIfInBounds t a) a0.tmps=(ps.toList.zip vs.toList).foldl (fun t (p:Nat×Value)=>t.setIfInBounds p.1 p.2) a0.tmps:=by
  rw[<- Array.foldl_toList,Array.toList_zip]
 rw[ef];obtain⟨e1,e2,_⟩:=tj (ps.toList.zip x) st1;refine wpIn_mono (zJ assign hfa _ _ _ _ _ hCp (hr st1 hI)) fun e a1 w1 ⟨stA,LA,hq,hCA,hFA⟩=>?_;rw[e1,e2] at hFA
 cases e with
 | normal=>
  have hl1:w1.heap[l]? = _:=(hFA.keep l hSl.1 hSl.2.2).trans hl;have hSl1:=hFA.ext.sub l hSl;refine⟨_,run_beginRound hl1 rfl,?_⟩;have hCA2:=kJ hCA hb hl1 { state:=.busy,pending:=none,fn,tmps:=a0.tmps,params:=ps,assign,body,defers:=D };have hF1:=qP hC hFA hCA;have hF2:=kJ hF1 hb hl1 { state:=.busy,pending:=none,fn,tmps:=a0.tmps,params:=ps,assign,body,defers:=D };have hos2:∀o,(w1.putObj l o).os=w1.os/\(w1.putObj l o).tape=w1.tape/\(w1.putObj l o).output=w1.output:=fun o=>⟨rfl,rfl,rfl⟩;generalize hw2:w1.putObj l (.loop { state:=.busy,pending:=none,fn,tmps:=a0.tmps,params:=ps,assign,body,defers:=D })=w2 at hCA2 hF2;have hsz2:w2.heap.size=w1.heap.size:=by rw[<- hw2];simp
  have hl2:w2.heap[l]? = some (.loop { state:=.busy,pending:=none,fn,tmps:=a0.tmps,params:=ps,assign,body,defers:=D }):=by rw[<- hw2];exact World.putObj_heap_same hSl1.1
  have hoth2:∀b,b≠l->w2.heap[b]? = w1.heap[b]?:=fun b hb'=>by rw[<- hw2];exact World.putObj_heap_other hb'
  have hS2:∀b,Sx (cx.ex M hqq) w1 stA.tab LA b->Sx (cx.ex M hqq) w2 stA.tab LA b:=fun b hs=>⟨by rw[hsz2];exact hs.1,hs.2.1,hs.2.2⟩;refine wpIn_mono (zJ body hfb _ _ _ _ _ hCA2 hq) fun e a2 w3 ⟨stB,LB,hq2,hCB,hFB⟩=>?_;have hl3:w3.heap[l]? = _:=(hFB.keep l (hS2 l hSl1).1 (hS2 l hSl1).2.2).trans hl2;have hSl3:=hFB.ext.sub l (hS2 l hSl1);have hF3:=qP (st1:=⟨st1.n,st1.env,stA.tab,stA.next⟩) hF2 hFB hCB
  have hown2:∀b,T b->∀id o,stA.tab.get id=some o->aL (LA id)≠some b:=fun b hb' id o hid hg=>by
   obtain⟨id2,o2,h3,h4⟩:=hFA.young id o b hid hg (hT b hb').1;exact(hT b hb').2.2 id2 o2 h3 h4
  have hkeep:∀b,T b->w3.heap[b]? = w.heap[b]?:=fun b hb'=>by
   have hbl:b≠l:=fun e=>hTl (by rw[<- e];exact hb');have h1:=(hT b hb').1;have h2:=hFA.size;rw[hFB.keep b (by omega) (hown2 b hb'),hoth2 b hbl,hFA.keep b h1 (hT b hb').2.2]
  have fin:∀(jump:Option Code)(s:LoopState)(K:aj->Prop),(if jump.isNone then LoopState.ready else LoopState.done)=s->FG K ⟨st1.n,st1.env,stB.tab,stB.next⟩ ->
    (Instr.endRound l jump).run P w3=.ok (.bool jump.isNone) (w3.putObj l (.loop { state:=s,pending:=jump,fn,tmps:=a0.tmps,params:=ps,assign,body,defers:=D })) /\
    OP cx a0 l { state:=s,pending:=jump,fn,tmps:=a0.tmps,params:=ps,assign,body,defers:=D } K T M (w3.putObj l (.loop { state:=s,pending:=jump,fn,tmps:=a0.tmps,params:=ps,assign,body,defers:=D })) /\
    xB T w (w3.putObj l (.loop { state:=s,pending:=jump,fn,tmps:=a0.tmps,params:=ps,assign,body,defers:=D })):=fun jump s K hs hK=>by
   subst hs;have hr3:=run_endRound (P:=P) jump hl3;refine⟨hr3,?_,?_⟩
   .obtain ⟨stC,hweak,hKC⟩:=hK;have hF4:=kJ hF3 hb hl3 { state:=if jump.isNone then .ready else .done,pending:=jump,fn,tmps:=a0.tmps,params:=ps,assign,body,defers:=D };obtain⟨LC,hCC,hSC⟩:=hweak _ _ _ _ hF4;have up:∀b,Sx (cx.ex M hqq) w3 stB.tab LB b->Sx (cx.ex M hqq) (w3.putObj l (.loop { state:=if jump.isNone then .ready else .done,pending:=jump,fn,tmps:=a0.tmps,params:=ps,assign,body,defers:=D })) stC.tab LC b:=fun b hs=>hSC b ⟨by simp;exact hs.1,hs.2.1,hs.2.2⟩;refine⟨hqq,stC,LC,hKC,hCC,World.putObj_heap_same hSl3.1,up l hSl3,hTl,hMT,fun b hb'=>?_⟩;by_cases hm:M b
    .refine ⟨(hCC.lay.ex b (.inr hm)).1,(hT b hb').2.1,(hCC.lay.ex b (.inr hm)).2⟩
    .have:=up b (hFB.ext.sub b (hS2 b (hFA.ext.sub b (hTS b ⟨hb',hm⟩))));exact⟨this.1,(hT b hb').2.1,this.2.2⟩
   .have hW:b8 (cx.ex M hqq).X (cx.ex M hqq).w0.heap.size (cx.ex M hqq).w0 w:=hC.lay.below;have hW3:b8 (cx.ex M hqq).X (cx.ex M hqq).w0.heap.size (cx.ex M hqq).w0 w3:=hCB.lay.below;refine⟨hW3.os.trans hW.os.symm,hW3.tape.trans hW.tape.symm,hW3.output.trans hW.output.symm,?_,fun b hb'=>?_⟩
    .have:=hFA.size;have:=hFB.size;simp;omega
    .have hbl:b≠l:=fun e=>hTl (by rw[<- e];exact hb');rw[World.putObj_heap_other hbl];exact hkeep b hb'
  cases e with
  | normal=>
   obtain⟨h1,h2,h3⟩:=fin none .ready _ rfl hq2;exact⟨_,_,h1,.inl ⟨rfl,h2,h3⟩⟩
  | ret=>
   obtain⟨h1,h2,h3⟩:=fin (some .ret) .done _ rfl hq2;exact⟨_,_,h1,.inr ⟨rfl,⟨_,h2⟩,h3⟩⟩
  | exit id=>
   obtain⟨h1,h2,h3⟩:=fin (some (.exit id)) .done _ rfl hq2;exact⟨_,_,h1,.inr ⟨rfl,⟨_,h2⟩,h3⟩⟩
  | goto t=>exact hq2.elim
  | panic c=>exact hq2.elim
  | outgrown=>exact hq2.elim
 | _=>exact hq.elim
theorem I6(hm:P.follows .mixedOrders=true){g:Operand}{ps:Array Tmp}{assign body:Code}{Q:Exit->aj->Prop}{gf:FuncId}{caps:List AV}{xs:List (List AV)}
  (I:List (List AV)->aj->Prop) (Ix:Code->List (List AV)->aj->Prop)
  (hg:H5 (bb st g) fun g' cs=>g'=gf/\cs=caps) (ht:bD caps) (hseq:Qe P gf caps xs) (hx:∀x∈xs,x.length=ps.size) (hfa:jI assign=true) (hfb:jI body=true)
  (h0:FG (I []) st)
  (hr:∀pre x st1,(pre ++ [x]) <+: xs->I pre st1->bt P assign (lU (bt P body (MO I Ix (pre ++ [x]) st1)) PO) (jW (ps.toList.zip x) st1))
  (hd:∀st',I xs st' -> Q .normal st') (hs:∀c pre st',pre <+: xs->Ix c pre st' -> bt P c Q st'):bt P (.rangeFunc g ps assign body) Q st:=by
 intro cx a w L h;obtain⟨gf',lb,cs,hgv,hlb,hcap,⟨rfl,rfl⟩,_⟩:=rr (ak h g).1 (ak h g).2 hg;refine wpIn_wide.1 (wpIn_rangeFunc (n:=0) ?_);intro fn _;have hbase:cx.w0.heap.size<=w.heap.size:=h.lay.below.size;generalize hrec:({ state:=.ready,pending:=none,fn,tmps:=a.tmps,params:=ps,assign,body,defers:=w.heap.size }:Loop)=r;generalize hW1:(w.alloc (.deferred (some []))).alloc (.loop r)=W1
 have hb01:Below w.heap.size w W1:=by
  rw[<- hW1];exact((Below.refl _ w).alloc (UU _) _).alloc (by simp) _
 have hs1:W1.heap.size=w.heap.size+2:=by rw[<- hW1];simp
 have hL1:W1.heap[w.heap.size+1]? = some (.loop r):=by
  rw[<- hW1];have:=World.alloc_heap_new (w.alloc (.deferred (some []))) (.loop r)
  rwa [World.size_alloc] at this
 have hK1:W1.heap[w.heap.size]? = some (.deferred (some [])):=by
  rw[<- hW1];exact(Below.heap_alloc _ _ _ (by simp)).trans (World.alloc_heap_new w _)
 have hC1:aH cx { a with defers:=[{ target:=.collected w.heap.size,args:=#[] }] ++ a.defers } W1 st L:=by
  have h1:=fQ h hb01;refine⟨h1.lay,h1.size,⟨List.nodup_cons.2 ⟨fun hmem=>?_,h1.defers.1⟩,fun d hd=>?_⟩,h1.young,h1.env⟩
  .obtain ⟨k,e,_,_,h2⟩:=h.defers.2 _ hmem
   injection e with e _
   injection e with e
   have:=h2.1;omega
  .rcases VL.1 hd with rfl|hd
   .exact ⟨_,rfl,hbase,hK1,Dx h (UU _) (by omega)⟩
   .exact h1.defers.2 d hd
 obtain⟨PL,hweak,hI0⟩:=h0;obtain⟨L0,hC0,hS0⟩:=hweak _ _ _ _ hC1
 refine⟨w.heap.size+1,[{ target:=.collected w.heap.size,args:=#[] }],W1,{ target:=.fn (.func gf') lb,args:=#[.func (.yield (w.heap.size+1)) #[] #[]] },W1,gf',
  #[.func (.yield (w.heap.size+1)) #[] #[]] ++ lb,W1,?_,?_,fun _ _=>trivial,?_,fun h=>(by cases h),?_⟩
 .rw [<- hW1,<- hrec];exact run_enterLoop_outer _ _ _ _ _
 .simp only[resolve,hgv];simp[go_sem]
 .have:=hseq.1 (#[.func (.yield (w.heap.size+1)) #[] #[]] ++ lb) W1;simp[invoke,go_sem,this]
 .have hpre:∀{pre:List (List AV)} {x:List AV},(pre ++ [x]) <+: xs->x.length=ps.size:=fun hp=>hx _ (hp.subset (by simp))
  have hex0:∀{cx':Cx} {W:World} {st:aj} {L:Nat->Value} {A:Act},aH cx' A W st L->aH (cx'.ex (fun _=>False) fun _ h=>h.elim) A W st L:=fun h=>by
   refine mD h rfl (fun _ _=>rfl) (fun _ _ _ _ _=>rfl) (fun b hs=>⟨hs.1,⟨hs.2.1.1,fun hx=>hs.2.1.2 (hx.resolve_right id)⟩,hs.2.2⟩) ⟨h.lay.below.os,h.lay.below.tape,h.lay.below.output,h.lay.below.size,fun k hk hx=>h.lay.below.block k hk fun hx'=>hx (.inl hx')⟩ (fun b hx=>h.lay.ex b (hx.resolve_right id))
  have hex1:∀{M:Nat->Prop} {W:World} {st:aj} {L:Nat->Value} {A:Act},(hq:∀b,M b->cx.w0.heap.size<=b)->aH (cx.ex M hq) A W st L->aH cx A W st L:=fun hM h=>by
   have hbl:b8 (cx.ex _ hM).X cx.w0.heap.size cx.w0 _:=h.lay.below;refine mD h rfl (fun _ _=>rfl) (fun _ _ _ _ _=>rfl) (fun b hs=>⟨hs.1,⟨hs.2.1.1,fun hx=>hs.2.1.2 (.inl hx)⟩,hs.2.2⟩) ⟨hbl.os,hbl.tape,hbl.output,hbl.size,fun k hk hx=>hbl.block k hk fun hx'=>?_⟩ (fun b hx=>h.lay.ex b (.inl hx));rcases hx' with hx'|hx'
   .exact hx hx'
   .have:=hM k hx';omega
  refine(hseq.2 (w.heap.size+1) (Sx cx w st.tab L) lb W1
   (fun pre T M W=>OP cx { a with defers:=[{ target:=.collected w.heap.size,args:=#[] }] ++ a.defers } (w.heap.size+1) { state:=.ready,pending:=none,fn,tmps:=a.tmps,params:=ps,assign,body,defers:=w.heap.size } (I pre) T M W)
   (fun pre T M W=>∃c,OP cx { a with defers:=[{ target:=.collected w.heap.size,args:=#[] }] ++ a.defers } (w.heap.size+1) { state:=.done,pending:=some c,fn,tmps:=a.tmps,params:=ps,assign,body,defers:=w.heap.size } (Ix c pre) T M W)
   hlb ⟨fun b hb=>UY hb.1 hb01.size,h.lay.amb.below hb01,h.lay.sok.tab⟩ (fun j v av h1 h2=>?_) (fun pre T M W ⟨_,_,_,_,_,_,_,_,_,hT⟩ b hb=>(hT b hb).1) (fun pre T M M' W W' hj hb hm=>hj.step hb hm) (fun pre T M M' W W' ⟨c,hj⟩ hb hm=>⟨c,hj.step hb hm⟩)
   (fun pre x T M W vs hj hp hv hrt=>AL (a0:={ a with defers:=[{ target:=.collected w.heap.size,args:=#[] }] ++ a.defers }) hfa hfb (hpre hp) (by omega) (fun st1 hi=>hr pre x st1 hp hi) hj hv hrt) ?_).mono ?_
  .have h3:=dH (hcap j v av h1 h2) (dG.1 ht av (r2 h2));exact h3.mono (fun p hp=>World.cell?_of_block (hb01.block p.block hp.1)) fun b hb=>hb
  .have hC0':=hex0 hC0;have hSl:=hS0 _ (Dx (w':=W1) h (b:=w.heap.size+1) (by omega) (by omega));refine⟨fun _ h=>h.elim,PL,L0,hI0,hC0',by rw[hL1,<- hrec],⟨hSl.1,⟨hSl.2.1.1,fun hx=>hSl.2.1.2 (hx.resolve_right id)⟩,hSl.2.2⟩,fun hT=>?_,fun b hb=>hb.elim,fun b hb=>hS0 b (IO0 h hb01.size hb)⟩;have:=hT.1;omega
  .rintro e W2 ⟨⟨v,rfl⟩,(⟨T,M,hq2,st2,L2,h1,h2,h3,h4,_,h6,_⟩|⟨pre,T,M,hp,c,hq2,st2,L2,h1,h2,h3,h4,_,h6,_⟩)⟩
   .exact ⟨none,_,run_endLoop h3 (by simp),st2,L2,hd st2 h1,kJ (hex1 hq2 h2) (by omega) h3 _⟩
   .refine ⟨some c,_,run_endLoop h3 (by simp),wpIn_wide.2 ?_⟩;exact ms hm c Q _ _ st2 L2 (kJ (hex1 hq2 h2) (by omega) h3 _) (hs c pre st2 hp h1)
end
end
section
abbrev IG:=List (List AV)×Bool
def iK(K:IG->aj->Prop)(g:IG)(st:aj):Prop:=K g st
def Eg:AV->Prop
 | .agg cs=>bD cs
 | av=>dl av
def w6:List AV->Prop
 | []=>True
 | a :: l=>Eg a/\w6 l
theorem tx:∀{l:List AV},w6 l->∀a∈l,Eg a
 | a :: l,h,b,hb=>by
  rcases VL.1 hb with rfl|hb
  .exact h.1
  .exact tx h.2 b hb
theorem JI{cx:Cx}{w:World}{tab:ae}{L:Nat->Value}{x:Value}{av:AV}(h:bL cx w tab L x av)(ht:Eg av):RT w (Sx cx w tab L) x av:=by
 cases av with
 | agg cs=>
  obtain⟨xs,rfl,hn,hr⟩:=h.agg_inv;exact .agg xs cs hn fun j x av h1 h2=>dH (hr j x av h1 h2) (dG.1 ht av (r2 h2))
 | _=>exact dH h ht
def BH(xs:List (List AV))(x:List AV)(dst:Option Nat)(K:IG->aj->Prop)(g:IG)(st:aj):Prop:=
 (g.2=true/\w6 x/\(g.1 ++ [x]) <+: xs)/\K (g.1 ++ [x],true) (st.put dst (.c (.bool true)))/\K (g.1 ++ [x],false) (st.put dst (.c (.bool false)))
def tJ(P:Program)(l:Nat)(xs:List (List AV))(f:AV)(o:Oper)(args:List AV)(K:IG->aj->Prop)(g:IG)(st:aj):Prop:=
 match f with
 | .c (.func (.yield l') first caps)=>(l'=l/\first = #[]/\caps = #[])/\BH xs args o.dst K g st
 | _=>je P o (iK K g) st
def HN(P:Program)(l:Nat)(xs:List (List AV))(o:Oper)(K:IG->aj->Prop)(g:IG)(st:aj):Prop:=
 match o.op with
 | .call c=>match c.callee with
  | .value f=>tJ P l xs (bb st f) o (c.args.toList.map (bb st)) K g st
  | _=>je P o (iK K g) st
 | _=>je P o (iK K g) st
def uf(P:Program)(l:Nat)(xs:List (List AV))(ops:Array Oper)(K:IG->aj->Prop):List Oper->IG->aj->Prop
 | [],g,st=>K g st
 | o :: rest,g,st=>lq ops o.guard (HN P l xs o (uf P l xs ops K rest) g) (j8 o.dst (uf P l xs ops K rest g)) st
def tG(next:IG->aj->Prop)(Q:Exit->IG->aj->Prop):Exit->IG->aj->Prop
 | .normal,g,st=>next g st
 | e,g,st=>Q e g st
def ka(id:Nat)(Q:Exit->IG->aj->Prop):Exit->IG->aj->Prop
 | .exit id',g,st=>if id'=id then Q .normal g st else Q (.exit id') g st
 | e,g,st=>Q e g st
def BP(I:IG->aj->Prop)(μ:IG->aj->Nat)(n:Nat)(g:IG)(st:aj):Prop:=∃st',ct st st' /\ I g st' /\ μ g st'<n
def ez(P:Program)(l:Nat)(xs:List (List AV)):Code->(Exit->IG->aj->Prop)->IG->aj->Prop
 | .skip,Q,g,st=>Q .normal g st
 | .region _ ops _,Q,g,st=>uf P l xs ops (Q .normal) ops.toList g st
 | .seq x y,Q,g,st=>ez P l xs x (tG (ez P l xs y Q) Q) g st
 | .cond c x y,Q,g,st=>oX (bb st c) (ez P l xs x Q g) (ez P l xs y Q g) st
 | .block id x,Q,g,st=>ez P l xs x (ka id Q) g st
 | .loop x,Q,g,st=>∃(I:IG->aj->Prop)(μ:IG->aj->Nat),(∃st',ct st st' /\ I g st')/\∀g st,I g st->ez P l xs x (tG (BP I μ (μ g st)) Q) g st
 | .exit id,Q,g,st=>Q (.exit id) g st
 | .ret,Q,g,st=>Q .ret g st
 | _,_,_,_=>False
def Px(P:Program)(l:Nat)(xs:List (List AV))(x:Code)(Q:Exit->IG->aj->Prop)(g:IG)(st:aj):Prop:=ez P l xs (.loop x) Q g st
theorem yV{P:Program}{l:Nat}{xs:List (List AV)}{x:Code}{Q:Exit->IG->aj->Prop}{g:IG}{st:aj}(I:IG->aj->Prop)(μ:IG->aj->Nat)(h0:∃st',ct st st' /\ I g st')(h:∀g st,I g st->ez P l xs x (tG (BP I μ (μ g st)) Q) g st):Px P l xs x Q g st:=⟨I,μ,h0,h⟩
theorem DP{I:IG->aj->Prop}{μ:IG->aj->Nat}{n:Nat}{g:IG}{st st':aj}(hw:ct st st')(hI:I g st')(hm:μ g st'<n):BP I μ n g st:=⟨st',hw,hI,hm⟩
section
variable {P:Program} {l:Nat} {xs:List (List AV)} {Q:Exit->IG->aj->Prop} {g:IG} {st:aj} {K:IG->aj->Prop} {ops:Array Oper} {dst:Option Tmp} {op:Op} {ty:TypeId} {pos:String} {aft:Array Edge} {gd:Option (Nat×Bool)} {rest:List Oper}
theorem Cd:ez P l xs .skip Q g st=Q .normal g st:=rfl
theorem Hc{id:Nat}{o:List Oper}{b:Bool}:ez P l xs (.region id o.toArray b) Q g st=uf P l xs o.toArray (Q .normal) o g st:=rfl
theorem F4{x y:Code}:ez P l xs (.seq x y) Q g st=ez P l xs x (tG (ez P l xs y Q) Q) g st:=rfl
theorem CQ{c:Operand}{x y:Code}:ez P l xs (.cond c x y) Q g st=oX (bb st c) (ez P l xs x Q g) (ez P l xs y Q g) st:=rfl
theorem yj{id:Nat}{x:Code}:ez P l xs (.block id x) Q g st=ez P l xs x (ka id Q) g st:=rfl
theorem CV{x:Code}:ez P l xs (.loop x) Q g st=Px P l xs x Q g st:=rfl
theorem Bx{id:Nat}:ez P l xs (.exit id) Q g st=Q (.exit id) g st:=rfl
theorem GC:ez P l xs .ret Q g st=Q .ret g st:=rfl
theorem xG{next:IG->aj->Prop}:tG next Q .normal g st=next g st:=rfl
theorem Dd{next:IG->aj->Prop}{id:Nat}:tG next Q (.exit id) g st=Q (.exit id) g st:=rfl
theorem ES{next:IG->aj->Prop}:tG next Q .ret g st=Q .ret g st:=rfl
theorem rc{id:Nat}:ka id Q .normal g st=Q .normal g st:=rfl
theorem yb{id:Nat}:ka id Q .ret g st=Q .ret g st:=rfl
theorem ut{id id':Nat}:ka id Q (.exit id') g st=if id'=id then Q .normal g st else Q (.exit id') g st:=rfl
theorem I7:uf P l xs ops K [] g st=K g st:=rfl
theorem CC:uf P l xs ops K (⟨dst,op,ty,pos,aft,none⟩ :: rest) g st=HN P l xs ⟨dst,op,ty,pos,aft,none⟩ (uf P l xs ops K rest) g st:=rfl
theorem IQ{x:Operand}:HN P l xs ⟨dst,.move x,ty,pos,aft,gd⟩ K g st=je P ⟨dst,.move x,ty,pos,aft,gd⟩ (iK K g) st:=rfl
theorem BS{x:Operand}:HN P l xs ⟨dst,.assign x,ty,pos,aft,gd⟩ K g st=je P ⟨dst,.assign x,ty,pos,aft,gd⟩ (iK K g) st:=rfl
theorem Kn{t:TypeId}{x:Operand}:HN P l xs ⟨dst,.load t x,ty,pos,aft,gd⟩ K g st=je P ⟨dst,.load t x,ty,pos,aft,gd⟩ (iK K g) st:=rfl
theorem E3{t:TypeId}{x:Operand}{f:Nat}:HN P l xs ⟨dst,.fieldAddr t x f,ty,pos,aft,gd⟩ K g st=je P ⟨dst,.fieldAddr t x f,ty,pos,aft,gd⟩ (iK K g) st:=rfl
theorem MH{o:BinOp}{t t2:TypeId}{x y:Operand}:HN P l xs ⟨dst,.binOp o t x y t2,ty,pos,aft,gd⟩ K g st=je P ⟨dst,.binOp o t x y t2,ty,pos,aft,gd⟩ (iK K g) st:=rfl
theorem QY{o:UnOp}{t:TypeId}{x:Operand}:HN P l xs ⟨dst,.unOp o t x,ty,pos,aft,gd⟩ K g st=je P ⟨dst,.unOp o t x,ty,pos,aft,gd⟩ (iK K g) st:=rfl
theorem Nl{x:Operand}{t:TypeId}:HN P l xs ⟨dst,.call ⟨.builtin .len,#[x],#[t]⟩,ty,pos,aft,gd⟩ K g st=je P ⟨dst,.call ⟨.builtin .len,#[x],#[t]⟩,ty,pos,aft,gd⟩ (iK K g) st:=rfl
theorem Kd{f:Operand}{args:List Operand}{ts:Array TypeId}:HN P l xs ⟨dst,.call ⟨.value f,args.toArray,ts⟩,ty,pos,aft,gd⟩ K g st=tJ P l xs (bb st f) ⟨dst,.call ⟨.value f,args.toArray,ts⟩,ty,pos,aft,gd⟩ (args.map (bb st)) K g st:=by simp[HN]
theorem xK{o:Oper}{args:List AV}:tJ P l xs (.c (.func (.yield l) #[] #[])) o args K g st=BH xs args o.dst K g st:=by simp[tJ]
theorem TA:iK K g st=K g st:=rfl
end
def Tt:=(And.intro (And.intro (And.intro (And.intro @Cd (And.intro @Hc @F4)) (And.intro @CQ (And.intro @yj @CV))) (And.intro (And.intro @Bx (And.intro @GC @xG)) (And.intro (And.intro @Dd @ES) (And.intro @rc @yb)))) (And.intro (And.intro (And.intro @ut (And.intro @I7 @CC)) (And.intro @IQ (And.intro @BS @Kn))) (And.intro (And.intro @E3 (And.intro @MH @QY)) (And.intro (And.intro @Nl @Kd) (And.intro @xK @TA)))))
structure FT(P:Program)(l:Nat)(xs:List (List AV))(J Jx:List (List AV)->(Nat->Prop)->(Nat->Prop)->World->Prop):Prop where
 keep:∀pre T M M' W W',J pre T M W->b8 M W.heap.size W W' -> (∀b,M' b->M b\/(W.heap.size<=b/\b<W'.heap.size))->J pre (pM T W W') M' W'
 keepx:∀pre T M M' W W',Jx pre T M W->b8 M W.heap.size W W' -> (∀b,M' b->M b\/(W.heap.size<=b/\b<W'.heap.size))->Jx pre (pM T W W') M' W'
 round:∀pre x T M W (vs:Array Value),J pre T M W->(pre ++ [x]) <+: xs->vs.size=x.length->(∀(j:Nat)(v:Value)(av:AV),vs[j]? = some v->x[j]? = some av->RT W (fun b=>T b/\¬M b) v av) ->
   YieldAt Fence.wide 0 P l vs W fun e W'=>(e=.returned (.bool true)/\J (pre ++ [x]) T M W' /\ xB T W W')\/(e=.returned (.bool false)/\Jx (pre ++ [x]) T M W' /\ xB T W W')
def JJ(J Jx:List (List AV)->(Nat->Prop)->(Nat->Prop)->World->Prop)(g:IG)(T M:Nat->Prop)(W:World):Prop:=match g.2 with|true=>J g.1 T M W|false=>Jx g.1 T M W
def PM(T:Nat->Prop)(W:World)(b:Nat):Prop:=b<W.heap.size/\¬T b
structure sE(T0:Nat->Prop)(W0:World)(T:Nat->Prop):Prop where
 amb:Et W0
 tab0:∀b,b<wY->T0 b
 tab:∀b,b<wY->T b
def DT(T0:Nat->Prop)(W0:World)(T:Nat->Prop)(W:World)(hq:sE T0 W0 T):Cx:=⟨T0,W0,PM T W,hq.amb,fun b hb=>W9 fun h=>hb.2 (hq.tab b h),hq.tab0⟩
def B5(tab:ae)(L:Nat->Value)(b:Nat):Prop:=∃id o,tab.get id=some o/\aL (L id)=some b
def Kz(T0:Nat->Prop)(W0:World)(J Jx:List (List AV)->(Nat->Prop)->(Nat->Prop)->World->Prop)(g:IG)(st:aj)(a:Act)(W:World):Prop:=
 ∃(T:Nat->Prop)(hqq:sE T0 W0 T)(L:Nat->Value),aH (DT T0 W0 T W hqq) a W st L/\a.defers=[]/\(∀b,T b->b<W.heap.size)/\JJ J Jx g T (B5 st.tab L) W
section
variable {P:Program} {l:Nat} {xs:List (List AV)} {T0:Nat->Prop} {W0:World} {J Jx:List (List AV)->(Nat->Prop)->(Nat->Prop)->World->Prop} {g:IG} {st st':aj} {a a':Act} {W W':World} {L L':Nat->Value} {T M M':Nat->Prop}
theorem JL(hs:W.heap.size<=W'.heap.size):PM (pM T W W') W'=PM T W:=by
 funext b
 apply propext;unfold PM pM;constructor
 .rintro ⟨h1,h2⟩;exact⟨Nat.lt_of_not_le fun h=>h2 (.inr ⟨h,h1⟩),fun h=>h2 (.inl h)⟩
 .rintro ⟨h1,h2⟩;refine⟨by omega,fun h=>?_⟩;rcases h with h|h
  .exact h2 h
  .omega
theorem sE.grow(hq:sE T0 W0 T):sE T0 W0 (pM T W W'):=⟨hq.amb,hq.tab0,fun b hb=>.inl (hq.tab b hb)⟩
theorem KW(hq:sE T0 W0 T)(hs:W.heap.size<=W'.heap.size):DT T0 W0 (pM T W W') W' hq.grow=DT T0 W0 T W hq:=by
 unfold DT
 congr 1
 exact JL hs
theorem uP:pM T W W=T:=by
 funext b
 apply propext;unfold pM;constructor
 .rintro (h|h)
  .exact h
  .omega
 .exact .inl
theorem EK(H:FT P l xs J Jx)(h:JJ J Jx g T M W)(hb:b8 M W.heap.size W W')(hM:∀b,M' b->M b\/(W.heap.size<=b/\b<W'.heap.size)):JJ J Jx g (pM T W W') M' W':=by
 obtain⟨pre,b⟩:=g;cases b
 .exact H.keepx _ _ _ _ _ _ h hb hM
 .exact H.keep _ _ _ _ _ _ h hb hM
theorem Qc{hqq:sE T0 W0 T}(h:aH (DT T0 W0 T W hqq) a W st L){b:Nat}(hs:Sx (DT T0 W0 T W hqq) W st.tab L b):T b/\¬B5 st.tab L b:=
 ⟨Classical.byContradiction fun hn=>hs.2.1.2 ⟨hs.1,hn⟩,fun⟨id,o,h1,h2⟩=>hs.2.2 id o h1 h2⟩
theorem PI{hqq:sE T0 W0 T}(h:aH (DT T0 W0 T W hqq) a W st L){id:Nat}{o:aB}{b:Nat}(h1:st.tab.get id=some o)(h2:aL (L id)=some b):T b:=
 Classical.byContradiction fun hn=>(h.lay.ex b ⟨((h.lay.objs id o h1).ge h2).2,hn⟩).2 id o h1 h2
theorem FI{hqq:sE T0 W0 T}(h:aH (DT T0 W0 T W hqq) a W st L)(hk:xB T W W'):aH (DT T0 W0 T W' hqq) a W' st L:=by
 have hW:b8 (PM T W) W0.heap.size W0 W:=h.lay.below;refine mD h rfl (fun b hs=>hk.block b (Qc h hs).1) (fun id o g h1 h2=>hk.block g (PI h h1 h2)) (fun b hs=>⟨UY hs.1 hk.size,⟨hs.2.1.1,fun hx=>hx.2 (Qc h hs).1⟩,hs.2.2⟩) ?_ (fun b hx=>⟨hx.1,fun id o h1 h2=>hx.2 (PI h h1 h2)⟩);refine⟨hk.os.trans hW.os,hk.tape.trans hW.tape,hk.output.trans hW.output,Vj hW.size hk.size,fun k (hk':k<W0.heap.size) hx=>?_⟩;have hT:T k:=Classical.byContradiction fun hn=>hx ⟨UY hk' (Vj hW.size hk.size),hn⟩;exact(hk.block k hT).trans (hW.block k hk' fun hx'=>hx'.2 hT)
theorem yM{o:Oper}{next:Act->World->Prop}{Q:Exit->Act->World->Prop}(h:o.wp P a W next Q):o.wpIn Fence.wide 0 P a W next Q:=by
 refine⟨fun _ _=>trivial,?_⟩;show o.uponIn Fence.wide 0 P a next Q ((execOp a.eval o).run P W);unfold Oper.wp at h;generalize (execOp a.eval o).run P W=r at h
 cases r with
 | ok x w1=>
  cases x with
  | value v=>exact h
  | skip=>exact h
  | defer d=>exact h
  | enter f args=>exact⟨fun h=>(by cases h),callsIn_wide.2 h⟩
  | row row args=>
   refine⟨fun h=>(by cases h),fun c cs _=>?_⟩;obtain⟨v,w',h1,h2⟩:=h c cs;exact⟨v,w',h1,stepsIn_wide.2 h2⟩
  | _=>exact h.elim
 | halt x w1=>
  cases x<;>first|exact h|exact h.elim
theorem SF(H:FT P l xs J Jx){o:Oper}{K:IG->aj->Prop}{Q:Exit->Act->World->Prop}(hf:Lk o=true)(h:Kz T0 W0 J Jx g st a W)(hp:HN P l xs o K g st) :
  o.wpIn Fence.wide 0 P a W (fun a' W'=>∃g' st',K g' st' /\ Kz T0 W0 J Jx g' st' a' W') Q:=by
 obtain⟨T,hqq,L,hC,hd,hT,hJ⟩:=h
 have plain:je P o (iK K g) st->o.wpIn Fence.wide 0 P a W (fun a' W'=>∃g' st',K g' st' /\ Kz T0 W0 J Jx g' st' a' W') Q:=fun hp=>by
  refine yM (Oper.wp_mono (fun a' W' ⟨st',L',h2,h3,h4,h5⟩=>?_) (C0 hC hp hf));have hW:b8 (PM T W) W0.heap.size W0 W:=hC.lay.below;have hW':b8 (PM T W) W0.heap.size W0 W':=h3.lay.below;refine⟨g,st',h2,pM T W W',hqq.grow,L',by rw[KW hqq h4.size];exact h3,h5.trans hd,fun b hb'=>?_,EK H hJ ⟨hW'.os.trans hW.os.symm,hW'.tape.trans hW.tape.symm,hW'.output.trans hW.output.symm,h4.size,fun k hk hn=>h4.keep k hk fun id o h6 h7=>hn ⟨id,o,h6,h7⟩⟩ fun b hb'=>?_⟩
  .rcases hb' with hb'|hb'
   .exact UY (hT b hb') h4.size
   .exact hb'.2
  .obtain ⟨id,o,h6,h7⟩:=hb';rcases U9 b W.heap.size with hlt|hge
   .obtain ⟨id2,o2,h8,h9⟩:=h4.young id o b h6 h7 hlt;exact .inl ⟨id2,o2,h8,h9⟩
   .exact .inr ⟨hge,((h3.lay.objs id o h6).ge h7).2⟩
 obtain⟨dst,op,ty,pos,aft,gd⟩:=o;unfold HN at hp;simp only at hp;split at hp
 .rename_i c;obtain⟨callee,args,argTypes⟩:=c;simp only at hp;split at hp
  .rename_i f;unfold tJ at hp;split at hp
   .rename_i l' first caps hfv
    obtain⟨⟨rfl,rfl,rfl⟩,⟨h1,h2,h3⟩,h4,h5⟩:=hp;have hfe:=(ak hC f).1;rw[hfv] at hfe;have hfe:=hfe.c_inv
    have hJ':J g.1 T (B5 st.tab L) W:=by
     unfold JJ at hJ;rw[h1] at hJ;exact hJ
    have hrt:∀(j:Nat)(v:Value)(av:AV),(args.map a.eval)[j]? = some v->(args.toList.map (bb st))[j]? = some av->RT W (fun b=>T b/\¬B5 st.tab L b) v av:=fun j v av h6 h7=>by
     rw[Xs] at h6;rw[UV,V0] at h7
     cases hj:args[j]? with
     | none=>simp[hj] at h6
     | some x=>
      simp[hj] at h6 h7;subst h6 h7;have htr:=tx h2 (bb st x) (U3.2 ⟨x,r2 (by rw[V0];exact hj),rfl⟩);exact(JI (ak hC x).1 htr).mono (fun _ _=>rfl) fun b hb=>Qc hC hb
    obtain⟨fn,tmps,assign,body,hy,hR⟩:=H.round g.1 _ T _ W (args.map a.eval) hJ' h3 (by simp) hrt;refine⟨fun _ _=>trivial,?_⟩
    have hrun:(execOp a.eval { dst:=dst,op:=.call { callee:=.value f,args:=args,argTypes:=argTypes },type:=ty,pos:=pos,after:=aft,guard:=gd }).run P W=.ok (.round l' fn tmps assign body) W:=by
     simp[execOp,Sem.run_bind,resolve,hfe,Deferred.ofValue,invoke,hy]
    have hsem:∀o:Oper,Oper.semAt Fence.wide.round a.eval o=execOp a.eval o:=fun o=>Oper.semAt_none _ _;rw[hsem,hrun,Oper.uponIn_round];refine⟨fun h=>(by cases h),hR.mono ?_⟩
    have hput:∀b:Bool,∀W',xB T W W' -> aH (DT T0 W0 T W' hqq) (a.put dst (.bool b)) W' (st.put dst (.c (.bool b))) L/\(a.put dst (.bool b)).defers=[]/\∀x,T x->x<W'.heap.size:=fun b W' hk=>
     ⟨bh (FI hC hk) (.tree (.c _)) trivial dst,by rw[a8];exact hd,fun x hx=>UY (hT x hx) hk.size⟩
    rintro e W' (⟨rfl,hj,hk⟩|⟨rfl,hj,hk⟩)
    .obtain ⟨c1,c2,c3⟩:=hput true W' hk;exact⟨_,_,h4,T,hqq,L,c1,c2,c3,by rw[bJ];exact hj⟩
    .obtain ⟨c1,c2,c3⟩:=hput false W' hk;exact⟨_,_,h5,T,hqq,L,c1,c2,c3,by rw[bJ];exact hj⟩
   .exact plain hp
  .exact plain hp
 .exact plain hp
theorem wV(H:FT P l xs J Jx){ops:Array Oper}{K:IG->aj->Prop}{Q:Exit->Act->World->Prop}(hQ:∀g st a W,K g st->Kz T0 W0 J Jx g st a W->Q .normal a W) :
  ∀(s:List Oper)(g:IG)(st:aj)(a:Act)(W:World),(∀o∈s,Lk o=true)->Kz T0 W0 J Jx g st a W->uf P l xs ops K s g st->wpListIn Fence.wide 0 P ops Q s a W
 | [],g,st,a,W,_,h,hp=>hQ g st a W hp h
 | o :: rest,g,st,a,W,hf,h,hp=>by
  unfold uf at hp;have hfo:=hf o (Vr ..);obtain⟨T,hqq,L,hC,hd,hT,hJ⟩:=h;refine wpListIn_step fun K' hK'=>?_;rcases cw hC hp o rfl with ⟨hw,st',h1,h2,e1,e2⟩|⟨hw,st',h1,h2,e1,e2⟩
  .rw [UZ hw];have hi:=SF (Q:=Q) H hfo ⟨T,hqq,L,h2,hd,hT,by rw[e1];exact hJ⟩ h1;refine⟨hi.1,?_⟩;have:=hi.2;revert this;generalize (o.semAt Fence.wide.round a.eval).run P W=r;intro this;have hm:∀a' W',(∃g' st',uf P l xs ops K rest g' st' /\ Kz T0 W0 J Jx g' st' a' W')->K' a' W':=fun a' W' ⟨g',st'',h3,h4⟩=>hK' a' W' (wV H hQ rest g' st'' a' W' (fun o ho=>hf o (Vx _ ho)) h4 h3)
   cases r with
   | ok x w1=>
    cases x with
    | value v=>exact hm _ _ this
    | skip=>exact hm _ _ this
    | defer d=>exact hm _ _ this
    | enter f args=>
     refine⟨this.1,this.2.mono ?_⟩;intro e w'' h5
     cases e with
     | returned v=>exact hm _ _ h5
     | panicked c=>exact h5
     | outgrown=>exact h5
    | row row args=>exact⟨this.1,this.2.mono fun v w'' h5=>hm _ _ h5⟩
    | round l f tmps assign body=>
     refine⟨this.1,this.2.mono ?_⟩;intro e w'' h5
     cases e with
     | returned v=>exact hm _ _ h5
     | panicked c=>exact h5
     | outgrown=>exact h5
    | _=>exact this
   | halt x w1=>cases x<;>exact this
  .rw [UX (by simp[hw])];exact⟨fun _ _=>trivial,hK' _ _ (wV H hQ rest g _ _ W (fun o ho=>hf o (Vx _ ho)) ⟨T,hqq,L,bZ h2 o.dst,by rw[a8];exact hd,hT,by rw[bJ,e1];exact hJ⟩ h1)⟩
def g8:Code->Bool
 | .skip=>true
 | .region _ ops draw=>!draw && ops.toList.all Lk
 | .seq x y=>g8 x && g8 y
 | .cond _ x y=>g8 x && g8 y
 | .block _ x=>g8 x
 | .loop x=>g8 x
 | .exit _=>true
 | .ret=>true
 | _=>false
abbrev SO(T0:Nat->Prop)(W0:World)(J Jx:List (List AV)->(Nat->Prop)->(Nat->Prop)->World->Prop)(Q:Exit->IG->aj->Prop):Exit->Act->World->Prop:=fun e a W=>∃g st,Q e g st/\Kz T0 W0 J Jx g st a W
theorem ze(H:FT P l xs J Jx)(h:Kz T0 W0 J Jx g st a W)(hw:ct st st'):Kz T0 W0 J Jx g st' a W:=by
 obtain⟨T,hqq,L,hC,hd,hT,hJ⟩:=h;obtain⟨L',hC',hS⟩:=hw _ _ _ _ hC;refine⟨T,hqq,L',hC',hd,hT,?_⟩;have:=EK (M':=B5 st'.tab L') (W':=W) H hJ ⟨rfl,rfl,rfl,UU _,fun _ _ _=>rfl⟩ fun b hb=>.inl (Classical.byContradiction fun hn=>?_)
 .rw [uP] at this;exact this
 .obtain ⟨id,o,h1,h2⟩:=hb;have hge:=(hC'.lay.objs id o h1).ge h2;have hX:¬PM T W b:=fun hx=>(hC'.lay.ex b hx).2 id o h1 h2;have hs:Sx (DT T0 W0 T W hqq) W st.tab L b:=⟨hge.2,⟨.inr hge.1,hX⟩,fun id2 o2 h3 h4=>hn ⟨id2,o2,h3,h4⟩⟩;exact(hS b hs).2.2 id o h1 h2
theorem Lr(H:FT P l xs J Jx):∀(c:Code),g8 c=true->∀(Q:Exit->IG->aj->Prop)(g:IG)(st:aj)(a:Act)(W:World),Kz T0 W0 J Jx g st a W->ez P l xs c Q g st->c.wpIn Fence.wide 0 P (SO T0 W0 J Jx Q) a W:=by
 intro c
 induction c with
 | skip=>exact fun _ Q g st a W h hp=>wpIn_skip ⟨g,st,hp,h⟩
 | region id ops draw=>
  intro hf Q g st a W h hp
  cases draw with
  | false=>
   simp only[g8,WF,VC,List.all_eq_true] at hf;exact wpIn_region_list (wV H (fun g st a W h1 h2=>⟨g,st,h1,h2⟩) _ g st a W hf h hp)
  | true=>cases hf
 | seq x y ihx ihy=>
  intro hf Q g st a W h hp;simp only[g8,U1] at hf;unfold ez at hp;refine wpIn_seq (wpIn_mono (ihx hf.1 _ g st a W h hp) (fun e a' W' ⟨g',st',h1,h2⟩=>?_))
  cases e with
  | normal=>exact ihy hf.2 Q g' st' a' W' h2 h1
  | _=>exact⟨g',st',h1,h2⟩
 | cond c x y ihx ihy=>
  intro hf Q g st a W h hp;simp only[g8,U1] at hf;unfold ez oX at hp;split at hp
  .rename_i b hb;obtain⟨T,hqq,L,hC,_⟩:=id h;have hv:=(ak hC c).1;rw[hb] at hv;have hv:=hv.c_inv;cases b
   .exact wpIn_cond_false hv (ihy hf.2 Q g st a W h hp)
   .exact wpIn_cond_true hv (ihx hf.1 Q g st a W h hp)
  .exact hp.elim
 | block id x ih=>
  intro hf Q g st a W h hp;simp only[g8] at hf;unfold ez at hp;refine wpIn_block (wpIn_mono (ih hf _ g st a W h hp) (fun e a' W' ⟨g',st',h1,h2⟩=>?_))
  cases e with
  | exit id'=>
   simp only[ka,Exit.inBlock] at h1 ⊢;split
   .rename_i e;rw[UZ e] at h1;exact⟨g',st',h1,h2⟩
   .rename_i e;rw[UX e] at h1;exact⟨g',st',h1,h2⟩
  | _=>exact⟨g',st',h1,h2⟩
 | loop x ih=>
  intro hf Q g st a W h hp;simp only[g8] at hf;unfold ez at hp;obtain⟨I,μ,⟨PL,hw0,hI⟩,hr⟩:=hp
  let p:Act->World->Nat->Prop:=fun a W n=>∃g st,I g st/\Kz T0 W0 J Jx g st a W /\ μ g st=n
  refine wpIn_loop (fun a W=>∃n,p a W n) (fun a W=>lx (p a W)) ⟨_,g,PL,hI,ze H h hw0,rfl⟩ fun a W hpa=>?_;obtain⟨⟨g,st,h1,h2,h3⟩,_⟩:=gV hpa;refine wpIn_mono (ih hf _ g st a W h2 (hr g st h1)) (fun e a' W' ⟨g',st',h4,h5⟩=>?_)
  cases e with
  | normal=>
   obtain⟨st'',hw,hI'',hlt⟩:=h4;have hpn:p a' W' (μ g' st''):=⟨g',st'',hI'',ze H h5 hw,rfl⟩;refine⟨⟨_,hpn⟩,?_⟩;have:=(gV ⟨_,hpn⟩).2 _ hpn;show lx (p a' W')<lx (p a W);omega
  | _=>exact⟨g',st',h4,h5⟩
 | exit id=>exact fun _ Q g st a W h hp=>wpIn_exit ⟨g,st,hp,h⟩
 | ret=>exact fun _ Q g st a W h hp=>wpIn_ret ⟨g,st,hp,h⟩
 | _=>exact fun hf=>(by cases hf)
def Tu(xs:List (List AV)):Exit->IG->aj->Prop
 | .normal,g,_=>(g.2=true->g.1=xs)/\g.1 <+: xs
 | .ret,g,_=>(g.2=true->g.1=xs)/\g.1 <+: xs
 | _,_,_=>False
end
theorem FK{S:Nat->Prop}{w:World}{vs:Array Value}{args:List AV}{n:Nat}{hqq:sE S w S}(hS:∀b,S b->b<w.heap.size)(hvs:vs.size=args.length)(hn:args.length<=n)(hv:∀(j:Nat)(v:Value)(av:AV),vs[j]? = some v->args[j]? = some av->RT w S v av) :
  aH (DT S w S w hqq) { tmps:=vs ++ Array.replicate (n-vs.size) undef,defers:=[] } w ⟨n,b9 0 args,[],0⟩ (fun _=>undef):=by
 have hL:iM (DT S w S w hqq) w [] (fun _=>undef):=⟨jo (Below.refl _ _),fun id o h=>(by cases h),fun id id' o o' g h=>(by cases h),fun b hb=>⟨hb.1,fun id o h=>(by cases h)⟩⟩;refine⟨hL,?_,i6.nil _ _ _,fun id o h=>(by cases h),fun t=>?_⟩
 .simp;omega
 have e:(⟨n,b9 0 args,[],0⟩:aj).get t=args.getD t .any:=by
  show(if t<n then aX (b9 0 args) t else .any)=_;rw[fU];split
  .simp
  .simp [List.getD,Vh (show args.length<=t by omega)]
 rw[e];by_cases ht:t<args.length
 .have ht':t<vs.size:=by omega
  have e2:(vs ++ Array.replicate (n-vs.size) undef).getD t undef=vs[t]:=by
   rw[VG,VQ ht',UT ht'];rfl
  have e3:args.getD t .any=args[t]:=by simp[List.getD,ht]
  rw[e2,e3];have:=hv t _ _ (UT ht') (p0 ht);exact⟨.tree (this.mono (fun _ _=>rfl) fun b hb=>⟨hS b hb,⟨.inl hb,fun hx=>hx.2 hb⟩,fun id o h=>by cases h⟩),this.lt 0⟩
 .have e3:args.getD t .any=.any:=by simp[List.getD,Vh (W9 ht)]
  rw[e3];exact⟨.tree (.any _),trivial⟩
theorem xz {P : Program} {f : FuncId} {fn : Func} {c : Code} (hf : P.funcs[f]? = some fn) (hb : fn.body = some c) (hname : (fn.name == "runtime.NumGoroutine") = false) {caps : List AV} {xs : List (List AV)} {n : Nat} (hnt : fn.ntmps = n) (hrs : fn.results = #[]) (hn : Nat.ble (caps.length + 1) n = true)
  (hc:g8 c=true) (ht:bD caps) (h:∀l,ez P l xs c (Tu xs) ([],true) ⟨n,b9 0 (.c (.func (.yield l) #[] #[]) :: caps),[],0⟩):Qe P f caps xs:=by
 have hn:=Wo hn;subst hnt;refine⟨ca hf hb hname,fun l T0 lb W0 J Jx hlb hok0 hcap hlt hkeep hkeepx hround hJ0=>?_⟩;have hqq:sE T0 W0 T0:=⟨hok0.amb,hok0.tab,hok0.tab⟩;refine callsIn_of_wp hf hb trivial ?_ rfl;have H:FT P l xs J Jx:=⟨hkeep,hkeepx,hround⟩
 have hC:aH (DT T0 W0 T0 W0 hqq) { tmps:=(#[.func (.yield l) #[] #[]] ++ lb) ++ Array.replicate (fn.ntmps-(#[Value.func (.yield l) #[] #[]] ++ lb).size) undef,defers:=[] } W0 ⟨fn.ntmps,b9 0 (.c (.func (.yield l) #[] #[]) :: caps),[],0⟩ (fun _=>undef):=by
  refine FK (args:=.c (.func (.yield l) #[] #[]) :: caps) ?_ ?_ (by simpa using hn) fun j v av h1 h2=>?_
  .exact hlt _ _ _ _ hJ0
  .simp;omega
  .cases j with
   | zero=>
    rw[VQ (by simp)] at h1;simp at h1 h2;subst h1;subst h2;exact .c _
   | succ j=>
    refine hcap j v av ?_ (by simpa using h2);rw[Array.getElem?_append_right (by simp)] at h1;simpa using h1
 have hJ1:J [] T0 (B5 (⟨fn.ntmps,b9 0 (.c (.func (.yield l) #[] #[]) :: caps),[],0⟩:aj).tab fun _=>undef) W0:=by
  have:=hkeep [] T0 _ (B5 [] fun _=>undef) W0 W0 hJ0 ⟨rfl,rfl,rfl,UU _,fun _ _ _=>rfl⟩ fun b ⟨id,o,h1,_⟩=>(by cases h1);rw[uP] at this;exact this
 refine wpIn_mono (Lr H c hc _ ([],true) _ _ _ ⟨T0,hqq,_,hC,rfl,hlt _ _ _ _ hJ0,hJ1⟩ (h l)) fun e a W' ⟨g,st,hq,T,hq3,L,hC',hd,_,hJ⟩=>?_
 have fin:((g.2=true->g.1=xs)/\g.1 <+: xs)->a.defers=[]/\∃v,(results fn a.tmps).run P W'=.ok v W' /\ (∃u,(Ending.returned v:Ending)=.returned u)/\((∃T M,J xs T M W')\/∃pre T M,pre <+: xs/\Jx pre T M W'):=fun⟨h1,h2⟩=>by
  refine⟨hd,.tuple #[],by simp[results,hrs],⟨_,rfl⟩,?_⟩;obtain⟨pre,b⟩:=g
  cases b with
  | true=>
   obtain rfl:pre=xs:=h1 rfl;exact .inl ⟨T,_,hJ⟩
  | false=>exact .inr ⟨pre,T,_,h2,hJ⟩
 cases e with
 | normal=>exact fin hq
 | ret=>exact fin hq
 | _=>exact hq.elim
end
section
mutual
def AV.rpz(id:Nat)(cells:List AV):AV->AV
 | .op id' i j=>if id'=id then (if i=0 then .rp (cells.drop j) else .any) else .op id' i j
 | .osl id'=>if id'=id then .any else .osl id'
 | .agg cs=>.agg (AV.rpzL id cells cs)
 | .tup cs=>.tup (AV.rpzL id cells cs)
 | .fn f cs=>.fn f (AV.rpzL id cells cs)
 | .bfn f cs=>.bfn f (AV.rpzL id cells cs)
 | .any=>.any
 | .c v=>.c v
 | .sl sz rows=>.sl sz rows
 | .rp cs=>.rp cs
def AV.rpzL(id:Nat)(cells:List AV):List AV->List AV
 | []=>[]
 | a :: l=>a.rpz id cells :: AV.rpzL id cells l
end
theorem gx(id:Nat)(cells:List AV):∀l:List AV,AV.rpzL id cells l=l.map (·.rpz id cells)
 | []=>rfl
 | a :: l=>by rw[AV.rpzL,gx id cells l];rfl
def nR(id:Nat)(cells:List AV):List (Nat×AV)->List (Nat×AV)
 | []=>[]
 | (t,av) :: l=>(t,av.rpz id cells) :: nR id cells l
theorem tD(id:Nat)(cells:List AV):∀(l:List (Nat×AV))(t:Nat),aX (nR id cells l) t=(aX l t).rpz id cells
 | [],t=>rfl
 | (k,av) :: l,t=>by
  unfold nR aX;split
  .rfl
  .exact tD id cells l t
def DL:aB->Prop
 | .box _ cells=>bD cells
 | .row _ _ _=>True
 | .map _=>True
 | .nest _ _ _=>False
 | .ghost _ _=>False
def mB(id:Nat):ae->Prop
 | []=>True
 | (k,some o) :: l=>(k=id\/DL o)/\mB id l
 | (_,none) :: l=>mB id l
theorem l8{id:Nat}:∀{l:ae} {k:Nat} {o:aB},mB id l->l.get k=some o->k=id\/DL o
 | [],k,o,_,h=>by cases h
 | (k',some oo) :: l,k,o,ht,h=>by
  rw[ae.gc] at h;split at h
  .rename_i e;cases h;rw[e];exact ht.1
  .exact l8 ht.2 h
 | (k',none) :: l,k,o,ht,h=>by
  rw[ae.gc] at h;split at h
  .cases h
  .exact l8 (l:=l) ht h
theorem Rw{w:World}{S:Nat->Prop}{x:Value}{av:AV}(h:RT w S x av)(id:Nat)(cells:List AV):av.rpz id cells=av:=by
 induction h with
 | agg xs cs hn hr ih=>
  simp only[AV.rpz,gx,AV.agg.injEq];apply VS;intro j;rw[UV]
  cases hj:cs[j]? with
  | none=>rfl
  | some av=>
   have hlt:j<xs.size:=by rw[hn];exact(US.1 hj).1
   simp[ih j _ av (UT hlt) hj]
 | tup xs cs hn hr ih=>
  simp only[AV.rpz,gx,AV.tup.injEq];apply VS;intro j;rw[UV]
  cases hj:cs[j]? with
  | none=>rfl
  | some av=>
   have hlt:j<xs.size:=by rw[hn];exact(US.1 hj).1
   simp[ih j _ av (UT hlt) hj]
 | fn f xs cs hn hr ih=>
  simp only[AV.rpz,gx,AV.fn.injEq];refine⟨trivial,?_⟩;apply VS;intro j;rw[UV]
  cases hj:cs[j]? with
  | none=>rfl
  | some av=>
   have hlt:j<xs.size:=by rw[hn];exact(US.1 hj).1
   simp[ih j _ av (UT hlt) hj]
 | bfn f xs cs hn hr ih=>
  simp only[AV.rpz,gx,AV.bfn.injEq];refine⟨trivial,?_⟩;apply VS;intro j;rw[UV]
  cases hj:cs[j]? with
  | none=>rfl
  | some av=>
   have hlt:j<xs.size:=by rw[hn];exact(US.1 hj).1
   simp[ih j _ av (UT hlt) hj]
 | _=>rfl
theorem Si{id nx:Nat}{cells:List AV}:∀{av:AV},av.lt nx->(av.rpz id cells).lt nx:=by
 intro av
 induction av using AV.rec (motive_2:=fun _=>True) (motive_3:=fun l=>AV.ltL nx l->AV.ltL nx (AV.rpzL id cells l))<;>simp_all [AV.lt,AV.ltL,AV.rpz,AV.rpzL]
 .split<;>simp_all [AV.lt]
 .split
  .split<;>simp[AV.lt]
  .simp_all [AV.lt]
theorem K0{n nx:Nat}{env:List (Nat×AV)}{tab:ae}(id:Nat){ty:TypeId}{cells:List AV}(hid:tab.get id=some (.box ty cells))(ht:k7 cells)(hot:mB id tab):ct ⟨n,env,tab,nx⟩ ⟨n,nR id cells env,(id,none) :: tab,nx⟩:=by
 intro cx a w L h
 have hget:∀k o,ae.get ((id,none) :: tab) k=some o->k≠id/\tab.get k=some o:=fun k o hk=>by
  rw[ae.gc] at hk;split at hk
  .cases hk
  .exact ⟨by assumption,hk⟩
 have hS:∀b,Sx cx w tab L b->Sx cx w ((id,none) :: tab) L b:=fun b hb=>⟨hb.1,hb.2.1,fun k o hk=>hb.2.2 k o (hget k o hk).2⟩
 have hK:∀k p,Kx ((id,none) :: tab) L k=some p->k≠id/\Kx tab L k=some p:=fun k p hk=>by
  unfold Kx at *
  cases ho:ae.get ((id,none) :: tab) k with
  | none=>simp[ho] at hk
  | some o=>
   obtain⟨h1,h2⟩:=hget k o ho;refine⟨h1,?_⟩;rw[h2];simpa[ho] using hk
 obtain⟨g,cs,hL,hbg,hheap,hcs,hx⟩:=h.lay.objs id _ hid;have hg:aL (L id)=some g:=by rw[hL];rfl
 have hSg:Sx cx w ((id,none) :: tab) L g:=⟨(Vm.1 hheap).1,⟨.inr hbg,fun hX=>(h.lay.ex g hX).2 id _ hid hg⟩,fun k o hk hkg=>by
  obtain⟨h1,h2⟩:=hget k o hk;exact h1 (h.lay.sep k id o _ g h2 hid hkg hg)⟩
 have conv:∀x av,bL cx w tab L x av->bL cx w ((id,none) :: tab) L x (av.rpz id cells):=fun x av hr=>by
  induction hr with
  | tree h0=>
   rw[Rw h0];exact .tree (h0.mono (fun _ _=>rfl) hS)
  | osl x id' h0=>
   unfold AV.rpz;split
   .exact .tree (.any _)
   .exact .osl x id' fun sz v e=>h0 sz v (hK id' _ e).2
  | op x id' i j h0=>
   unfold AV.rpz;split
   .rename_i e;subst e;split
    .rename_i e;subst e;obtain⟨g',hg',rfl⟩:=h0 _ _ (cN hid);rw[hg] at hg';cases hg';rw[W5,We];refine .tree (.rp g j _ (fun k=>cs[j+k]?.getD undef) hSg (fun k av hk=>?_) (fun k av hk=>?_))
     .rw [VJ] at hk;have hlt:j+k<cs.size:=by rw[hcs];exact(US.1 hk).1
      rw[cell_of_row w g (j+k) cs ty (0,0) hheap,UT hlt];rfl
     .rw [VJ] at hk;have hlt:j+k<cs.size:=by rw[hcs];exact(US.1 hk).1
      rw[UT hlt,Vi];exact(r9 (hx (j+k) _ av (UT hlt) hk).1 (lw ht (r2 hk))).mono (fun _ _=>rfl) hS
    .exact .tree (.any _)
   .exact .op x id' i j fun sz v e=>h0 sz v (hK id' _ e).2
  | agg xs cs' hn hr ih=>
   simp only[AV.rpz,gx];refine .agg xs _ (by simpa using hn) fun j x av h1 h2=>?_;rw[UV] at h2
   cases hj:cs'[j]? with
   | none=>simp[hj] at h2
   | some av'=>
    simp[hj] at h2;subst h2;exact ih j x av' h1 hj
  | tup xs cs' hn hr ih=>
   simp only[AV.rpz,gx];refine .tup xs _ (by simpa using hn) fun j x av h1 h2=>?_;rw[UV] at h2
   cases hj:cs'[j]? with
   | none=>simp[hj] at h2
   | some av'=>
    simp[hj] at h2;subst h2;exact ih j x av' h1 hj
  | fn f xs cs' hn hr ih=>
   simp only[AV.rpz,gx];refine .fn f xs _ (by simpa using hn) fun j x av h1 h2=>?_;rw[UV] at h2
   cases hj:cs'[j]? with
   | none=>simp[hj] at h2
   | some av'=>
    simp[hj] at h2;subst h2;exact ih j x av' h1 hj
  | bfn f xs cs' hn hr ih=>
   simp only[AV.rpz,gx];refine .bfn f xs _ (by simpa using hn) fun j x av h1 h2=>?_;rw[UV] at h2
   cases hj:cs'[j]? with
   | none=>simp[hj] at h2
   | some av'=>
    simp[hj] at h2;subst h2;exact ih j x av' h1 hj
 refine⟨L,⟨⟨h.lay.below,fun k o hk=>?_,fun k k' o o' g' h1 h2=>h.lay.sep k k' o o' g' (hget k o h1).2 (hget k' o' h2).2,fun b hb=>⟨(h.lay.ex b hb).1,fun k o hk=>(h.lay.ex b hb).2 k o (hget k o hk).2⟩⟩,h.size,h.defers.mono (fun _ _=>rfl) hS,fun k o hk=>h.young k o (hget k o hk).2,fun t=>?_⟩,hS⟩
 .obtain ⟨h1,h2⟩:=hget k o hk;have ho:=h.lay.objs k o h2;have htr:=(l8 hot h2).resolve_left h1
  cases o with
  | box t cells'=>
   obtain⟨g',cs',h3,h4,h5,h6,h7⟩:=ho;exact⟨g',cs',h3,h4,h5,h6,fun j x av h8 h9=>⟨.tree ((dH (h7 j x av h8 h9).1 (dG.1 htr av (r2 h9))).mono (fun _ _=>rfl) hS),(h7 j x av h8 h9).2⟩⟩
  | row e sz rows=>
   obtain⟨h3,xs,h4,h5,h6⟩:=ho;refine⟨h3,xs,h4,h5,fun i j row av h7 h8=>?_⟩;obtain⟨x,hx,hr⟩:=h6 i j row av h7 h8;exact⟨x,hx,hr.mono (fun _ _=>rfl) hS⟩
  | map ents=>exact ho
  | nest=>exact htr.elim
  | ghost vs env=>exact htr.elim
 .have e1:(⟨n,nR id cells env,(id,none) :: tab,nx⟩:aj).get t=((⟨n,env,tab,nx⟩:aj).get t).rpz id cells:=by
   unfold aj.get;simp only;split
   .exact tD ..
   .simp [AV.rpz]
  rw[e1];exact⟨conv _ _ (h.env t).1,Si (h.env t).2⟩
theorem vI:∀{l:List AV},bD l->k7 l
 | [],_=>trivial
 | a :: l,h=>⟨by
   have:=h.1;cases a<;>first|exact this|exact this.elim,vI h.2⟩
theorem Pb{n nx:Nat}{env:List (Nat×AV)}{tab:ae}(id:Nat){ty:TypeId}{cells:List AV}(hid:tab.get id=some (.box ty cells))(ht:bD cells)(hot:mB id tab):ct ⟨n,env,tab,nx⟩ ⟨n,nR id cells env,(id,none) :: tab,nx⟩:=K0 id hid (vI ht) hot
theorem cQ{st:aj}(id j e sz:Nat){t:TypeId}{cells:List AV}(hid:st.tab.get id=some (.box t cells))(hj:cells[j]? = some (.c (.slice none 0 0))) :
  ct st ⟨st.n,st.env,(id,some (.box t (cells.set j (.osl st.next)))) :: (st.next,some (.row e sz [])) :: st.tab,st.next+1⟩:=by
 intro cx a w L h;have hc1:=j9 (ob:=.row e sz []) (v:=.slice none 0 0) (x:=.slice none 0 0) (av:=.any) h (Below.refl _ _) (fun g hg=>by simp[aL] at hg) (fun hext=>⟨by simp,[],kB ..,by simp,by simp⟩) trivial (fun hext=>.tree (.any _)) trivial none;have hlt:=(h.young id _ hid).1;have hget1:ae.get ((st.next,some (.row e sz [])) :: st.tab) id=some (.box t cells):=by rw[ae.gc,UX (by omega)];exact hid
 generalize hL1:bp L st.next (.slice none 0 0)=L1 at hc1;generalize ht1:(st.next,some (aB.row e sz [])) :: st.tab=tab1 at hc1 hget1 ⊢;have hc1:aH cx a w ⟨st.n,st.env,tab1,st.next+1⟩ L1:=hc1;have hnew:ae.get tab1 st.next=some (.row e sz []):=by rw[<- ht1,ae.gc,UZ rfl]
 have hLn:L1 st.next=.slice none 0 0:=by rw[<- hL1];simp[bp]
 have hget:∀k o,ae.get ((id,some (.box t (cells.set j (.osl st.next)))) :: tab1) k=some o->∃o',ae.get tab1 k=some o' /\ o.sz=o'.sz:=fun k o hk=>by
  rw[ae.gc] at hk;split at hk
  .rename_i e1;cases hk;exact⟨_,by rw[e1];exact hget1,by simp[aB.sz]⟩
  .exact ⟨o,hk,rfl⟩
 have hS1:∀b,Sx cx w tab1 L1 b->Sx cx w ((id,some (.box t (cells.set j (.osl st.next)))) :: tab1) L1 b:=fun b hb=>⟨hb.1,hb.2.1,fun k o hk=>by
  obtain⟨o',h1,_⟩:=hget k o hk;exact hb.2.2 k o' h1⟩
 have hK:∀k p,Kx ((id,some (.box t (cells.set j (.osl st.next)))) :: tab1) L1 k=some p->Kx tab1 L1 k=some p:=fun k p hk=>by
  unfold Kx at *
  cases ho:ae.get ((id,some (.box t (cells.set j (.osl st.next)))) :: tab1) k with
  | none=>simp[ho] at hk
  | some o=>
   obtain⟨o',h1,h2⟩:=hget k o ho;rw[h1];simpa[ho,h2] using hk
 have hrv:∀{x av},bL cx w tab1 L1 x av->av.lt (st.next+1)->bL cx w ((id,some (.box t (cells.set j (.osl st.next)))) :: tab1) L1 x av:=fun hr hl=>hr.mono hl (fun _ _=>rfl) hS1 fun k p _ hk=>hK k p hk
 refine⟨L1,⟨⟨hc1.lay.below,fun k o hk=>?_,fun k k' o o' g h1 h2=>?_,fun b hb=>⟨(hc1.lay.ex b hb).1,fun k o hk=>by
  obtain⟨o',h1,_⟩:=hget k o hk;exact(hc1.lay.ex b hb).2 k o' h1⟩⟩,hc1.size,hc1.defers.mono (fun _ _=>rfl) hS1,fun k o hk=>?_,fun t=>⟨hrv (hc1.env t).1 (hc1.env t).2,(hc1.env t).2⟩⟩,fun b hb=>hS1 b ?_⟩
 .rw [ae.gc] at hk;split at hk
  .rename_i e1;cases hk;subst e1;obtain⟨g,cs,h1,h2,h3,h4,h5⟩:=hc1.lay.objs _ _ hget1;refine⟨g,cs,h1,h2,h3,by simpa using h4,fun i x av h6 h7=>?_⟩;rw[Wf] at h7;split at h7
   .rename_i e2;subst e2;split at h7
    .cases h7;have h8:=h5 j x _ h6 hj;refine⟨.osl x _ fun sz' v hk=>?_,h8.2⟩;have hk:=hK _ _ hk;unfold Kx at hk;rw[hnew] at hk;simp at hk;rw[h8.1.c_inv,<- hk.2,hLn]
    .cases h7
   .have h8:=h5 i x av h6 h7;exact⟨hrv h8.1 (ah.1 (hc1.young _ _ hget1).2 _ (r2 h7)),h8.2⟩
  .have ho:=hc1.lay.objs k o hk;have hy:=(hc1.young k o hk).2
   cases o with
   | box t' cells'=>
    obtain⟨g,cs,h1,h2,h3,h4,h5⟩:=ho;exact⟨g,cs,h1,h2,h3,h4,fun i x av h6 h7=>⟨hrv (h5 i x av h6 h7).1 (ah.1 hy _ (r2 h7)),(h5 i x av h6 h7).2⟩⟩
   | row e' sz' rows'=>
    obtain⟨h1,xs,h2,h3,h4⟩:=ho;refine⟨h1,xs,h2,h3,fun i j row av h5 h6=>?_⟩;obtain⟨x,hx,hr⟩:=h4 i j row av h5 h6;exact⟨x,hx,hr.mono (fun _ _=>rfl) hS1⟩
   | map ents=>exact ho
   | nest e' sz' rows'=>
    obtain⟨h1,xs,h2,h3,h4⟩:=ho;refine⟨h1,xs,h2,h3,fun i j row av h5 h6=>?_⟩;obtain⟨x,hx,hr⟩:=h4 i j row av h5 h6;exact⟨x,hx,hrv hr (ah.1 (hy row (r2 h5)) _ (r2 h6))⟩
   | ghost vs env=>exact⟨ho.1,fun t ht=>hrv (ho.2 t ht) (fX hy t)⟩
 .obtain ⟨o1,h3,_⟩:=hget k o h1;obtain⟨o2,h4,_⟩:=hget k' o' h2;exact hc1.lay.sep k k' o1 o2 g h3 h4
 .rw [ae.gc] at hk;split at hk
  .rename_i e1;cases hk;have hy:=hc1.young id _ hget1;refine⟨by rw[e1];exact hy.1,ah.2 fun x hx=>?_⟩;rcases V9 hx with hx|rfl
   .exact ah.1 hy.2 x hx
   .exact VT _
  .exact hc1.young k o hk
 .refine ⟨hb.1,hb.2.1,fun k o hk hg=>?_⟩;rw[<- ht1,ae.gc] at hk;rw[<- hL1] at hg;unfold bp at hg;split at hk
  .rename_i e1;rw[UZ e1] at hg;simp[aL] at hg
  .rename_i e1;rw[UX e1] at hg;exact hb.2.2 k o hk hg
def TW(P:Program)(rs:List ResultVar)(Post:cu->Prop)(e:Exit)(st:aj):Prop:=FG (vc P rs Post e) st
theorem x8 {P : Program} (hm : P.follows .mixedOrders = true) {f : FuncId} {fn : Func} {c : Code} (hf : P.funcs[f]? = some fn) (hb : fn.body = some c) (hname : (fn.name == "runtime.NumGoroutine") = false) {args : List AV} {Post : cu → Prop} {n : Nat} (hnt : fn.ntmps = n) {rs : List ResultVar} (hrs : fn.results = rs.toArray) (hn : Nat.ble args.length n = true)
  (h:bt P c (TW P rs Post) ⟨n,b9 0 args,[],0⟩):dp P f args Post:=
 k5 hf hb hname hnt hrs hn fun cx a w L hc=>Code.wp_mono (fun e a w ⟨st,L,⟨st',hw,h1⟩,h2⟩=>(hw _ _ _ _ h2).elim fun L' h3=>⟨st',L',h1,h3.1⟩) (ms hm c _ a w _ L hc h)
theorem zv{I:List (List AV)->aj->Prop}{Ix:Code->List (List AV)->aj->Prop}{pre:List (List AV)}{st1 st':aj}:MO I Ix pre st1 .normal st'=FG (I pre) ⟨st1.n,st1.env,st'.tab,st'.next⟩:=rfl
theorem Jv{I:List (List AV)->aj->Prop}{Ix:Code->List (List AV)->aj->Prop}{pre:List (List AV)}{st1 st':aj}:MO I Ix pre st1 .ret st'=FG (Ix .ret pre) ⟨st1.n,st1.env,st'.tab,st'.next⟩:=rfl
theorem Dl{st:aj}:jW [] st=st:=rfl
theorem yz{p:Nat}{av:AV}{l:List (Nat×AV)}{st:aj}:jW ((p,av) :: l) st=jW l (st.put (some p) av):=rfl
def Uq:=(And.intro (And.intro @zv (And.intro @Jv @Dl)) (And.intro @yz (And.intro @List.zip_cons_cons.{0,0} @List.zip_nil_left.{0,0})))
theorem Ut{Post:cu->Prop}{st:aj}{r av:AV}(h:Post ⟨r,[],0⟩)(hl:r.lt 0)(hr:r.ren []=av):∃R,Post R/\R.Ok/\fp R st av:=⟨_,h,⟨fun id o h=>(by cases h),hl⟩,⟨[],List.nodup_nil,hr,trivial⟩⟩
end
end
section
section
def gr(E U:Nat):List (List AV):=(List.range E).flatMap fun(e:Nat)=>(List.range U).map fun(u:Nat)=>[eI (e:Int),eI (u:Int)]
theorem lM(e U:Nat):gr (e+1) U=gr e U ++ (List.range U).map fun(u:Nat)=>[eI (e:Int),eI (u:Int)]:=by
 unfold gr;rw[V5,Wj];simp
theorem BW{E U:Nat}:∀{e:Nat},e<=E->gr e U <+: gr E U:=by
 intro e h;obtain⟨k,rfl⟩:∃k,E=e+k:=⟨E-e,by omega⟩;clear h
 induction k with
 | zero=>exact List.prefix_rfl
 | succ k ih=>
  rw[<- Ww,lM];exact ih.trans (List.prefix_append ..)
theorem zK{E U e u:Nat}(he:e<E)(hu:u<=U):gr e U ++ ((List.range u).map fun(u:Nat)=>[eI (e:Int),eI (u:Int)]) <+: gr E U:=by
 refine List.IsPrefix.trans ?_ (BW (e:=e+1) he);rw[lM];refine List.prefix_append_right_inj _ |>.2 ?_;refine List.IsPrefix.map _ ?_;rw[List.prefix_iff_eq_take];simp[List.take_range,Xw hu]
theorem qD(e u U:Nat):(gr e U ++ ((List.range u).map fun(u:Nat)=>[eI (e:Int),eI (u:Int)])) ++ [[eI (e:Int),eI (u:Int)]]=gr e U ++ ((List.range (u+1)).map fun(u:Nat)=>[eI (e:Int),eI (u:Int)]):=by
 rw[V5,Vc,Vw];rfl
theorem nt{E U:Nat}{x:List AV}:x∈gr E U↔ ∃e u:Nat,e<E/\u<U/\x=[eI (e:Int),eI (u:Int)]:=by
 unfold gr;simp only[VP,Wu,U3];constructor
 .rintro ⟨e,he,u,hu,rfl⟩;exact⟨e,u,he,hu,rfl⟩
 .rintro ⟨e,u,he,hu,rfl⟩;exact⟨e,he,u,hu,rfl⟩
theorem Mm(m:aJ)(hl:m.events.length<=1000000)(hl2:m.users.length<=1000000):Qe Tryz.prog 202 [.rp (aC m)] (gr m.events.length m.users.length):=by
 refine xz Tryz.func202 rfl (by decide) Tryz.ntmps202 Tryz.results202 rfl (by kernel_rfl) (by simp[bD,dl]) fun l=>?_
 repeat' first|simp -implicitDefEqProofs (maxSteps:=5000000) only[w5,↓reduceIte,reduceCtorEq,Nat.reduceLT,Nat.reduceEqDiff,Nat.reduceAdd,Nat.reduceMul,Nat.reduceSub,Nat.reduceLeDiff,Nat.reduceBEq,Tt]|refine sp ?_ ?_<;>intro _
 refine yV (fun g st=>∃e:Nat,e<=m.events.length/\g=(gr e m.users.length,true)/\st=⟨24,[(0,.c (.func (.yield l) #[] #[])),(1,.rp (aC m)),(7,eI (m.events.length:Int)),(8,eI (e:Int))],[],0⟩) (fun g st=>m.events.length-ax st 8) ⟨_,wC,0,UR _,rfl,rfl⟩ ?_;rintro _ _ ⟨e,he,rfl,rfl⟩;by_cases he2:e<m.events.length
 .repeat' first|simp -implicitDefEqProofs (maxSteps:=5000000) only[w5,↓reduceIte,reduceCtorEq,Nat.reduceLT,Nat.reduceEqDiff,Nat.reduceAdd,Nat.reduceMul,Nat.reduceSub,Nat.reduceLeDiff,Nat.reduceBEq,Tt,he2]|refine sp ?_ ?_<;>intro _
  refine yV (fun g st=>∃u:Nat,u<=m.users.length/\g=(gr e m.users.length ++ ((List.range u).map fun(u:Nat)=>[eI (e:Int),eI (u:Int)]),true)/\st=⟨24,[(0,.c (.func (.yield l) #[] #[])),(1,.rp (aC m)),(3,eI (e:Int)),(7,eI (m.events.length:Int)),(8,eI (e:Int)),(13,eI (m.users.length:Int)),(14,eI (u:Int))],[],0⟩) (fun g st=>m.users.length-ax st 14) ⟨_,wC,0,UR _,by simp,rfl⟩ ?_;rintro _ _ ⟨u,hu,rfl,rfl⟩;by_cases hu2:u<m.users.length
  .have hp:=zK (u:=u+1) he2 hu2;rw[<- qD] at hp
   repeat' first|simp -implicitDefEqProofs (maxSteps:=5000000) only[w5,↓reduceIte,reduceCtorEq,Nat.reduceLT,Nat.reduceEqDiff,Nat.reduceAdd,Nat.reduceMul,Nat.reduceSub,Nat.reduceLeDiff,Nat.reduceBEq,Tt,hu2,BH,w6,Eg,bD,dl,hp]|refine sp ?_ ?_<;>intro _
   refine⟨?_,by simp,hp⟩;exact DP wC ⟨u+1,by omega,by rw[qD],rfl⟩ (by simp only[ax,iC,aj.get,aX,aj.put,↓reduceIte,reduceCtorEq,Nat.reduceLT,Nat.reduceEqDiff,Nat.reduceAdd,Nat.reduceLeDiff,eq_self,implies_true];omega)
  .obtain rfl:u=m.users.length:=by omega
   repeat' first|simp -implicitDefEqProofs (maxSteps:=5000000) only[w5,↓reduceIte,reduceCtorEq,Nat.reduceLT,Nat.reduceEqDiff,Nat.reduceAdd,Nat.reduceMul,Nat.reduceSub,Nat.reduceLeDiff,Nat.reduceBEq,Tt,hu2]|refine sp ?_ ?_<;>intro _
   exact DP wC ⟨e+1,by omega,by rw[lM],rfl⟩ (by simp only[ax,iC,aj.get,aX,aj.put,↓reduceIte,reduceCtorEq,Nat.reduceLT,Nat.reduceEqDiff,Nat.reduceAdd,Nat.reduceLeDiff,eq_self,implies_true];omega)
 .obtain rfl:e=m.events.length:=by omega
  repeat' first|simp -implicitDefEqProofs (maxSteps:=5000000) only[w5,↓reduceIte,reduceCtorEq,Nat.reduceLT,Nat.reduceEqDiff,Nat.reduceAdd,Nat.reduceMul,Nat.reduceSub,Nat.reduceLeDiff,Nat.reduceBEq,Tt,he2,Tu]|refine sp ?_ ?_<;>intro _
  exact List.prefix_rfl
theorem M4(m:aJ):am Tryz.prog 161 [.agg (aC m)] ⟨.fn 202 [.rp (aC m)],[],0⟩:=by
 refine x8 ag Tryz.func161 rfl (by decide) Tryz.ntmps161 Tryz.results161 rfl ?_
 repeat' first|refine go ?_|decide|refine sp ?_ ?_<;>intro _
 refine dZ ((wC:ct _ ⟨4,[(2,.fn 202 [.op 0 0 0])],[(0,some (.box 32 (aC m)))],1⟩).trans (Pb 0 (ty:=32) (cells:=aC m) (by simp[ae.gc]) (by simp[bD,dl]) (by simp[mB]))) ?_;simp only[nR,AV.rpz,AV.rpzL,↓reduceIte,List.drop_zero]
 repeat' first|decide|refine go ?_
 exact Ut rfl (by simp[AV.lt,AV.ltL]) (by simp[AV.ren,AV.renL])
theorem Tl(m:aJ)(s:St)(hl:m.events.length<=1000000)(hl2:m.users.length<=1000000)(hl3:m.miles.length<=1000000)(hl4:m.sods.length<=1000000):am Tryz.prog 119 [.agg (aC m),.agg (cy s)] (val (.bool (tu m s))):=by
 refine aa ag Tryz.func119 rfl (by decide) Tryz.ntmps119 Tryz.results119 rfl (aD _) ?_
 repeat' first|refine gq ?_|decide|refine sp ?_ ?_<;>intro _|((with_reducible apply cL (g:=161));exact(M4 m);exact(ro))
 refine I6 ag (fun pre st=>(∀e u:Nat,[eI (e:Int),eI (u:Int)]∈pre->bB m s (e:Int) (u:Int)=false)/\st=⟨16,[(2,.op 0 0 0),(3,.op 1 0 0),(4,.op 2 0 0)],[(0,some (.box 32 (aC m))),(1,some (.box 59 (cy s))),(2,some (.box 4 [eB false]))],3⟩)
  (fun c pre st=>c=.ret/\tu m s=true/\st=⟨16,[(4,.op 2 0 0)],[(2,some (.box 4 [eB true]))],3⟩) (by simp -implicitDefEqProofs (maxSteps:=5000000) only[w5,↓reduceIte,reduceCtorEq,Nat.reduceLT,Nat.reduceEqDiff,Nat.reduceAdd,Nat.reduceMul,Nat.reduceSub,Nat.reduceLeDiff,Nat.reduceBEq]) (by simp[bD,dl]) (Mm m hl hl2) (fun x hx=>by obtain⟨e,u,_,_,rfl⟩:=nt.1 hx;rfl) (by kernel_rfl) (by kernel_rfl) (dZ wC ⟨by simp,rfl⟩) ?_ ?_ ?_
 .rintro pre x _ hp ⟨hpre,rfl⟩;obtain⟨e,u,he,hu,rfl⟩:=nt.1 (hp.subset (show x∈pre ++ [x] by simp))
  repeat' first|simp -implicitDefEqProofs (maxSteps:=5000000) only[w5,↓reduceIte,reduceCtorEq,Nat.reduceLT,Nat.reduceEqDiff,Nat.reduceAdd,Nat.reduceMul,Nat.reduceSub,Nat.reduceLeDiff,Nat.reduceBEq,Uq]|refine sp ?_ ?_<;>intro _|(with_reducible refine ay (by kernel_rfl) ?_)|((with_reducible first|apply al (g:=116)|apply aO (g:=116));exact(mA m s (e:Int) (u:Int) (by omega) (by omega)))
  .rename_i hen;exact dZ wC ⟨(ij _ _).2 ⟨e,he,(ij _ _).2 ⟨u,hu,hen⟩⟩,rfl⟩
  .rename_i hen;refine dZ wC ⟨fun e' u' hm=>?_,rfl⟩;rcases U4.1 hm with hm|hm
   .exact hpre e' u' hm
   .simp at hm;obtain⟨h1,h2⟩:=hm;rw[h1,h2];exact hen
 .rintro _ ⟨hpre,rfl⟩
  repeat' first|simp -implicitDefEqProofs (maxSteps:=5000000) only[w5,↓reduceIte,reduceCtorEq,Nat.reduceLT,Nat.reduceEqDiff,Nat.reduceAdd,Nat.reduceMul,Nat.reduceSub,Nat.reduceLeDiff,Nat.reduceBEq,Uq]|refine sp ?_ ?_<;>intro _|(with_reducible refine ay (by kernel_rfl) ?_)
  symm;rw[VA];intro ha;obtain⟨e,he,ha⟩:=(ij _ _).1 ha;obtain⟨u,hu,ha⟩:=(ij _ _).1 ha;rw[hpre e u (nt.2 ⟨e,u,he,hu,rfl⟩)] at ha;cases ha
 .rintro _ pre _ hp ⟨rfl,ha,rfl⟩
  repeat' first|simp -implicitDefEqProofs (maxSteps:=5000000) only[w5,↓reduceIte,reduceCtorEq,Nat.reduceLT,Nat.reduceEqDiff,Nat.reduceAdd,Nat.reduceMul,Nat.reduceSub,Nat.reduceLeDiff,Nat.reduceBEq,Uq]|refine sp ?_ ?_<;>intro _|(with_reducible refine ay (by kernel_rfl) ?_)
  exact ha.symm
end
section
theorem jO(m:aJ)(s:St)(hl:m.miles.length<=1000000)(hd:aA s.don):am Tryz.prog 170 [.agg (aC m),.agg (cy s)] (val (.bool (gZ m s))):=by
 refine aa ag Tryz.func170 rfl (by decide) Tryz.ntmps170 Tryz.results170 rfl (aD _) ?_
 repeat' first|refine gq ?_|decide|refine sp ?_ ?_<;>intro _
 unfold gZ;refine af (fun st=>∃k:Nat,k<=m.miles.length/\jZ (fY m s) k=false/\st=⟨25,[(2,.op 0 0 0),(3,.op 1 0 0),(5,eI (k:Int))],[(0,some (.box 32 (aC m))),(1,some (.box 59 (cy s)))],2⟩) (fun st=>m.miles.length-ax st 5) ⟨_,wC,0,UR _,rfl,rfl⟩ ?_;rintro _ ⟨k,hk,hI,rfl⟩;by_cases hlt:k<m.miles.length
 .have eF:fY m s k=(m.miles[k].final && aQ s.don (k:Int)):=by simp[fY,hlt]
  repeat' first|refine gq ?_|simp only[ab,hlt]|decide|refine sp ?_ ?_<;>intro _|((with_reducible first|apply al (g:=129)|apply aO (g:=129));exact(eQ _ _ hd))
  all_goals first
   | (symm;refine l9 hlt ?_;rw[eF];grind)
   | exact rI wC ⟨k+1,by omega,kN hI (by rw[eF];grind),rfl⟩
 .obtain rfl:k=m.miles.length:=by omega
  repeat' first|refine gf @hlt ?_|decide|refine sp ?_ ?_<;>intro _
  exact hI.symm
theorem nF(n most:Int):am Tryz.prog 169 [eI n,eI most] (val (.bool (df n most))):=by
 refine aa ag Tryz.func169 rfl (by decide) Tryz.ntmps169 Tryz.results169 rfl (aD _) ?_;unfold df
 repeat' first|refine go ?_|decide|refine sp ?_ ?_<;>intro _
 all_goals grind
theorem Ea(m:aJ)(s:St)(event user:Int)(hl:m.miles.length<=1000000)(ho:aA s.opn)(hd:aA s.don)(hr:∀p∈m.roles,aA p.2):am Tryz.prog 135 [.agg (aC m),.agg (cy s),eI event,eI user] (val (.bool (iI m s event user))):=by
 refine aa ag Tryz.func135 rfl (by decide) Tryz.ntmps135 Tryz.results135 rfl (aD _) ?_;by_cases h:0<=event/\event<(m.events.length:Int)
 .obtain ⟨k,rfl⟩:∃k:Nat,event=(k:Int):=⟨event.toNat,by omega⟩;have hk:k<m.events.length:=by omega
  obtain⟨x,hx⟩:∃x,m.events[k]=x:=⟨_,rfl⟩;have ee:mh m (k:Int)=some x:=by simp[mh,hk,hx]
  have eR:iI m s k user=(!gZ m s && decide (x.stage<(m.stages.length:Int)) && aQ s.opn x.stage && yf m x.role user && (decide (x.times<=0) || decide (pH s.cnt k<x.times))):=by simp only[iI,ee]
  have eN:¬0<=x.stage->aQ s.opn x.stage=false:=fun h=>kd _ _ (by omega);rw[eR];by_cases hc:k<s.cnt.length
  .have eA:pH s.cnt k=s.cnt[k]:=(by simp[pH,hc]);by_cases hro:0<=x.role/\x.role<(m.roles.length:Int)
   .obtain ⟨q,hq⟩:∃q:Nat,x.role=(q:Int):=⟨x.role.toNat,by omega⟩;have hq2:q<m.roles.length:=(by omega);have eO:yf m x.role user=(decide (0<=user) && decide (user<(m.users.length:Int)) && aQ m.roles[q].2 user):=(by simp[yf,hq,hq2]);have hrq:=hr _ (UQ hq2);rw[eA,eO];unfold df at *
    repeat' first|refine gq ?_|simp only[ab,hk,hx,hc,hq,hq2]|decide|refine sp ?_ ?_<;>intro _|((with_reducible first|apply al (g:=129)|apply aO (g:=129));exact(eQ _ _ ho))|((with_reducible first|apply al (g:=129)|apply aO (g:=129));exact(eQ _ _ hrq))|((with_reducible first|apply al (g:=170)|apply aO (g:=170));exact(jO _ _ hl hd))|((with_reducible first|apply al (g:=169)|apply aO (g:=169));exact(nF _ _))
    all_goals(unfold df at *;grind)
   .have eO:yf m x.role user=false:=by
     have:(decide (0<=x.role) && decide (x.role<(m.roles.length:Int)))=false:=by
      rw[Vy];simp only[Vf];omega
     simp[yf,this]
    have eI':df x.role (m.roles.length:Int)=false:=by unfold df;grind
    rw[eA,eO]
    repeat' first|refine gq ?_|simp only[ab,hk,hx,hc,eI']|decide|refine sp ?_ ?_<;>intro _|((with_reducible first|apply al (g:=129)|apply aO (g:=129));exact(eQ _ _ ho))|((with_reducible first|apply al (g:=170)|apply aO (g:=170));exact(jO _ _ hl hd))|((with_reducible first|apply al (g:=169)|apply aO (g:=169));exact(nF _ _))
    all_goals(unfold df at *;grind)
  .have eA:pH s.cnt k=0:=by simp[pH];omega
   by_cases hro:0<=x.role/\x.role<(m.roles.length:Int)
   .obtain ⟨q,hq⟩:∃q:Nat,x.role=(q:Int):=⟨x.role.toNat,by omega⟩;have hq2:q<m.roles.length:=(by omega);have eO:yf m x.role user=(decide (0<=user) && decide (user<(m.users.length:Int)) && aQ m.roles[q].2 user):=(by simp[yf,hq,hq2]);have hrq:=hr _ (UQ hq2);rw[eA,eO]
    repeat' first|refine gq ?_|simp only[ab,hk,hx,hc,hq,hq2]|decide|refine sp ?_ ?_<;>intro _|((with_reducible first|apply al (g:=129)|apply aO (g:=129));exact(eQ _ _ ho))|((with_reducible first|apply al (g:=129)|apply aO (g:=129));exact(eQ _ _ hrq))|((with_reducible first|apply al (g:=170)|apply aO (g:=170));exact(jO _ _ hl hd))|((with_reducible first|apply al (g:=169)|apply aO (g:=169));exact(nF _ _))
    all_goals(unfold df at *;grind)
   .have eO:yf m x.role user=false:=by
     have:(decide (0<=x.role) && decide (x.role<(m.roles.length:Int)))=false:=by
      rw[Vy];simp only[Vf];omega
     simp[yf,this]
    have eI':df x.role (m.roles.length:Int)=false:=by unfold df;grind
    rw[eA,eO]
    repeat' first|refine gq ?_|simp only[ab,hk,hx,hc,eI']|decide|refine sp ?_ ?_<;>intro _|((with_reducible first|apply al (g:=129)|apply aO (g:=129));exact(eQ _ _ ho))|((with_reducible first|apply al (g:=170)|apply aO (g:=170));exact(jO _ _ hl hd))|((with_reducible first|apply al (g:=169)|apply aO (g:=169));exact(nF _ _))
    all_goals(unfold df at *;grind)
 .have ee:mh m event=none:=by
   unfold mh;split
   .exact Vh (by omega)
   .rfl
  have eR:iI m s event user=false:=by simp only[iI,ee]
  have eI':df event (m.events.length:Int)=false:=by unfold df;grind
  rw[eR]
  repeat' first|refine gf eI' ?_|decide|refine sp ?_ ?_<;>intro _|((with_reducible first|apply al (g:=169)|apply aO (g:=169));exact(nF _ _))
end
section
theorem Mh(s:St)(event user:Int)(hd:∀x∈s.did,aA x):am Tryz.prog 136 [.agg (cy s),eI event,eI user] (val (.bool (aQ (pH s.did event) user))):=by
 refine aa ag Tryz.func136 rfl (by decide) Tryz.ntmps136 Tryz.results136 rfl (aD _) ?_;by_cases h:0<=event/\event<(s.did.length:Int)
 .obtain ⟨k,rfl⟩:∃k:Nat,event=(k:Int):=⟨event.toNat,by omega⟩;have hk:k<s.did.length:=by omega
  have eA:pH s.did k=s.did[k]:=by simp[pH,hk]
  have eI':df (k:Int) (s.did.length:Int)=true:=by unfold df;simp;omega
  rw[eA]
  repeat' first|refine gq ?_|simp only[ab,hk,eI']|decide|refine sp ?_ ?_<;>intro _|((with_reducible first|apply al (g:=169)|apply aO (g:=169));exact(nF _ _))|((with_reducible first|apply al (g:=129)|apply aO (g:=129));exact(eQ _ _ (hd _ (UQ hk))))
 .have eA:pH s.did event=0:=by unfold pH;rw[UX h]
  have eI':df event (s.did.length:Int)=false:=by unfold df;grind
  have eB':aQ 0 user=false:=by simp[aQ]
  rw[eA,eB']
  repeat' first|refine gf eI' ?_|decide|refine sp ?_ ?_<;>intro _|((with_reducible first|apply al (g:=169)|apply aO (g:=169));exact(nF _ _))
theorem tR(m:aJ)(s:St)(event user:Int)(hl:m.miles.length<=1000000)(hl2:m.sods.length<=1000000)(ho:aA s.opn)(hd:aA s.don)(hr:∀p∈m.roles,aA p.2)(hdid:∀x∈s.did,aA x):am Tryz.prog 93 [.agg (aC m),.agg (cy s),eI event,eI user] (val (.bool (bB m s event user))):=by
 refine aa ag Tryz.func93 rfl (by decide) Tryz.ntmps93 Tryz.results93 rfl (aD _) ?_;unfold bB
 cases hfr:iI m s event user with
 | false=>
  repeat' first|refine gf @hfr ?_|decide|refine sp ?_ ?_<;>intro _|((with_reducible first|apply al (g:=135)|apply aO (g:=135));exact(Ea m s event user hl ho hd hr))
  rfl
 | true=>
  repeat' first|refine gf @hfr ?_|decide|refine sp ?_ ?_<;>intro _|((with_reducible first|apply al (g:=135)|apply aO (g:=135));exact(Ea m s event user hl ho hd hr))
  unfold wK;refine af (fun st=>∃k:Nat,k<=m.sods.length/\jZ (jL m s event user) k=false/\st=⟨57,[(2,eI event),(3,eI user),(4,.op 0 0 0),(5,.op 1 0 0),(9,eI (k:Int))],[(0,some (.box 32 (aC m))),(1,some (.box 59 (cy s)))],2⟩) (fun st=>m.sods.length-ax st 9) ⟨_,wC,0,UR _,rfl,rfl⟩ ?_;rintro _ ⟨k,hk,hI,rfl⟩;by_cases hlt:k<m.sods.length
  .obtain ⟨⟨a,b⟩,hx⟩:∃x,m.sods[k]=x:=⟨_,rfl⟩;have ex:DG m.sods[k]=[eI a,eI b]:=(by rw[hx]);have eF:jL m s event user k=(((a == event) && aQ (pH s.did b) user) || ((b == event) && aQ (pH s.did a) user)):=(by simp[jL,hlt,hx])
   repeat' first|refine ge @hlt ?_|decide|refine sp ?_ ?_<;>intro _
   refine aG [] [0,1,2,3,4,5,6,7,8,9,10,11] (.exec 12 (.exec 13 .done)) (by kernel_rfl) (by simp[ae.gc]) ?_
   repeat' first|refine gq ?_|simp only[ab,hlt,ex]|decide|refine sp ?_ ?_<;>intro _|((with_reducible first|apply al (g:=136)|apply aO (g:=136));exact(Mh s b user hdid))|((with_reducible first|apply al (g:=136)|apply aO (g:=136));exact(Mh s a user hdid))
   all_goals first
    | (rw[show jZ (jL m s event user) m.sods.length=true from l9 hlt (by rw[eF];grind)];rfl)
    | exact rI wC ⟨k+1,by omega,kN hI (by rw[eF];grind),rfl⟩
  .obtain rfl:k=m.sods.length:=by omega
   repeat' first|refine gf @hlt ?_|decide|refine sp ?_ ?_<;>intro _
   rw[hI];rfl
theorem KS(m:aJ)(s:St)(event:Int)(hl:m.miles.length<=1000000)(hl2:m.sods.length<=1000000)(hl3:m.users.length<=1000000)(ho:aA s.opn)(hd:aA s.don)(hr:∀p∈m.roles,aA p.2)(hdid:∀x∈s.did,aA x):am Tryz.prog 47 [.agg (aC m),.agg (cy s),eI event] (gl 3 1 ((fm m s event).map fun n=>[eI n])):=by
 refine aa ag Tryz.func47 rfl (by decide) Tryz.ntmps47 Tryz.results47 rfl (cW _ _ _) ?_
 repeat' first|refine go ?_|decide|refine sp ?_ ?_<;>intro _
 unfold fm;obtain⟨f,hf⟩:∃f:Nat->Bool,f=fun u:Nat=>bB m s event (u:Int):=⟨_,rfl⟩;rw[<- hf];have e0:dz f 0=[]:=rfl;refine af (fun st=>∃k:Nat,k<=m.users.length/\st=⟨26,[(2,eI event),(3,.op 0 0 0),(4,.op 1 0 0),(7,.osl 2),(8,eI (k:Int))],[(0,some (.box 32 (aC m))),(1,some (.box 59 (cy s))),(2,some (.row 3 1 ((dz f k).map fun n=>[eI n])))],3⟩) (fun st=>m.users.length-ax st 8) ⟨_,((bq 7 3 1 (by simp only[iC,aj.get,aX,aj.put,↓reduceIte,reduceCtorEq,Nat.reduceLT,Nat.reduceEqDiff,Nat.reduceAdd,Nat.reduceLeDiff,eq_self,implies_true,e0,Vn])).trans (wS [0,1,2] e0)),0,UR _,rfl⟩ ?_;rintro _ ⟨k,hk,rfl⟩;have hlen:=jb f k;by_cases hlt:k<m.users.length
 .have hef:bB m s event (k:Int)=f k:=by rw[hf]
  repeat' first|refine gf @hlt ?_|decide|refine sp ?_ ?_<;>intro _|((refine al (tR m s event (k:Int) hl hl2 ho hd hr hdid) ?_;rw[hef]))
  .rename_i h
   have et:(dz f (k+1)).map (fun n=>[eI n])=(dz f k).map (fun n=>[eI n]) ++ [[eI (k:Int)]]:=by
    rw[dz,UZ h];simp
   refine⟨rfl,by omega,rI (wS [0,1,4] et) ⟨k+1,by omega,rfl⟩⟩
  .rename_i h
   have et:dz f (k+1)=dz f k:=by
    rw[dz,UX (by simp[h])]
   exact rI (wE et) ⟨k+1,by omega,rfl⟩
 .obtain rfl:k=m.users.length:=by omega
  repeat' first|refine gf @hlt ?_|decide|refine sp ?_ ?_<;>intro _
  exact aV (by simp[ae.gc])
theorem vT(f:Nat->Bool):∀n,decide (0<((dz f n).length:Int))=jZ f n
 | 0=>rfl
 | n+1=>by
  have:=vT f n;unfold dz jZ;split
  .rename_i h;simp[h]
  .rename_i h;simp only[h,Bool.or_false,this]
theorem Ii(m:aJ)(s:St)(hle:m.events.length<=1000000)(hl:m.miles.length<=1000000)(hl2:m.sods.length<=1000000)(hl3:m.users.length<=1000000)(ho:aA s.opn)(hd:aA s.don)(hr:∀p∈m.roles,aA p.2)(hdid:∀x∈s.did,aA x):am Tryz.prog 51 [.agg (aC m),.agg (cy s)] (val (.bool (tu m s))):=by
 refine aa ag Tryz.func51 rfl (by decide) Tryz.ntmps51 Tryz.results51 rfl (aD _) ?_
 repeat' first|refine go ?_|decide|refine sp ?_ ?_<;>intro _
 unfold tu;obtain⟨f,hf⟩:∃f:Nat->Bool,f=fun e:Nat=>jZ (fun u=>bB m s (e:Int) (u:Int)) m.users.length:=⟨_,rfl⟩;rw[<- hf];refine af (fun st=>∃k:Nat,k<=m.events.length/\jZ f k=false/\st=⟨19,[(2,.op 0 0 0),(3,.op 1 0 0),(5,eI (k:Int))],[(0,some (.box 32 (aC m))),(1,some (.box 59 (cy s)))],2⟩) (fun st=>m.events.length-ax st 5) ⟨_,wC,0,UR _,rfl,rfl⟩ ?_;rintro _ ⟨k,hk,hI,rfl⟩;by_cases hlt:k<m.events.length
 .have hef:decide (0<((fm m s (k:Int)).length:Int))=f k:=by rw[hf];exact vT _ _
  repeat' first|refine gf @hlt ?_|decide|refine sp ?_ ?_<;>intro _|((with_reducible apply dg (g:=47));exact(KS m s (k:Int) hl hl2 hl3 ho hd hr hdid);exact(.inr bk))
  all_goals rename_i h
  all_goals simp only[Vd,hef] at h
  .symm;exact l9 hlt h
  .exact rI wC ⟨k+1,by omega,kN hI h,rfl⟩
 .obtain rfl:k=m.events.length:=by omega
  repeat' first|refine gf @hlt ?_|decide|refine sp ?_ ?_<;>intro _
  exact hI.symm
end
section
theorem rM(n:Nat):jz (n:Int)=((2 ^ (min n 31)-1:Nat):Int):=by
 have h1:(max 0 (min (n:Int) 31)).toNat=min n 31:=by omega
 have h2:0<2 ^ (min n 31):=Nat.two_pow_pos _;unfold jz;rw[h1];generalize min n 31=k at *;have:((2 ^ k:Nat):Int)=(2:Int) ^ k:=by simp
 omega
theorem oU(s:Int)(n:Nat)(hs:0<=s/\s<2147483648):lB s (n:Int)=true↔ ∀i:Nat,n<=i->i<31->aQ s (i:Int)=false:=by
 obtain⟨q,rfl⟩:∃q:Nat,s=(q:Int):=⟨s.toNat,by omega⟩;have hq:q<2 ^ 31:=by omega
 have hl:jA (q:Int)=q:=by
  simp only[jA];omega
 unfold lB;rw[rM];have h2:0<2 ^ (min n 31):=Nat.two_pow_pos _;constructor
 .intro h i h3 h4;simp at h;have hlt:q<2 ^ (min n 31):=by omega
  rw[cR _ _ h4,hl];refine V6 (UY hlt ?_);exact Vp (by omega) (by omega)
 .intro h
  have hlt:q<2 ^ (min n 31):=by
   refine Nat.lt_pow_two_of_testBit _ fun i hi=>?_;by_cases h31:i<31
   .have:=h i (by omega) h31
    rwa [cR _ _ h31,hl] at this
   .refine V6 (UY hq ?_);exact Vp (by omega) (by omega)
  simp;omega
theorem GT(n:Nat):jz (n:Int)<2147483648:=by
 rw[rM];have:2 ^ (min n 31)<=2 ^ 31:=Vp (by omega) (by omega);have h2:0<2 ^ (min n 31):=Nat.two_pow_pos _;omega
theorem gQ{s:Int}{n:Nat}(h:lB s (n:Int)=true):cb s:=by
 unfold lB at h;simp at h;have:=GT n;unfold cb;omega
theorem td(s:Int)(n:Nat)(hs:aA s):am Tryz.prog 126 [eI s,eI (n:Int)] (val (.bool (lB s (n:Int)))):=by
  refine aa ag Tryz.func126 rfl (by decide) Tryz.ntmps126 Tryz.results126 rfl (aD _) ?_
  repeat' first|refine go ?_|decide|refine sp ?_ ?_<;>intro _
  refine af (fun st=>∃k:Nat,k<=31/\(∀i:Nat,n<=i->i<k->aQ s (i:Int)=false)/\st=⟨24,[(0,eI s),(1,eI (n:Int)),(5,eI (k:Int))],[],0⟩) (fun st=>31-ax st 5) ⟨_,wC,0,UR _,by simp,rfl⟩ ?_;rintro _ ⟨k,hk,hI,rfl⟩;by_cases hlt:k<31
  . have h31:(k:Int)<31:=by omega
    repeat' first|refine gf h31 ?_|decide|refine sp ?_ ?_<;>intro _|((with_reducible first|apply al (g:=129)|apply aO (g:=129));exact(eQ _ _ hs))
    all_goals first
      | (rename_i h1 h2
         simp at h1;symm;rw[VA];intro hof;have:=(oU s n (gQ hof)).1 hof k (by omega) hlt;rw[this] at h2;cases h2)
      | (rename_i h1 h2
         simp at h1;refine rI wC ⟨k+1,by omega,fun i hi hi2=>?_,rfl⟩;rcases U9 i k with h3|h3
         . exact hI i hi h3
         . obtain rfl:i=k:=by omega
           exact h2)
      | (rename_i h1
         simp at h1;refine rI wC ⟨k+1,by omega,fun i hi hi2=>?_,rfl⟩;exact hI i hi (by omega))
  . obtain rfl:k=31:=by omega
    have h31:(((31:Nat):Int)<31)=False:=by simp
    repeat' first|refine gf h31 ?_|decide|refine sp ?_ ?_<;>intro _
    . rename_i h1;simp at h1;by_cases h2:s<=2147483647
      . rw[(oU s n ⟨h1,by omega⟩).2 hI];simp[h2]
      . have h3:lB s (n:Int)=false:=by
          rw[VA];intro hof;have:=gQ hof;unfold cb at this;omega
        rw[h3];simp[h2]
    . rename_i h1;simp at h1;symm;rw[VA];intro hof;have:=gQ hof;unfold cb at this;omega
theorem Ae(m:aJ)(s:St)(hl:m.events.length<=1000000)(ho:aA s.opn)(hd:aA s.don)(hdid:∀x∈s.did,aA x):am Tryz.prog 88 [.agg (aC m),.agg (cy s)] (val (.bool (fe m s))):=by
 refine aa ag Tryz.func88 rfl (by decide) Tryz.ntmps88 Tryz.results88 rfl (aD _) ?_;by_cases hsz:s.vals.length=m.attrs.length/\s.did.length=m.events.length/\s.cnt.length=m.events.length
 .obtain ⟨h1,h2,h3⟩:=hsz;have n1:(((s.vals.length:Nat):Int) != ((m.attrs.length:Nat):Int))=false:=by simp[h1]
  have n2:(((s.did.length:Nat):Int) != ((m.events.length:Nat):Int))=false:=by simp[h2]
  have n3:(((s.cnt.length:Nat):Int) != ((m.events.length:Nat):Int))=false:=by simp[h3]
  have hall:fe m s=(lB s.opn m.stages.length && lB s.don m.miles.length && kr (jF m s) m.events.length):=by simp[fe,h1,h2,h3]
  rw[hall];obtain⟨f,hf⟩:∃f,f=jF m s:=⟨_,rfl⟩;rw[<- hf];have e0:kr f 0=true:=rfl
  have loop:∀(b0:Bool)(k:Nat),k<m.events.length->∀b,(b0 && kr f k)=b->(b0 && kr f (k+1))=(b && f k):=fun b0 k hk b hb=>by
   rw[<- hb];simp[kr,Bool.and_assoc]
  repeat' first|refine gf (kf n1 (kf n2 n3)) ?_|decide|refine sp ?_ ?_<;>intro _|((with_reducible first|apply al (g:=126)|apply aO (g:=126));exact(td _ _ ho))|((with_reducible first|apply al (g:=126)|apply aO (g:=126));exact(td _ _ hd))
  .rename_i h;rw[h,VC];obtain⟨b0,hb0⟩:∃b,lB s.don m.miles.length=b:=⟨_,rfl⟩;rw[hb0];refine af (fun st=>∃k:Nat,k<=m.events.length/\st=⟨86,[(2,.op 0 0 0),(3,.op 1 0 0),(5,eI (m.events.length:Int)),(6,eB (b0 && kr f k)),(7,eI (k:Int))],[(0,some (.box 32 (aC m))),(1,some (.box 59 (cy s)))],2⟩) (fun st=>m.events.length-ax st 7) ⟨_,(wE (kf hb0 (kf e0 @Bool.and_true))),0,UR _,rfl⟩ ?_;rintro _ ⟨k,hk,rfl⟩;by_cases hlt:k<m.events.length
   .have hd':k<s.did.length:=(by omega);have hc:k<s.cnt.length:=(by omega);have eF:f k=(lB s.did[k] m.users.length && decide (0<=s.cnt[k]) && decide (s.cnt[k]<=m.events[k].times)):=by rw[hf];simp[jF,hd',hc,hlt]
    have hs:=loop b0 k hlt;obtain⟨b,hb⟩:∃b,(b0 && kr f k)=b:=⟨_,rfl⟩;have hs:=hs b hb;rw[hb]
    repeat' first|refine gq ?_|simp only[ab,hlt,hd',hc]|decide|refine sp ?_ ?_<;>intro _|((with_reducible first|apply al (g:=126)|apply aO (g:=126));exact(td _ _ (hdid _ (UQ hd'))))
    .have hv:(b0 && kr f (k+1))=decide (s.cnt[k]<=m.events[k].times):=(by grind);exact rI (wE hv) ⟨k+1,by omega,rfl⟩
    all_goals
     have hv:(b0 && kr f (k+1))=false:=(by grind);exact rI (wE hv) ⟨k+1,by omega,rfl⟩
   .obtain rfl:k=m.events.length:=by omega
    repeat' first|refine gf @hlt ?_|decide|refine sp ?_ ?_<;>intro _
  .rename_i h;rw[h];refine af (fun st=>∃k:Nat,k<=m.events.length/\st=⟨86,[(2,.op 0 0 0),(3,.op 1 0 0),(5,eI (m.events.length:Int)),(6,eB false),(7,eI (k:Int))],[(0,some (.box 32 (aC m))),(1,some (.box 59 (cy s)))],2⟩) (fun st=>m.events.length-ax st 7) ⟨_,wC,0,UR _,rfl⟩ ?_;rintro _ ⟨k,hk,rfl⟩;by_cases hlt:k<m.events.length
   .repeat' first|refine gf @hlt ?_|decide|refine sp ?_ ?_<;>intro _
    all_goals exact rI wC ⟨k+1,by omega,rfl⟩
   .obtain rfl:k=m.events.length:=by omega
    repeat' first|refine gf @hlt ?_|decide|refine sp ?_ ?_<;>intro _
    simp
 .have hall:fe m s=false:=by
   unfold fe;rw[VA];simp only[ne_eq,U1,U7]
   grind
  rw[hall]
  repeat' first|refine gq ?_|decide|refine sp ?_ ?_<;>intro _
  all_goals first
   | rfl
   | (exfalso;grind)
end
section
end
section
def LI(w:World)(v:Value)(l:List Int):Prop:=
 ∃A c,v=.slice A l.length c/\l.length<=c/\(0<l.length->∃b o,A=some ⟨b,o,none⟩/\b<w.heap.size/\∀i (h:i<l.length),w.cell? ⟨b,o+i,none⟩=some (.int .i64 l[i]))
theorem LI.some_{w:World}{v:Value}{l:List Int}(h:LI w v l)(hp:0<l.length):∃b o c,v=.slice (some ⟨b,o,none⟩) l.length c/\l.length<=c/\b<w.heap.size/\∀i (h:i<l.length),w.cell? ⟨b,o+i,none⟩=some (.int .i64 l[i]):=by
 obtain⟨A,c,rfl,hc,hr⟩:=h;obtain⟨b,o,rfl,hb,hcell⟩:=hr hp;exact⟨b,o,c,rfl,hc,hb,hcell⟩
end
section
def LN(B:Nat)(w:World)(v:Value)(l:List Int):Prop:=
 ∃A c,v=.slice A l.length c/\l.length<=c/\c<=9223372036854775807/\(0<l.length->∃b o,A=some ⟨b,o,none⟩/\B<=b/\b<w.heap.size/\∀i (h:i<l.length),w.cell? ⟨b,o+i,none⟩=some (.int .i64 l[i]))
theorem LI.of_rt{w:World}{S:Nat->Prop}{v:Value}{l:List Int}(h:RT w S v (sI l))(hS:FJ w S):LI w v l:=by
 obtain⟨A,cap,rfl,hc,hm,_,hA⟩:=h.sl_inv;refine⟨A,cap,by simp,by simpa using hc,fun h0=>?_⟩;obtain⟨b,o,rfl,hb,U,hcell,hr,_⟩:=hA (by simpa using h0);refine⟨b,o,rfl,hS b hb,fun i hi=>?_⟩;have h1:(l.map fun n=>[eI n])[i]? = some [eI l[i]]:=by simp[hi]
 have h2:=hcell i 0 _ _ h1 rfl;have h3:=y4 (hr i 0 _ _ h1 rfl);rw[h3] at h2;simpa using h2
end
section
def lC(x:Int)(st:List Int×Bool)(y:Int):List Int×Bool:=
 ((st.1 ++ (if st.2=false/\x<=y then [x] else [])) ++ (if y≠x then [y] else []),st.2 || decide (x<=y))
def gF(x:Int)(l:List Int):List Int×Bool:=l.foldl (lC x) ([],false)
def xW(x:Int)(out:List Int):List Int:=if (gF x out).2 then (gF x out).1 else (gF x out).1 ++ [x]
def aR(l:List Int):List Int:=l.foldl (fun out x=>xW x out) []
theorem px(x:Int)(l:List Int)(y:Int):gF x (l ++ [y])=lC x (gF x l) y:=by simp[gF]
theorem G1(x:Int)(l:List Int)(k:Nat)(h:k<l.length):gF x (l.take (k+1))=lC x (gF x (l.take k)) l[k]:=by
 rw[U0 h,px]
theorem nV(l:List Int)(x:Int):aR (l ++ [x])=xW x (aR l):=by simp[aR]
theorem Dg(l:List Int)(k:Nat)(h:k<l.length):aR (l.take (k+1))=xW l[k] (aR (l.take k)):=by
 rw[U0 h,nV]
theorem oj{p:List Int->Prop}(h0:p [])(h1:∀l x,p l->p (l ++ [x]))(l:List Int):p l:=by
 rw[<- Xl l]
 induction l.reverse with
 | nil=>exact h0
 | cons x r ih=>rw[List.reverse_cons];exact h1 _ _ ih
theorem zB(x:Int)(l:List Int):(gF x l).1.length<=l.length+(if (gF x l).2 then 1 else 0):=by
 induction l using oj with
 | h0=>simp[gF]
 | h1 l y ih=>
  rw[px];generalize gF x l=st at *;obtain⟨n,b⟩:=st;cases b<;>by_cases h1:x<=y<;>by_cases h2:y=x<;>simp[lC,h1,h2] at ih ⊢<;>omega
theorem Lx(x:Int)(l:List Int):(xW x l).length<=l.length+1:=by
 have:=zB x l;unfold xW;split<;>rename_i h<;>simp[h] at this ⊢<;>omega
theorem fh(l:List Int):(aR l).length<=l.length:=by
 induction l using oj with
 | h0=>simp[aR]
 | h1 l y ih=>rw[nV];have:=Lx y (aR l);simp;omega
def Up(l:List Int):Prop:=l.Pairwise (· < ·)
theorem Mw(x:Int)(l:List Int)(h:Up l) :
  Up (gF x l).1/\(∀z,z∈(gF x l).1↔z∈l\/((gF x l).2=true/\z=x))/\((gF x l).2=true↔ ∃z∈l,x<=z)/\((gF x l).2=true->x∈(gF x l).1):=by
 induction l using oj with
 | h0=>simp[gF,Up]
 | h1 l y ih=>
  have hl:Up l:=(VN.1 h).1;have hy:∀z∈l,z<y:=fun z hz=>(VN.1 h).2.2 z hz y (by simp);obtain⟨i1,i2,i3,i4⟩:=ih hl;rw[px];generalize gF x l=st at *;obtain⟨n,b⟩:=st;simp only at i1 i2 i3 i4
  cases b with
  | true=>
   obtain⟨z,hz,hxz⟩:=i3.1 rfl;have hxy:x<y:=by have:=hy z hz;omega
   have hne:y≠x:=(by omega);simp only[lC,Bool.true_or,Bool.true_eq_false,false_and,if_false,VH,UZ hne];refine⟨VN.2 ⟨i1,by simp,?_⟩,?_,?_,?_⟩
   .intro a ha c hc;rw[Ve] at hc;subst hc;rcases(i2 a).1 ha with h|⟨_,rfl⟩
    .exact hy a h
    .exact hxy
   .intro a;simp only[U4,Ve,i2];constructor
    .rintro ((h|h)|h)
     .exact .inl (.inl h)
     .exact .inr h
     .exact .inl (.inr h)
    .rintro ((h|h)|h)
     .exact .inl (.inl h)
     .exact .inr h
     .exact .inl (.inr h)
   .exact ⟨fun _=>⟨z,by simp[hz],hxz⟩,fun _=>trivial⟩
   .intro _;simp[i4 rfl]
  | false=>
   have hlow:∀z∈l,z<x:=fun z hz=>by
    rcases Int.lt_or_le z x with h|h
    .exact h
    .exact absurd (i3.2 ⟨z,hz,h⟩) (by simp)
   have hn:∀z,z∈n↔z∈l:=fun z=>by rw[i2];simp
   by_cases hxy:x<=y
   .by_cases hne:y=x
    .subst hne;simp only[lC,WU,and_self,if_true,ne_eq,not_true,if_false,VH,decide_true,Bool.or_true];refine⟨VN.2 ⟨i1,by simp,?_⟩,?_,?_,?_⟩
     .intro a ha c hc;rw[Ve] at hc;subst hc;exact hy a ((hn a).1 ha)
     .intro a;simp only[U4,Ve,hn];constructor
      .rintro (h|h)
       .exact .inl (.inl h)
       .exact .inl (.inr h)
      .rintro (h|⟨_,h⟩)
       .exact h
       .exact .inr h
     .exact ⟨fun _=>⟨y,by simp,WU _⟩,fun _=>trivial⟩
     .intro _;simp
    .simp only[lC,hxy,and_self,if_true,ne_eq,hne,not_false_eq_true,decide_true,Bool.or_true];refine⟨?_,?_,?_,?_⟩
     .unfold Up;rw[Vw];refine VN.2 ⟨i1,by simp;omega,?_⟩;intro a ha c hc;have hal:=(hn a).1 ha;have h1:=hlow a hal;have h2:=hy a hal;simp at hc;rcases hc with rfl|rfl
      .exact h1
      .exact h2
     .intro a;simp only[U4,Ve,hn];constructor
      .rintro ((h|h)|h)
       .exact .inl (.inl h)
       .exact .inr ⟨by simp,h⟩
       .exact .inl (.inr h)
      .rintro ((h|h)|⟨_,h⟩)
       .exact .inl (.inl h)
       .exact .inr h
       .exact .inl (.inr h)
     .exact ⟨fun _=>⟨y,by simp,hxy⟩,fun _=>trivial⟩
     .intro _;simp
   .have hne:y≠x:=(by omega);have hd:decide (x<=y)=false:=U5 hxy;simp only[lC,hxy,and_false,if_false,VH,UZ hne,hd,Bool.or_false];refine⟨VN.2 ⟨i1,by simp,?_⟩,?_,?_,?_⟩
    .intro a ha c hc;rw[Ve] at hc;subst hc;exact hy a ((hn a).1 ha)
    .intro a;simp only[U4,Ve,hn];simp
    .constructor
     .intro h;cases h
     .rintro ⟨z,hz,hxz⟩;rcases U4.1 hz with h|h
      .have:=hlow z h;omega
      .rw [Ve] at h;subst h;exact absurd hxz hxy
    .intro h;cases h
theorem Nq(x:Int)(l:List Int)(h:Up l):Up (xW x l)/\∀z,z∈xW x l↔z∈l\/z=x:=by
 obtain⟨i1,i2,i3,i4⟩:=Mw x l h;unfold xW;split
 .rename_i hb;refine⟨i1,fun z=>?_⟩;rw[i2];simp[hb]
 .rename_i hb
  have hlow:∀z∈l,z<x:=fun z hz=>by
   rcases Int.lt_or_le z x with h|h
   .exact h
   .exact absurd (i3.2 ⟨z,hz,h⟩) hb
  have hn:∀z,z∈(gF x l).1↔z∈l:=fun z=>by rw[i2];simp[hb]
  refine⟨VN.2 ⟨i1,by simp,?_⟩,fun z=>?_⟩
  .intro a ha c hc;rw[Ve] at hc;subst hc;exact hlow a ((hn a).1 ha)
  .simp [hn]
theorem bm(l:List Int):Up (aR l)/\∀z,z∈aR l↔z∈l:=by
 induction l using oj with
 | h0=>simp[aR,Up]
 | h1 l x ih=>
  obtain⟨h1,h2⟩:=Nq x _ ih.1;rw[nV];exact⟨h1,fun z=>by rw[h2,ih.2];simp⟩
theorem mm:∀(a b:List Int),Up a->Up b->(∀z,z∈a↔z∈b)->a=b
 | [],[],_,_,_=>rfl
 | [],y :: b,_,_,h=>by have:=(h y).2 (by simp);simp at this
 | x :: a,[],_,_,h=>by have:=(h x).1 (by simp);simp at this
 | x :: a,y :: b,ha,hb,h=>by
  have ha':=Wv.1 ha;have hb':=Wv.1 hb
  have hxy:x=y:=by
   rcases VL.1 ((h x).1 (by simp)) with h1|h1
   .exact h1
   .rcases VL.1 ((h y).2 (by simp)) with h2|h2
    .exact h2.symm
    .have:=hb'.1 x h1;have:=ha'.1 y h2;omega
  subst hxy;rw[mm a b ha'.2 hb'.2 (fun z=>?_)];constructor
  .intro hz;rcases VL.1 ((h z).1 (by simp[hz])) with h1|h1
   .subst h1;have:=ha'.1 z hz;omega
   .exact h1
  .intro hz;rcases VL.1 ((h z).2 (by simp[hz])) with h1|h1
   .subst h1;have:=hb'.1 z hz;omega
   .exact h1
theorem CU(d:Array Int)(hs:∀i j,i<j->j<d.size->d[i]! <= d[j]!)(m:Nat)(hm:m<=d.size) :
  Up (Lib.compactUpTo d m)/\(∀z,z∈Lib.compactUpTo d m↔ ∃i,i<m/\d[i]! = z):=by
 induction m with
 | zero=>simp[Lib.compactUpTo,Up]
 | succ m ih=>
  obtain⟨h1,h2⟩:=ih (by omega);rw[Lib.compactUpTo_succ];by_cases hk:Lib.keeps d m=true
  .rw [UZ hk];refine⟨VN.2 ⟨h1,by simp,?_⟩,fun z=>?_⟩
   .intro a ha c hc;rw[Ve] at hc;subst hc;obtain⟨i,hi,rfl⟩:=(h2 a).1 ha;simp only[Lib.keeps,U7] at hk;have h3:=hs (m-1) m (by omega) (by omega)
    have h4:d[i]! <= d[m-1]!:=by
     rcases U9 i (m-1) with h|h
     .exact hs i (m-1) h (by omega)
     .rw [show i=m-1 by omega];exact WU _
    rcases hk with h|h
    .omega
    .have:d[m]! ≠d[m-1]!:=h;omega
   .simp only[U4,Ve,h2];constructor
    .rintro (⟨i,hi,rfl⟩|rfl)
     .exact ⟨i,by omega,rfl⟩
     .exact ⟨m,by omega,rfl⟩
    .rintro ⟨i,hi,rfl⟩;rcases U9 i m with h|h
     .exact .inl ⟨i,h,rfl⟩
     .exact .inr (by rw[show i=m by omega])
  .rw [UX hk,VH];refine⟨h1,fun z=>?_⟩;rw[h2];simp only[Lib.keeps,U7,not_or,ne_eq,Decidable.not_not] at hk;constructor
   .rintro ⟨i,hi,rfl⟩;exact⟨i,by omega,rfl⟩
   .rintro ⟨i,hi,rfl⟩;rcases U9 i m with h|h
    .exact ⟨i,h,rfl⟩
    .exact ⟨m-1,by omega,by rw[<- hk.2,show i=m by omega]⟩
def md(l:List Int):List Int:=Lib.compact (l.mergeSort fun x y=>decide (x<=y))
theorem yG(l:List Int):md l=aR l:=by
 have hp:(l.mergeSort fun x y=>decide (x<=y)).Pairwise (fun a b=>decide (a<=b)=true):=List.pairwise_mergeSort (le:=fun x y=>decide (x<=y)) (fun a b c h1 h2=>by simp at *;omega) (fun a b=>by simp;omega) l;have hm:∀z,z∈(l.mergeSort fun x y=>decide (x<=y))↔z∈l:=fun z=>List.mem_mergeSort;unfold md Lib.compact;generalize (l.mergeSort fun x y=>decide (x<=y))=s at *
 have hs:∀i j,i<j->j<s.toArray.size->s.toArray[i]! <= s.toArray[j]!:=by
  intro i j hij hj;have hj':j<s.length:=by simpa using hj
  have h1:=Vo.1 hp i j (by omega) hj' hij;rw[getElem!_pos _ i (by simp;omega),getElem!_pos _ j hj];simpa using h1
 obtain⟨h1,h2⟩:=CU s.toArray hs s.length (by simp);refine mm _ _ h1 (bm l).1 (fun z=>?_);rw[h2,(bm l).2,<- hm];constructor
 .rintro ⟨i,hi,rfl⟩;rw[getElem!_pos _ i (by simpa using hi)];simp
 .intro hz;obtain⟨i,hi,rfl⟩:=U8 hz;exact⟨i,hi,by rw[getElem!_pos _ i (by simpa using hi)];simp⟩
theorem HG(s:List Int)(n:Int)(h:Up s)(r:Nat)(hr:r<=s.length)(hlo:∀(h0:0<r),s[r-1]'(by omega)<n)(hhi:∀(h1:r<s.length),n<=s[r]) :
  s.countP (fun x=>decide (x<n))=r/\(decide (r<s.length) && (s[r]? == some n))=decide (n∈s):=by
 have hp:=Vo.1 h
 have hlow:∀i (hi:i<r),s[i]'(by omega)<n:=fun i hi=>by
  have h1:=hlo (by omega);rcases U9 i (r-1) with h2|h2
  .have:=hp i (r-1) (by omega) (by omega) h2;omega
  .have e:i=r-1:=(by omega);subst e;exact h1
 have hhigh:∀i (hi:r<=i) (hi2:i<s.length),n<=s[i]:=fun i hi hi2=>by
  have h1:=hhi (by omega);rcases U9 r i with h2|h2
  .have:=hp r i (by omega) hi2 h2;omega
  .have e:i=r:=(by omega);subst e;exact h1
 constructor
 .rw [<- Xd r s,List.countP_append]
  have e1:(s.take r).countP (fun x=>decide (x<n))=(s.take r).length:=List.countP_eq_length.2 (fun a ha=>by
   obtain⟨i,hi,rfl⟩:=U8 ha;rw[U2] at hi;rw[Wr];exact Vb (hlow i (by omega)))
  have e2:(s.drop r).countP (fun x=>decide (x<n))=0:=List.countP_eq_zero.2 (fun a ha=>by
   obtain⟨i,hi,rfl⟩:=U8 ha;rw[VO] at hi;rw[List.getElem_drop];have:=hhigh (r+i) (by omega) (by omega);simp;omega)
  rw[e1,e2,U2];omega
 .by_cases hm:n∈s
  .obtain ⟨i,hi,he⟩:=U8 hm;have h1:¬i<r:=fun h=>by have:=hlow i h;omega
   have h2:=hhi (by omega)
   have h3:i=r:=by
    rcases U9 r i with h4|h4
    .have:=hp r i (by omega) hi h4;omega
    .omega
   subst h3;simp[hm,hi,he]
  .have:¬(r<s.length/\s[r]? = some n):=fun⟨h1,h2⟩=>hm (r2 h2);simp only[hm,decide_false];rw[VA];intro hc;simp only[U1,U7,Wz] at hc;exact this hc
end
section
theorem Nr(x y:Int)(n:List Int)(h:y=x):lC x (n,true) y=(n,true):=by simp[lC,h]
theorem DJ(x y:Int)(n:List Int)(h:y≠x):lC x (n,true) y=(n ++ [y],true):=by simp[lC,h]
theorem Nn(x y:Int)(n:List Int)(h1:x<=y)(h:y=x):lC x (n,false) y=(n ++ [x],true):=by simp[lC,h]
theorem Ie(x y:Int)(n:List Int)(h1:x<=y)(h:y≠x):lC x (n,false) y=((n ++ [x]) ++ [y],true):=by simp[lC,h,h1]
theorem MN(x y:Int)(n:List Int)(h1:¬x<=y):lC x (n,false) y=(n ++ [y],false):=by
 have:y≠x:=by omega
 simp[lC,h1,this]
end
section
open Go.RowKit Go.Sort
theorem wt:(Tryz.prog.info? 2).map (fun i=>(i.zero,i.size,i.bytes))=some (some (.int .i64 0),1,8):=by kernel_rfl
end
section
open Go.RowKit Go.Sort
theorem qN(S:List Int):(Lib.compact S).length<=S.length:=by
 unfold Lib.compact Lib.compactUpTo;rw[Vd];have:=WN (Lib.keeps S.toArray) (List.range S.length);simpa using this
theorem CN(A:Option Addr)(c:Nat)(w:World) :
  Calls Tryz.prog 114 #[.slice A 0 c] w fun e w'=>(∃A' c',e=.returned (.slice A' 0 c')/\c'<=9223372036854775807)/\Below w.heap.size w w':=by
 cases A with
 | none=>exact(Tryz.slices_Clone_nil 0 c w).mono (by rintro e w' ⟨rfl,rfl⟩;exact⟨⟨_,_,rfl,by decide⟩,Below.refl _ _⟩)
 | some a=>
  obtain⟨i0,hi0,hz0,hz1,hz2⟩:=info_parts wt;have q22:∀(w:World)(a:Option Addr)(n c n' c':Nat),(binOp .eql 23 (.slice a n c) (.slice none n' c')).run Tryz.prog w=.ok (.bool a.isNone) w:=fun w a n c n' c'=>Lib.run_eql_slice_nil w _ _ a n c n' c' Tryz.underlying23
  go_enter Tryz.func114,Tryz.ntmps114
  go_wp2_with fail
  go_ret
  exact⟨⟨_,_,rfl,by decide⟩,(Below.refl _ _).alloc (UU _) _⟩
theorem Ke(A:Option Addr)(c:Nat)(w:World) :
  Calls Tryz.prog 191 #[.slice A 0 c,.int .i64 0,.int .i64 0] w fun e w'=>e=.returned (.tuple #[])/\Below w.heap.size w w':=by
 go_enter Tryz.func191,Tryz.ntmps191
 go_wp2_with fail
 go_loopw [6] (fun i wr=>i=.int .i64 1/\Below w.heap.size w wr) (fun i wr=>0)
 case atStart=>exact⟨rfl,Below.refl _ _⟩
 case round=>
  obtain⟨rfl,hbl⟩:=hrel
  go_wp2_with fail
  go_end0
  exact⟨rfl,hbl⟩
theorem LX(A:Option Addr)(c:Nat)(L:Int)(w:World) :
  Calls Tryz.prog 159 #[.slice A 0 c,.int .i64 0,.int .i64 0,.int .i64 L] w fun e w'=>e=.returned (.tuple #[])/\Below w.heap.size w w':=by
 go_enter Tryz.func159,Tryz.ntmps159
 go_wp2_with fail
 go_loopw [1,2] (fun a b wr=>a=.int .i64 0/\b=.int .i64 0/\Below w.heap.size w wr) (fun a b wr=>0)
 case atStart=>exact⟨rfl,rfl,Below.refl _ _⟩
 case round=>
  obtain⟨rfl,rfl,hbl⟩:=hrel;have h:=Ke A c wr
  go_wp2_with fail
  refine h.mono ?_;rintro e w2 ⟨rfl,hb2⟩
  go_wp2_with fail
  refine bodyPost_ret (results_none rfl _ _ _) rfl ?_;exact⟨rfl,hbl.trans (hb2.mono hbl.size)⟩
theorem u2(A:Option Addr)(c:Nat)(w:World) :
  Calls Tryz.prog 117 #[.slice A 0 c] w fun e w'=>e=.returned (.tuple #[])/\Below w.heap.size w w':=by
 have h1:=Tryz.bits_Len 0 w (by decide) (by decide);generalize Lib.bitLen (0:Int).toNat=L at *;have h2:=LX A c L w
 go_enter Tryz.func117,Tryz.ntmps117
 go_wp2_with fail
 refine h1.mono ?_;rintro e w2 ⟨rfl,rfl⟩
 go_wp2_with fail
 refine h2.mono ?_;rintro e w3 ⟨rfl,hb⟩
 go_wp2_with fail
 go_end0
 exact⟨rfl,hb⟩
theorem sg(v:Value)(w:World)(h:LI w v []) :
  Calls Tryz.prog 66 #[v] w fun e w'=>∃v',e=.returned v' /\ LN w.heap.size w' v' (md [])/\Below w.heap.size w w':=by
 obtain⟨A,c,rfl,hc,_⟩:=h;have h1:=CN A c w;simp only[Wd]
 go_enter Tryz.func66,Tryz.ntmps66
 go_wp2_with fail
 refine h1.mono ?_;rintro e w2 ⟨⟨A',c',rfl,hc9⟩,hb2⟩;have h2:=u2 A' c' w2
 go_wp2_with fail
 refine h2.mono ?_;rintro e w3 ⟨rfl,hb3⟩;have h3:=Tryz.slices_Compact_int_empty A' c' w3
 go_wp2_with fail
 refine h3.mono ?_;rintro e w4 ⟨rfl,rfl⟩
 go_wp2_with fail
 go_ret
 rw[show md []=[] by simp[md,Lib.compact,Lib.compactUpTo]];exact⟨_,rfl,⟨A',c',rfl,UR _,hc9,fun h=>absurd h (by simp)⟩,hb2.trans (hb3.mono hb2.size)⟩
end
section
open Go.RowKit Go.Sort
theorem sT(l:List Int)(v:Value)(w:World)(hl:l.length<=1000000)(hp:0<l.length)(h:LI w v l) :
  Calls Tryz.prog 66 #[v] w fun e w'=>∃v',e=.returned v' /\ LN w.heap.size w' v' (md l)/\Below w.heap.size w w':=by
 obtain⟨i0,hi0,hz0,hz1,hz2⟩:=info_parts wt;obtain⟨b,o,c,rfl,hc,hb,hcell⟩:=h.some_ hp
 have h1:=Tryz.slices_Clone i0 (.int .i64 0) 1 8 hi0 hz0 hz1 hz2 rfl (by decide) Tryz.sizeOf2 b o l.length c (l.map (Value.int .i64)) w (by simp) (by unfold maxLen;omega) (by omega)
  (fun j u hj=>by
   rw[UV] at hj;rcases U9 j l.length with hlt|hge
   .rw [p0 hlt] at hj;obtain rfl:Value.int .i64 l[j]=u:=by simpa using hj
    exact hcell j hlt
   .rw [Vh hge] at hj;simp at hj)
  (fun u hu=>by obtain⟨x,_,rfl⟩:=U3.1 hu;rfl)
 have H1:=ar h1;clear h1;unfold md;have hSl:(l.mergeSort fun x y=>decide (x<=y)).length=l.length:=List.length_mergeSort ..;generalize hSd:(l.mergeSort fun x y=>decide (x<=y))=S at *;have HSd:=ar hSd;have HSl:=ar hSl;clear hSd hSl
 go_enter Tryz.func66,Tryz.ntmps66
 go_wp2_with fail
 refine H1.out.mono ?_;rintro e w1 ⟨v',rfl,hown,hnn,hb1⟩;obtain⟨_,⟨_,hn0⟩|⟨g,cap,cur,rfl,hbase,hblk,hn,hcap,hcs,htake⟩⟩:=hown
 .omega
 rw[Nat.mul_one] at htake;have hg:g<w1.heap.size:=(Vm.1 hblk).1;have hH:=holds_of_blockI hblk htake;have h2:=Tryz.slices_Sort_int g 0 cap l w1 hH hg (by omega);rw[HSd.out] at h2;have H2:=ar h2;clear h2 H1 hH
 go_wp2_with fail
 refine H2.out.mono ?_;rintro e w2 ⟨rfl,n,os,rfl⟩;have hSl:=HSl.out;have hown2:=ownsRow_sortedI (n:=n) (os:=os) (ts:=S) hSl hbase hblk hn hcap hcs;have hgr2:=grownBy_sortedI (w:=w1) (g:=g) (n:=n) (os:=os) S.toArray;generalize Go.Sort.grow (putRow (Value.int .i64) (Sort.ahead w1 n) g 0 S.toArray) os=w2 at *;have hb2:Below w.heap.size w w2:=hb1.grown hgr2 hb1.size (fun j hj=>by cases hj;exact hbase);obtain⟨_,⟨hx,_⟩|⟨g',cap',cur2,hv,_,hblk2,_,_,hcs2,htake2⟩⟩:=hown2
 .cases hx
 cases hv;rw[Nat.mul_one,<- hSl] at htake2;have hg2:g<w2.heap.size:=(Vm.1 hblk2).1;have hH2:=holds_of_blockI hblk2 htake2;have h3:=Tryz.slices_Compact_int g 0 cap S w2 hH2 (by omega) (by omega);rw[hSl] at h3;have H3:=ar h3;have hcl:=qN S;clear h3 H2 hH2
 go_wp2_with fail
 refine H3.out.mono ?_;rintro e w3 ⟨rfl,q,hw3⟩;have hown3:=ownsRow_sortedI (n:=q) (os:=#[]) (ss:=S) (ts:=Lib.compact S ++ List.replicate (S.length-(Lib.compact S).length) 0) (by simp;omega) hbase hblk2 (by omega) hcap hcs2;have hgr3:=grownBy_sortedI (w:=w2) (g:=g) (n:=q) (os:=#[]) (Lib.compact S ++ List.replicate (S.length-(Lib.compact S).length) 0).toArray;rw[grow_empty] at hown3 hgr3;rw[hSl] at hown3 hgr3;rw[<- hw3] at hown3 hgr3;have hb3:Below w.heap.size w w3:=hb2.grown hgr3 hb2.size (fun j hj=>by cases hj;exact hbase)
 have hLI:LN w.heap.size w3 (.slice (some ⟨g,0,none⟩) (Lib.compact S).length cap) (Lib.compact S):=by
  refine⟨_,_,rfl,by omega,by unfold maxLen at hcap;omega,fun _=>⟨g,0,rfl,hbase,?_,fun i hi=>?_⟩⟩
  .have:=hgr3.size;omega
  .rw [We];exact kH hown3 rfl (by rw[UV,Vq hi,p0 hi];rfl)
 clear hw3 H3 hown3 hgr3 hblk hblk2 htake htake2
 go_wp2_with fail
 go_ret
 exact⟨_,rfl,hLI,hb3⟩
theorem uA(l:List Int)(v:Value)(w:World)(hl:l.length<=1000000)(h:LI w v l) :
  Calls Tryz.prog 66 #[v] w fun e w'=>∃v',e=.returned v' /\ LN w.heap.size w' v' (md l)/\Below w.heap.size w w':=by
 cases l with
 | nil=>exact sg v w h
 | cons x l=>exact sT (x :: l) v w hl (by simp) h
end
end
end Go.Proofs.YtglaiabelcefeaaGreat
