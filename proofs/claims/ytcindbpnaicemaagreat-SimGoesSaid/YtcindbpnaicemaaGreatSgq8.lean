/-
  Parts of the proof: Sgp25.
-/
import Derived.Test.YtcindbpnaicemaaGreatSgq7
import Derived.Test.YtcindbpnaicemaaGreatProg
set_option linter.unusedVariables false
set_option linter.unusedSimpArgs false
set_option linter.defProp false
set_option maxRecDepth 100000
set_option maxHeartbeats 16000000
namespace Go.Proofs.YtcindbpnaicemaaGreat
section
section
open Go.RowKit
theorem aMethTab_c {st:ASt} {b:Nat} {t:TypeId} {v:Value}:aMethTab st b [] t [.c v] []=(b,some (.box t [.c v])) :: st.tab:=rfl
theorem moves_atN {T B:ATab} {n0 o nx:Nat} {ids:Nat → Nat} {l:List Mv} (hN:MvsOK T o ids l nx) (hy:∀ id ob,B.get id=some ob → id<n0):MvAt B (T.shift n0 ++ B) n0 (o+n0) (n0+nx) (fun j=>.osl (ids j+n0)) l:=by
 have hg:=shift_get hy T
 have hlo:=hN.lo
 refine ⟨fun id hid=>by rw [hg,if_pos hid],⟨(mvRows ids l).map (AV.shiftL n0),?_,by rw [List.length_map,mvRows_len],fun j hj=>?_⟩,fun j hj=>.inr ⟨ids j+n0,rfl,by omega,?_,?_,?_⟩,by omega,by omega⟩
 ·rw [hg,if_neg (by omega),show o+n0 - n0=o by omega,hN.out]
  rfl
 ·rw [List.getElem?_map]
  have:=mvRows_at (ids:=ids) hj
  cases hr:(mvRows ids l)[j]? with
  | none=>rw [hr] at this;cases this
  | some r=>
   rw [hr] at this
   simp only [Option.getD_some] at this
   rw [this]
   rfl
 ·have:=hN.ne j hj
  omega
 ·have:=hN.lt j hj
  omega
 ·rw [hg,if_neg (by omega),show ids j+n0 - n0=ids j by omega,hN.inn j hj]
  simp [AObj.shift,shiftL_map,AV.shift,Function.comp_def]
theorem shift_row (k e sz:Nat) (rows:List (List AV)):AObj.shift k (.row e sz rows)=.row e sz rows:=rfl
theorem eNs_ltL (l:List Int) (n:Nat):(∀ row ∈ eNs l,AV.ltL n row)=True:=by
 exact eq_true fun row hr=>by
  obtain ⟨x,_,rfl⟩:=List.mem_map.1 hr
  exact ⟨trivial,trivial⟩
theorem eNs_ren (l:List Int) (ids:List Nat):(eNs l).map (AV.renL ids)=eNs l:=by
 rw [List.map_map]
 rfl
theorem nearL_len (m:Mod) (s:St):(nearL m s).length≤(constsM m []).length+s.vals.length+1:=by
 have:=sortR_len (constsM m [] ++ s.vals)
 rw [List.length_append] at this
 unfold nearL
 split
 ·simp
 ·omega
theorem run_A (m:Mod) (seed:Int) (n:Nat) (hm:GoodM m) (hF:ChkF m) (hs:okU seed) (hn:n≤41):ADet Tryz.prog 7 [.agg (eMod m),eU seed,eI (n:Int)] ⟨.tup [sMvs (simL m seed n),eU (simS m seed n).1],[],0⟩:=by
 refine ADet.still (R:=⟨.tup [.osl 0,eU (simS m seed n).1],[(0,some (.row 63 3 ((simL m seed n).map eMv)))],1⟩) [0] ?_ (by simp [Res.frzs,Res.frz,ATab.get_cons,AV.frz,AV.frzL,frzTab,AObj.frz]) (by simp [AV.lt,AV.ltL])
 refine adet_of_code mixedT Tryz.func7 rfl (by decide) Tryz.ntmps7 Tryz.results7 rfl (tab_ok (by simp [tabLt,AObj.lt,AV.ltL,AV.lt]) (by simp [AV.lt,AV.ltL])) ?_
 obtain ⟨hgl,hml,hsl,hel,hal,hul,hrl,hsol,hol,hil⟩:=id hm.fit.sizes
 have hC:=mCheckP_A m hm.fit hm.cond hm.pars hF
 have q2:min (n:Int) 1000=(n:Int):=by omega
 have i1:(simS m seed 0).1=seed:=rfl
 have i2:(simS m seed 0).2=beginM m:=rfl
 have i3:simL m seed 0=[]:=rfl
 (repeat' (first|refine go ?_ | exact .intro | refine sp (fun _=>?_) fun _=>?_))
 refine callV hC ?_
 (repeat' (first|refine go ?_ | exact .intro | refine sp (fun _=>?_) fun _=>?_))
 refine callT (begin_A m hm.fit hm.cond hm.pars hm.inits) (.inl (by simp [roL,roA,treeL,treeC])) ?_
 (repeat' (first|refine ge q2 ?_ | exact .intro | refine sp (fun _=>?_) fun _=>?_))
 refine aLoop_of (fun st=>∃ k:Nat,k≤n ∧ st=⟨76,[(3,.op 0 0 0),(8,.osl 3),(9,.op 1 0 0),(10,.bfn 19 [.op 1 0 0]),(11,.op 2 0 0),(29,eI (n:Int)),(30,eI (k:Int))],[(0,some (.box 32 (eMod m))),(1,some (.box 66 [eU (simS m seed k).1])),(2,some (.box 69 (eSt (simS m seed k).2))),(3,some (.row 63 3 ((simL m seed k).map eMv)))],4⟩) (fun st=>n - slotN st 30) ⟨_,((weak_nil 8 63 3 (by simp only [ruW,ASt.get,aget,ASt.put,↓reduceIte,reduceCtorEq,Nat.reduceLT,Nat.reduceEqDiff,Nat.reduceAdd,Nat.reduceLeDiff,eq_self,implies_true,i1,i2,i3,List.map_nil])).trans (wS [0,1,2,3] (kf i1 (kf i2 i3)))),0,Nat.zero_le _,rfl⟩ ?_
 rintro _ ⟨k,hk,rfl⟩
 obtain ⟨k1,k2,k3⟩:=sim_ok hm hF hs k
 by_cases hlt:k<n
 case neg=>
  obtain rfl:k=n:=by omega
  (repeat' (first|refine ge @hlt ?_ | exact .intro | refine sp (fun _=>?_) fun _=>?_|(with_reducible refine aDraw_quiet (by kernel_rfl) ?_)))
  all_goals exact ⟨[3],by simp,rfl,⟨Nat.zero_lt_one,⟨_,_,_,rfl⟩,by simp [ATab.get_cons]⟩,trivial⟩
 have hsu:=simL_succ m seed k
 have hmv:mvU m seed k=(stepU m (simS m seed k).2 (simS m seed k).1).1:=rfl
 have hs1:(simS m seed (k+1)).1=(stepU m (simS m seed k).2 (simS m seed k).1).2:=rfl
 have hs2:(simS m seed (k+1)).2=(doM m (simS m seed k).2 (stepU m (simS m seed k).2 (simS m seed k).1).1).1:=rfl
 rw [hmv] at hsu
 have hgood:=step_good (c:=(simS m seed k).1) hm hF k2
 obtain ⟨sv1,sv2,sv3⟩:=step_vals (c:=(simS m seed k).1) hm k3 k1
 have hmoves:=moves_A m (simS m seed k).2 hm.fit k2
 have hpts:=pointsP_A m (simS m seed k).2 hm.fit hF.consts (by have:=k3.vals;omega)
 have hDo:=do_A m (simS m seed k).2 (stepU m (simS m seed k).2 (simS m seed k).1).1 hm.fit k3.fit (by omega) hm.cond hm.pars k3.nums sv1 hm.times (fun _=>any_A m _ (by omega) (by omega) (by omega) (by omega))
 rw [hgood.is,← hs2] at hDo
 have hnr:(if sortR (constsM m [] ++ (simS m seed k).2.vals)=[] then [0] else sortR (constsM m [] ++ (simS m seed k).2.vals))=nearL m (simS m seed k).2:=rfl
 rw [hnr] at hpts
 have hnp:=nearL_pos m (simS m seed k).2
 have hno:=near_ok hm k3
 have hcp:=pickU_lt (c:=nextU (simS m seed k).1) (lawLU_pos m (simS m seed k).2)
 have hst:stepU m (simS m seed k).2 (simS m seed k).1=(⟨(mvAt m (simS m seed k).2 (simS m seed k).1).event,(mvAt m (simS m seed k).2 (simS m seed k).1).user,(valsU (nearL m (simS m seed k).2) (nextU (simS m seed k).1) (mvAt m (simS m seed k).2 (simS m seed k).1).vals.length).1⟩,(valsU (nearL m (simS m seed k).2) (nextU (simS m seed k).1) (mvAt m (simS m seed k).2 (simS m seed k).1).vals.length).2):=rfl
 have hma:mvAt m (simS m seed k).2 (simS m seed k).1=(lawLU m (simS m seed k).2).getD (pickU (nextU (simS m seed k).1) ((lawLU m (simS m seed k).2).length:Int)).toNat mvNil:=rfl
 have hvl:=lawLU_vals hm.fit _ (mvAt_mem m (simS m seed k).2 (simS m seed k).1)
 have hvz:=lawLU_zero _ (mvAt_mem m (simS m seed k).2 (simS m seed k).1)
 have hnl:=nearL_len m (simS m seed k).2
 have hnl2:(nearL m (simS m seed k).2).length≤1000:=by
  have h1:=k3.vals
  have h2:=hF.consts
  omega
 rw [hst] at hsu hs1 hDo
 generalize mvAt m (simS m seed k).2 (simS m seed k).1=v at *
 generalize nearL m (simS m seed k).2=near at *
 obtain ⟨t,ht⟩:∃ t,(simS m seed (k+1)).2=t:=⟨_,rfl⟩
 rw [ht] at hs2 hDo
 generalize (simS m seed k).2=s at *
 generalize (simS m seed k).1=c at *
 (repeat' (first|refine ge @hlt ?_ | exact .intro | refine sp (fun _=>?_) fun _=>?_))
 refine callP hmoves ?_
 rintro R hR
 refine ⟨.inl (by simp [roL,roA,treeL,treeC]),?_⟩
 rcases hR with ⟨hl0,rfl⟩|⟨T0,nx0,o0,ids,hl0,hN,rfl⟩
 ·have hLaw:lawLU m s=[⟨-1,-1,[]⟩]:=if_pos hl0
  rw [hLaw] at hcp hma
  have hp0:pickU (nextU c) 1=0:=by
   have h1:0≤pickU (nextU c) 1 ∧ pickU (nextU c) 1<1:=hcp
   omega
  have hv0:v=⟨-1,-1,[]⟩:=by
   rw [hma]
   show [(⟨-1,-1,[]⟩:Mv)].getD (pickU (nextU c) 1).toNat mvNil=_
   rw [hp0]
   rfl
  have hve:v.event = -1:=by rw [hv0]
  have hvu:v.user = -1:=by rw [hv0]
  obtain ⟨q,hq⟩:∃ q:Nat,q=0:=⟨0,rfl⟩
  have hql:v.vals.length=q:=by rw [hv0,hq];rfl
  have hOf:=of_M c 1 (by unfold ok64;omega)
  rw [hp0] at hOf
  have o1:((1:Nat):Int)=1:=rfl
  simp only [own,AV.shift,ATab.shift,AObj.shift,List.map_cons,List.map_nil,List.cons_append,List.nil_append]
  (repeat' (first|refine ge @shift_row ?_ | exact .intro | refine sp (fun _=>?_) fun _=>?_))
  refine callMth [] hOf (by simp [roL,roA]) ?_ trivial (by simp) (fun p hp=>by cases hp) (fun av cells' objs' he=>?_)
  ·rfl
  obtain ⟨rfl,rfl,rfl⟩:=he
  simp only [aMethTab_c,List.length_nil,Nat.add_zero]
  have e0:([[eI (-1),eI (-1),.c (.slice none 0 0)]]:List (List AV))[Int.toNat 0]?.getD []=[eI (-1),eI (-1),.c (.slice none 0 0)]:=rfl
  have z0:(0:Int)<((1:Nat):Int):=by decide
  have z1:Int.toNat 0<1:=by decide
  (repeat' (first|refine ge (kf e0 (kf z0 z1)) ?_ | exact .intro | refine sp (fun _=>?_) fun _=>?_))
  refine callT hpts (.inl (by simp [roL,roA,treeL,treeC])) ?_
  (repeat' (first|refine go ?_ | exact .intro | refine sp (fun _=>?_) fun _=>?_))
  have tre:∀ (l:List Int),∀ row ∈ eNs l,treeL row:=fun l row hr=>by
   obtain ⟨x,_,rfl⟩:=List.mem_map.1 hr
   simp [treeL,treeC]
  have wk:∀ (j:Nat) (ch:Int) (vs:List Int),Weak ⟨76,[(3,.op 0 0 0),(8,.osl 3),(9,.op 1 0 0),(10,.bfn 19 [.op 1 0 0]),(11,.op 2 0 0),(13,.op 4 0 0),(14,sI near),(29,eI (n:Int)),(30,eI (k:Int)),(47,eI (q:Int)),(48,eI (j:Int))],[(0,some (.box 32 (eMod m))),(1,some (.box 66 [eU ch])),(2,some (.box 69 (eSt s))),(3,some (.row 63 3 ((simL m seed k).map eMv))),(4,some (.box 63 [eI v.event,eI v.user,.osl 5])),(5,some (.nest 2 1 (eNs vs)))],6⟩ ⟨76,[(3,.op 0 0 0),(8,.osl 3),(9,.op 1 0 0),(10,.bfn 19 [.op 1 0 0]),(11,.op 2 0 0),(13,.op 4 0 0),(14,sI near),(29,eI (n:Int)),(30,eI (k:Int)),(47,eI (q:Int)),(48,eI (j:Int))],[(0,some (.box 32 (eMod m))),(1,some (.box 66 [eU ch])),(2,some (.box 69 (eSt s))),(3,some (.row 63 3 ((simL m seed k).map eMv))),(4,some (.box 63 [eI v.event,eI v.user,sI vs]))],5⟩:=fun j ch vs=>(weak_frzN (e:=2) (sz:=1) 5 (by simp [ATab.get_cons]) (tre vs)).trans (weak_ren1 [0,1,2,3,4] ⟨(by decide),(by (first | ((simp only [envInR,tabInR,envLt,tabLt,AObj.lt,AV.lt,AV.ltL,AV.ren,AV.renL,AObj.ren,List.getD_cons_zero,List.getD_cons_succ,List.length_cons,List.length_nil,ruW,ASt.get,aget,ASt.put,↓reduceIte,reduceCtorEq,Nat.reduceLT,Nat.reduceEqDiff,Nat.reduceAdd,Nat.reduceLeDiff,eq_self,implies_true,frzEnv,frzTab,AObj.frz,AV.frz,AV.frzL,Option.map_some]) <;> (repeat' apply And.intro) <;> first | (rw [wrapK (by omega)];done) | (simp;done) | omega) | fail))⟩)
  refine aLoop_of (fun st=>∃ i:Nat,(i<q ∧ st=⟨76,[(3,.op 0 0 0),(8,.osl 3),(9,.op 1 0 0),(10,.bfn 19 [.op 1 0 0]),(11,.op 2 0 0),(13,.op 4 0 0),(14,sI near),(29,eI (n:Int)),(30,eI (k:Int)),(47,eI (q:Int)),(48,eI (i:Int))],[(0,some (.box 32 (eMod m))),(1,some (.box 66 [eU (valsU near (nextU c) i).2])),(2,some (.box 69 (eSt s))),(3,some (.row 63 3 ((simL m seed k).map eMv))),(4,some (.box 63 [eI v.event,eI v.user,.osl 5])),(5,some (.nest 2 1 (eNs ((valsU near (nextU c) i).1 ++ List.replicate (q - i) 0))))],6⟩) ∨ (i=q ∧ st=⟨76,[(3,.op 0 0 0),(8,.osl 3),(9,.op 1 0 0),(10,.bfn 19 [.op 1 0 0]),(11,.op 2 0 0),(13,.op 4 0 0),(14,sI near),(29,eI (n:Int)),(30,eI (k:Int)),(47,eI (q:Int)),(48,eI (q:Int))],[(0,some (.box 32 (eMod m))),(1,some (.box 66 [eU (valsU near (nextU c) q).2])),(2,some (.box 69 (eSt s))),(3,some (.row 63 3 ((simL m seed k).map eMv))),(4,some (.box 63 [eI v.event,eI v.user,sI (valsU near (nextU c) q).1]))],5⟩)) (fun st=>q - slotN st 48) ?_ ?_
  ·have vv1:(valsU near (nextU c) q).1=[]:=by rw [hq];rfl
   have vv2:(valsU near (nextU c) q).2=nextU c:=by rw [hq];rfl
   exact ⟨_,Weak.trans (weak_nilbox 5 2 2 1 rfl rfl) (Weak.trans (weak_nest 6 rfl) (Weak.trans (weak_ren [0,1,2,3,5,6] (by decide) rfl (by simp [envInR,ASt.get,aget,AV.ren,AV.renL,hq]) (by simp [tabInR,ATab.get_cons,AObj.ren,AV.renL,AV.ren,vv1,vv2,hve,hvu]) (by simp [envLt,AV.lt,AV.ltL]) (by simp [tabLt,AObj.lt,AV.ltL,AV.lt,vv1])) (wk q (valsU near (nextU c) q).2 (valsU near (nextU c) q).1))),0,.inr ⟨hq.symm,rfl⟩⟩
  rintro _ ⟨i2,⟨hi2,rfl⟩ | ⟨hiq,rfl⟩⟩
  ·omega
  ·have d1:decide (q<q)=false:=by simp
   rw [hql] at hsu hs1 hDo
   have et:(simL m seed (k+1)).map eMv=(simL m seed k).map eMv ++ [[eI v.event,eI v.user,sI (valsU near (nextU c) q).1]]:=by rw [hsu,List.map_append];rfl
   have hslen:(simL m seed k).length=k:=simL_len ..
   (repeat' (first|refine ge (kf d1 @hslen) ?_ | exact .intro | refine sp (fun _=>?_) fun _=>?_))
   refine ⟨rfl,⟨by omega,by omega⟩,?_⟩
   refine callT hDo (.inl (by simp [roL,roA,treeL,treeC])) ?_
   (repeat' (first|refine go ?_ | exact .intro | refine sp (fun _=>?_) fun _=>?_))
   exact rI (wS [0,1,2,6] (kf et (kf ht hs1))) ⟨k+1,by omega,rfl⟩
 ·have hLaw:lawLU m s=mvsM m s m.events.length:=if_neg hl0
  have hAt:=moves_atN (B:=[(0,some (.box 32 (eMod m))),(1,some (.box 66 [eU c])),(2,some (.box 69 (eSt s))),(3,some (.row 63 3 ((simL m seed k).map eMv)))]) (n0:=4) hN (by
   intro id ob h
   simp only [ATab.get_cons] at h
   repeat' split at h
   all_goals first | omega | cases h)
  simp only [AV.shift]
  generalize T0.shift 4 ++ [(0,some (.box 32 (eMod m))),(1,some (.box 66 [eU c])),(2,some (.box 69 (eSt s))),(3,some (.row 63 3 ((simL m seed k).map eMv)))]=T at *
  generalize 4+nx0=nx at *
  generalize o0+4=o at *
  rw [hLaw] at hcp hma
  have hll:=mvsM_len m s m.events.length
  have hll2:m.users.length * m.events.length≤10 * 10:=Nat.mul_le_mul (by omega) (by omega)
  have hll3:(mvsM m s m.events.length).length≤100:=by omega
  clear hll hll2
  generalize mvsM m s m.events.length=l at *
  obtain ⟨hB,⟨rows,hO,hrl,hrj⟩,hin,hlo⟩:=hAt
  have b0:=hB 0 (by omega)
  have b1:=hB 1 (by omega)
  have b2:=hB 2 (by omega)
  have b3:=hB 3 (by omega)
  simp only [ATab.get_cons,↓reduceIte,Nat.reduceEqDiff,reduceCtorEq] at b0 b1 b2 b3
  obtain ⟨i,hi⟩:∃ i:Nat,pickU (nextU c) (l.length:Int)=(i:Int):=⟨(pickU (nextU c) (l.length:Int)).toNat,by omega⟩
  have hil:i<l.length:=by omega
  have hvi:v=l[i]:=by
   rw [hma,hi,Int.toNat_natCast,List.getD_eq_getElem?_getD,List.getElem?_eq_getElem hil]
   rfl
  have hri:=hrj i hil
  have hOf:=of_M c (l.length:Int) (by unfold ok64;omega)
  rw [hi] at hOf
  (repeat' (first|refine ge (kf hO @hrl) ?_ | exact .intro | refine sp (fun _=>?_) fun _=>?_))
  refine callMth [] hOf (by simp [roL,roA]) ?_ trivial (by simp) (fun p hp=>by cases hp) (fun av cells' objs' he=>?_)
  ·rw [b1]
   rfl
  obtain ⟨rfl,rfl,rfl⟩:=he
  simp only [aMethTab_c,List.length_nil,Nat.add_zero]
  have o1:(o=1)=False:=by simp;omega
  rcases hin i hil with ⟨hX,_⟩|⟨id,hX,g1,g2,g3,g4⟩
  ·cases hX
  have hX:ids i+4=id:=by injection hX
  rw [hX] at hri
  rw [← hvi] at hri g4
  obtain ⟨q,hq⟩:=hvz
  have hql:v.vals.length=q:=by rw [hq,List.length_replicate]
  rw [hq] at g4
  have x0:(0=nx)=False:=by simp;omega
  have x1:(1=nx)=False:=by simp;omega
  have x2:(2=nx)=False:=by simp;omega
  have x3:(3=nx)=False:=by simp;omega
  have x4:(id=nx)=False:=by simp;omega
  have x5:(id=1)=False:=by simp;omega
  have x6:(id=o)=False:=by simp;exact g2
  (repeat' (first|refine ge (kf hO (kf @hrl (kf @hri (kf @hil (kf o1 (kf x0 (kf x1 (kf x2 (kf x3 (kf x4 (kf x5 (kf b0 (kf b1 (kf b2 (kf b3 g4))))))))))))))) ?_ | exact .intro | refine sp (fun _=>?_) fun _=>?_))
  refine callT hpts (.inl (by simp [roL,roA,treeL,treeC])) ?_
  (repeat' (first|refine ge (kf hO (kf @hrl (kf @hri (kf @hil (kf o1 (kf x0 (kf x1 (kf x2 (kf x3 (kf x4 (kf x5 (kf b0 (kf b1 (kf b2 (kf b3 (kf g4 @List.length_replicate.{0})))))))))))))))) ?_ | exact .intro | refine sp (fun _=>?_) fun _=>?_))
  have tre:∀ (l:List Int),∀ row ∈ eNs l,treeL row:=fun l row hr=>by
   obtain ⟨x,_,rfl⟩:=List.mem_map.1 hr
   simp [treeL,treeC]
  have wk:∀ (j:Nat) (ch:Int) (vs:List Int),Weak ⟨76,[(3,.op 0 0 0),(8,.osl 3),(9,.op 1 0 0),(10,.bfn 19 [.op 1 0 0]),(11,.op 2 0 0),(13,.op 4 0 0),(14,sI near),(29,eI (n:Int)),(30,eI (k:Int)),(47,eI (q:Int)),(48,eI (j:Int))],[(0,some (.box 32 (eMod m))),(1,some (.box 66 [eU ch])),(2,some (.box 69 (eSt s))),(3,some (.row 63 3 ((simL m seed k).map eMv))),(4,some (.box 63 [eI v.event,eI v.user,.osl 5])),(5,some (.nest 2 1 (eNs vs)))],6⟩ ⟨76,[(3,.op 0 0 0),(8,.osl 3),(9,.op 1 0 0),(10,.bfn 19 [.op 1 0 0]),(11,.op 2 0 0),(13,.op 4 0 0),(14,sI near),(29,eI (n:Int)),(30,eI (k:Int)),(47,eI (q:Int)),(48,eI (j:Int))],[(0,some (.box 32 (eMod m))),(1,some (.box 66 [eU ch])),(2,some (.box 69 (eSt s))),(3,some (.row 63 3 ((simL m seed k).map eMv))),(4,some (.box 63 [eI v.event,eI v.user,sI vs]))],5⟩:=fun j ch vs=>(weak_frzN (e:=2) (sz:=1) 5 (by simp [ATab.get_cons]) (tre vs)).trans (weak_ren1 [0,1,2,3,4] ⟨(by decide),(by (first | ((simp only [envInR,tabInR,envLt,tabLt,AObj.lt,AV.lt,AV.ltL,AV.ren,AV.renL,AObj.ren,List.getD_cons_zero,List.getD_cons_succ,List.length_cons,List.length_nil,ruW,ASt.get,aget,ASt.put,↓reduceIte,reduceCtorEq,Nat.reduceLT,Nat.reduceEqDiff,Nat.reduceAdd,Nat.reduceLeDiff,eq_self,implies_true,frzEnv,frzTab,AObj.frz,AV.frz,AV.frzL,Option.map_some]) <;> (repeat' apply And.intro) <;> first | (rw [wrapK (by omega)];done) | (simp;done) | omega) | fail))⟩)
  refine aLoop_of (fun st=>∃ i:Nat,(i<q ∧ st=⟨76,[(3,.op 0 0 0),(8,.osl 3),(9,.op 1 0 0),(10,.bfn 19 [.op 1 0 0]),(11,.op 2 0 0),(13,.op 4 0 0),(14,sI near),(29,eI (n:Int)),(30,eI (k:Int)),(47,eI (q:Int)),(48,eI (i:Int))],[(0,some (.box 32 (eMod m))),(1,some (.box 66 [eU (valsU near (nextU c) i).2])),(2,some (.box 69 (eSt s))),(3,some (.row 63 3 ((simL m seed k).map eMv))),(4,some (.box 63 [eI v.event,eI v.user,.osl 5])),(5,some (.nest 2 1 (eNs ((valsU near (nextU c) i).1 ++ List.replicate (q - i) 0))))],6⟩) ∨ (i=q ∧ st=⟨76,[(3,.op 0 0 0),(8,.osl 3),(9,.op 1 0 0),(10,.bfn 19 [.op 1 0 0]),(11,.op 2 0 0),(13,.op 4 0 0),(14,sI near),(29,eI (n:Int)),(30,eI (k:Int)),(47,eI (q:Int)),(48,eI (q:Int))],[(0,some (.box 32 (eMod m))),(1,some (.box 66 [eU (valsU near (nextU c) q).2])),(2,some (.box 69 (eSt s))),(3,some (.row 63 3 ((simL m seed k).map eMv))),(4,some (.box 63 [eI v.event,eI v.user,sI (valsU near (nextU c) q).1]))],5⟩)) (fun st=>q - slotN st 48) ?_ ?_
  ·have VV:(valsU near (nextU c) 0).1=[] ∧ (valsU near (nextU c) 0).2=nextU c:=⟨rfl,rfl⟩
   by_cases hq0:0<q
   ·exact ⟨_,weak_ren [0,1,2,3,nx,id] (by simp;omega) rfl (by simp [envInR,ASt.get,aget,AV.ren,AV.renL]) (by simp [tabInR,ATab.get_cons,AObj.ren,AV.renL,AV.ren,x0,x1,x2,x3,x4,x5,b0,b1,b2,b3,g4,VV]) (by simp [envLt,AV.lt,AV.ltL]) (by simp [tabLt,AObj.lt,AV.ltL,AV.lt];intro row hr;rcases hr with ⟨a,_,rfl⟩ | ⟨_,rfl⟩ <;> simp [AV.ltL,AV.lt]),0,.inl ⟨hq0,rfl⟩⟩
   ·obtain rfl:q=0:=by omega
    exact ⟨_,(weak_ren [0,1,2,3,nx,id] (by simp;omega) rfl (by simp [envInR,ASt.get,aget,AV.ren,AV.renL]) (by simp [tabInR,ATab.get_cons,AObj.ren,AV.renL,AV.ren,x0,x1,x2,x3,x4,x5,b0,b1,b2,b3,g4,VV]) (by simp [envLt,AV.lt,AV.ltL]) (by simp [tabLt,AObj.lt,AV.ltL,AV.lt])).trans (wk 0 (nextU c) (List.replicate 0 0)),0,.inr ⟨rfl,rfl⟩⟩
  rintro _ ⟨i2,⟨hi2,rfl⟩ | ⟨hiq,rfl⟩⟩
  ·obtain ⟨w1,w2⟩:=valsU_ok hno hnp (nextU_ok c) i2
   have hNu:=number_M near (valsU near (nextU c) i2).2 hnp (by omega) hno w2
   have hsv:valsU near (nextU c) (i2+1)=((valsU near (nextU c) i2).1 ++ [(numU near (valsU near (nextU c) i2).2).1],(numU near (valsU near (nextU c) i2).2).2):=rfl
   have hvl2:=valsU_len near (nextU c) i2
   have d1:decide (i2<q)=true:=decide_eq_true hi2
   (repeat' (first|refine ge d1 ?_ | exact .intro | refine sp (fun _=>?_) fun _=>?_))
   refine aDraw_held [1,5] [0,1,2,3,4] (.exec 5 (.take 6 (.exec 7 .done))) (by kernel_rfl) (by simp [ATab.get_cons]) ?_
   (repeat' (first|refine go ?_ | exact .intro | refine sp (fun _=>?_) fun _=>?_))
   refine callMthA [] hNu rfl (by simp [ATab.get_cons,AV.renL,AV.ren]) trivial (by simp) ?_ (fun av cells' objs' he=>?_)
   ·rintro p hp id hid
    cases hp
    simp at hid
    subst hid
    exact .inl (by simp)
   obtain ⟨rfl,rfl,rfl⟩:=he
   simp only [aMethTab_c,List.length_nil,Nat.add_zero]
   have hlen:((valsU near (nextU c) i2).1 ++ List.replicate (q - i2) 0).length=q:=by rw [List.length_append,List.length_replicate,hvl2];omega
   have hset:(eNs ((valsU near (nextU c) i2).1 ++ List.replicate (q - i2) 0)).set i2 [eI (numU near (valsU near (nextU c) i2).2).1]=eNs ((valsU near (nextU c) (i2+1)).1 ++ List.replicate (q - (i2+1)) 0):=by
    rw [hsv,show q - i2=(q - (i2+1))+1 by omega,List.replicate_succ]
    have h1:((valsU near (nextU c) i2).1.map fun n=>[eI n]).length=i2:=by rw [List.length_map,hvl2]
    simp only [eNs,List.map_append,List.map_cons,List.map_nil]
    rw [List.set_append_right _ _ (by omega),h1,Nat.sub_self,List.set_cons_zero]
    simp
   have hru:(eNs ((valsU near (nextU c) i2).1 ++ List.replicate (q - i2) 0))[i2]?.getD []=[eI (((valsU near (nextU c) i2).1 ++ List.replicate (q - i2) 0)[i2]'(by omega))]:=by rw [eNs,List.getElem?_map,List.getElem?_eq_getElem (by omega)];rfl
   (repeat' (first|refine ge (kf @hlen (kf hi2 (kf @hru @hset))) ?_ | exact .intro | refine sp (fun _=>?_) fun _=>?_))
   have hv2:(valsU near (nextU c) (i2+1)).2=(numU near (valsU near (nextU c) i2).2).2:=rfl
   by_cases hlast:i2+1<q
   ·exact rI (wS [0,1,2,3,4,5] (kf hv2 (kf @eNs_ltL @eNs_ren))) ⟨i2+1,.inl ⟨hlast,rfl⟩⟩
   ·have hq1:i2+1=q:=by omega
    have hset2:eNs ((valsU near (nextU c) (i2+1)).1 ++ List.replicate (q - (i2+1)) 0)=eNs (valsU near (nextU c) q).1:=by rw [hq1,Nat.sub_self,List.replicate_zero,List.append_nil]
    have hv3:(valsU near (nextU c) q).2=(numU near (valsU near (nextU c) i2).2).2:=by rw [← hq1,hv2]
    have hw1:IntKind.i64.wrap ((i2:Int)+1)=(q:Int):=by rw [wrap_in (by omega) (by omega)];omega
    exact roundI (Weak.trans (wS [0,1,2,3,4,5] (kf @hset2 (kf hv3 (kf hw1 (kf @eNs_ltL @eNs_ren))))) (wk q _ _)) ⟨q,.inr ⟨rfl,rfl⟩⟩ (by simp -implicitDefEqProofs (maxSteps:=5000000) only [ruX,↓reduceIte,reduceCtorEq,Nat.reduceLT,Nat.reduceEqDiff,Nat.reduceAdd,Nat.reduceMul,Nat.reduceSub,Nat.reduceLeDiff,Nat.reduceBEq,slotN,hw1];omega)
  ·have d1:decide (q<q)=false:=by simp
   rw [hql] at hsu hs1 hDo
   have et:(simL m seed (k+1)).map eMv=(simL m seed k).map eMv ++ [[eI v.event,eI v.user,sI (valsU near (nextU c) q).1]]:=by rw [hsu,List.map_append];rfl
   have hslen:(simL m seed k).length=k:=simL_len ..
   (repeat' (first|refine ge (kf d1 @hslen) ?_ | exact .intro | refine sp (fun _=>?_) fun _=>?_))
   refine ⟨rfl,⟨by omega,by omega⟩,?_⟩
   refine callT hDo (.inl (by simp [roL,roA,treeL,treeC])) ?_
   (repeat' (first|refine go ?_ | exact .intro | refine sp (fun _=>?_) fun _=>?_))
   exact rI (wS [0,1,2,6] (kf et (kf ht hs1))) ⟨k+1,by omega,rfl⟩
end
section
open Go.RowKit
def modV:Mod:=⟨[],[],[],[],[],[],[],[],[],[]⟩
theorem fitV:Fit modV:=⟨by simp [greatS,modV],by simp [modV],by simp [modV],by simp [modV]⟩
theorem goodV:GoodM modV:=⟨fitV,⟨fun g hg=>(by cases hg),fun g hg=>(by cases hg)⟩,fun g hg=>(by cases hg),fun g hg=>(by cases hg),fun g hg=>(by cases hg),fun g hg=>(by cases hg)⟩
theorem chkV:Chk modV:=⟨by simp [modV],by simp [modV],by simp [modV],by simp [modV],by simp [modV],by simp [modV],by simp [modV],by simp [modV],by simp [modV],by decide⟩
theorem namedV:NamedP modV:=⟨fun i h=>absurd h (Nat.not_lt_zero _),fun i h=>absurd h (Nat.not_lt_zero _),fun i h=>absurd h (Nat.not_lt_zero _),fun i h=>absurd h (Nat.not_lt_zero _),fun i h=>absurd h (Nat.not_lt_zero _),fun i h=>absurd h (Nat.not_lt_zero _)⟩
theorem chkFV:ChkF modV:=⟨chkV,namedV,⟨fun i h=>absurd h (Nat.not_lt_zero _)⟩,by decide,by simp [constsM,modV,condN,numsOf,sortR],⟨[],rfl,rfl,fun j h=>absurd h (Nat.not_lt_zero _)⟩⟩
theorem moveV (s:Int) (k:Nat):(mvU modV s k).event = -1:=by
 have h:=mvAt_mem modV (simS modV s k).2 (simS modV s k).1
 unfold lawLU at h
 have e:mvsM modV (simS modV s k).2 modV.events.length=[]:=rfl
 rw [if_pos e,List.mem_singleton] at h
 show (mvAt modV (simS modV s k).2 (simS modV s k).1).event = -1
 rw [h]
abbrev modV0:List AV:=[.c (.slice none 0 0),.c (.slice none 0 0),.c (.slice none 0 0),.c (.slice none 0 0),.c (.slice none 0 0),.c (.slice none 0 0),.c (.slice none 0 0),.c (.slice none 0 0),.c (.slice none 0 0),.c (.slice none 0 0)]
theorem awakeV_A:ADet Tryz.prog 6 [] (val (.bool true)):=by
 refine adet_of_code mixedT Tryz.func6 rfl (by decide) Tryz.ntmps6 Tryz.results6 rfl (val_ok _) ?_
 have hR:=(run_A modV 1 2 goodV chkFV ⟨by decide,by decide⟩ (by omega)).fits (args:=[.agg modV0,eU 1,eI 2]) ⟨.agg ⟨.nil 1,.nil 1,.nil 1,.nil 2,.nil 2,.nil 5,.nil 3,.nil 5,.nil 2,.nil 2,trivial⟩,.one (.refl _),.one (.refl _),trivial⟩
 have hN:=next_A 0
 have eN:(nextU 0 == 1442695040888963407)=true:=by
  unfold nextU
  rw [wrap_u64,wrap_u64]
  rfl
 have hl:simL modV 1 2=[mvU modV 1 0,mvU modV 1 1]:=rfl
 have h0:=moveV 1 0
 rw [hl] at hR
 generalize (simS modV 1 2).1=cc at *
 generalize mvU modV 1 0=x0 at *
 generalize mvU modV 1 1=x1 at *
 obtain ⟨ev0,us0,vl0⟩:=x0
 have h0:ev0 = -1:=h0
 subst h0
 (repeat' (first|refine go ?_ | exact .intro | refine sp (fun _=>?_) fun _=>?_))
 refine callT hR (.inl (by simp [roL,roA,treeL,treeC])) ?_
 have q2:(((2:Nat):Int) == 2)=true:=rfl
 have q1:((-1:Int) == -1)=true:=rfl
 have b0:(0:Int)<((2:Nat):Int):=by decide
 have b1:Int.toNat 0<2:=by decide
 have b3:(0:Int)≤0:=by decide
 have g0:∀ l:List (List AV),l[Int.toNat 0]?.getD []=l.headD []:=fun l=>by cases l <;> rfl
 (repeat' (first|refine ge (kf eN (kf q1 (kf q2 (kf b0 (kf b1 (kf b3 g0)))))) ?_ | exact .intro | refine sp (fun _=>?_) fun _=>?_|(with_reducible refine aDraw_quiet (by kernel_rfl) ?_) | ((with_reducible apply callV);exact (hN)) | ((with_reducible apply callD);exact (hN)) | (with_reducible apply And.intro)))
end
section
open Go.RowKit
theorem sameMvs_self (l:List Mv):sameMvs l l=true:=by
 unfold sameMvs
 have h:∀ k,k≤l.length → allN (sameMvAt l l) k=true:=by
  intro k
  induction k with
  | zero=>intro _;rfl
  | succ k ih=>
   intro hk
   unfold allN
   rw [ih (by omega),Bool.true_and]
   unfold sameMvAt
   rw [List.getElem?_eq_getElem (show k<l.length by omega)]
   simp [sameMv]
 rw [h _ (Nat.le_refl _)]
 simp
theorem simGoes_A (m:Mod) (seed:Int) (a b:Nat) (hc:condOk m) (hp:∀ p ∈ m.stages,ok64 p.2) (hi:∀ x ∈ m.inits,ok64 x) (hr:∀ p ∈ m.roles,ok64 p.2) (ht:∀ e ∈ m.events,ok64 e.times) (hs:okU seed) (ha:a<256) (hb:b<256) :
  ADet Tryz.prog 3 [.agg (eMod m),eU seed,.agg [.c (.int .u8 (a:Int)),.c (.int .u8 (b:Int))]] (val (.bool true)):=by
 refine adet_of_code mixedT Tryz.func3 rfl (by decide) Tryz.ntmps3 Tryz.results3 rfl (val_ok _) ?_
 (repeat' (first|refine go ?_ | exact .intro | refine sp (fun _=>?_) fun _=>?_))
 refine callPB (great12_A m) fun g hg=>?_
 cases g with
 | true=>(repeat' (first|refine go ?_ | exact .intro | refine sp (fun _=>?_) fun _=>?_|(with_reducible refine aDraw_quiet (by kernel_rfl) ?_)|((with_reducible first|apply callV (g:=6)|apply callD (g:=6));exact awakeV_A)))
 | false=>
 have hf:=hg rfl
 (repeat' (first|refine go ?_ | exact .intro | refine sp (fun _=>?_) fun _=>?_))
 refine callPB (check13F_A m hf hp) fun g2 hg2=>?_
 cases g2 with
 | false=>(repeat' (first|refine go ?_ | exact .intro | refine sp (fun _=>?_) fun _=>?_|(with_reducible refine aDraw_quiet (by kernel_rfl) ?_)|((with_reducible first|apply callV (g:=6)|apply callD (g:=6));exact awakeV_A)))
 | true=>
 have hF:=hg2 rfl
 have hm:GoodM m:=⟨hf,hc,hp,hi,hr,ht⟩
 have q30:((30:Int)=0)=False:=by simp
 have e1:((a:Nat):Int).tmod 30=((a % 30:Nat):Int):=by rw [Int.tmod_eq_emod_of_nonneg (by omega)];omega
 have e2:((b:Nat):Int).tmod 30=((b % 30:Nat):Int):=by rw [Int.tmod_eq_emod_of_nonneg (by omega)];omega
 obtain ⟨A,hA,hA2⟩:∃ A,a % 30=A ∧ A<30:=⟨_,rfl,Nat.mod_lt _ (by omega)⟩
 obtain ⟨B,hB,hB2⟩:∃ B,b % 30=B ∧ B<30:=⟨_,rfl,Nat.mod_lt _ (by omega)⟩
 rw [hA] at e1
 rw [hB] at e2
 have w1:IntKind.i64.wrap (A:Int)=(A:Int):=wrap_in (by omega) (by omega)
 have w2:IntKind.i64.wrap (B:Int)=(B:Int):=wrap_in (by omega) (by omega)
 have hR1:=run_A m seed A hm hF hs (by omega)
 have hR2:=run_A m seed B hm hF hs (by omega)
 have hAl:=allR_A m (simL m seed A) hm (sim_good hm hF hs A (by omega))
 rw [sim_err hm hF hs] at hAl
 have hrl:(runSt m (simL m seed A)).length=A+1:=by rw [runSt_len,sim_runK hm hF hs]
 have hl1:(simL m seed A).length=A:=simL_len ..
 have hl2:(simL m seed B).length=B:=simL_len ..
 have mn:min (A:Int) (B:Int)=((min A B:Nat):Int):=by omega
 have z0:((0:Int) == 0)=true:=rfl
 have z1:((A:Int) == (A:Int))=true:=by simp
 have z2:((B:Int) == (B:Int))=true:=by simp
 have w3:IntKind.i64.wrap ((A:Int)+1)=((A+1:Nat):Int):=wrapK (by omega)
 have z3:(((A+1:Nat):Int) == ((A+1:Nat):Int))=true:=by simp
 have t1:((simL m seed A).map eMv).take (min A B)=(simL m seed (min A B)).map eMv:=by rw [← List.map_take,simL_take,show min (min A B) A=min A B by omega]
 have t2:((simL m seed B).map eMv).take (min A B)=(simL m seed (min A B)).map eMv:=by rw [← List.map_take,simL_take,show min (min A B) B=min A B by omega]
 have hSm:=sameMvs_A (simL m seed (min A B)) (simL m seed (min A B)) (by rw [simL_len];omega) (fun v hv=>by have:=(sim_good hm hF hs (min A B) (by omega)).vals v hv;omega)
 rw [sameMvs_self] at hSm
 have b1:min A B≤A:=Nat.min_le_left _ _
 have b2:min A B≤B:=Nat.min_le_right _ _
 generalize min A B=n at *
 have x3:(1:Int)<((2:Nat):Int):=by decide
 have x4:(0:Int)≤1:=by decide
 have x5:(0:Int)<((2:Nat):Int):=by decide
 have x0:List.drop (Int.toNat 0 * 1) [AV.c (Value.int .u8 (a:Int)),AV.c (Value.int .u8 (b:Int))]=[AV.c (Value.int .u8 (a:Int)),AV.c (Value.int .u8 (b:Int))]:=rfl
 have x1:List.drop (Int.toNat 1 * 1) [AV.c (Value.int .u8 (a:Int)),AV.c (Value.int .u8 (b:Int))]=[AV.c (Value.int .u8 (b:Int))]:=rfl
 have d0:∀ (l:List (List AV)),List.drop (Int.toNat 0) l=l:=fun _=>rfl
 (repeat' (first|refine ge (kf d0 (kf t1 (kf t2 (kf hl1 (kf hl2 (kf @hrl (kf z0 (kf z1 (kf z2 (kf z3 (kf w3 (kf x0 (kf x1 (kf q30 (kf e1 (kf e2 (kf w1 (kf w2 (kf x3 (kf x4 (kf x5 mn))))))))))))))))))))) ?_ | exact .intro | refine sp (fun _=>?_) fun _=>?_|(with_reducible refine aDraw_quiet (by kernel_rfl) ?_) | ((with_reducible apply callT);exact (hR1);exact (.inl (by simp [roL,roA,treeL,treeC]))) | ((with_reducible apply callT);exact (hR2);exact (.inl (by simp [roL,roA,treeL,treeC]))) | ((with_reducible apply callT);exact (hAl);exact (.inl (by simp [roL,roA,treeL,treeC])))))
 refine ⟨by omega,by omega,?_⟩
 refine callD hSm ?_
 (repeat' (first|refine go ?_ | exact .intro | refine sp (fun _=>?_) fun _=>?_|(with_reducible refine aDraw_quiet (by kernel_rfl) ?_)|((with_reducible first|apply callV (g:=6)|apply callD (g:=6));exact awakeV_A)))
end
section
open Go.RowKit
theorem opensInt:Opens Tryz.prog 3 (intR .i64):=opens_int Tryz.underlying3
theorem opensI64:Opens Tryz.prog 2 (intR .i64):=opens_int Tryz.underlying2
def valR:Rep (Int × Int × Unit):=pairR (intR .i64) (pairR (intR .i64) nilR)
theorem opensVal:Opens Tryz.prog 108 valR:=
 opens_struct Tryz.underlying108 (by kernel_rfl) (opensF_cons (by kernel_rfl) (by kernel_rfl) opensInt (opensF_cons (by kernel_rfl) (by kernel_rfl) opensI64 (opensF_nil _ _)))
def instP:Rep (Int × (Int × Int × Unit) × (Int × Int × Unit) × Int × Int × Unit):=pairR (intR .i64) (pairR valR (pairR valR (pairR (intR .i64) (pairR (intR .i64) nilR))))
theorem opensInstP:Opens Tryz.prog 110 instP:=
 opens_struct Tryz.underlying110 (by kernel_rfl) (opensF_cons (by kernel_rfl) (by kernel_rfl) opensInt (opensF_cons (by kernel_rfl) (by kernel_rfl) opensVal (opensF_cons (by kernel_rfl) (by kernel_rfl) opensVal (opensF_cons (by kernel_rfl) (by kernel_rfl) opensInt (opensF_cons (by kernel_rfl) (by kernel_rfl) opensInt (opensF_nil _ _))))))
theorem opensInst:Opens Tryz.prog 110 instR:=opens_map opensInstP (fun p=>⟨p.1,p.2.1.1,p.2.1.2.1,p.2.2.1.1,p.2.2.1.2.1,p.2.2.2.1,p.2.2.2.2.1⟩) (by
 rintro w S cs ⟨op,⟨la,ln,_⟩,⟨ra,rn,_⟩,n,u,_⟩ h
 obtain ⟨c0,q0,e0,⟨a0,h0⟩,h'⟩:=pair_inv h
 obtain ⟨c1,q1,e1,h1,h''⟩:=pair_inv h'
 obtain ⟨c2,q2,e2,h2,h3⟩:=pair_inv h''
 obtain ⟨c3,q3,e3,⟨a3,h3'⟩,h4⟩:=pair_inv h3
 obtain ⟨c4,q4,e4,⟨a4,h4'⟩,h5⟩:=pair_inv h4
 have h5:q4=[]:=h5
 obtain ⟨d0,k0,f0,⟨b0,g0⟩,m0⟩:=pair_inv h1
 obtain ⟨d1,k1,f1,⟨b1,g1⟩,m1⟩:=pair_inv m0
 have m1:k1=[]:=m1
 obtain ⟨d2,k2,f2,⟨b2,g2⟩,m2⟩:=pair_inv h2
 obtain ⟨d3,k3,f3,⟨b3,g3⟩,m3⟩:=pair_inv m2
 have m3:k3=[]:=m3
 refine ⟨?_,wf_i64 h0,wf_i64 g0,wf_i64 g1,wf_i64 g2,wf_i64 g3,wf_i64 h3',wf_i64 h4'⟩
 rw [e0,e1,e2,e3,e4,h5,a0,f0,f1,m1,b0,b1,f2,f3,m3,b2,b3,a3,a4]
 rfl)
theorem opensInsts:Opens Tryz.prog 46 (sliceR instR):=opens_slice Tryz.underlying46 (by kernel_rfl) (by decide) opensInst
theorem opensIntsE:Opens Tryz.prog 51 (sliceR (intR .i64)):=opens_slice Tryz.underlying51 (by kernel_rfl) (by decide) opensInt
end
section
open Go.RowKit
theorem opensStr:Opens Tryz.prog 9 strR:=opens_string Tryz.underlying9
theorem opensBoolM:Opens Tryz.prog 4 boolR:=opens_bool Tryz.underlying4
theorem opensNameInt {t:TypeId} (h:Opens Tryz.prog t (pairR strR (pairR (intR .i64) nilR))):Opens Tryz.prog t nameIntR:=opens_map h (fun p=>(p.1,p.2.1)) (by
 rintro w S cs ⟨s,n,_⟩ h
 obtain ⟨c0,q0,e0,⟨a0,h0⟩,h⟩:=pair_inv h
 obtain ⟨c1,q1,e1,⟨a1,h1⟩,h⟩:=pair_inv h
 have h:q1=[]:=h
 exact ⟨by rw [e0,e1,a0,a1,h];rfl,h0,wf_i64 h1⟩)
theorem opensStage:Opens Tryz.prog 80 nameIntR:=opensNameInt (opens_struct Tryz.underlying80 (by kernel_rfl) (opensF_cons (by kernel_rfl) (by kernel_rfl) opensStr (opensF_cons (by kernel_rfl) (by kernel_rfl) opensInt (opensF_nil _ _))))
theorem opensRole:Opens Tryz.prog 78 nameIntR:=opensNameInt (opens_struct Tryz.underlying78 (by kernel_rfl) (opensF_cons (by kernel_rfl) (by kernel_rfl) opensStr (opensF_cons (by kernel_rfl) (by kernel_rfl) opensInt (opensF_nil _ _))))
theorem opensSod:Opens Tryz.prog 85 intIntR:=opens_map (r:=pairR (intR .i64) (pairR (intR .i64) nilR)) (opens_struct Tryz.underlying85 (by kernel_rfl) (opensF_cons (by kernel_rfl) (by kernel_rfl) opensInt (opensF_cons (by kernel_rfl) (by kernel_rfl) opensInt (opensF_nil _ _)))) (fun p=>(p.1,p.2.1)) (by
 rintro w S cs ⟨s,n,_⟩ h
 obtain ⟨c0,q0,e0,⟨a0,h0⟩,h⟩:=pair_inv h
 obtain ⟨c1,q1,e1,⟨a1,h1⟩,h⟩:=pair_inv h
 have h:q1=[]:=h
 exact ⟨by rw [e0,e1,a0,a1,h];rfl,wf_i64 h0,wf_i64 h1⟩)
theorem opensSentry:Opens Tryz.prog 93 sentryR:=opens_map (r:=pairR boolR (pairR (intR .i64) nilR)) (opens_struct Tryz.underlying93 (by kernel_rfl) (opensF_cons (by kernel_rfl) (by kernel_rfl) opensBoolM (opensF_cons (by kernel_rfl) (by kernel_rfl) opensInt (opensF_nil _ _)))) (fun p=>(p.1,p.2.1)) (by
 rintro w S cs ⟨s,n,_⟩ h
 obtain ⟨c0,q0,e0,a0,h⟩:=pair_inv h
 have a0:c0=[.bool s]:=a0
 obtain ⟨c1,q1,e1,⟨a1,h1⟩,h⟩:=pair_inv h
 have h:q1=[]:=h
 exact ⟨by rw [e0,e1,a0,a1,h];rfl,wf_i64 h1⟩)
theorem opensGuard:Opens Tryz.prog 48 gdR:=opens_map (r:=pairR (intR .i64) (pairR (intR .i64) (pairR (sliceR instR) nilR))) (opens_struct Tryz.underlying48 (by kernel_rfl) (opensF_cons (by kernel_rfl) (by kernel_rfl) opensInt (opensF_cons (by kernel_rfl) (by kernel_rfl) opensInt (opensF_cons (by kernel_rfl) (by kernel_rfl) opensInsts (opensF_nil _ _))))) (fun p=>⟨p.1,p.2.1,p.2.2.1⟩) (by
 rintro w S cs ⟨s,n,l,_⟩ h
 obtain ⟨c0,q0,e0,⟨a0,h0⟩,h⟩:=pair_inv h
 obtain ⟨c1,q1,e1,⟨a1,h1⟩,h⟩:=pair_inv h
 obtain ⟨c2,q2,e2,h2,h⟩:=pair_inv h
 have h:q2=[]:=h
 obtain ⟨cv,rfl,h2⟩:=one_inv (r:=sliceR instR) rfl h2
 exact ⟨cv,by rw [e0,e1,e2,a0,a1,h];rfl,h2,wf_i64 h0,wf_i64 h1⟩)
theorem opensMile:Opens Tryz.prog 50 mlR:=opens_map (r:=pairR strR (pairR (intR .i64) (pairR (intR .i64) (pairR (sliceR instR) (pairR boolR nilR))))) (opens_struct Tryz.underlying50 (by kernel_rfl) (opensF_cons (by kernel_rfl) (by kernel_rfl) opensStr (opensF_cons (by kernel_rfl) (by kernel_rfl) opensInt (opensF_cons (by kernel_rfl) (by kernel_rfl) opensInt (opensF_cons (by kernel_rfl) (by kernel_rfl) opensInsts (opensF_cons (by kernel_rfl) (by kernel_rfl) opensBoolM (opensF_nil _ _))))))) (fun p=>⟨p.1,p.2.1,p.2.2.1,p.2.2.2.1,p.2.2.2.2.1⟩) (by
 rintro w S cs ⟨nm,s,n,l,b,_⟩ h
 obtain ⟨c9,q9,e9,⟨a9,h9⟩,h⟩:=pair_inv h
 obtain ⟨c0,q0,e0,⟨a0,h0⟩,h⟩:=pair_inv h
 obtain ⟨c1,q1,e1,⟨a1,h1⟩,h⟩:=pair_inv h
 obtain ⟨c2,q2,e2,h2,h⟩:=pair_inv h
 obtain ⟨c3,q3,e3,a3,h⟩:=pair_inv h
 have a3:c3=[.bool b]:=a3
 have h:q3=[]:=h
 obtain ⟨cv,rfl,h2⟩:=one_inv (r:=sliceR instR) rfl h2
 exact ⟨cv,by rw [e9,e0,e1,e2,e3,a9,a0,a1,a3,h];rfl,h2,wf_i64 h0,wf_i64 h1,h9⟩)
theorem opensEvent:Opens Tryz.prog 53 evR:=opens_map (r:=pairR strR (pairR (intR .i64) (pairR (intR .i64) (pairR (sliceR (intR .i64)) (pairR (intR .i64) nilR))))) (opens_struct Tryz.underlying53 (by kernel_rfl) (opensF_cons (by kernel_rfl) (by kernel_rfl) opensStr (opensF_cons (by kernel_rfl) (by kernel_rfl) opensInt (opensF_cons (by kernel_rfl) (by kernel_rfl) opensInt (opensF_cons (by kernel_rfl) (by kernel_rfl) opensIntsE (opensF_cons (by kernel_rfl) (by kernel_rfl) opensInt (opensF_nil _ _))))))) (fun p=>⟨p.1,p.2.1,p.2.2.1,p.2.2.2.1,p.2.2.2.2.1⟩) (by
 rintro w S cs ⟨nm,s,n,l,b,_⟩ h
 obtain ⟨c9,q9,e9,⟨a9,h9⟩,h⟩:=pair_inv h
 obtain ⟨c0,q0,e0,⟨a0,h0⟩,h⟩:=pair_inv h
 obtain ⟨c1,q1,e1,⟨a1,h1⟩,h⟩:=pair_inv h
 obtain ⟨c2,q2,e2,h2,h⟩:=pair_inv h
 obtain ⟨c3,q3,e3,⟨a3,h3⟩,h⟩:=pair_inv h
 have h:q3=[]:=h
 obtain ⟨cv,rfl,h2⟩:=one_inv (r:=sliceR (intR .i64)) rfl h2
 exact ⟨cv,by rw [e9,e0,e1,e2,e3,a9,a0,a1,a3,h];rfl,h2,wf_i64 h0,wf_i64 h1,wf_i64 h3,h9⟩)
abbrev modP:=pairR (sliceR strR) (pairR (sliceR (intR .i64)) (pairR (sliceR strR) (pairR (sliceR nameIntR) (pairR (sliceR nameIntR) (pairR (sliceR evR) (pairR (sliceR gdR) (pairR (sliceR mlR) (pairR (sliceR intIntR) (pairR (sliceR sentryR) nilR)))))))))
theorem opensModP:Opens Tryz.prog 32 modP:=opens_struct Tryz.underlying32 (by kernel_rfl) (opensF_cons (by kernel_rfl) (by kernel_rfl) (opens_slice Tryz.underlying22 (by kernel_rfl) (by decide) opensStr) (opensF_cons (by kernel_rfl) (by kernel_rfl) (opens_slice Tryz.underlying23 (by kernel_rfl) (by decide) opensI64) (opensF_cons (by kernel_rfl) (by kernel_rfl) (opens_slice Tryz.underlying22 (by kernel_rfl) (by decide) opensStr) (opensF_cons (by kernel_rfl) (by kernel_rfl) (opens_slice Tryz.underlying24 (by kernel_rfl) (by decide) opensRole) (opensF_cons (by kernel_rfl) (by kernel_rfl) (opens_slice Tryz.underlying25 (by kernel_rfl) (by decide) opensStage) (opensF_cons (by kernel_rfl) (by kernel_rfl) (opens_slice Tryz.underlying26 (by kernel_rfl) (by decide) opensEvent) (opensF_cons (by kernel_rfl) (by kernel_rfl) (opens_slice Tryz.underlying27 (by kernel_rfl) (by decide) opensGuard) (opensF_cons (by kernel_rfl) (by kernel_rfl) (opens_slice Tryz.underlying28 (by kernel_rfl) (by decide) opensMile) (opensF_cons (by kernel_rfl) (by kernel_rfl) (opens_slice Tryz.underlying29 (by kernel_rfl) (by decide) opensSod) (opensF_cons (by kernel_rfl) (by kernel_rfl) (opens_slice Tryz.underlying30 (by kernel_rfl) (by decide) opensSentry) (opensF_nil _ _)))))))))))
theorem open_mod {H:Type} {enc:TypeId × Value → H} {w:World} {fuel:Nat} {cs:Array Value} {x:DataW H × List MemPlace} (h:DataW.trod enc Tryz.prog w 0 (fun _=>true) true fuel 32 cs.toList=some x) :
  ∃ (V:MV) (m:Mod),cs=V.cells ∧ ModI w V m:=by
 obtain ⟨⟨attrs,inits,users,roles,stages,events,guards,miles,sods,order,_⟩,h⟩:=opensModP H enc w fuel _ _ h
 obtain ⟨c0,q0,e0,h0,h⟩:=pair_inv h
 obtain ⟨c1,q1,e1,h1,h⟩:=pair_inv h
 obtain ⟨c2,q2,e2,h2,h⟩:=pair_inv h
 obtain ⟨c3,q3,e3,h3,h⟩:=pair_inv h
 obtain ⟨c4,q4,e4,h4,h⟩:=pair_inv h
 obtain ⟨c5,q5,e5,h5,h⟩:=pair_inv h
 obtain ⟨c6,q6,e6,h6,h⟩:=pair_inv h
 obtain ⟨c7,q7,e7,h7,h⟩:=pair_inv h
 obtain ⟨c8,q8,e8,h8,h⟩:=pair_inv h
 obtain ⟨c9,q9,e9,h9,h⟩:=pair_inv h
 obtain rfl:q9=[]:=h
 obtain ⟨v0,rfl,h0⟩:=one_inv (r:=sliceR strR) rfl h0
 obtain ⟨v1,rfl,h1⟩:=one_inv (r:=sliceR (intR .i64)) rfl h1
 obtain ⟨v2,rfl,h2⟩:=one_inv (r:=sliceR strR) rfl h2
 obtain ⟨v3,rfl,h3⟩:=one_inv (r:=sliceR nameIntR) rfl h3
 obtain ⟨v4,rfl,h4⟩:=one_inv (r:=sliceR nameIntR) rfl h4
 obtain ⟨v5,rfl,h5⟩:=one_inv (r:=sliceR evR) rfl h5
 obtain ⟨v6,rfl,h6⟩:=one_inv (r:=sliceR gdR) rfl h6
 obtain ⟨v7,rfl,h7⟩:=one_inv (r:=sliceR mlR) rfl h7
 obtain ⟨v8,rfl,h8⟩:=one_inv (r:=sliceR intIntR) rfl h8
 obtain ⟨v9,rfl,h9⟩:=one_inv (r:=sliceR sentryR) rfl h9
 refine ⟨⟨v0,v1,v2,v3,v4,v5,v6,v7,v8,v9⟩,⟨attrs,inits,users,roles,stages,events,guards,miles,sods,order⟩,?_,⟨h0,h1,h2,h3,h4,h5,h6,h7,h8,h9⟩⟩
 apply Array.ext'
 rw [e0,e1,e2,e3,e4,e5,e6,e7,e8,e9]
 rfl
end
section
open Go.RowKit
def Into {α:Type} (r:Rep α) (f:α → List AV):Prop:=∀ (w:World) (S:Nat → Prop) (cs:List Value) (x:α),r.at_ w S cs x → (f x).length=r.size ∧ ∀ (j:Nat) (u:Value) (av:AV),cs[j]? = some u → (f x)[j]? = some av → RT w S u av ∧ u.oneCell'=true
theorem Into.slice {α:Type} {r:Rep α} {f:α → List AV} (h:Into r f) {w:World} {S:Nat → Prop} {v:Value} {l:List α} (hv:(sliceR r).one w S v l):RT w S v (.sl r.size (l.map f)):=by
 obtain ⟨A,c,rfl,h1,h2⟩:=slice_form hv
 by_cases h0:0<l.length
 ·obtain ⟨b,o,rfl,hb,hrow⟩:=slice_some hv h0
  classical
  let cs:Nat → List Value:=fun i=>if hi:i<l.length then (hrow i hi).choose else []
  have hcs:∀ i (hi:i<l.length),(∀ (j:Nat) (u:Value),(cs i)[j]? = some u → w.cell? ⟨b,o+i * r.size+j,none⟩=some u) ∧ r.at_ w S (cs i) l[i]:=fun i hi=>by
   have:=(hrow i hi).choose_spec
   simpa [cs,hi] using this
  have key:∀ (i j:Nat) (row:List AV) (av:AV),(l.map f)[i]? = some row → row[j]? = some av → ∃ hi:i<l.length,(cs i)[j]? = some ((cs i).getD j undef) ∧ RT w S ((cs i).getD j undef) av ∧ ((cs i).getD j undef).oneCell'=true:=fun i j row av h3 h4=>by
   have hi:i<l.length:=by
    have:=(List.getElem?_eq_some_iff.1 h3).1
    simpa using this
   have hf:row=f l[i]:=by
    rw [List.getElem?_map,List.getElem?_eq_getElem hi] at h3
    exact (Option.some.inj h3).symm
   subst hf
   obtain ⟨h5,h6⟩:=h w S (cs i) l[i] (hcs i hi).2
   have hj:j<(cs i).length:=by
    rw [r.len (hcs i hi).2,← h5]
    exact (List.getElem?_eq_some_iff.1 h4).1
   have e:(cs i)[j]? = some ((cs i).getD j undef):=by
    rw [List.getD_eq_getElem?_getD,List.getElem?_eq_getElem hj]
    rfl
   exact ⟨hi,e,h6 j _ av e h4⟩
  refine .sl _ _ c r.size _ b o (fun i j=>(cs i).getD j undef) (by simp) h1 h2 (fun _=>⟨rfl,hb⟩) (fun row hr=>?_) (fun _ i j row av h3 h4=>?_) (fun i j row av h3 h4=>(key i j row av h3 h4).elim fun _ h=>h.2.2) (fun i j row av h3 h4=>(key i j row av h3 h4).elim fun _ h=>h.2.1)
  ·obtain ⟨i,hi,rfl⟩:=List.getElem_of_mem hr
   have hi:i<l.length:=by simpa using hi
   simp only [List.getElem_map]
   exact (h w S (cs i) l[i] (hcs i hi).2).1
  ·obtain ⟨hi,h5,_⟩:=key i j row av h3 h4
   exact (hcs i hi).1 j _ h5
 ·have:l=[]:=List.length_eq_zero_iff.1 (by omega)
  subst this
  exact .sl A 0 c r.size [] 0 0 (fun _ _=>undef) rfl h1 h2 (fun h=>by omega) (by simp) (fun h=>by omega) (by simp) (by simp)
theorem into_cells {α:Type} {r:Rep α} {f:α → List AV} (g:α → List Value) (hg:∀ w S cs x,r.at_ w S cs x → cs=g x) (hs:∀ x,(g x).length=r.size) (ho:∀ x u,u ∈ g x → u.oneCell'=true) (hf:∀ x,f x=(g x).map .c):Into r f:=fun w S cs x h=>by
 obtain rfl:=hg w S cs x h
 rw [hf]
 refine ⟨by simp [hs],fun j u av h1 h2=>?_⟩
 rw [List.getElem?_map,h1] at h2
 cases h2
 exact ⟨.c u,ho x u (List.mem_of_getElem? h1)⟩
theorem into_str:Into strR (fun s=>[eS s]):=into_cells (fun s=>[.string s]) (fun w S cs x h=>h.1) (fun x=>rfl) (fun x u h=>by simp at h;subst h;rfl) (fun x=>rfl)
theorem into_int:Into (intR .i64) (fun n=>[eI n]):=into_cells (fun n=>[.int .i64 n]) (fun w S cs x h=>h.1) (fun x=>rfl) (fun x u h=>by simp at h;subst h;rfl) (fun x=>rfl)
theorem into_ni:Into nameIntR eNI:=into_cells (fun p=>[.string p.1,.int .i64 p.2]) (fun w S cs x h=>h.1) (fun x=>rfl) (fun x u h=>by simp at h;rcases h with rfl | rfl <;> rfl) (fun x=>rfl)
theorem into_ii:Into intIntR eII:=into_cells (fun p=>[.int .i64 p.1,.int .i64 p.2]) (fun w S cs x h=>h.1) (fun x=>rfl) (fun x u h=>by simp at h;rcases h with rfl | rfl <;> rfl) (fun x=>rfl)
theorem into_bi:Into sentryR eBI:=into_cells (fun p=>[.bool p.1,.int .i64 p.2]) (fun w S cs x h=>h.1) (fun x=>rfl) (fun x u h=>by simp at h;rcases h with rfl | rfl <;> rfl) (fun x=>rfl)
theorem into_inst:Into instR eInst:=into_cells Inst.cells (fun w S cs x h=>h.1) (fun x=>rfl) (fun x u h=>by simp [Inst.cells] at h;rcases h with rfl | rfl | rfl | rfl | rfl | rfl | rfl <;> rfl) (fun x=>rfl)
theorem slice_one {α:Type} {r:Rep α} {w:World} {S:Nat → Prop} {v:Value} {l:List α} (h:(sliceR r).one w S v l):v.oneCell'=true:=by
 obtain ⟨A,c,rfl,_⟩:=slice_form h
 rfl
theorem into_gd:Into gdR eGd:=fun w S cs x ⟨cv,h1,h2,_⟩=>by
 subst h1
 refine ⟨rfl,fun j u av h3 h4=>?_⟩
 match j with
 | 0=>simp at h3 h4;subst h3;subst h4;exact ⟨.c _,rfl⟩
 | 1=>simp at h3 h4;subst h3;subst h4;exact ⟨.c _,rfl⟩
 | 2=>simp at h3 h4;subst h3;subst h4;exact ⟨into_inst.slice h2,slice_one h2⟩
 | j+3=>simp at h3
theorem into_ml:Into mlR eMl:=fun w S cs x ⟨cv,h1,h2,_⟩=>by
 subst h1
 refine ⟨rfl,fun j u av h3 h4=>?_⟩
 match j with
 | 0=>simp at h3 h4;subst h3;subst h4;exact ⟨.c _,rfl⟩
 | 1=>simp at h3 h4;subst h3;subst h4;exact ⟨.c _,rfl⟩
 | 2=>simp at h3 h4;subst h3;subst h4;exact ⟨.c _,rfl⟩
 | 3=>simp at h3 h4;subst h3;subst h4;exact ⟨into_inst.slice h2,slice_one h2⟩
 | 4=>simp at h3 h4;subst h3;subst h4;exact ⟨.c _,rfl⟩
 | j+5=>simp at h3
theorem into_ev:Into evR eEv:=fun w S cs x ⟨cv,h1,h2,_⟩=>by
 subst h1
 refine ⟨rfl,fun j u av h3 h4=>?_⟩
 match j with
 | 0=>simp at h3 h4;subst h3;subst h4;exact ⟨.c _,rfl⟩
 | 1=>simp at h3 h4;subst h3;subst h4;exact ⟨.c _,rfl⟩
 | 2=>simp at h3 h4;subst h3;subst h4;exact ⟨.c _,rfl⟩
 | 3=>simp at h3 h4;subst h3;subst h4;exact ⟨into_int.slice h2,slice_one h2⟩
 | 4=>simp at h3 h4;subst h3;subst h4;exact ⟨.c _,rfl⟩
 | j+5=>simp at h3
theorem rt_mod {w:World} {V:MV} {m:Mod} (h:ModI w V m):RT w (fun b=>b<w.heap.size) (.agg V.cells) (.agg (eMod m)):=by
 refine .agg _ _ rfl fun j u av h1 h2=>?_
 match j with
 | 0=>simp [MV.cells] at h1 h2;subst h1;subst h2;exact into_str.slice h.attrs
 | 1=>simp [MV.cells] at h1 h2;subst h1;subst h2;exact into_int.slice h.inits
 | 2=>simp [MV.cells] at h1 h2;subst h1;subst h2;exact into_str.slice h.users
 | 3=>simp [MV.cells] at h1 h2;subst h1;subst h2;exact into_ni.slice h.roles
 | 4=>simp [MV.cells] at h1 h2;subst h1;subst h2;exact into_ni.slice h.stages
 | 5=>simp [MV.cells] at h1 h2;subst h1;subst h2;exact into_ev.slice h.events
 | 6=>simp [MV.cells] at h1 h2;subst h1;subst h2;exact into_gd.slice h.guards
 | 7=>simp [MV.cells] at h1 h2;subst h1;subst h2;exact into_ml.slice h.miles
 | 8=>simp [MV.cells] at h1 h2;subst h1;subst h2;exact into_ii.slice h.sods
 | 9=>simp [MV.cells] at h1 h2;subst h1;subst h2;exact into_bi.slice h.order
 | j+10=>simp at h2
theorem slice_all {α:Type} {r:Rep α} {w:World} {S:Nat → Prop} {v:Value} {l:List α} {Q:α → Prop} (h:(sliceR r).one w S v l) (hq:∀ cs x,r.at_ w S cs x → Q x):∀ x ∈ l,Q x:=fun x hx=>by
 obtain ⟨i,hi,rfl⟩:=List.getElem_of_mem hx
 obtain ⟨A,c,rfl,_⟩:=slice_form h
 obtain ⟨b,o,rfl,_,hrow⟩:=slice_some h (by omega)
 obtain ⟨cs,_,h2⟩:=hrow i hi
 exact hq cs _ h2
theorem mod_conds {w:World} {V:MV} {m:Mod} (h:ModI w V m):condOk m:=
 ⟨slice_all h.guards fun cs x ⟨cv,_,h2,_⟩=>slice_all h2 fun cs y h3=>h3.2,slice_all h.miles fun cs x ⟨cv,_,h2,_⟩=>slice_all h2 fun cs y h3=>h3.2⟩
theorem mod_pars {w:World} {V:MV} {m:Mod} (h:ModI w V m):∀ p ∈ m.stages,ok64 p.2:=slice_all h.stages fun cs x h2=>h2.2.2
end
section
open Go.ChangeShapes Go.WideShapes Go.ChangeAt Go.RowKit
theorem opens_arr2 {α:Type} {P:Program} {t e:TypeId} {r:Rep α} (ht:P.underlying t=some (.array 2 e)) (hs:P.cellsOf e=r.size) (hc:P.cellsOf t=r.size+r.size) (ho:Opens P e r):Opens P t (pairR r r):=by
 intro H enc w fuel cs x hx
 obtain ⟨xs,m,rfl,_,hl,hn,hi⟩:=DataW.trod_array ht hx
 have h0:=hi 0 (by omega)
 have h1:=hi 1 (by omega)
 rw [List.getElem?_eq_getElem (by omega)] at h0 h1
 obtain ⟨a,ha⟩:=ho H enc w m _ _ h0
 obtain ⟨b,hb⟩:=ho H enc w m _ _ h1
 refine ⟨(a,b),_,_,?_,ha,hb⟩
 rw [hs,Nat.zero_mul,Nat.one_mul,List.drop_zero]
 rw [List.take_of_length_le (l:=cs.drop r.size) (by rw [List.length_drop];omega),List.take_append_drop]
theorem okWide_arr {P:Program} {W:World} {r:Reach} {b n:Nat} {t e:TypeId} {v:Value} (ht:P.underlying t=some (.array n e)) (h:Value.okWide P W r b t v):∃ cs,v=.agg cs:=by
 simp only [Value.okWide,ht] at h
 obtain ⟨cs,h1,_⟩:=h
 exact ⟨cs,h1⟩
theorem rt_cells {w:World} {S:Nat → Prop} (vs:List Value):RT w S (.agg vs.toArray) (.agg (vs.map .c)):=.agg _ _ (by simp) fun j u av h1 h2=>by
 rw [List.getElem?_map] at h2
 have h1':vs[j]? = some u:=by simpa using h1
 rw [h1'] at h2
 cases h2
 exact .c u
theorem opensU8s:Opens Tryz.prog 34 (pairR (intR .u8) (intR .u8)):=opens_arr2 Tryz.underlying34 (by kernel_rfl) (by kernel_rfl) (opens_int Tryz.underlying5)
theorem wf_u8 {n:Int} (h:(Lit.int .u8 n).wf=true):∃ k:Nat,n=(k:Int) ∧ k<256:=by
 have h2:0≤n ∧ n≤255:=by simpa [Lit.wf,IntKind.min,IntKind.max,IntKind.signed,IntKind.bits] using h
 exact ⟨n.toNat,by omega,by omega⟩
theorem u8s_inv {w:World} {S:Nat → Prop} {cs:Array Value} {p:Int × Int} (h:(pairR (intR .u8) (intR .u8)).at_ w S cs.toList p):cs=[Value.int .u8 p.1,.int .u8 p.2].toArray ∧ (∃ k:Nat,p.1=(k:Int) ∧ k<256) ∧ ∃ k:Nat,p.2=(k:Int) ∧ k<256:=by
 obtain ⟨c0,c1,e,⟨h0,k0⟩,⟨h1,k1⟩⟩:=pair_inv h
 exact ⟨Array.ext' (by rw [e,h0,h1];rfl),wf_u8 k0,wf_u8 k1⟩
theorem wf_uV {n:Int} (h:(Lit.int .u64 n).wf=true):okU n:=by
 have h2:0≤n ∧ n≤18446744073709551615:=by simpa [Lit.wf,IntKind.min,IntKind.max,IntKind.signed,IntKind.bits] using h
 unfold okU
 omega
theorem mod_roles {w:World} {V:MV} {m:Mod} (h:ModI w V m):∀ p ∈ m.roles,ok64 p.2:=slice_all h.roles fun cs x h2=>h2.2.2
theorem mod_inits {w:World} {V:MV} {m:Mod} (h:ModI w V m):∀ x ∈ m.inits,ok64 x:=slice_all h.inits fun cs x h2=>wf_i64 h2.2
theorem mod_times {w:World} {V:MV} {m:Mod} (h:ModI w V m):∀ e ∈ m.events,ok64 e.times:=slice_all h.events fun cs x ⟨cv,_,h2⟩=>h2.2.2.2.1
end
end
end Go.Proofs.YtcindbpnaicemaaGreat
