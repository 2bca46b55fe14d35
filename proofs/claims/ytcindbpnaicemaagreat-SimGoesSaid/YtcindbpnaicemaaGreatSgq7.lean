/-
  Parts of the proof: Sgp21, Sgp22, Sgp23, Sgp24.
-/
import Derived.Test.YtcindbpnaicemaaGreatSgq6
set_option linter.unusedVariables false
set_option linter.unusedSimpArgs false
set_option linter.defProp false
set_option maxRecDepth 100000
set_option maxHeartbeats 16000000
namespace Go.Proofs.YtcindbpnaicemaaGreat
section
section
open Go.RowKit
theorem itemV_ok {w:World} {S:Nat → Prop} {v:Value} {l:List Int} (h:RT w S v (.sl 9 (l.map eItm))) (hl:∀ x ∈ l,ok64 x):∃ L:List Item,L.map Item.op=l ∧ (sliceR itemR).one w S v L:=by
 refine ⟨l.map fun o=>⟨o,⟨#[]⟩,0,⟨#[]⟩,0,⟨#[]⟩,⟨#[]⟩,0,0⟩,by simp [Function.comp_def],?_⟩
 obtain ⟨A,cap,rfl,hc,hm,_,hA⟩:=h.sl_inv
 refine ⟨A,cap,by simp,by simpa using hc,hm,fun h0=>?_⟩
 obtain ⟨b,o,rfl,hb,U,hcell,hr,_⟩:=hA (by simpa using h0)
 refine ⟨b,o,rfl,hb,fun i hi=>⟨(l.map fun o=>(⟨o,⟨#[]⟩,0,⟨#[]⟩,0,⟨#[]⟩,⟨#[]⟩,0,0⟩:Item))[i].cells,fun j u hu=>?_,rfl,?_⟩⟩
 ·have hi':i<l.length:=by simpa using hi
  have h1:(l.map eItm)[i]? = some (eItm l[i]):=by simp [hi']
  have h3:∀ (j:Nat) (u:Value),(⟨l[i],⟨#[]⟩,0,⟨#[]⟩,0,⟨#[]⟩,⟨#[]⟩,0,0⟩:Item).cells[j]? = some u → (eItm l[i])[j]? = some (AV.c u):=by
   intro j u hu
   unfold Item.cells at hu
   match j with
   | 0 | 1 | 2 | 3 | 4 | 5 | 6 | 7 | 8=>simp at hu;subst hu;rfl
   | j+9=>simp at hu
  have h4:=h3 j u (by simpa using hu)
  have h2:=hcell i j _ _ h1 h4
  rw [rtc (hr i j _ _ h1 h4)] at h2
  exact h2
 ·have hi':i<l.length:=by simpa using hi
  have:=hl _ (List.getElem_mem hi')
  have z:ok64 0:=by simp [ok64]
  have e:(ByteArray.size ⟨#[]⟩)≤9223372036854775807:=by decide
  rw [List.getElem_map]
  exact ⟨this,z,z,z,z,e,e,e,e⟩
theorem treeCheck_A (l:List Int) (hl:∀ x ∈ l,ok64 x):ADet Tryz.prog 131 [sItms l] (val (.int .i64 (checkE l))):=
 adet_of_calls (enters_of Tryz.func131 rfl (by decide)) fun S w vs hS hn hv=>by
  obtain ⟨a,rfl⟩:=oneV (by simpa using hn)
  obtain ⟨L,h1,h2⟩:=itemV_ok (hv 0 a _ rfl rfl) hl
  have:=check_any L a S w h2 hS.sub
  rw [h1] at this
  exact this
theorem itemsV_plain {l:List Int}:∀ row ∈ l.map eItm,∀ av ∈ row,AV.plain av:=fun row hr av ha=>by
 obtain ⟨x,_,rfl⟩:=List.mem_map.1 hr
 simp only [List.mem_cons,List.not_mem_nil,or_false] at ha
 rcases ha with rfl|rfl|rfl|rfl|rfl|rfl|rfl|rfl|rfl <;> trivial
theorem shapeP_A (l:List Inst) (hl:l.length≤100000):ADet Tryz.prog 132 [sInsts l] (own 116 9 ((l.map Inst.op).map eItm)):=by
 refine adet_of_code mixedT Tryz.func132 rfl (by decide) Tryz.ntmps132 Tryz.results132 rfl (own_ok _ _ _) ?_
 (repeat' (first|refine go ?_ | exact .intro | refine sp (fun _=>?_) fun _=>?_))
 refine aLoop_of (fun st=>∃ k:Nat,k≤l.length ∧ st=⟨20,[(3,.osl 0),(6,sInsts l),(7,eI (l.length:Int)),(8,eI (k:Int))],[(0,some (.row 116 9 (((l.map Inst.op).take k).map eItm)))],1⟩) (fun st=>l.length - slotN st 8) ⟨_,((weak_nil 3 116 9 (by simp only [ruW,ASt.get,aget,ASt.put,↓reduceIte,reduceCtorEq,Nat.reduceLT,Nat.reduceEqDiff,Nat.reduceAdd,Nat.reduceLeDiff,eq_self,implies_true,List.take_zero,List.map_nil])).trans (wS [0] @List.take_zero.{0})),0,Nat.zero_le _,rfl⟩ ?_
 rintro _ ⟨k,hk,rfl⟩
 have hkl:((l.map Inst.op).take k).length=k:=by simp;omega
 by_cases hlt:k<l.length
 ·have et:((l.map Inst.op).take (k+1)).map eItm=((l.map Inst.op).take k).map eItm ++ [eItm l[k].op]:=by
   rw [take_snoc eItm (l.map Inst.op) (by simpa using hlt)]
   simp
  (repeat' (first|refine go ?_|simp only [row_at,hlt] | exact .intro | refine sp (fun _=>?_) fun _=>?_))
  refine ⟨rfl,by omega,rI (wS [3] et) ⟨k+1,by omega,rfl⟩⟩
 ·obtain rfl:k=l.length:=by omega
  have ef:(l.map Inst.op).take l.length=l.map Inst.op:=List.take_of_length_le (by simp)
  (repeat' (first|refine ge @hlt ?_ | exact .intro | refine sp (fun _=>?_) fun _=>?_))
  rw [ef]
  exact aGives_own (by simp [ATab.get_cons])
theorem comparesP_A (op:Int):ADet Tryz.prog 135 [eI op] (val (.bool (decide (3≤op) && decide (op≤8)))):=by
 refine adet_of_code mixedT Tryz.func135 rfl (by decide) Tryz.ntmps135 Tryz.results135 rfl (val_ok _) ?_
 by_cases g:3≤op
 ·have d1:decide (3≤op)=true:=decide_eq_true g
  (repeat' (first|refine ge (kf d1 @Bool.true_and) ?_ | exact .intro | refine sp (fun _=>?_) fun _=>?_|(with_reducible refine aDraw_quiet (by kernel_rfl) ?_)))
 ·have d1:decide (3≤op)=false:=decide_eq_false g
  (repeat' (first|refine ge (kf d1 @Bool.false_and) ?_ | exact .intro | refine sp (fun _=>?_) fun _=>?_|(with_reducible refine aDraw_quiet (by kernel_rfl) ?_)))
theorem has1P_A (m:Mod) (a n:Int):ADet Tryz.prog 166 [.agg [eI a,eI n],.rp (eMod m)] (val (.bool (decide (-1≤a) && decide (a<(m.attrs.length:Int))))):=by
 refine adet_of_code mixedT Tryz.func166 rfl (by decide) Tryz.ntmps166 Tryz.results166 rfl (val_ok _) ?_
 by_cases g:-1≤a
 ·have d1:decide (-1≤a)=true:=decide_eq_true g
  (repeat' (first|refine ge (kf d1 @Bool.true_and) ?_ | exact .intro | refine sp (fun _=>?_) fun _=>?_|(with_reducible refine aDraw_quiet (by kernel_rfl) ?_)))
 ·have d1:decide (-1≤a)=false:=decide_eq_false g
  (repeat' (first|refine ge (kf d1 @Bool.false_and) ?_ | exact .intro | refine sp (fun _=>?_) fun _=>?_|(with_reducible refine aDraw_quiet (by kernel_rfl) ?_)))
theorem has2P_A (n q:Int):ADet Tryz.prog 167 [eI n,eI q] (val (.bool (inB n q))):=by
 refine adet_of_code mixedT Tryz.func167 rfl (by decide) Tryz.ntmps167 Tryz.results167 rfl (val_ok _) ?_
 unfold inB
 by_cases g:0≤n
 ·have d1:decide (0≤n)=true:=decide_eq_true g
  (repeat' (first|refine ge (kf d1 @Bool.true_and) ?_ | exact .intro | refine sp (fun _=>?_) fun _=>?_|(with_reducible refine aDraw_quiet (by kernel_rfl) ?_)))
 ·have d1:decide (0≤n)=false:=decide_eq_false g
  (repeat' (first|refine ge (kf d1 @Bool.false_and) ?_ | exact .intro | refine sp (fun _=>?_) fun _=>?_|(with_reducible refine aDraw_quiet (by kernel_rfl) ?_)))
theorem hasP_A (m:Mod) (x:Inst) (h:hasI m x=true):ADet Tryz.prog 133 [.agg (eMod m),.agg (eInst x)] (val (.bool true)):=by
 refine adet_of_code mixedT Tryz.func133 rfl (by decide) Tryz.ntmps133 Tryz.results133 rfl (val_ok _) ?_
 obtain ⟨op,la,ln,ra,rn,n,u⟩:=x
 have hC:=comparesP_A op
 unfold hasI at h
 by_cases g:3≤op ∧ op≤8
 ·have e1:(decide (3≤op) && decide (op≤8))=true:=by simp;omega
  rw [e1] at hC
  rw [if_pos e1] at h
  simp only [Bool.and_eq_true] at h
  have h1:=has1P_A m la ln
  have h2:=has1P_A m ra rn
  rw [h.1.1.1,h.1.1.2] at h1
  rw [h.1.2,h.2] at h2
  simp only [Bool.and_self] at h1 h2
  (repeat' (first|refine go ?_ | exact .intro | refine sp (fun _=>?_) fun _=>?_|(with_reducible refine aDraw_quiet (by kernel_rfl) ?_) | ((with_reducible apply callV);exact (hC)) | ((with_reducible apply callD);exact (hC)) | ((with_reducible apply callV);exact (h1)) | ((with_reducible apply callD);exact (h1)) | ((with_reducible apply callV);exact (h2)) | ((with_reducible apply callD);exact (h2))))
 ·have e1:(decide (3≤op) && decide (op≤8))=false:=by
   rw [Bool.and_eq_false_iff]
   by_cases g2:3≤op
   ·right;simp;omega
   ·left;simp;omega
  rw [e1] at hC h
  simp only [Bool.false_eq_true,if_false] at h
  by_cases h9:op=9
  ·subst h9
   simp only [Int.reduceLT,decide_false,Bool.or_self,Bool.false_eq_true,if_false,if_true,Bool.and_eq_true] at h
   have h1:=has2P_A n m.stages.length
   have e2:inB n m.stages.length=true:=by simp only [inB,Bool.and_eq_true];exact h.1
   rw [e2] at h1
   have q9:((9:Int) == 9)=true:=rfl
   (repeat' (first|refine ge q9 ?_ | exact .intro | refine sp (fun _=>?_) fun _=>?_|(with_reducible refine aDraw_quiet (by kernel_rfl) ?_) | ((with_reducible apply callV);exact (hC)) | ((with_reducible apply callD);exact (hC)) | ((with_reducible apply callV);exact (h1)) | ((with_reducible apply callD);exact (h1))))
  have q9:(op == 9)=false:=by simp [h9]
  by_cases h10:op=10
  ·subst h10
   simp only [Int.reduceLT,Int.reduceEq,decide_false,Bool.or_self,Bool.false_eq_true,if_false,if_true,Bool.and_eq_true] at h
   have h1:=has2P_A n m.miles.length
   have e2:inB n m.miles.length=true:=by simp only [inB,Bool.and_eq_true];exact h.1
   rw [e2] at h1
   have q10:((10:Int) == 10)=true:=rfl
   (repeat' (first|refine ge (kf q9 q10) ?_ | exact .intro | refine sp (fun _=>?_) fun _=>?_|(with_reducible refine aDraw_quiet (by kernel_rfl) ?_) | ((with_reducible apply callV);exact (hC)) | ((with_reducible apply callD);exact (hC)) | ((with_reducible apply callV);exact (h1)) | ((with_reducible apply callD);exact (h1))))
  have q10:(op == 10)=false:=by simp [h10]
  by_cases h11:op=11
  ·subst h11
   simp only [Int.reduceLT,Int.reduceEq,decide_false,Bool.or_self,Bool.false_eq_true,if_false,if_true,Bool.and_eq_true] at h
   have h1:=has2P_A n m.events.length
   have e2:inB n m.events.length=true:=by simp only [inB,Bool.and_eq_true];exact h.1
   rw [e2] at h1
   have q11:((11:Int) == 11)=true:=rfl
   (repeat' (first|refine ge (kf q9 (kf q10 q11)) ?_ | exact .intro | refine sp (fun _=>?_) fun _=>?_|(with_reducible refine aDraw_quiet (by kernel_rfl) ?_) | ((with_reducible apply callV);exact (hC)) | ((with_reducible apply callD);exact (hC)) | ((with_reducible apply callV);exact (h1)) | ((with_reducible apply callD);exact (h1))))
  have q11:(op == 11)=false:=by simp [h11]
  by_cases h12:op=12
  ·subst h12
   simp only [Int.reduceLT,Int.reduceEq,decide_false,Bool.or_self,Bool.false_eq_true,if_false,if_true,Bool.and_eq_true,bne_self_eq_false,Bool.false_or] at h
   have h1:=has2P_A n m.events.length
   have e2:inB n m.events.length=true:=by simp only [inB,Bool.and_eq_true];exact h.1
   rw [e2] at h1
   have h2:=has2P_A u m.users.length
   have e3:inB u m.users.length=true:=by simp only [inB,Bool.and_eq_true];exact h.2
   rw [e3] at h2
   have q12:((12:Int) == 12)=true:=rfl
   (repeat' (first|refine ge (kf q9 (kf q10 (kf q11 q12))) ?_ | exact .intro | refine sp (fun _=>?_) fun _=>?_|(with_reducible refine aDraw_quiet (by kernel_rfl) ?_) | ((with_reducible apply callV);exact (hC)) | ((with_reducible apply callD);exact (hC)) | ((with_reducible apply callV);exact (h1)) | ((with_reducible apply callD);exact (h1)) | ((with_reducible apply callV);exact (h2)) | ((with_reducible apply callD);exact (h2))))
  have q12:(op == 12)=false:=by simp [h12]
  (repeat' (first|refine ge (kf q9 (kf q10 (kf q11 q12))) ?_ | exact .intro | refine sp (fun _=>?_) fun _=>?_|(with_reducible refine aDraw_quiet (by kernel_rfl) ?_) | ((with_reducible apply callV);exact (hC)) | ((with_reducible apply callD);exact (hC))))
theorem bindCheckP_A (m:Mod) (l:List Inst) (hl:l.length≤100000) (hx:∀ x ∈ l,x.ok) (h:CondP m l):ADet Tryz.prog 99 [.agg (eMod m),sInsts l,eB false] (val (.bool true)):=by
 refine adet_of_code mixedT Tryz.func99 rfl (by decide) Tryz.ntmps99 Tryz.results99 rfl (val_ok _) ?_
 have hT:=treeCheck_A (l.map Inst.op) (fun o ho=>by obtain ⟨x,hx',rfl⟩:=List.mem_map.1 ho;exact (hx x hx').1)
 rw [h.1] at hT
 have z0:((0:Int) != 0)=false:=rfl
 (repeat' (first|refine go ?_ | exact .intro | refine sp (fun _=>?_) fun _=>?_))
 refine callO (shapeP_A l hl) (.inr itemsV_plain) ?_
 (repeat' (first|refine go ?_ | exact .intro | refine sp (fun _=>?_) fun _=>?_))
 refine callV hT ?_
 (repeat' (first|refine ge z0 ?_ | exact .intro | refine sp (fun _=>?_) fun _=>?_))
 refine aLoop_of (fun st=>∃ (k:Nat),k≤l.length ∧ st=⟨45,[(3,.op 0 0 0),(2,eB false),(14,sInsts l),(15,eI (l.length:Int)),(16,eI (k:Int))],[(0,some (.box 32 (eMod m)))],1⟩) (fun st=>l.length - slotN st 16) ⟨_,(wR [0]),0,Nat.zero_le _,rfl⟩ ?_
 rintro _ ⟨k,hk,rfl⟩
 by_cases hlt:k<l.length
 ·obtain ⟨g1,g2⟩:=h.2 k hlt
  have hH:=hasP_A m l[k] g1
  by_cases g11:11≤l[k].op
  ·have d1:decide (11≤l[k].op)=true:=decide_eq_true g11
   have d2:decide (l[k].op≤14)=false:=decide_eq_false (by omega)
   have d3:decide (19≤l[k].op)=false:=decide_eq_false (by omega)
   (repeat' (first|refine go ?_|simp only [row_at,hlt,d1,d2,d3] | exact .intro | refine sp (fun _=>?_) fun _=>?_|(with_reducible refine aDraw_quiet (by kernel_rfl) ?_) | ((with_reducible apply callV);exact (hH)) | ((with_reducible apply callD);exact (hH))))
   all_goals exact rI (wR [0]) ⟨k+1,by omega,rfl⟩
  ·have d1:decide (11≤l[k].op)=false:=decide_eq_false g11
   have d3:decide (19≤l[k].op)=false:=decide_eq_false (by omega)
   (repeat' (first|refine go ?_|simp only [row_at,hlt,d1,d3] | exact .intro | refine sp (fun _=>?_) fun _=>?_|(with_reducible refine aDraw_quiet (by kernel_rfl) ?_) | ((with_reducible apply callV);exact (hH)) | ((with_reducible apply callD);exact (hH))))
   all_goals exact rI (wR [0]) ⟨k+1,by omega,rfl⟩
 ·(repeat' (first|refine ge @hlt ?_ | exact .intro | refine sp (fun _=>?_) fun _=>?_|(with_reducible refine aDraw_quiet (by kernel_rfl) ?_)))
theorem sentryP_A (m:Mod) (st ev:Int) (l:List Inst) (hl:l.length≤100000) (hx:∀ x ∈ l,x.ok) (h:SentP m st ev l):ADet Tryz.prog 70 [.agg (eMod m),eI st,eI ev,sInsts l] (val (.bool true)):=by
 refine adet_of_code mixedT Tryz.func70 rfl (by decide) Tryz.ntmps70 Tryz.results70 rfl (val_ok _) ?_
 obtain ⟨h1,h2,h3⟩:=h
 have hB:=bindCheckP_A m l hl hx h3
 have hS:=inM_A st m.stages.length
 rw [h1] at hS
 rcases h2 with rfl|h2
 ·have q:((-1:Int) == -1)=true:=rfl
  (repeat' (first|refine ge q ?_ | exact .intro | refine sp (fun _=>?_) fun _=>?_|(with_reducible refine aDraw_quiet (by kernel_rfl) ?_) | ((with_reducible apply callV);exact (hS)) | ((with_reducible apply callD);exact (hS)) | ((with_reducible apply callV);exact (hB)) | ((with_reducible apply callD);exact (hB))))
 ·have hE:=inM_A ev m.events.length
  rw [h2] at hE
  have q:(ev == -1)=false:=by
   simp only [inB,Bool.and_eq_true,decide_eq_true_eq] at h2
   simp
   omega
  (repeat' (first|refine ge q ?_ | exact .intro | refine sp (fun _=>?_) fun _=>?_|(with_reducible refine aDraw_quiet (by kernel_rfl) ?_) | ((with_reducible apply callV);exact (hS)) | ((with_reducible apply callD);exact (hS)) | ((with_reducible apply callV);exact (hE)) | ((with_reducible apply callD);exact (hE)) | ((with_reducible apply callV);exact (hB)) | ((with_reducible apply callD);exact (hB))))
end
section
open Go.RowKit
theorem weak_frz (st:ASt) (id:Nat):Weak st (frz1 st id):=fun cx a w L h=>⟨L,(conc_frz1 h id).1,fun b hb=>⟨hb.1,hb.2.1,fun k o hk=>by
 unfold frz1 at hk
 split at hk
 ·simp only [ATab.get_cons,frzTab_get] at hk
  split at hk
  ·cases hk
  ·cases hg:st.tab.get k with
   | none=>simp [hg] at hk
   | some o'=>exact hb.2.2 k o' hg
 ·exact hb.2.2 k o hk⟩⟩
end
section
open Go.RowKit
section
variable {P:Program} {cx:Cx} {a:Act} {w w' w'':World} {st st':ASt} {tab tab' tab'':ATab} {L L' L'':Nat → Value} {nx nx':Nat}
theorem Fz.refl:Fz w tab L w tab L:=⟨Nat.le_refl _,fun _ _ _=>rfl,fun id o g h1 h2 _=>⟨id,o,h1,h2⟩⟩
theorem Fz.trans (h:Fz w tab L w' tab' L') (k:Fz w' tab' L' w'' tab'' L''):Fz w tab L w'' tab'' L'':=
  ⟨Nat.le_trans h.size k.size,
   fun j hj hn=>(k.keep j (Nat.lt_of_lt_of_le hj h.size) fun id o h1 h2=>(h.young id o j h1 h2 hj).elim fun id2 ⟨o2,h3,h4⟩=>hn id2 o2 h3 h4).trans (h.keep j hj hn),
   fun id o g h1 h2 hg=>(k.young id o g h1 h2 (Nat.lt_of_lt_of_le hg h.size)).elim fun id2 ⟨o2,h3,h4⟩=>h.young id2 o2 g h3 h4 hg⟩
theorem Fr.fz (h:Fr cx w tab L nx w' tab' L' nx'):Fz w tab L w' tab' L':=⟨h.size,h.keep,h.young⟩
theorem weak_fz (hw:Weak st st') (h:Conc cx a w st L):∃ L',Conc cx a w st' L' ∧ Fz w st.tab L w st'.tab L':=by
 obtain ⟨L',h1,h2⟩:=hw _ _ _ _ h
 refine ⟨L',h1,Nat.le_refl _,fun _ _ _=>rfl,fun id o g h3 h4 h5=>?_⟩
 refine Classical.byContradiction fun hno=>?_
 have hS:Sx cx w st.tab L g:=⟨h5,⟨.inr ((h1.lay.objs id o h3).ge h4).1,fun hX=>(h1.lay.ex g hX).2 id o h3 h4⟩,fun id2 o2 h6 h7=>hno ⟨id2,o2,h6,h7⟩⟩
 exact (h2 g hS).2.2 id o h3 h4
theorem ops_okZ {ops:Array Oper} {K:ASt → Prop} {Q:Exit → Act → World → Prop} {T:Nat → Prop}:∀ (l:List Oper) (a:Act) (w:World) (st:ASt) (L:Nat → Value),(∀ o ∈ l,fOp o=true ∧ ∀ t,T t → o.dst ≠ some t) →
  (∀ a' w' st' L',K st' → Conc cx a' w' st' L' → Fz w st.tab L w' st'.tab L' → ActSame T a a' → Q .normal a' w') → Conc cx a w st L → aOps P ops K l st → wpList P ops Q l a w
 | [],a,w,st,L,_,hQ,h,hp=>hQ a w st L hp h Fz.refl (.refl a)
 | o :: rest,a,w,st,L,hf,hQ,h,hp=>by
  unfold aOps at hp
  obtain ⟨hfo,hdo⟩:=hf o (List.mem_cons_self ..)
  have hrest:=fun o' (ho':o' ∈ rest)=>hf o' (List.mem_cons_of_mem _ ho')
  refine wpList_step fun K' hK'=>?_
  rcases guard_ok h hp o rfl with ⟨hw,st1,h1,h2,e1,e2⟩|⟨hw,st1,h1,h2,e1,e2⟩
  ·rw [if_pos hw]
   refine Oper.wp_mono (fun a' w' ⟨⟨st2,L2,h3,h4,h5,h6⟩,h7⟩=>hK' a' w' (ops_okZ rest a' w' st2 L2 hrest (fun a3 w3 st3 L3 h8 h9 h10 h11=>hQ a3 w3 st3 L3 h8 h9 ?_ (ActSame.trans ⟨h6,h7⟩ h11)) h4 h3)) (wp_slots hdo (op_okF h2 h1 hfo))
   have h5:=h5.fz
   rw [e1] at h5
   exact h5.trans h10
  ·rw [if_neg (by simp [hw])]
   refine hK' _ _ (ops_okZ rest _ w _ L hrest (fun a3 w3 st3 L3 h8 h9 h10 h11=>hQ a3 w3 st3 L3 h8 h9 ?_ (((ActSame.refl a).put hdo).trans h11)) (skip_conc h2 o.dst) h1)
   rw [put_tab,e1] at h10
   exact h10
theorem Fz.below (hy:∀ id o g,tab.get id=some o → vblk (L id)=some g → g<w.heap.size) (hb:Below w.heap.size w w'):Fz w tab L w' tab L:=⟨hb.size,fun k hk _=>hb.block k hk,fun id o g h1 h2 _=>⟨id,o,h1,h2⟩⟩
def zCode (t:Nat):Code → Bool
 | .skip=>true
 | .region _ ops _=>ops.toList.all fun o=>fOp o && !(o.dst == some t)
 | .seq x y=>zCode t x && zCode t y
 | .cond _ x y=>zCode t x && zCode t y
 | .block _ x=>zCode t x
 | .loop x=>zCode t x
 | .exit _=>true
 | .ret=>true
 | .label _=>true
 | .scope x=>zCode t x
 | _=>false
abbrev AfterZ (cx:Cx) (a:Act) (w:World) (tab:ATab) (L:Nat → Value) (t:Nat) (Q:Exit → ASt → Prop):Exit → Act → World → Prop:=fun e a' w'=>∃ st' L',Q e st' ∧ Conc cx a' w' st' L' ∧ Fz w tab L w' st'.tab L' ∧ ActSame (fun k=>k=t) a a'
theorem code_okZ (hm:P.follows .mixedOrders=true) (t:Nat):∀ (c:Code),zCode t c=true → ∀ (Q:Exit → ASt → Prop) (a:Act) (w:World) (st:ASt) (L:Nat → Value),Conc cx a w st L → aCode P c Q st → c.wp P (AfterZ cx a w st.tab L t Q) a w:=by
 intro c
 induction c with
 | skip=>exact fun _ Q a w st L h hp=>wp_skip ⟨st,L,hp,h,Fz.refl,.refl a⟩
 | region id ops draw=>
  intro hf Q a w st L h hp
  unfold aCode aReg at hp
  simp only [zCode,List.all_eq_true,Bool.and_eq_true] at hf
  have hf:∀ o ∈ ops.toList,fOp o=true ∧ ∀ k,k=t → o.dst ≠ some k:=fun o ho=>⟨(hf o ho).1,fun k hk=>by subst hk;simpa using (hf o ho).2⟩
  have hT:∀ (i:Nat) (o:Oper),ops[i]? = some o → ∀ k,k=t → o.dst ≠ some k:=fun i o ho=>(hf o (Array.mem_toList_iff.2 (Array.mem_of_getElem? ho))).2
  have hyg:∀ id o g,st.tab.get id=some o → vblk (L id)=some g → g<w.heap.size:=fun id o g h1 h2=>((h.lay.objs id o h1).ge h2).2
  cases draw with
  | false=>exact wp_region_list (ops_okZ (T:=fun k=>k=t) _ a w st L hf (fun a' w' st' L' h1 h2 h3 h4=>⟨st',L',h1,h2,h3,h4⟩) h (by simpa using hp))
  | true=>
   simp only [if_true] at hp
   obtain ⟨l⟩:=ops
   rcases hp with ⟨hB,hp⟩|⟨n,hB,hp⟩|⟨ids,hd,s,hB,K',hK',hids,hp⟩
   ·exact wp_region_quiet (C:=fun w'=>Below w.heap.size w w') hm hB ((Below.refl _ _).drew) (dops_ok (L:=L) (T:=fun k=>k=t) (a0:=a) (tab0:=st.tab) (fun a' st' h1 h2 h3 h4 w' hw'=>⟨st',L,h1,conc_below h2 hw',by rw [h3];exact Fz.below hyg hw',h4⟩) _ _ _ (fun o ho=>(hf o ho).2) rfl (.refl a) h hp)
   ·have h':Conc cx a w.drew st L:=conc_below h ((Below.refl _ _).drew)
    have hz:Fz w st.tab L w.drew st.tab L:=Fz.below hyg ((Below.refl _ _).drew)
    exact wp_region_still_tail n hm hB (pops_ok (T:=fun k=>k=t) (a0:=a) (tab0:=st.tab) (fun a' st' h1 h2 h3 h4=>ops_okZ (T:=fun k=>k=t) _ a' w.drew st' L (fun o ho=>hf o (List.mem_of_mem_drop ho)) (fun a2 w2 st2 L2 h5 h6 h7 h8=>⟨st2,L2,h5,h6,hz.trans (by rw [← h3];exact h7),h4.trans h8⟩) h2 h1) _ _ _ (fun o ho=>(hf o (List.mem_of_mem_take ho)).2) rfl (.refl a) h' hp)
   ·simp only [Bool.and_eq_true] at hB
    have hB:=And.intro hB.1 (Nat.le_of_ble_eq_true hB.2)
    have h':Conc cx a w.drew st L:=conc_below h ((Below.refl _ _).drew)
    let G:Nat → Prop:=fun k=>∃ id ∈ ids,vblk (L id)=some k
    refine Code.wp_mono (Q:=noPanic (AfterZ cx a w st.tab L t Q)) (fun e a w hq=>?_) (wp_region_held (S:=fun w'=>KeepX w.drew.heap.size G w.drew w') hm ?_)
    ·cases e <;> first | exact hq | exact hq.elim
    ·refine heldH_ok (T:=st.tab) (Tz:=fun k=>k=t) (a0:=a) (nx:=st.next) (ids:=ids) hB.1.1 hT s ⟨Nat.le_refl _,fun _ _ _=>rfl⟩ (fun w' b hw' hb o u hu=>?_) (fun listed a' st' hA hT' hN hB' hK h2 fuel hf'=>?_) hd _ _ _ (.refl a) h' rfl rfl hB.1.2 hp _ hB.2
     ·have hlt:=World.block_lt_of_cell? w.drew _ hu
      refine (World.cell?_of_block (hw'.block b hlt fun ⟨id,hid,hbl⟩=>?_)).trans hu
      obtain ⟨ob,hob⟩:=Option.isSome_iff_exists.1 (hids id hid)
      rcases hb with hb|⟨id',o',hni,hget,hbl'⟩
      ·exact hb.2.2 id ob hob hbl
      ·exact hni (h.lay.sep id' id o' ob b hget hob hbl' hbl ▸ hid)
     ·refine held_ok (Q:=AfterZ cx a w st.tab L t Q) (T0:=st.tab) (T:=fun k=>k=t) (a0:=a) (L0:=L) hB.1.1 hT (fun a2 w2 st2 L2 h3 h4 h5 h6 h7 h8=>?_) s listed a' w.drew st' L h2 ⟨Nat.le_refl _,fun _ _ _=>rfl⟩ (fun id o g h3 h4 _=>by
       rw [hT'] at h4
       have:=(h.young id o h4).1
       omega) (fun id hid g hg=>⟨id,hid,hg⟩) (fun id hid=>by
       obtain ⟨ob,hob⟩:=Option.isSome_iff_exists.1 (hids id hid)
       rw [hN]
       exact (h.young id ob hob).1) ⟨fun _ _=>rfl,by rw [hN];exact Nat.le_refl _,fun id o _ hg=>⟨o,by rw [← hT'];exact hg⟩,fun id o g _ hni hg hbl=>?_⟩ hA hB' hK fuel hf'
      ·obtain ⟨st3,hw3,h9⟩:=hK' st2 h3
       obtain ⟨L3,h10,h11⟩:=weak_fz hw3 h4
       have hG:∀ k,G k → ∃ id o,st.tab.get id=some o ∧ vblk (L id)=some k:=fun k ⟨id,hid,hbl⟩=>(Option.isSome_iff_exists.1 (hids id hid)).elim fun ob hob=>⟨id,ob,hob,hbl⟩
       have hz:Fz w st.tab L w2 st2.tab L2:=by
        have hsz:w.drew.heap.size=w.heap.size:=rfl
        refine ⟨h5.size,fun k hk hn=>h5.block k hk fun hg=>?_,fun id o g h12 h13 h14=>?_⟩
        ·obtain ⟨id,ob,h12,h13⟩:=hG k hg
         exact hn id ob h12 h13
        ·rcases Nat.lt_or_ge id st.next with hlt | hge
         ·obtain ⟨o',ho'⟩:=h7.old id o hlt h12
          exact ⟨id,o',ho',by rw [← h7.loc id hlt];exact h13⟩
         ·rcases h6 id o g hge h12 h13 with h15 | h15
          ·have:w.heap.size≤g:=h15
           omega
          ·exact hG g h15
       exact ⟨st3,L3,h9,h10,hz.trans h11,h8⟩
      ·refine ⟨((h'.lay.objs id _ hg).ge hbl).2,fun ⟨id',hid',hbl'⟩=>hni ?_⟩
       obtain ⟨ob,hob⟩:=Option.isSome_iff_exists.1 (hids id' hid')
       exact h.lay.sep id id' _ ob g hg hob hbl hbl' ▸ hid'
 | seq x y ihx ihy=>
  intro hf Q a w st L h hp
  simp only [zCode,Bool.and_eq_true] at hf
  unfold aCode at hp
  refine wp_seq (Code.wp_mono (fun e a' w' ⟨st',L',h1,h2,h3,h4⟩=>?_) (ihx hf.1 _ a w st L h hp))
  cases e with
  | normal=>exact Code.wp_mono (fun e a2 w2 ⟨st2,L2,k1,k2,k3,k4⟩=>⟨st2,L2,k1,k2,h3.trans k3,h4.trans k4⟩) (ihy hf.2 Q a' w' st' L' h2 h1)
  | _=>exact ⟨st',L',h1,h2,h3,h4⟩
 | cond c x y ihx ihy=>
  intro hf Q a w st L h hp
  simp only [zCode,Bool.and_eq_true] at hf
  unfold aCode aCond at hp
  split at hp
  ·rename_i b hb
   have hv:=(eval_ok h c).1
   rw [hb] at hv
   have hv:=hv.c_inv
   cases b
   ·exact wp_cond_false hv (ihy hf.2 Q a w st L h hp)
   ·exact wp_cond_true hv (ihx hf.1 Q a w st L h hp)
  ·exact hp.elim
 | block id x ih=>
  intro hf Q a w st L h hp
  simp only [zCode] at hf
  unfold aCode at hp
  refine wp_block (Code.wp_mono (fun e a' w' ⟨st',L',h1,h2,h3⟩=>?_) (ih hf _ a w st L h hp))
  cases e with
  | exit id'=>
   simp only [aInBlock,Exit.inBlock] at h1 ⊢
   split
   ·rename_i e
    rw [if_pos e] at h1
    exact ⟨st',L',h1,h2,h3⟩
   ·rename_i e
    rw [if_neg e] at h1
    exact ⟨st',L',h1,h2,h3⟩
  | _=>exact ⟨st',L',h1,h2,h3⟩
 | loop x ih=>
  intro hf Q a0 w0 st0 L0 h hp
  simp only [zCode] at hf
  unfold aCode at hp
  obtain ⟨I,μ,⟨st1,hw1,hI⟩,hr⟩:=hp
  let p:Act → World → Nat → Prop:=fun a w n=>∃ st L,I st ∧ Conc cx a w st L ∧ (Fz w0 st0.tab L0 w st.tab L ∧ ActSame (fun k=>k=t) a0 a) ∧ μ st=n
  obtain ⟨L1,hL1,hz1⟩:=weak_fz hw1 h
  refine wp_loop (fun a w=>∃ n,p a w n) (fun a w=>least (p a w)) ⟨_,st1,L1,hI,hL1,⟨hz1,.refl a0⟩,rfl⟩ fun a w hpa=>?_
  obtain ⟨⟨st,L,h1,h2,⟨h3,h3a⟩,h4⟩,_⟩:=least_spec hpa
  refine Code.wp_mono (fun e a' w' ⟨st',L',h5,h6,h7,h8⟩=>?_) (ih hf _ a w st L h2 (hr st h1))
  cases e with
  | normal=>
   obtain ⟨st'',hw,hI'',hlt⟩:=h5
   obtain ⟨L1,hL1,hz1⟩:=weak_fz hw h6
   have hpn:p a' w' (μ st''):=⟨st'',L1,hI'',hL1,⟨(h3.trans h7).trans hz1,h3a.trans h8⟩,rfl⟩
   refine ⟨⟨_,hpn⟩,?_⟩
   have:=(least_spec ⟨_,hpn⟩).2 _ hpn
   show least (p a' w')<least (p a w)
   omega
  | _=>exact ⟨st',L',h5,h6,h3.trans h7,h3a.trans h8⟩
 | exit id=>exact fun _ Q a w st L h hp=>wp_exit ⟨st,L,hp,h,Fz.refl,.refl a⟩
 | ret=>exact fun _ Q a w st L h hp=>wp_ret ⟨st,L,hp,h,Fz.refl,.refl a⟩
 | label l=>exact fun _ Q a w st L h hp=>wp_label ⟨st,L,hp,h,Fz.refl,.refl a⟩
 | scope x ih=>
  intro hf Q a w st L h hp
  simp only [zCode] at hf
  unfold aCode at hp
  refine wp_scope_straight (Code.wp_mono (fun e a' w' ⟨st',L',h1,h2⟩=>?_) (ih hf _ a w st L h hp))
  cases e with
  | goto l=>exact h1
  | _=>exact ⟨st',L',h1,h2⟩
 | _=>exact fun hf=>(by cases hf)
end
end
section
open Go.RowKit
def liveEnv (st:ASt) (ts:List Nat):List (Nat × AV):=ts.map fun t=>(t,st.get t)
theorem aget_live (st:ASt) (t:Nat):∀ ts:List Nat,aget (liveEnv st ts) t=st.get t ∨ aget (liveEnv st ts) t=.any
 | []=>.inr rfl
 | k :: ts=>by
  show (if t=k then st.get k else aget (liveEnv st ts) t)=_ ∨ (if t=k then st.get k else aget (liveEnv st ts) t)=_
  split
  ·rename_i e
   subst e
   exact .inl rfl
  ·exact aget_live st t ts
theorem live_nil (st:ASt):liveEnv st []=[]:=rfl
theorem live_cons (st:ASt) (t:Nat) (ts:List Nat):liveEnv st (t :: ts)=(t,st.get t) :: liveEnv st ts:=rfl
def aBack (vs:Array Value) (n nx g:Nat) (K:AV → ASt → Prop) (st:ASt) (av:AV):Prop:=
 match st.tab.get g with
 | some (.ghost vs' env)=>vs'=vs ∧ K (av.shift nx) ⟨n,shiftEnv nx env,(g+nx,none) :: st.tab.shift nx,nx+st.next⟩
 | _=>False
def aRetI (P:Program) (rs:List ResultVar) (vs:Array Value) (n nx g:Nat) (K:AV → ASt → Prop):Exit → ASt → Prop
 | .normal,st=>aResL P st rs fun avs=>aBack vs n nx g K st (aOne avs)
 | .ret,st=>aResL P st rs fun avs=>aBack vs n nx g K st (aOne avs)
 | _,_=>False
section
variable {P:Program} {rs:List ResultVar} {vs:Array Value} {n nx g k i:Nat} {K:AV → ASt → Prop} {st:ASt} {o:AObj} {T:ATab}
theorem aRetI_n:aRetI P rs vs n nx g K .normal st=aResL P st rs fun avs=>aBack vs n nx g K st (aOne avs):=rfl
theorem aRetI_r:aRetI P rs vs n nx g K .ret st=aResL P st rs fun avs=>aBack vs n nx g K st (aOne avs):=rfl
theorem shiftT_nil:ATab.shift k []=[]:=rfl
theorem shiftT_some:ATab.shift k ((i,some o) :: T)=(i+k,some (o.shift k)) :: ATab.shift k T:=rfl
theorem shiftT_none:ATab.shift k ((i,none) :: T)=(i+k,none) :: ATab.shift k T:=rfl
end
theorem objLt_mono {n m:Nat} (hnm:n≤m):∀ {o:AObj},o.lt n → o.lt m
 | .box _ _,h=>ltL_iff.2 fun x hx=>AV.lt_mono hnm (ltL_iff.1 h x hx)
 | .row _ _ _,_=>trivial
 | .map _,_=>trivial
 | .nest _ _ _,h=>fun row hr=>ltL_iff.2 fun x hx=>AV.lt_mono hnm (ltL_iff.1 (h row hr) x hx)
 | .ghost _ _,h=>envLt_mono hnm h
theorem objLt_shift {n k:Nat}:∀ {o:AObj},o.lt n → (o.shift k).lt (k+n)
 | .box _ cells,h=>by
  show AV.ltL _ (AV.shiftL k cells)
  rw [shiftL_map]
  refine ltL_iff.2 fun x hx=>?_
  obtain ⟨y,hy,rfl⟩:=List.mem_map.1 hx
  exact lt_shift (ltL_iff.1 h y hy)
 | .row _ _ _,_=>trivial
 | .map _,_=>trivial
 | .nest _ _ rows,h=>by
  intro row hr
  obtain ⟨r,hr',rfl⟩:=List.mem_map.1 hr
  rw [shiftL_map]
  refine ltL_iff.2 fun x hx=>?_
  obtain ⟨y,hy,rfl⟩:=List.mem_map.1 hx
  exact lt_shift (ltL_iff.1 (h r hr') y hy)
 | .ghost _ _,h=>envLt_shift h
theorem shift_sz (k:Nat) (o:AObj):(o.shift k).sz=o.sz:=by cases o <;> simp [AObj.shift,AObj.sz,shiftL_map]
theorem envLt_live {cx:Cx} {a:Act} {w:World} {st:ASt} {L:Nat → Value} (h:Conc cx a w st L):∀ ts:List Nat,envLt st.next (liveEnv st ts)
 | []=>trivial
 | t :: ts=>⟨(h.env t).2,envLt_live h ts⟩
section
variable {P:Program} {cx:Cx} {a:Act} {w:World} {st:ASt} {L:Nat → Value}
theorem resL_okL (h:Conc cx a w st L):∀ (l:List ResultVar) (K:List AV → Prop),aResL P st l K →
  ∃ vs avs,K avs ∧ vs.length=avs.length ∧ AV.ltL st.next avs ∧ (∀ (j:Nat) (v:Value) (av:AV),vs[j]? = some v → avs[j]? = some av → RVx cx w st.tab L v av) ∧
   (l.mapM (resVar a.tmps):Sem (List Value)).run P w=.ok vs w
 | [],K,hp=>⟨[],[],hp,rfl,trivial,by simp,by simp⟩
 | .tmp t :: l,K,hp=>by
  obtain ⟨vs,avs,h1,h2,hl,h3,h4⟩:=resL_okL h l _ hp
  refine ⟨a.tmps.getD t undef :: vs,st.get t :: avs,h1,by simp [h2],⟨(h.env t).2,hl⟩,fun j v av h5 h6=>?_,?_⟩
  ·cases j with
   | zero=>
    cases h5
    cases h6
    exact (h.env t).1
   | succ j=>exact h3 j v av (by simpa using h5) (by simpa using h6)
  ·simp only [List.mapM_cons,resVar,Sem.run_bind,Sem.run_pure,Result.andThen_ok,h4]
 | .cell p ty :: l,K,hp=>by
  obtain ⟨u,au,h1,h2,h3,h4⟩:=(load_ok (nx:=st.next) h.lay (fun id o hid=>(h.young id o hid).2) (h.env p).1 hp).one
  obtain ⟨vs,avs,h5,h6,hl,h7,h8⟩:=resL_okL h l _ h1
  refine ⟨u :: vs,au :: avs,h5,by simp [h6],⟨h3,hl⟩,fun j v av h9 h10=>?_,?_⟩
  ·cases j with
   | zero=>
    cases h9
    cases h10
    exact h2
   | succ j=>exact h7 j v av (by simpa using h9) (by simpa using h10)
  ·have:=asAddr_of_load (h4 w (Below.refl _ _))
   simp only [List.mapM_cons,resVar]
   rw [Sem.run_bind,this]
   simp only [Sem.run_bind,Sem.run_pure,Result.andThen_ok,h8]
theorem res_okL {fn:Func} {K:AV → Prop} (h:Conc cx a w st L) (hp:aResL P st fn.results.toList fun avs=>K (aOne avs)):∃ v av,K av ∧ RVx cx w st.tab L v av ∧ av.lt st.next ∧ (results fn a.tmps).run P w=.ok v w:=by
 obtain ⟨vs,avs,h1,h2,hl,h3,h4⟩:=resL_okL h _ _ hp
 have hm:(results fn a.tmps).run P w=.ok (if h:vs.toArray.size=1 then vs.toArray[0] else .tuple vs.toArray) w:=by
  rw [results_eq,Sem.run_bind,Array.mapM_eq_mapM_toList]
  simp only [bind_pure_comp,Sem.run_map,h4]
  rfl
 refine ⟨_,aOne avs,h1,?_,?_,hm⟩
 ·clear hm h4 h1 hl
  match vs,avs,h2,h3 with
  | [v],[av],_,h3=>exact h3 0 v av rfl rfl
  | [],[],_,h3=>exact .tup _ _ rfl (by simp)
  | v :: v' :: vs,av :: av' :: avs,h2,h3=>
   simp only [aOne,List.size_toArray,List.length_cons]
   rw [dif_neg (by omega)]
   exact .tup _ _ (by simpa using h2) fun j x av h4 h5=>h3 j x av (by simpa using h4) h5
 ·clear hm h4 h1 h3 h2
  match avs,hl with
  | [av],hl=>exact hl.1
  | [],hl=>exact hl
  | av :: av' :: avs,hl=>exact hl
end
def SCZ (P:Program) (c:Code) (t:Nat) (Q:Exit → ASt → Prop) (st:ASt):Prop:=∀ (cx:Cx) (a:Act) (w:World) (L:Nat → Value),Conc cx a w st L → c.wp P (AfterZ cx a w st.tab L t Q) a w
theorem scz_of {P:Program} (hm:P.follows .mixedOrders=true) {c:Code} {t:Nat} (hz:zCode t c=true) {Q:Exit → ASt → Prop} {st:ASt} (h:aCode P c Q st):SCZ P c t Q st:=fun cx a w L hc=>code_okZ hm t c hz Q a w st L hc h
theorem inl_of_scz {P : Program} {f : FuncId} {fn : Func} {c : Code} (hf : P.funcs[f]? = some fn) (hb : fn.body = some c) (hname : (fn.name == "runtime.NumGoroutine") = false) {st : ASt} {avs : List AV} {K : AV → ASt → Prop} {n : Nat} (hnt : fn.ntmps = n) {rs : List ResultVar} (hrs : fn.results = rs.toArray)
  (hn:Nat.ble avs.length n=true) (g:Nat) (ts:List Nat)
  (h:∀ vs:Array Value,SCZ P c n (aRetI P rs vs st.n st.next g K) ⟨n,envOf 0 avs,(st.next,some (.ghost vs (liveEnv st ts))) :: st.tab,st.next+1⟩):aInl P st f avs K:=by
 have hn:=Nat.le_of_ble_eq_true hn
 subst hnt
 refine ⟨fun vs w=>?_,fun cx a w L vs dst hc hvn hv=>?_⟩
 ·have : ¬ fn.name = "runtime.NumGoroutine" := by simpa using hname
  simp [callFunc,Sem.run_bind,hf,this,hb]
 obtain ⟨tab2,ht2⟩:∃ tab2:ATab,tab2=(st.next,some (.ghost a.tmps (liveEnv st ts))) :: st.tab:=⟨_,rfl⟩
 have hget:∀ id,tab2.get id=if id=st.next then some (.ghost a.tmps (liveEnv st ts)) else st.tab.get id:=fun id=>by rw [ht2,ATab.get_cons]
 have hnone:∀ id o,st.next≤id → st.tab.get id=some o → False:=fun id o h1 h2=>by have:=(hc.young id o h2).1;omega
 have hold:∀ id,id<st.next → tab2.get id=st.tab.get id ∧ updL L st.next (.bool false) id=L id:=fun id hid=>⟨by rw [hget,if_neg (by omega)],by unfold updL;rw [if_neg (by omega)]⟩
 have hLG:updL L st.next (.bool false) st.next=.bool false:=by unfold updL;rw [if_pos rfl]
 have hge:∀ id o,st.next≤id → tab2.get id=some o → id=st.next ∧ o=.ghost a.tmps (liveEnv st ts):=fun id o h1 h2=>by
  rw [hget] at h2
  split at h2
  ·rename_i e
   cases h2
   exact ⟨e,rfl⟩
  ·exact (hnone id o h1 h2).elim
 have hnew:∀ id o b,st.next≤id → tab2.get id=some o → vblk (updL L st.next (.bool false) id)=some b → w.heap.size≤b:=fun id o b h1 h2 h3=>by
  obtain ⟨rfl,_⟩:=hge id o h1 h2
  rw [hLG] at h3
  cases h3
 have hext:=ext_merge (cx:=cx) (Below.refl w.heap.size w) hold (fun id o hid=>(hc.young id o hid).1) hnew
 have hlay:Lay cx w tab2 (updL L st.next (.bool false)):=lay_merge hc.lay hc.young (Below.refl _ _) hold (fun id o h1 h2=>by
   obtain ⟨rfl,rfl⟩:=hge id o h1 h2
   refine ⟨hLG,fun t ht=>?_⟩
   rcases aget_live st t ts with e|e
   ·rw [e]
    exact hext.rv (hc.env t).1 (hc.env t).2
   ·rw [e]
    exact .tree (.any _)) hnew fun id id' o o' b h1 h2 h3 h4 _ _=>by rw [(hge id o h1 h3).1,(hge id' o' h2 h4).1]
 have hyoung:∀ id o,tab2.get id=some o → id<st.next+1 ∧ o.lt (st.next+1):=fun id o hid=>by
  rcases Nat.lt_or_ge id st.next with hlt|hge'
  ·rw [(hold id hlt).1] at hid
   have:=hc.young id o hid
   exact ⟨by omega,objLt_mono (Nat.le_succ _) this.2⟩
  ·obtain ⟨rfl,rfl⟩:=hge id o hge' hid
   exact ⟨Nat.lt_succ_self _,envLt_mono (Nat.le_succ _) (envLt_live hc ts)⟩
 have hC:Conc cx { tmps:=vs ++ Array.replicate (fn.ntmps - vs.size) undef,defers:=[] } w ⟨fn.ntmps,envOf 0 avs,tab2,st.next+1⟩ (updL L st.next (.bool false)):=by
  refine ⟨hlay,?_,Marks.nil _ _ _,hyoung,fun t=>?_⟩
  ·simp
   omega
  have e:(⟨fn.ntmps,envOf 0 avs,tab2,st.next+1⟩:ASt).get t=avs.getD t .any:=by
   show (if t<fn.ntmps then aget (envOf 0 avs) t else .any)=_
   rw [aget_envOf]
   split
   ·simp
   ·simp [List.getD,List.getElem?_eq_none (show avs.length≤t by omega)]
  rw [e]
  by_cases ht:t<avs.length
  ·have ht':t<vs.size:=by omega
   have e2:(vs ++ Array.replicate (fn.ntmps - vs.size) undef).getD t undef=vs[t]:=by
    rw [Array.getD_eq_getD_getElem?,Array.getElem?_append_left ht',Array.getElem?_eq_getElem ht']
    rfl
   have e3:avs.getD t .any=avs[t]:=by simp [List.getD,ht]
   rw [e2,e3]
   have:=hv t _ _ (Array.getElem?_eq_getElem ht') (List.getElem?_eq_getElem ht)
   exact ⟨hext.rv this.1 this.2,AV.lt_mono (Nat.le_succ _) this.2⟩
  ·have e3:avs.getD t .any=.any:=by simp [List.getD,List.getElem?_eq_none (Nat.le_of_not_lt ht)]
   rw [e3]
   exact ⟨.tree (.any _),trivial⟩
 have hcode:=h a.tmps
 rw [← ht2] at hcode
 refine calls_of_wp hf hb (Code.wp_mono (fun ex a' w' ⟨st',L',h1,h2,h3,hA⟩=>?_) (hcode cx _ w _ hC))
 have hown2:∀ b,(∀ id o,st.tab.get id=some o → vblk (L id) ≠ some b) → ∀ id o,tab2.get id=some o → vblk (updL L st.next (.bool false) id) ≠ some b:=fun b hb id o hid hg=>by
  rcases Nat.lt_or_ge id st.next with hlt|hge'
  ·rw [(hold id hlt).1] at hid
   rw [(hold id hlt).2] at hg
   exact hb id o hid hg
  ·obtain ⟨rfl,_⟩:=hge id o hge' hid
   rw [hLG] at hg
   cases hg
 have hback:∀ id o b,tab2.get id=some o → vblk (updL L st.next (.bool false) id)=some b → ∃ id2 o2,st.tab.get id2=some o2 ∧ vblk (L id2)=some b:=fun id o b hid hg=>by
  rcases Nat.lt_or_ge id st.next with hlt|hge'
  ·rw [(hold id hlt).1] at hid
   rw [(hold id hlt).2] at hg
   exact ⟨id,o,hid,hg⟩
  ·obtain ⟨rfl,_⟩:=hge id o hge' hid
   rw [hLG] at hg
   cases hg
 have key:(aResL P st' rs fun avs=>aBack a.tmps st.n st.next g K st' (aOne avs)) → a'.defers=[] ∧ ∃ u,(results fn a'.tmps).run P w'=.ok u w' ∧ ∃ v av st'' L'',Ending.returned u=.returned v ∧ K av st'' ∧ Conc cx (a.put dst v) w' (st''.put dst av) L'' ∧ Fr cx w st.tab L st.next w' st''.tab L'' st''.next:=fun h1=>by
  obtain ⟨v,av,hbk,hrv,hlv,hrun⟩:=res_okL (K:=fun av=>aBack a.tmps st.n st.next g K st' av) (fn:=fn) h2 (by rw [hrs];exact h1)
  refine ⟨hA.defers,v,hrun,?_⟩
  unfold aBack at hbk
  split at hbk
  case h_2=>exact hbk.elim
  rename_i vs' env hg
  obtain ⟨rfl,hK⟩:=hbk
  obtain ⟨_,hgh⟩:=h2.lay.objs g _ hg
  have hghl:=(h2.young g _ hg).2
  obtain ⟨tab3,ht3⟩:∃ tab3:ATab,tab3=(g+st.next,none) :: st'.tab.shift st.next:=⟨_,rfl⟩
  rw [← ht3] at hK
  have hsh:∀ id,(ATab.shift st.next st'.tab).get id=if id<st.next then none else (st'.tab.get (id - st.next)).map (AObj.shift st.next):=fun id=>by
   have:=shift_get (tab:=[]) (k:=st.next) (fun id o h=>by cases h) st'.tab id
   rw [List.append_nil] at this
   exact this
  have hget3:∀ id o,tab3.get id=some o → st.next≤id ∧ ∃ o',st'.tab.get (id - st.next)=some o' ∧ o=o'.shift st.next:=fun id o hid=>by
   rw [ht3,ATab.get_cons] at hid
   split at hid
   ·cases hid
   ·rw [hsh] at hid
    split at hid
    ·cases hid
    ·rename_i hlt
     cases ho:st'.tab.get (id - st.next) with
     | none=>rw [ho] at hid;cases hid
     | some o'=>
      rw [ho] at hid
      cases hid
      exact ⟨by omega,o',rfl,rfl⟩
  have hS3:∀ b,Sx cx w' st'.tab L' b → Sx cx w' tab3 (fun id=>L' (id - st.next)) b:=fun b hb=>⟨hb.1,hb.2.1,fun id o hid hg=>by
   obtain ⟨_,o',h4,_⟩:=hget3 id o hid
   exact hb.2.2 _ o' h4 hg⟩
  have hK3:∀ id p,Kx tab3 (fun id=>L' (id - st.next)) (id+st.next)=some p → Kx st'.tab L' id=some p:=fun id p hk=>by
   unfold Kx at *
   cases ho:tab3.get (id+st.next) with
   | none=>rw [ho] at hk;cases hk
   | some o=>
    obtain ⟨_,o',h4,h5⟩:=hget3 _ o ho
    rw [Nat.add_sub_cancel] at h4
    rw [ho] at hk
    rw [h4]
    simp only [Option.map_some,Nat.add_sub_cancel,h5,shift_sz] at hk ⊢
    exact hk
  have hrv3:∀ {x av},RVx cx w' st'.tab L' x av → RVx cx w' tab3 (fun id=>L' (id - st.next)) x (av.shift st.next):=fun hr=>hr.conv (.inl hS3) hK3
  have hlay3:Lay cx w' tab3 (fun id=>L' (id - st.next)):=by
   refine ⟨h2.lay.below,fun id o hid=>?_,fun id id' o o' b h4 h5 h6 h7=>?_,fun b hb=>⟨(h2.lay.ex b hb).1,fun id o hid=>?_⟩⟩
   ·obtain ⟨_,o',h4,rfl⟩:=hget3 id o hid
    have hob:=h2.lay.objs _ o' h4
    cases o' with
    | box t cells=>
     obtain ⟨g',cs,h5,h6,h7,h8,h9⟩:=hob
     refine ⟨g',cs,h5,h6,h7,by simpa [shiftL_map] using h8,fun j x av h10 h11=>?_⟩
     rw [shiftL_map,List.getElem?_map] at h11
     cases hj:cells[j]? with
     | none=>simp [hj] at h11
     | some av'=>
      simp [hj] at h11
      subst h11
      exact ⟨hrv3 (h9 j x av' h10 hj).1,(h9 j x av' h10 hj).2⟩
    | row e sz rows=>
     obtain ⟨h5,xs,h6,h7,h8⟩:=hob
     refine ⟨h5,xs,h6,h7,fun i j row av h9 h10=>?_⟩
     obtain ⟨x,hx,hrt⟩:=h8 i j row av h9 h10
     exact ⟨x,hx,hrt.mono (fun _ _=>rfl) hS3⟩
    | map ents=>exact hob
    | nest e sz rows=>
     obtain ⟨h5,xs,h6,h7,h8⟩:=hob
     refine ⟨fun row hr=>?_,xs,by rw [List.length_map];exact h6,h7,fun i j row av h9 h10=>?_⟩
     ·obtain ⟨r,hr',rfl⟩:=List.mem_map.1 hr
      rw [shiftL_map,List.length_map]
      exact h5 r hr'
     ·rw [List.getElem?_map] at h9
      cases hi:rows[i]? with
      | none=>simp [hi] at h9
      | some row'=>
       simp [hi] at h9
       subst h9
       rw [shiftL_map,List.getElem?_map] at h10
       cases hj:row'[j]? with
       | none=>simp [hj] at h10
       | some av'=>
        simp [hj] at h10
        subst h10
        obtain ⟨x,hx,hr⟩:=h8 i j row' av' hi hj
        exact ⟨x,hx,hrv3 hr⟩
    | ghost vs2 env2=>
     refine ⟨hob.1,fun t ht=>?_⟩
     rw [shiftEnv_get]
     exact hrv3 (hob.2 t ht)
   ·obtain ⟨k1,o1,h8,_⟩:=hget3 id o h4
    obtain ⟨k2,o2,h9,_⟩:=hget3 id' o' h5
    have:=h2.lay.sep _ _ o1 o2 b h8 h9 h6 h7
    omega
   ·obtain ⟨_,o',h4,_⟩:=hget3 id o hid
    exact (h2.lay.ex b hb).2 _ o' h4
  have hblk:∀ b,Sx cx w st.tab L b → w'.heap[b]? = w.heap[b]?:=fun b hb=>h3.keep b hb.1 (hown2 b hb.2.2)
  have hsub:∀ b,Sx cx w st.tab L b → Sx cx w' tab3 (fun id=>L' (id - st.next)) b:=fun b hb=>⟨Nat.lt_of_lt_of_le hb.1 h3.size,hb.2.1,fun id o hid hg=>by
   obtain ⟨_,o',h4,_⟩:=hget3 id o hid
   obtain ⟨id2,o2,h5,h6⟩:=h3.young _ o' b h4 hg hb.1
   exact hown2 b hb.2.2 id2 o2 h5 h6⟩
  have hC3:Conc cx a w' ⟨st.n,shiftEnv st.next env,tab3,st.next+st'.next⟩ (fun id=>L' (id - st.next)):=by
   refine ⟨hlay3,hc.size,hc.defers.mono hblk hsub,fun id o hid=>?_,fun t=>?_⟩
   ·obtain ⟨h4,o',h5,rfl⟩:=hget3 id o hid
    have:=h2.young _ o' h5
    refine ⟨?_,objLt_shift this.2⟩
    show id<st.next+st'.next
    omega
   ·show RVx cx w' tab3 _ _ (if t<st.n then aget (shiftEnv st.next env) t else .any) ∧ AV.lt _ (if t<st.n then aget (shiftEnv st.next env) t else .any)
    split
    ·rename_i htn
     rw [shiftEnv_get]
     exact ⟨hrv3 (hgh t (by rw [hc.size];exact htn)),lt_shift (envLt_aget hghl t)⟩
    ·exact ⟨.tree (.any _),trivial⟩
  refine ⟨v,_,_,_,rfl,hK,conc_pure hC3 (hrv3 hrv) (lt_shift hlv) dst,⟨⟨hblk,hsub,fun id p hid hk=>?_⟩,h3.size,fun k hk hn=>h3.keep k hk (hown2 k hn),fun id o b h4 h5 h6=>?_,Nat.le_add_right _ _⟩⟩
  ·unfold Kx at hk
   cases ho:tab3.get id with
   | none=>rw [ho] at hk;cases hk
   | some o=>
    have:=(hget3 id o ho).1
    omega
  ·obtain ⟨_,o',h7,_⟩:=hget3 id o h4
   obtain ⟨id2,o2,h8,h9⟩:=h3.young _ o' b h7 h5 h6
   exact hback id2 o2 b h8 h9
 cases ex with
 | normal=>exact key h1
 | ret=>exact key h1
 | _=>exact h1.elim
theorem inl_of_code {P : Program} (hm : P.follows .mixedOrders = true) {f : FuncId} {fn : Func} {c : Code} (hf : P.funcs[f]? = some fn) (hb : fn.body = some c) (hname : (fn.name == "runtime.NumGoroutine") = false) {st : ASt} {avs : List AV} {K : AV → ASt → Prop} {n : Nat} (hnt : fn.ntmps = n) {rs : List ResultVar} (hrs : fn.results = rs.toArray)
  (hn:Nat.ble avs.length n=true) (hz:zCode n c=true) (g:Nat) (ts:List Nat)
  (h:∀ vs:Array Value,aCode P c (aRetI P rs vs st.n st.next g K) ⟨n,envOf 0 avs,(st.next,some (.ghost vs (liveEnv st ts))) :: st.tab,st.next+1⟩):aInl P st f avs K:=
 inl_of_scz hf hb hname hnt hrs hn g ts fun vs=>scz_of hm hz (h vs)
theorem inl_of_code0 {P : Program} (hm : P.follows .mixedOrders = true) {f : FuncId} {fn : Func} {c : Code} (hf : P.funcs[f]? = some fn) (hb : fn.body = some c) (hname : (fn.name == "runtime.NumGoroutine") = false) {st : ASt} {avs : List AV} {K : AV → ASt → Prop} {n : Nat} (hnt : fn.ntmps = n) {rs : List ResultVar} (hrs : fn.results = rs.toArray)
  (hn:Nat.ble avs.length n=true) (hz:zCode n c=true) (ts:List Nat)
  (h:∀ vs:Array Value,aCode P c (aRetI P rs vs st.n st.next st.next K) ⟨n,envOf 0 avs,(st.next,some (.ghost vs (liveEnv st ts))) :: st.tab,st.next+1⟩):aInl P st f avs K:=
 inl_of_code hm hf hb hname hnt hrs hn hz st.next ts h
theorem fz_of {cx:Cx} {a:Act} {w:World} {st st':ASt} {L L':Nat → Value} (h1:Conc cx a w st' L') (h2:∀ b,Sx cx w st.tab L b → Sx cx w st'.tab L' b):Fz w st.tab L w st'.tab L':=by
 refine ⟨Nat.le_refl _,fun _ _ _=>rfl,fun id o g h3 h4 h5=>?_⟩
 refine Classical.byContradiction fun hno=>?_
 have hS:Sx cx w st.tab L g:=⟨h5,⟨.inr ((h1.lay.objs id o h3).ge h4).1,fun hX=>(h1.lay.ex g hX).2 id o h3 h4⟩,fun id2 o2 h6 h7=>hno ⟨id2,o2,h6,h7⟩⟩
 exact (h2 g hS).2.2 id o h3 h4
theorem amth_of_code {P : Program} (hm : P.follows .mixedOrders = true) {f : FuncId} {fn : Func} {c : Code} (hf : P.funcs[f]? = some fn) (hb : fn.body = some c) (hname : (fn.name == "runtime.NumGoroutine") = false) {n : Nat} (hnt : fn.ntmps = n) {rs : List ResultVar} (hrs : fn.results = rs.toArray)
  {t:TypeId} {cells:List AV} {objs:List AObj} {rest:List AV} {Post:AV → List AV → List AObj → Prop} (hn:Nat.ble (rest.length+1) n=true) (hz:zCode 0 c=true) (hlt:AV.ltL (objs.length+1) cells) (hpl:∀ o ∈ objs,plainO o)
  (h:aCode P c (aRetH P rs t cells.length Post) ⟨n,envOf 0 (.op 0 0 0 :: rest),tabN 0 (.box t cells :: objs),objs.length+1⟩):AMth P f t cells objs rest Post:=by
 have hn:=Nat.le_of_ble_eq_true hn
 subst hnt
 refine ⟨fun vs w=>?_,hlt,fun cx w L vs hlay hvn hv0 hvr=>?_⟩
 ·have : ¬ fn.name = "runtime.NumGoroutine" := by simpa using hname
  simp [callFunc,Sem.run_bind,hf,this,hb]
 obtain ⟨tab0,ht0⟩:∃ tab0,tab0=tabN 0 (AObj.box t cells :: objs):=⟨_,rfl⟩
 rw [← ht0] at hlay hvr h ⊢
 have hget0:tab0.get 0=some (.box t cells):=by rw [ht0,tabN_get];rfl
 obtain ⟨g,cs,hLb,_,hheap,_⟩:=hlay.objs 0 _ hget0
 have hvz:∃ x,vs[0]? = some x:=⟨_,Array.getElem?_eq_getElem (by omega)⟩
 obtain ⟨x0,hx0⟩:=hvz
 obtain rfl:=hv0 x0 hx0
 have hC:Conc cx { tmps:=vs ++ Array.replicate (fn.ntmps - vs.size) undef,defers:=[] } w ⟨fn.ntmps,envOf 0 (.op 0 0 0 :: rest),tab0,objs.length+1⟩ L:=by
  refine ⟨hlay,?_,Marks.nil _ _ _,fun id o ho=>?_,fun k=>?_⟩
  ·simp
   omega
  ·rw [ht0,tabN_get] at ho
   simp only [Nat.zero_le,if_true,Nat.sub_zero] at ho
   have hlen:=(List.getElem?_eq_some_iff.1 ho).1
   refine ⟨by simpa using hlen,?_⟩
   cases id with
   | zero=>
    simp at ho
    subst ho
    exact hlt
   | succ id=>exact plainO_lt (hpl o (List.mem_of_getElem? (by simpa using ho))) _
  have e:(⟨fn.ntmps,envOf 0 (.op 0 0 0 :: rest),tab0,objs.length+1⟩:ASt).get k=(AV.op 0 0 0 :: rest).getD k .any:=by
   show (if k<fn.ntmps then aget (envOf 0 (.op 0 0 0 :: rest)) k else .any)=_
   rw [aget_envOf]
   split
   ·simp
   ·simp [List.getD,List.getElem?_eq_none (show (AV.op 0 0 0 :: rest).length≤k by simp;omega)]
  rw [e]
  by_cases hlt':k<rest.length+1
  ·have ht':k<vs.size:=by omega
   have e2:(vs ++ Array.replicate (fn.ntmps - vs.size) undef).getD k undef=vs[k]:=by
    rw [Array.getD_eq_getD_getElem?,Array.getElem?_append_left ht',Array.getElem?_eq_getElem ht']
    rfl
   rw [e2]
   cases k with
   | zero=>
    have e3:vs[0]=L 0:=by
     have h0:vs[0]? = some vs[0]:=Array.getElem?_eq_getElem (by omega)
     exact Option.some.inj (h0.symm.trans hx0)
    rw [e3,hLb]
    exact ⟨.op _ 0 0 0 fun sz v' hk=>by
     simp [Kx,hget0,hLb] at hk
     rw [← hk.2]
     exact ⟨g,rfl,by simp⟩,Nat.succ_pos _⟩
   | succ k=>
    have hr:k<rest.length:=by omega
    have e4:(AV.op 0 0 0 :: rest).getD (k+1) .any=rest[k]:=by simp [List.getD,hr]
    rw [e4]
    have:=hvr k _ _ (Array.getElem?_eq_getElem ht') (List.getElem?_eq_getElem hr)
    exact ⟨.tree this,this.lt _⟩
  ·have e3:(AV.op 0 0 0 :: rest).getD k .any=.any:=by simp [List.getD,List.getElem?_eq_none (show (AV.op 0 0 0 :: rest).length≤k by simp;omega)]
   rw [e3]
   exact ⟨.tree (.any _),trivial⟩
 refine calls_of_wp hf hb (Code.wp_mono (fun ex a' w' ⟨st',L',h1,h2,h3,hA⟩=>?_) (code_okZ hm 0 c hz _ _ w _ _ hC h))
 have h50:a'.tmps.getD 0 undef=L 0:=by
  rw [hA.slots 0 rfl,Array.getD_eq_getD_getElem?,Array.getElem?_append_left (by omega),hx0]
  rfl
 have key:(aResL P st' rs fun avs=>∃ cells' objs',Post (aOne avs) cells' objs' ∧ roA (aOne avs) ∧ (cells'.length=cells.length ∧ AV.ltL (objs'.length+1) cells' ∧ ∀ o ∈ objs',plainO o) ∧ Weak st' ⟨st'.n,[(0,.op 0 0 0)],tabN 0 (.box t cells' :: objs'),objs'.length+1⟩) →
   a'.defers=[] ∧ ∃ u,(results fn a'.tmps).run P w'=.ok u w' ∧ ∃ v av cells' objs' L',Ending.returned u=.returned v ∧ Post av cells' objs' ∧ Lay cx w' (tabN 0 (.box t cells' :: objs')) L' ∧ RT w' (Sx cx w' (tabN 0 (.box t cells' :: objs')) L') v av ∧ L' 0=L 0 ∧ cells'.length=cells.length ∧
   AV.ltL (objs'.length+1) cells' ∧ (∀ o ∈ objs',plainO o) ∧ Fz w tab0 L w' (tabN 0 (.box t cells' :: objs')) L':=fun h1=>by
  obtain ⟨u,av,⟨cells',objs',hPost,hro,⟨hl1,hl2,hl3⟩,hw⟩,hrv,hrun⟩:=res_ok (K:=fun av=>∃ cells' objs',Post av cells' objs' ∧ roA av ∧ (cells'.length=cells.length ∧ AV.ltL (objs'.length+1) cells' ∧ ∀ o ∈ objs',plainO o) ∧ Weak st' ⟨st'.n,[(0,.op 0 0 0)],tabN 0 (.box t cells' :: objs'),objs'.length+1⟩) (fn:=fn) h2 (by rw [hrs];exact h1)
  obtain ⟨L2,hC2,hS2⟩:=hw _ _ _ _ h2
  refine ⟨hA.defers,u,hrun,u,av,cells',objs',L2,rfl,hPost,hC2.lay,(ro_of hrv hro).mono (fun _ _=>rfl) hS2,?_,hl1,hl2,hl3,h3.trans (fz_of hC2 hS2)⟩
  have hget2:(tabN 0 (AObj.box t cells' :: objs')).get 0=some (.box t cells'):=by rw [tabN_get];rfl
  obtain ⟨g2,cs2,hL2,_⟩:=hC2.lay.objs 0 _ hget2
  have hr:=(hC2.env 0).1
  have e5:(⟨st'.n,[(0,.op 0 0 0)],tabN 0 (.box t cells' :: objs'),objs'.length+1⟩:ASt).get 0=.op 0 0 0:=by
   have:0<st'.n:=by
    have h6:=h2.size
    refine Nat.pos_of_ne_zero fun h7=>?_
    have h8:a'.tmps = #[]:=Array.eq_empty_of_size_eq_zero (by omega)
    rw [h8,hLb] at h50
    cases h50
   simp [ASt.get,aget,this]
  rw [e5,h50] at hr
  obtain ⟨g3,hg3,he⟩:=hr.op_inv _ _ (kx_of hget2)
  rw [hL2] at hg3 ⊢
  cases hg3
  rw [he]
  simp
 cases ex with
 | normal=>exact key h1
 | ret=>exact key h1
 | _=>exact h1.elim
theorem ren_tree (l:List Nat):∀ {cs:List AV},treeL cs → AV.renL l cs=cs
 | [],_=>rfl
 | a :: cs,h=>by
  have h1:treeC a:=h.1
  have h2:=ren_tree l (cs:=cs) h.2
  show a.ren l :: AV.renL l cs=a :: cs
  rw [h2]
  cases a <;> first | rfl | exact (h1:False).elim
theorem ren_ro (l:List Nat) {a:AV} (h:roA a):a.ren l=a:=by
 cases a with
 | osl=>exact h.elim
 | op=>exact h.elim
 | tup=>exact h.elim
 | agg cs=>show AV.agg _=_;rw [ren_tree l h]
 | fn f cs=>show AV.fn f _=_;rw [ren_tree l h]
 | bfn f cs=>show AV.bfn f _=_;rw [ren_tree l h]
 | _=>rfl
theorem renL_ro (l:List Nat):∀ {cs:List AV},roL cs → AV.renL l cs=cs
 | [],_=>rfl
 | a :: cs,h=>by
  show a.ren l :: AV.renL l cs=a :: cs
  rw [ren_ro l h.1,renL_ro l h.2]
theorem AMth.toA {P:Program} {f:FuncId} {t:TypeId} {cells:List AV} {objs:List AObj} {rest:List AV} {Post:AV → List AV → List AObj → Prop} (h:AMth P f t cells objs rest Post) (hro:roL rest):AMthA P f t cells objs (.op 0 0 0 :: rest) Post:=
 ⟨h.1,h.2.1,fun cx w L vs hlay hn hv=>h.2.2 cx w L vs hlay (by simpa using hn) (fun x hx=>by
  have hget0:(tabN 0 (AObj.box t cells :: objs)).get 0=some (.box t cells):=by rw [tabN_get];rfl
  obtain ⟨g,h1,h2⟩:=(hv 0 x _ hx rfl).op_inv _ _ (kx_of hget0)
  obtain ⟨g',cs,h3,_⟩:=hlay.objs 0 _ hget0
  rw [h3] at h1 ⊢
  cases h1
  simpa using h2) (fun j x av hx hav=>ro_of (hv (j+1) x av hx (by simpa using hav)) (roL_iff.1 hro av (List.mem_of_getElem? hav)))⟩
theorem callMthA {u:Option (Nat × List Nat)} {P:Program} {st:ASt} {f:FuncId} {K:AV → ASt → Prop} {t:TypeId} {cells:List AV} {objs:List AObj} {args avs:List AV} {Post:AV → List AV → List AObj → Prop} {b:Nat} (ids:List Nat) (h:AMthA P f t cells objs args Post) (he:avs=AV.renL (b :: ids) args)
  (hb:st.tab.get b=some (.box t (AV.renL (b :: ids) cells))) (ho:objsAt st.tab ids objs) (hd:(b :: ids).Nodup) (hu:∀ p,u=some p → ∀ id ∈ b :: ids,aMay p.1 p.2 id)
  (hk:∀ av cells' objs',Post av cells' objs' → K av { st with tab:=aMethTab st b ids t cells' objs',next:=st.next+objs'.length }):aCall u P st f avs K:=
 .inr (.inr ⟨t,cells,objs,args,Post,b,ids,h,he,hb,ho,hd,hu,hk⟩)
theorem callMth {u:Option (Nat × List Nat)} {P:Program} {st:ASt} {f:FuncId} {K:AV → ASt → Prop} {t:TypeId} {cells:List AV} {objs:List AObj} {rest:List AV} {Post:AV → List AV → List AObj → Prop} {b:Nat} (ids:List Nat) (h:AMth P f t cells objs rest Post) (hro:roL rest)
  (hb:st.tab.get b=some (.box t (AV.renL (b :: ids) cells))) (ho:objsAt st.tab ids objs) (hd:(b :: ids).Nodup) (hu:∀ p,u=some p → ∀ id ∈ b :: ids,aMay p.1 p.2 id)
  (hk:∀ av cells' objs',Post av cells' objs' → K av { st with tab:=aMethTab st b ids t cells' objs',next:=st.next+objs'.length }):aCall u P st f (.op b 0 0 :: rest) K:=
 callMthA ids (h.toA hro) (by show _=AV.ren _ (.op 0 0 0) :: AV.renL _ rest;rw [renL_ro _ hro];rfl) hb ho hd hu hk
def PinA (av:AV):Prop:=∀ (w w':World) (S S':Nat → Prop) (K K':Nat → Option (Nat × Value)) (x v v':Value) (s s':Nat),RV w S K x av → RV w' S' K' x av → K 0=some (s,v) → K' 0=some (s',v') → vblk v=vblk v'
theorem pin_op (i j:Nat):PinA (.op 0 i j):=fun w w' S S' K K' x v v' s s' h h' hk hk'=>by
 obtain ⟨g,h1,h2⟩:=h.op_inv _ _ hk
 obtain ⟨g',h3,h4⟩:=h'.op_inv _ _ hk'
 rw [h2] at h4
 simp at h4
 rw [h1,h3,h4.1]
theorem bfn_one {w:World} {S:Nat → Prop} {K:Nat → Option (Nat × Value)} {x:Value} {f:FuncId} {a:AV} (h:RV w S K x (.bfn f [a])):∃ y,x=.func (.func f) #[y] #[] ∧ RV w S K y a:=by
 cases h with
 | tree h=>
  cases h with
  | bfn _ xs _ hn hr=>
   have h0:xs[0]? = some (xs[0]'(by simp at hn;omega)):=Array.getElem?_eq_getElem _
   refine ⟨xs[0]'(by simp at hn;omega),?_,.tree (hr 0 _ _ h0 rfl)⟩
   congr 1
   apply Array.ext (by simpa using hn)
   intro i h1 h2
   simp at h2
   subst h2
   rfl
 | bfn _ xs _ hn hr=>
  have h0:xs[0]? = some (xs[0]'(by simp at hn;omega)):=Array.getElem?_eq_getElem _
  refine ⟨xs[0]'(by simp at hn;omega),?_,hr 0 _ _ h0 rfl⟩
  congr 1
  apply Array.ext (by simpa using hn)
  intro i h1 h2
  simp at h2
  subst h2
  rfl
theorem pin_bfn (f:FuncId) (i j:Nat):PinA (.bfn f [.op 0 i j]):=fun w w' S S' K K' x v v' s s' h h' hk hk'=>by
 obtain ⟨y,rfl,h1⟩:=bfn_one h
 obtain ⟨y',h2,h3⟩:=bfn_one h'
 cases h2
 exact pin_op i j w w' S S' K K' y v v' s s' h1 h3 hk hk'
theorem amthA_of_code {P : Program} (hm : P.follows .mixedOrders = true) {f : FuncId} {fn : Func} {c : Code} (hf : P.funcs[f]? = some fn) (hb : fn.body = some c) (hname : (fn.name == "runtime.NumGoroutine") = false) {n : Nat} (hnt : fn.ntmps = n) {rs : List ResultVar} (hrs : fn.results = rs.toArray)
  {t:TypeId} {cells:List AV} {objs:List AObj} {args:List AV} {Post:AV → List AV → List AObj → Prop} (r:Nat) (av0:AV) (hr:args[r]? = some av0) (hpin:PinA av0) (hundef:∀ {cx:Cx} {w:World} {tab:ATab} {L:Nat → Value},RVx cx w tab L undef av0 → False) (hn:Nat.ble args.length n=true) (hz:zCode r c=true) (hlt:AV.ltL (objs.length+1) cells) (hla:AV.ltL (objs.length+1) args) (hpl:∀ o ∈ objs,plainO o)
  (h:aCode P c (aRetHA P rs t cells.length r av0 Post) ⟨n,envOf 0 args,tabN 0 (.box t cells :: objs),objs.length+1⟩):AMthA P f t cells objs args Post:=by
 have hn:=Nat.le_of_ble_eq_true hn
 subst hnt
 refine ⟨fun vs w=>?_,hlt,fun cx w L vs hlay hvn hv=>?_⟩
 ·have : ¬ fn.name = "runtime.NumGoroutine" := by simpa using hname
  simp [callFunc,Sem.run_bind,hf,this,hb]
 obtain ⟨tab0,ht0⟩:∃ tab0,tab0=tabN 0 (AObj.box t cells :: objs):=⟨_,rfl⟩
 rw [← ht0] at hlay hv h ⊢
 have hget0:tab0.get 0=some (.box t cells):=by rw [ht0,tabN_get];rfl
 obtain ⟨g,cs,hLb,_,hheap,_⟩:=hlay.objs 0 _ hget0
 have hC:Conc cx { tmps:=vs ++ Array.replicate (fn.ntmps - vs.size) undef,defers:=[] } w ⟨fn.ntmps,envOf 0 args,tab0,objs.length+1⟩ L:=by
  refine ⟨hlay,?_,Marks.nil _ _ _,fun id o ho=>?_,fun k=>?_⟩
  ·simp
   omega
  ·rw [ht0,tabN_get] at ho
   simp only [Nat.zero_le,if_true,Nat.sub_zero] at ho
   have hlen:=(List.getElem?_eq_some_iff.1 ho).1
   refine ⟨by simpa using hlen,?_⟩
   cases id with
   | zero=>
    simp at ho
    subst ho
    exact hlt
   | succ id=>exact plainO_lt (hpl o (List.mem_of_getElem? (by simpa using ho))) _
  have e:(⟨fn.ntmps,envOf 0 args,tab0,objs.length+1⟩:ASt).get k=args.getD k .any:=by
   show (if k<fn.ntmps then aget (envOf 0 args) k else .any)=_
   rw [aget_envOf]
   split
   ·simp
   ·simp [List.getD,List.getElem?_eq_none (show args.length≤k by omega)]
  rw [e]
  by_cases hlt':k<args.length
  ·have ht':k<vs.size:=by omega
   have e2:(vs ++ Array.replicate (fn.ntmps - vs.size) undef).getD k undef=vs[k]:=by
    rw [Array.getD_eq_getD_getElem?,Array.getElem?_append_left ht',Array.getElem?_eq_getElem ht']
    rfl
   rw [e2]
   have e4:args.getD k .any=args[k]:=by simp [List.getD,hlt']
   rw [e4]
   exact ⟨hv k _ _ (Array.getElem?_eq_getElem ht') (List.getElem?_eq_getElem hlt'),ltL_iff.1 hla _ (List.getElem_mem hlt')⟩
  ·have e3:args.getD k .any=.any:=by simp [List.getD,List.getElem?_eq_none (Nat.le_of_not_lt hlt')]
   rw [e3]
   exact ⟨.tree (.any _),trivial⟩
 have hrl:r<args.length:=(List.getElem?_eq_some_iff.1 hr).1
 have hrv:r<vs.size:=by omega
 have hx0:vs[r]? = some vs[r]:=Array.getElem?_eq_getElem hrv
 refine calls_of_wp hf hb (Code.wp_mono (fun ex a' w' ⟨st',L',h1,h2,h3,hA⟩=>?_) (code_okZ hm r c hz _ _ w _ _ hC h))
 have h50:a'.tmps.getD r undef=vs[r]:=by
  rw [hA.slots r rfl,Array.getD_eq_getD_getElem?,Array.getElem?_append_left hrv,hx0]
  rfl
 have key:(aResL P st' rs fun avs=>∃ cells' objs',Post (aOne avs) cells' objs' ∧ roA (aOne avs) ∧ (cells'.length=cells.length ∧ AV.ltL (objs'.length+1) cells' ∧ ∀ o ∈ objs',plainO o) ∧ Weak st' ⟨st'.n,[(r,av0)],tabN 0 (.box t cells' :: objs'),objs'.length+1⟩) →
   a'.defers=[] ∧ ∃ u,(results fn a'.tmps).run P w'=.ok u w' ∧ ∃ v av cells' objs' L',Ending.returned u=.returned v ∧ Post av cells' objs' ∧ Lay cx w' (tabN 0 (.box t cells' :: objs')) L' ∧ RT w' (Sx cx w' (tabN 0 (.box t cells' :: objs')) L') v av ∧ L' 0=L 0 ∧ cells'.length=cells.length ∧
   AV.ltL (objs'.length+1) cells' ∧ (∀ o ∈ objs',plainO o) ∧ Fz w tab0 L w' (tabN 0 (.box t cells' :: objs')) L':=fun h1=>by
  obtain ⟨u,av,⟨cells',objs',hPost,hro,⟨hl1,hl2,hl3⟩,hw⟩,hrv2,hrun⟩:=res_ok (K:=fun av=>∃ cells' objs',Post av cells' objs' ∧ roA av ∧ (cells'.length=cells.length ∧ AV.ltL (objs'.length+1) cells' ∧ ∀ o ∈ objs',plainO o) ∧ Weak st' ⟨st'.n,[(r,av0)],tabN 0 (.box t cells' :: objs'),objs'.length+1⟩) (fn:=fn) h2 (by rw [hrs];exact h1)
  obtain ⟨L2,hC2,hS2⟩:=hw _ _ _ _ h2
  refine ⟨hA.defers,u,hrun,u,av,cells',objs',L2,rfl,hPost,hC2.lay,(ro_of hrv2 hro).mono (fun _ _=>rfl) hS2,?_,hl1,hl2,hl3,h3.trans (fz_of hC2 hS2)⟩
  have hget2:(tabN 0 (AObj.box t cells' :: objs')).get 0=some (.box t cells'):=by rw [tabN_get];rfl
  obtain ⟨g2,cs2,hL2,_⟩:=hC2.lay.objs 0 _ hget2
  have hrr:=(hC2.env r).1
  have e5:(⟨st'.n,[(r,av0)],tabN 0 (.box t cells' :: objs'),objs'.length+1⟩:ASt).get r=av0:=by
   have:r<st'.n:=by
    have h6:=h2.size
    have h7:=hA.slots r rfl
    refine Classical.byContradiction fun h8=>?_
    have h9:a'.tmps.getD r undef=undef:=by simp [Array.getD,show ¬ r<a'.tmps.size by omega]
    have h10:=hv r _ _ hx0 hr
    rw [h50] at h9
    exact hundef (by rw [← h9];exact h10)
   simp [ASt.get,aget,this]
  rw [e5,h50] at hrr
  have hb2:=hpin _ _ _ _ _ _ _ _ _ _ _ (hv r _ _ hx0 hr) hrr (kx_of hget0) (kx_of hget2)
  rw [hLb,hL2] at hb2 ⊢
  cases hb2
  rfl
 cases ex with
 | normal=>exact key h1
 | ret=>exact key h1
 | _=>exact h1.elim
theorem callI {P:Program} {st:ASt} {f:FuncId} {avs:List AV} {K:AV → ASt → Prop} (h:aInl P st f avs K):aCall none P st f avs K:=.inr (.inl ⟨rfl,.inl (.inr (.inr h))⟩)
end
section
open Go.RowKit
abbrev eU (n:Int):AV:=.c (.int .u64 n)
def okU (n:Int):Prop:=0≤n ∧ n<18446744073709551616
theorem wrap_u64 (n:Int):IntKind.u64.wrap n=n % 18446744073709551616:=by simp [IntKind.wrap,IntKind.bits,IntKind.signed]
theorem wrap_uin {n:Int} (h:okU n):IntKind.u64.wrap n=n:=by
 unfold okU at h
 rw [wrap_u64]
 omega
def nextU (c:Int):Int:=IntKind.u64.wrap (IntKind.u64.wrap (c * 6364136223846793005)+1442695040888963407)
theorem nextU_ok (c:Int):okU (nextU c):=by
 unfold nextU okU
 rw [wrap_u64]
 omega
theorem next_A (c:Int):ADet Tryz.prog 17 [eU c] (val (.int .u64 (nextU c))):=by
 refine adet_of_code mixedT Tryz.func17 rfl (by decide) Tryz.ntmps17 Tryz.results17 rfl (val_ok _) ?_
 (repeat' (first|refine go ?_ | exact .intro | refine sp (fun _=>?_) fun _=>?_|(with_reducible refine aDraw_quiet (by kernel_rfl) ?_)))
 all_goals rfl
theorem q33:((33:Int)<0)=False:=by simp
theorem shr33 {c:Int} (h:okU c):c.fdiv (2 ^ min (Int.toNat 33) IntKind.u64.bits)=c / 8589934592:=by
 rw [Int.fdiv_eq_ediv_of_nonneg _ (by decide)]
 rfl
theorem pick_A (c n:Int) (hc:okU c) (hn:ok64 n):ADet Tryz.prog 46 [eU c,eI n] (val (.int .i64 (if n<1 then 0 else c / 8589934592 % n))):=by
 refine adet_of_code mixedT Tryz.func46 rfl (by decide) Tryz.ntmps46 Tryz.results46 rfl (val_ok _) ?_
 by_cases g:n<1
 ·have d1:decide (n<1)=true:=decide_eq_true g
  rw [if_pos g]
  (repeat' (first|refine ge d1 ?_ | exact .intro | refine sp (fun _=>?_) fun _=>?_|(with_reducible refine aDraw_quiet (by kernel_rfl) ?_)))
 ·have d1:decide (n<1)=false:=decide_eq_false g
  rw [if_neg g]
  have f1:=shr33 hc
  unfold ok64 at hn
  unfold okU at hc
  have f2:IntKind.u64.wrap n=n:=wrap_uin ⟨by omega,by omega⟩
  have f3:(n=0)=False:=by simp;omega
  have f4:(c / 8589934592).tmod n=c / 8589934592 % n:=Int.tmod_eq_emod_of_nonneg (by omega)
  have f5:IntKind.i64.wrap (c / 8589934592 % n)=c / 8589934592 % n:=by
   have h1:=Int.emod_nonneg (c / 8589934592) (show n ≠ 0 by omega)
   have h2:=Int.emod_lt_of_pos (c / 8589934592) (show 0<n by omega)
   exact wrap_in (by omega) (by omega)
  (repeat' (first|refine ge (kf d1 (kf @q33 (kf f1 (kf f2 (kf f3 (kf f4 f5)))))) ?_ | exact .intro | refine sp (fun _=>?_) fun _=>?_|(with_reducible refine aDraw_quiet (by kernel_rfl) ?_)))
end
section
open Go.RowKit
theorem one_arg1 {vs:Array Value} {a:AV} (hn:vs.size=[a].length):∃ x,vs = #[x]:=⟨vs[0]'(by simp at hn;omega),by
 apply Array.ext (by simpa using hn)
 intro i h1 h2
 simp at h2
 subst h2
 rfl⟩
theorem clone00_A:ADet Tryz.prog 83 [.c (.slice none 0 0)] (val (.slice none 0 0)):=
 adet_of_calls (enters_of Tryz.func83 rfl (by decide)) fun S w vs hS hn hv=>by
  obtain ⟨a,rfl⟩:=one_arg1 hn
  have h:=hv 0 a _ rfl rfl
  cases h
  exact (Tryz.slices_Clone_nil 0 0 w).mono (by rintro e w' ⟨rfl,rfl⟩;exact ⟨rfl,Below.refl _ _⟩)
theorem sort00_A:ADet Tryz.prog 86 [.c (.slice none 0 0)] (val (.tuple #[])):=
 adet_of_calls (enters_of Tryz.func86 rfl (by decide)) fun S w vs hS hn hv=>by
  obtain ⟨a,rfl⟩:=one_arg1 hn
  have h:=hv 0 a _ rfl rfl
  cases h
  exact sort0_any none 0 w
theorem compact00_A:ADet Tryz.prog 87 [.c (.slice none 0 0)] (val (.slice none 0 0)):=
 adet_of_calls (enters_of Tryz.func87 rfl (by decide)) fun S w vs hS hn hv=>by
  obtain ⟨a,rfl⟩:=one_arg1 hn
  have h:=hv 0 a _ rfl rfl
  cases h
  exact (Tryz.slices_Compact_int_empty none 0 w).mono (by rintro e w' ⟨rfl,rfl⟩;exact ⟨rfl,Below.refl _ _⟩)
theorem sorted0_A:ADet Tryz.prog 52 [.c (.slice none 0 0)] (val (.slice none 0 0)):=by
 refine adet_of_code mixedT Tryz.func52 rfl (by decide) Tryz.ntmps52 Tryz.results52 rfl (val_ok _) ?_
 (repeat' (first|refine go ?_ | exact .intro | refine sp (fun _=>?_) fun _=>?_|(with_reducible refine aDraw_quiet (by kernel_rfl) ?_)|((with_reducible first|apply callV (g:=83)|apply callD (g:=83));exact clone00_A)|((with_reducible first|apply callV (g:=86)|apply callD (g:=86));exact sort00_A)|((with_reducible first|apply callV (g:=87)|apply callD (g:=87));exact compact00_A)))
end
section
open Go.RowKit
def st0:St:=⟨[],0,0,[],[]⟩
abbrev v0:List AV:=[eI (-1),eI (-1),.c (.slice none 0 0)]
theorem sorted1_A:ARel Tryz.prog 52 [.sl 1 []] (fun R=>∃ A c,R=val (.slice A 0 c)):=
 ⟨enters_of Tryz.func52 rfl (by decide),fun S w vs h1 h2 h3=>by
  obtain ⟨a,rfl⟩:=one_arg1 h2
  refine (numSorted_any [] a w (by simp) (LI.of_rt (h3 0 a _ rfl rfl) h1)).mono fun e w' ⟨v',h4,h5,h6⟩=>?_
  rw [sortL_eq] at h5
  obtain ⟨A,c,hv',_⟩:=h5
  obtain rfl:v'=.slice A 0 c:=hv'
  exact ⟨_,fun _=>undef,val _,⟨A,c,rfl⟩,val_ok _,h4,⟨belowX h6,fun id o h=>(by cases h),fun id id' o o' g h=>(by cases h),fun b hb=>hb.elim⟩,.tree (.c _)⟩⟩
end
end
section
section
open Go.RowKit Go.Sort
theorem ownsRow_less {w:World} {base g cap n m:Nat} {e:TypeId} {xs:List Value} (h:w.ownsRow base e 1 (.slice (some ⟨g,0,none⟩) n cap) n xs) (hm:m≤n):w.ownsRow base e 1 (.slice (some ⟨g,0,none⟩) m cap) m (xs.take m):=by
 obtain ⟨hl,⟨he,_⟩|⟨g',cap',cur,hv,hb,hg,h1,h2,h3,h4⟩⟩:=h
 ·cases he
 ·cases hv
  refine ⟨by simp;omega,.inr ⟨g,cap,cur,rfl,hb,hg,by omega,h2,h3,?_⟩⟩
  rw [← h4,List.take_take]
  congr 1
  omega
theorem numSortedO_any (l:List Int) (v:Value) (w:World) (hl:l.length≤1000000) (hp:0<l.length) (h:LI w v l) :
  Calls Tryz.prog 52 #[v] w fun e w'=>∃ v',e=.returned v' ∧ w'.ownsRow w.heap.size 2 1 v' (sortL l).length ((sortL l).map (Value.int .i64)) ∧ Below w.heap.size w w':=by
 obtain ⟨i0,hi0,hz0,hz1,hz2⟩:=info_parts i64Info
 obtain ⟨b,o,c,rfl,hc,hb,hcell⟩:=h.some_ hp
 have h1:=Tryz.slices_Clone i0 (.int .i64 0) 1 8 hi0 hz0 hz1 hz2 rfl (by decide) Tryz.sizeOf2 b o l.length c (l.map (Value.int .i64)) w (by simp) (by unfold maxLen;omega) (by omega)
  (fun j u hj=>by
   rw [List.getElem?_map] at hj
   rcases Nat.lt_or_ge j l.length with hlt|hge
   ·rw [List.getElem?_eq_getElem hlt] at hj
    obtain rfl:Value.int .i64 l[j]=u:=by simpa using hj
    exact hcell j hlt
   ·rw [List.getElem?_eq_none hge] at hj;simp at hj)
  (fun u hu=>by obtain ⟨x,_,rfl⟩:=List.mem_map.1 hu;rfl)
 have H1:=hide h1
 clear h1
 unfold sortL
 have hSl:(l.mergeSort fun x y=>decide (x≤y)).length=l.length:=List.length_mergeSort ..
 generalize hSd:(l.mergeSort fun x y=>decide (x≤y))=S at *
 have HSd:=hide hSd
 have HSl:=hide hSl
 clear hSd hSl
 go_enter Tryz.func52,Tryz.ntmps52
 go_wp2_with fail
 refine H1.out.mono ?_
 rintro e w1 ⟨v',rfl,hown,hnn,hb1⟩
 obtain ⟨_,⟨_,hn0⟩|⟨g,cap,cur,rfl,hbase,hblk,hn,hcap,hcs,htake⟩⟩:=hown
 ·omega
 rw [Nat.mul_one] at htake
 have hg:g<w1.heap.size:=(Array.getElem?_eq_some_iff.1 hblk).1
 have hH:=holds_of_blockI hblk htake
 have h2:=Tryz.slices_Sort_int g 0 cap l w1 hH hg (by omega)
 rw [HSd.out] at h2
 have H2:=hide h2
 clear h2 H1 hH
 go_wp2_with fail
 refine H2.out.mono ?_
 rintro e w2 ⟨rfl,n,os,rfl⟩
 have hSl:=HSl.out
 have hown2:=ownsRow_sortedI (n:=n) (os:=os) (ts:=S) hSl hbase hblk hn hcap hcs
 have hgr2:=grownBy_sortedI (w:=w1) (g:=g) (n:=n) (os:=os) S.toArray
 generalize Go.Sort.grow (putRow (Value.int .i64) (Sort.ahead w1 n) g 0 S.toArray) os=w2 at *
 have hb2:Below w.heap.size w w2:=hb1.grown hgr2 hb1.size (fun j hj=>by cases hj;exact hbase)
 obtain ⟨_,⟨hx,_⟩|⟨g',cap',cur2,hv,_,hblk2,_,_,hcs2,htake2⟩⟩:=hown2
 ·cases hx
 cases hv
 rw [Nat.mul_one,← hSl] at htake2
 have hg2:g<w2.heap.size:=(Array.getElem?_eq_some_iff.1 hblk2).1
 have hH2:=holds_of_blockI hblk2 htake2
 have h3:=Tryz.slices_Compact_int g 0 cap S w2 hH2 (by omega) (by omega)
 rw [hSl] at h3
 have H3:=hide h3
 have hcl:=compact_len S
 clear h3 H2 hH2
 go_wp2_with fail
 refine H3.out.mono ?_
 rintro e w3 ⟨rfl,q,hw3⟩
 have hown3:=ownsRow_sortedI (n:=q) (os:=#[]) (ss:=S) (ts:=Lib.compact S ++ List.replicate (S.length - (Lib.compact S).length) 0) (by simp;omega) hbase hblk2 (by omega) hcap hcs2
 have hgr3:=grownBy_sortedI (w:=w2) (g:=g) (n:=q) (os:=#[]) (Lib.compact S ++ List.replicate (S.length - (Lib.compact S).length) 0).toArray
 rw [grow_empty] at hown3 hgr3
 rw [hSl] at hown3 hgr3
 rw [← hw3] at hown3 hgr3
 have hb3:Below w.heap.size w w3:=hb2.grown hgr3 hb2.size (fun j hj=>by cases hj;exact hbase)
 have hLI:w3.ownsRow w.heap.size 2 1 (.slice (some ⟨g,0,none⟩) (Lib.compact S).length cap) (Lib.compact S).length ((Lib.compact S).map (Value.int .i64)):=by
  have h7:=ownsRow_less hown3 (m:=(Lib.compact S).length) (by omega)
  rw [List.map_append,List.take_append_of_le_length (by simp),List.take_of_length_le (by simp)] at h7
  exact h7
 clear hw3 H3 hown3 hgr3 hblk hblk2 htake htake2
 go_wp2_with fail
 go_ret
 exact ⟨_,rfl,hLI,hb3⟩
theorem adet_of_nums {f:FuncId} {args:List AV} {t:TypeId} {l:List Int} (he:Enters Tryz.prog f)
  (h:∀ (S:Nat → Prop) (w:World) (vs:Array Value),SOk w S → vs.size=args.length → (∀ (j:Nat) (v:Value) (av:AV),vs[j]? = some v → args[j]? = some av → RT w S v av) → Calls Tryz.prog f vs w fun e w'=>∃ v',e=.returned v' ∧ w'.ownsRow w.heap.size t 1 v' l.length (l.map (Value.int .i64)) ∧ Below w.heap.size w w'):ADet Tryz.prog f args (own t 1 (l.map fun n=>[eI n])):=
 ⟨he,fun S w vs h1 h2 h3=>(h S w vs h1 h2 h3).mono fun e w' ⟨v,h4,h5,h6⟩=>by
  have hget:∀ id o,(own t 1 (l.map fun n=>[eI n])).tab.get id=some o → id=0 ∧ o=.row t 1 (l.map fun n=>[eI n]):=fun id o ho=>by
   simp only [own,ATab.get_cons] at ho
   split at ho
   ·cases ho
    exact ⟨by assumption,rfl⟩
   ·cases ho
  refine ⟨v,fun _=>v,_,rfl,own_ok ..,h4,⟨belowX h6,fun id o ho=>?_,fun id id' o o' g h7 h8 _ _=>?_,fun b hb=>hb.elim⟩,.osl _ _ fun sz u hk=>?_⟩
  ·obtain ⟨_,rfl⟩:=hget id o ho
   refine ⟨fun row hr=>?_,_,by rw [List.length_map];exact ownsR_of h5,fun x hx=>?_,fun i j row av ha hb=>?_⟩
   ·obtain ⟨n,_,rfl⟩:=List.mem_map.1 hr
    rfl
   ·obtain ⟨n,_,rfl⟩:=List.mem_map.1 hx
    rfl
   ·rw [List.getElem?_map] at ha
    cases hi:l[i]? with
    | none=>simp [hi] at ha
    | some n=>
     simp [hi] at ha
     subst ha
     cases j with
     | zero=>
      simp at hb
      subst hb
      exact ⟨.int .i64 n,by simp [hi],.c _⟩
     | succ j=>simp at hb
  ·rw [(hget id o h7).1,(hget id' o' h8).1]
  ·unfold Kx at hk
   cases ho:(own t 1 (l.map fun n=>[eI n])).tab.get 0 with
   | none=>simp [ho] at hk
   | some o=>simp [ho] at hk;exact hk.2⟩
theorem numSortedO_A (l:List Int) (hl:l.length≤1000000) (hne:l ≠ []):ADet Tryz.prog 52 [sI l] (own 2 1 ((sortR l).map fun n=>[eI n])):=
 adet_of_nums (enters_of Tryz.func52 rfl (by decide)) fun S w vs hS hn hv=>by
  obtain ⟨a,rfl⟩:=one_arg hn
  refine (numSortedO_any l a w hl (List.length_pos_iff.2 hne) (LI.of_rt (hv 0 a _ rfl rfl) hS)).mono fun e w' ⟨v',h1,h2,h3⟩=>?_
  rw [sortL_eq] at h2
  exact ⟨v',h1,h2,h3⟩
def noR (l:List Int):Res:=if l=[] then val (.slice none 0 0) else own 2 1 (l.map fun n=>[eI n])
theorem noR_ok (l:List Int):(noR l).Ok:=by
 unfold noR
 split
 ·exact val_ok _
 ·exact own_ok _ _ _
theorem sortR_ne {l:List Int} (h:l ≠ []):sortR l ≠ []:=fun h2=>by
 cases l with
 | nil=>exact h rfl
 | cons x l=>
  have:=((sortR_up (x :: l)).2 x).2 (List.mem_cons_self ..)
  rw [h2] at this
  cases this
theorem callNO {P:Program} {u:Option (Nat × List Nat)} {st:ASt} {g:FuncId} {args:List AV} {K:AV → ASt → Prop} {l:List Int} (h:ADet P g (args.map (dref st.tab)) (noR l))
  (h1:l=[] → K (.c (.slice none 0 0)) st) (h2:l ≠ [] → K (.osl st.next) ⟨st.n,st.env,(st.next,some (.row 2 1 (l.map fun n=>[eI n]))) :: st.tab,st.next+1⟩):aCall u P st g args K:=by
 unfold noR at h
 by_cases hl:l=[]
 ·rw [if_pos hl] at h
  exact callT h (.inr trivial) (h1 hl)
 ·rw [if_neg hl] at h
  exact callO h (.inr ints_plain) (h2 hl)
theorem noR_ne {l:List Int} (h:l ≠ []):noR l=own 2 1 (l.map fun n=>[eI n]):=if_neg h
theorem givesN {l:List Int} {st:ASt} (h:l=[]):aGives (noR l) st (.c (.slice none 0 0)):=by
 rw [show noR l=val (.slice none 0 0) from if_pos h]
 exact gives_tree rfl
def valsOf (l:List Inst):List (Int × Int):=l.flatMap fun x=>if isCmp x=true then [(x.la,x.ln),(x.ra,x.rn)] else []
def numsV (l:List (Int × Int)):List Int:=(l.filter fun p=>p.1 == -1).map (·.2)
theorem numsV_app (a b:List (Int × Int)):numsV (a ++ b)=numsV a ++ numsV b:=by simp [numsV]
theorem numsV_vals:∀ l:List Inst,numsV (valsOf l)=numsOf l
 | []=>rfl
 | x :: l=>by
  have ih:=numsV_vals l
  unfold valsOf numsOf at *
  rw [List.flatMap_cons,List.flatMap_cons,numsV_app,ih]
  congr 1
  unfold numsAt
  cases hc:isCmp x with
  | false=>rfl
  | true=>
   rw [if_pos rfl,if_pos rfl]
   by_cases h1:x.la = -1 <;> by_cases h2:x.ra = -1 <;> simp [numsV,h1,h2]
theorem valsOf_snoc (l:List Inst) {k:Nat} (h:k<l.length):valsOf (l.take (k+1))=valsOf (l.take k) ++ (if isCmp l[k]=true then [(l[k].la,l[k].ln),(l[k].ra,l[k].rn)] else []):=by
 unfold valsOf
 rw [List.take_succ_eq_append_getElem h,List.flatMap_append]
 simp
theorem valsOf_len (l:List Inst):(valsOf l).length≤2 * l.length:=by
 induction l with
 | nil=>simp [valsOf]
 | cons x l ih=>
  unfold valsOf at *
  rw [List.flatMap_cons,List.length_append,List.length_cons]
  have h2:(if isCmp x=true then [(x.la,x.ln),(x.ra,x.rn)] else []).length≤2:=by split <;> simp
  omega
theorem valsP_A (l:List Inst) (hl:l.length≤400):ADet Tryz.prog 101 [sInsts l] ⟨.sl 2 ((valsOf l).map eII),[],0⟩:=by
 refine ADet.still (R:=own 108 2 ((valsOf l).map eII)) [0] ?_ (by simp [own,Res.frzs,Res.frz,ATab.get_cons,AV.frz,AV.frzL,frzTab,AObj.frz]) (by simp [AV.lt,AV.ltL])
 refine adet_of_code mixedT Tryz.func101 rfl (by decide) Tryz.ntmps101 Tryz.results101 rfl (own_ok _ _ _) ?_
 (repeat' (first|refine go ?_ | exact .intro | refine sp (fun _=>?_) fun _=>?_))
 refine aLoop_of (fun st=>∃ k:Nat,k≤l.length ∧ st=⟨24,[(3,.osl 0),(6,sInsts l),(7,eI (l.length:Int)),(8,eI (k:Int))],[(0,some (.row 108 2 ((valsOf (l.take k)).map eII)))],1⟩) (fun st=>l.length - slotN st 8) ⟨_,((weak_nil 3 108 2 (by simp only [ruW,ASt.get,aget,ASt.put,↓reduceIte,reduceCtorEq,Nat.reduceLT,Nat.reduceEqDiff,Nat.reduceAdd,Nat.reduceLeDiff,eq_self,implies_true,List.take_zero,show valsOf []=[] from rfl,List.map_nil])).trans (wS [0] (kf @List.take_zero.{0} (show valsOf []=[] from rfl)))),0,Nat.zero_le _,rfl⟩ ?_
 rintro _ ⟨k,hk,rfl⟩
 have hvl:=valsOf_len (l.take k)
 have htl:(l.take k).length=k:=by simp;omega
 by_cases hlt:k<l.length
 ·have hC:=comparesP_A l[k].op
  have hsn:=valsOf_snoc l hlt
  cases hc:isCmp l[k] with
  | true=>
   have hc2:(decide (3≤l[k].op) && decide (l[k].op≤8))=true:=hc
   rw [hc2] at hC
   rw [hc,if_pos rfl] at hsn
   have et:(valsOf (l.take (k+1))).map eII=(valsOf (l.take k)).map eII ++ [[eI l[k].la,eI l[k].ln],[eI l[k].ra,eI l[k].rn]]:=by rw [hsn,List.map_append];rfl
   (repeat' (first|refine go ?_|simp only [row_at,hlt] | exact .intro | refine sp (fun _=>?_) fun _=>?_))
   refine callV hC ?_
   (repeat' (first|refine go ?_|simp only [row_at,hlt] | exact .intro | refine sp (fun _=>?_) fun _=>?_))
   exact ⟨rfl,by omega,rI (wS [3] et) ⟨k+1,by omega,rfl⟩⟩
  | false=>
   have hc2:(decide (3≤l[k].op) && decide (l[k].op≤8))=false:=hc
   rw [hc2] at hC
   rw [hc,if_neg (by simp),List.append_nil] at hsn
   (repeat' (first|refine go ?_|simp only [row_at,hlt] | exact .intro | refine sp (fun _=>?_) fun _=>?_))
   refine callV hC ?_
   (repeat' (first|refine go ?_|simp only [row_at,hlt] | exact .intro | refine sp (fun _=>?_) fun _=>?_))
   exact rI (wS [0] @hsn) ⟨k+1,by omega,rfl⟩
 ·obtain rfl:k=l.length:=by omega
  (repeat' (first|refine ge @hlt ?_ | exact .intro | refine sp (fun _=>?_) fun _=>?_))
  exact aGives_own (by simp [ATab.get_cons])
theorem numbersP_A (l:List Inst) (hl:l.length≤400):ADet Tryz.prog 73 [sInsts l] (noR (condN l)):=by
 refine adet_of_code mixedT Tryz.func73 rfl (by decide) Tryz.ntmps73 Tryz.results73 rfl (noR_ok _) ?_
 have hvl:=valsOf_len l
 (repeat' (first|refine go ?_ | exact .intro | refine sp (fun _=>?_) fun _=>?_))
 refine callT (valsP_A l hl) (.inl (by simp [roL,roA,treeL,treeC])) ?_
 obtain ⟨V,hV⟩:∃ V,V=valsOf l:=⟨_,rfl⟩
 have hcn:condN l=sortR (numsV V):=by rw [hV,numsV_vals];rfl
 rw [← hV] at hvl ⊢
 rw [hcn]
 clear hcn hV
 (repeat' (first|refine go ?_ | exact .intro | refine sp (fun _=>?_) fun _=>?_))
 have hnl:∀ k,(numsV (V.take k)).length≤V.length:=fun k=>by
  unfold numsV
  rw [List.length_map]
  refine Nat.le_trans (List.length_filter_le _ _) ?_
  rw [List.length_take]
  omega
 refine aLoop_of (fun st=>∃ k:Nat,k≤V.length ∧ ((numsV (V.take k)=[] ∧ st=⟨24,[(3,.c (.slice none 0 0)),(7,.sl 2 (V.map eII)),(8,eI (V.length:Int)),(9,eI (k:Int))],[],0⟩) ∨ (numsV (V.take k) ≠ [] ∧ st=⟨24,[(3,.osl 0),(7,.sl 2 (V.map eII)),(8,eI (V.length:Int)),(9,eI (k:Int))],[(0,some (.row 2 1 ((numsV (V.take k)).map fun n=>[eI n])))],1⟩))) (fun st=>V.length - slotN st 9) ⟨_,wC,0,Nat.zero_le _,.inl ⟨rfl,rfl⟩⟩ ?_
 rintro _ ⟨k,hk,hst⟩
 have hk2:=hnl k
 by_cases hlt:k<V.length
 ·obtain ⟨p,hp⟩:∃ p,V[k]=p:=⟨_,rfl⟩
  have hsn:numsV (V.take (k+1))=numsV (V.take k) ++ (if p.1 = -1 then [p.2] else []):=by
   rw [List.take_succ_eq_append_getElem hlt,numsV_app,hp]
   congr 1
   by_cases h:p.1 = -1 <;> simp [numsV,h]
  by_cases h1:p.1 = -1
  ·rw [if_pos h1] at hsn
   have d1:(p.1 == -1)=true:=by simp [h1]
   have et:(numsV (V.take (k+1))).map (fun n=>[eI n])=(numsV (V.take k)).map (fun n=>[eI n]) ++ [[eI p.2]]:=by rw [hsn,List.map_append];rfl
   have hne:numsV (V.take (k+1)) ≠ []:=by rw [hsn];simp
   rcases hst with ⟨h0,rfl⟩|⟨h0,rfl⟩
   ·rw [h0,List.nil_append] at hsn
    have et1:(numsV (V.take (k+1))).map (fun n=>[eI n])=[[eI p.2]]:=by rw [hsn];rfl
    (repeat' (first|refine go ?_|simp only [row_at,hlt,hp,d1] | exact .intro | refine sp (fun _=>?_) fun _=>?_))
    refine ⟨rfl,rI (wS [2] et1) ⟨k+1,by omega,.inr ⟨hne,rfl⟩⟩⟩
   ·(repeat' (first|refine go ?_|simp only [row_at,hlt,hp,d1] | exact .intro | refine sp (fun _=>?_) fun _=>?_))
    refine ⟨rfl,⟨by omega,by omega⟩,rI (wS [3] et) ⟨k+1,by omega,.inr ⟨hne,rfl⟩⟩⟩
  ·rw [if_neg h1,List.append_nil] at hsn
   have d1:(p.1 == -1)=false:=by simp [h1]
   rcases hst with ⟨h0,rfl⟩|⟨h0,rfl⟩
   ·(repeat' (first|refine go ?_|simp only [row_at,hlt,hp,d1] | exact .intro | refine sp (fun _=>?_) fun _=>?_))
    exact rI wC ⟨k+1,by omega,.inl ⟨by rw [hsn];exact h0,rfl⟩⟩
   ·(repeat' (first|refine go ?_|simp only [row_at,hlt,hp,d1] | exact .intro | refine sp (fun _=>?_) fun _=>?_))
    exact rI (wS [0] @hsn) ⟨k+1,by omega,.inr ⟨by rw [hsn];exact h0,rfl⟩⟩
 ·obtain rfl:k=V.length:=by omega
  rw [List.take_length] at hst hk2
  rcases hst with ⟨h0,rfl⟩|⟨h0,rfl⟩
  ·rw [h0]
   (repeat' (first|refine ge @hlt ?_ | exact .intro | refine sp (fun _=>?_) fun _=>?_))
   refine callV sorted0_A ?_
   (repeat' (first|refine go ?_ | exact .intro | refine sp (fun _=>?_) fun _=>?_))
   exact givesN rfl
  ·have hS:=numSortedO_A (numsV V) (by omega) h0
   (repeat' (first|refine ge @hlt ?_ | exact .intro | refine sp (fun _=>?_) fun _=>?_))
   refine callO hS (.inr ints_plain) ?_
   (repeat' (first|refine go ?_ | exact .intro | refine sp (fun _=>?_) fun _=>?_))
   rw [noR_ne (sortR_ne h0)]
   exact aGives_own (by simp [ATab.get_cons])
theorem constsP_A (m:Mod) (hf:Fit m):ADet Tryz.prog 43 [.agg (eMod m),.c (.slice none 0 0)] (noR (constsM m [])):=by
 refine adet_of_code mixedT Tryz.func43 rfl (by decide) Tryz.ntmps43 Tryz.results43 rfl (noR_ok _) ?_
 obtain ⟨hg,hm,-⟩:=id hf.sizes
 obtain ⟨f,hff⟩:∃ f,f=fun g:Gd=>condN g.cond:=⟨_,rfl⟩
 obtain ⟨g2,hg2⟩:∃ f,f=fun g:Ml=>condN g.cond:=⟨_,rfl⟩
 have hfl:∀ k,((m.guards.take k).flatMap f).length≤11200:=fun k=>by
  have h1:=flatN_len f (m.guards.take k) fun x hx=>by
   rw [hff]
   exact condN_len _ (by have:=hf.guards x (List.mem_of_mem_take hx);omega)
  rw [List.length_take] at h1
  omega
 have hgl:∀ k,((m.miles.take k).flatMap g2).length≤8000:=fun k=>by
  have h1:=flatN_len g2 (m.miles.take k) fun x hx=>by
   rw [hg2]
   exact condN_len _ (by have:=hf.miles x (List.mem_of_mem_take hx);omega)
  rw [List.length_take] at h1
  omega
 have hC:constsM m []=sortR (m.guards.flatMap f ++ m.miles.flatMap g2):=by
  rw [hff,hg2]
  show sortR ((condN [] ++ _) ++ _)=_
  rw [show condN []=[] from rfl,List.nil_append]
 rw [hC]
 have hN0:ADet Tryz.prog 73 [.c (.slice none 0 0)] (val (.slice none 0 0)):=(numbersP_A [] (by simp)).fits (args:=[.c (.slice none 0 0)]) ⟨.one (.nil 7),trivial⟩
 (repeat' (first|refine go ?_ | exact .intro | refine sp (fun _=>?_) fun _=>?_))
 refine callV hN0 ?_
 (repeat' (first|refine go ?_ | exact .intro | refine sp (fun _=>?_) fun _=>?_))
 refine aLoop_of (fun st=>∃ k:Nat,k≤m.guards.length ∧ (((m.guards.take k).flatMap f=[] ∧ st=⟨40,[(2,.op 0 0 0),(5,.c (.slice none 0 0)),(13,.sl 3 (m.guards.map eGd)),(14,eI (m.guards.length:Int)),(15,eI (k:Int))],[(0,some (.box 32 (eMod m)))],1⟩) ∨ ((m.guards.take k).flatMap f ≠ [] ∧ st=⟨40,[(2,.op 0 0 0),(5,.osl 1),(13,.sl 3 (m.guards.map eGd)),(14,eI (m.guards.length:Int)),(15,eI (k:Int))],[(0,some (.box 32 (eMod m))),(1,some (.row 2 1 (((m.guards.take k).flatMap f).map fun n=>[eI n])))],2⟩))) (fun st=>m.guards.length - slotN st 15) ⟨_,wC,0,Nat.zero_le _,.inl ⟨rfl,rfl⟩⟩ ?_
 rintro _ ⟨k,hk,hst⟩
 have hkl:=hfl k
 by_cases hlt:k<m.guards.length
 ·obtain ⟨x,hx⟩:∃ x,m.guards[k]=x:=⟨_,rfl⟩
  have hxc:=hf.guards x (hx ▸ List.getElem_mem hlt)
  have hNx:=numbersP_A x.cond (by omega)
  have hcl:=condN_len x.cond (by omega)
  have hsn:(m.guards.take (k+1)).flatMap f=(m.guards.take k).flatMap f ++ condN x.cond:=by rw [flatN_snoc f _ hlt,hx,hff]
  generalize (m.guards.take k).flatMap f=A at *
  generalize condN x.cond=C at *
  have et:((m.guards.take (k+1)).flatMap f).map (fun n=>[eI n])=A.map (fun n=>[eI n]) ++ C.map (fun n=>[eI n]):=by rw [hsn,List.map_append]
  rcases hst with ⟨h0,rfl⟩|⟨h0,rfl⟩
  ·rw [h0,List.nil_append] at hsn
   (repeat' (first|refine go ?_|simp only [row_at,hlt,hx] | exact .intro | refine sp (fun _=>?_) fun _=>?_))
   refine callNO hNx (fun hc=>?_) (fun hc=>?_)
   ·rw [hc] at hsn
    (repeat' (first|refine ge @Option.isSome_some.{0} ?_ | exact .intro | refine sp (fun _=>?_) fun _=>?_))
    exact rI (wR [0]) ⟨k+1,by omega,.inl ⟨hsn,rfl⟩⟩
   ·have et2:((m.guards.take (k+1)).flatMap f).map (fun n=>[eI n])=C.map (fun n=>[eI n]):=by rw [hsn]
    (repeat' (first|refine go ?_ | exact .intro | refine sp (fun _=>?_) fun _=>?_))
    refine ⟨⟨by omega,by omega⟩,rI (wS [0,3] et2) ⟨k+1,by omega,.inr ⟨by rw [hsn];exact hc,rfl⟩⟩⟩
  ·have hne:(m.guards.take (k+1)).flatMap f ≠ []:=by rw [hsn];simp [h0]
   (repeat' (first|refine go ?_|simp only [row_at,hlt,hx] | exact .intro | refine sp (fun _=>?_) fun _=>?_))
   refine callNO hNx (fun hc=>?_) (fun hc=>?_)
   ·have et2:((m.guards.take (k+1)).flatMap f).map (fun n=>[eI n])=A.map (fun n=>[eI n]):=by rw [et,hc,List.map_nil,List.append_nil]
    (repeat' (first|refine go ?_ | exact .intro | refine sp (fun _=>?_) fun _=>?_))
    refine ⟨⟨by omega,by omega⟩,rI (wS [0,3] et2) ⟨k+1,by omega,.inr ⟨hne,rfl⟩⟩⟩
   ·(repeat' (first|refine go ?_ | exact .intro | refine sp (fun _=>?_) fun _=>?_))
    refine ⟨⟨by omega,by omega⟩,rI (wS [0,4] et) ⟨k+1,by omega,.inr ⟨hne,rfl⟩⟩⟩
 obtain rfl:k=m.guards.length:=by omega
 rw [List.take_length] at hst hkl
 obtain ⟨O,hO⟩:∃ O,m.guards.flatMap f=O:=⟨_,rfl⟩
 rw [hO] at hst hkl ⊢
 rcases hst with ⟨h0,rfl⟩|⟨h0,rfl⟩
 ·(repeat' (first|refine ge @hlt ?_ | exact .intro | refine sp (fun _=>?_) fun _=>?_))
  refine aLoop_of (fun st=>∃ k:Nat,k≤m.miles.length ∧ ((O ++ (m.miles.take k).flatMap g2=[] ∧ st=⟨40,[(2,.op 0 0 0),(5,.c (.slice none 0 0)),(26,.sl 5 (m.miles.map eMl)),(27,eI (m.miles.length:Int)),(28,eI (k:Int))],[(0,some (.box 32 (eMod m)))],1⟩) ∨ (O ++ (m.miles.take k).flatMap g2 ≠ [] ∧ st=⟨40,[(2,.op 0 0 0),(5,.osl 1),(26,.sl 5 (m.miles.map eMl)),(27,eI (m.miles.length:Int)),(28,eI (k:Int))],[(0,some (.box 32 (eMod m))),(1,some (.row 2 1 ((O ++ (m.miles.take k).flatMap g2).map fun n=>[eI n])))],2⟩))) (fun st=>m.miles.length - slotN st 28) ⟨_,(wE trivial),0,Nat.zero_le _,.inl ⟨by rw [List.take_zero,h0];rfl,rfl⟩⟩ ?_
  rintro _ ⟨k,hk3,hst⟩
  have hkl3:=hgl k
  by_cases hlt3:k<m.miles.length
  ·obtain ⟨x,hx⟩:∃ x,m.miles[k]=x:=⟨_,rfl⟩
   have hxc:=hf.miles x (hx ▸ List.getElem_mem hlt3)
   have hNx:=numbersP_A x.cond (by omega)
   have hcl:=condN_len x.cond (by omega)
   have hsn:O ++ (m.miles.take (k+1)).flatMap g2=(O ++ (m.miles.take k).flatMap g2) ++ condN x.cond:=by rw [flatN_snoc g2 _ hlt3,hx,hg2,List.append_assoc]
   have hAl:(O ++ (m.miles.take k).flatMap g2).length≤20000:=by rw [List.length_append];omega
   generalize O ++ (m.miles.take k).flatMap g2=A at *
   generalize condN x.cond=C at *
   have et:(O ++ (m.miles.take (k+1)).flatMap g2).map (fun n=>[eI n])=A.map (fun n=>[eI n]) ++ C.map (fun n=>[eI n]):=by rw [hsn,List.map_append]
   rcases hst with ⟨h0,rfl⟩|⟨h0,rfl⟩
   ·rw [h0,List.nil_append] at hsn
    (repeat' (first|refine go ?_|simp only [row_at,hlt3,hx] | exact .intro | refine sp (fun _=>?_) fun _=>?_))
    refine callNO hNx (fun hc=>?_) (fun hc=>?_)
    ·rw [hc] at hsn
     (repeat' (first|refine ge @Option.isSome_some.{0} ?_ | exact .intro | refine sp (fun _=>?_) fun _=>?_))
     exact rI (wR [0]) ⟨k+1,by omega,.inl ⟨hsn,rfl⟩⟩
    ·have et2:(O ++ (m.miles.take (k+1)).flatMap g2).map (fun n=>[eI n])=C.map (fun n=>[eI n]):=by rw [hsn]
     (repeat' (first|refine go ?_ | exact .intro | refine sp (fun _=>?_) fun _=>?_))
     refine ⟨⟨by omega,by omega⟩,rI (wS [0,3] et2) ⟨k+1,by omega,.inr ⟨by rw [hsn];exact hc,rfl⟩⟩⟩
   ·have hne:O ++ (m.miles.take (k+1)).flatMap g2 ≠ []:=by rw [hsn];simp [h0]
    (repeat' (first|refine go ?_|simp only [row_at,hlt3,hx] | exact .intro | refine sp (fun _=>?_) fun _=>?_))
    refine callNO hNx (fun hc=>?_) (fun hc=>?_)
    ·have et2:(O ++ (m.miles.take (k+1)).flatMap g2).map (fun n=>[eI n])=A.map (fun n=>[eI n]):=by rw [et,hc,List.map_nil,List.append_nil]
     (repeat' (first|refine go ?_ | exact .intro | refine sp (fun _=>?_) fun _=>?_))
     refine ⟨⟨by omega,by omega⟩,rI (wS [0,3] et2) ⟨k+1,by omega,.inr ⟨hne,rfl⟩⟩⟩
    ·(repeat' (first|refine go ?_ | exact .intro | refine sp (fun _=>?_) fun _=>?_))
     refine ⟨⟨by omega,by omega⟩,rI (wS [0,4] et) ⟨k+1,by omega,.inr ⟨hne,rfl⟩⟩⟩
  obtain rfl:k=m.miles.length:=by omega
  rw [List.take_length] at hst hkl3
  have hAl:(O ++ m.miles.flatMap g2).length≤20000:=by rw [List.length_append];omega
  generalize O ++ m.miles.flatMap g2=A at *
  rcases hst with ⟨h0,rfl⟩|⟨h0,rfl⟩
  ·rw [h0]
   (repeat' (first|refine ge @hlt3 ?_ | exact .intro | refine sp (fun _=>?_) fun _=>?_))
   refine callV sorted0_A ?_
   (repeat' (first|refine go ?_ | exact .intro | refine sp (fun _=>?_) fun _=>?_))
   exact givesN rfl
  ·(repeat' (first|refine ge @hlt3 ?_ | exact .intro | refine sp (fun _=>?_) fun _=>?_))
   refine callO (numSortedO_A A (by omega) h0) (.inr ints_plain) ?_
   (repeat' (first|refine go ?_ | exact .intro | refine sp (fun _=>?_) fun _=>?_))
   rw [noR_ne (sortR_ne h0)]
   exact aGives_own (by simp [ATab.get_cons])
 ·have hi0:(O ++ (m.miles.take 0).flatMap g2).map (fun n=>[eI n])=O.map (fun n=>[eI n]):=by rw [List.take_zero,List.flatMap_nil,List.append_nil]
  (repeat' (first|refine ge @hlt ?_ | exact .intro | refine sp (fun _=>?_) fun _=>?_))
  refine aLoop_of (fun st=>∃ k:Nat,k≤m.miles.length ∧ ((O ++ (m.miles.take k).flatMap g2=[] ∧ st=⟨40,[(2,.op 0 0 0),(5,.c (.slice none 0 0)),(26,.sl 5 (m.miles.map eMl)),(27,eI (m.miles.length:Int)),(28,eI (k:Int))],[(0,some (.box 32 (eMod m)))],1⟩) ∨ (O ++ (m.miles.take k).flatMap g2 ≠ [] ∧ st=⟨40,[(2,.op 0 0 0),(5,.osl 1),(26,.sl 5 (m.miles.map eMl)),(27,eI (m.miles.length:Int)),(28,eI (k:Int))],[(0,some (.box 32 (eMod m))),(1,some (.row 2 1 ((O ++ (m.miles.take k).flatMap g2).map fun n=>[eI n])))],2⟩))) (fun st=>m.miles.length - slotN st 28) ⟨_,(wE hi0),0,Nat.zero_le _,.inr ⟨by rw [List.take_zero,List.flatMap_nil,List.append_nil];exact h0,rfl⟩⟩ ?_
  rintro _ ⟨k,hk3,hst⟩
  have hkl3:=hgl k
  by_cases hlt3:k<m.miles.length
  ·obtain ⟨x,hx⟩:∃ x,m.miles[k]=x:=⟨_,rfl⟩
   have hxc:=hf.miles x (hx ▸ List.getElem_mem hlt3)
   have hNx:=numbersP_A x.cond (by omega)
   have hcl:=condN_len x.cond (by omega)
   have hsn:O ++ (m.miles.take (k+1)).flatMap g2=(O ++ (m.miles.take k).flatMap g2) ++ condN x.cond:=by rw [flatN_snoc g2 _ hlt3,hx,hg2,List.append_assoc]
   have hAl:(O ++ (m.miles.take k).flatMap g2).length≤20000:=by rw [List.length_append];omega
   generalize O ++ (m.miles.take k).flatMap g2=A at *
   generalize condN x.cond=C at *
   have et:(O ++ (m.miles.take (k+1)).flatMap g2).map (fun n=>[eI n])=A.map (fun n=>[eI n]) ++ C.map (fun n=>[eI n]):=by rw [hsn,List.map_append]
   rcases hst with ⟨h0,rfl⟩|⟨h0,rfl⟩
   ·rw [h0,List.nil_append] at hsn
    (repeat' (first|refine go ?_|simp only [row_at,hlt3,hx] | exact .intro | refine sp (fun _=>?_) fun _=>?_))
    refine callNO hNx (fun hc=>?_) (fun hc=>?_)
    ·rw [hc] at hsn
     (repeat' (first|refine ge @Option.isSome_some.{0} ?_ | exact .intro | refine sp (fun _=>?_) fun _=>?_))
     exact rI (wR [0]) ⟨k+1,by omega,.inl ⟨hsn,rfl⟩⟩
    ·have et2:(O ++ (m.miles.take (k+1)).flatMap g2).map (fun n=>[eI n])=C.map (fun n=>[eI n]):=by rw [hsn]
     (repeat' (first|refine go ?_ | exact .intro | refine sp (fun _=>?_) fun _=>?_))
     refine ⟨⟨by omega,by omega⟩,rI (wS [0,3] et2) ⟨k+1,by omega,.inr ⟨by rw [hsn];exact hc,rfl⟩⟩⟩
   ·have hne:O ++ (m.miles.take (k+1)).flatMap g2 ≠ []:=by rw [hsn];simp [h0]
    (repeat' (first|refine go ?_|simp only [row_at,hlt3,hx] | exact .intro | refine sp (fun _=>?_) fun _=>?_))
    refine callNO hNx (fun hc=>?_) (fun hc=>?_)
    ·have et2:(O ++ (m.miles.take (k+1)).flatMap g2).map (fun n=>[eI n])=A.map (fun n=>[eI n]):=by rw [et,hc,List.map_nil,List.append_nil]
     (repeat' (first|refine go ?_ | exact .intro | refine sp (fun _=>?_) fun _=>?_))
     refine ⟨⟨by omega,by omega⟩,rI (wS [0,3] et2) ⟨k+1,by omega,.inr ⟨hne,rfl⟩⟩⟩
    ·(repeat' (first|refine go ?_ | exact .intro | refine sp (fun _=>?_) fun _=>?_))
     refine ⟨⟨by omega,by omega⟩,rI (wS [0,4] et) ⟨k+1,by omega,.inr ⟨hne,rfl⟩⟩⟩
  obtain rfl:k=m.miles.length:=by omega
  rw [List.take_length] at hst hkl3
  have hAl:(O ++ m.miles.flatMap g2).length≤20000:=by rw [List.length_append];omega
  generalize O ++ m.miles.flatMap g2=A at *
  rcases hst with ⟨h0,rfl⟩|⟨h0,rfl⟩
  ·rw [h0]
   (repeat' (first|refine ge @hlt3 ?_ | exact .intro | refine sp (fun _=>?_) fun _=>?_))
   refine callV sorted0_A ?_
   (repeat' (first|refine go ?_ | exact .intro | refine sp (fun _=>?_) fun _=>?_))
   exact givesN rfl
  ·(repeat' (first|refine ge @hlt3 ?_ | exact .intro | refine sp (fun _=>?_) fun _=>?_))
   refine callO (numSortedO_A A (by omega) h0) (.inr ints_plain) ?_
   (repeat' (first|refine go ?_ | exact .intro | refine sp (fun _=>?_) fun _=>?_))
   rw [noR_ne (sortR_ne h0)]
   exact aGives_own (by simp [ATab.get_cons])
theorem pointsP_A (m:Mod) (s:St) (hf:Fit m) (hcl:(constsM m []).length≤6) (hs:s.vals.length≤1000):ADet Tryz.prog 22 [.agg (eMod m),.agg (eSt s)] ⟨sI (if sortR (constsM m [] ++ s.vals)=[] then [0] else sortR (constsM m [] ++ s.vals)),[],0⟩:=by
 refine ADet.still (R:=own 2 1 ((if sortR (constsM m [] ++ s.vals)=[] then [0] else sortR (constsM m [] ++ s.vals)).map fun n=>[eI n])) [0] ?_ (by simp [own,Res.frzs,Res.frz,ATab.get_cons,AV.frz,AV.frzL,frzTab,AObj.frz]) (by simp [AV.lt,AV.ltL])
 refine adet_of_code mixedT Tryz.func22 rfl (by decide) Tryz.ntmps22 Tryz.results22 rfl (own_ok _ _ _) ?_
 have hC:=constsP_A m hf
 have q1:(((0:Nat):Int) == 0)=true:=rfl
 (repeat' (first|refine go ?_ | exact .intro | refine sp (fun _=>?_) fun _=>?_))
 refine aDraw_held [] [0,2,3] (.exec 1 (.exec 4 (.exec 5 (.exec 6 .done)))) (by kernel_rfl) (by simp [ATab.get_cons]) ?_
 (repeat' (first|refine go ?_ | exact .intro | refine sp (fun _=>?_) fun _=>?_))
 refine callNO hC (fun h0=>?_) (fun h0=>?_)
 ·rw [h0,List.nil_append]
  by_cases hv:s.vals=[]
  ·rw [hv]
   rw [show (if sortR ([]:List Int)=[] then [0] else sortR [])=[0] from if_pos rfl]
   (repeat' (first|refine go ?_ | exact .intro | refine sp (fun _=>?_) fun _=>?_))
   refine callP (Post:=fun R=>∃ A c,R=val (.slice A 0 c)) ?_ fun R hR=>?_
   ·simp -implicitDefEqProofs (maxSteps:=5000000) only [ruX,↓reduceIte,reduceCtorEq,Nat.reduceLT,Nat.reduceEqDiff,Nat.reduceAdd,Nat.reduceMul,Nat.reduceSub,Nat.reduceLeDiff,Nat.reduceBEq]
    exact sorted1_A
   ·obtain ⟨A,c,rfl⟩:=hR
    refine ⟨.inr ⟨trivial,trivial⟩,?_⟩
    (repeat' (first | simp -implicitDefEqProofs (maxSteps:=5000000) only [ruX,↓reduceIte,reduceCtorEq,Nat.reduceLT,Nat.reduceEqDiff,Nat.reduceAdd,Nat.reduceMul,Nat.reduceSub,Nat.reduceLeDiff,Nat.reduceBEq,val,AV.shift,shiftT_nil,List.map_nil,List.nil_append,List.length_nil,q1] | refine sp (fun _=>?_) fun _=>?_|(with_reducible refine aDraw_quiet (by kernel_rfl) ?_) | (with_reducible apply And.intro)))
    all_goals first
     | rfl
     | exact aGives_own (by simp [ATab.get_cons])
     | trace_state
  ·(repeat' (first|refine go ?_ | exact .intro | refine sp (fun _=>?_) fun _=>?_))
   refine ⟨⟨by omega,by omega⟩,?_⟩
   refine callO (numSortedO_A s.vals (by omega) hv) (.inr ints_plain) ?_
   have hz:(((sortR s.vals).length:Int) == 0)=false:=by
    have:=List.length_pos_iff.2 (sortR_ne hv)
    simp
    exact sortR_ne hv
   rw [if_neg (sortR_ne hv)]
   (repeat' (first|refine ge hz ?_ | exact .intro | refine sp (fun _=>?_) fun _=>?_))
   exact aGives_own (by simp [ATab.get_cons])
 ·have hne:constsM m [] ++ s.vals ≠ []:=by simp [h0]
  have hsn:((constsM m []).map (fun n=>[eI n])) ++ (s.vals.map fun n=>[eI n])=(constsM m [] ++ s.vals).map fun n=>[eI n]:=by rw [List.map_append]
  (repeat' (first|refine ge @hsn ?_ | exact .intro | refine sp (fun _=>?_) fun _=>?_))
  refine ⟨⟨by omega,by omega⟩,?_⟩
  refine callO (numSortedO_A (constsM m [] ++ s.vals) (by simp only [List.length_append];omega) hne) (.inr ints_plain) ?_
  have hz:(((sortR (constsM m [] ++ s.vals)).length:Int) == 0)=false:=by
   have:=List.length_pos_iff.2 (sortR_ne hne)
   simp
   exact sortR_ne hne
  rw [if_neg (sortR_ne hne)]
  (repeat' (first|refine ge hz ?_ | exact .intro | refine sp (fun _=>?_) fun _=>?_))
  exact aGives_own (by simp [ATab.get_cons])
end
end
section
section
open Go.RowKit
theorem partsP_A (m:Mod) (hf:Fit m) (hc:condOk m) (hk:Chk m) (h:NamedP m):ADet Tryz.prog 39 [.agg (eMod m)] (val (.bool true)):=by
 refine adet_of_code mixedT Tryz.func39 rfl (by decide) Tryz.ntmps39 Tryz.results39 rfl (val_ok _) ?_
 obtain ⟨hgs,hms,hsts,hevs,hats,huss,hros,hsos,-⟩:=id hf.sizes
 (repeat' (first|refine go ?_ | exact .intro | refine sp (fun _=>?_) fun _=>?_))
 refine aLoop_of (fun st=>∃ k:Nat,k≤m.roles.length ∧ st=⟨132,[(1,.op 0 0 0),(16,.sl 2 (m.roles.map eNI)),(17,eI (m.roles.length:Int)),(18,eI (k:Int))],[(0,some (.box 32 (eMod m)))],1⟩) (fun st=>m.roles.length - slotN st 18) ⟨_,(wR [0]),0,Nat.zero_le _,rfl⟩ ?_
 rintro _ ⟨k,hkl,rfl⟩
 by_cases hlt:k<m.roles.length
 ·obtain ⟨g1,g2,g3⟩:=h.roles k hlt
  have hu:=hk.users
  have q0:((m.users.length:Int)<0)=False:=by simp
  have d1:decide (m.roles[k].2≤0)=false:=decide_eq_false (by omega)
  have d2:decide (IntKind.i64.wrap (1 * 2 ^ min m.users.length IntKind.i64.bits)≤m.roles[k].2)=false:=by
   have hp:2 ^ m.users.length≤2 ^ 4:=Nat.pow_le_pow_right (by omega) hu
   have hp1:1≤2 ^ m.users.length:=Nat.one_le_two_pow
   have e1:(2:Int) ^ min m.users.length IntKind.i64.bits=((2 ^ m.users.length:Nat):Int):=by
    rw [show min m.users.length IntKind.i64.bits=m.users.length from Nat.min_eq_left (by show m.users.length≤64;omega)]
    simp
   rw [e1,Int.one_mul,wrap_in (by omega) (by omega)]
   exact decide_eq_false (by omega)
  (repeat' (first|refine go ?_|simp only [row_at,hlt,q0,d1,d2] | exact .intro | refine sp (fun _=>?_) fun _=>?_|(with_reducible refine aDraw_quiet (by kernel_rfl) ?_)))
  all_goals exact rI (wR [0]) ⟨k+1,by omega,rfl⟩
 obtain rfl:k=m.roles.length:=by omega
 (repeat' (first|refine ge @hlt ?_ | exact .intro | refine sp (fun _=>?_) fun _=>?_))
 clear hkl hlt
 refine aLoop_of (fun st=>∃ k:Nat,k≤m.stages.length ∧ st=⟨132,[(1,.op 0 0 0),(36,.sl 2 (m.stages.map eNI)),(37,eI (m.stages.length:Int)),(38,eI (k:Int))],[(0,some (.box 32 (eMod m)))],1⟩) (fun st=>m.stages.length - slotN st 38) ⟨_,(wR [0]),0,Nat.zero_le _,rfl⟩ ?_
 rintro _ ⟨k,hkl,rfl⟩
 by_cases hlt:k<m.stages.length
 ·rcases h.stages k hlt with g | g
  ·have q:(m.stages[k].2 != -1)=false:=by rw [g];rfl
   (repeat' (first|refine go ?_|simp only [row_at,hlt,q] | exact .intro | refine sp (fun _=>?_) fun _=>?_|(with_reducible refine aDraw_quiet (by kernel_rfl) ?_)))
   all_goals exact rI (wR [0]) ⟨k+1,by omega,rfl⟩
  ·have hI:=inM_A m.stages[k].2 m.stages.length
   rw [g] at hI
   have q:(m.stages[k].2 != -1)=true:=by
    simp only [inB,Bool.and_eq_true,decide_eq_true_eq] at g
    simp
    omega
   (repeat' (first|refine go ?_|simp only [row_at,hlt,q] | exact .intro | refine sp (fun _=>?_) fun _=>?_|(with_reducible refine aDraw_quiet (by kernel_rfl) ?_) | ((with_reducible apply callV);exact (hI)) | ((with_reducible apply callD);exact (hI))))
   all_goals exact rI (wR [0]) ⟨k+1,by omega,rfl⟩
 obtain rfl:k=m.stages.length:=by omega
 (repeat' (first|refine ge @hlt ?_ | exact .intro | refine sp (fun _=>?_) fun _=>?_))
 clear hkl hlt
 refine aLoop_of (fun st=>∃ k:Nat,k≤m.events.length ∧ st=⟨132,[(1,.op 0 0 0),(56,.sl 5 (m.events.map eEv)),(57,eI (m.events.length:Int)),(58,eI (k:Int))],[(0,some (.box 32 (eMod m)))],1⟩) (fun st=>m.events.length - slotN st 58) ⟨_,(wR [0]),0,Nat.zero_le _,rfl⟩ ?_
 rintro _ ⟨k,hkl,rfl⟩
 by_cases hlt:k<m.events.length
 ·obtain ⟨x,hx⟩:∃ x,m.events[k]=x:=⟨_,rfl⟩
  have hE:=eventualP_A m x hk.attrs (hx ▸ hf.events _ (List.getElem_mem hlt)) (hx ▸ h.events k hlt)
  (repeat' (first|refine go ?_|simp only [row_at,hlt,hx] | exact .intro | refine sp (fun _=>?_) fun _=>?_|(with_reducible refine aDraw_quiet (by kernel_rfl) ?_) | ((with_reducible apply callV);exact (hE)) | ((with_reducible apply callD);exact (hE))))
  all_goals exact rI (wR [0]) ⟨k+1,by omega,rfl⟩
 obtain rfl:k=m.events.length:=by omega
 (repeat' (first|refine ge @hlt ?_ | exact .intro | refine sp (fun _=>?_) fun _=>?_))
 clear hkl hlt
 refine aLoop_of (fun st=>∃ k:Nat,k≤m.guards.length ∧ st=⟨132,[(1,.op 0 0 0),(68,.sl 3 (m.guards.map eGd)),(69,eI (m.guards.length:Int)),(70,eI (k:Int))],[(0,some (.box 32 (eMod m)))],1⟩) (fun st=>m.guards.length - slotN st 70) ⟨_,(wR [0]),0,Nat.zero_le _,rfl⟩ ?_
 rintro _ ⟨k,hkl,rfl⟩
 by_cases hlt:k<m.guards.length
 ·obtain ⟨x,hx⟩:∃ x,m.guards[k]=x:=⟨_,rfl⟩
  have hl:=hf.guards x (hx ▸ List.getElem_mem hlt)
  have hE:=sentryP_A m x.stage x.event x.cond (by omega) (hc.1 x (hx ▸ List.getElem_mem hlt)) (hx ▸ h.guards k hlt)
  (repeat' (first|refine go ?_|simp only [row_at,hlt,hx] | exact .intro | refine sp (fun _=>?_) fun _=>?_|(with_reducible refine aDraw_quiet (by kernel_rfl) ?_) | ((with_reducible apply callV);exact (hE)) | ((with_reducible apply callD);exact (hE))))
  all_goals exact rI (wR [0]) ⟨k+1,by omega,rfl⟩
 obtain rfl:k=m.guards.length:=by omega
 (repeat' (first|refine ge @hlt ?_ | exact .intro | refine sp (fun _=>?_) fun _=>?_))
 clear hkl hlt
 refine aLoop_of (fun st=>∃ k:Nat,k≤m.miles.length ∧ st=⟨132,[(1,.op 0 0 0),(85,.sl 5 (m.miles.map eMl)),(86,eI (m.miles.length:Int)),(87,eI (k:Int))],[(0,some (.box 32 (eMod m)))],1⟩) (fun st=>m.miles.length - slotN st 87) ⟨_,(wR [0]),0,Nat.zero_le _,rfl⟩ ?_
 rintro _ ⟨k,hkl,rfl⟩
 by_cases hlt:k<m.miles.length
 ·obtain ⟨x,hx⟩:∃ x,m.miles[k]=x:=⟨_,rfl⟩
  have hl:=hf.miles x (hx ▸ List.getElem_mem hlt)
  have hE:=sentryP_A m x.stage x.event x.cond (by omega) (hc.2 x (hx ▸ List.getElem_mem hlt)) (hx ▸ h.miles k hlt)
  (repeat' (first|refine go ?_|simp only [row_at,hlt,hx] | exact .intro | refine sp (fun _=>?_) fun _=>?_|(with_reducible refine aDraw_quiet (by kernel_rfl) ?_) | ((with_reducible apply callV);exact (hE)) | ((with_reducible apply callD);exact (hE))))
  all_goals exact rI (wR [0]) ⟨k+1,by omega,rfl⟩
 obtain rfl:k=m.miles.length:=by omega
 (repeat' (first|refine ge @hlt ?_ | exact .intro | refine sp (fun _=>?_) fun _=>?_))
 clear hkl hlt
 refine aLoop_of (fun st=>∃ k:Nat,k≤m.sods.length ∧ st=⟨132,[(1,.op 0 0 0),(102,.sl 2 (m.sods.map eII)),(103,eI (m.sods.length:Int)),(104,eI (k:Int))],[(0,some (.box 32 (eMod m)))],1⟩) (fun st=>m.sods.length - slotN st 104) ⟨_,(wR [0]),0,Nat.zero_le _,rfl⟩ ?_
 rintro _ ⟨k,hkl,rfl⟩
 by_cases hlt:k<m.sods.length
 ·obtain ⟨g1,g2,g3⟩:=h.sods k hlt
  have hI1:=inM_A m.sods[k].1 m.events.length
  have hI2:=inM_A m.sods[k].2 m.events.length
  rw [g1] at hI1
  rw [g2] at hI2
  have q:(m.sods[k].1 == m.sods[k].2)=false:=by simp [g3]
  (repeat' (first|refine go ?_|simp only [row_at,hlt,q] | exact .intro | refine sp (fun _=>?_) fun _=>?_|(with_reducible refine aDraw_quiet (by kernel_rfl) ?_) | ((with_reducible apply callV);exact (hI1)) | ((with_reducible apply callD);exact (hI1)) | ((with_reducible apply callV);exact (hI2)) | ((with_reducible apply callD);exact (hI2))))
  all_goals exact rI (wR [0]) ⟨k+1,by omega,rfl⟩
 obtain rfl:k=m.sods.length:=by omega
 (repeat' (first|refine ge @hlt ?_ | exact .intro | refine sp (fun _=>?_) fun _=>?_|(with_reducible refine aDraw_quiet (by kernel_rfl) ?_)))
theorem mCheckP_A (m:Mod) (hf:Fit m) (hc:condOk m) (hp:∀ p ∈ m.stages,ok64 p.2) (h:ChkF m):ADet Tryz.prog 18 [.agg (eMod m)] (val (.bool true)):=by
 refine adet_of_code mixedT Tryz.func18 rfl (by decide) Tryz.ntmps18 Tryz.results18 rfl (val_ok _) ?_
 obtain ⟨hg,hm,hst,hev,hat,hus,hro,hso,hor,-⟩:=id hf.sizes
 obtain ⟨js,ho,hjl,hgr⟩:=h.order
 have hF:=fewP_A m h.chk
 have hP:=partsP_A m hf hc h.chk h.named
 have hB:=boundP_A m.events (by omega) hf.events h.writes h.sum
 have hN:=mParents_A m (by omega)
 have hCi:=nCircle_A (pars m) (by simp [pars];omega) (pars_ok hp)
 have hCn:=constsP_A m hf
 have hO:=orderP_A m js hf hp hjl hgr
 rw [← ho] at hO
 have hE:=equalS_A m.order (by omega)
 have d1:decide (0≤circleL (pars m))=false:=decide_eq_false (by have:=h.chk.circle;omega)
 have z0:((0:Int) == 0)=true:=rfl
 (repeat' (first|refine go ?_ | exact .intro | refine sp (fun _=>?_) fun _=>?_|(with_reducible refine aDraw_quiet (by kernel_rfl) ?_) | ((with_reducible apply callV);exact (hF)) | ((with_reducible apply callD);exact (hF)) | ((with_reducible apply callV);exact (hP)) | ((with_reducible apply callD);exact (hP)) | ((with_reducible apply callV);exact (hB)) | ((with_reducible apply callD);exact (hB))))
 refine callO hN (.inr ints_plain) ?_
 (repeat' (first|refine go ?_ | exact .intro | refine sp (fun _=>?_) fun _=>?_))
 refine callV hCi ?_
 (repeat' (first|refine ge d1 ?_ | exact .intro | refine sp (fun _=>?_) fun _=>?_))
 have hc6:=h.consts
 refine callNO hCn (fun h0=>?_) (fun h0=>?_)
 ·have z6:decide ((6:Int)<((0:Nat):Int))=false:=rfl
  (repeat' (first|refine ge z6 ?_ | exact .intro | refine sp (fun _=>?_) fun _=>?_))
  refine callR hO (.inr ⟨⟨trivial,trivial,trivial⟩,pairs_plain,trivial⟩) ?_
  simp only [AV.shift,AV.shiftL,ATab.shift,AObj.shift,List.map_cons,List.map_nil,List.cons_append,List.nil_append]
  (repeat' (first|refine ge z0 ?_ | exact .intro | refine sp (fun _=>?_) fun _=>?_))
  refine callV hE ?_
  (repeat' (first|refine go ?_ | exact .intro | refine sp (fun _=>?_) fun _=>?_))
 ·have z6:decide ((6:Int)<((constsM m []).length:Int))=false:=decide_eq_false (by omega)
  have z7:decide (6<(constsM m []).length)=false:=decide_eq_false (by omega)
  (repeat' (first|refine ge (kf z6 z7) ?_ | exact .intro | refine sp (fun _=>?_) fun _=>?_))
  refine callR hO (.inr ⟨⟨trivial,trivial,trivial⟩,pairs_plain,trivial⟩) ?_
  simp only [AV.shift,AV.shiftL,ATab.shift,AObj.shift,List.map_cons,List.map_nil,List.cons_append,List.nil_append]
  (repeat' (first|refine ge z0 ?_ | exact .intro | refine sp (fun _=>?_) fun _=>?_))
  refine callV hE ?_
  (repeat' (first|refine go ?_ | exact .intro | refine sp (fun _=>?_) fun _=>?_))
end
section
open Go.RowKit
def inR64 (n:Int):Prop:=-9223372036854775808≤n ∧ n≤9223372036854775807
instance (n:Int):Decidable (inR64 n):=by unfold inR64;infer_instance
def addR (a b:Int):Res:=if inR64 (a+b) then ⟨.tup [eI (a+b),eB true],[],0⟩ else ⟨.tup [eI 0,eB false],[],0⟩
theorem addR_ok (a b:Int):(addR a b).Ok:=by
 unfold addR
 split <;> exact ⟨fun id o h=>(by cases h),⟨trivial,trivial,trivial⟩⟩
theorem btt:(true == true)=true:=rfl
theorem btf:(true == false)=false:=rfl
theorem bft:(false == true)=false:=rfl
theorem bff:(false == false)=true:=rfl
theorem ntt:(true != true)=false:=rfl
theorem nff:(false != false)=false:=rfl
theorem numAdd_A (a b:Int) (ha:ok64 a) (hb:ok64 b):ADet Tryz.prog 53 [eI a,eI b] (addR a b):=by
 refine adet_of_code mixedT Tryz.func53 rfl (by decide) Tryz.ntmps53 Tryz.results53 rfl (addR_ok a b) ?_
 unfold ok64 at ha hb
 unfold addR
 by_cases g:inR64 (a+b)
 ·rw [if_pos g]
  unfold inR64 at g
  have ew:IntKind.i64.wrap (a+b)=a+b:=wrap_in (by omega) (by omega)
  by_cases h1:a<0 <;> by_cases h2:b<0
  ·have d1:decide (a<0)=true:=decide_eq_true h1
   have d2:decide (b<0)=true:=decide_eq_true h2
   have d3:decide (a+b<0)=true:=decide_eq_true (by omega)
   (repeat' (first|refine ge (kf d1 (kf d2 (kf ew (kf d3 (kf @btt @ntt))))) ?_ | exact .intro | refine sp (fun _=>?_) fun _=>?_|(with_reducible refine aDraw_quiet (by kernel_rfl) ?_)))
   all_goals exact gives_tree (by simp [AV.ren,AV.renL])
  ·have d1:decide (a<0)=true:=decide_eq_true h1
   have d2:decide (b<0)=false:=decide_eq_false h2
   (repeat' (first|refine ge (kf d1 (kf d2 (kf ew @btf))) ?_ | exact .intro | refine sp (fun _=>?_) fun _=>?_|(with_reducible refine aDraw_quiet (by kernel_rfl) ?_)))
   all_goals exact gives_tree (by simp [AV.ren,AV.renL])
  ·have d1:decide (a<0)=false:=decide_eq_false h1
   have d2:decide (b<0)=true:=decide_eq_true h2
   (repeat' (first|refine ge (kf d1 (kf d2 (kf ew @bft))) ?_ | exact .intro | refine sp (fun _=>?_) fun _=>?_|(with_reducible refine aDraw_quiet (by kernel_rfl) ?_)))
   all_goals exact gives_tree (by simp [AV.ren,AV.renL])
  ·have d1:decide (a<0)=false:=decide_eq_false h1
   have d2:decide (b<0)=false:=decide_eq_false h2
   have d3:decide (a+b<0)=false:=decide_eq_false (by omega)
   (repeat' (first|refine ge (kf d1 (kf d2 (kf ew (kf d3 (kf @bff @nff))))) ?_ | exact .intro | refine sp (fun _=>?_) fun _=>?_|(with_reducible refine aDraw_quiet (by kernel_rfl) ?_)))
   all_goals exact gives_tree (by simp [AV.ren,AV.renL])
 ·rw [if_neg g]
  unfold inR64 at g
  by_cases h1:a<0 <;> by_cases h2:b<0
  ·have d1:decide (a<0)=true:=decide_eq_true h1
   have d2:decide (b<0)=true:=decide_eq_true h2
   have ew:IntKind.i64.wrap (a+b)=a+b+18446744073709551616:=by rw [IntKind.wrap];simp [IntKind.bits,IntKind.signed];omega
   have d3:decide (a+b+18446744073709551616<0)=false:=decide_eq_false (by omega)
   (repeat' (first|refine ge (kf d1 (kf d2 (kf ew (kf d3 (kf @btt @bft))))) ?_ | exact .intro | refine sp (fun _=>?_) fun _=>?_|(with_reducible refine aDraw_quiet (by kernel_rfl) ?_)))
   all_goals exact gives_tree (by simp [AV.ren,AV.renL])
  ·omega
  ·omega
  ·have d1:decide (a<0)=false:=decide_eq_false h1
   have d2:decide (b<0)=false:=decide_eq_false h2
   have ew:IntKind.i64.wrap (a+b)=a+b - 18446744073709551616:=by rw [IntKind.wrap];simp [IntKind.bits,IntKind.signed];omega
   have d3:decide (a+b - 18446744073709551616<0)=true:=decide_eq_true (by omega)
   (repeat' (first|refine ge (kf d1 (kf d2 (kf ew (kf d3 (kf @bff @btf))))) ?_ | exact .intro | refine sp (fun _=>?_) fun _=>?_|(with_reducible refine aDraw_quiet (by kernel_rfl) ?_)))
   all_goals exact gives_tree (by simp [AV.ren,AV.renL])
def pickU (c n:Int):Int:=if n<1 then 0 else c / 8589934592 % n
theorem pickU_lt {c:Int} {n:Nat} (hn:0<n):0≤pickU c (n:Int) ∧ pickU c (n:Int)<(n:Int):=by
 unfold pickU
 rw [if_neg (by omega)]
 exact ⟨Int.emod_nonneg _ (by omega),Int.emod_lt_of_pos _ (by omega)⟩
def numU (near:List Int) (c:Int):Int × Int:=
 let n:=near.getD (pickU (nextU c) (near.length:Int)).toNat 0
 let d:=pickU (nextU (nextU c)) 3 - 1
 (if inR64 (n+d) then n+d else n,nextU (nextU c))
theorem numU_ok {near:List Int} {c:Int} (h:∀ x ∈ near,ok64 x) (hn:0<near.length):ok64 (numU near c).1 ∧ okU (numU near c).2:=by
 obtain ⟨h1,h2⟩:=pickU_lt (c:=nextU c) hn
 refine ⟨?_,nextU_ok _⟩
 unfold numU
 simp only
 split
 ·rename_i g
  unfold inR64 at g
  unfold ok64
  omega
 ·have hlt:(pickU (nextU c) (near.length:Int)).toNat<near.length:=by omega
  rw [List.getD_eq_getElem?_getD,List.getElem?_eq_getElem hlt]
  exact h _ (List.getElem_mem hlt)
theorem undef_bfn {cx:Cx} {w:World} {tab:ATab} {L:Nat → Value} {f:FuncId} {a:AV} (h:RVx cx w tab L undef (.bfn f [a])):False:=by
 obtain ⟨y,h1,_⟩:=bfn_one h
 cases h1
theorem number_M (near:List Int) (c:Int) (hn:0<near.length) (hl:near.length≤1000000) (hok:∀ x ∈ near,ok64 x) (hc:okU c) :
  AMthA Tryz.prog 23 66 [eU c] [] [sI near,.bfn 19 [.op 0 0 0]] (fun av cells' objs'=>av=eI (numU near c).1 ∧ cells'=[eU (numU near c).2] ∧ objs'=[]):=by
 refine amthA_of_code mixedT Tryz.func23 rfl (by decide) Tryz.ntmps23 Tryz.results23 1 (.bfn 19 [.op 0 0 0]) rfl (pin_bfn _ 0 0) undef_bfn rfl (by kernel_rfl) (by simp [AV.ltL,AV.lt]) (by simp [AV.ltL,AV.lt]) (by simp [plainO]) ?_
 simp only [tabN,List.length_nil,Nat.zero_add]
 obtain ⟨p1,p2⟩:=pickU_lt (c:=nextU c) hn
 have q0:0≤pickU (nextU (nextU c)) 3 ∧ pickU (nextU (nextU c)) 3<3:=pickU_lt (c:=nextU (nextU c)) (n:=3) (by omega)
 obtain ⟨q1,q2⟩:=q0
 obtain ⟨i,hi⟩:∃ i:Nat,pickU (nextU c) (near.length:Int)=(i:Int):=⟨(pickU (nextU c) (near.length:Int)).toNat,by omega⟩
 have hil:i<near.length:=by omega
 have hP1:=pick_A (nextU c) (near.length:Int) (nextU_ok c) (by unfold ok64;omega)
 have hP2:=pick_A (nextU (nextU c)) 3 (nextU_ok _) (by unfold ok64;omega)
 have e1:(if (near.length:Int)<1 then 0 else nextU c / 8589934592 % (near.length:Int))=(i:Int):=hi
 have e2:(if (3:Int)<1 then 0 else nextU (nextU c) / 8589934592 % 3)=pickU (nextU (nextU c)) 3:=rfl
 rw [e1] at hP1
 rw [e2] at hP2
 have hnum:numU near c=(if inR64 (near[i]+(pickU (nextU (nextU c)) 3 - 1)) then near[i]+(pickU (nextU (nextU c)) 3 - 1) else near[i],nextU (nextU c)):=by
  unfold numU
  simp only [hi,Int.toNat_natCast,List.getD_eq_getElem?_getD,List.getElem?_eq_getElem hil,Option.getD_some]
 rw [hnum]
 obtain ⟨d,hd⟩:∃ d,d=pickU (nextU (nextU c)) 3:=⟨_,rfl⟩
 rw [← hd] at hP2 q1 q2 ⊢
 have hA:=numAdd_A near[i] (d - 1) (hok _ (List.getElem_mem hil)) (by unfold ok64;omega)
 have ew:IntKind.i64.wrap (d - 1)=d - 1:=wrap_in (by omega) (by omega)
 have hN1:=next_A c
 have hN2:=next_A (nextU c)
 generalize nextU (nextU c)=c2 at *
 generalize nextU c=c1 at *
 (repeat' (first|refine go ?_ | exact .intro | refine sp (fun _=>?_) fun _=>?_))
 refine callI ?_
 refine inl_of_code0 mixedT Tryz.func19 rfl (by decide) Tryz.ntmps19 Tryz.results19 rfl (by kernel_rfl) [0,1,8] fun vs=>?_
 (repeat' (first|refine ge (kf @live_nil @live_cons) ?_ | exact .intro | refine sp (fun _=>?_) fun _=>?_))
 refine callV hN1 ?_
 (repeat' (first|refine ge (kf @live_nil @live_cons) ?_ | exact .intro | refine sp (fun _=>?_) fun _=>?_))
 refine callV hP1 ?_
 (repeat' (first | simp -implicitDefEqProofs (maxSteps:=5000000) only [ruX,↓reduceIte,reduceCtorEq,Nat.reduceLT,Nat.reduceEqDiff,Nat.reduceAdd,Nat.reduceMul,Nat.reduceSub,Nat.reduceLeDiff,Nat.reduceBEq,aRetI_n,aRetI_r,aBack,live_nil,live_cons,shiftT_nil,shiftT_some,shiftT_none,AObj.shift,shiftEnv] | refine sp (fun _=>?_) fun _=>?_))
 (repeat' (first|refine go ?_|simp only [row_at,hil] | exact .intro | refine sp (fun _=>?_) fun _=>?_))
 refine callI ?_
 refine inl_of_code0 mixedT Tryz.func19 rfl (by decide) Tryz.ntmps19 Tryz.results19 rfl (by kernel_rfl) [1,5,16] fun vs2=>?_
 (repeat' (first|refine ge (kf @live_nil @live_cons) ?_ | exact .intro | refine sp (fun _=>?_) fun _=>?_))
 refine callV hN2 ?_
 (repeat' (first|refine ge (kf @live_nil @live_cons) ?_ | exact .intro | refine sp (fun _=>?_) fun _=>?_))
 refine callV hP2 ?_
 (repeat' (first | simp -implicitDefEqProofs (maxSteps:=5000000) only [ruX,↓reduceIte,reduceCtorEq,Nat.reduceLT,Nat.reduceEqDiff,Nat.reduceAdd,Nat.reduceMul,Nat.reduceSub,Nat.reduceLeDiff,Nat.reduceBEq,aRetI_n,aRetI_r,aBack,live_nil,live_cons,shiftT_nil,shiftT_some,shiftT_none,AObj.shift,shiftEnv] | refine sp (fun _=>?_) fun _=>?_))
 (repeat' (first|refine ge ew ?_ | exact .intro | refine sp (fun _=>?_) fun _=>?_))
 unfold addR at hA
 by_cases g:inR64 (near[i]+(d - 1))
 ·rw [if_pos g] at hA ⊢
  refine callT hA (.inl (by simp [roL,roA,treeL,treeC])) ?_
  (repeat' (first|refine go ?_ | exact .intro | refine sp (fun _=>?_) fun _=>?_|(with_reducible refine aDraw_quiet (by kernel_rfl) ?_)))
  all_goals exact ⟨[eU c2],[],⟨rfl,rfl⟩,trivial,⟨rfl,by simp [AV.ltL,AV.lt],by simp⟩,(weak_ren1 [4] ⟨(by decide),(by (first | ((simp only [envInR,tabInR,envLt,tabLt,AObj.lt,AV.lt,AV.ltL,AV.ren,AV.renL,AObj.ren,List.getD_cons_zero,List.getD_cons_succ,List.length_cons,List.length_nil,ruW,ASt.get,aget,ASt.put,↓reduceIte,reduceCtorEq,Nat.reduceLT,Nat.reduceEqDiff,Nat.reduceAdd,Nat.reduceLeDiff,eq_self,implies_true,tabN,List.length_nil,Nat.zero_add]) <;> (repeat' apply And.intro) <;> first | (rw [wrapK (by omega)];done) | (simp;done) | omega) | fail))⟩)⟩
 ·rw [if_neg g] at hA ⊢
  refine callT hA (.inl (by simp [roL,roA,treeL,treeC])) ?_
  (repeat' (first|refine go ?_ | exact .intro | refine sp (fun _=>?_) fun _=>?_|(with_reducible refine aDraw_quiet (by kernel_rfl) ?_)))
  all_goals exact ⟨[eU c2],[],⟨rfl,rfl⟩,trivial,⟨rfl,by simp [AV.ltL,AV.lt],by simp⟩,(weak_ren1 [4] ⟨(by decide),(by (first | ((simp only [envInR,tabInR,envLt,tabLt,AObj.lt,AV.lt,AV.ltL,AV.ren,AV.renL,AObj.ren,List.getD_cons_zero,List.getD_cons_succ,List.length_cons,List.length_nil,ruW,ASt.get,aget,ASt.put,↓reduceIte,reduceCtorEq,Nat.reduceLT,Nat.reduceEqDiff,Nat.reduceAdd,Nat.reduceLeDiff,eq_self,implies_true,tabN,List.length_nil,Nat.zero_add]) <;> (repeat' apply And.intro) <;> first | (rw [wrapK (by omega)];done) | (simp;done) | omega) | fail))⟩)⟩
end
section
open Go.RowKit
theorem idleR_A (v:Mv):ADet Tryz.prog 60 [.agg (eMv v)] (val (.bool (idleM v))):=by
 refine adet_of_code mixedT Tryz.func60 rfl (by decide) Tryz.ntmps60 Tryz.results60 rfl (val_ok _) ?_
 unfold idleM
 (repeat' (first|refine go ?_ | exact .intro | refine sp (fun _=>?_) fun _=>?_))
 all_goals grind
theorem take_snocI (l:List Int) {k:Nat} (h:k<l.length):((l.take (k+1)).map fun n=>[eI n])=((l.take k).map fun n=>[eI n]) ++ [[eI l[k]]]:=take_snoc (fun n=>[eI n]) l h
theorem setVals_at (sets mv vals:List Int) (i:Nat) (hi:i<vals.length) (k:Nat) (hk:k<sets.length) (hm:k<mv.length) :
  (setVals sets mv vals (k+1))[i]'(by rw [setVals_len];exact hi)=if sets[k]=(i:Int) then mv[k] else (setVals sets mv vals k)[i]'(by rw [setVals_len];exact hi):=by
 have e:setVals sets mv vals (k+1)=if 0≤sets[k] ∧ sets[k]<((setVals sets mv vals k).length:Int) then (setVals sets mv vals k).set (sets[k]).toNat mv[k] else setVals sets mv vals k:=by
  rw [setVals]
  simp only [List.getD_eq_getElem?_getD,List.getElem?_eq_getElem hk,List.getElem?_eq_getElem hm,Option.getD_some]
 have hl:=setVals_len sets mv vals k
 simp only [e]
 by_cases h:sets[k]=(i:Int)
 ·rw [if_pos h]
  have h2:0≤sets[k] ∧ sets[k]<((setVals sets mv vals k).length:Int):=by omega
  simp only [if_pos h2]
  rw [List.getElem_set,if_pos (by omega)]
 ·rw [if_neg h]
  by_cases h2:0≤sets[k] ∧ sets[k]<((setVals sets mv vals k).length:Int)
  ·simp only [if_pos h2]
   rw [List.getElem_set_ne (by omega)]
  ·simp only [if_neg h2]
theorem take19_A (m:Mod) (s:St) (v:Mv) (e:Nat) (x:Ev) (he:v.event=(e:Int)) (hlt:e<m.events.length) (hx:m.events[e]=x) (hd:e<s.did.length) (hc:e<s.cnt.length) (hv:x.sets.length=v.vals.length) (hu:0≤v.user ∧ v.user<31) (hdid:ok64 s.did[e]) (hce:s.cnt.length=m.events.length)
  (hl1:s.vals.length≤1000000) (hl2:s.did.length≤1000000) (hl3:s.cnt.length≤1000000) (hl4:x.sets.length≤1000000) (hw:0<x.times → -9223372036854775808≤s.cnt[e] ∧ s.cnt[e]<9223372036854775807) :
  ADet Tryz.prog 61 [.agg (eMod m),.agg (eSt s),.agg (eMv v)] ⟨.agg (eSt (takeM m s v)),[],0⟩:=by
 obtain ⟨ve,vu,vv⟩:=v
 simp only at he hv hu
 subst he
 have ee:evAt m (e:Int)=some x:=by simp [evAt,hlt,hx]
 have et:takeM m s ⟨(e:Int),vu,vv⟩=⟨setVals x.sets vv s.vals x.sets.length,s.opn,s.don,s.did.set e (withB s.did[e] vu),if 0<x.times then s.cnt.set e (s.cnt[e]+1) else s.cnt⟩:=by
  unfold takeM
  simp only [ee,Int.toNat_natCast,List.getD_eq_getElem?_getD,List.getElem?_eq_getElem hd,List.getElem?_eq_getElem hc,Option.getD_some]
 rw [et]
 obtain ⟨V,hV⟩:∃ V,setVals x.sets vv s.vals x.sets.length=V:=⟨_,rfl⟩
 obtain ⟨D,hD⟩:∃ D,s.did.set e (withB s.did[e] vu)=D:=⟨_,rfl⟩
 obtain ⟨C,hC⟩:∃ C,(if 0<x.times then s.cnt.set e (s.cnt[e]+1) else s.cnt)=C:=⟨_,rfl⟩
 have hVl:V.length=s.vals.length:=by rw [← hV,setVals_len]
 have hDl:D.length=s.did.length:=by rw [← hD,List.length_set]
 have hCl:C.length=s.cnt.length:=by rw [← hC];split <;> simp
 rw [hV,hD,hC]
 refine ADet.still (R:=⟨.agg [.osl 0,eI s.opn,eI s.don,.osl 1,.osl 2],[(0,some (.row 2 1 (V.map fun n=>[eI n]))),(1,some (.row 3 1 (D.map fun n=>[eI n]))),(2,some (.row 3 1 (C.map fun n=>[eI n])))],3⟩) [0,1,2] ?_ ?_ (by simp [AV.lt,AV.ltL])
 ·refine adet_of_code mixedT Tryz.func61 rfl (by decide) Tryz.ntmps61 Tryz.results61 rfl (tab_ok (by simp [tabLt,AObj.lt,AV.ltL,AV.lt]) (by simp [AV.lt,AV.ltL])) ?_
  (repeat' (first|refine go ?_ | exact .intro | refine sp (fun _=>?_) fun _=>?_))
  refine aLoop_of (fun st'=>∃ i:Nat,i≤s.vals.length ∧ st'=⟨134,[(3,.op 0 0 0),(4,.op 1 0 0),(5,.op 2 0 0),(6,.op 3 0 0),(7,.op 4 0 0),(8,eI (i:Int))],[(0,some (.box 32 (eMod m))),(1,some (.box 69 (eSt s))),(2,some (.box 63 [eI (e:Int),eI vu,sI vv])),(3,some (.box 69 [.c (.slice none 0 0),eI 0,eI 0,.c (.slice none 0 0),.c (.slice none 0 0)])),(4,some (.box 69 [.osl 5,eI s.opn,eI s.don,.c (.slice none 0 0),.c (.slice none 0 0)])),(5,some (.row 2 1 ((V.take i).map fun n=>[eI n])))],6⟩) (fun st'=>s.vals.length - slotN st' 8)
   ⟨_,(weak_nilbox 4 0 2 1 (t:=69) (cells:=[.c (.slice none 0 0),eI s.opn,eI s.don,.c (.slice none 0 0),.c (.slice none 0 0)]) (by simp [ATab.get_cons]) rfl).trans (wE (kf @List.set_cons_zero.{0} @List.take_zero.{0})),0,Nat.zero_le _,rfl⟩ ?_
  rintro _ ⟨i,hi,rfl⟩
  by_cases hi2:i<s.vals.length
  ·(repeat' (first|refine go ?_|simp only [row_at,hi2] | exact .intro | refine sp (fun _=>?_) fun _=>?_))
   have hVi:i<V.length:=by omega
   have hg:∀ k,i<(setVals x.sets vv s.vals k).length:=fun k=>by rw [setVals_len];exact hi2
   have e0:(setVals x.sets vv s.vals 0)[i]'(hg 0)=s.vals[i]:=rfl
   refine aLoop_of (fun st'=>∃ k:Nat,k≤x.sets.length ∧ ∃ n,n=(setVals x.sets vv s.vals k)[i]'(hg k) ∧ st'=⟨134,[(3,.op 0 0 0),(4,.op 1 0 0),(5,.op 2 0 0),(6,.op 3 0 0),(7,.op 4 0 0),(8,eI (i:Int)),(9,eI n),(10,eI (k:Int))],[(0,some (.box 32 (eMod m))),(1,some (.box 69 (eSt s))),(2,some (.box 63 [eI (e:Int),eI vu,sI vv])),(3,some (.box 69 [.c (.slice none 0 0),eI 0,eI 0,.c (.slice none 0 0),.c (.slice none 0 0)])),(4,some (.box 69 [.osl 5,eI s.opn,eI s.don,.c (.slice none 0 0),.c (.slice none 0 0)])),(5,some (.row 2 1 ((V.take i).map fun n=>[eI n])))],6⟩) (fun st'=>x.sets.length - slotN st' 10) ⟨_,wC,0,Nat.zero_le _,_,e0.symm,rfl⟩ ?_
   rintro _ ⟨k,hk,n,hn,rfl⟩
   by_cases hk2:k<x.sets.length
   ·have hkv:k<vv.length:=by omega
    obtain ⟨a,ha⟩:∃ a,x.sets[k]=a:=⟨_,rfl⟩
    have hst:=setVals_at x.sets vv s.vals i hi2 k hk2 hkv
    rw [← hn,ha] at hst
    (repeat' (first|refine go ?_|simp only [row_at,hlt,hx,hk2,hkv,ha] | exact .intro | refine sp (fun _=>?_) fun _=>?_))
    ·rename_i h
     simp at h
     refine rI wC ⟨k+1,by omega,vv[k],?_,rfl⟩
     rw [hst,if_pos h]
    ·rename_i h
     simp at h
     refine rI wC ⟨k+1,by omega,n,?_,rfl⟩
     rw [hst,if_neg h]
   ·obtain rfl:k=x.sets.length:=by omega
    have hkv:(x.sets.length<vv.length)=False:=by simp;omega
    have hn2:n=V[i]:=by rw [hn];simp only [hV]
    have htk:(V.take (i+1)).map (fun n=>[eI n])=(V.take i).map (fun n=>[eI n]) ++ [[eI n]]:=by rw [take_snocI V hVi,hn2]
    have htl:(V.take i).length≤1000000:=by rw [List.length_take];omega
    (repeat' (first|refine go ?_|simp only [row_at,hlt,hx,hkv] | exact .intro | refine sp (fun _=>?_) fun _=>?_))
    exact ⟨rfl,⟨by omega,by omega⟩,rI (wS [0,1,2,3,4,7] @htk) ⟨i+1,by omega,rfl⟩⟩
  ·obtain rfl:i=s.vals.length:=by omega
   have hVt:V.take s.vals.length=V:=by rw [← hVl];exact List.take_length
   (repeat' (first|refine ge (kf hi2 @hVt) ?_ | exact .intro | refine sp (fun _=>?_) fun _=>?_))
   refine aLoop_of (fun st'=>∃ i:Nat,i≤s.did.length ∧ st'=⟨134,[(3,.op 0 0 0),(4,.op 1 0 0),(5,.op 2 0 0),(6,.op 3 0 0),(7,.op 4 0 0),(11,eI (i:Int))],[(0,some (.box 32 (eMod m))),(1,some (.box 69 (eSt s))),(2,some (.box 63 [eI (e:Int),eI vu,sI vv])),(3,some (.box 69 [.c (.slice none 0 0),eI 0,eI 0,.c (.slice none 0 0),.c (.slice none 0 0)])),(4,some (.box 69 [.osl 5,eI s.opn,eI s.don,.osl 6,.c (.slice none 0 0)])),(5,some (.row 2 1 (V.map fun n=>[eI n]))),(6,some (.row 3 1 ((D.take i).map fun n=>[eI n])))],7⟩) (fun st'=>s.did.length - slotN st' 11)
    ⟨_,(weak_nilbox 4 3 3 1 (t:=69) (cells:=[.osl 5,eI s.opn,eI s.don,.c (.slice none 0 0),.c (.slice none 0 0)]) (by simp [ATab.get_cons]) rfl).trans (wE (kf @List.set_cons_zero.{0} (kf @List.set_cons_succ.{0} @List.take_zero.{0}))),0,Nat.zero_le _,rfl⟩ ?_
   rintro _ ⟨i,hi,rfl⟩
   by_cases hi3:i<s.did.length
   ·have hDi:i<D.length:=by omega
    have htl:(D.take i).length≤1000000:=by rw [List.length_take];omega
    have hpt:=put_A s.did[e] vu true hdid hu.1 hu.2
    rw [if_pos rfl] at hpt
    by_cases hie:i=e
    ·subst hie
     have hDe:D[i]=withB s.did[i] vu:=by simp only [← hD,List.getElem_set_self]
     have htk:(D.take (i+1)).map (fun n=>[eI n])=(D.take i).map (fun n=>[eI n]) ++ [[eI (withB s.did[i] vu)]]:=by rw [take_snocI D hDi,hDe]
     have hq:(((i:Nat):Int) == ((i:Nat):Int))=true:=by simp
     (repeat' (first|refine go ?_|simp only [row_at,hi3,hq] | exact .intro | refine sp (fun _=>?_) fun _=>?_|(with_reducible refine aDraw_quiet (by kernel_rfl) ?_) | ((with_reducible apply callV);exact (hpt)) | ((with_reducible apply callD);exact (hpt))))
     exact ⟨rfl,⟨by omega,by omega⟩,rI (wS [0,1,2,3,4,5,8] @htk) ⟨i+1,by omega,rfl⟩⟩
    ·have hDe:D[i]=s.did[i]:=by simp only [← hD];rw [List.getElem_set_ne (Ne.symm hie)]
     have htk:(D.take (i+1)).map (fun n=>[eI n])=(D.take i).map (fun n=>[eI n]) ++ [[eI s.did[i]]]:=by rw [take_snocI D hDi,hDe]
     have hq:(((i:Nat):Int) == ((e:Nat):Int))=false:=by simp;omega
     (repeat' (first|refine go ?_|simp only [row_at,hi3,hq] | exact .intro | refine sp (fun _=>?_) fun _=>?_|(with_reducible refine aDraw_quiet (by kernel_rfl) ?_) | ((with_reducible apply callV);exact (hpt)) | ((with_reducible apply callD);exact (hpt))))
     exact ⟨rfl,⟨by omega,by omega⟩,rI (wS [0,1,2,3,4,5,8] @htk) ⟨i+1,by omega,rfl⟩⟩
   ·obtain rfl:i=s.did.length:=by omega
    have hDt:D.take s.did.length=D:=by rw [← hDl];exact List.take_length
    (repeat' (first|refine ge (kf hi3 @hDt) ?_ | exact .intro | refine sp (fun _=>?_) fun _=>?_))
    refine aLoop_of (fun st'=>∃ i:Nat,i≤s.cnt.length ∧ st'=⟨134,[(3,.op 0 0 0),(4,.op 1 0 0),(5,.op 2 0 0),(6,.op 3 0 0),(7,.op 4 0 0),(13,eI (i:Int))],[(0,some (.box 32 (eMod m))),(1,some (.box 69 (eSt s))),(2,some (.box 63 [eI (e:Int),eI vu,sI vv])),(3,some (.box 69 [.c (.slice none 0 0),eI 0,eI 0,.c (.slice none 0 0),.c (.slice none 0 0)])),(4,some (.box 69 [.osl 5,eI s.opn,eI s.don,.osl 6,.osl 7])),(5,some (.row 2 1 (V.map fun n=>[eI n]))),(6,some (.row 3 1 (D.map fun n=>[eI n]))),(7,some (.row 3 1 ((C.take i).map fun n=>[eI n])))],8⟩) (fun st'=>s.cnt.length - slotN st' 13)
     ⟨_,(weak_nilbox 4 4 3 1 (t:=69) (cells:=[.osl 5,eI s.opn,eI s.don,.osl 6,.c (.slice none 0 0)]) (by simp [ATab.get_cons]) rfl).trans (wE (kf @List.set_cons_zero.{0} (kf @List.set_cons_succ.{0} @List.take_zero.{0}))),0,Nat.zero_le _,rfl⟩ ?_
    rintro _ ⟨i,hi,rfl⟩
    by_cases hi4:i<s.cnt.length
    ·have hCi:i<C.length:=by omega
     have hie5:i<m.events.length:=by omega
     have htl:(C.take i).length≤1000000:=by rw [List.length_take];omega
     by_cases hie:i=e
     ·subst hie
      by_cases hti:0<x.times
      ·have hw':=hw hti
       have ew:IntKind.i64.wrap (s.cnt[i]+1)=s.cnt[i]+1:=wrap_in (by omega) (by omega)
       have hCe:C[i]=s.cnt[i]+1:=by simp only [← hC,if_pos hti,List.getElem_set_self]
       have htk:(C.take (i+1)).map (fun n=>[eI n])=(C.take i).map (fun n=>[eI n]) ++ [[eI (s.cnt[i]+1)]]:=by rw [take_snocI C hCi,hCe]
       have hq:(((i:Nat):Int) == ((i:Nat):Int))=true:=by simp
       (repeat' (first|refine go ?_|simp only [row_at,hi4,hq,hie5,hx,hti,ew] | exact .intro | refine sp (fun _=>?_) fun _=>?_|(with_reducible refine aDraw_quiet (by kernel_rfl) ?_)))
       exact ⟨rfl,⟨by omega,by omega⟩,rI (wS [0,1,2,3,4,5,6,9] @htk) ⟨i+1,by omega,rfl⟩⟩
      ·have hCe:C[i]=s.cnt[i]:=by simp only [← hC,if_neg hti]
       have htk:(C.take (i+1)).map (fun n=>[eI n])=(C.take i).map (fun n=>[eI n]) ++ [[eI s.cnt[i]]]:=by rw [take_snocI C hCi,hCe]
       have hq:(((i:Nat):Int) == ((i:Nat):Int))=true:=by simp
       (repeat' (first|refine go ?_|simp only [row_at,hi4,hq,hie5,hx,hti] | exact .intro | refine sp (fun _=>?_) fun _=>?_|(with_reducible refine aDraw_quiet (by kernel_rfl) ?_)))
       exact ⟨rfl,⟨by omega,by omega⟩,rI (wS [0,1,2,3,4,5,6,9] @htk) ⟨i+1,by omega,rfl⟩⟩
     ·have hCe:C[i]=s.cnt[i]:=by
       simp only [← hC]
       split
       ·rw [List.getElem_set_ne (Ne.symm hie)]
       ·rfl
      have htk:(C.take (i+1)).map (fun n=>[eI n])=(C.take i).map (fun n=>[eI n]) ++ [[eI s.cnt[i]]]:=by rw [take_snocI C hCi,hCe]
      have hq:(((i:Nat):Int) == ((e:Nat):Int))=false:=by simp;omega
      (repeat' (first|refine go ?_|simp only [row_at,hi4,hq] | exact .intro | refine sp (fun _=>?_) fun _=>?_|(with_reducible refine aDraw_quiet (by kernel_rfl) ?_)))
      exact ⟨rfl,⟨by omega,by omega⟩,rI (wS [0,1,2,3,4,5,6,9] @htk) ⟨i+1,by omega,rfl⟩⟩
    ·obtain rfl:i=s.cnt.length:=by omega
     have hCt:C.take s.cnt.length=C:=by rw [← hCl];exact List.take_length
     (repeat' (first|refine ge (kf hi4 @hCt) ?_ | exact .intro | refine sp (fun _=>?_) fun _=>?_))
     exact ⟨[5,6,7],by decide,rfl,by simp [aTabs,ATab.get_cons]⟩
 ·simp [Res.frzs,Res.frz,ATab.get_cons,AV.frz,AV.frzL,frzTab,AObj.frz]
end
end
section
section
open Go.RowKit
structure OkS (s:St):Prop where
 opn:ok64 s.opn
 don:ok64 s.don
 did:∀ x ∈ s.did,ok64 x
theorem may19_A (m:Mod) (s:St) (v:Mv) (hf:Fit m) (hr:∀ p ∈ m.roles,ok64 p.2) (hs:OkS s):ADet Tryz.prog 59 [.agg (eMod m),.agg (eSt s),.agg (eMv v)] (val (.int .i64 (mayM m s v))):=by
 refine adet_of_code mixedT Tryz.func59 rfl (by decide) Tryz.ntmps59 Tryz.results59 rfl (val_ok _) ?_
 obtain ⟨hgl,hml,hsl,hel,hal,hul,hrl,hsol,hol,hil⟩:=id hf.sizes
 obtain ⟨ve,vu,vv⟩:=v
 have hany:=anyR_A m s (by omega) (by omega) (by omega) (by omega) hs.opn hs.don hr hs.did
 have hchk:=checkR_A m s (by omega) hs.opn hs.don hs.did
 cases hid:idleM ⟨ve,vu,vv⟩ with
 | true=>
  unfold mayM
  simp only [hid]
  (repeat' (first|refine ge @hid ?_ | exact .intro | refine sp (fun _=>?_) fun _=>?_|(with_reducible refine aDraw_quiet (by kernel_rfl) ?_) | ((with_reducible apply callV);exact (hchk)) | ((with_reducible apply callD);exact (hchk))|((with_reducible first|apply callV (g:=60)|apply callD (g:=60));exact (idleR_A ⟨ve,vu,vv⟩)) | ((with_reducible apply callV);exact (hany)) | ((with_reducible apply callD);exact (hany))))
  all_goals grind
 | false=>
  have henb:=enabledR_A m s ve vu (by omega) (by omega) hs.opn hs.don hr hs.did
  cases hen:enabledM m s ve vu with
  | false=>
   unfold mayM
   simp only [hid,hen]
   (repeat' (first|refine ge (kf @hid @hen) ?_ | exact .intro | refine sp (fun _=>?_) fun _=>?_|(with_reducible refine aDraw_quiet (by kernel_rfl) ?_) | ((with_reducible apply callV);exact (hchk)) | ((with_reducible apply callD);exact (hchk))|((with_reducible first|apply callV (g:=60)|apply callD (g:=60));exact (idleR_A ⟨ve,vu,vv⟩)) | ((with_reducible apply callV);exact (henb)) | ((with_reducible apply callD);exact (henb))))
   all_goals grind
  | true=>
   obtain ⟨k,rfl,hk,hk2⟩:=evAt_some hen
   have hsl:setsLen m (k:Int)=m.events[k].sets.length:=by simp [setsLen,hk]
   unfold mayM
   simp only [hid,hen,hsl]
   (repeat' (first|refine go ?_|simp only [hid,hen,row_at,hk] | exact .intro | refine sp (fun _=>?_) fun _=>?_|(with_reducible refine aDraw_quiet (by kernel_rfl) ?_) | ((with_reducible apply callV);exact (hchk)) | ((with_reducible apply callD);exact (hchk))|((with_reducible first|apply callV (g:=60)|apply callD (g:=60));exact (idleR_A ⟨(k:Int),vu,vv⟩)) | ((with_reducible apply callV);exact (henb)) | ((with_reducible apply callD);exact (henb))))
   all_goals grind
theorem do19_A (m:Mod) (s:St) (v:Mv) (hf:Fit m) (hfs:FitS s) (hvl:v.vals.length≤1000000) (hp:∀ p ∈ m.stages,ok64 p.2) (hr:∀ p ∈ m.roles,ok64 p.2) (hs:OkS s) (ht:∀ e ∈ m.events,ok64 e.times) :
  ADet Tryz.prog 26 [.agg (eMod m),.agg (eSt s),.agg (eMv v)] ⟨.tup [.agg (eSt (doM m s v).1),eI (doM m s v).2],[],0⟩:=by
 refine ARel.tree (Post:=fun R=>∃ ids,(R.frzs ids).r.lt 0 ∧ FitsT (R.frzs ids).r (.tup [.agg (eSt (doM m s v).1),eI (doM m s v).2])) ?_ (by simp [AV.lt,AV.ltL]) fun R h=>h
 refine arel_of_code mixedT Tryz.func26 rfl (by decide) Tryz.ntmps26 Tryz.results26 rfl ?_
 have hmay:=may19_A m s v hf hr hs
 have hnil:FitsT (.tup [.agg [.c (.slice none 0 0),eI 0,eI 0,.c (.slice none 0 0),.c (.slice none 0 0)],eI (mayM m s v)]) (.tup [.agg (eSt stNil),eI (mayM m s v)]):=.tup ⟨.agg ⟨.nil 1,.refl _,.refl _,.nil 1,.nil 1,trivial⟩,.one (.refl _),trivial⟩
 have hz:((0:Int) != 0)=false:=by decide
 by_cases h0:mayM m s v=0
 ·cases hid:idleM v with
  | true=>
   have ed:doM m s v=(s,0):=by simp [doM,h0,hid]
   rw [ed]
   (repeat' (first|refine ge (kf h0 (kf hz @hid)) ?_ | exact .intro | refine sp (fun _=>?_) fun _=>?_|(with_reducible refine aDraw_quiet (by kernel_rfl) ?_) | ((with_reducible apply callV);exact (hmay)) | ((with_reducible apply callD);exact (hmay))|((with_reducible first|apply callV (g:=60)|apply callD (g:=60));exact (idleR_A v))))
   all_goals first
    | exact retT (by simp [AV.ren,AV.renL]) (by simp [AV.lt,AV.ltL]) (.tup ⟨.one (.refl _),.one (.refl _),trivial⟩)
    | trace_state
  | false=>
   have ed:doM m s v=(passM m v.event (takeM m s v) m.order.length,0):=by simp [doM,h0,hid]
   rw [ed]
   have hen:enabledM m s v.event v.user=true ∧ v.vals.length=setsLen m v.event ∧ chkS m s=true:=by
    unfold mayM at h0
    grind
   obtain ⟨k,hke,hk,hk2⟩:=evAt_some hen.1
   have hsl:setsLen m v.event=m.events[k].sets.length:=by simp [setsLen,hk,hke]
   obtain ⟨hl1,hl2,hl3⟩:=hfs
   have hck:=hen.2.2
   unfold chkS at hck
   simp only [Bool.and_eq_true,decide_eq_true_eq] at hck
   obtain ⟨⟨⟨⟨⟨hc1,hc2⟩,hc3⟩,hc4⟩,hc5⟩,hall⟩:=hck
   have hd:k<s.did.length:=by omega
   have hcn:k<s.cnt.length:=by omega
   have hat:=(allN_iff _ _).1 hall k hk
   simp only [chkAt,List.getD_eq_getElem?_getD,List.getElem?_eq_getElem hd,List.getElem?_eq_getElem hcn,List.getElem?_eq_getElem hk,Option.getD_some,Option.map_some,Bool.and_eq_true,decide_eq_true_eq] at hat
   have hfm:freeM m s v.event v.user=true:=by
    have h2:=hen.1
    unfold enabledM at h2
    simp only [Bool.and_eq_true] at h2
    exact h2.1
   unfold freeM at hfm
   rw [hk2] at hfm
   simp only [Bool.and_eq_true,Bool.or_eq_true,decide_eq_true_eq] at hfm
   have hus:0≤v.user ∧ v.user<31:=by
    have h3:=hfm.1.2
    unfold ofR at h3
    simp only [Bool.and_eq_true,decide_eq_true_eq] at h3
    have:=hf.sizes.2.2.2.2.2.1
    omega
   have hfree:0<m.events[k].times → s.cnt[k]<m.events[k].times:=fun h1=>by
    have h3:=hfm.2
    unfold atI at h3
    rw [hke,if_pos (by omega)] at h3
    simp only [Int.toNat_natCast,List.getD_eq_getElem?_getD,List.getElem?_eq_getElem hcn,Option.getD_some] at h3
    omega
   have htm:=ht _ (List.getElem_mem hk)
   unfold ok64 at htm
   have htk:=take19_A m s v k m.events[k] hke hk rfl hd hcn (by omega) hus (hs.did _ (List.getElem_mem hd)) hc3 (by omega) (by omega) (by omega) (by omega) (fun h1=>by have:=hfree h1;omega)
   have hopn:(takeM m s v).opn=s.opn ∧ (takeM m s v).don=s.don:=by unfold takeM;split <;> exact ⟨rfl,rfl⟩
   have hps:=pass18_A m (takeM m s v) v.event hf hp (by rw [hopn.1];exact ofB_31 hc4) (by rw [hopn.2];exact ofB_31 hc5)
   (repeat' (first|refine ge (kf h0 (kf hz @hid)) ?_ | exact .intro | refine sp (fun _=>?_) fun _=>?_))
   refine callV hmay ?_
   (repeat' (first|refine ge (kf h0 (kf hz @hid)) ?_ | exact .intro | refine sp (fun _=>?_) fun _=>?_))
   refine callV (by exact idleR_A v) ?_
   (repeat' (first|refine ge (kf h0 (kf hz @hid)) ?_ | exact .intro | refine sp (fun _=>?_) fun _=>?_))
   refine aDraw_held [3] [0,1,2,3,5,6] (.exec 4 (.exec 7 (.exec 8 (.exec 9 .done)))) (by kernel_rfl) (by simp [ATab.get_cons]) ?_
   (repeat' (first|refine ge (kf h0 (kf hz @hid)) ?_ | exact .intro | refine sp (fun _=>?_) fun _=>?_|(with_reducible refine aDraw_quiet (by kernel_rfl) ?_) | ((with_reducible apply callT);exact (htk);exact (.inl (by simp [roL,roA,treeL,treeC]))) | ((with_reducible apply callT);exact (hps);exact (.inl (by simp [roL,roA,treeL,treeC])))))
   all_goals first
    | exact retT (by simp [AV.ren,AV.renL]) (by simp [AV.lt,AV.ltL]) (.tup ⟨.one (.refl _),.one (.refl _),trivial⟩)
    | trace_state
 ·have ed:doM m s v=(stNil,mayM m s v):=by simp [doM,h0]
  have h0':(mayM m s v != 0)=true:=by simp [h0]
  rw [ed]
  (repeat' (first|refine ge h0' ?_ | exact .intro | refine sp (fun _=>?_) fun _=>?_|(with_reducible refine aDraw_quiet (by kernel_rfl) ?_) | ((with_reducible apply callV);exact (hmay)) | ((with_reducible apply callD);exact (hmay))|((with_reducible first|apply callV (g:=60)|apply callD (g:=60));exact (idleR_A v))))
  all_goals first
   | exact retT (by simp [AV.ren,AV.renL]) (by simp [AV.lt,AV.ltL]) hnil
   | trace_state
end
section
open Go.RowKit
theorem ofB_mk {s:Int} {n:Nat} (h1:inR s) (h2:∀ i:Nat,n≤i → i<31 → hasB s (i:Int)=false):ofB s (n:Int)=true:=(ofB_bits s n h1).2 h2
theorem ofB_bit {s:Int} {n:Nat} (h:ofB s (n:Int)=true) {i:Nat} (hi:n≤i) (hl:i<31):hasB s (i:Int)=false:=(ofB_bits s n (ofB_31 h)).1 h i hi hl
theorem ofB_with {s:Int} {n:Nat} {i:Int} (h:ofB s (n:Int)=true) (h0:0≤i) (h1:i<n):ofB (withB s i) (n:Int)=true:=ofB_mk (withB_in s i) fun j hj hl=>by
 rw [hasB_with,ofB_bit h hj hl]
 have:((j:Int) == i)=false:=by simp;omega
 simp [this]
theorem ofB_fold {s:Int} {n:Nat} {l:List Int} (h:ofB s (n:Int)=true):ofB (l.foldl withoutB s) (n:Int)=true:=ofB_mk (fold_in l s (ofB_31 h)) fun j hj hl=>by
 rw [Bool.eq_false_iff]
 intro h2
 have:=((hasB_fold l s (j:Int)).1 h2).1
 rw [ofB_bit h hj hl] at this
 cases this
theorem ofB_undo {l:List Ml} {st d:Int} {n:Nat} (h:ofB d (n:Int)=true) (k:Nat):ofB (undo l st d k) (n:Int)=true:=ofB_mk (undo_in l st d (ofB_31 h) k) fun j hj hl=>by
 rw [Bool.eq_false_iff]
 intro h2
 have:=(hasB_undo l st d j k h2).1
 rw [ofB_bit h hj hl] at this
 cases this
theorem sentry_mile {m:Mod} {x:Bool × Int} {st ev mi:Int} {cond:List Inst} (hx:x.1=true) (h:sentryM m x=some (st,ev,cond,mi)):0≤mi ∧ mi<(m.miles.length:Int):=by
 unfold sentryM at h
 rw [if_pos hx] at h
 split at h
 ·rename_i h0
  cases hk:m.miles[x.2.toNat]? with
  | none=>rw [hk] at h;cases h
  | some K=>
   rw [hk] at h
   simp at h
   have:=(List.getElem?_eq_some_iff.1 hk).1
   rw [← h.2.2.2]
   omega
 ·cases h
theorem turn_of {m:Mod} {event:Int} {s:St} {x:Bool × Int} (h1:ofB s.opn (m.stages.length:Int)=true) (h2:ofB s.don (m.miles.length:Int)=true):ofB (turnM m event s x).opn (m.stages.length:Int)=true ∧ ofB (turnM m event s x).don (m.miles.length:Int)=true:=by
 unfold turnM
 split
 ·unfold fireM
  cases hx:sentryM m x with
  | none=>exact ⟨h1,h2⟩
  | some q=>
   obtain ⟨st,ev,cond,mi⟩:=q
   simp only
   split
   ·rename_i hin
    have hst:0≤st ∧ st<(m.stages.length:Int):=by simpa [inS] using hin
    split
    ·rename_i hm
     have hmi:=sentry_mile hm hx
     exact ⟨ofB_fold h1,ofB_with h2 hmi.1 hmi.2⟩
    ·exact ⟨ofB_with h1 hst.1 hst.2,ofB_undo h2 _⟩
   ·exact ⟨h1,h2⟩
 ·exact ⟨h1,h2⟩
theorem fold_of {m:Mod} {event:Int}:∀ (l:List (Bool × Int)) {s:St},ofB s.opn (m.stages.length:Int)=true → ofB s.don (m.miles.length:Int)=true → ofB (l.foldl (turnM m event) s).opn (m.stages.length:Int)=true ∧ ofB (l.foldl (turnM m event) s).don (m.miles.length:Int)=true
 | [],s,h1,h2=>⟨h1,h2⟩
 | x :: l,s,h1,h2=>by
  obtain ⟨h3,h4⟩:=turn_of (event:=event) (x:=x) h1 h2
  exact fold_of l h3 h4
theorem enabled_is {m:Mod} {s:St} {e:Nat} {u:Int} (h:enabledM m s (e:Int) u=true):∃ he:e<m.events.length,0≤u ∧ u<(m.users.length:Int) ∧ (m.events[e].times≤0 ∨ atI s.cnt (e:Int)<m.events[e].times):=by
 obtain ⟨k,hk,hlt,hx⟩:=evAt_some h
 obtain rfl:e=k:=by omega
 refine ⟨hlt,?_⟩
 unfold enabledM freeM at h
 rw [hx] at h
 simp only [Bool.and_eq_true,Bool.or_eq_true,decide_eq_true_eq,ofR] at h
 obtain ⟨⟨⟨_,h1⟩,h2⟩,_⟩:=h
 exact ⟨h1.1.1.2,h1.1.2,h2⟩
theorem chk_iff {m:Mod} {s:St}:chkS m s=true ↔ s.vals.length=m.attrs.length ∧ s.did.length=m.events.length ∧ s.cnt.length=m.events.length ∧ ofB s.opn (m.stages.length:Int)=true ∧ ofB s.don (m.miles.length:Int)=true ∧ ∀ i,i<m.events.length → chkAt m s i=true:=by
 unfold chkS
 simp only [Bool.and_eq_true,decide_eq_true_eq,allN_iff,and_assoc]
theorem chkAt_iff {m:Mod} {s:St} {i:Nat} (hi:i<m.events.length):chkAt m s i=true ↔ ofB (s.did.getD i 0) (m.users.length:Int)=true ∧ 0≤s.cnt.getD i 0 ∧ s.cnt.getD i 0≤m.events[i].times:=by
 unfold chkAt
 simp [hi,and_assoc]
theorem take_is {m:Mod} {s:St} {e:Nat} {u:Int} {vals:List Int} (he:e<m.events.length):takeM m s ⟨(e:Int),u,vals⟩=⟨setVals m.events[e].sets vals s.vals m.events[e].sets.length,s.opn,s.don,s.did.set e (withB (s.did.getD e 0) u),if 0<m.events[e].times then s.cnt.set e (s.cnt.getD e 0+1) else s.cnt⟩:=by
 unfold takeM evAt
 simp [he]
theorem chk_move {m:Mod} {s:St} {e:Nat} {u:Int} {vals:List Int} (hc:chkS m s=true) (hen:enabledM m s (e:Int) u=true) (k:Nat):chkS m (passM m (e:Int) (takeM m s ⟨(e:Int),u,vals⟩) k)=true:=by
 obtain ⟨he,hu0,hu1,htm⟩:=enabled_is hen
 obtain ⟨h1,h2,h3,h4,h5,h6⟩:=chk_iff.1 hc
 obtain ⟨v1,v2,v3⟩:=fold_vals m (e:Int) (m.order.take k) (takeM m s ⟨(e:Int),u,vals⟩)
 have ht:=take_is (m:=m) (s:=s) (u:=u) (vals:=vals) he
 have hof:=fold_of (m:=m) (event:=(e:Int)) (m.order.take k) (s:=takeM m s ⟨(e:Int),u,vals⟩) (by rw [ht];exact h4) (by rw [ht];exact h5)
 unfold passM
 refine chk_iff.2 ⟨?_,?_,?_,hof.1,hof.2,fun i hi=>(chkAt_iff hi).2 ?_⟩
 ·rw [v1,ht]
  simpa [setVals_len] using h1
 ·rw [v2,ht]
  simpa using h2
 ·rw [v3,ht]
  simp only
  split
  ·simpa using h3
  ·exact h3
 ·obtain ⟨g1,g2,g3⟩:=(chkAt_iff hi).1 (h6 i hi)
  rw [v2,v3,ht]
  simp only
  refine ⟨?_,?_⟩
  ·by_cases e1:i=e
   ·subst e1
    have:(s.did.set i (withB (s.did.getD i 0) u)).getD i 0=withB (s.did.getD i 0) u:=by simp [List.getD,show i<s.did.length by omega]
    rw [this]
    exact ofB_with g1 hu0 hu1
   ·have:(s.did.set e (withB (s.did.getD e 0) u)).getD i 0=s.did.getD i 0:=by simp [List.getD,List.getElem?_set,Ne.symm e1]
    rw [this]
    exact g1
  ·split
   ·rename_i hpos
    by_cases e1:i=e
    ·subst e1
     have:(s.cnt.set i (s.cnt.getD i 0+1)).getD i 0=s.cnt.getD i 0+1:=by simp [List.getD,show i<s.cnt.length by omega]
     rw [this]
     have ha:atI s.cnt (i:Int)=s.cnt.getD i 0:=by
      unfold atI
      rw [if_pos ⟨by omega,by omega⟩]
      rfl
     rw [ha] at htm
     omega
    ·have:(s.cnt.set e (s.cnt.getD e 0+1)).getD i 0=s.cnt.getD i 0:=by simp [List.getD,List.getElem?_set,Ne.symm e1]
     rw [this]
     exact ⟨g2,g3⟩
   ·exact ⟨g2,g3⟩
noncomputable def mvsE (m:Mod) (s:St) (e:Nat):List Mv:=(whoM m s (e:Int)).map fun u=>⟨(e:Int),u,List.replicate ((m.events[e]?.map (·.sets.length)).getD 0) 0⟩
noncomputable def mvsM (m:Mod) (s:St):Nat → List Mv
 | 0=>[]
 | e+1=>mvsM m s e ++ mvsE m s e
theorem filtN_mem {f:Nat → Bool}:∀ {n:Nat} {x:Int},x ∈ filtN f n ↔ ∃ k:Nat,k<n ∧ x=(k:Int) ∧ f k=true
 | 0,x=>by simp [filtN]
 | n+1,x=>by
  unfold filtN
  split
  ·rename_i h
   rw [List.mem_append,filtN_mem,List.mem_singleton]
   constructor
   ·rintro (⟨k,h1,h2,h3⟩ | rfl)
    ·exact ⟨k,by omega,h2,h3⟩
    ·exact ⟨n,by omega,rfl,h⟩
   ·rintro ⟨k,h1,h2,h3⟩
    by_cases e:k=n
    ·exact .inr (by rw [h2,e])
    ·exact .inl ⟨k,by omega,h2,h3⟩
  ·rename_i h
   rw [filtN_mem]
   constructor
   ·rintro ⟨k,h1,h2,h3⟩
    exact ⟨k,by omega,h2,h3⟩
   ·rintro ⟨k,h1,h2,h3⟩
    by_cases e:k=n
    ·exact absurd (e ▸ h3) h
    ·exact ⟨k,by omega,h2,h3⟩
structure MvOf (m:Mod) (s:St) (v:Mv) (e:Nat):Prop where
 ev:v.event=(e:Int)
 lt:e<m.events.length
 en:enabledM m s (e:Int) v.user=true
 len:v.vals.length=(m.events[e]?.map (·.sets.length)).getD 0
theorem mvs_of {m:Mod} {s:St}:∀ {n:Nat},n≤m.events.length → ∀ v ∈ mvsM m s n,∃ e,MvOf m s v e
 | 0,_,v,h=>by simp [mvsM] at h
 | n+1,hn,v,h=>by
  rw [mvsM,List.mem_append] at h
  rcases h with h|h
  ·exact mvs_of (by omega) v h
  ·obtain ⟨u,hu,rfl⟩:=List.mem_map.1 h
   obtain ⟨k,hk,rfl,hf⟩:=filtN_mem.1 hu
   exact ⟨n,rfl,by omega,hf,by simp⟩
theorem any_none {m:Mod} {s:St} (h:mvsM m s m.events.length=[]):anyM m s=false:=by
 rw [Bool.eq_false_iff]
 intro ha
 obtain ⟨e,he,h1⟩:=(anyN_iff _ _).1 ha
 obtain ⟨u,hu,h2⟩:=(anyN_iff _ _).1 h1
 have key:∀ n,e<n → ∃ v,v ∈ mvsM m s n:=by
  intro n hn
  induction n with
  | zero=>omega
  | succ n ih=>
   rw [mvsM]
   by_cases e1:e=n
   ·subst e1
    exact ⟨_,List.mem_append.2 (.inr (List.mem_map.2 ⟨(u:Int),filtN_mem.2 ⟨u,hu,rfl,h2⟩,rfl⟩))⟩
   ·obtain ⟨v,hv⟩:=ih (by omega)
    exact ⟨v,List.mem_append.2 (.inl hv)⟩
 obtain ⟨v,hv⟩:=key _ he
 rw [h] at hv
 cases hv
theorem may_of {m:Mod} {s:St} {v:Mv} {e:Nat} (hc:chkS m s=true) (h:MvOf m s v e):mayM m s v=0 ∧ idleM v=false:=by
 have hid:idleM v=false:=by
  unfold idleM
  have:(v.event == -1)=false:=by rw [h.ev];simp
  rw [this]
  rfl
 refine ⟨?_,hid⟩
 unfold mayM
 rw [if_neg (by rw [hc];simp),if_neg (by rw [hid];simp),h.ev,if_neg (by rw [h.en];simp),if_pos]
 rw [h.len]
 unfold setsLen
 rfl
theorem do_of {m:Mod} {s:St} {v:Mv} {e:Nat} (hc:chkS m s=true) (h:MvOf m s v e):doM m s v=(passM m (e:Int) (takeM m s v) m.order.length,0):=by
 obtain ⟨h1,h2⟩:=may_of hc h
 unfold doM
 rw [if_pos h1,if_neg (by rw [h2];simp),h.ev]
theorem chk_of {m:Mod} {s:St} {v:Mv} {e:Nat} (hc:chkS m s=true) (h:MvOf m s v e):chkS m (doM m s v).1=true:=by
 rw [do_of hc h]
 obtain ⟨ve,vu,vv⟩:=v
 have he:=h.ev
 simp only at he
 subst he
 exact chk_move hc h.en _
theorem snd_of {m:Mod} {s:St} {v:Mv} {e:Nat} (hci:circleL (pars m)<0) (hc:chkS m s=true) (h:MvOf m s v e) (hs:sndP m s.opn):sndP m (doM m s v).1.opn:=by
 rw [do_of hc h]
 obtain ⟨ve,vu,vv⟩:=v
 have he:=h.ev
 simp only at he
 subst he
 refine fold_sound hci (e:Int) _ _ ?_
 rw [take_is h.lt]
 exact hs
theorem more_of {m:Mod} {s:St} {v:Mv} {e:Nat} (hc:chkS m s=true) (h:MvOf m s v e):(∀ k,k<s.did.length → ∀ i:Int,hasB (s.did.getD k 0) i=true → hasB ((doM m s v).1.did.getD k 0) i=true) ∧ (∀ k,k<s.cnt.length → s.cnt.getD k 0≤(doM m s v).1.cnt.getD k 0):=by
 rw [do_of hc h]
 obtain ⟨ve,vu,vv⟩:=v
 have he:=h.ev
 simp only at he
 subst he
 obtain ⟨v1,v2,v3⟩:=fold_vals m (e:Int) (m.order.take m.order.length) (takeM m s ⟨(e:Int),vu,vv⟩)
 unfold passM
 rw [v2,v3,take_is h.lt]
 refine ⟨fun k hk i hb=>?_,fun k hk=>?_⟩
 ·by_cases e1:k=e
  ·subst e1
   have:(s.did.set k (withB (s.did.getD k 0) vu)).getD k 0=withB (s.did.getD k 0) vu:=by simp [List.getD,hk]
   simp only [this]
   rw [hasB_with,hb]
   simp
  ·have:(s.did.set e (withB (s.did.getD e 0) vu)).getD k 0=s.did.getD k 0:=by simp [List.getD,List.getElem?_set,Ne.symm e1]
   simp only [this]
   exact hb
 ·simp only
  split
  ·by_cases e1:k=e
   ·subst e1
    have:(s.cnt.set k (s.cnt.getD k 0+1)).getD k 0=s.cnt.getD k 0+1:=by simp [List.getD,hk]
    rw [this]
    omega
   ·have:(s.cnt.set e (s.cnt.getD e 0+1)).getD k 0=s.cnt.getD k 0:=by simp [List.getD,List.getElem?_set,Ne.symm e1]
    rw [this]
    exact Int.le_refl _
  ·exact Int.le_refl _
end
section
open Go.RowKit
theorem idleMv_A:ADet Tryz.prog 51 [] ⟨.agg [eI (-1),eI (-1),.c (.slice none 0 0)],[],0⟩:=by
 refine adet_of_code mixedT Tryz.func51 rfl (by decide) Tryz.ntmps51 Tryz.results51 rfl (⟨fun id o h=>(by cases h),by simp [AV.lt,AV.ltL]⟩) ?_
 (repeat' (first|refine go ?_ | exact .intro | refine sp (fun _=>?_) fun _=>?_))
 exact gives_tree (by simp [AV.ren,AV.renL])
end
section
open Go.RowKit
theorem envIn_any {st:ASt}:∀ {l:List (Nat × AV)} (t:Nat),envIn st l → aget l t=st.get t ∨ aget l t=.any
 | [],t,_=>.inr rfl
 | (k,av) :: l,t,h=>by
  unfold aget
  split
  ·rename_i e
   rw [e]
   exact .inl h.1.symm
  ·exact envIn_any t h.2
theorem weak_env {st:ASt} {env:List (Nat × AV)} (he:envIn st env):Weak st ⟨st.n,env,st.tab,st.next⟩:=fun cx a w L h=>
 ⟨L,⟨h.lay,h.size,h.defers,h.young,fun t=>by
  show RVx cx w st.tab L _ (if t<st.n then aget env t else .any) ∧ (if t<st.n then aget env t else .any).lt st.next
  split
  case isFalse=>exact ⟨.tree (.any _),trivial⟩
  rcases envIn_any t he with h1|h1
  ·rw [h1]
   exact h.env t
  ·rw [h1]
   exact ⟨.tree (.any _),trivial⟩⟩,fun b hb=>hb⟩
theorem weak_nest {st:ASt} (id:Nat) {e:TypeId} {sz:Nat} {rows:List (List AV)} (hid:st.tab.get id=some (.row e sz rows)):Weak st ⟨st.n,st.env,(id,some (.nest e sz rows)) :: st.tab,st.next⟩:=by
 intro cx a w L h
 have hget:∀ k o,ATab.get ((id,some (.nest e sz rows)) :: st.tab) k=some o → ∃ o',st.tab.get k=some o' ∧ o.sz=o'.sz:=fun k o hk=>by
  rw [ATab.get_cons] at hk
  split at hk
  ·rename_i e1
   cases hk
   exact ⟨.row e sz rows,by rw [e1];exact hid,rfl⟩
  ·exact ⟨o,hk,rfl⟩
 have hext:Ext cx w st.tab L st.next w ((id,some (.nest e sz rows)) :: st.tab) L:=⟨fun _ _=>rfl,fun b hb=>⟨hb.1,hb.2.1,fun k o hk=>by
  obtain ⟨o',h1,_⟩:=hget k o hk
  exact hb.2.2 k o' h1⟩,fun k p _ hk=>by
  unfold Kx at *
  cases ho:ATab.get ((id,some (.nest e sz rows)) :: st.tab) k with
  | none=>simp [ho] at hk
  | some o=>
   obtain ⟨o',h1,h2⟩:=hget k o ho
   rw [h1]
   simpa [ho,h2] using hk⟩
 have hob:=h.lay.objs id _ hid
 refine ⟨L,⟨⟨h.lay.below,fun k o hk=>?_,fun k k' o o' g h1 h2=>?_,fun b hb=>⟨(h.lay.ex b hb).1,fun k o hk=>by
  obtain ⟨o',h1,_⟩:=hget k o hk
  exact (h.lay.ex b hb).2 k o' h1⟩⟩,h.size,h.defers.mono (fun _ _=>rfl) hext.sub,fun k o hk=>?_,fun t=>⟨hext.rv (h.env t).1 (h.env t).2,(h.env t).2⟩⟩,hext.sub⟩
 ·rw [ATab.get_cons] at hk
  split at hk
  ·rename_i e1
   cases hk
   rw [e1]
   obtain ⟨h1,xs,h2,h3,h4⟩:=hob
   exact ⟨h1,xs,h2,h3,fun i j row av h5 h6=>(h4 i j row av h5 h6).elim fun x hx=>⟨x,hx.1,.tree (hext.rt hx.2)⟩⟩
  ·exact hext.obj (h.lay.objs k o hk) (h.young k o hk).2 fun _ _=>rfl
 ·obtain ⟨o1,h3,_⟩:=hget k o h1
  obtain ⟨o2,h4,_⟩:=hget k' o' h2
  exact h.lay.sep k k' o1 o2 g h3 h4
 ·rw [ATab.get_cons] at hk
  split at hk
  ·rename_i e1
   cases hk
   refine ⟨by rw [e1];exact (h.young id _ hid).1,fun row hr=>ltL_iff.2 fun av ha=>?_⟩
   obtain ⟨i,hi⟩:=List.getElem?_of_mem hr
   obtain ⟨j,hj⟩:=List.getElem?_of_mem ha
   obtain ⟨_,xs,_,_,h4⟩:=hob
   obtain ⟨x,_,hx⟩:=h4 i j row av hi hj
   exact hx.lt _
  ·exact h.young k o hk
section
variable {cx:Cx} {w:World} {tab:ATab} {L:Nat → Value}
end
def aRetA (P:Program) (rs:List ResultVar) (Post:Res → Prop):Exit → ASt → Prop
 | .normal,st=>aResL P st rs fun avs=>(aOne avs).lt st.next ∧ Post ⟨aOne avs,st.tab,st.next⟩
 | .ret,st=>aResL P st rs fun avs=>(aOne avs).lt st.next ∧ Post ⟨aOne avs,st.tab,st.next⟩
 | _,_=>False
theorem arel_of_wpA {P : Program} {f : FuncId} {fn : Func} {c : Code} (hf : P.funcs[f]? = some fn) (hb : fn.body = some c) (hname : (fn.name == "runtime.NumGoroutine") = false) {args : List AV} {Post : Res → Prop} {n : Nat} (hnt : fn.ntmps = n) {rs : List ResultVar} (hrs : fn.results = rs.toArray) (hn : Nat.ble args.length n = true)
  (h:∀ (cx:Cx) (a:Act) (w:World) (L:Nat → Value),Conc cx a w ⟨n,envOf 0 args,[],0⟩ L → c.wp P (AfterC cx (aRetA P rs Post)) a w):ARel P f args Post:=by
 have hn:=Nat.le_of_ble_eq_true hn
 subst hnt
 have hrs:fn.results.toList=rs:=by rw [hrs]
 refine ⟨fun vs w=>?_,fun S w vs hS hvs hv=>?_⟩
 ·have : ¬ fn.name = "runtime.NumGoroutine" := by simpa using hname
  simp [callFunc,Sem.run_bind,hf,this,hb]
 ·let cx:Cx:=(Cx.mk0 S w hS)
  refine (callsIn_wide (n:=0)).1 (callsIn_of_wp_marks hf hb trivial (wpIn_wide.2 ?_))
  have hL:Lay cx w [] (fun _=>undef):=⟨belowX (Below.refl _ _),fun id o h=>(by cases h),fun id id' o o' g h=>(by cases h),fun b hb=>hb.elim⟩
  have hC:Conc cx { tmps:=vs ++ Array.replicate (fn.ntmps - vs.size) undef,defers:=[] } w ⟨fn.ntmps,envOf 0 args,[],0⟩ (fun _=>undef):=by
   refine ⟨hL,?_,Marks.nil _ _ _,fun id o h=>(by cases h),fun t=>?_⟩
   ·simp
    omega
   have e:(⟨fn.ntmps,envOf 0 args,[],0⟩:ASt).get t=args.getD t .any:=by
    show (if t<fn.ntmps then aget (envOf 0 args) t else .any)=_
    rw [aget_envOf]
    split
    ·simp
    ·simp [List.getD,List.getElem?_eq_none (show args.length≤t by omega)]
   rw [e]
   by_cases ht:t<args.length
   ·have ht':t<vs.size:=by omega
    have e2:(vs ++ Array.replicate (fn.ntmps - vs.size) undef).getD t undef=vs[t]:=by
     rw [Array.getD_eq_getD_getElem?,Array.getElem?_append_left ht',Array.getElem?_eq_getElem ht']
     rfl
    have e3:args.getD t .any=args[t]:=by simp [List.getD,ht]
    rw [e2,e3]
    have:=hv t _ _ (Array.getElem?_eq_getElem ht') (List.getElem?_eq_getElem ht)
    exact ⟨.tree (this.mono (fun _ _=>rfl) fun b hb=>⟨hS b hb,⟨.inl hb,fun h=>h⟩,fun id o h=>by cases h⟩),this.lt 0⟩
   ·have e3:args.getD t .any=.any:=by simp [List.getD,List.getElem?_eq_none (Nat.le_of_not_lt ht)]
    rw [e3]
    exact ⟨.tree (.any _),trivial⟩
  refine Code.wp_mono (fun e a w' ⟨st,L,h1,h2⟩=>?_) (h cx _ w _ hC)
  rw [← hrs] at h1
  have key:(aResL P st fn.results.toList fun avs=>(aOne avs).lt st.next ∧ Post ⟨aOne avs,st.tab,st.next⟩) → LeavesInM Fence.wide 0 P fn a.tmps (fun e w'=>∃ v' L R,Post R ∧ R.Ok ∧ e=.returned v' ∧ Lay cx w' R.tab L ∧ RVx cx w' R.tab L v' R.r) a.defers .returning w':=fun h1=>by
   refine leaves_marks _ _ h2.defers fun w2 hk2=>?_
   have h2:=conc_keepM h2 hk2
   clear hk2
   generalize w2=w' at h2
   obtain ⟨v,av,⟨hlt,hPost⟩,h4,h5⟩:=res_ok (K:=fun av=>av.lt st.next ∧ Post ⟨av,st.tab,st.next⟩) h2 h1
   exact ⟨v,h5,v,L,⟨av,st.tab,st.next⟩,hPost,⟨h2.young,hlt⟩,rfl,h2.lay,h4⟩
  cases e with
  | normal=>exact key h1
  | ret=>exact key h1
  | _=>exact h1.elim
def aRetB (P:Program) (rs:List ResultVar) (Post:Res → Prop) (e:Exit) (st:ASt):Prop:=aTo (aRetA P rs Post e) st
theorem arel_of_whole {P : Program} (hm : P.follows .mixedOrders = true) {f : FuncId} {fn : Func} {c : Code} (hf : P.funcs[f]? = some fn) (hb : fn.body = some c) (hname : (fn.name == "runtime.NumGoroutine") = false) {args : List AV} {Post : Res → Prop} {n : Nat} (hnt : fn.ntmps = n) {rs : List ResultVar} (hrs : fn.results = rs.toArray) (hn : Nat.ble args.length n = true)
  (h:aCode P c (aRetB P rs Post) ⟨n,envOf 0 args,[],0⟩):ARel P f args Post:=
 arel_of_wpA hf hb hname hnt hrs hn fun cx a w L hc=>Code.wp_mono (fun e a w ⟨st,L,⟨st',hw,h1⟩,h2⟩=>(hw _ _ _ _ h2).elim fun L' h3=>⟨st',L',h1,h3.1⟩) (code_ok hm c _ a w _ L hc h)
theorem weak_refl (st:ASt):Weak st st:=fun cx a w L h=>⟨L,h,fun b hb=>hb⟩
theorem weak_row {st:ASt} (id:Nat) {e:TypeId} {sz:Nat} {rows:List (List AV)} (hid:st.tab.get id=some (.nest e sz rows)) (ht:∀ row ∈ rows,treeL row):Weak st ⟨st.n,st.env,(id,some (.row e sz rows)) :: st.tab,st.next⟩:=by
 intro cx a w L h
 have hget:∀ k o,ATab.get ((id,some (.row e sz rows)) :: st.tab) k=some o → ∃ o',st.tab.get k=some o' ∧ o.sz=o'.sz:=fun k o hk=>by
  rw [ATab.get_cons] at hk
  split at hk
  ·rename_i e1
   cases hk
   exact ⟨.nest e sz rows,by rw [e1];exact hid,rfl⟩
  ·exact ⟨o,hk,rfl⟩
 have hext:Ext cx w st.tab L st.next w ((id,some (.row e sz rows)) :: st.tab) L:=⟨fun _ _=>rfl,fun b hb=>⟨hb.1,hb.2.1,fun k o hk=>by
  obtain ⟨o',h1,_⟩:=hget k o hk
  exact hb.2.2 k o' h1⟩,fun k p _ hk=>by
  unfold Kx at *
  cases ho:ATab.get ((id,some (.row e sz rows)) :: st.tab) k with
  | none=>simp [ho] at hk
  | some o=>
   obtain ⟨o',h1,h2⟩:=hget k o ho
   rw [h1]
   simpa [ho,h2] using hk⟩
 have hob:=h.lay.objs id _ hid
 refine ⟨L,⟨⟨h.lay.below,fun k o hk=>?_,fun k k' o o' g h1 h2=>?_,fun b hb=>⟨(h.lay.ex b hb).1,fun k o hk=>by
  obtain ⟨o',h1,_⟩:=hget k o hk
  exact (h.lay.ex b hb).2 k o' h1⟩⟩,h.size,h.defers.mono (fun _ _=>rfl) hext.sub,fun k o hk=>?_,fun t=>⟨hext.rv (h.env t).1 (h.env t).2,(h.env t).2⟩⟩,hext.sub⟩
 ·rw [ATab.get_cons] at hk
  split at hk
  ·rename_i e1
   cases hk
   rw [e1]
   obtain ⟨h1,xs,h2,h3,h4⟩:=hob
   exact ⟨h1,xs,h2,h3,fun i j row av h5 h6=>(h4 i j row av h5 h6).elim fun x hx=>⟨x,hx.1,hext.rt (tree_of hx.2 (treeL_iff.1 (ht row (List.mem_of_getElem? h5)) av (List.mem_of_getElem? h6)))⟩⟩
  ·exact hext.obj (h.lay.objs k o hk) (h.young k o hk).2 fun _ _=>rfl
 ·obtain ⟨o1,h3,_⟩:=hget k o h1
  obtain ⟨o2,h4,_⟩:=hget k' o' h2
  exact h.lay.sep k k' o1 o2 g h3 h4
 ·rw [ATab.get_cons] at hk
  split at hk
  ·rename_i e1
   cases hk
   exact ⟨by rw [e1];exact (h.young id _ hid).1,trivial⟩
  ·exact h.young k o hk
theorem weak_frzN {st:ASt} (id:Nat) {e:TypeId} {sz:Nat} {rows:List (List AV)} (hid:st.tab.get id=some (.nest e sz rows)) (ht:∀ row ∈ rows,treeL row) :
  Weak st ⟨st.n,frzEnv id sz rows st.env,(id,none) :: frzTab id sz rows ((id,some (.row e sz rows)) :: st.tab),st.next⟩:=by
 have h2:=weak_frz ⟨st.n,st.env,(id,some (.row e sz rows)) :: st.tab,st.next⟩ id
 have e1:frz1 ⟨st.n,st.env,(id,some (.row e sz rows)) :: st.tab,st.next⟩ id=⟨st.n,frzEnv id sz rows st.env,(id,none) :: frzTab id sz rows ((id,some (.row e sz rows)) :: st.tab),st.next⟩:=by
  unfold frz1
  simp only [ATab.get_cons,↓reduceIte]
 rw [e1] at h2
 exact (weak_row id hid ht).trans h2
end
section
open Go.RowKit
abbrev eNs (l:List Int):List (List AV):=l.map fun n=>[eI n]
def mvRows (ids:Nat → Nat) (l:List Mv):List (List AV):=l.mapIdx fun i v=>[eI v.event,eI v.user,.osl (ids i)]
theorem mvRows_len (ids:Nat → Nat) (l:List Mv):(mvRows ids l).length=l.length:=by simp [mvRows]
theorem mvRows_at {ids:Nat → Nat} {l:List Mv} {i:Nat} (h:i<l.length):(mvRows ids l)[i]?.getD []=[eI l[i].event,eI l[i].user,.osl (ids i)]:=by simp [mvRows,h]
def addI (ids:Nat → Nat) (m x:Nat) (i:Nat):Nat:=if i=m then x else ids i
theorem mvRows_snoc (ids:Nat → Nat) (l:List Mv) (v:Mv) (x:Nat):mvRows ids l ++ [[eI v.event,eI v.user,.osl x]]=mvRows (addI ids l.length x) (l ++ [v]):=by
 apply List.ext_getElem?
 intro j
 unfold mvRows
 rw [List.getElem?_mapIdx]
 by_cases h:j<l.length
 ·rw [List.getElem?_append_left (by simpa using h),List.getElem?_append_left h,List.getElem?_mapIdx]
  simp [addI,Nat.ne_of_lt h,h]
 ·rw [List.getElem?_append_right (by simpa using h),List.getElem?_append_right (by omega)]
  by_cases e:j=l.length
  ·subst e
   simp [addI]
  ·obtain ⟨d,hd⟩:∃ d,j - l.length=d+1:=⟨j - l.length - 1,by omega⟩
   have hd2:j - (List.mapIdx (fun i (v:Mv)=>[eI v.event,eI v.user,AV.osl (ids i)]) l).length=d+1:=by rw [List.length_mapIdx];exact hd
   rw [hd,hd2]
   rfl
structure MvsOK (T:ATab) (o:Nat) (ids:Nat → Nat) (l:List Mv) (nx:Nat):Prop where
 out:T.get o=some (.nest 63 3 (mvRows ids l))
 inn:∀ i (h:i<l.length),T.get (ids i)=some (.nest 2 1 (eNs l[i].vals))
 inj:∀ i j,i<l.length → j<l.length → ids i=ids j → i=j
 ne:∀ i,i<l.length → ids i ≠ o
 lt:∀ i,i<l.length → ids i<nx
 lo:o<nx
theorem mvs_snoc {T:ATab} {ids:Nat → Nat} {l:List Mv} {v:Mv} {x o nx:Nat} (h1:T.get o=some (.nest 63 3 (mvRows ids l ++ [[eI v.event,eI v.user,.osl x]]))) (h2:∀ i (h:i<l.length),T.get (ids i)=some (.nest 2 1 (eNs l[i].vals))) (h3:T.get x=some (.nest 2 1 (eNs v.vals)))
  (hlt:∀ i,i<l.length → ids i<x) (hinj:∀ i j,i<l.length → j<l.length → ids i=ids j → i=j) (hx:x<o) (ho:o<nx):MvsOK T o (addI ids l.length x) (l ++ [v]) nx:=by
 have ha:∀ i,i<l.length → addI ids l.length x i=ids i:=fun i hi=>if_neg (by omega)
 have hm:addI ids l.length x l.length=x:=if_pos rfl
 have hl:∀ i,i<l.length+1 → addI ids l.length x i≤x:=fun i hi=>by
  by_cases e:i=l.length
  ·rw [e,hm]
   exact Nat.le_refl _
  ·rw [ha i (by omega)]
   exact Nat.le_of_lt (hlt i (by omega))
 refine ⟨by rw [h1,mvRows_snoc],fun i hi=>?_,fun i j hi hj h=>?_,fun i hi h=>?_,fun i hi=>?_,ho⟩
 ·rw [List.length_append,List.length_singleton] at hi
  by_cases e:i=l.length
  ·subst e
   rw [hm,h3]
   simp
  ·rw [ha i (by omega),h2 i (by omega),List.getElem_append_left (by omega)]
 ·rw [List.length_append,List.length_singleton] at hi hj
  by_cases e:i=l.length <;> by_cases e2:j=l.length
  ·omega
  ·rw [e,hm,ha j (by omega)] at h
   have:=hlt j (by omega)
   omega
  ·rw [e2,hm,ha i (by omega)] at h
   have:=hlt i (by omega)
   omega
  ·rw [ha i (by omega),ha j (by omega)] at h
   exact hinj i j (by omega) (by omega) h
 ·rw [List.length_append,List.length_singleton] at hi
  have:=hl i hi
  omega
 ·rw [List.length_append,List.length_singleton] at hi
  have:=hl i hi
  omega
theorem mvsM_len (m:Mod) (s:St):∀ e,(mvsM m s e).length≤m.users.length * e
 | 0=>by simp [mvsM]
 | e+1=>by
  have h1:=mvsM_len m s e
  have h2:=filtN_len (fun u=>enabledM m s (e:Int) (u:Int)) m.users.length
  rw [mvsM,List.length_append,Nat.mul_add]
  simp only [mvsE,whoM,List.length_map]
  omega
def Mv1 (T:ATab) (nx:Nat) (l:List Mv) (av:AV):Prop:=(l=[] ∧ av=.c (.slice none 0 0)) ∨ ∃ o ids,l ≠ [] ∧ av=.osl o ∧ MvsOK T o ids l nx
theorem Mv1.keep {T T':ATab} {nx nx':Nat} {l:List Mv} {av:AV} (h:Mv1 T nx l av) (ht:∀ id,id<nx → T'.get id=T.get id) (hn:nx≤nx'):Mv1 T' nx' l av:=by
 rcases h with h|⟨o,ids,h1,h2,h3⟩
 ·exact .inl h
 ·exact .inr ⟨o,ids,h1,h2,by rw [ht o h3.lo];exact h3.out,fun i hi=>by rw [ht _ (h3.lt i hi)];exact h3.inn i hi,h3.inj,h3.ne,fun i hi=>Nat.lt_of_lt_of_le (h3.lt i hi) hn,Nat.lt_of_lt_of_le h3.lo hn⟩
def MovesPost (m:Mod) (s:St) (R:Res):Prop:=
 (mvsM m s m.events.length=[] ∧ R=own 63 3 [[eI (-1),eI (-1),.c (.slice none 0 0)]]) ∨ ∃ T nx o ids,mvsM m s m.events.length ≠ [] ∧ MvsOK T o ids (mvsM m s m.events.length) nx ∧ R=⟨.osl o,T,nx⟩
theorem moves_A (m:Mod) (s:St) (hf:Fit m) (hc:chkS m s=true):ARel Tryz.prog 21 [.agg (eMod m),.agg (eSt s)] (MovesPost m s):=by
 refine arel_of_whole mixedT Tryz.func21 rfl (by decide) Tryz.ntmps21 Tryz.results21 rfl ?_
 obtain ⟨hgl,hml,hsl,hel,hal,hul,hrl,hsol,hol,hil⟩:=id hf.sizes
 have hC:=checkS_A m s (by omega)
 rw [hc] at hC
 (repeat' (first|refine go ?_ | exact .intro | refine sp (fun _=>?_) fun _=>?_))
 refine callV hC ?_
 (repeat' (first|refine go ?_ | exact .intro | refine sp (fun _=>?_) fun _=>?_))
 have hnil:mvsM m s 0=[]:=rfl
 refine aLoop_of (fun st=>∃ (e nx:Nat) (T:ATab) (av:AV),e≤m.events.length ∧ Mv1 T nx (mvsM m s e) av ∧ (T.get 0=some (.box 32 (eMod m)) ∧ T.get 1=some (.box 69 (eSt s)) ∧ 1<nx) ∧ st=⟨50,[(2,.op 0 0 0),(3,.op 1 0 0),(5,av),(16,.sl 5 (m.events.map eEv)),(17,eI (m.events.length:Int)),(18,eI (e:Int))],T,nx⟩) (fun st=>m.events.length - slotN st 18) ⟨_,(weak_env (by (first | ((simp only [envIn,ruW,ASt.get,aget,ASt.put,↓reduceIte,reduceCtorEq,Nat.reduceLT,Nat.reduceEqDiff,Nat.reduceAdd,Nat.reduceLeDiff,eq_self,implies_true]) <;> (repeat' apply And.intro) <;> first | (rw [wrapK (by omega)];done) | (simp;done) | omega) | fail))),0,2,[(1,some (.box 69 (eSt s))),(0,some (.box 32 (eMod m)))],.c (.slice none 0 0),Nat.zero_le _,.inl ⟨rfl,rfl⟩,⟨rfl,rfl,by omega⟩,rfl⟩ ?_
 rintro _ ⟨e,nx,T,av,he,hM,⟨hT0,hT1,hnx⟩,rfl⟩
 have g0:(0=nx)=False:=by simp;omega
 have g1:(1=nx)=False:=by simp;omega
 by_cases hlt:e<m.events.length
 ·obtain ⟨x,hx⟩:∃ x,m.events[e]=x:=⟨_,rfl⟩
  have rE:(m.events.map eEv)[e]?.getD []=eEv x:=by simp [hlt,hx]
  have hW:=who_A m s (e:Int) (by omega) (by omega) (by omega)
  have hwl:(whoM m s (e:Int)).length≤10:=by
   have:=filtN_len (fun u=>enabledM m s (e:Int) (u:Int)) m.users.length
   unfold whoM
   omega
  (repeat' (first|refine ge (kf @hlt (kf rE (kf hT0 (kf hT1 (kf g0 g1))))) ?_ | exact .intro | refine sp (fun _=>?_) fun _=>?_))
  refine callO hW (.inr (by intro row hr av ha;simp at hr;(try obtain ⟨_,_,rfl⟩:=hr);simp at ha;subst_vars;simp [AV.plain])) ?_
  obtain ⟨who,hwho⟩:∃ who,who=whoM m s (e:Int):=⟨_,rfl⟩
  have hE:∀ k (hk:k<who.length),(mvsE m s e).take (k+1)=(mvsE m s e).take k ++ [⟨(e:Int),who[k],List.replicate x.sets.length 0⟩]:=fun k hk=>by
   subst hwho
   have hk2:k<(mvsE m s e).length:=by simpa [mvsE] using hk
   rw [List.take_succ_eq_append_getElem hk2]
   simp [mvsE,hlt,hx]
  have hEl:(mvsE m s e).length=who.length:=by rw [hwho];simp [mvsE]
  rw [← hwho] at hwl ⊢
  clear hW
  (repeat' (first|refine ge @hlt ?_ | exact .intro | refine sp (fun _=>?_) fun _=>?_))
  refine aLoop_of (fun st=>∃ (k nx2:Nat) (T2:ATab) (av2:AV),k≤who.length ∧ Mv1 T2 nx2 (mvsM m s e ++ (mvsE m s e).take k) av2 ∧ (T2.get 0=some (.box 32 (eMod m)) ∧ T2.get 1=some (.box 69 (eSt s)) ∧ T2.get nx=some (.box 53 (eEv x)) ∧ T2.get (nx+1)=some (.row 3 1 (who.map fun n=>[eI n])) ∧ nx+1<nx2) ∧ st=⟨50,[(2,.op 0 0 0),(3,.op 1 0 0),(5,av2),(6,eI (e:Int)),(7,.op nx 0 0),(16,.sl 5 (m.events.map eEv)),(17,eI (m.events.length:Int)),(18,eI (e:Int)),(26,.osl (nx+1)),(27,eI (who.length:Int)),(28,eI (k:Int))],T2,nx2⟩) (fun st=>who.length - slotN st 28) ⟨_,(weak_env (by (first | ((simp only [envIn,ruW,ASt.get,aget,ASt.put,↓reduceIte,reduceCtorEq,Nat.reduceLT,Nat.reduceEqDiff,Nat.reduceAdd,Nat.reduceLeDiff,eq_self,implies_true]) <;> (repeat' apply And.intro) <;> first | (rw [wrapK (by omega)];done) | (simp;done) | omega) | fail))),0,nx+1+1,_,av,Nat.zero_le _,?_,?_,rfl⟩ ?_
  ·rw [List.take_zero,List.append_nil]
   refine hM.keep (fun id hid=>?_) (by omega)
   simp only [ATab.get_cons]
   repeat rw [if_neg (by omega)]
  ·refine ⟨?_,?_,?_,?_,by omega⟩
   ·simp only [ATab.get_cons]
    repeat rw [if_neg (by omega)]
    exact hT0
   ·simp only [ATab.get_cons]
    repeat rw [if_neg (by omega)]
    exact hT1
   ·simp only [ATab.get_cons,↓reduceIte]
    rw [if_neg (by omega)]
   ·simp only [ATab.get_cons,↓reduceIte]
  clear hM hT0 hT1
  rintro _ ⟨k,nx2,T2,av2,hk,hM,⟨hT0,hT1,hTx,hTw,hn2⟩,rfl⟩
  by_cases hkl:k<who.length
  ·have rW:(who.map fun n=>[eI n])[k]?.getD []=[eI who[k]]:=by simp [hkl]
   have hsz:x.sets.length≤10:=by
    rw [← hx]
    exact hf.events _ (List.getElem_mem hlt)
   have i0:(0:Int)≤(x.sets.length:Int):=by omega
   have i1:(x.sets.length:Int)≤16777216:=by omega
   have hz:List.replicate x.sets.length [eI 0]=eNs (List.replicate x.sets.length 0):=by simp
   have q1:(nx2=nx2+1)=False:=by simp
   have q2:(nx2=nx2+1+1)=False:=by simp;omega
   have q3:(nx=nx2)=False:=by simp;omega
   have q4:(nx=nx2+1)=False:=by simp;omega
   have q5:(nx+1=nx2)=False:=by simp;omega
   rcases hM with ⟨hl0,rfl⟩|⟨o,ids,hl0,rfl,hN⟩
   ·(repeat' (first|refine ge (kf @hkl (kf rW (kf hT0 (kf hT1 (kf @hTx (kf @hTw (kf i0 (kf i1 (kf hz (kf q1 (kf q2 (kf q3 (kf q4 q5))))))))))))) ?_ | exact .intro | refine sp (fun _=>?_) fun _=>?_))
    refine ⟨by omega,rfl,rI (weak_env (by (first | ((simp only [envIn,ruW,ASt.get,aget,ASt.put,↓reduceIte,reduceCtorEq,Nat.reduceLT,Nat.reduceEqDiff,Nat.reduceAdd,Nat.reduceLeDiff,eq_self,implies_true]) <;> (repeat' apply And.intro) <;> first | (rw [wrapK (by omega)];done) | (simp;done) | omega) | fail))) ⟨k+1,_,_,_,by omega,.inr ⟨nx2+1+1,addI (fun _=>0) 0 nx2,by rw [hE k hkl];simp,rfl,?_⟩,⟨?_,?_,?_,?_,Nat.lt_succ_of_lt (Nat.lt_succ_of_lt (Nat.lt_succ_of_lt hn2))⟩,rfl⟩⟩
    ·rw [hE k hkl,← List.append_assoc,hl0]
     refine mvs_snoc (l:=[]) (v:=⟨(e:Int),who[k],List.replicate x.sets.length 0⟩) (x:=nx2) ?_ (fun i hi=>by cases hi) ?_ (fun i hi=>by cases hi) (fun i j hi=>by cases hi) (by omega) (Nat.lt_succ_self _)
     ·simp only [ATab.get_cons,↓reduceIte]
      rfl
     ·simp only [ATab.get_cons,↓reduceIte]
      repeat rw [if_neg (by omega)]
    all_goals
     simp only [ATab.get_cons]
     repeat rw [if_neg (by omega)]
     assumption
   ·have q6:(o=nx2)=False:=by have:=hN.lo;simp;omega
    have q7:(o=nx2+1)=False:=by have:=hN.lo;simp;omega
    have hO:=hN.out
    have hlb:(mvsM m s e ++ (mvsE m s e).take k).length≤1000:=by
     have h1:=mvsM_len m s e
     have h2:m.users.length * e≤10 * 10:=Nat.mul_le_mul (by omega) (by omega)
     have h3:=List.length_take_le k (mvsE m s e)
     rw [List.length_append]
     omega
    have o0:0 ≠ o:=fun e=>by
     rw [e,hO] at hT0
     cases hT0
    have o1:1 ≠ o:=fun e=>by
     rw [e,hO] at hT1
     cases hT1
    have o2:nx ≠ o:=fun e=>by
     rw [e,hO] at hTx
     cases hTx
    have o3:nx+1 ≠ o:=fun e=>by
     rw [e,hO] at hTw
     cases hTw
    (repeat' (first|refine ge (kf @hkl (kf rW (kf hT0 (kf hT1 (kf @hTx (kf @hTw (kf i0 (kf i1 (kf hz (kf q1 (kf q2 (kf q3 (kf q4 (kf q5 (kf q6 (kf q7 (kf hO @mvRows_len))))))))))))))))) ?_ | exact .intro | refine sp (fun _=>?_) fun _=>?_))
    refine ⟨by omega,rfl,⟨by omega,by omega⟩,rI (weak_env (by (first | ((simp only [envIn,ruW,ASt.get,aget,ASt.put,↓reduceIte,reduceCtorEq,Nat.reduceLT,Nat.reduceEqDiff,Nat.reduceAdd,Nat.reduceLeDiff,eq_self,implies_true]) <;> (repeat' apply And.intro) <;> first | (rw [wrapK (by omega)];done) | (simp;done) | omega) | fail))) ⟨k+1,_,_,_,by omega,.inr ⟨nx2+1+1,addI ids (mvsM m s e ++ (mvsE m s e).take k).length nx2,by rw [hE k hkl];simp,rfl,?_⟩,⟨?_,?_,?_,?_,Nat.lt_succ_of_lt (Nat.lt_succ_of_lt (Nat.lt_succ_of_lt hn2))⟩,rfl⟩⟩
    ·rw [hE k hkl,← List.append_assoc]
     refine mvs_snoc (v:=⟨(e:Int),who[k],List.replicate x.sets.length 0⟩) (x:=nx2) ?_ (fun i hi=>?_) ?_ hN.lt hN.inj (by omega) (Nat.lt_succ_self _)
     ·simp only [ATab.get_cons,↓reduceIte]
     ·have h1:=hN.lt i hi
      have h2:=hN.ne i hi
      simp only [ATab.get_cons]
      rw [if_neg (by omega),if_neg h2,if_neg (by omega),if_neg (by omega)]
      exact hN.inn i hi
     ·simp only [ATab.get_cons,↓reduceIte]
      have h2:=hN.lo
      repeat rw [if_neg (by omega)]
    all_goals
     simp only [ATab.get_cons]
     rw [if_neg (by omega),if_neg (by assumption),if_neg (by omega),if_neg (by omega)]
     assumption
  obtain rfl:k=who.length:=by omega
  rw [List.take_of_length_le (Nat.le_of_eq hEl)] at hM
  (repeat' (first|refine ge @hkl ?_ | exact .intro | refine sp (fun _=>?_) fun _=>?_))
  exact rI (weak_env (by (first | ((simp only [envIn,ruW,ASt.get,aget,ASt.put,↓reduceIte,reduceCtorEq,Nat.reduceLT,Nat.reduceEqDiff,Nat.reduceAdd,Nat.reduceLeDiff,eq_self,implies_true]) <;> (repeat' apply And.intro) <;> first | (rw [wrapK (by omega)];done) | (simp;done) | omega) | fail))) ⟨e+1,nx2,T2,av2,by omega,hM,⟨hT0,hT1,by omega⟩,rfl⟩
 obtain rfl:e=m.events.length:=by omega
 rcases hM with ⟨hl0,rfl⟩|⟨o,ids,hl0,rfl,hN⟩
 ·have z1:(((0:Nat):Int) == 0)=true:=rfl
  (repeat' (first|refine ge (kf @hlt z1) ?_ | exact .intro | refine sp (fun _=>?_) fun _=>?_))
  refine callT idleMv_A (.inl (by simp [roL,roA,treeL,treeC])) ?_
  (repeat' (first|refine go ?_ | exact .intro | refine sp (fun _=>?_) fun _=>?_))
  refine ⟨rfl,⟨50,[(4,.osl 0)],[(0,some (.row 63 3 [[eI (-1),eI (-1),.c (.slice none 0 0)]]))],1⟩,weak_ren [nx] (by simp) rfl (by simp [envInR,ASt.get,aget,AV.ren]) (by simp [tabInR,ATab.get_cons,AObj.ren]) (by simp [envLt,AV.lt]) (by simp [tabLt,AObj.lt]),⟨Nat.zero_lt_one,.inl ⟨hl0,rfl⟩⟩⟩
 ·have hpos:=List.length_pos_iff.2 hl0
  have z1:(((mvsM m s m.events.length).length:Int) == 0)=false:=by simp;omega
  have hO:=hN.out
  (repeat' (first|refine ge (kf @hlt (kf hO (kf @mvRows_len z1))) ?_ | exact .intro | refine sp (fun _=>?_) fun _=>?_))
  exact ⟨_,weak_refl _,⟨hN.lo,.inr ⟨T,nx,o,ids,hl0,hN,rfl⟩⟩⟩
end
section
open Go.RowKit
def goodN (f:Nat → Bool):Nat → Nat
 | 0=>0
 | n+1=>if goodN f n=n ∧ f n=true then n+1 else goodN f n
theorem goodN_le (f:Nat → Bool):∀ n,goodN f n≤n
 | 0=>Nat.le_refl _
 | n+1=>by
  have:=goodN_le f n
  unfold goodN
  split <;> omega
theorem goodN_all (f:Nat → Bool):∀ n i,i<goodN f n → f i=true
 | 0,i,h=>by simp [goodN] at h
 | n+1,i,h=>by
  unfold goodN at h
  split at h
  ·rename_i h2
   rcases Nat.lt_or_ge i n with h3|h3
   ·exact goodN_all f n i (by omega)
   ·obtain rfl:i=n:=by omega
    exact h2.2
  ·exact goodN_all f n i h
theorem goodN_stop (f:Nat → Bool):∀ n,goodN f n<n → f (goodN f n)=false
 | 0,h=>by simp [goodN] at h
 | n+1,h=>by
  have hle:=goodN_le f n
  unfold goodN at h ⊢
  split at h
  ·omega
  ·rename_i h2
   rw [if_neg h2]
   by_cases h3:goodN f n=n
   ·rw [h3]
    cases hf:f n
    ·rfl
    ·exact absurd ⟨h3,hf⟩ h2
   ·exact goodN_stop f n (by omega)
theorem goodN_eq (f:Nat → Bool) {n k:Nat} (hk:k≤n) (h1:∀ i,i<k → f i=true) (h2:k<n → f k=false):goodN f n=k:=by
 have hle:=goodN_le f n
 rcases Nat.lt_trichotomy (goodN f n) k with h|h|h
 ·have:=goodN_stop f n (by omega)
  rw [h1 _ h] at this
  cases this
 ·exact h
 ·have:=goodN_all f n k h
  rw [h2 (by omega)] at this
  cases this
theorem goodN_ge (f:Nat → Bool) {n k:Nat} (hk:k≤n) (h1:∀ i,i<k → f i=true):k≤goodN f n:=by
 rcases Nat.lt_or_ge (goodN f n) k with h|h
 ·have:=goodN_stop f n (by omega)
  rw [h1 _ h] at this
  cases this
 ·exact h
def mvNil:Mv:=⟨0,0,[]⟩
noncomputable def stN (m:Mod) (l:List Mv):Nat → St
 | 0=>beginM m
 | k+1=>(doM m (stN m l k) (l.getD k mvNil)).1
noncomputable def errN (m:Mod) (l:List Mv) (k:Nat):Int:=(doM m (stN m l k) (l.getD k mvNil)).2
noncomputable def okN (m:Mod) (l:List Mv) (k:Nat):Bool:=errN m l k == 0
noncomputable def runK (m:Mod) (l:List Mv):Nat:=goodN (okN m l) l.length
noncomputable def runErr (m:Mod) (l:List Mv):Int:=if runK m l=l.length then 0 else errN m l (runK m l)
noncomputable def runSt (m:Mod) (l:List Mv):List St:=(List.range (runK m l+1)).map (stN m l)
theorem runSt_len (m:Mod) (l:List Mv):(runSt m l).length=runK m l+1:=by simp [runSt]
structure GoodS (s:St):Prop where
 vals:s.vals.length≤10
 did:s.did.length≤10
 cnt:s.cnt.length≤10
 ok:OkS s
 nums:∀ x ∈ s.vals,ok64 x
theorem GoodS.fit {s:St} (h:GoodS s):FitS s:=by
 have h1:=h.vals
 have h2:=h.did
 have h3:=h.cnt
 unfold FitS
 omega
theorem zero_in31:in31 0:=by unfold in31;omega
theorem good_begin (m:Mod) (hf:Fit m) (hi:∀ x ∈ m.inits,ok64 x):GoodS (beginM m):=by
 obtain ⟨h1,h2,h3⟩:=fold_vals m (-1) (m.order.take m.order.length) (startS m)
 have h4:=turns_31 m (-1) (m.order.take m.order.length) (startS m) ⟨zero_in31,zero_in31⟩
 obtain ⟨-,-,-,hel,-,-,-,-,-,hil⟩:=id hf.sizes
 unfold beginM passM
 refine ⟨by rw [h1];exact hil,by rw [h2];simp [startS];omega,by rw [h3];simp [startS];omega,⟨in31_ok h4.1,in31_ok h4.2,fun x hx=>?_⟩,fun x hx=>?_⟩
 ·rw [h2] at hx
  simp only [startS] at hx
  rw [(List.mem_replicate.1 hx).2]
  exact in31_ok zero_in31
 ·rw [h1] at hx
  exact hi x hx
theorem good_nil:GoodS stNil:=⟨by simp [stNil],by simp [stNil],by simp [stNil],⟨in31_ok zero_in31,in31_ok zero_in31,by simp [stNil]⟩,by simp [stNil]⟩
theorem good_do (m:Mod) (s:St) (v:Mv) (hg:GoodS s) (hv:∀ x ∈ v.vals,ok64 x):GoodS (doM m s v).1:=by
 unfold doM
 split
 ·rename_i hmay
  split
  ·exact hg
  ·have hen:chkS m s=true:=by
    unfold mayM at hmay
    grind
   unfold chkS at hen
   simp only [Bool.and_eq_true,decide_eq_true_eq] at hen
   obtain ⟨⟨⟨⟨⟨hc1,hc2⟩,hc3⟩,hc4⟩,hc5⟩,-⟩:=hen
   obtain ⟨h1,h2,h3⟩:=fold_vals m v.event (m.order.take m.order.length) (takeM m s v)
   have ht:(takeM m s v).opn=s.opn ∧ (takeM m s v).don=s.don ∧ (takeM m s v).vals.length=s.vals.length ∧ (takeM m s v).did.length=s.did.length ∧ (takeM m s v).cnt.length=s.cnt.length ∧ ∀ x ∈ (takeM m s v).did,ok64 x:=by
    unfold takeM
    split
    ·exact ⟨rfl,rfl,rfl,rfl,rfl,hg.ok.did⟩
    ·refine ⟨rfl,rfl,setVals_len ..,by simp,?_,fun x hx=>?_⟩
     ·simp only
      split <;> simp
     ·rcases List.mem_or_eq_of_mem_set hx with h | h
      ·exact hg.ok.did x h
      ·rw [h]
       exact in31_ok (withB_31 _ _)
   have h4:=turns_31 m v.event (m.order.take m.order.length) (takeM m s v) ⟨by rw [ht.1];exact ofB_31 hc4,by rw [ht.2.1];exact ofB_31 hc5⟩
   have g1:=hg.vals
   have g2:=hg.did
   have g3:=hg.cnt
   unfold passM
   refine ⟨by rw [h1,ht.2.2.1];exact g1,by rw [h2,ht.2.2.2.1];exact g2,by rw [h3,ht.2.2.2.2.1];exact g3,⟨in31_ok h4.1,in31_ok h4.2,fun x hx=>?_⟩,fun x hx=>?_⟩
   ·rw [h2] at hx
    exact ht.2.2.2.2.2 x hx
   ·rw [h1] at hx
    exact take_vals m s v hg.nums hv x hx
 ·exact good_nil
structure GoodMs (l:List Mv):Prop where
 len:l.length≤41
 vals:∀ v ∈ l,v.vals.length≤50
 nums:∀ v ∈ l,∀ x ∈ v.vals,ok64 x
theorem good_stN (m:Mod) (l:List Mv) (hf:Fit m) (hi:∀ x ∈ m.inits,ok64 x) (hl:GoodMs l):∀ k,GoodS (stN m l k)
 | 0=>good_begin m hf hi
 | k+1=>good_do m _ _ (good_stN m l hf hi hl k) fun x hx=>by
  by_cases hk:k<l.length
  ·rw [List.getD_eq_getElem?_getD,List.getElem?_eq_getElem hk] at hx
   exact hl.nums _ (List.getElem_mem hk) x hx
  ·rw [List.getD_eq_getElem?_getD,List.getElem?_eq_none (by omega)] at hx
   simp [mvNil] at hx
noncomputable def runPre (m:Mod) (l:List Mv) (k:Nat):List St:=(List.range (k+1)).map (stN m l)
theorem runPre_len (m:Mod) (l:List Mv) (k:Nat):(runPre m l k).length=k+1:=by simp [runPre]
theorem runPre_at (m:Mod) (l:List Mv) (k i:Nat) (h:i<(runPre m l k).length):(runPre m l k)[i]=stN m l i:=by simp [runPre]
abbrev sSts (l:List St):AV:=.sl 5 (l.map eSt)
theorem range_snoc {α:Type} (f:Nat → α) (k:Nat):(List.range (k+1)).map f=(List.range k).map f ++ [f k]:=by
 rw [List.range_succ,List.map_append]
 rfl
structure GoodM (m:Mod):Prop where
 fit:Fit m
 cond:condOk m
 pars:∀ p ∈ m.stages,ok64 p.2
 inits:∀ x ∈ m.inits,ok64 x
 roles:∀ p ∈ m.roles,ok64 p.2
 times:∀ e ∈ m.events,ok64 e.times
theorem allR_A (m:Mod) (l:List Mv) (hm:GoodM m) (hl:GoodMs l):ADet Tryz.prog 8 [.agg (eMod m),sMvs l] ⟨.tup [sSts (runSt m l),eI (runErr m l)],[],0⟩:=by
 refine ADet.still (R:=⟨.tup [.osl 0,eI (runErr m l)],[(0,some (.row 69 5 ((runSt m l).map eSt)))],1⟩) [0] ?_ (by simp [Res.frzs,Res.frz,ATab.get_cons,AV.frz,AV.frzL,frzTab,AObj.frz]) (by simp [AV.lt,AV.ltL])
 refine adet_of_code mixedT Tryz.func8 rfl (by decide) Tryz.ntmps8 Tryz.results8 rfl (tab_ok (by simp [tabLt,AObj.lt,AV.ltL,AV.lt]) (by simp [AV.lt,AV.ltL])) ?_
 have hlen:=hl.len
 have e0:(runPre m l 0).map eSt=[eSt (beginM m)]:=rfl
 (repeat' (first|refine go ?_ | exact .intro | refine sp (fun _=>?_) fun _=>?_|(with_reducible refine aDraw_quiet (by kernel_rfl) ?_) | ((with_reducible apply callT (g:=25));exact (begin19_A m hm.fit hm.pars);exact (.inl (by simp [roL,roA,treeL,treeC])))))
 refine ⟨rfl,?_⟩
 refine aLoop_of (fun st=>∃ k:Nat,k≤l.length ∧ (∀ i,i<k → okN m l i=true) ∧ st=⟨41,[(1,sMvs l),(2,.op 0 0 0),(6,.osl 1),(7,eI (k:Int))],[(0,some (.box 32 (eMod m))),(1,some (.row 69 5 ((runPre m l k).map eSt)))],2⟩) (fun st=>l.length - slotN st 7) ⟨_,(wE e0),0,Nat.zero_le _,by simp,rfl⟩ ?_
 rintro _ ⟨k,hk,hok,rfl⟩
 by_cases hk2:k<l.length
 ·have hgs:=good_stN m l hm.fit hm.inits hl k
  have hd:=do19_A m (stN m l k) l[k] hm.fit hgs.fit (by have:=hl.vals _ (List.getElem_mem hk2);omega) hm.pars hm.roles hgs.ok hm.times
  have hlk:l.getD k mvNil=l[k]:=by rw [List.getD_eq_getElem?_getD,List.getElem?_eq_getElem hk2];rfl
  have h1:(doM m (stN m l k) l[k]).1=stN m l (k+1):=by rw [stN,hlk]
  have h2:(doM m (stN m l k) l[k]).2=errN m l k:=by rw [errN,hlk]
  rw [h1,h2] at hd
  have hrow:k<(runPre m l k).length:=by rw [runPre_len];omega
  have hat:(runPre m l k)[k]=stN m l k:=runPre_at ..
  have hlr:(runPre m l k).length≤1000000:=by rw [runPre_len];omega
  have hsn:(runPre m l (k+1)).map eSt=(runPre m l k).map eSt ++ [eSt (stN m l (k+1))]:=by unfold runPre;rw [range_snoc (stN m l) (k+1),List.map_append];rfl
  (repeat' (first|refine ge hk2 ?_ | exact .intro | refine sp (fun _=>?_) fun _=>?_))
  refine aDraw_held [] [0,1,2,3,4,5,6,7,8] (.two 9 (.take 10 (.take 11 (.take 12 (.exec 13 (.exec 14 (.exec 15 .done)))))) 13 (.exec 9 (.take 10 (.take 11 (.take 12 (.exec 14 (.exec 15 .done))))))) (by kernel_rfl) (by simp [ATab.get_cons]) ?_
  by_cases hek:errN m l k=0
  ·have hok':∀ i,i<k+1 → okN m l i=true:=fun i hi=>by
    rcases Nat.lt_or_ge i k with h|h
    ·exact hok i h
    ·obtain rfl:i=k:=by omega
     simp [okN,hek]
   have hz:((0:Int) != 0)=false:=by decide
   (repeat' (first|refine go ?_|simp only [row_at,hk2,hrow,hat,hek,hz] | exact .intro | refine sp (fun _=>?_) fun _=>?_|(with_reducible refine aDraw_quiet (by kernel_rfl) ?_) | ((with_reducible apply callT);exact ((hek ▸ hd));exact (.inl (by simp [roL,roA,treeL,treeC]))) | (with_reducible apply And.intro)))
   all_goals first
    | rfl
    | omega
    | exact rI (wS [0,4] @hsn) ⟨k+1,by omega,hok',rfl⟩
  ·have hz:(errN m l k != 0)=true:=by simp [hek]
   have hG:runK m l=k:=goodN_eq _ hk hok fun _=>by simp [okN,hek]
   have hE:runErr m l=errN m l k:=by unfold runErr;rw [if_neg (by omega),hG]
   have hR:runPre m l k=runSt m l:=by unfold runSt runPre;rw [hG]
   (repeat' (first|refine go ?_|simp only [row_at,hk2,hrow,hat,hz] | exact .intro | refine sp (fun _=>?_) fun _=>?_|(with_reducible refine aDraw_quiet (by kernel_rfl) ?_) | ((with_reducible apply callT);exact (hd);exact (.inl (by simp [roL,roA,treeL,treeC]))) | (with_reducible apply And.intro)))
   all_goals first
    | exact ⟨[1],by decide,by simp [AV.ren,AV.renL,hE],by simp [aTabs,ATab.get_cons,hR]⟩
    | (exfalso;simp_all)
 ·obtain rfl:k=l.length:=by omega
  have hG:runK m l=l.length:=goodN_eq _ (Nat.le_refl _) hok fun h=>absurd h (Nat.lt_irrefl _)
  have hE:runErr m l=0:=by unfold runErr;rw [if_pos hG]
  have hR:runPre m l l.length=runSt m l:=by unfold runSt runPre;rw [hG]
  (repeat' (first|refine ge hk2 ?_ | exact .intro | refine sp (fun _=>?_) fun _=>?_|(with_reducible refine aDraw_quiet (by kernel_rfl) ?_)))
  exact ⟨[1],by decide,by simp [AV.ren,AV.renL,hE],by simp [aTabs,ATab.get_cons,hR]⟩
end
section
open Go.RowKit
def valsU (near:List Int) (c:Int):Nat → List Int × Int
 | 0=>([],c)
 | i+1=>((valsU near c i).1 ++ [(numU near (valsU near c i).2).1],(numU near (valsU near c i).2).2)
theorem valsU_len (near:List Int) (c:Int):∀ i,(valsU near c i).1.length=i
 | 0=>rfl
 | i+1=>by simp [valsU,valsU_len near c i]
theorem valsU_ok {near:List Int} {c:Int} (h:∀ x ∈ near,ok64 x) (hn:0<near.length) (hc:okU c):∀ i,(∀ x ∈ (valsU near c i).1,ok64 x) ∧ okU (valsU near c i).2
 | 0=>⟨fun x hx=>by simp [valsU] at hx,hc⟩
 | i+1=>by
  obtain ⟨h1,h2⟩:=valsU_ok h hn hc i
  have h3:=numU_ok (c:=(valsU near c i).2) h hn
  refine ⟨fun x hx=>?_,h3.2⟩
  rw [valsU,List.mem_append,List.mem_singleton] at hx
  rcases hx with hx|rfl
  ·exact h1 x hx
  ·exact h3.1
def nearL (m:Mod) (s:St):List Int:=if sortR (constsM m [] ++ s.vals)=[] then [0] else sortR (constsM m [] ++ s.vals)
theorem nearL_pos (m:Mod) (s:St):0<(nearL m s).length:=by
 unfold nearL
 split
 ·simp
 ·rename_i h
  exact List.length_pos_iff.2 h
theorem numsOfV_ok (l:List Inst) (h:∀ x ∈ l,x.ok):∀ n ∈ numsOf l,ok64 n:=fun n hn=>by
 obtain ⟨x,hx,hn⟩:=List.mem_flatMap.1 hn
 have hk:=h x hx
 unfold numsAt at hn
 split at hn
 ·rcases List.mem_append.1 hn with hn | hn
  ·split at hn
   ·obtain rfl:=List.mem_singleton.1 hn
    exact hk.2.2.1
   ·cases hn
  ·split at hn
   ·obtain rfl:=List.mem_singleton.1 hn
    exact hk.2.2.2.2.1
   ·cases hn
 ·cases hn
theorem condN_ok (l:List Inst) (h:∀ x ∈ l,x.ok):∀ n ∈ condN l,ok64 n:=fun n hn=>numsOfV_ok l h n (((sortR_up (numsOf l)).2 n).1 hn)
theorem constsM_ok (m:Mod) (hc:condOk m):∀ n ∈ constsM m [],ok64 n:=fun n hn=>by
 have hn:=((sortR_up _).2 n).1 hn
 rcases List.mem_append.1 hn with hn|hn
 ·rcases List.mem_append.1 hn with hn | hn
  ·exact condN_ok [] (fun x hx=>by cases hx) n hn
  ·obtain ⟨g,hg,hn⟩:=List.mem_flatMap.1 hn
   exact condN_ok _ (hc.1 g hg) n hn
 ·obtain ⟨g,hg,hn⟩:=List.mem_flatMap.1 hn
  exact condN_ok _ (hc.2 g hg) n hn
theorem nearL_ok (m:Mod) (s:St) (hc:condOk m) (hs:∀ x ∈ s.vals,ok64 x):∀ x ∈ nearL m s,ok64 x:=fun x hx=>by
 unfold nearL at hx
 split at hx
 ·obtain rfl:=List.mem_singleton.1 hx
  unfold ok64
  omega
 ·have hx:=((sortR_up _).2 x).1 hx
  rcases List.mem_append.1 hx with hx|hx
  ·exact constsM_ok m hc x hx
  ·exact hs x hx
noncomputable def lawLU (m:Mod) (s:St):List Mv:=if mvsM m s m.events.length=[] then [⟨-1,-1,[]⟩] else mvsM m s m.events.length
theorem lawLU_pos (m:Mod) (s:St):0<(lawLU m s).length:=by
 unfold lawLU
 split
 ·simp
 ·rename_i h
  exact List.length_pos_iff.2 h
noncomputable def mvAt (m:Mod) (s:St) (c:Int):Mv:=(lawLU m s).getD (pickU (nextU c) ((lawLU m s).length:Int)).toNat mvNil
theorem mvAt_mem (m:Mod) (s:St) (c:Int):mvAt m s c ∈ lawLU m s:=by
 obtain ⟨h1,h2⟩:=pickU_lt (c:=nextU c) (lawLU_pos m s)
 unfold mvAt
 rw [List.getD_eq_getElem?_getD,List.getElem?_eq_getElem (show (pickU (nextU c) ((lawLU m s).length:Int)).toNat<(lawLU m s).length by omega)]
 exact List.getElem_mem _
noncomputable def stepU (m:Mod) (s:St) (c:Int):Mv × Int:=
 (⟨(mvAt m s c).event,(mvAt m s c).user,(valsU (nearL m s) (nextU c) (mvAt m s c).vals.length).1⟩,(valsU (nearL m s) (nextU c) (mvAt m s c).vals.length).2)
noncomputable def simS (m:Mod) (seed:Int):Nat → Int × St
 | 0=>(seed,beginM m)
 | k+1=>((stepU m (simS m seed k).2 (simS m seed k).1).2,(doM m (simS m seed k).2 (stepU m (simS m seed k).2 (simS m seed k).1).1).1)
noncomputable def mvU (m:Mod) (seed:Int) (k:Nat):Mv:=(stepU m (simS m seed k).2 (simS m seed k).1).1
noncomputable def simL (m:Mod) (seed:Int) (k:Nat):List Mv:=(List.range k).map (mvU m seed)
theorem simL_len (m:Mod) (seed:Int) (k:Nat):(simL m seed k).length=k:=by simp [simL]
theorem simL_succ (m:Mod) (seed:Int) (k:Nat):simL m seed (k+1)=simL m seed k ++ [mvU m seed k]:=range_snoc _ _
theorem simL_take (m:Mod) (seed:Int) (k n:Nat):(simL m seed k).take n=simL m seed (min n k):=by
 unfold simL
 rw [← List.map_take,List.take_range]
theorem of_M (c:Int) (n:Int) (hn:ok64 n):AMth Tryz.prog 19 66 [eU c] [] [eI n] (fun av cells' objs'=>av=eI (pickU (nextU c) n) ∧ cells'=[eU (nextU c)] ∧ objs'=[]):=by
 refine amth_of_code mixedT Tryz.func19 rfl (by decide) Tryz.ntmps19 Tryz.results19 rfl (by kernel_rfl) (by simp [AV.ltL,AV.lt]) (by simp [plainO]) ?_
 simp only [tabN,List.length_nil,Nat.zero_add]
 have hN:=next_A c
 have hP:ADet Tryz.prog 46 [eU (nextU c),eI n] (val (.int .i64 (pickU (nextU c) n))):=pick_A (nextU c) n (nextU_ok c) hn
 generalize pickU (nextU c) n=p at *
 generalize nextU c=c1 at *
 (repeat' (first|refine go ?_ | exact .intro | refine sp (fun _=>?_) fun _=>?_))
 refine callV hN ?_
 (repeat' (first|refine go ?_ | exact .intro | refine sp (fun _=>?_) fun _=>?_))
 refine callV hP ?_
 (repeat' (first|refine go ?_ | exact .intro | refine sp (fun _=>?_) fun _=>?_))
 exact ⟨[eU c1],[],⟨rfl,rfl⟩,trivial,⟨rfl,by simp [AV.ltL,AV.lt],by simp⟩,(weak_ren1 [0] ⟨(by decide),(by (first | ((simp only [envInR,tabInR,envLt,tabLt,AObj.lt,AV.lt,AV.ltL,AV.ren,AV.renL,AObj.ren,List.getD_cons_zero,List.getD_cons_succ,List.length_cons,List.length_nil,ruW,ASt.get,aget,ASt.put,↓reduceIte,reduceCtorEq,Nat.reduceLT,Nat.reduceEqDiff,Nat.reduceAdd,Nat.reduceLeDiff,eq_self,implies_true,tabN,List.length_nil,Nat.zero_add]) <;> (repeat' apply And.intro) <;> first | (rw [wrapK (by omega)];done) | (simp;done) | omega) | fail))⟩)⟩
structure MvAt (B T:ATab) (n0 o nx:Nat) (X:Nat → AV) (l:List Mv):Prop where
 base:∀ id,id<n0 → T.get id=B.get id
 out:∃ rows,T.get o=some (.nest 63 3 rows) ∧ rows.length=l.length ∧ ∀ j (h:j<l.length),rows[j]?.getD []=[eI l[j].event,eI l[j].user,X j]
 inn:∀ j (h:j<l.length),(X j=.c (.slice none 0 0) ∧ l[j].vals=[]) ∨ ∃ id,X j=.osl id ∧ n0≤id ∧ id ≠ o ∧ id<nx ∧ T.get id=some (.nest 2 1 (eNs l[j].vals))
 lo:n0≤o ∧ o<nx
end
section
open Go.RowKit
structure BaseOK (m:Mod) (s:St) (T:ATab):Prop where
 t0:T.get 0=some (.box 32 (eMod m))
 t1:T.get 1=some (.box 69 (eSt s))
 t2:T.get 2=some (.box 69 [.osl 3,eI s.opn,eI s.don,.osl 4,.osl 5])
 t3:T.get 3=some (.row 2 1 (eNs s.vals))
 t4:T.get 4=some (.row 3 1 (eNs s.did))
 t5:T.get 5=some (.row 3 1 (eNs s.cnt))
theorem BaseOK.keep {m:Mod} {s:St} {T T':ATab} (h:BaseOK m s T) (ht:∀ id,id<6 → T'.get id=T.get id):BaseOK m s T':=
 ⟨(ht 0 (by omega)).trans h.t0,(ht 1 (by omega)).trans h.t1,(ht 2 (by omega)).trans h.t2,(ht 3 (by omega)).trans h.t3,(ht 4 (by omega)).trans h.t4,(ht 5 (by omega)).trans h.t5⟩
theorem BaseOK.frz {m:Mod} {s:St} {T T':ATab} {id sz:Nat} {rows:List (List AV)} (h:BaseOK m s T) (hid:6≤id) (ht:∀ k,T'.get k=if k=id then none else (T.get k).map (AObj.frz id sz rows)):BaseOK m s T':=by
 have e3:¬ 3=id:=by omega
 have e4:¬ 4=id:=by omega
 have e5:¬ 5=id:=by omega
 refine ⟨?_,?_,?_,?_,?_,?_⟩
 ·rw [ht,if_neg (by omega),h.t0]
  simp [AObj.frz,AV.frzL,AV.frz]
 ·rw [ht,if_neg (by omega),h.t1]
  simp [AObj.frz,AV.frzL,AV.frz]
 ·rw [ht,if_neg (by omega),h.t2]
  simp [AObj.frz,AV.frzL,AV.frz,e3,e4,e5]
 ·rw [ht,if_neg (by omega),h.t3]
  simp [AObj.frz]
 ·rw [ht,if_neg (by omega),h.t4]
  simp [AObj.frz]
 ·rw [ht,if_neg (by omega),h.t5]
  simp [AObj.frz]
structure LawOK (m:Mod) (s:St) (T:ATab) (o:Nat) (X:Nat → AV) (l:List Mv) (i nx:Nat):Prop where
 base:BaseOK m s T
 out:∃ rows,T.get o=some (.nest 63 3 rows) ∧ rows.length=l.length ∧ ∀ j (h:j<l.length),i≤j → rows[j]?.getD []=[eI l[j].event,eI l[j].user,X j]
 inn:∀ j (h:j<l.length),i≤j → (X j=.c (.slice none 0 0) ∧ l[j].vals=[]) ∨ ∃ id,X j=.osl id ∧ 6≤id ∧ id ≠ o ∧ id<nx ∧ T.get id=some (.nest 2 1 (eNs l[j].vals)) ∧ ∀ j' (h':j'<l.length),i≤j' → X j'=.osl id → j'=j
 lo:6≤o ∧ o<nx
theorem LawOK.keep {m:Mod} {s:St} {T T':ATab} {o:Nat} {X:Nat → AV} {l:List Mv} {i nx nx':Nat} (h:LawOK m s T o X l i nx) (ht:∀ id,id<nx → T'.get id=T.get id) (hn:nx≤nx'):LawOK m s T' o X l i nx':=by
 have hlo:=h.lo
 refine ⟨h.base.keep fun id hid=>ht id (by omega),?_,fun j hj hij=>?_,by omega⟩
 ·obtain ⟨rows,h1,h2⟩:=h.out
  exact ⟨rows,(ht o hlo.2).trans h1,h2⟩
 ·rcases h.inn j hj hij with h1 | ⟨id,h1,h2,h3,h4,h5,h6⟩
  ·exact .inl h1
  ·exact .inr ⟨id,h1,h2,h3,by omega,(ht id h4).trans h5,h6⟩
noncomputable def lawL (m:Mod) (s:St):List Mv:=if mvsM m s m.events.length=[] then [⟨-1,-1,[]⟩] else mvsM m s m.events.length
structure Good (m:Mod) (s:St) (v:Mv):Prop where
 is:(doM m s v).2=0
 chk:chkS m (doM m s v).1=true
 snd:sndP m s.opn → sndP m (doM m s v).1.opn
 did:∀ k,k<s.did.length → ∀ i:Int,hasB (s.did.getD k 0) i=true → hasB ((doM m s v).1.did.getD k 0) i=true
 cnt:∀ k,k<s.cnt.length → s.cnt.getD k 0≤(doM m s v).1.cnt.getD k 0
theorem good_of {m:Mod} {s:St} (hci:circleL (pars m)<0) (hc:chkS m s=true) {v:Mv} (hv:v ∈ lawL m s) {vs:List Int} (hl:vs.length=v.vals.length):Good m s ⟨v.event,v.user,vs⟩:=by
 unfold lawL at hv
 split at hv
 ·rename_i h0
  obtain rfl:v=⟨-1,-1,[]⟩:=by simpa using hv
  obtain rfl:vs=[]:=List.eq_nil_of_length_eq_zero hl
  have hid:idleM ⟨-1,-1,[]⟩=true:=rfl
  have hm:mayM m s ⟨-1,-1,[]⟩=0:=by
   unfold mayM
   rw [if_neg (by rw [hc];simp),if_pos hid,if_neg (by rw [any_none h0];simp)]
  have hd:doM m s ⟨-1,-1,[]⟩=(s,0):=by
   unfold doM
   rw [if_pos hm,if_pos hid]
  refine ⟨?_,?_,?_,?_,?_⟩
  ·show (doM m s ⟨-1,-1,[]⟩).2=0
   rw [hd]
  ·show chkS m (doM m s ⟨-1,-1,[]⟩).1=true
   rw [hd]
   exact hc
  ·show sndP m s.opn → sndP m (doM m s ⟨-1,-1,[]⟩).1.opn
   rw [hd]
   exact id
  ·show ∀ k,k<s.did.length → ∀ i:Int,hasB (s.did.getD k 0) i=true → hasB ((doM m s ⟨-1,-1,[]⟩).1.did.getD k 0) i=true
   rw [hd]
   exact fun k _ i h=>h
  ·show ∀ k,k<s.cnt.length → s.cnt.getD k 0≤(doM m s ⟨-1,-1,[]⟩).1.cnt.getD k 0
   rw [hd]
   exact fun k _=>Int.le_refl _
 ·obtain ⟨e,he⟩:=mvs_of (Nat.le_refl _) v hv
  have he2:MvOf m s ⟨v.event,v.user,vs⟩ e:=⟨he.ev,he.lt,he.en,hl.trans he.len⟩
  have hmo:=more_of hc he2
  exact ⟨by rw [do_of hc he2],chk_of hc he2,snd_of hci hc he2,hmo.1,hmo.2⟩
structure LawW (m:Mod) (s:St) (T:ATab) (o:Nat) (X:Nat → AV) (l:List Mv) (i nx id:Nat) (v:Mv) (nv:List Int):Prop where
 law:LawOK m s T o X l (i+1) nx
 row:∃ rows,T.get o=some (.nest 63 3 rows) ∧ rows.length=l.length ∧ rows[i]?.getD []=[eI v.event,eI v.user,.osl id]
 own:T.get id=some (.nest 2 1 (eNs nv))
 ge:6≤id
 ne:id ≠ o
 lt:id<nx
 uniq:∀ j' (h':j'<l.length),i+1≤j' → X j' ≠ .osl id
structure LawD (m:Mod) (s:St) (T:ATab) (o:Nat) (X:Nat → AV) (l:List Mv) (i nx:Nat) (v:Mv) (Y:AV):Prop where
 law:LawOK m s T o X l (i+1) nx
 row:∃ rows,T.get o=some (.nest 63 3 rows) ∧ rows.length=l.length ∧ rows[i]?.getD []=[eI v.event,eI v.user,Y]
theorem LawD.keep {m:Mod} {s:St} {T T':ATab} {o:Nat} {X:Nat → AV} {l:List Mv} {i nx nx':Nat} {v:Mv} {Y:AV} (h:LawD m s T o X l i nx v Y) (ht:∀ id,id<nx → T'.get id=T.get id) (hn:nx≤nx'):LawD m s T' o X l i nx' v Y:=by
 obtain ⟨rows,h1,h2⟩:=h.row
 exact ⟨h.law.keep ht hn,rows,(ht o h.law.lo.2).trans h1,h2⟩
theorem LawOK.next {m:Mod} {s:St} {T:ATab} {o:Nat} {X:Nat → AV} {l:List Mv} {i nx:Nat} (h:LawOK m s T o X l i nx):LawOK m s T o X l (i+1) nx:=by
 refine ⟨h.base,?_,fun j hj hij=>?_,h.lo⟩
 ·obtain ⟨rows,h1,h2,h3⟩:=h.out
  exact ⟨rows,h1,h2,fun j hj hij=>h3 j hj (by omega)⟩
 ·rcases h.inn j hj (by omega) with h1 | ⟨id,h1,h2,h3,h4,h5,h6⟩
  ·exact .inl h1
  ·exact .inr ⟨id,h1,h2,h3,h4,h5,fun j' hj' hij'=>h6 j' hj' (by omega)⟩
theorem LawOK.nil {m:Mod} {s:St} {T:ATab} {o:Nat} {X:Nat → AV} {l:List Mv} {i nx:Nat} (h:LawOK m s T o X l i nx) (hi:i<l.length) (hX:X i=.c (.slice none 0 0)):LawD m s T o X l i nx l[i] (.c (.slice none 0 0)):=by
 refine ⟨h.next,?_⟩
 obtain ⟨rows,h1,h2,h3⟩:=h.out
 exact ⟨rows,h1,h2,by rw [h3 i hi (Nat.le_refl _),hX]⟩
theorem LawOK.own {m:Mod} {s:St} {T:ATab} {o:Nat} {X:Nat → AV} {l:List Mv} {i nx id:Nat} (h:LawOK m s T o X l i nx) (hi:i<l.length) (hX:X i=.osl id) (h2:6≤id) (h3:id ≠ o) (h4:id<nx) (h5:T.get id=some (.nest 2 1 (eNs l[i].vals))) (h6:∀ j' (h':j'<l.length),i≤j' → X j'=.osl id → j'=i):LawW m s T o X l i nx id l[i] l[i].vals:=by
 refine ⟨h.next,?_,h5,h2,h3,h4,fun j' hj' hij' e=>by have:=h6 j' hj' (by omega) e;omega⟩
 obtain ⟨rows,g1,g2,g3⟩:=h.out
 exact ⟨rows,g1,g2,by rw [g3 i hi (Nat.le_refl _),hX]⟩
theorem LawW.set {m:Mod} {s:St} {T:ATab} {o:Nat} {X:Nat → AV} {l:List Mv} {i nx id:Nat} {v:Mv} {nv:List Int} (h:LawW m s T o X l i nx id v nv) (nv':List Int):LawW m s ((id,some (.nest 2 1 (eNs nv'))) :: T) o X l i nx id v nv':=by
 have hg:∀ k,k ≠ id → ATab.get ((id,some (.nest 2 1 (eNs nv'))) :: T) k=T.get k:=fun k hk=>by rw [ATab.get_cons,if_neg hk]
 have hge:=h.ge
 refine ⟨⟨h.law.base.keep fun k hk=>hg k (by omega),?_,fun j hj hij=>?_,h.law.lo⟩,?_,by rw [ATab.get_cons,if_pos rfl],h.ge,h.ne,h.lt,h.uniq⟩
 ·obtain ⟨rows,h1,h2⟩:=h.law.out
  exact ⟨rows,(hg o (Ne.symm h.ne)).trans h1,h2⟩
 ·rcases h.law.inn j hj hij with h1 | ⟨id',h1,h2,h3,h4,h5,h6⟩
  ·exact .inl h1
  ·have hne:id' ≠ id:=fun e=>h.uniq j hj hij (by rw [h1,e])
   exact .inr ⟨id',h1,h2,h3,h4,(hg id' hne).trans h5,h6⟩
 ·obtain ⟨rows,h1,h2⟩:=h.row
  exact ⟨rows,(hg o (Ne.symm h.ne)).trans h1,h2⟩
theorem LawW.frz {m:Mod} {s:St} {T T':ATab} {o:Nat} {X:Nat → AV} {l:List Mv} {i nx id:Nat} {v:Mv} {nv:List Int} (h:LawW m s T o X l i nx id v nv) (ht:∀ k,T'.get k=if k=id then none else (T.get k).map (AObj.frz id 1 (eNs nv))):LawD m s T' o X l i nx v (sI nv):=by
 have hrow:∀ (rows:List (List AV)) (j:Nat) (e u x:AV),rows[j]?.getD []=[e,u,x] → (rows.map (AV.frzL id 1 (eNs nv)))[j]?.getD []=[e.frz id 1 (eNs nv),u.frz id 1 (eNs nv),x.frz id 1 (eNs nv)]:=fun rows j e u x hr=>by
  rw [List.getElem?_map]
  cases hj:rows[j]? with
  | none=>rw [hj] at hr;cases hr
  | some r=>
   rw [hj] at hr
   simp only [Option.getD_some] at hr
   rw [hr]
   rfl
 have hgo:∀ rows,T.get o=some (.nest 63 3 rows) → T'.get o=some (.nest 63 3 (rows.map (AV.frzL id 1 (eNs nv)))):=fun rows hr=>by
  rw [ht,if_neg (Ne.symm h.ne),hr]
  rfl
 refine ⟨⟨h.law.base.frz h.ge ht,?_,fun j hj hij=>?_,h.law.lo⟩,?_⟩
 ·obtain ⟨rows,h1,h2,h3⟩:=h.law.out
  refine ⟨_,hgo rows h1,by simpa using h2,fun j hj hij=>?_⟩
  rw [hrow rows j _ _ _ (h3 j hj hij)]
  have:(X j).frz id 1 (eNs nv)=X j:=by
   rcases h.law.inn j hj hij with ⟨h4,_⟩|⟨id',h4,_⟩
   ·rw [h4]
    rfl
   ·have hne:id' ≠ id:=fun e=>h.uniq j hj hij (by rw [h4,e])
    rw [h4]
    simp [AV.frz,hne]
  rw [this]
  rfl
 ·rcases h.law.inn j hj hij with h1 | ⟨id',h1,h2,h3,h4,h5,h6⟩
  ·exact .inl h1
  ·have hne:id' ≠ id:=fun e=>h.uniq j hj hij (by rw [h1,e])
   refine .inr ⟨id',h1,h2,h3,h4,?_,h6⟩
   rw [ht,if_neg hne,h5]
   simp [AObj.frz,AV.frzL,AV.frz,Function.comp_def]
 ·obtain ⟨rows,h1,h2,h3⟩:=h.row
  refine ⟨_,hgo rows h1,by simpa using h2,?_⟩
  rw [hrow rows i _ _ _ h3]
  simp [AV.frz]
end
section
open Go.RowKit
theorem ofB_zero (n:Nat):ofB 0 (n:Int)=true:=by
 unfold ofB firstI
 have:(0:Int)<2 ^ (max 0 (min (n:Int) 31)).toNat:=Int.pow_pos (by omega)
 simp
 omega
theorem begin_chkV (m:Mod) (h3:m.inits.length=m.attrs.length) (ht:∀ i (h:i<m.events.length),0≤m.events[i].times):chkS m (beginM m)=true:=by
 have hof:=fold_of (m:=m) (event:=-1) (m.order.take m.order.length) (s:=startS m) (ofB_zero _) (ofB_zero _)
 have hv:=fold_vals m (-1) (m.order.take m.order.length) (startS m)
 have e1:(beginM m).vals=m.inits:=hv.1
 have e2:(beginM m).did=List.replicate m.events.length 0:=hv.2.1
 have e3:(beginM m).cnt=List.replicate m.events.length 0:=hv.2.2
 have g:∀ i,(List.replicate m.events.length (0:Int)).getD i 0=0:=fun i=>by
  rw [List.getD_eq_getElem?_getD,List.getElem?_replicate]
  split <;> rfl
 refine chk_iff.2 ⟨by rw [e1,h3],by rw [e2];simp,by rw [e3];simp,hof.1,hof.2,fun i hi=>(chkAt_iff hi).2 ?_⟩
 rw [e2,e3,g]
 exact ⟨ofB_zero _,Int.le_refl _,ht i hi⟩
theorem lawLU_vals {m:Mod} {s:St} (hf:Fit m):∀ v ∈ lawLU m s,v.vals.length≤10:=by
 unfold lawLU
 split
 ·simp
 ·intro v hv
  obtain ⟨e,he⟩:=mvs_of (Nat.le_refl _) v hv
  rw [he.len]
  have:=he.lt
  simp only [List.getElem?_eq_getElem he.lt,Option.map_some,Option.getD_some]
  exact hf.events _ (List.getElem_mem _)
theorem mvs_rep {m:Mod} {s:St}:∀ {n:Nat},∀ v ∈ mvsM m s n,∃ q,v.vals=List.replicate q 0
 | 0,v,h=>by simp [mvsM] at h
 | n+1,v,h=>by
  rw [mvsM,List.mem_append] at h
  rcases h with h|h
  ·exact mvs_rep v h
  ·obtain ⟨u,hu,rfl⟩:=List.mem_map.1 h
   exact ⟨_,rfl⟩
theorem lawLU_zero {m:Mod} {s:St}:∀ v ∈ lawLU m s,∃ n,v.vals=List.replicate n 0:=by
 unfold lawLU
 split
 ·intro v hv
  obtain rfl:=List.mem_singleton.1 hv
  exact ⟨0,rfl⟩
 ·intro v hv
  exact mvs_rep v hv
structure SimK (m:Mod) (seed:Int) (k:Nat):Prop where
 ch:okU (simS m seed k).1
 chk:chkS m (simS m seed k).2=true
 good:GoodS (simS m seed k).2
theorem near_ok {m:Mod} {s:St} (hm:GoodM m) (h:GoodS s):∀ x ∈ nearL m s,ok64 x:=nearL_ok m s hm.cond h.nums
theorem step_good {m:Mod} {s:St} {c:Int} (hm:GoodM m) (hF:ChkF m) (hc:chkS m s=true):Good m s (stepU m s c).1:=by
 have hv:mvAt m s c ∈ lawL m s:=mvAt_mem m s c
 exact good_of hF.chk.circle hc hv (valsU_len _ _ _)
theorem step_vals {m:Mod} {s:St} {c:Int} (hm:GoodM m) (hg:GoodS s) (hc:okU c):(∀ x ∈ (stepU m s c).1.vals,ok64 x) ∧ (stepU m s c).1.vals.length≤10 ∧ okU (stepU m s c).2:=by
 have h:=valsU_ok (near_ok hm hg) (nearL_pos m s) (nextU_ok c) (mvAt m s c).vals.length
 refine ⟨h.1,?_,h.2⟩
 have h2:=lawLU_vals hm.fit _ (mvAt_mem m s c)
 show (valsU (nearL m s) (nextU c) (mvAt m s c).vals.length).1.length≤10
 rw [valsU_len]
 exact h2
theorem sim_ok {m:Mod} {seed:Int} (hm:GoodM m) (hF:ChkF m) (hs:okU seed):∀ k,SimK m seed k
 | 0=>⟨hs,begin_chkV m hF.chk.inits fun i h=>(hF.writes.each i h).1,good_begin m hm.fit hm.inits⟩
 | k+1=>by
  obtain ⟨h1,h2,h3⟩:=sim_ok hm hF hs k
  have hg:=step_good (c:=(simS m seed k).1) hm hF h2
  obtain ⟨v1,v2,v3⟩:=step_vals (c:=(simS m seed k).1) hm h3 h1
  exact ⟨v3,hg.chk,good_do m _ _ h3 v1⟩
theorem simL_at {m:Mod} {seed:Int} {n k:Nat} (h:k<n):(simL m seed n).getD k mvNil=mvU m seed k:=by simp [simL,List.getD,h]
theorem sim_st {m:Mod} {seed:Int} {n:Nat}:∀ k,k≤n → stN m (simL m seed n) k=(simS m seed k).2
 | 0,_=>rfl
 | k+1,h=>by
  rw [stN,sim_st k (by omega),simL_at (by omega)]
  rfl
theorem sim_ok0 {m:Mod} {seed:Int} (hm:GoodM m) (hF:ChkF m) (hs:okU seed) {n k:Nat} (h:k<n):okN m (simL m seed n) k=true:=by
 unfold okN errN
 rw [sim_st k (by omega),simL_at h]
 have hg:=step_good (c:=(simS m seed k).1) hm hF (sim_ok hm hF hs k).chk
 show ((doM m (simS m seed k).2 (stepU m (simS m seed k).2 (simS m seed k).1).1).2 == 0)=true
 rw [hg.is]
 rfl
theorem sim_runK {m:Mod} {seed:Int} (hm:GoodM m) (hF:ChkF m) (hs:okU seed) (n:Nat):runK m (simL m seed n)=n:=by
 have h1:=goodN_le (okN m (simL m seed n)) (simL m seed n).length
 have h2:=goodN_ge (okN m (simL m seed n)) (n:=(simL m seed n).length) (k:=n) (by rw [simL_len];exact Nat.le_refl _) fun i hi=>sim_ok0 hm hF hs hi
 rw [simL_len] at h1 h2
 unfold runK
 rw [simL_len]
 omega
theorem sim_err {m:Mod} {seed:Int} (hm:GoodM m) (hF:ChkF m) (hs:okU seed) (n:Nat):runErr m (simL m seed n)=0:=by
 unfold runErr
 rw [if_pos (by rw [sim_runK hm hF hs,simL_len])]
theorem sim_good {m:Mod} {seed:Int} (hm:GoodM m) (hF:ChkF m) (hs:okU seed) (n:Nat) (hn:n≤41):GoodMs (simL m seed n):=by
 have hv:∀ v ∈ simL m seed n,(∀ x ∈ v.vals,ok64 x) ∧ v.vals.length≤10:=fun v hv=>by
  obtain ⟨k,_,rfl⟩:=List.mem_map.1 hv
  obtain ⟨h1,h2,h3⟩:=sim_ok hm hF hs k
  obtain ⟨v1,v2,v3⟩:=step_vals (c:=(simS m seed k).1) hm h3 h1
  exact ⟨v1,v2⟩
 exact ⟨by rw [simL_len];exact hn,fun v h=>by have:=(hv v h).2;omega,fun v h=>(hv v h).1⟩
end
end
end Go.Proofs.YtcindbpnaicemaaGreat
