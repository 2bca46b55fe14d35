/-
  Parts of the proof: Sgp13, Sgp14, Sgp15, Sgp16, Sgp17.
-/
import Derived.Test.YtcindbpnaicemaaGreatSgq4
import Derived.TacticsIn
import Derived.RangeFuncIn
import Derived.RangeFuncCalls
import Derived.RangeFuncRecord
set_option linter.unusedVariables false
set_option linter.unusedSimpArgs false
set_option linter.defProp false
set_option maxRecDepth 100000
set_option maxHeartbeats 16000000
namespace Go.Proofs.YtcindbpnaicemaaGreat
section
section
open Go.RowKit
theorem items_plain {l:List Int}:∀ row ∈ l.map eItm,∀ av ∈ row,av.plain:=fun row hr av ha=>by
 obtain ⟨n,_,rfl⟩:=List.mem_map.1 hr
 simp [eItm] at ha
 rcases ha with rfl|rfl|rfl|rfl|rfl|rfl|rfl|rfl|rfl <;> trivial
def attrB (attrs:Bool) (op:Int):Bool:=attrs && decide (3≤op) && decide (op≤8)
theorem askOk_at (vals:List Int) (x:Inst) (attrs:Bool):askOk vals attrs x = !((decide (18<x.op) || (decide (10<x.op) && decide (x.op<15))) || (attrB attrs x.op && (!thereB vals x.la || !thereB vals x.ra))):=by
 unfold askOk attrB thereB
 simp only [Bool.and_assoc,Bool.or_assoc]
theorem check16_A (l:List Inst) (s:St) (attrs:Bool) (hl:l.length≤1000000) (b:Bool) (hb:b=true ↔ (checkE (l.map Inst.op)=0 ∧ ∀ x ∈ l,askOk s.vals attrs x=true)):ADet Tryz.prog 160 [sInsts l,.agg (eSt s),eB attrs] (val (.bool b)):=by
 refine adet_of_code mixedT Tryz.func160 rfl (by decide) Tryz.ntmps160 Tryz.results160 rfl (val_ok _) ?_
 have h70:checkE ((l.map Inst.op).take 70)=checkE (l.map Inst.op):=by
  by_cases h:l.length≤70
  ·rw [List.take_of_length_le (by simpa using h)]
  ·have e7:((l.map Inst.op).take 70).length=70:=by rw [List.length_take,List.length_map];omega
   have e8:(l.map Inst.op).length=l.length:=List.length_map ..
   unfold checkE
   rw [if_neg (by omega),if_pos (by omega),if_neg (by omega),if_pos (by omega)]
 (repeat' (first|refine go ?_ | exact .intro | refine sp (fun _=>?_) fun _=>?_))
 refine callO (shapeR_A l hl) (.inr items_plain) ?_
 (repeat' (first|refine go ?_ | exact .intro | refine sp (fun _=>?_) fun _=>?_))
 refine callV (check04R_A _ (by simp;omega)) ?_
 rw [h70]
 (repeat' (first|refine go ?_ | exact .intro | refine sp (fun _=>?_) fun _=>?_))
 ·rename_i h
  symm
  rw [Bool.eq_false_iff]
  intro h2
  have h3:=(hb.1 h2).1
  simp [h3] at h
 ·rename_i h
  have hc:checkE (l.map Inst.op)=0:=by simpa using h
  refine aLoop_of (fun st=>∃ k:Nat,k≤l.length ∧ (∀ i (hi:i<l.length),i<k → askOk s.vals attrs l[i]=true) ∧ st=⟨65,[(0,sInsts l),(2,eB attrs),(4,.op 0 0 0),(7,eI (k:Int))],[(0,some (.box 69 (eSt s)))],1⟩) (fun st=>l.length - slotN st 7) ⟨_,wC,0,Nat.zero_le _,fun i _ h=>by omega,rfl⟩ ?_
  rintro _ ⟨k,hk,hI,rfl⟩
  by_cases hlt:k<l.length
  ·have hno:askOk s.vals attrs l[k]=false → b=false:=fun h2=>by
    rw [Bool.eq_false_iff]
    intro h3
    rw [(hb.1 h3).2 _ (List.getElem_mem hlt)] at h2
    cases h2
   have hyes:askOk s.vals attrs l[k]=true → ∀ i (hi:i<l.length),i<k+1 → askOk s.vals attrs l[i]=true:=fun h2 i hi h3=>by
    rcases Nat.lt_or_ge i k with h4|h4
    ·exact hI i hi h4
    ·obtain rfl:i=k:=by omega
     exact h2
   rw [askOk_at] at hno hyes
   generalize hx:l[k]=x at hno hyes
   obtain ⟨op,la,ln,ra,rn,n,u⟩:=x
   simp only at hno hyes
   have ex:eInst l[k]=[eI op,eI la,eI ln,eI ra,eI rn,eI n,eI u]:=by rw [hx]
   have eop:l[k].op=op:=by rw [hx]
   (repeat' (first|refine go ?_|simp only [row_at,hlt,ex,eop] | exact .intro | refine sp (fun _=>?_) fun _=>?_))
   refine aDraw_quiet (by kernel_rfl) ?_
   (repeat' (first|refine go ?_|simp only [row_at,hlt,ex,eop] | exact .intro | refine sp (fun _=>?_) fun _=>?_))
   all_goals first
    | (symm;exact hno (by simp [attrB, *]))
    | exact rI wC ⟨k+1,by omega,hyes (by simp [attrB, *]),rfl⟩
    | skip
   all_goals
    refine callD (thereR_A s la ln) ?_
    (repeat' (first|refine go ?_|simp only [row_at,hlt,ex,eop] | exact .intro | refine sp (fun _=>?_) fun _=>?_))
    all_goals first
     | (symm;exact hno (by simp [attrB, *]))
     | exact rI wC ⟨k+1,by omega,hyes (by simp [attrB, *]),rfl⟩
     | skip
   all_goals
    refine callD (thereR_A s ra rn) ?_
    (repeat' (first|refine go ?_|simp only [row_at,hlt,ex,eop] | exact .intro | refine sp (fun _=>?_) fun _=>?_))
    all_goals first
     | (symm;exact hno (by simp [attrB, *]))
     | exact rI wC ⟨k+1,by omega,hyes (by simp [attrB, *]),rfl⟩
     | skip
  ·obtain rfl:k=l.length:=by omega
   (repeat' (first|refine go ?_|simp only [row_at,hlt] | exact .intro | refine sp (fun _=>?_) fun _=>?_))
   symm
   exact hb.2 ⟨hc,fun x hx=>by obtain ⟨i,hi,rfl⟩:=List.getElem_of_mem hx;exact hI i hi hi⟩
theorem valO_of {s:St} {x:Inst} {c:Int} (h:cmS s.vals x=some c):∃ a b,valO s.vals x.la x.ln=some a ∧ valO s.vals x.ra x.rn=some b ∧ c=cmpI a b:=by
 unfold cmS at h
 split at h
 ·rename_i a b ha hb
  cases h
  exact ⟨a,b,ha,hb,rfl⟩
 ·cases h
theorem at16_A (l:List Inst) (s:St) (hl:l.length≤70) (ho:ok64 s.opn) (hd:ok64 s.don):∀ (n e:Nat) (he:e<l.length) (v:Bool) (r:List Bool),e<n → runG (cmS s.vals) s.opn s.don (l.take (e+1)) []=some (v :: r) →
  ADet Tryz.prog 161 [sInsts l,sItms (l.map Inst.op),eI (e:Int),.agg (eSt s)] (val (.bool v))
 | 0,e,he,v,r,hn,_=>by omega
 | n+1,e,he,v,r,hn,hr=>by
  refine adet_of_code mixedT Tryz.func161 rfl (by decide) Tryz.ntmps161 Tryz.results161 rfl (val_ok _) ?_
  obtain ⟨r0,h1,h2⟩:=rg_some he hr
  have hel:e<(l.map Inst.op).length:=by simpa using he
  have eo:(l.map Inst.op)[e]=l[e].op:=by simp
  have ih:=at16_A l s hl ho hd n
  have z1:(0:Int)<((1:Nat):Int):=by decide
  have z2:(0:Int)<((2:Nat):Int):=by decide
  have z3:(1:Int)<((2:Nat):Int):=by decide
  generalize hx:l[e]=x at h2 eo
  obtain ⟨op,la,ln,ra,rn,xn,u⟩:=x
  have ex:eInst l[e]=[eI op,eI la,eI ln,eI ra,eI rn,eI xn,eI u]:=by rw [hx]
  simp only at eo
  unfold stepG at h2
  simp only at h2
  split at h2
  ·rename_i hop
   have ha:arity (l.map Inst.op)[e]=0:=by rw [eo];unfold arity;rw [if_pos (by omega)]
   have hk:=kids0_A (l.map Inst.op) e hel ha
   simp at h2
   rcases hop with rfl|rfl
   ·have hv:v=true:=by rw [← h2.1];rfl
    subst hv
    (repeat' (first|refine go ?_|simp only [row_at,he,ex] | exact .intro | refine sp (fun _=>?_) fun _=>?_))
    refine callV hk ?_
    have e1:((1:Int) == 1)=true:=by decide
    (repeat' (first|refine ge e1 ?_ | exact .intro | refine sp (fun _=>?_) fun _=>?_))
   ·have hv:v=false:=by rw [← h2.1];rfl
    subst hv
    (repeat' (first|refine go ?_|simp only [row_at,he,ex] | exact .intro | refine sp (fun _=>?_) fun _=>?_))
    refine callV hk ?_
    (repeat' (first | simp -implicitDefEqProofs (maxSteps:=5000000) only [ruX,↓reduceIte,reduceCtorEq,Nat.reduceLT,Nat.reduceEqDiff,Nat.reduceAdd,Nat.reduceMul,Nat.reduceSub,Nat.reduceLeDiff,Nat.reduceBEq,Int.reduceBEq] | refine sp (fun _=>?_) fun _=>?_))
  split at h2
  ·rename_i hop
   have ha:arity (l.map Inst.op)[e]=0:=by rw [eo];unfold arity;rw [if_pos (by omega)]
   have hk:=kids0_A (l.map Inst.op) e hel ha
   split at h2
   ·rename_i c hc
    obtain ⟨a,b,hva,hvb,rfl⟩:=valO_of hc
    simp only at hva hvb
    cases h2
    have h6:op=3 ∨ op=4 ∨ op=5 ∨ op=6 ∨ op=7 ∨ op=8:=by omega
    rcases h6 with rfl|rfl|rfl|rfl|rfl|rfl
    all_goals
     (repeat' (first|refine go ?_|simp only [row_at,he,ex] | exact .intro | refine sp (fun _=>?_) fun _=>?_))
     refine callV hk ?_
     (repeat' (first | simp -implicitDefEqProofs (maxSteps:=5000000) only [ruX,↓reduceIte,reduceCtorEq,Nat.reduceLT,Nat.reduceEqDiff,Nat.reduceAdd,Nat.reduceMul,Nat.reduceSub,Nat.reduceLeDiff,Nat.reduceBEq,Int.reduceBEq] | refine sp (fun _=>?_) fun _=>?_))
     refine aDraw_quiet (by kernel_rfl) ?_
     (repeat' (first|refine go ?_ | exact .intro | refine sp (fun _=>?_) fun _=>?_))
     refine callD (valR_A s la ln a hva) ?_
     (repeat' (first|refine go ?_ | exact .intro | refine sp (fun _=>?_) fun _=>?_))
     refine callD (valR_A s ra rn b hvb) ?_
     (repeat' (first|refine go ?_ | exact .intro | refine sp (fun _=>?_) fun _=>?_))
     refine callD (cmpR_A _ a b) ?_
     (repeat' (first|refine go ?_ | exact .intro | refine sp (fun _=>?_) fun _=>?_))
   ·cases h2
  split at h2
  ·rename_i hop
   have ha:arity (l.map Inst.op)[e]=0:=by rw [eo];unfold arity;rw [if_pos (by omega)]
   have hk:=kids0_A (l.map Inst.op) e hel ha
   subst hop
   cases h2
   (repeat' (first|refine go ?_|simp only [row_at,he,ex] | exact .intro | refine sp (fun _=>?_) fun _=>?_))
   refine callV hk ?_
   (repeat' (first | simp -implicitDefEqProofs (maxSteps:=5000000) only [ruX,↓reduceIte,reduceCtorEq,Nat.reduceLT,Nat.reduceEqDiff,Nat.reduceAdd,Nat.reduceMul,Nat.reduceSub,Nat.reduceLeDiff,Nat.reduceBEq,Int.reduceBEq] | refine sp (fun _=>?_) fun _=>?_))
   refine callV (hasR_A s.opn xn ho) ?_
   (repeat' (first|refine go ?_ | exact .intro | refine sp (fun _=>?_) fun _=>?_))
  split at h2
  ·rename_i hop
   have ha:arity (l.map Inst.op)[e]=0:=by rw [eo];unfold arity;rw [if_pos (by omega)]
   have hk:=kids0_A (l.map Inst.op) e hel ha
   subst hop
   cases h2
   (repeat' (first|refine go ?_|simp only [row_at,he,ex] | exact .intro | refine sp (fun _=>?_) fun _=>?_))
   refine callV hk ?_
   (repeat' (first | simp -implicitDefEqProofs (maxSteps:=5000000) only [ruX,↓reduceIte,reduceCtorEq,Nat.reduceLT,Nat.reduceEqDiff,Nat.reduceAdd,Nat.reduceMul,Nat.reduceSub,Nat.reduceLeDiff,Nat.reduceBEq,Int.reduceBEq] | refine sp (fun _=>?_) fun _=>?_))
   refine callV (hasR_A s.don xn hd) ?_
   (repeat' (first|refine go ?_ | exact .intro | refine sp (fun _=>?_) fun _=>?_))
  have hpre:∀ (a:Bool) (q:List Bool),r0=a :: q → ∃ e0,e=e0+1:=fun a q hq=>by
   cases e with
   | zero=>
    simp [runG] at h1
    rw [h1] at hq
    cases hq
   | succ e0=>exact ⟨e0,rfl⟩
  split at h2
  ·rename_i hop
   have ha:arity (l.map Inst.op)[e]=1:=by rw [eo];unfold arity;rw [if_neg (by omega),if_pos (by omega)]
   have hk:=kids1_A (l.map Inst.op) e hel ha (by simp;omega)
   subst hop
   split at h2
   ·rename_i a q
    obtain ⟨e0,rfl⟩:=hpre a q rfl
    have ee:((e0+1:Nat):Int) - 1=(e0:Int):=by omega
    rw [ee] at hk
    have h3:=ih e0 (by omega) a q (by omega) h1
    cases h2
    (repeat' (first|refine go ?_|simp only [row_at,he,ex] | exact .intro | refine sp (fun _=>?_) fun _=>?_))
    refine callO hk (.inr (ints_plain (l:=[(e0:Int)]))) ?_
    (repeat' (first | simp -implicitDefEqProofs (maxSteps:=5000000) only [ruX,↓reduceIte,reduceCtorEq,Nat.reduceLT,Nat.reduceEqDiff,Nat.reduceAdd,Nat.reduceMul,Nat.reduceSub,Nat.reduceLeDiff,Nat.reduceBEq,Int.reduceBEq] | refine sp (fun _=>?_) fun _=>?_))
    refine aDraw_quiet (by kernel_rfl) ?_
    (repeat' (first | simp -implicitDefEqProofs (maxSteps:=5000000) only [ruX,↓reduceIte,reduceCtorEq,Nat.reduceLT,Nat.reduceEqDiff,Nat.reduceAdd,Nat.reduceMul,Nat.reduceSub,Nat.reduceLeDiff,Nat.reduceBEq,Int.reduceLT,Int.reduceLE,Int.toNat_zero,z1,z2,z3] | refine sp (fun _=>?_) fun _=>?_))
    refine callD h3 ?_
    (repeat' (first|refine go ?_ | exact .intro | refine sp (fun _=>?_) fun _=>?_))
   ·cases h2
  split at h2
  ·rename_i hop
   have ha:arity (l.map Inst.op)[e]=2:=by rw [eo];unfold arity;rw [if_neg (by omega),if_neg (by omega),if_pos (by omega)]
   have hk:=kids2_A (l.map Inst.op) e hel ha (by simp;omega)
   split at h2
   ·rename_i b a q
    obtain ⟨e0,rfl⟩:=hpre b (a :: q) rfl
    have ee:((e0+1:Nat):Int) - 1=(e0:Int):=by omega
    have h3:=ih e0 (by omega) b (a :: q) (by omega) h1
    obtain ⟨bg,h4,h5,h6⟩:=rg_begin (by omega) h1
    have h7:∃ b0,bg=b0+1:=by
     cases bg with
     | zero=>simp [runG] at h6
     | succ b0=>exact ⟨b0,rfl⟩
    obtain ⟨b0,rfl⟩:=h7
    have eb:((b0+1:Nat):Int) - 1=(b0:Int):=by omega
    rw [ee,h5,eb] at hk
    have h8:=ih b0 (by omega) a q (by omega) h6
    cases h2
    have h9:op=16 ∨ op=17 ∨ op=18:=by omega
    rcases h9 with rfl|rfl|rfl
    all_goals
     (repeat' (first|refine go ?_|simp only [row_at,he,ex] | exact .intro | refine sp (fun _=>?_) fun _=>?_))
     refine callO hk (.inr (ints_plain (l:=[(b0:Int),(e0:Int)]))) ?_
     (repeat' (first | simp -implicitDefEqProofs (maxSteps:=5000000) only [ruX,↓reduceIte,reduceCtorEq,Nat.reduceLT,Nat.reduceEqDiff,Nat.reduceAdd,Nat.reduceMul,Nat.reduceSub,Nat.reduceLeDiff,Nat.reduceBEq,Int.reduceBEq] | refine sp (fun _=>?_) fun _=>?_))
     refine aDraw_quiet (by kernel_rfl) ?_
     (repeat' (first | simp -implicitDefEqProofs (maxSteps:=5000000) only [ruX,↓reduceIte,reduceCtorEq,Nat.reduceLT,Nat.reduceEqDiff,Nat.reduceAdd,Nat.reduceMul,Nat.reduceSub,Nat.reduceLeDiff,Nat.reduceBEq,Int.reduceLT,Int.reduceLE,Int.toNat_zero,z1,z2,z3] | refine sp (fun _=>?_) fun _=>?_))
     refine callD h8 ?_
     (repeat' (first | simp -implicitDefEqProofs (maxSteps:=5000000) only [ruX,↓reduceIte,reduceCtorEq,Nat.reduceLT,Nat.reduceEqDiff,Nat.reduceAdd,Nat.reduceMul,Nat.reduceSub,Nat.reduceLeDiff,Nat.reduceBEq,Int.reduceLT,Int.reduceLE,Int.toNat_zero,z1,z2,z3,Int.toNat_one] | refine sp (fun _=>?_) fun _=>?_))
     all_goals first | (refine callD h3 ?_;(repeat' (first|refine go ?_ | exact .intro | refine sp (fun _=>?_) fun _=>?_))) | skip
     all_goals first | rfl | (simp_all;done)
   ·cases h2
  ·cases h2
end
section
open Go.RowKit
theorem holds16_A (l:List Inst) (s:St) (hl:l.length≤1000000) (ho:ok64 s.opn) (hd:ok64 s.don):ADet Tryz.prog 122 [sInsts l,.agg (eSt s)] ⟨.tup [eB (optB (holdsO l s)),eI (optE (holdsO l s))],[],0⟩:=by
 refine adet_of_code mixedT Tryz.func122 rfl (by decide) Tryz.ntmps122 Tryz.results122 rfl (⟨fun id o h=>(by cases h),⟨trivial,trivial,trivial⟩⟩) ?_
 by_cases hc:checkE (l.map Inst.op)=0 ∧ ∀ x ∈ l,askOk s.vals true x=true
 ·have hck:=check16_A l s true hl true (by simp only [true_iff];exact hc)
  obtain ⟨b,h1,h2⟩:=holdsO_some hc.1 hc.2
  have hlen:0<l.length ∧ l.length≤64:=by
   have:=hc.1
   unfold checkE at this
   simp only [List.length_map] at this
   split at this
   ·cases this
   ·split at this
    ·cases this
    ·omega
  have ht:(l.map Inst.op).take 70=l.map Inst.op:=List.take_of_length_le (by simp;omega)
  have hsh:=shapeR_A l hl
  rw [ht] at hsh
  have ew:IntKind.i64.wrap ((l.length:Int) - 1)=((l.length - 1:Nat):Int):=by rw [wrap_in (by omega) (by omega)];omega
  have hat:=at16_A l s (by omega) ho hd (l.length) (l.length - 1) (by omega) b [] (by omega) (by rw [show l.length - 1+1=l.length by omega,List.take_length];exact h1)
  (repeat' (first|refine go ?_ | exact .intro | refine sp (fun _=>?_) fun _=>?_))
  refine callV hck ?_
  (repeat' (first|refine go ?_ | exact .intro | refine sp (fun _=>?_) fun _=>?_))
  refine aDraw_held [] [0,1,3,4,5,6] (.exec 2 (.exec 7 (.exec 8 (.exec 9 .done)))) (by kernel_rfl) (by simp) ?_
  (repeat' (first|refine ge ew ?_ | exact .intro | refine sp (fun _=>?_) fun _=>?_))
  refine callO hsh (.inr items_plain) ?_
  (repeat' (first|refine ge ew ?_ | exact .intro | refine sp (fun _=>?_) fun _=>?_))
  refine callV (by exact hat) ?_
  (repeat' (first|refine go ?_ | exact .intro | refine sp (fun _=>?_) fun _=>?_))
  exact gives_tree (by rw [h2];rfl)
 ·have hck:=check16_A l s true hl false (by simp only [Bool.false_eq_true,false_iff];exact hc)
  (repeat' (first|refine go ?_ | exact .intro | refine sp (fun _=>?_) fun _=>?_))
  refine callV hck ?_
  (repeat' (first|refine go ?_ | exact .intro | refine sp (fun _=>?_) fun _=>?_))
  exact gives_tree (by rw [holdsO_none hc];rfl)
theorem parR_A (m:Mod) (hl:m.stages.length≤1000000):ADet Tryz.prog 13 [.agg (eMod m)] (own 3 1 ((pars m).map fun n=>[eI n])):=by
 refine adet_of_code mixedT Tryz.func13 rfl (by decide) Tryz.ntmps13 Tryz.results13 rfl (own_ok _ _ _) ?_
 (repeat' (first|refine go ?_ | exact .intro | refine sp (fun _=>?_) fun _=>?_))
 refine aLoop_of (fun st=>∃ k:Nat,k≤m.stages.length ∧ st=⟨22,[(1,.op 0 0 0),(3,.osl 1),(4,eI (k:Int))],[(0,some (.box 32 (eMod m))),(1,some (.row 3 1 ((m.stages.take k).map fun p=>[eI p.2])))],2⟩) (fun st=>m.stages.length - slotN st 4) ⟨_,((weak_nil 3 3 1 (by simp only [ruW,ASt.get,aget,ASt.put,↓reduceIte,reduceCtorEq,Nat.reduceLT,Nat.reduceEqDiff,Nat.reduceAdd,Nat.reduceLeDiff,eq_self,implies_true,List.take_zero,List.map_nil])).trans (wS [0,1] @List.take_zero.{0})),0,Nat.zero_le _,rfl⟩ ?_
 rintro _ ⟨k,hk,rfl⟩
 by_cases hlt:k<m.stages.length
 ·have et:(m.stages.take (k+1)).map (fun p=>[eI p.2])=(m.stages.take k).map (fun p=>[eI p.2]) ++ [[eI m.stages[k].2]]:=take_snoc _ _ hlt
  (repeat' (first|refine go ?_|simp only [row_at,hlt] | exact .intro | refine sp (fun _=>?_) fun _=>?_))
  refine ⟨rfl,by simp only [List.length_take];omega,rI (wS [0,3] et) ⟨k+1,by omega,rfl⟩⟩
 ·obtain rfl:k=m.stages.length:=by omega
  (repeat' (first|refine go ?_|simp only [row_at,hlt] | exact .intro | refine sp (fun _=>?_) fun _=>?_))
  exact aGives_own (by simp [ATab.get_cons,pars])
theorem isR_A (l:List Int) (a i:Int) (hl:l.length≤1073741824) (ho:∀ x ∈ l,ok64 x):ADet Tryz.prog 32 [sI l,eI a,eI i] (val (.bool (decide (isL l a i)))):=
 adet_of_calls (enters_of Tryz.func32 rfl (by decide)) fun S w vs hS hn hv=>by
  obtain ⟨v,v1,v2,rfl⟩:∃ v v1 v2,vs = #[v,v1,v2]:=⟨vs[0]'(by simp at hn;omega),vs[1]'(by simp at hn;omega),vs[2]'(by simp at hn;omega),by
   apply Array.ext
   ·simpa using hn
   ·intro i h1 h2
    simp at h2
    match i,h2 with
    | 0,_=>rfl
    | 1,_=>rfl
    | 2,_=>rfl⟩
  obtain rfl:=rtc (hv 1 v1 _ rfl rfl)
  obtain rfl:=rtc (hv 2 v2 _ rfl rfl)
  exact (is_any l v a i w hl (rt_ints (hv 0 v _ rfl rfl) hS ho)).mono fun e w' ⟨h1,h2⟩=>⟨h1,h2 ▸ Below.refl _ _⟩
theorem in18_A (n most:Int):ADet Tryz.prog 121 [eI n,eI most] (val (.bool (inB n most))):=by
 refine adet_of_code mixedT Tryz.func121 rfl (by decide) Tryz.ntmps121 Tryz.results121 rfl (val_ok _) ?_
 unfold inB
 (repeat' (first|refine go ?_ | exact .intro | refine sp (fun _=>?_) fun _=>?_))
 all_goals (rename_i h;rw [h];simp)
theorem fires18_A (m:Mod) (s:St) (xm:Bool) (xn event:Int) (hf:Fit m) (ho:ok64 s.opn) (hd:ok64 s.don):ADet Tryz.prog 92 [.agg (eMod m),.agg (eSt s),.agg [eB xm,eI xn],eI event] (val (.bool (firesM m s (xm,xn) event))):=by
 refine adet_of_code mixedT Tryz.func92 rfl (by decide) Tryz.ntmps92 Tryz.results92 rfl (val_ok _) ?_
 obtain ⟨hgl,hml,hsl,-⟩:=id hf.sizes
 cases xm with
 | true=>
  by_cases hin:0≤xn ∧ xn<(m.miles.length:Int)
  ·obtain ⟨k,rfl⟩:∃ k:Nat,xn=(k:Int):=⟨xn.toNat,by omega⟩
   have hk:k<m.miles.length:=by omega
   have ei:inB (k:Int) (m.miles.length:Int)=true:=by simp [inB];omega
   have eR:firesM m s (true,(k:Int)) event=(inB m.miles[k].stage m.stages.length && ((m.miles[k].event == -1) || (m.miles[k].event == event)) && hasB s.opn m.miles[k].stage && optB (holdsO m.miles[k].cond s)):=by
    simp [firesM,readyM,sentryM,hk,inS,inB,Bool.and_assoc]
   rw [eR]
   have hho:=holds16_A m.miles[k].cond s (by have:=hf.miles _ (List.getElem_mem hk);omega) ho hd
   (repeat' (first|refine go ?_|simp only [row_at,hk] | exact .intro | refine sp (fun _=>?_) fun _=>?_))
   refine callV (in18_A _ _) ?_
   (repeat' (first|refine go ?_|simp only [row_at,hk,ei] | exact .intro | refine sp (fun _=>?_) fun _=>?_))
   refine callT hho (.inl (by simp [roL,roA,treeL,treeC])) ?_
   (repeat' (first|refine go ?_ | exact .intro | refine sp (fun _=>?_) fun _=>?_))
   refine callV (in18_A _ _) ?_
   (repeat' (first|refine go ?_ | exact .intro | refine sp (fun _=>?_) fun _=>?_))
   all_goals first
    | (simp [*];done)
    | (refine callV (hasR_A _ _ ho) ?_;(repeat' (first|refine go ?_ | exact .intro | refine sp (fun _=>?_) fun _=>?_));all_goals (simp [*];done))
  ·have ei:inB xn (m.miles.length:Int)=false:=by unfold inB;rw [Bool.and_eq_false_iff];simp only [decide_eq_false_iff_not];omega
   have eR:firesM m s (true,xn) event=false:=by
    have:sentryM m (true,xn)=none:=by
     simp only [sentryM,if_true]
     split
     ·rw [List.getElem?_eq_none (by omega)];try rfl
     ·rfl
    simp [firesM,readyM,this]
   rw [eR]
   (repeat' (first|refine go ?_ | exact .intro | refine sp (fun _=>?_) fun _=>?_))
   refine callV (in18_A _ _) ?_
   (repeat' (first|refine ge ei ?_ | exact .intro | refine sp (fun _=>?_) fun _=>?_))
 | false=>
  by_cases hin:0≤xn ∧ xn<(m.guards.length:Int)
  ·obtain ⟨k,rfl⟩:∃ k:Nat,xn=(k:Int):=⟨xn.toNat,by omega⟩
   have hk:k<m.guards.length:=by omega
   have ei:inB (k:Int) (m.guards.length:Int)=true:=by simp [inB];omega
   have hho:=holds16_A m.guards[k].cond s (by have:=hf.guards _ (List.getElem_mem hk);omega) ho hd
   by_cases hst:0≤m.guards[k].stage ∧ m.guards[k].stage<(m.stages.length:Int)
   ·obtain ⟨q,hq⟩:∃ q:Nat,m.guards[k].stage=(q:Int):=⟨m.guards[k].stage.toNat,by omega⟩
    have hql:q<m.stages.length:=by omega
    have es:inB (q:Int) (m.stages.length:Int)=true:=by simp [inB];omega
    have eR:firesM m s (false,(k:Int)) event=(((m.guards[k].event == -1) || (m.guards[k].event == event)) && !hasB s.opn q && ((m.stages[q].2 == -1) || (inB m.stages[q].2 m.stages.length && hasB s.opn m.stages[q].2)) && optB (holdsO m.guards[k].cond s)):=by
     have hno:∀ p:Int,(decide (p<(m.stages.length:Int)) && hasB s.opn p)=(inB p m.stages.length && hasB s.opn p):=fun p=>by
      by_cases h0:0≤p
      ·simp [inB,h0]
      ·rw [hasB_out _ _ (by omega)]
       simp
     simp [firesM,readyM,sentryM,hk,inS,hq,aboveM,hql,hno]
    rw [eR]
    (repeat' (first|refine go ?_|simp only [row_at,hk] | exact .intro | refine sp (fun _=>?_) fun _=>?_))
    refine aDraw_quiet (by kernel_rfl) ?_
    (repeat' (first|refine go ?_|simp only [row_at,hk] | exact .intro | refine sp (fun _=>?_) fun _=>?_))
    refine callD (in18_A _ _) ?_
    (repeat' (first|refine go ?_|simp only [row_at,hk,ei] | exact .intro | refine sp (fun _=>?_) fun _=>?_))
    refine callD (in18_A _ _) ?_
    rw [hq]
    (repeat' (first|refine go ?_|simp only [row_at,hk,es,hq,hql] | exact .intro | refine sp (fun _=>?_) fun _=>?_))
    refine callT hho (.inl (by simp [roL,roA,treeL,treeC])) ?_
    (repeat' (first|refine ge hq ?_ | exact .intro | refine sp (fun _=>?_) fun _=>?_))
    all_goals first
     | (simp [*];done)
     | (refine callV (hasR_A _ _ ho) ?_;(repeat' (first|refine go ?_ | exact .intro | refine sp (fun _=>?_) fun _=>?_)))
    all_goals first
     | (simp [*];done)
     | (refine callV (in18_A _ _) ?_;(repeat' (first|refine go ?_ | exact .intro | refine sp (fun _=>?_) fun _=>?_)))
    all_goals first
     | (simp [*];done)
     | (refine callV (hasR_A _ _ ho) ?_;(repeat' (first|refine go ?_ | exact .intro | refine sp (fun _=>?_) fun _=>?_)))
    all_goals (simp [*];done)
   ·have es:inB m.guards[k].stage (m.stages.length:Int)=false:=by unfold inB;rw [Bool.and_eq_false_iff];simp only [decide_eq_false_iff_not];omega
    have eR:firesM m s (false,(k:Int)) event=false:=by
     have:inS m m.guards[k].stage=false:=by unfold inS;rw [Bool.and_eq_false_iff];simp only [decide_eq_false_iff_not];omega
     simp [firesM,readyM,sentryM,hk,this]
    rw [eR]
    (repeat' (first|refine go ?_|simp only [row_at,hk] | exact .intro | refine sp (fun _=>?_) fun _=>?_))
    refine aDraw_quiet (by kernel_rfl) ?_
    (repeat' (first|refine go ?_|simp only [row_at,hk] | exact .intro | refine sp (fun _=>?_) fun _=>?_))
    refine callD (in18_A _ _) ?_
    (repeat' (first|refine go ?_|simp only [row_at,hk,ei] | exact .intro | refine sp (fun _=>?_) fun _=>?_))
    refine callD (in18_A _ _) ?_
    (repeat' (first|refine go ?_|simp only [row_at,hk,es] | exact .intro | refine sp (fun _=>?_) fun _=>?_))
  ·have ei:inB xn (m.guards.length:Int)=false:=by unfold inB;rw [Bool.and_eq_false_iff];simp only [decide_eq_false_iff_not];omega
   have eR:firesM m s (false,xn) event=false:=by
    have:sentryM m (false,xn)=none:=by
     simp only [sentryM,Bool.false_eq_true,if_false]
     split
     ·rw [List.getElem?_eq_none (by omega)];try rfl
     ·rfl
    simp [firesM,readyM,this]
   rw [eR]
   (repeat' (first|refine go ?_ | exact .intro | refine sp (fun _=>?_) fun _=>?_))
   refine aDraw_quiet (by kernel_rfl) ?_
   (repeat' (first|refine go ?_ | exact .intro | refine sp (fun _=>?_) fun _=>?_))
   refine callD (in18_A _ _) ?_
   (repeat' (first|refine ge ei ?_ | exact .intro | refine sp (fun _=>?_) fun _=>?_))
end
end
section
section
open Go.RowKit
noncomputable def byN (m:Mod) (x:Inst) (y:Nat):Bool:=
 if x.op=9 then stageN m y == x.n || (!decide (y<m.guards.length) && decide (isL (pars m) (stageN m y) x.n))
 else if x.op=10 then (if y<m.guards.length then decide (0≤x.n) && decide (x.n<(m.miles.length:Int)) && (stgM m (true,x.n) == stageN m y) else ((y - m.guards.length:Nat):Int) == x.n) else false
theorem byN_A (m:Mod) (x:Inst) (y:Nat) (hf:Fit m) (hp:∀ p ∈ m.stages,ok64 p.2) (hy:y<m.guards.length+m.miles.length):ADet Tryz.prog 66 [.agg (eMod m),.agg (eInst x),eI (y:Int)] (val (.bool (byN m x y))):=by
 refine adet_of_code mixedT Tryz.func66 rfl (by decide) Tryz.ntmps66 Tryz.results66 rfl (val_ok _) ?_
 obtain ⟨hg,hm,hst,-⟩:=id hf.sizes
 obtain ⟨op,la,ln,ra,rn,n,u⟩:=x
 have hpl:(pars m).length≤1073741824:=by simp [pars];omega
 by_cases h9:op=9
 ·subst h9
  have z1:((9:Int) == 9)=true:=rfl
  have e0:byN m ⟨9,la,ln,ra,rn,n,u⟩ y=(stageN m y == n || (!decide (y<m.guards.length) && decide (isL (pars m) (stageN m y) n))):=by simp [byN]
  rw [e0]
  (repeat' (first|refine ge z1 ?_ | exact .intro | refine sp (fun _=>?_) fun _=>?_))
  refine aDraw_held [] [0,1,3,4] (.exec 2 (.take 5 (.take 6 (.take 7 (.take 8 (.take 9 (.take 10 (.take 12 (.take 13 (.take 15 (.take 16 (.exec 11 (.exec 14 (.exec 17 (.take 18 (.take 19 (.exec 20 .done))))))))))))))))) (by kernel_rfl) (by simp) ?_
  (repeat' (first|refine go ?_ | exact .intro | refine sp (fun _=>?_) fun _=>?_))
  refine callV (stage_A m y hf hy) ?_
  by_cases hs:stageN m y=n
  ·have z2:(stageN m y == n)=true:=by simp [hs]
   rw [z2]
   (repeat' (first|refine ge z2 ?_ | exact .intro | refine sp (fun _=>?_) fun _=>?_))
   all_goals simp
  ·have z2:(stageN m y == n)=false:=by simp [hs]
   rw [z2,Bool.false_or]
   by_cases hgd:y<m.guards.length
   ·have z3:decide (y<m.guards.length)=true:=decide_eq_true hgd
    rw [z3]
    (repeat' (first|refine ge (kf z2 z3) ?_ | exact .intro | refine sp (fun _=>?_) fun _=>?_))
    all_goals try simp
   ·have z3:decide (y<m.guards.length)=false:=decide_eq_false hgd
    rw [z3]
    (repeat' (first|refine ge (kf z2 z3) ?_ | exact .intro | refine sp (fun _=>?_) fun _=>?_))
    refine callO (refParents_A m (by omega)) (.inr ints_plain) ?_
    (repeat' (first|refine ge (kf z2 z3) ?_ | exact .intro | refine sp (fun _=>?_) fun _=>?_))
    refine callV (stage_A m y hf hy) ?_
    (repeat' (first|refine ge (kf z2 z3) ?_ | exact .intro | refine sp (fun _=>?_) fun _=>?_))
    refine callV (isR_A (pars m) (stageN m y) n hpl (pars_ok hp)) ?_
    (repeat' (first|refine ge (kf z2 z3) ?_ | exact .intro | refine sp (fun _=>?_) fun _=>?_))
    all_goals simp
 by_cases h10:op=10
 ·subst h10
  have z1:((10:Int) == 9)=false:=rfl
  have z4:((10:Int) == 10)=true:=rfl
  by_cases hgd:y<m.guards.length
  ·have z3:decide (y<m.guards.length)=true:=decide_eq_true hgd
   have e0:byN m ⟨10,la,ln,ra,rn,n,u⟩ y=(decide (0≤n) && decide (n<(m.miles.length:Int)) && (stgM m (true,n) == stageN m y)):=by simp [byN,hgd]
   rw [e0]
   by_cases hn:0≤n ∧ n<(m.miles.length:Int)
   ·obtain ⟨j,rfl⟩:∃ j:Nat,n=(j:Int):=⟨n.toNat,by omega⟩
    have hj:j<m.miles.length:=by omega
    (repeat' (first|refine ge (kf z1 (kf z3 z4)) ?_ | exact .intro | refine sp (fun _=>?_) fun _=>?_))
    refine aDraw_quiet (by kernel_rfl) ?_
    (repeat' (first|refine go ?_|simp only [z4,row_at,hj] | exact .intro | refine sp (fun _=>?_) fun _=>?_))
    refine callD (stage_A m y hf hy) ?_
    (repeat' (first|refine go ?_|simp only [z4,row_at,hj] | exact .intro | refine sp (fun _=>?_) fun _=>?_))
    simp [stgM,hj]
   ·have hn2:decide (0≤n)=false ∨ decide (n<(m.miles.length:Int))=false:=by
     rcases Int.lt_or_le n 0 with h|h
     ·left;simp;omega
     ·right;simp;omega
    rcases hn2 with hn2|hn2
    ·rw [hn2]
     (repeat' (first|refine ge (kf z1 (kf z3 z4)) ?_ | exact .intro | refine sp (fun _=>?_) fun _=>?_))
     refine aDraw_quiet (by kernel_rfl) ?_
     (repeat' (first|refine ge (kf z4 hn2) ?_ | exact .intro | refine sp (fun _=>?_) fun _=>?_))
     all_goals simp
    ·rw [hn2]
     (repeat' (first|refine ge (kf z1 (kf z3 z4)) ?_ | exact .intro | refine sp (fun _=>?_) fun _=>?_))
     refine aDraw_quiet (by kernel_rfl) ?_
     (repeat' (first|refine ge (kf z4 hn2) ?_ | exact .intro | refine sp (fun _=>?_) fun _=>?_))
     all_goals simp
  ·have z3:decide (y<m.guards.length)=false:=decide_eq_false hgd
   have e0:byN m ⟨10,la,ln,ra,rn,n,u⟩ y=(((y - m.guards.length:Nat):Int) == n):=by simp [byN,hgd]
   rw [e0]
   have ew:IntKind.i64.wrap ((y:Int) - (m.guards.length:Int))=((y - m.guards.length:Nat):Int):=by rw [wrap_in (by omega) (by omega)];omega
   (repeat' (first|refine ge (kf z1 (kf z3 (kf z4 ew))) ?_ | exact .intro | refine sp (fun _=>?_) fun _=>?_))
 ·have z1:(op == 9)=false:=by simp [h9]
  have z4:(op == 10)=false:=by simp [h10]
  have e0:byN m ⟨op,la,ln,ra,rn,n,u⟩ y=false:=by simp [byN,h9,h10]
  rw [e0]
  (repeat' (first|refine ge (kf z1 z4) ?_ | exact .intro | refine sp (fun _=>?_) fun _=>?_))
  all_goals
   refine aDraw_quiet (by kernel_rfl) ?_
   (repeat' (first|refine ge (kf z1 z4) ?_ | exact .intro | refine sp (fun _=>?_) fun _=>?_))
noncomputable def waitsN (m:Mod) (x y:Nat):Bool:=((condNC m x).any fun i=>byN m i y) || (decide (y<m.guards.length) && (if x<m.guards.length then decide (0≤stageN m x) && decide (stageN m x<(m.stages.length:Int)) && ((m.stages[(stageN m x).toNat]?.map (·.2)).getD 0 == stageN m y) else stageN m x == stageN m y))
theorem any_take_snoc {α:Type} (l:List α) (p:α → Bool) {k:Nat} (h:k<l.length):(l.take (k+1)).any p=((l.take k).any p || p l[k]):=by
 rw [List.take_succ_eq_append_getElem h,List.any_append]
 simp
theorem waitsN_A (m:Mod) (x y:Nat) (hf:Fit m) (hp:∀ p ∈ m.stages,ok64 p.2) (hx:x<m.guards.length+m.miles.length) (hy:y<m.guards.length+m.miles.length):ADet Tryz.prog 36 [.agg (eMod m),eI (x:Int),eI (y:Int)] (val (.bool (waitsN m x y))):=by
 refine adet_of_code mixedT Tryz.func36 rfl (by decide) Tryz.ntmps36 Tryz.results36 rfl (val_ok _) ?_
 obtain ⟨hg,hm,-⟩:=id hf.sizes
 (repeat' (first|refine go ?_ | exact .intro | refine sp (fun _=>?_) fun _=>?_))
 refine callT (cond_A m x hf hx) (.inl (by simp [roL,roA,treeL,treeC])) ?_
 have hcl:=condNC_len m hf x
 obtain ⟨l,hl⟩:∃ l,l=condNC m x:=⟨_,rfl⟩
 obtain ⟨w,hw⟩:∃ w,w=waitsN m x y:=⟨_,rfl⟩
 have hwd:waitsN m x y=(l.any (fun i=>byN m i y) || (decide (y<m.guards.length) && (if x<m.guards.length then decide (0≤stageN m x) && decide (stageN m x<(m.stages.length:Int)) && ((m.stages[(stageN m x).toNat]?.map (·.2)).getD 0 == stageN m y) else stageN m x == stageN m y))):=by rw [hl];rfl
 rw [← hl] at hcl ⊢
 rw [← hw] at hwd ⊢
 (repeat' (first|refine go ?_ | exact .intro | refine sp (fun _=>?_) fun _=>?_))
 refine aLoop_of (fun st=>∃ (k:Nat),(k≤l.length ∧ (l.take k).any (fun i=>byN m i y)=false) ∧ st=⟨65,[(1,eI (x:Int)),(2,eI (y:Int)),(3,.op 0 0 0),(7,sInsts l),(8,eI (k:Int))],[(0,some (.box 32 (eMod m)))],1⟩) (fun st=>l.length - slotN st 8) ⟨_,wC,0,⟨Nat.zero_le _,rfl⟩,rfl⟩ ?_
 rintro _ ⟨k,⟨hk,hI⟩,rfl⟩
 by_cases hlt:k<l.length
 ·(repeat' (first|refine go ?_|simp only [row_at,hlt] | exact .intro | refine sp (fun _=>?_) fun _=>?_))
  refine aDraw_held [] [0,1,2,3,4,5] (.exec 6 .done) (by kernel_rfl) (by simp) ?_
  (repeat' (first|refine go ?_|simp only [row_at,hlt] | exact .intro | refine sp (fun _=>?_) fun _=>?_))
  refine callV (byN_A m l[k] y hf hp hy) ?_
  have hst:=any_take_snoc l (fun i=>byN m i y) hlt
  cases hb:byN m l[k] y with
  | true=>
   have hwt:w=true:=by
    have:l.any (fun i=>byN m i y)=true:=List.any_eq_true.2 ⟨_,List.getElem_mem hlt,hb⟩
    rw [hwd,this,Bool.true_or]
   rw [hwt]
   (repeat' (first|refine go ?_|simp only [row_at,hlt] | exact .intro | refine sp (fun _=>?_) fun _=>?_))
  | false=>
   (repeat' (first|refine go ?_|simp only [row_at,hlt] | exact .intro | refine sp (fun _=>?_) fun _=>?_))
   exact rI wC ⟨k+1,⟨by omega,by rw [hst,hI,hb];rfl⟩,rfl⟩
 ·obtain rfl:k=l.length:=by omega
  rw [List.take_length] at hI
  rw [hI,Bool.false_or] at hwd
  by_cases hgd:y<m.guards.length
  ·have z3:decide (y<m.guards.length)=true:=decide_eq_true hgd
   rw [z3,Bool.true_and] at hwd
   have z3n:decide (m.guards.length≤y)=false:=decide_eq_false (by omega)
   by_cases hxg:x<m.guards.length
   ·have z5:decide (m.guards.length≤x)=false:=decide_eq_false (by omega)
    rw [if_pos hxg] at hwd
    (repeat' (first|refine ge (kf @hlt (kf @z3n z5)) ?_ | exact .intro | refine sp (fun _=>?_) fun _=>?_))
    refine callV (stage_A m x hf hx) ?_
    generalize stageN m x=sx at *
    (repeat' (first|refine ge z5 ?_ | exact .intro | refine sp (fun _=>?_) fun _=>?_))
    by_cases hn:0≤sx ∧ sx<(m.stages.length:Int)
    ·obtain ⟨j,rfl⟩:∃ j:Nat,sx=(j:Int):=⟨sx.toNat,by omega⟩
     have hj:j<m.stages.length:=by omega
     have hwe:w=(m.stages[j].2 == stageN m y):=by rw [hwd];simp [hj]
     rw [hwe]
     refine aDraw_quiet (by kernel_rfl) ?_
     (repeat' (first|refine go ?_|simp only [row_at,hj] | exact .intro | refine sp (fun _=>?_) fun _=>?_))
     refine callD (stage_A m y hf hy) ?_
     (repeat' (first|refine go ?_|simp only [row_at,hj] | exact .intro | refine sp (fun _=>?_) fun _=>?_))
    ·have hn2:decide (0≤sx)=false ∨ (decide (0≤sx)=true ∧ decide (sx<(m.stages.length:Int))=false):=by
      rcases Int.lt_or_le sx 0 with h|h
      ·left;simp;omega
      ·right;exact ⟨decide_eq_true h,by simp;omega⟩
     rcases hn2 with hn2|⟨hn1,hn2⟩
     ·rw [hn2,Bool.false_and,Bool.false_and] at hwd
      rw [hwd]
      refine aDraw_quiet (by kernel_rfl) ?_
      (repeat' (first|refine ge hn2 ?_ | exact .intro | refine sp (fun _=>?_) fun _=>?_))
     ·rw [hn1,hn2,Bool.true_and,Bool.false_and] at hwd
      rw [hwd]
      refine aDraw_quiet (by kernel_rfl) ?_
      (repeat' (first|refine ge (kf hn1 hn2) ?_ | exact .intro | refine sp (fun _=>?_) fun _=>?_))
   ·have z5:decide (m.guards.length≤x)=true:=decide_eq_true (by omega)
    rw [if_neg hxg] at hwd
    rw [hwd]
    (repeat' (first|refine ge (kf @hlt (kf @z3n z5)) ?_ | exact .intro | refine sp (fun _=>?_) fun _=>?_))
    refine callV (stage_A m x hf hx) ?_
    (repeat' (first|refine ge z5 ?_ | exact .intro | refine sp (fun _=>?_) fun _=>?_))
    refine callV (stage_A m y hf hy) ?_
    (repeat' (first|refine go ?_ | exact .intro | refine sp (fun _=>?_) fun _=>?_))
  ·have z3:decide (y<m.guards.length)=false:=decide_eq_false hgd
   rw [z3,Bool.false_and] at hwd
   rw [hwd]
   have z3n:decide (m.guards.length≤y)=true:=decide_eq_true (by omega)
   (repeat' (first|refine ge (kf @hlt @z3n) ?_ | exact .intro | refine sp (fun _=>?_) fun _=>?_))
end
section
open Go.RowKit
theorem above_step {l:List Int} (hn:∀ k:Nat,k<l.length → ¬ circ l (k:Int)) {i p x:Int} (hi:isAt l i) (hp:isAt l p) (hpar:par l i=p) (h0:0≤x) (hx:x ∈ aboveL l p):x ∈ aboveL l i:=by
 obtain ⟨m,q,h,hs⟩:=up_end l i
 have hc:=no_circle_stop hn hi h hs
 obtain ⟨j,h1,h2,h3⟩:=mem_above_up hx
 have e:∀ j,upN l i (j+1)=upN l p j:=by
  intro j
  induction j with
  | zero=>
   rw [upN_one,hpar]
   rcases norm_cases l p with h|h
   ·exact h.2.symm
   ·exact absurd hp h.1
  | succ j ih=>
   show par l (upN l i (j+1))=par l (upN l p j)
   rw [ih]
 rcases up_all h hs (.inl (by rw [hc];have:=hi.1;omega)) j with h4|h4
 ·rw [e,h3] at h4
  omega
 ·rw [e,h3] at h4
  exact h4
theorem par_up {l:List Int} {i p:Int} (hi:isAt l i) (hp:isAt l p) (hpar:par l i=p) (hne:p ≠ i) (hn:∀ k:Nat,k<l.length → ¬ circ l (k:Int)):p ∈ aboveL l i:=by
 obtain ⟨m,q,h,hs⟩:=up_end l i
 have hc:=no_circle_stop hn hi h hs
 rcases up_all h hs (.inl (by rw [hc];have:=hi.1;omega)) 0 with h4|h4
 ·rw [upN_one,hpar] at h4
  have:=hp.1
  omega
 ·rw [upN_one,hpar] at h4
  exact h4
theorem hasB_fold:∀ (l:List Int) (o j:Int),hasB (l.foldl withoutB o) j=true ↔ hasB o j=true ∧ j ∉ l
 | [],o,j=>by simp
 | i :: l,o,j=>by
  rw [List.foldl_cons,hasB_fold l,hasB_without]
  simp only [Bool.and_eq_true,Bool.not_eq_true',beq_eq_false_iff_ne,ne_eq,List.mem_cons,not_or]
  exact ⟨fun ⟨⟨h1,h2⟩,h3⟩=>⟨h2,h1,h3⟩,fun ⟨h1,h2,h3⟩=>⟨⟨h2,h1⟩,h3⟩⟩
theorem hasB_undo (l:List Ml) (st d:Int) (i:Nat):∀ k,hasB (undo l st d k) (i:Int)=true → hasB d (i:Int)=true ∧ (i<k → l[i]?.map (·.stage) ≠ some st)
 | 0,h=>⟨h,fun h=>by omega⟩
 | k+1,h=>by
  unfold undo at h
  split at h
  ·rename_i hk
   rw [hasB_without] at h
   simp only [Bool.and_eq_true,Bool.not_eq_true',beq_eq_false_iff_ne,ne_eq] at h
   obtain ⟨h1,h2⟩:=hasB_undo l st d i k h.2
   exact ⟨h1,fun hik=>h2 (by omega)⟩
  ·rename_i hk
   obtain ⟨h1,h2⟩:=hasB_undo l st d i k h
   refine ⟨h1,fun hik=>?_⟩
   rcases Nat.lt_or_ge i k with h3|h3
   ·exact h2 h3
   ·obtain rfl:i=k:=by omega
    exact hk
def inR (o:Int):Prop:=0≤o ∧ o<2147483648
theorem low_in (s:Int):inR (low s:Int):=by
 have:=low_lt s
 unfold inR
 omega
theorem withB_in (s i:Int):inR (withB s i):=by
 unfold withB
 split
 ·rename_i h
  have h1:low s ||| 2 ^ i.toNat<2 ^ 31:=Nat.or_lt_two_pow (low_lt s) (Nat.pow_lt_pow_right (by omega) (by omega))
  unfold inR
  omega
 ·exact low_in s
theorem withoutB_in (s i:Int):inR (withoutB s i):=by
 unfold withoutB
 split
 ·rename_i h
  have h1:low s ^^^ (low s &&& 2 ^ i.toNat)<2 ^ 31:=Nat.xor_lt_two_pow (low_lt s) (Nat.and_lt_two_pow _ (Nat.pow_lt_pow_right (by omega) (by omega)))
  unfold inR
  omega
 ·exact low_in s
theorem fold_in:∀ (l:List Int) (o:Int),inR o → inR (l.foldl withoutB o)
 | [],o,h=>h
 | i :: l,o,_=>fold_in l _ (withoutB_in o i)
theorem undo_in (l:List Ml) (st d:Int) (h:inR d):∀ k,inR (undo l st d k)
 | 0=>h
 | k+1=>by
  unfold undo
  split
  ·exact withoutB_in _ _
  ·exact undo_in l st d h k
def sndP (m:Mod) (o:Int):Prop:=∀ i (h:i<m.stages.length),0≤m.stages[i].2 → m.stages[i].2<(m.stages.length:Int) → hasB o (i:Int)=true → hasB o m.stages[i].2=true
theorem pars_par {m:Mod} {i:Nat} (hi:i<m.stages.length) (h1:0≤m.stages[i].2) (h2:m.stages[i].2<(m.stages.length:Int)):par (pars m) (i:Int)=m.stages[i].2 ∧ isAt (pars m) m.stages[i].2 ∧ isAt (pars m) (i:Int):=by
 have hl:(pars m).length=m.stages.length:=by simp [pars]
 have ha:isAt (pars m) (i:Int):=⟨by omega,by rw [hl];omega⟩
 have hb:isAt (pars m) m.stages[i].2:=⟨h1,by rw [hl];exact h2⟩
 refine ⟨?_,hb,ha⟩
 unfold par
 rw [if_pos ha]
 have e:(pars m).getD (i:Int).toNat 0=m.stages[i].2:=by simp [pars,hi]
 rw [e]
 unfold norm
 rw [if_pos hb]
theorem turn_sound {m:Mod} (hc:circleL (pars m)<0) (s:St) (x:Bool × Int) (event:Int) (hs:sndP m s.opn):sndP m (turnM m event s x).opn:=by
 have hn:=circle_none _ hc
 unfold turnM
 split
 ·rename_i hf
  unfold fireM
  unfold firesM readyM at hf
  cases hx:sentryM m x with
  | none=>simpa [hx] using hs
  | some q=>
   obtain ⟨st,ev,cond,mi⟩:=q
   rw [hx] at hf
   simp only [Bool.and_eq_true] at hf
   obtain ⟨⟨hin,⟨-,hop⟩,hab⟩,-⟩:=hf
   have hst:isAt (pars m) st:=by
    simp [inS] at hin
    exact ⟨hin.1,by simpa [pars] using hin.2⟩
   simp only [hin,if_true]
   split
   ·rename_i hm
    intro i hi h1 h2 h3
    simp only [hasB_fold,List.mem_append,List.mem_singleton,not_or] at h3 ⊢
    obtain ⟨h3,h4,h5⟩:=h3
    obtain ⟨e1,e2,e3⟩:=pars_par hi h1 h2
    refine ⟨hs i hi h1 h2 h3,fun h6=>h4 ?_,fun h6=>h4 ?_⟩
    ·refine (both_ways _ _ _ hst e3).1 ?_
     exact above_step hn e3 e2 e1 hst.1 ((both_ways _ _ _ hst e2).2 h6)
    ·refine (both_ways _ _ _ hst e3).1 ?_
     have:=par_up e3 e2 e1 (by rw [h6];exact fun e=>h5 e.symm) hn
     rwa [h6] at this
   ·rename_i hm
    intro i hi h1 h2 h3
    simp only at h3 ⊢
    rw [hasB_with] at h3 ⊢
    simp only [Bool.or_eq_true,Bool.and_eq_true,decide_eq_true_eq,beq_iff_eq] at h3 ⊢
    right
    rcases h3 with ⟨_,h3⟩|h3
    ·have hx1:x.1=false:=by simpa using hm
     rw [hx1] at hab
     simp only [Bool.false_or] at hab
     have e:(m.stages.getD st.toNat (⟨#[]⟩,0))=m.stages[i]:=by
      rw [← h3]
      simp [hi]
     unfold aboveM at hab
     rw [e] at hab
     simp only [Bool.or_eq_true,beq_iff_eq,Bool.and_eq_true] at hab
     rcases hab with h|h
     ·omega
     ·exact h.2
    ·exact hs i hi h1 h2 h3
 ·exact hs
theorem fold_sound {m:Mod} (hc:circleL (pars m)<0) (event:Int):∀ (l:List (Bool × Int)) (s:St),sndP m s.opn → sndP m (l.foldl (turnM m event) s).opn
 | [],s,h=>h
 | x :: l,s,h=>fold_sound hc event l _ (turn_sound hc s x event h)
end
section
open Go.RowKit
abbrev nSen (m:Mod):Nat:=m.guards.length+m.miles.length
theorem any_above (l:List Int) (a s:Int) (h:a ≠ s):((aboveL l s).any (a == ·))=decide (isL l a s):=by
 rw [Bool.eq_iff_iff,List.any_eq_true,decide_eq_true_iff]
 constructor
 ·rintro ⟨x,hx,he⟩
  obtain rfl:a=x:=eq_of_beq he
  have h0:0≤a:=by
   have:=above_at l s a hx
   unfold isAt at this
   omega
  obtain ⟨j,h1,h2,h3⟩:=(mem_above l s a h0 (Ne.symm h)).1 hx
  exact ⟨j,h1,h2,h0,h3⟩
 ·rintro ⟨j,h1,h2,h0,h3⟩
  exact ⟨a,(mem_above l s a h0 (Ne.symm h)).2 ⟨j,h1,h2,h3⟩,by simp⟩
theorem at_g {m:Mod} {i:Nat} (h:i<m.guards.length):atMC m i=(false,(i:Int)):=by simp [atMC,h]
theorem at_m {m:Mod} {i:Nat} (h:¬ i<m.guards.length):atMC m i=(true,((i - m.guards.length:Nat):Int)):=by simp [atMC,h]
theorem stg_at (m:Mod) (i:Nat):stgM m (atMC m i)=stageN m i:=by
 by_cases h:i<m.guards.length
 ·rw [at_g h]
  simp [stgM,stageN,h]
 ·rw [at_m h]
  simp [stgM,stageN,h]
theorem cnd_at (m:Mod) (i:Nat):cndM m (atMC m i)=condNC m i:=by
 by_cases h:i<m.guards.length
 ·rw [at_g h]
  simp [cndM,condNC,h]
 ·rw [at_m h]
  simp [cndM,condNC,h]
theorem there_at {m:Mod} {i:Nat} (h:i<nSen m):thereM m (atMC m i)=true:=by
 by_cases h2:i<m.guards.length
 ·rw [at_g h2]
  simp [thereM,h2]
 ·rw [at_m h2]
  simp [thereM]
  unfold nSen at h
  omega
theorem fst_at (m:Mod) (i:Nat):(atMC m i).1 = !decide (i<m.guards.length):=by
 by_cases h:i<m.guards.length
 ·rw [at_g h]
  simp [h]
 ·rw [at_m h]
  simp [h]
theorem hears_at (m:Mod) (x:Inst) (y:Nat):hearsM m x (atMC m y)=byN m x y:=by
 unfold hearsM byN
 by_cases h9:x.op=9
 ·rw [if_pos h9,if_pos h9]
  unfold turnsM
  rw [stg_at,fst_at]
  by_cases he:stageN m y=x.n
  ·simp [he]
  ·rw [any_above _ _ _ he]
 ·rw [if_neg h9,if_neg h9]
  by_cases h10:x.op=10
  ·rw [if_pos h10,if_pos h10,fst_at,stg_at]
   by_cases hg:y<m.guards.length
   ·simp only [hg,decide_true,Bool.not_true,Bool.false_eq_true,if_false,if_true]
    rw [Bool.beq_comm (a:=stageN m y)]
   ·simp only [hg,decide_false,Bool.not_false,if_true,if_false]
    rw [at_m hg]
  ·rw [if_neg h10,if_neg h10]
theorem waits_at {m:Mod} {x y:Nat} (hx:x<nSen m) (hy:y<nSen m):waitsM m (atMC m x) (atMC m y)=waitsN m x y:=by
 unfold waitsM waitsN
 rw [there_at hx,there_at hy,cnd_at,Bool.true_and,Bool.true_and,Bool.or_comm]
 congr 1
 ·congr 1
  funext i
  exact hears_at m i y
 ·unfold behindM
  rw [fst_at,fst_at,stg_at,stg_at]
  by_cases hg:y<m.guards.length <;> by_cases hg2:x<m.guards.length <;> simp [hg,hg2]
def FreeN (m:Mod) (js:List Nat) (i:Nat):Prop:=i ∉ js ∧ ∀ k,k<nSen m → k ∈ js ∨ waitsN m i k=false
structure NextN (m:Mod) (js:List Nat) (i:Nat):Prop where
 lt:i<nSen m
 free:FreeN m js i
 first:∀ i',i'<i → ¬ FreeN m js i'
theorem NextN.uniq {m:Mod} {js:List Nat} {i k:Nat} (h:NextN m js i) (h2:NextN m js k):i=k:=by
 rcases Nat.lt_trichotomy i k with h3|h3|h3
 ·exact absurd h.free (h2.first i h3)
 ·exact h3
 ·exact absurd h2.free (h.first k h3)
def Greedy (m:Mod) (js:List Nat):Prop:=∀ j (h:j<js.length),NextN m (js.take j) js[j]
theorem greedy_snoc {m:Mod} {js:List Nat} {i:Nat} (h:Greedy m js) (hi:NextN m js i):Greedy m (js ++ [i]):=fun j hj=>by
 rw [List.length_append,List.length_singleton] at hj
 rcases Nat.lt_or_ge j js.length with h3|h3
 ·rw [List.take_append_of_le_length (by omega),List.getElem_append_left h3]
  exact h j h3
 ·obtain rfl:j=js.length:=by omega
  rw [List.take_append_of_le_length (by omega),List.take_length,List.getElem_append_right (by omega)]
  simpa using hi
theorem getD_set_mem {bs:List Bool} {js:List Nat} {n j:Nat} (hb:∀ i (h:i<bs.length),bs[i]=decide (i ∈ js)):∀ i (h:i<(bs.set j true).length),(bs.set j true)[i]=decide (i ∈ js ++ [j]):=fun i h=>by
 rw [List.getElem_set]
 split
 ·rename_i e
  subst e
  simp
 ·rename_i e
  rw [hb]
  simp [Ne.symm e]
theorem orderF_A (m:Mod) (hf:Fit m) (hp:∀ p ∈ m.stages,ok64 p.2):ARel Tryz.prog 15 [.agg (eMod m)] fun R=>(∃ js:List Nat,R=⟨.tup [.osl 0,eI 0],[(0,some (.row 93 2 ((js.map (atMC m)).map eBI)))],1⟩ ∧ js.length=nSen m ∧ Greedy m js) ∨ R=⟨.tup [.c (.slice none 0 0),eI 10],[],0⟩:=by
 refine arel_of_code mixedT Tryz.func15 rfl (by decide) Tryz.ntmps15 Tryz.results15 rfl ?_
 obtain ⟨hg,hm,-⟩:=id hf.sizes
 (repeat' (first|refine go ?_ | exact .intro | refine sp (fun _=>?_) fun _=>?_))
 refine callV (count_A m hf) ?_
 obtain ⟨n,hn⟩:∃ n,n=m.guards.length+m.miles.length:=⟨_,rfl⟩
 have hnS:nSen m=n:=hn.symm
 rw [← hn]
 (repeat' (first|refine go ?_ | exact .intro | refine sp (fun _=>?_) fun _=>?_))
 refine ⟨by omega,?_⟩
 refine aLoop_of (fun st=>∃ (bs:List Bool) (js:List Nat),(bs.length=n ∧ js.length≤n ∧ (∀ i (h:i<bs.length),bs[i]=decide (i ∈ js)) ∧ Greedy m js) ∧ st=⟨66,[(1,.op 0 0 0),(4,eI (n:Int)),(5,.osl 1),(6,.osl 2)],[(0,some (.box 32 (eMod m))),(1,some (.row 4 1 (bs.map fun b=>[eB b]))),(2,some (.row 93 2 ((js.map (atMC m)).map eBI)))],3⟩) (fun st=>n - rowsLen st 2) ⟨_,((weak_nil 6 93 2 (by simp only [ruW,ASt.get,aget,ASt.put,↓reduceIte,reduceCtorEq,Nat.reduceLT,Nat.reduceEqDiff,Nat.reduceAdd,Nat.reduceLeDiff,eq_self,implies_true,List.map_nil,List.map_replicate])).trans (wS [0,1,2] @List.map_replicate.{0,0})),List.replicate n false,[],⟨by simp,Nat.zero_le _,fun i h=>by simp,fun j h=>by simp at h⟩,rfl⟩ ?_
 rintro _ ⟨bs,js,⟨hbs,ho,hbd,hgr⟩,rfl⟩
 have hol:(js.map (atMC m)).length=js.length:=List.length_map ..
 by_cases hlt:js.length<n
 ·(repeat' (first|refine ge (kf @hlt @hol) ?_ | exact .intro | refine sp (fun _=>?_) fun _=>?_))
  refine aLoop_of (fun st=>∃ (i:Nat) (v:Int),(i≤n ∧ ((v<0 ∧ ∀ i',i'<i → ¬ FreeN m js i') ∨ ∃ j:Nat,v=(j:Int) ∧ NextN m js j)) ∧ st=⟨66,[(1,.op 0 0 0),(4,eI (n:Int)),(5,.osl 1),(6,.osl 2),(7,eI v),(8,eI (i:Int))],[(0,some (.box 32 (eMod m))),(1,some (.row 4 1 (bs.map fun b=>[eB b]))),(2,some (.row 93 2 ((js.map (atMC m)).map eBI)))],3⟩) (fun st=>n - slotN st 8) ⟨_,wC,0,-1,⟨Nat.zero_le _,.inl ⟨by omega,fun i' h=>absurd h (by omega)⟩⟩,rfl⟩ ?_
  rintro _ ⟨i,v,⟨hi,hv⟩,rfl⟩
  rcases hv with ⟨hv0,hno⟩|⟨j,rfl,hnx⟩
  ·by_cases hlt2:i<n
   ·have hib:i<bs.length:=by omega
    (repeat' (first|refine go ?_|simp only [row_at,hlt2,hv0,hib] | exact .intro | refine sp (fun _=>?_) fun _=>?_))
    refine aLoop_of (fun st=>∃ (k:Nat) (f:Bool),(k≤n ∧ (f=true ↔ i ∉ js ∧ ∀ k',k'<k → k' ∈ js ∨ waitsN m i k'=false)) ∧ st=⟨66,[(1,.op 0 0 0),(4,eI (n:Int)),(5,.osl 1),(6,.osl 2),(7,eI v),(8,eI (i:Int)),(9,eB f),(10,eI (k:Int))],[(0,some (.box 32 (eMod m))),(1,some (.row 4 1 (bs.map fun b=>[eB b]))),(2,some (.row 93 2 ((js.map (atMC m)).map eBI)))],3⟩) (fun st=>n - slotN st 10) ⟨_,wC,0,!bs[i],⟨Nat.zero_le _,by rw [hbd];simp⟩,rfl⟩ ?_
    rintro _ ⟨k,f,⟨hk,hF⟩,rfl⟩
    by_cases hlt3:k<n
    ·have hkb:k<bs.length:=by omega
     have hstep:∀ b:Bool,(b=true ↔ (k ∈ js ∨ waitsN m i k=false)) → ((f && b)=true ↔ i ∉ js ∧ ∀ k',k'<k+1 → k' ∈ js ∨ waitsN m i k'=false):=fun b hb=>by
      rw [Bool.and_eq_true,hF,hb]
      constructor
      ·rintro ⟨⟨h1,h2⟩,h3⟩
       refine ⟨h1,fun k' h4=>?_⟩
       rcases Nat.lt_or_ge k' k with h5|h5
       ·exact h2 k' h5
       ·obtain rfl:k'=k:=by omega
        exact h3
      ·rintro ⟨h1,h2⟩
       exact ⟨⟨h1,fun k' h4=>h2 k' (by omega)⟩,h2 k (by omega)⟩
     have hW:=waitsN_A m i k hf hp (by omega) (by omega)
     cases f with
     | false=>
      (repeat' (first|refine go ?_|simp only [row_at,hlt3,hkb] | exact .intro | refine sp (fun _=>?_) fun _=>?_))
      exact rI wC ⟨k+1,false,⟨by omega,hstep (decide (k ∈ js ∨ waitsN m i k=false)) (by simp)⟩,rfl⟩
     | true=>
      cases hbk:bs[k] with
      | true=>
       have hmem:k ∈ js:=by
        have:=hbd k hkb
        rw [hbk] at this
        exact of_decide_eq_true this.symm
       (repeat' (first|refine go ?_|simp only [row_at,hlt3,hkb,hbk] | exact .intro | refine sp (fun _=>?_) fun _=>?_))
       exact rI wC ⟨k+1,true,⟨by omega,hstep true (by simp [hmem])⟩,rfl⟩
      | false=>
       have hmem:k ∉ js:=by
        have:=hbd k hkb
        rw [hbk] at this
        exact of_decide_eq_false this.symm
       (repeat' (first|refine go ?_|simp only [row_at,hlt3,hkb,hbk] | exact .intro | refine sp (fun _=>?_) fun _=>?_))
       refine callV hW ?_
       have hs2:=hstep (!waitsN m i k) (by simp [hmem])
       rw [Bool.true_and] at hs2
       (repeat' (first|refine go ?_|simp only [row_at,hkb] | exact .intro | refine sp (fun _=>?_) fun _=>?_))
       exact rI wC ⟨k+1,!waitsN m i k,⟨by omega,hs2⟩,rfl⟩
    ·obtain rfl:k=n:=by omega
     have hFr:f=true ↔ FreeN m js i:=by
      rw [hF]
      unfold FreeN
      rw [hnS]
     cases f with
     | true=>
      (repeat' (first|refine go ?_|simp only [row_at,hlt3] | exact .intro | refine sp (fun _=>?_) fun _=>?_))
      exact rI wC ⟨i+1,(i:Int),⟨by omega,.inr ⟨i,rfl,⟨by omega,hFr.1 rfl,hno⟩⟩⟩,rfl⟩
     | false=>
      (repeat' (first|refine go ?_|simp only [row_at,hlt3] | exact .intro | refine sp (fun _=>?_) fun _=>?_))
      refine rI wC ⟨i+1,v,⟨by omega,.inl ⟨hv0,fun i' h=>?_⟩⟩,rfl⟩
      rcases Nat.lt_or_ge i' i with h5|h5
      ·exact hno i' h5
      ·obtain rfl:i'=i:=by omega
       exact fun h6=>by have:=hFr.2 h6;cases this
   ·(repeat' (first|refine ge (kf @hlt2 hv0) ?_ | exact .intro | refine sp (fun _=>?_) fun _=>?_))
    exact ⟨_,.inr rfl,⟨fun id o h=>(by cases h),trivial,trivial,trivial⟩,gives_tree (by simp [AV.ren,AV.renL])⟩
  ·have hjn:j<n:=by have:=hnx.lt;omega
   have hjb:j<bs.length:=by omega
   have hj0:decide ((j:Int)<0)=false:=by simp
   have et:((js ++ [j]).map (atMC m)).map eBI=(js.map (atMC m)).map eBI ++ [eBI (atMC m j)]:=by rw [List.map_append,List.map_append];rfl
   have hset:(bs.map fun b=>[eB b]).set j [eB true]=(bs.set j true).map fun b=>[eB b]:=by rw [List.map_set]
   have hnew:(bs.set j true).length=n ∧ (js ++ [j]).length≤n ∧ (∀ i (h:i<(bs.set j true).length),(bs.set j true)[i]=decide (i ∈ js ++ [j])) ∧ Greedy m (js ++ [j]):=⟨by simp [hbs],by simp;omega,getD_set_mem (n:=n) hbd,greedy_snoc hgr hnx⟩
   by_cases hi2:i<n
   ·(repeat' (first | simp -implicitDefEqProofs (maxSteps:=5000000) only [ruX,↓reduceIte,reduceCtorEq,Nat.reduceLT,Nat.reduceEqDiff,Nat.reduceAdd,Nat.reduceMul,Nat.reduceSub,Nat.reduceLeDiff,Nat.reduceBEq,hi2,hj0,row_at,hjb,Int.reduceToNat,List.headD_cons] | refine sp (fun _=>?_) fun _=>?_))
    refine callT (atC_A m j hf (by omega)) (.inl (by simp [roL,roA,treeL,treeC])) ?_
    (repeat' (first|refine go ?_|simp only [row_at,hjb] | exact .intro | refine sp (fun _=>?_) fun _=>?_))
    refine ⟨rfl,by omega,roundI (wS [0,1,4] (kf @hset et)) ⟨bs.set j true,js ++ [j],hnew,rfl⟩ (by simp [rowsLen,ATab.get_cons];omega)⟩
   ·(repeat' (first | simp -implicitDefEqProofs (maxSteps:=5000000) only [ruX,↓reduceIte,reduceCtorEq,Nat.reduceLT,Nat.reduceEqDiff,Nat.reduceAdd,Nat.reduceMul,Nat.reduceSub,Nat.reduceLeDiff,Nat.reduceBEq,hi2,hj0,row_at,hjb,Int.reduceToNat,List.headD_cons] | refine sp (fun _=>?_) fun _=>?_))
    refine callT (atC_A m j hf (by omega)) (.inl (by simp [roL,roA,treeL,treeC])) ?_
    (repeat' (first|refine go ?_|simp only [row_at,hjb] | exact .intro | refine sp (fun _=>?_) fun _=>?_))
    refine ⟨rfl,by omega,roundI (wS [0,1,4] (kf @hset et)) ⟨bs.set j true,js ++ [j],hnew,rfl⟩ (by simp [rowsLen,ATab.get_cons];omega)⟩
 ·(repeat' (first|refine ge (kf @hlt @hol) ?_ | exact .intro | refine sp (fun _=>?_) fun _=>?_))
  refine ⟨_,.inl ⟨js,rfl,by omega,hgr⟩,⟨fun id o h=>?_,Nat.zero_lt_one,trivial,trivial⟩,⟨[2],by simp,rfl,⟨Nat.zero_lt_one,⟨_,_,_,rfl⟩,by simp [ATab.get_cons]⟩,trivial⟩⟩
  simp only [ATab.get_cons] at h
  split at h
  ·rename_i e
   cases h
   subst e
   exact ⟨Nat.zero_lt_one,trivial⟩
  ·cases h
end
end
section
section
open Go.RowKit
def in31 (o:Int):Prop:=0≤o ∧ o<2147483648
theorem in31_ok {o:Int} (h:in31 o):ok64 o:=by unfold in31 at h;unfold ok64;omega
theorem low_31 (s:Int):in31 (low s:Int):=by
 have:=low_lt s
 unfold in31
 omega
theorem withB_31 (s i:Int):in31 (withB s i):=by
 unfold withB
 split
 ·have h1:low s ||| 2 ^ i.toNat<2 ^ 31:=Nat.or_lt_two_pow (low_lt s) (Nat.pow_lt_pow_right (by omega) (by omega))
  unfold in31
  omega
 ·exact low_31 s
theorem withoutB_31 (s i:Int):in31 (withoutB s i):=by
 unfold withoutB
 split
 ·have h1:low s ^^^ (low s &&& 2 ^ i.toNat)<2 ^ 31:=Nat.xor_lt_two_pow (low_lt s) (Nat.lt_of_le_of_lt Nat.and_le_left (low_lt s))
  unfold in31
  omega
 ·exact low_31 s
theorem fold_31:∀ (l:List Int) (o:Int),in31 o → in31 (l.foldl withoutB o)
 | [],o,h=>h
 | i :: l,o,h=>fold_31 l _ (withoutB_31 o i)
theorem undo_31 (l:List Ml) (st d:Int) (h:in31 d):∀ k,in31 (undo l st d k)
 | 0=>h
 | k+1=>by
  unfold undo
  split
  ·exact withoutB_31 _ _
  ·exact undo_31 l st d h k
theorem fold_has:∀ (l:List Int) (o j:Int),hasB (l.foldl withoutB o) j=(hasB o j && !decide (j ∈ l))
 | [],o,j=>by simp
 | i :: l,o,j=>by
  rw [List.foldl_cons,fold_has l,hasB_without]
  by_cases h:j=i
  ·simp [h]
  ·have:(j == i)=false:=by simpa using h
   simp [this,h]
theorem undo_has (l:List Ml) (st d:Int) (i:Nat):∀ k,hasB (undo l st d k) (i:Int)=(hasB d (i:Int) && !(decide (i<k) && decide (l[i]?.map (·.stage)=some st)))
 | 0=>by simp [undo]
 | k+1=>by
  unfold undo
  split
  ·rename_i h
   rw [hasB_without,undo_has l st d i k]
   by_cases hik:i=k
   ·subst hik
    simp [h]
   ·have e1:((i:Int) == (k:Int))=false:=by simp;omega
    have e2:decide (i<k+1)=decide (i<k):=by rw [decide_eq_decide];omega
    rw [e1,e2]
    simp
  ·rename_i h
   rw [undo_has l st d i k]
   by_cases hik:i=k
   ·subst hik
    simp [h]
   ·have e2:decide (i<k+1)=decide (i<k):=by rw [decide_eq_decide];omega
    rw [e2]
def maskL (s:Int) (p:Nat → Bool):List Bool:=(List.range 31).map fun (i:Nat)=>hasB s (i:Int) && !p i
def upto (q:Nat → Bool) (k:Nat):Nat → Bool:=fun i=>decide (i<k) && q i
theorem mask_zero (s:Int) (q:Nat → Bool):maskL s (upto q 0)=inL s:=by simp [maskL,inL,upto]
theorem mask_len (s:Int) (p:Nat → Bool):(maskL s p).length=31:=by simp [maskL]
theorem mask_yes {s:Int} {q:Nat → Bool} {k:Nat} (h:q k=true):(maskL s (upto q k)).set k false=maskL s (upto q (k+1)):=by
 apply List.ext_getElem?
 intro i
 rw [List.getElem?_set]
 simp only [maskL,List.getElem?_map,List.length_map,List.length_range]
 by_cases hi:i<31
 ·rw [List.getElem?_range hi]
  split
  ·rename_i e
   subst e
   rw [if_pos hi]
   simp [upto,h]
  ·rename_i e
   have e2:decide (i<k+1)=decide (i<k):=by rw [decide_eq_decide];omega
   simp [upto,e2]
 ·rw [List.getElem?_eq_none (by simp;omega)]
  split
  ·rw [if_neg (by omega)];rfl
  ·rfl
theorem mask_no {s:Int} {q:Nat → Bool} {k:Nat} (h:q k=false):maskL s (upto q k)=maskL s (upto q (k+1)):=by
 have:upto q k=upto q (k+1):=by
  funext i
  unfold upto
  by_cases hik:i=k
  ·subst hik
   simp [h]
  ·have e2:decide (i<k+1)=decide (i<k):=by rw [decide_eq_decide];omega
   rw [e2]
 rw [this]
theorem mask_sum (s:Int) (p:Nat → Bool) {t:Int} (ht:in31 t) (h:∀ j:Nat,j<31 → hasB t (j:Int)=(hasB s (j:Int) && !p j)):sumF (maskL s p) 31=t:=by
 have hr:=bitsN_lt (fun j=>(maskL s p).getD j false) 31
 unfold sumF
 refine set_ext (by omega) ht fun j hj=>?_
 rw [bitsN_has _ j hj,h j hj]
 simp [maskL,hj]
noncomputable def qA (m:Mod) (st:Int):Nat → Bool:=fun i=>decide ((i:Int)=st) || decide (isL (pars m) st (i:Int))
def qB (m:Mod) (st:Int):Nat → Bool:=fun i=>decide (m.miles[i]?.map (·.stage)=some st)
theorem mask_A {m:Mod} {st s:Int} (hst:isAt (pars m) st) (hs:in31 s):sumF (maskL s (upto (qA m st) m.stages.length)) 31=(belowL (pars m) st ++ [st]).foldl withoutB s:=by
 refine mask_sum s _ (fold_31 _ _ hs) fun j hj=>?_
 rw [fold_has]
 congr 2
 have hpl:(pars m).length=m.stages.length:=by simp [pars]
 rw [Bool.eq_iff_iff]
 simp only [decide_eq_true_eq,upto,qA,Bool.and_eq_true,Bool.or_eq_true,List.mem_append,List.mem_singleton]
 unfold belowL
 rw [if_pos hst]
 simp only [List.mem_map,List.mem_filter,List.mem_range,decide_eq_true_eq]
 have hst':=hst
 unfold isAt at hst'
 constructor
 ·rintro (⟨k,⟨h1,h2,h3⟩,h4⟩ | h)
  ·obtain rfl:k=j:=by omega
   obtain ⟨i,h5,h6,h7⟩:=(mem_above (pars m) (k:Int) st hst'.1 h2).1 h3
   exact ⟨by omega,.inr ⟨i,h5,h6,hst'.1,h7⟩⟩
  ·exact ⟨by omega,.inl h⟩
 ·rintro ⟨h1,h2⟩
  by_cases he:(j:Int)=st
  ·exact .inr he
  ·left
   rcases h2 with h2|⟨i,h5,h6,h7,h8⟩
   ·exact absurd h2 he
   ·exact ⟨j,⟨by omega,he,(mem_above (pars m) (j:Int) st hst'.1 he).2 ⟨i,h5,h6,h8⟩⟩,rfl⟩
theorem mask_B {m:Mod} {st s:Int} (hs:in31 s):sumF (maskL s (upto (qB m st) m.miles.length)) 31=undo m.miles st s m.miles.length:=by
 refine mask_sum s _ (undo_31 _ _ _ hs _) fun j hj=>?_
 rw [undo_has]
 rfl
theorem bools_plain {l:List Bool}:∀ row ∈ l.map (fun b=>[eB b]),∀ av ∈ row,av.plain:=fun row hr av ha=>by
 obtain ⟨n,_,rfl⟩:=List.mem_map.1 hr
 simp at ha
 subst ha
 trivial
theorem fire18_A (m:Mod) (s:St) (xm:Bool) (xn:Int) (hf:Fit m) (hp:∀ p ∈ m.stages,ok64 p.2) (ho:in31 s.opn) (hd:in31 s.don):ADet Tryz.prog 93 [.agg (eMod m),.agg (eSt s),.agg [eB xm,eI xn]] ⟨.agg (eSt (fireM m s (xm,xn))),[],0⟩:=by
 refine adet_of_code mixedT Tryz.func93 rfl (by decide) Tryz.ntmps93 Tryz.results93 rfl (⟨fun id o h=>(by cases h),⟨trivial,trivial,trivial,trivial,trivial,trivial⟩⟩) ?_
 obtain ⟨hgl,hml,hsl,-⟩:=id hf.sizes
 have hpl:(pars m).length=m.stages.length:=by simp [pars]
 have hpo:∀ x ∈ pars m,ok64 x:=fun x hx=>by
  obtain ⟨p,hp',rfl⟩:=List.mem_map.1 hx
  exact hp p hp'
 have ro:roL [.agg (eMod m),.agg (eSt s),.agg [eB xm,eI xn]]:=by simp [roL,roA,treeL,treeC]
 cases xm with
 | true=>
  by_cases hin:0≤xn ∧ xn<(m.miles.length:Int)
  ·obtain ⟨k,rfl⟩:∃ k:Nat,xn=(k:Int):=⟨xn.toNat,by omega⟩
   have hk:k<m.miles.length:=by omega
   have ei:inB (k:Int) (m.miles.length:Int)=true:=by simp [inB];omega
   by_cases hst:0≤m.miles[k].stage ∧ m.miles[k].stage<(m.stages.length:Int)
   ·have es:inB m.miles[k].stage (m.stages.length:Int)=true:=by unfold inB;simp;omega
    have hs2:inS m m.miles[k].stage=true:=by unfold inS;simp;omega
    have eR:fireM m s (true,(k:Int))={ s with don:=withB s.don k,opn:=(belowL (pars m) m.miles[k].stage ++ [m.miles[k].stage]).foldl withoutB s.opn }:=by
     simp [fireM,sentryM,hk,hs2]
    rw [eR,← mask_A (m:=m) (by unfold isAt;omega) ho]
    have eK:eMl m.miles[k]=[eS m.miles[k].name,eI m.miles[k].stage,eI m.miles[k].event,sInsts m.miles[k].cond,eB m.miles[k].final]:=rfl
    generalize hstg:m.miles[k].stage=st at hst es hs2 eK
    have hput:=put_A s.don (k:Int) true (in31_ok hd) (by omega) (by omega)
    simp only [if_true] at hput
    (repeat' (first|refine go ?_|simp only [row_at,hk] | exact .intro | refine sp (fun _=>?_) fun _=>?_))
    refine aDraw_quiet (by kernel_rfl) ?_
    (repeat' (first|refine go ?_|simp only [row_at,hk] | exact .intro | refine sp (fun _=>?_) fun _=>?_))
    refine callD (in18_A _ _) ?_
    (repeat' (first|refine go ?_|simp only [row_at,hk,ei,hstg] | exact .intro | refine sp (fun _=>?_) fun _=>?_))
    refine callD (in18_A _ _) ?_
    (repeat' (first|refine go ?_|simp only [row_at,hk,ei,es,hstg] | exact .intro | refine sp (fun _=>?_) fun _=>?_))
    refine callV hput ?_
    (repeat' (first|refine go ?_ | exact .intro | refine sp (fun _=>?_) fun _=>?_))
    refine callO (inR_A s.opn (in31_ok ho)) (.inr bools_plain) ?_
    (repeat' (first|refine go ?_ | exact .intro | refine sp (fun _=>?_) fun _=>?_))
    rw [← mask_zero s.opn (qA m st)]
    refine aLoop_of (fun s'=>∃ i:Nat,i≤m.stages.length ∧ s'=⟨148,[(3,.op 0 0 0),(4,.op 1 0 0),(6,.op 2 0 0),(7,eI st),(8,.osl 3),(9,eI (i:Int))],[(0,some (.box 32 (eMod m))),(1,some (.box 69 (eSt { s with don:=withB s.don k }))),(2,some (.box 69 [.c (.slice none 0 0),eI 0,eI 0,.c (.slice none 0 0),.c (.slice none 0 0)])),(3,some (.row 4 1 ((maskL s.opn (upto (qA m st) i)).map fun b=>[eB b])))],4⟩) (fun s'=>m.stages.length - slotN s' 9) ⟨_,(wR [0,1,3,4]),0,Nat.zero_le _,rfl⟩ ?_
    rintro _ ⟨i,hi,rfl⟩
    have hml31:=mask_len s.opn (upto (qA m st) i)
    by_cases hlt:i<m.stages.length
    ·have hi31:i<(maskL s.opn (upto (qA m st) i)).length:=by omega
     have hset:(((maskL s.opn (upto (qA m st) i)).map fun b=>[eB b]).set i [eB false])=((maskL s.opn (upto (qA m st) i)).set i false).map fun b=>[eB b]:=by rw [List.map_set]
     (repeat' (first|refine go ?_|simp only [row_at,hlt,hi31] | exact .intro | refine sp (fun _=>?_) fun _=>?_))
     ·rename_i h
      have hq:qA m st i=true:=by simp [qA];left;simpa using h
      exact rI (weak_cut1 (by (first | ((simp only [envIn,tabIn,envLt,tabLt,AObj.lt,AV.lt,AV.ltL,ruW,ASt.get,aget,ASt.put,↓reduceIte,reduceCtorEq,Nat.reduceLT,Nat.reduceEqDiff,Nat.reduceAdd,Nat.reduceLeDiff,eq_self,implies_true,hset,mask_yes hq]) <;> (repeat' apply And.intro) <;> first | (rw [wrapK (by omega)];done) | (simp;done) | omega) | fail))) ⟨i+1,by omega,rfl⟩
     ·rename_i h
      refine callO (parR_A m (by omega)) (.inr ints_plain) ?_
      (repeat' (first|refine go ?_ | exact .intro | refine sp (fun _=>?_) fun _=>?_))
      refine callV (isR_A (pars m) st (i:Int) (by omega) hpo) ?_
      (repeat' (first|refine go ?_|simp only [row_at,hlt,hi31] | exact .intro | refine sp (fun _=>?_) fun _=>?_))
      ·rename_i h2
       have hq:qA m st i=true:=by simp only [qA,h2,Bool.or_true]
       exact rI (weak_ren1 [0,1,2,3] ⟨(by decide),(by (first | ((simp only [envInR,tabInR,envLt,tabLt,AObj.lt,AV.lt,AV.ltL,AV.ren,AV.renL,AObj.ren,List.getD_cons_zero,List.getD_cons_succ,List.length_cons,List.length_nil,ruW,ASt.get,aget,ASt.put,↓reduceIte,reduceCtorEq,Nat.reduceLT,Nat.reduceEqDiff,Nat.reduceAdd,Nat.reduceLeDiff,eq_self,implies_true,hset,mask_yes hq]) <;> (repeat' apply And.intro) <;> first | (rw [wrapK (by omega)];done) | (simp;done) | omega) | fail))⟩) ⟨i+1,by omega,rfl⟩
      ·rename_i h2
       have hq:qA m st i=false:=by
        simp only [qA,h2,Bool.or_false]
        simpa using h
       exact rI (weak_ren1 [0,1,2,3] ⟨(by decide),(by (first | ((simp only [envInR,tabInR,envLt,tabLt,AObj.lt,AV.lt,AV.ltL,AV.ren,AV.renL,AObj.ren,List.getD_cons_zero,List.getD_cons_succ,List.length_cons,List.length_nil,ruW,ASt.get,aget,ASt.put,↓reduceIte,reduceCtorEq,Nat.reduceLT,Nat.reduceEqDiff,Nat.reduceAdd,Nat.reduceLeDiff,eq_self,implies_true,mask_no hq]) <;> (repeat' apply And.intro) <;> first | (rw [wrapK (by omega)];done) | (simp;done) | omega) | fail))⟩) ⟨i+1,by omega,rfl⟩
    ·obtain rfl:i=m.stages.length:=by omega
     have hsum:=sum_A (maskL s.opn (upto (qA m st) m.stages.length)) (by omega)
     rw [hml31] at hsum
     (repeat' (first|refine go ?_|simp only [row_at,hlt] | exact .intro | refine sp (fun _=>?_) fun _=>?_))
     refine callV (by exact hsum) ?_
     (repeat' (first|refine go ?_ | exact .intro | refine sp (fun _=>?_) fun _=>?_))
     exact gives_tree (by simp [AV.ren,AV.renL])
   ·have es:inB m.miles[k].stage (m.stages.length:Int)=false:=by unfold inB;rw [Bool.and_eq_false_iff];simp only [decide_eq_false_iff_not];omega
    have eR:fireM m s (true,(k:Int))=s:=by
     have:inS m m.miles[k].stage=false:=by unfold inS;rw [Bool.and_eq_false_iff];simp only [decide_eq_false_iff_not];omega
     simp [fireM,sentryM,hk,this]
    rw [eR]
    (repeat' (first|refine go ?_|simp only [row_at,hk] | exact .intro | refine sp (fun _=>?_) fun _=>?_))
    refine aDraw_quiet (by kernel_rfl) ?_
    (repeat' (first|refine go ?_|simp only [row_at,hk] | exact .intro | refine sp (fun _=>?_) fun _=>?_))
    refine callD (in18_A _ _) ?_
    (repeat' (first|refine go ?_|simp only [row_at,hk,ei] | exact .intro | refine sp (fun _=>?_) fun _=>?_))
    refine callD (in18_A _ _) ?_
    (repeat' (first|refine go ?_|simp only [row_at,hk,ei,es] | exact .intro | refine sp (fun _=>?_) fun _=>?_))
    exact gives_tree (by simp [AV.ren,AV.renL])
  ·have ei:inB xn (m.miles.length:Int)=false:=by unfold inB;rw [Bool.and_eq_false_iff];simp only [decide_eq_false_iff_not];omega
   have eR:fireM m s (true,xn)=s:=by
    have:sentryM m (true,xn)=none:=by
     simp only [sentryM,if_true]
     split
     ·rw [List.getElem?_eq_none (by omega)];try rfl
     ·rfl
    simp [fireM,this]
   rw [eR]
   (repeat' (first|refine go ?_ | exact .intro | refine sp (fun _=>?_) fun _=>?_))
   refine aDraw_quiet (by kernel_rfl) ?_
   (repeat' (first|refine go ?_ | exact .intro | refine sp (fun _=>?_) fun _=>?_))
   refine callD (in18_A _ _) ?_
   (repeat' (first|refine ge ei ?_ | exact .intro | refine sp (fun _=>?_) fun _=>?_))
   exact gives_tree (by simp [AV.ren,AV.renL])
 | false=>
  by_cases hin:0≤xn ∧ xn<(m.guards.length:Int)
  ·obtain ⟨k,rfl⟩:∃ k:Nat,xn=(k:Int):=⟨xn.toNat,by omega⟩
   have hk:k<m.guards.length:=by omega
   have ei:inB (k:Int) (m.guards.length:Int)=true:=by simp [inB];omega
   by_cases hst:0≤m.guards[k].stage ∧ m.guards[k].stage<(m.stages.length:Int)
   ·have es:inB m.guards[k].stage (m.stages.length:Int)=true:=by unfold inB;simp;omega
    have hs2:inS m m.guards[k].stage=true:=by unfold inS;simp;omega
    have eR:fireM m s (false,(k:Int))={ s with opn:=withB s.opn m.guards[k].stage,don:=undo m.miles m.guards[k].stage s.don m.miles.length }:=by
     simp [fireM,sentryM,hk,hs2]
    rw [eR,← mask_B hd]
    generalize hstg:m.guards[k].stage=st at hst es hs2
    have hput:=put_A s.opn st true (in31_ok ho) hst.1 (by omega)
    simp only [if_true] at hput
    (repeat' (first|refine go ?_|simp only [row_at,hk] | exact .intro | refine sp (fun _=>?_) fun _=>?_))
    refine aDraw_quiet (by kernel_rfl) ?_
    (repeat' (first|refine go ?_|simp only [row_at,hk] | exact .intro | refine sp (fun _=>?_) fun _=>?_))
    refine callD (in18_A _ _) ?_
    (repeat' (first|refine go ?_|simp only [row_at,hk,ei,hstg] | exact .intro | refine sp (fun _=>?_) fun _=>?_))
    refine callD (in18_A _ _) ?_
    (repeat' (first|refine go ?_|simp only [row_at,hk,ei,es,hstg] | exact .intro | refine sp (fun _=>?_) fun _=>?_))
    refine callV hput ?_
    (repeat' (first|refine go ?_ | exact .intro | refine sp (fun _=>?_) fun _=>?_))
    refine callO (inR_A s.don (in31_ok hd)) (.inr bools_plain) ?_
    (repeat' (first|refine go ?_ | exact .intro | refine sp (fun _=>?_) fun _=>?_))
    rw [← mask_zero s.don (qB m st)]
    refine aLoop_of (fun s'=>∃ i:Nat,i≤m.miles.length ∧ s'=⟨148,[(3,.op 0 0 0),(4,.op 1 0 0),(6,.op 2 0 0),(10,eI st),(11,.osl 3),(12,eI (i:Int))],[(0,some (.box 32 (eMod m))),(1,some (.box 69 (eSt { s with opn:=withB s.opn st }))),(2,some (.box 69 [.c (.slice none 0 0),eI 0,eI 0,.c (.slice none 0 0),.c (.slice none 0 0)])),(3,some (.row 4 1 ((maskL s.don (upto (qB m st) i)).map fun b=>[eB b])))],4⟩) (fun s'=>m.miles.length - slotN s' 12) ⟨_,(wR [0,1,3,4]),0,Nat.zero_le _,rfl⟩ ?_
    rintro _ ⟨i,hi,rfl⟩
    have hml31:=mask_len s.don (upto (qB m st) i)
    by_cases hlt:i<m.miles.length
    ·have hi31:i<(maskL s.don (upto (qB m st) i)).length:=by omega
     have hset:(((maskL s.don (upto (qB m st) i)).map fun b=>[eB b]).set i [eB false])=((maskL s.don (upto (qB m st) i)).set i false).map fun b=>[eB b]:=by rw [List.map_set]
     (repeat' (first|refine go ?_|simp only [row_at,hlt,hi31] | exact .intro | refine sp (fun _=>?_) fun _=>?_))
     ·rename_i h
      have hq:qB m st i=true:=by simp [qB,hlt];simpa using h
      exact rI (weak_cut1 (by (first | ((simp only [envIn,tabIn,envLt,tabLt,AObj.lt,AV.lt,AV.ltL,ruW,ASt.get,aget,ASt.put,↓reduceIte,reduceCtorEq,Nat.reduceLT,Nat.reduceEqDiff,Nat.reduceAdd,Nat.reduceLeDiff,eq_self,implies_true,hset,mask_yes hq]) <;> (repeat' apply And.intro) <;> first | (rw [wrapK (by omega)];done) | (simp;done) | omega) | fail))) ⟨i+1,by omega,rfl⟩
     ·rename_i h
      have hq:qB m st i=false:=by simp [qB,hlt];simpa using h
      exact rI (weak_cut1 (by (first | ((simp only [envIn,tabIn,envLt,tabLt,AObj.lt,AV.lt,AV.ltL,ruW,ASt.get,aget,ASt.put,↓reduceIte,reduceCtorEq,Nat.reduceLT,Nat.reduceEqDiff,Nat.reduceAdd,Nat.reduceLeDiff,eq_self,implies_true,mask_no hq]) <;> (repeat' apply And.intro) <;> first | (rw [wrapK (by omega)];done) | (simp;done) | omega) | fail))) ⟨i+1,by omega,rfl⟩
    ·obtain rfl:i=m.miles.length:=by omega
     have hsum:=sum_A (maskL s.don (upto (qB m st) m.miles.length)) (by omega)
     rw [hml31] at hsum
     (repeat' (first|refine go ?_|simp only [row_at,hlt] | exact .intro | refine sp (fun _=>?_) fun _=>?_))
     refine callV (by exact hsum) ?_
     (repeat' (first|refine go ?_ | exact .intro | refine sp (fun _=>?_) fun _=>?_))
     exact gives_tree (by simp [AV.ren,AV.renL])
   ·have es:inB m.guards[k].stage (m.stages.length:Int)=false:=by unfold inB;rw [Bool.and_eq_false_iff];simp only [decide_eq_false_iff_not];omega
    have eR:fireM m s (false,(k:Int))=s:=by
     have:inS m m.guards[k].stage=false:=by unfold inS;rw [Bool.and_eq_false_iff];simp only [decide_eq_false_iff_not];omega
     simp [fireM,sentryM,hk,this]
    rw [eR]
    (repeat' (first|refine go ?_|simp only [row_at,hk] | exact .intro | refine sp (fun _=>?_) fun _=>?_))
    refine aDraw_quiet (by kernel_rfl) ?_
    (repeat' (first|refine go ?_|simp only [row_at,hk] | exact .intro | refine sp (fun _=>?_) fun _=>?_))
    refine callD (in18_A _ _) ?_
    (repeat' (first|refine go ?_|simp only [row_at,hk,ei] | exact .intro | refine sp (fun _=>?_) fun _=>?_))
    refine callD (in18_A _ _) ?_
    (repeat' (first|refine go ?_|simp only [row_at,hk,ei,es] | exact .intro | refine sp (fun _=>?_) fun _=>?_))
    exact gives_tree (by simp [AV.ren,AV.renL])
  ·have ei:inB xn (m.guards.length:Int)=false:=by unfold inB;rw [Bool.and_eq_false_iff];simp only [decide_eq_false_iff_not];omega
   have eR:fireM m s (false,xn)=s:=by
    have:sentryM m (false,xn)=none:=by
     simp only [sentryM,Bool.false_eq_true,if_false]
     split
     ·rw [List.getElem?_eq_none (by omega)];try rfl
     ·rfl
    simp [fireM,this]
   rw [eR]
   (repeat' (first|refine go ?_ | exact .intro | refine sp (fun _=>?_) fun _=>?_))
   refine aDraw_quiet (by kernel_rfl) ?_
   (repeat' (first|refine go ?_ | exact .intro | refine sp (fun _=>?_) fun _=>?_))
   refine callD (in18_A _ _) ?_
   (repeat' (first|refine ge ei ?_ | exact .intro | refine sp (fun _=>?_) fun _=>?_))
   exact gives_tree (by simp [AV.ren,AV.renL])
theorem fire_31 (m:Mod) (s:St) (x:Bool × Int) (h:in31 s.opn ∧ in31 s.don):in31 (fireM m s x).opn ∧ in31 (fireM m s x).don:=by
 unfold fireM
 split
 ·split
  ·split
   ·exact ⟨fold_31 _ _ h.1,withB_31 _ _⟩
   ·exact ⟨withB_31 _ _,undo_31 _ _ _ h.2 _⟩
  ·exact h
 ·exact h
theorem turn_31 (m:Mod) (event:Int) (s:St) (x:Bool × Int) (h:in31 s.opn ∧ in31 s.don):in31 (turnM m event s x).opn ∧ in31 (turnM m event s x).don:=by
 unfold turnM
 split
 ·exact fire_31 m s x h
 ·exact h
theorem turns_31 (m:Mod) (event:Int):∀ (l:List (Bool × Int)) (s:St),in31 s.opn ∧ in31 s.don → in31 (l.foldl (turnM m event) s).opn ∧ in31 (l.foldl (turnM m event) s).don
 | [],s,h=>h
 | x :: l,s,h=>turns_31 m event l _ (turn_31 m event s x h)
theorem stOk (s:St):(⟨.agg (eSt s),[],0⟩:Res).Ok:=⟨fun id o h=>(by cases h),⟨trivial,trivial,trivial,trivial,trivial,trivial⟩⟩
theorem pass18_A (m:Mod) (s:St) (event:Int) (hf:Fit m) (hp:∀ p ∈ m.stages,ok64 p.2) (ho:in31 s.opn) (hd:in31 s.don):ADet Tryz.prog 57 [.agg (eMod m),.agg (eSt s),eI event] ⟨.agg (eSt (passM m event s m.order.length)),[],0⟩:=by
 refine adet_of_code mixedT Tryz.func57 rfl (by decide) Tryz.ntmps57 Tryz.results57 rfl (stOk _) ?_
 (repeat' (first|refine go ?_ | exact .intro | refine sp (fun _=>?_) fun _=>?_))
 have hol:m.order.length≤40:=hf.sizes.2.2.2.2.2.2.2.2.1
 have e0:passM m event s 0=s:=rfl
 refine aLoop_of (fun s'=>∃ k:Nat,k≤m.order.length ∧ s'=⟨33,[(2,eI event),(3,.op 0 0 0),(4,.op 1 0 0),(6,.op 2 0 0),(7,eI (k:Int))],[(0,some (.box 32 (eMod m))),(1,some (.box 69 (eSt (passM m event s k)))),(2,some (.box 69 [.c (.slice none 0 0),eI 0,eI 0,.c (.slice none 0 0),.c (.slice none 0 0)]))],3⟩) (fun st=>m.order.length - slotN st 7) ⟨_,(wE e0),0,Nat.zero_le _,rfl⟩ ?_
 rintro _ ⟨k,hk,rfl⟩
 by_cases hlt:k<m.order.length
 ·have ef:passM m event s (k+1)=turnM m event (passM m event s k) m.order[k]:=fold_snoc _ _ _ hlt
  have hv:=turns_31 m event (m.order.take k) s ⟨ho,hd⟩
  change in31 (passM m event s k).opn ∧ in31 (passM m event s k).don at hv
  (repeat' (first|refine go ?_|simp only [row_at,hlt] | exact .intro | refine sp (fun _=>?_) fun _=>?_))
  generalize passM m event s k=t at ef hv ⊢
  refine aDraw_quiet (by kernel_rfl) ?_
  obtain ⟨x,hx⟩:∃ x,m.order[k]=x:=⟨_,rfl⟩
  rw [hx] at ef
  (repeat' (first|refine go ?_|simp only [row_at,hlt,hx] | exact .intro | refine sp (fun _=>?_) fun _=>?_))
  refine callD (fires18_A m t x.1 x.2 event hf (in31_ok hv.1) (in31_ok hv.2)) ?_
  (repeat' (first|refine go ?_ | exact .intro | refine sp (fun _=>?_) fun _=>?_))
  ·rename_i h
   have e1:turnM m event t x=fireM m t x:=if_pos h
   rw [e1] at ef
   refine aDraw_tail 7 (by kernel_rfl) ?_
   (repeat' (first|refine go ?_|simp only [row_at,hlt,hx] | exact .intro | refine sp (fun _=>?_) fun _=>?_))
   refine callT (fire18_A m t x.1 x.2 hf hp hv.1 hv.2) (.inl (by simp [roL,roA,treeL,treeC])) ?_
   (repeat' (first|refine go ?_ | exact .intro | refine sp (fun _=>?_) fun _=>?_))
   exact rI (wE ef) ⟨k+1,by omega,rfl⟩
  ·rename_i h
   have e1:turnM m event t x=t:=if_neg (by rw [show (x:Bool × Int)=(x.1,x.2) from rfl,h];simp)
   rw [e1] at ef
   exact rI (wE ef) ⟨k+1,by omega,rfl⟩
 ·obtain rfl:k=m.order.length:=by omega
  (repeat' (first|refine go ?_|simp only [row_at,hlt] | exact .intro | refine sp (fun _=>?_) fun _=>?_))
  exact gives_tree (by simp only [AV.ren,AV.renL])
end
end
section
section
open Go.RowKit
def allN (f:Nat → Bool):Nat → Bool
 | 0=>true
 | n+1=>allN f n && f n
def anyN (f:Nat → Bool):Nat → Bool
 | 0=>false
 | n+1=>anyN f n || f n
theorem allN_iff (f:Nat → Bool):∀ n,allN f n=true ↔ ∀ i,i<n → f i=true
 | 0=>by simp [allN]
 | n+1=>by
  rw [allN,Bool.and_eq_true,allN_iff f n]
  constructor
  ·intro ⟨h1,h2⟩ i hi
   rcases Nat.lt_or_ge i n with h|h
   ·exact h1 i h
   ·obtain rfl:i=n:=by omega
    exact h2
  ·exact fun h=>⟨fun i hi=>h i (by omega),h n (by omega)⟩
theorem anyN_iff (f:Nat → Bool):∀ n,anyN f n=true ↔ ∃ i,i<n ∧ f i=true
 | 0=>by simp [anyN]
 | n+1=>by
  rw [anyN,Bool.or_eq_true,anyN_iff f n]
  constructor
  ·rintro (⟨i,h1,h2⟩ | h)
   ·exact ⟨i,by omega,h2⟩
   ·exact ⟨n,by omega,h⟩
  ·rintro ⟨i,h1,h2⟩
   rcases Nat.lt_or_ge i n with h|h
   ·exact .inl ⟨i,h,h2⟩
   ·obtain rfl:i=n:=by omega
    exact .inr h2
theorem allN_no {f:Nat → Bool} {k n:Nat} (hk:k<n) (h:f k=false):allN f n=false:=by
 rw [Bool.eq_false_iff]
 intro h2
 rw [(allN_iff f n).1 h2 k hk] at h
 cases h
theorem anyN_yes {f:Nat → Bool} {k n:Nat} (hk:k<n) (h:f k=true):anyN f n=true:=(anyN_iff f n).2 ⟨k,hk,h⟩
theorem allN_step {f:Nat → Bool} {k:Nat} (h1:allN f k=true) (h:f k=true):allN f (k+1)=true:=by simp [allN,h1,h]
theorem anyN_step {f:Nat → Bool} {k:Nat} (h1:anyN f k=false) (h:f k=false):anyN f (k+1)=false:=by simp [anyN,h1,h]
def firstI (n:Int):Int:=2 ^ (max 0 (min n 31)).toNat - 1
theorem first_A (n:Int):ADet Tryz.prog 114 [eI n] (val (.int .i64 (firstI n))):=by
 refine adet_of_code mixedT Tryz.func114 rfl (by decide) Tryz.ntmps114 Tryz.results114 rfl (val_ok _) ?_
 have h0:¬ (max 0 (min n 31)<0):=by omega
 have h2:(max 0 (min n 31)).toNat≤31:=by omega
 have h1:min (max 0 (min n 31)).toNat IntKind.i64.bits=(max 0 (min n 31)).toNat:=by
  have:IntKind.i64.bits=64:=rfl
  omega
 have hp:(1:Int)≤2 ^ (max 0 (min n 31)).toNat ∧ (2:Int) ^ (max 0 (min n 31)).toNat≤2147483648:=by
  have h3:2 ^ (max 0 (min n 31)).toNat≤2 ^ 31:=Nat.pow_le_pow_right (by omega) h2
  have h4:1≤2 ^ (max 0 (min n 31)).toNat:=Nat.one_le_two_pow
  have e:(2:Int) ^ (max 0 (min n 31)).toNat=((2 ^ (max 0 (min n 31)).toNat:Nat):Int):=by simp
  rw [e]
  omega
 have w1:IntKind.i64.wrap (1 * 2 ^ (max 0 (min n 31)).toNat)=2 ^ (max 0 (min n 31)).toNat:=by
  rw [Int.one_mul]
  exact wrap_in (by omega) (by omega)
 have w2:IntKind.i64.wrap (2 ^ (max 0 (min n 31)).toNat - 1)=2 ^ (max 0 (min n 31)).toNat - 1:=wrap_in (by omega) (by omega)
 unfold firstI
 (repeat' (first|refine ge (kf h0 (kf h1 (kf w1 w2))) ?_ | exact .intro | refine sp (fun _=>?_) fun _=>?_))
def ofB (s n:Int):Bool:=decide (0≤s) && decide (s≤firstI n)
theorem of_A (s n:Int):ADet Tryz.prog 84 [eI s,eI n] (val (.bool (ofB s n))):=by
 refine adet_of_code mixedT Tryz.func84 rfl (by decide) Tryz.ntmps84 Tryz.results84 rfl (val_ok _) ?_
 unfold ofB
 (repeat' (first|refine go ?_ | exact .intro | refine sp (fun _=>?_) fun _=>?_|(with_reducible refine aDraw_quiet (by kernel_rfl) ?_)|((with_reducible first|apply callV (g:=114)|apply callD (g:=114));exact (first_A _))))
 all_goals simp [*]
def chkAt (m:Mod) (s:St) (i:Nat):Bool:=ofB (s.did.getD i 0) m.users.length && decide (0≤s.cnt.getD i 0) && decide (s.cnt.getD i 0≤(m.events[i]?.map (·.times)).getD 0)
def chkS (m:Mod) (s:St):Bool:=decide (s.vals.length=m.attrs.length) && decide (s.did.length=m.events.length) && decide (s.cnt.length=m.events.length) && ofB s.opn m.stages.length && ofB s.don m.miles.length && allN (chkAt m s) m.events.length
theorem checkS_A (m:Mod) (s:St) (hl:m.events.length≤1000000):ADet Tryz.prog 49 [.agg (eMod m),.agg (eSt s)] (val (.bool (chkS m s))):=by
 refine adet_of_code mixedT Tryz.func49 rfl (by decide) Tryz.ntmps49 Tryz.results49 rfl (val_ok _) ?_
 (repeat' (first|refine go ?_ | exact .intro | refine sp (fun _=>?_) fun _=>?_|(with_reducible refine aDraw_quiet (by kernel_rfl) ?_)|((with_reducible first|apply callV (g:=84)|apply callD (g:=84));exact (of_A _ _))))
 all_goals first
  | (symm;unfold chkS;grind)
  | skip
 rename_i h1 h2 h3 h4 h5
 have h2:s.did.length=m.events.length:=by simp at h2;omega
 have h3:s.cnt.length=m.events.length:=by simp at h3;omega
 have hall:chkS m s=allN (chkAt m s) m.events.length:=by unfold chkS;grind
 rw [hall]
 refine aLoop_of (fun st=>∃ k:Nat,k≤m.events.length ∧ allN (chkAt m s) k=true ∧ st=⟨87,[(2,.op 0 0 0),(3,.op 1 0 0),(51,.sl 5 (m.events.map eEv)),(52,eI (m.events.length:Int)),(53,eI (k:Int))],[(0,some (.box 32 (eMod m))),(1,some (.box 69 (eSt s)))],2⟩) (fun st=>m.events.length - slotN st 53) ⟨_,wC,0,Nat.zero_le _,rfl,rfl⟩ ?_
 rintro _ ⟨k,hk,hI,rfl⟩
 by_cases hlt:k<m.events.length
 ·have hd:k<s.did.length:=by omega
  have hc:k<s.cnt.length:=by omega
  have eF:chkAt m s k=(ofB s.did[k] m.users.length && decide (0≤s.cnt[k]) && decide (s.cnt[k]≤m.events[k].times)):=by simp [chkAt,hd,hc,hlt]
  (repeat' (first|refine go ?_|simp only [row_at,hlt,hd,hc] | exact .intro | refine sp (fun _=>?_) fun _=>?_|(with_reducible refine aDraw_quiet (by kernel_rfl) ?_)|((with_reducible first|apply callV (g:=84)|apply callD (g:=84));exact (of_A _ _))))
  all_goals first
   | (symm;refine allN_no hlt ?_;rw [eF];grind)
   | exact rI wC ⟨k+1,by omega,allN_step hI (by rw [eF];grind),rfl⟩
 ·obtain rfl:k=m.events.length:=by omega
  (repeat' (first|refine ge @hlt ?_ | exact .intro | refine sp (fun _=>?_) fun _=>?_|(with_reducible refine aDraw_quiet (by kernel_rfl) ?_)))
  exact hI.symm
def completeAt (m:Mod) (s:St) (k:Nat):Bool:=(m.miles[k]?.map (·.final)).getD false && hasB s.don (k:Int)
def completeM (m:Mod) (s:St):Bool:=anyN (completeAt m s) m.miles.length
theorem complete_A (m:Mod) (s:St) (hl:m.miles.length≤1000000):ADet Tryz.prog 145 [.agg (eMod m),.agg (eSt s)] (val (.bool (completeM m s))):=by
 refine adet_of_code mixedT Tryz.func145 rfl (by decide) Tryz.ntmps145 Tryz.results145 rfl (val_ok _) ?_
 (repeat' (first|refine go ?_ | exact .intro | refine sp (fun _=>?_) fun _=>?_|(with_reducible refine aDraw_quiet (by kernel_rfl) ?_)))
 unfold completeM
 refine aLoop_of (fun st=>∃ k:Nat,k≤m.miles.length ∧ anyN (completeAt m s) k=false ∧ st=⟨24,[(2,.op 0 0 0),(3,.op 1 0 0),(8,.sl 5 (m.miles.map eMl)),(9,eI (m.miles.length:Int)),(10,eI (k:Int))],[(0,some (.box 32 (eMod m))),(1,some (.box 69 (eSt s)))],2⟩) (fun st=>m.miles.length - slotN st 10) ⟨_,wC,0,Nat.zero_le _,rfl,rfl⟩ ?_
 rintro _ ⟨k,hk,hI,rfl⟩
 by_cases hlt:k<m.miles.length
 ·have eF:completeAt m s k=(m.miles[k].final && hasB s.don (k:Int)):=by simp [completeAt,hlt]
  (repeat' (first|refine go ?_|simp only [row_at,hlt] | exact .intro | refine sp (fun _=>?_) fun _=>?_|(with_reducible refine aDraw_quiet (by kernel_rfl) ?_)|((with_reducible first|apply callV (g:=139)|apply callD (g:=139));exact (has_A _ _))))
  all_goals first
   | (symm;refine anyN_yes hlt ?_;rw [eF];grind)
   | exact rI wC ⟨k+1,by omega,anyN_step hI (by rw [eF];grind),rfl⟩
 ·obtain rfl:k=m.miles.length:=by omega
  (repeat' (first|refine ge @hlt ?_ | exact .intro | refine sp (fun _=>?_) fun _=>?_|(with_reducible refine aDraw_quiet (by kernel_rfl) ?_)))
  exact hI.symm
def atI (l:List Int) (i:Int):Int:=if 0≤i ∧ i<(l.length:Int) then l.getD i.toNat 0 else 0
theorem at_A (l:List Int) (i:Int):ADet Tryz.prog 147 [sI l,eI i] (val (.int .i64 (atI l i))):=by
 refine adet_of_code mixedT Tryz.func147 rfl (by decide) Tryz.ntmps147 Tryz.results147 rfl (val_ok _) ?_
 unfold atI
 by_cases h:0≤i ∧ i<(l.length:Int)
 ·obtain ⟨k,rfl⟩:∃ k:Nat,i=(k:Int):=⟨i.toNat,by omega⟩
  have hk:k<l.length:=by omega
  rw [if_pos h]
  (repeat' (first|refine go ?_|simp only [row_at,hk] | exact .intro | refine sp (fun _=>?_) fun _=>?_))
  all_goals grind
 ·rw [if_neg h]
  (repeat' (first|refine go ?_ | exact .intro | refine sp (fun _=>?_) fun _=>?_))
  rename_i h1 h2
  simp at h1 h2
  omega
def ofR (m:Mod) (role user:Int):Bool:=decide (0≤role) && decide (role<(m.roles.length:Int)) && decide (0≤user) && decide (user<(m.users.length:Int)) && ((m.roles[role.toNat]?).map (fun p=>hasB p.2 user)).getD false
theorem ofR_A (m:Mod) (role user:Int):ADet Tryz.prog 146 [.agg (eMod m),eI role,eI user] (val (.bool (ofR m role user))):=by
 refine adet_of_code mixedT Tryz.func146 rfl (by decide) Tryz.ntmps146 Tryz.results146 rfl (val_ok _) ?_
 by_cases h:0≤role ∧ role<(m.roles.length:Int)
 ·obtain ⟨k,rfl⟩:∃ k:Nat,role=(k:Int):=⟨role.toNat,by omega⟩
  have hk:k<m.roles.length:=by omega
  have eR:ofR m k user=(decide (0≤user) && decide (user<(m.users.length:Int)) && hasB m.roles[k].2 user):=by simp [ofR,hk]
  rw [eR]
  (repeat' (first|refine go ?_|simp only [row_at,hk] | exact .intro | refine sp (fun _=>?_) fun _=>?_|(with_reducible refine aDraw_quiet (by kernel_rfl) ?_)|((with_reducible first|apply callV (g:=139)|apply callD (g:=139));exact (has_A _ _))))
  all_goals grind
 ·have eR:ofR m role user=false:=by
   have:(decide (0≤role) && decide (role<(m.roles.length:Int)))=false:=by
    rw [Bool.and_eq_false_iff]
    simp only [decide_eq_false_iff_not]
    omega
   simp [ofR,this]
  rw [eR]
  (repeat' (first|refine go ?_ | exact .intro | refine sp (fun _=>?_) fun _=>?_|(with_reducible refine aDraw_quiet (by kernel_rfl) ?_)))
  all_goals first
   | rfl
   | (exfalso;grind)
def apartAt (m:Mod) (s:St) (event user:Int) (k:Nat):Bool:=((m.sods[k]?).map (fun x=>((x.1 == event) && hasB (atI s.did x.2) user) || ((x.2 == event) && hasB (atI s.did x.1) user))).getD false
def apartM (m:Mod) (s:St) (event user:Int):Bool:=anyN (apartAt m s event user) m.sods.length
theorem apart_A (m:Mod) (s:St) (event user:Int) (hl:m.sods.length≤1000000):ADet Tryz.prog 116 [.agg (eMod m),.agg (eSt s),eI event,eI user] (val (.bool (apartM m s event user))):=by
 refine adet_of_code mixedT Tryz.func116 rfl (by decide) Tryz.ntmps116 Tryz.results116 rfl (val_ok _) ?_
 (repeat' (first|refine go ?_ | exact .intro | refine sp (fun _=>?_) fun _=>?_|(with_reducible refine aDraw_quiet (by kernel_rfl) ?_)))
 unfold apartM
 refine aLoop_of (fun st=>∃ k:Nat,k≤m.sods.length ∧ anyN (apartAt m s event user) k=false ∧ st=⟨47,[(2,eI event),(3,eI user),(4,.op 0 0 0),(5,.op 1 0 0),(12,.sl 2 (m.sods.map eII)),(13,eI (m.sods.length:Int)),(14,eI (k:Int))],[(0,some (.box 32 (eMod m))),(1,some (.box 69 (eSt s)))],2⟩) (fun st=>m.sods.length - slotN st 14) ⟨_,wC,0,Nat.zero_le _,rfl,rfl⟩ ?_
 rintro _ ⟨k,hk,hI,rfl⟩
 by_cases hlt:k<m.sods.length
 ·obtain ⟨⟨a,b⟩,hx⟩:∃ x,m.sods[k]=x:=⟨_,rfl⟩
  have ex:eII m.sods[k]=[eI a,eI b]:=by rw [hx]
  have eF:apartAt m s event user k=(((a == event) && hasB (atI s.did b) user) || ((b == event) && hasB (atI s.did a) user)):=by simp [apartAt,hlt,hx]
  (repeat' (first|refine go ?_|simp only [row_at,hlt,ex] | exact .intro | refine sp (fun _=>?_) fun _=>?_|(with_reducible refine aDraw_quiet (by kernel_rfl) ?_)|((with_reducible first|apply callV (g:=139)|apply callD (g:=139));exact (has_A _ _))|((with_reducible first|apply callV (g:=147)|apply callD (g:=147));exact (at_A _ _))))
  all_goals first
   | (symm;refine anyN_yes hlt ?_;rw [eF];grind)
   | exact rI wC ⟨k+1,by omega,anyN_step hI (by rw [eF];grind),rfl⟩
   | trace_state
 ·obtain rfl:k=m.sods.length:=by omega
  (repeat' (first|refine ge @hlt ?_ | exact .intro | refine sp (fun _=>?_) fun _=>?_|(with_reducible refine aDraw_quiet (by kernel_rfl) ?_)))
  exact hI.symm
noncomputable def evAt (m:Mod) (event:Int):Option Ev:=if 0≤event then m.events[event.toNat]? else none
noncomputable def freeM (m:Mod) (s:St) (event user:Int):Bool:=
 match evAt m event with
 | none=>false
 | some x=>!completeM m s && decide (x.stage<(m.stages.length:Int)) && hasB s.opn x.stage && ofR m x.role user && (decide (x.times≤0) || decide (atI s.cnt event<x.times))
theorem free_A (m:Mod) (s:St) (event user:Int) (hl:m.miles.length≤1000000):ADet Tryz.prog 115 [.agg (eMod m),.agg (eSt s),eI event,eI user] (val (.bool (freeM m s event user))):=by
 refine adet_of_code mixedT Tryz.func115 rfl (by decide) Tryz.ntmps115 Tryz.results115 rfl (val_ok _) ?_
 by_cases h:0≤event ∧ event<(m.events.length:Int)
 ·obtain ⟨k,rfl⟩:∃ k:Nat,event=(k:Int):=⟨event.toNat,by omega⟩
  have hk:k<m.events.length:=by omega
  obtain ⟨x,hx⟩:∃ x,m.events[k]=x:=⟨_,rfl⟩
  have ee:evAt m (k:Int)=some x:=by simp [evAt,hk,hx]
  have eR:freeM m s k user=(!completeM m s && decide (x.stage<(m.stages.length:Int)) && hasB s.opn x.stage && ofR m x.role user && (decide (x.times≤0) || decide (atI s.cnt k<x.times))):=by simp only [freeM,ee]
  rw [eR]
  (repeat' (first|refine go ?_|simp only [row_at,hk,hx] | exact .intro | refine sp (fun _=>?_) fun _=>?_|(with_reducible refine aDraw_quiet (by kernel_rfl) ?_)|((with_reducible first|apply callV (g:=139)|apply callD (g:=139));exact (has_A _ _))|((with_reducible first|apply callV (g:=145)|apply callD (g:=145));exact (complete_A _ _ hl))|((with_reducible first|apply callV (g:=146)|apply callD (g:=146));exact (ofR_A _ _ _))|((with_reducible first|apply callV (g:=147)|apply callD (g:=147));exact (at_A _ _))))
  all_goals first
   | grind
   | trace_state
 ·have ee:evAt m event=none:=by
   unfold evAt
   split
   ·exact List.getElem?_eq_none (by omega)
   ·rfl
  have eR:freeM m s event user=false:=by simp only [freeM,ee]
  rw [eR]
  (repeat' (first|refine go ?_ | exact .intro | refine sp (fun _=>?_) fun _=>?_|(with_reducible refine aDraw_quiet (by kernel_rfl) ?_)|((with_reducible first|apply callV (g:=145)|apply callD (g:=145));exact (complete_A _ _ hl))))
  all_goals first
   | rfl
   | (exfalso;grind)
noncomputable def enabledM (m:Mod) (s:St) (event user:Int):Bool:=freeM m s event user && !apartM m s event user
theorem enabled_A (m:Mod) (s:St) (event user:Int) (hl:m.miles.length≤1000000) (hl2:m.sods.length≤1000000):ADet Tryz.prog 85 [.agg (eMod m),.agg (eSt s),eI event,eI user] (val (.bool (enabledM m s event user))):=by
 refine adet_of_code mixedT Tryz.func85 rfl (by decide) Tryz.ntmps85 Tryz.results85 rfl (val_ok _) ?_
 unfold enabledM
 (repeat' (first|refine go ?_ | exact .intro | refine sp (fun _=>?_) fun _=>?_|(with_reducible refine aDraw_quiet (by kernel_rfl) ?_)|((with_reducible first|apply callV (g:=115)|apply callD (g:=115));exact (free_A _ _ _ _ hl))|((with_reducible first|apply callV (g:=116)|apply callD (g:=116));exact (apart_A _ _ _ _ hl2))))
 all_goals grind
def filtN (f:Nat → Bool):Nat → List Int
 | 0=>[]
 | n+1=>if f n=true then filtN f n ++ [(n:Int)] else filtN f n
theorem filtN_len (f:Nat → Bool):∀ n,(filtN f n).length≤n
 | 0=>by simp [filtN]
 | n+1=>by
  have:=filtN_len f n
  unfold filtN
  split
  ·simp;omega
  ·omega
noncomputable def whoM (m:Mod) (s:St) (event:Int):List Int:=filtN (fun u=>enabledM m s event (u:Int)) m.users.length
theorem who_A (m:Mod) (s:St) (event:Int) (hl:m.miles.length≤1000000) (hl2:m.sods.length≤1000000) (hl3:m.users.length≤1000000):ADet Tryz.prog 50 [.agg (eMod m),.agg (eSt s),eI event] (own 3 1 ((whoM m s event).map fun n=>[eI n])):=by
 refine adet_of_code mixedT Tryz.func50 rfl (by decide) Tryz.ntmps50 Tryz.results50 rfl (own_ok _ _ _) ?_
 (repeat' (first|refine go ?_ | exact .intro | refine sp (fun _=>?_) fun _=>?_))
 unfold whoM
 obtain ⟨f,hf⟩:∃ f:Nat → Bool,f=fun u:Nat=>enabledM m s event (u:Int):=⟨_,rfl⟩
 rw [← hf]
 have e0:filtN f 0=[]:=rfl
 refine aLoop_of (fun st=>∃ k:Nat,k≤m.users.length ∧ st=⟨26,[(2,eI event),(3,.op 0 0 0),(4,.op 1 0 0),(7,.osl 2),(11,eI (m.users.length:Int)),(12,eI (k:Int))],[(0,some (.box 32 (eMod m))),(1,some (.box 69 (eSt s))),(2,some (.row 3 1 ((filtN f k).map fun n=>[eI n])))],3⟩) (fun st=>m.users.length - slotN st 12) ⟨_,((weak_nil 7 3 1 (by simp only [ruW,ASt.get,aget,ASt.put,↓reduceIte,reduceCtorEq,Nat.reduceLT,Nat.reduceEqDiff,Nat.reduceAdd,Nat.reduceLeDiff,eq_self,implies_true,e0,List.map_nil])).trans (wS [0,1,2] e0)),0,Nat.zero_le _,rfl⟩ ?_
 rintro _ ⟨k,hk,rfl⟩
 have hlen:=filtN_len f k
 by_cases hlt:k<m.users.length
 ·have hef:enabledM m s event (k:Int)=f k:=by rw [hf]
  (repeat' (first|refine ge @hlt ?_ | exact .intro | refine sp (fun _=>?_) fun _=>?_|(with_reducible refine aDraw_quiet (by kernel_rfl) ?_) | ((refine callV (enabled_A m s event (k:Int) hl hl2) ?_;rw [hef]))))
  ·rename_i h
   have et:(filtN f (k+1)).map (fun n=>[eI n])=(filtN f k).map (fun n=>[eI n]) ++ [[eI (k:Int)]]:=by
    rw [filtN,if_pos h]
    simp
   refine ⟨rfl,by omega,rI (wS [0,1,4] et) ⟨k+1,by omega,rfl⟩⟩
  ·rename_i h
   have et:filtN f (k+1)=filtN f k:=by
    rw [filtN,if_neg (by simp [h])]
   exact rI (wE et) ⟨k+1,by omega,rfl⟩
 ·obtain rfl:k=m.users.length:=by omega
  (repeat' (first|refine ge @hlt ?_ | exact .intro | refine sp (fun _=>?_) fun _=>?_|(with_reducible refine aDraw_quiet (by kernel_rfl) ?_)))
  exact aGives_own (by simp [ATab.get_cons])
end
section
open Go.RowKit
section
variable {P:Program} {f:FuncId} {args:List AV}
theorem res_frz {cx:Cx} {w':World} {L:Nat → Value} {v:Value} {R:Res} (h5:R.Ok) (h7:Lay cx w' R.tab L) (h8:RVx cx w' R.tab L v R.r) (id:Nat):(R.frz id).Ok ∧ Lay cx w' (R.frz id).tab L ∧ RVx cx w' (R.frz id).tab L v (R.frz id).r:=by
 unfold Res.frz
 split
 ·rename_i e' sz rows hid
  obtain ⟨h9,h10⟩:=frz_core h7 (fun k o hk=>(h5.young k o hk).2) hid
  refine ⟨⟨fun k o hk=>?_,frz_lt h5.lt⟩,h9,h10 v _ h8 h5.lt⟩
  simp only [ATab.get_cons,frzTab_get] at hk
  split at hk
  ·cases hk
  ·cases hg:R.tab.get k with
   | none=>simp [hg] at hk
   | some o'=>
    simp [hg] at hk
    subst hk
    exact ⟨(h5.young k o' hg).1,frz_obj_lt (h5.young k o' hg).2⟩
 ·exact ⟨h5,h7,h8⟩
theorem res_frzs {cx:Cx} {w':World} {L:Nat → Value} {v:Value}:∀ (ids:List Nat) {R:Res},R.Ok → Lay cx w' R.tab L → RVx cx w' R.tab L v R.r → (R.frzs ids).Ok ∧ Lay cx w' (R.frzs ids).tab L ∧ RVx cx w' (R.frzs ids).tab L v (R.frzs ids).r
 | [],R,h1,h2,h3=>⟨h1,h2,h3⟩
 | id :: ids,R,h1,h2,h3=>by
  obtain ⟨h4,h5,h6⟩:=res_frz h1 h2 h3 id
  exact res_frzs ids h4 h5 h6
inductive FitsT:AV → AV → Prop
 | one {a b:AV} (h:FitsA a b):FitsT a b
 | tup {l l':List AV} (h:FitsAs l l'):FitsT (.tup l) (.tup l')
theorem rt_of_rv {w:World} {S:Nat → Prop} {K:Nat → Option (Nat × Value)} {x:Value} {av:AV} (h:RV w S K x av):av.lt 0 → RT w S x av:=by
 induction h with
 | tree h=>exact fun _=>h
 | osl x id h=>exact fun h2=>by simp [AV.lt] at h2
 | op x id i j h=>exact fun h2=>by simp [AV.lt] at h2
 | agg xs cs hn hr ih=>
  intro h2
  simp only [AV.lt] at h2
  exact .agg xs cs hn fun j x av h3 h4=>ih j x av h3 h4 (ltL_iff.1 h2 av (List.mem_of_getElem? h4))
 | tup xs cs hn hr ih=>
  intro h2
  simp only [AV.lt] at h2
  exact .tup xs cs hn fun j x av h3 h4=>ih j x av h3 h4 (ltL_iff.1 h2 av (List.mem_of_getElem? h4))
 | fn f xs cs hn hr ih=>
  intro h2
  simp only [AV.lt] at h2
  exact .fn f xs cs hn fun j x av h3 h4=>ih j x av h3 h4 (ltL_iff.1 h2 av (List.mem_of_getElem? h4))
 | bfn f xs cs hn hr ih=>
  intro h2
  simp only [AV.lt] at h2
  exact .bfn f xs cs hn fun j x av h3 h4=>ih j x av h3 h4 (ltL_iff.1 h2 av (List.mem_of_getElem? h4))
theorem RT.tup_inv {w:World} {S:Nat → Prop} {x:Value} {cs:List AV} (h:RT w S x (.tup cs)):∃ xs:Array Value,x=.tuple xs ∧ xs.size=cs.length ∧ ∀ (j:Nat) (x:Value) (av:AV),xs[j]? = some x → cs[j]? = some av → RT w S x av:=by
 cases h with
 | tup xs _ hn hr=>exact ⟨xs,rfl,hn,hr⟩
theorem FitsT.rt {w:World} {S:Nat → Prop} {v:Value} {a b:AV} (h:FitsT a b) (hr:RT w S v a):RT w S v b:=by
 cases h with
 | one h=>exact h.rt hr
 | @tup l l' h=>
  obtain ⟨xs,rfl,hn,hx⟩:=hr.tup_inv
  obtain ⟨h1,h2⟩:=h.spec
  refine .tup xs l' (by omega) fun j x av h3 h4=>?_
  have hj:j<l.length:=by
   have:=(List.getElem?_eq_some_iff.1 h4).1
   omega
  have h5:l[j]? = some l[j]:=List.getElem?_eq_getElem hj
  exact (h2 j _ av h5 h4).rt (hx j x _ h3 h5)
theorem tab_ok {R:Res} (h1:tabLt R.n R.tab) (h2:R.r.lt R.n):R.Ok:=by
 refine ⟨?_,h2⟩
 revert h1
 generalize R.tab=T
 induction T with
 | nil=>exact fun _ id o h=>by cases h
 | cons p T ih=>
  obtain ⟨k,ob⟩:=p
  intro h1 id o h
  rw [ATab.get_cons] at h
  cases ob with
  | none=>
   simp only [tabLt] at h1
   split at h
   ·cases h
   ·exact ih h1 id o h
  | some ob=>
   simp only [tabLt] at h1
   split at h
   ·rename_i e
    cases h
    exact ⟨by rw [e];exact h1.1.1,h1.1.2⟩
   ·exact ih h1.2 id o h
theorem ARel.tree {Post:Res → Prop} {r':AV} (h:ARel P f args Post) (hl:r'.lt 0) (hp:∀ R,Post R → ∃ ids,(R.frzs ids).r.lt 0 ∧ FitsT (R.frzs ids).r r'):ADet P f args ⟨r',[],0⟩:=
 ⟨h.1,fun S w vs h1 h2 h3=>(h.2 S w vs h1 h2 h3).mono fun e w' ⟨v,L,R,h4,h5,h6,h7,h8⟩=>by
  obtain ⟨ids,ha,hc⟩:=hp R h4
  obtain ⟨h9,h10,h11⟩:=res_frzs ids h5 h7 h8
  have hext:Ext (Cx.mk0 S w h1) w' (R.frzs ids).tab L 0 w' [] L:=⟨fun _ _=>rfl,fun b hb=>⟨hb.1,hb.2.1,fun k o hk=>(by cases hk)⟩,fun k p _ hk=>by simp [Kx,ATab.get] at hk⟩
  have h12:=rt_of_rv (hext.rv h11 ha) ha
  exact ⟨v,L,⟨r',[],0⟩,rfl,⟨fun id o hk=>(by cases hk),hl⟩,h6,⟨h10.below,fun id o hk=>(by cases hk),fun id id' o o' g hk=>(by cases hk),fun b hb=>hb.elim⟩,.tree (hc.rt h12)⟩⟩
end
theorem adet_own_nil {P:Program} {f:FuncId} {args:List AV} {e:TypeId} {sz:Nat} {rows:List (List AV)} (h:ARel P f args fun R=>R=own e sz rows ∨ (R=val (.slice none 0 0) ∧ rows=[])):ADet P f args ⟨.sl sz rows,[],0⟩:=
 h.tree (by simp [AV.lt]) fun R hR=>by
  rcases hR with rfl|⟨rfl,rfl⟩
  ·refine ⟨[0],?_⟩
   have e:((own e sz rows).frzs [0]).r=.sl sz rows:=by simp [Res.frzs,Res.frz,own,ATab.get_cons,AV.frz]
   rw [e]
   exact ⟨trivial,.one (.one (.refl _))⟩
  ·exact ⟨[],trivial,.one (.one (.nil sz))⟩
theorem clone64_A (l:List Int) (hl:l.length≤1000000):ADet Tryz.prog 83 [sI l] ⟨sI l,[],0⟩:=by
 refine adet_own_nil (e:=2) ?_
 refine arel_of_code mixedT Tryz.func83 rfl (by decide) Tryz.ntmps83 Tryz.results83 rfl ?_
 (repeat' (first|refine go ?_ | exact .intro | refine sp (fun _=>?_) fun _=>?_))
 intro c hc
 cases c with
 | true=>
  (repeat' (first|refine go ?_ | exact .intro | refine sp (fun _=>?_) fun _=>?_))
  exact retV (.inr ⟨rfl,hc rfl⟩)
 | false=>
  (repeat' (first|refine go ?_ | exact .intro | refine sp (fun _=>?_) fun _=>?_))
  exact ⟨rfl,by omega,retO rfl (.inl rfl)⟩
theorem ownI_A (l:List Int) (hl:l.length≤1000000):ADet Tryz.prog 90 [sI l] (own 3 1 (l.map fun n=>[eI n])):=by
 refine adet_of_code mixedT Tryz.func90 rfl (by decide) Tryz.ntmps90 Tryz.results90 rfl (own_ok _ _ _) ?_
 (repeat' (first|refine go ?_ | exact .intro | refine sp (fun _=>?_) fun _=>?_))
 exact ⟨rfl,by omega,aGives_own (by simp [ATab.get_cons,List.take_of_length_le])⟩
theorem ownI64_A (l:List Int) (hl:l.length≤1000000):ADet Tryz.prog 89 [sI l] (own 2 1 (l.map fun n=>[eI n])):=by
 refine adet_of_code mixedT Tryz.func89 rfl (by decide) Tryz.ntmps89 Tryz.results89 rfl (own_ok _ _ _) ?_
 (repeat' (first|refine go ?_ | exact .intro | refine sp (fun _=>?_) fun _=>?_))
 exact ⟨rfl,by omega,aGives_own (by simp [ATab.get_cons,List.take_of_length_le])⟩
def startS (m:Mod):St:=⟨m.inits,0,0,List.replicate m.events.length 0,List.replicate m.events.length 0⟩
def startR (m:Mod):Res:=⟨.agg [sI m.inits,eI 0,eI 0,.osl 0,.osl 1],[(0,some (.row 3 1 ((List.replicate m.events.length 0).map fun n=>[eI n]))),(1,some (.row 3 1 ((List.replicate m.events.length 0).map fun n=>[eI n])))],2⟩
theorem startR_ok (m:Mod):(startR m).Ok:=tab_ok (by simp [startR,tabLt,AObj.lt,AV.ltL,AV.lt]) (by simp [startR,AV.lt,AV.ltL])
theorem start_A (m:Mod) (hl:m.inits.length≤1000000) (hl2:m.events.length≤1000000):ADet Tryz.prog 48 [.agg (eMod m)] ⟨.agg (eSt (startS m)),[],0⟩:=by
 refine ADet.still (R:=startR m) [0,1] ?_ ?_ (by simp [AV.lt,AV.ltL])
 ·refine adet_of_code mixedT Tryz.func48 rfl (by decide) Tryz.ntmps48 Tryz.results48 rfl (startR_ok _) ?_
  (repeat' (first|refine go ?_ | exact .intro | refine sp (fun _=>?_) fun _=>?_))
  refine aDraw_held [1] [0,1,3,4,5,7,8,9] (.three 2 (.two 6 (.exec 10 (.take 11 (.exec 12 .done))) 10 (.exec 6 (.take 11 (.exec 12 .done)))) 6 (.two 2 (.exec 10 (.take 11 (.exec 12 .done))) 10 (.exec 2 (.take 11 (.exec 12 .done)))) 10 (.two 2 (.exec 6 (.take 11 (.exec 12 .done))) 6 (.exec 2 (.take 11 (.exec 12 .done))))) (by kernel_rfl) (by simp [ATab.get_cons]) ?_
  (repeat' (first|refine go ?_ | exact .intro | refine sp (fun _=>?_) fun _=>?_|(with_reducible refine aDraw_quiet (by kernel_rfl) ?_) | ((with_reducible apply callT (g:=83));exact (clone64_A _ hl);exact (.inl (by simp [roL,roA,treeL,treeC]))) | (with_reducible apply And.intro)))
  all_goals first
   | omega
   | exact ⟨[2,3],by decide,rfl,by simp [aTabs,startR,ATab.get_cons]⟩
   | exact ⟨[3,2],by decide,rfl,by simp [aTabs,startR,ATab.get_cons]⟩
   | trace_state
 ·simp [startR,startS,Res.frzs,Res.frz,ATab.get_cons,AV.frz,AV.frzL,frzTab,AObj.frz]
end
section
open Go.RowKit
structure Mv where
 event:Int
 user:Int
 vals:List Int
abbrev eMv (v:Mv):List AV:=[eI v.event,eI v.user,sI v.vals]
abbrev sMvs (l:List Mv):AV:=.sl 3 (l.map eMv)
def sameMv (a b:Mv):Bool:=(a.event == b.event) && (a.user == b.user) && decide (a.vals=b.vals)
def sameMvAt (a b:List Mv) (i:Nat):Bool:=match a[i]?,b[i]? with
 | some x,some y=>sameMv x y
 | _,_=>false
def sameMvs (a b:List Mv):Bool:=decide (a.length=b.length) && allN (sameMvAt a b) a.length
theorem sameMvs_A (a b:List Mv) (hl:a.length≤1000000) (hv:∀ x ∈ a,x.vals.length≤1000000):ADet Tryz.prog 9 [sMvs a,sMvs b] (val (.bool (sameMvs a b))):=by
 refine adet_of_code mixedT Tryz.func9 rfl (by decide) Tryz.ntmps9 Tryz.results9 rfl (val_ok _) ?_
 (repeat' (first|refine go ?_ | exact .intro | refine sp (fun _=>?_) fun _=>?_|(with_reducible refine aDraw_quiet (by kernel_rfl) ?_)))
 ·rename_i h
  have:¬ a.length=b.length:=by simp at h;omega
  simp [sameMvs,this]
 ·rename_i h
  have h:a.length=b.length:=by simp at h;omega
  have hall:sameMvs a b=allN (sameMvAt a b) a.length:=by simp [sameMvs,h]
  rw [hall]
  refine aLoop_of (fun st=>∃ k:Nat,k≤a.length ∧ allN (sameMvAt a b) k=true ∧ st=⟨55,[(0,sMvs a),(1,sMvs b),(5,eI (k:Int))],[],0⟩) (fun st=>a.length - slotN st 5) ⟨_,wC,0,Nat.zero_le _,rfl,rfl⟩ ?_
  rintro _ ⟨k,hk,hI,rfl⟩
  by_cases hlt:k<a.length
  ·have hlt2:k<b.length:=by omega
   have eF:sameMvAt a b k=sameMv a[k] b[k]:=by simp [sameMvAt,hlt,hlt2]
   have hva:=hv _ (List.getElem_mem hlt)
   generalize hx:a[k]=x at eF hva
   generalize hy:b[k]=y at eF
   obtain ⟨p1,p2,p3⟩:=x
   obtain ⟨q1,q2,q3⟩:=y
   have ex:eMv a[k]=[eI p1,eI p2,sI p3]:=by rw [hx]
   have ey:eMv b[k]=[eI q1,eI q2,sI q3]:=by rw [hy]
   (repeat' (first|refine go ?_|simp only [row_at,hlt,hlt2,ex,ey] | exact .intro | refine sp (fun _=>?_) fun _=>?_|(with_reducible refine aDraw_quiet (by kernel_rfl) ?_)|((with_reducible first|apply callV (g:=27)|apply callD (g:=27));exact (same03_A _ _ hva))))
   all_goals first
    | (symm;refine allN_no hlt ?_;rw [eF];unfold sameMv;dsimp only;grind)
    | exact rI wC ⟨k+1,by omega,allN_step hI (by rw [eF];unfold sameMv;dsimp only;grind),rfl⟩
    | trace_state
  ·obtain rfl:k=a.length:=by omega
   (repeat' (first|refine ge @hlt ?_ | exact .intro | refine sp (fun _=>?_) fun _=>?_|(with_reducible refine aDraw_quiet (by kernel_rfl) ?_)))
   exact hI.symm
def idleM (v:Mv):Bool:=(v.event == -1) && (v.user == -1) && decide (v.vals.length=0)
theorem idle_A (v:Mv):ADet Tryz.prog 55 [.agg (eMv v)] (val (.bool (idleM v))):=by
 refine adet_of_code mixedT Tryz.func55 rfl (by decide) Tryz.ntmps55 Tryz.results55 rfl (val_ok _) ?_
 unfold idleM
 (repeat' (first|refine go ?_ | exact .intro | refine sp (fun _=>?_) fun _=>?_|(with_reducible refine aDraw_quiet (by kernel_rfl) ?_)))
 all_goals grind
def beginM (m:Mod):St:=passM m (-1) (startS m) m.order.length
theorem begin_A (m:Mod) (hf:Fit m) (hc:condOk m) (hp:∀ p ∈ m.stages,ok64 p.2) (hi:∀ x ∈ m.inits,ok64 x):ADet Tryz.prog 20 [.agg (eMod m)] ⟨.agg (eSt (beginM m)),[],0⟩:=by
 refine adet_of_code mixedT Tryz.func20 rfl (by decide) Tryz.ntmps20 Tryz.results20 rfl (stOk _) ?_
 obtain ⟨-,-,-,hel,-,-,-,-,-,hil⟩:=id hf.sizes
 (repeat' (first|refine go ?_ | exact .intro | refine sp (fun _=>?_) fun _=>?_))
 refine aDraw_held [1] [0,1] (.exec 2 (.exec 3 (.exec 4 .done))) (by kernel_rfl) (by simp [ATab.get_cons]) ?_
 (repeat' (first|refine go ?_ | exact .intro | refine sp (fun _=>?_) fun _=>?_|(with_reducible refine aDraw_quiet (by kernel_rfl) ?_) | ((with_reducible apply callT (g:=48));exact (start_A _ (by omega) (by omega));exact (.inl (by simp [roL,roA,treeL,treeC]))) | ((with_reducible apply callT (g:=47));exact (pass_A m (startS m) (-1) hf hc hp hi);exact (.inl (by simp [roL,roA,treeL,treeC])))))
 exact gives_tree (by simp [AV.ren,AV.renL,beginM])
theorem start15_A (m:Mod) (hl:m.inits.length≤1000000) (hl2:m.events.length≤1000000):ADet Tryz.prog 58 [.agg (eMod m)] ⟨.agg (eSt (startS m)),[],0⟩:=by
 refine ADet.still (R:=⟨.agg [.osl 2,eI 0,eI 0,.osl 0,.osl 1],(2,some (.row 2 1 (m.inits.map fun n=>[eI n]))) :: (startR m).tab,3⟩) [0,1,2] ?_ ?_ (by simp [AV.lt,AV.ltL])
 ·refine adet_of_code mixedT Tryz.func58 rfl (by decide) Tryz.ntmps58 Tryz.results58 rfl (tab_ok (by simp [startR,tabLt,AObj.lt,AV.ltL,AV.lt]) (by simp [AV.lt,AV.ltL])) ?_
  (repeat' (first|refine go ?_ | exact .intro | refine sp (fun _=>?_) fun _=>?_))
  refine aDraw_held [1] [1,2,4,6] (.three 0 (.three 3 (.two 5 (.exec 7 (.take 8 (.exec 9 .done))) 7 (.exec 5 (.take 8 (.exec 9 .done)))) 5 (.two 3 (.exec 7 (.take 8 (.exec 9 .done))) 7 (.exec 3 (.take 8 (.exec 9 .done)))) 7 (.two 3 (.exec 5 (.take 8 (.exec 9 .done))) 5 (.exec 3 (.take 8 (.exec 9 .done))))) 5 (.two 0 (.two 3 (.exec 7 (.take 8 (.exec 9 .done))) 7 (.exec 3 (.take 8 (.exec 9 .done)))) 7 (.exec 0 (.exec 3 (.take 8 (.exec 9 .done))))) 7 (.two 0 (.two 3 (.exec 5 (.take 8 (.exec 9 .done))) 5 (.exec 3 (.take 8 (.exec 9 .done)))) 5 (.exec 0 (.exec 3 (.take 8 (.exec 9 .done)))))) (by kernel_rfl) (by simp [ATab.get_cons]) ?_
  (repeat' (first|refine go ?_ | exact .intro | refine sp (fun _=>?_) fun _=>?_|(with_reducible refine aDraw_quiet (by kernel_rfl) ?_) | (with_reducible apply And.intro)))
  all_goals first
   | omega
   | rfl
   | exact ⟨[2,3,4],by decide,rfl,by simp [aTabs,startR,ATab.get_cons]⟩
   | exact ⟨[2,3,5],by decide,rfl,by simp [aTabs,startR,ATab.get_cons]⟩
   | exact ⟨[2,4,3],by decide,rfl,by simp [aTabs,startR,ATab.get_cons]⟩
   | exact ⟨[2,4,5],by decide,rfl,by simp [aTabs,startR,ATab.get_cons]⟩
   | exact ⟨[2,5,3],by decide,rfl,by simp [aTabs,startR,ATab.get_cons]⟩
   | exact ⟨[2,5,4],by decide,rfl,by simp [aTabs,startR,ATab.get_cons]⟩
   | exact ⟨[3,2,4],by decide,rfl,by simp [aTabs,startR,ATab.get_cons]⟩
   | exact ⟨[3,2,5],by decide,rfl,by simp [aTabs,startR,ATab.get_cons]⟩
   | exact ⟨[3,4,5],by decide,rfl,by simp [aTabs,startR,ATab.get_cons]⟩
   | exact ⟨[3,5,4],by decide,rfl,by simp [aTabs,startR,ATab.get_cons]⟩
   | exact ⟨[4,2,5],by decide,rfl,by simp [aTabs,startR,ATab.get_cons]⟩
   | exact ⟨[4,3,5],by decide,rfl,by simp [aTabs,startR,ATab.get_cons]⟩
   | exact ⟨[4,5,3],by decide,rfl,by simp [aTabs,startR,ATab.get_cons]⟩
   | exact ⟨[5,2,4],by decide,rfl,by simp [aTabs,startR,ATab.get_cons]⟩
   | exact ⟨[5,4,3],by decide,rfl,by simp [aTabs,startR,ATab.get_cons]⟩
   | exact ⟨[5,3,4],by decide,rfl,by simp [aTabs,startR,ATab.get_cons]⟩
   | trace_state
 ·simp [startR,startS,Res.frzs,Res.frz,ATab.get_cons,AV.frz,AV.frzL,frzTab,AObj.frz]
theorem begin19_A (m:Mod) (hf:Fit m) (hp:∀ p ∈ m.stages,ok64 p.2):ADet Tryz.prog 25 [.agg (eMod m)] ⟨.agg (eSt (beginM m)),[],0⟩:=by
 refine adet_of_code mixedT Tryz.func25 rfl (by decide) Tryz.ntmps25 Tryz.results25 rfl (stOk _) ?_
 obtain ⟨-,-,-,hel,-,-,-,-,-,hil⟩:=id hf.sizes
 have z:in31 0:=by unfold in31;omega
 (repeat' (first|refine go ?_ | exact .intro | refine sp (fun _=>?_) fun _=>?_))
 refine aDraw_held [1] [0,1] (.exec 2 (.exec 3 (.exec 4 .done))) (by kernel_rfl) (by simp [ATab.get_cons]) ?_
 (repeat' (first|refine go ?_ | exact .intro | refine sp (fun _=>?_) fun _=>?_|(with_reducible refine aDraw_quiet (by kernel_rfl) ?_) | ((with_reducible apply callT (g:=58));exact (start15_A _ (by omega) (by omega));exact (.inl (by simp [roL,roA,treeL,treeC]))) | ((with_reducible apply callT (g:=57));exact (pass18_A m (startS m) (-1) hf hp z z);exact (.inl (by simp [roL,roA,treeL,treeC])))))
 exact gives_tree (by simp [AV.ren,AV.renL,beginM])
end
end
section
section
open Go.RowKit
def setVals (sets mv vals:List Int):Nat → List Int
 | 0=>vals
 | k+1=>
  let v:=setVals sets mv vals k
  let a:=sets.getD k 0
  if 0≤a ∧ a<(v.length:Int) then v.set a.toNat (mv.getD k 0) else v
theorem setVals_len (sets mv vals:List Int):∀ k,(setVals sets mv vals k).length=vals.length
 | 0=>rfl
 | k+1=>by
  have:=setVals_len sets mv vals k
  unfold setVals
  simp only
  split
  ·simp [this]
  ·exact this
noncomputable def takeM (m:Mod) (s:St) (v:Mv):St:=
 match evAt m v.event with
 | none=>s
 | some x=>⟨setVals x.sets v.vals s.vals x.sets.length,s.opn,s.don,s.did.set v.event.toNat (withB (s.did.getD v.event.toNat 0) v.user),if 0<x.times then s.cnt.set v.event.toNat (s.cnt.getD v.event.toNat 0+1) else s.cnt⟩
theorem take_A (m:Mod) (s:St) (v:Mv) (e:Nat) (x:Ev) (he:v.event=(e:Int)) (hlt:e<m.events.length) (hx:m.events[e]=x) (hd:e<s.did.length) (hc:e<s.cnt.length) (hv:x.sets.length≤v.vals.length)
  (hl1:s.vals.length≤1000000) (hl2:s.did.length≤1000000) (hl3:s.cnt.length≤1000000) (hl4:x.sets.length≤1000000) (hw:0<x.times → -9223372036854775808≤s.cnt[e] ∧ s.cnt[e]<9223372036854775807) :
  ADet Tryz.prog 56 [.agg (eMod m),.agg (eSt s),.agg (eMv v)] ⟨.agg (eSt (takeM m s v)),[],0⟩:=by
 obtain ⟨ve,vu,vv⟩:=v
 simp only at he hv
 subst he
 have ee:evAt m (e:Int)=some x:=by simp [evAt,hlt,hx]
 have et:takeM m s ⟨(e:Int),vu,vv⟩=⟨setVals x.sets vv s.vals x.sets.length,s.opn,s.don,s.did.set e (withB s.did[e] vu),if 0<x.times then s.cnt.set e (s.cnt[e]+1) else s.cnt⟩:=by
  unfold takeM
  simp only [ee,Int.toNat_natCast,List.getD_eq_getElem?_getD,List.getElem?_eq_getElem hd,List.getElem?_eq_getElem hc,Option.getD_some]
 rw [et]
 refine ADet.still (R:=⟨.agg [.osl 0,eI s.opn,eI s.don,.osl 1,.osl 2],[(0,some (.row 2 1 ((setVals x.sets vv s.vals x.sets.length).map fun n=>[eI n]))),(1,some (.row 3 1 ((s.did.set e (withB s.did[e] vu)).map fun n=>[eI n]))),(2,some (.row 3 1 ((if 0<x.times then s.cnt.set e (s.cnt[e]+1) else s.cnt).map fun n=>[eI n])))],3⟩) [0,1,2] ?_ ?_ (by simp [AV.lt,AV.ltL])
 ·refine adet_of_code mixedT Tryz.func56 rfl (by decide) Tryz.ntmps56 Tryz.results56 rfl (tab_ok (by simp [tabLt,AObj.lt,AV.ltL,AV.lt]) (by simp [AV.lt,AV.ltL])) ?_
  (repeat' (first|refine go ?_|simp only [row_at,hlt,hx] | exact .intro | refine sp (fun _=>?_) fun _=>?_))
  refine aDraw_join (fun st'=>st'=⟨81,[(3,.op 0 0 0),(4,.op 1 0 0),(5,.op 2 0 0),(6,.op 3 0 0),(7,.op 4 0 0)],[(0,some (.box 32 (eMod m))),(1,some (.box 69 [.osl 5,eI s.opn,eI s.don,.osl 6,.osl 7])),(2,some (.box 63 [eI (e:Int),eI vu,sI vv])),(3,some (.box 69 [.c (.slice none 0 0),eI 0,eI 0,.c (.slice none 0 0),.c (.slice none 0 0)])),(4,some (.box 53 (eEv x))),(5,some (.row 2 1 (s.vals.map fun n=>[eI n]))),(6,some (.row 3 1 (s.did.map fun n=>[eI n]))),(7,some (.row 3 1 (s.cnt.map fun n=>[eI n])))],8⟩) [1] [0,3,6] (.three 1 (.three 2 (.two 4 (.two 5 (.exec 7 (.take 9 (.exec 8 (.exec 10 (.take 11 (.exec 12 (.take 13 (.exec 14 .done)))))))) 7 (.take 9 (.exec 5 (.exec 8 (.exec 10 (.take 11 (.exec 12 (.take 13 (.exec 14 .done))))))))) 7 (.exec 4 (.take 9 (.exec 5 (.exec 8 (.exec 10 (.take 11 (.exec 12 (.take 13 (.exec 14 .done)))))))))) 4 (.two 2 (.two 5 (.exec 7 (.take 9 (.exec 8 (.exec 10 (.take 11 (.exec 12 (.take 13 (.exec 14 .done)))))))) 7 (.take 9 (.exec 5 (.exec 8 (.exec 10 (.take 11 (.exec 12 (.take 13 (.exec 14 .done))))))))) 7 (.exec 2 (.take 9 (.exec 5 (.exec 8 (.exec 10 (.take 11 (.exec 12 (.take 13 (.exec 14 .done)))))))))) 7 (.two 2 (.exec 4 (.take 9 (.exec 5 (.exec 8 (.exec 10 (.take 11 (.exec 12 (.take 13 (.exec 14 .done))))))))) 4 (.exec 2 (.take 9 (.exec 5 (.exec 8 (.exec 10 (.take 11 (.exec 12 (.take 13 (.exec 14 .done))))))))))) 4 (.two 1 (.two 2 (.two 5 (.exec 7 (.take 9 (.exec 8 (.exec 10 (.take 11 (.exec 12 (.take 13 (.exec 14 .done)))))))) 7 (.take 9 (.exec 5 (.exec 8 (.exec 10 (.take 11 (.exec 12 (.take 13 (.exec 14 .done))))))))) 7 (.exec 2 (.take 9 (.exec 5 (.exec 8 (.exec 10 (.take 11 (.exec 12 (.take 13 (.exec 14 .done)))))))))) 7 (.exec 1 (.exec 2 (.take 9 (.exec 5 (.exec 8 (.exec 10 (.take 11 (.exec 12 (.take 13 (.exec 14 .done))))))))))) 7 (.two 1 (.two 2 (.exec 4 (.take 9 (.exec 5 (.exec 8 (.exec 10 (.take 11 (.exec 12 (.take 13 (.exec 14 .done))))))))) 4 (.exec 2 (.take 9 (.exec 5 (.exec 8 (.exec 10 (.take 11 (.exec 12 (.take 13 (.exec 14 .done)))))))))) 4 (.exec 1 (.exec 2 (.take 9 (.exec 5 (.exec 8 (.exec 10 (.take 11 (.exec 12 (.take 13 (.exec 14 .done)))))))))))) (by kernel_rfl) (by simp [ATab.get_cons]) ?_ ?_
  ·(repeat' (first|refine go ?_ | exact .intro | refine sp (fun _=>?_) fun _=>?_|(with_reducible refine aDraw_quiet (by kernel_rfl) ?_) | ((with_reducible apply callO (g:=89));exact (ownI64_A _ hl1);exact (.inr ints_plain)) | ((with_reducible apply callO (g:=90));exact (ownI_A _ hl2);exact (.inr ints_plain)) | ((with_reducible apply callO (g:=90));exact (ownI_A _ hl3);exact (.inr ints_plain)) | (with_reducible apply And.intro)))
   all_goals exact aTo_mk (wR [0,1,2,3,4,5,6,7]) rfl
  ·rintro _ rfl
   have es0:setVals x.sets vv s.vals 0=s.vals:=rfl
   (repeat' (first|refine go ?_ | exact .intro | refine sp (fun _=>?_) fun _=>?_))
   refine aLoop_of (fun st'=>∃ k:Nat,k≤x.sets.length ∧ st'=⟨81,[(3,.op 0 0 0),(4,.op 1 0 0),(5,.op 2 0 0),(6,.op 3 0 0),(7,.op 4 0 0),(29,sI x.sets),(30,eI (x.sets.length:Int)),(31,eI (k:Int))],[(0,some (.box 32 (eMod m))),(1,some (.box 69 [.osl 5,eI s.opn,eI s.don,.osl 6,.osl 7])),(2,some (.box 63 [eI (e:Int),eI vu,sI vv])),(3,some (.box 69 [.c (.slice none 0 0),eI 0,eI 0,.c (.slice none 0 0),.c (.slice none 0 0)])),(4,some (.box 53 (eEv x))),(5,some (.row 2 1 ((setVals x.sets vv s.vals k).map fun n=>[eI n]))),(6,some (.row 3 1 (s.did.map fun n=>[eI n]))),(7,some (.row 3 1 (s.cnt.map fun n=>[eI n])))],8⟩) (fun st'=>x.sets.length - slotN st' 31) ⟨_,(wE es0),0,Nat.zero_le _,rfl⟩ ?_
   rintro _ ⟨k,hk,rfl⟩
   have hsl:=setVals_len x.sets vv s.vals k
   by_cases hk2:k<x.sets.length
   ·have hkv:k<vv.length:=by omega
    obtain ⟨a,ha⟩:∃ a,x.sets[k]=a:=⟨_,rfl⟩
    by_cases hin:0≤a ∧ a<((setVals x.sets vv s.vals k).length:Int)
    ·obtain ⟨q,rfl⟩:∃ q:Nat,a=(q:Int):=⟨a.toNat,by omega⟩
     have hq:q<(setVals x.sets vv s.vals k).length:=by omega
     have ev:setVals x.sets vv s.vals (k+1)=(setVals x.sets vv s.vals k).set q vv[k]:=by
      rw [setVals]
      simp only [List.getD_eq_getElem?_getD,List.getElem?_eq_getElem hk2,List.getElem?_eq_getElem hkv,Option.getD_some,ha]
      rw [if_pos (by omega)]
      rfl
     have es:((setVals x.sets vv s.vals k).map fun n=>[eI n]).set q [eI vv[k]]=(setVals x.sets vv s.vals (k+1)).map fun n=>[eI n]:=by rw [ev,List.map_set]
     have hq1:decide ((q:Int)<(((setVals x.sets vv s.vals k).length:Nat):Int))=true:=by simp;omega
     (repeat' (first|refine go ?_|simp only [row_at,hk2,ha,hq1,hkv] | exact .intro | refine sp (fun _=>?_) fun _=>?_))
     ·refine aDraw_held [5] [0,1,2,3,4,5,6,7,8] (.exec 9 .done) (by kernel_rfl) (by simp [ATab.get_cons]) ?_
      (repeat' (first|refine go ?_|simp only [row_at,hk2,ha,hkv,hq] | exact .intro | refine sp (fun _=>?_) fun _=>?_))
      exact rI (wE es) ⟨k+1,by omega,rfl⟩
     ·rename_i h
      simp at h
      omega
    ·have ev:setVals x.sets vv s.vals (k+1)=setVals x.sets vv s.vals k:=by
      rw [setVals]
      simp only [List.getD_eq_getElem?_getD,List.getElem?_eq_getElem hk2,Option.getD_some,ha]
      rw [if_neg hin]
     (repeat' (first|refine go ?_|simp only [row_at,hk2,ha,hkv] | exact .intro | refine sp (fun _=>?_) fun _=>?_))
     all_goals first
      | exact rI (wE ev) ⟨k+1,by omega,rfl⟩
      | (exfalso;simp at *;omega)
   ·obtain rfl:k=x.sets.length:=by omega
    (repeat' (first|refine ge hk2 ?_ | exact .intro | refine sp (fun _=>?_) fun _=>?_))
    refine aDraw_held [6] [0,1,2,3,4,5,6,7,8,10,11] (.exec 9 (.exec 12 (.take 13 (.exec 14 .done)))) (by kernel_rfl) (by simp [ATab.get_cons]) ?_
    have eds:((s.did.map fun n=>[eI n]).set e [eI (withB s.did[e] vu)])=(s.did.set e (withB s.did[e] vu)).map fun n=>[eI n]:=by rw [List.map_set]
    (repeat' (first|refine go ?_|simp only [row_at,hd] | exact .intro | refine sp (fun _=>?_) fun _=>?_|(with_reducible refine aDraw_quiet (by kernel_rfl) ?_)|((with_reducible first|apply callV (g:=91)|apply callD (g:=91));exact (with_A _ _))))
    ·rename_i ht
     have ht:0<x.times:=by simpa using ht
     have hw':=hw ht
     have ew:IntKind.i64.wrap (s.cnt[e]+1)=s.cnt[e]+1:=wrap_in (by omega) (by omega)
     (repeat' (first|refine go ?_|simp only [row_at,hc,ew] | exact .intro | refine sp (fun _=>?_) fun _=>?_))
     rw [if_pos ht]
     exact ⟨[5,6,7],by decide,rfl,by simp [aTabs,ATab.get_cons,List.map_set]⟩
    ·rename_i ht
     have ht:¬ 0<x.times:=by simp at ht;omega
     rw [if_neg ht]
     exact ⟨[5,6,7],by decide,rfl,by simp [aTabs,ATab.get_cons,List.map_set]⟩
 ·simp [Res.frzs,Res.frz,ATab.get_cons,AV.frz,AV.frzL,frzTab,AObj.frz]
noncomputable def anyM (m:Mod) (s:St):Bool:=anyN (fun e=>anyN (fun u=>enabledM m s (e:Int) (u:Int)) m.users.length) m.events.length
def setsLen (m:Mod) (event:Int):Nat:=((m.events[event.toNat]?).map (fun x=>x.sets.length)).getD 0
noncomputable def mayM (m:Mod) (s:St) (v:Mv):Int:=
 if chkS m s=false then 15 else if idleM v=true then (if anyM m s=true then 16 else 0) else if enabledM m s v.event v.user=false then 16 else if v.vals.length=setsLen m v.event then 0 else 17
theorem evAt_some {m:Mod} {s:St} {event user:Int} (h:enabledM m s event user=true):∃ k:Nat,event=(k:Int) ∧ ∃ h:k<m.events.length,evAt m event=some m.events[k]:=by
 unfold enabledM freeM at h
 unfold evAt at h ⊢
 by_cases h0:0≤event
 ·rw [if_pos h0] at h ⊢
  cases hk:m.events[event.toNat]? with
  | none=>rw [hk] at h;simp at h
  | some x=>
   obtain ⟨h1,h2⟩:=List.getElem?_eq_some_iff.1 hk
   exact ⟨event.toNat,by omega,h1,by rw [h2]⟩
 ·rw [if_neg h0] at h
  simp at h
theorem may_A (m:Mod) (s:St) (v:Mv) (hf:Fit m) (hany:idleM v=true → ADet Tryz.prog 88 [.agg (eMod m),.agg (eSt s)] (val (.bool (anyM m s)))):ADet Tryz.prog 54 [.agg (eMod m),.agg (eSt s),.agg (eMv v)] (val (.int .i64 (mayM m s v))):=by
 refine adet_of_code mixedT Tryz.func54 rfl (by decide) Tryz.ntmps54 Tryz.results54 rfl (val_ok _) ?_
 obtain ⟨hgl,hml,hsl,hel,hal,hul,hrl,hsol,hol,hil⟩:=id hf.sizes
 obtain ⟨ve,vu,vv⟩:=v
 cases hid:idleM ⟨ve,vu,vv⟩ with
 | true=>
  unfold mayM
  simp only [hid]
  (repeat' (first|refine ge @hid ?_ | exact .intro | refine sp (fun _=>?_) fun _=>?_|(with_reducible refine aDraw_quiet (by kernel_rfl) ?_)|((with_reducible first|apply callV (g:=49)|apply callD (g:=49));exact (checkS_A _ _ (by omega)))|((with_reducible first|apply callV (g:=55)|apply callD (g:=55));exact (idle_A ⟨ve,vu,vv⟩)) | ((with_reducible apply callV);exact (hany hid)) | ((with_reducible apply callD);exact (hany hid))))
  all_goals grind
 | false=>
  cases hen:enabledM m s ve vu with
  | false=>
   unfold mayM
   simp only [hid,hen]
   (repeat' (first|refine ge (kf @hid @hen) ?_ | exact .intro | refine sp (fun _=>?_) fun _=>?_|(with_reducible refine aDraw_quiet (by kernel_rfl) ?_)|((with_reducible first|apply callV (g:=49)|apply callD (g:=49));exact (checkS_A _ _ (by omega)))|((with_reducible first|apply callV (g:=55)|apply callD (g:=55));exact (idle_A ⟨ve,vu,vv⟩))|((with_reducible first|apply callV (g:=85)|apply callD (g:=85));exact (enabled_A m s ve vu (by omega) (by omega)))))
   all_goals grind
  | true=>
   obtain ⟨k,rfl,hk,hk2⟩:=evAt_some hen
   have hsl:setsLen m (k:Int)=m.events[k].sets.length:=by simp [setsLen,hk]
   unfold mayM
   simp only [hid,hen,hsl]
   (repeat' (first|refine go ?_|simp only [hid,hen,row_at,hk] | exact .intro | refine sp (fun _=>?_) fun _=>?_|(with_reducible refine aDraw_quiet (by kernel_rfl) ?_)|((with_reducible first|apply callV (g:=49)|apply callD (g:=49));exact (checkS_A _ _ (by omega)))|((with_reducible first|apply callV (g:=55)|apply callD (g:=55));exact (idle_A ⟨(k:Int),vu,vv⟩))|((with_reducible first|apply callV (g:=85)|apply callD (g:=85));exact (enabled_A m s (k:Int) vu (by omega) (by omega)))))
   all_goals grind
def stNil:St:=⟨[],0,0,[],[]⟩
noncomputable def doM (m:Mod) (s:St) (v:Mv):St × Int:=
 if mayM m s v=0 then (if idleM v=true then s else passM m v.event (takeM m s v) m.order.length,0) else (stNil,mayM m s v)
theorem retT {r' av:AV} {st:ASt} (hr:av.ren []=av) (hl:av.lt 0) (hf:FitsT av r'):∃ R:Res,(∃ ids,(R.frzs ids).r.lt 0 ∧ FitsT (R.frzs ids).r r') ∧ R.Ok ∧ aGives R st av:=⟨⟨av,[],0⟩,⟨[],hl,hf⟩,⟨fun id o h=>(by cases h),hl⟩,gives_tree hr⟩
theorem take_vals (m:Mod) (s:St) (v:Mv) (hs:∀ x ∈ s.vals,ok64 x) (hv:∀ x ∈ v.vals,ok64 x):∀ x ∈ (takeM m s v).vals,ok64 x:=by
 unfold takeM
 split
 ·exact hs
 ·rename_i x hx
  simp only
  generalize x.sets.length=n
  induction n with
  | zero=>exact hs
  | succ k ih=>
   unfold setVals
   simp only
   split
   ·intro y hy
    rcases List.mem_or_eq_of_mem_set hy with h|h
    ·exact ih y h
    ·rw [h,List.getD_eq_getElem?_getD]
     by_cases hk:k<v.vals.length
     ·rw [List.getElem?_eq_getElem hk]
      exact hv _ (List.getElem_mem hk)
     ·rw [List.getElem?_eq_none (by omega)]
      unfold ok64
      simp
   ·exact ih
theorem do_A (m:Mod) (s:St) (v:Mv) (hf:Fit m) (hfs:FitS s) (hvl:v.vals.length≤1000000) (hc:condOk m) (hp:∀ p ∈ m.stages,ok64 p.2) (hs:∀ x ∈ s.vals,ok64 x) (hv:∀ x ∈ v.vals,ok64 x) (ht:∀ e ∈ m.events,ok64 e.times)
  (hany:idleM v=true → ADet Tryz.prog 88 [.agg (eMod m),.agg (eSt s)] (val (.bool (anyM m s)))):ADet Tryz.prog 24 [.agg (eMod m),.agg (eSt s),.agg (eMv v)] ⟨.tup [.agg (eSt (doM m s v).1),eI (doM m s v).2],[],0⟩:=by
 refine ARel.tree (Post:=fun R=>∃ ids,(R.frzs ids).r.lt 0 ∧ FitsT (R.frzs ids).r (.tup [.agg (eSt (doM m s v).1),eI (doM m s v).2])) ?_ (by simp [AV.lt,AV.ltL]) fun R h=>h
 refine arel_of_code mixedT Tryz.func24 rfl (by decide) Tryz.ntmps24 Tryz.results24 rfl ?_
 have hmay:=may_A m s v hf hany
 have hnil:FitsT (.tup [.agg [.c (.slice none 0 0),eI 0,eI 0,.c (.slice none 0 0),.c (.slice none 0 0)],eI (mayM m s v)]) (.tup [.agg (eSt stNil),eI (mayM m s v)]):=.tup ⟨.agg ⟨.nil 1,.refl _,.refl _,.nil 1,.nil 1,trivial⟩,.one (.refl _),trivial⟩
 have hz:((0:Int) != 0)=false:=by decide
 by_cases h0:mayM m s v=0
 ·cases hid:idleM v with
  | true=>
   have ed:doM m s v=(s,0):=by simp [doM,h0,hid]
   rw [ed]
   (repeat' (first|refine ge (kf h0 (kf hz @hid)) ?_ | exact .intro | refine sp (fun _=>?_) fun _=>?_|(with_reducible refine aDraw_quiet (by kernel_rfl) ?_) | ((with_reducible apply callV);exact (hmay)) | ((with_reducible apply callD);exact (hmay))|((with_reducible first|apply callV (g:=55)|apply callD (g:=55));exact (idle_A v))))
   all_goals first
    | exact retT (by simp [AV.ren,AV.renL]) (by simp [AV.lt,AV.ltL]) (.tup ⟨.one (.refl _),.one (.refl _),trivial⟩)
    | trace_state
  | false=>
   have ed:doM m s v=(passM m v.event (takeM m s v) m.order.length,0):=by simp [doM,h0,hid]
   rw [ed]
   have hen:enabledM m s v.event v.user=true ∧ v.vals.length=setsLen m v.event ∧ chkS m s=true:=by
    unfold mayM at h0
    grind
   obtain ⟨k,hke,hk,hk2⟩:=evAt_some hen.1
   have hsl:setsLen m v.event=m.events[k].sets.length:=by simp [setsLen,hk,hke]
   obtain ⟨hl1,hl2,hl3⟩:=hfs
   have hck:=hen.2.2
   unfold chkS at hck
   simp only [Bool.and_eq_true,decide_eq_true_eq] at hck
   obtain ⟨⟨⟨⟨⟨hc1,hc2⟩,hc3⟩,-⟩,-⟩,hall⟩:=hck
   have hd:k<s.did.length:=by omega
   have hcn:k<s.cnt.length:=by omega
   have hat:=(allN_iff _ _).1 hall k hk
   simp only [chkAt,List.getD_eq_getElem?_getD,List.getElem?_eq_getElem hd,List.getElem?_eq_getElem hcn,List.getElem?_eq_getElem hk,Option.getD_some,Option.map_some,Bool.and_eq_true,decide_eq_true_eq] at hat
   have hfree:0<m.events[k].times → s.cnt[k]<m.events[k].times:=fun h1=>by
    have h2:=hen.1
    unfold enabledM freeM at h2
    rw [hk2] at h2
    simp only [Bool.and_eq_true,Bool.or_eq_true,decide_eq_true_eq] at h2
    have h3:=h2.1.2
    unfold atI at h3
    rw [hke,if_pos (by omega)] at h3
    simp only [Int.toNat_natCast,List.getD_eq_getElem?_getD,List.getElem?_eq_getElem hcn,Option.getD_some] at h3
    omega
   have htm:=ht _ (List.getElem_mem hk)
   unfold ok64 at htm
   have htk:=take_A m s v k m.events[k] hke hk rfl hd hcn (by omega) (by omega) (by omega) (by omega) (by omega) (fun h1=>by have:=hfree h1;omega)
   have hps:=pass_A m (takeM m s v) v.event hf hc hp (take_vals m s v hs hv)
   (repeat' (first|refine ge (kf h0 (kf hz @hid)) ?_ | exact .intro | refine sp (fun _=>?_) fun _=>?_))
   refine callV hmay ?_
   (repeat' (first|refine ge (kf h0 (kf hz @hid)) ?_ | exact .intro | refine sp (fun _=>?_) fun _=>?_))
   refine callV (by exact idle_A v) ?_
   (repeat' (first|refine ge (kf h0 (kf hz @hid)) ?_ | exact .intro | refine sp (fun _=>?_) fun _=>?_))
   refine aDraw_held [3] [0,1,2,3,5,6] (.exec 4 (.exec 7 (.exec 8 (.exec 9 .done)))) (by kernel_rfl) (by simp [ATab.get_cons]) ?_
   (repeat' (first|refine ge (kf h0 (kf hz @hid)) ?_ | exact .intro | refine sp (fun _=>?_) fun _=>?_|(with_reducible refine aDraw_quiet (by kernel_rfl) ?_) | ((with_reducible apply callT);exact (htk);exact (.inl (by simp [roL,roA,treeL,treeC]))) | ((with_reducible apply callT);exact (hps);exact (.inl (by simp [roL,roA,treeL,treeC])))))
   all_goals first
    | exact retT (by simp [AV.ren,AV.renL]) (by simp [AV.lt,AV.ltL]) (.tup ⟨.one (.refl _),.one (.refl _),trivial⟩)
    | trace_state
 ·have ed:doM m s v=(stNil,mayM m s v):=by simp [doM,h0]
  have h0':(mayM m s v != 0)=true:=by simp [h0]
  rw [ed]
  (repeat' (first|refine ge h0' ?_ | exact .intro | refine sp (fun _=>?_) fun _=>?_|(with_reducible refine aDraw_quiet (by kernel_rfl) ?_) | ((with_reducible apply callV);exact (hmay)) | ((with_reducible apply callD);exact (hmay))|((with_reducible first|apply callV (g:=55)|apply callD (g:=55));exact (idle_A v))))
  all_goals first
   | exact retT (by simp [AV.ren,AV.renL]) (by simp [AV.lt,AV.ltL]) hnil
   | trace_state
end
section
open Go.RowKit
section
variable {P:Program} {cx:Cx} {a:Act} {w w' w'':World} {st:ASt} {tab tab' tab'':ATab} {L L' L'':Nat → Value} {nx nx' nx'':Nat}
theorem Fr.refl:Fr cx w tab L nx w tab L nx:=⟨Ext.refl ..,Nat.le_refl _,fun _ _ _=>rfl,fun id o g h1 h2 _=>⟨id,o,h1,h2⟩,Nat.le_refl _⟩
theorem Fr.trans (h:Fr cx w tab L nx w' tab' L' nx') (k:Fr cx w' tab' L' nx' w'' tab'' L'' nx''):Fr cx w tab L nx w'' tab'' L'' nx'':=
  ⟨⟨fun b hb=>(k.ext.blk b (h.ext.sub b hb)).trans (h.ext.blk b hb),fun b hb=>k.ext.sub b (h.ext.sub b hb),fun id p hid hp=>h.ext.loc id p hid (k.ext.loc id p (Nat.lt_of_lt_of_le hid h.next) hp)⟩,
   Nat.le_trans h.size k.size,
   fun j hj hn=>(k.keep j (Nat.lt_of_lt_of_le hj h.size) fun id o h1 h2=>(h.young id o j h1 h2 hj).elim fun id2 ⟨o2,h3,h4⟩=>hn id2 o2 h3 h4).trans (h.keep j hj hn),
   fun id o g h1 h2 hg=>(k.young id o g h1 h2 (Nat.lt_of_lt_of_le hg h.size)).elim fun id2 ⟨o2,h3,h4⟩=>h.young id2 o2 g h3 h4 hg,
   Nat.le_trans h.next k.next⟩
theorem put_tab (st:ASt) (d:Option Nat) (av:AV):(st.put d av).tab=st.tab:=by cases d <;> rfl
theorem put_next (st:ASt) (d:Option Nat) (av:AV):(st.put d av).next=st.next:=by cases d <;> rfl
theorem fr_merge (hy:∀ id o,tab.get id=some o → id<nx) (hb:Below w.heap.size w w') (hold:∀ id,id<nx → tab'.get id=tab.get id ∧ L' id=L id) (hnew:∀ id o g,nx≤id → tab'.get id=some o → vblk (L' id)=some g → w.heap.size≤g) (hn:nx≤nx'):Fr cx w tab L nx w' tab' L' nx':=
 ⟨ext_merge hb hold hy hnew,hb.size,fun k hk _=>hb.block k hk,fun id o g h1 h2 hg=>by
  rcases Nat.lt_or_ge id nx with hlt|hge
  ·exact ⟨id,o,by rw [← (hold id hlt).1];exact h1,by rw [← (hold id hlt).2];exact h2⟩
  ·exact absurd (hnew id o g hge h1 h2) (by omega),hn⟩
theorem fr_new (h:Conc cx a w st L) (hb:Below w.heap.size w w') {v:Value} {ob:AObj} (hnew:∀ g,vblk v=some g → w.heap.size≤g):Fr cx w st.tab L st.next w' ((st.next,some ob) :: st.tab) (updL L st.next v) (st.next+1):=
 fr_merge (fun id o hid=>(h.young id o hid).1) hb (fun id hid=>by unfold updL;rw [ATab.get_cons,if_neg (by omega),if_neg (by omega)];exact ⟨rfl,rfl⟩)
  (fun id o g h1 h2 h3=>by
   rw [ATab.get_cons] at h2
   unfold updL at h3
   split at h2
   ·rename_i e
    rw [if_pos e] at h3
    exact hnew g h3
   ·have:=(h.young id o h2).1
    omega) (Nat.le_succ _)
theorem fr_upd {id:Nat} {o o':AObj} (hid:st.tab.get id=some o) (hsz:o'.sz=o.sz) (hs:w'.heap.size=w.heap.size) (hb:∀ k,vblk (L id) ≠ some k → w'.heap[k]? = w.heap[k]?):Fr cx w st.tab L st.next w' ((id,some o') :: st.tab) L st.next:=by
 have hget:∀ k ok,ATab.get ((id,some o') :: st.tab) k=some ok → ∃ ok',st.tab.get k=some ok' ∧ ok.sz=ok'.sz:=fun k ok hk=>by
  rw [ATab.get_cons] at hk
  split at hk
  ·rename_i e
   cases hk
   exact ⟨o,by rw [e];exact hid,hsz⟩
  ·exact ⟨ok,hk,rfl⟩
 refine ⟨⟨fun b hb'=>hb b (hb'.2.2 id o hid),fun b hb'=>⟨by rw [hs];exact hb'.1,hb'.2.1,fun k ok hk=>?_⟩,fun k p _ hk=>?_⟩,by rw [hs];exact Nat.le_refl _,fun k hk hn=>hb k (hn id o hid),fun k ok g h1 h2 _=>?_,Nat.le_refl _⟩
 ·obtain ⟨ok',h1,_⟩:=hget k ok hk
  exact hb'.2.2 k ok' h1
 ·unfold Kx at *
  cases ho:ATab.get ((id,some o') :: st.tab) k with
  | none=>simp [ho] at hk
  | some ok=>
   obtain ⟨ok',h1,h2⟩:=hget k ok ho
   rw [h1]
   simpa [ho,h2] using hk
 ·obtain ⟨ok',h3,_⟩:=hget k ok h1
  exact ⟨k,ok',h3,h2⟩
theorem fr_frz1 (id:Nat):Fr cx w st.tab L st.next w (frz1 st id).tab L (frz1 st id).next:=by
 unfold frz1
 split
 ·rename_i e sz rows hid
  have hget:∀ k ok,ATab.get ((id,none) :: frzTab id sz rows st.tab) k=some ok → ∃ ok',st.tab.get k=some ok' ∧ ok.sz=ok'.sz:=fun k ok hk=>by
   rw [ATab.get_cons,frzTab_get] at hk
   split at hk
   ·cases hk
   ·cases hg:st.tab.get k with
    | none=>simp [hg] at hk
    | some o'=>
     simp [hg] at hk
     exact ⟨o',rfl,by rw [← hk,frz_sz]⟩
  refine ⟨⟨fun _ _=>rfl,fun b hb'=>⟨hb'.1,hb'.2.1,fun k ok hk=>?_⟩,fun k p _ hk=>?_⟩,Nat.le_refl _,fun k hk hn=>rfl,fun k ok g h1 h2 _=>?_,Nat.le_refl _⟩
  ·obtain ⟨ok',h1,_⟩:=hget k ok hk
   exact hb'.2.2 k ok' h1
  ·unfold Kx at *
   cases ho:ATab.get ((id,none) :: frzTab id sz rows st.tab) k with
   | none=>simp [ho] at hk
   | some ok=>
    obtain ⟨ok',h1,h2⟩:=hget k ok ho
    rw [h1]
    simpa [ho,h2] using hk
  ·obtain ⟨ok',h3,_⟩:=hget k ok h1
   exact ⟨k,ok',h3,h2⟩
 ·exact Fr.refl
theorem fr_frzs:∀ (ids:List Nat) {st:ASt},Fr cx w st.tab L st.next w (frzs st ids).tab L (frzs st ids).next
 | [],_=>Fr.refl
 | id :: ids,st=>(fr_frz1 id).trans (fr_frzs ids (st:=frz1 st id))
theorem fr_app (h:Conc cx a w st L) {v v':Value} {oid:Option Nat} {ob:AObj} (hg:w.grownBy w' v.ownBlock) (hv:vblk v'=v.ownBlock ∨ vblk v'=some w.heap.size)
  (hown:∀ g,v.ownBlock=some g → ∃ id,oid=some id ∧ vblk (L id)=some g) (hoid:∀ id,oid=some id → ∃ o,st.tab.get id=some o):Fr cx w st.tab L st.next w' (appTab st.tab st.next oid ob) (updL L st.next v') (st.next+1):=by
 have hnot:∀ k,(∀ id o,st.tab.get id=some o → vblk (L id) ≠ some k) → some k ≠ v.ownBlock:=fun k hn e=>by
  obtain ⟨id,h1,h2⟩:=hown k e.symm
  obtain ⟨o,h3⟩:=hoid id h1
  exact hn id o h3 h2
 have hget:∀ k ok,(appTab st.tab st.next oid ob).get k=some ok → k=st.next ∨ (k<st.next ∧ st.tab.get k=some ok):=fun k ok hk=>by
  rw [appTab_get] at hk
  split at hk
  ·exact .inl (by assumption)
  ·split at hk
   ·cases hk
   ·exact .inr ⟨(h.young k ok hk).1,hk⟩
 refine ⟨⟨fun b hb=>hg.block b hb.1 (hnot b hb.2.2),fun b hb=>⟨Nat.lt_of_lt_of_le hb.1 hg.size,hb.2.1,fun k ok hk=>?_⟩,fun k p hlt hk=>?_⟩,hg.size,fun k hk hn=>hg.block k hk (hnot k hn),fun k ok g h1 h2 hlt=>?_,Nat.le_succ _⟩
 ·unfold updL
  rcases hget k ok hk with rfl|⟨hlt,ho⟩
  ·rw [if_pos rfl]
   rcases hv with hv|hv
   ·rw [hv]
    exact fun e=>hnot b hb.2.2 e.symm
   ·rw [hv]
    intro e
    cases e
    exact absurd hb.1 (by omega)
  ·rw [if_neg (by omega)]
   exact hb.2.2 k ok ho
 ·unfold Kx updL at *
  rw [if_neg (by omega)] at hk
  cases ho:(appTab st.tab st.next oid ob).get k with
  | none=>simp [ho] at hk
  | some ok=>
   rcases hget k ok ho with rfl|⟨_,h1⟩
   ·omega
   ·rw [h1]
    rw [ho] at hk
    exact hk
 ·unfold updL at h2
  rcases hget k ok h1 with rfl|⟨hlt',ho⟩
  ·rw [if_pos rfl] at h2
   rcases hv with hv|hv
   ·rw [hv] at h2
    obtain ⟨id,h3,h4⟩:=hown g h2
    obtain ⟨o,h5⟩:=hoid id h3
    exact ⟨id,o,h5,h4⟩
   ·rw [hv] at h2
    cases h2
    omega
  ·rw [if_neg (by omega)] at h2
   exact ⟨k,ok,ho,h2⟩
abbrev AfterF (cx:Cx) (a:Act) (w:World) (st:ASt) (L:Nat → Value) (K:ASt → Prop):Act → World → Prop:=fun a' w'=>∃ st' L',K st' ∧ Conc cx a' w' st' L' ∧ Fr cx w st.tab L st.next w' st'.tab L' st'.next ∧ a'.defers=a.defers
theorem put_defers (a:Act) (d:Option Nat) (v:Value):(a.put d v).defers=a.defers:=by cases d <;> rfl
theorem pure_wpF {o:Oper} {K:ASt → Prop} {Q:Exit → Act → World → Prop} (h:Conc cx a w st L) (hp:aPure P st.tab (aEv st) o.op (aK st o.dst K)):o.wp P a w (AfterF cx a w st L K) Q:=by
 obtain ⟨v,av,h1,h2,h3,h4,_⟩:=pure_ok h.lay (fun id o hid=>(h.young id o hid).2) (eval_ok h) hp
 exact wp_value (h4 w (Below.refl _ _)) ⟨_,L,h1,conc_pure h h2 h3 o.dst,(by rw [put_tab,put_next];exact Fr.refl),put_defers _ _ _⟩
def fOp (o:Oper):Bool:=match o.op with
 | .defer _=>false
 | _=>true
theorem fr_reslice {id:Nat} {o ob:AObj} {v':Value} (h:Conc cx a w st L) (hid:st.tab.get id=some o) (hv:vblk v'=vblk (L id)):Fr cx w st.tab L st.next w (appTab st.tab st.next (some id) ob) (updL L st.next v') (st.next+1):=by
 have hget:∀ k ok,(appTab st.tab st.next (some id) ob).get k=some ok → k=st.next ∨ (k<st.next ∧ st.tab.get k=some ok):=fun k ok hk=>by
  rw [appTab_get] at hk
  split at hk
  ·exact .inl (by assumption)
  ·split at hk
   ·cases hk
   ·exact .inr ⟨(h.young k ok hk).1,hk⟩
 refine ⟨⟨fun _ _=>rfl,fun b hb=>⟨hb.1,hb.2.1,fun k ok hk=>?_⟩,fun k p hlt hk=>?_⟩,Nat.le_refl _,fun _ _ _=>rfl,fun k ok g h1 h2 _=>?_,Nat.le_succ _⟩
 ·unfold updL
  rcases hget k ok hk with rfl|⟨hlt,ho⟩
  ·rw [if_pos rfl,hv]
   exact hb.2.2 id o hid
  ·rw [if_neg (by omega)]
   exact hb.2.2 k ok ho
 ·unfold Kx updL at *
  rw [if_neg (by omega)] at hk
  cases ho:(appTab st.tab st.next (some id) ob).get k with
  | none=>simp [ho] at hk
  | some ok=>
   rcases hget k ok ho with rfl|⟨_,h1⟩
   ·omega
   ·rw [h1]
    rw [ho] at hk
    exact hk
 ·unfold updL at h2
  rcases hget k ok h1 with rfl|⟨hlt',ho⟩
  ·rw [if_pos rfl,hv] at h2
   exact ⟨id,o,hid,h2⟩
  ·rw [if_neg (by omega)] at h2
   exact ⟨k,ok,ho,h2⟩
theorem sliceW_wpF {t:TypeId} {x:Operand} {lo hi mx:Option Operand} {K:ASt → Prop} {Q:Exit → Act → World → Prop} {ty:TypeId} {dst:Option Nat} {pos:String} {aft:Array Edge} {gd:Option (Nat × Bool)} (h:Conc cx a w st L)
  (hp:aSliceW P t st (aEv st x) (lo.map (aEv st)) (hi.map (aEv st)) (mx.map (aEv st)) dst K):Oper.wp (P:=P) ⟨dst,.slice t x lo hi mx,ty,pos,aft,gd⟩ a w (AfterF cx a w st L K) Q:=by
 unfold aSliceW at hp
 split at hp
 ·rename_i id hx
  have hv:=(eval_ok h x).1
  rw [hx] at hv
  split at hp
  ·rename_i e sz rows hid
   unfold aSliceO at hp
   split at hp
   ·rename_i l h' hl hh
    obtain ⟨⟨h1,h2⟩,⟨rfl,h4,h5,h6⟩,h7⟩:=hp
    obtain ⟨hu,hsz⟩:=tyElem_pos (P:=P) (t:=t) (by omega)
    have hvL:=hv.osl_inv _ _ (kx_of hid)
    obtain ⟨hrow,xs,hown,hone,hx'⟩:=h.lay.objs id _ hid
    have hs:=run_sizeOf' (P:=P) (t:=(tyElem P t).1) (by omega) w
    rw [hsz,h1] at hs
    have key:∀ A cap,L id=.slice A rows.length cap → rows.length≤cap → ∃ m,h'.toNat≤m ∧ m≤cap ∧ (Instr.sliceBounds true rows.length cap (lo.map a.eval) (hi.map a.eval) (mx.map a.eval)).run P w=.ok (0,h'.toNat,m) w:=by
     intro A cap hL hc
     have hlo:=bd_at (d:=0) (n:=0) (fun x=>(eval_ok h x).1) hl (by omega) rfl
     have hhi:=bd_at (d:=rows.length) (n:=h'.toNat) (fun x=>(eval_ok h x).1) hh (by omega) rfl
     cases mx with
     | none=>exact ⟨cap,by omega,Nat.le_refl _,run_bounds hlo hhi (.inl ⟨rfl,rfl⟩) (by omega) (by omega)⟩
     | some q=>
      have hq:=(eval_ok h q).1
      simp only [Option.map_some] at h6 ⊢
      unfold aMax at h6
      split at h6
      ·rename_i hq'
       cases hq'
      ·rename_i k m hq'
       injection hq' with hq'
       rw [hq'] at hq
       obtain ⟨rfl,hb⟩:=h6
       refine ⟨m.toNat,Nat.le_refl _,by omega,run_bounds hlo hhi (.inr ⟨rfl,⟨k,by rw [hq.c_inv,Int.toNat_of_nonneg h4]⟩,fun hn=>?_⟩) (by omega) (by omega)⟩
       cases hi with
       | none=>simp at hb
       | some _=>cases hn
      ·exact h6.elim
    rcases hown.2 with ⟨hL,h0⟩|⟨g,cap,cur,hL,hb,hh',hc,hm,hcs,htake⟩
    ·obtain ⟨m,hm1,hm2,hr⟩:=key none 0 (by rw [hL,h0]) (by omega)
     have hm0:m=0:=by omega
     have hn0:h'.toNat=0:=by omega
     refine wp_value (v:=.slice none 0 0) ?_ ⟨_,_,h7,reslice_ok (n:=h'.toNat) h hid (by omega) (.inl ⟨hL,rfl⟩) dst,(by rw [put_tab,put_next];exact fr_reslice h hid (by rw [hL])),put_defers _ _ _⟩
     rw [h0] at hr
     simp [execOp,Sem.run_bind,hvL,hL,Instr.sliceAt,Instr.slice,run_underlying hu,hr,hs,hm0,hn0]
    ·obtain ⟨m,hm1,hm2,hr⟩:=key _ cap hL hc
     refine wp_value (v:=.slice (some ⟨g,0,none⟩) h'.toNat m) ?_ ⟨_,_,h7,reslice_ok (n:=h'.toNat) h hid (by omega) (.inr ⟨g,cap,m,hL,rfl,hm1,hm2⟩) dst,(by rw [put_tab,put_next];exact fr_reslice h hid (by rw [hL];rfl)),put_defers _ _ _⟩
     simp [execOp,Sem.run_bind,hvL,hL,Instr.sliceAt,Instr.slice,run_underlying hu,hr,hs,Addr.add_lit]
   ·exact hp.elim
  ·exact hp.elim
 ·exact pure_wpF (o:=⟨dst,.slice t x lo hi mx,ty,pos,aft,gd⟩) h (by exact hp)
theorem op_okF {o:Oper} {K:ASt → Prop} {Q:Exit → Act → World → Prop} (h:Conc cx a w st L) (hp:aOp P o K st) (hf:fOp o=true):o.wp P a w (AfterF cx a w st L K) Q:=by
 obtain ⟨dst,op,ty,pos,aft,gd⟩:=o
 unfold aOp at hp
 simp only at hp
 split at hp
 ·rename_i t x
  obtain ⟨h1,h2⟩:=hp
  have he:=eval_ok h x
  obtain ⟨h3,h4⟩:=box_ok (P:=P) (t:=t) h he.1 he.2 h1 dst
  exact wp_value (by simp [execOp,Sem.run_bind,h3]) ⟨_,_,h2,h4,(by rw [put_tab,put_next];exact fr_new h ((Below.refl _ _).alloc (Nat.le_refl _) _) (fun g hg=>by simp [vblk] at hg;omega)),put_defers _ _ _⟩
 ·rename_i t
  split at hp
  ·rename_i z hz
   obtain ⟨h1,h2⟩:=hp
   obtain ⟨h3,h4⟩:=box_ok (P:=P) (t:=t) (av:=.c z) h (.tree (.c z)) trivial h1 dst
   exact wp_value (by simp [execOp,Sem.run_bind,alloc_run hz,h3]) ⟨_,_,h2,h4,(by rw [put_tab,put_next];exact fr_new h ((Below.refl _ _).alloc (Nat.le_refl _) _) (fun g hg=>by simp [vblk] at hg;omega)),put_defers _ _ _⟩
  ·exact hp.elim
 ·rename_i t p x
  unfold aStore at hp
  split at hp
  ·rename_i id i j hpe
   split at hp
   ·rename_i ty cells hid
    obtain ⟨rfl,h0,h1,h2,h3,h4⟩:=hp
    have hpv:=(eval_ok h p).1
    rw [hpe] at hpv
    have hx:=eval_ok h x
    obtain ⟨w',h5,h6,h7,h8⟩:=store_box_ok h hpv hid hx.1 hx.2 h0 h1 h2 h3 dst
    exact wp_skip' (by simp [execOp,Sem.run_bind,h5]) ⟨_,_,h4,h6,(by rw [put_tab,put_next];exact fr_upd hid (by simp only [AObj.sz,List.length_append,List.length_take,List.length_drop];omega) h7 h8),put_defers _ _ _⟩
   ·rename_i e sz rows hid
    obtain ⟨hi,h0,h1,h2,h3,h3',h4⟩:=hp
    have hpv:=(eval_ok h p).1
    rw [hpe] at hpv
    have hx:=eval_ok h x
    obtain ⟨w',h5,h6,h7,h8⟩:=store_row_ok h hpv hid hx.1 hx.2 hi h0 h1 h2 h3 h3' dst
    exact wp_skip' (by simp [execOp,Sem.run_bind,h5]) ⟨_,_,h4,h6,(by rw [put_tab,put_next];exact fr_upd hid rfl h7 h8),put_defers _ _ _⟩
   ·rename_i e sz rows hid
    obtain ⟨hi,h0,h1,h2,h3,h4⟩:=hp
    have hpv:=(eval_ok h p).1
    rw [hpe] at hpv
    have hx:=eval_ok h x
    obtain ⟨w',h5,h6,h7,h8⟩:=store_nest_ok h hpv hid hx.1 hx.2 hi h0 h1 h2 h3 dst
    exact wp_skip' (by simp [execOp,Sem.run_bind,h5]) ⟨_,_,h4,h6,(by rw [put_tab,put_next];exact fr_upd hid rfl h7 h8),put_defers _ _ _⟩
   ·exact hp.elim
  ·exact hp.elim
 ·rename_i t n parts
  unfold aBuildSlice at hp
  have hfr:=fr_frzs (cx:=cx) (w:=w) (L:=L) (st:=st) (ownIds (parts.toList.flatMap fun (p:Nat × Operand)=>aCells (aEv st p.2)))
  replace h:=conc_frzs (ownIds (parts.toList.flatMap fun (p:Nat × Operand)=>aCells (aEv st p.2))) h
  unfold aBuildSlice1 at hp
  split at hp
  ·rename_i e sz by_ ht
   split at hp
   ·obtain ⟨⟨h1,rfl,h3,h5⟩,h6⟩:=hp
    obtain ⟨v',w',L',h7,h8,hb,rfl,hv⟩:=buildSlice_ok h ht h1 h3 h5 dst
    refine wp_value ?_ ⟨_,_,h6,h8,(by rw [put_tab,put_next];exact hfr.trans (fr_new h hb fun g hg=>by rw [hv] at hg;cases hg;exact Nat.le_refl _)),put_defers _ _ _⟩
    simp only [Array.toArray_toList] at h7
    simp [execOp,Sem.run_bind]
    simp at h7
    simp [h7]
   ·obtain ⟨⟨h1,rfl,h3,h5⟩,h6⟩:=hp
    obtain ⟨v',w',L',h7,h8,hb,rfl,hv⟩:=buildN_ok h ht h1 h3 h5 dst
    refine wp_value ?_ ⟨_,_,h6,h8,(by rw [put_tab,put_next];exact hfr.trans (fr_new h hb fun g hg=>by rw [hv] at hg;cases hg;exact Nat.le_refl _)),put_defers _ _ _⟩
    simp only [Array.toArray_toList] at h7
    simp [execOp,Sem.run_bind]
    simp at h7
    simp [h7]
  ·exact hp.elim
 ·rename_i t l c
  unfold aMake at hp
  split at hp
  ·rename_i e sz by_ k1 n k2 m ht hl hc
   split at hp
   ·rename_i z hz
    obtain ⟨⟨rfl,h1,h2,h3,h4⟩,h5⟩:=hp
    have hl':=(eval_ok h l).1
    have hc':=(eval_ok h c).1
    rw [hl] at hl'
    rw [hc] at hc'
    obtain ⟨v',w',L',h6,h7,hb,rfl,hv⟩:=make_ok (k1:=k1) (k2:=k2) h ht hz h1 h2 h3 h4 dst
    exact wp_value (by simp [execOp,Sem.run_bind,hl'.c_inv,hc'.c_inv,h6]) ⟨_,_,h5,h7,(by rw [put_tab,put_next];exact fr_new h hb fun g hg=>by rw [hv] at hg;cases hg;exact Nat.le_refl _),put_defers _ _ _⟩
   ·exact hp.elim
  ·exact hp.elim
 ·rename_i t parts
  obtain ⟨v,cs,h1,h2,h3,h4⟩:=build_wp h hp
  refine wp_value ?_ ⟨_,_,h4,conc_pure h h1 h2 dst,(by rw [put_tab,put_next];exact Fr.refl),put_defers _ _ _⟩
  simp [execOp,Sem.run_bind,h3 w]
 ·rename_i t x lo hi mx
  exact sliceW_wpF h hp
 ·rename_i t r
  obtain ⟨hr,hp⟩:=hp
  cases r with
  | some r=>cases hr
  | none=>
   obtain ⟨h1,h2⟩:=makeMap_ok (P:=P) (t:=t) h dst
   exact wp_value (by simp [execOp,Sem.run_bind,h1]) ⟨_,_,hp,h2,(by rw [put_tab,put_next];exact fr_new h ((Below.refl _ _).alloc (Nat.le_refl _) _) (fun g hg=>by simp [vblk] at hg;omega)),put_defers _ _ _⟩
 ·rename_i t m k ok
  obtain ⟨r,av,h1,h2,h3,h4⟩:=lookup_ok (nx:=st.next) h.lay (eval_ok h m).1 (eval_ok h k).1 hp
  exact wp_value (by simp [execOp,Sem.run_bind,h4]) ⟨_,_,h1,conc_pure h h2 h3 dst,(by rw [put_tab,put_next];exact Fr.refl),put_defers _ _ _⟩
 ·rename_i t m k v
  obtain ⟨w',st',h1,h2,h3,h4,id,ents,ents',_,h5,rfl,h6⟩:=mapUpd_ok h (eval_ok h m).1 (eval_ok h k).1 (eval_ok h v).1 dst hp
  exact wp_skip' (by simp [execOp,Sem.run_bind,h1]) ⟨_,_,h2,h3,(by rw [put_tab,put_next];exact fr_upd h5 rfl h4 h6),put_defers _ _ _⟩
 ·rename_i c
  obtain ⟨callee,args,argTypes⟩:=c
  simp only at hp
  split at hp
  ·split at hp
   ·rename_i x y t t' h1 h2
    obtain rfl:args = #[x,y]:=by cases args;simp_all
    obtain rfl:argTypes = #[t,t']:=by cases argTypes;simp_all
    obtain ⟨rfl,hp⟩:=hp
    unfold aAppend at hp
    split at hp
    ·rename_i hnn
     obtain ⟨e1,e2⟩:=nilNil_iff hnn
     have hx1:=(eval_ok h x).1
     have hy1:=(eval_ok h y).1
     rw [e1] at hx1
     rw [e2] at hy1
     have hx2:=hx1.c_inv
     have hy2:=hy1.c_inv
     have hr:=append_nil_run (ty:=ty) (w:=w) hp.1
     exact wp_value (by simp [execOp,Sem.run_bind,resolve,invoke,builtin,hx2,hy2,hr]) ⟨_,_,hp.2,conc_pure h (.tree (.c _)) trivial dst,(by rw [put_tab,put_next];exact Fr.refl),put_defers _ _ _⟩
    unfold aAppend0 at hp
    split at hp
    ·rename_i e sz by_ ht
     split at hp
     ·rename_i oid rows rows2 hx hy
      obtain ⟨⟨h3,h4⟩,h5⟩:=hp
      obtain ⟨v',w',L',h6,h7,hg,rfl,hv,hown⟩:=append_ok (ty:=ty) h (eval_ok h x).1 (eval_ok h y).1 ht hx hy (by simpa [maxLen] using h3) h4 dst
      have hoid:∀ id,oid=some id → ∃ o,st.tab.get id=some o:=fun id hid=>by
       subst hid
       unfold aDst at hx
       split at hx
       ·rename_i id' hid'
        split at hx
        ·rename_i e' sz' rows' hget
         split at hx
         ·cases hx
          exact ⟨_,hget⟩
         ·cases hx
        ·cases hx
       ·cases hx
       ·cases hx
      exact wp_value (by simp [execOp,Sem.run_bind,resolve,invoke,builtin,h6]) ⟨_,_,h5,h7,(by rw [put_tab,put_next];exact fr_app h hg hv hown hoid),put_defers _ _ _⟩
     ·split at hp
      ·rename_i oid rows rows2 hx hy
       obtain ⟨⟨h3,h4⟩,h5⟩:=hp
       obtain ⟨v',w',L',h6,h7,hg,rfl,hv,hown⟩:=appendN_ok (ty:=ty) h (eval_ok h x).1 (eval_ok h y).1 ht hx hy (by simpa [maxLen] using h3) h4 dst
       have hoid:∀ id,oid=some id → ∃ o,st.tab.get id=some o:=fun id hid=>by
        subst hid
        unfold aDstN at hx
        split at hx
        ·rename_i id' hid'
         split at hx
         ·rename_i e' sz' rows' hget
          split at hx
          ·cases hx
           exact ⟨_,hget⟩
          ·cases hx
         ·cases hx
        ·cases hx
        ·cases hx
       exact wp_value (by simp [execOp,Sem.run_bind,resolve,invoke,builtin,h6]) ⟨_,_,h5,h7,(by rw [put_tab,put_next];exact fr_app h hg hv hown hoid),put_defers _ _ _⟩
      ·exact hp.elim
    ·exact hp.elim
   ·exact hp.elim
  ·unfold aClears at hp
   split at hp
   ·rename_i x t h1 h2
    obtain rfl:args = #[x]:=by cases args;simp_all
    obtain rfl:argTypes = #[t]:=by cases argTypes;simp_all
    obtain ⟨w',st',h3,h4,h5,h6,id,ents,h7,rfl,h8⟩:=clear_ok (ty:=ty) h (eval_ok h x).1 dst hp
    exact wp_value (by simp [execOp,Sem.run_bind,resolve,invoke,builtin,h3]) ⟨_,_,h4,h5,(by rw [put_tab,put_next];exact fr_upd h7 rfl h6 h8),put_defers _ _ _⟩
   ·exact hp.elim
  ·rcases hp with hp | hp
   ·unfold aLenMs at hp
    split at hp
    ·rename_i x t h1 h2
     obtain rfl:args = #[x]:=by cases args;simp_all
     obtain rfl:argTypes = #[t]:=by cases argTypes;simp_all
     obtain ⟨r,av,h3,h4,h5,h6⟩:=lenM_ok (ty:=ty) (nx:=st.next) h.lay (eval_ok h x).1 hp
     exact wp_value (by simp [execOp,Sem.run_bind,resolve,invoke,builtin,h6]) ⟨_,_,h3,conc_pure h h4 h5 dst,(by rw [put_tab,put_next];exact Fr.refl),put_defers _ _ _⟩
    ·exact hp.elim
   ·exact pure_wpF h hp
  ·rename_i f
   obtain ⟨g,zs,avs,hrun0,hsz,hlt,hp⟩:=aFnB_inv h hp
   by_cases hmeth:aMeth none P st g avs (aK2 dst K)
   ·obtain ⟨hent,ids0,_,hc⟩:=meth_ok h hsz (fun j v av h1 h2=>(hlt j v av h1 h2).1) hmeth dst
    unfold Oper.wp
    rw [hrun0 hent _ argTypes rfl]
    show Calls P g zs w _
    refine hc.mono ?_
    rintro e w' ⟨v,av,st',L',rfl,h1,h2,h3,_⟩
    exact ⟨_,_,h1,h2,(by rw [put_tab,put_next];exact h3),put_defers _ _ _⟩
   replace hp:aCall0 P st g avs (aK2 dst K) ∨ (none=(none:Option (Nat × List Nat)) ∧ (aUpdM P st g avs (aK2 dst K) ∨ aCallZ P st g avs (aK2 dst K))):=by
    rcases hp with hp|hp|hp
    ·exact .inl hp
    ·exact .inr hp
    ·exact absurd hp hmeth
   have hent:Enters P g:=by
    rcases hp with (⟨R,hd,_⟩|⟨hd,_⟩)|⟨_,(⟨_,_,_,_,_,_,_,_,hd,_⟩|⟨_,_,_,_,_,_,_,_,_,hd,_⟩|⟨hd,_⟩)|⟨_,(⟨R,hd,_⟩|⟨hd,_⟩)⟩⟩
    ·exact hd.1
    ·exact hd
    ·exact hd.1
    ·exact hd.1
    ·exact hd
    ·exact hd.1
    ·exact hd
   unfold Oper.wp
   rw [hrun0 hent _ argTypes rfl]
   show Calls P g zs w _
   have hargs:zs.size=avs.length ∧ ∀ (j:Nat) (v:Value) (av:AV),zs[j]? = some v → avs[j]? = some av → RVx cx w st.tab L v av:=⟨hsz,fun j v av h1 h2=>(hlt j v av h1 h2).1⟩
   rcases hp with hp|⟨_,hp|⟨ids,hp⟩⟩
   ·refine (call_ok h hargs.1 hargs.2 hp dst).mono ?_
    rintro e w' ⟨v,av,st',L',rfl,h1,h2,hb,hold,hnew,hnx⟩
    exact ⟨_,_,h1,h2,(by rw [put_tab,put_next];exact fr_merge (fun id o hid=>(h.young id o hid).1) hb hold hnew hnx),put_defers _ _ _⟩
   rotate_left
   ·obtain ⟨h3,h4⟩:=frzAVs_ok ids h hlt
    have hz:=conc_frzs ids h
    refine (call_ok hz (by rw [h3];exact hargs.1) (fun j v av h5 h6=>(h4 j v av h5 h6).1) hp dst).mono ?_
    rintro e w' ⟨v,av,st',L',rfl,h1,h2,hb,hold,hnew,hnx⟩
    exact ⟨_,_,h1,h2,(by rw [put_tab,put_next];exact (fr_frzs ids).trans (fr_merge (fun id o hid=>(hz.young id o hid).1) hb hold hnew hnx)),put_defers _ _ _⟩
   ·refine (updM_ok h hargs.1 hlt hp dst).mono ?_
    rintro e w' ⟨v,av,st',L',rfl,h1,h2,h3⟩
    exact ⟨_,_,h1,h2,(by rw [put_tab,put_next];exact h3),put_defers _ _ _⟩
  ·exact pure_wpF h hp
 ·exact pure_wpF h hp
end
end
section
open Go.RowKit
section
variable {P:Program} {cx:Cx} {a:Act} {w w':World} {st:ASt} {L L':Nat → Value} {l0 n:Nat}
theorem wpIn_of_wp {o:Oper} {next:Act → World → Prop} {Q:Exit → Act → World → Prop} (hd:∀ c,o.op ≠ .defer c) (h:o.wp P a w next Q):o.wpIn (Fence.wide.inRound l0) n P a w next Q:=by
 refine ⟨fun _ _=>trivial,?_⟩
 rw [Oper.semAt_eq _ _ _ hd]
 unfold Oper.wp at h
 generalize (execOp a.eval o).run P w=r at h
 cases r with
 | ok x w1=>
  cases x with
  | value v=>exact h
  | skip=>exact h
  | defer d=>exact h
  | enter f args=>exact ⟨fun h=>(by cases h),CallsIn.inRound l0 (callsIn_wide.2 h)⟩
  | row row args=>
   refine ⟨fun h=>(by cases h),fun c cs _=>?_⟩
   obtain ⟨v,w',h1,h2⟩:=h c cs
   exact ⟨v,w',h1,by rw [fenced_inRound];exact stepsIn_wide.2 h2⟩
  | _=>exact h.elim
 | halt x w1=>
  cases x <;> first | exact h | exact h.elim
theorem fOp_defer {o:Oper} (h:fOp o=true):∀ c,o.op ≠ .defer c:=fun c e=>by
 unfold fOp at h
 rw [e] at h
 cases h
theorem ops_okF {ops:Array Oper} {K:ASt → Prop} {Q:Exit → Act → World → Prop}:∀ (l:List Oper) (a:Act) (w:World) (st:ASt) (L:Nat → Value),(∀ o ∈ l,fOp o=true) →
  (∀ a' w' st' L',K st' → Conc cx a' w' st' L' → Fr cx w st.tab L st.next w' st'.tab L' st'.next → Q .normal a' w') → Conc cx a w st L → aOps P ops K l st → wpListIn (Fence.wide.inRound l0) n P ops Q l a w
 | [],a,w,st,L,_,hQ,h,hp=>hQ a w st L hp h Fr.refl
 | o :: rest,a,w,st,L,hf,hQ,h,hp=>by
  unfold aOps at hp
  have hfo:=hf o (List.mem_cons_self ..)
  refine wpListIn_step fun K' hK'=>?_
  rcases guard_ok h hp o rfl with ⟨hw,st',h1,h2,e1,e2⟩|⟨hw,st',h1,h2,e1,e2⟩
  ·rw [if_pos hw]
   refine wpIn_of_wp (fOp_defer hfo) (Oper.wp_mono (fun a' w' ⟨st'',L',h3,h4,h5,_⟩=>hK' a' w' (ops_okF rest a' w' st'' L' (fun o ho=>hf o (List.mem_cons_of_mem _ ho)) (fun a2 w2 st2 L2 h6 h7 h8=>hQ a2 w2 st2 L2 h6 h7 ?_) h4 h3)) (op_okF h2 h1 hfo))
   rw [e1,e2] at h5
   exact h5.trans h8
  ·rw [if_neg (by simp [hw])]
   refine ⟨fun _ _=>trivial,hK' _ _ (ops_okF rest _ w _ L (fun o ho=>hf o (List.mem_cons_of_mem _ ho)) (fun a2 w2 st2 L2 h6 h7 h8=>hQ a2 w2 st2 L2 h6 h7 ?_) (skip_conc h2 o.dst) h1)⟩
   rw [put_tab,put_next,e1,e2] at h8
   exact h8
def fCode:Code → Bool
 | .skip=>true
 | .region _ ops draw=>!draw && ops.toList.all fOp
 | .seq x y=>fCode x && fCode y
 | .cond _ x y=>fCode x && fCode y
 | .block _ x=>fCode x
 | .exit _=>true
 | .ret=>true
 | _=>false
theorem code_okF:∀ (c:Code),fCode c=true → ∀ (Q:Exit → ASt → Prop) (a:Act) (w:World) (st:ASt) (L:Nat → Value),Conc cx a w st L → aCode P c Q st →
  c.wpIn (Fence.wide.inRound l0) n P (fun e a' w'=>∃ st' L',Q e st' ∧ Conc cx a' w' st' L' ∧ Fr cx w st.tab L st.next w' st'.tab L' st'.next) a w:=by
 intro c
 induction c with
 | skip=>exact fun _ Q a w st L h hp=>wpIn_skip ⟨st,L,hp,h,Fr.refl⟩
 | region id ops draw=>
  intro hf Q a w st L h hp
  unfold aCode aReg at hp
  cases draw with
  | false=>
   simp only [fCode,Bool.not_false,Bool.true_and,List.all_eq_true] at hf
   exact wpIn_region_list (ops_okF _ a w st L hf (fun a' w' st' L' h1 h2 h3=>⟨st',L',h1,h2,h3⟩) h (by simpa using hp))
  | true=>cases hf
 | seq x y ihx ihy=>
  intro hf Q a w st L h hp
  simp only [fCode,Bool.and_eq_true] at hf
  unfold aCode at hp
  refine wpIn_seq (wpIn_mono (ihx hf.1 _ a w st L h hp) (fun e a' w' ⟨st',L',h1,h2,h3⟩=>?_))
  cases e with
  | normal=>exact wpIn_mono (ihy hf.2 Q a' w' st' L' h2 h1) fun e a2 w2 ⟨st2,L2,h4,h5,h6⟩=>⟨st2,L2,h4,h5,h3.trans h6⟩
  | _=>exact ⟨st',L',h1,h2,h3⟩
 | cond c x y ihx ihy=>
  intro hf Q a w st L h hp
  simp only [fCode,Bool.and_eq_true] at hf
  unfold aCode aCond at hp
  split at hp
  ·rename_i b hb
   have hv:=(eval_ok h c).1
   rw [hb] at hv
   have hv:=hv.c_inv
   cases b
   ·exact wpIn_cond_false hv (ihy hf.2 Q a w st L h hp)
   ·exact wpIn_cond_true hv (ihx hf.1 Q a w st L h hp)
  ·exact hp.elim
 | block id x ih=>
  intro hf Q a w st L h hp
  simp only [fCode] at hf
  unfold aCode at hp
  refine wpIn_block (wpIn_mono (ih hf _ a w st L h hp) (fun e a' w' ⟨st',L',h1,h2,h3⟩=>?_))
  cases e with
  | exit id'=>
   simp only [aInBlock,Exit.inBlock] at h1 ⊢
   split
   ·rename_i e
    rw [if_pos e] at h1
    exact ⟨st',L',h1,h2,h3⟩
   ·rename_i e
    rw [if_neg e] at h1
    exact ⟨st',L',h1,h2,h3⟩
  | _=>exact ⟨st',L',h1,h2,h3⟩
 | exit id=>exact fun _ Q a w st L h hp=>wpIn_exit ⟨st,L,hp,h,Fr.refl⟩
 | ret=>exact fun _ Q a w st L h hp=>wpIn_ret ⟨st,L,hp,h,Fr.refl⟩
 | _=>exact fun hf=>(by cases hf)
def grow (T:Nat → Prop) (w w':World) (b:Nat):Prop:=T b ∨ (w.heap.size≤b ∧ b<w'.heap.size)
structure Kept (T:Nat → Prop) (w w':World):Prop where
 os:w'.os=w.os
 tape:w'.tape=w.tape
 output:w'.output=w.output
 size:w.heap.size≤w'.heap.size
 block:∀ b,T b → w'.heap[b]? = w.heap[b]?
def ASeq (P:Program) (gf:FuncId) (caps:List AV) (xs:List (List AV)):Prop:=
 Enters P gf ∧ ∀ (l:Nat) (T0:Nat → Prop) (lb:Array Value) (W0:World) (J Jx:List (List AV) → (Nat → Prop) → (Nat → Prop) → World → Prop),lb.size=caps.length → SOk W0 T0 →
  (∀ (j:Nat) (v:Value) (av:AV),lb[j]? = some v → caps[j]? = some av → RT W0 T0 v av) →
  (∀ pre T M W,J pre T M W → ∀ b,T b → b<W.heap.size) →
  (∀ pre T M M' W W',J pre T M W → BelowX M W.heap.size W W' → (∀ b,M' b → M b ∨ (W.heap.size≤b ∧ b<W'.heap.size)) → J pre (grow T W W') M' W') →
  (∀ pre T M M' W W',Jx pre T M W → BelowX M W.heap.size W W' → (∀ b,M' b → M b ∨ (W.heap.size≤b ∧ b<W'.heap.size)) → Jx pre (grow T W W') M' W') →
  (∀ pre x T M W (vs:Array Value),J pre T M W → (pre ++ [x]) <+: xs → vs.size=x.length → (∀ (j:Nat) (v:Value) (av:AV),vs[j]? = some v → x[j]? = some av → RT W (fun b=>T b ∧ ¬ M b) v av) →
   YieldAt Fence.wide 0 P l vs W fun e W'=>(e=.returned (.bool true) ∧ J (pre ++ [x]) T M W' ∧ Kept T W W') ∨ (e=.returned (.bool false) ∧ Jx (pre ++ [x]) T M W' ∧ Kept T W W')) →
  J [] T0 (fun _=>False) W0 →
  CallsIn Fence.wide 0 P gf (#[.func (.yield l) #[] #[]] ++ lb) W0 fun e W'=>(∃ v,e=.returned v) ∧ ((∃ T M,J xs T M W') ∨ ∃ pre T M,pre <+: xs ∧ Jx pre T M W')
theorem conc_move {c c':Cx} (h:Conc c a w st L) (hw:c'.w0=c.w0) (hblk:∀ b,Sx c w st.tab L b → w'.heap[b]? = w.heap[b]?) (hown:∀ id o g,st.tab.get id=some o → vblk (L id)=some g → w'.heap[g]? = w.heap[g]?) (hS:∀ b,Sx c w st.tab L b → Sx c' w' st.tab L b)
  (hb:BelowX c'.X c'.w0.heap.size c'.w0 w') (hex:∀ b,c'.X b → b<w'.heap.size ∧ ∀ id o,st.tab.get id=some o → vblk (L id) ≠ some b):Conc c' a w' st L:=by
 have hrv:∀ {x av nx},RVx c w st.tab L x av → av.lt nx → RVx c' w' st.tab L x av:=fun hr hl=>hr.mono hl (fun p hp=>World.cell?_of_block (hblk _ hp)) hS (fun _ _ _ h=>h)
 refine ⟨⟨hb,fun id o hid=>?_,h.lay.sep,hex⟩,h.size,by rw [hw];exact h.defers.mono hblk hS,h.young,fun t=>⟨hrv (h.env t).1 (h.env t).2,(h.env t).2⟩⟩
 have ho:=h.lay.objs id o hid
 have hy:=(h.young id o hid).2
 cases o with
 | box t cells=>
  obtain ⟨g,cs,h1,h2,h3,h4,h5⟩:=ho
  exact ⟨g,cs,h1,by rw [hw];exact h2,(hown id _ g hid (by rw [h1];rfl)).trans h3,h4,fun j x av h6 h7=>⟨hrv (h5 j x av h6 h7).1 (ltL_iff.1 hy _ (List.mem_of_getElem? h7)),(h5 j x av h6 h7).2⟩⟩
 | row e sz rows=>
  obtain ⟨h1,xs,hown',h2,h3⟩:=ho
  refine ⟨h1,xs,⟨hown'.1,?_⟩,h2,fun i j row av ha hb=>?_⟩
  ·rcases hown'.2 with hn | ⟨g,cap,cur,h4,hb,hh,rest⟩
   ·exact .inl hn
   ·exact .inr ⟨g,cap,cur,h4,by rw [hw];exact hb,(hown id _ g hid (by rw [h4];rfl)).trans hh,rest⟩
  ·obtain ⟨x,hx,hr⟩:=h3 i j row av ha hb
   exact ⟨x,hx,hr.mono (fun p hp=>World.cell?_of_block (hblk _ hp)) hS⟩
 | nest e sz rows=>
  obtain ⟨h1,xs,hown',h2,h3⟩:=ho
  refine ⟨h1,xs,⟨hown'.1,?_⟩,h2,fun i j row av ha hb=>?_⟩
  ·rcases hown'.2 with hn | ⟨g,cap,cur,h4,hb,hh,rest⟩
   ·exact .inl hn
   ·exact .inr ⟨g,cap,cur,h4,by rw [hw];exact hb,(hown id _ g hid (by rw [h4];rfl)).trans hh,rest⟩
  ·obtain ⟨x,hx,hr⟩:=h3 i j row av ha hb
   exact ⟨x,hx,hrv hr (ltL_iff.1 (hy row (List.mem_of_getElem? ha)) _ (List.mem_of_getElem? hb))⟩
 | map ents=>
  obtain ⟨b,es,ck,h1,h2,h3,h4⟩:=ho
  exact ⟨b,es,ck,h1,by rw [hw];exact h2,(hown id _ b hid (by rw [h1];rfl)).trans h3,h4⟩
 | ghost vs env=>exact ⟨ho.1,fun t ht=>hrv (ho.2 t ht) (envLt_aget hy t)⟩
def Cx.ex (c:Cx) (M:Nat → Prop) (hM:∀ b,M b → c.w0.heap.size≤b):Cx:=⟨c.F,c.w0,fun b=>c.X b ∨ M b,c.amb,fun b h=>h.elim (c.exD b) fun h2=>Nat.le_trans c.amb.le (hM b h2),c.inF⟩
def JAt (cx:Cx) (a0:Act) (l:Nat) (r:Loop) (I:ASt → Prop) (T M:Nat → Prop) (W:World):Prop:=
 ∃ (hqq:∀ b,M b → cx.w0.heap.size≤b) (st:ASt) (L:Nat → Value),I st ∧ Conc (cx.ex M hqq) a0 W st L ∧ W.heap[l]? = some (.loop r) ∧ Sx (cx.ex M hqq) W st.tab L l ∧ ¬ T l ∧ (∀ b,M b → T b ∧ cx.w0.heap.size≤b) ∧ ∀ b,T b → Sx cx W st.tab L b
theorem sx_below (h:Conc cx a w st L) (hb:w.heap.size≤w'.heap.size) {b:Nat} (hs:Sx cx w st.tab L b):Sx cx w' st.tab L b:=⟨Nat.lt_of_lt_of_le hs.1 hb,hs.2.1,hs.2.2⟩
theorem sx_new (h:Conc cx a w st L) {b:Nat} (h1:w.heap.size≤b) (h2:b<w'.heap.size):Sx cx w' st.tab L b:=
 ⟨h2,⟨.inr (Nat.le_trans h.lay.below.size h1),fun hX=>absurd (h.lay.ex b hX).1 (Nat.not_lt.2 h1)⟩,fun id o hid hg=>absurd ((h.lay.objs id o hid).ge hg).2 (by omega)⟩
theorem JAt.step {a0:Act} {l:Nat} {r:Loop} {I:ASt → Prop} {T M M':Nat → Prop} (h:JAt cx a0 l r I T M w) (hb:BelowX M w.heap.size w w') (hM:∀ b,M' b → M b ∨ (w.heap.size≤b ∧ b<w'.heap.size)):JAt cx a0 l r I (grow T w w') M' w':=by
 obtain ⟨hqq,st,L,h1,h2,h3,h4,h5,h6,h7⟩:=h
 have hsz:cx.w0.heap.size≤w.heap.size:=h2.lay.below.size
 have hq':∀ b,M' b → cx.w0.heap.size≤b:=fun b hb2=>(hM b hb2).elim (hqq b) fun h8=>Nat.le_trans hsz h8.1
 have hS:∀ b,Sx (cx.ex M hqq) w st.tab L b → Sx (cx.ex M' hq') w' st.tab L b:=fun b hs=>⟨Nat.lt_of_lt_of_le hs.1 hb.size,⟨hs.2.1.1,fun hx=>by
  rcases hx with hx|hx
  ·exact hs.2.1.2 (.inl hx)
  ·rcases hM b hx with hm | hm
   ·exact hs.2.1.2 (.inr hm)
   ·have:=hs.1
    omega⟩,hs.2.2⟩
 have hblk:∀ b,Sx (cx.ex M hqq) w st.tab L b → w'.heap[b]? = w.heap[b]?:=fun b hs=>hb.block b hs.1 fun hm=>hs.2.1.2 (.inr hm)
 have hex:∀ b,(cx.ex M' hq').X b → b<w'.heap.size ∧ ∀ id o,st.tab.get id=some o → vblk (L id) ≠ some b:=fun b hx=>by
  have old:(cx.ex M hqq).X b → b<w'.heap.size ∧ ∀ id o,st.tab.get id=some o → vblk (L id) ≠ some b:=fun hx=>⟨Nat.lt_of_lt_of_le (h2.lay.ex b hx).1 hb.size,(h2.lay.ex b hx).2⟩
  rcases hx with hx|hx
  ·exact old (.inl hx)
  ·rcases hM b hx with hm | hm
   ·exact old (.inr hm)
   ·exact ⟨hm.2,fun id o hid hg=>absurd ((h2.lay.objs id o hid).ge hg).2 (by omega)⟩
 have hbel:BelowX (cx.ex M' hq').X (cx.ex M' hq').w0.heap.size (cx.ex M' hq').w0 w':=by
  have h8:BelowX (cx.ex M hqq).X cx.w0.heap.size cx.w0 w:=h2.lay.below
  refine ⟨hb.os.trans h8.os,hb.tape.trans h8.tape,hb.output.trans h8.output,Nat.le_trans h8.size hb.size,fun k (hk:k<cx.w0.heap.size) hx=>?_⟩
  have hm:¬ M k:=fun hm=>by
   have:=(h6 k hm).2
   omega
  refine (hb.block k (by omega) hm).trans (h8.block k hk fun hx'=>?_)
  rcases hx' with hx'|hx'
  ·exact hx (.inl hx')
  ·exact hm hx'
 refine ⟨hq',st,L,h1,conc_move h2 rfl hblk (fun id o g hid hg=>hb.block g ((h2.lay.objs id o hid).ge hg).2 fun hm=>(h2.lay.ex g (.inr hm)).2 id o hid hg) hS hbel hex,(hblk l h4).trans h3,hS l h4,fun hg=>?_,fun b hm=>?_,fun b hg=>?_⟩
 ·rcases hg with hg | hg
  ·exact h5 hg
  ·have:=h4.1
   omega
 ·rcases hM b hm with hm | hm
  ·exact ⟨.inl (h6 b hm).1,(h6 b hm).2⟩
  ·exact ⟨.inr hm,by omega⟩
 ·rcases hg with hg | hg
  ·exact ⟨Nat.lt_of_lt_of_le (h7 b hg).1 hb.size,(h7 b hg).2.1,(h7 b hg).2.2⟩
  ·have:=sx_new h2 hg.1 hg.2
   exact ⟨this.1,⟨this.2.1.1,fun hx=>this.2.1.2 (.inl hx)⟩,this.2.2⟩
theorem conc_follow {A a1:Act} {st1 stA:ASt} {LA:Nat → Value} (h:Conc cx A w st1 L) (hf:Fr cx w st1.tab L st1.next w' stA.tab LA stA.next) (hA:Conc cx a1 w' stA LA):Conc cx A w' ⟨st1.n,st1.env,stA.tab,stA.next⟩ LA:=
 ⟨hA.lay,h.size,h.defers.mono hf.ext.blk hf.ext.sub,hA.young,fun t=>⟨hf.ext.rv (h.env t).1 (h.env t).2,AV.lt_mono hf.next (h.env t).2⟩⟩
theorem conc_turn {l:Nat} {r:Loop} (h:Conc cx a w st L) (hb:cx.w0.heap.size≤l) (hl:w.heap[l]? = some (.loop r)) (r':Loop):Conc cx a (w.putObj l (.loop r')) st L:=by
 have:=conc_keep h (KeepM.turn hb hl r') (ds:=a.defers) ⟨h.defers.1,fun d hd=>?_⟩
 ·exact this
 ·obtain ⟨k,h1,h2,h3,h4⟩:=h.defers.2 d hd
  have hne:k ≠ l:=fun e=>by rw [e,hl] at h3;cases h3
  exact ⟨k,h1,h2,(World.putObj_heap_other hne).trans h3,⟨by simp;exact h4.1,h4.2.1,h4.2.2⟩⟩
def putAll:List (Nat × AV) → ASt → ASt
 | [],st=>st
 | (p,av) :: l,st=>putAll l (st.put (some p) av)
theorem putAll_tab:∀ (l:List (Nat × AV)) (st:ASt),(putAll l st).tab=st.tab ∧ (putAll l st).next=st.next ∧ (putAll l st).n=st.n
 | [],_=>⟨rfl,rfl,rfl⟩
 | (p,av) :: l,st=>putAll_tab l (st.put (some p) av)
theorem conc_params:∀ (ps:List Nat) (vs:List Value) (x:List AV) {t:Array Value} {st:ASt},Conc cx { tmps:=t,defers:=[] } w st L → vs.length=ps.length → x.length=ps.length →
  (∀ (j:Nat) (v:Value) (av:AV),vs[j]? = some v → x[j]? = some av → RVx cx w st.tab L v av ∧ av.lt st.next) →
  Conc cx { tmps:=(ps.zip vs).foldl (fun t (p:Nat × Value)=>t.setIfInBounds p.1 p.2) t,defers:=[] } w (putAll (ps.zip x) st) L
 | [],_,_,_,_,h,_,_,_=>h
 | p :: ps,[],_,_,_,_,h1,_,_=>by simp at h1
 | p :: ps,v :: vs,[],_,_,_,_,h2,_=>by simp at h2
 | p :: ps,v :: vs,av :: x,t,st,h,h1,h2,h3=>by
  have h4:=h3 0 v av rfl rfl
  have h5:=conc_pure h h4.1 h4.2 (some p)
  exact conc_params ps vs x (t:=t.setIfInBounds p v) (st:=st.put (some p) av) h5 (by simpa using h1) (by simpa using h2) fun j v' av' h6 h7=>h3 (j+1) v' av' (by simpa using h6) (by simpa using h7)
def aRnd (I:List (List AV) → ASt → Prop) (Ix:Code → List (List AV) → ASt → Prop) (pre:List (List AV)) (st1:ASt):Exit → ASt → Prop
 | .normal,st'=>aTo (I pre) ⟨st1.n,st1.env,st'.tab,st'.next⟩
 | .ret,st'=>aTo (Ix .ret pre) ⟨st1.n,st1.env,st'.tab,st'.next⟩
 | .exit id,st'=>aTo (Ix (.exit id) pre) ⟨st1.n,st1.env,st'.tab,st'.next⟩
 | _,_=>False
def aNone:Exit → ASt → Prop:=fun _ _=>False
theorem range_round {a0:Act} {l fn D:Nat} {T M:Nat → Prop} {ps:Array Tmp} {assign body:Code} {I:List (List AV) → ASt → Prop} {Ix:Code → List (List AV) → ASt → Prop} {pre:List (List AV)} {x:List AV} {vs:Array Value}
  (hfa:fCode assign=true) (hfb:fCode body=true) (hn:x.length=ps.size) (hb:cx.w0.heap.size≤l)
  (hr:∀ st1,I pre st1 → aCode P assign (aThen (aCode P body (aRnd I Ix (pre ++ [x]) st1)) aNone) (putAll (ps.toList.zip x) st1))
  (h:JAt cx a0 l { state:=.ready,pending:=none,fn,tmps:=a0.tmps,params:=ps,assign,body,defers:=D } (I pre) T M w) (hv:vs.size=x.length) (hrt:∀ (j:Nat) (v:Value) (av:AV),vs[j]? = some v → x[j]? = some av → RT w (fun b=>T b ∧ ¬ M b) v av) :
  YieldAt Fence.wide 0 P l vs w fun e W'=>(e=.returned (.bool true) ∧ JAt cx a0 l { state:=.ready,pending:=none,fn,tmps:=a0.tmps,params:=ps,assign,body,defers:=D } (I (pre ++ [x])) T M W' ∧ Kept T w W') ∨
   (e=.returned (.bool false) ∧ (∃ c,JAt cx a0 l { state:=.done,pending:=some c,fn,tmps:=a0.tmps,params:=ps,assign,body,defers:=D } (Ix c (pre ++ [x])) T M W') ∧ Kept T w W'):=by
 obtain ⟨hqq,st1,L,hI,hC,hl,hSl,hTl,hMT,hT⟩:=h
 have hb:(cx.ex M hqq).w0.heap.size≤l:=hb
 have hy:=run_yield (P:=P) (args:=vs) hl (by simp;omega)
 refine ⟨fn,_,assign,body,hy,roundIn_of_wpIn trivial ?_⟩
 have hC0:Conc (cx.ex M hqq) { tmps:=a0.tmps,defers:=[] } w st1 L:=⟨hC.lay,hC.size,Marks.nil _ _ _,hC.young,hC.env⟩
 have hTS:∀ b,T b ∧ ¬ M b → Sx (cx.ex M hqq) w st1.tab L b:=fun b hb'=>⟨(hT b hb'.1).1,⟨(hT b hb'.1).2.1.1,fun hx=>by
  rcases hx with hx|hx
  ·exact (hT b hb'.1).2.1.2 hx
  ·exact hb'.2 hx⟩,(hT b hb'.1).2.2⟩
 have hCp:=conc_params ps.toList vs.toList x hC0 (by simp;omega) (by simpa using hn) fun j v av h1 h2=>by
  have:=hrt j v av (by simpa using h1) h2
  exact ⟨.tree (this.mono (fun _ _=>rfl) hTS),this.lt _⟩
 have ef:(ps.zip vs).foldl (fun tmps (x:Tmp × Value)=>match x with | (t,a)=>tmps.setIfInBounds t a) a0.tmps=(ps.toList.zip vs.toList).foldl (fun t (p:Nat × Value)=>t.setIfInBounds p.1 p.2) a0.tmps:=by
  rw [← Array.foldl_toList,Array.toList_zip]
 rw [ef]
 obtain ⟨e1,e2,_⟩:=putAll_tab (ps.toList.zip x) st1
 refine wpIn_mono (code_okF assign hfa _ _ _ _ _ hCp (hr st1 hI)) fun e a1 w1 ⟨stA,LA,hq,hCA,hFA⟩=>?_
 rw [e1,e2] at hFA
 cases e with
 | normal=>
  have hl1:w1.heap[l]? = _:=(hFA.keep l hSl.1 hSl.2.2).trans hl
  have hSl1:=hFA.ext.sub l hSl
  refine ⟨_,run_beginRound hl1 rfl,?_⟩
  have hCA2:=conc_turn hCA hb hl1 { state:=.busy,pending:=none,fn,tmps:=a0.tmps,params:=ps,assign,body,defers:=D }
  have hF1:=conc_follow hC hFA hCA
  have hF2:=conc_turn hF1 hb hl1 { state:=.busy,pending:=none,fn,tmps:=a0.tmps,params:=ps,assign,body,defers:=D }
  have hos2:∀ o,(w1.putObj l o).os=w1.os ∧ (w1.putObj l o).tape=w1.tape ∧ (w1.putObj l o).output=w1.output:=fun o=>⟨rfl,rfl,rfl⟩
  generalize hw2:w1.putObj l (.loop { state:=.busy,pending:=none,fn,tmps:=a0.tmps,params:=ps,assign,body,defers:=D })=w2 at hCA2 hF2
  have hsz2:w2.heap.size=w1.heap.size:=by rw [← hw2];simp
  have hl2:w2.heap[l]? = some (.loop { state:=.busy,pending:=none,fn,tmps:=a0.tmps,params:=ps,assign,body,defers:=D }):=by rw [← hw2];exact World.putObj_heap_same hSl1.1
  have hoth2:∀ b,b ≠ l → w2.heap[b]? = w1.heap[b]?:=fun b hb'=>by rw [← hw2];exact World.putObj_heap_other hb'
  have hS2:∀ b,Sx (cx.ex M hqq) w1 stA.tab LA b → Sx (cx.ex M hqq) w2 stA.tab LA b:=fun b hs=>⟨by rw [hsz2];exact hs.1,hs.2.1,hs.2.2⟩
  refine wpIn_mono (code_okF body hfb _ _ _ _ _ hCA2 hq) fun e a2 w3 ⟨stB,LB,hq2,hCB,hFB⟩=>?_
  have hl3:w3.heap[l]? = _:=(hFB.keep l (hS2 l hSl1).1 (hS2 l hSl1).2.2).trans hl2
  have hSl3:=hFB.ext.sub l (hS2 l hSl1)
  have hF3:=conc_follow (st1:=⟨st1.n,st1.env,stA.tab,stA.next⟩) hF2 hFB hCB
  have hown2:∀ b,T b → ∀ id o,stA.tab.get id=some o → vblk (LA id) ≠ some b:=fun b hb' id o hid hg=>by
   obtain ⟨id2,o2,h3,h4⟩:=hFA.young id o b hid hg (hT b hb').1
   exact (hT b hb').2.2 id2 o2 h3 h4
  have hkeep:∀ b,T b → w3.heap[b]? = w.heap[b]?:=fun b hb'=>by
   have hbl:b ≠ l:=fun e=>hTl (by rw [← e];exact hb')
   have h1:=(hT b hb').1
   have h2:=hFA.size
   rw [hFB.keep b (by omega) (hown2 b hb'),hoth2 b hbl,hFA.keep b h1 (hT b hb').2.2]
  have fin:∀ (jump:Option Code) (s:LoopState) (K:ASt → Prop),(if jump.isNone then LoopState.ready else LoopState.done)=s → aTo K ⟨st1.n,st1.env,stB.tab,stB.next⟩ →
    (Instr.endRound l jump).run P w3=.ok (.bool jump.isNone) (w3.putObj l (.loop { state:=s,pending:=jump,fn,tmps:=a0.tmps,params:=ps,assign,body,defers:=D })) ∧
    JAt cx a0 l { state:=s,pending:=jump,fn,tmps:=a0.tmps,params:=ps,assign,body,defers:=D } K T M (w3.putObj l (.loop { state:=s,pending:=jump,fn,tmps:=a0.tmps,params:=ps,assign,body,defers:=D })) ∧
    Kept T w (w3.putObj l (.loop { state:=s,pending:=jump,fn,tmps:=a0.tmps,params:=ps,assign,body,defers:=D })):=fun jump s K hs hK=>by
   subst hs
   have hr3:=run_endRound (P:=P) jump hl3
   refine ⟨hr3,?_,?_⟩
   ·obtain ⟨stC,hweak,hKC⟩:=hK
    have hF4:=conc_turn hF3 hb hl3 { state:=if jump.isNone then .ready else .done,pending:=jump,fn,tmps:=a0.tmps,params:=ps,assign,body,defers:=D }
    obtain ⟨LC,hCC,hSC⟩:=hweak _ _ _ _ hF4
    have up:∀ b,Sx (cx.ex M hqq) w3 stB.tab LB b → Sx (cx.ex M hqq) (w3.putObj l (.loop { state:=if jump.isNone then .ready else .done,pending:=jump,fn,tmps:=a0.tmps,params:=ps,assign,body,defers:=D })) stC.tab LC b:=fun b hs=>hSC b ⟨by simp;exact hs.1,hs.2.1,hs.2.2⟩
    refine ⟨hqq,stC,LC,hKC,hCC,World.putObj_heap_same hSl3.1,up l hSl3,hTl,hMT,fun b hb'=>?_⟩
    by_cases hm:M b
    ·refine ⟨(hCC.lay.ex b (.inr hm)).1,(hT b hb').2.1,(hCC.lay.ex b (.inr hm)).2⟩
    ·have:=up b (hFB.ext.sub b (hS2 b (hFA.ext.sub b (hTS b ⟨hb',hm⟩))))
     exact ⟨this.1,(hT b hb').2.1,this.2.2⟩
   ·have hW:BelowX (cx.ex M hqq).X (cx.ex M hqq).w0.heap.size (cx.ex M hqq).w0 w:=hC.lay.below
    have hW3:BelowX (cx.ex M hqq).X (cx.ex M hqq).w0.heap.size (cx.ex M hqq).w0 w3:=hCB.lay.below
    refine ⟨hW3.os.trans hW.os.symm,hW3.tape.trans hW.tape.symm,hW3.output.trans hW.output.symm,?_,fun b hb'=>?_⟩
    ·have:=hFA.size
     have:=hFB.size
     simp
     omega
    ·have hbl:b ≠ l:=fun e=>hTl (by rw [← e];exact hb')
     rw [World.putObj_heap_other hbl]
     exact hkeep b hb'
  cases e with
  | normal=>
   obtain ⟨h1,h2,h3⟩:=fin none .ready _ rfl hq2
   exact ⟨_,_,h1,.inl ⟨rfl,h2,h3⟩⟩
  | ret=>
   obtain ⟨h1,h2,h3⟩:=fin (some .ret) .done _ rfl hq2
   exact ⟨_,_,h1,.inr ⟨rfl,⟨_,h2⟩,h3⟩⟩
  | exit id=>
   obtain ⟨h1,h2,h3⟩:=fin (some (.exit id)) .done _ rfl hq2
   exact ⟨_,_,h1,.inr ⟨rfl,⟨_,h2⟩,h3⟩⟩
  | goto t=>exact hq2.elim
  | panic c=>exact hq2.elim
  | outgrown=>exact hq2.elim
 | _=>exact hq.elim
theorem range_ok (hm:P.follows .mixedOrders=true) {g:Operand} {ps:Array Tmp} {assign body:Code} {Q:Exit → ASt → Prop} {gf:FuncId} {caps:List AV} {xs:List (List AV)}
  (I:List (List AV) → ASt → Prop) (Ix:Code → List (List AV) → ASt → Prop)
  (hg:aFn (aEv st g) fun g' cs=>g'=gf ∧ cs=caps) (ht:treeL caps) (hseq:ASeq P gf caps xs) (hx:∀ x ∈ xs,x.length=ps.size) (hfa:fCode assign=true) (hfb:fCode body=true)
  (h0:aTo (I []) st)
  (hr:∀ pre x st1,(pre ++ [x]) <+: xs → I pre st1 → aCode P assign (aThen (aCode P body (aRnd I Ix (pre ++ [x]) st1)) aNone) (putAll (ps.toList.zip x) st1))
  (hd:∀ st',I xs st' → Q .normal st') (hs:∀ c pre st',pre <+: xs → Ix c pre st' → aCode P c Q st'):aCode P (.rangeFunc g ps assign body) Q st:=by
 intro cx a w L h
 obtain ⟨gf',lb,cs,hgv,hlb,hcap,⟨rfl,rfl⟩,_⟩:=aFn_inv (eval_ok h g).1 (eval_ok h g).2 hg
 refine wpIn_wide.1 (wpIn_rangeFunc (n:=0) ?_)
 intro fn _
 have hbase:cx.w0.heap.size≤w.heap.size:=h.lay.below.size
 generalize hrec:({ state:=.ready,pending:=none,fn,tmps:=a.tmps,params:=ps,assign,body,defers:=w.heap.size }:Loop)=r
 generalize hW1:(w.alloc (.deferred (some []))).alloc (.loop r)=W1
 have hb01:Below w.heap.size w W1:=by
  rw [← hW1]
  exact ((Below.refl _ w).alloc (Nat.le_refl _) _).alloc (by simp) _
 have hs1:W1.heap.size=w.heap.size+2:=by rw [← hW1];simp
 have hL1:W1.heap[w.heap.size+1]? = some (.loop r):=by
  rw [← hW1]
  have:=World.alloc_heap_new (w.alloc (.deferred (some []))) (.loop r)
  rwa [World.size_alloc] at this
 have hK1:W1.heap[w.heap.size]? = some (.deferred (some [])):=by
  rw [← hW1]
  exact (Below.heap_alloc _ _ _ (by simp)).trans (World.alloc_heap_new w _)
 have hC1:Conc cx { a with defers:=[{ target:=.collected w.heap.size,args:=#[] }] ++ a.defers } W1 st L:=by
  have h1:=conc_below h hb01
  refine ⟨h1.lay,h1.size,⟨List.nodup_cons.2 ⟨fun hmem=>?_,h1.defers.1⟩,fun d hd=>?_⟩,h1.young,h1.env⟩
  ·obtain ⟨k,e,_,_,h2⟩:=h.defers.2 _ hmem
   injection e with e _
   injection e with e
   have:=h2.1
   omega
  ·rcases List.mem_cons.1 hd with rfl | hd
   ·exact ⟨_,rfl,hbase,hK1,sx_new h (Nat.le_refl _) (by omega)⟩
   ·exact h1.defers.2 d hd
 obtain ⟨st0,hweak,hI0⟩:=h0
 obtain ⟨L0,hC0,hS0⟩:=hweak _ _ _ _ hC1
 refine ⟨w.heap.size+1,[{ target:=.collected w.heap.size,args:=#[] }],W1,{ target:=.fn (.func gf') lb,args:=#[.func (.yield (w.heap.size+1)) #[] #[]] },W1,gf',
  #[.func (.yield (w.heap.size+1)) #[] #[]] ++ lb,W1,?_,?_,fun _ _=>trivial,?_,fun h=>(by cases h),?_⟩
 ·rw [← hW1,← hrec]
  exact run_enterLoop_outer _ _ _ _ _
 ·simp only [resolve,hgv]
  simp [go_sem]
 ·have:=hseq.1 (#[.func (.yield (w.heap.size+1)) #[] #[]] ++ lb) W1
  simp [invoke,go_sem,this]
 ·have hpre:∀ {pre:List (List AV)} {x:List AV},(pre ++ [x]) <+: xs → x.length=ps.size:=fun hp=>hx _ (hp.subset (by simp))
  have hex0:∀ {cx':Cx} {W:World} {st:ASt} {L:Nat → Value} {A:Act},Conc cx' A W st L → Conc (cx'.ex (fun _=>False) fun _ h=>h.elim) A W st L:=fun h=>by
   refine conc_move h rfl (fun _ _=>rfl) (fun _ _ _ _ _=>rfl) (fun b hs=>⟨hs.1,⟨hs.2.1.1,fun hx=>hs.2.1.2 (hx.resolve_right id)⟩,hs.2.2⟩) ⟨h.lay.below.os,h.lay.below.tape,h.lay.below.output,h.lay.below.size,fun k hk hx=>h.lay.below.block k hk fun hx'=>hx (.inl hx')⟩ (fun b hx=>h.lay.ex b (hx.resolve_right id))
  have hex1:∀ {M:Nat → Prop} {W:World} {st:ASt} {L:Nat → Value} {A:Act},(hq:∀ b,M b → cx.w0.heap.size≤b) → Conc (cx.ex M hq) A W st L → Conc cx A W st L:=fun hM h=>by
   have hbl:BelowX (cx.ex _ hM).X cx.w0.heap.size cx.w0 _:=h.lay.below
   refine conc_move h rfl (fun _ _=>rfl) (fun _ _ _ _ _=>rfl) (fun b hs=>⟨hs.1,⟨hs.2.1.1,fun hx=>hs.2.1.2 (.inl hx)⟩,hs.2.2⟩) ⟨hbl.os,hbl.tape,hbl.output,hbl.size,fun k hk hx=>hbl.block k hk fun hx'=>?_⟩ (fun b hx=>h.lay.ex b (.inl hx))
   rcases hx' with hx'|hx'
   ·exact hx hx'
   ·have:=hM k hx'
    omega
  refine (hseq.2 (w.heap.size+1) (Sx cx w st.tab L) lb W1
   (fun pre T M W=>JAt cx { a with defers:=[{ target:=.collected w.heap.size,args:=#[] }] ++ a.defers } (w.heap.size+1) { state:=.ready,pending:=none,fn,tmps:=a.tmps,params:=ps,assign,body,defers:=w.heap.size } (I pre) T M W)
   (fun pre T M W=>∃ c,JAt cx { a with defers:=[{ target:=.collected w.heap.size,args:=#[] }] ++ a.defers } (w.heap.size+1) { state:=.done,pending:=some c,fn,tmps:=a.tmps,params:=ps,assign,body,defers:=w.heap.size } (Ix c pre) T M W)
   hlb ⟨fun b hb=>Nat.lt_of_lt_of_le hb.1 hb01.size,h.lay.amb.below hb01,h.lay.sok.tab⟩ (fun j v av h1 h2=>?_) (fun pre T M W ⟨_,_,_,_,_,_,_,_,_,hT⟩ b hb=>(hT b hb).1) (fun pre T M M' W W' hj hb hm=>hj.step hb hm) (fun pre T M M' W W' ⟨c,hj⟩ hb hm=>⟨c,hj.step hb hm⟩)
   (fun pre x T M W vs hj hp hv hrt=>range_round (a0:={ a with defers:=[{ target:=.collected w.heap.size,args:=#[] }] ++ a.defers }) hfa hfb (hpre hp) (by omega) (fun st1 hi=>hr pre x st1 hp hi) hj hv hrt) ?_).mono ?_
  ·have h3:=tree_of (hcap j v av h1 h2) (treeL_iff.1 ht av (List.mem_of_getElem? h2))
   exact h3.mono (fun p hp=>World.cell?_of_block (hb01.block p.block hp.1)) fun b hb=>hb
  ·have hC0':=hex0 hC0
   have hSl:=hS0 _ (sx_new (w':=W1) h (b:=w.heap.size+1) (by omega) (by omega))
   refine ⟨fun _ h=>h.elim,st0,L0,hI0,hC0',by rw [hL1,← hrec],⟨hSl.1,⟨hSl.2.1.1,fun hx=>hSl.2.1.2 (hx.resolve_right id)⟩,hSl.2.2⟩,fun hT=>?_,fun b hb=>hb.elim,fun b hb=>hS0 b (sx_below h hb01.size hb)⟩
   have:=hT.1
   omega
  ·rintro e W2 ⟨⟨v,rfl⟩,(⟨T,M,hq2,st2,L2,h1,h2,h3,h4,_,h6,_⟩ | ⟨pre,T,M,hp,c,hq2,st2,L2,h1,h2,h3,h4,_,h6,_⟩)⟩
   ·exact ⟨none,_,run_endLoop h3 (by simp),st2,L2,hd st2 h1,conc_turn (hex1 hq2 h2) (by omega) h3 _⟩
   ·refine ⟨some c,_,run_endLoop h3 (by simp),wpIn_wide.2 ?_⟩
    exact code_ok hm c Q _ _ st2 L2 (conc_turn (hex1 hq2 h2) (by omega) h3 _) (hs c pre st2 hp h1)
end
end
end
end Go.Proofs.YtcindbpnaicemaaGreat
