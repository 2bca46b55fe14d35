/-
  Parts of the proof: Dgqp1, Dgqp2.
-/
import Derived.WalkKit
import Derived.WalkLawsBesides
import Derived.Handy
import Derived.Lib.OthersKept
import Derived.Deep.Draws
import Derived.Maps.AppendAt
import Derived.Test.YtiaiihjmmfakdaaGreatDoorShelf
import Derived.ProofKit
import Derived.Laws.AppendOwnNone
import Derived.Laws.MakeOwn
set_option linter.unusedVariables false
set_option linter.unusedSimpArgs false
set_option linter.defProp false
set_option maxRecDepth 100000
set_option maxHeartbeats 16000000
namespace Go.Proofs.YtiaiihjmmfakdaaGreatDoor
def f4:=@List.length_append.{0}
def KN:=@List.getElem?_eq_getElem.{0}
def KO:=@List.mem_of_getElem?.{0}
def KP:=@List.getD_eq_getElem?_getD.{0}
def KQ:=@List.getElem_mem.{0}
def KR:=@Nat.zero_le
def KS:=@List.getElem?_eq_some_iff.{0}
def KT:=@Array.getElem?_eq_getElem.{0}
def KU:=@List.length_cons.{0}
def KV:=@List.getElem?_map.{0,0}
def KW:=@Nat.le_refl
def KX:=@List.take_succ_eq_append_getElem.{0}
def KY:=@if_neg.{1}
def KZ:=@List.append_assoc.{0}
def K0:=@decide_eq_false
def K1:=@Nat.lt_of_lt_of_le
def K2:=@List.mem_append.{0}
def K3:=@List.length_nil.{0}
def K4:=@decide_eq_true
def K5:=@if_pos.{1}
def K6:=@List.length_take.{0}
def K7:=@List.take_length.{0}
def K8:=@List.mem_map.{0,0}
def K9:=@List.mem_singleton.{0}
def La:=@Nat.mul_le_mul_right
def Lb:=@List.take_zero.{0}
def Lc:=@decide_eq_false_iff_not
def Ld:=@Nat.lt_or_ge
def Le:=@List.getElem_of_mem.{0}
def Lf:=@Nat.le_trans
def Lg:=@List.length_map.{0,0}
def Lh:=@List.getElem?_eq_none.{0}
def Li:=@Bool.and_eq_true
def Lj:=@List.take_of_length_le.{0}
def Lk:=@List.mem_of_mem_take.{0}
def Ll:=@Array.length_toList.{0}
def Lm:=@Option.getD_some.{0}
def Ln:=@List.append_nil.{0}
def Lo:=@List.length_singleton.{0}
def Lp:=@decide_eq_true_eq
def Lq:=@List.map_nil.{0,0}
def Lr:=@List.map_append.{0,0}
def Ls:=@List.getElem?_append_left.{0}
def Lt:=@Array.getElem?_eq_some_iff.{0}
def Lu:=@Nat.pow_le_pow_right
def Lv:=@Bool.and_eq_false_iff
def Lw:=@Nat.le_succ
def Lx:=@List.mem_flatMap.{0,0}
def Ly:=@List.getElem?_take.{0}
def Lz:=@List.mem_cons_of_mem.{0}
def LA:=@Array.getD_eq_getD_getElem?.{0}
def LB:=@Option.isSome_iff_exists.{0}
def LC:=@List.getElem?_append_right.{0}
def LD:=@List.mem_cons_self.{0}
def LE:=@Option.map_some.{0,0}
def LF:=@List.getElem?_drop.{0}
def LG:=@List.length_drop.{0}
def LH:=@Bool.false_eq_true
def LJ:=@beq_eq_false_iff_ne.{0}
def LK:=@Nat.lt_succ_self
def LL:=@List.flatMap_nil.{0,0}
def LM:=@Nat.add_mul
def LO:=@List.getElem?_of_mem.{0}
def LP:=@List.mem_of_mem_drop.{0}
def LQ:=@List.eq_nil_of_length_eq_zero.{0}
def LR:=@List.mem_cons.{0}
def LS:=@List.mem_or_eq_of_mem_set.{0}
def LT:=@List.nil_append.{0}
def LU:=@List.ext_getElem?.{0}
def LV:=@Array.getElem?_toList.{0}
def LW:=@List.flatMap_append.{0,0}
def LX:=@List.range_succ
def LY:=@Array.getElem?_append_left.{0}
def LZ:=@Int.tmod_eq_emod_of_nonneg
def L4:=@Bool.eq_false_iff
def L5:=@Bool.true_and
def L6:=@Bool.false_and
def L7:=@List.range_zero
def L8:=@Nat.zero_add
def L9:=@Int.toNat_natCast
def Ma:=@List.mem_range
def Mb:=@List.pairwise_append.{0}
def Mc:=@List.map_cons.{0,0}
def Md:=@List.cons_append.{0}
def Me:=@Nat.le_max_right
def Mf:=@Nat.testBit_lt_two_pow
def Mg:=@List.pairwise_iff_getElem.{0}
def Mh:=@List.flatMap_cons.{0,0}
def Mi:=@List.getElem?_toArray.{0}
def Mj:=@Nat.add_assoc
def Mk:=@Option.some.inj.{0}
def Mm:=@List.length_eq_zero_iff.{0}
def Mn:=@List.getElem?_cons_succ.{0}
def Mo:=@Nat.succ_le_succ
def Mp:=@List.size_toArray.{0}
def Mq:=@Option.bind_some.{0,0}
def Mr:=@Int.natCast_nonneg
def Ms:=@List.set_cons_zero.{0}
def Mt:=@List.set_cons_succ.{0}
def Mu:=@Nat.zero_mul
def Mv:=@List.getElem_append_left.{0}
def Mw:=@Int.le_refl
def Mx:=@Array.toArray_toList.{0}
def My:=@Option.some.injEq.{0}
def Mz:=@Nat.lt_trichotomy
def MA:=@List.getElem?_cons_zero.{0}
def MB:=@Bool.eq_iff_iff
def MC:=@beq_iff_eq.{0}
def MD:=@List.getD_cons_zero.{0}
def ME:=@Nat.le_add_right
def MF:=@List.foldl_nil.{0,0}
def MG:=@Int.tdiv_eq_ediv_of_nonneg
def MH:=@Nat.mul_le_mul
def MI:=@Nat.le_of_ble_eq_true
def MJ:=@List.getElem_append_right.{0}
def MK:=@List.getElem?_set.{0}
def ML:=@List.take_add_one.{0}
def MM:=@Nat.succ_mul
def MN:=@List.getD_cons_succ.{0}
def MO:=@List.countP_pos_iff.{0}
def MP:=@Array.ext.{0}
def MQ:=@Bool.not_false
def MR:=@Int.toNat_zero
def MS:=@Int.pow_pos
def MT:=@Nat.eq_zero_or_pos
def MU:=@Nat.add_sub_cancel
def MW:=@List.map_set.{0,0}
def MX:=@Nat.le_max_left
def MY:=@Nat.zero_lt_one
def MZ:=@List.filter_nil.{0}
open Go.RowKit
section
section
theorem dI {p:Prop} (h:p):Hid p:=h
theorem gQ (g j:Nat):(⟨g,0,none⟩:Addr).add j=⟨g,j,none⟩:=by unfold Addr.add;split<;>simp_all
def JF (w:World) (g:Nat) (t:TypeId) (cs:Array Value):Prop:=w.heap[g]? = some (.cells cs t (0,0))
section
variable {w w':World} {g:Nat} {t:TypeId} {cs:Array Value}
theorem JF.cell (h:JF w g t cs) (i:Nat):w.cell? ⟨g,i,none⟩=cs[i]?:=cell_of_row w g i cs t (0,0) h
theorem JF.new (w:World) (t:TypeId) (cs:Array Value):JF (w.alloc (.cells cs t)) w.heap.size t cs:=heap_alloc_new w _
end
section
variable {w w':World} {base:Nat} {e:TypeId} {size n:Nat} {v:Value} {xs:List Value}
theorem CS (h:w.ownsRow base e size v n xs) {g c:Nat} (hv:v=.slice (some ⟨g,0,none⟩) n c) {j:Nat} {u:Value} (hu:xs[j]? = some u):w.cell? ⟨g,j,none⟩=some u:=by
 subst hv;have:=h.cells (g:=g) rfl j u hu
 rwa [gQ] at this
end
end
section
def JA (w:World):Prop:=Lib.TabIs Tryz.prog w Tryz.powName .u64 Lib.pow10Tab
noncomputable def r4:Nat:=(Tryz.prog.globalNamed Tryz.powName).getD 0+1
structure Ac (w:World):Prop where
 le:r4<=w.heap.size
 tab:JA w
theorem Ac.keep {w w':World} (h:Ac w) (hs:r4<=w'.heap.size) (hk:∀ k,k<r4 -> w'.heap[k]? = w.heap[k]?):Ac w':=⟨hs,by
 have h1:=h.tab;unfold JA Lib.TabIs World.var? at h1 ⊢
 cases hg:Tryz.prog.globalNamed Tryz.powName with
 | none=>
  rw [hg] at h1;cases h1
 | some g=>
  rw [hg] at h1;simp only [Mq] at h1 ⊢;rw [hk g (by unfold r4;rw [hg];exact LK g)];exact h1⟩
theorem xo {w:World} (h:JA w):Ac w:=⟨by
 have h1:=h;unfold JA Lib.TabIs World.var? at h1
 cases hg:Tryz.prog.globalNamed Tryz.powName with
 | none=>
  rw [hg] at h1;cases h1
 | some g=>
  rw [hg] at h1;simp only [Mq] at h1
  have h2:g<w.heap.size:=by
   rcases Ld g w.heap.size with h3|h3
   .exact h3
   .rw [Array.getElem?_eq_none h3] at h1;cases h1
  unfold r4;rw [hg];exact h2,h⟩
end
section
inductive AV where
 | any
 | c (v:Value)
 | sl (sz:Nat) (rows:List (List AV))
 | osl (id:Nat)
 | agg (cs:List AV)
 | tup (vs:List AV)
 | fn (f:FuncId) (cs:List AV)
 | bfn (f:FuncId) (cs:List AV)
 | rp (cs:List AV)
 | op (id i j:Nat)
instance:Inhabited AV:=⟨.any⟩
inductive RT (w:World) (S:Nat -> Prop):Value -> AV -> Prop
 | any (x:Value):RT w S x .any
 | c (v:Value):RT w S v (.c v)
 | sl (A:Option Addr) (n cap sz:Nat) (rows:List (List AV)) (b o:Nat) (U:Nat -> Nat -> Value) (hn:n=rows.length) (hc:n<=cap) (hm:cap<=9223372036854775807)
   (hA:0<n -> A=some ⟨b,o,none⟩ /\ S b) (hs:∀ row ∈ rows,row.length=sz)
   (hcell:0<n -> ∀ i j row av,rows[i]? = some row -> row[j]? = some av -> w.cell? ⟨b,o+i * sz+j,none⟩=some (U i j))
   (hone:∀ i j row av,rows[i]? = some row -> row[j]? = some av -> (U i j).oneCell'=true)
   (hr:∀ i j row av,rows[i]? = some row -> row[j]? = some av -> RT w S (U i j) av):RT w S (.slice A n cap) (.sl sz rows)
 | agg (xs:Array Value) (cs:List AV) (hn:xs.size=cs.length) (hr:∀ (j:Nat) (x:Value) (av:AV),xs[j]? = some x -> cs[j]? = some av -> RT w S x av):RT w S (.agg xs) (.agg cs)
 | tup (xs:Array Value) (cs:List AV) (hn:xs.size=cs.length) (hr:∀ (j:Nat) (x:Value) (av:AV),xs[j]? = some x -> cs[j]? = some av -> RT w S x av):RT w S (.tuple xs) (.tup cs)
 | fn (f:FuncId) (xs:Array Value) (cs:List AV) (hn:xs.size=cs.length) (hr:∀ (j:Nat) (x:Value) (av:AV),xs[j]? = some x -> cs[j]? = some av -> RT w S x av):RT w S (.func (.func f) #[] xs) (.fn f cs)
 | bfn (f:FuncId) (xs:Array Value) (cs:List AV) (hn:xs.size=cs.length) (hr:∀ (j:Nat) (x:Value) (av:AV),xs[j]? = some x -> cs[j]? = some av -> RT w S x av):RT w S (.func (.func f) xs #[]) (.bfn f cs)
 | rp (b o:Nat) (cs:List AV) (U:Nat -> Value) (hb:S b) (hcell:∀ j av,cs[j]? = some av -> w.cell? ⟨b,o+j,none⟩=some (U j)) (hr:∀ j av,cs[j]? = some av -> RT w S (U j) av) :
   RT w S (.pointer (some ⟨b,o,none⟩)) (.rp cs)
theorem RT.mono {w w':World} {S S':Nat -> Prop} {x:Value} {av:AV} (h:RT w S x av) (hk:∀ p:Addr,S p.block -> w'.cell? p=w.cell? p) (hS:∀ b,S b -> S' b):RT w' S' x av:=by
 induction h with
 | any x=>exact .any x
 | c v=>exact .c v
 | sl A n cap sz rows b o U hn hc hm hA hs hcell hone hr ih=>
  exact .sl A n cap sz rows b o U hn hc hm (fun h=>⟨(hA h).1,hS _ (hA h).2⟩) hs (fun h i j row av h1 h2=>(hk _ (hA h).2).trans (hcell h i j row av h1 h2)) hone ih
 | agg xs cs hn hr ih=>exact .agg xs cs hn ih
 | tup xs cs hn hr ih=>exact .tup xs cs hn ih
 | fn fi xs cs hn hr ih=>exact .fn fi xs cs hn ih
 | bfn fi xs cs hn hr ih=>exact .bfn fi xs cs hn ih
 | rp b o cs U hb hcell hr ih=>exact .rp b o cs U (hS _ hb) (fun j av h=>(hk _ hb).trans (hcell j av h)) ih
def aH:Value -> Option Nat
 | .pointer (some a)=>some a.block
 | .slice (some a) _ _=>some a.block
 | .map (some b)=>some b
 | _=>none
inductive RV (w:World) (S:Nat -> Prop) (K:Nat -> Option (Nat × Value)):Value -> AV -> Prop
 | tree {x:Value} {av:AV} (h:RT w S x av):RV w S K x av
 | osl (x:Value) (id:Nat) (h:∀ sz v,K id=some (sz,v) -> x=v):RV w S K x (.osl id)
 | op (x:Value) (id i j:Nat) (h:∀ sz v,K id=some (sz,v) -> ∃ g,aH v=some g /\ x=.pointer (some ⟨g,i * sz+j,none⟩)):RV w S K x (.op id i j)
 | agg (xs:Array Value) (cs:List AV) (hn:xs.size=cs.length) (hr:∀ (j:Nat) (x:Value) (av:AV),xs[j]? = some x -> cs[j]? = some av -> RV w S K x av):RV w S K (.agg xs) (.agg cs)
 | tup (xs:Array Value) (cs:List AV) (hn:xs.size=cs.length) (hr:∀ (j:Nat) (x:Value) (av:AV),xs[j]? = some x -> cs[j]? = some av -> RV w S K x av):RV w S K (.tuple xs) (.tup cs)
 | fn (f:FuncId) (xs:Array Value) (cs:List AV) (hn:xs.size=cs.length) (hr:∀ (j:Nat) (x:Value) (av:AV),xs[j]? = some x -> cs[j]? = some av -> RV w S K x av):RV w S K (.func (.func f) #[] xs) (.fn f cs)
 | bfn (f:FuncId) (xs:Array Value) (cs:List AV) (hn:xs.size=cs.length) (hr:∀ (j:Nat) (x:Value) (av:AV),xs[j]? = some x -> cs[j]? = some av -> RV w S K x av):RV w S K (.func (.func f) xs #[]) (.bfn f cs)
mutual
def AV.lt (nx:Nat):AV -> Prop
 | .osl id=>id<nx
 | .op id _ _=>id<nx
 | .agg cs=>AV.ltL nx cs
 | .tup cs=>AV.ltL nx cs
 | .fn _ cs=>AV.ltL nx cs
 | .bfn _ cs=>AV.ltL nx cs
 | _=>True
def AV.ltL (nx:Nat):List AV -> Prop
 | []=>True
 | a :: l=>a.lt nx /\ AV.ltL nx l
end
theorem ag {nx:Nat}:∀ {l:List AV},AV.ltL nx l ↔ ∀ a ∈ l,a.lt nx
 | []=>by simp [AV.ltL]
 | a :: l=>by simp [AV.ltL,ag (l:=l)]
theorem AV.lt_mono {n m:Nat} (hnm:n<=m):∀ {av:AV},av.lt n -> av.lt m:=by
 intro av
 induction av using AV.rec (motive_2:=fun _=>True) (motive_3:=fun l=>AV.ltL n l -> AV.ltL m l)<;>simp_all [AV.lt,AV.ltL]<;>omega
theorem RT.lt {w:World} {S:Nat -> Prop} {x:Value} {av:AV} (h:RT w S x av) (nx:Nat):av.lt nx:=by
 induction h with
 | agg xs cs hn hr ih=>
  refine ag.2 fun a ha=>?_;obtain ⟨j,hj⟩:=LO ha;have hlt:j<xs.size:=by rw [hn];exact (KS.1 hj).1
  exact ih j _ a (KT hlt) hj
 | tup xs cs hn hr ih=>
  refine ag.2 fun a ha=>?_;obtain ⟨j,hj⟩:=LO ha;have hlt:j<xs.size:=by rw [hn];exact (KS.1 hj).1
  exact ih j _ a (KT hlt) hj
 | fn fi xs cs hn hr ih=>
  refine ag.2 fun a ha=>?_;obtain ⟨j,hj⟩:=LO ha;have hlt:j<xs.size:=by rw [hn];exact (KS.1 hj).1
  exact ih j _ a (KT hlt) hj
 | bfn fi xs cs hn hr ih=>
  refine ag.2 fun a ha=>?_;obtain ⟨j,hj⟩:=LO ha;have hlt:j<xs.size:=by rw [hn];exact (KS.1 hj).1
  exact ih j _ a (KT hlt) hj
 | _=>trivial
theorem RV.mono {w w':World} {S S':Nat -> Prop} {K K':Nat -> Option (Nat × Value)} {nx:Nat} {x:Value} {av:AV} (h:RV w S K x av) (hl:av.lt nx) (hk:∀ p:Addr,S p.block -> w'.cell? p=w.cell? p) (hS:∀ b,S b -> S' b)
  (hK:∀ id p,id<nx -> K' id=some p -> K id=some p):RV w' S' K' x av:=by
 induction h with
 | tree h=>exact .tree (h.mono hk hS)
 | osl x id h=>exact .osl x id fun sz v e=>h sz v (hK id _ hl e)
 | op x id i j h=>exact .op x id i j fun sz v e=>h sz v (hK id _ hl e)
 | agg xs cs hn hr ih=>exact .agg xs cs hn fun j x av h1 h2=>ih j x av h1 h2 (ag.1 hl _ (KO h2))
 | tup xs cs hn hr ih=>exact .tup xs cs hn fun j x av h1 h2=>ih j x av h1 h2 (ag.1 hl _ (KO h2))
 | fn fi xs cs hn hr ih=>exact .fn fi xs cs hn fun j x av h1 h2=>ih j x av h1 h2 (ag.1 hl _ (KO h2))
 | bfn fi xs cs hn hr ih=>exact .bfn fi xs cs hn fun j x av h1 h2=>ih j x av h1 h2 (ag.1 hl _ (KO h2))
section
variable {w:World} {S:Nat -> Prop} {K:Nat -> Option (Nat × Value)} {x:Value}
theorem RV.c_inv {v:Value} (h:RV w S K x (.c v)):x=v:=by
 cases h with
 | tree h=>cases h;rfl
theorem RV.agg_inv {cs:List AV} (h:RV w S K x (.agg cs)):∃ xs:Array Value,x=.agg xs /\ xs.size=cs.length /\ ∀ (j:Nat) (x:Value) (av:AV),xs[j]? = some x -> cs[j]? = some av -> RV w S K x av:=by
 cases h with
 | tree h=>cases h with | agg xs cs hn hr=>exact ⟨xs,rfl,hn,fun j x av h1 h2=>.tree (hr j x av h1 h2)⟩
 | agg xs cs hn hr=>exact ⟨xs,rfl,hn,hr⟩
theorem RV.tup_inv {cs:List AV} (h:RV w S K x (.tup cs)):∃ xs:Array Value,x=.tuple xs /\ xs.size=cs.length /\ ∀ (j:Nat) (x:Value) (av:AV),xs[j]? = some x -> cs[j]? = some av -> RV w S K x av:=by
 cases h with
 | tree h=>cases h with | tup xs cs hn hr=>exact ⟨xs,rfl,hn,fun j x av h1 h2=>.tree (hr j x av h1 h2)⟩
 | tup xs cs hn hr=>exact ⟨xs,rfl,hn,hr⟩
theorem RV.fn_inv {f:FuncId} {cs:List AV} (h:RV w S K x (.fn f cs)):∃ xs:Array Value,x=.func (.func f) #[] xs /\ xs.size=cs.length /\ ∀ (j:Nat) (x:Value) (av:AV),xs[j]? = some x -> cs[j]? = some av -> RV w S K x av:=by
 cases h with
 | tree h=>cases h with | fn _ xs cs hn hr=>exact ⟨xs,rfl,hn,fun j x av h1 h2=>.tree (hr j x av h1 h2)⟩
 | fn _ xs cs hn hr=>exact ⟨xs,rfl,hn,hr⟩
theorem RV.bfn_inv {f:FuncId} {cs:List AV} (h:RV w S K x (.bfn f cs)):∃ xs:Array Value,x=.func (.func f) xs #[] /\ xs.size=cs.length /\ ∀ (j:Nat) (x:Value) (av:AV),xs[j]? = some x -> cs[j]? = some av -> RV w S K x av:=by
 cases h with
 | tree h=>cases h with | bfn _ xs cs hn hr=>exact ⟨xs,rfl,hn,fun j x av h1 h2=>.tree (hr j x av h1 h2)⟩
 | bfn _ xs cs hn hr=>exact ⟨xs,rfl,hn,hr⟩
theorem RT.sl_inv {sz:Nat} {rows:List (List AV)} (h:RT w S x (.sl sz rows)):∃ A cap,x=.slice A rows.length cap /\ rows.length<=cap /\ cap<=9223372036854775807 /\ (∀ row ∈ rows,row.length=sz) /\
  (0<rows.length -> ∃ b o,A=some ⟨b,o,none⟩ /\ S b /\ ∃ U:Nat -> Nat -> Value,(∀ i j row av,rows[i]? = some row -> row[j]? = some av -> w.cell? ⟨b,o+i * sz+j,none⟩=some (U i j)) /\
   (∀ i j row av,rows[i]? = some row -> row[j]? = some av -> RT w S (U i j) av) /\ ∀ i j row av,rows[i]? = some row -> row[j]? = some av -> (U i j).oneCell'=true):=by
 cases h with
 | sl A n cap sz rows b o U hn hc hm hA hs hcell hone hr=>
  subst hn;exact ⟨A,cap,rfl,hc,hm,hs,fun h=>⟨b,o,(hA h).1,(hA h).2,U,hcell h,hr,hone⟩⟩
theorem RV.sl_inv {sz:Nat} {rows:List (List AV)} (h:RV w S K x (.sl sz rows)):RT w S x (.sl sz rows):=by
 cases h with
 | tree h=>exact h
theorem RV.rp_inv {cs:List AV} (h:RV w S K x (.rp cs)):∃ b o,∃ U:Nat -> Value,x=.pointer (some ⟨b,o,none⟩) /\ S b /\ (∀ j av,cs[j]? = some av -> w.cell? ⟨b,o+j,none⟩=some (U j)) /\ ∀ j av,cs[j]? = some av -> RT w S (U j) av:=by
 cases h with
 | tree h=>cases h with | rp b o cs U hb hcell hr=>exact ⟨b,o,U,rfl,hb,hcell,hr⟩
theorem RV.osl_inv {id:Nat} (h:RV w S K x (.osl id)):∀ sz v,K id=some (sz,v) -> x=v:=by
 cases h with
 | tree h=>cases h
 | osl x id h=>exact h
theorem RV.op_inv {id i j:Nat} (h:RV w S K x (.op id i j)):∀ sz v,K id=some (sz,v) -> ∃ g,aH v=some g /\ x=.pointer (some ⟨g,i * sz+j,none⟩):=by
 cases h with
 | tree h=>cases h
 | op x id i j h=>exact h
end
def cS (nx:Nat):List (Nat × AV) -> Prop
 | []=>True
 | (_,av) :: l=>av.lt nx /\ cS nx l
inductive ar where
 | box (t:TypeId) (cells:List AV)
 | nest (e:TypeId) (sz:Nat) (rows:List (List AV))
 | row (e:TypeId) (sz:Nat) (rows:List (List AV))
 | map (ents:List (Value × Value))
 | ghost (vs:Array Value) (env:List (Nat × AV))
def ar.sz:ar -> Nat
 | .box _ cells=>cells.length
 | .nest _ sz _=>sz
 | .row _ sz _=>sz
 | .map _=>0
 | .ghost _ _=>0
def ar.lt (nx:Nat):ar -> Prop
 | .box _ cells=>AV.ltL nx cells
 | .nest _ _ rows=>∀ row ∈ rows,AV.ltL nx row
 | .row _ _ _=>True
 | .map _=>True
 | .ghost _ env=>cS nx env
def IZ:List TypeId:=[]
def xq (t:TypeId):Bool:=IZ.contains t
def Jz (b:Bool) (e:TypeId) (sz:Nat) (rows:List (List AV)):ar:=match b with
 | true=>.nest e sz rows
 | false=>.row e sz rows
abbrev aa:=List (Nat × Option ar)
def aa.get:aa -> Nat -> Option ar
 | [],_=>none
 | (k,o) :: l,id=>if id=k then o else aa.get l id
theorem aa.gc (k:Nat) (o:Option ar) (l:aa) (id:Nat):aa.get ((k,o) :: l) id=if id=k then o else l.get id:=rfl
def bl:List (Nat × AV) -> Nat -> AV
 | [],_=>.any
 | (k,v) :: l,t=>if t=k then v else bl l t
theorem gS {nx:Nat}:∀ {l:List (Nat × AV)},cS nx l -> ∀ t,(bl l t).lt nx
 | [],_,_=>trivial
 | (k,av) :: l,h,t=>by
  unfold bl;split
  .exact h.1
  .exact gS h.2 t
theorem dG {n m:Nat} (hnm:n<=m):∀ {l:List (Nat × AV)},cS n l -> cS m l
 | [],_=>trivial
 | (_,_) :: _,h=>⟨AV.lt_mono hnm h.1,dG hnm h.2⟩
structure ak where
 n:Nat
 env:List (Nat × AV)
 tab:aa
 next:Nat
def ak.get (st:ak) (t:Nat):AV:=if t<st.n then bl st.env t else .any
def ak.put (st:ak) (dst:Option Nat) (av:AV):ak:=
 match dst with
 | some d=>{ st with env:=(d,av) :: st.env }
 | none=>st
structure Cx where
 F:Nat -> Prop
 w0:World
 /-- memory of somebody else's: neither read nor written -/
 X:Nat -> Prop
 amb:Ac w0
 exD:∀ b,X b -> r4<=b
 inF:∀ b,b<r4 -> F b
structure Ax (w:World) (S:Nat -> Prop):Prop where
 sub:∀ b,S b -> b<w.heap.size
 amb:Ac w
 tab:∀ b,b<r4 -> S b
instance {w:World} {S:Nat -> Prop}:CoeFun (Ax w S) fun _=>∀ b,S b -> b<w.heap.size:=⟨fun h=>h.sub⟩
abbrev Cx.mk0 (S:Nat -> Prop) (w:World) (hS:Ax w S):Cx:=⟨S,w,fun _=>False,hS.amb,fun _ h=>h.elim,hS.tab⟩
theorem Ac.below {w w':World} (h:Ac w) (hb:Below w.heap.size w w'):Ac w':=h.keep (Lf h.le hb.size) fun k hk=>hb.block k (K1 hk h.le)
theorem Ac.all {w:World} (h:Ac w):Ax w (fun b=>b<w.heap.size):=⟨fun b hb=>hb,h,fun b hb=>K1 hb h.le⟩
structure dZ (X:Nat -> Prop) (n:Nat) (w w':World):Prop where
 os:w'.os=w.os
 tape:w'.tape=w.tape
 output:w'.output=w.output
 size:w.heap.size<=w'.heap.size
 block:∀ k,k<n -> ¬ X k -> w'.heap[k]? = w.heap[k]?
theorem dZ.trans {X:Nat -> Prop} {n:Nat} {a b c:World} (h:dZ X n a b) (k:dZ X n b c):dZ X n a c:=
 ⟨k.os.trans h.os,k.tape.trans h.tape,k.output.trans h.output,Lf h.size k.size,fun i hi hx=>(k.block i hi hx).trans (h.block i hi hx)⟩
theorem mZ {X:Nat -> Prop} {n:Nat} {a b:World} (h:Below n a b):dZ X n a b:=⟨h.os,h.tape,h.output,h.size,fun i hi _=>h.block i hi⟩
theorem dZ.below {X:Nat -> Prop} {n:Nat} {a b:World} (h:dZ X n a b) (hx:∀ b,¬ X b):Below n a b:=⟨h.os,h.tape,h.output,h.size,fun i hi=>h.block i hi (hx i)⟩
def Sx (c:Cx) (w:World) (tab:aa) (L:Nat -> Value) (b:Nat):Prop:=b<w.heap.size /\ ((c.F b \/ c.w0.heap.size<=b) /\ ¬ c.X b) /\ ∀ id o,tab.get id=some o -> aH (L id) ≠ some b
def Kx (tab:aa) (L:Nat -> Value) (id:Nat):Option (Nat × Value):=(tab.get id).map fun o=>(o.sz,L id)
abbrev bx (c:Cx) (w:World) (tab:aa) (L:Nat -> Value):Value -> AV -> Prop:=RV w (Sx c w tab L) (Kx tab L)
def cR (w:World) (base:Nat) (e:TypeId) (size:Nat) (v:Value) (n:Nat) (xs:List Value):Prop:=
  xs.length=n * size /\
  ((v=.slice none 0 0 /\ n=0) \/
   ∃ g cap cur,v=.slice (some ⟨g,0,none⟩) n cap /\ base<=g /\ w.heap[g]? = some (.cells cur e (0,0)) /\ n<=cap /\ cap<=maxLen /\ cap * size<=cur.size /\ cur.toList.take (n * size)=xs)
theorem C0 {w:World} {base e size n:Nat} {v:Value} {xs:List Value} (h:w.ownsRow base e size v n xs):cR w base e size v n xs:=by
 refine ⟨h.1,?_⟩;rcases h.2 with hn|⟨g,cap,cur,h1,h2,h3,h4,h5,h6,h7⟩
 .exact .inl hn
 .exact .inr ⟨g,cap,cur,h1,h2,h3,h4,h5,by omega,h7⟩
theorem gC (w:World) (base:Nat) (e:TypeId) (size:Nat):cR w base e size (.slice none 0 0) 0 []:=⟨by simp,.inl ⟨rfl,rfl⟩⟩
theorem cR.lt {w:World} {base e size n:Nat} {v:Value} {xs:List Value} (h:cR w base e size v n xs):∀ k,v.ownBlock=some k -> base<=k /\ k<w.heap.size:=by
 intro k hk;rcases h.2 with ⟨rfl,_⟩|⟨g,cap,cur,rfl,hb,hg,_⟩
 .simp [Value.ownBlock] at hk
 .simp [Value.ownBlock] at hk;subst hk;exact ⟨hb,(Lt.1 hg).1⟩
theorem cR.base {w:World} {base base' e size n:Nat} {v:Value} {xs:List Value} (h:cR w base e size v n xs) (hb:base'<=base):cR w base' e size v n xs:=by
 refine ⟨h.1,?_⟩;rcases h.2 with hn|⟨g,cap,cur,h1,h2,rest⟩
 .exact .inl hn
 .exact .inr ⟨g,cap,cur,h1,Lf hb h2,rest⟩
theorem cR.cells {w:World} {base e size n:Nat} {v:Value} {xs:List Value} (h:cR w base e size v n xs) {g:Nat} (hg:v.ownBlock=some g):∀ j u,xs[j]? = some u -> w.cell? ((⟨g,0,none⟩:Addr).add j)=some u:=by
 intro j u hu;rcases h.2 with ⟨rfl,_⟩|⟨g',cap,cur,rfl,_,hgg,_,_,_,htake⟩
 .simp [Value.ownBlock] at hg
 .simp [Value.ownBlock] at hg;subst hg;have hadd:(⟨g',0,none⟩:Addr).add j=⟨g',j,none⟩:=by unfold Addr.add;split<;>simp_all
  rw [hadd,cell_of_row w g' j cur e (0,0) hgg];rw [<- htake,Ly] at hu;split at hu
  .simpa using hu
  .cases hu
def fa (c:Cx) (w:World) (tab:aa) (L:Nat -> Value) (v:Value):ar -> Prop
 | .box t cells=>∃ g cs,v=.pointer (some ⟨g,0,none⟩) /\ c.w0.heap.size<=g /\ w.heap[g]? = some (.cells cs t (0,0)) /\ cs.size=cells.length /\ ∀ (j:Nat) (x:Value) (av:AV),cs[j]? = some x -> cells[j]? = some av -> bx c w tab L x av /\ x.oneCell'=true
 | .nest e sz rows=>(∀ row ∈ rows,row.length=sz) /\ ∃ xs,cR w c.w0.heap.size e sz v rows.length xs /\ (∀ x ∈ xs,x.oneCell'=true) /\ ∀ (i j:Nat) (row:List AV) (av:AV),rows[i]? = some row -> row[j]? = some av -> ∃ x,xs[i * sz+j]? = some x /\ bx c w tab L x av
 | .row e sz rows=>(∀ row ∈ rows,row.length=sz) /\ ∃ xs,cR w c.w0.heap.size e sz v rows.length xs /\ (∀ x ∈ xs,x.oneCell'=true) /\ ∀ (i j:Nat) (row:List AV) (av:AV),rows[i]? = some row -> row[j]? = some av -> ∃ x,xs[i * sz+j]? = some x /\ RT w (Sx c w tab L) x av
 | .map ents=>∃ b es ck,v=.map (some b) /\ c.w0.heap.size<=b /\ w.heap[b]? = some (.map es ck) /\ es.toList.map (fun e=>(e.key,e.val))=ents
 | .ghost vs env=>v=.bool false /\ ∀ t,t<vs.size -> bx c w tab L (vs.getD t undef) (bl env t)
structure fY (c:Cx) (w:World) (tab:aa) (L:Nat -> Value):Prop where
 below:dZ c.X c.w0.heap.size c.w0 w
 objs:∀ id o,tab.get id=some o -> fa c w tab L (L id) o
 sep:∀ id id' o o' g,tab.get id=some o -> tab.get id'=some o' -> aH (L id)=some g -> aH (L id')=some g -> id=id'
 ex:∀ b,c.X b -> b<w.heap.size /\ ∀ id o,tab.get id=some o -> aH (L id) ≠ some b
theorem fY.amb {c:Cx} {w:World} {tab:aa} {L:Nat -> Value} (h:fY c w tab L):Ac w:=
 c.amb.keep (Lf c.amb.le h.below.size) fun k hk=>h.below.block k (K1 hk c.amb.le) fun hx=>by have:=c.exD k hx;omega
theorem fY.sok {c:Cx} {w:World} {tab:aa} {L:Nat -> Value} (h:fY c w tab L):Ax w (Sx c w tab L):=
 ⟨fun b hb=>hb.1,h.amb,fun b hb=>⟨K1 hb h.amb.le,⟨.inl (c.inF b hb),fun hx=>by have:=c.exD b hx;omega⟩,fun id o hid hg=>by
  have h1:=h.objs id o hid
  have h2:c.w0.heap.size<=b:=by
   cases o with
   | box t cells=>
    obtain ⟨g,cs,h3,h4,_⟩:=h1;rw [h3] at hg;cases hg;exact h4
   | row e sz rows=>
    obtain ⟨_,xs,h3,_⟩:=h1;rcases h3.2 with ⟨h4,_⟩|⟨g,cap,cur,h4,h5,_⟩
    .rw [h4] at hg;cases hg
    .rw [h4] at hg;cases hg;exact h5
   | nest e sz rows=>
    obtain ⟨_,xs,h3,_⟩:=h1;rcases h3.2 with ⟨h4,_⟩|⟨g,cap,cur,h4,h5,_⟩
    .rw [h4] at hg;cases hg
    .rw [h4] at hg;cases hg;exact h5
   | map ents=>
    obtain ⟨b',es,ck,h3,h4,_⟩:=h1;rw [h3] at hg;cases hg;exact h4
   | ghost vs env=>
    rw [h1.1] at hg;cases hg
  have:=c.amb.le;omega⟩⟩
def iV (base:Nat) (w:World) (S:Nat -> Prop) (ds:List Deferred):Prop:=
 ds.Nodup /\ ∀ d ∈ ds,∃ k,d={ target:=.collected k,args:=#[] } /\ base<=k /\ w.heap[k]? = some (.deferred (some [])) /\ S k
theorem iV.nil (base:Nat) (w:World) (S:Nat -> Prop):iV base w S []:=⟨List.nodup_nil,fun d hd=>(by cases hd)⟩
theorem iV.mono {base:Nat} {w w':World} {S S':Nat -> Prop} {ds:List Deferred} (h:iV base w S ds) (hb:∀ b,S b -> w'.heap[b]? = w.heap[b]?) (hS:∀ b,S b -> S' b):iV base w' S' ds:=
 ⟨h.1,fun d hd=>(h.2 d hd).elim fun k hk=>⟨k,hk.1,hk.2.1,(hb k hk.2.2.2).trans hk.2.2.1,hS k hk.2.2.2⟩⟩
structure aI (c:Cx) (a:Act) (w:World) (st:ak) (L:Nat -> Value):Prop where
 lay:fY c w st.tab L
 size:a.tmps.size=st.n
 defers:iV c.w0.heap.size w (Sx c w st.tab L) a.defers
 young:∀ id o,st.tab.get id=some o -> id<st.next /\ o.lt st.next
 env:∀ t,bx c w st.tab L (a.tmps.getD t undef) (st.get t) /\ (st.get t).lt st.next
end
section
def bG (P:Program) (t:TypeId):Bool:=match P.underlying t with | some (.struct _) | some (.array _ _)=>true | _=>false
def am (P:Program) (t:TypeId):Nat:=match P.underlying t,P.info? t with | some _,some i=>i.size | _,_=>0
def bh (P:Program) (t:TypeId):Nat × Nat:=match P.underlying t with | some (.slice e)=>(e,am P e) | _=>(0,0)
def bv (P:Program) (s:TypeId) (f:Nat):Option Nat:=match P.underlying s with
 | some (.struct fields)=>match fields[f]? with
  | some fd=>if am P fd.type=0 then none else some fd.offset
  | none=>none
 | _=>none
def B6 (P:Program) (s:TypeId) (f:Nat):TypeId:=match P.underlying s with
 | some (.struct fields)=>match fields[f]? with
  | some fd=>fd.type
  | none=>0
 | _=>0
def x8 (P:Program) (t:TypeId):Option IntKind:=match P.underlying t with | some (.int k)=>some k | _=>none
inductive Jy where | bool | int | str | slice | other
def vt (P:Program) (t:TypeId):Jy:=match P.underlying t with | some .bool=>.bool | some (.int _)=>.int | some .string=>.str | some (.slice _)=>.slice | _=>.other
section
variable {P:Program} {t:TypeId}
theorem pd (h:bG P t=true) (w:World):(isAgg t).run P w=.ok true w:=by
 unfold bG at h
 cases hu:P.underlying t with
 | none=>simp [hu] at h
 | some d=>
  unfold isAgg;rw [Sem.run_bind,run_underlying hu w];cases d<;>simp_all
theorem nN {d:TypeDesc} (hu:P.underlying t=some d) (h:bG P t=false) (w:World):(isAgg t).run P w=.ok false w:=by
 unfold bG at h;unfold isAgg;rw [Sem.run_bind,run_underlying hu w];cases d<;>simp_all
theorem lk (h:0<am P t):∃ d i,P.underlying t=some d /\ P.info? t=some i /\ i.size=am P t:=by
 unfold am at *;cases hu:P.underlying t<;>cases hi:P.info? t<;>simp_all
theorem cF (h:0<am P t) (w:World):(sizeOf t).run P w=.ok (am P t) w:=by
 obtain ⟨d,i,_,hi,he⟩:=lk h;simp [sizeOf,typeInfo,hi,he]
end
def a6 (st:ak):Operand -> AV
 | .tmp t=>st.get t
 | .const v=>.c v
 | .func f=>.c (.func (.func f) #[] #[])
 | .global _=>.any
def mg (P:Program) (t:TypeId) (cs:List AV) (K:AV -> Prop):Prop:=
 0<am P t /\ am P t<=cs.length /\ if bG P t=true then K (.agg (cs.take (am P t))) else K (cs.headD .any)
def iy (P:Program) (t:TypeId) (tab:aa) (x:AV) (K:AV -> Prop):Prop:=
 match x with
 | .rp cs=>mg P t cs K
 | .op id i j=>match tab.get id with
  | some (.box _ cells)=>i=0 /\ mg P t (cells.drop j) K
  | some (.row _ _ rows)=>i<rows.length /\ mg P t ((rows[i]?.getD []).drop j) K
  | some (.nest _ _ rows)=>i<rows.length /\ mg P t ((rows[i]?.getD []).drop j) K
  | _=>False
 | _=>False
def lE (P:Program) (s:TypeId) (tab:aa) (x:AV) (f:Nat) (K:AV -> Prop):Prop:=
 match bv P s f with
 | some d=>match x with
  | .rp cs=>K (.rp (cs.drop d))
  | .op id i j=>match tab.get id with
   | some _=>K (.op id i (j+d))
   | none=>False
  | _=>False
 | none=>False
def gm (P:Program) (t:TypeId):Nat × Nat:=match P.underlying t with | some (.array n e)=>(n,am P e) | _=>(0,0)
def gT (P:Program) (t:TypeId) (tab:aa) (x ix:AV) (K:AV -> Prop):Prop:=
 match ix with
 | .c (.int _ n)=>match x with
  | .op id i j=>match tab.get id with
   | some _=>0<(gm P t).2 /\ 0<=n /\ n<(gm P t).1 /\ K (.op id i (j+n.toNat * (gm P t).2))
   | none=>False
  | .rp cs=>0<(gm P t).2 /\ 0<=n /\ n<(gm P t).1 /\ K (.rp (cs.drop (n.toNat * (gm P t).2)))
  | .sl sz rows=>(bh P t).2=sz /\ 0<sz /\ 0<=n /\ n<rows.length /\ K (.rp (rows[n.toNat]?.getD []))
  | .osl id=>match tab.get id with
   | some (.row _ sz rows)=>(bh P t).2=sz /\ 0<sz /\ 0<=n /\ n<rows.length /\ K (.op id n.toNat 0)
   | some (.nest _ sz rows)=>(bh P t).2=sz /\ 0<sz /\ 0<=n /\ n<rows.length /\ K (.op id n.toNat 0)
   | _=>False
  | _=>False
 | _=>False
def oW (P:Program) (t:TypeId) (tab:aa) (x:AV) (K:AV -> Prop):Prop:=
 match x with
 | .sl _ rows=>(bh P t).2 ≠ 0 /\ K (.c (.int .i64 rows.length))
 | .osl id=>match tab.get id with
  | some (.row _ _ rows)=>(bh P t).2 ≠ 0 /\ K (.c (.int .i64 rows.length))
  | some (.nest _ _ rows)=>(bh P t).2 ≠ 0 /\ K (.c (.int .i64 rows.length))
  | _=>False
 | .c (.slice _ n _)=>(bh P t).2 ≠ 0 /\ K (.c (.int .i64 n))
 | .c (.string s)=>vt P t=.str /\ K (.c (.int .i64 s.size))
 | _=>False
def ez (op:BinOp) (k:Jy):Value -> Value -> Option Value
 | .int i a,.int j b=>if i=j then
   match op with
   | .add=>some (.int i (i.wrap (a+b)))
   | .sub=>some (.int i (i.wrap (a - b)))
   | .mul=>some (.int i (i.wrap (a * b)))
   | .quo=>if b=0 then none else some (.int i (i.wrap (a.tdiv b)))
   | .rem=>if b=0 then none else some (.int i (a.tmod b))
   | .eql=>some (.bool (a == b))
   | .neq=>some (.bool (a != b))
   | .lss=>some (.bool (decide (a<b)))
   | .leq=>some (.bool (decide (a<=b)))
   | .gtr=>some (.bool (decide (b<a)))
   | .geq=>some (.bool (decide (b<=a)))
   | .and=>some (.int i (bits .and i a b))
   | .or=>some (.int i (bits .or i a b))
   | .xor=>some (.int i (bits .xor i a b))
   | .andNot=>some (.int i (bits .andNot i a b))
   | .shl=>if b<0 then none else some (.int i (i.wrap (a * 2 ^ (min b.toNat i.bits))))
   | .shr=>if b<0 then none else some (.int i (a.fdiv (2 ^ (min b.toNat i.bits))))
  else none
 | .bool a,.bool b=>match k,op with
   | .bool,.eql=>some (.bool (a == b))
   | .bool,.neq=>some (.bool (!(a == b)))
   | _,_=>none
 | .string a,.string b=>match op with
   | .eql=>some (.bool (a == b))
   | .neq=>some (.bool (!(a == b)))
   | .add=>if a.size+b.size<=9223372036854775807 then some (.string (a ++ b)) else none
   | _=>none
 | .slice none _ _,.slice none _ _=>match k,op with
   | .slice,.eql=>some (.bool true)
   | .slice,.neq=>some (.bool false)
   | _,_=>none
 | _,_=>none
def ux (op:BinOp) (k:Jy) (rows:List (List AV)) (b:Value) (K:AV -> Prop):Prop:=
 match k,op,b with
 | .slice,.eql,.slice none 0 0=>∀ c:Bool,(c=true -> rows=[]) -> K (.c (.bool c))
 | .slice,.neq,.slice none 0 0=>∀ c:Bool,(c=false -> rows=[]) -> K (.c (.bool c))
 | _,_,_=>False
def Gb (f:Int -> Int -> Int):List AV -> (AV -> Prop) -> Prop
 | [.c (.int k a),.c (.int _ b)],K=>K (.c (.int k (f a b)))
 | _,_=>False
def Ge (op:UnOp):Value -> Option Value
 | .bool b=>match op with | .not=>some (.bool (!b)) | _=>none
 | .int k n=>match op with | .neg=>some (.int k (k.wrap (0 - n))) | _=>none
 | _=>none
def pt:List AV -> Option (List Value)
 | []=>some []
 | .c v :: l=>match pt l with
  | some vs=>some (v :: vs)
  | none=>none
 | _=>none
def pD (P:Program) (op:BinOp) (t:TypeId) (a b r:Value):Prop:=∀ (w:World) (x y:Operand),(do eqGuard op t x y a b;binOp op t a b:Sem Value).run P w=.ok r w
def xY (P:Program) (op:BinOp) (t:TypeId) (K:AV -> Prop):Option (List Value) -> Option (List Value) -> Prop
 | some vs,some us=>∃ r,pD P op t (.agg vs.toArray) (.agg us.toArray) r /\ K (.c r)
 | _,_=>False
def sg (P:Program) (op:BinOp) (t:TypeId) (x y:AV) (K:AV -> Prop):Prop:=
 match x,y with
 | .c a,.c b=>match ez op (vt P t) a b with
  | some v=>K (.c v)
  | none=>False
 | .agg xs,.agg ys=>xY P op t K (pt xs) (pt ys)
 | .sl _ rows,.c b=>ux op (vt P t) rows b K
 | _,_=>False
def Io (op:UnOp) (x:AV) (K:AV -> Prop):Prop:=
 match x with
 | .c a=>match Ge op a with
  | some v=>K (.c v)
  | none=>False
 | _=>False
def Kr (t:Bool) (a b:AV) (K:AV -> Prop):Prop:=match t with | true=>K a | false=>K b
def AY (c a b:AV) (K:AV -> Prop):Prop:=
 match c with
 | .c (.bool t)=>Kr t a b K
 | _=>False
def iz (x:AV) (i:Nat) (K:AV -> Prop):Prop:=
 match x with
 | .tup vs=>i<vs.length /\ K (vs[i]?.getD .any)
 | _=>False
def DY (P:Program) (src dst:TypeId) (x:AV) (K:AV -> Prop):Prop:=
 match x8 P src,x8 P dst,x with
 | some _,some k,.c (.int _ n)=>K (.c (.int k (k.wrap n)))
 | _,_,_=>False
def oA (P:Program) (s:TypeId) (x:AV) (f:Nat) (K:AV -> Prop):Prop:=
 match bv P s f with
 | some d=>match x with
  | .agg cs=>d+am P (B6 P s f)<=cs.length /\ if bG P (B6 P s f)=true then K (.agg ((cs.drop d).take (am P (B6 P s f)))) else K ((cs.drop d).headD .any)
  | _=>False
 | none=>False
def J1 (f:Fn) (b:Bool) (cs:List AV) (K:AV -> Prop):Prop:=
 match f,b with
 | .func g,true=>K (.fn g cs)
 | _,_=>False
def Ga (f:Fn) (b:Bool) (bs:List AV) (K:AV -> Prop):Prop:=
 match f,b with
 | .func g,true=>K (.bfn g bs)
 | _,_=>False
def Aw (d:Int):Option AV -> Option Int
 | none=>some d
 | some (.c (.int _ n))=>some n
 | _=>none
def oz (P:Program) (t:TypeId) (sz:Nat) (rows:List (List AV)) (K:AV -> Prop):Option Int -> Option Int -> Option AV -> Prop
 | some l,some h,none=>((bh P t).2=sz /\ 0<sz) /\ (0<=l /\ l<=h /\ h<=(rows.length:Int)) /\ K (.sl sz ((rows.take h.toNat).drop l.toNat))
 | _,_,_=>False
def oc (P:Program) (t:TypeId) (s:ByteArray) (K:AV -> Prop):Option Int -> Option Int -> Option AV -> Prop
 | some l,some h,none=>vt P t=.str /\ (0<=l /\ l<=h /\ h<=(s.size:Int)) /\ K (.c (.string (s.extract l.toNat h.toNat)))
 | _,_,_=>False
def j7 (P:Program) (t:TypeId) (x:AV) (lo hi mx:Option AV) (K:AV -> Prop):Prop:=
 match x with
 | .sl sz rows=>oz P t sz rows K (Aw 0 lo) (Aw rows.length hi) mx
 | .c (.string s)=>oc P t s K (Aw 0 lo) (Aw s.size hi) mx
 | _=>False
def uS (tab:aa) (x:AV) (K:AV -> Prop):Prop:=
 match x with
 | .rp cs=>K (.rp cs)
 | .op id i j=>match tab.get id with
  | some _=>K (.op id i j)
  | none=>False
 | _=>False
def bO (P:Program) (tab:aa) (ev:Operand -> AV) (o:Op) (K:AV -> Prop):Prop:=
 match o with
 | .move x=>K (ev x)
 | .assign x=>K (ev x)
 | .pick c a b=>AY (ev c) (ev a) (ev b) K
 | .load t x=>iy P t tab (ev x) K
 | .fieldAddr s x f=>lE P s tab (ev x) f K
 | .indexAddr t x ix=>gT P t tab (ev x) (ev ix) K
 | .field s x f=>oA P s (ev x) f K
 | .binOp op t x y _=>sg P op t (ev x) (ev y) K
 | .unOp op _ x=>Io op (ev x) K
 | .extract x i=>iz (ev x) i K
 | .convert s d x=>DY P s d (ev x) K
 | .call c=>match c.callee with
  | .builtin .len=>match c.args.toList,c.argTypes.toList with
   | [x],[t]=>oW P t tab (ev x) K
   | _,_=>False
  | .builtin .max=>Gb (fun a b=>max a b) (c.args.toList.map ev) K
  | .builtin .min=>Gb (fun a b=>min a b) (c.args.toList.map ev) K
  | _=>False
 | .makeFunc f first caps=>J1 f (first.size == 0) (caps.toList.map ev) K \/ Ga f (caps.size == 0 && !(first.size == 0)) (first.toList.map ev) K
 | .slice t x lo hi mx=>j7 P t (ev x) (lo.map ev) (hi.map ev) (mx.map ev) K
 | .nilCheck x=>uS tab (ev x) K
 | _=>False
def ED (P:Program) (cx:Cx) (w:World) (tab:aa) (L:Nat -> Value) (nx:Nat) (K:AV -> Prop) (s:Sem Value):Prop:=
 ∃ v av,K av /\ bx cx w tab L v av /\ av.lt nx /\ ∀ w',Below w.heap.size w w' -> s.run P w'=.ok v w'
def kB (P:Program) (cx:Cx) (w:World) (tab:aa) (L:Nat -> Value) (nx:Nat) (K:AV -> Prop) (s:Sem Value):Prop:=
 ∃ v av,K av /\ bx cx w tab L v av /\ av.lt nx /\ ∀ w',s.run P w'=.ok v w'
section
variable {P:Program} {cx:Cx} {w:World} {tab:aa} {L:Nat -> Value} {nx:Nat} {K:AV -> Prop}
def rg (b:Nat) (w w':World):Prop:=∀ (o:Nat) (u:Value),w.cell? ⟨b,o,none⟩=some u -> w'.cell? ⟨b,o,none⟩=some u
def me (P:Program) (cx:Cx) (w:World) (tab:aa) (L:Nat -> Value) (nx:Nat) (K:AV -> Prop) (v:Value) (s:Sem Value):Prop:=
 ∃ u av,K av /\ bx cx w tab L u av /\ av.lt nx /\ ∃ b,aH v=some b /\ ∀ w',rg b w w' -> s.run P w'=.ok u w'
theorem me.one {v:Value} {s:Sem Value} (h:me P cx w tab L nx K v s):ED P cx w tab L nx K s:=by
 obtain ⟨u,av,h1,h2,h3,b,_,h4⟩:=h;exact ⟨u,av,h1,h2,h3,fun w' hw'=>h4 w' fun o u hu=>(hw'.cell (World.block_lt_of_cell? w _ hu)).trans hu⟩
omit tab L nx K in
theorem m8 {f:Nat -> Value} {n j:Nat} {x:Value} (h:((List.range n).map f)[j]? = some x):j<n /\ f j=x:=by
 obtain ⟨hj,he⟩:=KS.1 h;simp at hj he;exact ⟨hj,he⟩
theorem si {t:TypeId} {b o:Nat} {cs:List AV} (hc:∀ j av,cs[j]? = some av -> ∃ u,w.cell? ⟨b,o+j,none⟩=some u /\ bx cx w tab L u av) (hl:AV.ltL nx cs) (h:mg P t cs K) :
  me P cx w tab L nx K (.pointer (some ⟨b,o,none⟩)) (Instr.loadAt t (.pointer (some ⟨b,o,none⟩))):=by
 obtain ⟨h0,h1,h2⟩:=h;obtain ⟨d,i,hu,hi,he⟩:=lk h0
 cases ha:bG P t with
 | true=>
  rw [K5 ha] at h2
  obtain ⟨f,hf⟩:∃ f:Nat -> Value,∀ j av,(cs.take (am P t))[j]? = some av -> w.cell? ⟨b,o+j,none⟩=some (f j) /\ bx cx w tab L (f j) av:=by
   refine ⟨fun j=>(w.cell? ⟨b,o+j,none⟩).getD undef,fun j av hj=>?_⟩;rw [Ly] at hj;split at hj
   .obtain ⟨u,hu,hr⟩:=hc j av hj;simp only [hu,Lm];exact ⟨trivial,hr⟩
   .cases hj
  have hlen:(cs.take (am P t)).length=am P t:=by rw [K6];omega
  refine ⟨.agg ((List.range (am P t)).map f).toArray,_,h2,.agg _ _ (by simp [hlen]) (fun j x av hx hav=>?_),?_,b,rfl,fun w' hb=>?_⟩
  .have:=(hf j av hav).2;rw [Mi] at hx;obtain ⟨_,rfl⟩:=m8 hx;exact this
  .show AV.ltL nx _;rw [ag] at hl ⊢;exact fun a ha=>hl a (Lk ha)
  .have hcl:=run_loadCells_list (P:=P) w' ⟨b,o,none⟩ ((List.range (am P t)).map f) (fun j v hv=>by
    obtain ⟨hj,rfl⟩:=m8 hv;rw [Addr.add_lit];have hx:j<(cs.take (am P t)).length:=(by omega);exact hb _ _ (hf j _ (KN hx)).1)
   rw [Lg,List.length_range] at hcl;simp [Instr.loadAt,Instr.sureAddr,loadVar,Sem.run_bind,pd ha,cF h0,hcl]
 | false=>
  rw [KY (by simp [ha])] at h2
  obtain ⟨av,cs',rfl⟩:∃ av cs',cs=av :: cs':=by
   cases cs with
   | nil=>simp at h1;omega
   | cons a l=>exact ⟨a,l,rfl⟩
  obtain ⟨u,hcell,hr⟩:=hc 0 av rfl;refine ⟨u,av,h2,hr,hl.1,b,rfl,fun w' hb=>?_⟩;have:=hb _ _ hcell;rw [Nat.add_zero] at this;simp [Instr.loadAt,Instr.sureAddr,loadVar,Sem.run_bind,nN hu ha,run_load,this]
theorem tT {cs:List AV} (h:AV.ltL nx cs) (n:Nat):AV.ltL nx (cs.drop n):=by
 rw [ag] at h ⊢;exact fun a ha=>h a (LP ha)
theorem bI {id:Nat} {o:ar} (h:tab.get id=some o):Kx tab L id=some (o.sz,L id):=by simp [Kx,h]
theorem p7 {t:TypeId} {b o:Nat} {cs:List AV} {S:Nat -> Prop} (hc:∀ j av,cs[j]? = some av -> ∃ u,w.cell? ⟨b,o+j,none⟩=some u /\ RT w (Sx cx w tab L) u av) (h:mg P t cs K) :
  me P cx w tab L nx K (.pointer (some ⟨b,o,none⟩)) (Instr.loadAt t (.pointer (some ⟨b,o,none⟩))):=
 si (fun j av hj=>by obtain ⟨u,h1,h2⟩:=hc j av hj;exact ⟨u,h1,.tree h2⟩) (ag.2 fun a ha=>by
  obtain ⟨j,hj⟩:=LO ha;obtain ⟨u,_,h2⟩:=hc j a hj;exact h2.lt nx) h
theorem mR {e:TypeId} {sz:Nat} {v:Value} {rows:List (List AV)} {g:Nat} (h:fa cx w tab L v (.row e sz rows)) (hg:aH v=some g) {i:Nat} (hi:i<rows.length) (j:Nat) (av:AV) (hj:(rows[i]?.getD [])[j]? = some av) :
  ∃ u,w.cell? ⟨g,i * sz+j,none⟩=some u /\ RT w (Sx cx w tab L) u av:=by
 obtain ⟨hsz,xs,hown,_,hx⟩:=h;rw [KN hi,Lm] at hj;obtain ⟨x,h1,h2⟩:=hx i j _ av (KN hi) hj;refine ⟨x,?_,h2⟩;rcases hown.2 with ⟨rfl,h0⟩|⟨g',cap,cur,rfl,_⟩
 .omega
 .have hc:=hown.cells (g:=g') rfl _ x h1;simp [aH] at hg;subst hg
  rwa [gQ] at hc
theorem xA {e:TypeId} {sz:Nat} {v:Value} {rows:List (List AV)} {g:Nat} (h:fa cx w tab L v (.nest e sz rows)) (hg:aH v=some g) {i:Nat} (hi:i<rows.length) (j:Nat) (av:AV) (hj:(rows[i]?.getD [])[j]? = some av) :
  ∃ u,w.cell? ⟨g,i * sz+j,none⟩=some u /\ bx cx w tab L u av:=by
 obtain ⟨hsz,xs,hown,_,hx⟩:=h;rw [KN hi,Lm] at hj;obtain ⟨x,h1,h2⟩:=hx i j _ av (KN hi) hj;refine ⟨x,?_,h2⟩;rcases hown.2 with ⟨rfl,h0⟩|⟨g',cap,cur,rfl,_⟩
 .omega
 .have hc:=hown.cells (g:=g') rfl _ x h1;simp [aH] at hg;subst hg
  rwa [gQ] at hc
theorem nz {t:TypeId} {v:Value} {cells:List AV} {g:Nat} (h:fa cx w tab L v (.box t cells)) (hg:aH v=some g) (j:Nat) (av:AV) (hj:cells[j]? = some av) :
  ∃ u,w.cell? ⟨g,j,none⟩=some u /\ bx cx w tab L u av:=by
 obtain ⟨g',cs,rfl,_,hheap,hn,hx⟩:=h;simp [aH] at hg;subst hg;have hlt:j<cs.size:=by rw [hn];exact (KS.1 hj).1
 exact ⟨cs[j],by rw [cell_of_row w g' j cs t (0,0) hheap];exact KT hlt,(hx j _ av (KT hlt) hj).1⟩
theorem xR {t:TypeId} {v:Value} {x:AV} (hL:fY cx w tab L) (hy:∀ id o,tab.get id=some o -> o.lt nx) (hv:bx cx w tab L v x) (h:iy P t tab x K):me P cx w tab L nx K v (Instr.loadAt t v):=by
 unfold iy at h;split at h
 .rename_i cs;obtain ⟨b,o,U,rfl,hb,hcell,hr⟩:=hv.rp_inv;exact p7 (S:=fun _=>True) (fun j av hj=>⟨U j,hcell j av hj,hr j av hj⟩) h
 .rename_i id i j;split at h
  .rename_i ty cells hid;obtain ⟨rfl,h⟩:=h;obtain ⟨g,hg,rfl⟩:=hv.op_inv _ _ (bI hid);have ho:=hL.objs id _ hid;simp only [ar.sz,Mu,L8];refine si (fun k av hk=>?_) (tT (hy id _ hid) j) h;rw [LF] at hk;exact nz ho hg (j+k) av hk
  .rename_i e sz rows hid;obtain ⟨hi,h⟩:=h;obtain ⟨g,hg,rfl⟩:=hv.op_inv _ _ (bI hid);have ho:=hL.objs id _ hid;refine p7 (S:=fun _=>True) (fun k av hk=>?_) h;rw [LF] at hk;have:=mR ho hg hi (j+k) av hk
   rwa [<- Mj] at this
  .rename_i e sz rows hid;obtain ⟨hi,h⟩:=h;obtain ⟨g,hg,rfl⟩:=hv.op_inv _ _ (bI hid);have ho:=hL.objs id _ hid;refine si (fun k av hk=>?_) (tT (hy id _ hid _ (by rw [KN hi,Lm];exact KQ hi)) j) h;rw [LF] at hk;have:=xA ho hg hi (j+k) av hk
   rwa [<- Mj] at this
  .exact h.elim
 .exact h.elim
theorem qK {s:TypeId} {f d:Nat} (h:bv P s f=some d):∃ fields fd,P.underlying s=some (.struct fields) /\ fields[f]? = some fd /\ 0<am P fd.type /\ fd.offset=d:=by
 unfold bv at h;split at h
 .rename_i fields hu;split at h
  .rename_i fd hf;split at h
   .cases h
   .rename_i h0;cases h;exact ⟨fields,fd,hu,hf,by omega,rfl⟩
  .cases h
 .cases h
theorem nW {s:TypeId} {f d:Nat} (h:bv P s f=some d) (b o:Nat) (w:World):(Instr.fieldAt s (.pointer (some ⟨b,o,none⟩)) f).run P w=.ok (.pointer (some ⟨b,o+d,none⟩)) w:=by
 obtain ⟨fields,fd,hu,hf,h0,rfl⟩:=qK h;simp [Instr.fieldAt,Sem.run_bind,run_underlying hu,hf,Instr.sureAddr,fieldPlace,cF h0,Nat.ne_of_gt h0,Addr.add_lit]
theorem A7 {s:TypeId} {v:Value} {x:AV} {f:Nat} (hl:x.lt nx) (hv:bx cx w tab L v x) (h:lE P s tab x f K):kB P cx w tab L nx K (Instr.fieldAt s v f):=by
 unfold lE at h;split at h
 .rename_i d hd;split at h
  .rename_i cs;obtain ⟨b,o,U,rfl,hb,hcell,hr⟩:=hv.rp_inv;refine ⟨_,_,h,.tree (.rp b (o+d) (cs.drop d) (fun j=>U (d+j)) hb (fun j av hj=>?_) (fun j av hj=>?_)),trivial,fun w'=>nW hd b o w'⟩
   .rw [LF] at hj;rw [Mj];exact hcell _ av hj
   .rw [LF] at hj;exact hr _ av hj
  .rename_i id i j;split at h
   .rename_i ob hid;obtain ⟨g,hg,rfl⟩:=hv.op_inv _ _ (bI hid);refine ⟨_,_,h,.op _ id i (j+d) (fun sz' u' hk'=>?_),hl,fun w'=>nW hd _ _ w'⟩;rw [bI hid] at hk';cases hk';exact ⟨g,hg,by rw [Mj]⟩
   .exact h.elim
  .exact h.elim
 .exact h.elim
theorem zp {s:TypeId} {v:Value} {x:AV} {f:Nat} (hl:x.lt nx) (hv:bx cx w tab L v x) (h:oA P s x f K):kB P cx w tab L nx K (Instr.field s v f):=by
 unfold oA at h;split at h
 .rename_i d hd;obtain ⟨fields,fd,hu,hf,h0,rfl⟩:=qK hd;have ht:B6 P s f=fd.type:=by simp [B6,hu,hf]
  rw [ht] at h;obtain ⟨dd,i,hdu,hi,he⟩:=lk h0;split at h
  .rename_i cs;obtain ⟨xs,rfl,hn,hr⟩:=hv.agg_inv;obtain ⟨hsz,h⟩:=h
   cases ha:bG P fd.type with
   | true=>
    rw [K5 ha] at h;refine ⟨.agg (xs.extract fd.offset (fd.offset+am P fd.type)),_,h,.agg _ _ (by simp;omega) (fun j y av h1 h2=>?_),?_,fun w'=>?_⟩
    .rw [Ly] at h2;split at h2
     .rename_i hj;rw [LF] at h2;rw [Array.getElem?_extract] at h1;split at h1
      .exact hr _ y av h1 h2
      .cases h1
     .cases h2
    .exact ag.2 fun y hy=>ag.1 hl y (LP (Lk hy))
    .simp [Instr.field,Sem.run_bind,run_underlying hu,hf,asAgg,part,pd ha,cF h0]
   | false=>
    rw [KY (by simp [ha])] at h;have hlt:fd.offset<cs.length:=(by omega);have hlt':fd.offset<xs.size:=(by omega);rw [List.drop_eq_getElem_cons hlt,List.headD_cons] at h
    exact ⟨xs[fd.offset],_,h,hr _ _ _ (KT hlt') (KN hlt),ag.1 hl _ (KQ hlt),fun w'=>by
     simp [Instr.field,Sem.run_bind,run_underlying hu,hf,asAgg,part,nN hdu ha,KT hlt']⟩
  .exact h.elim
 .exact h.elim
theorem gI {t:TypeId} (h:0<(bh P t).2):P.underlying t=some (.slice (bh P t).1) /\ am P (bh P t).1=(bh P t).2:=by
 unfold bh at *;split at h
 .rename_i e he;exact ⟨he,rfl⟩
 .simp at h
theorem jy {t:TypeId} (h:0<(bh P t).2) (b o n cap:Nat) (k:IntKind) (i:Int) (h0:0<=i) (h1:i<n) (w:World):(Instr.indexAt t (.slice (some ⟨b,o,none⟩) n cap) (.int k i)).run P w=.ok (.pointer (some ⟨b,o+i.toNat * (bh P t).2,none⟩)) w:=by
 obtain ⟨hu,he⟩:=gI h;have hs:=cF (P:=P) (t:=(bh P t).1) (by omega) w;rw [he] at hs;simp [Instr.indexAt,Sem.run_bind,run_underlying hu,asIntOf,h0,h1,hs,Addr.add_lit]
theorem lN {id:Nat} {v:Value} {e:TypeId} {sz:Nat} {rows:List (List AV)} (hL:fY cx w tab L) (hid:tab.get id=some (.row e sz rows)) (hv:bx cx w tab L v (.osl id)):v=L id /\ ∃ A cap,v=.slice A rows.length cap /\ (0<rows.length -> ∃ g,A=some ⟨g,0,none⟩):=by
 have e1:=hv.osl_inv _ _ (bI hid);refine ⟨e1,?_⟩;obtain ⟨_,xs,hown,_⟩:=hL.objs id _ hid;rw [e1];rcases hown.2 with ⟨h1,h0⟩|⟨g,cap,cur,h1,_⟩
 .rw [h1,h0];exact ⟨none,0,rfl,fun h=>by omega⟩
 .rw [h1];exact ⟨_,cap,rfl,fun _=>⟨g,rfl⟩⟩
theorem iX {id:Nat} {v:Value} {e:TypeId} {sz:Nat} {rows:List (List AV)} (hL:fY cx w tab L) (hid:tab.get id=some (.nest e sz rows)) (hv:bx cx w tab L v (.osl id)):v=L id /\ ∃ A cap,v=.slice A rows.length cap /\ (0<rows.length -> ∃ g,A=some ⟨g,0,none⟩):=by
 have e1:=hv.osl_inv _ _ (bI hid);refine ⟨e1,?_⟩;obtain ⟨_,xs,hown,_⟩:=hL.objs id _ hid;rw [e1];rcases hown.2 with ⟨h1,h0⟩|⟨g,cap,cur,h1,_⟩
 .rw [h1,h0];exact ⟨none,0,rfl,fun h=>by omega⟩
 .rw [h1];exact ⟨_,cap,rfl,fun _=>⟨g,rfl⟩⟩
theorem yT {t:TypeId} (h:0<(gm P t).2):∃ e,P.underlying t=some (.array (gm P t).1 e) /\ am P e=(gm P t).2:=by
 unfold gm at *;split at h
 .rename_i n e he;exact ⟨e,he,rfl⟩
 .simp at h
theorem mv {t:TypeId} (h:0<(gm P t).2) (b o:Nat) (k:IntKind) (i:Int) (h0:0<=i) (h1:i<(gm P t).1) (w:World):(Instr.indexAt t (.pointer (some ⟨b,o,none⟩)) (.int k i)).run P w=.ok (.pointer (some ⟨b,o+i.toNat * (gm P t).2,none⟩)) w:=by
 obtain ⟨e,hu,he⟩:=yT h;have hs:=cF (P:=P) (t:=e) (by omega) w;rw [he] at hs;simp [Instr.indexAt,Sem.run_bind,run_underlying hu,asIntOf,Instr.sureAddr,h0,h1,hs,Addr.add_lit]
theorem Bo {t:TypeId} {v u:Value} {x ix:AV} (hL:fY cx w tab L) (hl:x.lt nx) (hv:bx cx w tab L v x) (hu:bx cx w tab L u ix) (h:gT P t tab x ix K):kB P cx w tab L nx K (Instr.indexAt t v u):=by
 unfold gT at h;split at h
 .rename_i k n;obtain rfl:=hu.c_inv;split at h
  .rename_i id i j;split at h
   .rename_i o hid;obtain ⟨hpos,h0,h1,h⟩:=h;obtain ⟨g,hg,rfl⟩:=hv.op_inv _ _ (bI hid);refine ⟨_,_,h,.op _ id i _ (fun sz' u' hk'=>?_),hl,fun w'=>mv hpos g _ k n h0 h1 w'⟩;rw [bI hid] at hk';cases hk';exact ⟨g,hg,by simp [Mj]⟩
   .exact h.elim
  .rename_i cs;obtain ⟨hpos,h0,h1,h⟩:=h;obtain ⟨b,o,U,rfl,hb,hcell,hr⟩:=hv.rp_inv;refine ⟨_,_,h,.tree (.rp b (o+n.toNat * (gm P t).2) _ (fun j=>U (n.toNat * (gm P t).2+j)) hb (fun j av hj=>?_) (fun j av hj=>?_)),trivial,fun w'=>mv hpos b o k n h0 h1 w'⟩
   .rw [LF] at hj;rw [Mj];exact hcell _ av hj
   .rw [LF] at hj;exact hr _ av hj
  .rename_i sz rows;obtain ⟨hsz,hpos,h0,h1,h⟩:=h;obtain ⟨A,cap,rfl,_,_,hrow,hA⟩:=hv.sl_inv.sl_inv;obtain ⟨b,o,rfl,hb,U,hcell,hr,_⟩:=hA (by omega);have hn:n.toNat<rows.length:=(by omega);rw [KN hn,Lm] at h;refine ⟨_,_,h,.tree (.rp b (o+n.toNat * (bh P t).2) _ (U n.toNat) hb (fun j av hj=>?_) (fun j av hj=>?_)),trivial,fun w'=>jy (by omega) b o _ cap k n h0 h1 w'⟩
   .rw [hsz];exact hcell n.toNat j _ av (KN hn) hj
   .exact hr n.toNat j _ av (KN hn) hj
  .rename_i id;split at h
   .rename_i e sz rows hid;obtain ⟨hsz,hpos,h0,h1,h⟩:=h;obtain ⟨hvL,A,cap,rfl,hA⟩:=lN hL hid hv;obtain ⟨g,rfl⟩:=hA (by omega);refine ⟨_,_,h,.op _ id n.toNat 0 (fun sz' u' hk'=>?_),hl,fun w'=>jy (by omega) g 0 _ cap k n h0 h1 w'⟩;rw [bI hid] at hk';cases hk';exact ⟨g,by rw [<- hvL];rfl,by simp [ar.sz,hsz]⟩
   .rename_i e sz rows hid;obtain ⟨hsz,hpos,h0,h1,h⟩:=h;obtain ⟨hvL,A,cap,rfl,hA⟩:=iX hL hid hv;obtain ⟨g,rfl⟩:=hA (by omega);refine ⟨_,_,h,.op _ id n.toNat 0 (fun sz' u' hk'=>?_),hl,fun w'=>jy (by omega) g 0 _ cap k n h0 h1 w'⟩;rw [bI hid] at hk';cases hk';exact ⟨g,by rw [<- hvL];rfl,by simp [ar.sz,hsz]⟩
   .exact h.elim
  .exact h.elim
 .exact h.elim
theorem fO {t:TypeId} (h:(bh P t).2 ≠ 0) (ty:TypeId) (A:Option Addr) (n cap:Nat) (w:World):(Builtin.len_ #[t] ty #[.slice A n cap]).run P w=.ok (.int .i64 n) w:=by
 obtain ⟨hu,he⟩:=gI (Nat.pos_of_ne_zero h);simp [Builtin.len_,Sem.run_bind,run_underlying hu,goInt]
theorem Ij {t ty:TypeId} {v:Value} {x:AV} (hL:fY cx w tab L) (hv:bx cx w tab L v x) (h:oW P t tab x K):kB P cx w tab L nx K (Builtin.len_ #[t] ty #[v]):=by
 unfold oW at h;split at h
 .rename_i sz rows;obtain ⟨h1,h⟩:=h;obtain ⟨A,cap,rfl,_⟩:=hv.sl_inv.sl_inv;exact ⟨_,_,h,.tree (.c _),trivial,fun w'=>fO h1 ty A _ cap w'⟩
 .rename_i id;split at h
  .rename_i e sz rows hid;obtain ⟨h1,h⟩:=h;obtain ⟨_,A,cap,rfl,_⟩:=lN hL hid hv;exact ⟨_,_,h,.tree (.c _),trivial,fun w'=>fO h1 ty A _ cap w'⟩
  .rename_i e sz rows hid;obtain ⟨h1,h⟩:=h;obtain ⟨_,A,cap,rfl,_⟩:=iX hL hid hv;exact ⟨_,_,h,.tree (.c _),trivial,fun w'=>fO h1 ty A _ cap w'⟩
  .exact h.elim
 .obtain ⟨h1,h⟩:=h;obtain rfl:=hv.c_inv;exact ⟨_,_,h,.tree (.c _),trivial,fun w'=>fO h1 ty _ _ _ w'⟩
 .rename_i s;obtain ⟨h1,h⟩:=h;obtain rfl:=hv.c_inv
  have hu:P.underlying t=some .string:=by
   unfold vt at h1;split at h1<;>first|assumption|cases h1
  exact ⟨_,_,h,.tree (.c _),trivial,fun w'=>by simp [Builtin.len_,Sem.run_bind,run_underlying hu,goInt]⟩
 .exact h.elim
theorem lM {op:BinOp} {t:TypeId} {A:Option Addr} {n c n' c':Nat} (hk:vt P t=.slice) (h:op=.eql \/ op=.neq) (w:World) (x y:Operand):(do eqGuard op t x y (.slice A n c) (.slice none n' c');binOp op t (.slice A n c) (.slice none n' c'):Sem Value).run P w=.ok (.bool (if op=.eql then A.isNone else !A.isNone)) w:=by
 obtain ⟨e,hu⟩:∃ e,P.underlying t=some (.slice e):=by
  unfold vt at hk;split at hk<;>first|(rename_i e he;exact ⟨e,he⟩)|cases hk
 have hg:(eqGuard op t x y (.slice A n c) (.slice none n' c')).run P w=.ok () w:=by
  rcases h with rfl|rfl<;>simp [eqGuard]
 have he0:∀ d,(Op.equalIn (d+1) t (.slice A n c) (.slice none n' c')).run P w=.ok A.isNone w:=fun d=>by
  cases A<;>simp [Op.equalIn,run_underlying hu]
 have he:=he0 9999;rw [Sem.run_bind,hg];simp only [Result.andThen_ok];rcases h with rfl|rfl<;>simp only [binOp,Op.equal,Op.maxDepth,Sem.run_bind,he,Result.andThen_ok]<;>simp
theorem DR {op:BinOp} {t:TypeId} {a b v:Value} {x y:Operand} (h:ez op (vt P t) a b=some v) (w:World):(do eqGuard op t x y a b;binOp op t a b:Sem Value).run P w=.ok v w:=by
 have hg:(eqGuard op t x y a b).run P w=.ok () w:=by
  unfold ez at h;split at h<;>first|(cases h;done)|(cases op<;>simp [eqGuard])
 rw [Sem.run_bind,hg];simp only [Result.andThen_ok];unfold ez at h;split at h
 .rename_i i p j q;split at h
  .rename_i hij;subst hij
   cases op<;>simp at h<;>first
    | (obtain ⟨h0,rfl⟩:=h;simp [binOp,Op.intDiv,h0];done)
    | (obtain ⟨h0,rfl⟩:=h;simp [binOp,Op.shift,Int.not_lt.2 h0];done)
    | (subst h;simp [binOp,intBits_and,intBits_or,intBits_xor,intBits_andNot];done)
    | (subst h;simp [binOp,Op.intArith,Op.intCmp];done)
  .cases h
 .rename_i p q;split at h
  .rename_i hk
   have hu:P.underlying t=some .bool:=by
    unfold vt at hk;split at hk<;>first|assumption|cases hk
   cases h;simp [binOp,Op.equal,Op.maxDepth,Sem.run_bind,run_equalIn_bool' w 9999 t p q hu]
  .rename_i hk
   have hu:P.underlying t=some .bool:=by
    unfold vt at hk;split at hk<;>first|assumption|cases hk
   cases h;simp [binOp,Op.equal,Op.maxDepth,Sem.run_bind,run_equalIn_bool' w 9999 t p q hu]
  .cases h
 .rename_i p q;cases op<;>simp at h
  case add=>
   obtain ⟨h1,rfl⟩:=h
   have h2:¬ (((p.size+q.size:Nat):Int) > IntKind.i64.max):=by
    have:IntKind.i64.max=9223372036854775807:=by decide
    omega
   have h3:IntKind.i64.max=9223372036854775807:=(by decide);simp [binOp,Op.stringOp,h3];omega
  all_goals
   subst h;simp [binOp,Op.stringOp,beq_toListBytes]
 .rename_i n1 c1 n2 c2;split at h
  .rename_i hk;have:=lM (A:=none) (n:=n1) (c:=c1) (n':=n2) (c':=c2) hk (.inl rfl) w x y;rw [Sem.run_bind,hg] at this;cases h;simpa using this
  .rename_i hk;have:=lM (A:=none) (n:=n1) (c:=c1) (n':=n2) (c':=c2) hk (.inr rfl) w x y;rw [Sem.run_bind,hg] at this;cases h;simpa using this
  .cases h
 .cases h
theorem Eb {op:UnOp} {a v:Value} (h:Ge op a=some v) (w:World):(Op.unary op a).run P w=.ok v w:=by
 unfold Ge at h;split at h
 .cases op<;>simp at h;subst h;simp [Op.unary]
 .cases op<;>simp at h;subst h;simp [Op.unary,Op.intArith]
 .cases h
theorem oQ:∀ {cs:List AV} {vs:List Value} {xs:Array Value},pt cs=some vs -> xs.size=cs.length -> (∀ (j:Nat) (x:Value) (av:AV),xs[j]? = some x -> cs[j]? = some av -> bx cx w tab L x av) -> xs=vs.toArray:=by
 intro cs vs xs h hn hr
 have key:∀ (cs:List AV) (vs:List Value),pt cs=some vs -> ∀ (l:List Value),l.length=cs.length -> (∀ (j:Nat) (x:Value) (av:AV),l[j]? = some x -> cs[j]? = some av -> bx cx w tab L x av) -> l=vs:=by
  intro cs
  induction cs with
  | nil=>
   intro vs h l hl _;cases h;exact LQ hl
  | cons a cs ih=>
   intro vs h l hl hr
   cases l with
   | nil=>simp at hl
   | cons x l=>
    cases a with
    | c v=>
     simp only [pt] at h;split at h
     .rename_i vs' hv;cases h;have h0:=(hr 0 x (.c v) rfl rfl).c_inv;rw [h0,ih vs' hv l (by simpa using hl) (fun j y av h1 h2=>hr (j+1) y av (by simpa using h1) (by simpa using h2))]
     .cases h
    | _=>simp [pt] at h
 have:=key cs vs h xs.toList (by simpa using hn) (fun j x av h1 h2=>hr j x av (by simpa using h1) h2);rw [<- this]
theorem EO {S:Nat -> Prop} {v:Value} {sz l h':Nat} {rows:List (List AV)} (hr:RT w S v (.sl sz rows)) (hlh:l<=h') (hh:h'<=rows.length) :
  ∃ A cap,v=.slice A rows.length cap /\ rows.length<=cap /\ ∀ s,s=sz -> RT w S (sliced A l h' cap s) (.sl sz ((rows.take h').drop l)):=by
 obtain ⟨A,cap,rfl,hc,hm,hs,hA⟩:=hr.sl_inv;refine ⟨A,cap,rfl,hc,fun s hs'=>?_⟩;subst hs';have hlen:((rows.take h').drop l).length=h' - l:=by simp only [LG,K6];omega
 have hget:∀ i row,((rows.take h').drop l)[i]? = some row -> rows[l+i]? = some row:=fun i row hi=>by
  rw [LF,Ly] at hi;split at hi
  .exact hi
  .cases hi
 unfold sliced;by_cases h0:h' - l=0
 .refine .sl _ _ _ _ _ 0 0 (fun _ _=>undef) (by omega) (by omega) (by omega) (fun h=>by omega) (fun row hr'=>hs row (Lk (LP hr'))) (fun h=>by omega) (fun i j row av h1 h2=>?_) (fun i j row av h1 h2=>?_)
  all_goals
   have:=(KS.1 h1).1;omega
 .obtain ⟨b,o,rfl,hSb,U,h1,h2,h3⟩:=hA (by omega);rw [KY (by omega),LE,Addr.add_lit];refine .sl _ _ _ _ _ b (o+l * s) (fun i j=>U (l+i) j) hlen.symm (by omega) (by omega) (fun _=>⟨rfl,hSb⟩) (fun row hr'=>hs row (Lk (LP hr'))) (fun _ i j row av h4 h5=>?_) (fun i j row av h4 h5=>?_) (fun i j row av h4 h5=>?_)
  .have:=h1 (l+i) j row av (hget i row h4) h5
   rwa [LM,<- Mj] at this
  .exact h3 (l+i) j row av (hget i row h4) h5
  .exact h2 (l+i) j row av (hget i row h4) h5
def CH (d n:Nat) (o:Option Value):Prop:=(o=none /\ n=d) \/ ∃ k,o=some (.int k n)
theorem fK {isS:Bool} {w:World} {len cap l h' m:Nat} {lo hi mx:Option Value} (h1:CH 0 l lo) (h2:CH len h' hi) (h3:(mx=none /\ m=cap) \/ (m=h' /\ (∃ k,mx=some (.int k m)) /\ hi ≠ none)) (hlh:l<=h') (hh:h'<=cap):(Instr.sliceBounds isS len cap lo hi mx).run P w=.ok (l,h',m) w:=by
 rcases h1 with ⟨rfl,rfl⟩|⟨k1,rfl⟩<;>rcases h2 with ⟨rfl,rfl⟩|⟨k2,rfl⟩<;>rcases h3 with ⟨rfl,rfl⟩|⟨rfl,⟨k3,rfl⟩,h4⟩ <;>
  first
  | exact absurd rfl h4
  | (simp [Instr.sliceBounds,run_sliceBound,hlh,hh];done)
  | (simp [Instr.sliceBounds,run_sliceBound,hlh,hh];omega)
theorem nD {d n:Nat} {o:Option Operand} {ρ:Operand -> Value} {ev:Operand -> AV} {l:Int} (he:∀ x,bx cx w tab L (ρ x) (ev x)) (h:Aw (d:Int) (o.map ev)=some l) (h0:0<=l) (hn:n=l.toNat):CH d n (o.map ρ):=by
 cases o with
 | none=>
  simp [Aw] at h;exact .inl ⟨rfl,by omega⟩
 | some x=>
  simp only [LE] at h ⊢;unfold Aw at h;split at h
  .rename_i hx;cases hx
  .rename_i k m hx
   injection hx with hx
   have:=he x;rw [hx] at this
   injection h with h
   subst h;rw [this.c_inv];exact .inr ⟨k,by rw [hn,Int.toNat_of_nonneg h0]⟩
  .cases h
theorem Bf {t:TypeId} {v:Value} {x:AV} {lo hi mx:Option Operand} {ρ:Operand -> Value} {ev:Operand -> AV} (he:∀ x,bx cx w tab L (ρ x) (ev x)) (hv:bx cx w tab L v x) (h:j7 P t x (lo.map ev) (hi.map ev) (mx.map ev) K) :
  kB P cx w tab L nx K (Instr.sliceAt t v (lo.map ρ) (hi.map ρ) (mx.map ρ)):=by
 unfold j7 at h;split at h
 .rename_i sz rows;unfold oz at h;split at h
  .rename_i l h' hl hh hmx;obtain ⟨⟨h1,h2⟩,⟨h3,h4,h5⟩,h6⟩:=h;obtain ⟨hu,hsz⟩:=gI (P:=P) (t:=t) (by omega);obtain ⟨A,cap,rfl,hc,hp⟩:=EO (l:=l.toNat) (h':=h'.toNat) hv.sl_inv (by omega) (by omega);have hmx':mx=none:=by cases mx<;>first|rfl|cases hmx
   subst hmx';refine ⟨_,_,h6,.tree (hp sz rfl),trivial,fun w'=>?_⟩;have hb:=fK (P:=P) (w:=w') (isS:=true) (cap:=cap) (m:=cap) (mx:=none) (nD (d:=0) he hl h3 rfl) (nD he hh (by omega) rfl) (.inl ⟨rfl,rfl⟩) (by omega) (by omega);have hs:=cF (P:=P) (t:=(bh P t).1) (by omega) w';rw [hsz,h1] at hs;simp [Instr.sliceAt,Instr.slice,Sem.run_bind,run_underlying hu,hb,hs,sliced]
  .exact h.elim
 .rename_i s;unfold oc at h;split at h
  .rename_i l h' hl hh hmx;obtain ⟨h1,⟨h3,h4,h5⟩,h6⟩:=h;obtain rfl:=hv.c_inv
   have hu:P.underlying t=some .string:=by
    unfold vt at h1;split at h1<;>first|assumption|cases h1
   have hmx':mx=none:=by cases mx<;>first|rfl|cases hmx
   subst hmx';refine ⟨_,_,h6,.tree (.c _),trivial,fun w'=>?_⟩;have hb:=fK (P:=P) (w:=w') (isS:=false) (cap:=s.size) (m:=s.size) (mx:=none) (nD (d:=0) he hl h3 rfl) (nD he hh (by omega) rfl) (.inl ⟨rfl,rfl⟩) (by omega) (by omega);simp [Instr.sliceAt,Instr.slice,Sem.run_bind,run_underlying hu,hb]
  .exact h.elim
 .exact h.elim
theorem xT {f:Int -> Int -> Int} {args:Array Operand} {ev:Operand -> AV} {K:AV -> Prop} (h:Gb f (args.toList.map ev) K):∃ x y k a k' b,args = #[x,y] /\ ev x=.c (.int k a) /\ ev y=.c (.int k' b) /\ K (.c (.int k (f a b))):=by
 obtain ⟨l⟩:=args;unfold Gb at h;split at h
 .rename_i k a k' b hl
  cases l with
  | nil=>simp at hl
  | cons x l=>
   cases l with
   | nil=>simp at hl
   | cons y l=>
    cases l with
    | nil=>
     simp at hl;exact ⟨x,y,k,a,k',b,rfl,hl.1,hl.2,h⟩
    | cons z l=>simp at hl
 .exact h.elim
def gG:Op -> Bool
 | .load _ _=>true
 | _=>false
theorem jt {o:Oper} {ρ:Operand -> Value} {ev:Operand -> AV} (hL:fY cx w tab L) (hy:∀ id o,tab.get id=some o -> o.lt nx) (he:∀ x,bx cx w tab L (ρ x) (ev x) /\ (ev x).lt nx) (h:bO P tab ev o.op K) :
  ∃ v av,K av /\ bx cx w tab L v av /\ av.lt nx /\ (∀ w',Below w.heap.size w w' -> (execOp ρ o).run P w'=.ok (.value v) w') /\ (gG o.op=false -> ∀ w',(execOp ρ o).run P w'=.ok (.value v) w') /\ (∀ t x,o.op=.load t x -> ∃ b,aH (ρ x)=some b /\ ∀ w',rg b w w' -> (execOp ρ o).run P w'=.ok (.value v) w'):=by
 have mk:gG o.op=false -> ∀ v av,K av -> bx cx w tab L v av -> av.lt nx -> (∀ w',(execOp ρ o).run P w'=.ok (.value v) w') -> ∃ v av,K av /\ bx cx w tab L v av /\ av.lt nx /\ (∀ w',Below w.heap.size w w' -> (execOp ρ o).run P w'=.ok (.value v) w') /\ (gG o.op=false -> ∀ w',(execOp ρ o).run P w'=.ok (.value v) w') /\ (∀ t x,o.op=.load t x -> ∃ b,aH (ρ x)=some b /\ ∀ w',rg b w w' -> (execOp ρ o).run P w'=.ok (.value v) w'):=
  fun hl v av h1 h2 h3 h4=>⟨v,av,h1,h2,h3,fun w' _=>h4 w',fun _ w'=>h4 w',fun t x he=>by rw [he] at hl;cases hl⟩
 have lift0:gG o.op=false -> ∀ s:Sem Value,kB P cx w tab L nx K s -> (∀ w',(execOp ρ o).run P w'=(s.run P w').andThen fun v w''=>.ok (.value v) w'') -> ∃ v av,K av /\ bx cx w tab L v av /\ av.lt nx /\ (∀ w',Below w.heap.size w w' -> (execOp ρ o).run P w'=.ok (.value v) w') /\ (gG o.op=false -> ∀ w',(execOp ρ o).run P w'=.ok (.value v) w') /\ (∀ t x,o.op=.load t x -> ∃ b,aH (ρ x)=some b /\ ∀ w',rg b w w' -> (execOp ρ o).run P w'=.ok (.value v) w'):=by
  rintro hl s ⟨v,av,h1,h2,h3,h4⟩ hs;exact mk hl v av h1 h2 h3 fun w'=>(by rw [hs,h4 w'];rfl)
 obtain ⟨dst,op,ty,pos,aft,gd⟩:=o;simp only at h;unfold bO at h;split at h
 .rename_i x;exact mk rfl _ _ h (he x).1 (he x).2 fun w'=>by simp [execOp]
 .rename_i x;exact mk rfl _ _ h (he x).1 (he x).2 fun w'=>by simp [execOp]
 .rename_i c a b;have hc:=(he c).1;unfold AY at h;split at h
  .rename_i t hcv;rw [hcv] at hc;have hc:=hc.c_inv;cases t
   .exact mk rfl _ _ h (he b).1 (he b).2 fun w'=>by simp [execOp,hc,asBool]
   .exact mk rfl _ _ h (he a).1 (he a).2 fun w'=>by simp [execOp,hc,asBool]
  .exact h.elim
 .rename_i t x;obtain ⟨u,av,h1,h2,h3,b,hb,h4⟩:=xR hL hy (he x).1 h;have h5:∀ w',rg b w w' -> (execOp ρ { dst:=dst,op:=.load t x,type:=ty,pos:=pos,after:=aft,guard:=gd }).run P w'=.ok (.value u) w':=fun w' hw'=>by simp [execOp,Sem.run_bind,h4 w' hw']
  refine ⟨u,av,h1,h2,h3,fun w' hw'=>h5 w' fun o v hv=>(hw'.cell (World.block_lt_of_cell? w _ hv)).trans hv,fun h0=>(by cases h0),fun t' x' he'=>?_⟩;cases he';exact ⟨b,hb,h5⟩
 .rename_i s x f;exact lift0 rfl _ (A7 (he x).2 (he x).1 h) fun w'=>by simp [execOp,Sem.run_bind]
 .rename_i t x ix;exact lift0 rfl _ (Bo hL (he x).2 (he x).1 (he ix).1 h) fun w'=>by simp [execOp,Sem.run_bind]
 .rename_i s x f;exact lift0 rfl _ (zp (he x).2 (he x).1 h) fun w'=>by simp [execOp,Sem.run_bind]
 .rename_i op t x y _;have hx:=(he x).1;have hy:=(he y).1;unfold sg at h;split at h
  .rename_i a b ha hb;rw [ha] at hx;rw [hb] at hy;have hx:=hx.c_inv;have hy:=hy.c_inv;split at h
   .rename_i v hv;refine lift0 rfl _ ⟨v,_,h,.tree (.c v),trivial,fun w'=>DR (x:=x) (y:=y) hv w'⟩ fun w'=>?_;simp [execOp,Sem.run_bind,hx,hy];cases (Sem.run P (eqGuard op t x y a b) w')<;>rfl
   .exact h.elim
  .rename_i xs ys ha hb;rw [ha] at hx;rw [hb] at hy;obtain ⟨as1,hx,hnx,hrx⟩:=hx.agg_inv;obtain ⟨bs1,hy,hny,hry⟩:=hy.agg_inv;unfold xY at h;split at h
   .rename_i vs us hvs hus;obtain rfl:=oQ hvs hnx hrx;obtain rfl:=oQ hus hny hry;obtain ⟨r,hr,h⟩:=h;refine lift0 rfl _ ⟨r,_,h,.tree (.c r),trivial,fun w'=>hr w' x y⟩ fun w'=>?_;simp [execOp,Sem.run_bind,hx,hy];cases (Sem.run P (eqGuard op t x y (.agg vs.toArray) (.agg us.toArray)) w')<;>rfl
   .exact h.elim
  .rename_i sz rows b ha hb;rw [ha] at hx;rw [hb] at hy;have hy:=hy.c_inv;obtain ⟨A,cap,hA,hc1,hc2,hc3,hc4⟩:=hx.sl_inv.sl_inv
   have hnil:A.isNone=true -> rows=[]:=fun h1=>by
    rcases MT rows.length with h2|h2
    .exact Mm.1 h2
    .obtain ⟨b',o',h3,_⟩:=hc4 h2;rw [h3] at h1;cases h1
   unfold ux at h;split at h
   .have hk:vt P t=.slice:=(by assumption);have h:=h A.isNone hnil;refine lift0 rfl _ ⟨_,_,h,.tree (.c _),trivial,fun w'=>lM (x:=x) (y:=y) (A:=A) (n:=rows.length) (c:=cap) (n':=0) (c':=0) hk (.inl rfl) w'⟩ fun w'=>?_;simp [execOp,Sem.run_bind,hA,hy];cases (Sem.run P (eqGuard _ t x y (.slice A rows.length cap) (.slice none 0 0)) w')<;>rfl
   .have hk:vt P t=.slice:=(by assumption);have h:=h (!A.isNone) (fun h1=>hnil (by simpa using h1));refine lift0 rfl _ ⟨_,_,h,.tree (.c _),trivial,fun w'=>lM (x:=x) (y:=y) (A:=A) (n:=rows.length) (c:=cap) (n':=0) (c':=0) hk (.inr rfl) w'⟩ fun w'=>?_;simp [execOp,Sem.run_bind,hA,hy];cases (Sem.run P (eqGuard _ t x y (.slice A rows.length cap) (.slice none 0 0)) w')<;>rfl
   .exact h.elim
  .exact h.elim
 .rename_i op t x;have hx:=(he x).1;unfold Io at h;split at h
  .rename_i a ha;rw [ha] at hx;have hx:=hx.c_inv;split at h
   .rename_i v hv;exact lift0 rfl _ ⟨v,_,h,.tree (.c v),trivial,fun w'=>Eb hv w'⟩ fun w'=>by simp [execOp,Sem.run_bind,hx]
   .exact h.elim
  .exact h.elim
 .rename_i x i;have hx:=(he x).1;have hl:=(he x).2;unfold iz at h;split at h
  .rename_i vs hvs;rw [hvs] at hx hl;obtain ⟨xs,hxe,hn,hr⟩:=hx.tup_inv;obtain ⟨hi,h⟩:=h;rw [KN hi,Lm] at h;have hi':i<xs.size:=(by omega);exact mk rfl xs[i] _ h (hr i _ _ (KT hi') (KN hi)) (ag.1 hl _ (KQ hi)) fun w'=>by simp [execOp,Sem.run_bind,hxe,Instr.extract,KT hi']
  .exact h.elim
 .rename_i s d x;have hx:=(he x).1;unfold DY at h;split at h
  .rename_i k0 k k1 n hs hd hxe;rw [hxe] at hx;have hx:=hx.c_inv
   have e1:P.underlying s=some (.int k0):=by
    unfold x8 at hs;split at hs<;>simp_all
   have e2:P.underlying d=some (.int k):=by
    unfold x8 at hd;split at hd<;>simp_all
   refine lift0 rfl _ ⟨_,_,h,.tree (.c _),trivial,fun w'=>?_⟩ fun w'=>by simp [execOp,Sem.run_bind];rfl
   rw [hx];simp [convert,Sem.run_bind,run_underlying e1,run_underlying e2,Conv.intToInt]
  .exact h.elim
 .rename_i c;obtain ⟨callee,args,argTypes⟩:=c;simp only at h;split at h
  .split at h
   .rename_i x t h1 h2;obtain rfl:args = #[x]:=by cases args;simp_all
    obtain rfl:argTypes = #[t]:=by cases argTypes;simp_all
    exact lift0 rfl _ (Ij (ty:=ty) hL (he x).1 h) fun w'=>by simp [execOp,Sem.run_bind,resolve,invoke,builtin]
   .exact h.elim
  .obtain ⟨x,y,k,a,k',b,rfl,h1,h2,h3⟩:=xT h;have hx:=(he x).1;have hy:=(he y).1;rw [h1] at hx;rw [h2] at hy;have hx:=hx.c_inv;have hy:=hy.c_inv;refine lift0 rfl (pure (.int k (max a b))) ⟨_,_,h3,.tree (.c _),trivial,fun w'=>rfl⟩ fun w'=>?_;have hm:(if b > a then b else a)=max a b:=by rw [Int.max_def];split<;>split<;>omega
   simp [execOp,Sem.run_bind,resolve,invoke,builtin,Builtin.max_,Builtin.max2,hx,hy,hm]
  .obtain ⟨x,y,k,a,k',b,rfl,h1,h2,h3⟩:=xT h;have hx:=(he x).1;have hy:=(he y).1;rw [h1] at hx;rw [h2] at hy;have hx:=hx.c_inv;have hy:=hy.c_inv;refine lift0 rfl (pure (.int k (min a b))) ⟨_,_,h3,.tree (.c _),trivial,fun w'=>rfl⟩ fun w'=>?_;have hm:(if b<a then b else a)=min a b:=by rw [Int.min_def];split<;>split<;>omega
   simp [execOp,Sem.run_bind,resolve,invoke,builtin,Builtin.min_,Builtin.min2,hx,hy,hm]
  .exact h.elim
 .rename_i f first caps
  rcases h with h|h
  rotate_left
  .unfold Ga at h;split at h
   .rename_i g hb
    obtain rfl:caps = #[]:=by
     rw [Li] at hb;simpa using hb.1
    refine mk rfl (.func (.func g) (first.map ρ) #[]) _ h (.bfn g _ _ (by simp) fun j x av h1 h2=>?_) (ag.2 fun a ha=>?_) fun w'=>by simp [execOp,Sem.run_bind,Instr.makeFunc]
    .rw [KV] at h2;rw [Array.getElem?_map] at h1
     cases hj:first[j]? with
     | none=>simp [hj] at h1
     | some x=>
      rw [LV] at h2;simp [hj] at h1 h2;subst h1;subst h2;exact (he x).1
    .obtain ⟨x,_,rfl⟩:=K8.1 ha;exact (he x).2
   .exact h.elim
  unfold J1 at h;split at h
  .rename_i g hb;obtain rfl:first = #[]:=by simpa using hb
   refine mk rfl (.func (.func g) #[] (caps.map ρ)) _ h (.fn g _ _ (by simp) fun j x av h1 h2=>?_) (ag.2 fun a ha=>?_) fun w'=>by simp [execOp,Sem.run_bind,Instr.makeFunc]
   .rw [KV] at h2;rw [Array.getElem?_map] at h1
    cases hj:caps[j]? with
    | none=>simp [hj] at h1
    | some x=>
     rw [LV] at h2;simp [hj] at h1 h2;subst h1;subst h2;exact (he x).1
   .obtain ⟨x,_,rfl⟩:=K8.1 ha;exact (he x).2
  .exact h.elim
 .rename_i t x lo hi mx;exact lift0 rfl _ (Bf (fun x=>(he x).1) (he x).1 h) fun w'=>by simp [execOp,Sem.run_bind]
 .rename_i x;have hx:=he x;unfold uS at h;split at h
  .rename_i cs hxe;rw [hxe] at hx;obtain ⟨b,o,U,hv,_⟩:=hx.1.rp_inv;exact mk rfl (ρ x) _ h hx.1 hx.2 fun w'=>by simp [execOp,hv]
  .rename_i id i j hxe;rw [hxe] at hx;split at h
   .rename_i ob hid;obtain ⟨g,hg,hv⟩:=hx.1.op_inv _ _ (bI hid);exact mk rfl (ρ x) _ h hx.1 hx.2 fun w'=>by simp [execOp,hv]
   .exact h.elim
  .exact h.elim
 .exact h.elim
end
end
section
section
variable {P:Program} {cx:Cx} {w w':World} {tab tab':aa} {L L':Nat -> Value} {nx:Nat}
structure kc (cx:Cx) (w:World) (tab:aa) (L:Nat -> Value) (nx:Nat) (w':World) (tab':aa) (L':Nat -> Value):Prop where
 blk:∀ b,Sx cx w tab L b -> w'.heap[b]? = w.heap[b]?
 sub:∀ b,Sx cx w tab L b -> Sx cx w' tab' L' b
 loc:∀ id p,id<nx -> Kx tab' L' id=some p -> Kx tab L id=some p
theorem kc.cell (h:kc cx w tab L nx w' tab' L'):∀ p:Addr,Sx cx w tab L p.block -> w'.cell? p=w.cell? p:=fun p hp=>World.cell?_of_block (h.blk p.block hp)
theorem kc.rv (h:kc cx w tab L nx w' tab' L') {x:Value} {av:AV} (hr:bx cx w tab L x av) (hl:av.lt nx):bx cx w' tab' L' x av:=hr.mono hl h.cell h.sub h.loc
theorem kc.rt (h:kc cx w tab L nx w' tab' L') {x:Value} {av:AV} (hr:RT w (Sx cx w tab L) x av):RT w' (Sx cx w' tab' L') x av:=hr.mono h.cell h.sub
theorem kc.obj (h:kc cx w tab L nx w' tab' L') {v:Value} {o:ar} (hr:fa cx w tab L v o) (hl:o.lt nx) (hg:∀ g,aH v=some g -> w'.heap[g]? = w.heap[g]?):fa cx w' tab' L' v o:=by
 cases o with
 | box t cells=>
  obtain ⟨g,cs,rfl,hb,hh,hn,hx⟩:=hr;exact ⟨g,cs,rfl,hb,(hg g rfl).trans hh,hn,fun j x av h1 h2=>⟨h.rv (hx j x av h1 h2).1 (ag.1 hl _ (KO h2)),(hx j x av h1 h2).2⟩⟩
 | row e sz rows=>
  obtain ⟨h1,xs,hown,h2,h3⟩:=hr;refine ⟨h1,xs,⟨hown.1,?_⟩,h2,fun i j row av ha hb=>?_⟩
  .rcases hown.2 with hn | ⟨g,cap,cur,rfl,hb,hh,rest⟩
   .exact .inl hn
   .exact .inr ⟨g,cap,cur,rfl,hb,(hg g rfl).trans hh,rest⟩
  .obtain ⟨x,hx,hr⟩:=h3 i j row av ha hb;exact ⟨x,hx,h.rt hr⟩
 | nest e sz rows=>
  obtain ⟨h1,xs,hown,h2,h3⟩:=hr;refine ⟨h1,xs,⟨hown.1,?_⟩,h2,fun i j row av ha hb=>?_⟩
  .rcases hown.2 with hn | ⟨g,cap,cur,rfl,hb,hh,rest⟩
   .exact .inl hn
   .exact .inr ⟨g,cap,cur,rfl,hb,(hg g rfl).trans hh,rest⟩
  .obtain ⟨x,hx,hr⟩:=h3 i j row av ha hb;exact ⟨x,hx,h.rv hr (ag.1 (hl row (KO ha)) _ (KO hb))⟩
 | map ents=>
  obtain ⟨g,es,ck,rfl,hb,hh,he⟩:=hr;exact ⟨g,es,ck,rfl,hb,(hg g rfl).trans hh,he⟩
 | ghost vs env=>exact ⟨hr.1,fun t ht=>h.rv (hr.2 t ht) (gS hl t)⟩
theorem fa.ge {v:Value} {o:ar} (h:fa cx w tab L v o) {g:Nat} (hg:aH v=some g):cx.w0.heap.size<=g /\ g<w.heap.size:=by
 cases o with
 | box t cells=>
  obtain ⟨g',cs,rfl,hb,hh,_⟩:=h;simp [aH] at hg;subst hg;exact ⟨hb,(Lt.1 hh).1⟩
 | row e sz rows=>
  obtain ⟨_,xs,hown,_⟩:=h;rcases hown.2 with ⟨rfl,_⟩|⟨g',cap,cur,rfl,hb,hh,_⟩
  .simp [aH] at hg
  .simp [aH] at hg;subst hg;exact ⟨hb,(Lt.1 hh).1⟩
 | nest e sz rows=>
  obtain ⟨_,xs,hown,_⟩:=h;rcases hown.2 with ⟨rfl,_⟩|⟨g',cap,cur,rfl,hb,hh,_⟩
  .simp [aH] at hg
  .simp [aH] at hg;subst hg;exact ⟨hb,(Lt.1 hh).1⟩
 | map ents=>
  obtain ⟨b,es,ck,rfl,hb,hh,_⟩:=h;simp [aH] at hg;subst hg;exact ⟨hb,(Lt.1 hh).1⟩
 | ghost vs env=>
  obtain ⟨rfl,_⟩:=h;simp [aH] at hg
theorem gz (hb:Below w.heap.size w w') (hold:∀ id,id<nx -> tab'.get id=tab.get id /\ L' id=L id) (hy:∀ id o,tab.get id=some o -> id<nx)
  (hnew:∀ id o g,nx<=id -> tab'.get id=some o -> aH (L' id)=some g -> w.heap.size<=g):kc cx w tab L nx w' tab' L' where
 blk b hp:=hb.block b hp.1
 sub b h:=⟨K1 h.1 hb.size,h.2.1,fun id o hid hg=>by
  rcases Ld id nx with hlt|hge
  .rw [(hold id hlt).2] at hg;rw [(hold id hlt).1] at hid;exact h.2.2 id o hid hg
  .have:=hnew id o b hge hid hg;have:=h.1;omega⟩
 loc id p hlt h:=by
  unfold Kx at *;rw [(hold id hlt).1,(hold id hlt).2] at h;exact h
theorem dZ.grown {X:Nat -> Prop} {n:Nat} {a b c:World} {row:Option Nat} (h:dZ X n a b) (hg:b.grownBy c row) (hn:n<=b.heap.size) (hr:∀ k,row=some k -> n<=k):dZ X n a c:=h.trans (mZ ((Below.refl n b).grown hg hn hr))
theorem qL (hL:fY cx w tab L) (hs:w.heap.size<=w'.heap.size) (hy:∀ id o g,tab'.get id=some o -> aH (L' id)=some g -> g<w.heap.size -> ∃ id2 o2,tab.get id2=some o2 /\ aH (L id2)=some g) :
  ∀ b,cx.X b -> b<w'.heap.size /\ ∀ id o,tab'.get id=some o -> aH (L' id) ≠ some b:=fun b hb=>
 ⟨K1 (hL.ex b hb).1 hs,fun id o hid hg=>by
  obtain ⟨id2,o2,h1,h2⟩:=hy id o b hid hg (hL.ex b hb).1;exact (hL.ex b hb).2 id2 o2 h1 h2⟩
theorem kH (hL:fY cx w tab L) (hy:∀ id o,tab.get id=some o -> id<nx /\ o.lt nx) (hb:Below w.heap.size w w') (hold:∀ id,id<nx -> tab'.get id=tab.get id /\ L' id=L id)
  (hobj:∀ id o,nx<=id -> tab'.get id=some o -> fa cx w' tab' L' (L' id) o) (hnew:∀ id o g,nx<=id -> tab'.get id=some o -> aH (L' id)=some g -> w.heap.size<=g)
  (hsep:∀ id id' o o' g,nx<=id -> nx<=id' -> tab'.get id=some o -> tab'.get id'=some o' -> aH (L' id)=some g -> aH (L' id')=some g -> id=id'):fY cx w' tab' L':=by
 have hext:kc cx w tab L nx w' tab' L':=gz hb hold (fun id o h=>(hy id o h).1) hnew;refine ⟨hL.below.trans (mZ (hb.mono hL.below.size)),fun id o hid=>?_,fun id id' o o' g h1 h2 h3 h4=>?_,fun b hb'=>⟨K1 (hL.ex b hb').1 hb.size,fun id o hid hg=>?_⟩⟩
 rotate_left 2
 .rcases Ld id nx with hlt | hge
  .rw [(hold id hlt).1] at hid;rw [(hold id hlt).2] at hg;exact (hL.ex b hb').2 id o hid hg
  .have:=hnew id o b hge hid hg;have:=(hL.ex b hb').1;omega
 .rcases Ld id nx with hlt | hge
  .rw [(hold id hlt).1] at hid;rw [(hold id hlt).2];have ho:=hL.objs id o hid;exact hext.obj ho (hy id o hid).2 fun g hg=>hb.block g (ho.ge hg).2
  .exact hobj id o hge hid
 .rcases Ld id nx with hlt | hge<;>rcases Ld id' nx with hlt' | hge'
  .rw [(hold id hlt).1] at h1;rw [(hold id' hlt').1] at h2;rw [(hold id hlt).2] at h3;rw [(hold id' hlt').2] at h4;exact hL.sep id id' o o' g h1 h2 h3 h4
  .rw [(hold id hlt).1] at h1;rw [(hold id hlt).2] at h3;have:=(hL.objs id o h1).ge h3;have:=hnew id' o' g hge' h2 h4;omega
  .rw [(hold id' hlt').1] at h2;rw [(hold id' hlt').2] at h4;have:=(hL.objs id' o' h2).ge h4;have:=hnew id o g hge h1 h3;omega
  .exact hsep id id' o o' g hge hge' h1 h2 h3 h4
end
structure Fr (cx:Cx) (w:World) (tab:aa) (L:Nat -> Value) (nx:Nat) (w':World) (tab':aa) (L':Nat -> Value) (nx':Nat):Prop where
 ext:kc cx w tab L nx w' tab' L'
 size:w.heap.size<=w'.heap.size
 keep:∀ k,k<w.heap.size -> (∀ id o,tab.get id=some o -> aH (L id) ≠ some k) -> w'.heap[k]? = w.heap[k]?
 young:∀ id o g,tab'.get id=some o -> aH (L' id)=some g -> g<w.heap.size -> ∃ id2 o2,tab.get id2=some o2 /\ aH (L id2)=some g
 next:nx<=nx'
structure Fz (w:World) (tab:aa) (L:Nat -> Value) (w':World) (tab':aa) (L':Nat -> Value):Prop where
 size:w.heap.size<=w'.heap.size
 keep:∀ k,k<w.heap.size -> (∀ id o,tab.get id=some o -> aH (L id) ≠ some k) -> w'.heap[k]? = w.heap[k]?
 young:∀ id o g,tab'.get id=some o -> aH (L' id)=some g -> g<w.heap.size -> ∃ id2 o2,tab.get id2=some o2 /\ aH (L id2)=some g
def bb (L:Nat -> Value) (id:Nat) (v:Value):Nat -> Value:=fun k=>if k=id then v else L k
section
variable {P:Program} {cx:Cx} {a:Act} {w w':World} {st:ak} {L L':Nat -> Value}
theorem aj (h:aI cx a w st L) (x:Operand):bx cx w st.tab L (a.eval x) (a6 st x) /\ (a6 st x).lt st.next:=by
 cases x with
 | tmp t=>exact h.env t
 | const v=>exact ⟨.tree (.c v),trivial⟩
 | global g=>exact ⟨.tree (.any _),trivial⟩
 | func f=>exact ⟨.tree (.c _),trivial⟩
theorem xQ {dst:Option Nat} {av:AV} (t:Nat):(st.put dst av).get t=match dst with | some d=>if d<st.n /\ t=d then av else st.get t | none=>st.get t:=by
 cases dst with
 | none=>rfl
 | some d=>
  unfold ak.put ak.get;simp only [bl];by_cases ht:t=d
  .subst ht;by_cases hd:t<st.n<;>simp [hd]
  .simp [ht]
theorem ea (h:aI cx a w st L) {tab':aa} {nx':Nat} {L':Nat -> Value} (hL:fY cx w' tab' L') (hx:kc cx w st.tab L st.next w' tab' L') (hn:st.next<=nx') (hy:∀ id o,tab'.get id=some o -> id<nx' /\ o.lt nx')
  {v:Value} {av:AV} (hv:bx cx w' tab' L' v av) (hl:av.lt nx') (dst:Option Nat):aI cx (a.put dst v) w' ({ st with tab:=tab',next:=nx' }.put dst av) L':=by
 have hdef:(a.put dst v).defers=a.defers:=by
  cases dst<;>rfl
 have hsz:(a.put dst v).tmps.size=st.n:=by
  cases dst
  .exact h.size
  .simp [Act.put,h.size]
 have e1:({ st with tab:=tab',next:=nx' }.put dst av).tab=tab':=by
  cases dst<;>simp only [ak.put]
 have e2:({ st with tab:=tab',next:=nx' }.put dst av).next=nx':=by
  cases dst<;>simp only [ak.put]
 have e3:({ st with tab:=tab',next:=nx' }.put dst av).n=st.n:=by
  cases dst<;>simp only [ak.put]
 refine ⟨by rw [e1];exact hL,by rw [e3];exact hsz,by rw [e1,hdef];exact h.defers.mono hx.blk hx.sub,by rw [e1,e2];exact hy,fun t=>?_⟩;rw [e1,e2,xQ];have hold:=h.env t;have old:bx cx w' tab' L' (a.tmps.getD t undef) (st.get t) /\ (st.get t).lt nx':=⟨hx.rv hold.1 hold.2,AV.lt_mono hn hold.2⟩
 cases dst with
 | none=>exact old
 | some d=>
  simp only [Act.put];by_cases hd:d<st.n /\ t=d
  .rw [K5 hd];obtain ⟨hd,rfl⟩:=hd;have:t<a.tmps.size:=by rw [h.size];exact hd
   simp only [LA,Array.getElem?_setIfInBounds_self_of_lt this,Lm];exact ⟨hv,hl⟩
  .rw [KY hd]
   have e:(a.tmps.setIfInBounds d v).getD t undef=a.tmps.getD t undef:=by
    by_cases hdt:d=t
    .subst hdt;have:¬ d<a.tmps.size:=by rw [h.size];simpa using hd
     rw [Array.setIfInBounds_eq_of_size_le (by omega)]
    .simp [LA,Array.getElem?_setIfInBounds_ne hdt]
   rw [e];exact old
theorem kc.refl (w:World) (tab:aa) (L:Nat -> Value) (nx:Nat):kc cx w tab L nx w tab L:=⟨fun _ _=>rfl,fun _ h=>h,fun _ _ _ h=>h⟩
theorem a7 (h:aI cx a w st L) {v:Value} {av:AV} (hv:bx cx w st.tab L v av) (hl:av.lt st.next) (dst:Option Nat):aI cx (a.put dst v) w (st.put dst av) L:=
 ea (tab':=st.tab) (nx':=st.next) (L':=L) h h.lay (kc.refl ..) (KW _) h.young hv hl dst
theorem iw (h:aI cx a w st L) (hb:Below w.heap.size w w') {v:Value} {ob:ar} (hnew:∀ g,aH v=some g -> w.heap.size<=g) (hob:kc cx w st.tab L st.next w' ((st.next,some ob) :: st.tab) (bb L st.next v) -> fa cx w' ((st.next,some ob) :: st.tab) (bb L st.next v) v ob)
  (hlt:ob.lt (st.next+1)) {x:Value} {av:AV} (hv:kc cx w st.tab L st.next w' ((st.next,some ob) :: st.tab) (bb L st.next v) -> bx cx w' ((st.next,some ob) :: st.tab) (bb L st.next v) x av) (hl:av.lt (st.next+1)) (dst:Option Nat) :
  aI cx (a.put dst x) w' ({ st with tab:=(st.next,some ob) :: st.tab,next:=st.next+1 }.put dst av) (bb L st.next v):=by
 have hold:∀ id,id<st.next -> aa.get ((st.next,some ob) :: st.tab) id=st.tab.get id /\ bb L st.next v id=L id:=fun id hid=>by
  unfold bb;rw [aa.gc,KY (by omega),KY (by omega)];exact ⟨rfl,rfl⟩
 have hge:∀ id o,st.next<=id -> aa.get ((st.next,some ob) :: st.tab) id=some o -> id=st.next /\ o=ob:=fun id o hid hg=>by
  rw [aa.gc] at hg;split at hg
  .rename_i e;cases hg;exact ⟨e,rfl⟩
  .have:=(h.young id o hg).1;omega
 have hup:bb L st.next v st.next=v:=by simp [bb]
 have hnew':∀ id o g,st.next<=id -> aa.get ((st.next,some ob) :: st.tab) id=some o -> aH (bb L st.next v id)=some g -> w.heap.size<=g:=fun id o g h1 h2 h3=>by
  obtain ⟨rfl,_⟩:=hge id o h1 h2;rw [hup] at h3;exact hnew g h3
 have hext:=gz (cx:=cx) hb hold (fun id o hid=>(h.young id o hid).1) hnew';refine ea h (kH h.lay h.young hb hold (fun id o h1 h2=>?_) hnew' fun id id' o o' g h1 h2 h3 h4 _ _=>?_) hext (by omega) (fun id o hg=>?_) (hv hext) hl dst
 .obtain ⟨rfl,rfl⟩:=hge id o h1 h2;rw [hup];exact hob hext
 .rw [(hge id o h1 h3).1,(hge id' o' h2 h4).1]
 .rcases Ld id st.next with hlt' | hge'
  .rw [(hold id hlt').1] at hg;have:=h.young id o hg;refine ⟨by omega,?_⟩
   cases o with
   | box t cells=>exact ag.2 fun x hx=>AV.lt_mono (Lw _) (ag.1 this.2 x hx)
   | row=>trivial
   | map=>trivial
   | nest e sz rows=>exact fun row hr=>ag.2 fun x hx=>AV.lt_mono (Lw _) (ag.1 (this.2 row hr) x hx)
   | ghost vs env=>exact dG (Lw _) this.2
  .obtain ⟨rfl,rfl⟩:=hge id o hge' hg;exact ⟨by omega,hlt⟩
end
end
section
def pC (tab:aa):AV -> Prop
 | .c v=>v.oneCell'=true
 | .sl _ _=>True
 | .rp _=>True
 | .osl id=>(tab.get id).isSome=true
 | .op id _ _=>(tab.get id).isSome=true
 | .fn _ _=>True
 | .bfn _ _=>True
 | _=>False
def dr (tab:aa):List AV -> Prop
 | []=>True
 | a :: l=>pC tab a /\ dr tab l
def al:AV -> List AV
 | .agg cs=>cs
 | .c v=>v.cells.toList.map .c
 | av=>[av]
theorem kr {tab:aa}:∀ {l:List AV},dr tab l ↔ ∀ a ∈ l,pC tab a
 | []=>by simp [dr]
 | a :: l=>by simp [dr,kr (l:=l)]
section
variable {P:Program} {cx:Cx} {a:Act} {w w':World} {tab:aa} {st:ak} {L:Nat -> Value} {nx:Nat}
theorem FU {v:Value} {o:ar} (h:fa cx w tab L v o):v.oneCell'=true /\ v.cells = #[v]:=by
 cases o with
 | box t cells=>
  obtain ⟨g,cs,rfl,_⟩:=h;exact ⟨rfl,rfl⟩
 | row e sz rows=>
  obtain ⟨_,xs,hown,_⟩:=h;rcases hown.2 with ⟨rfl,_⟩|⟨g,cap,cur,rfl,_⟩<;>exact ⟨rfl,rfl⟩
 | nest e sz rows=>
  obtain ⟨_,xs,hown,_⟩:=h;rcases hown.2 with ⟨rfl,_⟩|⟨g,cap,cur,rfl,_⟩<;>exact ⟨rfl,rfl⟩
 | map ents=>
  obtain ⟨b,es,ck,rfl,_⟩:=h;exact ⟨rfl,rfl⟩
 | ghost vs env=>
  obtain ⟨rfl,_⟩:=h;exact ⟨rfl,rfl⟩
theorem xI (hL:fY cx w tab L) {x:Value} {av:AV} (hv:bx cx w tab L x av) (h:pC tab av):x.oneCell'=true /\ x.cells = #[x]:=by
 cases av with
 | any=>exact h.elim
 | c v=>
  obtain rfl:=hv.c_inv;refine ⟨h,?_⟩;cases x<;>first|rfl|cases h
 | sl sz rows=>
  obtain ⟨A,cap,rfl,_⟩:=hv.sl_inv.sl_inv;exact ⟨rfl,rfl⟩
 | rp cs=>
  obtain ⟨b,o,U,rfl,_⟩:=hv.rp_inv;exact ⟨rfl,rfl⟩
 | osl id=>
  obtain ⟨o,ho⟩:=LB.1 h;rw [hv.osl_inv _ _ (bI ho)];exact FU (hL.objs id o ho)
 | op id i j=>
  obtain ⟨o,ho⟩:=LB.1 h;obtain ⟨g,_,rfl⟩:=hv.op_inv _ _ (bI ho);exact ⟨rfl,rfl⟩
 | agg=>exact h.elim
 | tup=>exact h.elim
 | fn f cs=>
  obtain ⟨xs,rfl,_⟩:=hv.fn_inv;exact ⟨rfl,rfl⟩
 | bfn f cs=>
  obtain ⟨xs,rfl,_⟩:=hv.bfn_inv;exact ⟨rfl,rfl⟩
theorem fV (hL:fY cx w tab L) {v:Value} {av:AV} (hv:bx cx w tab L v av) (hl:av.lt nx) (h:dr tab (al av)) :
    v.cells.size=(al av).length /\ AV.ltL nx (al av) /\ ∀ (j:Nat) (x:Value) (a:AV),v.cells[j]? = some x -> (al av)[j]? = some a -> bx cx w tab L x a /\ x.oneCell'=true:=by
  cases av with
  | agg cs=>
    obtain ⟨xs,rfl,hn,hr⟩:=hv.agg_inv;exact ⟨hn,hl,fun j x a h1 h2=>⟨hr j x a h1 h2,(xI hL (hr j x a h1 h2) (kr.1 h a (KO h2))).1⟩⟩
  | c v'=>
    obtain rfl:=hv.c_inv;refine ⟨by simp [al],ag.2 fun a ha=>?_,fun j x a h1 h2=>?_⟩
    . simp [al] at ha;obtain ⟨y,_,rfl⟩:=ha;trivial
    . have h3:=h2;simp only [al,KV,LV,h1,LE,My] at h2;subst h2;exact ⟨.tree (.c x),kr.1 h _ (KO h3)⟩
  | _=>
    first
    | (have h1:=xI hL hv h.1
       simp only [al];refine ⟨by simp [h1.2],⟨hl,trivial⟩,fun j x a h2 h3=>?_⟩;rw [h1.2] at h2
       cases j with
       | zero=>
         simp at h2 h3;subst h2;subst h3;exact ⟨hv,h1.1⟩
       | succ j=>simp at h2)
    | exact h.1.elim
theorem nr {t:TypeId} {v:Value} {av:AV} (h:aI cx a w st L) (hv:bx cx w st.tab L v av) (hl:av.lt st.next) (h1:dr st.tab (al av)) (dst:Option Nat) :
  (Instr.box t v).run P w=.ok (.pointer (some ⟨w.heap.size,0,none⟩)) (w.alloc (.cells v.cells t)) /\
  aI cx (a.put dst (.pointer (some ⟨w.heap.size,0,none⟩))) (w.alloc (.cells v.cells t)) ({ st with tab:=(st.next,some (.box t (al av))) :: st.tab,next:=st.next+1 }.put dst (.op st.next 0 0)) (bb L st.next (.pointer (some ⟨w.heap.size,0,none⟩))):=by
 obtain ⟨hn,hlt,hc⟩:=fV h.lay hv hl h1;refine ⟨by simp [Instr.box,newVar,newRow],iw h ((Below.refl _ _).alloc (KW _) _) (fun g hg=>?_) (fun hx=>?_) ?_ (fun hx=>?_) ?_ dst⟩
 .simp [aH] at hg;omega
 .refine ⟨w.heap.size,v.cells,rfl,h.lay.below.size,heap_alloc_new w _,hn,fun j x av' h2 h3=>⟨hx.rv (hc j x av' h2 h3).1 (ag.1 hlt _ (KO h3)),(hc j x av' h2 h3).2⟩⟩
 .exact ag.2 fun x hx=>AV.lt_mono (Lw _) (ag.1 hlt x hx)
 .refine .op _ _ _ _ fun sz u hk=>?_;simp [Kx,aa.gc,bb] at hk;obtain ⟨_,rfl⟩:=hk;exact ⟨w.heap.size,rfl,by simp⟩
 .exact LK _
def bT (P:Program) (t:TypeId):Option Value:=(P.info? t).bind (·.zero)
theorem vo {t:TypeId} {z:Value} (h:bT P t=some z) (w:World):(zeroValue t).run P w=.ok z w:=by
 unfold bT at h
 cases hi:P.info? t with
 | none=>simp [hi] at h
 | some i=>
  have hz:i.zero=some z:=by simpa [hi] using h
  simp [zeroValue,typeInfo,hi,hz]
theorem nc {t:TypeId} {z:Value} (h:bT P t=some z) (w:World):(Instr.alloc t true (.tuple #[])).run P w=(Instr.box t z).run P w:=by
 simp [Instr.alloc,Sem.run_bind,vo h,Instr.box]
theorem Eh {tab':aa} {o o':ar} {id g:Nat} (hid:tab.get id=some o) (hg:aH (L id)=some g) (hsz:o'.sz=o.sz) (ht:∀ k,tab'.get k=if k=id then some o' else tab.get k)
  (hb:∀ k,k ≠ g -> w'.heap[k]? = w.heap[k]?) (hs:w'.heap.size=w.heap.size):kc cx w tab L nx w' tab' L where
 blk p hp:=hb p fun e=>hp.2.2 id o hid (by rw [hg,e])
 sub b h:=⟨by rw [hs];exact h.1,h.2.1,fun k ok hk=>by
  rw [ht] at hk;split at hk
  .rename_i e;subst e;exact h.2.2 _ o hid
  .exact h.2.2 k ok hk⟩
 loc k p hlt h:=by
  unfold Kx at *;rw [ht] at h;split at h
  .rename_i e;subst e;rw [hid];simpa [hsz] using h
  .exact h
theorem kd (h:aI cx a w st L) {o o':ar} {id g:Nat} (hid:st.tab.get id=some o) (hg:aH (L id)=some g) (hsz:o'.sz=o.sz) (hb:∀ k,k ≠ g -> w'.heap[k]? = w.heap[k]?) (hbel:dZ cx.X cx.w0.heap.size cx.w0 w') (hs:w'.heap.size=w.heap.size)
  (hob:kc cx w st.tab L st.next w' ((id,some o') :: st.tab) L -> fa cx w' ((id,some o') :: st.tab) L (L id) o') (hlt:o'.lt st.next) (dst:Option Nat):aI cx (a.put dst undef) w' ({ st with tab:=(id,some o') :: st.tab }.put dst .any) L:=by
 have ht:∀ k,aa.get ((id,some o') :: st.tab) k=if k=id then some o' else st.tab.get k:=fun k=>aa.gc ..;have hext:kc cx w st.tab L st.next w' ((id,some o') :: st.tab) L:=Eh hid hg hsz ht hb hs;have hy:=h.young id o hid
 have hex:∀ id2 o2 g,aa.get ((id,some o') :: st.tab) id2=some o2 -> aH (L id2)=some g -> g<w.heap.size -> ∃ id3 o3,st.tab.get id3=some o3 /\ aH (L id3)=some g:=fun k ok g hk hg' _=>by
  rw [ht] at hk;split at hk
  .rename_i e;exact ⟨k,o,by rw [e];exact hid,hg'⟩
  .exact ⟨k,ok,hk,hg'⟩
 refine ea (nx':=st.next) (L':=L) h ⟨hbel,fun k ok hk=>?_,fun k k' ok ok' g' h1 h2 h3 h4=>?_,qL h.lay (by omega) hex⟩ hext (KW _) (fun k ok hk=>?_) (.tree (.any _)) trivial dst
 .rw [ht] at hk;split at hk
  .rename_i e;subst e;cases hk;exact hob hext
  .rename_i hne
   exact hext.obj (h.lay.objs k ok hk) (h.young k ok hk).2 fun g' hg'=>hb g' fun e=>by
    subst e;exact hne (h.lay.sep k id ok o _ hk hid hg' hg)
 .have:∀ k ok,aa.get ((id,some o') :: st.tab) k=some ok -> ∃ ok',st.tab.get k=some ok':=fun k ok hk=>by
   rw [ht] at hk;split at hk
   .rename_i e;exact ⟨o,by rw [e];exact hid⟩
   .exact ⟨ok,hk⟩
  obtain ⟨o1,ho1⟩:=this k ok h1;obtain ⟨o2,ho2⟩:=this k' ok' h2;exact h.lay.sep k k' o1 o2 g' ho1 ho2 h3 h4
 .rw [ht] at hk;split at hk
  .rename_i e;cases hk;exact ⟨by rw [e];exact hy.1,hlt⟩
  .exact h.young k ok hk
theorem jo {t:TypeId} {v:Value} {g o:Nat} {cur:Array Value} {e:TypeId} (h0:0<am P t) (hs:v.cells.size=am P t) (hg:w.heap[g]? = some (.cells cur e (0,0))) (ho:o+am P t<=cur.size) (h1:∀ x ∈ v.cells,x.oneCell'=true) :
  (Instr.storeAt t (.pointer (some ⟨g,o,none⟩)) v).run P w=.ok () (w.setRow g (cur.toList.take o ++ v.cells.toList ++ cur.toList.drop (o+am P t)).toArray):=by
 have:=run_storeCells_at P g o e v.cells.toList 0 cur w hg (by simp [hs];omega) (by simpa using h1);simp [hs] at this;simp [Instr.storeAt,Instr.sureAddr,storeVar,Sem.run_bind,cF h0,hs,this]
theorem dm {α:Type} (l:List α) (o:Nat) (vs:List α) (h:o+vs.length<=l.length) (j:Nat):(l.take o ++ vs ++ l.drop (o+vs.length))[j]? = if o<=j /\ j<o+vs.length then vs[j - o]? else l[j]?:=by
 have ht:(l.take o).length=o:=by rw [K6];omega
 rw [KZ];by_cases h1:j<o
 .rw [KY (by omega),Ls (by omega),Ly,K5 h1]
 .rw [LC (by omega),ht];by_cases h2:j<o+vs.length
  .rw [K5 ⟨by omega,h2⟩,Ls (by omega)]
  .rw [KY (by omega),LC (by omega),LF]
   congr 1
   omega
theorem jg {t ty:TypeId} {p v:Value} {id j:Nat} {cells:List AV} {av:AV} (h:aI cx a w st L) (hp:bx cx w st.tab L p (.op id 0 j)) (hid:st.tab.get id=some (.box ty cells)) (hv:bx cx w st.tab L v av) (hl:av.lt st.next)
  (h0:0<am P t) (hs:(al av).length=am P t) (ho:j+am P t<=cells.length) (h1:dr st.tab (al av)) (dst:Option Nat) :
  ∃ w',(Instr.storeAt t p v).run P w=.ok () w' /\ aI cx (a.put dst undef) w' ({ st with tab:=(id,some (.box ty (cells.take j ++ al av ++ cells.drop (j+am P t)))) :: st.tab }.put dst .any) L /\
   w'.heap.size=w.heap.size /\ ∀ k,aH (L id) ≠ some k -> w'.heap[k]? = w.heap[k]?:=by
 obtain ⟨hn,hlt,hc⟩:=fV h.lay hv hl h1;obtain ⟨g,hg,rfl⟩:=hp.op_inv _ _ (bI hid);have hob:=h.lay.objs id _ hid;obtain ⟨g',cs,hL,hbg,hheap,hcs,hx⟩:=hob
 have hgg:g=g':=by
  rw [hL] at hg;simpa [aH] using hg.symm
 subst hgg;simp only [Mu,L8];refine ⟨_,jo h0 (by omega) hheap (by omega) (fun x hx'=>?_),?_,by simp,fun k hk=>setRow_other w g k _ fun e=>hk (by rw [hg,e])⟩
 .obtain ⟨k,hk,rfl⟩:=Array.getElem_of_mem hx';have hk':k<(al av).length:=by omega
  exact (hc k _ _ (KT hk) (KN hk')).2
 .have hyl:=(h.young id _ hid).2
  have hlen:(cells.take j ++ al av ++ cells.drop (j+am P t)).length=cells.length:=by
   simp;omega
  refine kd (o':=.box ty (cells.take j ++ al av ++ cells.drop (j+am P t))) h hid hg (by simpa [ar.sz] using hlen) (fun k hk=>setRow_other w g k _ hk) ?_ (by simp) (fun hext=>⟨g,_,hL,hbg,setRow_heap w g cs _ ty (0,0) hheap,?_,fun k x av' h2 h3=>?_⟩) ?_ dst
  .exact ⟨h.lay.below.os,h.lay.below.tape,h.lay.below.output,by simpa using h.lay.below.size,fun k hk hX=>(setRow_other w g k _ (by omega)).trans (h.lay.below.block k hk hX)⟩
  .rw [hlen];simp [hcs,hn,hs];omega
  .rw [<- hs] at h3;rw [dm _ _ _ (by omega)] at h3;have hvl:v.cells.toList.length=am P t:=(by simp [hn,hs]);rw [Mi,<- hvl,dm _ _ _ (by simp [hcs];omega),hvl] at h2;rw [<- hs] at h2;split at h3
   .rename_i hr;rw [K5 hr] at h2;have:=hc (k - j) x av' (by simpa using h2) h3;exact ⟨hext.rv this.1 (ag.1 hlt _ (KO h3)),this.2⟩
   .rename_i hr;rw [KY hr] at h2;have:=hx k x av' (by simpa using h2) h3;exact ⟨hext.rv this.1 (ag.1 hyl _ (KO h3)),this.2⟩
  .refine ag.2 fun x hx=>?_;rcases K2.1 hx with hx|hx
   .rcases K2.1 hx with hx | hx
    .exact ag.1 hyl x (Lk hx)
    .exact ag.1 hlt x hx
   .exact ag.1 hyl x (LP hx)
end
end
end
section
section
def cz (P:Program) (t:TypeId):Option (TypeId × Nat × Nat):=
 match P.underlying t with
 | some (.slice e)=>match P.info? e with
  | some i=>match i.zero with
   | some z=>if z.cells.size=i.size /\ 0<i.size then some (e,i.size,i.bytes) else none
   | none=>none
  | none=>none
 | _=>none
def tW (tab:aa) (sz:Nat):AV -> Option (List (List AV))
 | .sl sz' rows=>if sz'=sz then some rows else none
 | .osl id=>match tab.get id with
  | some (.row _ sz' rows)=>if sz'=sz then some rows else none
  | _=>none
 | .c (.slice none 0 _)=>some []
 | _=>none
def mE (tab:aa) (e sz:Nat):AV -> Option (Option Nat × List (List AV))
 | .osl id=>match tab.get id with
  | some (.row e' sz' rows)=>if e'=e /\ sz'=sz then some (some id,rows) else none
  | _=>none
 | .c (.slice none 0 0)=>some (none,[])
 | _=>none
def nT (tab:aa) (sz:Nat):AV -> Option (List (List AV))
 | .osl id=>match tab.get id with
  | some (.nest _ sz' rows)=>if sz'=sz then some rows else none
  | _=>none
 | _=>none
def kh (tab:aa) (e sz:Nat):AV -> Option (Option Nat × List (List AV))
 | .osl id=>match tab.get id with
  | some (.nest e' sz' rows)=>if e'=e /\ sz'=sz then some (some id,rows) else none
  | _=>none
 | .c (.slice none 0 0)=>some (none,[])
 | _=>none
section
variable {P:Program} {cx:Cx} {a:Act} {w w':World} {tab:aa} {st:ak} {L:Nat -> Value} {nx:Nat}
theorem dM {t e sz by_:Nat} (h:cz P t=some (e,sz,by_)):∃ i z,P.underlying t=some (.slice e) /\ P.info? e=some i /\ i.zero=some z /\ i.size=sz /\ i.bytes=by_ /\ z.cells.size=sz /\ 0<sz:=by
 unfold cz at h;split at h
 .rename_i e' hu;split at h
  .rename_i i hi;split at h
   .rename_i z hz;split at h
    .rename_i hc;cases h;exact ⟨i,z,hu,hi,hz,rfl,rfl,hc.1,hc.2⟩
    .cases h
   .cases h
  .cases h
 .cases h
theorem f7 (base:Nat) {t ty e:TypeId} {i:TypeInfo} {size c:Nat} (ht:P.underlying t=some (.slice e)) (hi:P.info? e=some i)
  {v:Value} {n:Nat} {xs:List Value} (hown:cR w base e size v n xs):(Builtin.append_ #[t,t] ty #[v,.slice none 0 c]).run P w=.ok v w:=by
 rcases hown.2 with ⟨rfl,rfl⟩|⟨g,cap,cur,rfl,_,_,hnc,_⟩
 .simp [Builtin.append_,run_underlying ht,sizeOf,typeInfo,hi,Builtin.lenOf,Builtin.firstCells]
 .simp [Builtin.append_,run_underlying ht,sizeOf,typeInfo,hi,Builtin.lenOf,Builtin.firstCells,hnc,storeCells]
theorem mf {w:World} (base:Nat) (t ty e:TypeId) (i:TypeInfo) (z:Value) (size bytes:Nat) (ht:P.underlying t=some (.slice e)) (hi:P.info? e=some i) (hz:i.zero=some z)
  (hsize:i.size=size) (hby:i.bytes=bytes) (hzs:z.cells.size=size) (hsz:0<size)
  (v:Value) (n:Nat) (xs:List Value) (hown:cR w base e size v n xs)
  (a:Addr) (m c:Nat) (news:List Value) (hl:news.length=m * size) (hnews:∀ j u,news[j]? = some u -> w.cell? (a.add j)=some u) (h1:∀ u ∈ news,u.oneCell'=true)
  (h63:n+m<=maxLen) (hbytes:(n+m) * bytes<=140737488355328) (hbase:base<=w.heap.size) :
  ∃ v' w',(Builtin.append_ #[t,t] ty #[v,.slice (some a) m c]).run P w=.ok v' w' /\ cR w' base e size v' (n+m) (xs ++ news) /\ w.grownBy w' v.ownBlock /\ (v'.ownBlock=v.ownBlock \/ v'.ownBlock=some w.heap.size):=by
 rcases hown.2 with ⟨rfl,rfl⟩|⟨g,cap,cur,rfl,hbg,hg,hnc,hcm,hcs,htake⟩
 .obtain ⟨v',w',h2,h3,h4,_,h5⟩:=run_append_own_at (P:=P) w base t ty e i z size bytes ht hi hz hsize hby hzs hsz (.slice none 0 0) 0 xs ⟨hown.1,.inl ⟨rfl,rfl⟩⟩ a m c news hl hnews h1 h63 hbytes hbase;exact ⟨v',w',h2,C0 h3,h4,h5⟩
 .subst hsize;subst hby
  have hsmall:n+m<=9223372036854775807:=by simp only [maxLen] at h63;omega
  have hlen:(xs ++ news).length=(n+m) * i.size:=by rw [f4,hown.1,hl,LM]
  by_cases hroom:n+m<=cap
  .have hfit:n * i.size+news.length<=cur.size:=by
    rw [hl,<- LM];exact Lf (La _ hroom) hcs
   have hr:=run_append_room (P:=P) w t ty e i ht hi g n cap cur hg a m c news hl hnews h1 hroom hfit;refine ⟨_,_,hr,⟨hlen,.inr ⟨g,cap,_,rfl,hbg,setRow_heap w g cur _ e _ hg,hroom,hcm,?_,?_⟩⟩,⟨rfl,rfl,rfl,by simp,fun k _ hk=>setRow_other w g k _ (fun e=>hk (by simp [Value.ownBlock,e]))⟩,Or.inl rfl⟩
   .simp only [Mp,f4,K6,LG,Ll];omega
   .rw [htake,<- hlen];exact List.take_left
  .have holds:∀ j u,xs[j]? = some u -> w.cell? ((⟨g,0,none⟩:Addr).add j)=some u:=hown.cells (g:=g) rfl;have hr:=run_append_grow (P:=P) w t ty e i z ht hi hz ⟨g,0,none⟩ n cap xs hown.1 holds a m c news hl hnews (by omega) (by omega) (growslice_fits (by omega) hbytes);have hge:=grownCap_ge w (n+m) cap e;have hcm':grownCap w (n+m) cap e<=maxLen:=grownCap_le_maxLen w (n+m) cap e h63;refine ⟨_,_,hr,⟨hlen,.inr ⟨w.heap.size,_,_,rfl,hbase,heap_alloc_new w.drew _,hge,hcm',?_,?_⟩⟩,⟨rfl,rfl,rfl,by simp,fun k hk _=>heap_alloc_old w.drew _ hk⟩,Or.inr rfl⟩
   .simp only [Array.size_append,Mp,size_zeroCells,hzs,hown.1,hl,<- LM];refine Nat.le_of_eq ?_
    congr 1
    omega
   .simp only [Array.toList_append,KZ];rw [<- KZ,<- hlen];exact List.take_left
theorem Hg (hL:fY cx w tab L) {v:Value} {av:AV} {sz:Nat} {rows:List (List AV)} (h0:0<sz) (hv:bx cx w tab L v av) (h:tW tab sz av=some rows):∃ A c,v=.slice A rows.length c /\ (∀ row ∈ rows,row.length=sz) /\
  ∃ news:List Value,news.length=rows.length * sz /\ (∀ u ∈ news,u.oneCell'=true) /\ (∀ (i j:Nat) (row:List AV) (av:AV),rows[i]? = some row -> row[j]? = some av -> ∃ x,news[i * sz+j]? = some x /\ RT w (Sx cx w tab L) x av) /\
   ((A=none /\ rows.length=0) \/ ∃ ad,A=some ad /\ ∀ j u,news[j]? = some u -> w.cell? (ad.add j)=some u):=by
 unfold tW at h;split at h
 .rename_i sz' rows';split at h
  .rename_i e;subst e;cases h;obtain ⟨A,cap,rfl,_,_,hrow,hA⟩:=hv.sl_inv.sl_inv;refine ⟨A,cap,rfl,hrow,?_⟩;by_cases hz:rows.length=0
   .have:rows=[]:=LQ hz;subst this;refine ⟨[],by simp,by simp,by simp,?_⟩
    cases A with
    | none=>exact .inl ⟨rfl,rfl⟩
    | some ad=>exact .inr ⟨ad,rfl,by simp⟩
   .obtain ⟨b,o,rfl,hb,U,hcell,hr,hone⟩:=hA (by omega)
    have key:∀ k,k<rows.length * sz' -> ∃ row av,rows[k / sz']? = some row /\ row[k % sz']? = some av:=fun k hk=>by
     have h1:k / sz'<rows.length:=Nat.div_lt_of_lt_mul (by rwa [Nat.mul_comm] at hk);have h2:k % sz'<(rows[k / sz']).length:=by rw [hrow _ (KQ h1)];exact Nat.mod_lt _ h0
     exact ⟨_,_,KN h1,KN h2⟩
    refine ⟨(List.range (rows.length * sz')).map fun k=>U (k / sz') (k % sz'),by simp,fun u hu=>?_,fun i j row av h1 h2=>⟨U i j,?_,hr i j row av h1 h2⟩,.inr ⟨_,rfl,fun k u hu=>?_⟩⟩
    .simp at hu;obtain ⟨k,hk,rfl⟩:=hu;obtain ⟨row,av,h1,h2⟩:=key k hk;exact hone _ _ row av h1 h2
    .have hj:j<sz':=by
      rw [<- hrow row (KO h1)];exact (KS.1 h2).1
     have hi:i<rows.length:=(KS.1 h1).1
     have hlt:i * sz'+j<rows.length * sz':=by
      have:=La sz' (show i+1<=rows.length from hi);rw [LM] at this;omega
     have e1:(i * sz'+j) / sz'=i:=by rw [Nat.add_comm,Nat.add_mul_div_right _ _ h0,Nat.div_eq_of_lt hj];omega
     have e2:(i * sz'+j) % sz'=j:=(by rw [Nat.add_comm,Nat.add_mul_mod_self_right,Nat.mod_eq_of_lt hj]);rw [KV,List.getElem?_range hlt,LE,e1,e2]
    .obtain ⟨hk,rfl⟩:=m8 hu;obtain ⟨row,av,h1,h2⟩:=key k hk;have:=hcell _ _ row av h1 h2;rw [Mj,Nat.mul_comm,Nat.div_add_mod] at this
     rwa [Addr.add_lit]
  .cases h
 .rename_i id;split at h
  .rename_i e sz' rows' hid;split at h
   .rename_i e;subst e;cases h;obtain ⟨hvL,A,cap,rfl,hA⟩:=lN hL hid hv;obtain ⟨hrow,xs,hown,hone,hx⟩:=hL.objs id _ hid;refine ⟨A,cap,rfl,hrow,xs,hown.1,hone,hx,?_⟩;rw [<- hvL] at hown;rcases hown.2 with ⟨h1,h2⟩|⟨g,cap',cur,h1,_⟩
    .injection h1 with h1
     exact .inl ⟨h1,h2⟩
    .injection h1 with h1
     subst h1;exact .inr ⟨_,rfl,hown.cells (g:=g) rfl⟩
   .cases h
  .cases h
 .cases h;obtain rfl:=hv.c_inv;exact ⟨none,_,rfl,by simp,[],by simp,by simp,by simp,.inl ⟨rfl,rfl⟩⟩
 .cases h
def Ke (tab:aa) (L:Nat -> Value) (e sz:Nat) (rows:List (List AV)) (v:Value):Option Nat -> Prop
 | some id=>tab.get id=some (.row e sz rows) /\ v=L id
 | none=>v=.slice none 0 0
theorem GQ (hL:fY cx w tab L) (hb:cx.w0.heap.size<=w.heap.size) {v:Value} {av:AV} {e sz:Nat} {rows:List (List AV)} {oid:Option Nat} (hv:bx cx w tab L v av) (h:mE tab e sz av=some (oid,rows)) :
  (∀ row ∈ rows,row.length=sz) /\ (∃ xs,cR w cx.w0.heap.size e sz v rows.length xs /\ (∀ x ∈ xs,x.oneCell'=true) /\ ∀ (i j:Nat) (row:List AV) (av:AV),rows[i]? = some row -> row[j]? = some av -> ∃ x,xs[i * sz+j]? = some x /\ RT w (Sx cx w tab L) x av) /\
  Ke tab L e sz rows v oid:=by
 unfold mE at h;split at h
 .rename_i id;split at h
  .rename_i e' sz' rows' hid;split at h
   .rename_i e;obtain ⟨rfl,rfl⟩:=e;cases h;obtain ⟨hvL,_⟩:=lN hL hid hv;obtain ⟨hrow,xs,hown,hone,hx⟩:=hL.objs id _ hid;exact ⟨hrow,⟨xs,by rw [hvL];exact hown,hone,hx⟩,hid,hvL⟩
   .cases h
  .cases h
 .cases h;obtain rfl:=hv.c_inv;exact ⟨by simp,⟨[],gC ..,by simp,by simp⟩,rfl⟩
 .cases h
def bq (tab:aa) (nx:Nat) (oid:Option Nat) (o:ar):aa:=
 match oid with
 | some id=>(nx,some o) :: (id,none) :: tab
 | none=>(nx,some o) :: tab
theorem br (tab:aa) (nx:Nat) (oid:Option Nat) (o:ar) (k:Nat):(bq tab nx oid o).get k=if k=nx then some o else if oid=some k then none else tab.get k:=by
 unfold bq
 cases oid with
 | none=>simp [aa.gc]
 | some id=>
  simp only [aa.gc,My];split
  .rfl
  .by_cases h:k=id
   .simp [h]
   .simp [h,Ne.symm h]
theorem nR {e sz by_:Nat} {t:TypeId} {v:Value} {x:AV} {oid:Option Nat} {rows rows2:List (List AV)} {F:Sem Value} (h:aI cx a w st L) (hv:bx cx w st.tab L v x) (ht:cz P t=some (e,sz,by_))
  (hx:mE st.tab e sz x=some (oid,rows)) (news:List Value) (hrow2:∀ row ∈ rows2,row.length=sz) (hnl:news.length=rows2.length * sz) (hn1:∀ u ∈ news,u.oneCell'=true)
  (hnr:∀ (i j:Nat) (row:List AV) (av:AV),rows2[i]? = some row -> row[j]? = some av -> ∃ x,news[i * sz+j]? = some x /\ RT w (Sx cx w st.tab L) x av)
  (hrun:∀ xs,cR w cx.w0.heap.size e sz v rows.length xs -> ∃ v' w',F.run P w=.ok v' w' /\ cR w' cx.w0.heap.size e sz v' (rows.length+rows2.length) (xs ++ news) /\ w.grownBy w' v.ownBlock /\ (v'.ownBlock=v.ownBlock \/ v'.ownBlock=some w.heap.size)) (dst:Option Nat) :
  ∃ v' w' L',F.run P w=.ok v' w' /\ aI cx (a.put dst v') w' ({ st with tab:=bq st.tab st.next oid (.row e sz (rows ++ rows2)),next:=st.next+1 }.put dst (.osl st.next)) L' /\
   w.grownBy w' v.ownBlock /\ L'=bb L st.next v' /\ (aH v'=v.ownBlock \/ aH v'=some w.heap.size) /\ (∀ g,v.ownBlock=some g -> ∃ id,oid=some id /\ aH (L id)=some g):=by
 obtain ⟨i,z,hund,hi,hz,hs,hb,hzs,h0⟩:=dM ht;have hbase:cx.w0.heap.size<=w.heap.size:=h.lay.below.size;obtain ⟨hrow1,⟨xs,hown,hone,hxs⟩,hoid⟩:=GQ h.lay hbase hv hx;obtain ⟨v',w',hrun,hown',hgrow,hblk⟩:=hrun xs hown
 have vb:∀ {x:Value} {n:Nat} {l:List Value} {w:World},cR w cx.w0.heap.size e sz x n l -> aH x=x.ownBlock:=fun hh=>by
  rcases hh.2 with ⟨rfl,_⟩|⟨g,cap,cur,rfl,_⟩<;>rfl
 have hvb:=vb hown;have hvb':=vb hown'
 have hold_block:∀ g,v.ownBlock=some g -> ∃ id,oid=some id /\ st.tab.get id=some (.row e sz rows) /\ aH (L id)=some g:=fun g hg=>by
  cases oid with
  | none=>rw [show v=.slice none 0 0 from hoid] at hg;cases hg
  | some id=>exact ⟨id,rfl,hoid.1,by rw [<- hoid.2,hvb];exact hg⟩
 have hy':=h.young
 have hget:∀ k,k<st.next -> (bq st.tab st.next oid (.row e sz (rows ++ rows2))).get k=if oid=some k then none else st.tab.get k:=fun k hk=>by
  rw [br,KY (by omega)]
 have hgetS:∀ k o,(bq st.tab st.next oid (.row e sz (rows ++ rows2))).get k=some o -> (k=st.next /\ o=.row e sz (rows ++ rows2)) \/ (k<st.next /\ oid ≠ some k /\ st.tab.get k=some o):=fun k o hk=>by
  rw [br] at hk;split at hk
  .rename_i e';cases hk;exact .inl ⟨e',rfl⟩
  .split at hk
   .cases hk
   .rename_i h1;exact .inr ⟨(hy' k o hk).1,h1,hk⟩
 have hLn:∀ k,k<st.next -> bb L st.next v' k=L k:=fun k hk=>by unfold bb;rw [KY (by omega)]
 have hLx:bb L st.next v' st.next=v':=by simp [bb]
 -- the blocks of other objects
 have hother:∀ k o g,k<st.next -> oid ≠ some k -> st.tab.get k=some o -> aH (L k)=some g -> some g ≠ v.ownBlock /\ some g ≠ v'.ownBlock:=fun k o g hk hne ho hg=>by
  have h1:some g ≠ v.ownBlock:=fun e'=>by
   obtain ⟨id,hid,hti,hbi⟩:=hold_block g e'.symm;exact hne (by rw [hid,h.lay.sep id k _ o g hti ho hbi hg])
  refine ⟨h1,fun e'=>?_⟩;rcases hblk with hb1|hb1
  .exact h1 (by rw [e',hb1])
  .have:=((h.lay.objs k o ho).ge hg).2;rw [hb1] at e';cases e';omega
 have hext:kc cx w st.tab L st.next w' (bq st.tab st.next oid (.row e sz (rows ++ rows2))) (bb L st.next v'):=by
  refine ⟨fun p hp=>hgrow.block p hp.1 fun e'=>?_,fun b hS=>⟨K1 hS.1 hgrow.size,hS.2.1,fun k o hk hg=>?_⟩,fun k p hk hK=>?_⟩
  .obtain ⟨id,_,hti,hbi⟩:=hold_block p e'.symm;exact hp.2.2 id _ hti hbi
  .rcases hgetS k o hk with ⟨rfl,_⟩ | ⟨hlt,_,ho⟩
   .rw [hLx,hvb'] at hg;rcases hblk with hb1|hb1
    .rw [hb1] at hg;obtain ⟨id,_,hti,hbi⟩:=hold_block b hg;exact hS.2.2 id _ hti hbi
    .rw [hb1] at hg;cases hg;exact Nat.lt_irrefl _ hS.1
   .rw [hLn k hlt] at hg;exact hS.2.2 k o ho hg
  .unfold Kx at *;rw [hget k hk,hLn k hk] at hK;split at hK
   .cases hK
   .exact hK
 have hbel:dZ cx.X cx.w0.heap.size cx.w0 w':=h.lay.below.grown hgrow hbase fun k hk=>(hown.lt k hk).1;refine ⟨v',w',bb L st.next v',hrun,?_,hgrow,rfl,by rw [hvb'];exact hblk,fun g hg=>by obtain ⟨id,h1,_,h2⟩:=hold_block g hg;exact ⟨id,h1,h2⟩⟩
 have hex:∀ id2 o2 g,(bq st.tab st.next oid (.row e sz (rows ++ rows2))).get id2=some o2 -> aH (bb L st.next v' id2)=some g -> g<w.heap.size -> ∃ id3 o3,st.tab.get id3=some o3 /\ aH (L id3)=some g:=fun k ok g hk hg' hlt=>by
  rcases hgetS k ok hk with ⟨rfl,_⟩|⟨hlt',_,ho⟩
  .rw [hLx,hvb'] at hg';rcases hblk with hb1|hb1
   .rw [hb1] at hg';obtain ⟨id,_,hti,hbi⟩:=hold_block g hg';exact ⟨id,_,hti,hbi⟩
   .rw [hb1] at hg';cases hg';omega
  .rw [hLn k hlt'] at hg';exact ⟨k,ok,ho,hg'⟩
 refine ea h ⟨hbel,fun k o hk=>?_,fun k k' o o' g h1 h2 h3 h4=>?_,qL h.lay hgrow.size hex⟩ hext (Lw _) (fun k o hk=>?_) ?_ (LK _) dst
 .rcases hgetS k o hk with ⟨rfl,rfl⟩ | ⟨hlt,hne,ho⟩
  .rw [hLx];refine ⟨fun row hr=>?_,xs ++ news,by rw [f4];exact hown',fun x hx=>?_,fun i j row av h1 h2=>?_⟩
   .rcases K2.1 hr with hr | hr
    .exact hrow1 row hr
    .exact hrow2 row hr
   .rcases K2.1 hx with hx | hx
    .exact hone x hx
    .exact hn1 x hx
   .by_cases hlt:i<rows.length
    .rw [Ls hlt] at h1;obtain ⟨x,hx,hr⟩:=hxs i j row av h1 h2;exact ⟨x,by rw [Ls ((KS.1 hx).1)];exact hx,hext.rt hr⟩
    .rw [LC (by omega)] at h1;obtain ⟨x,hx,hr⟩:=hnr _ j row av h1 h2;refine ⟨x,?_,hext.rt hr⟩;have e1:rows.length * sz<=i * sz:=La _ (by omega);rw [LC (by rw [hown.1];omega),hown.1];rw [Nat.sub_mul] at hx
     rwa [show i * sz+j - rows.length * sz=i * sz - rows.length * sz+j by omega]
  .rw [hLn k hlt];have hob:=h.lay.objs k o ho;exact hext.obj hob (hy' k o ho).2 fun g hg=>hgrow.block g (hob.ge hg).2 (hother k o g hlt hne ho hg).1
 .rcases hgetS k o h1 with ⟨rfl,rfl⟩ | ⟨hlt,hne,ho⟩<;>rcases hgetS k' o' h2 with ⟨rfl,rfl⟩ | ⟨hlt',hne',ho'⟩
  .rfl
  .rw [hLx,hvb'] at h3;rw [hLn k' hlt'] at h4;exact absurd h3.symm (hother k' o' g hlt' hne' ho' h4).2
  .rw [hLx,hvb'] at h4;rw [hLn k hlt] at h3;exact absurd h4.symm (hother k o g hlt hne ho h3).2
  .rw [hLn k hlt] at h3;rw [hLn k' hlt'] at h4;exact h.lay.sep k k' o o' g ho ho' h3 h4
 .rcases hgetS k o hk with ⟨rfl,rfl⟩ | ⟨hlt,_,ho⟩
  .exact ⟨LK _,trivial⟩
  .refine ⟨by omega,?_⟩;have:=(hy' k o ho).2
   cases o with
   | box t cells=>exact ag.2 fun x hx=>AV.lt_mono (Lw _) (ag.1 this x hx)
   | row=>trivial
   | map=>trivial
   | nest e sz rows=>exact fun row hr=>ag.2 fun x hx=>AV.lt_mono (Lw _) (ag.1 (this row hr) x hx)
   | ghost vs env=>exact dG (Lw _) this
 .refine .osl _ _ fun sz' v'' hk=>?_;unfold Kx at hk;rw [br,K5 rfl] at hk;simp at hk;rw [hLx] at hk;exact hk.2
theorem mM {t ty e sz by_:Nat} {v u:Value} {x y:AV} {oid:Option Nat} {rows rows2:List (List AV)} (h:aI cx a w st L) (hv:bx cx w st.tab L v x) (hu:bx cx w st.tab L u y) (ht:cz P t=some (e,sz,by_))
  (hx:mE st.tab e sz x=some (oid,rows)) (hy:tW st.tab sz y=some rows2) (h63:rows.length+rows2.length<=maxLen) (hby:(rows.length+rows2.length) * by_<=140737488355328) (dst:Option Nat) :
  ∃ v' w' L',(Builtin.append_ #[t,t] ty #[v,u]).run P w=.ok v' w' /\ aI cx (a.put dst v') w' ({ st with tab:=bq st.tab st.next oid (.row e sz (rows ++ rows2)),next:=st.next+1 }.put dst (.osl st.next)) L' /\
   w.grownBy w' v.ownBlock /\ L'=bb L st.next v' /\ (aH v'=v.ownBlock \/ aH v'=some w.heap.size) /\ (∀ g,v.ownBlock=some g -> ∃ id,oid=some id /\ aH (L id)=some g):=by
 obtain ⟨i,z,hund,hi,hz,hs,hb,hzs,h0⟩:=dM ht;have hbase:cx.w0.heap.size<=w.heap.size:=h.lay.below.size;obtain ⟨A,c,rfl,hrow2,news,hnl,hn1,hnr,hA⟩:=Hg h.lay h0 hu hy;refine nR h hv ht hx news hrow2 hnl hn1 hnr (fun xs hown=>?_) dst;rcases hA with ⟨rfl,hz0⟩|⟨ad,rfl,hcell⟩
 .rw [hz0] at hnl ⊢;have:news=[]:=LQ (by simpa using hnl);subst this;exact ⟨v,w,f7 _ hund hi hown,by simpa using hown,⟨rfl,rfl,rfl,KW _,fun _ _ _=>rfl⟩,.inl rfl⟩
 .obtain ⟨v',w',h1,h2,h3,h5⟩:=mf (P:=P) cx.w0.heap.size t ty e i z sz by_ hund hi hz hs hb hzs h0 v rows.length xs hown ad rows2.length c news hnl hcell hn1 h63 hby hbase;exact ⟨v',w',h1,h2,h3,h5⟩
def ib (s:ByteArray):List (List AV):=s.data.toList.map fun b=>[.c (.int .u8 b.toNat)]
theorem ui (s:ByteArray):(ib s).length=s.size:=by
 rw [ib,Lg,Ll];rfl
theorem r6 {w:World} (base:Nat) (t u ty e:TypeId) (i:TypeInfo) (ht:P.underlying t=some (.slice e)) (hu:P.underlying u=some .string) (hi:P.info? e=some i) (hz:i.zero=some (.int .u8 0)) (hsize:i.size=1) (hby:i.bytes=1)
  (v:Value) (n:Nat) (xs:List Value) (hown:cR w base e 1 v n xs) (s:ByteArray) (h63:n+s.size<=maxLen) (hbytes:n+s.size<=140737488355328) (hbase:base<=w.heap.size) :
  ∃ v' w',(Builtin.append_ #[t,u] ty #[v,.string s]).run P w=.ok v' w' /\ cR w' base e 1 v' (n+s.size) (xs ++ Lib.strCells s) /\ w.grownBy w' v.ownBlock /\ (v'.ownBlock=v.ownBlock \/ v'.ownBlock=some w.heap.size):=by
 have hsmall:n+s.size<=9223372036854775807:=by simp only [maxLen] at h63;omega
 have hxl:xs.length=n:=by simpa using hown.1
 have hlen:(xs ++ Lib.strCells s).length=(n+s.size) * 1:=by rw [f4,hxl,Lib.strCells_length,Nat.mul_one]
 rcases hown.2 with ⟨rfl,rfl⟩|⟨g,cap,cur,rfl,hbg,hg,hnc,hcm,hcs,htake⟩
 .have hx:xs=[]:=LQ hxl;subst hx;by_cases hm:s.size=0
  .have hn:Lib.strCells s=[]:=LQ (by rw [Lib.strCells_length];exact hm);refine ⟨.slice none 0 0,w,?_,by rw [hm,hn];exact gC w base e 1,⟨rfl,rfl,rfl,KW _,fun _ _ _=>rfl⟩,.inl rfl⟩;have hf:=Lib.run_firstCells_string (P:=P) w 1 s;rw [hm] at hf;simp [Builtin.append_,run_underlying ht,run_underlying hu,sizeOf,typeInfo,hi,hsize,Builtin.lenOf,hm,hf]
  .have hr:=run_append_nil_string (P:=P) w t u ty e i (.int .u8 0) ht hu hi hz s (by omega) (by omega) (by rw [hby];omega)
   have e1:(s.data.map fun b=>Value.int .u8 b.toNat)=(Lib.strCells s).toArray:=by
    apply Array.ext';simp [Lib.strCells]
   rw [e1] at hr;have hge:=grownCap_ge w s.size 0 e;have hcm':grownCap w s.size 0 e<=maxLen:=grownCap_le_maxLen w s.size 0 e (by omega);refine ⟨_,_,hr,⟨by simpa using hlen,.inr ⟨w.heap.size,_,_,by simp,hbase,heap_alloc_new w.drew _,by simpa using hge,hcm',?_,?_⟩⟩,⟨rfl,rfl,rfl,by simp,fun k hk _=>by first|exact heap_alloc_old w.drew _ k hk|exact heap_alloc_old w.drew _ hk⟩,.inr rfl⟩
   .have hz1:(Value.int IntKind.u8 0).cells.size=1:=rfl;simp only [Array.size_append,Mp,size_zeroCells,hz1,Lib.strCells_length];omega
   .simp only [Array.toList_append,LT,L8,Nat.mul_one];rw [<- Lib.strCells_length s];exact List.take_left
 .by_cases hroom:n+s.size<=cap
  .have hcs':cap<=cur.size:=(by simpa using hcs);have hr:=Lib.run_append_room_string (P:=P) w t u ty e i ht hu hi hsize g n cap cur hg s hroom (by omega);refine ⟨_,_,hr,⟨hlen,.inr ⟨g,cap,_,rfl,hbg,setRow_heap w g cur _ e _ hg,hroom,hcm,?_,?_⟩⟩,⟨rfl,rfl,rfl,by simp,fun k _ hk=>setRow_other w g k _ (fun e=>hk (by simp [Value.ownBlock,e]))⟩,.inl rfl⟩
   .simp only [Mp,f4,K6,LG,Ll,Lib.strCells_length];omega
   .have ht':cur.toList.take n=xs:=(by simpa using htake);rw [ht',<- hlen];exact List.take_left
  .have holds:∀ j u,xs[j]? = some u -> w.cell? ((⟨g,0,none⟩:Addr).add j)=some u:=hown.cells (g:=g) rfl;have hr:=Lib.run_append_grow_string (P:=P) w t u ty e i (.int .u8 0) ht hu hi hz ⟨g,0,none⟩ n cap xs (by rw [hsize];simpa using hxl) holds s (by omega) (by omega) (by rw [hby];exact growslice_fits (by omega) (by omega));have hge:=grownCap_ge w (n+s.size) cap e;have hcm':grownCap w (n+s.size) cap e<=maxLen:=grownCap_le_maxLen w (n+s.size) cap e h63;refine ⟨_,_,hr,⟨hlen,.inr ⟨w.heap.size,_,_,rfl,hbase,heap_alloc_new w.drew _,hge,hcm',?_,?_⟩⟩,⟨rfl,rfl,rfl,by simp,fun k hk _=>by first|exact heap_alloc_old w.drew _ k hk|exact heap_alloc_old w.drew _ hk⟩,.inr rfl⟩
   .have hz1:(Value.int IntKind.u8 0).cells.size=1:=rfl;simp only [Array.size_append,Mp,size_zeroCells,hz1,hxl,Lib.strCells_length];omega
   .simp only [Array.toList_append,KZ];rw [<- KZ,<- hlen];exact List.take_left
def vT (P:Program) (t u:TypeId):Option TypeId:=
 match P.underlying u,cz P t with
 | some .string,some (e,1,1)=>match P.info? e with
  | some i=>match i.zero with
   | some (.int .u8 0)=>some e
   | _=>none
  | none=>none
 | _,_=>none
def ku (P:Program) (t u:TypeId) (st:ak) (x y:AV) (dst:Option Nat) (K:ak -> Prop):Prop:=
 match vT P t u,y with
 | some e,.c (.string s)=>match mE st.tab e 1 x with
  | some (oid,rows)=>rows.length+s.size<=140737488355328 /\ K ({ st with tab:=bq st.tab st.next oid (.row e 1 (rows ++ ib s)),next:=st.next+1 }.put dst (.osl st.next))
  | none=>False
 | _,_=>False
theorem qz {t u ty:Nat} {v z:Value} {x y:AV} {K:ak -> Prop} (h:aI cx a w st L) (hv:bx cx w st.tab L v x) (hu:bx cx w st.tab L z y) (dst:Option Nat) (hp:ku P t u st x y dst K) :
  ∃ v' w' st' L',(Builtin.append_ #[t,u] ty #[v,z]).run P w=.ok v' w' /\ K st' /\ aI cx (a.put dst v') w' st' L' /\
   ∃ (e:Nat) (rows rows2:List (List AV)) (oid:Option Nat),mE st.tab e 1 x=some (oid,rows) /\ st'=({ st with tab:=bq st.tab st.next oid (.row e 1 (rows ++ rows2)),next:=st.next+1 }.put dst (.osl st.next)) /\
   w.grownBy w' v.ownBlock /\ L'=bb L st.next v' /\ (aH v'=v.ownBlock \/ aH v'=some w.heap.size) /\ (∀ g,v.ownBlock=some g -> ∃ id,oid=some id /\ aH (L id)=some g):=by
 unfold ku at hp;split at hp
 .rename_i e s hty;split at hp
  .rename_i oid rows hx;unfold vT at hty;split at hty
   .rename_i e' hus htr;split at hty
    .rename_i i hi;split at hty
     .rename_i hz;cases hty;obtain ⟨i',z',hund,hi',hz',hs,hb,hzs,h0⟩:=dM htr;rw [hi] at hi';cases hi';have hu2:=hu.c_inv;subst hu2;have hlen:=ui s
      obtain ⟨v',w',L',h1,h2,h3⟩:=nR (rows2:=ib s) (F:=Builtin.append_ #[t,u] ty #[v,.string s]) h hv htr hx (Lib.strCells s) (fun row hr=>by
        obtain ⟨b,_,rfl⟩:=K8.1 hr;rfl) (by rw [Lib.strCells_length,hlen,Nat.mul_one]) (Lib.strCells_oneCell s) (fun i j row av h4 h5=>by
        unfold ib at h4;rw [KV] at h4
        cases hb2:s.data.toList[i]? with
        | none=>rw [hb2] at h4;cases h4
        | some b=>
         rw [hb2] at h4;simp only [LE,My] at h4;subst h4
         cases j with
         | zero=>
          simp at h5;subst h5;refine ⟨.int .u8 b.toNat,?_,.c _⟩;unfold Lib.strCells;rw [Nat.mul_one,Nat.add_zero,KV,hb2];rfl
         | succ j=>simp at h5) (fun xs hown=>by
        rw [hlen];exact r6 cx.w0.heap.size t u ty e i hund hus hi hz hs hb v rows.length xs hown s (by simp only [maxLen];omega) hp.1 h.lay.below.size) dst
      exact ⟨v',w',_,L',h1,hp.2,h2,e,rows,ib s,oid,hx,rfl,h3⟩
     .cases hty
    .cases hty
   .cases hty
  .exact hp.elim
 .exact hp.elim
theorem EP (hL:fY cx w tab L) {v:Value} {av:AV} {sz:Nat} {rows:List (List AV)} (h0:0<sz) (hv:bx cx w tab L v av) (h:nT tab sz av=some rows):∃ A c,v=.slice A rows.length c /\ (∀ row ∈ rows,row.length=sz) /\
  ∃ news:List Value,news.length=rows.length * sz /\ (∀ u ∈ news,u.oneCell'=true) /\ (∀ (i j:Nat) (row:List AV) (av:AV),rows[i]? = some row -> row[j]? = some av -> ∃ x,news[i * sz+j]? = some x /\ bx cx w tab L x av) /\
   ((A=none /\ rows.length=0) \/ ∃ ad,A=some ad /\ ∀ j u,news[j]? = some u -> w.cell? (ad.add j)=some u):=by
 unfold nT at h;split at h
 .rename_i id;split at h
  .rename_i e sz' rows' hid;split at h
   .rename_i e;subst e;cases h;obtain ⟨hvL,A,cap,rfl,hA⟩:=iX hL hid hv;obtain ⟨hrow,xs,hown,hone,hx⟩:=hL.objs id _ hid;refine ⟨A,cap,rfl,hrow,xs,hown.1,hone,hx,?_⟩;rw [<- hvL] at hown;rcases hown.2 with ⟨h1,h2⟩|⟨g,cap',cur,h1,_⟩
    .injection h1 with h1
     exact .inl ⟨h1,h2⟩
    .injection h1 with h1
     subst h1;exact .inr ⟨_,rfl,hown.cells (g:=g) rfl⟩
   .cases h
  .cases h
 .cases h
def IE (tab:aa) (L:Nat -> Value) (e sz:Nat) (rows:List (List AV)) (v:Value):Option Nat -> Prop
 | some id=>tab.get id=some (.nest e sz rows) /\ v=L id
 | none=>v=.slice none 0 0
theorem E4 (hL:fY cx w tab L) (hb:cx.w0.heap.size<=w.heap.size) {v:Value} {av:AV} {e sz:Nat} {rows:List (List AV)} {oid:Option Nat} (hv:bx cx w tab L v av) (h:kh tab e sz av=some (oid,rows)) :
  (∀ row ∈ rows,row.length=sz) /\ (∃ xs,cR w cx.w0.heap.size e sz v rows.length xs /\ (∀ x ∈ xs,x.oneCell'=true) /\ ∀ (i j:Nat) (row:List AV) (av:AV),rows[i]? = some row -> row[j]? = some av -> ∃ x,xs[i * sz+j]? = some x /\ bx cx w tab L x av) /\
  IE tab L e sz rows v oid:=by
 unfold kh at h;split at h
 .rename_i id;split at h
  .rename_i e' sz' rows' hid;split at h
   .rename_i e;obtain ⟨rfl,rfl⟩:=e;cases h;obtain ⟨hvL,_⟩:=iX hL hid hv;obtain ⟨hrow,xs,hown,hone,hx⟩:=hL.objs id _ hid;exact ⟨hrow,⟨xs,by rw [hvL];exact hown,hone,hx⟩,hid,hvL⟩
   .cases h
  .cases h
 .cases h;obtain rfl:=hv.c_inv;exact ⟨by simp,⟨[],gC ..,by simp,by simp⟩,rfl⟩
 .cases h
theorem F0 (hy:∀ id o,tab.get id=some o -> o.lt nx) {av:AV} {sz:Nat} {rows:List (List AV)} (h:nT tab sz av=some rows):∀ row ∈ rows,AV.ltL nx row:=by
 unfold nT at h;split at h
 .split at h
  .rename_i hid;split at h
   .cases h;exact hy _ _ hid
   .cases h
  .cases h
 .cases h
theorem Fu (hy:∀ id o,tab.get id=some o -> o.lt nx) {av:AV} {e sz:Nat} {oid:Option Nat} {rows:List (List AV)} (h:kh tab e sz av=some (oid,rows)):∀ row ∈ rows,AV.ltL nx row:=by
 unfold kh at h;split at h
 .split at h
  .rename_i hid;split at h
   .cases h;exact hy _ _ hid
   .cases h
  .cases h
 .cases h;intro row hr;cases hr
 .cases h
theorem ly {t ty e sz by_:Nat} {v u:Value} {x y:AV} {oid:Option Nat} {rows rows2:List (List AV)} (h:aI cx a w st L) (hv:bx cx w st.tab L v x) (hu:bx cx w st.tab L u y) (ht:cz P t=some (e,sz,by_))
  (hx:kh st.tab e sz x=some (oid,rows)) (hy:nT st.tab sz y=some rows2) (h63:rows.length+rows2.length<=maxLen) (hby:(rows.length+rows2.length) * by_<=140737488355328) (dst:Option Nat) :
  ∃ v' w' L',(Builtin.append_ #[t,t] ty #[v,u]).run P w=.ok v' w' /\ aI cx (a.put dst v') w' ({ st with tab:=bq st.tab st.next oid (.nest e sz (rows ++ rows2)),next:=st.next+1 }.put dst (.osl st.next)) L' /\
   w.grownBy w' v.ownBlock /\ L'=bb L st.next v' /\ (aH v'=v.ownBlock \/ aH v'=some w.heap.size) /\ (∀ g,v.ownBlock=some g -> ∃ id,oid=some id /\ aH (L id)=some g):=by
 obtain ⟨i,z,hund,hi,hz,hs,hb,hzs,h0⟩:=dM ht;have hbase:cx.w0.heap.size<=w.heap.size:=h.lay.below.size;obtain ⟨hrow1,⟨xs,hown,hone,hxs⟩,hoid⟩:=E4 h.lay hbase hv hx;obtain ⟨A,c,rfl,hrow2,news,hnl,hn1,hnr,hA⟩:=EP h.lay h0 hu hy;have hl1:=Fu (fun id o ho=>(h.young id o ho).2) hx;have hl2:=F0 (fun id o ho=>(h.young id o ho).2) hy
 have hrun:∃ v' w',(Builtin.append_ #[t,t] ty #[v,.slice A rows2.length c]).run P w=.ok v' w' /\ cR w' cx.w0.heap.size e sz v' (rows.length+rows2.length) (xs ++ news) /\ w.grownBy w' v.ownBlock /\ (v'.ownBlock=v.ownBlock \/ v'.ownBlock=some w.heap.size):=by
  rcases hA with ⟨rfl,hz0⟩|⟨ad,rfl,hcell⟩
  .rw [hz0] at hnl ⊢;have:news=[]:=LQ (by simpa using hnl);subst this;exact ⟨v,w,f7 _ hund hi hown,by simpa using hown,⟨rfl,rfl,rfl,KW _,fun _ _ _=>rfl⟩,.inl rfl⟩
  .obtain ⟨v',w',h1,h2,h3,h5⟩:=mf (P:=P) cx.w0.heap.size t ty e i z sz by_ hund hi hz hs hb hzs h0 v rows.length xs hown ad rows2.length c news hnl hcell hn1 h63 hby hbase;exact ⟨v',w',h1,h2,h3,h5⟩
 obtain ⟨v',w',hrun,hown',hgrow,hblk⟩:=hrun
 have vb:∀ {x:Value} {n:Nat} {l:List Value} {w:World},cR w cx.w0.heap.size e sz x n l -> aH x=x.ownBlock:=fun hh=>by
  rcases hh.2 with ⟨rfl,_⟩|⟨g,cap,cur,rfl,_⟩<;>rfl
 have hvb:=vb hown;have hvb':=vb hown'
 have hold_block:∀ g,v.ownBlock=some g -> ∃ id,oid=some id /\ st.tab.get id=some (.nest e sz rows) /\ aH (L id)=some g:=fun g hg=>by
  cases oid with
  | none=>rw [show v=.slice none 0 0 from hoid] at hg;cases hg
  | some id=>exact ⟨id,rfl,hoid.1,by rw [<- hoid.2,hvb];exact hg⟩
 have hy':=h.young
 have hget:∀ k,k<st.next -> (bq st.tab st.next oid (.nest e sz (rows ++ rows2))).get k=if oid=some k then none else st.tab.get k:=fun k hk=>by
  rw [br,KY (by omega)]
 have hgetS:∀ k o,(bq st.tab st.next oid (.nest e sz (rows ++ rows2))).get k=some o -> (k=st.next /\ o=.nest e sz (rows ++ rows2)) \/ (k<st.next /\ oid ≠ some k /\ st.tab.get k=some o):=fun k o hk=>by
  rw [br] at hk;split at hk
  .rename_i e';cases hk;exact .inl ⟨e',rfl⟩
  .split at hk
   .cases hk
   .rename_i h1;exact .inr ⟨(hy' k o hk).1,h1,hk⟩
 have hLn:∀ k,k<st.next -> bb L st.next v' k=L k:=fun k hk=>by unfold bb;rw [KY (by omega)]
 have hLx:bb L st.next v' st.next=v':=by simp [bb]
 -- the blocks of other objects
 have hother:∀ k o g,k<st.next -> oid ≠ some k -> st.tab.get k=some o -> aH (L k)=some g -> some g ≠ v.ownBlock /\ some g ≠ v'.ownBlock:=fun k o g hk hne ho hg=>by
  have h1:some g ≠ v.ownBlock:=fun e'=>by
   obtain ⟨id,hid,hti,hbi⟩:=hold_block g e'.symm;exact hne (by rw [hid,h.lay.sep id k _ o g hti ho hbi hg])
  refine ⟨h1,fun e'=>?_⟩;rcases hblk with hb1|hb1
  .exact h1 (by rw [e',hb1])
  .have:=((h.lay.objs k o ho).ge hg).2;rw [hb1] at e';cases e';omega
 have hext:kc cx w st.tab L st.next w' (bq st.tab st.next oid (.nest e sz (rows ++ rows2))) (bb L st.next v'):=by
  refine ⟨fun p hp=>hgrow.block p hp.1 fun e'=>?_,fun b hS=>⟨K1 hS.1 hgrow.size,hS.2.1,fun k o hk hg=>?_⟩,fun k p hk hK=>?_⟩
  .obtain ⟨id,_,hti,hbi⟩:=hold_block p e'.symm;exact hp.2.2 id _ hti hbi
  .rcases hgetS k o hk with ⟨rfl,_⟩ | ⟨hlt,_,ho⟩
   .rw [hLx,hvb'] at hg;rcases hblk with hb1|hb1
    .rw [hb1] at hg;obtain ⟨id,_,hti,hbi⟩:=hold_block b hg;exact hS.2.2 id _ hti hbi
    .rw [hb1] at hg;cases hg;exact Nat.lt_irrefl _ hS.1
   .rw [hLn k hlt] at hg;exact hS.2.2 k o ho hg
  .unfold Kx at *;rw [hget k hk,hLn k hk] at hK;split at hK
   .cases hK
   .exact hK
 have hbel:dZ cx.X cx.w0.heap.size cx.w0 w':=h.lay.below.grown hgrow hbase fun k hk=>(hown.lt k hk).1;refine ⟨v',w',bb L st.next v',hrun,?_,hgrow,rfl,by rw [hvb'];exact hblk,fun g hg=>by obtain ⟨id,h1,_,h2⟩:=hold_block g hg;exact ⟨id,h1,h2⟩⟩
 have hex:∀ id2 o2 g,(bq st.tab st.next oid (.nest e sz (rows ++ rows2))).get id2=some o2 -> aH (bb L st.next v' id2)=some g -> g<w.heap.size -> ∃ id3 o3,st.tab.get id3=some o3 /\ aH (L id3)=some g:=fun k ok g hk hg' hlt=>by
  rcases hgetS k ok hk with ⟨rfl,_⟩|⟨hlt',_,ho⟩
  .rw [hLx,hvb'] at hg';rcases hblk with hb1|hb1
   .rw [hb1] at hg';obtain ⟨id,_,hti,hbi⟩:=hold_block g hg';exact ⟨id,_,hti,hbi⟩
   .rw [hb1] at hg';cases hg';omega
  .rw [hLn k hlt'] at hg';exact ⟨k,ok,ho,hg'⟩
 refine ea h ⟨hbel,fun k o hk=>?_,fun k k' o o' g h1 h2 h3 h4=>?_,qL h.lay hgrow.size hex⟩ hext (Lw _) (fun k o hk=>?_) ?_ (LK _) dst
 .rcases hgetS k o hk with ⟨rfl,rfl⟩ | ⟨hlt,hne,ho⟩
  .rw [hLx];refine ⟨fun row hr=>?_,xs ++ news,by rw [f4];exact hown',fun x hx=>?_,fun i j row av h1 h2=>?_⟩
   .rcases K2.1 hr with hr | hr
    .exact hrow1 row hr
    .exact hrow2 row hr
   .rcases K2.1 hx with hx | hx
    .exact hone x hx
    .exact hn1 x hx
   .by_cases hlt:i<rows.length
    .rw [Ls hlt] at h1;obtain ⟨x,hx,hr⟩:=hxs i j row av h1 h2;exact ⟨x,by rw [Ls ((KS.1 hx).1)];exact hx,hext.rv hr (ag.1 (hl1 row (KO h1)) _ (KO h2))⟩
    .rw [LC (by omega)] at h1;obtain ⟨x,hx,hr⟩:=hnr _ j row av h1 h2;refine ⟨x,?_,hext.rv hr (ag.1 (hl2 row (KO h1)) _ (KO h2))⟩;have e1:rows.length * sz<=i * sz:=La _ (by omega);rw [LC (by rw [hown.1];omega),hown.1];rw [Nat.sub_mul] at hx
     rwa [show i * sz+j - rows.length * sz=i * sz - rows.length * sz+j by omega]
  .rw [hLn k hlt];have hob:=h.lay.objs k o ho;exact hext.obj hob (hy' k o ho).2 fun g hg=>hgrow.block g (hob.ge hg).2 (hother k o g hlt hne ho hg).1
 .rcases hgetS k o h1 with ⟨rfl,rfl⟩ | ⟨hlt,hne,ho⟩<;>rcases hgetS k' o' h2 with ⟨rfl,rfl⟩ | ⟨hlt',hne',ho'⟩
  .rfl
  .rw [hLx,hvb'] at h3;rw [hLn k' hlt'] at h4;exact absurd h3.symm (hother k' o' g hlt' hne' ho' h4).2
  .rw [hLx,hvb'] at h4;rw [hLn k hlt] at h3;exact absurd h4.symm (hother k o g hlt hne ho h3).2
  .rw [hLn k hlt] at h3;rw [hLn k' hlt'] at h4;exact h.lay.sep k k' o o' g ho ho' h3 h4
 .rcases hgetS k o hk with ⟨rfl,rfl⟩ | ⟨hlt,_,ho⟩
  .refine ⟨LK _,fun row hr=>ag.2 fun x hx=>AV.lt_mono (Lw _) ?_⟩;rcases K2.1 hr with hr|hr
   .exact ag.1 (hl1 row hr) x hx
   .exact ag.1 (hl2 row hr) x hx
  .refine ⟨by omega,?_⟩;have:=(hy' k o ho).2
   cases o with
   | box t cells=>exact ag.2 fun x hx=>AV.lt_mono (Lw _) (ag.1 this x hx)
   | row=>trivial
   | map=>trivial
   | nest e sz rows=>exact fun row hr=>ag.2 fun x hx=>AV.lt_mono (Lw _) (ag.1 (this row hr) x hx)
   | ghost vs env=>exact dG (Lw _) this
 .refine .osl _ _ fun sz' v'' hk=>?_;unfold Kx at hk;rw [br,K5 rfl] at hk;simp at hk;rw [hLx] at hk;exact hk.2
theorem jA {id e sz n:Nat} {rows:List (List AV)} {v':Value} (h:aI cx a w st L) (hid:st.tab.get id=some (.row e sz rows)) (hn:n<=rows.length)
  (hv':(L id=.slice none 0 0 /\ v'=.slice none 0 0) \/ ∃ g cap cap',L id=.slice (some ⟨g,0,none⟩) rows.length cap /\ v'=.slice (some ⟨g,0,none⟩) n cap' /\ n<=cap' /\ cap'<=cap) (dst:Option Nat) :
  aI cx (a.put dst v') w ({ st with tab:=bq st.tab st.next (some id) (.row e sz (rows.take n)),next:=st.next+1 }.put dst (.osl st.next)) (bb L st.next v'):=by
 have hvb:aH v'=aH (L id):=by
  rcases hv' with ⟨h1,rfl⟩|⟨g,cap,cap',h1,rfl,_⟩<;>rw [h1]<;>rfl
 have hy':=h.young
 have hget:∀ k,k<st.next -> (bq st.tab st.next (some id) (.row e sz (rows.take n))).get k=if some id=some k then none else st.tab.get k:=fun k hk=>by
  rw [br,KY (by omega)]
 have hgetS:∀ k o,(bq st.tab st.next (some id) (.row e sz (rows.take n))).get k=some o -> (k=st.next /\ o=.row e sz (rows.take n)) \/ (k<st.next /\ id ≠ k /\ st.tab.get k=some o):=fun k o hk=>by
  rw [br] at hk;split at hk
  .rename_i e';cases hk;exact .inl ⟨e',rfl⟩
  .split at hk
   .cases hk
   .rename_i h1;exact .inr ⟨(hy' k o hk).1,fun e'=>h1 (by rw [e']),hk⟩
 have hLn:∀ k,k<st.next -> bb L st.next v' k=L k:=fun k hk=>by unfold bb;rw [KY (by omega)]
 have hLx:bb L st.next v' st.next=v':=by simp [bb]
 have hext:kc cx w st.tab L st.next w (bq st.tab st.next (some id) (.row e sz (rows.take n))) (bb L st.next v'):=by
  refine ⟨fun p hp=>rfl,fun b hS=>⟨hS.1,hS.2.1,fun k o hk hg=>?_⟩,fun k p hk hK=>?_⟩
  .rcases hgetS k o hk with ⟨rfl,_⟩ | ⟨hlt,_,ho⟩
   .rw [hLx,hvb] at hg;exact hS.2.2 id _ hid hg
   .rw [hLn k hlt] at hg;exact hS.2.2 k o ho hg
  .unfold Kx at *;rw [hget k hk,hLn k hk] at hK;split at hK
   .cases hK
   .exact hK
 obtain ⟨hrow,xs,hown,hone,hx⟩:=h.lay.objs id _ hid;have hmul:n * sz<=rows.length * sz:=La _ hn;have hlen:(rows.take n).length=n:=by rw [K6];omega
 have hex:∀ id2 o2 g,(bq st.tab st.next (some id) (.row e sz (rows.take n))).get id2=some o2 -> aH (bb L st.next v' id2)=some g -> g<w.heap.size -> ∃ id3 o3,st.tab.get id3=some o3 /\ aH (L id3)=some g:=fun k ok g hk hg' hlt=>by
  rcases hgetS k ok hk with ⟨rfl,_⟩|⟨hlt',_,ho⟩
  .rw [hLx,hvb] at hg';exact ⟨id,_,hid,hg'⟩
  .rw [hLn k hlt'] at hg';exact ⟨k,ok,ho,hg'⟩
 refine ea h ⟨h.lay.below,fun k o hk=>?_,fun k k' o o' g h1 h2 h3 h4=>?_,qL h.lay (KW _) hex⟩ hext (Lw _) (fun k o hk=>?_) ?_ (LK _) dst
 .rcases hgetS k o hk with ⟨rfl,rfl⟩ | ⟨hlt,hne,ho⟩
  .rw [hLx];refine ⟨fun row hr=>hrow row (Lk hr),xs.take (n * sz),⟨?_,?_⟩,fun x hx'=>hone x (Lk hx'),fun i j row av h1 h2=>?_⟩
   .rw [K6,hown.1,hlen];omega
   .rw [hlen];rcases hown.2 with ⟨h1,h0⟩|⟨g,cap,cur,h1,hb,hh,hc,hm,hcs,htake⟩
    .rcases hv' with ⟨_,rfl⟩ | ⟨g',cap1,cap2,h2,rfl,_⟩
     .exact .inl ⟨rfl,by omega⟩
     .rw [h1] at h2;cases h2
    .rcases hv' with ⟨h2,_⟩ | ⟨g',cap1,cap2,h2,rfl,h3,h4⟩
     .rw [h1] at h2;cases h2
     .rw [h1] at h2;cases h2;refine .inr ⟨g,cap2,cur,rfl,hb,hh,h3,by omega,Lf (La _ h4) hcs,?_⟩;rw [<- htake,List.take_take,Nat.min_eq_left hmul]
   .rw [Ly] at h1;split at h1
    .rename_i hi;obtain ⟨x,hx1,hx2⟩:=hx i j row av h1 h2;refine ⟨x,?_,hext.rt hx2⟩;have hj:j<sz:=by rw [<- hrow row (KO h1)];exact (KS.1 h2).1
     have:(i+1) * sz<=n * sz:=La _ hi;rw [LM] at this;rw [Ly,K5 (by omega)];exact hx1
    .cases h1
  .rw [hLn k hlt];exact hext.obj (h.lay.objs k o ho) (hy' k o ho).2 fun g hg=>rfl
 .rcases hgetS k o h1 with ⟨rfl,_⟩ | ⟨hlt,hne,ho⟩<;>rcases hgetS k' o' h2 with ⟨rfl,_⟩ | ⟨hlt',hne',ho'⟩
  .rfl
  .rw [hLx,hvb] at h3;rw [hLn k' hlt'] at h4;exact absurd (h.lay.sep id k' _ o' g hid ho' h3 h4) hne'
  .rw [hLx,hvb] at h4;rw [hLn k hlt] at h3;exact absurd (h.lay.sep id k _ o g hid ho h4 h3) hne
  .rw [hLn k hlt] at h3;rw [hLn k' hlt'] at h4;exact h.lay.sep k k' o o' g ho ho' h3 h4
 .rcases hgetS k o hk with ⟨rfl,rfl⟩ | ⟨hlt,_,ho⟩
  .exact ⟨LK _,trivial⟩
  .refine ⟨by omega,?_⟩;have:=(hy' k o ho).2
   cases o with
   | box t cells=>exact ag.2 fun x hx=>AV.lt_mono (Lw _) (ag.1 this x hx)
   | row=>trivial
   | map=>trivial
   | nest e sz rows=>exact fun row hr=>ag.2 fun x hx=>AV.lt_mono (Lw _) (ag.1 (this row hr) x hx)
   | ghost vs env=>exact dG (Lw _) this
 .refine .osl _ _ fun sz' v'' hk=>?_;unfold Kx at hk;rw [br,K5 rfl] at hk;simp at hk;rw [hLx] at hk;exact hk.2
end
end
section
theorem kU (off:Nat):∀ (l:List Value) (n:Nat) (cells:Array Value),off+n+l.length<=cells.size -> ∀ k,((l.zipIdx n).foldl (fun cs (p:Value × Nat)=>cs.setIfInBounds (off+p.2) p.1) cells)[k]? = if off+n<=k /\ k<off+n+l.length then l[k - (off+n)]? else cells[k]?
 | [],n,cells,_,k=>by simp;omega
 | v :: l,n,cells,h,k=>by
  simp only [List.zipIdx_cons,List.foldl_cons,KU] at h ⊢;rw [kU off l (n+1) _ (by simp;omega)];by_cases h1:off+n=k
  .subst h1;rw [KY (by omega),K5 (by omega),Array.getElem?_setIfInBounds_self_of_lt (by omega)];simp
  .by_cases h2:off+(n+1)<=k /\ k<off+(n+1)+l.length
   .rw [K5 h2,K5 (by omega)];rw [show k - (off+n)=(k - (off+(n+1)))+1 by omega,Mn]
   .rw [KY h2,KY (by omega),Array.getElem?_setIfInBounds_ne h1]
theorem tm (off:Nat) (v:Array Value) (cells:Array Value) (h:off+v.size<=cells.size):(v.zipIdx.foldl (fun cs (p:Value × Nat)=>cs.setIfInBounds (off+p.2) p.1) cells)=(cells.toList.take off ++ v.toList ++ cells.toList.drop (off+v.size)).toArray:=by
 have e:v.zipIdx.foldl (fun cs (p:Value × Nat)=>cs.setIfInBounds (off+p.2) p.1) cells=(v.toList.zipIdx 0).foldl (fun cs (p:Value × Nat)=>cs.setIfInBounds (off+p.2) p.1) cells:=by
  rw [<- Array.foldl_toList]
  congr 1
  simp
 rw [e];apply Array.ext_getElem?;intro k;rw [kU off v.toList 0 cells (by simpa using h) k];have:=dm cells.toList off v.toList (by simpa using h) k;simp only [Ll] at this;simp only [Mi,this,Ll,Nat.add_zero];simp
theorem o6 (sz:Nat):∀ (parts:List (Nat × Value)) (k:Nat) (cells:Array Value),parts.map (·.1)=List.range' k parts.length -> (∀ p ∈ parts,p.2.cells.size=sz) -> cells.size=(k+parts.length) * sz ->
  ∃ c:Array Value,Instr.fill (fun i=>some (i * sz,sz)) cells parts=some c /\ c.toList=cells.toList.take (k * sz) ++ parts.flatMap (·.2.cells.toList)
 | [],k,cells,_,_,hs=>⟨cells,rfl,by simp at hs;simp [Lj,hs]⟩
 | (i,v) :: rest,k,cells,hi,hp,hs=>by
  simp only [Mc,KU,List.range'_succ,List.cons.injEq] at hi hs;obtain ⟨rfl,hi⟩:=hi;have hv:=hp (i,v) (by simp);simp only at hv;have hmul:(i+(rest.length+1)) * sz=i * sz+sz+rest.length * sz:=by rw [LM,LM];omega
  have hfit:i * sz+v.cells.size<=cells.size:=by rw [hs,hmul,hv];omega
  have hone:=tm (i * sz) v.cells cells hfit
  obtain ⟨c,h1,h2⟩:=o6 sz rest (i+1) (cells.toList.take (i * sz) ++ v.cells.toList ++ cells.toList.drop (i * sz+v.cells.size)).toArray hi (fun p hp'=>hp p (by simp [hp'])) (by
   simp [hs,hv,hmul,LM]<;>omega)
  refine ⟨c,?_,?_⟩
  .unfold Instr.fill;simp only;rw [KY (by simp [hv];omega)];rw [hone];exact h1
  .rw [h2];simp only [Mh];rw [<- KZ]
   congr 1
   have hl:((cells.toList.take (i * sz)).length)=i * sz:=by
    rw [K6];simp;omega
   rw [List.take_append_of_le_length (by simp [hl,hv,LM])];rw [Lj (by simp [hl,hv,LM])]
theorem kg {α β:Type} (f:α -> List β) (sz:Nat):∀ (l:List α),(∀ a ∈ l,(f a).length=sz) -> ∀ i j (h:i<l.length),j<sz -> (l.flatMap f)[i * sz+j]? = (f l[i])[j]?
 | [],_,i,_,h,_=>absurd h (by simp)
 | a :: l,hs,i,j,h,hj=>by
  rw [Mh];have ha:=hs a (by simp)
  cases i with
  | zero=>rw [Mu,L8,Ls (by omega)];rfl
  | succ i=>
   rw [LC (by rw [ha,LM];omega),ha,show (i+1) * sz+j - sz=i * sz+j by rw [LM];omega];exact kg f sz l (fun a h=>hs a (by simp [h])) i j (by simpa using h) hj
theorem mm {α β:Type} (f:α -> List β) (sz:Nat):∀ (l:List α),(∀ a ∈ l,(f a).length=sz) -> (l.flatMap f).length=l.length * sz
 | [],_=>by simp
 | a :: l,hs=>by
  rw [Mh,f4,hs a (by simp),mm f sz l (fun a h=>hs a (by simp [h])),KU,LM];omega
def b7:AV -> Prop
 | .osl _=>False
 | .op _ _ _=>False
 | .agg _=>False
 | .tup _=>False
 | .fn _ _=>False
 | .bfn _ _=>False
 | _=>True
def bu:List AV -> Prop
 | []=>True
 | a :: l=>b7 a /\ bu l
theorem ff:∀ {l:List AV},bu l ↔ ∀ a ∈ l,b7 a
 | []=>by simp [bu]
 | a :: l=>by simp [bu,ff (l:=l)]
section
variable {P:Program} {cx:Cx} {a:Act} {w w':World} {tab:aa} {st:ak} {L:Nat -> Value} {nx:Nat}
theorem eH {x:Value} {av:AV} (h:bx cx w tab L x av) (ht:b7 av):RT w (Sx cx w tab L) x av:=by
 cases h with
 | tree h=>exact h
 | osl=>exact ht.elim
 | op=>exact ht.elim
 | agg=>exact ht.elim
 | tup=>exact ht.elim
 | fn=>exact ht.elim
 | bfn=>exact ht.elim
theorem uR {t e sz by_:Nat} (h:aI cx a w st L) (h0:0<sz) {cells:Array Value} {rows:List (List AV)} (hr:∀ row ∈ rows,row.length=sz) (hn:cells.size=rows.length * sz) (hm:rows.length<=9223372036854775807) (h1:∀ x ∈ cells,x.oneCell'=true)
  (hx:∀ (i j:Nat) (row:List AV) (av:AV),rows[i]? = some row -> row[j]? = some av -> ∃ x,cells[i * sz+j]? = some x /\ RT w (Sx cx w st.tab L) x av) (dst:Option Nat) :
  aI cx (a.put dst (.slice (some ⟨w.heap.size,0,none⟩) rows.length rows.length)) (w.alloc (.cells cells e)) ({ st with tab:=(st.next,some (.row e sz rows)) :: st.tab,next:=st.next+1 }.put dst (.osl st.next)) (bb L st.next (.slice (some ⟨w.heap.size,0,none⟩) rows.length rows.length)):=by
 refine iw (ob:=.row e sz rows) (v:=.slice (some ⟨w.heap.size,0,none⟩) rows.length rows.length) h ((Below.refl _ _).alloc (KW _) _) (fun g hg=>?_) (fun hext=>⟨hr,cells.toList,⟨by simpa using hn,.inr ⟨w.heap.size,_,cells,rfl,h.lay.below.size,heap_alloc_new w _,KW _,by simpa [maxLen] using hm,Nat.le_of_eq hn.symm,?_⟩⟩,fun x hx'=>h1 x (by simpa using hx'),fun i j row av ha hb=>?_⟩) trivial (fun hext=>?_) (LK _) dst
 .simp [aH] at hg;omega
 .exact Lj (by simp [hn])
 .obtain ⟨x,hx1,hx2⟩:=hx i j row av ha hb;exact ⟨x,by simpa using hx1,hext.rt hx2⟩
 .refine .osl _ _ fun sz' v'' hk=>?_;simp [Kx,aa.gc,bb] at hk;exact hk.2
theorem rq {t e sz by_:Nat} (h:aI cx a w st L) (h0:0<sz) {cells:Array Value} {rows:List (List AV)} (hr:∀ row ∈ rows,row.length=sz) (hn:cells.size=rows.length * sz) (hm:rows.length<=9223372036854775807) (h1:∀ x ∈ cells,x.oneCell'=true)
  (hx:∀ (i j:Nat) (row:List AV) (av:AV),rows[i]? = some row -> row[j]? = some av -> ∃ x,cells[i * sz+j]? = some x /\ bx cx w st.tab L x av) (hlt:∀ row ∈ rows,AV.ltL st.next row) (dst:Option Nat) :
  aI cx (a.put dst (.slice (some ⟨w.heap.size,0,none⟩) rows.length rows.length)) (w.alloc (.cells cells e)) ({ st with tab:=(st.next,some (.nest e sz rows)) :: st.tab,next:=st.next+1 }.put dst (.osl st.next)) (bb L st.next (.slice (some ⟨w.heap.size,0,none⟩) rows.length rows.length)):=by
 refine iw (ob:=.nest e sz rows) (v:=.slice (some ⟨w.heap.size,0,none⟩) rows.length rows.length) h ((Below.refl _ _).alloc (KW _) _) (fun g hg=>?_) (fun hext=>⟨hr,cells.toList,⟨by simpa using hn,.inr ⟨w.heap.size,_,cells,rfl,h.lay.below.size,heap_alloc_new w _,KW _,by simpa [maxLen] using hm,Nat.le_of_eq hn.symm,?_⟩⟩,fun x hx'=>h1 x (by simpa using hx'),fun i j row av ha hb=>?_⟩) (fun row hr=>ag.2 fun x hx=>AV.lt_mono (Lw _) (ag.1 (hlt row hr) x hx)) (fun hext=>?_) (LK _) dst
 .simp [aH] at hg;omega
 .exact Lj (by simp [hn])
 .obtain ⟨x,hx1,hx2⟩:=hx i j row av ha hb;exact ⟨x,by simpa using hx1,hext.rv hx2 (ag.1 (hlt row (KO ha)) _ (KO hb))⟩
 .refine .osl _ _ fun sz' v'' hk=>?_;simp [Kx,aa.gc,bb] at hk;exact hk.2
mutual
def AV.frz (id sz:Nat) (rows:List (List AV)):AV -> AV
 | .osl k=>if k=id then .sl sz rows else .osl k
 | .agg cs=>.agg (AV.frzL id sz rows cs)
 | .tup cs=>.tup (AV.frzL id sz rows cs)
 | .fn f cs=>.fn f (AV.frzL id sz rows cs)
 | .bfn f cs=>.bfn f (AV.frzL id sz rows cs)
 | .op k i j=>.op k i j
 | .any=>.any
 | .c v=>.c v
 | .sl sz rows=>.sl sz rows
 | .rp cs=>.rp cs
def AV.frzL (id sz:Nat) (rows:List (List AV)):List AV -> List AV
 | []=>[]
 | a :: l=>a.frz id sz rows :: AV.frzL id sz rows l
end
theorem ci (id sz:Nat) (rows:List (List AV)):∀ l:List AV,AV.frzL id sz rows l=l.map (·.frz id sz rows)
 | []=>rfl
 | a :: l=>by simp [AV.frzL,ci id sz rows l]
def f9 (id sz:Nat) (rows:List (List AV)):List (Nat × AV) -> List (Nat × AV)
 | []=>[]
 | (t,av) :: l=>(t,av.frz id sz rows) :: f9 id sz rows l
def ar.frz (id sz:Nat) (rows:List (List AV)):ar -> ar
 | .box t cells=>.box t (AV.frzL id sz rows cells)
 | .row e s r=>.row e s r
 | .nest e s r=>.nest e s (r.map (AV.frzL id sz rows))
 | .map ents=>.map ents
 | .ghost vs env=>.ghost vs (f9 id sz rows env)
def bK (id sz:Nat) (rows:List (List AV)):aa -> aa
 | []=>[]
 | (k,o) :: l=>(k,o.map (ar.frz id sz rows)) :: bK id sz rows l
theorem ct (id sz:Nat) (rows:List (List AV)):∀ (l:aa) (k:Nat),(bK id sz rows l).get k=(l.get k).map (ar.frz id sz rows)
 | [],k=>by simp [bK,aa.get]
 | (q,o) :: l,k=>by
  simp only [bK,aa.gc];split
  .rfl
  .exact ct id sz rows l k
theorem Bm (id sz:Nat) (rows:List (List AV)) (o:ar):(o.frz id sz rows).sz=o.sz:=by cases o<;>simp [ar.frz,ar.sz,ci]
def gx (st:ak) (id:Nat):ak:=
 match st.tab.get id with
 | some (.row _ sz rows)=>{ st with env:=f9 id sz rows st.env,tab:=(id,none) :: bK id sz rows st.tab }
 | _=>st
def el (st:ak):List Nat -> ak
 | []=>st
 | id :: ids=>el (gx st id) ids
def fM:List AV -> List Nat
 | []=>[]
 | .osl id :: l=>id :: fM l
 | _ :: l=>fM l
theorem ls (id sz:Nat) (rows:List (List AV)):∀ (l:List (Nat × AV)) (t:Nat),bl (f9 id sz rows l) t=(bl l t).frz id sz rows
 | [],t=>by simp [f9,bl,AV.frz]
 | (k,av) :: l,t=>by
  simp only [f9,bl];split
  .rfl
  .exact ls id sz rows l t
theorem lr {id sz nx:Nat} {rows:List (List AV)}:∀ {av:AV},av.lt nx -> (av.frz id sz rows).lt nx:=by
 intro av
 induction av using AV.rec (motive_2:=fun _=>True) (motive_3:=fun l=>AV.ltL nx l -> AV.ltL nx (AV.frzL id sz rows l))<;>simp_all [AV.lt,AV.ltL,AV.frz,AV.frzL]
 split<;>simp_all [AV.lt]
theorem IW {e:TypeId} {sz:Nat} {v:Value} {rows:List (List AV)} {S:Nat -> Prop} (h:fa cx w tab L v (.row e sz rows)) (hS:∀ b,Sx cx w tab L b -> S b) (hg:∀ g,aH v=some g -> S g):RT w S v (.sl sz rows):=by
 obtain ⟨hrow,xs,hown,hone,hx⟩:=h
 have hm:∀ i j row av,rows[i]? = some row -> row[j]? = some av -> (xs[i * sz+j]?.getD undef).oneCell'=true /\ RT w S (xs[i * sz+j]?.getD undef) av /\ ∃ x,xs[i * sz+j]? = some x:=fun i j row av h1 h2=>by
  obtain ⟨x,hx1,hx2⟩:=hx i j row av h1 h2;rw [hx1];exact ⟨hone x (KO hx1),hx2.mono (fun _ _=>rfl) hS,x,rfl⟩
 rcases hown.2 with ⟨rfl,h0⟩|⟨g,cap,cur,rfl,hb,hgh,hc,hm',_⟩
 .exact .sl none _ 0 sz rows 0 0 (fun i j=>xs[i * sz+j]?.getD undef) h0.symm (KW _) (by omega) (fun h=>by omega) hrow (fun h=>by omega) (fun i j row av h1 h2=>(hm i j row av h1 h2).1) (fun i j row av h1 h2=>(hm i j row av h1 h2).2.1)
 .refine .sl _ _ cap sz rows g 0 (fun i j=>xs[i * sz+j]?.getD undef) rfl hc (by simpa [maxLen] using hm') (fun _=>⟨rfl,hg g rfl⟩) hrow (fun _ i j row av h1 h2=>?_) (fun i j row av h1 h2=>(hm i j row av h1 h2).1) (fun i j row av h1 h2=>(hm i j row av h1 h2).2.1);obtain ⟨x,hx⟩:=(hm i j row av h1 h2).2.2;have:=hown.cells (g:=g) rfl _ x hx;rw [gQ] at this;rw [hx,L8];exact this
theorem oG {e id sz:Nat} {rows:List (List AV)} (hL:fY cx w tab L) (hy:∀ id o,tab.get id=some o -> o.lt nx) (hid:tab.get id=some (.row e sz rows)) :
  fY cx w ((id,none) :: bK id sz rows tab) L /\ ∀ x av,bx cx w tab L x av -> av.lt nx -> bx cx w ((id,none) :: bK id sz rows tab) L x (av.frz id sz rows):=by
  have ht:∀ k,aa.get ((id,none) :: bK id sz rows tab) k=if k=id then none else (tab.get k).map (ar.frz id sz rows):=fun k=>by rw [aa.gc,ct]
  have hsub:∀ k o,aa.get ((id,none) :: bK id sz rows tab) k=some o -> k ≠ id /\ ∃ o',tab.get k=some o' /\ o=o'.frz id sz rows:=fun k o hk=>by
   rw [ht] at hk;split at hk
   .cases hk
   .cases hg:tab.get k with
    | none=>simp [hg] at hk
    | some o'=>
     simp [hg] at hk;exact ⟨by assumption,o',rfl,hk.symm⟩
  have hext:kc cx w tab L nx w ((id,none) :: bK id sz rows tab) L:=by
   refine ⟨fun _ _=>rfl,fun b hb=>⟨hb.1,hb.2.1,fun k o hk=>by obtain ⟨_,o',h1,_⟩:=hsub k o hk;exact hb.2.2 k o' h1⟩,fun k p _ hk=>?_⟩;unfold Kx at *;rw [ht] at hk;split at hk
   .cases hk
   .cases hg:tab.get k with
    | none=>simp [hg] at hk
    | some o'=>
     simp [hg,Bm] at hk ⊢;exact hk
  have hob:=hL.objs id _ hid
  have hrow:RT w (Sx cx w ((id,none) :: bK id sz rows tab) L) (L id) (.sl sz rows):=IW hob hext.sub fun g hg=>⟨(hob.ge hg).2,⟨.inr (hob.ge hg).1,fun hX=>(hL.ex g hX).2 id _ hid hg⟩,fun k o hk hg'=>by
   obtain ⟨h1,o',h2,_⟩:=hsub k o hk;exact h1 (hL.sep k id o' _ g h2 hid hg' hg)⟩
  have conv:∀ x av,bx cx w tab L x av -> av.lt nx -> bx cx w ((id,none) :: bK id sz rows tab) L x (av.frz id sz rows):=fun x av hr=>by
   induction hr with
   | tree h0=>
    intro hl
    have e1:∀ {x av},RT w (Sx cx w tab L) x av -> av.frz id sz rows=av:=fun hh=>by
     induction hh with
     | agg xs cs hn hr ih=>
      simp only [AV.frz,ci,AV.agg.injEq];apply LU;intro j;rw [KV]
      cases hj:cs[j]? with
      | none=>rfl
      | some av=>
       have hlt:j<xs.size:=by rw [hn];exact (KS.1 hj).1
       simp [ih j _ av (KT hlt) hj]
     | tup xs cs hn hr ih=>
      simp only [AV.frz,ci,AV.tup.injEq];apply LU;intro j;rw [KV]
      cases hj:cs[j]? with
      | none=>rfl
      | some av=>
       have hlt:j<xs.size:=by rw [hn];exact (KS.1 hj).1
       simp [ih j _ av (KT hlt) hj]
     | fn fi xs cs hn hr ih=>
      simp only [AV.frz,ci,AV.fn.injEq,true_and];apply LU;intro j;rw [KV]
      cases hj:cs[j]? with
      | none=>rfl
      | some av=>
       have hlt:j<xs.size:=by rw [hn];exact (KS.1 hj).1
       simp [ih j _ av (KT hlt) hj]
     | bfn fi xs cs hn hr ih=>
      simp only [AV.frz,ci,AV.bfn.injEq,true_and];apply LU;intro j;rw [KV]
      cases hj:cs[j]? with
      | none=>rfl
      | some av=>
       have hlt:j<xs.size:=by rw [hn];exact (KS.1 hj).1
       simp [ih j _ av (KT hlt) hj]
     | _=>simp [AV.frz]
    rw [e1 h0];exact .tree (hext.rt h0)
   | osl x k hk=>
    intro hl;simp only [AV.frz];split
    .rename_i e1;subst e1;rw [hk _ _ (bI hid)];exact .tree hrow
    .exact hext.rv (.osl x k hk) hl
   | op x k i j hk=>
    intro hl;exact hext.rv (.op x k i j hk) hl
   | agg xs cs hn hr ih=>
    intro hl;simp only [AV.frz,ci];refine .agg xs _ (by simpa using hn) fun j x av h1 h2=>?_;rw [KV] at h2
    cases hj:cs[j]? with
    | none=>simp [hj] at h2
    | some av'=>
     simp [hj] at h2;subst h2;exact ih j x av' h1 hj (ag.1 hl _ (KO hj))
   | tup xs cs hn hr ih=>
    intro hl;simp only [AV.frz,ci];refine .tup xs _ (by simpa using hn) fun j x av h1 h2=>?_;rw [KV] at h2
    cases hj:cs[j]? with
    | none=>simp [hj] at h2
    | some av'=>
     simp [hj] at h2;subst h2;exact ih j x av' h1 hj (ag.1 hl _ (KO hj))
   | fn fi xs cs hn hr ih=>
    intro hl;simp only [AV.frz,ci];refine .fn fi xs _ (by simpa using hn) fun j x av h1 h2=>?_;rw [KV] at h2
    cases hj:cs[j]? with
    | none=>simp [hj] at h2
    | some av'=>
     simp [hj] at h2;subst h2;exact ih j x av' h1 hj (ag.1 hl _ (KO hj))
   | bfn fi xs cs hn hr ih=>
    intro hl;simp only [AV.frz,ci];refine .bfn fi xs _ (by simpa using hn) fun j x av h1 h2=>?_;rw [KV] at h2
    cases hj:cs[j]? with
    | none=>simp [hj] at h2
    | some av'=>
     simp [hj] at h2;subst h2;exact ih j x av' h1 hj (ag.1 hl _ (KO hj))
  refine ⟨⟨hL.below,fun k o hk=>?_,fun k k' o o' g h1 h2=>?_,fun b hb'=>⟨(hL.ex b hb').1,fun k o hk=>?_⟩⟩,conv⟩
  rotate_left 2
  .obtain ⟨_,o',h1,_⟩:=hsub k o hk;exact (hL.ex b hb').2 k o' h1
  .obtain ⟨_,o',h1,rfl⟩:=hsub k o hk;have ho:=hL.objs k o' h1;have hlo:=hy k o' h1
   cases o' with
   | row e' s r=>exact hext.obj ho hlo fun _ _=>rfl
   | box t cells=>
    obtain ⟨g,cs,h2,h3,h4,h5,h6⟩:=ho;refine ⟨g,cs,h2,h3,h4,by simpa [ci] using h5,fun j x av h7 h8=>?_⟩;rw [ci,KV] at h8
    cases hj:cells[j]? with
    | none=>simp [hj] at h8
    | some av'=>
     simp [hj] at h8;subst h8;exact ⟨conv x av' (h6 j x av' h7 hj).1 (ag.1 hlo _ (KO hj)),(h6 j x av' h7 hj).2⟩
   | map ents=>exact hext.obj (o:=.map ents) ho hlo fun _ _=>rfl
   | nest e' s r=>
    obtain ⟨h2,xs,h3,h4,h5⟩:=ho;refine ⟨fun row hr=>?_,xs,by simpa using h3,h4,fun i j row av h7 h8=>?_⟩
    .obtain ⟨row',hr',rfl⟩:=K8.1 hr;rw [ci,Lg];exact h2 row' hr'
    .rw [KV] at h7
     cases hi:r[i]? with
     | none=>simp [hi] at h7
     | some row'=>
      simp [hi] at h7;subst h7;rw [ci,KV] at h8
      cases hj:row'[j]? with
      | none=>simp [hj] at h8
      | some av'=>
       simp [hj] at h8;subst h8;obtain ⟨x,h9,h10⟩:=h5 i j row' av' hi hj;exact ⟨x,h9,conv x av' h10 (ag.1 (hlo row' (KO hi)) _ (KO hj))⟩
   | ghost vs env=>
    refine ⟨ho.1,fun t ht=>?_⟩;rw [ls];exact conv _ _ (ho.2 t ht) (gS hlo t)
  .obtain ⟨_,o1,h3,_⟩:=hsub k o h1;obtain ⟨_,o2,h4,_⟩:=hsub k' o' h2;exact hL.sep k k' o1 o2 g h3 h4
theorem qZ {id sz nx:Nat} {rows:List (List AV)}:∀ {l:List (Nat × AV)},cS nx l -> cS nx (f9 id sz rows l)
 | [],_=>trivial
 | (_,_) :: _,h=>⟨lr h.1,qZ h.2⟩
theorem ll {id sz nx:Nat} {rows:List (List AV)} {o:ar} (h:o.lt nx):(o.frz id sz rows).lt nx:=by
 cases o with
 | row=>trivial
 | box t cells=>
  show AV.ltL nx _;rw [ci];refine ag.2 fun a ha=>?_;obtain ⟨b,hb,rfl⟩:=K8.1 ha;exact lr (ag.1 h b hb)
 | map=>trivial
 | nest e s r=>
  intro row hr;obtain ⟨row',hr',rfl⟩:=K8.1 hr;rw [ci];refine ag.2 fun a ha=>?_;obtain ⟨b,hb,rfl⟩:=K8.1 ha;exact lr (ag.1 (h row' hr') b hb)
 | ghost vs env=>exact qZ h
def ry (st:ak) (id:Nat) (av:AV):AV:=
 match st.tab.get id with
 | some (.row _ sz rows)=>av.frz id sz rows
 | _=>av
theorem mP (h:aI cx a w st L) (id:Nat):aI cx a w (gx st id) L /\ ∀ x av,bx cx w st.tab L x av -> av.lt st.next -> bx cx w (gx st id).tab L x (ry st id av) /\ (ry st id av).lt (gx st id).next:=by
 unfold gx ry;split
 .rename_i e sz rows hid;obtain ⟨h1,h2⟩:=oG h.lay (fun k o hk=>(h.young k o hk).2) hid;refine ⟨⟨h1,h.size,h.defers.mono (fun _ _=>rfl) fun b hb=>⟨hb.1,hb.2.1,fun k o hk=>?_⟩,fun k o hk=>?_,fun t=>?_⟩,fun x av h3 h4=>⟨h2 x av h3 h4,lr h4⟩⟩
  .rw [aa.gc,ct] at hk;split at hk
   .cases hk
   .cases hg:st.tab.get k with
    | none=>simp [hg] at hk
    | some o'=>exact hb.2.2 k o' hg
  .simp only [aa.gc,ct] at hk;split at hk
   .cases hk
   .cases hg:st.tab.get k with
    | none=>simp [hg] at hk
    | some o'=>
     simp [hg] at hk;subst hk;exact ⟨(h.young k o' hg).1,ll (h.young k o' hg).2⟩
  .have e1:({ st with env:=f9 id sz rows st.env,tab:=(id,none) :: bK id sz rows st.tab }:ak).get t=(st.get t).frz id sz rows:=by
    unfold ak.get;simp only;split
    .exact ls ..
    .simp [AV.frz]
   rw [e1];exact ⟨h2 _ _ (h.env t).1 (h.env t).2,lr (h.env t).2⟩
 .exact ⟨h,fun x av h1 h2=>⟨h1,h2⟩⟩
def f5 (st:ak):List Nat -> List AV -> List AV
 | [],l=>l
 | id :: ids,l=>f5 (gx st id) ids (l.map (ry st id))
theorem eW:∀ (ids:List Nat) {st:ak},aI cx a w st L -> aI cx a w (el st ids) L
 | [],_,h=>h
 | id :: ids,_,h=>eW ids (mP h id).1
theorem ks:∀ (ids:List Nat) {st:ak} {vs:Array Value} {avs:List AV},aI cx a w st L -> (∀ (j:Nat) (v:Value) (av:AV),vs[j]? = some v -> avs[j]? = some av -> bx cx w st.tab L v av /\ av.lt st.next) ->
  (f5 st ids avs).length=avs.length /\ ∀ (j:Nat) (v:Value) (av:AV),vs[j]? = some v -> (f5 st ids avs)[j]? = some av -> bx cx w (el st ids).tab L v av /\ av.lt (el st ids).next
 | [],_,_,_,_,hv=>⟨rfl,hv⟩
 | id :: ids,st,vs,avs,h,hv=>by
  have h1:=mP h id
  obtain ⟨h2,h3⟩:=ks ids (vs:=vs) (avs:=avs.map (ry st id)) h1.1 fun j v av h4 h5=>by
   rw [KV] at h5
   cases hj:avs[j]? with
   | none=>simp [hj] at h5
   | some av'=>
    simp [hj] at h5;subst h5;exact h1.2 v av' (hv j v av' h4 hj).1 (hv j v av' h4 hj).2
  exact ⟨by rw [f5,h2,Lg],h3⟩
def tq:AV -> Prop
 | .fn _ cs=>bu cs
 | .bfn _ cs=>bu cs
 | a=>b7 a
def k7:List AV -> Prop
 | []=>True
 | a :: l=>tq a /\ k7 l
theorem lp:∀ {l:List AV} {a:AV},k7 l -> a ∈ l -> tq a
 | b :: l,a,h,hm=>(LR.1 hm).elim (fun e=>e ▸ h.1) fun h2=>lp h.2 h2
theorem Fe {v:Value}:tq (.c v)=True:=rfl
theorem DU {sz:Nat} {rows:List (List AV)}:tq (.sl sz rows)=True:=rfl
theorem t5 {x:Value} {av:AV} (h:bx cx w tab L x av) (ht:tq av):RT w (Sx cx w tab L) x av:=by
 cases av with
 | fn f cs=>
  obtain ⟨xs,rfl,hn,hr⟩:=h.fn_inv;exact .fn f xs cs hn fun j x av h1 h2=>eH (hr j x av h1 h2) (ff.1 ht _ (KO h2))
 | bfn f cs=>
  obtain ⟨xs,rfl,hn,hr⟩:=h.bfn_inv;exact .bfn f xs cs hn fun j x av h1 h2=>eH (hr j x av h1 h2) (ff.1 ht _ (KO h2))
 | _=>exact eH h ht
def tR (tab:aa) (sz:Nat):List AV -> Prop
 | []=>True
 | x :: l=>(al x).length=sz /\ dr tab (al x) /\ k7 (al x) /\ tR tab sz l
theorem tX {sz:Nat}:∀ {l:List AV},tR tab sz l ↔ ∀ x ∈ l,(al x).length=sz /\ dr tab (al x) /\ k7 (al x)
 | []=>by simp [tR]
 | x :: l=>by simp [tR,tX (l:=l),and_assoc]
theorem io {t e sz by_:Nat} {parts:List (Nat × Operand)} (h:aI cx a w st L) (ht:cz P t=some (e,sz,by_)) (hp:parts.map (·.1)=List.range' 0 parts.length) (hlen:parts.length * sz<=16777216)
  (hl:tR st.tab sz (parts.map fun p=>a6 st p.2)) (dst:Option Nat) :
  ∃ v' w' L',(Instr.buildSlice t parts.length (parts.toArray.map fun (p:Nat × Operand)=>(p.1,a.eval p.2))).run P w=.ok v' w' /\
   aI cx (a.put dst v') w' ({ st with tab:=(st.next,some (.row e sz (parts.map fun (p:Nat × Operand)=>al (a6 st p.2)))) :: st.tab,next:=st.next+1 }.put dst (.osl st.next)) L' /\
   Below w.heap.size w w' /\ L'=bb L st.next v' /\ aH v'=some w.heap.size:=by
 obtain ⟨i,z,hund,hi,hz,hs,hb,hzs,hsz⟩:=dM ht;have hl':=tX.1 hl
 have hcell:∀ p ∈ parts,(a.eval p.2).cells.size=sz /\ ∀ (j:Nat) (x:Value) (av:AV),(a.eval p.2).cells[j]? = some x -> (al (a6 st p.2))[j]? = some av -> bx cx w st.tab L x av /\ x.oneCell'=true:=fun p hp'=>by
  have hm:=hl' (a6 st p.2) (K8.2 ⟨p,hp',rfl⟩);have he:=aj h p.2;have:=fV h.lay he.1 he.2 hm.2.1;exact ⟨this.1.trans hm.1,this.2.2⟩
 obtain ⟨c,hc1,hc2⟩:=o6 sz (parts.map fun p=>(p.1,a.eval p.2)) 0 ((Array.range (parts.length * sz)).map (z.cells[· % z.cells.size]!)) (by simpa [List.map_map,Function.comp_def] using hp) (fun p hp'=>by
  simp at hp';obtain ⟨i',o',hio,rfl⟩:=hp';exact (hcell _ hio).1) (by simp)
 simp only [Mu,Lb,LT,List.flatMap_map] at hc2
 have hrun:(Instr.buildSlice t parts.length (parts.toArray.map fun (p:Nat × Operand)=>(p.1,a.eval p.2))).run P w=.ok (.slice (some ⟨w.heap.size,0,none⟩) parts.length parts.length) (w.alloc (.cells c e)):=by
  have hnb:¬ (2 ^ 24<parts.length * sz):=by omega
  rcases MT parts.length with h0|hpos
  .have:parts=[]:=Mm.1 h0;subst this
   have hce:c = #[]:=by
    rw [LL] at hc2;exact Array.toList_eq_nil_iff.1 hc2
   subst hce;simp [Instr.buildSlice,Sem.run_bind,run_underlying hund,sizeOf,typeInfo,hi,hs,zeroValue,hz,newRow,Instr.fill]
   congr 2
   exact Array.eq_empty_of_size_eq_zero (by simp)
  have hne:¬ parts.length * sz=0:=by
   intro e;rcases Nat.mul_eq_zero.1 e with e|e<;>omega
  simp [Instr.buildSlice,Sem.run_bind,run_underlying hund,sizeOf,typeInfo,hi,hs,hne,zeroValue,hz,newRow];rw [KY (by omega)];simp [hzs] at hc1;simp [hzs,hc1]
 have hflat:∀ (i j:Nat) (hi':i<parts.length),j<sz -> c[i * sz+j]? = (a.eval parts[i].2).cells[j]?:=fun i j hi' hj=>by
  have:=kg (fun p:Nat × Operand=>(a.eval p.2).cells.toList) sz parts (fun p hp'=>by simpa using (hcell p hp').1) i j hi' hj;rw [<- LV,hc2,this];simp
 have hcs:c.size=parts.length * sz:=by
  rw [<- Ll,hc2];exact mm _ _ _ fun p hp'=>by simpa using (hcell p hp').1
 have hrl:(parts.map fun p=>al (a6 st p.2)).length=parts.length:=by simp
 suffices hs:aI cx (a.put dst (.slice (some ⟨w.heap.size,0,none⟩) (parts.map fun (p:Nat × Operand)=>al (a6 st p.2)).length (parts.map fun (p:Nat × Operand)=>al (a6 st p.2)).length)) (w.alloc (.cells c e)) ({ st with tab:=(st.next,some (.row e sz (parts.map fun (p:Nat × Operand)=>al (a6 st p.2)))) :: st.tab,next:=st.next+1 }.put dst (.osl st.next)) (bb L st.next (.slice (some ⟨w.heap.size,0,none⟩) (parts.map fun (p:Nat × Operand)=>al (a6 st p.2)).length (parts.map fun (p:Nat × Operand)=>al (a6 st p.2)).length)) by
  rw [hrl] at hs;exact ⟨_,_,_,hrun,hs,(Below.refl _ _).alloc (KW _) _,rfl,rfl⟩
 refine uR (t:=t) (by_:=by_) h hsz (fun row hr=>?_) (by rw [hrl];exact hcs) (by rw [hrl];have:parts.length<=parts.length * sz:=Nat.le_mul_of_pos_right _ hsz;omega) (fun x hx=>?_) (fun i j row av ha hb=>?_) dst
 .obtain ⟨p,hp',rfl⟩:=K8.1 hr;exact (hl' _ (K8.2 ⟨p,hp',rfl⟩)).1
 .rw [<- Array.mem_toList_iff,hc2] at hx;obtain ⟨p,hp',hx⟩:=Lx.1 hx;obtain ⟨k,hk,rfl⟩:=Le hx;have hsz':=hcell p hp'
  have hk':k<(al (a6 st p.2)).length:=by
   rw [(hl' _ (K8.2 ⟨p,hp',rfl⟩)).1];simp at hk;omega
  simp at hk;exact (hsz'.2 k _ _ (KT hk) (KN hk')).2
 .rw [KV] at ha
  have hi':i<parts.length:=by
   rcases Ld i parts.length with hlt|hge
   .exact hlt
   .rw [Lh hge] at ha;cases ha
  rw [KN hi'] at ha;simp only [LE,My] at ha;subst ha;have hm:=hl' _ (K8.2 ⟨_,KQ hi',rfl⟩);have hj:j<sz:=by rw [<- hm.1];exact (KS.1 hb).1
  have hc:=hcell _ (KQ hi');have hjc:j<(a.eval parts[i].2).cells.size:=by omega
  exact ⟨_,by rw [hflat i j hi' hj];exact KT hjc,t5 (hc.2 j _ _ (KT hjc) hb).1 (lp hm.2.2 (KO hb))⟩
def nB (tab:aa) (sz:Nat):List AV -> Prop
 | []=>True
 | x :: l=>(al x).length=sz /\ dr tab (al x) /\ nB tab sz l
theorem rm {sz:Nat}:∀ {l:List AV},nB tab sz l ↔ ∀ x ∈ l,(al x).length=sz /\ dr tab (al x)
 | []=>by simp [nB]
 | x :: l=>by simp [nB,rm (l:=l),and_assoc]
theorem mO {t e sz by_:Nat} {parts:List (Nat × Operand)} (h:aI cx a w st L) (ht:cz P t=some (e,sz,by_)) (hp:parts.map (·.1)=List.range' 0 parts.length) (hlen:parts.length * sz<=16777216)
  (hl:nB st.tab sz (parts.map fun p=>a6 st p.2)) (dst:Option Nat) :
  ∃ v' w' L',(Instr.buildSlice t parts.length (parts.toArray.map fun (p:Nat × Operand)=>(p.1,a.eval p.2))).run P w=.ok v' w' /\
   aI cx (a.put dst v') w' ({ st with tab:=(st.next,some (.nest e sz (parts.map fun (p:Nat × Operand)=>al (a6 st p.2)))) :: st.tab,next:=st.next+1 }.put dst (.osl st.next)) L' /\
   Below w.heap.size w w' /\ L'=bb L st.next v' /\ aH v'=some w.heap.size:=by
 obtain ⟨i,z,hund,hi,hz,hs,hb,hzs,hsz⟩:=dM ht;have hl':=rm.1 hl
 have hcell:∀ p ∈ parts,(a.eval p.2).cells.size=sz /\ ∀ (j:Nat) (x:Value) (av:AV),(a.eval p.2).cells[j]? = some x -> (al (a6 st p.2))[j]? = some av -> bx cx w st.tab L x av /\ x.oneCell'=true:=fun p hp'=>by
  have hm:=hl' (a6 st p.2) (K8.2 ⟨p,hp',rfl⟩);have he:=aj h p.2;have:=fV h.lay he.1 he.2 hm.2;exact ⟨this.1.trans hm.1,this.2.2⟩
 have hltp:∀ p ∈ parts,AV.ltL st.next (al (a6 st p.2)):=fun p hp'=>by
  have hm:=hl' (a6 st p.2) (K8.2 ⟨p,hp',rfl⟩);have he:=aj h p.2;exact (fV h.lay he.1 he.2 hm.2).2.1
 obtain ⟨c,hc1,hc2⟩:=o6 sz (parts.map fun p=>(p.1,a.eval p.2)) 0 ((Array.range (parts.length * sz)).map (z.cells[· % z.cells.size]!)) (by simpa [List.map_map,Function.comp_def] using hp) (fun p hp'=>by
  simp at hp';obtain ⟨i',o',hio,rfl⟩:=hp';exact (hcell _ hio).1) (by simp)
 simp only [Mu,Lb,LT,List.flatMap_map] at hc2
 have hrun:(Instr.buildSlice t parts.length (parts.toArray.map fun (p:Nat × Operand)=>(p.1,a.eval p.2))).run P w=.ok (.slice (some ⟨w.heap.size,0,none⟩) parts.length parts.length) (w.alloc (.cells c e)):=by
  have hnb:¬ (2 ^ 24<parts.length * sz):=by omega
  rcases MT parts.length with h0|hpos
  .have:parts=[]:=Mm.1 h0;subst this
   have hce:c = #[]:=by
    rw [LL] at hc2;exact Array.toList_eq_nil_iff.1 hc2
   subst hce;simp [Instr.buildSlice,Sem.run_bind,run_underlying hund,sizeOf,typeInfo,hi,hs,zeroValue,hz,newRow,Instr.fill]
   congr 2
   exact Array.eq_empty_of_size_eq_zero (by simp)
  have hne:¬ parts.length * sz=0:=by
   intro e;rcases Nat.mul_eq_zero.1 e with e|e<;>omega
  simp [Instr.buildSlice,Sem.run_bind,run_underlying hund,sizeOf,typeInfo,hi,hs,hne,zeroValue,hz,newRow];rw [KY (by omega)];simp [hzs] at hc1;simp [hzs,hc1]
 have hflat:∀ (i j:Nat) (hi':i<parts.length),j<sz -> c[i * sz+j]? = (a.eval parts[i].2).cells[j]?:=fun i j hi' hj=>by
  have:=kg (fun p:Nat × Operand=>(a.eval p.2).cells.toList) sz parts (fun p hp'=>by simpa using (hcell p hp').1) i j hi' hj;rw [<- LV,hc2,this];simp
 have hcs:c.size=parts.length * sz:=by
  rw [<- Ll,hc2];exact mm _ _ _ fun p hp'=>by simpa using (hcell p hp').1
 have hrl:(parts.map fun p=>al (a6 st p.2)).length=parts.length:=by simp
 suffices hs:aI cx (a.put dst (.slice (some ⟨w.heap.size,0,none⟩) (parts.map fun (p:Nat × Operand)=>al (a6 st p.2)).length (parts.map fun (p:Nat × Operand)=>al (a6 st p.2)).length)) (w.alloc (.cells c e)) ({ st with tab:=(st.next,some (.nest e sz (parts.map fun (p:Nat × Operand)=>al (a6 st p.2)))) :: st.tab,next:=st.next+1 }.put dst (.osl st.next)) (bb L st.next (.slice (some ⟨w.heap.size,0,none⟩) (parts.map fun (p:Nat × Operand)=>al (a6 st p.2)).length (parts.map fun (p:Nat × Operand)=>al (a6 st p.2)).length)) by
  rw [hrl] at hs;exact ⟨_,_,_,hrun,hs,(Below.refl _ _).alloc (KW _) _,rfl,rfl⟩
 refine rq (t:=t) (by_:=by_) h hsz (fun row hr=>?_) (by rw [hrl];exact hcs) (by rw [hrl];have:parts.length<=parts.length * sz:=Nat.le_mul_of_pos_right _ hsz;omega) (fun x hx=>?_) (fun i j row av ha hb=>?_) (fun row hr=>by
  obtain ⟨p,hp',rfl⟩:=K8.1 hr;exact hltp p hp') dst
 .obtain ⟨p,hp',rfl⟩:=K8.1 hr;exact (hl' _ (K8.2 ⟨p,hp',rfl⟩)).1
 .rw [<- Array.mem_toList_iff,hc2] at hx;obtain ⟨p,hp',hx⟩:=Lx.1 hx;obtain ⟨k,hk,rfl⟩:=Le hx;have hsz':=hcell p hp'
  have hk':k<(al (a6 st p.2)).length:=by
   rw [(hl' _ (K8.2 ⟨p,hp',rfl⟩)).1];simp at hk;omega
  simp at hk;exact (hsz'.2 k _ _ (KT hk) (KN hk')).2
 .rw [KV] at ha
  have hi':i<parts.length:=by
   rcases Ld i parts.length with hlt|hge
   .exact hlt
   .rw [Lh hge] at ha;cases ha
  rw [KN hi'] at ha;simp only [LE,My] at ha;subst ha;have hm:=hl' _ (K8.2 ⟨_,KQ hi',rfl⟩);have hj:j<sz:=by rw [<- hm.1];exact (KS.1 hb).1
  have hc:=hcell _ (KQ hi');have hjc:j<(a.eval parts[i].2).cells.size:=by omega
  exact ⟨_,by rw [hflat i j hi' hj];exact KT hjc,(hc.2 j _ _ (KT hjc) hb).1⟩
theorem ur (z:Array Value) (n k:Nat) (h:k<n):(madeCells z n)[k]? = some (z[k % z.size]!):=by
 simp [madeCells,h]
theorem FK (b:Bool) {t e sz by_:Nat} (h:aI cx a w st L) (h0:0<sz) {cells:Array Value} {rows:List (List AV)} (hr:∀ row ∈ rows,row.length=sz) (hn:cells.size=rows.length * sz) (hm:rows.length<=9223372036854775807) (h1:∀ x ∈ cells,x.oneCell'=true)
  (hx:∀ (i j:Nat) (row:List AV) (av:AV),rows[i]? = some row -> row[j]? = some av -> ∃ x,cells[i * sz+j]? = some x /\ RT w (Sx cx w st.tab L) x av) (dst:Option Nat) :
  aI cx (a.put dst (.slice (some ⟨w.heap.size,0,none⟩) rows.length rows.length)) (w.alloc (.cells cells e)) ({ st with tab:=(st.next,some (Jz b e sz rows)) :: st.tab,next:=st.next+1 }.put dst (.osl st.next)) (bb L st.next (.slice (some ⟨w.heap.size,0,none⟩) rows.length rows.length)):=by
 cases b with
 | false=>exact uR (t:=t) (by_:=by_) h h0 hr hn hm h1 hx dst
 | true=>exact rq (t:=t) (by_:=by_) h h0 hr hn hm h1 (fun i j row av ha hb=>(hx i j row av ha hb).elim fun x hx=>⟨x,hx.1,.tree hx.2⟩) (fun row hr'=>ag.2 fun av ha=>by
   obtain ⟨i,hi⟩:=LO hr';obtain ⟨j,hj⟩:=LO ha;obtain ⟨x,_,hx⟩:=hx i j row av hi hj;exact hx.lt _) dst
theorem sm {t e sz by_:Nat} {z:Value} {n:Int} {k1 k2:IntKind} (h:aI cx a w st L) (ht:cz P t=some (e,sz,by_)) (hz:bT P e=some z) (h1:dr [] (al (.c z))) (h0:0<=n) (hn:n<=16777216) (hb:(by_:Int) * n<=281474976710656) (dst:Option Nat) :
  ∃ v' w' L',(Instr.makeSlice t (.int k1 n) (.int k2 n)).run P w=.ok v' w' /\
   aI cx (a.put dst v') w' ({ st with tab:=(st.next,some (Jz (xq t) e sz (List.replicate n.toNat (al (.c z))))) :: st.tab,next:=st.next+1 }.put dst (.osl st.next)) L' /\ Below w.heap.size w w' /\ L'=bb L st.next v' /\ aH v'=some w.heap.size:=by
 obtain ⟨i,z',hund,hi,hz',hs,hby,hzs,hsz⟩:=dM ht;have:z'=z:=by simpa [bT,hi,hz'] using hz
 subst this;have hrun:=run_make (P:=P) w t e i z' hund hi hz' k1 k2 n n h0 (Mw _) (by rw [hby];exact hb) (by omega);have hcl:(al (.c z')).length=sz:=by simp [al,hzs]
 have hrl:(List.replicate n.toNat (al (.c z'))).length=n.toNat:=by simp
 suffices hs2:aI cx (a.put dst (.slice (some ⟨w.heap.size,0,none⟩) (List.replicate n.toNat (al (.c z'))).length (List.replicate n.toNat (al (.c z'))).length)) (w.alloc (.cells (madeCells z'.cells (n.toNat * i.size)) e)) ({ st with tab:=(st.next,some (Jz (xq t) e sz (List.replicate n.toNat (al (.c z'))))) :: st.tab,next:=st.next+1 }.put dst (.osl st.next)) (bb L st.next (.slice (some ⟨w.heap.size,0,none⟩) (List.replicate n.toNat (al (.c z'))).length (List.replicate n.toNat (al (.c z'))).length)) by
  rw [hrl] at hs2;exact ⟨_,_,_,hrun,hs2,(Below.refl _ _).alloc (KW _) _,rfl,rfl⟩
 have hzone:∀ k,k<sz -> (z'.cells[k]!).oneCell'=true:=fun k hk=>by
  have hk':k<z'.cells.size:=by omega
  have:=kr.1 h1 (.c z'.cells[k]) (K8.2 ⟨z'.cells[k],by simp,rfl⟩);rw [getElem!_pos z'.cells k hk'];exact this
 refine FK (xq t) (t:=t) (by_:=by_) h hsz (fun row hr=>?_) (by rw [hrl,size_madeCells,hs]) (by rw [hrl];omega) (fun x hx=>?_) (fun i' j row av ha hb=>?_) dst
 .rw [List.eq_of_mem_replicate hr,hcl]
 .obtain ⟨k,hk,rfl⟩:=Array.getElem_of_mem hx;have hk':k<n.toNat * i.size:=by simpa [size_madeCells] using hk
  have:=ur z'.cells (n.toNat * i.size) k hk';rw [KT hk] at this;rw [Mk this];exact hzone _ (by rw [hzs];exact Nat.mod_lt _ hsz)
 .have hi':i'<n.toNat:=by
   have:=(KS.1 ha).1;simpa using this
  rw [List.getElem?_replicate,K5 hi'] at ha;cases ha;have hj:j<sz:=by rw [<- hcl];exact (KS.1 hb).1
  have hlt:i' * sz+j<n.toNat * sz:=by
   have:=La sz (show i'+1<=n.toNat from hi');rw [LM] at this;omega
  have e2:(i' * sz+j) % sz=j:=by rw [Nat.add_comm,Nat.add_mul_mod_self_right,Nat.mod_eq_of_lt hj]
  refine ⟨_,by rw [hs];exact ur _ _ _ hlt,?_⟩;rw [hzs,e2];have hj':j<z'.cells.size:=by omega
  simp only [al,KV,LV,KT hj',LE,My] at hb;subst hb;rw [getElem!_pos z'.cells j hj'];exact .c _
theorem je {t e sz:Nat} {p v:Value} {id i j:Nat} {rows:List (List AV)} {av:AV} (h:aI cx a w st L) (hp:bx cx w st.tab L p (.op id i j)) (hid:st.tab.get id=some (.row e sz rows)) (hv:bx cx w st.tab L v av) (hl:av.lt st.next)
  (hi:i<rows.length) (h0:0<am P t) (hs:(al av).length=am P t) (ho:j+am P t<=sz) (h1:dr st.tab (al av)) (h2:bu (al av)) (dst:Option Nat) :
  ∃ w',(Instr.storeAt t p v).run P w=.ok () w' /\ aI cx (a.put dst undef) w' ({ st with tab:=(id,some (.row e sz (rows.set i ((rows[i]?.getD []).take j ++ al av ++ (rows[i]?.getD []).drop (j+am P t))))) :: st.tab }.put dst .any) L /\
   w'.heap.size=w.heap.size /\ ∀ k,aH (L id) ≠ some k -> w'.heap[k]? = w.heap[k]?:=by
 obtain ⟨hn,hlt,hc⟩:=fV h.lay hv hl h1;obtain ⟨g,hg,rfl⟩:=hp.op_inv _ _ (bI hid);obtain ⟨hrow,xs,hown,hone,hx⟩:=h.lay.objs id _ hid;simp only [ar.sz] at hg ⊢;rw [KN hi,Lm];have hri:rows[i].length=sz:=hrow _ (KQ hi);rcases hown.2 with ⟨hL,hz⟩|⟨g',cap,cur,hL,hbg,hheap,hcap,hcm,hcs,htake⟩
 .omega
 have hgg:g=g':=by
  rw [hL] at hg;simpa [aH] using hg.symm
 subst hgg
 have hmul:i * sz+sz<=rows.length * sz:=by
  have:=La sz (show i+1<=rows.length from hi);rw [LM] at this;omega
 have hcapm:rows.length * sz<=cap * sz:=La _ hcap;have hvl:v.cells.toList.length=am P t:=by simp [hn,hs]
 have hget:=dm cur.toList (i * sz+j) v.cells.toList (by simp only [Ll,hcs];omega);rw [hvl] at hget;refine ⟨_,jo h0 (by omega) hheap (by omega) (fun x hx'=>?_),?_,by simp,fun k hk=>setRow_other w g k _ fun e=>hk (by rw [e];exact hg)⟩
 .obtain ⟨k,hk,rfl⟩:=Array.getElem_of_mem hx';have hk':k<(al av).length:=by omega
  exact (hc k _ _ (KT hk) (KN hk')).2
 have hxs:∀ k,k<rows.length * sz -> xs[k]? = cur.toList[k]?:=fun k hk=>by
  rw [<- htake,Ly,K5 hk]
 have hrl:(rows[i].take j ++ al av ++ rows[i].drop (j+am P t)).length=sz:=by
  simp only [f4,K6,LG];omega
 refine kd (o':=.row e sz (rows.set i (rows[i].take j ++ al av ++ rows[i].drop (j+am P t)))) h hid hg rfl (fun k hk=>setRow_other w g k _ hk) ?_ (by simp) (fun hext=>⟨fun row hr=>?_,(cur.toList.take (i * sz+j) ++ v.cells.toList ++ cur.toList.drop (i * sz+j+am P t)).take (rows.length * sz),?_,fun x hx'=>?_,fun i' j' row av' h3 h4=>?_⟩) trivial dst
 .exact ⟨h.lay.below.os,h.lay.below.tape,h.lay.below.output,by simpa using h.lay.below.size,fun k hk hX=>(setRow_other w g k _ (by omega)).trans (h.lay.below.block k hk hX)⟩
 .rcases LS hr with hr | rfl
  .exact hrow row hr
  .exact hrl
 .rw [List.length_set];refine ⟨?_,.inr ⟨g,cap,_,hL,hbg,setRow_heap w g cur _ e (0,0) hheap,hcap,hcm,?_,rfl⟩⟩
  .simp only [K6,f4,LG,Ll,hcs,hn,hs];omega
  .simp only [Mp,f4,K6,LG,Ll,hcs,hn,hs];omega
 .obtain ⟨k,hk⟩:=LO hx';rw [Ly] at hk;split at hk
  .rename_i hkl;rw [hget] at hk;split at hk
   .rename_i hr;have hk':k - (i * sz+j)<(al av).length:=(by omega);exact (hc _ x _ (by simpa using hk) (KN hk')).2
   .exact hone x (KO ((hxs k hkl).trans hk))
  .cases hk
 .rw [MK] at h3;split at h3
  .rename_i e1;subst e1
   first|rw [K5 hi] at h3|skip
   cases h3;have hj':j'<sz:=by rw [<- hrl];exact (KS.1 h4).1
   have h4':=dm rows[i] j (al av) (by omega) j';rw [hs] at h4';rw [h4'] at h4;have hki:i * sz+j'<rows.length * sz:=(by omega);rw [Ly,K5 hki,hget];split at h4
   .rename_i hr;rw [K5 (by omega)];rw [show i * sz+j' - (i * sz+j)=j' - j by omega];have hk':j' - j<v.cells.size:=(by omega);refine ⟨v.cells[j' - j],by simp [hk'],hext.rt (eH (hc _ _ av' (KT hk') h4).1 (ff.1 h2 _ (KO h4)))⟩
   .rename_i hr;rw [KY (by omega)];obtain ⟨x,hx1,hx2⟩:=hx i j' _ av' (KN hi) h4;exact ⟨x,by rw [<- hxs _ hki];exact hx1,hext.rt hx2⟩
  .rename_i hne;have hi2:i'<rows.length:=(KS.1 h3).1;have hj':j'<sz:=by rw [<- hrow row (KO h3)];exact (KS.1 h4).1
   have hki:i' * sz+j'<rows.length * sz:=by
    have:=La sz (show i'+1<=rows.length from hi2);rw [LM] at this;omega
   obtain ⟨x,hx1,hx2⟩:=hx i' j' row av' h3 h4;refine ⟨x,?_,hext.rt hx2⟩;rw [Ly,K5 hki,hget,KY,<- hxs _ hki]
   .exact hx1
   .intro hr;rcases Mz i i' with hlt'|he|hlt'
    .have:=La sz (show i+1<=i' from hlt');rw [LM] at this;omega
    .exact hne he
    .have:=La sz (show i'+1<=i from hlt');rw [LM] at this;omega
theorem iq {t e sz:Nat} {p v:Value} {id i j:Nat} {rows:List (List AV)} {av:AV} (h:aI cx a w st L) (hp:bx cx w st.tab L p (.op id i j)) (hid:st.tab.get id=some (.nest e sz rows)) (hv:bx cx w st.tab L v av) (hl:av.lt st.next)
  (hi:i<rows.length) (h0:0<am P t) (hs:(al av).length=am P t) (ho:j+am P t<=sz) (h1:dr st.tab (al av)) (dst:Option Nat) :
  ∃ w',(Instr.storeAt t p v).run P w=.ok () w' /\ aI cx (a.put dst undef) w' ({ st with tab:=(id,some (.nest e sz (rows.set i ((rows[i]?.getD []).take j ++ al av ++ (rows[i]?.getD []).drop (j+am P t))))) :: st.tab }.put dst .any) L /\
   w'.heap.size=w.heap.size /\ ∀ k,aH (L id) ≠ some k -> w'.heap[k]? = w.heap[k]?:=by
 obtain ⟨hn,hlt,hc⟩:=fV h.lay hv hl h1;obtain ⟨g,hg,rfl⟩:=hp.op_inv _ _ (bI hid);have hyl:∀ row ∈ rows,AV.ltL st.next row:=(h.young id _ hid).2;obtain ⟨hrow,xs,hown,hone,hx⟩:=h.lay.objs id _ hid;simp only [ar.sz] at hg ⊢;rw [KN hi,Lm];have hri:rows[i].length=sz:=hrow _ (KQ hi);rcases hown.2 with ⟨hL,hz⟩|⟨g',cap,cur,hL,hbg,hheap,hcap,hcm,hcs,htake⟩
 .omega
 have hgg:g=g':=by
  rw [hL] at hg;simpa [aH] using hg.symm
 subst hgg
 have hmul:i * sz+sz<=rows.length * sz:=by
  have:=La sz (show i+1<=rows.length from hi);rw [LM] at this;omega
 have hcapm:rows.length * sz<=cap * sz:=La _ hcap;have hvl:v.cells.toList.length=am P t:=by simp [hn,hs]
 have hget:=dm cur.toList (i * sz+j) v.cells.toList (by simp only [Ll,hcs];omega);rw [hvl] at hget;refine ⟨_,jo h0 (by omega) hheap (by omega) (fun x hx'=>?_),?_,by simp,fun k hk=>setRow_other w g k _ fun e=>hk (by rw [e];exact hg)⟩
 .obtain ⟨k,hk,rfl⟩:=Array.getElem_of_mem hx';have hk':k<(al av).length:=by omega
  exact (hc k _ _ (KT hk) (KN hk')).2
 have hxs:∀ k,k<rows.length * sz -> xs[k]? = cur.toList[k]?:=fun k hk=>by
  rw [<- htake,Ly,K5 hk]
 have hrl:(rows[i].take j ++ al av ++ rows[i].drop (j+am P t)).length=sz:=by
  simp only [f4,K6,LG];omega
 refine kd (o':=.nest e sz (rows.set i (rows[i].take j ++ al av ++ rows[i].drop (j+am P t)))) h hid hg rfl (fun k hk=>setRow_other w g k _ hk) ?_ (by simp) (fun hext=>⟨fun row hr=>?_,(cur.toList.take (i * sz+j) ++ v.cells.toList ++ cur.toList.drop (i * sz+j+am P t)).take (rows.length * sz),?_,fun x hx'=>?_,fun i' j' row av' h3 h4=>?_⟩) (fun row hr=>by
  rcases LS hr with hr|rfl
  .exact hyl row hr
  .have hyi:=hyl _ (KQ hi);refine ag.2 fun x hx=>?_;rcases K2.1 hx with hx|hx
   .rcases K2.1 hx with hx | hx
    .exact ag.1 hyi x (Lk hx)
    .exact ag.1 hlt x hx
   .exact ag.1 hyi x (LP hx)) dst
 .exact ⟨h.lay.below.os,h.lay.below.tape,h.lay.below.output,by simpa using h.lay.below.size,fun k hk hX=>(setRow_other w g k _ (by omega)).trans (h.lay.below.block k hk hX)⟩
 .rcases LS hr with hr | rfl
  .exact hrow row hr
  .exact hrl
 .rw [List.length_set];refine ⟨?_,.inr ⟨g,cap,_,hL,hbg,setRow_heap w g cur _ e (0,0) hheap,hcap,hcm,?_,rfl⟩⟩
  .simp only [K6,f4,LG,Ll,hcs,hn,hs];omega
  .simp only [Mp,f4,K6,LG,Ll,hcs,hn,hs];omega
 .obtain ⟨k,hk⟩:=LO hx';rw [Ly] at hk;split at hk
  .rename_i hkl;rw [hget] at hk;split at hk
   .rename_i hr;have hk':k - (i * sz+j)<(al av).length:=(by omega);exact (hc _ x _ (by simpa using hk) (KN hk')).2
   .exact hone x (KO ((hxs k hkl).trans hk))
  .cases hk
 .rw [MK] at h3;split at h3
  .rename_i e1;subst e1
   first|rw [K5 hi] at h3|skip
   cases h3;have hj':j'<sz:=by rw [<- hrl];exact (KS.1 h4).1
   have h4':=dm rows[i] j (al av) (by omega) j';rw [hs] at h4';rw [h4'] at h4;have hki:i * sz+j'<rows.length * sz:=(by omega);rw [Ly,K5 hki,hget];split at h4
   .rename_i hr;rw [K5 (by omega)];rw [show i * sz+j' - (i * sz+j)=j' - j by omega];have hk':j' - j<v.cells.size:=(by omega);refine ⟨v.cells[j' - j],by simp [hk'],hext.rv (hc _ _ av' (KT hk') h4).1 (ag.1 hlt _ (KO h4))⟩
   .rename_i hr;rw [KY (by omega)];obtain ⟨x,hx1,hx2⟩:=hx i j' _ av' (KN hi) h4;exact ⟨x,by rw [<- hxs _ hki];exact hx1,hext.rv hx2 (ag.1 (hyl _ (KQ hi)) _ (KO h4))⟩
  .rename_i hne;have hi2:i'<rows.length:=(KS.1 h3).1;have hj':j'<sz:=by rw [<- hrow row (KO h3)];exact (KS.1 h4).1
   have hki:i' * sz+j'<rows.length * sz:=by
    have:=La sz (show i'+1<=rows.length from hi2);rw [LM] at this;omega
   obtain ⟨x,hx1,hx2⟩:=hx i' j' row av' h3 h4;refine ⟨x,?_,hext.rv hx2 (ag.1 (hyl row (KO h3)) _ (KO h4))⟩;rw [Ly,K5 hki,hget,KY,<- hxs _ hki]
   .exact hx1
   .intro hr;rcases Mz i i' with hlt'|he|hlt'
    .have:=La sz (show i+1<=i' from hlt');rw [LM] at this;omega
    .exact hne he
    .have:=La sz (show i'+1<=i from hlt');rw [LM] at this;omega
def cn (P:Program) (t:TypeId):Option (List (Nat × Nat) × List Value):=
 match P.info? t,P.underlying t with
 | some it,some (.struct fields)=>match it.zero,fields.toList.mapM (fun f=>(P.info? f.type).map fun i=>(f.offset,i.size)) with
  | some z,some places=>some (places,z.cells.toList)
  | _,_=>none
 | some it,some (.array n e)=>match it.zero,P.info? e with
  | some z,some ie=>some ((List.range n).map fun i=>(i * ie.size,ie.size),z.cells.toList)
  | _,_=>none
 | _,_=>none
def p4 (places:List (Nat × Nat)):List AV -> List (Nat × AV) -> Option (List AV)
 | cs,[]=>some cs
 | cs,(i,x) :: rest=>match places[i]? with
  | some (off,size)=>if (al x).length=size /\ off+size<=cs.length then p4 places (cs.take off ++ al x ++ cs.drop (off+size)) rest else none
  | none=>none
def iM (tab:aa):List (Nat × AV) -> Prop
 | []=>True
 | (_,x) :: rest=>dr tab (al x) /\ iM tab rest
theorem xN (hL:fY cx w tab L) (places:List (Nat × Nat)):∀ (parts:List (Nat × Value)) (avs:List (Nat × AV)) (cells:Array Value) (cs cs':List AV),parts.length=avs.length ->
  (∀ (k i:Nat) (v:Value) (j:Nat) (av:AV),parts[k]? = some (i,v) -> avs[k]? = some (j,av) -> i=j /\ bx cx w tab L v av /\ av.lt nx) -> iM tab avs -> cells.size=cs.length -> AV.ltL nx cs -> (∀ (j:Nat) (x:Value) (av:AV),cells[j]? = some x -> cs[j]? = some av -> bx cx w tab L x av) -> p4 places cs avs=some cs' ->
  ∃ cells',Instr.fill (places.toArray[·]?) cells parts=some cells' /\ cells'.size=cs'.length /\ AV.ltL nx cs' /\ ∀ (j:Nat) (x:Value) (av:AV),cells'[j]? = some x -> cs'[j]? = some av -> bx cx w tab L x av
 | [],[],cells,cs,cs',_,_,_,hn,hl,hr,h=>by
  cases h;exact ⟨cells,rfl,hn,hl,hr⟩
 | (i,v) :: parts,(j,x) :: avs,cells,cs,cs',hlen,hp,hone,hn,hl,hr,h=>by
  obtain ⟨rfl,hv,hlx⟩:=hp 0 i v j x rfl rfl;obtain ⟨hc1,hc2,hc3⟩:=fV hL hv hlx hone.1;unfold p4 at h;split at h
  .rename_i off size hpl;split at h
   .rename_i hsz;have hfit:off+v.cells.size<=cells.size:=(by omega);have hone':=tm off v.cells cells hfit
    obtain ⟨cells',h1,h2⟩:=xN hL places parts avs (cells.toList.take off ++ v.cells.toList ++ cells.toList.drop (off+v.cells.size)).toArray (cs.take off ++ al x ++ cs.drop (off+size)) cs' (by simpa using hlen)
     (fun k i v j av h3 h4=>hp (k+1) i v j av (by simpa using h3) (by simpa using h4)) hone.2 (by simp [hc1,hsz.1,hn]) (ag.2 fun y hy=>by
      rcases K2.1 hy with hy|hy
      .rcases K2.1 hy with hy | hy
       .exact ag.1 hl y (Lk hy)
       .exact ag.1 hc2 y hy
      .exact ag.1 hl y (LP hy)) (fun k y av h3 h4=>by
      have e1:=dm cells.toList off v.cells.toList (by simpa using hfit) k;have e2:=dm cs off (al x) (by omega) k;simp only [Ll] at e1;rw [hsz.1] at e2;rw [Mi,e1] at h3;rw [e2] at h4;split at h4
      .rename_i hk;rw [K5 (by omega)] at h3;exact (hc3 _ y av (by simpa using h3) h4).1
      .rename_i hk;rw [KY (by omega)] at h3;exact hr k y av (by simpa using h3) h4) h
    refine ⟨cells',?_,h2⟩;unfold Instr.fill;simp only [Mi,hpl];rw [KY (by simp;omega),hone'];simpa using h1
   .cases h
  .cases h
 | [],_ :: _,_,_,_,h,_,_,_,_,_,_=>by simp at h
 | _ :: _,[],_,_,_,h,_,_,_,_,_,_=>by simp at h
theorem qX {f g:Nat -> Option (Nat × Nat)} (hfg:∀ i x,f i=some x -> g i=some x):∀ (parts:List (Nat × Value)) (c r:Array Value),Instr.fill f c parts=some r -> Instr.fill g c parts=some r
 | [],c,r,h=>h
 | (i,v) :: rest,c,r,h=>by
  unfold Instr.fill at h ⊢;split at h
  .cases h
  .rename_i off size hp;rw [hfg i _ hp];simp only;split at h
   .cases h
   .rename_i hc;rw [KY hc];exact qX hfg rest _ r h
theorem rU {t:TypeId} {places:List (Nat × Nat)} {zs:List Value} (h:cn P t=some (places,zs)):∃ z:Value,z.cells.toList=zs /\ ∀ parts r,Instr.fill (places.toArray[·]?) z.cells parts=some r -> P.built t parts=some r:=by
 unfold cn at h;split at h
 .rename_i it fields h1 h2;split at h
  .rename_i z pl h3 h4;cases h;refine ⟨z,rfl,fun parts r hr=>?_⟩;unfold Program.built;rw [h1,h2];simp only [h3];simp only [h4];exact hr
  .cases h
 .rename_i it n e h1 h2;split at h
  .rename_i z ie h3 h4;cases h;refine ⟨z,rfl,fun parts r hr=>?_⟩;unfold Program.built;rw [h1,h2];simp only [h3];simp only [h4];refine qX (fun i x hx=>?_) parts z.cells r hr;rw [Mi,KV] at hx;rcases Ld i n with hlt|hge
   .rw [List.getElem?_range hlt] at hx;simpa using hx
   .rw [Lh (by simpa using hge)] at hx;simp at hx
  .cases h
 .cases h
theorem CG {t:TypeId} {places:List (Nat × Nat)} {zs:List Value} {cs':List AV} {parts:List (Nat × Operand)} (h:aI cx a w st L) (ht:cn P t=some (places,zs)) (hf:p4 places (zs.map .c) (parts.map fun p=>(p.1,a6 st p.2))=some cs') (h1:iM st.tab (parts.map fun p=>(p.1,a6 st p.2))) :
  ∃ v,bx cx w st.tab L v (.agg cs') /\ (AV.agg cs').lt st.next /\ ∀ w',(Instr.build t (parts.toArray.map fun (p:Nat × Operand)=>(p.1,a.eval p.2))).run P w'=.ok v w':=by
 obtain ⟨z,rfl,hb⟩:=rU ht
 obtain ⟨cells',h2,h3,h4,h5⟩:=xN h.lay places (parts.map fun p=>(p.1,a.eval p.2)) (parts.map fun p=>(p.1,a6 st p.2)) z.cells (z.cells.toList.map .c) cs' (by simp) (fun k i v j av h6 h7=>by
  rw [KV] at h6 h7
  cases hk:parts[k]? with
  | none=>simp [hk] at h6
  | some p=>
   simp [hk] at h6 h7;obtain ⟨rfl,rfl⟩:=h6;obtain ⟨rfl,rfl⟩:=h7;exact ⟨rfl,aj h p.2⟩) h1 (by simp) (ag.2 fun y hy=>by
   obtain ⟨u,_,rfl⟩:=K8.1 hy;trivial) (fun j x av h6 h7=>by
   rw [KV,LV,h6] at h7;cases h7;exact .tree (.c x)) hf
 refine ⟨.agg cells',.agg cells' cs' h3 h5,h4,fun w'=>run_build w' t _ cells' ?_⟩;exact hb _ _ (by simpa using h2)
end
end
end
end Go.Proofs.YtiaiihjmmfakdaaGreatDoor
