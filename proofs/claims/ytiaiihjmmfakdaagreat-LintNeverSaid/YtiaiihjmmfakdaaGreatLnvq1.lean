/-
  Parts of the proof: Lnvp1, Lnvp2.
-/
import Derived.WalkKit
import Derived.WalkLawsBesides
import Derived.Handy
import Derived.Lib.OthersKept
import Derived.Deep.Draws
import Derived.Maps.AppendAt
import Derived.Test.YtiaiihjmmfakdaaGreatProg
import Derived.ProofKit
import Derived.Laws.AppendOwnNone
import Derived.Laws.MakeOwn
set_option linter.unusedVariables false
set_option linter.unusedSimpArgs false
set_option linter.defProp false
set_option maxRecDepth 100000
set_option maxHeartbeats 16000000
namespace Go.Proofs.YtiaiihjmmfakdaaGreat
def p0:=@List.mem_of_getElem?.{0}
def IU:=@List.getElem?_eq_getElem.{0}
def IV:=@List.getElem?_eq_some_iff.{0}
def IW:=@List.getElem?_map.{0,0}
def IX:=@Array.getElem?_eq_getElem.{0}
def IY:=@Nat.zero_le
def IZ:=@List.getElem_mem.{0}
def I0:=@List.length_append.{0}
def I1:=@Nat.lt_of_lt_of_le
def I2:=@Bool.and_eq_true
def I3:=@decide_eq_false
def I4:=@if_neg.{1}
def I5:=@List.take_zero.{0}
def I6:=@Nat.le_refl
def I7:=@List.mem_map.{0,0}
def I8:=@if_pos.{1}
def I9:=@List.take_length.{0}
def Ja:=@List.mem_append.{0}
def Jb:=@List.take_succ_eq_append_getElem.{0}
def Jc:=@decide_eq_true
def Jd:=@List.length_map.{0,0}
def Je:=@decide_eq_true_eq
def Jf:=@List.length_take.{0}
def Jg:=@List.mem_singleton.{0}
def Jh:=@List.length_cons.{0}
def Ji:=@decide_eq_false_iff_not
def Jj:=@Array.getElem?_eq_some_iff.{0}
def Jk:=@Nat.lt_or_ge
def Jl:=@List.map_append.{0,0}
def Jm:=@Nat.mul_le_mul_right
def Jn:=@Nat.le_trans
def Jo:=@List.map_nil.{0,0}
def Jp:=@List.take_of_length_le.{0}
def Jq:=@List.getElem?_eq_none.{0}
def Jr:=@List.length_singleton.{0}
def Js:=@Array.length_toList.{0}
def Jt:=@Bool.and_eq_false_iff
def Ju:=@Option.getD_some.{0}
def Jv:=@Bool.false_eq_true
def Jw:=@List.getElem_of_mem.{0}
def Jy:=@List.getElem?_drop.{0}
def Jz:=@beq_eq_false_iff_ne.{0}
def JA:=@List.eq_nil_of_length_eq_zero.{0}
def JB:=@List.getD_eq_getElem?_getD.{0}
def JC:=@List.getElem?_take.{0}
def JD:=@List.getElem?_append_left.{0}
def JE:=@List.mem_of_mem_take.{0}
def JF:=@Nat.le_succ
def JG:=@List.getElem?_append_right.{0}
def JH:=@List.ext_getElem?.{0}
def JI:=@Nat.add_mul
def JJ:=@List.append_assoc.{0}
def JK:=@Bool.eq_false_iff
def JL:=@List.getElem?_of_mem.{0}
def JM:=@List.cons_append.{0}
def JN:=@List.map_cons.{0,0}
def JO:=@List.mem_cons.{0}
def JP:=@Nat.pow_le_pow_right
def JQ:=@Nat.lt_succ_self
def JR:=@List.nil_append.{0}
def JS:=@List.append_nil.{0}
def JT:=@Array.getElem?_toList.{0}
def JU:=@Bool.true_and
def JV:=@Option.map_some.{0,0}
def JW:=@List.length_drop.{0}
def JX:=@List.flatMap_nil.{0,0}
def JY:=@List.flatMap_cons.{0,0}
def JZ:=@List.take_append_of_le_length.{0}
def J0:=@List.mem_cons_of_mem.{0}
def J1:=@List.mem_or_eq_of_mem_set.{0}
def J2:=@List.mem_cons_self.{0}
def J3:=@Option.isSome_iff_exists.{0}
def J4:=@Int.toNat_natCast
def J5:=@List.length_eq_zero_iff.{0}
def J6:=@List.eraseIdx_eq_take_drop_succ.{0}
def J7:=@List.mem_of_mem_drop.{0}
def J8:=@Nat.pow_lt_pow_right
def J9:=@List.pairwise_append.{0}
def Ka:=@Nat.le_max_right
def Kb:=@List.getElem?_set.{0}
def Kc:=@List.getElem?_toArray.{0}
def Kd:=@Nat.add_assoc
def Ke:=@Bool.false_and
def Kf:=@List.length_nil.{0}
def Kg:=@Bool.or_eq_true
def Kh:=@List.getElem?_cons_succ.{0}
def Ki:=@Nat.succ_le_succ
def Kj:=@Array.getD_eq_getD_getElem?.{0}
def Kk:=@List.findIdx?_eq_some_iff_getElem.{0}
def Kl:=@Nat.zero_add
def Km:=@Option.some.inj.{0}
def Kn:=@Int.natCast_nonneg
def Ko:=@Nat.lt_trichotomy
def Kp:=@List.getElem?_cons_zero.{0}
def Kq:=@Int.eq_ofNat_of_zero_le
def Kr:=@Nat.testBit_lt_two_pow
def Ks:=@Nat.le_add_right
def Kt:=@List.set_cons_zero.{0}
def Ku:=@Int.tmod_eq_emod_of_nonneg
def Kv:=@List.foldl_nil.{0,0}
def Kw:=@List.length_filter_le.{0}
def Ky:=@List.length_mergeSort.{0}
def Kz:=@List.pairwise_iff_getElem.{0}
def KA:=@List.findIdx?_eq_none_iff.{0}
def KC:=@Nat.zero_lt_one
def KD:=@Option.some.injEq.{0}
def KE:=@Nat.or_lt_two_pow
def KF:=@List.getD_cons_zero.{0}
def KG:=@List.length_take_le.{0}
def KH:=@Option.bind_some.{0,0}
def KI:=@Nat.succ_ne_self
def KJ:=@Int.toNat_zero
def KK:=@Nat.zero_mul
def KL:=@Nat.eq_zero_or_pos
def KM:=@List.set_cons_succ.{0}
def KN:=@Option.isSome_some.{0}
def KO:=@List.flatMap_id.{0}
def KP:=@Nat.le_max_left
def KQ:=@Nat.one_ne_zero
def KR:=@Bool.eq_iff_iff
def KS:=@Array.ext.{0}
def KT:=@Bool.false_or
open Go.RowKit
section
section
theorem aO {p:Prop} (h:p):Hid p:=h
theorem dK (g j:Nat):(⟨g,0,none⟩:Addr).add j=⟨g,j,none⟩:=by unfold Addr.add;split<;>simp_all
def Hv (w:World) (g:Nat) (t:TypeId) (cs:Array Value):Prop:=w.heap[g]? = some (.cells cs t (0,0))
section
variable {w w':World} {g:Nat} {t:TypeId} {cs:Array Value}
theorem Hv.cell (h:Hv w g t cs) (i:Nat):w.cell? ⟨g,i,none⟩=cs[i]?:=cell_of_row w g i cs t (0,0) h
theorem Hv.new (w:World) (t:TypeId) (cs:Array Value):Hv (w.alloc (.cells cs t)) w.heap.size t cs:=heap_alloc_new w _
end
section
variable {w w':World} {base:Nat} {e:TypeId} {size n:Nat} {v:Value} {xs:List Value}
theorem ir (h:w.ownsRow base e size v n xs):∃ A c,v=.slice A n c /\ n<=c:=by
 rcases h.2 with ⟨rfl,rfl⟩|⟨g,cap,cur,rfl,_,_,hn,_⟩
 .exact ⟨none,0,rfl,I6 _⟩
 .exact ⟨_,cap,rfl,hn⟩
theorem nh (h:w.ownsRow base e size v n xs) (hn:0<n):∃ g c,v=.slice (some ⟨g,0,none⟩) n c /\ n<=c /\ base<=g /\ g<w.heap.size:=by
 rcases h.2 with ⟨rfl,rfl⟩|⟨g,cap,cur,rfl,hb,hg,hn,_⟩
 .omega
 .exact ⟨g,cap,rfl,hn,hb,(Jj.1 hg).1⟩
theorem ki (h:w.ownsRow base e size v n xs) {g c:Nat} (hv:v=.slice (some ⟨g,0,none⟩) n c) {j:Nat} {u:Value} (hu:xs[j]? = some u):w.cell? ⟨g,j,none⟩=some u:=by
 subst hv;have:=h.cells (g:=g) rfl j u hu
 rwa [dK] at this
end
theorem ls (w:World) (L:List Value) (t:TypeId):∀ j u,L[j]? = some u -> (w.alloc (.cells L.toArray t)).cell? ((⟨w.heap.size,0,none⟩:Addr).add j)=some u:=by
 intro j u hu;rw [dK,(Hv.new w t L.toArray).cell j];simpa using hu
end
section
def t5:Nat:=0
structure xl (w:World):Prop where
 le:t5<=w.heap.size
 tab:True
theorem xl.keep {w w':World} (h:xl w) (hs:t5<=w'.heap.size) (hk:∀ k,k<t5 -> w'.heap[k]? = w.heap[k]?):xl w':=⟨hs,trivial⟩
theorem CH (w:World):xl w:=⟨IY _,trivial⟩
end
section
inductive AV where
 | any
 | c (v:Value)
 | sl (sz:Nat) (rows:List (List AV))
 | osl (id:Nat)
 | agg (cs:List AV)
 | tup (vs:List AV)
 | fn (f:FuncId) (cs:List AV)
 | bfn (f:FuncId) (cs:List AV)
 | rp (cs:List AV)
 | op (id i j:Nat)
instance:Inhabited AV:=⟨.any⟩
inductive RT (w:World) (S:Nat -> Prop):Value -> AV -> Prop
 | any (x:Value):RT w S x .any
 | c (v:Value):RT w S v (.c v)
 | sl (A:Option Addr) (n cap sz:Nat) (rows:List (List AV)) (b o:Nat) (U:Nat -> Nat -> Value) (hn:n=rows.length) (hc:n<=cap) (hm:cap<=9223372036854775807)
   (hA:0<n -> A=some ⟨b,o,none⟩ /\ S b) (hs:∀ row ∈ rows,row.length=sz)
   (hcell:0<n -> ∀ i j row av,rows[i]? = some row -> row[j]? = some av -> w.cell? ⟨b,o+i * sz+j,none⟩=some (U i j))
   (hone:∀ i j row av,rows[i]? = some row -> row[j]? = some av -> (U i j).oneCell'=true)
   (hr:∀ i j row av,rows[i]? = some row -> row[j]? = some av -> RT w S (U i j) av):RT w S (.slice A n cap) (.sl sz rows)
 | agg (xs:Array Value) (cs:List AV) (hn:xs.size=cs.length) (hr:∀ (j:Nat) (x:Value) (av:AV),xs[j]? = some x -> cs[j]? = some av -> RT w S x av):RT w S (.agg xs) (.agg cs)
 | tup (xs:Array Value) (cs:List AV) (hn:xs.size=cs.length) (hr:∀ (j:Nat) (x:Value) (av:AV),xs[j]? = some x -> cs[j]? = some av -> RT w S x av):RT w S (.tuple xs) (.tup cs)
 | fn (f:FuncId) (xs:Array Value) (cs:List AV) (hn:xs.size=cs.length) (hr:∀ (j:Nat) (x:Value) (av:AV),xs[j]? = some x -> cs[j]? = some av -> RT w S x av):RT w S (.func (.func f) #[] xs) (.fn f cs)
 | bfn (f:FuncId) (xs:Array Value) (cs:List AV) (hn:xs.size=cs.length) (hr:∀ (j:Nat) (x:Value) (av:AV),xs[j]? = some x -> cs[j]? = some av -> RT w S x av):RT w S (.func (.func f) xs #[]) (.bfn f cs)
 | rp (b o:Nat) (cs:List AV) (U:Nat -> Value) (hb:S b) (hcell:∀ j av,cs[j]? = some av -> w.cell? ⟨b,o+j,none⟩=some (U j)) (hr:∀ j av,cs[j]? = some av -> RT w S (U j) av) :
   RT w S (.pointer (some ⟨b,o,none⟩)) (.rp cs)
theorem RT.mono {w w':World} {S S':Nat -> Prop} {x:Value} {av:AV} (h:RT w S x av) (hk:∀ p:Addr,S p.block -> w'.cell? p=w.cell? p) (hS:∀ b,S b -> S' b):RT w' S' x av:=by
 induction h with
 | any x=>exact .any x
 | c v=>exact .c v
 | sl A n cap sz rows b o U hn hc hm hA hs hcell hone hr ih=>
  exact .sl A n cap sz rows b o U hn hc hm (fun h=>⟨(hA h).1,hS _ (hA h).2⟩) hs (fun h i j row av h1 h2=>(hk _ (hA h).2).trans (hcell h i j row av h1 h2)) hone ih
 | agg xs cs hn hr ih=>exact .agg xs cs hn ih
 | tup xs cs hn hr ih=>exact .tup xs cs hn ih
 | fn fi xs cs hn hr ih=>exact .fn fi xs cs hn ih
 | bfn fi xs cs hn hr ih=>exact .bfn fi xs cs hn ih
 | rp b o cs U hb hcell hr ih=>exact .rp b o cs U (hS _ hb) (fun j av h=>(hk _ hb).trans (hcell j av h)) ih
def aG:Value -> Option Nat
 | .pointer (some a)=>some a.block
 | .slice (some a) _ _=>some a.block
 | .map (some b)=>some b
 | _=>none
inductive RV (w:World) (S:Nat -> Prop) (K:Nat -> Option (Nat × Value)):Value -> AV -> Prop
 | tree {x:Value} {av:AV} (h:RT w S x av):RV w S K x av
 | osl (x:Value) (id:Nat) (h:∀ sz v,K id=some (sz,v) -> x=v):RV w S K x (.osl id)
 | op (x:Value) (id i j:Nat) (h:∀ sz v,K id=some (sz,v) -> ∃ g,aG v=some g /\ x=.pointer (some ⟨g,i * sz+j,none⟩)):RV w S K x (.op id i j)
 | agg (xs:Array Value) (cs:List AV) (hn:xs.size=cs.length) (hr:∀ (j:Nat) (x:Value) (av:AV),xs[j]? = some x -> cs[j]? = some av -> RV w S K x av):RV w S K (.agg xs) (.agg cs)
 | tup (xs:Array Value) (cs:List AV) (hn:xs.size=cs.length) (hr:∀ (j:Nat) (x:Value) (av:AV),xs[j]? = some x -> cs[j]? = some av -> RV w S K x av):RV w S K (.tuple xs) (.tup cs)
 | fn (f:FuncId) (xs:Array Value) (cs:List AV) (hn:xs.size=cs.length) (hr:∀ (j:Nat) (x:Value) (av:AV),xs[j]? = some x -> cs[j]? = some av -> RV w S K x av):RV w S K (.func (.func f) #[] xs) (.fn f cs)
 | bfn (f:FuncId) (xs:Array Value) (cs:List AV) (hn:xs.size=cs.length) (hr:∀ (j:Nat) (x:Value) (av:AV),xs[j]? = some x -> cs[j]? = some av -> RV w S K x av):RV w S K (.func (.func f) xs #[]) (.bfn f cs)
mutual
def AV.lt (nx:Nat):AV -> Prop
 | .osl id=>id<nx
 | .op id _ _=>id<nx
 | .agg cs=>AV.ltL nx cs
 | .tup cs=>AV.ltL nx cs
 | .fn _ cs=>AV.ltL nx cs
 | .bfn _ cs=>AV.ltL nx cs
 | _=>True
def AV.ltL (nx:Nat):List AV -> Prop
 | []=>True
 | a :: l=>a.lt nx /\ AV.ltL nx l
end
theorem ah {nx:Nat}:∀ {l:List AV},AV.ltL nx l ↔ ∀ a ∈ l,a.lt nx
 | []=>by simp [AV.ltL]
 | a :: l=>by simp [AV.ltL,ah (l:=l)]
theorem AV.lt_mono {n m:Nat} (hnm:n<=m):∀ {av:AV},av.lt n -> av.lt m:=by
 intro av
 induction av using AV.rec (motive_2:=fun _=>True) (motive_3:=fun l=>AV.ltL n l -> AV.ltL m l)<;>simp_all [AV.lt,AV.ltL]<;>omega
theorem RT.lt {w:World} {S:Nat -> Prop} {x:Value} {av:AV} (h:RT w S x av) (nx:Nat):av.lt nx:=by
 induction h with
 | agg xs cs hn hr ih=>
  refine ah.2 fun a ha=>?_;obtain ⟨j,hj⟩:=JL ha;have hlt:j<xs.size:=by rw [hn];exact (IV.1 hj).1
  exact ih j _ a (IX hlt) hj
 | tup xs cs hn hr ih=>
  refine ah.2 fun a ha=>?_;obtain ⟨j,hj⟩:=JL ha;have hlt:j<xs.size:=by rw [hn];exact (IV.1 hj).1
  exact ih j _ a (IX hlt) hj
 | fn fi xs cs hn hr ih=>
  refine ah.2 fun a ha=>?_;obtain ⟨j,hj⟩:=JL ha;have hlt:j<xs.size:=by rw [hn];exact (IV.1 hj).1
  exact ih j _ a (IX hlt) hj
 | bfn fi xs cs hn hr ih=>
  refine ah.2 fun a ha=>?_;obtain ⟨j,hj⟩:=JL ha;have hlt:j<xs.size:=by rw [hn];exact (IV.1 hj).1
  exact ih j _ a (IX hlt) hj
 | _=>trivial
theorem RV.mono {w w':World} {S S':Nat -> Prop} {K K':Nat -> Option (Nat × Value)} {nx:Nat} {x:Value} {av:AV} (h:RV w S K x av) (hl:av.lt nx) (hk:∀ p:Addr,S p.block -> w'.cell? p=w.cell? p) (hS:∀ b,S b -> S' b)
  (hK:∀ id p,id<nx -> K' id=some p -> K id=some p):RV w' S' K' x av:=by
 induction h with
 | tree h=>exact .tree (h.mono hk hS)
 | osl x id h=>exact .osl x id fun sz v e=>h sz v (hK id _ hl e)
 | op x id i j h=>exact .op x id i j fun sz v e=>h sz v (hK id _ hl e)
 | agg xs cs hn hr ih=>exact .agg xs cs hn fun j x av h1 h2=>ih j x av h1 h2 (ah.1 hl _ (p0 h2))
 | tup xs cs hn hr ih=>exact .tup xs cs hn fun j x av h1 h2=>ih j x av h1 h2 (ah.1 hl _ (p0 h2))
 | fn fi xs cs hn hr ih=>exact .fn fi xs cs hn fun j x av h1 h2=>ih j x av h1 h2 (ah.1 hl _ (p0 h2))
 | bfn fi xs cs hn hr ih=>exact .bfn fi xs cs hn fun j x av h1 h2=>ih j x av h1 h2 (ah.1 hl _ (p0 h2))
section
variable {w:World} {S:Nat -> Prop} {K:Nat -> Option (Nat × Value)} {x:Value}
theorem RV.c_inv {v:Value} (h:RV w S K x (.c v)):x=v:=by
 cases h with
 | tree h=>cases h;rfl
theorem RV.agg_inv {cs:List AV} (h:RV w S K x (.agg cs)):∃ xs:Array Value,x=.agg xs /\ xs.size=cs.length /\ ∀ (j:Nat) (x:Value) (av:AV),xs[j]? = some x -> cs[j]? = some av -> RV w S K x av:=by
 cases h with
 | tree h=>cases h with | agg xs cs hn hr=>exact ⟨xs,rfl,hn,fun j x av h1 h2=>.tree (hr j x av h1 h2)⟩
 | agg xs cs hn hr=>exact ⟨xs,rfl,hn,hr⟩
theorem RV.tup_inv {cs:List AV} (h:RV w S K x (.tup cs)):∃ xs:Array Value,x=.tuple xs /\ xs.size=cs.length /\ ∀ (j:Nat) (x:Value) (av:AV),xs[j]? = some x -> cs[j]? = some av -> RV w S K x av:=by
 cases h with
 | tree h=>cases h with | tup xs cs hn hr=>exact ⟨xs,rfl,hn,fun j x av h1 h2=>.tree (hr j x av h1 h2)⟩
 | tup xs cs hn hr=>exact ⟨xs,rfl,hn,hr⟩
theorem RV.fn_inv {f:FuncId} {cs:List AV} (h:RV w S K x (.fn f cs)):∃ xs:Array Value,x=.func (.func f) #[] xs /\ xs.size=cs.length /\ ∀ (j:Nat) (x:Value) (av:AV),xs[j]? = some x -> cs[j]? = some av -> RV w S K x av:=by
 cases h with
 | tree h=>cases h with | fn _ xs cs hn hr=>exact ⟨xs,rfl,hn,fun j x av h1 h2=>.tree (hr j x av h1 h2)⟩
 | fn _ xs cs hn hr=>exact ⟨xs,rfl,hn,hr⟩
theorem RV.bfn_inv {f:FuncId} {cs:List AV} (h:RV w S K x (.bfn f cs)):∃ xs:Array Value,x=.func (.func f) xs #[] /\ xs.size=cs.length /\ ∀ (j:Nat) (x:Value) (av:AV),xs[j]? = some x -> cs[j]? = some av -> RV w S K x av:=by
 cases h with
 | tree h=>cases h with | bfn _ xs cs hn hr=>exact ⟨xs,rfl,hn,fun j x av h1 h2=>.tree (hr j x av h1 h2)⟩
 | bfn _ xs cs hn hr=>exact ⟨xs,rfl,hn,hr⟩
theorem RT.sl_inv {sz:Nat} {rows:List (List AV)} (h:RT w S x (.sl sz rows)):∃ A cap,x=.slice A rows.length cap /\ rows.length<=cap /\ cap<=9223372036854775807 /\ (∀ row ∈ rows,row.length=sz) /\
  (0<rows.length -> ∃ b o,A=some ⟨b,o,none⟩ /\ S b /\ ∃ U:Nat -> Nat -> Value,(∀ i j row av,rows[i]? = some row -> row[j]? = some av -> w.cell? ⟨b,o+i * sz+j,none⟩=some (U i j)) /\
   (∀ i j row av,rows[i]? = some row -> row[j]? = some av -> RT w S (U i j) av) /\ ∀ i j row av,rows[i]? = some row -> row[j]? = some av -> (U i j).oneCell'=true):=by
 cases h with
 | sl A n cap sz rows b o U hn hc hm hA hs hcell hone hr=>
  subst hn;exact ⟨A,cap,rfl,hc,hm,hs,fun h=>⟨b,o,(hA h).1,(hA h).2,U,hcell h,hr,hone⟩⟩
theorem RV.sl_inv {sz:Nat} {rows:List (List AV)} (h:RV w S K x (.sl sz rows)):RT w S x (.sl sz rows):=by
 cases h with
 | tree h=>exact h
theorem RV.rp_inv {cs:List AV} (h:RV w S K x (.rp cs)):∃ b o,∃ U:Nat -> Value,x=.pointer (some ⟨b,o,none⟩) /\ S b /\ (∀ j av,cs[j]? = some av -> w.cell? ⟨b,o+j,none⟩=some (U j)) /\ ∀ j av,cs[j]? = some av -> RT w S (U j) av:=by
 cases h with
 | tree h=>cases h with | rp b o cs U hb hcell hr=>exact ⟨b,o,U,rfl,hb,hcell,hr⟩
theorem RV.osl_inv {id:Nat} (h:RV w S K x (.osl id)):∀ sz v,K id=some (sz,v) -> x=v:=by
 cases h with
 | tree h=>cases h
 | osl x id h=>exact h
theorem RV.op_inv {id i j:Nat} (h:RV w S K x (.op id i j)):∀ sz v,K id=some (sz,v) -> ∃ g,aG v=some g /\ x=.pointer (some ⟨g,i * sz+j,none⟩):=by
 cases h with
 | tree h=>cases h
 | op x id i j h=>exact h
end
def cb (nx:Nat):List (Nat × AV) -> Prop
 | []=>True
 | (_,av) :: l=>av.lt nx /\ cb nx l
inductive aE where
 | box (t:TypeId) (cells:List AV)
 | nest (e:TypeId) (sz:Nat) (rows:List (List AV))
 | row (e:TypeId) (sz:Nat) (rows:List (List AV))
 | map (ents:List (Value × Value))
 | ghost (vs:Array Value) (env:List (Nat × AV))
def aE.sz:aE -> Nat
 | .box _ cells=>cells.length
 | .nest _ sz _=>sz
 | .row _ sz _=>sz
 | .map _=>0
 | .ghost _ _=>0
def aE.lt (nx:Nat):aE -> Prop
 | .box _ cells=>AV.ltL nx cells
 | .nest _ _ rows=>∀ row ∈ rows,AV.ltL nx row
 | .row _ _ _=>True
 | .map _=>True
 | .ghost _ env=>cb nx env
def Ga:List TypeId:=[]
def ud (t:TypeId):Bool:=Ga.contains t
def Hz (b:Bool) (e:TypeId) (sz:Nat) (rows:List (List AV)):aE:=match b with
 | true=>.nest e sz rows
 | false=>.row e sz rows
abbrev ag:=List (Nat × Option aE)
def ag.get:ag -> Nat -> Option aE
 | [],_=>none
 | (k,o) :: l,id=>if id=k then o else ag.get l id
theorem ag.gc (k:Nat) (o:Option aE) (l:ag) (id:Nat):ag.get ((k,o) :: l) id=if id=k then o else l.get id:=rfl
def a7:List (Nat × AV) -> Nat -> AV
 | [],_=>.any
 | (k,v) :: l,t=>if t=k then v else a7 l t
theorem fB {nx:Nat}:∀ {l:List (Nat × AV)},cb nx l -> ∀ t,(a7 l t).lt nx
 | [],_,_=>trivial
 | (k,av) :: l,h,t=>by
  unfold a7;split
  .exact h.1
  .exact fB h.2 t
theorem cX {n m:Nat} (hnm:n<=m):∀ {l:List (Nat × AV)},cb n l -> cb m l
 | [],_=>trivial
 | (_,_) :: _,h=>⟨AV.lt_mono hnm h.1,cX hnm h.2⟩
structure ai where
 n:Nat
 env:List (Nat × AV)
 tab:ag
 next:Nat
def ai.get (st:ai) (t:Nat):AV:=if t<st.n then a7 st.env t else .any
def ai.put (st:ai) (dst:Option Nat) (av:AV):ai:=
 match dst with
 | some d=>{ st with env:=(d,av) :: st.env }
 | none=>st
structure Cx where
 F:Nat -> Prop
 w0:World
 /-- memory of somebody else's: neither read nor written -/
 X:Nat -> Prop
 amb:xl w0
 exD:∀ b,X b -> t5<=b
 inF:∀ b,b<t5 -> F b
structure yQ (w:World) (S:Nat -> Prop):Prop where
 sub:∀ b,S b -> b<w.heap.size
 amb:xl w
 tab:∀ b,b<t5 -> S b
instance {w:World} {S:Nat -> Prop}:CoeFun (yQ w S) fun _=>∀ b,S b -> b<w.heap.size:=⟨fun h=>h.sub⟩
abbrev Cx.mk0 (S:Nat -> Prop) (w:World) (hS:yQ w S):Cx:=⟨S,w,fun _=>False,hS.amb,fun _ h=>h.elim,hS.tab⟩
theorem xl.below {w w':World} (h:xl w) (hb:Below w.heap.size w w'):xl w':=h.keep (Jn h.le hb.size) fun k hk=>hb.block k (I1 hk h.le)
theorem xl.all {w:World} (h:xl w):yQ w (fun b=>b<w.heap.size):=⟨fun b hb=>hb,h,fun b hb=>I1 hb h.le⟩
structure dh (X:Nat -> Prop) (n:Nat) (w w':World):Prop where
 os:w'.os=w.os
 tape:w'.tape=w.tape
 output:w'.output=w.output
 size:w.heap.size<=w'.heap.size
 block:∀ k,k<n -> ¬ X k -> w'.heap[k]? = w.heap[k]?
theorem dh.trans {X:Nat -> Prop} {n:Nat} {a b c:World} (h:dh X n a b) (k:dh X n b c):dh X n a c:=
 ⟨k.os.trans h.os,k.tape.trans h.tape,k.output.trans h.output,Jn h.size k.size,fun i hi hx=>(k.block i hi hx).trans (h.block i hi hx)⟩
theorem jR {X:Nat -> Prop} {n:Nat} {a b:World} (h:Below n a b):dh X n a b:=⟨h.os,h.tape,h.output,h.size,fun i hi _=>h.block i hi⟩
theorem dh.below {X:Nat -> Prop} {n:Nat} {a b:World} (h:dh X n a b) (hx:∀ b,¬ X b):Below n a b:=⟨h.os,h.tape,h.output,h.size,fun i hi=>h.block i hi (hx i)⟩
def Sx (c:Cx) (w:World) (tab:ag) (L:Nat -> Value) (b:Nat):Prop:=b<w.heap.size /\ ((c.F b \/ c.w0.heap.size<=b) /\ ¬ c.X b) /\ ∀ id o,tab.get id=some o -> aG (L id) ≠ some b
def Kx (tab:ag) (L:Nat -> Value) (id:Nat):Option (Nat × Value):=(tab.get id).map fun o=>(o.sz,L id)
abbrev bn (c:Cx) (w:World) (tab:ag) (L:Nat -> Value):Value -> AV -> Prop:=RV w (Sx c w tab L) (Kx tab L)
def ce (w:World) (base:Nat) (e:TypeId) (size:Nat) (v:Value) (n:Nat) (xs:List Value):Prop:=
  xs.length=n * size /\
  ((v=.slice none 0 0 /\ n=0) \/
   ∃ g cap cur,v=.slice (some ⟨g,0,none⟩) n cap /\ base<=g /\ w.heap[g]? = some (.cells cur e (0,0)) /\ n<=cap /\ cap<=maxLen /\ cap * size<=cur.size /\ cur.toList.take (n * size)=xs)
theorem om {w:World} {base e size n:Nat} {v:Value} {xs:List Value} (h:w.ownsRow base e size v n xs):ce w base e size v n xs:=by
 refine ⟨h.1,?_⟩;rcases h.2 with hn|⟨g,cap,cur,h1,h2,h3,h4,h5,h6,h7⟩
 .exact .inl hn
 .exact .inr ⟨g,cap,cur,h1,h2,h3,h4,h5,by omega,h7⟩
theorem gA (w:World) (base:Nat) (e:TypeId) (size:Nat):ce w base e size (.slice none 0 0) 0 []:=⟨by simp,.inl ⟨rfl,rfl⟩⟩
theorem ce.lt {w:World} {base e size n:Nat} {v:Value} {xs:List Value} (h:ce w base e size v n xs):∀ k,v.ownBlock=some k -> base<=k /\ k<w.heap.size:=by
 intro k hk;rcases h.2 with ⟨rfl,_⟩|⟨g,cap,cur,rfl,hb,hg,_⟩
 .simp [Value.ownBlock] at hk
 .simp [Value.ownBlock] at hk;subst hk;exact ⟨hb,(Jj.1 hg).1⟩
theorem ce.base {w:World} {base base' e size n:Nat} {v:Value} {xs:List Value} (h:ce w base e size v n xs) (hb:base'<=base):ce w base' e size v n xs:=by
 refine ⟨h.1,?_⟩;rcases h.2 with hn|⟨g,cap,cur,h1,h2,rest⟩
 .exact .inl hn
 .exact .inr ⟨g,cap,cur,h1,Jn hb h2,rest⟩
theorem ce.cells {w:World} {base e size n:Nat} {v:Value} {xs:List Value} (h:ce w base e size v n xs) {g:Nat} (hg:v.ownBlock=some g):∀ j u,xs[j]? = some u -> w.cell? ((⟨g,0,none⟩:Addr).add j)=some u:=by
 intro j u hu;rcases h.2 with ⟨rfl,_⟩|⟨g',cap,cur,rfl,_,hgg,_,_,_,htake⟩
 .simp [Value.ownBlock] at hg
 .simp [Value.ownBlock] at hg;subst hg;have hadd:(⟨g',0,none⟩:Addr).add j=⟨g',j,none⟩:=by unfold Addr.add;split<;>simp_all
  rw [hadd,cell_of_row w g' j cur e (0,0) hgg];rw [<- htake,JC] at hu;split at hu
  .simpa using hu
  .cases hu
def eG (c:Cx) (w:World) (tab:ag) (L:Nat -> Value) (v:Value):aE -> Prop
 | .box t cells=>∃ g cs,v=.pointer (some ⟨g,0,none⟩) /\ c.w0.heap.size<=g /\ w.heap[g]? = some (.cells cs t (0,0)) /\ cs.size=cells.length /\ ∀ (j:Nat) (x:Value) (av:AV),cs[j]? = some x -> cells[j]? = some av -> bn c w tab L x av /\ x.oneCell'=true
 | .nest e sz rows=>(∀ row ∈ rows,row.length=sz) /\ ∃ xs,ce w c.w0.heap.size e sz v rows.length xs /\ (∀ x ∈ xs,x.oneCell'=true) /\ ∀ (i j:Nat) (row:List AV) (av:AV),rows[i]? = some row -> row[j]? = some av -> ∃ x,xs[i * sz+j]? = some x /\ bn c w tab L x av
 | .row e sz rows=>(∀ row ∈ rows,row.length=sz) /\ ∃ xs,ce w c.w0.heap.size e sz v rows.length xs /\ (∀ x ∈ xs,x.oneCell'=true) /\ ∀ (i j:Nat) (row:List AV) (av:AV),rows[i]? = some row -> row[j]? = some av -> ∃ x,xs[i * sz+j]? = some x /\ RT w (Sx c w tab L) x av
 | .map ents=>∃ b es ck,v=.map (some b) /\ c.w0.heap.size<=b /\ w.heap[b]? = some (.map es ck) /\ es.toList.map (fun e=>(e.key,e.val))=ents
 | .ghost vs env=>v=.bool false /\ ∀ t,t<vs.size -> bn c w tab L (vs.getD t undef) (a7 env t)
structure fZ (c:Cx) (w:World) (tab:ag) (L:Nat -> Value):Prop where
 below:dh c.X c.w0.heap.size c.w0 w
 objs:∀ id o,tab.get id=some o -> eG c w tab L (L id) o
 sep:∀ id id' o o' g,tab.get id=some o -> tab.get id'=some o' -> aG (L id)=some g -> aG (L id')=some g -> id=id'
 ex:∀ b,c.X b -> b<w.heap.size /\ ∀ id o,tab.get id=some o -> aG (L id) ≠ some b
theorem fZ.amb {c:Cx} {w:World} {tab:ag} {L:Nat -> Value} (h:fZ c w tab L):xl w:=
 c.amb.keep (Jn c.amb.le h.below.size) fun k hk=>h.below.block k (I1 hk c.amb.le) fun hx=>by have:=c.exD k hx;omega
theorem fZ.sok {c:Cx} {w:World} {tab:ag} {L:Nat -> Value} (h:fZ c w tab L):yQ w (Sx c w tab L):=
 ⟨fun b hb=>hb.1,h.amb,fun b hb=>⟨I1 hb h.amb.le,⟨.inl (c.inF b hb),fun hx=>by have:=c.exD b hx;omega⟩,fun id o hid hg=>by
  have h1:=h.objs id o hid
  have h2:c.w0.heap.size<=b:=by
   cases o with
   | box t cells=>
    obtain ⟨g,cs,h3,h4,_⟩:=h1;rw [h3] at hg;cases hg;exact h4
   | row e sz rows=>
    obtain ⟨_,xs,h3,_⟩:=h1;rcases h3.2 with ⟨h4,_⟩|⟨g,cap,cur,h4,h5,_⟩
    .rw [h4] at hg;cases hg
    .rw [h4] at hg;cases hg;exact h5
   | nest e sz rows=>
    obtain ⟨_,xs,h3,_⟩:=h1;rcases h3.2 with ⟨h4,_⟩|⟨g,cap,cur,h4,h5,_⟩
    .rw [h4] at hg;cases hg
    .rw [h4] at hg;cases hg;exact h5
   | map ents=>
    obtain ⟨b',es,ck,h3,h4,_⟩:=h1;rw [h3] at hg;cases hg;exact h4
   | ghost vs env=>
    rw [h1.1] at hg;cases hg
  have:=c.amb.le;omega⟩⟩
def jp (base:Nat) (w:World) (S:Nat -> Prop) (ds:List Deferred):Prop:=
 ds.Nodup /\ ∀ d ∈ ds,∃ k,d={ target:=.collected k,args:=#[] } /\ base<=k /\ w.heap[k]? = some (.deferred (some [])) /\ S k
theorem jp.nil (base:Nat) (w:World) (S:Nat -> Prop):jp base w S []:=⟨List.nodup_nil,fun d hd=>(by cases hd)⟩
theorem jp.mono {base:Nat} {w w':World} {S S':Nat -> Prop} {ds:List Deferred} (h:jp base w S ds) (hb:∀ b,S b -> w'.heap[b]? = w.heap[b]?) (hS:∀ b,S b -> S' b):jp base w' S' ds:=
 ⟨h.1,fun d hd=>(h.2 d hd).elim fun k hk=>⟨k,hk.1,hk.2.1,(hb k hk.2.2.2).trans hk.2.2.1,hS k hk.2.2.2⟩⟩
structure aH (c:Cx) (a:Act) (w:World) (st:ai) (L:Nat -> Value):Prop where
 lay:fZ c w st.tab L
 size:a.tmps.size=st.n
 defers:jp c.w0.heap.size w (Sx c w st.tab L) a.defers
 young:∀ id o,st.tab.get id=some o -> id<st.next /\ o.lt st.next
 env:∀ t,bn c w st.tab L (a.tmps.getD t undef) (st.get t) /\ (st.get t).lt st.next
end
section
def bp (P:Program) (t:TypeId):Bool:=match P.underlying t with | some (.struct _) | some (.array _ _)=>true | _=>false
def al (P:Program) (t:TypeId):Nat:=match P.underlying t,P.info? t with | some _,some i=>i.size | _,_=>0
def a6 (P:Program) (t:TypeId):Nat × Nat:=match P.underlying t with | some (.slice e)=>(e,al P e) | _=>(0,0)
def bI (P:Program) (s:TypeId) (f:Nat):Option Nat:=match P.underlying s with
 | some (.struct fields)=>match fields[f]? with
  | some fd=>if al P fd.type=0 then none else some fd.offset
  | none=>none
 | _=>none
def BK (P:Program) (s:TypeId) (f:Nat):TypeId:=match P.underlying s with
 | some (.struct fields)=>match fields[f]? with
  | some fd=>fd.type
  | none=>0
 | _=>0
def pc (P:Program) (t:TypeId):Option IntKind:=match P.underlying t with | some (.int k)=>some k | _=>none
inductive Hw where | bool | int | str | slice | other
def tK (P:Program) (t:TypeId):Hw:=match P.underlying t with | some .bool=>.bool | some (.int _)=>.int | some .string=>.str | some (.slice _)=>.slice | _=>.other
section
variable {P:Program} {t:TypeId}
theorem oA (h:bp P t=true) (w:World):(isAgg t).run P w=.ok true w:=by
 unfold bp at h
 cases hu:P.underlying t with
 | none=>simp [hu] at h
 | some d=>
  unfold isAgg;rw [Sem.run_bind,run_underlying hu w];cases d<;>simp_all
theorem mf {d:TypeDesc} (hu:P.underlying t=some d) (h:bp P t=false) (w:World):(isAgg t).run P w=.ok false w:=by
 unfold bp at h;unfold isAgg;rw [Sem.run_bind,run_underlying hu w];cases d<;>simp_all
theorem j2 (h:0<al P t):∃ d i,P.underlying t=some d /\ P.info? t=some i /\ i.size=al P t:=by
 unfold al at *;cases hu:P.underlying t<;>cases hi:P.info? t<;>simp_all
theorem cB (h:0<al P t) (w:World):(sizeOf t).run P w=.ok (al P t) w:=by
 obtain ⟨d,i,_,hi,he⟩:=j2 h;simp [sizeOf,typeInfo,hi,he]
end
def aU (st:ai):Operand -> AV
 | .tmp t=>st.get t
 | .const v=>.c v
 | .func f=>.c (.func (.func f) #[] #[])
 | .global _=>.any
def kn (P:Program) (t:TypeId) (cs:List AV) (K:AV -> Prop):Prop:=
 0<al P t /\ al P t<=cs.length /\ if bp P t=true then K (.agg (cs.take (al P t))) else K (cs.headD .any)
def ig (P:Program) (t:TypeId) (tab:ag) (x:AV) (K:AV -> Prop):Prop:=
 match x with
 | .rp cs=>kn P t cs K
 | .op id i j=>match tab.get id with
  | some (.box _ cells)=>i=0 /\ kn P t (cells.drop j) K
  | some (.row _ _ rows)=>i<rows.length /\ kn P t ((rows[i]?.getD []).drop j) K
  | some (.nest _ _ rows)=>i<rows.length /\ kn P t ((rows[i]?.getD []).drop j) K
  | _=>False
 | _=>False
def jC (P:Program) (s:TypeId) (tab:ag) (x:AV) (f:Nat) (K:AV -> Prop):Prop:=
 match bI P s f with
 | some d=>match x with
  | .rp cs=>K (.rp (cs.drop d))
  | .op id i j=>match tab.get id with
   | some _=>K (.op id i (j+d))
   | none=>False
  | _=>False
 | none=>False
def fw (P:Program) (t:TypeId):Nat × Nat:=match P.underlying t with | some (.array n e)=>(n,al P e) | _=>(0,0)
def fA (P:Program) (t:TypeId) (tab:ag) (x ix:AV) (K:AV -> Prop):Prop:=
 match ix with
 | .c (.int _ n)=>match x with
  | .op id i j=>match tab.get id with
   | some _=>0<(fw P t).2 /\ 0<=n /\ n<(fw P t).1 /\ K (.op id i (j+n.toNat * (fw P t).2))
   | none=>False
  | .rp cs=>0<(fw P t).2 /\ 0<=n /\ n<(fw P t).1 /\ K (.rp (cs.drop (n.toNat * (fw P t).2)))
  | .sl sz rows=>(a6 P t).2=sz /\ 0<sz /\ 0<=n /\ n<rows.length /\ K (.rp (rows[n.toNat]?.getD []))
  | .osl id=>match tab.get id with
   | some (.row _ sz rows)=>(a6 P t).2=sz /\ 0<sz /\ 0<=n /\ n<rows.length /\ K (.op id n.toNat 0)
   | some (.nest _ sz rows)=>(a6 P t).2=sz /\ 0<sz /\ 0<=n /\ n<rows.length /\ K (.op id n.toNat 0)
   | _=>False
  | _=>False
 | _=>False
def oh (P:Program) (t:TypeId) (tab:ag) (x:AV) (K:AV -> Prop):Prop:=
 match x with
 | .sl _ rows=>(a6 P t).2 ≠ 0 /\ K (.c (.int .i64 rows.length))
 | .osl id=>match tab.get id with
  | some (.row _ _ rows)=>(a6 P t).2 ≠ 0 /\ K (.c (.int .i64 rows.length))
  | some (.nest _ _ rows)=>(a6 P t).2 ≠ 0 /\ K (.c (.int .i64 rows.length))
  | _=>False
 | .c (.slice _ n _)=>(a6 P t).2 ≠ 0 /\ K (.c (.int .i64 n))
 | .c (.string s)=>tK P t=.str /\ K (.c (.int .i64 s.size))
 | _=>False
def dy (op:BinOp) (k:Hw):Value -> Value -> Option Value
 | .int i a,.int j b=>if i=j then
   match op with
   | .add=>some (.int i (i.wrap (a+b)))
   | .sub=>some (.int i (i.wrap (a - b)))
   | .mul=>some (.int i (i.wrap (a * b)))
   | .quo=>if b=0 then none else some (.int i (i.wrap (a.tdiv b)))
   | .rem=>if b=0 then none else some (.int i (a.tmod b))
   | .eql=>some (.bool (a == b))
   | .neq=>some (.bool (a != b))
   | .lss=>some (.bool (decide (a<b)))
   | .leq=>some (.bool (decide (a<=b)))
   | .gtr=>some (.bool (decide (b<a)))
   | .geq=>some (.bool (decide (b<=a)))
   | .and=>some (.int i (bits .and i a b))
   | .or=>some (.int i (bits .or i a b))
   | .xor=>some (.int i (bits .xor i a b))
   | .andNot=>some (.int i (bits .andNot i a b))
   | .shl=>if b<0 then none else some (.int i (i.wrap (a * 2 ^ (min b.toNat i.bits))))
   | .shr=>if b<0 then none else some (.int i (a.fdiv (2 ^ (min b.toNat i.bits))))
  else none
 | .bool a,.bool b=>match k,op with
   | .bool,.eql=>some (.bool (a == b))
   | .bool,.neq=>some (.bool (!(a == b)))
   | _,_=>none
 | .string a,.string b=>match op with
   | .eql=>some (.bool (a == b))
   | .neq=>some (.bool (!(a == b)))
   | .add=>if a.size+b.size<=9223372036854775807 then some (.string (a ++ b)) else none
   | _=>none
 | .slice none _ _,.slice none _ _=>match k,op with
   | .slice,.eql=>some (.bool true)
   | .slice,.neq=>some (.bool false)
   | _,_=>none
 | _,_=>none
def tr (op:BinOp) (k:Hw) (rows:List (List AV)) (b:Value) (K:AV -> Prop):Prop:=
 match k,op,b with
 | .slice,.eql,.slice none 0 0=>∀ c:Bool,(c=true -> rows=[]) -> K (.c (.bool c))
 | .slice,.neq,.slice none 0 0=>∀ c:Bool,(c=false -> rows=[]) -> K (.c (.bool c))
 | _,_,_=>False
def HA (f:Int -> Int -> Int):List AV -> (AV -> Prop) -> Prop
 | [.c (.int k a),.c (.int _ b)],K=>K (.c (.int k (f a b)))
 | _,_=>False
def Eg (op:UnOp):Value -> Option Value
 | .bool b=>match op with | .not=>some (.bool (!b)) | _=>none
 | .int k n=>match op with | .neg=>some (.int k (k.wrap (0 - n))) | _=>none
 | _=>none
def mW:List AV -> Option (List Value)
 | []=>some []
 | .c v :: l=>match mW l with
  | some vs=>some (v :: vs)
  | none=>none
 | _=>none
def p4 (P:Program) (op:BinOp) (t:TypeId) (a b r:Value):Prop:=∀ (w:World) (x y:Operand),(do eqGuard op t x y a b;binOp op t a b:Sem Value).run P w=.ok r w
def wF (P:Program) (op:BinOp) (t:TypeId) (K:AV -> Prop):Option (List Value) -> Option (List Value) -> Prop
 | some vs,some us=>∃ r,p4 P op t (.agg vs.toArray) (.agg us.toArray) r /\ K (.c r)
 | _,_=>False
def qb (P:Program) (op:BinOp) (t:TypeId) (x y:AV) (K:AV -> Prop):Prop:=
 match x,y with
 | .c a,.c b=>match dy op (tK P t) a b with
  | some v=>K (.c v)
  | none=>False
 | .agg xs,.agg ys=>wF P op t K (mW xs) (mW ys)
 | .sl _ rows,.c b=>tr op (tK P t) rows b K
 | _,_=>False
def EE (op:UnOp) (x:AV) (K:AV -> Prop):Prop:=
 match x with
 | .c a=>match Eg op a with
  | some v=>K (.c v)
  | none=>False
 | _=>False
def IJ (t:Bool) (a b:AV) (K:AV -> Prop):Prop:=match t with | true=>K a | false=>K b
def Bz (c a b:AV) (K:AV -> Prop):Prop:=
 match c with
 | .c (.bool t)=>IJ t a b K
 | _=>False
def gt (x:AV) (i:Nat) (K:AV -> Prop):Prop:=
 match x with
 | .tup vs=>i<vs.length /\ K (vs[i]?.getD .any)
 | _=>False
def wz (P:Program) (src dst:TypeId) (x:AV) (K:AV -> Prop):Prop:=
 match pc P src,pc P dst,x with
 | some _,some k,.c (.int _ n)=>K (.c (.int k (k.wrap n)))
 | _,_,_=>False
def mE (P:Program) (s:TypeId) (x:AV) (f:Nat) (K:AV -> Prop):Prop:=
 match bI P s f with
 | some d=>match x with
  | .agg cs=>d+al P (BK P s f)<=cs.length /\ if bp P (BK P s f)=true then K (.agg ((cs.drop d).take (al P (BK P s f)))) else K ((cs.drop d).headD .any)
  | _=>False
 | none=>False
def Gf (f:Fn) (b:Bool) (cs:List AV) (K:AV -> Prop):Prop:=
 match f,b with
 | .func g,true=>K (.fn g cs)
 | _,_=>False
def zp (f:Fn) (b:Bool) (bs:List AV) (K:AV -> Prop):Prop:=
 match f,b with
 | .func g,true=>K (.bfn g bs)
 | _,_=>False
def yP (d:Int):Option AV -> Option Int
 | none=>some d
 | some (.c (.int _ n))=>some n
 | _=>none
def mA (P:Program) (t:TypeId) (sz:Nat) (rows:List (List AV)) (K:AV -> Prop):Option Int -> Option Int -> Option AV -> Prop
 | some l,some h,none=>((a6 P t).2=sz /\ 0<sz) /\ (0<=l /\ l<=h /\ h<=(rows.length:Int)) /\ K (.sl sz ((rows.take h.toNat).drop l.toNat))
 | _,_,_=>False
def mB (P:Program) (t:TypeId) (s:ByteArray) (K:AV -> Prop):Option Int -> Option Int -> Option AV -> Prop
 | some l,some h,none=>tK P t=.str /\ (0<=l /\ l<=h /\ h<=(s.size:Int)) /\ K (.c (.string (s.extract l.toNat h.toNat)))
 | _,_,_=>False
def jK (P:Program) (t:TypeId) (x:AV) (lo hi mx:Option AV) (K:AV -> Prop):Prop:=
 match x with
 | .sl sz rows=>mA P t sz rows K (yP 0 lo) (yP rows.length hi) mx
 | .c (.string s)=>mB P t s K (yP 0 lo) (yP s.size hi) mx
 | _=>False
def Ag (tab:ag) (x:AV) (K:AV -> Prop):Prop:=
 match x with
 | .rp cs=>K (.rp cs)
 | .op id i j=>match tab.get id with
  | some _=>K (.op id i j)
  | none=>False
 | _=>False
def bM (P:Program) (tab:ag) (ev:Operand -> AV) (o:Op) (K:AV -> Prop):Prop:=
 match o with
 | .move x=>K (ev x)
 | .assign x=>K (ev x)
 | .pick c a b=>Bz (ev c) (ev a) (ev b) K
 | .load t x=>ig P t tab (ev x) K
 | .fieldAddr s x f=>jC P s tab (ev x) f K
 | .indexAddr t x ix=>fA P t tab (ev x) (ev ix) K
 | .field s x f=>mE P s (ev x) f K
 | .binOp op t x y _=>qb P op t (ev x) (ev y) K
 | .unOp op _ x=>EE op (ev x) K
 | .extract x i=>gt (ev x) i K
 | .convert s d x=>wz P s d (ev x) K
 | .call c=>match c.callee with
  | .builtin .len=>match c.args.toList,c.argTypes.toList with
   | [x],[t]=>oh P t tab (ev x) K
   | _,_=>False
  | .builtin .max=>HA (fun a b=>max a b) (c.args.toList.map ev) K
  | .builtin .min=>HA (fun a b=>min a b) (c.args.toList.map ev) K
  | _=>False
 | .makeFunc f first caps=>Gf f (first.size == 0) (caps.toList.map ev) K \/ zp f (caps.size == 0 && !(first.size == 0)) (first.toList.map ev) K
 | .slice t x lo hi mx=>jK P t (ev x) (lo.map ev) (hi.map ev) (mx.map ev) K
 | .nilCheck x=>Ag tab (ev x) K
 | _=>False
def CX (P:Program) (cx:Cx) (w:World) (tab:ag) (L:Nat -> Value) (nx:Nat) (K:AV -> Prop) (s:Sem Value):Prop:=
 ∃ v av,K av /\ bn cx w tab L v av /\ av.lt nx /\ ∀ w',Below w.heap.size w w' -> s.run P w'=.ok v w'
def iZ (P:Program) (cx:Cx) (w:World) (tab:ag) (L:Nat -> Value) (nx:Nat) (K:AV -> Prop) (s:Sem Value):Prop:=
 ∃ v av,K av /\ bn cx w tab L v av /\ av.lt nx /\ ∀ w',s.run P w'=.ok v w'
section
variable {P:Program} {cx:Cx} {w:World} {tab:ag} {L:Nat -> Value} {nx:Nat} {K:AV -> Prop}
def pI (b:Nat) (w w':World):Prop:=∀ (o:Nat) (u:Value),w.cell? ⟨b,o,none⟩=some u -> w'.cell? ⟨b,o,none⟩=some u
def kj (P:Program) (cx:Cx) (w:World) (tab:ag) (L:Nat -> Value) (nx:Nat) (K:AV -> Prop) (v:Value) (s:Sem Value):Prop:=
 ∃ u av,K av /\ bn cx w tab L u av /\ av.lt nx /\ ∃ b,aG v=some b /\ ∀ w',pI b w w' -> s.run P w'=.ok u w'
theorem kj.one {v:Value} {s:Sem Value} (h:kj P cx w tab L nx K v s):CX P cx w tab L nx K s:=by
 obtain ⟨u,av,h1,h2,h3,b,_,h4⟩:=h;exact ⟨u,av,h1,h2,h3,fun w' hw'=>h4 w' fun o u hu=>(hw'.cell (World.block_lt_of_cell? w _ hu)).trans hu⟩
omit tab L nx K in
theorem lC {f:Nat -> Value} {n j:Nat} {x:Value} (h:((List.range n).map f)[j]? = some x):j<n /\ f j=x:=by
 obtain ⟨hj,he⟩:=IV.1 h;simp at hj he;exact ⟨hj,he⟩
theorem qf {t:TypeId} {b o:Nat} {cs:List AV} (hc:∀ j av,cs[j]? = some av -> ∃ u,w.cell? ⟨b,o+j,none⟩=some u /\ bn cx w tab L u av) (hl:AV.ltL nx cs) (h:kn P t cs K) :
  kj P cx w tab L nx K (.pointer (some ⟨b,o,none⟩)) (Instr.loadAt t (.pointer (some ⟨b,o,none⟩))):=by
 obtain ⟨h0,h1,h2⟩:=h;obtain ⟨d,i,hu,hi,he⟩:=j2 h0
 cases ha:bp P t with
 | true=>
  rw [I8 ha] at h2
  obtain ⟨f,hf⟩:∃ f:Nat -> Value,∀ j av,(cs.take (al P t))[j]? = some av -> w.cell? ⟨b,o+j,none⟩=some (f j) /\ bn cx w tab L (f j) av:=by
   refine ⟨fun j=>(w.cell? ⟨b,o+j,none⟩).getD undef,fun j av hj=>?_⟩;rw [JC] at hj;split at hj
   .obtain ⟨u,hu,hr⟩:=hc j av hj;simp only [hu,Ju];exact ⟨trivial,hr⟩
   .cases hj
  have hlen:(cs.take (al P t)).length=al P t:=by rw [Jf];omega
  refine ⟨.agg ((List.range (al P t)).map f).toArray,_,h2,.agg _ _ (by simp [hlen]) (fun j x av hx hav=>?_),?_,b,rfl,fun w' hb=>?_⟩
  .have:=(hf j av hav).2;rw [Kc] at hx;obtain ⟨_,rfl⟩:=lC hx;exact this
  .show AV.ltL nx _;rw [ah] at hl ⊢;exact fun a ha=>hl a (JE ha)
  .have hcl:=run_loadCells_list (P:=P) w' ⟨b,o,none⟩ ((List.range (al P t)).map f) (fun j v hv=>by
    obtain ⟨hj,rfl⟩:=lC hv;rw [Addr.add_lit];have hx:j<(cs.take (al P t)).length:=(by omega);exact hb _ _ (hf j _ (IU hx)).1)
   rw [Jd,List.length_range] at hcl;simp [Instr.loadAt,Instr.sureAddr,loadVar,Sem.run_bind,oA ha,cB h0,hcl]
 | false=>
  rw [I4 (by simp [ha])] at h2
  obtain ⟨av,cs',rfl⟩:∃ av cs',cs=av :: cs':=by
   cases cs with
   | nil=>simp at h1;omega
   | cons a l=>exact ⟨a,l,rfl⟩
  obtain ⟨u,hcell,hr⟩:=hc 0 av rfl;refine ⟨u,av,h2,hr,hl.1,b,rfl,fun w' hb=>?_⟩;have:=hb _ _ hcell;rw [Nat.add_zero] at this;simp [Instr.loadAt,Instr.sureAddr,loadVar,Sem.run_bind,mf hu ha,run_load,this]
theorem tu {cs:List AV} (h:AV.ltL nx cs) (n:Nat):AV.ltL nx (cs.drop n):=by
 rw [ah] at h ⊢;exact fun a ha=>h a (J7 ha)
theorem bZ {id:Nat} {o:aE} (h:tab.get id=some o):Kx tab L id=some (o.sz,L id):=by simp [Kx,h]
theorem mP {t:TypeId} {b o:Nat} {cs:List AV} {S:Nat -> Prop} (hc:∀ j av,cs[j]? = some av -> ∃ u,w.cell? ⟨b,o+j,none⟩=some u /\ RT w (Sx cx w tab L) u av) (h:kn P t cs K) :
  kj P cx w tab L nx K (.pointer (some ⟨b,o,none⟩)) (Instr.loadAt t (.pointer (some ⟨b,o,none⟩))):=
 qf (fun j av hj=>by obtain ⟨u,h1,h2⟩:=hc j av hj;exact ⟨u,h1,.tree h2⟩) (ah.2 fun a ha=>by
  obtain ⟨j,hj⟩:=JL ha;obtain ⟨u,_,h2⟩:=hc j a hj;exact h2.lt nx) h
theorem lK {e:TypeId} {sz:Nat} {v:Value} {rows:List (List AV)} {g:Nat} (h:eG cx w tab L v (.row e sz rows)) (hg:aG v=some g) {i:Nat} (hi:i<rows.length) (j:Nat) (av:AV) (hj:(rows[i]?.getD [])[j]? = some av) :
  ∃ u,w.cell? ⟨g,i * sz+j,none⟩=some u /\ RT w (Sx cx w tab L) u av:=by
 obtain ⟨hsz,xs,hown,_,hx⟩:=h;rw [IU hi,Ju] at hj;obtain ⟨x,h1,h2⟩:=hx i j _ av (IU hi) hj;refine ⟨x,?_,h2⟩;rcases hown.2 with ⟨rfl,h0⟩|⟨g',cap,cur,rfl,_⟩
 .omega
 .have hc:=hown.cells (g:=g') rfl _ x h1;simp [aG] at hg;subst hg
  rwa [dK] at hc
theorem uy {e:TypeId} {sz:Nat} {v:Value} {rows:List (List AV)} {g:Nat} (h:eG cx w tab L v (.nest e sz rows)) (hg:aG v=some g) {i:Nat} (hi:i<rows.length) (j:Nat) (av:AV) (hj:(rows[i]?.getD [])[j]? = some av) :
  ∃ u,w.cell? ⟨g,i * sz+j,none⟩=some u /\ bn cx w tab L u av:=by
 obtain ⟨hsz,xs,hown,_,hx⟩:=h;rw [IU hi,Ju] at hj;obtain ⟨x,h1,h2⟩:=hx i j _ av (IU hi) hj;refine ⟨x,?_,h2⟩;rcases hown.2 with ⟨rfl,h0⟩|⟨g',cap,cur,rfl,_⟩
 .omega
 .have hc:=hown.cells (g:=g') rfl _ x h1;simp [aG] at hg;subst hg
  rwa [dK] at hc
theorem lj {t:TypeId} {v:Value} {cells:List AV} {g:Nat} (h:eG cx w tab L v (.box t cells)) (hg:aG v=some g) (j:Nat) (av:AV) (hj:cells[j]? = some av) :
  ∃ u,w.cell? ⟨g,j,none⟩=some u /\ bn cx w tab L u av:=by
 obtain ⟨g',cs,rfl,_,hheap,hn,hx⟩:=h;simp [aG] at hg;subst hg;have hlt:j<cs.size:=by rw [hn];exact (IV.1 hj).1
 exact ⟨cs[j],by rw [cell_of_row w g' j cs t (0,0) hheap];exact IX hlt,(hx j _ av (IX hlt) hj).1⟩
theorem vO {t:TypeId} {v:Value} {x:AV} (hL:fZ cx w tab L) (hy:∀ id o,tab.get id=some o -> o.lt nx) (hv:bn cx w tab L v x) (h:ig P t tab x K):kj P cx w tab L nx K v (Instr.loadAt t v):=by
 unfold ig at h;split at h
 .rename_i cs;obtain ⟨b,o,U,rfl,hb,hcell,hr⟩:=hv.rp_inv;exact mP (S:=fun _=>True) (fun j av hj=>⟨U j,hcell j av hj,hr j av hj⟩) h
 .rename_i id i j;split at h
  .rename_i ty cells hid;obtain ⟨rfl,h⟩:=h;obtain ⟨g,hg,rfl⟩:=hv.op_inv _ _ (bZ hid);have ho:=hL.objs id _ hid;simp only [aE.sz,KK,Kl];refine qf (fun k av hk=>?_) (tu (hy id _ hid) j) h;rw [Jy] at hk;exact lj ho hg (j+k) av hk
  .rename_i e sz rows hid;obtain ⟨hi,h⟩:=h;obtain ⟨g,hg,rfl⟩:=hv.op_inv _ _ (bZ hid);have ho:=hL.objs id _ hid;refine mP (S:=fun _=>True) (fun k av hk=>?_) h;rw [Jy] at hk;have:=lK ho hg hi (j+k) av hk
   rwa [<- Kd] at this
  .rename_i e sz rows hid;obtain ⟨hi,h⟩:=h;obtain ⟨g,hg,rfl⟩:=hv.op_inv _ _ (bZ hid);have ho:=hL.objs id _ hid;refine qf (fun k av hk=>?_) (tu (hy id _ hid _ (by rw [IU hi,Ju];exact IZ hi)) j) h;rw [Jy] at hk;have:=uy ho hg hi (j+k) av hk
   rwa [<- Kd] at this
  .exact h.elim
 .exact h.elim
theorem pu {s:TypeId} {f d:Nat} (h:bI P s f=some d):∃ fields fd,P.underlying s=some (.struct fields) /\ fields[f]? = some fd /\ 0<al P fd.type /\ fd.offset=d:=by
 unfold bI at h;split at h
 .rename_i fields hu;split at h
  .rename_i fd hf;split at h
   .cases h
   .rename_i h0;cases h;exact ⟨fields,fd,hu,hf,by omega,rfl⟩
  .cases h
 .cases h
theorem mb {s:TypeId} {f d:Nat} (h:bI P s f=some d) (b o:Nat) (w:World):(Instr.fieldAt s (.pointer (some ⟨b,o,none⟩)) f).run P w=.ok (.pointer (some ⟨b,o+d,none⟩)) w:=by
 obtain ⟨fields,fd,hu,hf,h0,rfl⟩:=pu h;simp [Instr.fieldAt,Sem.run_bind,run_underlying hu,hf,Instr.sureAddr,fieldPlace,cB h0,Nat.ne_of_gt h0,Addr.add_lit]
theorem y6 {s:TypeId} {v:Value} {x:AV} {f:Nat} (hl:x.lt nx) (hv:bn cx w tab L v x) (h:jC P s tab x f K):iZ P cx w tab L nx K (Instr.fieldAt s v f):=by
 unfold jC at h;split at h
 .rename_i d hd;split at h
  .rename_i cs;obtain ⟨b,o,U,rfl,hb,hcell,hr⟩:=hv.rp_inv;refine ⟨_,_,h,.tree (.rp b (o+d) (cs.drop d) (fun j=>U (d+j)) hb (fun j av hj=>?_) (fun j av hj=>?_)),trivial,fun w'=>mb hd b o w'⟩
   .rw [Jy] at hj;rw [Kd];exact hcell _ av hj
   .rw [Jy] at hj;exact hr _ av hj
  .rename_i id i j;split at h
   .rename_i ob hid;obtain ⟨g,hg,rfl⟩:=hv.op_inv _ _ (bZ hid);refine ⟨_,_,h,.op _ id i (j+d) (fun sz' u' hk'=>?_),hl,fun w'=>mb hd _ _ w'⟩;rw [bZ hid] at hk';cases hk';exact ⟨g,hg,by rw [Kd]⟩
   .exact h.elim
  .exact h.elim
 .exact h.elim
theorem yo {s:TypeId} {v:Value} {x:AV} {f:Nat} (hl:x.lt nx) (hv:bn cx w tab L v x) (h:mE P s x f K):iZ P cx w tab L nx K (Instr.field s v f):=by
 unfold mE at h;split at h
 .rename_i d hd;obtain ⟨fields,fd,hu,hf,h0,rfl⟩:=pu hd;have ht:BK P s f=fd.type:=by simp [BK,hu,hf]
  rw [ht] at h;obtain ⟨dd,i,hdu,hi,he⟩:=j2 h0;split at h
  .rename_i cs;obtain ⟨xs,rfl,hn,hr⟩:=hv.agg_inv;obtain ⟨hsz,h⟩:=h
   cases ha:bp P fd.type with
   | true=>
    rw [I8 ha] at h;refine ⟨.agg (xs.extract fd.offset (fd.offset+al P fd.type)),_,h,.agg _ _ (by simp;omega) (fun j y av h1 h2=>?_),?_,fun w'=>?_⟩
    .rw [JC] at h2;split at h2
     .rename_i hj;rw [Jy] at h2;rw [Array.getElem?_extract] at h1;split at h1
      .exact hr _ y av h1 h2
      .cases h1
     .cases h2
    .exact ah.2 fun y hy=>ah.1 hl y (J7 (JE hy))
    .simp [Instr.field,Sem.run_bind,run_underlying hu,hf,asAgg,part,oA ha,cB h0]
   | false=>
    rw [I4 (by simp [ha])] at h;have hlt:fd.offset<cs.length:=(by omega);have hlt':fd.offset<xs.size:=(by omega);rw [List.drop_eq_getElem_cons hlt,List.headD_cons] at h
    exact ⟨xs[fd.offset],_,h,hr _ _ _ (IX hlt') (IU hlt),ah.1 hl _ (IZ hlt),fun w'=>by
     simp [Instr.field,Sem.run_bind,run_underlying hu,hf,asAgg,part,mf hdu ha,IX hlt']⟩
  .exact h.elim
 .exact h.elim
theorem gL {t:TypeId} (h:0<(a6 P t).2):P.underlying t=some (.slice (a6 P t).1) /\ al P (a6 P t).1=(a6 P t).2:=by
 unfold a6 at *;split at h
 .rename_i e he;exact ⟨he,rfl⟩
 .simp at h
theorem gR {t:TypeId} (h:0<(a6 P t).2) (b o n cap:Nat) (k:IntKind) (i:Int) (h0:0<=i) (h1:i<n) (w:World):(Instr.indexAt t (.slice (some ⟨b,o,none⟩) n cap) (.int k i)).run P w=.ok (.pointer (some ⟨b,o+i.toNat * (a6 P t).2,none⟩)) w:=by
 obtain ⟨hu,he⟩:=gL h;have hs:=cB (P:=P) (t:=(a6 P t).1) (by omega) w;rw [he] at hs;simp [Instr.indexAt,Sem.run_bind,run_underlying hu,asIntOf,h0,h1,hs,Addr.add_lit]
theorem j4 {id:Nat} {v:Value} {e:TypeId} {sz:Nat} {rows:List (List AV)} (hL:fZ cx w tab L) (hid:tab.get id=some (.row e sz rows)) (hv:bn cx w tab L v (.osl id)):v=L id /\ ∃ A cap,v=.slice A rows.length cap /\ (0<rows.length -> ∃ g,A=some ⟨g,0,none⟩):=by
 have e1:=hv.osl_inv _ _ (bZ hid);refine ⟨e1,?_⟩;obtain ⟨_,xs,hown,_⟩:=hL.objs id _ hid;rw [e1];rcases hown.2 with ⟨h1,h0⟩|⟨g,cap,cur,h1,_⟩
 .rw [h1,h0];exact ⟨none,0,rfl,fun h=>by omega⟩
 .rw [h1];exact ⟨_,cap,rfl,fun _=>⟨g,rfl⟩⟩
theorem gB {id:Nat} {v:Value} {e:TypeId} {sz:Nat} {rows:List (List AV)} (hL:fZ cx w tab L) (hid:tab.get id=some (.nest e sz rows)) (hv:bn cx w tab L v (.osl id)):v=L id /\ ∃ A cap,v=.slice A rows.length cap /\ (0<rows.length -> ∃ g,A=some ⟨g,0,none⟩):=by
 have e1:=hv.osl_inv _ _ (bZ hid);refine ⟨e1,?_⟩;obtain ⟨_,xs,hown,_⟩:=hL.objs id _ hid;rw [e1];rcases hown.2 with ⟨h1,h0⟩|⟨g,cap,cur,h1,_⟩
 .rw [h1,h0];exact ⟨none,0,rfl,fun h=>by omega⟩
 .rw [h1];exact ⟨_,cap,rfl,fun _=>⟨g,rfl⟩⟩
theorem wO {t:TypeId} (h:0<(fw P t).2):∃ e,P.underlying t=some (.array (fw P t).1 e) /\ al P e=(fw P t).2:=by
 unfold fw at *;split at h
 .rename_i n e he;exact ⟨e,he,rfl⟩
 .simp at h
theorem kJ {t:TypeId} (h:0<(fw P t).2) (b o:Nat) (k:IntKind) (i:Int) (h0:0<=i) (h1:i<(fw P t).1) (w:World):(Instr.indexAt t (.pointer (some ⟨b,o,none⟩)) (.int k i)).run P w=.ok (.pointer (some ⟨b,o+i.toNat * (fw P t).2,none⟩)) w:=by
 obtain ⟨e,hu,he⟩:=wO h;have hs:=cB (P:=P) (t:=e) (by omega) w;rw [he] at hs;simp [Instr.indexAt,Sem.run_bind,run_underlying hu,asIntOf,Instr.sureAddr,h0,h1,hs,Addr.add_lit]
theorem A8 {t:TypeId} {v u:Value} {x ix:AV} (hL:fZ cx w tab L) (hl:x.lt nx) (hv:bn cx w tab L v x) (hu:bn cx w tab L u ix) (h:fA P t tab x ix K):iZ P cx w tab L nx K (Instr.indexAt t v u):=by
 unfold fA at h;split at h
 .rename_i k n;obtain rfl:=hu.c_inv;split at h
  .rename_i id i j;split at h
   .rename_i o hid;obtain ⟨hpos,h0,h1,h⟩:=h;obtain ⟨g,hg,rfl⟩:=hv.op_inv _ _ (bZ hid);refine ⟨_,_,h,.op _ id i _ (fun sz' u' hk'=>?_),hl,fun w'=>kJ hpos g _ k n h0 h1 w'⟩;rw [bZ hid] at hk';cases hk';exact ⟨g,hg,by simp [Kd]⟩
   .exact h.elim
  .rename_i cs;obtain ⟨hpos,h0,h1,h⟩:=h;obtain ⟨b,o,U,rfl,hb,hcell,hr⟩:=hv.rp_inv;refine ⟨_,_,h,.tree (.rp b (o+n.toNat * (fw P t).2) _ (fun j=>U (n.toNat * (fw P t).2+j)) hb (fun j av hj=>?_) (fun j av hj=>?_)),trivial,fun w'=>kJ hpos b o k n h0 h1 w'⟩
   .rw [Jy] at hj;rw [Kd];exact hcell _ av hj
   .rw [Jy] at hj;exact hr _ av hj
  .rename_i sz rows;obtain ⟨hsz,hpos,h0,h1,h⟩:=h;obtain ⟨A,cap,rfl,_,_,hrow,hA⟩:=hv.sl_inv.sl_inv;obtain ⟨b,o,rfl,hb,U,hcell,hr,_⟩:=hA (by omega);have hn:n.toNat<rows.length:=(by omega);rw [IU hn,Ju] at h;refine ⟨_,_,h,.tree (.rp b (o+n.toNat * (a6 P t).2) _ (U n.toNat) hb (fun j av hj=>?_) (fun j av hj=>?_)),trivial,fun w'=>gR (by omega) b o _ cap k n h0 h1 w'⟩
   .rw [hsz];exact hcell n.toNat j _ av (IU hn) hj
   .exact hr n.toNat j _ av (IU hn) hj
  .rename_i id;split at h
   .rename_i e sz rows hid;obtain ⟨hsz,hpos,h0,h1,h⟩:=h;obtain ⟨hvL,A,cap,rfl,hA⟩:=j4 hL hid hv;obtain ⟨g,rfl⟩:=hA (by omega);refine ⟨_,_,h,.op _ id n.toNat 0 (fun sz' u' hk'=>?_),hl,fun w'=>gR (by omega) g 0 _ cap k n h0 h1 w'⟩;rw [bZ hid] at hk';cases hk';exact ⟨g,by rw [<- hvL];rfl,by simp [aE.sz,hsz]⟩
   .rename_i e sz rows hid;obtain ⟨hsz,hpos,h0,h1,h⟩:=h;obtain ⟨hvL,A,cap,rfl,hA⟩:=gB hL hid hv;obtain ⟨g,rfl⟩:=hA (by omega);refine ⟨_,_,h,.op _ id n.toNat 0 (fun sz' u' hk'=>?_),hl,fun w'=>gR (by omega) g 0 _ cap k n h0 h1 w'⟩;rw [bZ hid] at hk';cases hk';exact ⟨g,by rw [<- hvL];rfl,by simp [aE.sz,hsz]⟩
   .exact h.elim
  .exact h.elim
 .exact h.elim
theorem ez {t:TypeId} (h:(a6 P t).2 ≠ 0) (ty:TypeId) (A:Option Addr) (n cap:Nat) (w:World):(Builtin.len_ #[t] ty #[.slice A n cap]).run P w=.ok (.int .i64 n) w:=by
 obtain ⟨hu,he⟩:=gL (Nat.pos_of_ne_zero h);simp [Builtin.len_,Sem.run_bind,run_underlying hu,goInt]
theorem Hs {t ty:TypeId} {v:Value} {x:AV} (hL:fZ cx w tab L) (hv:bn cx w tab L v x) (h:oh P t tab x K):iZ P cx w tab L nx K (Builtin.len_ #[t] ty #[v]):=by
 unfold oh at h;split at h
 .rename_i sz rows;obtain ⟨h1,h⟩:=h;obtain ⟨A,cap,rfl,_⟩:=hv.sl_inv.sl_inv;exact ⟨_,_,h,.tree (.c _),trivial,fun w'=>ez h1 ty A _ cap w'⟩
 .rename_i id;split at h
  .rename_i e sz rows hid;obtain ⟨h1,h⟩:=h;obtain ⟨_,A,cap,rfl,_⟩:=j4 hL hid hv;exact ⟨_,_,h,.tree (.c _),trivial,fun w'=>ez h1 ty A _ cap w'⟩
  .rename_i e sz rows hid;obtain ⟨h1,h⟩:=h;obtain ⟨_,A,cap,rfl,_⟩:=gB hL hid hv;exact ⟨_,_,h,.tree (.c _),trivial,fun w'=>ez h1 ty A _ cap w'⟩
  .exact h.elim
 .obtain ⟨h1,h⟩:=h;obtain rfl:=hv.c_inv;exact ⟨_,_,h,.tree (.c _),trivial,fun w'=>ez h1 ty _ _ _ w'⟩
 .rename_i s;obtain ⟨h1,h⟩:=h;obtain rfl:=hv.c_inv
  have hu:P.underlying t=some .string:=by
   unfold tK at h1;split at h1<;>first|assumption|cases h1
  exact ⟨_,_,h,.tree (.c _),trivial,fun w'=>by simp [Builtin.len_,Sem.run_bind,run_underlying hu,goInt]⟩
 .exact h.elim
theorem kR {op:BinOp} {t:TypeId} {A:Option Addr} {n c n' c':Nat} (hk:tK P t=.slice) (h:op=.eql \/ op=.neq) (w:World) (x y:Operand):(do eqGuard op t x y (.slice A n c) (.slice none n' c');binOp op t (.slice A n c) (.slice none n' c'):Sem Value).run P w=.ok (.bool (if op=.eql then A.isNone else !A.isNone)) w:=by
 obtain ⟨e,hu⟩:∃ e,P.underlying t=some (.slice e):=by
  unfold tK at hk;split at hk<;>first|(rename_i e he;exact ⟨e,he⟩)|cases hk
 have hg:(eqGuard op t x y (.slice A n c) (.slice none n' c')).run P w=.ok () w:=by
  rcases h with rfl|rfl<;>simp [eqGuard]
 have he0:∀ d,(Op.equalIn (d+1) t (.slice A n c) (.slice none n' c')).run P w=.ok A.isNone w:=fun d=>by
  cases A<;>simp [Op.equalIn,run_underlying hu]
 have he:=he0 9999;rw [Sem.run_bind,hg];simp only [Result.andThen_ok];rcases h with rfl|rfl<;>simp only [binOp,Op.equal,Op.maxDepth,Sem.run_bind,he,Result.andThen_ok]<;>simp
theorem zo {op:BinOp} {t:TypeId} {a b v:Value} {x y:Operand} (h:dy op (tK P t) a b=some v) (w:World):(do eqGuard op t x y a b;binOp op t a b:Sem Value).run P w=.ok v w:=by
 have hg:(eqGuard op t x y a b).run P w=.ok () w:=by
  unfold dy at h;split at h<;>first|(cases h;done)|(cases op<;>simp [eqGuard])
 rw [Sem.run_bind,hg];simp only [Result.andThen_ok];unfold dy at h;split at h
 .rename_i i p j q;split at h
  .rename_i hij;subst hij
   cases op<;>simp at h<;>first
    | (obtain ⟨h0,rfl⟩:=h;simp [binOp,Op.intDiv,h0];done)
    | (obtain ⟨h0,rfl⟩:=h;simp [binOp,Op.shift,Int.not_lt.2 h0];done)
    | (subst h;simp [binOp,intBits_and,intBits_or,intBits_xor,intBits_andNot];done)
    | (subst h;simp [binOp,Op.intArith,Op.intCmp];done)
  .cases h
 .rename_i p q;split at h
  .rename_i hk
   have hu:P.underlying t=some .bool:=by
    unfold tK at hk;split at hk<;>first|assumption|cases hk
   cases h;simp [binOp,Op.equal,Op.maxDepth,Sem.run_bind,run_equalIn_bool' w 9999 t p q hu]
  .rename_i hk
   have hu:P.underlying t=some .bool:=by
    unfold tK at hk;split at hk<;>first|assumption|cases hk
   cases h;simp [binOp,Op.equal,Op.maxDepth,Sem.run_bind,run_equalIn_bool' w 9999 t p q hu]
  .cases h
 .rename_i p q;cases op<;>simp at h
  case add=>
   obtain ⟨h1,rfl⟩:=h
   have h2:¬ (((p.size+q.size:Nat):Int) > IntKind.i64.max):=by
    have:IntKind.i64.max=9223372036854775807:=by decide
    omega
   have h3:IntKind.i64.max=9223372036854775807:=(by decide);simp [binOp,Op.stringOp,h3];omega
  all_goals
   subst h;simp [binOp,Op.stringOp,beq_toListBytes]
 .rename_i n1 c1 n2 c2;split at h
  .rename_i hk;have:=kR (A:=none) (n:=n1) (c:=c1) (n':=n2) (c':=c2) hk (.inl rfl) w x y;rw [Sem.run_bind,hg] at this;cases h;simpa using this
  .rename_i hk;have:=kR (A:=none) (n:=n1) (c:=c1) (n':=n2) (c':=c2) hk (.inr rfl) w x y;rw [Sem.run_bind,hg] at this;cases h;simpa using this
  .cases h
 .cases h
theorem CM {op:UnOp} {a v:Value} (h:Eg op a=some v) (w:World):(Op.unary op a).run P w=.ok v w:=by
 unfold Eg at h;split at h
 .cases op<;>simp at h;subst h;simp [Op.unary]
 .cases op<;>simp at h;subst h;simp [Op.unary,Op.intArith]
 .cases h
theorem nH:∀ {cs:List AV} {vs:List Value} {xs:Array Value},mW cs=some vs -> xs.size=cs.length -> (∀ (j:Nat) (x:Value) (av:AV),xs[j]? = some x -> cs[j]? = some av -> bn cx w tab L x av) -> xs=vs.toArray:=by
 intro cs vs xs h hn hr
 have key:∀ (cs:List AV) (vs:List Value),mW cs=some vs -> ∀ (l:List Value),l.length=cs.length -> (∀ (j:Nat) (x:Value) (av:AV),l[j]? = some x -> cs[j]? = some av -> bn cx w tab L x av) -> l=vs:=by
  intro cs
  induction cs with
  | nil=>
   intro vs h l hl _;cases h;exact JA hl
  | cons a cs ih=>
   intro vs h l hl hr
   cases l with
   | nil=>simp at hl
   | cons x l=>
    cases a with
    | c v=>
     simp only [mW] at h;split at h
     .rename_i vs' hv;cases h;have h0:=(hr 0 x (.c v) rfl rfl).c_inv;rw [h0,ih vs' hv l (by simpa using hl) (fun j y av h1 h2=>hr (j+1) y av (by simpa using h1) (by simpa using h2))]
     .cases h
    | _=>simp [mW] at h
 have:=key cs vs h xs.toList (by simpa using hn) (fun j x av h1 h2=>hr j x av (by simpa using h1) h2);rw [<- this]
theorem DV {S:Nat -> Prop} {v:Value} {sz l h':Nat} {rows:List (List AV)} (hr:RT w S v (.sl sz rows)) (hlh:l<=h') (hh:h'<=rows.length) :
  ∃ A cap,v=.slice A rows.length cap /\ rows.length<=cap /\ ∀ s,s=sz -> RT w S (sliced A l h' cap s) (.sl sz ((rows.take h').drop l)):=by
 obtain ⟨A,cap,rfl,hc,hm,hs,hA⟩:=hr.sl_inv;refine ⟨A,cap,rfl,hc,fun s hs'=>?_⟩;subst hs';have hlen:((rows.take h').drop l).length=h' - l:=by simp only [JW,Jf];omega
 have hget:∀ i row,((rows.take h').drop l)[i]? = some row -> rows[l+i]? = some row:=fun i row hi=>by
  rw [Jy,JC] at hi;split at hi
  .exact hi
  .cases hi
 unfold sliced;by_cases h0:h' - l=0
 .refine .sl _ _ _ _ _ 0 0 (fun _ _=>undef) (by omega) (by omega) (by omega) (fun h=>by omega) (fun row hr'=>hs row (JE (J7 hr'))) (fun h=>by omega) (fun i j row av h1 h2=>?_) (fun i j row av h1 h2=>?_)
  all_goals
   have:=(IV.1 h1).1;omega
 .obtain ⟨b,o,rfl,hSb,U,h1,h2,h3⟩:=hA (by omega);rw [I4 (by omega),JV,Addr.add_lit];refine .sl _ _ _ _ _ b (o+l * s) (fun i j=>U (l+i) j) hlen.symm (by omega) (by omega) (fun _=>⟨rfl,hSb⟩) (fun row hr'=>hs row (JE (J7 hr'))) (fun _ i j row av h4 h5=>?_) (fun i j row av h4 h5=>?_) (fun i j row av h4 h5=>?_)
  .have:=h1 (l+i) j row av (hget i row h4) h5
   rwa [JI,<- Kd] at this
  .exact h3 (l+i) j row av (hget i row h4) h5
  .exact h2 (l+i) j row av (hget i row h4) h5
def AH (d n:Nat) (o:Option Value):Prop:=(o=none /\ n=d) \/ ∃ k,o=some (.int k n)
theorem gY {isS:Bool} {w:World} {len cap l h' m:Nat} {lo hi mx:Option Value} (h1:AH 0 l lo) (h2:AH len h' hi) (h3:(mx=none /\ m=cap) \/ (m=h' /\ (∃ k,mx=some (.int k m)) /\ hi ≠ none)) (hlh:l<=h') (hh:h'<=cap):(Instr.sliceBounds isS len cap lo hi mx).run P w=.ok (l,h',m) w:=by
 rcases h1 with ⟨rfl,rfl⟩|⟨k1,rfl⟩<;>rcases h2 with ⟨rfl,rfl⟩|⟨k2,rfl⟩<;>rcases h3 with ⟨rfl,rfl⟩|⟨rfl,⟨k3,rfl⟩,h4⟩ <;>
  first
  | exact absurd rfl h4
  | (simp [Instr.sliceBounds,run_sliceBound,hlh,hh];done)
  | (simp [Instr.sliceBounds,run_sliceBound,hlh,hh];omega)
theorem pv {d n:Nat} {o:Option Operand} {ρ:Operand -> Value} {ev:Operand -> AV} {l:Int} (he:∀ x,bn cx w tab L (ρ x) (ev x)) (h:yP (d:Int) (o.map ev)=some l) (h0:0<=l) (hn:n=l.toNat):AH d n (o.map ρ):=by
 cases o with
 | none=>
  simp [yP] at h;exact .inl ⟨rfl,by omega⟩
 | some x=>
  simp only [JV] at h ⊢;unfold yP at h;split at h
  .rename_i hx;cases hx
  .rename_i k m hx
   injection hx with hx
   have:=he x;rw [hx] at this
   injection h with h
   subst h;rw [this.c_inv];exact .inr ⟨k,by rw [hn,Int.toNat_of_nonneg h0]⟩
  .cases h
theorem zJ {t:TypeId} {v:Value} {x:AV} {lo hi mx:Option Operand} {ρ:Operand -> Value} {ev:Operand -> AV} (he:∀ x,bn cx w tab L (ρ x) (ev x)) (hv:bn cx w tab L v x) (h:jK P t x (lo.map ev) (hi.map ev) (mx.map ev) K) :
  iZ P cx w tab L nx K (Instr.sliceAt t v (lo.map ρ) (hi.map ρ) (mx.map ρ)):=by
 unfold jK at h;split at h
 .rename_i sz rows;unfold mA at h;split at h
  .rename_i l h' hl hh hmx;obtain ⟨⟨h1,h2⟩,⟨h3,h4,h5⟩,h6⟩:=h;obtain ⟨hu,hsz⟩:=gL (P:=P) (t:=t) (by omega);obtain ⟨A,cap,rfl,hc,hp⟩:=DV (l:=l.toNat) (h':=h'.toNat) hv.sl_inv (by omega) (by omega);have hmx':mx=none:=by cases mx<;>first|rfl|cases hmx
   subst hmx';refine ⟨_,_,h6,.tree (hp sz rfl),trivial,fun w'=>?_⟩;have hb:=gY (P:=P) (w:=w') (isS:=true) (cap:=cap) (m:=cap) (mx:=none) (pv (d:=0) he hl h3 rfl) (pv he hh (by omega) rfl) (.inl ⟨rfl,rfl⟩) (by omega) (by omega);have hs:=cB (P:=P) (t:=(a6 P t).1) (by omega) w';rw [hsz,h1] at hs;simp [Instr.sliceAt,Instr.slice,Sem.run_bind,run_underlying hu,hb,hs,sliced]
  .exact h.elim
 .rename_i s;unfold mB at h;split at h
  .rename_i l h' hl hh hmx;obtain ⟨h1,⟨h3,h4,h5⟩,h6⟩:=h;obtain rfl:=hv.c_inv
   have hu:P.underlying t=some .string:=by
    unfold tK at h1;split at h1<;>first|assumption|cases h1
   have hmx':mx=none:=by cases mx<;>first|rfl|cases hmx
   subst hmx';refine ⟨_,_,h6,.tree (.c _),trivial,fun w'=>?_⟩;have hb:=gY (P:=P) (w:=w') (isS:=false) (cap:=s.size) (m:=s.size) (mx:=none) (pv (d:=0) he hl h3 rfl) (pv he hh (by omega) rfl) (.inl ⟨rfl,rfl⟩) (by omega) (by omega);simp [Instr.sliceAt,Instr.slice,Sem.run_bind,run_underlying hu,hb]
  .exact h.elim
 .exact h.elim
theorem ww {f:Int -> Int -> Int} {args:Array Operand} {ev:Operand -> AV} {K:AV -> Prop} (h:HA f (args.toList.map ev) K):∃ x y k a k' b,args = #[x,y] /\ ev x=.c (.int k a) /\ ev y=.c (.int k' b) /\ K (.c (.int k (f a b))):=by
 obtain ⟨l⟩:=args;unfold HA at h;split at h
 .rename_i k a k' b hl
  cases l with
  | nil=>simp at hl
  | cons x l=>
   cases l with
   | nil=>simp at hl
   | cons y l=>
    cases l with
    | nil=>
     simp at hl;exact ⟨x,y,k,a,k',b,rfl,hl.1,hl.2,h⟩
    | cons z l=>simp at hl
 .exact h.elim
def fF:Op -> Bool
 | .load _ _=>true
 | _=>false
theorem iT {o:Oper} {ρ:Operand -> Value} {ev:Operand -> AV} (hL:fZ cx w tab L) (hy:∀ id o,tab.get id=some o -> o.lt nx) (he:∀ x,bn cx w tab L (ρ x) (ev x) /\ (ev x).lt nx) (h:bM P tab ev o.op K) :
  ∃ v av,K av /\ bn cx w tab L v av /\ av.lt nx /\ (∀ w',Below w.heap.size w w' -> (execOp ρ o).run P w'=.ok (.value v) w') /\ (fF o.op=false -> ∀ w',(execOp ρ o).run P w'=.ok (.value v) w') /\ (∀ t x,o.op=.load t x -> ∃ b,aG (ρ x)=some b /\ ∀ w',pI b w w' -> (execOp ρ o).run P w'=.ok (.value v) w'):=by
 have mk:fF o.op=false -> ∀ v av,K av -> bn cx w tab L v av -> av.lt nx -> (∀ w',(execOp ρ o).run P w'=.ok (.value v) w') -> ∃ v av,K av /\ bn cx w tab L v av /\ av.lt nx /\ (∀ w',Below w.heap.size w w' -> (execOp ρ o).run P w'=.ok (.value v) w') /\ (fF o.op=false -> ∀ w',(execOp ρ o).run P w'=.ok (.value v) w') /\ (∀ t x,o.op=.load t x -> ∃ b,aG (ρ x)=some b /\ ∀ w',pI b w w' -> (execOp ρ o).run P w'=.ok (.value v) w'):=
  fun hl v av h1 h2 h3 h4=>⟨v,av,h1,h2,h3,fun w' _=>h4 w',fun _ w'=>h4 w',fun t x he=>by rw [he] at hl;cases hl⟩
 have lift0:fF o.op=false -> ∀ s:Sem Value,iZ P cx w tab L nx K s -> (∀ w',(execOp ρ o).run P w'=(s.run P w').andThen fun v w''=>.ok (.value v) w'') -> ∃ v av,K av /\ bn cx w tab L v av /\ av.lt nx /\ (∀ w',Below w.heap.size w w' -> (execOp ρ o).run P w'=.ok (.value v) w') /\ (fF o.op=false -> ∀ w',(execOp ρ o).run P w'=.ok (.value v) w') /\ (∀ t x,o.op=.load t x -> ∃ b,aG (ρ x)=some b /\ ∀ w',pI b w w' -> (execOp ρ o).run P w'=.ok (.value v) w'):=by
  rintro hl s ⟨v,av,h1,h2,h3,h4⟩ hs;exact mk hl v av h1 h2 h3 fun w'=>(by rw [hs,h4 w'];rfl)
 obtain ⟨dst,op,ty,pos,aft,gd⟩:=o;simp only at h;unfold bM at h;split at h
 .rename_i x;exact mk rfl _ _ h (he x).1 (he x).2 fun w'=>by simp [execOp]
 .rename_i x;exact mk rfl _ _ h (he x).1 (he x).2 fun w'=>by simp [execOp]
 .rename_i c a b;have hc:=(he c).1;unfold Bz at h;split at h
  .rename_i t hcv;rw [hcv] at hc;have hc:=hc.c_inv;cases t
   .exact mk rfl _ _ h (he b).1 (he b).2 fun w'=>by simp [execOp,hc,asBool]
   .exact mk rfl _ _ h (he a).1 (he a).2 fun w'=>by simp [execOp,hc,asBool]
  .exact h.elim
 .rename_i t x;obtain ⟨u,av,h1,h2,h3,b,hb,h4⟩:=vO hL hy (he x).1 h;have h5:∀ w',pI b w w' -> (execOp ρ { dst:=dst,op:=.load t x,type:=ty,pos:=pos,after:=aft,guard:=gd }).run P w'=.ok (.value u) w':=fun w' hw'=>by simp [execOp,Sem.run_bind,h4 w' hw']
  refine ⟨u,av,h1,h2,h3,fun w' hw'=>h5 w' fun o v hv=>(hw'.cell (World.block_lt_of_cell? w _ hv)).trans hv,fun h0=>(by cases h0),fun t' x' he'=>?_⟩;cases he';exact ⟨b,hb,h5⟩
 .rename_i s x f;exact lift0 rfl _ (y6 (he x).2 (he x).1 h) fun w'=>by simp [execOp,Sem.run_bind]
 .rename_i t x ix;exact lift0 rfl _ (A8 hL (he x).2 (he x).1 (he ix).1 h) fun w'=>by simp [execOp,Sem.run_bind]
 .rename_i s x f;exact lift0 rfl _ (yo (he x).2 (he x).1 h) fun w'=>by simp [execOp,Sem.run_bind]
 .rename_i op t x y _;have hx:=(he x).1;have hy:=(he y).1;unfold qb at h;split at h
  .rename_i a b ha hb;rw [ha] at hx;rw [hb] at hy;have hx:=hx.c_inv;have hy:=hy.c_inv;split at h
   .rename_i v hv;refine lift0 rfl _ ⟨v,_,h,.tree (.c v),trivial,fun w'=>zo (x:=x) (y:=y) hv w'⟩ fun w'=>?_;simp [execOp,Sem.run_bind,hx,hy];cases (Sem.run P (eqGuard op t x y a b) w')<;>rfl
   .exact h.elim
  .rename_i xs ys ha hb;rw [ha] at hx;rw [hb] at hy;obtain ⟨as1,hx,hnx,hrx⟩:=hx.agg_inv;obtain ⟨bs1,hy,hny,hry⟩:=hy.agg_inv;unfold wF at h;split at h
   .rename_i vs us hvs hus;obtain rfl:=nH hvs hnx hrx;obtain rfl:=nH hus hny hry;obtain ⟨r,hr,h⟩:=h;refine lift0 rfl _ ⟨r,_,h,.tree (.c r),trivial,fun w'=>hr w' x y⟩ fun w'=>?_;simp [execOp,Sem.run_bind,hx,hy];cases (Sem.run P (eqGuard op t x y (.agg vs.toArray) (.agg us.toArray)) w')<;>rfl
   .exact h.elim
  .rename_i sz rows b ha hb;rw [ha] at hx;rw [hb] at hy;have hy:=hy.c_inv;obtain ⟨A,cap,hA,hc1,hc2,hc3,hc4⟩:=hx.sl_inv.sl_inv
   have hnil:A.isNone=true -> rows=[]:=fun h1=>by
    rcases KL rows.length with h2|h2
    .exact J5.1 h2
    .obtain ⟨b',o',h3,_⟩:=hc4 h2;rw [h3] at h1;cases h1
   unfold tr at h;split at h
   .have hk:tK P t=.slice:=(by assumption);have h:=h A.isNone hnil;refine lift0 rfl _ ⟨_,_,h,.tree (.c _),trivial,fun w'=>kR (x:=x) (y:=y) (A:=A) (n:=rows.length) (c:=cap) (n':=0) (c':=0) hk (.inl rfl) w'⟩ fun w'=>?_;simp [execOp,Sem.run_bind,hA,hy];cases (Sem.run P (eqGuard _ t x y (.slice A rows.length cap) (.slice none 0 0)) w')<;>rfl
   .have hk:tK P t=.slice:=(by assumption);have h:=h (!A.isNone) (fun h1=>hnil (by simpa using h1));refine lift0 rfl _ ⟨_,_,h,.tree (.c _),trivial,fun w'=>kR (x:=x) (y:=y) (A:=A) (n:=rows.length) (c:=cap) (n':=0) (c':=0) hk (.inr rfl) w'⟩ fun w'=>?_;simp [execOp,Sem.run_bind,hA,hy];cases (Sem.run P (eqGuard _ t x y (.slice A rows.length cap) (.slice none 0 0)) w')<;>rfl
   .exact h.elim
  .exact h.elim
 .rename_i op t x;have hx:=(he x).1;unfold EE at h;split at h
  .rename_i a ha;rw [ha] at hx;have hx:=hx.c_inv;split at h
   .rename_i v hv;exact lift0 rfl _ ⟨v,_,h,.tree (.c v),trivial,fun w'=>CM hv w'⟩ fun w'=>by simp [execOp,Sem.run_bind,hx]
   .exact h.elim
  .exact h.elim
 .rename_i x i;have hx:=(he x).1;have hl:=(he x).2;unfold gt at h;split at h
  .rename_i vs hvs;rw [hvs] at hx hl;obtain ⟨xs,hxe,hn,hr⟩:=hx.tup_inv;obtain ⟨hi,h⟩:=h;rw [IU hi,Ju] at h;have hi':i<xs.size:=(by omega);exact mk rfl xs[i] _ h (hr i _ _ (IX hi') (IU hi)) (ah.1 hl _ (IZ hi)) fun w'=>by simp [execOp,Sem.run_bind,hxe,Instr.extract,IX hi']
  .exact h.elim
 .rename_i s d x;have hx:=(he x).1;unfold wz at h;split at h
  .rename_i k0 k k1 n hs hd hxe;rw [hxe] at hx;have hx:=hx.c_inv
   have e1:P.underlying s=some (.int k0):=by
    unfold pc at hs;split at hs<;>simp_all
   have e2:P.underlying d=some (.int k):=by
    unfold pc at hd;split at hd<;>simp_all
   refine lift0 rfl _ ⟨_,_,h,.tree (.c _),trivial,fun w'=>?_⟩ fun w'=>by simp [execOp,Sem.run_bind];rfl
   rw [hx];simp [convert,Sem.run_bind,run_underlying e1,run_underlying e2,Conv.intToInt]
  .exact h.elim
 .rename_i c;obtain ⟨callee,args,argTypes⟩:=c;simp only at h;split at h
  .split at h
   .rename_i x t h1 h2;obtain rfl:args = #[x]:=by cases args;simp_all
    obtain rfl:argTypes = #[t]:=by cases argTypes;simp_all
    exact lift0 rfl _ (Hs (ty:=ty) hL (he x).1 h) fun w'=>by simp [execOp,Sem.run_bind,resolve,invoke,builtin]
   .exact h.elim
  .obtain ⟨x,y,k,a,k',b,rfl,h1,h2,h3⟩:=ww h;have hx:=(he x).1;have hy:=(he y).1;rw [h1] at hx;rw [h2] at hy;have hx:=hx.c_inv;have hy:=hy.c_inv;refine lift0 rfl (pure (.int k (max a b))) ⟨_,_,h3,.tree (.c _),trivial,fun w'=>rfl⟩ fun w'=>?_;have hm:(if b > a then b else a)=max a b:=by rw [Int.max_def];split<;>split<;>omega
   simp [execOp,Sem.run_bind,resolve,invoke,builtin,Builtin.max_,Builtin.max2,hx,hy,hm]
  .obtain ⟨x,y,k,a,k',b,rfl,h1,h2,h3⟩:=ww h;have hx:=(he x).1;have hy:=(he y).1;rw [h1] at hx;rw [h2] at hy;have hx:=hx.c_inv;have hy:=hy.c_inv;refine lift0 rfl (pure (.int k (min a b))) ⟨_,_,h3,.tree (.c _),trivial,fun w'=>rfl⟩ fun w'=>?_;have hm:(if b<a then b else a)=min a b:=by rw [Int.min_def];split<;>split<;>omega
   simp [execOp,Sem.run_bind,resolve,invoke,builtin,Builtin.min_,Builtin.min2,hx,hy,hm]
  .exact h.elim
 .rename_i f first caps
  rcases h with h|h
  rotate_left
  .unfold zp at h;split at h
   .rename_i g hb
    obtain rfl:caps = #[]:=by
     rw [I2] at hb;simpa using hb.1
    refine mk rfl (.func (.func g) (first.map ρ) #[]) _ h (.bfn g _ _ (by simp) fun j x av h1 h2=>?_) (ah.2 fun a ha=>?_) fun w'=>by simp [execOp,Sem.run_bind,Instr.makeFunc]
    .rw [IW] at h2;rw [Array.getElem?_map] at h1
     cases hj:first[j]? with
     | none=>simp [hj] at h1
     | some x=>
      rw [JT] at h2;simp [hj] at h1 h2;subst h1;subst h2;exact (he x).1
    .obtain ⟨x,_,rfl⟩:=I7.1 ha;exact (he x).2
   .exact h.elim
  unfold Gf at h;split at h
  .rename_i g hb;obtain rfl:first = #[]:=by simpa using hb
   refine mk rfl (.func (.func g) #[] (caps.map ρ)) _ h (.fn g _ _ (by simp) fun j x av h1 h2=>?_) (ah.2 fun a ha=>?_) fun w'=>by simp [execOp,Sem.run_bind,Instr.makeFunc]
   .rw [IW] at h2;rw [Array.getElem?_map] at h1
    cases hj:caps[j]? with
    | none=>simp [hj] at h1
    | some x=>
     rw [JT] at h2;simp [hj] at h1 h2;subst h1;subst h2;exact (he x).1
   .obtain ⟨x,_,rfl⟩:=I7.1 ha;exact (he x).2
  .exact h.elim
 .rename_i t x lo hi mx;exact lift0 rfl _ (zJ (fun x=>(he x).1) (he x).1 h) fun w'=>by simp [execOp,Sem.run_bind]
 .rename_i x;have hx:=he x;unfold Ag at h;split at h
  .rename_i cs hxe;rw [hxe] at hx;obtain ⟨b,o,U,hv,_⟩:=hx.1.rp_inv;exact mk rfl (ρ x) _ h hx.1 hx.2 fun w'=>by simp [execOp,hv]
  .rename_i id i j hxe;rw [hxe] at hx;split at h
   .rename_i ob hid;obtain ⟨g,hg,hv⟩:=hx.1.op_inv _ _ (bZ hid);exact mk rfl (ρ x) _ h hx.1 hx.2 fun w'=>by simp [execOp,hv]
   .exact h.elim
  .exact h.elim
 .exact h.elim
end
end
section
section
variable {P:Program} {cx:Cx} {w w':World} {tab tab':ag} {L L':Nat -> Value} {nx:Nat}
structure iu (cx:Cx) (w:World) (tab:ag) (L:Nat -> Value) (nx:Nat) (w':World) (tab':ag) (L':Nat -> Value):Prop where
 blk:∀ b,Sx cx w tab L b -> w'.heap[b]? = w.heap[b]?
 sub:∀ b,Sx cx w tab L b -> Sx cx w' tab' L' b
 loc:∀ id p,id<nx -> Kx tab' L' id=some p -> Kx tab L id=some p
theorem iu.cell (h:iu cx w tab L nx w' tab' L'):∀ p:Addr,Sx cx w tab L p.block -> w'.cell? p=w.cell? p:=fun p hp=>World.cell?_of_block (h.blk p.block hp)
theorem iu.rv (h:iu cx w tab L nx w' tab' L') {x:Value} {av:AV} (hr:bn cx w tab L x av) (hl:av.lt nx):bn cx w' tab' L' x av:=hr.mono hl h.cell h.sub h.loc
theorem iu.rt (h:iu cx w tab L nx w' tab' L') {x:Value} {av:AV} (hr:RT w (Sx cx w tab L) x av):RT w' (Sx cx w' tab' L') x av:=hr.mono h.cell h.sub
theorem iu.obj (h:iu cx w tab L nx w' tab' L') {v:Value} {o:aE} (hr:eG cx w tab L v o) (hl:o.lt nx) (hg:∀ g,aG v=some g -> w'.heap[g]? = w.heap[g]?):eG cx w' tab' L' v o:=by
 cases o with
 | box t cells=>
  obtain ⟨g,cs,rfl,hb,hh,hn,hx⟩:=hr;exact ⟨g,cs,rfl,hb,(hg g rfl).trans hh,hn,fun j x av h1 h2=>⟨h.rv (hx j x av h1 h2).1 (ah.1 hl _ (p0 h2)),(hx j x av h1 h2).2⟩⟩
 | row e sz rows=>
  obtain ⟨h1,xs,hown,h2,h3⟩:=hr;refine ⟨h1,xs,⟨hown.1,?_⟩,h2,fun i j row av ha hb=>?_⟩
  .rcases hown.2 with hn | ⟨g,cap,cur,rfl,hb,hh,rest⟩
   .exact .inl hn
   .exact .inr ⟨g,cap,cur,rfl,hb,(hg g rfl).trans hh,rest⟩
  .obtain ⟨x,hx,hr⟩:=h3 i j row av ha hb;exact ⟨x,hx,h.rt hr⟩
 | nest e sz rows=>
  obtain ⟨h1,xs,hown,h2,h3⟩:=hr;refine ⟨h1,xs,⟨hown.1,?_⟩,h2,fun i j row av ha hb=>?_⟩
  .rcases hown.2 with hn | ⟨g,cap,cur,rfl,hb,hh,rest⟩
   .exact .inl hn
   .exact .inr ⟨g,cap,cur,rfl,hb,(hg g rfl).trans hh,rest⟩
  .obtain ⟨x,hx,hr⟩:=h3 i j row av ha hb;exact ⟨x,hx,h.rv hr (ah.1 (hl row (p0 ha)) _ (p0 hb))⟩
 | map ents=>
  obtain ⟨g,es,ck,rfl,hb,hh,he⟩:=hr;exact ⟨g,es,ck,rfl,hb,(hg g rfl).trans hh,he⟩
 | ghost vs env=>exact ⟨hr.1,fun t ht=>h.rv (hr.2 t ht) (fB hl t)⟩
theorem eG.ge {v:Value} {o:aE} (h:eG cx w tab L v o) {g:Nat} (hg:aG v=some g):cx.w0.heap.size<=g /\ g<w.heap.size:=by
 cases o with
 | box t cells=>
  obtain ⟨g',cs,rfl,hb,hh,_⟩:=h;simp [aG] at hg;subst hg;exact ⟨hb,(Jj.1 hh).1⟩
 | row e sz rows=>
  obtain ⟨_,xs,hown,_⟩:=h;rcases hown.2 with ⟨rfl,_⟩|⟨g',cap,cur,rfl,hb,hh,_⟩
  .simp [aG] at hg
  .simp [aG] at hg;subst hg;exact ⟨hb,(Jj.1 hh).1⟩
 | nest e sz rows=>
  obtain ⟨_,xs,hown,_⟩:=h;rcases hown.2 with ⟨rfl,_⟩|⟨g',cap,cur,rfl,hb,hh,_⟩
  .simp [aG] at hg
  .simp [aG] at hg;subst hg;exact ⟨hb,(Jj.1 hh).1⟩
 | map ents=>
  obtain ⟨b,es,ck,rfl,hb,hh,_⟩:=h;simp [aG] at hg;subst hg;exact ⟨hb,(Jj.1 hh).1⟩
 | ghost vs env=>
  obtain ⟨rfl,_⟩:=h;simp [aG] at hg
theorem ft (hb:Below w.heap.size w w') (hold:∀ id,id<nx -> tab'.get id=tab.get id /\ L' id=L id) (hy:∀ id o,tab.get id=some o -> id<nx)
  (hnew:∀ id o g,nx<=id -> tab'.get id=some o -> aG (L' id)=some g -> w.heap.size<=g):iu cx w tab L nx w' tab' L' where
 blk b hp:=hb.block b hp.1
 sub b h:=⟨I1 h.1 hb.size,h.2.1,fun id o hid hg=>by
  rcases Jk id nx with hlt|hge
  .rw [(hold id hlt).2] at hg;rw [(hold id hlt).1] at hid;exact h.2.2 id o hid hg
  .have:=hnew id o b hge hid hg;have:=h.1;omega⟩
 loc id p hlt h:=by
  unfold Kx at *;rw [(hold id hlt).1,(hold id hlt).2] at h;exact h
theorem dh.grown {X:Nat -> Prop} {n:Nat} {a b c:World} {row:Option Nat} (h:dh X n a b) (hg:b.grownBy c row) (hn:n<=b.heap.size) (hr:∀ k,row=some k -> n<=k):dh X n a c:=h.trans (jR ((Below.refl n b).grown hg hn hr))
theorem pe (hL:fZ cx w tab L) (hs:w.heap.size<=w'.heap.size) (hy:∀ id o g,tab'.get id=some o -> aG (L' id)=some g -> g<w.heap.size -> ∃ id2 o2,tab.get id2=some o2 /\ aG (L id2)=some g) :
  ∀ b,cx.X b -> b<w'.heap.size /\ ∀ id o,tab'.get id=some o -> aG (L' id) ≠ some b:=fun b hb=>
 ⟨I1 (hL.ex b hb).1 hs,fun id o hid hg=>by
  obtain ⟨id2,o2,h1,h2⟩:=hy id o b hid hg (hL.ex b hb).1;exact (hL.ex b hb).2 id2 o2 h1 h2⟩
theorem i7 (hL:fZ cx w tab L) (hy:∀ id o,tab.get id=some o -> id<nx /\ o.lt nx) (hb:Below w.heap.size w w') (hold:∀ id,id<nx -> tab'.get id=tab.get id /\ L' id=L id)
  (hobj:∀ id o,nx<=id -> tab'.get id=some o -> eG cx w' tab' L' (L' id) o) (hnew:∀ id o g,nx<=id -> tab'.get id=some o -> aG (L' id)=some g -> w.heap.size<=g)
  (hsep:∀ id id' o o' g,nx<=id -> nx<=id' -> tab'.get id=some o -> tab'.get id'=some o' -> aG (L' id)=some g -> aG (L' id')=some g -> id=id'):fZ cx w' tab' L':=by
 have hext:iu cx w tab L nx w' tab' L':=ft hb hold (fun id o h=>(hy id o h).1) hnew;refine ⟨hL.below.trans (jR (hb.mono hL.below.size)),fun id o hid=>?_,fun id id' o o' g h1 h2 h3 h4=>?_,fun b hb'=>⟨I1 (hL.ex b hb').1 hb.size,fun id o hid hg=>?_⟩⟩
 rotate_left 2
 .rcases Jk id nx with hlt | hge
  .rw [(hold id hlt).1] at hid;rw [(hold id hlt).2] at hg;exact (hL.ex b hb').2 id o hid hg
  .have:=hnew id o b hge hid hg;have:=(hL.ex b hb').1;omega
 .rcases Jk id nx with hlt | hge
  .rw [(hold id hlt).1] at hid;rw [(hold id hlt).2];have ho:=hL.objs id o hid;exact hext.obj ho (hy id o hid).2 fun g hg=>hb.block g (ho.ge hg).2
  .exact hobj id o hge hid
 .rcases Jk id nx with hlt | hge<;>rcases Jk id' nx with hlt' | hge'
  .rw [(hold id hlt).1] at h1;rw [(hold id' hlt').1] at h2;rw [(hold id hlt).2] at h3;rw [(hold id' hlt').2] at h4;exact hL.sep id id' o o' g h1 h2 h3 h4
  .rw [(hold id hlt).1] at h1;rw [(hold id hlt).2] at h3;have:=(hL.objs id o h1).ge h3;have:=hnew id' o' g hge' h2 h4;omega
  .rw [(hold id' hlt').1] at h2;rw [(hold id' hlt').2] at h4;have:=(hL.objs id' o' h2).ge h4;have:=hnew id o g hge h1 h3;omega
  .exact hsep id id' o o' g hge hge' h1 h2 h3 h4
end
structure Fr (cx:Cx) (w:World) (tab:ag) (L:Nat -> Value) (nx:Nat) (w':World) (tab':ag) (L':Nat -> Value) (nx':Nat):Prop where
 ext:iu cx w tab L nx w' tab' L'
 size:w.heap.size<=w'.heap.size
 keep:∀ k,k<w.heap.size -> (∀ id o,tab.get id=some o -> aG (L id) ≠ some k) -> w'.heap[k]? = w.heap[k]?
 young:∀ id o g,tab'.get id=some o -> aG (L' id)=some g -> g<w.heap.size -> ∃ id2 o2,tab.get id2=some o2 /\ aG (L id2)=some g
 next:nx<=nx'
structure Fz (w:World) (tab:ag) (L:Nat -> Value) (w':World) (tab':ag) (L':Nat -> Value):Prop where
 size:w.heap.size<=w'.heap.size
 keep:∀ k,k<w.heap.size -> (∀ id o,tab.get id=some o -> aG (L id) ≠ some k) -> w'.heap[k]? = w.heap[k]?
 young:∀ id o g,tab'.get id=some o -> aG (L' id)=some g -> g<w.heap.size -> ∃ id2 o2,tab.get id2=some o2 /\ aG (L id2)=some g
def bc (L:Nat -> Value) (id:Nat) (v:Value):Nat -> Value:=fun k=>if k=id then v else L k
section
variable {P:Program} {cx:Cx} {a:Act} {w w':World} {st:ai} {L L':Nat -> Value}
theorem ar (h:aH cx a w st L) (x:Operand):bn cx w st.tab L (a.eval x) (aU st x) /\ (aU st x).lt st.next:=by
 cases x with
 | tmp t=>exact h.env t
 | const v=>exact ⟨.tree (.c v),trivial⟩
 | global g=>exact ⟨.tree (.any _),trivial⟩
 | func f=>exact ⟨.tree (.c _),trivial⟩
theorem vQ {dst:Option Nat} {av:AV} (t:Nat):(st.put dst av).get t=match dst with | some d=>if d<st.n /\ t=d then av else st.get t | none=>st.get t:=by
 cases dst with
 | none=>rfl
 | some d=>
  unfold ai.put ai.get;simp only [a7];by_cases ht:t=d
  .subst ht;by_cases hd:t<st.n<;>simp [hd]
  .simp [ht]
theorem dm (h:aH cx a w st L) {tab':ag} {nx':Nat} {L':Nat -> Value} (hL:fZ cx w' tab' L') (hx:iu cx w st.tab L st.next w' tab' L') (hn:st.next<=nx') (hy:∀ id o,tab'.get id=some o -> id<nx' /\ o.lt nx')
  {v:Value} {av:AV} (hv:bn cx w' tab' L' v av) (hl:av.lt nx') (dst:Option Nat):aH cx (a.put dst v) w' ({ st with tab:=tab',next:=nx' }.put dst av) L':=by
 have hdef:(a.put dst v).defers=a.defers:=by
  cases dst<;>rfl
 have hsz:(a.put dst v).tmps.size=st.n:=by
  cases dst
  .exact h.size
  .simp [Act.put,h.size]
 have e1:({ st with tab:=tab',next:=nx' }.put dst av).tab=tab':=by
  cases dst<;>simp only [ai.put]
 have e2:({ st with tab:=tab',next:=nx' }.put dst av).next=nx':=by
  cases dst<;>simp only [ai.put]
 have e3:({ st with tab:=tab',next:=nx' }.put dst av).n=st.n:=by
  cases dst<;>simp only [ai.put]
 refine ⟨by rw [e1];exact hL,by rw [e3];exact hsz,by rw [e1,hdef];exact h.defers.mono hx.blk hx.sub,by rw [e1,e2];exact hy,fun t=>?_⟩;rw [e1,e2,vQ];have hold:=h.env t;have old:bn cx w' tab' L' (a.tmps.getD t undef) (st.get t) /\ (st.get t).lt nx':=⟨hx.rv hold.1 hold.2,AV.lt_mono hn hold.2⟩
 cases dst with
 | none=>exact old
 | some d=>
  simp only [Act.put];by_cases hd:d<st.n /\ t=d
  .rw [I8 hd];obtain ⟨hd,rfl⟩:=hd;have:t<a.tmps.size:=by rw [h.size];exact hd
   simp only [Kj,Array.getElem?_setIfInBounds_self_of_lt this,Ju];exact ⟨hv,hl⟩
  .rw [I4 hd]
   have e:(a.tmps.setIfInBounds d v).getD t undef=a.tmps.getD t undef:=by
    by_cases hdt:d=t
    .subst hdt;have:¬ d<a.tmps.size:=by rw [h.size];simpa using hd
     rw [Array.setIfInBounds_eq_of_size_le (by omega)]
    .simp [Kj,Array.getElem?_setIfInBounds_ne hdt]
   rw [e];exact old
theorem iu.refl (w:World) (tab:ag) (L:Nat -> Value) (nx:Nat):iu cx w tab L nx w tab L:=⟨fun _ _=>rfl,fun _ h=>h,fun _ _ _ h=>h⟩
theorem bd (h:aH cx a w st L) {v:Value} {av:AV} (hv:bn cx w st.tab L v av) (hl:av.lt st.next) (dst:Option Nat):aH cx (a.put dst v) w (st.put dst av) L:=
 dm (tab':=st.tab) (nx':=st.next) (L':=L) h h.lay (iu.refl ..) (I6 _) h.young hv hl dst
theorem gm (h:aH cx a w st L) (hb:Below w.heap.size w w') {v:Value} {ob:aE} (hnew:∀ g,aG v=some g -> w.heap.size<=g) (hob:iu cx w st.tab L st.next w' ((st.next,some ob) :: st.tab) (bc L st.next v) -> eG cx w' ((st.next,some ob) :: st.tab) (bc L st.next v) v ob)
  (hlt:ob.lt (st.next+1)) {x:Value} {av:AV} (hv:iu cx w st.tab L st.next w' ((st.next,some ob) :: st.tab) (bc L st.next v) -> bn cx w' ((st.next,some ob) :: st.tab) (bc L st.next v) x av) (hl:av.lt (st.next+1)) (dst:Option Nat) :
  aH cx (a.put dst x) w' ({ st with tab:=(st.next,some ob) :: st.tab,next:=st.next+1 }.put dst av) (bc L st.next v):=by
 have hold:∀ id,id<st.next -> ag.get ((st.next,some ob) :: st.tab) id=st.tab.get id /\ bc L st.next v id=L id:=fun id hid=>by
  unfold bc;rw [ag.gc,I4 (by omega),I4 (by omega)];exact ⟨rfl,rfl⟩
 have hge:∀ id o,st.next<=id -> ag.get ((st.next,some ob) :: st.tab) id=some o -> id=st.next /\ o=ob:=fun id o hid hg=>by
  rw [ag.gc] at hg;split at hg
  .rename_i e;cases hg;exact ⟨e,rfl⟩
  .have:=(h.young id o hg).1;omega
 have hup:bc L st.next v st.next=v:=by simp [bc]
 have hnew':∀ id o g,st.next<=id -> ag.get ((st.next,some ob) :: st.tab) id=some o -> aG (bc L st.next v id)=some g -> w.heap.size<=g:=fun id o g h1 h2 h3=>by
  obtain ⟨rfl,_⟩:=hge id o h1 h2;rw [hup] at h3;exact hnew g h3
 have hext:=ft (cx:=cx) hb hold (fun id o hid=>(h.young id o hid).1) hnew';refine dm h (i7 h.lay h.young hb hold (fun id o h1 h2=>?_) hnew' fun id id' o o' g h1 h2 h3 h4 _ _=>?_) hext (by omega) (fun id o hg=>?_) (hv hext) hl dst
 .obtain ⟨rfl,rfl⟩:=hge id o h1 h2;rw [hup];exact hob hext
 .rw [(hge id o h1 h3).1,(hge id' o' h2 h4).1]
 .rcases Jk id st.next with hlt' | hge'
  .rw [(hold id hlt').1] at hg;have:=h.young id o hg;refine ⟨by omega,?_⟩
   cases o with
   | box t cells=>exact ah.2 fun x hx=>AV.lt_mono (JF _) (ah.1 this.2 x hx)
   | row=>trivial
   | map=>trivial
   | nest e sz rows=>exact fun row hr=>ah.2 fun x hx=>AV.lt_mono (JF _) (ah.1 (this.2 row hr) x hx)
   | ghost vs env=>exact cX (JF _) this.2
  .obtain ⟨rfl,rfl⟩:=hge id o hge' hg;exact ⟨by omega,hlt⟩
end
end
section
def mR (tab:ag):AV -> Prop
 | .c v=>v.oneCell'=true
 | .sl _ _=>True
 | .rp _=>True
 | .osl id=>(tab.get id).isSome=true
 | .op id _ _=>(tab.get id).isSome=true
 | .fn _ _=>True
 | .bfn _ _=>True
 | _=>False
def cH (tab:ag):List AV -> Prop
 | []=>True
 | a :: l=>mR tab a /\ cH tab l
def aj:AV -> List AV
 | .agg cs=>cs
 | .c v=>v.cells.toList.map .c
 | av=>[av]
theorem ji {tab:ag}:∀ {l:List AV},cH tab l ↔ ∀ a ∈ l,mR tab a
 | []=>by simp [cH]
 | a :: l=>by simp [cH,ji (l:=l)]
section
variable {P:Program} {cx:Cx} {a:Act} {w w':World} {tab:ag} {st:ai} {L:Nat -> Value} {nx:Nat}
theorem Cw {v:Value} {o:aE} (h:eG cx w tab L v o):v.oneCell'=true /\ v.cells = #[v]:=by
 cases o with
 | box t cells=>
  obtain ⟨g,cs,rfl,_⟩:=h;exact ⟨rfl,rfl⟩
 | row e sz rows=>
  obtain ⟨_,xs,hown,_⟩:=h;rcases hown.2 with ⟨rfl,_⟩|⟨g,cap,cur,rfl,_⟩<;>exact ⟨rfl,rfl⟩
 | nest e sz rows=>
  obtain ⟨_,xs,hown,_⟩:=h;rcases hown.2 with ⟨rfl,_⟩|⟨g,cap,cur,rfl,_⟩<;>exact ⟨rfl,rfl⟩
 | map ents=>
  obtain ⟨b,es,ck,rfl,_⟩:=h;exact ⟨rfl,rfl⟩
 | ghost vs env=>
  obtain ⟨rfl,_⟩:=h;exact ⟨rfl,rfl⟩
theorem vK (hL:fZ cx w tab L) {x:Value} {av:AV} (hv:bn cx w tab L x av) (h:mR tab av):x.oneCell'=true /\ x.cells = #[x]:=by
 cases av with
 | any=>exact h.elim
 | c v=>
  obtain rfl:=hv.c_inv;refine ⟨h,?_⟩;cases x<;>first|rfl|cases h
 | sl sz rows=>
  obtain ⟨A,cap,rfl,_⟩:=hv.sl_inv.sl_inv;exact ⟨rfl,rfl⟩
 | rp cs=>
  obtain ⟨b,o,U,rfl,_⟩:=hv.rp_inv;exact ⟨rfl,rfl⟩
 | osl id=>
  obtain ⟨o,ho⟩:=J3.1 h;rw [hv.osl_inv _ _ (bZ ho)];exact Cw (hL.objs id o ho)
 | op id i j=>
  obtain ⟨o,ho⟩:=J3.1 h;obtain ⟨g,_,rfl⟩:=hv.op_inv _ _ (bZ ho);exact ⟨rfl,rfl⟩
 | agg=>exact h.elim
 | tup=>exact h.elim
 | fn f cs=>
  obtain ⟨xs,rfl,_⟩:=hv.fn_inv;exact ⟨rfl,rfl⟩
 | bfn f cs=>
  obtain ⟨xs,rfl,_⟩:=hv.bfn_inv;exact ⟨rfl,rfl⟩
theorem eC (hL:fZ cx w tab L) {v:Value} {av:AV} (hv:bn cx w tab L v av) (hl:av.lt nx) (h:cH tab (aj av)) :
    v.cells.size=(aj av).length /\ AV.ltL nx (aj av) /\ ∀ (j:Nat) (x:Value) (a:AV),v.cells[j]? = some x -> (aj av)[j]? = some a -> bn cx w tab L x a /\ x.oneCell'=true:=by
  cases av with
  | agg cs=>
    obtain ⟨xs,rfl,hn,hr⟩:=hv.agg_inv;exact ⟨hn,hl,fun j x a h1 h2=>⟨hr j x a h1 h2,(vK hL (hr j x a h1 h2) (ji.1 h a (p0 h2))).1⟩⟩
  | c v'=>
    obtain rfl:=hv.c_inv;refine ⟨by simp [aj],ah.2 fun a ha=>?_,fun j x a h1 h2=>?_⟩
    . simp [aj] at ha;obtain ⟨y,_,rfl⟩:=ha;trivial
    . have h3:=h2;simp only [aj,IW,JT,h1,JV,KD] at h2;subst h2;exact ⟨.tree (.c x),ji.1 h _ (p0 h3)⟩
  | _=>
    first
    | (have h1:=vK hL hv h.1
       simp only [aj];refine ⟨by simp [h1.2],⟨hl,trivial⟩,fun j x a h2 h3=>?_⟩;rw [h1.2] at h2
       cases j with
       | zero=>
         simp at h2 h3;subst h2;subst h3;exact ⟨hv,h1.1⟩
       | succ j=>simp at h2)
    | exact h.1.elim
theorem pZ {t:TypeId} {v:Value} {av:AV} (h:aH cx a w st L) (hv:bn cx w st.tab L v av) (hl:av.lt st.next) (h1:cH st.tab (aj av)) (dst:Option Nat) :
  (Instr.box t v).run P w=.ok (.pointer (some ⟨w.heap.size,0,none⟩)) (w.alloc (.cells v.cells t)) /\
  aH cx (a.put dst (.pointer (some ⟨w.heap.size,0,none⟩))) (w.alloc (.cells v.cells t)) ({ st with tab:=(st.next,some (.box t (aj av))) :: st.tab,next:=st.next+1 }.put dst (.op st.next 0 0)) (bc L st.next (.pointer (some ⟨w.heap.size,0,none⟩))):=by
 obtain ⟨hn,hlt,hc⟩:=eC h.lay hv hl h1;refine ⟨by simp [Instr.box,newVar,newRow],gm h ((Below.refl _ _).alloc (I6 _) _) (fun g hg=>?_) (fun hx=>?_) ?_ (fun hx=>?_) ?_ dst⟩
 .simp [aG] at hg;omega
 .refine ⟨w.heap.size,v.cells,rfl,h.lay.below.size,heap_alloc_new w _,hn,fun j x av' h2 h3=>⟨hx.rv (hc j x av' h2 h3).1 (ah.1 hlt _ (p0 h3)),(hc j x av' h2 h3).2⟩⟩
 .exact ah.2 fun x hx=>AV.lt_mono (JF _) (ah.1 hlt x hx)
 .refine .op _ _ _ _ fun sz u hk=>?_;simp [Kx,ag.gc,bc] at hk;obtain ⟨_,rfl⟩:=hk;exact ⟨w.heap.size,rfl,by simp⟩
 .exact JQ _
def bu (P:Program) (t:TypeId):Option Value:=(P.info? t).bind (·.zero)
theorem rC {t:TypeId} {z:Value} (h:bu P t=some z) (w:World):(zeroValue t).run P w=.ok z w:=by
 unfold bu at h
 cases hi:P.info? t with
 | none=>simp [hi] at h
 | some i=>
  have hz:i.zero=some z:=by simpa [hi] using h
  simp [zeroValue,typeInfo,hi,hz]
theorem pa {t:TypeId} {z:Value} (h:bu P t=some z) (w:World):(Instr.alloc t true (.tuple #[])).run P w=(Instr.box t z).run P w:=by
 simp [Instr.alloc,Sem.run_bind,rC h,Instr.box]
theorem Dt {tab':ag} {o o':aE} {id g:Nat} (hid:tab.get id=some o) (hg:aG (L id)=some g) (hsz:o'.sz=o.sz) (ht:∀ k,tab'.get k=if k=id then some o' else tab.get k)
  (hb:∀ k,k ≠ g -> w'.heap[k]? = w.heap[k]?) (hs:w'.heap.size=w.heap.size):iu cx w tab L nx w' tab' L where
 blk p hp:=hb p fun e=>hp.2.2 id o hid (by rw [hg,e])
 sub b h:=⟨by rw [hs];exact h.1,h.2.1,fun k ok hk=>by
  rw [ht] at hk;split at hk
  .rename_i e;subst e;exact h.2.2 _ o hid
  .exact h.2.2 k ok hk⟩
 loc k p hlt h:=by
  unfold Kx at *;rw [ht] at h;split at h
  .rename_i e;subst e;rw [hid];simpa [hsz] using h
  .exact h
theorem kU (h:aH cx a w st L) {o o':aE} {id g:Nat} (hid:st.tab.get id=some o) (hg:aG (L id)=some g) (hsz:o'.sz=o.sz) (hb:∀ k,k ≠ g -> w'.heap[k]? = w.heap[k]?) (hbel:dh cx.X cx.w0.heap.size cx.w0 w') (hs:w'.heap.size=w.heap.size)
  (hob:iu cx w st.tab L st.next w' ((id,some o') :: st.tab) L -> eG cx w' ((id,some o') :: st.tab) L (L id) o') (hlt:o'.lt st.next) (dst:Option Nat):aH cx (a.put dst undef) w' ({ st with tab:=(id,some o') :: st.tab }.put dst .any) L:=by
 have ht:∀ k,ag.get ((id,some o') :: st.tab) k=if k=id then some o' else st.tab.get k:=fun k=>ag.gc ..;have hext:iu cx w st.tab L st.next w' ((id,some o') :: st.tab) L:=Dt hid hg hsz ht hb hs;have hy:=h.young id o hid
 have hex:∀ id2 o2 g,ag.get ((id,some o') :: st.tab) id2=some o2 -> aG (L id2)=some g -> g<w.heap.size -> ∃ id3 o3,st.tab.get id3=some o3 /\ aG (L id3)=some g:=fun k ok g hk hg' _=>by
  rw [ht] at hk;split at hk
  .rename_i e;exact ⟨k,o,by rw [e];exact hid,hg'⟩
  .exact ⟨k,ok,hk,hg'⟩
 refine dm (nx':=st.next) (L':=L) h ⟨hbel,fun k ok hk=>?_,fun k k' ok ok' g' h1 h2 h3 h4=>?_,pe h.lay (by omega) hex⟩ hext (I6 _) (fun k ok hk=>?_) (.tree (.any _)) trivial dst
 .rw [ht] at hk;split at hk
  .rename_i e;subst e;cases hk;exact hob hext
  .rename_i hne
   exact hext.obj (h.lay.objs k ok hk) (h.young k ok hk).2 fun g' hg'=>hb g' fun e=>by
    subst e;exact hne (h.lay.sep k id ok o _ hk hid hg' hg)
 .have:∀ k ok,ag.get ((id,some o') :: st.tab) k=some ok -> ∃ ok',st.tab.get k=some ok':=fun k ok hk=>by
   rw [ht] at hk;split at hk
   .rename_i e;exact ⟨o,by rw [e];exact hid⟩
   .exact ⟨ok,hk⟩
  obtain ⟨o1,ho1⟩:=this k ok h1;obtain ⟨o2,ho2⟩:=this k' ok' h2;exact h.lay.sep k k' o1 o2 g' ho1 ho2 h3 h4
 .rw [ht] at hk;split at hk
  .rename_i e;cases hk;exact ⟨by rw [e];exact hy.1,hlt⟩
  .exact h.young k ok hk
theorem gV {t:TypeId} {v:Value} {g o:Nat} {cur:Array Value} {e:TypeId} (h0:0<al P t) (hs:v.cells.size=al P t) (hg:w.heap[g]? = some (.cells cur e (0,0))) (ho:o+al P t<=cur.size) (h1:∀ x ∈ v.cells,x.oneCell'=true) :
  (Instr.storeAt t (.pointer (some ⟨g,o,none⟩)) v).run P w=.ok () (w.setRow g (cur.toList.take o ++ v.cells.toList ++ cur.toList.drop (o+al P t)).toArray):=by
 have:=run_storeCells_at P g o e v.cells.toList 0 cur w hg (by simp [hs];omega) (by simpa using h1);simp [hs] at this;simp [Instr.storeAt,Instr.sureAddr,storeVar,Sem.run_bind,cB h0,hs,this]
theorem cF {α:Type} (l:List α) (o:Nat) (vs:List α) (h:o+vs.length<=l.length) (j:Nat):(l.take o ++ vs ++ l.drop (o+vs.length))[j]? = if o<=j /\ j<o+vs.length then vs[j - o]? else l[j]?:=by
 have ht:(l.take o).length=o:=by rw [Jf];omega
 rw [JJ];by_cases h1:j<o
 .rw [I4 (by omega),JD (by omega),JC,I8 h1]
 .rw [JG (by omega),ht];by_cases h2:j<o+vs.length
  .rw [I8 ⟨by omega,h2⟩,JD (by omega)]
  .rw [I4 (by omega),JG (by omega),Jy]
   congr 1
   omega
theorem kD {t ty:TypeId} {p v:Value} {id j:Nat} {cells:List AV} {av:AV} (h:aH cx a w st L) (hp:bn cx w st.tab L p (.op id 0 j)) (hid:st.tab.get id=some (.box ty cells)) (hv:bn cx w st.tab L v av) (hl:av.lt st.next)
  (h0:0<al P t) (hs:(aj av).length=al P t) (ho:j+al P t<=cells.length) (h1:cH st.tab (aj av)) (dst:Option Nat) :
  ∃ w',(Instr.storeAt t p v).run P w=.ok () w' /\ aH cx (a.put dst undef) w' ({ st with tab:=(id,some (.box ty (cells.take j ++ aj av ++ cells.drop (j+al P t)))) :: st.tab }.put dst .any) L /\
   w'.heap.size=w.heap.size /\ ∀ k,aG (L id) ≠ some k -> w'.heap[k]? = w.heap[k]?:=by
 obtain ⟨hn,hlt,hc⟩:=eC h.lay hv hl h1;obtain ⟨g,hg,rfl⟩:=hp.op_inv _ _ (bZ hid);have hob:=h.lay.objs id _ hid;obtain ⟨g',cs,hL,hbg,hheap,hcs,hx⟩:=hob
 have hgg:g=g':=by
  rw [hL] at hg;simpa [aG] using hg.symm
 subst hgg;simp only [KK,Kl];refine ⟨_,gV h0 (by omega) hheap (by omega) (fun x hx'=>?_),?_,by simp,fun k hk=>setRow_other w g k _ fun e=>hk (by rw [hg,e])⟩
 .obtain ⟨k,hk,rfl⟩:=Array.getElem_of_mem hx';have hk':k<(aj av).length:=by omega
  exact (hc k _ _ (IX hk) (IU hk')).2
 .have hyl:=(h.young id _ hid).2
  have hlen:(cells.take j ++ aj av ++ cells.drop (j+al P t)).length=cells.length:=by
   simp;omega
  refine kU (o':=.box ty (cells.take j ++ aj av ++ cells.drop (j+al P t))) h hid hg (by simpa [aE.sz] using hlen) (fun k hk=>setRow_other w g k _ hk) ?_ (by simp) (fun hext=>⟨g,_,hL,hbg,setRow_heap w g cs _ ty (0,0) hheap,?_,fun k x av' h2 h3=>?_⟩) ?_ dst
  .exact ⟨h.lay.below.os,h.lay.below.tape,h.lay.below.output,by simpa using h.lay.below.size,fun k hk hX=>(setRow_other w g k _ (by omega)).trans (h.lay.below.block k hk hX)⟩
  .rw [hlen];simp [hcs,hn,hs];omega
  .rw [<- hs] at h3;rw [cF _ _ _ (by omega)] at h3;have hvl:v.cells.toList.length=al P t:=(by simp [hn,hs]);rw [Kc,<- hvl,cF _ _ _ (by simp [hcs];omega),hvl] at h2;rw [<- hs] at h2;split at h3
   .rename_i hr;rw [I8 hr] at h2;have:=hc (k - j) x av' (by simpa using h2) h3;exact ⟨hext.rv this.1 (ah.1 hlt _ (p0 h3)),this.2⟩
   .rename_i hr;rw [I4 hr] at h2;have:=hx k x av' (by simpa using h2) h3;exact ⟨hext.rv this.1 (ah.1 hyl _ (p0 h3)),this.2⟩
  .refine ah.2 fun x hx=>?_;rcases Ja.1 hx with hx|hx
   .rcases Ja.1 hx with hx | hx
    .exact ah.1 hyl x (JE hx)
    .exact ah.1 hlt x hx
   .exact ah.1 hyl x (J7 hx)
end
end
end
section
section
def cl (P:Program) (t:TypeId):Option (TypeId × Nat × Nat):=
 match P.underlying t with
 | some (.slice e)=>match P.info? e with
  | some i=>match i.zero with
   | some z=>if z.cells.size=i.size /\ 0<i.size then some (e,i.size,i.bytes) else none
   | none=>none
  | none=>none
 | _=>none
def th (tab:ag) (sz:Nat):AV -> Option (List (List AV))
 | .sl sz' rows=>if sz'=sz then some rows else none
 | .osl id=>match tab.get id with
  | some (.row _ sz' rows)=>if sz'=sz then some rows else none
  | _=>none
 | .c (.slice none 0 _)=>some []
 | _=>none
def sD (tab:ag) (e sz:Nat):AV -> Option (Option Nat × List (List AV))
 | .osl id=>match tab.get id with
  | some (.row e' sz' rows)=>if e'=e /\ sz'=sz then some (some id,rows) else none
  | _=>none
 | .c (.slice none 0 0)=>some (none,[])
 | _=>none
def lZ (tab:ag) (sz:Nat):AV -> Option (List (List AV))
 | .osl id=>match tab.get id with
  | some (.nest _ sz' rows)=>if sz'=sz then some rows else none
  | _=>none
 | _=>none
def jx (tab:ag) (e sz:Nat):AV -> Option (Option Nat × List (List AV))
 | .osl id=>match tab.get id with
  | some (.nest e' sz' rows)=>if e'=e /\ sz'=sz then some (some id,rows) else none
  | _=>none
 | .c (.slice none 0 0)=>some (none,[])
 | _=>none
section
variable {P:Program} {cx:Cx} {a:Act} {w w':World} {tab:ag} {st:ai} {L:Nat -> Value} {nx:Nat}
theorem dB {t e sz by_:Nat} (h:cl P t=some (e,sz,by_)):∃ i z,P.underlying t=some (.slice e) /\ P.info? e=some i /\ i.zero=some z /\ i.size=sz /\ i.bytes=by_ /\ z.cells.size=sz /\ 0<sz:=by
 unfold cl at h;split at h
 .rename_i e' hu;split at h
  .rename_i i hi;split at h
   .rename_i z hz;split at h
    .rename_i hc;cases h;exact ⟨i,z,hu,hi,hz,rfl,rfl,hc.1,hc.2⟩
    .cases h
   .cases h
  .cases h
 .cases h
theorem eV (base:Nat) {t ty e:TypeId} {i:TypeInfo} {size c:Nat} (ht:P.underlying t=some (.slice e)) (hi:P.info? e=some i)
  {v:Value} {n:Nat} {xs:List Value} (hown:ce w base e size v n xs):(Builtin.append_ #[t,t] ty #[v,.slice none 0 c]).run P w=.ok v w:=by
 rcases hown.2 with ⟨rfl,rfl⟩|⟨g,cap,cur,rfl,_,_,hnc,_⟩
 .simp [Builtin.append_,run_underlying ht,sizeOf,typeInfo,hi,Builtin.lenOf,Builtin.firstCells]
 .simp [Builtin.append_,run_underlying ht,sizeOf,typeInfo,hi,Builtin.lenOf,Builtin.firstCells,hnc,storeCells]
theorem kN {w:World} (base:Nat) (t ty e:TypeId) (i:TypeInfo) (z:Value) (size bytes:Nat) (ht:P.underlying t=some (.slice e)) (hi:P.info? e=some i) (hz:i.zero=some z)
  (hsize:i.size=size) (hby:i.bytes=bytes) (hzs:z.cells.size=size) (hsz:0<size)
  (v:Value) (n:Nat) (xs:List Value) (hown:ce w base e size v n xs)
  (a:Addr) (m c:Nat) (news:List Value) (hl:news.length=m * size) (hnews:∀ j u,news[j]? = some u -> w.cell? (a.add j)=some u) (h1:∀ u ∈ news,u.oneCell'=true)
  (h63:n+m<=maxLen) (hbytes:(n+m) * bytes<=140737488355328) (hbase:base<=w.heap.size) :
  ∃ v' w',(Builtin.append_ #[t,t] ty #[v,.slice (some a) m c]).run P w=.ok v' w' /\ ce w' base e size v' (n+m) (xs ++ news) /\ w.grownBy w' v.ownBlock /\ (v'.ownBlock=v.ownBlock \/ v'.ownBlock=some w.heap.size):=by
 rcases hown.2 with ⟨rfl,rfl⟩|⟨g,cap,cur,rfl,hbg,hg,hnc,hcm,hcs,htake⟩
 .obtain ⟨v',w',h2,h3,h4,_,h5⟩:=run_append_own_at (P:=P) w base t ty e i z size bytes ht hi hz hsize hby hzs hsz (.slice none 0 0) 0 xs ⟨hown.1,.inl ⟨rfl,rfl⟩⟩ a m c news hl hnews h1 h63 hbytes hbase;exact ⟨v',w',h2,om h3,h4,h5⟩
 .subst hsize;subst hby
  have hsmall:n+m<=9223372036854775807:=by simp only [maxLen] at h63;omega
  have hlen:(xs ++ news).length=(n+m) * i.size:=by rw [I0,hown.1,hl,JI]
  by_cases hroom:n+m<=cap
  .have hfit:n * i.size+news.length<=cur.size:=by
    rw [hl,<- JI];exact Jn (Jm _ hroom) hcs
   have hr:=run_append_room (P:=P) w t ty e i ht hi g n cap cur hg a m c news hl hnews h1 hroom hfit;refine ⟨_,_,hr,⟨hlen,.inr ⟨g,cap,_,rfl,hbg,setRow_heap w g cur _ e _ hg,hroom,hcm,?_,?_⟩⟩,⟨rfl,rfl,rfl,by simp,fun k _ hk=>setRow_other w g k _ (fun e=>hk (by simp [Value.ownBlock,e]))⟩,Or.inl rfl⟩
   .simp only [List.size_toArray,I0,Jf,JW,Js];omega
   .rw [htake,<- hlen];exact List.take_left
  .have holds:∀ j u,xs[j]? = some u -> w.cell? ((⟨g,0,none⟩:Addr).add j)=some u:=hown.cells (g:=g) rfl;have hr:=run_append_grow (P:=P) w t ty e i z ht hi hz ⟨g,0,none⟩ n cap xs hown.1 holds a m c news hl hnews (by omega) (by omega) (growslice_fits (by omega) hbytes);have hge:=grownCap_ge w (n+m) cap e;have hcm':grownCap w (n+m) cap e<=maxLen:=grownCap_le_maxLen w (n+m) cap e h63;refine ⟨_,_,hr,⟨hlen,.inr ⟨w.heap.size,_,_,rfl,hbase,heap_alloc_new w.drew _,hge,hcm',?_,?_⟩⟩,⟨rfl,rfl,rfl,by simp,fun k hk _=>heap_alloc_old w.drew _ hk⟩,Or.inr rfl⟩
   .simp only [Array.size_append,List.size_toArray,size_zeroCells,hzs,hown.1,hl,<- JI];refine Nat.le_of_eq ?_
    congr 1
    omega
   .simp only [Array.toList_append,JJ];rw [<- JJ,<- hlen];exact List.take_left
theorem F2 (hL:fZ cx w tab L) {v:Value} {av:AV} {sz:Nat} {rows:List (List AV)} (h0:0<sz) (hv:bn cx w tab L v av) (h:th tab sz av=some rows):∃ A c,v=.slice A rows.length c /\ (∀ row ∈ rows,row.length=sz) /\
  ∃ news:List Value,news.length=rows.length * sz /\ (∀ u ∈ news,u.oneCell'=true) /\ (∀ (i j:Nat) (row:List AV) (av:AV),rows[i]? = some row -> row[j]? = some av -> ∃ x,news[i * sz+j]? = some x /\ RT w (Sx cx w tab L) x av) /\
   ((A=none /\ rows.length=0) \/ ∃ ad,A=some ad /\ ∀ j u,news[j]? = some u -> w.cell? (ad.add j)=some u):=by
 unfold th at h;split at h
 .rename_i sz' rows';split at h
  .rename_i e;subst e;cases h;obtain ⟨A,cap,rfl,_,_,hrow,hA⟩:=hv.sl_inv.sl_inv;refine ⟨A,cap,rfl,hrow,?_⟩;by_cases hz:rows.length=0
   .have:rows=[]:=JA hz;subst this;refine ⟨[],by simp,by simp,by simp,?_⟩
    cases A with
    | none=>exact .inl ⟨rfl,rfl⟩
    | some ad=>exact .inr ⟨ad,rfl,by simp⟩
   .obtain ⟨b,o,rfl,hb,U,hcell,hr,hone⟩:=hA (by omega)
    have key:∀ k,k<rows.length * sz' -> ∃ row av,rows[k / sz']? = some row /\ row[k % sz']? = some av:=fun k hk=>by
     have h1:k / sz'<rows.length:=Nat.div_lt_of_lt_mul (by rwa [Nat.mul_comm] at hk);have h2:k % sz'<(rows[k / sz']).length:=by rw [hrow _ (IZ h1)];exact Nat.mod_lt _ h0
     exact ⟨_,_,IU h1,IU h2⟩
    refine ⟨(List.range (rows.length * sz')).map fun k=>U (k / sz') (k % sz'),by simp,fun u hu=>?_,fun i j row av h1 h2=>⟨U i j,?_,hr i j row av h1 h2⟩,.inr ⟨_,rfl,fun k u hu=>?_⟩⟩
    .simp at hu;obtain ⟨k,hk,rfl⟩:=hu;obtain ⟨row,av,h1,h2⟩:=key k hk;exact hone _ _ row av h1 h2
    .have hj:j<sz':=by
      rw [<- hrow row (p0 h1)];exact (IV.1 h2).1
     have hi:i<rows.length:=(IV.1 h1).1
     have hlt:i * sz'+j<rows.length * sz':=by
      have:=Jm sz' (show i+1<=rows.length from hi);rw [JI] at this;omega
     have e1:(i * sz'+j) / sz'=i:=by rw [Nat.add_comm,Nat.add_mul_div_right _ _ h0,Nat.div_eq_of_lt hj];omega
     have e2:(i * sz'+j) % sz'=j:=(by rw [Nat.add_comm,Nat.add_mul_mod_self_right,Nat.mod_eq_of_lt hj]);rw [IW,List.getElem?_range hlt,JV,e1,e2]
    .obtain ⟨hk,rfl⟩:=lC hu;obtain ⟨row,av,h1,h2⟩:=key k hk;have:=hcell _ _ row av h1 h2;rw [Kd,Nat.mul_comm,Nat.div_add_mod] at this
     rwa [Addr.add_lit]
  .cases h
 .rename_i id;split at h
  .rename_i e sz' rows' hid;split at h
   .rename_i e;subst e;cases h;obtain ⟨hvL,A,cap,rfl,hA⟩:=j4 hL hid hv;obtain ⟨hrow,xs,hown,hone,hx⟩:=hL.objs id _ hid;refine ⟨A,cap,rfl,hrow,xs,hown.1,hone,hx,?_⟩;rw [<- hvL] at hown;rcases hown.2 with ⟨h1,h2⟩|⟨g,cap',cur,h1,_⟩
    .injection h1 with h1
     exact .inl ⟨h1,h2⟩
    .injection h1 with h1
     subst h1;exact .inr ⟨_,rfl,hown.cells (g:=g) rfl⟩
   .cases h
  .cases h
 .cases h;obtain rfl:=hv.c_inv;exact ⟨none,_,rfl,by simp,[],by simp,by simp,by simp,.inl ⟨rfl,rfl⟩⟩
 .cases h
def Ic (tab:ag) (L:Nat -> Value) (e sz:Nat) (rows:List (List AV)) (v:Value):Option Nat -> Prop
 | some id=>tab.get id=some (.row e sz rows) /\ v=L id
 | none=>v=.slice none 0 0
theorem Ey (hL:fZ cx w tab L) (hb:cx.w0.heap.size<=w.heap.size) {v:Value} {av:AV} {e sz:Nat} {rows:List (List AV)} {oid:Option Nat} (hv:bn cx w tab L v av) (h:sD tab e sz av=some (oid,rows)) :
  (∀ row ∈ rows,row.length=sz) /\ (∃ xs,ce w cx.w0.heap.size e sz v rows.length xs /\ (∀ x ∈ xs,x.oneCell'=true) /\ ∀ (i j:Nat) (row:List AV) (av:AV),rows[i]? = some row -> row[j]? = some av -> ∃ x,xs[i * sz+j]? = some x /\ RT w (Sx cx w tab L) x av) /\
  Ic tab L e sz rows v oid:=by
 unfold sD at h;split at h
 .rename_i id;split at h
  .rename_i e' sz' rows' hid;split at h
   .rename_i e;obtain ⟨rfl,rfl⟩:=e;cases h;obtain ⟨hvL,_⟩:=j4 hL hid hv;obtain ⟨hrow,xs,hown,hone,hx⟩:=hL.objs id _ hid;exact ⟨hrow,⟨xs,by rw [hvL];exact hown,hone,hx⟩,hid,hvL⟩
   .cases h
  .cases h
 .cases h;obtain rfl:=hv.c_inv;exact ⟨by simp,⟨[],gA ..,by simp,by simp⟩,rfl⟩
 .cases h
def bv (tab:ag) (nx:Nat) (oid:Option Nat) (o:aE):ag:=
 match oid with
 | some id=>(nx,some o) :: (id,none) :: tab
 | none=>(nx,some o) :: tab
theorem bj (tab:ag) (nx:Nat) (oid:Option Nat) (o:aE) (k:Nat):(bv tab nx oid o).get k=if k=nx then some o else if oid=some k then none else tab.get k:=by
 unfold bv
 cases oid with
 | none=>simp [ag.gc]
 | some id=>
  simp only [ag.gc,KD];split
  .rfl
  .by_cases h:k=id
   .simp [h]
   .simp [h,Ne.symm h]
theorem pi {t ty e sz by_:Nat} {v u:Value} {x y:AV} {oid:Option Nat} {rows rows2:List (List AV)} (h:aH cx a w st L) (hv:bn cx w st.tab L v x) (hu:bn cx w st.tab L u y) (ht:cl P t=some (e,sz,by_))
  (hx:sD st.tab e sz x=some (oid,rows)) (hy:th st.tab sz y=some rows2) (h63:rows.length+rows2.length<=maxLen) (hby:(rows.length+rows2.length) * by_<=140737488355328) (dst:Option Nat) :
  ∃ v' w' L',(Builtin.append_ #[t,t] ty #[v,u]).run P w=.ok v' w' /\ aH cx (a.put dst v') w' ({ st with tab:=bv st.tab st.next oid (.row e sz (rows ++ rows2)),next:=st.next+1 }.put dst (.osl st.next)) L' /\
   w.grownBy w' v.ownBlock /\ L'=bc L st.next v' /\ (aG v'=v.ownBlock \/ aG v'=some w.heap.size) /\ (∀ g,v.ownBlock=some g -> ∃ id,oid=some id /\ aG (L id)=some g):=by
 obtain ⟨i,z,hund,hi,hz,hs,hb,hzs,h0⟩:=dB ht;have hbase:cx.w0.heap.size<=w.heap.size:=h.lay.below.size;obtain ⟨hrow1,⟨xs,hown,hone,hxs⟩,hoid⟩:=Ey h.lay hbase hv hx;obtain ⟨A,c,rfl,hrow2,news,hnl,hn1,hnr,hA⟩:=F2 h.lay h0 hu hy
 have hrun:∃ v' w',(Builtin.append_ #[t,t] ty #[v,.slice A rows2.length c]).run P w=.ok v' w' /\ ce w' cx.w0.heap.size e sz v' (rows.length+rows2.length) (xs ++ news) /\ w.grownBy w' v.ownBlock /\ (v'.ownBlock=v.ownBlock \/ v'.ownBlock=some w.heap.size):=by
  rcases hA with ⟨rfl,hz0⟩|⟨ad,rfl,hcell⟩
  .rw [hz0] at hnl ⊢;have:news=[]:=JA (by simpa using hnl);subst this;exact ⟨v,w,eV _ hund hi hown,by simpa using hown,⟨rfl,rfl,rfl,I6 _,fun _ _ _=>rfl⟩,.inl rfl⟩
  .obtain ⟨v',w',h1,h2,h3,h5⟩:=kN (P:=P) cx.w0.heap.size t ty e i z sz by_ hund hi hz hs hb hzs h0 v rows.length xs hown ad rows2.length c news hnl hcell hn1 h63 hby hbase;exact ⟨v',w',h1,h2,h3,h5⟩
 obtain ⟨v',w',hrun,hown',hgrow,hblk⟩:=hrun
 have vb:∀ {x:Value} {n:Nat} {l:List Value} {w:World},ce w cx.w0.heap.size e sz x n l -> aG x=x.ownBlock:=fun hh=>by
  rcases hh.2 with ⟨rfl,_⟩|⟨g,cap,cur,rfl,_⟩<;>rfl
 have hvb:=vb hown;have hvb':=vb hown'
 have hold_block:∀ g,v.ownBlock=some g -> ∃ id,oid=some id /\ st.tab.get id=some (.row e sz rows) /\ aG (L id)=some g:=fun g hg=>by
  cases oid with
  | none=>rw [show v=.slice none 0 0 from hoid] at hg;cases hg
  | some id=>exact ⟨id,rfl,hoid.1,by rw [<- hoid.2,hvb];exact hg⟩
 have hy':=h.young
 have hget:∀ k,k<st.next -> (bv st.tab st.next oid (.row e sz (rows ++ rows2))).get k=if oid=some k then none else st.tab.get k:=fun k hk=>by
  rw [bj,I4 (by omega)]
 have hgetS:∀ k o,(bv st.tab st.next oid (.row e sz (rows ++ rows2))).get k=some o -> (k=st.next /\ o=.row e sz (rows ++ rows2)) \/ (k<st.next /\ oid ≠ some k /\ st.tab.get k=some o):=fun k o hk=>by
  rw [bj] at hk;split at hk
  .rename_i e';cases hk;exact .inl ⟨e',rfl⟩
  .split at hk
   .cases hk
   .rename_i h1;exact .inr ⟨(hy' k o hk).1,h1,hk⟩
 have hLn:∀ k,k<st.next -> bc L st.next v' k=L k:=fun k hk=>by unfold bc;rw [I4 (by omega)]
 have hLx:bc L st.next v' st.next=v':=by simp [bc]
 -- the blocks of other objects
 have hother:∀ k o g,k<st.next -> oid ≠ some k -> st.tab.get k=some o -> aG (L k)=some g -> some g ≠ v.ownBlock /\ some g ≠ v'.ownBlock:=fun k o g hk hne ho hg=>by
  have h1:some g ≠ v.ownBlock:=fun e'=>by
   obtain ⟨id,hid,hti,hbi⟩:=hold_block g e'.symm;exact hne (by rw [hid,h.lay.sep id k _ o g hti ho hbi hg])
  refine ⟨h1,fun e'=>?_⟩;rcases hblk with hb1|hb1
  .exact h1 (by rw [e',hb1])
  .have:=((h.lay.objs k o ho).ge hg).2;rw [hb1] at e';cases e';omega
 have hext:iu cx w st.tab L st.next w' (bv st.tab st.next oid (.row e sz (rows ++ rows2))) (bc L st.next v'):=by
  refine ⟨fun p hp=>hgrow.block p hp.1 fun e'=>?_,fun b hS=>⟨I1 hS.1 hgrow.size,hS.2.1,fun k o hk hg=>?_⟩,fun k p hk hK=>?_⟩
  .obtain ⟨id,_,hti,hbi⟩:=hold_block p e'.symm;exact hp.2.2 id _ hti hbi
  .rcases hgetS k o hk with ⟨rfl,_⟩ | ⟨hlt,_,ho⟩
   .rw [hLx,hvb'] at hg;rcases hblk with hb1|hb1
    .rw [hb1] at hg;obtain ⟨id,_,hti,hbi⟩:=hold_block b hg;exact hS.2.2 id _ hti hbi
    .rw [hb1] at hg;cases hg;exact Nat.lt_irrefl _ hS.1
   .rw [hLn k hlt] at hg;exact hS.2.2 k o ho hg
  .unfold Kx at *;rw [hget k hk,hLn k hk] at hK;split at hK
   .cases hK
   .exact hK
 have hbel:dh cx.X cx.w0.heap.size cx.w0 w':=h.lay.below.grown hgrow hbase fun k hk=>(hown.lt k hk).1;refine ⟨v',w',bc L st.next v',hrun,?_,hgrow,rfl,by rw [hvb'];exact hblk,fun g hg=>by obtain ⟨id,h1,_,h2⟩:=hold_block g hg;exact ⟨id,h1,h2⟩⟩
 have hex:∀ id2 o2 g,(bv st.tab st.next oid (.row e sz (rows ++ rows2))).get id2=some o2 -> aG (bc L st.next v' id2)=some g -> g<w.heap.size -> ∃ id3 o3,st.tab.get id3=some o3 /\ aG (L id3)=some g:=fun k ok g hk hg' hlt=>by
  rcases hgetS k ok hk with ⟨rfl,_⟩|⟨hlt',_,ho⟩
  .rw [hLx,hvb'] at hg';rcases hblk with hb1|hb1
   .rw [hb1] at hg';obtain ⟨id,_,hti,hbi⟩:=hold_block g hg';exact ⟨id,_,hti,hbi⟩
   .rw [hb1] at hg';cases hg';omega
  .rw [hLn k hlt'] at hg';exact ⟨k,ok,ho,hg'⟩
 refine dm h ⟨hbel,fun k o hk=>?_,fun k k' o o' g h1 h2 h3 h4=>?_,pe h.lay hgrow.size hex⟩ hext (JF _) (fun k o hk=>?_) ?_ (JQ _) dst
 .rcases hgetS k o hk with ⟨rfl,rfl⟩ | ⟨hlt,hne,ho⟩
  .rw [hLx];refine ⟨fun row hr=>?_,xs ++ news,by rw [I0];exact hown',fun x hx=>?_,fun i j row av h1 h2=>?_⟩
   .rcases Ja.1 hr with hr | hr
    .exact hrow1 row hr
    .exact hrow2 row hr
   .rcases Ja.1 hx with hx | hx
    .exact hone x hx
    .exact hn1 x hx
   .by_cases hlt:i<rows.length
    .rw [JD hlt] at h1;obtain ⟨x,hx,hr⟩:=hxs i j row av h1 h2;exact ⟨x,by rw [JD ((IV.1 hx).1)];exact hx,hext.rt hr⟩
    .rw [JG (by omega)] at h1;obtain ⟨x,hx,hr⟩:=hnr _ j row av h1 h2;refine ⟨x,?_,hext.rt hr⟩;have e1:rows.length * sz<=i * sz:=Jm _ (by omega);rw [JG (by rw [hown.1];omega),hown.1];rw [Nat.sub_mul] at hx
     rwa [show i * sz+j - rows.length * sz=i * sz - rows.length * sz+j by omega]
  .rw [hLn k hlt];have hob:=h.lay.objs k o ho;exact hext.obj hob (hy' k o ho).2 fun g hg=>hgrow.block g (hob.ge hg).2 (hother k o g hlt hne ho hg).1
 .rcases hgetS k o h1 with ⟨rfl,rfl⟩ | ⟨hlt,hne,ho⟩<;>rcases hgetS k' o' h2 with ⟨rfl,rfl⟩ | ⟨hlt',hne',ho'⟩
  .rfl
  .rw [hLx,hvb'] at h3;rw [hLn k' hlt'] at h4;exact absurd h3.symm (hother k' o' g hlt' hne' ho' h4).2
  .rw [hLx,hvb'] at h4;rw [hLn k hlt] at h3;exact absurd h4.symm (hother k o g hlt hne ho h3).2
  .rw [hLn k hlt] at h3;rw [hLn k' hlt'] at h4;exact h.lay.sep k k' o o' g ho ho' h3 h4
 .rcases hgetS k o hk with ⟨rfl,rfl⟩ | ⟨hlt,_,ho⟩
  .exact ⟨JQ _,trivial⟩
  .refine ⟨by omega,?_⟩;have:=(hy' k o ho).2
   cases o with
   | box t cells=>exact ah.2 fun x hx=>AV.lt_mono (JF _) (ah.1 this x hx)
   | row=>trivial
   | map=>trivial
   | nest e sz rows=>exact fun row hr=>ah.2 fun x hx=>AV.lt_mono (JF _) (ah.1 (this row hr) x hx)
   | ghost vs env=>exact cX (JF _) this
 .refine .osl _ _ fun sz' v'' hk=>?_;unfold Kx at hk;rw [bj,I8 rfl] at hk;simp at hk;rw [hLx] at hk;exact hk.2
theorem CI (hL:fZ cx w tab L) {v:Value} {av:AV} {sz:Nat} {rows:List (List AV)} (h0:0<sz) (hv:bn cx w tab L v av) (h:lZ tab sz av=some rows):∃ A c,v=.slice A rows.length c /\ (∀ row ∈ rows,row.length=sz) /\
  ∃ news:List Value,news.length=rows.length * sz /\ (∀ u ∈ news,u.oneCell'=true) /\ (∀ (i j:Nat) (row:List AV) (av:AV),rows[i]? = some row -> row[j]? = some av -> ∃ x,news[i * sz+j]? = some x /\ bn cx w tab L x av) /\
   ((A=none /\ rows.length=0) \/ ∃ ad,A=some ad /\ ∀ j u,news[j]? = some u -> w.cell? (ad.add j)=some u):=by
 unfold lZ at h;split at h
 .rename_i id;split at h
  .rename_i e sz' rows' hid;split at h
   .rename_i e;subst e;cases h;obtain ⟨hvL,A,cap,rfl,hA⟩:=gB hL hid hv;obtain ⟨hrow,xs,hown,hone,hx⟩:=hL.objs id _ hid;refine ⟨A,cap,rfl,hrow,xs,hown.1,hone,hx,?_⟩;rw [<- hvL] at hown;rcases hown.2 with ⟨h1,h2⟩|⟨g,cap',cur,h1,_⟩
    .injection h1 with h1
     exact .inl ⟨h1,h2⟩
    .injection h1 with h1
     subst h1;exact .inr ⟨_,rfl,hown.cells (g:=g) rfl⟩
   .cases h
  .cases h
 .cases h
def E6 (tab:ag) (L:Nat -> Value) (e sz:Nat) (rows:List (List AV)) (v:Value):Option Nat -> Prop
 | some id=>tab.get id=some (.nest e sz rows) /\ v=L id
 | none=>v=.slice none 0 0
theorem DS (hL:fZ cx w tab L) (hb:cx.w0.heap.size<=w.heap.size) {v:Value} {av:AV} {e sz:Nat} {rows:List (List AV)} {oid:Option Nat} (hv:bn cx w tab L v av) (h:jx tab e sz av=some (oid,rows)) :
  (∀ row ∈ rows,row.length=sz) /\ (∃ xs,ce w cx.w0.heap.size e sz v rows.length xs /\ (∀ x ∈ xs,x.oneCell'=true) /\ ∀ (i j:Nat) (row:List AV) (av:AV),rows[i]? = some row -> row[j]? = some av -> ∃ x,xs[i * sz+j]? = some x /\ bn cx w tab L x av) /\
  E6 tab L e sz rows v oid:=by
 unfold jx at h;split at h
 .rename_i id;split at h
  .rename_i e' sz' rows' hid;split at h
   .rename_i e;obtain ⟨rfl,rfl⟩:=e;cases h;obtain ⟨hvL,_⟩:=gB hL hid hv;obtain ⟨hrow,xs,hown,hone,hx⟩:=hL.objs id _ hid;exact ⟨hrow,⟨xs,by rw [hvL];exact hown,hone,hx⟩,hid,hvL⟩
   .cases h
  .cases h
 .cases h;obtain rfl:=hv.c_inv;exact ⟨by simp,⟨[],gA ..,by simp,by simp⟩,rfl⟩
 .cases h
theorem CF (hy:∀ id o,tab.get id=some o -> o.lt nx) {av:AV} {sz:Nat} {rows:List (List AV)} (h:lZ tab sz av=some rows):∀ row ∈ rows,AV.ltL nx row:=by
 unfold lZ at h;split at h
 .split at h
  .rename_i hid;split at h
   .cases h;exact hy _ _ hid
   .cases h
  .cases h
 .cases h
theorem D7 (hy:∀ id o,tab.get id=some o -> o.lt nx) {av:AV} {e sz:Nat} {oid:Option Nat} {rows:List (List AV)} (h:jx tab e sz av=some (oid,rows)):∀ row ∈ rows,AV.ltL nx row:=by
 unfold jx at h;split at h
 .split at h
  .rename_i hid;split at h
   .cases h;exact hy _ _ hid
   .cases h
  .cases h
 .cases h;intro row hr;cases hr
 .cases h
theorem nX {t ty e sz by_:Nat} {v u:Value} {x y:AV} {oid:Option Nat} {rows rows2:List (List AV)} (h:aH cx a w st L) (hv:bn cx w st.tab L v x) (hu:bn cx w st.tab L u y) (ht:cl P t=some (e,sz,by_))
  (hx:jx st.tab e sz x=some (oid,rows)) (hy:lZ st.tab sz y=some rows2) (h63:rows.length+rows2.length<=maxLen) (hby:(rows.length+rows2.length) * by_<=140737488355328) (dst:Option Nat) :
  ∃ v' w' L',(Builtin.append_ #[t,t] ty #[v,u]).run P w=.ok v' w' /\ aH cx (a.put dst v') w' ({ st with tab:=bv st.tab st.next oid (.nest e sz (rows ++ rows2)),next:=st.next+1 }.put dst (.osl st.next)) L' /\
   w.grownBy w' v.ownBlock /\ L'=bc L st.next v' /\ (aG v'=v.ownBlock \/ aG v'=some w.heap.size) /\ (∀ g,v.ownBlock=some g -> ∃ id,oid=some id /\ aG (L id)=some g):=by
 obtain ⟨i,z,hund,hi,hz,hs,hb,hzs,h0⟩:=dB ht;have hbase:cx.w0.heap.size<=w.heap.size:=h.lay.below.size;obtain ⟨hrow1,⟨xs,hown,hone,hxs⟩,hoid⟩:=DS h.lay hbase hv hx;obtain ⟨A,c,rfl,hrow2,news,hnl,hn1,hnr,hA⟩:=CI h.lay h0 hu hy;have hl1:=D7 (fun id o ho=>(h.young id o ho).2) hx;have hl2:=CF (fun id o ho=>(h.young id o ho).2) hy
 have hrun:∃ v' w',(Builtin.append_ #[t,t] ty #[v,.slice A rows2.length c]).run P w=.ok v' w' /\ ce w' cx.w0.heap.size e sz v' (rows.length+rows2.length) (xs ++ news) /\ w.grownBy w' v.ownBlock /\ (v'.ownBlock=v.ownBlock \/ v'.ownBlock=some w.heap.size):=by
  rcases hA with ⟨rfl,hz0⟩|⟨ad,rfl,hcell⟩
  .rw [hz0] at hnl ⊢;have:news=[]:=JA (by simpa using hnl);subst this;exact ⟨v,w,eV _ hund hi hown,by simpa using hown,⟨rfl,rfl,rfl,I6 _,fun _ _ _=>rfl⟩,.inl rfl⟩
  .obtain ⟨v',w',h1,h2,h3,h5⟩:=kN (P:=P) cx.w0.heap.size t ty e i z sz by_ hund hi hz hs hb hzs h0 v rows.length xs hown ad rows2.length c news hnl hcell hn1 h63 hby hbase;exact ⟨v',w',h1,h2,h3,h5⟩
 obtain ⟨v',w',hrun,hown',hgrow,hblk⟩:=hrun
 have vb:∀ {x:Value} {n:Nat} {l:List Value} {w:World},ce w cx.w0.heap.size e sz x n l -> aG x=x.ownBlock:=fun hh=>by
  rcases hh.2 with ⟨rfl,_⟩|⟨g,cap,cur,rfl,_⟩<;>rfl
 have hvb:=vb hown;have hvb':=vb hown'
 have hold_block:∀ g,v.ownBlock=some g -> ∃ id,oid=some id /\ st.tab.get id=some (.nest e sz rows) /\ aG (L id)=some g:=fun g hg=>by
  cases oid with
  | none=>rw [show v=.slice none 0 0 from hoid] at hg;cases hg
  | some id=>exact ⟨id,rfl,hoid.1,by rw [<- hoid.2,hvb];exact hg⟩
 have hy':=h.young
 have hget:∀ k,k<st.next -> (bv st.tab st.next oid (.nest e sz (rows ++ rows2))).get k=if oid=some k then none else st.tab.get k:=fun k hk=>by
  rw [bj,I4 (by omega)]
 have hgetS:∀ k o,(bv st.tab st.next oid (.nest e sz (rows ++ rows2))).get k=some o -> (k=st.next /\ o=.nest e sz (rows ++ rows2)) \/ (k<st.next /\ oid ≠ some k /\ st.tab.get k=some o):=fun k o hk=>by
  rw [bj] at hk;split at hk
  .rename_i e';cases hk;exact .inl ⟨e',rfl⟩
  .split at hk
   .cases hk
   .rename_i h1;exact .inr ⟨(hy' k o hk).1,h1,hk⟩
 have hLn:∀ k,k<st.next -> bc L st.next v' k=L k:=fun k hk=>by unfold bc;rw [I4 (by omega)]
 have hLx:bc L st.next v' st.next=v':=by simp [bc]
 -- the blocks of other objects
 have hother:∀ k o g,k<st.next -> oid ≠ some k -> st.tab.get k=some o -> aG (L k)=some g -> some g ≠ v.ownBlock /\ some g ≠ v'.ownBlock:=fun k o g hk hne ho hg=>by
  have h1:some g ≠ v.ownBlock:=fun e'=>by
   obtain ⟨id,hid,hti,hbi⟩:=hold_block g e'.symm;exact hne (by rw [hid,h.lay.sep id k _ o g hti ho hbi hg])
  refine ⟨h1,fun e'=>?_⟩;rcases hblk with hb1|hb1
  .exact h1 (by rw [e',hb1])
  .have:=((h.lay.objs k o ho).ge hg).2;rw [hb1] at e';cases e';omega
 have hext:iu cx w st.tab L st.next w' (bv st.tab st.next oid (.nest e sz (rows ++ rows2))) (bc L st.next v'):=by
  refine ⟨fun p hp=>hgrow.block p hp.1 fun e'=>?_,fun b hS=>⟨I1 hS.1 hgrow.size,hS.2.1,fun k o hk hg=>?_⟩,fun k p hk hK=>?_⟩
  .obtain ⟨id,_,hti,hbi⟩:=hold_block p e'.symm;exact hp.2.2 id _ hti hbi
  .rcases hgetS k o hk with ⟨rfl,_⟩ | ⟨hlt,_,ho⟩
   .rw [hLx,hvb'] at hg;rcases hblk with hb1|hb1
    .rw [hb1] at hg;obtain ⟨id,_,hti,hbi⟩:=hold_block b hg;exact hS.2.2 id _ hti hbi
    .rw [hb1] at hg;cases hg;exact Nat.lt_irrefl _ hS.1
   .rw [hLn k hlt] at hg;exact hS.2.2 k o ho hg
  .unfold Kx at *;rw [hget k hk,hLn k hk] at hK;split at hK
   .cases hK
   .exact hK
 have hbel:dh cx.X cx.w0.heap.size cx.w0 w':=h.lay.below.grown hgrow hbase fun k hk=>(hown.lt k hk).1;refine ⟨v',w',bc L st.next v',hrun,?_,hgrow,rfl,by rw [hvb'];exact hblk,fun g hg=>by obtain ⟨id,h1,_,h2⟩:=hold_block g hg;exact ⟨id,h1,h2⟩⟩
 have hex:∀ id2 o2 g,(bv st.tab st.next oid (.nest e sz (rows ++ rows2))).get id2=some o2 -> aG (bc L st.next v' id2)=some g -> g<w.heap.size -> ∃ id3 o3,st.tab.get id3=some o3 /\ aG (L id3)=some g:=fun k ok g hk hg' hlt=>by
  rcases hgetS k ok hk with ⟨rfl,_⟩|⟨hlt',_,ho⟩
  .rw [hLx,hvb'] at hg';rcases hblk with hb1|hb1
   .rw [hb1] at hg';obtain ⟨id,_,hti,hbi⟩:=hold_block g hg';exact ⟨id,_,hti,hbi⟩
   .rw [hb1] at hg';cases hg';omega
  .rw [hLn k hlt'] at hg';exact ⟨k,ok,ho,hg'⟩
 refine dm h ⟨hbel,fun k o hk=>?_,fun k k' o o' g h1 h2 h3 h4=>?_,pe h.lay hgrow.size hex⟩ hext (JF _) (fun k o hk=>?_) ?_ (JQ _) dst
 .rcases hgetS k o hk with ⟨rfl,rfl⟩ | ⟨hlt,hne,ho⟩
  .rw [hLx];refine ⟨fun row hr=>?_,xs ++ news,by rw [I0];exact hown',fun x hx=>?_,fun i j row av h1 h2=>?_⟩
   .rcases Ja.1 hr with hr | hr
    .exact hrow1 row hr
    .exact hrow2 row hr
   .rcases Ja.1 hx with hx | hx
    .exact hone x hx
    .exact hn1 x hx
   .by_cases hlt:i<rows.length
    .rw [JD hlt] at h1;obtain ⟨x,hx,hr⟩:=hxs i j row av h1 h2;exact ⟨x,by rw [JD ((IV.1 hx).1)];exact hx,hext.rv hr (ah.1 (hl1 row (p0 h1)) _ (p0 h2))⟩
    .rw [JG (by omega)] at h1;obtain ⟨x,hx,hr⟩:=hnr _ j row av h1 h2;refine ⟨x,?_,hext.rv hr (ah.1 (hl2 row (p0 h1)) _ (p0 h2))⟩;have e1:rows.length * sz<=i * sz:=Jm _ (by omega);rw [JG (by rw [hown.1];omega),hown.1];rw [Nat.sub_mul] at hx
     rwa [show i * sz+j - rows.length * sz=i * sz - rows.length * sz+j by omega]
  .rw [hLn k hlt];have hob:=h.lay.objs k o ho;exact hext.obj hob (hy' k o ho).2 fun g hg=>hgrow.block g (hob.ge hg).2 (hother k o g hlt hne ho hg).1
 .rcases hgetS k o h1 with ⟨rfl,rfl⟩ | ⟨hlt,hne,ho⟩<;>rcases hgetS k' o' h2 with ⟨rfl,rfl⟩ | ⟨hlt',hne',ho'⟩
  .rfl
  .rw [hLx,hvb'] at h3;rw [hLn k' hlt'] at h4;exact absurd h3.symm (hother k' o' g hlt' hne' ho' h4).2
  .rw [hLx,hvb'] at h4;rw [hLn k hlt] at h3;exact absurd h4.symm (hother k o g hlt hne ho h3).2
  .rw [hLn k hlt] at h3;rw [hLn k' hlt'] at h4;exact h.lay.sep k k' o o' g ho ho' h3 h4
 .rcases hgetS k o hk with ⟨rfl,rfl⟩ | ⟨hlt,_,ho⟩
  .refine ⟨JQ _,fun row hr=>ah.2 fun x hx=>AV.lt_mono (JF _) ?_⟩;rcases Ja.1 hr with hr|hr
   .exact ah.1 (hl1 row hr) x hx
   .exact ah.1 (hl2 row hr) x hx
  .refine ⟨by omega,?_⟩;have:=(hy' k o ho).2
   cases o with
   | box t cells=>exact ah.2 fun x hx=>AV.lt_mono (JF _) (ah.1 this x hx)
   | row=>trivial
   | map=>trivial
   | nest e sz rows=>exact fun row hr=>ah.2 fun x hx=>AV.lt_mono (JF _) (ah.1 (this row hr) x hx)
   | ghost vs env=>exact cX (JF _) this
 .refine .osl _ _ fun sz' v'' hk=>?_;unfold Kx at hk;rw [bj,I8 rfl] at hk;simp at hk;rw [hLx] at hk;exact hk.2
theorem nT {id e sz n:Nat} {rows:List (List AV)} {v':Value} (h:aH cx a w st L) (hid:st.tab.get id=some (.row e sz rows)) (hn:n<=rows.length)
  (hv':(L id=.slice none 0 0 /\ v'=.slice none 0 0) \/ ∃ g cap cap',L id=.slice (some ⟨g,0,none⟩) rows.length cap /\ v'=.slice (some ⟨g,0,none⟩) n cap' /\ n<=cap' /\ cap'<=cap) (dst:Option Nat) :
  aH cx (a.put dst v') w ({ st with tab:=bv st.tab st.next (some id) (.row e sz (rows.take n)),next:=st.next+1 }.put dst (.osl st.next)) (bc L st.next v'):=by
 have hvb:aG v'=aG (L id):=by
  rcases hv' with ⟨h1,rfl⟩|⟨g,cap,cap',h1,rfl,_⟩<;>rw [h1]<;>rfl
 have hy':=h.young
 have hget:∀ k,k<st.next -> (bv st.tab st.next (some id) (.row e sz (rows.take n))).get k=if some id=some k then none else st.tab.get k:=fun k hk=>by
  rw [bj,I4 (by omega)]
 have hgetS:∀ k o,(bv st.tab st.next (some id) (.row e sz (rows.take n))).get k=some o -> (k=st.next /\ o=.row e sz (rows.take n)) \/ (k<st.next /\ id ≠ k /\ st.tab.get k=some o):=fun k o hk=>by
  rw [bj] at hk;split at hk
  .rename_i e';cases hk;exact .inl ⟨e',rfl⟩
  .split at hk
   .cases hk
   .rename_i h1;exact .inr ⟨(hy' k o hk).1,fun e'=>h1 (by rw [e']),hk⟩
 have hLn:∀ k,k<st.next -> bc L st.next v' k=L k:=fun k hk=>by unfold bc;rw [I4 (by omega)]
 have hLx:bc L st.next v' st.next=v':=by simp [bc]
 have hext:iu cx w st.tab L st.next w (bv st.tab st.next (some id) (.row e sz (rows.take n))) (bc L st.next v'):=by
  refine ⟨fun p hp=>rfl,fun b hS=>⟨hS.1,hS.2.1,fun k o hk hg=>?_⟩,fun k p hk hK=>?_⟩
  .rcases hgetS k o hk with ⟨rfl,_⟩ | ⟨hlt,_,ho⟩
   .rw [hLx,hvb] at hg;exact hS.2.2 id _ hid hg
   .rw [hLn k hlt] at hg;exact hS.2.2 k o ho hg
  .unfold Kx at *;rw [hget k hk,hLn k hk] at hK;split at hK
   .cases hK
   .exact hK
 obtain ⟨hrow,xs,hown,hone,hx⟩:=h.lay.objs id _ hid;have hmul:n * sz<=rows.length * sz:=Jm _ hn;have hlen:(rows.take n).length=n:=by rw [Jf];omega
 have hex:∀ id2 o2 g,(bv st.tab st.next (some id) (.row e sz (rows.take n))).get id2=some o2 -> aG (bc L st.next v' id2)=some g -> g<w.heap.size -> ∃ id3 o3,st.tab.get id3=some o3 /\ aG (L id3)=some g:=fun k ok g hk hg' hlt=>by
  rcases hgetS k ok hk with ⟨rfl,_⟩|⟨hlt',_,ho⟩
  .rw [hLx,hvb] at hg';exact ⟨id,_,hid,hg'⟩
  .rw [hLn k hlt'] at hg';exact ⟨k,ok,ho,hg'⟩
 refine dm h ⟨h.lay.below,fun k o hk=>?_,fun k k' o o' g h1 h2 h3 h4=>?_,pe h.lay (I6 _) hex⟩ hext (JF _) (fun k o hk=>?_) ?_ (JQ _) dst
 .rcases hgetS k o hk with ⟨rfl,rfl⟩ | ⟨hlt,hne,ho⟩
  .rw [hLx];refine ⟨fun row hr=>hrow row (JE hr),xs.take (n * sz),⟨?_,?_⟩,fun x hx'=>hone x (JE hx'),fun i j row av h1 h2=>?_⟩
   .rw [Jf,hown.1,hlen];omega
   .rw [hlen];rcases hown.2 with ⟨h1,h0⟩|⟨g,cap,cur,h1,hb,hh,hc,hm,hcs,htake⟩
    .rcases hv' with ⟨_,rfl⟩ | ⟨g',cap1,cap2,h2,rfl,_⟩
     .exact .inl ⟨rfl,by omega⟩
     .rw [h1] at h2;cases h2
    .rcases hv' with ⟨h2,_⟩ | ⟨g',cap1,cap2,h2,rfl,h3,h4⟩
     .rw [h1] at h2;cases h2
     .rw [h1] at h2;cases h2;refine .inr ⟨g,cap2,cur,rfl,hb,hh,h3,by omega,Jn (Jm _ h4) hcs,?_⟩;rw [<- htake,List.take_take,Nat.min_eq_left hmul]
   .rw [JC] at h1;split at h1
    .rename_i hi;obtain ⟨x,hx1,hx2⟩:=hx i j row av h1 h2;refine ⟨x,?_,hext.rt hx2⟩;have hj:j<sz:=by rw [<- hrow row (p0 h1)];exact (IV.1 h2).1
     have:(i+1) * sz<=n * sz:=Jm _ hi;rw [JI] at this;rw [JC,I8 (by omega)];exact hx1
    .cases h1
  .rw [hLn k hlt];exact hext.obj (h.lay.objs k o ho) (hy' k o ho).2 fun g hg=>rfl
 .rcases hgetS k o h1 with ⟨rfl,_⟩ | ⟨hlt,hne,ho⟩<;>rcases hgetS k' o' h2 with ⟨rfl,_⟩ | ⟨hlt',hne',ho'⟩
  .rfl
  .rw [hLx,hvb] at h3;rw [hLn k' hlt'] at h4;exact absurd (h.lay.sep id k' _ o' g hid ho' h3 h4) hne'
  .rw [hLx,hvb] at h4;rw [hLn k hlt] at h3;exact absurd (h.lay.sep id k _ o g hid ho h4 h3) hne
  .rw [hLn k hlt] at h3;rw [hLn k' hlt'] at h4;exact h.lay.sep k k' o o' g ho ho' h3 h4
 .rcases hgetS k o hk with ⟨rfl,rfl⟩ | ⟨hlt,_,ho⟩
  .exact ⟨JQ _,trivial⟩
  .refine ⟨by omega,?_⟩;have:=(hy' k o ho).2
   cases o with
   | box t cells=>exact ah.2 fun x hx=>AV.lt_mono (JF _) (ah.1 this x hx)
   | row=>trivial
   | map=>trivial
   | nest e sz rows=>exact fun row hr=>ah.2 fun x hx=>AV.lt_mono (JF _) (ah.1 (this row hr) x hx)
   | ghost vs env=>exact cX (JF _) this
 .refine .osl _ _ fun sz' v'' hk=>?_;unfold Kx at hk;rw [bj,I8 rfl] at hk;simp at hk;rw [hLx] at hk;exact hk.2
end
end
section
theorem jw (off:Nat):∀ (l:List Value) (n:Nat) (cells:Array Value),off+n+l.length<=cells.size -> ∀ k,((l.zipIdx n).foldl (fun cs (p:Value × Nat)=>cs.setIfInBounds (off+p.2) p.1) cells)[k]? = if off+n<=k /\ k<off+n+l.length then l[k - (off+n)]? else cells[k]?
 | [],n,cells,_,k=>by simp;omega
 | v :: l,n,cells,h,k=>by
  simp only [List.zipIdx_cons,List.foldl_cons,Jh] at h ⊢;rw [jw off l (n+1) _ (by simp;omega)];by_cases h1:off+n=k
  .subst h1;rw [I4 (by omega),I8 (by omega),Array.getElem?_setIfInBounds_self_of_lt (by omega)];simp
  .by_cases h2:off+(n+1)<=k /\ k<off+(n+1)+l.length
   .rw [I8 h2,I8 (by omega)];rw [show k - (off+n)=(k - (off+(n+1)))+1 by omega,Kh]
   .rw [I4 h2,I4 (by omega),Array.getElem?_setIfInBounds_ne h1]
theorem tw (off:Nat) (v:Array Value) (cells:Array Value) (h:off+v.size<=cells.size):(v.zipIdx.foldl (fun cs (p:Value × Nat)=>cs.setIfInBounds (off+p.2) p.1) cells)=(cells.toList.take off ++ v.toList ++ cells.toList.drop (off+v.size)).toArray:=by
 have e:v.zipIdx.foldl (fun cs (p:Value × Nat)=>cs.setIfInBounds (off+p.2) p.1) cells=(v.toList.zipIdx 0).foldl (fun cs (p:Value × Nat)=>cs.setIfInBounds (off+p.2) p.1) cells:=by
  rw [<- Array.foldl_toList]
  congr 1
  simp
 rw [e];apply Array.ext_getElem?;intro k;rw [jw off v.toList 0 cells (by simpa using h) k];have:=cF cells.toList off v.toList (by simpa using h) k;simp only [Js] at this;simp only [Kc,this,Js,Nat.add_zero];simp
theorem nk (sz:Nat):∀ (parts:List (Nat × Value)) (k:Nat) (cells:Array Value),parts.map (·.1)=List.range' k parts.length -> (∀ p ∈ parts,p.2.cells.size=sz) -> cells.size=(k+parts.length) * sz ->
  ∃ c:Array Value,Instr.fill (fun i=>some (i * sz,sz)) cells parts=some c /\ c.toList=cells.toList.take (k * sz) ++ parts.flatMap (·.2.cells.toList)
 | [],k,cells,_,_,hs=>⟨cells,rfl,by simp at hs;simp [Jp,hs]⟩
 | (i,v) :: rest,k,cells,hi,hp,hs=>by
  simp only [JN,Jh,List.range'_succ,List.cons.injEq] at hi hs;obtain ⟨rfl,hi⟩:=hi;have hv:=hp (i,v) (by simp);simp only at hv;have hmul:(i+(rest.length+1)) * sz=i * sz+sz+rest.length * sz:=by rw [JI,JI];omega
  have hfit:i * sz+v.cells.size<=cells.size:=by rw [hs,hmul,hv];omega
  have hone:=tw (i * sz) v.cells cells hfit
  obtain ⟨c,h1,h2⟩:=nk sz rest (i+1) (cells.toList.take (i * sz) ++ v.cells.toList ++ cells.toList.drop (i * sz+v.cells.size)).toArray hi (fun p hp'=>hp p (by simp [hp'])) (by
   simp [hs,hv,hmul,JI]<;>omega)
  refine ⟨c,?_,?_⟩
  .unfold Instr.fill;simp only;rw [I4 (by simp [hv];omega)];rw [hone];exact h1
  .rw [h2];simp only [JY];rw [<- JJ]
   congr 1
   have hl:((cells.toList.take (i * sz)).length)=i * sz:=by
    rw [Jf];simp;omega
   rw [JZ (by simp [hl,hv,JI])];rw [Jp (by simp [hl,hv,JI])]
theorem iG {α β:Type} (f:α -> List β) (sz:Nat):∀ (l:List α),(∀ a ∈ l,(f a).length=sz) -> ∀ i j (h:i<l.length),j<sz -> (l.flatMap f)[i * sz+j]? = (f l[i])[j]?
 | [],_,i,_,h,_=>absurd h (by simp)
 | a :: l,hs,i,j,h,hj=>by
  rw [JY];have ha:=hs a (by simp)
  cases i with
  | zero=>rw [KK,Kl,JD (by omega)];rfl
  | succ i=>
   rw [JG (by rw [ha,JI];omega),ha,show (i+1) * sz+j - sz=i * sz+j by rw [JI];omega];exact iG f sz l (fun a h=>hs a (by simp [h])) i j (by simpa using h) hj
theorem fD {α β:Type} (f:α -> List β) (sz:Nat):∀ (l:List α),(∀ a ∈ l,(f a).length=sz) -> (l.flatMap f).length=l.length * sz
 | [],_=>by simp
 | a :: l,hs=>by
  rw [JY,I0,hs a (by simp),fD f sz l (fun a h=>hs a (by simp [h])),Jh,JI];omega
def aQ:AV -> Prop
 | .osl _=>False
 | .op _ _ _=>False
 | .agg _=>False
 | .tup _=>False
 | .fn _ _=>False
 | .bfn _ _=>False
 | _=>True
def aI:List AV -> Prop
 | []=>True
 | a :: l=>aQ a /\ aI l
theorem dH:∀ {l:List AV},aI l ↔ ∀ a ∈ l,aQ a
 | []=>by simp [aI]
 | a :: l=>by simp [aI,dH (l:=l)]
section
variable {P:Program} {cx:Cx} {a:Act} {w w':World} {tab:ag} {st:ai} {L:Nat -> Value} {nx:Nat}
theorem dA {x:Value} {av:AV} (h:bn cx w tab L x av) (ht:aQ av):RT w (Sx cx w tab L) x av:=by
 cases h with
 | tree h=>exact h
 | osl=>exact ht.elim
 | op=>exact ht.elim
 | agg=>exact ht.elim
 | tup=>exact ht.elim
 | fn=>exact ht.elim
 | bfn=>exact ht.elim
theorem sc {t e sz by_:Nat} (h:aH cx a w st L) (h0:0<sz) {cells:Array Value} {rows:List (List AV)} (hr:∀ row ∈ rows,row.length=sz) (hn:cells.size=rows.length * sz) (hm:rows.length<=9223372036854775807) (h1:∀ x ∈ cells,x.oneCell'=true)
  (hx:∀ (i j:Nat) (row:List AV) (av:AV),rows[i]? = some row -> row[j]? = some av -> ∃ x,cells[i * sz+j]? = some x /\ RT w (Sx cx w st.tab L) x av) (dst:Option Nat) :
  aH cx (a.put dst (.slice (some ⟨w.heap.size,0,none⟩) rows.length rows.length)) (w.alloc (.cells cells e)) ({ st with tab:=(st.next,some (.row e sz rows)) :: st.tab,next:=st.next+1 }.put dst (.osl st.next)) (bc L st.next (.slice (some ⟨w.heap.size,0,none⟩) rows.length rows.length)):=by
 refine gm (ob:=.row e sz rows) (v:=.slice (some ⟨w.heap.size,0,none⟩) rows.length rows.length) h ((Below.refl _ _).alloc (I6 _) _) (fun g hg=>?_) (fun hext=>⟨hr,cells.toList,⟨by simpa using hn,.inr ⟨w.heap.size,_,cells,rfl,h.lay.below.size,heap_alloc_new w _,I6 _,by simpa [maxLen] using hm,Nat.le_of_eq hn.symm,?_⟩⟩,fun x hx'=>h1 x (by simpa using hx'),fun i j row av ha hb=>?_⟩) trivial (fun hext=>?_) (JQ _) dst
 .simp [aG] at hg;omega
 .exact Jp (by simp [hn])
 .obtain ⟨x,hx1,hx2⟩:=hx i j row av ha hb;exact ⟨x,by simpa using hx1,hext.rt hx2⟩
 .refine .osl _ _ fun sz' v'' hk=>?_;simp [Kx,ag.gc,bc] at hk;exact hk.2
theorem oV {t e sz by_:Nat} (h:aH cx a w st L) (h0:0<sz) {cells:Array Value} {rows:List (List AV)} (hr:∀ row ∈ rows,row.length=sz) (hn:cells.size=rows.length * sz) (hm:rows.length<=9223372036854775807) (h1:∀ x ∈ cells,x.oneCell'=true)
  (hx:∀ (i j:Nat) (row:List AV) (av:AV),rows[i]? = some row -> row[j]? = some av -> ∃ x,cells[i * sz+j]? = some x /\ bn cx w st.tab L x av) (hlt:∀ row ∈ rows,AV.ltL st.next row) (dst:Option Nat) :
  aH cx (a.put dst (.slice (some ⟨w.heap.size,0,none⟩) rows.length rows.length)) (w.alloc (.cells cells e)) ({ st with tab:=(st.next,some (.nest e sz rows)) :: st.tab,next:=st.next+1 }.put dst (.osl st.next)) (bc L st.next (.slice (some ⟨w.heap.size,0,none⟩) rows.length rows.length)):=by
 refine gm (ob:=.nest e sz rows) (v:=.slice (some ⟨w.heap.size,0,none⟩) rows.length rows.length) h ((Below.refl _ _).alloc (I6 _) _) (fun g hg=>?_) (fun hext=>⟨hr,cells.toList,⟨by simpa using hn,.inr ⟨w.heap.size,_,cells,rfl,h.lay.below.size,heap_alloc_new w _,I6 _,by simpa [maxLen] using hm,Nat.le_of_eq hn.symm,?_⟩⟩,fun x hx'=>h1 x (by simpa using hx'),fun i j row av ha hb=>?_⟩) (fun row hr=>ah.2 fun x hx=>AV.lt_mono (JF _) (ah.1 (hlt row hr) x hx)) (fun hext=>?_) (JQ _) dst
 .simp [aG] at hg;omega
 .exact Jp (by simp [hn])
 .obtain ⟨x,hx1,hx2⟩:=hx i j row av ha hb;exact ⟨x,by simpa using hx1,hext.rv hx2 (ah.1 (hlt row (p0 ha)) _ (p0 hb))⟩
 .refine .osl _ _ fun sz' v'' hk=>?_;simp [Kx,ag.gc,bc] at hk;exact hk.2
mutual
def AV.frz (id sz:Nat) (rows:List (List AV)):AV -> AV
 | .osl k=>if k=id then .sl sz rows else .osl k
 | .agg cs=>.agg (AV.frzL id sz rows cs)
 | .tup cs=>.tup (AV.frzL id sz rows cs)
 | .fn f cs=>.fn f (AV.frzL id sz rows cs)
 | .bfn f cs=>.bfn f (AV.frzL id sz rows cs)
 | .op k i j=>.op k i j
 | .any=>.any
 | .c v=>.c v
 | .sl sz rows=>.sl sz rows
 | .rp cs=>.rp cs
def AV.frzL (id sz:Nat) (rows:List (List AV)):List AV -> List AV
 | []=>[]
 | a :: l=>a.frz id sz rows :: AV.frzL id sz rows l
end
theorem bR (id sz:Nat) (rows:List (List AV)):∀ l:List AV,AV.frzL id sz rows l=l.map (·.frz id sz rows)
 | []=>rfl
 | a :: l=>by simp [AV.frzL,bR id sz rows l]
def eT (id sz:Nat) (rows:List (List AV)):List (Nat × AV) -> List (Nat × AV)
 | []=>[]
 | (t,av) :: l=>(t,av.frz id sz rows) :: eT id sz rows l
def aE.frz (id sz:Nat) (rows:List (List AV)):aE -> aE
 | .box t cells=>.box t (AV.frzL id sz rows cells)
 | .row e s r=>.row e s r
 | .nest e s r=>.nest e s (r.map (AV.frzL id sz rows))
 | .map ents=>.map ents
 | .ghost vs env=>.ghost vs (eT id sz rows env)
def bP (id sz:Nat) (rows:List (List AV)):ag -> ag
 | []=>[]
 | (k,o) :: l=>(k,o.map (aE.frz id sz rows)) :: bP id sz rows l
theorem bU (id sz:Nat) (rows:List (List AV)):∀ (l:ag) (k:Nat),(bP id sz rows l).get k=(l.get k).map (aE.frz id sz rows)
 | [],k=>by simp [bP,ag.get]
 | (q,o) :: l,k=>by
  simp only [bP,ag.gc];split
  .rfl
  .exact bU id sz rows l k
theorem AB (id sz:Nat) (rows:List (List AV)) (o:aE):(o.frz id sz rows).sz=o.sz:=by cases o<;>simp [aE.frz,aE.sz,bR]
def fo (st:ai) (id:Nat):ai:=
 match st.tab.get id with
 | some (.row _ sz rows)=>{ st with env:=eT id sz rows st.env,tab:=(id,none) :: bP id sz rows st.tab }
 | _=>st
def dt (st:ai):List Nat -> ai
 | []=>st
 | id :: ids=>dt (fo st id) ids
def fu:List AV -> List Nat
 | []=>[]
 | .osl id :: l=>id :: fu l
 | _ :: l=>fu l
theorem jZ (id sz:Nat) (rows:List (List AV)):∀ (l:List (Nat × AV)) (t:Nat),a7 (eT id sz rows l) t=(a7 l t).frz id sz rows
 | [],t=>by simp [eT,a7,AV.frz]
 | (k,av) :: l,t=>by
  simp only [eT,a7];split
  .rfl
  .exact jZ id sz rows l t
theorem jQ {id sz nx:Nat} {rows:List (List AV)}:∀ {av:AV},av.lt nx -> (av.frz id sz rows).lt nx:=by
 intro av
 induction av using AV.rec (motive_2:=fun _=>True) (motive_3:=fun l=>AV.ltL nx l -> AV.ltL nx (AV.frzL id sz rows l))<;>simp_all [AV.lt,AV.ltL,AV.frz,AV.frzL]
 split<;>simp_all [AV.lt]
theorem F8 {e:TypeId} {sz:Nat} {v:Value} {rows:List (List AV)} {S:Nat -> Prop} (h:eG cx w tab L v (.row e sz rows)) (hS:∀ b,Sx cx w tab L b -> S b) (hg:∀ g,aG v=some g -> S g):RT w S v (.sl sz rows):=by
 obtain ⟨hrow,xs,hown,hone,hx⟩:=h
 have hm:∀ i j row av,rows[i]? = some row -> row[j]? = some av -> (xs[i * sz+j]?.getD undef).oneCell'=true /\ RT w S (xs[i * sz+j]?.getD undef) av /\ ∃ x,xs[i * sz+j]? = some x:=fun i j row av h1 h2=>by
  obtain ⟨x,hx1,hx2⟩:=hx i j row av h1 h2;rw [hx1];exact ⟨hone x (p0 hx1),hx2.mono (fun _ _=>rfl) hS,x,rfl⟩
 rcases hown.2 with ⟨rfl,h0⟩|⟨g,cap,cur,rfl,hb,hgh,hc,hm',_⟩
 .exact .sl none _ 0 sz rows 0 0 (fun i j=>xs[i * sz+j]?.getD undef) h0.symm (I6 _) (by omega) (fun h=>by omega) hrow (fun h=>by omega) (fun i j row av h1 h2=>(hm i j row av h1 h2).1) (fun i j row av h1 h2=>(hm i j row av h1 h2).2.1)
 .refine .sl _ _ cap sz rows g 0 (fun i j=>xs[i * sz+j]?.getD undef) rfl hc (by simpa [maxLen] using hm') (fun _=>⟨rfl,hg g rfl⟩) hrow (fun _ i j row av h1 h2=>?_) (fun i j row av h1 h2=>(hm i j row av h1 h2).1) (fun i j row av h1 h2=>(hm i j row av h1 h2).2.1);obtain ⟨x,hx⟩:=(hm i j row av h1 h2).2.2;have:=hown.cells (g:=g) rfl _ x hx;rw [dK] at this;rw [hx,Kl];exact this
theorem nw {e id sz:Nat} {rows:List (List AV)} (hL:fZ cx w tab L) (hy:∀ id o,tab.get id=some o -> o.lt nx) (hid:tab.get id=some (.row e sz rows)) :
  fZ cx w ((id,none) :: bP id sz rows tab) L /\ ∀ x av,bn cx w tab L x av -> av.lt nx -> bn cx w ((id,none) :: bP id sz rows tab) L x (av.frz id sz rows):=by
  have ht:∀ k,ag.get ((id,none) :: bP id sz rows tab) k=if k=id then none else (tab.get k).map (aE.frz id sz rows):=fun k=>by rw [ag.gc,bU]
  have hsub:∀ k o,ag.get ((id,none) :: bP id sz rows tab) k=some o -> k ≠ id /\ ∃ o',tab.get k=some o' /\ o=o'.frz id sz rows:=fun k o hk=>by
   rw [ht] at hk;split at hk
   .cases hk
   .cases hg:tab.get k with
    | none=>simp [hg] at hk
    | some o'=>
     simp [hg] at hk;exact ⟨by assumption,o',rfl,hk.symm⟩
  have hext:iu cx w tab L nx w ((id,none) :: bP id sz rows tab) L:=by
   refine ⟨fun _ _=>rfl,fun b hb=>⟨hb.1,hb.2.1,fun k o hk=>by obtain ⟨_,o',h1,_⟩:=hsub k o hk;exact hb.2.2 k o' h1⟩,fun k p _ hk=>?_⟩;unfold Kx at *;rw [ht] at hk;split at hk
   .cases hk
   .cases hg:tab.get k with
    | none=>simp [hg] at hk
    | some o'=>
     simp [hg,AB] at hk ⊢;exact hk
  have hob:=hL.objs id _ hid
  have hrow:RT w (Sx cx w ((id,none) :: bP id sz rows tab) L) (L id) (.sl sz rows):=F8 hob hext.sub fun g hg=>⟨(hob.ge hg).2,⟨.inr (hob.ge hg).1,fun hX=>(hL.ex g hX).2 id _ hid hg⟩,fun k o hk hg'=>by
   obtain ⟨h1,o',h2,_⟩:=hsub k o hk;exact h1 (hL.sep k id o' _ g h2 hid hg' hg)⟩
  have conv:∀ x av,bn cx w tab L x av -> av.lt nx -> bn cx w ((id,none) :: bP id sz rows tab) L x (av.frz id sz rows):=fun x av hr=>by
   induction hr with
   | tree h0=>
    intro hl
    have e1:∀ {x av},RT w (Sx cx w tab L) x av -> av.frz id sz rows=av:=fun hh=>by
     induction hh with
     | agg xs cs hn hr ih=>
      simp only [AV.frz,bR,AV.agg.injEq];apply JH;intro j;rw [IW]
      cases hj:cs[j]? with
      | none=>rfl
      | some av=>
       have hlt:j<xs.size:=by rw [hn];exact (IV.1 hj).1
       simp [ih j _ av (IX hlt) hj]
     | tup xs cs hn hr ih=>
      simp only [AV.frz,bR,AV.tup.injEq];apply JH;intro j;rw [IW]
      cases hj:cs[j]? with
      | none=>rfl
      | some av=>
       have hlt:j<xs.size:=by rw [hn];exact (IV.1 hj).1
       simp [ih j _ av (IX hlt) hj]
     | fn fi xs cs hn hr ih=>
      simp only [AV.frz,bR,AV.fn.injEq,true_and];apply JH;intro j;rw [IW]
      cases hj:cs[j]? with
      | none=>rfl
      | some av=>
       have hlt:j<xs.size:=by rw [hn];exact (IV.1 hj).1
       simp [ih j _ av (IX hlt) hj]
     | bfn fi xs cs hn hr ih=>
      simp only [AV.frz,bR,AV.bfn.injEq,true_and];apply JH;intro j;rw [IW]
      cases hj:cs[j]? with
      | none=>rfl
      | some av=>
       have hlt:j<xs.size:=by rw [hn];exact (IV.1 hj).1
       simp [ih j _ av (IX hlt) hj]
     | _=>simp [AV.frz]
    rw [e1 h0];exact .tree (hext.rt h0)
   | osl x k hk=>
    intro hl;simp only [AV.frz];split
    .rename_i e1;subst e1;rw [hk _ _ (bZ hid)];exact .tree hrow
    .exact hext.rv (.osl x k hk) hl
   | op x k i j hk=>
    intro hl;exact hext.rv (.op x k i j hk) hl
   | agg xs cs hn hr ih=>
    intro hl;simp only [AV.frz,bR];refine .agg xs _ (by simpa using hn) fun j x av h1 h2=>?_;rw [IW] at h2
    cases hj:cs[j]? with
    | none=>simp [hj] at h2
    | some av'=>
     simp [hj] at h2;subst h2;exact ih j x av' h1 hj (ah.1 hl _ (p0 hj))
   | tup xs cs hn hr ih=>
    intro hl;simp only [AV.frz,bR];refine .tup xs _ (by simpa using hn) fun j x av h1 h2=>?_;rw [IW] at h2
    cases hj:cs[j]? with
    | none=>simp [hj] at h2
    | some av'=>
     simp [hj] at h2;subst h2;exact ih j x av' h1 hj (ah.1 hl _ (p0 hj))
   | fn fi xs cs hn hr ih=>
    intro hl;simp only [AV.frz,bR];refine .fn fi xs _ (by simpa using hn) fun j x av h1 h2=>?_;rw [IW] at h2
    cases hj:cs[j]? with
    | none=>simp [hj] at h2
    | some av'=>
     simp [hj] at h2;subst h2;exact ih j x av' h1 hj (ah.1 hl _ (p0 hj))
   | bfn fi xs cs hn hr ih=>
    intro hl;simp only [AV.frz,bR];refine .bfn fi xs _ (by simpa using hn) fun j x av h1 h2=>?_;rw [IW] at h2
    cases hj:cs[j]? with
    | none=>simp [hj] at h2
    | some av'=>
     simp [hj] at h2;subst h2;exact ih j x av' h1 hj (ah.1 hl _ (p0 hj))
  refine ⟨⟨hL.below,fun k o hk=>?_,fun k k' o o' g h1 h2=>?_,fun b hb'=>⟨(hL.ex b hb').1,fun k o hk=>?_⟩⟩,conv⟩
  rotate_left 2
  .obtain ⟨_,o',h1,_⟩:=hsub k o hk;exact (hL.ex b hb').2 k o' h1
  .obtain ⟨_,o',h1,rfl⟩:=hsub k o hk;have ho:=hL.objs k o' h1;have hlo:=hy k o' h1
   cases o' with
   | row e' s r=>exact hext.obj ho hlo fun _ _=>rfl
   | box t cells=>
    obtain ⟨g,cs,h2,h3,h4,h5,h6⟩:=ho;refine ⟨g,cs,h2,h3,h4,by simpa [bR] using h5,fun j x av h7 h8=>?_⟩;rw [bR,IW] at h8
    cases hj:cells[j]? with
    | none=>simp [hj] at h8
    | some av'=>
     simp [hj] at h8;subst h8;exact ⟨conv x av' (h6 j x av' h7 hj).1 (ah.1 hlo _ (p0 hj)),(h6 j x av' h7 hj).2⟩
   | map ents=>exact hext.obj (o:=.map ents) ho hlo fun _ _=>rfl
   | nest e' s r=>
    obtain ⟨h2,xs,h3,h4,h5⟩:=ho;refine ⟨fun row hr=>?_,xs,by simpa using h3,h4,fun i j row av h7 h8=>?_⟩
    .obtain ⟨row',hr',rfl⟩:=I7.1 hr;rw [bR,Jd];exact h2 row' hr'
    .rw [IW] at h7
     cases hi:r[i]? with
     | none=>simp [hi] at h7
     | some row'=>
      simp [hi] at h7;subst h7;rw [bR,IW] at h8
      cases hj:row'[j]? with
      | none=>simp [hj] at h8
      | some av'=>
       simp [hj] at h8;subst h8;obtain ⟨x,h9,h10⟩:=h5 i j row' av' hi hj;exact ⟨x,h9,conv x av' h10 (ah.1 (hlo row' (p0 hi)) _ (p0 hj))⟩
   | ghost vs env=>
    refine ⟨ho.1,fun t ht=>?_⟩;rw [jZ];exact conv _ _ (ho.2 t ht) (fB hlo t)
  .obtain ⟨_,o1,h3,_⟩:=hsub k o h1;obtain ⟨_,o2,h4,_⟩:=hsub k' o' h2;exact hL.sep k k' o1 o2 g h3 h4
theorem pn {id sz nx:Nat} {rows:List (List AV)}:∀ {l:List (Nat × AV)},cb nx l -> cb nx (eT id sz rows l)
 | [],_=>trivial
 | (_,_) :: _,h=>⟨jQ h.1,pn h.2⟩
theorem j1 {id sz nx:Nat} {rows:List (List AV)} {o:aE} (h:o.lt nx):(o.frz id sz rows).lt nx:=by
 cases o with
 | row=>trivial
 | box t cells=>
  show AV.ltL nx _;rw [bR];refine ah.2 fun a ha=>?_;obtain ⟨b,hb,rfl⟩:=I7.1 ha;exact jQ (ah.1 h b hb)
 | map=>trivial
 | nest e s r=>
  intro row hr;obtain ⟨row',hr',rfl⟩:=I7.1 hr;rw [bR];refine ah.2 fun a ha=>?_;obtain ⟨b,hb,rfl⟩:=I7.1 ha;exact jQ (ah.1 (h row' hr') b hb)
 | ghost vs env=>exact pn h
def pj (st:ai) (id:Nat) (av:AV):AV:=
 match st.tab.get id with
 | some (.row _ sz rows)=>av.frz id sz rows
 | _=>av
theorem lg (h:aH cx a w st L) (id:Nat):aH cx a w (fo st id) L /\ ∀ x av,bn cx w st.tab L x av -> av.lt st.next -> bn cx w (fo st id).tab L x (pj st id av) /\ (pj st id av).lt (fo st id).next:=by
 unfold fo pj;split
 .rename_i e sz rows hid;obtain ⟨h1,h2⟩:=nw h.lay (fun k o hk=>(h.young k o hk).2) hid;refine ⟨⟨h1,h.size,h.defers.mono (fun _ _=>rfl) fun b hb=>⟨hb.1,hb.2.1,fun k o hk=>?_⟩,fun k o hk=>?_,fun t=>?_⟩,fun x av h3 h4=>⟨h2 x av h3 h4,jQ h4⟩⟩
  .rw [ag.gc,bU] at hk;split at hk
   .cases hk
   .cases hg:st.tab.get k with
    | none=>simp [hg] at hk
    | some o'=>exact hb.2.2 k o' hg
  .simp only [ag.gc,bU] at hk;split at hk
   .cases hk
   .cases hg:st.tab.get k with
    | none=>simp [hg] at hk
    | some o'=>
     simp [hg] at hk;subst hk;exact ⟨(h.young k o' hg).1,j1 (h.young k o' hg).2⟩
  .have e1:({ st with env:=eT id sz rows st.env,tab:=(id,none) :: bP id sz rows st.tab }:ai).get t=(st.get t).frz id sz rows:=by
    unfold ai.get;simp only;split
    .exact jZ ..
    .simp [AV.frz]
   rw [e1];exact ⟨h2 _ _ (h.env t).1 (h.env t).2,jQ (h.env t).2⟩
 .exact ⟨h,fun x av h1 h2=>⟨h1,h2⟩⟩
def eZ (st:ai):List Nat -> List AV -> List AV
 | [],l=>l
 | id :: ids,l=>eZ (fo st id) ids (l.map (pj st id))
theorem fp:∀ (ids:List Nat) {st:ai},aH cx a w st L -> aH cx a w (dt st ids) L
 | [],_,h=>h
 | id :: ids,_,h=>fp ids (lg h id).1
theorem ly:∀ (ids:List Nat) {st:ai} {vs:Array Value} {avs:List AV},aH cx a w st L -> (∀ (j:Nat) (v:Value) (av:AV),vs[j]? = some v -> avs[j]? = some av -> bn cx w st.tab L v av /\ av.lt st.next) ->
  (eZ st ids avs).length=avs.length /\ ∀ (j:Nat) (v:Value) (av:AV),vs[j]? = some v -> (eZ st ids avs)[j]? = some av -> bn cx w (dt st ids).tab L v av /\ av.lt (dt st ids).next
 | [],_,_,_,_,hv=>⟨rfl,hv⟩
 | id :: ids,st,vs,avs,h,hv=>by
  have h1:=lg h id
  obtain ⟨h2,h3⟩:=ly ids (vs:=vs) (avs:=avs.map (pj st id)) h1.1 fun j v av h4 h5=>by
   rw [IW] at h5
   cases hj:avs[j]? with
   | none=>simp [hj] at h5
   | some av'=>
    simp [hj] at h5;subst h5;exact h1.2 v av' (hv j v av' h4 hj).1 (hv j v av' h4 hj).2
  exact ⟨by rw [eZ,h2,Jd],h3⟩
def me:AV -> Prop
 | .fn _ cs=>aI cs
 | .bfn _ cs=>aI cs
 | a=>aQ a
def eY:List AV -> Prop
 | []=>True
 | a :: l=>me a /\ eY l
theorem gW:∀ {l:List AV} {a:AV},eY l -> a ∈ l -> me a
 | b :: l,a,h,hm=>(JO.1 hm).elim (fun e=>e ▸ h.1) fun h2=>gW h.2 h2
theorem Dl {v:Value}:me (.c v)=True:=rfl
theorem Ao {sz:Nat} {rows:List (List AV)}:me (.sl sz rows)=True:=rfl
theorem Bs {f:FuncId} {cs:List AV}:me (.fn f cs)=aI cs:=rfl
theorem nL {x:Value} {av:AV} (h:bn cx w tab L x av) (ht:me av):RT w (Sx cx w tab L) x av:=by
 cases av with
 | fn f cs=>
  obtain ⟨xs,rfl,hn,hr⟩:=h.fn_inv;exact .fn f xs cs hn fun j x av h1 h2=>dA (hr j x av h1 h2) (dH.1 ht _ (p0 h2))
 | bfn f cs=>
  obtain ⟨xs,rfl,hn,hr⟩:=h.bfn_inv;exact .bfn f xs cs hn fun j x av h1 h2=>dA (hr j x av h1 h2) (dH.1 ht _ (p0 h2))
 | _=>exact dA h ht
def sO (tab:ag) (sz:Nat):List AV -> Prop
 | []=>True
 | x :: l=>(aj x).length=sz /\ cH tab (aj x) /\ eY (aj x) /\ sO tab sz l
theorem sg {sz:Nat}:∀ {l:List AV},sO tab sz l ↔ ∀ x ∈ l,(aj x).length=sz /\ cH tab (aj x) /\ eY (aj x)
 | []=>by simp [sO]
 | x :: l=>by simp [sO,sg (l:=l),and_assoc]
theorem jq {t e sz by_:Nat} {parts:List (Nat × Operand)} (h:aH cx a w st L) (ht:cl P t=some (e,sz,by_)) (hp:parts.map (·.1)=List.range' 0 parts.length) (hlen:parts.length * sz<=16777216)
  (hl:sO st.tab sz (parts.map fun p=>aU st p.2)) (dst:Option Nat) :
  ∃ v' w' L',(Instr.buildSlice t parts.length (parts.toArray.map fun (p:Nat × Operand)=>(p.1,a.eval p.2))).run P w=.ok v' w' /\
   aH cx (a.put dst v') w' ({ st with tab:=(st.next,some (.row e sz (parts.map fun (p:Nat × Operand)=>aj (aU st p.2)))) :: st.tab,next:=st.next+1 }.put dst (.osl st.next)) L' /\
   Below w.heap.size w w' /\ L'=bc L st.next v' /\ aG v'=some w.heap.size:=by
 obtain ⟨i,z,hund,hi,hz,hs,hb,hzs,hsz⟩:=dB ht;have hl':=sg.1 hl
 have hcell:∀ p ∈ parts,(a.eval p.2).cells.size=sz /\ ∀ (j:Nat) (x:Value) (av:AV),(a.eval p.2).cells[j]? = some x -> (aj (aU st p.2))[j]? = some av -> bn cx w st.tab L x av /\ x.oneCell'=true:=fun p hp'=>by
  have hm:=hl' (aU st p.2) (I7.2 ⟨p,hp',rfl⟩);have he:=ar h p.2;have:=eC h.lay he.1 he.2 hm.2.1;exact ⟨this.1.trans hm.1,this.2.2⟩
 obtain ⟨c,hc1,hc2⟩:=nk sz (parts.map fun p=>(p.1,a.eval p.2)) 0 ((Array.range (parts.length * sz)).map (z.cells[· % z.cells.size]!)) (by simpa [List.map_map,Function.comp_def] using hp) (fun p hp'=>by
  simp at hp';obtain ⟨i',o',hio,rfl⟩:=hp';exact (hcell _ hio).1) (by simp)
 simp only [KK,I5,JR,List.flatMap_map] at hc2
 have hrun:(Instr.buildSlice t parts.length (parts.toArray.map fun (p:Nat × Operand)=>(p.1,a.eval p.2))).run P w=.ok (.slice (some ⟨w.heap.size,0,none⟩) parts.length parts.length) (w.alloc (.cells c e)):=by
  have hnb:¬ (2 ^ 24<parts.length * sz):=by omega
  rcases KL parts.length with h0|hpos
  .have:parts=[]:=J5.1 h0;subst this
   have hce:c = #[]:=by
    rw [JX] at hc2;exact Array.toList_eq_nil_iff.1 hc2
   subst hce;simp [Instr.buildSlice,Sem.run_bind,run_underlying hund,sizeOf,typeInfo,hi,hs,zeroValue,hz,newRow,Instr.fill]
   congr 2
   exact Array.eq_empty_of_size_eq_zero (by simp)
  have hne:¬ parts.length * sz=0:=by
   intro e;rcases Nat.mul_eq_zero.1 e with e|e<;>omega
  simp [Instr.buildSlice,Sem.run_bind,run_underlying hund,sizeOf,typeInfo,hi,hs,hne,zeroValue,hz,newRow];rw [I4 (by omega)];simp [hzs] at hc1;simp [hzs,hc1]
 have hflat:∀ (i j:Nat) (hi':i<parts.length),j<sz -> c[i * sz+j]? = (a.eval parts[i].2).cells[j]?:=fun i j hi' hj=>by
  have:=iG (fun p:Nat × Operand=>(a.eval p.2).cells.toList) sz parts (fun p hp'=>by simpa using (hcell p hp').1) i j hi' hj;rw [<- JT,hc2,this];simp
 have hcs:c.size=parts.length * sz:=by
  rw [<- Js,hc2];exact fD _ _ _ fun p hp'=>by simpa using (hcell p hp').1
 have hrl:(parts.map fun p=>aj (aU st p.2)).length=parts.length:=by simp
 suffices hs:aH cx (a.put dst (.slice (some ⟨w.heap.size,0,none⟩) (parts.map fun (p:Nat × Operand)=>aj (aU st p.2)).length (parts.map fun (p:Nat × Operand)=>aj (aU st p.2)).length)) (w.alloc (.cells c e)) ({ st with tab:=(st.next,some (.row e sz (parts.map fun (p:Nat × Operand)=>aj (aU st p.2)))) :: st.tab,next:=st.next+1 }.put dst (.osl st.next)) (bc L st.next (.slice (some ⟨w.heap.size,0,none⟩) (parts.map fun (p:Nat × Operand)=>aj (aU st p.2)).length (parts.map fun (p:Nat × Operand)=>aj (aU st p.2)).length)) by
  rw [hrl] at hs;exact ⟨_,_,_,hrun,hs,(Below.refl _ _).alloc (I6 _) _,rfl,rfl⟩
 refine sc (t:=t) (by_:=by_) h hsz (fun row hr=>?_) (by rw [hrl];exact hcs) (by rw [hrl];have:parts.length<=parts.length * sz:=Nat.le_mul_of_pos_right _ hsz;omega) (fun x hx=>?_) (fun i j row av ha hb=>?_) dst
 .obtain ⟨p,hp',rfl⟩:=I7.1 hr;exact (hl' _ (I7.2 ⟨p,hp',rfl⟩)).1
 .rw [<- Array.mem_toList_iff,hc2] at hx;obtain ⟨p,hp',hx⟩:=List.mem_flatMap.1 hx;obtain ⟨k,hk,rfl⟩:=Jw hx;have hsz':=hcell p hp'
  have hk':k<(aj (aU st p.2)).length:=by
   rw [(hl' _ (I7.2 ⟨p,hp',rfl⟩)).1];simp at hk;omega
  simp at hk;exact (hsz'.2 k _ _ (IX hk) (IU hk')).2
 .rw [IW] at ha
  have hi':i<parts.length:=by
   rcases Jk i parts.length with hlt|hge
   .exact hlt
   .rw [Jq hge] at ha;cases ha
  rw [IU hi'] at ha;simp only [JV,KD] at ha;subst ha;have hm:=hl' _ (I7.2 ⟨_,IZ hi',rfl⟩);have hj:j<sz:=by rw [<- hm.1];exact (IV.1 hb).1
  have hc:=hcell _ (IZ hi');have hjc:j<(a.eval parts[i].2).cells.size:=by omega
  exact ⟨_,by rw [hflat i j hi' hj];exact IX hjc,nL (hc.2 j _ _ (IX hjc) hb).1 (gW hm.2.2 (p0 hb))⟩
def lY (tab:ag) (sz:Nat):List AV -> Prop
 | []=>True
 | x :: l=>(aj x).length=sz /\ cH tab (aj x) /\ lY tab sz l
theorem pq {sz:Nat}:∀ {l:List AV},lY tab sz l ↔ ∀ x ∈ l,(aj x).length=sz /\ cH tab (aj x)
 | []=>by simp [lY]
 | x :: l=>by simp [lY,pq (l:=l),and_assoc]
theorem pN {t e sz by_:Nat} {parts:List (Nat × Operand)} (h:aH cx a w st L) (ht:cl P t=some (e,sz,by_)) (hp:parts.map (·.1)=List.range' 0 parts.length) (hlen:parts.length * sz<=16777216)
  (hl:lY st.tab sz (parts.map fun p=>aU st p.2)) (dst:Option Nat) :
  ∃ v' w' L',(Instr.buildSlice t parts.length (parts.toArray.map fun (p:Nat × Operand)=>(p.1,a.eval p.2))).run P w=.ok v' w' /\
   aH cx (a.put dst v') w' ({ st with tab:=(st.next,some (.nest e sz (parts.map fun (p:Nat × Operand)=>aj (aU st p.2)))) :: st.tab,next:=st.next+1 }.put dst (.osl st.next)) L' /\
   Below w.heap.size w w' /\ L'=bc L st.next v' /\ aG v'=some w.heap.size:=by
 obtain ⟨i,z,hund,hi,hz,hs,hb,hzs,hsz⟩:=dB ht;have hl':=pq.1 hl
 have hcell:∀ p ∈ parts,(a.eval p.2).cells.size=sz /\ ∀ (j:Nat) (x:Value) (av:AV),(a.eval p.2).cells[j]? = some x -> (aj (aU st p.2))[j]? = some av -> bn cx w st.tab L x av /\ x.oneCell'=true:=fun p hp'=>by
  have hm:=hl' (aU st p.2) (I7.2 ⟨p,hp',rfl⟩);have he:=ar h p.2;have:=eC h.lay he.1 he.2 hm.2;exact ⟨this.1.trans hm.1,this.2.2⟩
 have hltp:∀ p ∈ parts,AV.ltL st.next (aj (aU st p.2)):=fun p hp'=>by
  have hm:=hl' (aU st p.2) (I7.2 ⟨p,hp',rfl⟩);have he:=ar h p.2;exact (eC h.lay he.1 he.2 hm.2).2.1
 obtain ⟨c,hc1,hc2⟩:=nk sz (parts.map fun p=>(p.1,a.eval p.2)) 0 ((Array.range (parts.length * sz)).map (z.cells[· % z.cells.size]!)) (by simpa [List.map_map,Function.comp_def] using hp) (fun p hp'=>by
  simp at hp';obtain ⟨i',o',hio,rfl⟩:=hp';exact (hcell _ hio).1) (by simp)
 simp only [KK,I5,JR,List.flatMap_map] at hc2
 have hrun:(Instr.buildSlice t parts.length (parts.toArray.map fun (p:Nat × Operand)=>(p.1,a.eval p.2))).run P w=.ok (.slice (some ⟨w.heap.size,0,none⟩) parts.length parts.length) (w.alloc (.cells c e)):=by
  have hnb:¬ (2 ^ 24<parts.length * sz):=by omega
  rcases KL parts.length with h0|hpos
  .have:parts=[]:=J5.1 h0;subst this
   have hce:c = #[]:=by
    rw [JX] at hc2;exact Array.toList_eq_nil_iff.1 hc2
   subst hce;simp [Instr.buildSlice,Sem.run_bind,run_underlying hund,sizeOf,typeInfo,hi,hs,zeroValue,hz,newRow,Instr.fill]
   congr 2
   exact Array.eq_empty_of_size_eq_zero (by simp)
  have hne:¬ parts.length * sz=0:=by
   intro e;rcases Nat.mul_eq_zero.1 e with e|e<;>omega
  simp [Instr.buildSlice,Sem.run_bind,run_underlying hund,sizeOf,typeInfo,hi,hs,hne,zeroValue,hz,newRow];rw [I4 (by omega)];simp [hzs] at hc1;simp [hzs,hc1]
 have hflat:∀ (i j:Nat) (hi':i<parts.length),j<sz -> c[i * sz+j]? = (a.eval parts[i].2).cells[j]?:=fun i j hi' hj=>by
  have:=iG (fun p:Nat × Operand=>(a.eval p.2).cells.toList) sz parts (fun p hp'=>by simpa using (hcell p hp').1) i j hi' hj;rw [<- JT,hc2,this];simp
 have hcs:c.size=parts.length * sz:=by
  rw [<- Js,hc2];exact fD _ _ _ fun p hp'=>by simpa using (hcell p hp').1
 have hrl:(parts.map fun p=>aj (aU st p.2)).length=parts.length:=by simp
 suffices hs:aH cx (a.put dst (.slice (some ⟨w.heap.size,0,none⟩) (parts.map fun (p:Nat × Operand)=>aj (aU st p.2)).length (parts.map fun (p:Nat × Operand)=>aj (aU st p.2)).length)) (w.alloc (.cells c e)) ({ st with tab:=(st.next,some (.nest e sz (parts.map fun (p:Nat × Operand)=>aj (aU st p.2)))) :: st.tab,next:=st.next+1 }.put dst (.osl st.next)) (bc L st.next (.slice (some ⟨w.heap.size,0,none⟩) (parts.map fun (p:Nat × Operand)=>aj (aU st p.2)).length (parts.map fun (p:Nat × Operand)=>aj (aU st p.2)).length)) by
  rw [hrl] at hs;exact ⟨_,_,_,hrun,hs,(Below.refl _ _).alloc (I6 _) _,rfl,rfl⟩
 refine oV (t:=t) (by_:=by_) h hsz (fun row hr=>?_) (by rw [hrl];exact hcs) (by rw [hrl];have:parts.length<=parts.length * sz:=Nat.le_mul_of_pos_right _ hsz;omega) (fun x hx=>?_) (fun i j row av ha hb=>?_) (fun row hr=>by
  obtain ⟨p,hp',rfl⟩:=I7.1 hr;exact hltp p hp') dst
 .obtain ⟨p,hp',rfl⟩:=I7.1 hr;exact (hl' _ (I7.2 ⟨p,hp',rfl⟩)).1
 .rw [<- Array.mem_toList_iff,hc2] at hx;obtain ⟨p,hp',hx⟩:=List.mem_flatMap.1 hx;obtain ⟨k,hk,rfl⟩:=Jw hx;have hsz':=hcell p hp'
  have hk':k<(aj (aU st p.2)).length:=by
   rw [(hl' _ (I7.2 ⟨p,hp',rfl⟩)).1];simp at hk;omega
  simp at hk;exact (hsz'.2 k _ _ (IX hk) (IU hk')).2
 .rw [IW] at ha
  have hi':i<parts.length:=by
   rcases Jk i parts.length with hlt|hge
   .exact hlt
   .rw [Jq hge] at ha;cases ha
  rw [IU hi'] at ha;simp only [JV,KD] at ha;subst ha;have hm:=hl' _ (I7.2 ⟨_,IZ hi',rfl⟩);have hj:j<sz:=by rw [<- hm.1];exact (IV.1 hb).1
  have hc:=hcell _ (IZ hi');have hjc:j<(a.eval parts[i].2).cells.size:=by omega
  exact ⟨_,by rw [hflat i j hi' hj];exact IX hjc,(hc.2 j _ _ (IX hjc) hb).1⟩
theorem sR (z:Array Value) (n k:Nat) (h:k<n):(madeCells z n)[k]? = some (z[k % z.size]!):=by
 simp [madeCells,h]
theorem CU (b:Bool) {t e sz by_:Nat} (h:aH cx a w st L) (h0:0<sz) {cells:Array Value} {rows:List (List AV)} (hr:∀ row ∈ rows,row.length=sz) (hn:cells.size=rows.length * sz) (hm:rows.length<=9223372036854775807) (h1:∀ x ∈ cells,x.oneCell'=true)
  (hx:∀ (i j:Nat) (row:List AV) (av:AV),rows[i]? = some row -> row[j]? = some av -> ∃ x,cells[i * sz+j]? = some x /\ RT w (Sx cx w st.tab L) x av) (dst:Option Nat) :
  aH cx (a.put dst (.slice (some ⟨w.heap.size,0,none⟩) rows.length rows.length)) (w.alloc (.cells cells e)) ({ st with tab:=(st.next,some (Hz b e sz rows)) :: st.tab,next:=st.next+1 }.put dst (.osl st.next)) (bc L st.next (.slice (some ⟨w.heap.size,0,none⟩) rows.length rows.length)):=by
 cases b with
 | false=>exact sc (t:=t) (by_:=by_) h h0 hr hn hm h1 hx dst
 | true=>exact oV (t:=t) (by_:=by_) h h0 hr hn hm h1 (fun i j row av ha hb=>(hx i j row av ha hb).elim fun x hx=>⟨x,hx.1,.tree hx.2⟩) (fun row hr'=>ah.2 fun av ha=>by
   obtain ⟨i,hi⟩:=JL hr';obtain ⟨j,hj⟩:=JL ha;obtain ⟨x,_,hx⟩:=hx i j row av hi hj;exact hx.lt _) dst
theorem vY {t e sz by_:Nat} {z:Value} {n:Int} {k1 k2:IntKind} (h:aH cx a w st L) (ht:cl P t=some (e,sz,by_)) (hz:bu P e=some z) (h1:cH [] (aj (.c z))) (h0:0<=n) (hn:n<=16777216) (hb:(by_:Int) * n<=281474976710656) (dst:Option Nat) :
  ∃ v' w' L',(Instr.makeSlice t (.int k1 n) (.int k2 n)).run P w=.ok v' w' /\
   aH cx (a.put dst v') w' ({ st with tab:=(st.next,some (Hz (ud t) e sz (List.replicate n.toNat (aj (.c z))))) :: st.tab,next:=st.next+1 }.put dst (.osl st.next)) L' /\ Below w.heap.size w w' /\ L'=bc L st.next v' /\ aG v'=some w.heap.size:=by
 obtain ⟨i,z',hund,hi,hz',hs,hby,hzs,hsz⟩:=dB ht;have:z'=z:=by simpa [bu,hi,hz'] using hz
 subst this;have hrun:=run_make (P:=P) w t e i z' hund hi hz' k1 k2 n n h0 (Int.le_refl _) (by rw [hby];exact hb) (by omega);have hcl:(aj (.c z')).length=sz:=by simp [aj,hzs]
 have hrl:(List.replicate n.toNat (aj (.c z'))).length=n.toNat:=by simp
 suffices hs2:aH cx (a.put dst (.slice (some ⟨w.heap.size,0,none⟩) (List.replicate n.toNat (aj (.c z'))).length (List.replicate n.toNat (aj (.c z'))).length)) (w.alloc (.cells (madeCells z'.cells (n.toNat * i.size)) e)) ({ st with tab:=(st.next,some (Hz (ud t) e sz (List.replicate n.toNat (aj (.c z'))))) :: st.tab,next:=st.next+1 }.put dst (.osl st.next)) (bc L st.next (.slice (some ⟨w.heap.size,0,none⟩) (List.replicate n.toNat (aj (.c z'))).length (List.replicate n.toNat (aj (.c z'))).length)) by
  rw [hrl] at hs2;exact ⟨_,_,_,hrun,hs2,(Below.refl _ _).alloc (I6 _) _,rfl,rfl⟩
 have hzone:∀ k,k<sz -> (z'.cells[k]!).oneCell'=true:=fun k hk=>by
  have hk':k<z'.cells.size:=by omega
  have:=ji.1 h1 (.c z'.cells[k]) (I7.2 ⟨z'.cells[k],by simp,rfl⟩);rw [getElem!_pos z'.cells k hk'];exact this
 refine CU (ud t) (t:=t) (by_:=by_) h hsz (fun row hr=>?_) (by rw [hrl,size_madeCells,hs]) (by rw [hrl];omega) (fun x hx=>?_) (fun i' j row av ha hb=>?_) dst
 .rw [List.eq_of_mem_replicate hr,hcl]
 .obtain ⟨k,hk,rfl⟩:=Array.getElem_of_mem hx;have hk':k<n.toNat * i.size:=by simpa [size_madeCells] using hk
  have:=sR z'.cells (n.toNat * i.size) k hk';rw [IX hk] at this;rw [Km this];exact hzone _ (by rw [hzs];exact Nat.mod_lt _ hsz)
 .have hi':i'<n.toNat:=by
   have:=(IV.1 ha).1;simpa using this
  rw [List.getElem?_replicate,I8 hi'] at ha;cases ha;have hj:j<sz:=by rw [<- hcl];exact (IV.1 hb).1
  have hlt:i' * sz+j<n.toNat * sz:=by
   have:=Jm sz (show i'+1<=n.toNat from hi');rw [JI] at this;omega
  have e2:(i' * sz+j) % sz=j:=by rw [Nat.add_comm,Nat.add_mul_mod_self_right,Nat.mod_eq_of_lt hj]
  refine ⟨_,by rw [hs];exact sR _ _ _ hlt,?_⟩;rw [hzs,e2];have hj':j<z'.cells.size:=by omega
  simp only [aj,IW,JT,IX hj',JV,KD] at hb;subst hb;rw [getElem!_pos z'.cells j hj'];exact .c _
theorem kr {t e sz:Nat} {p v:Value} {id i j:Nat} {rows:List (List AV)} {av:AV} (h:aH cx a w st L) (hp:bn cx w st.tab L p (.op id i j)) (hid:st.tab.get id=some (.row e sz rows)) (hv:bn cx w st.tab L v av) (hl:av.lt st.next)
  (hi:i<rows.length) (h0:0<al P t) (hs:(aj av).length=al P t) (ho:j+al P t<=sz) (h1:cH st.tab (aj av)) (h2:aI (aj av)) (dst:Option Nat) :
  ∃ w',(Instr.storeAt t p v).run P w=.ok () w' /\ aH cx (a.put dst undef) w' ({ st with tab:=(id,some (.row e sz (rows.set i ((rows[i]?.getD []).take j ++ aj av ++ (rows[i]?.getD []).drop (j+al P t))))) :: st.tab }.put dst .any) L /\
   w'.heap.size=w.heap.size /\ ∀ k,aG (L id) ≠ some k -> w'.heap[k]? = w.heap[k]?:=by
 obtain ⟨hn,hlt,hc⟩:=eC h.lay hv hl h1;obtain ⟨g,hg,rfl⟩:=hp.op_inv _ _ (bZ hid);obtain ⟨hrow,xs,hown,hone,hx⟩:=h.lay.objs id _ hid;simp only [aE.sz] at hg ⊢;rw [IU hi,Ju];have hri:rows[i].length=sz:=hrow _ (IZ hi);rcases hown.2 with ⟨hL,hz⟩|⟨g',cap,cur,hL,hbg,hheap,hcap,hcm,hcs,htake⟩
 .omega
 have hgg:g=g':=by
  rw [hL] at hg;simpa [aG] using hg.symm
 subst hgg
 have hmul:i * sz+sz<=rows.length * sz:=by
  have:=Jm sz (show i+1<=rows.length from hi);rw [JI] at this;omega
 have hcapm:rows.length * sz<=cap * sz:=Jm _ hcap;have hvl:v.cells.toList.length=al P t:=by simp [hn,hs]
 have hget:=cF cur.toList (i * sz+j) v.cells.toList (by simp only [Js,hcs];omega);rw [hvl] at hget;refine ⟨_,gV h0 (by omega) hheap (by omega) (fun x hx'=>?_),?_,by simp,fun k hk=>setRow_other w g k _ fun e=>hk (by rw [e];exact hg)⟩
 .obtain ⟨k,hk,rfl⟩:=Array.getElem_of_mem hx';have hk':k<(aj av).length:=by omega
  exact (hc k _ _ (IX hk) (IU hk')).2
 have hxs:∀ k,k<rows.length * sz -> xs[k]? = cur.toList[k]?:=fun k hk=>by
  rw [<- htake,JC,I8 hk]
 have hrl:(rows[i].take j ++ aj av ++ rows[i].drop (j+al P t)).length=sz:=by
  simp only [I0,Jf,JW];omega
 refine kU (o':=.row e sz (rows.set i (rows[i].take j ++ aj av ++ rows[i].drop (j+al P t)))) h hid hg rfl (fun k hk=>setRow_other w g k _ hk) ?_ (by simp) (fun hext=>⟨fun row hr=>?_,(cur.toList.take (i * sz+j) ++ v.cells.toList ++ cur.toList.drop (i * sz+j+al P t)).take (rows.length * sz),?_,fun x hx'=>?_,fun i' j' row av' h3 h4=>?_⟩) trivial dst
 .exact ⟨h.lay.below.os,h.lay.below.tape,h.lay.below.output,by simpa using h.lay.below.size,fun k hk hX=>(setRow_other w g k _ (by omega)).trans (h.lay.below.block k hk hX)⟩
 .rcases J1 hr with hr | rfl
  .exact hrow row hr
  .exact hrl
 .rw [List.length_set];refine ⟨?_,.inr ⟨g,cap,_,hL,hbg,setRow_heap w g cur _ e (0,0) hheap,hcap,hcm,?_,rfl⟩⟩
  .simp only [Jf,I0,JW,Js,hcs,hn,hs];omega
  .simp only [List.size_toArray,I0,Jf,JW,Js,hcs,hn,hs];omega
 .obtain ⟨k,hk⟩:=JL hx';rw [JC] at hk;split at hk
  .rename_i hkl;rw [hget] at hk;split at hk
   .rename_i hr;have hk':k - (i * sz+j)<(aj av).length:=(by omega);exact (hc _ x _ (by simpa using hk) (IU hk')).2
   .exact hone x (p0 ((hxs k hkl).trans hk))
  .cases hk
 .rw [Kb] at h3;split at h3
  .rename_i e1;subst e1
   first|rw [I8 hi] at h3|skip
   cases h3;have hj':j'<sz:=by rw [<- hrl];exact (IV.1 h4).1
   have h4':=cF rows[i] j (aj av) (by omega) j';rw [hs] at h4';rw [h4'] at h4;have hki:i * sz+j'<rows.length * sz:=(by omega);rw [JC,I8 hki,hget];split at h4
   .rename_i hr;rw [I8 (by omega)];rw [show i * sz+j' - (i * sz+j)=j' - j by omega];have hk':j' - j<v.cells.size:=(by omega);refine ⟨v.cells[j' - j],by simp [hk'],hext.rt (dA (hc _ _ av' (IX hk') h4).1 (dH.1 h2 _ (p0 h4)))⟩
   .rename_i hr;rw [I4 (by omega)];obtain ⟨x,hx1,hx2⟩:=hx i j' _ av' (IU hi) h4;exact ⟨x,by rw [<- hxs _ hki];exact hx1,hext.rt hx2⟩
  .rename_i hne;have hi2:i'<rows.length:=(IV.1 h3).1;have hj':j'<sz:=by rw [<- hrow row (p0 h3)];exact (IV.1 h4).1
   have hki:i' * sz+j'<rows.length * sz:=by
    have:=Jm sz (show i'+1<=rows.length from hi2);rw [JI] at this;omega
   obtain ⟨x,hx1,hx2⟩:=hx i' j' row av' h3 h4;refine ⟨x,?_,hext.rt hx2⟩;rw [JC,I8 hki,hget,I4,<- hxs _ hki]
   .exact hx1
   .intro hr;rcases Ko i i' with hlt'|he|hlt'
    .have:=Jm sz (show i+1<=i' from hlt');rw [JI] at this;omega
    .exact hne he
    .have:=Jm sz (show i'+1<=i from hlt');rw [JI] at this;omega
theorem jA {t e sz:Nat} {p v:Value} {id i j:Nat} {rows:List (List AV)} {av:AV} (h:aH cx a w st L) (hp:bn cx w st.tab L p (.op id i j)) (hid:st.tab.get id=some (.nest e sz rows)) (hv:bn cx w st.tab L v av) (hl:av.lt st.next)
  (hi:i<rows.length) (h0:0<al P t) (hs:(aj av).length=al P t) (ho:j+al P t<=sz) (h1:cH st.tab (aj av)) (dst:Option Nat) :
  ∃ w',(Instr.storeAt t p v).run P w=.ok () w' /\ aH cx (a.put dst undef) w' ({ st with tab:=(id,some (.nest e sz (rows.set i ((rows[i]?.getD []).take j ++ aj av ++ (rows[i]?.getD []).drop (j+al P t))))) :: st.tab }.put dst .any) L /\
   w'.heap.size=w.heap.size /\ ∀ k,aG (L id) ≠ some k -> w'.heap[k]? = w.heap[k]?:=by
 obtain ⟨hn,hlt,hc⟩:=eC h.lay hv hl h1;obtain ⟨g,hg,rfl⟩:=hp.op_inv _ _ (bZ hid);have hyl:∀ row ∈ rows,AV.ltL st.next row:=(h.young id _ hid).2;obtain ⟨hrow,xs,hown,hone,hx⟩:=h.lay.objs id _ hid;simp only [aE.sz] at hg ⊢;rw [IU hi,Ju];have hri:rows[i].length=sz:=hrow _ (IZ hi);rcases hown.2 with ⟨hL,hz⟩|⟨g',cap,cur,hL,hbg,hheap,hcap,hcm,hcs,htake⟩
 .omega
 have hgg:g=g':=by
  rw [hL] at hg;simpa [aG] using hg.symm
 subst hgg
 have hmul:i * sz+sz<=rows.length * sz:=by
  have:=Jm sz (show i+1<=rows.length from hi);rw [JI] at this;omega
 have hcapm:rows.length * sz<=cap * sz:=Jm _ hcap;have hvl:v.cells.toList.length=al P t:=by simp [hn,hs]
 have hget:=cF cur.toList (i * sz+j) v.cells.toList (by simp only [Js,hcs];omega);rw [hvl] at hget;refine ⟨_,gV h0 (by omega) hheap (by omega) (fun x hx'=>?_),?_,by simp,fun k hk=>setRow_other w g k _ fun e=>hk (by rw [e];exact hg)⟩
 .obtain ⟨k,hk,rfl⟩:=Array.getElem_of_mem hx';have hk':k<(aj av).length:=by omega
  exact (hc k _ _ (IX hk) (IU hk')).2
 have hxs:∀ k,k<rows.length * sz -> xs[k]? = cur.toList[k]?:=fun k hk=>by
  rw [<- htake,JC,I8 hk]
 have hrl:(rows[i].take j ++ aj av ++ rows[i].drop (j+al P t)).length=sz:=by
  simp only [I0,Jf,JW];omega
 refine kU (o':=.nest e sz (rows.set i (rows[i].take j ++ aj av ++ rows[i].drop (j+al P t)))) h hid hg rfl (fun k hk=>setRow_other w g k _ hk) ?_ (by simp) (fun hext=>⟨fun row hr=>?_,(cur.toList.take (i * sz+j) ++ v.cells.toList ++ cur.toList.drop (i * sz+j+al P t)).take (rows.length * sz),?_,fun x hx'=>?_,fun i' j' row av' h3 h4=>?_⟩) (fun row hr=>by
  rcases J1 hr with hr|rfl
  .exact hyl row hr
  .have hyi:=hyl _ (IZ hi);refine ah.2 fun x hx=>?_;rcases Ja.1 hx with hx|hx
   .rcases Ja.1 hx with hx | hx
    .exact ah.1 hyi x (JE hx)
    .exact ah.1 hlt x hx
   .exact ah.1 hyi x (J7 hx)) dst
 .exact ⟨h.lay.below.os,h.lay.below.tape,h.lay.below.output,by simpa using h.lay.below.size,fun k hk hX=>(setRow_other w g k _ (by omega)).trans (h.lay.below.block k hk hX)⟩
 .rcases J1 hr with hr | rfl
  .exact hrow row hr
  .exact hrl
 .rw [List.length_set];refine ⟨?_,.inr ⟨g,cap,_,hL,hbg,setRow_heap w g cur _ e (0,0) hheap,hcap,hcm,?_,rfl⟩⟩
  .simp only [Jf,I0,JW,Js,hcs,hn,hs];omega
  .simp only [List.size_toArray,I0,Jf,JW,Js,hcs,hn,hs];omega
 .obtain ⟨k,hk⟩:=JL hx';rw [JC] at hk;split at hk
  .rename_i hkl;rw [hget] at hk;split at hk
   .rename_i hr;have hk':k - (i * sz+j)<(aj av).length:=(by omega);exact (hc _ x _ (by simpa using hk) (IU hk')).2
   .exact hone x (p0 ((hxs k hkl).trans hk))
  .cases hk
 .rw [Kb] at h3;split at h3
  .rename_i e1;subst e1
   first|rw [I8 hi] at h3|skip
   cases h3;have hj':j'<sz:=by rw [<- hrl];exact (IV.1 h4).1
   have h4':=cF rows[i] j (aj av) (by omega) j';rw [hs] at h4';rw [h4'] at h4;have hki:i * sz+j'<rows.length * sz:=(by omega);rw [JC,I8 hki,hget];split at h4
   .rename_i hr;rw [I8 (by omega)];rw [show i * sz+j' - (i * sz+j)=j' - j by omega];have hk':j' - j<v.cells.size:=(by omega);refine ⟨v.cells[j' - j],by simp [hk'],hext.rv (hc _ _ av' (IX hk') h4).1 (ah.1 hlt _ (p0 h4))⟩
   .rename_i hr;rw [I4 (by omega)];obtain ⟨x,hx1,hx2⟩:=hx i j' _ av' (IU hi) h4;exact ⟨x,by rw [<- hxs _ hki];exact hx1,hext.rv hx2 (ah.1 (hyl _ (IZ hi)) _ (p0 h4))⟩
  .rename_i hne;have hi2:i'<rows.length:=(IV.1 h3).1;have hj':j'<sz:=by rw [<- hrow row (p0 h3)];exact (IV.1 h4).1
   have hki:i' * sz+j'<rows.length * sz:=by
    have:=Jm sz (show i'+1<=rows.length from hi2);rw [JI] at this;omega
   obtain ⟨x,hx1,hx2⟩:=hx i' j' row av' h3 h4;refine ⟨x,?_,hext.rv hx2 (ah.1 (hyl row (p0 h3)) _ (p0 h4))⟩;rw [JC,I8 hki,hget,I4,<- hxs _ hki]
   .exact hx1
   .intro hr;rcases Ko i i' with hlt'|he|hlt'
    .have:=Jm sz (show i+1<=i' from hlt');rw [JI] at this;omega
    .exact hne he
    .have:=Jm sz (show i'+1<=i from hlt');rw [JI] at this;omega
def de (P:Program) (t:TypeId):Option (List (Nat × Nat) × List Value):=
 match P.info? t,P.underlying t with
 | some it,some (.struct fields)=>match it.zero,fields.toList.mapM (fun f=>(P.info? f.type).map fun i=>(f.offset,i.size)) with
  | some z,some places=>some (places,z.cells.toList)
  | _,_=>none
 | some it,some (.array n e)=>match it.zero,P.info? e with
  | some z,some ie=>some ((List.range n).map fun i=>(i * ie.size,ie.size),z.cells.toList)
  | _,_=>none
 | _,_=>none
def oj (places:List (Nat × Nat)):List AV -> List (Nat × AV) -> Option (List AV)
 | cs,[]=>some cs
 | cs,(i,x) :: rest=>match places[i]? with
  | some (off,size)=>if (aj x).length=size /\ off+size<=cs.length then oj places (cs.take off ++ aj x ++ cs.drop (off+size)) rest else none
  | none=>none
def gj (tab:ag):List (Nat × AV) -> Prop
 | []=>True
 | (_,x) :: rest=>cH tab (aj x) /\ gj tab rest
theorem vH (hL:fZ cx w tab L) (places:List (Nat × Nat)):∀ (parts:List (Nat × Value)) (avs:List (Nat × AV)) (cells:Array Value) (cs cs':List AV),parts.length=avs.length ->
  (∀ (k i:Nat) (v:Value) (j:Nat) (av:AV),parts[k]? = some (i,v) -> avs[k]? = some (j,av) -> i=j /\ bn cx w tab L v av /\ av.lt nx) -> gj tab avs -> cells.size=cs.length -> AV.ltL nx cs -> (∀ (j:Nat) (x:Value) (av:AV),cells[j]? = some x -> cs[j]? = some av -> bn cx w tab L x av) -> oj places cs avs=some cs' ->
  ∃ cells',Instr.fill (places.toArray[·]?) cells parts=some cells' /\ cells'.size=cs'.length /\ AV.ltL nx cs' /\ ∀ (j:Nat) (x:Value) (av:AV),cells'[j]? = some x -> cs'[j]? = some av -> bn cx w tab L x av
 | [],[],cells,cs,cs',_,_,_,hn,hl,hr,h=>by
  cases h;exact ⟨cells,rfl,hn,hl,hr⟩
 | (i,v) :: parts,(j,x) :: avs,cells,cs,cs',hlen,hp,hone,hn,hl,hr,h=>by
  obtain ⟨rfl,hv,hlx⟩:=hp 0 i v j x rfl rfl;obtain ⟨hc1,hc2,hc3⟩:=eC hL hv hlx hone.1;unfold oj at h;split at h
  .rename_i off size hpl;split at h
   .rename_i hsz;have hfit:off+v.cells.size<=cells.size:=(by omega);have hone':=tw off v.cells cells hfit
    obtain ⟨cells',h1,h2⟩:=vH hL places parts avs (cells.toList.take off ++ v.cells.toList ++ cells.toList.drop (off+v.cells.size)).toArray (cs.take off ++ aj x ++ cs.drop (off+size)) cs' (by simpa using hlen)
     (fun k i v j av h3 h4=>hp (k+1) i v j av (by simpa using h3) (by simpa using h4)) hone.2 (by simp [hc1,hsz.1,hn]) (ah.2 fun y hy=>by
      rcases Ja.1 hy with hy|hy
      .rcases Ja.1 hy with hy | hy
       .exact ah.1 hl y (JE hy)
       .exact ah.1 hc2 y hy
      .exact ah.1 hl y (J7 hy)) (fun k y av h3 h4=>by
      have e1:=cF cells.toList off v.cells.toList (by simpa using hfit) k;have e2:=cF cs off (aj x) (by omega) k;simp only [Js] at e1;rw [hsz.1] at e2;rw [Kc,e1] at h3;rw [e2] at h4;split at h4
      .rename_i hk;rw [I8 (by omega)] at h3;exact (hc3 _ y av (by simpa using h3) h4).1
      .rename_i hk;rw [I4 (by omega)] at h3;exact hr k y av (by simpa using h3) h4) h
    refine ⟨cells',?_,h2⟩;unfold Instr.fill;simp only [Kc,hpl];rw [I4 (by simp;omega),hone'];simpa using h1
   .cases h
  .cases h
 | [],_ :: _,_,_,_,h,_,_,_,_,_,_=>by simp at h
 | _ :: _,[],_,_,_,h,_,_,_,_,_,_=>by simp at h
theorem pz {f g:Nat -> Option (Nat × Nat)} (hfg:∀ i x,f i=some x -> g i=some x):∀ (parts:List (Nat × Value)) (c r:Array Value),Instr.fill f c parts=some r -> Instr.fill g c parts=some r
 | [],c,r,h=>h
 | (i,v) :: rest,c,r,h=>by
  unfold Instr.fill at h ⊢;split at h
  .cases h
  .rename_i off size hp;rw [hfg i _ hp];simp only;split at h
   .cases h
   .rename_i hc;rw [I4 hc];exact pz hfg rest _ r h
theorem rg {t:TypeId} {places:List (Nat × Nat)} {zs:List Value} (h:de P t=some (places,zs)):∃ z:Value,z.cells.toList=zs /\ ∀ parts r,Instr.fill (places.toArray[·]?) z.cells parts=some r -> P.built t parts=some r:=by
 unfold de at h;split at h
 .rename_i it fields h1 h2;split at h
  .rename_i z pl h3 h4;cases h;refine ⟨z,rfl,fun parts r hr=>?_⟩;unfold Program.built;rw [h1,h2];simp only [h3];simp only [h4];exact hr
  .cases h
 .rename_i it n e h1 h2;split at h
  .rename_i z ie h3 h4;cases h;refine ⟨z,rfl,fun parts r hr=>?_⟩;unfold Program.built;rw [h1,h2];simp only [h3];simp only [h4];refine pz (fun i x hx=>?_) parts z.cells r hr;rw [Kc,IW] at hx;rcases Jk i n with hlt|hge
   .rw [List.getElem?_range hlt] at hx;simpa using hx
   .rw [Jq (by simpa using hge)] at hx;simp at hx
  .cases h
 .cases h
theorem Ax {t:TypeId} {places:List (Nat × Nat)} {zs:List Value} {cs':List AV} {parts:List (Nat × Operand)} (h:aH cx a w st L) (ht:de P t=some (places,zs)) (hf:oj places (zs.map .c) (parts.map fun p=>(p.1,aU st p.2))=some cs') (h1:gj st.tab (parts.map fun p=>(p.1,aU st p.2))) :
  ∃ v,bn cx w st.tab L v (.agg cs') /\ (AV.agg cs').lt st.next /\ ∀ w',(Instr.build t (parts.toArray.map fun (p:Nat × Operand)=>(p.1,a.eval p.2))).run P w'=.ok v w':=by
 obtain ⟨z,rfl,hb⟩:=rg ht
 obtain ⟨cells',h2,h3,h4,h5⟩:=vH h.lay places (parts.map fun p=>(p.1,a.eval p.2)) (parts.map fun p=>(p.1,aU st p.2)) z.cells (z.cells.toList.map .c) cs' (by simp) (fun k i v j av h6 h7=>by
  rw [IW] at h6 h7
  cases hk:parts[k]? with
  | none=>simp [hk] at h6
  | some p=>
   simp [hk] at h6 h7;obtain ⟨rfl,rfl⟩:=h6;obtain ⟨rfl,rfl⟩:=h7;exact ⟨rfl,ar h p.2⟩) h1 (by simp) (ah.2 fun y hy=>by
   obtain ⟨u,_,rfl⟩:=I7.1 hy;trivial) (fun j x av h6 h7=>by
   rw [IW,JT,h6] at h7;cases h7;exact .tree (.c x)) hf
 refine ⟨.agg cells',.agg cells' cs' h3 h5,h4,fun w'=>run_build w' t _ cells' ?_⟩;exact hb _ _ (by simpa using h2)
end
end
end
end Go.Proofs.YtiaiihjmmfakdaaGreat
