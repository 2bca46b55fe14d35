/-
  Parts of the proof: Ctp1, Ctp2.
-/
import Derived.WalkKit
import Derived.WalkLawsBesides
import Derived.Handy
import Derived.Lib.OthersKept
import Derived.Deep.Draws
import Derived.Maps.AppendAt
import Derived.Test.YtmmoidfcfjklaaaGreatProg
import Derived.ProofKit
import Derived.Laws.AppendOwnNone
import Derived.Laws.MakeOwn
set_option linter.unusedVariables false
set_option linter.unusedSimpArgs false
set_option linter.defProp false
set_option maxRecDepth 100000
set_option maxHeartbeats 16000000
namespace Go.Proofs.YtmmoidfcfjklaaaGreat
def f4:=@List.getElem?_eq_getElem.{0}
def p0:=@List.mem_of_getElem?.{0}
def Os:=@Nat.le_refl
def Vd:=@List.getElem?_eq_some_iff.{0}
def Ve:=@List.getElem?_map.{0,0}
def Vf:=@List.getElem_mem.{0}
def Vg:=@Nat.zero_le
def Vh:=@if_neg.{1}
def Vi:=@List.length_append.{0}
def Vj:=@Array.getElem?_eq_getElem.{0}
def Vk:=@List.take_succ_eq_append_getElem.{0}
def Vl:=@List.getD_eq_getElem?_getD.{0}
def Vm:=@Nat.lt_of_lt_of_le
def Vn:=@if_pos.{1}
def Vo:=@List.length_map.{0,0}
def Vp:=@List.mem_append.{0}
def Vq:=@List.take_length.{0}
def Vr:=@List.length_take.{0}
def Vs:=@List.getElem?_eq_none.{0}
def Vt:=@List.mem_map.{0,0}
def Vu:=@decide_eq_false
def Vv:=@Nat.lt_or_ge
def Vw:=@Bool.and_eq_true
def Vx:=@decide_eq_false_iff_not
def Vy:=@List.length_singleton.{0}
def Vz:=@Nat.le_trans
def VA:=@List.take_zero.{0}
def VB:=@List.getElem_of_mem.{0}
def VC:=@decide_eq_true
def VD:=@Nat.mul_le_mul_right
def VE:=@List.map_append.{0,0}
def VF:=@List.mem_singleton.{0}
def VG:=@decide_eq_true_eq
def VH:=@Option.getD_some.{0}
def VI:=@List.length_cons.{0}
def VJ:=@Array.getElem?_eq_some_iff.{0}
def VK:=@List.take_of_length_le.{0}
def VL:=@Bool.false_eq_true
def VM:=@List.getElem?_append_left.{0}
def VN:=@beq_eq_false_iff_ne.{0}
def VO:=@List.getElem?_append_right.{0}
def VP:=@List.map_nil.{0,0}
def VQ:=@List.mem_of_mem_take.{0}
def VR:=@Nat.le_succ
def VS:=@List.length_set.{0}
def VT:=@List.mem_cons_of_mem.{0}
def VU:=@Nat.pow_le_pow_right
def VV:=@List.getElem?_drop.{0}
def VW:=@Bool.and_eq_false_iff
def VX:=@Option.map_some.{0,0}
def VY:=@List.map_cons.{0,0}
def VZ:=@List.append_assoc.{0}
def V0:=@List.getElem?_take.{0}
def V1:=@List.mem_cons_self.{0}
def V2:=@List.ext_getElem?.{0}
def V3:=@Option.isSome_iff_exists.{0}
def V4:=@Bool.true_and
def V5:=@Array.getElem?_append_left.{0}
def V6:=@List.mem_flatMap.{0,0}
def V7:=@List.getElem?_of_mem.{0}
def V8:=@List.mem_cons.{0}
def V9:=@Array.getD_eq_getD_getElem?.{0}
def Wa:=@List.length_drop.{0}
def Wb:=@Nat.lt_succ_self
def Wc:=@Array.length_toList.{0}
def Wd:=@Array.getElem?_toList.{0}
def We:=@Nat.add_mul
def Wf:=@Bool.false_and
def Wg:=@List.cons_append.{0}
def Wh:=@List.foldl_append.{0,0}
def Wi:=@Bool.eq_false_iff
def Wj:=@List.mem_or_eq_of_mem_set.{0}
def Wk:=@List.pairwise_iff_getElem.{0}
def Wl:=@List.flatMap_nil.{0,0}
def Wm:=@Option.bind_some.{0,0}
def Wn:=@List.append_nil.{0}
def Wo:=@Bool.eq_iff_iff
def Wp:=@List.mem_of_mem_drop.{0}
def Wq:=@Nat.le_of_lt
def Wr:=@List.foldl_nil.{0,0}
def Ws:=@List.getElem?_range
def Wt:=@List.length_nil.{0}
def Wu:=@List.range_succ
def Wv:=@beq_iff_eq.{0}
def Ww:=@List.flatMap_cons.{0,0}
def Wx:=@Nat.add_assoc
def Wy:=@List.flatMap_append.{0,0}
def Wz:=@List.getElem?_set.{0}
def WA:=@Int.toNat_natCast
def WB:=@Nat.add_sub_cancel
def WC:=@List.set_cons_zero.{0}
def WD:=@List.pairwise_append.{0}
def WE:=@Option.some.inj.{0}
def WF:=@Nat.le_max_right
def WG:=@Nat.testBit_lt_two_pow
def WH:=@List.drop_eq_getElem_cons.{0}
def WI:=@List.eq_nil_of_length_eq_zero.{0}
def WJ:=@List.getElem?_toArray.{0}
def WK:=@List.map_set.{0,0}
def WL:=@List.length_eq_zero_iff.{0}
def WM:=@List.getElem?_cons_succ.{0}
def WN:=@Nat.succ_le_succ
def WO:=@List.getElem?_cons_zero.{0}
def WP:=@List.reverse_reverse.{0}
def WQ:=@Nat.testBit_two_pow_sub_one
def WR:=@Nat.zero_add
def WS:=@List.mem_range
def WT:=@List.nil_append.{0}
def WV:=@Int.natCast_add
def WW:=@Nat.le_of_ble_eq_true
def WX:=@List.take_append_drop.{0}
def WY:=@Nat.le_add_right
def WZ:=@Int.natCast_nonneg
def W3:=@List.set_cons_succ.{0}
def W4:=@List.getElem_append_left.{0}
def W5:=@List.take_append_of_le_length.{0}
def W6:=@Array.toArray_toList.{0}
def W7:=@Bool.not_false
def W8:=@Option.some.injEq.{0}
def W9:=@List.getElem?_replicate.{0}
def Xa:=@Nat.lt_trichotomy
def Xb:=@List.reverse_cons.{0}
def Xc:=@List.foldl_cons.{0,0}
def Xd:=@Bool.or_eq_true
def Xe:=@List.range_zero
def Xf:=@Nat.zero_mul
def Xg:=@Array.getElem?_append_right.{0}
def Xh:=@Nat.succ_mul
def Xi:=@List.idxOf_lt_length_of_mem.{0}
def Xj:=@List.all_eq_true.{0}
def Xk:=@Nat.mul_le_mul
def Xl:=@List.getElem_append_right.{0}
def Xm:=@List.size_toArray.{0}
def Xn:=@Int.le_refl
def Xo:=@List.take_add_one.{0}
def Xp:=@List.nodup_append.{0}
def Xq:=@Bool.not_eq_true'
def Xr:=@Nat.eq_of_testBit_eq
def Xs:=@List.count_singleton.{0}
def Xt:=@List.getD_cons_zero.{0}
def Xu:=@List.countP_pos_iff.{0}
def Xv:=@Nat.succ_ne_self
def Xw:=@List.ext_getElem.{0}
def Xx:=@Int.toNat_zero
def Xy:=@Int.eq_ofNat_of_zero_le
def Xz:=@List.any_eq_true.{0}
def XA:=@Nat.add_zero
def XB:=@Array.getElem?_map.{0,0}
def XC:=@List.map_map.{0,0,0}
def XD:=@Nat.lt_of_le_of_lt
def XE:=@Nat.one_le_two_pow
def XF:=@List.prefix_append.{0}
def XG:=@List.count_pos_iff.{0}
def XH:=@Nat.le_max_left
def XI:=@Nat.zero_lt_one
def XJ:=@Nat.one_ne_zero
def XK:=@List.prefix_rfl.{0}
def XL:=@Int.natCast_one
def XM:=@Bool.not_true
def XN:=@List.sum_cons.{0}
open Go.RowKit
section
section
theorem aG {p:Prop} (h:p):Hid p:=h
theorem ey {α:Type} (l:List α):l=[] \/ ∃ q x,l=q ++ [x]:=by
 rcases List.eq_nil_or_concat l with h|⟨q,x,h⟩
 .exact .inl h
 .exact .inr ⟨q,x,by rw [h,List.concat_eq_append]⟩
theorem im (g j:Nat):(⟨g,0,none⟩:Addr).add j=⟨g,j,none⟩:=by unfold Addr.add;split<;>simp_all
def jj (w:World) (g:Nat) (t:TypeId) (cs:Array Value):Prop:=w.heap[g]? = some (.cells cs t (0,0))
section
variable {w w':World} {g:Nat} {t:TypeId} {cs:Array Value}
theorem jj.lt (h:jj w g t cs):g<w.heap.size:=by
 rcases Vv g w.heap.size with hlt|hge
 .exact hlt
 .unfold jj at h;rw [Array.getElem?_eq_none hge] at h;cases h
theorem jj.cell (h:jj w g t cs) (i:Nat):w.cell? ⟨g,i,none⟩=cs[i]?:=cell_of_row w g i cs t (0,0) h
theorem jj.frozen (h:jj w g t cs) (i:Nat):w.frozen? ⟨g,i,none⟩=false:=by
 unfold jj at h;simp [World.frozen?,h]
theorem jj.new (w:World) (t:TypeId) (cs:Array Value):jj (w.alloc (.cells cs t)) w.heap.size t cs:=heap_alloc_new w _
theorem jj.alloc (h:jj w g t cs) (o:Obj):jj (w.alloc o) g t cs:=(Below.heap_alloc w o g h.lt).trans h
theorem jj.set_ (h:jj w g t cs) (i:Nat) (u:Value):jj (w.setCell ⟨g,i,none⟩ u) g t (cs.setIfInBounds i u):=by
 unfold jj at h ⊢;simp [World.setCell,Array.getElem?_modify,h]
theorem jj.far (h:jj w g t cs) {p:Addr} (hp:g ≠ p.block) (u:Value):jj (w.setCell p u) g t cs:=(Below.heap_setCell w p u g hp).trans h
theorem jj.below {B:Nat} (h:jj w g t cs) (hb:Below B w w') (hg:g<B):jj w' g t cs:=(hb.block g hg).trans h
theorem jj.grown {row:Option Nat} (h:jj w g t cs) (hb:w.grownBy w' row) (hg:some g ≠ row):jj w' g t cs:=(hb.block g h.lt hg).trans h
end
section
variable {w w':World} {base:Nat} {e:TypeId} {size n:Nat} {v:Value} {xs:List Value}
theorem eV (h:w.ownsRow base e size v n xs):∃ A c,v=.slice A n c /\ n<=c:=by
 rcases h.2 with ⟨rfl,rfl⟩|⟨g,cap,cur,rfl,_,_,hn,_⟩
 .exact ⟨none,0,rfl,Os _⟩
 .exact ⟨_,cap,rfl,hn⟩
theorem og (h:w.ownsRow base e size v n xs) (hn:0<n):∃ g c,v=.slice (some ⟨g,0,none⟩) n c /\ n<=c /\ base<=g /\ g<w.heap.size:=by
 rcases h.2 with ⟨rfl,rfl⟩|⟨g,cap,cur,rfl,hb,hg,hn,_⟩
 .omega
 .exact ⟨g,cap,rfl,hn,hb,(VJ.1 hg).1⟩
theorem C5 (h:w.ownsRow base e size v n xs) {g:Nat} (hg:g<base):some g ≠ v.ownBlock:=by
 intro he;have:=(h.lt g he.symm).1;omega
theorem vu {B:Nat} (h:w.ownsRow base e size v n xs) (hb:Below B w w') (hB:∀ g,v.ownBlock=some g -> g<B):w'.ownsRow base e size v n xs:=by
 refine ⟨h.1,?_⟩;rcases h.2 with hn|⟨g,cap,cur,rfl,hbg,hg,rest⟩
 .exact .inl hn
 .exact .inr ⟨g,cap,cur,rfl,hbg,(hb.block g (hB g (by simp [Value.ownBlock]))).trans hg,rest⟩
theorem r4 (h:w.ownsRow base e size v n xs) (hb:Below w.heap.size w w'):w'.ownsRow base e size v n xs:=vu h hb fun g hg=>(h.lt g hg).2
theorem kP (h:w.ownsRow base e size v n xs) {p:Addr} (hp:p.block<base) (u:Value):(w.setCell p u).ownsRow base e size v n xs:=ownsRow_setCell_below h hp u
theorem iq (h:w.ownsRow base e size v n xs) {g c:Nat} (hv:v=.slice (some ⟨g,0,none⟩) n c) {j:Nat} {u:Value} (hu:xs[j]? = some u):w.cell? ⟨g,j,none⟩=some u:=by
 subst hv;have:=h.cells (g:=g) rfl j u hu
 rwa [im] at this
end
theorem mf (w:World) (L:List Value) (t:TypeId):∀ j u,L[j]? = some u -> (w.alloc (.cells L.toArray t)).cell? ((⟨w.heap.size,0,none⟩:Addr).add j)=some u:=by
 intro j u hu;rw [im,(jj.new w t L.toArray).cell j];simpa using hu
end
section
def xN:Nat:=0
structure Ef (w:World):Prop where
 le:xN<=w.heap.size
 tab:True
theorem Ef.keep {w w':World} (h:Ef w) (hs:xN<=w'.heap.size) (hk:∀ k,k<xN -> w'.heap[k]? = w.heap[k]?):Ef w':=⟨hs,trivial⟩
theorem Ms (w:World):Ef w:=⟨Vg _,trivial⟩
end
section
inductive AV where
 | any
 | c (v:Value)
 | sl (sz:Nat) (rows:List (List AV))
 | osl (id:Nat)
 | agg (cs:List AV)
 | tup (vs:List AV)
 | fn (f:FuncId) (cs:List AV)
 | bfn (f:FuncId) (cs:List AV)
 | rp (cs:List AV)
 | op (id i j:Nat)
instance:Inhabited AV:=⟨.any⟩
inductive RT (w:World) (S:Nat -> Prop):Value -> AV -> Prop
 | any (x:Value):RT w S x .any
 | c (v:Value):RT w S v (.c v)
 | sl (A:Option Addr) (n cap sz:Nat) (rows:List (List AV)) (b o:Nat) (U:Nat -> Nat -> Value) (hn:n=rows.length) (hc:n<=cap) (hm:cap<=9223372036854775807)
   (hA:0<n -> A=some ⟨b,o,none⟩ /\ S b) (hs:∀ row ∈ rows,row.length=sz)
   (hcell:0<n -> ∀ i j row av,rows[i]? = some row -> row[j]? = some av -> w.cell? ⟨b,o+i * sz+j,none⟩=some (U i j))
   (hone:∀ i j row av,rows[i]? = some row -> row[j]? = some av -> (U i j).oneCell'=true)
   (hr:∀ i j row av,rows[i]? = some row -> row[j]? = some av -> RT w S (U i j) av):RT w S (.slice A n cap) (.sl sz rows)
 | agg (xs:Array Value) (cs:List AV) (hn:xs.size=cs.length) (hr:∀ (j:Nat) (x:Value) (av:AV),xs[j]? = some x -> cs[j]? = some av -> RT w S x av):RT w S (.agg xs) (.agg cs)
 | tup (xs:Array Value) (cs:List AV) (hn:xs.size=cs.length) (hr:∀ (j:Nat) (x:Value) (av:AV),xs[j]? = some x -> cs[j]? = some av -> RT w S x av):RT w S (.tuple xs) (.tup cs)
 | fn (f:FuncId) (xs:Array Value) (cs:List AV) (hn:xs.size=cs.length) (hr:∀ (j:Nat) (x:Value) (av:AV),xs[j]? = some x -> cs[j]? = some av -> RT w S x av):RT w S (.func (.func f) #[] xs) (.fn f cs)
 | bfn (f:FuncId) (xs:Array Value) (cs:List AV) (hn:xs.size=cs.length) (hr:∀ (j:Nat) (x:Value) (av:AV),xs[j]? = some x -> cs[j]? = some av -> RT w S x av):RT w S (.func (.func f) xs #[]) (.bfn f cs)
 | rp (b o:Nat) (cs:List AV) (U:Nat -> Value) (hb:S b) (hcell:∀ j av,cs[j]? = some av -> w.cell? ⟨b,o+j,none⟩=some (U j)) (hr:∀ j av,cs[j]? = some av -> RT w S (U j) av) :
   RT w S (.pointer (some ⟨b,o,none⟩)) (.rp cs)
theorem RT.mono {w w':World} {S S':Nat -> Prop} {x:Value} {av:AV} (h:RT w S x av) (hk:∀ p:Addr,S p.block -> w'.cell? p=w.cell? p) (hS:∀ b,S b -> S' b):RT w' S' x av:=by
 induction h with
 | any x=>exact .any x
 | c v=>exact .c v
 | sl A n cap sz rows b o U hn hc hm hA hs hcell hone hr ih=>
  exact .sl A n cap sz rows b o U hn hc hm (fun h=>⟨(hA h).1,hS _ (hA h).2⟩) hs (fun h i j row av h1 h2=>(hk _ (hA h).2).trans (hcell h i j row av h1 h2)) hone ih
 | agg xs cs hn hr ih=>exact .agg xs cs hn ih
 | tup xs cs hn hr ih=>exact .tup xs cs hn ih
 | fn fi xs cs hn hr ih=>exact .fn fi xs cs hn ih
 | bfn fi xs cs hn hr ih=>exact .bfn fi xs cs hn ih
 | rp b o cs U hb hcell hr ih=>exact .rp b o cs U (hS _ hb) (fun j av h=>(hk _ hb).trans (hcell j av h)) ih
def aO:Value -> Option Nat
 | .pointer (some a)=>some a.block
 | .slice (some a) _ _=>some a.block
 | .map (some b)=>some b
 | _=>none
inductive RV (w:World) (S:Nat -> Prop) (K:Nat -> Option (Nat × Value)):Value -> AV -> Prop
 | tree {x:Value} {av:AV} (h:RT w S x av):RV w S K x av
 | osl (x:Value) (id:Nat) (h:∀ sz v,K id=some (sz,v) -> x=v):RV w S K x (.osl id)
 | op (x:Value) (id i j:Nat) (h:∀ sz v,K id=some (sz,v) -> ∃ g,aO v=some g /\ x=.pointer (some ⟨g,i * sz+j,none⟩)):RV w S K x (.op id i j)
 | agg (xs:Array Value) (cs:List AV) (hn:xs.size=cs.length) (hr:∀ (j:Nat) (x:Value) (av:AV),xs[j]? = some x -> cs[j]? = some av -> RV w S K x av):RV w S K (.agg xs) (.agg cs)
 | tup (xs:Array Value) (cs:List AV) (hn:xs.size=cs.length) (hr:∀ (j:Nat) (x:Value) (av:AV),xs[j]? = some x -> cs[j]? = some av -> RV w S K x av):RV w S K (.tuple xs) (.tup cs)
 | fn (f:FuncId) (xs:Array Value) (cs:List AV) (hn:xs.size=cs.length) (hr:∀ (j:Nat) (x:Value) (av:AV),xs[j]? = some x -> cs[j]? = some av -> RV w S K x av):RV w S K (.func (.func f) #[] xs) (.fn f cs)
 | bfn (f:FuncId) (xs:Array Value) (cs:List AV) (hn:xs.size=cs.length) (hr:∀ (j:Nat) (x:Value) (av:AV),xs[j]? = some x -> cs[j]? = some av -> RV w S K x av):RV w S K (.func (.func f) xs #[]) (.bfn f cs)
mutual
def AV.lt (nx:Nat):AV -> Prop
 | .osl id=>id<nx
 | .op id _ _=>id<nx
 | .agg cs=>AV.ltL nx cs
 | .tup cs=>AV.ltL nx cs
 | .fn _ cs=>AV.ltL nx cs
 | .bfn _ cs=>AV.ltL nx cs
 | _=>True
def AV.ltL (nx:Nat):List AV -> Prop
 | []=>True
 | a :: l=>a.lt nx /\ AV.ltL nx l
end
theorem ak {nx:Nat}:∀ {l:List AV},AV.ltL nx l ↔ ∀ a ∈ l,a.lt nx
 | []=>by simp [AV.ltL]
 | a :: l=>by simp [AV.ltL,ak (l:=l)]
theorem AV.lt_mono {n m:Nat} (hnm:n<=m):∀ {av:AV},av.lt n -> av.lt m:=by
 intro av
 induction av using AV.rec (motive_2:=fun _=>True) (motive_3:=fun l=>AV.ltL n l -> AV.ltL m l)<;>simp_all [AV.lt,AV.ltL]<;>omega
theorem RT.lt {w:World} {S:Nat -> Prop} {x:Value} {av:AV} (h:RT w S x av) (nx:Nat):av.lt nx:=by
 induction h with
 | agg xs cs hn hr ih=>
  refine ak.2 fun a ha=>?_;obtain ⟨j,hj⟩:=V7 ha;have hlt:j<xs.size:=by rw [hn];exact (Vd.1 hj).1
  exact ih j _ a (Vj hlt) hj
 | tup xs cs hn hr ih=>
  refine ak.2 fun a ha=>?_;obtain ⟨j,hj⟩:=V7 ha;have hlt:j<xs.size:=by rw [hn];exact (Vd.1 hj).1
  exact ih j _ a (Vj hlt) hj
 | fn fi xs cs hn hr ih=>
  refine ak.2 fun a ha=>?_;obtain ⟨j,hj⟩:=V7 ha;have hlt:j<xs.size:=by rw [hn];exact (Vd.1 hj).1
  exact ih j _ a (Vj hlt) hj
 | bfn fi xs cs hn hr ih=>
  refine ak.2 fun a ha=>?_;obtain ⟨j,hj⟩:=V7 ha;have hlt:j<xs.size:=by rw [hn];exact (Vd.1 hj).1
  exact ih j _ a (Vj hlt) hj
 | _=>trivial
theorem RV.mono {w w':World} {S S':Nat -> Prop} {K K':Nat -> Option (Nat × Value)} {nx:Nat} {x:Value} {av:AV} (h:RV w S K x av) (hl:av.lt nx) (hk:∀ p:Addr,S p.block -> w'.cell? p=w.cell? p) (hS:∀ b,S b -> S' b)
  (hK:∀ id p,id<nx -> K' id=some p -> K id=some p):RV w' S' K' x av:=by
 induction h with
 | tree h=>exact .tree (h.mono hk hS)
 | osl x id h=>exact .osl x id fun sz v e=>h sz v (hK id _ hl e)
 | op x id i j h=>exact .op x id i j fun sz v e=>h sz v (hK id _ hl e)
 | agg xs cs hn hr ih=>exact .agg xs cs hn fun j x av h1 h2=>ih j x av h1 h2 (ak.1 hl _ (p0 h2))
 | tup xs cs hn hr ih=>exact .tup xs cs hn fun j x av h1 h2=>ih j x av h1 h2 (ak.1 hl _ (p0 h2))
 | fn fi xs cs hn hr ih=>exact .fn fi xs cs hn fun j x av h1 h2=>ih j x av h1 h2 (ak.1 hl _ (p0 h2))
 | bfn fi xs cs hn hr ih=>exact .bfn fi xs cs hn fun j x av h1 h2=>ih j x av h1 h2 (ak.1 hl _ (p0 h2))
section
variable {w:World} {S:Nat -> Prop} {K:Nat -> Option (Nat × Value)} {x:Value}
theorem RV.c_inv {v:Value} (h:RV w S K x (.c v)):x=v:=by
 cases h with
 | tree h=>cases h;rfl
theorem RV.agg_inv {cs:List AV} (h:RV w S K x (.agg cs)):∃ xs:Array Value,x=.agg xs /\ xs.size=cs.length /\ ∀ (j:Nat) (x:Value) (av:AV),xs[j]? = some x -> cs[j]? = some av -> RV w S K x av:=by
 cases h with
 | tree h=>cases h with | agg xs cs hn hr=>exact ⟨xs,rfl,hn,fun j x av h1 h2=>.tree (hr j x av h1 h2)⟩
 | agg xs cs hn hr=>exact ⟨xs,rfl,hn,hr⟩
theorem RV.tup_inv {cs:List AV} (h:RV w S K x (.tup cs)):∃ xs:Array Value,x=.tuple xs /\ xs.size=cs.length /\ ∀ (j:Nat) (x:Value) (av:AV),xs[j]? = some x -> cs[j]? = some av -> RV w S K x av:=by
 cases h with
 | tree h=>cases h with | tup xs cs hn hr=>exact ⟨xs,rfl,hn,fun j x av h1 h2=>.tree (hr j x av h1 h2)⟩
 | tup xs cs hn hr=>exact ⟨xs,rfl,hn,hr⟩
theorem RV.fn_inv {f:FuncId} {cs:List AV} (h:RV w S K x (.fn f cs)):∃ xs:Array Value,x=.func (.func f) #[] xs /\ xs.size=cs.length /\ ∀ (j:Nat) (x:Value) (av:AV),xs[j]? = some x -> cs[j]? = some av -> RV w S K x av:=by
 cases h with
 | tree h=>cases h with | fn _ xs cs hn hr=>exact ⟨xs,rfl,hn,fun j x av h1 h2=>.tree (hr j x av h1 h2)⟩
 | fn _ xs cs hn hr=>exact ⟨xs,rfl,hn,hr⟩
theorem RV.bfn_inv {f:FuncId} {cs:List AV} (h:RV w S K x (.bfn f cs)):∃ xs:Array Value,x=.func (.func f) xs #[] /\ xs.size=cs.length /\ ∀ (j:Nat) (x:Value) (av:AV),xs[j]? = some x -> cs[j]? = some av -> RV w S K x av:=by
 cases h with
 | tree h=>cases h with | bfn _ xs cs hn hr=>exact ⟨xs,rfl,hn,fun j x av h1 h2=>.tree (hr j x av h1 h2)⟩
 | bfn _ xs cs hn hr=>exact ⟨xs,rfl,hn,hr⟩
theorem RT.sl_inv {sz:Nat} {rows:List (List AV)} (h:RT w S x (.sl sz rows)):∃ A cap,x=.slice A rows.length cap /\ rows.length<=cap /\ cap<=9223372036854775807 /\ (∀ row ∈ rows,row.length=sz) /\
  (0<rows.length -> ∃ b o,A=some ⟨b,o,none⟩ /\ S b /\ ∃ U:Nat -> Nat -> Value,(∀ i j row av,rows[i]? = some row -> row[j]? = some av -> w.cell? ⟨b,o+i * sz+j,none⟩=some (U i j)) /\
   (∀ i j row av,rows[i]? = some row -> row[j]? = some av -> RT w S (U i j) av) /\ ∀ i j row av,rows[i]? = some row -> row[j]? = some av -> (U i j).oneCell'=true):=by
 cases h with
 | sl A n cap sz rows b o U hn hc hm hA hs hcell hone hr=>
  subst hn;exact ⟨A,cap,rfl,hc,hm,hs,fun h=>⟨b,o,(hA h).1,(hA h).2,U,hcell h,hr,hone⟩⟩
theorem RV.sl_inv {sz:Nat} {rows:List (List AV)} (h:RV w S K x (.sl sz rows)):RT w S x (.sl sz rows):=by
 cases h with
 | tree h=>exact h
theorem RV.rp_inv {cs:List AV} (h:RV w S K x (.rp cs)):∃ b o,∃ U:Nat -> Value,x=.pointer (some ⟨b,o,none⟩) /\ S b /\ (∀ j av,cs[j]? = some av -> w.cell? ⟨b,o+j,none⟩=some (U j)) /\ ∀ j av,cs[j]? = some av -> RT w S (U j) av:=by
 cases h with
 | tree h=>cases h with | rp b o cs U hb hcell hr=>exact ⟨b,o,U,rfl,hb,hcell,hr⟩
theorem RV.osl_inv {id:Nat} (h:RV w S K x (.osl id)):∀ sz v,K id=some (sz,v) -> x=v:=by
 cases h with
 | tree h=>cases h
 | osl x id h=>exact h
theorem RV.op_inv {id i j:Nat} (h:RV w S K x (.op id i j)):∀ sz v,K id=some (sz,v) -> ∃ g,aO v=some g /\ x=.pointer (some ⟨g,i * sz+j,none⟩):=by
 cases h with
 | tree h=>cases h
 | op x id i j h=>exact h
end
def dD (nx:Nat):List (Nat × AV) -> Prop
 | []=>True
 | (_,av) :: l=>av.lt nx /\ dD nx l
inductive aE where
 | box (t:TypeId) (cells:List AV)
 | nest (e:TypeId) (sz:Nat) (rows:List (List AV))
 | row (e:TypeId) (sz:Nat) (rows:List (List AV))
 | map (ents:List (Value × Value))
 | ghost (vs:Array Value) (env:List (Nat × AV))
def aE.sz:aE -> Nat
 | .box _ cells=>cells.length
 | .nest _ sz _=>sz
 | .row _ sz _=>sz
 | .map _=>0
 | .ghost _ _=>0
def aE.lt (nx:Nat):aE -> Prop
 | .box _ cells=>AV.ltL nx cells
 | .nest _ _ rows=>∀ row ∈ rows,AV.ltL nx row
 | .row _ _ _=>True
 | .map _=>True
 | .ghost _ env=>dD nx env
def Sm:List TypeId:=[]
def AK (t:TypeId):Bool:=Sm.contains t
def Tm (b:Bool) (e:TypeId) (sz:Nat) (rows:List (List AV)):aE:=match b with
 | true=>.nest e sz rows
 | false=>.row e sz rows
abbrev ae:=List (Nat × Option aE)
def ae.get:ae -> Nat -> Option aE
 | [],_=>none
 | (k,o) :: l,id=>if id=k then o else ae.get l id
theorem ae.gc (k:Nat) (o:Option aE) (l:ae) (id:Nat):ae.get ((k,o) :: l) id=if id=k then o else l.get id:=rfl
def bh:List (Nat × AV) -> Nat -> AV
 | [],_=>.any
 | (k,v) :: l,t=>if t=k then v else bh l t
theorem fU {nx:Nat}:∀ {l:List (Nat × AV)},dD nx l -> ∀ t,(bh l t).lt nx
 | [],_,_=>trivial
 | (k,av) :: l,h,t=>by
  unfold bh;split
  .exact h.1
  .exact fU h.2 t
theorem dF {n m:Nat} (hnm:n<=m):∀ {l:List (Nat × AV)},dD n l -> dD m l
 | [],_=>trivial
 | (_,_) :: _,h=>⟨AV.lt_mono hnm h.1,dF hnm h.2⟩
structure aj where
 n:Nat
 env:List (Nat × AV)
 tab:ae
 next:Nat
def aj.get (st:aj) (t:Nat):AV:=if t<st.n then bh st.env t else .any
def aj.put (st:aj) (dst:Option Nat) (av:AV):aj:=
 match dst with
 | some d=>{ st with env:=(d,av) :: st.env }
 | none=>st
structure Cx where
 F:Nat -> Prop
 w0:World
 /-- memory of somebody else's: neither read nor written -/
 X:Nat -> Prop
 amb:Ef w0
 exD:∀ b,X b -> xN<=b
 inF:∀ b,b<xN -> F b
structure Es (w:World) (S:Nat -> Prop):Prop where
 sub:∀ b,S b -> b<w.heap.size
 amb:Ef w
 tab:∀ b,b<xN -> S b
instance {w:World} {S:Nat -> Prop}:CoeFun (Es w S) fun _=>∀ b,S b -> b<w.heap.size:=⟨fun h=>h.sub⟩
abbrev Cx.mk0 (S:Nat -> Prop) (w:World) (hS:Es w S):Cx:=⟨S,w,fun _=>False,hS.amb,fun _ h=>h.elim,hS.tab⟩
theorem Ef.below {w w':World} (h:Ef w) (hb:Below w.heap.size w w'):Ef w':=h.keep (Vz h.le hb.size) fun k hk=>hb.block k (Vm hk h.le)
theorem Ef.all {w:World} (h:Ef w):Es w (fun b=>b<w.heap.size):=⟨fun b hb=>hb,h,fun b hb=>Vm hb h.le⟩
structure cg (X:Nat -> Prop) (n:Nat) (w w':World):Prop where
 os:w'.os=w.os
 tape:w'.tape=w.tape
 output:w'.output=w.output
 size:w.heap.size<=w'.heap.size
 block:∀ k,k<n -> ¬ X k -> w'.heap[k]? = w.heap[k]?
theorem cg.trans {X:Nat -> Prop} {n:Nat} {a b c:World} (h:cg X n a b) (k:cg X n b c):cg X n a c:=
 ⟨k.os.trans h.os,k.tape.trans h.tape,k.output.trans h.output,Vz h.size k.size,fun i hi hx=>(k.block i hi hx).trans (h.block i hi hx)⟩
theorem jQ {X:Nat -> Prop} {n:Nat} {a b:World} (h:Below n a b):cg X n a b:=⟨h.os,h.tape,h.output,h.size,fun i hi _=>h.block i hi⟩
theorem cg.below {X:Nat -> Prop} {n:Nat} {a b:World} (h:cg X n a b) (hx:∀ b,¬ X b):Below n a b:=⟨h.os,h.tape,h.output,h.size,fun i hi=>h.block i hi (hx i)⟩
def Sx (c:Cx) (w:World) (tab:ae) (L:Nat -> Value) (b:Nat):Prop:=b<w.heap.size /\ ((c.F b \/ c.w0.heap.size<=b) /\ ¬ c.X b) /\ ∀ id o,tab.get id=some o -> aO (L id) ≠ some b
def Kx (tab:ae) (L:Nat -> Value) (id:Nat):Option (Nat × Value):=(tab.get id).map fun o=>(o.sz,L id)
abbrev bN (c:Cx) (w:World) (tab:ae) (L:Nat -> Value):Value -> AV -> Prop:=RV w (Sx c w tab L) (Kx tab L)
def eW (w:World) (base:Nat) (e:TypeId) (size:Nat) (v:Value) (n:Nat) (xs:List Value):Prop:=
  xs.length=n * size /\
  ((v=.slice none 0 0 /\ n=0) \/
   ∃ g cap cur,v=.slice (some ⟨g,0,none⟩) n cap /\ base<=g /\ w.heap[g]? = some (.cells cur e (0,0)) /\ n<=cap /\ cap<=maxLen /\ cap * size<=cur.size /\ cur.toList.take (n * size)=xs)
theorem I5 {w:World} {base e size n:Nat} {v:Value} {xs:List Value} (h:w.ownsRow base e size v n xs):eW w base e size v n xs:=by
 refine ⟨h.1,?_⟩;rcases h.2 with hn|⟨g,cap,cur,h1,h2,h3,h4,h5,h6,h7⟩
 .exact .inl hn
 .exact .inr ⟨g,cap,cur,h1,h2,h3,h4,h5,by omega,h7⟩
theorem ko (w:World) (base:Nat) (e:TypeId) (size:Nat):eW w base e size (.slice none 0 0) 0 []:=⟨by simp,.inl ⟨rfl,rfl⟩⟩
theorem eW.lt {w:World} {base e size n:Nat} {v:Value} {xs:List Value} (h:eW w base e size v n xs):∀ k,v.ownBlock=some k -> base<=k /\ k<w.heap.size:=by
 intro k hk;rcases h.2 with ⟨rfl,_⟩|⟨g,cap,cur,rfl,hb,hg,_⟩
 .simp [Value.ownBlock] at hk
 .simp [Value.ownBlock] at hk;subst hk;exact ⟨hb,(VJ.1 hg).1⟩
theorem eW.base {w:World} {base base' e size n:Nat} {v:Value} {xs:List Value} (h:eW w base e size v n xs) (hb:base'<=base):eW w base' e size v n xs:=by
 refine ⟨h.1,?_⟩;rcases h.2 with hn|⟨g,cap,cur,h1,h2,rest⟩
 .exact .inl hn
 .exact .inr ⟨g,cap,cur,h1,Vz hb h2,rest⟩
theorem eW.cells {w:World} {base e size n:Nat} {v:Value} {xs:List Value} (h:eW w base e size v n xs) {g:Nat} (hg:v.ownBlock=some g):∀ j u,xs[j]? = some u -> w.cell? ((⟨g,0,none⟩:Addr).add j)=some u:=by
 intro j u hu;rcases h.2 with ⟨rfl,_⟩|⟨g',cap,cur,rfl,_,hgg,_,_,_,htake⟩
 .simp [Value.ownBlock] at hg
 .simp [Value.ownBlock] at hg;subst hg;have hadd:(⟨g',0,none⟩:Addr).add j=⟨g',j,none⟩:=by unfold Addr.add;split<;>simp_all
  rw [hadd,cell_of_row w g' j cur e (0,0) hgg];rw [<- htake,V0] at hu;split at hu
  .simpa using hu
  .cases hu
def io (c:Cx) (w:World) (tab:ae) (L:Nat -> Value) (v:Value):aE -> Prop
 | .box t cells=>∃ g cs,v=.pointer (some ⟨g,0,none⟩) /\ c.w0.heap.size<=g /\ w.heap[g]? = some (.cells cs t (0,0)) /\ cs.size=cells.length /\ ∀ (j:Nat) (x:Value) (av:AV),cs[j]? = some x -> cells[j]? = some av -> bN c w tab L x av /\ x.oneCell'=true
 | .nest e sz rows=>(∀ row ∈ rows,row.length=sz) /\ ∃ xs,eW w c.w0.heap.size e sz v rows.length xs /\ (∀ x ∈ xs,x.oneCell'=true) /\ ∀ (i j:Nat) (row:List AV) (av:AV),rows[i]? = some row -> row[j]? = some av -> ∃ x,xs[i * sz+j]? = some x /\ bN c w tab L x av
 | .row e sz rows=>(∀ row ∈ rows,row.length=sz) /\ ∃ xs,eW w c.w0.heap.size e sz v rows.length xs /\ (∀ x ∈ xs,x.oneCell'=true) /\ ∀ (i j:Nat) (row:List AV) (av:AV),rows[i]? = some row -> row[j]? = some av -> ∃ x,xs[i * sz+j]? = some x /\ RT w (Sx c w tab L) x av
 | .map ents=>∃ b es ck,v=.map (some b) /\ c.w0.heap.size<=b /\ w.heap[b]? = some (.map es ck) /\ es.toList.map (fun e=>(e.key,e.val))=ents
 | .ghost vs env=>v=.bool false /\ ∀ t,t<vs.size -> bN c w tab L (vs.getD t undef) (bh env t)
structure iL (c:Cx) (w:World) (tab:ae) (L:Nat -> Value):Prop where
 below:cg c.X c.w0.heap.size c.w0 w
 objs:∀ id o,tab.get id=some o -> io c w tab L (L id) o
 sep:∀ id id' o o' g,tab.get id=some o -> tab.get id'=some o' -> aO (L id)=some g -> aO (L id')=some g -> id=id'
 ex:∀ b,c.X b -> b<w.heap.size /\ ∀ id o,tab.get id=some o -> aO (L id) ≠ some b
theorem iL.amb {c:Cx} {w:World} {tab:ae} {L:Nat -> Value} (h:iL c w tab L):Ef w:=
 c.amb.keep (Vz c.amb.le h.below.size) fun k hk=>h.below.block k (Vm hk c.amb.le) fun hx=>by have:=c.exD k hx;omega
theorem iL.sok {c:Cx} {w:World} {tab:ae} {L:Nat -> Value} (h:iL c w tab L):Es w (Sx c w tab L):=
 ⟨fun b hb=>hb.1,h.amb,fun b hb=>⟨Vm hb h.amb.le,⟨.inl (c.inF b hb),fun hx=>by have:=c.exD b hx;omega⟩,fun id o hid hg=>by
  have h1:=h.objs id o hid
  have h2:c.w0.heap.size<=b:=by
   cases o with
   | box t cells=>
    obtain ⟨g,cs,h3,h4,_⟩:=h1;rw [h3] at hg;cases hg;exact h4
   | row e sz rows=>
    obtain ⟨_,xs,h3,_⟩:=h1;rcases h3.2 with ⟨h4,_⟩|⟨g,cap,cur,h4,h5,_⟩
    .rw [h4] at hg;cases hg
    .rw [h4] at hg;cases hg;exact h5
   | nest e sz rows=>
    obtain ⟨_,xs,h3,_⟩:=h1;rcases h3.2 with ⟨h4,_⟩|⟨g,cap,cur,h4,h5,_⟩
    .rw [h4] at hg;cases hg
    .rw [h4] at hg;cases hg;exact h5
   | map ents=>
    obtain ⟨b',es,ck,h3,h4,_⟩:=h1;rw [h3] at hg;cases hg;exact h4
   | ghost vs env=>
    rw [h1.1] at hg;cases hg
  have:=c.amb.le;omega⟩⟩
def jt (base:Nat) (w:World) (S:Nat -> Prop) (ds:List Deferred):Prop:=
 ds.Nodup /\ ∀ d ∈ ds,∃ k,d={ target:=.collected k,args:=#[] } /\ base<=k /\ w.heap[k]? = some (.deferred (some [])) /\ S k
theorem jt.nil (base:Nat) (w:World) (S:Nat -> Prop):jt base w S []:=⟨List.nodup_nil,fun d hd=>(by cases hd)⟩
theorem jt.mono {base:Nat} {w w':World} {S S':Nat -> Prop} {ds:List Deferred} (h:jt base w S ds) (hb:∀ b,S b -> w'.heap[b]? = w.heap[b]?) (hS:∀ b,S b -> S' b):jt base w' S' ds:=
 ⟨h.1,fun d hd=>(h.2 d hd).elim fun k hk=>⟨k,hk.1,hk.2.1,(hb k hk.2.2.2).trans hk.2.2.1,hS k hk.2.2.2⟩⟩
structure aJ (c:Cx) (a:Act) (w:World) (st:aj) (L:Nat -> Value):Prop where
 lay:iL c w st.tab L
 size:a.tmps.size=st.n
 defers:jt c.w0.heap.size w (Sx c w st.tab L) a.defers
 young:∀ id o,st.tab.get id=some o -> id<st.next /\ o.lt st.next
 env:∀ t,bN c w st.tab L (a.tmps.getD t undef) (st.get t) /\ (st.get t).lt st.next
end
section
def bM (P:Program) (t:TypeId):Bool:=match P.underlying t with | some (.struct _) | some (.array _ _)=>true | _=>false
def aq (P:Program) (t:TypeId):Nat:=match P.underlying t,P.info? t with | some _,some i=>i.size | _,_=>0
def bt (P:Program) (t:TypeId):Nat × Nat:=match P.underlying t with | some (.slice e)=>(e,aq P e) | _=>(0,0)
def bO (P:Program) (s:TypeId) (f:Nat):Option Nat:=match P.underlying s with
 | some (.struct fields)=>match fields[f]? with
  | some fd=>if aq P fd.type=0 then none else some fd.offset
  | none=>none
 | _=>none
def Jf (P:Program) (s:TypeId) (f:Nat):TypeId:=match P.underlying s with
 | some (.struct fields)=>match fields[f]? with
  | some fd=>fd.type
  | none=>0
 | _=>0
def Ei (P:Program) (t:TypeId):Option IntKind:=match P.underlying t with | some (.int k)=>some k | _=>none
inductive R7 where | bool | int | str | slice | other
def Ab (P:Program) (t:TypeId):R7:=match P.underlying t with | some .bool=>.bool | some (.int _)=>.int | some .string=>.str | some (.slice _)=>.slice | _=>.other
section
variable {P:Program} {t:TypeId}
theorem tq (h:bM P t=true) (w:World):(isAgg t).run P w=.ok true w:=by
 unfold bM at h
 cases hu:P.underlying t with
 | none=>simp [hu] at h
 | some d=>
  unfold isAgg;rw [Sem.run_bind,run_underlying hu w];cases d<;>simp_all
theorem qF {d:TypeDesc} (hu:P.underlying t=some d) (h:bM P t=false) (w:World):(isAgg t).run P w=.ok false w:=by
 unfold bM at h;unfold isAgg;rw [Sem.run_bind,run_underlying hu w];cases d<;>simp_all
theorem nh (h:0<aq P t):∃ d i,P.underlying t=some d /\ P.info? t=some i /\ i.size=aq P t:=by
 unfold aq at *;cases hu:P.underlying t<;>cases hi:P.info? t<;>simp_all
theorem dA (h:0<aq P t) (w:World):(sizeOf t).run P w=.ok (aq P t) w:=by
 obtain ⟨d,i,_,hi,he⟩:=nh h;simp [sizeOf,typeInfo,hi,he]
end
def bj (st:aj):Operand -> AV
 | .tmp t=>st.get t
 | .const v=>.c v
 | .func f=>.c (.func (.func f) #[] #[])
 | .global _=>.any
def oT (P:Program) (t:TypeId) (cs:List AV) (K:AV -> Prop):Prop:=
 0<aq P t /\ aq P t<=cs.length /\ if bM P t=true then K (.agg (cs.take (aq P t))) else K (cs.headD .any)
def j9 (P:Program) (t:TypeId) (tab:ae) (x:AV) (K:AV -> Prop):Prop:=
 match x with
 | .rp cs=>oT P t cs K
 | .op id i j=>match tab.get id with
  | some (.box _ cells)=>i=0 /\ oT P t (cells.drop j) K
  | some (.row _ _ rows)=>i<rows.length /\ oT P t ((rows[i]?.getD []).drop j) K
  | some (.nest _ _ rows)=>i<rows.length /\ oT P t ((rows[i]?.getD []).drop j) K
  | _=>False
 | _=>False
def nN (P:Program) (s:TypeId) (tab:ae) (x:AV) (f:Nat) (K:AV -> Prop):Prop:=
 match bO P s f with
 | some d=>match x with
  | .rp cs=>K (.rp (cs.drop d))
  | .op id i j=>match tab.get id with
   | some _=>K (.op id i (j+d))
   | none=>False
  | _=>False
 | none=>False
def g8 (P:Program) (t:TypeId):Nat × Nat:=match P.underlying t with | some (.array n e)=>(n,aq P e) | _=>(0,0)
def i9 (P:Program) (t:TypeId) (tab:ae) (x ix:AV) (K:AV -> Prop):Prop:=
 match ix with
 | .c (.int _ n)=>match x with
  | .op id i j=>match tab.get id with
   | some _=>0<(g8 P t).2 /\ 0<=n /\ n<(g8 P t).1 /\ K (.op id i (j+n.toNat * (g8 P t).2))
   | none=>False
  | .rp cs=>0<(g8 P t).2 /\ 0<=n /\ n<(g8 P t).1 /\ K (.rp (cs.drop (n.toNat * (g8 P t).2)))
  | .sl sz rows=>(bt P t).2=sz /\ 0<sz /\ 0<=n /\ n<rows.length /\ K (.rp (rows[n.toNat]?.getD []))
  | .osl id=>match tab.get id with
   | some (.row _ sz rows)=>(bt P t).2=sz /\ 0<sz /\ 0<=n /\ n<rows.length /\ K (.op id n.toNat 0)
   | some (.nest _ sz rows)=>(bt P t).2=sz /\ 0<sz /\ 0<=n /\ n<rows.length /\ K (.op id n.toNat 0)
   | _=>False
  | _=>False
 | _=>False
def sH (P:Program) (t:TypeId) (tab:ae) (x:AV) (K:AV -> Prop):Prop:=
 match x with
 | .sl _ rows=>(bt P t).2 ≠ 0 /\ K (.c (.int .i64 rows.length))
 | .osl id=>match tab.get id with
  | some (.row _ _ rows)=>(bt P t).2 ≠ 0 /\ K (.c (.int .i64 rows.length))
  | some (.nest _ _ rows)=>(bt P t).2 ≠ 0 /\ K (.c (.int .i64 rows.length))
  | _=>False
 | .c (.slice _ n _)=>(bt P t).2 ≠ 0 /\ K (.c (.int .i64 n))
 | .c (.string s)=>Ab P t=.str /\ K (.c (.int .i64 s.size))
 | _=>False
def fI (op:BinOp) (k:R7):Value -> Value -> Option Value
 | .int i a,.int j b=>if i=j then
   match op with
   | .add=>some (.int i (i.wrap (a+b)))
   | .sub=>some (.int i (i.wrap (a - b)))
   | .mul=>some (.int i (i.wrap (a * b)))
   | .quo=>if b=0 then none else some (.int i (i.wrap (a.tdiv b)))
   | .rem=>if b=0 then none else some (.int i (a.tmod b))
   | .eql=>some (.bool (a == b))
   | .neq=>some (.bool (a != b))
   | .lss=>some (.bool (decide (a<b)))
   | .leq=>some (.bool (decide (a<=b)))
   | .gtr=>some (.bool (decide (b<a)))
   | .geq=>some (.bool (decide (b<=a)))
   | .and=>some (.int i (bits .and i a b))
   | .or=>some (.int i (bits .or i a b))
   | .xor=>some (.int i (bits .xor i a b))
   | .andNot=>some (.int i (bits .andNot i a b))
   | .shl=>if b<0 then none else some (.int i (i.wrap (a * 2 ^ (min b.toNat i.bits))))
   | .shr=>if b<0 then none else some (.int i (a.fdiv (2 ^ (min b.toNat i.bits))))
  else none
 | .bool a,.bool b=>match k,op with
   | .bool,.eql=>some (.bool (a == b))
   | .bool,.neq=>some (.bool (!(a == b)))
   | _,_=>none
 | .string a,.string b=>match op with
   | .eql=>some (.bool (a == b))
   | .neq=>some (.bool (!(a == b)))
   | .add=>if a.size+b.size<=9223372036854775807 then some (.string (a ++ b)) else none
   | _=>none
 | .slice none _ _,.slice none _ _=>match k,op with
   | .slice,.eql=>some (.bool true)
   | .slice,.neq=>some (.bool false)
   | _,_=>none
 | _,_=>none
def yO (op:BinOp) (k:R7) (rows:List (List AV)) (b:Value) (K:AV -> Prop):Prop:=
 match k,op,b with
 | .slice,.eql,.slice none 0 0=>∀ c:Bool,(c=true -> rows=[]) -> K (.c (.bool c))
 | .slice,.neq,.slice none 0 0=>∀ c:Bool,(c=false -> rows=[]) -> K (.c (.bool c))
 | _,_,_=>False
def Pi (f:Int -> Int -> Int):List AV -> (AV -> Prop) -> Prop
 | [.c (.int k a),.c (.int _ b)],K=>K (.c (.int k (f a b)))
 | _,_=>False
def Pq (op:UnOp):Value -> Option Value
 | .bool b=>match op with | .not=>some (.bool (!b)) | _=>none
 | .int k n=>match op with | .neg=>some (.int k (k.wrap (0 - n))) | _=>none
 | _=>none
def sn:List AV -> Option (List Value)
 | []=>some []
 | .c v :: l=>match sn l with
  | some vs=>some (v :: vs)
  | none=>none
 | _=>none
def tA (P:Program) (op:BinOp) (t:TypeId) (a b r:Value):Prop:=∀ (w:World) (x y:Operand),(do eqGuard op t x y a b;binOp op t a b:Sem Value).run P w=.ok r w
def DI (P:Program) (op:BinOp) (t:TypeId) (K:AV -> Prop):Option (List Value) -> Option (List Value) -> Prop
 | some vs,some us=>∃ r,tA P op t (.agg vs.toArray) (.agg us.toArray) r /\ K (.c r)
 | _,_=>False
def xh (P:Program) (op:BinOp) (t:TypeId) (x y:AV) (K:AV -> Prop):Prop:=
 match x,y with
 | .c a,.c b=>match fI op (Ab P t) a b with
  | some v=>K (.c v)
  | none=>False
 | .agg xs,.agg ys=>DI P op t K (sn xs) (sn ys)
 | .sl _ rows,.c b=>yO op (Ab P t) rows b K
 | _,_=>False
def S7 (op:UnOp) (x:AV) (K:AV -> Prop):Prop:=
 match x with
 | .c a=>match Pq op a with
  | some v=>K (.c v)
  | none=>False
 | _=>False
def UN (t:Bool) (a b:AV) (K:AV -> Prop):Prop:=match t with | true=>K a | false=>K b
def Jl (c a b:AV) (K:AV -> Prop):Prop:=
 match c with
 | .c (.bool t)=>UN t a b K
 | _=>False
def j4 (x:AV) (i:Nat) (K:AV -> Prop):Prop:=
 match x with
 | .tup vs=>i<vs.length /\ K (vs[i]?.getD .any)
 | _=>False
def Lj (P:Program) (src dst:TypeId) (x:AV) (K:AV -> Prop):Prop:=
 match Ei P src,Ei P dst,x with
 | some _,some k,.c (.int _ n)=>K (.c (.int k (k.wrap n)))
 | _,_,_=>False
def rA (P:Program) (s:TypeId) (x:AV) (f:Nat) (K:AV -> Prop):Prop:=
 match bO P s f with
 | some d=>match x with
  | .agg cs=>d+aq P (Jf P s f)<=cs.length /\ if bM P (Jf P s f)=true then K (.agg ((cs.drop d).take (aq P (Jf P s f)))) else K ((cs.drop d).headD .any)
  | _=>False
 | none=>False
def RK (f:Fn) (b:Bool) (cs:List AV) (K:AV -> Prop):Prop:=
 match f,b with
 | .func g,true=>K (.fn g cs)
 | _,_=>False
def Kn (f:Fn) (b:Bool) (bs:List AV) (K:AV -> Prop):Prop:=
 match f,b with
 | .func g,true=>K (.bfn g bs)
 | _,_=>False
def Hd (d:Int):Option AV -> Option Int
 | none=>some d
 | some (.c (.int _ n))=>some n
 | _=>none
def ru (P:Program) (t:TypeId) (sz:Nat) (rows:List (List AV)) (K:AV -> Prop):Option Int -> Option Int -> Option AV -> Prop
 | some l,some h,none=>((bt P t).2=sz /\ 0<sz) /\ (0<=l /\ l<=h /\ h<=(rows.length:Int)) /\ K (.sl sz ((rows.take h.toNat).drop l.toNat))
 | _,_,_=>False
def rG (P:Program) (t:TypeId) (s:ByteArray) (K:AV -> Prop):Option Int -> Option Int -> Option AV -> Prop
 | some l,some h,none=>Ab P t=.str /\ (0<=l /\ l<=h /\ h<=(s.size:Int)) /\ K (.c (.string (s.extract l.toNat h.toNat)))
 | _,_,_=>False
def lD (P:Program) (t:TypeId) (x:AV) (lo hi mx:Option AV) (K:AV -> Prop):Prop:=
 match x with
 | .sl sz rows=>ru P t sz rows K (Hd 0 lo) (Hd rows.length hi) mx
 | .c (.string s)=>rG P t s K (Hd 0 lo) (Hd s.size hi) mx
 | _=>False
def AI (tab:ae) (x:AV) (K:AV -> Prop):Prop:=
 match x with
 | .rp cs=>K (.rp cs)
 | .op id i j=>match tab.get id with
  | some _=>K (.op id i j)
  | none=>False
 | _=>False
def ci (P:Program) (tab:ae) (ev:Operand -> AV) (o:Op) (K:AV -> Prop):Prop:=
 match o with
 | .move x=>K (ev x)
 | .assign x=>K (ev x)
 | .pick c a b=>Jl (ev c) (ev a) (ev b) K
 | .load t x=>j9 P t tab (ev x) K
 | .fieldAddr s x f=>nN P s tab (ev x) f K
 | .indexAddr t x ix=>i9 P t tab (ev x) (ev ix) K
 | .field s x f=>rA P s (ev x) f K
 | .binOp op t x y _=>xh P op t (ev x) (ev y) K
 | .unOp op _ x=>S7 op (ev x) K
 | .extract x i=>j4 (ev x) i K
 | .convert s d x=>Lj P s d (ev x) K
 | .call c=>match c.callee with
  | .builtin .len=>match c.args.toList,c.argTypes.toList with
   | [x],[t]=>sH P t tab (ev x) K
   | _,_=>False
  | .builtin .max=>Pi (fun a b=>max a b) (c.args.toList.map ev) K
  | .builtin .min=>Pi (fun a b=>min a b) (c.args.toList.map ev) K
  | _=>False
 | .makeFunc f first caps=>RK f (first.size == 0) (caps.toList.map ev) K \/ Kn f (caps.size == 0 && !(first.size == 0)) (first.toList.map ev) K
 | .slice t x lo hi mx=>lD P t (ev x) (lo.map ev) (hi.map ev) (mx.map ev) K
 | .nilCheck x=>AI tab (ev x) K
 | _=>False
def DZ (P:Program) (cx:Cx) (w:World) (tab:ae) (L:Nat -> Value) (nx:Nat) (K:AV -> Prop) (s:Sem Value):Prop:=
 ∃ v av,K av /\ bN cx w tab L v av /\ av.lt nx /\ ∀ w',Below w.heap.size w w' -> s.run P w'=.ok v w'
def jD (P:Program) (cx:Cx) (w:World) (tab:ae) (L:Nat -> Value) (nx:Nat) (K:AV -> Prop) (s:Sem Value):Prop:=
 ∃ v av,K av /\ bN cx w tab L v av /\ av.lt nx /\ ∀ w',s.run P w'=.ok v w'
section
variable {P:Program} {cx:Cx} {w:World} {tab:ae} {L:Nat -> Value} {nx:Nat} {K:AV -> Prop}
def uE (b:Nat) (w w':World):Prop:=∀ (o:Nat) (u:Value),w.cell? ⟨b,o,none⟩=some u -> w'.cell? ⟨b,o,none⟩=some u
def oS (P:Program) (cx:Cx) (w:World) (tab:ae) (L:Nat -> Value) (nx:Nat) (K:AV -> Prop) (v:Value) (s:Sem Value):Prop:=
 ∃ u av,K av /\ bN cx w tab L u av /\ av.lt nx /\ ∃ b,aO v=some b /\ ∀ w',uE b w w' -> s.run P w'=.ok u w'
theorem oS.one {v:Value} {s:Sem Value} (h:oS P cx w tab L nx K v s):DZ P cx w tab L nx K s:=by
 obtain ⟨u,av,h1,h2,h3,b,_,h4⟩:=h;exact ⟨u,av,h1,h2,h3,fun w' hw'=>h4 w' fun o u hu=>(hw'.cell (World.block_lt_of_cell? w _ hu)).trans hu⟩
theorem jD.one {s:Sem Value} (h:jD P cx w tab L nx K s):DZ P cx w tab L nx K s:=by
 obtain ⟨v,av,h1,h2,h3,h4⟩:=h;exact ⟨v,av,h1,h2,h3,fun w' _=>h4 w'⟩
omit tab L nx K in
theorem pW {f:Nat -> Value} {n j:Nat} {x:Value} (h:((List.range n).map f)[j]? = some x):j<n /\ f j=x:=by
 obtain ⟨hj,he⟩:=Vd.1 h;simp at hj he;exact ⟨hj,he⟩
theorem xD {t:TypeId} {b o:Nat} {cs:List AV} (hc:∀ j av,cs[j]? = some av -> ∃ u,w.cell? ⟨b,o+j,none⟩=some u /\ bN cx w tab L u av) (hl:AV.ltL nx cs) (h:oT P t cs K) :
  oS P cx w tab L nx K (.pointer (some ⟨b,o,none⟩)) (Instr.loadAt t (.pointer (some ⟨b,o,none⟩))):=by
 obtain ⟨h0,h1,h2⟩:=h;obtain ⟨d,i,hu,hi,he⟩:=nh h0
 cases ha:bM P t with
 | true=>
  rw [Vn ha] at h2
  obtain ⟨f,hf⟩:∃ f:Nat -> Value,∀ j av,(cs.take (aq P t))[j]? = some av -> w.cell? ⟨b,o+j,none⟩=some (f j) /\ bN cx w tab L (f j) av:=by
   refine ⟨fun j=>(w.cell? ⟨b,o+j,none⟩).getD undef,fun j av hj=>?_⟩;rw [V0] at hj;split at hj
   .obtain ⟨u,hu,hr⟩:=hc j av hj;simp only [hu,VH];exact ⟨trivial,hr⟩
   .cases hj
  have hlen:(cs.take (aq P t)).length=aq P t:=by rw [Vr];omega
  refine ⟨.agg ((List.range (aq P t)).map f).toArray,_,h2,.agg _ _ (by simp [hlen]) (fun j x av hx hav=>?_),?_,b,rfl,fun w' hb=>?_⟩
  .have:=(hf j av hav).2;rw [WJ] at hx;obtain ⟨_,rfl⟩:=pW hx;exact this
  .show AV.ltL nx _;rw [ak] at hl ⊢;exact fun a ha=>hl a (VQ ha)
  .have hcl:=run_loadCells_list (P:=P) w' ⟨b,o,none⟩ ((List.range (aq P t)).map f) (fun j v hv=>by
    obtain ⟨hj,rfl⟩:=pW hv;rw [Addr.add_lit];have hx:j<(cs.take (aq P t)).length:=(by omega);exact hb _ _ (hf j _ (f4 hx)).1)
   rw [Vo,List.length_range] at hcl;simp [Instr.loadAt,Instr.sureAddr,loadVar,Sem.run_bind,tq ha,dA h0,hcl]
 | false=>
  rw [Vh (by simp [ha])] at h2
  obtain ⟨av,cs',rfl⟩:∃ av cs',cs=av :: cs':=by
   cases cs with
   | nil=>simp at h1;omega
   | cons a l=>exact ⟨a,l,rfl⟩
  obtain ⟨u,hcell,hr⟩:=hc 0 av rfl;refine ⟨u,av,h2,hr,hl.1,b,rfl,fun w' hb=>?_⟩;have:=hb _ _ hcell;rw [XA] at this;simp [Instr.loadAt,Instr.sureAddr,loadVar,Sem.run_bind,qF hu ha,run_load,this]
theorem Ac {cs:List AV} (h:AV.ltL nx cs) (n:Nat):AV.ltL nx (cs.drop n):=by
 rw [ak] at h ⊢;exact fun a ha=>h a (Wp ha)
theorem cQ {id:Nat} {o:aE} (h:tab.get id=some o):Kx tab L id=some (o.sz,L id):=by simp [Kx,h]
theorem tf {t:TypeId} {b o:Nat} {cs:List AV} {S:Nat -> Prop} (hc:∀ j av,cs[j]? = some av -> ∃ u,w.cell? ⟨b,o+j,none⟩=some u /\ RT w (Sx cx w tab L) u av) (h:oT P t cs K) :
  oS P cx w tab L nx K (.pointer (some ⟨b,o,none⟩)) (Instr.loadAt t (.pointer (some ⟨b,o,none⟩))):=
 xD (fun j av hj=>by obtain ⟨u,h1,h2⟩:=hc j av hj;exact ⟨u,h1,.tree h2⟩) (ak.2 fun a ha=>by
  obtain ⟨j,hj⟩:=V7 ha;obtain ⟨u,_,h2⟩:=hc j a hj;exact h2.lt nx) h
theorem pM {e:TypeId} {sz:Nat} {v:Value} {rows:List (List AV)} {g:Nat} (h:io cx w tab L v (.row e sz rows)) (hg:aO v=some g) {i:Nat} (hi:i<rows.length) (j:Nat) (av:AV) (hj:(rows[i]?.getD [])[j]? = some av) :
  ∃ u,w.cell? ⟨g,i * sz+j,none⟩=some u /\ RT w (Sx cx w tab L) u av:=by
 obtain ⟨hsz,xs,hown,_,hx⟩:=h;rw [f4 hi,VH] at hj;obtain ⟨x,h1,h2⟩:=hx i j _ av (f4 hi) hj;refine ⟨x,?_,h2⟩;rcases hown.2 with ⟨rfl,h0⟩|⟨g',cap,cur,rfl,_⟩
 .omega
 .have hc:=hown.cells (g:=g') rfl _ x h1;simp [aO] at hg;subst hg
  rwa [im] at hc
theorem CM {e:TypeId} {sz:Nat} {v:Value} {rows:List (List AV)} {g:Nat} (h:io cx w tab L v (.nest e sz rows)) (hg:aO v=some g) {i:Nat} (hi:i<rows.length) (j:Nat) (av:AV) (hj:(rows[i]?.getD [])[j]? = some av) :
  ∃ u,w.cell? ⟨g,i * sz+j,none⟩=some u /\ bN cx w tab L u av:=by
 obtain ⟨hsz,xs,hown,_,hx⟩:=h;rw [f4 hi,VH] at hj;obtain ⟨x,h1,h2⟩:=hx i j _ av (f4 hi) hj;refine ⟨x,?_,h2⟩;rcases hown.2 with ⟨rfl,h0⟩|⟨g',cap,cur,rfl,_⟩
 .omega
 .have hc:=hown.cells (g:=g') rfl _ x h1;simp [aO] at hg;subst hg
  rwa [im] at hc
theorem pZ {t:TypeId} {v:Value} {cells:List AV} {g:Nat} (h:io cx w tab L v (.box t cells)) (hg:aO v=some g) (j:Nat) (av:AV) (hj:cells[j]? = some av) :
  ∃ u,w.cell? ⟨g,j,none⟩=some u /\ bN cx w tab L u av:=by
 obtain ⟨g',cs,rfl,_,hheap,hn,hx⟩:=h;simp [aO] at hg;subst hg;have hlt:j<cs.size:=by rw [hn];exact (Vd.1 hj).1
 exact ⟨cs[j],by rw [cell_of_row w g' j cs t (0,0) hheap];exact Vj hlt,(hx j _ av (Vj hlt) hj).1⟩
theorem wb {t:TypeId} {v:Value} {x:AV} (hL:iL cx w tab L) (hy:∀ id o,tab.get id=some o -> o.lt nx) (hv:bN cx w tab L v x) (h:j9 P t tab x K):oS P cx w tab L nx K v (Instr.loadAt t v):=by
 unfold j9 at h;split at h
 .rename_i cs;obtain ⟨b,o,U,rfl,hb,hcell,hr⟩:=hv.rp_inv;exact tf (S:=fun _=>True) (fun j av hj=>⟨U j,hcell j av hj,hr j av hj⟩) h
 .rename_i id i j;split at h
  .rename_i ty cells hid;obtain ⟨rfl,h⟩:=h;obtain ⟨g,hg,rfl⟩:=hv.op_inv _ _ (cQ hid);have ho:=hL.objs id _ hid;simp only [aE.sz,Xf,WR];refine xD (fun k av hk=>?_) (Ac (hy id _ hid) j) h;rw [VV] at hk;exact pZ ho hg (j+k) av hk
  .rename_i e sz rows hid;obtain ⟨hi,h⟩:=h;obtain ⟨g,hg,rfl⟩:=hv.op_inv _ _ (cQ hid);have ho:=hL.objs id _ hid;refine tf (S:=fun _=>True) (fun k av hk=>?_) h;rw [VV] at hk;have:=pM ho hg hi (j+k) av hk
   rwa [<- Wx] at this
  .rename_i e sz rows hid;obtain ⟨hi,h⟩:=h;obtain ⟨g,hg,rfl⟩:=hv.op_inv _ _ (cQ hid);have ho:=hL.objs id _ hid;refine xD (fun k av hk=>?_) (Ac (hy id _ hid _ (by rw [f4 hi,VH];exact Vf hi)) j) h;rw [VV] at hk;have:=CM ho hg hi (j+k) av hk
   rwa [<- Wx] at this
  .exact h.elim
 .exact h.elim
theorem vB {s:TypeId} {f d:Nat} (h:bO P s f=some d):∃ fields fd,P.underlying s=some (.struct fields) /\ fields[f]? = some fd /\ 0<aq P fd.type /\ fd.offset=d:=by
 unfold bO at h;split at h
 .rename_i fields hu;split at h
  .rename_i fd hf;split at h
   .cases h
   .rename_i h0;cases h;exact ⟨fields,fd,hu,hf,by omega,rfl⟩
  .cases h
 .cases h
theorem qu {s:TypeId} {f d:Nat} (h:bO P s f=some d) (b o:Nat) (w:World):(Instr.fieldAt s (.pointer (some ⟨b,o,none⟩)) f).run P w=.ok (.pointer (some ⟨b,o+d,none⟩)) w:=by
 obtain ⟨fields,fd,hu,hf,h0,rfl⟩:=vB h;simp [Instr.fieldAt,Sem.run_bind,run_underlying hu,hf,Instr.sureAddr,fieldPlace,dA h0,Nat.ne_of_gt h0,Addr.add_lit]
theorem KD {s:TypeId} {v:Value} {x:AV} {f:Nat} (hl:x.lt nx) (hv:bN cx w tab L v x) (h:nN P s tab x f K):jD P cx w tab L nx K (Instr.fieldAt s v f):=by
 unfold nN at h;split at h
 .rename_i d hd;split at h
  .rename_i cs;obtain ⟨b,o,U,rfl,hb,hcell,hr⟩:=hv.rp_inv;refine ⟨_,_,h,.tree (.rp b (o+d) (cs.drop d) (fun j=>U (d+j)) hb (fun j av hj=>?_) (fun j av hj=>?_)),trivial,fun w'=>qu hd b o w'⟩
   .rw [VV] at hj;rw [Wx];exact hcell _ av hj
   .rw [VV] at hj;exact hr _ av hj
  .rename_i id i j;split at h
   .rename_i ob hid;obtain ⟨g,hg,rfl⟩:=hv.op_inv _ _ (cQ hid);refine ⟨_,_,h,.op _ id i (j+d) (fun sz' u' hk'=>?_),hl,fun w'=>qu hd _ _ w'⟩;rw [cQ hid] at hk';cases hk';exact ⟨g,hg,by rw [Wx]⟩
   .exact h.elim
  .exact h.elim
 .exact h.elim
theorem G2 {s:TypeId} {v:Value} {x:AV} {f:Nat} (hl:x.lt nx) (hv:bN cx w tab L v x) (h:rA P s x f K):jD P cx w tab L nx K (Instr.field s v f):=by
 unfold rA at h;split at h
 .rename_i d hd;obtain ⟨fields,fd,hu,hf,h0,rfl⟩:=vB hd;have ht:Jf P s f=fd.type:=by simp [Jf,hu,hf]
  rw [ht] at h;obtain ⟨dd,i,hdu,hi,he⟩:=nh h0;split at h
  .rename_i cs;obtain ⟨xs,rfl,hn,hr⟩:=hv.agg_inv;obtain ⟨hsz,h⟩:=h
   cases ha:bM P fd.type with
   | true=>
    rw [Vn ha] at h;refine ⟨.agg (xs.extract fd.offset (fd.offset+aq P fd.type)),_,h,.agg _ _ (by simp;omega) (fun j y av h1 h2=>?_),?_,fun w'=>?_⟩
    .rw [V0] at h2;split at h2
     .rename_i hj;rw [VV] at h2;rw [Array.getElem?_extract] at h1;split at h1
      .exact hr _ y av h1 h2
      .cases h1
     .cases h2
    .exact ak.2 fun y hy=>ak.1 hl y (Wp (VQ hy))
    .simp [Instr.field,Sem.run_bind,run_underlying hu,hf,asAgg,part,tq ha,dA h0]
   | false=>
    rw [Vh (by simp [ha])] at h;have hlt:fd.offset<cs.length:=(by omega);have hlt':fd.offset<xs.size:=(by omega);rw [WH hlt,List.headD_cons] at h
    exact ⟨xs[fd.offset],_,h,hr _ _ _ (Vj hlt') (f4 hlt),ak.1 hl _ (Vf hlt),fun w'=>by
     simp [Instr.field,Sem.run_bind,run_underlying hu,hf,asAgg,part,qF hdu ha,Vj hlt']⟩
  .exact h.elim
 .exact h.elim
theorem iW {t:TypeId} (h:0<(bt P t).2):P.underlying t=some (.slice (bt P t).1) /\ aq P (bt P t).1=(bt P t).2:=by
 unfold bt at *;split at h
 .rename_i e he;exact ⟨he,rfl⟩
 .simp at h
theorem kD {t:TypeId} (h:0<(bt P t).2) (b o n cap:Nat) (k:IntKind) (i:Int) (h0:0<=i) (h1:i<n) (w:World):(Instr.indexAt t (.slice (some ⟨b,o,none⟩) n cap) (.int k i)).run P w=.ok (.pointer (some ⟨b,o+i.toNat * (bt P t).2,none⟩)) w:=by
 obtain ⟨hu,he⟩:=iW h;have hs:=dA (P:=P) (t:=(bt P t).1) (by omega) w;rw [he] at hs;simp [Instr.indexAt,Sem.run_bind,run_underlying hu,asIntOf,h0,h1,hs,Addr.add_lit]
theorem pb {id:Nat} {v:Value} {e:TypeId} {sz:Nat} {rows:List (List AV)} (hL:iL cx w tab L) (hid:tab.get id=some (.row e sz rows)) (hv:bN cx w tab L v (.osl id)):v=L id /\ ∃ A cap,v=.slice A rows.length cap /\ (0<rows.length -> ∃ g,A=some ⟨g,0,none⟩):=by
 have e1:=hv.osl_inv _ _ (cQ hid);refine ⟨e1,?_⟩;obtain ⟨_,xs,hown,_⟩:=hL.objs id _ hid;rw [e1];rcases hown.2 with ⟨h1,h0⟩|⟨g,cap,cur,h1,_⟩
 .rw [h1,h0];exact ⟨none,0,rfl,fun h=>by omega⟩
 .rw [h1];exact ⟨_,cap,rfl,fun _=>⟨g,rfl⟩⟩
theorem kc {id:Nat} {v:Value} {e:TypeId} {sz:Nat} {rows:List (List AV)} (hL:iL cx w tab L) (hid:tab.get id=some (.nest e sz rows)) (hv:bN cx w tab L v (.osl id)):v=L id /\ ∃ A cap,v=.slice A rows.length cap /\ (0<rows.length -> ∃ g,A=some ⟨g,0,none⟩):=by
 have e1:=hv.osl_inv _ _ (cQ hid);refine ⟨e1,?_⟩;obtain ⟨_,xs,hown,_⟩:=hL.objs id _ hid;rw [e1];rcases hown.2 with ⟨h1,h0⟩|⟨g,cap,cur,h1,_⟩
 .rw [h1,h0];exact ⟨none,0,rfl,fun h=>by omega⟩
 .rw [h1];exact ⟨_,cap,rfl,fun _=>⟨g,rfl⟩⟩
theorem GA {t:TypeId} (h:0<(g8 P t).2):∃ e,P.underlying t=some (.array (g8 P t).1 e) /\ aq P e=(g8 P t).2:=by
 unfold g8 at *;split at h
 .rename_i n e he;exact ⟨e,he,rfl⟩
 .simp at h
theorem ou {t:TypeId} (h:0<(g8 P t).2) (b o:Nat) (k:IntKind) (i:Int) (h0:0<=i) (h1:i<(g8 P t).1) (w:World):(Instr.indexAt t (.pointer (some ⟨b,o,none⟩)) (.int k i)).run P w=.ok (.pointer (some ⟨b,o+i.toNat * (g8 P t).2,none⟩)) w:=by
 obtain ⟨e,hu,he⟩:=GA h;have hs:=dA (P:=P) (t:=e) (by omega) w;rw [he] at hs;simp [Instr.indexAt,Sem.run_bind,run_underlying hu,asIntOf,Instr.sureAddr,h0,h1,hs,Addr.add_lit]
theorem J7 {t:TypeId} {v u:Value} {x ix:AV} (hL:iL cx w tab L) (hl:x.lt nx) (hv:bN cx w tab L v x) (hu:bN cx w tab L u ix) (h:i9 P t tab x ix K):jD P cx w tab L nx K (Instr.indexAt t v u):=by
 unfold i9 at h;split at h
 .rename_i k n;obtain rfl:=hu.c_inv;split at h
  .rename_i id i j;split at h
   .rename_i o hid;obtain ⟨hpos,h0,h1,h⟩:=h;obtain ⟨g,hg,rfl⟩:=hv.op_inv _ _ (cQ hid);refine ⟨_,_,h,.op _ id i _ (fun sz' u' hk'=>?_),hl,fun w'=>ou hpos g _ k n h0 h1 w'⟩;rw [cQ hid] at hk';cases hk';exact ⟨g,hg,by simp [Wx]⟩
   .exact h.elim
  .rename_i cs;obtain ⟨hpos,h0,h1,h⟩:=h;obtain ⟨b,o,U,rfl,hb,hcell,hr⟩:=hv.rp_inv;refine ⟨_,_,h,.tree (.rp b (o+n.toNat * (g8 P t).2) _ (fun j=>U (n.toNat * (g8 P t).2+j)) hb (fun j av hj=>?_) (fun j av hj=>?_)),trivial,fun w'=>ou hpos b o k n h0 h1 w'⟩
   .rw [VV] at hj;rw [Wx];exact hcell _ av hj
   .rw [VV] at hj;exact hr _ av hj
  .rename_i sz rows;obtain ⟨hsz,hpos,h0,h1,h⟩:=h;obtain ⟨A,cap,rfl,_,_,hrow,hA⟩:=hv.sl_inv.sl_inv;obtain ⟨b,o,rfl,hb,U,hcell,hr,_⟩:=hA (by omega);have hn:n.toNat<rows.length:=(by omega);rw [f4 hn,VH] at h;refine ⟨_,_,h,.tree (.rp b (o+n.toNat * (bt P t).2) _ (U n.toNat) hb (fun j av hj=>?_) (fun j av hj=>?_)),trivial,fun w'=>kD (by omega) b o _ cap k n h0 h1 w'⟩
   .rw [hsz];exact hcell n.toNat j _ av (f4 hn) hj
   .exact hr n.toNat j _ av (f4 hn) hj
  .rename_i id;split at h
   .rename_i e sz rows hid;obtain ⟨hsz,hpos,h0,h1,h⟩:=h;obtain ⟨hvL,A,cap,rfl,hA⟩:=pb hL hid hv;obtain ⟨g,rfl⟩:=hA (by omega);refine ⟨_,_,h,.op _ id n.toNat 0 (fun sz' u' hk'=>?_),hl,fun w'=>kD (by omega) g 0 _ cap k n h0 h1 w'⟩;rw [cQ hid] at hk';cases hk';exact ⟨g,by rw [<- hvL];rfl,by simp [aE.sz,hsz]⟩
   .rename_i e sz rows hid;obtain ⟨hsz,hpos,h0,h1,h⟩:=h;obtain ⟨hvL,A,cap,rfl,hA⟩:=kc hL hid hv;obtain ⟨g,rfl⟩:=hA (by omega);refine ⟨_,_,h,.op _ id n.toNat 0 (fun sz' u' hk'=>?_),hl,fun w'=>kD (by omega) g 0 _ cap k n h0 h1 w'⟩;rw [cQ hid] at hk';cases hk';exact ⟨g,by rw [<- hvL];rfl,by simp [aE.sz,hsz]⟩
   .exact h.elim
  .exact h.elim
 .exact h.elim
theorem gZ {t:TypeId} (h:(bt P t).2 ≠ 0) (ty:TypeId) (A:Option Addr) (n cap:Nat) (w:World):(Builtin.len_ #[t] ty #[.slice A n cap]).run P w=.ok (.int .i64 n) w:=by
 obtain ⟨hu,he⟩:=iW (Nat.pos_of_ne_zero h);simp [Builtin.len_,Sem.run_bind,run_underlying hu,goInt]
theorem Ry {t ty:TypeId} {v:Value} {x:AV} (hL:iL cx w tab L) (hv:bN cx w tab L v x) (h:sH P t tab x K):jD P cx w tab L nx K (Builtin.len_ #[t] ty #[v]):=by
 unfold sH at h;split at h
 .rename_i sz rows;obtain ⟨h1,h⟩:=h;obtain ⟨A,cap,rfl,_⟩:=hv.sl_inv.sl_inv;exact ⟨_,_,h,.tree (.c _),trivial,fun w'=>gZ h1 ty A _ cap w'⟩
 .rename_i id;split at h
  .rename_i e sz rows hid;obtain ⟨h1,h⟩:=h;obtain ⟨_,A,cap,rfl,_⟩:=pb hL hid hv;exact ⟨_,_,h,.tree (.c _),trivial,fun w'=>gZ h1 ty A _ cap w'⟩
  .rename_i e sz rows hid;obtain ⟨h1,h⟩:=h;obtain ⟨_,A,cap,rfl,_⟩:=kc hL hid hv;exact ⟨_,_,h,.tree (.c _),trivial,fun w'=>gZ h1 ty A _ cap w'⟩
  .exact h.elim
 .obtain ⟨h1,h⟩:=h;obtain rfl:=hv.c_inv;exact ⟨_,_,h,.tree (.c _),trivial,fun w'=>gZ h1 ty _ _ _ w'⟩
 .rename_i s;obtain ⟨h1,h⟩:=h;obtain rfl:=hv.c_inv
  have hu:P.underlying t=some .string:=by
   unfold Ab at h1;split at h1<;>first|assumption|cases h1
  exact ⟨_,_,h,.tree (.c _),trivial,fun w'=>by simp [Builtin.len_,Sem.run_bind,run_underlying hu,goInt]⟩
 .exact h.elim
theorem oK {op:BinOp} {t:TypeId} {A:Option Addr} {n c n' c':Nat} (hk:Ab P t=.slice) (h:op=.eql \/ op=.neq) (w:World) (x y:Operand):(do eqGuard op t x y (.slice A n c) (.slice none n' c');binOp op t (.slice A n c) (.slice none n' c'):Sem Value).run P w=.ok (.bool (if op=.eql then A.isNone else !A.isNone)) w:=by
 obtain ⟨e,hu⟩:∃ e,P.underlying t=some (.slice e):=by
  unfold Ab at hk;split at hk<;>first|(rename_i e he;exact ⟨e,he⟩)|cases hk
 have hg:(eqGuard op t x y (.slice A n c) (.slice none n' c')).run P w=.ok () w:=by
  rcases h with rfl|rfl<;>simp [eqGuard]
 have he0:∀ d,(Op.equalIn (d+1) t (.slice A n c) (.slice none n' c')).run P w=.ok A.isNone w:=fun d=>by
  cases A<;>simp [Op.equalIn,run_underlying hu]
 have he:=he0 9999;rw [Sem.run_bind,hg];simp only [Result.andThen_ok];rcases h with rfl|rfl<;>simp only [binOp,Op.equal,Op.maxDepth,Sem.run_bind,he,Result.andThen_ok]<;>simp
theorem LE {op:BinOp} {t:TypeId} {a b v:Value} {x y:Operand} (h:fI op (Ab P t) a b=some v) (w:World):(do eqGuard op t x y a b;binOp op t a b:Sem Value).run P w=.ok v w:=by
 have hg:(eqGuard op t x y a b).run P w=.ok () w:=by
  unfold fI at h;split at h<;>first|(cases h;done)|(cases op<;>simp [eqGuard])
 rw [Sem.run_bind,hg];simp only [Result.andThen_ok];unfold fI at h;split at h
 .rename_i i p j q;split at h
  .rename_i hij;subst hij
   cases op<;>simp at h<;>first
    | (obtain ⟨h0,rfl⟩:=h;simp [binOp,Op.intDiv,h0];done)
    | (obtain ⟨h0,rfl⟩:=h;simp [binOp,Op.shift,Int.not_lt.2 h0];done)
    | (subst h;simp [binOp,intBits_and,intBits_or,intBits_xor,intBits_andNot];done)
    | (subst h;simp [binOp,Op.intArith,Op.intCmp];done)
  .cases h
 .rename_i p q;split at h
  .rename_i hk
   have hu:P.underlying t=some .bool:=by
    unfold Ab at hk;split at hk<;>first|assumption|cases hk
   cases h;simp [binOp,Op.equal,Op.maxDepth,Sem.run_bind,run_equalIn_bool' w 9999 t p q hu]
  .rename_i hk
   have hu:P.underlying t=some .bool:=by
    unfold Ab at hk;split at hk<;>first|assumption|cases hk
   cases h;simp [binOp,Op.equal,Op.maxDepth,Sem.run_bind,run_equalIn_bool' w 9999 t p q hu]
  .cases h
 .rename_i p q;cases op<;>simp at h
  case add=>
   obtain ⟨h1,rfl⟩:=h
   have h2:¬ (((p.size+q.size:Nat):Int) > IntKind.i64.max):=by
    have:IntKind.i64.max=9223372036854775807:=by decide
    omega
   have h3:IntKind.i64.max=9223372036854775807:=(by decide);simp [binOp,Op.stringOp,h3];omega
  all_goals
   subst h;simp [binOp,Op.stringOp,beq_toListBytes]
 .rename_i n1 c1 n2 c2;split at h
  .rename_i hk;have:=oK (A:=none) (n:=n1) (c:=c1) (n':=n2) (c':=c2) hk (.inl rfl) w x y;rw [Sem.run_bind,hg] at this;cases h;simpa using this
  .rename_i hk;have:=oK (A:=none) (n:=n1) (c:=c1) (n':=n2) (c':=c2) hk (.inr rfl) w x y;rw [Sem.run_bind,hg] at this;cases h;simpa using this
  .cases h
 .cases h
theorem N4 {op:UnOp} {a v:Value} (h:Pq op a=some v) (w:World):(Op.unary op a).run P w=.ok v w:=by
 unfold Pq at h;split at h
 .cases op<;>simp at h;subst h;simp [Op.unary]
 .cases op<;>simp at h;subst h;simp [Op.unary,Op.intArith]
 .cases h
theorem tk:∀ {cs:List AV} {vs:List Value} {xs:Array Value},sn cs=some vs -> xs.size=cs.length -> (∀ (j:Nat) (x:Value) (av:AV),xs[j]? = some x -> cs[j]? = some av -> bN cx w tab L x av) -> xs=vs.toArray:=by
 intro cs vs xs h hn hr
 have key:∀ (cs:List AV) (vs:List Value),sn cs=some vs -> ∀ (l:List Value),l.length=cs.length -> (∀ (j:Nat) (x:Value) (av:AV),l[j]? = some x -> cs[j]? = some av -> bN cx w tab L x av) -> l=vs:=by
  intro cs
  induction cs with
  | nil=>
   intro vs h l hl _;cases h;exact WI hl
  | cons a cs ih=>
   intro vs h l hl hr
   cases l with
   | nil=>simp at hl
   | cons x l=>
    cases a with
    | c v=>
     simp only [sn] at h;split at h
     .rename_i vs' hv;cases h;have h0:=(hr 0 x (.c v) rfl rfl).c_inv;rw [h0,ih vs' hv l (by simpa using hl) (fun j y av h1 h2=>hr (j+1) y av (by simpa using h1) (by simpa using h2))]
     .cases h
    | _=>simp [sn] at h
 have:=key cs vs h xs.toList (by simpa using hn) (fun j x av h1 h2=>hr j x av (by simpa using h1) h2);rw [<- this]
theorem Od {S:Nat -> Prop} {v:Value} {sz l h':Nat} {rows:List (List AV)} (hr:RT w S v (.sl sz rows)) (hlh:l<=h') (hh:h'<=rows.length) :
  ∃ A cap,v=.slice A rows.length cap /\ rows.length<=cap /\ ∀ s,s=sz -> RT w S (sliced A l h' cap s) (.sl sz ((rows.take h').drop l)):=by
 obtain ⟨A,cap,rfl,hc,hm,hs,hA⟩:=hr.sl_inv;refine ⟨A,cap,rfl,hc,fun s hs'=>?_⟩;subst hs';have hlen:((rows.take h').drop l).length=h' - l:=by simp only [Wa,Vr];omega
 have hget:∀ i row,((rows.take h').drop l)[i]? = some row -> rows[l+i]? = some row:=fun i row hi=>by
  rw [VV,V0] at hi;split at hi
  .exact hi
  .cases hi
 unfold sliced;by_cases h0:h' - l=0
 .refine .sl _ _ _ _ _ 0 0 (fun _ _=>undef) (by omega) (by omega) (by omega) (fun h=>by omega) (fun row hr'=>hs row (VQ (Wp hr'))) (fun h=>by omega) (fun i j row av h1 h2=>?_) (fun i j row av h1 h2=>?_)
  all_goals
   have:=(Vd.1 h1).1;omega
 .obtain ⟨b,o,rfl,hSb,U,h1,h2,h3⟩:=hA (by omega);rw [Vh (by omega),VX,Addr.add_lit];refine .sl _ _ _ _ _ b (o+l * s) (fun i j=>U (l+i) j) hlen.symm (by omega) (by omega) (fun _=>⟨rfl,hSb⟩) (fun row hr'=>hs row (VQ (Wp hr'))) (fun _ i j row av h4 h5=>?_) (fun i j row av h4 h5=>?_) (fun i j row av h4 h5=>?_)
  .have:=h1 (l+i) j row av (hget i row h4) h5
   rwa [We,<- Wx] at this
  .exact h3 (l+i) j row av (hget i row h4) h5
  .exact h2 (l+i) j row av (hget i row h4) h5
def JU (d n:Nat) (o:Option Value):Prop:=(o=none /\ n=d) \/ ∃ k,o=some (.int k n)
theorem gS {isS:Bool} {w:World} {len cap l h' m:Nat} {lo hi mx:Option Value} (h1:JU 0 l lo) (h2:JU len h' hi) (h3:(mx=none /\ m=cap) \/ (m=h' /\ (∃ k,mx=some (.int k m)) /\ hi ≠ none)) (hlh:l<=h') (hh:h'<=cap):(Instr.sliceBounds isS len cap lo hi mx).run P w=.ok (l,h',m) w:=by
 rcases h1 with ⟨rfl,rfl⟩|⟨k1,rfl⟩<;>rcases h2 with ⟨rfl,rfl⟩|⟨k2,rfl⟩<;>rcases h3 with ⟨rfl,rfl⟩|⟨rfl,⟨k3,rfl⟩,h4⟩ <;>
  first
  | exact absurd rfl h4
  | (simp [Instr.sliceBounds,run_sliceBound,hlh,hh];done)
  | (simp [Instr.sliceBounds,run_sliceBound,hlh,hh];omega)
theorem qr {d n:Nat} {o:Option Operand} {ρ:Operand -> Value} {ev:Operand -> AV} {l:Int} (he:∀ x,bN cx w tab L (ρ x) (ev x)) (h:Hd (d:Int) (o.map ev)=some l) (h0:0<=l) (hn:n=l.toNat):JU d n (o.map ρ):=by
 cases o with
 | none=>
  simp [Hd] at h;exact .inl ⟨rfl,by omega⟩
 | some x=>
  simp only [VX] at h ⊢;unfold Hd at h;split at h
  .rename_i hx;cases hx
  .rename_i k m hx
   injection hx with hx
   have:=he x;rw [hx] at this
   injection h with h
   subst h;rw [this.c_inv];exact .inr ⟨k,by rw [hn,Int.toNat_of_nonneg h0]⟩
  .cases h
theorem Ln {t:TypeId} {v:Value} {x:AV} {lo hi mx:Option Operand} {ρ:Operand -> Value} {ev:Operand -> AV} (he:∀ x,bN cx w tab L (ρ x) (ev x)) (hv:bN cx w tab L v x) (h:lD P t x (lo.map ev) (hi.map ev) (mx.map ev) K) :
  jD P cx w tab L nx K (Instr.sliceAt t v (lo.map ρ) (hi.map ρ) (mx.map ρ)):=by
 unfold lD at h;split at h
 .rename_i sz rows;unfold ru at h;split at h
  .rename_i l h' hl hh hmx;obtain ⟨⟨h1,h2⟩,⟨h3,h4,h5⟩,h6⟩:=h;obtain ⟨hu,hsz⟩:=iW (P:=P) (t:=t) (by omega);obtain ⟨A,cap,rfl,hc,hp⟩:=Od (l:=l.toNat) (h':=h'.toNat) hv.sl_inv (by omega) (by omega);have hmx':mx=none:=by cases mx<;>first|rfl|cases hmx
   subst hmx';refine ⟨_,_,h6,.tree (hp sz rfl),trivial,fun w'=>?_⟩;have hb:=gS (P:=P) (w:=w') (isS:=true) (cap:=cap) (m:=cap) (mx:=none) (qr (d:=0) he hl h3 rfl) (qr he hh (by omega) rfl) (.inl ⟨rfl,rfl⟩) (by omega) (by omega);have hs:=dA (P:=P) (t:=(bt P t).1) (by omega) w';rw [hsz,h1] at hs;simp [Instr.sliceAt,Instr.slice,Sem.run_bind,run_underlying hu,hb,hs,sliced]
  .exact h.elim
 .rename_i s;unfold rG at h;split at h
  .rename_i l h' hl hh hmx;obtain ⟨h1,⟨h3,h4,h5⟩,h6⟩:=h;obtain rfl:=hv.c_inv
   have hu:P.underlying t=some .string:=by
    unfold Ab at h1;split at h1<;>first|assumption|cases h1
   have hmx':mx=none:=by cases mx<;>first|rfl|cases hmx
   subst hmx';refine ⟨_,_,h6,.tree (.c _),trivial,fun w'=>?_⟩;have hb:=gS (P:=P) (w:=w') (isS:=false) (cap:=s.size) (m:=s.size) (mx:=none) (qr (d:=0) he hl h3 rfl) (qr he hh (by omega) rfl) (.inl ⟨rfl,rfl⟩) (by omega) (by omega);simp [Instr.sliceAt,Instr.slice,Sem.run_bind,run_underlying hu,hb]
  .exact h.elim
 .exact h.elim
theorem Dq {f:Int -> Int -> Int} {args:Array Operand} {ev:Operand -> AV} {K:AV -> Prop} (h:Pi f (args.toList.map ev) K):∃ x y k a k' b,args = #[x,y] /\ ev x=.c (.int k a) /\ ev y=.c (.int k' b) /\ K (.c (.int k (f a b))):=by
 obtain ⟨l⟩:=args;unfold Pi at h;split at h
 .rename_i k a k' b hl
  cases l with
  | nil=>simp at hl
  | cons x l=>
   cases l with
   | nil=>simp at hl
   | cons y l=>
    cases l with
    | nil=>
     simp at hl;exact ⟨x,y,k,a,k',b,rfl,hl.1,hl.2,h⟩
    | cons z l=>simp at hl
 .exact h.elim
def i8:Op -> Bool
 | .load _ _=>true
 | _=>false
theorem kS {o:Oper} {ρ:Operand -> Value} {ev:Operand -> AV} (hL:iL cx w tab L) (hy:∀ id o,tab.get id=some o -> o.lt nx) (he:∀ x,bN cx w tab L (ρ x) (ev x) /\ (ev x).lt nx) (h:ci P tab ev o.op K) :
  ∃ v av,K av /\ bN cx w tab L v av /\ av.lt nx /\ (∀ w',Below w.heap.size w w' -> (execOp ρ o).run P w'=.ok (.value v) w') /\ (i8 o.op=false -> ∀ w',(execOp ρ o).run P w'=.ok (.value v) w') /\ (∀ t x,o.op=.load t x -> ∃ b,aO (ρ x)=some b /\ ∀ w',uE b w w' -> (execOp ρ o).run P w'=.ok (.value v) w'):=by
 have mk:i8 o.op=false -> ∀ v av,K av -> bN cx w tab L v av -> av.lt nx -> (∀ w',(execOp ρ o).run P w'=.ok (.value v) w') -> ∃ v av,K av /\ bN cx w tab L v av /\ av.lt nx /\ (∀ w',Below w.heap.size w w' -> (execOp ρ o).run P w'=.ok (.value v) w') /\ (i8 o.op=false -> ∀ w',(execOp ρ o).run P w'=.ok (.value v) w') /\ (∀ t x,o.op=.load t x -> ∃ b,aO (ρ x)=some b /\ ∀ w',uE b w w' -> (execOp ρ o).run P w'=.ok (.value v) w'):=
  fun hl v av h1 h2 h3 h4=>⟨v,av,h1,h2,h3,fun w' _=>h4 w',fun _ w'=>h4 w',fun t x he=>by rw [he] at hl;cases hl⟩
 have lift0:i8 o.op=false -> ∀ s:Sem Value,jD P cx w tab L nx K s -> (∀ w',(execOp ρ o).run P w'=(s.run P w').andThen fun v w''=>.ok (.value v) w'') -> ∃ v av,K av /\ bN cx w tab L v av /\ av.lt nx /\ (∀ w',Below w.heap.size w w' -> (execOp ρ o).run P w'=.ok (.value v) w') /\ (i8 o.op=false -> ∀ w',(execOp ρ o).run P w'=.ok (.value v) w') /\ (∀ t x,o.op=.load t x -> ∃ b,aO (ρ x)=some b /\ ∀ w',uE b w w' -> (execOp ρ o).run P w'=.ok (.value v) w'):=by
  rintro hl s ⟨v,av,h1,h2,h3,h4⟩ hs;exact mk hl v av h1 h2 h3 fun w'=>(by rw [hs,h4 w'];rfl)
 obtain ⟨dst,op,ty,pos,aft,gd⟩:=o;simp only at h;unfold ci at h;split at h
 .rename_i x;exact mk rfl _ _ h (he x).1 (he x).2 fun w'=>by simp [execOp]
 .rename_i x;exact mk rfl _ _ h (he x).1 (he x).2 fun w'=>by simp [execOp]
 .rename_i c a b;have hc:=(he c).1;unfold Jl at h;split at h
  .rename_i t hcv;rw [hcv] at hc;have hc:=hc.c_inv;cases t
   .exact mk rfl _ _ h (he b).1 (he b).2 fun w'=>by simp [execOp,hc,asBool]
   .exact mk rfl _ _ h (he a).1 (he a).2 fun w'=>by simp [execOp,hc,asBool]
  .exact h.elim
 .rename_i t x;obtain ⟨u,av,h1,h2,h3,b,hb,h4⟩:=wb hL hy (he x).1 h;have h5:∀ w',uE b w w' -> (execOp ρ { dst:=dst,op:=.load t x,type:=ty,pos:=pos,after:=aft,guard:=gd }).run P w'=.ok (.value u) w':=fun w' hw'=>by simp [execOp,Sem.run_bind,h4 w' hw']
  refine ⟨u,av,h1,h2,h3,fun w' hw'=>h5 w' fun o v hv=>(hw'.cell (World.block_lt_of_cell? w _ hv)).trans hv,fun h0=>(by cases h0),fun t' x' he'=>?_⟩;cases he';exact ⟨b,hb,h5⟩
 .rename_i s x f;exact lift0 rfl _ (KD (he x).2 (he x).1 h) fun w'=>by simp [execOp,Sem.run_bind]
 .rename_i t x ix;exact lift0 rfl _ (J7 hL (he x).2 (he x).1 (he ix).1 h) fun w'=>by simp [execOp,Sem.run_bind]
 .rename_i s x f;exact lift0 rfl _ (G2 (he x).2 (he x).1 h) fun w'=>by simp [execOp,Sem.run_bind]
 .rename_i op t x y _;have hx:=(he x).1;have hy:=(he y).1;unfold xh at h;split at h
  .rename_i a b ha hb;rw [ha] at hx;rw [hb] at hy;have hx:=hx.c_inv;have hy:=hy.c_inv;split at h
   .rename_i v hv;refine lift0 rfl _ ⟨v,_,h,.tree (.c v),trivial,fun w'=>LE (x:=x) (y:=y) hv w'⟩ fun w'=>?_;simp [execOp,Sem.run_bind,hx,hy];cases (Sem.run P (eqGuard op t x y a b) w')<;>rfl
   .exact h.elim
  .rename_i xs ys ha hb;rw [ha] at hx;rw [hb] at hy;obtain ⟨as1,hx,hnx,hrx⟩:=hx.agg_inv;obtain ⟨bs1,hy,hny,hry⟩:=hy.agg_inv;unfold DI at h;split at h
   .rename_i vs us hvs hus;obtain rfl:=tk hvs hnx hrx;obtain rfl:=tk hus hny hry;obtain ⟨r,hr,h⟩:=h;refine lift0 rfl _ ⟨r,_,h,.tree (.c r),trivial,fun w'=>hr w' x y⟩ fun w'=>?_;simp [execOp,Sem.run_bind,hx,hy];cases (Sem.run P (eqGuard op t x y (.agg vs.toArray) (.agg us.toArray)) w')<;>rfl
   .exact h.elim
  .rename_i sz rows b ha hb;rw [ha] at hx;rw [hb] at hy;have hy:=hy.c_inv;obtain ⟨A,cap,hA,hc1,hc2,hc3,hc4⟩:=hx.sl_inv.sl_inv
   have hnil:A.isNone=true -> rows=[]:=fun h1=>by
    rcases Nat.eq_zero_or_pos rows.length with h2|h2
    .exact WL.1 h2
    .obtain ⟨b',o',h3,_⟩:=hc4 h2;rw [h3] at h1;cases h1
   unfold yO at h;split at h
   .have hk:Ab P t=.slice:=(by assumption);have h:=h A.isNone hnil;refine lift0 rfl _ ⟨_,_,h,.tree (.c _),trivial,fun w'=>oK (x:=x) (y:=y) (A:=A) (n:=rows.length) (c:=cap) (n':=0) (c':=0) hk (.inl rfl) w'⟩ fun w'=>?_;simp [execOp,Sem.run_bind,hA,hy];cases (Sem.run P (eqGuard _ t x y (.slice A rows.length cap) (.slice none 0 0)) w')<;>rfl
   .have hk:Ab P t=.slice:=(by assumption);have h:=h (!A.isNone) (fun h1=>hnil (by simpa using h1));refine lift0 rfl _ ⟨_,_,h,.tree (.c _),trivial,fun w'=>oK (x:=x) (y:=y) (A:=A) (n:=rows.length) (c:=cap) (n':=0) (c':=0) hk (.inr rfl) w'⟩ fun w'=>?_;simp [execOp,Sem.run_bind,hA,hy];cases (Sem.run P (eqGuard _ t x y (.slice A rows.length cap) (.slice none 0 0)) w')<;>rfl
   .exact h.elim
  .exact h.elim
 .rename_i op t x;have hx:=(he x).1;unfold S7 at h;split at h
  .rename_i a ha;rw [ha] at hx;have hx:=hx.c_inv;split at h
   .rename_i v hv;exact lift0 rfl _ ⟨v,_,h,.tree (.c v),trivial,fun w'=>N4 hv w'⟩ fun w'=>by simp [execOp,Sem.run_bind,hx]
   .exact h.elim
  .exact h.elim
 .rename_i x i;have hx:=(he x).1;have hl:=(he x).2;unfold j4 at h;split at h
  .rename_i vs hvs;rw [hvs] at hx hl;obtain ⟨xs,hxe,hn,hr⟩:=hx.tup_inv;obtain ⟨hi,h⟩:=h;rw [f4 hi,VH] at h;have hi':i<xs.size:=(by omega);exact mk rfl xs[i] _ h (hr i _ _ (Vj hi') (f4 hi)) (ak.1 hl _ (Vf hi)) fun w'=>by simp [execOp,Sem.run_bind,hxe,Instr.extract,Vj hi']
  .exact h.elim
 .rename_i s d x;have hx:=(he x).1;unfold Lj at h;split at h
  .rename_i k0 k k1 n hs hd hxe;rw [hxe] at hx;have hx:=hx.c_inv
   have e1:P.underlying s=some (.int k0):=by
    unfold Ei at hs;split at hs<;>simp_all
   have e2:P.underlying d=some (.int k):=by
    unfold Ei at hd;split at hd<;>simp_all
   refine lift0 rfl _ ⟨_,_,h,.tree (.c _),trivial,fun w'=>?_⟩ fun w'=>by simp [execOp,Sem.run_bind];rfl
   rw [hx];simp [convert,Sem.run_bind,run_underlying e1,run_underlying e2,Conv.intToInt]
  .exact h.elim
 .rename_i c;obtain ⟨callee,args,argTypes⟩:=c;simp only at h;split at h
  .split at h
   .rename_i x t h1 h2;obtain rfl:args = #[x]:=by cases args;simp_all
    obtain rfl:argTypes = #[t]:=by cases argTypes;simp_all
    exact lift0 rfl _ (Ry (ty:=ty) hL (he x).1 h) fun w'=>by simp [execOp,Sem.run_bind,resolve,invoke,builtin]
   .exact h.elim
  .obtain ⟨x,y,k,a,k',b,rfl,h1,h2,h3⟩:=Dq h;have hx:=(he x).1;have hy:=(he y).1;rw [h1] at hx;rw [h2] at hy;have hx:=hx.c_inv;have hy:=hy.c_inv;refine lift0 rfl (pure (.int k (max a b))) ⟨_,_,h3,.tree (.c _),trivial,fun w'=>rfl⟩ fun w'=>?_;have hm:(if b > a then b else a)=max a b:=by rw [Int.max_def];split<;>split<;>omega
   simp [execOp,Sem.run_bind,resolve,invoke,builtin,Builtin.max_,Builtin.max2,hx,hy,hm]
  .obtain ⟨x,y,k,a,k',b,rfl,h1,h2,h3⟩:=Dq h;have hx:=(he x).1;have hy:=(he y).1;rw [h1] at hx;rw [h2] at hy;have hx:=hx.c_inv;have hy:=hy.c_inv;refine lift0 rfl (pure (.int k (min a b))) ⟨_,_,h3,.tree (.c _),trivial,fun w'=>rfl⟩ fun w'=>?_;have hm:(if b<a then b else a)=min a b:=by rw [Int.min_def];split<;>split<;>omega
   simp [execOp,Sem.run_bind,resolve,invoke,builtin,Builtin.min_,Builtin.min2,hx,hy,hm]
  .exact h.elim
 .rename_i f first caps
  rcases h with h|h
  rotate_left
  .unfold Kn at h;split at h
   .rename_i g hb
    obtain rfl:caps = #[]:=by
     rw [Vw] at hb;simpa using hb.1
    refine mk rfl (.func (.func g) (first.map ρ) #[]) _ h (.bfn g _ _ (by simp) fun j x av h1 h2=>?_) (ak.2 fun a ha=>?_) fun w'=>by simp [execOp,Sem.run_bind,Instr.makeFunc]
    .rw [Ve] at h2;rw [XB] at h1
     cases hj:first[j]? with
     | none=>simp [hj] at h1
     | some x=>
      rw [Wd] at h2;simp [hj] at h1 h2;subst h1;subst h2;exact (he x).1
    .obtain ⟨x,_,rfl⟩:=Vt.1 ha;exact (he x).2
   .exact h.elim
  unfold RK at h;split at h
  .rename_i g hb;obtain rfl:first = #[]:=by simpa using hb
   refine mk rfl (.func (.func g) #[] (caps.map ρ)) _ h (.fn g _ _ (by simp) fun j x av h1 h2=>?_) (ak.2 fun a ha=>?_) fun w'=>by simp [execOp,Sem.run_bind,Instr.makeFunc]
   .rw [Ve] at h2;rw [XB] at h1
    cases hj:caps[j]? with
    | none=>simp [hj] at h1
    | some x=>
     rw [Wd] at h2;simp [hj] at h1 h2;subst h1;subst h2;exact (he x).1
   .obtain ⟨x,_,rfl⟩:=Vt.1 ha;exact (he x).2
  .exact h.elim
 .rename_i t x lo hi mx;exact lift0 rfl _ (Ln (fun x=>(he x).1) (he x).1 h) fun w'=>by simp [execOp,Sem.run_bind]
 .rename_i x;have hx:=he x;unfold AI at h;split at h
  .rename_i cs hxe;rw [hxe] at hx;obtain ⟨b,o,U,hv,_⟩:=hx.1.rp_inv;exact mk rfl (ρ x) _ h hx.1 hx.2 fun w'=>by simp [execOp,hv]
  .rename_i id i j hxe;rw [hxe] at hx;split at h
   .rename_i ob hid;obtain ⟨g,hg,hv⟩:=hx.1.op_inv _ _ (cQ hid);exact mk rfl (ρ x) _ h hx.1 hx.2 fun w'=>by simp [execOp,hv]
   .exact h.elim
  .exact h.elim
 .exact h.elim
end
end
section
section
variable {P:Program} {cx:Cx} {w w':World} {tab tab':ae} {L L':Nat -> Value} {nx:Nat}
structure mM (cx:Cx) (w:World) (tab:ae) (L:Nat -> Value) (nx:Nat) (w':World) (tab':ae) (L':Nat -> Value):Prop where
 blk:∀ b,Sx cx w tab L b -> w'.heap[b]? = w.heap[b]?
 sub:∀ b,Sx cx w tab L b -> Sx cx w' tab' L' b
 loc:∀ id p,id<nx -> Kx tab' L' id=some p -> Kx tab L id=some p
theorem mM.cell (h:mM cx w tab L nx w' tab' L'):∀ p:Addr,Sx cx w tab L p.block -> w'.cell? p=w.cell? p:=fun p hp=>World.cell?_of_block (h.blk p.block hp)
theorem mM.rv (h:mM cx w tab L nx w' tab' L') {x:Value} {av:AV} (hr:bN cx w tab L x av) (hl:av.lt nx):bN cx w' tab' L' x av:=hr.mono hl h.cell h.sub h.loc
theorem mM.rt (h:mM cx w tab L nx w' tab' L') {x:Value} {av:AV} (hr:RT w (Sx cx w tab L) x av):RT w' (Sx cx w' tab' L') x av:=hr.mono h.cell h.sub
theorem mM.obj (h:mM cx w tab L nx w' tab' L') {v:Value} {o:aE} (hr:io cx w tab L v o) (hl:o.lt nx) (hg:∀ g,aO v=some g -> w'.heap[g]? = w.heap[g]?):io cx w' tab' L' v o:=by
 cases o with
 | box t cells=>
  obtain ⟨g,cs,rfl,hb,hh,hn,hx⟩:=hr;exact ⟨g,cs,rfl,hb,(hg g rfl).trans hh,hn,fun j x av h1 h2=>⟨h.rv (hx j x av h1 h2).1 (ak.1 hl _ (p0 h2)),(hx j x av h1 h2).2⟩⟩
 | row e sz rows=>
  obtain ⟨h1,xs,hown,h2,h3⟩:=hr;refine ⟨h1,xs,⟨hown.1,?_⟩,h2,fun i j row av ha hb=>?_⟩
  .rcases hown.2 with hn | ⟨g,cap,cur,rfl,hb,hh,rest⟩
   .exact .inl hn
   .exact .inr ⟨g,cap,cur,rfl,hb,(hg g rfl).trans hh,rest⟩
  .obtain ⟨x,hx,hr⟩:=h3 i j row av ha hb;exact ⟨x,hx,h.rt hr⟩
 | nest e sz rows=>
  obtain ⟨h1,xs,hown,h2,h3⟩:=hr;refine ⟨h1,xs,⟨hown.1,?_⟩,h2,fun i j row av ha hb=>?_⟩
  .rcases hown.2 with hn | ⟨g,cap,cur,rfl,hb,hh,rest⟩
   .exact .inl hn
   .exact .inr ⟨g,cap,cur,rfl,hb,(hg g rfl).trans hh,rest⟩
  .obtain ⟨x,hx,hr⟩:=h3 i j row av ha hb;exact ⟨x,hx,h.rv hr (ak.1 (hl row (p0 ha)) _ (p0 hb))⟩
 | map ents=>
  obtain ⟨g,es,ck,rfl,hb,hh,he⟩:=hr;exact ⟨g,es,ck,rfl,hb,(hg g rfl).trans hh,he⟩
 | ghost vs env=>exact ⟨hr.1,fun t ht=>h.rv (hr.2 t ht) (fU hl t)⟩
theorem io.ge {v:Value} {o:aE} (h:io cx w tab L v o) {g:Nat} (hg:aO v=some g):cx.w0.heap.size<=g /\ g<w.heap.size:=by
 cases o with
 | box t cells=>
  obtain ⟨g',cs,rfl,hb,hh,_⟩:=h;simp [aO] at hg;subst hg;exact ⟨hb,(VJ.1 hh).1⟩
 | row e sz rows=>
  obtain ⟨_,xs,hown,_⟩:=h;rcases hown.2 with ⟨rfl,_⟩|⟨g',cap,cur,rfl,hb,hh,_⟩
  .simp [aO] at hg
  .simp [aO] at hg;subst hg;exact ⟨hb,(VJ.1 hh).1⟩
 | nest e sz rows=>
  obtain ⟨_,xs,hown,_⟩:=h;rcases hown.2 with ⟨rfl,_⟩|⟨g',cap,cur,rfl,hb,hh,_⟩
  .simp [aO] at hg
  .simp [aO] at hg;subst hg;exact ⟨hb,(VJ.1 hh).1⟩
 | map ents=>
  obtain ⟨b,es,ck,rfl,hb,hh,_⟩:=h;simp [aO] at hg;subst hg;exact ⟨hb,(VJ.1 hh).1⟩
 | ghost vs env=>
  obtain ⟨rfl,_⟩:=h;simp [aO] at hg
theorem gV (hb:Below w.heap.size w w') (hold:∀ id,id<nx -> tab'.get id=tab.get id /\ L' id=L id) (hy:∀ id o,tab.get id=some o -> id<nx)
  (hnew:∀ id o g,nx<=id -> tab'.get id=some o -> aO (L' id)=some g -> w.heap.size<=g):mM cx w tab L nx w' tab' L' where
 blk b hp:=hb.block b hp.1
 sub b h:=⟨Vm h.1 hb.size,h.2.1,fun id o hid hg=>by
  rcases Vv id nx with hlt|hge
  .rw [(hold id hlt).2] at hg;rw [(hold id hlt).1] at hid;exact h.2.2 id o hid hg
  .have:=hnew id o b hge hid hg;have:=h.1;omega⟩
 loc id p hlt h:=by
  unfold Kx at *;rw [(hold id hlt).1,(hold id hlt).2] at h;exact h
theorem cg.grown {X:Nat -> Prop} {n:Nat} {a b c:World} {row:Option Nat} (h:cg X n a b) (hg:b.grownBy c row) (hn:n<=b.heap.size) (hr:∀ k,row=some k -> n<=k):cg X n a c:=h.trans (jQ ((Below.refl n b).grown hg hn hr))
theorem vx (hL:iL cx w tab L) (hs:w.heap.size<=w'.heap.size) (hy:∀ id o g,tab'.get id=some o -> aO (L' id)=some g -> g<w.heap.size -> ∃ id2 o2,tab.get id2=some o2 /\ aO (L id2)=some g) :
  ∀ b,cx.X b -> b<w'.heap.size /\ ∀ id o,tab'.get id=some o -> aO (L' id) ≠ some b:=fun b hb=>
 ⟨Vm (hL.ex b hb).1 hs,fun id o hid hg=>by
  obtain ⟨id2,o2,h1,h2⟩:=hy id o b hid hg (hL.ex b hb).1;exact (hL.ex b hb).2 id2 o2 h1 h2⟩
theorem jX (hL:iL cx w tab L) (hy:∀ id o,tab.get id=some o -> id<nx /\ o.lt nx) (hb:Below w.heap.size w w') (hold:∀ id,id<nx -> tab'.get id=tab.get id /\ L' id=L id)
  (hobj:∀ id o,nx<=id -> tab'.get id=some o -> io cx w' tab' L' (L' id) o) (hnew:∀ id o g,nx<=id -> tab'.get id=some o -> aO (L' id)=some g -> w.heap.size<=g)
  (hsep:∀ id id' o o' g,nx<=id -> nx<=id' -> tab'.get id=some o -> tab'.get id'=some o' -> aO (L' id)=some g -> aO (L' id')=some g -> id=id'):iL cx w' tab' L':=by
 have hext:mM cx w tab L nx w' tab' L':=gV hb hold (fun id o h=>(hy id o h).1) hnew;refine ⟨hL.below.trans (jQ (hb.mono hL.below.size)),fun id o hid=>?_,fun id id' o o' g h1 h2 h3 h4=>?_,fun b hb'=>⟨Vm (hL.ex b hb').1 hb.size,fun id o hid hg=>?_⟩⟩
 rotate_left 2
 .rcases Vv id nx with hlt | hge
  .rw [(hold id hlt).1] at hid;rw [(hold id hlt).2] at hg;exact (hL.ex b hb').2 id o hid hg
  .have:=hnew id o b hge hid hg;have:=(hL.ex b hb').1;omega
 .rcases Vv id nx with hlt | hge
  .rw [(hold id hlt).1] at hid;rw [(hold id hlt).2];have ho:=hL.objs id o hid;exact hext.obj ho (hy id o hid).2 fun g hg=>hb.block g (ho.ge hg).2
  .exact hobj id o hge hid
 .rcases Vv id nx with hlt | hge<;>rcases Vv id' nx with hlt' | hge'
  .rw [(hold id hlt).1] at h1;rw [(hold id' hlt').1] at h2;rw [(hold id hlt).2] at h3;rw [(hold id' hlt').2] at h4;exact hL.sep id id' o o' g h1 h2 h3 h4
  .rw [(hold id hlt).1] at h1;rw [(hold id hlt).2] at h3;have:=(hL.objs id o h1).ge h3;have:=hnew id' o' g hge' h2 h4;omega
  .rw [(hold id' hlt').1] at h2;rw [(hold id' hlt').2] at h4;have:=(hL.objs id' o' h2).ge h4;have:=hnew id o g hge h1 h3;omega
  .exact hsep id id' o o' g hge hge' h1 h2 h3 h4
end
structure Fr (cx:Cx) (w:World) (tab:ae) (L:Nat -> Value) (nx:Nat) (w':World) (tab':ae) (L':Nat -> Value) (nx':Nat):Prop where
 ext:mM cx w tab L nx w' tab' L'
 size:w.heap.size<=w'.heap.size
 keep:∀ k,k<w.heap.size -> (∀ id o,tab.get id=some o -> aO (L id) ≠ some k) -> w'.heap[k]? = w.heap[k]?
 young:∀ id o g,tab'.get id=some o -> aO (L' id)=some g -> g<w.heap.size -> ∃ id2 o2,tab.get id2=some o2 /\ aO (L id2)=some g
 next:nx<=nx'
structure Fz (w:World) (tab:ae) (L:Nat -> Value) (w':World) (tab':ae) (L':Nat -> Value):Prop where
 size:w.heap.size<=w'.heap.size
 keep:∀ k,k<w.heap.size -> (∀ id o,tab.get id=some o -> aO (L id) ≠ some k) -> w'.heap[k]? = w.heap[k]?
 young:∀ id o g,tab'.get id=some o -> aO (L' id)=some g -> g<w.heap.size -> ∃ id2 o2,tab.get id2=some o2 /\ aO (L id2)=some g
def bq (L:Nat -> Value) (id:Nat) (v:Value):Nat -> Value:=fun k=>if k=id then v else L k
section
variable {P:Program} {cx:Cx} {a:Act} {w w':World} {st:aj} {L L':Nat -> Value}
theorem am (h:aJ cx a w st L) (x:Operand):bN cx w st.tab L (a.eval x) (bj st x) /\ (bj st x).lt st.next:=by
 cases x with
 | tmp t=>exact h.env t
 | const v=>exact ⟨.tree (.c v),trivial⟩
 | global g=>exact ⟨.tree (.any _),trivial⟩
 | func f=>exact ⟨.tree (.c _),trivial⟩
theorem DJ {dst:Option Nat} {av:AV} (t:Nat):(st.put dst av).get t=match dst with | some d=>if d<st.n /\ t=d then av else st.get t | none=>st.get t:=by
 cases dst with
 | none=>rfl
 | some d=>
  unfold aj.put aj.get;simp only [bh];by_cases ht:t=d
  .subst ht;by_cases hd:t<st.n<;>simp [hd]
  .simp [ht]
theorem fK (h:aJ cx a w st L) {tab':ae} {nx':Nat} {L':Nat -> Value} (hL:iL cx w' tab' L') (hx:mM cx w st.tab L st.next w' tab' L') (hn:st.next<=nx') (hy:∀ id o,tab'.get id=some o -> id<nx' /\ o.lt nx')
  {v:Value} {av:AV} (hv:bN cx w' tab' L' v av) (hl:av.lt nx') (dst:Option Nat):aJ cx (a.put dst v) w' ({ st with tab:=tab',next:=nx' }.put dst av) L':=by
 have hdef:(a.put dst v).defers=a.defers:=by
  cases dst<;>rfl
 have hsz:(a.put dst v).tmps.size=st.n:=by
  cases dst
  .exact h.size
  .simp [Act.put,h.size]
 have e1:({ st with tab:=tab',next:=nx' }.put dst av).tab=tab':=by
  cases dst<;>simp only [aj.put]
 have e2:({ st with tab:=tab',next:=nx' }.put dst av).next=nx':=by
  cases dst<;>simp only [aj.put]
 have e3:({ st with tab:=tab',next:=nx' }.put dst av).n=st.n:=by
  cases dst<;>simp only [aj.put]
 refine ⟨by rw [e1];exact hL,by rw [e3];exact hsz,by rw [e1,hdef];exact h.defers.mono hx.blk hx.sub,by rw [e1,e2];exact hy,fun t=>?_⟩;rw [e1,e2,DJ];have hold:=h.env t;have old:bN cx w' tab' L' (a.tmps.getD t undef) (st.get t) /\ (st.get t).lt nx':=⟨hx.rv hold.1 hold.2,AV.lt_mono hn hold.2⟩
 cases dst with
 | none=>exact old
 | some d=>
  simp only [Act.put];by_cases hd:d<st.n /\ t=d
  .rw [Vn hd];obtain ⟨hd,rfl⟩:=hd;have:t<a.tmps.size:=by rw [h.size];exact hd
   simp only [V9,Array.getElem?_setIfInBounds_self_of_lt this,VH];exact ⟨hv,hl⟩
  .rw [Vh hd]
   have e:(a.tmps.setIfInBounds d v).getD t undef=a.tmps.getD t undef:=by
    by_cases hdt:d=t
    .subst hdt;have:¬ d<a.tmps.size:=by rw [h.size];simpa using hd
     rw [Array.setIfInBounds_eq_of_size_le (by omega)]
    .simp [V9,Array.getElem?_setIfInBounds_ne hdt]
   rw [e];exact old
theorem mM.refl (w:World) (tab:ae) (L:Nat -> Value) (nx:Nat):mM cx w tab L nx w tab L:=⟨fun _ _=>rfl,fun _ h=>h,fun _ _ _ h=>h⟩
theorem bl (h:aJ cx a w st L) {v:Value} {av:AV} (hv:bN cx w st.tab L v av) (hl:av.lt st.next) (dst:Option Nat):aJ cx (a.put dst v) w (st.put dst av) L:=
 fK (tab':=st.tab) (nx':=st.next) (L':=L) h h.lay (mM.refl ..) (Os _) h.young hv hl dst
theorem j6 (h:aJ cx a w st L) (hb:Below w.heap.size w w') {v:Value} {ob:aE} (hnew:∀ g,aO v=some g -> w.heap.size<=g) (hob:mM cx w st.tab L st.next w' ((st.next,some ob) :: st.tab) (bq L st.next v) -> io cx w' ((st.next,some ob) :: st.tab) (bq L st.next v) v ob)
  (hlt:ob.lt (st.next+1)) {x:Value} {av:AV} (hv:mM cx w st.tab L st.next w' ((st.next,some ob) :: st.tab) (bq L st.next v) -> bN cx w' ((st.next,some ob) :: st.tab) (bq L st.next v) x av) (hl:av.lt (st.next+1)) (dst:Option Nat) :
  aJ cx (a.put dst x) w' ({ st with tab:=(st.next,some ob) :: st.tab,next:=st.next+1 }.put dst av) (bq L st.next v):=by
 have hold:∀ id,id<st.next -> ae.get ((st.next,some ob) :: st.tab) id=st.tab.get id /\ bq L st.next v id=L id:=fun id hid=>by
  unfold bq;rw [ae.gc,Vh (by omega),Vh (by omega)];exact ⟨rfl,rfl⟩
 have hge:∀ id o,st.next<=id -> ae.get ((st.next,some ob) :: st.tab) id=some o -> id=st.next /\ o=ob:=fun id o hid hg=>by
  rw [ae.gc] at hg;split at hg
  .rename_i e;cases hg;exact ⟨e,rfl⟩
  .have:=(h.young id o hg).1;omega
 have hup:bq L st.next v st.next=v:=by simp [bq]
 have hnew':∀ id o g,st.next<=id -> ae.get ((st.next,some ob) :: st.tab) id=some o -> aO (bq L st.next v id)=some g -> w.heap.size<=g:=fun id o g h1 h2 h3=>by
  obtain ⟨rfl,_⟩:=hge id o h1 h2;rw [hup] at h3;exact hnew g h3
 have hext:=gV (cx:=cx) hb hold (fun id o hid=>(h.young id o hid).1) hnew';refine fK h (jX h.lay h.young hb hold (fun id o h1 h2=>?_) hnew' fun id id' o o' g h1 h2 h3 h4 _ _=>?_) hext (by omega) (fun id o hg=>?_) (hv hext) hl dst
 .obtain ⟨rfl,rfl⟩:=hge id o h1 h2;rw [hup];exact hob hext
 .rw [(hge id o h1 h3).1,(hge id' o' h2 h4).1]
 .rcases Vv id st.next with hlt' | hge'
  .rw [(hold id hlt').1] at hg;have:=h.young id o hg;refine ⟨by omega,?_⟩
   cases o with
   | box t cells=>exact ak.2 fun x hx=>AV.lt_mono (VR _) (ak.1 this.2 x hx)
   | row=>trivial
   | map=>trivial
   | nest e sz rows=>exact fun row hr=>ak.2 fun x hx=>AV.lt_mono (VR _) (ak.1 (this.2 row hr) x hx)
   | ghost vs env=>exact dF (VR _) this.2
  .obtain ⟨rfl,rfl⟩:=hge id o hge' hg;exact ⟨by omega,hlt⟩
end
end
section
def tJ (tab:ae):AV -> Prop
 | .c v=>v.oneCell'=true
 | .sl _ _=>True
 | .rp _=>True
 | .osl id=>(tab.get id).isSome=true
 | .op id _ _=>(tab.get id).isSome=true
 | .fn _ _=>True
 | .bfn _ _=>True
 | _=>False
def fa (tab:ae):List AV -> Prop
 | []=>True
 | a :: l=>tJ tab a /\ fa tab l
def ar:AV -> List AV
 | .agg cs=>cs
 | .c v=>v.cells.toList.map .c
 | av=>[av]
theorem mp {tab:ae}:∀ {l:List AV},fa tab l ↔ ∀ a ∈ l,tJ tab a
 | []=>by simp [fa]
 | a :: l=>by simp [fa,mp (l:=l)]
section
variable {P:Program} {cx:Cx} {a:Act} {w w':World} {tab:ae} {st:aj} {L:Nat -> Value} {nx:Nat}
theorem Og {v:Value} {o:aE} (h:io cx w tab L v o):v.oneCell'=true /\ v.cells = #[v]:=by
 cases o with
 | box t cells=>
  obtain ⟨g,cs,rfl,_⟩:=h;exact ⟨rfl,rfl⟩
 | row e sz rows=>
  obtain ⟨_,xs,hown,_⟩:=h;rcases hown.2 with ⟨rfl,_⟩|⟨g,cap,cur,rfl,_⟩<;>exact ⟨rfl,rfl⟩
 | nest e sz rows=>
  obtain ⟨_,xs,hown,_⟩:=h;rcases hown.2 with ⟨rfl,_⟩|⟨g,cap,cur,rfl,_⟩<;>exact ⟨rfl,rfl⟩
 | map ents=>
  obtain ⟨b,es,ck,rfl,_⟩:=h;exact ⟨rfl,rfl⟩
 | ghost vs env=>
  obtain ⟨rfl,_⟩:=h;exact ⟨rfl,rfl⟩
theorem Eh (hL:iL cx w tab L) {x:Value} {av:AV} (hv:bN cx w tab L x av) (h:tJ tab av):x.oneCell'=true /\ x.cells = #[x]:=by
 cases av with
 | any=>exact h.elim
 | c v=>
  obtain rfl:=hv.c_inv;refine ⟨h,?_⟩;cases x<;>first|rfl|cases h
 | sl sz rows=>
  obtain ⟨A,cap,rfl,_⟩:=hv.sl_inv.sl_inv;exact ⟨rfl,rfl⟩
 | rp cs=>
  obtain ⟨b,o,U,rfl,_⟩:=hv.rp_inv;exact ⟨rfl,rfl⟩
 | osl id=>
  obtain ⟨o,ho⟩:=V3.1 h;rw [hv.osl_inv _ _ (cQ ho)];exact Og (hL.objs id o ho)
 | op id i j=>
  obtain ⟨o,ho⟩:=V3.1 h;obtain ⟨g,_,rfl⟩:=hv.op_inv _ _ (cQ ho);exact ⟨rfl,rfl⟩
 | agg=>exact h.elim
 | tup=>exact h.elim
 | fn f cs=>
  obtain ⟨xs,rfl,_⟩:=hv.fn_inv;exact ⟨rfl,rfl⟩
 | bfn f cs=>
  obtain ⟨xs,rfl,_⟩:=hv.bfn_inv;exact ⟨rfl,rfl⟩
theorem ib (hL:iL cx w tab L) {v:Value} {av:AV} (hv:bN cx w tab L v av) (hl:av.lt nx) (h:fa tab (ar av)) :
    v.cells.size=(ar av).length /\ AV.ltL nx (ar av) /\ ∀ (j:Nat) (x:Value) (a:AV),v.cells[j]? = some x -> (ar av)[j]? = some a -> bN cx w tab L x a /\ x.oneCell'=true:=by
  cases av with
  | agg cs=>
    obtain ⟨xs,rfl,hn,hr⟩:=hv.agg_inv;exact ⟨hn,hl,fun j x a h1 h2=>⟨hr j x a h1 h2,(Eh hL (hr j x a h1 h2) (mp.1 h a (p0 h2))).1⟩⟩
  | c v'=>
    obtain rfl:=hv.c_inv;refine ⟨by simp [ar],ak.2 fun a ha=>?_,fun j x a h1 h2=>?_⟩
    . simp [ar] at ha;obtain ⟨y,_,rfl⟩:=ha;trivial
    . have h3:=h2;simp only [ar,Ve,Wd,h1,VX,W8] at h2;subst h2;exact ⟨.tree (.c x),mp.1 h _ (p0 h3)⟩
  | _=>
    first
    | (have h1:=Eh hL hv h.1
       simp only [ar];refine ⟨by simp [h1.2],⟨hl,trivial⟩,fun j x a h2 h3=>?_⟩;rw [h1.2] at h2
       cases j with
       | zero=>
         simp at h2 h3;subst h2;subst h3;exact ⟨hv,h1.1⟩
       | succ j=>simp at h2)
    | exact h.1.elim
theorem pU {t:TypeId} {v:Value} {av:AV} (h:aJ cx a w st L) (hv:bN cx w st.tab L v av) (hl:av.lt st.next) (h1:fa st.tab (ar av)) (dst:Option Nat) :
  (Instr.box t v).run P w=.ok (.pointer (some ⟨w.heap.size,0,none⟩)) (w.alloc (.cells v.cells t)) /\
  aJ cx (a.put dst (.pointer (some ⟨w.heap.size,0,none⟩))) (w.alloc (.cells v.cells t)) ({ st with tab:=(st.next,some (.box t (ar av))) :: st.tab,next:=st.next+1 }.put dst (.op st.next 0 0)) (bq L st.next (.pointer (some ⟨w.heap.size,0,none⟩))):=by
 obtain ⟨hn,hlt,hc⟩:=ib h.lay hv hl h1;refine ⟨by simp [Instr.box,newVar,newRow],j6 h ((Below.refl _ _).alloc (Os _) _) (fun g hg=>?_) (fun hx=>?_) ?_ (fun hx=>?_) ?_ dst⟩
 .simp [aO] at hg;omega
 .refine ⟨w.heap.size,v.cells,rfl,h.lay.below.size,heap_alloc_new w _,hn,fun j x av' h2 h3=>⟨hx.rv (hc j x av' h2 h3).1 (ak.1 hlt _ (p0 h3)),(hc j x av' h2 h3).2⟩⟩
 .exact ak.2 fun x hx=>AV.lt_mono (VR _) (ak.1 hlt x hx)
 .refine .op _ _ _ _ fun sz u hk=>?_;simp [Kx,ae.gc,bq] at hk;obtain ⟨_,rfl⟩:=hk;exact ⟨w.heap.size,rfl,by simp⟩
 .exact Wb _
def bW (P:Program) (t:TypeId):Option Value:=(P.info? t).bind (·.zero)
theorem Aq {t:TypeId} {z:Value} (h:bW P t=some z) (w:World):(zeroValue t).run P w=.ok z w:=by
 unfold bW at h
 cases hi:P.info? t with
 | none=>simp [hi] at h
 | some i=>
  have hz:i.zero=some z:=by simpa [hi] using h
  simp [zeroValue,typeInfo,hi,hz]
theorem pB {t:TypeId} {z:Value} (h:bW P t=some z) (w:World):(Instr.alloc t true (.tuple #[])).run P w=(Instr.box t z).run P w:=by
 simp [Instr.alloc,Sem.run_bind,Aq h,Instr.box]
theorem OG {tab':ae} {o o':aE} {id g:Nat} (hid:tab.get id=some o) (hg:aO (L id)=some g) (hsz:o'.sz=o.sz) (ht:∀ k,tab'.get k=if k=id then some o' else tab.get k)
  (hb:∀ k,k ≠ g -> w'.heap[k]? = w.heap[k]?) (hs:w'.heap.size=w.heap.size):mM cx w tab L nx w' tab' L where
 blk p hp:=hb p fun e=>hp.2.2 id o hid (by rw [hg,e])
 sub b h:=⟨by rw [hs];exact h.1,h.2.1,fun k ok hk=>by
  rw [ht] at hk;split at hk
  .rename_i e;subst e;exact h.2.2 _ o hid
  .exact h.2.2 k ok hk⟩
 loc k p hlt h:=by
  unfold Kx at *;rw [ht] at h;split at h
  .rename_i e;subst e;rw [hid];simpa [hsz] using h
  .exact h
theorem nW (h:aJ cx a w st L) {o o':aE} {id g:Nat} (hid:st.tab.get id=some o) (hg:aO (L id)=some g) (hsz:o'.sz=o.sz) (hb:∀ k,k ≠ g -> w'.heap[k]? = w.heap[k]?) (hbel:cg cx.X cx.w0.heap.size cx.w0 w') (hs:w'.heap.size=w.heap.size)
  (hob:mM cx w st.tab L st.next w' ((id,some o') :: st.tab) L -> io cx w' ((id,some o') :: st.tab) L (L id) o') (hlt:o'.lt st.next) (dst:Option Nat):aJ cx (a.put dst undef) w' ({ st with tab:=(id,some o') :: st.tab }.put dst .any) L:=by
 have ht:∀ k,ae.get ((id,some o') :: st.tab) k=if k=id then some o' else st.tab.get k:=fun k=>ae.gc ..;have hext:mM cx w st.tab L st.next w' ((id,some o') :: st.tab) L:=OG hid hg hsz ht hb hs;have hy:=h.young id o hid
 have hex:∀ id2 o2 g,ae.get ((id,some o') :: st.tab) id2=some o2 -> aO (L id2)=some g -> g<w.heap.size -> ∃ id3 o3,st.tab.get id3=some o3 /\ aO (L id3)=some g:=fun k ok g hk hg' _=>by
  rw [ht] at hk;split at hk
  .rename_i e;exact ⟨k,o,by rw [e];exact hid,hg'⟩
  .exact ⟨k,ok,hk,hg'⟩
 refine fK (nx':=st.next) (L':=L) h ⟨hbel,fun k ok hk=>?_,fun k k' ok ok' g' h1 h2 h3 h4=>?_,vx h.lay (by omega) hex⟩ hext (Os _) (fun k ok hk=>?_) (.tree (.any _)) trivial dst
 .rw [ht] at hk;split at hk
  .rename_i e;subst e;cases hk;exact hob hext
  .rename_i hne
   exact hext.obj (h.lay.objs k ok hk) (h.young k ok hk).2 fun g' hg'=>hb g' fun e=>by
    subst e;exact hne (h.lay.sep k id ok o _ hk hid hg' hg)
 .have:∀ k ok,ae.get ((id,some o') :: st.tab) k=some ok -> ∃ ok',st.tab.get k=some ok':=fun k ok hk=>by
   rw [ht] at hk;split at hk
   .rename_i e;exact ⟨o,by rw [e];exact hid⟩
   .exact ⟨ok,hk⟩
  obtain ⟨o1,ho1⟩:=this k ok h1;obtain ⟨o2,ho2⟩:=this k' ok' h2;exact h.lay.sep k k' o1 o2 g' ho1 ho2 h3 h4
 .rw [ht] at hk;split at hk
  .rename_i e;cases hk;exact ⟨by rw [e];exact hy.1,hlt⟩
  .exact h.young k ok hk
theorem kY {t:TypeId} {v:Value} {g o:Nat} {cur:Array Value} {e:TypeId} (h0:0<aq P t) (hs:v.cells.size=aq P t) (hg:w.heap[g]? = some (.cells cur e (0,0))) (ho:o+aq P t<=cur.size) (h1:∀ x ∈ v.cells,x.oneCell'=true) :
  (Instr.storeAt t (.pointer (some ⟨g,o,none⟩)) v).run P w=.ok () (w.setRow g (cur.toList.take o ++ v.cells.toList ++ cur.toList.drop (o+aq P t)).toArray):=by
 have:=run_storeCells_at P g o e v.cells.toList 0 cur w hg (by simp [hs];omega) (by simpa using h1);simp [hs] at this;simp [Instr.storeAt,Instr.sureAddr,storeVar,Sem.run_bind,dA h0,hs,this]
theorem eL {α:Type} (l:List α) (o:Nat) (vs:List α) (h:o+vs.length<=l.length) (j:Nat):(l.take o ++ vs ++ l.drop (o+vs.length))[j]? = if o<=j /\ j<o+vs.length then vs[j - o]? else l[j]?:=by
 have ht:(l.take o).length=o:=by rw [Vr];omega
 rw [VZ];by_cases h1:j<o
 .rw [Vh (by omega),VM (by omega),V0,Vn h1]
 .rw [VO (by omega),ht];by_cases h2:j<o+vs.length
  .rw [Vn ⟨by omega,h2⟩,VM (by omega)]
  .rw [Vh (by omega),VO (by omega),VV]
   congr 1
   omega
theorem kJ {t ty:TypeId} {p v:Value} {id j:Nat} {cells:List AV} {av:AV} (h:aJ cx a w st L) (hp:bN cx w st.tab L p (.op id 0 j)) (hid:st.tab.get id=some (.box ty cells)) (hv:bN cx w st.tab L v av) (hl:av.lt st.next)
  (h0:0<aq P t) (hs:(ar av).length=aq P t) (ho:j+aq P t<=cells.length) (h1:fa st.tab (ar av)) (dst:Option Nat) :
  ∃ w',(Instr.storeAt t p v).run P w=.ok () w' /\ aJ cx (a.put dst undef) w' ({ st with tab:=(id,some (.box ty (cells.take j ++ ar av ++ cells.drop (j+aq P t)))) :: st.tab }.put dst .any) L /\
   w'.heap.size=w.heap.size /\ ∀ k,aO (L id) ≠ some k -> w'.heap[k]? = w.heap[k]?:=by
 obtain ⟨hn,hlt,hc⟩:=ib h.lay hv hl h1;obtain ⟨g,hg,rfl⟩:=hp.op_inv _ _ (cQ hid);have hob:=h.lay.objs id _ hid;obtain ⟨g',cs,hL,hbg,hheap,hcs,hx⟩:=hob
 have hgg:g=g':=by
  rw [hL] at hg;simpa [aO] using hg.symm
 subst hgg;simp only [Xf,WR];refine ⟨_,kY h0 (by omega) hheap (by omega) (fun x hx'=>?_),?_,by simp,fun k hk=>setRow_other w g k _ fun e=>hk (by rw [hg,e])⟩
 .obtain ⟨k,hk,rfl⟩:=Array.getElem_of_mem hx';have hk':k<(ar av).length:=by omega
  exact (hc k _ _ (Vj hk) (f4 hk')).2
 .have hyl:=(h.young id _ hid).2
  have hlen:(cells.take j ++ ar av ++ cells.drop (j+aq P t)).length=cells.length:=by
   simp;omega
  refine nW (o':=.box ty (cells.take j ++ ar av ++ cells.drop (j+aq P t))) h hid hg (by simpa [aE.sz] using hlen) (fun k hk=>setRow_other w g k _ hk) ?_ (by simp) (fun hext=>⟨g,_,hL,hbg,setRow_heap w g cs _ ty (0,0) hheap,?_,fun k x av' h2 h3=>?_⟩) ?_ dst
  .exact ⟨h.lay.below.os,h.lay.below.tape,h.lay.below.output,by simpa using h.lay.below.size,fun k hk hX=>(setRow_other w g k _ (by omega)).trans (h.lay.below.block k hk hX)⟩
  .rw [hlen];simp [hcs,hn,hs];omega
  .rw [<- hs] at h3;rw [eL _ _ _ (by omega)] at h3;have hvl:v.cells.toList.length=aq P t:=(by simp [hn,hs]);rw [WJ,<- hvl,eL _ _ _ (by simp [hcs];omega),hvl] at h2;rw [<- hs] at h2;split at h3
   .rename_i hr;rw [Vn hr] at h2;have:=hc (k - j) x av' (by simpa using h2) h3;exact ⟨hext.rv this.1 (ak.1 hlt _ (p0 h3)),this.2⟩
   .rename_i hr;rw [Vh hr] at h2;have:=hx k x av' (by simpa using h2) h3;exact ⟨hext.rv this.1 (ak.1 hyl _ (p0 h3)),this.2⟩
  .refine ak.2 fun x hx=>?_;rcases Vp.1 hx with hx|hx
   .rcases Vp.1 hx with hx | hx
    .exact ak.1 hyl x (VQ hx)
    .exact ak.1 hlt x hx
   .exact ak.1 hyl x (Wp hx)
end
end
end
section
section
def dn (P:Program) (t:TypeId):Option (TypeId × Nat × Nat):=
 match P.underlying t with
 | some (.slice e)=>match P.info? e with
  | some i=>match i.zero with
   | some z=>if z.cells.size=i.size /\ 0<i.size then some (e,i.size,i.bytes) else none
   | none=>none
  | none=>none
 | _=>none
def yx (tab:ae) (sz:Nat):AV -> Option (List (List AV))
 | .sl sz' rows=>if sz'=sz then some rows else none
 | .osl id=>match tab.get id with
  | some (.row _ sz' rows)=>if sz'=sz then some rows else none
  | _=>none
 | .c (.slice none 0 _)=>some []
 | _=>none
def vZ (tab:ae) (e sz:Nat):AV -> Option (Option Nat × List (List AV))
 | .osl id=>match tab.get id with
  | some (.row e' sz' rows)=>if e'=e /\ sz'=sz then some (some id,rows) else none
  | _=>none
 | .c (.slice none 0 0)=>some (none,[])
 | _=>none
def qt (tab:ae) (sz:Nat):AV -> Option (List (List AV))
 | .osl id=>match tab.get id with
  | some (.nest _ sz' rows)=>if sz'=sz then some rows else none
  | _=>none
 | _=>none
def lC (tab:ae) (e sz:Nat):AV -> Option (Option Nat × List (List AV))
 | .osl id=>match tab.get id with
  | some (.nest e' sz' rows)=>if e'=e /\ sz'=sz then some (some id,rows) else none
  | _=>none
 | .c (.slice none 0 0)=>some (none,[])
 | _=>none
section
variable {P:Program} {cx:Cx} {a:Act} {w w':World} {tab:ae} {st:aj} {L:Nat -> Value} {nx:Nat}
theorem gR {t e sz by_:Nat} (h:dn P t=some (e,sz,by_)):∃ i z,P.underlying t=some (.slice e) /\ P.info? e=some i /\ i.zero=some z /\ i.size=sz /\ i.bytes=by_ /\ z.cells.size=sz /\ 0<sz:=by
 unfold dn at h;split at h
 .rename_i e' hu;split at h
  .rename_i i hi;split at h
   .rename_i z hz;split at h
    .rename_i hc;cases h;exact ⟨i,z,hu,hi,hz,rfl,rfl,hc.1,hc.2⟩
    .cases h
   .cases h
  .cases h
 .cases h
theorem ir (base:Nat) {t ty e:TypeId} {i:TypeInfo} {size c:Nat} (ht:P.underlying t=some (.slice e)) (hi:P.info? e=some i)
  {v:Value} {n:Nat} {xs:List Value} (hown:eW w base e size v n xs):(Builtin.append_ #[t,t] ty #[v,.slice none 0 c]).run P w=.ok v w:=by
 rcases hown.2 with ⟨rfl,rfl⟩|⟨g,cap,cur,rfl,_,_,hnc,_⟩
 .simp [Builtin.append_,run_underlying ht,sizeOf,typeInfo,hi,Builtin.lenOf,Builtin.firstCells]
 .simp [Builtin.append_,run_underlying ht,sizeOf,typeInfo,hi,Builtin.lenOf,Builtin.firstCells,hnc,storeCells]
theorem oa {w:World} (base:Nat) (t ty e:TypeId) (i:TypeInfo) (z:Value) (size bytes:Nat) (ht:P.underlying t=some (.slice e)) (hi:P.info? e=some i) (hz:i.zero=some z)
  (hsize:i.size=size) (hby:i.bytes=bytes) (hzs:z.cells.size=size) (hsz:0<size)
  (v:Value) (n:Nat) (xs:List Value) (hown:eW w base e size v n xs)
  (a:Addr) (m c:Nat) (news:List Value) (hl:news.length=m * size) (hnews:∀ j u,news[j]? = some u -> w.cell? (a.add j)=some u) (h1:∀ u ∈ news,u.oneCell'=true)
  (h63:n+m<=maxLen) (hbytes:(n+m) * bytes<=140737488355328) (hbase:base<=w.heap.size) :
  ∃ v' w',(Builtin.append_ #[t,t] ty #[v,.slice (some a) m c]).run P w=.ok v' w' /\ eW w' base e size v' (n+m) (xs ++ news) /\ w.grownBy w' v.ownBlock /\ (v'.ownBlock=v.ownBlock \/ v'.ownBlock=some w.heap.size):=by
 rcases hown.2 with ⟨rfl,rfl⟩|⟨g,cap,cur,rfl,hbg,hg,hnc,hcm,hcs,htake⟩
 .obtain ⟨v',w',h2,h3,h4,_,h5⟩:=run_append_own_at (P:=P) w base t ty e i z size bytes ht hi hz hsize hby hzs hsz (.slice none 0 0) 0 xs ⟨hown.1,.inl ⟨rfl,rfl⟩⟩ a m c news hl hnews h1 h63 hbytes hbase;exact ⟨v',w',h2,I5 h3,h4,h5⟩
 .subst hsize;subst hby
  have hsmall:n+m<=9223372036854775807:=by simp only [maxLen] at h63;omega
  have hlen:(xs ++ news).length=(n+m) * i.size:=by rw [Vi,hown.1,hl,We]
  by_cases hroom:n+m<=cap
  .have hfit:n * i.size+news.length<=cur.size:=by
    rw [hl,<- We];exact Vz (VD _ hroom) hcs
   have hr:=run_append_room (P:=P) w t ty e i ht hi g n cap cur hg a m c news hl hnews h1 hroom hfit;refine ⟨_,_,hr,⟨hlen,.inr ⟨g,cap,_,rfl,hbg,setRow_heap w g cur _ e _ hg,hroom,hcm,?_,?_⟩⟩,⟨rfl,rfl,rfl,by simp,fun k _ hk=>setRow_other w g k _ (fun e=>hk (by simp [Value.ownBlock,e]))⟩,Or.inl rfl⟩
   .simp only [Xm,Vi,Vr,Wa,Wc];omega
   .rw [htake,<- hlen];exact List.take_left
  .have holds:∀ j u,xs[j]? = some u -> w.cell? ((⟨g,0,none⟩:Addr).add j)=some u:=hown.cells (g:=g) rfl;have hr:=run_append_grow (P:=P) w t ty e i z ht hi hz ⟨g,0,none⟩ n cap xs hown.1 holds a m c news hl hnews (by omega) (by omega) (growslice_fits (by omega) hbytes);have hge:=grownCap_ge w (n+m) cap e;have hcm':grownCap w (n+m) cap e<=maxLen:=grownCap_le_maxLen w (n+m) cap e h63;refine ⟨_,_,hr,⟨hlen,.inr ⟨w.heap.size,_,_,rfl,hbase,heap_alloc_new w.drew _,hge,hcm',?_,?_⟩⟩,⟨rfl,rfl,rfl,by simp,fun k hk _=>heap_alloc_old w.drew _ hk⟩,Or.inr rfl⟩
   .simp only [Array.size_append,Xm,size_zeroCells,hzs,hown.1,hl,<- We];refine Nat.le_of_eq ?_
    congr 1
    omega
   .simp only [Array.toList_append,VZ];rw [<- VZ,<- hlen];exact List.take_left
theorem RP (hL:iL cx w tab L) {v:Value} {av:AV} {sz:Nat} {rows:List (List AV)} (h0:0<sz) (hv:bN cx w tab L v av) (h:yx tab sz av=some rows):∃ A c,v=.slice A rows.length c /\ (∀ row ∈ rows,row.length=sz) /\
  ∃ news:List Value,news.length=rows.length * sz /\ (∀ u ∈ news,u.oneCell'=true) /\ (∀ (i j:Nat) (row:List AV) (av:AV),rows[i]? = some row -> row[j]? = some av -> ∃ x,news[i * sz+j]? = some x /\ RT w (Sx cx w tab L) x av) /\
   ((A=none /\ rows.length=0) \/ ∃ ad,A=some ad /\ ∀ j u,news[j]? = some u -> w.cell? (ad.add j)=some u):=by
 unfold yx at h;split at h
 .rename_i sz' rows';split at h
  .rename_i e;subst e;cases h;obtain ⟨A,cap,rfl,_,_,hrow,hA⟩:=hv.sl_inv.sl_inv;refine ⟨A,cap,rfl,hrow,?_⟩;by_cases hz:rows.length=0
   .have:rows=[]:=WI hz;subst this;refine ⟨[],by simp,by simp,by simp,?_⟩
    cases A with
    | none=>exact .inl ⟨rfl,rfl⟩
    | some ad=>exact .inr ⟨ad,rfl,by simp⟩
   .obtain ⟨b,o,rfl,hb,U,hcell,hr,hone⟩:=hA (by omega)
    have key:∀ k,k<rows.length * sz' -> ∃ row av,rows[k / sz']? = some row /\ row[k % sz']? = some av:=fun k hk=>by
     have h1:k / sz'<rows.length:=Nat.div_lt_of_lt_mul (by rwa [Nat.mul_comm] at hk);have h2:k % sz'<(rows[k / sz']).length:=by rw [hrow _ (Vf h1)];exact Nat.mod_lt _ h0
     exact ⟨_,_,f4 h1,f4 h2⟩
    refine ⟨(List.range (rows.length * sz')).map fun k=>U (k / sz') (k % sz'),by simp,fun u hu=>?_,fun i j row av h1 h2=>⟨U i j,?_,hr i j row av h1 h2⟩,.inr ⟨_,rfl,fun k u hu=>?_⟩⟩
    .simp at hu;obtain ⟨k,hk,rfl⟩:=hu;obtain ⟨row,av,h1,h2⟩:=key k hk;exact hone _ _ row av h1 h2
    .have hj:j<sz':=by
      rw [<- hrow row (p0 h1)];exact (Vd.1 h2).1
     have hi:i<rows.length:=(Vd.1 h1).1
     have hlt:i * sz'+j<rows.length * sz':=by
      have:=VD sz' (show i+1<=rows.length from hi);rw [We] at this;omega
     have e1:(i * sz'+j) / sz'=i:=by rw [Nat.add_comm,Nat.add_mul_div_right _ _ h0,Nat.div_eq_of_lt hj];omega
     have e2:(i * sz'+j) % sz'=j:=(by rw [Nat.add_comm,Nat.add_mul_mod_self_right,Nat.mod_eq_of_lt hj]);rw [Ve,Ws hlt,VX,e1,e2]
    .obtain ⟨hk,rfl⟩:=pW hu;obtain ⟨row,av,h1,h2⟩:=key k hk;have:=hcell _ _ row av h1 h2;rw [Wx,Nat.mul_comm,Nat.div_add_mod] at this
     rwa [Addr.add_lit]
  .cases h
 .rename_i id;split at h
  .rename_i e sz' rows' hid;split at h
   .rename_i e;subst e;cases h;obtain ⟨hvL,A,cap,rfl,hA⟩:=pb hL hid hv;obtain ⟨hrow,xs,hown,hone,hx⟩:=hL.objs id _ hid;refine ⟨A,cap,rfl,hrow,xs,hown.1,hone,hx,?_⟩;rw [<- hvL] at hown;rcases hown.2 with ⟨h1,h2⟩|⟨g,cap',cur,h1,_⟩
    .injection h1 with h1
     exact .inl ⟨h1,h2⟩
    .injection h1 with h1
     subst h1;exact .inr ⟨_,rfl,hown.cells (g:=g) rfl⟩
   .cases h
  .cases h
 .cases h;obtain rfl:=hv.c_inv;exact ⟨none,_,rfl,by simp,[],by simp,by simp,by simp,.inl ⟨rfl,rfl⟩⟩
 .cases h
def Uq (tab:ae) (L:Nat -> Value) (e sz:Nat) (rows:List (List AV)) (v:Value):Option Nat -> Prop
 | some id=>tab.get id=some (.row e sz rows) /\ v=L id
 | none=>v=.slice none 0 0
theorem PK (hL:iL cx w tab L) (hb:cx.w0.heap.size<=w.heap.size) {v:Value} {av:AV} {e sz:Nat} {rows:List (List AV)} {oid:Option Nat} (hv:bN cx w tab L v av) (h:vZ tab e sz av=some (oid,rows)) :
  (∀ row ∈ rows,row.length=sz) /\ (∃ xs,eW w cx.w0.heap.size e sz v rows.length xs /\ (∀ x ∈ xs,x.oneCell'=true) /\ ∀ (i j:Nat) (row:List AV) (av:AV),rows[i]? = some row -> row[j]? = some av -> ∃ x,xs[i * sz+j]? = some x /\ RT w (Sx cx w tab L) x av) /\
  Uq tab L e sz rows v oid:=by
 unfold vZ at h;split at h
 .rename_i id;split at h
  .rename_i e' sz' rows' hid;split at h
   .rename_i e;obtain ⟨rfl,rfl⟩:=e;cases h;obtain ⟨hvL,_⟩:=pb hL hid hv;obtain ⟨hrow,xs,hown,hone,hx⟩:=hL.objs id _ hid;exact ⟨hrow,⟨xs,by rw [hvL];exact hown,hone,hx⟩,hid,hvL⟩
   .cases h
  .cases h
 .cases h;obtain rfl:=hv.c_inv;exact ⟨by simp,⟨[],ko ..,by simp,by simp⟩,rfl⟩
 .cases h
def bP (tab:ae) (nx:Nat) (oid:Option Nat) (o:aE):ae:=
 match oid with
 | some id=>(nx,some o) :: (id,none) :: tab
 | none=>(nx,some o) :: tab
theorem bI (tab:ae) (nx:Nat) (oid:Option Nat) (o:aE) (k:Nat):(bP tab nx oid o).get k=if k=nx then some o else if oid=some k then none else tab.get k:=by
 unfold bP
 cases oid with
 | none=>simp [ae.gc]
 | some id=>
  simp only [ae.gc,W8];split
  .rfl
  .by_cases h:k=id
   .simp [h]
   .simp [h,Ne.symm h]
theorem qm {t ty e sz by_:Nat} {v u:Value} {x y:AV} {oid:Option Nat} {rows rows2:List (List AV)} (h:aJ cx a w st L) (hv:bN cx w st.tab L v x) (hu:bN cx w st.tab L u y) (ht:dn P t=some (e,sz,by_))
  (hx:vZ st.tab e sz x=some (oid,rows)) (hy:yx st.tab sz y=some rows2) (h63:rows.length+rows2.length<=maxLen) (hby:(rows.length+rows2.length) * by_<=140737488355328) (dst:Option Nat) :
  ∃ v' w' L',(Builtin.append_ #[t,t] ty #[v,u]).run P w=.ok v' w' /\ aJ cx (a.put dst v') w' ({ st with tab:=bP st.tab st.next oid (.row e sz (rows ++ rows2)),next:=st.next+1 }.put dst (.osl st.next)) L' /\
   w.grownBy w' v.ownBlock /\ L'=bq L st.next v' /\ (aO v'=v.ownBlock \/ aO v'=some w.heap.size) /\ (∀ g,v.ownBlock=some g -> ∃ id,oid=some id /\ aO (L id)=some g):=by
 obtain ⟨i,z,hund,hi,hz,hs,hb,hzs,h0⟩:=gR ht;have hbase:cx.w0.heap.size<=w.heap.size:=h.lay.below.size;obtain ⟨hrow1,⟨xs,hown,hone,hxs⟩,hoid⟩:=PK h.lay hbase hv hx;obtain ⟨A,c,rfl,hrow2,news,hnl,hn1,hnr,hA⟩:=RP h.lay h0 hu hy
 have hrun:∃ v' w',(Builtin.append_ #[t,t] ty #[v,.slice A rows2.length c]).run P w=.ok v' w' /\ eW w' cx.w0.heap.size e sz v' (rows.length+rows2.length) (xs ++ news) /\ w.grownBy w' v.ownBlock /\ (v'.ownBlock=v.ownBlock \/ v'.ownBlock=some w.heap.size):=by
  rcases hA with ⟨rfl,hz0⟩|⟨ad,rfl,hcell⟩
  .rw [hz0] at hnl ⊢;have:news=[]:=WI (by simpa using hnl);subst this;exact ⟨v,w,ir _ hund hi hown,by simpa using hown,⟨rfl,rfl,rfl,Os _,fun _ _ _=>rfl⟩,.inl rfl⟩
  .obtain ⟨v',w',h1,h2,h3,h5⟩:=oa (P:=P) cx.w0.heap.size t ty e i z sz by_ hund hi hz hs hb hzs h0 v rows.length xs hown ad rows2.length c news hnl hcell hn1 h63 hby hbase;exact ⟨v',w',h1,h2,h3,h5⟩
 obtain ⟨v',w',hrun,hown',hgrow,hblk⟩:=hrun
 have vb:∀ {x:Value} {n:Nat} {l:List Value} {w:World},eW w cx.w0.heap.size e sz x n l -> aO x=x.ownBlock:=fun hh=>by
  rcases hh.2 with ⟨rfl,_⟩|⟨g,cap,cur,rfl,_⟩<;>rfl
 have hvb:=vb hown;have hvb':=vb hown'
 have hold_block:∀ g,v.ownBlock=some g -> ∃ id,oid=some id /\ st.tab.get id=some (.row e sz rows) /\ aO (L id)=some g:=fun g hg=>by
  cases oid with
  | none=>rw [show v=.slice none 0 0 from hoid] at hg;cases hg
  | some id=>exact ⟨id,rfl,hoid.1,by rw [<- hoid.2,hvb];exact hg⟩
 have hy':=h.young
 have hget:∀ k,k<st.next -> (bP st.tab st.next oid (.row e sz (rows ++ rows2))).get k=if oid=some k then none else st.tab.get k:=fun k hk=>by
  rw [bI,Vh (by omega)]
 have hgetS:∀ k o,(bP st.tab st.next oid (.row e sz (rows ++ rows2))).get k=some o -> (k=st.next /\ o=.row e sz (rows ++ rows2)) \/ (k<st.next /\ oid ≠ some k /\ st.tab.get k=some o):=fun k o hk=>by
  rw [bI] at hk;split at hk
  .rename_i e';cases hk;exact .inl ⟨e',rfl⟩
  .split at hk
   .cases hk
   .rename_i h1;exact .inr ⟨(hy' k o hk).1,h1,hk⟩
 have hLn:∀ k,k<st.next -> bq L st.next v' k=L k:=fun k hk=>by unfold bq;rw [Vh (by omega)]
 have hLx:bq L st.next v' st.next=v':=by simp [bq]
 -- the blocks of other objects
 have hother:∀ k o g,k<st.next -> oid ≠ some k -> st.tab.get k=some o -> aO (L k)=some g -> some g ≠ v.ownBlock /\ some g ≠ v'.ownBlock:=fun k o g hk hne ho hg=>by
  have h1:some g ≠ v.ownBlock:=fun e'=>by
   obtain ⟨id,hid,hti,hbi⟩:=hold_block g e'.symm;exact hne (by rw [hid,h.lay.sep id k _ o g hti ho hbi hg])
  refine ⟨h1,fun e'=>?_⟩;rcases hblk with hb1|hb1
  .exact h1 (by rw [e',hb1])
  .have:=((h.lay.objs k o ho).ge hg).2;rw [hb1] at e';cases e';omega
 have hext:mM cx w st.tab L st.next w' (bP st.tab st.next oid (.row e sz (rows ++ rows2))) (bq L st.next v'):=by
  refine ⟨fun p hp=>hgrow.block p hp.1 fun e'=>?_,fun b hS=>⟨Vm hS.1 hgrow.size,hS.2.1,fun k o hk hg=>?_⟩,fun k p hk hK=>?_⟩
  .obtain ⟨id,_,hti,hbi⟩:=hold_block p e'.symm;exact hp.2.2 id _ hti hbi
  .rcases hgetS k o hk with ⟨rfl,_⟩ | ⟨hlt,_,ho⟩
   .rw [hLx,hvb'] at hg;rcases hblk with hb1|hb1
    .rw [hb1] at hg;obtain ⟨id,_,hti,hbi⟩:=hold_block b hg;exact hS.2.2 id _ hti hbi
    .rw [hb1] at hg;cases hg;exact Nat.lt_irrefl _ hS.1
   .rw [hLn k hlt] at hg;exact hS.2.2 k o ho hg
  .unfold Kx at *;rw [hget k hk,hLn k hk] at hK;split at hK
   .cases hK
   .exact hK
 have hbel:cg cx.X cx.w0.heap.size cx.w0 w':=h.lay.below.grown hgrow hbase fun k hk=>(hown.lt k hk).1;refine ⟨v',w',bq L st.next v',hrun,?_,hgrow,rfl,by rw [hvb'];exact hblk,fun g hg=>by obtain ⟨id,h1,_,h2⟩:=hold_block g hg;exact ⟨id,h1,h2⟩⟩
 have hex:∀ id2 o2 g,(bP st.tab st.next oid (.row e sz (rows ++ rows2))).get id2=some o2 -> aO (bq L st.next v' id2)=some g -> g<w.heap.size -> ∃ id3 o3,st.tab.get id3=some o3 /\ aO (L id3)=some g:=fun k ok g hk hg' hlt=>by
  rcases hgetS k ok hk with ⟨rfl,_⟩|⟨hlt',_,ho⟩
  .rw [hLx,hvb'] at hg';rcases hblk with hb1|hb1
   .rw [hb1] at hg';obtain ⟨id,_,hti,hbi⟩:=hold_block g hg';exact ⟨id,_,hti,hbi⟩
   .rw [hb1] at hg';cases hg';omega
  .rw [hLn k hlt'] at hg';exact ⟨k,ok,ho,hg'⟩
 refine fK h ⟨hbel,fun k o hk=>?_,fun k k' o o' g h1 h2 h3 h4=>?_,vx h.lay hgrow.size hex⟩ hext (VR _) (fun k o hk=>?_) ?_ (Wb _) dst
 .rcases hgetS k o hk with ⟨rfl,rfl⟩ | ⟨hlt,hne,ho⟩
  .rw [hLx];refine ⟨fun row hr=>?_,xs ++ news,by rw [Vi];exact hown',fun x hx=>?_,fun i j row av h1 h2=>?_⟩
   .rcases Vp.1 hr with hr | hr
    .exact hrow1 row hr
    .exact hrow2 row hr
   .rcases Vp.1 hx with hx | hx
    .exact hone x hx
    .exact hn1 x hx
   .by_cases hlt:i<rows.length
    .rw [VM hlt] at h1;obtain ⟨x,hx,hr⟩:=hxs i j row av h1 h2;exact ⟨x,by rw [VM ((Vd.1 hx).1)];exact hx,hext.rt hr⟩
    .rw [VO (by omega)] at h1;obtain ⟨x,hx,hr⟩:=hnr _ j row av h1 h2;refine ⟨x,?_,hext.rt hr⟩;have e1:rows.length * sz<=i * sz:=VD _ (by omega);rw [VO (by rw [hown.1];omega),hown.1];rw [Nat.sub_mul] at hx
     rwa [show i * sz+j - rows.length * sz=i * sz - rows.length * sz+j by omega]
  .rw [hLn k hlt];have hob:=h.lay.objs k o ho;exact hext.obj hob (hy' k o ho).2 fun g hg=>hgrow.block g (hob.ge hg).2 (hother k o g hlt hne ho hg).1
 .rcases hgetS k o h1 with ⟨rfl,rfl⟩ | ⟨hlt,hne,ho⟩<;>rcases hgetS k' o' h2 with ⟨rfl,rfl⟩ | ⟨hlt',hne',ho'⟩
  .rfl
  .rw [hLx,hvb'] at h3;rw [hLn k' hlt'] at h4;exact absurd h3.symm (hother k' o' g hlt' hne' ho' h4).2
  .rw [hLx,hvb'] at h4;rw [hLn k hlt] at h3;exact absurd h4.symm (hother k o g hlt hne ho h3).2
  .rw [hLn k hlt] at h3;rw [hLn k' hlt'] at h4;exact h.lay.sep k k' o o' g ho ho' h3 h4
 .rcases hgetS k o hk with ⟨rfl,rfl⟩ | ⟨hlt,_,ho⟩
  .exact ⟨Wb _,trivial⟩
  .refine ⟨by omega,?_⟩;have:=(hy' k o ho).2
   cases o with
   | box t cells=>exact ak.2 fun x hx=>AV.lt_mono (VR _) (ak.1 this x hx)
   | row=>trivial
   | map=>trivial
   | nest e sz rows=>exact fun row hr=>ak.2 fun x hx=>AV.lt_mono (VR _) (ak.1 (this row hr) x hx)
   | ghost vs env=>exact dF (VR _) this
 .refine .osl _ _ fun sz' v'' hk=>?_;unfold Kx at hk;rw [bI,Vn rfl] at hk;simp at hk;rw [hLx] at hk;exact hk.2
theorem Ou (hL:iL cx w tab L) {v:Value} {av:AV} {sz:Nat} {rows:List (List AV)} (h0:0<sz) (hv:bN cx w tab L v av) (h:qt tab sz av=some rows):∃ A c,v=.slice A rows.length c /\ (∀ row ∈ rows,row.length=sz) /\
  ∃ news:List Value,news.length=rows.length * sz /\ (∀ u ∈ news,u.oneCell'=true) /\ (∀ (i j:Nat) (row:List AV) (av:AV),rows[i]? = some row -> row[j]? = some av -> ∃ x,news[i * sz+j]? = some x /\ bN cx w tab L x av) /\
   ((A=none /\ rows.length=0) \/ ∃ ad,A=some ad /\ ∀ j u,news[j]? = some u -> w.cell? (ad.add j)=some u):=by
 unfold qt at h;split at h
 .rename_i id;split at h
  .rename_i e sz' rows' hid;split at h
   .rename_i e;subst e;cases h;obtain ⟨hvL,A,cap,rfl,hA⟩:=kc hL hid hv;obtain ⟨hrow,xs,hown,hone,hx⟩:=hL.objs id _ hid;refine ⟨A,cap,rfl,hrow,xs,hown.1,hone,hx,?_⟩;rw [<- hvL] at hown;rcases hown.2 with ⟨h1,h2⟩|⟨g,cap',cur,h1,_⟩
    .injection h1 with h1
     exact .inl ⟨h1,h2⟩
    .injection h1 with h1
     subst h1;exact .inr ⟨_,rfl,hown.cells (g:=g) rfl⟩
   .cases h
  .cases h
 .cases h
def S6 (tab:ae) (L:Nat -> Value) (e sz:Nat) (rows:List (List AV)) (v:Value):Option Nat -> Prop
 | some id=>tab.get id=some (.nest e sz rows) /\ v=L id
 | none=>v=.slice none 0 0
theorem N3 (hL:iL cx w tab L) (hb:cx.w0.heap.size<=w.heap.size) {v:Value} {av:AV} {e sz:Nat} {rows:List (List AV)} {oid:Option Nat} (hv:bN cx w tab L v av) (h:lC tab e sz av=some (oid,rows)) :
  (∀ row ∈ rows,row.length=sz) /\ (∃ xs,eW w cx.w0.heap.size e sz v rows.length xs /\ (∀ x ∈ xs,x.oneCell'=true) /\ ∀ (i j:Nat) (row:List AV) (av:AV),rows[i]? = some row -> row[j]? = some av -> ∃ x,xs[i * sz+j]? = some x /\ bN cx w tab L x av) /\
  S6 tab L e sz rows v oid:=by
 unfold lC at h;split at h
 .rename_i id;split at h
  .rename_i e' sz' rows' hid;split at h
   .rename_i e;obtain ⟨rfl,rfl⟩:=e;cases h;obtain ⟨hvL,_⟩:=kc hL hid hv;obtain ⟨hrow,xs,hown,hone,hx⟩:=hL.objs id _ hid;exact ⟨hrow,⟨xs,by rw [hvL];exact hown,hone,hx⟩,hid,hvL⟩
   .cases h
  .cases h
 .cases h;obtain rfl:=hv.c_inv;exact ⟨by simp,⟨[],ko ..,by simp,by simp⟩,rfl⟩
 .cases h
theorem Mf (hy:∀ id o,tab.get id=some o -> o.lt nx) {av:AV} {sz:Nat} {rows:List (List AV)} (h:qt tab sz av=some rows):∀ row ∈ rows,AV.ltL nx row:=by
 unfold qt at h;split at h
 .split at h
  .rename_i hid;split at h
   .cases h;exact hy _ _ hid
   .cases h
  .cases h
 .cases h
theorem Ns (hy:∀ id o,tab.get id=some o -> o.lt nx) {av:AV} {e sz:Nat} {oid:Option Nat} {rows:List (List AV)} (h:lC tab e sz av=some (oid,rows)):∀ row ∈ rows,AV.ltL nx row:=by
 unfold lC at h;split at h
 .split at h
  .rename_i hid;split at h
   .cases h;exact hy _ _ hid
   .cases h
  .cases h
 .cases h;intro row hr;cases hr
 .cases h
theorem mZ {t ty e sz by_:Nat} {v u:Value} {x y:AV} {oid:Option Nat} {rows rows2:List (List AV)} (h:aJ cx a w st L) (hv:bN cx w st.tab L v x) (hu:bN cx w st.tab L u y) (ht:dn P t=some (e,sz,by_))
  (hx:lC st.tab e sz x=some (oid,rows)) (hy:qt st.tab sz y=some rows2) (h63:rows.length+rows2.length<=maxLen) (hby:(rows.length+rows2.length) * by_<=140737488355328) (dst:Option Nat) :
  ∃ v' w' L',(Builtin.append_ #[t,t] ty #[v,u]).run P w=.ok v' w' /\ aJ cx (a.put dst v') w' ({ st with tab:=bP st.tab st.next oid (.nest e sz (rows ++ rows2)),next:=st.next+1 }.put dst (.osl st.next)) L' /\
   w.grownBy w' v.ownBlock /\ L'=bq L st.next v' /\ (aO v'=v.ownBlock \/ aO v'=some w.heap.size) /\ (∀ g,v.ownBlock=some g -> ∃ id,oid=some id /\ aO (L id)=some g):=by
 obtain ⟨i,z,hund,hi,hz,hs,hb,hzs,h0⟩:=gR ht;have hbase:cx.w0.heap.size<=w.heap.size:=h.lay.below.size;obtain ⟨hrow1,⟨xs,hown,hone,hxs⟩,hoid⟩:=N3 h.lay hbase hv hx;obtain ⟨A,c,rfl,hrow2,news,hnl,hn1,hnr,hA⟩:=Ou h.lay h0 hu hy;have hl1:=Ns (fun id o ho=>(h.young id o ho).2) hx;have hl2:=Mf (fun id o ho=>(h.young id o ho).2) hy
 have hrun:∃ v' w',(Builtin.append_ #[t,t] ty #[v,.slice A rows2.length c]).run P w=.ok v' w' /\ eW w' cx.w0.heap.size e sz v' (rows.length+rows2.length) (xs ++ news) /\ w.grownBy w' v.ownBlock /\ (v'.ownBlock=v.ownBlock \/ v'.ownBlock=some w.heap.size):=by
  rcases hA with ⟨rfl,hz0⟩|⟨ad,rfl,hcell⟩
  .rw [hz0] at hnl ⊢;have:news=[]:=WI (by simpa using hnl);subst this;exact ⟨v,w,ir _ hund hi hown,by simpa using hown,⟨rfl,rfl,rfl,Os _,fun _ _ _=>rfl⟩,.inl rfl⟩
  .obtain ⟨v',w',h1,h2,h3,h5⟩:=oa (P:=P) cx.w0.heap.size t ty e i z sz by_ hund hi hz hs hb hzs h0 v rows.length xs hown ad rows2.length c news hnl hcell hn1 h63 hby hbase;exact ⟨v',w',h1,h2,h3,h5⟩
 obtain ⟨v',w',hrun,hown',hgrow,hblk⟩:=hrun
 have vb:∀ {x:Value} {n:Nat} {l:List Value} {w:World},eW w cx.w0.heap.size e sz x n l -> aO x=x.ownBlock:=fun hh=>by
  rcases hh.2 with ⟨rfl,_⟩|⟨g,cap,cur,rfl,_⟩<;>rfl
 have hvb:=vb hown;have hvb':=vb hown'
 have hold_block:∀ g,v.ownBlock=some g -> ∃ id,oid=some id /\ st.tab.get id=some (.nest e sz rows) /\ aO (L id)=some g:=fun g hg=>by
  cases oid with
  | none=>rw [show v=.slice none 0 0 from hoid] at hg;cases hg
  | some id=>exact ⟨id,rfl,hoid.1,by rw [<- hoid.2,hvb];exact hg⟩
 have hy':=h.young
 have hget:∀ k,k<st.next -> (bP st.tab st.next oid (.nest e sz (rows ++ rows2))).get k=if oid=some k then none else st.tab.get k:=fun k hk=>by
  rw [bI,Vh (by omega)]
 have hgetS:∀ k o,(bP st.tab st.next oid (.nest e sz (rows ++ rows2))).get k=some o -> (k=st.next /\ o=.nest e sz (rows ++ rows2)) \/ (k<st.next /\ oid ≠ some k /\ st.tab.get k=some o):=fun k o hk=>by
  rw [bI] at hk;split at hk
  .rename_i e';cases hk;exact .inl ⟨e',rfl⟩
  .split at hk
   .cases hk
   .rename_i h1;exact .inr ⟨(hy' k o hk).1,h1,hk⟩
 have hLn:∀ k,k<st.next -> bq L st.next v' k=L k:=fun k hk=>by unfold bq;rw [Vh (by omega)]
 have hLx:bq L st.next v' st.next=v':=by simp [bq]
 -- the blocks of other objects
 have hother:∀ k o g,k<st.next -> oid ≠ some k -> st.tab.get k=some o -> aO (L k)=some g -> some g ≠ v.ownBlock /\ some g ≠ v'.ownBlock:=fun k o g hk hne ho hg=>by
  have h1:some g ≠ v.ownBlock:=fun e'=>by
   obtain ⟨id,hid,hti,hbi⟩:=hold_block g e'.symm;exact hne (by rw [hid,h.lay.sep id k _ o g hti ho hbi hg])
  refine ⟨h1,fun e'=>?_⟩;rcases hblk with hb1|hb1
  .exact h1 (by rw [e',hb1])
  .have:=((h.lay.objs k o ho).ge hg).2;rw [hb1] at e';cases e';omega
 have hext:mM cx w st.tab L st.next w' (bP st.tab st.next oid (.nest e sz (rows ++ rows2))) (bq L st.next v'):=by
  refine ⟨fun p hp=>hgrow.block p hp.1 fun e'=>?_,fun b hS=>⟨Vm hS.1 hgrow.size,hS.2.1,fun k o hk hg=>?_⟩,fun k p hk hK=>?_⟩
  .obtain ⟨id,_,hti,hbi⟩:=hold_block p e'.symm;exact hp.2.2 id _ hti hbi
  .rcases hgetS k o hk with ⟨rfl,_⟩ | ⟨hlt,_,ho⟩
   .rw [hLx,hvb'] at hg;rcases hblk with hb1|hb1
    .rw [hb1] at hg;obtain ⟨id,_,hti,hbi⟩:=hold_block b hg;exact hS.2.2 id _ hti hbi
    .rw [hb1] at hg;cases hg;exact Nat.lt_irrefl _ hS.1
   .rw [hLn k hlt] at hg;exact hS.2.2 k o ho hg
  .unfold Kx at *;rw [hget k hk,hLn k hk] at hK;split at hK
   .cases hK
   .exact hK
 have hbel:cg cx.X cx.w0.heap.size cx.w0 w':=h.lay.below.grown hgrow hbase fun k hk=>(hown.lt k hk).1;refine ⟨v',w',bq L st.next v',hrun,?_,hgrow,rfl,by rw [hvb'];exact hblk,fun g hg=>by obtain ⟨id,h1,_,h2⟩:=hold_block g hg;exact ⟨id,h1,h2⟩⟩
 have hex:∀ id2 o2 g,(bP st.tab st.next oid (.nest e sz (rows ++ rows2))).get id2=some o2 -> aO (bq L st.next v' id2)=some g -> g<w.heap.size -> ∃ id3 o3,st.tab.get id3=some o3 /\ aO (L id3)=some g:=fun k ok g hk hg' hlt=>by
  rcases hgetS k ok hk with ⟨rfl,_⟩|⟨hlt',_,ho⟩
  .rw [hLx,hvb'] at hg';rcases hblk with hb1|hb1
   .rw [hb1] at hg';obtain ⟨id,_,hti,hbi⟩:=hold_block g hg';exact ⟨id,_,hti,hbi⟩
   .rw [hb1] at hg';cases hg';omega
  .rw [hLn k hlt'] at hg';exact ⟨k,ok,ho,hg'⟩
 refine fK h ⟨hbel,fun k o hk=>?_,fun k k' o o' g h1 h2 h3 h4=>?_,vx h.lay hgrow.size hex⟩ hext (VR _) (fun k o hk=>?_) ?_ (Wb _) dst
 .rcases hgetS k o hk with ⟨rfl,rfl⟩ | ⟨hlt,hne,ho⟩
  .rw [hLx];refine ⟨fun row hr=>?_,xs ++ news,by rw [Vi];exact hown',fun x hx=>?_,fun i j row av h1 h2=>?_⟩
   .rcases Vp.1 hr with hr | hr
    .exact hrow1 row hr
    .exact hrow2 row hr
   .rcases Vp.1 hx with hx | hx
    .exact hone x hx
    .exact hn1 x hx
   .by_cases hlt:i<rows.length
    .rw [VM hlt] at h1;obtain ⟨x,hx,hr⟩:=hxs i j row av h1 h2;exact ⟨x,by rw [VM ((Vd.1 hx).1)];exact hx,hext.rv hr (ak.1 (hl1 row (p0 h1)) _ (p0 h2))⟩
    .rw [VO (by omega)] at h1;obtain ⟨x,hx,hr⟩:=hnr _ j row av h1 h2;refine ⟨x,?_,hext.rv hr (ak.1 (hl2 row (p0 h1)) _ (p0 h2))⟩;have e1:rows.length * sz<=i * sz:=VD _ (by omega);rw [VO (by rw [hown.1];omega),hown.1];rw [Nat.sub_mul] at hx
     rwa [show i * sz+j - rows.length * sz=i * sz - rows.length * sz+j by omega]
  .rw [hLn k hlt];have hob:=h.lay.objs k o ho;exact hext.obj hob (hy' k o ho).2 fun g hg=>hgrow.block g (hob.ge hg).2 (hother k o g hlt hne ho hg).1
 .rcases hgetS k o h1 with ⟨rfl,rfl⟩ | ⟨hlt,hne,ho⟩<;>rcases hgetS k' o' h2 with ⟨rfl,rfl⟩ | ⟨hlt',hne',ho'⟩
  .rfl
  .rw [hLx,hvb'] at h3;rw [hLn k' hlt'] at h4;exact absurd h3.symm (hother k' o' g hlt' hne' ho' h4).2
  .rw [hLx,hvb'] at h4;rw [hLn k hlt] at h3;exact absurd h4.symm (hother k o g hlt hne ho h3).2
  .rw [hLn k hlt] at h3;rw [hLn k' hlt'] at h4;exact h.lay.sep k k' o o' g ho ho' h3 h4
 .rcases hgetS k o hk with ⟨rfl,rfl⟩ | ⟨hlt,_,ho⟩
  .refine ⟨Wb _,fun row hr=>ak.2 fun x hx=>AV.lt_mono (VR _) ?_⟩;rcases Vp.1 hr with hr|hr
   .exact ak.1 (hl1 row hr) x hx
   .exact ak.1 (hl2 row hr) x hx
  .refine ⟨by omega,?_⟩;have:=(hy' k o ho).2
   cases o with
   | box t cells=>exact ak.2 fun x hx=>AV.lt_mono (VR _) (ak.1 this x hx)
   | row=>trivial
   | map=>trivial
   | nest e sz rows=>exact fun row hr=>ak.2 fun x hx=>AV.lt_mono (VR _) (ak.1 (this row hr) x hx)
   | ghost vs env=>exact dF (VR _) this
 .refine .osl _ _ fun sz' v'' hk=>?_;unfold Kx at hk;rw [bI,Vn rfl] at hk;simp at hk;rw [hLx] at hk;exact hk.2
theorem li {id e sz n:Nat} {rows:List (List AV)} {v':Value} (h:aJ cx a w st L) (hid:st.tab.get id=some (.row e sz rows)) (hn:n<=rows.length)
  (hv':(L id=.slice none 0 0 /\ v'=.slice none 0 0) \/ ∃ g cap cap',L id=.slice (some ⟨g,0,none⟩) rows.length cap /\ v'=.slice (some ⟨g,0,none⟩) n cap' /\ n<=cap' /\ cap'<=cap) (dst:Option Nat) :
  aJ cx (a.put dst v') w ({ st with tab:=bP st.tab st.next (some id) (.row e sz (rows.take n)),next:=st.next+1 }.put dst (.osl st.next)) (bq L st.next v'):=by
 have hvb:aO v'=aO (L id):=by
  rcases hv' with ⟨h1,rfl⟩|⟨g,cap,cap',h1,rfl,_⟩<;>rw [h1]<;>rfl
 have hy':=h.young
 have hget:∀ k,k<st.next -> (bP st.tab st.next (some id) (.row e sz (rows.take n))).get k=if some id=some k then none else st.tab.get k:=fun k hk=>by
  rw [bI,Vh (by omega)]
 have hgetS:∀ k o,(bP st.tab st.next (some id) (.row e sz (rows.take n))).get k=some o -> (k=st.next /\ o=.row e sz (rows.take n)) \/ (k<st.next /\ id ≠ k /\ st.tab.get k=some o):=fun k o hk=>by
  rw [bI] at hk;split at hk
  .rename_i e';cases hk;exact .inl ⟨e',rfl⟩
  .split at hk
   .cases hk
   .rename_i h1;exact .inr ⟨(hy' k o hk).1,fun e'=>h1 (by rw [e']),hk⟩
 have hLn:∀ k,k<st.next -> bq L st.next v' k=L k:=fun k hk=>by unfold bq;rw [Vh (by omega)]
 have hLx:bq L st.next v' st.next=v':=by simp [bq]
 have hext:mM cx w st.tab L st.next w (bP st.tab st.next (some id) (.row e sz (rows.take n))) (bq L st.next v'):=by
  refine ⟨fun p hp=>rfl,fun b hS=>⟨hS.1,hS.2.1,fun k o hk hg=>?_⟩,fun k p hk hK=>?_⟩
  .rcases hgetS k o hk with ⟨rfl,_⟩ | ⟨hlt,_,ho⟩
   .rw [hLx,hvb] at hg;exact hS.2.2 id _ hid hg
   .rw [hLn k hlt] at hg;exact hS.2.2 k o ho hg
  .unfold Kx at *;rw [hget k hk,hLn k hk] at hK;split at hK
   .cases hK
   .exact hK
 obtain ⟨hrow,xs,hown,hone,hx⟩:=h.lay.objs id _ hid;have hmul:n * sz<=rows.length * sz:=VD _ hn;have hlen:(rows.take n).length=n:=by rw [Vr];omega
 have hex:∀ id2 o2 g,(bP st.tab st.next (some id) (.row e sz (rows.take n))).get id2=some o2 -> aO (bq L st.next v' id2)=some g -> g<w.heap.size -> ∃ id3 o3,st.tab.get id3=some o3 /\ aO (L id3)=some g:=fun k ok g hk hg' hlt=>by
  rcases hgetS k ok hk with ⟨rfl,_⟩|⟨hlt',_,ho⟩
  .rw [hLx,hvb] at hg';exact ⟨id,_,hid,hg'⟩
  .rw [hLn k hlt'] at hg';exact ⟨k,ok,ho,hg'⟩
 refine fK h ⟨h.lay.below,fun k o hk=>?_,fun k k' o o' g h1 h2 h3 h4=>?_,vx h.lay (Os _) hex⟩ hext (VR _) (fun k o hk=>?_) ?_ (Wb _) dst
 .rcases hgetS k o hk with ⟨rfl,rfl⟩ | ⟨hlt,hne,ho⟩
  .rw [hLx];refine ⟨fun row hr=>hrow row (VQ hr),xs.take (n * sz),⟨?_,?_⟩,fun x hx'=>hone x (VQ hx'),fun i j row av h1 h2=>?_⟩
   .rw [Vr,hown.1,hlen];omega
   .rw [hlen];rcases hown.2 with ⟨h1,h0⟩|⟨g,cap,cur,h1,hb,hh,hc,hm,hcs,htake⟩
    .rcases hv' with ⟨_,rfl⟩ | ⟨g',cap1,cap2,h2,rfl,_⟩
     .exact .inl ⟨rfl,by omega⟩
     .rw [h1] at h2;cases h2
    .rcases hv' with ⟨h2,_⟩ | ⟨g',cap1,cap2,h2,rfl,h3,h4⟩
     .rw [h1] at h2;cases h2
     .rw [h1] at h2;cases h2;refine .inr ⟨g,cap2,cur,rfl,hb,hh,h3,by omega,Vz (VD _ h4) hcs,?_⟩;rw [<- htake,List.take_take,Nat.min_eq_left hmul]
   .rw [V0] at h1;split at h1
    .rename_i hi;obtain ⟨x,hx1,hx2⟩:=hx i j row av h1 h2;refine ⟨x,?_,hext.rt hx2⟩;have hj:j<sz:=by rw [<- hrow row (p0 h1)];exact (Vd.1 h2).1
     have:(i+1) * sz<=n * sz:=VD _ hi;rw [We] at this;rw [V0,Vn (by omega)];exact hx1
    .cases h1
  .rw [hLn k hlt];exact hext.obj (h.lay.objs k o ho) (hy' k o ho).2 fun g hg=>rfl
 .rcases hgetS k o h1 with ⟨rfl,_⟩ | ⟨hlt,hne,ho⟩<;>rcases hgetS k' o' h2 with ⟨rfl,_⟩ | ⟨hlt',hne',ho'⟩
  .rfl
  .rw [hLx,hvb] at h3;rw [hLn k' hlt'] at h4;exact absurd (h.lay.sep id k' _ o' g hid ho' h3 h4) hne'
  .rw [hLx,hvb] at h4;rw [hLn k hlt] at h3;exact absurd (h.lay.sep id k _ o g hid ho h4 h3) hne
  .rw [hLn k hlt] at h3;rw [hLn k' hlt'] at h4;exact h.lay.sep k k' o o' g ho ho' h3 h4
 .rcases hgetS k o hk with ⟨rfl,rfl⟩ | ⟨hlt,_,ho⟩
  .exact ⟨Wb _,trivial⟩
  .refine ⟨by omega,?_⟩;have:=(hy' k o ho).2
   cases o with
   | box t cells=>exact ak.2 fun x hx=>AV.lt_mono (VR _) (ak.1 this x hx)
   | row=>trivial
   | map=>trivial
   | nest e sz rows=>exact fun row hr=>ak.2 fun x hx=>AV.lt_mono (VR _) (ak.1 (this row hr) x hx)
   | ghost vs env=>exact dF (VR _) this
 .refine .osl _ _ fun sz' v'' hk=>?_;unfold Kx at hk;rw [bI,Vn rfl] at hk;simp at hk;rw [hLx] at hk;exact hk.2
end
end
section
theorem mY (off:Nat):∀ (l:List Value) (n:Nat) (cells:Array Value),off+n+l.length<=cells.size -> ∀ k,((l.zipIdx n).foldl (fun cs (p:Value × Nat)=>cs.setIfInBounds (off+p.2) p.1) cells)[k]? = if off+n<=k /\ k<off+n+l.length then l[k - (off+n)]? else cells[k]?
 | [],n,cells,_,k=>by simp;omega
 | v :: l,n,cells,h,k=>by
  simp only [List.zipIdx_cons,Xc,VI] at h ⊢;rw [mY off l (n+1) _ (by simp;omega)];by_cases h1:off+n=k
  .subst h1;rw [Vh (by omega),Vn (by omega),Array.getElem?_setIfInBounds_self_of_lt (by omega)];simp
  .by_cases h2:off+(n+1)<=k /\ k<off+(n+1)+l.length
   .rw [Vn h2,Vn (by omega)];rw [show k - (off+n)=(k - (off+(n+1)))+1 by omega,WM]
   .rw [Vh h2,Vh (by omega),Array.getElem?_setIfInBounds_ne h1]
theorem zH (off:Nat) (v:Array Value) (cells:Array Value) (h:off+v.size<=cells.size):(v.zipIdx.foldl (fun cs (p:Value × Nat)=>cs.setIfInBounds (off+p.2) p.1) cells)=(cells.toList.take off ++ v.toList ++ cells.toList.drop (off+v.size)).toArray:=by
 have e:v.zipIdx.foldl (fun cs (p:Value × Nat)=>cs.setIfInBounds (off+p.2) p.1) cells=(v.toList.zipIdx 0).foldl (fun cs (p:Value × Nat)=>cs.setIfInBounds (off+p.2) p.1) cells:=by
  rw [<- Array.foldl_toList]
  congr 1
  simp
 rw [e];apply Array.ext_getElem?;intro k;rw [mY off v.toList 0 cells (by simpa using h) k];have:=eL cells.toList off v.toList (by simpa using h) k;simp only [Wc] at this;simp only [WJ,this,Wc,XA];simp
theorem sT (sz:Nat):∀ (parts:List (Nat × Value)) (k:Nat) (cells:Array Value),parts.map (·.1)=List.range' k parts.length -> (∀ p ∈ parts,p.2.cells.size=sz) -> cells.size=(k+parts.length) * sz ->
  ∃ c:Array Value,Instr.fill (fun i=>some (i * sz,sz)) cells parts=some c /\ c.toList=cells.toList.take (k * sz) ++ parts.flatMap (·.2.cells.toList)
 | [],k,cells,_,_,hs=>⟨cells,rfl,by simp at hs;simp [VK,hs]⟩
 | (i,v) :: rest,k,cells,hi,hp,hs=>by
  simp only [VY,VI,List.range'_succ,List.cons.injEq] at hi hs;obtain ⟨rfl,hi⟩:=hi;have hv:=hp (i,v) (by simp);simp only at hv;have hmul:(i+(rest.length+1)) * sz=i * sz+sz+rest.length * sz:=by rw [We,We];omega
  have hfit:i * sz+v.cells.size<=cells.size:=by rw [hs,hmul,hv];omega
  have hone:=zH (i * sz) v.cells cells hfit
  obtain ⟨c,h1,h2⟩:=sT sz rest (i+1) (cells.toList.take (i * sz) ++ v.cells.toList ++ cells.toList.drop (i * sz+v.cells.size)).toArray hi (fun p hp'=>hp p (by simp [hp'])) (by
   simp [hs,hv,hmul,We]<;>omega)
  refine ⟨c,?_,?_⟩
  .unfold Instr.fill;simp only;rw [Vh (by simp [hv];omega)];rw [hone];exact h1
  .rw [h2];simp only [Ww];rw [<- VZ]
   congr 1
   have hl:((cells.toList.take (i * sz)).length)=i * sz:=by
    rw [Vr];simp;omega
   rw [W5 (by simp [hl,hv,We])];rw [VK (by simp [hl,hv,We])]
theorem lE {α β:Type} (f:α -> List β) (sz:Nat):∀ (l:List α),(∀ a ∈ l,(f a).length=sz) -> ∀ i j (h:i<l.length),j<sz -> (l.flatMap f)[i * sz+j]? = (f l[i])[j]?
 | [],_,i,_,h,_=>absurd h (by simp)
 | a :: l,hs,i,j,h,hj=>by
  rw [Ww];have ha:=hs a (by simp)
  cases i with
  | zero=>rw [Xf,WR,VM (by omega)];rfl
  | succ i=>
   rw [VO (by rw [ha,We];omega),ha,show (i+1) * sz+j - sz=i * sz+j by rw [We];omega];exact lE f sz l (fun a h=>hs a (by simp [h])) i j (by simpa using h) hj
theorem ow {α β:Type} (f:α -> List β) (sz:Nat):∀ (l:List α),(∀ a ∈ l,(f a).length=sz) -> (l.flatMap f).length=l.length * sz
 | [],_=>by simp
 | a :: l,hs=>by
  rw [Ww,Vi,hs a (by simp),ow f sz l (fun a h=>hs a (by simp [h])),VI,We];omega
def aU:AV -> Prop
 | .osl _=>False
 | .op _ _ _=>False
 | .agg _=>False
 | .tup _=>False
 | .fn _ _=>False
 | .bfn _ _=>False
 | _=>True
def aM:List AV -> Prop
 | []=>True
 | a :: l=>aU a /\ aM l
theorem d8:∀ {l:List AV},aM l ↔ ∀ a ∈ l,aU a
 | []=>by simp [aM]
 | a :: l=>by simp [aM,d8 (l:=l)]
section
variable {P:Program} {cx:Cx} {a:Act} {w w':World} {tab:ae} {st:aj} {L:Nat -> Value} {nx:Nat}
theorem dP {x:Value} {av:AV} (h:bN cx w tab L x av) (ht:aU av):RT w (Sx cx w tab L) x av:=by
 cases h with
 | tree h=>exact h
 | osl=>exact ht.elim
 | op=>exact ht.elim
 | agg=>exact ht.elim
 | tup=>exact ht.elim
 | fn=>exact ht.elim
 | bfn=>exact ht.elim
theorem zi {t e sz by_:Nat} (h:aJ cx a w st L) (h0:0<sz) {cells:Array Value} {rows:List (List AV)} (hr:∀ row ∈ rows,row.length=sz) (hn:cells.size=rows.length * sz) (hm:rows.length<=9223372036854775807) (h1:∀ x ∈ cells,x.oneCell'=true)
  (hx:∀ (i j:Nat) (row:List AV) (av:AV),rows[i]? = some row -> row[j]? = some av -> ∃ x,cells[i * sz+j]? = some x /\ RT w (Sx cx w st.tab L) x av) (dst:Option Nat) :
  aJ cx (a.put dst (.slice (some ⟨w.heap.size,0,none⟩) rows.length rows.length)) (w.alloc (.cells cells e)) ({ st with tab:=(st.next,some (.row e sz rows)) :: st.tab,next:=st.next+1 }.put dst (.osl st.next)) (bq L st.next (.slice (some ⟨w.heap.size,0,none⟩) rows.length rows.length)):=by
 refine j6 (ob:=.row e sz rows) (v:=.slice (some ⟨w.heap.size,0,none⟩) rows.length rows.length) h ((Below.refl _ _).alloc (Os _) _) (fun g hg=>?_) (fun hext=>⟨hr,cells.toList,⟨by simpa using hn,.inr ⟨w.heap.size,_,cells,rfl,h.lay.below.size,heap_alloc_new w _,Os _,by simpa [maxLen] using hm,Nat.le_of_eq hn.symm,?_⟩⟩,fun x hx'=>h1 x (by simpa using hx'),fun i j row av ha hb=>?_⟩) trivial (fun hext=>?_) (Wb _) dst
 .simp [aO] at hg;omega
 .exact VK (by simp [hn])
 .obtain ⟨x,hx1,hx2⟩:=hx i j row av ha hb;exact ⟨x,by simpa using hx1,hext.rt hx2⟩
 .refine .osl _ _ fun sz' v'' hk=>?_;simp [Kx,ae.gc,bq] at hk;exact hk.2
theorem uV {t e sz by_:Nat} (h:aJ cx a w st L) (h0:0<sz) {cells:Array Value} {rows:List (List AV)} (hr:∀ row ∈ rows,row.length=sz) (hn:cells.size=rows.length * sz) (hm:rows.length<=9223372036854775807) (h1:∀ x ∈ cells,x.oneCell'=true)
  (hx:∀ (i j:Nat) (row:List AV) (av:AV),rows[i]? = some row -> row[j]? = some av -> ∃ x,cells[i * sz+j]? = some x /\ bN cx w st.tab L x av) (hlt:∀ row ∈ rows,AV.ltL st.next row) (dst:Option Nat) :
  aJ cx (a.put dst (.slice (some ⟨w.heap.size,0,none⟩) rows.length rows.length)) (w.alloc (.cells cells e)) ({ st with tab:=(st.next,some (.nest e sz rows)) :: st.tab,next:=st.next+1 }.put dst (.osl st.next)) (bq L st.next (.slice (some ⟨w.heap.size,0,none⟩) rows.length rows.length)):=by
 refine j6 (ob:=.nest e sz rows) (v:=.slice (some ⟨w.heap.size,0,none⟩) rows.length rows.length) h ((Below.refl _ _).alloc (Os _) _) (fun g hg=>?_) (fun hext=>⟨hr,cells.toList,⟨by simpa using hn,.inr ⟨w.heap.size,_,cells,rfl,h.lay.below.size,heap_alloc_new w _,Os _,by simpa [maxLen] using hm,Nat.le_of_eq hn.symm,?_⟩⟩,fun x hx'=>h1 x (by simpa using hx'),fun i j row av ha hb=>?_⟩) (fun row hr=>ak.2 fun x hx=>AV.lt_mono (VR _) (ak.1 (hlt row hr) x hx)) (fun hext=>?_) (Wb _) dst
 .simp [aO] at hg;omega
 .exact VK (by simp [hn])
 .obtain ⟨x,hx1,hx2⟩:=hx i j row av ha hb;exact ⟨x,by simpa using hx1,hext.rv hx2 (ak.1 (hlt row (p0 ha)) _ (p0 hb))⟩
 .refine .osl _ _ fun sz' v'' hk=>?_;simp [Kx,ae.gc,bq] at hk;exact hk.2
mutual
def AV.frz (id sz:Nat) (rows:List (List AV)):AV -> AV
 | .osl k=>if k=id then .sl sz rows else .osl k
 | .agg cs=>.agg (AV.frzL id sz rows cs)
 | .tup cs=>.tup (AV.frzL id sz rows cs)
 | .fn f cs=>.fn f (AV.frzL id sz rows cs)
 | .bfn f cs=>.bfn f (AV.frzL id sz rows cs)
 | .op k i j=>.op k i j
 | .any=>.any
 | .c v=>.c v
 | .sl sz rows=>.sl sz rows
 | .rp cs=>.rp cs
def AV.frzL (id sz:Nat) (rows:List (List AV)):List AV -> List AV
 | []=>[]
 | a :: l=>a.frz id sz rows :: AV.frzL id sz rows l
end
theorem cP (id sz:Nat) (rows:List (List AV)):∀ l:List AV,AV.frzL id sz rows l=l.map (·.frz id sz rows)
 | []=>rfl
 | a :: l=>by simp [AV.frzL,cP id sz rows l]
def gl (id sz:Nat) (rows:List (List AV)):List (Nat × AV) -> List (Nat × AV)
 | []=>[]
 | (t,av) :: l=>(t,av.frz id sz rows) :: gl id sz rows l
def aE.frz (id sz:Nat) (rows:List (List AV)):aE -> aE
 | .box t cells=>.box t (AV.frzL id sz rows cells)
 | .row e s r=>.row e s r
 | .nest e s r=>.nest e s (r.map (AV.frzL id sz rows))
 | .map ents=>.map ents
 | .ghost vs env=>.ghost vs (gl id sz rows env)
def b9 (id sz:Nat) (rows:List (List AV)):ae -> ae
 | []=>[]
 | (k,o) :: l=>(k,o.map (aE.frz id sz rows)) :: b9 id sz rows l
theorem dk (id sz:Nat) (rows:List (List AV)):∀ (l:ae) (k:Nat),(b9 id sz rows l).get k=(l.get k).map (aE.frz id sz rows)
 | [],k=>by simp [b9,ae.get]
 | (q,o) :: l,k=>by
  simp only [b9,ae.gc];split
  .rfl
  .exact dk id sz rows l k
theorem Kc (id sz:Nat) (rows:List (List AV)) (o:aE):(o.frz id sz rows).sz=o.sz:=by cases o<;>simp [aE.frz,aE.sz,cP]
def ia (st:aj) (id:Nat):aj:=
 match st.tab.get id with
 | some (.row _ sz rows)=>{ st with env:=gl id sz rows st.env,tab:=(id,none) :: b9 id sz rows st.tab }
 | _=>st
def fL (st:aj):List Nat -> aj
 | []=>st
 | id :: ids=>fL (ia st id) ids
def gN:List AV -> List Nat
 | []=>[]
 | .osl id :: l=>id :: gN l
 | _ :: l=>gN l
theorem nl (id sz:Nat) (rows:List (List AV)):∀ (l:List (Nat × AV)) (t:Nat),bh (gl id sz rows l) t=(bh l t).frz id sz rows
 | [],t=>by simp [gl,bh,AV.frz]
 | (k,av) :: l,t=>by
  simp only [gl,bh];split
  .rfl
  .exact nl id sz rows l t
theorem nH {id sz nx:Nat} {rows:List (List AV)}:∀ {av:AV},av.lt nx -> (av.frz id sz rows).lt nx:=by
 intro av
 induction av using AV.rec (motive_2:=fun _=>True) (motive_3:=fun l=>AV.ltL nx l -> AV.ltL nx (AV.frzL id sz rows l))<;>simp_all [AV.lt,AV.ltL,AV.frz,AV.frzL]
 split<;>simp_all [AV.lt]
theorem RF {e:TypeId} {sz:Nat} {v:Value} {rows:List (List AV)} {S:Nat -> Prop} (h:io cx w tab L v (.row e sz rows)) (hS:∀ b,Sx cx w tab L b -> S b) (hg:∀ g,aO v=some g -> S g):RT w S v (.sl sz rows):=by
 obtain ⟨hrow,xs,hown,hone,hx⟩:=h
 have hm:∀ i j row av,rows[i]? = some row -> row[j]? = some av -> (xs[i * sz+j]?.getD undef).oneCell'=true /\ RT w S (xs[i * sz+j]?.getD undef) av /\ ∃ x,xs[i * sz+j]? = some x:=fun i j row av h1 h2=>by
  obtain ⟨x,hx1,hx2⟩:=hx i j row av h1 h2;rw [hx1];exact ⟨hone x (p0 hx1),hx2.mono (fun _ _=>rfl) hS,x,rfl⟩
 rcases hown.2 with ⟨rfl,h0⟩|⟨g,cap,cur,rfl,hb,hgh,hc,hm',_⟩
 .exact .sl none _ 0 sz rows 0 0 (fun i j=>xs[i * sz+j]?.getD undef) h0.symm (Os _) (by omega) (fun h=>by omega) hrow (fun h=>by omega) (fun i j row av h1 h2=>(hm i j row av h1 h2).1) (fun i j row av h1 h2=>(hm i j row av h1 h2).2.1)
 .refine .sl _ _ cap sz rows g 0 (fun i j=>xs[i * sz+j]?.getD undef) rfl hc (by simpa [maxLen] using hm') (fun _=>⟨rfl,hg g rfl⟩) hrow (fun _ i j row av h1 h2=>?_) (fun i j row av h1 h2=>(hm i j row av h1 h2).1) (fun i j row av h1 h2=>(hm i j row av h1 h2).2.1);obtain ⟨x,hx⟩:=(hm i j row av h1 h2).2.2;have:=hown.cells (g:=g) rfl _ x hx;rw [im] at this;rw [hx,WR];exact this
theorem sC {e id sz:Nat} {rows:List (List AV)} (hL:iL cx w tab L) (hy:∀ id o,tab.get id=some o -> o.lt nx) (hid:tab.get id=some (.row e sz rows)) :
  iL cx w ((id,none) :: b9 id sz rows tab) L /\ ∀ x av,bN cx w tab L x av -> av.lt nx -> bN cx w ((id,none) :: b9 id sz rows tab) L x (av.frz id sz rows):=by
  have ht:∀ k,ae.get ((id,none) :: b9 id sz rows tab) k=if k=id then none else (tab.get k).map (aE.frz id sz rows):=fun k=>by rw [ae.gc,dk]
  have hsub:∀ k o,ae.get ((id,none) :: b9 id sz rows tab) k=some o -> k ≠ id /\ ∃ o',tab.get k=some o' /\ o=o'.frz id sz rows:=fun k o hk=>by
   rw [ht] at hk;split at hk
   .cases hk
   .cases hg:tab.get k with
    | none=>simp [hg] at hk
    | some o'=>
     simp [hg] at hk;exact ⟨by assumption,o',rfl,hk.symm⟩
  have hext:mM cx w tab L nx w ((id,none) :: b9 id sz rows tab) L:=by
   refine ⟨fun _ _=>rfl,fun b hb=>⟨hb.1,hb.2.1,fun k o hk=>by obtain ⟨_,o',h1,_⟩:=hsub k o hk;exact hb.2.2 k o' h1⟩,fun k p _ hk=>?_⟩;unfold Kx at *;rw [ht] at hk;split at hk
   .cases hk
   .cases hg:tab.get k with
    | none=>simp [hg] at hk
    | some o'=>
     simp [hg,Kc] at hk ⊢;exact hk
  have hob:=hL.objs id _ hid
  have hrow:RT w (Sx cx w ((id,none) :: b9 id sz rows tab) L) (L id) (.sl sz rows):=RF hob hext.sub fun g hg=>⟨(hob.ge hg).2,⟨.inr (hob.ge hg).1,fun hX=>(hL.ex g hX).2 id _ hid hg⟩,fun k o hk hg'=>by
   obtain ⟨h1,o',h2,_⟩:=hsub k o hk;exact h1 (hL.sep k id o' _ g h2 hid hg' hg)⟩
  have conv:∀ x av,bN cx w tab L x av -> av.lt nx -> bN cx w ((id,none) :: b9 id sz rows tab) L x (av.frz id sz rows):=fun x av hr=>by
   induction hr with
   | tree h0=>
    intro hl
    have e1:∀ {x av},RT w (Sx cx w tab L) x av -> av.frz id sz rows=av:=fun hh=>by
     induction hh with
     | agg xs cs hn hr ih=>
      simp only [AV.frz,cP,AV.agg.injEq];apply V2;intro j;rw [Ve]
      cases hj:cs[j]? with
      | none=>rfl
      | some av=>
       have hlt:j<xs.size:=by rw [hn];exact (Vd.1 hj).1
       simp [ih j _ av (Vj hlt) hj]
     | tup xs cs hn hr ih=>
      simp only [AV.frz,cP,AV.tup.injEq];apply V2;intro j;rw [Ve]
      cases hj:cs[j]? with
      | none=>rfl
      | some av=>
       have hlt:j<xs.size:=by rw [hn];exact (Vd.1 hj).1
       simp [ih j _ av (Vj hlt) hj]
     | fn fi xs cs hn hr ih=>
      simp only [AV.frz,cP,AV.fn.injEq,true_and];apply V2;intro j;rw [Ve]
      cases hj:cs[j]? with
      | none=>rfl
      | some av=>
       have hlt:j<xs.size:=by rw [hn];exact (Vd.1 hj).1
       simp [ih j _ av (Vj hlt) hj]
     | bfn fi xs cs hn hr ih=>
      simp only [AV.frz,cP,AV.bfn.injEq,true_and];apply V2;intro j;rw [Ve]
      cases hj:cs[j]? with
      | none=>rfl
      | some av=>
       have hlt:j<xs.size:=by rw [hn];exact (Vd.1 hj).1
       simp [ih j _ av (Vj hlt) hj]
     | _=>simp [AV.frz]
    rw [e1 h0];exact .tree (hext.rt h0)
   | osl x k hk=>
    intro hl;simp only [AV.frz];split
    .rename_i e1;subst e1;rw [hk _ _ (cQ hid)];exact .tree hrow
    .exact hext.rv (.osl x k hk) hl
   | op x k i j hk=>
    intro hl;exact hext.rv (.op x k i j hk) hl
   | agg xs cs hn hr ih=>
    intro hl;simp only [AV.frz,cP];refine .agg xs _ (by simpa using hn) fun j x av h1 h2=>?_;rw [Ve] at h2
    cases hj:cs[j]? with
    | none=>simp [hj] at h2
    | some av'=>
     simp [hj] at h2;subst h2;exact ih j x av' h1 hj (ak.1 hl _ (p0 hj))
   | tup xs cs hn hr ih=>
    intro hl;simp only [AV.frz,cP];refine .tup xs _ (by simpa using hn) fun j x av h1 h2=>?_;rw [Ve] at h2
    cases hj:cs[j]? with
    | none=>simp [hj] at h2
    | some av'=>
     simp [hj] at h2;subst h2;exact ih j x av' h1 hj (ak.1 hl _ (p0 hj))
   | fn fi xs cs hn hr ih=>
    intro hl;simp only [AV.frz,cP];refine .fn fi xs _ (by simpa using hn) fun j x av h1 h2=>?_;rw [Ve] at h2
    cases hj:cs[j]? with
    | none=>simp [hj] at h2
    | some av'=>
     simp [hj] at h2;subst h2;exact ih j x av' h1 hj (ak.1 hl _ (p0 hj))
   | bfn fi xs cs hn hr ih=>
    intro hl;simp only [AV.frz,cP];refine .bfn fi xs _ (by simpa using hn) fun j x av h1 h2=>?_;rw [Ve] at h2
    cases hj:cs[j]? with
    | none=>simp [hj] at h2
    | some av'=>
     simp [hj] at h2;subst h2;exact ih j x av' h1 hj (ak.1 hl _ (p0 hj))
  refine ⟨⟨hL.below,fun k o hk=>?_,fun k k' o o' g h1 h2=>?_,fun b hb'=>⟨(hL.ex b hb').1,fun k o hk=>?_⟩⟩,conv⟩
  rotate_left 2
  .obtain ⟨_,o',h1,_⟩:=hsub k o hk;exact (hL.ex b hb').2 k o' h1
  .obtain ⟨_,o',h1,rfl⟩:=hsub k o hk;have ho:=hL.objs k o' h1;have hlo:=hy k o' h1
   cases o' with
   | row e' s r=>exact hext.obj ho hlo fun _ _=>rfl
   | box t cells=>
    obtain ⟨g,cs,h2,h3,h4,h5,h6⟩:=ho;refine ⟨g,cs,h2,h3,h4,by simpa [cP] using h5,fun j x av h7 h8=>?_⟩;rw [cP,Ve] at h8
    cases hj:cells[j]? with
    | none=>simp [hj] at h8
    | some av'=>
     simp [hj] at h8;subst h8;exact ⟨conv x av' (h6 j x av' h7 hj).1 (ak.1 hlo _ (p0 hj)),(h6 j x av' h7 hj).2⟩
   | map ents=>exact hext.obj (o:=.map ents) ho hlo fun _ _=>rfl
   | nest e' s r=>
    obtain ⟨h2,xs,h3,h4,h5⟩:=ho;refine ⟨fun row hr=>?_,xs,by simpa using h3,h4,fun i j row av h7 h8=>?_⟩
    .obtain ⟨row',hr',rfl⟩:=Vt.1 hr;rw [cP,Vo];exact h2 row' hr'
    .rw [Ve] at h7
     cases hi:r[i]? with
     | none=>simp [hi] at h7
     | some row'=>
      simp [hi] at h7;subst h7;rw [cP,Ve] at h8
      cases hj:row'[j]? with
      | none=>simp [hj] at h8
      | some av'=>
       simp [hj] at h8;subst h8;obtain ⟨x,h9,h10⟩:=h5 i j row' av' hi hj;exact ⟨x,h9,conv x av' h10 (ak.1 (hlo row' (p0 hi)) _ (p0 hj))⟩
   | ghost vs env=>
    refine ⟨ho.1,fun t ht=>?_⟩;rw [nl];exact conv _ _ (ho.2 t ht) (fU hlo t)
  .obtain ⟨_,o1,h3,_⟩:=hsub k o h1;obtain ⟨_,o2,h4,_⟩:=hsub k' o' h2;exact hL.sep k k' o1 o2 g h3 h4
theorem uG {id sz nx:Nat} {rows:List (List AV)}:∀ {l:List (Nat × AV)},dD nx l -> dD nx (gl id sz rows l)
 | [],_=>trivial
 | (_,_) :: _,h=>⟨nH h.1,uG h.2⟩
theorem ng {id sz nx:Nat} {rows:List (List AV)} {o:aE} (h:o.lt nx):(o.frz id sz rows).lt nx:=by
 cases o with
 | row=>trivial
 | box t cells=>
  show AV.ltL nx _;rw [cP];refine ak.2 fun a ha=>?_;obtain ⟨b,hb,rfl⟩:=Vt.1 ha;exact nH (ak.1 h b hb)
 | map=>trivial
 | nest e s r=>
  intro row hr;obtain ⟨row',hr',rfl⟩:=Vt.1 hr;rw [cP];refine ak.2 fun a ha=>?_;obtain ⟨b,hb,rfl⟩:=Vt.1 ha;exact nH (ak.1 (h row' hr') b hb)
 | ghost vs env=>exact uG h
def uK (st:aj) (id:Nat) (av:AV):AV:=
 match st.tab.get id with
 | some (.row _ sz rows)=>av.frz id sz rows
 | _=>av
theorem pH (h:aJ cx a w st L) (id:Nat):aJ cx a w (ia st id) L /\ ∀ x av,bN cx w st.tab L x av -> av.lt st.next -> bN cx w (ia st id).tab L x (uK st id av) /\ (uK st id av).lt (ia st id).next:=by
 unfold ia uK;split
 .rename_i e sz rows hid;obtain ⟨h1,h2⟩:=sC h.lay (fun k o hk=>(h.young k o hk).2) hid;refine ⟨⟨h1,h.size,h.defers.mono (fun _ _=>rfl) fun b hb=>⟨hb.1,hb.2.1,fun k o hk=>?_⟩,fun k o hk=>?_,fun t=>?_⟩,fun x av h3 h4=>⟨h2 x av h3 h4,nH h4⟩⟩
  .rw [ae.gc,dk] at hk;split at hk
   .cases hk
   .cases hg:st.tab.get k with
    | none=>simp [hg] at hk
    | some o'=>exact hb.2.2 k o' hg
  .simp only [ae.gc,dk] at hk;split at hk
   .cases hk
   .cases hg:st.tab.get k with
    | none=>simp [hg] at hk
    | some o'=>
     simp [hg] at hk;subst hk;exact ⟨(h.young k o' hg).1,ng (h.young k o' hg).2⟩
  .have e1:({ st with env:=gl id sz rows st.env,tab:=(id,none) :: b9 id sz rows st.tab }:aj).get t=(st.get t).frz id sz rows:=by
    unfold aj.get;simp only;split
    .exact nl ..
    .simp [AV.frz]
   rw [e1];exact ⟨h2 _ _ (h.env t).1 (h.env t).2,nH (h.env t).2⟩
 .exact ⟨h,fun x av h1 h2=>⟨h1,h2⟩⟩
def iw (st:aj):List Nat -> List AV -> List AV
 | [],l=>l
 | id :: ids,l=>iw (ia st id) ids (l.map (uK st id))
theorem f9:∀ (ids:List Nat) {st:aj},aJ cx a w st L -> aJ cx a w (fL st ids) L
 | [],_,h=>h
 | id :: ids,_,h=>f9 ids (pH h id).1
theorem mH:∀ (ids:List Nat) {st:aj} {vs:Array Value} {avs:List AV},aJ cx a w st L -> (∀ (j:Nat) (v:Value) (av:AV),vs[j]? = some v -> avs[j]? = some av -> bN cx w st.tab L v av /\ av.lt st.next) ->
  (iw st ids avs).length=avs.length /\ ∀ (j:Nat) (v:Value) (av:AV),vs[j]? = some v -> (iw st ids avs)[j]? = some av -> bN cx w (fL st ids).tab L v av /\ av.lt (fL st ids).next
 | [],_,_,_,_,hv=>⟨rfl,hv⟩
 | id :: ids,st,vs,avs,h,hv=>by
  have h1:=pH h id
  obtain ⟨h2,h3⟩:=mH ids (vs:=vs) (avs:=avs.map (uK st id)) h1.1 fun j v av h4 h5=>by
   rw [Ve] at h5
   cases hj:avs[j]? with
   | none=>simp [hj] at h5
   | some av'=>
    simp [hj] at h5;subst h5;exact h1.2 v av' (hv j v av' h4 hj).1 (hv j v av' h4 hj).2
  exact ⟨by rw [iw,h2,Vo],h3⟩
def zT:AV -> Prop
 | .fn _ cs=>aM cs
 | .bfn _ cs=>aM cs
 | a=>aU a
def k7:List AV -> Prop
 | []=>True
 | a :: l=>zT a /\ k7 l
theorem kA:∀ {l:List AV} {a:AV},k7 l -> a ∈ l -> zT a
 | b :: l,a,h,hm=>(V8.1 hm).elim (fun e=>e ▸ h.1) fun h2=>kA h.2 h2
theorem OX {v:Value}:zT (.c v)=True:=rfl
theorem Ji {sz:Nat} {rows:List (List AV)}:zT (.sl sz rows)=True:=rfl
theorem sy {x:Value} {av:AV} (h:bN cx w tab L x av) (ht:zT av):RT w (Sx cx w tab L) x av:=by
 cases av with
 | fn f cs=>
  obtain ⟨xs,rfl,hn,hr⟩:=h.fn_inv;exact .fn f xs cs hn fun j x av h1 h2=>dP (hr j x av h1 h2) (d8.1 ht _ (p0 h2))
 | bfn f cs=>
  obtain ⟨xs,rfl,hn,hr⟩:=h.bfn_inv;exact .bfn f xs cs hn fun j x av h1 h2=>dP (hr j x av h1 h2) (d8.1 ht _ (p0 h2))
 | _=>exact dP h ht
def zq (tab:ae) (sz:Nat):List AV -> Prop
 | []=>True
 | x :: l=>(ar x).length=sz /\ fa tab (ar x) /\ k7 (ar x) /\ zq tab sz l
theorem Al {sz:Nat}:∀ {l:List AV},zq tab sz l ↔ ∀ x ∈ l,(ar x).length=sz /\ fa tab (ar x) /\ k7 (ar x)
 | []=>by simp [zq]
 | x :: l=>by simp [zq,Al (l:=l),and_assoc]
theorem jK {t e sz by_:Nat} {parts:List (Nat × Operand)} (h:aJ cx a w st L) (ht:dn P t=some (e,sz,by_)) (hp:parts.map (·.1)=List.range' 0 parts.length) (hlen:parts.length * sz<=16777216)
  (hl:zq st.tab sz (parts.map fun p=>bj st p.2)) (dst:Option Nat) :
  ∃ v' w' L',(Instr.buildSlice t parts.length (parts.toArray.map fun (p:Nat × Operand)=>(p.1,a.eval p.2))).run P w=.ok v' w' /\
   aJ cx (a.put dst v') w' ({ st with tab:=(st.next,some (.row e sz (parts.map fun (p:Nat × Operand)=>ar (bj st p.2)))) :: st.tab,next:=st.next+1 }.put dst (.osl st.next)) L' /\
   Below w.heap.size w w' /\ L'=bq L st.next v' /\ aO v'=some w.heap.size:=by
 obtain ⟨i,z,hund,hi,hz,hs,hb,hzs,hsz⟩:=gR ht;have hl':=Al.1 hl
 have hcell:∀ p ∈ parts,(a.eval p.2).cells.size=sz /\ ∀ (j:Nat) (x:Value) (av:AV),(a.eval p.2).cells[j]? = some x -> (ar (bj st p.2))[j]? = some av -> bN cx w st.tab L x av /\ x.oneCell'=true:=fun p hp'=>by
  have hm:=hl' (bj st p.2) (Vt.2 ⟨p,hp',rfl⟩);have he:=am h p.2;have:=ib h.lay he.1 he.2 hm.2.1;exact ⟨this.1.trans hm.1,this.2.2⟩
 obtain ⟨c,hc1,hc2⟩:=sT sz (parts.map fun p=>(p.1,a.eval p.2)) 0 ((Array.range (parts.length * sz)).map (z.cells[· % z.cells.size]!)) (by simpa [XC,Function.comp_def] using hp) (fun p hp'=>by
  simp at hp';obtain ⟨i',o',hio,rfl⟩:=hp';exact (hcell _ hio).1) (by simp)
 simp only [Xf,VA,WT,List.flatMap_map] at hc2
 have hrun:(Instr.buildSlice t parts.length (parts.toArray.map fun (p:Nat × Operand)=>(p.1,a.eval p.2))).run P w=.ok (.slice (some ⟨w.heap.size,0,none⟩) parts.length parts.length) (w.alloc (.cells c e)):=by
  have hnb:¬ (2 ^ 24<parts.length * sz):=by omega
  rcases Nat.eq_zero_or_pos parts.length with h0|hpos
  .have:parts=[]:=WL.1 h0;subst this
   have hce:c = #[]:=by
    rw [Wl] at hc2;exact Array.toList_eq_nil_iff.1 hc2
   subst hce;simp [Instr.buildSlice,Sem.run_bind,run_underlying hund,sizeOf,typeInfo,hi,hs,zeroValue,hz,newRow,Instr.fill]
   congr 2
   exact Array.eq_empty_of_size_eq_zero (by simp)
  have hne:¬ parts.length * sz=0:=by
   intro e;rcases Nat.mul_eq_zero.1 e with e|e<;>omega
  simp [Instr.buildSlice,Sem.run_bind,run_underlying hund,sizeOf,typeInfo,hi,hs,hne,zeroValue,hz,newRow];rw [Vh (by omega)];simp [hzs] at hc1;simp [hzs,hc1]
 have hflat:∀ (i j:Nat) (hi':i<parts.length),j<sz -> c[i * sz+j]? = (a.eval parts[i].2).cells[j]?:=fun i j hi' hj=>by
  have:=lE (fun p:Nat × Operand=>(a.eval p.2).cells.toList) sz parts (fun p hp'=>by simpa using (hcell p hp').1) i j hi' hj;rw [<- Wd,hc2,this];simp
 have hcs:c.size=parts.length * sz:=by
  rw [<- Wc,hc2];exact ow _ _ _ fun p hp'=>by simpa using (hcell p hp').1
 have hrl:(parts.map fun p=>ar (bj st p.2)).length=parts.length:=by simp
 suffices hs:aJ cx (a.put dst (.slice (some ⟨w.heap.size,0,none⟩) (parts.map fun (p:Nat × Operand)=>ar (bj st p.2)).length (parts.map fun (p:Nat × Operand)=>ar (bj st p.2)).length)) (w.alloc (.cells c e)) ({ st with tab:=(st.next,some (.row e sz (parts.map fun (p:Nat × Operand)=>ar (bj st p.2)))) :: st.tab,next:=st.next+1 }.put dst (.osl st.next)) (bq L st.next (.slice (some ⟨w.heap.size,0,none⟩) (parts.map fun (p:Nat × Operand)=>ar (bj st p.2)).length (parts.map fun (p:Nat × Operand)=>ar (bj st p.2)).length)) by
  rw [hrl] at hs;exact ⟨_,_,_,hrun,hs,(Below.refl _ _).alloc (Os _) _,rfl,rfl⟩
 refine zi (t:=t) (by_:=by_) h hsz (fun row hr=>?_) (by rw [hrl];exact hcs) (by rw [hrl];have:parts.length<=parts.length * sz:=Nat.le_mul_of_pos_right _ hsz;omega) (fun x hx=>?_) (fun i j row av ha hb=>?_) dst
 .obtain ⟨p,hp',rfl⟩:=Vt.1 hr;exact (hl' _ (Vt.2 ⟨p,hp',rfl⟩)).1
 .rw [<- Array.mem_toList_iff,hc2] at hx;obtain ⟨p,hp',hx⟩:=V6.1 hx;obtain ⟨k,hk,rfl⟩:=VB hx;have hsz':=hcell p hp'
  have hk':k<(ar (bj st p.2)).length:=by
   rw [(hl' _ (Vt.2 ⟨p,hp',rfl⟩)).1];simp at hk;omega
  simp at hk;exact (hsz'.2 k _ _ (Vj hk) (f4 hk')).2
 .rw [Ve] at ha
  have hi':i<parts.length:=by
   rcases Vv i parts.length with hlt|hge
   .exact hlt
   .rw [Vs hge] at ha;cases ha
  rw [f4 hi'] at ha;simp only [VX,W8] at ha;subst ha;have hm:=hl' _ (Vt.2 ⟨_,Vf hi',rfl⟩);have hj:j<sz:=by rw [<- hm.1];exact (Vd.1 hb).1
  have hc:=hcell _ (Vf hi');have hjc:j<(a.eval parts[i].2).cells.size:=by omega
  exact ⟨_,by rw [hflat i j hi' hj];exact Vj hjc,sy (hc.2 j _ _ (Vj hjc) hb).1 (kA hm.2.2 (p0 hb))⟩
def qJ (tab:ae) (sz:Nat):List AV -> Prop
 | []=>True
 | x :: l=>(ar x).length=sz /\ fa tab (ar x) /\ qJ tab sz l
theorem vH {sz:Nat}:∀ {l:List AV},qJ tab sz l ↔ ∀ x ∈ l,(ar x).length=sz /\ fa tab (ar x)
 | []=>by simp [qJ]
 | x :: l=>by simp [qJ,vH (l:=l),and_assoc]
theorem pP {t e sz by_:Nat} {parts:List (Nat × Operand)} (h:aJ cx a w st L) (ht:dn P t=some (e,sz,by_)) (hp:parts.map (·.1)=List.range' 0 parts.length) (hlen:parts.length * sz<=16777216)
  (hl:qJ st.tab sz (parts.map fun p=>bj st p.2)) (dst:Option Nat) :
  ∃ v' w' L',(Instr.buildSlice t parts.length (parts.toArray.map fun (p:Nat × Operand)=>(p.1,a.eval p.2))).run P w=.ok v' w' /\
   aJ cx (a.put dst v') w' ({ st with tab:=(st.next,some (.nest e sz (parts.map fun (p:Nat × Operand)=>ar (bj st p.2)))) :: st.tab,next:=st.next+1 }.put dst (.osl st.next)) L' /\
   Below w.heap.size w w' /\ L'=bq L st.next v' /\ aO v'=some w.heap.size:=by
 obtain ⟨i,z,hund,hi,hz,hs,hb,hzs,hsz⟩:=gR ht;have hl':=vH.1 hl
 have hcell:∀ p ∈ parts,(a.eval p.2).cells.size=sz /\ ∀ (j:Nat) (x:Value) (av:AV),(a.eval p.2).cells[j]? = some x -> (ar (bj st p.2))[j]? = some av -> bN cx w st.tab L x av /\ x.oneCell'=true:=fun p hp'=>by
  have hm:=hl' (bj st p.2) (Vt.2 ⟨p,hp',rfl⟩);have he:=am h p.2;have:=ib h.lay he.1 he.2 hm.2;exact ⟨this.1.trans hm.1,this.2.2⟩
 have hltp:∀ p ∈ parts,AV.ltL st.next (ar (bj st p.2)):=fun p hp'=>by
  have hm:=hl' (bj st p.2) (Vt.2 ⟨p,hp',rfl⟩);have he:=am h p.2;exact (ib h.lay he.1 he.2 hm.2).2.1
 obtain ⟨c,hc1,hc2⟩:=sT sz (parts.map fun p=>(p.1,a.eval p.2)) 0 ((Array.range (parts.length * sz)).map (z.cells[· % z.cells.size]!)) (by simpa [XC,Function.comp_def] using hp) (fun p hp'=>by
  simp at hp';obtain ⟨i',o',hio,rfl⟩:=hp';exact (hcell _ hio).1) (by simp)
 simp only [Xf,VA,WT,List.flatMap_map] at hc2
 have hrun:(Instr.buildSlice t parts.length (parts.toArray.map fun (p:Nat × Operand)=>(p.1,a.eval p.2))).run P w=.ok (.slice (some ⟨w.heap.size,0,none⟩) parts.length parts.length) (w.alloc (.cells c e)):=by
  have hnb:¬ (2 ^ 24<parts.length * sz):=by omega
  rcases Nat.eq_zero_or_pos parts.length with h0|hpos
  .have:parts=[]:=WL.1 h0;subst this
   have hce:c = #[]:=by
    rw [Wl] at hc2;exact Array.toList_eq_nil_iff.1 hc2
   subst hce;simp [Instr.buildSlice,Sem.run_bind,run_underlying hund,sizeOf,typeInfo,hi,hs,zeroValue,hz,newRow,Instr.fill]
   congr 2
   exact Array.eq_empty_of_size_eq_zero (by simp)
  have hne:¬ parts.length * sz=0:=by
   intro e;rcases Nat.mul_eq_zero.1 e with e|e<;>omega
  simp [Instr.buildSlice,Sem.run_bind,run_underlying hund,sizeOf,typeInfo,hi,hs,hne,zeroValue,hz,newRow];rw [Vh (by omega)];simp [hzs] at hc1;simp [hzs,hc1]
 have hflat:∀ (i j:Nat) (hi':i<parts.length),j<sz -> c[i * sz+j]? = (a.eval parts[i].2).cells[j]?:=fun i j hi' hj=>by
  have:=lE (fun p:Nat × Operand=>(a.eval p.2).cells.toList) sz parts (fun p hp'=>by simpa using (hcell p hp').1) i j hi' hj;rw [<- Wd,hc2,this];simp
 have hcs:c.size=parts.length * sz:=by
  rw [<- Wc,hc2];exact ow _ _ _ fun p hp'=>by simpa using (hcell p hp').1
 have hrl:(parts.map fun p=>ar (bj st p.2)).length=parts.length:=by simp
 suffices hs:aJ cx (a.put dst (.slice (some ⟨w.heap.size,0,none⟩) (parts.map fun (p:Nat × Operand)=>ar (bj st p.2)).length (parts.map fun (p:Nat × Operand)=>ar (bj st p.2)).length)) (w.alloc (.cells c e)) ({ st with tab:=(st.next,some (.nest e sz (parts.map fun (p:Nat × Operand)=>ar (bj st p.2)))) :: st.tab,next:=st.next+1 }.put dst (.osl st.next)) (bq L st.next (.slice (some ⟨w.heap.size,0,none⟩) (parts.map fun (p:Nat × Operand)=>ar (bj st p.2)).length (parts.map fun (p:Nat × Operand)=>ar (bj st p.2)).length)) by
  rw [hrl] at hs;exact ⟨_,_,_,hrun,hs,(Below.refl _ _).alloc (Os _) _,rfl,rfl⟩
 refine uV (t:=t) (by_:=by_) h hsz (fun row hr=>?_) (by rw [hrl];exact hcs) (by rw [hrl];have:parts.length<=parts.length * sz:=Nat.le_mul_of_pos_right _ hsz;omega) (fun x hx=>?_) (fun i j row av ha hb=>?_) (fun row hr=>by
  obtain ⟨p,hp',rfl⟩:=Vt.1 hr;exact hltp p hp') dst
 .obtain ⟨p,hp',rfl⟩:=Vt.1 hr;exact (hl' _ (Vt.2 ⟨p,hp',rfl⟩)).1
 .rw [<- Array.mem_toList_iff,hc2] at hx;obtain ⟨p,hp',hx⟩:=V6.1 hx;obtain ⟨k,hk,rfl⟩:=VB hx;have hsz':=hcell p hp'
  have hk':k<(ar (bj st p.2)).length:=by
   rw [(hl' _ (Vt.2 ⟨p,hp',rfl⟩)).1];simp at hk;omega
  simp at hk;exact (hsz'.2 k _ _ (Vj hk) (f4 hk')).2
 .rw [Ve] at ha
  have hi':i<parts.length:=by
   rcases Vv i parts.length with hlt|hge
   .exact hlt
   .rw [Vs hge] at ha;cases ha
  rw [f4 hi'] at ha;simp only [VX,W8] at ha;subst ha;have hm:=hl' _ (Vt.2 ⟨_,Vf hi',rfl⟩);have hj:j<sz:=by rw [<- hm.1];exact (Vd.1 hb).1
  have hc:=hcell _ (Vf hi');have hjc:j<(a.eval parts[i].2).cells.size:=by omega
  exact ⟨_,by rw [hflat i j hi' hj];exact Vj hjc,(hc.2 j _ _ (Vj hjc) hb).1⟩
theorem zA (z:Array Value) (n k:Nat) (h:k<n):(madeCells z n)[k]? = some (z[k % z.size]!):=by
 simp [madeCells,h]
theorem NV (b:Bool) {t e sz by_:Nat} (h:aJ cx a w st L) (h0:0<sz) {cells:Array Value} {rows:List (List AV)} (hr:∀ row ∈ rows,row.length=sz) (hn:cells.size=rows.length * sz) (hm:rows.length<=9223372036854775807) (h1:∀ x ∈ cells,x.oneCell'=true)
  (hx:∀ (i j:Nat) (row:List AV) (av:AV),rows[i]? = some row -> row[j]? = some av -> ∃ x,cells[i * sz+j]? = some x /\ RT w (Sx cx w st.tab L) x av) (dst:Option Nat) :
  aJ cx (a.put dst (.slice (some ⟨w.heap.size,0,none⟩) rows.length rows.length)) (w.alloc (.cells cells e)) ({ st with tab:=(st.next,some (Tm b e sz rows)) :: st.tab,next:=st.next+1 }.put dst (.osl st.next)) (bq L st.next (.slice (some ⟨w.heap.size,0,none⟩) rows.length rows.length)):=by
 cases b with
 | false=>exact zi (t:=t) (by_:=by_) h h0 hr hn hm h1 hx dst
 | true=>exact uV (t:=t) (by_:=by_) h h0 hr hn hm h1 (fun i j row av ha hb=>(hx i j row av ha hb).elim fun x hx=>⟨x,hx.1,.tree hx.2⟩) (fun row hr'=>ak.2 fun av ha=>by
   obtain ⟨i,hi⟩:=V7 hr';obtain ⟨j,hj⟩:=V7 ha;obtain ⟨x,_,hx⟩:=hx i j row av hi hj;exact hx.lt _) dst
theorem wm {t e sz by_:Nat} {z:Value} {n:Int} {k1 k2:IntKind} (h:aJ cx a w st L) (ht:dn P t=some (e,sz,by_)) (hz:bW P e=some z) (h1:fa [] (ar (.c z))) (h0:0<=n) (hn:n<=16777216) (hb:(by_:Int) * n<=281474976710656) (dst:Option Nat) :
  ∃ v' w' L',(Instr.makeSlice t (.int k1 n) (.int k2 n)).run P w=.ok v' w' /\
   aJ cx (a.put dst v') w' ({ st with tab:=(st.next,some (Tm (AK t) e sz (List.replicate n.toNat (ar (.c z))))) :: st.tab,next:=st.next+1 }.put dst (.osl st.next)) L' /\ Below w.heap.size w w' /\ L'=bq L st.next v' /\ aO v'=some w.heap.size:=by
 obtain ⟨i,z',hund,hi,hz',hs,hby,hzs,hsz⟩:=gR ht;have:z'=z:=by simpa [bW,hi,hz'] using hz
 subst this;have hrun:=run_make (P:=P) w t e i z' hund hi hz' k1 k2 n n h0 (Xn _) (by rw [hby];exact hb) (by omega);have hcl:(ar (.c z')).length=sz:=by simp [ar,hzs]
 have hrl:(List.replicate n.toNat (ar (.c z'))).length=n.toNat:=by simp
 suffices hs2:aJ cx (a.put dst (.slice (some ⟨w.heap.size,0,none⟩) (List.replicate n.toNat (ar (.c z'))).length (List.replicate n.toNat (ar (.c z'))).length)) (w.alloc (.cells (madeCells z'.cells (n.toNat * i.size)) e)) ({ st with tab:=(st.next,some (Tm (AK t) e sz (List.replicate n.toNat (ar (.c z'))))) :: st.tab,next:=st.next+1 }.put dst (.osl st.next)) (bq L st.next (.slice (some ⟨w.heap.size,0,none⟩) (List.replicate n.toNat (ar (.c z'))).length (List.replicate n.toNat (ar (.c z'))).length)) by
  rw [hrl] at hs2;exact ⟨_,_,_,hrun,hs2,(Below.refl _ _).alloc (Os _) _,rfl,rfl⟩
 have hzone:∀ k,k<sz -> (z'.cells[k]!).oneCell'=true:=fun k hk=>by
  have hk':k<z'.cells.size:=by omega
  have:=mp.1 h1 (.c z'.cells[k]) (Vt.2 ⟨z'.cells[k],by simp,rfl⟩);rw [getElem!_pos z'.cells k hk'];exact this
 refine NV (AK t) (t:=t) (by_:=by_) h hsz (fun row hr=>?_) (by rw [hrl,size_madeCells,hs]) (by rw [hrl];omega) (fun x hx=>?_) (fun i' j row av ha hb=>?_) dst
 .rw [List.eq_of_mem_replicate hr,hcl]
 .obtain ⟨k,hk,rfl⟩:=Array.getElem_of_mem hx;have hk':k<n.toNat * i.size:=by simpa [size_madeCells] using hk
  have:=zA z'.cells (n.toNat * i.size) k hk';rw [Vj hk] at this;rw [WE this];exact hzone _ (by rw [hzs];exact Nat.mod_lt _ hsz)
 .have hi':i'<n.toNat:=by
   have:=(Vd.1 ha).1;simpa using this
  rw [W9,Vn hi'] at ha;cases ha;have hj:j<sz:=by rw [<- hcl];exact (Vd.1 hb).1
  have hlt:i' * sz+j<n.toNat * sz:=by
   have:=VD sz (show i'+1<=n.toNat from hi');rw [We] at this;omega
  have e2:(i' * sz+j) % sz=j:=by rw [Nat.add_comm,Nat.add_mul_mod_self_right,Nat.mod_eq_of_lt hj]
  refine ⟨_,by rw [hs];exact zA _ _ _ hlt,?_⟩;rw [hzs,e2];have hj':j<z'.cells.size:=by omega
  simp only [ar,Ve,Wd,Vj hj',VX,W8] at hb;subst hb;rw [getElem!_pos z'.cells j hj'];exact .c _
theorem kN {t e sz:Nat} {p v:Value} {id i j:Nat} {rows:List (List AV)} {av:AV} (h:aJ cx a w st L) (hp:bN cx w st.tab L p (.op id i j)) (hid:st.tab.get id=some (.row e sz rows)) (hv:bN cx w st.tab L v av) (hl:av.lt st.next)
  (hi:i<rows.length) (h0:0<aq P t) (hs:(ar av).length=aq P t) (ho:j+aq P t<=sz) (h1:fa st.tab (ar av)) (h2:aM (ar av)) (dst:Option Nat) :
  ∃ w',(Instr.storeAt t p v).run P w=.ok () w' /\ aJ cx (a.put dst undef) w' ({ st with tab:=(id,some (.row e sz (rows.set i ((rows[i]?.getD []).take j ++ ar av ++ (rows[i]?.getD []).drop (j+aq P t))))) :: st.tab }.put dst .any) L /\
   w'.heap.size=w.heap.size /\ ∀ k,aO (L id) ≠ some k -> w'.heap[k]? = w.heap[k]?:=by
 obtain ⟨hn,hlt,hc⟩:=ib h.lay hv hl h1;obtain ⟨g,hg,rfl⟩:=hp.op_inv _ _ (cQ hid);obtain ⟨hrow,xs,hown,hone,hx⟩:=h.lay.objs id _ hid;simp only [aE.sz] at hg ⊢;rw [f4 hi,VH];have hri:rows[i].length=sz:=hrow _ (Vf hi);rcases hown.2 with ⟨hL,hz⟩|⟨g',cap,cur,hL,hbg,hheap,hcap,hcm,hcs,htake⟩
 .omega
 have hgg:g=g':=by
  rw [hL] at hg;simpa [aO] using hg.symm
 subst hgg
 have hmul:i * sz+sz<=rows.length * sz:=by
  have:=VD sz (show i+1<=rows.length from hi);rw [We] at this;omega
 have hcapm:rows.length * sz<=cap * sz:=VD _ hcap;have hvl:v.cells.toList.length=aq P t:=by simp [hn,hs]
 have hget:=eL cur.toList (i * sz+j) v.cells.toList (by simp only [Wc,hcs];omega);rw [hvl] at hget;refine ⟨_,kY h0 (by omega) hheap (by omega) (fun x hx'=>?_),?_,by simp,fun k hk=>setRow_other w g k _ fun e=>hk (by rw [e];exact hg)⟩
 .obtain ⟨k,hk,rfl⟩:=Array.getElem_of_mem hx';have hk':k<(ar av).length:=by omega
  exact (hc k _ _ (Vj hk) (f4 hk')).2
 have hxs:∀ k,k<rows.length * sz -> xs[k]? = cur.toList[k]?:=fun k hk=>by
  rw [<- htake,V0,Vn hk]
 have hrl:(rows[i].take j ++ ar av ++ rows[i].drop (j+aq P t)).length=sz:=by
  simp only [Vi,Vr,Wa];omega
 refine nW (o':=.row e sz (rows.set i (rows[i].take j ++ ar av ++ rows[i].drop (j+aq P t)))) h hid hg rfl (fun k hk=>setRow_other w g k _ hk) ?_ (by simp) (fun hext=>⟨fun row hr=>?_,(cur.toList.take (i * sz+j) ++ v.cells.toList ++ cur.toList.drop (i * sz+j+aq P t)).take (rows.length * sz),?_,fun x hx'=>?_,fun i' j' row av' h3 h4=>?_⟩) trivial dst
 .exact ⟨h.lay.below.os,h.lay.below.tape,h.lay.below.output,by simpa using h.lay.below.size,fun k hk hX=>(setRow_other w g k _ (by omega)).trans (h.lay.below.block k hk hX)⟩
 .rcases Wj hr with hr | rfl
  .exact hrow row hr
  .exact hrl
 .rw [VS];refine ⟨?_,.inr ⟨g,cap,_,hL,hbg,setRow_heap w g cur _ e (0,0) hheap,hcap,hcm,?_,rfl⟩⟩
  .simp only [Vr,Vi,Wa,Wc,hcs,hn,hs];omega
  .simp only [Xm,Vi,Vr,Wa,Wc,hcs,hn,hs];omega
 .obtain ⟨k,hk⟩:=V7 hx';rw [V0] at hk;split at hk
  .rename_i hkl;rw [hget] at hk;split at hk
   .rename_i hr;have hk':k - (i * sz+j)<(ar av).length:=(by omega);exact (hc _ x _ (by simpa using hk) (f4 hk')).2
   .exact hone x (p0 ((hxs k hkl).trans hk))
  .cases hk
 .rw [Wz] at h3;split at h3
  .rename_i e1;subst e1
   first|rw [Vn hi] at h3|skip
   cases h3;have hj':j'<sz:=by rw [<- hrl];exact (Vd.1 h4).1
   have h4':=eL rows[i] j (ar av) (by omega) j';rw [hs] at h4';rw [h4'] at h4;have hki:i * sz+j'<rows.length * sz:=(by omega);rw [V0,Vn hki,hget];split at h4
   .rename_i hr;rw [Vn (by omega)];rw [show i * sz+j' - (i * sz+j)=j' - j by omega];have hk':j' - j<v.cells.size:=(by omega);refine ⟨v.cells[j' - j],by simp [hk'],hext.rt (dP (hc _ _ av' (Vj hk') h4).1 (d8.1 h2 _ (p0 h4)))⟩
   .rename_i hr;rw [Vh (by omega)];obtain ⟨x,hx1,hx2⟩:=hx i j' _ av' (f4 hi) h4;exact ⟨x,by rw [<- hxs _ hki];exact hx1,hext.rt hx2⟩
  .rename_i hne;have hi2:i'<rows.length:=(Vd.1 h3).1;have hj':j'<sz:=by rw [<- hrow row (p0 h3)];exact (Vd.1 h4).1
   have hki:i' * sz+j'<rows.length * sz:=by
    have:=VD sz (show i'+1<=rows.length from hi2);rw [We] at this;omega
   obtain ⟨x,hx1,hx2⟩:=hx i' j' row av' h3 h4;refine ⟨x,?_,hext.rt hx2⟩;rw [V0,Vn hki,hget,Vh,<- hxs _ hki]
   .exact hx1
   .intro hr;rcases Xa i i' with hlt'|he|hlt'
    .have:=VD sz (show i+1<=i' from hlt');rw [We] at this;omega
    .exact hne he
    .have:=VD sz (show i'+1<=i from hlt');rw [We] at this;omega
theorem jI {t e sz:Nat} {p v:Value} {id i j:Nat} {rows:List (List AV)} {av:AV} (h:aJ cx a w st L) (hp:bN cx w st.tab L p (.op id i j)) (hid:st.tab.get id=some (.nest e sz rows)) (hv:bN cx w st.tab L v av) (hl:av.lt st.next)
  (hi:i<rows.length) (h0:0<aq P t) (hs:(ar av).length=aq P t) (ho:j+aq P t<=sz) (h1:fa st.tab (ar av)) (dst:Option Nat) :
  ∃ w',(Instr.storeAt t p v).run P w=.ok () w' /\ aJ cx (a.put dst undef) w' ({ st with tab:=(id,some (.nest e sz (rows.set i ((rows[i]?.getD []).take j ++ ar av ++ (rows[i]?.getD []).drop (j+aq P t))))) :: st.tab }.put dst .any) L /\
   w'.heap.size=w.heap.size /\ ∀ k,aO (L id) ≠ some k -> w'.heap[k]? = w.heap[k]?:=by
 obtain ⟨hn,hlt,hc⟩:=ib h.lay hv hl h1;obtain ⟨g,hg,rfl⟩:=hp.op_inv _ _ (cQ hid);have hyl:∀ row ∈ rows,AV.ltL st.next row:=(h.young id _ hid).2;obtain ⟨hrow,xs,hown,hone,hx⟩:=h.lay.objs id _ hid;simp only [aE.sz] at hg ⊢;rw [f4 hi,VH];have hri:rows[i].length=sz:=hrow _ (Vf hi);rcases hown.2 with ⟨hL,hz⟩|⟨g',cap,cur,hL,hbg,hheap,hcap,hcm,hcs,htake⟩
 .omega
 have hgg:g=g':=by
  rw [hL] at hg;simpa [aO] using hg.symm
 subst hgg
 have hmul:i * sz+sz<=rows.length * sz:=by
  have:=VD sz (show i+1<=rows.length from hi);rw [We] at this;omega
 have hcapm:rows.length * sz<=cap * sz:=VD _ hcap;have hvl:v.cells.toList.length=aq P t:=by simp [hn,hs]
 have hget:=eL cur.toList (i * sz+j) v.cells.toList (by simp only [Wc,hcs];omega);rw [hvl] at hget;refine ⟨_,kY h0 (by omega) hheap (by omega) (fun x hx'=>?_),?_,by simp,fun k hk=>setRow_other w g k _ fun e=>hk (by rw [e];exact hg)⟩
 .obtain ⟨k,hk,rfl⟩:=Array.getElem_of_mem hx';have hk':k<(ar av).length:=by omega
  exact (hc k _ _ (Vj hk) (f4 hk')).2
 have hxs:∀ k,k<rows.length * sz -> xs[k]? = cur.toList[k]?:=fun k hk=>by
  rw [<- htake,V0,Vn hk]
 have hrl:(rows[i].take j ++ ar av ++ rows[i].drop (j+aq P t)).length=sz:=by
  simp only [Vi,Vr,Wa];omega
 refine nW (o':=.nest e sz (rows.set i (rows[i].take j ++ ar av ++ rows[i].drop (j+aq P t)))) h hid hg rfl (fun k hk=>setRow_other w g k _ hk) ?_ (by simp) (fun hext=>⟨fun row hr=>?_,(cur.toList.take (i * sz+j) ++ v.cells.toList ++ cur.toList.drop (i * sz+j+aq P t)).take (rows.length * sz),?_,fun x hx'=>?_,fun i' j' row av' h3 h4=>?_⟩) (fun row hr=>by
  rcases Wj hr with hr|rfl
  .exact hyl row hr
  .have hyi:=hyl _ (Vf hi);refine ak.2 fun x hx=>?_;rcases Vp.1 hx with hx|hx
   .rcases Vp.1 hx with hx | hx
    .exact ak.1 hyi x (VQ hx)
    .exact ak.1 hlt x hx
   .exact ak.1 hyi x (Wp hx)) dst
 .exact ⟨h.lay.below.os,h.lay.below.tape,h.lay.below.output,by simpa using h.lay.below.size,fun k hk hX=>(setRow_other w g k _ (by omega)).trans (h.lay.below.block k hk hX)⟩
 .rcases Wj hr with hr | rfl
  .exact hrow row hr
  .exact hrl
 .rw [VS];refine ⟨?_,.inr ⟨g,cap,_,hL,hbg,setRow_heap w g cur _ e (0,0) hheap,hcap,hcm,?_,rfl⟩⟩
  .simp only [Vr,Vi,Wa,Wc,hcs,hn,hs];omega
  .simp only [Xm,Vi,Vr,Wa,Wc,hcs,hn,hs];omega
 .obtain ⟨k,hk⟩:=V7 hx';rw [V0] at hk;split at hk
  .rename_i hkl;rw [hget] at hk;split at hk
   .rename_i hr;have hk':k - (i * sz+j)<(ar av).length:=(by omega);exact (hc _ x _ (by simpa using hk) (f4 hk')).2
   .exact hone x (p0 ((hxs k hkl).trans hk))
  .cases hk
 .rw [Wz] at h3;split at h3
  .rename_i e1;subst e1
   first|rw [Vn hi] at h3|skip
   cases h3;have hj':j'<sz:=by rw [<- hrl];exact (Vd.1 h4).1
   have h4':=eL rows[i] j (ar av) (by omega) j';rw [hs] at h4';rw [h4'] at h4;have hki:i * sz+j'<rows.length * sz:=(by omega);rw [V0,Vn hki,hget];split at h4
   .rename_i hr;rw [Vn (by omega)];rw [show i * sz+j' - (i * sz+j)=j' - j by omega];have hk':j' - j<v.cells.size:=(by omega);refine ⟨v.cells[j' - j],by simp [hk'],hext.rv (hc _ _ av' (Vj hk') h4).1 (ak.1 hlt _ (p0 h4))⟩
   .rename_i hr;rw [Vh (by omega)];obtain ⟨x,hx1,hx2⟩:=hx i j' _ av' (f4 hi) h4;exact ⟨x,by rw [<- hxs _ hki];exact hx1,hext.rv hx2 (ak.1 (hyl _ (Vf hi)) _ (p0 h4))⟩
  .rename_i hne;have hi2:i'<rows.length:=(Vd.1 h3).1;have hj':j'<sz:=by rw [<- hrow row (p0 h3)];exact (Vd.1 h4).1
   have hki:i' * sz+j'<rows.length * sz:=by
    have:=VD sz (show i'+1<=rows.length from hi2);rw [We] at this;omega
   obtain ⟨x,hx1,hx2⟩:=hx i' j' row av' h3 h4;refine ⟨x,?_,hext.rv hx2 (ak.1 (hyl row (p0 h3)) _ (p0 h4))⟩;rw [V0,Vn hki,hget,Vh,<- hxs _ hki]
   .exact hx1
   .intro hr;rcases Xa i i' with hlt'|he|hlt'
    .have:=VD sz (show i+1<=i' from hlt');rw [We] at this;omega
    .exact hne he
    .have:=VD sz (show i'+1<=i from hlt');rw [We] at this;omega
def cy (P:Program) (t:TypeId):Option (List (Nat × Nat) × List Value):=
 match P.info? t,P.underlying t with
 | some it,some (.struct fields)=>match it.zero,fields.toList.mapM (fun f=>(P.info? f.type).map fun i=>(f.offset,i.size)) with
  | some z,some places=>some (places,z.cells.toList)
  | _,_=>none
 | some it,some (.array n e)=>match it.zero,P.info? e with
  | some z,some ie=>some ((List.range n).map fun i=>(i * ie.size,ie.size),z.cells.toList)
  | _,_=>none
 | _,_=>none
def tz (places:List (Nat × Nat)):List AV -> List (Nat × AV) -> Option (List AV)
 | cs,[]=>some cs
 | cs,(i,x) :: rest=>match places[i]? with
  | some (off,size)=>if (ar x).length=size /\ off+size<=cs.length then tz places (cs.take off ++ ar x ++ cs.drop (off+size)) rest else none
  | none=>none
def kn (tab:ae):List (Nat × AV) -> Prop
 | []=>True
 | (_,x) :: rest=>fa tab (ar x) /\ kn tab rest
theorem Ek (hL:iL cx w tab L) (places:List (Nat × Nat)):∀ (parts:List (Nat × Value)) (avs:List (Nat × AV)) (cells:Array Value) (cs cs':List AV),parts.length=avs.length ->
  (∀ (k i:Nat) (v:Value) (j:Nat) (av:AV),parts[k]? = some (i,v) -> avs[k]? = some (j,av) -> i=j /\ bN cx w tab L v av /\ av.lt nx) -> kn tab avs -> cells.size=cs.length -> AV.ltL nx cs -> (∀ (j:Nat) (x:Value) (av:AV),cells[j]? = some x -> cs[j]? = some av -> bN cx w tab L x av) -> tz places cs avs=some cs' ->
  ∃ cells',Instr.fill (places.toArray[·]?) cells parts=some cells' /\ cells'.size=cs'.length /\ AV.ltL nx cs' /\ ∀ (j:Nat) (x:Value) (av:AV),cells'[j]? = some x -> cs'[j]? = some av -> bN cx w tab L x av
 | [],[],cells,cs,cs',_,_,_,hn,hl,hr,h=>by
  cases h;exact ⟨cells,rfl,hn,hl,hr⟩
 | (i,v) :: parts,(j,x) :: avs,cells,cs,cs',hlen,hp,hone,hn,hl,hr,h=>by
  obtain ⟨rfl,hv,hlx⟩:=hp 0 i v j x rfl rfl;obtain ⟨hc1,hc2,hc3⟩:=ib hL hv hlx hone.1;unfold tz at h;split at h
  .rename_i off size hpl;split at h
   .rename_i hsz;have hfit:off+v.cells.size<=cells.size:=(by omega);have hone':=zH off v.cells cells hfit
    obtain ⟨cells',h1,h2⟩:=Ek hL places parts avs (cells.toList.take off ++ v.cells.toList ++ cells.toList.drop (off+v.cells.size)).toArray (cs.take off ++ ar x ++ cs.drop (off+size)) cs' (by simpa using hlen)
     (fun k i v j av h3 h4=>hp (k+1) i v j av (by simpa using h3) (by simpa using h4)) hone.2 (by simp [hc1,hsz.1,hn]) (ak.2 fun y hy=>by
      rcases Vp.1 hy with hy|hy
      .rcases Vp.1 hy with hy | hy
       .exact ak.1 hl y (VQ hy)
       .exact ak.1 hc2 y hy
      .exact ak.1 hl y (Wp hy)) (fun k y av h3 h4=>by
      have e1:=eL cells.toList off v.cells.toList (by simpa using hfit) k;have e2:=eL cs off (ar x) (by omega) k;simp only [Wc] at e1;rw [hsz.1] at e2;rw [WJ,e1] at h3;rw [e2] at h4;split at h4
      .rename_i hk;rw [Vn (by omega)] at h3;exact (hc3 _ y av (by simpa using h3) h4).1
      .rename_i hk;rw [Vh (by omega)] at h3;exact hr k y av (by simpa using h3) h4) h
    refine ⟨cells',?_,h2⟩;unfold Instr.fill;simp only [WJ,hpl];rw [Vh (by simp;omega),hone'];simpa using h1
   .cases h
  .cases h
 | [],_ :: _,_,_,_,h,_,_,_,_,_,_=>by simp at h
 | _ :: _,[],_,_,_,h,_,_,_,_,_,_=>by simp at h
theorem vM {f g:Nat -> Option (Nat × Nat)} (hfg:∀ i x,f i=some x -> g i=some x):∀ (parts:List (Nat × Value)) (c r:Array Value),Instr.fill f c parts=some r -> Instr.fill g c parts=some r
 | [],c,r,h=>h
 | (i,v) :: rest,c,r,h=>by
  unfold Instr.fill at h ⊢;split at h
  .cases h
  .rename_i off size hp;rw [hfg i _ hp];simp only;split at h
   .cases h
   .rename_i hc;rw [Vh hc];exact vM hfg rest _ r h
theorem wI {t:TypeId} {places:List (Nat × Nat)} {zs:List Value} (h:cy P t=some (places,zs)):∃ z:Value,z.cells.toList=zs /\ ∀ parts r,Instr.fill (places.toArray[·]?) z.cells parts=some r -> P.built t parts=some r:=by
 unfold cy at h;split at h
 .rename_i it fields h1 h2;split at h
  .rename_i z pl h3 h4;cases h;refine ⟨z,rfl,fun parts r hr=>?_⟩;unfold Program.built;rw [h1,h2];simp only [h3];simp only [h4];exact hr
  .cases h
 .rename_i it n e h1 h2;split at h
  .rename_i z ie h3 h4;cases h;refine ⟨z,rfl,fun parts r hr=>?_⟩;unfold Program.built;rw [h1,h2];simp only [h3];simp only [h4];refine vM (fun i x hx=>?_) parts z.cells r hr;rw [WJ,Ve] at hx;rcases Vv i n with hlt|hge
   .rw [Ws hlt] at hx;simpa using hx
   .rw [Vs (by simpa using hge)] at hx;simp at hx
  .cases h
 .cases h
theorem IO0 {t:TypeId} {places:List (Nat × Nat)} {zs:List Value} {cs':List AV} {parts:List (Nat × Operand)} (h:aJ cx a w st L) (ht:cy P t=some (places,zs)) (hf:tz places (zs.map .c) (parts.map fun p=>(p.1,bj st p.2))=some cs') (h1:kn st.tab (parts.map fun p=>(p.1,bj st p.2))) :
  ∃ v,bN cx w st.tab L v (.agg cs') /\ (AV.agg cs').lt st.next /\ ∀ w',(Instr.build t (parts.toArray.map fun (p:Nat × Operand)=>(p.1,a.eval p.2))).run P w'=.ok v w':=by
 obtain ⟨z,rfl,hb⟩:=wI ht
 obtain ⟨cells',h2,h3,h4,h5⟩:=Ek h.lay places (parts.map fun p=>(p.1,a.eval p.2)) (parts.map fun p=>(p.1,bj st p.2)) z.cells (z.cells.toList.map .c) cs' (by simp) (fun k i v j av h6 h7=>by
  rw [Ve] at h6 h7
  cases hk:parts[k]? with
  | none=>simp [hk] at h6
  | some p=>
   simp [hk] at h6 h7;obtain ⟨rfl,rfl⟩:=h6;obtain ⟨rfl,rfl⟩:=h7;exact ⟨rfl,am h p.2⟩) h1 (by simp) (ak.2 fun y hy=>by
   obtain ⟨u,_,rfl⟩:=Vt.1 hy;trivial) (fun j x av h6 h7=>by
   rw [Ve,Wd,h6] at h7;cases h7;exact .tree (.c x)) hf
 refine ⟨.agg cells',.agg cells' cs' h3 h5,h4,fun w'=>run_build w' t _ cells' ?_⟩;exact hb _ _ (by simpa using h2)
end
end
end
end Go.Proofs.YtmmoidfcfjklaaaGreat
