/-
  Parts of the proof: Sinp1, Sinp2.
-/
import Derived.WalkKit
import Derived.WalkLawsBesides
import Derived.Handy
import Derived.Lib.OthersKept
import Derived.Deep.Draws
import Derived.Maps.AppendAt
import Derived.Test.YtglaiabelcefeaaGreatProg
import Derived.ProofKit
import Derived.Laws.AppendOwnNone
import Derived.Laws.MakeOwn
set_option linter.unusedVariables false
set_option linter.unusedSimpArgs false
set_option linter.defProp false
set_option maxRecDepth 100000
set_option maxHeartbeats 16000000
namespace Go.Proofs.YtglaiabelcefeaaGreat
def p0:=@List.getElem?_eq_getElem.{0}
def r2:=@List.mem_of_getElem?.{0}
def Os:=@List.getD_eq_getElem?_getD.{0}
def UQ:=@List.getElem_mem.{0}
def UR:=@Nat.zero_le
def US:=@List.getElem?_eq_some_iff.{0}
def UT:=@Array.getElem?_eq_getElem.{0}
def UU:=@Nat.le_refl
def UV:=@List.getElem?_map.{0,0}
def UW:=@List.length_append.{0}
def UX:=@if_neg.{1}
def UY:=@Nat.lt_of_lt_of_le
def UZ:=@if_pos.{1}
def U0:=@List.take_succ_eq_append_getElem.{0}
def U1:=@Bool.and_eq_true
def U2:=@List.length_take.{0}
def U3:=@List.mem_map.{0,0}
def U4:=@List.mem_append.{0}
def U5:=@decide_eq_false
def U6:=@List.take_length.{0}
def U7:=@decide_eq_true_eq
def U8:=@List.getElem_of_mem.{0}
def U9:=@Nat.lt_or_ge
def Va:=@List.take_zero.{0}
def Vb:=@decide_eq_true
def Vc:=@List.map_append.{0,0}
def Vd:=@List.length_map.{0,0}
def Ve:=@List.mem_singleton.{0}
def Vf:=@decide_eq_false_iff_not
def Vg:=@List.take_of_length_le.{0}
def Vh:=@List.getElem?_eq_none.{0}
def Vi:=@Option.getD_some.{0}
def Vj:=@Nat.le_trans
def Vk:=@Nat.mul_le_mul_right
def Vl:=@List.length_cons.{0}
def Vm:=@Array.getElem?_eq_some_iff.{0}
def Vn:=@List.map_nil.{0,0}
def Vo:=@List.pairwise_iff_getElem.{0}
def Vp:=@Nat.pow_le_pow_right
def Vq:=@List.getElem?_append_left.{0}
def Vr:=@List.mem_cons_self.{0}
def Vs:=@List.length_singleton.{0}
def Vt:=@List.mem_of_mem_take.{0}
def Vu:=@List.getElem?_append_right.{0}
def Vv:=@beq_eq_false_iff_ne.{0}
def Vw:=@List.append_assoc.{0}
def Vx:=@List.mem_cons_of_mem.{0}
def Vy:=@Bool.and_eq_false_iff
def Vz:=@Option.map_some.{0,0}
def VA:=@Bool.eq_false_iff
def VB:=@Bool.false_eq_true
def VC:=@Bool.true_and
def VD:=@Int.toNat_natCast
def VE:=@List.map_cons.{0,0}
def VF:=@Nat.le_succ
def VG:=@Array.getD_eq_getD_getElem?.{0}
def VH:=@List.append_nil.{0}
def VI:=@Array.length_toList.{0}
def VJ:=@List.getElem?_drop.{0}
def VK:=@Bool.false_and
def VL:=@List.mem_cons.{0}
def VM:=@List.getElem?_take.{0}
def VN:=@List.pairwise_append.{0}
def VO:=@List.length_drop.{0}
def VP:=@List.mem_flatMap.{0,0}
def VQ:=@Array.getElem?_append_left.{0}
def VR:=@List.nil_append.{0}
def VS:=@List.ext_getElem?.{0}
def VT:=@Nat.lt_succ_self
def VU:=@List.mem_append_left.{0}
def VW:=@List.eq_nil_of_length_eq_zero.{0}
def VX:=@List.take_append_of_le_length.{0}
def VY:=@Option.isSome_iff_exists.{0}
def VZ:=@List.getElem?_of_mem.{0}
def V0:=@Array.getElem?_toList.{0}
def V3:=@Nat.add_mul
def V4:=@List.flatMap_cons.{0,0}
def V5:=@List.range_succ
def V6:=@Nat.testBit_lt_two_pow
def V7:=@List.flatMap_nil.{0,0}
def V8:=@List.mem_append_right.{0}
def V9:=@List.mem_or_eq_of_mem_set.{0}
def Wa:=@List.mem_of_mem_drop.{0}
def Wb:=@Bool.or_eq_true
def Wc:=@List.cons_append.{0}
def Wd:=@List.length_nil.{0}
def We:=@Nat.zero_add
def Wf:=@List.getElem?_set.{0}
def Wg:=@Nat.pow_lt_pow_right
def Wh:=@Nat.le_of_lt
def Wi:=@List.set_cons_zero.{0}
def Wj:=@List.flatMap_append.{0,0}
def Wk:=@Option.some.inj.{0}
def Wl:=@Bool.eq_iff_iff
def Wm:=@Nat.add_sub_cancel
def Wn:=@List.findIdx?_eq_some_iff_getElem.{0}
def Wo:=@Nat.le_of_ble_eq_true
def Wp:=@Nat.lt_trichotomy
def Wq:=@Nat.or_lt_two_pow
def Wr:=@List.getElem_take.{0}
def Ws:=@List.eraseIdx_eq_take_drop_succ.{0}
def Wt:=@Nat.eq_of_testBit_eq
def Wu:=@List.mem_range
def Wv:=@List.pairwise_cons.{0}
def Ww:=@Nat.add_assoc
def Wx:=@List.range_zero
def Wy:=@Nat.le_max_right
def Wz:=@beq_iff_eq.{0}
def WA:=@List.map_congr_left.{0,0}
def WB:=@List.getElem?_toArray.{0}
def WC:=@List.getElem_append_left.{0}
def WD:=@List.getElem?_cons_succ.{0}
def WE:=@Nat.succ_le_succ
def WF:=@Bool.not_false
def WG:=@List.drop_of_length_le.{0}
def WH:=@List.map_set.{0,0}
def WI:=@Nat.mul_le_mul
def WJ:=@List.length_pos_iff.{0}
def WK:=@Nat.zero_lt_one
def WL:=@List.mem_take_iff_getElem.{0}
def WM:=@List.findIdx?_eq_none_iff.{0}
def WN:=@List.length_filter_le.{0}
def WO:=@Nat.le_add_right
def WP:=@Int.natCast_nonneg
def WQ:=@List.set_cons_succ.{0}
def WR:=@Nat.one_le_two_pow
def WS:=@List.any_eq_true.{0}
def WT:=@Nat.add_zero
def WU:=@Int.le_refl
def WV:=@Array.toArray_toList.{0}
def WW:=@List.foldl_nil.{0,0}
def WX:=@List.length_eq_zero_iff.{0}
def WY:=@List.getElem?_cons_zero.{0}
def WZ:=@Int.eq_ofNat_of_zero_le
def W3:=@List.length_set.{0}
def W4:=@Nat.not_lt_zero
def W5:=@Nat.zero_mul
def W6:=@Nat.sub_self
def W7:=@Nat.testBit_two_pow_sub_one
def W8:=@Option.bind_some.{0,0}
def W9:=@Nat.le_of_not_lt
def Xa:=@Nat.eq_zero_or_pos
def Xb:=@Nat.lt_of_le_of_lt
def Xc:=@Int.tmod_eq_emod_of_nonneg
def Xd:=@List.take_append_drop.{0}
def Xe:=@List.drop_eq_getElem_cons.{0}
def Xf:=@List.getElem_append_right.{0}
def Xg:=@List.mem_filter.{0}
def Xh:=@Option.some.injEq.{0}
def Xi:=@List.size_toArray.{0}
def Xj:=@List.take_add_one.{0}
def Xk:=@Nat.succ_mul
def Xl:=@List.reverse_reverse.{0}
def Xm:=@Nat.lt_succ_of_lt
def Xn:=@Bool.false_or
def Xo:=@List.getD_cons_zero.{0}
def Xp:=@List.countP_pos_iff.{0}
def Xq:=@List.getElem_map.{0,0}
def Xr:=@Int.toNat_zero
def Xs:=@Array.getElem?_map.{0,0}
def Xt:=@List.map_map.{0,0,0}
def Xu:=@Option.isSome_some.{0}
def Xv:=@Nat.xor_lt_two_pow
def Xw:=@Nat.min_eq_left
def Xx:=@List.flatMap_id.{0}
def Xy:=@Nat.le_max_left
def Xz:=@Nat.and_le_left
def XA:=@Nat.testBit_and
def XB:=@Array.ext.{0}
def XC:=@Bool.not_true
open Go.RowKit
section
section
theorem ar{p:Prop}(h:p):Hid p:=h
theorem Bi{α:Type}(l:List α):l=[]\/∃q x,l=q ++ [x]:=by
 rcases List.eq_nil_or_concat l with h|⟨q,x,h⟩
 .exact .inl h
 .exact .inr ⟨q,x,by rw[h,List.concat_eq_append]⟩
theorem ig(g j:Nat):(⟨g,0,none⟩:Addr).add j=⟨g,j,none⟩:=by unfold Addr.add;split<;>simp_all
def jd(w:World)(g:Nat)(t:TypeId)(cs:Array Value):Prop:=w.heap[g]? = some (.cells cs t (0,0))
section
variable {w w':World} {g:Nat} {t:TypeId} {cs:Array Value}
theorem jd.lt(h:jd w g t cs):g<w.heap.size:=by
 rcases U9 g w.heap.size with hlt|hge
 .exact hlt
 .unfold jd at h;rw[Array.getElem?_eq_none hge] at h;cases h
theorem jd.cell(h:jd w g t cs)(i:Nat):w.cell? ⟨g,i,none⟩=cs[i]?:=cell_of_row w g i cs t (0,0) h
theorem jd.frozen(h:jd w g t cs)(i:Nat):w.frozen? ⟨g,i,none⟩=false:=by
 unfold jd at h;simp[World.frozen?,h]
theorem jd.new(w:World)(t:TypeId)(cs:Array Value):jd (w.alloc (.cells cs t)) w.heap.size t cs:=heap_alloc_new w _
theorem jd.alloc(h:jd w g t cs)(o:Obj):jd (w.alloc o) g t cs:=(Below.heap_alloc w o g h.lt).trans h
theorem jd.set_(h:jd w g t cs)(i:Nat)(u:Value):jd (w.setCell ⟨g,i,none⟩ u) g t (cs.setIfInBounds i u):=by
 unfold jd at h ⊢;simp[World.setCell,Array.getElem?_modify,h]
theorem jd.far(h:jd w g t cs){p:Addr}(hp:g≠p.block)(u:Value):jd (w.setCell p u) g t cs:=(Below.heap_setCell w p u g hp).trans h
theorem jd.below{B:Nat}(h:jd w g t cs)(hb:Below B w w')(hg:g<B):jd w' g t cs:=(hb.block g hg).trans h
theorem jd.grown{row:Option Nat}(h:jd w g t cs)(hb:w.grownBy w' row)(hg:some g≠row):jd w' g t cs:=(hb.block g h.lt hg).trans h
end
section
variable {w w':World} {base:Nat} {e:TypeId} {size n:Nat} {v:Value} {xs:List Value}
theorem gy(h:w.ownsRow base e size v n xs):∃A c,v=.slice A n c/\n<=c:=by
 rcases h.2 with ⟨rfl,rfl⟩|⟨g,cap,cur,rfl,_,_,hn,_⟩
 .exact ⟨none,0,rfl,UU _⟩
 .exact ⟨_,cap,rfl,hn⟩
theorem o5(h:w.ownsRow base e size v n xs)(hn:0<n):∃g c,v=.slice (some ⟨g,0,none⟩) n c/\n<=c/\base<=g/\g<w.heap.size:=by
 rcases h.2 with ⟨rfl,rfl⟩|⟨g,cap,cur,rfl,hb,hg,hn,_⟩
 .omega
 .exact ⟨g,cap,rfl,hn,hb,(Vm.1 hg).1⟩
theorem Sj(h:w.ownsRow base e size v n xs){g:Nat}(hg:g<base):some g≠v.ownBlock:=by
 intro he;have:=(h.lt g he.symm).1;omega
theorem vS{B:Nat}(h:w.ownsRow base e size v n xs)(hb:Below B w w')(hB:∀g,v.ownBlock=some g->g<B):w'.ownsRow base e size v n xs:=by
 refine⟨h.1,?_⟩;rcases h.2 with hn|⟨g,cap,cur,rfl,hbg,hg,rest⟩
 .exact .inl hn
 .exact .inr ⟨g,cap,cur,rfl,hbg,(hb.block g (hB g (by simp[Value.ownBlock]))).trans hg,rest⟩
theorem sO(h:w.ownsRow base e size v n xs)(hb:Below w.heap.size w w'):w'.ownsRow base e size v n xs:=vS h hb fun g hg=>(h.lt g hg).2
theorem Ep(h:w.ownsRow base e size v n xs){p:Addr}(hp:p.block<base)(u:Value):(w.setCell p u).ownsRow base e size v n xs:=ownsRow_setCell_below h hp u
theorem kH(h:w.ownsRow base e size v n xs){g c:Nat}(hv:v=.slice (some ⟨g,0,none⟩) n c){j:Nat}{u:Value}(hu:xs[j]? = some u):w.cell? ⟨g,j,none⟩=some u:=by
 subst hv;have:=h.cells (g:=g) rfl j u hu
 rwa [ig] at this
end
theorem mW(w:World)(L:List Value)(t:TypeId):∀j u,L[j]? = some u->(w.alloc (.cells L.toArray t)).cell? ((⟨w.heap.size,0,none⟩:Addr).add j)=some u:=by
 intro j u hu;rw[ig,(jd.new w t L.toArray).cell j];simpa using hu
end
section
def wY:Nat:=0
structure Et(w:World):Prop where
 le:wY<=w.heap.size
 tab:True
theorem Et.keep{w w':World}(h:Et w)(hs:wY<=w'.heap.size)(hk:∀k,k<wY->w'.heap[k]? = w.heap[k]?):Et w':=⟨hs,trivial⟩
theorem NT(w:World):Et w:=⟨UR _,trivial⟩
end
section
inductive AV where
 | any
 | c (v:Value)
 | sl (sz:Nat) (rows:List (List AV))
 | osl (id:Nat)
 | agg (cs:List AV)
 | tup (vs:List AV)
 | fn (f:FuncId) (cs:List AV)
 | bfn (f:FuncId) (cs:List AV)
 | rp (cs:List AV)
 | op (id i j:Nat)
instance:Inhabited AV:=⟨.any⟩
inductive RT(w:World)(S:Nat->Prop):Value->AV->Prop
 | any (x:Value):RT w S x .any
 | c (v:Value):RT w S v (.c v)
 | sl (A:Option Addr) (n cap sz:Nat) (rows:List (List AV)) (b o:Nat) (U:Nat->Nat->Value) (hn:n=rows.length) (hc:n<=cap) (hm:cap<=9223372036854775807)
   (hA:0<n->A=some ⟨b,o,none⟩/\S b) (hs:∀row∈rows,row.length=sz)
   (hcell:0<n->∀i j row av,rows[i]? = some row->row[j]? = some av->w.cell? ⟨b,o+i * sz+j,none⟩=some (U i j))
   (hone:∀i j row av,rows[i]? = some row->row[j]? = some av->(U i j).oneCell'=true)
   (hr:∀i j row av,rows[i]? = some row->row[j]? = some av->RT w S (U i j) av):RT w S (.slice A n cap) (.sl sz rows)
 | agg (xs:Array Value) (cs:List AV) (hn:xs.size=cs.length) (hr:∀(j:Nat)(x:Value)(av:AV),xs[j]? = some x->cs[j]? = some av->RT w S x av):RT w S (.agg xs) (.agg cs)
 | tup (xs:Array Value) (cs:List AV) (hn:xs.size=cs.length) (hr:∀(j:Nat)(x:Value)(av:AV),xs[j]? = some x->cs[j]? = some av->RT w S x av):RT w S (.tuple xs) (.tup cs)
 | fn (f:FuncId) (xs:Array Value) (cs:List AV) (hn:xs.size=cs.length) (hr:∀(j:Nat)(x:Value)(av:AV),xs[j]? = some x->cs[j]? = some av->RT w S x av):RT w S (.func (.func f) #[] xs) (.fn f cs)
 | bfn (f:FuncId) (xs:Array Value) (cs:List AV) (hn:xs.size=cs.length) (hr:∀(j:Nat)(x:Value)(av:AV),xs[j]? = some x->cs[j]? = some av->RT w S x av):RT w S (.func (.func f) xs #[]) (.bfn f cs)
 | rp (b o:Nat) (cs:List AV) (U:Nat->Value) (hb:S b) (hcell:∀j av,cs[j]? = some av->w.cell? ⟨b,o+j,none⟩=some (U j)) (hr:∀j av,cs[j]? = some av->RT w S (U j) av) :
   RT w S (.pointer (some ⟨b,o,none⟩)) (.rp cs)
theorem RT.mono{w w':World}{S S':Nat->Prop}{x:Value}{av:AV}(h:RT w S x av)(hk:∀p:Addr,S p.block->w'.cell? p=w.cell? p)(hS:∀b,S b->S' b):RT w' S' x av:=by
 induction h with
 | any x=>exact .any x
 | c v=>exact .c v
 | sl A n cap sz rows b o U hn hc hm hA hs hcell hone hr ih=>
  exact .sl A n cap sz rows b o U hn hc hm (fun h=>⟨(hA h).1,hS _ (hA h).2⟩) hs (fun h i j row av h1 h2=>(hk _ (hA h).2).trans (hcell h i j row av h1 h2)) hone ih
 | agg xs cs hn hr ih=>exact .agg xs cs hn ih
 | tup xs cs hn hr ih=>exact .tup xs cs hn ih
 | fn fi xs cs hn hr ih=>exact .fn fi xs cs hn ih
 | bfn fi xs cs hn hr ih=>exact .bfn fi xs cs hn ih
 | rp b o cs U hb hcell hr ih=>exact .rp b o cs U (hS _ hb) (fun j av h=>(hk _ hb).trans (hcell j av h)) ih
def aL:Value->Option Nat
 | .pointer (some a)=>some a.block
 | .slice (some a) _ _=>some a.block
 | .map (some b)=>some b
 | _=>none
inductive RV(w:World)(S:Nat->Prop)(K:Nat->Option (Nat×Value)):Value->AV->Prop
 | tree {x:Value} {av:AV} (h:RT w S x av):RV w S K x av
 | osl (x:Value) (id:Nat) (h:∀sz v,K id=some (sz,v)->x=v):RV w S K x (.osl id)
 | op (x:Value) (id i j:Nat) (h:∀sz v,K id=some (sz,v)->∃g,aL v=some g/\x=.pointer (some ⟨g,i * sz+j,none⟩)):RV w S K x (.op id i j)
 | agg (xs:Array Value) (cs:List AV) (hn:xs.size=cs.length) (hr:∀(j:Nat)(x:Value)(av:AV),xs[j]? = some x->cs[j]? = some av->RV w S K x av):RV w S K (.agg xs) (.agg cs)
 | tup (xs:Array Value) (cs:List AV) (hn:xs.size=cs.length) (hr:∀(j:Nat)(x:Value)(av:AV),xs[j]? = some x->cs[j]? = some av->RV w S K x av):RV w S K (.tuple xs) (.tup cs)
 | fn (f:FuncId) (xs:Array Value) (cs:List AV) (hn:xs.size=cs.length) (hr:∀(j:Nat)(x:Value)(av:AV),xs[j]? = some x->cs[j]? = some av->RV w S K x av):RV w S K (.func (.func f) #[] xs) (.fn f cs)
 | bfn (f:FuncId) (xs:Array Value) (cs:List AV) (hn:xs.size=cs.length) (hr:∀(j:Nat)(x:Value)(av:AV),xs[j]? = some x->cs[j]? = some av->RV w S K x av):RV w S K (.func (.func f) xs #[]) (.bfn f cs)
mutual
def AV.lt(nx:Nat):AV->Prop
 | .osl id=>id<nx
 | .op id _ _=>id<nx
 | .agg cs=>AV.ltL nx cs
 | .tup cs=>AV.ltL nx cs
 | .fn _ cs=>AV.ltL nx cs
 | .bfn _ cs=>AV.ltL nx cs
 | _=>True
def AV.ltL(nx:Nat):List AV->Prop
 | []=>True
 | a :: l=>a.lt nx/\AV.ltL nx l
end
theorem ah{nx:Nat}:∀{l:List AV},AV.ltL nx l↔ ∀a∈l,a.lt nx
 | []=>by simp[AV.ltL]
 | a :: l=>by simp[AV.ltL,ah (l:=l)]
theorem AV.lt_mono{n m:Nat}(hnm:n<=m):∀{av:AV},av.lt n->av.lt m:=by
 intro av
 induction av using AV.rec (motive_2:=fun _=>True) (motive_3:=fun l=>AV.ltL n l->AV.ltL m l)<;>simp_all [AV.lt,AV.ltL]<;>omega
theorem RT.lt{w:World}{S:Nat->Prop}{x:Value}{av:AV}(h:RT w S x av)(nx:Nat):av.lt nx:=by
 induction h with
 | agg xs cs hn hr ih=>
  refine ah.2 fun a ha=>?_;obtain⟨j,hj⟩:=VZ ha;have hlt:j<xs.size:=by rw[hn];exact(US.1 hj).1
  exact ih j _ a (UT hlt) hj
 | tup xs cs hn hr ih=>
  refine ah.2 fun a ha=>?_;obtain⟨j,hj⟩:=VZ ha;have hlt:j<xs.size:=by rw[hn];exact(US.1 hj).1
  exact ih j _ a (UT hlt) hj
 | fn fi xs cs hn hr ih=>
  refine ah.2 fun a ha=>?_;obtain⟨j,hj⟩:=VZ ha;have hlt:j<xs.size:=by rw[hn];exact(US.1 hj).1
  exact ih j _ a (UT hlt) hj
 | bfn fi xs cs hn hr ih=>
  refine ah.2 fun a ha=>?_;obtain⟨j,hj⟩:=VZ ha;have hlt:j<xs.size:=by rw[hn];exact(US.1 hj).1
  exact ih j _ a (UT hlt) hj
 | _=>trivial
theorem RV.mono{w w':World}{S S':Nat->Prop}{K K':Nat->Option (Nat×Value)}{nx:Nat}{x:Value}{av:AV}(h:RV w S K x av)(hl:av.lt nx)(hk:∀p:Addr,S p.block->w'.cell? p=w.cell? p)(hS:∀b,S b->S' b)
  (hK:∀id p,id<nx->K' id=some p->K id=some p):RV w' S' K' x av:=by
 induction h with
 | tree h=>exact .tree (h.mono hk hS)
 | osl x id h=>exact .osl x id fun sz v e=>h sz v (hK id _ hl e)
 | op x id i j h=>exact .op x id i j fun sz v e=>h sz v (hK id _ hl e)
 | agg xs cs hn hr ih=>exact .agg xs cs hn fun j x av h1 h2=>ih j x av h1 h2 (ah.1 hl _ (r2 h2))
 | tup xs cs hn hr ih=>exact .tup xs cs hn fun j x av h1 h2=>ih j x av h1 h2 (ah.1 hl _ (r2 h2))
 | fn fi xs cs hn hr ih=>exact .fn fi xs cs hn fun j x av h1 h2=>ih j x av h1 h2 (ah.1 hl _ (r2 h2))
 | bfn fi xs cs hn hr ih=>exact .bfn fi xs cs hn fun j x av h1 h2=>ih j x av h1 h2 (ah.1 hl _ (r2 h2))
section
variable {w:World} {S:Nat->Prop} {K:Nat->Option (Nat×Value)} {x:Value}
theorem RV.c_inv{v:Value}(h:RV w S K x (.c v)):x=v:=by
 cases h with
 | tree h=>cases h;rfl
theorem RV.agg_inv{cs:List AV}(h:RV w S K x (.agg cs)):∃xs:Array Value,x=.agg xs/\xs.size=cs.length/\∀(j:Nat)(x:Value)(av:AV),xs[j]? = some x->cs[j]? = some av->RV w S K x av:=by
 cases h with
 | tree h=>cases h with|agg xs cs hn hr=>exact⟨xs,rfl,hn,fun j x av h1 h2=>.tree (hr j x av h1 h2)⟩
 | agg xs cs hn hr=>exact⟨xs,rfl,hn,hr⟩
theorem RV.tup_inv{cs:List AV}(h:RV w S K x (.tup cs)):∃xs:Array Value,x=.tuple xs/\xs.size=cs.length/\∀(j:Nat)(x:Value)(av:AV),xs[j]? = some x->cs[j]? = some av->RV w S K x av:=by
 cases h with
 | tree h=>cases h with|tup xs cs hn hr=>exact⟨xs,rfl,hn,fun j x av h1 h2=>.tree (hr j x av h1 h2)⟩
 | tup xs cs hn hr=>exact⟨xs,rfl,hn,hr⟩
theorem RV.fn_inv{f:FuncId}{cs:List AV}(h:RV w S K x (.fn f cs)):∃xs:Array Value,x=.func (.func f) #[] xs/\xs.size=cs.length/\∀(j:Nat)(x:Value)(av:AV),xs[j]? = some x->cs[j]? = some av->RV w S K x av:=by
 cases h with
 | tree h=>cases h with|fn _ xs cs hn hr=>exact⟨xs,rfl,hn,fun j x av h1 h2=>.tree (hr j x av h1 h2)⟩
 | fn _ xs cs hn hr=>exact⟨xs,rfl,hn,hr⟩
theorem RV.bfn_inv{f:FuncId}{cs:List AV}(h:RV w S K x (.bfn f cs)):∃xs:Array Value,x=.func (.func f) xs #[]/\xs.size=cs.length/\∀(j:Nat)(x:Value)(av:AV),xs[j]? = some x->cs[j]? = some av->RV w S K x av:=by
 cases h with
 | tree h=>cases h with|bfn _ xs cs hn hr=>exact⟨xs,rfl,hn,fun j x av h1 h2=>.tree (hr j x av h1 h2)⟩
 | bfn _ xs cs hn hr=>exact⟨xs,rfl,hn,hr⟩
theorem RT.sl_inv{sz:Nat}{rows:List (List AV)}(h:RT w S x (.sl sz rows)):∃A cap,x=.slice A rows.length cap/\rows.length<=cap/\cap<=9223372036854775807/\(∀row∈rows,row.length=sz) /\
  (0<rows.length->∃b o,A=some ⟨b,o,none⟩/\S b/\∃U:Nat->Nat->Value,(∀i j row av,rows[i]? = some row->row[j]? = some av->w.cell? ⟨b,o+i * sz+j,none⟩=some (U i j)) /\
   (∀i j row av,rows[i]? = some row->row[j]? = some av->RT w S (U i j) av)/\∀i j row av,rows[i]? = some row->row[j]? = some av->(U i j).oneCell'=true):=by
 cases h with
 | sl A n cap sz rows b o U hn hc hm hA hs hcell hone hr=>
  subst hn;exact⟨A,cap,rfl,hc,hm,hs,fun h=>⟨b,o,(hA h).1,(hA h).2,U,hcell h,hr,hone⟩⟩
theorem RV.sl_inv{sz:Nat}{rows:List (List AV)}(h:RV w S K x (.sl sz rows)):RT w S x (.sl sz rows):=by
 cases h with
 | tree h=>exact h
theorem RV.rp_inv{cs:List AV}(h:RV w S K x (.rp cs)):∃b o,∃U:Nat->Value,x=.pointer (some ⟨b,o,none⟩)/\S b/\(∀j av,cs[j]? = some av->w.cell? ⟨b,o+j,none⟩=some (U j))/\∀j av,cs[j]? = some av->RT w S (U j) av:=by
 cases h with
 | tree h=>cases h with|rp b o cs U hb hcell hr=>exact⟨b,o,U,rfl,hb,hcell,hr⟩
theorem RV.osl_inv{id:Nat}(h:RV w S K x (.osl id)):∀sz v,K id=some (sz,v)->x=v:=by
 cases h with
 | tree h=>cases h
 | osl x id h=>exact h
theorem RV.op_inv{id i j:Nat}(h:RV w S K x (.op id i j)):∀sz v,K id=some (sz,v)->∃g,aL v=some g/\x=.pointer (some ⟨g,i * sz+j,none⟩):=by
 cases h with
 | tree h=>cases h
 | op x id i j h=>exact h
end
def cU(nx:Nat):List (Nat×AV)->Prop
 | []=>True
 | (_,av) :: l=>av.lt nx/\cU nx l
inductive aB where
 | box (t:TypeId) (cells:List AV)
 | nest (e:TypeId) (sz:Nat) (rows:List (List AV))
 | row (e:TypeId) (sz:Nat) (rows:List (List AV))
 | map (ents:List (Value×Value))
 | ghost (vs:Array Value) (env:List (Nat×AV))
def aB.sz:aB->Nat
 | .box _ cells=>cells.length
 | .nest _ sz _=>sz
 | .row _ sz _=>sz
 | .map _=>0
 | .ghost _ _=>0
def aB.lt(nx:Nat):aB->Prop
 | .box _ cells=>AV.ltL nx cells
 | .nest _ _ rows=>∀row∈rows,AV.ltL nx row
 | .row _ _ _=>True
 | .map _=>True
 | .ghost _ env=>cU nx env
def RW:List TypeId:=[23]
def De(t:TypeId):Bool:=RW.contains t
def Tb(b:Bool)(e:TypeId)(sz:Nat)(rows:List (List AV)):aB:=match b with
 | true=>.nest e sz rows
 | false=>.row e sz rows
abbrev ae:=List (Nat×Option aB)
def ae.get:ae->Nat->Option aB
 | [],_=>none
 | (k,o) :: l,id=>if id=k then o else ae.get l id
theorem ae.gc(k:Nat)(o:Option aB)(l:ae)(id:Nat):ae.get ((k,o) :: l) id=if id=k then o else l.get id:=rfl
def aX:List (Nat×AV)->Nat->AV
 | [],_=>.any
 | (k,v) :: l,t=>if t=k then v else aX l t
theorem fX{nx:Nat}:∀{l:List (Nat×AV)},cU nx l->∀t,(aX l t).lt nx
 | [],_,_=>trivial
 | (k,av) :: l,h,t=>by
  unfold aX;split
  .exact h.1
  .exact fX h.2 t
theorem dQ{n m:Nat}(hnm:n<=m):∀{l:List (Nat×AV)},cU n l->cU m l
 | [],_=>trivial
 | (_,_) :: _,h=>⟨AV.lt_mono hnm h.1,dQ hnm h.2⟩
structure aj where
 n:Nat
 env:List (Nat×AV)
 tab:ae
 next:Nat
def aj.get(st:aj)(t:Nat):AV:=if t<st.n then aX st.env t else .any
def aj.put(st:aj)(dst:Option Nat)(av:AV):aj:=
 match dst with
 | some d=>{ st with env:=(d,av) :: st.env }
 | none=>st
structure Cx where
 F:Nat->Prop
 w0:World
 /-- memory of somebody else's: neither read nor written -/
 X:Nat->Prop
 amb:Et w0
 exD:∀b,X b->wY<=b
 inF:∀b,b<wY->F b
structure FJ(w:World)(S:Nat->Prop):Prop where
 sub:∀b,S b->b<w.heap.size
 amb:Et w
 tab:∀b,b<wY->S b
instance {w:World} {S:Nat->Prop}:CoeFun (FJ w S) fun _=>∀b,S b->b<w.heap.size:=⟨fun h=>h.sub⟩
abbrev Cx.mk0(S:Nat->Prop)(w:World)(hS:FJ w S):Cx:=⟨S,w,fun _=>False,hS.amb,fun _ h=>h.elim,hS.tab⟩
theorem Et.below{w w':World}(h:Et w)(hb:Below w.heap.size w w'):Et w':=h.keep (Vj h.le hb.size) fun k hk=>hb.block k (UY hk h.le)
theorem Et.all{w:World}(h:Et w):FJ w (fun b=>b<w.heap.size):=⟨fun b hb=>hb,h,fun b hb=>UY hb h.le⟩
structure b8(X:Nat->Prop)(n:Nat)(w w':World):Prop where
 os:w'.os=w.os
 tape:w'.tape=w.tape
 output:w'.output=w.output
 size:w.heap.size<=w'.heap.size
 block:∀k,k<n->¬X k->w'.heap[k]? = w.heap[k]?
theorem b8.trans{X:Nat->Prop}{n:Nat}{a b c:World}(h:b8 X n a b)(k:b8 X n b c):b8 X n a c:=
 ⟨k.os.trans h.os,k.tape.trans h.tape,k.output.trans h.output,Vj h.size k.size,fun i hi hx=>(k.block i hi hx).trans (h.block i hi hx)⟩
theorem jo{X:Nat->Prop}{n:Nat}{a b:World}(h:Below n a b):b8 X n a b:=⟨h.os,h.tape,h.output,h.size,fun i hi _=>h.block i hi⟩
theorem b8.below{X:Nat->Prop}{n:Nat}{a b:World}(h:b8 X n a b)(hx:∀b,¬X b):Below n a b:=⟨h.os,h.tape,h.output,h.size,fun i hi=>h.block i hi (hx i)⟩
def Sx(c:Cx)(w:World)(tab:ae)(L:Nat->Value)(b:Nat):Prop:=b<w.heap.size/\((c.F b\/c.w0.heap.size<=b)/\¬c.X b)/\∀id o,tab.get id=some o->aL (L id)≠some b
def Kx(tab:ae)(L:Nat->Value)(id:Nat):Option (Nat×Value):=(tab.get id).map fun o=>(o.sz,L id)
abbrev bL(c:Cx)(w:World)(tab:ae)(L:Nat->Value):Value->AV->Prop:=RV w (Sx c w tab L) (Kx tab L)
def fc(w:World)(base:Nat)(e:TypeId)(size:Nat)(v:Value)(n:Nat)(xs:List Value):Prop:=
  xs.length=n * size /\
  ((v=.slice none 0 0/\n=0) \/
   ∃g cap cur,v=.slice (some ⟨g,0,none⟩) n cap/\base<=g/\w.heap[g]? = some (.cells cur e (0,0))/\n<=cap/\cap<=maxLen/\cap * size<=cur.size/\cur.toList.take (n * size)=xs)
theorem rG{w:World}{base e size n:Nat}{v:Value}{xs:List Value}(h:w.ownsRow base e size v n xs):fc w base e size v n xs:=by
 refine⟨h.1,?_⟩;rcases h.2 with hn|⟨g,cap,cur,h1,h2,h3,h4,h5,h6,h7⟩
 .exact .inl hn
 .exact .inr ⟨g,cap,cur,h1,h2,h3,h4,h5,by omega,h7⟩
theorem kB(w:World)(base:Nat)(e:TypeId)(size:Nat):fc w base e size (.slice none 0 0) 0 []:=⟨by simp,.inl ⟨rfl,rfl⟩⟩
theorem fc.lt{w:World}{base e size n:Nat}{v:Value}{xs:List Value}(h:fc w base e size v n xs):∀k,v.ownBlock=some k->base<=k/\k<w.heap.size:=by
 intro k hk;rcases h.2 with ⟨rfl,_⟩|⟨g,cap,cur,rfl,hb,hg,_⟩
 .simp [Value.ownBlock] at hk
 .simp [Value.ownBlock] at hk;subst hk;exact⟨hb,(Vm.1 hg).1⟩
theorem fc.base{w:World}{base base' e size n:Nat}{v:Value}{xs:List Value}(h:fc w base e size v n xs)(hb:base'<=base):fc w base' e size v n xs:=by
 refine⟨h.1,?_⟩;rcases h.2 with hn|⟨g,cap,cur,h1,h2,rest⟩
 .exact .inl hn
 .exact .inr ⟨g,cap,cur,h1,Vj hb h2,rest⟩
theorem fc.cells{w:World}{base e size n:Nat}{v:Value}{xs:List Value}(h:fc w base e size v n xs){g:Nat}(hg:v.ownBlock=some g):∀j u,xs[j]? = some u->w.cell? ((⟨g,0,none⟩:Addr).add j)=some u:=by
 intro j u hu;rcases h.2 with ⟨rfl,_⟩|⟨g',cap,cur,rfl,_,hgg,_,_,_,htake⟩
 .simp [Value.ownBlock] at hg
 .simp [Value.ownBlock] at hg;subst hg;have hadd:(⟨g',0,none⟩:Addr).add j=⟨g',j,none⟩:=by unfold Addr.add;split<;>simp_all
  rw[hadd,cell_of_row w g' j cur e (0,0) hgg];rw[<- htake,VM] at hu;split at hu
  .simpa using hu
  .cases hu
def iu(c:Cx)(w:World)(tab:ae)(L:Nat->Value)(v:Value):aB->Prop
 | .box t cells=>∃g cs,v=.pointer (some ⟨g,0,none⟩)/\c.w0.heap.size<=g/\w.heap[g]? = some (.cells cs t (0,0))/\cs.size=cells.length/\∀(j:Nat)(x:Value)(av:AV),cs[j]? = some x->cells[j]? = some av->bL c w tab L x av/\x.oneCell'=true
 | .nest e sz rows=>(∀row∈rows,row.length=sz)/\∃xs,fc w c.w0.heap.size e sz v rows.length xs/\(∀x∈xs,x.oneCell'=true)/\∀(i j:Nat)(row:List AV)(av:AV),rows[i]? = some row->row[j]? = some av->∃x,xs[i * sz+j]? = some x/\bL c w tab L x av
 | .row e sz rows=>(∀row∈rows,row.length=sz)/\∃xs,fc w c.w0.heap.size e sz v rows.length xs/\(∀x∈xs,x.oneCell'=true)/\∀(i j:Nat)(row:List AV)(av:AV),rows[i]? = some row->row[j]? = some av->∃x,xs[i * sz+j]? = some x/\RT w (Sx c w tab L) x av
 | .map ents=>∃b es ck,v=.map (some b)/\c.w0.heap.size<=b/\w.heap[b]? = some (.map es ck)/\es.toList.map (fun e=>(e.key,e.val))=ents
 | .ghost vs env=>v=.bool false/\∀t,t<vs.size->bL c w tab L (vs.getD t undef) (aX env t)
structure iM(c:Cx)(w:World)(tab:ae)(L:Nat->Value):Prop where
 below:b8 c.X c.w0.heap.size c.w0 w
 objs:∀id o,tab.get id=some o->iu c w tab L (L id) o
 sep:∀id id' o o' g,tab.get id=some o->tab.get id'=some o' -> aL (L id)=some g->aL (L id')=some g->id=id'
 ex:∀b,c.X b->b<w.heap.size/\∀id o,tab.get id=some o->aL (L id)≠some b
theorem iM.amb{c:Cx}{w:World}{tab:ae}{L:Nat->Value}(h:iM c w tab L):Et w:=
 c.amb.keep (Vj c.amb.le h.below.size) fun k hk=>h.below.block k (UY hk c.amb.le) fun hx=>by have:=c.exD k hx;omega
theorem iM.sok{c:Cx}{w:World}{tab:ae}{L:Nat->Value}(h:iM c w tab L):FJ w (Sx c w tab L):=
 ⟨fun b hb=>hb.1,h.amb,fun b hb=>⟨UY hb h.amb.le,⟨.inl (c.inF b hb),fun hx=>by have:=c.exD b hx;omega⟩,fun id o hid hg=>by
  have h1:=h.objs id o hid
  have h2:c.w0.heap.size<=b:=by
   cases o with
   | box t cells=>
    obtain⟨g,cs,h3,h4,_⟩:=h1;rw[h3] at hg;cases hg;exact h4
   | row e sz rows=>
    obtain⟨_,xs,h3,_⟩:=h1;rcases h3.2 with ⟨h4,_⟩|⟨g,cap,cur,h4,h5,_⟩
    .rw [h4] at hg;cases hg
    .rw [h4] at hg;cases hg;exact h5
   | nest e sz rows=>
    obtain⟨_,xs,h3,_⟩:=h1;rcases h3.2 with ⟨h4,_⟩|⟨g,cap,cur,h4,h5,_⟩
    .rw [h4] at hg;cases hg
    .rw [h4] at hg;cases hg;exact h5
   | map ents=>
    obtain⟨b',es,ck,h3,h4,_⟩:=h1;rw[h3] at hg;cases hg;exact h4
   | ghost vs env=>
    rw[h1.1] at hg;cases hg
  have:=c.amb.le;omega⟩⟩
def i6(base:Nat)(w:World)(S:Nat->Prop)(ds:List Deferred):Prop:=
 ds.Nodup/\∀d∈ds,∃k,d={ target:=.collected k,args:=#[] } /\ base<=k/\w.heap[k]? = some (.deferred (some []))/\S k
theorem i6.nil(base:Nat)(w:World)(S:Nat->Prop):i6 base w S []:=⟨List.nodup_nil,fun d hd=>(by cases hd)⟩
theorem i6.mono{base:Nat}{w w':World}{S S':Nat->Prop}{ds:List Deferred}(h:i6 base w S ds)(hb:∀b,S b->w'.heap[b]? = w.heap[b]?)(hS:∀b,S b->S' b):i6 base w' S' ds:=
 ⟨h.1,fun d hd=>(h.2 d hd).elim fun k hk=>⟨k,hk.1,hk.2.1,(hb k hk.2.2.2).trans hk.2.2.1,hS k hk.2.2.2⟩⟩
structure aH(c:Cx)(a:Act)(w:World)(st:aj)(L:Nat->Value):Prop where
 lay:iM c w st.tab L
 size:a.tmps.size=st.n
 defers:i6 c.w0.heap.size w (Sx c w st.tab L) a.defers
 young:∀id o,st.tab.get id=some o->id<st.next/\o.lt st.next
 env:∀t,bL c w st.tab L (a.tmps.getD t undef) (st.get t)/\(st.get t).lt st.next
end
section
def bU(P:Program)(t:TypeId):Bool:=match P.underlying t with|some (.struct _)|some (.array _ _)=>true|_=>false
def aq(P:Program)(t:TypeId):Nat:=match P.underlying t,P.info? t with|some _,some i=>i.size|_,_=>0
def bA(P:Program)(t:TypeId):Nat×Nat:=match P.underlying t with|some (.slice e)=>(e,aq P e)|_=>(0,0)
def bT(P:Program)(s:TypeId)(f:Nat):Option Nat:=match P.underlying s with
 | some (.struct fields)=>match fields[f]? with
  | some fd=>if aq P fd.type=0 then none else some fd.offset
  | none=>none
 | _=>none
def KY(P:Program)(s:TypeId)(f:Nat):TypeId:=match P.underlying s with
 | some (.struct fields)=>match fields[f]? with
  | some fd=>fd.type
  | none=>0
 | _=>0
def tI(P:Program)(t:TypeId):Option IntKind:=match P.underlying t with|some (.int k)=>some k|_=>none
inductive Q5 where|bool|int|str|slice|other
def zM(P:Program)(t:TypeId):Q5:=match P.underlying t with|some .bool=>.bool|some (.int _)=>.int|some .string=>.str|some (.slice _)=>.slice|_=>.other
section
variable {P:Program} {t:TypeId}
theorem rH(h:bU P t=true)(w:World):(isAgg t).run P w=.ok true w:=by
 unfold bU at h
 cases hu:P.underlying t with
 | none=>simp[hu] at h
 | some d=>
  unfold isAgg;rw[Sem.run_bind,run_underlying hu w];cases d<;>simp_all
theorem qK{d:TypeDesc}(hu:P.underlying t=some d)(h:bU P t=false)(w:World):(isAgg t).run P w=.ok false w:=by
 unfold bU at h;unfold isAgg;rw[Sem.run_bind,run_underlying hu w];cases d<;>simp_all
theorem nA(h:0<aq P t):∃d i,P.underlying t=some d/\P.info? t=some i/\i.size=aq P t:=by
 unfold aq at *;cases hu:P.underlying t<;>cases hi:P.info? t<;>simp_all
theorem dK(h:0<aq P t)(w:World):(sizeOf t).run P w=.ok (aq P t) w:=by
 obtain⟨d,i,_,hi,he⟩:=nA h;simp[sizeOf,typeInfo,hi,he]
end
def bb(st:aj):Operand->AV
 | .tmp t=>st.get t
 | .const v=>.c v
 | .func f=>.c (.func (.func f) #[] #[])
 | .global _=>.any
def ou(P:Program)(t:TypeId)(cs:List AV)(K:AV->Prop):Prop:=
 0<aq P t/\aq P t<=cs.length/\if bU P t=true then K (.agg (cs.take (aq P t))) else K (cs.headD .any)
def kC(P:Program)(t:TypeId)(tab:ae)(x:AV)(K:AV->Prop):Prop:=
 match x with
 | .rp cs=>ou P t cs K
 | .op id i j=>match tab.get id with
  | some (.box _ cells)=>i=0/\ou P t (cells.drop j) K
  | some (.row _ _ rows)=>i<rows.length/\ou P t ((rows[i]?.getD []).drop j) K
  | some (.nest _ _ rows)=>i<rows.length/\ou P t ((rows[i]?.getD []).drop j) K
  | _=>False
 | _=>False
def nw(P:Program)(s:TypeId)(tab:ae)(x:AV)(f:Nat)(K:AV->Prop):Prop:=
 match bT P s f with
 | some d=>match x with
  | .rp cs=>K (.rp (cs.drop d))
  | .op id i j=>match tab.get id with
   | some _=>K (.op id i (j+d))
   | none=>False
  | _=>False
 | none=>False
def iW(P:Program)(t:TypeId):Nat×Nat:=match P.underlying t with|some (.array n e)=>(n,aq P e)|_=>(0,0)
def ju(P:Program)(t:TypeId)(tab:ae)(x ix:AV)(K:AV->Prop):Prop:=
 match ix with
 | .c (.int _ n)=>match x with
  | .op id i j=>match tab.get id with
   | some _=>0<(iW P t).2/\0<=n/\n<(iW P t).1/\K (.op id i (j+n.toNat * (iW P t).2))
   | none=>False
  | .rp cs=>0<(iW P t).2/\0<=n/\n<(iW P t).1/\K (.rp (cs.drop (n.toNat * (iW P t).2)))
  | .sl sz rows=>(bA P t).2=sz/\0<sz/\0<=n/\n<rows.length/\K (.rp (rows[n.toNat]?.getD []))
  | .osl id=>match tab.get id with
   | some (.row _ sz rows)=>(bA P t).2=sz/\0<sz/\0<=n/\n<rows.length/\K (.op id n.toNat 0)
   | some (.nest _ sz rows)=>(bA P t).2=sz/\0<sz/\0<=n/\n<rows.length/\K (.op id n.toNat 0)
   | _=>False
  | _=>False
 | _=>False
def r3(P:Program)(t:TypeId)(tab:ae)(x:AV)(K:AV->Prop):Prop:=
 match x with
 | .sl _ rows=>(bA P t).2≠0/\K (.c (.int .i64 rows.length))
 | .osl id=>match tab.get id with
  | some (.row _ _ rows)=>(bA P t).2≠0/\K (.c (.int .i64 rows.length))
  | some (.nest _ _ rows)=>(bA P t).2≠0/\K (.c (.int .i64 rows.length))
  | _=>False
 | .c (.slice _ n _)=>(bA P t).2≠0/\K (.c (.int .i64 n))
 | .c (.string s)=>zM P t=.str/\K (.c (.int .i64 s.size))
 | _=>False
def fK(op:BinOp)(k:Q5):Value->Value->Option Value
 | .int i a,.int j b=>if i=j then
   match op with
   | .add=>some (.int i (i.wrap (a+b)))
   | .sub=>some (.int i (i.wrap (a-b)))
   | .mul=>some (.int i (i.wrap (a * b)))
   | .quo=>if b=0 then none else some (.int i (i.wrap (a.tdiv b)))
   | .rem=>if b=0 then none else some (.int i (a.tmod b))
   | .eql=>some (.bool (a == b))
   | .neq=>some (.bool (a != b))
   | .lss=>some (.bool (decide (a<b)))
   | .leq=>some (.bool (decide (a<=b)))
   | .gtr=>some (.bool (decide (b<a)))
   | .geq=>some (.bool (decide (b<=a)))
   | .and=>some (.int i (bits .and i a b))
   | .or=>some (.int i (bits .or i a b))
   | .xor=>some (.int i (bits .xor i a b))
   | .andNot=>some (.int i (bits .andNot i a b))
   | .shl=>if b<0 then none else some (.int i (i.wrap (a * 2 ^ (min b.toNat i.bits))))
   | .shr=>if b<0 then none else some (.int i (a.fdiv (2 ^ (min b.toNat i.bits))))
  else none
 | .bool a,.bool b=>match k,op with
   | .bool,.eql=>some (.bool (a == b))
   | .bool,.neq=>some (.bool (!(a == b)))
   | _,_=>none
 | .string a,.string b=>match op with
   | .eql=>some (.bool (a == b))
   | .neq=>some (.bool (!(a == b)))
   | .add=>if a.size+b.size<=9223372036854775807 then some (.string (a ++ b)) else none
   | _=>none
 | .slice none _ _,.slice none _ _=>match k,op with
   | .slice,.eql=>some (.bool true)
   | .slice,.neq=>some (.bool false)
   | _,_=>none
 | _,_=>none
def Ai(op:BinOp)(k:Q5)(rows:List (List AV))(b:Value)(K:AV->Prop):Prop:=
 match k,op,b with
 | .slice,.eql,.slice none 0 0=>∀c:Bool,(c=true->rows=[])->K (.c (.bool c))
 | .slice,.neq,.slice none 0 0=>∀c:Bool,(c=false->rows=[])->K (.c (.bool c))
 | _,_,_=>False
def Pz(f:Int->Int->Int):List AV->(AV->Prop)->Prop
 | [.c (.int k a),.c (.int _ b)],K=>K (.c (.int k (f a b)))
 | _,_=>False
def PH(op:UnOp):Value->Option Value
 | .bool b=>match op with | .not=>some (.bool (!b))|_=>none
 | .int k n=>match op with | .neg=>some (.int k (k.wrap (0-n)))|_=>none
 | _=>none
def ta:List AV->Option (List Value)
 | []=>some []
 | .c v :: l=>match ta l with
  | some vs=>some (v :: vs)
  | none=>none
 | _=>none
def tU(P:Program)(op:BinOp)(t:TypeId)(a b r:Value):Prop:=∀(w:World)(x y:Operand),(do eqGuard op t x y a b;binOp op t a b:Sem Value).run P w=.ok r w
def Es(P:Program)(op:BinOp)(t:TypeId)(K:AV->Prop):Option (List Value)->Option (List Value)->Prop
 | some vs,some us=>∃r,tU P op t (.agg vs.toArray) (.agg us.toArray) r/\K (.c r)
 | _,_=>False
def ww(P:Program)(op:BinOp)(t:TypeId)(x y:AV)(K:AV->Prop):Prop:=
 match x,y with
 | .c a,.c b=>match fK op (zM P t) a b with
  | some v=>K (.c v)
  | none=>False
 | .agg xs,.agg ys=>Es P op t K (ta xs) (ta ys)
 | .sl _ rows,.c b=>Ai op (zM P t) rows b K
 | _,_=>False
def So(op:UnOp)(x:AV)(K:AV->Prop):Prop:=
 match x with
 | .c a=>match PH op a with
  | some v=>K (.c v)
  | none=>False
 | _=>False
def Uu(t:Bool)(a b:AV)(K:AV->Prop):Prop:=match t with|true=>K a|false=>K b
def Lj(c a b:AV)(K:AV->Prop):Prop:=
 match c with
 | .c (.bool t)=>Uu t a b K
 | _=>False
def ko(x:AV)(i:Nat)(K:AV->Prop):Prop:=
 match x with
 | .tup vs=>i<vs.length/\K (vs[i]?.getD .any)
 | _=>False
def DY(P:Program)(src dst:TypeId)(x:AV)(K:AV->Prop):Prop:=
 match tI P src,tI P dst,x with
 | some _,some k,.c (.int _ n)=>K (.c (.int k (k.wrap n)))
 | _,_,_=>False
def rg(P:Program)(s:TypeId)(x:AV)(f:Nat)(K:AV->Prop):Prop:=
 match bT P s f with
 | some d=>match x with
  | .agg cs=>d+aq P (KY P s f)<=cs.length/\if bU P (KY P s f)=true then K (.agg ((cs.drop d).take (aq P (KY P s f)))) else K ((cs.drop d).headD .any)
  | _=>False
 | none=>False
def O8(f:Fn)(b:Bool)(cs:List AV)(K:AV->Prop):Prop:=
 match f,b with
 | .func g,true=>K (.fn g cs)
 | _,_=>False
def DQ(f:Fn)(b:Bool)(bs:List AV)(K:AV->Prop):Prop:=
 match f,b with
 | .func g,true=>K (.bfn g bs)
 | _,_=>False
def HZ(d:Int):Option AV->Option Int
 | none=>some d
 | some (.c (.int _ n))=>some n
 | _=>none
def ri(P:Program)(t:TypeId)(sz:Nat)(rows:List (List AV))(K:AV->Prop):Option Int->Option Int->Option AV->Prop
 | some l,some h,none=>((bA P t).2=sz/\0<sz)/\(0<=l/\l<=h/\h<=(rows.length:Int))/\K (.sl sz ((rows.take h.toNat).drop l.toNat))
 | _,_,_=>False
def rf(P:Program)(t:TypeId)(s:ByteArray)(K:AV->Prop):Option Int->Option Int->Option AV->Prop
 | some l,some h,none=>zM P t=.str/\(0<=l/\l<=h/\h<=(s.size:Int))/\K (.c (.string (s.extract l.toNat h.toNat)))
 | _,_,_=>False
def mc(P:Program)(t:TypeId)(x:AV)(lo hi mx:Option AV)(K:AV->Prop):Prop:=
 match x with
 | .sl sz rows=>ri P t sz rows K (HZ 0 lo) (HZ rows.length hi) mx
 | .c (.string s)=>rf P t s K (HZ 0 lo) (HZ s.size hi) mx
 | _=>False
def Cb(tab:ae)(x:AV)(K:AV->Prop):Prop:=
 match x with
 | .rp cs=>K (.rp cs)
 | .op id i j=>match tab.get id with
  | some _=>K (.op id i j)
  | none=>False
 | _=>False
def cj(P:Program)(tab:ae)(ev:Operand->AV)(o:Op)(K:AV->Prop):Prop:=
 match o with
 | .move x=>K (ev x)
 | .assign x=>K (ev x)
 | .pick c a b=>Lj (ev c) (ev a) (ev b) K
 | .load t x=>kC P t tab (ev x) K
 | .fieldAddr s x f=>nw P s tab (ev x) f K
 | .indexAddr t x ix=>ju P t tab (ev x) (ev ix) K
 | .field s x f=>rg P s (ev x) f K
 | .binOp op t x y _=>ww P op t (ev x) (ev y) K
 | .unOp op _ x=>So op (ev x) K
 | .extract x i=>ko (ev x) i K
 | .convert s d x=>DY P s d (ev x) K
 | .call c=>match c.callee with
  | .builtin .len=>match c.args.toList,c.argTypes.toList with
   | [x],[t]=>r3 P t tab (ev x) K
   | _,_=>False
  | .builtin .max=>Pz (fun a b=>max a b) (c.args.toList.map ev) K
  | .builtin .min=>Pz (fun a b=>min a b) (c.args.toList.map ev) K
  | _=>False
 | .makeFunc f first caps=>O8 f (first.size == 0) (caps.toList.map ev) K\/DQ f (caps.size == 0 && !(first.size == 0)) (first.toList.map ev) K
 | .slice t x lo hi mx=>mc P t (ev x) (lo.map ev) (hi.map ev) (mx.map ev) K
 | .nilCheck x=>Cb tab (ev x) K
 | _=>False
def Oa(P:Program)(cx:Cx)(w:World)(tab:ae)(L:Nat->Value)(nx:Nat)(K:AV->Prop)(s:Sem Value):Prop:=
 ∃v av,K av/\bL cx w tab L v av/\av.lt nx/\∀w',Below w.heap.size w w' -> s.run P w'=.ok v w'
def mJ(P:Program)(cx:Cx)(w:World)(tab:ae)(L:Nat->Value)(nx:Nat)(K:AV->Prop)(s:Sem Value):Prop:=
 ∃v av,K av/\bL cx w tab L v av/\av.lt nx/\∀w',s.run P w'=.ok v w'
section
variable {P:Program} {cx:Cx} {w:World} {tab:ae} {L:Nat->Value} {nx:Nat} {K:AV->Prop}
def vG(b:Nat)(w w':World):Prop:=∀(o:Nat)(u:Value),w.cell? ⟨b,o,none⟩=some u->w'.cell? ⟨b,o,none⟩=some u
def oO(P:Program)(cx:Cx)(w:World)(tab:ae)(L:Nat->Value)(nx:Nat)(K:AV->Prop)(v:Value)(s:Sem Value):Prop:=
 ∃u av,K av/\bL cx w tab L u av/\av.lt nx/\∃b,aL v=some b/\∀w',vG b w w' -> s.run P w'=.ok u w'
theorem oO.one{v:Value}{s:Sem Value}(h:oO P cx w tab L nx K v s):Oa P cx w tab L nx K s:=by
 obtain⟨u,av,h1,h2,h3,b,_,h4⟩:=h;exact⟨u,av,h1,h2,h3,fun w' hw'=>h4 w' fun o u hu=>(hw'.cell (World.block_lt_of_cell? w _ hu)).trans hu⟩
omit tab L nx K in
theorem qj{f:Nat->Value}{n j:Nat}{x:Value}(h:((List.range n).map f)[j]? = some x):j<n/\f j=x:=by
 obtain⟨hj,he⟩:=US.1 h;simp at hj he;exact⟨hj,he⟩
theorem xF{t:TypeId}{b o:Nat}{cs:List AV}(hc:∀j av,cs[j]? = some av->∃u,w.cell? ⟨b,o+j,none⟩=some u/\bL cx w tab L u av)(hl:AV.ltL nx cs)(h:ou P t cs K) :
  oO P cx w tab L nx K (.pointer (some ⟨b,o,none⟩)) (Instr.loadAt t (.pointer (some ⟨b,o,none⟩))):=by
 obtain⟨h0,h1,h2⟩:=h;obtain⟨d,i,hu,hi,he⟩:=nA h0
 cases ha:bU P t with
 | true=>
  rw[UZ ha] at h2
  obtain⟨f,hf⟩:∃f:Nat->Value,∀j av,(cs.take (aq P t))[j]? = some av->w.cell? ⟨b,o+j,none⟩=some (f j)/\bL cx w tab L (f j) av:=by
   refine⟨fun j=>(w.cell? ⟨b,o+j,none⟩).getD undef,fun j av hj=>?_⟩;rw[VM] at hj;split at hj
   .obtain ⟨u,hu,hr⟩:=hc j av hj;simp only[hu,Vi];exact⟨trivial,hr⟩
   .cases hj
  have hlen:(cs.take (aq P t)).length=aq P t:=by rw[U2];omega
  refine⟨.agg ((List.range (aq P t)).map f).toArray,_,h2,.agg _ _ (by simp[hlen]) (fun j x av hx hav=>?_),?_,b,rfl,fun w' hb=>?_⟩
  .have:=(hf j av hav).2;rw[WB] at hx;obtain⟨_,rfl⟩:=qj hx;exact this
  .show AV.ltL nx _;rw[ah] at hl ⊢;exact fun a ha=>hl a (Vt ha)
  .have hcl:=run_loadCells_list (P:=P) w' ⟨b,o,none⟩ ((List.range (aq P t)).map f) (fun j v hv=>by
    obtain⟨hj,rfl⟩:=qj hv;rw[Addr.add_lit];have hx:j<(cs.take (aq P t)).length:=(by omega);exact hb _ _ (hf j _ (p0 hx)).1)
   rw[Vd,List.length_range] at hcl;simp[Instr.loadAt,Instr.sureAddr,loadVar,Sem.run_bind,rH ha,dK h0,hcl]
 | false=>
  rw[UX (by simp[ha])] at h2
  obtain⟨av,cs',rfl⟩:∃av cs',cs=av :: cs':=by
   cases cs with
   | nil=>simp at h1;omega
   | cons a l=>exact⟨a,l,rfl⟩
  obtain⟨u,hcell,hr⟩:=hc 0 av rfl;refine⟨u,av,h2,hr,hl.1,b,rfl,fun w' hb=>?_⟩;have:=hb _ _ hcell;rw[WT] at this;simp[Instr.loadAt,Instr.sureAddr,loadVar,Sem.run_bind,qK hu ha,run_load,this]
theorem zu{cs:List AV}(h:AV.ltL nx cs)(n:Nat):AV.ltL nx (cs.drop n):=by
 rw[ah] at h ⊢;exact fun a ha=>h a (Wa ha)
theorem cN{id:Nat}{o:aB}(h:tab.get id=some o):Kx tab L id=some (o.sz,L id):=by simp[Kx,h]
theorem sf{t:TypeId}{b o:Nat}{cs:List AV}{S:Nat->Prop}(hc:∀j av,cs[j]? = some av->∃u,w.cell? ⟨b,o+j,none⟩=some u/\RT w (Sx cx w tab L) u av)(h:ou P t cs K) :
  oO P cx w tab L nx K (.pointer (some ⟨b,o,none⟩)) (Instr.loadAt t (.pointer (some ⟨b,o,none⟩))):=
 xF (fun j av hj=>by obtain⟨u,h1,h2⟩:=hc j av hj;exact⟨u,h1,.tree h2⟩) (ah.2 fun a ha=>by
  obtain⟨j,hj⟩:=VZ ha;obtain⟨u,_,h2⟩:=hc j a hj;exact h2.lt nx) h
theorem p5{e:TypeId}{sz:Nat}{v:Value}{rows:List (List AV)}{g:Nat}(h:iu cx w tab L v (.row e sz rows))(hg:aL v=some g){i:Nat}(hi:i<rows.length)(j:Nat)(av:AV)(hj:(rows[i]?.getD [])[j]? = some av) :
  ∃u,w.cell? ⟨g,i * sz+j,none⟩=some u/\RT w (Sx cx w tab L) u av:=by
 obtain⟨hsz,xs,hown,_,hx⟩:=h;rw[p0 hi,Vi] at hj;obtain⟨x,h1,h2⟩:=hx i j _ av (p0 hi) hj;refine⟨x,?_,h2⟩;rcases hown.2 with ⟨rfl,h0⟩|⟨g',cap,cur,rfl,_⟩
 .omega
 .have hc:=hown.cells (g:=g') rfl _ x h1;simp[aL] at hg;subst hg
  rwa [ig] at hc
theorem Cp{e:TypeId}{sz:Nat}{v:Value}{rows:List (List AV)}{g:Nat}(h:iu cx w tab L v (.nest e sz rows))(hg:aL v=some g){i:Nat}(hi:i<rows.length)(j:Nat)(av:AV)(hj:(rows[i]?.getD [])[j]? = some av) :
  ∃u,w.cell? ⟨g,i * sz+j,none⟩=some u/\bL cx w tab L u av:=by
 obtain⟨hsz,xs,hown,_,hx⟩:=h;rw[p0 hi,Vi] at hj;obtain⟨x,h1,h2⟩:=hx i j _ av (p0 hi) hj;refine⟨x,?_,h2⟩;rcases hown.2 with ⟨rfl,h0⟩|⟨g',cap,cur,rfl,_⟩
 .omega
 .have hc:=hown.cells (g:=g') rfl _ x h1;simp[aL] at hg;subst hg
  rwa [ig] at hc
theorem p6{t:TypeId}{v:Value}{cells:List AV}{g:Nat}(h:iu cx w tab L v (.box t cells))(hg:aL v=some g)(j:Nat)(av:AV)(hj:cells[j]? = some av) :
  ∃u,w.cell? ⟨g,j,none⟩=some u/\bL cx w tab L u av:=by
 obtain⟨g',cs,rfl,_,hheap,hn,hx⟩:=h;simp[aL] at hg;subst hg;have hlt:j<cs.size:=by rw[hn];exact(US.1 hj).1
 exact⟨cs[j],by rw[cell_of_row w g' j cs t (0,0) hheap];exact UT hlt,(hx j _ av (UT hlt) hj).1⟩
theorem xQ{t:TypeId}{v:Value}{x:AV}(hL:iM cx w tab L)(hy:∀id o,tab.get id=some o->o.lt nx)(hv:bL cx w tab L v x)(h:kC P t tab x K):oO P cx w tab L nx K v (Instr.loadAt t v):=by
 unfold kC at h;split at h
 .rename_i cs;obtain⟨b,o,U,rfl,hb,hcell,hr⟩:=hv.rp_inv;exact sf (S:=fun _=>True) (fun j av hj=>⟨U j,hcell j av hj,hr j av hj⟩) h
 .rename_i id i j;split at h
  .rename_i ty cells hid;obtain⟨rfl,h⟩:=h;obtain⟨g,hg,rfl⟩:=hv.op_inv _ _ (cN hid);have ho:=hL.objs id _ hid;simp only[aB.sz,W5,We];refine xF (fun k av hk=>?_) (zu (hy id _ hid) j) h;rw[VJ] at hk;exact p6 ho hg (j+k) av hk
  .rename_i e sz rows hid;obtain⟨hi,h⟩:=h;obtain⟨g,hg,rfl⟩:=hv.op_inv _ _ (cN hid);have ho:=hL.objs id _ hid;refine sf (S:=fun _=>True) (fun k av hk=>?_) h;rw[VJ] at hk;have:=p5 ho hg hi (j+k) av hk
   rwa [<- Ww] at this
  .rename_i e sz rows hid;obtain⟨hi,h⟩:=h;obtain⟨g,hg,rfl⟩:=hv.op_inv _ _ (cN hid);have ho:=hL.objs id _ hid;refine xF (fun k av hk=>?_) (zu (hy id _ hid _ (by rw[p0 hi,Vi];exact UQ hi)) j) h;rw[VJ] at hk;have:=Cp ho hg hi (j+k) av hk
   rwa [<- Ww] at this
  .exact h.elim
 .exact h.elim
theorem vF{s:TypeId}{f d:Nat}(h:bT P s f=some d):∃fields fd,P.underlying s=some (.struct fields)/\fields[f]? = some fd/\0<aq P fd.type/\fd.offset=d:=by
 unfold bT at h;split at h
 .rename_i fields hu;split at h
  .rename_i fd hf;split at h
   .cases h
   .rename_i h0;cases h;exact⟨fields,fd,hu,hf,by omega,rfl⟩
  .cases h
 .cases h
theorem qq{s:TypeId}{f d:Nat}(h:bT P s f=some d)(b o:Nat)(w:World):(Instr.fieldAt s (.pointer (some ⟨b,o,none⟩)) f).run P w=.ok (.pointer (some ⟨b,o+d,none⟩)) w:=by
 obtain⟨fields,fd,hu,hf,h0,rfl⟩:=vF h;simp[Instr.fieldAt,Sem.run_bind,run_underlying hu,hf,Instr.sureAddr,fieldPlace,dK h0,Nat.ne_of_gt h0,Addr.add_lit]
theorem Mb{s:TypeId}{v:Value}{x:AV}{f:Nat}(hl:x.lt nx)(hv:bL cx w tab L v x)(h:nw P s tab x f K):mJ P cx w tab L nx K (Instr.fieldAt s v f):=by
 unfold nw at h;split at h
 .rename_i d hd;split at h
  .rename_i cs;obtain⟨b,o,U,rfl,hb,hcell,hr⟩:=hv.rp_inv;refine⟨_,_,h,.tree (.rp b (o+d) (cs.drop d) (fun j=>U (d+j)) hb (fun j av hj=>?_) (fun j av hj=>?_)),trivial,fun w'=>qq hd b o w'⟩
   .rw [VJ] at hj;rw[Ww];exact hcell _ av hj
   .rw [VJ] at hj;exact hr _ av hj
  .rename_i id i j;split at h
   .rename_i ob hid;obtain⟨g,hg,rfl⟩:=hv.op_inv _ _ (cN hid);refine⟨_,_,h,.op _ id i (j+d) (fun sz' u' hk'=>?_),hl,fun w'=>qq hd _ _ w'⟩;rw[cN hid] at hk';cases hk';exact⟨g,hg,by rw[Ww]⟩
   .exact h.elim
  .exact h.elim
 .exact h.elim
theorem Hu{s:TypeId}{v:Value}{x:AV}{f:Nat}(hl:x.lt nx)(hv:bL cx w tab L v x)(h:rg P s x f K):mJ P cx w tab L nx K (Instr.field s v f):=by
 unfold rg at h;split at h
 .rename_i d hd;obtain⟨fields,fd,hu,hf,h0,rfl⟩:=vF hd;have ht:KY P s f=fd.type:=by simp[KY,hu,hf]
  rw[ht] at h;obtain⟨dd,i,hdu,hi,he⟩:=nA h0;split at h
  .rename_i cs;obtain⟨xs,rfl,hn,hr⟩:=hv.agg_inv;obtain⟨hsz,h⟩:=h
   cases ha:bU P fd.type with
   | true=>
    rw[UZ ha] at h;refine⟨.agg (xs.extract fd.offset (fd.offset+aq P fd.type)),_,h,.agg _ _ (by simp;omega) (fun j y av h1 h2=>?_),?_,fun w'=>?_⟩
    .rw [VM] at h2;split at h2
     .rename_i hj;rw[VJ] at h2;rw[Array.getElem?_extract] at h1;split at h1
      .exact hr _ y av h1 h2
      .cases h1
     .cases h2
    .exact ah.2 fun y hy=>ah.1 hl y (Wa (Vt hy))
    .simp [Instr.field,Sem.run_bind,run_underlying hu,hf,asAgg,part,rH ha,dK h0]
   | false=>
    rw[UX (by simp[ha])] at h;have hlt:fd.offset<cs.length:=(by omega);have hlt':fd.offset<xs.size:=(by omega);rw[Xe hlt,List.headD_cons] at h
    exact⟨xs[fd.offset],_,h,hr _ _ _ (UT hlt') (p0 hlt),ah.1 hl _ (UQ hlt),fun w'=>by
     simp[Instr.field,Sem.run_bind,run_underlying hu,hf,asAgg,part,qK hdu ha,UT hlt']⟩
  .exact h.elim
 .exact h.elim
theorem jv{t:TypeId}(h:0<(bA P t).2):P.underlying t=some (.slice (bA P t).1)/\aq P (bA P t).1=(bA P t).2:=by
 unfold bA at *;split at h
 .rename_i e he;exact⟨he,rfl⟩
 .simp at h
theorem lg{t:TypeId}(h:0<(bA P t).2)(b o n cap:Nat)(k:IntKind)(i:Int)(h0:0<=i)(h1:i<n)(w:World):(Instr.indexAt t (.slice (some ⟨b,o,none⟩) n cap) (.int k i)).run P w=.ok (.pointer (some ⟨b,o+i.toNat * (bA P t).2,none⟩)) w:=by
 obtain⟨hu,he⟩:=jv h;have hs:=dK (P:=P) (t:=(bA P t).1) (by omega) w;rw[he] at hs;simp[Instr.indexAt,Sem.run_bind,run_underlying hu,asIntOf,h0,h1,hs,Addr.add_lit]
theorem oE{id:Nat}{v:Value}{e:TypeId}{sz:Nat}{rows:List (List AV)}(hL:iM cx w tab L)(hid:tab.get id=some (.row e sz rows))(hv:bL cx w tab L v (.osl id)):v=L id/\∃A cap,v=.slice A rows.length cap/\(0<rows.length->∃g,A=some ⟨g,0,none⟩):=by
 have e1:=hv.osl_inv _ _ (cN hid);refine⟨e1,?_⟩;obtain⟨_,xs,hown,_⟩:=hL.objs id _ hid;rw[e1];rcases hown.2 with ⟨h1,h0⟩|⟨g,cap,cur,h1,_⟩
 .rw [h1,h0];exact⟨none,0,rfl,fun h=>by omega⟩
 .rw [h1];exact⟨_,cap,rfl,fun _=>⟨g,rfl⟩⟩
theorem kg{id:Nat}{v:Value}{e:TypeId}{sz:Nat}{rows:List (List AV)}(hL:iM cx w tab L)(hid:tab.get id=some (.nest e sz rows))(hv:bL cx w tab L v (.osl id)):v=L id/\∃A cap,v=.slice A rows.length cap/\(0<rows.length->∃g,A=some ⟨g,0,none⟩):=by
 have e1:=hv.osl_inv _ _ (cN hid);refine⟨e1,?_⟩;obtain⟨_,xs,hown,_⟩:=hL.objs id _ hid;rw[e1];rcases hown.2 with ⟨h1,h0⟩|⟨g,cap,cur,h1,_⟩
 .rw [h1,h0];exact⟨none,0,rfl,fun h=>by omega⟩
 .rw [h1];exact⟨_,cap,rfl,fun _=>⟨g,rfl⟩⟩
theorem Fo{t:TypeId}(h:0<(iW P t).2):∃e,P.underlying t=some (.array (iW P t).1 e)/\aq P e=(iW P t).2:=by
 unfold iW at *;split at h
 .rename_i n e he;exact⟨e,he,rfl⟩
 .simp at h
theorem om{t:TypeId}(h:0<(iW P t).2)(b o:Nat)(k:IntKind)(i:Int)(h0:0<=i)(h1:i<(iW P t).1)(w:World):(Instr.indexAt t (.pointer (some ⟨b,o,none⟩)) (.int k i)).run P w=.ok (.pointer (some ⟨b,o+i.toNat * (iW P t).2,none⟩)) w:=by
 obtain⟨e,hu,he⟩:=Fo h;have hs:=dK (P:=P) (t:=e) (by omega) w;rw[he] at hs;simp[Instr.indexAt,Sem.run_bind,run_underlying hu,asIntOf,Instr.sureAddr,h0,h1,hs,Addr.add_lit]
theorem K4{t:TypeId}{v u:Value}{x ix:AV}(hL:iM cx w tab L)(hl:x.lt nx)(hv:bL cx w tab L v x)(hu:bL cx w tab L u ix)(h:ju P t tab x ix K):mJ P cx w tab L nx K (Instr.indexAt t v u):=by
 unfold ju at h;split at h
 .rename_i k n;obtain rfl:=hu.c_inv;split at h
  .rename_i id i j;split at h
   .rename_i o hid;obtain⟨hpos,h0,h1,h⟩:=h;obtain⟨g,hg,rfl⟩:=hv.op_inv _ _ (cN hid);refine⟨_,_,h,.op _ id i _ (fun sz' u' hk'=>?_),hl,fun w'=>om hpos g _ k n h0 h1 w'⟩;rw[cN hid] at hk';cases hk';exact⟨g,hg,by simp[Ww]⟩
   .exact h.elim
  .rename_i cs;obtain⟨hpos,h0,h1,h⟩:=h;obtain⟨b,o,U,rfl,hb,hcell,hr⟩:=hv.rp_inv;refine⟨_,_,h,.tree (.rp b (o+n.toNat * (iW P t).2) _ (fun j=>U (n.toNat * (iW P t).2+j)) hb (fun j av hj=>?_) (fun j av hj=>?_)),trivial,fun w'=>om hpos b o k n h0 h1 w'⟩
   .rw [VJ] at hj;rw[Ww];exact hcell _ av hj
   .rw [VJ] at hj;exact hr _ av hj
  .rename_i sz rows;obtain⟨hsz,hpos,h0,h1,h⟩:=h;obtain⟨A,cap,rfl,_,_,hrow,hA⟩:=hv.sl_inv.sl_inv;obtain⟨b,o,rfl,hb,U,hcell,hr,_⟩:=hA (by omega);have hn:n.toNat<rows.length:=(by omega);rw[p0 hn,Vi] at h;refine⟨_,_,h,.tree (.rp b (o+n.toNat * (bA P t).2) _ (U n.toNat) hb (fun j av hj=>?_) (fun j av hj=>?_)),trivial,fun w'=>lg (by omega) b o _ cap k n h0 h1 w'⟩
   .rw [hsz];exact hcell n.toNat j _ av (p0 hn) hj
   .exact hr n.toNat j _ av (p0 hn) hj
  .rename_i id;split at h
   .rename_i e sz rows hid;obtain⟨hsz,hpos,h0,h1,h⟩:=h;obtain⟨hvL,A,cap,rfl,hA⟩:=oE hL hid hv;obtain⟨g,rfl⟩:=hA (by omega);refine⟨_,_,h,.op _ id n.toNat 0 (fun sz' u' hk'=>?_),hl,fun w'=>lg (by omega) g 0 _ cap k n h0 h1 w'⟩;rw[cN hid] at hk';cases hk';exact⟨g,by rw[<- hvL];rfl,by simp[aB.sz,hsz]⟩
   .rename_i e sz rows hid;obtain⟨hsz,hpos,h0,h1,h⟩:=h;obtain⟨hvL,A,cap,rfl,hA⟩:=kg hL hid hv;obtain⟨g,rfl⟩:=hA (by omega);refine⟨_,_,h,.op _ id n.toNat 0 (fun sz' u' hk'=>?_),hl,fun w'=>lg (by omega) g 0 _ cap k n h0 h1 w'⟩;rw[cN hid] at hk';cases hk';exact⟨g,by rw[<- hvL];rfl,by simp[aB.sz,hsz]⟩
   .exact h.elim
  .exact h.elim
 .exact h.elim
theorem ib{t:TypeId}(h:(bA P t).2≠0)(ty:TypeId)(A:Option Addr)(n cap:Nat)(w:World):(Builtin.len_ #[t] ty #[.slice A n cap]).run P w=.ok (.int .i64 n) w:=by
 obtain⟨hu,he⟩:=jv (Nat.pos_of_ne_zero h);simp[Builtin.len_,Sem.run_bind,run_underlying hu,goInt]
theorem Qr{t ty:TypeId}{v:Value}{x:AV}(hL:iM cx w tab L)(hv:bL cx w tab L v x)(h:r3 P t tab x K):mJ P cx w tab L nx K (Builtin.len_ #[t] ty #[v]):=by
 unfold r3 at h;split at h
 .rename_i sz rows;obtain⟨h1,h⟩:=h;obtain⟨A,cap,rfl,_⟩:=hv.sl_inv.sl_inv;exact⟨_,_,h,.tree (.c _),trivial,fun w'=>ib h1 ty A _ cap w'⟩
 .rename_i id;split at h
  .rename_i e sz rows hid;obtain⟨h1,h⟩:=h;obtain⟨_,A,cap,rfl,_⟩:=oE hL hid hv;exact⟨_,_,h,.tree (.c _),trivial,fun w'=>ib h1 ty A _ cap w'⟩
  .rename_i e sz rows hid;obtain⟨h1,h⟩:=h;obtain⟨_,A,cap,rfl,_⟩:=kg hL hid hv;exact⟨_,_,h,.tree (.c _),trivial,fun w'=>ib h1 ty A _ cap w'⟩
  .exact h.elim
 .obtain ⟨h1,h⟩:=h;obtain rfl:=hv.c_inv;exact⟨_,_,h,.tree (.c _),trivial,fun w'=>ib h1 ty _ _ _ w'⟩
 .rename_i s;obtain⟨h1,h⟩:=h;obtain rfl:=hv.c_inv
  have hu:P.underlying t=some .string:=by
   unfold zM at h1;split at h1<;>first|assumption|cases h1
  exact⟨_,_,h,.tree (.c _),trivial,fun w'=>by simp[Builtin.len_,Sem.run_bind,run_underlying hu,goInt]⟩
 .exact h.elim
theorem oL{op:BinOp}{t:TypeId}{A:Option Addr}{n c n' c':Nat}(hk:zM P t=.slice)(h:op=.eql\/op=.neq)(w:World)(x y:Operand):(do eqGuard op t x y (.slice A n c) (.slice none n' c');binOp op t (.slice A n c) (.slice none n' c'):Sem Value).run P w=.ok (.bool (if op=.eql then A.isNone else !A.isNone)) w:=by
 obtain⟨e,hu⟩:∃e,P.underlying t=some (.slice e):=by
  unfold zM at hk;split at hk<;>first|(rename_i e he;exact⟨e,he⟩)|cases hk
 have hg:(eqGuard op t x y (.slice A n c) (.slice none n' c')).run P w=.ok () w:=by
  rcases h with rfl|rfl<;>simp[eqGuard]
 have he0:∀d,(Op.equalIn (d+1) t (.slice A n c) (.slice none n' c')).run P w=.ok A.isNone w:=fun d=>by
  cases A<;>simp[Op.equalIn,run_underlying hu]
 have he:=he0 9999;rw[Sem.run_bind,hg];simp only[Result.andThen_ok];rcases h with rfl|rfl<;>simp only[binOp,Op.equal,Op.maxDepth,Sem.run_bind,he,Result.andThen_ok]<;>simp
theorem Ka{op:BinOp}{t:TypeId}{a b v:Value}{x y:Operand}(h:fK op (zM P t) a b=some v)(w:World):(do eqGuard op t x y a b;binOp op t a b:Sem Value).run P w=.ok v w:=by
 have hg:(eqGuard op t x y a b).run P w=.ok () w:=by
  unfold fK at h;split at h<;>first|(cases h;done)|(cases op<;>simp[eqGuard])
 rw[Sem.run_bind,hg];simp only[Result.andThen_ok];unfold fK at h;split at h
 .rename_i i p j q;split at h
  .rename_i hij;subst hij
   cases op<;>simp at h<;>first
    | (obtain⟨h0,rfl⟩:=h;simp[binOp,Op.intDiv,h0];done)
    | (obtain⟨h0,rfl⟩:=h;simp[binOp,Op.shift,Int.not_lt.2 h0];done)
    | (subst h;simp[binOp,intBits_and,intBits_or,intBits_xor,intBits_andNot];done)
    | (subst h;simp[binOp,Op.intArith,Op.intCmp];done)
  .cases h
 .rename_i p q;split at h
  .rename_i hk
   have hu:P.underlying t=some .bool:=by
    unfold zM at hk;split at hk<;>first|assumption|cases hk
   cases h;simp[binOp,Op.equal,Op.maxDepth,Sem.run_bind,run_equalIn_bool' w 9999 t p q hu]
  .rename_i hk
   have hu:P.underlying t=some .bool:=by
    unfold zM at hk;split at hk<;>first|assumption|cases hk
   cases h;simp[binOp,Op.equal,Op.maxDepth,Sem.run_bind,run_equalIn_bool' w 9999 t p q hu]
  .cases h
 .rename_i p q;cases op<;>simp at h
  case add=>
   obtain⟨h1,rfl⟩:=h
   have h2:¬(((p.size+q.size:Nat):Int) > IntKind.i64.max):=by
    have:IntKind.i64.max=9223372036854775807:=by decide
    omega
   have h3:IntKind.i64.max=9223372036854775807:=(by decide);simp[binOp,Op.stringOp,h3];omega
  all_goals
   subst h;simp[binOp,Op.stringOp,beq_toListBytes]
 .rename_i n1 c1 n2 c2;split at h
  .rename_i hk;have:=oL (A:=none) (n:=n1) (c:=c1) (n':=n2) (c':=c2) hk (.inl rfl) w x y;rw[Sem.run_bind,hg] at this;cases h;simpa using this
  .rename_i hk;have:=oL (A:=none) (n:=n1) (c:=c1) (n':=n2) (c':=c2) hk (.inr rfl) w x y;rw[Sem.run_bind,hg] at this;cases h;simpa using this
  .cases h
 .cases h
theorem Po{op:UnOp}{a v:Value}(h:PH op a=some v)(w:World):(Op.unary op a).run P w=.ok v w:=by
 unfold PH at h;split at h
 .cases op<;>simp at h;subst h;simp[Op.unary]
 .cases op<;>simp at h;subst h;simp[Op.unary,Op.intArith]
 .cases h
theorem tT:∀{cs:List AV} {vs:List Value} {xs:Array Value},ta cs=some vs->xs.size=cs.length->(∀(j:Nat)(x:Value)(av:AV),xs[j]? = some x->cs[j]? = some av->bL cx w tab L x av)->xs=vs.toArray:=by
 intro cs vs xs h hn hr
 have key:∀(cs:List AV)(vs:List Value),ta cs=some vs->∀(l:List Value),l.length=cs.length->(∀(j:Nat)(x:Value)(av:AV),l[j]? = some x->cs[j]? = some av->bL cx w tab L x av)->l=vs:=by
  intro cs
  induction cs with
  | nil=>
   intro vs h l hl _;cases h;exact VW hl
  | cons a cs ih=>
   intro vs h l hl hr
   cases l with
   | nil=>simp at hl
   | cons x l=>
    cases a with
    | c v=>
     simp only[ta] at h;split at h
     .rename_i vs' hv;cases h;have h0:=(hr 0 x (.c v) rfl rfl).c_inv;rw[h0,ih vs' hv l (by simpa using hl) (fun j y av h1 h2=>hr (j+1) y av (by simpa using h1) (by simpa using h2))]
     .cases h
    | _=>simp[ta] at h
 have:=key cs vs h xs.toList (by simpa using hn) (fun j x av h1 h2=>hr j x av (by simpa using h1) h2);rw[<- this]
theorem M3{S:Nat->Prop}{v:Value}{sz l h':Nat}{rows:List (List AV)}(hr:RT w S v (.sl sz rows))(hlh:l<=h')(hh:h'<=rows.length) :
  ∃A cap,v=.slice A rows.length cap/\rows.length<=cap/\∀s,s=sz->RT w S (sliced A l h' cap s) (.sl sz ((rows.take h').drop l)):=by
 obtain⟨A,cap,rfl,hc,hm,hs,hA⟩:=hr.sl_inv;refine⟨A,cap,rfl,hc,fun s hs'=>?_⟩;subst hs';have hlen:((rows.take h').drop l).length=h' - l:=by simp only[VO,U2];omega
 have hget:∀i row,((rows.take h').drop l)[i]? = some row->rows[l+i]? = some row:=fun i row hi=>by
  rw[VJ,VM] at hi;split at hi
  .exact hi
  .cases hi
 unfold sliced;by_cases h0:h' - l=0
 .refine .sl _ _ _ _ _ 0 0 (fun _ _=>undef) (by omega) (by omega) (by omega) (fun h=>by omega) (fun row hr'=>hs row (Vt (Wa hr'))) (fun h=>by omega) (fun i j row av h1 h2=>?_) (fun i j row av h1 h2=>?_)
  all_goals
   have:=(US.1 h1).1;omega
 .obtain ⟨b,o,rfl,hSb,U,h1,h2,h3⟩:=hA (by omega);rw[UX (by omega),Vz,Addr.add_lit];refine .sl _ _ _ _ _ b (o+l * s) (fun i j=>U (l+i) j) hlen.symm (by omega) (by omega) (fun _=>⟨rfl,hSb⟩) (fun row hr'=>hs row (Vt (Wa hr'))) (fun _ i j row av h4 h5=>?_) (fun i j row av h4 h5=>?_) (fun i j row av h4 h5=>?_)
  .have:=h1 (l+i) j row av (hget i row h4) h5
   rwa [V3,<- Ww] at this
  .exact h3 (l+i) j row av (hget i row h4) h5
  .exact h2 (l+i) j row av (hget i row h4) h5
def L7(d n:Nat)(o:Option Value):Prop:=(o=none/\n=d)\/∃k,o=some (.int k n)
theorem gX{isS:Bool}{w:World}{len cap l h' m:Nat}{lo hi mx:Option Value}(h1:L7 0 l lo)(h2:L7 len h' hi)(h3:(mx=none/\m=cap)\/(m=h' /\ (∃k,mx=some (.int k m))/\hi≠none))(hlh:l<=h')(hh:h'<=cap):(Instr.sliceBounds isS len cap lo hi mx).run P w=.ok (l,h',m) w:=by
 rcases h1 with ⟨rfl,rfl⟩|⟨k1,rfl⟩<;>rcases h2 with ⟨rfl,rfl⟩|⟨k2,rfl⟩<;>rcases h3 with ⟨rfl,rfl⟩|⟨rfl,⟨k3,rfl⟩,h4⟩ <;>
  first
  | exact absurd rfl h4
  | (simp[Instr.sliceBounds,run_sliceBound,hlh,hh];done)
  | (simp[Instr.sliceBounds,run_sliceBound,hlh,hh];omega)
theorem qE{d n:Nat}{o:Option Operand}{ρ:Operand->Value}{ev:Operand->AV}{l:Int}(he:∀x,bL cx w tab L (ρ x) (ev x))(h:HZ (d:Int) (o.map ev)=some l)(h0:0<=l)(hn:n=l.toNat):L7 d n (o.map ρ):=by
 cases o with
 | none=>
  simp[HZ] at h;exact .inl ⟨rfl,by omega⟩
 | some x=>
  simp only[Vz] at h ⊢;unfold HZ at h;split at h
  .rename_i hx;cases hx
  .rename_i k m hx
   injection hx with hx
   have:=he x;rw[hx] at this
   injection h with h
   subst h;rw[this.c_inv];exact .inr ⟨k,by rw[hn,Int.toNat_of_nonneg h0]⟩
  .cases h
theorem Lf{t:TypeId}{v:Value}{x:AV}{lo hi mx:Option Operand}{ρ:Operand->Value}{ev:Operand->AV}(he:∀x,bL cx w tab L (ρ x) (ev x))(hv:bL cx w tab L v x)(h:mc P t x (lo.map ev) (hi.map ev) (mx.map ev) K) :
  mJ P cx w tab L nx K (Instr.sliceAt t v (lo.map ρ) (hi.map ρ) (mx.map ρ)):=by
 unfold mc at h;split at h
 .rename_i sz rows;unfold ri at h;split at h
  .rename_i l h' hl hh hmx;obtain⟨⟨h1,h2⟩,⟨h3,h4,h5⟩,h6⟩:=h;obtain⟨hu,hsz⟩:=jv (P:=P) (t:=t) (by omega);obtain⟨A,cap,rfl,hc,hp⟩:=M3 (l:=l.toNat) (h':=h'.toNat) hv.sl_inv (by omega) (by omega);have hmx':mx=none:=by cases mx<;>first|rfl|cases hmx
   subst hmx';refine⟨_,_,h6,.tree (hp sz rfl),trivial,fun w'=>?_⟩;have hb:=gX (P:=P) (w:=w') (isS:=true) (cap:=cap) (m:=cap) (mx:=none) (qE (d:=0) he hl h3 rfl) (qE he hh (by omega) rfl) (.inl ⟨rfl,rfl⟩) (by omega) (by omega);have hs:=dK (P:=P) (t:=(bA P t).1) (by omega) w';rw[hsz,h1] at hs;simp[Instr.sliceAt,Instr.slice,Sem.run_bind,run_underlying hu,hb,hs,sliced]
  .exact h.elim
 .rename_i s;unfold rf at h;split at h
  .rename_i l h' hl hh hmx;obtain⟨h1,⟨h3,h4,h5⟩,h6⟩:=h;obtain rfl:=hv.c_inv
   have hu:P.underlying t=some .string:=by
    unfold zM at h1;split at h1<;>first|assumption|cases h1
   have hmx':mx=none:=by cases mx<;>first|rfl|cases hmx
   subst hmx';refine⟨_,_,h6,.tree (.c _),trivial,fun w'=>?_⟩;have hb:=gX (P:=P) (w:=w') (isS:=false) (cap:=s.size) (m:=s.size) (mx:=none) (qE (d:=0) he hl h3 rfl) (qE he hh (by omega) rfl) (.inl ⟨rfl,rfl⟩) (by omega) (by omega);simp[Instr.sliceAt,Instr.slice,Sem.run_bind,run_underlying hu,hb]
  .exact h.elim
 .exact h.elim
theorem Eu{f:Int->Int->Int}{args:Array Operand}{ev:Operand->AV}{K:AV->Prop}(h:Pz f (args.toList.map ev) K):∃x y k a k' b,args = #[x,y]/\ev x=.c (.int k a)/\ev y=.c (.int k' b)/\K (.c (.int k (f a b))):=by
 obtain⟨l⟩:=args;unfold Pz at h;split at h
 .rename_i k a k' b hl
  cases l with
  | nil=>simp at hl
  | cons x l=>
   cases l with
   | nil=>simp at hl
   | cons y l=>
    cases l with
    | nil=>
     simp at hl;exact⟨x,y,k,a,k',b,rfl,hl.1,hl.2,h⟩
    | cons z l=>simp at hl
 .exact h.elim
def jj:Op->Bool
 | .load _ _=>true
 | _=>false
theorem li{o:Oper}{ρ:Operand->Value}{ev:Operand->AV}(hL:iM cx w tab L)(hy:∀id o,tab.get id=some o->o.lt nx)(he:∀x,bL cx w tab L (ρ x) (ev x)/\(ev x).lt nx)(h:cj P tab ev o.op K) :
  ∃v av,K av/\bL cx w tab L v av/\av.lt nx/\(∀w',Below w.heap.size w w' -> (execOp ρ o).run P w'=.ok (.value v) w')/\(jj o.op=false->∀w',(execOp ρ o).run P w'=.ok (.value v) w')/\(∀t x,o.op=.load t x->∃b,aL (ρ x)=some b/\∀w',vG b w w' -> (execOp ρ o).run P w'=.ok (.value v) w'):=by
 have mk:jj o.op=false->∀v av,K av->bL cx w tab L v av->av.lt nx->(∀w',(execOp ρ o).run P w'=.ok (.value v) w')->∃v av,K av/\bL cx w tab L v av/\av.lt nx/\(∀w',Below w.heap.size w w' -> (execOp ρ o).run P w'=.ok (.value v) w')/\(jj o.op=false->∀w',(execOp ρ o).run P w'=.ok (.value v) w')/\(∀t x,o.op=.load t x->∃b,aL (ρ x)=some b/\∀w',vG b w w' -> (execOp ρ o).run P w'=.ok (.value v) w'):=
  fun hl v av h1 h2 h3 h4=>⟨v,av,h1,h2,h3,fun w' _=>h4 w',fun _ w'=>h4 w',fun t x he=>by rw[he] at hl;cases hl⟩
 have lift0:jj o.op=false->∀s:Sem Value,mJ P cx w tab L nx K s->(∀w',(execOp ρ o).run P w'=(s.run P w').andThen fun v w''=>.ok (.value v) w'')->∃v av,K av/\bL cx w tab L v av/\av.lt nx/\(∀w',Below w.heap.size w w' -> (execOp ρ o).run P w'=.ok (.value v) w')/\(jj o.op=false->∀w',(execOp ρ o).run P w'=.ok (.value v) w')/\(∀t x,o.op=.load t x->∃b,aL (ρ x)=some b/\∀w',vG b w w' -> (execOp ρ o).run P w'=.ok (.value v) w'):=by
  rintro hl s ⟨v,av,h1,h2,h3,h4⟩ hs;exact mk hl v av h1 h2 h3 fun w'=>(by rw[hs,h4 w'];rfl)
 obtain⟨dst,op,ty,pos,aft,gd⟩:=o;simp only at h;unfold cj at h;split at h
 .rename_i x;exact mk rfl _ _ h (he x).1 (he x).2 fun w'=>by simp[execOp]
 .rename_i x;exact mk rfl _ _ h (he x).1 (he x).2 fun w'=>by simp[execOp]
 .rename_i c a b;have hc:=(he c).1;unfold Lj at h;split at h
  .rename_i t hcv;rw[hcv] at hc;have hc:=hc.c_inv;cases t
   .exact mk rfl _ _ h (he b).1 (he b).2 fun w'=>by simp[execOp,hc,asBool]
   .exact mk rfl _ _ h (he a).1 (he a).2 fun w'=>by simp[execOp,hc,asBool]
  .exact h.elim
 .rename_i t x;obtain⟨u,av,h1,h2,h3,b,hb,h4⟩:=xQ hL hy (he x).1 h;have h5:∀w',vG b w w' -> (execOp ρ { dst:=dst,op:=.load t x,type:=ty,pos:=pos,after:=aft,guard:=gd }).run P w'=.ok (.value u) w':=fun w' hw'=>by simp[execOp,Sem.run_bind,h4 w' hw']
  refine⟨u,av,h1,h2,h3,fun w' hw'=>h5 w' fun o v hv=>(hw'.cell (World.block_lt_of_cell? w _ hv)).trans hv,fun h0=>(by cases h0),fun t' x' he'=>?_⟩;cases he';exact⟨b,hb,h5⟩
 .rename_i s x f;exact lift0 rfl _ (Mb (he x).2 (he x).1 h) fun w'=>by simp[execOp,Sem.run_bind]
 .rename_i t x ix;exact lift0 rfl _ (K4 hL (he x).2 (he x).1 (he ix).1 h) fun w'=>by simp[execOp,Sem.run_bind]
 .rename_i s x f;exact lift0 rfl _ (Hu (he x).2 (he x).1 h) fun w'=>by simp[execOp,Sem.run_bind]
 .rename_i op t x y _;have hx:=(he x).1;have hy:=(he y).1;unfold ww at h;split at h
  .rename_i a b ha hb;rw[ha] at hx;rw[hb] at hy;have hx:=hx.c_inv;have hy:=hy.c_inv;split at h
   .rename_i v hv;refine lift0 rfl _ ⟨v,_,h,.tree (.c v),trivial,fun w'=>Ka (x:=x) (y:=y) hv w'⟩ fun w'=>?_;simp[execOp,Sem.run_bind,hx,hy];cases (Sem.run P (eqGuard op t x y a b) w')<;>rfl
   .exact h.elim
  .rename_i xs ys ha hb;rw[ha] at hx;rw[hb] at hy;obtain⟨as1,hx,hnx,hrx⟩:=hx.agg_inv;obtain⟨bs1,hy,hny,hry⟩:=hy.agg_inv;unfold Es at h;split at h
   .rename_i vs us hvs hus;obtain rfl:=tT hvs hnx hrx;obtain rfl:=tT hus hny hry;obtain⟨r,hr,h⟩:=h;refine lift0 rfl _ ⟨r,_,h,.tree (.c r),trivial,fun w'=>hr w' x y⟩ fun w'=>?_;simp[execOp,Sem.run_bind,hx,hy];cases (Sem.run P (eqGuard op t x y (.agg vs.toArray) (.agg us.toArray)) w')<;>rfl
   .exact h.elim
  .rename_i sz rows b ha hb;rw[ha] at hx;rw[hb] at hy;have hy:=hy.c_inv;obtain⟨A,cap,hA,hc1,hc2,hc3,hc4⟩:=hx.sl_inv.sl_inv
   have hnil:A.isNone=true->rows=[]:=fun h1=>by
    rcases Xa rows.length with h2|h2
    .exact WX.1 h2
    .obtain ⟨b',o',h3,_⟩:=hc4 h2;rw[h3] at h1;cases h1
   unfold Ai at h;split at h
   .have hk:zM P t=.slice:=(by assumption);have h:=h A.isNone hnil;refine lift0 rfl _ ⟨_,_,h,.tree (.c _),trivial,fun w'=>oL (x:=x) (y:=y) (A:=A) (n:=rows.length) (c:=cap) (n':=0) (c':=0) hk (.inl rfl) w'⟩ fun w'=>?_;simp[execOp,Sem.run_bind,hA,hy];cases (Sem.run P (eqGuard _ t x y (.slice A rows.length cap) (.slice none 0 0)) w')<;>rfl
   .have hk:zM P t=.slice:=(by assumption);have h:=h (!A.isNone) (fun h1=>hnil (by simpa using h1));refine lift0 rfl _ ⟨_,_,h,.tree (.c _),trivial,fun w'=>oL (x:=x) (y:=y) (A:=A) (n:=rows.length) (c:=cap) (n':=0) (c':=0) hk (.inr rfl) w'⟩ fun w'=>?_;simp[execOp,Sem.run_bind,hA,hy];cases (Sem.run P (eqGuard _ t x y (.slice A rows.length cap) (.slice none 0 0)) w')<;>rfl
   .exact h.elim
  .exact h.elim
 .rename_i op t x;have hx:=(he x).1;unfold So at h;split at h
  .rename_i a ha;rw[ha] at hx;have hx:=hx.c_inv;split at h
   .rename_i v hv;exact lift0 rfl _ ⟨v,_,h,.tree (.c v),trivial,fun w'=>Po hv w'⟩ fun w'=>by simp[execOp,Sem.run_bind,hx]
   .exact h.elim
  .exact h.elim
 .rename_i x i;have hx:=(he x).1;have hl:=(he x).2;unfold ko at h;split at h
  .rename_i vs hvs;rw[hvs] at hx hl;obtain⟨xs,hxe,hn,hr⟩:=hx.tup_inv;obtain⟨hi,h⟩:=h;rw[p0 hi,Vi] at h;have hi':i<xs.size:=(by omega);exact mk rfl xs[i] _ h (hr i _ _ (UT hi') (p0 hi)) (ah.1 hl _ (UQ hi)) fun w'=>by simp[execOp,Sem.run_bind,hxe,Instr.extract,UT hi']
  .exact h.elim
 .rename_i s d x;have hx:=(he x).1;unfold DY at h;split at h
  .rename_i k0 k k1 n hs hd hxe;rw[hxe] at hx;have hx:=hx.c_inv
   have e1:P.underlying s=some (.int k0):=by
    unfold tI at hs;split at hs<;>simp_all
   have e2:P.underlying d=some (.int k):=by
    unfold tI at hd;split at hd<;>simp_all
   refine lift0 rfl _ ⟨_,_,h,.tree (.c _),trivial,fun w'=>?_⟩ fun w'=>by simp[execOp,Sem.run_bind];rfl
   rw[hx];simp[convert,Sem.run_bind,run_underlying e1,run_underlying e2,Conv.intToInt]
  .exact h.elim
 .rename_i c;obtain⟨callee,args,argTypes⟩:=c;simp only at h;split at h
  .split at h
   .rename_i x t h1 h2;obtain rfl:args = #[x]:=by cases args;simp_all
    obtain rfl:argTypes = #[t]:=by cases argTypes;simp_all
    exact lift0 rfl _ (Qr (ty:=ty) hL (he x).1 h) fun w'=>by simp[execOp,Sem.run_bind,resolve,invoke,builtin]
   .exact h.elim
  .obtain ⟨x,y,k,a,k',b,rfl,h1,h2,h3⟩:=Eu h;have hx:=(he x).1;have hy:=(he y).1;rw[h1] at hx;rw[h2] at hy;have hx:=hx.c_inv;have hy:=hy.c_inv;refine lift0 rfl (pure (.int k (max a b))) ⟨_,_,h3,.tree (.c _),trivial,fun w'=>rfl⟩ fun w'=>?_;have hm:(if b > a then b else a)=max a b:=by rw[Int.max_def];split<;>split<;>omega
   simp[execOp,Sem.run_bind,resolve,invoke,builtin,Builtin.max_,Builtin.max2,hx,hy,hm]
  .obtain ⟨x,y,k,a,k',b,rfl,h1,h2,h3⟩:=Eu h;have hx:=(he x).1;have hy:=(he y).1;rw[h1] at hx;rw[h2] at hy;have hx:=hx.c_inv;have hy:=hy.c_inv;refine lift0 rfl (pure (.int k (min a b))) ⟨_,_,h3,.tree (.c _),trivial,fun w'=>rfl⟩ fun w'=>?_;have hm:(if b<a then b else a)=min a b:=by rw[Int.min_def];split<;>split<;>omega
   simp[execOp,Sem.run_bind,resolve,invoke,builtin,Builtin.min_,Builtin.min2,hx,hy,hm]
  .exact h.elim
 .rename_i f first caps
  rcases h with h|h
  rotate_left
  .unfold DQ at h;split at h
   .rename_i g hb
    obtain rfl:caps = #[]:=by
     rw[U1] at hb;simpa using hb.1
    refine mk rfl (.func (.func g) (first.map ρ) #[]) _ h (.bfn g _ _ (by simp) fun j x av h1 h2=>?_) (ah.2 fun a ha=>?_) fun w'=>by simp[execOp,Sem.run_bind,Instr.makeFunc]
    .rw [UV] at h2;rw[Xs] at h1
     cases hj:first[j]? with
     | none=>simp[hj] at h1
     | some x=>
      rw[V0] at h2;simp[hj] at h1 h2;subst h1;subst h2;exact(he x).1
    .obtain ⟨x,_,rfl⟩:=U3.1 ha;exact(he x).2
   .exact h.elim
  unfold O8 at h;split at h
  .rename_i g hb;obtain rfl:first = #[]:=by simpa using hb
   refine mk rfl (.func (.func g) #[] (caps.map ρ)) _ h (.fn g _ _ (by simp) fun j x av h1 h2=>?_) (ah.2 fun a ha=>?_) fun w'=>by simp[execOp,Sem.run_bind,Instr.makeFunc]
   .rw [UV] at h2;rw[Xs] at h1
    cases hj:caps[j]? with
    | none=>simp[hj] at h1
    | some x=>
     rw[V0] at h2;simp[hj] at h1 h2;subst h1;subst h2;exact(he x).1
   .obtain ⟨x,_,rfl⟩:=U3.1 ha;exact(he x).2
  .exact h.elim
 .rename_i t x lo hi mx;exact lift0 rfl _ (Lf (fun x=>(he x).1) (he x).1 h) fun w'=>by simp[execOp,Sem.run_bind]
 .rename_i x;have hx:=he x;unfold Cb at h;split at h
  .rename_i cs hxe;rw[hxe] at hx;obtain⟨b,o,U,hv,_⟩:=hx.1.rp_inv;exact mk rfl (ρ x) _ h hx.1 hx.2 fun w'=>by simp[execOp,hv]
  .rename_i id i j hxe;rw[hxe] at hx;split at h
   .rename_i ob hid;obtain⟨g,hg,hv⟩:=hx.1.op_inv _ _ (cN hid);exact mk rfl (ρ x) _ h hx.1 hx.2 fun w'=>by simp[execOp,hv]
   .exact h.elim
  .exact h.elim
 .exact h.elim
end
end
section
section
variable {P:Program} {cx:Cx} {w w':World} {tab tab':ae} {L L':Nat->Value} {nx:Nat}
structure lG(cx:Cx)(w:World)(tab:ae)(L:Nat->Value)(nx:Nat)(w':World)(tab':ae)(L':Nat->Value):Prop where
 blk:∀b,Sx cx w tab L b->w'.heap[b]? = w.heap[b]?
 sub:∀b,Sx cx w tab L b->Sx cx w' tab' L' b
 loc:∀id p,id<nx->Kx tab' L' id=some p->Kx tab L id=some p
theorem lG.cell(h:lG cx w tab L nx w' tab' L'):∀p:Addr,Sx cx w tab L p.block->w'.cell? p=w.cell? p:=fun p hp=>World.cell?_of_block (h.blk p.block hp)
theorem lG.rv(h:lG cx w tab L nx w' tab' L'){x:Value}{av:AV}(hr:bL cx w tab L x av)(hl:av.lt nx):bL cx w' tab' L' x av:=hr.mono hl h.cell h.sub h.loc
theorem lG.rt(h:lG cx w tab L nx w' tab' L'){x:Value}{av:AV}(hr:RT w (Sx cx w tab L) x av):RT w' (Sx cx w' tab' L') x av:=hr.mono h.cell h.sub
theorem lG.obj(h:lG cx w tab L nx w' tab' L'){v:Value}{o:aB}(hr:iu cx w tab L v o)(hl:o.lt nx)(hg:∀g,aL v=some g->w'.heap[g]? = w.heap[g]?):iu cx w' tab' L' v o:=by
 cases o with
 | box t cells=>
  obtain⟨g,cs,rfl,hb,hh,hn,hx⟩:=hr;exact⟨g,cs,rfl,hb,(hg g rfl).trans hh,hn,fun j x av h1 h2=>⟨h.rv (hx j x av h1 h2).1 (ah.1 hl _ (r2 h2)),(hx j x av h1 h2).2⟩⟩
 | row e sz rows=>
  obtain⟨h1,xs,hown,h2,h3⟩:=hr;refine⟨h1,xs,⟨hown.1,?_⟩,h2,fun i j row av ha hb=>?_⟩
  .rcases hown.2 with hn|⟨g,cap,cur,rfl,hb,hh,rest⟩
   .exact .inl hn
   .exact .inr ⟨g,cap,cur,rfl,hb,(hg g rfl).trans hh,rest⟩
  .obtain ⟨x,hx,hr⟩:=h3 i j row av ha hb;exact⟨x,hx,h.rt hr⟩
 | nest e sz rows=>
  obtain⟨h1,xs,hown,h2,h3⟩:=hr;refine⟨h1,xs,⟨hown.1,?_⟩,h2,fun i j row av ha hb=>?_⟩
  .rcases hown.2 with hn|⟨g,cap,cur,rfl,hb,hh,rest⟩
   .exact .inl hn
   .exact .inr ⟨g,cap,cur,rfl,hb,(hg g rfl).trans hh,rest⟩
  .obtain ⟨x,hx,hr⟩:=h3 i j row av ha hb;exact⟨x,hx,h.rv hr (ah.1 (hl row (r2 ha)) _ (r2 hb))⟩
 | map ents=>
  obtain⟨g,es,ck,rfl,hb,hh,he⟩:=hr;exact⟨g,es,ck,rfl,hb,(hg g rfl).trans hh,he⟩
 | ghost vs env=>exact⟨hr.1,fun t ht=>h.rv (hr.2 t ht) (fX hl t)⟩
theorem iu.ge{v:Value}{o:aB}(h:iu cx w tab L v o){g:Nat}(hg:aL v=some g):cx.w0.heap.size<=g/\g<w.heap.size:=by
 cases o with
 | box t cells=>
  obtain⟨g',cs,rfl,hb,hh,_⟩:=h;simp[aL] at hg;subst hg;exact⟨hb,(Vm.1 hh).1⟩
 | row e sz rows=>
  obtain⟨_,xs,hown,_⟩:=h;rcases hown.2 with ⟨rfl,_⟩|⟨g',cap,cur,rfl,hb,hh,_⟩
  .simp [aL] at hg
  .simp [aL] at hg;subst hg;exact⟨hb,(Vm.1 hh).1⟩
 | nest e sz rows=>
  obtain⟨_,xs,hown,_⟩:=h;rcases hown.2 with ⟨rfl,_⟩|⟨g',cap,cur,rfl,hb,hh,_⟩
  .simp [aL] at hg
  .simp [aL] at hg;subst hg;exact⟨hb,(Vm.1 hh).1⟩
 | map ents=>
  obtain⟨b,es,ck,rfl,hb,hh,_⟩:=h;simp[aL] at hg;subst hg;exact⟨hb,(Vm.1 hh).1⟩
 | ghost vs env=>
  obtain⟨rfl,_⟩:=h;simp[aL] at hg
theorem gP(hb:Below w.heap.size w w')(hold:∀id,id<nx->tab'.get id=tab.get id/\L' id=L id)(hy:∀id o,tab.get id=some o->id<nx)
  (hnew:∀id o g,nx<=id->tab'.get id=some o->aL (L' id)=some g->w.heap.size<=g):lG cx w tab L nx w' tab' L' where
 blk b hp:=hb.block b hp.1
 sub b h:=⟨UY h.1 hb.size,h.2.1,fun id o hid hg=>by
  rcases U9 id nx with hlt|hge
  .rw [(hold id hlt).2] at hg;rw[(hold id hlt).1] at hid;exact h.2.2 id o hid hg
  .have:=hnew id o b hge hid hg;have:=h.1;omega⟩
 loc id p hlt h:=by
  unfold Kx at *;rw[(hold id hlt).1,(hold id hlt).2] at h;exact h
theorem b8.grown{X:Nat->Prop}{n:Nat}{a b c:World}{row:Option Nat}(h:b8 X n a b)(hg:b.grownBy c row)(hn:n<=b.heap.size)(hr:∀k,row=some k->n<=k):b8 X n a c:=h.trans (jo ((Below.refl n b).grown hg hn hr))
theorem vf(hL:iM cx w tab L)(hs:w.heap.size<=w'.heap.size)(hy:∀id o g,tab'.get id=some o->aL (L' id)=some g->g<w.heap.size->∃id2 o2,tab.get id2=some o2/\aL (L id2)=some g) :
  ∀b,cx.X b->b<w'.heap.size/\∀id o,tab'.get id=some o->aL (L' id)≠some b:=fun b hb=>
 ⟨UY (hL.ex b hb).1 hs,fun id o hid hg=>by
  obtain⟨id2,o2,h1,h2⟩:=hy id o b hid hg (hL.ex b hb).1;exact(hL.ex b hb).2 id2 o2 h1 h2⟩
theorem kE(hL:iM cx w tab L)(hy:∀id o,tab.get id=some o->id<nx/\o.lt nx)(hb:Below w.heap.size w w')(hold:∀id,id<nx->tab'.get id=tab.get id/\L' id=L id)
  (hobj:∀id o,nx<=id->tab'.get id=some o->iu cx w' tab' L' (L' id) o) (hnew:∀id o g,nx<=id->tab'.get id=some o->aL (L' id)=some g->w.heap.size<=g)
  (hsep:∀id id' o o' g,nx<=id->nx<=id' -> tab'.get id=some o->tab'.get id'=some o' -> aL (L' id)=some g->aL (L' id')=some g->id=id'):iM cx w' tab' L':=by
 have hext:lG cx w tab L nx w' tab' L':=gP hb hold (fun id o h=>(hy id o h).1) hnew;refine⟨hL.below.trans (jo (hb.mono hL.below.size)),fun id o hid=>?_,fun id id' o o' g h1 h2 h3 h4=>?_,fun b hb'=>⟨UY (hL.ex b hb').1 hb.size,fun id o hid hg=>?_⟩⟩
 rotate_left 2
 .rcases U9 id nx with hlt|hge
  .rw [(hold id hlt).1] at hid;rw[(hold id hlt).2] at hg;exact(hL.ex b hb').2 id o hid hg
  .have:=hnew id o b hge hid hg;have:=(hL.ex b hb').1;omega
 .rcases U9 id nx with hlt|hge
  .rw [(hold id hlt).1] at hid;rw[(hold id hlt).2];have ho:=hL.objs id o hid;exact hext.obj ho (hy id o hid).2 fun g hg=>hb.block g (ho.ge hg).2
  .exact hobj id o hge hid
 .rcases U9 id nx with hlt|hge<;>rcases U9 id' nx with hlt'|hge'
  .rw [(hold id hlt).1] at h1;rw[(hold id' hlt').1] at h2;rw[(hold id hlt).2] at h3;rw[(hold id' hlt').2] at h4;exact hL.sep id id' o o' g h1 h2 h3 h4
  .rw [(hold id hlt).1] at h1;rw[(hold id hlt).2] at h3;have:=(hL.objs id o h1).ge h3;have:=hnew id' o' g hge' h2 h4;omega
  .rw [(hold id' hlt').1] at h2;rw[(hold id' hlt').2] at h4;have:=(hL.objs id' o' h2).ge h4;have:=hnew id o g hge h1 h3;omega
  .exact hsep id id' o o' g hge hge' h1 h2 h3 h4
end
structure Fr(cx:Cx)(w:World)(tab:ae)(L:Nat->Value)(nx:Nat)(w':World)(tab':ae)(L':Nat->Value)(nx':Nat):Prop where
 ext:lG cx w tab L nx w' tab' L'
 size:w.heap.size<=w'.heap.size
 keep:∀k,k<w.heap.size->(∀id o,tab.get id=some o->aL (L id)≠some k)->w'.heap[k]? = w.heap[k]?
 young:∀id o g,tab'.get id=some o->aL (L' id)=some g->g<w.heap.size->∃id2 o2,tab.get id2=some o2/\aL (L id2)=some g
 next:nx<=nx'
structure Fz(w:World)(tab:ae)(L:Nat->Value)(w':World)(tab':ae)(L':Nat->Value):Prop where
 size:w.heap.size<=w'.heap.size
 keep:∀k,k<w.heap.size->(∀id o,tab.get id=some o->aL (L id)≠some k)->w'.heap[k]? = w.heap[k]?
 young:∀id o g,tab'.get id=some o->aL (L' id)=some g->g<w.heap.size->∃id2 o2,tab.get id2=some o2/\aL (L id2)=some g
def bp(L:Nat->Value)(id:Nat)(v:Value):Nat->Value:=fun k=>if k=id then v else L k
section
variable {P:Program} {cx:Cx} {a:Act} {w w':World} {st:aj} {L L':Nat->Value}
theorem ak(h:aH cx a w st L)(x:Operand):bL cx w st.tab L (a.eval x) (bb st x)/\(bb st x).lt st.next:=by
 cases x with
 | tmp t=>exact h.env t
 | const v=>exact⟨.tree (.c v),trivial⟩
 | global g=>exact⟨.tree (.any _),trivial⟩
 | func f=>exact⟨.tree (.c _),trivial⟩
theorem DK{dst:Option Nat}{av:AV}(t:Nat):(st.put dst av).get t=match dst with|some d=>if d<st.n/\t=d then av else st.get t|none=>st.get t:=by
 cases dst with
 | none=>rfl
 | some d=>
  unfold aj.put aj.get;simp only[aX];by_cases ht:t=d
  .subst ht;by_cases hd:t<st.n<;>simp[hd]
  .simp [ht]
theorem fJ(h:aH cx a w st L){tab':ae}{nx':Nat}{L':Nat->Value}(hL:iM cx w' tab' L')(hx:lG cx w st.tab L st.next w' tab' L')(hn:st.next<=nx')(hy:∀id o,tab'.get id=some o->id<nx' /\ o.lt nx')
  {v:Value} {av:AV} (hv:bL cx w' tab' L' v av) (hl:av.lt nx') (dst:Option Nat):aH cx (a.put dst v) w' ({ st with tab:=tab',next:=nx' }.put dst av) L':=by
 have hdef:(a.put dst v).defers=a.defers:=by
  cases dst<;>rfl
 have hsz:(a.put dst v).tmps.size=st.n:=by
  cases dst
  .exact h.size
  .simp [Act.put,h.size]
 have e1:({ st with tab:=tab',next:=nx' }.put dst av).tab=tab':=by
  cases dst<;>simp only[aj.put]
 have e2:({ st with tab:=tab',next:=nx' }.put dst av).next=nx':=by
  cases dst<;>simp only[aj.put]
 have e3:({ st with tab:=tab',next:=nx' }.put dst av).n=st.n:=by
  cases dst<;>simp only[aj.put]
 refine⟨by rw[e1];exact hL,by rw[e3];exact hsz,by rw[e1,hdef];exact h.defers.mono hx.blk hx.sub,by rw[e1,e2];exact hy,fun t=>?_⟩;rw[e1,e2,DK];have hold:=h.env t;have old:bL cx w' tab' L' (a.tmps.getD t undef) (st.get t)/\(st.get t).lt nx':=⟨hx.rv hold.1 hold.2,AV.lt_mono hn hold.2⟩
 cases dst with
 | none=>exact old
 | some d=>
  simp only[Act.put];by_cases hd:d<st.n/\t=d
  .rw [UZ hd];obtain⟨hd,rfl⟩:=hd;have:t<a.tmps.size:=by rw[h.size];exact hd
   simp only[VG,Array.getElem?_setIfInBounds_self_of_lt this,Vi];exact⟨hv,hl⟩
  .rw [UX hd]
   have e:(a.tmps.setIfInBounds d v).getD t undef=a.tmps.getD t undef:=by
    by_cases hdt:d=t
    .subst hdt;have:¬d<a.tmps.size:=by rw[h.size];simpa using hd
     rw[Array.setIfInBounds_eq_of_size_le (by omega)]
    .simp [VG,Array.getElem?_setIfInBounds_ne hdt]
   rw[e];exact old
theorem lG.refl(w:World)(tab:ae)(L:Nat->Value)(nx:Nat):lG cx w tab L nx w tab L:=⟨fun _ _=>rfl,fun _ h=>h,fun _ _ _ h=>h⟩
theorem bh(h:aH cx a w st L){v:Value}{av:AV}(hv:bL cx w st.tab L v av)(hl:av.lt st.next)(dst:Option Nat):aH cx (a.put dst v) w (st.put dst av) L:=
 fJ (tab':=st.tab) (nx':=st.next) (L':=L) h h.lay (lG.refl ..) (UU _) h.young hv hl dst
theorem j9(h:aH cx a w st L)(hb:Below w.heap.size w w'){v:Value}{ob:aB}(hnew:∀g,aL v=some g->w.heap.size<=g)(hob:lG cx w st.tab L st.next w' ((st.next,some ob) :: st.tab) (bp L st.next v)->iu cx w' ((st.next,some ob) :: st.tab) (bp L st.next v) v ob)
  (hlt:ob.lt (st.next+1)) {x:Value} {av:AV} (hv:lG cx w st.tab L st.next w' ((st.next,some ob) :: st.tab) (bp L st.next v)->bL cx w' ((st.next,some ob) :: st.tab) (bp L st.next v) x av) (hl:av.lt (st.next+1)) (dst:Option Nat) :
  aH cx (a.put dst x) w' ({ st with tab:=(st.next,some ob) :: st.tab,next:=st.next+1 }.put dst av) (bp L st.next v):=by
 have hold:∀id,id<st.next->ae.get ((st.next,some ob) :: st.tab) id=st.tab.get id/\bp L st.next v id=L id:=fun id hid=>by
  unfold bp;rw[ae.gc,UX (by omega),UX (by omega)];exact⟨rfl,rfl⟩
 have hge:∀id o,st.next<=id->ae.get ((st.next,some ob) :: st.tab) id=some o->id=st.next/\o=ob:=fun id o hid hg=>by
  rw[ae.gc] at hg;split at hg
  .rename_i e;cases hg;exact⟨e,rfl⟩
  .have:=(h.young id o hg).1;omega
 have hup:bp L st.next v st.next=v:=by simp[bp]
 have hnew':∀id o g,st.next<=id->ae.get ((st.next,some ob) :: st.tab) id=some o->aL (bp L st.next v id)=some g->w.heap.size<=g:=fun id o g h1 h2 h3=>by
  obtain⟨rfl,_⟩:=hge id o h1 h2;rw[hup] at h3;exact hnew g h3
 have hext:=gP (cx:=cx) hb hold (fun id o hid=>(h.young id o hid).1) hnew';refine fJ h (kE h.lay h.young hb hold (fun id o h1 h2=>?_) hnew' fun id id' o o' g h1 h2 h3 h4 _ _=>?_) hext (by omega) (fun id o hg=>?_) (hv hext) hl dst
 .obtain ⟨rfl,rfl⟩:=hge id o h1 h2;rw[hup];exact hob hext
 .rw [(hge id o h1 h3).1,(hge id' o' h2 h4).1]
 .rcases U9 id st.next with hlt'|hge'
  .rw [(hold id hlt').1] at hg;have:=h.young id o hg;refine⟨by omega,?_⟩
   cases o with
   | box t cells=>exact ah.2 fun x hx=>AV.lt_mono (VF _) (ah.1 this.2 x hx)
   | row=>trivial
   | map=>trivial
   | nest e sz rows=>exact fun row hr=>ah.2 fun x hx=>AV.lt_mono (VF _) (ah.1 (this.2 row hr) x hx)
   | ghost vs env=>exact dQ (VF _) this.2
  .obtain ⟨rfl,rfl⟩:=hge id o hge' hg;exact⟨by omega,hlt⟩
end
end
section
def t4(tab:ae):AV->Prop
 | .c v=>v.oneCell'=true
 | .sl _ _=>True
 | .rp _=>True
 | .osl id=>(tab.get id).isSome=true
 | .op id _ _=>(tab.get id).isSome=true
 | .fn _ _=>True
 | .bfn _ _=>True
 | _=>False
def fg(tab:ae):List AV->Prop
 | []=>True
 | a :: l=>t4 tab a/\fg tab l
def ap:AV->List AV
 | .agg cs=>cs
 | .c v=>v.cells.toList.map .c
 | av=>[av]
theorem mq{tab:ae}:∀{l:List AV},fg tab l↔ ∀a∈l,t4 tab a
 | []=>by simp[fg]
 | a :: l=>by simp[fg,mq (l:=l)]
section
variable {P:Program} {cx:Cx} {a:Act} {w w':World} {tab:ae} {st:aj} {L:Nat->Value} {nx:Nat}
theorem N8{v:Value}{o:aB}(h:iu cx w tab L v o):v.oneCell'=true/\v.cells = #[v]:=by
 cases o with
 | box t cells=>
  obtain⟨g,cs,rfl,_⟩:=h;exact⟨rfl,rfl⟩
 | row e sz rows=>
  obtain⟨_,xs,hown,_⟩:=h;rcases hown.2 with ⟨rfl,_⟩|⟨g,cap,cur,rfl,_⟩<;>exact⟨rfl,rfl⟩
 | nest e sz rows=>
  obtain⟨_,xs,hown,_⟩:=h;rcases hown.2 with ⟨rfl,_⟩|⟨g,cap,cur,rfl,_⟩<;>exact⟨rfl,rfl⟩
 | map ents=>
  obtain⟨b,es,ck,rfl,_⟩:=h;exact⟨rfl,rfl⟩
 | ghost vs env=>
  obtain⟨rfl,_⟩:=h;exact⟨rfl,rfl⟩
theorem Ej(hL:iM cx w tab L){x:Value}{av:AV}(hv:bL cx w tab L x av)(h:t4 tab av):x.oneCell'=true/\x.cells = #[x]:=by
 cases av with
 | any=>exact h.elim
 | c v=>
  obtain rfl:=hv.c_inv;refine⟨h,?_⟩;cases x<;>first|rfl|cases h
 | sl sz rows=>
  obtain⟨A,cap,rfl,_⟩:=hv.sl_inv.sl_inv;exact⟨rfl,rfl⟩
 | rp cs=>
  obtain⟨b,o,U,rfl,_⟩:=hv.rp_inv;exact⟨rfl,rfl⟩
 | osl id=>
  obtain⟨o,ho⟩:=VY.1 h;rw[hv.osl_inv _ _ (cN ho)];exact N8 (hL.objs id o ho)
 | op id i j=>
  obtain⟨o,ho⟩:=VY.1 h;obtain⟨g,_,rfl⟩:=hv.op_inv _ _ (cN ho);exact⟨rfl,rfl⟩
 | agg=>exact h.elim
 | tup=>exact h.elim
 | fn f cs=>
  obtain⟨xs,rfl,_⟩:=hv.fn_inv;exact⟨rfl,rfl⟩
 | bfn f cs=>
  obtain⟨xs,rfl,_⟩:=hv.bfn_inv;exact⟨rfl,rfl⟩
theorem ip(hL:iM cx w tab L){v:Value}{av:AV}(hv:bL cx w tab L v av)(hl:av.lt nx)(h:fg tab (ap av)) :
    v.cells.size=(ap av).length/\AV.ltL nx (ap av)/\∀(j:Nat)(x:Value)(a:AV),v.cells[j]? = some x->(ap av)[j]? = some a->bL cx w tab L x a/\x.oneCell'=true:=by
  cases av with
  | agg cs=>
    obtain⟨xs,rfl,hn,hr⟩:=hv.agg_inv;exact⟨hn,hl,fun j x a h1 h2=>⟨hr j x a h1 h2,(Ej hL (hr j x a h1 h2) (mq.1 h a (r2 h2))).1⟩⟩
  | c v'=>
    obtain rfl:=hv.c_inv;refine⟨by simp[ap],ah.2 fun a ha=>?_,fun j x a h1 h2=>?_⟩
    . simp[ap] at ha;obtain⟨y,_,rfl⟩:=ha;trivial
    . have h3:=h2;simp only[ap,UV,V0,h1,Vz,Xh] at h2;subst h2;exact⟨.tree (.c x),mq.1 h _ (r2 h3)⟩
  | _=>
    first
    | (have h1:=Ej hL hv h.1
       simp only[ap];refine⟨by simp[h1.2],⟨hl,trivial⟩,fun j x a h2 h3=>?_⟩;rw[h1.2] at h2
       cases j with
       | zero=>
         simp at h2 h3;subst h2;subst h3;exact⟨hv,h1.1⟩
       | succ j=>simp at h2)
    | exact h.1.elim
theorem pB{t:TypeId}{v:Value}{av:AV}(h:aH cx a w st L)(hv:bL cx w st.tab L v av)(hl:av.lt st.next)(h1:fg st.tab (ap av))(dst:Option Nat) :
  (Instr.box t v).run P w=.ok (.pointer (some ⟨w.heap.size,0,none⟩)) (w.alloc (.cells v.cells t)) /\
  aH cx (a.put dst (.pointer (some ⟨w.heap.size,0,none⟩))) (w.alloc (.cells v.cells t)) ({ st with tab:=(st.next,some (.box t (ap av))) :: st.tab,next:=st.next+1 }.put dst (.op st.next 0 0)) (bp L st.next (.pointer (some ⟨w.heap.size,0,none⟩))):=by
 obtain⟨hn,hlt,hc⟩:=ip h.lay hv hl h1;refine⟨by simp[Instr.box,newVar,newRow],j9 h ((Below.refl _ _).alloc (UU _) _) (fun g hg=>?_) (fun hx=>?_) ?_ (fun hx=>?_) ?_ dst⟩
 .simp [aL] at hg;omega
 .refine ⟨w.heap.size,v.cells,rfl,h.lay.below.size,heap_alloc_new w _,hn,fun j x av' h2 h3=>⟨hx.rv (hc j x av' h2 h3).1 (ah.1 hlt _ (r2 h3)),(hc j x av' h2 h3).2⟩⟩
 .exact ah.2 fun x hx=>AV.lt_mono (VF _) (ah.1 hlt x hx)
 .refine .op _ _ _ _ fun sz u hk=>?_;simp[Kx,ae.gc,bp] at hk;obtain⟨_,rfl⟩:=hk;exact⟨w.heap.size,rfl,by simp⟩
 .exact VT _
def bQ(P:Program)(t:TypeId):Option Value:=(P.info? t).bind (·.zero)
theorem Aq{t:TypeId}{z:Value}(h:bQ P t=some z)(w:World):(zeroValue t).run P w=.ok z w:=by
 unfold bQ at h
 cases hi:P.info? t with
 | none=>simp[hi] at h
 | some i=>
  have hz:i.zero=some z:=by simpa[hi] using h
  simp[zeroValue,typeInfo,hi,hz]
theorem pN{t:TypeId}{z:Value}(h:bQ P t=some z)(w:World):(Instr.alloc t true (.tuple #[])).run P w=(Instr.box t z).run P w:=by
 simp[Instr.alloc,Sem.run_bind,Aq h,Instr.box]
theorem ND{tab':ae}{o o':aB}{id g:Nat}(hid:tab.get id=some o)(hg:aL (L id)=some g)(hsz:o'.sz=o.sz)(ht:∀k,tab'.get k=if k=id then some o' else tab.get k)
  (hb:∀k,k≠g->w'.heap[k]? = w.heap[k]?) (hs:w'.heap.size=w.heap.size):lG cx w tab L nx w' tab' L where
 blk p hp:=hb p fun e=>hp.2.2 id o hid (by rw[hg,e])
 sub b h:=⟨by rw[hs];exact h.1,h.2.1,fun k ok hk=>by
  rw[ht] at hk;split at hk
  .rename_i e;subst e;exact h.2.2 _ o hid
  .exact h.2.2 k ok hk⟩
 loc k p hlt h:=by
  unfold Kx at *;rw[ht] at h;split at h
  .rename_i e;subst e;rw[hid];simpa[hsz] using h
  .exact h
theorem oz(h:aH cx a w st L){o o':aB}{id g:Nat}(hid:st.tab.get id=some o)(hg:aL (L id)=some g)(hsz:o'.sz=o.sz)(hb:∀k,k≠g->w'.heap[k]? = w.heap[k]?)(hbel:b8 cx.X cx.w0.heap.size cx.w0 w')(hs:w'.heap.size=w.heap.size)
  (hob:lG cx w st.tab L st.next w' ((id,some o') :: st.tab) L->iu cx w' ((id,some o') :: st.tab) L (L id) o') (hlt:o'.lt st.next) (dst:Option Nat):aH cx (a.put dst undef) w' ({ st with tab:=(id,some o') :: st.tab }.put dst .any) L:=by
 have ht:∀k,ae.get ((id,some o') :: st.tab) k=if k=id then some o' else st.tab.get k:=fun k=>ae.gc ..;have hext:lG cx w st.tab L st.next w' ((id,some o') :: st.tab) L:=ND hid hg hsz ht hb hs;have hy:=h.young id o hid
 have hex:∀id2 o2 g,ae.get ((id,some o') :: st.tab) id2=some o2->aL (L id2)=some g->g<w.heap.size->∃id3 o3,st.tab.get id3=some o3/\aL (L id3)=some g:=fun k ok g hk hg' _=>by
  rw[ht] at hk;split at hk
  .rename_i e;exact⟨k,o,by rw[e];exact hid,hg'⟩
  .exact ⟨k,ok,hk,hg'⟩
 refine fJ (nx':=st.next) (L':=L) h ⟨hbel,fun k ok hk=>?_,fun k k' ok ok' g' h1 h2 h3 h4=>?_,vf h.lay (by omega) hex⟩ hext (UU _) (fun k ok hk=>?_) (.tree (.any _)) trivial dst
 .rw [ht] at hk;split at hk
  .rename_i e;subst e;cases hk;exact hob hext
  .rename_i hne
   exact hext.obj (h.lay.objs k ok hk) (h.young k ok hk).2 fun g' hg'=>hb g' fun e=>by
    subst e;exact hne (h.lay.sep k id ok o _ hk hid hg' hg)
 .have:∀k ok,ae.get ((id,some o') :: st.tab) k=some ok->∃ok',st.tab.get k=some ok':=fun k ok hk=>by
   rw[ht] at hk;split at hk
   .rename_i e;exact⟨o,by rw[e];exact hid⟩
   .exact ⟨ok,hk⟩
  obtain⟨o1,ho1⟩:=this k ok h1;obtain⟨o2,ho2⟩:=this k' ok' h2;exact h.lay.sep k k' o1 o2 g' ho1 ho2 h3 h4
 .rw [ht] at hk;split at hk
  .rename_i e;cases hk;exact⟨by rw[e];exact hy.1,hlt⟩
  .exact h.young k ok hk
theorem k8{t:TypeId}{v:Value}{g o:Nat}{cur:Array Value}{e:TypeId}(h0:0<aq P t)(hs:v.cells.size=aq P t)(hg:w.heap[g]? = some (.cells cur e (0,0)))(ho:o+aq P t<=cur.size)(h1:∀x∈v.cells,x.oneCell'=true) :
  (Instr.storeAt t (.pointer (some ⟨g,o,none⟩)) v).run P w=.ok () (w.setRow g (cur.toList.take o ++ v.cells.toList ++ cur.toList.drop (o+aq P t)).toArray):=by
 have:=run_storeCells_at P g o e v.cells.toList 0 cur w hg (by simp[hs];omega) (by simpa using h1);simp[hs] at this;simp[Instr.storeAt,Instr.sureAddr,storeVar,Sem.run_bind,dK h0,hs,this]
theorem eY{α:Type}(l:List α)(o:Nat)(vs:List α)(h:o+vs.length<=l.length)(j:Nat):(l.take o ++ vs ++ l.drop (o+vs.length))[j]? = if o<=j/\j<o+vs.length then vs[j-o]? else l[j]?:=by
 have ht:(l.take o).length=o:=by rw[U2];omega
 rw[Vw];by_cases h1:j<o
 .rw [UX (by omega),Vq (by omega),VM,UZ h1]
 .rw [Vu (by omega),ht];by_cases h2:j<o+vs.length
  .rw [UZ ⟨by omega,h2⟩,Vq (by omega)]
  .rw [UX (by omega),Vu (by omega),VJ]
   congr 1
   omega
theorem kY{t ty:TypeId}{p v:Value}{id j:Nat}{cells:List AV}{av:AV}(h:aH cx a w st L)(hp:bL cx w st.tab L p (.op id 0 j))(hid:st.tab.get id=some (.box ty cells))(hv:bL cx w st.tab L v av)(hl:av.lt st.next)
  (h0:0<aq P t) (hs:(ap av).length=aq P t) (ho:j+aq P t<=cells.length) (h1:fg st.tab (ap av)) (dst:Option Nat) :
  ∃w',(Instr.storeAt t p v).run P w=.ok () w' /\ aH cx (a.put dst undef) w' ({ st with tab:=(id,some (.box ty (cells.take j ++ ap av ++ cells.drop (j+aq P t)))) :: st.tab }.put dst .any) L /\
   w'.heap.size=w.heap.size/\∀k,aL (L id)≠some k->w'.heap[k]? = w.heap[k]?:=by
 obtain⟨hn,hlt,hc⟩:=ip h.lay hv hl h1;obtain⟨g,hg,rfl⟩:=hp.op_inv _ _ (cN hid);have hob:=h.lay.objs id _ hid;obtain⟨g',cs,hL,hbg,hheap,hcs,hx⟩:=hob
 have hgg:g=g':=by
  rw[hL] at hg;simpa[aL] using hg.symm
 subst hgg;simp only[W5,We];refine⟨_,k8 h0 (by omega) hheap (by omega) (fun x hx'=>?_),?_,by simp,fun k hk=>setRow_other w g k _ fun e=>hk (by rw[hg,e])⟩
 .obtain ⟨k,hk,rfl⟩:=Array.getElem_of_mem hx';have hk':k<(ap av).length:=by omega
  exact(hc k _ _ (UT hk) (p0 hk')).2
 .have hyl:=(h.young id _ hid).2
  have hlen:(cells.take j ++ ap av ++ cells.drop (j+aq P t)).length=cells.length:=by
   simp;omega
  refine oz (o':=.box ty (cells.take j ++ ap av ++ cells.drop (j+aq P t))) h hid hg (by simpa[aB.sz] using hlen) (fun k hk=>setRow_other w g k _ hk) ?_ (by simp) (fun hext=>⟨g,_,hL,hbg,setRow_heap w g cs _ ty (0,0) hheap,?_,fun k x av' h2 h3=>?_⟩) ?_ dst
  .exact ⟨h.lay.below.os,h.lay.below.tape,h.lay.below.output,by simpa using h.lay.below.size,fun k hk hX=>(setRow_other w g k _ (by omega)).trans (h.lay.below.block k hk hX)⟩
  .rw [hlen];simp[hcs,hn,hs];omega
  .rw [<- hs] at h3;rw[eY _ _ _ (by omega)] at h3;have hvl:v.cells.toList.length=aq P t:=(by simp[hn,hs]);rw[WB,<- hvl,eY _ _ _ (by simp[hcs];omega),hvl] at h2;rw[<- hs] at h2;split at h3
   .rename_i hr;rw[UZ hr] at h2;have:=hc (k-j) x av' (by simpa using h2) h3;exact⟨hext.rv this.1 (ah.1 hlt _ (r2 h3)),this.2⟩
   .rename_i hr;rw[UX hr] at h2;have:=hx k x av' (by simpa using h2) h3;exact⟨hext.rv this.1 (ah.1 hyl _ (r2 h3)),this.2⟩
  .refine ah.2 fun x hx=>?_;rcases U4.1 hx with hx|hx
   .rcases U4.1 hx with hx|hx
    .exact ah.1 hyl x (Vt hx)
    .exact ah.1 hlt x hx
   .exact ah.1 hyl x (Wa hx)
end
end
end
section
section
def dx(P:Program)(t:TypeId):Option (TypeId×Nat×Nat):=
 match P.underlying t with
 | some (.slice e)=>match P.info? e with
  | some i=>match i.zero with
   | some z=>if z.cells.size=i.size/\0<i.size then some (e,i.size,i.bytes) else none
   | none=>none
  | none=>none
 | _=>none
def AH(tab:ae)(sz:Nat):AV->Option (List (List AV))
 | .sl sz' rows=>if sz'=sz then some rows else none
 | .osl id=>match tab.get id with
  | some (.row _ sz' rows)=>if sz'=sz then some rows else none
  | _=>none
 | .c (.slice none 0 _)=>some []
 | _=>none
def wN(tab:ae)(e sz:Nat):AV->Option (Option Nat×List (List AV))
 | .osl id=>match tab.get id with
  | some (.row e' sz' rows)=>if e'=e/\sz'=sz then some (some id,rows) else none
  | _=>none
 | .c (.slice none 0 0)=>some (none,[])
 | _=>none
def qw(tab:ae)(sz:Nat):AV->Option (List (List AV))
 | .osl id=>match tab.get id with
  | some (.nest _ sz' rows)=>if sz'=sz then some rows else none
  | _=>none
 | _=>none
def lO(tab:ae)(e sz:Nat):AV->Option (Option Nat×List (List AV))
 | .osl id=>match tab.get id with
  | some (.nest e' sz' rows)=>if e'=e/\sz'=sz then some (some id,rows) else none
  | _=>none
 | .c (.slice none 0 0)=>some (none,[])
 | _=>none
section
variable {P:Program} {cx:Cx} {a:Act} {w w':World} {tab:ae} {st:aj} {L:Nat->Value} {nx:Nat}
theorem fW{t e sz by_:Nat}(h:dx P t=some (e,sz,by_)):∃i z,P.underlying t=some (.slice e)/\P.info? e=some i/\i.zero=some z/\i.size=sz/\i.bytes=by_/\z.cells.size=sz/\0<sz:=by
 unfold dx at h;split at h
 .rename_i e' hu;split at h
  .rename_i i hi;split at h
   .rename_i z hz;split at h
    .rename_i hc;cases h;exact⟨i,z,hu,hi,hz,rfl,rfl,hc.1,hc.2⟩
    .cases h
   .cases h
  .cases h
 .cases h
theorem iQ(base:Nat){t ty e:TypeId}{i:TypeInfo}{size c:Nat}(ht:P.underlying t=some (.slice e))(hi:P.info? e=some i)
  {v:Value} {n:Nat} {xs:List Value} (hown:fc w base e size v n xs):(Builtin.append_ #[t,t] ty #[v,.slice none 0 c]).run P w=.ok v w:=by
 rcases hown.2 with ⟨rfl,rfl⟩|⟨g,cap,cur,rfl,_,_,hnc,_⟩
 .simp [Builtin.append_,run_underlying ht,sizeOf,typeInfo,hi,Builtin.lenOf,Builtin.firstCells]
 .simp [Builtin.append_,run_underlying ht,sizeOf,typeInfo,hi,Builtin.lenOf,Builtin.firstCells,hnc,storeCells]
theorem od{w:World}(base:Nat)(t ty e:TypeId)(i:TypeInfo)(z:Value)(size bytes:Nat)(ht:P.underlying t=some (.slice e))(hi:P.info? e=some i)(hz:i.zero=some z)
  (hsize:i.size=size) (hby:i.bytes=bytes) (hzs:z.cells.size=size) (hsz:0<size)
  (v:Value) (n:Nat) (xs:List Value) (hown:fc w base e size v n xs)
  (a:Addr) (m c:Nat) (news:List Value) (hl:news.length=m * size) (hnews:∀j u,news[j]? = some u->w.cell? (a.add j)=some u) (h1:∀u∈news,u.oneCell'=true)
  (h63:n+m<=maxLen) (hbytes:(n+m) * bytes<=140737488355328) (hbase:base<=w.heap.size) :
  ∃v' w',(Builtin.append_ #[t,t] ty #[v,.slice (some a) m c]).run P w=.ok v' w' /\ fc w' base e size v' (n+m) (xs ++ news)/\w.grownBy w' v.ownBlock/\(v'.ownBlock=v.ownBlock\/v'.ownBlock=some w.heap.size):=by
 rcases hown.2 with ⟨rfl,rfl⟩|⟨g,cap,cur,rfl,hbg,hg,hnc,hcm,hcs,htake⟩
 .obtain ⟨v',w',h2,h3,h4,_,h5⟩:=run_append_own_at (P:=P) w base t ty e i z size bytes ht hi hz hsize hby hzs hsz (.slice none 0 0) 0 xs ⟨hown.1,.inl ⟨rfl,rfl⟩⟩ a m c news hl hnews h1 h63 hbytes hbase;exact⟨v',w',h2,rG h3,h4,h5⟩
 .subst hsize;subst hby
  have hsmall:n+m<=9223372036854775807:=by simp only[maxLen] at h63;omega
  have hlen:(xs ++ news).length=(n+m) * i.size:=by rw[UW,hown.1,hl,V3]
  by_cases hroom:n+m<=cap
  .have hfit:n * i.size+news.length<=cur.size:=by
    rw[hl,<- V3];exact Vj (Vk _ hroom) hcs
   have hr:=run_append_room (P:=P) w t ty e i ht hi g n cap cur hg a m c news hl hnews h1 hroom hfit;refine⟨_,_,hr,⟨hlen,.inr ⟨g,cap,_,rfl,hbg,setRow_heap w g cur _ e _ hg,hroom,hcm,?_,?_⟩⟩,⟨rfl,rfl,rfl,by simp,fun k _ hk=>setRow_other w g k _ (fun e=>hk (by simp[Value.ownBlock,e]))⟩,Or.inl rfl⟩
   .simp only[Xi,UW,U2,VO,VI];omega
   .rw [htake,<- hlen];exact List.take_left
  .have holds:∀j u,xs[j]? = some u->w.cell? ((⟨g,0,none⟩:Addr).add j)=some u:=hown.cells (g:=g) rfl;have hr:=run_append_grow (P:=P) w t ty e i z ht hi hz ⟨g,0,none⟩ n cap xs hown.1 holds a m c news hl hnews (by omega) (by omega) (growslice_fits (by omega) hbytes);have hge:=grownCap_ge w (n+m) cap e;have hcm':grownCap w (n+m) cap e<=maxLen:=grownCap_le_maxLen w (n+m) cap e h63;refine⟨_,_,hr,⟨hlen,.inr ⟨w.heap.size,_,_,rfl,hbase,heap_alloc_new w.drew _,hge,hcm',?_,?_⟩⟩,⟨rfl,rfl,rfl,by simp,fun k hk _=>heap_alloc_old w.drew _ hk⟩,Or.inr rfl⟩
   .simp only[Array.size_append,Xi,size_zeroCells,hzs,hown.1,hl,<- V3];refine Nat.le_of_eq ?_
    congr 1
    omega
   .simp only[Array.toList_append,Vw];rw[<- Vw,<- hlen];exact List.take_left
theorem Qn(hL:iM cx w tab L){v:Value}{av:AV}{sz:Nat}{rows:List (List AV)}(h0:0<sz)(hv:bL cx w tab L v av)(h:AH tab sz av=some rows):∃A c,v=.slice A rows.length c/\(∀row∈rows,row.length=sz) /\
  ∃news:List Value,news.length=rows.length * sz/\(∀u∈news,u.oneCell'=true)/\(∀(i j:Nat)(row:List AV)(av:AV),rows[i]? = some row->row[j]? = some av->∃x,news[i * sz+j]? = some x/\RT w (Sx cx w tab L) x av) /\
   ((A=none/\rows.length=0)\/∃ad,A=some ad/\∀j u,news[j]? = some u->w.cell? (ad.add j)=some u):=by
 unfold AH at h;split at h
 .rename_i sz' rows';split at h
  .rename_i e;subst e;cases h;obtain⟨A,cap,rfl,_,_,hrow,hA⟩:=hv.sl_inv.sl_inv;refine⟨A,cap,rfl,hrow,?_⟩;by_cases hz:rows.length=0
   .have:rows=[]:=VW hz;subst this;refine⟨[],by simp,by simp,by simp,?_⟩
    cases A with
    | none=>exact .inl ⟨rfl,rfl⟩
    | some ad=>exact .inr ⟨ad,rfl,by simp⟩
   .obtain ⟨b,o,rfl,hb,U,hcell,hr,hone⟩:=hA (by omega)
    have key:∀k,k<rows.length * sz' -> ∃row av,rows[k / sz']? = some row/\row[k % sz']? = some av:=fun k hk=>by
     have h1:k / sz'<rows.length:=Nat.div_lt_of_lt_mul (by rwa [Nat.mul_comm] at hk);have h2:k % sz'<(rows[k / sz']).length:=by rw[hrow _ (UQ h1)];exact Nat.mod_lt _ h0
     exact⟨_,_,p0 h1,p0 h2⟩
    refine⟨(List.range (rows.length * sz')).map fun k=>U (k / sz') (k % sz'),by simp,fun u hu=>?_,fun i j row av h1 h2=>⟨U i j,?_,hr i j row av h1 h2⟩,.inr ⟨_,rfl,fun k u hu=>?_⟩⟩
    .simp at hu;obtain⟨k,hk,rfl⟩:=hu;obtain⟨row,av,h1,h2⟩:=key k hk;exact hone _ _ row av h1 h2
    .have hj:j<sz':=by
      rw[<- hrow row (r2 h1)];exact(US.1 h2).1
     have hi:i<rows.length:=(US.1 h1).1
     have hlt:i * sz'+j<rows.length * sz':=by
      have:=Vk sz' (show i+1<=rows.length from hi);rw[V3] at this;omega
     have e1:(i * sz'+j) / sz'=i:=by rw[Nat.add_comm,Nat.add_mul_div_right _ _ h0,Nat.div_eq_of_lt hj];omega
     have e2:(i * sz'+j) % sz'=j:=(by rw[Nat.add_comm,Nat.add_mul_mod_self_right,Nat.mod_eq_of_lt hj]);rw[UV,List.getElem?_range hlt,Vz,e1,e2]
    .obtain ⟨hk,rfl⟩:=qj hu;obtain⟨row,av,h1,h2⟩:=key k hk;have:=hcell _ _ row av h1 h2;rw[Ww,Nat.mul_comm,Nat.div_add_mod] at this
     rwa [Addr.add_lit]
  .cases h
 .rename_i id;split at h
  .rename_i e sz' rows' hid;split at h
   .rename_i e;subst e;cases h;obtain⟨hvL,A,cap,rfl,hA⟩:=oE hL hid hv;obtain⟨hrow,xs,hown,hone,hx⟩:=hL.objs id _ hid;refine⟨A,cap,rfl,hrow,xs,hown.1,hone,hx,?_⟩;rw[<- hvL] at hown;rcases hown.2 with ⟨h1,h2⟩|⟨g,cap',cur,h1,_⟩
    .injection h1 with h1
     exact .inl ⟨h1,h2⟩
    .injection h1 with h1
     subst h1;exact .inr ⟨_,rfl,hown.cells (g:=g) rfl⟩
   .cases h
  .cases h
 .cases h;obtain rfl:=hv.c_inv;exact⟨none,_,rfl,by simp,[],by simp,by simp,by simp,.inl ⟨rfl,rfl⟩⟩
 .cases h
def T5(tab:ae)(L:Nat->Value)(e sz:Nat)(rows:List (List AV))(v:Value):Option Nat->Prop
 | some id=>tab.get id=some (.row e sz rows)/\v=L id
 | none=>v=.slice none 0 0
theorem SX(hL:iM cx w tab L)(hb:cx.w0.heap.size<=w.heap.size){v:Value}{av:AV}{e sz:Nat}{rows:List (List AV)}{oid:Option Nat}(hv:bL cx w tab L v av)(h:wN tab e sz av=some (oid,rows)) :
  (∀row∈rows,row.length=sz)/\(∃xs,fc w cx.w0.heap.size e sz v rows.length xs/\(∀x∈xs,x.oneCell'=true)/\∀(i j:Nat)(row:List AV)(av:AV),rows[i]? = some row->row[j]? = some av->∃x,xs[i * sz+j]? = some x/\RT w (Sx cx w tab L) x av) /\
  T5 tab L e sz rows v oid:=by
 unfold wN at h;split at h
 .rename_i id;split at h
  .rename_i e' sz' rows' hid;split at h
   .rename_i e;obtain⟨rfl,rfl⟩:=e;cases h;obtain⟨hvL,_⟩:=oE hL hid hv;obtain⟨hrow,xs,hown,hone,hx⟩:=hL.objs id _ hid;exact⟨hrow,⟨xs,by rw[hvL];exact hown,hone,hx⟩,hid,hvL⟩
   .cases h
  .cases h
 .cases h;obtain rfl:=hv.c_inv;exact⟨by simp,⟨[],kB ..,by simp,by simp⟩,rfl⟩
 .cases h
def bO(tab:ae)(nx:Nat)(oid:Option Nat)(o:aB):ae:=
 match oid with
 | some id=>(nx,some o) :: (id,none) :: tab
 | none=>(nx,some o) :: tab
theorem bH(tab:ae)(nx:Nat)(oid:Option Nat)(o:aB)(k:Nat):(bO tab nx oid o).get k=if k=nx then some o else if oid=some k then none else tab.get k:=by
 unfold bO
 cases oid with
 | none=>simp[ae.gc]
 | some id=>
  simp only[ae.gc,Xh];split
  .rfl
  .by_cases h:k=id
   .simp [h]
   .simp [h,Ne.symm h]
theorem pT{t ty e sz by_:Nat}{v u:Value}{x y:AV}{oid:Option Nat}{rows rows2:List (List AV)}(h:aH cx a w st L)(hv:bL cx w st.tab L v x)(hu:bL cx w st.tab L u y)(ht:dx P t=some (e,sz,by_))
  (hx:wN st.tab e sz x=some (oid,rows)) (hy:AH st.tab sz y=some rows2) (h63:rows.length+rows2.length<=maxLen) (hby:(rows.length+rows2.length) * by_<=140737488355328) (dst:Option Nat) :
  ∃v' w' L',(Builtin.append_ #[t,t] ty #[v,u]).run P w=.ok v' w' /\ aH cx (a.put dst v') w' ({ st with tab:=bO st.tab st.next oid (.row e sz (rows ++ rows2)),next:=st.next+1 }.put dst (.osl st.next)) L' /\
   w.grownBy w' v.ownBlock/\L'=bp L st.next v' /\ (aL v'=v.ownBlock\/aL v'=some w.heap.size)/\(∀g,v.ownBlock=some g->∃id,oid=some id/\aL (L id)=some g):=by
 obtain⟨i,z,hund,hi,hz,hs,hb,hzs,h0⟩:=fW ht;have hbase:cx.w0.heap.size<=w.heap.size:=h.lay.below.size;obtain⟨hrow1,⟨xs,hown,hone,hxs⟩,hoid⟩:=SX h.lay hbase hv hx;obtain⟨A,c,rfl,hrow2,news,hnl,hn1,hnr,hA⟩:=Qn h.lay h0 hu hy
 have hrun:∃v' w',(Builtin.append_ #[t,t] ty #[v,.slice A rows2.length c]).run P w=.ok v' w' /\ fc w' cx.w0.heap.size e sz v' (rows.length+rows2.length) (xs ++ news)/\w.grownBy w' v.ownBlock/\(v'.ownBlock=v.ownBlock\/v'.ownBlock=some w.heap.size):=by
  rcases hA with ⟨rfl,hz0⟩|⟨ad,rfl,hcell⟩
  .rw [hz0] at hnl ⊢;have:news=[]:=VW (by simpa using hnl);subst this;exact⟨v,w,iQ _ hund hi hown,by simpa using hown,⟨rfl,rfl,rfl,UU _,fun _ _ _=>rfl⟩,.inl rfl⟩
  .obtain ⟨v',w',h1,h2,h3,h5⟩:=od (P:=P) cx.w0.heap.size t ty e i z sz by_ hund hi hz hs hb hzs h0 v rows.length xs hown ad rows2.length c news hnl hcell hn1 h63 hby hbase;exact⟨v',w',h1,h2,h3,h5⟩
 obtain⟨v',w',hrun,hown',hgrow,hblk⟩:=hrun
 have vb:∀{x:Value} {n:Nat} {l:List Value} {w:World},fc w cx.w0.heap.size e sz x n l->aL x=x.ownBlock:=fun hh=>by
  rcases hh.2 with ⟨rfl,_⟩|⟨g,cap,cur,rfl,_⟩<;>rfl
 have hvb:=vb hown;have hvb':=vb hown'
 have hold_block:∀g,v.ownBlock=some g->∃id,oid=some id/\st.tab.get id=some (.row e sz rows)/\aL (L id)=some g:=fun g hg=>by
  cases oid with
  | none=>rw[show v=.slice none 0 0 from hoid] at hg;cases hg
  | some id=>exact⟨id,rfl,hoid.1,by rw[<- hoid.2,hvb];exact hg⟩
 have hy':=h.young
 have hget:∀k,k<st.next->(bO st.tab st.next oid (.row e sz (rows ++ rows2))).get k=if oid=some k then none else st.tab.get k:=fun k hk=>by
  rw[bH,UX (by omega)]
 have hgetS:∀k o,(bO st.tab st.next oid (.row e sz (rows ++ rows2))).get k=some o->(k=st.next/\o=.row e sz (rows ++ rows2))\/(k<st.next/\oid≠some k/\st.tab.get k=some o):=fun k o hk=>by
  rw[bH] at hk;split at hk
  .rename_i e';cases hk;exact .inl ⟨e',rfl⟩
  .split at hk
   .cases hk
   .rename_i h1;exact .inr ⟨(hy' k o hk).1,h1,hk⟩
 have hLn:∀k,k<st.next->bp L st.next v' k=L k:=fun k hk=>by unfold bp;rw[UX (by omega)]
 have hLx:bp L st.next v' st.next=v':=by simp[bp]
 -- the blocks of other objects
 have hother:∀k o g,k<st.next->oid≠some k->st.tab.get k=some o->aL (L k)=some g->some g≠v.ownBlock/\some g≠v'.ownBlock:=fun k o g hk hne ho hg=>by
  have h1:some g≠v.ownBlock:=fun e'=>by
   obtain⟨id,hid,hti,hbi⟩:=hold_block g e'.symm;exact hne (by rw[hid,h.lay.sep id k _ o g hti ho hbi hg])
  refine⟨h1,fun e'=>?_⟩;rcases hblk with hb1|hb1
  .exact h1 (by rw[e',hb1])
  .have:=((h.lay.objs k o ho).ge hg).2;rw[hb1] at e';cases e';omega
 have hext:lG cx w st.tab L st.next w' (bO st.tab st.next oid (.row e sz (rows ++ rows2))) (bp L st.next v'):=by
  refine⟨fun p hp=>hgrow.block p hp.1 fun e'=>?_,fun b hS=>⟨UY hS.1 hgrow.size,hS.2.1,fun k o hk hg=>?_⟩,fun k p hk hK=>?_⟩
  .obtain ⟨id,_,hti,hbi⟩:=hold_block p e'.symm;exact hp.2.2 id _ hti hbi
  .rcases hgetS k o hk with ⟨rfl,_⟩|⟨hlt,_,ho⟩
   .rw [hLx,hvb'] at hg;rcases hblk with hb1|hb1
    .rw [hb1] at hg;obtain⟨id,_,hti,hbi⟩:=hold_block b hg;exact hS.2.2 id _ hti hbi
    .rw [hb1] at hg;cases hg;exact Nat.lt_irrefl _ hS.1
   .rw [hLn k hlt] at hg;exact hS.2.2 k o ho hg
  .unfold Kx at *;rw[hget k hk,hLn k hk] at hK;split at hK
   .cases hK
   .exact hK
 have hbel:b8 cx.X cx.w0.heap.size cx.w0 w':=h.lay.below.grown hgrow hbase fun k hk=>(hown.lt k hk).1;refine⟨v',w',bp L st.next v',hrun,?_,hgrow,rfl,by rw[hvb'];exact hblk,fun g hg=>by obtain⟨id,h1,_,h2⟩:=hold_block g hg;exact⟨id,h1,h2⟩⟩
 have hex:∀id2 o2 g,(bO st.tab st.next oid (.row e sz (rows ++ rows2))).get id2=some o2->aL (bp L st.next v' id2)=some g->g<w.heap.size->∃id3 o3,st.tab.get id3=some o3/\aL (L id3)=some g:=fun k ok g hk hg' hlt=>by
  rcases hgetS k ok hk with ⟨rfl,_⟩|⟨hlt',_,ho⟩
  .rw [hLx,hvb'] at hg';rcases hblk with hb1|hb1
   .rw [hb1] at hg';obtain⟨id,_,hti,hbi⟩:=hold_block g hg';exact⟨id,_,hti,hbi⟩
   .rw [hb1] at hg';cases hg';omega
  .rw [hLn k hlt'] at hg';exact⟨k,ok,ho,hg'⟩
 refine fJ h ⟨hbel,fun k o hk=>?_,fun k k' o o' g h1 h2 h3 h4=>?_,vf h.lay hgrow.size hex⟩ hext (VF _) (fun k o hk=>?_) ?_ (VT _) dst
 .rcases hgetS k o hk with ⟨rfl,rfl⟩|⟨hlt,hne,ho⟩
  .rw [hLx];refine⟨fun row hr=>?_,xs ++ news,by rw[UW];exact hown',fun x hx=>?_,fun i j row av h1 h2=>?_⟩
   .rcases U4.1 hr with hr|hr
    .exact hrow1 row hr
    .exact hrow2 row hr
   .rcases U4.1 hx with hx|hx
    .exact hone x hx
    .exact hn1 x hx
   .by_cases hlt:i<rows.length
    .rw [Vq hlt] at h1;obtain⟨x,hx,hr⟩:=hxs i j row av h1 h2;exact⟨x,by rw[Vq ((US.1 hx).1)];exact hx,hext.rt hr⟩
    .rw [Vu (by omega)] at h1;obtain⟨x,hx,hr⟩:=hnr _ j row av h1 h2;refine⟨x,?_,hext.rt hr⟩;have e1:rows.length * sz<=i * sz:=Vk _ (by omega);rw[Vu (by rw[hown.1];omega),hown.1];rw[Nat.sub_mul] at hx
     rwa [show i * sz+j-rows.length * sz=i * sz-rows.length * sz+j by omega]
  .rw [hLn k hlt];have hob:=h.lay.objs k o ho;exact hext.obj hob (hy' k o ho).2 fun g hg=>hgrow.block g (hob.ge hg).2 (hother k o g hlt hne ho hg).1
 .rcases hgetS k o h1 with ⟨rfl,rfl⟩|⟨hlt,hne,ho⟩<;>rcases hgetS k' o' h2 with ⟨rfl,rfl⟩|⟨hlt',hne',ho'⟩
  .rfl
  .rw [hLx,hvb'] at h3;rw[hLn k' hlt'] at h4;exact absurd h3.symm (hother k' o' g hlt' hne' ho' h4).2
  .rw [hLx,hvb'] at h4;rw[hLn k hlt] at h3;exact absurd h4.symm (hother k o g hlt hne ho h3).2
  .rw [hLn k hlt] at h3;rw[hLn k' hlt'] at h4;exact h.lay.sep k k' o o' g ho ho' h3 h4
 .rcases hgetS k o hk with ⟨rfl,rfl⟩|⟨hlt,_,ho⟩
  .exact ⟨VT _,trivial⟩
  .refine ⟨by omega,?_⟩;have:=(hy' k o ho).2
   cases o with
   | box t cells=>exact ah.2 fun x hx=>AV.lt_mono (VF _) (ah.1 this x hx)
   | row=>trivial
   | map=>trivial
   | nest e sz rows=>exact fun row hr=>ah.2 fun x hx=>AV.lt_mono (VF _) (ah.1 (this row hr) x hx)
   | ghost vs env=>exact dQ (VF _) this
 .refine .osl _ _ fun sz' v'' hk=>?_;unfold Kx at hk;rw[bH,UZ rfl] at hk;simp at hk;rw[hLx] at hk;exact hk.2
theorem MJ(hL:iM cx w tab L){v:Value}{av:AV}{sz:Nat}{rows:List (List AV)}(h0:0<sz)(hv:bL cx w tab L v av)(h:qw tab sz av=some rows):∃A c,v=.slice A rows.length c/\(∀row∈rows,row.length=sz) /\
  ∃news:List Value,news.length=rows.length * sz/\(∀u∈news,u.oneCell'=true)/\(∀(i j:Nat)(row:List AV)(av:AV),rows[i]? = some row->row[j]? = some av->∃x,news[i * sz+j]? = some x/\bL cx w tab L x av) /\
   ((A=none/\rows.length=0)\/∃ad,A=some ad/\∀j u,news[j]? = some u->w.cell? (ad.add j)=some u):=by
 unfold qw at h;split at h
 .rename_i id;split at h
  .rename_i e sz' rows' hid;split at h
   .rename_i e;subst e;cases h;obtain⟨hvL,A,cap,rfl,hA⟩:=kg hL hid hv;obtain⟨hrow,xs,hown,hone,hx⟩:=hL.objs id _ hid;refine⟨A,cap,rfl,hrow,xs,hown.1,hone,hx,?_⟩;rw[<- hvL] at hown;rcases hown.2 with ⟨h1,h2⟩|⟨g,cap',cur,h1,_⟩
    .injection h1 with h1
     exact .inl ⟨h1,h2⟩
    .injection h1 with h1
     subst h1;exact .inr ⟨_,rfl,hown.cells (g:=g) rfl⟩
   .cases h
  .cases h
 .cases h
def R9(tab:ae)(L:Nat->Value)(e sz:Nat)(rows:List (List AV))(v:Value):Option Nat->Prop
 | some id=>tab.get id=some (.nest e sz rows)/\v=L id
 | none=>v=.slice none 0 0
theorem OH(hL:iM cx w tab L)(hb:cx.w0.heap.size<=w.heap.size){v:Value}{av:AV}{e sz:Nat}{rows:List (List AV)}{oid:Option Nat}(hv:bL cx w tab L v av)(h:lO tab e sz av=some (oid,rows)) :
  (∀row∈rows,row.length=sz)/\(∃xs,fc w cx.w0.heap.size e sz v rows.length xs/\(∀x∈xs,x.oneCell'=true)/\∀(i j:Nat)(row:List AV)(av:AV),rows[i]? = some row->row[j]? = some av->∃x,xs[i * sz+j]? = some x/\bL cx w tab L x av) /\
  R9 tab L e sz rows v oid:=by
 unfold lO at h;split at h
 .rename_i id;split at h
  .rename_i e' sz' rows' hid;split at h
   .rename_i e;obtain⟨rfl,rfl⟩:=e;cases h;obtain⟨hvL,_⟩:=kg hL hid hv;obtain⟨hrow,xs,hown,hone,hx⟩:=hL.objs id _ hid;exact⟨hrow,⟨xs,by rw[hvL];exact hown,hone,hx⟩,hid,hvL⟩
   .cases h
  .cases h
 .cases h;obtain rfl:=hv.c_inv;exact⟨by simp,⟨[],kB ..,by simp,by simp⟩,rfl⟩
 .cases h
theorem OD(hy:∀id o,tab.get id=some o->o.lt nx){av:AV}{sz:Nat}{rows:List (List AV)}(h:qw tab sz av=some rows):∀row∈rows,AV.ltL nx row:=by
 unfold qw at h;split at h
 .split at h
  .rename_i hid;split at h
   .cases h;exact hy _ _ hid
   .cases h
  .cases h
 .cases h
theorem MB(hy:∀id o,tab.get id=some o->o.lt nx){av:AV}{e sz:Nat}{oid:Option Nat}{rows:List (List AV)}(h:lO tab e sz av=some (oid,rows)):∀row∈rows,AV.ltL nx row:=by
 unfold lO at h;split at h
 .split at h
  .rename_i hid;split at h
   .cases h;exact hy _ _ hid
   .cases h
  .cases h
 .cases h;intro row hr;cases hr
 .cases h
theorem nr{t ty e sz by_:Nat}{v u:Value}{x y:AV}{oid:Option Nat}{rows rows2:List (List AV)}(h:aH cx a w st L)(hv:bL cx w st.tab L v x)(hu:bL cx w st.tab L u y)(ht:dx P t=some (e,sz,by_))
  (hx:lO st.tab e sz x=some (oid,rows)) (hy:qw st.tab sz y=some rows2) (h63:rows.length+rows2.length<=maxLen) (hby:(rows.length+rows2.length) * by_<=140737488355328) (dst:Option Nat) :
  ∃v' w' L',(Builtin.append_ #[t,t] ty #[v,u]).run P w=.ok v' w' /\ aH cx (a.put dst v') w' ({ st with tab:=bO st.tab st.next oid (.nest e sz (rows ++ rows2)),next:=st.next+1 }.put dst (.osl st.next)) L' /\
   w.grownBy w' v.ownBlock/\L'=bp L st.next v' /\ (aL v'=v.ownBlock\/aL v'=some w.heap.size)/\(∀g,v.ownBlock=some g->∃id,oid=some id/\aL (L id)=some g):=by
 obtain⟨i,z,hund,hi,hz,hs,hb,hzs,h0⟩:=fW ht;have hbase:cx.w0.heap.size<=w.heap.size:=h.lay.below.size;obtain⟨hrow1,⟨xs,hown,hone,hxs⟩,hoid⟩:=OH h.lay hbase hv hx;obtain⟨A,c,rfl,hrow2,news,hnl,hn1,hnr,hA⟩:=MJ h.lay h0 hu hy;have hl1:=MB (fun id o ho=>(h.young id o ho).2) hx;have hl2:=OD (fun id o ho=>(h.young id o ho).2) hy
 have hrun:∃v' w',(Builtin.append_ #[t,t] ty #[v,.slice A rows2.length c]).run P w=.ok v' w' /\ fc w' cx.w0.heap.size e sz v' (rows.length+rows2.length) (xs ++ news)/\w.grownBy w' v.ownBlock/\(v'.ownBlock=v.ownBlock\/v'.ownBlock=some w.heap.size):=by
  rcases hA with ⟨rfl,hz0⟩|⟨ad,rfl,hcell⟩
  .rw [hz0] at hnl ⊢;have:news=[]:=VW (by simpa using hnl);subst this;exact⟨v,w,iQ _ hund hi hown,by simpa using hown,⟨rfl,rfl,rfl,UU _,fun _ _ _=>rfl⟩,.inl rfl⟩
  .obtain ⟨v',w',h1,h2,h3,h5⟩:=od (P:=P) cx.w0.heap.size t ty e i z sz by_ hund hi hz hs hb hzs h0 v rows.length xs hown ad rows2.length c news hnl hcell hn1 h63 hby hbase;exact⟨v',w',h1,h2,h3,h5⟩
 obtain⟨v',w',hrun,hown',hgrow,hblk⟩:=hrun
 have vb:∀{x:Value} {n:Nat} {l:List Value} {w:World},fc w cx.w0.heap.size e sz x n l->aL x=x.ownBlock:=fun hh=>by
  rcases hh.2 with ⟨rfl,_⟩|⟨g,cap,cur,rfl,_⟩<;>rfl
 have hvb:=vb hown;have hvb':=vb hown'
 have hold_block:∀g,v.ownBlock=some g->∃id,oid=some id/\st.tab.get id=some (.nest e sz rows)/\aL (L id)=some g:=fun g hg=>by
  cases oid with
  | none=>rw[show v=.slice none 0 0 from hoid] at hg;cases hg
  | some id=>exact⟨id,rfl,hoid.1,by rw[<- hoid.2,hvb];exact hg⟩
 have hy':=h.young
 have hget:∀k,k<st.next->(bO st.tab st.next oid (.nest e sz (rows ++ rows2))).get k=if oid=some k then none else st.tab.get k:=fun k hk=>by
  rw[bH,UX (by omega)]
 have hgetS:∀k o,(bO st.tab st.next oid (.nest e sz (rows ++ rows2))).get k=some o->(k=st.next/\o=.nest e sz (rows ++ rows2))\/(k<st.next/\oid≠some k/\st.tab.get k=some o):=fun k o hk=>by
  rw[bH] at hk;split at hk
  .rename_i e';cases hk;exact .inl ⟨e',rfl⟩
  .split at hk
   .cases hk
   .rename_i h1;exact .inr ⟨(hy' k o hk).1,h1,hk⟩
 have hLn:∀k,k<st.next->bp L st.next v' k=L k:=fun k hk=>by unfold bp;rw[UX (by omega)]
 have hLx:bp L st.next v' st.next=v':=by simp[bp]
 -- the blocks of other objects
 have hother:∀k o g,k<st.next->oid≠some k->st.tab.get k=some o->aL (L k)=some g->some g≠v.ownBlock/\some g≠v'.ownBlock:=fun k o g hk hne ho hg=>by
  have h1:some g≠v.ownBlock:=fun e'=>by
   obtain⟨id,hid,hti,hbi⟩:=hold_block g e'.symm;exact hne (by rw[hid,h.lay.sep id k _ o g hti ho hbi hg])
  refine⟨h1,fun e'=>?_⟩;rcases hblk with hb1|hb1
  .exact h1 (by rw[e',hb1])
  .have:=((h.lay.objs k o ho).ge hg).2;rw[hb1] at e';cases e';omega
 have hext:lG cx w st.tab L st.next w' (bO st.tab st.next oid (.nest e sz (rows ++ rows2))) (bp L st.next v'):=by
  refine⟨fun p hp=>hgrow.block p hp.1 fun e'=>?_,fun b hS=>⟨UY hS.1 hgrow.size,hS.2.1,fun k o hk hg=>?_⟩,fun k p hk hK=>?_⟩
  .obtain ⟨id,_,hti,hbi⟩:=hold_block p e'.symm;exact hp.2.2 id _ hti hbi
  .rcases hgetS k o hk with ⟨rfl,_⟩|⟨hlt,_,ho⟩
   .rw [hLx,hvb'] at hg;rcases hblk with hb1|hb1
    .rw [hb1] at hg;obtain⟨id,_,hti,hbi⟩:=hold_block b hg;exact hS.2.2 id _ hti hbi
    .rw [hb1] at hg;cases hg;exact Nat.lt_irrefl _ hS.1
   .rw [hLn k hlt] at hg;exact hS.2.2 k o ho hg
  .unfold Kx at *;rw[hget k hk,hLn k hk] at hK;split at hK
   .cases hK
   .exact hK
 have hbel:b8 cx.X cx.w0.heap.size cx.w0 w':=h.lay.below.grown hgrow hbase fun k hk=>(hown.lt k hk).1;refine⟨v',w',bp L st.next v',hrun,?_,hgrow,rfl,by rw[hvb'];exact hblk,fun g hg=>by obtain⟨id,h1,_,h2⟩:=hold_block g hg;exact⟨id,h1,h2⟩⟩
 have hex:∀id2 o2 g,(bO st.tab st.next oid (.nest e sz (rows ++ rows2))).get id2=some o2->aL (bp L st.next v' id2)=some g->g<w.heap.size->∃id3 o3,st.tab.get id3=some o3/\aL (L id3)=some g:=fun k ok g hk hg' hlt=>by
  rcases hgetS k ok hk with ⟨rfl,_⟩|⟨hlt',_,ho⟩
  .rw [hLx,hvb'] at hg';rcases hblk with hb1|hb1
   .rw [hb1] at hg';obtain⟨id,_,hti,hbi⟩:=hold_block g hg';exact⟨id,_,hti,hbi⟩
   .rw [hb1] at hg';cases hg';omega
  .rw [hLn k hlt'] at hg';exact⟨k,ok,ho,hg'⟩
 refine fJ h ⟨hbel,fun k o hk=>?_,fun k k' o o' g h1 h2 h3 h4=>?_,vf h.lay hgrow.size hex⟩ hext (VF _) (fun k o hk=>?_) ?_ (VT _) dst
 .rcases hgetS k o hk with ⟨rfl,rfl⟩|⟨hlt,hne,ho⟩
  .rw [hLx];refine⟨fun row hr=>?_,xs ++ news,by rw[UW];exact hown',fun x hx=>?_,fun i j row av h1 h2=>?_⟩
   .rcases U4.1 hr with hr|hr
    .exact hrow1 row hr
    .exact hrow2 row hr
   .rcases U4.1 hx with hx|hx
    .exact hone x hx
    .exact hn1 x hx
   .by_cases hlt:i<rows.length
    .rw [Vq hlt] at h1;obtain⟨x,hx,hr⟩:=hxs i j row av h1 h2;exact⟨x,by rw[Vq ((US.1 hx).1)];exact hx,hext.rv hr (ah.1 (hl1 row (r2 h1)) _ (r2 h2))⟩
    .rw [Vu (by omega)] at h1;obtain⟨x,hx,hr⟩:=hnr _ j row av h1 h2;refine⟨x,?_,hext.rv hr (ah.1 (hl2 row (r2 h1)) _ (r2 h2))⟩;have e1:rows.length * sz<=i * sz:=Vk _ (by omega);rw[Vu (by rw[hown.1];omega),hown.1];rw[Nat.sub_mul] at hx
     rwa [show i * sz+j-rows.length * sz=i * sz-rows.length * sz+j by omega]
  .rw [hLn k hlt];have hob:=h.lay.objs k o ho;exact hext.obj hob (hy' k o ho).2 fun g hg=>hgrow.block g (hob.ge hg).2 (hother k o g hlt hne ho hg).1
 .rcases hgetS k o h1 with ⟨rfl,rfl⟩|⟨hlt,hne,ho⟩<;>rcases hgetS k' o' h2 with ⟨rfl,rfl⟩|⟨hlt',hne',ho'⟩
  .rfl
  .rw [hLx,hvb'] at h3;rw[hLn k' hlt'] at h4;exact absurd h3.symm (hother k' o' g hlt' hne' ho' h4).2
  .rw [hLx,hvb'] at h4;rw[hLn k hlt] at h3;exact absurd h4.symm (hother k o g hlt hne ho h3).2
  .rw [hLn k hlt] at h3;rw[hLn k' hlt'] at h4;exact h.lay.sep k k' o o' g ho ho' h3 h4
 .rcases hgetS k o hk with ⟨rfl,rfl⟩|⟨hlt,_,ho⟩
  .refine ⟨VT _,fun row hr=>ah.2 fun x hx=>AV.lt_mono (VF _) ?_⟩;rcases U4.1 hr with hr|hr
   .exact ah.1 (hl1 row hr) x hx
   .exact ah.1 (hl2 row hr) x hx
  .refine ⟨by omega,?_⟩;have:=(hy' k o ho).2
   cases o with
   | box t cells=>exact ah.2 fun x hx=>AV.lt_mono (VF _) (ah.1 this x hx)
   | row=>trivial
   | map=>trivial
   | nest e sz rows=>exact fun row hr=>ah.2 fun x hx=>AV.lt_mono (VF _) (ah.1 (this row hr) x hx)
   | ghost vs env=>exact dQ (VF _) this
 .refine .osl _ _ fun sz' v'' hk=>?_;unfold Kx at hk;rw[bH,UZ rfl] at hk;simp at hk;rw[hLx] at hk;exact hk.2
theorem kW{id e sz n:Nat}{rows:List (List AV)}{v':Value}(h:aH cx a w st L)(hid:st.tab.get id=some (.row e sz rows))(hn:n<=rows.length)
  (hv':(L id=.slice none 0 0/\v'=.slice none 0 0)\/∃g cap cap',L id=.slice (some ⟨g,0,none⟩) rows.length cap/\v'=.slice (some ⟨g,0,none⟩) n cap' /\ n<=cap' /\ cap'<=cap) (dst:Option Nat) :
  aH cx (a.put dst v') w ({ st with tab:=bO st.tab st.next (some id) (.row e sz (rows.take n)),next:=st.next+1 }.put dst (.osl st.next)) (bp L st.next v'):=by
 have hvb:aL v'=aL (L id):=by
  rcases hv' with ⟨h1,rfl⟩|⟨g,cap,cap',h1,rfl,_⟩<;>rw[h1]<;>rfl
 have hy':=h.young
 have hget:∀k,k<st.next->(bO st.tab st.next (some id) (.row e sz (rows.take n))).get k=if some id=some k then none else st.tab.get k:=fun k hk=>by
  rw[bH,UX (by omega)]
 have hgetS:∀k o,(bO st.tab st.next (some id) (.row e sz (rows.take n))).get k=some o->(k=st.next/\o=.row e sz (rows.take n))\/(k<st.next/\id≠k/\st.tab.get k=some o):=fun k o hk=>by
  rw[bH] at hk;split at hk
  .rename_i e';cases hk;exact .inl ⟨e',rfl⟩
  .split at hk
   .cases hk
   .rename_i h1;exact .inr ⟨(hy' k o hk).1,fun e'=>h1 (by rw[e']),hk⟩
 have hLn:∀k,k<st.next->bp L st.next v' k=L k:=fun k hk=>by unfold bp;rw[UX (by omega)]
 have hLx:bp L st.next v' st.next=v':=by simp[bp]
 have hext:lG cx w st.tab L st.next w (bO st.tab st.next (some id) (.row e sz (rows.take n))) (bp L st.next v'):=by
  refine⟨fun p hp=>rfl,fun b hS=>⟨hS.1,hS.2.1,fun k o hk hg=>?_⟩,fun k p hk hK=>?_⟩
  .rcases hgetS k o hk with ⟨rfl,_⟩|⟨hlt,_,ho⟩
   .rw [hLx,hvb] at hg;exact hS.2.2 id _ hid hg
   .rw [hLn k hlt] at hg;exact hS.2.2 k o ho hg
  .unfold Kx at *;rw[hget k hk,hLn k hk] at hK;split at hK
   .cases hK
   .exact hK
 obtain⟨hrow,xs,hown,hone,hx⟩:=h.lay.objs id _ hid;have hmul:n * sz<=rows.length * sz:=Vk _ hn;have hlen:(rows.take n).length=n:=by rw[U2];omega
 have hex:∀id2 o2 g,(bO st.tab st.next (some id) (.row e sz (rows.take n))).get id2=some o2->aL (bp L st.next v' id2)=some g->g<w.heap.size->∃id3 o3,st.tab.get id3=some o3/\aL (L id3)=some g:=fun k ok g hk hg' hlt=>by
  rcases hgetS k ok hk with ⟨rfl,_⟩|⟨hlt',_,ho⟩
  .rw [hLx,hvb] at hg';exact⟨id,_,hid,hg'⟩
  .rw [hLn k hlt'] at hg';exact⟨k,ok,ho,hg'⟩
 refine fJ h ⟨h.lay.below,fun k o hk=>?_,fun k k' o o' g h1 h2 h3 h4=>?_,vf h.lay (UU _) hex⟩ hext (VF _) (fun k o hk=>?_) ?_ (VT _) dst
 .rcases hgetS k o hk with ⟨rfl,rfl⟩|⟨hlt,hne,ho⟩
  .rw [hLx];refine⟨fun row hr=>hrow row (Vt hr),xs.take (n * sz),⟨?_,?_⟩,fun x hx'=>hone x (Vt hx'),fun i j row av h1 h2=>?_⟩
   .rw [U2,hown.1,hlen];omega
   .rw [hlen];rcases hown.2 with ⟨h1,h0⟩|⟨g,cap,cur,h1,hb,hh,hc,hm,hcs,htake⟩
    .rcases hv' with ⟨_,rfl⟩|⟨g',cap1,cap2,h2,rfl,_⟩
     .exact .inl ⟨rfl,by omega⟩
     .rw [h1] at h2;cases h2
    .rcases hv' with ⟨h2,_⟩|⟨g',cap1,cap2,h2,rfl,h3,h4⟩
     .rw [h1] at h2;cases h2
     .rw [h1] at h2;cases h2;refine .inr ⟨g,cap2,cur,rfl,hb,hh,h3,by omega,Vj (Vk _ h4) hcs,?_⟩;rw[<- htake,List.take_take,Xw hmul]
   .rw [VM] at h1;split at h1
    .rename_i hi;obtain⟨x,hx1,hx2⟩:=hx i j row av h1 h2;refine⟨x,?_,hext.rt hx2⟩;have hj:j<sz:=by rw[<- hrow row (r2 h1)];exact(US.1 h2).1
     have:(i+1) * sz<=n * sz:=Vk _ hi;rw[V3] at this;rw[VM,UZ (by omega)];exact hx1
    .cases h1
  .rw [hLn k hlt];exact hext.obj (h.lay.objs k o ho) (hy' k o ho).2 fun g hg=>rfl
 .rcases hgetS k o h1 with ⟨rfl,_⟩|⟨hlt,hne,ho⟩<;>rcases hgetS k' o' h2 with ⟨rfl,_⟩|⟨hlt',hne',ho'⟩
  .rfl
  .rw [hLx,hvb] at h3;rw[hLn k' hlt'] at h4;exact absurd (h.lay.sep id k' _ o' g hid ho' h3 h4) hne'
  .rw [hLx,hvb] at h4;rw[hLn k hlt] at h3;exact absurd (h.lay.sep id k _ o g hid ho h4 h3) hne
  .rw [hLn k hlt] at h3;rw[hLn k' hlt'] at h4;exact h.lay.sep k k' o o' g ho ho' h3 h4
 .rcases hgetS k o hk with ⟨rfl,rfl⟩|⟨hlt,_,ho⟩
  .exact ⟨VT _,trivial⟩
  .refine ⟨by omega,?_⟩;have:=(hy' k o ho).2
   cases o with
   | box t cells=>exact ah.2 fun x hx=>AV.lt_mono (VF _) (ah.1 this x hx)
   | row=>trivial
   | map=>trivial
   | nest e sz rows=>exact fun row hr=>ah.2 fun x hx=>AV.lt_mono (VF _) (ah.1 (this row hr) x hx)
   | ghost vs env=>exact dQ (VF _) this
 .refine .osl _ _ fun sz' v'' hk=>?_;unfold Kx at hk;rw[bH,UZ rfl] at hk;simp at hk;rw[hLx] at hk;exact hk.2
end
end
section
theorem ni(off:Nat):∀(l:List Value)(n:Nat)(cells:Array Value),off+n+l.length<=cells.size->∀k,((l.zipIdx n).foldl (fun cs (p:Value×Nat)=>cs.setIfInBounds (off+p.2) p.1) cells)[k]? = if off+n<=k/\k<off+n+l.length then l[k-(off+n)]? else cells[k]?
 | [],n,cells,_,k=>by simp;omega
 | v :: l,n,cells,h,k=>by
  simp only[List.zipIdx_cons,List.foldl_cons,Vl] at h ⊢;rw[ni off l (n+1) _ (by simp;omega)];by_cases h1:off+n=k
  .subst h1;rw[UX (by omega),UZ (by omega),Array.getElem?_setIfInBounds_self_of_lt (by omega)];simp
  .by_cases h2:off+(n+1)<=k/\k<off+(n+1)+l.length
   .rw [UZ h2,UZ (by omega)];rw[show k-(off+n)=(k-(off+(n+1)))+1 by omega,WD]
   .rw [UX h2,UX (by omega),Array.getElem?_setIfInBounds_ne h1]
theorem yK(off:Nat)(v:Array Value)(cells:Array Value)(h:off+v.size<=cells.size):(v.zipIdx.foldl (fun cs (p:Value×Nat)=>cs.setIfInBounds (off+p.2) p.1) cells)=(cells.toList.take off ++ v.toList ++ cells.toList.drop (off+v.size)).toArray:=by
 have e:v.zipIdx.foldl (fun cs (p:Value×Nat)=>cs.setIfInBounds (off+p.2) p.1) cells=(v.toList.zipIdx 0).foldl (fun cs (p:Value×Nat)=>cs.setIfInBounds (off+p.2) p.1) cells:=by
  rw[<- Array.foldl_toList]
  congr 1
  simp
 rw[e];apply Array.ext_getElem?;intro k;rw[ni off v.toList 0 cells (by simpa using h) k];have:=eY cells.toList off v.toList (by simpa using h) k;simp only[VI] at this;simp only[WB,this,VI,WT];simp
theorem so(sz:Nat):∀(parts:List (Nat×Value))(k:Nat)(cells:Array Value),parts.map (·.1)=List.range' k parts.length->(∀p∈parts,p.2.cells.size=sz)->cells.size=(k+parts.length) * sz ->
  ∃c:Array Value,Instr.fill (fun i=>some (i * sz,sz)) cells parts=some c/\c.toList=cells.toList.take (k * sz) ++ parts.flatMap (·.2.cells.toList)
 | [],k,cells,_,_,hs=>⟨cells,rfl,by simp at hs;simp[Vg,hs]⟩
 | (i,v) :: rest,k,cells,hi,hp,hs=>by
  simp only[VE,Vl,List.range'_succ,List.cons.injEq] at hi hs;obtain⟨rfl,hi⟩:=hi;have hv:=hp (i,v) (by simp);simp only at hv;have hmul:(i+(rest.length+1)) * sz=i * sz+sz+rest.length * sz:=by rw[V3,V3];omega
  have hfit:i * sz+v.cells.size<=cells.size:=by rw[hs,hmul,hv];omega
  have hone:=yK (i * sz) v.cells cells hfit
  obtain⟨c,h1,h2⟩:=so sz rest (i+1) (cells.toList.take (i * sz) ++ v.cells.toList ++ cells.toList.drop (i * sz+v.cells.size)).toArray hi (fun p hp'=>hp p (by simp[hp'])) (by
   simp[hs,hv,hmul,V3]<;>omega)
  refine⟨c,?_,?_⟩
  .unfold Instr.fill;simp only;rw[UX (by simp[hv];omega)];rw[hone];exact h1
  .rw [h2];simp only[V4];rw[<- Vw]
   congr 1
   have hl:((cells.toList.take (i * sz)).length)=i * sz:=by
    rw[U2];simp;omega
   rw[VX (by simp[hl,hv,V3])];rw[Vg (by simp[hl,hv,V3])]
theorem lK{α β:Type}(f:α -> List β)(sz:Nat):∀(l:List α),(∀a∈l,(f a).length=sz)->∀i j (h:i<l.length),j<sz->(l.flatMap f)[i * sz+j]? = (f l[i])[j]?
 | [],_,i,_,h,_=>absurd h (by simp)
 | a :: l,hs,i,j,h,hj=>by
  rw[V4];have ha:=hs a (by simp)
  cases i with
  | zero=>rw[W5,We,Vq (by omega)];rfl
  | succ i=>
   rw[Vu (by rw[ha,V3];omega),ha,show(i+1) * sz+j-sz=i * sz+j by rw[V3];omega];exact lK f sz l (fun a h=>hs a (by simp[h])) i j (by simpa using h) hj
theorem jt{α β:Type}(f:α -> List β)(sz:Nat):∀(l:List α),(∀a∈l,(f a).length=sz)->(l.flatMap f).length=l.length * sz
 | [],_=>by simp
 | a :: l,hs=>by
  rw[V4,UW,hs a (by simp),jt f sz l (fun a h=>hs a (by simp[h])),Vl,V3];omega
def dl:AV->Prop
 | .osl _=>False
 | .op _ _ _=>False
 | .agg _=>False
 | .tup _=>False
 | .fn _ _=>False
 | .bfn _ _=>False
 | _=>True
def bD:List AV->Prop
 | []=>True
 | a :: l=>dl a/\bD l
theorem dG:∀{l:List AV},bD l↔ ∀a∈l,dl a
 | []=>by simp[bD]
 | a :: l=>by simp[bD,dG (l:=l)]
section
variable {P:Program} {cx:Cx} {a:Act} {w w':World} {tab:ae} {st:aj} {L:Nat->Value} {nx:Nat}
theorem dH{x:Value}{av:AV}(h:bL cx w tab L x av)(ht:dl av):RT w (Sx cx w tab L) x av:=by
 cases h with
 | tree h=>exact h
 | osl=>exact ht.elim
 | op=>exact ht.elim
 | agg=>exact ht.elim
 | tup=>exact ht.elim
 | fn=>exact ht.elim
 | bfn=>exact ht.elim
theorem A9{t e sz by_:Nat}(h:aH cx a w st L)(h0:0<sz){cells:Array Value}{rows:List (List AV)}(hr:∀row∈rows,row.length=sz)(hn:cells.size=rows.length * sz)(hm:rows.length<=9223372036854775807)(h1:∀x∈cells,x.oneCell'=true)
  (hx:∀(i j:Nat)(row:List AV)(av:AV),rows[i]? = some row->row[j]? = some av->∃x,cells[i * sz+j]? = some x/\RT w (Sx cx w st.tab L) x av) (dst:Option Nat) :
  aH cx (a.put dst (.slice (some ⟨w.heap.size,0,none⟩) rows.length rows.length)) (w.alloc (.cells cells e)) ({ st with tab:=(st.next,some (.row e sz rows)) :: st.tab,next:=st.next+1 }.put dst (.osl st.next)) (bp L st.next (.slice (some ⟨w.heap.size,0,none⟩) rows.length rows.length)):=by
 refine j9 (ob:=.row e sz rows) (v:=.slice (some ⟨w.heap.size,0,none⟩) rows.length rows.length) h ((Below.refl _ _).alloc (UU _) _) (fun g hg=>?_) (fun hext=>⟨hr,cells.toList,⟨by simpa using hn,.inr ⟨w.heap.size,_,cells,rfl,h.lay.below.size,heap_alloc_new w _,UU _,by simpa[maxLen] using hm,Nat.le_of_eq hn.symm,?_⟩⟩,fun x hx'=>h1 x (by simpa using hx'),fun i j row av ha hb=>?_⟩) trivial (fun hext=>?_) (VT _) dst
 .simp [aL] at hg;omega
 .exact Vg (by simp[hn])
 .obtain ⟨x,hx1,hx2⟩:=hx i j row av ha hb;exact⟨x,by simpa using hx1,hext.rt hx2⟩
 .refine .osl _ _ fun sz' v'' hk=>?_;simp[Kx,ae.gc,bp] at hk;exact hk.2
theorem uZ{t e sz by_:Nat}(h:aH cx a w st L)(h0:0<sz){cells:Array Value}{rows:List (List AV)}(hr:∀row∈rows,row.length=sz)(hn:cells.size=rows.length * sz)(hm:rows.length<=9223372036854775807)(h1:∀x∈cells,x.oneCell'=true)
  (hx:∀(i j:Nat)(row:List AV)(av:AV),rows[i]? = some row->row[j]? = some av->∃x,cells[i * sz+j]? = some x/\bL cx w st.tab L x av) (hlt:∀row∈rows,AV.ltL st.next row) (dst:Option Nat) :
  aH cx (a.put dst (.slice (some ⟨w.heap.size,0,none⟩) rows.length rows.length)) (w.alloc (.cells cells e)) ({ st with tab:=(st.next,some (.nest e sz rows)) :: st.tab,next:=st.next+1 }.put dst (.osl st.next)) (bp L st.next (.slice (some ⟨w.heap.size,0,none⟩) rows.length rows.length)):=by
 refine j9 (ob:=.nest e sz rows) (v:=.slice (some ⟨w.heap.size,0,none⟩) rows.length rows.length) h ((Below.refl _ _).alloc (UU _) _) (fun g hg=>?_) (fun hext=>⟨hr,cells.toList,⟨by simpa using hn,.inr ⟨w.heap.size,_,cells,rfl,h.lay.below.size,heap_alloc_new w _,UU _,by simpa[maxLen] using hm,Nat.le_of_eq hn.symm,?_⟩⟩,fun x hx'=>h1 x (by simpa using hx'),fun i j row av ha hb=>?_⟩) (fun row hr=>ah.2 fun x hx=>AV.lt_mono (VF _) (ah.1 (hlt row hr) x hx)) (fun hext=>?_) (VT _) dst
 .simp [aL] at hg;omega
 .exact Vg (by simp[hn])
 .obtain ⟨x,hx1,hx2⟩:=hx i j row av ha hb;exact⟨x,by simpa using hx1,hext.rv hx2 (ah.1 (hlt row (r2 ha)) _ (r2 hb))⟩
 .refine .osl _ _ fun sz' v'' hk=>?_;simp[Kx,ae.gc,bp] at hk;exact hk.2
mutual
def AV.frz(id sz:Nat)(rows:List (List AV)):AV->AV
 | .osl k=>if k=id then .sl sz rows else .osl k
 | .agg cs=>.agg (AV.frzL id sz rows cs)
 | .tup cs=>.tup (AV.frzL id sz rows cs)
 | .fn f cs=>.fn f (AV.frzL id sz rows cs)
 | .bfn f cs=>.bfn f (AV.frzL id sz rows cs)
 | .op k i j=>.op k i j
 | .any=>.any
 | .c v=>.c v
 | .sl sz rows=>.sl sz rows
 | .rp cs=>.rp cs
def AV.frzL(id sz:Nat)(rows:List (List AV)):List AV->List AV
 | []=>[]
 | a :: l=>a.frz id sz rows :: AV.frzL id sz rows l
end
theorem dc(id sz:Nat)(rows:List (List AV)):∀l:List AV,AV.frzL id sz rows l=l.map (·.frz id sz rows)
 | []=>rfl
 | a :: l=>by simp[AV.frzL,dc id sz rows l]
def fk(id sz:Nat)(rows:List (List AV)):List (Nat×AV)->List (Nat×AV)
 | []=>[]
 | (t,av) :: l=>(t,av.frz id sz rows) :: fk id sz rows l
def aB.frz(id sz:Nat)(rows:List (List AV)):aB->aB
 | .box t cells=>.box t (AV.frzL id sz rows cells)
 | .row e s r=>.row e s r
 | .nest e s r=>.nest e s (r.map (AV.frzL id sz rows))
 | .map ents=>.map ents
 | .ghost vs env=>.ghost vs (fk id sz rows env)
def bw(id sz:Nat)(rows:List (List AV)):ae->ae
 | []=>[]
 | (k,o) :: l=>(k,o.map (aB.frz id sz rows)) :: bw id sz rows l
theorem dr(id sz:Nat)(rows:List (List AV)):∀(l:ae)(k:Nat),(bw id sz rows l).get k=(l.get k).map (aB.frz id sz rows)
 | [],k=>by simp[bw,ae.get]
 | (q,o) :: l,k=>by
  simp only[bw,ae.gc];split
  .rfl
  .exact dr id sz rows l k
theorem JT(id sz:Nat)(rows:List (List AV))(o:aB):(o.frz id sz rows).sz=o.sz:=by cases o<;>simp[aB.frz,aB.sz,dc]
def iD(st:aj)(id:Nat):aj:=
 match st.tab.get id with
 | some (.row _ sz rows)=>{ st with env:=fk id sz rows st.env,tab:=(id,none) :: bw id sz rows st.tab }
 | _=>st
def iA(st:aj):List Nat->aj
 | []=>st
 | id :: ids=>iA (iD st id) ids
def gN:List AV->List Nat
 | []=>[]
 | .osl id :: l=>id :: gN l
 | _ :: l=>gN l
theorem nB(id sz:Nat)(rows:List (List AV)):∀(l:List (Nat×AV))(t:Nat),aX (fk id sz rows l) t=(aX l t).frz id sz rows
 | [],t=>by simp[fk,aX,AV.frz]
 | (k,av) :: l,t=>by
  simp only[fk,aX];split
  .rfl
  .exact nB id sz rows l t
theorem nq{id sz nx:Nat}{rows:List (List AV)}:∀{av:AV},av.lt nx->(av.frz id sz rows).lt nx:=by
 intro av
 induction av using AV.rec (motive_2:=fun _=>True) (motive_3:=fun l=>AV.ltL nx l->AV.ltL nx (AV.frzL id sz rows l))<;>simp_all [AV.lt,AV.ltL,AV.frz,AV.frzL]
 split<;>simp_all [AV.lt]
theorem RL{e:TypeId}{sz:Nat}{v:Value}{rows:List (List AV)}{S:Nat->Prop}(h:iu cx w tab L v (.row e sz rows))(hS:∀b,Sx cx w tab L b->S b)(hg:∀g,aL v=some g->S g):RT w S v (.sl sz rows):=by
 obtain⟨hrow,xs,hown,hone,hx⟩:=h
 have hm:∀i j row av,rows[i]? = some row->row[j]? = some av->(xs[i * sz+j]?.getD undef).oneCell'=true/\RT w S (xs[i * sz+j]?.getD undef) av/\∃x,xs[i * sz+j]? = some x:=fun i j row av h1 h2=>by
  obtain⟨x,hx1,hx2⟩:=hx i j row av h1 h2;rw[hx1];exact⟨hone x (r2 hx1),hx2.mono (fun _ _=>rfl) hS,x,rfl⟩
 rcases hown.2 with ⟨rfl,h0⟩|⟨g,cap,cur,rfl,hb,hgh,hc,hm',_⟩
 .exact .sl none _ 0 sz rows 0 0 (fun i j=>xs[i * sz+j]?.getD undef) h0.symm (UU _) (by omega) (fun h=>by omega) hrow (fun h=>by omega) (fun i j row av h1 h2=>(hm i j row av h1 h2).1) (fun i j row av h1 h2=>(hm i j row av h1 h2).2.1)
 .refine .sl _ _ cap sz rows g 0 (fun i j=>xs[i * sz+j]?.getD undef) rfl hc (by simpa[maxLen] using hm') (fun _=>⟨rfl,hg g rfl⟩) hrow (fun _ i j row av h1 h2=>?_) (fun i j row av h1 h2=>(hm i j row av h1 h2).1) (fun i j row av h1 h2=>(hm i j row av h1 h2).2.1);obtain⟨x,hx⟩:=(hm i j row av h1 h2).2.2;have:=hown.cells (g:=g) rfl _ x hx;rw[ig] at this;rw[hx,We];exact this
theorem sQ{e id sz:Nat}{rows:List (List AV)}(hL:iM cx w tab L)(hy:∀id o,tab.get id=some o->o.lt nx)(hid:tab.get id=some (.row e sz rows)) :
  iM cx w ((id,none) :: bw id sz rows tab) L/\∀x av,bL cx w tab L x av->av.lt nx->bL cx w ((id,none) :: bw id sz rows tab) L x (av.frz id sz rows):=by
  have ht:∀k,ae.get ((id,none) :: bw id sz rows tab) k=if k=id then none else (tab.get k).map (aB.frz id sz rows):=fun k=>by rw[ae.gc,dr]
  have hsub:∀k o,ae.get ((id,none) :: bw id sz rows tab) k=some o->k≠id/\∃o',tab.get k=some o' /\ o=o'.frz id sz rows:=fun k o hk=>by
   rw[ht] at hk;split at hk
   .cases hk
   .cases hg:tab.get k with
    | none=>simp[hg] at hk
    | some o'=>
     simp[hg] at hk;exact⟨by assumption,o',rfl,hk.symm⟩
  have hext:lG cx w tab L nx w ((id,none) :: bw id sz rows tab) L:=by
   refine⟨fun _ _=>rfl,fun b hb=>⟨hb.1,hb.2.1,fun k o hk=>by obtain⟨_,o',h1,_⟩:=hsub k o hk;exact hb.2.2 k o' h1⟩,fun k p _ hk=>?_⟩;unfold Kx at *;rw[ht] at hk;split at hk
   .cases hk
   .cases hg:tab.get k with
    | none=>simp[hg] at hk
    | some o'=>
     simp[hg,JT] at hk ⊢;exact hk
  have hob:=hL.objs id _ hid
  have hrow:RT w (Sx cx w ((id,none) :: bw id sz rows tab) L) (L id) (.sl sz rows):=RL hob hext.sub fun g hg=>⟨(hob.ge hg).2,⟨.inr (hob.ge hg).1,fun hX=>(hL.ex g hX).2 id _ hid hg⟩,fun k o hk hg'=>by
   obtain⟨h1,o',h2,_⟩:=hsub k o hk;exact h1 (hL.sep k id o' _ g h2 hid hg' hg)⟩
  have conv:∀x av,bL cx w tab L x av->av.lt nx->bL cx w ((id,none) :: bw id sz rows tab) L x (av.frz id sz rows):=fun x av hr=>by
   induction hr with
   | tree h0=>
    intro hl
    have e1:∀{x av},RT w (Sx cx w tab L) x av->av.frz id sz rows=av:=fun hh=>by
     induction hh with
     | agg xs cs hn hr ih=>
      simp only[AV.frz,dc,AV.agg.injEq];apply VS;intro j;rw[UV]
      cases hj:cs[j]? with
      | none=>rfl
      | some av=>
       have hlt:j<xs.size:=by rw[hn];exact(US.1 hj).1
       simp[ih j _ av (UT hlt) hj]
     | tup xs cs hn hr ih=>
      simp only[AV.frz,dc,AV.tup.injEq];apply VS;intro j;rw[UV]
      cases hj:cs[j]? with
      | none=>rfl
      | some av=>
       have hlt:j<xs.size:=by rw[hn];exact(US.1 hj).1
       simp[ih j _ av (UT hlt) hj]
     | fn fi xs cs hn hr ih=>
      simp only[AV.frz,dc,AV.fn.injEq,true_and];apply VS;intro j;rw[UV]
      cases hj:cs[j]? with
      | none=>rfl
      | some av=>
       have hlt:j<xs.size:=by rw[hn];exact(US.1 hj).1
       simp[ih j _ av (UT hlt) hj]
     | bfn fi xs cs hn hr ih=>
      simp only[AV.frz,dc,AV.bfn.injEq,true_and];apply VS;intro j;rw[UV]
      cases hj:cs[j]? with
      | none=>rfl
      | some av=>
       have hlt:j<xs.size:=by rw[hn];exact(US.1 hj).1
       simp[ih j _ av (UT hlt) hj]
     | _=>simp[AV.frz]
    rw[e1 h0];exact .tree (hext.rt h0)
   | osl x k hk=>
    intro hl;simp only[AV.frz];split
    .rename_i e1;subst e1;rw[hk _ _ (cN hid)];exact .tree hrow
    .exact hext.rv (.osl x k hk) hl
   | op x k i j hk=>
    intro hl;exact hext.rv (.op x k i j hk) hl
   | agg xs cs hn hr ih=>
    intro hl;simp only[AV.frz,dc];refine .agg xs _ (by simpa using hn) fun j x av h1 h2=>?_;rw[UV] at h2
    cases hj:cs[j]? with
    | none=>simp[hj] at h2
    | some av'=>
     simp[hj] at h2;subst h2;exact ih j x av' h1 hj (ah.1 hl _ (r2 hj))
   | tup xs cs hn hr ih=>
    intro hl;simp only[AV.frz,dc];refine .tup xs _ (by simpa using hn) fun j x av h1 h2=>?_;rw[UV] at h2
    cases hj:cs[j]? with
    | none=>simp[hj] at h2
    | some av'=>
     simp[hj] at h2;subst h2;exact ih j x av' h1 hj (ah.1 hl _ (r2 hj))
   | fn fi xs cs hn hr ih=>
    intro hl;simp only[AV.frz,dc];refine .fn fi xs _ (by simpa using hn) fun j x av h1 h2=>?_;rw[UV] at h2
    cases hj:cs[j]? with
    | none=>simp[hj] at h2
    | some av'=>
     simp[hj] at h2;subst h2;exact ih j x av' h1 hj (ah.1 hl _ (r2 hj))
   | bfn fi xs cs hn hr ih=>
    intro hl;simp only[AV.frz,dc];refine .bfn fi xs _ (by simpa using hn) fun j x av h1 h2=>?_;rw[UV] at h2
    cases hj:cs[j]? with
    | none=>simp[hj] at h2
    | some av'=>
     simp[hj] at h2;subst h2;exact ih j x av' h1 hj (ah.1 hl _ (r2 hj))
  refine⟨⟨hL.below,fun k o hk=>?_,fun k k' o o' g h1 h2=>?_,fun b hb'=>⟨(hL.ex b hb').1,fun k o hk=>?_⟩⟩,conv⟩
  rotate_left 2
  .obtain ⟨_,o',h1,_⟩:=hsub k o hk;exact(hL.ex b hb').2 k o' h1
  .obtain ⟨_,o',h1,rfl⟩:=hsub k o hk;have ho:=hL.objs k o' h1;have hlo:=hy k o' h1
   cases o' with
   | row e' s r=>exact hext.obj ho hlo fun _ _=>rfl
   | box t cells=>
    obtain⟨g,cs,h2,h3,h4,h5,h6⟩:=ho;refine⟨g,cs,h2,h3,h4,by simpa[dc] using h5,fun j x av h7 h8=>?_⟩;rw[dc,UV] at h8
    cases hj:cells[j]? with
    | none=>simp[hj] at h8
    | some av'=>
     simp[hj] at h8;subst h8;exact⟨conv x av' (h6 j x av' h7 hj).1 (ah.1 hlo _ (r2 hj)),(h6 j x av' h7 hj).2⟩
   | map ents=>exact hext.obj (o:=.map ents) ho hlo fun _ _=>rfl
   | nest e' s r=>
    obtain⟨h2,xs,h3,h4,h5⟩:=ho;refine⟨fun row hr=>?_,xs,by simpa using h3,h4,fun i j row av h7 h8=>?_⟩
    .obtain ⟨row',hr',rfl⟩:=U3.1 hr;rw[dc,Vd];exact h2 row' hr'
    .rw [UV] at h7
     cases hi:r[i]? with
     | none=>simp[hi] at h7
     | some row'=>
      simp[hi] at h7;subst h7;rw[dc,UV] at h8
      cases hj:row'[j]? with
      | none=>simp[hj] at h8
      | some av'=>
       simp[hj] at h8;subst h8;obtain⟨x,h9,h10⟩:=h5 i j row' av' hi hj;exact⟨x,h9,conv x av' h10 (ah.1 (hlo row' (r2 hi)) _ (r2 hj))⟩
   | ghost vs env=>
    refine⟨ho.1,fun t ht=>?_⟩;rw[nB];exact conv _ _ (ho.2 t ht) (fX hlo t)
  .obtain ⟨_,o1,h3,_⟩:=hsub k o h1;obtain⟨_,o2,h4,_⟩:=hsub k' o' h2;exact hL.sep k k' o1 o2 g h3 h4
theorem uK{id sz nx:Nat}{rows:List (List AV)}:∀{l:List (Nat×AV)},cU nx l->cU nx (fk id sz rows l)
 | [],_=>trivial
 | (_,_) :: _,h=>⟨nq h.1,uK h.2⟩
theorem nN{id sz nx:Nat}{rows:List (List AV)}{o:aB}(h:o.lt nx):(o.frz id sz rows).lt nx:=by
 cases o with
 | row=>trivial
 | box t cells=>
  show AV.ltL nx _;rw[dc];refine ah.2 fun a ha=>?_;obtain⟨b,hb,rfl⟩:=U3.1 ha;exact nq (ah.1 h b hb)
 | map=>trivial
 | nest e s r=>
  intro row hr;obtain⟨row',hr',rfl⟩:=U3.1 hr;rw[dc];refine ah.2 fun a ha=>?_;obtain⟨b,hb,rfl⟩:=U3.1 ha;exact nq (ah.1 (h row' hr') b hb)
 | ghost vs env=>exact uK h
def uQ(st:aj)(id:Nat)(av:AV):AV:=
 match st.tab.get id with
 | some (.row _ sz rows)=>av.frz id sz rows
 | _=>av
theorem pG(h:aH cx a w st L)(id:Nat):aH cx a w (iD st id) L/\∀x av,bL cx w st.tab L x av->av.lt st.next->bL cx w (iD st id).tab L x (uQ st id av)/\(uQ st id av).lt (iD st id).next:=by
 unfold iD uQ;split
 .rename_i e sz rows hid;obtain⟨h1,h2⟩:=sQ h.lay (fun k o hk=>(h.young k o hk).2) hid;refine⟨⟨h1,h.size,h.defers.mono (fun _ _=>rfl) fun b hb=>⟨hb.1,hb.2.1,fun k o hk=>?_⟩,fun k o hk=>?_,fun t=>?_⟩,fun x av h3 h4=>⟨h2 x av h3 h4,nq h4⟩⟩
  .rw [ae.gc,dr] at hk;split at hk
   .cases hk
   .cases hg:st.tab.get k with
    | none=>simp[hg] at hk
    | some o'=>exact hb.2.2 k o' hg
  .simp only[ae.gc,dr] at hk;split at hk
   .cases hk
   .cases hg:st.tab.get k with
    | none=>simp[hg] at hk
    | some o'=>
     simp[hg] at hk;subst hk;exact⟨(h.young k o' hg).1,nN (h.young k o' hg).2⟩
  .have e1:({ st with env:=fk id sz rows st.env,tab:=(id,none) :: bw id sz rows st.tab }:aj).get t=(st.get t).frz id sz rows:=by
    unfold aj.get;simp only;split
    .exact nB ..
    .simp [AV.frz]
   rw[e1];exact⟨h2 _ _ (h.env t).1 (h.env t).2,nq (h.env t).2⟩
 .exact ⟨h,fun x av h1 h2=>⟨h1,h2⟩⟩
def jU(st:aj):List Nat->List AV->List AV
 | [],l=>l
 | id :: ids,l=>jU (iD st id) ids (l.map (uQ st id))
theorem f9:∀(ids:List Nat){st:aj},aH cx a w st L->aH cx a w (iA st ids) L
 | [],_,h=>h
 | id :: ids,_,h=>f9 ids (pG h id).1
theorem mP:∀(ids:List Nat){st:aj}{vs:Array Value}{avs:List AV},aH cx a w st L->(∀(j:Nat)(v:Value)(av:AV),vs[j]? = some v->avs[j]? = some av->bL cx w st.tab L v av/\av.lt st.next) ->
  (jU st ids avs).length=avs.length/\∀(j:Nat)(v:Value)(av:AV),vs[j]? = some v->(jU st ids avs)[j]? = some av->bL cx w (iA st ids).tab L v av/\av.lt (iA st ids).next
 | [],_,_,_,_,hv=>⟨rfl,hv⟩
 | id :: ids,st,vs,avs,h,hv=>by
  have h1:=pG h id
  obtain⟨h2,h3⟩:=mP ids (vs:=vs) (avs:=avs.map (uQ st id)) h1.1 fun j v av h4 h5=>by
   rw[UV] at h5
   cases hj:avs[j]? with
   | none=>simp[hj] at h5
   | some av'=>
    simp[hj] at h5;subst h5;exact h1.2 v av' (hv j v av' h4 hj).1 (hv j v av' h4 hj).2
  exact⟨by rw[jU,h2,Vd],h3⟩
def Bg:AV->Prop
 | .fn _ cs=>bD cs
 | .bfn _ cs=>bD cs
 | a=>dl a
def k7:List AV->Prop
 | []=>True
 | a :: l=>Bg a/\k7 l
theorem lw:∀{l:List AV} {a:AV},k7 l->a∈l->Bg a
 | b :: l,a,h,hm=>(VL.1 hm).elim (fun e=>e ▸ h.1) fun h2=>lw h.2 h2
theorem Nm{v:Value}:Bg (.c v)=True:=rfl
theorem JV{sz:Nat}{rows:List (List AV)}:Bg (.sl sz rows)=True:=rfl
theorem r9{x:Value}{av:AV}(h:bL cx w tab L x av)(ht:Bg av):RT w (Sx cx w tab L) x av:=by
 cases av with
 | fn f cs=>
  obtain⟨xs,rfl,hn,hr⟩:=h.fn_inv;exact .fn f xs cs hn fun j x av h1 h2=>dH (hr j x av h1 h2) (dG.1 ht _ (r2 h2))
 | bfn f cs=>
  obtain⟨xs,rfl,hn,hr⟩:=h.bfn_inv;exact .bfn f xs cs hn fun j x av h1 h2=>dH (hr j x av h1 h2) (dG.1 ht _ (r2 h2))
 | _=>exact dH h ht
def AP(tab:ae)(sz:Nat):List AV->Prop
 | []=>True
 | x :: l=>(ap x).length=sz/\fg tab (ap x)/\k7 (ap x)/\AP tab sz l
theorem zq{sz:Nat}:∀{l:List AV},AP tab sz l↔ ∀x∈l,(ap x).length=sz/\fg tab (ap x)/\k7 (ap x)
 | []=>by simp[AP]
 | x :: l=>by simp[AP,zq (l:=l),and_assoc]
theorem jR{t e sz by_:Nat}{parts:List (Nat×Operand)}(h:aH cx a w st L)(ht:dx P t=some (e,sz,by_))(hp:parts.map (·.1)=List.range' 0 parts.length)(hlen:parts.length * sz<=16777216)
  (hl:AP st.tab sz (parts.map fun p=>bb st p.2)) (dst:Option Nat) :
  ∃v' w' L',(Instr.buildSlice t parts.length (parts.toArray.map fun(p:Nat×Operand)=>(p.1,a.eval p.2))).run P w=.ok v' w' /\
   aH cx (a.put dst v') w' ({ st with tab:=(st.next,some (.row e sz (parts.map fun(p:Nat×Operand)=>ap (bb st p.2)))) :: st.tab,next:=st.next+1 }.put dst (.osl st.next)) L' /\
   Below w.heap.size w w' /\ L'=bp L st.next v' /\ aL v'=some w.heap.size:=by
 obtain⟨i,z,hund,hi,hz,hs,hb,hzs,hsz⟩:=fW ht;have hl':=zq.1 hl
 have hcell:∀p∈parts,(a.eval p.2).cells.size=sz/\∀(j:Nat)(x:Value)(av:AV),(a.eval p.2).cells[j]? = some x->(ap (bb st p.2))[j]? = some av->bL cx w st.tab L x av/\x.oneCell'=true:=fun p hp'=>by
  have hm:=hl' (bb st p.2) (U3.2 ⟨p,hp',rfl⟩);have he:=ak h p.2;have:=ip h.lay he.1 he.2 hm.2.1;exact⟨this.1.trans hm.1,this.2.2⟩
 obtain⟨c,hc1,hc2⟩:=so sz (parts.map fun p=>(p.1,a.eval p.2)) 0 ((Array.range (parts.length * sz)).map (z.cells[· % z.cells.size]!)) (by simpa[Xt,Function.comp_def] using hp) (fun p hp'=>by
  simp at hp';obtain⟨i',o',hio,rfl⟩:=hp';exact(hcell _ hio).1) (by simp)
 simp only[W5,Va,VR,List.flatMap_map] at hc2
 have hrun:(Instr.buildSlice t parts.length (parts.toArray.map fun(p:Nat×Operand)=>(p.1,a.eval p.2))).run P w=.ok (.slice (some ⟨w.heap.size,0,none⟩) parts.length parts.length) (w.alloc (.cells c e)):=by
  have hnb:¬(2 ^ 24<parts.length * sz):=by omega
  rcases Xa parts.length with h0|hpos
  .have:parts=[]:=WX.1 h0;subst this
   have hce:c = #[]:=by
    rw[V7] at hc2;exact Array.toList_eq_nil_iff.1 hc2
   subst hce;simp[Instr.buildSlice,Sem.run_bind,run_underlying hund,sizeOf,typeInfo,hi,hs,zeroValue,hz,newRow,Instr.fill]
   congr 2
   exact Array.eq_empty_of_size_eq_zero (by simp)
  have hne:¬parts.length * sz=0:=by
   intro e;rcases Nat.mul_eq_zero.1 e with e|e<;>omega
  simp[Instr.buildSlice,Sem.run_bind,run_underlying hund,sizeOf,typeInfo,hi,hs,hne,zeroValue,hz,newRow];rw[UX (by omega)];simp[hzs] at hc1;simp[hzs,hc1]
 have hflat:∀(i j:Nat)(hi':i<parts.length),j<sz->c[i * sz+j]? = (a.eval parts[i].2).cells[j]?:=fun i j hi' hj=>by
  have:=lK (fun p:Nat×Operand=>(a.eval p.2).cells.toList) sz parts (fun p hp'=>by simpa using (hcell p hp').1) i j hi' hj;rw[<- V0,hc2,this];simp
 have hcs:c.size=parts.length * sz:=by
  rw[<- VI,hc2];exact jt _ _ _ fun p hp'=>by simpa using (hcell p hp').1
 have hrl:(parts.map fun p=>ap (bb st p.2)).length=parts.length:=by simp
 suffices hs:aH cx (a.put dst (.slice (some ⟨w.heap.size,0,none⟩) (parts.map fun(p:Nat×Operand)=>ap (bb st p.2)).length (parts.map fun(p:Nat×Operand)=>ap (bb st p.2)).length)) (w.alloc (.cells c e)) ({ st with tab:=(st.next,some (.row e sz (parts.map fun(p:Nat×Operand)=>ap (bb st p.2)))) :: st.tab,next:=st.next+1 }.put dst (.osl st.next)) (bp L st.next (.slice (some ⟨w.heap.size,0,none⟩) (parts.map fun(p:Nat×Operand)=>ap (bb st p.2)).length (parts.map fun(p:Nat×Operand)=>ap (bb st p.2)).length)) by
  rw[hrl] at hs;exact⟨_,_,_,hrun,hs,(Below.refl _ _).alloc (UU _) _,rfl,rfl⟩
 refine A9 (t:=t) (by_:=by_) h hsz (fun row hr=>?_) (by rw[hrl];exact hcs) (by rw[hrl];have:parts.length<=parts.length * sz:=Nat.le_mul_of_pos_right _ hsz;omega) (fun x hx=>?_) (fun i j row av ha hb=>?_) dst
 .obtain ⟨p,hp',rfl⟩:=U3.1 hr;exact(hl' _ (U3.2 ⟨p,hp',rfl⟩)).1
 .rw [<- Array.mem_toList_iff,hc2] at hx;obtain⟨p,hp',hx⟩:=VP.1 hx;obtain⟨k,hk,rfl⟩:=U8 hx;have hsz':=hcell p hp'
  have hk':k<(ap (bb st p.2)).length:=by
   rw[(hl' _ (U3.2 ⟨p,hp',rfl⟩)).1];simp at hk;omega
  simp at hk;exact(hsz'.2 k _ _ (UT hk) (p0 hk')).2
 .rw [UV] at ha
  have hi':i<parts.length:=by
   rcases U9 i parts.length with hlt|hge
   .exact hlt
   .rw [Vh hge] at ha;cases ha
  rw[p0 hi'] at ha;simp only[Vz,Xh] at ha;subst ha;have hm:=hl' _ (U3.2 ⟨_,UQ hi',rfl⟩);have hj:j<sz:=by rw[<- hm.1];exact(US.1 hb).1
  have hc:=hcell _ (UQ hi');have hjc:j<(a.eval parts[i].2).cells.size:=by omega
  exact⟨_,by rw[hflat i j hi' hj];exact UT hjc,r9 (hc.2 j _ _ (UT hjc) hb).1 (lw hm.2.2 (r2 hb))⟩
def qy(tab:ae)(sz:Nat):List AV->Prop
 | []=>True
 | x :: l=>(ap x).length=sz/\fg tab (ap x)/\qy tab sz l
theorem uR{sz:Nat}:∀{l:List AV},qy tab sz l↔ ∀x∈l,(ap x).length=sz/\fg tab (ap x)
 | []=>by simp[qy]
 | x :: l=>by simp[qy,uR (l:=l),and_assoc]
theorem po{t e sz by_:Nat}{parts:List (Nat×Operand)}(h:aH cx a w st L)(ht:dx P t=some (e,sz,by_))(hp:parts.map (·.1)=List.range' 0 parts.length)(hlen:parts.length * sz<=16777216)
  (hl:qy st.tab sz (parts.map fun p=>bb st p.2)) (dst:Option Nat) :
  ∃v' w' L',(Instr.buildSlice t parts.length (parts.toArray.map fun(p:Nat×Operand)=>(p.1,a.eval p.2))).run P w=.ok v' w' /\
   aH cx (a.put dst v') w' ({ st with tab:=(st.next,some (.nest e sz (parts.map fun(p:Nat×Operand)=>ap (bb st p.2)))) :: st.tab,next:=st.next+1 }.put dst (.osl st.next)) L' /\
   Below w.heap.size w w' /\ L'=bp L st.next v' /\ aL v'=some w.heap.size:=by
 obtain⟨i,z,hund,hi,hz,hs,hb,hzs,hsz⟩:=fW ht;have hl':=uR.1 hl
 have hcell:∀p∈parts,(a.eval p.2).cells.size=sz/\∀(j:Nat)(x:Value)(av:AV),(a.eval p.2).cells[j]? = some x->(ap (bb st p.2))[j]? = some av->bL cx w st.tab L x av/\x.oneCell'=true:=fun p hp'=>by
  have hm:=hl' (bb st p.2) (U3.2 ⟨p,hp',rfl⟩);have he:=ak h p.2;have:=ip h.lay he.1 he.2 hm.2;exact⟨this.1.trans hm.1,this.2.2⟩
 have hltp:∀p∈parts,AV.ltL st.next (ap (bb st p.2)):=fun p hp'=>by
  have hm:=hl' (bb st p.2) (U3.2 ⟨p,hp',rfl⟩);have he:=ak h p.2;exact(ip h.lay he.1 he.2 hm.2).2.1
 obtain⟨c,hc1,hc2⟩:=so sz (parts.map fun p=>(p.1,a.eval p.2)) 0 ((Array.range (parts.length * sz)).map (z.cells[· % z.cells.size]!)) (by simpa[Xt,Function.comp_def] using hp) (fun p hp'=>by
  simp at hp';obtain⟨i',o',hio,rfl⟩:=hp';exact(hcell _ hio).1) (by simp)
 simp only[W5,Va,VR,List.flatMap_map] at hc2
 have hrun:(Instr.buildSlice t parts.length (parts.toArray.map fun(p:Nat×Operand)=>(p.1,a.eval p.2))).run P w=.ok (.slice (some ⟨w.heap.size,0,none⟩) parts.length parts.length) (w.alloc (.cells c e)):=by
  have hnb:¬(2 ^ 24<parts.length * sz):=by omega
  rcases Xa parts.length with h0|hpos
  .have:parts=[]:=WX.1 h0;subst this
   have hce:c = #[]:=by
    rw[V7] at hc2;exact Array.toList_eq_nil_iff.1 hc2
   subst hce;simp[Instr.buildSlice,Sem.run_bind,run_underlying hund,sizeOf,typeInfo,hi,hs,zeroValue,hz,newRow,Instr.fill]
   congr 2
   exact Array.eq_empty_of_size_eq_zero (by simp)
  have hne:¬parts.length * sz=0:=by
   intro e;rcases Nat.mul_eq_zero.1 e with e|e<;>omega
  simp[Instr.buildSlice,Sem.run_bind,run_underlying hund,sizeOf,typeInfo,hi,hs,hne,zeroValue,hz,newRow];rw[UX (by omega)];simp[hzs] at hc1;simp[hzs,hc1]
 have hflat:∀(i j:Nat)(hi':i<parts.length),j<sz->c[i * sz+j]? = (a.eval parts[i].2).cells[j]?:=fun i j hi' hj=>by
  have:=lK (fun p:Nat×Operand=>(a.eval p.2).cells.toList) sz parts (fun p hp'=>by simpa using (hcell p hp').1) i j hi' hj;rw[<- V0,hc2,this];simp
 have hcs:c.size=parts.length * sz:=by
  rw[<- VI,hc2];exact jt _ _ _ fun p hp'=>by simpa using (hcell p hp').1
 have hrl:(parts.map fun p=>ap (bb st p.2)).length=parts.length:=by simp
 suffices hs:aH cx (a.put dst (.slice (some ⟨w.heap.size,0,none⟩) (parts.map fun(p:Nat×Operand)=>ap (bb st p.2)).length (parts.map fun(p:Nat×Operand)=>ap (bb st p.2)).length)) (w.alloc (.cells c e)) ({ st with tab:=(st.next,some (.nest e sz (parts.map fun(p:Nat×Operand)=>ap (bb st p.2)))) :: st.tab,next:=st.next+1 }.put dst (.osl st.next)) (bp L st.next (.slice (some ⟨w.heap.size,0,none⟩) (parts.map fun(p:Nat×Operand)=>ap (bb st p.2)).length (parts.map fun(p:Nat×Operand)=>ap (bb st p.2)).length)) by
  rw[hrl] at hs;exact⟨_,_,_,hrun,hs,(Below.refl _ _).alloc (UU _) _,rfl,rfl⟩
 refine uZ (t:=t) (by_:=by_) h hsz (fun row hr=>?_) (by rw[hrl];exact hcs) (by rw[hrl];have:parts.length<=parts.length * sz:=Nat.le_mul_of_pos_right _ hsz;omega) (fun x hx=>?_) (fun i j row av ha hb=>?_) (fun row hr=>by
  obtain⟨p,hp',rfl⟩:=U3.1 hr;exact hltp p hp') dst
 .obtain ⟨p,hp',rfl⟩:=U3.1 hr;exact(hl' _ (U3.2 ⟨p,hp',rfl⟩)).1
 .rw [<- Array.mem_toList_iff,hc2] at hx;obtain⟨p,hp',hx⟩:=VP.1 hx;obtain⟨k,hk,rfl⟩:=U8 hx;have hsz':=hcell p hp'
  have hk':k<(ap (bb st p.2)).length:=by
   rw[(hl' _ (U3.2 ⟨p,hp',rfl⟩)).1];simp at hk;omega
  simp at hk;exact(hsz'.2 k _ _ (UT hk) (p0 hk')).2
 .rw [UV] at ha
  have hi':i<parts.length:=by
   rcases U9 i parts.length with hlt|hge
   .exact hlt
   .rw [Vh hge] at ha;cases ha
  rw[p0 hi'] at ha;simp only[Vz,Xh] at ha;subst ha;have hm:=hl' _ (U3.2 ⟨_,UQ hi',rfl⟩);have hj:j<sz:=by rw[<- hm.1];exact(US.1 hb).1
  have hc:=hcell _ (UQ hi');have hjc:j<(a.eval parts[i].2).cells.size:=by omega
  exact⟨_,by rw[hflat i j hi' hj];exact UT hjc,(hc.2 j _ _ (UT hjc) hb).1⟩
theorem Ab(z:Array Value)(n k:Nat)(h:k<n):(madeCells z n)[k]? = some (z[k % z.size]!):=by
 simp[madeCells,h]
theorem M9(b:Bool){t e sz by_:Nat}(h:aH cx a w st L)(h0:0<sz){cells:Array Value}{rows:List (List AV)}(hr:∀row∈rows,row.length=sz)(hn:cells.size=rows.length * sz)(hm:rows.length<=9223372036854775807)(h1:∀x∈cells,x.oneCell'=true)
  (hx:∀(i j:Nat)(row:List AV)(av:AV),rows[i]? = some row->row[j]? = some av->∃x,cells[i * sz+j]? = some x/\RT w (Sx cx w st.tab L) x av) (dst:Option Nat) :
  aH cx (a.put dst (.slice (some ⟨w.heap.size,0,none⟩) rows.length rows.length)) (w.alloc (.cells cells e)) ({ st with tab:=(st.next,some (Tb b e sz rows)) :: st.tab,next:=st.next+1 }.put dst (.osl st.next)) (bp L st.next (.slice (some ⟨w.heap.size,0,none⟩) rows.length rows.length)):=by
 cases b with
 | false=>exact A9 (t:=t) (by_:=by_) h h0 hr hn hm h1 hx dst
 | true=>exact uZ (t:=t) (by_:=by_) h h0 hr hn hm h1 (fun i j row av ha hb=>(hx i j row av ha hb).elim fun x hx=>⟨x,hx.1,.tree hx.2⟩) (fun row hr'=>ah.2 fun av ha=>by
   obtain⟨i,hi⟩:=VZ hr';obtain⟨j,hj⟩:=VZ ha;obtain⟨x,_,hx⟩:=hx i j row av hi hj;exact hx.lt _) dst
theorem xj{t e sz by_:Nat}{z:Value}{n:Int}{k1 k2:IntKind}(h:aH cx a w st L)(ht:dx P t=some (e,sz,by_))(hz:bQ P e=some z)(h1:fg [] (ap (.c z)))(h0:0<=n)(hn:n<=16777216)(hb:(by_:Int) * n<=281474976710656)(dst:Option Nat) :
  ∃v' w' L',(Instr.makeSlice t (.int k1 n) (.int k2 n)).run P w=.ok v' w' /\
   aH cx (a.put dst v') w' ({ st with tab:=(st.next,some (Tb (De t) e sz (List.replicate n.toNat (ap (.c z))))) :: st.tab,next:=st.next+1 }.put dst (.osl st.next)) L' /\ Below w.heap.size w w' /\ L'=bp L st.next v' /\ aL v'=some w.heap.size:=by
 obtain⟨i,z',hund,hi,hz',hs,hby,hzs,hsz⟩:=fW ht;have:z'=z:=by simpa[bQ,hi,hz'] using hz
 subst this;have hrun:=run_make (P:=P) w t e i z' hund hi hz' k1 k2 n n h0 (WU _) (by rw[hby];exact hb) (by omega);have hcl:(ap (.c z')).length=sz:=by simp[ap,hzs]
 have hrl:(List.replicate n.toNat (ap (.c z'))).length=n.toNat:=by simp
 suffices hs2:aH cx (a.put dst (.slice (some ⟨w.heap.size,0,none⟩) (List.replicate n.toNat (ap (.c z'))).length (List.replicate n.toNat (ap (.c z'))).length)) (w.alloc (.cells (madeCells z'.cells (n.toNat * i.size)) e)) ({ st with tab:=(st.next,some (Tb (De t) e sz (List.replicate n.toNat (ap (.c z'))))) :: st.tab,next:=st.next+1 }.put dst (.osl st.next)) (bp L st.next (.slice (some ⟨w.heap.size,0,none⟩) (List.replicate n.toNat (ap (.c z'))).length (List.replicate n.toNat (ap (.c z'))).length)) by
  rw[hrl] at hs2;exact⟨_,_,_,hrun,hs2,(Below.refl _ _).alloc (UU _) _,rfl,rfl⟩
 have hzone:∀k,k<sz->(z'.cells[k]!).oneCell'=true:=fun k hk=>by
  have hk':k<z'.cells.size:=by omega
  have:=mq.1 h1 (.c z'.cells[k]) (U3.2 ⟨z'.cells[k],by simp,rfl⟩);rw[getElem!_pos z'.cells k hk'];exact this
 refine M9 (De t) (t:=t) (by_:=by_) h hsz (fun row hr=>?_) (by rw[hrl,size_madeCells,hs]) (by rw[hrl];omega) (fun x hx=>?_) (fun i' j row av ha hb=>?_) dst
 .rw [List.eq_of_mem_replicate hr,hcl]
 .obtain ⟨k,hk,rfl⟩:=Array.getElem_of_mem hx;have hk':k<n.toNat * i.size:=by simpa[size_madeCells] using hk
  have:=Ab z'.cells (n.toNat * i.size) k hk';rw[UT hk] at this;rw[Wk this];exact hzone _ (by rw[hzs];exact Nat.mod_lt _ hsz)
 .have hi':i'<n.toNat:=by
   have:=(US.1 ha).1;simpa using this
  rw[List.getElem?_replicate,UZ hi'] at ha;cases ha;have hj:j<sz:=by rw[<- hcl];exact(US.1 hb).1
  have hlt:i' * sz+j<n.toNat * sz:=by
   have:=Vk sz (show i'+1<=n.toNat from hi');rw[V3] at this;omega
  have e2:(i' * sz+j) % sz=j:=by rw[Nat.add_comm,Nat.add_mul_mod_self_right,Nat.mod_eq_of_lt hj]
  refine⟨_,by rw[hs];exact Ab _ _ _ hlt,?_⟩;rw[hzs,e2];have hj':j<z'.cells.size:=by omega
  simp only[ap,UV,V0,UT hj',Vz,Xh] at hb;subst hb;rw[getElem!_pos z'.cells j hj'];exact .c _
theorem kU{t e sz:Nat}{p v:Value}{id i j:Nat}{rows:List (List AV)}{av:AV}(h:aH cx a w st L)(hp:bL cx w st.tab L p (.op id i j))(hid:st.tab.get id=some (.row e sz rows))(hv:bL cx w st.tab L v av)(hl:av.lt st.next)
  (hi:i<rows.length) (h0:0<aq P t) (hs:(ap av).length=aq P t) (ho:j+aq P t<=sz) (h1:fg st.tab (ap av)) (h2:bD (ap av)) (dst:Option Nat) :
  ∃w',(Instr.storeAt t p v).run P w=.ok () w' /\ aH cx (a.put dst undef) w' ({ st with tab:=(id,some (.row e sz (rows.set i ((rows[i]?.getD []).take j ++ ap av ++ (rows[i]?.getD []).drop (j+aq P t))))) :: st.tab }.put dst .any) L /\
   w'.heap.size=w.heap.size/\∀k,aL (L id)≠some k->w'.heap[k]? = w.heap[k]?:=by
 obtain⟨hn,hlt,hc⟩:=ip h.lay hv hl h1;obtain⟨g,hg,rfl⟩:=hp.op_inv _ _ (cN hid);obtain⟨hrow,xs,hown,hone,hx⟩:=h.lay.objs id _ hid;simp only[aB.sz] at hg ⊢;rw[p0 hi,Vi];have hri:rows[i].length=sz:=hrow _ (UQ hi);rcases hown.2 with ⟨hL,hz⟩|⟨g',cap,cur,hL,hbg,hheap,hcap,hcm,hcs,htake⟩
 .omega
 have hgg:g=g':=by
  rw[hL] at hg;simpa[aL] using hg.symm
 subst hgg
 have hmul:i * sz+sz<=rows.length * sz:=by
  have:=Vk sz (show i+1<=rows.length from hi);rw[V3] at this;omega
 have hcapm:rows.length * sz<=cap * sz:=Vk _ hcap;have hvl:v.cells.toList.length=aq P t:=by simp[hn,hs]
 have hget:=eY cur.toList (i * sz+j) v.cells.toList (by simp only[VI,hcs];omega);rw[hvl] at hget;refine⟨_,k8 h0 (by omega) hheap (by omega) (fun x hx'=>?_),?_,by simp,fun k hk=>setRow_other w g k _ fun e=>hk (by rw[e];exact hg)⟩
 .obtain ⟨k,hk,rfl⟩:=Array.getElem_of_mem hx';have hk':k<(ap av).length:=by omega
  exact(hc k _ _ (UT hk) (p0 hk')).2
 have hxs:∀k,k<rows.length * sz->xs[k]? = cur.toList[k]?:=fun k hk=>by
  rw[<- htake,VM,UZ hk]
 have hrl:(rows[i].take j ++ ap av ++ rows[i].drop (j+aq P t)).length=sz:=by
  simp only[UW,U2,VO];omega
 refine oz (o':=.row e sz (rows.set i (rows[i].take j ++ ap av ++ rows[i].drop (j+aq P t)))) h hid hg rfl (fun k hk=>setRow_other w g k _ hk) ?_ (by simp) (fun hext=>⟨fun row hr=>?_,(cur.toList.take (i * sz+j) ++ v.cells.toList ++ cur.toList.drop (i * sz+j+aq P t)).take (rows.length * sz),?_,fun x hx'=>?_,fun i' j' row av' h3 h4=>?_⟩) trivial dst
 .exact ⟨h.lay.below.os,h.lay.below.tape,h.lay.below.output,by simpa using h.lay.below.size,fun k hk hX=>(setRow_other w g k _ (by omega)).trans (h.lay.below.block k hk hX)⟩
 .rcases V9 hr with hr|rfl
  .exact hrow row hr
  .exact hrl
 .rw [W3];refine⟨?_,.inr ⟨g,cap,_,hL,hbg,setRow_heap w g cur _ e (0,0) hheap,hcap,hcm,?_,rfl⟩⟩
  .simp only[U2,UW,VO,VI,hcs,hn,hs];omega
  .simp only[Xi,UW,U2,VO,VI,hcs,hn,hs];omega
 .obtain ⟨k,hk⟩:=VZ hx';rw[VM] at hk;split at hk
  .rename_i hkl;rw[hget] at hk;split at hk
   .rename_i hr;have hk':k-(i * sz+j)<(ap av).length:=(by omega);exact(hc _ x _ (by simpa using hk) (p0 hk')).2
   .exact hone x (r2 ((hxs k hkl).trans hk))
  .cases hk
 .rw [Wf] at h3;split at h3
  .rename_i e1;subst e1
   first|rw[UZ hi] at h3|skip
   cases h3;have hj':j'<sz:=by rw[<- hrl];exact(US.1 h4).1
   have h4':=eY rows[i] j (ap av) (by omega) j';rw[hs] at h4';rw[h4'] at h4;have hki:i * sz+j'<rows.length * sz:=(by omega);rw[VM,UZ hki,hget];split at h4
   .rename_i hr;rw[UZ (by omega)];rw[show i * sz+j' - (i * sz+j)=j' - j by omega];have hk':j' - j<v.cells.size:=(by omega);refine⟨v.cells[j' - j],by simp[hk'],hext.rt (dH (hc _ _ av' (UT hk') h4).1 (dG.1 h2 _ (r2 h4)))⟩
   .rename_i hr;rw[UX (by omega)];obtain⟨x,hx1,hx2⟩:=hx i j' _ av' (p0 hi) h4;exact⟨x,by rw[<- hxs _ hki];exact hx1,hext.rt hx2⟩
  .rename_i hne;have hi2:i'<rows.length:=(US.1 h3).1;have hj':j'<sz:=by rw[<- hrow row (r2 h3)];exact(US.1 h4).1
   have hki:i' * sz+j'<rows.length * sz:=by
    have:=Vk sz (show i'+1<=rows.length from hi2);rw[V3] at this;omega
   obtain⟨x,hx1,hx2⟩:=hx i' j' row av' h3 h4;refine⟨x,?_,hext.rt hx2⟩;rw[VM,UZ hki,hget,UX,<- hxs _ hki]
   .exact hx1
   .intro hr;rcases Wp i i' with hlt'|he|hlt'
    .have:=Vk sz (show i+1<=i' from hlt');rw[V3] at this;omega
    .exact hne he
    .have:=Vk sz (show i'+1<=i from hlt');rw[V3] at this;omega
theorem jT{t e sz:Nat}{p v:Value}{id i j:Nat}{rows:List (List AV)}{av:AV}(h:aH cx a w st L)(hp:bL cx w st.tab L p (.op id i j))(hid:st.tab.get id=some (.nest e sz rows))(hv:bL cx w st.tab L v av)(hl:av.lt st.next)
  (hi:i<rows.length) (h0:0<aq P t) (hs:(ap av).length=aq P t) (ho:j+aq P t<=sz) (h1:fg st.tab (ap av)) (dst:Option Nat) :
  ∃w',(Instr.storeAt t p v).run P w=.ok () w' /\ aH cx (a.put dst undef) w' ({ st with tab:=(id,some (.nest e sz (rows.set i ((rows[i]?.getD []).take j ++ ap av ++ (rows[i]?.getD []).drop (j+aq P t))))) :: st.tab }.put dst .any) L /\
   w'.heap.size=w.heap.size/\∀k,aL (L id)≠some k->w'.heap[k]? = w.heap[k]?:=by
 obtain⟨hn,hlt,hc⟩:=ip h.lay hv hl h1;obtain⟨g,hg,rfl⟩:=hp.op_inv _ _ (cN hid);have hyl:∀row∈rows,AV.ltL st.next row:=(h.young id _ hid).2;obtain⟨hrow,xs,hown,hone,hx⟩:=h.lay.objs id _ hid;simp only[aB.sz] at hg ⊢;rw[p0 hi,Vi];have hri:rows[i].length=sz:=hrow _ (UQ hi);rcases hown.2 with ⟨hL,hz⟩|⟨g',cap,cur,hL,hbg,hheap,hcap,hcm,hcs,htake⟩
 .omega
 have hgg:g=g':=by
  rw[hL] at hg;simpa[aL] using hg.symm
 subst hgg
 have hmul:i * sz+sz<=rows.length * sz:=by
  have:=Vk sz (show i+1<=rows.length from hi);rw[V3] at this;omega
 have hcapm:rows.length * sz<=cap * sz:=Vk _ hcap;have hvl:v.cells.toList.length=aq P t:=by simp[hn,hs]
 have hget:=eY cur.toList (i * sz+j) v.cells.toList (by simp only[VI,hcs];omega);rw[hvl] at hget;refine⟨_,k8 h0 (by omega) hheap (by omega) (fun x hx'=>?_),?_,by simp,fun k hk=>setRow_other w g k _ fun e=>hk (by rw[e];exact hg)⟩
 .obtain ⟨k,hk,rfl⟩:=Array.getElem_of_mem hx';have hk':k<(ap av).length:=by omega
  exact(hc k _ _ (UT hk) (p0 hk')).2
 have hxs:∀k,k<rows.length * sz->xs[k]? = cur.toList[k]?:=fun k hk=>by
  rw[<- htake,VM,UZ hk]
 have hrl:(rows[i].take j ++ ap av ++ rows[i].drop (j+aq P t)).length=sz:=by
  simp only[UW,U2,VO];omega
 refine oz (o':=.nest e sz (rows.set i (rows[i].take j ++ ap av ++ rows[i].drop (j+aq P t)))) h hid hg rfl (fun k hk=>setRow_other w g k _ hk) ?_ (by simp) (fun hext=>⟨fun row hr=>?_,(cur.toList.take (i * sz+j) ++ v.cells.toList ++ cur.toList.drop (i * sz+j+aq P t)).take (rows.length * sz),?_,fun x hx'=>?_,fun i' j' row av' h3 h4=>?_⟩) (fun row hr=>by
  rcases V9 hr with hr|rfl
  .exact hyl row hr
  .have hyi:=hyl _ (UQ hi);refine ah.2 fun x hx=>?_;rcases U4.1 hx with hx|hx
   .rcases U4.1 hx with hx|hx
    .exact ah.1 hyi x (Vt hx)
    .exact ah.1 hlt x hx
   .exact ah.1 hyi x (Wa hx)) dst
 .exact ⟨h.lay.below.os,h.lay.below.tape,h.lay.below.output,by simpa using h.lay.below.size,fun k hk hX=>(setRow_other w g k _ (by omega)).trans (h.lay.below.block k hk hX)⟩
 .rcases V9 hr with hr|rfl
  .exact hrow row hr
  .exact hrl
 .rw [W3];refine⟨?_,.inr ⟨g,cap,_,hL,hbg,setRow_heap w g cur _ e (0,0) hheap,hcap,hcm,?_,rfl⟩⟩
  .simp only[U2,UW,VO,VI,hcs,hn,hs];omega
  .simp only[Xi,UW,U2,VO,VI,hcs,hn,hs];omega
 .obtain ⟨k,hk⟩:=VZ hx';rw[VM] at hk;split at hk
  .rename_i hkl;rw[hget] at hk;split at hk
   .rename_i hr;have hk':k-(i * sz+j)<(ap av).length:=(by omega);exact(hc _ x _ (by simpa using hk) (p0 hk')).2
   .exact hone x (r2 ((hxs k hkl).trans hk))
  .cases hk
 .rw [Wf] at h3;split at h3
  .rename_i e1;subst e1
   first|rw[UZ hi] at h3|skip
   cases h3;have hj':j'<sz:=by rw[<- hrl];exact(US.1 h4).1
   have h4':=eY rows[i] j (ap av) (by omega) j';rw[hs] at h4';rw[h4'] at h4;have hki:i * sz+j'<rows.length * sz:=(by omega);rw[VM,UZ hki,hget];split at h4
   .rename_i hr;rw[UZ (by omega)];rw[show i * sz+j' - (i * sz+j)=j' - j by omega];have hk':j' - j<v.cells.size:=(by omega);refine⟨v.cells[j' - j],by simp[hk'],hext.rv (hc _ _ av' (UT hk') h4).1 (ah.1 hlt _ (r2 h4))⟩
   .rename_i hr;rw[UX (by omega)];obtain⟨x,hx1,hx2⟩:=hx i j' _ av' (p0 hi) h4;exact⟨x,by rw[<- hxs _ hki];exact hx1,hext.rv hx2 (ah.1 (hyl _ (UQ hi)) _ (r2 h4))⟩
  .rename_i hne;have hi2:i'<rows.length:=(US.1 h3).1;have hj':j'<sz:=by rw[<- hrow row (r2 h3)];exact(US.1 h4).1
   have hki:i' * sz+j'<rows.length * sz:=by
    have:=Vk sz (show i'+1<=rows.length from hi2);rw[V3] at this;omega
   obtain⟨x,hx1,hx2⟩:=hx i' j' row av' h3 h4;refine⟨x,?_,hext.rv hx2 (ah.1 (hyl row (r2 h3)) _ (r2 h4))⟩;rw[VM,UZ hki,hget,UX,<- hxs _ hki]
   .exact hx1
   .intro hr;rcases Wp i i' with hlt'|he|hlt'
    .have:=Vk sz (show i+1<=i' from hlt');rw[V3] at this;omega
    .exact hne he
    .have:=Vk sz (show i'+1<=i from hlt');rw[V3] at this;omega
def cV(P:Program)(t:TypeId):Option (List (Nat×Nat)×List Value):=
 match P.info? t,P.underlying t with
 | some it,some (.struct fields)=>match it.zero,fields.toList.mapM (fun f=>(P.info? f.type).map fun i=>(f.offset,i.size)) with
  | some z,some places=>some (places,z.cells.toList)
  | _,_=>none
 | some it,some (.array n e)=>match it.zero,P.info? e with
  | some z,some ie=>some ((List.range n).map fun i=>(i * ie.size,ie.size),z.cells.toList)
  | _,_=>none
 | _,_=>none
def tA(places:List (Nat×Nat)):List AV->List (Nat×AV)->Option (List AV)
 | cs,[]=>some cs
 | cs,(i,x) :: rest=>match places[i]? with
  | some (off,size)=>if (ap x).length=size/\off+size<=cs.length then tA places (cs.take off ++ ap x ++ cs.drop (off+size)) rest else none
  | none=>none
def kh(tab:ae):List (Nat×AV)->Prop
 | []=>True
 | (_,x) :: rest=>fg tab (ap x)/\kh tab rest
theorem En(hL:iM cx w tab L)(places:List (Nat×Nat)):∀(parts:List (Nat×Value))(avs:List (Nat×AV))(cells:Array Value)(cs cs':List AV),parts.length=avs.length ->
  (∀(k i:Nat)(v:Value)(j:Nat)(av:AV),parts[k]? = some (i,v)->avs[k]? = some (j,av)->i=j/\bL cx w tab L v av/\av.lt nx)->kh tab avs->cells.size=cs.length->AV.ltL nx cs->(∀(j:Nat)(x:Value)(av:AV),cells[j]? = some x->cs[j]? = some av->bL cx w tab L x av)->tA places cs avs=some cs' ->
  ∃cells',Instr.fill (places.toArray[·]?) cells parts=some cells' /\ cells'.size=cs'.length/\AV.ltL nx cs' /\ ∀(j:Nat)(x:Value)(av:AV),cells'[j]? = some x->cs'[j]? = some av->bL cx w tab L x av
 | [],[],cells,cs,cs',_,_,_,hn,hl,hr,h=>by
  cases h;exact⟨cells,rfl,hn,hl,hr⟩
 | (i,v) :: parts,(j,x) :: avs,cells,cs,cs',hlen,hp,hone,hn,hl,hr,h=>by
  obtain⟨rfl,hv,hlx⟩:=hp 0 i v j x rfl rfl;obtain⟨hc1,hc2,hc3⟩:=ip hL hv hlx hone.1;unfold tA at h;split at h
  .rename_i off size hpl;split at h
   .rename_i hsz;have hfit:off+v.cells.size<=cells.size:=(by omega);have hone':=yK off v.cells cells hfit
    obtain⟨cells',h1,h2⟩:=En hL places parts avs (cells.toList.take off ++ v.cells.toList ++ cells.toList.drop (off+v.cells.size)).toArray (cs.take off ++ ap x ++ cs.drop (off+size)) cs' (by simpa using hlen)
     (fun k i v j av h3 h4=>hp (k+1) i v j av (by simpa using h3) (by simpa using h4)) hone.2 (by simp[hc1,hsz.1,hn]) (ah.2 fun y hy=>by
      rcases U4.1 hy with hy|hy
      .rcases U4.1 hy with hy|hy
       .exact ah.1 hl y (Vt hy)
       .exact ah.1 hc2 y hy
      .exact ah.1 hl y (Wa hy)) (fun k y av h3 h4=>by
      have e1:=eY cells.toList off v.cells.toList (by simpa using hfit) k;have e2:=eY cs off (ap x) (by omega) k;simp only[VI] at e1;rw[hsz.1] at e2;rw[WB,e1] at h3;rw[e2] at h4;split at h4
      .rename_i hk;rw[UZ (by omega)] at h3;exact(hc3 _ y av (by simpa using h3) h4).1
      .rename_i hk;rw[UX (by omega)] at h3;exact hr k y av (by simpa using h3) h4) h
    refine⟨cells',?_,h2⟩;unfold Instr.fill;simp only[WB,hpl];rw[UX (by simp;omega),hone'];simpa using h1
   .cases h
  .cases h
 | [],_ :: _,_,_,_,h,_,_,_,_,_,_=>by simp at h
 | _ :: _,[],_,_,_,h,_,_,_,_,_,_=>by simp at h
theorem vm{f g:Nat->Option (Nat×Nat)}(hfg:∀i x,f i=some x->g i=some x):∀(parts:List (Nat×Value))(c r:Array Value),Instr.fill f c parts=some r->Instr.fill g c parts=some r
 | [],c,r,h=>h
 | (i,v) :: rest,c,r,h=>by
  unfold Instr.fill at h ⊢;split at h
  .cases h
  .rename_i off size hp;rw[hfg i _ hp];simp only;split at h
   .cases h
   .rename_i hc;rw[UX hc];exact vm hfg rest _ r h
theorem wg{t:TypeId}{places:List (Nat×Nat)}{zs:List Value}(h:cV P t=some (places,zs)):∃z:Value,z.cells.toList=zs/\∀parts r,Instr.fill (places.toArray[·]?) z.cells parts=some r->P.built t parts=some r:=by
 unfold cV at h;split at h
 .rename_i it fields h1 h2;split at h
  .rename_i z pl h3 h4;cases h;refine⟨z,rfl,fun parts r hr=>?_⟩;unfold Program.built;rw[h1,h2];simp only[h3];simp only[h4];exact hr
  .cases h
 .rename_i it n e h1 h2;split at h
  .rename_i z ie h3 h4;cases h;refine⟨z,rfl,fun parts r hr=>?_⟩;unfold Program.built;rw[h1,h2];simp only[h3];simp only[h4];refine vm (fun i x hx=>?_) parts z.cells r hr;rw[WB,UV] at hx;rcases U9 i n with hlt|hge
   .rw [List.getElem?_range hlt] at hx;simpa using hx
   .rw [Vh (by simpa using hge)] at hx;simp at hx
  .cases h
 .cases h
theorem LO{t:TypeId}{places:List (Nat×Nat)}{zs:List Value}{cs':List AV}{parts:List (Nat×Operand)}(h:aH cx a w st L)(ht:cV P t=some (places,zs))(hf:tA places (zs.map .c) (parts.map fun p=>(p.1,bb st p.2))=some cs')(h1:kh st.tab (parts.map fun p=>(p.1,bb st p.2))) :
  ∃v,bL cx w st.tab L v (.agg cs')/\(AV.agg cs').lt st.next/\∀w',(Instr.build t (parts.toArray.map fun(p:Nat×Operand)=>(p.1,a.eval p.2))).run P w'=.ok v w':=by
 obtain⟨z,rfl,hb⟩:=wg ht
 obtain⟨cells',h2,h3,h4,h5⟩:=En h.lay places (parts.map fun p=>(p.1,a.eval p.2)) (parts.map fun p=>(p.1,bb st p.2)) z.cells (z.cells.toList.map .c) cs' (by simp) (fun k i v j av h6 h7=>by
  rw[UV] at h6 h7
  cases hk:parts[k]? with
  | none=>simp[hk] at h6
  | some p=>
   simp[hk] at h6 h7;obtain⟨rfl,rfl⟩:=h6;obtain⟨rfl,rfl⟩:=h7;exact⟨rfl,ak h p.2⟩) h1 (by simp) (ah.2 fun y hy=>by
   obtain⟨u,_,rfl⟩:=U3.1 hy;trivial) (fun j x av h6 h7=>by
   rw[UV,V0,h6] at h7;cases h7;exact .tree (.c x)) hf
 refine⟨.agg cells',.agg cells' cs' h3 h5,h4,fun w'=>run_build w' t _ cells' ?_⟩;exact hb _ _ (by simpa using h2)
end
end
end
end Go.Proofs.YtglaiabelcefeaaGreat
