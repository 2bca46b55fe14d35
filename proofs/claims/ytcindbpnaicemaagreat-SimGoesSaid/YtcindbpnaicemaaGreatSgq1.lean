/-
  Parts of the proof: Sgp1, Sgp2.
-/
import Derived.WalkKit
import Derived.WalkLawsBesides
import Derived.Handy
import Derived.Lib.OthersKept
import Derived.Deep.Draws
import Derived.Maps.AppendAt
import Derived.Test.YtcindbpnaicemaaGreatProg
import Derived.ProofKit
import Derived.Laws.AppendOwnNone
import Derived.Laws.MakeOwn
set_option linter.unusedVariables false
set_option linter.unusedSimpArgs false
set_option linter.defProp false
set_option maxRecDepth 100000
set_option maxHeartbeats 16000000
namespace Go.Proofs.YtcindbpnaicemaaGreat
section
section
open Go.RowKit
theorem hide {p:Prop} (h:p):Hid p:=h
theorem nil_or_snoc {α:Type} (l:List α):l=[] ∨ ∃ q x,l=q ++ [x]:=by
 rcases List.eq_nil_or_concat l with h|⟨q,x,h⟩
 ·exact .inl h
 ·exact .inr ⟨q,x,by rw [h,List.concat_eq_append]⟩
theorem addAddr0 (g j:Nat):(⟨g,0,none⟩:Addr).add j=⟨g,j,none⟩:=by unfold Addr.add;split <;> simp_all
def Blk (w:World) (g:Nat) (t:TypeId) (cs:Array Value):Prop:=w.heap[g]? = some (.cells cs t (0,0))
section
variable {w w':World} {g:Nat} {t:TypeId} {cs:Array Value}
theorem Blk.lt (h:Blk w g t cs):g<w.heap.size:=by
 rcases Nat.lt_or_ge g w.heap.size with hlt|hge
 ·exact hlt
 ·unfold Blk at h;rw [Array.getElem?_eq_none hge] at h;cases h
theorem Blk.cell (h:Blk w g t cs) (i:Nat):w.cell? ⟨g,i,none⟩=cs[i]?:=cell_of_row w g i cs t (0,0) h
theorem Blk.frozen (h:Blk w g t cs) (i:Nat):w.frozen? ⟨g,i,none⟩=false:=by
 unfold Blk at h
 simp [World.frozen?,h]
theorem Blk.new (w:World) (t:TypeId) (cs:Array Value):Blk (w.alloc (.cells cs t)) w.heap.size t cs:=heap_alloc_new w _
theorem Blk.alloc (h:Blk w g t cs) (o:Obj):Blk (w.alloc o) g t cs:=(Below.heap_alloc w o g h.lt).trans h
theorem Blk.set_ (h:Blk w g t cs) (i:Nat) (u:Value):Blk (w.setCell ⟨g,i,none⟩ u) g t (cs.setIfInBounds i u):=by
 unfold Blk at h ⊢
 simp [World.setCell,Array.getElem?_modify,h]
theorem Blk.far (h:Blk w g t cs) {p:Addr} (hp:g ≠ p.block) (u:Value):Blk (w.setCell p u) g t cs:=(Below.heap_setCell w p u g hp).trans h
theorem Blk.below {B:Nat} (h:Blk w g t cs) (hb:Below B w w') (hg:g<B):Blk w' g t cs:=(hb.block g hg).trans h
theorem Blk.grown {row:Option Nat} (h:Blk w g t cs) (hb:w.grownBy w' row) (hg:some g ≠ row):Blk w' g t cs:=(hb.block g h.lt hg).trans h
end
section
variable {w w':World} {base:Nat} {e:TypeId} {size n:Nat} {v:Value} {xs:List Value}
theorem own_form (h:w.ownsRow base e size v n xs):∃ A c,v=.slice A n c ∧ n≤c:=by
 rcases h.2 with ⟨rfl,rfl⟩|⟨g,cap,cur,rfl,_,_,hn,_⟩
 ·exact ⟨none,0,rfl,Nat.le_refl _⟩
 ·exact ⟨_,cap,rfl,hn⟩
theorem own_some (h:w.ownsRow base e size v n xs) (hn:0<n):∃ g c,v=.slice (some ⟨g,0,none⟩) n c ∧ n≤c ∧ base≤g ∧ g<w.heap.size:=by
 rcases h.2 with ⟨rfl,rfl⟩|⟨g,cap,cur,rfl,hb,hg,hn,_⟩
 ·omega
 ·exact ⟨g,cap,rfl,hn,hb,(Array.getElem?_eq_some_iff.1 hg).1⟩
theorem own_ne (h:w.ownsRow base e size v n xs) {g:Nat} (hg:g<base):some g ≠ v.ownBlock:=by
 intro he
 have:=(h.lt g he.symm).1
 omega
theorem own_below {B:Nat} (h:w.ownsRow base e size v n xs) (hb:Below B w w') (hB:∀ g,v.ownBlock=some g → g<B):w'.ownsRow base e size v n xs:=by
 refine ⟨h.1,?_⟩
 rcases h.2 with hn|⟨g,cap,cur,rfl,hbg,hg,rest⟩
 ·exact .inl hn
 ·exact .inr ⟨g,cap,cur,rfl,hbg,(hb.block g (hB g (by simp [Value.ownBlock]))).trans hg,rest⟩
theorem own_below' (h:w.ownsRow base e size v n xs) (hb:Below w.heap.size w w'):w'.ownsRow base e size v n xs:=own_below h hb fun g hg=>(h.lt g hg).2
theorem own_far (h:w.ownsRow base e size v n xs) {p:Addr} (hp:p.block<base) (u:Value):(w.setCell p u).ownsRow base e size v n xs:=ownsRow_setCell_below h hp u
theorem own_base {base':Nat} (h:w.ownsRow base e size v n xs) (hb:base'≤base):w.ownsRow base' e size v n xs:=by
 refine ⟨h.1,?_⟩
 rcases h.2 with hn|⟨g,cap,cur,rfl,hbg,rest⟩
 ·exact .inl hn
 ·exact .inr ⟨g,cap,cur,rfl,by omega,rest⟩
theorem own_cell (h:w.ownsRow base e size v n xs) {g c:Nat} (hv:v=.slice (some ⟨g,0,none⟩) n c) {j:Nat} {u:Value} (hu:xs[j]? = some u):w.cell? ⟨g,j,none⟩=some u:=by
 subst hv
 have:=h.cells (g:=g) rfl j u hu
 rwa [addAddr0] at this
end
theorem cells_new (w:World) (L:List Value) (t:TypeId):∀ j u,L[j]? = some u → (w.alloc (.cells L.toArray t)).cell? ((⟨w.heap.size,0,none⟩:Addr).add j)=some u:=by
 intro j u hu
 rw [addAddr0,(Blk.new w t L.toArray).cell j]
 simpa using hu
end
section
open Go.RowKit
def ambD:Nat:=0
structure Amb (w:World):Prop where
 le:ambD≤w.heap.size
 tab:True
theorem Amb.keep {w w':World} (h:Amb w) (hs:ambD≤w'.heap.size) (hk:∀ k,k<ambD → w'.heap[k]? = w.heap[k]?):Amb w':=⟨hs,trivial⟩
theorem amb_any (w:World):Amb w:=⟨Nat.zero_le _,trivial⟩
end
section
open Go.RowKit
inductive AV where
 | any
 | c (v:Value)
 | sl (sz:Nat) (rows:List (List AV))
 | osl (id:Nat)
 | agg (cs:List AV)
 | tup (vs:List AV)
 | fn (f:FuncId) (cs:List AV)
 | bfn (f:FuncId) (cs:List AV)
 | rp (cs:List AV)
 | op (id i j:Nat)
instance:Inhabited AV:=⟨.any⟩
inductive RT (w:World) (S:Nat → Prop):Value → AV → Prop
 | any (x:Value):RT w S x .any
 | c (v:Value):RT w S v (.c v)
 | sl (A:Option Addr) (n cap sz:Nat) (rows:List (List AV)) (b o:Nat) (U:Nat → Nat → Value) (hn:n=rows.length) (hc:n≤cap) (hm:cap≤9223372036854775807)
   (hA:0<n → A=some ⟨b,o,none⟩ ∧ S b) (hs:∀ row ∈ rows,row.length=sz)
   (hcell:0<n → ∀ i j row av,rows[i]? = some row → row[j]? = some av → w.cell? ⟨b,o+i * sz+j,none⟩=some (U i j))
   (hone:∀ i j row av,rows[i]? = some row → row[j]? = some av → (U i j).oneCell'=true)
   (hr:∀ i j row av,rows[i]? = some row → row[j]? = some av → RT w S (U i j) av):RT w S (.slice A n cap) (.sl sz rows)
 | agg (xs:Array Value) (cs:List AV) (hn:xs.size=cs.length) (hr:∀ (j:Nat) (x:Value) (av:AV),xs[j]? = some x → cs[j]? = some av → RT w S x av):RT w S (.agg xs) (.agg cs)
 | tup (xs:Array Value) (cs:List AV) (hn:xs.size=cs.length) (hr:∀ (j:Nat) (x:Value) (av:AV),xs[j]? = some x → cs[j]? = some av → RT w S x av):RT w S (.tuple xs) (.tup cs)
 | fn (f:FuncId) (xs:Array Value) (cs:List AV) (hn:xs.size=cs.length) (hr:∀ (j:Nat) (x:Value) (av:AV),xs[j]? = some x → cs[j]? = some av → RT w S x av):RT w S (.func (.func f) #[] xs) (.fn f cs)
 | bfn (f:FuncId) (xs:Array Value) (cs:List AV) (hn:xs.size=cs.length) (hr:∀ (j:Nat) (x:Value) (av:AV),xs[j]? = some x → cs[j]? = some av → RT w S x av):RT w S (.func (.func f) xs #[]) (.bfn f cs)
 | rp (b o:Nat) (cs:List AV) (U:Nat → Value) (hb:S b) (hcell:∀ j av,cs[j]? = some av → w.cell? ⟨b,o+j,none⟩=some (U j)) (hr:∀ j av,cs[j]? = some av → RT w S (U j) av) :
   RT w S (.pointer (some ⟨b,o,none⟩)) (.rp cs)
theorem RT.mono {w w':World} {S S':Nat → Prop} {x:Value} {av:AV} (h:RT w S x av) (hk:∀ p:Addr,S p.block → w'.cell? p=w.cell? p) (hS:∀ b,S b → S' b):RT w' S' x av:=by
 induction h with
 | any x=>exact .any x
 | c v=>exact .c v
 | sl A n cap sz rows b o U hn hc hm hA hs hcell hone hr ih=>
  exact .sl A n cap sz rows b o U hn hc hm (fun h=>⟨(hA h).1,hS _ (hA h).2⟩) hs (fun h i j row av h1 h2=>(hk _ (hA h).2).trans (hcell h i j row av h1 h2)) hone ih
 | agg xs cs hn hr ih=>exact .agg xs cs hn ih
 | tup xs cs hn hr ih=>exact .tup xs cs hn ih
 | fn fi xs cs hn hr ih=>exact .fn fi xs cs hn ih
 | bfn fi xs cs hn hr ih=>exact .bfn fi xs cs hn ih
 | rp b o cs U hb hcell hr ih=>exact .rp b o cs U (hS _ hb) (fun j av h=>(hk _ hb).trans (hcell j av h)) ih
def vblk:Value → Option Nat
 | .pointer (some a)=>some a.block
 | .slice (some a) _ _=>some a.block
 | .map (some b)=>some b
 | _=>none
inductive RV (w:World) (S:Nat → Prop) (K:Nat → Option (Nat × Value)):Value → AV → Prop
 | tree {x:Value} {av:AV} (h:RT w S x av):RV w S K x av
 | osl (x:Value) (id:Nat) (h:∀ sz v,K id=some (sz,v) → x=v):RV w S K x (.osl id)
 | op (x:Value) (id i j:Nat) (h:∀ sz v,K id=some (sz,v) → ∃ g,vblk v=some g ∧ x=.pointer (some ⟨g,i * sz+j,none⟩)):RV w S K x (.op id i j)
 | agg (xs:Array Value) (cs:List AV) (hn:xs.size=cs.length) (hr:∀ (j:Nat) (x:Value) (av:AV),xs[j]? = some x → cs[j]? = some av → RV w S K x av):RV w S K (.agg xs) (.agg cs)
 | tup (xs:Array Value) (cs:List AV) (hn:xs.size=cs.length) (hr:∀ (j:Nat) (x:Value) (av:AV),xs[j]? = some x → cs[j]? = some av → RV w S K x av):RV w S K (.tuple xs) (.tup cs)
 | fn (f:FuncId) (xs:Array Value) (cs:List AV) (hn:xs.size=cs.length) (hr:∀ (j:Nat) (x:Value) (av:AV),xs[j]? = some x → cs[j]? = some av → RV w S K x av):RV w S K (.func (.func f) #[] xs) (.fn f cs)
 | bfn (f:FuncId) (xs:Array Value) (cs:List AV) (hn:xs.size=cs.length) (hr:∀ (j:Nat) (x:Value) (av:AV),xs[j]? = some x → cs[j]? = some av → RV w S K x av):RV w S K (.func (.func f) xs #[]) (.bfn f cs)
mutual
def AV.lt (nx:Nat):AV → Prop
 | .osl id=>id<nx
 | .op id _ _=>id<nx
 | .agg cs=>AV.ltL nx cs
 | .tup cs=>AV.ltL nx cs
 | .fn _ cs=>AV.ltL nx cs
 | .bfn _ cs=>AV.ltL nx cs
 | _=>True
def AV.ltL (nx:Nat):List AV → Prop
 | []=>True
 | a :: l=>a.lt nx ∧ AV.ltL nx l
end
theorem ltL_iff {nx:Nat}:∀ {l:List AV},AV.ltL nx l ↔ ∀ a ∈ l,a.lt nx
 | []=>by simp [AV.ltL]
 | a :: l=>by simp [AV.ltL,ltL_iff (l:=l)]
theorem AV.lt_mono {n m:Nat} (hnm:n≤m):∀ {av:AV},av.lt n → av.lt m:=by
 intro av
 induction av using AV.rec (motive_2:=fun _=>True) (motive_3:=fun l=>AV.ltL n l → AV.ltL m l) <;> simp_all [AV.lt,AV.ltL] <;> omega
theorem RT.lt {w:World} {S:Nat → Prop} {x:Value} {av:AV} (h:RT w S x av) (nx:Nat):av.lt nx:=by
 induction h with
 | agg xs cs hn hr ih=>
  refine ltL_iff.2 fun a ha=>?_
  obtain ⟨j,hj⟩:=List.getElem?_of_mem ha
  have hlt:j<xs.size:=by rw [hn];exact (List.getElem?_eq_some_iff.1 hj).1
  exact ih j _ a (Array.getElem?_eq_getElem hlt) hj
 | tup xs cs hn hr ih=>
  refine ltL_iff.2 fun a ha=>?_
  obtain ⟨j,hj⟩:=List.getElem?_of_mem ha
  have hlt:j<xs.size:=by rw [hn];exact (List.getElem?_eq_some_iff.1 hj).1
  exact ih j _ a (Array.getElem?_eq_getElem hlt) hj
 | fn fi xs cs hn hr ih=>
  refine ltL_iff.2 fun a ha=>?_
  obtain ⟨j,hj⟩:=List.getElem?_of_mem ha
  have hlt:j<xs.size:=by rw [hn];exact (List.getElem?_eq_some_iff.1 hj).1
  exact ih j _ a (Array.getElem?_eq_getElem hlt) hj
 | bfn fi xs cs hn hr ih=>
  refine ltL_iff.2 fun a ha=>?_
  obtain ⟨j,hj⟩:=List.getElem?_of_mem ha
  have hlt:j<xs.size:=by rw [hn];exact (List.getElem?_eq_some_iff.1 hj).1
  exact ih j _ a (Array.getElem?_eq_getElem hlt) hj
 | _=>trivial
theorem RV.mono {w w':World} {S S':Nat → Prop} {K K':Nat → Option (Nat × Value)} {nx:Nat} {x:Value} {av:AV} (h:RV w S K x av) (hl:av.lt nx) (hk:∀ p:Addr,S p.block → w'.cell? p=w.cell? p) (hS:∀ b,S b → S' b)
  (hK:∀ id p,id<nx → K' id=some p → K id=some p):RV w' S' K' x av:=by
 induction h with
 | tree h=>exact .tree (h.mono hk hS)
 | osl x id h=>exact .osl x id fun sz v e=>h sz v (hK id _ hl e)
 | op x id i j h=>exact .op x id i j fun sz v e=>h sz v (hK id _ hl e)
 | agg xs cs hn hr ih=>exact .agg xs cs hn fun j x av h1 h2=>ih j x av h1 h2 (ltL_iff.1 hl _ (List.mem_of_getElem? h2))
 | tup xs cs hn hr ih=>exact .tup xs cs hn fun j x av h1 h2=>ih j x av h1 h2 (ltL_iff.1 hl _ (List.mem_of_getElem? h2))
 | fn fi xs cs hn hr ih=>exact .fn fi xs cs hn fun j x av h1 h2=>ih j x av h1 h2 (ltL_iff.1 hl _ (List.mem_of_getElem? h2))
 | bfn fi xs cs hn hr ih=>exact .bfn fi xs cs hn fun j x av h1 h2=>ih j x av h1 h2 (ltL_iff.1 hl _ (List.mem_of_getElem? h2))
section
variable {w:World} {S:Nat → Prop} {K:Nat → Option (Nat × Value)} {x:Value}
theorem RV.c_inv {v:Value} (h:RV w S K x (.c v)):x=v:=by
 cases h with
 | tree h=>cases h;rfl
theorem RV.agg_inv {cs:List AV} (h:RV w S K x (.agg cs)):∃ xs:Array Value,x=.agg xs ∧ xs.size=cs.length ∧ ∀ (j:Nat) (x:Value) (av:AV),xs[j]? = some x → cs[j]? = some av → RV w S K x av:=by
 cases h with
 | tree h=>cases h with | agg xs cs hn hr=>exact ⟨xs,rfl,hn,fun j x av h1 h2=>.tree (hr j x av h1 h2)⟩
 | agg xs cs hn hr=>exact ⟨xs,rfl,hn,hr⟩
theorem RV.tup_inv {cs:List AV} (h:RV w S K x (.tup cs)):∃ xs:Array Value,x=.tuple xs ∧ xs.size=cs.length ∧ ∀ (j:Nat) (x:Value) (av:AV),xs[j]? = some x → cs[j]? = some av → RV w S K x av:=by
 cases h with
 | tree h=>cases h with | tup xs cs hn hr=>exact ⟨xs,rfl,hn,fun j x av h1 h2=>.tree (hr j x av h1 h2)⟩
 | tup xs cs hn hr=>exact ⟨xs,rfl,hn,hr⟩
theorem RV.fn_inv {f:FuncId} {cs:List AV} (h:RV w S K x (.fn f cs)):∃ xs:Array Value,x=.func (.func f) #[] xs ∧ xs.size=cs.length ∧ ∀ (j:Nat) (x:Value) (av:AV),xs[j]? = some x → cs[j]? = some av → RV w S K x av:=by
 cases h with
 | tree h=>cases h with | fn _ xs cs hn hr=>exact ⟨xs,rfl,hn,fun j x av h1 h2=>.tree (hr j x av h1 h2)⟩
 | fn _ xs cs hn hr=>exact ⟨xs,rfl,hn,hr⟩
theorem RV.bfn_inv {f:FuncId} {cs:List AV} (h:RV w S K x (.bfn f cs)):∃ xs:Array Value,x=.func (.func f) xs #[] ∧ xs.size=cs.length ∧ ∀ (j:Nat) (x:Value) (av:AV),xs[j]? = some x → cs[j]? = some av → RV w S K x av:=by
 cases h with
 | tree h=>cases h with | bfn _ xs cs hn hr=>exact ⟨xs,rfl,hn,fun j x av h1 h2=>.tree (hr j x av h1 h2)⟩
 | bfn _ xs cs hn hr=>exact ⟨xs,rfl,hn,hr⟩
theorem RT.sl_inv {sz:Nat} {rows:List (List AV)} (h:RT w S x (.sl sz rows)):∃ A cap,x=.slice A rows.length cap ∧ rows.length≤cap ∧ cap≤9223372036854775807 ∧ (∀ row ∈ rows,row.length=sz) ∧
  (0<rows.length → ∃ b o,A=some ⟨b,o,none⟩ ∧ S b ∧ ∃ U:Nat → Nat → Value,(∀ i j row av,rows[i]? = some row → row[j]? = some av → w.cell? ⟨b,o+i * sz+j,none⟩=some (U i j)) ∧
   (∀ i j row av,rows[i]? = some row → row[j]? = some av → RT w S (U i j) av) ∧ ∀ i j row av,rows[i]? = some row → row[j]? = some av → (U i j).oneCell'=true):=by
 cases h with
 | sl A n cap sz rows b o U hn hc hm hA hs hcell hone hr=>
  subst hn
  exact ⟨A,cap,rfl,hc,hm,hs,fun h=>⟨b,o,(hA h).1,(hA h).2,U,hcell h,hr,hone⟩⟩
theorem RV.sl_inv {sz:Nat} {rows:List (List AV)} (h:RV w S K x (.sl sz rows)):RT w S x (.sl sz rows):=by
 cases h with
 | tree h=>exact h
theorem RV.rp_inv {cs:List AV} (h:RV w S K x (.rp cs)):∃ b o,∃ U:Nat → Value,x=.pointer (some ⟨b,o,none⟩) ∧ S b ∧ (∀ j av,cs[j]? = some av → w.cell? ⟨b,o+j,none⟩=some (U j)) ∧ ∀ j av,cs[j]? = some av → RT w S (U j) av:=by
 cases h with
 | tree h=>cases h with | rp b o cs U hb hcell hr=>exact ⟨b,o,U,rfl,hb,hcell,hr⟩
theorem RV.osl_inv {id:Nat} (h:RV w S K x (.osl id)):∀ sz v,K id=some (sz,v) → x=v:=by
 cases h with
 | tree h=>cases h
 | osl x id h=>exact h
theorem RV.op_inv {id i j:Nat} (h:RV w S K x (.op id i j)):∀ sz v,K id=some (sz,v) → ∃ g,vblk v=some g ∧ x=.pointer (some ⟨g,i * sz+j,none⟩):=by
 cases h with
 | tree h=>cases h
 | op x id i j h=>exact h
end
def envLt (nx:Nat):List (Nat × AV) → Prop
 | []=>True
 | (_,av) :: l=>av.lt nx ∧ envLt nx l
inductive AObj where
 | box (t:TypeId) (cells:List AV)
 | nest (e:TypeId) (sz:Nat) (rows:List (List AV))
 | row (e:TypeId) (sz:Nat) (rows:List (List AV))
 | map (ents:List (Value × Value))
 | ghost (vs:Array Value) (env:List (Nat × AV))
def AObj.sz:AObj → Nat
 | .box _ cells=>cells.length
 | .nest _ sz _=>sz
 | .row _ sz _=>sz
 | .map _=>0
 | .ghost _ _=>0
def AObj.lt (nx:Nat):AObj → Prop
 | .box _ cells=>AV.ltL nx cells
 | .nest _ _ rows=>∀ row ∈ rows,AV.ltL nx row
 | .row _ _ _=>True
 | .map _=>True
 | .ghost _ env=>envLt nx env
def nestMk:List TypeId:=[23]
def isMk (t:TypeId):Bool:=nestMk.contains t
def mkO (b:Bool) (e:TypeId) (sz:Nat) (rows:List (List AV)):AObj:=match b with
 | true=>.nest e sz rows
 | false=>.row e sz rows
abbrev ATab:=List (Nat × Option AObj)
def ATab.get:ATab → Nat → Option AObj
 | [],_=>none
 | (k,o) :: l,id=>if id=k then o else ATab.get l id
theorem ATab.get_cons (k:Nat) (o:Option AObj) (l:ATab) (id:Nat):ATab.get ((k,o) :: l) id=if id=k then o else l.get id:=rfl
def aget:List (Nat × AV) → Nat → AV
 | [],_=>.any
 | (k,v) :: l,t=>if t=k then v else aget l t
theorem envLt_aget {nx:Nat}:∀ {l:List (Nat × AV)},envLt nx l → ∀ t,(aget l t).lt nx
 | [],_,_=>trivial
 | (k,av) :: l,h,t=>by
  unfold aget
  split
  ·exact h.1
  ·exact envLt_aget h.2 t
theorem envLt_mono {n m:Nat} (hnm:n≤m):∀ {l:List (Nat × AV)},envLt n l → envLt m l
 | [],_=>trivial
 | (_,_) :: _,h=>⟨AV.lt_mono hnm h.1,envLt_mono hnm h.2⟩
structure ASt where
 n:Nat
 env:List (Nat × AV)
 tab:ATab
 next:Nat
def ASt.get (st:ASt) (t:Nat):AV:=if t<st.n then aget st.env t else .any
def ASt.put (st:ASt) (dst:Option Nat) (av:AV):ASt:=
 match dst with
 | some d=>{ st with env:=(d,av) :: st.env }
 | none=>st
structure Cx where
 F:Nat → Prop
 w0:World
 /-- memory of somebody else's: neither read nor written -/
 X:Nat → Prop
 amb:Amb w0
 exD:∀ b,X b → ambD≤b
 inF:∀ b,b<ambD → F b
structure SOk (w:World) (S:Nat → Prop):Prop where
 sub:∀ b,S b → b<w.heap.size
 amb:Amb w
 tab:∀ b,b<ambD → S b
instance {w:World} {S:Nat → Prop}:CoeFun (SOk w S) fun _=>∀ b,S b → b<w.heap.size:=⟨fun h=>h.sub⟩
abbrev Cx.mk0 (S:Nat → Prop) (w:World) (hS:SOk w S):Cx:=⟨S,w,fun _=>False,hS.amb,fun _ h=>h.elim,hS.tab⟩
theorem Amb.below {w w':World} (h:Amb w) (hb:Below w.heap.size w w'):Amb w':=h.keep (Nat.le_trans h.le hb.size) fun k hk=>hb.block k (Nat.lt_of_lt_of_le hk h.le)
theorem Amb.all {w:World} (h:Amb w):SOk w (fun b=>b<w.heap.size):=⟨fun b hb=>hb,h,fun b hb=>Nat.lt_of_lt_of_le hb h.le⟩
structure BelowX (X:Nat → Prop) (n:Nat) (w w':World):Prop where
 os:w'.os=w.os
 tape:w'.tape=w.tape
 output:w'.output=w.output
 size:w.heap.size≤w'.heap.size
 block:∀ k,k<n → ¬ X k → w'.heap[k]? = w.heap[k]?
theorem BelowX.trans {X:Nat → Prop} {n:Nat} {a b c:World} (h:BelowX X n a b) (k:BelowX X n b c):BelowX X n a c:=
 ⟨k.os.trans h.os,k.tape.trans h.tape,k.output.trans h.output,Nat.le_trans h.size k.size,fun i hi hx=>(k.block i hi hx).trans (h.block i hi hx)⟩
theorem belowX {X:Nat → Prop} {n:Nat} {a b:World} (h:Below n a b):BelowX X n a b:=⟨h.os,h.tape,h.output,h.size,fun i hi _=>h.block i hi⟩
theorem BelowX.below {X:Nat → Prop} {n:Nat} {a b:World} (h:BelowX X n a b) (hx:∀ b,¬ X b):Below n a b:=⟨h.os,h.tape,h.output,h.size,fun i hi=>h.block i hi (hx i)⟩
def Sx (c:Cx) (w:World) (tab:ATab) (L:Nat → Value) (b:Nat):Prop:=b<w.heap.size ∧ ((c.F b ∨ c.w0.heap.size≤b) ∧ ¬ c.X b) ∧ ∀ id o,tab.get id=some o → vblk (L id) ≠ some b
def Kx (tab:ATab) (L:Nat → Value) (id:Nat):Option (Nat × Value):=(tab.get id).map fun o=>(o.sz,L id)
abbrev RVx (c:Cx) (w:World) (tab:ATab) (L:Nat → Value):Value → AV → Prop:=RV w (Sx c w tab L) (Kx tab L)
def OwnsR (w:World) (base:Nat) (e:TypeId) (size:Nat) (v:Value) (n:Nat) (xs:List Value):Prop:=
  xs.length=n * size ∧
  ((v=.slice none 0 0 ∧ n=0) ∨
   ∃ g cap cur,v=.slice (some ⟨g,0,none⟩) n cap ∧ base≤g ∧ w.heap[g]? = some (.cells cur e (0,0)) ∧ n≤cap ∧ cap≤maxLen ∧ cap * size≤cur.size ∧ cur.toList.take (n * size)=xs)
theorem ownsR_of {w:World} {base e size n:Nat} {v:Value} {xs:List Value} (h:w.ownsRow base e size v n xs):OwnsR w base e size v n xs:=by
 refine ⟨h.1,?_⟩
 rcases h.2 with hn|⟨g,cap,cur,h1,h2,h3,h4,h5,h6,h7⟩
 ·exact .inl hn
 ·exact .inr ⟨g,cap,cur,h1,h2,h3,h4,h5,by omega,h7⟩
theorem ownsR_nil (w:World) (base:Nat) (e:TypeId) (size:Nat):OwnsR w base e size (.slice none 0 0) 0 []:=⟨by simp,.inl ⟨rfl,rfl⟩⟩
theorem OwnsR.lt {w:World} {base e size n:Nat} {v:Value} {xs:List Value} (h:OwnsR w base e size v n xs):∀ k,v.ownBlock=some k → base≤k ∧ k<w.heap.size:=by
 intro k hk
 rcases h.2 with ⟨rfl,_⟩|⟨g,cap,cur,rfl,hb,hg,_⟩
 ·simp [Value.ownBlock] at hk
 ·simp [Value.ownBlock] at hk
  subst hk
  exact ⟨hb,(Array.getElem?_eq_some_iff.1 hg).1⟩
theorem OwnsR.base {w:World} {base base' e size n:Nat} {v:Value} {xs:List Value} (h:OwnsR w base e size v n xs) (hb:base'≤base):OwnsR w base' e size v n xs:=by
 refine ⟨h.1,?_⟩
 rcases h.2 with hn|⟨g,cap,cur,h1,h2,rest⟩
 ·exact .inl hn
 ·exact .inr ⟨g,cap,cur,h1,Nat.le_trans hb h2,rest⟩
theorem OwnsR.cells {w:World} {base e size n:Nat} {v:Value} {xs:List Value} (h:OwnsR w base e size v n xs) {g:Nat} (hg:v.ownBlock=some g):∀ j u,xs[j]? = some u → w.cell? ((⟨g,0,none⟩:Addr).add j)=some u:=by
 intro j u hu
 rcases h.2 with ⟨rfl,_⟩|⟨g',cap,cur,rfl,_,hgg,_,_,_,htake⟩
 ·simp [Value.ownBlock] at hg
 ·simp [Value.ownBlock] at hg
  subst hg
  have hadd:(⟨g',0,none⟩:Addr).add j=⟨g',j,none⟩:=by unfold Addr.add;split <;> simp_all
  rw [hadd,cell_of_row w g' j cur e (0,0) hgg]
  rw [← htake,List.getElem?_take] at hu
  split at hu
  ·simpa using hu
  ·cases hu
def ObjAt (c:Cx) (w:World) (tab:ATab) (L:Nat → Value) (v:Value):AObj → Prop
 | .box t cells=>∃ g cs,v=.pointer (some ⟨g,0,none⟩) ∧ c.w0.heap.size≤g ∧ w.heap[g]? = some (.cells cs t (0,0)) ∧ cs.size=cells.length ∧ ∀ (j:Nat) (x:Value) (av:AV),cs[j]? = some x → cells[j]? = some av → RVx c w tab L x av ∧ x.oneCell'=true
 | .nest e sz rows=>(∀ row ∈ rows,row.length=sz) ∧ ∃ xs,OwnsR w c.w0.heap.size e sz v rows.length xs ∧ (∀ x ∈ xs,x.oneCell'=true) ∧ ∀ (i j:Nat) (row:List AV) (av:AV),rows[i]? = some row → row[j]? = some av → ∃ x,xs[i * sz+j]? = some x ∧ RVx c w tab L x av
 | .row e sz rows=>(∀ row ∈ rows,row.length=sz) ∧ ∃ xs,OwnsR w c.w0.heap.size e sz v rows.length xs ∧ (∀ x ∈ xs,x.oneCell'=true) ∧ ∀ (i j:Nat) (row:List AV) (av:AV),rows[i]? = some row → row[j]? = some av → ∃ x,xs[i * sz+j]? = some x ∧ RT w (Sx c w tab L) x av
 | .map ents=>∃ b es ck,v=.map (some b) ∧ c.w0.heap.size≤b ∧ w.heap[b]? = some (.map es ck) ∧ es.toList.map (fun e=>(e.key,e.val))=ents
 | .ghost vs env=>v=.bool false ∧ ∀ t,t<vs.size → RVx c w tab L (vs.getD t undef) (aget env t)
structure Lay (c:Cx) (w:World) (tab:ATab) (L:Nat → Value):Prop where
 below:BelowX c.X c.w0.heap.size c.w0 w
 objs:∀ id o,tab.get id=some o → ObjAt c w tab L (L id) o
 sep:∀ id id' o o' g,tab.get id=some o → tab.get id'=some o' → vblk (L id)=some g → vblk (L id')=some g → id=id'
 ex:∀ b,c.X b → b<w.heap.size ∧ ∀ id o,tab.get id=some o → vblk (L id) ≠ some b
theorem Lay.amb {c:Cx} {w:World} {tab:ATab} {L:Nat → Value} (h:Lay c w tab L):Amb w:=
 c.amb.keep (Nat.le_trans c.amb.le h.below.size) fun k hk=>h.below.block k (Nat.lt_of_lt_of_le hk c.amb.le) fun hx=>by have:=c.exD k hx;omega
theorem Lay.sok {c:Cx} {w:World} {tab:ATab} {L:Nat → Value} (h:Lay c w tab L):SOk w (Sx c w tab L):=
 ⟨fun b hb=>hb.1,h.amb,fun b hb=>⟨Nat.lt_of_lt_of_le hb h.amb.le,⟨.inl (c.inF b hb),fun hx=>by have:=c.exD b hx;omega⟩,fun id o hid hg=>by
  have h1:=h.objs id o hid
  have h2:c.w0.heap.size≤b:=by
   cases o with
   | box t cells=>
    obtain ⟨g,cs,h3,h4,_⟩:=h1
    rw [h3] at hg
    cases hg
    exact h4
   | row e sz rows=>
    obtain ⟨_,xs,h3,_⟩:=h1
    rcases h3.2 with ⟨h4,_⟩|⟨g,cap,cur,h4,h5,_⟩
    ·rw [h4] at hg
     cases hg
    ·rw [h4] at hg
     cases hg
     exact h5
   | nest e sz rows=>
    obtain ⟨_,xs,h3,_⟩:=h1
    rcases h3.2 with ⟨h4,_⟩|⟨g,cap,cur,h4,h5,_⟩
    ·rw [h4] at hg
     cases hg
    ·rw [h4] at hg
     cases hg
     exact h5
   | map ents=>
    obtain ⟨b',es,ck,h3,h4,_⟩:=h1
    rw [h3] at hg
    cases hg
    exact h4
   | ghost vs env=>
    rw [h1.1] at hg
    cases hg
  have:=c.amb.le
  omega⟩⟩
def Marks (base:Nat) (w:World) (S:Nat → Prop) (ds:List Deferred):Prop:=
 ds.Nodup ∧ ∀ d ∈ ds,∃ k,d={ target:=.collected k,args:=#[] } ∧ base≤k ∧ w.heap[k]? = some (.deferred (some [])) ∧ S k
theorem Marks.nil (base:Nat) (w:World) (S:Nat → Prop):Marks base w S []:=⟨List.nodup_nil,fun d hd=>(by cases hd)⟩
theorem Marks.mono {base:Nat} {w w':World} {S S':Nat → Prop} {ds:List Deferred} (h:Marks base w S ds) (hb:∀ b,S b → w'.heap[b]? = w.heap[b]?) (hS:∀ b,S b → S' b):Marks base w' S' ds:=
 ⟨h.1,fun d hd=>(h.2 d hd).elim fun k hk=>⟨k,hk.1,hk.2.1,(hb k hk.2.2.2).trans hk.2.2.1,hS k hk.2.2.2⟩⟩
structure Conc (c:Cx) (a:Act) (w:World) (st:ASt) (L:Nat → Value):Prop where
 lay:Lay c w st.tab L
 size:a.tmps.size=st.n
 defers:Marks c.w0.heap.size w (Sx c w st.tab L) a.defers
 young:∀ id o,st.tab.get id=some o → id<st.next ∧ o.lt st.next
 env:∀ t,RVx c w st.tab L (a.tmps.getD t undef) (st.get t) ∧ (st.get t).lt st.next
end
section
open Go.RowKit
def tyAgg (P:Program) (t:TypeId):Bool:=match P.underlying t with | some (.struct _) | some (.array _ _)=>true | _=>false
def tySize (P:Program) (t:TypeId):Nat:=match P.underlying t,P.info? t with | some _,some i=>i.size | _,_=>0
def tyElem (P:Program) (t:TypeId):Nat × Nat:=match P.underlying t with | some (.slice e)=>(e,tySize P e) | _=>(0,0)
def fOff (P:Program) (s:TypeId) (f:Nat):Option Nat:=match P.underlying s with
 | some (.struct fields)=>match fields[f]? with
  | some fd=>if tySize P fd.type=0 then none else some fd.offset
  | none=>none
 | _=>none
def fTyp (P:Program) (s:TypeId) (f:Nat):TypeId:=match P.underlying s with
 | some (.struct fields)=>match fields[f]? with
  | some fd=>fd.type
  | none=>0
 | _=>0
def tyInt (P:Program) (t:TypeId):Option IntKind:=match P.underlying t with | some (.int k)=>some k | _=>none
inductive TyK where | bool | int | str | slice | other
def tyK (P:Program) (t:TypeId):TyK:=match P.underlying t with | some .bool=>.bool | some (.int _)=>.int | some .string=>.str | some (.slice _)=>.slice | _=>.other
section
variable {P:Program} {t:TypeId}
theorem tyAgg_true (h:tyAgg P t=true) (w:World):(isAgg t).run P w=.ok true w:=by
 unfold tyAgg at h
 cases hu:P.underlying t with
 | none=>simp [hu] at h
 | some d=>
  unfold isAgg
  rw [Sem.run_bind,run_underlying hu w]
  cases d <;> simp_all
theorem tyAgg_false {d:TypeDesc} (hu:P.underlying t=some d) (h:tyAgg P t=false) (w:World):(isAgg t).run P w=.ok false w:=by
 unfold tyAgg at h
 unfold isAgg
 rw [Sem.run_bind,run_underlying hu w]
 cases d <;> simp_all
theorem tySize_pos (h:0<tySize P t):∃ d i,P.underlying t=some d ∧ P.info? t=some i ∧ i.size=tySize P t:=by
 unfold tySize at *
 cases hu:P.underlying t <;> cases hi:P.info? t <;> simp_all
theorem run_sizeOf' (h:0<tySize P t) (w:World):(sizeOf t).run P w=.ok (tySize P t) w:=by
 obtain ⟨d,i,_,hi,he⟩:=tySize_pos h
 simp [sizeOf,typeInfo,hi,he]
end
def aEv (st:ASt):Operand → AV
 | .tmp t=>st.get t
 | .const v=>.c v
 | .func f=>.c (.func (.func f) #[] #[])
 | .global _=>.any
def aTake (P:Program) (t:TypeId) (cs:List AV) (K:AV → Prop):Prop:=
 0<tySize P t ∧ tySize P t≤cs.length ∧ if tyAgg P t=true then K (.agg (cs.take (tySize P t))) else K (cs.headD .any)
def aLoad (P:Program) (t:TypeId) (tab:ATab) (x:AV) (K:AV → Prop):Prop:=
 match x with
 | .rp cs=>aTake P t cs K
 | .op id i j=>match tab.get id with
  | some (.box _ cells)=>i=0 ∧ aTake P t (cells.drop j) K
  | some (.row _ _ rows)=>i<rows.length ∧ aTake P t ((rows[i]?.getD []).drop j) K
  | some (.nest _ _ rows)=>i<rows.length ∧ aTake P t ((rows[i]?.getD []).drop j) K
  | _=>False
 | _=>False
def aField (P:Program) (s:TypeId) (tab:ATab) (x:AV) (f:Nat) (K:AV → Prop):Prop:=
 match fOff P s f with
 | some d=>match x with
  | .rp cs=>K (.rp (cs.drop d))
  | .op id i j=>match tab.get id with
   | some _=>K (.op id i (j+d))
   | none=>False
  | _=>False
 | none=>False
def tyArr (P:Program) (t:TypeId):Nat × Nat:=match P.underlying t with | some (.array n e)=>(n,tySize P e) | _=>(0,0)
def aIndex (P:Program) (t:TypeId) (tab:ATab) (x ix:AV) (K:AV → Prop):Prop:=
 match ix with
 | .c (.int _ n)=>match x with
  | .op id i j=>match tab.get id with
   | some _=>0<(tyArr P t).2 ∧ 0≤n ∧ n<(tyArr P t).1 ∧ K (.op id i (j+n.toNat * (tyArr P t).2))
   | none=>False
  | .sl sz rows=>(tyElem P t).2=sz ∧ 0<sz ∧ 0≤n ∧ n<rows.length ∧ K (.rp (rows[n.toNat]?.getD []))
  | .osl id=>match tab.get id with
   | some (.row _ sz rows)=>(tyElem P t).2=sz ∧ 0<sz ∧ 0≤n ∧ n<rows.length ∧ K (.op id n.toNat 0)
   | some (.nest _ sz rows)=>(tyElem P t).2=sz ∧ 0<sz ∧ 0≤n ∧ n<rows.length ∧ K (.op id n.toNat 0)
   | _=>False
  | _=>False
 | _=>False
def aLen (P:Program) (t:TypeId) (tab:ATab) (x:AV) (K:AV → Prop):Prop:=
 match x with
 | .sl _ rows=>(tyElem P t).2 ≠ 0 ∧ K (.c (.int .i64 rows.length))
 | .osl id=>match tab.get id with
  | some (.row _ _ rows)=>(tyElem P t).2 ≠ 0 ∧ K (.c (.int .i64 rows.length))
  | some (.nest _ _ rows)=>(tyElem P t).2 ≠ 0 ∧ K (.c (.int .i64 rows.length))
  | _=>False
 | .c (.slice _ n _)=>(tyElem P t).2 ≠ 0 ∧ K (.c (.int .i64 n))
 | .c (.string s)=>tyK P t=.str ∧ K (.c (.int .i64 s.size))
 | _=>False
def bin2 (op:BinOp) (k:TyK):Value → Value → Option Value
 | .int i a,.int j b=>if i=j then
   match op with
   | .add=>some (.int i (i.wrap (a+b)))
   | .sub=>some (.int i (i.wrap (a - b)))
   | .mul=>some (.int i (i.wrap (a * b)))
   | .quo=>if b=0 then none else some (.int i (i.wrap (a.tdiv b)))
   | .rem=>if b=0 then none else some (.int i (a.tmod b))
   | .eql=>some (.bool (a == b))
   | .neq=>some (.bool (a != b))
   | .lss=>some (.bool (decide (a<b)))
   | .leq=>some (.bool (decide (a≤b)))
   | .gtr=>some (.bool (decide (b<a)))
   | .geq=>some (.bool (decide (b≤a)))
   | .and=>some (.int i (bits .and i a b))
   | .or=>some (.int i (bits .or i a b))
   | .xor=>some (.int i (bits .xor i a b))
   | .andNot=>some (.int i (bits .andNot i a b))
   | .shl=>if b<0 then none else some (.int i (i.wrap (a * 2 ^ (min b.toNat i.bits))))
   | .shr=>if b<0 then none else some (.int i (a.fdiv (2 ^ (min b.toNat i.bits))))
  else none
 | .bool a,.bool b=>match k,op with
   | .bool,.eql=>some (.bool (a == b))
   | .bool,.neq=>some (.bool (!(a == b)))
   | _,_=>none
 | .string a,.string b=>match op with
   | .eql=>some (.bool (a == b))
   | .neq=>some (.bool (!(a == b)))
   | .add=>if a.size+b.size≤9223372036854775807 then some (.string (a ++ b)) else none
   | _=>none
 | .slice none _ _,.slice none _ _=>match k,op with
   | .slice,.eql=>some (.bool true)
   | .slice,.neq=>some (.bool false)
   | _,_=>none
 | _,_=>none
def aNilS (op:BinOp) (k:TyK) (rows:List (List AV)) (b:Value) (K:AV → Prop):Prop:=
 match k,op,b with
 | .slice,.eql,.slice none 0 0=>∀ c:Bool,(c=true → rows=[]) → K (.c (.bool c))
 | .slice,.neq,.slice none 0 0=>∀ c:Bool,(c=false → rows=[]) → K (.c (.bool c))
 | _,_,_=>False
def aMM (f:Int → Int → Int):List AV → (AV → Prop) → Prop
 | [.c (.int k a),.c (.int _ b)],K=>K (.c (.int k (f a b)))
 | _,_=>False
def un1 (op:UnOp):Value → Option Value
 | .bool b=>match op with | .not=>some (.bool (!b)) | _=>none
 | .int k n=>match op with | .neg=>some (.int k (k.wrap (0 - n))) | _=>none
 | _=>none
def allC:List AV → Option (List Value)
 | []=>some []
 | .c v :: l=>match allC l with
  | some vs=>some (v :: vs)
  | none=>none
 | _=>none
def BinRun (P:Program) (op:BinOp) (t:TypeId) (a b r:Value):Prop:=∀ (w:World) (x y:Operand),(do eqGuard op t x y a b;binOp op t a b:Sem Value).run P w=.ok r w
def aBinS (P:Program) (op:BinOp) (t:TypeId) (K:AV → Prop):Option (List Value) → Option (List Value) → Prop
 | some vs,some us=>∃ r,BinRun P op t (.agg vs.toArray) (.agg us.toArray) r ∧ K (.c r)
 | _,_=>False
def aBin (P:Program) (op:BinOp) (t:TypeId) (x y:AV) (K:AV → Prop):Prop:=
 match x,y with
 | .c a,.c b=>match bin2 op (tyK P t) a b with
  | some v=>K (.c v)
  | none=>False
 | .agg xs,.agg ys=>aBinS P op t K (allC xs) (allC ys)
 | .sl _ rows,.c b=>aNilS op (tyK P t) rows b K
 | _,_=>False
def aUn (op:UnOp) (x:AV) (K:AV → Prop):Prop:=
 match x with
 | .c a=>match un1 op a with
  | some v=>K (.c v)
  | none=>False
 | _=>False
def aIfV (t:Bool) (a b:AV) (K:AV → Prop):Prop:=match t with | true=>K a | false=>K b
def aPick (c a b:AV) (K:AV → Prop):Prop:=
 match c with
 | .c (.bool t)=>aIfV t a b K
 | _=>False
def aExtract (x:AV) (i:Nat) (K:AV → Prop):Prop:=
 match x with
 | .tup vs=>i<vs.length ∧ K (vs[i]?.getD .any)
 | _=>False
def aConv (P:Program) (src dst:TypeId) (x:AV) (K:AV → Prop):Prop:=
 match tyInt P src,tyInt P dst,x with
 | some _,some k,.c (.int _ n)=>K (.c (.int k (k.wrap n)))
 | _,_,_=>False
def aFieldV (P:Program) (s:TypeId) (x:AV) (f:Nat) (K:AV → Prop):Prop:=
 match fOff P s f with
 | some d=>match x with
  | .agg cs=>d+tySize P (fTyp P s f)≤cs.length ∧ if tyAgg P (fTyp P s f)=true then K (.agg ((cs.drop d).take (tySize P (fTyp P s f)))) else K ((cs.drop d).headD .any)
  | _=>False
 | none=>False
def aClo (f:Fn) (b:Bool) (cs:List AV) (K:AV → Prop):Prop:=
 match f,b with
 | .func g,true=>K (.fn g cs)
 | _,_=>False
def aCloB (f:Fn) (b:Bool) (bs:List AV) (K:AV → Prop):Prop:=
 match f,b with
 | .func g,true=>K (.bfn g bs)
 | _,_=>False
def aBd (d:Int):Option AV → Option Int
 | none=>some d
 | some (.c (.int _ n))=>some n
 | _=>none
def aSliceR (P:Program) (t:TypeId) (sz:Nat) (rows:List (List AV)) (K:AV → Prop):Option Int → Option Int → Option AV → Prop
 | some l,some h,none=>((tyElem P t).2=sz ∧ 0<sz) ∧ (0≤l ∧ l≤h ∧ h≤(rows.length:Int)) ∧ K (.sl sz ((rows.take h.toNat).drop l.toNat))
 | _,_,_=>False
def aSliceS (P:Program) (t:TypeId) (s:ByteArray) (K:AV → Prop):Option Int → Option Int → Option AV → Prop
 | some l,some h,none=>tyK P t=.str ∧ (0≤l ∧ l≤h ∧ h≤(s.size:Int)) ∧ K (.c (.string (s.extract l.toNat h.toNat)))
 | _,_,_=>False
def aSlice (P:Program) (t:TypeId) (x:AV) (lo hi mx:Option AV) (K:AV → Prop):Prop:=
 match x with
 | .sl sz rows=>aSliceR P t sz rows K (aBd 0 lo) (aBd rows.length hi) mx
 | .c (.string s)=>aSliceS P t s K (aBd 0 lo) (aBd s.size hi) mx
 | _=>False
def aNil (tab:ATab) (x:AV) (K:AV → Prop):Prop:=
 match x with
 | .rp cs=>K (.rp cs)
 | .op id i j=>match tab.get id with
  | some _=>K (.op id i j)
  | none=>False
 | _=>False
def aPure (P:Program) (tab:ATab) (ev:Operand → AV) (o:Op) (K:AV → Prop):Prop:=
 match o with
 | .move x=>K (ev x)
 | .assign x=>K (ev x)
 | .pick c a b=>aPick (ev c) (ev a) (ev b) K
 | .load t x=>aLoad P t tab (ev x) K
 | .fieldAddr s x f=>aField P s tab (ev x) f K
 | .indexAddr t x ix=>aIndex P t tab (ev x) (ev ix) K
 | .field s x f=>aFieldV P s (ev x) f K
 | .binOp op t x y _=>aBin P op t (ev x) (ev y) K
 | .unOp op _ x=>aUn op (ev x) K
 | .extract x i=>aExtract (ev x) i K
 | .convert s d x=>aConv P s d (ev x) K
 | .call c=>match c.callee with
  | .builtin .len=>match c.args.toList,c.argTypes.toList with
   | [x],[t]=>aLen P t tab (ev x) K
   | _,_=>False
  | .builtin .max=>aMM (fun a b=>max a b) (c.args.toList.map ev) K
  | .builtin .min=>aMM (fun a b=>min a b) (c.args.toList.map ev) K
  | _=>False
 | .makeFunc f first caps=>aClo f (first.size == 0) (caps.toList.map ev) K ∨ aCloB f (caps.size == 0 && !(first.size == 0)) (first.toList.map ev) K
 | .slice t x lo hi mx=>aSlice P t (ev x) (lo.map ev) (hi.map ev) (mx.map ev) K
 | .nilCheck x=>aNil tab (ev x) K
 | _=>False
def Yields1 (P:Program) (cx:Cx) (w:World) (tab:ATab) (L:Nat → Value) (nx:Nat) (K:AV → Prop) (s:Sem Value):Prop:=
 ∃ v av,K av ∧ RVx cx w tab L v av ∧ av.lt nx ∧ ∀ w',Below w.heap.size w w' → s.run P w'=.ok v w'
def Yields0 (P:Program) (cx:Cx) (w:World) (tab:ATab) (L:Nat → Value) (nx:Nat) (K:AV → Prop) (s:Sem Value):Prop:=
 ∃ v av,K av ∧ RVx cx w tab L v av ∧ av.lt nx ∧ ∀ w',s.run P w'=.ok v w'
section
variable {P:Program} {cx:Cx} {w:World} {tab:ATab} {L:Nat → Value} {nx:Nat} {K:AV → Prop}
def SameB (b:Nat) (w w':World):Prop:=∀ (o:Nat) (u:Value),w.cell? ⟨b,o,none⟩=some u → w'.cell? ⟨b,o,none⟩=some u
def YieldsL (P:Program) (cx:Cx) (w:World) (tab:ATab) (L:Nat → Value) (nx:Nat) (K:AV → Prop) (v:Value) (s:Sem Value):Prop:=
 ∃ u av,K av ∧ RVx cx w tab L u av ∧ av.lt nx ∧ ∃ b,vblk v=some b ∧ ∀ w',SameB b w w' → s.run P w'=.ok u w'
theorem YieldsL.one {v:Value} {s:Sem Value} (h:YieldsL P cx w tab L nx K v s):Yields1 P cx w tab L nx K s:=by
 obtain ⟨u,av,h1,h2,h3,b,_,h4⟩:=h
 exact ⟨u,av,h1,h2,h3,fun w' hw'=>h4 w' fun o u hu=>(hw'.cell (World.block_lt_of_cell? w _ hu)).trans hu⟩
theorem Yields0.one {s:Sem Value} (h:Yields0 P cx w tab L nx K s):Yields1 P cx w tab L nx K s:=by
 obtain ⟨v,av,h1,h2,h3,h4⟩:=h
 exact ⟨v,av,h1,h2,h3,fun w' _=>h4 w'⟩
omit tab L nx K in
theorem range_get {f:Nat → Value} {n j:Nat} {x:Value} (h:((List.range n).map f)[j]? = some x):j<n ∧ f j=x:=by
 obtain ⟨hj,he⟩:=List.getElem?_eq_some_iff.1 h
 simp at hj he
 exact ⟨hj,he⟩
theorem take_ok {t:TypeId} {b o:Nat} {cs:List AV} (hc:∀ j av,cs[j]? = some av → ∃ u,w.cell? ⟨b,o+j,none⟩=some u ∧ RVx cx w tab L u av) (hl:AV.ltL nx cs) (h:aTake P t cs K) :
  YieldsL P cx w tab L nx K (.pointer (some ⟨b,o,none⟩)) (Instr.loadAt t (.pointer (some ⟨b,o,none⟩))):=by
 obtain ⟨h0,h1,h2⟩:=h
 obtain ⟨d,i,hu,hi,he⟩:=tySize_pos h0
 cases ha:tyAgg P t with
 | true=>
  rw [if_pos ha] at h2
  obtain ⟨f,hf⟩:∃ f:Nat → Value,∀ j av,(cs.take (tySize P t))[j]? = some av → w.cell? ⟨b,o+j,none⟩=some (f j) ∧ RVx cx w tab L (f j) av:=by
   refine ⟨fun j=>(w.cell? ⟨b,o+j,none⟩).getD undef,fun j av hj=>?_⟩
   rw [List.getElem?_take] at hj
   split at hj
   ·obtain ⟨u,hu,hr⟩:=hc j av hj
    simp only [hu,Option.getD_some]
    exact ⟨trivial,hr⟩
   ·cases hj
  have hlen:(cs.take (tySize P t)).length=tySize P t:=by rw [List.length_take];omega
  refine ⟨.agg ((List.range (tySize P t)).map f).toArray,_,h2,.agg _ _ (by simp [hlen]) (fun j x av hx hav=>?_),?_,b,rfl,fun w' hb=>?_⟩
  ·have:=(hf j av hav).2
   rw [List.getElem?_toArray] at hx
   obtain ⟨_,rfl⟩:=range_get hx
   exact this
  ·show AV.ltL nx _
   rw [ltL_iff] at hl ⊢
   exact fun a ha=>hl a (List.mem_of_mem_take ha)
  ·have hcl:=run_loadCells_list (P:=P) w' ⟨b,o,none⟩ ((List.range (tySize P t)).map f) (fun j v hv=>by
    obtain ⟨hj,rfl⟩:=range_get hv
    rw [Addr.add_lit]
    have hx:j<(cs.take (tySize P t)).length:=by omega
    exact hb _ _ (hf j _ (List.getElem?_eq_getElem hx)).1)
   rw [List.length_map,List.length_range] at hcl
   simp [Instr.loadAt,Instr.sureAddr,loadVar,Sem.run_bind,tyAgg_true ha,run_sizeOf' h0,hcl]
 | false=>
  rw [if_neg (by simp [ha])] at h2
  obtain ⟨av,cs',rfl⟩:∃ av cs',cs=av :: cs':=by
   cases cs with
   | nil=>simp at h1;omega
   | cons a l=>exact ⟨a,l,rfl⟩
  obtain ⟨u,hcell,hr⟩:=hc 0 av rfl
  refine ⟨u,av,h2,hr,hl.1,b,rfl,fun w' hb=>?_⟩
  have:=hb _ _ hcell
  rw [Nat.add_zero] at this
  simp [Instr.loadAt,Instr.sureAddr,loadVar,Sem.run_bind,tyAgg_false hu ha,run_load,this]
theorem ltL_drop {cs:List AV} (h:AV.ltL nx cs) (n:Nat):AV.ltL nx (cs.drop n):=by
 rw [ltL_iff] at h ⊢
 exact fun a ha=>h a (List.mem_of_mem_drop ha)
theorem kx_of {id:Nat} {o:AObj} (h:tab.get id=some o):Kx tab L id=some (o.sz,L id):=by simp [Kx,h]
theorem below_take {t:TypeId} {b o:Nat} {cs:List AV} {S:Nat → Prop} (hc:∀ j av,cs[j]? = some av → ∃ u,w.cell? ⟨b,o+j,none⟩=some u ∧ RT w (Sx cx w tab L) u av) (h:aTake P t cs K) :
  YieldsL P cx w tab L nx K (.pointer (some ⟨b,o,none⟩)) (Instr.loadAt t (.pointer (some ⟨b,o,none⟩))):=
 take_ok (fun j av hj=>by obtain ⟨u,h1,h2⟩:=hc j av hj;exact ⟨u,h1,.tree h2⟩) (ltL_iff.2 fun a ha=>by
  obtain ⟨j,hj⟩:=List.getElem?_of_mem ha
  obtain ⟨u,_,h2⟩:=hc j a hj
  exact h2.lt nx) h
theorem row_cells {e:TypeId} {sz:Nat} {v:Value} {rows:List (List AV)} {g:Nat} (h:ObjAt cx w tab L v (.row e sz rows)) (hg:vblk v=some g) {i:Nat} (hi:i<rows.length) (j:Nat) (av:AV) (hj:(rows[i]?.getD [])[j]? = some av) :
  ∃ u,w.cell? ⟨g,i * sz+j,none⟩=some u ∧ RT w (Sx cx w tab L) u av:=by
 obtain ⟨hsz,xs,hown,_,hx⟩:=h
 rw [List.getElem?_eq_getElem hi,Option.getD_some] at hj
 obtain ⟨x,h1,h2⟩:=hx i j _ av (List.getElem?_eq_getElem hi) hj
 refine ⟨x,?_,h2⟩
 rcases hown.2 with ⟨rfl,h0⟩|⟨g',cap,cur,rfl,_⟩
 ·omega
 ·have hc:=hown.cells (g:=g') rfl _ x h1
  simp [vblk] at hg
  subst hg
  rwa [addAddr0] at hc
theorem nest_cells {e:TypeId} {sz:Nat} {v:Value} {rows:List (List AV)} {g:Nat} (h:ObjAt cx w tab L v (.nest e sz rows)) (hg:vblk v=some g) {i:Nat} (hi:i<rows.length) (j:Nat) (av:AV) (hj:(rows[i]?.getD [])[j]? = some av) :
  ∃ u,w.cell? ⟨g,i * sz+j,none⟩=some u ∧ RVx cx w tab L u av:=by
 obtain ⟨hsz,xs,hown,_,hx⟩:=h
 rw [List.getElem?_eq_getElem hi,Option.getD_some] at hj
 obtain ⟨x,h1,h2⟩:=hx i j _ av (List.getElem?_eq_getElem hi) hj
 refine ⟨x,?_,h2⟩
 rcases hown.2 with ⟨rfl,h0⟩|⟨g',cap,cur,rfl,_⟩
 ·omega
 ·have hc:=hown.cells (g:=g') rfl _ x h1
  simp [vblk] at hg
  subst hg
  rwa [addAddr0] at hc
theorem box_cells {t:TypeId} {v:Value} {cells:List AV} {g:Nat} (h:ObjAt cx w tab L v (.box t cells)) (hg:vblk v=some g) (j:Nat) (av:AV) (hj:cells[j]? = some av) :
  ∃ u,w.cell? ⟨g,j,none⟩=some u ∧ RVx cx w tab L u av:=by
 obtain ⟨g',cs,rfl,_,hheap,hn,hx⟩:=h
 simp [vblk] at hg
 subst hg
 have hlt:j<cs.size:=by rw [hn];exact (List.getElem?_eq_some_iff.1 hj).1
 exact ⟨cs[j],by rw [cell_of_row w g' j cs t (0,0) hheap];exact Array.getElem?_eq_getElem hlt,(hx j _ av (Array.getElem?_eq_getElem hlt) hj).1⟩
theorem load_ok {t:TypeId} {v:Value} {x:AV} (hL:Lay cx w tab L) (hy:∀ id o,tab.get id=some o → o.lt nx) (hv:RVx cx w tab L v x) (h:aLoad P t tab x K):YieldsL P cx w tab L nx K v (Instr.loadAt t v):=by
 unfold aLoad at h
 split at h
 ·rename_i cs
  obtain ⟨b,o,U,rfl,hb,hcell,hr⟩:=hv.rp_inv
  exact below_take (S:=fun _=>True) (fun j av hj=>⟨U j,hcell j av hj,hr j av hj⟩) h
 ·rename_i id i j
  split at h
  ·rename_i ty cells hid
   obtain ⟨rfl,h⟩:=h
   obtain ⟨g,hg,rfl⟩:=hv.op_inv _ _ (kx_of hid)
   have ho:=hL.objs id _ hid
   simp only [AObj.sz,Nat.zero_mul,Nat.zero_add]
   refine take_ok (fun k av hk=>?_) (ltL_drop (hy id _ hid) j) h
   rw [List.getElem?_drop] at hk
   exact box_cells ho hg (j+k) av hk
  ·rename_i e sz rows hid
   obtain ⟨hi,h⟩:=h
   obtain ⟨g,hg,rfl⟩:=hv.op_inv _ _ (kx_of hid)
   have ho:=hL.objs id _ hid
   refine below_take (S:=fun _=>True) (fun k av hk=>?_) h
   rw [List.getElem?_drop] at hk
   have:=row_cells ho hg hi (j+k) av hk
   rwa [← Nat.add_assoc] at this
  ·rename_i e sz rows hid
   obtain ⟨hi,h⟩:=h
   obtain ⟨g,hg,rfl⟩:=hv.op_inv _ _ (kx_of hid)
   have ho:=hL.objs id _ hid
   refine take_ok (fun k av hk=>?_) (ltL_drop (hy id _ hid _ (by rw [List.getElem?_eq_getElem hi,Option.getD_some];exact List.getElem_mem hi)) j) h
   rw [List.getElem?_drop] at hk
   have:=nest_cells ho hg hi (j+k) av hk
   rwa [← Nat.add_assoc] at this
  ·exact h.elim
 ·exact h.elim
theorem fOff_some {s:TypeId} {f d:Nat} (h:fOff P s f=some d):∃ fields fd,P.underlying s=some (.struct fields) ∧ fields[f]? = some fd ∧ 0<tySize P fd.type ∧ fd.offset=d:=by
 unfold fOff at h
 split at h
 ·rename_i fields hu
  split at h
  ·rename_i fd hf
   split at h
   ·cases h
   ·rename_i h0
    cases h
    exact ⟨fields,fd,hu,hf,by omega,rfl⟩
  ·cases h
 ·cases h
theorem run_fieldAt {s:TypeId} {f d:Nat} (h:fOff P s f=some d) (b o:Nat) (w:World):(Instr.fieldAt s (.pointer (some ⟨b,o,none⟩)) f).run P w=.ok (.pointer (some ⟨b,o+d,none⟩)) w:=by
 obtain ⟨fields,fd,hu,hf,h0,rfl⟩:=fOff_some h
 simp [Instr.fieldAt,Sem.run_bind,run_underlying hu,hf,Instr.sureAddr,fieldPlace,run_sizeOf' h0,Nat.ne_of_gt h0,Addr.add_lit]
theorem field_ok {s:TypeId} {v:Value} {x:AV} {f:Nat} (hl:x.lt nx) (hv:RVx cx w tab L v x) (h:aField P s tab x f K):Yields0 P cx w tab L nx K (Instr.fieldAt s v f):=by
 unfold aField at h
 split at h
 ·rename_i d hd
  split at h
  ·rename_i cs
   obtain ⟨b,o,U,rfl,hb,hcell,hr⟩:=hv.rp_inv
   refine ⟨_,_,h,.tree (.rp b (o+d) (cs.drop d) (fun j=>U (d+j)) hb (fun j av hj=>?_) (fun j av hj=>?_)),trivial,fun w'=>run_fieldAt hd b o w'⟩
   ·rw [List.getElem?_drop] at hj
    rw [Nat.add_assoc]
    exact hcell _ av hj
   ·rw [List.getElem?_drop] at hj
    exact hr _ av hj
  ·rename_i id i j
   split at h
   ·rename_i ob hid
    obtain ⟨g,hg,rfl⟩:=hv.op_inv _ _ (kx_of hid)
    refine ⟨_,_,h,.op _ id i (j+d) (fun sz' u' hk'=>?_),hl,fun w'=>run_fieldAt hd _ _ w'⟩
    rw [kx_of hid] at hk'
    cases hk'
    exact ⟨g,hg,by rw [Nat.add_assoc]⟩
   ·exact h.elim
  ·exact h.elim
 ·exact h.elim
theorem fieldV_ok {s:TypeId} {v:Value} {x:AV} {f:Nat} (hl:x.lt nx) (hv:RVx cx w tab L v x) (h:aFieldV P s x f K):Yields0 P cx w tab L nx K (Instr.field s v f):=by
 unfold aFieldV at h
 split at h
 ·rename_i d hd
  obtain ⟨fields,fd,hu,hf,h0,rfl⟩:=fOff_some hd
  have ht:fTyp P s f=fd.type:=by simp [fTyp,hu,hf]
  rw [ht] at h
  obtain ⟨dd,i,hdu,hi,he⟩:=tySize_pos h0
  split at h
  ·rename_i cs
   obtain ⟨xs,rfl,hn,hr⟩:=hv.agg_inv
   obtain ⟨hsz,h⟩:=h
   cases ha:tyAgg P fd.type with
   | true=>
    rw [if_pos ha] at h
    refine ⟨.agg (xs.extract fd.offset (fd.offset+tySize P fd.type)),_,h,.agg _ _ (by simp;omega) (fun j y av h1 h2=>?_),?_,fun w'=>?_⟩
    ·rw [List.getElem?_take] at h2
     split at h2
     ·rename_i hj
      rw [List.getElem?_drop] at h2
      rw [Array.getElem?_extract] at h1
      split at h1
      ·exact hr _ y av h1 h2
      ·cases h1
     ·cases h2
    ·exact ltL_iff.2 fun y hy=>ltL_iff.1 hl y (List.mem_of_mem_drop (List.mem_of_mem_take hy))
    ·simp [Instr.field,Sem.run_bind,run_underlying hu,hf,asAgg,part,tyAgg_true ha,run_sizeOf' h0]
   | false=>
    rw [if_neg (by simp [ha])] at h
    have hlt:fd.offset<cs.length:=by omega
    have hlt':fd.offset<xs.size:=by omega
    rw [List.drop_eq_getElem_cons hlt,List.headD_cons] at h
    exact ⟨xs[fd.offset],_,h,hr _ _ _ (Array.getElem?_eq_getElem hlt') (List.getElem?_eq_getElem hlt),ltL_iff.1 hl _ (List.getElem_mem hlt),fun w'=>by
     simp [Instr.field,Sem.run_bind,run_underlying hu,hf,asAgg,part,tyAgg_false hdu ha,Array.getElem?_eq_getElem hlt']⟩
  ·exact h.elim
 ·exact h.elim
theorem tyElem_pos {t:TypeId} (h:0<(tyElem P t).2):P.underlying t=some (.slice (tyElem P t).1) ∧ tySize P (tyElem P t).1=(tyElem P t).2:=by
 unfold tyElem at *
 split at h
 ·rename_i e he
  exact ⟨he,rfl⟩
 ·simp at h
theorem run_indexAt' {t:TypeId} (h:0<(tyElem P t).2) (b o n cap:Nat) (k:IntKind) (i:Int) (h0:0≤i) (h1:i<n) (w:World):(Instr.indexAt t (.slice (some ⟨b,o,none⟩) n cap) (.int k i)).run P w=.ok (.pointer (some ⟨b,o+i.toNat * (tyElem P t).2,none⟩)) w:=by
 obtain ⟨hu,he⟩:=tyElem_pos h
 have hs:=run_sizeOf' (P:=P) (t:=(tyElem P t).1) (by omega) w
 rw [he] at hs
 simp [Instr.indexAt,Sem.run_bind,run_underlying hu,asIntOf,h0,h1,hs,Addr.add_lit]
theorem osl_row {id:Nat} {v:Value} {e:TypeId} {sz:Nat} {rows:List (List AV)} (hL:Lay cx w tab L) (hid:tab.get id=some (.row e sz rows)) (hv:RVx cx w tab L v (.osl id)):v=L id ∧ ∃ A cap,v=.slice A rows.length cap ∧ (0<rows.length → ∃ g,A=some ⟨g,0,none⟩):=by
 have e1:=hv.osl_inv _ _ (kx_of hid)
 refine ⟨e1,?_⟩
 obtain ⟨_,xs,hown,_⟩:=hL.objs id _ hid
 rw [e1]
 rcases hown.2 with ⟨h1,h0⟩|⟨g,cap,cur,h1,_⟩
 ·rw [h1,h0]
  exact ⟨none,0,rfl,fun h=>by omega⟩
 ·rw [h1]
  exact ⟨_,cap,rfl,fun _=>⟨g,rfl⟩⟩
theorem osl_nest {id:Nat} {v:Value} {e:TypeId} {sz:Nat} {rows:List (List AV)} (hL:Lay cx w tab L) (hid:tab.get id=some (.nest e sz rows)) (hv:RVx cx w tab L v (.osl id)):v=L id ∧ ∃ A cap,v=.slice A rows.length cap ∧ (0<rows.length → ∃ g,A=some ⟨g,0,none⟩):=by
 have e1:=hv.osl_inv _ _ (kx_of hid)
 refine ⟨e1,?_⟩
 obtain ⟨_,xs,hown,_⟩:=hL.objs id _ hid
 rw [e1]
 rcases hown.2 with ⟨h1,h0⟩|⟨g,cap,cur,h1,_⟩
 ·rw [h1,h0]
  exact ⟨none,0,rfl,fun h=>by omega⟩
 ·rw [h1]
  exact ⟨_,cap,rfl,fun _=>⟨g,rfl⟩⟩
theorem tyArr_pos {t:TypeId} (h:0<(tyArr P t).2):∃ e,P.underlying t=some (.array (tyArr P t).1 e) ∧ tySize P e=(tyArr P t).2:=by
 unfold tyArr at *
 split at h
 ·rename_i n e he
  exact ⟨e,he,rfl⟩
 ·simp at h
theorem run_indexArr {t:TypeId} (h:0<(tyArr P t).2) (b o:Nat) (k:IntKind) (i:Int) (h0:0≤i) (h1:i<(tyArr P t).1) (w:World):(Instr.indexAt t (.pointer (some ⟨b,o,none⟩)) (.int k i)).run P w=.ok (.pointer (some ⟨b,o+i.toNat * (tyArr P t).2,none⟩)) w:=by
 obtain ⟨e,hu,he⟩:=tyArr_pos h
 have hs:=run_sizeOf' (P:=P) (t:=e) (by omega) w
 rw [he] at hs
 simp [Instr.indexAt,Sem.run_bind,run_underlying hu,asIntOf,Instr.sureAddr,h0,h1,hs,Addr.add_lit]
theorem index_ok {t:TypeId} {v u:Value} {x ix:AV} (hL:Lay cx w tab L) (hl:x.lt nx) (hv:RVx cx w tab L v x) (hu:RVx cx w tab L u ix) (h:aIndex P t tab x ix K):Yields0 P cx w tab L nx K (Instr.indexAt t v u):=by
 unfold aIndex at h
 split at h
 ·rename_i k n
  obtain rfl:=hu.c_inv
  split at h
  ·rename_i id i j
   split at h
   ·rename_i o hid
    obtain ⟨hpos,h0,h1,h⟩:=h
    obtain ⟨g,hg,rfl⟩:=hv.op_inv _ _ (kx_of hid)
    refine ⟨_,_,h,.op _ id i _ (fun sz' u' hk'=>?_),hl,fun w'=>run_indexArr hpos g _ k n h0 h1 w'⟩
    rw [kx_of hid] at hk'
    cases hk'
    exact ⟨g,hg,by simp [Nat.add_assoc]⟩
   ·exact h.elim
  ·rename_i sz rows
   obtain ⟨hsz,hpos,h0,h1,h⟩:=h
   obtain ⟨A,cap,rfl,_,_,hrow,hA⟩:=hv.sl_inv.sl_inv
   obtain ⟨b,o,rfl,hb,U,hcell,hr,_⟩:=hA (by omega)
   have hn:n.toNat<rows.length:=by omega
   rw [List.getElem?_eq_getElem hn,Option.getD_some] at h
   refine ⟨_,_,h,.tree (.rp b (o+n.toNat * (tyElem P t).2) _ (U n.toNat) hb (fun j av hj=>?_) (fun j av hj=>?_)),trivial,fun w'=>run_indexAt' (by omega) b o _ cap k n h0 h1 w'⟩
   ·rw [hsz]
    exact hcell n.toNat j _ av (List.getElem?_eq_getElem hn) hj
   ·exact hr n.toNat j _ av (List.getElem?_eq_getElem hn) hj
  ·rename_i id
   split at h
   ·rename_i e sz rows hid
    obtain ⟨hsz,hpos,h0,h1,h⟩:=h
    obtain ⟨hvL,A,cap,rfl,hA⟩:=osl_row hL hid hv
    obtain ⟨g,rfl⟩:=hA (by omega)
    refine ⟨_,_,h,.op _ id n.toNat 0 (fun sz' u' hk'=>?_),hl,fun w'=>run_indexAt' (by omega) g 0 _ cap k n h0 h1 w'⟩
    rw [kx_of hid] at hk'
    cases hk'
    exact ⟨g,by rw [← hvL];rfl,by simp [AObj.sz,hsz]⟩
   ·rename_i e sz rows hid
    obtain ⟨hsz,hpos,h0,h1,h⟩:=h
    obtain ⟨hvL,A,cap,rfl,hA⟩:=osl_nest hL hid hv
    obtain ⟨g,rfl⟩:=hA (by omega)
    refine ⟨_,_,h,.op _ id n.toNat 0 (fun sz' u' hk'=>?_),hl,fun w'=>run_indexAt' (by omega) g 0 _ cap k n h0 h1 w'⟩
    rw [kx_of hid] at hk'
    cases hk'
    exact ⟨g,by rw [← hvL];rfl,by simp [AObj.sz,hsz]⟩
   ·exact h.elim
  ·exact h.elim
 ·exact h.elim
theorem run_len_slice {t:TypeId} (h:(tyElem P t).2 ≠ 0) (ty:TypeId) (A:Option Addr) (n cap:Nat) (w:World):(Builtin.len_ #[t] ty #[.slice A n cap]).run P w=.ok (.int .i64 n) w:=by
 obtain ⟨hu,he⟩:=tyElem_pos (Nat.pos_of_ne_zero h)
 simp [Builtin.len_,Sem.run_bind,run_underlying hu,goInt]
theorem len_ok {t ty:TypeId} {v:Value} {x:AV} (hL:Lay cx w tab L) (hv:RVx cx w tab L v x) (h:aLen P t tab x K):Yields0 P cx w tab L nx K (Builtin.len_ #[t] ty #[v]):=by
 unfold aLen at h
 split at h
 ·rename_i sz rows
  obtain ⟨h1,h⟩:=h
  obtain ⟨A,cap,rfl,_⟩:=hv.sl_inv.sl_inv
  exact ⟨_,_,h,.tree (.c _),trivial,fun w'=>run_len_slice h1 ty A _ cap w'⟩
 ·rename_i id
  split at h
  ·rename_i e sz rows hid
   obtain ⟨h1,h⟩:=h
   obtain ⟨_,A,cap,rfl,_⟩:=osl_row hL hid hv
   exact ⟨_,_,h,.tree (.c _),trivial,fun w'=>run_len_slice h1 ty A _ cap w'⟩
  ·rename_i e sz rows hid
   obtain ⟨h1,h⟩:=h
   obtain ⟨_,A,cap,rfl,_⟩:=osl_nest hL hid hv
   exact ⟨_,_,h,.tree (.c _),trivial,fun w'=>run_len_slice h1 ty A _ cap w'⟩
  ·exact h.elim
 ·obtain ⟨h1,h⟩:=h
  obtain rfl:=hv.c_inv
  exact ⟨_,_,h,.tree (.c _),trivial,fun w'=>run_len_slice h1 ty _ _ _ w'⟩
 ·rename_i s
  obtain ⟨h1,h⟩:=h
  obtain rfl:=hv.c_inv
  have hu:P.underlying t=some .string:=by
   unfold tyK at h1
   split at h1 <;> first | assumption | cases h1
  exact ⟨_,_,h,.tree (.c _),trivial,fun w'=>by simp [Builtin.len_,Sem.run_bind,run_underlying hu,goInt]⟩
 ·exact h.elim
theorem run_nilS {op:BinOp} {t:TypeId} {A:Option Addr} {n c n' c':Nat} (hk:tyK P t=.slice) (h:op=.eql ∨ op=.neq) (w:World) (x y:Operand):(do eqGuard op t x y (.slice A n c) (.slice none n' c');binOp op t (.slice A n c) (.slice none n' c'):Sem Value).run P w=.ok (.bool (if op=.eql then A.isNone else !A.isNone)) w:=by
 obtain ⟨e,hu⟩:∃ e,P.underlying t=some (.slice e):=by
  unfold tyK at hk
  split at hk <;> first | (rename_i e he;exact ⟨e,he⟩) | cases hk
 have hg:(eqGuard op t x y (.slice A n c) (.slice none n' c')).run P w=.ok () w:=by
  rcases h with rfl|rfl <;> simp [eqGuard]
 have he0:∀ d,(Op.equalIn (d+1) t (.slice A n c) (.slice none n' c')).run P w=.ok A.isNone w:=fun d=>by
  cases A <;> simp [Op.equalIn,run_underlying hu]
 have he:=he0 9999
 rw [Sem.run_bind,hg]
 simp only [Result.andThen_ok]
 rcases h with rfl|rfl <;> simp only [binOp,Op.equal,Op.maxDepth,Sem.run_bind,he,Result.andThen_ok] <;> simp
theorem bin2_run {op:BinOp} {t:TypeId} {a b v:Value} {x y:Operand} (h:bin2 op (tyK P t) a b=some v) (w:World):(do eqGuard op t x y a b;binOp op t a b:Sem Value).run P w=.ok v w:=by
 have hg:(eqGuard op t x y a b).run P w=.ok () w:=by
  unfold bin2 at h
  split at h <;> first | (cases h;done) | (cases op <;> simp [eqGuard])
 rw [Sem.run_bind,hg]
 simp only [Result.andThen_ok]
 unfold bin2 at h
 split at h
 ·rename_i i p j q
  split at h
  ·rename_i hij
   subst hij
   cases op <;> simp at h <;> first
    | (obtain ⟨h0,rfl⟩:=h;simp [binOp,Op.intDiv,h0];done)
    | (obtain ⟨h0,rfl⟩:=h;simp [binOp,Op.shift,Int.not_lt.2 h0];done)
    | (subst h;simp [binOp,intBits_and,intBits_or,intBits_xor,intBits_andNot];done)
    | (subst h;simp [binOp,Op.intArith,Op.intCmp];done)
  ·cases h
 ·rename_i p q
  split at h
  ·rename_i hk
   have hu:P.underlying t=some .bool:=by
    unfold tyK at hk
    split at hk <;> first | assumption | cases hk
   cases h
   simp [binOp,Op.equal,Op.maxDepth,Sem.run_bind,run_equalIn_bool' w 9999 t p q hu]
  ·rename_i hk
   have hu:P.underlying t=some .bool:=by
    unfold tyK at hk
    split at hk <;> first | assumption | cases hk
   cases h
   simp [binOp,Op.equal,Op.maxDepth,Sem.run_bind,run_equalIn_bool' w 9999 t p q hu]
  ·cases h
 ·rename_i p q
  cases op <;> simp at h
  case add=>
   obtain ⟨h1,rfl⟩:=h
   have h2:¬ (((p.size+q.size:Nat):Int) > IntKind.i64.max):=by
    have:IntKind.i64.max=9223372036854775807:=by decide
    omega
   have h3:IntKind.i64.max=9223372036854775807:=by decide
   simp [binOp,Op.stringOp,h3]
   omega
  all_goals
   subst h
   simp [binOp,Op.stringOp,beq_toListBytes]
 ·rename_i n1 c1 n2 c2
  split at h
  ·rename_i hk
   have:=run_nilS (A:=none) (n:=n1) (c:=c1) (n':=n2) (c':=c2) hk (.inl rfl) w x y
   rw [Sem.run_bind,hg] at this
   cases h
   simpa using this
  ·rename_i hk
   have:=run_nilS (A:=none) (n:=n1) (c:=c1) (n':=n2) (c':=c2) hk (.inr rfl) w x y
   rw [Sem.run_bind,hg] at this
   cases h
   simpa using this
  ·cases h
 ·cases h
theorem un1_run {op:UnOp} {a v:Value} (h:un1 op a=some v) (w:World):(Op.unary op a).run P w=.ok v w:=by
 unfold un1 at h
 split at h
 ·cases op <;> simp at h
  subst h
  simp [Op.unary]
 ·cases op <;> simp at h
  subst h
  simp [Op.unary,Op.intArith]
 ·cases h
theorem allC_val:∀ {cs:List AV} {vs:List Value} {xs:Array Value},allC cs=some vs → xs.size=cs.length → (∀ (j:Nat) (x:Value) (av:AV),xs[j]? = some x → cs[j]? = some av → RVx cx w tab L x av) → xs=vs.toArray:=by
 intro cs vs xs h hn hr
 have key:∀ (cs:List AV) (vs:List Value),allC cs=some vs → ∀ (l:List Value),l.length=cs.length → (∀ (j:Nat) (x:Value) (av:AV),l[j]? = some x → cs[j]? = some av → RVx cx w tab L x av) → l=vs:=by
  intro cs
  induction cs with
  | nil=>
   intro vs h l hl _
   cases h
   exact List.eq_nil_of_length_eq_zero hl
  | cons a cs ih=>
   intro vs h l hl hr
   cases l with
   | nil=>simp at hl
   | cons x l=>
    cases a with
    | c v=>
     simp only [allC] at h
     split at h
     ·rename_i vs' hv
      cases h
      have h0:=(hr 0 x (.c v) rfl rfl).c_inv
      rw [h0,ih vs' hv l (by simpa using hl) (fun j y av h1 h2=>hr (j+1) y av (by simpa using h1) (by simpa using h2))]
     ·cases h
    | _=>simp [allC] at h
 have:=key cs vs h xs.toList (by simpa using hn) (fun j x av h1 h2=>hr j x av (by simpa using h1) h2)
 rw [← this]
theorem rt_part {S:Nat → Prop} {v:Value} {sz l h':Nat} {rows:List (List AV)} (hr:RT w S v (.sl sz rows)) (hlh:l≤h') (hh:h'≤rows.length) :
  ∃ A cap,v=.slice A rows.length cap ∧ rows.length≤cap ∧ ∀ s,s=sz → RT w S (sliced A l h' cap s) (.sl sz ((rows.take h').drop l)):=by
 obtain ⟨A,cap,rfl,hc,hm,hs,hA⟩:=hr.sl_inv
 refine ⟨A,cap,rfl,hc,fun s hs'=>?_⟩
 subst hs'
 have hlen:((rows.take h').drop l).length=h' - l:=by simp only [List.length_drop,List.length_take];omega
 have hget:∀ i row,((rows.take h').drop l)[i]? = some row → rows[l+i]? = some row:=fun i row hi=>by
  rw [List.getElem?_drop,List.getElem?_take] at hi
  split at hi
  ·exact hi
  ·cases hi
 unfold sliced
 by_cases h0:h' - l=0
 ·refine .sl _ _ _ _ _ 0 0 (fun _ _=>undef) (by omega) (by omega) (by omega) (fun h=>by omega) (fun row hr'=>hs row (List.mem_of_mem_take (List.mem_of_mem_drop hr'))) (fun h=>by omega) (fun i j row av h1 h2=>?_) (fun i j row av h1 h2=>?_)
  all_goals
   have:=(List.getElem?_eq_some_iff.1 h1).1
   omega
 ·obtain ⟨b,o,rfl,hSb,U,h1,h2,h3⟩:=hA (by omega)
  rw [if_neg (by omega),Option.map_some,Addr.add_lit]
  refine .sl _ _ _ _ _ b (o+l * s) (fun i j=>U (l+i) j) hlen.symm (by omega) (by omega) (fun _=>⟨rfl,hSb⟩) (fun row hr'=>hs row (List.mem_of_mem_take (List.mem_of_mem_drop hr'))) (fun _ i j row av h4 h5=>?_) (fun i j row av h4 h5=>?_) (fun i j row av h4 h5=>?_)
  ·have:=h1 (l+i) j row av (hget i row h4) h5
   rwa [Nat.add_mul,← Nat.add_assoc] at this
  ·exact h3 (l+i) j row av (hget i row h4) h5
  ·exact h2 (l+i) j row av (hget i row h4) h5
def optAt (d n:Nat) (o:Option Value):Prop:=(o=none ∧ n=d) ∨ ∃ k,o=some (.int k n)
theorem run_bounds {isS:Bool} {w:World} {len cap l h' m:Nat} {lo hi mx:Option Value} (h1:optAt 0 l lo) (h2:optAt len h' hi) (h3:(mx=none ∧ m=cap) ∨ (m=h' ∧ (∃ k,mx=some (.int k m)) ∧ hi ≠ none)) (hlh:l≤h') (hh:h'≤cap):(Instr.sliceBounds isS len cap lo hi mx).run P w=.ok (l,h',m) w:=by
 rcases h1 with ⟨rfl,rfl⟩|⟨k1,rfl⟩ <;> rcases h2 with ⟨rfl,rfl⟩|⟨k2,rfl⟩ <;> rcases h3 with ⟨rfl,rfl⟩|⟨rfl,⟨k3,rfl⟩,h4⟩ <;>
  first
  | exact absurd rfl h4
  | (simp [Instr.sliceBounds,run_sliceBound,hlh,hh];done)
  | (simp [Instr.sliceBounds,run_sliceBound,hlh,hh];omega)
theorem bd_at {d n:Nat} {o:Option Operand} {ρ:Operand → Value} {ev:Operand → AV} {l:Int} (he:∀ x,RVx cx w tab L (ρ x) (ev x)) (h:aBd (d:Int) (o.map ev)=some l) (h0:0≤l) (hn:n=l.toNat):optAt d n (o.map ρ):=by
 cases o with
 | none=>
  simp [aBd] at h
  exact .inl ⟨rfl,by omega⟩
 | some x=>
  simp only [Option.map_some] at h ⊢
  unfold aBd at h
  split at h
  ·rename_i hx
   cases hx
  ·rename_i k m hx
   injection hx with hx
   have:=he x
   rw [hx] at this
   injection h with h
   subst h
   rw [this.c_inv]
   exact .inr ⟨k,by rw [hn,Int.toNat_of_nonneg h0]⟩
  ·cases h
theorem slice_ok {t:TypeId} {v:Value} {x:AV} {lo hi mx:Option Operand} {ρ:Operand → Value} {ev:Operand → AV} (he:∀ x,RVx cx w tab L (ρ x) (ev x)) (hv:RVx cx w tab L v x) (h:aSlice P t x (lo.map ev) (hi.map ev) (mx.map ev) K) :
  Yields0 P cx w tab L nx K (Instr.sliceAt t v (lo.map ρ) (hi.map ρ) (mx.map ρ)):=by
 unfold aSlice at h
 split at h
 ·rename_i sz rows
  unfold aSliceR at h
  split at h
  ·rename_i l h' hl hh hmx
   obtain ⟨⟨h1,h2⟩,⟨h3,h4,h5⟩,h6⟩:=h
   obtain ⟨hu,hsz⟩:=tyElem_pos (P:=P) (t:=t) (by omega)
   obtain ⟨A,cap,rfl,hc,hp⟩:=rt_part (l:=l.toNat) (h':=h'.toNat) hv.sl_inv (by omega) (by omega)
   have hmx':mx=none:=by cases mx <;> first | rfl | cases hmx
   subst hmx'
   refine ⟨_,_,h6,.tree (hp sz rfl),trivial,fun w'=>?_⟩
   have hb:=run_bounds (P:=P) (w:=w') (isS:=true) (cap:=cap) (m:=cap) (mx:=none) (bd_at (d:=0) he hl h3 rfl) (bd_at he hh (by omega) rfl) (.inl ⟨rfl,rfl⟩) (by omega) (by omega)
   have hs:=run_sizeOf' (P:=P) (t:=(tyElem P t).1) (by omega) w'
   rw [hsz,h1] at hs
   simp [Instr.sliceAt,Instr.slice,Sem.run_bind,run_underlying hu,hb,hs,sliced]
  ·exact h.elim
 ·rename_i s
  unfold aSliceS at h
  split at h
  ·rename_i l h' hl hh hmx
   obtain ⟨h1,⟨h3,h4,h5⟩,h6⟩:=h
   obtain rfl:=hv.c_inv
   have hu:P.underlying t=some .string:=by
    unfold tyK at h1
    split at h1 <;> first | assumption | cases h1
   have hmx':mx=none:=by cases mx <;> first | rfl | cases hmx
   subst hmx'
   refine ⟨_,_,h6,.tree (.c _),trivial,fun w'=>?_⟩
   have hb:=run_bounds (P:=P) (w:=w') (isS:=false) (cap:=s.size) (m:=s.size) (mx:=none) (bd_at (d:=0) he hl h3 rfl) (bd_at he hh (by omega) rfl) (.inl ⟨rfl,rfl⟩) (by omega) (by omega)
   simp [Instr.sliceAt,Instr.slice,Sem.run_bind,run_underlying hu,hb]
  ·exact h.elim
 ·exact h.elim
theorem mm_args {f:Int → Int → Int} {args:Array Operand} {ev:Operand → AV} {K:AV → Prop} (h:aMM f (args.toList.map ev) K):∃ x y k a k' b,args = #[x,y] ∧ ev x=.c (.int k a) ∧ ev y=.c (.int k' b) ∧ K (.c (.int k (f a b))):=by
 obtain ⟨l⟩:=args
 unfold aMM at h
 split at h
 ·rename_i k a k' b hl
  cases l with
  | nil=>simp at hl
  | cons x l=>
   cases l with
   | nil=>simp at hl
   | cons y l=>
    cases l with
    | nil=>
     simp at hl
     exact ⟨x,y,k,a,k',b,rfl,hl.1,hl.2,h⟩
    | cons z l=>simp at hl
 ·exact h.elim
def isLoad:Op → Bool
 | .load _ _=>true
 | _=>false
theorem pure_ok {o:Oper} {ρ:Operand → Value} {ev:Operand → AV} (hL:Lay cx w tab L) (hy:∀ id o,tab.get id=some o → o.lt nx) (he:∀ x,RVx cx w tab L (ρ x) (ev x) ∧ (ev x).lt nx) (h:aPure P tab ev o.op K) :
  ∃ v av,K av ∧ RVx cx w tab L v av ∧ av.lt nx ∧ (∀ w',Below w.heap.size w w' → (execOp ρ o).run P w'=.ok (.value v) w') ∧ (isLoad o.op=false → ∀ w',(execOp ρ o).run P w'=.ok (.value v) w') ∧ (∀ t x,o.op=.load t x → ∃ b,vblk (ρ x)=some b ∧ ∀ w',SameB b w w' → (execOp ρ o).run P w'=.ok (.value v) w'):=by
 have mk:isLoad o.op=false → ∀ v av,K av → RVx cx w tab L v av → av.lt nx → (∀ w',(execOp ρ o).run P w'=.ok (.value v) w') → ∃ v av,K av ∧ RVx cx w tab L v av ∧ av.lt nx ∧ (∀ w',Below w.heap.size w w' → (execOp ρ o).run P w'=.ok (.value v) w') ∧ (isLoad o.op=false → ∀ w',(execOp ρ o).run P w'=.ok (.value v) w') ∧ (∀ t x,o.op=.load t x → ∃ b,vblk (ρ x)=some b ∧ ∀ w',SameB b w w' → (execOp ρ o).run P w'=.ok (.value v) w'):=
  fun hl v av h1 h2 h3 h4=>⟨v,av,h1,h2,h3,fun w' _=>h4 w',fun _ w'=>h4 w',fun t x he=>by rw [he] at hl;cases hl⟩
 have lift0:isLoad o.op=false → ∀ s:Sem Value,Yields0 P cx w tab L nx K s → (∀ w',(execOp ρ o).run P w'=(s.run P w').andThen fun v w''=>.ok (.value v) w'') → ∃ v av,K av ∧ RVx cx w tab L v av ∧ av.lt nx ∧ (∀ w',Below w.heap.size w w' → (execOp ρ o).run P w'=.ok (.value v) w') ∧ (isLoad o.op=false → ∀ w',(execOp ρ o).run P w'=.ok (.value v) w') ∧ (∀ t x,o.op=.load t x → ∃ b,vblk (ρ x)=some b ∧ ∀ w',SameB b w w' → (execOp ρ o).run P w'=.ok (.value v) w'):=by
  rintro hl s ⟨v,av,h1,h2,h3,h4⟩ hs
  exact mk hl v av h1 h2 h3 fun w'=>(by rw [hs,h4 w'];rfl)
 obtain ⟨dst,op,ty,pos,aft,gd⟩:=o
 simp only at h
 unfold aPure at h
 split at h
 ·rename_i x
  exact mk rfl _ _ h (he x).1 (he x).2 fun w'=>by simp [execOp]
 ·rename_i x
  exact mk rfl _ _ h (he x).1 (he x).2 fun w'=>by simp [execOp]
 ·rename_i c a b
  have hc:=(he c).1
  unfold aPick at h
  split at h
  ·rename_i t hcv
   rw [hcv] at hc
   have hc:=hc.c_inv
   cases t
   ·exact mk rfl _ _ h (he b).1 (he b).2 fun w'=>by simp [execOp,hc,asBool]
   ·exact mk rfl _ _ h (he a).1 (he a).2 fun w'=>by simp [execOp,hc,asBool]
  ·exact h.elim
 ·rename_i t x
  obtain ⟨u,av,h1,h2,h3,b,hb,h4⟩:=load_ok hL hy (he x).1 h
  have h5:∀ w',SameB b w w' → (execOp ρ { dst:=dst,op:=.load t x,type:=ty,pos:=pos,after:=aft,guard:=gd }).run P w'=.ok (.value u) w':=fun w' hw'=>by simp [execOp,Sem.run_bind,h4 w' hw']
  refine ⟨u,av,h1,h2,h3,fun w' hw'=>h5 w' fun o v hv=>(hw'.cell (World.block_lt_of_cell? w _ hv)).trans hv,fun h0=>(by cases h0),fun t' x' he'=>?_⟩
  cases he'
  exact ⟨b,hb,h5⟩
 ·rename_i s x f
  exact lift0 rfl _ (field_ok (he x).2 (he x).1 h) fun w'=>by simp [execOp,Sem.run_bind]
 ·rename_i t x ix
  exact lift0 rfl _ (index_ok hL (he x).2 (he x).1 (he ix).1 h) fun w'=>by simp [execOp,Sem.run_bind]
 ·rename_i s x f
  exact lift0 rfl _ (fieldV_ok (he x).2 (he x).1 h) fun w'=>by simp [execOp,Sem.run_bind]
 ·rename_i op t x y _
  have hx:=(he x).1
  have hy:=(he y).1
  unfold aBin at h
  split at h
  ·rename_i a b ha hb
   rw [ha] at hx
   rw [hb] at hy
   have hx:=hx.c_inv
   have hy:=hy.c_inv
   split at h
   ·rename_i v hv
    refine lift0 rfl _ ⟨v,_,h,.tree (.c v),trivial,fun w'=>bin2_run (x:=x) (y:=y) hv w'⟩ fun w'=>?_
    simp [execOp,Sem.run_bind,hx,hy]
    cases (Sem.run P (eqGuard op t x y a b) w') <;> rfl
   ·exact h.elim
  ·rename_i xs ys ha hb
   rw [ha] at hx
   rw [hb] at hy
   obtain ⟨as1,hx,hnx,hrx⟩:=hx.agg_inv
   obtain ⟨bs1,hy,hny,hry⟩:=hy.agg_inv
   unfold aBinS at h
   split at h
   ·rename_i vs us hvs hus
    obtain rfl:=allC_val hvs hnx hrx
    obtain rfl:=allC_val hus hny hry
    obtain ⟨r,hr,h⟩:=h
    refine lift0 rfl _ ⟨r,_,h,.tree (.c r),trivial,fun w'=>hr w' x y⟩ fun w'=>?_
    simp [execOp,Sem.run_bind,hx,hy]
    cases (Sem.run P (eqGuard op t x y (.agg vs.toArray) (.agg us.toArray)) w') <;> rfl
   ·exact h.elim
  ·rename_i sz rows b ha hb
   rw [ha] at hx
   rw [hb] at hy
   have hy:=hy.c_inv
   obtain ⟨A,cap,hA,hc1,hc2,hc3,hc4⟩:=hx.sl_inv.sl_inv
   have hnil:A.isNone=true → rows=[]:=fun h1=>by
    rcases Nat.eq_zero_or_pos rows.length with h2|h2
    ·exact List.length_eq_zero_iff.1 h2
    ·obtain ⟨b',o',h3,_⟩:=hc4 h2
     rw [h3] at h1
     cases h1
   unfold aNilS at h
   split at h
   ·have hk:tyK P t=.slice:=by assumption
    have h:=h A.isNone hnil
    refine lift0 rfl _ ⟨_,_,h,.tree (.c _),trivial,fun w'=>run_nilS (x:=x) (y:=y) (A:=A) (n:=rows.length) (c:=cap) (n':=0) (c':=0) hk (.inl rfl) w'⟩ fun w'=>?_
    simp [execOp,Sem.run_bind,hA,hy]
    cases (Sem.run P (eqGuard _ t x y (.slice A rows.length cap) (.slice none 0 0)) w') <;> rfl
   ·have hk:tyK P t=.slice:=by assumption
    have h:=h (!A.isNone) (fun h1=>hnil (by simpa using h1))
    refine lift0 rfl _ ⟨_,_,h,.tree (.c _),trivial,fun w'=>run_nilS (x:=x) (y:=y) (A:=A) (n:=rows.length) (c:=cap) (n':=0) (c':=0) hk (.inr rfl) w'⟩ fun w'=>?_
    simp [execOp,Sem.run_bind,hA,hy]
    cases (Sem.run P (eqGuard _ t x y (.slice A rows.length cap) (.slice none 0 0)) w') <;> rfl
   ·exact h.elim
  ·exact h.elim
 ·rename_i op t x
  have hx:=(he x).1
  unfold aUn at h
  split at h
  ·rename_i a ha
   rw [ha] at hx
   have hx:=hx.c_inv
   split at h
   ·rename_i v hv
    exact lift0 rfl _ ⟨v,_,h,.tree (.c v),trivial,fun w'=>un1_run hv w'⟩ fun w'=>by simp [execOp,Sem.run_bind,hx]
   ·exact h.elim
  ·exact h.elim
 ·rename_i x i
  have hx:=(he x).1
  have hl:=(he x).2
  unfold aExtract at h
  split at h
  ·rename_i vs hvs
   rw [hvs] at hx hl
   obtain ⟨xs,hxe,hn,hr⟩:=hx.tup_inv
   obtain ⟨hi,h⟩:=h
   rw [List.getElem?_eq_getElem hi,Option.getD_some] at h
   have hi':i<xs.size:=by omega
   exact mk rfl xs[i] _ h (hr i _ _ (Array.getElem?_eq_getElem hi') (List.getElem?_eq_getElem hi)) (ltL_iff.1 hl _ (List.getElem_mem hi)) fun w'=>by simp [execOp,Sem.run_bind,hxe,Instr.extract,Array.getElem?_eq_getElem hi']
  ·exact h.elim
 ·rename_i s d x
  have hx:=(he x).1
  unfold aConv at h
  split at h
  ·rename_i k0 k k1 n hs hd hxe
   rw [hxe] at hx
   have hx:=hx.c_inv
   have e1:P.underlying s=some (.int k0):=by
    unfold tyInt at hs
    split at hs <;> simp_all
   have e2:P.underlying d=some (.int k):=by
    unfold tyInt at hd
    split at hd <;> simp_all
   refine lift0 rfl _ ⟨_,_,h,.tree (.c _),trivial,fun w'=>?_⟩ fun w'=>by simp [execOp,Sem.run_bind];rfl
   rw [hx]
   simp [convert,Sem.run_bind,run_underlying e1,run_underlying e2,Conv.intToInt]
  ·exact h.elim
 ·rename_i c
  obtain ⟨callee,args,argTypes⟩:=c
  simp only at h
  split at h
  ·split at h
   ·rename_i x t h1 h2
    obtain rfl:args = #[x]:=by cases args;simp_all
    obtain rfl:argTypes = #[t]:=by cases argTypes;simp_all
    exact lift0 rfl _ (len_ok (ty:=ty) hL (he x).1 h) fun w'=>by simp [execOp,Sem.run_bind,resolve,invoke,builtin]
   ·exact h.elim
  ·obtain ⟨x,y,k,a,k',b,rfl,h1,h2,h3⟩:=mm_args h
   have hx:=(he x).1
   have hy:=(he y).1
   rw [h1] at hx
   rw [h2] at hy
   have hx:=hx.c_inv
   have hy:=hy.c_inv
   refine lift0 rfl (pure (.int k (max a b))) ⟨_,_,h3,.tree (.c _),trivial,fun w'=>rfl⟩ fun w'=>?_
   have hm:(if b > a then b else a)=max a b:=by rw [Int.max_def];split <;> split <;> omega
   simp [execOp,Sem.run_bind,resolve,invoke,builtin,Builtin.max_,Builtin.max2,hx,hy,hm]
  ·obtain ⟨x,y,k,a,k',b,rfl,h1,h2,h3⟩:=mm_args h
   have hx:=(he x).1
   have hy:=(he y).1
   rw [h1] at hx
   rw [h2] at hy
   have hx:=hx.c_inv
   have hy:=hy.c_inv
   refine lift0 rfl (pure (.int k (min a b))) ⟨_,_,h3,.tree (.c _),trivial,fun w'=>rfl⟩ fun w'=>?_
   have hm:(if b<a then b else a)=min a b:=by rw [Int.min_def];split <;> split <;> omega
   simp [execOp,Sem.run_bind,resolve,invoke,builtin,Builtin.min_,Builtin.min2,hx,hy,hm]
  ·exact h.elim
 ·rename_i f first caps
  rcases h with h|h
  rotate_left
  ·unfold aCloB at h
   split at h
   ·rename_i g hb
    obtain rfl:caps = #[]:=by
     rw [Bool.and_eq_true] at hb
     simpa using hb.1
    refine mk rfl (.func (.func g) (first.map ρ) #[]) _ h (.bfn g _ _ (by simp) fun j x av h1 h2=>?_) (ltL_iff.2 fun a ha=>?_) fun w'=>by simp [execOp,Sem.run_bind,Instr.makeFunc]
    ·rw [List.getElem?_map] at h2
     rw [Array.getElem?_map] at h1
     cases hj:first[j]? with
     | none=>simp [hj] at h1
     | some x=>
      rw [Array.getElem?_toList] at h2
      simp [hj] at h1 h2
      subst h1
      subst h2
      exact (he x).1
    ·obtain ⟨x,_,rfl⟩:=List.mem_map.1 ha
     exact (he x).2
   ·exact h.elim
  unfold aClo at h
  split at h
  ·rename_i g hb
   obtain rfl:first = #[]:=by simpa using hb
   refine mk rfl (.func (.func g) #[] (caps.map ρ)) _ h (.fn g _ _ (by simp) fun j x av h1 h2=>?_) (ltL_iff.2 fun a ha=>?_) fun w'=>by simp [execOp,Sem.run_bind,Instr.makeFunc]
   ·rw [List.getElem?_map] at h2
    rw [Array.getElem?_map] at h1
    cases hj:caps[j]? with
    | none=>simp [hj] at h1
    | some x=>
     rw [Array.getElem?_toList] at h2
     simp [hj] at h1 h2
     subst h1
     subst h2
     exact (he x).1
   ·obtain ⟨x,_,rfl⟩:=List.mem_map.1 ha
    exact (he x).2
  ·exact h.elim
 ·rename_i t x lo hi mx
  exact lift0 rfl _ (slice_ok (fun x=>(he x).1) (he x).1 h) fun w'=>by simp [execOp,Sem.run_bind]
 ·rename_i x
  have hx:=he x
  unfold aNil at h
  split at h
  ·rename_i cs hxe
   rw [hxe] at hx
   obtain ⟨b,o,U,hv,_⟩:=hx.1.rp_inv
   exact mk rfl (ρ x) _ h hx.1 hx.2 fun w'=>by simp [execOp,hv]
  ·rename_i id i j hxe
   rw [hxe] at hx
   split at h
   ·rename_i ob hid
    obtain ⟨g,hg,hv⟩:=hx.1.op_inv _ _ (kx_of hid)
    exact mk rfl (ρ x) _ h hx.1 hx.2 fun w'=>by simp [execOp,hv]
   ·exact h.elim
  ·exact h.elim
 ·exact h.elim
end
end
section
open Go.RowKit
section
variable {P:Program} {cx:Cx} {w w':World} {tab tab':ATab} {L L':Nat → Value} {nx:Nat}
structure Ext (cx:Cx) (w:World) (tab:ATab) (L:Nat → Value) (nx:Nat) (w':World) (tab':ATab) (L':Nat → Value):Prop where
 blk:∀ b,Sx cx w tab L b → w'.heap[b]? = w.heap[b]?
 sub:∀ b,Sx cx w tab L b → Sx cx w' tab' L' b
 loc:∀ id p,id<nx → Kx tab' L' id=some p → Kx tab L id=some p
theorem Ext.cell (h:Ext cx w tab L nx w' tab' L'):∀ p:Addr,Sx cx w tab L p.block → w'.cell? p=w.cell? p:=fun p hp=>World.cell?_of_block (h.blk p.block hp)
theorem Ext.rv (h:Ext cx w tab L nx w' tab' L') {x:Value} {av:AV} (hr:RVx cx w tab L x av) (hl:av.lt nx):RVx cx w' tab' L' x av:=hr.mono hl h.cell h.sub h.loc
theorem Ext.rt (h:Ext cx w tab L nx w' tab' L') {x:Value} {av:AV} (hr:RT w (Sx cx w tab L) x av):RT w' (Sx cx w' tab' L') x av:=hr.mono h.cell h.sub
theorem Ext.obj (h:Ext cx w tab L nx w' tab' L') {v:Value} {o:AObj} (hr:ObjAt cx w tab L v o) (hl:o.lt nx) (hg:∀ g,vblk v=some g → w'.heap[g]? = w.heap[g]?):ObjAt cx w' tab' L' v o:=by
 cases o with
 | box t cells=>
  obtain ⟨g,cs,rfl,hb,hh,hn,hx⟩:=hr
  exact ⟨g,cs,rfl,hb,(hg g rfl).trans hh,hn,fun j x av h1 h2=>⟨h.rv (hx j x av h1 h2).1 (ltL_iff.1 hl _ (List.mem_of_getElem? h2)),(hx j x av h1 h2).2⟩⟩
 | row e sz rows=>
  obtain ⟨h1,xs,hown,h2,h3⟩:=hr
  refine ⟨h1,xs,⟨hown.1,?_⟩,h2,fun i j row av ha hb=>?_⟩
  ·rcases hown.2 with hn | ⟨g,cap,cur,rfl,hb,hh,rest⟩
   ·exact .inl hn
   ·exact .inr ⟨g,cap,cur,rfl,hb,(hg g rfl).trans hh,rest⟩
  ·obtain ⟨x,hx,hr⟩:=h3 i j row av ha hb
   exact ⟨x,hx,h.rt hr⟩
 | nest e sz rows=>
  obtain ⟨h1,xs,hown,h2,h3⟩:=hr
  refine ⟨h1,xs,⟨hown.1,?_⟩,h2,fun i j row av ha hb=>?_⟩
  ·rcases hown.2 with hn | ⟨g,cap,cur,rfl,hb,hh,rest⟩
   ·exact .inl hn
   ·exact .inr ⟨g,cap,cur,rfl,hb,(hg g rfl).trans hh,rest⟩
  ·obtain ⟨x,hx,hr⟩:=h3 i j row av ha hb
   exact ⟨x,hx,h.rv hr (ltL_iff.1 (hl row (List.mem_of_getElem? ha)) _ (List.mem_of_getElem? hb))⟩
 | map ents=>
  obtain ⟨g,es,ck,rfl,hb,hh,he⟩:=hr
  exact ⟨g,es,ck,rfl,hb,(hg g rfl).trans hh,he⟩
 | ghost vs env=>exact ⟨hr.1,fun t ht=>h.rv (hr.2 t ht) (envLt_aget hl t)⟩
theorem ObjAt.ge {v:Value} {o:AObj} (h:ObjAt cx w tab L v o) {g:Nat} (hg:vblk v=some g):cx.w0.heap.size≤g ∧ g<w.heap.size:=by
 cases o with
 | box t cells=>
  obtain ⟨g',cs,rfl,hb,hh,_⟩:=h
  simp [vblk] at hg
  subst hg
  exact ⟨hb,(Array.getElem?_eq_some_iff.1 hh).1⟩
 | row e sz rows=>
  obtain ⟨_,xs,hown,_⟩:=h
  rcases hown.2 with ⟨rfl,_⟩|⟨g',cap,cur,rfl,hb,hh,_⟩
  ·simp [vblk] at hg
  ·simp [vblk] at hg
   subst hg
   exact ⟨hb,(Array.getElem?_eq_some_iff.1 hh).1⟩
 | nest e sz rows=>
  obtain ⟨_,xs,hown,_⟩:=h
  rcases hown.2 with ⟨rfl,_⟩|⟨g',cap,cur,rfl,hb,hh,_⟩
  ·simp [vblk] at hg
  ·simp [vblk] at hg
   subst hg
   exact ⟨hb,(Array.getElem?_eq_some_iff.1 hh).1⟩
 | map ents=>
  obtain ⟨b,es,ck,rfl,hb,hh,_⟩:=h
  simp [vblk] at hg
  subst hg
  exact ⟨hb,(Array.getElem?_eq_some_iff.1 hh).1⟩
 | ghost vs env=>
  obtain ⟨rfl,_⟩:=h
  simp [vblk] at hg
theorem ext_merge (hb:Below w.heap.size w w') (hold:∀ id,id<nx → tab'.get id=tab.get id ∧ L' id=L id) (hy:∀ id o,tab.get id=some o → id<nx)
  (hnew:∀ id o g,nx≤id → tab'.get id=some o → vblk (L' id)=some g → w.heap.size≤g):Ext cx w tab L nx w' tab' L' where
 blk b hp:=hb.block b hp.1
 sub b h:=⟨Nat.lt_of_lt_of_le h.1 hb.size,h.2.1,fun id o hid hg=>by
  rcases Nat.lt_or_ge id nx with hlt|hge
  ·rw [(hold id hlt).2] at hg
   rw [(hold id hlt).1] at hid
   exact h.2.2 id o hid hg
  ·have:=hnew id o b hge hid hg
   have:=h.1
   omega⟩
 loc id p hlt h:=by
  unfold Kx at *
  rw [(hold id hlt).1,(hold id hlt).2] at h
  exact h
theorem BelowX.grown {X:Nat → Prop} {n:Nat} {a b c:World} {row:Option Nat} (h:BelowX X n a b) (hg:b.grownBy c row) (hn:n≤b.heap.size) (hr:∀ k,row=some k → n≤k):BelowX X n a c:=h.trans (belowX ((Below.refl n b).grown hg hn hr))
theorem ex_of (hL:Lay cx w tab L) (hs:w.heap.size≤w'.heap.size) (hy:∀ id o g,tab'.get id=some o → vblk (L' id)=some g → g<w.heap.size → ∃ id2 o2,tab.get id2=some o2 ∧ vblk (L id2)=some g) :
  ∀ b,cx.X b → b<w'.heap.size ∧ ∀ id o,tab'.get id=some o → vblk (L' id) ≠ some b:=fun b hb=>
 ⟨Nat.lt_of_lt_of_le (hL.ex b hb).1 hs,fun id o hid hg=>by
  obtain ⟨id2,o2,h1,h2⟩:=hy id o b hid hg (hL.ex b hb).1
  exact (hL.ex b hb).2 id2 o2 h1 h2⟩
theorem lay_merge (hL:Lay cx w tab L) (hy:∀ id o,tab.get id=some o → id<nx ∧ o.lt nx) (hb:Below w.heap.size w w') (hold:∀ id,id<nx → tab'.get id=tab.get id ∧ L' id=L id)
  (hobj:∀ id o,nx≤id → tab'.get id=some o → ObjAt cx w' tab' L' (L' id) o) (hnew:∀ id o g,nx≤id → tab'.get id=some o → vblk (L' id)=some g → w.heap.size≤g)
  (hsep:∀ id id' o o' g,nx≤id → nx≤id' → tab'.get id=some o → tab'.get id'=some o' → vblk (L' id)=some g → vblk (L' id')=some g → id=id'):Lay cx w' tab' L':=by
 have hext:Ext cx w tab L nx w' tab' L':=ext_merge hb hold (fun id o h=>(hy id o h).1) hnew
 refine ⟨hL.below.trans (belowX (hb.mono hL.below.size)),fun id o hid=>?_,fun id id' o o' g h1 h2 h3 h4=>?_,fun b hb'=>⟨Nat.lt_of_lt_of_le (hL.ex b hb').1 hb.size,fun id o hid hg=>?_⟩⟩
 rotate_left 2
 ·rcases Nat.lt_or_ge id nx with hlt | hge
  ·rw [(hold id hlt).1] at hid
   rw [(hold id hlt).2] at hg
   exact (hL.ex b hb').2 id o hid hg
  ·have:=hnew id o b hge hid hg
   have:=(hL.ex b hb').1
   omega
 ·rcases Nat.lt_or_ge id nx with hlt | hge
  ·rw [(hold id hlt).1] at hid
   rw [(hold id hlt).2]
   have ho:=hL.objs id o hid
   exact hext.obj ho (hy id o hid).2 fun g hg=>hb.block g (ho.ge hg).2
  ·exact hobj id o hge hid
 ·rcases Nat.lt_or_ge id nx with hlt | hge <;> rcases Nat.lt_or_ge id' nx with hlt' | hge'
  ·rw [(hold id hlt).1] at h1
   rw [(hold id' hlt').1] at h2
   rw [(hold id hlt).2] at h3
   rw [(hold id' hlt').2] at h4
   exact hL.sep id id' o o' g h1 h2 h3 h4
  ·rw [(hold id hlt).1] at h1
   rw [(hold id hlt).2] at h3
   have:=(hL.objs id o h1).ge h3
   have:=hnew id' o' g hge' h2 h4
   omega
  ·rw [(hold id' hlt').1] at h2
   rw [(hold id' hlt').2] at h4
   have:=(hL.objs id' o' h2).ge h4
   have:=hnew id o g hge h1 h3
   omega
  ·exact hsep id id' o o' g hge hge' h1 h2 h3 h4
end
structure Fr (cx:Cx) (w:World) (tab:ATab) (L:Nat → Value) (nx:Nat) (w':World) (tab':ATab) (L':Nat → Value) (nx':Nat):Prop where
 ext:Ext cx w tab L nx w' tab' L'
 size:w.heap.size≤w'.heap.size
 keep:∀ k,k<w.heap.size → (∀ id o,tab.get id=some o → vblk (L id) ≠ some k) → w'.heap[k]? = w.heap[k]?
 young:∀ id o g,tab'.get id=some o → vblk (L' id)=some g → g<w.heap.size → ∃ id2 o2,tab.get id2=some o2 ∧ vblk (L id2)=some g
 next:nx≤nx'
structure Fz (w:World) (tab:ATab) (L:Nat → Value) (w':World) (tab':ATab) (L':Nat → Value):Prop where
 size:w.heap.size≤w'.heap.size
 keep:∀ k,k<w.heap.size → (∀ id o,tab.get id=some o → vblk (L id) ≠ some k) → w'.heap[k]? = w.heap[k]?
 young:∀ id o g,tab'.get id=some o → vblk (L' id)=some g → g<w.heap.size → ∃ id2 o2,tab.get id2=some o2 ∧ vblk (L id2)=some g
def updL (L:Nat → Value) (id:Nat) (v:Value):Nat → Value:=fun k=>if k=id then v else L k
section
variable {P:Program} {cx:Cx} {a:Act} {w w':World} {st:ASt} {L L':Nat → Value}
theorem eval_ok (h:Conc cx a w st L) (x:Operand):RVx cx w st.tab L (a.eval x) (aEv st x) ∧ (aEv st x).lt st.next:=by
 cases x with
 | tmp t=>exact h.env t
 | const v=>exact ⟨.tree (.c v),trivial⟩
 | global g=>exact ⟨.tree (.any _),trivial⟩
 | func f=>exact ⟨.tree (.c _),trivial⟩
theorem get_put {dst:Option Nat} {av:AV} (t:Nat):(st.put dst av).get t=match dst with | some d=>if d<st.n ∧ t=d then av else st.get t | none=>st.get t:=by
 cases dst with
 | none=>rfl
 | some d=>
  unfold ASt.put ASt.get
  simp only [aget]
  by_cases ht:t=d
  ·subst ht
   by_cases hd:t<st.n <;> simp [hd]
  ·simp [ht]
theorem conc_put (h:Conc cx a w st L) {tab':ATab} {nx':Nat} {L':Nat → Value} (hL:Lay cx w' tab' L') (hx:Ext cx w st.tab L st.next w' tab' L') (hn:st.next≤nx') (hy:∀ id o,tab'.get id=some o → id<nx' ∧ o.lt nx')
  {v:Value} {av:AV} (hv:RVx cx w' tab' L' v av) (hl:av.lt nx') (dst:Option Nat):Conc cx (a.put dst v) w' ({ st with tab:=tab',next:=nx' }.put dst av) L':=by
 have hdef:(a.put dst v).defers=a.defers:=by
  cases dst <;> rfl
 have hsz:(a.put dst v).tmps.size=st.n:=by
  cases dst
  ·exact h.size
  ·simp [Act.put,h.size]
 have e1:({ st with tab:=tab',next:=nx' }.put dst av).tab=tab':=by
  cases dst <;> simp only [ASt.put]
 have e2:({ st with tab:=tab',next:=nx' }.put dst av).next=nx':=by
  cases dst <;> simp only [ASt.put]
 have e3:({ st with tab:=tab',next:=nx' }.put dst av).n=st.n:=by
  cases dst <;> simp only [ASt.put]
 refine ⟨by rw [e1];exact hL,by rw [e3];exact hsz,by rw [e1,hdef];exact h.defers.mono hx.blk hx.sub,by rw [e1,e2];exact hy,fun t=>?_⟩
 rw [e1,e2,get_put]
 have hold:=h.env t
 have old:RVx cx w' tab' L' (a.tmps.getD t undef) (st.get t) ∧ (st.get t).lt nx':=⟨hx.rv hold.1 hold.2,AV.lt_mono hn hold.2⟩
 cases dst with
 | none=>exact old
 | some d=>
  simp only [Act.put]
  by_cases hd:d<st.n ∧ t=d
  ·rw [if_pos hd]
   obtain ⟨hd,rfl⟩:=hd
   have:t<a.tmps.size:=by rw [h.size];exact hd
   simp only [Array.getD_eq_getD_getElem?,Array.getElem?_setIfInBounds_self_of_lt this,Option.getD_some]
   exact ⟨hv,hl⟩
  ·rw [if_neg hd]
   have e:(a.tmps.setIfInBounds d v).getD t undef=a.tmps.getD t undef:=by
    by_cases hdt:d=t
    ·subst hdt
     have:¬ d<a.tmps.size:=by rw [h.size];simpa using hd
     rw [Array.setIfInBounds_eq_of_size_le (by omega)]
    ·simp [Array.getD_eq_getD_getElem?,Array.getElem?_setIfInBounds_ne hdt]
   rw [e]
   exact old
theorem Ext.refl (w:World) (tab:ATab) (L:Nat → Value) (nx:Nat):Ext cx w tab L nx w tab L:=⟨fun _ _=>rfl,fun _ h=>h,fun _ _ _ h=>h⟩
theorem conc_pure (h:Conc cx a w st L) {v:Value} {av:AV} (hv:RVx cx w st.tab L v av) (hl:av.lt st.next) (dst:Option Nat):Conc cx (a.put dst v) w (st.put dst av) L:=
 conc_put (tab':=st.tab) (nx':=st.next) (L':=L) h h.lay (Ext.refl ..) (Nat.le_refl _) h.young hv hl dst
theorem conc_new (h:Conc cx a w st L) (hb:Below w.heap.size w w') {v:Value} {ob:AObj} (hnew:∀ g,vblk v=some g → w.heap.size≤g) (hob:Ext cx w st.tab L st.next w' ((st.next,some ob) :: st.tab) (updL L st.next v) → ObjAt cx w' ((st.next,some ob) :: st.tab) (updL L st.next v) v ob)
  (hlt:ob.lt (st.next+1)) {x:Value} {av:AV} (hv:Ext cx w st.tab L st.next w' ((st.next,some ob) :: st.tab) (updL L st.next v) → RVx cx w' ((st.next,some ob) :: st.tab) (updL L st.next v) x av) (hl:av.lt (st.next+1)) (dst:Option Nat) :
  Conc cx (a.put dst x) w' ({ st with tab:=(st.next,some ob) :: st.tab,next:=st.next+1 }.put dst av) (updL L st.next v):=by
 have hold:∀ id,id<st.next → ATab.get ((st.next,some ob) :: st.tab) id=st.tab.get id ∧ updL L st.next v id=L id:=fun id hid=>by
  unfold updL
  rw [ATab.get_cons,if_neg (by omega),if_neg (by omega)]
  exact ⟨rfl,rfl⟩
 have hge:∀ id o,st.next≤id → ATab.get ((st.next,some ob) :: st.tab) id=some o → id=st.next ∧ o=ob:=fun id o hid hg=>by
  rw [ATab.get_cons] at hg
  split at hg
  ·rename_i e
   cases hg
   exact ⟨e,rfl⟩
  ·have:=(h.young id o hg).1
   omega
 have hup:updL L st.next v st.next=v:=by simp [updL]
 have hnew':∀ id o g,st.next≤id → ATab.get ((st.next,some ob) :: st.tab) id=some o → vblk (updL L st.next v id)=some g → w.heap.size≤g:=fun id o g h1 h2 h3=>by
  obtain ⟨rfl,_⟩:=hge id o h1 h2
  rw [hup] at h3
  exact hnew g h3
 have hext:=ext_merge (cx:=cx) hb hold (fun id o hid=>(h.young id o hid).1) hnew'
 refine conc_put h (lay_merge h.lay h.young hb hold (fun id o h1 h2=>?_) hnew' fun id id' o o' g h1 h2 h3 h4 _ _=>?_) hext (by omega) (fun id o hg=>?_) (hv hext) hl dst
 ·obtain ⟨rfl,rfl⟩:=hge id o h1 h2
  rw [hup]
  exact hob hext
 ·rw [(hge id o h1 h3).1,(hge id' o' h2 h4).1]
 ·rcases Nat.lt_or_ge id st.next with hlt' | hge'
  ·rw [(hold id hlt').1] at hg
   have:=h.young id o hg
   refine ⟨by omega,?_⟩
   cases o with
   | box t cells=>exact ltL_iff.2 fun x hx=>AV.lt_mono (Nat.le_succ _) (ltL_iff.1 this.2 x hx)
   | row=>trivial
   | map=>trivial
   | nest e sz rows=>exact fun row hr=>ltL_iff.2 fun x hx=>AV.lt_mono (Nat.le_succ _) (ltL_iff.1 (this.2 row hr) x hx)
   | ghost vs env=>exact envLt_mono (Nat.le_succ _) this.2
  ·obtain ⟨rfl,rfl⟩:=hge id o hge' hg
   exact ⟨by omega,hlt⟩
end
end
section
open Go.RowKit
def oneC (tab:ATab):AV → Prop
 | .c v=>v.oneCell'=true
 | .sl _ _=>True
 | .rp _=>True
 | .osl id=>(tab.get id).isSome=true
 | .op id _ _=>(tab.get id).isSome=true
 | .fn _ _=>True
 | .bfn _ _=>True
 | _=>False
def oneCL (tab:ATab):List AV → Prop
 | []=>True
 | a :: l=>oneC tab a ∧ oneCL tab l
def aCells:AV → List AV
 | .agg cs=>cs
 | .c v=>v.cells.toList.map .c
 | av=>[av]
theorem oneCL_iff {tab:ATab}:∀ {l:List AV},oneCL tab l ↔ ∀ a ∈ l,oneC tab a
 | []=>by simp [oneCL]
 | a :: l=>by simp [oneCL,oneCL_iff (l:=l)]
section
variable {P:Program} {cx:Cx} {a:Act} {w w':World} {tab:ATab} {st:ASt} {L:Nat → Value} {nx:Nat}
theorem obj_one {v:Value} {o:AObj} (h:ObjAt cx w tab L v o):v.oneCell'=true ∧ v.cells = #[v]:=by
 cases o with
 | box t cells=>
  obtain ⟨g,cs,rfl,_⟩:=h
  exact ⟨rfl,rfl⟩
 | row e sz rows=>
  obtain ⟨_,xs,hown,_⟩:=h
  rcases hown.2 with ⟨rfl,_⟩|⟨g,cap,cur,rfl,_⟩ <;> exact ⟨rfl,rfl⟩
 | nest e sz rows=>
  obtain ⟨_,xs,hown,_⟩:=h
  rcases hown.2 with ⟨rfl,_⟩|⟨g,cap,cur,rfl,_⟩ <;> exact ⟨rfl,rfl⟩
 | map ents=>
  obtain ⟨b,es,ck,rfl,_⟩:=h
  exact ⟨rfl,rfl⟩
 | ghost vs env=>
  obtain ⟨rfl,_⟩:=h
  exact ⟨rfl,rfl⟩
theorem one_val (hL:Lay cx w tab L) {x:Value} {av:AV} (hv:RVx cx w tab L x av) (h:oneC tab av):x.oneCell'=true ∧ x.cells = #[x]:=by
 cases av with
 | any=>exact h.elim
 | c v=>
  obtain rfl:=hv.c_inv
  refine ⟨h,?_⟩
  cases x <;> first | rfl | cases h
 | sl sz rows=>
  obtain ⟨A,cap,rfl,_⟩:=hv.sl_inv.sl_inv
  exact ⟨rfl,rfl⟩
 | rp cs=>
  obtain ⟨b,o,U,rfl,_⟩:=hv.rp_inv
  exact ⟨rfl,rfl⟩
 | osl id=>
  obtain ⟨o,ho⟩:=Option.isSome_iff_exists.1 h
  rw [hv.osl_inv _ _ (kx_of ho)]
  exact obj_one (hL.objs id o ho)
 | op id i j=>
  obtain ⟨o,ho⟩:=Option.isSome_iff_exists.1 h
  obtain ⟨g,_,rfl⟩:=hv.op_inv _ _ (kx_of ho)
  exact ⟨rfl,rfl⟩
 | agg=>exact h.elim
 | tup=>exact h.elim
 | fn f cs=>
  obtain ⟨xs,rfl,_⟩:=hv.fn_inv
  exact ⟨rfl,rfl⟩
 | bfn f cs=>
  obtain ⟨xs,rfl,_⟩:=hv.bfn_inv
  exact ⟨rfl,rfl⟩
theorem cells_ok (hL:Lay cx w tab L) {v:Value} {av:AV} (hv:RVx cx w tab L v av) (hl:av.lt nx) (h:oneCL tab (aCells av)) :
    v.cells.size=(aCells av).length ∧ AV.ltL nx (aCells av) ∧ ∀ (j:Nat) (x:Value) (a:AV),v.cells[j]? = some x → (aCells av)[j]? = some a → RVx cx w tab L x a ∧ x.oneCell'=true:=by
  cases av with
  | agg cs=>
    obtain ⟨xs,rfl,hn,hr⟩:=hv.agg_inv
    exact ⟨hn,hl,fun j x a h1 h2=>⟨hr j x a h1 h2,(one_val hL (hr j x a h1 h2) (oneCL_iff.1 h a (List.mem_of_getElem? h2))).1⟩⟩
  | c v'=>
    obtain rfl:=hv.c_inv
    refine ⟨by simp [aCells],ltL_iff.2 fun a ha=>?_,fun j x a h1 h2=>?_⟩
    · simp [aCells] at ha
      obtain ⟨y,_,rfl⟩:=ha
      trivial
    · have h3:=h2
      simp only [aCells,List.getElem?_map,Array.getElem?_toList,h1,Option.map_some,Option.some.injEq] at h2
      subst h2
      exact ⟨.tree (.c x),oneCL_iff.1 h _ (List.mem_of_getElem? h3)⟩
  | _=>
    first
    | (have h1:=one_val hL hv h.1
       simp only [aCells]
       refine ⟨by simp [h1.2],⟨hl,trivial⟩,fun j x a h2 h3=>?_⟩
       rw [h1.2] at h2
       cases j with
       | zero=>
         simp at h2 h3
         subst h2
         subst h3
         exact ⟨hv,h1.1⟩
       | succ j=>simp at h2)
    | exact h.1.elim
theorem box_ok {t:TypeId} {v:Value} {av:AV} (h:Conc cx a w st L) (hv:RVx cx w st.tab L v av) (hl:av.lt st.next) (h1:oneCL st.tab (aCells av)) (dst:Option Nat) :
  (Instr.box t v).run P w=.ok (.pointer (some ⟨w.heap.size,0,none⟩)) (w.alloc (.cells v.cells t)) ∧
  Conc cx (a.put dst (.pointer (some ⟨w.heap.size,0,none⟩))) (w.alloc (.cells v.cells t)) ({ st with tab:=(st.next,some (.box t (aCells av))) :: st.tab,next:=st.next+1 }.put dst (.op st.next 0 0)) (updL L st.next (.pointer (some ⟨w.heap.size,0,none⟩))):=by
 obtain ⟨hn,hlt,hc⟩:=cells_ok h.lay hv hl h1
 refine ⟨by simp [Instr.box,newVar,newRow],conc_new h ((Below.refl _ _).alloc (Nat.le_refl _) _) (fun g hg=>?_) (fun hx=>?_) ?_ (fun hx=>?_) ?_ dst⟩
 ·simp [vblk] at hg
  omega
 ·refine ⟨w.heap.size,v.cells,rfl,h.lay.below.size,heap_alloc_new w _,hn,fun j x av' h2 h3=>⟨hx.rv (hc j x av' h2 h3).1 (ltL_iff.1 hlt _ (List.mem_of_getElem? h3)),(hc j x av' h2 h3).2⟩⟩
 ·exact ltL_iff.2 fun x hx=>AV.lt_mono (Nat.le_succ _) (ltL_iff.1 hlt x hx)
 ·refine .op _ _ _ _ fun sz u hk=>?_
  simp [Kx,ATab.get_cons,updL] at hk
  obtain ⟨_,rfl⟩:=hk
  exact ⟨w.heap.size,rfl,by simp⟩
 ·exact Nat.lt_succ_self _
def tyZero (P:Program) (t:TypeId):Option Value:=(P.info? t).bind (·.zero)
theorem run_zero {t:TypeId} {z:Value} (h:tyZero P t=some z) (w:World):(zeroValue t).run P w=.ok z w:=by
 unfold tyZero at h
 cases hi:P.info? t with
 | none=>simp [hi] at h
 | some i=>
  have hz:i.zero=some z:=by simpa [hi] using h
  simp [zeroValue,typeInfo,hi,hz]
theorem alloc_run {t:TypeId} {z:Value} (h:tyZero P t=some z) (w:World):(Instr.alloc t true (.tuple #[])).run P w=(Instr.box t z).run P w:=by
 simp [Instr.alloc,Sem.run_bind,run_zero h,Instr.box]
theorem ext_upd {tab':ATab} {o o':AObj} {id g:Nat} (hid:tab.get id=some o) (hg:vblk (L id)=some g) (hsz:o'.sz=o.sz) (ht:∀ k,tab'.get k=if k=id then some o' else tab.get k)
  (hb:∀ k,k ≠ g → w'.heap[k]? = w.heap[k]?) (hs:w'.heap.size=w.heap.size):Ext cx w tab L nx w' tab' L where
 blk p hp:=hb p fun e=>hp.2.2 id o hid (by rw [hg,e])
 sub b h:=⟨by rw [hs];exact h.1,h.2.1,fun k ok hk=>by
  rw [ht] at hk
  split at hk
  ·rename_i e
   subst e
   exact h.2.2 _ o hid
  ·exact h.2.2 k ok hk⟩
 loc k p hlt h:=by
  unfold Kx at *
  rw [ht] at h
  split at h
  ·rename_i e
   subst e
   rw [hid]
   simpa [hsz] using h
  ·exact h
theorem conc_upd (h:Conc cx a w st L) {o o':AObj} {id g:Nat} (hid:st.tab.get id=some o) (hg:vblk (L id)=some g) (hsz:o'.sz=o.sz) (hb:∀ k,k ≠ g → w'.heap[k]? = w.heap[k]?) (hbel:BelowX cx.X cx.w0.heap.size cx.w0 w') (hs:w'.heap.size=w.heap.size)
  (hob:Ext cx w st.tab L st.next w' ((id,some o') :: st.tab) L → ObjAt cx w' ((id,some o') :: st.tab) L (L id) o') (hlt:o'.lt st.next) (dst:Option Nat):Conc cx (a.put dst undef) w' ({ st with tab:=(id,some o') :: st.tab }.put dst .any) L:=by
 have ht:∀ k,ATab.get ((id,some o') :: st.tab) k=if k=id then some o' else st.tab.get k:=fun k=>ATab.get_cons ..
 have hext:Ext cx w st.tab L st.next w' ((id,some o') :: st.tab) L:=ext_upd hid hg hsz ht hb hs
 have hy:=h.young id o hid
 have hex:∀ id2 o2 g,ATab.get ((id,some o') :: st.tab) id2=some o2 → vblk (L id2)=some g → g<w.heap.size → ∃ id3 o3,st.tab.get id3=some o3 ∧ vblk (L id3)=some g:=fun k ok g hk hg' _=>by
  rw [ht] at hk
  split at hk
  ·rename_i e
   exact ⟨k,o,by rw [e];exact hid,hg'⟩
  ·exact ⟨k,ok,hk,hg'⟩
 refine conc_put (nx':=st.next) (L':=L) h ⟨hbel,fun k ok hk=>?_,fun k k' ok ok' g' h1 h2 h3 h4=>?_,ex_of h.lay (by omega) hex⟩ hext (Nat.le_refl _) (fun k ok hk=>?_) (.tree (.any _)) trivial dst
 ·rw [ht] at hk
  split at hk
  ·rename_i e
   subst e
   cases hk
   exact hob hext
  ·rename_i hne
   exact hext.obj (h.lay.objs k ok hk) (h.young k ok hk).2 fun g' hg'=>hb g' fun e=>by
    subst e
    exact hne (h.lay.sep k id ok o _ hk hid hg' hg)
 ·have:∀ k ok,ATab.get ((id,some o') :: st.tab) k=some ok → ∃ ok',st.tab.get k=some ok':=fun k ok hk=>by
   rw [ht] at hk
   split at hk
   ·rename_i e
    exact ⟨o,by rw [e];exact hid⟩
   ·exact ⟨ok,hk⟩
  obtain ⟨o1,ho1⟩:=this k ok h1
  obtain ⟨o2,ho2⟩:=this k' ok' h2
  exact h.lay.sep k k' o1 o2 g' ho1 ho2 h3 h4
 ·rw [ht] at hk
  split at hk
  ·rename_i e
   cases hk
   exact ⟨by rw [e];exact hy.1,hlt⟩
  ·exact h.young k ok hk
theorem run_storeAt' {t:TypeId} {v:Value} {g o:Nat} {cur:Array Value} {e:TypeId} (h0:0<tySize P t) (hs:v.cells.size=tySize P t) (hg:w.heap[g]? = some (.cells cur e (0,0))) (ho:o+tySize P t≤cur.size) (h1:∀ x ∈ v.cells,x.oneCell'=true) :
  (Instr.storeAt t (.pointer (some ⟨g,o,none⟩)) v).run P w=.ok () (w.setRow g (cur.toList.take o ++ v.cells.toList ++ cur.toList.drop (o+tySize P t)).toArray):=by
 have:=run_storeCells_at P g o e v.cells.toList 0 cur w hg (by simp [hs];omega) (by simpa using h1)
 simp [hs] at this
 simp [Instr.storeAt,Instr.sureAddr,storeVar,Sem.run_bind,run_sizeOf' h0,hs,this]
theorem splice_get {α:Type} (l:List α) (o:Nat) (vs:List α) (h:o+vs.length≤l.length) (j:Nat):(l.take o ++ vs ++ l.drop (o+vs.length))[j]? = if o≤j ∧ j<o+vs.length then vs[j - o]? else l[j]?:=by
 have ht:(l.take o).length=o:=by rw [List.length_take];omega
 rw [List.append_assoc]
 by_cases h1:j<o
 ·rw [if_neg (by omega),List.getElem?_append_left (by omega),List.getElem?_take,if_pos h1]
 ·rw [List.getElem?_append_right (by omega),ht]
  by_cases h2:j<o+vs.length
  ·rw [if_pos ⟨by omega,h2⟩,List.getElem?_append_left (by omega)]
  ·rw [if_neg (by omega),List.getElem?_append_right (by omega),List.getElem?_drop]
   congr 1
   omega
theorem store_box_ok {t ty:TypeId} {p v:Value} {id j:Nat} {cells:List AV} {av:AV} (h:Conc cx a w st L) (hp:RVx cx w st.tab L p (.op id 0 j)) (hid:st.tab.get id=some (.box ty cells)) (hv:RVx cx w st.tab L v av) (hl:av.lt st.next)
  (h0:0<tySize P t) (hs:(aCells av).length=tySize P t) (ho:j+tySize P t≤cells.length) (h1:oneCL st.tab (aCells av)) (dst:Option Nat) :
  ∃ w',(Instr.storeAt t p v).run P w=.ok () w' ∧ Conc cx (a.put dst undef) w' ({ st with tab:=(id,some (.box ty (cells.take j ++ aCells av ++ cells.drop (j+tySize P t)))) :: st.tab }.put dst .any) L ∧
   w'.heap.size=w.heap.size ∧ ∀ k,vblk (L id) ≠ some k → w'.heap[k]? = w.heap[k]?:=by
 obtain ⟨hn,hlt,hc⟩:=cells_ok h.lay hv hl h1
 obtain ⟨g,hg,rfl⟩:=hp.op_inv _ _ (kx_of hid)
 have hob:=h.lay.objs id _ hid
 obtain ⟨g',cs,hL,hbg,hheap,hcs,hx⟩:=hob
 have hgg:g=g':=by
  rw [hL] at hg
  simpa [vblk] using hg.symm
 subst hgg
 simp only [Nat.zero_mul,Nat.zero_add]
 refine ⟨_,run_storeAt' h0 (by omega) hheap (by omega) (fun x hx'=>?_),?_,by simp,fun k hk=>setRow_other w g k _ fun e=>hk (by rw [hg,e])⟩
 ·obtain ⟨k,hk,rfl⟩:=Array.getElem_of_mem hx'
  have hk':k<(aCells av).length:=by omega
  exact (hc k _ _ (Array.getElem?_eq_getElem hk) (List.getElem?_eq_getElem hk')).2
 ·have hyl:=(h.young id _ hid).2
  have hlen:(cells.take j ++ aCells av ++ cells.drop (j+tySize P t)).length=cells.length:=by
   simp;omega
  refine conc_upd (o':=.box ty (cells.take j ++ aCells av ++ cells.drop (j+tySize P t))) h hid hg (by simpa [AObj.sz] using hlen) (fun k hk=>setRow_other w g k _ hk) ?_ (by simp) (fun hext=>⟨g,_,hL,hbg,setRow_heap w g cs _ ty (0,0) hheap,?_,fun k x av' h2 h3=>?_⟩) ?_ dst
  ·exact ⟨h.lay.below.os,h.lay.below.tape,h.lay.below.output,by simpa using h.lay.below.size,fun k hk hX=>(setRow_other w g k _ (by omega)).trans (h.lay.below.block k hk hX)⟩
  ·rw [hlen]
   simp [hcs,hn,hs]
   omega
  ·rw [← hs] at h3
   rw [splice_get _ _ _ (by omega)] at h3
   have hvl:v.cells.toList.length=tySize P t:=by simp [hn,hs]
   rw [List.getElem?_toArray,← hvl,splice_get _ _ _ (by simp [hcs];omega),hvl] at h2
   rw [← hs] at h2
   split at h3
   ·rename_i hr
    rw [if_pos hr] at h2
    have:=hc (k - j) x av' (by simpa using h2) h3
    exact ⟨hext.rv this.1 (ltL_iff.1 hlt _ (List.mem_of_getElem? h3)),this.2⟩
   ·rename_i hr
    rw [if_neg hr] at h2
    have:=hx k x av' (by simpa using h2) h3
    exact ⟨hext.rv this.1 (ltL_iff.1 hyl _ (List.mem_of_getElem? h3)),this.2⟩
  ·refine ltL_iff.2 fun x hx=>?_
   rcases List.mem_append.1 hx with hx|hx
   ·rcases List.mem_append.1 hx with hx | hx
    ·exact ltL_iff.1 hyl x (List.mem_of_mem_take hx)
    ·exact ltL_iff.1 hlt x hx
   ·exact ltL_iff.1 hyl x (List.mem_of_mem_drop hx)
end
end
end
section
section
open Go.RowKit
def tyRow (P:Program) (t:TypeId):Option (TypeId × Nat × Nat):=
 match P.underlying t with
 | some (.slice e)=>match P.info? e with
  | some i=>match i.zero with
   | some z=>if z.cells.size=i.size ∧ 0<i.size then some (e,i.size,i.bytes) else none
   | none=>none
  | none=>none
 | _=>none
def aSrc (tab:ATab) (sz:Nat):AV → Option (List (List AV))
 | .sl sz' rows=>if sz'=sz then some rows else none
 | .osl id=>match tab.get id with
  | some (.row _ sz' rows)=>if sz'=sz then some rows else none
  | _=>none
 | .c (.slice none 0 _)=>some []
 | _=>none
def aDst (tab:ATab) (e sz:Nat):AV → Option (Option Nat × List (List AV))
 | .osl id=>match tab.get id with
  | some (.row e' sz' rows)=>if e'=e ∧ sz'=sz then some (some id,rows) else none
  | _=>none
 | .c (.slice none 0 0)=>some (none,[])
 | _=>none
def aSrcN (tab:ATab) (sz:Nat):AV → Option (List (List AV))
 | .osl id=>match tab.get id with
  | some (.nest _ sz' rows)=>if sz'=sz then some rows else none
  | _=>none
 | _=>none
def aDstN (tab:ATab) (e sz:Nat):AV → Option (Option Nat × List (List AV))
 | .osl id=>match tab.get id with
  | some (.nest e' sz' rows)=>if e'=e ∧ sz'=sz then some (some id,rows) else none
  | _=>none
 | .c (.slice none 0 0)=>some (none,[])
 | _=>none
section
variable {P:Program} {cx:Cx} {a:Act} {w w':World} {tab:ATab} {st:ASt} {L:Nat → Value} {nx:Nat}
theorem tyRow_some {t e sz by_:Nat} (h:tyRow P t=some (e,sz,by_)):∃ i z,P.underlying t=some (.slice e) ∧ P.info? e=some i ∧ i.zero=some z ∧ i.size=sz ∧ i.bytes=by_ ∧ z.cells.size=sz ∧ 0<sz:=by
 unfold tyRow at h
 split at h
 ·rename_i e' hu
  split at h
  ·rename_i i hi
   split at h
   ·rename_i z hz
    split at h
    ·rename_i hc
     cases h
     exact ⟨i,z,hu,hi,hz,rfl,rfl,hc.1,hc.2⟩
    ·cases h
   ·cases h
  ·cases h
 ·cases h
theorem run_append_none (base:Nat) {t ty e:TypeId} {i:TypeInfo} {size c:Nat} (ht:P.underlying t=some (.slice e)) (hi:P.info? e=some i)
  {v:Value} {n:Nat} {xs:List Value} (hown:OwnsR w base e size v n xs):(Builtin.append_ #[t,t] ty #[v,.slice none 0 c]).run P w=.ok v w:=by
 rcases hown.2 with ⟨rfl,rfl⟩|⟨g,cap,cur,rfl,_,_,hnc,_⟩
 ·simp [Builtin.append_,run_underlying ht,sizeOf,typeInfo,hi,Builtin.lenOf,Builtin.firstCells]
 ·simp [Builtin.append_,run_underlying ht,sizeOf,typeInfo,hi,Builtin.lenOf,Builtin.firstCells,hnc,storeCells]
theorem run_append_R {w:World} (base:Nat) (t ty e:TypeId) (i:TypeInfo) (z:Value) (size bytes:Nat) (ht:P.underlying t=some (.slice e)) (hi:P.info? e=some i) (hz:i.zero=some z)
  (hsize:i.size=size) (hby:i.bytes=bytes) (hzs:z.cells.size=size) (hsz:0<size)
  (v:Value) (n:Nat) (xs:List Value) (hown:OwnsR w base e size v n xs)
  (a:Addr) (m c:Nat) (news:List Value) (hl:news.length=m * size) (hnews:∀ j u,news[j]? = some u → w.cell? (a.add j)=some u) (h1:∀ u ∈ news,u.oneCell'=true)
  (h63:n+m≤maxLen) (hbytes:(n+m) * bytes≤140737488355328) (hbase:base≤w.heap.size) :
  ∃ v' w',(Builtin.append_ #[t,t] ty #[v,.slice (some a) m c]).run P w=.ok v' w' ∧ OwnsR w' base e size v' (n+m) (xs ++ news) ∧ w.grownBy w' v.ownBlock ∧ (v'.ownBlock=v.ownBlock ∨ v'.ownBlock=some w.heap.size):=by
 rcases hown.2 with ⟨rfl,rfl⟩|⟨g,cap,cur,rfl,hbg,hg,hnc,hcm,hcs,htake⟩
 ·obtain ⟨v',w',h2,h3,h4,_,h5⟩:=run_append_own_at (P:=P) w base t ty e i z size bytes ht hi hz hsize hby hzs hsz (.slice none 0 0) 0 xs ⟨hown.1,.inl ⟨rfl,rfl⟩⟩ a m c news hl hnews h1 h63 hbytes hbase
  exact ⟨v',w',h2,ownsR_of h3,h4,h5⟩
 ·subst hsize
  subst hby
  have hsmall:n+m≤9223372036854775807:=by simp only [maxLen] at h63;omega
  have hlen:(xs ++ news).length=(n+m) * i.size:=by rw [List.length_append,hown.1,hl,Nat.add_mul]
  by_cases hroom:n+m≤cap
  ·have hfit:n * i.size+news.length≤cur.size:=by
    rw [hl,← Nat.add_mul]
    exact Nat.le_trans (Nat.mul_le_mul_right _ hroom) hcs
   have hr:=run_append_room (P:=P) w t ty e i ht hi g n cap cur hg a m c news hl hnews h1 hroom hfit
   refine ⟨_,_,hr,⟨hlen,.inr ⟨g,cap,_,rfl,hbg,setRow_heap w g cur _ e _ hg,hroom,hcm,?_,?_⟩⟩,⟨rfl,rfl,rfl,by simp,fun k _ hk=>setRow_other w g k _ (fun e=>hk (by simp [Value.ownBlock,e]))⟩,Or.inl rfl⟩
   ·simp only [List.size_toArray,List.length_append,List.length_take,List.length_drop,Array.length_toList]
    omega
   ·rw [htake,← hlen]
    exact List.take_left
  ·have holds:∀ j u,xs[j]? = some u → w.cell? ((⟨g,0,none⟩:Addr).add j)=some u:=hown.cells (g:=g) rfl
   have hr:=run_append_grow (P:=P) w t ty e i z ht hi hz ⟨g,0,none⟩ n cap xs hown.1 holds a m c news hl hnews (by omega) (by omega) (growslice_fits (by omega) hbytes)
   have hge:=grownCap_ge w (n+m) cap e
   have hcm':grownCap w (n+m) cap e≤maxLen:=grownCap_le_maxLen w (n+m) cap e h63
   refine ⟨_,_,hr,⟨hlen,.inr ⟨w.heap.size,_,_,rfl,hbase,heap_alloc_new w.drew _,hge,hcm',?_,?_⟩⟩,⟨rfl,rfl,rfl,by simp,fun k hk _=>heap_alloc_old w.drew _ hk⟩,Or.inr rfl⟩
   ·simp only [Array.size_append,List.size_toArray,size_zeroCells,hzs,hown.1,hl,← Nat.add_mul]
    refine Nat.le_of_eq ?_
    congr 1
    omega
   ·simp only [Array.toList_append,List.append_assoc]
    rw [← List.append_assoc,← hlen]
    exact List.take_left
theorem src_ok (hL:Lay cx w tab L) {v:Value} {av:AV} {sz:Nat} {rows:List (List AV)} (h0:0<sz) (hv:RVx cx w tab L v av) (h:aSrc tab sz av=some rows):∃ A c,v=.slice A rows.length c ∧ (∀ row ∈ rows,row.length=sz) ∧
  ∃ news:List Value,news.length=rows.length * sz ∧ (∀ u ∈ news,u.oneCell'=true) ∧ (∀ (i j:Nat) (row:List AV) (av:AV),rows[i]? = some row → row[j]? = some av → ∃ x,news[i * sz+j]? = some x ∧ RT w (Sx cx w tab L) x av) ∧
   ((A=none ∧ rows.length=0) ∨ ∃ ad,A=some ad ∧ ∀ j u,news[j]? = some u → w.cell? (ad.add j)=some u):=by
 unfold aSrc at h
 split at h
 ·rename_i sz' rows'
  split at h
  ·rename_i e
   subst e
   cases h
   obtain ⟨A,cap,rfl,_,_,hrow,hA⟩:=hv.sl_inv.sl_inv
   refine ⟨A,cap,rfl,hrow,?_⟩
   by_cases hz:rows.length=0
   ·have:rows=[]:=List.eq_nil_of_length_eq_zero hz
    subst this
    refine ⟨[],by simp,by simp,by simp,?_⟩
    cases A with
    | none=>exact .inl ⟨rfl,rfl⟩
    | some ad=>exact .inr ⟨ad,rfl,by simp⟩
   ·obtain ⟨b,o,rfl,hb,U,hcell,hr,hone⟩:=hA (by omega)
    have key:∀ k,k<rows.length * sz' → ∃ row av,rows[k / sz']? = some row ∧ row[k % sz']? = some av:=fun k hk=>by
     have h1:k / sz'<rows.length:=Nat.div_lt_of_lt_mul (by rwa [Nat.mul_comm] at hk)
     have h2:k % sz'<(rows[k / sz']).length:=by rw [hrow _ (List.getElem_mem h1)];exact Nat.mod_lt _ h0
     exact ⟨_,_,List.getElem?_eq_getElem h1,List.getElem?_eq_getElem h2⟩
    refine ⟨(List.range (rows.length * sz')).map fun k=>U (k / sz') (k % sz'),by simp,fun u hu=>?_,fun i j row av h1 h2=>⟨U i j,?_,hr i j row av h1 h2⟩,.inr ⟨_,rfl,fun k u hu=>?_⟩⟩
    ·simp at hu
     obtain ⟨k,hk,rfl⟩:=hu
     obtain ⟨row,av,h1,h2⟩:=key k hk
     exact hone _ _ row av h1 h2
    ·have hj:j<sz':=by
      rw [← hrow row (List.mem_of_getElem? h1)]
      exact (List.getElem?_eq_some_iff.1 h2).1
     have hi:i<rows.length:=(List.getElem?_eq_some_iff.1 h1).1
     have hlt:i * sz'+j<rows.length * sz':=by
      have:=Nat.mul_le_mul_right sz' (show i+1≤rows.length from hi)
      rw [Nat.add_mul] at this
      omega
     have e1:(i * sz'+j) / sz'=i:=by rw [Nat.add_comm,Nat.add_mul_div_right _ _ h0,Nat.div_eq_of_lt hj];omega
     have e2:(i * sz'+j) % sz'=j:=by rw [Nat.add_comm,Nat.add_mul_mod_self_right,Nat.mod_eq_of_lt hj]
     rw [List.getElem?_map,List.getElem?_range hlt,Option.map_some,e1,e2]
    ·obtain ⟨hk,rfl⟩:=range_get hu
     obtain ⟨row,av,h1,h2⟩:=key k hk
     have:=hcell _ _ row av h1 h2
     rw [Nat.add_assoc,Nat.mul_comm,Nat.div_add_mod] at this
     rwa [Addr.add_lit]
  ·cases h
 ·rename_i id
  split at h
  ·rename_i e sz' rows' hid
   split at h
   ·rename_i e
    subst e
    cases h
    obtain ⟨hvL,A,cap,rfl,hA⟩:=osl_row hL hid hv
    obtain ⟨hrow,xs,hown,hone,hx⟩:=hL.objs id _ hid
    refine ⟨A,cap,rfl,hrow,xs,hown.1,hone,hx,?_⟩
    rw [← hvL] at hown
    rcases hown.2 with ⟨h1,h2⟩|⟨g,cap',cur,h1,_⟩
    ·injection h1 with h1
     exact .inl ⟨h1,h2⟩
    ·injection h1 with h1
     subst h1
     exact .inr ⟨_,rfl,hown.cells (g:=g) rfl⟩
   ·cases h
  ·cases h
 ·cases h
  obtain rfl:=hv.c_inv
  exact ⟨none,_,rfl,by simp,[],by simp,by simp,by simp,.inl ⟨rfl,rfl⟩⟩
 ·cases h
def dstIs (tab:ATab) (L:Nat → Value) (e sz:Nat) (rows:List (List AV)) (v:Value):Option Nat → Prop
 | some id=>tab.get id=some (.row e sz rows) ∧ v=L id
 | none=>v=.slice none 0 0
theorem dst_ok (hL:Lay cx w tab L) (hb:cx.w0.heap.size≤w.heap.size) {v:Value} {av:AV} {e sz:Nat} {rows:List (List AV)} {oid:Option Nat} (hv:RVx cx w tab L v av) (h:aDst tab e sz av=some (oid,rows)) :
  (∀ row ∈ rows,row.length=sz) ∧ (∃ xs,OwnsR w cx.w0.heap.size e sz v rows.length xs ∧ (∀ x ∈ xs,x.oneCell'=true) ∧ ∀ (i j:Nat) (row:List AV) (av:AV),rows[i]? = some row → row[j]? = some av → ∃ x,xs[i * sz+j]? = some x ∧ RT w (Sx cx w tab L) x av) ∧
  dstIs tab L e sz rows v oid:=by
 unfold aDst at h
 split at h
 ·rename_i id
  split at h
  ·rename_i e' sz' rows' hid
   split at h
   ·rename_i e
    obtain ⟨rfl,rfl⟩:=e
    cases h
    obtain ⟨hvL,_⟩:=osl_row hL hid hv
    obtain ⟨hrow,xs,hown,hone,hx⟩:=hL.objs id _ hid
    exact ⟨hrow,⟨xs,by rw [hvL];exact hown,hone,hx⟩,hid,hvL⟩
   ·cases h
  ·cases h
 ·cases h
  obtain rfl:=hv.c_inv
  exact ⟨by simp,⟨[],ownsR_nil ..,by simp,by simp⟩,rfl⟩
 ·cases h
def appTab (tab:ATab) (nx:Nat) (oid:Option Nat) (o:AObj):ATab:=
 match oid with
 | some id=>(nx,some o) :: (id,none) :: tab
 | none=>(nx,some o) :: tab
theorem appTab_get (tab:ATab) (nx:Nat) (oid:Option Nat) (o:AObj) (k:Nat):(appTab tab nx oid o).get k=if k=nx then some o else if oid=some k then none else tab.get k:=by
 unfold appTab
 cases oid with
 | none=>simp [ATab.get_cons]
 | some id=>
  simp only [ATab.get_cons,Option.some.injEq]
  split
  ·rfl
  ·by_cases h:k=id
   ·simp [h]
   ·simp [h,Ne.symm h]
theorem append_ok {t ty e sz by_:Nat} {v u:Value} {x y:AV} {oid:Option Nat} {rows rows2:List (List AV)} (h:Conc cx a w st L) (hv:RVx cx w st.tab L v x) (hu:RVx cx w st.tab L u y) (ht:tyRow P t=some (e,sz,by_))
  (hx:aDst st.tab e sz x=some (oid,rows)) (hy:aSrc st.tab sz y=some rows2) (h63:rows.length+rows2.length≤maxLen) (hby:(rows.length+rows2.length) * by_≤140737488355328) (dst:Option Nat) :
  ∃ v' w' L',(Builtin.append_ #[t,t] ty #[v,u]).run P w=.ok v' w' ∧ Conc cx (a.put dst v') w' ({ st with tab:=appTab st.tab st.next oid (.row e sz (rows ++ rows2)),next:=st.next+1 }.put dst (.osl st.next)) L' ∧
   w.grownBy w' v.ownBlock ∧ L'=updL L st.next v' ∧ (vblk v'=v.ownBlock ∨ vblk v'=some w.heap.size) ∧ (∀ g,v.ownBlock=some g → ∃ id,oid=some id ∧ vblk (L id)=some g):=by
 obtain ⟨i,z,hund,hi,hz,hs,hb,hzs,h0⟩:=tyRow_some ht
 have hbase:cx.w0.heap.size≤w.heap.size:=h.lay.below.size
 obtain ⟨hrow1,⟨xs,hown,hone,hxs⟩,hoid⟩:=dst_ok h.lay hbase hv hx
 obtain ⟨A,c,rfl,hrow2,news,hnl,hn1,hnr,hA⟩:=src_ok h.lay h0 hu hy
 have hrun:∃ v' w',(Builtin.append_ #[t,t] ty #[v,.slice A rows2.length c]).run P w=.ok v' w' ∧ OwnsR w' cx.w0.heap.size e sz v' (rows.length+rows2.length) (xs ++ news) ∧ w.grownBy w' v.ownBlock ∧ (v'.ownBlock=v.ownBlock ∨ v'.ownBlock=some w.heap.size):=by
  rcases hA with ⟨rfl,hz0⟩|⟨ad,rfl,hcell⟩
  ·rw [hz0] at hnl ⊢
   have:news=[]:=List.eq_nil_of_length_eq_zero (by simpa using hnl)
   subst this
   exact ⟨v,w,run_append_none _ hund hi hown,by simpa using hown,⟨rfl,rfl,rfl,Nat.le_refl _,fun _ _ _=>rfl⟩,.inl rfl⟩
  ·obtain ⟨v',w',h1,h2,h3,h5⟩:=run_append_R (P:=P) cx.w0.heap.size t ty e i z sz by_ hund hi hz hs hb hzs h0 v rows.length xs hown ad rows2.length c news hnl hcell hn1 h63 hby hbase
   exact ⟨v',w',h1,h2,h3,h5⟩
 obtain ⟨v',w',hrun,hown',hgrow,hblk⟩:=hrun
 have vb:∀ {x:Value} {n:Nat} {l:List Value} {w:World},OwnsR w cx.w0.heap.size e sz x n l → vblk x=x.ownBlock:=fun hh=>by
  rcases hh.2 with ⟨rfl,_⟩|⟨g,cap,cur,rfl,_⟩ <;> rfl
 have hvb:=vb hown
 have hvb':=vb hown'
 have hold_block:∀ g,v.ownBlock=some g → ∃ id,oid=some id ∧ st.tab.get id=some (.row e sz rows) ∧ vblk (L id)=some g:=fun g hg=>by
  cases oid with
  | none=>rw [show v=.slice none 0 0 from hoid] at hg;cases hg
  | some id=>exact ⟨id,rfl,hoid.1,by rw [← hoid.2,hvb];exact hg⟩
 have hy':=h.young
 have hget:∀ k,k<st.next → (appTab st.tab st.next oid (.row e sz (rows ++ rows2))).get k=if oid=some k then none else st.tab.get k:=fun k hk=>by
  rw [appTab_get,if_neg (by omega)]
 have hgetS:∀ k o,(appTab st.tab st.next oid (.row e sz (rows ++ rows2))).get k=some o → (k=st.next ∧ o=.row e sz (rows ++ rows2)) ∨ (k<st.next ∧ oid ≠ some k ∧ st.tab.get k=some o):=fun k o hk=>by
  rw [appTab_get] at hk
  split at hk
  ·rename_i e'
   cases hk
   exact .inl ⟨e',rfl⟩
  ·split at hk
   ·cases hk
   ·rename_i h1
    exact .inr ⟨(hy' k o hk).1,h1,hk⟩
 have hLn:∀ k,k<st.next → updL L st.next v' k=L k:=fun k hk=>by unfold updL;rw [if_neg (by omega)]
 have hLx:updL L st.next v' st.next=v':=by simp [updL]
 -- the blocks of other objects
 have hother:∀ k o g,k<st.next → oid ≠ some k → st.tab.get k=some o → vblk (L k)=some g → some g ≠ v.ownBlock ∧ some g ≠ v'.ownBlock:=fun k o g hk hne ho hg=>by
  have h1:some g ≠ v.ownBlock:=fun e'=>by
   obtain ⟨id,hid,hti,hbi⟩:=hold_block g e'.symm
   exact hne (by rw [hid,h.lay.sep id k _ o g hti ho hbi hg])
  refine ⟨h1,fun e'=>?_⟩
  rcases hblk with hb1|hb1
  ·exact h1 (by rw [e',hb1])
  ·have:=((h.lay.objs k o ho).ge hg).2
   rw [hb1] at e'
   cases e'
   omega
 have hext:Ext cx w st.tab L st.next w' (appTab st.tab st.next oid (.row e sz (rows ++ rows2))) (updL L st.next v'):=by
  refine ⟨fun p hp=>hgrow.block p hp.1 fun e'=>?_,fun b hS=>⟨Nat.lt_of_lt_of_le hS.1 hgrow.size,hS.2.1,fun k o hk hg=>?_⟩,fun k p hk hK=>?_⟩
  ·obtain ⟨id,_,hti,hbi⟩:=hold_block p e'.symm
   exact hp.2.2 id _ hti hbi
  ·rcases hgetS k o hk with ⟨rfl,_⟩ | ⟨hlt,_,ho⟩
   ·rw [hLx,hvb'] at hg
    rcases hblk with hb1|hb1
    ·rw [hb1] at hg
     obtain ⟨id,_,hti,hbi⟩:=hold_block b hg
     exact hS.2.2 id _ hti hbi
    ·rw [hb1] at hg
     cases hg
     exact Nat.lt_irrefl _ hS.1
   ·rw [hLn k hlt] at hg
    exact hS.2.2 k o ho hg
  ·unfold Kx at *
   rw [hget k hk,hLn k hk] at hK
   split at hK
   ·cases hK
   ·exact hK
 have hbel:BelowX cx.X cx.w0.heap.size cx.w0 w':=h.lay.below.grown hgrow hbase fun k hk=>(hown.lt k hk).1
 refine ⟨v',w',updL L st.next v',hrun,?_,hgrow,rfl,by rw [hvb'];exact hblk,fun g hg=>by obtain ⟨id,h1,_,h2⟩:=hold_block g hg;exact ⟨id,h1,h2⟩⟩
 have hex:∀ id2 o2 g,(appTab st.tab st.next oid (.row e sz (rows ++ rows2))).get id2=some o2 → vblk (updL L st.next v' id2)=some g → g<w.heap.size → ∃ id3 o3,st.tab.get id3=some o3 ∧ vblk (L id3)=some g:=fun k ok g hk hg' hlt=>by
  rcases hgetS k ok hk with ⟨rfl,_⟩|⟨hlt',_,ho⟩
  ·rw [hLx,hvb'] at hg'
   rcases hblk with hb1|hb1
   ·rw [hb1] at hg'
    obtain ⟨id,_,hti,hbi⟩:=hold_block g hg'
    exact ⟨id,_,hti,hbi⟩
   ·rw [hb1] at hg'
    cases hg'
    omega
  ·rw [hLn k hlt'] at hg'
   exact ⟨k,ok,ho,hg'⟩
 refine conc_put h ⟨hbel,fun k o hk=>?_,fun k k' o o' g h1 h2 h3 h4=>?_,ex_of h.lay hgrow.size hex⟩ hext (Nat.le_succ _) (fun k o hk=>?_) ?_ (Nat.lt_succ_self _) dst
 ·rcases hgetS k o hk with ⟨rfl,rfl⟩ | ⟨hlt,hne,ho⟩
  ·rw [hLx]
   refine ⟨fun row hr=>?_,xs ++ news,by rw [List.length_append];exact hown',fun x hx=>?_,fun i j row av h1 h2=>?_⟩
   ·rcases List.mem_append.1 hr with hr | hr
    ·exact hrow1 row hr
    ·exact hrow2 row hr
   ·rcases List.mem_append.1 hx with hx | hx
    ·exact hone x hx
    ·exact hn1 x hx
   ·by_cases hlt:i<rows.length
    ·rw [List.getElem?_append_left hlt] at h1
     obtain ⟨x,hx,hr⟩:=hxs i j row av h1 h2
     exact ⟨x,by rw [List.getElem?_append_left ((List.getElem?_eq_some_iff.1 hx).1)];exact hx,hext.rt hr⟩
    ·rw [List.getElem?_append_right (by omega)] at h1
     obtain ⟨x,hx,hr⟩:=hnr _ j row av h1 h2
     refine ⟨x,?_,hext.rt hr⟩
     have e1:rows.length * sz≤i * sz:=Nat.mul_le_mul_right _ (by omega)
     rw [List.getElem?_append_right (by rw [hown.1];omega),hown.1]
     rw [Nat.sub_mul] at hx
     rwa [show i * sz+j - rows.length * sz=i * sz - rows.length * sz+j by omega]
  ·rw [hLn k hlt]
   have hob:=h.lay.objs k o ho
   exact hext.obj hob (hy' k o ho).2 fun g hg=>hgrow.block g (hob.ge hg).2 (hother k o g hlt hne ho hg).1
 ·rcases hgetS k o h1 with ⟨rfl,rfl⟩ | ⟨hlt,hne,ho⟩ <;> rcases hgetS k' o' h2 with ⟨rfl,rfl⟩ | ⟨hlt',hne',ho'⟩
  ·rfl
  ·rw [hLx,hvb'] at h3
   rw [hLn k' hlt'] at h4
   exact absurd h3.symm (hother k' o' g hlt' hne' ho' h4).2
  ·rw [hLx,hvb'] at h4
   rw [hLn k hlt] at h3
   exact absurd h4.symm (hother k o g hlt hne ho h3).2
  ·rw [hLn k hlt] at h3
   rw [hLn k' hlt'] at h4
   exact h.lay.sep k k' o o' g ho ho' h3 h4
 ·rcases hgetS k o hk with ⟨rfl,rfl⟩ | ⟨hlt,_,ho⟩
  ·exact ⟨Nat.lt_succ_self _,trivial⟩
  ·refine ⟨by omega,?_⟩
   have:=(hy' k o ho).2
   cases o with
   | box t cells=>exact ltL_iff.2 fun x hx=>AV.lt_mono (Nat.le_succ _) (ltL_iff.1 this x hx)
   | row=>trivial
   | map=>trivial
   | nest e sz rows=>exact fun row hr=>ltL_iff.2 fun x hx=>AV.lt_mono (Nat.le_succ _) (ltL_iff.1 (this row hr) x hx)
   | ghost vs env=>exact envLt_mono (Nat.le_succ _) this
 ·refine .osl _ _ fun sz' v'' hk=>?_
  unfold Kx at hk
  rw [appTab_get,if_pos rfl] at hk
  simp at hk
  rw [hLx] at hk
  exact hk.2
theorem srcN_ok (hL:Lay cx w tab L) {v:Value} {av:AV} {sz:Nat} {rows:List (List AV)} (h0:0<sz) (hv:RVx cx w tab L v av) (h:aSrcN tab sz av=some rows):∃ A c,v=.slice A rows.length c ∧ (∀ row ∈ rows,row.length=sz) ∧
  ∃ news:List Value,news.length=rows.length * sz ∧ (∀ u ∈ news,u.oneCell'=true) ∧ (∀ (i j:Nat) (row:List AV) (av:AV),rows[i]? = some row → row[j]? = some av → ∃ x,news[i * sz+j]? = some x ∧ RVx cx w tab L x av) ∧
   ((A=none ∧ rows.length=0) ∨ ∃ ad,A=some ad ∧ ∀ j u,news[j]? = some u → w.cell? (ad.add j)=some u):=by
 unfold aSrcN at h
 split at h
 ·rename_i id
  split at h
  ·rename_i e sz' rows' hid
   split at h
   ·rename_i e
    subst e
    cases h
    obtain ⟨hvL,A,cap,rfl,hA⟩:=osl_nest hL hid hv
    obtain ⟨hrow,xs,hown,hone,hx⟩:=hL.objs id _ hid
    refine ⟨A,cap,rfl,hrow,xs,hown.1,hone,hx,?_⟩
    rw [← hvL] at hown
    rcases hown.2 with ⟨h1,h2⟩|⟨g,cap',cur,h1,_⟩
    ·injection h1 with h1
     exact .inl ⟨h1,h2⟩
    ·injection h1 with h1
     subst h1
     exact .inr ⟨_,rfl,hown.cells (g:=g) rfl⟩
   ·cases h
  ·cases h
 ·cases h
def dstNIs (tab:ATab) (L:Nat → Value) (e sz:Nat) (rows:List (List AV)) (v:Value):Option Nat → Prop
 | some id=>tab.get id=some (.nest e sz rows) ∧ v=L id
 | none=>v=.slice none 0 0
theorem dstN_ok (hL:Lay cx w tab L) (hb:cx.w0.heap.size≤w.heap.size) {v:Value} {av:AV} {e sz:Nat} {rows:List (List AV)} {oid:Option Nat} (hv:RVx cx w tab L v av) (h:aDstN tab e sz av=some (oid,rows)) :
  (∀ row ∈ rows,row.length=sz) ∧ (∃ xs,OwnsR w cx.w0.heap.size e sz v rows.length xs ∧ (∀ x ∈ xs,x.oneCell'=true) ∧ ∀ (i j:Nat) (row:List AV) (av:AV),rows[i]? = some row → row[j]? = some av → ∃ x,xs[i * sz+j]? = some x ∧ RVx cx w tab L x av) ∧
  dstNIs tab L e sz rows v oid:=by
 unfold aDstN at h
 split at h
 ·rename_i id
  split at h
  ·rename_i e' sz' rows' hid
   split at h
   ·rename_i e
    obtain ⟨rfl,rfl⟩:=e
    cases h
    obtain ⟨hvL,_⟩:=osl_nest hL hid hv
    obtain ⟨hrow,xs,hown,hone,hx⟩:=hL.objs id _ hid
    exact ⟨hrow,⟨xs,by rw [hvL];exact hown,hone,hx⟩,hid,hvL⟩
   ·cases h
  ·cases h
 ·cases h
  obtain rfl:=hv.c_inv
  exact ⟨by simp,⟨[],ownsR_nil ..,by simp,by simp⟩,rfl⟩
 ·cases h
theorem srcN_lt (hy:∀ id o,tab.get id=some o → o.lt nx) {av:AV} {sz:Nat} {rows:List (List AV)} (h:aSrcN tab sz av=some rows):∀ row ∈ rows,AV.ltL nx row:=by
 unfold aSrcN at h
 split at h
 ·split at h
  ·rename_i hid
   split at h
   ·cases h
    exact hy _ _ hid
   ·cases h
  ·cases h
 ·cases h
theorem dstN_lt (hy:∀ id o,tab.get id=some o → o.lt nx) {av:AV} {e sz:Nat} {oid:Option Nat} {rows:List (List AV)} (h:aDstN tab e sz av=some (oid,rows)):∀ row ∈ rows,AV.ltL nx row:=by
 unfold aDstN at h
 split at h
 ·split at h
  ·rename_i hid
   split at h
   ·cases h
    exact hy _ _ hid
   ·cases h
  ·cases h
 ·cases h
  intro row hr
  cases hr
 ·cases h
theorem appendN_ok {t ty e sz by_:Nat} {v u:Value} {x y:AV} {oid:Option Nat} {rows rows2:List (List AV)} (h:Conc cx a w st L) (hv:RVx cx w st.tab L v x) (hu:RVx cx w st.tab L u y) (ht:tyRow P t=some (e,sz,by_))
  (hx:aDstN st.tab e sz x=some (oid,rows)) (hy:aSrcN st.tab sz y=some rows2) (h63:rows.length+rows2.length≤maxLen) (hby:(rows.length+rows2.length) * by_≤140737488355328) (dst:Option Nat) :
  ∃ v' w' L',(Builtin.append_ #[t,t] ty #[v,u]).run P w=.ok v' w' ∧ Conc cx (a.put dst v') w' ({ st with tab:=appTab st.tab st.next oid (.nest e sz (rows ++ rows2)),next:=st.next+1 }.put dst (.osl st.next)) L' ∧
   w.grownBy w' v.ownBlock ∧ L'=updL L st.next v' ∧ (vblk v'=v.ownBlock ∨ vblk v'=some w.heap.size) ∧ (∀ g,v.ownBlock=some g → ∃ id,oid=some id ∧ vblk (L id)=some g):=by
 obtain ⟨i,z,hund,hi,hz,hs,hb,hzs,h0⟩:=tyRow_some ht
 have hbase:cx.w0.heap.size≤w.heap.size:=h.lay.below.size
 obtain ⟨hrow1,⟨xs,hown,hone,hxs⟩,hoid⟩:=dstN_ok h.lay hbase hv hx
 obtain ⟨A,c,rfl,hrow2,news,hnl,hn1,hnr,hA⟩:=srcN_ok h.lay h0 hu hy
 have hl1:=dstN_lt (fun id o ho=>(h.young id o ho).2) hx
 have hl2:=srcN_lt (fun id o ho=>(h.young id o ho).2) hy
 have hrun:∃ v' w',(Builtin.append_ #[t,t] ty #[v,.slice A rows2.length c]).run P w=.ok v' w' ∧ OwnsR w' cx.w0.heap.size e sz v' (rows.length+rows2.length) (xs ++ news) ∧ w.grownBy w' v.ownBlock ∧ (v'.ownBlock=v.ownBlock ∨ v'.ownBlock=some w.heap.size):=by
  rcases hA with ⟨rfl,hz0⟩|⟨ad,rfl,hcell⟩
  ·rw [hz0] at hnl ⊢
   have:news=[]:=List.eq_nil_of_length_eq_zero (by simpa using hnl)
   subst this
   exact ⟨v,w,run_append_none _ hund hi hown,by simpa using hown,⟨rfl,rfl,rfl,Nat.le_refl _,fun _ _ _=>rfl⟩,.inl rfl⟩
  ·obtain ⟨v',w',h1,h2,h3,h5⟩:=run_append_R (P:=P) cx.w0.heap.size t ty e i z sz by_ hund hi hz hs hb hzs h0 v rows.length xs hown ad rows2.length c news hnl hcell hn1 h63 hby hbase
   exact ⟨v',w',h1,h2,h3,h5⟩
 obtain ⟨v',w',hrun,hown',hgrow,hblk⟩:=hrun
 have vb:∀ {x:Value} {n:Nat} {l:List Value} {w:World},OwnsR w cx.w0.heap.size e sz x n l → vblk x=x.ownBlock:=fun hh=>by
  rcases hh.2 with ⟨rfl,_⟩|⟨g,cap,cur,rfl,_⟩ <;> rfl
 have hvb:=vb hown
 have hvb':=vb hown'
 have hold_block:∀ g,v.ownBlock=some g → ∃ id,oid=some id ∧ st.tab.get id=some (.nest e sz rows) ∧ vblk (L id)=some g:=fun g hg=>by
  cases oid with
  | none=>rw [show v=.slice none 0 0 from hoid] at hg;cases hg
  | some id=>exact ⟨id,rfl,hoid.1,by rw [← hoid.2,hvb];exact hg⟩
 have hy':=h.young
 have hget:∀ k,k<st.next → (appTab st.tab st.next oid (.nest e sz (rows ++ rows2))).get k=if oid=some k then none else st.tab.get k:=fun k hk=>by
  rw [appTab_get,if_neg (by omega)]
 have hgetS:∀ k o,(appTab st.tab st.next oid (.nest e sz (rows ++ rows2))).get k=some o → (k=st.next ∧ o=.nest e sz (rows ++ rows2)) ∨ (k<st.next ∧ oid ≠ some k ∧ st.tab.get k=some o):=fun k o hk=>by
  rw [appTab_get] at hk
  split at hk
  ·rename_i e'
   cases hk
   exact .inl ⟨e',rfl⟩
  ·split at hk
   ·cases hk
   ·rename_i h1
    exact .inr ⟨(hy' k o hk).1,h1,hk⟩
 have hLn:∀ k,k<st.next → updL L st.next v' k=L k:=fun k hk=>by unfold updL;rw [if_neg (by omega)]
 have hLx:updL L st.next v' st.next=v':=by simp [updL]
 -- the blocks of other objects
 have hother:∀ k o g,k<st.next → oid ≠ some k → st.tab.get k=some o → vblk (L k)=some g → some g ≠ v.ownBlock ∧ some g ≠ v'.ownBlock:=fun k o g hk hne ho hg=>by
  have h1:some g ≠ v.ownBlock:=fun e'=>by
   obtain ⟨id,hid,hti,hbi⟩:=hold_block g e'.symm
   exact hne (by rw [hid,h.lay.sep id k _ o g hti ho hbi hg])
  refine ⟨h1,fun e'=>?_⟩
  rcases hblk with hb1|hb1
  ·exact h1 (by rw [e',hb1])
  ·have:=((h.lay.objs k o ho).ge hg).2
   rw [hb1] at e'
   cases e'
   omega
 have hext:Ext cx w st.tab L st.next w' (appTab st.tab st.next oid (.nest e sz (rows ++ rows2))) (updL L st.next v'):=by
  refine ⟨fun p hp=>hgrow.block p hp.1 fun e'=>?_,fun b hS=>⟨Nat.lt_of_lt_of_le hS.1 hgrow.size,hS.2.1,fun k o hk hg=>?_⟩,fun k p hk hK=>?_⟩
  ·obtain ⟨id,_,hti,hbi⟩:=hold_block p e'.symm
   exact hp.2.2 id _ hti hbi
  ·rcases hgetS k o hk with ⟨rfl,_⟩ | ⟨hlt,_,ho⟩
   ·rw [hLx,hvb'] at hg
    rcases hblk with hb1|hb1
    ·rw [hb1] at hg
     obtain ⟨id,_,hti,hbi⟩:=hold_block b hg
     exact hS.2.2 id _ hti hbi
    ·rw [hb1] at hg
     cases hg
     exact Nat.lt_irrefl _ hS.1
   ·rw [hLn k hlt] at hg
    exact hS.2.2 k o ho hg
  ·unfold Kx at *
   rw [hget k hk,hLn k hk] at hK
   split at hK
   ·cases hK
   ·exact hK
 have hbel:BelowX cx.X cx.w0.heap.size cx.w0 w':=h.lay.below.grown hgrow hbase fun k hk=>(hown.lt k hk).1
 refine ⟨v',w',updL L st.next v',hrun,?_,hgrow,rfl,by rw [hvb'];exact hblk,fun g hg=>by obtain ⟨id,h1,_,h2⟩:=hold_block g hg;exact ⟨id,h1,h2⟩⟩
 have hex:∀ id2 o2 g,(appTab st.tab st.next oid (.nest e sz (rows ++ rows2))).get id2=some o2 → vblk (updL L st.next v' id2)=some g → g<w.heap.size → ∃ id3 o3,st.tab.get id3=some o3 ∧ vblk (L id3)=some g:=fun k ok g hk hg' hlt=>by
  rcases hgetS k ok hk with ⟨rfl,_⟩|⟨hlt',_,ho⟩
  ·rw [hLx,hvb'] at hg'
   rcases hblk with hb1|hb1
   ·rw [hb1] at hg'
    obtain ⟨id,_,hti,hbi⟩:=hold_block g hg'
    exact ⟨id,_,hti,hbi⟩
   ·rw [hb1] at hg'
    cases hg'
    omega
  ·rw [hLn k hlt'] at hg'
   exact ⟨k,ok,ho,hg'⟩
 refine conc_put h ⟨hbel,fun k o hk=>?_,fun k k' o o' g h1 h2 h3 h4=>?_,ex_of h.lay hgrow.size hex⟩ hext (Nat.le_succ _) (fun k o hk=>?_) ?_ (Nat.lt_succ_self _) dst
 ·rcases hgetS k o hk with ⟨rfl,rfl⟩ | ⟨hlt,hne,ho⟩
  ·rw [hLx]
   refine ⟨fun row hr=>?_,xs ++ news,by rw [List.length_append];exact hown',fun x hx=>?_,fun i j row av h1 h2=>?_⟩
   ·rcases List.mem_append.1 hr with hr | hr
    ·exact hrow1 row hr
    ·exact hrow2 row hr
   ·rcases List.mem_append.1 hx with hx | hx
    ·exact hone x hx
    ·exact hn1 x hx
   ·by_cases hlt:i<rows.length
    ·rw [List.getElem?_append_left hlt] at h1
     obtain ⟨x,hx,hr⟩:=hxs i j row av h1 h2
     exact ⟨x,by rw [List.getElem?_append_left ((List.getElem?_eq_some_iff.1 hx).1)];exact hx,hext.rv hr (ltL_iff.1 (hl1 row (List.mem_of_getElem? h1)) _ (List.mem_of_getElem? h2))⟩
    ·rw [List.getElem?_append_right (by omega)] at h1
     obtain ⟨x,hx,hr⟩:=hnr _ j row av h1 h2
     refine ⟨x,?_,hext.rv hr (ltL_iff.1 (hl2 row (List.mem_of_getElem? h1)) _ (List.mem_of_getElem? h2))⟩
     have e1:rows.length * sz≤i * sz:=Nat.mul_le_mul_right _ (by omega)
     rw [List.getElem?_append_right (by rw [hown.1];omega),hown.1]
     rw [Nat.sub_mul] at hx
     rwa [show i * sz+j - rows.length * sz=i * sz - rows.length * sz+j by omega]
  ·rw [hLn k hlt]
   have hob:=h.lay.objs k o ho
   exact hext.obj hob (hy' k o ho).2 fun g hg=>hgrow.block g (hob.ge hg).2 (hother k o g hlt hne ho hg).1
 ·rcases hgetS k o h1 with ⟨rfl,rfl⟩ | ⟨hlt,hne,ho⟩ <;> rcases hgetS k' o' h2 with ⟨rfl,rfl⟩ | ⟨hlt',hne',ho'⟩
  ·rfl
  ·rw [hLx,hvb'] at h3
   rw [hLn k' hlt'] at h4
   exact absurd h3.symm (hother k' o' g hlt' hne' ho' h4).2
  ·rw [hLx,hvb'] at h4
   rw [hLn k hlt] at h3
   exact absurd h4.symm (hother k o g hlt hne ho h3).2
  ·rw [hLn k hlt] at h3
   rw [hLn k' hlt'] at h4
   exact h.lay.sep k k' o o' g ho ho' h3 h4
 ·rcases hgetS k o hk with ⟨rfl,rfl⟩ | ⟨hlt,_,ho⟩
  ·refine ⟨Nat.lt_succ_self _,fun row hr=>ltL_iff.2 fun x hx=>AV.lt_mono (Nat.le_succ _) ?_⟩
   rcases List.mem_append.1 hr with hr|hr
   ·exact ltL_iff.1 (hl1 row hr) x hx
   ·exact ltL_iff.1 (hl2 row hr) x hx
  ·refine ⟨by omega,?_⟩
   have:=(hy' k o ho).2
   cases o with
   | box t cells=>exact ltL_iff.2 fun x hx=>AV.lt_mono (Nat.le_succ _) (ltL_iff.1 this x hx)
   | row=>trivial
   | map=>trivial
   | nest e sz rows=>exact fun row hr=>ltL_iff.2 fun x hx=>AV.lt_mono (Nat.le_succ _) (ltL_iff.1 (this row hr) x hx)
   | ghost vs env=>exact envLt_mono (Nat.le_succ _) this
 ·refine .osl _ _ fun sz' v'' hk=>?_
  unfold Kx at hk
  rw [appTab_get,if_pos rfl] at hk
  simp at hk
  rw [hLx] at hk
  exact hk.2
theorem reslice_ok {id e sz n:Nat} {rows:List (List AV)} {v':Value} (h:Conc cx a w st L) (hid:st.tab.get id=some (.row e sz rows)) (hn:n≤rows.length)
  (hv':(L id=.slice none 0 0 ∧ v'=.slice none 0 0) ∨ ∃ g cap cap',L id=.slice (some ⟨g,0,none⟩) rows.length cap ∧ v'=.slice (some ⟨g,0,none⟩) n cap' ∧ n≤cap' ∧ cap'≤cap) (dst:Option Nat) :
  Conc cx (a.put dst v') w ({ st with tab:=appTab st.tab st.next (some id) (.row e sz (rows.take n)),next:=st.next+1 }.put dst (.osl st.next)) (updL L st.next v'):=by
 have hvb:vblk v'=vblk (L id):=by
  rcases hv' with ⟨h1,rfl⟩|⟨g,cap,cap',h1,rfl,_⟩ <;> rw [h1] <;> rfl
 have hy':=h.young
 have hget:∀ k,k<st.next → (appTab st.tab st.next (some id) (.row e sz (rows.take n))).get k=if some id=some k then none else st.tab.get k:=fun k hk=>by
  rw [appTab_get,if_neg (by omega)]
 have hgetS:∀ k o,(appTab st.tab st.next (some id) (.row e sz (rows.take n))).get k=some o → (k=st.next ∧ o=.row e sz (rows.take n)) ∨ (k<st.next ∧ id ≠ k ∧ st.tab.get k=some o):=fun k o hk=>by
  rw [appTab_get] at hk
  split at hk
  ·rename_i e'
   cases hk
   exact .inl ⟨e',rfl⟩
  ·split at hk
   ·cases hk
   ·rename_i h1
    exact .inr ⟨(hy' k o hk).1,fun e'=>h1 (by rw [e']),hk⟩
 have hLn:∀ k,k<st.next → updL L st.next v' k=L k:=fun k hk=>by unfold updL;rw [if_neg (by omega)]
 have hLx:updL L st.next v' st.next=v':=by simp [updL]
 have hext:Ext cx w st.tab L st.next w (appTab st.tab st.next (some id) (.row e sz (rows.take n))) (updL L st.next v'):=by
  refine ⟨fun p hp=>rfl,fun b hS=>⟨hS.1,hS.2.1,fun k o hk hg=>?_⟩,fun k p hk hK=>?_⟩
  ·rcases hgetS k o hk with ⟨rfl,_⟩ | ⟨hlt,_,ho⟩
   ·rw [hLx,hvb] at hg
    exact hS.2.2 id _ hid hg
   ·rw [hLn k hlt] at hg
    exact hS.2.2 k o ho hg
  ·unfold Kx at *
   rw [hget k hk,hLn k hk] at hK
   split at hK
   ·cases hK
   ·exact hK
 obtain ⟨hrow,xs,hown,hone,hx⟩:=h.lay.objs id _ hid
 have hmul:n * sz≤rows.length * sz:=Nat.mul_le_mul_right _ hn
 have hlen:(rows.take n).length=n:=by rw [List.length_take];omega
 have hex:∀ id2 o2 g,(appTab st.tab st.next (some id) (.row e sz (rows.take n))).get id2=some o2 → vblk (updL L st.next v' id2)=some g → g<w.heap.size → ∃ id3 o3,st.tab.get id3=some o3 ∧ vblk (L id3)=some g:=fun k ok g hk hg' hlt=>by
  rcases hgetS k ok hk with ⟨rfl,_⟩|⟨hlt',_,ho⟩
  ·rw [hLx,hvb] at hg'
   exact ⟨id,_,hid,hg'⟩
  ·rw [hLn k hlt'] at hg'
   exact ⟨k,ok,ho,hg'⟩
 refine conc_put h ⟨h.lay.below,fun k o hk=>?_,fun k k' o o' g h1 h2 h3 h4=>?_,ex_of h.lay (Nat.le_refl _) hex⟩ hext (Nat.le_succ _) (fun k o hk=>?_) ?_ (Nat.lt_succ_self _) dst
 ·rcases hgetS k o hk with ⟨rfl,rfl⟩ | ⟨hlt,hne,ho⟩
  ·rw [hLx]
   refine ⟨fun row hr=>hrow row (List.mem_of_mem_take hr),xs.take (n * sz),⟨?_,?_⟩,fun x hx'=>hone x (List.mem_of_mem_take hx'),fun i j row av h1 h2=>?_⟩
   ·rw [List.length_take,hown.1,hlen]
    omega
   ·rw [hlen]
    rcases hown.2 with ⟨h1,h0⟩|⟨g,cap,cur,h1,hb,hh,hc,hm,hcs,htake⟩
    ·rcases hv' with ⟨_,rfl⟩ | ⟨g',cap1,cap2,h2,rfl,_⟩
     ·exact .inl ⟨rfl,by omega⟩
     ·rw [h1] at h2
      cases h2
    ·rcases hv' with ⟨h2,_⟩ | ⟨g',cap1,cap2,h2,rfl,h3,h4⟩
     ·rw [h1] at h2
      cases h2
     ·rw [h1] at h2
      cases h2
      refine .inr ⟨g,cap2,cur,rfl,hb,hh,h3,by omega,Nat.le_trans (Nat.mul_le_mul_right _ h4) hcs,?_⟩
      rw [← htake,List.take_take,Nat.min_eq_left hmul]
   ·rw [List.getElem?_take] at h1
    split at h1
    ·rename_i hi
     obtain ⟨x,hx1,hx2⟩:=hx i j row av h1 h2
     refine ⟨x,?_,hext.rt hx2⟩
     have hj:j<sz:=by rw [← hrow row (List.mem_of_getElem? h1)];exact (List.getElem?_eq_some_iff.1 h2).1
     have:(i+1) * sz≤n * sz:=Nat.mul_le_mul_right _ hi
     rw [Nat.add_mul] at this
     rw [List.getElem?_take,if_pos (by omega)]
     exact hx1
    ·cases h1
  ·rw [hLn k hlt]
   exact hext.obj (h.lay.objs k o ho) (hy' k o ho).2 fun g hg=>rfl
 ·rcases hgetS k o h1 with ⟨rfl,_⟩ | ⟨hlt,hne,ho⟩ <;> rcases hgetS k' o' h2 with ⟨rfl,_⟩ | ⟨hlt',hne',ho'⟩
  ·rfl
  ·rw [hLx,hvb] at h3
   rw [hLn k' hlt'] at h4
   exact absurd (h.lay.sep id k' _ o' g hid ho' h3 h4) hne'
  ·rw [hLx,hvb] at h4
   rw [hLn k hlt] at h3
   exact absurd (h.lay.sep id k _ o g hid ho h4 h3) hne
  ·rw [hLn k hlt] at h3
   rw [hLn k' hlt'] at h4
   exact h.lay.sep k k' o o' g ho ho' h3 h4
 ·rcases hgetS k o hk with ⟨rfl,rfl⟩ | ⟨hlt,_,ho⟩
  ·exact ⟨Nat.lt_succ_self _,trivial⟩
  ·refine ⟨by omega,?_⟩
   have:=(hy' k o ho).2
   cases o with
   | box t cells=>exact ltL_iff.2 fun x hx=>AV.lt_mono (Nat.le_succ _) (ltL_iff.1 this x hx)
   | row=>trivial
   | map=>trivial
   | nest e sz rows=>exact fun row hr=>ltL_iff.2 fun x hx=>AV.lt_mono (Nat.le_succ _) (ltL_iff.1 (this row hr) x hx)
   | ghost vs env=>exact envLt_mono (Nat.le_succ _) this
 ·refine .osl _ _ fun sz' v'' hk=>?_
  unfold Kx at hk
  rw [appTab_get,if_pos rfl] at hk
  simp at hk
  rw [hLx] at hk
  exact hk.2
end
end
section
open Go.RowKit
theorem foldl_set_get (off:Nat):∀ (l:List Value) (n:Nat) (cells:Array Value),off+n+l.length≤cells.size → ∀ k,((l.zipIdx n).foldl (fun cs (p:Value × Nat)=>cs.setIfInBounds (off+p.2) p.1) cells)[k]? = if off+n≤k ∧ k<off+n+l.length then l[k - (off+n)]? else cells[k]?
 | [],n,cells,_,k=>by simp;omega
 | v :: l,n,cells,h,k=>by
  simp only [List.zipIdx_cons,List.foldl_cons,List.length_cons] at h ⊢
  rw [foldl_set_get off l (n+1) _ (by simp;omega)]
  by_cases h1:off+n=k
  ·subst h1
   rw [if_neg (by omega),if_pos (by omega),Array.getElem?_setIfInBounds_self_of_lt (by omega)]
   simp
  ·by_cases h2:off+(n+1)≤k ∧ k<off+(n+1)+l.length
   ·rw [if_pos h2,if_pos (by omega)]
    rw [show k - (off+n)=(k - (off+(n+1)))+1 by omega,List.getElem?_cons_succ]
   ·rw [if_neg h2,if_neg (by omega),Array.getElem?_setIfInBounds_ne h1]
theorem fill_one (off:Nat) (v:Array Value) (cells:Array Value) (h:off+v.size≤cells.size):(v.zipIdx.foldl (fun cs (p:Value × Nat)=>cs.setIfInBounds (off+p.2) p.1) cells)=(cells.toList.take off ++ v.toList ++ cells.toList.drop (off+v.size)).toArray:=by
 have e:v.zipIdx.foldl (fun cs (p:Value × Nat)=>cs.setIfInBounds (off+p.2) p.1) cells=(v.toList.zipIdx 0).foldl (fun cs (p:Value × Nat)=>cs.setIfInBounds (off+p.2) p.1) cells:=by
  rw [← Array.foldl_toList]
  congr 1
  simp
 rw [e]
 apply Array.ext_getElem?
 intro k
 rw [foldl_set_get off v.toList 0 cells (by simpa using h) k]
 have:=splice_get cells.toList off v.toList (by simpa using h) k
 simp only [Array.length_toList] at this
 simp only [List.getElem?_toArray,this,Array.length_toList,Nat.add_zero]
 simp
theorem fill_all (sz:Nat):∀ (parts:List (Nat × Value)) (k:Nat) (cells:Array Value),parts.map (·.1)=List.range' k parts.length → (∀ p ∈ parts,p.2.cells.size=sz) → cells.size=(k+parts.length) * sz →
  ∃ c:Array Value,Instr.fill (fun i=>some (i * sz,sz)) cells parts=some c ∧ c.toList=cells.toList.take (k * sz) ++ parts.flatMap (·.2.cells.toList)
 | [],k,cells,_,_,hs=>⟨cells,rfl,by simp at hs;simp [List.take_of_length_le,hs]⟩
 | (i,v) :: rest,k,cells,hi,hp,hs=>by
  simp only [List.map_cons,List.length_cons,List.range'_succ,List.cons.injEq] at hi hs
  obtain ⟨rfl,hi⟩:=hi
  have hv:=hp (i,v) (by simp)
  simp only at hv
  have hmul:(i+(rest.length+1)) * sz=i * sz+sz+rest.length * sz:=by rw [Nat.add_mul,Nat.add_mul];omega
  have hfit:i * sz+v.cells.size≤cells.size:=by rw [hs,hmul,hv];omega
  have hone:=fill_one (i * sz) v.cells cells hfit
  obtain ⟨c,h1,h2⟩:=fill_all sz rest (i+1) (cells.toList.take (i * sz) ++ v.cells.toList ++ cells.toList.drop (i * sz+v.cells.size)).toArray hi (fun p hp'=>hp p (by simp [hp'])) (by
   simp [hs,hv,hmul,Nat.add_mul] <;> omega)
  refine ⟨c,?_,?_⟩
  ·unfold Instr.fill
   simp only
   rw [if_neg (by simp [hv];omega)]
   rw [hone]
   exact h1
  ·rw [h2]
   simp only [List.flatMap_cons]
   rw [← List.append_assoc]
   congr 1
   have hl:((cells.toList.take (i * sz)).length)=i * sz:=by
    rw [List.length_take]
    simp
    omega
   rw [List.take_append_of_le_length (by simp [hl,hv,Nat.add_mul])]
   rw [List.take_of_length_le (by simp [hl,hv,Nat.add_mul])]
theorem flat_get {α β:Type} (f:α → List β) (sz:Nat):∀ (l:List α),(∀ a ∈ l,(f a).length=sz) → ∀ i j (h:i<l.length),j<sz → (l.flatMap f)[i * sz+j]? = (f l[i])[j]?
 | [],_,i,_,h,_=>absurd h (by simp)
 | a :: l,hs,i,j,h,hj=>by
  rw [List.flatMap_cons]
  have ha:=hs a (by simp)
  cases i with
  | zero=>rw [Nat.zero_mul,Nat.zero_add,List.getElem?_append_left (by omega)];rfl
  | succ i=>
   rw [List.getElem?_append_right (by rw [ha,Nat.add_mul];omega),ha,show (i+1) * sz+j - sz=i * sz+j by rw [Nat.add_mul];omega]
   exact flat_get f sz l (fun a h=>hs a (by simp [h])) i j (by simpa using h) hj
theorem flat_len {α β:Type} (f:α → List β) (sz:Nat):∀ (l:List α),(∀ a ∈ l,(f a).length=sz) → (l.flatMap f).length=l.length * sz
 | [],_=>by simp
 | a :: l,hs=>by
  rw [List.flatMap_cons,List.length_append,hs a (by simp),flat_len f sz l (fun a h=>hs a (by simp [h])),List.length_cons,Nat.add_mul]
  omega
def treeC:AV → Prop
 | .osl _=>False
 | .op _ _ _=>False
 | .agg _=>False
 | .tup _=>False
 | .fn _ _=>False
 | .bfn _ _=>False
 | _=>True
def treeL:List AV → Prop
 | []=>True
 | a :: l=>treeC a ∧ treeL l
theorem treeL_iff:∀ {l:List AV},treeL l ↔ ∀ a ∈ l,treeC a
 | []=>by simp [treeL]
 | a :: l=>by simp [treeL,treeL_iff (l:=l)]
section
variable {P:Program} {cx:Cx} {a:Act} {w w':World} {tab:ATab} {st:ASt} {L:Nat → Value} {nx:Nat}
theorem tree_of {x:Value} {av:AV} (h:RVx cx w tab L x av) (ht:treeC av):RT w (Sx cx w tab L) x av:=by
 cases h with
 | tree h=>exact h
 | osl=>exact ht.elim
 | op=>exact ht.elim
 | agg=>exact ht.elim
 | tup=>exact ht.elim
 | fn=>exact ht.elim
 | bfn=>exact ht.elim
theorem conc_row {t e sz by_:Nat} (h:Conc cx a w st L) (h0:0<sz) {cells:Array Value} {rows:List (List AV)} (hr:∀ row ∈ rows,row.length=sz) (hn:cells.size=rows.length * sz) (hm:rows.length≤9223372036854775807) (h1:∀ x ∈ cells,x.oneCell'=true)
  (hx:∀ (i j:Nat) (row:List AV) (av:AV),rows[i]? = some row → row[j]? = some av → ∃ x,cells[i * sz+j]? = some x ∧ RT w (Sx cx w st.tab L) x av) (dst:Option Nat) :
  Conc cx (a.put dst (.slice (some ⟨w.heap.size,0,none⟩) rows.length rows.length)) (w.alloc (.cells cells e)) ({ st with tab:=(st.next,some (.row e sz rows)) :: st.tab,next:=st.next+1 }.put dst (.osl st.next)) (updL L st.next (.slice (some ⟨w.heap.size,0,none⟩) rows.length rows.length)):=by
 refine conc_new (ob:=.row e sz rows) (v:=.slice (some ⟨w.heap.size,0,none⟩) rows.length rows.length) h ((Below.refl _ _).alloc (Nat.le_refl _) _) (fun g hg=>?_) (fun hext=>⟨hr,cells.toList,⟨by simpa using hn,.inr ⟨w.heap.size,_,cells,rfl,h.lay.below.size,heap_alloc_new w _,Nat.le_refl _,by simpa [maxLen] using hm,Nat.le_of_eq hn.symm,?_⟩⟩,fun x hx'=>h1 x (by simpa using hx'),fun i j row av ha hb=>?_⟩) trivial (fun hext=>?_) (Nat.lt_succ_self _) dst
 ·simp [vblk] at hg
  omega
 ·exact List.take_of_length_le (by simp [hn])
 ·obtain ⟨x,hx1,hx2⟩:=hx i j row av ha hb
  exact ⟨x,by simpa using hx1,hext.rt hx2⟩
 ·refine .osl _ _ fun sz' v'' hk=>?_
  simp [Kx,ATab.get_cons,updL] at hk
  exact hk.2
theorem conc_nest {t e sz by_:Nat} (h:Conc cx a w st L) (h0:0<sz) {cells:Array Value} {rows:List (List AV)} (hr:∀ row ∈ rows,row.length=sz) (hn:cells.size=rows.length * sz) (hm:rows.length≤9223372036854775807) (h1:∀ x ∈ cells,x.oneCell'=true)
  (hx:∀ (i j:Nat) (row:List AV) (av:AV),rows[i]? = some row → row[j]? = some av → ∃ x,cells[i * sz+j]? = some x ∧ RVx cx w st.tab L x av) (hlt:∀ row ∈ rows,AV.ltL st.next row) (dst:Option Nat) :
  Conc cx (a.put dst (.slice (some ⟨w.heap.size,0,none⟩) rows.length rows.length)) (w.alloc (.cells cells e)) ({ st with tab:=(st.next,some (.nest e sz rows)) :: st.tab,next:=st.next+1 }.put dst (.osl st.next)) (updL L st.next (.slice (some ⟨w.heap.size,0,none⟩) rows.length rows.length)):=by
 refine conc_new (ob:=.nest e sz rows) (v:=.slice (some ⟨w.heap.size,0,none⟩) rows.length rows.length) h ((Below.refl _ _).alloc (Nat.le_refl _) _) (fun g hg=>?_) (fun hext=>⟨hr,cells.toList,⟨by simpa using hn,.inr ⟨w.heap.size,_,cells,rfl,h.lay.below.size,heap_alloc_new w _,Nat.le_refl _,by simpa [maxLen] using hm,Nat.le_of_eq hn.symm,?_⟩⟩,fun x hx'=>h1 x (by simpa using hx'),fun i j row av ha hb=>?_⟩) (fun row hr=>ltL_iff.2 fun x hx=>AV.lt_mono (Nat.le_succ _) (ltL_iff.1 (hlt row hr) x hx)) (fun hext=>?_) (Nat.lt_succ_self _) dst
 ·simp [vblk] at hg
  omega
 ·exact List.take_of_length_le (by simp [hn])
 ·obtain ⟨x,hx1,hx2⟩:=hx i j row av ha hb
  exact ⟨x,by simpa using hx1,hext.rv hx2 (ltL_iff.1 (hlt row (List.mem_of_getElem? ha)) _ (List.mem_of_getElem? hb))⟩
 ·refine .osl _ _ fun sz' v'' hk=>?_
  simp [Kx,ATab.get_cons,updL] at hk
  exact hk.2
mutual
def AV.frz (id sz:Nat) (rows:List (List AV)):AV → AV
 | .osl k=>if k=id then .sl sz rows else .osl k
 | .agg cs=>.agg (AV.frzL id sz rows cs)
 | .tup cs=>.tup (AV.frzL id sz rows cs)
 | .fn f cs=>.fn f (AV.frzL id sz rows cs)
 | .bfn f cs=>.bfn f (AV.frzL id sz rows cs)
 | .op k i j=>.op k i j
 | .any=>.any
 | .c v=>.c v
 | .sl sz rows=>.sl sz rows
 | .rp cs=>.rp cs
def AV.frzL (id sz:Nat) (rows:List (List AV)):List AV → List AV
 | []=>[]
 | a :: l=>a.frz id sz rows :: AV.frzL id sz rows l
end
theorem frzL_map (id sz:Nat) (rows:List (List AV)):∀ l:List AV,AV.frzL id sz rows l=l.map (·.frz id sz rows)
 | []=>rfl
 | a :: l=>by simp [AV.frzL,frzL_map id sz rows l]
def frzEnv (id sz:Nat) (rows:List (List AV)):List (Nat × AV) → List (Nat × AV)
 | []=>[]
 | (t,av) :: l=>(t,av.frz id sz rows) :: frzEnv id sz rows l
def AObj.frz (id sz:Nat) (rows:List (List AV)):AObj → AObj
 | .box t cells=>.box t (AV.frzL id sz rows cells)
 | .row e s r=>.row e s r
 | .nest e s r=>.nest e s (r.map (AV.frzL id sz rows))
 | .map ents=>.map ents
 | .ghost vs env=>.ghost vs (frzEnv id sz rows env)
def frzTab (id sz:Nat) (rows:List (List AV)):ATab → ATab
 | []=>[]
 | (k,o) :: l=>(k,o.map (AObj.frz id sz rows)) :: frzTab id sz rows l
theorem frzTab_get (id sz:Nat) (rows:List (List AV)):∀ (l:ATab) (k:Nat),(frzTab id sz rows l).get k=(l.get k).map (AObj.frz id sz rows)
 | [],k=>by simp [frzTab,ATab.get]
 | (q,o) :: l,k=>by
  simp only [frzTab,ATab.get_cons]
  split
  ·rfl
  ·exact frzTab_get id sz rows l k
theorem frz_sz (id sz:Nat) (rows:List (List AV)) (o:AObj):(o.frz id sz rows).sz=o.sz:=by cases o <;> simp [AObj.frz,AObj.sz,frzL_map]
def frz1 (st:ASt) (id:Nat):ASt:=
 match st.tab.get id with
 | some (.row _ sz rows)=>{ st with env:=frzEnv id sz rows st.env,tab:=(id,none) :: frzTab id sz rows st.tab }
 | _=>st
def frzs (st:ASt):List Nat → ASt
 | []=>st
 | id :: ids=>frzs (frz1 st id) ids
def ownIds:List AV → List Nat
 | []=>[]
 | .osl id :: l=>id :: ownIds l
 | _ :: l=>ownIds l
theorem frzEnv_get (id sz:Nat) (rows:List (List AV)):∀ (l:List (Nat × AV)) (t:Nat),aget (frzEnv id sz rows l) t=(aget l t).frz id sz rows
 | [],t=>by simp [frzEnv,aget,AV.frz]
 | (k,av) :: l,t=>by
  simp only [frzEnv,aget]
  split
  ·rfl
  ·exact frzEnv_get id sz rows l t
theorem frz_lt {id sz nx:Nat} {rows:List (List AV)}:∀ {av:AV},av.lt nx → (av.frz id sz rows).lt nx:=by
 intro av
 induction av using AV.rec (motive_2:=fun _=>True) (motive_3:=fun l=>AV.ltL nx l → AV.ltL nx (AV.frzL id sz rows l)) <;> simp_all [AV.lt,AV.ltL,AV.frz,AV.frzL]
 split <;> simp_all [AV.lt]
theorem rt_row {e:TypeId} {sz:Nat} {v:Value} {rows:List (List AV)} {S:Nat → Prop} (h:ObjAt cx w tab L v (.row e sz rows)) (hS:∀ b,Sx cx w tab L b → S b) (hg:∀ g,vblk v=some g → S g):RT w S v (.sl sz rows):=by
 obtain ⟨hrow,xs,hown,hone,hx⟩:=h
 have hm:∀ i j row av,rows[i]? = some row → row[j]? = some av → (xs[i * sz+j]?.getD undef).oneCell'=true ∧ RT w S (xs[i * sz+j]?.getD undef) av ∧ ∃ x,xs[i * sz+j]? = some x:=fun i j row av h1 h2=>by
  obtain ⟨x,hx1,hx2⟩:=hx i j row av h1 h2
  rw [hx1]
  exact ⟨hone x (List.mem_of_getElem? hx1),hx2.mono (fun _ _=>rfl) hS,x,rfl⟩
 rcases hown.2 with ⟨rfl,h0⟩|⟨g,cap,cur,rfl,hb,hgh,hc,hm',_⟩
 ·exact .sl none _ 0 sz rows 0 0 (fun i j=>xs[i * sz+j]?.getD undef) h0.symm (Nat.le_refl _) (by omega) (fun h=>by omega) hrow (fun h=>by omega) (fun i j row av h1 h2=>(hm i j row av h1 h2).1) (fun i j row av h1 h2=>(hm i j row av h1 h2).2.1)
 ·refine .sl _ _ cap sz rows g 0 (fun i j=>xs[i * sz+j]?.getD undef) rfl hc (by simpa [maxLen] using hm') (fun _=>⟨rfl,hg g rfl⟩) hrow (fun _ i j row av h1 h2=>?_) (fun i j row av h1 h2=>(hm i j row av h1 h2).1) (fun i j row av h1 h2=>(hm i j row av h1 h2).2.1)
  obtain ⟨x,hx⟩:=(hm i j row av h1 h2).2.2
  have:=hown.cells (g:=g) rfl _ x hx
  rw [addAddr0] at this
  rw [hx,Nat.zero_add]
  exact this
theorem frz_core {e id sz:Nat} {rows:List (List AV)} (hL:Lay cx w tab L) (hy:∀ id o,tab.get id=some o → o.lt nx) (hid:tab.get id=some (.row e sz rows)) :
  Lay cx w ((id,none) :: frzTab id sz rows tab) L ∧ ∀ x av,RVx cx w tab L x av → av.lt nx → RVx cx w ((id,none) :: frzTab id sz rows tab) L x (av.frz id sz rows):=by
  have ht:∀ k,ATab.get ((id,none) :: frzTab id sz rows tab) k=if k=id then none else (tab.get k).map (AObj.frz id sz rows):=fun k=>by rw [ATab.get_cons,frzTab_get]
  have hsub:∀ k o,ATab.get ((id,none) :: frzTab id sz rows tab) k=some o → k ≠ id ∧ ∃ o',tab.get k=some o' ∧ o=o'.frz id sz rows:=fun k o hk=>by
   rw [ht] at hk
   split at hk
   ·cases hk
   ·cases hg:tab.get k with
    | none=>simp [hg] at hk
    | some o'=>
     simp [hg] at hk
     exact ⟨by assumption,o',rfl,hk.symm⟩
  have hext:Ext cx w tab L nx w ((id,none) :: frzTab id sz rows tab) L:=by
   refine ⟨fun _ _=>rfl,fun b hb=>⟨hb.1,hb.2.1,fun k o hk=>by obtain ⟨_,o',h1,_⟩:=hsub k o hk;exact hb.2.2 k o' h1⟩,fun k p _ hk=>?_⟩
   unfold Kx at *
   rw [ht] at hk
   split at hk
   ·cases hk
   ·cases hg:tab.get k with
    | none=>simp [hg] at hk
    | some o'=>
     simp [hg,frz_sz] at hk ⊢
     exact hk
  have hob:=hL.objs id _ hid
  have hrow:RT w (Sx cx w ((id,none) :: frzTab id sz rows tab) L) (L id) (.sl sz rows):=rt_row hob hext.sub fun g hg=>⟨(hob.ge hg).2,⟨.inr (hob.ge hg).1,fun hX=>(hL.ex g hX).2 id _ hid hg⟩,fun k o hk hg'=>by
   obtain ⟨h1,o',h2,_⟩:=hsub k o hk
   exact h1 (hL.sep k id o' _ g h2 hid hg' hg)⟩
  have conv:∀ x av,RVx cx w tab L x av → av.lt nx → RVx cx w ((id,none) :: frzTab id sz rows tab) L x (av.frz id sz rows):=fun x av hr=>by
   induction hr with
   | tree h0=>
    intro hl
    have e1:∀ {x av},RT w (Sx cx w tab L) x av → av.frz id sz rows=av:=fun hh=>by
     induction hh with
     | agg xs cs hn hr ih=>
      simp only [AV.frz,frzL_map,AV.agg.injEq]
      apply List.ext_getElem?
      intro j
      rw [List.getElem?_map]
      cases hj:cs[j]? with
      | none=>rfl
      | some av=>
       have hlt:j<xs.size:=by rw [hn];exact (List.getElem?_eq_some_iff.1 hj).1
       simp [ih j _ av (Array.getElem?_eq_getElem hlt) hj]
     | tup xs cs hn hr ih=>
      simp only [AV.frz,frzL_map,AV.tup.injEq]
      apply List.ext_getElem?
      intro j
      rw [List.getElem?_map]
      cases hj:cs[j]? with
      | none=>rfl
      | some av=>
       have hlt:j<xs.size:=by rw [hn];exact (List.getElem?_eq_some_iff.1 hj).1
       simp [ih j _ av (Array.getElem?_eq_getElem hlt) hj]
     | fn fi xs cs hn hr ih=>
      simp only [AV.frz,frzL_map,AV.fn.injEq,true_and]
      apply List.ext_getElem?
      intro j
      rw [List.getElem?_map]
      cases hj:cs[j]? with
      | none=>rfl
      | some av=>
       have hlt:j<xs.size:=by rw [hn];exact (List.getElem?_eq_some_iff.1 hj).1
       simp [ih j _ av (Array.getElem?_eq_getElem hlt) hj]
     | bfn fi xs cs hn hr ih=>
      simp only [AV.frz,frzL_map,AV.bfn.injEq,true_and]
      apply List.ext_getElem?
      intro j
      rw [List.getElem?_map]
      cases hj:cs[j]? with
      | none=>rfl
      | some av=>
       have hlt:j<xs.size:=by rw [hn];exact (List.getElem?_eq_some_iff.1 hj).1
       simp [ih j _ av (Array.getElem?_eq_getElem hlt) hj]
     | _=>simp [AV.frz]
    rw [e1 h0]
    exact .tree (hext.rt h0)
   | osl x k hk=>
    intro hl
    simp only [AV.frz]
    split
    ·rename_i e1
     subst e1
     rw [hk _ _ (kx_of hid)]
     exact .tree hrow
    ·exact hext.rv (.osl x k hk) hl
   | op x k i j hk=>
    intro hl
    exact hext.rv (.op x k i j hk) hl
   | agg xs cs hn hr ih=>
    intro hl
    simp only [AV.frz,frzL_map]
    refine .agg xs _ (by simpa using hn) fun j x av h1 h2=>?_
    rw [List.getElem?_map] at h2
    cases hj:cs[j]? with
    | none=>simp [hj] at h2
    | some av'=>
     simp [hj] at h2
     subst h2
     exact ih j x av' h1 hj (ltL_iff.1 hl _ (List.mem_of_getElem? hj))
   | tup xs cs hn hr ih=>
    intro hl
    simp only [AV.frz,frzL_map]
    refine .tup xs _ (by simpa using hn) fun j x av h1 h2=>?_
    rw [List.getElem?_map] at h2
    cases hj:cs[j]? with
    | none=>simp [hj] at h2
    | some av'=>
     simp [hj] at h2
     subst h2
     exact ih j x av' h1 hj (ltL_iff.1 hl _ (List.mem_of_getElem? hj))
   | fn fi xs cs hn hr ih=>
    intro hl
    simp only [AV.frz,frzL_map]
    refine .fn fi xs _ (by simpa using hn) fun j x av h1 h2=>?_
    rw [List.getElem?_map] at h2
    cases hj:cs[j]? with
    | none=>simp [hj] at h2
    | some av'=>
     simp [hj] at h2
     subst h2
     exact ih j x av' h1 hj (ltL_iff.1 hl _ (List.mem_of_getElem? hj))
   | bfn fi xs cs hn hr ih=>
    intro hl
    simp only [AV.frz,frzL_map]
    refine .bfn fi xs _ (by simpa using hn) fun j x av h1 h2=>?_
    rw [List.getElem?_map] at h2
    cases hj:cs[j]? with
    | none=>simp [hj] at h2
    | some av'=>
     simp [hj] at h2
     subst h2
     exact ih j x av' h1 hj (ltL_iff.1 hl _ (List.mem_of_getElem? hj))
  refine ⟨⟨hL.below,fun k o hk=>?_,fun k k' o o' g h1 h2=>?_,fun b hb'=>⟨(hL.ex b hb').1,fun k o hk=>?_⟩⟩,conv⟩
  rotate_left 2
  ·obtain ⟨_,o',h1,_⟩:=hsub k o hk
   exact (hL.ex b hb').2 k o' h1
  ·obtain ⟨_,o',h1,rfl⟩:=hsub k o hk
   have ho:=hL.objs k o' h1
   have hlo:=hy k o' h1
   cases o' with
   | row e' s r=>exact hext.obj ho hlo fun _ _=>rfl
   | box t cells=>
    obtain ⟨g,cs,h2,h3,h4,h5,h6⟩:=ho
    refine ⟨g,cs,h2,h3,h4,by simpa [frzL_map] using h5,fun j x av h7 h8=>?_⟩
    rw [frzL_map,List.getElem?_map] at h8
    cases hj:cells[j]? with
    | none=>simp [hj] at h8
    | some av'=>
     simp [hj] at h8
     subst h8
     exact ⟨conv x av' (h6 j x av' h7 hj).1 (ltL_iff.1 hlo _ (List.mem_of_getElem? hj)),(h6 j x av' h7 hj).2⟩
   | map ents=>exact hext.obj (o:=.map ents) ho hlo fun _ _=>rfl
   | nest e' s r=>
    obtain ⟨h2,xs,h3,h4,h5⟩:=ho
    refine ⟨fun row hr=>?_,xs,by simpa using h3,h4,fun i j row av h7 h8=>?_⟩
    ·obtain ⟨row',hr',rfl⟩:=List.mem_map.1 hr
     rw [frzL_map,List.length_map]
     exact h2 row' hr'
    ·rw [List.getElem?_map] at h7
     cases hi:r[i]? with
     | none=>simp [hi] at h7
     | some row'=>
      simp [hi] at h7
      subst h7
      rw [frzL_map,List.getElem?_map] at h8
      cases hj:row'[j]? with
      | none=>simp [hj] at h8
      | some av'=>
       simp [hj] at h8
       subst h8
       obtain ⟨x,h9,h10⟩:=h5 i j row' av' hi hj
       exact ⟨x,h9,conv x av' h10 (ltL_iff.1 (hlo row' (List.mem_of_getElem? hi)) _ (List.mem_of_getElem? hj))⟩
   | ghost vs env=>
    refine ⟨ho.1,fun t ht=>?_⟩
    rw [frzEnv_get]
    exact conv _ _ (ho.2 t ht) (envLt_aget hlo t)
  ·obtain ⟨_,o1,h3,_⟩:=hsub k o h1
   obtain ⟨_,o2,h4,_⟩:=hsub k' o' h2
   exact hL.sep k k' o1 o2 g h3 h4
theorem envLt_frz {id sz nx:Nat} {rows:List (List AV)}:∀ {l:List (Nat × AV)},envLt nx l → envLt nx (frzEnv id sz rows l)
 | [],_=>trivial
 | (_,_) :: _,h=>⟨frz_lt h.1,envLt_frz h.2⟩
theorem frz_obj_lt {id sz nx:Nat} {rows:List (List AV)} {o:AObj} (h:o.lt nx):(o.frz id sz rows).lt nx:=by
 cases o with
 | row=>trivial
 | box t cells=>
  show AV.ltL nx _
  rw [frzL_map]
  refine ltL_iff.2 fun a ha=>?_
  obtain ⟨b,hb,rfl⟩:=List.mem_map.1 ha
  exact frz_lt (ltL_iff.1 h b hb)
 | map=>trivial
 | nest e s r=>
  intro row hr
  obtain ⟨row',hr',rfl⟩:=List.mem_map.1 hr
  rw [frzL_map]
  refine ltL_iff.2 fun a ha=>?_
  obtain ⟨b,hb,rfl⟩:=List.mem_map.1 ha
  exact frz_lt (ltL_iff.1 (h row' hr') b hb)
 | ghost vs env=>exact envLt_frz h
def frzAV (st:ASt) (id:Nat) (av:AV):AV:=
 match st.tab.get id with
 | some (.row _ sz rows)=>av.frz id sz rows
 | _=>av
theorem conc_frz1 (h:Conc cx a w st L) (id:Nat):Conc cx a w (frz1 st id) L ∧ ∀ x av,RVx cx w st.tab L x av → av.lt st.next → RVx cx w (frz1 st id).tab L x (frzAV st id av) ∧ (frzAV st id av).lt (frz1 st id).next:=by
 unfold frz1 frzAV
 split
 ·rename_i e sz rows hid
  obtain ⟨h1,h2⟩:=frz_core h.lay (fun k o hk=>(h.young k o hk).2) hid
  refine ⟨⟨h1,h.size,h.defers.mono (fun _ _=>rfl) fun b hb=>⟨hb.1,hb.2.1,fun k o hk=>?_⟩,fun k o hk=>?_,fun t=>?_⟩,fun x av h3 h4=>⟨h2 x av h3 h4,frz_lt h4⟩⟩
  ·rw [ATab.get_cons,frzTab_get] at hk
   split at hk
   ·cases hk
   ·cases hg:st.tab.get k with
    | none=>simp [hg] at hk
    | some o'=>exact hb.2.2 k o' hg
  ·simp only [ATab.get_cons,frzTab_get] at hk
   split at hk
   ·cases hk
   ·cases hg:st.tab.get k with
    | none=>simp [hg] at hk
    | some o'=>
     simp [hg] at hk
     subst hk
     exact ⟨(h.young k o' hg).1,frz_obj_lt (h.young k o' hg).2⟩
  ·have e1:({ st with env:=frzEnv id sz rows st.env,tab:=(id,none) :: frzTab id sz rows st.tab }:ASt).get t=(st.get t).frz id sz rows:=by
    unfold ASt.get
    simp only
    split
    ·exact frzEnv_get ..
    ·simp [AV.frz]
   rw [e1]
   exact ⟨h2 _ _ (h.env t).1 (h.env t).2,frz_lt (h.env t).2⟩
 ·exact ⟨h,fun x av h1 h2=>⟨h1,h2⟩⟩
def frzAVs (st:ASt):List Nat → List AV → List AV
 | [],l=>l
 | id :: ids,l=>frzAVs (frz1 st id) ids (l.map (frzAV st id))
theorem conc_frzs:∀ (ids:List Nat) {st:ASt},Conc cx a w st L → Conc cx a w (frzs st ids) L
 | [],_,h=>h
 | id :: ids,_,h=>conc_frzs ids (conc_frz1 h id).1
theorem frzAVs_ok:∀ (ids:List Nat) {st:ASt} {vs:Array Value} {avs:List AV},Conc cx a w st L → (∀ (j:Nat) (v:Value) (av:AV),vs[j]? = some v → avs[j]? = some av → RVx cx w st.tab L v av ∧ av.lt st.next) →
  (frzAVs st ids avs).length=avs.length ∧ ∀ (j:Nat) (v:Value) (av:AV),vs[j]? = some v → (frzAVs st ids avs)[j]? = some av → RVx cx w (frzs st ids).tab L v av ∧ av.lt (frzs st ids).next
 | [],_,_,_,_,hv=>⟨rfl,hv⟩
 | id :: ids,st,vs,avs,h,hv=>by
  have h1:=conc_frz1 h id
  obtain ⟨h2,h3⟩:=frzAVs_ok ids (vs:=vs) (avs:=avs.map (frzAV st id)) h1.1 fun j v av h4 h5=>by
   rw [List.getElem?_map] at h5
   cases hj:avs[j]? with
   | none=>simp [hj] at h5
   | some av'=>
    simp [hj] at h5
    subst h5
    exact h1.2 v av' (hv j v av' h4 hj).1 (hv j v av' h4 hj).2
  exact ⟨by rw [frzAVs,h2,List.length_map],h3⟩
def treeM:AV → Prop
 | .fn _ cs=>treeL cs
 | .bfn _ cs=>treeL cs
 | a=>treeC a
def treeML:List AV → Prop
 | []=>True
 | a :: l=>treeM a ∧ treeML l
theorem treeML_mem:∀ {l:List AV} {a:AV},treeML l → a ∈ l → treeM a
 | b :: l,a,h,hm=>(List.mem_cons.1 hm).elim (fun e=>e ▸ h.1) fun h2=>treeML_mem h.2 h2
theorem treeM_c {v:Value}:treeM (.c v)=True:=rfl
theorem treeM_sl {sz:Nat} {rows:List (List AV)}:treeM (.sl sz rows)=True:=rfl
theorem treeM_of {x:Value} {av:AV} (h:RVx cx w tab L x av) (ht:treeM av):RT w (Sx cx w tab L) x av:=by
 cases av with
 | fn f cs=>
  obtain ⟨xs,rfl,hn,hr⟩:=h.fn_inv
  exact .fn f xs cs hn fun j x av h1 h2=>tree_of (hr j x av h1 h2) (treeL_iff.1 ht _ (List.mem_of_getElem? h2))
 | bfn f cs=>
  obtain ⟨xs,rfl,hn,hr⟩:=h.bfn_inv
  exact .bfn f xs cs hn fun j x av h1 h2=>tree_of (hr j x av h1 h2) (treeL_iff.1 ht _ (List.mem_of_getElem? h2))
 | _=>exact tree_of h ht
def aLit (tab:ATab) (sz:Nat):List AV → Prop
 | []=>True
 | x :: l=>(aCells x).length=sz ∧ oneCL tab (aCells x) ∧ treeML (aCells x) ∧ aLit tab sz l
theorem aLit_iff {sz:Nat}:∀ {l:List AV},aLit tab sz l ↔ ∀ x ∈ l,(aCells x).length=sz ∧ oneCL tab (aCells x) ∧ treeML (aCells x)
 | []=>by simp [aLit]
 | x :: l=>by simp [aLit,aLit_iff (l:=l),and_assoc]
theorem buildSlice_ok {t e sz by_:Nat} {parts:List (Nat × Operand)} (h:Conc cx a w st L) (ht:tyRow P t=some (e,sz,by_)) (hp:parts.map (·.1)=List.range' 0 parts.length) (hlen:parts.length * sz≤16777216)
  (hl:aLit st.tab sz (parts.map fun p=>aEv st p.2)) (dst:Option Nat) :
  ∃ v' w' L',(Instr.buildSlice t parts.length (parts.toArray.map fun (p:Nat × Operand)=>(p.1,a.eval p.2))).run P w=.ok v' w' ∧
   Conc cx (a.put dst v') w' ({ st with tab:=(st.next,some (.row e sz (parts.map fun (p:Nat × Operand)=>aCells (aEv st p.2)))) :: st.tab,next:=st.next+1 }.put dst (.osl st.next)) L' ∧
   Below w.heap.size w w' ∧ L'=updL L st.next v' ∧ vblk v'=some w.heap.size:=by
 obtain ⟨i,z,hund,hi,hz,hs,hb,hzs,hsz⟩:=tyRow_some ht
 have hl':=aLit_iff.1 hl
 have hcell:∀ p ∈ parts,(a.eval p.2).cells.size=sz ∧ ∀ (j:Nat) (x:Value) (av:AV),(a.eval p.2).cells[j]? = some x → (aCells (aEv st p.2))[j]? = some av → RVx cx w st.tab L x av ∧ x.oneCell'=true:=fun p hp'=>by
  have hm:=hl' (aEv st p.2) (List.mem_map.2 ⟨p,hp',rfl⟩)
  have he:=eval_ok h p.2
  have:=cells_ok h.lay he.1 he.2 hm.2.1
  exact ⟨this.1.trans hm.1,this.2.2⟩
 obtain ⟨c,hc1,hc2⟩:=fill_all sz (parts.map fun p=>(p.1,a.eval p.2)) 0 ((Array.range (parts.length * sz)).map (z.cells[· % z.cells.size]!)) (by simpa [List.map_map,Function.comp_def] using hp) (fun p hp'=>by
  simp at hp'
  obtain ⟨i',o',hio,rfl⟩:=hp'
  exact (hcell _ hio).1) (by simp)
 simp only [Nat.zero_mul,List.take_zero,List.nil_append,List.flatMap_map] at hc2
 have hrun:(Instr.buildSlice t parts.length (parts.toArray.map fun (p:Nat × Operand)=>(p.1,a.eval p.2))).run P w=.ok (.slice (some ⟨w.heap.size,0,none⟩) parts.length parts.length) (w.alloc (.cells c e)):=by
  have hnb:¬ (2 ^ 24<parts.length * sz):=by omega
  rcases Nat.eq_zero_or_pos parts.length with h0|hpos
  ·have:parts=[]:=List.length_eq_zero_iff.1 h0
   subst this
   have hce:c = #[]:=by
    rw [List.flatMap_nil] at hc2
    exact Array.toList_eq_nil_iff.1 hc2
   subst hce
   simp [Instr.buildSlice,Sem.run_bind,run_underlying hund,sizeOf,typeInfo,hi,hs,zeroValue,hz,newRow,Instr.fill]
   congr 2
   exact Array.eq_empty_of_size_eq_zero (by simp)
  have hne:¬ parts.length * sz=0:=by
   intro e
   rcases Nat.mul_eq_zero.1 e with e|e <;> omega
  simp [Instr.buildSlice,Sem.run_bind,run_underlying hund,sizeOf,typeInfo,hi,hs,hne,zeroValue,hz,newRow]
  rw [if_neg (by omega)]
  simp [hzs] at hc1
  simp [hzs,hc1]
 have hflat:∀ (i j:Nat) (hi':i<parts.length),j<sz → c[i * sz+j]? = (a.eval parts[i].2).cells[j]?:=fun i j hi' hj=>by
  have:=flat_get (fun p:Nat × Operand=>(a.eval p.2).cells.toList) sz parts (fun p hp'=>by simpa using (hcell p hp').1) i j hi' hj
  rw [← Array.getElem?_toList,hc2,this]
  simp
 have hcs:c.size=parts.length * sz:=by
  rw [← Array.length_toList,hc2]
  exact flat_len _ _ _ fun p hp'=>by simpa using (hcell p hp').1
 have hrl:(parts.map fun p=>aCells (aEv st p.2)).length=parts.length:=by simp
 suffices hs:Conc cx (a.put dst (.slice (some ⟨w.heap.size,0,none⟩) (parts.map fun (p:Nat × Operand)=>aCells (aEv st p.2)).length (parts.map fun (p:Nat × Operand)=>aCells (aEv st p.2)).length)) (w.alloc (.cells c e)) ({ st with tab:=(st.next,some (.row e sz (parts.map fun (p:Nat × Operand)=>aCells (aEv st p.2)))) :: st.tab,next:=st.next+1 }.put dst (.osl st.next)) (updL L st.next (.slice (some ⟨w.heap.size,0,none⟩) (parts.map fun (p:Nat × Operand)=>aCells (aEv st p.2)).length (parts.map fun (p:Nat × Operand)=>aCells (aEv st p.2)).length)) by
  rw [hrl] at hs
  exact ⟨_,_,_,hrun,hs,(Below.refl _ _).alloc (Nat.le_refl _) _,rfl,rfl⟩
 refine conc_row (t:=t) (by_:=by_) h hsz (fun row hr=>?_) (by rw [hrl];exact hcs) (by rw [hrl];have:parts.length≤parts.length * sz:=Nat.le_mul_of_pos_right _ hsz;omega) (fun x hx=>?_) (fun i j row av ha hb=>?_) dst
 ·obtain ⟨p,hp',rfl⟩:=List.mem_map.1 hr
  exact (hl' _ (List.mem_map.2 ⟨p,hp',rfl⟩)).1
 ·rw [← Array.mem_toList_iff,hc2] at hx
  obtain ⟨p,hp',hx⟩:=List.mem_flatMap.1 hx
  obtain ⟨k,hk,rfl⟩:=List.getElem_of_mem hx
  have hsz':=hcell p hp'
  have hk':k<(aCells (aEv st p.2)).length:=by
   rw [(hl' _ (List.mem_map.2 ⟨p,hp',rfl⟩)).1]
   simp at hk
   omega
  simp at hk
  exact (hsz'.2 k _ _ (Array.getElem?_eq_getElem hk) (List.getElem?_eq_getElem hk')).2
 ·rw [List.getElem?_map] at ha
  have hi':i<parts.length:=by
   rcases Nat.lt_or_ge i parts.length with hlt|hge
   ·exact hlt
   ·rw [List.getElem?_eq_none hge] at ha;cases ha
  rw [List.getElem?_eq_getElem hi'] at ha
  simp only [Option.map_some,Option.some.injEq] at ha
  subst ha
  have hm:=hl' _ (List.mem_map.2 ⟨_,List.getElem_mem hi',rfl⟩)
  have hj:j<sz:=by rw [← hm.1];exact (List.getElem?_eq_some_iff.1 hb).1
  have hc:=hcell _ (List.getElem_mem hi')
  have hjc:j<(a.eval parts[i].2).cells.size:=by omega
  exact ⟨_,by rw [hflat i j hi' hj];exact Array.getElem?_eq_getElem hjc,treeM_of (hc.2 j _ _ (Array.getElem?_eq_getElem hjc) hb).1 (treeML_mem hm.2.2 (List.mem_of_getElem? hb))⟩
def aLitN (tab:ATab) (sz:Nat):List AV → Prop
 | []=>True
 | x :: l=>(aCells x).length=sz ∧ oneCL tab (aCells x) ∧ aLitN tab sz l
theorem aLitN_iff {sz:Nat}:∀ {l:List AV},aLitN tab sz l ↔ ∀ x ∈ l,(aCells x).length=sz ∧ oneCL tab (aCells x)
 | []=>by simp [aLitN]
 | x :: l=>by simp [aLitN,aLitN_iff (l:=l),and_assoc]
theorem buildN_ok {t e sz by_:Nat} {parts:List (Nat × Operand)} (h:Conc cx a w st L) (ht:tyRow P t=some (e,sz,by_)) (hp:parts.map (·.1)=List.range' 0 parts.length) (hlen:parts.length * sz≤16777216)
  (hl:aLitN st.tab sz (parts.map fun p=>aEv st p.2)) (dst:Option Nat) :
  ∃ v' w' L',(Instr.buildSlice t parts.length (parts.toArray.map fun (p:Nat × Operand)=>(p.1,a.eval p.2))).run P w=.ok v' w' ∧
   Conc cx (a.put dst v') w' ({ st with tab:=(st.next,some (.nest e sz (parts.map fun (p:Nat × Operand)=>aCells (aEv st p.2)))) :: st.tab,next:=st.next+1 }.put dst (.osl st.next)) L' ∧
   Below w.heap.size w w' ∧ L'=updL L st.next v' ∧ vblk v'=some w.heap.size:=by
 obtain ⟨i,z,hund,hi,hz,hs,hb,hzs,hsz⟩:=tyRow_some ht
 have hl':=aLitN_iff.1 hl
 have hcell:∀ p ∈ parts,(a.eval p.2).cells.size=sz ∧ ∀ (j:Nat) (x:Value) (av:AV),(a.eval p.2).cells[j]? = some x → (aCells (aEv st p.2))[j]? = some av → RVx cx w st.tab L x av ∧ x.oneCell'=true:=fun p hp'=>by
  have hm:=hl' (aEv st p.2) (List.mem_map.2 ⟨p,hp',rfl⟩)
  have he:=eval_ok h p.2
  have:=cells_ok h.lay he.1 he.2 hm.2
  exact ⟨this.1.trans hm.1,this.2.2⟩
 have hltp:∀ p ∈ parts,AV.ltL st.next (aCells (aEv st p.2)):=fun p hp'=>by
  have hm:=hl' (aEv st p.2) (List.mem_map.2 ⟨p,hp',rfl⟩)
  have he:=eval_ok h p.2
  exact (cells_ok h.lay he.1 he.2 hm.2).2.1
 obtain ⟨c,hc1,hc2⟩:=fill_all sz (parts.map fun p=>(p.1,a.eval p.2)) 0 ((Array.range (parts.length * sz)).map (z.cells[· % z.cells.size]!)) (by simpa [List.map_map,Function.comp_def] using hp) (fun p hp'=>by
  simp at hp'
  obtain ⟨i',o',hio,rfl⟩:=hp'
  exact (hcell _ hio).1) (by simp)
 simp only [Nat.zero_mul,List.take_zero,List.nil_append,List.flatMap_map] at hc2
 have hrun:(Instr.buildSlice t parts.length (parts.toArray.map fun (p:Nat × Operand)=>(p.1,a.eval p.2))).run P w=.ok (.slice (some ⟨w.heap.size,0,none⟩) parts.length parts.length) (w.alloc (.cells c e)):=by
  have hnb:¬ (2 ^ 24<parts.length * sz):=by omega
  rcases Nat.eq_zero_or_pos parts.length with h0|hpos
  ·have:parts=[]:=List.length_eq_zero_iff.1 h0
   subst this
   have hce:c = #[]:=by
    rw [List.flatMap_nil] at hc2
    exact Array.toList_eq_nil_iff.1 hc2
   subst hce
   simp [Instr.buildSlice,Sem.run_bind,run_underlying hund,sizeOf,typeInfo,hi,hs,zeroValue,hz,newRow,Instr.fill]
   congr 2
   exact Array.eq_empty_of_size_eq_zero (by simp)
  have hne:¬ parts.length * sz=0:=by
   intro e
   rcases Nat.mul_eq_zero.1 e with e|e <;> omega
  simp [Instr.buildSlice,Sem.run_bind,run_underlying hund,sizeOf,typeInfo,hi,hs,hne,zeroValue,hz,newRow]
  rw [if_neg (by omega)]
  simp [hzs] at hc1
  simp [hzs,hc1]
 have hflat:∀ (i j:Nat) (hi':i<parts.length),j<sz → c[i * sz+j]? = (a.eval parts[i].2).cells[j]?:=fun i j hi' hj=>by
  have:=flat_get (fun p:Nat × Operand=>(a.eval p.2).cells.toList) sz parts (fun p hp'=>by simpa using (hcell p hp').1) i j hi' hj
  rw [← Array.getElem?_toList,hc2,this]
  simp
 have hcs:c.size=parts.length * sz:=by
  rw [← Array.length_toList,hc2]
  exact flat_len _ _ _ fun p hp'=>by simpa using (hcell p hp').1
 have hrl:(parts.map fun p=>aCells (aEv st p.2)).length=parts.length:=by simp
 suffices hs:Conc cx (a.put dst (.slice (some ⟨w.heap.size,0,none⟩) (parts.map fun (p:Nat × Operand)=>aCells (aEv st p.2)).length (parts.map fun (p:Nat × Operand)=>aCells (aEv st p.2)).length)) (w.alloc (.cells c e)) ({ st with tab:=(st.next,some (.nest e sz (parts.map fun (p:Nat × Operand)=>aCells (aEv st p.2)))) :: st.tab,next:=st.next+1 }.put dst (.osl st.next)) (updL L st.next (.slice (some ⟨w.heap.size,0,none⟩) (parts.map fun (p:Nat × Operand)=>aCells (aEv st p.2)).length (parts.map fun (p:Nat × Operand)=>aCells (aEv st p.2)).length)) by
  rw [hrl] at hs
  exact ⟨_,_,_,hrun,hs,(Below.refl _ _).alloc (Nat.le_refl _) _,rfl,rfl⟩
 refine conc_nest (t:=t) (by_:=by_) h hsz (fun row hr=>?_) (by rw [hrl];exact hcs) (by rw [hrl];have:parts.length≤parts.length * sz:=Nat.le_mul_of_pos_right _ hsz;omega) (fun x hx=>?_) (fun i j row av ha hb=>?_) (fun row hr=>by
  obtain ⟨p,hp',rfl⟩:=List.mem_map.1 hr
  exact hltp p hp') dst
 ·obtain ⟨p,hp',rfl⟩:=List.mem_map.1 hr
  exact (hl' _ (List.mem_map.2 ⟨p,hp',rfl⟩)).1
 ·rw [← Array.mem_toList_iff,hc2] at hx
  obtain ⟨p,hp',hx⟩:=List.mem_flatMap.1 hx
  obtain ⟨k,hk,rfl⟩:=List.getElem_of_mem hx
  have hsz':=hcell p hp'
  have hk':k<(aCells (aEv st p.2)).length:=by
   rw [(hl' _ (List.mem_map.2 ⟨p,hp',rfl⟩)).1]
   simp at hk
   omega
  simp at hk
  exact (hsz'.2 k _ _ (Array.getElem?_eq_getElem hk) (List.getElem?_eq_getElem hk')).2
 ·rw [List.getElem?_map] at ha
  have hi':i<parts.length:=by
   rcases Nat.lt_or_ge i parts.length with hlt|hge
   ·exact hlt
   ·rw [List.getElem?_eq_none hge] at ha;cases ha
  rw [List.getElem?_eq_getElem hi'] at ha
  simp only [Option.map_some,Option.some.injEq] at ha
  subst ha
  have hm:=hl' _ (List.mem_map.2 ⟨_,List.getElem_mem hi',rfl⟩)
  have hj:j<sz:=by rw [← hm.1];exact (List.getElem?_eq_some_iff.1 hb).1
  have hc:=hcell _ (List.getElem_mem hi')
  have hjc:j<(a.eval parts[i].2).cells.size:=by omega
  exact ⟨_,by rw [hflat i j hi' hj];exact Array.getElem?_eq_getElem hjc,(hc.2 j _ _ (Array.getElem?_eq_getElem hjc) hb).1⟩
theorem made_get (z:Array Value) (n k:Nat) (h:k<n):(madeCells z n)[k]? = some (z[k % z.size]!):=by
 simp [madeCells,h]
theorem conc_mk (b:Bool) {t e sz by_:Nat} (h:Conc cx a w st L) (h0:0<sz) {cells:Array Value} {rows:List (List AV)} (hr:∀ row ∈ rows,row.length=sz) (hn:cells.size=rows.length * sz) (hm:rows.length≤9223372036854775807) (h1:∀ x ∈ cells,x.oneCell'=true)
  (hx:∀ (i j:Nat) (row:List AV) (av:AV),rows[i]? = some row → row[j]? = some av → ∃ x,cells[i * sz+j]? = some x ∧ RT w (Sx cx w st.tab L) x av) (dst:Option Nat) :
  Conc cx (a.put dst (.slice (some ⟨w.heap.size,0,none⟩) rows.length rows.length)) (w.alloc (.cells cells e)) ({ st with tab:=(st.next,some (mkO b e sz rows)) :: st.tab,next:=st.next+1 }.put dst (.osl st.next)) (updL L st.next (.slice (some ⟨w.heap.size,0,none⟩) rows.length rows.length)):=by
 cases b with
 | false=>exact conc_row (t:=t) (by_:=by_) h h0 hr hn hm h1 hx dst
 | true=>exact conc_nest (t:=t) (by_:=by_) h h0 hr hn hm h1 (fun i j row av ha hb=>(hx i j row av ha hb).elim fun x hx=>⟨x,hx.1,.tree hx.2⟩) (fun row hr'=>ltL_iff.2 fun av ha=>by
   obtain ⟨i,hi⟩:=List.getElem?_of_mem hr'
   obtain ⟨j,hj⟩:=List.getElem?_of_mem ha
   obtain ⟨x,_,hx⟩:=hx i j row av hi hj
   exact hx.lt _) dst
theorem make_ok {t e sz by_:Nat} {z:Value} {n:Int} {k1 k2:IntKind} (h:Conc cx a w st L) (ht:tyRow P t=some (e,sz,by_)) (hz:tyZero P e=some z) (h1:oneCL [] (aCells (.c z))) (h0:0≤n) (hn:n≤16777216) (hb:(by_:Int) * n≤281474976710656) (dst:Option Nat) :
  ∃ v' w' L',(Instr.makeSlice t (.int k1 n) (.int k2 n)).run P w=.ok v' w' ∧
   Conc cx (a.put dst v') w' ({ st with tab:=(st.next,some (mkO (isMk t) e sz (List.replicate n.toNat (aCells (.c z))))) :: st.tab,next:=st.next+1 }.put dst (.osl st.next)) L' ∧ Below w.heap.size w w' ∧ L'=updL L st.next v' ∧ vblk v'=some w.heap.size:=by
 obtain ⟨i,z',hund,hi,hz',hs,hby,hzs,hsz⟩:=tyRow_some ht
 have:z'=z:=by simpa [tyZero,hi,hz'] using hz
 subst this
 have hrun:=run_make (P:=P) w t e i z' hund hi hz' k1 k2 n n h0 (Int.le_refl _) (by rw [hby];exact hb) (by omega)
 have hcl:(aCells (.c z')).length=sz:=by simp [aCells,hzs]
 have hrl:(List.replicate n.toNat (aCells (.c z'))).length=n.toNat:=by simp
 suffices hs2:Conc cx (a.put dst (.slice (some ⟨w.heap.size,0,none⟩) (List.replicate n.toNat (aCells (.c z'))).length (List.replicate n.toNat (aCells (.c z'))).length)) (w.alloc (.cells (madeCells z'.cells (n.toNat * i.size)) e)) ({ st with tab:=(st.next,some (mkO (isMk t) e sz (List.replicate n.toNat (aCells (.c z'))))) :: st.tab,next:=st.next+1 }.put dst (.osl st.next)) (updL L st.next (.slice (some ⟨w.heap.size,0,none⟩) (List.replicate n.toNat (aCells (.c z'))).length (List.replicate n.toNat (aCells (.c z'))).length)) by
  rw [hrl] at hs2
  exact ⟨_,_,_,hrun,hs2,(Below.refl _ _).alloc (Nat.le_refl _) _,rfl,rfl⟩
 have hzone:∀ k,k<sz → (z'.cells[k]!).oneCell'=true:=fun k hk=>by
  have hk':k<z'.cells.size:=by omega
  have:=oneCL_iff.1 h1 (.c z'.cells[k]) (List.mem_map.2 ⟨z'.cells[k],by simp,rfl⟩)
  rw [getElem!_pos z'.cells k hk']
  exact this
 refine conc_mk (isMk t) (t:=t) (by_:=by_) h hsz (fun row hr=>?_) (by rw [hrl,size_madeCells,hs]) (by rw [hrl];omega) (fun x hx=>?_) (fun i' j row av ha hb=>?_) dst
 ·rw [List.eq_of_mem_replicate hr,hcl]
 ·obtain ⟨k,hk,rfl⟩:=Array.getElem_of_mem hx
  have hk':k<n.toNat * i.size:=by simpa [size_madeCells] using hk
  have:=made_get z'.cells (n.toNat * i.size) k hk'
  rw [Array.getElem?_eq_getElem hk] at this
  rw [Option.some.inj this]
  exact hzone _ (by rw [hzs];exact Nat.mod_lt _ hsz)
 ·have hi':i'<n.toNat:=by
   have:=(List.getElem?_eq_some_iff.1 ha).1
   simpa using this
  rw [List.getElem?_replicate,if_pos hi'] at ha
  cases ha
  have hj:j<sz:=by rw [← hcl];exact (List.getElem?_eq_some_iff.1 hb).1
  have hlt:i' * sz+j<n.toNat * sz:=by
   have:=Nat.mul_le_mul_right sz (show i'+1≤n.toNat from hi')
   rw [Nat.add_mul] at this
   omega
  have e2:(i' * sz+j) % sz=j:=by rw [Nat.add_comm,Nat.add_mul_mod_self_right,Nat.mod_eq_of_lt hj]
  refine ⟨_,by rw [hs];exact made_get _ _ _ hlt,?_⟩
  rw [hzs,e2]
  have hj':j<z'.cells.size:=by omega
  simp only [aCells,List.getElem?_map,Array.getElem?_toList,Array.getElem?_eq_getElem hj',Option.map_some,Option.some.injEq] at hb
  subst hb
  rw [getElem!_pos z'.cells j hj']
  exact .c _
theorem store_row_ok {t e sz:Nat} {p v:Value} {id i j:Nat} {rows:List (List AV)} {av:AV} (h:Conc cx a w st L) (hp:RVx cx w st.tab L p (.op id i j)) (hid:st.tab.get id=some (.row e sz rows)) (hv:RVx cx w st.tab L v av) (hl:av.lt st.next)
  (hi:i<rows.length) (h0:0<tySize P t) (hs:(aCells av).length=tySize P t) (ho:j+tySize P t≤sz) (h1:oneCL st.tab (aCells av)) (h2:treeL (aCells av)) (dst:Option Nat) :
  ∃ w',(Instr.storeAt t p v).run P w=.ok () w' ∧ Conc cx (a.put dst undef) w' ({ st with tab:=(id,some (.row e sz (rows.set i ((rows[i]?.getD []).take j ++ aCells av ++ (rows[i]?.getD []).drop (j+tySize P t))))) :: st.tab }.put dst .any) L ∧
   w'.heap.size=w.heap.size ∧ ∀ k,vblk (L id) ≠ some k → w'.heap[k]? = w.heap[k]?:=by
 obtain ⟨hn,hlt,hc⟩:=cells_ok h.lay hv hl h1
 obtain ⟨g,hg,rfl⟩:=hp.op_inv _ _ (kx_of hid)
 obtain ⟨hrow,xs,hown,hone,hx⟩:=h.lay.objs id _ hid
 simp only [AObj.sz] at hg ⊢
 rw [List.getElem?_eq_getElem hi,Option.getD_some]
 have hri:rows[i].length=sz:=hrow _ (List.getElem_mem hi)
 rcases hown.2 with ⟨hL,hz⟩|⟨g',cap,cur,hL,hbg,hheap,hcap,hcm,hcs,htake⟩
 ·omega
 have hgg:g=g':=by
  rw [hL] at hg
  simpa [vblk] using hg.symm
 subst hgg
 have hmul:i * sz+sz≤rows.length * sz:=by
  have:=Nat.mul_le_mul_right sz (show i+1≤rows.length from hi)
  rw [Nat.add_mul] at this
  omega
 have hcapm:rows.length * sz≤cap * sz:=Nat.mul_le_mul_right _ hcap
 have hvl:v.cells.toList.length=tySize P t:=by simp [hn,hs]
 have hget:=splice_get cur.toList (i * sz+j) v.cells.toList (by simp only [Array.length_toList,hcs];omega)
 rw [hvl] at hget
 refine ⟨_,run_storeAt' h0 (by omega) hheap (by omega) (fun x hx'=>?_),?_,by simp,fun k hk=>setRow_other w g k _ fun e=>hk (by rw [e];exact hg)⟩
 ·obtain ⟨k,hk,rfl⟩:=Array.getElem_of_mem hx'
  have hk':k<(aCells av).length:=by omega
  exact (hc k _ _ (Array.getElem?_eq_getElem hk) (List.getElem?_eq_getElem hk')).2
 have hxs:∀ k,k<rows.length * sz → xs[k]? = cur.toList[k]?:=fun k hk=>by
  rw [← htake,List.getElem?_take,if_pos hk]
 have hrl:(rows[i].take j ++ aCells av ++ rows[i].drop (j+tySize P t)).length=sz:=by
  simp only [List.length_append,List.length_take,List.length_drop]
  omega
 refine conc_upd (o':=.row e sz (rows.set i (rows[i].take j ++ aCells av ++ rows[i].drop (j+tySize P t)))) h hid hg rfl (fun k hk=>setRow_other w g k _ hk) ?_ (by simp) (fun hext=>⟨fun row hr=>?_,(cur.toList.take (i * sz+j) ++ v.cells.toList ++ cur.toList.drop (i * sz+j+tySize P t)).take (rows.length * sz),?_,fun x hx'=>?_,fun i' j' row av' h3 h4=>?_⟩) trivial dst
 ·exact ⟨h.lay.below.os,h.lay.below.tape,h.lay.below.output,by simpa using h.lay.below.size,fun k hk hX=>(setRow_other w g k _ (by omega)).trans (h.lay.below.block k hk hX)⟩
 ·rcases List.mem_or_eq_of_mem_set hr with hr | rfl
  ·exact hrow row hr
  ·exact hrl
 ·rw [List.length_set]
  refine ⟨?_,.inr ⟨g,cap,_,hL,hbg,setRow_heap w g cur _ e (0,0) hheap,hcap,hcm,?_,rfl⟩⟩
  ·simp only [List.length_take,List.length_append,List.length_drop,Array.length_toList,hcs,hn,hs]
   omega
  ·simp only [List.size_toArray,List.length_append,List.length_take,List.length_drop,Array.length_toList,hcs,hn,hs]
   omega
 ·obtain ⟨k,hk⟩:=List.getElem?_of_mem hx'
  rw [List.getElem?_take] at hk
  split at hk
  ·rename_i hkl
   rw [hget] at hk
   split at hk
   ·rename_i hr
    have hk':k - (i * sz+j)<(aCells av).length:=by omega
    exact (hc _ x _ (by simpa using hk) (List.getElem?_eq_getElem hk')).2
   ·exact hone x (List.mem_of_getElem? ((hxs k hkl).trans hk))
  ·cases hk
 ·rw [List.getElem?_set] at h3
  split at h3
  ·rename_i e1
   subst e1
   first | rw [if_pos hi] at h3 | skip
   cases h3
   have hj':j'<sz:=by rw [← hrl];exact (List.getElem?_eq_some_iff.1 h4).1
   have h4':=splice_get rows[i] j (aCells av) (by omega) j'
   rw [hs] at h4'
   rw [h4'] at h4
   have hki:i * sz+j'<rows.length * sz:=by omega
   rw [List.getElem?_take,if_pos hki,hget]
   split at h4
   ·rename_i hr
    rw [if_pos (by omega)]
    rw [show i * sz+j' - (i * sz+j)=j' - j by omega]
    have hk':j' - j<v.cells.size:=by omega
    refine ⟨v.cells[j' - j],by simp [hk'],hext.rt (tree_of (hc _ _ av' (Array.getElem?_eq_getElem hk') h4).1 (treeL_iff.1 h2 _ (List.mem_of_getElem? h4)))⟩
   ·rename_i hr
    rw [if_neg (by omega)]
    obtain ⟨x,hx1,hx2⟩:=hx i j' _ av' (List.getElem?_eq_getElem hi) h4
    exact ⟨x,by rw [← hxs _ hki];exact hx1,hext.rt hx2⟩
  ·rename_i hne
   have hi2:i'<rows.length:=(List.getElem?_eq_some_iff.1 h3).1
   have hj':j'<sz:=by rw [← hrow row (List.mem_of_getElem? h3)];exact (List.getElem?_eq_some_iff.1 h4).1
   have hki:i' * sz+j'<rows.length * sz:=by
    have:=Nat.mul_le_mul_right sz (show i'+1≤rows.length from hi2)
    rw [Nat.add_mul] at this
    omega
   obtain ⟨x,hx1,hx2⟩:=hx i' j' row av' h3 h4
   refine ⟨x,?_,hext.rt hx2⟩
   rw [List.getElem?_take,if_pos hki,hget,if_neg,← hxs _ hki]
   ·exact hx1
   ·intro hr
    rcases Nat.lt_trichotomy i i' with hlt'|he|hlt'
    ·have:=Nat.mul_le_mul_right sz (show i+1≤i' from hlt')
     rw [Nat.add_mul] at this
     omega
    ·exact hne he
    ·have:=Nat.mul_le_mul_right sz (show i'+1≤i from hlt')
     rw [Nat.add_mul] at this
     omega
theorem store_nest_ok {t e sz:Nat} {p v:Value} {id i j:Nat} {rows:List (List AV)} {av:AV} (h:Conc cx a w st L) (hp:RVx cx w st.tab L p (.op id i j)) (hid:st.tab.get id=some (.nest e sz rows)) (hv:RVx cx w st.tab L v av) (hl:av.lt st.next)
  (hi:i<rows.length) (h0:0<tySize P t) (hs:(aCells av).length=tySize P t) (ho:j+tySize P t≤sz) (h1:oneCL st.tab (aCells av)) (dst:Option Nat) :
  ∃ w',(Instr.storeAt t p v).run P w=.ok () w' ∧ Conc cx (a.put dst undef) w' ({ st with tab:=(id,some (.nest e sz (rows.set i ((rows[i]?.getD []).take j ++ aCells av ++ (rows[i]?.getD []).drop (j+tySize P t))))) :: st.tab }.put dst .any) L ∧
   w'.heap.size=w.heap.size ∧ ∀ k,vblk (L id) ≠ some k → w'.heap[k]? = w.heap[k]?:=by
 obtain ⟨hn,hlt,hc⟩:=cells_ok h.lay hv hl h1
 obtain ⟨g,hg,rfl⟩:=hp.op_inv _ _ (kx_of hid)
 have hyl:∀ row ∈ rows,AV.ltL st.next row:=(h.young id _ hid).2
 obtain ⟨hrow,xs,hown,hone,hx⟩:=h.lay.objs id _ hid
 simp only [AObj.sz] at hg ⊢
 rw [List.getElem?_eq_getElem hi,Option.getD_some]
 have hri:rows[i].length=sz:=hrow _ (List.getElem_mem hi)
 rcases hown.2 with ⟨hL,hz⟩|⟨g',cap,cur,hL,hbg,hheap,hcap,hcm,hcs,htake⟩
 ·omega
 have hgg:g=g':=by
  rw [hL] at hg
  simpa [vblk] using hg.symm
 subst hgg
 have hmul:i * sz+sz≤rows.length * sz:=by
  have:=Nat.mul_le_mul_right sz (show i+1≤rows.length from hi)
  rw [Nat.add_mul] at this
  omega
 have hcapm:rows.length * sz≤cap * sz:=Nat.mul_le_mul_right _ hcap
 have hvl:v.cells.toList.length=tySize P t:=by simp [hn,hs]
 have hget:=splice_get cur.toList (i * sz+j) v.cells.toList (by simp only [Array.length_toList,hcs];omega)
 rw [hvl] at hget
 refine ⟨_,run_storeAt' h0 (by omega) hheap (by omega) (fun x hx'=>?_),?_,by simp,fun k hk=>setRow_other w g k _ fun e=>hk (by rw [e];exact hg)⟩
 ·obtain ⟨k,hk,rfl⟩:=Array.getElem_of_mem hx'
  have hk':k<(aCells av).length:=by omega
  exact (hc k _ _ (Array.getElem?_eq_getElem hk) (List.getElem?_eq_getElem hk')).2
 have hxs:∀ k,k<rows.length * sz → xs[k]? = cur.toList[k]?:=fun k hk=>by
  rw [← htake,List.getElem?_take,if_pos hk]
 have hrl:(rows[i].take j ++ aCells av ++ rows[i].drop (j+tySize P t)).length=sz:=by
  simp only [List.length_append,List.length_take,List.length_drop]
  omega
 refine conc_upd (o':=.nest e sz (rows.set i (rows[i].take j ++ aCells av ++ rows[i].drop (j+tySize P t)))) h hid hg rfl (fun k hk=>setRow_other w g k _ hk) ?_ (by simp) (fun hext=>⟨fun row hr=>?_,(cur.toList.take (i * sz+j) ++ v.cells.toList ++ cur.toList.drop (i * sz+j+tySize P t)).take (rows.length * sz),?_,fun x hx'=>?_,fun i' j' row av' h3 h4=>?_⟩) (fun row hr=>by
  rcases List.mem_or_eq_of_mem_set hr with hr|rfl
  ·exact hyl row hr
  ·have hyi:=hyl _ (List.getElem_mem hi)
   refine ltL_iff.2 fun x hx=>?_
   rcases List.mem_append.1 hx with hx|hx
   ·rcases List.mem_append.1 hx with hx | hx
    ·exact ltL_iff.1 hyi x (List.mem_of_mem_take hx)
    ·exact ltL_iff.1 hlt x hx
   ·exact ltL_iff.1 hyi x (List.mem_of_mem_drop hx)) dst
 ·exact ⟨h.lay.below.os,h.lay.below.tape,h.lay.below.output,by simpa using h.lay.below.size,fun k hk hX=>(setRow_other w g k _ (by omega)).trans (h.lay.below.block k hk hX)⟩
 ·rcases List.mem_or_eq_of_mem_set hr with hr | rfl
  ·exact hrow row hr
  ·exact hrl
 ·rw [List.length_set]
  refine ⟨?_,.inr ⟨g,cap,_,hL,hbg,setRow_heap w g cur _ e (0,0) hheap,hcap,hcm,?_,rfl⟩⟩
  ·simp only [List.length_take,List.length_append,List.length_drop,Array.length_toList,hcs,hn,hs]
   omega
  ·simp only [List.size_toArray,List.length_append,List.length_take,List.length_drop,Array.length_toList,hcs,hn,hs]
   omega
 ·obtain ⟨k,hk⟩:=List.getElem?_of_mem hx'
  rw [List.getElem?_take] at hk
  split at hk
  ·rename_i hkl
   rw [hget] at hk
   split at hk
   ·rename_i hr
    have hk':k - (i * sz+j)<(aCells av).length:=by omega
    exact (hc _ x _ (by simpa using hk) (List.getElem?_eq_getElem hk')).2
   ·exact hone x (List.mem_of_getElem? ((hxs k hkl).trans hk))
  ·cases hk
 ·rw [List.getElem?_set] at h3
  split at h3
  ·rename_i e1
   subst e1
   first | rw [if_pos hi] at h3 | skip
   cases h3
   have hj':j'<sz:=by rw [← hrl];exact (List.getElem?_eq_some_iff.1 h4).1
   have h4':=splice_get rows[i] j (aCells av) (by omega) j'
   rw [hs] at h4'
   rw [h4'] at h4
   have hki:i * sz+j'<rows.length * sz:=by omega
   rw [List.getElem?_take,if_pos hki,hget]
   split at h4
   ·rename_i hr
    rw [if_pos (by omega)]
    rw [show i * sz+j' - (i * sz+j)=j' - j by omega]
    have hk':j' - j<v.cells.size:=by omega
    refine ⟨v.cells[j' - j],by simp [hk'],hext.rv (hc _ _ av' (Array.getElem?_eq_getElem hk') h4).1 (ltL_iff.1 hlt _ (List.mem_of_getElem? h4))⟩
   ·rename_i hr
    rw [if_neg (by omega)]
    obtain ⟨x,hx1,hx2⟩:=hx i j' _ av' (List.getElem?_eq_getElem hi) h4
    exact ⟨x,by rw [← hxs _ hki];exact hx1,hext.rv hx2 (ltL_iff.1 (hyl _ (List.getElem_mem hi)) _ (List.mem_of_getElem? h4))⟩
  ·rename_i hne
   have hi2:i'<rows.length:=(List.getElem?_eq_some_iff.1 h3).1
   have hj':j'<sz:=by rw [← hrow row (List.mem_of_getElem? h3)];exact (List.getElem?_eq_some_iff.1 h4).1
   have hki:i' * sz+j'<rows.length * sz:=by
    have:=Nat.mul_le_mul_right sz (show i'+1≤rows.length from hi2)
    rw [Nat.add_mul] at this
    omega
   obtain ⟨x,hx1,hx2⟩:=hx i' j' row av' h3 h4
   refine ⟨x,?_,hext.rv hx2 (ltL_iff.1 (hyl row (List.mem_of_getElem? h3)) _ (List.mem_of_getElem? h4))⟩
   rw [List.getElem?_take,if_pos hki,hget,if_neg,← hxs _ hki]
   ·exact hx1
   ·intro hr
    rcases Nat.lt_trichotomy i i' with hlt'|he|hlt'
    ·have:=Nat.mul_le_mul_right sz (show i+1≤i' from hlt')
     rw [Nat.add_mul] at this
     omega
    ·exact hne he
    ·have:=Nat.mul_le_mul_right sz (show i'+1≤i from hlt')
     rw [Nat.add_mul] at this
     omega
def tyParts (P:Program) (t:TypeId):Option (List (Nat × Nat) × List Value):=
 match P.info? t,P.underlying t with
 | some it,some (.struct fields)=>match it.zero,fields.toList.mapM (fun f=>(P.info? f.type).map fun i=>(f.offset,i.size)) with
  | some z,some places=>some (places,z.cells.toList)
  | _,_=>none
 | _,_=>none
def aFill (places:List (Nat × Nat)):List AV → List (Nat × AV) → Option (List AV)
 | cs,[]=>some cs
 | cs,(i,x) :: rest=>match places[i]? with
  | some (off,size)=>if (aCells x).length=size ∧ off+size≤cs.length then aFill places (cs.take off ++ aCells x ++ cs.drop (off+size)) rest else none
  | none=>none
def oneParts (tab:ATab):List (Nat × AV) → Prop
 | []=>True
 | (_,x) :: rest=>oneCL tab (aCells x) ∧ oneParts tab rest
theorem fill_ok (hL:Lay cx w tab L) (places:List (Nat × Nat)):∀ (parts:List (Nat × Value)) (avs:List (Nat × AV)) (cells:Array Value) (cs cs':List AV),parts.length=avs.length →
  (∀ (k i:Nat) (v:Value) (j:Nat) (av:AV),parts[k]? = some (i,v) → avs[k]? = some (j,av) → i=j ∧ RVx cx w tab L v av ∧ av.lt nx) → oneParts tab avs → cells.size=cs.length → AV.ltL nx cs → (∀ (j:Nat) (x:Value) (av:AV),cells[j]? = some x → cs[j]? = some av → RVx cx w tab L x av) → aFill places cs avs=some cs' →
  ∃ cells',Instr.fill (places.toArray[·]?) cells parts=some cells' ∧ cells'.size=cs'.length ∧ AV.ltL nx cs' ∧ ∀ (j:Nat) (x:Value) (av:AV),cells'[j]? = some x → cs'[j]? = some av → RVx cx w tab L x av
 | [],[],cells,cs,cs',_,_,_,hn,hl,hr,h=>by
  cases h
  exact ⟨cells,rfl,hn,hl,hr⟩
 | (i,v) :: parts,(j,x) :: avs,cells,cs,cs',hlen,hp,hone,hn,hl,hr,h=>by
  obtain ⟨rfl,hv,hlx⟩:=hp 0 i v j x rfl rfl
  obtain ⟨hc1,hc2,hc3⟩:=cells_ok hL hv hlx hone.1
  unfold aFill at h
  split at h
  ·rename_i off size hpl
   split at h
   ·rename_i hsz
    have hfit:off+v.cells.size≤cells.size:=by omega
    have hone':=fill_one off v.cells cells hfit
    obtain ⟨cells',h1,h2⟩:=fill_ok hL places parts avs (cells.toList.take off ++ v.cells.toList ++ cells.toList.drop (off+v.cells.size)).toArray (cs.take off ++ aCells x ++ cs.drop (off+size)) cs' (by simpa using hlen)
     (fun k i v j av h3 h4=>hp (k+1) i v j av (by simpa using h3) (by simpa using h4)) hone.2 (by simp [hc1,hsz.1,hn]) (ltL_iff.2 fun y hy=>by
      rcases List.mem_append.1 hy with hy|hy
      ·rcases List.mem_append.1 hy with hy | hy
       ·exact ltL_iff.1 hl y (List.mem_of_mem_take hy)
       ·exact ltL_iff.1 hc2 y hy
      ·exact ltL_iff.1 hl y (List.mem_of_mem_drop hy)) (fun k y av h3 h4=>by
      have e1:=splice_get cells.toList off v.cells.toList (by simpa using hfit) k
      have e2:=splice_get cs off (aCells x) (by omega) k
      simp only [Array.length_toList] at e1
      rw [hsz.1] at e2
      rw [List.getElem?_toArray,e1] at h3
      rw [e2] at h4
      split at h4
      ·rename_i hk
       rw [if_pos (by omega)] at h3
       exact (hc3 _ y av (by simpa using h3) h4).1
      ·rename_i hk
       rw [if_neg (by omega)] at h3
       exact hr k y av (by simpa using h3) h4) h
    refine ⟨cells',?_,h2⟩
    unfold Instr.fill
    simp only [List.getElem?_toArray,hpl]
    rw [if_neg (by simp;omega),hone']
    simpa using h1
   ·cases h
  ·cases h
 | [],_ :: _,_,_,_,h,_,_,_,_,_,_=>by simp at h
 | _ :: _,[],_,_,_,h,_,_,_,_,_,_=>by simp at h
theorem tyParts_some {t:TypeId} {places:List (Nat × Nat)} {zs:List Value} (h:tyParts P t=some (places,zs)):∃ z:Value,z.cells.toList=zs ∧ ∀ parts,P.built t parts=Instr.fill (places.toArray[·]?) z.cells parts:=by
 unfold tyParts at h
 split at h
 ·rename_i it fields h1 h2
  split at h
  ·rename_i z pl h3 h4
   cases h
   refine ⟨z,rfl,fun parts=>?_⟩
   unfold Program.built
   rw [h1,h2]
   simp only [h3]
   simp only [h4]
  ·cases h
 ·cases h
theorem build_ok {t:TypeId} {places:List (Nat × Nat)} {zs:List Value} {cs':List AV} {parts:List (Nat × Operand)} (h:Conc cx a w st L) (ht:tyParts P t=some (places,zs)) (hf:aFill places (zs.map .c) (parts.map fun p=>(p.1,aEv st p.2))=some cs') (h1:oneParts st.tab (parts.map fun p=>(p.1,aEv st p.2))) :
  ∃ v,RVx cx w st.tab L v (.agg cs') ∧ (AV.agg cs').lt st.next ∧ ∀ w',(Instr.build t (parts.toArray.map fun (p:Nat × Operand)=>(p.1,a.eval p.2))).run P w'=.ok v w':=by
 obtain ⟨z,rfl,hb⟩:=tyParts_some ht
 obtain ⟨cells',h2,h3,h4,h5⟩:=fill_ok h.lay places (parts.map fun p=>(p.1,a.eval p.2)) (parts.map fun p=>(p.1,aEv st p.2)) z.cells (z.cells.toList.map .c) cs' (by simp) (fun k i v j av h6 h7=>by
  rw [List.getElem?_map] at h6 h7
  cases hk:parts[k]? with
  | none=>simp [hk] at h6
  | some p=>
   simp [hk] at h6 h7
   obtain ⟨rfl,rfl⟩:=h6
   obtain ⟨rfl,rfl⟩:=h7
   exact ⟨rfl,eval_ok h p.2⟩) h1 (by simp) (ltL_iff.2 fun y hy=>by
   obtain ⟨u,_,rfl⟩:=List.mem_map.1 hy
   trivial) (fun j x av h6 h7=>by
   rw [List.getElem?_map,Array.getElem?_toList,h6] at h7
   cases h7
   exact .tree (.c x)) hf
 refine ⟨.agg cells',.agg cells' cs' h3 h5,h4,fun w'=>run_build w' t _ cells' ?_⟩
 rw [hb]
 simpa using h2
end
end
end
end Go.Proofs.YtcindbpnaicemaaGreat
