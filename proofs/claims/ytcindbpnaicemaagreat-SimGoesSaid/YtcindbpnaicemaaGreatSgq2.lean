/-
  Parts of the proof: Sgp3, Sgp4.
-/
import Derived.Test.YtcindbpnaicemaaGreatSgq1
import Derived.Maps.Own
import Derived.Deep.Quiet
import Derived.StillTail
import Derived.OrdersHeld
import Derived.Scope
set_option linter.unusedVariables false
set_option linter.unusedSimpArgs false
set_option linter.defProp false
set_option maxRecDepth 100000
set_option maxHeartbeats 16000000
namespace Go.Proofs.YtcindbpnaicemaaGreat
section
section
open Go.RowKit
mutual
def AV.shift (k:Nat):AV → AV
 | .osl id=>.osl (id+k)
 | .op id i j=>.op (id+k) i j
 | .agg cs=>.agg (AV.shiftL k cs)
 | .tup cs=>.tup (AV.shiftL k cs)
 | .fn f cs=>.fn f (AV.shiftL k cs)
 | .bfn f cs=>.bfn f (AV.shiftL k cs)
 | .any=>.any
 | .c v=>.c v
 | .sl sz rows=>.sl sz rows
 | .rp cs=>.rp cs
def AV.shiftL (k:Nat):List AV → List AV
 | []=>[]
 | a :: l=>a.shift k :: AV.shiftL k l
end
theorem shiftL_map (k:Nat):∀ l:List AV,AV.shiftL k l=l.map (·.shift k)
 | []=>rfl
 | a :: l=>by simp [AV.shiftL,shiftL_map k l]
mutual
def AV.plain:AV → Prop
 | .sl _ _=>False
 | .rp _=>False
 | .agg cs=>AV.plainL cs
 | .tup cs=>AV.plainL cs
 | .fn _ cs=>AV.plainL cs
 | .bfn _ cs=>AV.plainL cs
 | _=>True
def AV.plainL:List AV → Prop
 | []=>True
 | a :: l=>a.plain ∧ AV.plainL l
end
theorem plainL_iff:∀ {l:List AV},AV.plainL l ↔ ∀ a ∈ l,a.plain
 | []=>by simp [AV.plainL]
 | a :: l=>by simp [AV.plainL,plainL_iff (l:=l)]
def shiftEnv (k:Nat):List (Nat × AV) → List (Nat × AV)
 | []=>[]
 | (t,av) :: l=>(t,av.shift k) :: shiftEnv k l
theorem shiftEnv_get (k:Nat):∀ (l:List (Nat × AV)) (t:Nat),aget (shiftEnv k l) t=(aget l t).shift k
 | [],t=>rfl
 | (q,av) :: l,t=>by
  unfold shiftEnv aget
  split
  ·rfl
  ·exact shiftEnv_get k l t
def AObj.shift (k:Nat):AObj → AObj
 | .box t cells=>.box t (AV.shiftL k cells)
 | .row e sz rows=>.row e sz rows
 | .nest e sz rows=>.nest e sz (rows.map (AV.shiftL k))
 | .map ents=>.map ents
 | .ghost vs env=>.ghost vs (shiftEnv k env)
def AObj.plain:AObj → Prop
 | .box _ cells=>AV.plainL cells
 | .row _ _ rows=>∀ row ∈ rows,∀ av ∈ row,av.plain
 | .nest _ _ rows=>∀ row ∈ rows,∀ av ∈ row,av.plain
 | .map _=>False
 | .ghost _ _=>False
def ATab.shift (k:Nat) (T:ATab):ATab:=T.map fun p=>(p.1+k,p.2.map (AObj.shift k))
def ATab.plain:ATab → Prop
 | []=>True
 | (_,some o) :: T=>o.plain ∧ ATab.plain T
 | (_,none) :: T=>ATab.plain T
theorem plain_get {o:AObj}:∀ {T:ATab} {id:Nat},T.plain → T.get id=some o → o.plain
 | [],_,_,h=>by cases h
 | (k,oo) :: T,id,hp,h=>by
  rw [ATab.get_cons] at h
  split at h
  ·subst h
   exact hp.1
  ·cases oo with
   | none=>exact plain_get (T:=T) hp h
   | some o'=>exact plain_get (T:=T) hp.2 h
theorem shift_get {tab:ATab} {k:Nat} (hy:∀ id o,tab.get id=some o → id<k):∀ (T:ATab) (id:Nat),(T.shift k ++ tab).get id=if id<k then tab.get id else (T.get (id - k)).map (AObj.shift k)
 | [],id=>by
  simp only [ATab.shift,List.map_nil,List.nil_append]
  split
  ·rfl
  ·rename_i h
   cases hg:tab.get id with
   | none=>rfl
   | some o=>exact absurd (hy id o hg) h
 | (j,o) :: T,id=>by
  have ih:=shift_get hy T id
  simp only [ATab.shift,List.map_cons,List.cons_append,ATab.get_cons] at ih ⊢
  by_cases h1:id=j+k
  ·rw [if_pos h1,if_neg (by omega),if_pos (by omega)]
  ·rw [if_neg h1,ih]
   by_cases h2:id<k
   ·rw [if_pos h2,if_pos h2]
   ·rw [if_neg h2,if_neg h2,if_neg (by omega)]
theorem RT.shift {w:World} {S:Nat → Prop} {x:Value} {av:AV} (h:RT w S x av) (k:Nat):av.shift k=av:=by
 induction h with
 | agg xs cs hn hr ih=>
  simp only [AV.shift,shiftL_map,AV.agg.injEq]
  apply List.ext_getElem?
  intro j
  rw [List.getElem?_map]
  cases hj:cs[j]? with
  | none=>rfl
  | some av=>
   have hlt:j<xs.size:=by rw [hn];exact (List.getElem?_eq_some_iff.1 hj).1
   simp [ih j _ av (Array.getElem?_eq_getElem hlt) hj]
 | tup xs cs hn hr ih=>
  simp only [AV.shift,shiftL_map,AV.tup.injEq]
  apply List.ext_getElem?
  intro j
  rw [List.getElem?_map]
  cases hj:cs[j]? with
  | none=>rfl
  | some av=>
   have hlt:j<xs.size:=by rw [hn];exact (List.getElem?_eq_some_iff.1 hj).1
   simp [ih j _ av (Array.getElem?_eq_getElem hlt) hj]
 | fn fi xs cs hn hr ih=>
  simp only [AV.shift,shiftL_map,AV.fn.injEq,true_and]
  apply List.ext_getElem?
  intro j
  rw [List.getElem?_map]
  cases hj:cs[j]? with
  | none=>rfl
  | some av=>
   have hlt:j<xs.size:=by rw [hn];exact (List.getElem?_eq_some_iff.1 hj).1
   simp [ih j _ av (Array.getElem?_eq_getElem hlt) hj]
 | bfn fi xs cs hn hr ih=>
  simp only [AV.shift,shiftL_map,AV.bfn.injEq,true_and]
  apply List.ext_getElem?
  intro j
  rw [List.getElem?_map]
  cases hj:cs[j]? with
  | none=>rfl
  | some av=>
   have hlt:j<xs.size:=by rw [hn];exact (List.getElem?_eq_some_iff.1 hj).1
   simp [ih j _ av (Array.getElem?_eq_getElem hlt) hj]
 | _=>simp [AV.shift]
theorem RT.plain {w:World} {S S':Nat → Prop} {x:Value} {av:AV} (h:RT w S x av) (hp:av.plain):RT w S' x av:=by
 induction h with
 | any x=>exact .any x
 | c v=>exact .c v
 | sl=>exact hp.elim
 | rp=>exact hp.elim
 | agg xs cs hn hr ih=>exact .agg xs cs hn fun j x av h1 h2=>ih j x av h1 h2 (plainL_iff.1 hp _ (List.mem_of_getElem? h2))
 | tup xs cs hn hr ih=>exact .tup xs cs hn fun j x av h1 h2=>ih j x av h1 h2 (plainL_iff.1 hp _ (List.mem_of_getElem? h2))
 | fn fi xs cs hn hr ih=>exact .fn fi xs cs hn fun j x av h1 h2=>ih j x av h1 h2 (plainL_iff.1 hp _ (List.mem_of_getElem? h2))
 | bfn fi xs cs hn hr ih=>exact .bfn fi xs cs hn fun j x av h1 h2=>ih j x av h1 h2 (plainL_iff.1 hp _ (List.mem_of_getElem? h2))
theorem RV.conv {w:World} {S S':Nat → Prop} {K K':Nat → Option (Nat × Value)} {k:Nat} {x:Value} {av:AV} (h:RV w S K x av) (hS:(∀ b,S b → S' b) ∨ av.plain) (hK:∀ id p,K' (id+k)=some p → K id=some p):RV w S' K' x (av.shift k):=by
 induction h with
 | tree h=>
  rw [h.shift k]
  rcases hS with hS|hS
  ·exact .tree (h.mono (fun _ _=>rfl) hS)
  ·exact .tree (h.plain hS)
 | osl x id h=>exact .osl x _ fun sz v e=>h sz v (hK id _ e)
 | op x id i j h=>exact .op x _ i j fun sz v e=>h sz v (hK id _ e)
 | agg xs cs hn hr ih=>
  simp only [AV.shift,shiftL_map]
  refine .agg xs _ (by simpa using hn) fun j x av h1 h2=>?_
  rw [List.getElem?_map] at h2
  cases hj:cs[j]? with
  | none=>simp [hj] at h2
  | some av'=>
   simp [hj] at h2
   subst h2
   exact ih j x av' h1 hj (hS.imp id fun hp=>plainL_iff.1 hp _ (List.mem_of_getElem? hj))
 | tup xs cs hn hr ih=>
  simp only [AV.shift,shiftL_map]
  refine .tup xs _ (by simpa using hn) fun j x av h1 h2=>?_
  rw [List.getElem?_map] at h2
  cases hj:cs[j]? with
  | none=>simp [hj] at h2
  | some av'=>
   simp [hj] at h2
   subst h2
   exact ih j x av' h1 hj (hS.imp id fun hp=>plainL_iff.1 hp _ (List.mem_of_getElem? hj))
 | fn fi xs cs hn hr ih=>
  simp only [AV.shift,shiftL_map]
  refine .fn fi xs _ (by simpa using hn) fun j x av h1 h2=>?_
  rw [List.getElem?_map] at h2
  cases hj:cs[j]? with
  | none=>simp [hj] at h2
  | some av'=>
   simp [hj] at h2
   subst h2
   exact ih j x av' h1 hj (hS.imp id fun hp=>plainL_iff.1 hp _ (List.mem_of_getElem? hj))
 | bfn fi xs cs hn hr ih=>
  simp only [AV.shift,shiftL_map]
  refine .bfn fi xs _ (by simpa using hn) fun j x av h1 h2=>?_
  rw [List.getElem?_map] at h2
  cases hj:cs[j]? with
  | none=>simp [hj] at h2
  | some av'=>
   simp [hj] at h2
   subst h2
   exact ih j x av' h1 hj (hS.imp id fun hp=>plainL_iff.1 hp _ (List.mem_of_getElem? hj))
theorem lt_shift {n k:Nat}:∀ {av:AV},av.lt n → (av.shift k).lt (k+n):=by
 intro av
 induction av using AV.rec (motive_2:=fun _=>True) (motive_3:=fun l=>AV.ltL n l → AV.ltL (k+n) (AV.shiftL k l)) <;> simp_all [AV.lt,AV.ltL,AV.shift,AV.shiftL] <;> omega
theorem envLt_shift {n k:Nat}:∀ {l:List (Nat × AV)},envLt n l → envLt (k+n) (shiftEnv k l)
 | [],_=>trivial
 | (_,_) :: _,h=>⟨lt_shift h.1,envLt_shift h.2⟩
structure Res where
 r:AV
 tab:ATab:=[]
 n:Nat:=0
structure Res.Ok (R:Res):Prop where
 young:∀ id o,R.tab.get id=some o → id<R.n ∧ o.lt R.n
 lt:R.r.lt R.n
def Enters (P:Program) (f:FuncId):Prop:=∀ (args:Array Value) (w:World),(callFunc f args).run P w=.ok (.enter f args) w
def ARel (P:Program) (f:FuncId) (args:List AV) (Post:Res → Prop):Prop:=
 Enters P f ∧ ∀ (S:Nat → Prop) (w:World) (vs:Array Value) (hS:SOk w S),vs.size=args.length → (∀ (j:Nat) (v:Value) (av:AV),vs[j]? = some v → args[j]? = some av → RT w S v av) →
  Calls P f vs w fun e w'=>∃ v L R,Post R ∧ R.Ok ∧ e=.returned v ∧ Lay (Cx.mk0 S w hS) w' R.tab L ∧ RVx (Cx.mk0 S w hS) w' R.tab L v R.r
def ADet (P:Program) (f:FuncId) (args:List AV) (R:Res):Prop:=ARel P f args fun R'=>R'=R
theorem ARel.mono {P:Program} {f:FuncId} {args:List AV} {Post Post':Res → Prop} (h:ARel P f args Post) (hp:∀ R,Post R → Post' R):ARel P f args Post':=
 ⟨h.1,fun S w vs h1 h2 h3=>(h.2 S w vs h1 h2 h3).mono fun e w' ⟨v,L,R,h4,h5⟩=>⟨v,L,R,hp R h4,h5⟩⟩
def stripA:AV → AV
 | .c v=>.c v
 | .sl sz rows=>.sl sz rows
 | .rp cs=>.rp cs
 | _=>.any
def dref0 (tab:ATab):AV → AV
 | .osl id=>match tab.get id with
  | some (.row _ sz rows)=>.sl sz rows
  | some (.nest _ sz rows)=>.sl sz (rows.map fun row=>row.map stripA)
  | _=>.any
 | .c v=>.c v
 | .sl sz rows=>.sl sz rows
 | .rp cs=>.rp cs
 | _=>.any
def dref1 (tab:ATab):AV → AV
 | .osl id=>match tab.get id with
  | some (.row _ sz rows)=>.sl sz rows
  | some (.nest _ sz rows)=>.sl sz (rows.map fun row=>row.map (dref0 tab))
  | _=>.any
 | .op _ _ _=>.any
 | .agg _=>.any
 | .tup _=>.any
 | .fn _ _=>.any
 | .bfn _ _=>.any
 | .any=>.any
 | .c v=>.c v
 | .sl sz rows=>.sl sz rows
 | .rp cs=>.rp cs
def dref2 (tab:ATab):AV → AV
 | .agg cs=>.agg (cs.map (dref1 tab))
 | .op id i j=>match tab.get id with
  | some (.box _ cells)=>if i=0 then .rp ((cells.drop j).map (dref1 tab)) else .any
  | some (.row _ _ rows)=>if i<rows.length then .rp ((rows[i]?.getD []).drop j) else .any
  | _=>.any
 | .osl id=>dref1 tab (.osl id)
 | .tup _=>.any
 | .fn _ _=>.any
 | .bfn _ _=>.any
 | .any=>.any
 | .c v=>.c v
 | .sl sz rows=>.sl sz rows
 | .rp cs=>.rp cs
def dref (tab:ATab):AV → AV
 | .fn f cs=>.fn f (cs.map (dref2 tab))
 | .bfn f cs=>.bfn f (cs.map (dref2 tab))
 | .agg cs=>.agg (cs.map (dref1 tab))
 | .op id i j=>match tab.get id with
  | some (.box _ cells)=>if i=0 then .rp ((cells.drop j).map (dref1 tab)) else .any
  | some (.row _ _ rows)=>if i<rows.length then .rp ((rows[i]?.getD []).drop j) else .any
  | _=>.any
 | .osl id=>dref1 tab (.osl id)
 | .tup _=>.any
 | .any=>.any
 | .c v=>.c v
 | .sl sz rows=>.sl sz rows
 | .rp cs=>.rp cs
def roA:AV → Prop
 | .osl _=>False
 | .op _ _ _=>False
 | .tup _=>False
 | .agg cs=>treeL cs
 | .fn _ cs=>treeL cs
 | .bfn _ cs=>treeL cs
 | _=>True
def roL:List AV → Prop
 | []=>True
 | a :: l=>roA a ∧ roL l
theorem roL_iff:∀ {l:List AV},roL l ↔ ∀ a ∈ l,roA a
 | []=>by simp [roL]
 | a :: l=>by simp [roL,roL_iff (l:=l)]
def aCallA (P:Program) (st:ASt) (f:FuncId) (avs:List AV) (K:AV → ASt → Prop):Prop:=
 ∃ Post:Res → Prop,ARel P f (avs.map (dref st.tab)) Post ∧ ∀ R,Post R → (roL avs ∨ (R.r.plain ∧ R.tab.plain)) ∧ K (R.r.shift st.next) { st with tab:=R.tab.shift st.next ++ st.tab,next:=st.next+R.n }
def aSame (P:Program) (st:ASt) (f:FuncId) (avs:List AV) (K:AV → ASt → Prop):Prop:=
 Enters P f ∧ ∃ v:Value,K (.c v) st ∧ ∀ (cx:Cx) (a:Act) (w:World) (L:Nat → Value) (vs:Array Value),Conc cx a w st L → vs.size=avs.length → (∀ (j:Nat) (v:Value) (av:AV),vs[j]? = some v → avs[j]? = some av → RVx cx w st.tab L v av) →
  Calls P f vs w fun e w'=>e=.returned v ∧ Below w.heap.size w w'
def aCall0 (P:Program) (st:ASt) (f:FuncId) (avs:List AV) (K:AV → ASt → Prop):Prop:=aCallA P st f avs K ∨ aSame P st f avs K
def AUpd (P:Program) (f:FuncId) (e:TypeId) (sz:Nat) (vals:List (List Value)) (rest:List Value) (vals':List (List Value)):Prop:=
 Enters P f ∧ ∀ (w:World) (v:Value) (base:Nat),OwnsR w base e sz v vals.length vals.flatten → Calls P f (v :: rest).toArray w fun ex w'=>∃ v',ex=.returned v' ∧ OwnsR w' base e sz v' vals'.length vals'.flatten ∧ w.grownBy w' v.ownBlock ∧ v'.ownBlock=v.ownBlock
def rowsC (vals:List (List Value)):List (List AV):=vals.map fun r=>r.map AV.c
def aUpd (P:Program) (st:ASt) (f:FuncId) (avs:List AV) (K:AV → ASt → Prop):Prop:=
 ∃ (id e sz:Nat) (vals:List (List Value)) (rest:List Value) (vals':List (List Value)),avs=.osl id :: rest.map .c ∧ st.tab.get id=some (.row e sz (rowsC vals)) ∧ AUpd P f e sz vals rest vals' ∧ (∀ r ∈ vals',r.length=sz ∧ ∀ x ∈ r,x.oneCell'=true) ∧
  K (.osl st.next) { st with tab:=appTab st.tab st.next (some id) (.row e sz (rowsC vals')),next:=st.next+1 }
def aCallZ (P:Program) (st:ASt) (f:FuncId) (avs:List AV) (K:AV → ASt → Prop):Prop:=∃ ids,aCall0 P (frzs st ids) f (frzAVs st ids avs) K
def RowAt (w:World) (S:Nat → Prop) (base:Nat) (e:TypeId) (sz:Nat) (v:Value) (rows:List (List AV)):Prop:=
 (∀ row ∈ rows,row.length=sz) ∧ ∃ xs,OwnsR w base e sz v rows.length xs ∧ (∀ x ∈ xs,x.oneCell'=true) ∧ ∀ (i j:Nat) (row:List AV) (av:AV),rows[i]? = some row → row[j]? = some av → ∃ x,xs[i * sz+j]? = some x ∧ RT w S x av
def AMut (P:Program) (f:FuncId) (e:TypeId) (sz:Nat) (rows:List (List AV)) (args:List AV) (rows':List (List AV)):Prop:=
 Enters P f ∧ ∀ (S:Nat → Prop) (w:World) (base:Nat) (v:Value) (vs:Array Value),SOk w S → ambD≤base → RowAt w S base e sz v rows → (∀ g,vblk v=some g → ¬ S g) → vs.size=args.length → (∀ (j:Nat) (x:Value) (av:AV),vs[j]? = some x → args[j]? = some av → RT w S x av) →
  Calls P f (#[v] ++ vs) w fun ex w'=>ex=.returned (.tuple #[]) ∧ (w'.os=w.os ∧ w'.tape=w.tape ∧ w'.output=w.output) ∧ w.heap.size≤w'.heap.size ∧ (∀ k,k<w.heap.size → vblk v ≠ some k → w'.heap[k]? = w.heap[k]?) ∧ RowAt w' (fun b=>(S b ∨ w.heap.size≤b) ∧ b<w'.heap.size) base e sz v rows'
def aMut (P:Program) (st:ASt) (f:FuncId) (avs:List AV) (K:AV → ASt → Prop):Prop:=
 ∃ (id e sz:Nat) (rows rows':List (List AV)) (rest:List AV),avs=.osl id :: rest ∧ st.tab.get id=some (.row e sz rows) ∧ treeML rest ∧ AMut P f e sz rows rest rows' ∧ K (.tup []) { st with tab:=(id,some (.row e sz rows')) :: st.tab }
def aInl (P:Program) (st:ASt) (f:FuncId) (avs:List AV) (K:AV → ASt → Prop):Prop:=
 Enters P f ∧ ∀ (cx:Cx) (a:Act) (w:World) (L:Nat → Value) (vs:Array Value) (dst:Option Nat),Conc cx a w st L → vs.size=avs.length → (∀ (j:Nat) (v:Value) (av:AV),vs[j]? = some v → avs[j]? = some av → RVx cx w st.tab L v av ∧ av.lt st.next) →
  Calls P f vs w fun e w'=>∃ v av st' L',e=.returned v ∧ K av st' ∧ Conc cx (a.put dst v) w' (st'.put dst av) L' ∧ Fr cx w st.tab L st.next w' st'.tab L' st'.next
def aUpdM (P:Program) (st:ASt) (f:FuncId) (avs:List AV) (K:AV → ASt → Prop):Prop:=aUpd P st f avs K ∨ aMut P st f avs K ∨ aInl P st f avs K
mutual
def AV.ren (l:List Nat):AV → AV
 | .osl id=>.osl (l.getD id 0)
 | .op id i j=>.op (l.getD id 0) i j
 | .agg cs=>.agg (AV.renL l cs)
 | .tup cs=>.tup (AV.renL l cs)
 | .fn f cs=>.fn f (AV.renL l cs)
 | .bfn f cs=>.bfn f (AV.renL l cs)
 | .any=>.any
 | .c v=>.c v
 | .sl sz rows=>.sl sz rows
 | .rp cs=>.rp cs
def AV.renL (l:List Nat):List AV → List AV
 | []=>[]
 | a :: l2=>a.ren l :: AV.renL l l2
end
theorem renL_map (l:List Nat):∀ l2:List AV,AV.renL l l2=l2.map (·.ren l)
 | []=>rfl
 | a :: l2=>by simp [AV.renL,renL_map l l2]
def aMay (nx0:Nat) (ids:List Nat) (id:Nat):Prop:=id ∈ ids ∨ nx0≤id
def tabN:Nat → List AObj → ATab
 | _,[]=>[]
 | k,o :: l=>(k,some o) :: tabN (k+1) l
def plainO:AObj → Prop
 | .row _ _ _=>True
 | .map _=>True
 | _=>False
def AMth (P:Program) (f:FuncId) (t:TypeId) (cells:List AV) (objs:List AObj) (rest:List AV) (Post:AV → List AV → List AObj → Prop):Prop:=
 Enters P f ∧ AV.ltL (objs.length+1) cells ∧ ∀ (cx:Cx) (w:World) (L:Nat → Value) (vs:Array Value),Lay cx w (tabN 0 (.box t cells :: objs)) L → vs.size=rest.length+1 → (∀ x,vs[0]? = some x → x=L 0) →
  (∀ (j:Nat) (x:Value) (av:AV),vs[j+1]? = some x → rest[j]? = some av → RT w (Sx cx w (tabN 0 (.box t cells :: objs)) L) x av) →
  Calls P f vs w fun e w'=>∃ v av cells' objs' L',e=.returned v ∧ Post av cells' objs' ∧ Lay cx w' (tabN 0 (.box t cells' :: objs')) L' ∧ RT w' (Sx cx w' (tabN 0 (.box t cells' :: objs')) L') v av ∧ L' 0=L 0 ∧ cells'.length=cells.length ∧
   AV.ltL (objs'.length+1) cells' ∧ (∀ o ∈ objs',plainO o) ∧ Fz w (tabN 0 (.box t cells :: objs)) L w' (tabN 0 (.box t cells' :: objs')) L'
def AMthA (P:Program) (f:FuncId) (t:TypeId) (cells:List AV) (objs:List AObj) (args:List AV) (Post:AV → List AV → List AObj → Prop):Prop:=
 Enters P f ∧ AV.ltL (objs.length+1) cells ∧ ∀ (cx:Cx) (w:World) (L:Nat → Value) (vs:Array Value),Lay cx w (tabN 0 (.box t cells :: objs)) L → vs.size=args.length →
  (∀ (j:Nat) (x:Value) (av:AV),vs[j]? = some x → args[j]? = some av → RVx cx w (tabN 0 (.box t cells :: objs)) L x av) →
  Calls P f vs w fun e w'=>∃ v av cells' objs' L',e=.returned v ∧ Post av cells' objs' ∧ Lay cx w' (tabN 0 (.box t cells' :: objs')) L' ∧ RT w' (Sx cx w' (tabN 0 (.box t cells' :: objs')) L') v av ∧ L' 0=L 0 ∧ cells'.length=cells.length ∧
   AV.ltL (objs'.length+1) cells' ∧ (∀ o ∈ objs',plainO o) ∧ Fz w (tabN 0 (.box t cells :: objs)) L w' (tabN 0 (.box t cells' :: objs')) L'
def objsAt (tab:ATab):List Nat → List AObj → Prop
 | [],[]=>True
 | i :: is,o :: os=>(tab.get i=some o ∧ plainO o) ∧ objsAt tab is os
 | _,_=>False
def aMethTab (st:ASt) (b:Nat) (ids:List Nat) (t:TypeId) (cells:List AV) (objs:List AObj):ATab:=
 (b,some (.box t (AV.renL (b :: List.range' st.next objs.length) cells))) :: (tabN st.next objs ++ (ids.map (fun i=>(i,none)) ++ st.tab))
def aMeth (u:Option (Nat × List Nat)) (P:Program) (st:ASt) (f:FuncId) (avs:List AV) (K:AV → ASt → Prop):Prop:=
 ∃ (t:TypeId) (cells:List AV) (objs:List AObj) (args:List AV) (Post:AV → List AV → List AObj → Prop) (b:Nat) (ids:List Nat),AMthA P f t cells objs args Post ∧ avs=AV.renL (b :: ids) args ∧
  st.tab.get b=some (.box t (AV.renL (b :: ids) cells)) ∧ objsAt st.tab ids objs ∧ (b :: ids).Nodup ∧ (∀ p,u=some p → ∀ id ∈ b :: ids,aMay p.1 p.2 id) ∧
  ∀ av cells' objs',Post av cells' objs' → K av { st with tab:=aMethTab st b ids t cells' objs',next:=st.next+objs'.length }
def aCall (u:Option (Nat × List Nat)) (P:Program) (st:ASt) (f:FuncId) (avs:List AV) (K:AV → ASt → Prop):Prop:=aCall0 P st f avs K ∨ (u=none ∧ (aUpdM P st f avs K ∨ aCallZ P st f avs K)) ∨ aMeth u P st f avs K
section
variable {P:Program} {cx:Cx} {a:Act} {w w':World} {tab:ATab} {st:ASt} {L:Nat → Value} {nx:Nat}
theorem row_tree {e:TypeId} {sz:Nat} {v:Value} {rows:List (List AV)} (h:ObjAt cx w tab L v (.row e sz rows)):RT w (fun b=>b<w.heap.size) v (.sl sz rows):=by
 obtain ⟨hrow,xs,hown,hone,hx⟩:=h
 have hm:∀ i j row av,rows[i]? = some row → row[j]? = some av → (xs[i * sz+j]?.getD undef).oneCell'=true ∧ RT w (fun b=>b<w.heap.size) (xs[i * sz+j]?.getD undef) av ∧ ∃ x,xs[i * sz+j]? = some x:=fun i j row av h1 h2=>by
  obtain ⟨x,hx1,hx2⟩:=hx i j row av h1 h2
  rw [hx1]
  exact ⟨hone x (List.mem_of_getElem? hx1),hx2.mono (fun _ _=>rfl) (fun b hb=>hb.1),x,rfl⟩
 rcases hown.2 with ⟨rfl,h0⟩|⟨g,cap,cur,rfl,hb,hg,hc,hm',_⟩
 ·exact .sl none _ 0 sz rows 0 0 (fun i j=>xs[i * sz+j]?.getD undef) h0.symm (Nat.le_refl _) (by omega) (fun h=>by omega) hrow (fun h=>by omega) (fun i j row av h1 h2=>(hm i j row av h1 h2).1) (fun i j row av h1 h2=>(hm i j row av h1 h2).2.1)
 ·refine .sl _ _ cap sz rows g 0 (fun i j=>xs[i * sz+j]?.getD undef) rfl hc (by simpa [maxLen] using hm') (fun _=>⟨rfl,(Array.getElem?_eq_some_iff.1 hg).1⟩) hrow (fun _ i j row av h1 h2=>?_) (fun i j row av h1 h2=>(hm i j row av h1 h2).1) (fun i j row av h1 h2=>(hm i j row av h1 h2).2.1)
  obtain ⟨x,hx⟩:=(hm i j row av h1 h2).2.2
  have:=hown.cells (g:=g) rfl _ x hx
  rw [addAddr0] at this
  rw [hx,Nat.zero_add]
  exact this
theorem nest_tree {e:TypeId} {sz:Nat} {v:Value} {rows:List (List AV)} (f:AV → AV) (hf:∀ x av,RVx cx w tab L x av → RT w (fun b=>b<w.heap.size) x (f av)) (h:ObjAt cx w tab L v (.nest e sz rows)):RT w (fun b=>b<w.heap.size) v (.sl sz (rows.map fun row=>row.map f)):=by
 obtain ⟨hrow,xs,hown,hone,hx⟩:=h
 have hg:∀ i j (row:List AV) (av:AV),(rows.map fun row=>row.map f)[i]? = some row → row[j]? = some av → ∃ row' av',rows[i]? = some row' ∧ row'[j]? = some av' ∧ av=f av':=fun i j row av h1 h2=>by
  rw [List.getElem?_map] at h1
  cases hi:rows[i]? with
  | none=>simp [hi] at h1
  | some row'=>
   simp [hi] at h1
   subst h1
   rw [List.getElem?_map] at h2
   cases hj:row'[j]? with
   | none=>simp [hj] at h2
   | some av'=>
    simp [hj] at h2
    exact ⟨row',av',hi,hj,h2.symm⟩
 have hm:∀ i j (row:List AV) (av:AV),(rows.map fun row=>row.map f)[i]? = some row → row[j]? = some av → (xs[i * sz+j]?.getD undef).oneCell'=true ∧ RT w (fun b=>b<w.heap.size) (xs[i * sz+j]?.getD undef) av ∧ ∃ x,xs[i * sz+j]? = some x:=fun i j row av h1 h2=>by
  obtain ⟨row',av',h3,h4,rfl⟩:=hg i j row av h1 h2
  obtain ⟨x,hx1,hx2⟩:=hx i j row' av' h3 h4
  rw [hx1]
  exact ⟨hone x (List.mem_of_getElem? hx1),hf x av' hx2,x,rfl⟩
 have hrow':∀ row ∈ (rows.map fun row=>row.map f),row.length=sz:=fun row hr=>by
  obtain ⟨r,h1,rfl⟩:=List.mem_map.1 hr
  rw [List.length_map]
  exact hrow r h1
 rcases hown.2 with ⟨rfl,h0⟩|⟨g,cap,cur,rfl,hb,hgh,hc,hm',_⟩
 ·exact .sl none _ 0 sz _ 0 0 (fun i j=>xs[i * sz+j]?.getD undef) (by rw [List.length_map];exact h0.symm) (Nat.le_refl _) (by omega) (fun h=>by omega) hrow' (fun h=>by omega) (fun i j row av h1 h2=>(hm i j row av h1 h2).1) (fun i j row av h1 h2=>(hm i j row av h1 h2).2.1)
 ·refine .sl _ _ cap sz _ g 0 (fun i j=>xs[i * sz+j]?.getD undef) (by rw [List.length_map]) hc (by simpa [maxLen] using hm') (fun _=>⟨rfl,(Array.getElem?_eq_some_iff.1 hgh).1⟩) hrow' (fun _ i j row av h1 h2=>?_) (fun i j row av h1 h2=>(hm i j row av h1 h2).1) (fun i j row av h1 h2=>(hm i j row av h1 h2).2.1)
  obtain ⟨x,hx⟩:=(hm i j row av h1 h2).2.2
  have:=hown.cells (g:=g) rfl _ x hx
  rw [addAddr0] at this
  rw [hx,Nat.zero_add]
  exact this
theorem strip_ok {x:Value} {av:AV} (h:RVx cx w tab L x av):RT w (fun b=>b<w.heap.size) x (stripA av):=by
 cases av with
 | c v=>
  obtain rfl:=h.c_inv
  exact .c x
 | sl sz rows=>exact h.sl_inv.mono (fun _ _=>rfl) fun b hb=>hb.1
 | rp cs=>exact (show RT w (Sx cx w tab L) x (.rp cs) by cases h with | tree h=>exact h).mono (fun _ _=>rfl) fun b hb=>hb.1
 | _=>exact .any _
theorem dref0_ok (hL:Lay cx w tab L) {x:Value} {av:AV} (h:RVx cx w tab L x av):RT w (fun b=>b<w.heap.size) x (dref0 tab av):=by
 cases av with
 | osl id=>
  unfold dref0
  simp only
  split
  ·rename_i e sz rows hid
   rw [(osl_row hL hid h).1]
   exact row_tree (hL.objs id _ hid)
  ·rename_i e sz rows hid
   rw [(osl_nest hL hid h).1]
   exact nest_tree stripA (fun x av h=>strip_ok h) (hL.objs id _ hid)
  ·exact .any _
 | c v=>exact strip_ok h
 | sl sz rows=>exact strip_ok h
 | rp cs=>exact strip_ok h
 | _=>exact .any _
theorem dref1_ok (hL:Lay cx w tab L) {x:Value} {av:AV} (h:RVx cx w tab L x av):RT w (fun b=>b<w.heap.size) x (dref1 tab av):=by
 cases av with
 | osl id=>
  unfold dref1
  simp only
  split
  ·rename_i e sz rows hid
   rw [h.osl_inv _ _ (kx_of hid)]
   exact row_tree (hL.objs id _ hid)
  ·rename_i e sz rows hid
   rw [(osl_nest hL hid h).1]
   exact nest_tree (dref0 tab) (fun x av h=>dref0_ok hL h) (hL.objs id _ hid)
  ·exact .any _
 | op=>exact .any _
 | agg=>exact .any _
 | tup=>exact .any _
 | fn=>exact .any _
 | bfn=>exact .any _
 | _=>
  cases h with
  | tree h=>exact h.mono (fun _ _=>rfl) (fun b hb=>hb.1)
theorem dref2_ok (hL:Lay cx w tab L) {x:Value} {av:AV} (h:RVx cx w tab L x av):RT w (fun b=>b<w.heap.size) x (dref2 tab av):=by
 cases av with
 | agg cs=>
  obtain ⟨xs,rfl,hn,hr⟩:=h.agg_inv
  refine .agg xs _ (by simpa using hn) fun j x av h1 h2=>?_
  rw [List.getElem?_map] at h2
  cases hj:cs[j]? with
  | none=>simp [hj] at h2
  | some av'=>
   simp [hj] at h2
   subst h2
   exact dref1_ok hL (hr j x av' h1 hj)
 | op id i j=>
  unfold dref2
  simp only
  split
  ·rename_i t cells hid
   split
   ·rename_i h0
    subst h0
    obtain ⟨g,hg,rfl⟩:=h.op_inv _ _ (kx_of hid)
    have hob:=hL.objs id _ hid
    rw [Nat.zero_mul,Nat.zero_add]
    have key:∀ k av,((cells.drop j).map (dref1 tab))[k]? = some av → ∃ u,w.cell? ⟨g,j+k,none⟩=some u ∧ RT w (fun b=>b<w.heap.size) u av:=fun k av hk=>by
     rw [List.getElem?_map,List.getElem?_drop] at hk
     cases hc:cells[j+k]? with
     | none=>simp [hc] at hk
     | some av'=>
      simp [hc] at hk
      subst hk
      obtain ⟨u,h1,h2⟩:=box_cells hob hg (j+k) av' hc
      exact ⟨u,h1,dref1_ok hL h2⟩
    refine .rp g j _ (fun k=>(w.cell? ⟨g,j+k,none⟩).getD undef) (hob.ge hg).2 (fun k av hk=>?_) (fun k av hk=>?_)
    ·obtain ⟨u,h1,h2⟩:=key k av hk
     simp [h1]
    ·obtain ⟨u,h1,h2⟩:=key k av hk
     simpa [h1] using h2
   ·exact .any _
  ·rename_i e sz rows hid
   split
   ·rename_i hi
    obtain ⟨g,hg,rfl⟩:=h.op_inv _ _ (kx_of hid)
    have hob:=hL.objs id _ hid
    have key:∀ k av,((rows[i]?.getD []).drop j)[k]? = some av → ∃ u,w.cell? ⟨g,i * sz+j+k,none⟩=some u ∧ RT w (fun b=>b<w.heap.size) u av:=fun k av hk=>by
     rw [List.getElem?_drop] at hk
     obtain ⟨u,h1,h2⟩:=row_cells hob hg hi (j+k) av hk
     rw [← Nat.add_assoc] at h1
     exact ⟨u,h1,h2.mono (fun _ _=>rfl) (fun b hb=>hb.1)⟩
    refine .rp g (i * sz+j) _ (fun k=>(w.cell? ⟨g,i * sz+j+k,none⟩).getD undef) (hob.ge hg).2 (fun k av hk=>?_) (fun k av hk=>?_)
    ·obtain ⟨u,h1,h2⟩:=key k av hk
     simp [h1]
    ·obtain ⟨u,h1,h2⟩:=key k av hk
     simpa [h1] using h2
   ·exact .any _
  ·exact .any _
 | osl id=>exact dref1_ok hL h
 | tup=>exact .any _
 | fn=>exact .any _
 | bfn=>exact .any _
 | any=>exact dref1_ok hL h
 | c v=>exact dref1_ok hL h
 | sl sz rows=>exact dref1_ok hL h
 | rp cs=>exact dref1_ok hL h
theorem dref_ok (hL:Lay cx w tab L) {x:Value} {av:AV} (h:RVx cx w tab L x av):RT w (fun b=>b<w.heap.size) x (dref tab av):=by
 cases av with
 | agg cs=>
  obtain ⟨xs,rfl,hn,hr⟩:=h.agg_inv
  refine .agg xs _ (by simpa using hn) fun j x av h1 h2=>?_
  rw [List.getElem?_map] at h2
  cases hj:cs[j]? with
  | none=>simp [hj] at h2
  | some av'=>
   simp [hj] at h2
   subst h2
   exact dref1_ok hL (hr j x av' h1 hj)
 | op id i j=>
  unfold dref
  simp only
  split
  ·rename_i t cells hid
   split
   ·rename_i h0
    subst h0
    obtain ⟨g,hg,rfl⟩:=h.op_inv _ _ (kx_of hid)
    have hob:=hL.objs id _ hid
    rw [Nat.zero_mul,Nat.zero_add]
    have key:∀ k av,((cells.drop j).map (dref1 tab))[k]? = some av → ∃ u,w.cell? ⟨g,j+k,none⟩=some u ∧ RT w (fun b=>b<w.heap.size) u av:=fun k av hk=>by
     rw [List.getElem?_map,List.getElem?_drop] at hk
     cases hc:cells[j+k]? with
     | none=>simp [hc] at hk
     | some av'=>
      simp [hc] at hk
      subst hk
      obtain ⟨u,h1,h2⟩:=box_cells hob hg (j+k) av' hc
      exact ⟨u,h1,dref1_ok hL h2⟩
    refine .rp g j _ (fun k=>(w.cell? ⟨g,j+k,none⟩).getD undef) (hob.ge hg).2 (fun k av hk=>?_) (fun k av hk=>?_)
    ·obtain ⟨u,h1,h2⟩:=key k av hk
     simp [h1]
    ·obtain ⟨u,h1,h2⟩:=key k av hk
     simpa [h1] using h2
   ·exact .any _
  ·rename_i e sz rows hid
   split
   ·rename_i hi
    obtain ⟨g,hg,rfl⟩:=h.op_inv _ _ (kx_of hid)
    have hob:=hL.objs id _ hid
    have key:∀ k av,((rows[i]?.getD []).drop j)[k]? = some av → ∃ u,w.cell? ⟨g,i * sz+j+k,none⟩=some u ∧ RT w (fun b=>b<w.heap.size) u av:=fun k av hk=>by
     rw [List.getElem?_drop] at hk
     obtain ⟨u,h1,h2⟩:=row_cells hob hg hi (j+k) av hk
     rw [← Nat.add_assoc] at h1
     exact ⟨u,h1,h2.mono (fun _ _=>rfl) (fun b hb=>hb.1)⟩
    refine .rp g (i * sz+j) _ (fun k=>(w.cell? ⟨g,i * sz+j+k,none⟩).getD undef) (hob.ge hg).2 (fun k av hk=>?_) (fun k av hk=>?_)
    ·obtain ⟨u,h1,h2⟩:=key k av hk
     simp [h1]
    ·obtain ⟨u,h1,h2⟩:=key k av hk
     simpa [h1] using h2
   ·exact .any _
  ·exact .any _
 | osl id=>exact dref1_ok hL h
 | tup=>exact .any _
 | fn f cs=>
  obtain ⟨xs,rfl,hn,hr⟩:=h.fn_inv
  refine .fn f xs _ (by simpa using hn) fun j x av h1 h2=>?_
  rw [List.getElem?_map] at h2
  cases hj:cs[j]? with
  | none=>simp [hj] at h2
  | some av'=>
   simp [hj] at h2
   subst h2
   exact dref2_ok hL (hr j x av' h1 hj)
 | bfn f cs=>
  obtain ⟨xs,rfl,hn,hr⟩:=h.bfn_inv
  refine .bfn f xs _ (by simpa using hn) fun j x av h1 h2=>?_
  rw [List.getElem?_map] at h2
  cases hj:cs[j]? with
  | none=>simp [hj] at h2
  | some av'=>
   simp [hj] at h2
   subst h2
   exact dref2_ok hL (hr j x av' h1 hj)
 | any=>exact dref1_ok hL h
 | c v=>exact dref1_ok hL h
 | sl sz rows=>exact dref1_ok hL h
 | rp cs=>exact dref1_ok hL h
theorem dref_ro {x:Value} {av:AV} (h:RVx cx w tab L x av) (hr:roA av):RT w (Sx cx w tab L) x (dref tab av):=by
 cases av with
 | agg cs=>
  obtain ⟨xs,rfl,hn,hx⟩:=h.agg_inv
  refine .agg xs _ (by simpa using hn) fun j x av h1 h2=>?_
  rw [List.getElem?_map] at h2
  cases hj:cs[j]? with
  | none=>simp [hj] at h2
  | some av'=>
   simp [hj] at h2
   subst h2
   have ht:=treeL_iff.1 hr av' (List.mem_of_getElem? hj)
   have:=tree_of (hx j x av' h1 hj) ht
   cases av' <;> first | exact ht.elim | exact this
 | osl=>exact hr.elim
 | op=>exact hr.elim
 | tup=>exact hr.elim
 | fn f cs=>
  obtain ⟨xs,rfl,hn,hx⟩:=h.fn_inv
  refine .fn f xs _ (by simpa using hn) fun j x av h1 h2=>?_
  rw [List.getElem?_map] at h2
  cases hj:cs[j]? with
  | none=>simp [hj] at h2
  | some av'=>
   simp [hj] at h2
   subst h2
   have ht:=treeL_iff.1 hr av' (List.mem_of_getElem? hj)
   have:=tree_of (hx j x av' h1 hj) ht
   cases av' <;> first | exact ht.elim | exact this
 | bfn f cs=>
  obtain ⟨xs,rfl,hn,hx⟩:=h.bfn_inv
  refine .bfn f xs _ (by simpa using hn) fun j x av h1 h2=>?_
  rw [List.getElem?_map] at h2
  cases hj:cs[j]? with
  | none=>simp [hj] at h2
  | some av'=>
   simp [hj] at h2
   subst h2
   have ht:=treeL_iff.1 hr av' (List.mem_of_getElem? hj)
   have:=tree_of (hx j x av' h1 hj) ht
   cases av' <;> first | exact ht.elim | exact this
 | any=>exact tree_of h trivial
 | c v=>exact tree_of h trivial
 | sl sz rows=>exact tree_of h trivial
 | rp cs=>exact tree_of h trivial
theorem call_okA {f:FuncId} {vs:Array Value} {avs:List AV} {K:AV → ASt → Prop} (h:Conc cx a w st L) (hn:vs.size=avs.length) (hv:∀ (j:Nat) (v:Value) (av:AV),vs[j]? = some v → avs[j]? = some av → RVx cx w st.tab L v av) (hK:aCallA P st f avs K) (dst:Option Nat) :
  Calls P f vs w fun e w'=>∃ v av st' L',e=.returned v ∧ K av st' ∧ Conc cx (a.put dst v) w' (st'.put dst av) L' ∧ Below w.heap.size w w' ∧ (∀ id,id<st.next → st'.tab.get id=st.tab.get id ∧ L' id=L id) ∧ (∀ id o g,st.next≤id → st'.tab.get id=some o → vblk (L' id)=some g → w.heap.size≤g) ∧ st.next≤st'.next:=by
 obtain ⟨Post,⟨_,hdet⟩,hK⟩:=hK
 obtain ⟨S,hS1,hS2,hSv⟩:∃ S:Nat → Prop,SOk w S ∧ ((∀ b,S b → Sx cx w st.tab L b) ∨ ¬ roL avs) ∧ ∀ (j:Nat) (v:Value) (av:AV),vs[j]? = some v → (avs.map (dref st.tab))[j]? = some av → RT w S v av:=by
  by_cases hro:roL avs
  ·refine ⟨Sx cx w st.tab L,h.lay.sok,.inl fun b hb=>hb,fun j v av h1 h2=>?_⟩
   rw [List.getElem?_map] at h2
   cases hj:avs[j]? with
   | none=>simp [hj] at h2
   | some av'=>
    simp [hj] at h2
    subst h2
    exact dref_ro (hv j v av' h1 hj) (roL_iff.1 hro av' (List.mem_of_getElem? hj))
  ·refine ⟨fun b=>b<w.heap.size,⟨fun b hb=>hb,h.lay.amb,fun b hb=>Nat.lt_of_lt_of_le hb h.lay.amb.le⟩,.inr hro,fun j v av h1 h2=>?_⟩
   rw [List.getElem?_map] at h2
   cases hj:avs[j]? with
   | none=>simp [hj] at h2
   | some av'=>
    simp [hj] at h2
    subst h2
    exact dref_ok h.lay (hv j v av' h1 hj)
 refine (hdet S w vs hS1 (by simpa using hn) hSv).mono ?_
 rintro e w' ⟨v,L2,R,hPost,hok,rfl,hlay,hr⟩
 obtain ⟨hro,hK⟩:=hK R hPost
 have hS2:(∀ b,S b → Sx cx w st.tab L b) ∨ (R.r.plain ∧ R.tab.plain):=by
  rcases hro with hro|hp
  ·exact .inl (hS2.resolve_right fun hn=>hn hro)
  ·exact .inr hp
 have hbw:cx.w0.heap.size≤w.heap.size:=h.lay.below.size
 have hbel:Below w.heap.size w w':=hlay.below.below fun b hb=>hb
 have hget:=shift_get (tab:=st.tab) (k:=st.next) (fun id o hid=>(h.young id o hid).1) R.tab
 let L':Nat → Value:=fun id=>if id<st.next then L id else L2 (id - st.next)
 have hL1:∀ id,id<st.next → L' id=L id:=fun id hid=>if_pos hid
 have hL2:∀ id,¬ id<st.next → L' id=L2 (id - st.next):=fun id hid=>if_neg hid
 have hnew:∀ id o,st.next≤id → (R.tab.shift st.next ++ st.tab).get id=some o → ∃ o',R.tab.get (id - st.next)=some o' ∧ o=o'.shift st.next:=fun id o h1 h2=>by
  rw [hget,if_neg (by omega)] at h2
  cases ho:R.tab.get (id - st.next) with
  | none=>simp [ho] at h2
  | some o'=>
   simp [ho] at h2
   exact ⟨o',rfl,h2.symm⟩
 have hge:∀ id o g,R.tab.get id=some o → vblk (L2 id)=some g → w.heap.size≤g:=fun id o g h1 h2=>((hlay.objs id o h1).ge h2).1
 have hold:∀ id,id<st.next → (R.tab.shift st.next ++ st.tab).get id=st.tab.get id ∧ L' id=L id:=fun id hid=>⟨by rw [hget,if_pos hid],hL1 id hid⟩
 have hnew':∀ id o g,st.next≤id → (R.tab.shift st.next ++ st.tab).get id=some o → vblk (L' id)=some g → w.heap.size≤g:=fun id o g h1 h2 h3=>by
  obtain ⟨o',ho,_⟩:=hnew id o h1 h2
  rw [hL2 id (by omega)] at h3
  exact hge _ o' g ho h3
 have hext:Ext cx w st.tab L st.next w' (R.tab.shift st.next ++ st.tab) L':=ext_merge hbel hold (fun id o hid=>(h.young id o hid).1) hnew'
 have hsz:∀ (o:AObj) k,(o.shift k).sz=o.sz:=fun o k=>by cases o <;> simp [AObj.shift,AObj.sz,shiftL_map]
 have hKx:∀ id p,Kx (R.tab.shift st.next ++ st.tab) L' (id+st.next)=some p → Kx R.tab L2 id=some p:=fun id p hk=>by
  unfold Kx at *
  rw [hget,if_neg (by omega),hL2 _ (by omega),Nat.add_sub_cancel] at hk
  cases ho:R.tab.get id with
  | none=>simp [ho] at hk
  | some o=>simpa [ho,hsz] using hk
 have hsub:(∀ b,Sx (Cx.mk0 S w hS1) w' R.tab L2 b → Sx cx w' (R.tab.shift st.next ++ st.tab) L' b) ∨ (R.r.plain ∧ R.tab.plain):=by
  rcases hS2 with hS2|hp
  ·refine .inl fun b hb=>⟨hb.1,?_,fun id o hid hg=>?_⟩
   ·rcases hb.2.1.1 with h1 | h1
    ·exact (hS2 b h1).2.1
    ·exact ⟨.inr (Nat.le_trans hbw h1),fun hX=>absurd (h.lay.ex b hX).1 (Nat.not_lt.2 h1)⟩
   ·by_cases hlt:id<st.next
    ·rw [hget,if_pos hlt] at hid
     rw [hL1 id hlt] at hg
     rcases hb.2.1.1 with h1|h1
     ·exact (hS2 b h1).2.2 id o hid hg
     ·have:=((h.lay.objs id o hid).ge hg).2
      have h1:w.heap.size≤b:=h1
      omega
    ·obtain ⟨o',ho,_⟩:=hnew id o (by omega) hid
     rw [hL2 id hlt] at hg
     exact hb.2.2 _ o' ho hg
  ·exact .inr hp
 refine ⟨v,R.r.shift st.next,{ st with tab:=R.tab.shift st.next ++ st.tab,next:=st.next+R.n },L',rfl,hK,conc_put h (lay_merge h.lay h.young hbel hold (fun id o h1 h2=>?_) hnew' fun id id' o o' g h1 h2 h3 h4 h5 h6=>?_) hext (Nat.le_add_right _ _) (fun id o hid=>?_) (hr.conv (hsub.imp (fun h=>h) (·.1)) hKx) (lt_shift hok.lt) dst,hbel,hold,hnew',Nat.le_add_right _ _⟩
 ·obtain ⟨o',ho,rfl⟩:=hnew id o h1 h2
  rw [hL2 id (by omega)]
  have hob:=hlay.objs _ o' ho
  have hpl:R.tab.plain → o'.plain:=fun hp=>plain_get hp ho
  cases o' with
  | box t cells=>
   obtain ⟨g,cs,h3,h4,h5,h6,h7⟩:=hob
   refine ⟨g,cs,h3,Nat.le_trans hbw h4,h5,by simpa [shiftL_map] using h6,fun j x av h8 h9=>?_⟩
   rw [shiftL_map,List.getElem?_map] at h9
   cases hj:cells[j]? with
   | none=>simp [hj] at h9
   | some av'=>
    simp [hj] at h9
    subst h9
    exact ⟨(h7 j x av' h8 hj).1.conv (hsub.imp (fun h=>h) fun hp=>plainL_iff.1 (hpl hp.2) _ (List.mem_of_getElem? hj)) hKx,(h7 j x av' h8 hj).2⟩
  | row e sz rows=>
   obtain ⟨h3,xs,hown,h5,h6⟩:=hob
   refine ⟨h3,xs,hown.base hbw,h5,fun i j row av h7 h8=>?_⟩
   obtain ⟨x,hx,hrt⟩:=h6 i j row av h7 h8
   refine ⟨x,hx,?_⟩
   rcases hsub with hs|hp
   ·exact hrt.mono (fun _ _=>rfl) hs
   ·exact hrt.plain (hpl hp.2 row (List.mem_of_getElem? h7) av (List.mem_of_getElem? h8))
  | nest e sz rows=>
   obtain ⟨h3,xs,hown,h5,h6⟩:=hob
   refine ⟨fun row hr=>?_,xs,by rw [List.length_map];exact hown.base hbw,h5,fun i j row av h7 h8=>?_⟩
   ·obtain ⟨r,hr',rfl⟩:=List.mem_map.1 hr
    rw [shiftL_map,List.length_map]
    exact h3 r hr'
   ·rw [List.getElem?_map] at h7
    cases hi:rows[i]? with
    | none=>simp [hi] at h7
    | some row'=>
     simp [hi] at h7
     subst h7
     rw [shiftL_map,List.getElem?_map] at h8
     cases hj:row'[j]? with
     | none=>simp [hj] at h8
     | some av'=>
      simp [hj] at h8
      subst h8
      obtain ⟨x,h9,h10⟩:=h6 i j row' av' hi hj
      exact ⟨x,h9,h10.conv (hsub.imp (fun h=>h) fun hp=>hpl hp.2 row' (List.mem_of_getElem? hi) av' (List.mem_of_getElem? hj)) hKx⟩
  | map ents=>
   obtain ⟨g,es,ck,h3,h4,h5,h6⟩:=hob
   exact ⟨g,es,ck,h3,Nat.le_trans hbw h4,h5,h6⟩
  | ghost vs env=>
   refine ⟨hob.1,fun t ht=>?_⟩
   rw [shiftEnv_get]
   exact (hob.2 t ht).conv (hsub.imp (fun h=>h) fun hp=>(hpl hp.2).elim) hKx
 ·obtain ⟨o1,ho1,_⟩:=hnew id o h1 h3
  obtain ⟨o2,ho2,_⟩:=hnew id' o' h2 h4
  rw [hL2 id (by omega)] at h5
  rw [hL2 id' (by omega)] at h6
  have:=hlay.sep _ _ o1 o2 g ho1 ho2 h5 h6
  omega
 ·by_cases hlt:id<st.next
  ·rw [hget,if_pos hlt] at hid
   have hy:=h.young id o hid
   refine ⟨by omega,?_⟩
   cases o with
   | box t cells=>exact ltL_iff.2 fun x hx=>AV.lt_mono (Nat.le_add_right _ _) (ltL_iff.1 hy.2 x hx)
   | row=>trivial
   | map=>trivial
   | nest e sz rows=>exact fun row hr=>ltL_iff.2 fun x hx=>AV.lt_mono (Nat.le_add_right _ _) (ltL_iff.1 (hy.2 row hr) x hx)
   | ghost vs env=>exact envLt_mono (Nat.le_add_right _ _) hy.2
  ·obtain ⟨o',ho,rfl⟩:=hnew id o (by omega) hid
   have hy:=hok.young _ o' ho
   refine ⟨by omega,?_⟩
   cases o' with
   | box t cells=>
    simp only [AObj.shift,AObj.lt,shiftL_map]
    refine ltL_iff.2 fun x hx=>?_
    obtain ⟨y,hy',rfl⟩:=List.mem_map.1 hx
    exact lt_shift (ltL_iff.1 hy.2 y hy')
   | row=>trivial
   | nest e sz rows=>
    intro row hr
    obtain ⟨r,hr',rfl⟩:=List.mem_map.1 hr
    rw [shiftL_map]
    refine ltL_iff.2 fun x hx=>?_
    obtain ⟨y,hy',rfl⟩:=List.mem_map.1 hx
    exact lt_shift (ltL_iff.1 (hy.2 r hr') y hy')
   | map=>trivial
   | ghost vs env=>exact envLt_shift hy.2
theorem conc_belowG (h:Conc cx a w st L) (hb:Below w.heap.size w w'):Conc cx a w' st L:=by
 have hext:Ext cx w st.tab L st.next w' st.tab L:=ext_merge hb (fun id _=>⟨rfl,rfl⟩) (fun id o hid=>(h.young id o hid).1) (fun id o g h1 h2 _=>by have:=(h.young id o h2).1;omega)
 refine ⟨lay_merge h.lay h.young hb (fun id _=>⟨rfl,rfl⟩) (fun id o h1 h2=>?_) (fun id o g h1 h2 _=>?_) (fun id id' o o' g h1 _ h2 _ _ _=>?_),h.size,h.defers.mono hext.blk hext.sub,h.young,fun t=>⟨hext.rv (h.env t).1 (h.env t).2,(h.env t).2⟩⟩
 ·have:=(h.young id o h2).1
  omega
 ·have:=(h.young id o h2).1
  omega
 ·have:=(h.young id o h2).1
  omega
theorem call_ok {f:FuncId} {vs:Array Value} {avs:List AV} {K:AV → ASt → Prop} (h:Conc cx a w st L) (hn:vs.size=avs.length) (hv:∀ (j:Nat) (v:Value) (av:AV),vs[j]? = some v → avs[j]? = some av → RVx cx w st.tab L v av) (hK:aCall0 P st f avs K) (dst:Option Nat) :
  Calls P f vs w fun e w'=>∃ v av st' L',e=.returned v ∧ K av st' ∧ Conc cx (a.put dst v) w' (st'.put dst av) L' ∧ Below w.heap.size w w' ∧ (∀ id,id<st.next → st'.tab.get id=st.tab.get id ∧ L' id=L id) ∧ (∀ id o g,st.next≤id → st'.tab.get id=some o → vblk (L' id)=some g → w.heap.size≤g) ∧ st.next≤st'.next:=by
 rcases hK with hK|⟨_,v,hK,hs⟩
 ·exact call_okA h hn hv hK dst
 ·refine (hs cx a w L vs h hn hv).mono fun e w' ⟨h1,h2⟩=>⟨v,.c v,st,L,h1,hK,conc_pure (conc_belowG h h2) (.tree (.c v)) trivial dst,h2,fun id _=>⟨rfl,rfl⟩,fun id o g h3 h4 _=>?_,Nat.le_refl _⟩
  have:=(h.young id o h4).1
  omega
theorem flatten_ext {sz:Nat} {vals:List (List Value)} {xs:List Value} (hs:∀ r ∈ vals,r.length=sz) (hl:xs.length=vals.length * sz) (hx:∀ (i j:Nat) (hi:i<vals.length) (hj:j<(vals[i]).length),xs[i * sz+j]? = some (vals[i])[j]):xs=vals.flatten:=by
 have hfl:vals.flatten.length=vals.length * sz:=by
  have:=flat_len id sz vals hs
  rwa [List.flatMap_id] at this
 apply List.ext_getElem?
 intro k
 by_cases hk:k<vals.length * sz
 ·have h0:0<sz:=by
   rcases Nat.eq_zero_or_pos sz with h|h
   ·subst h;omega
   ·exact h
  have hi:k / sz<vals.length:=(Nat.div_lt_iff_lt_mul h0).2 hk
  have hj:k % sz<sz:=Nat.mod_lt _ h0
  have e:k=k / sz * sz+k % sz:=by rw [Nat.mul_comm];exact (Nat.div_add_mod k sz).symm
  have hj':k % sz<(vals[k / sz]).length:=by rw [hs _ (List.getElem_mem hi)];exact hj
  have h1:=hx (k / sz) (k % sz) hi hj'
  have h2:=flat_get id sz vals hs (k / sz) (k % sz) hi hj
  rw [List.flatMap_id] at h2
  rw [← e] at h1 h2
  rw [h1,h2]
  exact (List.getElem?_eq_getElem hj').symm
 ·rw [List.getElem?_eq_none (by omega),List.getElem?_eq_none (by omega)]
theorem upd_ok {f:FuncId} {vs:Array Value} {avs:List AV} {K:AV → ASt → Prop} (h:Conc cx a w st L) (hn:vs.size=avs.length) (hv:∀ (j:Nat) (v:Value) (av:AV),vs[j]? = some v → avs[j]? = some av → RVx cx w st.tab L v av) (hK:aUpd P st f avs K) (dst:Option Nat) :
  Calls P f vs w fun e w'=>∃ v av st' L',e=.returned v ∧ K av st' ∧ Conc cx (a.put dst v) w' (st'.put dst av) L' ∧ Fr cx w st.tab L st.next w' st'.tab L' st'.next:=by
 obtain ⟨id,e,sz,vals,rest,vals',rfl,hid,hupd,hval,hk⟩:=hK
 have hvs:∃ v,vs=(v :: rest).toArray ∧ v=L id:=by
  simp only [List.length_cons,List.length_map] at hn
  have h0:0<vs.size:=by omega
  refine ⟨vs[0],?_,(hv 0 _ _ (Array.getElem?_eq_getElem h0) rfl).osl_inv _ _ (kx_of hid)⟩
  apply Array.ext
  ·simp [hn]
  ·intro k h1 h2
   cases k with
   | zero=>rfl
   | succ k=>
    have hk':k<rest.length:=by simp at h2;omega
    have:=(hv (k+1) vs[k+1] (.c rest[k]) (Array.getElem?_eq_getElem h1) (by simp [hk'])).c_inv
    simpa using this
 obtain ⟨v,rfl,hvL⟩:=hvs
 have hbase:cx.w0.heap.size≤w.heap.size:=h.lay.below.size
 obtain ⟨hrow,xs,hown,hone,hx⟩:=h.lay.objs id _ hid
 have hs:∀ r ∈ vals,r.length=sz:=fun r hr=>by
  have:=hrow (r.map .c) (List.mem_map.2 ⟨r,hr,rfl⟩)
  simpa using this
 have hxs:xs=vals.flatten:=flatten_ext hs (by simpa [rowsC] using hown.1) fun i j hi hj=>by
  obtain ⟨x,hx1,hx2⟩:=hx i j ((vals[i]).map .c) (.c (vals[i])[j]) (by simp [rowsC,hi]) (by simp [hj])
  rw [hx1]
  cases hx2
  rfl
 subst hxs
 have hown:OwnsR w cx.w0.heap.size e sz v vals.length vals.flatten:=by rw [hvL];simpa [rowsC] using hown
 refine (hupd.2 w v _ hown).mono ?_
 rintro ex w' ⟨v',rfl,hown',hgrow,hblk⟩
 have vb:∀ {x:Value} {n:Nat} {l:List Value} {w:World},OwnsR w cx.w0.heap.size e sz x n l → vblk x=x.ownBlock:=fun hh=>by
  rcases hh.2 with ⟨rfl,_⟩|⟨g,cap,cur,rfl,_⟩ <;> rfl
 have hvb:=vb hown
 have hvb':=vb hown'
 have hold_block:∀ g,v.ownBlock=some g → ∃ id',some id=some id' ∧ st.tab.get id'=some (.row e sz (rowsC vals)) ∧ vblk (L id')=some g:=fun g hg=>⟨id,rfl,hid,by rw [← hvL,hvb];exact hg⟩
 have hy':=h.young
 have hget:∀ k,k<st.next → (appTab st.tab st.next (some id) (.row e sz (rowsC vals'))).get k=if (some id)=some k then none else st.tab.get k:=fun k hk=>by
  rw [appTab_get,if_neg (by omega)]
 have hgetS:∀ k o,(appTab st.tab st.next (some id) (.row e sz (rowsC vals'))).get k=some o → (k=st.next ∧ o=.row e sz (rowsC vals')) ∨ (k<st.next ∧ (some id) ≠ some k ∧ st.tab.get k=some o):=fun k o hk=>by
  rw [appTab_get] at hk
  split at hk
  ·rename_i e'
   cases hk
   exact .inl ⟨e',rfl⟩
  ·split at hk
   ·cases hk
   ·rename_i h1
    exact .inr ⟨(hy' k o hk).1,h1,hk⟩
 have hLn:∀ k,k<st.next → updL L st.next v' k=L k:=fun k hk=>by unfold updL;rw [if_neg (by omega)]
 have hLx:updL L st.next v' st.next=v':=by simp [updL]
 -- the blocks of other objects
 have hother:∀ k o g,k<st.next → (some id) ≠ some k → st.tab.get k=some o → vblk (L k)=some g → some g ≠ v.ownBlock ∧ some g ≠ v'.ownBlock:=fun k o g hk hne ho hg=>by
  have h1:some g ≠ v.ownBlock:=fun e'=>by
   obtain ⟨id',hid',hti,hbi⟩:=hold_block g e'.symm
   exact hne (by rw [hid',h.lay.sep id' k _ o g hti ho hbi hg])
  refine ⟨h1,fun e'=>?_⟩
  exact h1 (by rw [e',hblk])
 have hext:Ext cx w st.tab L st.next w' (appTab st.tab st.next (some id) (.row e sz (rowsC vals'))) (updL L st.next v'):=by
  refine ⟨fun p hp=>hgrow.block p hp.1 fun e'=>?_,fun b hS=>⟨Nat.lt_of_lt_of_le hS.1 hgrow.size,hS.2.1,fun k o hk hg=>?_⟩,fun k p hk hK=>?_⟩
  ·obtain ⟨id',_,hti,hbi⟩:=hold_block p e'.symm
   exact hp.2.2 id' _ hti hbi
  ·rcases hgetS k o hk with ⟨rfl,_⟩ | ⟨hlt,_,ho⟩
   ·rw [hLx,hvb'] at hg
    rw [hblk] at hg
    obtain ⟨id',_,hti,hbi⟩:=hold_block b hg
    exact hS.2.2 id' _ hti hbi
   ·rw [hLn k hlt] at hg
    exact hS.2.2 k o ho hg
  ·unfold Kx at *
   rw [hget k hk,hLn k hk] at hK
   split at hK
   ·cases hK
   ·exact hK
 have hbel:BelowX cx.X cx.w0.heap.size cx.w0 w':=h.lay.below.grown hgrow hbase fun k hk=>(hown.lt k hk).1
 refine ⟨v',.osl st.next,{ st with tab:=appTab st.tab st.next (some id) (.row e sz (rowsC vals')),next:=st.next+1 },updL L st.next v',rfl,hk,?_,hext,hgrow.size,fun k hk hne=>hgrow.block k hk fun e'=>?_,fun k o g hk hg hlt=>?_,Nat.le_succ _⟩
 rotate_left
 ·obtain ⟨id',_,hti,hbi⟩:=hold_block k e'.symm
  exact hne id' _ hti hbi
 ·rcases hgetS k o hk with ⟨rfl,_⟩ | ⟨hlt',_,ho⟩
  ·rw [hLx,hvb',hblk] at hg
   obtain ⟨id',_,hti,hbi⟩:=hold_block g hg
   exact ⟨id',_,hti,hbi⟩
  ·rw [hLn k hlt'] at hg
   exact ⟨k,o,ho,hg⟩
 have hex:∀ id2 o2 g,(appTab st.tab st.next (some id) (.row e sz (rowsC vals'))).get id2=some o2 → vblk (updL L st.next v' id2)=some g → g<w.heap.size → ∃ id3 o3,st.tab.get id3=some o3 ∧ vblk (L id3)=some g:=fun k ok g hk hg' hlt=>by
  rcases hgetS k ok hk with ⟨rfl,_⟩|⟨hlt',_,ho⟩
  ·rw [hLx,hvb',hblk] at hg'
   obtain ⟨id',_,hti,hbi⟩:=hold_block g hg'
   exact ⟨id',_,hti,hbi⟩
  ·rw [hLn k hlt'] at hg'
   exact ⟨k,ok,ho,hg'⟩
 refine conc_put h ⟨hbel,fun k o hk=>?_,fun k k' o o' g h1 h2 h3 h4=>?_,ex_of h.lay hgrow.size hex⟩ hext (Nat.le_succ _) (fun k o hk=>?_) ?_ (Nat.lt_succ_self _) dst
 ·rcases hgetS k o hk with ⟨rfl,rfl⟩ | ⟨hlt,hne,ho⟩
  ·rw [hLx]
   refine ⟨fun row hr=>?_,vals'.flatten,by simpa [rowsC] using hown',fun x hx=>?_,fun i j row av h1 h2=>?_⟩
   ·obtain ⟨r,hr',rfl⟩:=List.mem_map.1 hr
    simpa using (hval r hr').1
   ·obtain ⟨r,hr',hx⟩:=List.mem_flatten.1 hx
    exact (hval r hr').2 x hx
   ·unfold rowsC at h1
    rw [List.getElem?_map] at h1
    have hi':i<vals'.length:=by
     rcases Nat.lt_or_ge i vals'.length with hlt|hge
     ·exact hlt
     ·rw [List.getElem?_eq_none hge] at h1;cases h1
    rw [List.getElem?_eq_getElem hi'] at h1
    simp only [Option.map_some,Option.some.injEq] at h1
    subst h1
    have hj:j<(vals'[i]).length:=by
     have:=(List.getElem?_eq_some_iff.1 h2).1
     simpa using this
    have hsz:=(hval _ (List.getElem_mem hi')).1
    rw [List.getElem?_map,List.getElem?_eq_getElem hj] at h2
    cases h2
    have hg:=flat_get (_root_.id) sz vals' (fun a ha=>(hval a ha).1) i j hi' (by omega)
    rw [List.flatMap_id] at hg
    exact ⟨_,hg.trans (List.getElem?_eq_getElem hj),.c _⟩
  ·rw [hLn k hlt]
   have hob:=h.lay.objs k o ho
   exact hext.obj hob (hy' k o ho).2 fun g hg=>hgrow.block g (hob.ge hg).2 (hother k o g hlt hne ho hg).1
 ·rcases hgetS k o h1 with ⟨rfl,rfl⟩ | ⟨hlt,hne,ho⟩ <;> rcases hgetS k' o' h2 with ⟨rfl,rfl⟩ | ⟨hlt',hne',ho'⟩
  ·rfl
  ·rw [hLx,hvb'] at h3
   rw [hLn k' hlt'] at h4
   exact absurd h3.symm (hother k' o' g hlt' hne' ho' h4).2
  ·rw [hLx,hvb'] at h4
   rw [hLn k hlt] at h3
   exact absurd h4.symm (hother k o g hlt hne ho h3).2
  ·rw [hLn k hlt] at h3
   rw [hLn k' hlt'] at h4
   exact h.lay.sep k k' o o' g ho ho' h3 h4
 ·rcases hgetS k o hk with ⟨rfl,rfl⟩ | ⟨hlt,_,ho⟩
  ·exact ⟨Nat.lt_succ_self _,trivial⟩
  ·refine ⟨by omega,?_⟩
   have:=(hy' k o ho).2
   cases o with
   | box t cells=>exact ltL_iff.2 fun x hx=>AV.lt_mono (Nat.le_succ _) (ltL_iff.1 this x hx)
   | row=>trivial
   | nest e sz rows=>exact fun row hr=>ltL_iff.2 fun x hx=>AV.lt_mono (Nat.le_succ _) (ltL_iff.1 (this row hr) x hx)
   | map=>trivial
   | ghost vs env=>exact envLt_mono (Nat.le_succ _) this
 ·refine .osl _ _ fun sz' v'' hk=>?_
  unfold Kx at hk
  rw [appTab_get,if_pos rfl] at hk
  simp at hk
  rw [hLx] at hk
  exact hk.2
theorem RowAt.mono {w w':World} {S S':Nat → Prop} {base:Nat} {e:TypeId} {sz:Nat} {v:Value} {rows:List (List AV)} (h:RowAt w S base e sz v rows) (hS:∀ b,S b → S' b):RowAt w S' base e sz v rows:=
 ⟨h.1,h.2.elim fun xs ⟨h1,h2,h3⟩=>⟨xs,h1,h2,fun i j row av h4 h5=>(h3 i j row av h4 h5).elim fun x hx=>⟨x,hx.1,hx.2.mono (fun _ _=>rfl) hS⟩⟩⟩
theorem mut_ok {f:FuncId} {vs:Array Value} {avs:List AV} {K:AV → ASt → Prop} (h:Conc cx a w st L) (hn:vs.size=avs.length) (hv:∀ (j:Nat) (v:Value) (av:AV),vs[j]? = some v → avs[j]? = some av → RVx cx w st.tab L v av) (hK:aMut P st f avs K) (dst:Option Nat) :
  Calls P f vs w fun e w'=>∃ v av st' L',e=.returned v ∧ K av st' ∧ Conc cx (a.put dst v) w' (st'.put dst av) L' ∧ Fr cx w st.tab L st.next w' st'.tab L' st'.next:=by
 obtain ⟨id,e,sz,rows,rows',rest,rfl,hid,htree,hmut,hk⟩:=hK
 have hob:ObjAt cx w st.tab L (L id) (.row e sz rows):=h.lay.objs id _ hid
 have hvs:∃ vr:Array Value,vs = #[L id] ++ vr ∧ vr.size=rest.length ∧ ∀ (j:Nat) (x:Value) (av:AV),vr[j]? = some x → rest[j]? = some av → RT w (Sx cx w st.tab L) x av:=by
  simp only [List.length_cons] at hn
  have h0:0<vs.size:=by omega
  have hv0:vs[0]=L id:=(hv 0 _ _ (Array.getElem?_eq_getElem h0) rfl).osl_inv _ _ (kx_of hid)
  refine ⟨vs.extract 1 vs.size,?_,by simp;omega,fun j x av h1 h2=>?_⟩
  ·apply Array.ext
   ·simp;omega
   ·intro k h1 h2
    cases k with
    | zero=>simpa using hv0
    | succ k=>simp [Nat.add_comm]
  ·rw [Array.getElem?_extract] at h1
   split at h1
   ·exact treeM_of (hv (j+1) x av (by rw [Nat.add_comm];exact h1) (by simpa using h2)) (treeML_mem htree (List.mem_of_getElem? h2))
   ·cases h1
 obtain ⟨vr,rfl,hvn,hvr⟩:=hvs
 have hbase:cx.w0.heap.size≤w.heap.size:=h.lay.below.size
 refine (hmut.2 (Sx cx w st.tab L) w cx.w0.heap.size (L id) vr h.lay.sok cx.amb.le hob (fun g hg hS=>hS.2.2 id _ hid hg) hvn hvr).mono ?_
 rintro ex w' ⟨rfl,⟨hos,htape,hout⟩,hsize,hkeep,hrow'⟩
 have ht:∀ k,ATab.get ((id,some (AObj.row e sz rows')) :: st.tab) k=if k=id then some (AObj.row e sz rows') else st.tab.get k:=fun k=>ATab.get_cons ..
 have hold:∀ k ok,ATab.get ((id,some (AObj.row e sz rows')) :: st.tab) k=some ok → ∃ ok',st.tab.get k=some ok':=fun k ok hk'=>by
  rw [ht] at hk'
  split at hk'
  ·rename_i e'
   exact ⟨_,by rw [e'];exact hid⟩
  ·exact ⟨ok,hk'⟩
 have hext:Ext cx w st.tab L st.next w' ((id,some (AObj.row e sz rows')) :: st.tab) L:=by
  refine ⟨fun p hp=>hkeep p hp.1 (hp.2.2 id _ hid),fun b hb=>⟨Nat.lt_of_lt_of_le hb.1 hsize,hb.2.1,fun k ok hk'=>?_⟩,fun k p hlt hp=>?_⟩
  ·obtain ⟨ok',h1⟩:=hold k ok hk'
   exact hb.2.2 k ok' h1
  ·unfold Kx at *
   rw [ht] at hp
   split at hp
   ·rename_i e'
    subst e'
    rw [hid]
    simpa [AObj.sz] using hp
   ·exact hp
 have hy:=h.young id _ hid
 have hbel:BelowX cx.X cx.w0.heap.size cx.w0 w':=h.lay.below.trans ⟨hos,htape,hout,hsize,fun k hk' _=>hkeep k (by omega) fun e'=>by
  have:=(hob.ge e').1
  omega⟩
 have hnewS:∀ b,(Sx cx w st.tab L b ∨ w.heap.size≤b) ∧ b<w'.heap.size → Sx cx w' ((id,some (AObj.row e sz rows')) :: st.tab) L b:=fun b hb=>by
  rcases hb.1 with h1|h1
  ·exact hext.sub b h1
  ·refine ⟨hb.2,⟨.inr (by omega),fun hX=>?_⟩,fun k ok hk' hg=>?_⟩
   ·have:=(h.lay.ex b hX).1
    omega
   ·obtain ⟨ok',h2⟩:=hold k ok hk'
    have:=((h.lay.objs k ok' h2).ge hg).2
    omega
 have hex:∀ id2 o2 g,ATab.get ((id,some (AObj.row e sz rows')) :: st.tab) id2=some o2 → vblk (L id2)=some g → g<w.heap.size → ∃ id3 o3,st.tab.get id3=some o3 ∧ vblk (L id3)=some g:=fun k ok g hk' hg' _=>by
  obtain ⟨ok',h2⟩:=hold k ok hk'
  exact ⟨k,ok',h2,hg'⟩
 refine ⟨.tuple #[],.tup [],{ st with tab:=(id,some (.row e sz rows')) :: st.tab },L,rfl,hk,conc_put (nx':=st.next) (L':=L) h ⟨hbel,fun k ok hk'=>?_,fun k k' ok ok' g' h1 h2 h3 h4=>?_,ex_of h.lay hsize hex⟩ hext (Nat.le_refl _) (fun k ok hk'=>?_) (.tree (.tup #[] [] rfl fun j x av h1 _=>by simp at h1)) (show AV.lt st.next (.tup []) from trivial) dst,hext,hsize,fun k hk' hn'=>hkeep k hk' (hn' id _ hid),fun k ok g h1 h2 h3=>hex k ok g h1 h2 h3,Nat.le_refl _⟩
 ·rw [ht] at hk'
  split at hk'
  ·rename_i e'
   subst e'
   cases hk'
   exact hrow'.mono (w':=w') hnewS
  ·rename_i hne
   exact hext.obj (h.lay.objs k ok hk') (h.young k ok hk').2 fun g' hg'=>hkeep g' ((h.lay.objs k ok hk').ge hg').2 fun e'=>hne (h.lay.sep k id ok _ g' hk' hid hg' e')
 ·obtain ⟨o1,ho1⟩:=hold k ok h1
  obtain ⟨o2,ho2⟩:=hold k' ok' h2
  exact h.lay.sep k k' o1 o2 g' ho1 ho2 h3 h4
 ·rw [ht] at hk'
  split at hk'
  ·rename_i e'
   cases hk'
   exact ⟨by rw [e'];exact hy.1,trivial⟩
  ·exact h.young k ok hk'
theorem updM_ok {f:FuncId} {vs:Array Value} {avs:List AV} {K:AV → ASt → Prop} (h:Conc cx a w st L) (hn:vs.size=avs.length) (hv:∀ (j:Nat) (v:Value) (av:AV),vs[j]? = some v → avs[j]? = some av → RVx cx w st.tab L v av ∧ av.lt st.next) (hK:aUpdM P st f avs K) (dst:Option Nat) :
  Calls P f vs w fun e w'=>∃ v av st' L',e=.returned v ∧ K av st' ∧ Conc cx (a.put dst v) w' (st'.put dst av) L' ∧ Fr cx w st.tab L st.next w' st'.tab L' st'.next:=
 hK.elim (fun hp=>upd_ok h hn (fun j v av h1 h2=>(hv j v av h1 h2).1) hp dst) fun hK=>hK.elim (fun hp=>mut_ok h hn (fun j v av h1 h2=>(hv j v av h1 h2).1) hp dst) fun hp=>hp.2 cx a w L vs dst h hn hv
end
def Res.frz (R:Res) (id:Nat):Res:=
 match R.tab.get id with
 | some (.row _ sz rows)=>⟨R.r.frz id sz rows,(id,none) :: frzTab id sz rows R.tab,R.n⟩
 | _=>R
def Res.frzs:Res → List Nat → Res
 | R,[]=>R
 | R,id :: ids=>Res.frzs (R.frz id) ids
theorem ARel.frz {P:Program} {f:FuncId} {args:List AV} {Post:Res → Prop} (h:ARel P f args Post) (id:Nat):ARel P f args fun R=>∃ R',Post R' ∧ R=R'.frz id:=
 ⟨h.1,fun S w vs h1 h2 h3=>(h.2 S w vs h1 h2 h3).mono fun e w' ⟨v,L,R,h4,h5,h6,h7,h8⟩=>by
  have key:(R.frz id).Ok ∧ Lay (Cx.mk0 S w h1) w' (R.frz id).tab L ∧ RVx (Cx.mk0 S w h1) w' (R.frz id).tab L v (R.frz id).r:=by
   unfold Res.frz
   split
   ·rename_i e' sz rows hid
    obtain ⟨h9,h10⟩:=frz_core h7 (fun k o hk=>(h5.young k o hk).2) hid
    refine ⟨⟨fun k o hk=>?_,frz_lt h5.lt⟩,h9,h10 v _ h8 h5.lt⟩
    simp only [ATab.get_cons,frzTab_get] at hk
    split at hk
    ·cases hk
    ·cases hg:R.tab.get k with
     | none=>simp [hg] at hk
     | some o'=>
      simp [hg] at hk
      subst hk
      exact ⟨(h5.young k o' hg).1,frz_obj_lt (h5.young k o' hg).2⟩
   ·exact ⟨h5,h7,h8⟩
  exact ⟨v,L,R.frz id,⟨R,h4,rfl⟩,key.1,h6,key.2.1,key.2.2⟩⟩
theorem ARel.drop {P:Program} {f:FuncId} {args:List AV} {Post:Res → Prop} (h:ARel P f args Post):ARel P f args fun R=>∃ R',Post R' ∧ ((R'.r.lt 0 ∧ R=⟨R'.r,[],0⟩) ∨ (¬ R'.r.lt 0 ∧ R=R')):=
 ⟨h.1,fun S w vs h1 h2 h3=>(h.2 S w vs h1 h2 h3).mono fun e w' ⟨v,L,R,h4,h5,h6,h7,h8⟩=>by
  by_cases hl:R.r.lt 0
  ·have hext:Ext (Cx.mk0 S w h1) w' R.tab L 0 w' [] L:=⟨fun _ _=>rfl,fun b hb=>⟨hb.1,hb.2.1,fun k o hk=>(by cases hk)⟩,fun k p _ hk=>by simp [Kx,ATab.get] at hk⟩
   exact ⟨v,L,⟨R.r,[],0⟩,⟨R,h4,.inl ⟨hl,rfl⟩⟩,⟨fun id o hk=>(by cases hk),hl⟩,h6,⟨h7.below,fun id o hk=>(by cases hk),fun id id' o o' g hk=>(by cases hk),fun b hb=>hb.elim⟩,hext.rv h8 hl⟩
  ·exact ⟨v,L,R,⟨R,h4,.inr ⟨hl,rfl⟩⟩,h5,h6,h7,h8⟩⟩
theorem ADet.frzs {P:Program} {f:FuncId} {args:List AV} {R:Res}:∀ (ids:List Nat) {R:Res},ADet P f args R → ADet P f args (R.frzs ids)
 | [],_,h=>h
 | id :: ids,R,h=>ADet.frzs ids (R:=R.frz id) ((ARel.frz h id).mono fun R' ⟨R'',h1,h2⟩=>by rw [h2,h1])
theorem ADet.still {P:Program} {f:FuncId} {args:List AV} {R:Res} {r:AV} (ids:List Nat) (h:ADet P f args R) (hr:(R.frzs ids).r=r) (hl:r.lt 0):ADet P f args ⟨r,[],0⟩:=
 (ARel.drop (ADet.frzs (R:=R) ids h)).mono fun R' ⟨R'',h1,h2⟩=>by
  subst h1
  rcases h2 with ⟨_,h2⟩|⟨h2,_⟩
  ·rw [h2,hr]
  ·exact absurd (hr ▸ hl) h2
theorem callZ {P:Program} {st:ASt} {g:FuncId} {args:List AV} {K:AV → ASt → Prop} {R:Res} (ids:List Nat) (h:ADet P g ((frzAVs st ids args).map (dref (frzs st ids).tab)) R) (ho:roL (frzAVs st ids args) ∨ (R.r.plain ∧ R.tab.plain))
  (hk:K (R.r.shift (frzs st ids).next) { frzs st ids with tab:=R.tab.shift (frzs st ids).next ++ (frzs st ids).tab,next:=(frzs st ids).next+R.n }):aCall none P st g args K:=
 .inr (.inl ⟨rfl,.inr ⟨ids,.inl ⟨_,h,fun R' hR=>by subst hR;exact ⟨ho,hk⟩⟩⟩⟩)
end
section
open Go.RowKit
def keyV:AV → Option Value
 | .c v=>some v
 | .agg cs=>match allC cs with
  | some vs=>some (.agg vs.toArray)
  | none=>none
 | _=>none
def aMakeMap (st:ASt) (r:Bool) (dst:Option Nat) (K:ASt → Prop):Prop:=
 r=true ∧ K ({ st with tab:=(st.next,some (.map [])) :: st.tab,next:=st.next+1 }.put dst (.osl st.next))
def aLookR (ok:Bool) (z:Value):Option Value → AV
 | some v=>if ok=true then .tup [.c v,.c (.bool true)] else .c v
 | none=>if ok=true then .tup [.c z,.c (.bool false)] else .c z
def aLookG (P:Program) (kt et:TypeId) (ents:List (Value × Value)) (kv:Option Value) (ok:Bool) (K:AV → Prop):Prop:=False
def aLookup (P:Program) (t:TypeId) (tab:ATab) (m k:AV) (ok:Bool) (K:AV → Prop):Prop:=False
def aMapPut (P:Program) (kt:TypeId) (st:ASt) (id:Nat) (ents:List (Value × Value)) (k v:Option Value) (K:ASt → Prop):Prop:=False
def aMapUpd (P:Program) (t:TypeId) (st:ASt) (m k v:AV) (K:ASt → Prop):Prop:=False
def aLenM (P:Program) (t:TypeId) (tab:ATab) (m:AV) (K:AV → Prop):Prop:=False
def aLenMs (P:Program) (tab:ATab) (ev:Operand → AV) (args:List Operand) (ts:List TypeId) (K:AV → Prop):Prop:=
 match args,ts with
 | [x],[t]=>aLenM P t tab (ev x) K
 | _,_=>False
def aClear (P:Program) (t:TypeId) (st:ASt) (m:AV) (dst:Option Nat) (K:ASt → Prop):Prop:=False
def aClears (P:Program) (st:ASt) (args:List Operand) (ts:List TypeId) (dst:Option Nat) (K:ASt → Prop):Prop:=
 match args,ts with
 | [x],[t]=>aClear P t st (aEv st x) dst K
 | _,_=>False
section
variable {P:Program} {cx:Cx} {a:Act} {w w':World} {tab:ATab} {st:ASt} {L:Nat → Value} {nx:Nat}
mutual
theorem rv_ren {tab':ATab} {L':Nat → Value} {ren:List Nat} (hS:∀ b,Sx cx w tab L b → Sx cx w tab' L' b) (hK:∀ k p,Kx tab' L' k=some p → Kx tab L (ren.getD k 0)=some p) :
  ∀ (r:AV) (v:Value),RVx cx w tab L v (r.ren ren) → RVx cx w tab' L' v r
 | .any,v,_=>.tree (.any v)
 | .c x,v,h=>by
  obtain rfl:=RV.c_inv (v:=x) h
  exact .tree (.c v)
 | .sl sz rows,v,h=>.tree ((RV.sl_inv h).mono (fun _ _=>rfl) hS)
 | .osl id,v,h=>.osl v id fun sz u hk=>RV.osl_inv h sz u (hK id _ hk)
 | .agg cs,v,h=>by
  simp only [AV.ren,renL_map] at h
  obtain ⟨xs,rfl,hn,hr⟩:=h.agg_inv
  exact .agg xs cs (by simpa using hn) fun j x av h1 h2=>rv_renL hS hK cs j x av h2 (hr j x _ h1 (by simp [h2]))
 | .tup cs,v,h=>by
  simp only [AV.ren,renL_map] at h
  obtain ⟨xs,rfl,hn,hr⟩:=h.tup_inv
  exact .tup xs cs (by simpa using hn) fun j x av h1 h2=>rv_renL hS hK cs j x av h2 (hr j x _ h1 (by simp [h2]))
 | .fn f cs,v,h=>by
  simp only [AV.ren,renL_map] at h
  obtain ⟨xs,rfl,hn,hr⟩:=h.fn_inv
  exact .fn f xs cs (by simpa using hn) fun j x av h1 h2=>rv_renL hS hK cs j x av h2 (hr j x _ h1 (by simp [h2]))
 | .bfn f cs,v,h=>by
  simp only [AV.ren,renL_map] at h
  obtain ⟨xs,rfl,hn,hr⟩:=h.bfn_inv
  exact .bfn f xs cs (by simpa using hn) fun j x av h1 h2=>rv_renL hS hK cs j x av h2 (hr j x _ h1 (by simp [h2]))
 | .rp cs,v,h=>by
  have:RT w (Sx cx w tab L) v (.rp cs):=by
   cases h with
   | tree h=>exact h
  exact .tree (this.mono (fun _ _=>rfl) hS)
 | .op id i j,v,h=>.op v id i j fun sz u hk=>RV.op_inv h sz u (hK id _ hk)
theorem rv_renL {tab':ATab} {L':Nat → Value} {ren:List Nat} (hS:∀ b,Sx cx w tab L b → Sx cx w tab' L' b) (hK:∀ k p,Kx tab' L' k=some p → Kx tab L (ren.getD k 0)=some p) :
  ∀ (l:List AV) (j:Nat) (v:Value) (av:AV),l[j]? = some av → RVx cx w tab L v (av.ren ren) → RVx cx w tab' L' v av
 | [],j,v,av,h,_=>by simp at h
 | a :: l,0,v,av,h,hr=>by
  simp at h
  subst h
  exact rv_ren hS hK a v hr
 | a :: l,j+1,v,av,h,hr=>rv_renL hS hK l j v av (by simpa using h) hr
end
mutual
theorem rv_unren {S S':Nat → Prop} {K K':Nat → Option (Nat × Value)} {ren:List Nat} (hS:∀ b,S b → S' b) (hK:∀ k p,K' k=some p → K (ren.getD k 0)=some p) :
  ∀ (r:AV) (v:Value),RV w S K v (r.ren ren) → RV w S' K' v r
 | .any,v,_=>.tree (.any v)
 | .c x,v,h=>by
  obtain rfl:=RV.c_inv (v:=x) h
  exact .tree (.c v)
 | .sl sz rows,v,h=>.tree ((RV.sl_inv h).mono (fun _ _=>rfl) hS)
 | .osl id,v,h=>.osl v id fun sz u hk=>RV.osl_inv h sz u (hK id _ hk)
 | .agg cs,v,h=>by
  simp only [AV.ren,renL_map] at h
  obtain ⟨xs,rfl,hn,hr⟩:=h.agg_inv
  exact .agg xs cs (by simpa using hn) fun j x av h1 h2=>rv_unrenL hS hK cs j x av h2 (hr j x _ h1 (by simp [h2]))
 | .tup cs,v,h=>by
  simp only [AV.ren,renL_map] at h
  obtain ⟨xs,rfl,hn,hr⟩:=h.tup_inv
  exact .tup xs cs (by simpa using hn) fun j x av h1 h2=>rv_unrenL hS hK cs j x av h2 (hr j x _ h1 (by simp [h2]))
 | .fn f cs,v,h=>by
  simp only [AV.ren,renL_map] at h
  obtain ⟨xs,rfl,hn,hr⟩:=h.fn_inv
  exact .fn f xs cs (by simpa using hn) fun j x av h1 h2=>rv_unrenL hS hK cs j x av h2 (hr j x _ h1 (by simp [h2]))
 | .bfn f cs,v,h=>by
  simp only [AV.ren,renL_map] at h
  obtain ⟨xs,rfl,hn,hr⟩:=h.bfn_inv
  exact .bfn f xs cs (by simpa using hn) fun j x av h1 h2=>rv_unrenL hS hK cs j x av h2 (hr j x _ h1 (by simp [h2]))
 | .rp cs,v,h=>by
  have:RT w S v (.rp cs):=by
   cases h with
   | tree h=>exact h
  exact .tree (this.mono (fun _ _=>rfl) hS)
 | .op id i j,v,h=>.op v id i j fun sz u hk=>RV.op_inv h sz u (hK id _ hk)
theorem rv_unrenL {S S':Nat → Prop} {K K':Nat → Option (Nat × Value)} {ren:List Nat} (hS:∀ b,S b → S' b) (hK:∀ k p,K' k=some p → K (ren.getD k 0)=some p) :
  ∀ (l:List AV) (j:Nat) (v:Value) (av:AV),l[j]? = some av → RV w S K v (av.ren ren) → RV w S' K' v av
 | [],j,v,av,h,_=>by simp at h
 | a :: l,0,v,av,h,hr=>by
  simp at h
  subst h
  exact rv_unren hS hK a v hr
 | a :: l,j+1,v,av,h,hr=>rv_unrenL hS hK l j v av (by simpa using h) hr
end
theorem RT.ren {w:World} {S:Nat → Prop} {x:Value} {av:AV} (h:RT w S x av) (l:List Nat):av.ren l=av:=by
 have key:∀ (xs:Array Value) (cs:List AV),xs.size=cs.length → (∀ (j:Nat) (x:Value) (av:AV),xs[j]? = some x → cs[j]? = some av → av.ren l=av) → AV.renL l cs=cs:=fun xs cs hn ih=>by
  rw [renL_map]
  apply List.ext_getElem?
  intro j
  rw [List.getElem?_map]
  cases hj:cs[j]? with
  | none=>rfl
  | some av=>
   have hlt:j<xs.size:=by rw [hn];exact (List.getElem?_eq_some_iff.1 hj).1
   simp [ih j _ av (Array.getElem?_eq_getElem hlt) hj]
 induction h with
 | agg xs cs hn hr ih=>rw [AV.ren,key xs cs hn ih]
 | tup xs cs hn hr ih=>rw [AV.ren,key xs cs hn ih]
 | fn fi xs cs hn hr ih=>rw [AV.ren,key xs cs hn ih]
 | bfn fi xs cs hn hr ih=>rw [AV.ren,key xs cs hn ih]
 | _=>rfl
theorem RV.rename {w:World} {S S':Nat → Prop} {K K':Nat → Option (Nat × Value)} {l:List Nat} {m:Nat} {x:Value} {av:AV} (h:RV w S K x av) (hl:av.lt m) (hS:∀ b,S b → S' b) (hK:∀ id p,id<m → K' (l.getD id 0)=some p → K id=some p):RV w S' K' x (av.ren l):=by
 have sub:∀ (xs:Array Value) (cs:List AV),AV.ltL m cs → (∀ (j:Nat) (x:Value) (av:AV),xs[j]? = some x → cs[j]? = some av → av.lt m → RV w S' K' x (av.ren l)) → ∀ (j:Nat) (x:Value) (av:AV),xs[j]? = some x → (cs.map (·.ren l))[j]? = some av → RV w S' K' x av:=fun xs cs hl ih j x av h1 h2=>by
  rw [List.getElem?_map] at h2
  cases hj:cs[j]? with
  | none=>simp [hj] at h2
  | some av'=>
   simp [hj] at h2
   subst h2
   exact ih j x av' h1 hj (ltL_iff.1 hl _ (List.mem_of_getElem? hj))
 induction h with
 | tree h=>
  rw [h.ren l]
  exact .tree (h.mono (fun _ _=>rfl) hS)
 | osl x id h=>exact .osl x _ fun sz v e=>h sz v (hK id _ hl e)
 | op x id i j h=>exact .op x _ i j fun sz v e=>h sz v (hK id _ hl e)
 | agg xs cs hn hr ih=>
  simp only [AV.ren,renL_map]
  exact .agg xs _ (by simpa using hn) (sub xs cs hl ih)
 | tup xs cs hn hr ih=>
  simp only [AV.ren,renL_map]
  exact .tup xs _ (by simpa using hn) (sub xs cs hl ih)
 | fn fi xs cs hn hr ih=>
  simp only [AV.ren,renL_map]
  exact .fn fi xs _ (by simpa using hn) (sub xs cs hl ih)
 | bfn fi xs cs hn hr ih=>
  simp only [AV.ren,renL_map]
  exact .bfn fi xs _ (by simpa using hn) (sub xs cs hl ih)
theorem lt_ren {l:List Nat} {n m:Nat}:∀ {av:AV},av.lt m → (∀ j,j<m → l.getD j 0<n) → (av.ren l).lt n:=by
 intro av hl hj
 induction av using AV.rec (motive_2:=fun _=>True) (motive_3:=fun l2=>AV.ltL m l2 → AV.ltL n (AV.renL l l2)) with
 | _=>simp_all [AV.lt,AV.ltL,AV.ren,AV.renL]
theorem lookup_ok {t:TypeId} {v u:Value} {m k:AV} {ok:Bool} {K:AV → Prop} (hL:Lay cx w tab L) (hv:RVx cx w tab L v m) (hk:RVx cx w tab L u k) (h:aLookup P t tab m k ok K) :
  ∃ r av,K av ∧ RVx cx w tab L r av ∧ av.lt nx ∧ (Instr.lookup t v u ok).run P w=.ok r w:=False.elim h
theorem mapUpd_ok {t:TypeId} {v u x:Value} {m k y:AV} {K:ASt → Prop} (h:Conc cx a w st L) (hv:RVx cx w st.tab L v m) (hk:RVx cx w st.tab L u k) (hx:RVx cx w st.tab L x y) (dst:Option Nat) (hp:aMapUpd P t st m k y fun st=>K (st.put dst .any)) :
  ∃ w' st',(Instr.mapUpdate t v u x).run P w=.ok () w' ∧ K st' ∧ Conc cx (a.put dst undef) w' st' L ∧ w'.heap.size=w.heap.size ∧ ∃ id ents ents',m=.osl id ∧ st.tab.get id=some (.map ents) ∧ st'={ st with tab:=(id,some (.map ents')) :: st.tab }.put dst .any ∧ ∀ k,vblk (L id) ≠ some k → w'.heap[k]? = w.heap[k]?:=False.elim hp
theorem clear_ok {t ty:TypeId} {v:Value} {m:AV} {K:ASt → Prop} (h:Conc cx a w st L) (hv:RVx cx w st.tab L v m) (dst:Option Nat) (hp:aClear P t st m dst K) :
  ∃ w' st',(Builtin.clear_ #[t] ty #[v]).run P w=.ok (.tuple #[]) w' ∧ K st' ∧ Conc cx (a.put dst (.tuple #[])) w' st' L ∧ w'.heap.size=w.heap.size ∧ ∃ id ents,st.tab.get id=some (.map ents) ∧ st'={ st with tab:=(id,some (.map [])) :: st.tab }.put dst .any ∧ ∀ k,vblk (L id) ≠ some k → w'.heap[k]? = w.heap[k]?:=False.elim hp
theorem lenM_ok {t ty:TypeId} {v:Value} {m:AV} {K:AV → Prop} (hL:Lay cx w tab L) (hv:RVx cx w tab L v m) (h:aLenM P t tab m K):∃ r av,K av ∧ RVx cx w tab L r av ∧ av.lt nx ∧ (Builtin.len_ #[t] ty #[v]).run P w=.ok r w:=False.elim h
theorem tabN_get:∀ (l:List AObj) (k id:Nat),(tabN k l).get id=if k≤id then l[id - k]? else none
 | [],k,id=>by simp [tabN,ATab.get]
 | o :: l,k,id=>by
  simp only [tabN,ATab.get_cons]
  rw [tabN_get l (k+1) id]
  by_cases h:id=k
  ·subst h
   simp
  ·rw [if_neg h]
   by_cases h2:k≤id
   ·rw [if_pos (by omega),if_pos h2,show id - k=(id - (k+1))+1 by omega]
    simp
   ·rw [if_neg (by omega),if_neg h2]
theorem tab_none:∀ (l:List Nat) (b:ATab) (id:Nat),ATab.get (l.map (fun i=>(i,none)) ++ b) id=if id ∈ l then none else b.get id
 | [],b,id=>by simp
 | k :: l,b,id=>by
  simp only [List.map_cons,List.cons_append,ATab.get_cons,List.mem_cons]
  rw [tab_none l b id]
  by_cases h:id=k <;> simp [h]
theorem tabN_app:∀ (l:List AObj) (k id:Nat) (b:ATab),ATab.get (tabN k l ++ b) id=if k≤id ∧ id<k+l.length then l[id - k]? else b.get id
 | [],k,id,b=>by simp [tabN];omega
 | o :: l,k,id,b=>by
  simp only [tabN,List.cons_append,ATab.get_cons,List.length_cons]
  rw [tabN_app l (k+1) id b]
  by_cases h:id=k
  ·subst h
   simp
  ·rw [if_neg h]
   by_cases h2:k≤id ∧ id<k+(l.length+1)
   ·rw [if_pos (by omega),if_pos h2,show id - k=(id - (k+1))+1 by omega]
    simp
   ·rw [if_neg (by omega),if_neg h2]
theorem objsAt_get:∀ {ids:List Nat} {os:List AObj},objsAt tab ids os → ids.length=os.length ∧ ∀ (k:Nat) (o:AObj),os[k]? = some o → ∃ i,ids[k]? = some i ∧ tab.get i=some o ∧ plainO o
 | [],[],_=>⟨rfl,fun k o h=>by simp at h⟩
 | i :: is,o :: os,h=>by
  obtain ⟨h1,h2⟩:=objsAt_get h.2
  refine ⟨by simp [h1],fun k o' hk=>?_⟩
  cases k with
  | zero=>
   simp at hk
   subst hk
   exact ⟨i,by simp,h.1.1,h.1.2⟩
  | succ k=>simpa using h2 k o' (by simpa using hk)
 | [],_ :: _,h=>h.elim
 | _ :: _,[],h=>h.elim
theorem ro_of {x:Value} {av:AV} (h:RVx cx w tab L x av) (ht:roA av):RT w (Sx cx w tab L) x av:=by
 have sub:∀ (xs:Array Value) (cs:List AV),treeL cs → (∀ (j:Nat) (x:Value) (av:AV),xs[j]? = some x → cs[j]? = some av → RVx cx w tab L x av) → ∀ (j:Nat) (x:Value) (av:AV),xs[j]? = some x → cs[j]? = some av → RT w (Sx cx w tab L) x av:=
  fun xs cs hl hr j x av h1 h2=>tree_of (hr j x av h1 h2) (treeL_iff.1 hl _ (List.mem_of_getElem? h2))
 cases h with
 | tree h=>exact h
 | osl=>exact ht.elim
 | op=>exact ht.elim
 | agg xs cs hn hr=>exact .agg xs cs hn (sub xs cs ht hr)
 | tup=>exact ht.elim
 | fn f xs cs hn hr=>exact .fn f xs cs hn (sub xs cs ht hr)
 | bfn f xs cs hn hr=>exact .bfn f xs cs hn (sub xs cs ht hr)
theorem plainO_lt {o:AObj} (h:plainO o) (n:Nat):o.lt n:=by cases o <;> first | trivial | exact h.elim
theorem meth_ok {u:Option (Nat × List Nat)} {f:FuncId} {vs:Array Value} {avs:List AV} {K:AV → ASt → Prop} (h:Conc cx a w st L) (hn:vs.size=avs.length) (hv:∀ (j:Nat) (v:Value) (av:AV),vs[j]? = some v → avs[j]? = some av → RVx cx w st.tab L v av) (hK:aMeth u P st f avs K) (dst:Option Nat) :
  Enters P f ∧ ∃ ids0:List Nat,(∀ p,u=some p → ∀ id ∈ ids0,aMay p.1 p.2 id) ∧ Calls P f vs w fun e w'=>∃ v av st' L',e=.returned v ∧ K av st' ∧ Conc cx (a.put dst v) w' (st'.put dst av) L' ∧ Fr cx w st.tab L st.next w' st'.tab L' st'.next ∧ (∀ id,id<st.next → L' id=L id) ∧ (∀ id o,id<st.next → st'.tab.get id=some o → ∃ o',st.tab.get id=some o') ∧
   (∀ k,k<w.heap.size → (∀ id ∈ ids0,∀ o,st.tab.get id=some o → vblk (L id) ≠ some k) → w'.heap[k]? = w.heap[k]?) ∧ ∀ id o g,st.next≤id → st'.tab.get id=some o → vblk (L' id)=some g → w.heap.size≤g ∨ ∃ id' ∈ ids0,(∃ o,st.tab.get id'=some o) ∧ vblk (L id')=some g:=by
 obtain ⟨t,cells,objs,rest,Post,b,ids,⟨hent,hlt,hm⟩,rfl,hb,hobjs,hnd,hu,hk⟩:=hK
 obtain ⟨hil,hobj⟩:=objsAt_get hobjs
 refine ⟨hent,b :: ids,hu,?_⟩
 have hidl:∀ i ∈ b :: ids,i<st.next:=fun i hi=>by
  rcases List.mem_cons.1 hi with rfl|hi
  ·exact (h.young _ _ hb).1
  ·obtain ⟨k,hk'⟩:=List.getElem?_of_mem hi
   have hlen:=(List.getElem?_eq_some_iff.1 hk').1
   obtain ⟨i',h1,h2,_⟩:=hobj k _ (List.getElem?_eq_getElem (show k<objs.length by omega))
   rw [h1] at hk'
   cases hk'
   exact (h.young _ _ h2).1
 obtain ⟨T0,hT0⟩:∃ T0,T0=tabN 0 (AObj.box t cells :: objs):=⟨_,rfl⟩
 obtain ⟨L0,hL0⟩:∃ L0:Nat → Value,L0=fun k=>L ((b :: ids).getD k 0):=⟨_,rfl⟩
 have hget:∀ k o,T0.get k=some o → ∃ i o',(b :: ids)[k]? = some i ∧ (b :: ids).getD k 0=i ∧ st.tab.get i=some o' ∧ o'.sz=o.sz ∧ ((k=0 ∧ i=b ∧ o=.box t cells) ∨ (o'=o ∧ plainO o)):=fun k o hk'=>by
  rw [hT0,tabN_get] at hk'
  simp only [Nat.zero_le,if_true,Nat.sub_zero] at hk'
  cases k with
  | zero=>
   simp at hk'
   subst hk'
   exact ⟨b,_,rfl,rfl,hb,by simp [AObj.sz,renL_map],.inl ⟨rfl,rfl,rfl⟩⟩
  | succ k=>
   obtain ⟨i,h1,h2,h3⟩:=hobj k o (by simpa using hk')
   exact ⟨i,o,by simpa using h1,by simp [List.getD,h1],h2,rfl,.inr ⟨rfl,h3⟩⟩
 have hXown:∀ blk,(∃ id o,st.tab.get id=some o ∧ vblk (L id)=some blk ∧ id ∉ b :: ids) → cx.w0.heap.size≤blk ∧ blk<w.heap.size:=fun blk ⟨id,o,h1,h2,_⟩=>(h.lay.objs id o h1).ge h2
 let cx':Cx:=⟨cx.F,cx.w0,fun blk=>cx.X blk ∨ ∃ id o,st.tab.get id=some o ∧ vblk (L id)=some blk ∧ id ∉ b :: ids,cx.amb,fun blk hX=>hX.elim (cx.exD blk) fun hX=>Nat.le_trans cx.amb.le (hXown blk hX).1,cx.inF⟩
 have hS1:∀ blk,Sx cx w st.tab L blk → Sx cx' w T0 L0 blk:=fun blk hS=>⟨hS.1,⟨hS.2.1.1,fun hX=>hX.elim hS.2.1.2 fun ⟨id,o,h1,h2,_⟩=>hS.2.2 id o h1 h2⟩,fun k o h1 h2=>by
  obtain ⟨i,o',_,h3,h4,_⟩:=hget k o h1
  rw [hL0] at h2
  simp only [h3] at h2
  exact hS.2.2 i o' h4 h2⟩
 have hK1:∀ k p,Kx T0 L0 k=some p → Kx st.tab L ((b :: ids).getD k 0)=some p:=fun k p hp=>by
  unfold Kx at *
  cases ho:T0.get k with
  | none=>simp [ho] at hp
  | some o=>
   obtain ⟨i,o',_,h3,h4,h5,_⟩:=hget k o ho
   rw [h3,h4]
   rw [ho,hL0] at hp
   simp only [h3] at hp
   simpa [h5] using hp
 have hLay0:Lay cx' w T0 L0:=by
  refine ⟨⟨h.lay.below.os,h.lay.below.tape,h.lay.below.output,h.lay.below.size,fun k h1 h2=>h.lay.below.block k h1 fun hX=>h2 (.inl hX)⟩,fun k o hk'=>?_,fun k k' o o' g h1 h2 h3 h4=>?_,fun blk hX=>⟨?_,fun k o h1 h2=>?_⟩⟩
  ·obtain ⟨i,o',_,h3,h4,_,h6⟩:=hget k o hk'
   have hLk:L0 k=L i:=by rw [hL0];simp only [h3]
   rw [hLk]
   have hob:=h.lay.objs i o' h4
   rcases h6 with ⟨rfl,rfl,rfl⟩|⟨rfl,hpl⟩
   ·rw [hb] at h4
    cases h4
    obtain ⟨g,cs,h7,h8,h9,h10,h11⟩:=hob
    refine ⟨g,cs,h7,h8,h9,by simpa [renL_map] using h10,fun j x av h12 h13=>?_⟩
    have:=h11 j x (av.ren (i :: ids)) h12 (by rw [renL_map,List.getElem?_map,h13];rfl)
    exact ⟨rv_unren hS1 hK1 av x this.1,this.2⟩
   ·cases o' with
    | box=>exact hpl.elim
    | ghost=>exact hpl.elim
    | nest=>exact hpl.elim
    | map ents=>exact hob
    | row e sz rows=>
     obtain ⟨h7,xs,h8,h9,h10⟩:=hob
     exact ⟨h7,xs,h8,h9,fun i' j row av h11 h12=>(h10 i' j row av h11 h12).elim fun x ⟨h13,h14⟩=>⟨x,h13,h14.mono (fun _ _=>rfl) hS1⟩⟩
  ·obtain ⟨i,o1,h5,h6,h7,_⟩:=hget k o h1
   obtain ⟨i',o2,h8,h9,h10,_⟩:=hget k' o' h2
   rw [hL0] at h3 h4
   simp only [h6,h9] at h3 h4
   have:=h.lay.sep i i' o1 o2 g h7 h10 h3 h4
   subst this
   exact (List.getElem?_inj (List.getElem?_eq_some_iff.1 h5).1 hnd).1 (h5.trans h8.symm)
  ·rcases hX with hX | hX
   ·exact (h.lay.ex blk hX).1
   ·exact (hXown blk hX).2
  ·obtain ⟨i,o1,h5,h6,h7,_⟩:=hget k o h1
   rw [hL0] at h2
   simp only [h6] at h2
   rcases hX with hX|⟨id,o',h8,h9,h10⟩
   ·exact (h.lay.ex blk hX).2 i o1 h7 h2
   ·have h11:=h2
    have:=h.lay.sep i id o1 o' blk h7 h8 h11 h9
    subst this
    exact h10 (List.mem_of_getElem? h5)
 have hcall:=hm cx' w L0 vs (by rw [← hT0];exact hLay0) (by simpa [renL_map] using hn) (fun j x av hx hav=>by
  rw [← hT0]
  exact rv_unren hS1 hK1 av x (hv j x _ hx (by rw [renL_map,List.getElem?_map,hav];rfl)))
 refine hcall.mono ?_
 rintro e w' ⟨v,av,cells',objs',L1,rfl,hPost,hlay1,hrt,hL1,hcl,hlt',hpl,hz⟩
 rw [← hT0] at hz
 obtain ⟨T1,hT1⟩:∃ T1,T1=tabN 0 (AObj.box t cells' :: objs'):=⟨_,rfl⟩
 rw [← hT1] at hz hlay1 hrt
 obtain ⟨tab',htab'⟩:∃ tab',tab'=aMethTab st b ids t cells' objs':=⟨_,rfl⟩
 have hbn:=hidl b (List.mem_cons_self ..)
 have hget':∀ id,tab'.get id=if id=b then some (.box t (AV.renL (b :: List.range' st.next objs'.length) cells')) else if st.next≤id then objs'[id - st.next]? else if id ∈ ids then none else st.tab.get id:=fun id=>by
  rw [htab',aMethTab,ATab.get_cons,tabN_app,tab_none]
  by_cases h1:id=b
  ·simp [h1]
  ·rw [if_neg h1,if_neg h1]
   by_cases h2:st.next≤id
   ·rw [if_pos h2]
    by_cases h3:id<st.next+objs'.length
    ·rw [if_pos ⟨h2,h3⟩]
    ·rw [if_neg (by omega),List.getElem?_eq_none (by omega),if_neg (fun h4=>by have:=hidl id (List.mem_cons_of_mem _ h4);omega)]
     cases hg:st.tab.get id with
     | none=>rfl
     | some o=>have:=(h.young id o hg).1;omega
   ·rw [if_neg (by omega),if_neg h2]
 obtain ⟨L',hL'⟩:∃ L':Nat → Value,L'=fun id=>if id<st.next then L id else L1 (id - st.next+1):=⟨_,rfl⟩
 have hL'o:∀ id,id<st.next → L' id=L id:=fun id hid=>by rw [hL'];simp [hid]
 have hL'n:∀ k,L' (st.next+k)=L1 (k+1):=fun k=>by
  rw [hL']
  simp only
  rw [if_neg (by omega),Nat.add_sub_cancel_left]
 have hL1b:L1 0=L b:=by rw [hL1,hL0];rfl
 have hT1get:∀ k,T1.get k=if k=0 then some (.box t cells') else objs'[k - 1]?:=fun k=>by
  rw [hT1,tabN_get]
  cases k with
  | zero=>simp
  | succ k=>simp
 -- an object behind it
 have hcases:∀ id o,tab'.get id=some o → (id=b ∧ o=.box t (AV.renL (b :: List.range' st.next objs'.length) cells')) ∨ (∃ k,id=st.next+k ∧ objs'[k]? = some o) ∨ (id<st.next ∧ id ≠ b ∧ id ∉ ids ∧ st.tab.get id=some o):=fun id o ho=>by
  rw [hget'] at ho
  split at ho
  ·rename_i e
   cases ho
   exact .inl ⟨e,rfl⟩
  ·split at ho
   ·rename_i h1 h2
    exact .inr (.inl ⟨id - st.next,by omega,ho⟩)
   ·split at ho
    ·cases ho
    ·rename_i h1 h2 h3
     exact .inr (.inr ⟨by omega,h1,h3,ho⟩)
 have hT0blk:∀ k o g,T0.get k=some o → vblk (L0 k)=some g → ∃ i ∈ b :: ids,(∃ o',st.tab.get i=some o') ∧ vblk (L i)=some g:=fun k o g h1 h2=>by
  obtain ⟨i,o',h3,h4,h5,_⟩:=hget k o h1
  rw [hL0] at h2
  simp only [h4] at h2
  exact ⟨i,List.mem_of_getElem? h3,⟨o',h5⟩,h2⟩
 have hnewblk:∀ k o g,objs'[k]? = some o → vblk (L1 (k+1))=some g → w.heap.size≤g ∨ ∃ i ∈ b :: ids,(∃ o',st.tab.get i=some o') ∧ vblk (L i)=some g:=fun k o g h1 h2=>by
  rcases Nat.lt_or_ge g w.heap.size with hg|hg
  ·obtain ⟨id2,o2,h3,h4⟩:=hz.young (k+1) o g (by rw [hT1get];simpa using h1) h2 hg
   exact .inr (hT0blk id2 o2 g h3 h4)
  ·exact .inl hg
 have hkeep:∀ k,k<w.heap.size → (∀ id ∈ b :: ids,∀ o,st.tab.get id=some o → vblk (L id) ≠ some k) → w'.heap[k]? = w.heap[k]?:=fun k hk' hno=>hz.keep k hk' fun id o h1 h2=>by
  obtain ⟨i,hi,⟨o',h3⟩,h4⟩:=hT0blk id o k h1 h2
  exact hno i hi o' h3 h4
 have hyoung':∀ id o g,tab'.get id=some o → vblk (L' id)=some g → g<w.heap.size → ∃ id2 o2,st.tab.get id2=some o2 ∧ vblk (L id2)=some g:=fun id o g h1 h2 h3=>by
  rcases hcases id o h1 with ⟨rfl,_⟩|⟨k,rfl,h4⟩|⟨h4,_,_,h5⟩
  ·rw [hL'o _ hbn] at h2
   exact ⟨_,_,hb,h2⟩
  ·rw [hL'n] at h2
   rcases hnewblk k o g h4 h2 with h5|⟨i,_,⟨o',h5⟩,h6⟩
   ·omega
   ·exact ⟨i,o',h5,h6⟩
  ·rw [hL'o _ h4] at h2
   exact ⟨id,o,h5,h2⟩
 have hsub:∀ blk,Sx cx w st.tab L blk → Sx cx w' tab' L' blk:=fun blk hS=>⟨Nat.lt_of_lt_of_le hS.1 hz.size,hS.2.1,fun id o h1 h2=>by
  obtain ⟨id2,o2,h3,h4⟩:=hyoung' id o blk h1 h2 hS.1
  exact hS.2.2 id2 o2 h3 h4⟩
 have hext:Ext cx w st.tab L st.next w' tab' L':=by
  refine ⟨fun blk hS=>hkeep blk hS.1 fun id _ o ho=>hS.2.2 id o ho,hsub,fun id p hid hp=>?_⟩
  unfold Kx at *
  rw [hL'o id hid] at hp
  cases ho:tab'.get id with
  | none=>simp [ho] at hp
  | some o=>
   rcases hcases id o ho with ⟨rfl,rfl⟩|⟨k,rfl,_⟩|⟨_,_,_,h5⟩
   ·rw [hb]
    rw [ho] at hp
    simpa [AObj.sz,renL_map,hcl] using hp
   ·omega
   ·rw [h5]
    rwa [ho] at hp
 have hS2:∀ blk,Sx cx' w' T1 L1 blk → Sx cx w' tab' L' blk:=fun blk hS=>⟨hS.1,⟨hS.2.1.1,fun hX=>hS.2.1.2 (.inl hX)⟩,fun id o h1 h2=>by
  rcases hcases id o h1 with ⟨rfl,_⟩|⟨k,rfl,h4⟩|⟨h4,h5,h6,h7⟩
  ·rw [hL'o _ hbn,← hL1b] at h2
   exact hS.2.2 0 _ (by rw [hT1get];rfl) h2
  ·rw [hL'n] at h2
   exact hS.2.2 (k+1) o (by rw [hT1get];simpa using h4) h2
  ·rw [hL'o _ h4] at h2
   exact hS.2.1.2 (.inr ⟨id,o,h7,h2,fun hm=>(List.mem_cons.1 hm).elim h5 h6⟩)⟩
 have hK2:∀ id p,id<objs'.length+1 → Kx tab' L' ((b :: List.range' st.next objs'.length).getD id 0)=some p → Kx T1 L1 id=some p:=fun id p hid hp=>by
  unfold Kx at *
  cases id with
  | zero=>
   rw [List.getD_cons_zero,hget',if_pos rfl,hL'o _ hbn] at hp
   rw [hT1get,hL1b]
   simpa [AObj.sz,renL_map] using hp
  | succ k=>
   have e:(b :: List.range' st.next objs'.length).getD (k+1) 0=st.next+k:=by
    have hk2:k<objs'.length:=by omega
    simp [List.getD,hk2]
   rw [e,hget',if_neg (by omega),if_pos (by omega),hL'n] at hp
   rw [hT1get]
   simpa using hp
 have hobjs':∀ id o,tab'.get id=some o → ObjAt cx w' tab' L' (L' id) o:=fun id o ho=>by
  rcases hcases id o ho with ⟨rfl,rfl⟩|⟨k,rfl,h4⟩|⟨h4,h5,h6,h7⟩
  ·obtain ⟨g,cs,h1,h2,h3,h4,h5⟩:=hlay1.objs 0 _ (by rw [hT1get];rfl)
   rw [hL'o _ hbn,← hL1b]
   refine ⟨g,cs,h1,h2,h3,by simpa [renL_map] using h4,fun j x av h6 h7=>?_⟩
   rw [renL_map,List.getElem?_map] at h7
   cases hj:cells'[j]? with
   | none=>simp [hj] at h7
   | some av'=>
    simp [hj] at h7
    subst h7
    have:=h5 j x av' h6 hj
    exact ⟨this.1.rename (ltL_iff.1 hlt' _ (List.mem_of_getElem? hj)) hS2 hK2,this.2⟩
  ·have hob:=hlay1.objs (k+1) o (by rw [hT1get];simpa using h4)
   rw [hL'n]
   cases o with
   | box=>exact (hpl _ (List.mem_of_getElem? h4)).elim
   | ghost=>exact (hpl _ (List.mem_of_getElem? h4)).elim
   | nest=>exact (hpl _ (List.mem_of_getElem? h4)).elim
   | map ents=>exact hob
   | row e sz rows=>
    obtain ⟨h7,xs,h8,h9,h10⟩:=hob
    exact ⟨h7,xs,h8,h9,fun i' j row av h11 h12=>(h10 i' j row av h11 h12).elim fun x ⟨h13,h14⟩=>⟨x,h13,h14.mono (fun _ _=>rfl) hS2⟩⟩
  ·rw [hL'o _ h4]
   have hob:=h.lay.objs id o h7
   refine hext.obj hob (h.young id o h7).2 fun g hg=>hkeep g (hob.ge hg).2 fun i hi o' h8 h9=>?_
   have:=h.lay.sep id i o o' g h7 h8 hg h9
   subst this
   exact (List.mem_cons.1 hi).elim h5 h6
 have hin:∀ id o,tab'.get id=some o → (id=b ∨ ∃ k,id=st.next+k) → ∃ k,T1.get k ≠ none ∧ L' id=L1 k ∧ (id=b → k=0) ∧ ∀ j,id=st.next+j → k=j+1:=fun id o ho hor=>by
  rcases hcases id o ho with ⟨rfl,rfl⟩|⟨k,rfl,h4⟩|⟨h4,h5,_⟩
  ·exact ⟨0,by rw [hT1get];simp,by rw [hL'o _ hbn,hL1b],fun _=>rfl,fun j hj=>by omega⟩
  ·exact ⟨k+1,by rw [hT1get];simp [h4],hL'n k,fun e=>by omega,fun j hj=>by omega⟩
  ·rcases hor with e | ⟨k,e⟩
   ·exact absurd e h5
   ·omega
 have hout:∀ id o id2 o2 g,tab'.get id=some o → (id=b ∨ ∃ k,id=st.next+k) → id2<st.next → id2 ≠ b → id2 ∉ ids → st.tab.get id2=some o2 → vblk (L' id)=some g → vblk (L id2) ≠ some g:=fun id o id2 o2 g h1 h2 h3 h4 h5 h6 h7 h8=>by
  obtain ⟨k,h9,h10,_⟩:=hin id o h1 h2
  obtain ⟨o3,h11⟩:=Option.ne_none_iff_exists'.1 h9
  rw [h10] at h7
  exact (hlay1.ex g (.inr ⟨id2,o2,h6,h8,fun hm=>(List.mem_cons.1 hm).elim h4 h5⟩)).2 k o3 h11 h7
 have hkind:∀ id o,tab'.get id=some o → (id=b ∨ ∃ k,id=st.next+k) ∨ (id<st.next ∧ id ≠ b ∧ id ∉ ids ∧ st.tab.get id=some o):=fun id o ho=>by
  rcases hcases id o ho with ⟨rfl,_⟩|⟨k,rfl,_⟩|h4
  ·exact .inl (.inl rfl)
  ·exact .inl (.inr ⟨k,rfl⟩)
  ·exact .inr h4
 have hlay':Lay cx w' tab' L':=by
  refine ⟨⟨hlay1.below.os,hlay1.below.tape,hlay1.below.output,hlay1.below.size,fun k h1 h2=>?_⟩,hobjs',fun id id' o o' g h1 h2 h3 h4=>?_,fun blk hX=>⟨Nat.lt_of_lt_of_le (h.lay.ex blk hX).1 hz.size,fun id o h1 h2=>?_⟩⟩
  ·refine (hkeep k (Nat.lt_of_lt_of_le h1 h.lay.below.size) fun id _ o ho hg=>?_).trans (h.lay.below.block k h1 h2)
   have:=((h.lay.objs id o ho).ge hg).1
   omega
  ·rcases hkind id o h1 with h5 | ⟨h5,h6,h7,h8⟩ <;> rcases hkind id' o' h2 with h9 | ⟨h9,h10,h11,h12⟩
   ·obtain ⟨k,h13,h14,h15,h16⟩:=hin id o h1 h5
    obtain ⟨k',h17,h18,h19,h20⟩:=hin id' o' h2 h9
    obtain ⟨o3,h21⟩:=Option.ne_none_iff_exists'.1 h13
    obtain ⟨o4,h22⟩:=Option.ne_none_iff_exists'.1 h17
    rw [h14] at h3
    rw [h18] at h4
    have e:=hlay1.sep k k' o3 o4 g h21 h22 h3 h4
    rcases h5 with h5|⟨j,h5⟩ <;> rcases h9 with h9|⟨j',h9⟩
    ·rw [h5,h9]
    ·have:=h15 h5
     have:=h20 j' h9
     omega
    ·have:=h16 j h5
     have:=h19 h9
     omega
    ·have:=h16 j h5
     have:=h20 j' h9
     omega
   ·rw [hL'o _ h9] at h4
    exact absurd h4 (hout id o id' o' g h1 h5 h9 h10 h11 h12 h3)
   ·rw [hL'o _ h5] at h3
    exact absurd h3 (hout id' o' id o g h2 h9 h5 h6 h7 h8 h4)
   ·rw [hL'o _ h5] at h3
    rw [hL'o _ h9] at h4
    exact h.lay.sep id id' o o' g h8 h12 h3 h4
  ·obtain ⟨id2,o2,h3,h4⟩:=hyoung' id o blk h1 h2 (h.lay.ex blk hX).1
   exact (h.lay.ex blk hX).2 id2 o2 h3 h4
 have hy':∀ id o,tab'.get id=some o → id<st.next+objs'.length ∧ o.lt (st.next+objs'.length):=fun id o ho=>by
  rcases hcases id o ho with ⟨rfl,rfl⟩|⟨k,rfl,h4⟩|⟨h4,_,_,h5⟩
  ·refine ⟨by omega,ltL_iff.2 fun x hx=>?_⟩
   rw [renL_map] at hx
   obtain ⟨y,hy,rfl⟩:=List.mem_map.1 hx
   exact lt_ren (ltL_iff.1 hlt' y hy) fun j hj=>by
    cases j with
    | zero=>simpa using by omega
    | succ j=>
     have hj':j<objs'.length:=by omega
     simp [List.getD,hj']
  ·have:=(List.getElem?_eq_some_iff.1 h4).1
   exact ⟨by omega,plainO_lt (hpl _ (List.mem_of_getElem? h4)) _⟩
  ·have:=h.young id o h5
   refine ⟨by omega,?_⟩
   have h6:st.next≤st.next+objs'.length:=by omega
   cases o with
   | box t cells=>exact ltL_iff.2 fun x hx=>AV.lt_mono h6 (ltL_iff.1 this.2 x hx)
   | row=>trivial
   | map=>trivial
   | nest e sz rows=>exact fun row hr=>ltL_iff.2 fun x hx=>AV.lt_mono h6 (ltL_iff.1 (this.2 row hr) x hx)
   | ghost vs env=>exact envLt_mono h6 this.2
 have hC:=conc_put (w':=w') h hlay' hext (Nat.le_add_right _ _) hy' (.tree (hrt.mono (fun _ _=>rfl) hS2)) (hrt.lt _) dst
 rw [htab'] at hC
 refine ⟨v,av,_,L',rfl,hk av cells' objs' hPost,hC,?_,hL'o,fun id o hid ho=>?_,hkeep,fun id o g h1 h2 h3=>?_⟩
 ·rw [← htab']
  exact ⟨hext,hz.size,fun k h1 h2=>hkeep k h1 fun id _ o ho=>h2 id o ho,hyoung',Nat.le_add_right _ _⟩
 ·rw [← htab'] at ho
  rcases hcases id o ho with ⟨rfl,_⟩|⟨k,rfl,_⟩|⟨_,_,_,h5⟩
  ·exact ⟨_,hb⟩
  ·omega
  ·exact ⟨o,h5⟩
 ·rw [← htab'] at h2
  rcases hcases id o h2 with ⟨rfl,_⟩|⟨k,rfl,h4⟩|⟨h4,_⟩
  ·omega
  ·rw [hL'n] at h3
   rcases hnewblk k o g h4 h3 with h5|⟨i,h5,h6,h7⟩
   ·exact .inl h5
   ·exact .inr ⟨i,h5,h6,h7⟩
  ·omega
theorem makeMap_ok {t:TypeId} (h:Conc cx a w st L) (dst:Option Nat) :
  (Instr.makeMap t none).run P w=.ok (.map (some w.heap.size)) (w.alloc (.map #[] 0)) ∧
  Conc cx (a.put dst (.map (some w.heap.size))) (w.alloc (.map #[] 0)) ({ st with tab:=(st.next,some (.map [])) :: st.tab,next:=st.next+1 }.put dst (.osl st.next)) (updL L st.next (.map (some w.heap.size))):=by
 refine ⟨run_makeMap t w,conc_new h ((Below.refl _ _).alloc (Nat.le_refl _) _) (ob:=.map []) (fun g hg=>?_) (fun hx=>?_) trivial (fun hx=>?_) (Nat.lt_succ_self _) dst⟩
 ·simp [vblk] at hg
  omega
 ·exact ⟨w.heap.size,#[],0,rfl,h.lay.below.size,heap_alloc_new w _,rfl⟩
 ·refine .osl _ _ fun sz u hk=>?_
  simp [Kx,ATab.get_cons,updL] at hk
  exact hk.2
end
end
end
section
section
open Go.RowKit
def aStore (P:Program) (t:TypeId) (st:ASt) (p x:AV) (K:ASt → Prop):Prop:=
 match p with
 | .op id i j=>match st.tab.get id with
  | some (.box ty cells)=>i=0 ∧ 0<tySize P t ∧ (aCells x).length=tySize P t ∧ j+tySize P t≤cells.length ∧ oneCL st.tab (aCells x) ∧ K { st with tab:=(id,some (.box ty (cells.take j ++ aCells x ++ cells.drop (j+tySize P t)))) :: st.tab }
  | some (.row e sz rows)=>i<rows.length ∧ 0<tySize P t ∧ (aCells x).length=tySize P t ∧ j+tySize P t≤sz ∧ oneCL st.tab (aCells x) ∧ treeL (aCells x) ∧ K { st with tab:=(id,some (.row e sz (rows.set i ((rows[i]?.getD []).take j ++ aCells x ++ (rows[i]?.getD []).drop (j+tySize P t))))) :: st.tab }
  | some (.nest e sz rows)=>i<rows.length ∧ 0<tySize P t ∧ (aCells x).length=tySize P t ∧ j+tySize P t≤sz ∧ oneCL st.tab (aCells x) ∧ K { st with tab:=(id,some (.nest e sz (rows.set i ((rows[i]?.getD []).take j ++ aCells x ++ (rows[i]?.getD []).drop (j+tySize P t))))) :: st.tab }
  | _=>False
 | _=>False
def aStoreB (P:Program) (t:TypeId) (st:ASt) (id i j:Nat) (x:AV) (K:ASt → Prop):Prop:=
 match st.tab.get id with
 | some (.box ty cells)=>i=0 ∧ 0<tySize P t ∧ (aCells x).length=tySize P t ∧ j+tySize P t≤cells.length ∧ oneCL st.tab (aCells x) ∧ K { st with tab:=(id,some (.box ty (cells.take j ++ aCells x ++ cells.drop (j+tySize P t)))) :: st.tab }
 | some (.row e sz rows)=>i<rows.length ∧ 0<tySize P t ∧ (aCells x).length=tySize P t ∧ j+tySize P t≤sz ∧ oneCL st.tab (aCells x) ∧ treeL (aCells x) ∧ K { st with tab:=(id,some (.row e sz (rows.set i ((rows[i]?.getD []).take j ++ aCells x ++ (rows[i]?.getD []).drop (j+tySize P t))))) :: st.tab }
 | some (.nest e sz rows)=>i<rows.length ∧ 0<tySize P t ∧ (aCells x).length=tySize P t ∧ j+tySize P t≤sz ∧ oneCL st.tab (aCells x) ∧ K { st with tab:=(id,some (.nest e sz (rows.set i ((rows[i]?.getD []).take j ++ aCells x ++ (rows[i]?.getD []).drop (j+tySize P t))))) :: st.tab }
 | _=>False
def aBox (t:TypeId) (st:ASt) (x:AV) (dst:Option Nat) (K:ASt → Prop):Prop:=
 oneCL st.tab (aCells x) ∧ K ({ st with tab:=(st.next,some (.box t (aCells x))) :: st.tab,next:=st.next+1 }.put dst (.op st.next 0 0))
def aAppend0 (P:Program) (t:TypeId) (st:ASt) (x y:AV) (dst:Option Nat) (K:ASt → Prop):Prop:=
 match tyRow P t with
 | some (e,sz,by_)=>match aDst st.tab e sz x,aSrc st.tab sz y with
  | some (oid,rows),some rows2=>(rows.length+rows2.length≤9223372036854775807 ∧ (rows.length+rows2.length) * by_≤140737488355328) ∧ K ({ st with tab:=appTab st.tab st.next oid (.row e sz (rows ++ rows2)),next:=st.next+1 }.put dst (.osl st.next))
  | _,_=>match aDstN st.tab e sz x,aSrcN st.tab sz y with
   | some (oid,rows),some rows2=>(rows.length+rows2.length≤9223372036854775807 ∧ (rows.length+rows2.length) * by_≤140737488355328) ∧ K ({ st with tab:=appTab st.tab st.next oid (.nest e sz (rows ++ rows2)),next:=st.next+1 }.put dst (.osl st.next))
   | _,_=>False
 | none=>False
def nilNil:AV → AV → Bool
 | .c (.slice none 0 0),.c (.slice none 0 0)=>true
 | _,_=>false
theorem nilNil_iff {x y:AV} (h:nilNil x y=true):x=.c (.slice none 0 0) ∧ y=.c (.slice none 0 0):=by
 unfold nilNil at h
 split at h
 ·exact ⟨rfl,rfl⟩
 ·cases h
def aAppend (P:Program) (t:TypeId) (st:ASt) (x y:AV) (dst:Option Nat) (K:ASt → Prop):Prop:=
 match nilNil x y with
 | true=>(tyRow P t).isSome=true ∧ K (st.put dst (.c (.slice none 0 0)))
 | false=>aAppend0 P t st x y dst K
section
variable {P:Program} {t:TypeId} {st:ASt} {y:AV} {dst:Option Nat} {K:ASt → Prop} {id sz:Nat} {rows:List (List AV)}
theorem aAppend_o:aAppend P t st (.osl id) y dst K=aAppend0 P t st (.osl id) y dst K:=rfl
theorem aAppend_co:aAppend P t st (.c (.slice none 0 0)) (.osl id) dst K=aAppend0 P t st (.c (.slice none 0 0)) (.osl id) dst K:=rfl
theorem aAppend_cs:aAppend P t st (.c (.slice none 0 0)) (.sl sz rows) dst K=aAppend0 P t st (.c (.slice none 0 0)) (.sl sz rows) dst K:=rfl
theorem aAppend_cc:aAppend P t st (.c (.slice none 0 0)) (.c (.slice none 0 0)) dst K=((tyRow P t).isSome=true ∧ K (st.put dst (.c (.slice none 0 0)))):=rfl
end
theorem append_nil_run {P:Program} {t ty:TypeId} {w:World} (h:(tyRow P t).isSome=true):(Builtin.append_ #[t,t] ty #[.slice none 0 0,.slice none 0 0]).run P w=.ok (.slice none 0 0) w:=by
 obtain ⟨⟨e,sz,by_⟩,ht⟩:=Option.isSome_iff_exists.1 h
 obtain ⟨i,z,hund,hi,hz,hs,hb,hzs,h0⟩:=tyRow_some ht
 exact run_append_none 0 hund hi (ownsR_nil w 0 e i.size)
def aBuildSlice1 (P:Program) (t:TypeId) (n:Nat) (parts:List (Nat × Operand)) (dst:Option Nat) (K:ASt → Prop) (st:ASt):Prop:=
 match tyRow P t with
 | some (e,sz,_)=>match ownIds (parts.flatMap fun (p:Nat × Operand)=>aCells (aEv st p.2)) with
  | []=>(parts.map (·.1)=List.range' 0 parts.length ∧ n=parts.length ∧ parts.length * sz≤16777216 ∧ aLit st.tab sz (parts.map fun p=>aEv st p.2)) ∧
   K ({ st with tab:=(st.next,some (.row e sz (parts.map fun (p:Nat × Operand)=>aCells (aEv st p.2)))) :: st.tab,next:=st.next+1 }.put dst (.osl st.next))
  | _ :: _=>(parts.map (·.1)=List.range' 0 parts.length ∧ n=parts.length ∧ parts.length * sz≤16777216 ∧ aLitN st.tab sz (parts.map fun p=>aEv st p.2)) ∧
   K ({ st with tab:=(st.next,some (.nest e sz (parts.map fun (p:Nat × Operand)=>aCells (aEv st p.2)))) :: st.tab,next:=st.next+1 }.put dst (.osl st.next))
 | none=>False
def aBuildSlice (P:Program) (t:TypeId) (n:Nat) (parts:List (Nat × Operand)) (st:ASt) (dst:Option Nat) (K:ASt → Prop):Prop:=
 aBuildSlice1 P t n parts dst K (frzs st (ownIds (parts.flatMap fun (p:Nat × Operand)=>aCells (aEv st p.2))))
def aMake (P:Program) (t:TypeId) (st:ASt) (l c:AV) (dst:Option Nat) (K:ASt → Prop):Prop:=
 match tyRow P t,l,c with
 | some (e,sz,by_),.c (.int _ n),.c (.int _ m)=>match tyZero P e with
  | some z=>(m=n ∧ oneCL [] (aCells (.c z)) ∧ 0≤n ∧ n≤16777216 ∧ (by_:Int) * n≤281474976710656) ∧ K ({ st with tab:=(st.next,some (mkO (isMk t) e sz (List.replicate n.toNat (aCells (.c z))))) :: st.tab,next:=st.next+1 }.put dst (.osl st.next))
  | none=>False
 | _,_,_=>False
def aBuild (P:Program) (t:TypeId) (st:ASt) (parts:List (Nat × Operand)) (dst:Option Nat) (K:ASt → Prop):Prop:=
 match tyParts P t with
 | some (places,zs)=>match aFill places (zs.map .c) (parts.map fun p=>(p.1,aEv st p.2)) with
  | some cs=>oneParts st.tab (parts.map fun p=>(p.1,aEv st p.2)) ∧ K (st.put dst (.agg cs))
  | none=>False
 | none=>False
def aMax (h:Int) (b:Bool):Option AV → Prop
 | none=>True
 | some (.c (.int _ m))=>m=h ∧ b=true
 | _=>False
def aSliceO (P:Program) (t:TypeId) (st:ASt) (id e sz:Nat) (rows:List (List AV)) (b:Bool) (mx:Option AV) (dst:Option Nat) (K:ASt → Prop):Option Int → Option Int → Prop
 | some l,some h=>((tyElem P t).2=sz ∧ 0<sz) ∧ (l=0 ∧ 0≤h ∧ h≤(rows.length:Int) ∧ aMax h b mx) ∧ K ({ st with tab:=appTab st.tab st.next (some id) (.row e sz (rows.take h.toNat)),next:=st.next+1 }.put dst (.osl st.next))
 | _,_=>False
def aSliceW (P:Program) (t:TypeId) (st:ASt) (x:AV) (lo hi mx:Option AV) (dst:Option Nat) (K:ASt → Prop):Prop:=
 match x with
 | .osl id=>match st.tab.get id with
  | some (.row e sz rows)=>aSliceO P t st id e sz rows hi.isSome mx dst K (aBd 0 lo) (aBd rows.length hi)
  | _=>False
 | x=>aSlice P t x lo hi mx fun av=>K (st.put dst av)
def aFn (f:AV) (K:FuncId → List AV → Prop):Prop:=
 match f with
 | .c (.func (.func g) first caps)=>(first = #[] ∧ caps = #[]) ∧ K g []
 | .fn g cs=>K g cs
 | _=>False
def aFnB (f:AV) (KB K:FuncId → List AV → Prop):Prop:=
 match f with
 | .bfn g bs=>KB g bs
 | f=>aFn f K
def aK (st:ASt) (dst:Option Nat) (K:ASt → Prop) (av:AV):Prop:=K (st.put dst av)
def aK2 (dst:Option Nat) (K:ASt → Prop) (av:AV) (st:ASt):Prop:=K (st.put dst av)
def aKs (dst:Option Nat) (K:ASt → Prop) (st:ASt):Prop:=K (st.put dst .any)
def aSkip (dst:Option Nat) (K:ASt → Prop) (st:ASt):Prop:=K (st.put dst (.c undef))
def aCallF (P:Program) (st:ASt) (args:List Operand) (dst:Option Nat) (K:ASt → Prop) (g:FuncId) (cs:List AV):Prop:=aCall none P st g (args.map (aEv st) ++ cs) (aK2 dst K)
def aCallB (P:Program) (st:ASt) (args:List Operand) (dst:Option Nat) (K:ASt → Prop) (g:FuncId) (bs:List AV):Prop:=aCall none P st g (bs ++ args.map (aEv st)) (aK2 dst K)
def aCallE (P:Program) (nx0:Nat) (ids:List Nat) (st:ASt) (args:List Operand) (dst:Option Nat) (K:ASt → Prop) (g:FuncId) (cs:List AV):Prop:=aCall (some (nx0,ids)) P st g (args.map (aEv st) ++ cs) (aK2 dst K)
def aCallD (P:Program) (st:ASt) (args:List Operand) (dst:Option Nat) (K:ASt → Prop) (g:FuncId) (cs:List AV):Prop:=∃ v,ADet P g ((args.map (aEv st) ++ cs).map (dref st.tab)) ⟨.c v,[],0⟩ ∧ K (st.put dst (.c v))
def aOp (P:Program) (o:Oper) (K:ASt → Prop) (st:ASt):Prop:=
 match o.op with
 | .box t x=>aBox t st (aEv st x) o.dst K
 | .alloc t=>match tyZero P t with
  | some z=>aBox t st (.c z) o.dst K
  | none=>False
 | .store t p x=>aStore P t st (aEv st p) (aEv st x) (aKs o.dst K)
 | .buildSlice t n parts=>aBuildSlice P t n parts.toList st o.dst K
 | .makeSlice t l c=>aMake P t st (aEv st l) (aEv st c) o.dst K
 | .build t parts=>aBuild P t st parts.toList o.dst K
 | .slice t x lo hi mx=>aSliceW P t st (aEv st x) (lo.map (aEv st)) (hi.map (aEv st)) (mx.map (aEv st)) o.dst K
 | .makeMap _ r=>aMakeMap st r.isNone o.dst K
 | .lookup t m k ok=>aLookup P t st.tab (aEv st m) (aEv st k) ok (aK st o.dst K)
 | .mapUpdate t m k v=>aMapUpd P t st (aEv st m) (aEv st k) (aEv st v) (aKs o.dst K)
 | .call c=>match c.callee with
  | .builtin .append=>match c.args.toList,c.argTypes.toList with
   | [x,y],[t,t']=>t=t' ∧ aAppend P t st (aEv st x) (aEv st y) o.dst K
   | _,_=>False
  | .builtin .clear=>aClears P st c.args.toList c.argTypes.toList o.dst K
  | .builtin .len=>aLenMs P st.tab (aEv st) c.args.toList c.argTypes.toList (aK st o.dst K) ∨ aPure P st.tab (aEv st) (.call c) (aK st o.dst K)
  | .value f=>aFnB (aEv st f) (aCallB P st c.args.toList o.dst K) (aCallF P st c.args.toList o.dst K)
  | _=>aPure P st.tab (aEv st) (.call c) (aK st o.dst K)
 | op=>aPure P st.tab (aEv st) op (aK st o.dst K)
def yv:Value → Option Bool
 | .bool b=>some b
 | _=>none
def aGd (b want:Bool) (d:Nat) (yes no:ASt → Prop) (st:ASt):Prop:=
 match b,want with
 | true,true=>yes (st.put (some d) (.c (.bool true)))
 | false,false=>yes (st.put (some d) (.c (.bool false)))
 | true,false=>no (st.put (some d) (.c (.bool true)))
 | false,true=>no (st.put (some d) (.c (.bool false)))
section
variable {b want:Bool} {d:Nat} {yes no:ASt → Prop} {st:ASt}
theorem aGd_tt:aGd true true d yes no st=yes (st.put (some d) (.c (.bool true))):=rfl
theorem aGd_ff:aGd false false d yes no st=yes (st.put (some d) (.c (.bool false))):=rfl
theorem aGd_tf:aGd true false d yes no st=no (st.put (some d) (.c (.bool true))):=rfl
theorem aGd_ft:aGd false true d yes no st=no (st.put (some d) (.c (.bool false))):=rfl
theorem aGd_split (h1:b=true → aGd true want d yes no st) (h2:b=false → aGd false want d yes no st):aGd b want d yes no st:=by
 cases b
 ·exact h2 rfl
 ·exact h1 rfl
end
def aGuard (ops:Array Oper) (g:Option (Nat × Bool)) (yes no:ASt → Prop) (st:ASt):Prop:=
 match g with
 | none=>yes st
 | some (j,want)=>match (ops[j]?).bind (·.dst) with
  | some d=>match st.get d with
   | .c v=>match yv v with
    | some b=>aGd b want d yes no st
    | none=>no st
   | _=>False
  | none=>False
def aOps (P:Program) (ops:Array Oper) (K:ASt → Prop):List Oper → ASt → Prop
 | [],st=>K st
 | o :: rest,st=>aGuard ops o.guard (aOp P o (aOps P ops K rest)) (aSkip o.dst (aOps P ops K rest)) st
def aDop (P:Program) (o:Oper) (K:ASt → Prop) (st:ASt):Prop:=
 match o.op with
 | .call c=>match c.callee with
  | .value f=>aFn (aEv st f) (aCallD P st c.args.toList o.dst K)
  | _=>aPure P st.tab (aEv st) (.call c) (aK st o.dst K)
 | .build t parts=>aBuild P t st parts.toList o.dst K
 | op=>aPure P st.tab (aEv st) op (aK st o.dst K)
def aDops (P:Program) (ops:Array Oper) (K:ASt → Prop):List Oper → ASt → Prop
 | [],st=>K st
 | o :: rest,st=>aGuard ops o.guard (aDop P o (aDops P ops K rest)) (aSkip o.dst (aDops P ops K rest)) st
def aPops (P:Program) (ops:Array Oper) (K:ASt → Prop):List Oper → ASt → Prop
 | [],st=>K st
 | o :: rest,st=>aGuard ops o.guard (aPop P o (aPops P ops K rest)) (aSkip o.dst (aPops P ops K rest)) st
where aPop (P:Program) (o:Oper) (K:ASt → Prop) (st:ASt):Prop:=aPure P st.tab (aEv st) o.op (aK st o.dst K)
inductive Sch where
 | done
 | take (i:Nat) (s:Sch)
 | exec (i:Nat) (s:Sch)
 | two (i:Nat) (s:Sch) (j:Nat) (t:Sch)
 | three (i:Nat) (s:Sch) (j:Nat) (t:Sch) (k:Nat) (u:Sch)
 | four (i:Nat) (s:Sch) (j:Nat) (t:Sch) (k:Nat) (u:Sch) (l:Nat) (v:Sch)
def Sch.len:Sch → Nat
 | .done=>0
 | .take _ s=>s.len+1
 | .exec _ s=>s.len+1
 | .two _ s _ t=>Nat.max s.len t.len+1
 | .three _ s _ t _ u=>Nat.max s.len (Nat.max t.len u.len)+1
 | .four _ s _ t _ u _ v=>Nat.max s.len (Nat.max t.len (Nat.max u.len v.len))+1
def schedS (ops:Array Oper):Sch → Array Bool → Bool
 | .take i s,listed=>Region.free .any ops listed i && (Region.ready .any ops listed).contains i && schedS ops s (listed.setIfInBounds i true)
 | .exec i s,listed=>decide (Region.ready .any ops listed=[i]) && schedS ops s (listed.setIfInBounds i true)
 | .two i s j t,listed=>decide (Region.ready .any ops listed=[i,j]) && schedS ops s (listed.setIfInBounds i true) && schedS ops t (listed.setIfInBounds j true)
 | .three i s j t k u,listed=>decide (Region.ready .any ops listed=[i,j,k]) && schedS ops s (listed.setIfInBounds i true) && schedS ops t (listed.setIfInBounds j true) && schedS ops u (listed.setIfInBounds k true)
 | .four i s j t k u l v,listed=>decide (Region.ready .any ops listed=[i,j,k,l]) && schedS ops s (listed.setIfInBounds i true) && schedS ops t (listed.setIfInBounds j true) && schedS ops u (listed.setIfInBounds k true) && schedS ops v (listed.setIfInBounds l true)
 | .done,listed=>(Region.ready .any ops listed).isEmpty
def schedB (ops:Array Oper):List Nat → Sch → Array Bool → Bool
 | i :: h,s,listed=>Region.free .any ops listed i && (Region.ready .any ops listed).contains i && schedB ops h s (listed.setIfInBounds i true)
 | [],s,listed=>schedS ops s listed
def aFresh (nx0:Nat) (ids:List Nat):AV → Prop
 | .osl id=>aMay nx0 ids id
 | _=>True
def aExec (P:Program) (nx0:Nat) (ids:List Nat) (o:Oper) (K:ASt → Prop) (st:ASt):Prop:=
 match o.op with
 | .assign x=>K (st.put o.dst (aEv st x))
 | .load _ _=>aPure P st.tab (aEv st) o.op (aK st o.dst K)
 | .lookup t m k ok=>aLookup P t st.tab (aEv st m) (aEv st k) ok (aK st o.dst K)
 | .mapUpdate t m k v=>match aEv st m with
  | .osl id=>aMay nx0 ids id ∧ aMapUpd P t st (.osl id) (aEv st k) (aEv st v) (aKs o.dst K)
  | _=>False
 | .store t p x=>match aEv st p with
  | .op id i j=>aMay nx0 ids id ∧ aStoreB P t st id i j (aEv st x) (aKs o.dst K)
  | _=>False
 | .alloc t=>match tyZero P t with
  | some z=>aBox t st (.c z) o.dst K
  | none=>False
 | .box t x=>aBox t st (aEv st x) o.dst K
 | .buildSlice t n parts=>aBuildSlice P t n parts.toList st o.dst K
 | .makeSlice t l c=>aMake P t st (aEv st l) (aEv st c) o.dst K
 | .call c=>match c.callee with
  | .builtin .append=>match c.args.toList,c.argTypes.toList with
   | [x,y],[t,t']=>(t=t' ∧ aFresh nx0 ids (aEv st x)) ∧ aAppend P t st (aEv st x) (aEv st y) o.dst K
   | _,_=>False
  | .value f=>aFn (aEv st f) (aCallE P nx0 ids st c.args.toList o.dst K)
  | _=>False
 | _=>False
def aFrom (ids:List Nat):AV → Prop
 | .op id _ _=>id ∉ ids
 | .rp _=>True
 | _=>False
def aTakes (ids:List Nat) (st:ASt):Op → Prop
 | .load _ x=>aFrom ids (aEv st x)
 | _=>True
def aTakeP (P:Program) (dst:Option Nat) (op:Op) (K:ASt → Prop) (st:ASt):Prop:=
 match op with
 | .build t parts=>aBuild P t st parts.toList dst K
 | op=>aPure P st.tab (aEv st) op (aK st dst K)
def aTakeY (P:Program) (ids:List Nat) (o:Oper) (K:ASt → Prop) (st:ASt):Prop:=aTakes ids st o.op ∧ aTakeP P o.dst o.op K st
def aElder (nx0:Nat) (ids:List Nat) (tab:ATab):AV → Prop
 | .op id _ _=>id<nx0 ∧ id ∉ ids ∧ match tab.get id with
  | some _=>True
  | none=>False
 | _=>False
def aTakeE (nx0:Nat) (ids:List Nat) (st:ASt):Op → Prop
 | .load _ x=>aElder nx0 ids st.tab (aEv st x)
 | _=>True
def aTakeN (P:Program) (nx0:Nat) (ids:List Nat) (o:Oper) (K:ASt → Prop) (st:ASt):Prop:=aTakeE nx0 ids st o.op ∧ aTakeP P o.dst o.op K st
def aHeldT (P:Program) (ops:Array Oper) (nx0:Nat) (ids:List Nat) (o:Option Oper) (K:ASt → Prop) (st:ASt):Prop:=
 match o with
 | some o=>aGuard ops o.guard (aTakeN P nx0 ids o K) (aSkip o.dst K) st
 | none=>False
def aHeldL (P:Program) (ops:Array Oper) (ids:List Nat) (o:Option Oper) (K:ASt → Prop) (st:ASt):Prop:=
 match o with
 | some o=>aGuard ops o.guard (aTakeY P ids o K) (aSkip o.dst K) st
 | none=>False
def aHeldE (P:Program) (ops:Array Oper) (nx0:Nat) (ids:List Nat) (o:Option Oper) (K:ASt → Prop) (st:ASt):Prop:=
 match o with
 | some o=>aGuard ops o.guard (aExec P nx0 ids o K) (aSkip o.dst K) st
 | none=>False
def aHeld (P:Program) (ops:Array Oper) (nx0:Nat) (ids:List Nat) (K:ASt → Prop):Sch → ASt → Prop
 | .done,st=>K st
 | .take i s,st=>aHeldT P ops nx0 ids ops[i]? (aHeld P ops nx0 ids K s) st
 | .exec i s,st=>aHeldE P ops nx0 ids ops[i]? (aHeld P ops nx0 ids K s) st
 | .two i s j t,st=>aHeldE P ops nx0 ids ops[i]? (aHeld P ops nx0 ids K s) st ∧ aHeldE P ops nx0 ids ops[j]? (aHeld P ops nx0 ids K t) st
 | .three i s j t k u,st=>aHeldE P ops nx0 ids ops[i]? (aHeld P ops nx0 ids K s) st ∧ aHeldE P ops nx0 ids ops[j]? (aHeld P ops nx0 ids K t) st ∧ aHeldE P ops nx0 ids ops[k]? (aHeld P ops nx0 ids K u) st
 | .four i s j t k u l v,st=>aHeldE P ops nx0 ids ops[i]? (aHeld P ops nx0 ids K s) st ∧ aHeldE P ops nx0 ids ops[j]? (aHeld P ops nx0 ids K t) st ∧ aHeldE P ops nx0 ids ops[k]? (aHeld P ops nx0 ids K u) st ∧ aHeldE P ops nx0 ids ops[l]? (aHeld P ops nx0 ids K v) st
def aHeldH (P:Program) (ops:Array Oper) (ids:List Nat) (K:ASt → Prop):List Nat → ASt → Prop
 | [],st=>K st
 | i :: s,st=>aHeldL P ops ids ops[i]? (aHeldH P ops ids K s) st
def Weak (st st':ASt):Prop:=∀ cx a w L,Conc cx a w st L → ∃ L',Conc cx a w st' L' ∧ ∀ b,Sx cx w st.tab L b → Sx cx w st'.tab L' b
theorem Weak.reflH (st:ASt):Weak st st:=fun _ _ _ L h=>⟨L,h,fun _ hb=>hb⟩
inductive aDraw (P:Program) (ops:Array Oper) (K:ASt → Prop) (st:ASt):Prop
 | quiet (hB:Region.lexB .any ops=true) (h:aDops P ops K ops.toList st)
 | tail (n:Nat) (hB:Region.lexTailB .any ops n=true) (h:aPops P ops (aOps P ops K (ops.toList.drop n)) (ops.toList.take n) st)
 | held (ids:List Nat) (hd:List Nat) (s:Sch) (hB:(Region.noSelect ops && schedB ops hd s (Array.replicate ops.size false) && Nat.ble (hd.length+s.len) ops.size)=true) (K':ASt → Prop) (hK:∀ st,K' st → ∃ st',Weak st st' ∧ K st') (h:(∀ id ∈ ids,(st.tab.get id).isSome=true) ∧ aHeldH P ops ids (aHeld P ops st.next ids K' s) hd st)
theorem aDraw_quiet {P:Program} {l:List Oper} {K:ASt → Prop} {st:ASt} (hB:Region.lexB .any l.toArray=true) (h:aDops P l.toArray K l st):aDraw P l.toArray K st:=.quiet hB h
theorem aDraw_tail {P:Program} {l:List Oper} {K:ASt → Prop} {st:ASt} (n:Nat) (hB:Region.lexTailB .any l.toArray n=true) (h:aPops P l.toArray (aOps P l.toArray K (l.drop n)) (l.take n) st):aDraw P l.toArray K st:=.tail n hB h
theorem aDraw_held {P:Program} {l:List Oper} {K:ASt → Prop} {st:ASt} (ids:List Nat) (hd:List Nat) (s:Sch) (hB:(Region.noSelect l.toArray && schedB l.toArray hd s (Array.replicate l.toArray.size false) && Nat.ble (hd.length+s.len) l.toArray.size)=true) (hids:∀ id ∈ ids,(st.tab.get id).isSome=true) (h:aHeldH P l.toArray ids (aHeld P l.toArray st.next ids K s) hd st):aDraw P l.toArray K st:=.held ids hd s hB K (fun st h1=>⟨st,.reflH st,h1⟩) ⟨hids,h⟩
def aTo (I:ASt → Prop) (st:ASt):Prop:=∃ st',Weak st st' ∧ I st'
theorem aDraw_join {P:Program} {l:List Oper} {K:ASt → Prop} {st:ASt} (J:ASt → Prop) (ids:List Nat) (hd:List Nat) (s:Sch) (hB:(Region.noSelect l.toArray && schedB l.toArray hd s (Array.replicate l.toArray.size false) && Nat.ble (hd.length+s.len) l.toArray.size)=true) (hids:∀ id ∈ ids,(st.tab.get id).isSome=true) (h:aHeldH P l.toArray ids (aHeld P l.toArray st.next ids (aTo J) s) hd st) (hJ:∀ st,J st → K st):aDraw P l.toArray K st:=
 .held ids hd s hB (aTo J) (fun st ⟨st',hw,h1⟩=>⟨st',hw,hJ st' h1⟩) ⟨hids,h⟩
def aThen (next:ASt → Prop) (Q:Exit → ASt → Prop):Exit → ASt → Prop
 | .normal,st=>next st
 | e,st=>Q e st
def aInBlock (id:Nat) (Q:Exit → ASt → Prop):Exit → ASt → Prop
 | .exit id',st=>if id'=id then Q .normal st else Q (.exit id') st
 | e,st=>Q e st
def aIf (t:Bool) (x y:ASt → Prop) (st:ASt):Prop:=match t with | true=>x st | false=>y st
theorem aIf_true {x y:ASt → Prop} {st:ASt}:aIf true x y st=x st:=rfl
theorem aIf_false {x y:ASt → Prop} {st:ASt}:aIf false x y st=y st:=rfl
theorem aIf_split {t:Bool} {x y:ASt → Prop} {st:ASt} (h1:t=true → aIf true x y st) (h2:t=false → aIf false x y st):aIf t x y st:=by
 cases t
 ·exact h2 rfl
 ·exact h1 rfl
def aCond (c:AV) (x y:ASt → Prop) (st:ASt):Prop:=
 match c with
 | .c (.bool b)=>aIf b x y st
 | _=>False
def aRound (I:ASt → Prop) (μ:ASt → Nat) (n:Nat) (st:ASt):Prop:=∃ st',Weak st st' ∧ I st' ∧ μ st'<n
def aReg (P:Program) (ops:Array Oper) (draw:Bool) (K:ASt → Prop) (st:ASt):Prop:=if draw=true then aDraw P ops K st else aOps P ops K ops.toList st
def aNoGoto (Q:Exit → ASt → Prop):Exit → ASt → Prop
 | .goto _,_=>False
 | e,st=>Q e st
def aCode (P:Program):Code → (Exit → ASt → Prop) → ASt → Prop
 | .skip,Q,st=>Q .normal st
 | .region _ ops draw,Q,st=>aReg P ops draw (Q .normal) st
 | .seq x y,Q,st=>aCode P x (aThen (aCode P y Q) Q) st
 | .cond c x y,Q,st=>aCond (aEv st c) (aCode P x Q) (aCode P y Q) st
 | .block id x,Q,st=>aCode P x (aInBlock id Q) st
 | .loop x,Q,st=>∃ (I:ASt → Prop) (μ:ASt → Nat),(∃ st',Weak st st' ∧ I st') ∧ ∀ st,I st → aCode P x (aThen (aRound I μ (μ st)) Q) st
 | .exit id,Q,st=>Q (.exit id) st
 | .ret,Q,st=>Q .ret st
 | .rangeFunc g ps assign body,Q,st=>∀ (cx:Cx) (a:Act) (w:World) (L:Nat → Value),Conc cx a w st L → (Code.rangeFunc g ps assign body).wp P (fun e a w=>∃ st L,Q e st ∧ Conc cx a w st L) a w
 | .label _,Q,st=>Q .normal st
 | .scope x,Q,st=>aCode P x (aNoGoto Q) st
 | _,_,_=>False
def aLoop (P:Program) (x:Code) (Q:Exit → ASt → Prop) (st:ASt):Prop:=aCode P (.loop x) Q st
theorem aLoop_of {P:Program} {x:Code} {Q:Exit → ASt → Prop} {st:ASt} (I:ASt → Prop) (μ:ASt → Nat) (h0:∃ st',Weak st st' ∧ I st') (h:∀ st,I st → aCode P x (aThen (aRound I μ (μ st)) Q) st):aLoop P x Q st:=⟨I,μ,h0,h⟩
section
variable {P:Program} {Q:Exit → ASt → Prop} {st:ASt}
theorem aCode_skip:aCode P .skip Q st=Q .normal st:=rfl
theorem aCode_regF {id:Nat} {l:List Oper}:aCode P (.region id l.toArray false) Q st=aOps P l.toArray (Q .normal) l st:=by simp [aCode,aReg]
theorem aCode_regT {id:Nat} {l:List Oper}:aCode P (.region id l.toArray true) Q st=aDraw P l.toArray (Q .normal) st:=by simp [aCode,aReg]
theorem aCode_seq {x y:Code}:aCode P (.seq x y) Q st=aCode P x (aThen (aCode P y Q) Q) st:=rfl
theorem aCode_cond {c:Operand} {x y:Code}:aCode P (.cond c x y) Q st=aCond (aEv st c) (aCode P x Q) (aCode P y Q) st:=rfl
theorem aCode_block {id:Nat} {x:Code}:aCode P (.block id x) Q st=aCode P x (aInBlock id Q) st:=rfl
theorem aCode_loop {x:Code}:aCode P (.loop x) Q st=aLoop P x Q st:=rfl
theorem aCode_exit {id:Nat}:aCode P (.exit id) Q st=Q (.exit id) st:=rfl
theorem aCode_ret:aCode P .ret Q st=Q .ret st:=rfl
theorem aThen_normal {next:ASt → Prop}:aThen next Q .normal st=next st:=rfl
theorem aThen_exit {next:ASt → Prop} {id:Nat}:aThen next Q (.exit id) st=Q (.exit id) st:=rfl
theorem aThen_ret {next:ASt → Prop}:aThen next Q .ret st=Q .ret st:=rfl
theorem aInBlock_normal {id:Nat}:aInBlock id Q .normal st=Q .normal st:=rfl
theorem aInBlock_ret {id:Nat}:aInBlock id Q .ret st=Q .ret st:=rfl
theorem aInBlock_exit {id id':Nat}:aInBlock id Q (.exit id') st=if id'=id then Q .normal st else Q (.exit id') st:=rfl
theorem aCond_bool {b:Bool} {x y:ASt → Prop}:aCond (.c (.bool b)) x y st=aIf b x y st:=rfl
theorem aSkip_eq {dst:Option Nat} {K:ASt → Prop}:aSkip dst K st=K (st.put dst (.c undef)):=rfl
theorem aKs_eq {dst:Option Nat} {K:ASt → Prop}:aKs dst K st=K (st.put dst .any):=rfl
theorem aK_eq {dst:Option Nat} {K:ASt → Prop} {av:AV}:aK st dst K av=K (st.put dst av):=rfl
theorem aK2_eq {dst:Option Nat} {K:ASt → Prop} {av:AV}:aK2 dst K av st=K (st.put dst av):=rfl
theorem aFn_eq {g:FuncId} {K:FuncId → List AV → Prop}:aFn (.c (.func (.func g) #[] #[])) K=K g []:=by simp [aFn]
theorem aFnB_eq {g:FuncId} {KB K:FuncId → List AV → Prop}:aFnB (.c (.func (.func g) #[] #[])) KB K=K g []:=by simp [aFnB,aFn]
theorem aFnB_clo {g:FuncId} {cs:List AV} {KB K:FuncId → List AV → Prop}:aFnB (.fn g cs) KB K=K g cs:=rfl
theorem aFnB_bfn {g:FuncId} {cs:List AV} {KB K:FuncId → List AV → Prop}:aFnB (.bfn g cs) KB K=KB g cs:=rfl
theorem aFn_clo {g:FuncId} {cs:List AV} {K:FuncId → List AV → Prop}:aFn (.fn g cs) K=K g cs:=rfl
theorem aCallF_eq {args:List Operand} {dst:Option Nat} {K:ASt → Prop} {g:FuncId} {cs:List AV}:aCallF P st args dst K g cs=aCall none P st g (args.map (aEv st) ++ cs) (aK2 dst K):=rfl
theorem aCallB_eq {args:List Operand} {dst:Option Nat} {K:ASt → Prop} {g:FuncId} {cs:List AV}:aCallB P st args dst K g cs=aCall none P st g (cs ++ args.map (aEv st)) (aK2 dst K):=rfl
theorem aCallE_eq {nx0:Nat} {ids:List Nat} {args:List Operand} {dst:Option Nat} {K:ASt → Prop} {g:FuncId} {cs:List AV}:aCallE P nx0 ids st args dst K g cs=aCall (some (nx0,ids)) P st g (args.map (aEv st) ++ cs) (aK2 dst K):=rfl
theorem aCallD_eq {args:List Operand} {dst:Option Nat} {K:ASt → Prop} {g:FuncId} {cs:List AV}:aCallD P st args dst K g cs = ∃ v,ADet P g ((args.map (aEv st) ++ cs).map (dref st.tab)) ⟨.c v,[],0⟩ ∧ K (st.put dst (.c v)):=rfl
section
variable {ops:Array Oper} {K:ASt → Prop} {dst:Option Tmp} {op:Op} {ty:TypeId} {pos:String} {aft:Array Edge} {gd:Option (Nat × Bool)} {rest:List Oper} {j:Nat} {want:Bool}
theorem aOps_nil:aOps P ops K [] st=K st:=rfl
theorem aOps_plain:aOps P ops K (⟨dst,op,ty,pos,aft,none⟩ :: rest) st=aOp P ⟨dst,op,ty,pos,aft,none⟩ (aOps P ops K rest) st:=rfl
def aGuardV (v:AV) (want:Bool) (d:Nat) (yes no:ASt → Prop) (st:ASt):Prop:=
 match v with
 | .c v=>match yv v with
  | some b=>aGd b want d yes no st
  | none=>no st
 | _=>False
def aGuardD (d:Option Nat) (want:Bool) (yes no:ASt → Prop) (st:ASt):Prop:=match d with | some d=>aGuardV (st.get d) want d yes no st | none=>False
theorem aGuardD_eq {d:Nat} {yes no:ASt → Prop}:aGuardD (some d) want yes no st=aGuardV (st.get d) want d yes no st:=rfl
theorem aGuardV_bool {b:Bool} {d:Nat} {yes no:ASt → Prop}:aGuardV (.c (.bool b)) want d yes no st=aGd b want d yes no st:=rfl
theorem aGuardV_undef {d:Nat} {yes no:ASt → Prop}:aGuardV (.c undef) want d yes no st=no st:=rfl
theorem aOps_guard:aOps P ops K (⟨dst,op,ty,pos,aft,some (j,want)⟩ :: rest) st=aGuardD ((ops[j]?).bind (·.dst)) want (aOp P ⟨dst,op,ty,pos,aft,some (j,want)⟩ (aOps P ops K rest)) (aSkip dst (aOps P ops K rest)) st:=rfl
theorem aPops_nil:aPops P ops K [] st=K st:=rfl
theorem aPops_plain:aPops P ops K (⟨dst,op,ty,pos,aft,none⟩ :: rest) st=aPure P st.tab (aEv st) op (aK st dst (aPops P ops K rest)):=rfl
theorem aHeldH_nil {ids:List Nat}:aHeldH P ops ids K [] st=K st:=rfl
theorem aHeldH_cons {ids:List Nat} {i:Nat} {s:List Nat}:aHeldH P ops ids K (i :: s) st=aHeldL P ops ids ops[i]? (aHeldH P ops ids K s) st:=rfl
theorem aHeld_nil {nx0:Nat} {ids:List Nat}:aHeld P ops nx0 ids K .done st=K st:=rfl
theorem aHeld_take {nx0 i:Nat} {ids:List Nat} {s:Sch}:aHeld P ops nx0 ids K (.take i s) st=aHeldT P ops nx0 ids ops[i]? (aHeld P ops nx0 ids K s) st:=rfl
theorem aHeld_exec {nx0 i:Nat} {ids:List Nat} {s:Sch}:aHeld P ops nx0 ids K (.exec i s) st=aHeldE P ops nx0 ids ops[i]? (aHeld P ops nx0 ids K s) st:=rfl
theorem aHeld_two {nx0 i j:Nat} {ids:List Nat} {s t:Sch}:aHeld P ops nx0 ids K (.two i s j t) st=(aHeldE P ops nx0 ids ops[i]? (aHeld P ops nx0 ids K s) st ∧ aHeldE P ops nx0 ids ops[j]? (aHeld P ops nx0 ids K t) st):=rfl
theorem aHeld_three {nx0 i j k:Nat} {ids:List Nat} {s t u:Sch}:aHeld P ops nx0 ids K (.three i s j t k u) st=(aHeldE P ops nx0 ids ops[i]? (aHeld P ops nx0 ids K s) st ∧ aHeldE P ops nx0 ids ops[j]? (aHeld P ops nx0 ids K t) st ∧ aHeldE P ops nx0 ids ops[k]? (aHeld P ops nx0 ids K u) st):=rfl
theorem aHeldL_plain {ids:List Nat}:aHeldL P ops ids (some ⟨dst,op,ty,pos,aft,none⟩) K st=(aTakes ids st op ∧ aTakeP P dst op K st):=rfl
theorem aHeldL_guard {ids:List Nat}:aHeldL P ops ids (some ⟨dst,op,ty,pos,aft,some (j,want)⟩) K st=aGuardD ((ops[j]?).bind (·.dst)) want (aTakeY P ids ⟨dst,op,ty,pos,aft,some (j,want)⟩ K) (aSkip dst K) st:=rfl
theorem aHeldT_plain {nx0:Nat} {ids:List Nat}:aHeldT P ops nx0 ids (some ⟨dst,op,ty,pos,aft,none⟩) K st=(aTakeE nx0 ids st op ∧ aTakeP P dst op K st):=rfl
theorem aHeldT_guard {nx0:Nat} {ids:List Nat}:aHeldT P ops nx0 ids (some ⟨dst,op,ty,pos,aft,some (j,want)⟩) K st=aGuardD ((ops[j]?).bind (·.dst)) want (aTakeN P nx0 ids ⟨dst,op,ty,pos,aft,some (j,want)⟩ K) (aSkip dst K) st:=rfl
theorem aTakeY_eq {ids:List Nat}:aTakeY P ids ⟨dst,op,ty,pos,aft,gd⟩ K st=(aTakes ids st op ∧ aTakeP P dst op K st):=rfl
theorem aTakeP_build {t:TypeId} {parts:List (Nat × Operand)}:aTakeP P dst (.build t parts.toArray) K st=aBuild P t st parts dst K:=by simp [aTakeP]
theorem aTakeP_move {x:Operand}:aTakeP P dst (.move x) K st=aPure P st.tab (aEv st) (.move x) (aK st dst K):=rfl
theorem aTakeP_pick {c x y:Operand}:aTakeP P dst (.pick c x y) K st=aPure P st.tab (aEv st) (.pick c x y) (aK st dst K):=rfl
theorem aTakeP_load {t:TypeId} {x:Operand}:aTakeP P dst (.load t x) K st=aPure P st.tab (aEv st) (.load t x) (aK st dst K):=rfl
theorem aTakeP_field {s:TypeId} {x:Operand} {f:Nat}:aTakeP P dst (.fieldAddr s x f) K st=aPure P st.tab (aEv st) (.fieldAddr s x f) (aK st dst K):=rfl
theorem aTakeP_index {t:TypeId} {x y:Operand}:aTakeP P dst (.indexAddr t x y) K st=aPure P st.tab (aEv st) (.indexAddr t x y) (aK st dst K):=rfl
theorem aTakeP_bin {o:BinOp} {t r:TypeId} {x y:Operand}:aTakeP P dst (.binOp o t x y r) K st=aPure P st.tab (aEv st) (.binOp o t x y r) (aK st dst K):=rfl
theorem aTakeP_un {o:UnOp} {t:TypeId} {x:Operand}:aTakeP P dst (.unOp o t x) K st=aPure P st.tab (aEv st) (.unOp o t x) (aK st dst K):=rfl
theorem aTakeP_extract {x:Operand} {i:Nat}:aTakeP P dst (.extract x i) K st=aPure P st.tab (aEv st) (.extract x i) (aK st dst K):=rfl
theorem aTakeP_call {c:Call}:aTakeP P dst (.call c) K st=aPure P st.tab (aEv st) (.call c) (aK st dst K):=rfl
theorem aTakeN_eq {nx0:Nat} {ids:List Nat}:aTakeN P nx0 ids ⟨dst,op,ty,pos,aft,gd⟩ K st=(aTakeE nx0 ids st op ∧ aTakeP P dst op K st):=rfl
theorem aHeldE_eq {nx0:Nat} {ids:List Nat}:aHeldE P ops nx0 ids (some ⟨dst,op,ty,pos,aft,none⟩) K st=aExec P nx0 ids ⟨dst,op,ty,pos,aft,none⟩ K st:=rfl
def aExecK (P:Program) (nx0:Nat) (ids:List Nat) (o:Oper) (K:ASt → Prop) (st:ASt):Prop:=aExec P nx0 ids o K st
theorem aExecK_eq {nx0:Nat} {ids:List Nat} {o:Oper}:aExecK P nx0 ids o K st=aExec P nx0 ids o K st:=rfl
theorem aHeldE_guard {nx0:Nat} {ids:List Nat}:aHeldE P ops nx0 ids (some ⟨dst,op,ty,pos,aft,some (j,want)⟩) K st=aGuardD ((ops[j]?).bind (·.dst)) want (aExecK P nx0 ids ⟨dst,op,ty,pos,aft,some (j,want)⟩ K) (aSkip dst K) st:=rfl
theorem aExec_assign {nx0:Nat} {ids:List Nat} {x:Operand}:aExec P nx0 ids ⟨dst,.assign x,ty,pos,aft,gd⟩ K st=K (st.put dst (aEv st x)):=rfl
def aExecS (P:Program) (nx0:Nat) (ids:List Nat) (t:TypeId) (p x:AV) (dst:Option Nat) (K:ASt → Prop) (st:ASt):Prop:=
 match p with
 | .op id i j=>aMay nx0 ids id ∧ aStoreB P t st id i j x (aKs dst K)
 | _=>False
theorem aExec_load {nx0:Nat} {ids:List Nat} {t:TypeId} {x:Operand}:aExec P nx0 ids ⟨dst,.load t x,ty,pos,aft,gd⟩ K st=aLoad P t st.tab (aEv st x) (aK st dst K):=rfl
def aExecU (P:Program) (nx0:Nat) (ids:List Nat) (t:TypeId) (m k v:AV) (dst:Option Nat) (K:ASt → Prop) (st:ASt):Prop:=
 match m with
 | .osl id=>aMay nx0 ids id ∧ aMapUpd P t st (.osl id) k v (aKs dst K)
 | _=>False
theorem aExec_store {nx0:Nat} {ids:List Nat} {t:TypeId} {p x:Operand}:aExec P nx0 ids ⟨dst,.store t p x,ty,pos,aft,gd⟩ K st=aExecS P nx0 ids t (aEv st p) (aEv st x) dst K st:=rfl
theorem aExec_alloc {nx0:Nat} {ids:List Nat} {t:TypeId}:aExec P nx0 ids ⟨dst,.alloc t,ty,pos,aft,gd⟩ K st=match tyZero P t with | some z=>aBox t st (.c z) dst K | none=>False:=rfl
theorem aExec_append {nx0:Nat} {ids:List Nat} {x y:Operand} {t t':TypeId}:aExec P nx0 ids ⟨dst,.call ⟨.builtin .append,#[x,y],#[t,t']⟩,ty,pos,aft,gd⟩ K st=((t=t' ∧ aFresh nx0 ids (aEv st x)) ∧ aAppend P t st (aEv st x) (aEv st y) dst K):=rfl
theorem aExec_call {nx0:Nat} {ids:List Nat} {f:Operand} {args:List Operand} {ts:Array TypeId}:aExec P nx0 ids ⟨dst,.call ⟨.value f,args.toArray,ts⟩,ty,pos,aft,gd⟩ K st=aFn (aEv st f) (aCallE P nx0 ids st args dst K):=by simp [aExec]
theorem aExec_makeSlice {nx0:Nat} {ids:List Nat} {t:TypeId} {l c:Operand}:aExec P nx0 ids ⟨dst,.makeSlice t l c,ty,pos,aft,gd⟩ K st=aMake P t st (aEv st l) (aEv st c) dst K:=rfl
theorem aExec_buildSlice {nx0:Nat} {ids:List Nat} {t:TypeId} {n:Nat} {parts:List (Nat × Operand)}:aExec P nx0 ids ⟨dst,.buildSlice t n parts.toArray,ty,pos,aft,gd⟩ K st=aBuildSlice P t n parts st dst K:=by simp [aExec]
theorem aPure_move {k:AV → Prop} {tab:ATab} {ev:Operand → AV} {x:Operand}:aPure P tab ev (.move x) k=k (ev x):=rfl
theorem aPure_load {k:AV → Prop} {tab:ATab} {ev:Operand → AV} {t:TypeId} {x:Operand}:aPure P tab ev (.load t x) k=aLoad P t tab (ev x) k:=rfl
theorem aPure_field {k:AV → Prop} {tab:ATab} {ev:Operand → AV} {t:TypeId} {x:Operand} {f:Nat}:aPure P tab ev (.fieldAddr t x f) k=aField P t tab (ev x) f k:=rfl
theorem aPure_index {k:AV → Prop} {tab:ATab} {ev:Operand → AV} {t:TypeId} {x i:Operand}:aPure P tab ev (.indexAddr t x i) k=aIndex P t tab (ev x) (ev i) k:=rfl
theorem aPure_bin {k:AV → Prop} {tab:ATab} {ev:Operand → AV} {o:BinOp} {t t2:TypeId} {x y:Operand}:aPure P tab ev (.binOp o t x y t2) k=aBin P o t (ev x) (ev y) k:=rfl
theorem aPure_un {k:AV → Prop} {tab:ATab} {ev:Operand → AV} {o:UnOp} {t:TypeId} {x:Operand}:aPure P tab ev (.unOp o t x) k=aUn o (ev x) k:=rfl
theorem aPure_extract {k:AV → Prop} {tab:ATab} {ev:Operand → AV} {x:Operand} {i:Nat}:aPure P tab ev (.extract x i) k=aExtract (ev x) i k:=rfl
theorem aPure_len {k:AV → Prop} {tab:ATab} {ev:Operand → AV} {x:Operand} {t:TypeId}:aPure P tab ev (.call ⟨.builtin .len,#[x],#[t]⟩) k=aLen P t tab (ev x) k:=rfl
theorem aDops_nil:aDops P ops K [] st=K st:=rfl
theorem aDops_plain:aDops P ops K (⟨dst,op,ty,pos,aft,none⟩ :: rest) st=aDop P ⟨dst,op,ty,pos,aft,none⟩ (aDops P ops K rest) st:=rfl
theorem aDops_guard:aDops P ops K (⟨dst,op,ty,pos,aft,some (j,want)⟩ :: rest) st=aGuardD ((ops[j]?).bind (·.dst)) want (aDop P ⟨dst,op,ty,pos,aft,some (j,want)⟩ (aDops P ops K rest)) (aSkip dst (aDops P ops K rest)) st:=rfl
def aPickK (c a b:AV) (dst:Option Nat) (K:ASt → Prop) (st:ASt):Prop:=aPick c a b (aK st dst K)
def aSel (t:Bool) (a b:AV) (dst:Option Nat) (K:ASt → Prop) (st:ASt):Prop:=match t with | true=>K (st.put dst a) | false=>K (st.put dst b)
theorem aSel_true {a b:AV}:aSel true a b dst K st=K (st.put dst a):=rfl
theorem aSel_false {a b:AV}:aSel false a b dst K st=K (st.put dst b):=rfl
theorem aSel_split {t:Bool} {a b:AV} (h1:t=true → aSel true a b dst K st) (h2:t=false → aSel false a b dst K st):aSel t a b dst K st:=by
 cases t
 ·exact h2 rfl
 ·exact h1 rfl
theorem aPickK_bool {t:Bool} {a b:AV}:aPickK (.c (.bool t)) a b dst K st=aSel t a b dst K st:=by cases t <;> rfl
theorem aPure_pick {tab:ATab} {ev:Operand → AV} {dst:Option Nat} {x y z:Operand}:aPure P tab ev (.pick x y z) (aK st dst K)=aPickK (ev x) (ev y) (ev z) dst K st:=rfl
theorem aOp_move {x:Operand}:aOp P ⟨dst,.move x,ty,pos,aft,gd⟩ K st=K (st.put dst (aEv st x)):=rfl
theorem aOp_assign {x:Operand}:aOp P ⟨dst,.assign x,ty,pos,aft,gd⟩ K st=K (st.put dst (aEv st x)):=rfl
theorem aOp_pick {c x y:Operand}:aOp P ⟨dst,.pick c x y,ty,pos,aft,gd⟩ K st=aPickK (aEv st c) (aEv st x) (aEv st y) dst K st:=rfl
theorem aOp_load {t:TypeId} {x:Operand}:aOp P ⟨dst,.load t x,ty,pos,aft,gd⟩ K st=aLoad P t st.tab (aEv st x) (aK st dst K):=rfl
theorem aOp_field {t:TypeId} {x:Operand} {f:Nat}:aOp P ⟨dst,.fieldAddr t x f,ty,pos,aft,gd⟩ K st=aField P t st.tab (aEv st x) f (aK st dst K):=rfl
theorem aOp_index {t:TypeId} {x i:Operand}:aOp P ⟨dst,.indexAddr t x i,ty,pos,aft,gd⟩ K st=aIndex P t st.tab (aEv st x) (aEv st i) (aK st dst K):=rfl
theorem aOp_bin {o:BinOp} {t t2:TypeId} {x y:Operand}:aOp P ⟨dst,.binOp o t x y t2,ty,pos,aft,gd⟩ K st=aBin P o t (aEv st x) (aEv st y) (aK st dst K):=rfl
theorem aOp_nilChk {x:Operand}:aOp P ⟨dst,.nilCheck x,ty,pos,aft,gd⟩ K st=aNil st.tab (aEv st x) (aK st dst K):=rfl
theorem aOp_un {o:UnOp} {t:TypeId} {x:Operand}:aOp P ⟨dst,.unOp o t x,ty,pos,aft,gd⟩ K st=aUn o (aEv st x) (aK st dst K):=rfl
theorem aOp_extract {x:Operand} {i:Nat}:aOp P ⟨dst,.extract x i,ty,pos,aft,gd⟩ K st=aExtract (aEv st x) i (aK st dst K):=rfl
theorem aOp_conv {s d:TypeId} {x:Operand}:aOp P ⟨dst,.convert s d x,ty,pos,aft,gd⟩ K st=aConv P s d (aEv st x) (aK st dst K):=rfl
theorem aOp_max {x y:Operand} {t t':TypeId}:aOp P ⟨dst,.call ⟨.builtin .max,#[x,y],#[t,t']⟩,ty,pos,aft,gd⟩ K st=aMM (fun a b=>max a b) [aEv st x,aEv st y] (aK st dst K):=rfl
theorem aOp_min {x y:Operand} {t t':TypeId}:aOp P ⟨dst,.call ⟨.builtin .min,#[x,y],#[t,t']⟩,ty,pos,aft,gd⟩ K st=aMM (fun a b=>min a b) [aEv st x,aEv st y] (aK st dst K):=rfl
theorem aOp_len {x:Operand} {t:TypeId}:aOp P ⟨dst,.call ⟨.builtin .len,#[x],#[t]⟩,ty,pos,aft,gd⟩ K st=(aLenM P t st.tab (aEv st x) (aK st dst K) ∨ aLen P t st.tab (aEv st x) (aK st dst K)):=rfl
theorem aOp_append {x y:Operand} {t t':TypeId}:aOp P ⟨dst,.call ⟨.builtin .append,#[x,y],#[t,t']⟩,ty,pos,aft,gd⟩ K st=(t=t' ∧ aAppend P t st (aEv st x) (aEv st y) dst K):=rfl
theorem aOp_makeFuncB {g:FuncId} {x:Operand}:aOp P ⟨dst,.makeFunc (.func g) [x].toArray #[],ty,pos,aft,gd⟩ K st=aK st dst K (.bfn g [aEv st x]):=by simp [aOp,aPure,aClo,aCloB]
theorem aOp_makeFunc {g:FuncId} {caps:List Operand}:aOp P ⟨dst,.makeFunc (.func g) #[] caps.toArray,ty,pos,aft,gd⟩ K st=aK st dst K (.fn g (caps.map (aEv st))):=by simp [aOp,aPure,aClo,aCloB]
theorem aOp_call {f:Operand} {args:List Operand} {ts:Array TypeId}:aOp P ⟨dst,.call ⟨.value f,args.toArray,ts⟩,ty,pos,aft,gd⟩ K st=aFnB (aEv st f) (aCallB P st args dst K) (aCallF P st args dst K):=by simp [aOp]
theorem aOp_box {t:TypeId} {x:Operand}:aOp P ⟨dst,.box t x,ty,pos,aft,gd⟩ K st=aBox t st (aEv st x) dst K:=rfl
theorem aOp_alloc {t:TypeId}:aOp P ⟨dst,.alloc t,ty,pos,aft,gd⟩ K st=match tyZero P t with | some z=>aBox t st (.c z) dst K | none=>False:=rfl
theorem aOp_store {t:TypeId} {p x:Operand}:aOp P ⟨dst,.store t p x,ty,pos,aft,gd⟩ K st=aStore P t st (aEv st p) (aEv st x) (aKs dst K):=rfl
theorem aOp_buildSlice {t:TypeId} {n:Nat} {parts:List (Nat × Operand)}:aOp P ⟨dst,.buildSlice t n parts.toArray,ty,pos,aft,gd⟩ K st=aBuildSlice P t n parts st dst K:=by simp [aOp]
theorem aOp_makeSlice {t:TypeId} {l c:Operand}:aOp P ⟨dst,.makeSlice t l c,ty,pos,aft,gd⟩ K st=aMake P t st (aEv st l) (aEv st c) dst K:=rfl
theorem aOp_slice {t:TypeId} {x:Operand} {lo hi mx:Option Operand}:aOp P ⟨dst,.slice t x lo hi mx,ty,pos,aft,gd⟩ K st=aSliceW P t st (aEv st x) (lo.map (aEv st)) (hi.map (aEv st)) (mx.map (aEv st)) dst K:=rfl
theorem aDop_slice {t:TypeId} {x:Operand} {lo hi mx:Option Operand}:aDop P ⟨dst,.slice t x lo hi mx,ty,pos,aft,gd⟩ K st=aSlice P t (aEv st x) (lo.map (aEv st)) (hi.map (aEv st)) (mx.map (aEv st)) (aK st dst K):=rfl
theorem aOp_build {t:TypeId} {parts:List (Nat × Operand)}:aOp P ⟨dst,.build t parts.toArray,ty,pos,aft,gd⟩ K st=aBuild P t st parts dst K:=by simp [aOp]
theorem aDop_move {x:Operand}:aDop P ⟨dst,.move x,ty,pos,aft,gd⟩ K st=K (st.put dst (aEv st x)):=rfl
theorem aDop_assign {x:Operand}:aDop P ⟨dst,.assign x,ty,pos,aft,gd⟩ K st=K (st.put dst (aEv st x)):=rfl
theorem aDop_pick {c x y:Operand}:aDop P ⟨dst,.pick c x y,ty,pos,aft,gd⟩ K st=aPickK (aEv st c) (aEv st x) (aEv st y) dst K st:=rfl
theorem aDop_load {t:TypeId} {x:Operand}:aDop P ⟨dst,.load t x,ty,pos,aft,gd⟩ K st=aLoad P t st.tab (aEv st x) (aK st dst K):=rfl
theorem aDop_field {t:TypeId} {x:Operand} {f:Nat}:aDop P ⟨dst,.fieldAddr t x f,ty,pos,aft,gd⟩ K st=aField P t st.tab (aEv st x) f (aK st dst K):=rfl
theorem aDop_index {t:TypeId} {x i:Operand}:aDop P ⟨dst,.indexAddr t x i,ty,pos,aft,gd⟩ K st=aIndex P t st.tab (aEv st x) (aEv st i) (aK st dst K):=rfl
theorem aDop_bin {o:BinOp} {t t2:TypeId} {x y:Operand}:aDop P ⟨dst,.binOp o t x y t2,ty,pos,aft,gd⟩ K st=aBin P o t (aEv st x) (aEv st y) (aK st dst K):=rfl
theorem aDop_nilChk {x:Operand}:aDop P ⟨dst,.nilCheck x,ty,pos,aft,gd⟩ K st=aNil st.tab (aEv st x) (aK st dst K):=rfl
theorem aDop_un {o:UnOp} {t:TypeId} {x:Operand}:aDop P ⟨dst,.unOp o t x,ty,pos,aft,gd⟩ K st=aUn o (aEv st x) (aK st dst K):=rfl
theorem aDop_conv {s d:TypeId} {x:Operand}:aDop P ⟨dst,.convert s d x,ty,pos,aft,gd⟩ K st=aConv P s d (aEv st x) (aK st dst K):=rfl
theorem aDop_len {x:Operand} {t:TypeId}:aDop P ⟨dst,.call ⟨.builtin .len,#[x],#[t]⟩,ty,pos,aft,gd⟩ K st=aLen P t st.tab (aEv st x) (aK st dst K):=rfl
theorem aDop_call {f:Operand} {args:List Operand} {ts:Array TypeId}:aDop P ⟨dst,.call ⟨.value f,args.toArray,ts⟩,ty,pos,aft,gd⟩ K st=aFn (aEv st f) (aCallD P st args dst K):=by simp [aDop]
end
end
section
variable {P:Program} {cx:Cx} {a:Act} {w w':World} {tab:ATab} {st:ASt} {L:Nat → Value} {nx:Nat}
abbrev After (cx:Cx) (K:ASt → Prop):Act → World → Prop:=fun a w=>∃ st L,K st ∧ Conc cx a w st L
theorem wp_value {o:Oper} {v:Value} {w':World} {K:Act → World → Prop} {Q:Exit → Act → World → Prop} (h:(execOp a.eval o).run P w=.ok (.value v) w') (hk:K (a.put o.dst v) w'):o.wp P a w K Q:=by
 unfold Oper.wp
 rw [h]
 exact hk
theorem wp_skip' {o:Oper} {w':World} {K:Act → World → Prop} {Q:Exit → Act → World → Prop} (h:(execOp a.eval o).run P w=.ok .skip w') (hk:K (a.put o.dst undef) w'):o.wp P a w K Q:=by
 unfold Oper.wp
 rw [h]
 exact hk
theorem pure_wp {o:Oper} {K:ASt → Prop} {Q:Exit → Act → World → Prop} (h:Conc cx a w st L) (hp:aPure P st.tab (aEv st) o.op (aK st o.dst K)):o.wp P a w (After cx K) Q:=by
 obtain ⟨v,av,h1,h2,h3,h4,_⟩:=pure_ok h.lay (fun id o hid=>(h.young id o hid).2) (eval_ok h) hp
 exact wp_value (h4 w (Below.refl _ _)) ⟨_,L,h1,conc_pure h h2 h3 o.dst⟩
theorem aFn_inv {f:AV} {K:FuncId → List AV → Prop} {v:Value} (hv:RVx cx w tab L v f) (hl:f.lt nx) (h:aFn f K):∃ g xs cs,v=.func (.func g) #[] xs ∧ xs.size=cs.length ∧ (∀ (j:Nat) (x:Value) (av:AV),xs[j]? = some x → cs[j]? = some av → RVx cx w tab L x av) ∧ K g cs ∧ ∀ av ∈ cs,av.lt nx:=by
 unfold aFn at h
 split at h
 ·rename_i g first caps
  obtain ⟨⟨rfl,rfl⟩,h⟩:=h
  exact ⟨g,#[],[],hv.c_inv,rfl,fun j x av h1 _=>by simp at h1,h,by simp⟩
 ·rename_i g cs
  obtain ⟨xs,h1,h2,h3⟩:=hv.fn_inv
  exact ⟨g,xs,cs,h1,h2,h3,h,ltL_iff.1 hl⟩
 ·exact h.elim
theorem argsB_rv (h:Conc cx a w st L) {args:Array Operand} {xs:Array Value} {cs:List AV} (hn:xs.size=cs.length) (hx:∀ (j:Nat) (x:Value) (av:AV),xs[j]? = some x → cs[j]? = some av → RVx cx w st.tab L x av) :
  (xs ++ args.map a.eval).size=(cs ++ args.toList.map (aEv st)).length ∧ ∀ (j:Nat) (v:Value) (av:AV),(xs ++ args.map a.eval)[j]? = some v → (cs ++ args.toList.map (aEv st))[j]? = some av → RVx cx w st.tab L v av:=by
 refine ⟨by simp [hn],fun j v av h1 h2=>?_⟩
 by_cases hj:j<xs.size
 ·rw [Array.getElem?_append_left hj] at h1
  rw [List.getElem?_append_left (by omega)] at h2
  exact hx j v av h1 h2
 ·rw [Array.getElem?_append_right (by omega)] at h1
  rw [List.getElem?_append_right (by omega),← hn] at h2
  rw [Array.getElem?_map] at h1
  rw [List.getElem?_map,Array.getElem?_toList] at h2
  cases hk:args[j - xs.size]? with
  | none=>simp [hk] at h1
  | some x=>
   simp [hk] at h1 h2
   subst h1
   subst h2
   exact (eval_ok h x).1
theorem args_rv (h:Conc cx a w st L) {args:Array Operand} {xs:Array Value} {cs:List AV} (hn:xs.size=cs.length) (hx:∀ (j:Nat) (x:Value) (av:AV),xs[j]? = some x → cs[j]? = some av → RVx cx w st.tab L x av) :
  (args.map a.eval ++ xs).size=(args.toList.map (aEv st) ++ cs).length ∧ ∀ (j:Nat) (v:Value) (av:AV),(args.map a.eval ++ xs)[j]? = some v → (args.toList.map (aEv st) ++ cs)[j]? = some av → RVx cx w st.tab L v av:=by
 refine ⟨by simp [hn],fun j v av h1 h2=>?_⟩
 by_cases hj:j<args.size
 ·rw [Array.getElem?_append_left (by simpa using hj),Array.getElem?_map,Array.getElem?_eq_getElem hj] at h1
  rw [List.getElem?_append_left (by simpa using hj),List.getElem?_map,Array.getElem?_toList,Array.getElem?_eq_getElem hj] at h2
  simp at h1 h2
  subst h1
  subst h2
  exact (eval_ok h _).1
 ·rw [Array.getElem?_append_right (by simpa using hj)] at h1
  rw [List.getElem?_append_right (by simpa using hj)] at h2
  simp at h1 h2
  exact hx _ v av h1 h2
theorem aFnB_inv (h:Conc cx a w st L) {f:Operand} {args:Array Operand} {dst:Option Nat} {K:ASt → Prop} (hp:aFnB (aEv st f) (aCallB P st args.toList dst K) (aCallF P st args.toList dst K)) :
  ∃ (g:FuncId) (zs:Array Value) (avs:List AV),(Enters P g → ∀ (o:Oper) (ts:Array TypeId),o.op=.call ⟨.value f,args,ts⟩ → (execOp a.eval o).run P w=.ok (.enter g zs) w) ∧ zs.size=avs.length ∧
   (∀ (j:Nat) (v:Value) (av:AV),zs[j]? = some v → avs[j]? = some av → RVx cx w st.tab L v av ∧ av.lt st.next) ∧ aCall none P st g avs (aK2 dst K):=by
 unfold aFnB at hp
 split at hp
 ·rename_i g bs hf
  have hv:=(eval_ok h f).1
  have hl:=(eval_ok h f).2
  rw [hf] at hv hl
  obtain ⟨xs,hg,hxn,hxr⟩:=hv.bfn_inv
  have hargs:=argsB_rv h (args:=args) hxn hxr
  refine ⟨g,xs ++ args.map a.eval,bs ++ args.toList.map (aEv st),fun hent o ts ho=>?_,hargs.1,fun j v av h1 h2=>⟨hargs.2 j v av h1 h2,?_⟩,hp⟩
  ·have:=hent (xs ++ args.map a.eval) w
   simp [execOp,ho,Sem.run_bind,resolve,hg,Deferred.ofValue,invoke,this]
  ·rcases List.mem_append.1 (List.mem_of_getElem? h2) with h3 | h3
   ·exact ltL_iff.1 hl av h3
   ·obtain ⟨x,_,rfl⟩:=List.mem_map.1 h3
    exact (eval_ok h x).2
 ·obtain ⟨g,xs,cs,hg,hxn,hxr,hp,hcs⟩:=aFn_inv (eval_ok h f).1 (eval_ok h f).2 hp
  have hargs:=args_rv h (args:=args) hxn hxr
  refine ⟨g,args.map a.eval ++ xs,args.toList.map (aEv st) ++ cs,fun hent o ts ho=>?_,hargs.1,fun j v av h1 h2=>⟨hargs.2 j v av h1 h2,?_⟩,hp⟩
  ·have:=hent (args.map a.eval ++ xs) w
   simp [execOp,ho,Sem.run_bind,resolve,hg,Deferred.ofValue,invoke,this]
  ·rcases List.mem_append.1 (List.mem_of_getElem? h2) with h3 | h3
   ·obtain ⟨x,_,rfl⟩:=List.mem_map.1 h3
    exact (eval_ok h x).2
   ·exact hcs av h3
theorem build_wp {t:TypeId} {parts:Array (Nat × Operand)} {dst:Option Nat} {K:ASt → Prop} (h:Conc cx a w st L) (hp:aBuild P t st parts.toList dst K):∃ v,∃ cs,RVx cx w st.tab L v (.agg cs) ∧ (AV.agg cs).lt st.next ∧ (∀ w',(Instr.build t (parts.map fun (p:Nat × Operand)=>(p.1,a.eval p.2))).run P w'=.ok v w') ∧ K (st.put dst (.agg cs)):=by
 unfold aBuild at hp
 split at hp
 ·rename_i places zs ht
  split at hp
  ·rename_i cs hf
   obtain ⟨h1,h2⟩:=hp
   obtain ⟨v,h3,h4,h5⟩:=build_ok h ht hf h1
   exact ⟨v,cs,h3,h4,by simpa using h5,h2⟩
  ·exact hp.elim
 ·exact hp.elim
theorem sliceW_wp {t:TypeId} {x:Operand} {lo hi mx:Option Operand} {K:ASt → Prop} {Q:Exit → Act → World → Prop} {ty:TypeId} {dst:Option Nat} {pos:String} {aft:Array Edge} {gd:Option (Nat × Bool)} (h:Conc cx a w st L)
  (hp:aSliceW P t st (aEv st x) (lo.map (aEv st)) (hi.map (aEv st)) (mx.map (aEv st)) dst K):Oper.wp (P:=P) ⟨dst,.slice t x lo hi mx,ty,pos,aft,gd⟩ a w (After cx K) Q:=by
 unfold aSliceW at hp
 split at hp
 ·rename_i id hx
  have hv:=(eval_ok h x).1
  rw [hx] at hv
  split at hp
  ·rename_i e sz rows hid
   unfold aSliceO at hp
   split at hp
   ·rename_i l h' hl hh
    obtain ⟨⟨h1,h2⟩,⟨rfl,h4,h5,h6⟩,h7⟩:=hp
    obtain ⟨hu,hsz⟩:=tyElem_pos (P:=P) (t:=t) (by omega)
    have hvL:=hv.osl_inv _ _ (kx_of hid)
    obtain ⟨hrow,xs,hown,hone,hx'⟩:=h.lay.objs id _ hid
    have hs:=run_sizeOf' (P:=P) (t:=(tyElem P t).1) (by omega) w
    rw [hsz,h1] at hs
    have key:∀ A cap,L id=.slice A rows.length cap → rows.length≤cap → ∃ m,h'.toNat≤m ∧ m≤cap ∧ (Instr.sliceBounds true rows.length cap (lo.map a.eval) (hi.map a.eval) (mx.map a.eval)).run P w=.ok (0,h'.toNat,m) w:=by
     intro A cap hL hc
     have hlo:=bd_at (d:=0) (n:=0) (fun x=>(eval_ok h x).1) hl (by omega) rfl
     have hhi:=bd_at (d:=rows.length) (n:=h'.toNat) (fun x=>(eval_ok h x).1) hh (by omega) rfl
     cases mx with
     | none=>exact ⟨cap,by omega,Nat.le_refl _,run_bounds hlo hhi (.inl ⟨rfl,rfl⟩) (by omega) (by omega)⟩
     | some q=>
      have hq:=(eval_ok h q).1
      simp only [Option.map_some] at h6 ⊢
      unfold aMax at h6
      split at h6
      ·rename_i hq'
       cases hq'
      ·rename_i k m hq'
       injection hq' with hq'
       rw [hq'] at hq
       obtain ⟨rfl,hb⟩:=h6
       refine ⟨m.toNat,Nat.le_refl _,by omega,run_bounds hlo hhi (.inr ⟨rfl,⟨k,by rw [hq.c_inv,Int.toNat_of_nonneg h4]⟩,fun hn=>?_⟩) (by omega) (by omega)⟩
       cases hi with
       | none=>simp at hb
       | some _=>cases hn
      ·exact h6.elim
    rcases hown.2 with ⟨hL,h0⟩|⟨g,cap,cur,hL,hb,hh',hc,hm,hcs,htake⟩
    ·obtain ⟨m,hm1,hm2,hr⟩:=key none 0 (by rw [hL,h0]) (by omega)
     have hm0:m=0:=by omega
     have hn0:h'.toNat=0:=by omega
     refine wp_value (v:=.slice none 0 0) ?_ ⟨_,_,h7,reslice_ok (n:=h'.toNat) h hid (by omega) (.inl ⟨hL,rfl⟩) dst⟩
     rw [h0] at hr
     simp [execOp,Sem.run_bind,hvL,hL,Instr.sliceAt,Instr.slice,run_underlying hu,hr,hs,hm0,hn0]
    ·obtain ⟨m,hm1,hm2,hr⟩:=key _ cap hL hc
     refine wp_value (v:=.slice (some ⟨g,0,none⟩) h'.toNat m) ?_ ⟨_,_,h7,reslice_ok (n:=h'.toNat) h hid (by omega) (.inr ⟨g,cap,m,hL,rfl,hm1,hm2⟩) dst⟩
     simp [execOp,Sem.run_bind,hvL,hL,Instr.sliceAt,Instr.slice,run_underlying hu,hr,hs,Addr.add_lit]
   ·exact hp.elim
  ·exact hp.elim
 ·exact pure_wp (o:=⟨dst,.slice t x lo hi mx,ty,pos,aft,gd⟩) h (by exact hp)
theorem op_ok {o:Oper} {K:ASt → Prop} {Q:Exit → Act → World → Prop} (h:Conc cx a w st L) (hp:aOp P o K st):o.wp P a w (After cx K) Q:=by
 obtain ⟨dst,op,ty,pos,aft,gd⟩:=o
 unfold aOp at hp
 simp only at hp
 split at hp
 ·rename_i t x
  obtain ⟨h1,h2⟩:=hp
  have he:=eval_ok h x
  obtain ⟨h3,h4⟩:=box_ok (P:=P) (t:=t) h he.1 he.2 h1 dst
  exact wp_value (by simp [execOp,Sem.run_bind,h3]) ⟨_,_,h2,h4⟩
 ·rename_i t
  split at hp
  ·rename_i z hz
   obtain ⟨h1,h2⟩:=hp
   obtain ⟨h3,h4⟩:=box_ok (P:=P) (t:=t) (av:=.c z) h (.tree (.c z)) trivial h1 dst
   exact wp_value (by simp [execOp,Sem.run_bind,alloc_run hz,h3]) ⟨_,_,h2,h4⟩
  ·exact hp.elim
 ·rename_i t p x
  unfold aStore at hp
  split at hp
  ·rename_i id i j hpe
   split at hp
   ·rename_i ty cells hid
    obtain ⟨rfl,h0,h1,h2,h3,h4⟩:=hp
    have hpv:=(eval_ok h p).1
    rw [hpe] at hpv
    have hx:=eval_ok h x
    obtain ⟨w',h5,h6,_⟩:=store_box_ok h hpv hid hx.1 hx.2 h0 h1 h2 h3 dst
    exact wp_skip' (by simp [execOp,Sem.run_bind,h5]) ⟨_,_,h4,h6⟩
   ·rename_i e sz rows hid
    obtain ⟨hi,h0,h1,h2,h3,h3',h4⟩:=hp
    have hpv:=(eval_ok h p).1
    rw [hpe] at hpv
    have hx:=eval_ok h x
    obtain ⟨w',h5,h6,_⟩:=store_row_ok h hpv hid hx.1 hx.2 hi h0 h1 h2 h3 h3' dst
    exact wp_skip' (by simp [execOp,Sem.run_bind,h5]) ⟨_,_,h4,h6⟩
   ·rename_i e sz rows hid
    obtain ⟨hi,h0,h1,h2,h3,h4⟩:=hp
    have hpv:=(eval_ok h p).1
    rw [hpe] at hpv
    have hx:=eval_ok h x
    obtain ⟨w',h5,h6,_⟩:=store_nest_ok h hpv hid hx.1 hx.2 hi h0 h1 h2 h3 dst
    exact wp_skip' (by simp [execOp,Sem.run_bind,h5]) ⟨_,_,h4,h6⟩
   ·exact hp.elim
  ·exact hp.elim
 ·rename_i t n parts
  unfold aBuildSlice at hp
  replace h:=conc_frzs (ownIds (parts.toList.flatMap fun (p:Nat × Operand)=>aCells (aEv st p.2))) h
  unfold aBuildSlice1 at hp
  split at hp
  ·rename_i e sz by_ ht
   split at hp
   ·obtain ⟨⟨h1,rfl,h3,h5⟩,h6⟩:=hp
    obtain ⟨v',w',L',h7,h8,_⟩:=buildSlice_ok h ht h1 h3 h5 dst
    refine wp_value ?_ ⟨_,_,h6,h8⟩
    simp only [Array.toArray_toList] at h7
    simp [execOp,Sem.run_bind]
    simp at h7
    simp [h7]
   ·obtain ⟨⟨h1,rfl,h3,h5⟩,h6⟩:=hp
    obtain ⟨v',w',L',h7,h8,_⟩:=buildN_ok h ht h1 h3 h5 dst
    refine wp_value ?_ ⟨_,_,h6,h8⟩
    simp only [Array.toArray_toList] at h7
    simp [execOp,Sem.run_bind]
    simp at h7
    simp [h7]
  ·exact hp.elim
 ·rename_i t l c
  unfold aMake at hp
  split at hp
  ·rename_i e sz by_ k1 n k2 m ht hl hc
   split at hp
   ·rename_i z hz
    obtain ⟨⟨rfl,h1,h2,h3,h4⟩,h5⟩:=hp
    have hl':=(eval_ok h l).1
    have hc':=(eval_ok h c).1
    rw [hl] at hl'
    rw [hc] at hc'
    obtain ⟨v',w',L',h6,h7,_⟩:=make_ok (k1:=k1) (k2:=k2) h ht hz h1 h2 h3 h4 dst
    exact wp_value (by simp [execOp,Sem.run_bind,hl'.c_inv,hc'.c_inv,h6]) ⟨_,_,h5,h7⟩
   ·exact hp.elim
  ·exact hp.elim
 ·rename_i t parts
  obtain ⟨v,cs,h1,h2,h3,h4⟩:=build_wp h hp
  refine wp_value ?_ ⟨_,_,h4,conc_pure h h1 h2 dst⟩
  simp [execOp,Sem.run_bind,h3 w]
 ·rename_i t x lo hi mx
  exact sliceW_wp h hp
 ·rename_i t r
  obtain ⟨hr,hp⟩:=hp
  cases r with
  | some r=>cases hr
  | none=>
   obtain ⟨h1,h2⟩:=makeMap_ok (P:=P) (t:=t) h dst
   exact wp_value (by simp [execOp,Sem.run_bind,h1]) ⟨_,_,hp,h2⟩
 ·rename_i t m k ok
  obtain ⟨r,av,h1,h2,h3,h4⟩:=lookup_ok (nx:=st.next) h.lay (eval_ok h m).1 (eval_ok h k).1 hp
  exact wp_value (by simp [execOp,Sem.run_bind,h4]) ⟨_,_,h1,conc_pure h h2 h3 dst⟩
 ·rename_i t m k v
  obtain ⟨w',st',h1,h2,h3,_⟩:=mapUpd_ok h (eval_ok h m).1 (eval_ok h k).1 (eval_ok h v).1 dst hp
  exact wp_skip' (by simp [execOp,Sem.run_bind,h1]) ⟨_,_,h2,h3⟩
 ·rename_i c
  obtain ⟨callee,args,argTypes⟩:=c
  simp only at hp
  split at hp
  ·split at hp
   ·rename_i x y t t' h1 h2
    obtain rfl:args = #[x,y]:=by cases args;simp_all
    obtain rfl:argTypes = #[t,t']:=by cases argTypes;simp_all
    obtain ⟨rfl,hp⟩:=hp
    unfold aAppend at hp
    split at hp
    ·rename_i hnn
     obtain ⟨e1,e2⟩:=nilNil_iff hnn
     have hx1:=(eval_ok h x).1
     have hy1:=(eval_ok h y).1
     rw [e1] at hx1
     rw [e2] at hy1
     have hx2:=hx1.c_inv
     have hy2:=hy1.c_inv
     have hr:=append_nil_run (ty:=ty) (w:=w) hp.1
     exact wp_value (by simp [execOp,Sem.run_bind,resolve,invoke,builtin,hx2,hy2,hr]) ⟨_,_,hp.2,conc_pure h (.tree (.c _)) trivial dst⟩
    unfold aAppend0 at hp
    split at hp
    ·rename_i e sz by_ ht
     split at hp
     ·rename_i oid rows rows2 hx hy
      obtain ⟨⟨h3,h4⟩,h5⟩:=hp
      obtain ⟨v',w',L',h6,h7,_⟩:=append_ok (ty:=ty) h (eval_ok h x).1 (eval_ok h y).1 ht hx hy (by simpa [maxLen] using h3) h4 dst
      exact wp_value (by simp [execOp,Sem.run_bind,resolve,invoke,builtin,h6]) ⟨_,_,h5,h7⟩
     ·split at hp
      ·rename_i oid rows rows2 hx hy
       obtain ⟨⟨h3,h4⟩,h5⟩:=hp
       obtain ⟨v',w',L',h6,h7,_⟩:=appendN_ok (ty:=ty) h (eval_ok h x).1 (eval_ok h y).1 ht hx hy (by simpa [maxLen] using h3) h4 dst
       exact wp_value (by simp [execOp,Sem.run_bind,resolve,invoke,builtin,h6]) ⟨_,_,h5,h7⟩
      ·exact hp.elim
    ·exact hp.elim
   ·exact hp.elim
  ·unfold aClears at hp
   split at hp
   ·rename_i x t h1 h2
    obtain rfl:args = #[x]:=by cases args;simp_all
    obtain rfl:argTypes = #[t]:=by cases argTypes;simp_all
    obtain ⟨w',st',h3,h4,h5,_⟩:=clear_ok (ty:=ty) h (eval_ok h x).1 dst hp
    exact wp_value (by simp [execOp,Sem.run_bind,resolve,invoke,builtin,h3]) ⟨_,_,h4,h5⟩
   ·exact hp.elim
  ·rcases hp with hp | hp
   ·unfold aLenMs at hp
    split at hp
    ·rename_i x t h1 h2
     obtain rfl:args = #[x]:=by cases args;simp_all
     obtain rfl:argTypes = #[t]:=by cases argTypes;simp_all
     obtain ⟨r,av,h3,h4,h5,h6⟩:=lenM_ok (ty:=ty) (nx:=st.next) h.lay (eval_ok h x).1 hp
     exact wp_value (by simp [execOp,Sem.run_bind,resolve,invoke,builtin,h6]) ⟨_,_,h3,conc_pure h h4 h5 dst⟩
    ·exact hp.elim
   ·exact pure_wp h hp
  ·rename_i f
   obtain ⟨g,zs,avs,hrun0,hsz,hlt,hp⟩:=aFnB_inv h hp
   by_cases hmeth:aMeth none P st g avs (aK2 dst K)
   ·obtain ⟨hent,ids0,_,hc⟩:=meth_ok h hsz (fun j v av h1 h2=>(hlt j v av h1 h2).1) hmeth dst
    unfold Oper.wp
    rw [hrun0 hent _ argTypes rfl]
    show Calls P g zs w _
    refine hc.mono ?_
    rintro e w' ⟨v,av,st',L',rfl,h1,h2,h3,_⟩
    exact ⟨_,_,h1,h2⟩
   replace hp:aCall0 P st g avs (aK2 dst K) ∨ (none=(none:Option (Nat × List Nat)) ∧ (aUpdM P st g avs (aK2 dst K) ∨ aCallZ P st g avs (aK2 dst K))):=by
    rcases hp with hp|hp|hp
    ·exact .inl hp
    ·exact .inr hp
    ·exact absurd hp hmeth
   have hent:Enters P g:=by
    rcases hp with (⟨R,hd,_⟩|⟨hd,_⟩)|⟨_,(⟨_,_,_,_,_,_,_,_,hd,_⟩|⟨_,_,_,_,_,_,_,_,_,hd,_⟩|⟨hd,_⟩)|⟨_,(⟨R,hd,_⟩|⟨hd,_⟩)⟩⟩
    ·exact hd.1
    ·exact hd
    ·exact hd.1
    ·exact hd.1
    ·exact hd
    ·exact hd.1
    ·exact hd
   unfold Oper.wp
   rw [hrun0 hent _ argTypes rfl]
   show Calls P g zs w _
   have hargs:zs.size=avs.length ∧ ∀ (j:Nat) (v:Value) (av:AV),zs[j]? = some v → avs[j]? = some av → RVx cx w st.tab L v av:=⟨hsz,fun j v av h1 h2=>(hlt j v av h1 h2).1⟩
   rcases hp with hp|⟨_,hp|⟨ids,hp⟩⟩
   ·refine (call_ok h hargs.1 hargs.2 hp dst).mono ?_
    rintro e w' ⟨v,av,st',L',rfl,h1,h2,_⟩
    exact ⟨_,_,h1,h2⟩
   rotate_left
   ·obtain ⟨h3,h4⟩:=frzAVs_ok ids h hlt
    refine (call_ok (conc_frzs ids h) (by rw [h3];exact hargs.1) (fun j v av h5 h6=>(h4 j v av h5 h6).1) hp dst).mono ?_
    rintro e w' ⟨v,av,st',L',rfl,h1,h2,_⟩
    exact ⟨_,_,h1,h2⟩
   ·refine (updM_ok h hargs.1 hlt hp dst).mono ?_
    rintro e w' ⟨v,av,st',L',rfl,h1,h2,_⟩
    exact ⟨_,_,h1,h2⟩
  ·exact pure_wp h hp
 ·exact pure_wp h hp
theorem guard_ok {ops:Array Oper} {g:Option (Nat × Bool)} {yes no:ASt → Prop} (h:Conc cx a w st L) (hp:aGuard ops g yes no st) (o:Oper) (ho:o.guard=g) :
  (Region.wanted o (yielded ops a.tmps)=true ∧ ∃ st',yes st' ∧ Conc cx a w st' L ∧ st'.tab=st.tab ∧ st'.next=st.next) ∨ (Region.wanted o (yielded ops a.tmps)=false ∧ ∃ st',no st' ∧ Conc cx a w st' L ∧ st'.tab=st.tab ∧ st'.next=st.next):=by
 subst ho
 unfold aGuard at hp
 unfold Region.wanted
 split at hp
 ·rename_i hg
  rw [hg]
  exact .inl ⟨rfl,st,hp,h,rfl,rfl⟩
 ·rename_i j want hg
  rw [hg]
  simp only
  split at hp
  ·rename_i d hd
   split at hp
   ·rename_i v hv
    have hval:=(h.env d).1
    rw [hv] at hval
    have hval:=hval.c_inv
    have hy:yielded ops a.tmps j=yv v:=by
     unfold yielded
     rw [hd]
     simp only [Option.bind_some]
     rw [← hval]
     rw [Array.getD_eq_getD_getElem?]
     cases ht:a.tmps[d]? with
     | none=>rfl
     | some u=>cases u <;> rfl
    rw [hy]
    have same:∀ b,v=.bool b → Conc cx a w (st.put (some d) (.c (.bool b))) L ∧ (st.put (some d) (.c (.bool b))).tab=st.tab ∧ (st.put (some d) (.c (.bool b))).next=st.next:=fun b hb=>by
     subst hb
     have e1:(st.put (some d) (.c (.bool b))).tab=st.tab:=rfl
     have e2:(st.put (some d) (.c (.bool b))).next=st.next:=rfl
     have e3:(st.put (some d) (.c (.bool b))).n=st.n:=rfl
     refine ⟨⟨by rw [e1];exact h.lay,by rw [e3];exact h.size,by rw [e1];exact h.defers,by rw [e1,e2];exact h.young,fun t=>?_⟩,e1,e2⟩
     rw [e1,e2,get_put]
     simp only
     split
     ·rename_i ht
      rw [ht.2,hval]
      exact ⟨.tree (.c _),trivial⟩
     ·exact h.env t
    split at hp
    ·rename_i b hb
     have hvb:v=.bool b:=by
      cases v <;> simp [yv] at hb
      rw [hb]
     by_cases hw:b=want
     ·subst hw
      have hp:yes (st.put (some d) (.c (.bool b))):=by cases b <;> exact hp
      exact .inl ⟨by simp [hb],_,hp,same _ hvb⟩
     ·have hp:no (st.put (some d) (.c (.bool b))):=by cases b <;> cases want <;> first | exact hp | exact absurd rfl hw
      exact .inr ⟨by simp [hb,hw],_,hp,same _ hvb⟩
    ·rename_i hb
     exact .inr ⟨by simp [hb],st,hp,h,rfl,rfl⟩
   ·exact hp.elim
  ·exact hp.elim
theorem skip_conc (h:Conc cx a w st L) (dst:Option Nat):Conc cx (a.put dst undef) w (st.put dst (.c undef)) L:=conc_pure h (.tree (.c _)) trivial dst
theorem ops_ok {ops:Array Oper} {K:ASt → Prop} {Q:Exit → Act → World → Prop} (hQ:∀ a w st L,K st → Conc cx a w st L → Q .normal a w):∀ (l:List Oper) (a:Act) (w:World) (st:ASt) (L:Nat → Value),Conc cx a w st L → aOps P ops K l st → wpList P ops Q l a w
 | [],a,w,st,L,h,hp=>hQ a w st L hp h
 | o :: rest,a,w,st,L,h,hp=>by
  unfold aOps at hp
  refine wpList_step fun K' hK'=>?_
  rcases guard_ok h hp o rfl with ⟨hw,st',h1,h2,_⟩|⟨hw,st',h1,h2,_⟩
  ·rw [if_pos hw]
   exact Oper.wp_mono (fun a' w' ⟨st'',L',h3,h4⟩=>hK' a' w' (ops_ok hQ rest a' w' st'' L' h4 h3)) (op_ok h2 h1)
  ·rw [if_neg (by simp [hw])]
   exact hK' _ _ (ops_ok hQ rest _ w _ L (skip_conc h2 o.dst) h1)
theorem conc_below (h:Conc cx a w st L) (hb:Below w.heap.size w w'):Conc cx a w' st L:=by
 have hext:Ext cx w st.tab L st.next w' st.tab L:=ext_merge hb (fun id _=>⟨rfl,rfl⟩) (fun id o hid=>(h.young id o hid).1) (fun id o g h1 h2 _=>by have:=(h.young id o h2).1;omega)
 refine ⟨lay_merge h.lay h.young hb (fun id _=>⟨rfl,rfl⟩) (fun id o h1 h2=>?_) (fun id o g h1 h2 _=>?_) (fun id id' o o' g h1 _ h2 _ _ _=>?_),h.size,h.defers.mono hext.blk hext.sub,h.young,fun t=>⟨hext.rv (h.env t).1 (h.env t).2,(h.env t).2⟩⟩
 ·have:=(h.young id o h2).1
  omega
 ·have:=(h.young id o h2).1
  omega
 ·have:=(h.young id o h2).1
  omega
structure ActSame (T:Nat → Prop) (a a':Act):Prop where
 defers:a'.defers=a.defers
 slots:∀ t,T t → a'.tmps.getD t undef=a.tmps.getD t undef
theorem ActSame.refl {T:Nat → Prop} (a:Act):ActSame T a a:=⟨rfl,fun _ _=>rfl⟩
theorem ActSame.trans {T:Nat → Prop} {a b c:Act} (h:ActSame T a b) (k:ActSame T b c):ActSame T a c:=⟨k.defers.trans h.defers,fun t ht=>(k.slots t ht).trans (h.slots t ht)⟩
theorem put_defersH (a:Act) (d:Option Nat) (v:Value):(a.put d v).defers=a.defers:=by cases d <;> rfl
theorem put_tabH (st:ASt) (d:Option Nat) (av:AV):(st.put d av).tab=st.tab:=by cases d <;> rfl
theorem put_slot {a:Act} {dst:Option Nat} {v:Value} {t:Nat} (h:dst ≠ some t):(a.put dst v).tmps.getD t undef=a.tmps.getD t undef:=by
 cases dst with
 | none=>rfl
 | some d=>
  have hd:d ≠ t:=fun e=>h (by rw [e])
  simp [Act.put,Array.getD_eq_getD_getElem?,Array.getElem?_setIfInBounds,hd]
theorem ActSame.put {T:Nat → Prop} {a b:Act} {dst:Option Nat} {v:Value} (h:ActSame T a b) (hd:∀ t,T t → dst ≠ some t):ActSame T a (b.put dst v):=⟨(put_defersH _ _ _).trans h.defers,fun t ht=>(put_slot (hd t ht)).trans (h.slots t ht)⟩
theorem wp_slots {o:Oper} {K:Act → World → Prop} {Q:Exit → Act → World → Prop} {T:Nat → Prop} (hd:∀ t,T t → o.dst ≠ some t) (h:o.wp P a w K Q):o.wp P a w (fun a' w'=>K a' w' ∧ ∀ t,T t → a'.tmps.getD t undef=a.tmps.getD t undef) Q:=by
 unfold Oper.wp Oper.upon at *
 generalize (execOp a.eval o).run P w=r at h
 cases r with
 | ok x w1=>
  cases x with
  | value v=>exact ⟨h,fun t ht=>put_slot (hd t ht)⟩
  | skip=>exact ⟨h,fun t ht=>put_slot (hd t ht)⟩
  | defer d=>exact ⟨h,fun t ht=>put_slot (a:={ a with defers:=d :: a.defers }) (hd t ht)⟩
  | enter f args=>
   refine Calls.mono h fun e w2 h2=>?_
   cases e with
   | returned v=>exact ⟨h2,fun t ht=>put_slot (hd t ht)⟩
   | panicked chain=>exact h2
   | outgrown=>exact h2
  | row row args=>exact Rows.mono h fun v w2 h2=>⟨h2,fun t ht=>put_slot (hd t ht)⟩
  | _=>exact h.elim
 | halt x w1=>
  cases x <;> first | exact h | exact h.elim
theorem dops_ok {ops:Array Oper} {K:ASt → Prop} {Q:Act → Prop} {T:Nat → Prop} {a0:Act} {tab0:ATab} (hQ:∀ a st,K st → Conc cx a w st L → st.tab=tab0 → ActSame T a0 a → Q a):∀ (l:List Oper) (a:Act) (st:ASt),(∀ o ∈ l,∀ t,T t → o.dst ≠ some t) → st.tab=tab0 → ActSame T a0 a → Conc cx a w st L → aDops P ops K l st → wpQuiet P ops (fun w'=>Below w.heap.size w w') Q l a
 | [],a,st,_,hT,hA,h,hp=>hQ a st hp h hT hA
 | o :: rest,a,st,hd0,hT,hA,h,hp=>by
  have hdo:=hd0 o (List.mem_cons_self ..)
  have hdr:=fun o' (ho:o' ∈ rest)=>hd0 o' (List.mem_cons_of_mem _ ho)
  unfold aDops at hp
  refine wpQuiet_step fun K' hK'=>?_
  rcases guard_ok h hp o rfl with ⟨hw,st',h1,h2,ht',_⟩|⟨hw,st',h1,h2,ht',_⟩
  ·rw [if_pos hw]
   have pureCase:∀ op,o.op=op → aPure P st'.tab (aEv st') op (aK st' o.dst (aDops P ops K rest)) → o.quiet P a (fun w'=>Below w.heap.size w w') K':=fun op hop hp'=>by
    subst hop
    obtain ⟨v,av,h3,h4,h5,h6,_⟩:=pure_ok h2.lay (fun id o hid=>(h2.young id o hid).2) (eval_ok h2) hp'
    refine ⟨v,fun w' hw'=>?_,hK' _ (dops_ok hQ rest _ _ hdr (by rw [put_tabH,ht',hT]) (hA.put hdo) (conc_pure h2 h4 h5 o.dst) h3)⟩
    unfold Oper.quietAt
    rw [h6 w' hw']
    exact ⟨rfl,rfl⟩
   unfold aDop at h1
   split at h1
   ·rename_i c hc
    split at h1
    ·rename_i f hf
     obtain ⟨g,xs,cs,hg,hxn,hxr,⟨v,hd,h3⟩,_⟩:=aFn_inv (eval_ok h2 f).1 (eval_ok h2 f).2 h1
     refine ⟨v,fun w' hw'=>?_,hK' _ (dops_ok hQ rest _ _ hdr (by rw [put_tabH,ht',hT]) (hA.put hdo) (conc_pure h2 (.tree (.c v)) trivial o.dst) h3)⟩
     have hrun:(execOp a.eval o).run P w'=.ok (.enter g (c.args.map a.eval ++ xs)) w':=by
      have:=hd.1 (c.args.map a.eval ++ xs) w'
      simp [execOp,hc,Sem.run_bind,resolve,hf,hg,Deferred.ofValue,invoke,this]
     have hargs:=args_rv h2 (args:=c.args) hxn hxr
     unfold Oper.quietAt
     rw [hrun]
     refine ⟨rfl,(hd.2 (fun b=>b<w'.heap.size) w' (c.args.map a.eval ++ xs) (h2.lay.amb.below hw').all (by simpa using hargs.1) (fun j x av h4 h5=>?_)).mono ?_⟩
     ·rw [List.getElem?_map] at h5
      cases hj:(c.args.toList.map (aEv st') ++ cs)[j]? with
      | none=>simp [hj] at h5
      | some y=>
       simp [hj] at h5
       subst h5
       exact (dref_ok h2.lay (hargs.2 j x y h4 hj)).mono (fun p hp=>hw'.cell hp) (fun b hb=>Nat.lt_of_lt_of_le hb hw'.size)
     ·rintro e w'' ⟨v',L2,R,rfl,_,rfl,hl,hr⟩
      obtain rfl:=hr.c_inv
      exact ⟨rfl,hw'.trans ((hl.below.below fun b hb=>hb).mono hw'.size)⟩
    ·exact pureCase _ hc h1
   ·rename_i t parts hb
    obtain ⟨v,cs,h3,h4,h5,h6⟩:=build_wp h2 h1
    refine ⟨v,fun w' hw'=>?_,hK' _ (dops_ok hQ rest _ _ hdr (by rw [put_tabH,ht',hT]) (hA.put hdo) (conc_pure h2 h3 h4 o.dst) h6)⟩
    have hrun:(execOp a.eval o).run P w'=.ok (.value v) w':=by simp [execOp,hb,Sem.run_bind,h5 w']
    unfold Oper.quietAt
    rw [hrun]
    exact ⟨rfl,rfl⟩
   ·exact pureCase _ rfl h1
  ·rw [if_neg (by simp [hw])]
   exact hK' _ (dops_ok hQ rest _ _ hdr (by rw [put_tabH,ht',hT]) (hA.put hdo) (skip_conc h2 o.dst) h1)
theorem pops_ok {ops:Array Oper} {K:ASt → Prop} {Q:Act → Prop} {T:Nat → Prop} {a0:Act} {tab0:ATab} (hQ:∀ a st,K st → Conc cx a w st L → st.tab=tab0 → ActSame T a0 a → Q a):∀ (l:List Oper) (a:Act) (st:ASt),(∀ o ∈ l,∀ t,T t → o.dst ≠ some t) → st.tab=tab0 → ActSame T a0 a → Conc cx a w st L → aPops P ops K l st → wpStill P ops w Q l a
 | [],a,st,_,hT,hA,h,hp=>hQ a st hp h hT hA
 | o :: rest,a,st,hd0,hT,hA,h,hp=>by
  have hdo:=hd0 o (List.mem_cons_self ..)
  have hdr:=fun o' (ho:o' ∈ rest)=>hd0 o' (List.mem_cons_of_mem _ ho)
  unfold aPops at hp
  refine wpStill_step fun K' hK'=>?_
  rcases guard_ok h hp o rfl with ⟨hw,st',h1,h2,ht',_⟩|⟨hw,st',h1,h2,ht',_⟩
  ·rw [if_pos hw]
   unfold aPops.aPop at h1
   obtain ⟨v,av,h3,h4,h5,h6,_⟩:=pure_ok h2.lay (fun id o hid=>(h2.young id o hid).2) (eval_ok h2) h1
   unfold Oper.still
   rw [h6 w (Below.refl _ _),Oper.stillUpon_value]
   exact hK' _ (pops_ok hQ rest _ _ hdr (by rw [put_tabH,ht',hT]) (hA.put hdo) (conc_pure h2 h4 h5 o.dst) h3)
  ·rw [if_neg (by simp [hw])]
   exact hK' _ (pops_ok hQ rest _ _ hdr (by rw [put_tabH,ht',hT]) (hA.put hdo) (skip_conc h2 o.dst) h1)
def Young (nx0:Nat) (B:Nat) (G:Nat → Prop) (tab:ATab) (L:Nat → Value):Prop:=∀ id o g,nx0≤id → tab.get id=some o → vblk (L id)=some g → B≤g ∨ G g
structure KeepX (B:Nat) (G:Nat → Prop) (wr w:World):Prop where
 size:B≤w.heap.size
 block:∀ k,k<B → ¬ G k → w.heap[k]? = wr.heap[k]?
theorem KeepX.step {B:Nat} {G:Nat → Prop} {wr w w':World} (h:KeepX B G wr w) (hs:w.heap.size≤w'.heap.size) (hb:∀ k,k<B → ¬ G k → w'.heap[k]? = w.heap[k]?):KeepX B G wr w':=
 ⟨Nat.le_trans h.size hs,fun k hk hG=>(hb k hk hG).trans (h.block k hk hG)⟩
theorem frzs_next:∀ (ids:List Nat) (st:ASt),(frzs st ids).next=st.next
 | [],_=>rfl
 | id :: ids,st=>by
  show (frzs (frz1 st id) ids).next=_
  rw [frzs_next ids]
  unfold frz1
  split <;> rfl
theorem young_frzs {nx0 B:Nat} {G:Nat → Prop} {L:Nat → Value}:∀ (ids:List Nat) {st:ASt},Young nx0 B G st.tab L → Young nx0 B G (frzs st ids).tab L
 | [],_,h=>h
 | id :: ids,st,h=>young_frzs ids (st:=frz1 st id) fun k o g h1 h2 h3=>by
  unfold frz1 at h2
  split at h2
  ·rw [ATab.get_cons,frzTab_get] at h2
   split at h2
   ·cases h2
   ·cases hg:st.tab.get k with
    | none=>simp [hg] at h2
    | some o'=>exact h k o' g h1 hg h3
  ·exact h k o g h1 h2 h3
theorem any_frzs:∀ (ids:List Nat) {st:ASt} (k:Nat) (o:AObj),(frzs st ids).tab.get k=some o → ∃ o',st.tab.get k=some o'
 | [],_,_,o,h=>⟨o,h⟩
 | id :: ids,st,k,o,h=>by
  obtain ⟨o1,h⟩:=any_frzs ids (st:=frz1 st id) k o h
  unfold frz1 at h
  split at h
  ·rw [ATab.get_cons,frzTab_get] at h
   split at h
   ·cases h
   ·cases hg:st.tab.get k with
    | none=>simp [hg] at h
    | some o'=>exact ⟨o',rfl⟩
  ·exact ⟨o1,h⟩
theorem exec_ok {o:Oper} {K:ASt → Prop} {Q:Exit → Act → World → Prop} {B nx0:Nat} {ids:List Nat} {G:Nat → Prop} {wr:World} (h:Conc cx a w st L) (hS:KeepX B G wr w) (hy:Young nx0 B G st.tab L) (hG:∀ id ∈ ids,∀ g,vblk (L id)=some g → G g) (hnx:∀ id ∈ ids,id<st.next) (hp:aExec P nx0 ids o K st) :
  o.wp P a w (fun a' w'=>∃ st' L',K st' ∧ Conc cx a' w' st' L' ∧ a'.defers=a.defers ∧ KeepX B G wr w' ∧ Young nx0 B G st'.tab L' ∧ (∀ id,id<st.next → L' id=L id) ∧ st.next≤st'.next ∧ ∀ id o,id<st.next → st'.tab.get id=some o → ∃ o',st.tab.get id=some o') Q:=by
 have hB:=hS.size
 have etab:∀ (st:ASt) d av,(st.put d av).tab=st.tab:=fun st d av=>by cases d <;> rfl
 have enext:∀ (st:ASt) d av,(st.put d av).next=st.next:=fun st d av=>by cases d <;> rfl
 obtain ⟨dst,op,ty,pos,aft,gd⟩:=o
 unfold aExec at hp
 simp only at hp
 split at hp
 ·rename_i x
  have he:=eval_ok h x
  refine wp_value (by simp [execOp]) ⟨_,L,hp,conc_pure h he.1 he.2 dst,put_defersH _ _ _,hS,by rw [etab];exact hy,fun _ _=>rfl,by rw [enext];exact Nat.le_refl _,fun id o _ hg=>⟨o,by rw [etab] at hg;exact hg⟩⟩
 ·rename_i t x
  obtain ⟨v,av,h1,h2,h3,h4,_⟩:=pure_ok (o:=⟨dst,.load t x,ty,pos,aft,gd⟩) h.lay (fun id o hid=>(h.young id o hid).2) (eval_ok h) hp
  exact wp_value (h4 w (Below.refl _ _)) ⟨_,L,h1,conc_pure h h2 h3 dst,put_defersH _ _ _,hS,by rw [etab];exact hy,fun _ _=>rfl,by rw [enext];exact Nat.le_refl _,fun id o _ hg=>⟨o,by rw [etab] at hg;exact hg⟩⟩
 ·rename_i t m k ok
  obtain ⟨r,av,h1,h2,h3,h4⟩:=lookup_ok (nx:=st.next) h.lay (eval_ok h m).1 (eval_ok h k).1 hp
  exact wp_value (by simp [execOp,Sem.run_bind,h4]) ⟨_,L,h1,conc_pure h h2 h3 dst,put_defersH _ _ _,hS,by rw [etab];exact hy,fun _ _=>rfl,by rw [enext];exact Nat.le_refl _,fun id o _ hg=>⟨o,by rw [etab] at hg;exact hg⟩⟩
 ·rename_i t m k v
  split at hp
  ·rename_i id hme
   obtain ⟨hid,hp⟩:=hp
   have hmv:=(eval_ok h m).1
   rw [hme] at hmv
   obtain ⟨w',st',h1,h2,h3,h4,id',ents,ents',hidd,h5,rfl,h6⟩:=mapUpd_ok h hmv (eval_ok h k).1 (eval_ok h v).1 dst hp
   cases hidd
   have hmay:∀ k,k<B → ¬ G k → vblk (L id)=some k → False:=fun k hk hGk e=>by
    rcases hid with hid|hge
    ·exact hGk (hG id hid k e)
    ·rcases hy id _ k hge h5 e with h9 | h9
     ·omega
     ·exact hGk h9
   refine wp_skip' (by simp [execOp,Sem.run_bind,h1]) ⟨_,L,h2,h3,put_defersH _ _ _,hS.step (by omega) (fun k hk hGk=>h6 k fun e=>hmay k hk hGk e),?_,fun _ _=>rfl,by rw [enext];exact Nat.le_refl _,fun k o' _ hg=>by
    rw [etab,ATab.get_cons] at hg
    split at hg
    ·rename_i e
     exact ⟨_,by rw [e];exact h5⟩
    ·exact ⟨o',hg⟩⟩
   rw [etab]
   intro k ob g h9 h10 h11
   rw [ATab.get_cons] at h10
   split at h10
   ·rename_i e
    exact hy k (.map ents) g h9 (by rw [e];exact h5) h11
   ·exact hy k ob g h9 h10 h11
  ·exact hp.elim
 ·rename_i t p x
  split at hp
  ·rename_i id i j hpe
   obtain ⟨hid,hp⟩:=hp
   have hmay:∀ k,k<B → ¬ G k → vblk (L id)=some k → False:=fun k hk hGk e=>by
    rcases hid with hid|hge
    ·exact hGk (hG id hid k e)
    ·have hn:∃ o,st.tab.get id=some o:=by
      unfold aStoreB at hp
      split at hp <;> first | exact ⟨_,by assumption⟩ | exact hp.elim
     obtain ⟨o,ho⟩:=hn
     rcases hy id o k hge ho e with h9|h9
     ·omega
     ·exact hGk h9
   unfold aStoreB at hp
   split at hp
   ·rename_i ty cells hget
    obtain ⟨rfl,h0,h1,h2,h3,h4⟩:=hp
    have hpv:=(eval_ok h p).1
    rw [hpe] at hpv
    have hx:=eval_ok h x
    obtain ⟨w',h5,h6,h7,h8⟩:=store_box_ok h hpv hget hx.1 hx.2 h0 h1 h2 h3 dst
    refine wp_skip' (by simp [execOp,Sem.run_bind,h5]) ⟨_,L,h4,h6,put_defersH _ _ _,hS.step (by omega) (fun k hk hGk=>h8 k fun e=>hmay k hk hGk e),?_,fun _ _=>rfl,by rw [enext];exact Nat.le_refl _,fun k o' _ hg=>by
     rw [etab,ATab.get_cons] at hg
     split at hg
     ·rename_i e
      exact ⟨_,by rw [e];exact hget⟩
     ·exact ⟨o',hg⟩⟩
    rw [etab]
    intro k ob g h9 h10 h11
    rw [ATab.get_cons] at h10
    split at h10
    ·rename_i e
     exact hy k (.box ty cells) g h9 (by rw [e];exact hget) h11
    ·exact hy k ob g h9 h10 h11
   ·rename_i e sz rows hget
    obtain ⟨h0,h1,h2,h3,h3',h3'',h4⟩:=hp
    have hpv:=(eval_ok h p).1
    rw [hpe] at hpv
    have hx:=eval_ok h x
    obtain ⟨w',h5,h6,h7,h8⟩:=store_row_ok h hpv hget hx.1 hx.2 h0 h1 h2 h3 h3' h3'' dst
    refine wp_skip' (by simp [execOp,Sem.run_bind,h5]) ⟨_,L,h4,h6,put_defersH _ _ _,hS.step (by omega) (fun k hk hGk=>h8 k fun e=>hmay k hk hGk e),?_,fun _ _=>rfl,by rw [enext];exact Nat.le_refl _,fun k o' _ hg=>by
     rw [etab,ATab.get_cons] at hg
     split at hg
     ·rename_i e'
      exact ⟨_,by rw [e'];exact hget⟩
     ·exact ⟨o',hg⟩⟩
    rw [etab]
    intro k ob g h9 h10 h11
    rw [ATab.get_cons] at h10
    split at h10
    ·rename_i e'
     exact hy k (.row e sz rows) g h9 (by rw [e'];exact hget) h11
    ·exact hy k ob g h9 h10 h11
   ·rename_i e sz rows hget
    obtain ⟨h0,h1,h2,h3,h3',h4⟩:=hp
    have hpv:=(eval_ok h p).1
    rw [hpe] at hpv
    have hx:=eval_ok h x
    obtain ⟨w',h5,h6,h7,h8⟩:=store_nest_ok h hpv hget hx.1 hx.2 h0 h1 h2 h3 h3' dst
    refine wp_skip' (by simp [execOp,Sem.run_bind,h5]) ⟨_,L,h4,h6,put_defersH _ _ _,hS.step (by omega) (fun k hk hGk=>h8 k fun e=>hmay k hk hGk e),?_,fun _ _=>rfl,by rw [enext];exact Nat.le_refl _,fun k o' _ hg=>by
     rw [etab,ATab.get_cons] at hg
     split at hg
     ·rename_i e'
      exact ⟨_,by rw [e'];exact hget⟩
     ·exact ⟨o',hg⟩⟩
    rw [etab]
    intro k ob g h9 h10 h11
    rw [ATab.get_cons] at h10
    split at h10
    ·rename_i e'
     exact hy k (.nest e sz rows) g h9 (by rw [e'];exact hget) h11
    ·exact hy k ob g h9 h10 h11
   ·exact hp.elim
  ·exact hp.elim
 ·rename_i t
  split at hp
  ·rename_i z hz
   obtain ⟨h1,h2⟩:=hp
   obtain ⟨h3,h4⟩:=box_ok (P:=P) (t:=t) (av:=.c z) h (.tree (.c z)) trivial h1 dst
   have hbw:Below w.heap.size w (w.alloc (.cells z.cells t)):=(Below.refl _ _).alloc (Nat.le_refl _) _
   refine wp_value (by simp [execOp,Sem.run_bind,alloc_run hz,h3]) ⟨_,_,h2,h4,put_defersH _ _ _,hS.step hbw.size (fun k hk _=>hbw.block k (Nat.lt_of_lt_of_le hk hB)),?_,fun id hid=>?_,?_,fun k o' hk hg=>?_⟩
   ·rw [etab]
    intro id ob g h5 h6 h7
    rw [ATab.get_cons] at h6
    unfold updL at h7
    split at h6
    ·rename_i e
     rw [if_pos e] at h7
     simp [vblk] at h7
     left
     omega
    ·rename_i e
     rw [if_neg e] at h7
     exact hy id ob g h5 h6 h7
   ·unfold updL
    rw [if_neg (by omega)]
   ·rw [enext]
    exact Nat.le_succ _
   ·rw [etab,ATab.get_cons,if_neg (by omega)] at hg
    exact ⟨o',hg⟩
  ·exact hp.elim
 ·rename_i t x
  obtain ⟨h1,h2⟩:=hp
  have he:=eval_ok h x
  obtain ⟨h3,h4⟩:=box_ok (P:=P) (t:=t) h he.1 he.2 h1 dst
  have hbw:Below w.heap.size w (w.alloc (.cells (a.eval x).cells t)):=(Below.refl _ _).alloc (Nat.le_refl _) _
  refine wp_value (by simp [execOp,Sem.run_bind,h3]) ⟨_,_,h2,h4,put_defersH _ _ _,hS.step hbw.size (fun k hk _=>hbw.block k (Nat.lt_of_lt_of_le hk hB)),?_,fun id hid=>?_,?_,fun k o' hk hg=>?_⟩
  ·rw [etab]
   intro id ob g h5 h6 h7
   rw [ATab.get_cons] at h6
   unfold updL at h7
   split at h6
   ·rename_i e
    rw [if_pos e] at h7
    simp [vblk] at h7
    left
    omega
   ·rename_i e
    rw [if_neg e] at h7
    exact hy id ob g h5 h6 h7
  ·unfold updL
   rw [if_neg (by omega)]
  ·rw [enext]
   exact Nat.le_succ _
  ·rw [etab,ATab.get_cons,if_neg (by omega)] at hg
   exact ⟨o',hg⟩
 ·rename_i t n parts
  unfold aBuildSlice at hp
  have hy':Young nx0 B G (frzs st (ownIds (parts.toList.flatMap fun (p:Nat × Operand)=>aCells (aEv st p.2)))).tab L:=young_frzs _ hy
  replace h:=conc_frzs (ownIds (parts.toList.flatMap fun (p:Nat × Operand)=>aCells (aEv st p.2))) h
  clear hy
  have hy:=hy'
  have hnext:(frzs st (ownIds (parts.toList.flatMap fun (p:Nat × Operand)=>aCells (aEv st p.2)))).next=st.next:=frzs_next _ _
  unfold aBuildSlice1 at hp
  split at hp
  ·rename_i e sz by_ ht
   split at hp
   ·obtain ⟨⟨h1,rfl,h3,h5⟩,h6⟩:=hp
    obtain ⟨v',w',L',h7,h8,hb,rfl,hv⟩:=buildSlice_ok h ht h1 h3 h5 dst
    refine wp_value ?_ ⟨_,_,h6,h8,put_defersH _ _ _,hS.step hb.size (fun k hk _=>hb.block k (Nat.lt_of_lt_of_le hk hB)),?_,fun id hid=>?_,?_,fun k o' hk hg=>?_⟩
    ·simp only [Array.toArray_toList] at h7
     simp [execOp,Sem.run_bind]
     simp at h7
     simp [h7]
    ·rw [etab]
     intro id ob g h1 h2 h3
     rw [ATab.get_cons] at h2
     unfold updL at h3
     split at h2
     ·rename_i e
      rw [if_pos e,hv] at h3
      cases h3
      exact .inl hB
     ·rename_i e
      rw [if_neg e] at h3
      exact hy id ob g h1 h2 h3
    ·unfold updL
     rw [if_neg (by omega)]
    ·rw [enext]
     show st.next≤(frzs st _).next+1
     omega
    ·rw [etab] at hg
     simp only [ATab.get_cons] at hg
     rw [if_neg (by omega)] at hg
     exact any_frzs _ k o' hg
   ·obtain ⟨⟨h1,rfl,h3,h5⟩,h6⟩:=hp
    obtain ⟨v',w',L',h7,h8,hb,rfl,hv⟩:=buildN_ok h ht h1 h3 h5 dst
    refine wp_value ?_ ⟨_,_,h6,h8,put_defersH _ _ _,hS.step hb.size (fun k hk _=>hb.block k (Nat.lt_of_lt_of_le hk hB)),?_,fun id hid=>?_,?_,fun k o' hk hg=>?_⟩
    ·simp only [Array.toArray_toList] at h7
     simp [execOp,Sem.run_bind]
     simp at h7
     simp [h7]
    ·rw [etab]
     intro id ob g h1 h2 h3
     rw [ATab.get_cons] at h2
     unfold updL at h3
     split at h2
     ·rename_i e
      rw [if_pos e,hv] at h3
      cases h3
      exact .inl hB
     ·rename_i e
      rw [if_neg e] at h3
      exact hy id ob g h1 h2 h3
    ·unfold updL
     rw [if_neg (by omega)]
    ·rw [enext]
     show st.next≤(frzs st _).next+1
     omega
    ·rw [etab] at hg
     simp only [ATab.get_cons] at hg
     rw [if_neg (by omega)] at hg
     exact any_frzs _ k o' hg
  ·exact hp.elim
 ·rename_i t l c
  unfold aMake at hp
  split at hp
  ·rename_i e sz by_ k1 n k2 m ht hl hc
   split at hp
   ·rename_i z hz
    obtain ⟨⟨rfl,h1,h2,h3,h4⟩,h5⟩:=hp
    have hl':=(eval_ok h l).1
    have hc':=(eval_ok h c).1
    rw [hl] at hl'
    rw [hc] at hc'
    obtain ⟨v',w',L',h6,h7,hb,rfl,hv⟩:=make_ok (k1:=k1) (k2:=k2) h ht hz h1 h2 h3 h4 dst
    refine wp_value (by simp [execOp,Sem.run_bind,hl'.c_inv,hc'.c_inv,h6]) ⟨_,_,h5,h7,put_defersH _ _ _,hS.step hb.size (fun k hk _=>hb.block k (Nat.lt_of_lt_of_le hk hB)),?_,fun id hid=>?_,?_,fun k o' hk hg=>?_⟩
    ·rw [etab]
     intro id ob g h1 h2 h3
     rw [ATab.get_cons] at h2
     unfold updL at h3
     split at h2
     ·rename_i e
      rw [if_pos e,hv] at h3
      cases h3
      exact .inl hB
     ·rename_i e
      rw [if_neg e] at h3
      exact hy id ob g h1 h2 h3
    ·unfold updL
     rw [if_neg (by omega)]
    ·rw [enext]
     exact Nat.le_succ _
    ·rw [etab,ATab.get_cons,if_neg (by omega)] at hg
     exact ⟨o',hg⟩
   ·exact hp.elim
  ·exact hp.elim
 ·rename_i c
  obtain ⟨callee,args,argTypes⟩:=c
  simp only at hp
  split at hp
  ·split at hp
   ·rename_i x y t t' h1 h2
    obtain rfl:args = #[x,y]:=by cases args;simp_all
    obtain rfl:argTypes = #[t,t']:=by cases argTypes;simp_all
    obtain ⟨⟨rfl,hfr⟩,hp⟩:=hp
    unfold aAppend at hp
    split at hp
    ·rename_i hnn
     obtain ⟨e1,e2⟩:=nilNil_iff hnn
     have hx1:=(eval_ok h x).1
     have hy1:=(eval_ok h y).1
     rw [e1] at hx1
     rw [e2] at hy1
     have hx2:=hx1.c_inv
     have hy2:=hy1.c_inv
     have hr:=append_nil_run (ty:=ty) (w:=w) hp.1
     exact wp_value (by simp [execOp,Sem.run_bind,resolve,invoke,builtin,hx2,hy2,hr]) ⟨_,L,hp.2,conc_pure h (.tree (.c _)) trivial dst,put_defersH _ _ _,hS,by rw [etab];exact hy,fun _ _=>rfl,by rw [enext];exact Nat.le_refl _,fun id o _ hg=>⟨o,by rw [etab] at hg;exact hg⟩⟩
    unfold aAppend0 at hp
    split at hp
    ·rename_i e sz by_ ht
     split at hp
     ·rename_i oid rows rows2 hx hy2
      obtain ⟨⟨h3,h4⟩,h5⟩:=hp
      obtain ⟨v',w',L',h6,h7,hg,rfl,hv,hown⟩:=append_ok (ty:=ty) h (eval_ok h x).1 (eval_ok h y).1 ht hx hy2 (by simpa [maxLen] using h3) h4 dst
      have hoid:∀ id,oid=some id → aMay nx0 ids id ∧ ∃ o,st.tab.get id=some o:=fun id hid=>by
       subst hid
       unfold aDst at hx
       split at hx
       ·rename_i id' hid'
        rw [hid'] at hfr
        split at hx
        ·rename_i e' sz' rows' hget
         split at hx
         ·cases hx
          exact ⟨hfr,_,hget⟩
         ·cases hx
        ·cases hx
       ·cases hx
       ·cases hx
      have hown2:∀ g,(a.eval x).ownBlock=some g → B≤g ∨ G g:=fun g hg'=>by
       obtain ⟨id,hid,hbl⟩:=hown g hg'
       obtain ⟨h8,o,h9⟩:=hoid id hid
       rcases h8 with h8|h8
       ·exact .inr (hG id h8 g hbl)
       ·exact hy id o g h8 h9 hbl
      refine wp_value (by simp [execOp,Sem.run_bind,resolve,invoke,builtin,h6]) ⟨_,_,h5,h7,put_defersH _ _ _,hS.step hg.size (fun k hk hnk=>hg.block k (Nat.lt_of_lt_of_le hk hB) fun e=>by rcases hown2 k e.symm with h9 | h9;omega;exact hnk h9),?_,fun id hid=>by unfold updL;rw [if_neg (by omega)],by rw [enext];exact Nat.le_succ _,fun k o' hk hg=>by
       rw [etab] at hg
       simp only [appTab_get] at hg
       rw [if_neg (by omega)] at hg
       split at hg
       ·cases hg
       ·exact ⟨o',hg⟩⟩
      rw [etab]
      intro id ob g h8 h9 h10
      rw [appTab_get] at h9
      unfold updL at h10
      split at h9
      ·rename_i e1
       rw [if_pos e1] at h10
       rcases hv with hv|hv
       ·exact hown2 g (by rw [← hv];exact h10)
       ·rw [hv] at h10
        cases h10
        exact .inl hB
      ·rename_i e1
       rw [if_neg e1] at h10
       split at h9
       ·cases h9
       ·exact hy id ob g h8 h9 h10
     ·split at hp
      ·rename_i oid rows rows2 hx hy2
       obtain ⟨⟨h3,h4⟩,h5⟩:=hp
       obtain ⟨v',w',L',h6,h7,hg,rfl,hv,hown⟩:=appendN_ok (ty:=ty) h (eval_ok h x).1 (eval_ok h y).1 ht hx hy2 (by simpa [maxLen] using h3) h4 dst
       have hoid:∀ id,oid=some id → aMay nx0 ids id ∧ ∃ o,st.tab.get id=some o:=fun id hid=>by
        subst hid
        unfold aDstN at hx
        split at hx
        ·rename_i id' hid'
         rw [hid'] at hfr
         split at hx
         ·rename_i e' sz' rows' hget
          split at hx
          ·cases hx
           exact ⟨hfr,_,hget⟩
          ·cases hx
         ·cases hx
        ·cases hx
        ·cases hx
       have hown2:∀ g,(a.eval x).ownBlock=some g → B≤g ∨ G g:=fun g hg'=>by
        obtain ⟨id,hid,hbl⟩:=hown g hg'
        obtain ⟨h8,o,h9⟩:=hoid id hid
        rcases h8 with h8|h8
        ·exact .inr (hG id h8 g hbl)
        ·exact hy id o g h8 h9 hbl
       refine wp_value (by simp [execOp,Sem.run_bind,resolve,invoke,builtin,h6]) ⟨_,_,h5,h7,put_defersH _ _ _,hS.step hg.size (fun k hk hnk=>hg.block k (Nat.lt_of_lt_of_le hk hB) fun e=>by rcases hown2 k e.symm with h9 | h9;omega;exact hnk h9),?_,fun id hid=>by unfold updL;rw [if_neg (by omega)],by rw [enext];exact Nat.le_succ _,fun k o' hk hg=>by
        rw [etab] at hg
        simp only [appTab_get] at hg
        rw [if_neg (by omega)] at hg
        split at hg
        ·cases hg
        ·exact ⟨o',hg⟩⟩
       rw [etab]
       intro id ob g h8 h9 h10
       rw [appTab_get] at h9
       unfold updL at h10
       split at h9
       ·rename_i e1
        rw [if_pos e1] at h10
        rcases hv with hv|hv
        ·exact hown2 g (by rw [← hv];exact h10)
        ·rw [hv] at h10
         cases h10
         exact .inl hB
       ·rename_i e1
        rw [if_neg e1] at h10
        split at h9
        ·cases h9
        ·exact hy id ob g h8 h9 h10
      ·exact hp.elim
    ·exact hp.elim
   ·exact hp.elim
  ·rename_i f
   obtain ⟨g,xs,cs,hg,hxn,hxr,hp,hcs⟩:=aFn_inv (eval_ok h f).1 (eval_ok h f).2 hp
   have hargs:=args_rv h (args:=args) hxn hxr
   by_cases hmeth:aMeth (some (nx0,ids)) P st g (args.toList.map (aEv st) ++ cs) (aK2 dst K)
   ·obtain ⟨hent,ids0,hmay,hc⟩:=meth_ok h hargs.1 hargs.2 hmeth dst
    have hrun:(execOp a.eval { dst:=dst,op:=.call { callee:=.value f,args:=args,argTypes:=argTypes },type:=ty,pos:=pos,after:=aft,guard:=gd }).run P w=.ok (.enter g (args.map a.eval ++ xs)) w:=by
     have:=hent (args.map a.eval ++ xs) w
     simp [execOp,Sem.run_bind,resolve,hg,Deferred.ofValue,invoke,this]
    unfold Oper.wp
    rw [hrun]
    show Calls P g (args.map a.eval ++ xs) w _
    refine hc.mono ?_
    rintro e w' ⟨v,av,st',L',rfl,h1,h2,h3,h4,h5,h6,h7⟩
    have hblk:∀ id ∈ ids0,∀ o k,st.tab.get id=some o → vblk (L id)=some k → B≤k ∨ G k:=fun id hid o k h8 h9=>by
     rcases hmay _ rfl id hid with h10|h10
     ·exact .inr (hG id h10 k h9)
     ·exact hy id o k h10 h8 h9
    refine ⟨_,L',h1,h2,put_defersH _ _ _,hS.step h3.size (fun k hk hGk=>h6 k (Nat.lt_of_lt_of_le hk hB) fun id hid o ho e=>?_),?_,h4,by rw [enext];exact h3.next,fun id o hid ho=>h5 id o hid (by rw [etab] at ho;exact ho)⟩
    ·rcases hblk id hid o k ho e with h8 | h8
     ·omega
     ·exact hGk h8
    ·rw [etab]
     intro id ob g' h8 h9 h10
     rcases Nat.lt_or_ge id st.next with hlt|hge
     ·obtain ⟨o',h11⟩:=h5 id ob hlt h9
      rw [h4 id hlt] at h10
      exact hy id o' g' h8 h11 h10
     ·rcases h7 id ob g' hge h9 h10 with h11 | ⟨id',h11,⟨o',h12⟩,h13⟩
      ·exact .inl (Nat.le_trans hB h11)
      ·exact hblk id' h11 o' g' h12 h13
   replace hp:aCall0 P st g (args.toList.map (aEv st) ++ cs) (aK2 dst K):=by
    rcases hp with hp|hp|hp
    ·exact hp
    ·cases hp.1
    ·exact absurd hp hmeth
   have hent:Enters P g:=by
    rcases hp with ⟨R,hd,_⟩|⟨hd,_⟩
    ·exact hd.1
    ·exact hd
   have hrun:(execOp a.eval { dst:=dst,op:=.call { callee:=.value f,args:=args,argTypes:=argTypes },type:=ty,pos:=pos,after:=aft,guard:=gd }).run P w=.ok (.enter g (args.map a.eval ++ xs)) w:=by
    have:=hent (args.map a.eval ++ xs) w
    simp [execOp,Sem.run_bind,resolve,hg,Deferred.ofValue,invoke,this]
   unfold Oper.wp
   rw [hrun]
   show Calls P g (args.map a.eval ++ xs) w _
   have hargs:=args_rv h (args:=args) hxn hxr
   refine (call_ok h hargs.1 hargs.2 hp dst).mono ?_
   ·rintro e w' ⟨v,av,st',L',rfl,h1,h2,hb,hold,hnew,hnx'⟩
    refine ⟨_,_,h1,h2,put_defersH _ _ _,hS.step hb.size (fun k hk _=>hb.block k (Nat.lt_of_lt_of_le hk hB)),?_,fun id hid=>(hold id hid).2,by rw [enext];exact hnx',fun k o' hk hg=>⟨o',by rw [etab,(hold k hk).1] at hg;exact hg⟩⟩
    rw [etab]
    intro id ob g h8 h9 h10
    rcases Nat.lt_or_ge id st.next with hlt|hge
    ·rw [(hold id hlt).1] at h9
     rw [(hold id hlt).2] at h10
     exact hy id ob g h8 h9 h10
    ·exact .inl (Nat.le_trans hB (hnew id ob g hge h9 h10))
  ·exact hp.elim
 ·exact hp.elim
def noPanic (Q:Exit → Act → World → Prop):Exit → Act → World → Prop
 | .panic _,_,_=>False
 | e,a,w=>Q e a w
structure ElderOk (nx0 B:Nat) (ids:List Nat) (G:Nat → Prop) (T0:ATab) (L0:Nat → Value) (st:ASt) (L:Nat → Value):Prop where
 loc:∀ id,id<nx0 → L id=L0 id
 le:nx0≤st.next
 old:∀ id o,id<nx0 → st.tab.get id=some o → ∃ o',T0.get id=some o'
 far:∀ id o g,id<nx0 → id ∉ ids → T0.get id=some o → vblk (L id)=some g → g<B ∧ ¬ G g
theorem ElderOk.same {nx0 B:Nat} {ids:List Nat} {G:Nat → Prop} {T0:ATab} {L0:Nat → Value} {st st':ASt} {L:Nat → Value} (h:ElderOk nx0 B ids G T0 L0 st L) (ht:st'.tab=st.tab) (hn:st'.next=st.next):ElderOk nx0 B ids G T0 L0 st' L:=
 ⟨h.loc,by rw [hn];exact h.le,by rw [ht];exact h.old,h.far⟩
theorem ElderOk.step {nx0 B:Nat} {ids:List Nat} {G:Nat → Prop} {T0:ATab} {L0:Nat → Value} {st st':ASt} {L L':Nat → Value} (h:ElderOk nx0 B ids G T0 L0 st L) (h1:∀ id,id<st.next → L' id=L id) (h2:st.next≤st'.next) (h3:∀ id o,id<st.next → st'.tab.get id=some o → ∃ o',st.tab.get id=some o'):ElderOk nx0 B ids G T0 L0 st' L':=
 ⟨fun id hi=>(h1 id (Nat.lt_of_lt_of_le hi h.le)).trans (h.loc id hi),Nat.le_trans h.le h2,fun id o hi hg=>(h3 id o (Nat.lt_of_lt_of_le hi h.le) hg).elim fun o' hg'=>h.old id o' hi hg',fun id o g hi hn hT hg=>h.far id o g hi hn hT (by rw [← h1 id (Nat.lt_of_lt_of_le hi h.le)];exact hg)⟩
theorem held_ok {ops:Array Oper} {K:ASt → Prop} {T0:ATab} {nx0 B:Nat} {ids:List Nat} {G:Nat → Prop} {wr:World} {Q:Exit → Act → World → Prop} (hsel:Region.noSelect ops=true) {T:Nat → Prop} {a0:Act} {L0:Nat → Value} (hT:∀ (i:Nat) (o:Oper),ops[i]? = some o → ∀ t,T t → o.dst ≠ some t) (hQ:∀ a w st L,K st → Conc cx a w st L → KeepX B G wr w → Young nx0 B G st.tab L → ElderOk nx0 B ids G T0 L0 st L → ActSame T a0 a → Q .normal a w):∀ (s:Sch) (listed:Array Bool) (a:Act) (w:World) (st:ASt) (L:Nat → Value),
  Conc cx a w st L → KeepX B G wr w → Young nx0 B G st.tab L → (∀ id ∈ ids,∀ g,vblk (L id)=some g → G g) → (∀ id ∈ ids,id<st.next) → ElderOk nx0 B ids G T0 L0 st L → ActSame T a0 a → schedS ops s listed=true → aHeld P ops nx0 ids K s st → ∀ fuel,s.len≤fuel → wpAnyH P .any ops (noPanic Q) (fun w'=>KeepX B G wr w') fuel listed a w
 | .done,listed,a,w,st,L,h,hS,hy,_,_,hE,hA,hB,hp,fuel,_=>wpAnyH_done (Q:=noPanic Q) (by simpa [schedS] using hB) (hQ a w st L hp h hS hy hE hA) fuel
 | .take i s,listed,a,w,st,L,h,hS,hy,hG,hnx,hE,hA,hB,hp,fuel,hf=>by
  simp only [schedS,Bool.and_eq_true] at hB
  unfold aHeld aHeldT at hp
  have etab:∀ (st:ASt) d av,(st.put d av).tab=st.tab:=fun st d av=>by cases d <;> rfl
  have enext:∀ (st:ASt) d av,(st.put d av).next=st.next:=fun st d av=>by cases d <;> rfl
  split at hp
  ·rename_i o ho
   obtain ⟨fuel',rfl⟩:∃ f,fuel=f+1:=⟨fuel - 1,by simp [Sch.len] at hf;omega⟩
   rcases guard_ok h hp o rfl with ⟨hw,st',⟨hl,h0⟩,h2',ht',hn'⟩|⟨hw,st',h0,h2',ht',hn'⟩
   ·by_cases hbld:∃ t parts,o.op=.build t parts
    ·obtain ⟨t,parts,hop⟩:=hbld
     rw [hop] at h0
     obtain ⟨v,cs,h3,h4,h5,h6⟩:=build_wp h2' h0
     refine wpAnyH_take (v:=v) ho hsel hB.1.1 hB.1.2 (fun _ _ _ h=>h) (.inl ⟨hw,fun w' _=>by simp [execOp,hop,Sem.run_bind,h5 w']⟩) hS ?_
     exact held_ok hsel hT hQ s _ _ w _ L (conc_pure h2' h3 h4 o.dst) hS (by rw [etab,ht'];exact hy) hG (fun id hid=>by rw [enext,hn'];exact hnx id hid) (hE.same (by rw [etab,ht']) (by rw [enext,hn'])) (hA.put (hT _ _ ho)) hB.2 h6 fuel' (by simp [Sch.len] at hf;omega)
    replace h0:aPure P st'.tab (aEv st') o.op (aK st' o.dst (aHeld P ops nx0 ids K s)):=by
     unfold aTakeP at h0
     split at h0
     ·rename_i t parts hop
      exact absurd ⟨t,parts,hop⟩ hbld
     ·exact h0
    obtain ⟨v,av,h1,h2,h3,_,h5,h6⟩:=pure_ok h2'.lay (fun id o hid=>(h2'.young id o hid).2) (eval_ok h2') h0
    have hrd:∀ w',KeepX B G wr w' → (execOp a.eval o).run P w'=.ok (.value v) w':=fun w' hw'=>by
     cases hld:isLoad o.op with
     | false=>exact h5 hld w'
     | true=>
      obtain ⟨t,x,hop⟩:∃ t x,o.op=.load t x:=by
       cases hop:o.op <;> simp [hop,isLoad] at hld
       exact ⟨_,_,rfl⟩
      obtain ⟨b,hb,hr⟩:=h6 t x hop
      rw [hop] at hl
      have hev:=(eval_ok h2' x).1
      unfold aTakeE aElder at hl
      simp only at hl
      split at hl
      ·rename_i id i j he
       obtain ⟨hl1,hl2,hl3⟩:=hl
       split at hl3
       ·rename_i o' hg
        rw [he] at hev
        obtain ⟨g,hg1,hg2⟩:=hev.op_inv _ _ (kx_of hg)
        rw [hg2] at hb
        simp [vblk] at hb
        subst hb
        obtain ⟨o2,hT⟩:=hE.old id o' hl1 (by rw [← ht'];exact hg)
        obtain ⟨h7,h8⟩:=hE.far id o2 g hl1 hl2 hT hg1
        exact hr w' fun o' u hu=>(World.cell?_of_block ((hw'.block g h7 h8).trans (hS.block g h7 h8).symm)).trans hu
       ·exact hl3.elim
      ·exact hl.elim
    refine wpAnyH_take ho hsel hB.1.1 hB.1.2 (fun _ _ _ h=>h) (.inl ⟨hw,hrd⟩) hS ?_
    exact held_ok hsel hT hQ s _ _ w _ L (conc_pure h2' h2 h3 o.dst) hS (by rw [etab,ht'];exact hy) hG (fun id hid=>by rw [enext,hn'];exact hnx id hid) (hE.same (by rw [etab,ht']) (by rw [enext,hn'])) (hA.put (hT _ _ ho)) hB.2 h1 fuel' (by simp [Sch.len] at hf;omega)
   ·refine wpAnyH_take (v:=undef) ho hsel hB.1.1 hB.1.2 (fun _ _ _ h=>h) (.inr ⟨hw,rfl⟩) hS ?_
    exact held_ok hsel hT hQ s _ _ w _ L (skip_conc h2' o.dst) hS (by rw [etab,ht'];exact hy) hG (fun id hid=>by rw [enext,hn'];exact hnx id hid) (hE.same (by rw [etab,ht']) (by rw [enext,hn'])) (hA.put (hT _ _ ho)) hB.2 h0 fuel' (by simp [Sch.len] at hf;omega)
  ·exact hp.elim
 | .exec i s,listed,a,w,st,L,h,hS,hy,hG,hnx,hE,hA,hB,hp,fuel,hf=>by
  simp only [schedS,Bool.and_eq_true,decide_eq_true_eq] at hB
  unfold aHeld aHeldE at hp
  have etab:∀ (st:ASt) d av,(st.put d av).tab=st.tab:=fun st d av=>by cases d <;> rfl
  have enext:∀ (st:ASt) d av,(st.put d av).next=st.next:=fun st d av=>by cases d <;> rfl
  split at hp
  ·rename_i o ho
   obtain ⟨fuel',rfl⟩:∃ f,fuel=f+1:=⟨fuel - 1,by simp [Sch.len] at hf;omega⟩
   refine wpAnyH_all hB.1 (by simp) fun j hj=>?_
   obtain rfl:j=i:=by simpa using hj
   unfold wpOp
   rw [ho]
   rcases guard_ok h hp o rfl with ⟨hw,st1,h0,h2',ht',hn'⟩|⟨hw,st1,h0,h2',ht',hn'⟩
   ·simp only [hw,if_true]
    refine .inl (Oper.wp_mono (fun a' w' ⟨⟨st',L',h1,h2,h8,h3,h4,h5,h6,h7⟩,h9⟩=>⟨h3,?_⟩) (wp_slots (hT _ _ ho) (exec_ok h2' hS (by rw [ht'];exact hy) hG (fun id hid=>by rw [hn'];exact hnx id hid) h0)))
    rw [hn'] at h5 h6 h7
    exact held_ok hsel hT hQ s _ a' w' st' L' h2 h3 h4 (fun id hid g hg'=>hG id hid g (by rw [← h5 id (hnx id hid)];exact hg')) (fun id hid=>Nat.lt_of_lt_of_le (hnx id hid) h6) (hE.step h5 h6 (by rw [ht'] at h7;exact h7)) (hA.trans ⟨h8,h9⟩) hB.2 h1 fuel' (by simp [Sch.len] at hf;omega)
   ·simp only [hw,Bool.false_eq_true,if_false]
    refine ⟨hS,held_ok hsel hT hQ s _ _ w _ L (skip_conc h2' o.dst) hS (by rw [etab,ht'];exact hy) hG (fun id hid=>by rw [enext,hn'];exact hnx id hid) (hE.same (by rw [etab,ht']) (by rw [enext,hn'])) (hA.put (hT _ _ ho)) hB.2 h0 fuel' (by simp [Sch.len] at hf;omega)⟩
  ·exact hp.elim
 | .two i s k t,listed,a,w,st,L,h,hS,hy,hG,hnx,hE,hA,hB,hp,fuel,hf=>by
  simp only [schedS,Bool.and_eq_true,decide_eq_true_eq] at hB
  unfold aHeld at hp
  obtain ⟨hp,hp2⟩:=hp
  unfold aHeldE at hp hp2
  have etab:∀ (st:ASt) d av,(st.put d av).tab=st.tab:=fun st d av=>by cases d <;> rfl
  have enext:∀ (st:ASt) d av,(st.put d av).next=st.next:=fun st d av=>by cases d <;> rfl
  have hf1:s.len+1≤fuel:=Nat.le_trans (Nat.succ_le_succ (Nat.le_max_left s.len t.len)) hf
  have hf2:t.len+1≤fuel:=Nat.le_trans (Nat.succ_le_succ (Nat.le_max_right s.len t.len)) hf
  obtain ⟨fuel',rfl⟩:∃ f,fuel=f+1:=⟨fuel - 1,by omega⟩
  refine wpAnyH_all hB.1.1 (by simp) fun j hj=>?_
  have hj:j=i ∨ j=k:=by simpa using hj
  rcases hj with rfl|rfl
  ·split at hp
   ·rename_i o ho
    unfold wpOp
    rw [ho]
    rcases guard_ok h hp o rfl with ⟨hw,st1,h0,h2',ht',hn'⟩|⟨hw,st1,h0,h2',ht',hn'⟩
    ·simp only [hw,if_true]
     refine .inl (Oper.wp_mono (fun a' w' ⟨⟨st',L',h1,h2,h8,h3,h4,h5,h6,h7⟩,h9⟩=>⟨h3,?_⟩) (wp_slots (hT _ _ ho) (exec_ok h2' hS (by rw [ht'];exact hy) hG (fun id hid=>by rw [hn'];exact hnx id hid) h0)))
     rw [hn'] at h5 h6 h7
     exact held_ok hsel hT hQ s _ a' w' st' L' h2 h3 h4 (fun id hid g hg'=>hG id hid g (by rw [← h5 id (hnx id hid)];exact hg')) (fun id hid=>Nat.lt_of_lt_of_le (hnx id hid) h6) (hE.step h5 h6 (by rw [ht'] at h7;exact h7)) (hA.trans ⟨h8,h9⟩) hB.1.2 h1 fuel' (by omega)
    ·simp only [hw,Bool.false_eq_true,if_false]
     refine ⟨hS,held_ok hsel hT hQ s _ _ w _ L (skip_conc h2' o.dst) hS (by rw [etab,ht'];exact hy) hG (fun id hid=>by rw [enext,hn'];exact hnx id hid) (hE.same (by rw [etab,ht']) (by rw [enext,hn'])) (hA.put (hT _ _ ho)) hB.1.2 h0 fuel' (by omega)⟩
   ·exact hp.elim
  ·split at hp2
   ·rename_i o ho
    unfold wpOp
    rw [ho]
    rcases guard_ok h hp2 o rfl with ⟨hw,st1,h0,h2',ht',hn'⟩|⟨hw,st1,h0,h2',ht',hn'⟩
    ·simp only [hw,if_true]
     refine .inl (Oper.wp_mono (fun a' w' ⟨⟨st',L',h1,h2,h8,h3,h4,h5,h6,h7⟩,h9⟩=>⟨h3,?_⟩) (wp_slots (hT _ _ ho) (exec_ok h2' hS (by rw [ht'];exact hy) hG (fun id hid=>by rw [hn'];exact hnx id hid) h0)))
     rw [hn'] at h5 h6 h7
     exact held_ok hsel hT hQ t _ a' w' st' L' h2 h3 h4 (fun id hid g hg'=>hG id hid g (by rw [← h5 id (hnx id hid)];exact hg')) (fun id hid=>Nat.lt_of_lt_of_le (hnx id hid) h6) (hE.step h5 h6 (by rw [ht'] at h7;exact h7)) (hA.trans ⟨h8,h9⟩) hB.2 h1 fuel' (by omega)
    ·simp only [hw,Bool.false_eq_true,if_false]
     refine ⟨hS,held_ok hsel hT hQ t _ _ w _ L (skip_conc h2' o.dst) hS (by rw [etab,ht'];exact hy) hG (fun id hid=>by rw [enext,hn'];exact hnx id hid) (hE.same (by rw [etab,ht']) (by rw [enext,hn'])) (hA.put (hT _ _ ho)) hB.2 h0 fuel' (by omega)⟩
   ·exact hp2.elim
 | .three i s k t m u,listed,a,w,st,L,h,hS,hy,hG,hnx,hE,hA,hB,hp,fuel,hf=>by
  simp only [schedS,Bool.and_eq_true,decide_eq_true_eq] at hB
  unfold aHeld at hp
  obtain ⟨hp,hp2,hp3⟩:=hp
  unfold aHeldE at hp hp2 hp3
  have etab:∀ (st:ASt) d av,(st.put d av).tab=st.tab:=fun st d av=>by cases d <;> rfl
  have enext:∀ (st:ASt) d av,(st.put d av).next=st.next:=fun st d av=>by cases d <;> rfl
  have hf1:s.len+1≤fuel:=Nat.le_trans (Nat.succ_le_succ (Nat.le_max_left s.len _)) hf
  have hf2:t.len+1≤fuel:=Nat.le_trans (Nat.succ_le_succ (Nat.le_trans (Nat.le_max_left t.len u.len) (Nat.le_max_right s.len _))) hf
  have hf3:u.len+1≤fuel:=Nat.le_trans (Nat.succ_le_succ (Nat.le_trans (Nat.le_max_right t.len u.len) (Nat.le_max_right s.len _))) hf
  obtain ⟨fuel',rfl⟩:∃ f,fuel=f+1:=⟨fuel - 1,by omega⟩
  refine wpAnyH_all hB.1.1.1 (by simp) fun j hj=>?_
  have hj:j=i ∨ j=k ∨ j=m:=by simpa using hj
  rcases hj with rfl|rfl|rfl
  ·split at hp
   ·rename_i o ho
    unfold wpOp
    rw [ho]
    rcases guard_ok h hp o rfl with ⟨hw,st1,h0,h2',ht',hn'⟩|⟨hw,st1,h0,h2',ht',hn'⟩
    ·simp only [hw,if_true]
     refine .inl (Oper.wp_mono (fun a' w' ⟨⟨st',L',h1,h2,h8,h3,h4,h5,h6,h7⟩,h9⟩=>⟨h3,?_⟩) (wp_slots (hT _ _ ho) (exec_ok h2' hS (by rw [ht'];exact hy) hG (fun id hid=>by rw [hn'];exact hnx id hid) h0)))
     rw [hn'] at h5 h6 h7
     exact held_ok hsel hT hQ s _ a' w' st' L' h2 h3 h4 (fun id hid g hg'=>hG id hid g (by rw [← h5 id (hnx id hid)];exact hg')) (fun id hid=>Nat.lt_of_lt_of_le (hnx id hid) h6) (hE.step h5 h6 (by rw [ht'] at h7;exact h7)) (hA.trans ⟨h8,h9⟩) hB.1.1.2 h1 fuel' (by omega)
    ·simp only [hw,Bool.false_eq_true,if_false]
     refine ⟨hS,held_ok hsel hT hQ s _ _ w _ L (skip_conc h2' o.dst) hS (by rw [etab,ht'];exact hy) hG (fun id hid=>by rw [enext,hn'];exact hnx id hid) (hE.same (by rw [etab,ht']) (by rw [enext,hn'])) (hA.put (hT _ _ ho)) hB.1.1.2 h0 fuel' (by omega)⟩
   ·exact hp.elim
  ·split at hp2
   ·rename_i o ho
    unfold wpOp
    rw [ho]
    rcases guard_ok h hp2 o rfl with ⟨hw,st1,h0,h2',ht',hn'⟩|⟨hw,st1,h0,h2',ht',hn'⟩
    ·simp only [hw,if_true]
     refine .inl (Oper.wp_mono (fun a' w' ⟨⟨st',L',h1,h2,h8,h3,h4,h5,h6,h7⟩,h9⟩=>⟨h3,?_⟩) (wp_slots (hT _ _ ho) (exec_ok h2' hS (by rw [ht'];exact hy) hG (fun id hid=>by rw [hn'];exact hnx id hid) h0)))
     rw [hn'] at h5 h6 h7
     exact held_ok hsel hT hQ t _ a' w' st' L' h2 h3 h4 (fun id hid g hg'=>hG id hid g (by rw [← h5 id (hnx id hid)];exact hg')) (fun id hid=>Nat.lt_of_lt_of_le (hnx id hid) h6) (hE.step h5 h6 (by rw [ht'] at h7;exact h7)) (hA.trans ⟨h8,h9⟩) hB.1.2 h1 fuel' (by omega)
    ·simp only [hw,Bool.false_eq_true,if_false]
     refine ⟨hS,held_ok hsel hT hQ t _ _ w _ L (skip_conc h2' o.dst) hS (by rw [etab,ht'];exact hy) hG (fun id hid=>by rw [enext,hn'];exact hnx id hid) (hE.same (by rw [etab,ht']) (by rw [enext,hn'])) (hA.put (hT _ _ ho)) hB.1.2 h0 fuel' (by omega)⟩
   ·exact hp2.elim
  ·split at hp3
   ·rename_i o ho
    unfold wpOp
    rw [ho]
    rcases guard_ok h hp3 o rfl with ⟨hw,st1,h0,h2',ht',hn'⟩|⟨hw,st1,h0,h2',ht',hn'⟩
    ·simp only [hw,if_true]
     refine .inl (Oper.wp_mono (fun a' w' ⟨⟨st',L',h1,h2,h8,h3,h4,h5,h6,h7⟩,h9⟩=>⟨h3,?_⟩) (wp_slots (hT _ _ ho) (exec_ok h2' hS (by rw [ht'];exact hy) hG (fun id hid=>by rw [hn'];exact hnx id hid) h0)))
     rw [hn'] at h5 h6 h7
     exact held_ok hsel hT hQ u _ a' w' st' L' h2 h3 h4 (fun id hid g hg'=>hG id hid g (by rw [← h5 id (hnx id hid)];exact hg')) (fun id hid=>Nat.lt_of_lt_of_le (hnx id hid) h6) (hE.step h5 h6 (by rw [ht'] at h7;exact h7)) (hA.trans ⟨h8,h9⟩) hB.2 h1 fuel' (by omega)
    ·simp only [hw,Bool.false_eq_true,if_false]
     refine ⟨hS,held_ok hsel hT hQ u _ _ w _ L (skip_conc h2' o.dst) hS (by rw [etab,ht'];exact hy) hG (fun id hid=>by rw [enext,hn'];exact hnx id hid) (hE.same (by rw [etab,ht']) (by rw [enext,hn'])) (hA.put (hT _ _ ho)) hB.2 h0 fuel' (by omega)⟩
   ·exact hp3.elim
 | .four i s k t m u n v,listed,a,w,st,L,h,hS,hy,hG,hnx,hE,hA,hB,hp,fuel,hf=>by
  simp only [schedS,Bool.and_eq_true,decide_eq_true_eq] at hB
  unfold aHeld at hp
  obtain ⟨hp,hp2,hp3,hp4⟩:=hp
  unfold aHeldE at hp hp2 hp3 hp4
  have etab:∀ (st:ASt) d av,(st.put d av).tab=st.tab:=fun st d av=>by cases d <;> rfl
  have enext:∀ (st:ASt) d av,(st.put d av).next=st.next:=fun st d av=>by cases d <;> rfl
  have hf1:s.len+1≤fuel:=Nat.le_trans (Nat.succ_le_succ (Nat.le_max_left s.len _)) hf
  have hf2:t.len+1≤fuel:=Nat.le_trans (Nat.succ_le_succ (Nat.le_trans (Nat.le_max_left t.len _) (Nat.le_max_right s.len _))) hf
  have hf3:u.len+1≤fuel:=Nat.le_trans (Nat.succ_le_succ (Nat.le_trans (Nat.le_trans (Nat.le_max_left u.len v.len) (Nat.le_max_right t.len _)) (Nat.le_max_right s.len _))) hf
  have hf4:v.len+1≤fuel:=Nat.le_trans (Nat.succ_le_succ (Nat.le_trans (Nat.le_trans (Nat.le_max_right u.len v.len) (Nat.le_max_right t.len _)) (Nat.le_max_right s.len _))) hf
  obtain ⟨fuel',rfl⟩:∃ f,fuel=f+1:=⟨fuel - 1,by omega⟩
  refine wpAnyH_all hB.1.1.1.1 (by simp) fun j hj=>?_
  have hj:j=i ∨ j=k ∨ j=m ∨ j=n:=by simpa using hj
  rcases hj with rfl|rfl|rfl|rfl
  ·split at hp
   ·rename_i o ho
    unfold wpOp
    rw [ho]
    rcases guard_ok h hp o rfl with ⟨hw,st1,h0,h2',ht',hn'⟩|⟨hw,st1,h0,h2',ht',hn'⟩
    ·simp only [hw,if_true]
     refine .inl (Oper.wp_mono (fun a' w' ⟨⟨st',L',h1,h2,h8,h3,h4,h5,h6,h7⟩,h9⟩=>⟨h3,?_⟩) (wp_slots (hT _ _ ho) (exec_ok h2' hS (by rw [ht'];exact hy) hG (fun id hid=>by rw [hn'];exact hnx id hid) h0)))
     rw [hn'] at h5 h6 h7
     exact held_ok hsel hT hQ s _ a' w' st' L' h2 h3 h4 (fun id hid g hg'=>hG id hid g (by rw [← h5 id (hnx id hid)];exact hg')) (fun id hid=>Nat.lt_of_lt_of_le (hnx id hid) h6) (hE.step h5 h6 (by rw [ht'] at h7;exact h7)) (hA.trans ⟨h8,h9⟩) hB.1.1.1.2 h1 fuel' (by omega)
    ·simp only [hw,Bool.false_eq_true,if_false]
     refine ⟨hS,held_ok hsel hT hQ s _ _ w _ L (skip_conc h2' o.dst) hS (by rw [etab,ht'];exact hy) hG (fun id hid=>by rw [enext,hn'];exact hnx id hid) (hE.same (by rw [etab,ht']) (by rw [enext,hn'])) (hA.put (hT _ _ ho)) hB.1.1.1.2 h0 fuel' (by omega)⟩
   ·exact hp.elim
  ·split at hp2
   ·rename_i o ho
    unfold wpOp
    rw [ho]
    rcases guard_ok h hp2 o rfl with ⟨hw,st1,h0,h2',ht',hn'⟩|⟨hw,st1,h0,h2',ht',hn'⟩
    ·simp only [hw,if_true]
     refine .inl (Oper.wp_mono (fun a' w' ⟨⟨st',L',h1,h2,h8,h3,h4,h5,h6,h7⟩,h9⟩=>⟨h3,?_⟩) (wp_slots (hT _ _ ho) (exec_ok h2' hS (by rw [ht'];exact hy) hG (fun id hid=>by rw [hn'];exact hnx id hid) h0)))
     rw [hn'] at h5 h6 h7
     exact held_ok hsel hT hQ t _ a' w' st' L' h2 h3 h4 (fun id hid g hg'=>hG id hid g (by rw [← h5 id (hnx id hid)];exact hg')) (fun id hid=>Nat.lt_of_lt_of_le (hnx id hid) h6) (hE.step h5 h6 (by rw [ht'] at h7;exact h7)) (hA.trans ⟨h8,h9⟩) hB.1.1.2 h1 fuel' (by omega)
    ·simp only [hw,Bool.false_eq_true,if_false]
     refine ⟨hS,held_ok hsel hT hQ t _ _ w _ L (skip_conc h2' o.dst) hS (by rw [etab,ht'];exact hy) hG (fun id hid=>by rw [enext,hn'];exact hnx id hid) (hE.same (by rw [etab,ht']) (by rw [enext,hn'])) (hA.put (hT _ _ ho)) hB.1.1.2 h0 fuel' (by omega)⟩
   ·exact hp2.elim
  ·split at hp3
   ·rename_i o ho
    unfold wpOp
    rw [ho]
    rcases guard_ok h hp3 o rfl with ⟨hw,st1,h0,h2',ht',hn'⟩|⟨hw,st1,h0,h2',ht',hn'⟩
    ·simp only [hw,if_true]
     refine .inl (Oper.wp_mono (fun a' w' ⟨⟨st',L',h1,h2,h8,h3,h4,h5,h6,h7⟩,h9⟩=>⟨h3,?_⟩) (wp_slots (hT _ _ ho) (exec_ok h2' hS (by rw [ht'];exact hy) hG (fun id hid=>by rw [hn'];exact hnx id hid) h0)))
     rw [hn'] at h5 h6 h7
     exact held_ok hsel hT hQ u _ a' w' st' L' h2 h3 h4 (fun id hid g hg'=>hG id hid g (by rw [← h5 id (hnx id hid)];exact hg')) (fun id hid=>Nat.lt_of_lt_of_le (hnx id hid) h6) (hE.step h5 h6 (by rw [ht'] at h7;exact h7)) (hA.trans ⟨h8,h9⟩) hB.1.2 h1 fuel' (by omega)
    ·simp only [hw,Bool.false_eq_true,if_false]
     refine ⟨hS,held_ok hsel hT hQ u _ _ w _ L (skip_conc h2' o.dst) hS (by rw [etab,ht'];exact hy) hG (fun id hid=>by rw [enext,hn'];exact hnx id hid) (hE.same (by rw [etab,ht']) (by rw [enext,hn'])) (hA.put (hT _ _ ho)) hB.1.2 h0 fuel' (by omega)⟩
   ·exact hp3.elim
  ·split at hp4
   ·rename_i o ho
    unfold wpOp
    rw [ho]
    rcases guard_ok h hp4 o rfl with ⟨hw,st1,h0,h2',ht',hn'⟩|⟨hw,st1,h0,h2',ht',hn'⟩
    ·simp only [hw,if_true]
     refine .inl (Oper.wp_mono (fun a' w' ⟨⟨st',L',h1,h2,h8,h3,h4,h5,h6,h7⟩,h9⟩=>⟨h3,?_⟩) (wp_slots (hT _ _ ho) (exec_ok h2' hS (by rw [ht'];exact hy) hG (fun id hid=>by rw [hn'];exact hnx id hid) h0)))
     rw [hn'] at h5 h6 h7
     exact held_ok hsel hT hQ v _ a' w' st' L' h2 h3 h4 (fun id hid g hg'=>hG id hid g (by rw [← h5 id (hnx id hid)];exact hg')) (fun id hid=>Nat.lt_of_lt_of_le (hnx id hid) h6) (hE.step h5 h6 (by rw [ht'] at h7;exact h7)) (hA.trans ⟨h8,h9⟩) hB.2 h1 fuel' (by omega)
    ·simp only [hw,Bool.false_eq_true,if_false]
     refine ⟨hS,held_ok hsel hT hQ v _ _ w _ L (skip_conc h2' o.dst) hS (by rw [etab,ht'];exact hy) hG (fun id hid=>by rw [enext,hn'];exact hnx id hid) (hE.same (by rw [etab,ht']) (by rw [enext,hn'])) (hA.put (hT _ _ ho)) hB.2 h0 fuel' (by omega)⟩
   ·exact hp4.elim
theorem heldH_ok {ops:Array Oper} {K:ASt → Prop} {T:ATab} {Tz:Nat → Prop} {a0:Act} {nx:Nat} {ids:List Nat} {S:World → Prop} {Q:Exit → Act → World → Prop} (hsel:Region.noSelect ops=true) (hTz:∀ (i:Nat) (o:Oper),ops[i]? = some o → ∀ t,Tz t → o.dst ≠ some t) (s:Sch) (hS:S w)
  (hSw:∀ w' b,S w' → (Sx cx w T L b ∨ ∃ id o,id ∉ ids ∧ T.get id=some o ∧ vblk (L id)=some b) → SameB b w w')
  (hQ:∀ listed a st,ActSame Tz a0 a → st.tab=T → st.next=nx → schedS ops s listed=true → K st → Conc cx a w st L → ∀ fuel,s.len≤fuel → wpAnyH P .any ops (noPanic Q) S fuel listed a w):∀ (hd:List Nat) (listed:Array Bool) (a:Act) (st:ASt),
  ActSame Tz a0 a → Conc cx a w st L → st.tab=T → st.next=nx → schedB ops hd s listed=true → aHeldH P ops ids K hd st → ∀ fuel,hd.length+s.len≤fuel → wpAnyH P .any ops (noPanic Q) S fuel listed a w
 | [],listed,a,st,hA,h,hT,hN,hB,hp,fuel,hf=>hQ listed a st hA hT hN hB hp h fuel (by simpa using hf)
 | i :: hd,listed,a,st,hA,h,hT,hN,hB,hp,fuel,hf=>by
  simp only [schedB,Bool.and_eq_true] at hB
  unfold aHeldH aHeldL at hp
  have etab:∀ (st:ASt) d av,(st.put d av).tab=st.tab:=fun st d av=>by cases d <;> rfl
  have enext:∀ (st:ASt) d av,(st.put d av).next=st.next:=fun st d av=>by cases d <;> rfl
  split at hp
  ·rename_i o ho
   obtain ⟨fuel',rfl⟩:∃ f,fuel=f+1:=⟨fuel - 1,by simp at hf;omega⟩
   rcases guard_ok h hp o rfl with ⟨hw,st',⟨hl,h0⟩,h2',ht',hn'⟩|⟨hw,st',h0,h2',ht',hn'⟩
   ·by_cases hbld:∃ t parts,o.op=.build t parts
    ·obtain ⟨t,parts,hop⟩:=hbld
     rw [hop] at h0
     obtain ⟨v,cs,h3,h4,h5,h6⟩:=build_wp h2' h0
     refine wpAnyH_take (v:=v) ho hsel hB.1.1 hB.1.2 (fun _ _ _ h=>h) (.inl ⟨hw,fun w' _=>by simp [execOp,hop,Sem.run_bind,h5 w']⟩) hS ?_
     exact heldH_ok hsel hTz s hS hSw hQ hd _ _ _ (hA.put (hTz _ _ ho)) (conc_pure h2' h3 h4 o.dst) (by rw [etab,ht',hT]) (by rw [enext,hn',hN]) hB.2 h6 fuel' (by simp at hf;omega)
    replace h0:aPure P st'.tab (aEv st') o.op (aK st' o.dst (aHeldH P ops ids K hd)):=by
     unfold aTakeP at h0
     split at h0
     ·rename_i t parts hop
      exact absurd ⟨t,parts,hop⟩ hbld
     ·exact h0
    obtain ⟨v,av,h1,h2,h3,_,h5,h6⟩:=pure_ok h2'.lay (fun id o hid=>(h2'.young id o hid).2) (eval_ok h2') h0
    have hy:∀ w',S w' → (execOp a.eval o).run P w'=.ok (.value v) w':=fun w' hw'=>by
     cases hld:isLoad o.op with
     | false=>exact h5 hld w'
     | true=>
      obtain ⟨t,x,hop⟩:∃ t x,o.op=.load t x:=by
       cases hop:o.op <;> simp [hop,isLoad] at hld
       exact ⟨_,_,rfl⟩
      obtain ⟨b,hb,hr⟩:=h6 t x hop
      refine hr w' (hSw w' b hw' ?_)
      rw [hop] at hl
      have hev:=(eval_ok h2' x).1
      unfold aTakes aFrom at hl
      simp only at hl
      split at hl
      ·rename_i id i j he
       rw [he] at hev
       rw [hop] at h0
       simp only [aPure,aLoad,he] at h0
       cases hg:st'.tab.get id with
       | none=>rw [hg] at h0;exact h0.elim
       | some ob=>
        obtain ⟨g,hg1,hg2⟩:=hev.op_inv _ _ (kx_of hg)
        rw [hg2] at hb
        simp [vblk] at hb
        subst hb
        exact .inr ⟨id,ob,hl,by rw [← hT,← ht'];exact hg,hg1⟩
      ·rename_i cs he
       rw [he] at hev
       obtain ⟨b',o',U,hg2,hb',_⟩:=hev.rp_inv
       rw [hg2] at hb
       simp [vblk] at hb
       subst hb
       refine .inl ?_
       rw [← hT,← ht']
       exact hb'
      ·exact hl.elim
    refine wpAnyH_take ho hsel hB.1.1 hB.1.2 (fun _ _ _ h=>h) (.inl ⟨hw,hy⟩) hS ?_
    exact heldH_ok hsel hTz s hS hSw hQ hd _ _ _ (hA.put (hTz _ _ ho)) (conc_pure h2' h2 h3 o.dst) (by rw [etab,ht',hT]) (by rw [enext,hn',hN]) hB.2 h1 fuel' (by simp at hf;omega)
   ·refine wpAnyH_take (v:=undef) ho hsel hB.1.1 hB.1.2 (fun _ _ _ h=>h) (.inr ⟨hw,rfl⟩) hS ?_
    exact heldH_ok hsel hTz s hS hSw hQ hd _ _ _ (hA.put (hTz _ _ ho)) (skip_conc h2' o.dst) (by rw [etab,ht',hT]) (by rw [enext,hn',hN]) hB.2 h0 fuel' (by simp at hf;omega)
  ·exact hp.elim
theorem exists_least {p:Nat → Prop} (h:∃ n,p n):∃ n,p n ∧ ∀ m,p m → n≤m:=by
 obtain ⟨n,hn⟩:=h
 induction n using Nat.strongRecOn with
 | _ n ih=>
  by_cases hx:∃ m,m<n ∧ p m
  ·obtain ⟨m,hm,hp⟩:=hx
   exact ih m hm hp
  ·exact ⟨n,hn,fun m hm=>Nat.le_of_not_lt fun hlt=>hx ⟨m,hlt,hm⟩⟩
open Classical in
noncomputable def least (p:Nat → Prop):Nat:=if h:∃ n,p n then (exists_least h).choose else 0
theorem least_spec {p:Nat → Prop} (h:∃ n,p n):p (least p) ∧ ∀ m,p m → least p≤m:=by
 unfold least
 rw [dif_pos h]
 exact (exists_least h).choose_spec
abbrev AfterC (cx:Cx) (Q:Exit → ASt → Prop):Exit → Act → World → Prop:=fun e a w=>∃ st L,Q e st ∧ Conc cx a w st L
theorem code_ok (hm:P.follows .mixedOrders=true):∀ (c:Code) (Q:Exit → ASt → Prop) (a:Act) (w:World) (st:ASt) (L:Nat → Value),Conc cx a w st L → aCode P c Q st → c.wp P (AfterC cx Q) a w:=by
 intro c
 induction c with
 | skip=>exact fun Q a w st L h hp=>wp_skip ⟨st,L,hp,h⟩
 | region id ops draw=>
  intro Q a w st L h hp
  unfold aCode aReg at hp
  cases draw with
  | false=>exact wp_region_list (ops_ok (fun a w st L h1 h2=>⟨st,L,h1,h2⟩) _ _ _ _ _ h (by simpa using hp))
  | true=>
   simp only [if_true] at hp
   obtain ⟨l⟩:=ops
   rcases hp with ⟨hB,hp⟩|⟨n,hB,hp⟩|⟨ids,hd,s,hB,K',hK',hids,hp⟩
   ·exact wp_region_quiet (C:=fun w'=>Below w.heap.size w w') hm hB ((Below.refl _ _).drew) (dops_ok (L:=L) (T:=fun _=>False) (a0:=a) (tab0:=st.tab) (fun a' st' h1 h2 _ _ w' hw'=>⟨st',L,h1,conc_below h2 hw'⟩) _ _ _ (fun _ _ _ h=>h.elim) rfl (.refl a) h hp)
   ·have h':Conc cx a w.drew st L:=conc_below h ((Below.refl _ _).drew)
    exact wp_region_still_tail n hm hB (pops_ok (T:=fun _=>False) (a0:=a) (tab0:=st.tab) (fun a' st' h1 h2 _ _=>ops_ok (fun a w st L h1 h2=>⟨st,L,h1,h2⟩) _ _ _ _ _ h2 h1) _ _ _ (fun _ _ _ h=>h.elim) rfl (.refl a) h' hp)
   ·simp only [Bool.and_eq_true] at hB
    have hB:=And.intro hB.1 (Nat.le_of_ble_eq_true hB.2)
    have h':Conc cx a w.drew st L:=conc_below h ((Below.refl _ _).drew)
    let G:Nat → Prop:=fun k=>∃ id ∈ ids,vblk (L id)=some k
    refine Code.wp_mono (Q:=noPanic (AfterC cx Q)) (fun e a w hq=>?_) (wp_region_held (S:=fun w'=>KeepX w.drew.heap.size G w.drew w') hm ?_)
    ·cases e <;> first | exact hq | exact hq.elim
    ·refine heldH_ok (T:=st.tab) (Tz:=fun _=>False) (a0:=a) (nx:=st.next) (ids:=ids) hB.1.1 (fun _ _ _ _ h=>h.elim) s ⟨Nat.le_refl _,fun _ _ _=>rfl⟩ (fun w' b hw' hb o u hu=>?_) (fun listed a' st' _ hT hN hB' hK h2 fuel hf=>?_) hd _ _ _ (.refl a) h' rfl rfl hB.1.2 hp _ hB.2
     ·have hlt:=World.block_lt_of_cell? w.drew _ hu
      refine (World.cell?_of_block (hw'.block b hlt fun ⟨id,hid,hbl⟩=>?_)).trans hu
      obtain ⟨ob,hob⟩:=Option.isSome_iff_exists.1 (hids id hid)
      rcases hb with hb|⟨id',o',hni,hget,hbl'⟩
      ·exact hb.2.2 id ob hob hbl
      ·exact hni (h.lay.sep id' id o' ob b hget hob hbl' hbl ▸ hid)
     ·refine held_ok (Q:=AfterC cx Q) (T0:=st.tab) (T:=fun _=>False) (a0:=a') (L0:=L) hB.1.1 (fun _ _ _ _ h=>h.elim) (fun a w st L h1 h2 _ _ _ _=>(hK' st h1).elim fun st' h3=>(h3.1 cx a w L h2).elim fun L' h4=>⟨st',L',h3.2,h4.1⟩) s listed a' w.drew st' L h2 ⟨Nat.le_refl _,fun _ _ _=>rfl⟩ (fun id o g h3 h4 _=>by
       rw [hT] at h4
       have:=(h.young id o h4).1
       omega) (fun id hid g hg=>⟨id,hid,hg⟩) (fun id hid=>by
       obtain ⟨ob,hob⟩:=Option.isSome_iff_exists.1 (hids id hid)
       rw [hN]
       exact (h.young id ob hob).1) ⟨fun _ _=>rfl,by rw [hN];exact Nat.le_refl _,fun id o _ hg=>⟨o,by rw [← hT];exact hg⟩,fun id o g _ hni hg hbl=>?_⟩ (.refl a') hB' hK fuel hf
      refine ⟨((h'.lay.objs id _ hg).ge hbl).2,fun ⟨id',hid',hbl'⟩=>hni ?_⟩
      obtain ⟨ob,hob⟩:=Option.isSome_iff_exists.1 (hids id' hid')
      exact h.lay.sep id id' _ ob g hg hob hbl hbl' ▸ hid'
 | seq x y ihx ihy=>
  intro Q a w st L h hp
  unfold aCode at hp
  refine wp_seq (Code.wp_mono (fun e a' w' ⟨st',L',h1,h2⟩=>?_) (ihx _ a w st L h hp))
  cases e with
  | normal=>exact ihy Q a' w' st' L' h2 h1
  | _=>exact ⟨st',L',h1,h2⟩
 | cond c x y ihx ihy=>
  intro Q a w st L h hp
  unfold aCode aCond at hp
  split at hp
  ·rename_i b hb
   have hv:=(eval_ok h c).1
   rw [hb] at hv
   have hv:=hv.c_inv
   cases b
   ·exact wp_cond_false hv (ihy Q a w st L h hp)
   ·exact wp_cond_true hv (ihx Q a w st L h hp)
  ·exact hp.elim
 | block id x ih=>
  intro Q a w st L h hp
  unfold aCode at hp
  refine wp_block (Code.wp_mono (fun e a' w' ⟨st',L',h1,h2⟩=>?_) (ih _ a w st L h hp))
  cases e with
  | exit id'=>
   simp only [aInBlock,Exit.inBlock] at h1 ⊢
   split
   ·rename_i e
    rw [if_pos e] at h1
    exact ⟨st',L',h1,h2⟩
   ·rename_i e
    rw [if_neg e] at h1
    exact ⟨st',L',h1,h2⟩
  | _=>exact ⟨st',L',h1,h2⟩
 | loop x ih=>
  intro Q a w st L h hp
  unfold aCode at hp
  obtain ⟨I,μ,⟨st0,hw0,hI⟩,hr⟩:=hp
  let p:Act → World → Nat → Prop:=fun a w n=>∃ st L,I st ∧ Conc cx a w st L ∧ μ st=n
  obtain ⟨L0,hL0,_⟩:=hw0 _ _ _ _ h
  refine wp_loop (fun a w=>∃ n,p a w n) (fun a w=>least (p a w)) ⟨_,st0,L0,hI,hL0,rfl⟩ fun a w hpa=>?_
  obtain ⟨⟨st,L,h1,h2,h3⟩,_⟩:=least_spec hpa
  refine Code.wp_mono (fun e a' w' ⟨st',L',h4,h5⟩=>?_) (ih _ a w st L h2 (hr st h1))
  cases e with
  | normal=>
   obtain ⟨st'',hw,hI'',hlt⟩:=h4
   obtain ⟨L1,hL1,_⟩:=hw _ _ _ _ h5
   have hpn:p a' w' (μ st''):=⟨st'',L1,hI'',hL1,rfl⟩
   refine ⟨⟨_,hpn⟩,?_⟩
   have:=(least_spec ⟨_,hpn⟩).2 _ hpn
   show least (p a' w')<least (p a w)
   omega
  | _=>exact ⟨st',L',h4,h5⟩
 | exit id=>exact fun Q a w st L h hp=>wp_exit ⟨st,L,hp,h⟩
 | ret=>exact fun Q a w st L h hp=>wp_ret ⟨st,L,hp,h⟩
 | rangeFunc g ps assign body=>exact fun Q a w st L h hp=>hp cx a w L h
 | label l=>exact fun Q a w st L h hp=>wp_label ⟨st,L,hp,h⟩
 | scope x ih=>
  intro Q a w st L h hp
  unfold aCode at hp
  refine wp_scope_straight (Code.wp_mono (fun e a' w' ⟨st',L',h1,h2⟩=>?_) (ih _ a w st L h hp))
  cases e with
  | goto l=>exact h1
  | _=>exact ⟨st',L',h1,h2⟩
 | _=>exact fun Q a w st L h hp=>hp.elim
end
end
end
end Go.Proofs.YtcindbpnaicemaaGreat
