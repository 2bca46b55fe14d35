/-
  Parts of the proof: Lnvp4.
-/
import Derived.Test.YtiaiihjmmfakdaaGreatLnvq2
import Derived.Deep.Quiet
import Derived.StillTail
import Derived.OrdersHeld
import Derived.Scope
set_option linter.unusedVariables false
set_option linter.unusedSimpArgs false
set_option linter.defProp false
set_option maxRecDepth 100000
set_option maxHeartbeats 16000000
namespace Go.Proofs.YtiaiihjmmfakdaaGreat
open Go.RowKit
section
section
def ot (P:Program) (t:TypeId) (st:ai) (p x:AV) (K:ai -> Prop):Prop:=
 match p with
 | .op id i j=>match st.tab.get id with
  | some (.box ty cells)=>i=0 /\ 0<al P t /\ (aj x).length=al P t /\ j+al P t<=cells.length /\ cH st.tab (aj x) /\ K { st with tab:=(id,some (.box ty (cells.take j ++ aj x ++ cells.drop (j+al P t)))) :: st.tab }
  | some (.row e sz rows)=>i<rows.length /\ 0<al P t /\ (aj x).length=al P t /\ j+al P t<=sz /\ cH st.tab (aj x) /\ aI (aj x) /\ K { st with tab:=(id,some (.row e sz (rows.set i ((rows[i]?.getD []).take j ++ aj x ++ (rows[i]?.getD []).drop (j+al P t))))) :: st.tab }
  | some (.nest e sz rows)=>i<rows.length /\ 0<al P t /\ (aj x).length=al P t /\ j+al P t<=sz /\ cH st.tab (aj x) /\ K { st with tab:=(id,some (.nest e sz (rows.set i ((rows[i]?.getD []).take j ++ aj x ++ (rows[i]?.getD []).drop (j+al P t))))) :: st.tab }
  | _=>False
 | _=>False
def kY (P:Program) (t:TypeId) (st:ai) (id i j:Nat) (x:AV) (K:ai -> Prop):Prop:=
 match st.tab.get id with
 | some (.box ty cells)=>i=0 /\ 0<al P t /\ (aj x).length=al P t /\ j+al P t<=cells.length /\ cH st.tab (aj x) /\ K { st with tab:=(id,some (.box ty (cells.take j ++ aj x ++ cells.drop (j+al P t)))) :: st.tab }
 | some (.row e sz rows)=>i<rows.length /\ 0<al P t /\ (aj x).length=al P t /\ j+al P t<=sz /\ cH st.tab (aj x) /\ aI (aj x) /\ K { st with tab:=(id,some (.row e sz (rows.set i ((rows[i]?.getD []).take j ++ aj x ++ (rows[i]?.getD []).drop (j+al P t))))) :: st.tab }
 | some (.nest e sz rows)=>i<rows.length /\ 0<al P t /\ (aj x).length=al P t /\ j+al P t<=sz /\ cH st.tab (aj x) /\ K { st with tab:=(id,some (.nest e sz (rows.set i ((rows[i]?.getD []).take j ++ aj x ++ (rows[i]?.getD []).drop (j+al P t))))) :: st.tab }
 | _=>False
def rF (t:TypeId) (st:ai) (x:AV) (dst:Option Nat) (K:ai -> Prop):Prop:=
 cH st.tab (aj x) /\ K ({ st with tab:=(st.next,some (.box t (aj x))) :: st.tab,next:=st.next+1 }.put dst (.op st.next 0 0))
def gC (P:Program) (t:TypeId) (st:ai) (x y:AV) (dst:Option Nat) (K:ai -> Prop):Prop:=
 match cl P t with
 | some (e,sz,by_)=>match sD st.tab e sz x,th st.tab sz y with
  | some (oid,rows),some rows2=>(rows.length+rows2.length<=9223372036854775807 /\ (rows.length+rows2.length) * by_<=140737488355328) /\ K ({ st with tab:=bv st.tab st.next oid (.row e sz (rows ++ rows2)),next:=st.next+1 }.put dst (.osl st.next))
  | _,_=>match jx st.tab e sz x,lZ st.tab sz y with
   | some (oid,rows),some rows2=>(rows.length+rows2.length<=9223372036854775807 /\ (rows.length+rows2.length) * by_<=140737488355328) /\ K ({ st with tab:=bv st.tab st.next oid (.nest e sz (rows ++ rows2)),next:=st.next+1 }.put dst (.osl st.next))
   | _,_=>False
 | none=>False
def uA:AV -> AV -> Bool
 | .c (.slice none 0 0),.c (.slice none 0 0)=>true
 | _,_=>false
theorem nD {x y:AV} (h:uA x y=true):x=.c (.slice none 0 0) /\ y=.c (.slice none 0 0):=by
 unfold uA at h;split at h
 .exact ⟨rfl,rfl⟩
 .cases h
def fj (P:Program) (t:TypeId) (st:ai) (x y:AV) (dst:Option Nat) (K:ai -> Prop):Prop:=
 match uA x y with
 | true=>(cl P t).isSome=true /\ K (st.put dst (.c (.slice none 0 0)))
 | false=>gC P t st x y dst K
section
variable {P:Program} {t:TypeId} {st:ai} {y:AV} {dst:Option Nat} {K:ai -> Prop} {id sz:Nat} {rows:List (List AV)}
theorem yL:fj P t st (.osl id) y dst K=gC P t st (.osl id) y dst K:=rfl
theorem t7:fj P t st (.c (.slice none 0 0)) (.osl id) dst K=gC P t st (.c (.slice none 0 0)) (.osl id) dst K:=rfl
theorem vB:fj P t st (.c (.slice none 0 0)) (.c (.slice none 0 0)) dst K=((cl P t).isSome=true /\ K (st.put dst (.c (.slice none 0 0)))):=rfl
end
theorem iq {P:Program} {t ty:TypeId} {w:World} (h:(cl P t).isSome=true):(Builtin.append_ #[t,t] ty #[.slice none 0 0,.slice none 0 0]).run P w=.ok (.slice none 0 0) w:=by
 obtain ⟨⟨e,sz,by_⟩,ht⟩:=J3.1 h;obtain ⟨i,z,hund,hi,hz,hs,hb,hzs,h0⟩:=dB ht;exact eV 0 hund hi (gA w 0 e i.size)
def fl (P:Program) (t:TypeId) (n:Nat) (parts:List (Nat × Operand)) (dst:Option Nat) (K:ai -> Prop) (st:ai):Prop:=
 match cl P t with
 | some (e,sz,_)=>match fu (parts.flatMap fun (p:Nat × Operand)=>aj (aU st p.2)) with
  | []=>(parts.map (·.1)=List.range' 0 parts.length /\ n=parts.length /\ parts.length * sz<=16777216 /\ sO st.tab sz (parts.map fun p=>aU st p.2)) /\
   K ({ st with tab:=(st.next,some (.row e sz (parts.map fun (p:Nat × Operand)=>aj (aU st p.2)))) :: st.tab,next:=st.next+1 }.put dst (.osl st.next))
  | _ :: _=>(parts.map (·.1)=List.range' 0 parts.length /\ n=parts.length /\ parts.length * sz<=16777216 /\ lY st.tab sz (parts.map fun p=>aU st p.2)) /\
   K ({ st with tab:=(st.next,some (.nest e sz (parts.map fun (p:Nat × Operand)=>aj (aU st p.2)))) :: st.tab,next:=st.next+1 }.put dst (.osl st.next))
 | none=>False
def cW (P:Program) (t:TypeId) (n:Nat) (parts:List (Nat × Operand)) (st:ai) (dst:Option Nat) (K:ai -> Prop):Prop:=
 fl P t n parts dst K (dt st (fu (parts.flatMap fun (p:Nat × Operand)=>aj (aU st p.2))))
def mJ (P:Program) (t:TypeId) (st:ai) (l c:AV) (dst:Option Nat) (K:ai -> Prop):Prop:=
 match cl P t,l,c with
 | some (e,sz,by_),.c (.int _ n),.c (.int _ m)=>match bu P e with
  | some z=>(m=n /\ cH [] (aj (.c z)) /\ 0<=n /\ n<=16777216 /\ (by_:Int) * n<=281474976710656) /\ K ({ st with tab:=(st.next,some (Hz (ud t) e sz (List.replicate n.toNat (aj (.c z))))) :: st.tab,next:=st.next+1 }.put dst (.osl st.next))
  | none=>False
 | _,_,_=>False
def iI (P:Program) (t:TypeId) (st:ai) (parts:List (Nat × Operand)) (dst:Option Nat) (K:ai -> Prop):Prop:=
 match de P t with
 | some (places,zs)=>match oj places (zs.map .c) (parts.map fun p=>(p.1,aU st p.2)) with
  | some cs=>gj st.tab (parts.map fun p=>(p.1,aU st p.2)) /\ K (st.put dst (.agg cs))
  | none=>False
 | none=>False
def BX (h:Int) (b:Bool):Option AV -> Prop
 | none=>True
 | some (.c (.int _ m))=>m=h /\ b=true
 | _=>False
def mD (P:Program) (t:TypeId) (st:ai) (id e sz:Nat) (rows:List (List AV)) (b:Bool) (mx:Option AV) (dst:Option Nat) (K:ai -> Prop):Option Int -> Option Int -> Prop
 | some l,some h=>((a6 P t).2=sz /\ 0<sz) /\ (l=0 /\ 0<=h /\ h<=(rows.length:Int) /\ BX h b mx) /\ K ({ st with tab:=bv st.tab st.next (some id) (.row e sz (rows.take h.toNat)),next:=st.next+1 }.put dst (.osl st.next))
 | _,_=>False
def j9 (P:Program) (t:TypeId) (st:ai) (x:AV) (lo hi mx:Option AV) (dst:Option Nat) (K:ai -> Prop):Prop:=
 match x with
 | .osl id=>match st.tab.get id with
  | some (.row e sz rows)=>mD P t st id e sz rows hi.isSome mx dst K (yP 0 lo) (yP rows.length hi)
  | _=>False
 | x=>jK P t x lo hi mx fun av=>K (st.put dst av)
def za (f:AV) (K:FuncId -> List AV -> Prop):Prop:=
 match f with
 | .c (.func (.func g) first caps)=>(first = #[] /\ caps = #[]) /\ K g []
 | .fn g cs=>K g cs
 | _=>False
def ug (f:AV) (KB K:FuncId -> List AV -> Prop):Prop:=
 match f with
 | .bfn g bs=>KB g bs
 | f=>za f K
def aK (st:ai) (dst:Option Nat) (K:ai -> Prop) (av:AV):Prop:=K (st.put dst av)
def tJ (dst:Option Nat) (K:ai -> Prop) (av:AV) (st:ai):Prop:=K (st.put dst av)
def Dw (dst:Option Nat) (K:ai -> Prop) (st:ai):Prop:=K (st.put dst .any)
def io (dst:Option Nat) (K:ai -> Prop) (st:ai):Prop:=K (st.put dst (.c undef))
def rf (P:Program) (st:ai) (args:List Operand) (dst:Option Nat) (K:ai -> Prop) (g:FuncId) (cs:List AV):Prop:=dr none P st g (args.map (aU st) ++ cs) (tJ dst K)
def tM (P:Program) (st:ai) (args:List Operand) (dst:Option Nat) (K:ai -> Prop) (g:FuncId) (bs:List AV):Prop:=dr none P st g (bs ++ args.map (aU st)) (tJ dst K)
def uU (P:Program) (nx0:Nat) (ids:List Nat) (st:ai) (args:List Operand) (dst:Option Nat) (K:ai -> Prop) (g:FuncId) (cs:List AV):Prop:=dr (some (nx0,ids)) P st g (args.map (aU st) ++ cs) (tJ dst K)
def tX (P:Program) (st:ai) (args:List Operand) (dst:Option Nat) (K:ai -> Prop) (g:FuncId) (cs:List AV):Prop:=∃ v,ap P g ((args.map (aU st) ++ cs).map (dk st.tab)) ⟨.c v,[],0⟩ /\ K (st.put dst (.c v))
def jl (P:Program) (o:Oper) (K:ai -> Prop) (st:ai):Prop:=
 match o.op with
 | .box t x=>rF t st (aU st x) o.dst K
 | .alloc t=>match bu P t with
  | some z=>rF t st (.c z) o.dst K
  | none=>False
 | .store t p x=>ot P t st (aU st p) (aU st x) (Dw o.dst K)
 | .buildSlice t n parts=>cW P t n parts.toList st o.dst K
 | .makeSlice t l c=>mJ P t st (aU st l) (aU st c) o.dst K
 | .build t parts=>iI P t st parts.toList o.dst K
 | .slice t x lo hi mx=>j9 P t st (aU st x) (lo.map (aU st)) (hi.map (aU st)) (mx.map (aU st)) o.dst K
 | .makeMap _ r=>rB st r.isNone o.dst K
 | .lookup t m k ok=>gN P t st.tab (aU st m) (aU st k) ok (aK st o.dst K)
 | .mapUpdate t m k v=>fQ P t st (aU st m) (aU st k) (aU st v) (Dw o.dst K)
 | .call c=>match c.callee with
  | .builtin .append=>match c.args.toList,c.argTypes.toList with
   | [x,y],[t,t']=>t=t' /\ fj P t st (aU st x) (aU st y) o.dst K
   | _,_=>False
  | .builtin .clear=>vW P st c.args.toList c.argTypes.toList o.dst K
  | .builtin .len=>Cn P st.tab (aU st) c.args.toList c.argTypes.toList (aK st o.dst K) \/ bM P st.tab (aU st) (.call c) (aK st o.dst K)
  | .value f=>ug (aU st f) (tM P st c.args.toList o.dst K) (rf P st c.args.toList o.dst K)
  | _=>bM P st.tab (aU st) (.call c) (aK st o.dst K)
 | op=>bM P st.tab (aU st) op (aK st o.dst K)
def yv:Value -> Option Bool
 | .bool b=>some b
 | _=>none
def Cr (b want:Bool) (d:Nat) (yes no:ai -> Prop) (st:ai):Prop:=
 match b,want with
 | true,true=>yes (st.put (some d) (.c (.bool true)))
 | false,false=>yes (st.put (some d) (.c (.bool false)))
 | true,false=>no (st.put (some d) (.c (.bool true)))
 | false,true=>no (st.put (some d) (.c (.bool false)))
section
variable {b want:Bool} {d:Nat} {yes no:ai -> Prop} {st:ai}
theorem GM:Cr true true d yes no st=yes (st.put (some d) (.c (.bool true))):=rfl
theorem Gr:Cr false false d yes no st=yes (st.put (some d) (.c (.bool false))):=rfl
theorem FM:Cr true false d yes no st=no (st.put (some d) (.c (.bool true))):=rfl
theorem Eo:Cr false true d yes no st=no (st.put (some d) (.c (.bool false))):=rfl
theorem po (h1:b=true -> Cr true want d yes no st) (h2:b=false -> Cr false want d yes no st):Cr b want d yes no st:=by
 cases b
 .exact h2 rfl
 .exact h1 rfl
end
def iL (ops:Array Oper) (g:Option (Nat × Bool)) (yes no:ai -> Prop) (st:ai):Prop:=
 match g with
 | none=>yes st
 | some (j,want)=>match (ops[j]?).bind (·.dst) with
  | some d=>match st.get d with
   | .c v=>match yv v with
    | some b=>Cr b want d yes no st
    | none=>no st
   | _=>False
  | none=>False
def kl (P:Program) (ops:Array Oper) (K:ai -> Prop):List Oper -> ai -> Prop
 | [],st=>K st
 | o :: rest,st=>iL ops o.guard (jl P o (kl P ops K rest)) (io o.dst (kl P ops K rest)) st
def jS (P:Program) (o:Oper) (K:ai -> Prop) (st:ai):Prop:=
 match o.op with
 | .call c=>match c.callee with
  | .value f=>za (aU st f) (tX P st c.args.toList o.dst K)
  | _=>bM P st.tab (aU st) (.call c) (aK st o.dst K)
 | .build t parts=>iI P t st parts.toList o.dst K
 | op=>bM P st.tab (aU st) op (aK st o.dst K)
def gD (P:Program) (ops:Array Oper) (K:ai -> Prop):List Oper -> ai -> Prop
 | [],st=>K st
 | o :: rest,st=>iL ops o.guard (jS P o (gD P ops K rest)) (io o.dst (gD P ops K rest)) st
def jy (P:Program) (ops:Array Oper) (K:ai -> Prop):List Oper -> ai -> Prop
 | [],st=>K st
 | o :: rest,st=>iL ops o.guard (aPop P o (jy P ops K rest)) (io o.dst (jy P ops K rest)) st
where aPop (P:Program) (o:Oper) (K:ai -> Prop) (st:ai):Prop:=bM P st.tab (aU st) o.op (aK st o.dst K)
inductive jr where
 | done
 | take (i:Nat) (s:jr)
 | exec (i:Nat) (s:jr)
 | two (i:Nat) (s:jr) (j:Nat) (t:jr)
 | three (i:Nat) (s:jr) (j:Nat) (t:jr) (k:Nat) (u:jr)
 | four (i:Nat) (s:jr) (j:Nat) (t:jr) (k:Nat) (u:jr) (l:Nat) (v:jr)
def jr.len:jr -> Nat
 | .done=>0
 | .take _ s=>s.len+1
 | .exec _ s=>s.len+1
 | .two _ s _ t=>Nat.max s.len t.len+1
 | .three _ s _ t _ u=>Nat.max s.len (Nat.max t.len u.len)+1
 | .four _ s _ t _ u _ v=>Nat.max s.len (Nat.max t.len (Nat.max u.len v.len))+1
def cq (ops:Array Oper):jr -> Array Bool -> Bool
 | .take i s,listed=>Region.free .any ops listed i && (Region.ready .any ops listed).contains i && cq ops s (listed.setIfInBounds i true)
 | .exec i s,listed=>decide (Region.ready .any ops listed=[i]) && cq ops s (listed.setIfInBounds i true)
 | .two i s j t,listed=>decide (Region.ready .any ops listed=[i,j]) && cq ops s (listed.setIfInBounds i true) && cq ops t (listed.setIfInBounds j true)
 | .three i s j t k u,listed=>decide (Region.ready .any ops listed=[i,j,k]) && cq ops s (listed.setIfInBounds i true) && cq ops t (listed.setIfInBounds j true) && cq ops u (listed.setIfInBounds k true)
 | .four i s j t k u l v,listed=>decide (Region.ready .any ops listed=[i,j,k,l]) && cq ops s (listed.setIfInBounds i true) && cq ops t (listed.setIfInBounds j true) && cq ops u (listed.setIfInBounds k true) && cq ops v (listed.setIfInBounds l true)
 | .done,listed=>(Region.ready .any ops listed).isEmpty
def lw (ops:Array Oper):List Nat -> jr -> Array Bool -> Bool
 | i :: h,s,listed=>Region.free .any ops listed i && (Region.ready .any ops listed).contains i && lw ops h s (listed.setIfInBounds i true)
 | [],s,listed=>cq ops s listed
def p9 (nx0:Nat) (ids:List Nat):AV -> Prop
 | .osl id=>kB nx0 ids id
 | _=>True
def fv (P:Program) (nx0:Nat) (ids:List Nat) (o:Oper) (K:ai -> Prop) (st:ai):Prop:=
 match o.op with
 | .assign x=>K (st.put o.dst (aU st x))
 | .load _ _=>bM P st.tab (aU st) o.op (aK st o.dst K)
 | .lookup t m k ok=>gN P t st.tab (aU st m) (aU st k) ok (aK st o.dst K)
 | .mapUpdate t m k v=>match aU st m with
  | .osl id=>kB nx0 ids id /\ fQ P t st (.osl id) (aU st k) (aU st v) (Dw o.dst K)
  | _=>False
 | .store t p x=>match aU st p with
  | .op id i j=>kB nx0 ids id /\ kY P t st id i j (aU st x) (Dw o.dst K)
  | _=>False
 | .alloc t=>match bu P t with
  | some z=>rF t st (.c z) o.dst K
  | none=>False
 | .box t x=>rF t st (aU st x) o.dst K
 | .buildSlice t n parts=>cW P t n parts.toList st o.dst K
 | .makeSlice t l c=>mJ P t st (aU st l) (aU st c) o.dst K
 | .call c=>match c.callee with
  | .builtin .append=>match c.args.toList,c.argTypes.toList with
   | [x,y],[t,t']=>(t=t' /\ p9 nx0 ids (aU st x)) /\ fj P t st (aU st x) (aU st y) o.dst K
   | _,_=>False
  | .value f=>za (aU st f) (uU P nx0 ids st c.args.toList o.dst K)
  | _=>False
 | _=>False
def rL (ids:List Nat):AV -> Prop
 | .op id _ _=>id ∉ ids
 | .rp _=>True
 | _=>False
def n4 (ids:List Nat) (st:ai):Op -> Prop
 | .load _ x=>rL ids (aU st x)
 | _=>True
def cL (P:Program) (dst:Option Nat) (op:Op) (K:ai -> Prop) (st:ai):Prop:=
 match op with
 | .build t parts=>iI P t st parts.toList dst K
 | op=>bM P st.tab (aU st) op (aK st dst K)
def EB (P:Program) (ids:List Nat) (o:Oper) (K:ai -> Prop) (st:ai):Prop:=n4 ids st o.op /\ cL P o.dst o.op K st
def qx (nx0:Nat) (ids:List Nat) (tab:ag):AV -> Prop
 | .op id _ _=>id<nx0 /\ id ∉ ids /\ match tab.get id with
  | some _=>True
  | none=>False
 | _=>False
def k9 (nx0:Nat) (ids:List Nat) (st:ai):Op -> Prop
 | .load _ x=>qx nx0 ids st.tab (aU st x)
 | _=>True
def vh (P:Program) (nx0:Nat) (ids:List Nat) (o:Oper) (K:ai -> Prop) (st:ai):Prop:=k9 nx0 ids st o.op /\ cL P o.dst o.op K st
def nq (P:Program) (ops:Array Oper) (nx0:Nat) (ids:List Nat) (o:Option Oper) (K:ai -> Prop) (st:ai):Prop:=
 match o with
 | some o=>iL ops o.guard (vh P nx0 ids o K) (io o.dst K) st
 | none=>False
def p7 (P:Program) (ops:Array Oper) (ids:List Nat) (o:Option Oper) (K:ai -> Prop) (st:ai):Prop:=
 match o with
 | some o=>iL ops o.guard (EB P ids o K) (io o.dst K) st
 | none=>False
def b6 (P:Program) (ops:Array Oper) (nx0:Nat) (ids:List Nat) (o:Option Oper) (K:ai -> Prop) (st:ai):Prop:=
 match o with
 | some o=>iL ops o.guard (fv P nx0 ids o K) (io o.dst K) st
 | none=>False
def bQ (P:Program) (ops:Array Oper) (nx0:Nat) (ids:List Nat) (K:ai -> Prop):jr -> ai -> Prop
 | .done,st=>K st
 | .take i s,st=>nq P ops nx0 ids ops[i]? (bQ P ops nx0 ids K s) st
 | .exec i s,st=>b6 P ops nx0 ids ops[i]? (bQ P ops nx0 ids K s) st
 | .two i s j t,st=>b6 P ops nx0 ids ops[i]? (bQ P ops nx0 ids K s) st /\ b6 P ops nx0 ids ops[j]? (bQ P ops nx0 ids K t) st
 | .three i s j t k u,st=>b6 P ops nx0 ids ops[i]? (bQ P ops nx0 ids K s) st /\ b6 P ops nx0 ids ops[j]? (bQ P ops nx0 ids K t) st /\ b6 P ops nx0 ids ops[k]? (bQ P ops nx0 ids K u) st
 | .four i s j t k u l v,st=>b6 P ops nx0 ids ops[i]? (bQ P ops nx0 ids K s) st /\ b6 P ops nx0 ids ops[j]? (bQ P ops nx0 ids K t) st /\ b6 P ops nx0 ids ops[k]? (bQ P ops nx0 ids K u) st /\ b6 P ops nx0 ids ops[l]? (bQ P ops nx0 ids K v) st
def fW (P:Program) (ops:Array Oper) (ids:List Nat) (K:ai -> Prop):List Nat -> ai -> Prop
 | [],st=>K st
 | i :: s,st=>p7 P ops ids ops[i]? (fW P ops ids K s) st
def dw (st st':ai):Prop:=∀ cx a w L,aH cx a w st L -> ∃ L',aH cx a w st' L' /\ ∀ b,Sx cx w st.tab L b -> Sx cx w st'.tab L' b
theorem dw.reflH (st:ai):dw st st:=fun _ _ _ L h=>⟨L,h,fun _ hb=>hb⟩
inductive py (P:Program) (ops:Array Oper) (K:ai -> Prop) (st:ai):Prop
 | quiet (hB:Region.lexB .any ops=true) (h:gD P ops K ops.toList st)
 | tail (n:Nat) (hB:Region.lexTailB .any ops n=true) (h:jy P ops (kl P ops K (ops.toList.drop n)) (ops.toList.take n) st)
 | held (ids:List Nat) (hd:List Nat) (s:jr) (hB:(Region.noSelect ops && lw ops hd s (Array.replicate ops.size false) && Nat.ble (hd.length+s.len) ops.size)=true) (K':ai -> Prop) (hK:∀ st,K' st -> ∃ st',dw st st' /\ K st') (h:(∀ id ∈ ids,(st.tab.get id).isSome=true) /\ fW P ops ids (bQ P ops st.next ids K' s) hd st)
theorem ao {P:Program} {l:List Oper} {K:ai -> Prop} {st:ai} (hB:Region.lexB .any l.toArray=true) (h:gD P l.toArray K l st):py P l.toArray K st:=.quiet hB h
theorem u1 {P:Program} {l:List Oper} {K:ai -> Prop} {st:ai} (n:Nat) (hB:Region.lexTailB .any l.toArray n=true) (h:jy P l.toArray (kl P l.toArray K (l.drop n)) (l.take n) st):py P l.toArray K st:=.tail n hB h
theorem bk {P:Program} {l:List Oper} {K:ai -> Prop} {st:ai} (ids:List Nat) (hd:List Nat) (s:jr) (hB:(Region.noSelect l.toArray && lw l.toArray hd s (Array.replicate l.toArray.size false) && Nat.ble (hd.length+s.len) l.toArray.size)=true) (hids:∀ id ∈ ids,(st.tab.get id).isSome=true) (h:fW P l.toArray ids (bQ P l.toArray st.next ids K s) hd st):py P l.toArray K st:=.held ids hd s hB K (fun st h1=>⟨st,.reflH st,h1⟩) ⟨hids,h⟩
def IB (I:ai -> Prop) (st:ai):Prop:=∃ st',dw st st' /\ I st'
theorem uk {P:Program} {l:List Oper} {K:ai -> Prop} {st:ai} (J:ai -> Prop) (ids:List Nat) (hd:List Nat) (s:jr) (hB:(Region.noSelect l.toArray && lw l.toArray hd s (Array.replicate l.toArray.size false) && Nat.ble (hd.length+s.len) l.toArray.size)=true) (hids:∀ id ∈ ids,(st.tab.get id).isSome=true) (h:fW P l.toArray ids (bQ P l.toArray st.next ids (IB J) s) hd st) (hJ:∀ st,J st -> K st):py P l.toArray K st:=
 .held ids hd s hB (IB J) (fun st ⟨st',hw,h1⟩=>⟨st',hw,hJ st' h1⟩) ⟨hids,h⟩
def jz (next:ai -> Prop) (Q:Exit -> ai -> Prop):Exit -> ai -> Prop
 | .normal,st=>next st
 | e,st=>Q e st
def gh (id:Nat) (Q:Exit -> ai -> Prop):Exit -> ai -> Prop
 | .exit id',st=>if id'=id then Q .normal st else Q (.exit id') st
 | e,st=>Q e st
def ES (t:Bool) (x y:ai -> Prop) (st:ai):Prop:=match t with | true=>x st | false=>y st
theorem Ce {x y:ai -> Prop} {st:ai}:ES true x y st=x st:=rfl
theorem x3 {x y:ai -> Prop} {st:ai}:ES false x y st=y st:=rfl
theorem lc {t:Bool} {x y:ai -> Prop} {st:ai} (h1:t=true -> ES true x y st) (h2:t=false -> ES false x y st):ES t x y st:=by
 cases t
 .exact h2 rfl
 .exact h1 rfl
def wg (c:AV) (x y:ai -> Prop) (st:ai):Prop:=
 match c with
 | .c (.bool b)=>ES b x y st
 | _=>False
def nb (I:ai -> Prop) (μ:ai -> Nat) (n:Nat) (st:ai):Prop:=∃ st',dw st st' /\ I st' /\ μ st'<n
def DQ (P:Program) (ops:Array Oper) (draw:Bool) (K:ai -> Prop) (st:ai):Prop:=if draw=true then py P ops K st else kl P ops K ops.toList st
def qt (Q:Exit -> ai -> Prop):Exit -> ai -> Prop
 | .goto _,_=>False
 | e,st=>Q e st
def bB (P:Program):Code -> (Exit -> ai -> Prop) -> ai -> Prop
 | .skip,Q,st=>Q .normal st
 | .region _ ops draw,Q,st=>DQ P ops draw (Q .normal) st
 | .seq x y,Q,st=>bB P x (jz (bB P y Q) Q) st
 | .cond c x y,Q,st=>wg (aU st c) (bB P x Q) (bB P y Q) st
 | .block id x,Q,st=>bB P x (gh id Q) st
 | .loop x,Q,st=>∃ (I:ai -> Prop) (μ:ai -> Nat),(∃ st',dw st st' /\ I st') /\ ∀ st,I st -> bB P x (jz (nb I μ (μ st)) Q) st
 | .exit id,Q,st=>Q (.exit id) st
 | .ret,Q,st=>Q .ret st
 | .rangeFunc g ps assign body,Q,st=>∀ (cx:Cx) (a:Act) (w:World) (L:Nat -> Value),aH cx a w st L -> (Code.rangeFunc g ps assign body).wp P (fun e a w=>∃ st L,Q e st /\ aH cx a w st L) a w
 | .label _,Q,st=>Q .normal st
 | .scope x,Q,st=>bB P x (qt Q) st
 | _,_,_=>False
def wk (P:Program) (x:Code) (Q:Exit -> ai -> Prop) (st:ai):Prop:=bB P (.loop x) Q st
theorem af {P:Program} {x:Code} {Q:Exit -> ai -> Prop} {st:ai} (I:ai -> Prop) (μ:ai -> Nat) (h0:∃ st',dw st st' /\ I st') (h:∀ st,I st -> bB P x (jz (nb I μ (μ st)) Q) st):wk P x Q st:=⟨I,μ,h0,h⟩
section
variable {P:Program} {Q:Exit -> ai -> Prop} {st:ai}
theorem t8:bB P .skip Q st=Q .normal st:=rfl
theorem vl {id:Nat} {l:List Oper}:bB P (.region id l.toArray false) Q st=kl P l.toArray (Q .normal) l st:=by simp [bB,DQ]
theorem vf {id:Nat} {l:List Oper}:bB P (.region id l.toArray true) Q st=py P l.toArray (Q .normal) st:=by simp [bB,DQ]
theorem xZ {x y:Code}:bB P (.seq x y) Q st=bB P x (jz (bB P y Q) Q) st:=rfl
theorem uV {c:Operand} {x y:Code}:bB P (.cond c x y) Q st=wg (aU st c) (bB P x Q) (bB P y Q) st:=rfl
theorem rV {id:Nat} {x:Code}:bB P (.block id x) Q st=bB P x (gh id Q) st:=rfl
theorem uY {x:Code}:bB P (.loop x) Q st=wk P x Q st:=rfl
theorem tZ {id:Nat}:bB P (.exit id) Q st=Q (.exit id) st:=rfl
theorem yl:bB P .ret Q st=Q .ret st:=rfl
theorem sm {l:Nat}:bB P (.label l) Q st=Q .normal st:=rfl
theorem tG {x:Code}:bB P (.scope x) Q st=bB P x (qt Q) st:=rfl
theorem sr:qt Q .ret st=Q .ret st:=rfl
theorem qg {next:ai -> Prop}:jz next Q .normal st=next st:=rfl
theorem tP {next:ai -> Prop} {id:Nat}:jz next Q (.exit id) st=Q (.exit id) st:=rfl
theorem yy {next:ai -> Prop}:jz next Q .ret st=Q .ret st:=rfl
theorem ml {id:Nat}:gh id Q .normal st=Q .normal st:=rfl
theorem qW {id:Nat}:gh id Q .ret st=Q .ret st:=rfl
theorem oM {id id':Nat}:gh id Q (.exit id') st=if id'=id then Q .normal st else Q (.exit id') st:=rfl
theorem uP {b:Bool} {x y:ai -> Prop}:wg (.c (.bool b)) x y st=ES b x y st:=rfl
theorem zi {dst:Option Nat} {K:ai -> Prop}:io dst K st=K (st.put dst (.c undef)):=rfl
theorem Hc {dst:Option Nat} {K:ai -> Prop}:Dw dst K st=K (st.put dst .any):=rfl
theorem H8 {dst:Option Nat} {K:ai -> Prop} {av:AV}:aK st dst K av=K (st.put dst av):=rfl
theorem Fp {dst:Option Nat} {K:ai -> Prop} {av:AV}:tJ dst K av st=K (st.put dst av):=rfl
theorem Fj {g:FuncId} {K:FuncId -> List AV -> Prop}:za (.c (.func (.func g) #[] #[])) K=K g []:=by simp [za]
theorem C6 {g:FuncId} {KB K:FuncId -> List AV -> Prop}:ug (.c (.func (.func g) #[] #[])) KB K=K g []:=by simp [ug,za]
theorem B1 {g:FuncId} {cs:List AV} {KB K:FuncId -> List AV -> Prop}:ug (.fn g cs) KB K=K g cs:=rfl
theorem Dh {g:FuncId} {cs:List AV} {K:FuncId -> List AV -> Prop}:za (.fn g cs) K=K g cs:=rfl
theorem w6 {args:List Operand} {dst:Option Nat} {K:ai -> Prop} {g:FuncId} {cs:List AV}:rf P st args dst K g cs=dr none P st g (args.map (aU st) ++ cs) (tJ dst K):=rfl
theorem yA {nx0:Nat} {ids:List Nat} {args:List Operand} {dst:Option Nat} {K:ai -> Prop} {g:FuncId} {cs:List AV}:uU P nx0 ids st args dst K g cs=dr (some (nx0,ids)) P st g (args.map (aU st) ++ cs) (tJ dst K):=rfl
theorem xk {args:List Operand} {dst:Option Nat} {K:ai -> Prop} {g:FuncId} {cs:List AV}:tX P st args dst K g cs = ∃ v,ap P g ((args.map (aU st) ++ cs).map (dk st.tab)) ⟨.c v,[],0⟩ /\ K (st.put dst (.c v)):=rfl
section
variable {ops:Array Oper} {K:ai -> Prop} {dst:Option Tmp} {op:Op} {ty:TypeId} {pos:String} {aft:Array Edge} {gd:Option (Nat × Bool)} {rest:List Oper} {j:Nat} {want:Bool}
theorem Ah:kl P ops K [] st=K st:=rfl
theorem uH:kl P ops K (⟨dst,op,ty,pos,aft,none⟩ :: rest) st=jl P ⟨dst,op,ty,pos,aft,none⟩ (kl P ops K rest) st:=rfl
def mz (v:AV) (want:Bool) (d:Nat) (yes no:ai -> Prop) (st:ai):Prop:=
 match v with
 | .c v=>match yv v with
  | some b=>Cr b want d yes no st
  | none=>no st
 | _=>False
def k4 (d:Option Nat) (want:Bool) (yes no:ai -> Prop) (st:ai):Prop:=match d with | some d=>mz (st.get d) want d yes no st | none=>False
theorem vm {d:Nat} {yes no:ai -> Prop}:k4 (some d) want yes no st=mz (st.get d) want d yes no st:=rfl
theorem qw {b:Bool} {d:Nat} {yes no:ai -> Prop}:mz (.c (.bool b)) want d yes no st=Cr b want d yes no st:=rfl
theorem oK {d:Nat} {yes no:ai -> Prop}:mz (.c undef) want d yes no st=no st:=rfl
theorem ui:kl P ops K (⟨dst,op,ty,pos,aft,some (j,want)⟩ :: rest) st=k4 ((ops[j]?).bind (·.dst)) want (jl P ⟨dst,op,ty,pos,aft,some (j,want)⟩ (kl P ops K rest)) (io dst (kl P ops K rest)) st:=rfl
theorem xa:jy P ops K [] st=K st:=rfl
theorem rH:jy P ops K (⟨dst,op,ty,pos,aft,none⟩ :: rest) st=bM P st.tab (aU st) op (aK st dst (jy P ops K rest)):=rfl
theorem uc {ids:List Nat}:fW P ops ids K [] st=K st:=rfl
theorem sa {ids:List Nat} {i:Nat} {s:List Nat}:fW P ops ids K (i :: s) st=p7 P ops ids ops[i]? (fW P ops ids K s) st:=rfl
theorem xK {nx0:Nat} {ids:List Nat}:bQ P ops nx0 ids K .done st=K st:=rfl
theorem vy {nx0 i:Nat} {ids:List Nat} {s:jr}:bQ P ops nx0 ids K (.take i s) st=nq P ops nx0 ids ops[i]? (bQ P ops nx0 ids K s) st:=rfl
theorem tY {nx0 i:Nat} {ids:List Nat} {s:jr}:bQ P ops nx0 ids K (.exec i s) st=b6 P ops nx0 ids ops[i]? (bQ P ops nx0 ids K s) st:=rfl
theorem xT {nx0 i j:Nat} {ids:List Nat} {s t:jr}:bQ P ops nx0 ids K (.two i s j t) st=(b6 P ops nx0 ids ops[i]? (bQ P ops nx0 ids K s) st /\ b6 P ops nx0 ids ops[j]? (bQ P ops nx0 ids K t) st):=rfl
theorem tf {nx0 i j k:Nat} {ids:List Nat} {s t u:jr}:bQ P ops nx0 ids K (.three i s j t k u) st=(b6 P ops nx0 ids ops[i]? (bQ P ops nx0 ids K s) st /\ b6 P ops nx0 ids ops[j]? (bQ P ops nx0 ids K t) st /\ b6 P ops nx0 ids ops[k]? (bQ P ops nx0 ids K u) st):=rfl
theorem rb {ids:List Nat}:p7 P ops ids (some ⟨dst,op,ty,pos,aft,none⟩) K st=(n4 ids st op /\ cL P dst op K st):=rfl
theorem qQ {nx0:Nat} {ids:List Nat}:nq P ops nx0 ids (some ⟨dst,op,ty,pos,aft,none⟩) K st=(k9 nx0 ids st op /\ cL P dst op K st):=rfl
theorem qi {nx0:Nat} {ids:List Nat}:nq P ops nx0 ids (some ⟨dst,op,ty,pos,aft,some (j,want)⟩) K st=k4 ((ops[j]?).bind (·.dst)) want (vh P nx0 ids ⟨dst,op,ty,pos,aft,some (j,want)⟩ K) (io dst K) st:=rfl
theorem qd {t:TypeId} {parts:List (Nat × Operand)}:cL P dst (.build t parts.toArray) K st=iI P t st parts dst K:=by simp [cL]
theorem sU {x:Operand}:cL P dst (.move x) K st=bM P st.tab (aU st) (.move x) (aK st dst K):=rfl
theorem tC {c x y:Operand}:cL P dst (.pick c x y) K st=bM P st.tab (aU st) (.pick c x y) (aK st dst K):=rfl
theorem sN {t:TypeId} {x:Operand}:cL P dst (.load t x) K st=bM P st.tab (aU st) (.load t x) (aK st dst K):=rfl
theorem p8 {s:TypeId} {x:Operand} {f:Nat}:cL P dst (.fieldAddr s x f) K st=bM P st.tab (aU st) (.fieldAddr s x f) (aK st dst K):=rfl
theorem pS {t:TypeId} {x y:Operand}:cL P dst (.indexAddr t x y) K st=bM P st.tab (aU st) (.indexAddr t x y) (aK st dst K):=rfl
theorem vA {o:BinOp} {t r:TypeId} {x y:Operand}:cL P dst (.binOp o t x y r) K st=bM P st.tab (aU st) (.binOp o t x y r) (aK st dst K):=rfl
theorem xO {o:UnOp} {t:TypeId} {x:Operand}:cL P dst (.unOp o t x) K st=bM P st.tab (aU st) (.unOp o t x) (aK st dst K):=rfl
theorem oy {x:Operand} {i:Nat}:cL P dst (.extract x i) K st=bM P st.tab (aU st) (.extract x i) (aK st dst K):=rfl
theorem rm {c:Call}:cL P dst (.call c) K st=bM P st.tab (aU st) (.call c) (aK st dst K):=rfl
theorem yJ {nx0:Nat} {ids:List Nat}:vh P nx0 ids ⟨dst,op,ty,pos,aft,gd⟩ K st=(k9 nx0 ids st op /\ cL P dst op K st):=rfl
theorem x6 {nx0:Nat} {ids:List Nat}:b6 P ops nx0 ids (some ⟨dst,op,ty,pos,aft,none⟩) K st=fv P nx0 ids ⟨dst,op,ty,pos,aft,none⟩ K st:=rfl
def yW (P:Program) (nx0:Nat) (ids:List Nat) (o:Oper) (K:ai -> Prop) (st:ai):Prop:=fv P nx0 ids o K st
theorem xU {nx0:Nat} {ids:List Nat} {o:Oper}:yW P nx0 ids o K st=fv P nx0 ids o K st:=rfl
theorem pV {nx0:Nat} {ids:List Nat}:b6 P ops nx0 ids (some ⟨dst,op,ty,pos,aft,some (j,want)⟩) K st=k4 ((ops[j]?).bind (·.dst)) want (yW P nx0 ids ⟨dst,op,ty,pos,aft,some (j,want)⟩ K) (io dst K) st:=rfl
theorem qT {nx0:Nat} {ids:List Nat} {x:Operand}:fv P nx0 ids ⟨dst,.assign x,ty,pos,aft,gd⟩ K st=K (st.put dst (aU st x)):=rfl
def tV (P:Program) (nx0:Nat) (ids:List Nat) (t:TypeId) (p x:AV) (dst:Option Nat) (K:ai -> Prop) (st:ai):Prop:=
 match p with
 | .op id i j=>kB nx0 ids id /\ kY P t st id i j x (Dw dst K)
 | _=>False
def B5 (P:Program) (nx0:Nat) (ids:List Nat) (t:TypeId) (m k v:AV) (dst:Option Nat) (K:ai -> Prop) (st:ai):Prop:=
 match m with
 | .osl id=>kB nx0 ids id /\ fQ P t st (.osl id) k v (Dw dst K)
 | _=>False
theorem sv {nx0:Nat} {ids:List Nat} {t:TypeId} {p x:Operand}:fv P nx0 ids ⟨dst,.store t p x,ty,pos,aft,gd⟩ K st=tV P nx0 ids t (aU st p) (aU st x) dst K st:=rfl
theorem tq {nx0:Nat} {ids:List Nat} {t:TypeId}:fv P nx0 ids ⟨dst,.alloc t,ty,pos,aft,gd⟩ K st=match bu P t with | some z=>rF t st (.c z) dst K | none=>False:=rfl
theorem qD {nx0:Nat} {ids:List Nat} {x y:Operand} {t t':TypeId}:fv P nx0 ids ⟨dst,.call ⟨.builtin .append,#[x,y],#[t,t']⟩,ty,pos,aft,gd⟩ K st=((t=t' /\ p9 nx0 ids (aU st x)) /\ fj P t st (aU st x) (aU st y) dst K):=rfl
theorem uO {nx0:Nat} {ids:List Nat} {f:Operand} {args:List Operand} {ts:Array TypeId}:fv P nx0 ids ⟨dst,.call ⟨.value f,args.toArray,ts⟩,ty,pos,aft,gd⟩ K st=za (aU st f) (uU P nx0 ids st args dst K):=by simp [fv]
theorem mp {nx0:Nat} {ids:List Nat} {t:TypeId} {l c:Operand}:fv P nx0 ids ⟨dst,.makeSlice t l c,ty,pos,aft,gd⟩ K st=mJ P t st (aU st l) (aU st c) dst K:=rfl
theorem lf {nx0:Nat} {ids:List Nat} {t:TypeId} {n:Nat} {parts:List (Nat × Operand)}:fv P nx0 ids ⟨dst,.buildSlice t n parts.toArray,ty,pos,aft,gd⟩ K st=cW P t n parts st dst K:=by simp [fv]
theorem uo {k:AV -> Prop} {tab:ag} {ev:Operand -> AV} {x:Operand}:bM P tab ev (.move x) k=k (ev x):=rfl
theorem uS {k:AV -> Prop} {tab:ag} {ev:Operand -> AV} {t:TypeId} {x:Operand}:bM P tab ev (.load t x) k=ig P t tab (ev x) k:=rfl
theorem rz {k:AV -> Prop} {tab:ag} {ev:Operand -> AV} {t:TypeId} {x:Operand} {f:Nat}:bM P tab ev (.fieldAddr t x f) k=jC P t tab (ev x) f k:=rfl
theorem sZ {k:AV -> Prop} {tab:ag} {ev:Operand -> AV} {t:TypeId} {x i:Operand}:bM P tab ev (.indexAddr t x i) k=fA P t tab (ev x) (ev i) k:=rfl
theorem xi {k:AV -> Prop} {tab:ag} {ev:Operand -> AV} {o:BinOp} {t t2:TypeId} {x y:Operand}:bM P tab ev (.binOp o t x y t2) k=qb P o t (ev x) (ev y) k:=rfl
theorem Al {k:AV -> Prop} {tab:ag} {ev:Operand -> AV} {o:UnOp} {t:TypeId} {x:Operand}:bM P tab ev (.unOp o t x) k=EE o (ev x) k:=rfl
theorem oO {k:AV -> Prop} {tab:ag} {ev:Operand -> AV} {x:Operand} {i:Nat}:bM P tab ev (.extract x i) k=gt (ev x) i k:=rfl
theorem xc {k:AV -> Prop} {tab:ag} {ev:Operand -> AV} {x:Operand} {t:TypeId}:bM P tab ev (.call ⟨.builtin .len,#[x],#[t]⟩) k=oh P t tab (ev x) k:=rfl
theorem xA:gD P ops K [] st=K st:=rfl
theorem tt:gD P ops K (⟨dst,op,ty,pos,aft,none⟩ :: rest) st=jS P ⟨dst,op,ty,pos,aft,none⟩ (gD P ops K rest) st:=rfl
theorem r3:gD P ops K (⟨dst,op,ty,pos,aft,some (j,want)⟩ :: rest) st=k4 ((ops[j]?).bind (·.dst)) want (jS P ⟨dst,op,ty,pos,aft,some (j,want)⟩ (gD P ops K rest)) (io dst (gD P ops K rest)) st:=rfl
def qV (c a b:AV) (dst:Option Nat) (K:ai -> Prop) (st:ai):Prop:=Bz c a b (aK st dst K)
def yi (t:Bool) (a b:AV) (dst:Option Nat) (K:ai -> Prop) (st:ai):Prop:=match t with | true=>K (st.put dst a) | false=>K (st.put dst b)
theorem xW {a b:AV}:yi true a b dst K st=K (st.put dst a):=rfl
theorem uq {a b:AV}:yi false a b dst K st=K (st.put dst b):=rfl
theorem uX {t:Bool} {a b:AV} (h1:t=true -> yi true a b dst K st) (h2:t=false -> yi false a b dst K st):yi t a b dst K st:=by
 cases t
 .exact h2 rfl
 .exact h1 rfl
theorem tB {t:Bool} {a b:AV}:qV (.c (.bool t)) a b dst K st=yi t a b dst K st:=by cases t<;>rfl
theorem uC {tab:ag} {ev:Operand -> AV} {dst:Option Nat} {x y z:Operand}:bM P tab ev (.pick x y z) (aK st dst K)=qV (ev x) (ev y) (ev z) dst K st:=rfl
theorem Aj {x:Operand}:jl P ⟨dst,.move x,ty,pos,aft,gd⟩ K st=K (st.put dst (aU st x)):=rfl
theorem uz {x:Operand}:jl P ⟨dst,.assign x,ty,pos,aft,gd⟩ K st=K (st.put dst (aU st x)):=rfl
theorem y9 {c x y:Operand}:jl P ⟨dst,.pick c x y,ty,pos,aft,gd⟩ K st=qV (aU st c) (aU st x) (aU st y) dst K st:=rfl
theorem Aq {t:TypeId} {x:Operand}:jl P ⟨dst,.load t x,ty,pos,aft,gd⟩ K st=ig P t st.tab (aU st x) (aK st dst K):=rfl
theorem xy {t:TypeId} {x:Operand} {f:Nat}:jl P ⟨dst,.fieldAddr t x f,ty,pos,aft,gd⟩ K st=jC P t st.tab (aU st x) f (aK st dst K):=rfl
theorem w4 {t:TypeId} {x i:Operand}:jl P ⟨dst,.indexAddr t x i,ty,pos,aft,gd⟩ K st=fA P t st.tab (aU st x) (aU st i) (aK st dst K):=rfl
theorem Dm {o:BinOp} {t t2:TypeId} {x y:Operand}:jl P ⟨dst,.binOp o t x y t2,ty,pos,aft,gd⟩ K st=qb P o t (aU st x) (aU st y) (aK st dst K):=rfl
theorem Ej {o:UnOp} {t:TypeId} {x:Operand}:jl P ⟨dst,.unOp o t x,ty,pos,aft,gd⟩ K st=EE o (aU st x) (aK st dst K):=rfl
theorem rk {x:Operand} {i:Nat}:jl P ⟨dst,.extract x i,ty,pos,aft,gd⟩ K st=gt (aU st x) i (aK st dst K):=rfl
theorem AI {s d:TypeId} {x:Operand}:jl P ⟨dst,.convert s d x,ty,pos,aft,gd⟩ K st=wz P s d (aU st x) (aK st dst K):=rfl
theorem D2 {x:Operand} {t:TypeId}:jl P ⟨dst,.call ⟨.builtin .len,#[x],#[t]⟩,ty,pos,aft,gd⟩ K st=(pL P t st.tab (aU st x) (aK st dst K) \/ oh P t st.tab (aU st x) (aK st dst K)):=rfl
theorem r7 {t:TypeId}:jl P ⟨dst,.makeMap t none,ty,pos,aft,gd⟩ K st=K ({ st with tab:=(st.next,some (.map [])) :: st.tab,next:=st.next+1 }.put dst (.osl st.next)):=by simp [jl,rB]
theorem u6 {t:TypeId} {m k:Operand} {ok:Bool}:jl P ⟨dst,.lookup t m k ok,ty,pos,aft,gd⟩ K st=gN P t st.tab (aU st m) (aU st k) ok (aK st dst K):=rfl
theorem oH {t:TypeId} {m k v:Operand}:jl P ⟨dst,.mapUpdate t m k v,ty,pos,aft,gd⟩ K st=fQ P t st (aU st m) (aU st k) (aU st v) (Dw dst K):=rfl
theorem tT {x y:Operand} {t t':TypeId}:jl P ⟨dst,.call ⟨.builtin .append,#[x,y],#[t,t']⟩,ty,pos,aft,gd⟩ K st=(t=t' /\ fj P t st (aU st x) (aU st y) dst K):=rfl
theorem qI {g:FuncId} {caps:List Operand}:jl P ⟨dst,.makeFunc (.func g) #[] caps.toArray,ty,pos,aft,gd⟩ K st=aK st dst K (.fn g (caps.map (aU st))):=by simp [jl,bM,Gf,zp]
theorem ze {f:Operand} {args:List Operand} {ts:Array TypeId}:jl P ⟨dst,.call ⟨.value f,args.toArray,ts⟩,ty,pos,aft,gd⟩ K st=ug (aU st f) (tM P st args dst K) (rf P st args dst K):=by simp [jl]
theorem C0 {t:TypeId} {x:Operand}:jl P ⟨dst,.box t x,ty,pos,aft,gd⟩ K st=rF t st (aU st x) dst K:=rfl
theorem yk {t:TypeId}:jl P ⟨dst,.alloc t,ty,pos,aft,gd⟩ K st=match bu P t with | some z=>rF t st (.c z) dst K | none=>False:=rfl
theorem xV {t:TypeId} {p x:Operand}:jl P ⟨dst,.store t p x,ty,pos,aft,gd⟩ K st=ot P t st (aU st p) (aU st x) (Dw dst K):=rfl
theorem mI {t:TypeId} {n:Nat} {parts:List (Nat × Operand)}:jl P ⟨dst,.buildSlice t n parts.toArray,ty,pos,aft,gd⟩ K st=cW P t n parts st dst K:=by simp [jl]
theorem oJ {t:TypeId} {l c:Operand}:jl P ⟨dst,.makeSlice t l c,ty,pos,aft,gd⟩ K st=mJ P t st (aU st l) (aU st c) dst K:=rfl
theorem yN {t:TypeId} {parts:List (Nat × Operand)}:jl P ⟨dst,.build t parts.toArray,ty,pos,aft,gd⟩ K st=iI P t st parts dst K:=by simp [jl]
theorem x8 {x:Operand}:jS P ⟨dst,.move x,ty,pos,aft,gd⟩ K st=K (st.put dst (aU st x)):=rfl
theorem r8 {x:Operand}:jS P ⟨dst,.assign x,ty,pos,aft,gd⟩ K st=K (st.put dst (aU st x)):=rfl
theorem yp {c x y:Operand}:jS P ⟨dst,.pick c x y,ty,pos,aft,gd⟩ K st=qV (aU st c) (aU st x) (aU st y) dst K st:=rfl
theorem xM {t:TypeId} {x:Operand}:jS P ⟨dst,.load t x,ty,pos,aft,gd⟩ K st=ig P t st.tab (aU st x) (aK st dst K):=rfl
theorem vo {t:TypeId} {x:Operand} {f:Nat}:jS P ⟨dst,.fieldAddr t x f,ty,pos,aft,gd⟩ K st=jC P t st.tab (aU st x) f (aK st dst K):=rfl
theorem ua {t:TypeId} {x i:Operand}:jS P ⟨dst,.indexAddr t x i,ty,pos,aft,gd⟩ K st=fA P t st.tab (aU st x) (aU st i) (aK st dst K):=rfl
theorem zr {o:BinOp} {t t2:TypeId} {x y:Operand}:jS P ⟨dst,.binOp o t x y t2,ty,pos,aft,gd⟩ K st=qb P o t (aU st x) (aU st y) (aK st dst K):=rfl
theorem DF {o:UnOp} {t:TypeId} {x:Operand}:jS P ⟨dst,.unOp o t x,ty,pos,aft,gd⟩ K st=EE o (aU st x) (aK st dst K):=rfl
theorem zM {x:Operand} {t:TypeId}:jS P ⟨dst,.call ⟨.builtin .len,#[x],#[t]⟩,ty,pos,aft,gd⟩ K st=oh P t st.tab (aU st x) (aK st dst K):=rfl
theorem xh {f:Operand} {args:List Operand} {ts:Array TypeId}:jS P ⟨dst,.call ⟨.value f,args.toArray,ts⟩,ty,pos,aft,gd⟩ K st=za (aU st f) (tX P st args dst K):=by simp [jS]
end
end
section
variable {P:Program} {cx:Cx} {a:Act} {w w':World} {tab:ag} {st:ai} {L:Nat -> Value} {nx:Nat}
abbrev Ae (cx:Cx) (K:ai -> Prop):Act -> World -> Prop:=fun a w=>∃ st L,K st /\ aH cx a w st L
theorem aZ {o:Oper} {v:Value} {w':World} {K:Act -> World -> Prop} {Q:Exit -> Act -> World -> Prop} (h:(execOp a.eval o).run P w=.ok (.value v) w') (hk:K (a.put o.dst v) w'):o.wp P a w K Q:=by
 unfold Oper.wp;rw [h];exact hk
theorem eL {o:Oper} {w':World} {K:Act -> World -> Prop} {Q:Exit -> Act -> World -> Prop} (h:(execOp a.eval o).run P w=.ok .skip w') (hk:K (a.put o.dst undef) w'):o.wp P a w K Q:=by
 unfold Oper.wp;rw [h];exact hk
theorem mr {o:Oper} {K:ai -> Prop} {Q:Exit -> Act -> World -> Prop} (h:aH cx a w st L) (hp:bM P st.tab (aU st) o.op (aK st o.dst K)):o.wp P a w (Ae cx K) Q:=by
 obtain ⟨v,av,h1,h2,h3,h4,_⟩:=iT h.lay (fun id o hid=>(h.young id o hid).2) (ar h) hp;exact aZ (h4 w (Below.refl _ _)) ⟨_,L,h1,bd h h2 h3 o.dst⟩
theorem qY {f:AV} {K:FuncId -> List AV -> Prop} {v:Value} (hv:bn cx w tab L v f) (hl:f.lt nx) (h:za f K):∃ g xs cs,v=.func (.func g) #[] xs /\ xs.size=cs.length /\ (∀ (j:Nat) (x:Value) (av:AV),xs[j]? = some x -> cs[j]? = some av -> bn cx w tab L x av) /\ K g cs /\ ∀ av ∈ cs,av.lt nx:=by
 unfold za at h;split at h
 .rename_i g first caps
  obtain ⟨⟨rfl,rfl⟩,h⟩:=h;exact ⟨g,#[],[],hv.c_inv,rfl,fun j x av h1 _=>by simp at h1,h,by simp⟩
 .rename_i g cs;obtain ⟨xs,h1,h2,h3⟩:=hv.fn_inv;exact ⟨g,xs,cs,h1,h2,h3,h,ah.1 hl⟩
 .exact h.elim
theorem Bu (h:aH cx a w st L) {args:Array Operand} {xs:Array Value} {cs:List AV} (hn:xs.size=cs.length) (hx:∀ (j:Nat) (x:Value) (av:AV),xs[j]? = some x -> cs[j]? = some av -> bn cx w st.tab L x av) :
  (xs ++ args.map a.eval).size=(cs ++ args.toList.map (aU st)).length /\ ∀ (j:Nat) (v:Value) (av:AV),(xs ++ args.map a.eval)[j]? = some v -> (cs ++ args.toList.map (aU st))[j]? = some av -> bn cx w st.tab L v av:=by
 refine ⟨by simp [hn],fun j v av h1 h2=>?_⟩;by_cases hj:j<xs.size
 .rw [Array.getElem?_append_left hj] at h1;rw [JD (by omega)] at h2;exact hx j v av h1 h2
 .rw [Array.getElem?_append_right (by omega)] at h1;rw [JG (by omega),<- hn] at h2;rw [Array.getElem?_map] at h1;rw [IW,JT] at h2
  cases hk:args[j - xs.size]? with
  | none=>simp [hk] at h1
  | some x=>
   simp [hk] at h1 h2;subst h1;subst h2;exact (ar h x).1
theorem mG (h:aH cx a w st L) {args:Array Operand} {xs:Array Value} {cs:List AV} (hn:xs.size=cs.length) (hx:∀ (j:Nat) (x:Value) (av:AV),xs[j]? = some x -> cs[j]? = some av -> bn cx w st.tab L x av) :
  (args.map a.eval ++ xs).size=(args.toList.map (aU st) ++ cs).length /\ ∀ (j:Nat) (v:Value) (av:AV),(args.map a.eval ++ xs)[j]? = some v -> (args.toList.map (aU st) ++ cs)[j]? = some av -> bn cx w st.tab L v av:=by
 refine ⟨by simp [hn],fun j v av h1 h2=>?_⟩;by_cases hj:j<args.size
 .rw [Array.getElem?_append_left (by simpa using hj),Array.getElem?_map,IX hj] at h1;rw [JD (by simpa using hj),IW,JT,IX hj] at h2;simp at h1 h2;subst h1;subst h2;exact (ar h _).1
 .rw [Array.getElem?_append_right (by simpa using hj)] at h1;rw [JG (by simpa using hj)] at h2;simp at h1 h2;exact hx _ v av h1 h2
theorem y7 (h:aH cx a w st L) {f:Operand} {args:Array Operand} {dst:Option Nat} {K:ai -> Prop} (hp:ug (aU st f) (tM P st args.toList dst K) (rf P st args.toList dst K)) :
  ∃ (g:FuncId) (zs:Array Value) (avs:List AV),(dR P g -> ∀ (o:Oper) (ts:Array TypeId),o.op=.call ⟨.value f,args,ts⟩ -> (execOp a.eval o).run P w=.ok (.enter g zs) w) /\ zs.size=avs.length /\
   (∀ (j:Nat) (v:Value) (av:AV),zs[j]? = some v -> avs[j]? = some av -> bn cx w st.tab L v av /\ av.lt st.next) /\ dr none P st g avs (tJ dst K):=by
 unfold ug at hp;split at hp
 .rename_i g bs hf;have hv:=(ar h f).1;have hl:=(ar h f).2;rw [hf] at hv hl;obtain ⟨xs,hg,hxn,hxr⟩:=hv.bfn_inv;have hargs:=Bu h (args:=args) hxn hxr;refine ⟨g,xs ++ args.map a.eval,bs ++ args.toList.map (aU st),fun hent o ts ho=>?_,hargs.1,fun j v av h1 h2=>⟨hargs.2 j v av h1 h2,?_⟩,hp⟩
  .have:=hent (xs ++ args.map a.eval) w;simp [execOp,ho,Sem.run_bind,resolve,hg,Deferred.ofValue,invoke,this]
  .rcases Ja.1 (p0 h2) with h3 | h3
   .exact ah.1 hl av h3
   .obtain ⟨x,_,rfl⟩:=I7.1 h3;exact (ar h x).2
 .obtain ⟨g,xs,cs,hg,hxn,hxr,hp,hcs⟩:=qY (ar h f).1 (ar h f).2 hp;have hargs:=mG h (args:=args) hxn hxr;refine ⟨g,args.map a.eval ++ xs,args.toList.map (aU st) ++ cs,fun hent o ts ho=>?_,hargs.1,fun j v av h1 h2=>⟨hargs.2 j v av h1 h2,?_⟩,hp⟩
  .have:=hent (args.map a.eval ++ xs) w;simp [execOp,ho,Sem.run_bind,resolve,hg,Deferred.ofValue,invoke,this]
  .rcases Ja.1 (p0 h2) with h3 | h3
   .obtain ⟨x,_,rfl⟩:=I7.1 h3;exact (ar h x).2
   .exact hcs av h3
theorem kx {t:TypeId} {parts:Array (Nat × Operand)} {dst:Option Nat} {K:ai -> Prop} (h:aH cx a w st L) (hp:iI P t st parts.toList dst K):∃ v,∃ cs,bn cx w st.tab L v (.agg cs) /\ (AV.agg cs).lt st.next /\ (∀ w',(Instr.build t (parts.map fun (p:Nat × Operand)=>(p.1,a.eval p.2))).run P w'=.ok v w') /\ K (st.put dst (.agg cs)):=by
 unfold iI at hp;split at hp
 .rename_i places zs ht;split at hp
  .rename_i cs hf;obtain ⟨h1,h2⟩:=hp;obtain ⟨v,h3,h4,h5⟩:=Ax h ht hf h1;exact ⟨v,cs,h3,h4,by simpa using h5,h2⟩
  .exact hp.elim
 .exact hp.elim
theorem xN {t:TypeId} {x:Operand} {lo hi mx:Option Operand} {K:ai -> Prop} {Q:Exit -> Act -> World -> Prop} {ty:TypeId} {dst:Option Nat} {pos:String} {aft:Array Edge} {gd:Option (Nat × Bool)} (h:aH cx a w st L)
  (hp:j9 P t st (aU st x) (lo.map (aU st)) (hi.map (aU st)) (mx.map (aU st)) dst K):Oper.wp (P:=P) ⟨dst,.slice t x lo hi mx,ty,pos,aft,gd⟩ a w (Ae cx K) Q:=by
 unfold j9 at hp;split at hp
 .rename_i id hx;have hv:=(ar h x).1;rw [hx] at hv;split at hp
  .rename_i e sz rows hid;unfold mD at hp;split at hp
   .rename_i l h' hl hh;obtain ⟨⟨h1,h2⟩,⟨rfl,h4,h5,h6⟩,h7⟩:=hp;obtain ⟨hu,hsz⟩:=gL (P:=P) (t:=t) (by omega);have hvL:=hv.osl_inv _ _ (bZ hid);obtain ⟨hrow,xs,hown,hone,hx'⟩:=h.lay.objs id _ hid;have hs:=cB (P:=P) (t:=(a6 P t).1) (by omega) w;rw [hsz,h1] at hs
    have key:∀ A cap,L id=.slice A rows.length cap -> rows.length<=cap -> ∃ m,h'.toNat<=m /\ m<=cap /\ (Instr.sliceBounds true rows.length cap (lo.map a.eval) (hi.map a.eval) (mx.map a.eval)).run P w=.ok (0,h'.toNat,m) w:=by
     intro A cap hL hc;have hlo:=pv (d:=0) (n:=0) (fun x=>(ar h x).1) hl (by omega) rfl;have hhi:=pv (d:=rows.length) (n:=h'.toNat) (fun x=>(ar h x).1) hh (by omega) rfl
     cases mx with
     | none=>exact ⟨cap,by omega,I6 _,gY hlo hhi (.inl ⟨rfl,rfl⟩) (by omega) (by omega)⟩
     | some q=>
      have hq:=(ar h q).1;simp only [JV] at h6 ⊢;unfold BX at h6;split at h6
      .rename_i hq';cases hq'
      .rename_i k m hq'
       injection hq' with hq'
       rw [hq'] at hq;obtain ⟨rfl,hb⟩:=h6;refine ⟨m.toNat,I6 _,by omega,gY hlo hhi (.inr ⟨rfl,⟨k,by rw [hq.c_inv,Int.toNat_of_nonneg h4]⟩,fun hn=>?_⟩) (by omega) (by omega)⟩
       cases hi with
       | none=>simp at hb
       | some _=>cases hn
      .exact h6.elim
    rcases hown.2 with ⟨hL,h0⟩|⟨g,cap,cur,hL,hb,hh',hc,hm,hcs,htake⟩
    .obtain ⟨m,hm1,hm2,hr⟩:=key none 0 (by rw [hL,h0]) (by omega);have hm0:m=0:=(by omega);have hn0:h'.toNat=0:=(by omega);refine aZ (v:=.slice none 0 0) ?_ ⟨_,_,h7,nT (n:=h'.toNat) h hid (by omega) (.inl ⟨hL,rfl⟩) dst⟩;rw [h0] at hr;simp [execOp,Sem.run_bind,hvL,hL,Instr.sliceAt,Instr.slice,run_underlying hu,hr,hs,hm0,hn0]
    .obtain ⟨m,hm1,hm2,hr⟩:=key _ cap hL hc;refine aZ (v:=.slice (some ⟨g,0,none⟩) h'.toNat m) ?_ ⟨_,_,h7,nT (n:=h'.toNat) h hid (by omega) (.inr ⟨g,cap,m,hL,rfl,hm1,hm2⟩) dst⟩;simp [execOp,Sem.run_bind,hvL,hL,Instr.sliceAt,Instr.slice,run_underlying hu,hr,hs,Addr.add_lit]
   .exact hp.elim
  .exact hp.elim
 .exact mr (o:=⟨dst,.slice t x lo hi mx,ty,pos,aft,gd⟩) h (by exact hp)
theorem Id {o:Oper} {K:ai -> Prop} {Q:Exit -> Act -> World -> Prop} (h:aH cx a w st L) (hp:jl P o K st):o.wp P a w (Ae cx K) Q:=by
 obtain ⟨dst,op,ty,pos,aft,gd⟩:=o;unfold jl at hp;simp only at hp;split at hp
 .rename_i t x;obtain ⟨h1,h2⟩:=hp;have he:=ar h x;obtain ⟨h3,h4⟩:=pZ (P:=P) (t:=t) h he.1 he.2 h1 dst;exact aZ (by simp [execOp,Sem.run_bind,h3]) ⟨_,_,h2,h4⟩
 .rename_i t;split at hp
  .rename_i z hz;obtain ⟨h1,h2⟩:=hp;obtain ⟨h3,h4⟩:=pZ (P:=P) (t:=t) (av:=.c z) h (.tree (.c z)) trivial h1 dst;exact aZ (by simp [execOp,Sem.run_bind,pa hz,h3]) ⟨_,_,h2,h4⟩
  .exact hp.elim
 .rename_i t p x;unfold ot at hp;split at hp
  .rename_i id i j hpe;split at hp
   .rename_i ty cells hid;obtain ⟨rfl,h0,h1,h2,h3,h4⟩:=hp;have hpv:=(ar h p).1;rw [hpe] at hpv;have hx:=ar h x;obtain ⟨w',h5,h6,_⟩:=kD h hpv hid hx.1 hx.2 h0 h1 h2 h3 dst;exact eL (by simp [execOp,Sem.run_bind,h5]) ⟨_,_,h4,h6⟩
   .rename_i e sz rows hid;obtain ⟨hi,h0,h1,h2,h3,h3',h4⟩:=hp;have hpv:=(ar h p).1;rw [hpe] at hpv;have hx:=ar h x;obtain ⟨w',h5,h6,_⟩:=kr h hpv hid hx.1 hx.2 hi h0 h1 h2 h3 h3' dst;exact eL (by simp [execOp,Sem.run_bind,h5]) ⟨_,_,h4,h6⟩
   .rename_i e sz rows hid;obtain ⟨hi,h0,h1,h2,h3,h4⟩:=hp;have hpv:=(ar h p).1;rw [hpe] at hpv;have hx:=ar h x;obtain ⟨w',h5,h6,_⟩:=jA h hpv hid hx.1 hx.2 hi h0 h1 h2 h3 dst;exact eL (by simp [execOp,Sem.run_bind,h5]) ⟨_,_,h4,h6⟩
   .exact hp.elim
  .exact hp.elim
 .rename_i t n parts;unfold cW at hp
  replace h:=fp (fu (parts.toList.flatMap fun (p:Nat × Operand)=>aj (aU st p.2))) h
  unfold fl at hp;split at hp
  .rename_i e sz by_ ht;split at hp
   .obtain ⟨⟨h1,rfl,h3,h5⟩,h6⟩:=hp;obtain ⟨v',w',L',h7,h8,_⟩:=jq h ht h1 h3 h5 dst;refine aZ ?_ ⟨_,_,h6,h8⟩;simp only [Array.toArray_toList] at h7;simp [execOp,Sem.run_bind];simp at h7;simp [h7]
   .obtain ⟨⟨h1,rfl,h3,h5⟩,h6⟩:=hp;obtain ⟨v',w',L',h7,h8,_⟩:=pN h ht h1 h3 h5 dst;refine aZ ?_ ⟨_,_,h6,h8⟩;simp only [Array.toArray_toList] at h7;simp [execOp,Sem.run_bind];simp at h7;simp [h7]
  .exact hp.elim
 .rename_i t l c;unfold mJ at hp;split at hp
  .rename_i e sz by_ k1 n k2 m ht hl hc;split at hp
   .rename_i z hz;obtain ⟨⟨rfl,h1,h2,h3,h4⟩,h5⟩:=hp;have hl':=(ar h l).1;have hc':=(ar h c).1;rw [hl] at hl';rw [hc] at hc';obtain ⟨v',w',L',h6,h7,_⟩:=vY (k1:=k1) (k2:=k2) h ht hz h1 h2 h3 h4 dst;exact aZ (by simp [execOp,Sem.run_bind,hl'.c_inv,hc'.c_inv,h6]) ⟨_,_,h5,h7⟩
   .exact hp.elim
  .exact hp.elim
 .rename_i t parts;obtain ⟨v,cs,h1,h2,h3,h4⟩:=kx h hp;refine aZ ?_ ⟨_,_,h4,bd h h1 h2 dst⟩;simp [execOp,Sem.run_bind,h3 w]
 .rename_i t x lo hi mx;exact xN h hp
 .rename_i t r;obtain ⟨hr,hp⟩:=hp
  cases r with
  | some r=>cases hr
  | none=>
   obtain ⟨h1,h2⟩:=vw (P:=P) (t:=t) h dst;exact aZ (by simp [execOp,Sem.run_bind,h1]) ⟨_,_,hp,h2⟩
 .rename_i t m k ok;obtain ⟨r,av,h1,h2,h3,h4⟩:=oY (nx:=st.next) h.lay (ar h m).1 (ar h k).1 hp;exact aZ (by simp [execOp,Sem.run_bind,h4]) ⟨_,_,h1,bd h h2 h3 dst⟩
 .rename_i t m k v;obtain ⟨w',st',h1,h2,h3,_⟩:=pd h (ar h m).1 (ar h k).1 (ar h v).1 dst hp;exact eL (by simp [execOp,Sem.run_bind,h1]) ⟨_,_,h2,h3⟩
 .rename_i c;obtain ⟨callee,args,argTypes⟩:=c;simp only at hp;split at hp
  .split at hp
   .rename_i x y t t' h1 h2;obtain rfl:args = #[x,y]:=by cases args;simp_all
    obtain rfl:argTypes = #[t,t']:=by cases argTypes;simp_all
    obtain ⟨rfl,hp⟩:=hp;unfold fj at hp;split at hp
    .rename_i hnn;obtain ⟨e1,e2⟩:=nD hnn;have hx1:=(ar h x).1;have hy1:=(ar h y).1;rw [e1] at hx1;rw [e2] at hy1;have hx2:=hx1.c_inv;have hy2:=hy1.c_inv;have hr:=iq (ty:=ty) (w:=w) hp.1;exact aZ (by simp [execOp,Sem.run_bind,resolve,invoke,builtin,hx2,hy2,hr]) ⟨_,_,hp.2,bd h (.tree (.c _)) trivial dst⟩
    unfold gC at hp;split at hp
    .rename_i e sz by_ ht;split at hp
     .rename_i oid rows rows2 hx hy;obtain ⟨⟨h3,h4⟩,h5⟩:=hp;obtain ⟨v',w',L',h6,h7,_⟩:=pi (ty:=ty) h (ar h x).1 (ar h y).1 ht hx hy (by simpa [maxLen] using h3) h4 dst;exact aZ (by simp [execOp,Sem.run_bind,resolve,invoke,builtin,h6]) ⟨_,_,h5,h7⟩
     .split at hp
      .rename_i oid rows rows2 hx hy;obtain ⟨⟨h3,h4⟩,h5⟩:=hp;obtain ⟨v',w',L',h6,h7,_⟩:=nX (ty:=ty) h (ar h x).1 (ar h y).1 ht hx hy (by simpa [maxLen] using h3) h4 dst;exact aZ (by simp [execOp,Sem.run_bind,resolve,invoke,builtin,h6]) ⟨_,_,h5,h7⟩
      .exact hp.elim
    .exact hp.elim
   .exact hp.elim
  .unfold vW at hp;split at hp
   .rename_i x t h1 h2;obtain rfl:args = #[x]:=by cases args;simp_all
    obtain rfl:argTypes = #[t]:=by cases argTypes;simp_all
    obtain ⟨w',st',h3,h4,h5,_⟩:=zY (ty:=ty) h (ar h x).1 dst hp;exact aZ (by simp [execOp,Sem.run_bind,resolve,invoke,builtin,h3]) ⟨_,_,h4,h5⟩
   .exact hp.elim
  .rcases hp with hp | hp
   .unfold Cn at hp;split at hp
    .rename_i x t h1 h2;obtain rfl:args = #[x]:=by cases args;simp_all
     obtain rfl:argTypes = #[t]:=by cases argTypes;simp_all
     obtain ⟨r,av,h3,h4,h5,h6⟩:=DU (ty:=ty) (nx:=st.next) h.lay (ar h x).1 hp;exact aZ (by simp [execOp,Sem.run_bind,resolve,invoke,builtin,h6]) ⟨_,_,h3,bd h h4 h5 dst⟩
    .exact hp.elim
   .exact mr h hp
  .rename_i f;obtain ⟨g,zs,avs,hrun0,hsz,hlt,hp⟩:=y7 h hp;by_cases hmeth:vT none P st g avs (tJ dst K)
   .obtain ⟨hent,ids0,_,hc⟩:=wv h hsz (fun j v av h1 h2=>(hlt j v av h1 h2).1) hmeth dst;unfold Oper.wp;rw [hrun0 hent _ argTypes rfl];show Calls P g zs w _;refine hc.mono ?_;rintro e w' ⟨v,av,st',L',rfl,h1,h2,h3,_⟩;exact ⟨_,_,h1,h2⟩
   replace hp:n8 P st g avs (tJ dst K) \/ (none=(none:Option (Nat × List Nat)) /\ (zb P st g avs (tJ dst K) \/ z8 P st g avs (tJ dst K))):=by
    rcases hp with hp|hp|hp
    .exact .inl hp
    .exact .inr hp
    .exact absurd hp hmeth
   have hent:dR P g:=by
    rcases hp with (⟨R,hd,_⟩|⟨hd,_⟩)|⟨_,(⟨_,_,_,_,_,_,_,_,hd,_⟩|⟨_,_,_,_,_,_,_,_,_,hd,_⟩|⟨hd,_⟩)|⟨_,(⟨R,hd,_⟩|⟨hd,_⟩)⟩⟩
    .exact hd.1
    .exact hd
    .exact hd.1
    .exact hd.1
    .exact hd
    .exact hd.1
    .exact hd
   unfold Oper.wp;rw [hrun0 hent _ argTypes rfl];show Calls P g zs w _;have hargs:zs.size=avs.length /\ ∀ (j:Nat) (v:Value) (av:AV),zs[j]? = some v -> avs[j]? = some av -> bn cx w st.tab L v av:=⟨hsz,fun j v av h1 h2=>(hlt j v av h1 h2).1⟩;rcases hp with hp|⟨_,hp|⟨ids,hp⟩⟩
   .refine (qp h hargs.1 hargs.2 hp dst).mono ?_;rintro e w' ⟨v,av,st',L',rfl,h1,h2,_⟩;exact ⟨_,_,h1,h2⟩
   rotate_left
   .obtain ⟨h3,h4⟩:=ly ids h hlt;refine (qp (fp ids h) (by rw [h3];exact hargs.1) (fun j v av h5 h6=>(h4 j v av h5 h6).1) hp dst).mono ?_;rintro e w' ⟨v,av,st',L',rfl,h1,h2,_⟩;exact ⟨_,_,h1,h2⟩
   .refine (DD h hargs.1 hlt hp dst).mono ?_;rintro e w' ⟨v,av,st',L',rfl,h1,h2,_⟩;exact ⟨_,_,h1,h2⟩
  .exact mr h hp
 .exact mr h hp
theorem bW {ops:Array Oper} {g:Option (Nat × Bool)} {yes no:ai -> Prop} (h:aH cx a w st L) (hp:iL ops g yes no st) (o:Oper) (ho:o.guard=g) :
  (Region.wanted o (yielded ops a.tmps)=true /\ ∃ st',yes st' /\ aH cx a w st' L /\ st'.tab=st.tab /\ st'.next=st.next) \/ (Region.wanted o (yielded ops a.tmps)=false /\ ∃ st',no st' /\ aH cx a w st' L /\ st'.tab=st.tab /\ st'.next=st.next):=by
 subst ho;unfold iL at hp;unfold Region.wanted;split at hp
 .rename_i hg;rw [hg];exact .inl ⟨rfl,st,hp,h,rfl,rfl⟩
 .rename_i j want hg;rw [hg];simp only;split at hp
  .rename_i d hd;split at hp
   .rename_i v hv;have hval:=(h.env d).1;rw [hv] at hval;have hval:=hval.c_inv
    have hy:yielded ops a.tmps j=yv v:=by
     unfold yielded;rw [hd];simp only [KH];rw [<- hval];rw [Kj]
     cases ht:a.tmps[d]? with
     | none=>rfl
     | some u=>cases u<;>rfl
    rw [hy]
    have same:∀ b,v=.bool b -> aH cx a w (st.put (some d) (.c (.bool b))) L /\ (st.put (some d) (.c (.bool b))).tab=st.tab /\ (st.put (some d) (.c (.bool b))).next=st.next:=fun b hb=>by
     subst hb;have e1:(st.put (some d) (.c (.bool b))).tab=st.tab:=rfl;have e2:(st.put (some d) (.c (.bool b))).next=st.next:=rfl;have e3:(st.put (some d) (.c (.bool b))).n=st.n:=rfl;refine ⟨⟨by rw [e1];exact h.lay,by rw [e3];exact h.size,by rw [e1];exact h.defers,by rw [e1,e2];exact h.young,fun t=>?_⟩,e1,e2⟩;rw [e1,e2,vQ];simp only;split
     .rename_i ht;rw [ht.2,hval];exact ⟨.tree (.c _),trivial⟩
     .exact h.env t
    split at hp
    .rename_i b hb
     have hvb:v=.bool b:=by
      cases v<;>simp [yv] at hb;rw [hb]
     by_cases hw:b=want
     .subst hw;have hp:yes (st.put (some d) (.c (.bool b))):=by cases b<;>exact hp
      exact .inl ⟨by simp [hb],_,hp,same _ hvb⟩
     .have hp:no (st.put (some d) (.c (.bool b))):=by cases b<;>cases want<;>first|exact hp|exact absurd rfl hw
      exact .inr ⟨by simp [hb,hw],_,hp,same _ hvb⟩
    .rename_i hb;exact .inr ⟨by simp [hb],st,hp,h,rfl,rfl⟩
   .exact hp.elim
  .exact hp.elim
theorem bJ (h:aH cx a w st L) (dst:Option Nat):aH cx (a.put dst undef) w (st.put dst (.c undef)) L:=bd h (.tree (.c _)) trivial dst
theorem qM {ops:Array Oper} {K:ai -> Prop} {Q:Exit -> Act -> World -> Prop} (hQ:∀ a w st L,K st -> aH cx a w st L -> Q .normal a w):∀ (l:List Oper) (a:Act) (w:World) (st:ai) (L:Nat -> Value),aH cx a w st L -> kl P ops K l st -> wpList P ops Q l a w
 | [],a,w,st,L,h,hp=>hQ a w st L hp h
 | o :: rest,a,w,st,L,h,hp=>by
  unfold kl at hp;refine wpList_step fun K' hK'=>?_;rcases bW h hp o rfl with ⟨hw,st',h1,h2,_⟩|⟨hw,st',h1,h2,_⟩
  .rw [I8 hw];exact Oper.wp_mono (fun a' w' ⟨st'',L',h3,h4⟩=>hK' a' w' (qM hQ rest a' w' st'' L' h4 h3)) (Id h2 h1)
  .rw [I4 (by simp [hw])];exact hK' _ _ (qM hQ rest _ w _ L (bJ h2 o.dst) h1)
theorem j0 (h:aH cx a w st L) (hb:Below w.heap.size w w'):aH cx a w' st L:=by
 have hext:iu cx w st.tab L st.next w' st.tab L:=ft hb (fun id _=>⟨rfl,rfl⟩) (fun id o hid=>(h.young id o hid).1) (fun id o g h1 h2 _=>by have:=(h.young id o h2).1;omega);refine ⟨i7 h.lay h.young hb (fun id _=>⟨rfl,rfl⟩) (fun id o h1 h2=>?_) (fun id o g h1 h2 _=>?_) (fun id id' o o' g h1 _ h2 _ _ _=>?_),h.size,h.defers.mono hext.blk hext.sub,h.young,fun t=>⟨hext.rv (h.env t).1 (h.env t).2,(h.env t).2⟩⟩
 .have:=(h.young id o h2).1;omega
 .have:=(h.young id o h2).1;omega
 .have:=(h.young id o h2).1;omega
structure ca (T:Nat -> Prop) (a a':Act):Prop where
 defers:a'.defers=a.defers
 slots:∀ t,T t -> a'.tmps.getD t undef=a.tmps.getD t undef
theorem ca.refl {T:Nat -> Prop} (a:Act):ca T a a:=⟨rfl,fun _ _=>rfl⟩
theorem ca.trans {T:Nat -> Prop} {a b c:Act} (h:ca T a b) (k:ca T b c):ca T a c:=⟨k.defers.trans h.defers,fun t ht=>(k.slots t ht).trans (h.slots t ht)⟩
theorem aY (a:Act) (d:Option Nat) (v:Value):(a.put d v).defers=a.defers:=by cases d<;>rfl
theorem gx (st:ai) (d:Option Nat) (av:AV):(st.put d av).tab=st.tab:=by cases d<;>rfl
theorem gk {a:Act} {dst:Option Nat} {v:Value} {t:Nat} (h:dst ≠ some t):(a.put dst v).tmps.getD t undef=a.tmps.getD t undef:=by
 cases dst with
 | none=>rfl
 | some d=>
  have hd:d ≠ t:=fun e=>h (by rw [e]);simp [Act.put,Kj,Array.getElem?_setIfInBounds,hd]
theorem ca.put {T:Nat -> Prop} {a b:Act} {dst:Option Nat} {v:Value} (h:ca T a b) (hd:∀ t,T t -> dst ≠ some t):ca T a (b.put dst v):=⟨(aY _ _ _).trans h.defers,fun t ht=>(gk (hd t ht)).trans (h.slots t ht)⟩
theorem dp {o:Oper} {K:Act -> World -> Prop} {Q:Exit -> Act -> World -> Prop} {T:Nat -> Prop} (hd:∀ t,T t -> o.dst ≠ some t) (h:o.wp P a w K Q):o.wp P a w (fun a' w'=>K a' w' /\ ∀ t,T t -> a'.tmps.getD t undef=a.tmps.getD t undef) Q:=by
 unfold Oper.wp Oper.upon at *;generalize (execOp a.eval o).run P w=r at h
 cases r with
 | ok x w1=>
  cases x with
  | value v=>exact ⟨h,fun t ht=>gk (hd t ht)⟩
  | skip=>exact ⟨h,fun t ht=>gk (hd t ht)⟩
  | defer d=>exact ⟨h,fun t ht=>gk (a:={ a with defers:=d :: a.defers }) (hd t ht)⟩
  | enter f args=>
   refine Calls.mono h fun e w2 h2=>?_
   cases e with
   | returned v=>exact ⟨h2,fun t ht=>gk (hd t ht)⟩
   | panicked chain=>exact h2
   | outgrown=>exact h2
  | row row args=>exact Rows.mono h fun v w2 h2=>⟨h2,fun t ht=>gk (hd t ht)⟩
  | _=>exact h.elim
 | halt x w1=>
  cases x<;>first|exact h|exact h.elim
theorem kh {ops:Array Oper} {K:ai -> Prop} {Q:Act -> Prop} {T:Nat -> Prop} {a0:Act} {tab0:ag} (hQ:∀ a st,K st -> aH cx a w st L -> st.tab=tab0 -> ca T a0 a -> Q a):∀ (l:List Oper) (a:Act) (st:ai),(∀ o ∈ l,∀ t,T t -> o.dst ≠ some t) -> st.tab=tab0 -> ca T a0 a -> aH cx a w st L -> gD P ops K l st -> wpQuiet P ops (fun w'=>Below w.heap.size w w') Q l a
 | [],a,st,_,hT,hA,h,hp=>hQ a st hp h hT hA
 | o :: rest,a,st,hd0,hT,hA,h,hp=>by
  have hdo:=hd0 o (J2 ..);have hdr:=fun o' (ho:o' ∈ rest)=>hd0 o' (J0 _ ho);unfold gD at hp;refine wpQuiet_step fun K' hK'=>?_;rcases bW h hp o rfl with ⟨hw,st',h1,h2,ht',_⟩|⟨hw,st',h1,h2,ht',_⟩
  .rw [I8 hw]
   have pureCase:∀ op,o.op=op -> bM P st'.tab (aU st') op (aK st' o.dst (gD P ops K rest)) -> o.quiet P a (fun w'=>Below w.heap.size w w') K':=fun op hop hp'=>by
    subst hop;obtain ⟨v,av,h3,h4,h5,h6,_⟩:=iT h2.lay (fun id o hid=>(h2.young id o hid).2) (ar h2) hp';refine ⟨v,fun w' hw'=>?_,hK' _ (kh hQ rest _ _ hdr (by rw [gx,ht',hT]) (hA.put hdo) (bd h2 h4 h5 o.dst) h3)⟩;unfold Oper.quietAt;rw [h6 w' hw'];exact ⟨rfl,rfl⟩
   unfold jS at h1;split at h1
   .rename_i c hc;split at h1
    .rename_i f hf;obtain ⟨g,xs,cs,hg,hxn,hxr,⟨v,hd,h3⟩,_⟩:=qY (ar h2 f).1 (ar h2 f).2 h1;refine ⟨v,fun w' hw'=>?_,hK' _ (kh hQ rest _ _ hdr (by rw [gx,ht',hT]) (hA.put hdo) (bd h2 (.tree (.c v)) trivial o.dst) h3)⟩
     have hrun:(execOp a.eval o).run P w'=.ok (.enter g (c.args.map a.eval ++ xs)) w':=by
      have:=hd.1 (c.args.map a.eval ++ xs) w';simp [execOp,hc,Sem.run_bind,resolve,hf,hg,Deferred.ofValue,invoke,this]
     have hargs:=mG h2 (args:=c.args) hxn hxr;unfold Oper.quietAt;rw [hrun];refine ⟨rfl,(hd.2 (fun b=>b<w'.heap.size) w' (c.args.map a.eval ++ xs) (h2.lay.amb.below hw').all (by simpa using hargs.1) (fun j x av h4 h5=>?_)).mono ?_⟩
     .rw [IW] at h5
      cases hj:(c.args.toList.map (aU st') ++ cs)[j]? with
      | none=>simp [hj] at h5
      | some y=>
       simp [hj] at h5;subst h5;exact (wt h2.lay (hargs.2 j x y h4 hj)).mono (fun p hp=>hw'.cell hp) (fun b hb=>I1 hb hw'.size)
     .rintro e w'' ⟨v',L2,R,rfl,_,rfl,hl,hr⟩;obtain rfl:=hr.c_inv;exact ⟨rfl,hw'.trans ((hl.below.below fun b hb=>hb).mono hw'.size)⟩
    .exact pureCase _ hc h1
   .rename_i t parts hb;obtain ⟨v,cs,h3,h4,h5,h6⟩:=kx h2 h1;refine ⟨v,fun w' hw'=>?_,hK' _ (kh hQ rest _ _ hdr (by rw [gx,ht',hT]) (hA.put hdo) (bd h2 h3 h4 o.dst) h6)⟩;have hrun:(execOp a.eval o).run P w'=.ok (.value v) w':=(by simp [execOp,hb,Sem.run_bind,h5 w']);unfold Oper.quietAt;rw [hrun];exact ⟨rfl,rfl⟩
   .exact pureCase _ rfl h1
  .rw [I4 (by simp [hw])];exact hK' _ (kh hQ rest _ _ hdr (by rw [gx,ht',hT]) (hA.put hdo) (bJ h2 o.dst) h1)
theorem pP {ops:Array Oper} {K:ai -> Prop} {Q:Act -> Prop} {T:Nat -> Prop} {a0:Act} {tab0:ag} (hQ:∀ a st,K st -> aH cx a w st L -> st.tab=tab0 -> ca T a0 a -> Q a):∀ (l:List Oper) (a:Act) (st:ai),(∀ o ∈ l,∀ t,T t -> o.dst ≠ some t) -> st.tab=tab0 -> ca T a0 a -> aH cx a w st L -> jy P ops K l st -> wpStill P ops w Q l a
 | [],a,st,_,hT,hA,h,hp=>hQ a st hp h hT hA
 | o :: rest,a,st,hd0,hT,hA,h,hp=>by
  have hdo:=hd0 o (J2 ..);have hdr:=fun o' (ho:o' ∈ rest)=>hd0 o' (J0 _ ho);unfold jy at hp;refine wpStill_step fun K' hK'=>?_;rcases bW h hp o rfl with ⟨hw,st',h1,h2,ht',_⟩|⟨hw,st',h1,h2,ht',_⟩
  .rw [I8 hw];unfold jy.aPop at h1;obtain ⟨v,av,h3,h4,h5,h6,_⟩:=iT h2.lay (fun id o hid=>(h2.young id o hid).2) (ar h2) h1;unfold Oper.still;rw [h6 w (Below.refl _ _),Oper.stillUpon_value];exact hK' _ (pP hQ rest _ _ hdr (by rw [gx,ht',hT]) (hA.put hdo) (bd h2 h4 h5 o.dst) h3)
  .rw [I4 (by simp [hw])];exact hK' _ (pP hQ rest _ _ hdr (by rw [gx,ht',hT]) (hA.put hdo) (bJ h2 o.dst) h1)
def oe (nx0:Nat) (B:Nat) (G:Nat -> Prop) (tab:ag) (L:Nat -> Value):Prop:=∀ id o g,nx0<=id -> tab.get id=some o -> aG (L id)=some g -> B<=g \/ G g
structure jo (B:Nat) (G:Nat -> Prop) (wr w:World):Prop where
 size:B<=w.heap.size
 block:∀ k,k<B -> ¬ G k -> w.heap[k]? = wr.heap[k]?
theorem jo.step {B:Nat} {G:Nat -> Prop} {wr w w':World} (h:jo B G wr w) (hs:w.heap.size<=w'.heap.size) (hb:∀ k,k<B -> ¬ G k -> w'.heap[k]? = w.heap[k]?):jo B G wr w':=
 ⟨Jn h.size hs,fun k hk hG=>(hb k hk hG).trans (h.block k hk hG)⟩
theorem m8 {nx0 B:Nat} {G:Nat -> Prop} {L:Nat -> Value}:∀ (ids:List Nat) {st:ai},oe nx0 B G st.tab L -> oe nx0 B G (dt st ids).tab L
 | [],_,h=>h
 | id :: ids,st,h=>m8 ids (st:=fo st id) fun k o g h1 h2 h3=>by
  unfold fo at h2;split at h2
  .rw [ag.gc,bU] at h2;split at h2
   .cases h2
   .cases hg:st.tab.get k with
    | none=>simp [hg] at h2
    | some o'=>exact h k o' g h1 hg h3
  .exact h k o g h1 h2 h3
theorem ns:∀ (ids:List Nat) {st:ai} (k:Nat) (o:aE),(dt st ids).tab.get k=some o -> ∃ o',st.tab.get k=some o'
 | [],_,_,o,h=>⟨o,h⟩
 | id :: ids,st,k,o,h=>by
  obtain ⟨o1,h⟩:=ns ids (st:=fo st id) k o h;unfold fo at h;split at h
  .rw [ag.gc,bU] at h;split at h
   .cases h
   .cases hg:st.tab.get k with
    | none=>simp [hg] at h
    | some o'=>exact ⟨o',rfl⟩
  .exact ⟨o1,h⟩
theorem eu {o:Oper} {K:ai -> Prop} {Q:Exit -> Act -> World -> Prop} {B nx0:Nat} {ids:List Nat} {G:Nat -> Prop} {wr:World} (h:aH cx a w st L) (hS:jo B G wr w) (hy:oe nx0 B G st.tab L) (hG:∀ id ∈ ids,∀ g,aG (L id)=some g -> G g) (hnx:∀ id ∈ ids,id<st.next) (hp:fv P nx0 ids o K st) :
  o.wp P a w (fun a' w'=>∃ st' L',K st' /\ aH cx a' w' st' L' /\ a'.defers=a.defers /\ jo B G wr w' /\ oe nx0 B G st'.tab L' /\ (∀ id,id<st.next -> L' id=L id) /\ st.next<=st'.next /\ ∀ id o,id<st.next -> st'.tab.get id=some o -> ∃ o',st.tab.get id=some o') Q:=by
 have hB:=hS.size;have etab:∀ (st:ai) d av,(st.put d av).tab=st.tab:=fun st d av=>by cases d<;>rfl
 have enext:∀ (st:ai) d av,(st.put d av).next=st.next:=fun st d av=>by cases d<;>rfl
 obtain ⟨dst,op,ty,pos,aft,gd⟩:=o;unfold fv at hp;simp only at hp;split at hp
 .rename_i x;have he:=ar h x;refine aZ (by simp [execOp]) ⟨_,L,hp,bd h he.1 he.2 dst,aY _ _ _,hS,by rw [etab];exact hy,fun _ _=>rfl,by rw [enext];exact I6 _,fun id o _ hg=>⟨o,by rw [etab] at hg;exact hg⟩⟩
 .rename_i t x;obtain ⟨v,av,h1,h2,h3,h4,_⟩:=iT (o:=⟨dst,.load t x,ty,pos,aft,gd⟩) h.lay (fun id o hid=>(h.young id o hid).2) (ar h) hp;exact aZ (h4 w (Below.refl _ _)) ⟨_,L,h1,bd h h2 h3 dst,aY _ _ _,hS,by rw [etab];exact hy,fun _ _=>rfl,by rw [enext];exact I6 _,fun id o _ hg=>⟨o,by rw [etab] at hg;exact hg⟩⟩
 .rename_i t m k ok;obtain ⟨r,av,h1,h2,h3,h4⟩:=oY (nx:=st.next) h.lay (ar h m).1 (ar h k).1 hp;exact aZ (by simp [execOp,Sem.run_bind,h4]) ⟨_,L,h1,bd h h2 h3 dst,aY _ _ _,hS,by rw [etab];exact hy,fun _ _=>rfl,by rw [enext];exact I6 _,fun id o _ hg=>⟨o,by rw [etab] at hg;exact hg⟩⟩
 .rename_i t m k v;split at hp
  .rename_i id hme;obtain ⟨hid,hp⟩:=hp;have hmv:=(ar h m).1;rw [hme] at hmv;obtain ⟨w',st',h1,h2,h3,h4,id',ents,ents',hidd,h5,rfl,h6⟩:=pd h hmv (ar h k).1 (ar h v).1 dst hp;cases hidd
   have hmay:∀ k,k<B -> ¬ G k -> aG (L id)=some k -> False:=fun k hk hGk e=>by
    rcases hid with hid|hge
    .exact hGk (hG id hid k e)
    .rcases hy id _ k hge h5 e with h9 | h9
     .omega
     .exact hGk h9
   refine eL (by simp [execOp,Sem.run_bind,h1]) ⟨_,L,h2,h3,aY _ _ _,hS.step (by omega) (fun k hk hGk=>h6 k fun e=>hmay k hk hGk e),?_,fun _ _=>rfl,by rw [enext];exact I6 _,fun k o' _ hg=>by
    rw [etab,ag.gc] at hg;split at hg
    .rename_i e;exact ⟨_,by rw [e];exact h5⟩
    .exact ⟨o',hg⟩⟩
   rw [etab];intro k ob g h9 h10 h11;rw [ag.gc] at h10;split at h10
   .rename_i e;exact hy k (.map ents) g h9 (by rw [e];exact h5) h11
   .exact hy k ob g h9 h10 h11
  .exact hp.elim
 .rename_i t p x;split at hp
  .rename_i id i j hpe;obtain ⟨hid,hp⟩:=hp
   have hmay:∀ k,k<B -> ¬ G k -> aG (L id)=some k -> False:=fun k hk hGk e=>by
    rcases hid with hid|hge
    .exact hGk (hG id hid k e)
    .have hn:∃ o,st.tab.get id=some o:=by
      unfold kY at hp;split at hp<;>first|exact ⟨_,by assumption⟩|exact hp.elim
     obtain ⟨o,ho⟩:=hn;rcases hy id o k hge ho e with h9|h9
     .omega
     .exact hGk h9
   unfold kY at hp;split at hp
   .rename_i ty cells hget;obtain ⟨rfl,h0,h1,h2,h3,h4⟩:=hp;have hpv:=(ar h p).1;rw [hpe] at hpv;have hx:=ar h x;obtain ⟨w',h5,h6,h7,h8⟩:=kD h hpv hget hx.1 hx.2 h0 h1 h2 h3 dst
    refine eL (by simp [execOp,Sem.run_bind,h5]) ⟨_,L,h4,h6,aY _ _ _,hS.step (by omega) (fun k hk hGk=>h8 k fun e=>hmay k hk hGk e),?_,fun _ _=>rfl,by rw [enext];exact I6 _,fun k o' _ hg=>by
     rw [etab,ag.gc] at hg;split at hg
     .rename_i e;exact ⟨_,by rw [e];exact hget⟩
     .exact ⟨o',hg⟩⟩
    rw [etab];intro k ob g h9 h10 h11;rw [ag.gc] at h10;split at h10
    .rename_i e;exact hy k (.box ty cells) g h9 (by rw [e];exact hget) h11
    .exact hy k ob g h9 h10 h11
   .rename_i e sz rows hget;obtain ⟨h0,h1,h2,h3,h3',h3'',h4⟩:=hp;have hpv:=(ar h p).1;rw [hpe] at hpv;have hx:=ar h x;obtain ⟨w',h5,h6,h7,h8⟩:=kr h hpv hget hx.1 hx.2 h0 h1 h2 h3 h3' h3'' dst
    refine eL (by simp [execOp,Sem.run_bind,h5]) ⟨_,L,h4,h6,aY _ _ _,hS.step (by omega) (fun k hk hGk=>h8 k fun e=>hmay k hk hGk e),?_,fun _ _=>rfl,by rw [enext];exact I6 _,fun k o' _ hg=>by
     rw [etab,ag.gc] at hg;split at hg
     .rename_i e';exact ⟨_,by rw [e'];exact hget⟩
     .exact ⟨o',hg⟩⟩
    rw [etab];intro k ob g h9 h10 h11;rw [ag.gc] at h10;split at h10
    .rename_i e';exact hy k (.row e sz rows) g h9 (by rw [e'];exact hget) h11
    .exact hy k ob g h9 h10 h11
   .rename_i e sz rows hget;obtain ⟨h0,h1,h2,h3,h3',h4⟩:=hp;have hpv:=(ar h p).1;rw [hpe] at hpv;have hx:=ar h x;obtain ⟨w',h5,h6,h7,h8⟩:=jA h hpv hget hx.1 hx.2 h0 h1 h2 h3 h3' dst
    refine eL (by simp [execOp,Sem.run_bind,h5]) ⟨_,L,h4,h6,aY _ _ _,hS.step (by omega) (fun k hk hGk=>h8 k fun e=>hmay k hk hGk e),?_,fun _ _=>rfl,by rw [enext];exact I6 _,fun k o' _ hg=>by
     rw [etab,ag.gc] at hg;split at hg
     .rename_i e';exact ⟨_,by rw [e'];exact hget⟩
     .exact ⟨o',hg⟩⟩
    rw [etab];intro k ob g h9 h10 h11;rw [ag.gc] at h10;split at h10
    .rename_i e';exact hy k (.nest e sz rows) g h9 (by rw [e'];exact hget) h11
    .exact hy k ob g h9 h10 h11
   .exact hp.elim
  .exact hp.elim
 .rename_i t;split at hp
  .rename_i z hz;obtain ⟨h1,h2⟩:=hp;obtain ⟨h3,h4⟩:=pZ (P:=P) (t:=t) (av:=.c z) h (.tree (.c z)) trivial h1 dst;have hbw:Below w.heap.size w (w.alloc (.cells z.cells t)):=(Below.refl _ _).alloc (I6 _) _;refine aZ (by simp [execOp,Sem.run_bind,pa hz,h3]) ⟨_,_,h2,h4,aY _ _ _,hS.step hbw.size (fun k hk _=>hbw.block k (I1 hk hB)),?_,fun id hid=>?_,?_,fun k o' hk hg=>?_⟩
   .rw [etab];intro id ob g h5 h6 h7;rw [ag.gc] at h6;unfold bc at h7;split at h6
    .rename_i e;rw [I8 e] at h7;simp [aG] at h7;left;omega
    .rename_i e;rw [I4 e] at h7;exact hy id ob g h5 h6 h7
   .unfold bc;rw [I4 (by omega)]
   .rw [enext];exact JF _
   .rw [etab,ag.gc,I4 (by omega)] at hg;exact ⟨o',hg⟩
  .exact hp.elim
 .rename_i t x;obtain ⟨h1,h2⟩:=hp;have he:=ar h x;obtain ⟨h3,h4⟩:=pZ (P:=P) (t:=t) h he.1 he.2 h1 dst;have hbw:Below w.heap.size w (w.alloc (.cells (a.eval x).cells t)):=(Below.refl _ _).alloc (I6 _) _;refine aZ (by simp [execOp,Sem.run_bind,h3]) ⟨_,_,h2,h4,aY _ _ _,hS.step hbw.size (fun k hk _=>hbw.block k (I1 hk hB)),?_,fun id hid=>?_,?_,fun k o' hk hg=>?_⟩
  .rw [etab];intro id ob g h5 h6 h7;rw [ag.gc] at h6;unfold bc at h7;split at h6
   .rename_i e;rw [I8 e] at h7;simp [aG] at h7;left;omega
   .rename_i e;rw [I4 e] at h7;exact hy id ob g h5 h6 h7
  .unfold bc;rw [I4 (by omega)]
  .rw [enext];exact JF _
  .rw [etab,ag.gc,I4 (by omega)] at hg;exact ⟨o',hg⟩
 .rename_i t n parts;unfold cW at hp;have hy':oe nx0 B G (dt st (fu (parts.toList.flatMap fun (p:Nat × Operand)=>aj (aU st p.2)))).tab L:=m8 _ hy
  replace h:=fp (fu (parts.toList.flatMap fun (p:Nat × Operand)=>aj (aU st p.2))) h
  clear hy;have hy:=hy';have hnext:(dt st (fu (parts.toList.flatMap fun (p:Nat × Operand)=>aj (aU st p.2)))).next=st.next:=lJ _ _;unfold fl at hp;split at hp
  .rename_i e sz by_ ht;split at hp
   .obtain ⟨⟨h1,rfl,h3,h5⟩,h6⟩:=hp;obtain ⟨v',w',L',h7,h8,hb,rfl,hv⟩:=jq h ht h1 h3 h5 dst;refine aZ ?_ ⟨_,_,h6,h8,aY _ _ _,hS.step hb.size (fun k hk _=>hb.block k (I1 hk hB)),?_,fun id hid=>?_,?_,fun k o' hk hg=>?_⟩
    .simp only [Array.toArray_toList] at h7;simp [execOp,Sem.run_bind];simp at h7;simp [h7]
    .rw [etab];intro id ob g h1 h2 h3;rw [ag.gc] at h2;unfold bc at h3;split at h2
     .rename_i e;rw [I8 e,hv] at h3;cases h3;exact .inl hB
     .rename_i e;rw [I4 e] at h3;exact hy id ob g h1 h2 h3
    .unfold bc;rw [I4 (by omega)]
    .rw [enext];show st.next<=(dt st _).next+1;omega
    .rw [etab] at hg;simp only [ag.gc] at hg;rw [I4 (by omega)] at hg;exact ns _ k o' hg
   .obtain ⟨⟨h1,rfl,h3,h5⟩,h6⟩:=hp;obtain ⟨v',w',L',h7,h8,hb,rfl,hv⟩:=pN h ht h1 h3 h5 dst;refine aZ ?_ ⟨_,_,h6,h8,aY _ _ _,hS.step hb.size (fun k hk _=>hb.block k (I1 hk hB)),?_,fun id hid=>?_,?_,fun k o' hk hg=>?_⟩
    .simp only [Array.toArray_toList] at h7;simp [execOp,Sem.run_bind];simp at h7;simp [h7]
    .rw [etab];intro id ob g h1 h2 h3;rw [ag.gc] at h2;unfold bc at h3;split at h2
     .rename_i e;rw [I8 e,hv] at h3;cases h3;exact .inl hB
     .rename_i e;rw [I4 e] at h3;exact hy id ob g h1 h2 h3
    .unfold bc;rw [I4 (by omega)]
    .rw [enext];show st.next<=(dt st _).next+1;omega
    .rw [etab] at hg;simp only [ag.gc] at hg;rw [I4 (by omega)] at hg;exact ns _ k o' hg
  .exact hp.elim
 .rename_i t l c;unfold mJ at hp;split at hp
  .rename_i e sz by_ k1 n k2 m ht hl hc;split at hp
   .rename_i z hz;obtain ⟨⟨rfl,h1,h2,h3,h4⟩,h5⟩:=hp;have hl':=(ar h l).1;have hc':=(ar h c).1;rw [hl] at hl';rw [hc] at hc';obtain ⟨v',w',L',h6,h7,hb,rfl,hv⟩:=vY (k1:=k1) (k2:=k2) h ht hz h1 h2 h3 h4 dst;refine aZ (by simp [execOp,Sem.run_bind,hl'.c_inv,hc'.c_inv,h6]) ⟨_,_,h5,h7,aY _ _ _,hS.step hb.size (fun k hk _=>hb.block k (I1 hk hB)),?_,fun id hid=>?_,?_,fun k o' hk hg=>?_⟩
    .rw [etab];intro id ob g h1 h2 h3;rw [ag.gc] at h2;unfold bc at h3;split at h2
     .rename_i e;rw [I8 e,hv] at h3;cases h3;exact .inl hB
     .rename_i e;rw [I4 e] at h3;exact hy id ob g h1 h2 h3
    .unfold bc;rw [I4 (by omega)]
    .rw [enext];exact JF _
    .rw [etab,ag.gc,I4 (by omega)] at hg;exact ⟨o',hg⟩
   .exact hp.elim
  .exact hp.elim
 .rename_i c;obtain ⟨callee,args,argTypes⟩:=c;simp only at hp;split at hp
  .split at hp
   .rename_i x y t t' h1 h2;obtain rfl:args = #[x,y]:=by cases args;simp_all
    obtain rfl:argTypes = #[t,t']:=by cases argTypes;simp_all
    obtain ⟨⟨rfl,hfr⟩,hp⟩:=hp;unfold fj at hp;split at hp
    .rename_i hnn;obtain ⟨e1,e2⟩:=nD hnn;have hx1:=(ar h x).1;have hy1:=(ar h y).1;rw [e1] at hx1;rw [e2] at hy1;have hx2:=hx1.c_inv;have hy2:=hy1.c_inv;have hr:=iq (ty:=ty) (w:=w) hp.1;exact aZ (by simp [execOp,Sem.run_bind,resolve,invoke,builtin,hx2,hy2,hr]) ⟨_,L,hp.2,bd h (.tree (.c _)) trivial dst,aY _ _ _,hS,by rw [etab];exact hy,fun _ _=>rfl,by rw [enext];exact I6 _,fun id o _ hg=>⟨o,by rw [etab] at hg;exact hg⟩⟩
    unfold gC at hp;split at hp
    .rename_i e sz by_ ht;split at hp
     .rename_i oid rows rows2 hx hy2;obtain ⟨⟨h3,h4⟩,h5⟩:=hp;obtain ⟨v',w',L',h6,h7,hg,rfl,hv,hown⟩:=pi (ty:=ty) h (ar h x).1 (ar h y).1 ht hx hy2 (by simpa [maxLen] using h3) h4 dst
      have hoid:∀ id,oid=some id -> kB nx0 ids id /\ ∃ o,st.tab.get id=some o:=fun id hid=>by
       subst hid;unfold sD at hx;split at hx
       .rename_i id' hid';rw [hid'] at hfr;split at hx
        .rename_i e' sz' rows' hget;split at hx
         .cases hx;exact ⟨hfr,_,hget⟩
         .cases hx
        .cases hx
       .cases hx
       .cases hx
      have hown2:∀ g,(a.eval x).ownBlock=some g -> B<=g \/ G g:=fun g hg'=>by
       obtain ⟨id,hid,hbl⟩:=hown g hg';obtain ⟨h8,o,h9⟩:=hoid id hid;rcases h8 with h8|h8
       .exact .inr (hG id h8 g hbl)
       .exact hy id o g h8 h9 hbl
      refine aZ (by simp [execOp,Sem.run_bind,resolve,invoke,builtin,h6]) ⟨_,_,h5,h7,aY _ _ _,hS.step hg.size (fun k hk hnk=>hg.block k (I1 hk hB) fun e=>by rcases hown2 k e.symm with h9 | h9;omega;exact hnk h9),?_,fun id hid=>by unfold bc;rw [I4 (by omega)],by rw [enext];exact JF _,fun k o' hk hg=>by
       rw [etab] at hg;simp only [bj] at hg;rw [I4 (by omega)] at hg;split at hg
       .cases hg
       .exact ⟨o',hg⟩⟩
      rw [etab];intro id ob g h8 h9 h10;rw [bj] at h9;unfold bc at h10;split at h9
      .rename_i e1;rw [I8 e1] at h10;rcases hv with hv|hv
       .exact hown2 g (by rw [<- hv];exact h10)
       .rw [hv] at h10;cases h10;exact .inl hB
      .rename_i e1;rw [I4 e1] at h10;split at h9
       .cases h9
       .exact hy id ob g h8 h9 h10
     .split at hp
      .rename_i oid rows rows2 hx hy2;obtain ⟨⟨h3,h4⟩,h5⟩:=hp;obtain ⟨v',w',L',h6,h7,hg,rfl,hv,hown⟩:=nX (ty:=ty) h (ar h x).1 (ar h y).1 ht hx hy2 (by simpa [maxLen] using h3) h4 dst
       have hoid:∀ id,oid=some id -> kB nx0 ids id /\ ∃ o,st.tab.get id=some o:=fun id hid=>by
        subst hid;unfold jx at hx;split at hx
        .rename_i id' hid';rw [hid'] at hfr;split at hx
         .rename_i e' sz' rows' hget;split at hx
          .cases hx;exact ⟨hfr,_,hget⟩
          .cases hx
         .cases hx
        .cases hx
        .cases hx
       have hown2:∀ g,(a.eval x).ownBlock=some g -> B<=g \/ G g:=fun g hg'=>by
        obtain ⟨id,hid,hbl⟩:=hown g hg';obtain ⟨h8,o,h9⟩:=hoid id hid;rcases h8 with h8|h8
        .exact .inr (hG id h8 g hbl)
        .exact hy id o g h8 h9 hbl
       refine aZ (by simp [execOp,Sem.run_bind,resolve,invoke,builtin,h6]) ⟨_,_,h5,h7,aY _ _ _,hS.step hg.size (fun k hk hnk=>hg.block k (I1 hk hB) fun e=>by rcases hown2 k e.symm with h9 | h9;omega;exact hnk h9),?_,fun id hid=>by unfold bc;rw [I4 (by omega)],by rw [enext];exact JF _,fun k o' hk hg=>by
        rw [etab] at hg;simp only [bj] at hg;rw [I4 (by omega)] at hg;split at hg
        .cases hg
        .exact ⟨o',hg⟩⟩
       rw [etab];intro id ob g h8 h9 h10;rw [bj] at h9;unfold bc at h10;split at h9
       .rename_i e1;rw [I8 e1] at h10;rcases hv with hv|hv
        .exact hown2 g (by rw [<- hv];exact h10)
        .rw [hv] at h10;cases h10;exact .inl hB
       .rename_i e1;rw [I4 e1] at h10;split at h9
        .cases h9
        .exact hy id ob g h8 h9 h10
      .exact hp.elim
    .exact hp.elim
   .exact hp.elim
  .rename_i f;obtain ⟨g,xs,cs,hg,hxn,hxr,hp,hcs⟩:=qY (ar h f).1 (ar h f).2 hp;have hargs:=mG h (args:=args) hxn hxr;by_cases hmeth:vT (some (nx0,ids)) P st g (args.toList.map (aU st) ++ cs) (tJ dst K)
   .obtain ⟨hent,ids0,hmay,hc⟩:=wv h hargs.1 hargs.2 hmeth dst
    have hrun:(execOp a.eval { dst:=dst,op:=.call { callee:=.value f,args:=args,argTypes:=argTypes },type:=ty,pos:=pos,after:=aft,guard:=gd }).run P w=.ok (.enter g (args.map a.eval ++ xs)) w:=by
     have:=hent (args.map a.eval ++ xs) w;simp [execOp,Sem.run_bind,resolve,hg,Deferred.ofValue,invoke,this]
    unfold Oper.wp;rw [hrun];show Calls P g (args.map a.eval ++ xs) w _;refine hc.mono ?_;rintro e w' ⟨v,av,st',L',rfl,h1,h2,h3,h4,h5,h6,h7⟩
    have hblk:∀ id ∈ ids0,∀ o k,st.tab.get id=some o -> aG (L id)=some k -> B<=k \/ G k:=fun id hid o k h8 h9=>by
     rcases hmay _ rfl id hid with h10|h10
     .exact .inr (hG id h10 k h9)
     .exact hy id o k h10 h8 h9
    refine ⟨_,L',h1,h2,aY _ _ _,hS.step h3.size (fun k hk hGk=>h6 k (I1 hk hB) fun id hid o ho e=>?_),?_,h4,by rw [enext];exact h3.next,fun id o hid ho=>h5 id o hid (by rw [etab] at ho;exact ho)⟩
    .rcases hblk id hid o k ho e with h8 | h8
     .omega
     .exact hGk h8
    .rw [etab];intro id ob g' h8 h9 h10;rcases Jk id st.next with hlt|hge
     .obtain ⟨o',h11⟩:=h5 id ob hlt h9;rw [h4 id hlt] at h10;exact hy id o' g' h8 h11 h10
     .rcases h7 id ob g' hge h9 h10 with h11 | ⟨id',h11,⟨o',h12⟩,h13⟩
      .exact .inl (Jn hB h11)
      .exact hblk id' h11 o' g' h12 h13
   replace hp:n8 P st g (args.toList.map (aU st) ++ cs) (tJ dst K):=by
    rcases hp with hp|hp|hp
    .exact hp
    .cases hp.1
    .exact absurd hp hmeth
   have hent:dR P g:=by
    rcases hp with ⟨R,hd,_⟩|⟨hd,_⟩
    .exact hd.1
    .exact hd
   have hrun:(execOp a.eval { dst:=dst,op:=.call { callee:=.value f,args:=args,argTypes:=argTypes },type:=ty,pos:=pos,after:=aft,guard:=gd }).run P w=.ok (.enter g (args.map a.eval ++ xs)) w:=by
    have:=hent (args.map a.eval ++ xs) w;simp [execOp,Sem.run_bind,resolve,hg,Deferred.ofValue,invoke,this]
   unfold Oper.wp;rw [hrun];show Calls P g (args.map a.eval ++ xs) w _;have hargs:=mG h (args:=args) hxn hxr;refine (qp h hargs.1 hargs.2 hp dst).mono ?_
   .rintro e w' ⟨v,av,st',L',rfl,h1,h2,hb,hold,hnew,hnx'⟩;refine ⟨_,_,h1,h2,aY _ _ _,hS.step hb.size (fun k hk _=>hb.block k (I1 hk hB)),?_,fun id hid=>(hold id hid).2,by rw [enext];exact hnx',fun k o' hk hg=>⟨o',by rw [etab,(hold k hk).1] at hg;exact hg⟩⟩;rw [etab];intro id ob g h8 h9 h10;rcases Jk id st.next with hlt|hge
    .rw [(hold id hlt).1] at h9;rw [(hold id hlt).2] at h10;exact hy id ob g h8 h9 h10
    .exact .inl (Jn hB (hnew id ob g hge h9 h10))
  .exact hp.elim
 .exact hp.elim
def kd (Q:Exit -> Act -> World -> Prop):Exit -> Act -> World -> Prop
 | .panic _,_,_=>False
 | e,a,w=>Q e a w
structure fT (nx0 B:Nat) (ids:List Nat) (G:Nat -> Prop) (T0:ag) (L0:Nat -> Value) (st:ai) (L:Nat -> Value):Prop where
 loc:∀ id,id<nx0 -> L id=L0 id
 le:nx0<=st.next
 old:∀ id o,id<nx0 -> st.tab.get id=some o -> ∃ o',T0.get id=some o'
 far:∀ id o g,id<nx0 -> id ∉ ids -> T0.get id=some o -> aG (L id)=some g -> g<B /\ ¬ G g
theorem fT.same {nx0 B:Nat} {ids:List Nat} {G:Nat -> Prop} {T0:ag} {L0:Nat -> Value} {st st':ai} {L:Nat -> Value} (h:fT nx0 B ids G T0 L0 st L) (ht:st'.tab=st.tab) (hn:st'.next=st.next):fT nx0 B ids G T0 L0 st' L:=
 ⟨h.loc,by rw [hn];exact h.le,by rw [ht];exact h.old,h.far⟩
theorem fT.step {nx0 B:Nat} {ids:List Nat} {G:Nat -> Prop} {T0:ag} {L0:Nat -> Value} {st st':ai} {L L':Nat -> Value} (h:fT nx0 B ids G T0 L0 st L) (h1:∀ id,id<st.next -> L' id=L id) (h2:st.next<=st'.next) (h3:∀ id o,id<st.next -> st'.tab.get id=some o -> ∃ o',st.tab.get id=some o'):fT nx0 B ids G T0 L0 st' L':=
 ⟨fun id hi=>(h1 id (I1 hi h.le)).trans (h.loc id hi),Jn h.le h2,fun id o hi hg=>(h3 id o (I1 hi h.le) hg).elim fun o' hg'=>h.old id o' hi hg',fun id o g hi hn hT hg=>h.far id o g hi hn hT (by rw [<- h1 id (I1 hi h.le)];exact hg)⟩
theorem bt {ops:Array Oper} {K:ai -> Prop} {T0:ag} {nx0 B:Nat} {ids:List Nat} {G:Nat -> Prop} {wr:World} {Q:Exit -> Act -> World -> Prop} (hsel:Region.noSelect ops=true) {T:Nat -> Prop} {a0:Act} {L0:Nat -> Value} (hT:∀ (i:Nat) (o:Oper),ops[i]? = some o -> ∀ t,T t -> o.dst ≠ some t) (hQ:∀ a w st L,K st -> aH cx a w st L -> jo B G wr w -> oe nx0 B G st.tab L -> fT nx0 B ids G T0 L0 st L -> ca T a0 a -> Q .normal a w):∀ (s:jr) (listed:Array Bool) (a:Act) (w:World) (st:ai) (L:Nat -> Value),
  aH cx a w st L -> jo B G wr w -> oe nx0 B G st.tab L -> (∀ id ∈ ids,∀ g,aG (L id)=some g -> G g) -> (∀ id ∈ ids,id<st.next) -> fT nx0 B ids G T0 L0 st L -> ca T a0 a -> cq ops s listed=true -> bQ P ops nx0 ids K s st -> ∀ fuel,s.len<=fuel -> wpAnyH P .any ops (kd Q) (fun w'=>jo B G wr w') fuel listed a w
 | .done,listed,a,w,st,L,h,hS,hy,_,_,hE,hA,hB,hp,fuel,_=>wpAnyH_done (Q:=kd Q) (by simpa [cq] using hB) (hQ a w st L hp h hS hy hE hA) fuel
 | .take i s,listed,a,w,st,L,h,hS,hy,hG,hnx,hE,hA,hB,hp,fuel,hf=>by
  simp only [cq,I2] at hB;unfold bQ nq at hp;have etab:∀ (st:ai) d av,(st.put d av).tab=st.tab:=fun st d av=>by cases d<;>rfl
  have enext:∀ (st:ai) d av,(st.put d av).next=st.next:=fun st d av=>by cases d<;>rfl
  split at hp
  .rename_i o ho;obtain ⟨fuel',rfl⟩:∃ f,fuel=f+1:=⟨fuel - 1,by simp [jr.len] at hf;omega⟩;rcases bW h hp o rfl with ⟨hw,st',⟨hl,h0⟩,h2',ht',hn'⟩|⟨hw,st',h0,h2',ht',hn'⟩
   .by_cases hbld:∃ t parts,o.op=.build t parts
    .obtain ⟨t,parts,hop⟩:=hbld;rw [hop] at h0;obtain ⟨v,cs,h3,h4,h5,h6⟩:=kx h2' h0;refine wpAnyH_take (v:=v) ho hsel hB.1.1 hB.1.2 (fun _ _ _ h=>h) (.inl ⟨hw,fun w' _=>by simp [execOp,hop,Sem.run_bind,h5 w']⟩) hS ?_;exact bt hsel hT hQ s _ _ w _ L (bd h2' h3 h4 o.dst) hS (by rw [etab,ht'];exact hy) hG (fun id hid=>by rw [enext,hn'];exact hnx id hid) (hE.same (by rw [etab,ht']) (by rw [enext,hn'])) (hA.put (hT _ _ ho)) hB.2 h6 fuel' (by simp [jr.len] at hf;omega)
    replace h0:bM P st'.tab (aU st') o.op (aK st' o.dst (bQ P ops nx0 ids K s)):=by
     unfold cL at h0;split at h0
     .rename_i t parts hop;exact absurd ⟨t,parts,hop⟩ hbld
     .exact h0
    obtain ⟨v,av,h1,h2,h3,_,h5,h6⟩:=iT h2'.lay (fun id o hid=>(h2'.young id o hid).2) (ar h2') h0
    have hrd:∀ w',jo B G wr w' -> (execOp a.eval o).run P w'=.ok (.value v) w':=fun w' hw'=>by
     cases hld:fF o.op with
     | false=>exact h5 hld w'
     | true=>
      obtain ⟨t,x,hop⟩:∃ t x,o.op=.load t x:=by
       cases hop:o.op<;>simp [hop,fF] at hld;exact ⟨_,_,rfl⟩
      obtain ⟨b,hb,hr⟩:=h6 t x hop;rw [hop] at hl;have hev:=(ar h2' x).1;unfold k9 qx at hl;simp only at hl;split at hl
      .rename_i id i j he;obtain ⟨hl1,hl2,hl3⟩:=hl;split at hl3
       .rename_i o' hg;rw [he] at hev;obtain ⟨g,hg1,hg2⟩:=hev.op_inv _ _ (bZ hg);rw [hg2] at hb;simp [aG] at hb;subst hb;obtain ⟨o2,hT⟩:=hE.old id o' hl1 (by rw [<- ht'];exact hg);obtain ⟨h7,h8⟩:=hE.far id o2 g hl1 hl2 hT hg1;exact hr w' fun o' u hu=>(World.cell?_of_block ((hw'.block g h7 h8).trans (hS.block g h7 h8).symm)).trans hu
       .exact hl3.elim
      .exact hl.elim
    refine wpAnyH_take ho hsel hB.1.1 hB.1.2 (fun _ _ _ h=>h) (.inl ⟨hw,hrd⟩) hS ?_;exact bt hsel hT hQ s _ _ w _ L (bd h2' h2 h3 o.dst) hS (by rw [etab,ht'];exact hy) hG (fun id hid=>by rw [enext,hn'];exact hnx id hid) (hE.same (by rw [etab,ht']) (by rw [enext,hn'])) (hA.put (hT _ _ ho)) hB.2 h1 fuel' (by simp [jr.len] at hf;omega)
   .refine wpAnyH_take (v:=undef) ho hsel hB.1.1 hB.1.2 (fun _ _ _ h=>h) (.inr ⟨hw,rfl⟩) hS ?_;exact bt hsel hT hQ s _ _ w _ L (bJ h2' o.dst) hS (by rw [etab,ht'];exact hy) hG (fun id hid=>by rw [enext,hn'];exact hnx id hid) (hE.same (by rw [etab,ht']) (by rw [enext,hn'])) (hA.put (hT _ _ ho)) hB.2 h0 fuel' (by simp [jr.len] at hf;omega)
  .exact hp.elim
 | .exec i s,listed,a,w,st,L,h,hS,hy,hG,hnx,hE,hA,hB,hp,fuel,hf=>by
  simp only [cq,I2,Je] at hB;unfold bQ b6 at hp;have etab:∀ (st:ai) d av,(st.put d av).tab=st.tab:=fun st d av=>by cases d<;>rfl
  have enext:∀ (st:ai) d av,(st.put d av).next=st.next:=fun st d av=>by cases d<;>rfl
  split at hp
  .rename_i o ho;obtain ⟨fuel',rfl⟩:∃ f,fuel=f+1:=⟨fuel - 1,by simp [jr.len] at hf;omega⟩;refine wpAnyH_all hB.1 (by simp) fun j hj=>?_;obtain rfl:j=i:=by simpa using hj
   unfold wpOp;rw [ho];rcases bW h hp o rfl with ⟨hw,st1,h0,h2',ht',hn'⟩|⟨hw,st1,h0,h2',ht',hn'⟩
   .simp only [hw,if_true];refine .inl (Oper.wp_mono (fun a' w' ⟨⟨st',L',h1,h2,h8,h3,h4,h5,h6,h7⟩,h9⟩=>⟨h3,?_⟩) (dp (hT _ _ ho) (eu h2' hS (by rw [ht'];exact hy) hG (fun id hid=>by rw [hn'];exact hnx id hid) h0)));rw [hn'] at h5 h6 h7;exact bt hsel hT hQ s _ a' w' st' L' h2 h3 h4 (fun id hid g hg'=>hG id hid g (by rw [<- h5 id (hnx id hid)];exact hg')) (fun id hid=>I1 (hnx id hid) h6) (hE.step h5 h6 (by rw [ht'] at h7;exact h7)) (hA.trans ⟨h8,h9⟩) hB.2 h1 fuel' (by simp [jr.len] at hf;omega)
   .simp only [hw,Jv,if_false];refine ⟨hS,bt hsel hT hQ s _ _ w _ L (bJ h2' o.dst) hS (by rw [etab,ht'];exact hy) hG (fun id hid=>by rw [enext,hn'];exact hnx id hid) (hE.same (by rw [etab,ht']) (by rw [enext,hn'])) (hA.put (hT _ _ ho)) hB.2 h0 fuel' (by simp [jr.len] at hf;omega)⟩
  .exact hp.elim
 | .two i s k t,listed,a,w,st,L,h,hS,hy,hG,hnx,hE,hA,hB,hp,fuel,hf=>by
  simp only [cq,I2,Je] at hB;unfold bQ at hp;obtain ⟨hp,hp2⟩:=hp;unfold b6 at hp hp2;have etab:∀ (st:ai) d av,(st.put d av).tab=st.tab:=fun st d av=>by cases d<;>rfl
  have enext:∀ (st:ai) d av,(st.put d av).next=st.next:=fun st d av=>by cases d<;>rfl
  have hf1:s.len+1<=fuel:=Jn (Ki (KP s.len t.len)) hf;have hf2:t.len+1<=fuel:=Jn (Ki (Ka s.len t.len)) hf;obtain ⟨fuel',rfl⟩:∃ f,fuel=f+1:=⟨fuel - 1,by omega⟩;refine wpAnyH_all hB.1.1 (by simp) fun j hj=>?_;have hj:j=i \/ j=k:=by simpa using hj
  rcases hj with rfl|rfl
  .split at hp
   .rename_i o ho;unfold wpOp;rw [ho];rcases bW h hp o rfl with ⟨hw,st1,h0,h2',ht',hn'⟩|⟨hw,st1,h0,h2',ht',hn'⟩
    .simp only [hw,if_true];refine .inl (Oper.wp_mono (fun a' w' ⟨⟨st',L',h1,h2,h8,h3,h4,h5,h6,h7⟩,h9⟩=>⟨h3,?_⟩) (dp (hT _ _ ho) (eu h2' hS (by rw [ht'];exact hy) hG (fun id hid=>by rw [hn'];exact hnx id hid) h0)));rw [hn'] at h5 h6 h7;exact bt hsel hT hQ s _ a' w' st' L' h2 h3 h4 (fun id hid g hg'=>hG id hid g (by rw [<- h5 id (hnx id hid)];exact hg')) (fun id hid=>I1 (hnx id hid) h6) (hE.step h5 h6 (by rw [ht'] at h7;exact h7)) (hA.trans ⟨h8,h9⟩) hB.1.2 h1 fuel' (by omega)
    .simp only [hw,Jv,if_false];refine ⟨hS,bt hsel hT hQ s _ _ w _ L (bJ h2' o.dst) hS (by rw [etab,ht'];exact hy) hG (fun id hid=>by rw [enext,hn'];exact hnx id hid) (hE.same (by rw [etab,ht']) (by rw [enext,hn'])) (hA.put (hT _ _ ho)) hB.1.2 h0 fuel' (by omega)⟩
   .exact hp.elim
  .split at hp2
   .rename_i o ho;unfold wpOp;rw [ho];rcases bW h hp2 o rfl with ⟨hw,st1,h0,h2',ht',hn'⟩|⟨hw,st1,h0,h2',ht',hn'⟩
    .simp only [hw,if_true];refine .inl (Oper.wp_mono (fun a' w' ⟨⟨st',L',h1,h2,h8,h3,h4,h5,h6,h7⟩,h9⟩=>⟨h3,?_⟩) (dp (hT _ _ ho) (eu h2' hS (by rw [ht'];exact hy) hG (fun id hid=>by rw [hn'];exact hnx id hid) h0)));rw [hn'] at h5 h6 h7;exact bt hsel hT hQ t _ a' w' st' L' h2 h3 h4 (fun id hid g hg'=>hG id hid g (by rw [<- h5 id (hnx id hid)];exact hg')) (fun id hid=>I1 (hnx id hid) h6) (hE.step h5 h6 (by rw [ht'] at h7;exact h7)) (hA.trans ⟨h8,h9⟩) hB.2 h1 fuel' (by omega)
    .simp only [hw,Jv,if_false];refine ⟨hS,bt hsel hT hQ t _ _ w _ L (bJ h2' o.dst) hS (by rw [etab,ht'];exact hy) hG (fun id hid=>by rw [enext,hn'];exact hnx id hid) (hE.same (by rw [etab,ht']) (by rw [enext,hn'])) (hA.put (hT _ _ ho)) hB.2 h0 fuel' (by omega)⟩
   .exact hp2.elim
 | .three i s k t m u,listed,a,w,st,L,h,hS,hy,hG,hnx,hE,hA,hB,hp,fuel,hf=>by
  simp only [cq,I2,Je] at hB;unfold bQ at hp;obtain ⟨hp,hp2,hp3⟩:=hp;unfold b6 at hp hp2 hp3;have etab:∀ (st:ai) d av,(st.put d av).tab=st.tab:=fun st d av=>by cases d<;>rfl
  have enext:∀ (st:ai) d av,(st.put d av).next=st.next:=fun st d av=>by cases d<;>rfl
  have hf1:s.len+1<=fuel:=Jn (Ki (KP s.len _)) hf;have hf2:t.len+1<=fuel:=Jn (Ki (Jn (KP t.len u.len) (Ka s.len _))) hf;have hf3:u.len+1<=fuel:=Jn (Ki (Jn (Ka t.len u.len) (Ka s.len _))) hf;obtain ⟨fuel',rfl⟩:∃ f,fuel=f+1:=⟨fuel - 1,by omega⟩;refine wpAnyH_all hB.1.1.1 (by simp) fun j hj=>?_;have hj:j=i \/ j=k \/ j=m:=by simpa using hj
  rcases hj with rfl|rfl|rfl
  .split at hp
   .rename_i o ho;unfold wpOp;rw [ho];rcases bW h hp o rfl with ⟨hw,st1,h0,h2',ht',hn'⟩|⟨hw,st1,h0,h2',ht',hn'⟩
    .simp only [hw,if_true];refine .inl (Oper.wp_mono (fun a' w' ⟨⟨st',L',h1,h2,h8,h3,h4,h5,h6,h7⟩,h9⟩=>⟨h3,?_⟩) (dp (hT _ _ ho) (eu h2' hS (by rw [ht'];exact hy) hG (fun id hid=>by rw [hn'];exact hnx id hid) h0)));rw [hn'] at h5 h6 h7;exact bt hsel hT hQ s _ a' w' st' L' h2 h3 h4 (fun id hid g hg'=>hG id hid g (by rw [<- h5 id (hnx id hid)];exact hg')) (fun id hid=>I1 (hnx id hid) h6) (hE.step h5 h6 (by rw [ht'] at h7;exact h7)) (hA.trans ⟨h8,h9⟩) hB.1.1.2 h1 fuel' (by omega)
    .simp only [hw,Jv,if_false];refine ⟨hS,bt hsel hT hQ s _ _ w _ L (bJ h2' o.dst) hS (by rw [etab,ht'];exact hy) hG (fun id hid=>by rw [enext,hn'];exact hnx id hid) (hE.same (by rw [etab,ht']) (by rw [enext,hn'])) (hA.put (hT _ _ ho)) hB.1.1.2 h0 fuel' (by omega)⟩
   .exact hp.elim
  .split at hp2
   .rename_i o ho;unfold wpOp;rw [ho];rcases bW h hp2 o rfl with ⟨hw,st1,h0,h2',ht',hn'⟩|⟨hw,st1,h0,h2',ht',hn'⟩
    .simp only [hw,if_true];refine .inl (Oper.wp_mono (fun a' w' ⟨⟨st',L',h1,h2,h8,h3,h4,h5,h6,h7⟩,h9⟩=>⟨h3,?_⟩) (dp (hT _ _ ho) (eu h2' hS (by rw [ht'];exact hy) hG (fun id hid=>by rw [hn'];exact hnx id hid) h0)));rw [hn'] at h5 h6 h7;exact bt hsel hT hQ t _ a' w' st' L' h2 h3 h4 (fun id hid g hg'=>hG id hid g (by rw [<- h5 id (hnx id hid)];exact hg')) (fun id hid=>I1 (hnx id hid) h6) (hE.step h5 h6 (by rw [ht'] at h7;exact h7)) (hA.trans ⟨h8,h9⟩) hB.1.2 h1 fuel' (by omega)
    .simp only [hw,Jv,if_false];refine ⟨hS,bt hsel hT hQ t _ _ w _ L (bJ h2' o.dst) hS (by rw [etab,ht'];exact hy) hG (fun id hid=>by rw [enext,hn'];exact hnx id hid) (hE.same (by rw [etab,ht']) (by rw [enext,hn'])) (hA.put (hT _ _ ho)) hB.1.2 h0 fuel' (by omega)⟩
   .exact hp2.elim
  .split at hp3
   .rename_i o ho;unfold wpOp;rw [ho];rcases bW h hp3 o rfl with ⟨hw,st1,h0,h2',ht',hn'⟩|⟨hw,st1,h0,h2',ht',hn'⟩
    .simp only [hw,if_true];refine .inl (Oper.wp_mono (fun a' w' ⟨⟨st',L',h1,h2,h8,h3,h4,h5,h6,h7⟩,h9⟩=>⟨h3,?_⟩) (dp (hT _ _ ho) (eu h2' hS (by rw [ht'];exact hy) hG (fun id hid=>by rw [hn'];exact hnx id hid) h0)));rw [hn'] at h5 h6 h7;exact bt hsel hT hQ u _ a' w' st' L' h2 h3 h4 (fun id hid g hg'=>hG id hid g (by rw [<- h5 id (hnx id hid)];exact hg')) (fun id hid=>I1 (hnx id hid) h6) (hE.step h5 h6 (by rw [ht'] at h7;exact h7)) (hA.trans ⟨h8,h9⟩) hB.2 h1 fuel' (by omega)
    .simp only [hw,Jv,if_false];refine ⟨hS,bt hsel hT hQ u _ _ w _ L (bJ h2' o.dst) hS (by rw [etab,ht'];exact hy) hG (fun id hid=>by rw [enext,hn'];exact hnx id hid) (hE.same (by rw [etab,ht']) (by rw [enext,hn'])) (hA.put (hT _ _ ho)) hB.2 h0 fuel' (by omega)⟩
   .exact hp3.elim
 | .four i s k t m u n v,listed,a,w,st,L,h,hS,hy,hG,hnx,hE,hA,hB,hp,fuel,hf=>by
  simp only [cq,I2,Je] at hB;unfold bQ at hp;obtain ⟨hp,hp2,hp3,hp4⟩:=hp;unfold b6 at hp hp2 hp3 hp4;have etab:∀ (st:ai) d av,(st.put d av).tab=st.tab:=fun st d av=>by cases d<;>rfl
  have enext:∀ (st:ai) d av,(st.put d av).next=st.next:=fun st d av=>by cases d<;>rfl
  have hf1:s.len+1<=fuel:=Jn (Ki (KP s.len _)) hf;have hf2:t.len+1<=fuel:=Jn (Ki (Jn (KP t.len _) (Ka s.len _))) hf;have hf3:u.len+1<=fuel:=Jn (Ki (Jn (Jn (KP u.len v.len) (Ka t.len _)) (Ka s.len _))) hf;have hf4:v.len+1<=fuel:=Jn (Ki (Jn (Jn (Ka u.len v.len) (Ka t.len _)) (Ka s.len _))) hf;obtain ⟨fuel',rfl⟩:∃ f,fuel=f+1:=⟨fuel - 1,by omega⟩;refine wpAnyH_all hB.1.1.1.1 (by simp) fun j hj=>?_;have hj:j=i \/ j=k \/ j=m \/ j=n:=by simpa using hj
  rcases hj with rfl|rfl|rfl|rfl
  .split at hp
   .rename_i o ho;unfold wpOp;rw [ho];rcases bW h hp o rfl with ⟨hw,st1,h0,h2',ht',hn'⟩|⟨hw,st1,h0,h2',ht',hn'⟩
    .simp only [hw,if_true];refine .inl (Oper.wp_mono (fun a' w' ⟨⟨st',L',h1,h2,h8,h3,h4,h5,h6,h7⟩,h9⟩=>⟨h3,?_⟩) (dp (hT _ _ ho) (eu h2' hS (by rw [ht'];exact hy) hG (fun id hid=>by rw [hn'];exact hnx id hid) h0)));rw [hn'] at h5 h6 h7;exact bt hsel hT hQ s _ a' w' st' L' h2 h3 h4 (fun id hid g hg'=>hG id hid g (by rw [<- h5 id (hnx id hid)];exact hg')) (fun id hid=>I1 (hnx id hid) h6) (hE.step h5 h6 (by rw [ht'] at h7;exact h7)) (hA.trans ⟨h8,h9⟩) hB.1.1.1.2 h1 fuel' (by omega)
    .simp only [hw,Jv,if_false];refine ⟨hS,bt hsel hT hQ s _ _ w _ L (bJ h2' o.dst) hS (by rw [etab,ht'];exact hy) hG (fun id hid=>by rw [enext,hn'];exact hnx id hid) (hE.same (by rw [etab,ht']) (by rw [enext,hn'])) (hA.put (hT _ _ ho)) hB.1.1.1.2 h0 fuel' (by omega)⟩
   .exact hp.elim
  .split at hp2
   .rename_i o ho;unfold wpOp;rw [ho];rcases bW h hp2 o rfl with ⟨hw,st1,h0,h2',ht',hn'⟩|⟨hw,st1,h0,h2',ht',hn'⟩
    .simp only [hw,if_true];refine .inl (Oper.wp_mono (fun a' w' ⟨⟨st',L',h1,h2,h8,h3,h4,h5,h6,h7⟩,h9⟩=>⟨h3,?_⟩) (dp (hT _ _ ho) (eu h2' hS (by rw [ht'];exact hy) hG (fun id hid=>by rw [hn'];exact hnx id hid) h0)));rw [hn'] at h5 h6 h7;exact bt hsel hT hQ t _ a' w' st' L' h2 h3 h4 (fun id hid g hg'=>hG id hid g (by rw [<- h5 id (hnx id hid)];exact hg')) (fun id hid=>I1 (hnx id hid) h6) (hE.step h5 h6 (by rw [ht'] at h7;exact h7)) (hA.trans ⟨h8,h9⟩) hB.1.1.2 h1 fuel' (by omega)
    .simp only [hw,Jv,if_false];refine ⟨hS,bt hsel hT hQ t _ _ w _ L (bJ h2' o.dst) hS (by rw [etab,ht'];exact hy) hG (fun id hid=>by rw [enext,hn'];exact hnx id hid) (hE.same (by rw [etab,ht']) (by rw [enext,hn'])) (hA.put (hT _ _ ho)) hB.1.1.2 h0 fuel' (by omega)⟩
   .exact hp2.elim
  .split at hp3
   .rename_i o ho;unfold wpOp;rw [ho];rcases bW h hp3 o rfl with ⟨hw,st1,h0,h2',ht',hn'⟩|⟨hw,st1,h0,h2',ht',hn'⟩
    .simp only [hw,if_true];refine .inl (Oper.wp_mono (fun a' w' ⟨⟨st',L',h1,h2,h8,h3,h4,h5,h6,h7⟩,h9⟩=>⟨h3,?_⟩) (dp (hT _ _ ho) (eu h2' hS (by rw [ht'];exact hy) hG (fun id hid=>by rw [hn'];exact hnx id hid) h0)));rw [hn'] at h5 h6 h7;exact bt hsel hT hQ u _ a' w' st' L' h2 h3 h4 (fun id hid g hg'=>hG id hid g (by rw [<- h5 id (hnx id hid)];exact hg')) (fun id hid=>I1 (hnx id hid) h6) (hE.step h5 h6 (by rw [ht'] at h7;exact h7)) (hA.trans ⟨h8,h9⟩) hB.1.2 h1 fuel' (by omega)
    .simp only [hw,Jv,if_false];refine ⟨hS,bt hsel hT hQ u _ _ w _ L (bJ h2' o.dst) hS (by rw [etab,ht'];exact hy) hG (fun id hid=>by rw [enext,hn'];exact hnx id hid) (hE.same (by rw [etab,ht']) (by rw [enext,hn'])) (hA.put (hT _ _ ho)) hB.1.2 h0 fuel' (by omega)⟩
   .exact hp3.elim
  .split at hp4
   .rename_i o ho;unfold wpOp;rw [ho];rcases bW h hp4 o rfl with ⟨hw,st1,h0,h2',ht',hn'⟩|⟨hw,st1,h0,h2',ht',hn'⟩
    .simp only [hw,if_true];refine .inl (Oper.wp_mono (fun a' w' ⟨⟨st',L',h1,h2,h8,h3,h4,h5,h6,h7⟩,h9⟩=>⟨h3,?_⟩) (dp (hT _ _ ho) (eu h2' hS (by rw [ht'];exact hy) hG (fun id hid=>by rw [hn'];exact hnx id hid) h0)));rw [hn'] at h5 h6 h7;exact bt hsel hT hQ v _ a' w' st' L' h2 h3 h4 (fun id hid g hg'=>hG id hid g (by rw [<- h5 id (hnx id hid)];exact hg')) (fun id hid=>I1 (hnx id hid) h6) (hE.step h5 h6 (by rw [ht'] at h7;exact h7)) (hA.trans ⟨h8,h9⟩) hB.2 h1 fuel' (by omega)
    .simp only [hw,Jv,if_false];refine ⟨hS,bt hsel hT hQ v _ _ w _ L (bJ h2' o.dst) hS (by rw [etab,ht'];exact hy) hG (fun id hid=>by rw [enext,hn'];exact hnx id hid) (hE.same (by rw [etab,ht']) (by rw [enext,hn'])) (hA.put (hT _ _ ho)) hB.2 h0 fuel' (by omega)⟩
   .exact hp4.elim
theorem kb {ops:Array Oper} {K:ai -> Prop} {T:ag} {Tz:Nat -> Prop} {a0:Act} {nx:Nat} {ids:List Nat} {S:World -> Prop} {Q:Exit -> Act -> World -> Prop} (hsel:Region.noSelect ops=true) (hTz:∀ (i:Nat) (o:Oper),ops[i]? = some o -> ∀ t,Tz t -> o.dst ≠ some t) (s:jr) (hS:S w)
  (hSw:∀ w' b,S w' -> (Sx cx w T L b \/ ∃ id o,id ∉ ids /\ T.get id=some o /\ aG (L id)=some b) -> pI b w w')
  (hQ:∀ listed a st,ca Tz a0 a -> st.tab=T -> st.next=nx -> cq ops s listed=true -> K st -> aH cx a w st L -> ∀ fuel,s.len<=fuel -> wpAnyH P .any ops (kd Q) S fuel listed a w):∀ (hd:List Nat) (listed:Array Bool) (a:Act) (st:ai),
  ca Tz a0 a -> aH cx a w st L -> st.tab=T -> st.next=nx -> lw ops hd s listed=true -> fW P ops ids K hd st -> ∀ fuel,hd.length+s.len<=fuel -> wpAnyH P .any ops (kd Q) S fuel listed a w
 | [],listed,a,st,hA,h,hT,hN,hB,hp,fuel,hf=>hQ listed a st hA hT hN hB hp h fuel (by simpa using hf)
 | i :: hd,listed,a,st,hA,h,hT,hN,hB,hp,fuel,hf=>by
  simp only [lw,I2] at hB;unfold fW p7 at hp;have etab:∀ (st:ai) d av,(st.put d av).tab=st.tab:=fun st d av=>by cases d<;>rfl
  have enext:∀ (st:ai) d av,(st.put d av).next=st.next:=fun st d av=>by cases d<;>rfl
  split at hp
  .rename_i o ho;obtain ⟨fuel',rfl⟩:∃ f,fuel=f+1:=⟨fuel - 1,by simp at hf;omega⟩;rcases bW h hp o rfl with ⟨hw,st',⟨hl,h0⟩,h2',ht',hn'⟩|⟨hw,st',h0,h2',ht',hn'⟩
   .by_cases hbld:∃ t parts,o.op=.build t parts
    .obtain ⟨t,parts,hop⟩:=hbld;rw [hop] at h0;obtain ⟨v,cs,h3,h4,h5,h6⟩:=kx h2' h0;refine wpAnyH_take (v:=v) ho hsel hB.1.1 hB.1.2 (fun _ _ _ h=>h) (.inl ⟨hw,fun w' _=>by simp [execOp,hop,Sem.run_bind,h5 w']⟩) hS ?_;exact kb hsel hTz s hS hSw hQ hd _ _ _ (hA.put (hTz _ _ ho)) (bd h2' h3 h4 o.dst) (by rw [etab,ht',hT]) (by rw [enext,hn',hN]) hB.2 h6 fuel' (by simp at hf;omega)
    replace h0:bM P st'.tab (aU st') o.op (aK st' o.dst (fW P ops ids K hd)):=by
     unfold cL at h0;split at h0
     .rename_i t parts hop;exact absurd ⟨t,parts,hop⟩ hbld
     .exact h0
    obtain ⟨v,av,h1,h2,h3,_,h5,h6⟩:=iT h2'.lay (fun id o hid=>(h2'.young id o hid).2) (ar h2') h0
    have hy:∀ w',S w' -> (execOp a.eval o).run P w'=.ok (.value v) w':=fun w' hw'=>by
     cases hld:fF o.op with
     | false=>exact h5 hld w'
     | true=>
      obtain ⟨t,x,hop⟩:∃ t x,o.op=.load t x:=by
       cases hop:o.op<;>simp [hop,fF] at hld;exact ⟨_,_,rfl⟩
      obtain ⟨b,hb,hr⟩:=h6 t x hop;refine hr w' (hSw w' b hw' ?_);rw [hop] at hl;have hev:=(ar h2' x).1;unfold n4 rL at hl;simp only at hl;split at hl
      .rename_i id i j he;rw [he] at hev;rw [hop] at h0;simp only [bM,ig,he] at h0
       cases hg:st'.tab.get id with
       | none=>rw [hg] at h0;exact h0.elim
       | some ob=>
        obtain ⟨g,hg1,hg2⟩:=hev.op_inv _ _ (bZ hg);rw [hg2] at hb;simp [aG] at hb;subst hb;exact .inr ⟨id,ob,hl,by rw [<- hT,<- ht'];exact hg,hg1⟩
      .rename_i cs he;rw [he] at hev;obtain ⟨b',o',U,hg2,hb',_⟩:=hev.rp_inv;rw [hg2] at hb;simp [aG] at hb;subst hb;refine .inl ?_;rw [<- hT,<- ht'];exact hb'
      .exact hl.elim
    refine wpAnyH_take ho hsel hB.1.1 hB.1.2 (fun _ _ _ h=>h) (.inl ⟨hw,hy⟩) hS ?_;exact kb hsel hTz s hS hSw hQ hd _ _ _ (hA.put (hTz _ _ ho)) (bd h2' h2 h3 o.dst) (by rw [etab,ht',hT]) (by rw [enext,hn',hN]) hB.2 h1 fuel' (by simp at hf;omega)
   .refine wpAnyH_take (v:=undef) ho hsel hB.1.1 hB.1.2 (fun _ _ _ h=>h) (.inr ⟨hw,rfl⟩) hS ?_;exact kb hsel hTz s hS hSw hQ hd _ _ _ (hA.put (hTz _ _ ho)) (bJ h2' o.dst) (by rw [etab,ht',hT]) (by rw [enext,hn',hN]) hB.2 h0 fuel' (by simp at hf;omega)
  .exact hp.elim
theorem kV {p:Nat -> Prop} (h:∃ n,p n):∃ n,p n /\ ∀ m,p m -> n<=m:=by
 obtain ⟨n,hn⟩:=h
 induction n using Nat.strongRecOn with
 | _ n ih=>
  by_cases hx:∃ m,m<n /\ p m
  .obtain ⟨m,hm,hp⟩:=hx;exact ih m hm hp
  .exact ⟨n,hn,fun m hm=>Nat.le_of_not_lt fun hlt=>hx ⟨m,hlt,hm⟩⟩
open Classical in
noncomputable def pr (p:Nat -> Prop):Nat:=if h:∃ n,p n then (kV h).choose else 0
theorem nz {p:Nat -> Prop} (h:∃ n,p n):p (pr p) /\ ∀ m,p m -> pr p<=m:=by
 unfold pr;rw [dif_pos h];exact (kV h).choose_spec
abbrev lb (cx:Cx) (Q:Exit -> ai -> Prop):Exit -> Act -> World -> Prop:=fun e a w=>∃ st L,Q e st /\ aH cx a w st L
theorem p6 (hm:P.follows .mixedOrders=true):∀ (c:Code) (Q:Exit -> ai -> Prop) (a:Act) (w:World) (st:ai) (L:Nat -> Value),aH cx a w st L -> bB P c Q st -> c.wp P (lb cx Q) a w:=by
 intro c
 induction c with
 | skip=>exact fun Q a w st L h hp=>wp_skip ⟨st,L,hp,h⟩
 | region id ops draw=>
  intro Q a w st L h hp;unfold bB DQ at hp
  cases draw with
  | false=>exact wp_region_list (qM (fun a w st L h1 h2=>⟨st,L,h1,h2⟩) _ _ _ _ _ h (by simpa using hp))
  | true=>
   simp only [if_true] at hp;obtain ⟨l⟩:=ops;rcases hp with ⟨hB,hp⟩|⟨n,hB,hp⟩|⟨ids,hd,s,hB,K',hK',hids,hp⟩
   .exact wp_region_quiet (C:=fun w'=>Below w.heap.size w w') hm hB ((Below.refl _ _).drew) (kh (L:=L) (T:=fun _=>False) (a0:=a) (tab0:=st.tab) (fun a' st' h1 h2 _ _ w' hw'=>⟨st',L,h1,j0 h2 hw'⟩) _ _ _ (fun _ _ _ h=>h.elim) rfl (.refl a) h hp)
   .have h':aH cx a w.drew st L:=j0 h ((Below.refl _ _).drew);exact wp_region_still_tail n hm hB (pP (T:=fun _=>False) (a0:=a) (tab0:=st.tab) (fun a' st' h1 h2 _ _=>qM (fun a w st L h1 h2=>⟨st,L,h1,h2⟩) _ _ _ _ _ h2 h1) _ _ _ (fun _ _ _ h=>h.elim) rfl (.refl a) h' hp)
   .simp only [I2] at hB;have hB:=And.intro hB.1 (Nat.le_of_ble_eq_true hB.2);have h':aH cx a w.drew st L:=j0 h ((Below.refl _ _).drew)
    let G:Nat -> Prop:=fun k=>∃ id ∈ ids,aG (L id)=some k
    refine Code.wp_mono (Q:=kd (lb cx Q)) (fun e a w hq=>?_) (wp_region_held (S:=fun w'=>jo w.drew.heap.size G w.drew w') hm ?_)
    .cases e<;>first|exact hq|exact hq.elim
    .refine kb (T:=st.tab) (Tz:=fun _=>False) (a0:=a) (nx:=st.next) (ids:=ids) hB.1.1 (fun _ _ _ _ h=>h.elim) s ⟨I6 _,fun _ _ _=>rfl⟩ (fun w' b hw' hb o u hu=>?_) (fun listed a' st' _ hT hN hB' hK h2 fuel hf=>?_) hd _ _ _ (.refl a) h' rfl rfl hB.1.2 hp _ hB.2
     .have hlt:=World.block_lt_of_cell? w.drew _ hu;refine (World.cell?_of_block (hw'.block b hlt fun ⟨id,hid,hbl⟩=>?_)).trans hu;obtain ⟨ob,hob⟩:=J3.1 (hids id hid);rcases hb with hb|⟨id',o',hni,hget,hbl'⟩
      .exact hb.2.2 id ob hob hbl
      .exact hni (h.lay.sep id' id o' ob b hget hob hbl' hbl ▸ hid)
     .refine bt (Q:=lb cx Q) (T0:=st.tab) (T:=fun _=>False) (a0:=a') (L0:=L) hB.1.1 (fun _ _ _ _ h=>h.elim) (fun a w st L h1 h2 _ _ _ _=>(hK' st h1).elim fun st' h3=>(h3.1 cx a w L h2).elim fun L' h4=>⟨st',L',h3.2,h4.1⟩) s listed a' w.drew st' L h2 ⟨I6 _,fun _ _ _=>rfl⟩ (fun id o g h3 h4 _=>by
       rw [hT] at h4;have:=(h.young id o h4).1;omega) (fun id hid g hg=>⟨id,hid,hg⟩) (fun id hid=>by
       obtain ⟨ob,hob⟩:=J3.1 (hids id hid);rw [hN];exact (h.young id ob hob).1) ⟨fun _ _=>rfl,by rw [hN];exact I6 _,fun id o _ hg=>⟨o,by rw [<- hT];exact hg⟩,fun id o g _ hni hg hbl=>?_⟩ (.refl a') hB' hK fuel hf
      refine ⟨((h'.lay.objs id _ hg).ge hbl).2,fun ⟨id',hid',hbl'⟩=>hni ?_⟩;obtain ⟨ob,hob⟩:=J3.1 (hids id' hid');exact h.lay.sep id id' _ ob g hg hob hbl hbl' ▸ hid'
 | seq x y ihx ihy=>
  intro Q a w st L h hp;unfold bB at hp;refine wp_seq (Code.wp_mono (fun e a' w' ⟨st',L',h1,h2⟩=>?_) (ihx _ a w st L h hp))
  cases e with
  | normal=>exact ihy Q a' w' st' L' h2 h1
  | _=>exact ⟨st',L',h1,h2⟩
 | cond c x y ihx ihy=>
  intro Q a w st L h hp;unfold bB wg at hp;split at hp
  .rename_i b hb;have hv:=(ar h c).1;rw [hb] at hv;have hv:=hv.c_inv;cases b
   .exact wp_cond_false hv (ihy Q a w st L h hp)
   .exact wp_cond_true hv (ihx Q a w st L h hp)
  .exact hp.elim
 | block id x ih=>
  intro Q a w st L h hp;unfold bB at hp;refine wp_block (Code.wp_mono (fun e a' w' ⟨st',L',h1,h2⟩=>?_) (ih _ a w st L h hp))
  cases e with
  | exit id'=>
   simp only [gh,Exit.inBlock] at h1 ⊢;split
   .rename_i e;rw [I8 e] at h1;exact ⟨st',L',h1,h2⟩
   .rename_i e;rw [I4 e] at h1;exact ⟨st',L',h1,h2⟩
  | _=>exact ⟨st',L',h1,h2⟩
 | loop x ih=>
  intro Q a w st L h hp;unfold bB at hp;obtain ⟨I,μ,⟨IO0,hw0,hI⟩,hr⟩:=hp
  let p:Act -> World -> Nat -> Prop:=fun a w n=>∃ st L,I st /\ aH cx a w st L /\ μ st=n
  obtain ⟨L0,hL0,_⟩:=hw0 _ _ _ _ h;refine wp_loop (fun a w=>∃ n,p a w n) (fun a w=>pr (p a w)) ⟨_,IO0,L0,hI,hL0,rfl⟩ fun a w hpa=>?_;obtain ⟨⟨st,L,h1,h2,h3⟩,_⟩:=nz hpa;refine Code.wp_mono (fun e a' w' ⟨st',L',h4,h5⟩=>?_) (ih _ a w st L h2 (hr st h1))
  cases e with
  | normal=>
   obtain ⟨st'',hw,hI'',hlt⟩:=h4;obtain ⟨L1,hL1,_⟩:=hw _ _ _ _ h5;have hpn:p a' w' (μ st''):=⟨st'',L1,hI'',hL1,rfl⟩;refine ⟨⟨_,hpn⟩,?_⟩;have:=(nz ⟨_,hpn⟩).2 _ hpn;show pr (p a' w')<pr (p a w);omega
  | _=>exact ⟨st',L',h4,h5⟩
 | exit id=>exact fun Q a w st L h hp=>wp_exit ⟨st,L,hp,h⟩
 | ret=>exact fun Q a w st L h hp=>wp_ret ⟨st,L,hp,h⟩
 | rangeFunc g ps assign body=>exact fun Q a w st L h hp=>hp cx a w L h
 | label l=>exact fun Q a w st L h hp=>wp_label ⟨st,L,hp,h⟩
 | scope x ih=>
  intro Q a w st L h hp;unfold bB at hp;refine wp_scope_straight (Code.wp_mono (fun e a' w' ⟨st',L',h1,h2⟩=>?_) (ih _ a w st L h hp))
  cases e with
  | goto l=>exact h1
  | _=>exact ⟨st',L',h1,h2⟩
 | _=>exact fun Q a w st L h hp=>hp.elim
end
end
end
end Go.Proofs.YtiaiihjmmfakdaaGreat
