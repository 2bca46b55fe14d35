/-
  Parts of the proof: Clp4.
-/
import Derived.Test.YtmmoidfcfjklaaaGreatClq2
import Derived.Deep.Quiet
import Derived.StillTail
import Derived.OrdersHeld
import Derived.Scope
set_option linter.unusedVariables false
set_option linter.unusedSimpArgs false
set_option linter.defProp false
set_option maxRecDepth 100000
set_option maxHeartbeats 16000000
namespace Go.Proofs.YtmmoidfcfjklaaaGreat
open Go.RowKit
section
section
def qq (P:Program) (t:TypeId) (st:aj) (p x:AV) (K:aj -> Prop):Prop:=
 match p with
 | .op id i j=>match st.tab.get id with
  | some (.box ty cells)=>i=0 /\ 0<ar P t /\ (aq x).length=ar P t /\ j+ar P t<=cells.length /\ eX st.tab (aq x) /\ K { st with tab:=(id,some (.box ty (cells.take j ++ aq x ++ cells.drop (j+ar P t)))) :: st.tab }
  | some (.row e sz rows)=>i<rows.length /\ 0<ar P t /\ (aq x).length=ar P t /\ j+ar P t<=sz /\ eX st.tab (aq x) /\ aR (aq x) /\ K { st with tab:=(id,some (.row e sz (rows.set i ((rows[i]?.getD []).take j ++ aq x ++ (rows[i]?.getD []).drop (j+ar P t))))) :: st.tab }
  | some (.nest e sz rows)=>i<rows.length /\ 0<ar P t /\ (aq x).length=ar P t /\ j+ar P t<=sz /\ eX st.tab (aq x) /\ K { st with tab:=(id,some (.nest e sz (rows.set i ((rows[i]?.getD []).take j ++ aq x ++ (rows[i]?.getD []).drop (j+ar P t))))) :: st.tab }
  | _=>False
 | _=>False
def oM (P:Program) (t:TypeId) (st:aj) (id i j:Nat) (x:AV) (K:aj -> Prop):Prop:=
 match st.tab.get id with
 | some (.box ty cells)=>i=0 /\ 0<ar P t /\ (aq x).length=ar P t /\ j+ar P t<=cells.length /\ eX st.tab (aq x) /\ K { st with tab:=(id,some (.box ty (cells.take j ++ aq x ++ cells.drop (j+ar P t)))) :: st.tab }
 | some (.row e sz rows)=>i<rows.length /\ 0<ar P t /\ (aq x).length=ar P t /\ j+ar P t<=sz /\ eX st.tab (aq x) /\ aR (aq x) /\ K { st with tab:=(id,some (.row e sz (rows.set i ((rows[i]?.getD []).take j ++ aq x ++ (rows[i]?.getD []).drop (j+ar P t))))) :: st.tab }
 | some (.nest e sz rows)=>i<rows.length /\ 0<ar P t /\ (aq x).length=ar P t /\ j+ar P t<=sz /\ eX st.tab (aq x) /\ K { st with tab:=(id,some (.nest e sz (rows.set i ((rows[i]?.getD []).take j ++ aq x ++ (rows[i]?.getD []).drop (j+ar P t))))) :: st.tab }
 | _=>False
def yZ (t:TypeId) (st:aj) (x:AV) (dst:Option Nat) (K:aj -> Prop):Prop:=
 eX st.tab (aq x) /\ K ({ st with tab:=(st.next,some (.box t (aq x))) :: st.tab,next:=st.next+1 }.put dst (.op st.next 0 0))
def kk (P:Program) (t:TypeId) (st:aj) (x y:AV) (dst:Option Nat) (K:aj -> Prop):Prop:=
 match dr P t with
 | some (e,sz,by_)=>match xl st.tab e sz x,Ag st.tab sz y with
  | some (oid,rows),some rows2=>(rows.length+rows2.length<=9223372036854775807 /\ (rows.length+rows2.length) * by_<=140737488355328) /\ K ({ st with tab:=bT st.tab st.next oid (.row e sz (rows ++ rows2)),next:=st.next+1 }.put dst (.osl st.next))
  | _,_=>match lO st.tab e sz x,qV st.tab sz y with
   | some (oid,rows),some rows2=>(rows.length+rows2.length<=9223372036854775807 /\ (rows.length+rows2.length) * by_<=140737488355328) /\ K ({ st with tab:=bT st.tab st.next oid (.nest e sz (rows ++ rows2)),next:=st.next+1 }.put dst (.osl st.next))
   | _,_=>False
 | none=>False
def Cy:AV -> AV -> Bool
 | .c (.slice none 0 0),.c (.slice none 0 0)=>true
 | _,_=>false
theorem nW {x y:AV} (h:Cy x y=true):x=.c (.slice none 0 0) /\ y=.c (.slice none 0 0):=by
 unfold Cy at h;split at h
 .exact ⟨rfl,rfl⟩
 .cases h
def jQ (P:Program) (t:TypeId) (st:aj) (x y:AV) (dst:Option Nat) (K:aj -> Prop):Prop:=
 match Cy x y with
 | true=>(dr P t).isSome=true /\ K (st.put dst (.c (.slice none 0 0)))
 | false=>kk P t st x y dst K
section
variable {P:Program} {t:TypeId} {st:aj} {y:AV} {dst:Option Nat} {K:aj -> Prop} {id sz:Nat} {rows:List (List AV)}
theorem FV:jQ P t st (.osl id) y dst K=kk P t st (.osl id) y dst K:=rfl
end
theorem jy {P:Program} {t ty:TypeId} {w:World} (h:(dr P t).isSome=true):(Builtin.append_ #[t,t] ty #[.slice none 0 0,.slice none 0 0]).run P w=.ok (.slice none 0 0) w:=by
 obtain ⟨⟨e,sz,by_⟩,ht⟩:=V4.1 h;obtain ⟨i,z,hund,hi,hz,hs,hb,hzs,h0⟩:=gT ht;exact iR 0 hund hi (ku w 0 e i.size)
def gl (P:Program) (t:TypeId) (n:Nat) (parts:List (Nat × Operand)) (dst:Option Nat) (K:aj -> Prop) (st:aj):Prop:=
 match dr P t with
 | some (e,sz,_)=>match gM (parts.flatMap fun (p:Nat × Operand)=>aq (bm st p.2)) with
  | []=>(parts.map (·.1)=List.range' 0 parts.length /\ n=parts.length /\ parts.length * sz<=16777216 /\ AM st.tab sz (parts.map fun p=>bm st p.2)) /\
   K ({ st with tab:=(st.next,some (.row e sz (parts.map fun (p:Nat × Operand)=>aq (bm st p.2)))) :: st.tab,next:=st.next+1 }.put dst (.osl st.next))
  | _ :: _=>(parts.map (·.1)=List.range' 0 parts.length /\ n=parts.length /\ parts.length * sz<=16777216 /\ qW st.tab sz (parts.map fun p=>bm st p.2)) /\
   K ({ st with tab:=(st.next,some (.nest e sz (parts.map fun (p:Nat × Operand)=>aq (bm st p.2)))) :: st.tab,next:=st.next+1 }.put dst (.osl st.next))
 | none=>False
def ez (P:Program) (t:TypeId) (n:Nat) (parts:List (Nat × Operand)) (st:aj) (dst:Option Nat) (K:aj -> Prop):Prop:=
 gl P t n parts dst K (iq st (gM (parts.flatMap fun (p:Nat × Operand)=>aq (bm st p.2))))
def qP (P:Program) (t:TypeId) (st:aj) (l c:AV) (dst:Option Nat) (K:aj -> Prop):Prop:=
 match dr P t,l,c with
 | some (e,sz,by_),.c (.int _ n),.c (.int _ m)=>match b9 P e with
  | some z=>(m=n /\ eX [] (aq (.c z)) /\ 0<=n /\ n<=16777216 /\ (by_:Int) * n<=281474976710656) /\ K ({ st with tab:=(st.next,some (Ts (y8 t) e sz (List.replicate n.toNat (aq (.c z))))) :: st.tab,next:=st.next+1 }.put dst (.osl st.next))
  | none=>False
 | _,_,_=>False
def ml (P:Program) (t:TypeId) (st:aj) (parts:List (Nat × Operand)) (dst:Option Nat) (K:aj -> Prop):Prop:=
 match cJ P t with
 | some (places,zs)=>match tP places (zs.map .c) (parts.map fun p=>(p.1,bm st p.2)) with
  | some cs=>kc st.tab (parts.map fun p=>(p.1,bm st p.2)) /\ K (st.put dst (.agg cs))
  | none=>False
 | none=>False
def GD (h:Int) (b:Bool):Option AV -> Prop
 | none=>True
 | some (.c (.int _ m))=>m=h /\ b=true
 | _=>False
def oa (P:Program) (t:TypeId) (st:aj) (id e sz:Nat) (rows:List (List AV)) (b:Bool) (mx:Option AV) (dst:Option Nat) (K:aj -> Prop):Option Int -> Option Int -> Prop
 | some l,some h=>((bA P t).2=sz /\ 0<sz) /\ (l=0 /\ 0<=h /\ h<=(rows.length:Int) /\ GD h b mx) /\ K ({ st with tab:=bT st.tab st.next (some id) (.row e sz (rows.take h.toNat)),next:=st.next+1 }.put dst (.osl st.next))
 | _,_=>False
def jI (P:Program) (t:TypeId) (st:aj) (x:AV) (lo hi mx:Option AV) (dst:Option Nat) (K:aj -> Prop):Prop:=
 match x with
 | .osl id=>match st.tab.get id with
  | some (.row e sz rows)=>oa P t st id e sz rows hi.isSome mx dst K (HI 0 lo) (HI rows.length hi)
  | _=>False
 | x=>l9 P t x lo hi mx fun av=>K (st.put dst av)
def HM (f:AV) (K:FuncId -> List AV -> Prop):Prop:=
 match f with
 | .c (.func (.func g) first caps)=>(first = #[] /\ caps = #[]) /\ K g []
 | .fn g cs=>K g cs
 | _=>False
def CO (f:AV) (KB K:FuncId -> List AV -> Prop):Prop:=
 match f with
 | .bfn g bs=>KB g bs
 | f=>HM f K
def aK (st:aj) (dst:Option Nat) (K:aj -> Prop) (av:AV):Prop:=K (st.put dst av)
def vW (dst:Option Nat) (K:aj -> Prop) (av:AV) (st:aj):Prop:=K (st.put dst av)
def Pi (dst:Option Nat) (K:aj -> Prop) (st:aj):Prop:=K (st.put dst .any)
def lA (dst:Option Nat) (K:aj -> Prop) (st:aj):Prop:=K (st.put dst (.c undef))
def yp (P:Program) (st:aj) (args:List Operand) (dst:Option Nat) (K:aj -> Prop) (g:FuncId) (cs:List AV):Prop:=gD none P st g (args.map (bm st) ++ cs) (vW dst K)
def Dg (P:Program) (st:aj) (args:List Operand) (dst:Option Nat) (K:aj -> Prop) (g:FuncId) (bs:List AV):Prop:=gD none P st g (bs ++ args.map (bm st)) (vW dst K)
def CZ (P:Program) (bM:Nat) (ids:List Nat) (st:aj) (args:List Operand) (dst:Option Nat) (K:aj -> Prop) (g:FuncId) (cs:List AV):Prop:=gD (some (bM,ids)) P st g (args.map (bm st) ++ cs) (vW dst K)
def BQ (P:Program) (st:aj) (args:List Operand) (dst:Option Nat) (K:aj -> Prop) (g:FuncId) (cs:List AV):Prop:=∃ v,aw P g ((args.map (bm st) ++ cs).map (gB st.tab)) ⟨.c v,[],0⟩ /\ K (st.put dst (.c v))
def jm (P:Program) (o:Oper) (K:aj -> Prop) (st:aj):Prop:=
 match o.op with
 | .box t x=>yZ t st (bm st x) o.dst K
 | .alloc t=>match b9 P t with
  | some z=>yZ t st (.c z) o.dst K
  | none=>False
 | .store t p x=>qq P t st (bm st p) (bm st x) (Pi o.dst K)
 | .buildSlice t n parts=>ez P t n parts.toList st o.dst K
 | .makeSlice t l c=>qP P t st (bm st l) (bm st c) o.dst K
 | .build t parts=>ml P t st parts.toList o.dst K
 | .slice t x lo hi mx=>jI P t st (bm st x) (lo.map (bm st)) (hi.map (bm st)) (mx.map (bm st)) o.dst K
 | .makeMap _ r=>Ae st r.isNone o.dst K
 | .lookup t m k ok=>kP P t st.tab (bm st m) (bm st k) ok (aK st o.dst K)
 | .mapUpdate t m k v=>kW P t st (bm st m) (bm st k) (bm st v) (Pi o.dst K)
 | .call c=>match c.callee with
  | .builtin .append=>match c.args.toList,c.argTypes.toList with
   | [x,y],[t,t']=>t=t' /\ jQ P t st (bm st x) (bm st y) o.dst K
   | _,_=>False
  | .builtin .clear=>yg P st c.args.toList c.argTypes.toList o.dst K
  | .builtin .len=>C3 P st.tab (bm st) c.args.toList c.argTypes.toList (aK st o.dst K) \/ cj P st.tab (bm st) (.call c) (aK st o.dst K)
  | .value f=>CO (bm st f) (Dg P st c.args.toList o.dst K) (yp P st c.args.toList o.dst K)
  | _=>cj P st.tab (bm st) (.call c) (aK st o.dst K)
 | op=>cj P st.tab (bm st) op (aK st o.dst K)
def yv:Value -> Option Bool
 | .bool b=>some b
 | _=>none
def Mo (b want:Bool) (d:Nat) (yes no:aj -> Prop) (st:aj):Prop:=
 match b,want with
 | true,true=>yes (st.put (some d) (.c (.bool true)))
 | false,false=>yes (st.put (some d) (.c (.bool false)))
 | true,false=>no (st.put (some d) (.c (.bool true)))
 | false,true=>no (st.put (some d) (.c (.bool false)))
section
variable {b want:Bool} {d:Nat} {yes no:aj -> Prop} {st:aj}
theorem Rk:Mo true true d yes no st=yes (st.put (some d) (.c (.bool true))):=rfl
theorem Tk:Mo false false d yes no st=yes (st.put (some d) (.c (.bool false))):=rfl
theorem P2:Mo true false d yes no st=no (st.put (some d) (.c (.bool true))):=rfl
theorem Rv:Mo false true d yes no st=no (st.put (some d) (.c (.bool false))):=rfl
theorem wc (h1:b=true -> Mo true want d yes no st) (h2:b=false -> Mo false want d yes no st):Mo b want d yes no st:=by
 cases b
 .exact h2 rfl
 .exact h1 rfl
end
def k7 (ops:Array Oper) (g:Option (Nat × Bool)) (yes no:aj -> Prop) (st:aj):Prop:=
 match g with
 | none=>yes st
 | some (j,want)=>match (ops[j]?).bind (·.dst) with
  | some d=>match st.get d with
   | .c v=>match yv v with
    | some b=>Mo b want d yes no st
    | none=>no st
   | _=>False
  | none=>False
def lH (P:Program) (ops:Array Oper) (K:aj -> Prop):List Oper -> aj -> Prop
 | [],st=>K st
 | o :: rest,st=>k7 ops o.guard (jm P o (lH P ops K rest)) (lA o.dst (lH P ops K rest)) st
def m9 (P:Program) (o:Oper) (K:aj -> Prop) (st:aj):Prop:=
 match o.op with
 | .call c=>match c.callee with
  | .value f=>HM (bm st f) (BQ P st c.args.toList o.dst K)
  | _=>cj P st.tab (bm st) (.call c) (aK st o.dst K)
 | .build t parts=>ml P t st parts.toList o.dst K
 | op=>cj P st.tab (bm st) op (aK st o.dst K)
def j7 (P:Program) (ops:Array Oper) (K:aj -> Prop):List Oper -> aj -> Prop
 | [],st=>K st
 | o :: rest,st=>k7 ops o.guard (m9 P o (j7 P ops K rest)) (lA o.dst (j7 P ops K rest)) st
def nr (P:Program) (ops:Array Oper) (K:aj -> Prop):List Oper -> aj -> Prop
 | [],st=>K st
 | o :: rest,st=>k7 ops o.guard (aPop P o (nr P ops K rest)) (lA o.dst (nr P ops K rest)) st
where aPop (P:Program) (o:Oper) (K:aj -> Prop) (st:aj):Prop:=cj P st.tab (bm st) o.op (aK st o.dst K)
inductive nH where
 | done
 | take (i:Nat) (s:nH)
 | exec (i:Nat) (s:nH)
 | two (i:Nat) (s:nH) (j:Nat) (t:nH)
 | three (i:Nat) (s:nH) (j:Nat) (t:nH) (k:Nat) (u:nH)
 | four (i:Nat) (s:nH) (j:Nat) (t:nH) (k:Nat) (u:nH) (l:Nat) (v:nH)
def nH.len:nH -> Nat
 | .done=>0
 | .take _ s=>s.len+1
 | .exec _ s=>s.len+1
 | .two _ s _ t=>Nat.max s.len t.len+1
 | .three _ s _ t _ u=>Nat.max s.len (Nat.max t.len u.len)+1
 | .four _ s _ t _ u _ v=>Nat.max s.len (Nat.max t.len (Nat.max u.len v.len))+1
def dU (ops:Array Oper):nH -> Array Bool -> Bool
 | .take i s,listed=>Region.free .any ops listed i && (Region.ready .any ops listed).contains i && dU ops s (listed.setIfInBounds i true)
 | .exec i s,listed=>decide (Region.ready .any ops listed=[i]) && dU ops s (listed.setIfInBounds i true)
 | .two i s j t,listed=>decide (Region.ready .any ops listed=[i,j]) && dU ops s (listed.setIfInBounds i true) && dU ops t (listed.setIfInBounds j true)
 | .three i s j t k u,listed=>decide (Region.ready .any ops listed=[i,j,k]) && dU ops s (listed.setIfInBounds i true) && dU ops t (listed.setIfInBounds j true) && dU ops u (listed.setIfInBounds k true)
 | .four i s j t k u l v,listed=>decide (Region.ready .any ops listed=[i,j,k,l]) && dU ops s (listed.setIfInBounds i true) && dU ops t (listed.setIfInBounds j true) && dU ops u (listed.setIfInBounds k true) && dU ops v (listed.setIfInBounds l true)
 | .done,listed=>(Region.ready .any ops listed).isEmpty
def su (ops:Array Oper):List Nat -> nH -> Array Bool -> Bool
 | i :: h,s,listed=>Region.free .any ops listed i && (Region.ready .any ops listed).contains i && su ops h s (listed.setIfInBounds i true)
 | [],s,listed=>dU ops s listed
def wK (bM:Nat) (ids:List Nat):AV -> Prop
 | .osl id=>lp bM ids id
 | _=>True
def gH (P:Program) (bM:Nat) (ids:List Nat) (o:Oper) (K:aj -> Prop) (st:aj):Prop:=
 match o.op with
 | .assign x=>K (st.put o.dst (bm st x))
 | .load _ _=>cj P st.tab (bm st) o.op (aK st o.dst K)
 | .lookup t m k ok=>kP P t st.tab (bm st m) (bm st k) ok (aK st o.dst K)
 | .mapUpdate t m k v=>match bm st m with
  | .osl id=>lp bM ids id /\ kW P t st (.osl id) (bm st k) (bm st v) (Pi o.dst K)
  | _=>False
 | .store t p x=>match bm st p with
  | .op id i j=>lp bM ids id /\ oM P t st id i j (bm st x) (Pi o.dst K)
  | _=>False
 | .alloc t=>match b9 P t with
  | some z=>yZ t st (.c z) o.dst K
  | none=>False
 | .box t x=>yZ t st (bm st x) o.dst K
 | .buildSlice t n parts=>ez P t n parts.toList st o.dst K
 | .makeSlice t l c=>qP P t st (bm st l) (bm st c) o.dst K
 | .call c=>match c.callee with
  | .builtin .append=>match c.args.toList,c.argTypes.toList with
   | [x,y],[t,t']=>(t=t' /\ wK bM ids (bm st x)) /\ jQ P t st (bm st x) (bm st y) o.dst K
   | _,_=>False
  | .value f=>HM (bm st f) (CZ P bM ids st c.args.toList o.dst K)
  | _=>False
 | _=>False
def AR (ids:List Nat):AV -> Prop
 | .op id _ _=>id ∉ ids
 | .rp _=>True
 | _=>False
def tm (ids:List Nat) (st:aj):Op -> Prop
 | .load _ x=>AR ids (bm st x)
 | _=>True
def dV (P:Program) (dst:Option Nat) (op:Op) (K:aj -> Prop) (st:aj):Prop:=
 match op with
 | .build t parts=>ml P t st parts.toList dst K
 | op=>cj P st.tab (bm st) op (aK st dst K)
def Qu (P:Program) (ids:List Nat) (o:Oper) (K:aj -> Prop) (st:aj):Prop:=tm ids st o.op /\ dV P o.dst o.op K st
def yo (bM:Nat) (ids:List Nat) (tab:af):AV -> Prop
 | .op id _ _=>id<bM /\ id ∉ ids /\ match tab.get id with
  | some _=>True
  | none=>False
 | _=>False
def p8 (bM:Nat) (ids:List Nat) (st:aj):Op -> Prop
 | .load _ x=>yo bM ids st.tab (bm st x)
 | _=>True
def CC (P:Program) (bM:Nat) (ids:List Nat) (o:Oper) (K:aj -> Prop) (st:aj):Prop:=p8 bM ids st o.op /\ dV P o.dst o.op K st
def uf (P:Program) (ops:Array Oper) (bM:Nat) (ids:List Nat) (o:Option Oper) (K:aj -> Prop) (st:aj):Prop:=
 match o with
 | some o=>k7 ops o.guard (CC P bM ids o K) (lA o.dst K) st
 | none=>False
def xg (P:Program) (ops:Array Oper) (ids:List Nat) (o:Option Oper) (K:aj -> Prop) (st:aj):Prop:=
 match o with
 | some o=>k7 ops o.guard (Qu P ids o K) (lA o.dst K) st
 | none=>False
def dx (P:Program) (ops:Array Oper) (bM:Nat) (ids:List Nat) (o:Option Oper) (K:aj -> Prop) (st:aj):Prop:=
 match o with
 | some o=>k7 ops o.guard (gH P bM ids o K) (lA o.dst K) st
 | none=>False
def da (P:Program) (ops:Array Oper) (bM:Nat) (ids:List Nat) (K:aj -> Prop):nH -> aj -> Prop
 | .done,st=>K st
 | .take i s,st=>uf P ops bM ids ops[i]? (da P ops bM ids K s) st
 | .exec i s,st=>dx P ops bM ids ops[i]? (da P ops bM ids K s) st
 | .two i s j t,st=>dx P ops bM ids ops[i]? (da P ops bM ids K s) st /\ dx P ops bM ids ops[j]? (da P ops bM ids K t) st
 | .three i s j t k u,st=>dx P ops bM ids ops[i]? (da P ops bM ids K s) st /\ dx P ops bM ids ops[j]? (da P ops bM ids K t) st /\ dx P ops bM ids ops[k]? (da P ops bM ids K u) st
 | .four i s j t k u l v,st=>dx P ops bM ids ops[i]? (da P ops bM ids K s) st /\ dx P ops bM ids ops[j]? (da P ops bM ids K t) st /\ dx P ops bM ids ops[k]? (da P ops bM ids K u) st /\ dx P ops bM ids ops[l]? (da P ops bM ids K v) st
def kL (P:Program) (ops:Array Oper) (ids:List Nat) (K:aj -> Prop):List Nat -> aj -> Prop
 | [],st=>K st
 | i :: s,st=>xg P ops ids ops[i]? (kL P ops ids K s) st
def dH (st st':aj):Prop:=∀ cx a w L,aH cx a w st L -> ∃ L',aH cx a w st' L' /\ ∀ b,Sx cx w st.tab L b -> Sx cx w st'.tab L' b
theorem dH.reflH (st:aj):dH st st:=fun _ _ _ L h=>⟨L,h,fun _ hb=>hb⟩
inductive AY (P:Program) (ops:Array Oper) (K:aj -> Prop) (st:aj):Prop
 | quiet (hB:Region.lexB .any ops=true) (h:j7 P ops K ops.toList st)
 | tail (n:Nat) (hB:Region.lexTailB .any ops n=true) (h:nr P ops (lH P ops K (ops.toList.drop n)) (ops.toList.take n) st)
 | held (ids:List Nat) (hd:List Nat) (s:nH) (hB:(Region.noSelect ops && su ops hd s (Array.replicate ops.size false) && Nat.ble (hd.length+s.len) ops.size)=true) (K':aj -> Prop) (hK:∀ st,K' st -> ∃ st',dH st st' /\ K st') (h:(∀ id ∈ ids,(st.tab.get id).isSome=true) /\ kL P ops ids (da P ops st.next ids K' s) hd st)
theorem aA {P:Program} {l:List Oper} {K:aj -> Prop} {st:aj} (hB:Region.lexB .any l.toArray=true) (h:j7 P l.toArray K l st):AY P l.toArray K st:=.quiet hB h
theorem BT {P:Program} {l:List Oper} {K:aj -> Prop} {st:aj} (n:Nat) (hB:Region.lexTailB .any l.toArray n=true) (h:nr P l.toArray (lH P l.toArray K (l.drop n)) (l.take n) st):AY P l.toArray K st:=.tail n hB h
theorem ay {P:Program} {l:List Oper} {K:aj -> Prop} {st:aj} (ids:List Nat) (hd:List Nat) (s:nH) (hB:(Region.noSelect l.toArray && su l.toArray hd s (Array.replicate l.toArray.size false) && Nat.ble (hd.length+s.len) l.toArray.size)=true) (hids:∀ id ∈ ids,(st.tab.get id).isSome=true) (h:kL P l.toArray ids (da P l.toArray st.next ids K s) hd st):AY P l.toArray K st:=.held ids hd s hB K (fun st h1=>⟨st,.reflH st,h1⟩) ⟨hids,h⟩
def Mp (I:aj -> Prop) (st:aj):Prop:=∃ st',dH st st' /\ I st'
def mj (next:aj -> Prop) (Q:Exit -> aj -> Prop):Exit -> aj -> Prop
 | .normal,st=>next st
 | e,st=>Q e st
def ii (id:Nat) (Q:Exit -> aj -> Prop):Exit -> aj -> Prop
 | .exit id',st=>if id'=id then Q .normal st else Q (.exit id') st
 | e,st=>Q e st
def S2 (t:Bool) (x y:aj -> Prop) (st:aj):Prop:=match t with | true=>x st | false=>y st
theorem Ks {x y:aj -> Prop} {st:aj}:S2 true x y st=x st:=rfl
theorem Hn {x y:aj -> Prop} {st:aj}:S2 false x y st=y st:=rfl
theorem kj {t:Bool} {x y:aj -> Prop} {st:aj} (h1:t=true -> S2 true x y st) (h2:t=false -> S2 false x y st):S2 t x y st:=by
 cases t
 .exact h2 rfl
 .exact h1 rfl
def ow (c:AV) (x y:aj -> Prop) (st:aj):Prop:=
 match c with
 | .c (.bool b)=>S2 b x y st
 | _=>False
def tj (I:aj -> Prop) (μ:aj -> Nat) (n:Nat) (st:aj):Prop:=∃ st',dH st st' /\ I st' /\ μ st'<n
def F2 (P:Program) (ops:Array Oper) (draw:Bool) (K:aj -> Prop) (st:aj):Prop:=if draw=true then AY P ops K st else lH P ops K ops.toList st
def NW (Q:Exit -> aj -> Prop):Exit -> aj -> Prop
 | .goto _,_=>False
 | e,st=>Q e st
def bD (P:Program):Code -> (Exit -> aj -> Prop) -> aj -> Prop
 | .skip,Q,st=>Q .normal st
 | .region _ ops draw,Q,st=>F2 P ops draw (Q .normal) st
 | .seq x y,Q,st=>bD P x (mj (bD P y Q) Q) st
 | .cond c x y,Q,st=>ow (bm st c) (bD P x Q) (bD P y Q) st
 | .block id x,Q,st=>bD P x (ii id Q) st
 | .loop x,Q,st=>∃ (I:aj -> Prop) (μ:aj -> Nat),(∃ st',dH st st' /\ I st') /\ ∀ st,I st -> bD P x (mj (tj I μ (μ st)) Q) st
 | .exit id,Q,st=>Q (.exit id) st
 | .ret,Q,st=>Q .ret st
 | .rangeFunc g ps assign body,Q,st=>∀ (cx:Cx) (a:Act) (w:World) (L:Nat -> Value),aH cx a w st L -> (Code.rangeFunc g ps assign body).wp P (fun e a w=>∃ st L,Q e st /\ aH cx a w st L) a w
 | .label _,Q,st=>Q .normal st
 | .scope x,Q,st=>bD P x (NW Q) st
 | _,_,_=>False
def Mm (P:Program) (x:Code) (Q:Exit -> aj -> Prop) (st:aj):Prop:=bD P (.loop x) Q st
theorem ae {P:Program} {x:Code} {Q:Exit -> aj -> Prop} {st:aj} (I:aj -> Prop) (μ:aj -> Nat) (h0:∃ st',dH st st' /\ I st') (h:∀ st,I st -> bD P x (mj (tj I μ (μ st)) Q) st):Mm P x Q st:=⟨I,μ,h0,h⟩
section
variable {P:Program} {Q:Exit -> aj -> Prop} {st:aj}
theorem BG:bD P .skip Q st=Q .normal st:=rfl
theorem Ca {id:Nat} {l:List Oper}:bD P (.region id l.toArray false) Q st=lH P l.toArray (Q .normal) l st:=by simp [bD,F2]
theorem Cf {id:Nat} {l:List Oper}:bD P (.region id l.toArray true) Q st=AY P l.toArray (Q .normal) st:=by simp [bD,F2]
theorem E8 {x y:Code}:bD P (.seq x y) Q st=bD P x (mj (bD P y Q) Q) st:=rfl
theorem CM {c:Operand} {x y:Code}:bD P (.cond c x y) Q st=ow (bm st c) (bD P x Q) (bD P y Q) st:=rfl
theorem AP {id:Nat} {x:Code}:bD P (.block id x) Q st=bD P x (ii id Q) st:=rfl
theorem Cq {x:Code}:bD P (.loop x) Q st=Mm P x Q st:=rfl
theorem Co {id:Nat}:bD P (.exit id) Q st=Q (.exit id) st:=rfl
theorem GI:bD P .ret Q st=Q .ret st:=rfl
theorem xH {next:aj -> Prop}:mj next Q .normal st=next st:=rfl
theorem Cm {next:aj -> Prop} {id:Nat}:mj next Q (.exit id) st=Q (.exit id) st:=rfl
theorem Fs {next:aj -> Prop}:mj next Q .ret st=Q .ret st:=rfl
theorem ry {id:Nat}:ii id Q .normal st=Q .normal st:=rfl
theorem yk {id:Nat}:ii id Q .ret st=Q .ret st:=rfl
theorem uG {id id':Nat}:ii id Q (.exit id') st=if id'=id then Q .normal st else Q (.exit id') st:=rfl
theorem Cn {b:Bool} {x y:aj -> Prop}:ow (.c (.bool b)) x y st=S2 b x y st:=rfl
theorem KL {dst:Option Nat} {K:aj -> Prop}:lA dst K st=K (st.put dst (.c undef)):=rfl
theorem Sk {dst:Option Nat} {K:aj -> Prop}:Pi dst K st=K (st.put dst .any):=rfl
theorem UA {dst:Option Nat} {K:aj -> Prop} {av:AV}:aK st dst K av=K (st.put dst av):=rfl
theorem SS {dst:Option Nat} {K:aj -> Prop} {av:AV}:vW dst K av st=K (st.put dst av):=rfl
theorem PX {g:FuncId} {K:FuncId -> List AV -> Prop}:HM (.c (.func (.func g) #[] #[])) K=K g []:=by simp [HM]
theorem Od {g:FuncId} {KB K:FuncId -> List AV -> Prop}:CO (.c (.func (.func g) #[] #[])) KB K=K g []:=by simp [CO,HM]
theorem K4 {g:FuncId} {cs:List AV} {KB K:FuncId -> List AV -> Prop}:CO (.fn g cs) KB K=K g cs:=rfl
theorem OE {g:FuncId} {cs:List AV} {K:FuncId -> List AV -> Prop}:HM (.fn g cs) K=K g cs:=rfl
theorem G9 {args:List Operand} {dst:Option Nat} {K:aj -> Prop} {g:FuncId} {cs:List AV}:yp P st args dst K g cs=gD none P st g (args.map (bm st) ++ cs) (vW dst K):=rfl
theorem Hl {bM:Nat} {ids:List Nat} {args:List Operand} {dst:Option Nat} {K:aj -> Prop} {g:FuncId} {cs:List AV}:CZ P bM ids st args dst K g cs=gD (some (bM,ids)) P st g (args.map (bm st) ++ cs) (vW dst K):=rfl
theorem Fg {args:List Operand} {dst:Option Nat} {K:aj -> Prop} {g:FuncId} {cs:List AV}:BQ P st args dst K g cs = ∃ v,aw P g ((args.map (bm st) ++ cs).map (gB st.tab)) ⟨.c v,[],0⟩ /\ K (st.put dst (.c v)):=rfl
section
variable {ops:Array Oper} {K:aj -> Prop} {dst:Option Tmp} {op:Op} {ty:TypeId} {pos:String} {aft:Array Edge} {gd:Option (Nat × Bool)} {rest:List Oper} {j:Nat} {want:Bool}
theorem K6:lH P ops K [] st=K st:=rfl
theorem Dn:lH P ops K (⟨dst,op,ty,pos,aft,none⟩ :: rest) st=jm P ⟨dst,op,ty,pos,aft,none⟩ (lH P ops K rest) st:=rfl
def rO (v:AV) (want:Bool) (d:Nat) (yes no:aj -> Prop) (st:aj):Prop:=
 match v with
 | .c v=>match yv v with
  | some b=>Mo b want d yes no st
  | none=>no st
 | _=>False
def og (d:Option Nat) (want:Bool) (yes no:aj -> Prop) (st:aj):Prop:=match d with | some d=>rO (st.get d) want d yes no st | none=>False
theorem CU {d:Nat} {yes no:aj -> Prop}:og (some d) want yes no st=rO (st.get d) want d yes no st:=rfl
theorem xW {b:Bool} {d:Nat} {yes no:aj -> Prop}:rO (.c (.bool b)) want d yes no st=Mo b want d yes no st:=rfl
theorem uN {d:Nat} {yes no:aj -> Prop}:rO (.c undef) want d yes no st=no st:=rfl
theorem CX:lH P ops K (⟨dst,op,ty,pos,aft,some (j,want)⟩ :: rest) st=og ((ops[j]?).bind (·.dst)) want (jm P ⟨dst,op,ty,pos,aft,some (j,want)⟩ (lH P ops K rest)) (lA dst (lH P ops K rest)) st:=rfl
theorem FM:nr P ops K [] st=K st:=rfl
theorem zj:nr P ops K (⟨dst,op,ty,pos,aft,none⟩ :: rest) st=cj P st.tab (bm st) op (aK st dst (nr P ops K rest)):=rfl
theorem Dm {ids:List Nat}:kL P ops ids K [] st=K st:=rfl
theorem yK {ids:List Nat} {i:Nat} {s:List Nat}:kL P ops ids K (i :: s) st=xg P ops ids ops[i]? (kL P ops ids K s) st:=rfl
theorem Gb {bM:Nat} {ids:List Nat}:da P ops bM ids K .done st=K st:=rfl
theorem DA {bM i:Nat} {ids:List Nat} {s:nH}:da P ops bM ids K (.take i s) st=uf P ops bM ids ops[i]? (da P ops bM ids K s) st:=rfl
theorem CJ {bM i:Nat} {ids:List Nat} {s:nH}:da P ops bM ids K (.exec i s) st=dx P ops bM ids ops[i]? (da P ops bM ids K s) st:=rfl
theorem GQ {bM i j:Nat} {ids:List Nat} {s t:nH}:da P ops bM ids K (.two i s j t) st=(dx P ops bM ids ops[i]? (da P ops bM ids K s) st /\ dx P ops bM ids ops[j]? (da P ops bM ids K t) st):=rfl
theorem zB {bM i j k:Nat} {ids:List Nat} {s t u:nH}:da P ops bM ids K (.three i s j t k u) st=(dx P ops bM ids ops[i]? (da P ops bM ids K s) st /\ dx P ops bM ids ops[j]? (da P ops bM ids K t) st /\ dx P ops bM ids ops[k]? (da P ops bM ids K u) st):=rfl
theorem xQ {ids:List Nat}:xg P ops ids (some ⟨dst,op,ty,pos,aft,none⟩) K st=(tm ids st op /\ dV P dst op K st):=rfl
theorem xw {bM:Nat} {ids:List Nat}:uf P ops bM ids (some ⟨dst,op,ty,pos,aft,none⟩) K st=(p8 bM ids st op /\ dV P dst op K st):=rfl
theorem xy {bM:Nat} {ids:List Nat}:uf P ops bM ids (some ⟨dst,op,ty,pos,aft,some (j,want)⟩) K st=og ((ops[j]?).bind (·.dst)) want (CC P bM ids ⟨dst,op,ty,pos,aft,some (j,want)⟩ K) (lA dst K) st:=rfl
theorem wO {t:TypeId} {parts:List (Nat × Operand)}:dV P dst (.build t parts.toArray) K st=ml P t st parts dst K:=by simp [dV]
theorem A8 {x:Operand}:dV P dst (.move x) K st=cj P st.tab (bm st) (.move x) (aK st dst K):=rfl
theorem zm {c x y:Operand}:dV P dst (.pick c x y) K st=cj P st.tab (bm st) (.pick c x y) (aK st dst K):=rfl
theorem Ax {t:TypeId} {x:Operand}:dV P dst (.load t x) K st=cj P st.tab (bm st) (.load t x) (aK st dst K):=rfl
theorem xL {s:TypeId} {x:Operand} {f:Nat}:dV P dst (.fieldAddr s x f) K st=cj P st.tab (bm st) (.fieldAddr s x f) (aK st dst K):=rfl
theorem wP {t:TypeId} {x y:Operand}:dV P dst (.indexAddr t x y) K st=cj P st.tab (bm st) (.indexAddr t x y) (aK st dst K):=rfl
theorem DB {o:BinOp} {t r:TypeId} {x y:Operand}:dV P dst (.binOp o t x y r) K st=cj P st.tab (bm st) (.binOp o t x y r) (aK st dst K):=rfl
theorem uI {x:Operand}:dV P dst (.nilCheck x) K st=cj P st.tab (bm st) (.nilCheck x) (aK st dst K):=rfl
theorem GR {o:UnOp} {t:TypeId} {x:Operand}:dV P dst (.unOp o t x) K st=cj P st.tab (bm st) (.unOp o t x) (aK st dst K):=rfl
theorem tR {x:Operand} {i:Nat}:dV P dst (.extract x i) K st=cj P st.tab (bm st) (.extract x i) (aK st dst K):=rfl
theorem A4 {c:Call}:dV P dst (.call c) K st=cj P st.tab (bm st) (.call c) (aK st dst K):=rfl
theorem GX {bM:Nat} {ids:List Nat}:CC P bM ids ⟨dst,op,ty,pos,aft,gd⟩ K st=(p8 bM ids st op /\ dV P dst op K st):=rfl
theorem Gt {bM:Nat} {ids:List Nat}:dx P ops bM ids (some ⟨dst,op,ty,pos,aft,none⟩) K st=gH P bM ids ⟨dst,op,ty,pos,aft,none⟩ K st:=rfl
def KV (P:Program) (bM:Nat) (ids:List Nat) (o:Oper) (K:aj -> Prop) (st:aj):Prop:=gH P bM ids o K st
theorem FY {bM:Nat} {ids:List Nat} {o:Oper}:KV P bM ids o K st=gH P bM ids o K st:=rfl
theorem xr {bM:Nat} {ids:List Nat}:dx P ops bM ids (some ⟨dst,op,ty,pos,aft,some (j,want)⟩) K st=og ((ops[j]?).bind (·.dst)) want (KV P bM ids ⟨dst,op,ty,pos,aft,some (j,want)⟩ K) (lA dst K) st:=rfl
theorem wW {bM:Nat} {ids:List Nat} {x:Operand}:gH P bM ids ⟨dst,.assign x,ty,pos,aft,gd⟩ K st=K (st.put dst (bm st x)):=rfl
def CS (P:Program) (bM:Nat) (ids:List Nat) (t:TypeId) (p x:AV) (dst:Option Nat) (K:aj -> Prop) (st:aj):Prop:=
 match p with
 | .op id i j=>lp bM ids id /\ oM P t st id i j x (Pi dst K)
 | _=>False
theorem BM {bM:Nat} {ids:List Nat} {t:TypeId} {x:Operand}:gH P bM ids ⟨dst,.load t x,ty,pos,aft,gd⟩ K st=kh P t st.tab (bm st x) (aK st dst K):=rfl
theorem xj {bM:Nat} {ids:List Nat} {t:TypeId} {m k:Operand} {ok:Bool}:gH P bM ids ⟨dst,.lookup t m k ok,ty,pos,aft,gd⟩ K st=kP P t st.tab (bm st m) (bm st k) ok (aK st dst K):=rfl
def DG (P:Program) (bM:Nat) (ids:List Nat) (t:TypeId) (m k v:AV) (dst:Option Nat) (K:aj -> Prop) (st:aj):Prop:=
 match m with
 | .osl id=>lp bM ids id /\ kW P t st (.osl id) k v (Pi dst K)
 | _=>False
theorem rE {bM:Nat} {ids:List Nat} {t:TypeId} {m k v:Operand}:gH P bM ids ⟨dst,.mapUpdate t m k v,ty,pos,aft,gd⟩ K st=DG P bM ids t (bm st m) (bm st k) (bm st v) dst K st:=rfl
theorem zh {bM:Nat} {ids:List Nat} {t:TypeId} {p x:Operand}:gH P bM ids ⟨dst,.store t p x,ty,pos,aft,gd⟩ K st=CS P bM ids t (bm st p) (bm st x) dst K st:=rfl
theorem Au {bM:Nat} {ids:List Nat} {t:TypeId}:gH P bM ids ⟨dst,.alloc t,ty,pos,aft,gd⟩ K st=match b9 P t with | some z=>yZ t st (.c z) dst K | none=>False:=rfl
theorem xO {bM:Nat} {ids:List Nat} {x y:Operand} {t t':TypeId}:gH P bM ids ⟨dst,.call ⟨.builtin .append,#[x,y],#[t,t']⟩,ty,pos,aft,gd⟩ K st=((t=t' /\ wK bM ids (bm st x)) /\ jQ P t st (bm st x) (bm st y) dst K):=rfl
theorem BP {bM:Nat} {ids:List Nat} {f:Operand} {args:List Operand} {ts:Array TypeId}:gH P bM ids ⟨dst,.call ⟨.value f,args.toArray,ts⟩,ty,pos,aft,gd⟩ K st=HM (bm st f) (CZ P bM ids st args dst K):=by simp [gH]
theorem rz {bM:Nat} {ids:List Nat} {t:TypeId} {l c:Operand}:gH P bM ids ⟨dst,.makeSlice t l c,ty,pos,aft,gd⟩ K st=qP P t st (bm st l) (bm st c) dst K:=rfl
theorem pN {bM:Nat} {ids:List Nat} {t:TypeId} {n:Nat} {parts:List (Nat × Operand)}:gH P bM ids ⟨dst,.buildSlice t n parts.toArray,ty,pos,aft,gd⟩ K st=ez P t n parts st dst K:=by simp [gH]
theorem C8 {k:AV -> Prop} {tab:af} {ev:Operand -> AV} {x:Operand}:cj P tab ev (.move x) k=k (ev x):=rfl
theorem BK {k:AV -> Prop} {tab:af} {ev:Operand -> AV} {t:TypeId} {x:Operand}:cj P tab ev (.load t x) k=kh P t tab (ev x) k:=rfl
theorem Av {k:AV -> Prop} {tab:af} {ev:Operand -> AV} {t:TypeId} {x:Operand} {f:Nat}:cj P tab ev (.fieldAddr t x f) k=nS P t tab (ev x) f k:=rfl
theorem yX {k:AV -> Prop} {tab:af} {ev:Operand -> AV} {t:TypeId} {x i:Operand}:cj P tab ev (.indexAddr t x i) k=jl P t tab (ev x) (ev i) k:=rfl
theorem F3 {k:AV -> Prop} {tab:af} {ev:Operand -> AV} {o:BinOp} {t t2:TypeId} {x y:Operand}:cj P tab ev (.binOp o t x y t2) k=xT P o t (ev x) (ev y) k:=rfl
theorem x8 {k:AV -> Prop} {tab:af} {ev:Operand -> AV} {x:Operand}:cj P tab ev (.nilCheck x) k=zW tab (ev x) k:=rfl
theorem Ip {k:AV -> Prop} {tab:af} {ev:Operand -> AV} {o:UnOp} {t:TypeId} {x:Operand}:cj P tab ev (.unOp o t x) k=P6 o (ev x) k:=rfl
theorem uB {k:AV -> Prop} {tab:af} {ev:Operand -> AV} {x:Operand} {i:Nat}:cj P tab ev (.extract x i) k=ks (ev x) i k:=rfl
theorem FR {k:AV -> Prop} {tab:af} {ev:Operand -> AV} {x:Operand} {t:TypeId}:cj P tab ev (.call ⟨.builtin .len,#[x],#[t]⟩) k=uv P t tab (ev x) k:=rfl
theorem Hd:j7 P ops K [] st=K st:=rfl
theorem zV:j7 P ops K (⟨dst,op,ty,pos,aft,none⟩ :: rest) st=m9 P ⟨dst,op,ty,pos,aft,none⟩ (j7 P ops K rest) st:=rfl
theorem zJ:j7 P ops K (⟨dst,op,ty,pos,aft,some (j,want)⟩ :: rest) st=og ((ops[j]?).bind (·.dst)) want (m9 P ⟨dst,op,ty,pos,aft,some (j,want)⟩ (j7 P ops K rest)) (lA dst (j7 P ops K rest)) st:=rfl
def xK (c a b:AV) (dst:Option Nat) (K:aj -> Prop) (st:aj):Prop:=JS c a b (aK st dst K)
def Gp (t:Bool) (a b:AV) (dst:Option Nat) (K:aj -> Prop) (st:aj):Prop:=match t with | true=>K (st.put dst a) | false=>K (st.put dst b)
theorem ER {a b:AV}:Gp true a b dst K st=K (st.put dst a):=rfl
theorem Dz {a b:AV}:Gp false a b dst K st=K (st.put dst b):=rfl
theorem De {t:Bool} {a b:AV} (h1:t=true -> Gp true a b dst K st) (h2:t=false -> Gp false a b dst K st):Gp t a b dst K st:=by
 cases t
 .exact h2 rfl
 .exact h1 rfl
theorem A7 {t:Bool} {a b:AV}:xK (.c (.bool t)) a b dst K st=Gp t a b dst K st:=by cases t<;>rfl
theorem DK {tab:af} {ev:Operand -> AV} {dst:Option Nat} {x y z:Operand}:cj P tab ev (.pick x y z) (aK st dst K)=xK (ev x) (ev y) (ev z) dst K st:=rfl
theorem Jz {x:Operand}:jm P ⟨dst,.move x,ty,pos,aft,gd⟩ K st=K (st.put dst (bm st x)):=rfl
theorem CH {x:Operand}:jm P ⟨dst,.assign x,ty,pos,aft,gd⟩ K st=K (st.put dst (bm st x)):=rfl
theorem JN {c x y:Operand}:jm P ⟨dst,.pick c x y,ty,pos,aft,gd⟩ K st=xK (bm st c) (bm st x) (bm st y) dst K st:=rfl
theorem LU {t:TypeId} {x:Operand}:jm P ⟨dst,.load t x,ty,pos,aft,gd⟩ K st=kh P t st.tab (bm st x) (aK st dst K):=rfl
theorem G0 {t:TypeId} {x:Operand} {f:Nat}:jm P ⟨dst,.fieldAddr t x f,ty,pos,aft,gd⟩ K st=nS P t st.tab (bm st x) f (aK st dst K):=rfl
theorem E6 {t:TypeId} {x i:Operand}:jm P ⟨dst,.indexAddr t x i,ty,pos,aft,gd⟩ K st=jl P t st.tab (bm st x) (bm st i) (aK st dst K):=rfl
theorem O1 {o:BinOp} {t t2:TypeId} {x y:Operand}:jm P ⟨dst,.binOp o t x y t2,ty,pos,aft,gd⟩ K st=xT P o t (bm st x) (bm st y) (aK st dst K):=rfl
theorem Dt {x:Operand}:jm P ⟨dst,.nilCheck x,ty,pos,aft,gd⟩ K st=zW st.tab (bm st x) (aK st dst K):=rfl
theorem SA {o:UnOp} {t:TypeId} {x:Operand}:jm P ⟨dst,.unOp o t x,ty,pos,aft,gd⟩ K st=P6 o (bm st x) (aK st dst K):=rfl
theorem AL {x:Operand} {i:Nat}:jm P ⟨dst,.extract x i,ty,pos,aft,gd⟩ K st=ks (bm st x) i (aK st dst K):=rfl
theorem M2 {x y:Operand} {t t':TypeId}:jm P ⟨dst,.call ⟨.builtin .max,#[x,y],#[t,t']⟩,ty,pos,aft,gd⟩ K st=PD (fun a b=>max a b) [bm st x,bm st y] (aK st dst K):=rfl
theorem MB {x y:Operand} {t t':TypeId}:jm P ⟨dst,.call ⟨.builtin .min,#[x,y],#[t,t']⟩,ty,pos,aft,gd⟩ K st=PD (fun a b=>min a b) [bm st x,bm st y] (aK st dst K):=rfl
theorem N9 {x:Operand} {t:TypeId}:jm P ⟨dst,.call ⟨.builtin .len,#[x],#[t]⟩,ty,pos,aft,gd⟩ K st=(wD P t st.tab (bm st x) (aK st dst K) \/ uv P t st.tab (bm st x) (aK st dst K)):=rfl
theorem Al {t:TypeId}:jm P ⟨dst,.makeMap t none,ty,pos,aft,gd⟩ K st=K ({ st with tab:=(st.next,some (.map [])) :: st.tab,next:=st.next+1 }.put dst (.osl st.next)):=by simp [jm,Ae]
theorem BD {x y:Operand} {t t':TypeId}:jm P ⟨dst,.call ⟨.builtin .append,#[x,y],#[t,t']⟩,ty,pos,aft,gd⟩ K st=(t=t' /\ jQ P t st (bm st x) (bm st y) dst K):=rfl
theorem yh {g:FuncId} {caps:List Operand}:jm P ⟨dst,.makeFunc (.func g) #[] caps.toArray,ty,pos,aft,gd⟩ K st=aK st dst K (.fn g (caps.map (bm st))):=by simp [jm,cj,R0,H6]
theorem H5 {f:Operand} {args:List Operand} {ts:Array TypeId}:jm P ⟨dst,.call ⟨.value f,args.toArray,ts⟩,ty,pos,aft,gd⟩ K st=CO (bm st f) (Dg P st args dst K) (yp P st args dst K):=by simp [jm]
theorem N3 {t:TypeId} {x:Operand}:jm P ⟨dst,.box t x,ty,pos,aft,gd⟩ K st=yZ t st (bm st x) dst K:=rfl
theorem F5 {t:TypeId}:jm P ⟨dst,.alloc t,ty,pos,aft,gd⟩ K st=match b9 P t with | some z=>yZ t st (.c z) dst K | none=>False:=rfl
theorem F8 {t:TypeId} {p x:Operand}:jm P ⟨dst,.store t p x,ty,pos,aft,gd⟩ K st=qq P t st (bm st p) (bm st x) (Pi dst K):=rfl
theorem sm {t:TypeId} {n:Nat} {parts:List (Nat × Operand)}:jm P ⟨dst,.buildSlice t n parts.toArray,ty,pos,aft,gd⟩ K st=ez P t n parts st dst K:=by simp [jm]
theorem uS {t:TypeId} {l c:Operand}:jm P ⟨dst,.makeSlice t l c,ty,pos,aft,gd⟩ K st=qP P t st (bm st l) (bm st c) dst K:=rfl
theorem Fu {t:TypeId} {x:Operand} {lo hi mx:Option Operand}:jm P ⟨dst,.slice t x lo hi mx,ty,pos,aft,gd⟩ K st=jI P t st (bm st x) (lo.map (bm st)) (hi.map (bm st)) (mx.map (bm st)) dst K:=rfl
theorem y9 {tab:af} {ev:Operand -> AV} {t:TypeId} {x:Operand} {lo hi mx:Option Operand} {k:AV -> Prop}:cj P tab ev (.slice t x lo hi mx) k=l9 P t (ev x) (lo.map ev) (hi.map ev) (mx.map ev) k:=rfl
theorem xi {t:TypeId} {x:Operand} {lo hi mx:Option Operand}:dV P dst (.slice t x lo hi mx) K st=cj P st.tab (bm st) (.slice t x lo hi mx) (aK st dst K):=rfl
theorem GP {t:TypeId} {parts:List (Nat × Operand)}:jm P ⟨dst,.build t parts.toArray,ty,pos,aft,gd⟩ K st=ml P t st parts dst K:=by simp [jm]
theorem Fx {x:Operand}:m9 P ⟨dst,.move x,ty,pos,aft,gd⟩ K st=K (st.put dst (bm st x)):=rfl
theorem zI {x:Operand}:m9 P ⟨dst,.assign x,ty,pos,aft,gd⟩ K st=K (st.put dst (bm st x)):=rfl
theorem Fi {c x y:Operand}:m9 P ⟨dst,.pick c x y,ty,pos,aft,gd⟩ K st=xK (bm st c) (bm st x) (bm st y) dst K st:=rfl
theorem FZ {t:TypeId} {x:Operand}:m9 P ⟨dst,.load t x,ty,pos,aft,gd⟩ K st=kh P t st.tab (bm st x) (aK st dst K):=rfl
theorem C6 {t:TypeId} {x:Operand} {f:Nat}:m9 P ⟨dst,.fieldAddr t x f,ty,pos,aft,gd⟩ K st=nS P t st.tab (bm st x) f (aK st dst K):=rfl
theorem CG {t:TypeId} {x i:Operand}:m9 P ⟨dst,.indexAddr t x i,ty,pos,aft,gd⟩ K st=jl P t st.tab (bm st x) (bm st i) (aK st dst K):=rfl
theorem Lb {o:BinOp} {t t2:TypeId} {x y:Operand}:m9 P ⟨dst,.binOp o t x y t2,ty,pos,aft,gd⟩ K st=xT P o t (bm st x) (bm st y) (aK st dst K):=rfl
theorem yE {x:Operand}:m9 P ⟨dst,.nilCheck x,ty,pos,aft,gd⟩ K st=zW st.tab (bm st x) (aK st dst K):=rfl
theorem OH {o:UnOp} {t:TypeId} {x:Operand}:m9 P ⟨dst,.unOp o t x,ty,pos,aft,gd⟩ K st=P6 o (bm st x) (aK st dst K):=rfl
theorem IT {x:Operand} {t:TypeId}:m9 P ⟨dst,.call ⟨.builtin .len,#[x],#[t]⟩,ty,pos,aft,gd⟩ K st=uv P t st.tab (bm st x) (aK st dst K):=rfl
theorem Ge {f:Operand} {args:List Operand} {ts:Array TypeId}:m9 P ⟨dst,.call ⟨.value f,args.toArray,ts⟩,ty,pos,aft,gd⟩ K st=HM (bm st f) (BQ P st args dst K):=by simp [m9]
end
end
section
variable {P:Program} {cx:Cx} {a:Act} {w w':World} {tab:af} {st:aj} {L:Nat -> Value} {nx:Nat}
abbrev Io (cx:Cx) (K:aj -> Prop):Act -> World -> Prop:=fun a w=>∃ st L,K st /\ aH cx a w st L
theorem aW {o:Oper} {v:Value} {w':World} {K:Act -> World -> Prop} {Q:Exit -> Act -> World -> Prop} (h:(execOp a.eval o).run P w=.ok (.value v) w') (hk:K (a.put o.dst v) w'):o.wp P a w K Q:=by
 unfold Oper.wp;rw [h];exact hk
theorem eY {o:Oper} {w':World} {K:Act -> World -> Prop} {Q:Exit -> Act -> World -> Prop} (h:(execOp a.eval o).run P w=.ok .skip w') (hk:K (a.put o.dst undef) w'):o.wp P a w K Q:=by
 unfold Oper.wp;rw [h];exact hk
theorem rQ {o:Oper} {K:aj -> Prop} {Q:Exit -> Act -> World -> Prop} (h:aH cx a w st L) (hp:cj P st.tab (bm st) o.op (aK st o.dst K)):o.wp P a w (Io cx K) Q:=by
 obtain ⟨v,av,h1,h2,h3,h4,_⟩:=kK h.lay (fun id o hid=>(h.young id o hid).2) (am h) hp;exact aW (h4 w (Below.refl _ _)) ⟨_,L,h1,bp h h2 h3 o.dst⟩
theorem sd {f:AV} {K:FuncId -> List AV -> Prop} {v:Value} (hv:bQ cx w tab L v f) (hl:f.lt nx) (h:HM f K):∃ g xs cs,v=.func (.func g) #[] xs /\ xs.size=cs.length /\ (∀ (j:Nat) (x:Value) (av:AV),xs[j]? = some x -> cs[j]? = some av -> bQ cx w tab L x av) /\ K g cs /\ ∀ av ∈ cs,av.lt nx:=by
 unfold HM at h;split at h
 .rename_i g first caps
  obtain ⟨⟨rfl,rfl⟩,h⟩:=h;exact ⟨g,#[],[],hv.c_inv,rfl,fun j x av h1 _=>by simp at h1,h,by simp⟩
 .rename_i g cs;obtain ⟨xs,h1,h2,h3⟩:=hv.fn_inv;exact ⟨g,xs,cs,h1,h2,h3,h,ak.1 hl⟩
 .exact h.elim
theorem LP (h:aH cx a w st L) {args:Array Operand} {xs:Array Value} {cs:List AV} (hn:xs.size=cs.length) (hx:∀ (j:Nat) (x:Value) (av:AV),xs[j]? = some x -> cs[j]? = some av -> bQ cx w st.tab L x av) :
  (xs ++ args.map a.eval).size=(cs ++ args.toList.map (bm st)).length /\ ∀ (j:Nat) (v:Value) (av:AV),(xs ++ args.map a.eval)[j]? = some v -> (cs ++ args.toList.map (bm st))[j]? = some av -> bQ cx w st.tab L v av:=by
 refine ⟨by simp [hn],fun j v av h1 h2=>?_⟩;by_cases hj:j<xs.size
 .rw [V5 hj] at h1;rw [VO (by omega)] at h2;exact hx j v av h1 h2
 .rw [Xg (by omega)] at h1;rw [VQ (by omega),<- hn] at h2;rw [XF] at h1;rw [Ve,Wg] at h2
  cases hk:args[j - xs.size]? with
  | none=>simp [hk] at h1
  | some x=>
   simp [hk] at h1 h2;subst h1;subst h2;exact (am h x).1
theorem sa (h:aH cx a w st L) {args:Array Operand} {xs:Array Value} {cs:List AV} (hn:xs.size=cs.length) (hx:∀ (j:Nat) (x:Value) (av:AV),xs[j]? = some x -> cs[j]? = some av -> bQ cx w st.tab L x av) :
  (args.map a.eval ++ xs).size=(args.toList.map (bm st) ++ cs).length /\ ∀ (j:Nat) (v:Value) (av:AV),(args.map a.eval ++ xs)[j]? = some v -> (args.toList.map (bm st) ++ cs)[j]? = some av -> bQ cx w st.tab L v av:=by
 refine ⟨by simp [hn],fun j v av h1 h2=>?_⟩;by_cases hj:j<args.size
 .rw [V5 (by simpa using hj),XF,Vl hj] at h1;rw [VO (by simpa using hj),Ve,Wg,Vl hj] at h2;simp at h1 h2;subst h1;subst h2;exact (am h _).1
 .rw [Xg (by simpa using hj)] at h1;rw [VQ (by simpa using hj)] at h2;simp at h1 h2;exact hx _ v av h1 h2
theorem zT (h:aH cx a w st L) {f:Operand} {args:Array Operand} {dst:Option Nat} {K:aj -> Prop} (hp:CO (bm st f) (Dg P st args.toList dst K) (yp P st args.toList dst K)) :
  ∃ (g:FuncId) (zs:Array Value) (avs:List AV),(fL P g -> ∀ (o:Oper) (ts:Array TypeId),o.op=.call ⟨.value f,args,ts⟩ -> (execOp a.eval o).run P w=.ok (.enter g zs) w) /\ zs.size=avs.length /\
   (∀ (j:Nat) (v:Value) (av:AV),zs[j]? = some v -> avs[j]? = some av -> bQ cx w st.tab L v av /\ av.lt st.next) /\ gD none P st g avs (vW dst K):=by
 unfold CO at hp;split at hp
 .rename_i g bs hf;have hv:=(am h f).1;have hl:=(am h f).2;rw [hf] at hv hl;obtain ⟨xs,hg,hxn,hxr⟩:=hv.bfn_inv;have hargs:=LP h (args:=args) hxn hxr;refine ⟨g,xs ++ args.map a.eval,bs ++ args.toList.map (bm st),fun hent o ts ho=>?_,hargs.1,fun j v av h1 h2=>⟨hargs.2 j v av h1 h2,?_⟩,hp⟩
  .have:=hent (xs ++ args.map a.eval) w;simp [execOp,ho,Sem.run_bind,resolve,hg,Deferred.ofValue,invoke,this]
  .rcases Vs.1 (Os h2) with h3 | h3
   .exact ak.1 hl av h3
   .obtain ⟨x,_,rfl⟩:=Vx.1 h3;exact (am h x).2
 .obtain ⟨g,xs,cs,hg,hxn,hxr,hp,hcs⟩:=sd (am h f).1 (am h f).2 hp;have hargs:=sa h (args:=args) hxn hxr;refine ⟨g,args.map a.eval ++ xs,args.toList.map (bm st) ++ cs,fun hent o ts ho=>?_,hargs.1,fun j v av h1 h2=>⟨hargs.2 j v av h1 h2,?_⟩,hp⟩
  .have:=hent (args.map a.eval ++ xs) w;simp [execOp,ho,Sem.run_bind,resolve,hg,Deferred.ofValue,invoke,this]
  .rcases Vs.1 (Os h2) with h3 | h3
   .obtain ⟨x,_,rfl⟩:=Vx.1 h3;exact (am h x).2
   .exact hcs av h3
theorem lN {t:TypeId} {parts:Array (Nat × Operand)} {dst:Option Nat} {K:aj -> Prop} (h:aH cx a w st L) (hp:ml P t st parts.toList dst K):∃ v,∃ cs,bQ cx w st.tab L v (.agg cs) /\ (AV.agg cs).lt st.next /\ (∀ w',(Instr.build t (parts.map fun (p:Nat × Operand)=>(p.1,a.eval p.2))).run P w'=.ok v w') /\ K (st.put dst (.agg cs)):=by
 unfold ml at hp;split at hp
 .rename_i places zs ht;split at hp
  .rename_i cs hf;obtain ⟨h1,h2⟩:=hp;obtain ⟨v,h3,h4,h5⟩:=LW h ht hf h1;exact ⟨v,cs,h3,h4,by simpa using h5,h2⟩
  .exact hp.elim
 .exact hp.elim
theorem Fv {t:TypeId} {x:Operand} {lo hi mx:Option Operand} {K:aj -> Prop} {Q:Exit -> Act -> World -> Prop} {ty:TypeId} {dst:Option Nat} {pos:String} {aft:Array Edge} {gd:Option (Nat × Bool)} (h:aH cx a w st L)
  (hp:jI P t st (bm st x) (lo.map (bm st)) (hi.map (bm st)) (mx.map (bm st)) dst K):Oper.wp (P:=P) ⟨dst,.slice t x lo hi mx,ty,pos,aft,gd⟩ a w (Io cx K) Q:=by
 unfold jI at hp;split at hp
 .rename_i id hx;have hv:=(am h x).1;rw [hx] at hv;split at hp
  .rename_i e sz rows hid;unfold oa at hp;split at hp
   .rename_i l h' hl hh;obtain ⟨⟨h1,h2⟩,⟨rfl,h4,h5,h6⟩,h7⟩:=hp;obtain ⟨hu,hsz⟩:=jv (P:=P) (t:=t) (by omega);have hvL:=hv.osl_inv _ _ (cU hid);obtain ⟨hrow,xs,hown,hone,hx'⟩:=h.lay.objs id _ hid;have hs:=dF (P:=P) (t:=(bA P t).1) (by omega) w;rw [hsz,h1] at hs
    have key:∀ A cap,L id=.slice A rows.length cap -> rows.length<=cap -> ∃ m,h'.toNat<=m /\ m<=cap /\ (Instr.sliceBounds true rows.length cap (lo.map a.eval) (hi.map a.eval) (mx.map a.eval)).run P w=.ok (0,h'.toNat,m) w:=by
     intro A cap hL hc;have hlo:=ri (d:=0) (n:=0) (fun x=>(am h x).1) hl (by omega) rfl;have hhi:=ri (d:=rows.length) (n:=h'.toNat) (fun x=>(am h x).1) hh (by omega) rfl
     cases mx with
     | none=>exact ⟨cap,by omega,Vh _,gX hlo hhi (.inl ⟨rfl,rfl⟩) (by omega) (by omega)⟩
     | some q=>
      have hq:=(am h q).1;simp only [VT] at h6 ⊢;unfold GD at h6;split at h6
      .rename_i hq';cases hq'
      .rename_i k m hq'
       injection hq' with hq'
       rw [hq'] at hq;obtain ⟨rfl,hb⟩:=h6;refine ⟨m.toNat,Vh _,by omega,gX hlo hhi (.inr ⟨rfl,⟨k,by rw [hq.c_inv,Int.toNat_of_nonneg h4]⟩,fun hn=>?_⟩) (by omega) (by omega)⟩
       cases hi with
       | none=>simp at hb
       | some _=>cases hn
      .exact h6.elim
    rcases hown.2 with ⟨hL,h0⟩|⟨g,cap,cur,hL,hb,hh',hc,hm,hcs,htake⟩
    .obtain ⟨m,hm1,hm2,hr⟩:=key none 0 (by rw [hL,h0]) (by omega);have hm0:m=0:=(by omega);have hn0:h'.toNat=0:=(by omega);refine aW (v:=.slice none 0 0) ?_ ⟨_,_,h7,lg (n:=h'.toNat) h hid (by omega) (.inl ⟨hL,rfl⟩) dst⟩;rw [h0] at hr;simp [execOp,Sem.run_bind,hvL,hL,Instr.sliceAt,Instr.slice,run_underlying hu,hr,hs,hm0,hn0]
    .obtain ⟨m,hm1,hm2,hr⟩:=key _ cap hL hc;refine aW (v:=.slice (some ⟨g,0,none⟩) h'.toNat m) ?_ ⟨_,_,h7,lg (n:=h'.toNat) h hid (by omega) (.inr ⟨g,cap,m,hL,rfl,hm1,hm2⟩) dst⟩;simp [execOp,Sem.run_bind,hvL,hL,Instr.sliceAt,Instr.slice,run_underlying hu,hr,hs,Addr.add_lit]
   .exact hp.elim
  .exact hp.elim
 .exact rQ (o:=⟨dst,.slice t x lo hi mx,ty,pos,aft,gd⟩) h (by exact hp)
theorem UM {o:Oper} {K:aj -> Prop} {Q:Exit -> Act -> World -> Prop} (h:aH cx a w st L) (hp:jm P o K st):o.wp P a w (Io cx K) Q:=by
 obtain ⟨dst,op,ty,pos,aft,gd⟩:=o;unfold jm at hp;simp only at hp;split at hp
 .rename_i t x;obtain ⟨h1,h2⟩:=hp;have he:=am h x;obtain ⟨h3,h4⟩:=pJ (P:=P) (t:=t) h he.1 he.2 h1 dst;exact aW (by simp [execOp,Sem.run_bind,h3]) ⟨_,_,h2,h4⟩
 .rename_i t;split at hp
  .rename_i z hz;obtain ⟨h1,h2⟩:=hp;obtain ⟨h3,h4⟩:=pJ (P:=P) (t:=t) (av:=.c z) h (.tree (.c z)) trivial h1 dst;exact aW (by simp [execOp,Sem.run_bind,pY hz,h3]) ⟨_,_,h2,h4⟩
  .exact hp.elim
 .rename_i t p x;unfold qq at hp;split at hp
  .rename_i id i j hpe;split at hp
   .rename_i ty cells hid;obtain ⟨rfl,h0,h1,h2,h3,h4⟩:=hp;have hpv:=(am h p).1;rw [hpe] at hpv;have hx:=am h x;obtain ⟨w',h5,h6,_⟩:=lw h hpv hid hx.1 hx.2 h0 h1 h2 h3 dst;exact eY (by simp [execOp,Sem.run_bind,h5]) ⟨_,_,h4,h6⟩
   .rename_i e sz rows hid;obtain ⟨hi,h0,h1,h2,h3,h3',h4⟩:=hp;have hpv:=(am h p).1;rw [hpe] at hpv;have hx:=am h x;obtain ⟨w',h5,h6,_⟩:=k5 h hpv hid hx.1 hx.2 hi h0 h1 h2 h3 h3' dst;exact eY (by simp [execOp,Sem.run_bind,h5]) ⟨_,_,h4,h6⟩
   .rename_i e sz rows hid;obtain ⟨hi,h0,h1,h2,h3,h4⟩:=hp;have hpv:=(am h p).1;rw [hpe] at hpv;have hx:=am h x;obtain ⟨w',h5,h6,_⟩:=j4 h hpv hid hx.1 hx.2 hi h0 h1 h2 h3 dst;exact eY (by simp [execOp,Sem.run_bind,h5]) ⟨_,_,h4,h6⟩
   .exact hp.elim
  .exact hp.elim
 .rename_i t n parts;unfold ez at hp
  replace h:=f5 (gM (parts.toList.flatMap fun (p:Nat × Operand)=>aq (bm st p.2))) h
  unfold gl at hp;split at hp
  .rename_i e sz by_ ht;split at hp
   .obtain ⟨⟨h1,rfl,h3,h5⟩,h6⟩:=hp;obtain ⟨v',w',L',h7,h8,_⟩:=jT h ht h1 h3 h5 dst;refine aW ?_ ⟨_,_,h6,h8⟩;simp only [W9] at h7;simp [execOp,Sem.run_bind];simp at h7;simp [h7]
   .obtain ⟨⟨h1,rfl,h3,h5⟩,h6⟩:=hp;obtain ⟨v',w',L',h7,h8,_⟩:=pD h ht h1 h3 h5 dst;refine aW ?_ ⟨_,_,h6,h8⟩;simp only [W9] at h7;simp [execOp,Sem.run_bind];simp at h7;simp [h7]
  .exact hp.elim
 .rename_i t l c;unfold qP at hp;split at hp
  .rename_i e sz by_ k1 n k2 m ht hl hc;split at hp
   .rename_i z hz;obtain ⟨⟨rfl,h1,h2,h3,h4⟩,h5⟩:=hp;have hl':=(am h l).1;have hc':=(am h c).1;rw [hl] at hl';rw [hc] at hc';obtain ⟨v',w',L',h6,h7,_⟩:=wI (k1:=k1) (k2:=k2) h ht hz h1 h2 h3 h4 dst;exact aW (by simp [execOp,Sem.run_bind,hl'.c_inv,hc'.c_inv,h6]) ⟨_,_,h5,h7⟩
   .exact hp.elim
  .exact hp.elim
 .rename_i t parts;obtain ⟨v,cs,h1,h2,h3,h4⟩:=lN h hp;refine aW ?_ ⟨_,_,h4,bp h h1 h2 dst⟩;simp [execOp,Sem.run_bind,h3 w]
 .rename_i t x lo hi mx;exact Fv h hp
 .rename_i t r;obtain ⟨hr,hp⟩:=hp
  cases r with
  | some r=>cases hr
  | none=>
   obtain ⟨h1,h2⟩:=tN (P:=P) (t:=t) h dst;exact aW (by simp [execOp,Sem.run_bind,h1]) ⟨_,_,hp,h2⟩
 .rename_i t m k ok;obtain ⟨r,av,h1,h2,h3,h4⟩:=pE (nx:=st.next) h.lay (am h m).1 (am h k).1 hp;exact aW (by simp [execOp,Sem.run_bind,h4]) ⟨_,_,h1,bp h h2 h3 dst⟩
 .rename_i t m k v;obtain ⟨w',st',h1,h2,h3,_⟩:=qv h (am h m).1 (am h k).1 (am h v).1 dst hp;exact eY (by simp [execOp,Sem.run_bind,h1]) ⟨_,_,h2,h3⟩
 .rename_i c;obtain ⟨callee,args,argTypes⟩:=c;simp only at hp;split at hp
  .split at hp
   .rename_i x y t t' h1 h2;obtain rfl:args = #[x,y]:=by cases args;simp_all
    obtain rfl:argTypes = #[t,t']:=by cases argTypes;simp_all
    obtain ⟨rfl,hp⟩:=hp;unfold jQ at hp;split at hp
    .rename_i hnn;obtain ⟨e1,e2⟩:=nW hnn;have hx1:=(am h x).1;have hy1:=(am h y).1;rw [e1] at hx1;rw [e2] at hy1;have hx2:=hx1.c_inv;have hy2:=hy1.c_inv;have hr:=jy (ty:=ty) (w:=w) hp.1;exact aW (by simp [execOp,Sem.run_bind,resolve,invoke,builtin,hx2,hy2,hr]) ⟨_,_,hp.2,bp h (.tree (.c _)) trivial dst⟩
    unfold kk at hp;split at hp
    .rename_i e sz by_ ht;split at hp
     .rename_i oid rows rows2 hx hy;obtain ⟨⟨h3,h4⟩,h5⟩:=hp;obtain ⟨v',w',L',h6,h7,_⟩:=qh (ty:=ty) h (am h x).1 (am h y).1 ht hx hy (by simpa [maxLen] using h3) h4 dst;exact aW (by simp [execOp,Sem.run_bind,resolve,invoke,builtin,h6]) ⟨_,_,h5,h7⟩
     .split at hp
      .rename_i oid rows rows2 hx hy;obtain ⟨⟨h3,h4⟩,h5⟩:=hp;obtain ⟨v',w',L',h6,h7,_⟩:=nQ (ty:=ty) h (am h x).1 (am h y).1 ht hx hy (by simpa [maxLen] using h3) h4 dst;exact aW (by simp [execOp,Sem.run_bind,resolve,invoke,builtin,h6]) ⟨_,_,h5,h7⟩
      .exact hp.elim
    .exact hp.elim
   .exact hp.elim
  .unfold yg at hp;split at hp
   .rename_i x t h1 h2;obtain rfl:args = #[x]:=by cases args;simp_all
    obtain rfl:argTypes = #[t]:=by cases argTypes;simp_all
    obtain ⟨w',st',h3,h4,h5,_⟩:=AG (ty:=ty) h (am h x).1 dst hp;exact aW (by simp [execOp,Sem.run_bind,resolve,invoke,builtin,h3]) ⟨_,_,h4,h5⟩
   .exact hp.elim
  .rcases hp with hp | hp
   .unfold C3 at hp;split at hp
    .rename_i x t h1 h2;obtain rfl:args = #[x]:=by cases args;simp_all
     obtain rfl:argTypes = #[t]:=by cases argTypes;simp_all
     obtain ⟨r,av,h3,h4,h5,h6⟩:=ED (ty:=ty) (nx:=st.next) h.lay (am h x).1 hp;exact aW (by simp [execOp,Sem.run_bind,resolve,invoke,builtin,h6]) ⟨_,_,h3,bp h h4 h5 dst⟩
    .exact hp.elim
   .exact rQ h hp
  .rename_i f;obtain ⟨g,zs,avs,hrun0,hsz,hlt,hp⟩:=zT h hp;by_cases hmeth:yT none P st g avs (vW dst K)
   .obtain ⟨hent,ids0,_,hc⟩:=yn h hsz (fun j v av h1 h2=>(hlt j v av h1 h2).1) hmeth dst;unfold Oper.wp;rw [hrun0 hent _ argTypes rfl];show Calls P g zs w _;refine hc.mono ?_;rintro e w' ⟨v,av,st',L',rfl,h1,h2,h3,_⟩;exact ⟨_,_,h1,h2⟩
   replace hp:qe P st g avs (vW dst K) \/ (none=(none:Option (Nat × List Nat)) /\ (D8 P st g avs (vW dst K) \/ Dv P st g avs (vW dst K))):=by
    rcases hp with hp|hp|hp
    .exact .inl hp
    .exact .inr hp
    .exact absurd hp hmeth
   have hent:fL P g:=by
    rcases hp with (⟨R,hd,_⟩|⟨hd,_⟩)|⟨_,(⟨_,_,_,_,_,_,_,_,hd,_⟩|⟨_,_,_,_,_,_,_,_,_,hd,_⟩|⟨hd,_⟩)|⟨_,(⟨R,hd,_⟩|⟨hd,_⟩)⟩⟩
    .exact hd.1
    .exact hd
    .exact hd.1
    .exact hd.1
    .exact hd
    .exact hd.1
    .exact hd
   unfold Oper.wp;rw [hrun0 hent _ argTypes rfl];show Calls P g zs w _;have hargs:zs.size=avs.length /\ ∀ (j:Nat) (v:Value) (av:AV),zs[j]? = some v -> avs[j]? = some av -> bQ cx w st.tab L v av:=⟨hsz,fun j v av h1 h2=>(hlt j v av h1 h2).1⟩;rcases hp with hp|⟨_,hp|⟨ids,hp⟩⟩
   .refine (oP h hargs.1 hargs.2 hp dst).mono ?_;rintro e w' ⟨v,av,st',L',rfl,h1,h2,_⟩;exact ⟨_,_,h1,h2⟩
   rotate_left
   .obtain ⟨h3,h4⟩:=ms ids h hlt;refine (oP (f5 ids h) (by rw [h3];exact hargs.1) (fun j v av h5 h6=>(h4 j v av h5 h6).1) hp dst).mono ?_;rintro e w' ⟨v,av,st',L',rfl,h1,h2,_⟩;exact ⟨_,_,h1,h2⟩
   .refine (DR h hargs.1 hlt hp dst).mono ?_;rintro e w' ⟨v,av,st',L',rfl,h1,h2,_⟩;exact ⟨_,_,h1,h2⟩
  .exact rQ h hp
 .exact rQ h hp
theorem cC {ops:Array Oper} {g:Option (Nat × Bool)} {yes no:aj -> Prop} (h:aH cx a w st L) (hp:k7 ops g yes no st) (o:Oper) (ho:o.guard=g) :
  (Region.wanted o (yielded ops a.tmps)=true /\ ∃ st',yes st' /\ aH cx a w st' L /\ st'.tab=st.tab /\ st'.next=st.next) \/ (Region.wanted o (yielded ops a.tmps)=false /\ ∃ st',no st' /\ aH cx a w st' L /\ st'.tab=st.tab /\ st'.next=st.next):=by
 subst ho;unfold k7 at hp;unfold Region.wanted;split at hp
 .rename_i hg;rw [hg];exact .inl ⟨rfl,st,hp,h,rfl,rfl⟩
 .rename_i j want hg;rw [hg];simp only;split at hp
  .rename_i d hd;split at hp
   .rename_i v hv;have hval:=(h.env d).1;rw [hv] at hval;have hval:=hval.c_inv
    have hy:yielded ops a.tmps j=yv v:=by
     unfold yielded;rw [hd];simp only [Wm];rw [<- hval];rw [V9]
     cases ht:a.tmps[d]? with
     | none=>rfl
     | some u=>cases u<;>rfl
    rw [hy]
    have same:∀ b,v=.bool b -> aH cx a w (st.put (some d) (.c (.bool b))) L /\ (st.put (some d) (.c (.bool b))).tab=st.tab /\ (st.put (some d) (.c (.bool b))).next=st.next:=fun b hb=>by
     subst hb;have e1:(st.put (some d) (.c (.bool b))).tab=st.tab:=rfl;have e2:(st.put (some d) (.c (.bool b))).next=st.next:=rfl;have e3:(st.put (some d) (.c (.bool b))).n=st.n:=rfl;refine ⟨⟨by rw [e1];exact h.lay,by rw [e3];exact h.size,by rw [e1];exact h.defers,by rw [e1,e2];exact h.young,fun t=>?_⟩,e1,e2⟩;rw [e1,e2,EJ];simp only;split
     .rename_i ht;rw [ht.2,hval];exact ⟨.tree (.c _),trivial⟩
     .exact h.env t
    split at hp
    .rename_i b hb
     have hvb:v=.bool b:=by
      cases v<;>simp [yv] at hb;rw [hb]
     by_cases hw:b=want
     .subst hw;have hp:yes (st.put (some d) (.c (.bool b))):=by cases b<;>exact hp
      exact .inl ⟨by simp [hb],_,hp,same _ hvb⟩
     .have hp:no (st.put (some d) (.c (.bool b))):=by cases b<;>cases want<;>first|exact hp|exact absurd rfl hw
      exact .inr ⟨by simp [hb,hw],_,hp,same _ hvb⟩
    .rename_i hb;exact .inr ⟨by simp [hb],st,hp,h,rfl,rfl⟩
   .exact hp.elim
  .exact hp.elim
theorem bZ (h:aH cx a w st L) (dst:Option Nat):aH cx (a.put dst undef) w (st.put dst (.c undef)) L:=bp h (.tree (.c _)) trivial dst
theorem xB {ops:Array Oper} {K:aj -> Prop} {Q:Exit -> Act -> World -> Prop} (hQ:∀ a w st L,K st -> aH cx a w st L -> Q .normal a w):∀ (l:List Oper) (a:Act) (w:World) (st:aj) (L:Nat -> Value),aH cx a w st L -> lH P ops K l st -> wpList P ops Q l a w
 | [],a,w,st,L,h,hp=>hQ a w st L hp h
 | o :: rest,a,w,st,L,h,hp=>by
  unfold lH at hp;refine wpList_step fun K' hK'=>?_;rcases cC h hp o rfl with ⟨hw,st',h1,h2,_⟩|⟨hw,st',h1,h2,_⟩
  .rw [Vo hw];exact Oper.wp_mono (fun a' w' ⟨st'',L',h3,h4⟩=>hK' a' w' (xB hQ rest a' w' st'' L' h4 h3)) (UM h2 h1)
  .rw [Vj (by simp [hw])];exact hK' _ _ (xB hQ rest _ w _ L (bZ h2 o.dst) h1)
theorem fX (h:aH cx a w st L) (hb:Below w.heap.size w w'):aH cx a w' st L:=by
 have hext:mX cx w st.tab L st.next w' st.tab L:=gN hb (fun id _=>⟨rfl,rfl⟩) (fun id o hid=>(h.young id o hid).1) (fun id o g h1 h2 _=>by have:=(h.young id o h2).1;omega);refine ⟨kg h.lay h.young hb (fun id _=>⟨rfl,rfl⟩) (fun id o h1 h2=>?_) (fun id o g h1 h2 _=>?_) (fun id id' o o' g h1 _ h2 _ _ _=>?_),h.size,h.defers.mono hext.blk hext.sub,h.young,fun t=>⟨hext.rv (h.env t).1 (h.env t).2,(h.env t).2⟩⟩
 .have:=(h.young id o h2).1;omega
 .have:=(h.young id o h2).1;omega
 .have:=(h.young id o h2).1;omega
structure cB (T:Nat -> Prop) (a a':Act):Prop where
 defers:a'.defers=a.defers
 slots:∀ t,T t -> a'.tmps.getD t undef=a.tmps.getD t undef
theorem cB.refl {T:Nat -> Prop} (a:Act):cB T a a:=⟨rfl,fun _ _=>rfl⟩
theorem cB.trans {T:Nat -> Prop} {a b c:Act} (h:cB T a b) (k:cB T b c):cB T a c:=⟨k.defers.trans h.defers,fun t ht=>(k.slots t ht).trans (h.slots t ht)⟩
theorem bF (a:Act) (d:Option Nat) (v:Value):(a.put d v).defers=a.defers:=by cases d<;>rfl
theorem kw (st:aj) (d:Option Nat) (av:AV):(st.put d av).tab=st.tab:=by cases d<;>rfl
theorem ki {a:Act} {dst:Option Nat} {v:Value} {t:Nat} (h:dst ≠ some t):(a.put dst v).tmps.getD t undef=a.tmps.getD t undef:=by
 cases dst with
 | none=>rfl
 | some d=>
  have hd:d ≠ t:=fun e=>h (by rw [e]);simp [Act.put,V9,Array.getElem?_setIfInBounds,hd]
theorem cB.put {T:Nat -> Prop} {a b:Act} {dst:Option Nat} {v:Value} (h:cB T a b) (hd:∀ t,T t -> dst ≠ some t):cB T a (b.put dst v):=⟨(bF _ _ _).trans h.defers,fun t ht=>(ki (hd t ht)).trans (h.slots t ht)⟩
theorem fr {o:Oper} {K:Act -> World -> Prop} {Q:Exit -> Act -> World -> Prop} {T:Nat -> Prop} (hd:∀ t,T t -> o.dst ≠ some t) (h:o.wp P a w K Q):o.wp P a w (fun a' w'=>K a' w' /\ ∀ t,T t -> a'.tmps.getD t undef=a.tmps.getD t undef) Q:=by
 unfold Oper.wp Oper.upon at *;generalize (execOp a.eval o).run P w=r at h
 cases r with
 | ok x w1=>
  cases x with
  | value v=>exact ⟨h,fun t ht=>ki (hd t ht)⟩
  | skip=>exact ⟨h,fun t ht=>ki (hd t ht)⟩
  | defer d=>exact ⟨h,fun t ht=>ki (a:={ a with defers:=d :: a.defers }) (hd t ht)⟩
  | enter f args=>
   refine Calls.mono h fun e w2 h2=>?_
   cases e with
   | returned v=>exact ⟨h2,fun t ht=>ki (hd t ht)⟩
   | panicked chain=>exact h2
   | outgrown=>exact h2
  | row row args=>exact Rows.mono h fun v w2 h2=>⟨h2,fun t ht=>ki (hd t ht)⟩
  | _=>exact h.elim
 | halt x w1=>
  cases x<;>first|exact h|exact h.elim
theorem mv {ops:Array Oper} {K:aj -> Prop} {Q:Act -> Prop} {T:Nat -> Prop} {a0:Act} {tab0:af} (hQ:∀ a st,K st -> aH cx a w st L -> st.tab=tab0 -> cB T a0 a -> Q a):∀ (l:List Oper) (a:Act) (st:aj),(∀ o ∈ l,∀ t,T t -> o.dst ≠ some t) -> st.tab=tab0 -> cB T a0 a -> aH cx a w st L -> j7 P ops K l st -> wpQuiet P ops (fun w'=>Below w.heap.size w w') Q l a
 | [],a,st,_,hT,hA,h,hp=>hQ a st hp h hT hA
 | o :: rest,a,st,hd0,hT,hA,h,hp=>by
  have hdo:=hd0 o (Wc ..);have hdr:=fun o' (ho:o' ∈ rest)=>hd0 o' (V0 _ ho);unfold j7 at hp;refine wpQuiet_step fun K' hK'=>?_;rcases cC h hp o rfl with ⟨hw,st',h1,h2,ht',_⟩|⟨hw,st',h1,h2,ht',_⟩
  .rw [Vo hw]
   have pureCase:∀ op,o.op=op -> cj P st'.tab (bm st') op (aK st' o.dst (j7 P ops K rest)) -> o.quiet P a (fun w'=>Below w.heap.size w w') K':=fun op hop hp'=>by
    subst hop;obtain ⟨v,av,h3,h4,h5,h6,_⟩:=kK h2.lay (fun id o hid=>(h2.young id o hid).2) (am h2) hp';refine ⟨v,fun w' hw'=>?_,hK' _ (mv hQ rest _ _ hdr (by rw [kw,ht',hT]) (hA.put hdo) (bp h2 h4 h5 o.dst) h3)⟩;unfold Oper.quietAt;rw [h6 w' hw'];exact ⟨rfl,rfl⟩
   unfold m9 at h1;split at h1
   .rename_i c hc;split at h1
    .rename_i f hf;obtain ⟨g,xs,cs,hg,hxn,hxr,⟨v,hd,h3⟩,_⟩:=sd (am h2 f).1 (am h2 f).2 h1;refine ⟨v,fun w' hw'=>?_,hK' _ (mv hQ rest _ _ hdr (by rw [kw,ht',hT]) (hA.put hdo) (bp h2 (.tree (.c v)) trivial o.dst) h3)⟩
     have hrun:(execOp a.eval o).run P w'=.ok (.enter g (c.args.map a.eval ++ xs)) w':=by
      have:=hd.1 (c.args.map a.eval ++ xs) w';simp [execOp,hc,Sem.run_bind,resolve,hf,hg,Deferred.ofValue,invoke,this]
     have hargs:=sa h2 (args:=c.args) hxn hxr;unfold Oper.quietAt;rw [hrun];refine ⟨rfl,(hd.2 (fun b=>b<w'.heap.size) w' (c.args.map a.eval ++ xs) (h2.lay.amb.below hw').all (by simpa using hargs.1) (fun j x av h4 h5=>?_)).mono ?_⟩
     .rw [Ve] at h5
      cases hj:(c.args.toList.map (bm st') ++ cs)[j]? with
      | none=>simp [hj] at h5
      | some y=>
       simp [hj] at h5;subst h5;exact (Et h2.lay (hargs.2 j x y h4 hj)).mono (fun p hp=>hw'.cell hp) (fun b hb=>Vn hb hw'.size)
     .rintro e w'' ⟨v',L2,R,rfl,_,rfl,hl,hr⟩;obtain rfl:=hr.c_inv;exact ⟨rfl,hw'.trans ((hl.below.below fun b hb=>hb).mono hw'.size)⟩
    .exact pureCase _ hc h1
   .rename_i t parts hb;obtain ⟨v,cs,h3,h4,h5,h6⟩:=lN h2 h1;refine ⟨v,fun w' hw'=>?_,hK' _ (mv hQ rest _ _ hdr (by rw [kw,ht',hT]) (hA.put hdo) (bp h2 h3 h4 o.dst) h6)⟩;have hrun:(execOp a.eval o).run P w'=.ok (.value v) w':=(by simp [execOp,hb,Sem.run_bind,h5 w']);unfold Oper.quietAt;rw [hrun];exact ⟨rfl,rfl⟩
   .exact pureCase _ rfl h1
  .rw [Vj (by simp [hw])];exact hK' _ (mv hQ rest _ _ hdr (by rw [kw,ht',hT]) (hA.put hdo) (bZ h2 o.dst) h1)
theorem r9 {ops:Array Oper} {K:aj -> Prop} {Q:Act -> Prop} {T:Nat -> Prop} {a0:Act} {tab0:af} (hQ:∀ a st,K st -> aH cx a w st L -> st.tab=tab0 -> cB T a0 a -> Q a):∀ (l:List Oper) (a:Act) (st:aj),(∀ o ∈ l,∀ t,T t -> o.dst ≠ some t) -> st.tab=tab0 -> cB T a0 a -> aH cx a w st L -> nr P ops K l st -> wpStill P ops w Q l a
 | [],a,st,_,hT,hA,h,hp=>hQ a st hp h hT hA
 | o :: rest,a,st,hd0,hT,hA,h,hp=>by
  have hdo:=hd0 o (Wc ..);have hdr:=fun o' (ho:o' ∈ rest)=>hd0 o' (V0 _ ho);unfold nr at hp;refine wpStill_step fun K' hK'=>?_;rcases cC h hp o rfl with ⟨hw,st',h1,h2,ht',_⟩|⟨hw,st',h1,h2,ht',_⟩
  .rw [Vo hw];unfold nr.aPop at h1;obtain ⟨v,av,h3,h4,h5,h6,_⟩:=kK h2.lay (fun id o hid=>(h2.young id o hid).2) (am h2) h1;unfold Oper.still;rw [h6 w (Below.refl _ _),Oper.stillUpon_value];exact hK' _ (r9 hQ rest _ _ hdr (by rw [kw,ht',hT]) (hA.put hdo) (bp h2 h4 h5 o.dst) h3)
  .rw [Vj (by simp [hw])];exact hK' _ (r9 hQ rest _ _ hdr (by rw [kw,ht',hT]) (hA.put hdo) (bZ h2 o.dst) h1)
def tH (bM:Nat) (B:Nat) (G:Nat -> Prop) (tab:af) (L:Nat -> Value):Prop:=∀ id o g,bM<=id -> tab.get id=some o -> aO (L id)=some g -> B<=g \/ G g
structure lS (B:Nat) (G:Nat -> Prop) (wr w:World):Prop where
 size:B<=w.heap.size
 block:∀ k,k<B -> ¬ G k -> w.heap[k]? = wr.heap[k]?
theorem lS.step {B:Nat} {G:Nat -> Prop} {wr w w':World} (h:lS B G wr w) (hs:w.heap.size<=w'.heap.size) (hb:∀ k,k<B -> ¬ G k -> w'.heap[k]? = w.heap[k]?):lS B G wr w':=
 ⟨VC h.size hs,fun k hk hG=>(hb k hk hG).trans (h.block k hk hG)⟩
theorem tl {bM B:Nat} {G:Nat -> Prop} {L:Nat -> Value}:∀ (ids:List Nat) {st:aj},tH bM B G st.tab L -> tH bM B G (iq st ids).tab L
 | [],_,h=>h
 | id :: ids,st,h=>tl ids (st:=iE st id) fun k o g h1 h2 h3=>by
  unfold iE at h2;split at h2
  .rw [af.gc,dh] at h2;split at h2
   .cases h2
   .cases hg:st.tab.get k with
    | none=>simp [hg] at h2
    | some o'=>exact h k o' g h1 hg h3
  .exact h k o g h1 h2 h3
theorem tS:∀ (ids:List Nat) {st:aj} (k:Nat) (o:aD),(iq st ids).tab.get k=some o -> ∃ o',st.tab.get k=some o'
 | [],_,_,o,h=>⟨o,h⟩
 | id :: ids,st,k,o,h=>by
  obtain ⟨o1,h⟩:=tS ids (st:=iE st id) k o h;unfold iE at h;split at h
  .rw [af.gc,dh] at h;split at h
   .cases h
   .cases hg:st.tab.get k with
    | none=>simp [hg] at h
    | some o'=>exact ⟨o',rfl⟩
  .exact ⟨o1,h⟩
theorem gZ {o:Oper} {K:aj -> Prop} {Q:Exit -> Act -> World -> Prop} {B bM:Nat} {ids:List Nat} {G:Nat -> Prop} {wr:World} (h:aH cx a w st L) (hS:lS B G wr w) (hy:tH bM B G st.tab L) (hG:∀ id ∈ ids,∀ g,aO (L id)=some g -> G g) (hnx:∀ id ∈ ids,id<st.next) (hp:gH P bM ids o K st) :
  o.wp P a w (fun a' w'=>∃ st' L',K st' /\ aH cx a' w' st' L' /\ a'.defers=a.defers /\ lS B G wr w' /\ tH bM B G st'.tab L' /\ (∀ id,id<st.next -> L' id=L id) /\ st.next<=st'.next /\ ∀ id o,id<st.next -> st'.tab.get id=some o -> ∃ o',st.tab.get id=some o') Q:=by
 have hB:=hS.size;have etab:∀ (st:aj) d av,(st.put d av).tab=st.tab:=fun st d av=>by cases d<;>rfl
 have enext:∀ (st:aj) d av,(st.put d av).next=st.next:=fun st d av=>by cases d<;>rfl
 obtain ⟨dst,op,ty,pos,aft,gd⟩:=o;unfold gH at hp;simp only at hp;split at hp
 .rename_i x;have he:=am h x;refine aW (by simp [execOp]) ⟨_,L,hp,bp h he.1 he.2 dst,bF _ _ _,hS,by rw [etab];exact hy,fun _ _=>rfl,by rw [enext];exact Vh _,fun id o _ hg=>⟨o,by rw [etab] at hg;exact hg⟩⟩
 .rename_i t x;obtain ⟨v,av,h1,h2,h3,h4,_⟩:=kK (o:=⟨dst,.load t x,ty,pos,aft,gd⟩) h.lay (fun id o hid=>(h.young id o hid).2) (am h) hp;exact aW (h4 w (Below.refl _ _)) ⟨_,L,h1,bp h h2 h3 dst,bF _ _ _,hS,by rw [etab];exact hy,fun _ _=>rfl,by rw [enext];exact Vh _,fun id o _ hg=>⟨o,by rw [etab] at hg;exact hg⟩⟩
 .rename_i t m k ok;obtain ⟨r,av,h1,h2,h3,h4⟩:=pE (nx:=st.next) h.lay (am h m).1 (am h k).1 hp;exact aW (by simp [execOp,Sem.run_bind,h4]) ⟨_,L,h1,bp h h2 h3 dst,bF _ _ _,hS,by rw [etab];exact hy,fun _ _=>rfl,by rw [enext];exact Vh _,fun id o _ hg=>⟨o,by rw [etab] at hg;exact hg⟩⟩
 .rename_i t m k v;split at hp
  .rename_i id hme;obtain ⟨hid,hp⟩:=hp;have hmv:=(am h m).1;rw [hme] at hmv;obtain ⟨w',st',h1,h2,h3,h4,id',ents,ents',hidd,h5,rfl,h6⟩:=qv h hmv (am h k).1 (am h v).1 dst hp;cases hidd
   have hmay:∀ k,k<B -> ¬ G k -> aO (L id)=some k -> False:=fun k hk hGk e=>by
    rcases hid with hid|hge
    .exact hGk (hG id hid k e)
    .rcases hy id _ k hge h5 e with h9 | h9
     .omega
     .exact hGk h9
   refine eY (by simp [execOp,Sem.run_bind,h1]) ⟨_,L,h2,h3,bF _ _ _,hS.step (by omega) (fun k hk hGk=>h6 k fun e=>hmay k hk hGk e),?_,fun _ _=>rfl,by rw [enext];exact Vh _,fun k o' _ hg=>by
    rw [etab,af.gc] at hg;split at hg
    .rename_i e;exact ⟨_,by rw [e];exact h5⟩
    .exact ⟨o',hg⟩⟩
   rw [etab];intro k ob g h9 h10 h11;rw [af.gc] at h10;split at h10
   .rename_i e;exact hy k (.map ents) g h9 (by rw [e];exact h5) h11
   .exact hy k ob g h9 h10 h11
  .exact hp.elim
 .rename_i t p x;split at hp
  .rename_i id i j hpe;obtain ⟨hid,hp⟩:=hp
   have hmay:∀ k,k<B -> ¬ G k -> aO (L id)=some k -> False:=fun k hk hGk e=>by
    rcases hid with hid|hge
    .exact hGk (hG id hid k e)
    .have hn:∃ o,st.tab.get id=some o:=by
      unfold oM at hp;split at hp<;>first|exact ⟨_,by assumption⟩|exact hp.elim
     obtain ⟨o,ho⟩:=hn;rcases hy id o k hge ho e with h9|h9
     .omega
     .exact hGk h9
   unfold oM at hp;split at hp
   .rename_i ty cells hget;obtain ⟨rfl,h0,h1,h2,h3,h4⟩:=hp;have hpv:=(am h p).1;rw [hpe] at hpv;have hx:=am h x;obtain ⟨w',h5,h6,h7,h8⟩:=lw h hpv hget hx.1 hx.2 h0 h1 h2 h3 dst
    refine eY (by simp [execOp,Sem.run_bind,h5]) ⟨_,L,h4,h6,bF _ _ _,hS.step (by omega) (fun k hk hGk=>h8 k fun e=>hmay k hk hGk e),?_,fun _ _=>rfl,by rw [enext];exact Vh _,fun k o' _ hg=>by
     rw [etab,af.gc] at hg;split at hg
     .rename_i e;exact ⟨_,by rw [e];exact hget⟩
     .exact ⟨o',hg⟩⟩
    rw [etab];intro k ob g h9 h10 h11;rw [af.gc] at h10;split at h10
    .rename_i e;exact hy k (.box ty cells) g h9 (by rw [e];exact hget) h11
    .exact hy k ob g h9 h10 h11
   .rename_i e sz rows hget;obtain ⟨h0,h1,h2,h3,h3',h3'',h4⟩:=hp;have hpv:=(am h p).1;rw [hpe] at hpv;have hx:=am h x;obtain ⟨w',h5,h6,h7,h8⟩:=k5 h hpv hget hx.1 hx.2 h0 h1 h2 h3 h3' h3'' dst
    refine eY (by simp [execOp,Sem.run_bind,h5]) ⟨_,L,h4,h6,bF _ _ _,hS.step (by omega) (fun k hk hGk=>h8 k fun e=>hmay k hk hGk e),?_,fun _ _=>rfl,by rw [enext];exact Vh _,fun k o' _ hg=>by
     rw [etab,af.gc] at hg;split at hg
     .rename_i e';exact ⟨_,by rw [e'];exact hget⟩
     .exact ⟨o',hg⟩⟩
    rw [etab];intro k ob g h9 h10 h11;rw [af.gc] at h10;split at h10
    .rename_i e';exact hy k (.row e sz rows) g h9 (by rw [e'];exact hget) h11
    .exact hy k ob g h9 h10 h11
   .rename_i e sz rows hget;obtain ⟨h0,h1,h2,h3,h3',h4⟩:=hp;have hpv:=(am h p).1;rw [hpe] at hpv;have hx:=am h x;obtain ⟨w',h5,h6,h7,h8⟩:=j4 h hpv hget hx.1 hx.2 h0 h1 h2 h3 h3' dst
    refine eY (by simp [execOp,Sem.run_bind,h5]) ⟨_,L,h4,h6,bF _ _ _,hS.step (by omega) (fun k hk hGk=>h8 k fun e=>hmay k hk hGk e),?_,fun _ _=>rfl,by rw [enext];exact Vh _,fun k o' _ hg=>by
     rw [etab,af.gc] at hg;split at hg
     .rename_i e';exact ⟨_,by rw [e'];exact hget⟩
     .exact ⟨o',hg⟩⟩
    rw [etab];intro k ob g h9 h10 h11;rw [af.gc] at h10;split at h10
    .rename_i e';exact hy k (.nest e sz rows) g h9 (by rw [e'];exact hget) h11
    .exact hy k ob g h9 h10 h11
   .exact hp.elim
  .exact hp.elim
 .rename_i t;split at hp
  .rename_i z hz;obtain ⟨h1,h2⟩:=hp;obtain ⟨h3,h4⟩:=pJ (P:=P) (t:=t) (av:=.c z) h (.tree (.c z)) trivial h1 dst;have hbw:Below w.heap.size w (w.alloc (.cells z.cells t)):=(Below.refl _ _).alloc (Vh _) _;refine aW (by simp [execOp,Sem.run_bind,pY hz,h3]) ⟨_,_,h2,h4,bF _ _ _,hS.step hbw.size (fun k hk _=>hbw.block k (Vn hk hB)),?_,fun id hid=>?_,?_,fun k o' hk hg=>?_⟩
   .rw [etab];intro id ob g h5 h6 h7;rw [af.gc] at h6;unfold br at h7;split at h6
    .rename_i e;rw [Vo e] at h7;simp [aO] at h7;left;omega
    .rename_i e;rw [Vj e] at h7;exact hy id ob g h5 h6 h7
   .unfold br;rw [Vj (by omega)]
   .rw [enext];exact VS _
   .rw [etab,af.gc,Vj (by omega)] at hg;exact ⟨o',hg⟩
  .exact hp.elim
 .rename_i t x;obtain ⟨h1,h2⟩:=hp;have he:=am h x;obtain ⟨h3,h4⟩:=pJ (P:=P) (t:=t) h he.1 he.2 h1 dst;have hbw:Below w.heap.size w (w.alloc (.cells (a.eval x).cells t)):=(Below.refl _ _).alloc (Vh _) _;refine aW (by simp [execOp,Sem.run_bind,h3]) ⟨_,_,h2,h4,bF _ _ _,hS.step hbw.size (fun k hk _=>hbw.block k (Vn hk hB)),?_,fun id hid=>?_,?_,fun k o' hk hg=>?_⟩
  .rw [etab];intro id ob g h5 h6 h7;rw [af.gc] at h6;unfold br at h7;split at h6
   .rename_i e;rw [Vo e] at h7;simp [aO] at h7;left;omega
   .rename_i e;rw [Vj e] at h7;exact hy id ob g h5 h6 h7
  .unfold br;rw [Vj (by omega)]
  .rw [enext];exact VS _
  .rw [etab,af.gc,Vj (by omega)] at hg;exact ⟨o',hg⟩
 .rename_i t n parts;unfold ez at hp;have hy':tH bM B G (iq st (gM (parts.toList.flatMap fun (p:Nat × Operand)=>aq (bm st p.2)))).tab L:=tl _ hy
  replace h:=f5 (gM (parts.toList.flatMap fun (p:Nat × Operand)=>aq (bm st p.2))) h
  clear hy;have hy:=hy';have hnext:(iq st (gM (parts.toList.flatMap fun (p:Nat × Operand)=>aq (bm st p.2)))).next=st.next:=qu _ _;unfold gl at hp;split at hp
  .rename_i e sz by_ ht;split at hp
   .obtain ⟨⟨h1,rfl,h3,h5⟩,h6⟩:=hp;obtain ⟨v',w',L',h7,h8,hb,rfl,hv⟩:=jT h ht h1 h3 h5 dst;refine aW ?_ ⟨_,_,h6,h8,bF _ _ _,hS.step hb.size (fun k hk _=>hb.block k (Vn hk hB)),?_,fun id hid=>?_,?_,fun k o' hk hg=>?_⟩
    .simp only [W9] at h7;simp [execOp,Sem.run_bind];simp at h7;simp [h7]
    .rw [etab];intro id ob g h1 h2 h3;rw [af.gc] at h2;unfold br at h3;split at h2
     .rename_i e;rw [Vo e,hv] at h3;cases h3;exact .inl hB
     .rename_i e;rw [Vj e] at h3;exact hy id ob g h1 h2 h3
    .unfold br;rw [Vj (by omega)]
    .rw [enext];show st.next<=(iq st _).next+1;omega
    .rw [etab] at hg;simp only [af.gc] at hg;rw [Vj (by omega)] at hg;exact tS _ k o' hg
   .obtain ⟨⟨h1,rfl,h3,h5⟩,h6⟩:=hp;obtain ⟨v',w',L',h7,h8,hb,rfl,hv⟩:=pD h ht h1 h3 h5 dst;refine aW ?_ ⟨_,_,h6,h8,bF _ _ _,hS.step hb.size (fun k hk _=>hb.block k (Vn hk hB)),?_,fun id hid=>?_,?_,fun k o' hk hg=>?_⟩
    .simp only [W9] at h7;simp [execOp,Sem.run_bind];simp at h7;simp [h7]
    .rw [etab];intro id ob g h1 h2 h3;rw [af.gc] at h2;unfold br at h3;split at h2
     .rename_i e;rw [Vo e,hv] at h3;cases h3;exact .inl hB
     .rename_i e;rw [Vj e] at h3;exact hy id ob g h1 h2 h3
    .unfold br;rw [Vj (by omega)]
    .rw [enext];show st.next<=(iq st _).next+1;omega
    .rw [etab] at hg;simp only [af.gc] at hg;rw [Vj (by omega)] at hg;exact tS _ k o' hg
  .exact hp.elim
 .rename_i t l c;unfold qP at hp;split at hp
  .rename_i e sz by_ k1 n k2 m ht hl hc;split at hp
   .rename_i z hz;obtain ⟨⟨rfl,h1,h2,h3,h4⟩,h5⟩:=hp;have hl':=(am h l).1;have hc':=(am h c).1;rw [hl] at hl';rw [hc] at hc';obtain ⟨v',w',L',h6,h7,hb,rfl,hv⟩:=wI (k1:=k1) (k2:=k2) h ht hz h1 h2 h3 h4 dst;refine aW (by simp [execOp,Sem.run_bind,hl'.c_inv,hc'.c_inv,h6]) ⟨_,_,h5,h7,bF _ _ _,hS.step hb.size (fun k hk _=>hb.block k (Vn hk hB)),?_,fun id hid=>?_,?_,fun k o' hk hg=>?_⟩
    .rw [etab];intro id ob g h1 h2 h3;rw [af.gc] at h2;unfold br at h3;split at h2
     .rename_i e;rw [Vo e,hv] at h3;cases h3;exact .inl hB
     .rename_i e;rw [Vj e] at h3;exact hy id ob g h1 h2 h3
    .unfold br;rw [Vj (by omega)]
    .rw [enext];exact VS _
    .rw [etab,af.gc,Vj (by omega)] at hg;exact ⟨o',hg⟩
   .exact hp.elim
  .exact hp.elim
 .rename_i c;obtain ⟨callee,args,argTypes⟩:=c;simp only at hp;split at hp
  .split at hp
   .rename_i x y t t' h1 h2;obtain rfl:args = #[x,y]:=by cases args;simp_all
    obtain rfl:argTypes = #[t,t']:=by cases argTypes;simp_all
    obtain ⟨⟨rfl,hfr⟩,hp⟩:=hp;unfold jQ at hp;split at hp
    .rename_i hnn;obtain ⟨e1,e2⟩:=nW hnn;have hx1:=(am h x).1;have hy1:=(am h y).1;rw [e1] at hx1;rw [e2] at hy1;have hx2:=hx1.c_inv;have hy2:=hy1.c_inv;have hr:=jy (ty:=ty) (w:=w) hp.1;exact aW (by simp [execOp,Sem.run_bind,resolve,invoke,builtin,hx2,hy2,hr]) ⟨_,L,hp.2,bp h (.tree (.c _)) trivial dst,bF _ _ _,hS,by rw [etab];exact hy,fun _ _=>rfl,by rw [enext];exact Vh _,fun id o _ hg=>⟨o,by rw [etab] at hg;exact hg⟩⟩
    unfold kk at hp;split at hp
    .rename_i e sz by_ ht;split at hp
     .rename_i oid rows rows2 hx hy2;obtain ⟨⟨h3,h4⟩,h5⟩:=hp;obtain ⟨v',w',L',h6,h7,hg,rfl,hv,hown⟩:=qh (ty:=ty) h (am h x).1 (am h y).1 ht hx hy2 (by simpa [maxLen] using h3) h4 dst
      have hoid:∀ id,oid=some id -> lp bM ids id /\ ∃ o,st.tab.get id=some o:=fun id hid=>by
       subst hid;unfold xl at hx;split at hx
       .rename_i id' hid';rw [hid'] at hfr;split at hx
        .rename_i e' sz' rows' hget;split at hx
         .cases hx;exact ⟨hfr,_,hget⟩
         .cases hx
        .cases hx
       .cases hx
       .cases hx
      have hown2:∀ g,(a.eval x).ownBlock=some g -> B<=g \/ G g:=fun g hg'=>by
       obtain ⟨id,hid,hbl⟩:=hown g hg';obtain ⟨h8,o,h9⟩:=hoid id hid;rcases h8 with h8|h8
       .exact .inr (hG id h8 g hbl)
       .exact hy id o g h8 h9 hbl
      refine aW (by simp [execOp,Sem.run_bind,resolve,invoke,builtin,h6]) ⟨_,_,h5,h7,bF _ _ _,hS.step hg.size (fun k hk hnk=>hg.block k (Vn hk hB) fun e=>by rcases hown2 k e.symm with h9 | h9;omega;exact hnk h9),?_,fun id hid=>by unfold br;rw [Vj (by omega)],by rw [enext];exact VS _,fun k o' hk hg=>by
       rw [etab] at hg;simp only [bL] at hg;rw [Vj (by omega)] at hg;split at hg
       .cases hg
       .exact ⟨o',hg⟩⟩
      rw [etab];intro id ob g h8 h9 h10;rw [bL] at h9;unfold br at h10;split at h9
      .rename_i e1;rw [Vo e1] at h10;rcases hv with hv|hv
       .exact hown2 g (by rw [<- hv];exact h10)
       .rw [hv] at h10;cases h10;exact .inl hB
      .rename_i e1;rw [Vj e1] at h10;split at h9
       .cases h9
       .exact hy id ob g h8 h9 h10
     .split at hp
      .rename_i oid rows rows2 hx hy2;obtain ⟨⟨h3,h4⟩,h5⟩:=hp;obtain ⟨v',w',L',h6,h7,hg,rfl,hv,hown⟩:=nQ (ty:=ty) h (am h x).1 (am h y).1 ht hx hy2 (by simpa [maxLen] using h3) h4 dst
       have hoid:∀ id,oid=some id -> lp bM ids id /\ ∃ o,st.tab.get id=some o:=fun id hid=>by
        subst hid;unfold lO at hx;split at hx
        .rename_i id' hid';rw [hid'] at hfr;split at hx
         .rename_i e' sz' rows' hget;split at hx
          .cases hx;exact ⟨hfr,_,hget⟩
          .cases hx
         .cases hx
        .cases hx
        .cases hx
       have hown2:∀ g,(a.eval x).ownBlock=some g -> B<=g \/ G g:=fun g hg'=>by
        obtain ⟨id,hid,hbl⟩:=hown g hg';obtain ⟨h8,o,h9⟩:=hoid id hid;rcases h8 with h8|h8
        .exact .inr (hG id h8 g hbl)
        .exact hy id o g h8 h9 hbl
       refine aW (by simp [execOp,Sem.run_bind,resolve,invoke,builtin,h6]) ⟨_,_,h5,h7,bF _ _ _,hS.step hg.size (fun k hk hnk=>hg.block k (Vn hk hB) fun e=>by rcases hown2 k e.symm with h9 | h9;omega;exact hnk h9),?_,fun id hid=>by unfold br;rw [Vj (by omega)],by rw [enext];exact VS _,fun k o' hk hg=>by
        rw [etab] at hg;simp only [bL] at hg;rw [Vj (by omega)] at hg;split at hg
        .cases hg
        .exact ⟨o',hg⟩⟩
       rw [etab];intro id ob g h8 h9 h10;rw [bL] at h9;unfold br at h10;split at h9
       .rename_i e1;rw [Vo e1] at h10;rcases hv with hv|hv
        .exact hown2 g (by rw [<- hv];exact h10)
        .rw [hv] at h10;cases h10;exact .inl hB
       .rename_i e1;rw [Vj e1] at h10;split at h9
        .cases h9
        .exact hy id ob g h8 h9 h10
      .exact hp.elim
    .exact hp.elim
   .exact hp.elim
  .rename_i f;obtain ⟨g,xs,cs,hg,hxn,hxr,hp,hcs⟩:=sd (am h f).1 (am h f).2 hp;have hargs:=sa h (args:=args) hxn hxr;by_cases hmeth:yT (some (bM,ids)) P st g (args.toList.map (bm st) ++ cs) (vW dst K)
   .obtain ⟨hent,ids0,hmay,hc⟩:=yn h hargs.1 hargs.2 hmeth dst
    have hrun:(execOp a.eval { dst:=dst,op:=.call { callee:=.value f,args:=args,argTypes:=argTypes },type:=ty,pos:=pos,after:=aft,guard:=gd }).run P w=.ok (.enter g (args.map a.eval ++ xs)) w:=by
     have:=hent (args.map a.eval ++ xs) w;simp [execOp,Sem.run_bind,resolve,hg,Deferred.ofValue,invoke,this]
    unfold Oper.wp;rw [hrun];show Calls P g (args.map a.eval ++ xs) w _;refine hc.mono ?_;rintro e w' ⟨v,av,st',L',rfl,h1,h2,h3,h4,h5,h6,h7⟩
    have hblk:∀ id ∈ ids0,∀ o k,st.tab.get id=some o -> aO (L id)=some k -> B<=k \/ G k:=fun id hid o k h8 h9=>by
     rcases hmay _ rfl id hid with h10|h10
     .exact .inr (hG id h10 k h9)
     .exact hy id o k h10 h8 h9
    refine ⟨_,L',h1,h2,bF _ _ _,hS.step h3.size (fun k hk hGk=>h6 k (Vn hk hB) fun id hid o ho e=>?_),?_,h4,by rw [enext];exact h3.next,fun id o hid ho=>h5 id o hid (by rw [etab] at ho;exact ho)⟩
    .rcases hblk id hid o k ho e with h8 | h8
     .omega
     .exact hGk h8
    .rw [etab];intro id ob g' h8 h9 h10;rcases Vw id st.next with hlt|hge
     .obtain ⟨o',h11⟩:=h5 id ob hlt h9;rw [h4 id hlt] at h10;exact hy id o' g' h8 h11 h10
     .rcases h7 id ob g' hge h9 h10 with h11 | ⟨id',h11,⟨o',h12⟩,h13⟩
      .exact .inl (VC hB h11)
      .exact hblk id' h11 o' g' h12 h13
   replace hp:qe P st g (args.toList.map (bm st) ++ cs) (vW dst K):=by
    rcases hp with hp|hp|hp
    .exact hp
    .cases hp.1
    .exact absurd hp hmeth
   have hent:fL P g:=by
    rcases hp with ⟨R,hd,_⟩|⟨hd,_⟩
    .exact hd.1
    .exact hd
   have hrun:(execOp a.eval { dst:=dst,op:=.call { callee:=.value f,args:=args,argTypes:=argTypes },type:=ty,pos:=pos,after:=aft,guard:=gd }).run P w=.ok (.enter g (args.map a.eval ++ xs)) w:=by
    have:=hent (args.map a.eval ++ xs) w;simp [execOp,Sem.run_bind,resolve,hg,Deferred.ofValue,invoke,this]
   unfold Oper.wp;rw [hrun];show Calls P g (args.map a.eval ++ xs) w _;have hargs:=sa h (args:=args) hxn hxr;refine (oP h hargs.1 hargs.2 hp dst).mono ?_
   .rintro e w' ⟨v,av,st',L',rfl,h1,h2,hb,hold,hnew,hnx'⟩;refine ⟨_,_,h1,h2,bF _ _ _,hS.step hb.size (fun k hk _=>hb.block k (Vn hk hB)),?_,fun id hid=>(hold id hid).2,by rw [enext];exact hnx',fun k o' hk hg=>⟨o',by rw [etab,(hold k hk).1] at hg;exact hg⟩⟩;rw [etab];intro id ob g h8 h9 h10;rcases Vw id st.next with hlt|hge
    .rw [(hold id hlt).1] at h9;rw [(hold id hlt).2] at h10;exact hy id ob g h8 h9 h10
    .exact .inl (VC hB (hnew id ob g hge h9 h10))
  .exact hp.elim
 .exact hp.elim
def mz (Q:Exit -> Act -> World -> Prop):Exit -> Act -> World -> Prop
 | .panic _,_,_=>False
 | e,a,w=>Q e a w
structure jN (bM B:Nat) (ids:List Nat) (G:Nat -> Prop) (T0:af) (L0:Nat -> Value) (st:aj) (L:Nat -> Value):Prop where
 loc:∀ id,id<bM -> L id=L0 id
 le:bM<=st.next
 old:∀ id o,id<bM -> st.tab.get id=some o -> ∃ o',T0.get id=some o'
 far:∀ id o g,id<bM -> id ∉ ids -> T0.get id=some o -> aO (L id)=some g -> g<B /\ ¬ G g
theorem jN.same {bM B:Nat} {ids:List Nat} {G:Nat -> Prop} {T0:af} {L0:Nat -> Value} {st st':aj} {L:Nat -> Value} (h:jN bM B ids G T0 L0 st L) (ht:st'.tab=st.tab) (hn:st'.next=st.next):jN bM B ids G T0 L0 st' L:=
 ⟨h.loc,by rw [hn];exact h.le,by rw [ht];exact h.old,h.far⟩
theorem jN.step {bM B:Nat} {ids:List Nat} {G:Nat -> Prop} {T0:af} {L0:Nat -> Value} {st st':aj} {L L':Nat -> Value} (h:jN bM B ids G T0 L0 st L) (h1:∀ id,id<st.next -> L' id=L id) (h2:st.next<=st'.next) (h3:∀ id o,id<st.next -> st'.tab.get id=some o -> ∃ o',st.tab.get id=some o'):jN bM B ids G T0 L0 st' L':=
 ⟨fun id hi=>(h1 id (Vn hi h.le)).trans (h.loc id hi),VC h.le h2,fun id o hi hg=>(h3 id o (Vn hi h.le) hg).elim fun o' hg'=>h.old id o' hi hg',fun id o g hi hn hT hg=>h.far id o g hi hn hT (by rw [<- h1 id (Vn hi h.le)];exact hg)⟩
theorem ce {ops:Array Oper} {K:aj -> Prop} {T0:af} {bM B:Nat} {ids:List Nat} {G:Nat -> Prop} {wr:World} {Q:Exit -> Act -> World -> Prop} (hsel:Region.noSelect ops=true) {T:Nat -> Prop} {a0:Act} {L0:Nat -> Value} (hT:∀ (i:Nat) (o:Oper),ops[i]? = some o -> ∀ t,T t -> o.dst ≠ some t) (hQ:∀ a w st L,K st -> aH cx a w st L -> lS B G wr w -> tH bM B G st.tab L -> jN bM B ids G T0 L0 st L -> cB T a0 a -> Q .normal a w):∀ (s:nH) (listed:Array Bool) (a:Act) (w:World) (st:aj) (L:Nat -> Value),
  aH cx a w st L -> lS B G wr w -> tH bM B G st.tab L -> (∀ id ∈ ids,∀ g,aO (L id)=some g -> G g) -> (∀ id ∈ ids,id<st.next) -> jN bM B ids G T0 L0 st L -> cB T a0 a -> dU ops s listed=true -> da P ops bM ids K s st -> ∀ fuel,s.len<=fuel -> wpAnyH P .any ops (mz Q) (fun w'=>lS B G wr w') fuel listed a w
 | .done,listed,a,w,st,L,h,hS,hy,_,_,hE,hA,hB,hp,fuel,_=>wpAnyH_done (Q:=mz Q) (by simpa [dU] using hB) (hQ a w st L hp h hS hy hE hA) fuel
 | .take i s,listed,a,w,st,L,h,hS,hy,hG,hnx,hE,hA,hB,hp,fuel,hf=>by
  simp only [dU,VB] at hB;unfold da uf at hp;have etab:∀ (st:aj) d av,(st.put d av).tab=st.tab:=fun st d av=>by cases d<;>rfl
  have enext:∀ (st:aj) d av,(st.put d av).next=st.next:=fun st d av=>by cases d<;>rfl
  split at hp
  .rename_i o ho;obtain ⟨fuel',rfl⟩:∃ f,fuel=f+1:=⟨fuel - 1,by simp [nH.len] at hf;omega⟩;rcases cC h hp o rfl with ⟨hw,st',⟨hl,h0⟩,h2',ht',hn'⟩|⟨hw,st',h0,h2',ht',hn'⟩
   .by_cases hbld:∃ t parts,o.op=.build t parts
    .obtain ⟨t,parts,hop⟩:=hbld;rw [hop] at h0;obtain ⟨v,cs,h3,h4,h5,h6⟩:=lN h2' h0;refine wpAnyH_take (v:=v) ho hsel hB.1.1 hB.1.2 (fun _ _ _ h=>h) (.inl ⟨hw,fun w' _=>by simp [execOp,hop,Sem.run_bind,h5 w']⟩) hS ?_;exact ce hsel hT hQ s _ _ w _ L (bp h2' h3 h4 o.dst) hS (by rw [etab,ht'];exact hy) hG (fun id hid=>by rw [enext,hn'];exact hnx id hid) (hE.same (by rw [etab,ht']) (by rw [enext,hn'])) (hA.put (hT _ _ ho)) hB.2 h6 fuel' (by simp [nH.len] at hf;omega)
    replace h0:cj P st'.tab (bm st') o.op (aK st' o.dst (da P ops bM ids K s)):=by
     unfold dV at h0;split at h0
     .rename_i t parts hop;exact absurd ⟨t,parts,hop⟩ hbld
     .exact h0
    obtain ⟨v,av,h1,h2,h3,_,h5,h6⟩:=kK h2'.lay (fun id o hid=>(h2'.young id o hid).2) (am h2') h0
    have hrd:∀ w',lS B G wr w' -> (execOp a.eval o).run P w'=.ok (.value v) w':=fun w' hw'=>by
     cases hld:jr o.op with
     | false=>exact h5 hld w'
     | true=>
      obtain ⟨t,x,hop⟩:∃ t x,o.op=.load t x:=by
       cases hop:o.op<;>simp [hop,jr] at hld;exact ⟨_,_,rfl⟩
      obtain ⟨b,hb,hr⟩:=h6 t x hop;rw [hop] at hl;have hev:=(am h2' x).1;unfold p8 yo at hl;simp only at hl;split at hl
      .rename_i id i j he;obtain ⟨hl1,hl2,hl3⟩:=hl;split at hl3
       .rename_i o' hg;rw [he] at hev;obtain ⟨g,hg1,hg2⟩:=hev.op_inv _ _ (cU hg);rw [hg2] at hb;simp [aO] at hb;subst hb;obtain ⟨o2,hT⟩:=hE.old id o' hl1 (by rw [<- ht'];exact hg);obtain ⟨h7,h8⟩:=hE.far id o2 g hl1 hl2 hT hg1;exact hr w' fun o' u hu=>(World.cell?_of_block ((hw'.block g h7 h8).trans (hS.block g h7 h8).symm)).trans hu
       .exact hl3.elim
      .exact hl.elim
    refine wpAnyH_take ho hsel hB.1.1 hB.1.2 (fun _ _ _ h=>h) (.inl ⟨hw,hrd⟩) hS ?_;exact ce hsel hT hQ s _ _ w _ L (bp h2' h2 h3 o.dst) hS (by rw [etab,ht'];exact hy) hG (fun id hid=>by rw [enext,hn'];exact hnx id hid) (hE.same (by rw [etab,ht']) (by rw [enext,hn'])) (hA.put (hT _ _ ho)) hB.2 h1 fuel' (by simp [nH.len] at hf;omega)
   .refine wpAnyH_take (v:=undef) ho hsel hB.1.1 hB.1.2 (fun _ _ _ h=>h) (.inr ⟨hw,rfl⟩) hS ?_;exact ce hsel hT hQ s _ _ w _ L (bZ h2' o.dst) hS (by rw [etab,ht'];exact hy) hG (fun id hid=>by rw [enext,hn'];exact hnx id hid) (hE.same (by rw [etab,ht']) (by rw [enext,hn'])) (hA.put (hT _ _ ho)) hB.2 h0 fuel' (by simp [nH.len] at hf;omega)
  .exact hp.elim
 | .exec i s,listed,a,w,st,L,h,hS,hy,hG,hnx,hE,hA,hB,hp,fuel,hf=>by
  simp only [dU,VB,VJ] at hB;unfold da dx at hp;have etab:∀ (st:aj) d av,(st.put d av).tab=st.tab:=fun st d av=>by cases d<;>rfl
  have enext:∀ (st:aj) d av,(st.put d av).next=st.next:=fun st d av=>by cases d<;>rfl
  split at hp
  .rename_i o ho;obtain ⟨fuel',rfl⟩:∃ f,fuel=f+1:=⟨fuel - 1,by simp [nH.len] at hf;omega⟩;refine wpAnyH_all hB.1 (by simp) fun j hj=>?_;obtain rfl:j=i:=by simpa using hj
   unfold wpOp;rw [ho];rcases cC h hp o rfl with ⟨hw,st1,h0,h2',ht',hn'⟩|⟨hw,st1,h0,h2',ht',hn'⟩
   .simp only [hw,if_true];refine .inl (Oper.wp_mono (fun a' w' ⟨⟨st',L',h1,h2,h8,h3,h4,h5,h6,h7⟩,h9⟩=>⟨h3,?_⟩) (fr (hT _ _ ho) (gZ h2' hS (by rw [ht'];exact hy) hG (fun id hid=>by rw [hn'];exact hnx id hid) h0)));rw [hn'] at h5 h6 h7;exact ce hsel hT hQ s _ a' w' st' L' h2 h3 h4 (fun id hid g hg'=>hG id hid g (by rw [<- h5 id (hnx id hid)];exact hg')) (fun id hid=>Vn (hnx id hid) h6) (hE.step h5 h6 (by rw [ht'] at h7;exact h7)) (hA.trans ⟨h8,h9⟩) hB.2 h1 fuel' (by simp [nH.len] at hf;omega)
   .simp only [hw,VM,if_false];refine ⟨hS,ce hsel hT hQ s _ _ w _ L (bZ h2' o.dst) hS (by rw [etab,ht'];exact hy) hG (fun id hid=>by rw [enext,hn'];exact hnx id hid) (hE.same (by rw [etab,ht']) (by rw [enext,hn'])) (hA.put (hT _ _ ho)) hB.2 h0 fuel' (by simp [nH.len] at hf;omega)⟩
  .exact hp.elim
 | .two i s k t,listed,a,w,st,L,h,hS,hy,hG,hnx,hE,hA,hB,hp,fuel,hf=>by
  simp only [dU,VB,VJ] at hB;unfold da at hp;obtain ⟨hp,hp2⟩:=hp;unfold dx at hp hp2;have etab:∀ (st:aj) d av,(st.put d av).tab=st.tab:=fun st d av=>by cases d<;>rfl
  have enext:∀ (st:aj) d av,(st.put d av).next=st.next:=fun st d av=>by cases d<;>rfl
  have hf1:s.len+1<=fuel:=VC (WQ (XK s.len t.len)) hf;have hf2:t.len+1<=fuel:=VC (WQ (WE s.len t.len)) hf;obtain ⟨fuel',rfl⟩:∃ f,fuel=f+1:=⟨fuel - 1,by omega⟩;refine wpAnyH_all hB.1.1 (by simp) fun j hj=>?_;have hj:j=i \/ j=k:=by simpa using hj
  rcases hj with rfl|rfl
  .split at hp
   .rename_i o ho;unfold wpOp;rw [ho];rcases cC h hp o rfl with ⟨hw,st1,h0,h2',ht',hn'⟩|⟨hw,st1,h0,h2',ht',hn'⟩
    .simp only [hw,if_true];refine .inl (Oper.wp_mono (fun a' w' ⟨⟨st',L',h1,h2,h8,h3,h4,h5,h6,h7⟩,h9⟩=>⟨h3,?_⟩) (fr (hT _ _ ho) (gZ h2' hS (by rw [ht'];exact hy) hG (fun id hid=>by rw [hn'];exact hnx id hid) h0)));rw [hn'] at h5 h6 h7;exact ce hsel hT hQ s _ a' w' st' L' h2 h3 h4 (fun id hid g hg'=>hG id hid g (by rw [<- h5 id (hnx id hid)];exact hg')) (fun id hid=>Vn (hnx id hid) h6) (hE.step h5 h6 (by rw [ht'] at h7;exact h7)) (hA.trans ⟨h8,h9⟩) hB.1.2 h1 fuel' (by omega)
    .simp only [hw,VM,if_false];refine ⟨hS,ce hsel hT hQ s _ _ w _ L (bZ h2' o.dst) hS (by rw [etab,ht'];exact hy) hG (fun id hid=>by rw [enext,hn'];exact hnx id hid) (hE.same (by rw [etab,ht']) (by rw [enext,hn'])) (hA.put (hT _ _ ho)) hB.1.2 h0 fuel' (by omega)⟩
   .exact hp.elim
  .split at hp2
   .rename_i o ho;unfold wpOp;rw [ho];rcases cC h hp2 o rfl with ⟨hw,st1,h0,h2',ht',hn'⟩|⟨hw,st1,h0,h2',ht',hn'⟩
    .simp only [hw,if_true];refine .inl (Oper.wp_mono (fun a' w' ⟨⟨st',L',h1,h2,h8,h3,h4,h5,h6,h7⟩,h9⟩=>⟨h3,?_⟩) (fr (hT _ _ ho) (gZ h2' hS (by rw [ht'];exact hy) hG (fun id hid=>by rw [hn'];exact hnx id hid) h0)));rw [hn'] at h5 h6 h7;exact ce hsel hT hQ t _ a' w' st' L' h2 h3 h4 (fun id hid g hg'=>hG id hid g (by rw [<- h5 id (hnx id hid)];exact hg')) (fun id hid=>Vn (hnx id hid) h6) (hE.step h5 h6 (by rw [ht'] at h7;exact h7)) (hA.trans ⟨h8,h9⟩) hB.2 h1 fuel' (by omega)
    .simp only [hw,VM,if_false];refine ⟨hS,ce hsel hT hQ t _ _ w _ L (bZ h2' o.dst) hS (by rw [etab,ht'];exact hy) hG (fun id hid=>by rw [enext,hn'];exact hnx id hid) (hE.same (by rw [etab,ht']) (by rw [enext,hn'])) (hA.put (hT _ _ ho)) hB.2 h0 fuel' (by omega)⟩
   .exact hp2.elim
 | .three i s k t m u,listed,a,w,st,L,h,hS,hy,hG,hnx,hE,hA,hB,hp,fuel,hf=>by
  simp only [dU,VB,VJ] at hB;unfold da at hp;obtain ⟨hp,hp2,hp3⟩:=hp;unfold dx at hp hp2 hp3;have etab:∀ (st:aj) d av,(st.put d av).tab=st.tab:=fun st d av=>by cases d<;>rfl
  have enext:∀ (st:aj) d av,(st.put d av).next=st.next:=fun st d av=>by cases d<;>rfl
  have hf1:s.len+1<=fuel:=VC (WQ (XK s.len _)) hf;have hf2:t.len+1<=fuel:=VC (WQ (VC (XK t.len u.len) (WE s.len _))) hf;have hf3:u.len+1<=fuel:=VC (WQ (VC (WE t.len u.len) (WE s.len _))) hf;obtain ⟨fuel',rfl⟩:∃ f,fuel=f+1:=⟨fuel - 1,by omega⟩;refine wpAnyH_all hB.1.1.1 (by simp) fun j hj=>?_;have hj:j=i \/ j=k \/ j=m:=by simpa using hj
  rcases hj with rfl|rfl|rfl
  .split at hp
   .rename_i o ho;unfold wpOp;rw [ho];rcases cC h hp o rfl with ⟨hw,st1,h0,h2',ht',hn'⟩|⟨hw,st1,h0,h2',ht',hn'⟩
    .simp only [hw,if_true];refine .inl (Oper.wp_mono (fun a' w' ⟨⟨st',L',h1,h2,h8,h3,h4,h5,h6,h7⟩,h9⟩=>⟨h3,?_⟩) (fr (hT _ _ ho) (gZ h2' hS (by rw [ht'];exact hy) hG (fun id hid=>by rw [hn'];exact hnx id hid) h0)));rw [hn'] at h5 h6 h7;exact ce hsel hT hQ s _ a' w' st' L' h2 h3 h4 (fun id hid g hg'=>hG id hid g (by rw [<- h5 id (hnx id hid)];exact hg')) (fun id hid=>Vn (hnx id hid) h6) (hE.step h5 h6 (by rw [ht'] at h7;exact h7)) (hA.trans ⟨h8,h9⟩) hB.1.1.2 h1 fuel' (by omega)
    .simp only [hw,VM,if_false];refine ⟨hS,ce hsel hT hQ s _ _ w _ L (bZ h2' o.dst) hS (by rw [etab,ht'];exact hy) hG (fun id hid=>by rw [enext,hn'];exact hnx id hid) (hE.same (by rw [etab,ht']) (by rw [enext,hn'])) (hA.put (hT _ _ ho)) hB.1.1.2 h0 fuel' (by omega)⟩
   .exact hp.elim
  .split at hp2
   .rename_i o ho;unfold wpOp;rw [ho];rcases cC h hp2 o rfl with ⟨hw,st1,h0,h2',ht',hn'⟩|⟨hw,st1,h0,h2',ht',hn'⟩
    .simp only [hw,if_true];refine .inl (Oper.wp_mono (fun a' w' ⟨⟨st',L',h1,h2,h8,h3,h4,h5,h6,h7⟩,h9⟩=>⟨h3,?_⟩) (fr (hT _ _ ho) (gZ h2' hS (by rw [ht'];exact hy) hG (fun id hid=>by rw [hn'];exact hnx id hid) h0)));rw [hn'] at h5 h6 h7;exact ce hsel hT hQ t _ a' w' st' L' h2 h3 h4 (fun id hid g hg'=>hG id hid g (by rw [<- h5 id (hnx id hid)];exact hg')) (fun id hid=>Vn (hnx id hid) h6) (hE.step h5 h6 (by rw [ht'] at h7;exact h7)) (hA.trans ⟨h8,h9⟩) hB.1.2 h1 fuel' (by omega)
    .simp only [hw,VM,if_false];refine ⟨hS,ce hsel hT hQ t _ _ w _ L (bZ h2' o.dst) hS (by rw [etab,ht'];exact hy) hG (fun id hid=>by rw [enext,hn'];exact hnx id hid) (hE.same (by rw [etab,ht']) (by rw [enext,hn'])) (hA.put (hT _ _ ho)) hB.1.2 h0 fuel' (by omega)⟩
   .exact hp2.elim
  .split at hp3
   .rename_i o ho;unfold wpOp;rw [ho];rcases cC h hp3 o rfl with ⟨hw,st1,h0,h2',ht',hn'⟩|⟨hw,st1,h0,h2',ht',hn'⟩
    .simp only [hw,if_true];refine .inl (Oper.wp_mono (fun a' w' ⟨⟨st',L',h1,h2,h8,h3,h4,h5,h6,h7⟩,h9⟩=>⟨h3,?_⟩) (fr (hT _ _ ho) (gZ h2' hS (by rw [ht'];exact hy) hG (fun id hid=>by rw [hn'];exact hnx id hid) h0)));rw [hn'] at h5 h6 h7;exact ce hsel hT hQ u _ a' w' st' L' h2 h3 h4 (fun id hid g hg'=>hG id hid g (by rw [<- h5 id (hnx id hid)];exact hg')) (fun id hid=>Vn (hnx id hid) h6) (hE.step h5 h6 (by rw [ht'] at h7;exact h7)) (hA.trans ⟨h8,h9⟩) hB.2 h1 fuel' (by omega)
    .simp only [hw,VM,if_false];refine ⟨hS,ce hsel hT hQ u _ _ w _ L (bZ h2' o.dst) hS (by rw [etab,ht'];exact hy) hG (fun id hid=>by rw [enext,hn'];exact hnx id hid) (hE.same (by rw [etab,ht']) (by rw [enext,hn'])) (hA.put (hT _ _ ho)) hB.2 h0 fuel' (by omega)⟩
   .exact hp3.elim
 | .four i s k t m u n v,listed,a,w,st,L,h,hS,hy,hG,hnx,hE,hA,hB,hp,fuel,hf=>by
  simp only [dU,VB,VJ] at hB;unfold da at hp;obtain ⟨hp,hp2,hp3,hp4⟩:=hp;unfold dx at hp hp2 hp3 hp4;have etab:∀ (st:aj) d av,(st.put d av).tab=st.tab:=fun st d av=>by cases d<;>rfl
  have enext:∀ (st:aj) d av,(st.put d av).next=st.next:=fun st d av=>by cases d<;>rfl
  have hf1:s.len+1<=fuel:=VC (WQ (XK s.len _)) hf;have hf2:t.len+1<=fuel:=VC (WQ (VC (XK t.len _) (WE s.len _))) hf;have hf3:u.len+1<=fuel:=VC (WQ (VC (VC (XK u.len v.len) (WE t.len _)) (WE s.len _))) hf;have hf4:v.len+1<=fuel:=VC (WQ (VC (VC (WE u.len v.len) (WE t.len _)) (WE s.len _))) hf;obtain ⟨fuel',rfl⟩:∃ f,fuel=f+1:=⟨fuel - 1,by omega⟩;refine wpAnyH_all hB.1.1.1.1 (by simp) fun j hj=>?_;have hj:j=i \/ j=k \/ j=m \/ j=n:=by simpa using hj
  rcases hj with rfl|rfl|rfl|rfl
  .split at hp
   .rename_i o ho;unfold wpOp;rw [ho];rcases cC h hp o rfl with ⟨hw,st1,h0,h2',ht',hn'⟩|⟨hw,st1,h0,h2',ht',hn'⟩
    .simp only [hw,if_true];refine .inl (Oper.wp_mono (fun a' w' ⟨⟨st',L',h1,h2,h8,h3,h4,h5,h6,h7⟩,h9⟩=>⟨h3,?_⟩) (fr (hT _ _ ho) (gZ h2' hS (by rw [ht'];exact hy) hG (fun id hid=>by rw [hn'];exact hnx id hid) h0)));rw [hn'] at h5 h6 h7;exact ce hsel hT hQ s _ a' w' st' L' h2 h3 h4 (fun id hid g hg'=>hG id hid g (by rw [<- h5 id (hnx id hid)];exact hg')) (fun id hid=>Vn (hnx id hid) h6) (hE.step h5 h6 (by rw [ht'] at h7;exact h7)) (hA.trans ⟨h8,h9⟩) hB.1.1.1.2 h1 fuel' (by omega)
    .simp only [hw,VM,if_false];refine ⟨hS,ce hsel hT hQ s _ _ w _ L (bZ h2' o.dst) hS (by rw [etab,ht'];exact hy) hG (fun id hid=>by rw [enext,hn'];exact hnx id hid) (hE.same (by rw [etab,ht']) (by rw [enext,hn'])) (hA.put (hT _ _ ho)) hB.1.1.1.2 h0 fuel' (by omega)⟩
   .exact hp.elim
  .split at hp2
   .rename_i o ho;unfold wpOp;rw [ho];rcases cC h hp2 o rfl with ⟨hw,st1,h0,h2',ht',hn'⟩|⟨hw,st1,h0,h2',ht',hn'⟩
    .simp only [hw,if_true];refine .inl (Oper.wp_mono (fun a' w' ⟨⟨st',L',h1,h2,h8,h3,h4,h5,h6,h7⟩,h9⟩=>⟨h3,?_⟩) (fr (hT _ _ ho) (gZ h2' hS (by rw [ht'];exact hy) hG (fun id hid=>by rw [hn'];exact hnx id hid) h0)));rw [hn'] at h5 h6 h7;exact ce hsel hT hQ t _ a' w' st' L' h2 h3 h4 (fun id hid g hg'=>hG id hid g (by rw [<- h5 id (hnx id hid)];exact hg')) (fun id hid=>Vn (hnx id hid) h6) (hE.step h5 h6 (by rw [ht'] at h7;exact h7)) (hA.trans ⟨h8,h9⟩) hB.1.1.2 h1 fuel' (by omega)
    .simp only [hw,VM,if_false];refine ⟨hS,ce hsel hT hQ t _ _ w _ L (bZ h2' o.dst) hS (by rw [etab,ht'];exact hy) hG (fun id hid=>by rw [enext,hn'];exact hnx id hid) (hE.same (by rw [etab,ht']) (by rw [enext,hn'])) (hA.put (hT _ _ ho)) hB.1.1.2 h0 fuel' (by omega)⟩
   .exact hp2.elim
  .split at hp3
   .rename_i o ho;unfold wpOp;rw [ho];rcases cC h hp3 o rfl with ⟨hw,st1,h0,h2',ht',hn'⟩|⟨hw,st1,h0,h2',ht',hn'⟩
    .simp only [hw,if_true];refine .inl (Oper.wp_mono (fun a' w' ⟨⟨st',L',h1,h2,h8,h3,h4,h5,h6,h7⟩,h9⟩=>⟨h3,?_⟩) (fr (hT _ _ ho) (gZ h2' hS (by rw [ht'];exact hy) hG (fun id hid=>by rw [hn'];exact hnx id hid) h0)));rw [hn'] at h5 h6 h7;exact ce hsel hT hQ u _ a' w' st' L' h2 h3 h4 (fun id hid g hg'=>hG id hid g (by rw [<- h5 id (hnx id hid)];exact hg')) (fun id hid=>Vn (hnx id hid) h6) (hE.step h5 h6 (by rw [ht'] at h7;exact h7)) (hA.trans ⟨h8,h9⟩) hB.1.2 h1 fuel' (by omega)
    .simp only [hw,VM,if_false];refine ⟨hS,ce hsel hT hQ u _ _ w _ L (bZ h2' o.dst) hS (by rw [etab,ht'];exact hy) hG (fun id hid=>by rw [enext,hn'];exact hnx id hid) (hE.same (by rw [etab,ht']) (by rw [enext,hn'])) (hA.put (hT _ _ ho)) hB.1.2 h0 fuel' (by omega)⟩
   .exact hp3.elim
  .split at hp4
   .rename_i o ho;unfold wpOp;rw [ho];rcases cC h hp4 o rfl with ⟨hw,st1,h0,h2',ht',hn'⟩|⟨hw,st1,h0,h2',ht',hn'⟩
    .simp only [hw,if_true];refine .inl (Oper.wp_mono (fun a' w' ⟨⟨st',L',h1,h2,h8,h3,h4,h5,h6,h7⟩,h9⟩=>⟨h3,?_⟩) (fr (hT _ _ ho) (gZ h2' hS (by rw [ht'];exact hy) hG (fun id hid=>by rw [hn'];exact hnx id hid) h0)));rw [hn'] at h5 h6 h7;exact ce hsel hT hQ v _ a' w' st' L' h2 h3 h4 (fun id hid g hg'=>hG id hid g (by rw [<- h5 id (hnx id hid)];exact hg')) (fun id hid=>Vn (hnx id hid) h6) (hE.step h5 h6 (by rw [ht'] at h7;exact h7)) (hA.trans ⟨h8,h9⟩) hB.2 h1 fuel' (by omega)
    .simp only [hw,VM,if_false];refine ⟨hS,ce hsel hT hQ v _ _ w _ L (bZ h2' o.dst) hS (by rw [etab,ht'];exact hy) hG (fun id hid=>by rw [enext,hn'];exact hnx id hid) (hE.same (by rw [etab,ht']) (by rw [enext,hn'])) (hA.put (hT _ _ ho)) hB.2 h0 fuel' (by omega)⟩
   .exact hp4.elim
theorem mg {ops:Array Oper} {K:aj -> Prop} {T:af} {Tz:Nat -> Prop} {a0:Act} {nx:Nat} {ids:List Nat} {S:World -> Prop} {Q:Exit -> Act -> World -> Prop} (hsel:Region.noSelect ops=true) (hTz:∀ (i:Nat) (o:Oper),ops[i]? = some o -> ∀ t,Tz t -> o.dst ≠ some t) (s:nH) (hS:S w)
  (hSw:∀ w' b,S w' -> (Sx cx w T L b \/ ∃ id o,id ∉ ids /\ T.get id=some o /\ aO (L id)=some b) -> we b w w')
  (hQ:∀ listed a st,cB Tz a0 a -> st.tab=T -> st.next=nx -> dU ops s listed=true -> K st -> aH cx a w st L -> ∀ fuel,s.len<=fuel -> wpAnyH P .any ops (mz Q) S fuel listed a w):∀ (hd:List Nat) (listed:Array Bool) (a:Act) (st:aj),
  cB Tz a0 a -> aH cx a w st L -> st.tab=T -> st.next=nx -> su ops hd s listed=true -> kL P ops ids K hd st -> ∀ fuel,hd.length+s.len<=fuel -> wpAnyH P .any ops (mz Q) S fuel listed a w
 | [],listed,a,st,hA,h,hT,hN,hB,hp,fuel,hf=>hQ listed a st hA hT hN hB hp h fuel (by simpa using hf)
 | i :: hd,listed,a,st,hA,h,hT,hN,hB,hp,fuel,hf=>by
  simp only [su,VB] at hB;unfold kL xg at hp;have etab:∀ (st:aj) d av,(st.put d av).tab=st.tab:=fun st d av=>by cases d<;>rfl
  have enext:∀ (st:aj) d av,(st.put d av).next=st.next:=fun st d av=>by cases d<;>rfl
  split at hp
  .rename_i o ho;obtain ⟨fuel',rfl⟩:∃ f,fuel=f+1:=⟨fuel - 1,by simp at hf;omega⟩;rcases cC h hp o rfl with ⟨hw,st',⟨hl,h0⟩,h2',ht',hn'⟩|⟨hw,st',h0,h2',ht',hn'⟩
   .by_cases hbld:∃ t parts,o.op=.build t parts
    .obtain ⟨t,parts,hop⟩:=hbld;rw [hop] at h0;obtain ⟨v,cs,h3,h4,h5,h6⟩:=lN h2' h0;refine wpAnyH_take (v:=v) ho hsel hB.1.1 hB.1.2 (fun _ _ _ h=>h) (.inl ⟨hw,fun w' _=>by simp [execOp,hop,Sem.run_bind,h5 w']⟩) hS ?_;exact mg hsel hTz s hS hSw hQ hd _ _ _ (hA.put (hTz _ _ ho)) (bp h2' h3 h4 o.dst) (by rw [etab,ht',hT]) (by rw [enext,hn',hN]) hB.2 h6 fuel' (by simp at hf;omega)
    replace h0:cj P st'.tab (bm st') o.op (aK st' o.dst (kL P ops ids K hd)):=by
     unfold dV at h0;split at h0
     .rename_i t parts hop;exact absurd ⟨t,parts,hop⟩ hbld
     .exact h0
    obtain ⟨v,av,h1,h2,h3,_,h5,h6⟩:=kK h2'.lay (fun id o hid=>(h2'.young id o hid).2) (am h2') h0
    have hy:∀ w',S w' -> (execOp a.eval o).run P w'=.ok (.value v) w':=fun w' hw'=>by
     cases hld:jr o.op with
     | false=>exact h5 hld w'
     | true=>
      obtain ⟨t,x,hop⟩:∃ t x,o.op=.load t x:=by
       cases hop:o.op<;>simp [hop,jr] at hld;exact ⟨_,_,rfl⟩
      obtain ⟨b,hb,hr⟩:=h6 t x hop;refine hr w' (hSw w' b hw' ?_);rw [hop] at hl;have hev:=(am h2' x).1;unfold tm AR at hl;simp only at hl;split at hl
      .rename_i id i j he;rw [he] at hev;rw [hop] at h0;simp only [cj,kh,he] at h0
       cases hg:st'.tab.get id with
       | none=>rw [hg] at h0;exact h0.elim
       | some ob=>
        obtain ⟨g,hg1,hg2⟩:=hev.op_inv _ _ (cU hg);rw [hg2] at hb;simp [aO] at hb;subst hb;exact .inr ⟨id,ob,hl,by rw [<- hT,<- ht'];exact hg,hg1⟩
      .rename_i cs he;rw [he] at hev;obtain ⟨b',o',U,hg2,hb',_⟩:=hev.rp_inv;rw [hg2] at hb;simp [aO] at hb;subst hb;refine .inl ?_;rw [<- hT,<- ht'];exact hb'
      .exact hl.elim
    refine wpAnyH_take ho hsel hB.1.1 hB.1.2 (fun _ _ _ h=>h) (.inl ⟨hw,hy⟩) hS ?_;exact mg hsel hTz s hS hSw hQ hd _ _ _ (hA.put (hTz _ _ ho)) (bp h2' h2 h3 o.dst) (by rw [etab,ht',hT]) (by rw [enext,hn',hN]) hB.2 h1 fuel' (by simp at hf;omega)
   .refine wpAnyH_take (v:=undef) ho hsel hB.1.1 hB.1.2 (fun _ _ _ h=>h) (.inr ⟨hw,rfl⟩) hS ?_;exact mg hsel hTz s hS hSw hQ hd _ _ _ (hA.put (hTz _ _ ho)) (bZ h2' o.dst) (by rw [etab,ht',hT]) (by rw [enext,hn',hN]) hB.2 h0 fuel' (by simp at hf;omega)
  .exact hp.elim
theorem oT {p:Nat -> Prop} (h:∃ n,p n):∃ n,p n /\ ∀ m,p m -> n<=m:=by
 obtain ⟨n,hn⟩:=h
 induction n using Nat.strongRecOn with
 | _ n ih=>
  by_cases hx:∃ m,m<n /\ p m
  .obtain ⟨m,hm,hp⟩:=hx;exact ih m hm hp
  .exact ⟨n,hn,fun m hm=>Nat.le_of_not_lt fun hlt=>hx ⟨m,hlt,hm⟩⟩
open Classical in
noncomputable def lE (p:Nat -> Prop):Nat:=if h:∃ n,p n then (oT h).choose else 0
theorem gK {p:Nat -> Prop} (h:∃ n,p n):p (lE p) /\ ∀ m,p m -> lE p<=m:=by
 unfold lE;rw [dif_pos h];exact (oT h).choose_spec
abbrev pB (cx:Cx) (Q:Exit -> aj -> Prop):Exit -> Act -> World -> Prop:=fun e a w=>∃ st L,Q e st /\ aH cx a w st L
theorem pq (hm:P.follows .mixedOrders=true):∀ (c:Code) (Q:Exit -> aj -> Prop) (a:Act) (w:World) (st:aj) (L:Nat -> Value),aH cx a w st L -> bD P c Q st -> c.wp P (pB cx Q) a w:=by
 intro c
 induction c with
 | skip=>exact fun Q a w st L h hp=>wp_skip ⟨st,L,hp,h⟩
 | region id ops draw=>
  intro Q a w st L h hp;unfold bD F2 at hp
  cases draw with
  | false=>exact wp_region_list (xB (fun a w st L h1 h2=>⟨st,L,h1,h2⟩) _ _ _ _ _ h (by simpa using hp))
  | true=>
   simp only [if_true] at hp;obtain ⟨l⟩:=ops;rcases hp with ⟨hB,hp⟩|⟨n,hB,hp⟩|⟨ids,hd,s,hB,K',hK',hids,hp⟩
   .exact wp_region_quiet (C:=fun w'=>Below w.heap.size w w') hm hB ((Below.refl _ _).drew) (mv (L:=L) (T:=fun _=>False) (a0:=a) (tab0:=st.tab) (fun a' st' h1 h2 _ _ w' hw'=>⟨st',L,h1,fX h2 hw'⟩) _ _ _ (fun _ _ _ h=>h.elim) rfl (.refl a) h hp)
   .have h':aH cx a w.drew st L:=fX h ((Below.refl _ _).drew);exact wp_region_still_tail n hm hB (r9 (T:=fun _=>False) (a0:=a) (tab0:=st.tab) (fun a' st' h1 h2 _ _=>xB (fun a w st L h1 h2=>⟨st,L,h1,h2⟩) _ _ _ _ _ h2 h1) _ _ _ (fun _ _ _ h=>h.elim) rfl (.refl a) h' hp)
   .simp only [VB] at hB;have hB:=And.intro hB.1 (WX hB.2);have h':aH cx a w.drew st L:=fX h ((Below.refl _ _).drew)
    let G:Nat -> Prop:=fun k=>∃ id ∈ ids,aO (L id)=some k
    refine Code.wp_mono (Q:=mz (pB cx Q)) (fun e a w hq=>?_) (wp_region_held (S:=fun w'=>lS w.drew.heap.size G w.drew w') hm ?_)
    .cases e<;>first|exact hq|exact hq.elim
    .refine mg (T:=st.tab) (Tz:=fun _=>False) (a0:=a) (nx:=st.next) (ids:=ids) hB.1.1 (fun _ _ _ _ h=>h.elim) s ⟨Vh _,fun _ _ _=>rfl⟩ (fun w' b hw' hb o u hu=>?_) (fun listed a' st' _ hT hN hB' hK h2 fuel hf=>?_) hd _ _ _ (.refl a) h' rfl rfl hB.1.2 hp _ hB.2
     .have hlt:=World.block_lt_of_cell? w.drew _ hu;refine (World.cell?_of_block (hw'.block b hlt fun ⟨id,hid,hbl⟩=>?_)).trans hu;obtain ⟨ob,hob⟩:=V4.1 (hids id hid);rcases hb with hb|⟨id',o',hni,hget,hbl'⟩
      .exact hb.2.2 id ob hob hbl
      .exact hni (h.lay.sep id' id o' ob b hget hob hbl' hbl ▸ hid)
     .refine ce (Q:=pB cx Q) (T0:=st.tab) (T:=fun _=>False) (a0:=a') (L0:=L) hB.1.1 (fun _ _ _ _ h=>h.elim) (fun a w st L h1 h2 _ _ _ _=>(hK' st h1).elim fun st' h3=>(h3.1 cx a w L h2).elim fun L' h4=>⟨st',L',h3.2,h4.1⟩) s listed a' w.drew st' L h2 ⟨Vh _,fun _ _ _=>rfl⟩ (fun id o g h3 h4 _=>by
       rw [hT] at h4;have:=(h.young id o h4).1;omega) (fun id hid g hg=>⟨id,hid,hg⟩) (fun id hid=>by
       obtain ⟨ob,hob⟩:=V4.1 (hids id hid);rw [hN];exact (h.young id ob hob).1) ⟨fun _ _=>rfl,by rw [hN];exact Vh _,fun id o _ hg=>⟨o,by rw [<- hT];exact hg⟩,fun id o g _ hni hg hbl=>?_⟩ (.refl a') hB' hK fuel hf
      refine ⟨((h'.lay.objs id _ hg).ge hbl).2,fun ⟨id',hid',hbl'⟩=>hni ?_⟩;obtain ⟨ob,hob⟩:=V4.1 (hids id' hid');exact h.lay.sep id id' _ ob g hg hob hbl hbl' ▸ hid'
 | seq x y ihx ihy=>
  intro Q a w st L h hp;unfold bD at hp;refine wp_seq (Code.wp_mono (fun e a' w' ⟨st',L',h1,h2⟩=>?_) (ihx _ a w st L h hp))
  cases e with
  | normal=>exact ihy Q a' w' st' L' h2 h1
  | _=>exact ⟨st',L',h1,h2⟩
 | cond c x y ihx ihy=>
  intro Q a w st L h hp;unfold bD ow at hp;split at hp
  .rename_i b hb;have hv:=(am h c).1;rw [hb] at hv;have hv:=hv.c_inv;cases b
   .exact wp_cond_false hv (ihy Q a w st L h hp)
   .exact wp_cond_true hv (ihx Q a w st L h hp)
  .exact hp.elim
 | block id x ih=>
  intro Q a w st L h hp;unfold bD at hp;refine wp_block (Code.wp_mono (fun e a' w' ⟨st',L',h1,h2⟩=>?_) (ih _ a w st L h hp))
  cases e with
  | exit id'=>
   simp only [ii,Exit.inBlock] at h1 ⊢;split
   .rename_i e;rw [Vo e] at h1;exact ⟨st',L',h1,h2⟩
   .rename_i e;rw [Vj e] at h1;exact ⟨st',L',h1,h2⟩
  | _=>exact ⟨st',L',h1,h2⟩
 | loop x ih=>
  intro Q a w st L h hp;unfold bD at hp;obtain ⟨I,μ,⟨st0,hw0,hI⟩,hr⟩:=hp
  let p:Act -> World -> Nat -> Prop:=fun a w n=>∃ st L,I st /\ aH cx a w st L /\ μ st=n
  obtain ⟨L0,hL0,_⟩:=hw0 _ _ _ _ h;refine wp_loop (fun a w=>∃ n,p a w n) (fun a w=>lE (p a w)) ⟨_,st0,L0,hI,hL0,rfl⟩ fun a w hpa=>?_;obtain ⟨⟨st,L,h1,h2,h3⟩,_⟩:=gK hpa;refine Code.wp_mono (fun e a' w' ⟨st',L',h4,h5⟩=>?_) (ih _ a w st L h2 (hr st h1))
  cases e with
  | normal=>
   obtain ⟨st'',hw,hI'',hlt⟩:=h4;obtain ⟨L1,hL1,_⟩:=hw _ _ _ _ h5;have hpn:p a' w' (μ st''):=⟨st'',L1,hI'',hL1,rfl⟩;refine ⟨⟨_,hpn⟩,?_⟩;have:=(gK ⟨_,hpn⟩).2 _ hpn;show lE (p a' w')<lE (p a w);omega
  | _=>exact ⟨st',L',h4,h5⟩
 | exit id=>exact fun Q a w st L h hp=>wp_exit ⟨st,L,hp,h⟩
 | ret=>exact fun Q a w st L h hp=>wp_ret ⟨st,L,hp,h⟩
 | rangeFunc g ps assign body=>exact fun Q a w st L h hp=>hp cx a w L h
 | label l=>exact fun Q a w st L h hp=>wp_label ⟨st,L,hp,h⟩
 | scope x ih=>
  intro Q a w st L h hp;unfold bD at hp;refine wp_scope_straight (Code.wp_mono (fun e a' w' ⟨st',L',h1,h2⟩=>?_) (ih _ a w st L h hp))
  cases e with
  | goto l=>exact h1
  | _=>exact ⟨st',L',h1,h2⟩
 | _=>exact fun Q a w st L h hp=>hp.elim
end
end
end
end Go.Proofs.YtmmoidfcfjklaaaGreat
