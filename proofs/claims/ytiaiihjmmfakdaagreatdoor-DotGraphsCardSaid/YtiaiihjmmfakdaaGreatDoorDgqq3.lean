/-
  Parts of the proof: Dgqp4.
-/
import Derived.Test.YtiaiihjmmfakdaaGreatDoorDgqq2
import Derived.Deep.Quiet
import Derived.StillTail
import Derived.OrdersHeld
import Derived.Scope
set_option linter.unusedVariables false
set_option linter.unusedSimpArgs false
set_option linter.defProp false
set_option maxRecDepth 100000
set_option maxHeartbeats 16000000
namespace Go.Proofs.YtiaiihjmmfakdaaGreatDoor
open Go.RowKit
section
section
def mL (P:Program) (t:TypeId) (st:ak) (p x:AV) (K:ak -> Prop):Prop:=
 match p with
 | .op id i j=>match st.tab.get id with
  | some (.box ty cells)=>i=0 /\ 0<am P t /\ (al x).length=am P t /\ j+am P t<=cells.length /\ dr st.tab (al x) /\ K { st with tab:=(id,some (.box ty (cells.take j ++ al x ++ cells.drop (j+am P t)))) :: st.tab }
  | some (.row e sz rows)=>i<rows.length /\ 0<am P t /\ (al x).length=am P t /\ j+am P t<=sz /\ dr st.tab (al x) /\ bu (al x) /\ K { st with tab:=(id,some (.row e sz (rows.set i ((rows[i]?.getD []).take j ++ al x ++ (rows[i]?.getD []).drop (j+am P t))))) :: st.tab }
  | some (.nest e sz rows)=>i<rows.length /\ 0<am P t /\ (al x).length=am P t /\ j+am P t<=sz /\ dr st.tab (al x) /\ K { st with tab:=(id,some (.nest e sz (rows.set i ((rows[i]?.getD []).take j ++ al x ++ (rows[i]?.getD []).drop (j+am P t))))) :: st.tab }
  | _=>False
 | _=>False
def mr (P:Program) (t:TypeId) (st:ak) (id i j:Nat) (x:AV) (K:ak -> Prop):Prop:=
 match st.tab.get id with
 | some (.box ty cells)=>i=0 /\ 0<am P t /\ (al x).length=am P t /\ j+am P t<=cells.length /\ dr st.tab (al x) /\ K { st with tab:=(id,some (.box ty (cells.take j ++ al x ++ cells.drop (j+am P t)))) :: st.tab }
 | some (.row e sz rows)=>i<rows.length /\ 0<am P t /\ (al x).length=am P t /\ j+am P t<=sz /\ dr st.tab (al x) /\ bu (al x) /\ K { st with tab:=(id,some (.row e sz (rows.set i ((rows[i]?.getD []).take j ++ al x ++ (rows[i]?.getD []).drop (j+am P t))))) :: st.tab }
 | some (.nest e sz rows)=>i<rows.length /\ 0<am P t /\ (al x).length=am P t /\ j+am P t<=sz /\ dr st.tab (al x) /\ K { st with tab:=(id,some (.nest e sz (rows.set i ((rows[i]?.getD []).take j ++ al x ++ (rows[i]?.getD []).drop (j+am P t))))) :: st.tab }
 | _=>False
def rY (t:TypeId) (st:ak) (x:AV) (dst:Option Nat) (K:ak -> Prop):Prop:=
 dr st.tab (al x) /\ K ({ st with tab:=(st.next,some (.box t (al x))) :: st.tab,next:=st.next+1 }.put dst (.op st.next 0 0))
def iB (P:Program) (t:TypeId) (st:ak) (x y:AV) (dst:Option Nat) (K:ak -> Prop):Prop:=
 match cz P t with
 | some (e,sz,by_)=>match mE st.tab e sz x,tW st.tab sz y with
  | some (oid,rows),some rows2=>(rows.length+rows2.length<=9223372036854775807 /\ (rows.length+rows2.length) * by_<=140737488355328) /\ K ({ st with tab:=bq st.tab st.next oid (.row e sz (rows ++ rows2)),next:=st.next+1 }.put dst (.osl st.next))
  | _,_=>match kh st.tab e sz x,nT st.tab sz y with
   | some (oid,rows),some rows2=>(rows.length+rows2.length<=9223372036854775807 /\ (rows.length+rows2.length) * by_<=140737488355328) /\ K ({ st with tab:=bq st.tab st.next oid (.nest e sz (rows ++ rows2)),next:=st.next+1 }.put dst (.osl st.next))
   | _,_=>False
 | none=>False
def xE:AV -> AV -> Bool
 | .c (.slice none 0 0),.c (.slice none 0 0)=>true
 | _,_=>false
theorem k9 {x y:AV} (h:xE x y=true):x=.c (.slice none 0 0) /\ y=.c (.slice none 0 0):=by
 unfold xE at h;split at h
 .exact ⟨rfl,rfl⟩
 .cases h
def gX (P:Program) (t:TypeId) (st:ak) (x y:AV) (dst:Option Nat) (K:ak -> Prop):Prop:=
 match xE x y with
 | true=>(cz P t).isSome=true /\ K (st.put dst (.c (.slice none 0 0)))
 | false=>iB P t st x y dst K
def jn (P:Program) (t t':TypeId) (st:ak) (x y:AV) (dst:Option Nat) (K:ak -> Prop):Prop:=
 match decide (t=t') with
 | true=>gX P t st x y dst K
 | false=>ku P t t' st x y dst K
theorem rZ {P:Program} {t:TypeId} {st:ak} {x y:AV} {dst:Option Nat} {K:ak -> Prop}:jn P t t st x y dst K=gX P t st x y dst K:=by simp [jn]
section
variable {P:Program} {t:TypeId} {st:ak} {y:AV} {dst:Option Nat} {K:ak -> Prop} {id sz:Nat} {rows:List (List AV)}
theorem yM:gX P t st (.osl id) y dst K=iB P t st (.osl id) y dst K:=rfl
end
theorem gR {P:Program} {t ty:TypeId} {w:World} (h:(cz P t).isSome=true):(Builtin.append_ #[t,t] ty #[.slice none 0 0,.slice none 0 0]).run P w=.ok (.slice none 0 0) w:=by
 obtain ⟨⟨e,sz,by_⟩,ht⟩:=LB.1 h;obtain ⟨i,z,hund,hi,hz,hs,hb,hzs,h0⟩:=dM ht;exact f7 0 hund hi (gC w 0 e i.size)
def fr (P:Program) (t:TypeId) (n:Nat) (parts:List (Nat × Operand)) (dst:Option Nat) (K:ak -> Prop) (st:ak):Prop:=
 match cz P t with
 | some (e,sz,_)=>match fM (parts.flatMap fun (p:Nat × Operand)=>al (a6 st p.2)) with
  | []=>(parts.map (·.1)=List.range' 0 parts.length /\ n=parts.length /\ parts.length * sz<=16777216 /\ tR st.tab sz (parts.map fun p=>a6 st p.2)) /\
   K ({ st with tab:=(st.next,some (.row e sz (parts.map fun (p:Nat × Operand)=>al (a6 st p.2)))) :: st.tab,next:=st.next+1 }.put dst (.osl st.next))
  | _ :: _=>(parts.map (·.1)=List.range' 0 parts.length /\ n=parts.length /\ parts.length * sz<=16777216 /\ nB st.tab sz (parts.map fun p=>a6 st p.2)) /\
   K ({ st with tab:=(st.next,some (.nest e sz (parts.map fun (p:Nat × Operand)=>al (a6 st p.2)))) :: st.tab,next:=st.next+1 }.put dst (.osl st.next))
 | none=>False
def db (P:Program) (t:TypeId) (n:Nat) (parts:List (Nat × Operand)) (st:ak) (dst:Option Nat) (K:ak -> Prop):Prop:=
 fr P t n parts dst K (el st (fM (parts.flatMap fun (p:Nat × Operand)=>al (a6 st p.2))))
def nQ (P:Program) (t:TypeId) (st:ak) (l c:AV) (dst:Option Nat) (K:ak -> Prop):Prop:=
 match cz P t,l,c with
 | some (e,sz,by_),.c (.int _ n),.c (.int _ m)=>match bT P e with
  | some z=>(m=n /\ dr [] (al (.c z)) /\ 0<=n /\ n<=16777216 /\ (by_:Int) * n<=281474976710656) /\ K ({ st with tab:=(st.next,some (Jz (xq t) e sz (List.replicate n.toNat (al (.c z))))) :: st.tab,next:=st.next+1 }.put dst (.osl st.next))
  | none=>False
 | _,_,_=>False
def jw (P:Program) (t:TypeId) (st:ak) (parts:List (Nat × Operand)) (dst:Option Nat) (K:ak -> Prop):Prop:=
 match cn P t with
 | some (places,zs)=>match p4 places (zs.map .c) (parts.map fun p=>(p.1,a6 st p.2)) with
  | some cs=>iM st.tab (parts.map fun p=>(p.1,a6 st p.2)) /\ K (st.put dst (.agg cs))
  | none=>False
 | none=>False
def yL (h:Int) (b:Bool):Option AV -> Prop
 | none=>True
 | some (.c (.int _ m))=>m=h /\ b=true
 | _=>False
def md (P:Program) (t:TypeId) (st:ak) (id e sz:Nat) (rows:List (List AV)) (b:Bool) (mx:Option AV) (dst:Option Nat) (K:ak -> Prop):Option Int -> Option Int -> Prop
 | some l,some h=>((bh P t).2=sz /\ 0<sz) /\ (l=0 /\ 0<=h /\ h<=(rows.length:Int) /\ yL h b mx) /\ K ({ st with tab:=bq st.tab st.next (some id) (.row e sz (rows.take h.toNat)),next:=st.next+1 }.put dst (.osl st.next))
 | _,_=>False
def jd (P:Program) (t:TypeId) (st:ak) (x:AV) (lo hi mx:Option AV) (dst:Option Nat) (K:ak -> Prop):Prop:=
 match x with
 | .osl id=>match st.tab.get id with
  | some (.row e sz rows)=>md P t st id e sz rows hi.isSome mx dst K (Aw 0 lo) (Aw rows.length hi)
  | _=>False
 | x=>j7 P t x lo hi mx fun av=>K (st.put dst av)
def D5 (f:AV) (K:FuncId -> List AV -> Prop):Prop:=
 match f with
 | .c (.func (.func g) first caps)=>(first = #[] /\ caps = #[]) /\ K g []
 | .fn g cs=>K g cs
 | _=>False
def Ad (f:AV) (KB K:FuncId -> List AV -> Prop):Prop:=
 match f with
 | .bfn g bs=>KB g bs
 | f=>D5 f K
def aK (st:ak) (dst:Option Nat) (K:ak -> Prop) (av:AV):Prop:=K (st.put dst av)
def rQ (dst:Option Nat) (K:ak -> Prop) (av:AV) (st:ak):Prop:=K (st.put dst av)
def Gi (dst:Option Nat) (K:ak -> Prop) (st:ak):Prop:=K (st.put dst .any)
def j3 (dst:Option Nat) (K:ak -> Prop) (st:ak):Prop:=K (st.put dst (.c undef))
def rM (P:Program) (st:ak) (args:List Operand) (dst:Option Nat) (K:ak -> Prop) (g:FuncId) (cs:List AV):Prop:=fk none P st g (args.map (a6 st) ++ cs) (rQ dst K)
def xz (P:Program) (st:ak) (args:List Operand) (dst:Option Nat) (K:ak -> Prop) (g:FuncId) (bs:List AV):Prop:=fk none P st g (bs ++ args.map (a6 st)) (rQ dst K)
def vP (P:Program) (nx0:Nat) (ids:List Nat) (st:ak) (args:List Operand) (dst:Option Nat) (K:ak -> Prop) (g:FuncId) (cs:List AV):Prop:=fk (some (nx0,ids)) P st g (args.map (a6 st) ++ cs) (rQ dst K)
def wF (P:Program) (st:ak) (args:List Operand) (dst:Option Nat) (K:ak -> Prop) (g:FuncId) (cs:List AV):Prop:=∃ v,aw P g ((args.map (a6 st) ++ cs).map (f6 st.tab)) ⟨.c v,[],0⟩ /\ K (st.put dst (.c v))
def lG (P:Program) (o:Oper) (K:ak -> Prop) (st:ak):Prop:=
 match o.op with
 | .box t x=>rY t st (a6 st x) o.dst K
 | .alloc t=>match bT P t with
  | some z=>rY t st (.c z) o.dst K
  | none=>False
 | .store t p x=>mL P t st (a6 st p) (a6 st x) (Gi o.dst K)
 | .buildSlice t n parts=>db P t n parts.toList st o.dst K
 | .makeSlice t l c=>nQ P t st (a6 st l) (a6 st c) o.dst K
 | .build t parts=>jw P t st parts.toList o.dst K
 | .slice t x lo hi mx=>jd P t st (a6 st x) (lo.map (a6 st)) (hi.map (a6 st)) (mx.map (a6 st)) o.dst K
 | .makeMap _ r=>Cs st r.isNone o.dst K
 | .lookup t m k ok=>kM P t st.tab (a6 st m) (a6 st k) ok (aK st o.dst K)
 | .mapUpdate t m k v=>jk P t st (a6 st m) (a6 st k) (a6 st v) (Gi o.dst K)
 | .call c=>match c.callee with
  | .builtin .append=>match c.args.toList,c.argTypes.toList with
   | [x,y],[t,t']=>jn P t t' st (a6 st x) (a6 st y) o.dst K
   | _,_=>False
  | .builtin .clear=>sM P st c.args.toList c.argTypes.toList o.dst K
  | .builtin .len=>w7 P st.tab (a6 st) c.args.toList c.argTypes.toList (aK st o.dst K) \/ bO P st.tab (a6 st) (.call c) (aK st o.dst K)
  | .value f=>Ad (a6 st f) (xz P st c.args.toList o.dst K) (rM P st c.args.toList o.dst K)
  | _=>bO P st.tab (a6 st) (.call c) (aK st o.dst K)
 | op=>bO P st.tab (a6 st) op (aK st o.dst K)
def yv:Value -> Option Bool
 | .bool b=>some b
 | _=>none
def D4 (b want:Bool) (d:Nat) (yes no:ak -> Prop) (st:ak):Prop:=
 match b,want with
 | true,true=>yes (st.put (some d) (.c (.bool true)))
 | false,false=>yes (st.put (some d) (.c (.bool false)))
 | true,false=>no (st.put (some d) (.c (.bool true)))
 | false,true=>no (st.put (some d) (.c (.bool false)))
section
variable {b want:Bool} {d:Nat} {yes no:ak -> Prop} {st:ak}
theorem HW:D4 true true d yes no st=yes (st.put (some d) (.c (.bool true))):=rfl
theorem Hs:D4 false false d yes no st=yes (st.put (some d) (.c (.bool false))):=rfl
theorem HU:D4 true false d yes no st=no (st.put (some d) (.c (.bool true))):=rfl
theorem GM:D4 false true d yes no st=no (st.put (some d) (.c (.bool false))):=rfl
theorem qr (h1:b=true -> D4 true want d yes no st) (h2:b=false -> D4 false want d yes no st):D4 b want d yes no st:=by
 cases b
 .exact h2 rfl
 .exact h1 rfl
end
def j2 (ops:Array Oper) (g:Option (Nat × Bool)) (yes no:ak -> Prop) (st:ak):Prop:=
 match g with
 | none=>yes st
 | some (j,want)=>match (ops[j]?).bind (·.dst) with
  | some d=>match st.get d with
   | .c v=>match yv v with
    | some b=>D4 b want d yes no st
    | none=>no st
   | _=>False
  | none=>False
def kO (P:Program) (ops:Array Oper) (K:ak -> Prop):List Oper -> ak -> Prop
 | [],st=>K st
 | o :: rest,st=>j2 ops o.guard (lG P o (kO P ops K rest)) (j3 o.dst (kO P ops K rest)) st
def jR (P:Program) (o:Oper) (K:ak -> Prop) (st:ak):Prop:=
 match o.op with
 | .call c=>match c.callee with
  | .value f=>D5 (a6 st f) (wF P st c.args.toList o.dst K)
  | _=>bO P st.tab (a6 st) (.call c) (aK st o.dst K)
 | .build t parts=>jw P t st parts.toList o.dst K
 | op=>bO P st.tab (a6 st) op (aK st o.dst K)
def iG (P:Program) (ops:Array Oper) (K:ak -> Prop):List Oper -> ak -> Prop
 | [],st=>K st
 | o :: rest,st=>j2 ops o.guard (jR P o (iG P ops K rest)) (j3 o.dst (iG P ops K rest)) st
def kT (P:Program) (ops:Array Oper) (K:ak -> Prop):List Oper -> ak -> Prop
 | [],st=>K st
 | o :: rest,st=>j2 ops o.guard (aPop P o (kT P ops K rest)) (j3 o.dst (kT P ops K rest)) st
where aPop (P:Program) (o:Oper) (K:ak -> Prop) (st:ak):Prop:=bO P st.tab (a6 st) o.op (aK st o.dst K)
inductive kZ where
 | done
 | take (i:Nat) (s:kZ)
 | exec (i:Nat) (s:kZ)
 | two (i:Nat) (s:kZ) (j:Nat) (t:kZ)
 | three (i:Nat) (s:kZ) (j:Nat) (t:kZ) (k:Nat) (u:kZ)
 | four (i:Nat) (s:kZ) (j:Nat) (t:kZ) (k:Nat) (u:kZ) (l:Nat) (v:kZ)
def kZ.len:kZ -> Nat
 | .done=>0
 | .take _ s=>s.len+1
 | .exec _ s=>s.len+1
 | .two _ s _ t=>Nat.max s.len t.len+1
 | .three _ s _ t _ u=>Nat.max s.len (Nat.max t.len u.len)+1
 | .four _ s _ t _ u _ v=>Nat.max s.len (Nat.max t.len (Nat.max u.len v.len))+1
def cU (ops:Array Oper):kZ -> Array Bool -> Bool
 | .take i s,listed=>Region.free .any ops listed i && (Region.ready .any ops listed).contains i && cU ops s (listed.setIfInBounds i true)
 | .exec i s,listed=>decide (Region.ready .any ops listed=[i]) && cU ops s (listed.setIfInBounds i true)
 | .two i s j t,listed=>decide (Region.ready .any ops listed=[i,j]) && cU ops s (listed.setIfInBounds i true) && cU ops t (listed.setIfInBounds j true)
 | .three i s j t k u,listed=>decide (Region.ready .any ops listed=[i,j,k]) && cU ops s (listed.setIfInBounds i true) && cU ops t (listed.setIfInBounds j true) && cU ops u (listed.setIfInBounds k true)
 | .four i s j t k u l v,listed=>decide (Region.ready .any ops listed=[i,j,k,l]) && cU ops s (listed.setIfInBounds i true) && cU ops t (listed.setIfInBounds j true) && cU ops u (listed.setIfInBounds k true) && cU ops v (listed.setIfInBounds l true)
 | .done,listed=>(Region.ready .any ops listed).isEmpty
def pM (ops:Array Oper):List Nat -> kZ -> Array Bool -> Bool
 | i :: h,s,listed=>Region.free .any ops listed i && (Region.ready .any ops listed).contains i && pM ops h s (listed.setIfInBounds i true)
 | [],s,listed=>cU ops s listed
def sS (nx0:Nat) (ids:List Nat):AV -> Prop
 | .osl id=>iP nx0 ids id
 | _=>True
def fS (P:Program) (nx0:Nat) (ids:List Nat) (o:Oper) (K:ak -> Prop) (st:ak):Prop:=
 match o.op with
 | .assign x=>K (st.put o.dst (a6 st x))
 | .load _ _=>bO P st.tab (a6 st) o.op (aK st o.dst K)
 | .lookup t m k ok=>kM P t st.tab (a6 st m) (a6 st k) ok (aK st o.dst K)
 | .mapUpdate t m k v=>match a6 st m with
  | .osl id=>iP nx0 ids id /\ jk P t st (.osl id) (a6 st k) (a6 st v) (Gi o.dst K)
  | _=>False
 | .store t p x=>match a6 st p with
  | .op id i j=>iP nx0 ids id /\ mr P t st id i j (a6 st x) (Gi o.dst K)
  | _=>False
 | .alloc t=>match bT P t with
  | some z=>rY t st (.c z) o.dst K
  | none=>False
 | .box t x=>rY t st (a6 st x) o.dst K
 | .buildSlice t n parts=>db P t n parts.toList st o.dst K
 | .makeSlice t l c=>nQ P t st (a6 st l) (a6 st c) o.dst K
 | .call c=>match c.callee with
  | .builtin .append=>match c.args.toList,c.argTypes.toList with
   | [x,y],[t,t']=>(t=t' /\ sS nx0 ids (a6 st x)) /\ gX P t st (a6 st x) (a6 st y) o.dst K
   | _,_=>False
  | .value f=>D5 (a6 st f) (vP P nx0 ids st c.args.toList o.dst K)
  | _=>False
 | _=>False
def uu (ids:List Nat):AV -> Prop
 | .op id _ _=>id ∉ ids
 | .rp _=>True
 | _=>False
def oB (ids:List Nat) (st:ak):Op -> Prop
 | .load _ x=>uu ids (a6 st x)
 | _=>True
def cV (P:Program) (dst:Option Nat) (op:Op) (K:ak -> Prop) (st:ak):Prop:=
 match op with
 | .build t parts=>jw P t st parts.toList dst K
 | op=>bO P st.tab (a6 st) op (aK st dst K)
def GW (P:Program) (ids:List Nat) (o:Oper) (K:ak -> Prop) (st:ak):Prop:=oB ids st o.op /\ cV P o.dst o.op K st
def sd (nx0:Nat) (ids:List Nat) (tab:aa):AV -> Prop
 | .op id _ _=>id<nx0 /\ id ∉ ids /\ match tab.get id with
  | some _=>True
  | none=>False
 | _=>False
def m7 (nx0:Nat) (ids:List Nat) (st:ak):Op -> Prop
 | .load _ x=>sd nx0 ids st.tab (a6 st x)
 | _=>True
def wv (P:Program) (nx0:Nat) (ids:List Nat) (o:Oper) (K:ak -> Prop) (st:ak):Prop:=m7 nx0 ids st o.op /\ cV P o.dst o.op K st
def po (P:Program) (ops:Array Oper) (nx0:Nat) (ids:List Nat) (o:Option Oper) (K:ak -> Prop) (st:ak):Prop:=
 match o with
 | some o=>j2 ops o.guard (wv P nx0 ids o K) (j3 o.dst K) st
 | none=>False
def rX (P:Program) (ops:Array Oper) (ids:List Nat) (o:Option Oper) (K:ak -> Prop) (st:ak):Prop:=
 match o with
 | some o=>j2 ops o.guard (GW P ids o K) (j3 o.dst K) st
 | none=>False
def cB (P:Program) (ops:Array Oper) (nx0:Nat) (ids:List Nat) (o:Option Oper) (K:ak -> Prop) (st:ak):Prop:=
 match o with
 | some o=>j2 ops o.guard (fS P nx0 ids o K) (j3 o.dst K) st
 | none=>False
def cq (P:Program) (ops:Array Oper) (nx0:Nat) (ids:List Nat) (K:ak -> Prop):kZ -> ak -> Prop
 | .done,st=>K st
 | .take i s,st=>po P ops nx0 ids ops[i]? (cq P ops nx0 ids K s) st
 | .exec i s,st=>cB P ops nx0 ids ops[i]? (cq P ops nx0 ids K s) st
 | .two i s j t,st=>cB P ops nx0 ids ops[i]? (cq P ops nx0 ids K s) st /\ cB P ops nx0 ids ops[j]? (cq P ops nx0 ids K t) st
 | .three i s j t k u,st=>cB P ops nx0 ids ops[i]? (cq P ops nx0 ids K s) st /\ cB P ops nx0 ids ops[j]? (cq P ops nx0 ids K t) st /\ cB P ops nx0 ids ops[k]? (cq P ops nx0 ids K u) st
 | .four i s j t k u l v,st=>cB P ops nx0 ids ops[i]? (cq P ops nx0 ids K s) st /\ cB P ops nx0 ids ops[j]? (cq P ops nx0 ids K t) st /\ cB P ops nx0 ids ops[k]? (cq P ops nx0 ids K u) st /\ cB P ops nx0 ids ops[l]? (cq P ops nx0 ids K v) st
def jb (P:Program) (ops:Array Oper) (ids:List Nat) (K:ak -> Prop):List Nat -> ak -> Prop
 | [],st=>K st
 | i :: s,st=>rX P ops ids ops[i]? (jb P ops ids K s) st
def dq (st st':ak):Prop:=∀ cx a w L,aI cx a w st L -> ∃ L',aI cx a w st' L' /\ ∀ b,Sx cx w st.tab L b -> Sx cx w st'.tab L' b
theorem dq.reflH (st:ak):dq st st:=fun _ _ _ L h=>⟨L,h,fun _ hb=>hb⟩
inductive um (P:Program) (ops:Array Oper) (K:ak -> Prop) (st:ak):Prop
 | quiet (hB:Region.lexB .any ops=true) (h:iG P ops K ops.toList st)
 | tail (n:Nat) (hB:Region.lexTailB .any ops n=true) (h:kT P ops (kO P ops K (ops.toList.drop n)) (ops.toList.take n) st)
 | held (ids:List Nat) (hd:List Nat) (s:kZ) (hB:(Region.noSelect ops && pM ops hd s (Array.replicate ops.size false) && Nat.ble (hd.length+s.len) ops.size)=true) (K':ak -> Prop) (hK:∀ st,K' st -> ∃ st',dq st st' /\ K st') (h:(∀ id ∈ ids,(st.tab.get id).isSome=true) /\ jb P ops ids (cq P ops st.next ids K' s) hd st)
theorem aD {P:Program} {l:List Oper} {K:ak -> Prop} {st:ak} (hB:Region.lexB .any l.toArray=true) (h:iG P l.toArray K l st):um P l.toArray K st:=.quiet hB h
theorem vz {P:Program} {l:List Oper} {K:ak -> Prop} {st:ak} (n:Nat) (hB:Region.lexTailB .any l.toArray n=true) (h:kT P l.toArray (kO P l.toArray K (l.drop n)) (l.take n) st):um P l.toArray K st:=.tail n hB h
theorem aB {P:Program} {l:List Oper} {K:ak -> Prop} {st:ak} (ids:List Nat) (hd:List Nat) (s:kZ) (hB:(Region.noSelect l.toArray && pM l.toArray hd s (Array.replicate l.toArray.size false) && Nat.ble (hd.length+s.len) l.toArray.size)=true) (hids:∀ id ∈ ids,(st.tab.get id).isSome=true) (h:jb P l.toArray ids (cq P l.toArray st.next ids K s) hd st):um P l.toArray K st:=.held ids hd s hB K (fun st h1=>⟨st,.reflH st,h1⟩) ⟨hids,h⟩
def KI (I:ak -> Prop) (st:ak):Prop:=∃ st',dq st st' /\ I st'
def mJ (next:ak -> Prop) (Q:Exit -> ak -> Prop):Exit -> ak -> Prop
 | .normal,st=>next st
 | e,st=>Q e st
def gF (id:Nat) (Q:Exit -> ak -> Prop):Exit -> ak -> Prop
 | .exit id',st=>if id'=id then Q .normal st else Q (.exit id') st
 | e,st=>Q e st
def HQ (t:Bool) (x y:ak -> Prop) (st:ak):Prop:=match t with | true=>x st | false=>y st
theorem A6 {x y:ak -> Prop} {st:ak}:HQ true x y st=x st:=rfl
theorem yZ {x y:ak -> Prop} {st:ak}:HQ false x y st=y st:=rfl
theorem iW {t:Bool} {x y:ak -> Prop} {st:ak} (h1:t=true -> HQ true x y st) (h2:t=false -> HQ false x y st):HQ t x y st:=by
 cases t
 .exact h2 rfl
 .exact h1 rfl
def uB (c:AV) (x y:ak -> Prop) (st:ak):Prop:=
 match c with
 | .c (.bool b)=>HQ b x y st
 | _=>False
def sr (I:ak -> Prop) (μ:ak -> Nat) (n:Nat) (st:ak):Prop:=∃ st',dq st st' /\ I st' /\ μ st'<n
def DN (P:Program) (ops:Array Oper) (draw:Bool) (K:ak -> Prop) (st:ak):Prop:=if draw=true then um P ops K st else kO P ops K ops.toList st
def E0 (Q:Exit -> ak -> Prop):Exit -> ak -> Prop
 | .goto _,_=>False
 | e,st=>Q e st
def bC (P:Program):Code -> (Exit -> ak -> Prop) -> ak -> Prop
 | .skip,Q,st=>Q .normal st
 | .region _ ops draw,Q,st=>DN P ops draw (Q .normal) st
 | .seq x y,Q,st=>bC P x (mJ (bC P y Q) Q) st
 | .cond c x y,Q,st=>uB (a6 st c) (bC P x Q) (bC P y Q) st
 | .block id x,Q,st=>bC P x (gF id Q) st
 | .loop x,Q,st=>∃ (I:ak -> Prop) (μ:ak -> Nat),(∃ st',dq st st' /\ I st') /\ ∀ st,I st -> bC P x (mJ (sr I μ (μ st)) Q) st
 | .exit id,Q,st=>Q (.exit id) st
 | .ret,Q,st=>Q .ret st
 | .rangeFunc g ps assign body,Q,st=>∀ (cx:Cx) (a:Act) (w:World) (L:Nat -> Value),aI cx a w st L -> (Code.rangeFunc g ps assign body).wp P (fun e a w=>∃ st L,Q e st /\ aI cx a w st L) a w
 | .label _,Q,st=>Q .normal st
 | .scope x,Q,st=>bC P x (E0 Q) st
 | _,_,_=>False
def Bj (P:Program) (x:Code) (Q:Exit -> ak -> Prop) (st:ak):Prop:=bC P (.loop x) Q st
theorem af {P:Program} {x:Code} {Q:Exit -> ak -> Prop} {st:ak} (I:ak -> Prop) (μ:ak -> Nat) (h0:∃ st',dq st st' /\ I st') (h:∀ st,I st -> bC P x (mJ (sr I μ (μ st)) Q) st):Bj P x Q st:=⟨I,μ,h0,h⟩
section
variable {P:Program} {Q:Exit -> ak -> Prop} {st:ak}
theorem xp:bC P .skip Q st=Q .normal st:=rfl
theorem wz {id:Nat} {l:List Oper}:bC P (.region id l.toArray false) Q st=kO P l.toArray (Q .normal) l st:=by simp [bC,DN]
theorem w9 {id:Nat} {l:List Oper}:bC P (.region id l.toArray true) Q st=um P l.toArray (Q .normal) st:=by simp [bC,DN]
theorem zO {x y:Code}:bC P (.seq x y) Q st=bC P x (mJ (bC P y Q) Q) st:=rfl
theorem wi {c:Operand} {x y:Code}:bC P (.cond c x y) Q st=uB (a6 st c) (bC P x Q) (bC P y Q) st:=rfl
theorem uk {id:Nat} {x:Code}:bC P (.block id x) Q st=bC P x (gF id Q) st:=rfl
theorem wU {x:Code}:bC P (.loop x) Q st=Bj P x Q st:=rfl
theorem wM {id:Nat}:bC P (.exit id) Q st=Q (.exit id) st:=rfl
theorem za:bC P .ret Q st=Q .ret st:=rfl
theorem sn {next:ak -> Prop}:mJ next Q .normal st=next st:=rfl
theorem wO {next:ak -> Prop} {id:Nat}:mJ next Q (.exit id) st=Q (.exit id) st:=rfl
theorem yP {next:ak -> Prop}:mJ next Q .ret st=Q .ret st:=rfl
theorem oa {id:Nat}:gF id Q .normal st=Q .normal st:=rfl
theorem sZ {id:Nat}:gF id Q .ret st=Q .ret st:=rfl
theorem qq {id id':Nat}:gF id Q (.exit id') st=if id'=id then Q .normal st else Q (.exit id') st:=rfl
theorem xe {b:Bool} {x y:ak -> Prop}:uB (.c (.bool b)) x y st=HQ b x y st:=rfl
theorem A0 {dst:Option Nat} {K:ak -> Prop}:j3 dst K st=K (st.put dst (.c undef)):=rfl
theorem HF {dst:Option Nat} {K:ak -> Prop}:Gi dst K st=K (st.put dst .any):=rfl
theorem J3 {dst:Option Nat} {K:ak -> Prop} {av:AV}:aK st dst K av=K (st.put dst av):=rfl
theorem Iw {dst:Option Nat} {K:ak -> Prop} {av:AV}:rQ dst K av st=K (st.put dst av):=rfl
theorem Gx {g:FuncId} {K:FuncId -> List AV -> Prop}:D5 (.c (.func (.func g) #[] #[])) K=K g []:=by simp [D5]
theorem FP {g:FuncId} {KB K:FuncId -> List AV -> Prop}:Ad (.c (.func (.func g) #[] #[])) KB K=K g []:=by simp [Ad,D5]
theorem zt {args:List Operand} {dst:Option Nat} {K:ak -> Prop} {g:FuncId} {cs:List AV}:rM P st args dst K g cs=fk none P st g (args.map (a6 st) ++ cs) (rQ dst K):=rfl
theorem Aj {nx0:Nat} {ids:List Nat} {args:List Operand} {dst:Option Nat} {K:ak -> Prop} {g:FuncId} {cs:List AV}:vP P nx0 ids st args dst K g cs=fk (some (nx0,ids)) P st g (args.map (a6 st) ++ cs) (rQ dst K):=rfl
theorem yY {args:List Operand} {dst:Option Nat} {K:ak -> Prop} {g:FuncId} {cs:List AV}:wF P st args dst K g cs = ∃ v,aw P g ((args.map (a6 st) ++ cs).map (f6 st.tab)) ⟨.c v,[],0⟩ /\ K (st.put dst (.c v)):=rfl
section
variable {ops:Array Oper} {K:ak -> Prop} {dst:Option Tmp} {op:Op} {ty:TypeId} {pos:String} {aft:Array Edge} {gd:Option (Nat × Bool)} {rest:List Oper} {j:Nat} {want:Bool}
theorem Dw:kO P ops K [] st=K st:=rfl
theorem xj:kO P ops K (⟨dst,op,ty,pos,aft,none⟩ :: rest) st=lG P ⟨dst,op,ty,pos,aft,none⟩ (kO P ops K rest) st:=rfl
def ov (v:AV) (want:Bool) (d:Nat) (yes no:ak -> Prop) (st:ak):Prop:=
 match v with
 | .c v=>match yv v with
  | some b=>D4 b want d yes no st
  | none=>no st
 | _=>False
def lJ (d:Option Nat) (want:Bool) (yes no:ak -> Prop) (st:ak):Prop:=match d with | some d=>ov (st.get d) want d yes no st | none=>False
theorem w5 {d:Nat} {yes no:ak -> Prop}:lJ (some d) want yes no st=ov (st.get d) want d yes no st:=rfl
theorem sT {b:Bool} {d:Nat} {yes no:ak -> Prop}:ov (.c (.bool b)) want d yes no st=D4 b want d yes no st:=rfl
theorem qk {d:Nat} {yes no:ak -> Prop}:ov (.c undef) want d yes no st=no st:=rfl
theorem vB:kO P ops K (⟨dst,op,ty,pos,aft,some (j,want)⟩ :: rest) st=lJ ((ops[j]?).bind (·.dst)) want (lG P ⟨dst,op,ty,pos,aft,some (j,want)⟩ (kO P ops K rest)) (j3 dst (kO P ops K rest)) st:=rfl
theorem yq:kT P ops K [] st=K st:=rfl
theorem tS:kT P ops K (⟨dst,op,ty,pos,aft,none⟩ :: rest) st=bO P st.tab (a6 st) op (aK st dst (kT P ops K rest)):=rfl
theorem xr {ids:List Nat}:jb P ops ids K [] st=K st:=rfl
theorem tb {ids:List Nat} {i:Nat} {s:List Nat}:jb P ops ids K (i :: s) st=rX P ops ids ops[i]? (jb P ops ids K s) st:=rfl
theorem y6 {nx0:Nat} {ids:List Nat}:cq P ops nx0 ids K .done st=K st:=rfl
theorem wZ {nx0 i:Nat} {ids:List Nat} {s:kZ}:cq P ops nx0 ids K (.take i s) st=po P ops nx0 ids ops[i]? (cq P ops nx0 ids K s) st:=rfl
theorem vJ {nx0 i:Nat} {ids:List Nat} {s:kZ}:cq P ops nx0 ids K (.exec i s) st=cB P ops nx0 ids ops[i]? (cq P ops nx0 ids K s) st:=rfl
theorem yU {nx0 i j:Nat} {ids:List Nat} {s t:kZ}:cq P ops nx0 ids K (.two i s j t) st=(cB P ops nx0 ids ops[i]? (cq P ops nx0 ids K s) st /\ cB P ops nx0 ids ops[j]? (cq P ops nx0 ids K t) st):=rfl
theorem u0 {nx0 i j k:Nat} {ids:List Nat} {s t u:kZ}:cq P ops nx0 ids K (.three i s j t k u) st=(cB P ops nx0 ids ops[i]? (cq P ops nx0 ids K s) st /\ cB P ops nx0 ids ops[j]? (cq P ops nx0 ids K t) st /\ cB P ops nx0 ids ops[k]? (cq P ops nx0 ids K u) st):=rfl
theorem sa {ids:List Nat}:rX P ops ids (some ⟨dst,op,ty,pos,aft,none⟩) K st=(oB ids st op /\ cV P dst op K st):=rfl
theorem sy {nx0:Nat} {ids:List Nat}:po P ops nx0 ids (some ⟨dst,op,ty,pos,aft,none⟩) K st=(m7 nx0 ids st op /\ cV P dst op K st):=rfl
theorem rV {nx0:Nat} {ids:List Nat}:po P ops nx0 ids (some ⟨dst,op,ty,pos,aft,some (j,want)⟩) K st=lJ ((ops[j]?).bind (·.dst)) want (wv P nx0 ids ⟨dst,op,ty,pos,aft,some (j,want)⟩ K) (j3 dst K) st:=rfl
theorem so {t:TypeId} {parts:List (Nat × Operand)}:cV P dst (.build t parts.toArray) K st=jw P t st parts dst K:=by simp [cV]
theorem tr {x:Operand}:cV P dst (.move x) K st=bO P st.tab (a6 st) (.move x) (aK st dst K):=rfl
theorem tx {c x y:Operand}:cV P dst (.pick c x y) K st=bO P st.tab (a6 st) (.pick c x y) (aK st dst K):=rfl
theorem u1 {t:TypeId} {x:Operand}:cV P dst (.load t x) K st=bO P st.tab (a6 st) (.load t x) (aK st dst K):=rfl
theorem r3 {s:TypeId} {x:Operand} {f:Nat}:cV P dst (.fieldAddr s x f) K st=bO P st.tab (a6 st) (.fieldAddr s x f) (aK st dst K):=rfl
theorem rR {t:TypeId} {x y:Operand}:cV P dst (.indexAddr t x y) K st=bO P st.tab (a6 st) (.indexAddr t x y) (aK st dst K):=rfl
theorem w8 {o:BinOp} {t r:TypeId} {x y:Operand}:cV P dst (.binOp o t x y r) K st=bO P st.tab (a6 st) (.binOp o t x y r) (aK st dst K):=rfl
theorem qc {x:Operand}:cV P dst (.nilCheck x) K st=bO P st.tab (a6 st) (.nilCheck x) (aK st dst K):=rfl
theorem zn {o:UnOp} {t:TypeId} {x:Operand}:cV P dst (.unOp o t x) K st=bO P st.tab (a6 st) (.unOp o t x) (aK st dst K):=rfl
theorem p5 {x:Operand} {i:Nat}:cV P dst (.extract x i) K st=bO P st.tab (a6 st) (.extract x i) (aK st dst K):=rfl
theorem t7 {c:Call}:cV P dst (.call c) K st=bO P st.tab (a6 st) (.call c) (aK st dst K):=rfl
theorem zx {nx0:Nat} {ids:List Nat}:wv P nx0 ids ⟨dst,op,ty,pos,aft,gd⟩ K st=(m7 nx0 ids st op /\ cV P dst op K st):=rfl
theorem y4 {nx0:Nat} {ids:List Nat}:cB P ops nx0 ids (some ⟨dst,op,ty,pos,aft,none⟩) K st=fS P nx0 ids ⟨dst,op,ty,pos,aft,none⟩ K st:=rfl
def BT (P:Program) (nx0:Nat) (ids:List Nat) (o:Oper) (K:ak -> Prop) (st:ak):Prop:=fS P nx0 ids o K st
theorem yS {nx0:Nat} {ids:List Nat} {o:Oper}:BT P nx0 ids o K st=fS P nx0 ids o K st:=rfl
theorem r2 {nx0:Nat} {ids:List Nat}:cB P ops nx0 ids (some ⟨dst,op,ty,pos,aft,some (j,want)⟩) K st=lJ ((ops[j]?).bind (·.dst)) want (BT P nx0 ids ⟨dst,op,ty,pos,aft,some (j,want)⟩ K) (j3 dst K) st:=rfl
theorem su {nx0:Nat} {ids:List Nat} {x:Operand}:fS P nx0 ids ⟨dst,.assign x,ty,pos,aft,gd⟩ K st=K (st.put dst (a6 st x)):=rfl
def vw (P:Program) (nx0:Nat) (ids:List Nat) (t:TypeId) (p x:AV) (dst:Option Nat) (K:ak -> Prop) (st:ak):Prop:=
 match p with
 | .op id i j=>iP nx0 ids id /\ mr P t st id i j x (Gi dst K)
 | _=>False
theorem vG {nx0:Nat} {ids:List Nat} {t:TypeId} {x:Operand}:fS P nx0 ids ⟨dst,.load t x,ty,pos,aft,gd⟩ K st=iy P t st.tab (a6 st x) (aK st dst K):=rfl
def DC (P:Program) (nx0:Nat) (ids:List Nat) (t:TypeId) (m k v:AV) (dst:Option Nat) (K:ak -> Prop) (st:ak):Prop:=
 match m with
 | .osl id=>iP nx0 ids id /\ jk P t st (.osl id) k v (Gi dst K)
 | _=>False
theorem uH {nx0:Nat} {ids:List Nat} {t:TypeId} {p x:Operand}:fS P nx0 ids ⟨dst,.store t p x,ty,pos,aft,gd⟩ K st=vw P nx0 ids t (a6 st p) (a6 st x) dst K st:=rfl
theorem zX {nx0:Nat} {ids:List Nat} {t:TypeId} {x:Operand}:fS P nx0 ids ⟨dst,.box t x,ty,pos,aft,gd⟩ K st=rY t st (a6 st x) dst K:=rfl
theorem vf {nx0:Nat} {ids:List Nat} {t:TypeId}:fS P nx0 ids ⟨dst,.alloc t,ty,pos,aft,gd⟩ K st=match bT P t with | some z=>rY t st (.c z) dst K | none=>False:=rfl
theorem sR {nx0:Nat} {ids:List Nat} {x y:Operand} {t t':TypeId}:fS P nx0 ids ⟨dst,.call ⟨.builtin .append,#[x,y],#[t,t']⟩,ty,pos,aft,gd⟩ K st=((t=t' /\ sS nx0 ids (a6 st x)) /\ gX P t st (a6 st x) (a6 st y) dst K):=rfl
theorem wj {nx0:Nat} {ids:List Nat} {f:Operand} {args:List Operand} {ts:Array TypeId}:fS P nx0 ids ⟨dst,.call ⟨.value f,args.toArray,ts⟩,ty,pos,aft,gd⟩ K st=D5 (a6 st f) (vP P nx0 ids st args dst K):=by simp [fS]
theorem nZ {nx0:Nat} {ids:List Nat} {t:TypeId} {l c:Operand}:fS P nx0 ids ⟨dst,.makeSlice t l c,ty,pos,aft,gd⟩ K st=nQ P t st (a6 st l) (a6 st c) dst K:=rfl
theorem mQ {nx0:Nat} {ids:List Nat} {t:TypeId} {n:Nat} {parts:List (Nat × Operand)}:fS P nx0 ids ⟨dst,.buildSlice t n parts.toArray,ty,pos,aft,gd⟩ K st=db P t n parts st dst K:=by simp [fS]
theorem vC {k:AV -> Prop} {tab:aa} {ev:Operand -> AV} {x:Operand}:bO P tab ev (.move x) k=k (ev x):=rfl
theorem xt {k:AV -> Prop} {tab:aa} {ev:Operand -> AV} {t:TypeId} {x:Operand}:bO P tab ev (.load t x) k=iy P t tab (ev x) k:=rfl
theorem vh {k:AV -> Prop} {tab:aa} {ev:Operand -> AV} {t:TypeId} {x:Operand} {f:Nat}:bO P tab ev (.fieldAddr t x f) k=lE P t tab (ev x) f k:=rfl
theorem uP {k:AV -> Prop} {tab:aa} {ev:Operand -> AV} {t:TypeId} {x i:Operand}:bO P tab ev (.indexAddr t x i) k=gT P t tab (ev x) (ev i) k:=rfl
theorem yB {k:AV -> Prop} {tab:aa} {ev:Operand -> AV} {o:BinOp} {t t2:TypeId} {x y:Operand}:bO P tab ev (.binOp o t x y t2) k=sg P o t (ev x) (ev y) k:=rfl
theorem sL {k:AV -> Prop} {tab:aa} {ev:Operand -> AV} {x:Operand}:bO P tab ev (.nilCheck x) k=uS tab (ev x) k:=rfl
theorem BH {k:AV -> Prop} {tab:aa} {ev:Operand -> AV} {o:UnOp} {t:TypeId} {x:Operand}:bO P tab ev (.unOp o t x) k=Io o (ev x) k:=rfl
theorem qh {k:AV -> Prop} {tab:aa} {ev:Operand -> AV} {x:Operand} {i:Nat}:bO P tab ev (.extract x i) k=iz (ev x) i k:=rfl
theorem zP {k:AV -> Prop} {tab:aa} {ev:Operand -> AV} {x:Operand} {t:TypeId}:bO P tab ev (.call ⟨.builtin .len,#[x],#[t]⟩) k=oW P t tab (ev x) k:=rfl
theorem Aq:iG P ops K [] st=K st:=rfl
theorem tV:iG P ops K (⟨dst,op,ty,pos,aft,none⟩ :: rest) st=jR P ⟨dst,op,ty,pos,aft,none⟩ (iG P ops K rest) st:=rfl
theorem td:iG P ops K (⟨dst,op,ty,pos,aft,some (j,want)⟩ :: rest) st=lJ ((ops[j]?).bind (·.dst)) want (jR P ⟨dst,op,ty,pos,aft,some (j,want)⟩ (iG P ops K rest)) (j3 dst (iG P ops K rest)) st:=rfl
def sJ (c a b:AV) (dst:Option Nat) (K:ak -> Prop) (st:ak):Prop:=AY c a b (aK st dst K)
def zK (t:Bool) (a b:AV) (dst:Option Nat) (K:ak -> Prop) (st:ak):Prop:=match t with | true=>K (st.put dst a) | false=>K (st.put dst b)
theorem yA {a b:AV}:zK true a b dst K st=K (st.put dst a):=rfl
theorem w6 {a b:AV}:zK false a b dst K st=K (st.put dst b):=rfl
theorem xg {t:Bool} {a b:AV} (h1:t=true -> zK true a b dst K st) (h2:t=false -> zK false a b dst K st):zK t a b dst K st:=by
 cases t
 .exact h2 rfl
 .exact h1 rfl
theorem ti {t:Bool} {a b:AV}:sJ (.c (.bool t)) a b dst K st=zK t a b dst K st:=by cases t<;>rfl
theorem wQ {tab:aa} {ev:Operand -> AV} {dst:Option Nat} {x y z:Operand}:bO P tab ev (.pick x y z) (aK st dst K)=sJ (ev x) (ev y) (ev z) dst K st:=rfl
theorem Bg {x:Operand}:lG P ⟨dst,.move x,ty,pos,aft,gd⟩ K st=K (st.put dst (a6 st x)):=rfl
theorem wN {x:Operand}:lG P ⟨dst,.assign x,ty,pos,aft,gd⟩ K st=K (st.put dst (a6 st x)):=rfl
theorem Ay {c x y:Operand}:lG P ⟨dst,.pick c x y,ty,pos,aft,gd⟩ K st=sJ (a6 st c) (a6 st x) (a6 st y) dst K st:=rfl
theorem Dd {t:TypeId} {x:Operand}:lG P ⟨dst,.load t x,ty,pos,aft,gd⟩ K st=iy P t st.tab (a6 st x) (aK st dst K):=rfl
theorem zd {t:TypeId} {x:Operand} {f:Nat}:lG P ⟨dst,.fieldAddr t x f,ty,pos,aft,gd⟩ K st=lE P t st.tab (a6 st x) f (aK st dst K):=rfl
theorem zk {t:TypeId} {x i:Operand}:lG P ⟨dst,.indexAddr t x i,ty,pos,aft,gd⟩ K st=gT P t st.tab (a6 st x) (a6 st i) (aK st dst K):=rfl
theorem FF {o:BinOp} {t t2:TypeId} {x y:Operand}:lG P ⟨dst,.binOp o t x y t2,ty,pos,aft,gd⟩ K st=sg P o t (a6 st x) (a6 st y) (aK st dst K):=rfl
theorem xl {x:Operand}:lG P ⟨dst,.nilCheck x,ty,pos,aft,gd⟩ K st=uS st.tab (a6 st x) (aK st dst K):=rfl
theorem Hz {o:UnOp} {t:TypeId} {x:Operand}:lG P ⟨dst,.unOp o t x,ty,pos,aft,gd⟩ K st=Io o (a6 st x) (aK st dst K):=rfl
theorem uo {x:Operand} {i:Nat}:lG P ⟨dst,.extract x i,ty,pos,aft,gd⟩ K st=iz (a6 st x) i (aK st dst K):=rfl
theorem E7 {x y:Operand} {t t':TypeId}:lG P ⟨dst,.call ⟨.builtin .max,#[x,y],#[t,t']⟩,ty,pos,aft,gd⟩ K st=Gb (fun a b=>max a b) [a6 st x,a6 st y] (aK st dst K):=rfl
theorem EK {x y:Operand} {t t':TypeId}:lG P ⟨dst,.call ⟨.builtin .min,#[x,y],#[t,t']⟩,ty,pos,aft,gd⟩ K st=Gb (fun a b=>min a b) [a6 st x,a6 st y] (aK st dst K):=rfl
theorem EB {x:Operand} {t:TypeId}:lG P ⟨dst,.call ⟨.builtin .len,#[x],#[t]⟩,ty,pos,aft,gd⟩ K st=(qu P t st.tab (a6 st x) (aK st dst K) \/ oW P t st.tab (a6 st x) (aK st dst K)):=rfl
theorem wc {x y:Operand} {t t':TypeId}:lG P ⟨dst,.call ⟨.builtin .append,#[x,y],#[t,t']⟩,ty,pos,aft,gd⟩ K st=jn P t t' st (a6 st x) (a6 st y) dst K:=rfl
theorem Dh {f:Operand} {args:List Operand} {ts:Array TypeId}:lG P ⟨dst,.call ⟨.value f,args.toArray,ts⟩,ty,pos,aft,gd⟩ K st=Ad (a6 st f) (xz P st args dst K) (rM P st args dst K):=by simp [lG]
theorem Ft {t:TypeId} {x:Operand}:lG P ⟨dst,.box t x,ty,pos,aft,gd⟩ K st=rY t st (a6 st x) dst K:=rfl
theorem zg {t:TypeId}:lG P ⟨dst,.alloc t,ty,pos,aft,gd⟩ K st=match bT P t with | some z=>rY t st (.c z) dst K | none=>False:=rfl
theorem y9 {t:TypeId} {p x:Operand}:lG P ⟨dst,.store t p x,ty,pos,aft,gd⟩ K st=mL P t st (a6 st p) (a6 st x) (Gi dst K):=rfl
theorem oS {t:TypeId} {n:Nat} {parts:List (Nat × Operand)}:lG P ⟨dst,.buildSlice t n parts.toArray,ty,pos,aft,gd⟩ K st=db P t n parts st dst K:=by simp [lG]
theorem qb {t:TypeId} {l c:Operand}:lG P ⟨dst,.makeSlice t l c,ty,pos,aft,gd⟩ K st=nQ P t st (a6 st l) (a6 st c) dst K:=rfl
theorem vi {tab:aa} {ev:Operand -> AV} {t:TypeId} {x:Operand} {lo hi mx:Option Operand} {k:AV -> Prop}:bO P tab ev (.slice t x lo hi mx) k=j7 P t (ev x) (lo.map ev) (hi.map ev) (mx.map ev) k:=rfl
theorem sK {t:TypeId} {x:Operand} {lo hi mx:Option Operand}:cV P dst (.slice t x lo hi mx) K st=bO P st.tab (a6 st) (.slice t x lo hi mx) (aK st dst K):=rfl
theorem Ap {t:TypeId} {parts:List (Nat × Operand)}:lG P ⟨dst,.build t parts.toArray,ty,pos,aft,gd⟩ K st=jw P t st parts dst K:=by simp [lG]
theorem z7 {x:Operand}:jR P ⟨dst,.move x,ty,pos,aft,gd⟩ K st=K (st.put dst (a6 st x)):=rfl
theorem uC {x:Operand}:jR P ⟨dst,.assign x,ty,pos,aft,gd⟩ K st=K (st.put dst (a6 st x)):=rfl
theorem y2 {c x y:Operand}:jR P ⟨dst,.pick c x y,ty,pos,aft,gd⟩ K st=sJ (a6 st c) (a6 st x) (a6 st y) dst K st:=rfl
theorem yu {t:TypeId} {x:Operand}:jR P ⟨dst,.load t x,ty,pos,aft,gd⟩ K st=iy P t st.tab (a6 st x) (aK st dst K):=rfl
theorem wG {t:TypeId} {x:Operand} {f:Nat}:jR P ⟨dst,.fieldAddr t x f,ty,pos,aft,gd⟩ K st=lE P t st.tab (a6 st x) f (aK st dst K):=rfl
theorem wo {t:TypeId} {x i:Operand}:jR P ⟨dst,.indexAddr t x i,ty,pos,aft,gd⟩ K st=gT P t st.tab (a6 st x) (a6 st i) (aK st dst K):=rfl
theorem BG {o:BinOp} {t t2:TypeId} {x y:Operand}:jR P ⟨dst,.binOp o t x y t2,ty,pos,aft,gd⟩ K st=sg P o t (a6 st x) (a6 st y) (aK st dst K):=rfl
theorem t8 {x:Operand}:jR P ⟨dst,.nilCheck x,ty,pos,aft,gd⟩ K st=uS st.tab (a6 st x) (aK st dst K):=rfl
theorem EA {o:UnOp} {t:TypeId} {x:Operand}:jR P ⟨dst,.unOp o t x,ty,pos,aft,gd⟩ K st=Io o (a6 st x) (aK st dst K):=rfl
theorem Db {x:Operand} {t:TypeId}:jR P ⟨dst,.call ⟨.builtin .len,#[x],#[t]⟩,ty,pos,aft,gd⟩ K st=oW P t st.tab (a6 st x) (aK st dst K):=rfl
theorem yt {f:Operand} {args:List Operand} {ts:Array TypeId}:jR P ⟨dst,.call ⟨.value f,args.toArray,ts⟩,ty,pos,aft,gd⟩ K st=D5 (a6 st f) (wF P st args dst K):=by simp [jR]
theorem wJ {t:TypeId} {parts:List (Nat × Operand)}:jR P ⟨dst,.build t parts.toArray,ty,pos,aft,gd⟩ K st=jw P t st parts dst K:=by simp [jR]
end
end
section
variable {P:Program} {cx:Cx} {a:Act} {w w':World} {tab:aa} {st:ak} {L:Nat -> Value} {nx:Nat}
abbrev Ds (cx:Cx) (K:ak -> Prop):Act -> World -> Prop:=fun a w=>∃ st L,K st /\ aI cx a w st L
theorem aL {o:Oper} {v:Value} {w':World} {K:Act -> World -> Prop} {Q:Exit -> Act -> World -> Prop} (h:(execOp a.eval o).run P w=.ok (.value v) w') (hk:K (a.put o.dst v) w'):o.wp P a w K Q:=by
 unfold Oper.wp;rw [h];exact hk
theorem dt {o:Oper} {w':World} {K:Act -> World -> Prop} {Q:Exit -> Act -> World -> Prop} (h:(execOp a.eval o).run P w=.ok .skip w') (hk:K (a.put o.dst undef) w'):o.wp P a w K Q:=by
 unfold Oper.wp;rw [h];exact hk
theorem ot {o:Oper} {K:ak -> Prop} {Q:Exit -> Act -> World -> Prop} (h:aI cx a w st L) (hp:bO P st.tab (a6 st) o.op (aK st o.dst K)):o.wp P a w (Ds cx K) Q:=by
 obtain ⟨v,av,h1,h2,h3,h4,_⟩:=jt h.lay (fun id o hid=>(h.young id o hid).2) (aj h) hp;exact aL (h4 w (Below.refl _ _)) ⟨_,L,h1,a7 h h2 h3 o.dst⟩
theorem sO {f:AV} {K:FuncId -> List AV -> Prop} {v:Value} (hv:bx cx w tab L v f) (hl:f.lt nx) (h:D5 f K):∃ g xs cs,v=.func (.func g) #[] xs /\ xs.size=cs.length /\ (∀ (j:Nat) (x:Value) (av:AV),xs[j]? = some x -> cs[j]? = some av -> bx cx w tab L x av) /\ K g cs /\ ∀ av ∈ cs,av.lt nx:=by
 unfold D5 at h;split at h
 .rename_i g first caps
  obtain ⟨⟨rfl,rfl⟩,h⟩:=h;exact ⟨g,#[],[],hv.c_inv,rfl,fun j x av h1 _=>by simp at h1,h,by simp⟩
 .rename_i g cs;obtain ⟨xs,h1,h2,h3⟩:=hv.fn_inv;exact ⟨g,xs,cs,h1,h2,h3,h,ag.1 hl⟩
 .exact h.elim
theorem Cy (h:aI cx a w st L) {args:Array Operand} {xs:Array Value} {cs:List AV} (hn:xs.size=cs.length) (hx:∀ (j:Nat) (x:Value) (av:AV),xs[j]? = some x -> cs[j]? = some av -> bx cx w st.tab L x av) :
  (xs ++ args.map a.eval).size=(cs ++ args.toList.map (a6 st)).length /\ ∀ (j:Nat) (v:Value) (av:AV),(xs ++ args.map a.eval)[j]? = some v -> (cs ++ args.toList.map (a6 st))[j]? = some av -> bx cx w st.tab L v av:=by
 refine ⟨by simp [hn],fun j v av h1 h2=>?_⟩;by_cases hj:j<xs.size
 .rw [LY hj] at h1;rw [Ls (by omega)] at h2;exact hx j v av h1 h2
 .rw [Array.getElem?_append_right (by omega)] at h1;rw [LC (by omega),<- hn] at h2;rw [Array.getElem?_map] at h1;rw [KV,LV] at h2
  cases hk:args[j - xs.size]? with
  | none=>simp [hk] at h1
  | some x=>
   simp [hk] at h1 h2;subst h1;subst h2;exact (aj h x).1
theorem ol (h:aI cx a w st L) {args:Array Operand} {xs:Array Value} {cs:List AV} (hn:xs.size=cs.length) (hx:∀ (j:Nat) (x:Value) (av:AV),xs[j]? = some x -> cs[j]? = some av -> bx cx w st.tab L x av) :
  (args.map a.eval ++ xs).size=(args.toList.map (a6 st) ++ cs).length /\ ∀ (j:Nat) (v:Value) (av:AV),(args.map a.eval ++ xs)[j]? = some v -> (args.toList.map (a6 st) ++ cs)[j]? = some av -> bx cx w st.tab L v av:=by
 refine ⟨by simp [hn],fun j v av h1 h2=>?_⟩;by_cases hj:j<args.size
 .rw [LY (by simpa using hj),Array.getElem?_map,KT hj] at h1;rw [Ls (by simpa using hj),KV,LV,KT hj] at h2;simp at h1 h2;subst h1;subst h2;exact (aj h _).1
 .rw [Array.getElem?_append_right (by simpa using hj)] at h1;rw [LC (by simpa using hj)] at h2;simp at h1 h2;exact hx _ v av h1 h2
theorem uy (h:aI cx a w st L) {f:Operand} {args:Array Operand} {dst:Option Nat} {K:ak -> Prop} (hp:Ad (a6 st f) (xz P st args.toList dst K) (rM P st args.toList dst K)) :
  ∃ (g:FuncId) (zs:Array Value) (avs:List AV),(eL P g -> ∀ (o:Oper) (ts:Array TypeId),o.op=.call ⟨.value f,args,ts⟩ -> (execOp a.eval o).run P w=.ok (.enter g zs) w) /\ zs.size=avs.length /\
   (∀ (j:Nat) (v:Value) (av:AV),zs[j]? = some v -> avs[j]? = some av -> bx cx w st.tab L v av /\ av.lt st.next) /\ fk none P st g avs (rQ dst K):=by
 unfold Ad at hp;split at hp
 .rename_i g bs hf;have hv:=(aj h f).1;have hl:=(aj h f).2;rw [hf] at hv hl;obtain ⟨xs,hg,hxn,hxr⟩:=hv.bfn_inv;have hargs:=Cy h (args:=args) hxn hxr;refine ⟨g,xs ++ args.map a.eval,bs ++ args.toList.map (a6 st),fun hent o ts ho=>?_,hargs.1,fun j v av h1 h2=>⟨hargs.2 j v av h1 h2,?_⟩,hp⟩
  .have:=hent (xs ++ args.map a.eval) w;simp [execOp,ho,Sem.run_bind,resolve,hg,Deferred.ofValue,invoke,this]
  .rcases K2.1 (KO h2) with h3 | h3
   .exact ag.1 hl av h3
   .obtain ⟨x,_,rfl⟩:=K8.1 h3;exact (aj h x).2
 .obtain ⟨g,xs,cs,hg,hxn,hxr,hp,hcs⟩:=sO (aj h f).1 (aj h f).2 hp;have hargs:=ol h (args:=args) hxn hxr;refine ⟨g,args.map a.eval ++ xs,args.toList.map (a6 st) ++ cs,fun hent o ts ho=>?_,hargs.1,fun j v av h1 h2=>⟨hargs.2 j v av h1 h2,?_⟩,hp⟩
  .have:=hent (args.map a.eval ++ xs) w;simp [execOp,ho,Sem.run_bind,resolve,hg,Deferred.ofValue,invoke,this]
  .rcases K2.1 (KO h2) with h3 | h3
   .obtain ⟨x,_,rfl⟩:=K8.1 h3;exact (aj h x).2
   .exact hcs av h3
theorem ka {t:TypeId} {parts:Array (Nat × Operand)} {dst:Option Nat} {K:ak -> Prop} (h:aI cx a w st L) (hp:jw P t st parts.toList dst K):∃ v,∃ cs,bx cx w st.tab L v (.agg cs) /\ (AV.agg cs).lt st.next /\ (∀ w',(Instr.build t (parts.map fun (p:Nat × Operand)=>(p.1,a.eval p.2))).run P w'=.ok v w') /\ K (st.put dst (.agg cs)):=by
 unfold jw at hp;split at hp
 .rename_i places zs ht;split at hp
  .rename_i cs hf;obtain ⟨h1,h2⟩:=hp;obtain ⟨v,h3,h4,h5⟩:=CG h ht hf h1;exact ⟨v,cs,h3,h4,by simpa using h5,h2⟩
  .exact hp.elim
 .exact hp.elim
theorem zC {t:TypeId} {x:Operand} {lo hi mx:Option Operand} {K:ak -> Prop} {Q:Exit -> Act -> World -> Prop} {ty:TypeId} {dst:Option Nat} {pos:String} {aft:Array Edge} {gd:Option (Nat × Bool)} (h:aI cx a w st L)
  (hp:jd P t st (a6 st x) (lo.map (a6 st)) (hi.map (a6 st)) (mx.map (a6 st)) dst K):Oper.wp (P:=P) ⟨dst,.slice t x lo hi mx,ty,pos,aft,gd⟩ a w (Ds cx K) Q:=by
 unfold jd at hp;split at hp
 .rename_i id hx;have hv:=(aj h x).1;rw [hx] at hv;split at hp
  .rename_i e sz rows hid;unfold md at hp;split at hp
   .rename_i l h' hl hh;obtain ⟨⟨h1,h2⟩,⟨rfl,h4,h5,h6⟩,h7⟩:=hp;obtain ⟨hu,hsz⟩:=gI (P:=P) (t:=t) (by omega);have hvL:=hv.osl_inv _ _ (bI hid);obtain ⟨hrow,xs,hown,hone,hx'⟩:=h.lay.objs id _ hid;have hs:=cF (P:=P) (t:=(bh P t).1) (by omega) w;rw [hsz,h1] at hs
    have key:∀ A cap,L id=.slice A rows.length cap -> rows.length<=cap -> ∃ m,h'.toNat<=m /\ m<=cap /\ (Instr.sliceBounds true rows.length cap (lo.map a.eval) (hi.map a.eval) (mx.map a.eval)).run P w=.ok (0,h'.toNat,m) w:=by
     intro A cap hL hc;have hlo:=nD (d:=0) (n:=0) (fun x=>(aj h x).1) hl (by omega) rfl;have hhi:=nD (d:=rows.length) (n:=h'.toNat) (fun x=>(aj h x).1) hh (by omega) rfl
     cases mx with
     | none=>exact ⟨cap,by omega,KW _,fK hlo hhi (.inl ⟨rfl,rfl⟩) (by omega) (by omega)⟩
     | some q=>
      have hq:=(aj h q).1;simp only [LE] at h6 ⊢;unfold yL at h6;split at h6
      .rename_i hq';cases hq'
      .rename_i k m hq'
       injection hq' with hq'
       rw [hq'] at hq;obtain ⟨rfl,hb⟩:=h6;refine ⟨m.toNat,KW _,by omega,fK hlo hhi (.inr ⟨rfl,⟨k,by rw [hq.c_inv,Int.toNat_of_nonneg h4]⟩,fun hn=>?_⟩) (by omega) (by omega)⟩
       cases hi with
       | none=>simp at hb
       | some _=>cases hn
      .exact h6.elim
    rcases hown.2 with ⟨hL,h0⟩|⟨g,cap,cur,hL,hb,hh',hc,hm,hcs,htake⟩
    .obtain ⟨m,hm1,hm2,hr⟩:=key none 0 (by rw [hL,h0]) (by omega);have hm0:m=0:=(by omega);have hn0:h'.toNat=0:=(by omega);refine aL (v:=.slice none 0 0) ?_ ⟨_,_,h7,jA (n:=h'.toNat) h hid (by omega) (.inl ⟨hL,rfl⟩) dst⟩;rw [h0] at hr;simp [execOp,Sem.run_bind,hvL,hL,Instr.sliceAt,Instr.slice,run_underlying hu,hr,hs,hm0,hn0]
    .obtain ⟨m,hm1,hm2,hr⟩:=key _ cap hL hc;refine aL (v:=.slice (some ⟨g,0,none⟩) h'.toNat m) ?_ ⟨_,_,h7,jA (n:=h'.toNat) h hid (by omega) (.inr ⟨g,cap,m,hL,rfl,hm1,hm2⟩) dst⟩;simp [execOp,Sem.run_bind,hvL,hL,Instr.sliceAt,Instr.slice,run_underlying hu,hr,hs,Addr.add_lit]
   .exact hp.elim
  .exact hp.elim
 .exact ot (o:=⟨dst,.slice t x lo hi mx,ty,pos,aft,gd⟩) h (by exact hp)
theorem JO {o:Oper} {K:ak -> Prop} {Q:Exit -> Act -> World -> Prop} (h:aI cx a w st L) (hp:lG P o K st):o.wp P a w (Ds cx K) Q:=by
 obtain ⟨dst,op,ty,pos,aft,gd⟩:=o;unfold lG at hp;simp only at hp;split at hp
 .rename_i t x;obtain ⟨h1,h2⟩:=hp;have he:=aj h x;obtain ⟨h3,h4⟩:=nr (P:=P) (t:=t) h he.1 he.2 h1 dst;exact aL (by simp [execOp,Sem.run_bind,h3]) ⟨_,_,h2,h4⟩
 .rename_i t;split at hp
  .rename_i z hz;obtain ⟨h1,h2⟩:=hp;obtain ⟨h3,h4⟩:=nr (P:=P) (t:=t) (av:=.c z) h (.tree (.c z)) trivial h1 dst;exact aL (by simp [execOp,Sem.run_bind,nc hz,h3]) ⟨_,_,h2,h4⟩
  .exact hp.elim
 .rename_i t p x;unfold mL at hp;split at hp
  .rename_i id i j hpe;split at hp
   .rename_i ty cells hid;obtain ⟨rfl,h0,h1,h2,h3,h4⟩:=hp;have hpv:=(aj h p).1;rw [hpe] at hpv;have hx:=aj h x;obtain ⟨w',h5,h6,_⟩:=jg h hpv hid hx.1 hx.2 h0 h1 h2 h3 dst;exact dt (by simp [execOp,Sem.run_bind,h5]) ⟨_,_,h4,h6⟩
   .rename_i e sz rows hid;obtain ⟨hi,h0,h1,h2,h3,h3',h4⟩:=hp;have hpv:=(aj h p).1;rw [hpe] at hpv;have hx:=aj h x;obtain ⟨w',h5,h6,_⟩:=je h hpv hid hx.1 hx.2 hi h0 h1 h2 h3 h3' dst;exact dt (by simp [execOp,Sem.run_bind,h5]) ⟨_,_,h4,h6⟩
   .rename_i e sz rows hid;obtain ⟨hi,h0,h1,h2,h3,h4⟩:=hp;have hpv:=(aj h p).1;rw [hpe] at hpv;have hx:=aj h x;obtain ⟨w',h5,h6,_⟩:=iq h hpv hid hx.1 hx.2 hi h0 h1 h2 h3 dst;exact dt (by simp [execOp,Sem.run_bind,h5]) ⟨_,_,h4,h6⟩
   .exact hp.elim
  .exact hp.elim
 .rename_i t n parts;unfold db at hp
  replace h:=eW (fM (parts.toList.flatMap fun (p:Nat × Operand)=>al (a6 st p.2))) h
  unfold fr at hp;split at hp
  .rename_i e sz by_ ht;split at hp
   .obtain ⟨⟨h1,rfl,h3,h5⟩,h6⟩:=hp;obtain ⟨v',w',L',h7,h8,_⟩:=io h ht h1 h3 h5 dst;refine aL ?_ ⟨_,_,h6,h8⟩;simp only [Mx] at h7;simp [execOp,Sem.run_bind];simp at h7;simp [h7]
   .obtain ⟨⟨h1,rfl,h3,h5⟩,h6⟩:=hp;obtain ⟨v',w',L',h7,h8,_⟩:=mO h ht h1 h3 h5 dst;refine aL ?_ ⟨_,_,h6,h8⟩;simp only [Mx] at h7;simp [execOp,Sem.run_bind];simp at h7;simp [h7]
  .exact hp.elim
 .rename_i t l c;unfold nQ at hp;split at hp
  .rename_i e sz by_ k1 n k2 m ht hl hc;split at hp
   .rename_i z hz;obtain ⟨⟨rfl,h1,h2,h3,h4⟩,h5⟩:=hp;have hl':=(aj h l).1;have hc':=(aj h c).1;rw [hl] at hl';rw [hc] at hc';obtain ⟨v',w',L',h6,h7,_⟩:=sm (k1:=k1) (k2:=k2) h ht hz h1 h2 h3 h4 dst;exact aL (by simp [execOp,Sem.run_bind,hl'.c_inv,hc'.c_inv,h6]) ⟨_,_,h5,h7⟩
   .exact hp.elim
  .exact hp.elim
 .rename_i t parts;obtain ⟨v,cs,h1,h2,h3,h4⟩:=ka h hp;refine aL ?_ ⟨_,_,h4,a7 h h1 h2 dst⟩;simp [execOp,Sem.run_bind,h3 w]
 .rename_i t x lo hi mx;exact zC h hp
 .rename_i t r;obtain ⟨hr,hp⟩:=hp
  cases r with
  | some r=>cases hr
  | none=>
   obtain ⟨h1,h2⟩:=pS (P:=P) (t:=t) h dst;exact aL (by simp [execOp,Sem.run_bind,h1]) ⟨_,_,hp,h2⟩
 .rename_i t m k ok;obtain ⟨r,av,h1,h2,h3,h4⟩:=nk (nx:=st.next) h.lay (aj h m).1 (aj h k).1 hp;exact aL (by simp [execOp,Sem.run_bind,h4]) ⟨_,_,h1,a7 h h2 h3 dst⟩
 .rename_i t m k v;obtain ⟨w',st',h1,h2,h3,_⟩:=m6 h (aj h m).1 (aj h k).1 (aj h v).1 dst hp;exact dt (by simp [execOp,Sem.run_bind,h1]) ⟨_,_,h2,h3⟩
 .rename_i c;obtain ⟨callee,args,argTypes⟩:=c;simp only at hp;split at hp
  .split at hp
   .rename_i x y t t' h1 h2;obtain rfl:args = #[x,y]:=by cases args;simp_all
    obtain rfl:argTypes = #[t,t']:=by cases argTypes;simp_all
    unfold jn at hp;split at hp
    rotate_left
    .obtain ⟨v',w',st',L',h6,h5,h7,_⟩:=qz (ty:=ty) h (aj h x).1 (aj h y).1 dst hp;exact aL (by simp [execOp,Sem.run_bind,resolve,invoke,builtin,h6]) ⟨_,_,h5,h7⟩
    rename_i htt;obtain rfl:t=t':=of_decide_eq_true htt;unfold gX at hp;split at hp
    .rename_i hnn;obtain ⟨e1,e2⟩:=k9 hnn;have hx1:=(aj h x).1;have hy1:=(aj h y).1;rw [e1] at hx1;rw [e2] at hy1;have hx2:=hx1.c_inv;have hy2:=hy1.c_inv;have hr:=gR (ty:=ty) (w:=w) hp.1;exact aL (by simp [execOp,Sem.run_bind,resolve,invoke,builtin,hx2,hy2,hr]) ⟨_,_,hp.2,a7 h (.tree (.c _)) trivial dst⟩
    unfold iB at hp;split at hp
    .rename_i e sz by_ ht;split at hp
     .rename_i oid rows rows2 hx hy;obtain ⟨⟨h3,h4⟩,h5⟩:=hp;obtain ⟨v',w',L',h6,h7,_⟩:=mM (ty:=ty) h (aj h x).1 (aj h y).1 ht hx hy (by simpa [maxLen] using h3) h4 dst;exact aL (by simp [execOp,Sem.run_bind,resolve,invoke,builtin,h6]) ⟨_,_,h5,h7⟩
     .split at hp
      .rename_i oid rows rows2 hx hy;obtain ⟨⟨h3,h4⟩,h5⟩:=hp;obtain ⟨v',w',L',h6,h7,_⟩:=ly (ty:=ty) h (aj h x).1 (aj h y).1 ht hx hy (by simpa [maxLen] using h3) h4 dst;exact aL (by simp [execOp,Sem.run_bind,resolve,invoke,builtin,h6]) ⟨_,_,h5,h7⟩
      .exact hp.elim
    .exact hp.elim
   .exact hp.elim
  .unfold sM at hp;split at hp
   .rename_i x t h1 h2;obtain rfl:args = #[x]:=by cases args;simp_all
    obtain rfl:argTypes = #[t]:=by cases argTypes;simp_all
    obtain ⟨w',st',h3,h4,h5,_⟩:=tL (ty:=ty) h (aj h x).1 dst hp;exact aL (by simp [execOp,Sem.run_bind,resolve,invoke,builtin,h3]) ⟨_,_,h4,h5⟩
   .exact hp.elim
  .rcases hp with hp | hp
   .unfold w7 at hp;split at hp
    .rename_i x t h1 h2;obtain rfl:args = #[x]:=by cases args;simp_all
     obtain rfl:argTypes = #[t]:=by cases argTypes;simp_all
     obtain ⟨r,av,h3,h4,h5,h6⟩:=xM (ty:=ty) (nx:=st.next) h.lay (aj h x).1 hp;exact aL (by simp [execOp,Sem.run_bind,resolve,invoke,builtin,h6]) ⟨_,_,h3,a7 h h4 h5 dst⟩
    .exact hp.elim
   .exact ot h hp
  .rename_i f;obtain ⟨g,zs,avs,hrun0,hsz,hlt,hp⟩:=uy h hp;by_cases hmeth:vn none P st g avs (rQ dst K)
   .obtain ⟨hent,ids0,_,hc⟩:=sF h hsz (fun j v av h1 h2=>(hlt j v av h1 h2).1) hmeth dst;unfold Oper.wp;rw [hrun0 hent _ argTypes rfl];show Calls P g zs w _;refine hc.mono ?_;rintro e w' ⟨v,av,st',L',rfl,h1,h2,h3,_⟩;exact ⟨_,_,h1,h2⟩
   replace hp:na P st g avs (rQ dst K) \/ (none=(none:Option (Nat × List Nat)) /\ (xG P st g avs (rQ dst K) \/ vX P st g avs (rQ dst K))):=by
    rcases hp with hp|hp|hp
    .exact .inl hp
    .exact .inr hp
    .exact absurd hp hmeth
   have hent:eL P g:=by
    rcases hp with (⟨R,hd,_⟩|⟨hd,_⟩)|⟨_,(⟨_,_,_,_,_,_,_,_,hd,_⟩|⟨_,_,_,_,_,_,_,_,_,hd,_⟩|⟨hd,_⟩)|⟨_,(⟨R,hd,_⟩|⟨hd,_⟩)⟩⟩
    .exact hd.1
    .exact hd
    .exact hd.1
    .exact hd.1
    .exact hd
    .exact hd.1
    .exact hd
   unfold Oper.wp;rw [hrun0 hent _ argTypes rfl];show Calls P g zs w _;have hargs:zs.size=avs.length /\ ∀ (j:Nat) (v:Value) (av:AV),zs[j]? = some v -> avs[j]? = some av -> bx cx w st.tab L v av:=⟨hsz,fun j v av h1 h2=>(hlt j v av h1 h2).1⟩;rcases hp with hp|⟨_,hp|⟨ids,hp⟩⟩
   .refine (mu h hargs.1 hargs.2 hp dst).mono ?_;rintro e w' ⟨v,av,st',L',rfl,h1,h2,_⟩;exact ⟨_,_,h1,h2⟩
   rotate_left
   .obtain ⟨h3,h4⟩:=ks ids h hlt;refine (mu (eW ids h) (by rw [h3];exact hargs.1) (fun j v av h5 h6=>(h4 j v av h5 h6).1) hp dst).mono ?_;rintro e w' ⟨v,av,st',L',rfl,h1,h2,_⟩;exact ⟨_,_,h1,h2⟩
   .refine (xF h hargs.1 hlt hp dst).mono ?_;rintro e w' ⟨v,av,st',L',rfl,h1,h2,_⟩;exact ⟨_,_,h1,h2⟩
  .exact ot h hp
 .exact ot h hp
theorem ch {ops:Array Oper} {g:Option (Nat × Bool)} {yes no:ak -> Prop} (h:aI cx a w st L) (hp:j2 ops g yes no st) (o:Oper) (ho:o.guard=g) :
  (Region.wanted o (yielded ops a.tmps)=true /\ ∃ st',yes st' /\ aI cx a w st' L /\ st'.tab=st.tab /\ st'.next=st.next) \/ (Region.wanted o (yielded ops a.tmps)=false /\ ∃ st',no st' /\ aI cx a w st' L /\ st'.tab=st.tab /\ st'.next=st.next):=by
 subst ho;unfold j2 at hp;unfold Region.wanted;split at hp
 .rename_i hg;rw [hg];exact .inl ⟨rfl,st,hp,h,rfl,rfl⟩
 .rename_i j want hg;rw [hg];simp only;split at hp
  .rename_i d hd;split at hp
   .rename_i v hv;have hval:=(h.env d).1;rw [hv] at hval;have hval:=hval.c_inv
    have hy:yielded ops a.tmps j=yv v:=by
     unfold yielded;rw [hd];simp only [Mq];rw [<- hval];rw [LA]
     cases ht:a.tmps[d]? with
     | none=>rfl
     | some u=>cases u<;>rfl
    rw [hy]
    have same:∀ b,v=.bool b -> aI cx a w (st.put (some d) (.c (.bool b))) L /\ (st.put (some d) (.c (.bool b))).tab=st.tab /\ (st.put (some d) (.c (.bool b))).next=st.next:=fun b hb=>by
     subst hb;have e1:(st.put (some d) (.c (.bool b))).tab=st.tab:=rfl;have e2:(st.put (some d) (.c (.bool b))).next=st.next:=rfl;have e3:(st.put (some d) (.c (.bool b))).n=st.n:=rfl;refine ⟨⟨by rw [e1];exact h.lay,by rw [e3];exact h.size,by rw [e1];exact h.defers,by rw [e1,e2];exact h.young,fun t=>?_⟩,e1,e2⟩;rw [e1,e2,xQ];simp only;split
     .rename_i ht;rw [ht.2,hval];exact ⟨.tree (.c _),trivial⟩
     .exact h.env t
    split at hp
    .rename_i b hb
     have hvb:v=.bool b:=by
      cases v<;>simp [yv] at hb;rw [hb]
     by_cases hw:b=want
     .subst hw;have hp:yes (st.put (some d) (.c (.bool b))):=by cases b<;>exact hp
      exact .inl ⟨by simp [hb],_,hp,same _ hvb⟩
     .have hp:no (st.put (some d) (.c (.bool b))):=by cases b<;>cases want<;>first|exact hp|exact absurd rfl hw
      exact .inr ⟨by simp [hb,hw],_,hp,same _ hvb⟩
    .rename_i hb;exact .inr ⟨by simp [hb],st,hp,h,rfl,rfl⟩
   .exact hp.elim
  .exact hp.elim
theorem bQ (h:aI cx a w st L) (dst:Option Nat):aI cx (a.put dst undef) w (st.put dst (.c undef)) L:=a7 h (.tree (.c _)) trivial dst
theorem sw {ops:Array Oper} {K:ak -> Prop} {Q:Exit -> Act -> World -> Prop} (hQ:∀ a w st L,K st -> aI cx a w st L -> Q .normal a w):∀ (l:List Oper) (a:Act) (w:World) (st:ak) (L:Nat -> Value),aI cx a w st L -> kO P ops K l st -> wpList P ops Q l a w
 | [],a,w,st,L,h,hp=>hQ a w st L hp h
 | o :: rest,a,w,st,L,h,hp=>by
  unfold kO at hp;refine wpList_step fun K' hK'=>?_;rcases ch h hp o rfl with ⟨hw,st',h1,h2,_⟩|⟨hw,st',h1,h2,_⟩
  .rw [K5 hw];exact Oper.wp_mono (fun a' w' ⟨st'',L',h3,h4⟩=>hK' a' w' (sw hQ rest a' w' st'' L' h4 h3)) (JO h2 h1)
  .rw [KY (by simp [hw])];exact hK' _ _ (sw hQ rest _ w _ L (bQ h2 o.dst) h1)
theorem fG (h:aI cx a w st L) (hb:Below w.heap.size w w'):aI cx a w' st L:=by
 have hext:kc cx w st.tab L st.next w' st.tab L:=gz hb (fun id _=>⟨rfl,rfl⟩) (fun id o hid=>(h.young id o hid).1) (fun id o g h1 h2 _=>by have:=(h.young id o h2).1;omega);refine ⟨kH h.lay h.young hb (fun id _=>⟨rfl,rfl⟩) (fun id o h1 h2=>?_) (fun id o g h1 h2 _=>?_) (fun id id' o o' g h1 _ h2 _ _ _=>?_),h.size,h.defers.mono hext.blk hext.sub,h.young,fun t=>⟨hext.rv (h.env t).1 (h.env t).2,(h.env t).2⟩⟩
 .have:=(h.young id o h2).1;omega
 .have:=(h.young id o h2).1;omega
 .have:=(h.young id o h2).1;omega
structure bU (T:Nat -> Prop) (a a':Act):Prop where
 defers:a'.defers=a.defers
 slots:∀ t,T t -> a'.tmps.getD t undef=a.tmps.getD t undef
theorem bU.refl {T:Nat -> Prop} (a:Act):bU T a a:=⟨rfl,fun _ _=>rfl⟩
theorem bU.trans {T:Nat -> Prop} {a b c:Act} (h:bU T a b) (k:bU T b c):bU T a c:=⟨k.defers.trans h.defers,fun t ht=>(k.slots t ht).trans (h.slots t ht)⟩
theorem bj (a:Act) (d:Option Nat) (v:Value):(a.put d v).defers=a.defers:=by cases d<;>rfl
theorem iA (st:ak) (d:Option Nat) (av:AV):(st.put d av).tab=st.tab:=by cases d<;>rfl
theorem iE {a:Act} {dst:Option Nat} {v:Value} {t:Nat} (h:dst ≠ some t):(a.put dst v).tmps.getD t undef=a.tmps.getD t undef:=by
 cases dst with
 | none=>rfl
 | some d=>
  have hd:d ≠ t:=fun e=>h (by rw [e]);simp [Act.put,LA,Array.getElem?_setIfInBounds,hd]
theorem bU.put {T:Nat -> Prop} {a b:Act} {dst:Option Nat} {v:Value} (h:bU T a b) (hd:∀ t,T t -> dst ≠ some t):bU T a (b.put dst v):=⟨(bj _ _ _).trans h.defers,fun t ht=>(iE (hd t ht)).trans (h.slots t ht)⟩
theorem dK {o:Oper} {K:Act -> World -> Prop} {Q:Exit -> Act -> World -> Prop} {T:Nat -> Prop} (hd:∀ t,T t -> o.dst ≠ some t) (h:o.wp P a w K Q):o.wp P a w (fun a' w'=>K a' w' /\ ∀ t,T t -> a'.tmps.getD t undef=a.tmps.getD t undef) Q:=by
 unfold Oper.wp Oper.upon at *;generalize (execOp a.eval o).run P w=r at h
 cases r with
 | ok x w1=>
  cases x with
  | value v=>exact ⟨h,fun t ht=>iE (hd t ht)⟩
  | skip=>exact ⟨h,fun t ht=>iE (hd t ht)⟩
  | defer d=>exact ⟨h,fun t ht=>iE (a:={ a with defers:=d :: a.defers }) (hd t ht)⟩
  | enter f args=>
   refine Calls.mono h fun e w2 h2=>?_
   cases e with
   | returned v=>exact ⟨h2,fun t ht=>iE (hd t ht)⟩
   | panicked chain=>exact h2
   | outgrown=>exact h2
  | row row args=>exact Rows.mono h fun v w2 h2=>⟨h2,fun t ht=>iE (hd t ht)⟩
  | _=>exact h.elim
 | halt x w1=>
  cases x<;>first|exact h|exact h.elim
theorem kE {ops:Array Oper} {K:ak -> Prop} {Q:Act -> Prop} {T:Nat -> Prop} {a0:Act} {tab0:aa} (hQ:∀ a st,K st -> aI cx a w st L -> st.tab=tab0 -> bU T a0 a -> Q a):∀ (l:List Oper) (a:Act) (st:ak),(∀ o ∈ l,∀ t,T t -> o.dst ≠ some t) -> st.tab=tab0 -> bU T a0 a -> aI cx a w st L -> iG P ops K l st -> wpQuiet P ops (fun w'=>Below w.heap.size w w') Q l a
 | [],a,st,_,hT,hA,h,hp=>hQ a st hp h hT hA
 | o :: rest,a,st,hd0,hT,hA,h,hp=>by
  have hdo:=hd0 o (LD ..);have hdr:=fun o' (ho:o' ∈ rest)=>hd0 o' (Lz _ ho);unfold iG at hp;refine wpQuiet_step fun K' hK'=>?_;rcases ch h hp o rfl with ⟨hw,st',h1,h2,ht',_⟩|⟨hw,st',h1,h2,ht',_⟩
  .rw [K5 hw]
   have pureCase:∀ op,o.op=op -> bO P st'.tab (a6 st') op (aK st' o.dst (iG P ops K rest)) -> o.quiet P a (fun w'=>Below w.heap.size w w') K':=fun op hop hp'=>by
    subst hop;obtain ⟨v,av,h3,h4,h5,h6,_⟩:=jt h2.lay (fun id o hid=>(h2.young id o hid).2) (aj h2) hp';refine ⟨v,fun w' hw'=>?_,hK' _ (kE hQ rest _ _ hdr (by rw [iA,ht',hT]) (hA.put hdo) (a7 h2 h4 h5 o.dst) h3)⟩;unfold Oper.quietAt;rw [h6 w' hw'];exact ⟨rfl,rfl⟩
   unfold jR at h1;split at h1
   .rename_i c hc;split at h1
    .rename_i f hf;obtain ⟨g,xs,cs,hg,hxn,hxr,⟨v,hd,h3⟩,_⟩:=sO (aj h2 f).1 (aj h2 f).2 h1;refine ⟨v,fun w' hw'=>?_,hK' _ (kE hQ rest _ _ hdr (by rw [iA,ht',hT]) (hA.put hdo) (a7 h2 (.tree (.c v)) trivial o.dst) h3)⟩
     have hrun:(execOp a.eval o).run P w'=.ok (.enter g (c.args.map a.eval ++ xs)) w':=by
      have:=hd.1 (c.args.map a.eval ++ xs) w';simp [execOp,hc,Sem.run_bind,resolve,hf,hg,Deferred.ofValue,invoke,this]
     have hargs:=ol h2 (args:=c.args) hxn hxr;unfold Oper.quietAt;rw [hrun];refine ⟨rfl,(hd.2 (fun b=>b<w'.heap.size) w' (c.args.map a.eval ++ xs) (h2.lay.amb.below hw').all (by simpa using hargs.1) (fun j x av h4 h5=>?_)).mono ?_⟩
     .rw [KV] at h5
      cases hj:(c.args.toList.map (a6 st') ++ cs)[j]? with
      | none=>simp [hj] at h5
      | some y=>
       simp [hj] at h5;subst h5;exact (ya h2.lay (hargs.2 j x y h4 hj)).mono (fun p hp=>hw'.cell hp) (fun b hb=>K1 hb hw'.size)
     .rintro e w'' ⟨v',L2,R,rfl,_,rfl,hl,hr⟩;obtain rfl:=hr.c_inv;exact ⟨rfl,hw'.trans ((hl.below.below fun b hb=>hb).mono hw'.size)⟩
    .exact pureCase _ hc h1
   .rename_i t parts hb;obtain ⟨v,cs,h3,h4,h5,h6⟩:=ka h2 h1;refine ⟨v,fun w' hw'=>?_,hK' _ (kE hQ rest _ _ hdr (by rw [iA,ht',hT]) (hA.put hdo) (a7 h2 h3 h4 o.dst) h6)⟩;have hrun:(execOp a.eval o).run P w'=.ok (.value v) w':=(by simp [execOp,hb,Sem.run_bind,h5 w']);unfold Oper.quietAt;rw [hrun];exact ⟨rfl,rfl⟩
   .exact pureCase _ rfl h1
  .rw [KY (by simp [hw])];exact hK' _ (kE hQ rest _ _ hdr (by rw [iA,ht',hT]) (hA.put hdo) (bQ h2 o.dst) h1)
theorem oj {ops:Array Oper} {K:ak -> Prop} {Q:Act -> Prop} {T:Nat -> Prop} {a0:Act} {tab0:aa} (hQ:∀ a st,K st -> aI cx a w st L -> st.tab=tab0 -> bU T a0 a -> Q a):∀ (l:List Oper) (a:Act) (st:ak),(∀ o ∈ l,∀ t,T t -> o.dst ≠ some t) -> st.tab=tab0 -> bU T a0 a -> aI cx a w st L -> kT P ops K l st -> wpStill P ops w Q l a
 | [],a,st,_,hT,hA,h,hp=>hQ a st hp h hT hA
 | o :: rest,a,st,hd0,hT,hA,h,hp=>by
  have hdo:=hd0 o (LD ..);have hdr:=fun o' (ho:o' ∈ rest)=>hd0 o' (Lz _ ho);unfold kT at hp;refine wpStill_step fun K' hK'=>?_;rcases ch h hp o rfl with ⟨hw,st',h1,h2,ht',_⟩|⟨hw,st',h1,h2,ht',_⟩
  .rw [K5 hw];unfold kT.aPop at h1;obtain ⟨v,av,h3,h4,h5,h6,_⟩:=jt h2.lay (fun id o hid=>(h2.young id o hid).2) (aj h2) h1;unfold Oper.still;rw [h6 w (Below.refl _ _),Oper.stillUpon_value];exact hK' _ (oj hQ rest _ _ hdr (by rw [iA,ht',hT]) (hA.put hdo) (a7 h2 h4 h5 o.dst) h3)
  .rw [KY (by simp [hw])];exact hK' _ (oj hQ rest _ _ hdr (by rw [iA,ht',hT]) (hA.put hdo) (bQ h2 o.dst) h1)
def oU (nx0:Nat) (B:Nat) (G:Nat -> Prop) (tab:aa) (L:Nat -> Value):Prop:=∀ id o g,nx0<=id -> tab.get id=some o -> aH (L id)=some g -> B<=g \/ G g
structure jV (B:Nat) (G:Nat -> Prop) (wr w:World):Prop where
 size:B<=w.heap.size
 block:∀ k,k<B -> ¬ G k -> w.heap[k]? = wr.heap[k]?
theorem jV.step {B:Nat} {G:Nat -> Prop} {wr w w':World} (h:jV B G wr w) (hs:w.heap.size<=w'.heap.size) (hb:∀ k,k<B -> ¬ G k -> w'.heap[k]? = w.heap[k]?):jV B G wr w':=
 ⟨Lf h.size hs,fun k hk hG=>(hb k hk hG).trans (h.block k hk hG)⟩
theorem oT {nx0 B:Nat} {G:Nat -> Prop} {L:Nat -> Value}:∀ (ids:List Nat) {st:ak},oU nx0 B G st.tab L -> oU nx0 B G (el st ids).tab L
 | [],_,h=>h
 | id :: ids,st,h=>oT ids (st:=gx st id) fun k o g h1 h2 h3=>by
  unfold gx at h2;split at h2
  .rw [aa.gc,ct] at h2;split at h2
   .cases h2
   .cases hg:st.tab.get k with
    | none=>simp [hg] at h2
    | some o'=>exact h k o' g h1 hg h3
  .exact h k o g h1 h2 h3
theorem p8:∀ (ids:List Nat) {st:ak} (k:Nat) (o:ar),(el st ids).tab.get k=some o -> ∃ o',st.tab.get k=some o'
 | [],_,_,o,h=>⟨o,h⟩
 | id :: ids,st,k,o,h=>by
  obtain ⟨o1,h⟩:=p8 ids (st:=gx st id) k o h;unfold gx at h;split at h
  .rw [aa.gc,ct] at h;split at h
   .cases h
   .cases hg:st.tab.get k with
    | none=>simp [hg] at h
    | some o'=>exact ⟨o',rfl⟩
  .exact ⟨o1,h⟩
theorem fN {o:Oper} {K:ak -> Prop} {Q:Exit -> Act -> World -> Prop} {B nx0:Nat} {ids:List Nat} {G:Nat -> Prop} {wr:World} (h:aI cx a w st L) (hS:jV B G wr w) (hy:oU nx0 B G st.tab L) (hG:∀ id ∈ ids,∀ g,aH (L id)=some g -> G g) (hnx:∀ id ∈ ids,id<st.next) (hp:fS P nx0 ids o K st) :
  o.wp P a w (fun a' w'=>∃ st' L',K st' /\ aI cx a' w' st' L' /\ a'.defers=a.defers /\ jV B G wr w' /\ oU nx0 B G st'.tab L' /\ (∀ id,id<st.next -> L' id=L id) /\ st.next<=st'.next /\ ∀ id o,id<st.next -> st'.tab.get id=some o -> ∃ o',st.tab.get id=some o') Q:=by
 have hB:=hS.size;have etab:∀ (st:ak) d av,(st.put d av).tab=st.tab:=fun st d av=>by cases d<;>rfl
 have enext:∀ (st:ak) d av,(st.put d av).next=st.next:=fun st d av=>by cases d<;>rfl
 obtain ⟨dst,op,ty,pos,aft,gd⟩:=o;unfold fS at hp;simp only at hp;split at hp
 .rename_i x;have he:=aj h x;refine aL (by simp [execOp]) ⟨_,L,hp,a7 h he.1 he.2 dst,bj _ _ _,hS,by rw [etab];exact hy,fun _ _=>rfl,by rw [enext];exact KW _,fun id o _ hg=>⟨o,by rw [etab] at hg;exact hg⟩⟩
 .rename_i t x;obtain ⟨v,av,h1,h2,h3,h4,_⟩:=jt (o:=⟨dst,.load t x,ty,pos,aft,gd⟩) h.lay (fun id o hid=>(h.young id o hid).2) (aj h) hp;exact aL (h4 w (Below.refl _ _)) ⟨_,L,h1,a7 h h2 h3 dst,bj _ _ _,hS,by rw [etab];exact hy,fun _ _=>rfl,by rw [enext];exact KW _,fun id o _ hg=>⟨o,by rw [etab] at hg;exact hg⟩⟩
 .rename_i t m k ok;obtain ⟨r,av,h1,h2,h3,h4⟩:=nk (nx:=st.next) h.lay (aj h m).1 (aj h k).1 hp;exact aL (by simp [execOp,Sem.run_bind,h4]) ⟨_,L,h1,a7 h h2 h3 dst,bj _ _ _,hS,by rw [etab];exact hy,fun _ _=>rfl,by rw [enext];exact KW _,fun id o _ hg=>⟨o,by rw [etab] at hg;exact hg⟩⟩
 .rename_i t m k v;split at hp
  .rename_i id hme;obtain ⟨hid,hp⟩:=hp;have hmv:=(aj h m).1;rw [hme] at hmv;obtain ⟨w',st',h1,h2,h3,h4,id',ents,ents',hidd,h5,rfl,h6⟩:=m6 h hmv (aj h k).1 (aj h v).1 dst hp;cases hidd
   have hmay:∀ k,k<B -> ¬ G k -> aH (L id)=some k -> False:=fun k hk hGk e=>by
    rcases hid with hid|hge
    .exact hGk (hG id hid k e)
    .rcases hy id _ k hge h5 e with h9 | h9
     .omega
     .exact hGk h9
   refine dt (by simp [execOp,Sem.run_bind,h1]) ⟨_,L,h2,h3,bj _ _ _,hS.step (by omega) (fun k hk hGk=>h6 k fun e=>hmay k hk hGk e),?_,fun _ _=>rfl,by rw [enext];exact KW _,fun k o' _ hg=>by
    rw [etab,aa.gc] at hg;split at hg
    .rename_i e;exact ⟨_,by rw [e];exact h5⟩
    .exact ⟨o',hg⟩⟩
   rw [etab];intro k ob g h9 h10 h11;rw [aa.gc] at h10;split at h10
   .rename_i e;exact hy k (.map ents) g h9 (by rw [e];exact h5) h11
   .exact hy k ob g h9 h10 h11
  .exact hp.elim
 .rename_i t p x;split at hp
  .rename_i id i j hpe;obtain ⟨hid,hp⟩:=hp
   have hmay:∀ k,k<B -> ¬ G k -> aH (L id)=some k -> False:=fun k hk hGk e=>by
    rcases hid with hid|hge
    .exact hGk (hG id hid k e)
    .have hn:∃ o,st.tab.get id=some o:=by
      unfold mr at hp;split at hp<;>first|exact ⟨_,by assumption⟩|exact hp.elim
     obtain ⟨o,ho⟩:=hn;rcases hy id o k hge ho e with h9|h9
     .omega
     .exact hGk h9
   unfold mr at hp;split at hp
   .rename_i ty cells hget;obtain ⟨rfl,h0,h1,h2,h3,h4⟩:=hp;have hpv:=(aj h p).1;rw [hpe] at hpv;have hx:=aj h x;obtain ⟨w',h5,h6,h7,h8⟩:=jg h hpv hget hx.1 hx.2 h0 h1 h2 h3 dst
    refine dt (by simp [execOp,Sem.run_bind,h5]) ⟨_,L,h4,h6,bj _ _ _,hS.step (by omega) (fun k hk hGk=>h8 k fun e=>hmay k hk hGk e),?_,fun _ _=>rfl,by rw [enext];exact KW _,fun k o' _ hg=>by
     rw [etab,aa.gc] at hg;split at hg
     .rename_i e;exact ⟨_,by rw [e];exact hget⟩
     .exact ⟨o',hg⟩⟩
    rw [etab];intro k ob g h9 h10 h11;rw [aa.gc] at h10;split at h10
    .rename_i e;exact hy k (.box ty cells) g h9 (by rw [e];exact hget) h11
    .exact hy k ob g h9 h10 h11
   .rename_i e sz rows hget;obtain ⟨h0,h1,h2,h3,h3',h3'',h4⟩:=hp;have hpv:=(aj h p).1;rw [hpe] at hpv;have hx:=aj h x;obtain ⟨w',h5,h6,h7,h8⟩:=je h hpv hget hx.1 hx.2 h0 h1 h2 h3 h3' h3'' dst
    refine dt (by simp [execOp,Sem.run_bind,h5]) ⟨_,L,h4,h6,bj _ _ _,hS.step (by omega) (fun k hk hGk=>h8 k fun e=>hmay k hk hGk e),?_,fun _ _=>rfl,by rw [enext];exact KW _,fun k o' _ hg=>by
     rw [etab,aa.gc] at hg;split at hg
     .rename_i e';exact ⟨_,by rw [e'];exact hget⟩
     .exact ⟨o',hg⟩⟩
    rw [etab];intro k ob g h9 h10 h11;rw [aa.gc] at h10;split at h10
    .rename_i e';exact hy k (.row e sz rows) g h9 (by rw [e'];exact hget) h11
    .exact hy k ob g h9 h10 h11
   .rename_i e sz rows hget;obtain ⟨h0,h1,h2,h3,h3',h4⟩:=hp;have hpv:=(aj h p).1;rw [hpe] at hpv;have hx:=aj h x;obtain ⟨w',h5,h6,h7,h8⟩:=iq h hpv hget hx.1 hx.2 h0 h1 h2 h3 h3' dst
    refine dt (by simp [execOp,Sem.run_bind,h5]) ⟨_,L,h4,h6,bj _ _ _,hS.step (by omega) (fun k hk hGk=>h8 k fun e=>hmay k hk hGk e),?_,fun _ _=>rfl,by rw [enext];exact KW _,fun k o' _ hg=>by
     rw [etab,aa.gc] at hg;split at hg
     .rename_i e';exact ⟨_,by rw [e'];exact hget⟩
     .exact ⟨o',hg⟩⟩
    rw [etab];intro k ob g h9 h10 h11;rw [aa.gc] at h10;split at h10
    .rename_i e';exact hy k (.nest e sz rows) g h9 (by rw [e'];exact hget) h11
    .exact hy k ob g h9 h10 h11
   .exact hp.elim
  .exact hp.elim
 .rename_i t;split at hp
  .rename_i z hz;obtain ⟨h1,h2⟩:=hp;obtain ⟨h3,h4⟩:=nr (P:=P) (t:=t) (av:=.c z) h (.tree (.c z)) trivial h1 dst;have hbw:Below w.heap.size w (w.alloc (.cells z.cells t)):=(Below.refl _ _).alloc (KW _) _;refine aL (by simp [execOp,Sem.run_bind,nc hz,h3]) ⟨_,_,h2,h4,bj _ _ _,hS.step hbw.size (fun k hk _=>hbw.block k (K1 hk hB)),?_,fun id hid=>?_,?_,fun k o' hk hg=>?_⟩
   .rw [etab];intro id ob g h5 h6 h7;rw [aa.gc] at h6;unfold bb at h7;split at h6
    .rename_i e;rw [K5 e] at h7;simp [aH] at h7;left;omega
    .rename_i e;rw [KY e] at h7;exact hy id ob g h5 h6 h7
   .unfold bb;rw [KY (by omega)]
   .rw [enext];exact Lw _
   .rw [etab,aa.gc,KY (by omega)] at hg;exact ⟨o',hg⟩
  .exact hp.elim
 .rename_i t x;obtain ⟨h1,h2⟩:=hp;have he:=aj h x;obtain ⟨h3,h4⟩:=nr (P:=P) (t:=t) h he.1 he.2 h1 dst;have hbw:Below w.heap.size w (w.alloc (.cells (a.eval x).cells t)):=(Below.refl _ _).alloc (KW _) _;refine aL (by simp [execOp,Sem.run_bind,h3]) ⟨_,_,h2,h4,bj _ _ _,hS.step hbw.size (fun k hk _=>hbw.block k (K1 hk hB)),?_,fun id hid=>?_,?_,fun k o' hk hg=>?_⟩
  .rw [etab];intro id ob g h5 h6 h7;rw [aa.gc] at h6;unfold bb at h7;split at h6
   .rename_i e;rw [K5 e] at h7;simp [aH] at h7;left;omega
   .rename_i e;rw [KY e] at h7;exact hy id ob g h5 h6 h7
  .unfold bb;rw [KY (by omega)]
  .rw [enext];exact Lw _
  .rw [etab,aa.gc,KY (by omega)] at hg;exact ⟨o',hg⟩
 .rename_i t n parts;unfold db at hp;have hy':oU nx0 B G (el st (fM (parts.toList.flatMap fun (p:Nat × Operand)=>al (a6 st p.2)))).tab L:=oT _ hy
  replace h:=eW (fM (parts.toList.flatMap fun (p:Nat × Operand)=>al (a6 st p.2))) h
  clear hy;have hy:=hy';have hnext:(el st (fM (parts.toList.flatMap fun (p:Nat × Operand)=>al (a6 st p.2)))).next=st.next:=nt _ _;unfold fr at hp;split at hp
  .rename_i e sz by_ ht;split at hp
   .obtain ⟨⟨h1,rfl,h3,h5⟩,h6⟩:=hp;obtain ⟨v',w',L',h7,h8,hb,rfl,hv⟩:=io h ht h1 h3 h5 dst;refine aL ?_ ⟨_,_,h6,h8,bj _ _ _,hS.step hb.size (fun k hk _=>hb.block k (K1 hk hB)),?_,fun id hid=>?_,?_,fun k o' hk hg=>?_⟩
    .simp only [Mx] at h7;simp [execOp,Sem.run_bind];simp at h7;simp [h7]
    .rw [etab];intro id ob g h1 h2 h3;rw [aa.gc] at h2;unfold bb at h3;split at h2
     .rename_i e;rw [K5 e,hv] at h3;cases h3;exact .inl hB
     .rename_i e;rw [KY e] at h3;exact hy id ob g h1 h2 h3
    .unfold bb;rw [KY (by omega)]
    .rw [enext];show st.next<=(el st _).next+1;omega
    .rw [etab] at hg;simp only [aa.gc] at hg;rw [KY (by omega)] at hg;exact p8 _ k o' hg
   .obtain ⟨⟨h1,rfl,h3,h5⟩,h6⟩:=hp;obtain ⟨v',w',L',h7,h8,hb,rfl,hv⟩:=mO h ht h1 h3 h5 dst;refine aL ?_ ⟨_,_,h6,h8,bj _ _ _,hS.step hb.size (fun k hk _=>hb.block k (K1 hk hB)),?_,fun id hid=>?_,?_,fun k o' hk hg=>?_⟩
    .simp only [Mx] at h7;simp [execOp,Sem.run_bind];simp at h7;simp [h7]
    .rw [etab];intro id ob g h1 h2 h3;rw [aa.gc] at h2;unfold bb at h3;split at h2
     .rename_i e;rw [K5 e,hv] at h3;cases h3;exact .inl hB
     .rename_i e;rw [KY e] at h3;exact hy id ob g h1 h2 h3
    .unfold bb;rw [KY (by omega)]
    .rw [enext];show st.next<=(el st _).next+1;omega
    .rw [etab] at hg;simp only [aa.gc] at hg;rw [KY (by omega)] at hg;exact p8 _ k o' hg
  .exact hp.elim
 .rename_i t l c;unfold nQ at hp;split at hp
  .rename_i e sz by_ k1 n k2 m ht hl hc;split at hp
   .rename_i z hz;obtain ⟨⟨rfl,h1,h2,h3,h4⟩,h5⟩:=hp;have hl':=(aj h l).1;have hc':=(aj h c).1;rw [hl] at hl';rw [hc] at hc';obtain ⟨v',w',L',h6,h7,hb,rfl,hv⟩:=sm (k1:=k1) (k2:=k2) h ht hz h1 h2 h3 h4 dst;refine aL (by simp [execOp,Sem.run_bind,hl'.c_inv,hc'.c_inv,h6]) ⟨_,_,h5,h7,bj _ _ _,hS.step hb.size (fun k hk _=>hb.block k (K1 hk hB)),?_,fun id hid=>?_,?_,fun k o' hk hg=>?_⟩
    .rw [etab];intro id ob g h1 h2 h3;rw [aa.gc] at h2;unfold bb at h3;split at h2
     .rename_i e;rw [K5 e,hv] at h3;cases h3;exact .inl hB
     .rename_i e;rw [KY e] at h3;exact hy id ob g h1 h2 h3
    .unfold bb;rw [KY (by omega)]
    .rw [enext];exact Lw _
    .rw [etab,aa.gc,KY (by omega)] at hg;exact ⟨o',hg⟩
   .exact hp.elim
  .exact hp.elim
 .rename_i c;obtain ⟨callee,args,argTypes⟩:=c;simp only at hp;split at hp
  .split at hp
   .rename_i x y t t' h1 h2;obtain rfl:args = #[x,y]:=by cases args;simp_all
    obtain rfl:argTypes = #[t,t']:=by cases argTypes;simp_all
    obtain ⟨⟨rfl,hfr⟩,hp⟩:=hp;unfold gX at hp;split at hp
    .rename_i hnn;obtain ⟨e1,e2⟩:=k9 hnn;have hx1:=(aj h x).1;have hy1:=(aj h y).1;rw [e1] at hx1;rw [e2] at hy1;have hx2:=hx1.c_inv;have hy2:=hy1.c_inv;have hr:=gR (ty:=ty) (w:=w) hp.1;exact aL (by simp [execOp,Sem.run_bind,resolve,invoke,builtin,hx2,hy2,hr]) ⟨_,L,hp.2,a7 h (.tree (.c _)) trivial dst,bj _ _ _,hS,by rw [etab];exact hy,fun _ _=>rfl,by rw [enext];exact KW _,fun id o _ hg=>⟨o,by rw [etab] at hg;exact hg⟩⟩
    unfold iB at hp;split at hp
    .rename_i e sz by_ ht;split at hp
     .rename_i oid rows rows2 hx hy2;obtain ⟨⟨h3,h4⟩,h5⟩:=hp;obtain ⟨v',w',L',h6,h7,hg,rfl,hv,hown⟩:=mM (ty:=ty) h (aj h x).1 (aj h y).1 ht hx hy2 (by simpa [maxLen] using h3) h4 dst
      have hoid:∀ id,oid=some id -> iP nx0 ids id /\ ∃ o,st.tab.get id=some o:=fun id hid=>by
       subst hid;unfold mE at hx;split at hx
       .rename_i id' hid';rw [hid'] at hfr;split at hx
        .rename_i e' sz' rows' hget;split at hx
         .cases hx;exact ⟨hfr,_,hget⟩
         .cases hx
        .cases hx
       .cases hx
       .cases hx
      have hown2:∀ g,(a.eval x).ownBlock=some g -> B<=g \/ G g:=fun g hg'=>by
       obtain ⟨id,hid,hbl⟩:=hown g hg';obtain ⟨h8,o,h9⟩:=hoid id hid;rcases h8 with h8|h8
       .exact .inr (hG id h8 g hbl)
       .exact hy id o g h8 h9 hbl
      refine aL (by simp [execOp,Sem.run_bind,resolve,invoke,builtin,h6]) ⟨_,_,h5,h7,bj _ _ _,hS.step hg.size (fun k hk hnk=>hg.block k (K1 hk hB) fun e=>by rcases hown2 k e.symm with h9 | h9;omega;exact hnk h9),?_,fun id hid=>by unfold bb;rw [KY (by omega)],by rw [enext];exact Lw _,fun k o' hk hg=>by
       rw [etab] at hg;simp only [br] at hg;rw [KY (by omega)] at hg;split at hg
       .cases hg
       .exact ⟨o',hg⟩⟩
      rw [etab];intro id ob g h8 h9 h10;rw [br] at h9;unfold bb at h10;split at h9
      .rename_i e1;rw [K5 e1] at h10;rcases hv with hv|hv
       .exact hown2 g (by rw [<- hv];exact h10)
       .rw [hv] at h10;cases h10;exact .inl hB
      .rename_i e1;rw [KY e1] at h10;split at h9
       .cases h9
       .exact hy id ob g h8 h9 h10
     .split at hp
      .rename_i oid rows rows2 hx hy2;obtain ⟨⟨h3,h4⟩,h5⟩:=hp;obtain ⟨v',w',L',h6,h7,hg,rfl,hv,hown⟩:=ly (ty:=ty) h (aj h x).1 (aj h y).1 ht hx hy2 (by simpa [maxLen] using h3) h4 dst
       have hoid:∀ id,oid=some id -> iP nx0 ids id /\ ∃ o,st.tab.get id=some o:=fun id hid=>by
        subst hid;unfold kh at hx;split at hx
        .rename_i id' hid';rw [hid'] at hfr;split at hx
         .rename_i e' sz' rows' hget;split at hx
          .cases hx;exact ⟨hfr,_,hget⟩
          .cases hx
         .cases hx
        .cases hx
        .cases hx
       have hown2:∀ g,(a.eval x).ownBlock=some g -> B<=g \/ G g:=fun g hg'=>by
        obtain ⟨id,hid,hbl⟩:=hown g hg';obtain ⟨h8,o,h9⟩:=hoid id hid;rcases h8 with h8|h8
        .exact .inr (hG id h8 g hbl)
        .exact hy id o g h8 h9 hbl
       refine aL (by simp [execOp,Sem.run_bind,resolve,invoke,builtin,h6]) ⟨_,_,h5,h7,bj _ _ _,hS.step hg.size (fun k hk hnk=>hg.block k (K1 hk hB) fun e=>by rcases hown2 k e.symm with h9 | h9;omega;exact hnk h9),?_,fun id hid=>by unfold bb;rw [KY (by omega)],by rw [enext];exact Lw _,fun k o' hk hg=>by
        rw [etab] at hg;simp only [br] at hg;rw [KY (by omega)] at hg;split at hg
        .cases hg
        .exact ⟨o',hg⟩⟩
       rw [etab];intro id ob g h8 h9 h10;rw [br] at h9;unfold bb at h10;split at h9
       .rename_i e1;rw [K5 e1] at h10;rcases hv with hv|hv
        .exact hown2 g (by rw [<- hv];exact h10)
        .rw [hv] at h10;cases h10;exact .inl hB
       .rename_i e1;rw [KY e1] at h10;split at h9
        .cases h9
        .exact hy id ob g h8 h9 h10
      .exact hp.elim
    .exact hp.elim
   .exact hp.elim
  .rename_i f;obtain ⟨g,xs,cs,hg,hxn,hxr,hp,hcs⟩:=sO (aj h f).1 (aj h f).2 hp;have hargs:=ol h (args:=args) hxn hxr;by_cases hmeth:vn (some (nx0,ids)) P st g (args.toList.map (a6 st) ++ cs) (rQ dst K)
   .obtain ⟨hent,ids0,hmay,hc⟩:=sF h hargs.1 hargs.2 hmeth dst
    have hrun:(execOp a.eval { dst:=dst,op:=.call { callee:=.value f,args:=args,argTypes:=argTypes },type:=ty,pos:=pos,after:=aft,guard:=gd }).run P w=.ok (.enter g (args.map a.eval ++ xs)) w:=by
     have:=hent (args.map a.eval ++ xs) w;simp [execOp,Sem.run_bind,resolve,hg,Deferred.ofValue,invoke,this]
    unfold Oper.wp;rw [hrun];show Calls P g (args.map a.eval ++ xs) w _;refine hc.mono ?_;rintro e w' ⟨v,av,st',L',rfl,h1,h2,h3,h4,h5,h6,h7⟩
    have hblk:∀ id ∈ ids0,∀ o k,st.tab.get id=some o -> aH (L id)=some k -> B<=k \/ G k:=fun id hid o k h8 h9=>by
     rcases hmay _ rfl id hid with h10|h10
     .exact .inr (hG id h10 k h9)
     .exact hy id o k h10 h8 h9
    refine ⟨_,L',h1,h2,bj _ _ _,hS.step h3.size (fun k hk hGk=>h6 k (K1 hk hB) fun id hid o ho e=>?_),?_,h4,by rw [enext];exact h3.next,fun id o hid ho=>h5 id o hid (by rw [etab] at ho;exact ho)⟩
    .rcases hblk id hid o k ho e with h8 | h8
     .omega
     .exact hGk h8
    .rw [etab];intro id ob g' h8 h9 h10;rcases Ld id st.next with hlt|hge
     .obtain ⟨o',h11⟩:=h5 id ob hlt h9;rw [h4 id hlt] at h10;exact hy id o' g' h8 h11 h10
     .rcases h7 id ob g' hge h9 h10 with h11 | ⟨id',h11,⟨o',h12⟩,h13⟩
      .exact .inl (Lf hB h11)
      .exact hblk id' h11 o' g' h12 h13
   replace hp:na P st g (args.toList.map (a6 st) ++ cs) (rQ dst K):=by
    rcases hp with hp|hp|hp
    .exact hp
    .cases hp.1
    .exact absurd hp hmeth
   have hent:eL P g:=by
    rcases hp with ⟨R,hd,_⟩|⟨hd,_⟩
    .exact hd.1
    .exact hd
   have hrun:(execOp a.eval { dst:=dst,op:=.call { callee:=.value f,args:=args,argTypes:=argTypes },type:=ty,pos:=pos,after:=aft,guard:=gd }).run P w=.ok (.enter g (args.map a.eval ++ xs)) w:=by
    have:=hent (args.map a.eval ++ xs) w;simp [execOp,Sem.run_bind,resolve,hg,Deferred.ofValue,invoke,this]
   unfold Oper.wp;rw [hrun];show Calls P g (args.map a.eval ++ xs) w _;have hargs:=ol h (args:=args) hxn hxr;refine (mu h hargs.1 hargs.2 hp dst).mono ?_
   .rintro e w' ⟨v,av,st',L',rfl,h1,h2,hb,hold,hnew,hnx'⟩;refine ⟨_,_,h1,h2,bj _ _ _,hS.step hb.size (fun k hk _=>hb.block k (K1 hk hB)),?_,fun id hid=>(hold id hid).2,by rw [enext];exact hnx',fun k o' hk hg=>⟨o',by rw [etab,(hold k hk).1] at hg;exact hg⟩⟩;rw [etab];intro id ob g h8 h9 h10;rcases Ld id st.next with hlt|hge
    .rw [(hold id hlt).1] at h9;rw [(hold id hlt).2] at h10;exact hy id ob g h8 h9 h10
    .exact .inl (Lf hB (hnew id ob g hge h9 h10))
  .exact hp.elim
 .exact hp.elim
def kq (Q:Exit -> Act -> World -> Prop):Exit -> Act -> World -> Prop
 | .panic _,_,_=>False
 | e,a,w=>Q e a w
structure g9 (nx0 B:Nat) (ids:List Nat) (G:Nat -> Prop) (T0:aa) (L0:Nat -> Value) (st:ak) (L:Nat -> Value):Prop where
 loc:∀ id,id<nx0 -> L id=L0 id
 le:nx0<=st.next
 old:∀ id o,id<nx0 -> st.tab.get id=some o -> ∃ o',T0.get id=some o'
 far:∀ id o g,id<nx0 -> id ∉ ids -> T0.get id=some o -> aH (L id)=some g -> g<B /\ ¬ G g
theorem g9.same {nx0 B:Nat} {ids:List Nat} {G:Nat -> Prop} {T0:aa} {L0:Nat -> Value} {st st':ak} {L:Nat -> Value} (h:g9 nx0 B ids G T0 L0 st L) (ht:st'.tab=st.tab) (hn:st'.next=st.next):g9 nx0 B ids G T0 L0 st' L:=
 ⟨h.loc,by rw [hn];exact h.le,by rw [ht];exact h.old,h.far⟩
theorem g9.step {nx0 B:Nat} {ids:List Nat} {G:Nat -> Prop} {T0:aa} {L0:Nat -> Value} {st st':ak} {L L':Nat -> Value} (h:g9 nx0 B ids G T0 L0 st L) (h1:∀ id,id<st.next -> L' id=L id) (h2:st.next<=st'.next) (h3:∀ id o,id<st.next -> st'.tab.get id=some o -> ∃ o',st.tab.get id=some o'):g9 nx0 B ids G T0 L0 st' L':=
 ⟨fun id hi=>(h1 id (K1 hi h.le)).trans (h.loc id hi),Lf h.le h2,fun id o hi hg=>(h3 id o (K1 hi h.le) hg).elim fun o' hg'=>h.old id o' hi hg',fun id o g hi hn hT hg=>h.far id o g hi hn hT (by rw [<- h1 id (K1 hi h.le)];exact hg)⟩
theorem bE {ops:Array Oper} {K:ak -> Prop} {T0:aa} {nx0 B:Nat} {ids:List Nat} {G:Nat -> Prop} {wr:World} {Q:Exit -> Act -> World -> Prop} (hsel:Region.noSelect ops=true) {T:Nat -> Prop} {a0:Act} {L0:Nat -> Value} (hT:∀ (i:Nat) (o:Oper),ops[i]? = some o -> ∀ t,T t -> o.dst ≠ some t) (hQ:∀ a w st L,K st -> aI cx a w st L -> jV B G wr w -> oU nx0 B G st.tab L -> g9 nx0 B ids G T0 L0 st L -> bU T a0 a -> Q .normal a w):∀ (s:kZ) (listed:Array Bool) (a:Act) (w:World) (st:ak) (L:Nat -> Value),
  aI cx a w st L -> jV B G wr w -> oU nx0 B G st.tab L -> (∀ id ∈ ids,∀ g,aH (L id)=some g -> G g) -> (∀ id ∈ ids,id<st.next) -> g9 nx0 B ids G T0 L0 st L -> bU T a0 a -> cU ops s listed=true -> cq P ops nx0 ids K s st -> ∀ fuel,s.len<=fuel -> wpAnyH P .any ops (kq Q) (fun w'=>jV B G wr w') fuel listed a w
 | .done,listed,a,w,st,L,h,hS,hy,_,_,hE,hA,hB,hp,fuel,_=>wpAnyH_done (Q:=kq Q) (by simpa [cU] using hB) (hQ a w st L hp h hS hy hE hA) fuel
 | .take i s,listed,a,w,st,L,h,hS,hy,hG,hnx,hE,hA,hB,hp,fuel,hf=>by
  simp only [cU,Li] at hB;unfold cq po at hp;have etab:∀ (st:ak) d av,(st.put d av).tab=st.tab:=fun st d av=>by cases d<;>rfl
  have enext:∀ (st:ak) d av,(st.put d av).next=st.next:=fun st d av=>by cases d<;>rfl
  split at hp
  .rename_i o ho;obtain ⟨fuel',rfl⟩:∃ f,fuel=f+1:=⟨fuel - 1,by simp [kZ.len] at hf;omega⟩;rcases ch h hp o rfl with ⟨hw,st',⟨hl,h0⟩,h2',ht',hn'⟩|⟨hw,st',h0,h2',ht',hn'⟩
   .by_cases hbld:∃ t parts,o.op=.build t parts
    .obtain ⟨t,parts,hop⟩:=hbld;rw [hop] at h0;obtain ⟨v,cs,h3,h4,h5,h6⟩:=ka h2' h0;refine wpAnyH_take (v:=v) ho hsel hB.1.1 hB.1.2 (fun _ _ _ h=>h) (.inl ⟨hw,fun w' _=>by simp [execOp,hop,Sem.run_bind,h5 w']⟩) hS ?_;exact bE hsel hT hQ s _ _ w _ L (a7 h2' h3 h4 o.dst) hS (by rw [etab,ht'];exact hy) hG (fun id hid=>by rw [enext,hn'];exact hnx id hid) (hE.same (by rw [etab,ht']) (by rw [enext,hn'])) (hA.put (hT _ _ ho)) hB.2 h6 fuel' (by simp [kZ.len] at hf;omega)
    replace h0:bO P st'.tab (a6 st') o.op (aK st' o.dst (cq P ops nx0 ids K s)):=by
     unfold cV at h0;split at h0
     .rename_i t parts hop;exact absurd ⟨t,parts,hop⟩ hbld
     .exact h0
    obtain ⟨v,av,h1,h2,h3,_,h5,h6⟩:=jt h2'.lay (fun id o hid=>(h2'.young id o hid).2) (aj h2') h0
    have hrd:∀ w',jV B G wr w' -> (execOp a.eval o).run P w'=.ok (.value v) w':=fun w' hw'=>by
     cases hld:gG o.op with
     | false=>exact h5 hld w'
     | true=>
      obtain ⟨t,x,hop⟩:∃ t x,o.op=.load t x:=by
       cases hop:o.op<;>simp [hop,gG] at hld;exact ⟨_,_,rfl⟩
      obtain ⟨b,hb,hr⟩:=h6 t x hop;rw [hop] at hl;have hev:=(aj h2' x).1;unfold m7 sd at hl;simp only at hl;split at hl
      .rename_i id i j he;obtain ⟨hl1,hl2,hl3⟩:=hl;split at hl3
       .rename_i o' hg;rw [he] at hev;obtain ⟨g,hg1,hg2⟩:=hev.op_inv _ _ (bI hg);rw [hg2] at hb;simp [aH] at hb;subst hb;obtain ⟨o2,hT⟩:=hE.old id o' hl1 (by rw [<- ht'];exact hg);obtain ⟨h7,h8⟩:=hE.far id o2 g hl1 hl2 hT hg1;exact hr w' fun o' u hu=>(World.cell?_of_block ((hw'.block g h7 h8).trans (hS.block g h7 h8).symm)).trans hu
       .exact hl3.elim
      .exact hl.elim
    refine wpAnyH_take ho hsel hB.1.1 hB.1.2 (fun _ _ _ h=>h) (.inl ⟨hw,hrd⟩) hS ?_;exact bE hsel hT hQ s _ _ w _ L (a7 h2' h2 h3 o.dst) hS (by rw [etab,ht'];exact hy) hG (fun id hid=>by rw [enext,hn'];exact hnx id hid) (hE.same (by rw [etab,ht']) (by rw [enext,hn'])) (hA.put (hT _ _ ho)) hB.2 h1 fuel' (by simp [kZ.len] at hf;omega)
   .refine wpAnyH_take (v:=undef) ho hsel hB.1.1 hB.1.2 (fun _ _ _ h=>h) (.inr ⟨hw,rfl⟩) hS ?_;exact bE hsel hT hQ s _ _ w _ L (bQ h2' o.dst) hS (by rw [etab,ht'];exact hy) hG (fun id hid=>by rw [enext,hn'];exact hnx id hid) (hE.same (by rw [etab,ht']) (by rw [enext,hn'])) (hA.put (hT _ _ ho)) hB.2 h0 fuel' (by simp [kZ.len] at hf;omega)
  .exact hp.elim
 | .exec i s,listed,a,w,st,L,h,hS,hy,hG,hnx,hE,hA,hB,hp,fuel,hf=>by
  simp only [cU,Li,Lp] at hB;unfold cq cB at hp;have etab:∀ (st:ak) d av,(st.put d av).tab=st.tab:=fun st d av=>by cases d<;>rfl
  have enext:∀ (st:ak) d av,(st.put d av).next=st.next:=fun st d av=>by cases d<;>rfl
  split at hp
  .rename_i o ho;obtain ⟨fuel',rfl⟩:∃ f,fuel=f+1:=⟨fuel - 1,by simp [kZ.len] at hf;omega⟩;refine wpAnyH_all hB.1 (by simp) fun j hj=>?_;obtain rfl:j=i:=by simpa using hj
   unfold wpOp;rw [ho];rcases ch h hp o rfl with ⟨hw,st1,h0,h2',ht',hn'⟩|⟨hw,st1,h0,h2',ht',hn'⟩
   .simp only [hw,if_true];refine .inl (Oper.wp_mono (fun a' w' ⟨⟨st',L',h1,h2,h8,h3,h4,h5,h6,h7⟩,h9⟩=>⟨h3,?_⟩) (dK (hT _ _ ho) (fN h2' hS (by rw [ht'];exact hy) hG (fun id hid=>by rw [hn'];exact hnx id hid) h0)));rw [hn'] at h5 h6 h7;exact bE hsel hT hQ s _ a' w' st' L' h2 h3 h4 (fun id hid g hg'=>hG id hid g (by rw [<- h5 id (hnx id hid)];exact hg')) (fun id hid=>K1 (hnx id hid) h6) (hE.step h5 h6 (by rw [ht'] at h7;exact h7)) (hA.trans ⟨h8,h9⟩) hB.2 h1 fuel' (by simp [kZ.len] at hf;omega)
   .simp only [hw,LH,if_false];refine ⟨hS,bE hsel hT hQ s _ _ w _ L (bQ h2' o.dst) hS (by rw [etab,ht'];exact hy) hG (fun id hid=>by rw [enext,hn'];exact hnx id hid) (hE.same (by rw [etab,ht']) (by rw [enext,hn'])) (hA.put (hT _ _ ho)) hB.2 h0 fuel' (by simp [kZ.len] at hf;omega)⟩
  .exact hp.elim
 | .two i s k t,listed,a,w,st,L,h,hS,hy,hG,hnx,hE,hA,hB,hp,fuel,hf=>by
  simp only [cU,Li,Lp] at hB;unfold cq at hp;obtain ⟨hp,hp2⟩:=hp;unfold cB at hp hp2;have etab:∀ (st:ak) d av,(st.put d av).tab=st.tab:=fun st d av=>by cases d<;>rfl
  have enext:∀ (st:ak) d av,(st.put d av).next=st.next:=fun st d av=>by cases d<;>rfl
  have hf1:s.len+1<=fuel:=Lf (Mo (MX s.len t.len)) hf;have hf2:t.len+1<=fuel:=Lf (Mo (Me s.len t.len)) hf;obtain ⟨fuel',rfl⟩:∃ f,fuel=f+1:=⟨fuel - 1,by omega⟩;refine wpAnyH_all hB.1.1 (by simp) fun j hj=>?_;have hj:j=i \/ j=k:=by simpa using hj
  rcases hj with rfl|rfl
  .split at hp
   .rename_i o ho;unfold wpOp;rw [ho];rcases ch h hp o rfl with ⟨hw,st1,h0,h2',ht',hn'⟩|⟨hw,st1,h0,h2',ht',hn'⟩
    .simp only [hw,if_true];refine .inl (Oper.wp_mono (fun a' w' ⟨⟨st',L',h1,h2,h8,h3,h4,h5,h6,h7⟩,h9⟩=>⟨h3,?_⟩) (dK (hT _ _ ho) (fN h2' hS (by rw [ht'];exact hy) hG (fun id hid=>by rw [hn'];exact hnx id hid) h0)));rw [hn'] at h5 h6 h7;exact bE hsel hT hQ s _ a' w' st' L' h2 h3 h4 (fun id hid g hg'=>hG id hid g (by rw [<- h5 id (hnx id hid)];exact hg')) (fun id hid=>K1 (hnx id hid) h6) (hE.step h5 h6 (by rw [ht'] at h7;exact h7)) (hA.trans ⟨h8,h9⟩) hB.1.2 h1 fuel' (by omega)
    .simp only [hw,LH,if_false];refine ⟨hS,bE hsel hT hQ s _ _ w _ L (bQ h2' o.dst) hS (by rw [etab,ht'];exact hy) hG (fun id hid=>by rw [enext,hn'];exact hnx id hid) (hE.same (by rw [etab,ht']) (by rw [enext,hn'])) (hA.put (hT _ _ ho)) hB.1.2 h0 fuel' (by omega)⟩
   .exact hp.elim
  .split at hp2
   .rename_i o ho;unfold wpOp;rw [ho];rcases ch h hp2 o rfl with ⟨hw,st1,h0,h2',ht',hn'⟩|⟨hw,st1,h0,h2',ht',hn'⟩
    .simp only [hw,if_true];refine .inl (Oper.wp_mono (fun a' w' ⟨⟨st',L',h1,h2,h8,h3,h4,h5,h6,h7⟩,h9⟩=>⟨h3,?_⟩) (dK (hT _ _ ho) (fN h2' hS (by rw [ht'];exact hy) hG (fun id hid=>by rw [hn'];exact hnx id hid) h0)));rw [hn'] at h5 h6 h7;exact bE hsel hT hQ t _ a' w' st' L' h2 h3 h4 (fun id hid g hg'=>hG id hid g (by rw [<- h5 id (hnx id hid)];exact hg')) (fun id hid=>K1 (hnx id hid) h6) (hE.step h5 h6 (by rw [ht'] at h7;exact h7)) (hA.trans ⟨h8,h9⟩) hB.2 h1 fuel' (by omega)
    .simp only [hw,LH,if_false];refine ⟨hS,bE hsel hT hQ t _ _ w _ L (bQ h2' o.dst) hS (by rw [etab,ht'];exact hy) hG (fun id hid=>by rw [enext,hn'];exact hnx id hid) (hE.same (by rw [etab,ht']) (by rw [enext,hn'])) (hA.put (hT _ _ ho)) hB.2 h0 fuel' (by omega)⟩
   .exact hp2.elim
 | .three i s k t m u,listed,a,w,st,L,h,hS,hy,hG,hnx,hE,hA,hB,hp,fuel,hf=>by
  simp only [cU,Li,Lp] at hB;unfold cq at hp;obtain ⟨hp,hp2,hp3⟩:=hp;unfold cB at hp hp2 hp3;have etab:∀ (st:ak) d av,(st.put d av).tab=st.tab:=fun st d av=>by cases d<;>rfl
  have enext:∀ (st:ak) d av,(st.put d av).next=st.next:=fun st d av=>by cases d<;>rfl
  have hf1:s.len+1<=fuel:=Lf (Mo (MX s.len _)) hf;have hf2:t.len+1<=fuel:=Lf (Mo (Lf (MX t.len u.len) (Me s.len _))) hf;have hf3:u.len+1<=fuel:=Lf (Mo (Lf (Me t.len u.len) (Me s.len _))) hf;obtain ⟨fuel',rfl⟩:∃ f,fuel=f+1:=⟨fuel - 1,by omega⟩;refine wpAnyH_all hB.1.1.1 (by simp) fun j hj=>?_;have hj:j=i \/ j=k \/ j=m:=by simpa using hj
  rcases hj with rfl|rfl|rfl
  .split at hp
   .rename_i o ho;unfold wpOp;rw [ho];rcases ch h hp o rfl with ⟨hw,st1,h0,h2',ht',hn'⟩|⟨hw,st1,h0,h2',ht',hn'⟩
    .simp only [hw,if_true];refine .inl (Oper.wp_mono (fun a' w' ⟨⟨st',L',h1,h2,h8,h3,h4,h5,h6,h7⟩,h9⟩=>⟨h3,?_⟩) (dK (hT _ _ ho) (fN h2' hS (by rw [ht'];exact hy) hG (fun id hid=>by rw [hn'];exact hnx id hid) h0)));rw [hn'] at h5 h6 h7;exact bE hsel hT hQ s _ a' w' st' L' h2 h3 h4 (fun id hid g hg'=>hG id hid g (by rw [<- h5 id (hnx id hid)];exact hg')) (fun id hid=>K1 (hnx id hid) h6) (hE.step h5 h6 (by rw [ht'] at h7;exact h7)) (hA.trans ⟨h8,h9⟩) hB.1.1.2 h1 fuel' (by omega)
    .simp only [hw,LH,if_false];refine ⟨hS,bE hsel hT hQ s _ _ w _ L (bQ h2' o.dst) hS (by rw [etab,ht'];exact hy) hG (fun id hid=>by rw [enext,hn'];exact hnx id hid) (hE.same (by rw [etab,ht']) (by rw [enext,hn'])) (hA.put (hT _ _ ho)) hB.1.1.2 h0 fuel' (by omega)⟩
   .exact hp.elim
  .split at hp2
   .rename_i o ho;unfold wpOp;rw [ho];rcases ch h hp2 o rfl with ⟨hw,st1,h0,h2',ht',hn'⟩|⟨hw,st1,h0,h2',ht',hn'⟩
    .simp only [hw,if_true];refine .inl (Oper.wp_mono (fun a' w' ⟨⟨st',L',h1,h2,h8,h3,h4,h5,h6,h7⟩,h9⟩=>⟨h3,?_⟩) (dK (hT _ _ ho) (fN h2' hS (by rw [ht'];exact hy) hG (fun id hid=>by rw [hn'];exact hnx id hid) h0)));rw [hn'] at h5 h6 h7;exact bE hsel hT hQ t _ a' w' st' L' h2 h3 h4 (fun id hid g hg'=>hG id hid g (by rw [<- h5 id (hnx id hid)];exact hg')) (fun id hid=>K1 (hnx id hid) h6) (hE.step h5 h6 (by rw [ht'] at h7;exact h7)) (hA.trans ⟨h8,h9⟩) hB.1.2 h1 fuel' (by omega)
    .simp only [hw,LH,if_false];refine ⟨hS,bE hsel hT hQ t _ _ w _ L (bQ h2' o.dst) hS (by rw [etab,ht'];exact hy) hG (fun id hid=>by rw [enext,hn'];exact hnx id hid) (hE.same (by rw [etab,ht']) (by rw [enext,hn'])) (hA.put (hT _ _ ho)) hB.1.2 h0 fuel' (by omega)⟩
   .exact hp2.elim
  .split at hp3
   .rename_i o ho;unfold wpOp;rw [ho];rcases ch h hp3 o rfl with ⟨hw,st1,h0,h2',ht',hn'⟩|⟨hw,st1,h0,h2',ht',hn'⟩
    .simp only [hw,if_true];refine .inl (Oper.wp_mono (fun a' w' ⟨⟨st',L',h1,h2,h8,h3,h4,h5,h6,h7⟩,h9⟩=>⟨h3,?_⟩) (dK (hT _ _ ho) (fN h2' hS (by rw [ht'];exact hy) hG (fun id hid=>by rw [hn'];exact hnx id hid) h0)));rw [hn'] at h5 h6 h7;exact bE hsel hT hQ u _ a' w' st' L' h2 h3 h4 (fun id hid g hg'=>hG id hid g (by rw [<- h5 id (hnx id hid)];exact hg')) (fun id hid=>K1 (hnx id hid) h6) (hE.step h5 h6 (by rw [ht'] at h7;exact h7)) (hA.trans ⟨h8,h9⟩) hB.2 h1 fuel' (by omega)
    .simp only [hw,LH,if_false];refine ⟨hS,bE hsel hT hQ u _ _ w _ L (bQ h2' o.dst) hS (by rw [etab,ht'];exact hy) hG (fun id hid=>by rw [enext,hn'];exact hnx id hid) (hE.same (by rw [etab,ht']) (by rw [enext,hn'])) (hA.put (hT _ _ ho)) hB.2 h0 fuel' (by omega)⟩
   .exact hp3.elim
 | .four i s k t m u n v,listed,a,w,st,L,h,hS,hy,hG,hnx,hE,hA,hB,hp,fuel,hf=>by
  simp only [cU,Li,Lp] at hB;unfold cq at hp;obtain ⟨hp,hp2,hp3,hp4⟩:=hp;unfold cB at hp hp2 hp3 hp4;have etab:∀ (st:ak) d av,(st.put d av).tab=st.tab:=fun st d av=>by cases d<;>rfl
  have enext:∀ (st:ak) d av,(st.put d av).next=st.next:=fun st d av=>by cases d<;>rfl
  have hf1:s.len+1<=fuel:=Lf (Mo (MX s.len _)) hf;have hf2:t.len+1<=fuel:=Lf (Mo (Lf (MX t.len _) (Me s.len _))) hf;have hf3:u.len+1<=fuel:=Lf (Mo (Lf (Lf (MX u.len v.len) (Me t.len _)) (Me s.len _))) hf;have hf4:v.len+1<=fuel:=Lf (Mo (Lf (Lf (Me u.len v.len) (Me t.len _)) (Me s.len _))) hf;obtain ⟨fuel',rfl⟩:∃ f,fuel=f+1:=⟨fuel - 1,by omega⟩;refine wpAnyH_all hB.1.1.1.1 (by simp) fun j hj=>?_;have hj:j=i \/ j=k \/ j=m \/ j=n:=by simpa using hj
  rcases hj with rfl|rfl|rfl|rfl
  .split at hp
   .rename_i o ho;unfold wpOp;rw [ho];rcases ch h hp o rfl with ⟨hw,st1,h0,h2',ht',hn'⟩|⟨hw,st1,h0,h2',ht',hn'⟩
    .simp only [hw,if_true];refine .inl (Oper.wp_mono (fun a' w' ⟨⟨st',L',h1,h2,h8,h3,h4,h5,h6,h7⟩,h9⟩=>⟨h3,?_⟩) (dK (hT _ _ ho) (fN h2' hS (by rw [ht'];exact hy) hG (fun id hid=>by rw [hn'];exact hnx id hid) h0)));rw [hn'] at h5 h6 h7;exact bE hsel hT hQ s _ a' w' st' L' h2 h3 h4 (fun id hid g hg'=>hG id hid g (by rw [<- h5 id (hnx id hid)];exact hg')) (fun id hid=>K1 (hnx id hid) h6) (hE.step h5 h6 (by rw [ht'] at h7;exact h7)) (hA.trans ⟨h8,h9⟩) hB.1.1.1.2 h1 fuel' (by omega)
    .simp only [hw,LH,if_false];refine ⟨hS,bE hsel hT hQ s _ _ w _ L (bQ h2' o.dst) hS (by rw [etab,ht'];exact hy) hG (fun id hid=>by rw [enext,hn'];exact hnx id hid) (hE.same (by rw [etab,ht']) (by rw [enext,hn'])) (hA.put (hT _ _ ho)) hB.1.1.1.2 h0 fuel' (by omega)⟩
   .exact hp.elim
  .split at hp2
   .rename_i o ho;unfold wpOp;rw [ho];rcases ch h hp2 o rfl with ⟨hw,st1,h0,h2',ht',hn'⟩|⟨hw,st1,h0,h2',ht',hn'⟩
    .simp only [hw,if_true];refine .inl (Oper.wp_mono (fun a' w' ⟨⟨st',L',h1,h2,h8,h3,h4,h5,h6,h7⟩,h9⟩=>⟨h3,?_⟩) (dK (hT _ _ ho) (fN h2' hS (by rw [ht'];exact hy) hG (fun id hid=>by rw [hn'];exact hnx id hid) h0)));rw [hn'] at h5 h6 h7;exact bE hsel hT hQ t _ a' w' st' L' h2 h3 h4 (fun id hid g hg'=>hG id hid g (by rw [<- h5 id (hnx id hid)];exact hg')) (fun id hid=>K1 (hnx id hid) h6) (hE.step h5 h6 (by rw [ht'] at h7;exact h7)) (hA.trans ⟨h8,h9⟩) hB.1.1.2 h1 fuel' (by omega)
    .simp only [hw,LH,if_false];refine ⟨hS,bE hsel hT hQ t _ _ w _ L (bQ h2' o.dst) hS (by rw [etab,ht'];exact hy) hG (fun id hid=>by rw [enext,hn'];exact hnx id hid) (hE.same (by rw [etab,ht']) (by rw [enext,hn'])) (hA.put (hT _ _ ho)) hB.1.1.2 h0 fuel' (by omega)⟩
   .exact hp2.elim
  .split at hp3
   .rename_i o ho;unfold wpOp;rw [ho];rcases ch h hp3 o rfl with ⟨hw,st1,h0,h2',ht',hn'⟩|⟨hw,st1,h0,h2',ht',hn'⟩
    .simp only [hw,if_true];refine .inl (Oper.wp_mono (fun a' w' ⟨⟨st',L',h1,h2,h8,h3,h4,h5,h6,h7⟩,h9⟩=>⟨h3,?_⟩) (dK (hT _ _ ho) (fN h2' hS (by rw [ht'];exact hy) hG (fun id hid=>by rw [hn'];exact hnx id hid) h0)));rw [hn'] at h5 h6 h7;exact bE hsel hT hQ u _ a' w' st' L' h2 h3 h4 (fun id hid g hg'=>hG id hid g (by rw [<- h5 id (hnx id hid)];exact hg')) (fun id hid=>K1 (hnx id hid) h6) (hE.step h5 h6 (by rw [ht'] at h7;exact h7)) (hA.trans ⟨h8,h9⟩) hB.1.2 h1 fuel' (by omega)
    .simp only [hw,LH,if_false];refine ⟨hS,bE hsel hT hQ u _ _ w _ L (bQ h2' o.dst) hS (by rw [etab,ht'];exact hy) hG (fun id hid=>by rw [enext,hn'];exact hnx id hid) (hE.same (by rw [etab,ht']) (by rw [enext,hn'])) (hA.put (hT _ _ ho)) hB.1.2 h0 fuel' (by omega)⟩
   .exact hp3.elim
  .split at hp4
   .rename_i o ho;unfold wpOp;rw [ho];rcases ch h hp4 o rfl with ⟨hw,st1,h0,h2',ht',hn'⟩|⟨hw,st1,h0,h2',ht',hn'⟩
    .simp only [hw,if_true];refine .inl (Oper.wp_mono (fun a' w' ⟨⟨st',L',h1,h2,h8,h3,h4,h5,h6,h7⟩,h9⟩=>⟨h3,?_⟩) (dK (hT _ _ ho) (fN h2' hS (by rw [ht'];exact hy) hG (fun id hid=>by rw [hn'];exact hnx id hid) h0)));rw [hn'] at h5 h6 h7;exact bE hsel hT hQ v _ a' w' st' L' h2 h3 h4 (fun id hid g hg'=>hG id hid g (by rw [<- h5 id (hnx id hid)];exact hg')) (fun id hid=>K1 (hnx id hid) h6) (hE.step h5 h6 (by rw [ht'] at h7;exact h7)) (hA.trans ⟨h8,h9⟩) hB.2 h1 fuel' (by omega)
    .simp only [hw,LH,if_false];refine ⟨hS,bE hsel hT hQ v _ _ w _ L (bQ h2' o.dst) hS (by rw [etab,ht'];exact hy) hG (fun id hid=>by rw [enext,hn'];exact hnx id hid) (hE.same (by rw [etab,ht']) (by rw [enext,hn'])) (hA.put (hT _ _ ho)) hB.2 h0 fuel' (by omega)⟩
   .exact hp4.elim
theorem j4 {ops:Array Oper} {K:ak -> Prop} {T:aa} {Tz:Nat -> Prop} {a0:Act} {nx:Nat} {ids:List Nat} {S:World -> Prop} {Q:Exit -> Act -> World -> Prop} (hsel:Region.noSelect ops=true) (hTz:∀ (i:Nat) (o:Oper),ops[i]? = some o -> ∀ t,Tz t -> o.dst ≠ some t) (s:kZ) (hS:S w)
  (hSw:∀ w' b,S w' -> (Sx cx w T L b \/ ∃ id o,id ∉ ids /\ T.get id=some o /\ aH (L id)=some b) -> rg b w w')
  (hQ:∀ listed a st,bU Tz a0 a -> st.tab=T -> st.next=nx -> cU ops s listed=true -> K st -> aI cx a w st L -> ∀ fuel,s.len<=fuel -> wpAnyH P .any ops (kq Q) S fuel listed a w):∀ (hd:List Nat) (listed:Array Bool) (a:Act) (st:ak),
  bU Tz a0 a -> aI cx a w st L -> st.tab=T -> st.next=nx -> pM ops hd s listed=true -> jb P ops ids K hd st -> ∀ fuel,hd.length+s.len<=fuel -> wpAnyH P .any ops (kq Q) S fuel listed a w
 | [],listed,a,st,hA,h,hT,hN,hB,hp,fuel,hf=>hQ listed a st hA hT hN hB hp h fuel (by simpa using hf)
 | i :: hd,listed,a,st,hA,h,hT,hN,hB,hp,fuel,hf=>by
  simp only [pM,Li] at hB;unfold jb rX at hp;have etab:∀ (st:ak) d av,(st.put d av).tab=st.tab:=fun st d av=>by cases d<;>rfl
  have enext:∀ (st:ak) d av,(st.put d av).next=st.next:=fun st d av=>by cases d<;>rfl
  split at hp
  .rename_i o ho;obtain ⟨fuel',rfl⟩:∃ f,fuel=f+1:=⟨fuel - 1,by simp at hf;omega⟩;rcases ch h hp o rfl with ⟨hw,st',⟨hl,h0⟩,h2',ht',hn'⟩|⟨hw,st',h0,h2',ht',hn'⟩
   .by_cases hbld:∃ t parts,o.op=.build t parts
    .obtain ⟨t,parts,hop⟩:=hbld;rw [hop] at h0;obtain ⟨v,cs,h3,h4,h5,h6⟩:=ka h2' h0;refine wpAnyH_take (v:=v) ho hsel hB.1.1 hB.1.2 (fun _ _ _ h=>h) (.inl ⟨hw,fun w' _=>by simp [execOp,hop,Sem.run_bind,h5 w']⟩) hS ?_;exact j4 hsel hTz s hS hSw hQ hd _ _ _ (hA.put (hTz _ _ ho)) (a7 h2' h3 h4 o.dst) (by rw [etab,ht',hT]) (by rw [enext,hn',hN]) hB.2 h6 fuel' (by simp at hf;omega)
    replace h0:bO P st'.tab (a6 st') o.op (aK st' o.dst (jb P ops ids K hd)):=by
     unfold cV at h0;split at h0
     .rename_i t parts hop;exact absurd ⟨t,parts,hop⟩ hbld
     .exact h0
    obtain ⟨v,av,h1,h2,h3,_,h5,h6⟩:=jt h2'.lay (fun id o hid=>(h2'.young id o hid).2) (aj h2') h0
    have hy:∀ w',S w' -> (execOp a.eval o).run P w'=.ok (.value v) w':=fun w' hw'=>by
     cases hld:gG o.op with
     | false=>exact h5 hld w'
     | true=>
      obtain ⟨t,x,hop⟩:∃ t x,o.op=.load t x:=by
       cases hop:o.op<;>simp [hop,gG] at hld;exact ⟨_,_,rfl⟩
      obtain ⟨b,hb,hr⟩:=h6 t x hop;refine hr w' (hSw w' b hw' ?_);rw [hop] at hl;have hev:=(aj h2' x).1;unfold oB uu at hl;simp only at hl;split at hl
      .rename_i id i j he;rw [he] at hev;rw [hop] at h0;simp only [bO,iy,he] at h0
       cases hg:st'.tab.get id with
       | none=>rw [hg] at h0;exact h0.elim
       | some ob=>
        obtain ⟨g,hg1,hg2⟩:=hev.op_inv _ _ (bI hg);rw [hg2] at hb;simp [aH] at hb;subst hb;exact .inr ⟨id,ob,hl,by rw [<- hT,<- ht'];exact hg,hg1⟩
      .rename_i cs he;rw [he] at hev;obtain ⟨b',o',U,hg2,hb',_⟩:=hev.rp_inv;rw [hg2] at hb;simp [aH] at hb;subst hb;refine .inl ?_;rw [<- hT,<- ht'];exact hb'
      .exact hl.elim
    refine wpAnyH_take ho hsel hB.1.1 hB.1.2 (fun _ _ _ h=>h) (.inl ⟨hw,hy⟩) hS ?_;exact j4 hsel hTz s hS hSw hQ hd _ _ _ (hA.put (hTz _ _ ho)) (a7 h2' h2 h3 o.dst) (by rw [etab,ht',hT]) (by rw [enext,hn',hN]) hB.2 h1 fuel' (by simp at hf;omega)
   .refine wpAnyH_take (v:=undef) ho hsel hB.1.1 hB.1.2 (fun _ _ _ h=>h) (.inr ⟨hw,rfl⟩) hS ?_;exact j4 hsel hTz s hS hSw hQ hd _ _ _ (hA.put (hTz _ _ ho)) (bQ h2' o.dst) (by rw [etab,ht',hT]) (by rw [enext,hn',hN]) hB.2 h0 fuel' (by simp at hf;omega)
  .exact hp.elim
theorem mw {p:Nat -> Prop} (h:∃ n,p n):∃ n,p n /\ ∀ m,p m -> n<=m:=by
 obtain ⟨n,hn⟩:=h
 induction n using Nat.strongRecOn with
 | _ n ih=>
  by_cases hx:∃ m,m<n /\ p m
  .obtain ⟨m,hm,hp⟩:=hx;exact ih m hm hp
  .exact ⟨n,hn,fun m hm=>Nat.le_of_not_lt fun hlt=>hx ⟨m,hlt,hm⟩⟩
open Classical in
noncomputable def mz (p:Nat -> Prop):Nat:=if h:∃ n,p n then (mw h).choose else 0
theorem jf {p:Nat -> Prop} (h:∃ n,p n):p (mz p) /\ ∀ m,p m -> mz p<=m:=by
 unfold mz;rw [dif_pos h];exact (mw h).choose_spec
abbrev np (cx:Cx) (Q:Exit -> ak -> Prop):Exit -> Act -> World -> Prop:=fun e a w=>∃ st L,Q e st /\ aI cx a w st L
theorem sG (hm:P.follows .mixedOrders=true):∀ (c:Code) (Q:Exit -> ak -> Prop) (a:Act) (w:World) (st:ak) (L:Nat -> Value),aI cx a w st L -> bC P c Q st -> c.wp P (np cx Q) a w:=by
 intro c
 induction c with
 | skip=>exact fun Q a w st L h hp=>wp_skip ⟨st,L,hp,h⟩
 | region id ops draw=>
  intro Q a w st L h hp;unfold bC DN at hp
  cases draw with
  | false=>exact wp_region_list (sw (fun a w st L h1 h2=>⟨st,L,h1,h2⟩) _ _ _ _ _ h (by simpa using hp))
  | true=>
   simp only [if_true] at hp;obtain ⟨l⟩:=ops;rcases hp with ⟨hB,hp⟩|⟨n,hB,hp⟩|⟨ids,hd,s,hB,K',hK',hids,hp⟩
   .exact wp_region_quiet (C:=fun w'=>Below w.heap.size w w') hm hB ((Below.refl _ _).drew) (kE (L:=L) (T:=fun _=>False) (a0:=a) (tab0:=st.tab) (fun a' st' h1 h2 _ _ w' hw'=>⟨st',L,h1,fG h2 hw'⟩) _ _ _ (fun _ _ _ h=>h.elim) rfl (.refl a) h hp)
   .have h':aI cx a w.drew st L:=fG h ((Below.refl _ _).drew);exact wp_region_still_tail n hm hB (oj (T:=fun _=>False) (a0:=a) (tab0:=st.tab) (fun a' st' h1 h2 _ _=>sw (fun a w st L h1 h2=>⟨st,L,h1,h2⟩) _ _ _ _ _ h2 h1) _ _ _ (fun _ _ _ h=>h.elim) rfl (.refl a) h' hp)
   .simp only [Li] at hB;have hB:=And.intro hB.1 (MI hB.2);have h':aI cx a w.drew st L:=fG h ((Below.refl _ _).drew)
    let G:Nat -> Prop:=fun k=>∃ id ∈ ids,aH (L id)=some k
    refine Code.wp_mono (Q:=kq (np cx Q)) (fun e a w hq=>?_) (wp_region_held (S:=fun w'=>jV w.drew.heap.size G w.drew w') hm ?_)
    .cases e<;>first|exact hq|exact hq.elim
    .refine j4 (T:=st.tab) (Tz:=fun _=>False) (a0:=a) (nx:=st.next) (ids:=ids) hB.1.1 (fun _ _ _ _ h=>h.elim) s ⟨KW _,fun _ _ _=>rfl⟩ (fun w' b hw' hb o u hu=>?_) (fun listed a' st' _ hT hN hB' hK h2 fuel hf=>?_) hd _ _ _ (.refl a) h' rfl rfl hB.1.2 hp _ hB.2
     .have hlt:=World.block_lt_of_cell? w.drew _ hu;refine (World.cell?_of_block (hw'.block b hlt fun ⟨id,hid,hbl⟩=>?_)).trans hu;obtain ⟨ob,hob⟩:=LB.1 (hids id hid);rcases hb with hb|⟨id',o',hni,hget,hbl'⟩
      .exact hb.2.2 id ob hob hbl
      .exact hni (h.lay.sep id' id o' ob b hget hob hbl' hbl ▸ hid)
     .refine bE (Q:=np cx Q) (T0:=st.tab) (T:=fun _=>False) (a0:=a') (L0:=L) hB.1.1 (fun _ _ _ _ h=>h.elim) (fun a w st L h1 h2 _ _ _ _=>(hK' st h1).elim fun st' h3=>(h3.1 cx a w L h2).elim fun L' h4=>⟨st',L',h3.2,h4.1⟩) s listed a' w.drew st' L h2 ⟨KW _,fun _ _ _=>rfl⟩ (fun id o g h3 h4 _=>by
       rw [hT] at h4;have:=(h.young id o h4).1;omega) (fun id hid g hg=>⟨id,hid,hg⟩) (fun id hid=>by
       obtain ⟨ob,hob⟩:=LB.1 (hids id hid);rw [hN];exact (h.young id ob hob).1) ⟨fun _ _=>rfl,by rw [hN];exact KW _,fun id o _ hg=>⟨o,by rw [<- hT];exact hg⟩,fun id o g _ hni hg hbl=>?_⟩ (.refl a') hB' hK fuel hf
      refine ⟨((h'.lay.objs id _ hg).ge hbl).2,fun ⟨id',hid',hbl'⟩=>hni ?_⟩;obtain ⟨ob,hob⟩:=LB.1 (hids id' hid');exact h.lay.sep id id' _ ob g hg hob hbl hbl' ▸ hid'
 | seq x y ihx ihy=>
  intro Q a w st L h hp;unfold bC at hp;refine wp_seq (Code.wp_mono (fun e a' w' ⟨st',L',h1,h2⟩=>?_) (ihx _ a w st L h hp))
  cases e with
  | normal=>exact ihy Q a' w' st' L' h2 h1
  | _=>exact ⟨st',L',h1,h2⟩
 | cond c x y ihx ihy=>
  intro Q a w st L h hp;unfold bC uB at hp;split at hp
  .rename_i b hb;have hv:=(aj h c).1;rw [hb] at hv;have hv:=hv.c_inv;cases b
   .exact wp_cond_false hv (ihy Q a w st L h hp)
   .exact wp_cond_true hv (ihx Q a w st L h hp)
  .exact hp.elim
 | block id x ih=>
  intro Q a w st L h hp;unfold bC at hp;refine wp_block (Code.wp_mono (fun e a' w' ⟨st',L',h1,h2⟩=>?_) (ih _ a w st L h hp))
  cases e with
  | exit id'=>
   simp only [gF,Exit.inBlock] at h1 ⊢;split
   .rename_i e;rw [K5 e] at h1;exact ⟨st',L',h1,h2⟩
   .rename_i e;rw [KY e] at h1;exact ⟨st',L',h1,h2⟩
  | _=>exact ⟨st',L',h1,h2⟩
 | loop x ih=>
  intro Q a w st L h hp;unfold bC at hp;obtain ⟨I,μ,⟨st0,hw0,hI⟩,hr⟩:=hp
  let p:Act -> World -> Nat -> Prop:=fun a w n=>∃ st L,I st /\ aI cx a w st L /\ μ st=n
  obtain ⟨L0,hL0,_⟩:=hw0 _ _ _ _ h;refine wp_loop (fun a w=>∃ n,p a w n) (fun a w=>mz (p a w)) ⟨_,st0,L0,hI,hL0,rfl⟩ fun a w hpa=>?_;obtain ⟨⟨st,L,h1,h2,h3⟩,_⟩:=jf hpa;refine Code.wp_mono (fun e a' w' ⟨st',L',h4,h5⟩=>?_) (ih _ a w st L h2 (hr st h1))
  cases e with
  | normal=>
   obtain ⟨st'',hw,hI'',hlt⟩:=h4;obtain ⟨L1,hL1,_⟩:=hw _ _ _ _ h5;have hpn:p a' w' (μ st''):=⟨st'',L1,hI'',hL1,rfl⟩;refine ⟨⟨_,hpn⟩,?_⟩;have:=(jf ⟨_,hpn⟩).2 _ hpn;show mz (p a' w')<mz (p a w);omega
  | _=>exact ⟨st',L',h4,h5⟩
 | exit id=>exact fun Q a w st L h hp=>wp_exit ⟨st,L,hp,h⟩
 | ret=>exact fun Q a w st L h hp=>wp_ret ⟨st,L,hp,h⟩
 | rangeFunc g ps assign body=>exact fun Q a w st L h hp=>hp cx a w L h
 | label l=>exact fun Q a w st L h hp=>wp_label ⟨st,L,hp,h⟩
 | scope x ih=>
  intro Q a w st L h hp;unfold bC at hp;refine wp_scope_straight (Code.wp_mono (fun e a' w' ⟨st',L',h1,h2⟩=>?_) (ih _ a w st L h hp))
  cases e with
  | goto l=>exact h1
  | _=>exact ⟨st',L',h1,h2⟩
 | _=>exact fun Q a w st L h hp=>hp.elim
end
end
end
end Go.Proofs.YtiaiihjmmfakdaaGreatDoor
