/-
  Parts of the proof: Qtp4.
-/
import Derived.Test.YtiaiihjmmfakdaaGreatDoorQtq2
import Derived.Deep.Quiet
import Derived.StillTail
import Derived.OrdersHeld
import Derived.Scope
set_option linter.unusedVariables false
set_option linter.unusedSimpArgs false
set_option linter.defProp false
set_option maxRecDepth 100000
set_option maxHeartbeats 16000000
namespace Go.Proofs.YtiaiihjmmfakdaaGreatDoor
open Go.RowKit
section
section
def oC (P:Program) (t:TypeId) (st:aj) (p x:AV) (K:aj -> Prop):Prop:=
 match p with
 | .op id i j=>match st.tab.get id with
  | some (.box ty cells)=>i=0 /\ 0<ap P t /\ (am x).length=ap P t /\ j+ap P t<=cells.length /\ dB st.tab (am x) /\ K { st with tab:=(id,some (.box ty (cells.take j ++ am x ++ cells.drop (j+ap P t)))) :: st.tab }
  | some (.row e sz rows)=>i<rows.length /\ 0<ap P t /\ (am x).length=ap P t /\ j+ap P t<=sz /\ dB st.tab (am x) /\ bV (am x) /\ K { st with tab:=(id,some (.row e sz (rows.set i ((rows[i]?.getD []).take j ++ am x ++ (rows[i]?.getD []).drop (j+ap P t))))) :: st.tab }
  | some (.nest e sz rows)=>i<rows.length /\ 0<ap P t /\ (am x).length=ap P t /\ j+ap P t<=sz /\ dB st.tab (am x) /\ K { st with tab:=(id,some (.nest e sz (rows.set i ((rows[i]?.getD []).take j ++ am x ++ (rows[i]?.getD []).drop (j+ap P t))))) :: st.tab }
  | _=>False
 | _=>False
def mv (P:Program) (t:TypeId) (st:aj) (id i j:Nat) (x:AV) (K:aj -> Prop):Prop:=
 match st.tab.get id with
 | some (.box ty cells)=>i=0 /\ 0<ap P t /\ (am x).length=ap P t /\ j+ap P t<=cells.length /\ dB st.tab (am x) /\ K { st with tab:=(id,some (.box ty (cells.take j ++ am x ++ cells.drop (j+ap P t)))) :: st.tab }
 | some (.row e sz rows)=>i<rows.length /\ 0<ap P t /\ (am x).length=ap P t /\ j+ap P t<=sz /\ dB st.tab (am x) /\ bV (am x) /\ K { st with tab:=(id,some (.row e sz (rows.set i ((rows[i]?.getD []).take j ++ am x ++ (rows[i]?.getD []).drop (j+ap P t))))) :: st.tab }
 | some (.nest e sz rows)=>i<rows.length /\ 0<ap P t /\ (am x).length=ap P t /\ j+ap P t<=sz /\ dB st.tab (am x) /\ K { st with tab:=(id,some (.nest e sz (rows.set i ((rows[i]?.getD []).take j ++ am x ++ (rows[i]?.getD []).drop (j+ap P t))))) :: st.tab }
 | _=>False
def wN (t:TypeId) (st:aj) (x:AV) (dst:Option Nat) (K:aj -> Prop):Prop:=
 dB st.tab (am x) /\ K ({ st with tab:=(st.next,some (.box t (am x))) :: st.tab,next:=st.next+1 }.put dst (.op st.next 0 0))
def jg (P:Program) (t:TypeId) (st:aj) (x y:AV) (dst:Option Nat) (K:aj -> Prop):Prop:=
 match cS P t with
 | some (e,sz,by_)=>match uI st.tab e sz x,wW st.tab sz y with
  | some (oid,rows),some rows2=>(rows.length+rows2.length<=9223372036854775807 /\ (rows.length+rows2.length) * by_<=140737488355328) /\ K ({ st with tab:=bw st.tab st.next oid (.row e sz (rows ++ rows2)),next:=st.next+1 }.put dst (.osl st.next))
  | _,_=>match kh st.tab e sz x,oX st.tab sz y with
   | some (oid,rows),some rows2=>(rows.length+rows2.length<=9223372036854775807 /\ (rows.length+rows2.length) * by_<=140737488355328) /\ K ({ st with tab:=bw st.tab st.next oid (.nest e sz (rows ++ rows2)),next:=st.next+1 }.put dst (.osl st.next))
   | _,_=>False
 | none=>False
def xI:AV -> AV -> Bool
 | .c (.slice none 0 0),.c (.slice none 0 0)=>true
 | _,_=>false
theorem lC {x y:AV} (h:xI x y=true):x=.c (.slice none 0 0) /\ y=.c (.slice none 0 0):=by
 unfold xI at h;split at h
 .exact ⟨rfl,rfl⟩
 .cases h
def iq (P:Program) (t:TypeId) (st:aj) (x y:AV) (dst:Option Nat) (K:aj -> Prop):Prop:=
 match xI x y with
 | true=>(cS P t).isSome=true /\ K (st.put dst (.c (.slice none 0 0)))
 | false=>jg P t st x y dst K
section
variable {P:Program} {t:TypeId} {st:aj} {y:AV} {dst:Option Nat} {K:aj -> Prop} {id sz:Nat} {rows:List (List AV)}
theorem Cn:iq P t st (.osl id) y dst K=jg P t st (.osl id) y dst K:=rfl
end
theorem gW {P:Program} {t ty:TypeId} {w:World} (h:(cS P t).isSome=true):(Builtin.append_ #[t,t] ty #[.slice none 0 0,.slice none 0 0]).run P w=.ok (.slice none 0 0) w:=by
 obtain ⟨⟨e,sz,by_⟩,ht⟩:=Oo.1 h;obtain ⟨i,z,hund,hi,hz,hs,hb,hzs,h0⟩:=fS ht;exact gC 0 hund hi (iV w 0 e i.size)
def fu (P:Program) (t:TypeId) (n:Nat) (parts:List (Nat × Operand)) (dst:Option Nat) (K:aj -> Prop) (st:aj):Prop:=
 match cS P t with
 | some (e,sz,_)=>match fN (parts.flatMap fun (p:Nat × Operand)=>am (a5 st p.2)) with
  | []=>(parts.map (·.1)=List.range' 0 parts.length /\ n=parts.length /\ parts.length * sz<=16777216 /\ vh st.tab sz (parts.map fun p=>a5 st p.2)) /\
   K ({ st with tab:=(st.next,some (.row e sz (parts.map fun (p:Nat × Operand)=>am (a5 st p.2)))) :: st.tab,next:=st.next+1 }.put dst (.osl st.next))
  | _ :: _=>(parts.map (·.1)=List.range' 0 parts.length /\ n=parts.length /\ parts.length * sz<=16777216 /\ oO st.tab sz (parts.map fun p=>a5 st p.2)) /\
   K ({ st with tab:=(st.next,some (.nest e sz (parts.map fun (p:Nat × Operand)=>am (a5 st p.2)))) :: st.tab,next:=st.next+1 }.put dst (.osl st.next))
 | none=>False
def dp (P:Program) (t:TypeId) (n:Nat) (parts:List (Nat × Operand)) (st:aj) (dst:Option Nat) (K:aj -> Prop):Prop:=
 fu P t n parts dst K (gt st (fN (parts.flatMap fun (p:Nat × Operand)=>am (a5 st p.2))))
def o6 (P:Program) (t:TypeId) (st:aj) (l c:AV) (dst:Option Nat) (K:aj -> Prop):Prop:=
 match cS P t,l,c with
 | some (e,sz,by_),.c (.int _ n),.c (.int _ m)=>match bX P e with
  | some z=>(m=n /\ dB [] (am (.c z)) /\ 0<=n /\ n<=16777216 /\ (by_:Int) * n<=281474976710656) /\ K ({ st with tab:=(st.next,some (Mb (ww t) e sz (List.replicate n.toNat (am (.c z))))) :: st.tab,next:=st.next+1 }.put dst (.osl st.next))
  | none=>False
 | _,_,_=>False
def j6 (P:Program) (t:TypeId) (st:aj) (parts:List (Nat × Operand)) (dst:Option Nat) (K:aj -> Prop):Prop:=
 match dc P t with
 | some (places,zs)=>match qg places (zs.map .c) (parts.map fun p=>(p.1,a5 st p.2)) with
  | some cs=>iU st.tab (parts.map fun p=>(p.1,a5 st p.2)) /\ K (st.put dst (.agg cs))
  | none=>False
 | none=>False
def AU (h:Int) (b:Bool):Option AV -> Prop
 | none=>True
 | some (.c (.int _ m))=>m=h /\ b=true
 | _=>False
def mQ (P:Program) (t:TypeId) (st:aj) (id e sz:Nat) (rows:List (List AV)) (b:Bool) (mx:Option AV) (dst:Option Nat) (K:aj -> Prop):Option Int -> Option Int -> Prop
 | some l,some h=>((bf P t).2=sz /\ 0<sz) /\ (l=0 /\ 0<=h /\ h<=(rows.length:Int) /\ AU h b mx) /\ K ({ st with tab:=bw st.tab st.next (some id) (.row e sz (rows.take h.toNat)),next:=st.next+1 }.put dst (.osl st.next))
 | _,_=>False
def jK (P:Program) (t:TypeId) (st:aj) (x:AV) (lo hi mx:Option AV) (dst:Option Nat) (K:aj -> Prop):Prop:=
 match x with
 | .osl id=>match st.tab.get id with
  | some (.row e sz rows)=>mQ P t st id e sz rows hi.isSome mx dst K (CF 0 lo) (CF rows.length hi)
  | _=>False
 | x=>kk P t x lo hi mx fun av=>K (st.put dst av)
def Gs (f:AV) (K:FuncId -> List AV -> Prop):Prop:=
 match f with
 | .c (.func (.func g) first caps)=>(first = #[] /\ caps = #[]) /\ K g []
 | .fn g cs=>K g cs
 | _=>False
def xq (f:AV) (KB K:FuncId -> List AV -> Prop):Prop:=
 match f with
 | .bfn g bs=>KB g bs
 | f=>Gs f K
def aK (st:aj) (dst:Option Nat) (K:aj -> Prop) (av:AV):Prop:=K (st.put dst av)
def sa (dst:Option Nat) (K:aj -> Prop) (av:AV) (st:aj):Prop:=K (st.put dst av)
def H2 (dst:Option Nat) (K:aj -> Prop) (st:aj):Prop:=K (st.put dst .any)
def kb (dst:Option Nat) (K:aj -> Prop) (st:aj):Prop:=K (st.put dst (.c undef))
def tm (P:Program) (st:aj) (args:List Operand) (dst:Option Nat) (K:aj -> Prop) (g:FuncId) (cs:List AV):Prop:=gy none P st g (args.map (a5 st) ++ cs) (sa dst K)
def yj (P:Program) (st:aj) (args:List Operand) (dst:Option Nat) (K:aj -> Prop) (g:FuncId) (bs:List AV):Prop:=gy none P st g (bs ++ args.map (a5 st)) (sa dst K)
def yz (P:Program) (bu:Nat) (ids:List Nat) (st:aj) (args:List Operand) (dst:Option Nat) (K:aj -> Prop) (g:FuncId) (cs:List AV):Prop:=gy (some (bu,ids)) P st g (args.map (a5 st) ++ cs) (sa dst K)
def zc (P:Program) (st:aj) (args:List Operand) (dst:Option Nat) (K:aj -> Prop) (g:FuncId) (cs:List AV):Prop:=∃ v,ax P g ((args.map (a5 st) ++ cs).map (fE st.tab)) ⟨.c v,[],0⟩ /\ K (st.put dst (.c v))
def j1 (P:Program) (o:Oper) (K:aj -> Prop) (st:aj):Prop:=
 match o.op with
 | .box t x=>wN t st (a5 st x) o.dst K
 | .alloc t=>match bX P t with
  | some z=>wN t st (.c z) o.dst K
  | none=>False
 | .store t p x=>oC P t st (a5 st p) (a5 st x) (H2 o.dst K)
 | .buildSlice t n parts=>dp P t n parts.toList st o.dst K
 | .makeSlice t l c=>o6 P t st (a5 st l) (a5 st c) o.dst K
 | .build t parts=>j6 P t st parts.toList o.dst K
 | .slice t x lo hi mx=>jK P t st (a5 st x) (lo.map (a5 st)) (hi.map (a5 st)) (mx.map (a5 st)) o.dst K
 | .makeMap _ r=>wv st r.isNone o.dst K
 | .lookup t m k ok=>jB P t st.tab (a5 st m) (a5 st k) ok (aK st o.dst K)
 | .mapUpdate t m k v=>iv P t st (a5 st m) (a5 st k) (a5 st v) (H2 o.dst K)
 | .call c=>match c.callee with
  | .builtin .append=>match c.args.toList,c.argTypes.toList with
   | [x,y],[t,t']=>t=t' /\ iq P t st (a5 st x) (a5 st y) o.dst K
   | _,_=>False
  | .builtin .clear=>tS P st c.args.toList c.argTypes.toList o.dst K
  | .builtin .len=>y2 P st.tab (a5 st) c.args.toList c.argTypes.toList (aK st o.dst K) \/ bW P st.tab (a5 st) (.call c) (aK st o.dst K)
  | .value f=>xq (a5 st f) (yj P st c.args.toList o.dst K) (tm P st c.args.toList o.dst K)
  | _=>bW P st.tab (a5 st) (.call c) (aK st o.dst K)
 | op=>bW P st.tab (a5 st) op (aK st o.dst K)
def yv:Value -> Option Bool
 | .bool b=>some b
 | _=>none
def Gt (b want:Bool) (d:Nat) (yes no:aj -> Prop) (st:aj):Prop:=
 match b,want with
 | true,true=>yes (st.put (some d) (.c (.bool true)))
 | false,false=>yes (st.put (some d) (.c (.bool false)))
 | true,false=>no (st.put (some d) (.c (.bool true)))
 | false,true=>no (st.put (some d) (.c (.bool false)))
section
variable {b want:Bool} {d:Nat} {yes no:aj -> Prop} {st:aj}
theorem K0:Gt true true d yes no st=yes (st.put (some d) (.c (.bool true))):=rfl
theorem Lj:Gt false false d yes no st=yes (st.put (some d) (.c (.bool false))):=rfl
theorem LG:Gt true false d yes no st=no (st.put (some d) (.c (.bool true))):=rfl
theorem Lb:Gt false true d yes no st=no (st.put (some d) (.c (.bool false))):=rfl
theorem sb (h1:b=true -> Gt true want d yes no st) (h2:b=false -> Gt false want d yes no st):Gt b want d yes no st:=by
 cases b
 .exact h2 rfl
 .exact h1 rfl
end
def kx (ops:Array Oper) (g:Option (Nat × Bool)) (yes no:aj -> Prop) (st:aj):Prop:=
 match g with
 | none=>yes st
 | some (j,want)=>match (ops[j]?).bind (·.dst) with
  | some d=>match st.get d with
   | .c v=>match yv v with
    | some b=>Gt b want d yes no st
    | none=>no st
   | _=>False
  | none=>False
def lk (P:Program) (ops:Array Oper) (K:aj -> Prop):List Oper -> aj -> Prop
 | [],st=>K st
 | o :: rest,st=>kx ops o.guard (j1 P o (lk P ops K rest)) (kb o.dst (lk P ops K rest)) st
def lB (P:Program) (o:Oper) (K:aj -> Prop) (st:aj):Prop:=
 match o.op with
 | .call c=>match c.callee with
  | .value f=>Gs (a5 st f) (zc P st c.args.toList o.dst K)
  | _=>bW P st.tab (a5 st) (.call c) (aK st o.dst K)
 | .build t parts=>j6 P t st parts.toList o.dst K
 | op=>bW P st.tab (a5 st) op (aK st o.dst K)
def jd (P:Program) (ops:Array Oper) (K:aj -> Prop):List Oper -> aj -> Prop
 | [],st=>K st
 | o :: rest,st=>kx ops o.guard (lB P o (jd P ops K rest)) (kb o.dst (jd P ops K rest)) st
def lx (P:Program) (ops:Array Oper) (K:aj -> Prop):List Oper -> aj -> Prop
 | [],st=>K st
 | o :: rest,st=>kx ops o.guard (aPop P o (lx P ops K rest)) (kb o.dst (lx P ops K rest)) st
where aPop (P:Program) (o:Oper) (K:aj -> Prop) (st:aj):Prop:=bW P st.tab (a5 st) o.op (aK st o.dst K)
inductive l6 where
 | done
 | take (i:Nat) (s:l6)
 | exec (i:Nat) (s:l6)
 | two (i:Nat) (s:l6) (j:Nat) (t:l6)
 | three (i:Nat) (s:l6) (j:Nat) (t:l6) (k:Nat) (u:l6)
 | four (i:Nat) (s:l6) (j:Nat) (t:l6) (k:Nat) (u:l6) (l:Nat) (v:l6)
def l6.len:l6 -> Nat
 | .done=>0
 | .take _ s=>s.len+1
 | .exec _ s=>s.len+1
 | .two _ s _ t=>Nat.max s.len t.len+1
 | .three _ s _ t _ u=>Nat.max s.len (Nat.max t.len u.len)+1
 | .four _ s _ t _ u _ v=>Nat.max s.len (Nat.max t.len (Nat.max u.len v.len))+1
def dm (ops:Array Oper):l6 -> Array Bool -> Bool
 | .take i s,listed=>Region.free .any ops listed i && (Region.ready .any ops listed).contains i && dm ops s (listed.setIfInBounds i true)
 | .exec i s,listed=>decide (Region.ready .any ops listed=[i]) && dm ops s (listed.setIfInBounds i true)
 | .two i s j t,listed=>decide (Region.ready .any ops listed=[i,j]) && dm ops s (listed.setIfInBounds i true) && dm ops t (listed.setIfInBounds j true)
 | .three i s j t k u,listed=>decide (Region.ready .any ops listed=[i,j,k]) && dm ops s (listed.setIfInBounds i true) && dm ops t (listed.setIfInBounds j true) && dm ops u (listed.setIfInBounds k true)
 | .four i s j t k u l v,listed=>decide (Region.ready .any ops listed=[i,j,k,l]) && dm ops s (listed.setIfInBounds i true) && dm ops t (listed.setIfInBounds j true) && dm ops u (listed.setIfInBounds k true) && dm ops v (listed.setIfInBounds l true)
 | .done,listed=>(Region.ready .any ops listed).isEmpty
def pX (ops:Array Oper):List Nat -> l6 -> Array Bool -> Bool
 | i :: h,s,listed=>Region.free .any ops listed i && (Region.ready .any ops listed).contains i && pX ops h s (listed.setIfInBounds i true)
 | [],s,listed=>dm ops s listed
def tL (bu:Nat) (ids:List Nat):AV -> Prop
 | .osl id=>rj bu ids id
 | _=>True
def gH (P:Program) (bu:Nat) (ids:List Nat) (o:Oper) (K:aj -> Prop) (st:aj):Prop:=
 match o.op with
 | .assign x=>K (st.put o.dst (a5 st x))
 | .load _ _=>bW P st.tab (a5 st) o.op (aK st o.dst K)
 | .lookup t m k ok=>jB P t st.tab (a5 st m) (a5 st k) ok (aK st o.dst K)
 | .mapUpdate t m k v=>match a5 st m with
  | .osl id=>rj bu ids id /\ iv P t st (.osl id) (a5 st k) (a5 st v) (H2 o.dst K)
  | _=>False
 | .store t p x=>match a5 st p with
  | .op id i j=>rj bu ids id /\ mv P t st id i j (a5 st x) (H2 o.dst K)
  | _=>False
 | .alloc t=>match bX P t with
  | some z=>wN t st (.c z) o.dst K
  | none=>False
 | .box t x=>wN t st (a5 st x) o.dst K
 | .buildSlice t n parts=>dp P t n parts.toList st o.dst K
 | .makeSlice t l c=>o6 P t st (a5 st l) (a5 st c) o.dst K
 | .call c=>match c.callee with
  | .builtin .append=>match c.args.toList,c.argTypes.toList with
   | [x,y],[t,t']=>(t=t' /\ tL bu ids (a5 st x)) /\ iq P t st (a5 st x) (a5 st y) o.dst K
   | _,_=>False
  | .value f=>Gs (a5 st f) (yz P bu ids st c.args.toList o.dst K)
  | _=>False
 | _=>False
def uY (ids:List Nat):AV -> Prop
 | .op id _ _=>id ∉ ids
 | .rp _=>True
 | _=>False
def qX (ids:List Nat) (st:aj):Op -> Prop
 | .load _ x=>uY ids (a5 st x)
 | _=>True
def du (P:Program) (dst:Option Nat) (op:Op) (K:aj -> Prop) (st:aj):Prop:=
 match op with
 | .build t parts=>j6 P t st parts.toList dst K
 | op=>bW P st.tab (a5 st) op (aK st dst K)
def I7 (P:Program) (ids:List Nat) (o:Oper) (K:aj -> Prop) (st:aj):Prop:=qX ids st o.op /\ du P o.dst o.op K st
def tJ (bu:Nat) (ids:List Nat) (tab:af):AV -> Prop
 | .op id _ _=>id<bu /\ id ∉ ids /\ match tab.get id with
  | some _=>True
  | none=>False
 | _=>False
def oq (bu:Nat) (ids:List Nat) (st:aj):Op -> Prop
 | .load _ x=>tJ bu ids st.tab (a5 st x)
 | _=>True
def yH (P:Program) (bu:Nat) (ids:List Nat) (o:Oper) (K:aj -> Prop) (st:aj):Prop:=oq bu ids st o.op /\ du P o.dst o.op K st
def pV (P:Program) (ops:Array Oper) (bu:Nat) (ids:List Nat) (o:Option Oper) (K:aj -> Prop) (st:aj):Prop:=
 match o with
 | some o=>kx ops o.guard (yH P bu ids o K) (kb o.dst K) st
 | none=>False
def tg (P:Program) (ops:Array Oper) (ids:List Nat) (o:Option Oper) (K:aj -> Prop) (st:aj):Prop:=
 match o with
 | some o=>kx ops o.guard (I7 P ids o K) (kb o.dst K) st
 | none=>False
def cH (P:Program) (ops:Array Oper) (bu:Nat) (ids:List Nat) (o:Option Oper) (K:aj -> Prop) (st:aj):Prop:=
 match o with
 | some o=>kx ops o.guard (gH P bu ids o K) (kb o.dst K) st
 | none=>False
def cw (P:Program) (ops:Array Oper) (bu:Nat) (ids:List Nat) (K:aj -> Prop):l6 -> aj -> Prop
 | .done,st=>K st
 | .take i s,st=>pV P ops bu ids ops[i]? (cw P ops bu ids K s) st
 | .exec i s,st=>cH P ops bu ids ops[i]? (cw P ops bu ids K s) st
 | .two i s j t,st=>cH P ops bu ids ops[i]? (cw P ops bu ids K s) st /\ cH P ops bu ids ops[j]? (cw P ops bu ids K t) st
 | .three i s j t k u,st=>cH P ops bu ids ops[i]? (cw P ops bu ids K s) st /\ cH P ops bu ids ops[j]? (cw P ops bu ids K t) st /\ cH P ops bu ids ops[k]? (cw P ops bu ids K u) st
 | .four i s j t k u l v,st=>cH P ops bu ids ops[i]? (cw P ops bu ids K s) st /\ cH P ops bu ids ops[j]? (cw P ops bu ids K t) st /\ cH P ops bu ids ops[k]? (cw P ops bu ids K u) st /\ cH P ops bu ids ops[l]? (cw P ops bu ids K v) st
def jS (P:Program) (ops:Array Oper) (ids:List Nat) (K:aj -> Prop):List Nat -> aj -> Prop
 | [],st=>K st
 | i :: s,st=>tg P ops ids ops[i]? (jS P ops ids K s) st
def eX (st st':aj):Prop:=∀ cx a w L,aG cx a w st L -> ∃ L',aG cx a w st' L' /\ ∀ b,Sx cx w st.tab L b -> Sx cx w st'.tab L' b
theorem eX.reflH (st:aj):eX st st:=fun _ _ _ L h=>⟨L,h,fun _ hb=>hb⟩
inductive wk (P:Program) (ops:Array Oper) (K:aj -> Prop) (st:aj):Prop
 | quiet (hB:Region.lexB .any ops=true) (h:jd P ops K ops.toList st)
 | tail (n:Nat) (hB:Region.lexTailB .any ops n=true) (h:lx P ops (lk P ops K (ops.toList.drop n)) (ops.toList.take n) st)
 | held (ids:List Nat) (hd:List Nat) (s:l6) (hB:(Region.noSelect ops && pX ops hd s (Array.replicate ops.size false) && Nat.ble (hd.length+s.len) ops.size)=true) (K':aj -> Prop) (hK:∀ st,K' st -> ∃ st',eX st st' /\ K st') (h:(∀ id ∈ ids,(st.tab.get id).isSome=true) /\ jS P ops ids (cw P ops st.next ids K' s) hd st)
theorem aA {P:Program} {l:List Oper} {K:aj -> Prop} {st:aj} (hB:Region.lexB .any l.toArray=true) (h:jd P l.toArray K l st):wk P l.toArray K st:=.quiet hB h
theorem yT {P:Program} {l:List Oper} {K:aj -> Prop} {st:aj} (n:Nat) (hB:Region.lexTailB .any l.toArray n=true) (h:lx P l.toArray (lk P l.toArray K (l.drop n)) (l.take n) st):wk P l.toArray K st:=.tail n hB h
theorem aD {P:Program} {l:List Oper} {K:aj -> Prop} {st:aj} (ids:List Nat) (hd:List Nat) (s:l6) (hB:(Region.noSelect l.toArray && pX l.toArray hd s (Array.replicate l.toArray.size false) && Nat.ble (hd.length+s.len) l.toArray.size)=true) (hids:∀ id ∈ ids,(st.tab.get id).isSome=true) (h:jS P l.toArray ids (cw P l.toArray st.next ids K s) hd st):wk P l.toArray K st:=.held ids hd s hB K (fun st h1=>⟨st,.reflH st,h1⟩) ⟨hids,h⟩
def Ni (I:aj -> Prop) (st:aj):Prop:=∃ st',eX st st' /\ I st'
def nA (next:aj -> Prop) (Q:Exit -> aj -> Prop):Exit -> aj -> Prop
 | .normal,st=>next st
 | e,st=>Q e st
def gY (id:Nat) (Q:Exit -> aj -> Prop):Exit -> aj -> Prop
 | .exit id',st=>if id'=id then Q .normal st else Q (.exit id') st
 | e,st=>Q e st
def Ll (t:Bool) (x y:aj -> Prop) (st:aj):Prop:=match t with | true=>x st | false=>y st
theorem Ff {x y:aj -> Prop} {st:aj}:Ll true x y st=x st:=rfl
theorem AP {x y:aj -> Prop} {st:aj}:Ll false x y st=y st:=rfl
theorem i8 {t:Bool} {x y:aj -> Prop} {st:aj} (h1:t=true -> Ll true x y st) (h2:t=false -> Ll false x y st):Ll t x y st:=by
 cases t
 .exact h2 rfl
 .exact h1 rfl
def u2 (c:AV) (x y:aj -> Prop) (st:aj):Prop:=
 match c with
 | .c (.bool b)=>Ll b x y st
 | _=>False
def qn (I:aj -> Prop) (μ:aj -> Nat) (n:Nat) (st:aj):Prop:=∃ st',eX st st' /\ I st' /\ μ st'<n
def DD (P:Program) (ops:Array Oper) (draw:Bool) (K:aj -> Prop) (st:aj):Prop:=if draw=true then wk P ops K st else lk P ops K ops.toList st
def G6 (Q:Exit -> aj -> Prop):Exit -> aj -> Prop
 | .goto _,_=>False
 | e,st=>Q e st
def bD (P:Program):Code -> (Exit -> aj -> Prop) -> aj -> Prop
 | .skip,Q,st=>Q .normal st
 | .region _ ops draw,Q,st=>DD P ops draw (Q .normal) st
 | .seq x y,Q,st=>bD P x (nA (bD P y Q) Q) st
 | .cond c x y,Q,st=>u2 (a5 st c) (bD P x Q) (bD P y Q) st
 | .block id x,Q,st=>bD P x (gY id Q) st
 | .loop x,Q,st=>∃ (I:aj -> Prop) (μ:aj -> Nat),(∃ st',eX st st' /\ I st') /\ ∀ st,I st -> bD P x (nA (qn I μ (μ st)) Q) st
 | .exit id,Q,st=>Q (.exit id) st
 | .ret,Q,st=>Q .ret st
 | .rangeFunc g ps assign body,Q,st=>∀ (cx:Cx) (a:Act) (w:World) (L:Nat -> Value),aG cx a w st L -> (Code.rangeFunc g ps assign body).wp P (fun e a w=>∃ st L,Q e st /\ aG cx a w st L) a w
 | .label _,Q,st=>Q .normal st
 | .scope x,Q,st=>bD P x (G6 Q) st
 | _,_,_=>False
def Eh (P:Program) (x:Code) (Q:Exit -> aj -> Prop) (st:aj):Prop:=bD P (.loop x) Q st
theorem ae {P:Program} {x:Code} {Q:Exit -> aj -> Prop} {st:aj} (I:aj -> Prop) (μ:aj -> Nat) (h0:∃ st',eX st st' /\ I st') (h:∀ st,I st -> bD P x (nA (qn I μ (μ st)) Q) st):Eh P x Q st:=⟨I,μ,h0,h⟩
section
variable {P:Program} {Q:Exit -> aj -> Prop} {st:aj}
theorem xt:bD P .skip Q st=Q .normal st:=rfl
theorem y6 {id:Nat} {l:List Oper}:bD P (.region id l.toArray false) Q st=lk P l.toArray (Q .normal) l st:=by simp [bD,DD]
theorem yo {id:Nat} {l:List Oper}:bD P (.region id l.toArray true) Q st=wk P l.toArray (Q .normal) st:=by simp [bD,DD]
theorem AK {x y:Code}:bD P (.seq x y) Q st=bD P x (nA (bD P y Q) Q) st:=rfl
theorem yD {c:Operand} {x y:Code}:bD P (.cond c x y) Q st=u2 (a5 st c) (bD P x Q) (bD P y Q) st:=rfl
theorem wn {id:Nat} {x:Code}:bD P (.block id x) Q st=bD P x (gY id Q) st:=rfl
theorem xT {x:Code}:bD P (.loop x) Q st=Eh P x Q st:=rfl
theorem xr {id:Nat}:bD P (.exit id) Q st=Q (.exit id) st:=rfl
theorem Cy:bD P .ret Q st=Q .ret st:=rfl
theorem ub {next:aj -> Prop}:nA next Q .normal st=next st:=rfl
theorem yO {next:aj -> Prop} {id:Nat}:nA next Q (.exit id) st=Q (.exit id) st:=rfl
theorem BC {next:aj -> Prop}:nA next Q .ret st=Q .ret st:=rfl
theorem pe {id:Nat}:gY id Q .normal st=Q .normal st:=rfl
theorem ua {id:Nat}:gY id Q .ret st=Q .ret st:=rfl
theorem rM {id id':Nat}:gY id Q (.exit id') st=if id'=id then Q .normal st else Q (.exit id') st:=rfl
theorem za {b:Bool} {x y:aj -> Prop}:u2 (.c (.bool b)) x y st=Ll b x y st:=rfl
theorem Di {dst:Option Nat} {K:aj -> Prop}:kb dst K st=K (st.put dst (.c undef)):=rfl
theorem KV {dst:Option Nat} {K:aj -> Prop}:H2 dst K st=K (st.put dst .any):=rfl
theorem MP {dst:Option Nat} {K:aj -> Prop} {av:AV}:aK st dst K av=K (st.put dst av):=rfl
theorem LE {dst:Option Nat} {K:aj -> Prop} {av:AV}:sa dst K av st=K (st.put dst av):=rfl
theorem J3 {g:FuncId} {K:FuncId -> List AV -> Prop}:Gs (.c (.func (.func g) #[] #[])) K=K g []:=by simp [Gs]
theorem Gw {g:FuncId} {KB K:FuncId -> List AV -> Prop}:xq (.c (.func (.func g) #[] #[])) KB K=K g []:=by simp [xq,Gs]
theorem D1 {g:FuncId} {cs:List AV} {KB K:FuncId -> List AV -> Prop}:xq (.fn g cs) KB K=K g cs:=rfl
theorem CA {args:List Operand} {dst:Option Nat} {K:aj -> Prop} {g:FuncId} {cs:List AV}:tm P st args dst K g cs=gy none P st g (args.map (a5 st) ++ cs) (sa dst K):=rfl
theorem Cd {bu:Nat} {ids:List Nat} {args:List Operand} {dst:Option Nat} {K:aj -> Prop} {g:FuncId} {cs:List AV}:yz P bu ids st args dst K g cs=gy (some (bu,ids)) P st g (args.map (a5 st) ++ cs) (sa dst K):=rfl
theorem BU {args:List Operand} {dst:Option Nat} {K:aj -> Prop} {g:FuncId} {cs:List AV}:zc P st args dst K g cs = ∃ v,ax P g ((args.map (a5 st) ++ cs).map (fE st.tab)) ⟨.c v,[],0⟩ /\ K (st.put dst (.c v)):=rfl
section
variable {ops:Array Oper} {K:aj -> Prop} {dst:Option Tmp} {op:Op} {ty:TypeId} {pos:String} {aft:Array Edge} {gd:Option (Nat × Bool)} {rest:List Oper} {j:Nat} {want:Bool}
theorem Fb:lk P ops K [] st=K st:=rfl
theorem y8:lk P ops K (⟨dst,op,ty,pos,aft,none⟩ :: rest) st=j1 P ⟨dst,op,ty,pos,aft,none⟩ (lk P ops K rest) st:=rfl
def pA (v:AV) (want:Bool) (d:Nat) (yes no:aj -> Prop) (st:aj):Prop:=
 match v with
 | .c v=>match yv v with
  | some b=>Gt b want d yes no st
  | none=>no st
 | _=>False
def ni (d:Option Nat) (want:Bool) (yes no:aj -> Prop) (st:aj):Prop:=match d with | some d=>pA (st.get d) want d yes no st | none=>False
theorem xM {d:Nat} {yes no:aj -> Prop}:ni (some d) want yes no st=pA (st.get d) want d yes no st:=rfl
theorem uD {b:Bool} {d:Nat} {yes no:aj -> Prop}:pA (.c (.bool b)) want d yes no st=Gt b want d yes no st:=rfl
theorem rQ {d:Nat} {yes no:aj -> Prop}:pA (.c undef) want d yes no st=no st:=rfl
theorem zf:lk P ops K (⟨dst,op,ty,pos,aft,some (j,want)⟩ :: rest) st=ni ((ops[j]?).bind (·.dst)) want (j1 P ⟨dst,op,ty,pos,aft,some (j,want)⟩ (lk P ops K rest)) (kb dst (lk P ops K rest)) st:=rfl
theorem BI:lx P ops K [] st=K st:=rfl
theorem uW:lx P ops K (⟨dst,op,ty,pos,aft,none⟩ :: rest) st=bW P st.tab (a5 st) op (aK st dst (lx P ops K rest)):=rfl
theorem zd {ids:List Nat}:jS P ops ids K [] st=K st:=rfl
theorem wK {ids:List Nat} {i:Nat} {s:List Nat}:jS P ops ids K (i :: s) st=tg P ops ids ops[i]? (jS P ops ids K s) st:=rfl
theorem Bq {bu:Nat} {ids:List Nat}:cw P ops bu ids K .done st=K st:=rfl
theorem x8 {bu i:Nat} {ids:List Nat} {s:l6}:cw P ops bu ids K (.take i s) st=pV P ops bu ids ops[i]? (cw P ops bu ids K s) st:=rfl
theorem xA {bu i:Nat} {ids:List Nat} {s:l6}:cw P ops bu ids K (.exec i s) st=cH P ops bu ids ops[i]? (cw P ops bu ids K s) st:=rfl
theorem A9 {bu i j:Nat} {ids:List Nat} {s t:l6}:cw P ops bu ids K (.two i s j t) st=(cH P ops bu ids ops[i]? (cw P ops bu ids K s) st /\ cH P ops bu ids ops[j]? (cw P ops bu ids K t) st):=rfl
theorem vn {bu i j k:Nat} {ids:List Nat} {s t u:l6}:cw P ops bu ids K (.three i s j t k u) st=(cH P ops bu ids ops[i]? (cw P ops bu ids K s) st /\ cH P ops bu ids ops[j]? (cw P ops bu ids K t) st /\ cH P ops bu ids ops[k]? (cw P ops bu ids K u) st):=rfl
theorem tN {ids:List Nat}:tg P ops ids (some ⟨dst,op,ty,pos,aft,none⟩) K st=(qX ids st op /\ du P dst op K st):=rfl
theorem tT {bu:Nat} {ids:List Nat}:pV P ops bu ids (some ⟨dst,op,ty,pos,aft,none⟩) K st=(oq bu ids st op /\ du P dst op K st):=rfl
theorem tr {bu:Nat} {ids:List Nat}:pV P ops bu ids (some ⟨dst,op,ty,pos,aft,some (j,want)⟩) K st=ni ((ops[j]?).bind (·.dst)) want (yH P bu ids ⟨dst,op,ty,pos,aft,some (j,want)⟩ K) (kb dst K) st:=rfl
theorem tw {t:TypeId} {parts:List (Nat × Operand)}:du P dst (.build t parts.toArray) K st=j6 P t st parts dst K:=by simp [du]
theorem xd {x:Operand}:du P dst (.move x) K st=bW P st.tab (a5 st) (.move x) (aK st dst K):=rfl
theorem wP {c x y:Operand}:du P dst (.pick c x y) K st=bW P st.tab (a5 st) (.pick c x y) (aK st dst K):=rfl
theorem wm {t:TypeId} {x:Operand}:du P dst (.load t x) K st=bW P st.tab (a5 st) (.load t x) (aK st dst K):=rfl
theorem ui {s:TypeId} {x:Operand} {f:Nat}:du P dst (.fieldAddr s x f) K st=bW P st.tab (a5 st) (.fieldAddr s x f) (aK st dst K):=rfl
theorem uC {t:TypeId} {x y:Operand}:du P dst (.indexAddr t x y) K st=bW P st.tab (a5 st) (.indexAddr t x y) (aK st dst K):=rfl
theorem zi {o:BinOp} {t r:TypeId} {x y:Operand}:du P dst (.binOp o t x y r) K st=bW P st.tab (a5 st) (.binOp o t x y r) (aK st dst K):=rfl
theorem Cg {o:UnOp} {t:TypeId} {x:Operand}:du P dst (.unOp o t x) K st=bW P st.tab (a5 st) (.unOp o t x) (aK st dst K):=rfl
theorem pY {x:Operand} {i:Nat}:du P dst (.extract x i) K st=bW P st.tab (a5 st) (.extract x i) (aK st dst K):=rfl
theorem wT {c:Call}:du P dst (.call c) K st=bW P st.tab (a5 st) (.call c) (aK st dst K):=rfl
theorem A2 {bu:Nat} {ids:List Nat}:yH P bu ids ⟨dst,op,ty,pos,aft,gd⟩ K st=(oq bu ids st op /\ du P dst op K st):=rfl
theorem BN {bu:Nat} {ids:List Nat}:cH P ops bu ids (some ⟨dst,op,ty,pos,aft,none⟩) K st=gH P bu ids ⟨dst,op,ty,pos,aft,none⟩ K st:=rfl
def Df (P:Program) (bu:Nat) (ids:List Nat) (o:Oper) (K:aj -> Prop) (st:aj):Prop:=gH P bu ids o K st
theorem Bw {bu:Nat} {ids:List Nat} {o:Oper}:Df P bu ids o K st=gH P bu ids o K st:=rfl
theorem uf {bu:Nat} {ids:List Nat}:cH P ops bu ids (some ⟨dst,op,ty,pos,aft,some (j,want)⟩) K st=ni ((ops[j]?).bind (·.dst)) want (Df P bu ids ⟨dst,op,ty,pos,aft,some (j,want)⟩ K) (kb dst K) st:=rfl
theorem uH {bu:Nat} {ids:List Nat} {x:Operand}:gH P bu ids ⟨dst,.assign x,ty,pos,aft,gd⟩ K st=K (st.put dst (a5 st x)):=rfl
def yP (P:Program) (bu:Nat) (ids:List Nat) (t:TypeId) (p x:AV) (dst:Option Nat) (K:aj -> Prop) (st:aj):Prop:=
 match p with
 | .op id i j=>rj bu ids id /\ mv P t st id i j x (H2 dst K)
 | _=>False
theorem zb {bu:Nat} {ids:List Nat} {t:TypeId} {x:Operand}:gH P bu ids ⟨dst,.load t x,ty,pos,aft,gd⟩ K st=ji P t st.tab (a5 st x) (aK st dst K):=rfl
def F4 (P:Program) (bu:Nat) (ids:List Nat) (t:TypeId) (m k v:AV) (dst:Option Nat) (K:aj -> Prop) (st:aj):Prop:=
 match m with
 | .osl id=>rj bu ids id /\ iv P t st (.osl id) k v (H2 dst K)
 | _=>False
theorem wq {bu:Nat} {ids:List Nat} {t:TypeId} {p x:Operand}:gH P bu ids ⟨dst,.store t p x,ty,pos,aft,gd⟩ K st=yP P bu ids t (a5 st p) (a5 st x) dst K st:=rfl
theorem wd {bu:Nat} {ids:List Nat} {t:TypeId}:gH P bu ids ⟨dst,.alloc t,ty,pos,aft,gd⟩ K st=match bX P t with | some z=>wN t st (.c z) dst K | none=>False:=rfl
theorem t5 {bu:Nat} {ids:List Nat} {x y:Operand} {t t':TypeId}:gH P bu ids ⟨dst,.call ⟨.builtin .append,#[x,y],#[t,t']⟩,ty,pos,aft,gd⟩ K st=((t=t' /\ tL bu ids (a5 st x)) /\ iq P t st (a5 st x) (a5 st y) dst K):=rfl
theorem yU {bu:Nat} {ids:List Nat} {f:Operand} {args:List Operand} {ts:Array TypeId}:gH P bu ids ⟨dst,.call ⟨.value f,args.toArray,ts⟩,ty,pos,aft,gd⟩ K st=Gs (a5 st f) (yz P bu ids st args dst K):=by simp [gH]
theorem pf {bu:Nat} {ids:List Nat} {t:TypeId} {l c:Operand}:gH P bu ids ⟨dst,.makeSlice t l c,ty,pos,aft,gd⟩ K st=o6 P t st (a5 st l) (a5 st c) dst K:=rfl
theorem oe {bu:Nat} {ids:List Nat} {t:TypeId} {n:Nat} {parts:List (Nat × Operand)}:gH P bu ids ⟨dst,.buildSlice t n parts.toArray,ty,pos,aft,gd⟩ K st=dp P t n parts st dst K:=by simp [gH]
theorem yN {k:AV -> Prop} {tab:af} {ev:Operand -> AV} {x:Operand}:bW P tab ev (.move x) k=k (ev x):=rfl
theorem yh {k:AV -> Prop} {tab:af} {ev:Operand -> AV} {t:TypeId} {x:Operand}:bW P tab ev (.load t x) k=ji P t tab (ev x) k:=rfl
theorem u4 {k:AV -> Prop} {tab:af} {ev:Operand -> AV} {t:TypeId} {x:Operand} {f:Nat}:bW P tab ev (.fieldAddr t x f) k=l8 P t tab (ev x) f k:=rfl
theorem vy {k:AV -> Prop} {tab:af} {ev:Operand -> AV} {t:TypeId} {x i:Operand}:bW P tab ev (.indexAddr t x i) k=ib P t tab (ev x) (ev i) k:=rfl
theorem Bm {k:AV -> Prop} {tab:af} {ev:Operand -> AV} {o:BinOp} {t t2:TypeId} {x y:Operand}:bW P tab ev (.binOp o t x y t2) k=tE P o t (ev x) (ev y) k:=rfl
theorem Fd {k:AV -> Prop} {tab:af} {ev:Operand -> AV} {o:UnOp} {t:TypeId} {x:Operand}:bW P tab ev (.unOp o t x) k=Kk o (ev x) k:=rfl
theorem rU {k:AV -> Prop} {tab:af} {ev:Operand -> AV} {x:Operand} {i:Nat}:bW P tab ev (.extract x i) k=jb (ev x) i k:=rfl
theorem Cj {k:AV -> Prop} {tab:af} {ev:Operand -> AV} {x:Operand} {t:TypeId}:bW P tab ev (.call ⟨.builtin .len,#[x],#[t]⟩) k=p7 P t tab (ev x) k:=rfl
theorem Ch:jd P ops K [] st=K st:=rfl
theorem wo:jd P ops K (⟨dst,op,ty,pos,aft,none⟩ :: rest) st=lB P ⟨dst,op,ty,pos,aft,none⟩ (jd P ops K rest) st:=rfl
theorem uN:jd P ops K (⟨dst,op,ty,pos,aft,some (j,want)⟩ :: rest) st=ni ((ops[j]?).bind (·.dst)) want (lB P ⟨dst,op,ty,pos,aft,some (j,want)⟩ (jd P ops K rest)) (kb dst (jd P ops K rest)) st:=rfl
def uo (c a b:AV) (dst:Option Nat) (K:aj -> Prop) (st:aj):Prop:=FO c a b (aK st dst K)
def A8 (t:Bool) (a b:AV) (dst:Option Nat) (K:aj -> Prop) (st:aj):Prop:=match t with | true=>K (st.put dst a) | false=>K (st.put dst b)
theorem A7 {a b:AV}:A8 true a b dst K st=K (st.put dst a):=rfl
theorem x5 {a b:AV}:A8 false a b dst K st=K (st.put dst b):=rfl
theorem ze {t:Bool} {a b:AV} (h1:t=true -> A8 true a b dst K st) (h2:t=false -> A8 false a b dst K st):A8 t a b dst K st:=by
 cases t
 .exact h2 rfl
 .exact h1 rfl
theorem ws {t:Bool} {a b:AV}:uo (.c (.bool t)) a b dst K st=A8 t a b dst K st:=by cases t<;>rfl
theorem zl {tab:af} {ev:Operand -> AV} {dst:Option Nat} {x y z:Operand}:bW P tab ev (.pick x y z) (aK st dst K)=uo (ev x) (ev y) (ev z) dst K st:=rfl
theorem Fj {x:Operand}:j1 P ⟨dst,.move x,ty,pos,aft,gd⟩ K st=K (st.put dst (a5 st x)):=rfl
theorem xW {x:Operand}:j1 P ⟨dst,.assign x,ty,pos,aft,gd⟩ K st=K (st.put dst (a5 st x)):=rfl
theorem Fp {c x y:Operand}:j1 P ⟨dst,.pick c x y,ty,pos,aft,gd⟩ K st=uo (a5 st c) (a5 st x) (a5 st y) dst K st:=rfl
theorem EX {t:TypeId} {x:Operand}:j1 P ⟨dst,.load t x,ty,pos,aft,gd⟩ K st=ji P t st.tab (a5 st x) (aK st dst K):=rfl
theorem AW {t:TypeId} {x:Operand} {f:Nat}:j1 P ⟨dst,.fieldAddr t x f,ty,pos,aft,gd⟩ K st=l8 P t st.tab (a5 st x) f (aK st dst K):=rfl
theorem Bx {t:TypeId} {x i:Operand}:j1 P ⟨dst,.indexAddr t x i,ty,pos,aft,gd⟩ K st=ib P t st.tab (a5 st x) (a5 st i) (aK st dst K):=rfl
theorem G3 {o:BinOp} {t t2:TypeId} {x y:Operand}:j1 P ⟨dst,.binOp o t x y t2,ty,pos,aft,gd⟩ K st=tE P o t (a5 st x) (a5 st y) (aK st dst K):=rfl
theorem LS {o:UnOp} {t:TypeId} {x:Operand}:j1 P ⟨dst,.unOp o t x,ty,pos,aft,gd⟩ K st=Kk o (a5 st x) (aK st dst K):=rfl
theorem u5 {x:Operand} {i:Nat}:j1 P ⟨dst,.extract x i,ty,pos,aft,gd⟩ K st=jb (a5 st x) i (aK st dst K):=rfl
theorem HU {x y:Operand} {t t':TypeId}:j1 P ⟨dst,.call ⟨.builtin .max,#[x,y],#[t,t']⟩,ty,pos,aft,gd⟩ K st=IQ (fun a b=>max a b) [a5 st x,a5 st y] (aK st dst K):=rfl
theorem GX {x y:Operand} {t t':TypeId}:j1 P ⟨dst,.call ⟨.builtin .min,#[x,y],#[t,t']⟩,ty,pos,aft,gd⟩ K st=IQ (fun a b=>min a b) [a5 st x,a5 st y] (aK st dst K):=rfl
theorem Hb {x:Operand} {t:TypeId}:j1 P ⟨dst,.call ⟨.builtin .len,#[x],#[t]⟩,ty,pos,aft,gd⟩ K st=(sv P t st.tab (a5 st x) (aK st dst K) \/ p7 P t st.tab (a5 st x) (aK st dst K)):=rfl
theorem Bh {x:Operand} {t:TypeId}:j1 P ⟨dst,.call ⟨.builtin .clear,#[x],#[t]⟩,ty,pos,aft,gd⟩ K st=nZ P t st (a5 st x) dst K:=rfl
theorem wi {t:TypeId}:j1 P ⟨dst,.makeMap t none,ty,pos,aft,gd⟩ K st=K ({ st with tab:=(st.next,some (.map [])) :: st.tab,next:=st.next+1 }.put dst (.osl st.next)):=by simp [j1,wv]
theorem xC {t:TypeId} {m k:Operand} {ok:Bool}:j1 P ⟨dst,.lookup t m k ok,ty,pos,aft,gd⟩ K st=jB P t st.tab (a5 st m) (a5 st k) ok (aK st dst K):=rfl
theorem rT {t:TypeId} {m k v:Operand}:j1 P ⟨dst,.mapUpdate t m k v,ty,pos,aft,gd⟩ K st=iv P t st (a5 st m) (a5 st k) (a5 st v) (H2 dst K):=rfl
theorem xY {x y:Operand} {t t':TypeId}:j1 P ⟨dst,.call ⟨.builtin .append,#[x,y],#[t,t']⟩,ty,pos,aft,gd⟩ K st=(t=t' /\ iq P t st (a5 st x) (a5 st y) dst K):=rfl
theorem tG {g:FuncId} {caps:List Operand}:j1 P ⟨dst,.makeFunc (.func g) #[] caps.toArray,ty,pos,aft,gd⟩ K st=aK st dst K (.fn g (caps.map (a5 st))):=by simp [j1,bW,Kq,DK]
theorem CK {f:Operand} {args:List Operand} {ts:Array TypeId}:j1 P ⟨dst,.call ⟨.value f,args.toArray,ts⟩,ty,pos,aft,gd⟩ K st=xq (a5 st f) (yj P st args dst K) (tm P st args dst K):=by simp [j1]
theorem GC {t:TypeId} {x:Operand}:j1 P ⟨dst,.box t x,ty,pos,aft,gd⟩ K st=wN t st (a5 st x) dst K:=rfl
theorem BR {t:TypeId}:j1 P ⟨dst,.alloc t,ty,pos,aft,gd⟩ K st=match bX P t with | some z=>wN t st (.c z) dst K | none=>False:=rfl
theorem Bp {t:TypeId} {p x:Operand}:j1 P ⟨dst,.store t p x,ty,pos,aft,gd⟩ K st=oC P t st (a5 st p) (a5 st x) (H2 dst K):=rfl
theorem p5 {t:TypeId} {n:Nat} {parts:List (Nat × Operand)}:j1 P ⟨dst,.buildSlice t n parts.toArray,ty,pos,aft,gd⟩ K st=dp P t n parts st dst K:=by simp [j1]
theorem rR {t:TypeId} {l c:Operand}:j1 P ⟨dst,.makeSlice t l c,ty,pos,aft,gd⟩ K st=o6 P t st (a5 st l) (a5 st c) dst K:=rfl
theorem uV {tab:af} {ev:Operand -> AV} {t:TypeId} {x:Operand} {lo hi mx:Option Operand} {k:AV -> Prop}:bW P tab ev (.slice t x lo hi mx) k=kk P t (ev x) (lo.map ev) (hi.map ev) (mx.map ev) k:=rfl
theorem ug {t:TypeId} {x:Operand} {lo hi mx:Option Operand}:du P dst (.slice t x lo hi mx) K st=bW P st.tab (a5 st) (.slice t x lo hi mx) (aK st dst K):=rfl
theorem Bu {t:TypeId} {parts:List (Nat × Operand)}:j1 P ⟨dst,.build t parts.toArray,ty,pos,aft,gd⟩ K st=j6 P t st parts dst K:=by simp [j1]
theorem Bn {x:Operand}:lB P ⟨dst,.move x,ty,pos,aft,gd⟩ K st=K (st.put dst (a5 st x)):=rfl
theorem vF {x:Operand}:lB P ⟨dst,.assign x,ty,pos,aft,gd⟩ K st=K (st.put dst (a5 st x)):=rfl
theorem Cv {c x y:Operand}:lB P ⟨dst,.pick c x y,ty,pos,aft,gd⟩ K st=uo (a5 st c) (a5 st x) (a5 st y) dst K st:=rfl
theorem BP {t:TypeId} {x:Operand}:lB P ⟨dst,.load t x,ty,pos,aft,gd⟩ K st=ji P t st.tab (a5 st x) (aK st dst K):=rfl
theorem xH {t:TypeId} {x:Operand} {f:Nat}:lB P ⟨dst,.fieldAddr t x f,ty,pos,aft,gd⟩ K st=l8 P t st.tab (a5 st x) f (aK st dst K):=rfl
theorem yB {t:TypeId} {x i:Operand}:lB P ⟨dst,.indexAddr t x i,ty,pos,aft,gd⟩ K st=ib P t st.tab (a5 st x) (a5 st i) (aK st dst K):=rfl
theorem CQ {o:BinOp} {t t2:TypeId} {x y:Operand}:lB P ⟨dst,.binOp o t x y t2,ty,pos,aft,gd⟩ K st=tE P o t (a5 st x) (a5 st y) (aK st dst K):=rfl
theorem G4 {o:UnOp} {t:TypeId} {x:Operand}:lB P ⟨dst,.unOp o t x,ty,pos,aft,gd⟩ K st=Kk o (a5 st x) (aK st dst K):=rfl
theorem Dc {x:Operand} {t:TypeId}:lB P ⟨dst,.call ⟨.builtin .len,#[x],#[t]⟩,ty,pos,aft,gd⟩ K st=p7 P t st.tab (a5 st x) (aK st dst K):=rfl
theorem B3 {f:Operand} {args:List Operand} {ts:Array TypeId}:lB P ⟨dst,.call ⟨.value f,args.toArray,ts⟩,ty,pos,aft,gd⟩ K st=Gs (a5 st f) (zc P st args dst K):=by simp [lB]
end
end
section
variable {P:Program} {cx:Cx} {a:Act} {w w':World} {tab:af} {st:aj} {L:Nat -> Value} {nx:Nat}
abbrev E8 (cx:Cx) (K:aj -> Prop):Act -> World -> Prop:=fun a w=>∃ st L,K st /\ aG cx a w st L
theorem aI {o:Oper} {v:Value} {w':World} {K:Act -> World -> Prop} {Q:Exit -> Act -> World -> Prop} (h:(execOp a.eval o).run P w=.ok (.value v) w') (hk:K (a.put o.dst v) w'):o.wp P a w K Q:=by
 unfold Oper.wp;rw [h];exact hk
theorem dC {o:Oper} {w':World} {K:Act -> World -> Prop} {Q:Exit -> Act -> World -> Prop} (h:(execOp a.eval o).run P w=.ok .skip w') (hk:K (a.put o.dst undef) w'):o.wp P a w K Q:=by
 unfold Oper.wp;rw [h];exact hk
theorem pk {o:Oper} {K:aj -> Prop} {Q:Exit -> Act -> World -> Prop} (h:aG cx a w st L) (hp:bW P st.tab (a5 st) o.op (aK st o.dst K)):o.wp P a w (E8 cx K) Q:=by
 obtain ⟨v,av,h1,h2,h3,h4,_⟩:=jw h.lay (fun id o hid=>(h.young id o hid).2) (ak h) hp;exact aI (h4 w (Below.refl _ _)) ⟨_,L,h1,ba h h2 h3 o.dst⟩
theorem uc {f:AV} {K:FuncId -> List AV -> Prop} {v:Value} (hv:bx cx w tab L v f) (hl:f.lt nx) (h:Gs f K):∃ g xs cs,v=.func (.func g) #[] xs /\ xs.size=cs.length /\ (∀ (j:Nat) (x:Value) (av:AV),xs[j]? = some x -> cs[j]? = some av -> bx cx w tab L x av) /\ K g cs /\ ∀ av ∈ cs,av.lt nx:=by
 unfold Gs at h;split at h
 .rename_i g first caps
  obtain ⟨⟨rfl,rfl⟩,h⟩:=h;exact ⟨g,#[],[],hv.c_inv,rfl,fun j x av h1 _=>by simp at h1,h,by simp⟩
 .rename_i g cs;obtain ⟨xs,h1,h2,h3⟩:=hv.fn_inv;exact ⟨g,xs,cs,h1,h2,h3,h,ag.1 hl⟩
 .exact h.elim
theorem D7 (h:aG cx a w st L) {args:Array Operand} {xs:Array Value} {cs:List AV} (hn:xs.size=cs.length) (hx:∀ (j:Nat) (x:Value) (av:AV),xs[j]? = some x -> cs[j]? = some av -> bx cx w st.tab L x av) :
  (xs ++ args.map a.eval).size=(cs ++ args.toList.map (a5 st)).length /\ ∀ (j:Nat) (v:Value) (av:AV),(xs ++ args.map a.eval)[j]? = some v -> (cs ++ args.toList.map (a5 st))[j]? = some av -> bx cx w st.tab L v av:=by
 refine ⟨by simp [hn],fun j v av h1 h2=>?_⟩;by_cases hj:j<xs.size
 .rw [Py hj] at h1;rw [N1 (by omega)] at h2;exact hx j v av h1 h2
 .rw [Array.getElem?_append_right (by omega)] at h1;rw [NY (by omega),<- hn] at h2;rw [Array.getElem?_map] at h1;rw [Nu,OJ] at h2
  cases hk:args[j - xs.size]? with
  | none=>simp [hk] at h1
  | some x=>
   simp [hk] at h1 h2;subst h1;subst h2;exact (ak h x).1
theorem pq (h:aG cx a w st L) {args:Array Operand} {xs:Array Value} {cs:List AV} (hn:xs.size=cs.length) (hx:∀ (j:Nat) (x:Value) (av:AV),xs[j]? = some x -> cs[j]? = some av -> bx cx w st.tab L x av) :
  (args.map a.eval ++ xs).size=(args.toList.map (a5 st) ++ cs).length /\ ∀ (j:Nat) (v:Value) (av:AV),(args.map a.eval ++ xs)[j]? = some v -> (args.toList.map (a5 st) ++ cs)[j]? = some av -> bx cx w st.tab L v av:=by
 refine ⟨by simp [hn],fun j v av h1 h2=>?_⟩;by_cases hj:j<args.size
 .rw [Py (by simpa using hj),Array.getElem?_map,Nx hj] at h1;rw [N1 (by simpa using hj),Nu,OJ,Nx hj] at h2;simp at h1 h2;subst h1;subst h2;exact (ak h _).1
 .rw [Array.getElem?_append_right (by simpa using hj)] at h1;rw [NY (by simpa using hj)] at h2;simp at h1 h2;exact hx _ v av h1 h2
theorem xg (h:aG cx a w st L) {f:Operand} {args:Array Operand} {dst:Option Nat} {K:aj -> Prop} (hp:xq (a5 st f) (yj P st args.toList dst K) (tm P st args.toList dst K)) :
  ∃ (g:FuncId) (zs:Array Value) (avs:List AV),(fY P g -> ∀ (o:Oper) (ts:Array TypeId),o.op=.call ⟨.value f,args,ts⟩ -> (execOp a.eval o).run P w=.ok (.enter g zs) w) /\ zs.size=avs.length /\
   (∀ (j:Nat) (v:Value) (av:AV),zs[j]? = some v -> avs[j]? = some av -> bx cx w st.tab L v av /\ av.lt st.next) /\ gy none P st g avs (sa dst K):=by
 unfold xq at hp;split at hp
 .rename_i g bs hf;have hv:=(ak h f).1;have hl:=(ak h f).2;rw [hf] at hv hl;obtain ⟨xs,hg,hxn,hxr⟩:=hv.bfn_inv;have hargs:=D7 h (args:=args) hxn hxr;refine ⟨g,xs ++ args.map a.eval,bs ++ args.toList.map (a5 st),fun hent o ts ho=>?_,hargs.1,fun j v av h1 h2=>⟨hargs.2 j v av h1 h2,?_⟩,hp⟩
  .have:=hent (xs ++ args.map a.eval) w;simp [execOp,ho,Sem.run_bind,resolve,hg,Deferred.ofValue,invoke,this]
  .rcases NK.1 (Nr h2) with h3 | h3
   .exact ag.1 hl av h3
   .obtain ⟨x,_,rfl⟩:=NC.1 h3;exact (ak h x).2
 .obtain ⟨g,xs,cs,hg,hxn,hxr,hp,hcs⟩:=uc (ak h f).1 (ak h f).2 hp;have hargs:=pq h (args:=args) hxn hxr;refine ⟨g,args.map a.eval ++ xs,args.toList.map (a5 st) ++ cs,fun hent o ts ho=>?_,hargs.1,fun j v av h1 h2=>⟨hargs.2 j v av h1 h2,?_⟩,hp⟩
  .have:=hent (args.map a.eval ++ xs) w;simp [execOp,ho,Sem.run_bind,resolve,hg,Deferred.ofValue,invoke,this]
  .rcases NK.1 (Nr h2) with h3 | h3
   .obtain ⟨x,_,rfl⟩:=NC.1 h3;exact (ak h x).2
   .exact hcs av h3
theorem kF {t:TypeId} {parts:Array (Nat × Operand)} {dst:Option Nat} {K:aj -> Prop} (h:aG cx a w st L) (hp:j6 P t st parts.toList dst K):∃ v,∃ cs,bx cx w st.tab L v (.agg cs) /\ (AV.agg cs).lt st.next /\ (∀ w',(Instr.build t (parts.map fun (p:Nat × Operand)=>(p.1,a.eval p.2))).run P w'=.ok v w') /\ K (st.put dst (.agg cs)):=by
 unfold j6 at hp;split at hp
 .rename_i places zs ht;split at hp
  .rename_i cs hf;obtain ⟨h1,h2⟩:=hp;obtain ⟨v,h3,h4,h5⟩:=F5 h ht hf h1;exact ⟨v,cs,h3,h4,by simpa using h5,h2⟩
  .exact hp.elim
 .exact hp.elim
theorem BG {t:TypeId} {x:Operand} {lo hi mx:Option Operand} {K:aj -> Prop} {Q:Exit -> Act -> World -> Prop} {ty:TypeId} {dst:Option Nat} {pos:String} {aft:Array Edge} {gd:Option (Nat × Bool)} (h:aG cx a w st L)
  (hp:jK P t st (a5 st x) (lo.map (a5 st)) (hi.map (a5 st)) (mx.map (a5 st)) dst K):Oper.wp (P:=P) ⟨dst,.slice t x lo hi mx,ty,pos,aft,gd⟩ a w (E8 cx K) Q:=by
 unfold jK at hp;split at hp
 .rename_i id hx;have hv:=(ak h x).1;rw [hx] at hv;split at hp
  .rename_i e sz rows hid;unfold mQ at hp;split at hp
   .rename_i l h' hl hh;obtain ⟨⟨h1,h2⟩,⟨rfl,h4,h5,h6⟩,h7⟩:=hp;obtain ⟨hu,hsz⟩:=gX (P:=P) (t:=t) (by omega);have hvL:=hv.osl_inv _ _ (cD hid);obtain ⟨hrow,xs,hown,hone,hx'⟩:=h.lay.objs id _ hid;have hs:=cP (P:=P) (t:=(bf P t).1) (by omega) w;rw [hsz,h1] at hs
    have key:∀ A cap,L id=.slice A rows.length cap -> rows.length<=cap -> ∃ m,h'.toNat<=m /\ m<=cap /\ (Instr.sliceBounds true rows.length cap (lo.map a.eval) (hi.map a.eval) (mx.map a.eval)).run P w=.ok (0,h'.toNat,m) w:=by
     intro A cap hL hc;have hlo:=oL (d:=0) (n:=0) (fun x=>(ak h x).1) hl (by omega) rfl;have hhi:=oL (d:=rows.length) (n:=h'.toNat) (fun x=>(ak h x).1) hh (by omega) rfl
     cases mx with
     | none=>exact ⟨cap,by omega,Nz _,fP hlo hhi (.inl ⟨rfl,rfl⟩) (by omega) (by omega)⟩
     | some q=>
      have hq:=(ak h q).1;simp only [N9] at h6 ⊢;unfold AU at h6;split at h6
      .rename_i hq';cases hq'
      .rename_i k m hq'
       injection hq' with hq'
       rw [hq'] at hq;obtain ⟨rfl,hb⟩:=h6;refine ⟨m.toNat,Nz _,by omega,fP hlo hhi (.inr ⟨rfl,⟨k,by rw [hq.c_inv,OT h4]⟩,fun hn=>?_⟩) (by omega) (by omega)⟩
       cases hi with
       | none=>simp at hb
       | some _=>cases hn
      .exact h6.elim
    rcases hown.2 with ⟨hL,h0⟩|⟨g,cap,cur,hL,hb,hh',hc,hm,hcs,htake⟩
    .obtain ⟨m,hm1,hm2,hr⟩:=key none 0 (by rw [hL,h0]) (by omega);have hm0:m=0:=(by omega);have hn0:h'.toNat=0:=(by omega);refine aI (v:=.slice none 0 0) ?_ ⟨_,_,h7,jP (n:=h'.toNat) h hid (by omega) (.inl ⟨hL,rfl⟩) dst⟩;rw [h0] at hr;simp [execOp,Sem.run_bind,hvL,hL,Instr.sliceAt,Instr.slice,run_underlying hu,hr,hs,hm0,hn0]
    .obtain ⟨m,hm1,hm2,hr⟩:=key _ cap hL hc;refine aI (v:=.slice (some ⟨g,0,none⟩) h'.toNat m) ?_ ⟨_,_,h7,jP (n:=h'.toNat) h hid (by omega) (.inr ⟨g,cap,m,hL,rfl,hm1,hm2⟩) dst⟩;simp [execOp,Sem.run_bind,hvL,hL,Instr.sliceAt,Instr.slice,run_underlying hu,hr,hs,Addr.add_lit]
   .exact hp.elim
  .exact hp.elim
 .exact pk (o:=⟨dst,.slice t x lo hi mx,ty,pos,aft,gd⟩) h (by exact hp)
theorem MB {o:Oper} {K:aj -> Prop} {Q:Exit -> Act -> World -> Prop} (h:aG cx a w st L) (hp:j1 P o K st):o.wp P a w (E8 cx K) Q:=by
 obtain ⟨dst,op,ty,pos,aft,gd⟩:=o;unfold j1 at hp;simp only at hp;split at hp
 .rename_i t x;obtain ⟨h1,h2⟩:=hp;have he:=ak h x;obtain ⟨h3,h4⟩:=nK (P:=P) (t:=t) h he.1 he.2 h1 dst;exact aI (by simp [execOp,Sem.run_bind,h3]) ⟨_,_,h2,h4⟩
 .rename_i t;split at hp
  .rename_i z hz;obtain ⟨h1,h2⟩:=hp;obtain ⟨h3,h4⟩:=nK (P:=P) (t:=t) (av:=.c z) h (.tree (.c z)) trivial h1 dst;exact aI (by simp [execOp,Sem.run_bind,nV hz,h3]) ⟨_,_,h2,h4⟩
  .exact hp.elim
 .rename_i t p x;unfold oC at hp;split at hp
  .rename_i id i j hpe;split at hp
   .rename_i ty cells hid;obtain ⟨rfl,h0,h1,h2,h3,h4⟩:=hp;have hpv:=(ak h p).1;rw [hpe] at hpv;have hx:=ak h x;obtain ⟨w',h5,h6,_⟩:=jo h hpv hid hx.1 hx.2 h0 h1 h2 h3 dst;exact dC (by simp [execOp,Sem.run_bind,h5]) ⟨_,_,h4,h6⟩
   .rename_i e sz rows hid;obtain ⟨hi,h0,h1,h2,h3,h3',h4⟩:=hp;have hpv:=(ak h p).1;rw [hpe] at hpv;have hx:=ak h x;obtain ⟨w',h5,h6,_⟩:=jC h hpv hid hx.1 hx.2 hi h0 h1 h2 h3 h3' dst;exact dC (by simp [execOp,Sem.run_bind,h5]) ⟨_,_,h4,h6⟩
   .rename_i e sz rows hid;obtain ⟨hi,h0,h1,h2,h3,h4⟩:=hp;have hpv:=(ak h p).1;rw [hpe] at hpv;have hx:=ak h x;obtain ⟨w',h5,h6,_⟩:=iI h hpv hid hx.1 hx.2 hi h0 h1 h2 h3 dst;exact dC (by simp [execOp,Sem.run_bind,h5]) ⟨_,_,h4,h6⟩
   .exact hp.elim
  .exact hp.elim
 .rename_i t n parts;unfold dp at hp
  replace h:=ff (fN (parts.toList.flatMap fun (p:Nat × Operand)=>am (a5 st p.2))) h
  unfold fu at hp;split at hp
  .rename_i e sz by_ ht;split at hp
   .obtain ⟨⟨h1,rfl,h3,h5⟩,h6⟩:=hp;obtain ⟨v',w',L',h7,h8,_⟩:=iD h ht h1 h3 h5 dst;refine aI ?_ ⟨_,_,h6,h8⟩;simp only [Pm] at h7;simp [execOp,Sem.run_bind];simp at h7;simp [h7]
   .obtain ⟨⟨h1,rfl,h3,h5⟩,h6⟩:=hp;obtain ⟨v',w',L',h7,h8,_⟩:=oj h ht h1 h3 h5 dst;refine aI ?_ ⟨_,_,h6,h8⟩;simp only [Pm] at h7;simp [execOp,Sem.run_bind];simp at h7;simp [h7]
  .exact hp.elim
 .rename_i t l c;unfold o6 at hp;split at hp
  .rename_i e sz by_ k1 n k2 m ht hl hc;split at hp
   .rename_i z hz;obtain ⟨⟨rfl,h1,h2,h3,h4⟩,h5⟩:=hp;have hl':=(ak h l).1;have hc':=(ak h c).1;rw [hl] at hl';rw [hc] at hc';obtain ⟨v',w',L',h6,h7,_⟩:=tX (k1:=k1) (k2:=k2) h ht hz h1 h2 h3 h4 dst;exact aI (by simp [execOp,Sem.run_bind,hl'.c_inv,hc'.c_inv,h6]) ⟨_,_,h5,h7⟩
   .exact hp.elim
  .exact hp.elim
 .rename_i t parts;obtain ⟨v,cs,h1,h2,h3,h4⟩:=kF h hp;refine aI ?_ ⟨_,_,h4,ba h h1 h2 dst⟩;simp [execOp,Sem.run_bind,h3 w]
 .rename_i t x lo hi mx;exact BG h hp
 .rename_i t r;obtain ⟨hr,hp⟩:=hp
  cases r with
  | some r=>cases hr
  | none=>
   obtain ⟨h1,h2⟩:=pS (P:=P) (t:=t) h dst;exact aI (by simp [execOp,Sem.run_bind,h1]) ⟨_,_,hp,h2⟩
 .rename_i t m k ok;obtain ⟨r,av,h1,h2,h3,h4⟩:=ot (nx:=st.next) h.lay (ak h m).1 (ak h k).1 hp;exact aI (by simp [execOp,Sem.run_bind,h4]) ⟨_,_,h1,ba h h2 h3 dst⟩
 .rename_i t m k v;obtain ⟨w',st',h1,h2,h3,_⟩:=oB h (ak h m).1 (ak h k).1 (ak h v).1 dst hp;exact dC (by simp [execOp,Sem.run_bind,h1]) ⟨_,_,h2,h3⟩
 .rename_i c;obtain ⟨callee,args,argTypes⟩:=c;simp only at hp;split at hp
  .split at hp
   .rename_i x y t t' h1 h2;obtain rfl:args = #[x,y]:=by cases args;simp_all
    obtain rfl:argTypes = #[t,t']:=by cases argTypes;simp_all
    obtain ⟨rfl,hp⟩:=hp;unfold iq at hp;split at hp
    .rename_i hnn;obtain ⟨e1,e2⟩:=lC hnn;have hx1:=(ak h x).1;have hy1:=(ak h y).1;rw [e1] at hx1;rw [e2] at hy1;have hx2:=hx1.c_inv;have hy2:=hy1.c_inv;have hr:=gW (ty:=ty) (w:=w) hp.1;exact aI (by simp [execOp,Sem.run_bind,resolve,invoke,builtin,hx2,hy2,hr]) ⟨_,_,hp.2,ba h (.tree (.c _)) trivial dst⟩
    unfold jg at hp;split at hp
    .rename_i e sz by_ ht;split at hp
     .rename_i oid rows rows2 hx hy;obtain ⟨⟨h3,h4⟩,h5⟩:=hp;obtain ⟨v',w',L',h6,h7,_⟩:=oz (ty:=ty) h (ak h x).1 (ak h y).1 ht hx hy (by simpa [maxLen] using h3) h4 dst;exact aI (by simp [execOp,Sem.run_bind,resolve,invoke,builtin,h6]) ⟨_,_,h5,h7⟩
     .split at hp
      .rename_i oid rows rows2 hx hy;obtain ⟨⟨h3,h4⟩,h5⟩:=hp;obtain ⟨v',w',L',h6,h7,_⟩:=lN (ty:=ty) h (ak h x).1 (ak h y).1 ht hx hy (by simpa [maxLen] using h3) h4 dst;exact aI (by simp [execOp,Sem.run_bind,resolve,invoke,builtin,h6]) ⟨_,_,h5,h7⟩
      .exact hp.elim
    .exact hp.elim
   .exact hp.elim
  .unfold tS at hp;split at hp
   .rename_i x t h1 h2;obtain rfl:args = #[x]:=by cases args;simp_all
    obtain rfl:argTypes = #[t]:=by cases argTypes;simp_all
    obtain ⟨w',st',h3,h4,h5,_⟩:=xh (ty:=ty) h (ak h x).1 dst hp;exact aI (by simp [execOp,Sem.run_bind,resolve,invoke,builtin,h3]) ⟨_,_,h4,h5⟩
   .exact hp.elim
  .rcases hp with hp | hp
   .unfold y2 at hp;split at hp
    .rename_i x t h1 h2;obtain rfl:args = #[x]:=by cases args;simp_all
     obtain rfl:argTypes = #[t]:=by cases argTypes;simp_all
     obtain ⟨r,av,h3,h4,h5,h6⟩:=zr (ty:=ty) (nx:=st.next) h.lay (ak h x).1 hp;exact aI (by simp [execOp,Sem.run_bind,resolve,invoke,builtin,h6]) ⟨_,_,h3,ba h h4 h5 dst⟩
    .exact hp.elim
   .exact pk h hp
  .rename_i f;obtain ⟨g,zs,avs,hrun0,hsz,hlt,hp⟩:=xg h hp;by_cases hmeth:wO none P st g avs (sa dst K)
   .obtain ⟨hent,ids0,_,hc⟩:=tU h hsz (fun j v av h1 h2=>(hlt j v av h1 h2).1) hmeth dst;unfold Oper.wp;rw [hrun0 hent _ argTypes rfl];show Calls P g zs w _;refine hc.mono ?_;rintro e w' ⟨v,av,st',L',rfl,h1,h2,h3,_⟩;exact ⟨_,_,h1,h2⟩
   replace hp:ox P st g avs (sa dst K) \/ (none=(none:Option (Nat × List Nat)) /\ (Ap P st g avs (sa dst K) \/ zj P st g avs (sa dst K))):=by
    rcases hp with hp|hp|hp
    .exact .inl hp
    .exact .inr hp
    .exact absurd hp hmeth
   have hent:fY P g:=by
    rcases hp with (⟨R,hd,_⟩|⟨hd,_⟩)|⟨_,(⟨_,_,_,_,_,_,_,_,hd,_⟩|⟨_,_,_,_,_,_,_,_,_,hd,_⟩|⟨hd,_⟩)|⟨_,(⟨R,hd,_⟩|⟨hd,_⟩)⟩⟩
    .exact hd.1
    .exact hd
    .exact hd.1
    .exact hd.1
    .exact hd
    .exact hd.1
    .exact hd
   unfold Oper.wp;rw [hrun0 hent _ argTypes rfl];show Calls P g zs w _;have hargs:zs.size=avs.length /\ ∀ (j:Nat) (v:Value) (av:AV),zs[j]? = some v -> avs[j]? = some av -> bx cx w st.tab L v av:=⟨hsz,fun j v av h1 h2=>(hlt j v av h1 h2).1⟩;rcases hp with hp|⟨_,hp|⟨ids,hp⟩⟩
   .refine (mj h hargs.1 hargs.2 hp dst).mono ?_;rintro e w' ⟨v,av,st',L',rfl,h1,h2,_⟩;exact ⟨_,_,h1,h2⟩
   rotate_left
   .obtain ⟨h3,h4⟩:=kZ ids h hlt;refine (mj (ff ids h) (by rw [h3];exact hargs.1) (fun j v av h5 h6=>(h4 j v av h5 h6).1) hp dst).mono ?_;rintro e w' ⟨v,av,st',L',rfl,h1,h2,_⟩;exact ⟨_,_,h1,h2⟩
   .refine (Ah h hargs.1 hlt hp dst).mono ?_;rintro e w' ⟨v,av,st',L',rfl,h1,h2,_⟩;exact ⟨_,_,h1,h2⟩
  .exact pk h hp
 .exact pk h hp
theorem cq {ops:Array Oper} {g:Option (Nat × Bool)} {yes no:aj -> Prop} (h:aG cx a w st L) (hp:kx ops g yes no st) (o:Oper) (ho:o.guard=g) :
  (Region.wanted o (yielded ops a.tmps)=true /\ ∃ st',yes st' /\ aG cx a w st' L /\ st'.tab=st.tab /\ st'.next=st.next) \/ (Region.wanted o (yielded ops a.tmps)=false /\ ∃ st',no st' /\ aG cx a w st' L /\ st'.tab=st.tab /\ st'.next=st.next):=by
 subst ho;unfold kx at hp;unfold Region.wanted;split at hp
 .rename_i hg;rw [hg];exact .inl ⟨rfl,st,hp,h,rfl,rfl⟩
 .rename_i j want hg;rw [hg];simp only;split at hp
  .rename_i d hd;split at hp
   .rename_i v hv;have hval:=(h.env d).1;rw [hv] at hval;have hval:=hval.c_inv
    have hy:yielded ops a.tmps j=yv v:=by
     unfold yielded;rw [hd];simp only [OE];rw [<- hval];rw [OU]
     cases ht:a.tmps[d]? with
     | none=>rfl
     | some u=>cases u<;>rfl
    rw [hy]
    have same:∀ b,v=.bool b -> aG cx a w (st.put (some d) (.c (.bool b))) L /\ (st.put (some d) (.c (.bool b))).tab=st.tab /\ (st.put (some d) (.c (.bool b))).next=st.next:=fun b hb=>by
     subst hb;have e1:(st.put (some d) (.c (.bool b))).tab=st.tab:=rfl;have e2:(st.put (some d) (.c (.bool b))).next=st.next:=rfl;have e3:(st.put (some d) (.c (.bool b))).n=st.n:=rfl;refine ⟨⟨by rw [e1];exact h.lay,by rw [e3];exact h.size,by rw [e1];exact h.defers,by rw [e1,e2];exact h.young,fun t=>?_⟩,e1,e2⟩;rw [e1,e2,zZ];simp only;split
     .rename_i ht;rw [ht.2,hval];exact ⟨.tree (.c _),trivial⟩
     .exact h.env t
    split at hp
    .rename_i b hb
     have hvb:v=.bool b:=by
      cases v<;>simp [yv] at hb;rw [hb]
     by_cases hw:b=want
     .subst hw;have hp:yes (st.put (some d) (.c (.bool b))):=by cases b<;>exact hp
      exact .inl ⟨by simp [hb],_,hp,same _ hvb⟩
     .have hp:no (st.put (some d) (.c (.bool b))):=by cases b<;>cases want<;>first|exact hp|exact absurd rfl hw
      exact .inr ⟨by simp [hb,hw],_,hp,same _ hvb⟩
    .rename_i hb;exact .inr ⟨by simp [hb],st,hp,h,rfl,rfl⟩
   .exact hp.elim
  .exact hp.elim
theorem bS (h:aG cx a w st L) (dst:Option Nat):aG cx (a.put dst undef) w (st.put dst (.c undef)) L:=ba h (.tree (.c _)) trivial dst
theorem un {ops:Array Oper} {K:aj -> Prop} {Q:Exit -> Act -> World -> Prop} (hQ:∀ a w st L,K st -> aG cx a w st L -> Q .normal a w):∀ (l:List Oper) (a:Act) (w:World) (st:aj) (L:Nat -> Value),aG cx a w st L -> lk P ops K l st -> wpList P ops Q l a w
 | [],a,w,st,L,h,hp=>hQ a w st L hp h
 | o :: rest,a,w,st,L,h,hp=>by
  unfold lk at hp;refine wpList_step fun K' hK'=>?_;rcases cq h hp o rfl with ⟨hw,st',h1,h2,_⟩|⟨hw,st',h1,h2,_⟩
  .rw [ND hw];exact Oper.wp_mono (fun a' w' ⟨st'',L',h3,h4⟩=>hK' a' w' (un hQ rest a' w' st'' L' h4 h3)) (MB h2 h1)
  .rw [Ny (by simp [hw])];exact hK' _ _ (un hQ rest _ w _ L (bS h2 o.dst) h1)
theorem f6 (h:aG cx a w st L) (hb:Below w.heap.size w w'):aG cx a w' st L:=by
 have hext:kP cx w st.tab L st.next w' st.tab L:=f8 hb (fun id _=>⟨rfl,rfl⟩) (fun id o hid=>(h.young id o hid).1) (fun id o g h1 h2 _=>by have:=(h.young id o h2).1;omega);refine ⟨i5 h.lay h.young hb (fun id _=>⟨rfl,rfl⟩) (fun id o h1 h2=>?_) (fun id o g h1 h2 _=>?_) (fun id id' o o' g h1 _ h2 _ _ _=>?_),h.size,h.defers.mono hext.blk hext.sub,h.young,fun t=>⟨hext.rv (h.env t).1 (h.env t).2,(h.env t).2⟩⟩
 .have:=(h.young id o h2).1;omega
 .have:=(h.young id o h2).1;omega
 .have:=(h.young id o h2).1;omega
structure b5 (T:Nat -> Prop) (a a':Act):Prop where
 defers:a'.defers=a.defers
 slots:∀ t,T t -> a'.tmps.getD t undef=a.tmps.getD t undef
theorem b5.refl {T:Nat -> Prop} (a:Act):b5 T a a:=⟨rfl,fun _ _=>rfl⟩
theorem b5.trans {T:Nat -> Prop} {a b c:Act} (h:b5 T a b) (k:b5 T b c):b5 T a c:=⟨k.defers.trans h.defers,fun t ht=>(k.slots t ht).trans (h.slots t ht)⟩
theorem bh (a:Act) (d:Option Nat) (v:Value):(a.put d v).defers=a.defers:=by cases d<;>rfl
theorem i9 (st:aj) (d:Option Nat) (av:AV):(st.put d av).tab=st.tab:=by cases d<;>rfl
theorem iX {a:Act} {dst:Option Nat} {v:Value} {t:Nat} (h:dst ≠ some t):(a.put dst v).tmps.getD t undef=a.tmps.getD t undef:=by
 cases dst with
 | none=>rfl
 | some d=>
  have hd:d ≠ t:=fun e=>h (by rw [e]);simp [Act.put,OU,Array.getElem?_setIfInBounds,hd]
theorem b5.put {T:Nat -> Prop} {a b:Act} {dst:Option Nat} {v:Value} (h:b5 T a b) (hd:∀ t,T t -> dst ≠ some t):b5 T a (b.put dst v):=⟨(bh _ _ _).trans h.defers,fun t ht=>(iX (hd t ht)).trans (h.slots t ht)⟩
theorem dW {o:Oper} {K:Act -> World -> Prop} {Q:Exit -> Act -> World -> Prop} {T:Nat -> Prop} (hd:∀ t,T t -> o.dst ≠ some t) (h:o.wp P a w K Q):o.wp P a w (fun a' w'=>K a' w' /\ ∀ t,T t -> a'.tmps.getD t undef=a.tmps.getD t undef) Q:=by
 unfold Oper.wp Oper.upon at *;generalize (execOp a.eval o).run P w=r at h
 cases r with
 | ok x w1=>
  cases x with
  | value v=>exact ⟨h,fun t ht=>iX (hd t ht)⟩
  | skip=>exact ⟨h,fun t ht=>iX (hd t ht)⟩
  | defer d=>exact ⟨h,fun t ht=>iX (a:={ a with defers:=d :: a.defers }) (hd t ht)⟩
  | enter f args=>
   refine Calls.mono h fun e w2 h2=>?_
   cases e with
   | returned v=>exact ⟨h2,fun t ht=>iX (hd t ht)⟩
   | panicked chain=>exact h2
   | outgrown=>exact h2
  | row row args=>exact Rows.mono h fun v w2 h2=>⟨h2,fun t ht=>iX (hd t ht)⟩
  | _=>exact h.elim
 | halt x w1=>
  cases x<;>first|exact h|exact h.elim
theorem k5 {ops:Array Oper} {K:aj -> Prop} {Q:Act -> Prop} {T:Nat -> Prop} {a0:Act} {tab0:af} (hQ:∀ a st,K st -> aG cx a w st L -> st.tab=tab0 -> b5 T a0 a -> Q a):∀ (l:List Oper) (a:Act) (st:aj),(∀ o ∈ l,∀ t,T t -> o.dst ≠ some t) -> st.tab=tab0 -> b5 T a0 a -> aG cx a w st L -> jd P ops K l st -> wpQuiet P ops (fun w'=>Below w.heap.size w w') Q l a
 | [],a,st,_,hT,hA,h,hp=>hQ a st hp h hT hA
 | o :: rest,a,st,hd0,hT,hA,h,hp=>by
  have hdo:=hd0 o (Ob ..);have hdr:=fun o' (ho:o' ∈ rest)=>hd0 o' (N7 _ ho);unfold jd at hp;refine wpQuiet_step fun K' hK'=>?_;rcases cq h hp o rfl with ⟨hw,st',h1,h2,ht',_⟩|⟨hw,st',h1,h2,ht',_⟩
  .rw [ND hw]
   have pureCase:∀ op,o.op=op -> bW P st'.tab (a5 st') op (aK st' o.dst (jd P ops K rest)) -> o.quiet P a (fun w'=>Below w.heap.size w w') K':=fun op hop hp'=>by
    subst hop;obtain ⟨v,av,h3,h4,h5,h6,_⟩:=jw h2.lay (fun id o hid=>(h2.young id o hid).2) (ak h2) hp';refine ⟨v,fun w' hw'=>?_,hK' _ (k5 hQ rest _ _ hdr (by rw [i9,ht',hT]) (hA.put hdo) (ba h2 h4 h5 o.dst) h3)⟩;unfold Oper.quietAt;rw [h6 w' hw'];exact ⟨rfl,rfl⟩
   unfold lB at h1;split at h1
   .rename_i c hc;split at h1
    .rename_i f hf;obtain ⟨g,xs,cs,hg,hxn,hxr,⟨v,hd,h3⟩,_⟩:=uc (ak h2 f).1 (ak h2 f).2 h1;refine ⟨v,fun w' hw'=>?_,hK' _ (k5 hQ rest _ _ hdr (by rw [i9,ht',hT]) (hA.put hdo) (ba h2 (.tree (.c v)) trivial o.dst) h3)⟩
     have hrun:(execOp a.eval o).run P w'=.ok (.enter g (c.args.map a.eval ++ xs)) w':=by
      have:=hd.1 (c.args.map a.eval ++ xs) w';simp [execOp,hc,Sem.run_bind,resolve,hf,hg,Deferred.ofValue,invoke,this]
     have hargs:=pq h2 (args:=c.args) hxn hxr;unfold Oper.quietAt;rw [hrun];refine ⟨rfl,(hd.2 (fun b=>b<w'.heap.size) w' (c.args.map a.eval ++ xs) (h2.lay.amb.below hw').all (by simpa using hargs.1) (fun j x av h4 h5=>?_)).mono ?_⟩
     .rw [Nu] at h5
      cases hj:(c.args.toList.map (a5 st') ++ cs)[j]? with
      | none=>simp [hj] at h5
      | some y=>
       simp [hj] at h5;subst h5;exact (Ac h2.lay (hargs.2 j x y h4 hj)).mono (fun p hp=>hw'.cell hp) (fun b hb=>NH hb hw'.size)
     .rintro e w'' ⟨v',L2,R,rfl,_,rfl,hl,hr⟩;obtain rfl:=hr.c_inv;exact ⟨rfl,hw'.trans ((hl.below.below fun b hb=>hb).mono hw'.size)⟩
    .exact pureCase _ hc h1
   .rename_i t parts hb;obtain ⟨v,cs,h3,h4,h5,h6⟩:=kF h2 h1;refine ⟨v,fun w' hw'=>?_,hK' _ (k5 hQ rest _ _ hdr (by rw [i9,ht',hT]) (hA.put hdo) (ba h2 h3 h4 o.dst) h6)⟩;have hrun:(execOp a.eval o).run P w'=.ok (.value v) w':=(by simp [execOp,hb,Sem.run_bind,h5 w']);unfold Oper.quietAt;rw [hrun];exact ⟨rfl,rfl⟩
   .exact pureCase _ rfl h1
  .rw [Ny (by simp [hw])];exact hK' _ (k5 hQ rest _ _ hdr (by rw [i9,ht',hT]) (hA.put hdo) (bS h2 o.dst) h1)
theorem po {ops:Array Oper} {K:aj -> Prop} {Q:Act -> Prop} {T:Nat -> Prop} {a0:Act} {tab0:af} (hQ:∀ a st,K st -> aG cx a w st L -> st.tab=tab0 -> b5 T a0 a -> Q a):∀ (l:List Oper) (a:Act) (st:aj),(∀ o ∈ l,∀ t,T t -> o.dst ≠ some t) -> st.tab=tab0 -> b5 T a0 a -> aG cx a w st L -> lx P ops K l st -> wpStill P ops w Q l a
 | [],a,st,_,hT,hA,h,hp=>hQ a st hp h hT hA
 | o :: rest,a,st,hd0,hT,hA,h,hp=>by
  have hdo:=hd0 o (Ob ..);have hdr:=fun o' (ho:o' ∈ rest)=>hd0 o' (N7 _ ho);unfold lx at hp;refine wpStill_step fun K' hK'=>?_;rcases cq h hp o rfl with ⟨hw,st',h1,h2,ht',_⟩|⟨hw,st',h1,h2,ht',_⟩
  .rw [ND hw];unfold lx.aPop at h1;obtain ⟨v,av,h3,h4,h5,h6,_⟩:=jw h2.lay (fun id o hid=>(h2.young id o hid).2) (ak h2) h1;unfold Oper.still;rw [h6 w (Below.refl _ _),Oper.stillUpon_value];exact hK' _ (po hQ rest _ _ hdr (by rw [i9,ht',hT]) (hA.put hdo) (ba h2 h4 h5 o.dst) h3)
  .rw [Ny (by simp [hw])];exact hK' _ (po hQ rest _ _ hdr (by rw [i9,ht',hT]) (hA.put hdo) (bS h2 o.dst) h1)
def rA (bu:Nat) (B:Nat) (G:Nat -> Prop) (tab:af) (L:Nat -> Value):Prop:=∀ id o g,bu<=id -> tab.get id=some o -> aF (L id)=some g -> B<=g \/ G g
structure kz (B:Nat) (G:Nat -> Prop) (wr w:World):Prop where
 size:B<=w.heap.size
 block:∀ k,k<B -> ¬ G k -> w.heap[k]? = wr.heap[k]?
theorem kz.step {B:Nat} {G:Nat -> Prop} {wr w w':World} (h:kz B G wr w) (hs:w.heap.size<=w'.heap.size) (hb:∀ k,k<B -> ¬ G k -> w'.heap[k]? = w.heap[k]?):kz B G wr w':=
 ⟨N2 h.size hs,fun k hk hG=>(hb k hk hG).trans (h.block k hk hG)⟩
theorem rk {bu B:Nat} {G:Nat -> Prop} {L:Nat -> Value}:∀ (ids:List Nat) {st:aj},rA bu B G st.tab L -> rA bu B G (gt st ids).tab L
 | [],_,h=>h
 | id :: ids,st,h=>rk ids (st:=fU st id) fun k o g h1 h2 h3=>by
  unfold fU at h2;split at h2
  .rw [af.gc,cz] at h2;split at h2
   .cases h2
   .cases hg:st.tab.get k with
    | none=>simp [hg] at h2
    | some o'=>exact h k o' g h1 hg h3
  .exact h k o g h1 h2 h3
theorem pU:∀ (ids:List Nat) {st:aj} (k:Nat) (o:aE),(gt st ids).tab.get k=some o -> ∃ o',st.tab.get k=some o'
 | [],_,_,o,h=>⟨o,h⟩
 | id :: ids,st,k,o,h=>by
  obtain ⟨o1,h⟩:=pU ids (st:=fU st id) k o h;unfold fU at h;split at h
  .rw [af.gc,cz] at h;split at h
   .cases h
   .cases hg:st.tab.get k with
    | none=>simp [hg] at h
    | some o'=>exact ⟨o',rfl⟩
  .exact ⟨o1,h⟩
theorem f9 {o:Oper} {K:aj -> Prop} {Q:Exit -> Act -> World -> Prop} {B bu:Nat} {ids:List Nat} {G:Nat -> Prop} {wr:World} (h:aG cx a w st L) (hS:kz B G wr w) (hy:rA bu B G st.tab L) (hG:∀ id ∈ ids,∀ g,aF (L id)=some g -> G g) (hnx:∀ id ∈ ids,id<st.next) (hp:gH P bu ids o K st) :
  o.wp P a w (fun a' w'=>∃ st' L',K st' /\ aG cx a' w' st' L' /\ a'.defers=a.defers /\ kz B G wr w' /\ rA bu B G st'.tab L' /\ (∀ id,id<st.next -> L' id=L id) /\ st.next<=st'.next /\ ∀ id o,id<st.next -> st'.tab.get id=some o -> ∃ o',st.tab.get id=some o') Q:=by
 have hB:=hS.size;have etab:∀ (st:aj) d av,(st.put d av).tab=st.tab:=fun st d av=>by cases d<;>rfl
 have enext:∀ (st:aj) d av,(st.put d av).next=st.next:=fun st d av=>by cases d<;>rfl
 obtain ⟨dst,op,ty,pos,aft,gd⟩:=o;unfold gH at hp;simp only at hp;split at hp
 .rename_i x;have he:=ak h x;refine aI (by simp [execOp]) ⟨_,L,hp,ba h he.1 he.2 dst,bh _ _ _,hS,by rw [etab];exact hy,fun _ _=>rfl,by rw [enext];exact Nz _,fun id o _ hg=>⟨o,by rw [etab] at hg;exact hg⟩⟩
 .rename_i t x;obtain ⟨v,av,h1,h2,h3,h4,_⟩:=jw (o:=⟨dst,.load t x,ty,pos,aft,gd⟩) h.lay (fun id o hid=>(h.young id o hid).2) (ak h) hp;exact aI (h4 w (Below.refl _ _)) ⟨_,L,h1,ba h h2 h3 dst,bh _ _ _,hS,by rw [etab];exact hy,fun _ _=>rfl,by rw [enext];exact Nz _,fun id o _ hg=>⟨o,by rw [etab] at hg;exact hg⟩⟩
 .rename_i t m k ok;obtain ⟨r,av,h1,h2,h3,h4⟩:=ot (nx:=st.next) h.lay (ak h m).1 (ak h k).1 hp;exact aI (by simp [execOp,Sem.run_bind,h4]) ⟨_,L,h1,ba h h2 h3 dst,bh _ _ _,hS,by rw [etab];exact hy,fun _ _=>rfl,by rw [enext];exact Nz _,fun id o _ hg=>⟨o,by rw [etab] at hg;exact hg⟩⟩
 .rename_i t m k v;split at hp
  .rename_i id hme;obtain ⟨hid,hp⟩:=hp;have hmv:=(ak h m).1;rw [hme] at hmv;obtain ⟨w',st',h1,h2,h3,h4,id',ents,ents',hidd,h5,rfl,h6⟩:=oB h hmv (ak h k).1 (ak h v).1 dst hp;cases hidd
   have hmay:∀ k,k<B -> ¬ G k -> aF (L id)=some k -> False:=fun k hk hGk e=>by
    rcases hid with hid|hge
    .exact hGk (hG id hid k e)
    .rcases hy id _ k hge h5 e with h9 | h9
     .omega
     .exact hGk h9
   refine dC (by simp [execOp,Sem.run_bind,h1]) ⟨_,L,h2,h3,bh _ _ _,hS.step (by omega) (fun k hk hGk=>h6 k fun e=>hmay k hk hGk e),?_,fun _ _=>rfl,by rw [enext];exact Nz _,fun k o' _ hg=>by
    rw [etab,af.gc] at hg;split at hg
    .rename_i e;exact ⟨_,by rw [e];exact h5⟩
    .exact ⟨o',hg⟩⟩
   rw [etab];intro k ob g h9 h10 h11;rw [af.gc] at h10;split at h10
   .rename_i e;exact hy k (.map ents) g h9 (by rw [e];exact h5) h11
   .exact hy k ob g h9 h10 h11
  .exact hp.elim
 .rename_i t p x;split at hp
  .rename_i id i j hpe;obtain ⟨hid,hp⟩:=hp
   have hmay:∀ k,k<B -> ¬ G k -> aF (L id)=some k -> False:=fun k hk hGk e=>by
    rcases hid with hid|hge
    .exact hGk (hG id hid k e)
    .have hn:∃ o,st.tab.get id=some o:=by
      unfold mv at hp;split at hp<;>first|exact ⟨_,by assumption⟩|exact hp.elim
     obtain ⟨o,ho⟩:=hn;rcases hy id o k hge ho e with h9|h9
     .omega
     .exact hGk h9
   unfold mv at hp;split at hp
   .rename_i ty cells hget;obtain ⟨rfl,h0,h1,h2,h3,h4⟩:=hp;have hpv:=(ak h p).1;rw [hpe] at hpv;have hx:=ak h x;obtain ⟨w',h5,h6,h7,h8⟩:=jo h hpv hget hx.1 hx.2 h0 h1 h2 h3 dst
    refine dC (by simp [execOp,Sem.run_bind,h5]) ⟨_,L,h4,h6,bh _ _ _,hS.step (by omega) (fun k hk hGk=>h8 k fun e=>hmay k hk hGk e),?_,fun _ _=>rfl,by rw [enext];exact Nz _,fun k o' _ hg=>by
     rw [etab,af.gc] at hg;split at hg
     .rename_i e;exact ⟨_,by rw [e];exact hget⟩
     .exact ⟨o',hg⟩⟩
    rw [etab];intro k ob g h9 h10 h11;rw [af.gc] at h10;split at h10
    .rename_i e;exact hy k (.box ty cells) g h9 (by rw [e];exact hget) h11
    .exact hy k ob g h9 h10 h11
   .rename_i e sz rows hget;obtain ⟨h0,h1,h2,h3,h3',h3'',h4⟩:=hp;have hpv:=(ak h p).1;rw [hpe] at hpv;have hx:=ak h x;obtain ⟨w',h5,h6,h7,h8⟩:=jC h hpv hget hx.1 hx.2 h0 h1 h2 h3 h3' h3'' dst
    refine dC (by simp [execOp,Sem.run_bind,h5]) ⟨_,L,h4,h6,bh _ _ _,hS.step (by omega) (fun k hk hGk=>h8 k fun e=>hmay k hk hGk e),?_,fun _ _=>rfl,by rw [enext];exact Nz _,fun k o' _ hg=>by
     rw [etab,af.gc] at hg;split at hg
     .rename_i e';exact ⟨_,by rw [e'];exact hget⟩
     .exact ⟨o',hg⟩⟩
    rw [etab];intro k ob g h9 h10 h11;rw [af.gc] at h10;split at h10
    .rename_i e';exact hy k (.row e sz rows) g h9 (by rw [e'];exact hget) h11
    .exact hy k ob g h9 h10 h11
   .rename_i e sz rows hget;obtain ⟨h0,h1,h2,h3,h3',h4⟩:=hp;have hpv:=(ak h p).1;rw [hpe] at hpv;have hx:=ak h x;obtain ⟨w',h5,h6,h7,h8⟩:=iI h hpv hget hx.1 hx.2 h0 h1 h2 h3 h3' dst
    refine dC (by simp [execOp,Sem.run_bind,h5]) ⟨_,L,h4,h6,bh _ _ _,hS.step (by omega) (fun k hk hGk=>h8 k fun e=>hmay k hk hGk e),?_,fun _ _=>rfl,by rw [enext];exact Nz _,fun k o' _ hg=>by
     rw [etab,af.gc] at hg;split at hg
     .rename_i e';exact ⟨_,by rw [e'];exact hget⟩
     .exact ⟨o',hg⟩⟩
    rw [etab];intro k ob g h9 h10 h11;rw [af.gc] at h10;split at h10
    .rename_i e';exact hy k (.nest e sz rows) g h9 (by rw [e'];exact hget) h11
    .exact hy k ob g h9 h10 h11
   .exact hp.elim
  .exact hp.elim
 .rename_i t;split at hp
  .rename_i z hz;obtain ⟨h1,h2⟩:=hp;obtain ⟨h3,h4⟩:=nK (P:=P) (t:=t) (av:=.c z) h (.tree (.c z)) trivial h1 dst;have hbw:Below w.heap.size w (w.alloc (.cells z.cells t)):=(Below.refl _ _).alloc (Nz _) _;refine aI (by simp [execOp,Sem.run_bind,nV hz,h3]) ⟨_,_,h2,h4,bh _ _ _,hS.step hbw.size (fun k hk _=>hbw.block k (NH hk hB)),?_,fun id hid=>?_,?_,fun k o' hk hg=>?_⟩
   .rw [etab];intro id ob g h5 h6 h7;rw [af.gc] at h6;unfold a6 at h7;split at h6
    .rename_i e;rw [ND e] at h7;simp [aF] at h7;left;omega
    .rename_i e;rw [Ny e] at h7;exact hy id ob g h5 h6 h7
   .unfold a6;rw [Ny (by omega)]
   .rw [enext];exact Oc _
   .rw [etab,af.gc,Ny (by omega)] at hg;exact ⟨o',hg⟩
  .exact hp.elim
 .rename_i t x;obtain ⟨h1,h2⟩:=hp;have he:=ak h x;obtain ⟨h3,h4⟩:=nK (P:=P) (t:=t) h he.1 he.2 h1 dst;have hbw:Below w.heap.size w (w.alloc (.cells (a.eval x).cells t)):=(Below.refl _ _).alloc (Nz _) _;refine aI (by simp [execOp,Sem.run_bind,h3]) ⟨_,_,h2,h4,bh _ _ _,hS.step hbw.size (fun k hk _=>hbw.block k (NH hk hB)),?_,fun id hid=>?_,?_,fun k o' hk hg=>?_⟩
  .rw [etab];intro id ob g h5 h6 h7;rw [af.gc] at h6;unfold a6 at h7;split at h6
   .rename_i e;rw [ND e] at h7;simp [aF] at h7;left;omega
   .rename_i e;rw [Ny e] at h7;exact hy id ob g h5 h6 h7
  .unfold a6;rw [Ny (by omega)]
  .rw [enext];exact Oc _
  .rw [etab,af.gc,Ny (by omega)] at hg;exact ⟨o',hg⟩
 .rename_i t n parts;unfold dp at hp;have hy':rA bu B G (gt st (fN (parts.toList.flatMap fun (p:Nat × Operand)=>am (a5 st p.2)))).tab L:=rk _ hy
  replace h:=ff (fN (parts.toList.flatMap fun (p:Nat × Operand)=>am (a5 st p.2))) h
  clear hy;have hy:=hy';have hnext:(gt st (fN (parts.toList.flatMap fun (p:Nat × Operand)=>am (a5 st p.2)))).next=st.next:=oG _ _;unfold fu at hp;split at hp
  .rename_i e sz by_ ht;split at hp
   .obtain ⟨⟨h1,rfl,h3,h5⟩,h6⟩:=hp;obtain ⟨v',w',L',h7,h8,hb,rfl,hv⟩:=iD h ht h1 h3 h5 dst;refine aI ?_ ⟨_,_,h6,h8,bh _ _ _,hS.step hb.size (fun k hk _=>hb.block k (NH hk hB)),?_,fun id hid=>?_,?_,fun k o' hk hg=>?_⟩
    .simp only [Pm] at h7;simp [execOp,Sem.run_bind];simp at h7;simp [h7]
    .rw [etab];intro id ob g h1 h2 h3;rw [af.gc] at h2;unfold a6 at h3;split at h2
     .rename_i e;rw [ND e,hv] at h3;cases h3;exact .inl hB
     .rename_i e;rw [Ny e] at h3;exact hy id ob g h1 h2 h3
    .unfold a6;rw [Ny (by omega)]
    .rw [enext];show st.next<=(gt st _).next+1;omega
    .rw [etab] at hg;simp only [af.gc] at hg;rw [Ny (by omega)] at hg;exact pU _ k o' hg
   .obtain ⟨⟨h1,rfl,h3,h5⟩,h6⟩:=hp;obtain ⟨v',w',L',h7,h8,hb,rfl,hv⟩:=oj h ht h1 h3 h5 dst;refine aI ?_ ⟨_,_,h6,h8,bh _ _ _,hS.step hb.size (fun k hk _=>hb.block k (NH hk hB)),?_,fun id hid=>?_,?_,fun k o' hk hg=>?_⟩
    .simp only [Pm] at h7;simp [execOp,Sem.run_bind];simp at h7;simp [h7]
    .rw [etab];intro id ob g h1 h2 h3;rw [af.gc] at h2;unfold a6 at h3;split at h2
     .rename_i e;rw [ND e,hv] at h3;cases h3;exact .inl hB
     .rename_i e;rw [Ny e] at h3;exact hy id ob g h1 h2 h3
    .unfold a6;rw [Ny (by omega)]
    .rw [enext];show st.next<=(gt st _).next+1;omega
    .rw [etab] at hg;simp only [af.gc] at hg;rw [Ny (by omega)] at hg;exact pU _ k o' hg
  .exact hp.elim
 .rename_i t l c;unfold o6 at hp;split at hp
  .rename_i e sz by_ k1 n k2 m ht hl hc;split at hp
   .rename_i z hz;obtain ⟨⟨rfl,h1,h2,h3,h4⟩,h5⟩:=hp;have hl':=(ak h l).1;have hc':=(ak h c).1;rw [hl] at hl';rw [hc] at hc';obtain ⟨v',w',L',h6,h7,hb,rfl,hv⟩:=tX (k1:=k1) (k2:=k2) h ht hz h1 h2 h3 h4 dst;refine aI (by simp [execOp,Sem.run_bind,hl'.c_inv,hc'.c_inv,h6]) ⟨_,_,h5,h7,bh _ _ _,hS.step hb.size (fun k hk _=>hb.block k (NH hk hB)),?_,fun id hid=>?_,?_,fun k o' hk hg=>?_⟩
    .rw [etab];intro id ob g h1 h2 h3;rw [af.gc] at h2;unfold a6 at h3;split at h2
     .rename_i e;rw [ND e,hv] at h3;cases h3;exact .inl hB
     .rename_i e;rw [Ny e] at h3;exact hy id ob g h1 h2 h3
    .unfold a6;rw [Ny (by omega)]
    .rw [enext];exact Oc _
    .rw [etab,af.gc,Ny (by omega)] at hg;exact ⟨o',hg⟩
   .exact hp.elim
  .exact hp.elim
 .rename_i c;obtain ⟨callee,args,argTypes⟩:=c;simp only at hp;split at hp
  .split at hp
   .rename_i x y t t' h1 h2;obtain rfl:args = #[x,y]:=by cases args;simp_all
    obtain rfl:argTypes = #[t,t']:=by cases argTypes;simp_all
    obtain ⟨⟨rfl,hfr⟩,hp⟩:=hp;unfold iq at hp;split at hp
    .rename_i hnn;obtain ⟨e1,e2⟩:=lC hnn;have hx1:=(ak h x).1;have hy1:=(ak h y).1;rw [e1] at hx1;rw [e2] at hy1;have hx2:=hx1.c_inv;have hy2:=hy1.c_inv;have hr:=gW (ty:=ty) (w:=w) hp.1;exact aI (by simp [execOp,Sem.run_bind,resolve,invoke,builtin,hx2,hy2,hr]) ⟨_,L,hp.2,ba h (.tree (.c _)) trivial dst,bh _ _ _,hS,by rw [etab];exact hy,fun _ _=>rfl,by rw [enext];exact Nz _,fun id o _ hg=>⟨o,by rw [etab] at hg;exact hg⟩⟩
    unfold jg at hp;split at hp
    .rename_i e sz by_ ht;split at hp
     .rename_i oid rows rows2 hx hy2;obtain ⟨⟨h3,h4⟩,h5⟩:=hp;obtain ⟨v',w',L',h6,h7,hg,rfl,hv,hown⟩:=oz (ty:=ty) h (ak h x).1 (ak h y).1 ht hx hy2 (by simpa [maxLen] using h3) h4 dst
      have hoid:∀ id,oid=some id -> rj bu ids id /\ ∃ o,st.tab.get id=some o:=fun id hid=>by
       subst hid;unfold uI at hx;split at hx
       .rename_i id' hid';rw [hid'] at hfr;split at hx
        .rename_i e' sz' rows' hget;split at hx
         .cases hx;exact ⟨hfr,_,hget⟩
         .cases hx
        .cases hx
       .cases hx
       .cases hx
      have hown2:∀ g,(a.eval x).ownBlock=some g -> B<=g \/ G g:=fun g hg'=>by
       obtain ⟨id,hid,hbl⟩:=hown g hg';obtain ⟨h8,o,h9⟩:=hoid id hid;rcases h8 with h8|h8
       .exact .inr (hG id h8 g hbl)
       .exact hy id o g h8 h9 hbl
      refine aI (by simp [execOp,Sem.run_bind,resolve,invoke,builtin,h6]) ⟨_,_,h5,h7,bh _ _ _,hS.step hg.size (fun k hk hnk=>hg.block k (NH hk hB) fun e=>by rcases hown2 k e.symm with h9 | h9;omega;exact hnk h9),?_,fun id hid=>by unfold a6;rw [Ny (by omega)],by rw [enext];exact Oc _,fun k o' hk hg=>by
       rw [etab] at hg;simp only [bn] at hg;rw [Ny (by omega)] at hg;split at hg
       .cases hg
       .exact ⟨o',hg⟩⟩
      rw [etab];intro id ob g h8 h9 h10;rw [bn] at h9;unfold a6 at h10;split at h9
      .rename_i e1;rw [ND e1] at h10;rcases hv with hv|hv
       .exact hown2 g (by rw [<- hv];exact h10)
       .rw [hv] at h10;cases h10;exact .inl hB
      .rename_i e1;rw [Ny e1] at h10;split at h9
       .cases h9
       .exact hy id ob g h8 h9 h10
     .split at hp
      .rename_i oid rows rows2 hx hy2;obtain ⟨⟨h3,h4⟩,h5⟩:=hp;obtain ⟨v',w',L',h6,h7,hg,rfl,hv,hown⟩:=lN (ty:=ty) h (ak h x).1 (ak h y).1 ht hx hy2 (by simpa [maxLen] using h3) h4 dst
       have hoid:∀ id,oid=some id -> rj bu ids id /\ ∃ o,st.tab.get id=some o:=fun id hid=>by
        subst hid;unfold kh at hx;split at hx
        .rename_i id' hid';rw [hid'] at hfr;split at hx
         .rename_i e' sz' rows' hget;split at hx
          .cases hx;exact ⟨hfr,_,hget⟩
          .cases hx
         .cases hx
        .cases hx
        .cases hx
       have hown2:∀ g,(a.eval x).ownBlock=some g -> B<=g \/ G g:=fun g hg'=>by
        obtain ⟨id,hid,hbl⟩:=hown g hg';obtain ⟨h8,o,h9⟩:=hoid id hid;rcases h8 with h8|h8
        .exact .inr (hG id h8 g hbl)
        .exact hy id o g h8 h9 hbl
       refine aI (by simp [execOp,Sem.run_bind,resolve,invoke,builtin,h6]) ⟨_,_,h5,h7,bh _ _ _,hS.step hg.size (fun k hk hnk=>hg.block k (NH hk hB) fun e=>by rcases hown2 k e.symm with h9 | h9;omega;exact hnk h9),?_,fun id hid=>by unfold a6;rw [Ny (by omega)],by rw [enext];exact Oc _,fun k o' hk hg=>by
        rw [etab] at hg;simp only [bn] at hg;rw [Ny (by omega)] at hg;split at hg
        .cases hg
        .exact ⟨o',hg⟩⟩
       rw [etab];intro id ob g h8 h9 h10;rw [bn] at h9;unfold a6 at h10;split at h9
       .rename_i e1;rw [ND e1] at h10;rcases hv with hv|hv
        .exact hown2 g (by rw [<- hv];exact h10)
        .rw [hv] at h10;cases h10;exact .inl hB
       .rename_i e1;rw [Ny e1] at h10;split at h9
        .cases h9
        .exact hy id ob g h8 h9 h10
      .exact hp.elim
    .exact hp.elim
   .exact hp.elim
  .rename_i f;obtain ⟨g,xs,cs,hg,hxn,hxr,hp,hcs⟩:=uc (ak h f).1 (ak h f).2 hp;have hargs:=pq h (args:=args) hxn hxr;by_cases hmeth:wO (some (bu,ids)) P st g (args.toList.map (a5 st) ++ cs) (sa dst K)
   .obtain ⟨hent,ids0,hmay,hc⟩:=tU h hargs.1 hargs.2 hmeth dst
    have hrun:(execOp a.eval { dst:=dst,op:=.call { callee:=.value f,args:=args,argTypes:=argTypes },type:=ty,pos:=pos,after:=aft,guard:=gd }).run P w=.ok (.enter g (args.map a.eval ++ xs)) w:=by
     have:=hent (args.map a.eval ++ xs) w;simp [execOp,Sem.run_bind,resolve,hg,Deferred.ofValue,invoke,this]
    unfold Oper.wp;rw [hrun];show Calls P g (args.map a.eval ++ xs) w _;refine hc.mono ?_;rintro e w' ⟨v,av,st',L',rfl,h1,h2,h3,h4,h5,h6,h7⟩
    have hblk:∀ id ∈ ids0,∀ o k,st.tab.get id=some o -> aF (L id)=some k -> B<=k \/ G k:=fun id hid o k h8 h9=>by
     rcases hmay _ rfl id hid with h10|h10
     .exact .inr (hG id h10 k h9)
     .exact hy id o k h10 h8 h9
    refine ⟨_,L',h1,h2,bh _ _ _,hS.step h3.size (fun k hk hGk=>h6 k (NH hk hB) fun id hid o ho e=>?_),?_,h4,by rw [enext];exact h3.next,fun id o hid ho=>h5 id o hid (by rw [etab] at ho;exact ho)⟩
    .rcases hblk id hid o k ho e with h8 | h8
     .omega
     .exact hGk h8
    .rw [etab];intro id ob g' h8 h9 h10;rcases NP id st.next with hlt|hge
     .obtain ⟨o',h11⟩:=h5 id ob hlt h9;rw [h4 id hlt] at h10;exact hy id o' g' h8 h11 h10
     .rcases h7 id ob g' hge h9 h10 with h11 | ⟨id',h11,⟨o',h12⟩,h13⟩
      .exact .inl (N2 hB h11)
      .exact hblk id' h11 o' g' h12 h13
   replace hp:ox P st g (args.toList.map (a5 st) ++ cs) (sa dst K):=by
    rcases hp with hp|hp|hp
    .exact hp
    .cases hp.1
    .exact absurd hp hmeth
   have hent:fY P g:=by
    rcases hp with ⟨R,hd,_⟩|⟨hd,_⟩
    .exact hd.1
    .exact hd
   have hrun:(execOp a.eval { dst:=dst,op:=.call { callee:=.value f,args:=args,argTypes:=argTypes },type:=ty,pos:=pos,after:=aft,guard:=gd }).run P w=.ok (.enter g (args.map a.eval ++ xs)) w:=by
    have:=hent (args.map a.eval ++ xs) w;simp [execOp,Sem.run_bind,resolve,hg,Deferred.ofValue,invoke,this]
   unfold Oper.wp;rw [hrun];show Calls P g (args.map a.eval ++ xs) w _;have hargs:=pq h (args:=args) hxn hxr;refine (mj h hargs.1 hargs.2 hp dst).mono ?_
   .rintro e w' ⟨v,av,st',L',rfl,h1,h2,hb,hold,hnew,hnx'⟩;refine ⟨_,_,h1,h2,bh _ _ _,hS.step hb.size (fun k hk _=>hb.block k (NH hk hB)),?_,fun id hid=>(hold id hid).2,by rw [enext];exact hnx',fun k o' hk hg=>⟨o',by rw [etab,(hold k hk).1] at hg;exact hg⟩⟩;rw [etab];intro id ob g h8 h9 h10;rcases NP id st.next with hlt|hge
    .rw [(hold id hlt).1] at h9;rw [(hold id hlt).2] at h10;exact hy id ob g h8 h9 h10
    .exact .inl (N2 hB (hnew id ob g hge h9 h10))
  .exact hp.elim
 .exact hp.elim
def lh (Q:Exit -> Act -> World -> Prop):Exit -> Act -> World -> Prop
 | .panic _,_,_=>False
 | e,a,w=>Q e a w
structure iw (bu B:Nat) (ids:List Nat) (G:Nat -> Prop) (T0:af) (L0:Nat -> Value) (st:aj) (L:Nat -> Value):Prop where
 loc:∀ id,id<bu -> L id=L0 id
 le:bu<=st.next
 old:∀ id o,id<bu -> st.tab.get id=some o -> ∃ o',T0.get id=some o'
 far:∀ id o g,id<bu -> id ∉ ids -> T0.get id=some o -> aF (L id)=some g -> g<B /\ ¬ G g
theorem iw.same {bu B:Nat} {ids:List Nat} {G:Nat -> Prop} {T0:af} {L0:Nat -> Value} {st st':aj} {L:Nat -> Value} (h:iw bu B ids G T0 L0 st L) (ht:st'.tab=st.tab) (hn:st'.next=st.next):iw bu B ids G T0 L0 st' L:=
 ⟨h.loc,by rw [hn];exact h.le,by rw [ht];exact h.old,h.far⟩
theorem iw.step {bu B:Nat} {ids:List Nat} {G:Nat -> Prop} {T0:af} {L0:Nat -> Value} {st st':aj} {L L':Nat -> Value} (h:iw bu B ids G T0 L0 st L) (h1:∀ id,id<st.next -> L' id=L id) (h2:st.next<=st'.next) (h3:∀ id o,id<st.next -> st'.tab.get id=some o -> ∃ o',st.tab.get id=some o'):iw bu B ids G T0 L0 st' L':=
 ⟨fun id hi=>(h1 id (NH hi h.le)).trans (h.loc id hi),N2 h.le h2,fun id o hi hg=>(h3 id o (NH hi h.le) hg).elim fun o' hg'=>h.old id o' hi hg',fun id o g hi hn hT hg=>h.far id o g hi hn hT (by rw [<- h1 id (NH hi h.le)];exact hg)⟩
theorem bG {ops:Array Oper} {K:aj -> Prop} {T0:af} {bu B:Nat} {ids:List Nat} {G:Nat -> Prop} {wr:World} {Q:Exit -> Act -> World -> Prop} (hsel:Region.noSelect ops=true) {T:Nat -> Prop} {a0:Act} {L0:Nat -> Value} (hT:∀ (i:Nat) (o:Oper),ops[i]? = some o -> ∀ t,T t -> o.dst ≠ some t) (hQ:∀ a w st L,K st -> aG cx a w st L -> kz B G wr w -> rA bu B G st.tab L -> iw bu B ids G T0 L0 st L -> b5 T a0 a -> Q .normal a w):∀ (s:l6) (listed:Array Bool) (a:Act) (w:World) (st:aj) (L:Nat -> Value),
  aG cx a w st L -> kz B G wr w -> rA bu B G st.tab L -> (∀ id ∈ ids,∀ g,aF (L id)=some g -> G g) -> (∀ id ∈ ids,id<st.next) -> iw bu B ids G T0 L0 st L -> b5 T a0 a -> dm ops s listed=true -> cw P ops bu ids K s st -> ∀ fuel,s.len<=fuel -> wpAnyH P .any ops (lh Q) (fun w'=>kz B G wr w') fuel listed a w
 | .done,listed,a,w,st,L,h,hS,hy,_,_,hE,hA,hB,hp,fuel,_=>wpAnyH_done (Q:=lh Q) (by simpa [dm] using hB) (hQ a w st L hp h hS hy hE hA) fuel
 | .take i s,listed,a,w,st,L,h,hS,hy,hG,hnx,hE,hA,hB,hp,fuel,hf=>by
  simp only [dm,NU] at hB;unfold cw pV at hp;have etab:∀ (st:aj) d av,(st.put d av).tab=st.tab:=fun st d av=>by cases d<;>rfl
  have enext:∀ (st:aj) d av,(st.put d av).next=st.next:=fun st d av=>by cases d<;>rfl
  split at hp
  .rename_i o ho;obtain ⟨fuel',rfl⟩:∃ f,fuel=f+1:=⟨fuel - 1,by simp [l6.len] at hf;omega⟩;rcases cq h hp o rfl with ⟨hw,st',⟨hl,h0⟩,h2',ht',hn'⟩|⟨hw,st',h0,h2',ht',hn'⟩
   .by_cases hbld:∃ t parts,o.op=.build t parts
    .obtain ⟨t,parts,hop⟩:=hbld;rw [hop] at h0;obtain ⟨v,cs,h3,h4,h5,h6⟩:=kF h2' h0;refine wpAnyH_take (v:=v) ho hsel hB.1.1 hB.1.2 (fun _ _ _ h=>h) (.inl ⟨hw,fun w' _=>by simp [execOp,hop,Sem.run_bind,h5 w']⟩) hS ?_;exact bG hsel hT hQ s _ _ w _ L (ba h2' h3 h4 o.dst) hS (by rw [etab,ht'];exact hy) hG (fun id hid=>by rw [enext,hn'];exact hnx id hid) (hE.same (by rw [etab,ht']) (by rw [enext,hn'])) (hA.put (hT _ _ ho)) hB.2 h6 fuel' (by simp [l6.len] at hf;omega)
    replace h0:bW P st'.tab (a5 st') o.op (aK st' o.dst (cw P ops bu ids K s)):=by
     unfold du at h0;split at h0
     .rename_i t parts hop;exact absurd ⟨t,parts,hop⟩ hbld
     .exact h0
    obtain ⟨v,av,h1,h2,h3,_,h5,h6⟩:=jw h2'.lay (fun id o hid=>(h2'.young id o hid).2) (ak h2') h0
    have hrd:∀ w',kz B G wr w' -> (execOp a.eval o).run P w'=.ok (.value v) w':=fun w' hw'=>by
     cases hld:g9 o.op with
     | false=>exact h5 hld w'
     | true=>
      obtain ⟨t,x,hop⟩:∃ t x,o.op=.load t x:=by
       cases hop:o.op<;>simp [hop,g9] at hld;exact ⟨_,_,rfl⟩
      obtain ⟨b,hb,hr⟩:=h6 t x hop;rw [hop] at hl;have hev:=(ak h2' x).1;unfold oq tJ at hl;simp only at hl;split at hl
      .rename_i id i j he;obtain ⟨hl1,hl2,hl3⟩:=hl;split at hl3
       .rename_i o' hg;rw [he] at hev;obtain ⟨g,hg1,hg2⟩:=hev.op_inv _ _ (cD hg);rw [hg2] at hb;simp [aF] at hb;subst hb;obtain ⟨o2,hT⟩:=hE.old id o' hl1 (by rw [<- ht'];exact hg);obtain ⟨h7,h8⟩:=hE.far id o2 g hl1 hl2 hT hg1;exact hr w' fun o' u hu=>(World.cell?_of_block ((hw'.block g h7 h8).trans (hS.block g h7 h8).symm)).trans hu
       .exact hl3.elim
      .exact hl.elim
    refine wpAnyH_take ho hsel hB.1.1 hB.1.2 (fun _ _ _ h=>h) (.inl ⟨hw,hrd⟩) hS ?_;exact bG hsel hT hQ s _ _ w _ L (ba h2' h2 h3 o.dst) hS (by rw [etab,ht'];exact hy) hG (fun id hid=>by rw [enext,hn'];exact hnx id hid) (hE.same (by rw [etab,ht']) (by rw [enext,hn'])) (hA.put (hT _ _ ho)) hB.2 h1 fuel' (by simp [l6.len] at hf;omega)
   .refine wpAnyH_take (v:=undef) ho hsel hB.1.1 hB.1.2 (fun _ _ _ h=>h) (.inr ⟨hw,rfl⟩) hS ?_;exact bG hsel hT hQ s _ _ w _ L (bS h2' o.dst) hS (by rw [etab,ht'];exact hy) hG (fun id hid=>by rw [enext,hn'];exact hnx id hid) (hE.same (by rw [etab,ht']) (by rw [enext,hn'])) (hA.put (hT _ _ ho)) hB.2 h0 fuel' (by simp [l6.len] at hf;omega)
  .exact hp.elim
 | .exec i s,listed,a,w,st,L,h,hS,hy,hG,hnx,hE,hA,hB,hp,fuel,hf=>by
  simp only [dm,NU,NW] at hB;unfold cw cH at hp;have etab:∀ (st:aj) d av,(st.put d av).tab=st.tab:=fun st d av=>by cases d<;>rfl
  have enext:∀ (st:aj) d av,(st.put d av).next=st.next:=fun st d av=>by cases d<;>rfl
  split at hp
  .rename_i o ho;obtain ⟨fuel',rfl⟩:∃ f,fuel=f+1:=⟨fuel - 1,by simp [l6.len] at hf;omega⟩;refine wpAnyH_all hB.1 (by simp) fun j hj=>?_;obtain rfl:j=i:=by simpa using hj
   unfold wpOp;rw [ho];rcases cq h hp o rfl with ⟨hw,st1,h0,h2',ht',hn'⟩|⟨hw,st1,h0,h2',ht',hn'⟩
   .simp only [hw,if_true];refine .inl (Oper.wp_mono (fun a' w' ⟨⟨st',L',h1,h2,h8,h3,h4,h5,h6,h7⟩,h9⟩=>⟨h3,?_⟩) (dW (hT _ _ ho) (f9 h2' hS (by rw [ht'];exact hy) hG (fun id hid=>by rw [hn'];exact hnx id hid) h0)));rw [hn'] at h5 h6 h7;exact bG hsel hT hQ s _ a' w' st' L' h2 h3 h4 (fun id hid g hg'=>hG id hid g (by rw [<- h5 id (hnx id hid)];exact hg')) (fun id hid=>NH (hnx id hid) h6) (hE.step h5 h6 (by rw [ht'] at h7;exact h7)) (hA.trans ⟨h8,h9⟩) hB.2 h1 fuel' (by simp [l6.len] at hf;omega)
   .simp only [hw,Ox,if_false];refine ⟨hS,bG hsel hT hQ s _ _ w _ L (bS h2' o.dst) hS (by rw [etab,ht'];exact hy) hG (fun id hid=>by rw [enext,hn'];exact hnx id hid) (hE.same (by rw [etab,ht']) (by rw [enext,hn'])) (hA.put (hT _ _ ho)) hB.2 h0 fuel' (by simp [l6.len] at hf;omega)⟩
  .exact hp.elim
 | .two i s k t,listed,a,w,st,L,h,hS,hy,hG,hnx,hE,hA,hB,hp,fuel,hf=>by
  simp only [dm,NU,NW] at hB;unfold cw at hp;obtain ⟨hp,hp2⟩:=hp;unfold cH at hp hp2;have etab:∀ (st:aj) d av,(st.put d av).tab=st.tab:=fun st d av=>by cases d<;>rfl
  have enext:∀ (st:aj) d av,(st.put d av).next=st.next:=fun st d av=>by cases d<;>rfl
  have hf1:s.len+1<=fuel:=N2 (Pb (PU s.len t.len)) hf;have hf2:t.len+1<=fuel:=N2 (Pb (OY s.len t.len)) hf;obtain ⟨fuel',rfl⟩:∃ f,fuel=f+1:=⟨fuel - 1,by omega⟩;refine wpAnyH_all hB.1.1 (by simp) fun j hj=>?_;have hj:j=i \/ j=k:=by simpa using hj
  rcases hj with rfl|rfl
  .split at hp
   .rename_i o ho;unfold wpOp;rw [ho];rcases cq h hp o rfl with ⟨hw,st1,h0,h2',ht',hn'⟩|⟨hw,st1,h0,h2',ht',hn'⟩
    .simp only [hw,if_true];refine .inl (Oper.wp_mono (fun a' w' ⟨⟨st',L',h1,h2,h8,h3,h4,h5,h6,h7⟩,h9⟩=>⟨h3,?_⟩) (dW (hT _ _ ho) (f9 h2' hS (by rw [ht'];exact hy) hG (fun id hid=>by rw [hn'];exact hnx id hid) h0)));rw [hn'] at h5 h6 h7;exact bG hsel hT hQ s _ a' w' st' L' h2 h3 h4 (fun id hid g hg'=>hG id hid g (by rw [<- h5 id (hnx id hid)];exact hg')) (fun id hid=>NH (hnx id hid) h6) (hE.step h5 h6 (by rw [ht'] at h7;exact h7)) (hA.trans ⟨h8,h9⟩) hB.1.2 h1 fuel' (by omega)
    .simp only [hw,Ox,if_false];refine ⟨hS,bG hsel hT hQ s _ _ w _ L (bS h2' o.dst) hS (by rw [etab,ht'];exact hy) hG (fun id hid=>by rw [enext,hn'];exact hnx id hid) (hE.same (by rw [etab,ht']) (by rw [enext,hn'])) (hA.put (hT _ _ ho)) hB.1.2 h0 fuel' (by omega)⟩
   .exact hp.elim
  .split at hp2
   .rename_i o ho;unfold wpOp;rw [ho];rcases cq h hp2 o rfl with ⟨hw,st1,h0,h2',ht',hn'⟩|⟨hw,st1,h0,h2',ht',hn'⟩
    .simp only [hw,if_true];refine .inl (Oper.wp_mono (fun a' w' ⟨⟨st',L',h1,h2,h8,h3,h4,h5,h6,h7⟩,h9⟩=>⟨h3,?_⟩) (dW (hT _ _ ho) (f9 h2' hS (by rw [ht'];exact hy) hG (fun id hid=>by rw [hn'];exact hnx id hid) h0)));rw [hn'] at h5 h6 h7;exact bG hsel hT hQ t _ a' w' st' L' h2 h3 h4 (fun id hid g hg'=>hG id hid g (by rw [<- h5 id (hnx id hid)];exact hg')) (fun id hid=>NH (hnx id hid) h6) (hE.step h5 h6 (by rw [ht'] at h7;exact h7)) (hA.trans ⟨h8,h9⟩) hB.2 h1 fuel' (by omega)
    .simp only [hw,Ox,if_false];refine ⟨hS,bG hsel hT hQ t _ _ w _ L (bS h2' o.dst) hS (by rw [etab,ht'];exact hy) hG (fun id hid=>by rw [enext,hn'];exact hnx id hid) (hE.same (by rw [etab,ht']) (by rw [enext,hn'])) (hA.put (hT _ _ ho)) hB.2 h0 fuel' (by omega)⟩
   .exact hp2.elim
 | .three i s k t m u,listed,a,w,st,L,h,hS,hy,hG,hnx,hE,hA,hB,hp,fuel,hf=>by
  simp only [dm,NU,NW] at hB;unfold cw at hp;obtain ⟨hp,hp2,hp3⟩:=hp;unfold cH at hp hp2 hp3;have etab:∀ (st:aj) d av,(st.put d av).tab=st.tab:=fun st d av=>by cases d<;>rfl
  have enext:∀ (st:aj) d av,(st.put d av).next=st.next:=fun st d av=>by cases d<;>rfl
  have hf1:s.len+1<=fuel:=N2 (Pb (PU s.len _)) hf;have hf2:t.len+1<=fuel:=N2 (Pb (N2 (PU t.len u.len) (OY s.len _))) hf;have hf3:u.len+1<=fuel:=N2 (Pb (N2 (OY t.len u.len) (OY s.len _))) hf;obtain ⟨fuel',rfl⟩:∃ f,fuel=f+1:=⟨fuel - 1,by omega⟩;refine wpAnyH_all hB.1.1.1 (by simp) fun j hj=>?_;have hj:j=i \/ j=k \/ j=m:=by simpa using hj
  rcases hj with rfl|rfl|rfl
  .split at hp
   .rename_i o ho;unfold wpOp;rw [ho];rcases cq h hp o rfl with ⟨hw,st1,h0,h2',ht',hn'⟩|⟨hw,st1,h0,h2',ht',hn'⟩
    .simp only [hw,if_true];refine .inl (Oper.wp_mono (fun a' w' ⟨⟨st',L',h1,h2,h8,h3,h4,h5,h6,h7⟩,h9⟩=>⟨h3,?_⟩) (dW (hT _ _ ho) (f9 h2' hS (by rw [ht'];exact hy) hG (fun id hid=>by rw [hn'];exact hnx id hid) h0)));rw [hn'] at h5 h6 h7;exact bG hsel hT hQ s _ a' w' st' L' h2 h3 h4 (fun id hid g hg'=>hG id hid g (by rw [<- h5 id (hnx id hid)];exact hg')) (fun id hid=>NH (hnx id hid) h6) (hE.step h5 h6 (by rw [ht'] at h7;exact h7)) (hA.trans ⟨h8,h9⟩) hB.1.1.2 h1 fuel' (by omega)
    .simp only [hw,Ox,if_false];refine ⟨hS,bG hsel hT hQ s _ _ w _ L (bS h2' o.dst) hS (by rw [etab,ht'];exact hy) hG (fun id hid=>by rw [enext,hn'];exact hnx id hid) (hE.same (by rw [etab,ht']) (by rw [enext,hn'])) (hA.put (hT _ _ ho)) hB.1.1.2 h0 fuel' (by omega)⟩
   .exact hp.elim
  .split at hp2
   .rename_i o ho;unfold wpOp;rw [ho];rcases cq h hp2 o rfl with ⟨hw,st1,h0,h2',ht',hn'⟩|⟨hw,st1,h0,h2',ht',hn'⟩
    .simp only [hw,if_true];refine .inl (Oper.wp_mono (fun a' w' ⟨⟨st',L',h1,h2,h8,h3,h4,h5,h6,h7⟩,h9⟩=>⟨h3,?_⟩) (dW (hT _ _ ho) (f9 h2' hS (by rw [ht'];exact hy) hG (fun id hid=>by rw [hn'];exact hnx id hid) h0)));rw [hn'] at h5 h6 h7;exact bG hsel hT hQ t _ a' w' st' L' h2 h3 h4 (fun id hid g hg'=>hG id hid g (by rw [<- h5 id (hnx id hid)];exact hg')) (fun id hid=>NH (hnx id hid) h6) (hE.step h5 h6 (by rw [ht'] at h7;exact h7)) (hA.trans ⟨h8,h9⟩) hB.1.2 h1 fuel' (by omega)
    .simp only [hw,Ox,if_false];refine ⟨hS,bG hsel hT hQ t _ _ w _ L (bS h2' o.dst) hS (by rw [etab,ht'];exact hy) hG (fun id hid=>by rw [enext,hn'];exact hnx id hid) (hE.same (by rw [etab,ht']) (by rw [enext,hn'])) (hA.put (hT _ _ ho)) hB.1.2 h0 fuel' (by omega)⟩
   .exact hp2.elim
  .split at hp3
   .rename_i o ho;unfold wpOp;rw [ho];rcases cq h hp3 o rfl with ⟨hw,st1,h0,h2',ht',hn'⟩|⟨hw,st1,h0,h2',ht',hn'⟩
    .simp only [hw,if_true];refine .inl (Oper.wp_mono (fun a' w' ⟨⟨st',L',h1,h2,h8,h3,h4,h5,h6,h7⟩,h9⟩=>⟨h3,?_⟩) (dW (hT _ _ ho) (f9 h2' hS (by rw [ht'];exact hy) hG (fun id hid=>by rw [hn'];exact hnx id hid) h0)));rw [hn'] at h5 h6 h7;exact bG hsel hT hQ u _ a' w' st' L' h2 h3 h4 (fun id hid g hg'=>hG id hid g (by rw [<- h5 id (hnx id hid)];exact hg')) (fun id hid=>NH (hnx id hid) h6) (hE.step h5 h6 (by rw [ht'] at h7;exact h7)) (hA.trans ⟨h8,h9⟩) hB.2 h1 fuel' (by omega)
    .simp only [hw,Ox,if_false];refine ⟨hS,bG hsel hT hQ u _ _ w _ L (bS h2' o.dst) hS (by rw [etab,ht'];exact hy) hG (fun id hid=>by rw [enext,hn'];exact hnx id hid) (hE.same (by rw [etab,ht']) (by rw [enext,hn'])) (hA.put (hT _ _ ho)) hB.2 h0 fuel' (by omega)⟩
   .exact hp3.elim
 | .four i s k t m u n v,listed,a,w,st,L,h,hS,hy,hG,hnx,hE,hA,hB,hp,fuel,hf=>by
  simp only [dm,NU,NW] at hB;unfold cw at hp;obtain ⟨hp,hp2,hp3,hp4⟩:=hp;unfold cH at hp hp2 hp3 hp4;have etab:∀ (st:aj) d av,(st.put d av).tab=st.tab:=fun st d av=>by cases d<;>rfl
  have enext:∀ (st:aj) d av,(st.put d av).next=st.next:=fun st d av=>by cases d<;>rfl
  have hf1:s.len+1<=fuel:=N2 (Pb (PU s.len _)) hf;have hf2:t.len+1<=fuel:=N2 (Pb (N2 (PU t.len _) (OY s.len _))) hf;have hf3:u.len+1<=fuel:=N2 (Pb (N2 (N2 (PU u.len v.len) (OY t.len _)) (OY s.len _))) hf;have hf4:v.len+1<=fuel:=N2 (Pb (N2 (N2 (OY u.len v.len) (OY t.len _)) (OY s.len _))) hf;obtain ⟨fuel',rfl⟩:∃ f,fuel=f+1:=⟨fuel - 1,by omega⟩;refine wpAnyH_all hB.1.1.1.1 (by simp) fun j hj=>?_;have hj:j=i \/ j=k \/ j=m \/ j=n:=by simpa using hj
  rcases hj with rfl|rfl|rfl|rfl
  .split at hp
   .rename_i o ho;unfold wpOp;rw [ho];rcases cq h hp o rfl with ⟨hw,st1,h0,h2',ht',hn'⟩|⟨hw,st1,h0,h2',ht',hn'⟩
    .simp only [hw,if_true];refine .inl (Oper.wp_mono (fun a' w' ⟨⟨st',L',h1,h2,h8,h3,h4,h5,h6,h7⟩,h9⟩=>⟨h3,?_⟩) (dW (hT _ _ ho) (f9 h2' hS (by rw [ht'];exact hy) hG (fun id hid=>by rw [hn'];exact hnx id hid) h0)));rw [hn'] at h5 h6 h7;exact bG hsel hT hQ s _ a' w' st' L' h2 h3 h4 (fun id hid g hg'=>hG id hid g (by rw [<- h5 id (hnx id hid)];exact hg')) (fun id hid=>NH (hnx id hid) h6) (hE.step h5 h6 (by rw [ht'] at h7;exact h7)) (hA.trans ⟨h8,h9⟩) hB.1.1.1.2 h1 fuel' (by omega)
    .simp only [hw,Ox,if_false];refine ⟨hS,bG hsel hT hQ s _ _ w _ L (bS h2' o.dst) hS (by rw [etab,ht'];exact hy) hG (fun id hid=>by rw [enext,hn'];exact hnx id hid) (hE.same (by rw [etab,ht']) (by rw [enext,hn'])) (hA.put (hT _ _ ho)) hB.1.1.1.2 h0 fuel' (by omega)⟩
   .exact hp.elim
  .split at hp2
   .rename_i o ho;unfold wpOp;rw [ho];rcases cq h hp2 o rfl with ⟨hw,st1,h0,h2',ht',hn'⟩|⟨hw,st1,h0,h2',ht',hn'⟩
    .simp only [hw,if_true];refine .inl (Oper.wp_mono (fun a' w' ⟨⟨st',L',h1,h2,h8,h3,h4,h5,h6,h7⟩,h9⟩=>⟨h3,?_⟩) (dW (hT _ _ ho) (f9 h2' hS (by rw [ht'];exact hy) hG (fun id hid=>by rw [hn'];exact hnx id hid) h0)));rw [hn'] at h5 h6 h7;exact bG hsel hT hQ t _ a' w' st' L' h2 h3 h4 (fun id hid g hg'=>hG id hid g (by rw [<- h5 id (hnx id hid)];exact hg')) (fun id hid=>NH (hnx id hid) h6) (hE.step h5 h6 (by rw [ht'] at h7;exact h7)) (hA.trans ⟨h8,h9⟩) hB.1.1.2 h1 fuel' (by omega)
    .simp only [hw,Ox,if_false];refine ⟨hS,bG hsel hT hQ t _ _ w _ L (bS h2' o.dst) hS (by rw [etab,ht'];exact hy) hG (fun id hid=>by rw [enext,hn'];exact hnx id hid) (hE.same (by rw [etab,ht']) (by rw [enext,hn'])) (hA.put (hT _ _ ho)) hB.1.1.2 h0 fuel' (by omega)⟩
   .exact hp2.elim
  .split at hp3
   .rename_i o ho;unfold wpOp;rw [ho];rcases cq h hp3 o rfl with ⟨hw,st1,h0,h2',ht',hn'⟩|⟨hw,st1,h0,h2',ht',hn'⟩
    .simp only [hw,if_true];refine .inl (Oper.wp_mono (fun a' w' ⟨⟨st',L',h1,h2,h8,h3,h4,h5,h6,h7⟩,h9⟩=>⟨h3,?_⟩) (dW (hT _ _ ho) (f9 h2' hS (by rw [ht'];exact hy) hG (fun id hid=>by rw [hn'];exact hnx id hid) h0)));rw [hn'] at h5 h6 h7;exact bG hsel hT hQ u _ a' w' st' L' h2 h3 h4 (fun id hid g hg'=>hG id hid g (by rw [<- h5 id (hnx id hid)];exact hg')) (fun id hid=>NH (hnx id hid) h6) (hE.step h5 h6 (by rw [ht'] at h7;exact h7)) (hA.trans ⟨h8,h9⟩) hB.1.2 h1 fuel' (by omega)
    .simp only [hw,Ox,if_false];refine ⟨hS,bG hsel hT hQ u _ _ w _ L (bS h2' o.dst) hS (by rw [etab,ht'];exact hy) hG (fun id hid=>by rw [enext,hn'];exact hnx id hid) (hE.same (by rw [etab,ht']) (by rw [enext,hn'])) (hA.put (hT _ _ ho)) hB.1.2 h0 fuel' (by omega)⟩
   .exact hp3.elim
  .split at hp4
   .rename_i o ho;unfold wpOp;rw [ho];rcases cq h hp4 o rfl with ⟨hw,st1,h0,h2',ht',hn'⟩|⟨hw,st1,h0,h2',ht',hn'⟩
    .simp only [hw,if_true];refine .inl (Oper.wp_mono (fun a' w' ⟨⟨st',L',h1,h2,h8,h3,h4,h5,h6,h7⟩,h9⟩=>⟨h3,?_⟩) (dW (hT _ _ ho) (f9 h2' hS (by rw [ht'];exact hy) hG (fun id hid=>by rw [hn'];exact hnx id hid) h0)));rw [hn'] at h5 h6 h7;exact bG hsel hT hQ v _ a' w' st' L' h2 h3 h4 (fun id hid g hg'=>hG id hid g (by rw [<- h5 id (hnx id hid)];exact hg')) (fun id hid=>NH (hnx id hid) h6) (hE.step h5 h6 (by rw [ht'] at h7;exact h7)) (hA.trans ⟨h8,h9⟩) hB.2 h1 fuel' (by omega)
    .simp only [hw,Ox,if_false];refine ⟨hS,bG hsel hT hQ v _ _ w _ L (bS h2' o.dst) hS (by rw [etab,ht'];exact hy) hG (fun id hid=>by rw [enext,hn'];exact hnx id hid) (hE.same (by rw [etab,ht']) (by rw [enext,hn'])) (hA.put (hT _ _ ho)) hB.2 h0 fuel' (by omega)⟩
   .exact hp4.elim
theorem kp {ops:Array Oper} {K:aj -> Prop} {T:af} {Tz:Nat -> Prop} {a0:Act} {nx:Nat} {ids:List Nat} {S:World -> Prop} {Q:Exit -> Act -> World -> Prop} (hsel:Region.noSelect ops=true) (hTz:∀ (i:Nat) (o:Oper),ops[i]? = some o -> ∀ t,Tz t -> o.dst ≠ some t) (s:l6) (hS:S w)
  (hSw:∀ w' b,S w' -> (Sx cx w T L b \/ ∃ id o,id ∉ ids /\ T.get id=some o /\ aF (L id)=some b) -> r7 b w w')
  (hQ:∀ listed a st,b5 Tz a0 a -> st.tab=T -> st.next=nx -> dm ops s listed=true -> K st -> aG cx a w st L -> ∀ fuel,s.len<=fuel -> wpAnyH P .any ops (lh Q) S fuel listed a w):∀ (hd:List Nat) (listed:Array Bool) (a:Act) (st:aj),
  b5 Tz a0 a -> aG cx a w st L -> st.tab=T -> st.next=nx -> pX ops hd s listed=true -> jS P ops ids K hd st -> ∀ fuel,hd.length+s.len<=fuel -> wpAnyH P .any ops (lh Q) S fuel listed a w
 | [],listed,a,st,hA,h,hT,hN,hB,hp,fuel,hf=>hQ listed a st hA hT hN hB hp h fuel (by simpa using hf)
 | i :: hd,listed,a,st,hA,h,hT,hN,hB,hp,fuel,hf=>by
  simp only [pX,NU] at hB;unfold jS tg at hp;have etab:∀ (st:aj) d av,(st.put d av).tab=st.tab:=fun st d av=>by cases d<;>rfl
  have enext:∀ (st:aj) d av,(st.put d av).next=st.next:=fun st d av=>by cases d<;>rfl
  split at hp
  .rename_i o ho;obtain ⟨fuel',rfl⟩:∃ f,fuel=f+1:=⟨fuel - 1,by simp at hf;omega⟩;rcases cq h hp o rfl with ⟨hw,st',⟨hl,h0⟩,h2',ht',hn'⟩|⟨hw,st',h0,h2',ht',hn'⟩
   .by_cases hbld:∃ t parts,o.op=.build t parts
    .obtain ⟨t,parts,hop⟩:=hbld;rw [hop] at h0;obtain ⟨v,cs,h3,h4,h5,h6⟩:=kF h2' h0;refine wpAnyH_take (v:=v) ho hsel hB.1.1 hB.1.2 (fun _ _ _ h=>h) (.inl ⟨hw,fun w' _=>by simp [execOp,hop,Sem.run_bind,h5 w']⟩) hS ?_;exact kp hsel hTz s hS hSw hQ hd _ _ _ (hA.put (hTz _ _ ho)) (ba h2' h3 h4 o.dst) (by rw [etab,ht',hT]) (by rw [enext,hn',hN]) hB.2 h6 fuel' (by simp at hf;omega)
    replace h0:bW P st'.tab (a5 st') o.op (aK st' o.dst (jS P ops ids K hd)):=by
     unfold du at h0;split at h0
     .rename_i t parts hop;exact absurd ⟨t,parts,hop⟩ hbld
     .exact h0
    obtain ⟨v,av,h1,h2,h3,_,h5,h6⟩:=jw h2'.lay (fun id o hid=>(h2'.young id o hid).2) (ak h2') h0
    have hy:∀ w',S w' -> (execOp a.eval o).run P w'=.ok (.value v) w':=fun w' hw'=>by
     cases hld:g9 o.op with
     | false=>exact h5 hld w'
     | true=>
      obtain ⟨t,x,hop⟩:∃ t x,o.op=.load t x:=by
       cases hop:o.op<;>simp [hop,g9] at hld;exact ⟨_,_,rfl⟩
      obtain ⟨b,hb,hr⟩:=h6 t x hop;refine hr w' (hSw w' b hw' ?_);rw [hop] at hl;have hev:=(ak h2' x).1;unfold qX uY at hl;simp only at hl;split at hl
      .rename_i id i j he;rw [he] at hev;rw [hop] at h0;simp only [bW,ji,he] at h0
       cases hg:st'.tab.get id with
       | none=>rw [hg] at h0;exact h0.elim
       | some ob=>
        obtain ⟨g,hg1,hg2⟩:=hev.op_inv _ _ (cD hg);rw [hg2] at hb;simp [aF] at hb;subst hb;exact .inr ⟨id,ob,hl,by rw [<- hT,<- ht'];exact hg,hg1⟩
      .rename_i cs he;rw [he] at hev;obtain ⟨b',o',U,hg2,hb',_⟩:=hev.rp_inv;rw [hg2] at hb;simp [aF] at hb;subst hb;refine .inl ?_;rw [<- hT,<- ht'];exact hb'
      .exact hl.elim
    refine wpAnyH_take ho hsel hB.1.1 hB.1.2 (fun _ _ _ h=>h) (.inl ⟨hw,hy⟩) hS ?_;exact kp hsel hTz s hS hSw hQ hd _ _ _ (hA.put (hTz _ _ ho)) (ba h2' h2 h3 o.dst) (by rw [etab,ht',hT]) (by rw [enext,hn',hN]) hB.2 h1 fuel' (by simp at hf;omega)
   .refine wpAnyH_take (v:=undef) ho hsel hB.1.1 hB.1.2 (fun _ _ _ h=>h) (.inr ⟨hw,rfl⟩) hS ?_;exact kp hsel hTz s hS hSw hQ hd _ _ _ (hA.put (hTz _ _ ho)) (bS h2' o.dst) (by rw [etab,ht',hT]) (by rw [enext,hn',hN]) hB.2 h0 fuel' (by simp at hf;omega)
  .exact hp.elim
theorem mV {p:Nat -> Prop} (h:∃ n,p n):∃ n,p n /\ ∀ m,p m -> n<=m:=by
 obtain ⟨n,hn⟩:=h
 induction n using Nat.strongRecOn with
 | _ n ih=>
  by_cases hx:∃ m,m<n /\ p m
  .obtain ⟨m,hm,hp⟩:=hx;exact ih m hm hp
  .exact ⟨n,hn,fun m hm=>Nat.le_of_not_lt fun hlt=>hx ⟨m,hlt,hm⟩⟩
open Classical in
noncomputable def nw (p:Nat -> Prop):Nat:=if h:∃ n,p n then (mV h).choose else 0
theorem jA {p:Nat -> Prop} (h:∃ n,p n):p (nw p) /\ ∀ m,p m -> nw p<=m:=by
 unfold nw;rw [dif_pos h];exact (mV h).choose_spec
abbrev n8 (cx:Cx) (Q:Exit -> aj -> Prop):Exit -> Act -> World -> Prop:=fun e a w=>∃ st L,Q e st /\ aG cx a w st L
theorem uv (hm:P.follows .mixedOrders=true):∀ (c:Code) (Q:Exit -> aj -> Prop) (a:Act) (w:World) (st:aj) (L:Nat -> Value),aG cx a w st L -> bD P c Q st -> c.wp P (n8 cx Q) a w:=by
 intro c
 induction c with
 | skip=>exact fun Q a w st L h hp=>wp_skip ⟨st,L,hp,h⟩
 | region id ops draw=>
  intro Q a w st L h hp;unfold bD DD at hp
  cases draw with
  | false=>exact wp_region_list (un (fun a w st L h1 h2=>⟨st,L,h1,h2⟩) _ _ _ _ _ h (by simpa using hp))
  | true=>
   simp only [if_true] at hp;obtain ⟨l⟩:=ops;rcases hp with ⟨hB,hp⟩|⟨n,hB,hp⟩|⟨ids,hd,s,hB,K',hK',hids,hp⟩
   .exact wp_region_quiet (C:=fun w'=>Below w.heap.size w w') hm hB ((Below.refl _ _).drew) (k5 (L:=L) (T:=fun _=>False) (a0:=a) (tab0:=st.tab) (fun a' st' h1 h2 _ _ w' hw'=>⟨st',L,h1,f6 h2 hw'⟩) _ _ _ (fun _ _ _ h=>h.elim) rfl (.refl a) h hp)
   .have h':aG cx a w.drew st L:=f6 h ((Below.refl _ _).drew);exact wp_region_still_tail n hm hB (po (T:=fun _=>False) (a0:=a) (tab0:=st.tab) (fun a' st' h1 h2 _ _=>un (fun a w st L h1 h2=>⟨st,L,h1,h2⟩) _ _ _ _ _ h2 h1) _ _ _ (fun _ _ _ h=>h.elim) rfl (.refl a) h' hp)
   .simp only [NU] at hB;have hB:=And.intro hB.1 (Nat.le_of_ble_eq_true hB.2);have h':aG cx a w.drew st L:=f6 h ((Below.refl _ _).drew)
    let G:Nat -> Prop:=fun k=>∃ id ∈ ids,aF (L id)=some k
    refine Code.wp_mono (Q:=lh (n8 cx Q)) (fun e a w hq=>?_) (wp_region_held (S:=fun w'=>kz w.drew.heap.size G w.drew w') hm ?_)
    .cases e<;>first|exact hq|exact hq.elim
    .refine kp (T:=st.tab) (Tz:=fun _=>False) (a0:=a) (nx:=st.next) (ids:=ids) hB.1.1 (fun _ _ _ _ h=>h.elim) s ⟨Nz _,fun _ _ _=>rfl⟩ (fun w' b hw' hb o u hu=>?_) (fun listed a' st' _ hT hN hB' hK h2 fuel hf=>?_) hd _ _ _ (.refl a) h' rfl rfl hB.1.2 hp _ hB.2
     .have hlt:=World.block_lt_of_cell? w.drew _ hu;refine (World.cell?_of_block (hw'.block b hlt fun ⟨id,hid,hbl⟩=>?_)).trans hu;obtain ⟨ob,hob⟩:=Oo.1 (hids id hid);rcases hb with hb|⟨id',o',hni,hget,hbl'⟩
      .exact hb.2.2 id ob hob hbl
      .exact hni (h.lay.sep id' id o' ob b hget hob hbl' hbl ▸ hid)
     .refine bG (Q:=n8 cx Q) (T0:=st.tab) (T:=fun _=>False) (a0:=a') (L0:=L) hB.1.1 (fun _ _ _ _ h=>h.elim) (fun a w st L h1 h2 _ _ _ _=>(hK' st h1).elim fun st' h3=>(h3.1 cx a w L h2).elim fun L' h4=>⟨st',L',h3.2,h4.1⟩) s listed a' w.drew st' L h2 ⟨Nz _,fun _ _ _=>rfl⟩ (fun id o g h3 h4 _=>by
       rw [hT] at h4;have:=(h.young id o h4).1;omega) (fun id hid g hg=>⟨id,hid,hg⟩) (fun id hid=>by
       obtain ⟨ob,hob⟩:=Oo.1 (hids id hid);rw [hN];exact (h.young id ob hob).1) ⟨fun _ _=>rfl,by rw [hN];exact Nz _,fun id o _ hg=>⟨o,by rw [<- hT];exact hg⟩,fun id o g _ hni hg hbl=>?_⟩ (.refl a') hB' hK fuel hf
      refine ⟨((h'.lay.objs id _ hg).ge hbl).2,fun ⟨id',hid',hbl'⟩=>hni ?_⟩;obtain ⟨ob,hob⟩:=Oo.1 (hids id' hid');exact h.lay.sep id id' _ ob g hg hob hbl hbl' ▸ hid'
 | seq x y ihx ihy=>
  intro Q a w st L h hp;unfold bD at hp;refine wp_seq (Code.wp_mono (fun e a' w' ⟨st',L',h1,h2⟩=>?_) (ihx _ a w st L h hp))
  cases e with
  | normal=>exact ihy Q a' w' st' L' h2 h1
  | _=>exact ⟨st',L',h1,h2⟩
 | cond c x y ihx ihy=>
  intro Q a w st L h hp;unfold bD u2 at hp;split at hp
  .rename_i b hb;have hv:=(ak h c).1;rw [hb] at hv;have hv:=hv.c_inv;cases b
   .exact wp_cond_false hv (ihy Q a w st L h hp)
   .exact wp_cond_true hv (ihx Q a w st L h hp)
  .exact hp.elim
 | block id x ih=>
  intro Q a w st L h hp;unfold bD at hp;refine wp_block (Code.wp_mono (fun e a' w' ⟨st',L',h1,h2⟩=>?_) (ih _ a w st L h hp))
  cases e with
  | exit id'=>
   simp only [gY,Exit.inBlock] at h1 ⊢;split
   .rename_i e;rw [ND e] at h1;exact ⟨st',L',h1,h2⟩
   .rename_i e;rw [Ny e] at h1;exact ⟨st',L',h1,h2⟩
  | _=>exact ⟨st',L',h1,h2⟩
 | loop x ih=>
  intro Q a w st L h hp;unfold bD at hp;obtain ⟨I,μ,⟨st0,hw0,hI⟩,hr⟩:=hp
  let p:Act -> World -> Nat -> Prop:=fun a w n=>∃ st L,I st /\ aG cx a w st L /\ μ st=n
  obtain ⟨L0,hL0,_⟩:=hw0 _ _ _ _ h;refine wp_loop (fun a w=>∃ n,p a w n) (fun a w=>nw (p a w)) ⟨_,st0,L0,hI,hL0,rfl⟩ fun a w hpa=>?_;obtain ⟨⟨st,L,h1,h2,h3⟩,_⟩:=jA hpa;refine Code.wp_mono (fun e a' w' ⟨st',L',h4,h5⟩=>?_) (ih _ a w st L h2 (hr st h1))
  cases e with
  | normal=>
   obtain ⟨st'',hw,hI'',hlt⟩:=h4;obtain ⟨L1,hL1,_⟩:=hw _ _ _ _ h5;have hpn:p a' w' (μ st''):=⟨st'',L1,hI'',hL1,rfl⟩;refine ⟨⟨_,hpn⟩,?_⟩;have:=(jA ⟨_,hpn⟩).2 _ hpn;show nw (p a' w')<nw (p a w);omega
  | _=>exact ⟨st',L',h4,h5⟩
 | exit id=>exact fun Q a w st L h hp=>wp_exit ⟨st,L,hp,h⟩
 | ret=>exact fun Q a w st L h hp=>wp_ret ⟨st,L,hp,h⟩
 | rangeFunc g ps assign body=>exact fun Q a w st L h hp=>hp cx a w L h
 | label l=>exact fun Q a w st L h hp=>wp_label ⟨st,L,hp,h⟩
 | scope x ih=>
  intro Q a w st L h hp;unfold bD at hp;refine wp_scope_straight (Code.wp_mono (fun e a' w' ⟨st',L',h1,h2⟩=>?_) (ih _ a w st L h hp))
  cases e with
  | goto l=>exact h1
  | _=>exact ⟨st',L',h1,h2⟩
 | _=>exact fun Q a w st L h hp=>hp.elim
end
end
end
end Go.Proofs.YtiaiihjmmfakdaaGreatDoor
