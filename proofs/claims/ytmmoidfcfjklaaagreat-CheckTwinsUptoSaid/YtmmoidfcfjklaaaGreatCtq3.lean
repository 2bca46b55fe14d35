/-
  Parts of the proof: Ctp4.
-/
import Derived.Test.YtmmoidfcfjklaaaGreatCtq2
import Derived.Deep.Quiet
import Derived.StillTail
import Derived.OrdersHeld
import Derived.Scope
set_option linter.unusedVariables false
set_option linter.unusedSimpArgs false
set_option linter.defProp false
set_option maxRecDepth 100000
set_option maxHeartbeats 16000000
namespace Go.Proofs.YtmmoidfcfjklaaaGreat
open Go.RowKit
section
section
def pN (P:Program) (t:TypeId) (st:aj) (p x:AV) (K:aj -> Prop):Prop:=
 match p with
 | .op id i j=>match st.tab.get id with
  | some (.box ty cells)=>i=0 /\ 0<aq P t /\ (ar x).length=aq P t /\ j+aq P t<=cells.length /\ fa st.tab (ar x) /\ K { st with tab:=(id,some (.box ty (cells.take j ++ ar x ++ cells.drop (j+aq P t)))) :: st.tab }
  | some (.row e sz rows)=>i<rows.length /\ 0<aq P t /\ (ar x).length=aq P t /\ j+aq P t<=sz /\ fa st.tab (ar x) /\ aM (ar x) /\ K { st with tab:=(id,some (.row e sz (rows.set i ((rows[i]?.getD []).take j ++ ar x ++ (rows[i]?.getD []).drop (j+aq P t))))) :: st.tab }
  | some (.nest e sz rows)=>i<rows.length /\ 0<aq P t /\ (ar x).length=aq P t /\ j+aq P t<=sz /\ fa st.tab (ar x) /\ K { st with tab:=(id,some (.nest e sz (rows.set i ((rows[i]?.getD []).take j ++ ar x ++ (rows[i]?.getD []).drop (j+aq P t))))) :: st.tab }
  | _=>False
 | _=>False
def nU (P:Program) (t:TypeId) (st:aj) (id i j:Nat) (x:AV) (K:aj -> Prop):Prop:=
 match st.tab.get id with
 | some (.box ty cells)=>i=0 /\ 0<aq P t /\ (ar x).length=aq P t /\ j+aq P t<=cells.length /\ fa st.tab (ar x) /\ K { st with tab:=(id,some (.box ty (cells.take j ++ ar x ++ cells.drop (j+aq P t)))) :: st.tab }
 | some (.row e sz rows)=>i<rows.length /\ 0<aq P t /\ (ar x).length=aq P t /\ j+aq P t<=sz /\ fa st.tab (ar x) /\ aM (ar x) /\ K { st with tab:=(id,some (.row e sz (rows.set i ((rows[i]?.getD []).take j ++ ar x ++ (rows[i]?.getD []).drop (j+aq P t))))) :: st.tab }
 | some (.nest e sz rows)=>i<rows.length /\ 0<aq P t /\ (ar x).length=aq P t /\ j+aq P t<=sz /\ fa st.tab (ar x) /\ K { st with tab:=(id,some (.nest e sz (rows.set i ((rows[i]?.getD []).take j ++ ar x ++ (rows[i]?.getD []).drop (j+aq P t))))) :: st.tab }
 | _=>False
def Ao (t:TypeId) (st:aj) (x:AV) (dst:Option Nat) (K:aj -> Prop):Prop:=
 fa st.tab (ar x) /\ K ({ st with tab:=(st.next,some (.box t (ar x))) :: st.tab,next:=st.next+1 }.put dst (.op st.next 0 0))
def kb (P:Program) (t:TypeId) (st:aj) (x y:AV) (dst:Option Nat) (K:aj -> Prop):Prop:=
 match dn P t with
 | some (e,sz,by_)=>match vZ st.tab e sz x,yx st.tab sz y with
  | some (oid,rows),some rows2=>(rows.length+rows2.length<=9223372036854775807 /\ (rows.length+rows2.length) * by_<=140737488355328) /\ K ({ st with tab:=bP st.tab st.next oid (.row e sz (rows ++ rows2)),next:=st.next+1 }.put dst (.osl st.next))
  | _,_=>match lC st.tab e sz x,qt st.tab sz y with
   | some (oid,rows),some rows2=>(rows.length+rows2.length<=9223372036854775807 /\ (rows.length+rows2.length) * by_<=140737488355328) /\ K ({ st with tab:=bP st.tab st.next oid (.nest e sz (rows ++ rows2)),next:=st.next+1 }.put dst (.osl st.next))
   | _,_=>False
 | none=>False
def BA:AV -> AV -> Bool
 | .c (.slice none 0 0),.c (.slice none 0 0)=>true
 | _,_=>false
theorem nK {x y:AV} (h:BA x y=true):x=.c (.slice none 0 0) /\ y=.c (.slice none 0 0):=by
 unfold BA at h;split at h
 .exact ⟨rfl,rfl⟩
 .cases h
def jy (P:Program) (t:TypeId) (st:aj) (x y:AV) (dst:Option Nat) (K:aj -> Prop):Prop:=
 match BA x y with
 | true=>(dn P t).isSome=true /\ K (st.put dst (.c (.slice none 0 0)))
 | false=>kb P t st x y dst K
section
variable {P:Program} {t:TypeId} {st:aj} {y:AV} {dst:Option Nat} {K:aj -> Prop} {id sz:Nat} {rows:List (List AV)}
theorem EW:jy P t st (.osl id) y dst K=kb P t st (.osl id) y dst K:=rfl
end
theorem iT {P:Program} {t ty:TypeId} {w:World} (h:(dn P t).isSome=true):(Builtin.append_ #[t,t] ty #[.slice none 0 0,.slice none 0 0]).run P w=.ok (.slice none 0 0) w:=by
 obtain ⟨⟨e,sz,by_⟩,ht⟩:=V3.1 h;obtain ⟨i,z,hund,hi,hz,hs,hb,hzs,h0⟩:=gR ht;exact ir 0 hund hi (ko w 0 e i.size)
def gu (P:Program) (t:TypeId) (n:Nat) (parts:List (Nat × Operand)) (dst:Option Nat) (K:aj -> Prop) (st:aj):Prop:=
 match dn P t with
 | some (e,sz,_)=>match gN (parts.flatMap fun (p:Nat × Operand)=>ar (bj st p.2)) with
  | []=>(parts.map (·.1)=List.range' 0 parts.length /\ n=parts.length /\ parts.length * sz<=16777216 /\ zq st.tab sz (parts.map fun p=>bj st p.2)) /\
   K ({ st with tab:=(st.next,some (.row e sz (parts.map fun (p:Nat × Operand)=>ar (bj st p.2)))) :: st.tab,next:=st.next+1 }.put dst (.osl st.next))
  | _ :: _=>(parts.map (·.1)=List.range' 0 parts.length /\ n=parts.length /\ parts.length * sz<=16777216 /\ qJ st.tab sz (parts.map fun p=>bj st p.2)) /\
   K ({ st with tab:=(st.next,some (.nest e sz (parts.map fun (p:Nat × Operand)=>ar (bj st p.2)))) :: st.tab,next:=st.next+1 }.put dst (.osl st.next))
 | none=>False
def ez (P:Program) (t:TypeId) (n:Nat) (parts:List (Nat × Operand)) (st:aj) (dst:Option Nat) (K:aj -> Prop):Prop:=
 gu P t n parts dst K (fL st (gN (parts.flatMap fun (p:Nat × Operand)=>ar (bj st p.2))))
def qH (P:Program) (t:TypeId) (st:aj) (l c:AV) (dst:Option Nat) (K:aj -> Prop):Prop:=
 match dn P t,l,c with
 | some (e,sz,by_),.c (.int _ n),.c (.int _ m)=>match bW P e with
  | some z=>(m=n /\ fa [] (ar (.c z)) /\ 0<=n /\ n<=16777216 /\ (by_:Int) * n<=281474976710656) /\ K ({ st with tab:=(st.next,some (Tm (AK t) e sz (List.replicate n.toNat (ar (.c z))))) :: st.tab,next:=st.next+1 }.put dst (.osl st.next))
  | none=>False
 | _,_,_=>False
def l5 (P:Program) (t:TypeId) (st:aj) (parts:List (Nat × Operand)) (dst:Option Nat) (K:aj -> Prop):Prop:=
 match cy P t with
 | some (places,zs)=>match tz places (zs.map .c) (parts.map fun p=>(p.1,bj st p.2)) with
  | some cs=>kn st.tab (parts.map fun p=>(p.1,bj st p.2)) /\ K (st.put dst (.agg cs))
  | none=>False
 | none=>False
def Gh (h:Int) (b:Bool):Option AV -> Prop
 | none=>True
 | some (.c (.int _ m))=>m=h /\ b=true
 | _=>False
def oe (P:Program) (t:TypeId) (st:aj) (id e sz:Nat) (rows:List (List AV)) (b:Bool) (mx:Option AV) (dst:Option Nat) (K:aj -> Prop):Option Int -> Option Int -> Prop
 | some l,some h=>((bt P t).2=sz /\ 0<sz) /\ (l=0 /\ 0<=h /\ h<=(rows.length:Int) /\ Gh h b mx) /\ K ({ st with tab:=bP st.tab st.next (some id) (.row e sz (rows.take h.toNat)),next:=st.next+1 }.put dst (.osl st.next))
 | _,_=>False
def jx (P:Program) (t:TypeId) (st:aj) (x:AV) (lo hi mx:Option AV) (dst:Option Nat) (K:aj -> Prop):Prop:=
 match x with
 | .osl id=>match st.tab.get id with
  | some (.row e sz rows)=>oe P t st id e sz rows hi.isSome mx dst K (Hd 0 lo) (Hd rows.length hi)
  | _=>False
 | x=>lD P t x lo hi mx fun av=>K (st.put dst av)
def G9 (f:AV) (K:FuncId -> List AV -> Prop):Prop:=
 match f with
 | .c (.func (.func g) first caps)=>(first = #[] /\ caps = #[]) /\ K g []
 | .fn g cs=>K g cs
 | _=>False
def Cz (f:AV) (KB K:FuncId -> List AV -> Prop):Prop:=
 match f with
 | .bfn g bs=>KB g bs
 | f=>G9 f K
def aK (st:aj) (dst:Option Nat) (K:aj -> Prop) (av:AV):Prop:=K (st.put dst av)
def uL (dst:Option Nat) (K:aj -> Prop) (av:AV) (st:aj):Prop:=K (st.put dst av)
def Pp (dst:Option Nat) (K:aj -> Prop) (st:aj):Prop:=K (st.put dst .any)
def lr (dst:Option Nat) (K:aj -> Prop) (st:aj):Prop:=K (st.put dst (.c undef))
def wO (P:Program) (st:aj) (args:List Operand) (dst:Option Nat) (K:aj -> Prop) (g:FuncId) (cs:List AV):Prop:=gy none P st g (args.map (bj st) ++ cs) (uL dst K)
def Ca (P:Program) (st:aj) (args:List Operand) (dst:Option Nat) (K:aj -> Prop) (g:FuncId) (bs:List AV):Prop:=gy none P st g (bs ++ args.map (bj st)) (uL dst K)
def Bq (P:Program) (bJ:Nat) (ids:List Nat) (st:aj) (args:List Operand) (dst:Option Nat) (K:aj -> Prop) (g:FuncId) (cs:List AV):Prop:=gy (some (bJ,ids)) P st g (args.map (bj st) ++ cs) (uL dst K)
def Dh (P:Program) (st:aj) (args:List Operand) (dst:Option Nat) (K:aj -> Prop) (g:FuncId) (cs:List AV):Prop:=∃ v,aw P g ((args.map (bj st) ++ cs).map (gt st.tab)) ⟨.c v,[],0⟩ /\ K (st.put dst (.c v))
def jd (P:Program) (o:Oper) (K:aj -> Prop) (st:aj):Prop:=
 match o.op with
 | .box t x=>Ao t st (bj st x) o.dst K
 | .alloc t=>match bW P t with
  | some z=>Ao t st (.c z) o.dst K
  | none=>False
 | .store t p x=>pN P t st (bj st p) (bj st x) (Pp o.dst K)
 | .buildSlice t n parts=>ez P t n parts.toList st o.dst K
 | .makeSlice t l c=>qH P t st (bj st l) (bj st c) o.dst K
 | .build t parts=>l5 P t st parts.toList o.dst K
 | .slice t x lo hi mx=>jx P t st (bj st x) (lo.map (bj st)) (hi.map (bj st)) (mx.map (bj st)) o.dst K
 | .makeMap _ r=>zN st r.isNone o.dst K
 | .lookup t m k ok=>k8 P t st.tab (bj st m) (bj st k) ok (aK st o.dst K)
 | .mapUpdate t m k v=>ld P t st (bj st m) (bj st k) (bj st v) (Pp o.dst K)
 | .call c=>match c.callee with
  | .builtin .append=>match c.args.toList,c.argTypes.toList with
   | [x,y],[t,t']=>t=t' /\ jy P t st (bj st x) (bj st y) o.dst K
   | _,_=>False
  | .builtin .clear=>xw P st c.args.toList c.argTypes.toList o.dst K
  | .builtin .len=>CO P st.tab (bj st) c.args.toList c.argTypes.toList (aK st o.dst K) \/ ci P st.tab (bj st) (.call c) (aK st o.dst K)
  | .value f=>Cz (bj st f) (Ca P st c.args.toList o.dst K) (wO P st c.args.toList o.dst K)
  | _=>ci P st.tab (bj st) (.call c) (aK st o.dst K)
 | op=>ci P st.tab (bj st) op (aK st o.dst K)
def yv:Value -> Option Bool
 | .bool b=>some b
 | _=>none
def L7 (b want:Bool) (d:Nat) (yes no:aj -> Prop) (st:aj):Prop:=
 match b,want with
 | true,true=>yes (st.put (some d) (.c (.bool true)))
 | false,false=>yes (st.put (some d) (.c (.bool false)))
 | true,false=>no (st.put (some d) (.c (.bool true)))
 | false,true=>no (st.put (some d) (.c (.bool false)))
section
variable {b want:Bool} {d:Nat} {yes no:aj -> Prop} {st:aj}
theorem Sl:L7 true true d yes no st=yes (st.put (some d) (.c (.bool true))):=rfl
theorem S0:L7 false false d yes no st=yes (st.put (some d) (.c (.bool false))):=rfl
theorem Qj:L7 true false d yes no st=no (st.put (some d) (.c (.bool true))):=rfl
theorem SH:L7 false true d yes no st=no (st.put (some d) (.c (.bool false))):=rfl
theorem uU (h1:b=true -> L7 true want d yes no st) (h2:b=false -> L7 false want d yes no st):L7 b want d yes no st:=by
 cases b
 .exact h2 rfl
 .exact h1 rfl
end
def kL (ops:Array Oper) (g:Option (Nat × Bool)) (yes no:aj -> Prop) (st:aj):Prop:=
 match g with
 | none=>yes st
 | some (j,want)=>match (ops[j]?).bind (·.dst) with
  | some d=>match st.get d with
   | .c v=>match yv v with
    | some b=>L7 b want d yes no st
    | none=>no st
   | _=>False
  | none=>False
def lx (P:Program) (ops:Array Oper) (K:aj -> Prop):List Oper -> aj -> Prop
 | [],st=>K st
 | o :: rest,st=>kL ops o.guard (jd P o (lx P ops K rest)) (lr o.dst (lx P ops K rest)) st
def mQ (P:Program) (o:Oper) (K:aj -> Prop) (st:aj):Prop:=
 match o.op with
 | .call c=>match c.callee with
  | .value f=>G9 (bj st f) (Dh P st c.args.toList o.dst K)
  | _=>ci P st.tab (bj st) (.call c) (aK st o.dst K)
 | .build t parts=>l5 P t st parts.toList o.dst K
 | op=>ci P st.tab (bj st) op (aK st o.dst K)
def kj (P:Program) (ops:Array Oper) (K:aj -> Prop):List Oper -> aj -> Prop
 | [],st=>K st
 | o :: rest,st=>kL ops o.guard (mQ P o (kj P ops K rest)) (lr o.dst (kj P ops K rest)) st
def mR (P:Program) (ops:Array Oper) (K:aj -> Prop):List Oper -> aj -> Prop
 | [],st=>K st
 | o :: rest,st=>kL ops o.guard (aPop P o (mR P ops K rest)) (lr o.dst (mR P ops K rest)) st
where aPop (P:Program) (o:Oper) (K:aj -> Prop) (st:aj):Prop:=ci P st.tab (bj st) o.op (aK st o.dst K)
inductive nj where
 | done
 | take (i:Nat) (s:nj)
 | exec (i:Nat) (s:nj)
 | two (i:Nat) (s:nj) (j:Nat) (t:nj)
 | three (i:Nat) (s:nj) (j:Nat) (t:nj) (k:Nat) (u:nj)
 | four (i:Nat) (s:nj) (j:Nat) (t:nj) (k:Nat) (u:nj) (l:Nat) (v:nj)
def nj.len:nj -> Nat
 | .done=>0
 | .take _ s=>s.len+1
 | .exec _ s=>s.len+1
 | .two _ s _ t=>Nat.max s.len t.len+1
 | .three _ s _ t _ u=>Nat.max s.len (Nat.max t.len u.len)+1
 | .four _ s _ t _ u _ v=>Nat.max s.len (Nat.max t.len (Nat.max u.len v.len))+1
def dU (ops:Array Oper):nj -> Array Bool -> Bool
 | .take i s,listed=>Region.free .any ops listed i && (Region.ready .any ops listed).contains i && dU ops s (listed.setIfInBounds i true)
 | .exec i s,listed=>decide (Region.ready .any ops listed=[i]) && dU ops s (listed.setIfInBounds i true)
 | .two i s j t,listed=>decide (Region.ready .any ops listed=[i,j]) && dU ops s (listed.setIfInBounds i true) && dU ops t (listed.setIfInBounds j true)
 | .three i s j t k u,listed=>decide (Region.ready .any ops listed=[i,j,k]) && dU ops s (listed.setIfInBounds i true) && dU ops t (listed.setIfInBounds j true) && dU ops u (listed.setIfInBounds k true)
 | .four i s j t k u l v,listed=>decide (Region.ready .any ops listed=[i,j,k,l]) && dU ops s (listed.setIfInBounds i true) && dU ops t (listed.setIfInBounds j true) && dU ops u (listed.setIfInBounds k true) && dU ops v (listed.setIfInBounds l true)
 | .done,listed=>(Region.ready .any ops listed).isEmpty
def tP (ops:Array Oper):List Nat -> nj -> Array Bool -> Bool
 | i :: h,s,listed=>Region.free .any ops listed i && (Region.ready .any ops listed).contains i && tP ops h s (listed.setIfInBounds i true)
 | [],s,listed=>dU ops s listed
def x8 (bJ:Nat) (ids:List Nat):AV -> Prop
 | .osl id=>fO bJ ids id
 | _=>True
def gH (P:Program) (bJ:Nat) (ids:List Nat) (o:Oper) (K:aj -> Prop) (st:aj):Prop:=
 match o.op with
 | .assign x=>K (st.put o.dst (bj st x))
 | .load _ _=>ci P st.tab (bj st) o.op (aK st o.dst K)
 | .lookup t m k ok=>k8 P t st.tab (bj st m) (bj st k) ok (aK st o.dst K)
 | .mapUpdate t m k v=>match bj st m with
  | .osl id=>fO bJ ids id /\ ld P t st (.osl id) (bj st k) (bj st v) (Pp o.dst K)
  | _=>False
 | .store t p x=>match bj st p with
  | .op id i j=>fO bJ ids id /\ nU P t st id i j (bj st x) (Pp o.dst K)
  | _=>False
 | .alloc t=>match bW P t with
  | some z=>Ao t st (.c z) o.dst K
  | none=>False
 | .box t x=>Ao t st (bj st x) o.dst K
 | .buildSlice t n parts=>ez P t n parts.toList st o.dst K
 | .makeSlice t l c=>qH P t st (bj st l) (bj st c) o.dst K
 | .call c=>match c.callee with
  | .builtin .append=>match c.args.toList,c.argTypes.toList with
   | [x,y],[t,t']=>(t=t' /\ x8 bJ ids (bj st x)) /\ jy P t st (bj st x) (bj st y) o.dst K
   | _,_=>False
  | .value f=>G9 (bj st f) (Bq P bJ ids st c.args.toList o.dst K)
  | _=>False
 | _=>False
def zR (ids:List Nat):AV -> Prop
 | .op id _ _=>id ∉ ids
 | .rp _=>True
 | _=>False
def tu (ids:List Nat) (st:aj):Op -> Prop
 | .load _ x=>zR ids (bj st x)
 | _=>True
def dZ (P:Program) (dst:Option Nat) (op:Op) (K:aj -> Prop) (st:aj):Prop:=
 match op with
 | .build t parts=>l5 P t st parts.toList dst K
 | op=>ci P st.tab (bj st) op (aK st dst K)
def Sf (P:Program) (ids:List Nat) (o:Oper) (K:aj -> Prop) (st:aj):Prop:=tu ids st o.op /\ dZ P o.dst o.op K st
def wB (bJ:Nat) (ids:List Nat) (tab:ae):AV -> Prop
 | .op id _ _=>id<bJ /\ id ∉ ids /\ match tab.get id with
  | some _=>True
  | none=>False
 | _=>False
def py (bJ:Nat) (ids:List Nat) (st:aj):Op -> Prop
 | .load _ x=>wB bJ ids st.tab (bj st x)
 | _=>True
def Di (P:Program) (bJ:Nat) (ids:List Nat) (o:Oper) (K:aj -> Prop) (st:aj):Prop:=py bJ ids st o.op /\ dZ P o.dst o.op K st
def sJ (P:Program) (ops:Array Oper) (bJ:Nat) (ids:List Nat) (o:Option Oper) (K:aj -> Prop) (st:aj):Prop:=
 match o with
 | some o=>kL ops o.guard (Di P bJ ids o K) (lr o.dst K) st
 | none=>False
def xR (P:Program) (ops:Array Oper) (ids:List Nat) (o:Option Oper) (K:aj -> Prop) (st:aj):Prop:=
 match o with
 | some o=>kL ops o.guard (Sf P ids o K) (lr o.dst K) st
 | none=>False
def dp (P:Program) (ops:Array Oper) (bJ:Nat) (ids:List Nat) (o:Option Oper) (K:aj -> Prop) (st:aj):Prop:=
 match o with
 | some o=>kL ops o.guard (gH P bJ ids o K) (lr o.dst K) st
 | none=>False
def cX (P:Program) (ops:Array Oper) (bJ:Nat) (ids:List Nat) (K:aj -> Prop):nj -> aj -> Prop
 | .done,st=>K st
 | .take i s,st=>sJ P ops bJ ids ops[i]? (cX P ops bJ ids K s) st
 | .exec i s,st=>dp P ops bJ ids ops[i]? (cX P ops bJ ids K s) st
 | .two i s j t,st=>dp P ops bJ ids ops[i]? (cX P ops bJ ids K s) st /\ dp P ops bJ ids ops[j]? (cX P ops bJ ids K t) st
 | .three i s j t k u,st=>dp P ops bJ ids ops[i]? (cX P ops bJ ids K s) st /\ dp P ops bJ ids ops[j]? (cX P ops bJ ids K t) st /\ dp P ops bJ ids ops[k]? (cX P ops bJ ids K u) st
 | .four i s j t k u l v,st=>dp P ops bJ ids ops[i]? (cX P ops bJ ids K s) st /\ dp P ops bJ ids ops[j]? (cX P ops bJ ids K t) st /\ dp P ops bJ ids ops[k]? (cX P ops bJ ids K u) st /\ dp P ops bJ ids ops[l]? (cX P ops bJ ids K v) st
def kU (P:Program) (ops:Array Oper) (ids:List Nat) (K:aj -> Prop):List Nat -> aj -> Prop
 | [],st=>K st
 | i :: s,st=>xR P ops ids ops[i]? (kU P ops ids K s) st
def dC (st st':aj):Prop:=∀ cx a w L,aJ cx a w st L -> ∃ L',aJ cx a w st' L' /\ ∀ b,Sx cx w st.tab L b -> Sx cx w st'.tab L' b
theorem dC.reflH (st:aj):dC st st:=fun _ _ _ L h=>⟨L,h,fun _ hb=>hb⟩
inductive zX (P:Program) (ops:Array Oper) (K:aj -> Prop) (st:aj):Prop
 | quiet (hB:Region.lexB .any ops=true) (h:kj P ops K ops.toList st)
 | tail (n:Nat) (hB:Region.lexTailB .any ops n=true) (h:mR P ops (lx P ops K (ops.toList.drop n)) (ops.toList.take n) st)
 | held (ids:List Nat) (hd:List Nat) (s:nj) (hB:(Region.noSelect ops && tP ops hd s (Array.replicate ops.size false) && Nat.ble (hd.length+s.len) ops.size)=true) (K':aj -> Prop) (hK:∀ st,K' st -> ∃ st',dC st st' /\ K st') (h:(∀ id ∈ ids,(st.tab.get id).isSome=true) /\ kU P ops ids (cX P ops st.next ids K' s) hd st)
theorem aA {P:Program} {l:List Oper} {K:aj -> Prop} {st:aj} (hB:Region.lexB .any l.toArray=true) (h:kj P l.toArray K l st):zX P l.toArray K st:=.quiet hB h
theorem Cs {P:Program} {l:List Oper} {K:aj -> Prop} {st:aj} (n:Nat) (hB:Region.lexTailB .any l.toArray n=true) (h:mR P l.toArray (lx P l.toArray K (l.drop n)) (l.take n) st):zX P l.toArray K st:=.tail n hB h
theorem ap {P:Program} {l:List Oper} {K:aj -> Prop} {st:aj} (ids:List Nat) (hd:List Nat) (s:nj) (hB:(Region.noSelect l.toArray && tP l.toArray hd s (Array.replicate l.toArray.size false) && Nat.ble (hd.length+s.len) l.toArray.size)=true) (hids:∀ id ∈ ids,(st.tab.get id).isSome=true) (h:kU P l.toArray ids (cX P l.toArray st.next ids K s) hd st):zX P l.toArray K st:=.held ids hd s hB K (fun st h1=>⟨st,.reflH st,h1⟩) ⟨hids,h⟩
def L5 (I:aj -> Prop) (st:aj):Prop:=∃ st',dC st st' /\ I st'
def lO (next:aj -> Prop) (Q:Exit -> aj -> Prop):Exit -> aj -> Prop
 | .normal,st=>next st
 | e,st=>Q e st
def ip (id:Nat) (Q:Exit -> aj -> Prop):Exit -> aj -> Prop
 | .exit id',st=>if id'=id then Q .normal st else Q (.exit id') st
 | e,st=>Q e st
def PB (t:Bool) (x y:aj -> Prop) (st:aj):Prop:=match t with | true=>x st | false=>y st
theorem Kz {x y:aj -> Prop} {st:aj}:PB true x y st=x st:=rfl
theorem EO {x y:aj -> Prop} {st:aj}:PB false x y st=y st:=rfl
theorem ka {t:Bool} {x y:aj -> Prop} {st:aj} (h1:t=true -> PB true x y st) (h2:t=false -> PB false x y st):PB t x y st:=by
 cases t
 .exact h2 rfl
 .exact h1 rfl
def n8 (c:AV) (x y:aj -> Prop) (st:aj):Prop:=
 match c with
 | .c (.bool b)=>PB b x y st
 | _=>False
def sU (I:aj -> Prop) (μ:aj -> Nat) (n:Nat) (st:aj):Prop:=∃ st',dC st st' /\ I st' /\ μ st'<n
def Et (P:Program) (ops:Array Oper) (draw:Bool) (K:aj -> Prop) (st:aj):Prop:=if draw=true then zX P ops K st else lx P ops K ops.toList st
def Mu (Q:Exit -> aj -> Prop):Exit -> aj -> Prop
 | .goto _,_=>False
 | e,st=>Q e st
def bB (P:Program):Code -> (Exit -> aj -> Prop) -> aj -> Prop
 | .skip,Q,st=>Q .normal st
 | .region _ ops draw,Q,st=>Et P ops draw (Q .normal) st
 | .seq x y,Q,st=>bB P x (lO (bB P y Q) Q) st
 | .cond c x y,Q,st=>n8 (bj st c) (bB P x Q) (bB P y Q) st
 | .block id x,Q,st=>bB P x (ip id Q) st
 | .loop x,Q,st=>∃ (I:aj -> Prop) (μ:aj -> Nat),(∃ st',dC st st' /\ I st') /\ ∀ st,I st -> bB P x (lO (sU I μ (μ st)) Q) st
 | .exit id,Q,st=>Q (.exit id) st
 | .ret,Q,st=>Q .ret st
 | .rangeFunc g ps assign body,Q,st=>∀ (cx:Cx) (a:Act) (w:World) (L:Nat -> Value),aJ cx a w st L -> (Code.rangeFunc g ps assign body).wp P (fun e a w=>∃ st L,Q e st /\ aJ cx a w st L) a w
 | .label _,Q,st=>Q .normal st
 | .scope x,Q,st=>bB P x (Mu Q) st
 | _,_,_=>False
def KC (P:Program) (x:Code) (Q:Exit -> aj -> Prop) (st:aj):Prop:=bB P (.loop x) Q st
theorem af {P:Program} {x:Code} {Q:Exit -> aj -> Prop} {st:aj} (I:aj -> Prop) (μ:aj -> Nat) (h0:∃ st',dC st st' /\ I st') (h:∀ st,I st -> bB P x (lO (sU I μ (μ st)) Q) st):KC P x Q st:=⟨I,μ,h0,h⟩
section
variable {P:Program} {Q:Exit -> aj -> Prop} {st:aj}
theorem CJ:bB P .skip Q st=Q .normal st:=rfl
theorem C4 {id:Nat} {l:List Oper}:bB P (.region id l.toArray false) Q st=lx P l.toArray (Q .normal) l st:=by simp [bB,Et]
theorem Ck {id:Nat} {l:List Oper}:bB P (.region id l.toArray true) Q st=zX P l.toArray (Q .normal) st:=by simp [bB,Et]
theorem FS0 {x y:Code}:bB P (.seq x y) Q st=bB P x (lO (bB P y Q) Q) st:=rfl
theorem Dj {c:Operand} {x y:Code}:bB P (.cond c x y) Q st=n8 (bj st c) (bB P x Q) (bB P y Q) st:=rfl
theorem yI {id:Nat} {x:Code}:bB P (.block id x) Q st=bB P x (ip id Q) st:=rfl
theorem BL {x:Code}:bB P (.loop x) Q st=KC P x Q st:=rfl
theorem Bi {id:Nat}:bB P (.exit id) Q st=Q (.exit id) st:=rfl
theorem GL:bB P .ret Q st=Q .ret st:=rfl
theorem vY {next:aj -> Prop}:lO next Q .normal st=next st:=rfl
theorem Bb {next:aj -> Prop} {id:Nat}:lO next Q (.exit id) st=Q (.exit id) st:=rfl
theorem FO {next:aj -> Prop}:lO next Q .ret st=Q .ret st:=rfl
theorem rh {id:Nat}:ip id Q .normal st=Q .normal st:=rfl
theorem xg {id:Nat}:ip id Q .ret st=Q .ret st:=rfl
theorem uv {id id':Nat}:ip id Q (.exit id') st=if id'=id then Q .normal st else Q (.exit id') st:=rfl
theorem CQ {b:Bool} {x y:aj -> Prop}:n8 (.c (.bool b)) x y st=PB b x y st:=rfl
theorem LP {dst:Option Nat} {K:aj -> Prop}:lr dst K st=K (st.put dst (.c undef)):=rfl
theorem PT {dst:Option Nat} {K:aj -> Prop}:Pp dst K st=K (st.put dst .any):=rfl
theorem Tv {dst:Option Nat} {K:aj -> Prop} {av:AV}:aK st dst K av=K (st.put dst av):=rfl
theorem R6 {dst:Option Nat} {K:aj -> Prop} {av:AV}:uL dst K av st=K (st.put dst av):=rfl
theorem R4 {g:FuncId} {K:FuncId -> List AV -> Prop}:G9 (.c (.func (.func g) #[] #[])) K=K g []:=by simp [G9]
theorem NS {g:FuncId} {KB K:FuncId -> List AV -> Prop}:Cz (.c (.func (.func g) #[] #[])) KB K=K g []:=by simp [Cz,G9]
theorem KM {g:FuncId} {cs:List AV} {KB K:FuncId -> List AV -> Prop}:Cz (.fn g cs) KB K=K g cs:=rfl
theorem OP {g:FuncId} {cs:List AV} {K:FuncId -> List AV -> Prop}:G9 (.fn g cs) K=K g cs:=rfl
theorem Fp {args:List Operand} {dst:Option Nat} {K:aj -> Prop} {g:FuncId} {cs:List AV}:wO P st args dst K g cs=gy none P st g (args.map (bj st) ++ cs) (uL dst K):=rfl
theorem ER {bJ:Nat} {ids:List Nat} {args:List Operand} {dst:Option Nat} {K:aj -> Prop} {g:FuncId} {cs:List AV}:Bq P bJ ids st args dst K g cs=gy (some (bJ,ids)) P st g (args.map (bj st) ++ cs) (uL dst K):=rfl
theorem GJ {args:List Operand} {dst:Option Nat} {K:aj -> Prop} {g:FuncId} {cs:List AV}:Dh P st args dst K g cs = ∃ v,aw P g ((args.map (bj st) ++ cs).map (gt st.tab)) ⟨.c v,[],0⟩ /\ K (st.put dst (.c v)):=rfl
section
variable {ops:Array Oper} {K:aj -> Prop} {dst:Option Tmp} {op:Op} {ty:TypeId} {pos:String} {aft:Array Edge} {gd:Option (Nat × Bool)} {rest:List Oper} {j:Nat} {want:Bool}
theorem J1:lx P ops K [] st=K st:=rfl
theorem Cg:lx P ops K (⟨dst,op,ty,pos,aft,none⟩ :: rest) st=jd P ⟨dst,op,ty,pos,aft,none⟩ (lx P ops K rest) st:=rfl
def rH (v:AV) (want:Bool) (d:Nat) (yes no:aj -> Prop) (st:aj):Prop:=
 match v with
 | .c v=>match yv v with
  | some b=>L7 b want d yes no st
  | none=>no st
 | _=>False
def nZ (d:Option Nat) (want:Bool) (yes no:aj -> Prop) (st:aj):Prop:=match d with | some d=>rH (st.get d) want d yes no st | none=>False
theorem CA {d:Nat} {yes no:aj -> Prop}:nZ (some d) want yes no st=rH (st.get d) want d yes no st:=rfl
theorem xV {b:Bool} {d:Nat} {yes no:aj -> Prop}:rH (.c (.bool b)) want d yes no st=L7 b want d yes no st:=rfl
theorem uh {d:Nat} {yes no:aj -> Prop}:rH (.c undef) want d yes no st=no st:=rfl
theorem Bc:lx P ops K (⟨dst,op,ty,pos,aft,some (j,want)⟩ :: rest) st=nZ ((ops[j]?).bind (·.dst)) want (jd P ⟨dst,op,ty,pos,aft,some (j,want)⟩ (lx P ops K rest)) (lr dst (lx P ops K rest)) st:=rfl
theorem F5:mR P ops K [] st=K st:=rfl
theorem yy:mR P ops K (⟨dst,op,ty,pos,aft,none⟩ :: rest) st=ci P st.tab (bj st) op (aK st dst (mR P ops K rest)):=rfl
theorem Bv {ids:List Nat}:kU P ops ids K [] st=K st:=rfl
theorem Ad {ids:List Nat} {i:Nat} {s:List Nat}:kU P ops ids K (i :: s) st=xR P ops ids ops[i]? (kU P ops ids K s) st:=rfl
theorem Gc {bJ:Nat} {ids:List Nat}:cX P ops bJ ids K .done st=K st:=rfl
theorem CV {bJ i:Nat} {ids:List Nat} {s:nj}:cX P ops bJ ids K (.take i s) st=sJ P ops bJ ids ops[i]? (cX P ops bJ ids K s) st:=rfl
theorem Cv {bJ i:Nat} {ids:List Nat} {s:nj}:cX P ops bJ ids K (.exec i s) st=dp P ops bJ ids ops[i]? (cX P ops bJ ids K s) st:=rfl
theorem FI {bJ i j:Nat} {ids:List Nat} {s t:nj}:cX P ops bJ ids K (.two i s j t) st=(dp P ops bJ ids ops[i]? (cX P ops bJ ids K s) st /\ dp P ops bJ ids ops[j]? (cX P ops bJ ids K t) st):=rfl
theorem yw {bJ i j k:Nat} {ids:List Nat} {s t u:nj}:cX P ops bJ ids K (.three i s j t k u) st=(dp P ops bJ ids ops[i]? (cX P ops bJ ids K s) st /\ dp P ops bJ ids ops[j]? (cX P ops bJ ids K t) st /\ dp P ops bJ ids ops[k]? (cX P ops bJ ids K u) st):=rfl
theorem wl {ids:List Nat}:xR P ops ids (some ⟨dst,op,ty,pos,aft,none⟩) K st=(tu ids st op /\ dZ P dst op K st):=rfl
theorem vV {bJ:Nat} {ids:List Nat}:sJ P ops bJ ids (some ⟨dst,op,ty,pos,aft,none⟩) K st=(py bJ ids st op /\ dZ P dst op K st):=rfl
theorem x9 {bJ:Nat} {ids:List Nat}:sJ P ops bJ ids (some ⟨dst,op,ty,pos,aft,some (j,want)⟩) K st=nZ ((ops[j]?).bind (·.dst)) want (Di P bJ ids ⟨dst,op,ty,pos,aft,some (j,want)⟩ K) (lr dst K) st:=rfl
theorem xW {t:TypeId} {parts:List (Nat × Operand)}:dZ P dst (.build t parts.toArray) K st=l5 P t st parts dst K:=by simp [dZ]
theorem A4 {x:Operand}:dZ P dst (.move x) K st=ci P st.tab (bj st) (.move x) (aK st dst K):=rfl
theorem AD {c x y:Operand}:dZ P dst (.pick c x y) K st=ci P st.tab (bj st) (.pick c x y) (aK st dst K):=rfl
theorem Ak {t:TypeId} {x:Operand}:dZ P dst (.load t x) K st=ci P st.tab (bj st) (.load t x) (aK st dst K):=rfl
theorem wG {s:TypeId} {x:Operand} {f:Nat}:dZ P dst (.fieldAddr s x f) K st=ci P st.tab (bj st) (.fieldAddr s x f) (aK st dst K):=rfl
theorem ww {t:TypeId} {x y:Operand}:dZ P dst (.indexAddr t x y) K st=ci P st.tab (bj st) (.indexAddr t x y) (aK st dst K):=rfl
theorem BO {o:BinOp} {t r:TypeId} {x y:Operand}:dZ P dst (.binOp o t x y r) K st=ci P st.tab (bj st) (.binOp o t x y r) (aK st dst K):=rfl
theorem uy {x:Operand}:dZ P dst (.nilCheck x) K st=ci P st.tab (bj st) (.nilCheck x) (aK st dst K):=rfl
theorem Ge {o:UnOp} {t:TypeId} {x:Operand}:dZ P dst (.unOp o t x) K st=ci P st.tab (bj st) (.unOp o t x) (aK st dst K):=rfl
theorem sX {x:Operand} {i:Nat}:dZ P dst (.extract x i) K st=ci P st.tab (bj st) (.extract x i) (aK st dst K):=rfl
theorem zD {c:Call}:dZ P dst (.call c) K st=ci P st.tab (bj st) (.call c) (aK st dst K):=rfl
theorem EH {bJ:Nat} {ids:List Nat}:Di P bJ ids ⟨dst,op,ty,pos,aft,gd⟩ K st=(py bJ ids st op /\ dZ P dst op K st):=rfl
theorem Fg {bJ:Nat} {ids:List Nat}:dp P ops bJ ids (some ⟨dst,op,ty,pos,aft,none⟩) K st=gH P bJ ids ⟨dst,op,ty,pos,aft,none⟩ K st:=rfl
def HU (P:Program) (bJ:Nat) (ids:List Nat) (o:Oper) (K:aj -> Prop) (st:aj):Prop:=gH P bJ ids o K st
theorem FD {bJ:Nat} {ids:List Nat} {o:Oper}:HU P bJ ids o K st=gH P bJ ids o K st:=rfl
theorem wD {bJ:Nat} {ids:List Nat}:dp P ops bJ ids (some ⟨dst,op,ty,pos,aft,some (j,want)⟩) K st=nZ ((ops[j]?).bind (·.dst)) want (HU P bJ ids ⟨dst,op,ty,pos,aft,some (j,want)⟩ K) (lr dst K) st:=rfl
theorem wk {bJ:Nat} {ids:List Nat} {x:Operand}:gH P bJ ids ⟨dst,.assign x,ty,pos,aft,gd⟩ K st=K (st.put dst (bj st x)):=rfl
def CF (P:Program) (bJ:Nat) (ids:List Nat) (t:TypeId) (p x:AV) (dst:Option Nat) (K:aj -> Prop) (st:aj):Prop:=
 match p with
 | .op id i j=>fO bJ ids id /\ nU P t st id i j x (Pp dst K)
 | _=>False
theorem CC {bJ:Nat} {ids:List Nat} {t:TypeId} {x:Operand}:gH P bJ ids ⟨dst,.load t x,ty,pos,aft,gd⟩ K st=j9 P t st.tab (bj st x) (aK st dst K):=rfl
theorem xH {bJ:Nat} {ids:List Nat} {t:TypeId} {m k:Operand} {ok:Bool}:gH P bJ ids ⟨dst,.lookup t m k ok,ty,pos,aft,gd⟩ K st=k8 P t st.tab (bj st m) (bj st k) ok (aK st dst K):=rfl
def C0 (P:Program) (bJ:Nat) (ids:List Nat) (t:TypeId) (m k v:AV) (dst:Option Nat) (K:aj -> Prop) (st:aj):Prop:=
 match m with
 | .osl id=>fO bJ ids id /\ ld P t st (.osl id) k v (Pp dst K)
 | _=>False
theorem qZ {bJ:Nat} {ids:List Nat} {t:TypeId} {m k v:Operand}:gH P bJ ids ⟨dst,.mapUpdate t m k v,ty,pos,aft,gd⟩ K st=C0 P bJ ids t (bj st m) (bj st k) (bj st v) dst K st:=rfl
theorem ze {bJ:Nat} {ids:List Nat} {t:TypeId} {p x:Operand}:gH P bJ ids ⟨dst,.store t p x,ty,pos,aft,gd⟩ K st=CF P bJ ids t (bj st p) (bj st x) dst K st:=rfl
theorem yX {bJ:Nat} {ids:List Nat} {t:TypeId}:gH P bJ ids ⟨dst,.alloc t,ty,pos,aft,gd⟩ K st=match bW P t with | some z=>Ao t st (.c z) dst K | none=>False:=rfl
theorem xx {bJ:Nat} {ids:List Nat} {x y:Operand} {t t':TypeId}:gH P bJ ids ⟨dst,.call ⟨.builtin .append,#[x,y],#[t,t']⟩,ty,pos,aft,gd⟩ K st=((t=t' /\ x8 bJ ids (bj st x)) /\ jy P t st (bj st x) (bj st y) dst K):=rfl
theorem Cr {bJ:Nat} {ids:List Nat} {f:Operand} {args:List Operand} {ts:Array TypeId}:gH P bJ ids ⟨dst,.call ⟨.value f,args.toArray,ts⟩,ty,pos,aft,gd⟩ K st=G9 (bj st f) (Bq P bJ ids st args dst K):=by simp [gH]
theorem qW {bJ:Nat} {ids:List Nat} {t:TypeId} {l c:Operand}:gH P bJ ids ⟨dst,.makeSlice t l c,ty,pos,aft,gd⟩ K st=qH P t st (bj st l) (bj st c) dst K:=rfl
theorem pj {bJ:Nat} {ids:List Nat} {t:TypeId} {n:Nat} {parts:List (Nat × Operand)}:gH P bJ ids ⟨dst,.buildSlice t n parts.toArray,ty,pos,aft,gd⟩ K st=ez P t n parts st dst K:=by simp [gH]
theorem Co {k:AV -> Prop} {tab:ae} {ev:Operand -> AV} {x:Operand}:ci P tab ev (.move x) k=k (ev x):=rfl
theorem Bx {k:AV -> Prop} {tab:ae} {ev:Operand -> AV} {t:TypeId} {x:Operand}:ci P tab ev (.load t x) k=j9 P t tab (ev x) k:=rfl
theorem AX {k:AV -> Prop} {tab:ae} {ev:Operand -> AV} {t:TypeId} {x:Operand} {f:Nat}:ci P tab ev (.fieldAddr t x f) k=nN P t tab (ev x) f k:=rfl
theorem y9 {k:AV -> Prop} {tab:ae} {ev:Operand -> AV} {t:TypeId} {x i:Operand}:ci P tab ev (.indexAddr t x i) k=i9 P t tab (ev x) (ev i) k:=rfl
theorem EQ {k:AV -> Prop} {tab:ae} {ev:Operand -> AV} {o:BinOp} {t t2:TypeId} {x y:Operand}:ci P tab ev (.binOp o t x y t2) k=xh P o t (ev x) (ev y) k:=rfl
theorem ws {k:AV -> Prop} {tab:ae} {ev:Operand -> AV} {x:Operand}:ci P tab ev (.nilCheck x) k=AI tab (ev x) k:=rfl
theorem JW {k:AV -> Prop} {tab:ae} {ev:Operand -> AV} {o:UnOp} {t:TypeId} {x:Operand}:ci P tab ev (.unOp o t x) k=S7 o (ev x) k:=rfl
theorem ue {k:AV -> Prop} {tab:ae} {ev:Operand -> AV} {x:Operand} {i:Nat}:ci P tab ev (.extract x i) k=j4 (ev x) i k:=rfl
theorem Gb {k:AV -> Prop} {tab:ae} {ev:Operand -> AV} {x:Operand} {t:TypeId}:ci P tab ev (.call ⟨.builtin .len,#[x],#[t]⟩) k=sH P t tab (ev x) k:=rfl
theorem E3:kj P ops K [] st=K st:=rfl
theorem yS:kj P ops K (⟨dst,op,ty,pos,aft,none⟩ :: rest) st=mQ P ⟨dst,op,ty,pos,aft,none⟩ (kj P ops K rest) st:=rfl
theorem AP:kj P ops K (⟨dst,op,ty,pos,aft,some (j,want)⟩ :: rest) st=nZ ((ops[j]?).bind (·.dst)) want (mQ P ⟨dst,op,ty,pos,aft,some (j,want)⟩ (kj P ops K rest)) (lr dst (kj P ops K rest)) st:=rfl
def xX (c a b:AV) (dst:Option Nat) (K:aj -> Prop) (st:aj):Prop:=Jl c a b (aK st dst K)
def Ga (t:Bool) (a b:AV) (dst:Option Nat) (K:aj -> Prop) (st:aj):Prop:=match t with | true=>K (st.put dst a) | false=>K (st.put dst b)
theorem GX {a b:AV}:Ga true a b dst K st=K (st.put dst a):=rfl
theorem BH {a b:AV}:Ga false a b dst K st=K (st.put dst b):=rfl
theorem C3 {t:Bool} {a b:AV} (h1:t=true -> Ga true a b dst K st) (h2:t=false -> Ga false a b dst K st):Ga t a b dst K st:=by
 cases t
 .exact h2 rfl
 .exact h1 rfl
theorem yE {t:Bool} {a b:AV}:xX (.c (.bool t)) a b dst K st=Ga t a b dst K st:=by cases t<;>rfl
theorem Db {tab:ae} {ev:Operand -> AV} {dst:Option Nat} {x y z:Operand}:ci P tab ev (.pick x y z) (aK st dst K)=xX (ev x) (ev y) (ev z) dst K st:=rfl
theorem LV {x:Operand}:jd P ⟨dst,.move x,ty,pos,aft,gd⟩ K st=K (st.put dst (bj st x)):=rfl
theorem Cu {x:Operand}:jd P ⟨dst,.assign x,ty,pos,aft,gd⟩ K st=K (st.put dst (bj st x)):=rfl
theorem JS {c x y:Operand}:jd P ⟨dst,.pick c x y,ty,pos,aft,gd⟩ K st=xX (bj st c) (bj st x) (bj st y) dst K st:=rfl
theorem J2 {t:TypeId} {x:Operand}:jd P ⟨dst,.load t x,ty,pos,aft,gd⟩ K st=j9 P t st.tab (bj st x) (aK st dst K):=rfl
theorem Ez {t:TypeId} {x:Operand} {f:Nat}:jd P ⟨dst,.fieldAddr t x f,ty,pos,aft,gd⟩ K st=nN P t st.tab (bj st x) f (aK st dst K):=rfl
theorem GO {t:TypeId} {x i:Operand}:jd P ⟨dst,.indexAddr t x i,ty,pos,aft,gd⟩ K st=i9 P t st.tab (bj st x) (bj st i) (aK st dst K):=rfl
theorem N1 {o:BinOp} {t t2:TypeId} {x y:Operand}:jd P ⟨dst,.binOp o t x y t2,ty,pos,aft,gd⟩ K st=xh P o t (bj st x) (bj st y) (aK st dst K):=rfl
theorem BF {x:Operand}:jd P ⟨dst,.nilCheck x,ty,pos,aft,gd⟩ K st=AI st.tab (bj st x) (aK st dst K):=rfl
theorem Rn {o:UnOp} {t:TypeId} {x:Operand}:jd P ⟨dst,.unOp o t x,ty,pos,aft,gd⟩ K st=S7 o (bj st x) (aK st dst K):=rfl
theorem AA {x:Operand} {i:Nat}:jd P ⟨dst,.extract x i,ty,pos,aft,gd⟩ K st=j4 (bj st x) i (aK st dst K):=rfl
theorem Na {x y:Operand} {t t':TypeId}:jd P ⟨dst,.call ⟨.builtin .max,#[x,y],#[t,t']⟩,ty,pos,aft,gd⟩ K st=Pi (fun a b=>max a b) [bj st x,bj st y] (aK st dst K):=rfl
theorem M9 {x y:Operand} {t t':TypeId}:jd P ⟨dst,.call ⟨.builtin .min,#[x,y],#[t,t']⟩,ty,pos,aft,gd⟩ K st=Pi (fun a b=>min a b) [bj st x,bj st y] (aK st dst K):=rfl
theorem NI {x:Operand} {t:TypeId}:jd P ⟨dst,.call ⟨.builtin .len,#[x],#[t]⟩,ty,pos,aft,gd⟩ K st=(vf P t st.tab (bj st x) (aK st dst K) \/ sH P t st.tab (bj st x) (aK st dst K)):=rfl
theorem AW {t:TypeId}:jd P ⟨dst,.makeMap t none,ty,pos,aft,gd⟩ K st=K ({ st with tab:=(st.next,some (.map [])) :: st.tab,next:=st.next+1 }.put dst (.osl st.next)):=by simp [jd,zN]
theorem A8 {x y:Operand} {t t':TypeId}:jd P ⟨dst,.call ⟨.builtin .append,#[x,y],#[t,t']⟩,ty,pos,aft,gd⟩ K st=(t=t' /\ jy P t st (bj st x) (bj st y) dst K):=rfl
theorem wy {g:FuncId} {caps:List Operand}:jd P ⟨dst,.makeFunc (.func g) #[] caps.toArray,ty,pos,aft,gd⟩ K st=aK st dst K (.fn g (caps.map (bj st))):=by simp [jd,ci,RK,Kn]
theorem JK {f:Operand} {args:List Operand} {ts:Array TypeId}:jd P ⟨dst,.call ⟨.value f,args.toArray,ts⟩,ty,pos,aft,gd⟩ K st=Cz (bj st f) (Ca P st args dst K) (wO P st args dst K):=by simp [jd]
theorem Ov {t:TypeId} {x:Operand}:jd P ⟨dst,.box t x,ty,pos,aft,gd⟩ K st=Ao t st (bj st x) dst K:=rfl
theorem Gi {t:TypeId}:jd P ⟨dst,.alloc t,ty,pos,aft,gd⟩ K st=match bW P t with | some z=>Ao t st (.c z) dst K | none=>False:=rfl
theorem F8 {t:TypeId} {p x:Operand}:jd P ⟨dst,.store t p x,ty,pos,aft,gd⟩ K st=pN P t st (bj st p) (bj st x) (Pp dst K):=rfl
theorem sm {t:TypeId} {n:Nat} {parts:List (Nat × Operand)}:jd P ⟨dst,.buildSlice t n parts.toArray,ty,pos,aft,gd⟩ K st=ez P t n parts st dst K:=by simp [jd]
theorem uu {t:TypeId} {l c:Operand}:jd P ⟨dst,.makeSlice t l c,ty,pos,aft,gd⟩ K st=qH P t st (bj st l) (bj st c) dst K:=rfl
theorem GG {t:TypeId} {x:Operand} {lo hi mx:Option Operand}:jd P ⟨dst,.slice t x lo hi mx,ty,pos,aft,gd⟩ K st=jx P t st (bj st x) (lo.map (bj st)) (hi.map (bj st)) (mx.map (bj st)) dst K:=rfl
theorem AY {tab:ae} {ev:Operand -> AV} {t:TypeId} {x:Operand} {lo hi mx:Option Operand} {k:AV -> Prop}:ci P tab ev (.slice t x lo hi mx) k=lD P t (ev x) (lo.map ev) (hi.map ev) (mx.map ev) k:=rfl
theorem vS {t:TypeId} {x:Operand} {lo hi mx:Option Operand}:dZ P dst (.slice t x lo hi mx) K st=ci P st.tab (bj st) (.slice t x lo hi mx) (aK st dst K):=rfl
theorem Em {t:TypeId} {parts:List (Nat × Operand)}:jd P ⟨dst,.build t parts.toArray,ty,pos,aft,gd⟩ K st=l5 P t st parts dst K:=by simp [jd]
theorem EF {x:Operand}:mQ P ⟨dst,.move x,ty,pos,aft,gd⟩ K st=K (st.put dst (bj st x)):=rfl
theorem zU {x:Operand}:mQ P ⟨dst,.assign x,ty,pos,aft,gd⟩ K st=K (st.put dst (bj st x)):=rfl
theorem FT {c x y:Operand}:mQ P ⟨dst,.pick c x y,ty,pos,aft,gd⟩ K st=xX (bj st c) (bj st x) (bj st y) dst K st:=rfl
theorem Fb {t:TypeId} {x:Operand}:mQ P ⟨dst,.load t x,ty,pos,aft,gd⟩ K st=j9 P t st.tab (bj st x) (aK st dst K):=rfl
theorem Cb {t:TypeId} {x:Operand} {f:Nat}:mQ P ⟨dst,.fieldAddr t x f,ty,pos,aft,gd⟩ K st=nN P t st.tab (bj st x) f (aK st dst K):=rfl
theorem C2 {t:TypeId} {x i:Operand}:mQ P ⟨dst,.indexAddr t x i,ty,pos,aft,gd⟩ K st=i9 P t st.tab (bj st x) (bj st i) (aK st dst K):=rfl
theorem Lm {o:BinOp} {t t2:TypeId} {x y:Operand}:mQ P ⟨dst,.binOp o t x y t2,ty,pos,aft,gd⟩ K st=xh P o t (bj st x) (bj st y) (aK st dst K):=rfl
theorem zS {x:Operand}:mQ P ⟨dst,.nilCheck x,ty,pos,aft,gd⟩ K st=AI st.tab (bj st x) (aK st dst K):=rfl
theorem MY {o:UnOp} {t:TypeId} {x:Operand}:mQ P ⟨dst,.unOp o t x,ty,pos,aft,gd⟩ K st=S7 o (bj st x) (aK st dst K):=rfl
theorem Lr {x:Operand} {t:TypeId}:mQ P ⟨dst,.call ⟨.builtin .len,#[x],#[t]⟩,ty,pos,aft,gd⟩ K st=sH P t st.tab (bj st x) (aK st dst K):=rfl
theorem FV {f:Operand} {args:List Operand} {ts:Array TypeId}:mQ P ⟨dst,.call ⟨.value f,args.toArray,ts⟩,ty,pos,aft,gd⟩ K st=G9 (bj st f) (Dh P st args dst K):=by simp [mQ]
end
end
section
variable {P:Program} {cx:Cx} {a:Act} {w w':World} {tab:ae} {st:aj} {L:Nat -> Value} {nx:Nat}
abbrev LZ (cx:Cx) (K:aj -> Prop):Act -> World -> Prop:=fun a w=>∃ st L,K st /\ aJ cx a w st L
theorem aV {o:Oper} {v:Value} {w':World} {K:Act -> World -> Prop} {Q:Exit -> Act -> World -> Prop} (h:(execOp a.eval o).run P w=.ok (.value v) w') (hk:K (a.put o.dst v) w'):o.wp P a w K Q:=by
 unfold Oper.wp;rw [h];exact hk
theorem eZ {o:Oper} {w':World} {K:Act -> World -> Prop} {Q:Exit -> Act -> World -> Prop} (h:(execOp a.eval o).run P w=.ok .skip w') (hk:K (a.put o.dst undef) w'):o.wp P a w K Q:=by
 unfold Oper.wp;rw [h];exact hk
theorem rD {o:Oper} {K:aj -> Prop} {Q:Exit -> Act -> World -> Prop} (h:aJ cx a w st L) (hp:ci P st.tab (bj st) o.op (aK st o.dst K)):o.wp P a w (LZ cx K) Q:=by
 obtain ⟨v,av,h1,h2,h3,h4,_⟩:=kS h.lay (fun id o hid=>(h.young id o hid).2) (am h) hp;exact aV (h4 w (Below.refl _ _)) ⟨_,L,h1,bl h h2 h3 o.dst⟩
theorem rl {f:AV} {K:FuncId -> List AV -> Prop} {v:Value} (hv:bN cx w tab L v f) (hl:f.lt nx) (h:G9 f K):∃ g xs cs,v=.func (.func g) #[] xs /\ xs.size=cs.length /\ (∀ (j:Nat) (x:Value) (av:AV),xs[j]? = some x -> cs[j]? = some av -> bN cx w tab L x av) /\ K g cs /\ ∀ av ∈ cs,av.lt nx:=by
 unfold G9 at h;split at h
 .rename_i g first caps
  obtain ⟨⟨rfl,rfl⟩,h⟩:=h;exact ⟨g,#[],[],hv.c_inv,rfl,fun j x av h1 _=>by simp at h1,h,by simp⟩
 .rename_i g cs;obtain ⟨xs,h1,h2,h3⟩:=hv.fn_inv;exact ⟨g,xs,cs,h1,h2,h3,h,ak.1 hl⟩
 .exact h.elim
theorem Jq (h:aJ cx a w st L) {args:Array Operand} {xs:Array Value} {cs:List AV} (hn:xs.size=cs.length) (hx:∀ (j:Nat) (x:Value) (av:AV),xs[j]? = some x -> cs[j]? = some av -> bN cx w st.tab L x av) :
  (xs ++ args.map a.eval).size=(cs ++ args.toList.map (bj st)).length /\ ∀ (j:Nat) (v:Value) (av:AV),(xs ++ args.map a.eval)[j]? = some v -> (cs ++ args.toList.map (bj st))[j]? = some av -> bN cx w st.tab L v av:=by
 refine ⟨by simp [hn],fun j v av h1 h2=>?_⟩;by_cases hj:j<xs.size
 .rw [V5 hj] at h1;rw [VM (by omega)] at h2;exact hx j v av h1 h2
 .rw [Xg (by omega)] at h1;rw [VO (by omega),<- hn] at h2;rw [XB] at h1;rw [Ve,Wd] at h2
  cases hk:args[j - xs.size]? with
  | none=>simp [hk] at h1
  | some x=>
   simp [hk] at h1 h2;subst h1;subst h2;exact (am h x).1
theorem rj (h:aJ cx a w st L) {args:Array Operand} {xs:Array Value} {cs:List AV} (hn:xs.size=cs.length) (hx:∀ (j:Nat) (x:Value) (av:AV),xs[j]? = some x -> cs[j]? = some av -> bN cx w st.tab L x av) :
  (args.map a.eval ++ xs).size=(args.toList.map (bj st) ++ cs).length /\ ∀ (j:Nat) (v:Value) (av:AV),(args.map a.eval ++ xs)[j]? = some v -> (args.toList.map (bj st) ++ cs)[j]? = some av -> bN cx w st.tab L v av:=by
 refine ⟨by simp [hn],fun j v av h1 h2=>?_⟩;by_cases hj:j<args.size
 .rw [V5 (by simpa using hj),XB,Vj hj] at h1;rw [VM (by simpa using hj),Ve,Wd,Vj hj] at h2;simp at h1 h2;subst h1;subst h2;exact (am h _).1
 .rw [Xg (by simpa using hj)] at h1;rw [VO (by simpa using hj)] at h2;simp at h1 h2;exact hx _ v av h1 h2
theorem AL (h:aJ cx a w st L) {f:Operand} {args:Array Operand} {dst:Option Nat} {K:aj -> Prop} (hp:Cz (bj st f) (Ca P st args.toList dst K) (wO P st args.toList dst K)) :
  ∃ (g:FuncId) (zs:Array Value) (avs:List AV),(fE P g -> ∀ (o:Oper) (ts:Array TypeId),o.op=.call ⟨.value f,args,ts⟩ -> (execOp a.eval o).run P w=.ok (.enter g zs) w) /\ zs.size=avs.length /\
   (∀ (j:Nat) (v:Value) (av:AV),zs[j]? = some v -> avs[j]? = some av -> bN cx w st.tab L v av /\ av.lt st.next) /\ gy none P st g avs (uL dst K):=by
 unfold Cz at hp;split at hp
 .rename_i g bs hf;have hv:=(am h f).1;have hl:=(am h f).2;rw [hf] at hv hl;obtain ⟨xs,hg,hxn,hxr⟩:=hv.bfn_inv;have hargs:=Jq h (args:=args) hxn hxr;refine ⟨g,xs ++ args.map a.eval,bs ++ args.toList.map (bj st),fun hent o ts ho=>?_,hargs.1,fun j v av h1 h2=>⟨hargs.2 j v av h1 h2,?_⟩,hp⟩
  .have:=hent (xs ++ args.map a.eval) w;simp [execOp,ho,Sem.run_bind,resolve,hg,Deferred.ofValue,invoke,this]
  .rcases Vp.1 (p0 h2) with h3 | h3
   .exact ak.1 hl av h3
   .obtain ⟨x,_,rfl⟩:=Vt.1 h3;exact (am h x).2
 .obtain ⟨g,xs,cs,hg,hxn,hxr,hp,hcs⟩:=rl (am h f).1 (am h f).2 hp;have hargs:=rj h (args:=args) hxn hxr;refine ⟨g,args.map a.eval ++ xs,args.toList.map (bj st) ++ cs,fun hent o ts ho=>?_,hargs.1,fun j v av h1 h2=>⟨hargs.2 j v av h1 h2,?_⟩,hp⟩
  .have:=hent (args.map a.eval ++ xs) w;simp [execOp,ho,Sem.run_bind,resolve,hg,Deferred.ofValue,invoke,this]
  .rcases Vp.1 (p0 h2) with h3 | h3
   .obtain ⟨x,_,rfl⟩:=Vt.1 h3;exact (am h x).2
   .exact hcs av h3
theorem lG {t:TypeId} {parts:Array (Nat × Operand)} {dst:Option Nat} {K:aj -> Prop} (h:aJ cx a w st L) (hp:l5 P t st parts.toList dst K):∃ v,∃ cs,bN cx w st.tab L v (.agg cs) /\ (AV.agg cs).lt st.next /\ (∀ w',(Instr.build t (parts.map fun (p:Nat × Operand)=>(p.1,a.eval p.2))).run P w'=.ok v w') /\ K (st.put dst (.agg cs)):=by
 unfold l5 at hp;split at hp
 .rename_i places zs ht;split at hp
  .rename_i cs hf;obtain ⟨h1,h2⟩:=hp;obtain ⟨v,h3,h4,h5⟩:=IO0 h ht hf h1;exact ⟨v,cs,h3,h4,by simpa using h5,h2⟩
  .exact hp.elim
 .exact hp.elim
theorem EJ {t:TypeId} {x:Operand} {lo hi mx:Option Operand} {K:aj -> Prop} {Q:Exit -> Act -> World -> Prop} {ty:TypeId} {dst:Option Nat} {pos:String} {aft:Array Edge} {gd:Option (Nat × Bool)} (h:aJ cx a w st L)
  (hp:jx P t st (bj st x) (lo.map (bj st)) (hi.map (bj st)) (mx.map (bj st)) dst K):Oper.wp (P:=P) ⟨dst,.slice t x lo hi mx,ty,pos,aft,gd⟩ a w (LZ cx K) Q:=by
 unfold jx at hp;split at hp
 .rename_i id hx;have hv:=(am h x).1;rw [hx] at hv;split at hp
  .rename_i e sz rows hid;unfold oe at hp;split at hp
   .rename_i l h' hl hh;obtain ⟨⟨h1,h2⟩,⟨rfl,h4,h5,h6⟩,h7⟩:=hp;obtain ⟨hu,hsz⟩:=iW (P:=P) (t:=t) (by omega);have hvL:=hv.osl_inv _ _ (cQ hid);obtain ⟨hrow,xs,hown,hone,hx'⟩:=h.lay.objs id _ hid;have hs:=dA (P:=P) (t:=(bt P t).1) (by omega) w;rw [hsz,h1] at hs
    have key:∀ A cap,L id=.slice A rows.length cap -> rows.length<=cap -> ∃ m,h'.toNat<=m /\ m<=cap /\ (Instr.sliceBounds true rows.length cap (lo.map a.eval) (hi.map a.eval) (mx.map a.eval)).run P w=.ok (0,h'.toNat,m) w:=by
     intro A cap hL hc;have hlo:=qr (d:=0) (n:=0) (fun x=>(am h x).1) hl (by omega) rfl;have hhi:=qr (d:=rows.length) (n:=h'.toNat) (fun x=>(am h x).1) hh (by omega) rfl
     cases mx with
     | none=>exact ⟨cap,by omega,Os _,gS hlo hhi (.inl ⟨rfl,rfl⟩) (by omega) (by omega)⟩
     | some q=>
      have hq:=(am h q).1;simp only [VX] at h6 ⊢;unfold Gh at h6;split at h6
      .rename_i hq';cases hq'
      .rename_i k m hq'
       injection hq' with hq'
       rw [hq'] at hq;obtain ⟨rfl,hb⟩:=h6;refine ⟨m.toNat,Os _,by omega,gS hlo hhi (.inr ⟨rfl,⟨k,by rw [hq.c_inv,Int.toNat_of_nonneg h4]⟩,fun hn=>?_⟩) (by omega) (by omega)⟩
       cases hi with
       | none=>simp at hb
       | some _=>cases hn
      .exact h6.elim
    rcases hown.2 with ⟨hL,h0⟩|⟨g,cap,cur,hL,hb,hh',hc,hm,hcs,htake⟩
    .obtain ⟨m,hm1,hm2,hr⟩:=key none 0 (by rw [hL,h0]) (by omega);have hm0:m=0:=(by omega);have hn0:h'.toNat=0:=(by omega);refine aV (v:=.slice none 0 0) ?_ ⟨_,_,h7,li (n:=h'.toNat) h hid (by omega) (.inl ⟨hL,rfl⟩) dst⟩;rw [h0] at hr;simp [execOp,Sem.run_bind,hvL,hL,Instr.sliceAt,Instr.slice,run_underlying hu,hr,hs,hm0,hn0]
    .obtain ⟨m,hm1,hm2,hr⟩:=key _ cap hL hc;refine aV (v:=.slice (some ⟨g,0,none⟩) h'.toNat m) ?_ ⟨_,_,h7,li (n:=h'.toNat) h hid (by omega) (.inr ⟨g,cap,m,hL,rfl,hm1,hm2⟩) dst⟩;simp [execOp,Sem.run_bind,hvL,hL,Instr.sliceAt,Instr.slice,run_underlying hu,hr,hs,Addr.add_lit]
   .exact hp.elim
  .exact hp.elim
 .exact rD (o:=⟨dst,.slice t x lo hi mx,ty,pos,aft,gd⟩) h (by exact hp)
theorem Um {o:Oper} {K:aj -> Prop} {Q:Exit -> Act -> World -> Prop} (h:aJ cx a w st L) (hp:jd P o K st):o.wp P a w (LZ cx K) Q:=by
 obtain ⟨dst,op,ty,pos,aft,gd⟩:=o;unfold jd at hp;simp only at hp;split at hp
 .rename_i t x;obtain ⟨h1,h2⟩:=hp;have he:=am h x;obtain ⟨h3,h4⟩:=pU (P:=P) (t:=t) h he.1 he.2 h1 dst;exact aV (by simp [execOp,Sem.run_bind,h3]) ⟨_,_,h2,h4⟩
 .rename_i t;split at hp
  .rename_i z hz;obtain ⟨h1,h2⟩:=hp;obtain ⟨h3,h4⟩:=pU (P:=P) (t:=t) (av:=.c z) h (.tree (.c z)) trivial h1 dst;exact aV (by simp [execOp,Sem.run_bind,pB hz,h3]) ⟨_,_,h2,h4⟩
  .exact hp.elim
 .rename_i t p x;unfold pN at hp;split at hp
  .rename_i id i j hpe;split at hp
   .rename_i ty cells hid;obtain ⟨rfl,h0,h1,h2,h3,h4⟩:=hp;have hpv:=(am h p).1;rw [hpe] at hpv;have hx:=am h x;obtain ⟨w',h5,h6,_⟩:=kJ h hpv hid hx.1 hx.2 h0 h1 h2 h3 dst;exact eZ (by simp [execOp,Sem.run_bind,h5]) ⟨_,_,h4,h6⟩
   .rename_i e sz rows hid;obtain ⟨hi,h0,h1,h2,h3,h3',h4⟩:=hp;have hpv:=(am h p).1;rw [hpe] at hpv;have hx:=am h x;obtain ⟨w',h5,h6,_⟩:=kN h hpv hid hx.1 hx.2 hi h0 h1 h2 h3 h3' dst;exact eZ (by simp [execOp,Sem.run_bind,h5]) ⟨_,_,h4,h6⟩
   .rename_i e sz rows hid;obtain ⟨hi,h0,h1,h2,h3,h4⟩:=hp;have hpv:=(am h p).1;rw [hpe] at hpv;have hx:=am h x;obtain ⟨w',h5,h6,_⟩:=jI h hpv hid hx.1 hx.2 hi h0 h1 h2 h3 dst;exact eZ (by simp [execOp,Sem.run_bind,h5]) ⟨_,_,h4,h6⟩
   .exact hp.elim
  .exact hp.elim
 .rename_i t n parts;unfold ez at hp
  replace h:=f9 (gN (parts.toList.flatMap fun (p:Nat × Operand)=>ar (bj st p.2))) h
  unfold gu at hp;split at hp
  .rename_i e sz by_ ht;split at hp
   .obtain ⟨⟨h1,rfl,h3,h5⟩,h6⟩:=hp;obtain ⟨v',w',L',h7,h8,_⟩:=jK h ht h1 h3 h5 dst;refine aV ?_ ⟨_,_,h6,h8⟩;simp only [W6] at h7;simp [execOp,Sem.run_bind];simp at h7;simp [h7]
   .obtain ⟨⟨h1,rfl,h3,h5⟩,h6⟩:=hp;obtain ⟨v',w',L',h7,h8,_⟩:=pP h ht h1 h3 h5 dst;refine aV ?_ ⟨_,_,h6,h8⟩;simp only [W6] at h7;simp [execOp,Sem.run_bind];simp at h7;simp [h7]
  .exact hp.elim
 .rename_i t l c;unfold qH at hp;split at hp
  .rename_i e sz by_ k1 n k2 m ht hl hc;split at hp
   .rename_i z hz;obtain ⟨⟨rfl,h1,h2,h3,h4⟩,h5⟩:=hp;have hl':=(am h l).1;have hc':=(am h c).1;rw [hl] at hl';rw [hc] at hc';obtain ⟨v',w',L',h6,h7,_⟩:=wm (k1:=k1) (k2:=k2) h ht hz h1 h2 h3 h4 dst;exact aV (by simp [execOp,Sem.run_bind,hl'.c_inv,hc'.c_inv,h6]) ⟨_,_,h5,h7⟩
   .exact hp.elim
  .exact hp.elim
 .rename_i t parts;obtain ⟨v,cs,h1,h2,h3,h4⟩:=lG h hp;refine aV ?_ ⟨_,_,h4,bl h h1 h2 dst⟩;simp [execOp,Sem.run_bind,h3 w]
 .rename_i t x lo hi mx;exact EJ h hp
 .rename_i t r;obtain ⟨hr,hp⟩:=hp
  cases r with
  | some r=>cases hr
  | none=>
   obtain ⟨h1,h2⟩:=tQ (P:=P) (t:=t) h dst;exact aV (by simp [execOp,Sem.run_bind,h1]) ⟨_,_,hp,h2⟩
 .rename_i t m k ok;obtain ⟨r,av,h1,h2,h3,h4⟩:=pg (nx:=st.next) h.lay (am h m).1 (am h k).1 hp;exact aV (by simp [execOp,Sem.run_bind,h4]) ⟨_,_,h1,bl h h2 h3 dst⟩
 .rename_i t m k v;obtain ⟨w',st',h1,h2,h3,_⟩:=qi h (am h m).1 (am h k).1 (am h v).1 dst hp;exact eZ (by simp [execOp,Sem.run_bind,h1]) ⟨_,_,h2,h3⟩
 .rename_i c;obtain ⟨callee,args,argTypes⟩:=c;simp only at hp;split at hp
  .split at hp
   .rename_i x y t t' h1 h2;obtain rfl:args = #[x,y]:=by cases args;simp_all
    obtain rfl:argTypes = #[t,t']:=by cases argTypes;simp_all
    obtain ⟨rfl,hp⟩:=hp;unfold jy at hp;split at hp
    .rename_i hnn;obtain ⟨e1,e2⟩:=nK hnn;have hx1:=(am h x).1;have hy1:=(am h y).1;rw [e1] at hx1;rw [e2] at hy1;have hx2:=hx1.c_inv;have hy2:=hy1.c_inv;have hr:=iT (ty:=ty) (w:=w) hp.1;exact aV (by simp [execOp,Sem.run_bind,resolve,invoke,builtin,hx2,hy2,hr]) ⟨_,_,hp.2,bl h (.tree (.c _)) trivial dst⟩
    unfold kb at hp;split at hp
    .rename_i e sz by_ ht;split at hp
     .rename_i oid rows rows2 hx hy;obtain ⟨⟨h3,h4⟩,h5⟩:=hp;obtain ⟨v',w',L',h6,h7,_⟩:=qm (ty:=ty) h (am h x).1 (am h y).1 ht hx hy (by simpa [maxLen] using h3) h4 dst;exact aV (by simp [execOp,Sem.run_bind,resolve,invoke,builtin,h6]) ⟨_,_,h5,h7⟩
     .split at hp
      .rename_i oid rows rows2 hx hy;obtain ⟨⟨h3,h4⟩,h5⟩:=hp;obtain ⟨v',w',L',h6,h7,_⟩:=mZ (ty:=ty) h (am h x).1 (am h y).1 ht hx hy (by simpa [maxLen] using h3) h4 dst;exact aV (by simp [execOp,Sem.run_bind,resolve,invoke,builtin,h6]) ⟨_,_,h5,h7⟩
      .exact hp.elim
    .exact hp.elim
   .exact hp.elim
  .unfold xw at hp;split at hp
   .rename_i x t h1 h2;obtain rfl:args = #[x]:=by cases args;simp_all
    obtain rfl:argTypes = #[t]:=by cases argTypes;simp_all
    obtain ⟨w',st',h3,h4,h5,_⟩:=yR (ty:=ty) h (am h x).1 dst hp;exact aV (by simp [execOp,Sem.run_bind,resolve,invoke,builtin,h3]) ⟨_,_,h4,h5⟩
   .exact hp.elim
  .rcases hp with hp | hp
   .unfold CO at hp;split at hp
    .rename_i x t h1 h2;obtain rfl:args = #[x]:=by cases args;simp_all
     obtain rfl:argTypes = #[t]:=by cases argTypes;simp_all
     obtain ⟨r,av,h3,h4,h5,h6⟩:=DY (ty:=ty) (nx:=st.next) h.lay (am h x).1 hp;exact aV (by simp [execOp,Sem.run_bind,resolve,invoke,builtin,h6]) ⟨_,_,h3,bl h h4 h5 dst⟩
    .exact hp.elim
   .exact rD h hp
  .rename_i f;obtain ⟨g,zs,avs,hrun0,hsz,hlt,hp⟩:=AL h hp;by_cases hmeth:AR none P st g avs (uL dst K)
   .obtain ⟨hent,ids0,_,hc⟩:=wi h hsz (fun j v av h1 h2=>(hlt j v av h1 h2).1) hmeth dst;unfold Oper.wp;rw [hrun0 hent _ argTypes rfl];show Calls P g zs w _;refine hc.mono ?_;rintro e w' ⟨v,av,st',L',rfl,h1,h2,h3,_⟩;exact ⟨_,_,h1,h2⟩
   replace hp:pA P st g avs (uL dst K) \/ (none=(none:Option (Nat × List Nat)) /\ (DM P st g avs (uL dst K) \/ CY P st g avs (uL dst K))):=by
    rcases hp with hp|hp|hp
    .exact .inl hp
    .exact .inr hp
    .exact absurd hp hmeth
   have hent:fE P g:=by
    rcases hp with (⟨R,hd,_⟩|⟨hd,_⟩)|⟨_,(⟨_,_,_,_,_,_,_,_,hd,_⟩|⟨_,_,_,_,_,_,_,_,_,hd,_⟩|⟨hd,_⟩)|⟨_,(⟨R,hd,_⟩|⟨hd,_⟩)⟩⟩
    .exact hd.1
    .exact hd
    .exact hd.1
    .exact hd.1
    .exact hd
    .exact hd.1
    .exact hd
   unfold Oper.wp;rw [hrun0 hent _ argTypes rfl];show Calls P g zs w _;have hargs:zs.size=avs.length /\ ∀ (j:Nat) (v:Value) (av:AV),zs[j]? = some v -> avs[j]? = some av -> bN cx w st.tab L v av:=⟨hsz,fun j v av h1 h2=>(hlt j v av h1 h2).1⟩;rcases hp with hp|⟨_,hp|⟨ids,hp⟩⟩
   .refine (oj h hargs.1 hargs.2 hp dst).mono ?_;rintro e w' ⟨v,av,st',L',rfl,h1,h2,_⟩;exact ⟨_,_,h1,h2⟩
   rotate_left
   .obtain ⟨h3,h4⟩:=mH ids h hlt;refine (oj (f9 ids h) (by rw [h3];exact hargs.1) (fun j v av h5 h6=>(h4 j v av h5 h6).1) hp dst).mono ?_;rintro e w' ⟨v,av,st',L',rfl,h1,h2,_⟩;exact ⟨_,_,h1,h2⟩
   .refine (Dp h hargs.1 hlt hp dst).mono ?_;rintro e w' ⟨v,av,st',L',rfl,h1,h2,_⟩;exact ⟨_,_,h1,h2⟩
  .exact rD h hp
 .exact rD h hp
theorem cz {ops:Array Oper} {g:Option (Nat × Bool)} {yes no:aj -> Prop} (h:aJ cx a w st L) (hp:kL ops g yes no st) (o:Oper) (ho:o.guard=g) :
  (Region.wanted o (yielded ops a.tmps)=true /\ ∃ st',yes st' /\ aJ cx a w st' L /\ st'.tab=st.tab /\ st'.next=st.next) \/ (Region.wanted o (yielded ops a.tmps)=false /\ ∃ st',no st' /\ aJ cx a w st' L /\ st'.tab=st.tab /\ st'.next=st.next):=by
 subst ho;unfold kL at hp;unfold Region.wanted;split at hp
 .rename_i hg;rw [hg];exact .inl ⟨rfl,st,hp,h,rfl,rfl⟩
 .rename_i j want hg;rw [hg];simp only;split at hp
  .rename_i d hd;split at hp
   .rename_i v hv;have hval:=(h.env d).1;rw [hv] at hval;have hval:=hval.c_inv
    have hy:yielded ops a.tmps j=yv v:=by
     unfold yielded;rw [hd];simp only [Wm];rw [<- hval];rw [V9]
     cases ht:a.tmps[d]? with
     | none=>rfl
     | some u=>cases u<;>rfl
    rw [hy]
    have same:∀ b,v=.bool b -> aJ cx a w (st.put (some d) (.c (.bool b))) L /\ (st.put (some d) (.c (.bool b))).tab=st.tab /\ (st.put (some d) (.c (.bool b))).next=st.next:=fun b hb=>by
     subst hb;have e1:(st.put (some d) (.c (.bool b))).tab=st.tab:=rfl;have e2:(st.put (some d) (.c (.bool b))).next=st.next:=rfl;have e3:(st.put (some d) (.c (.bool b))).n=st.n:=rfl;refine ⟨⟨by rw [e1];exact h.lay,by rw [e3];exact h.size,by rw [e1];exact h.defers,by rw [e1,e2];exact h.young,fun t=>?_⟩,e1,e2⟩;rw [e1,e2,DJ];simp only;split
     .rename_i ht;rw [ht.2,hval];exact ⟨.tree (.c _),trivial⟩
     .exact h.env t
    split at hp
    .rename_i b hb
     have hvb:v=.bool b:=by
      cases v<;>simp [yv] at hb;rw [hb]
     by_cases hw:b=want
     .subst hw;have hp:yes (st.put (some d) (.c (.bool b))):=by cases b<;>exact hp
      exact .inl ⟨by simp [hb],_,hp,same _ hvb⟩
     .have hp:no (st.put (some d) (.c (.bool b))):=by cases b<;>cases want<;>first|exact hp|exact absurd rfl hw
      exact .inr ⟨by simp [hb,hw],_,hp,same _ hvb⟩
    .rename_i hb;exact .inr ⟨by simp [hb],st,hp,h,rfl,rfl⟩
   .exact hp.elim
  .exact hp.elim
theorem bZ (h:aJ cx a w st L) (dst:Option Nat):aJ cx (a.put dst undef) w (st.put dst (.c undef)) L:=bl h (.tree (.c _)) trivial dst
theorem xd {ops:Array Oper} {K:aj -> Prop} {Q:Exit -> Act -> World -> Prop} (hQ:∀ a w st L,K st -> aJ cx a w st L -> Q .normal a w):∀ (l:List Oper) (a:Act) (w:World) (st:aj) (L:Nat -> Value),aJ cx a w st L -> lx P ops K l st -> wpList P ops Q l a w
 | [],a,w,st,L,h,hp=>hQ a w st L hp h
 | o :: rest,a,w,st,L,h,hp=>by
  unfold lx at hp;refine wpList_step fun K' hK'=>?_;rcases cz h hp o rfl with ⟨hw,st',h1,h2,_⟩|⟨hw,st',h1,h2,_⟩
  .rw [Vn hw];exact Oper.wp_mono (fun a' w' ⟨st'',L',h3,h4⟩=>hK' a' w' (xd hQ rest a' w' st'' L' h4 h3)) (Um h2 h1)
  .rw [Vh (by simp [hw])];exact hK' _ _ (xd hQ rest _ w _ L (bZ h2 o.dst) h1)
theorem fT (h:aJ cx a w st L) (hb:Below w.heap.size w w'):aJ cx a w' st L:=by
 have hext:mM cx w st.tab L st.next w' st.tab L:=gV hb (fun id _=>⟨rfl,rfl⟩) (fun id o hid=>(h.young id o hid).1) (fun id o g h1 h2 _=>by have:=(h.young id o h2).1;omega);refine ⟨jX h.lay h.young hb (fun id _=>⟨rfl,rfl⟩) (fun id o h1 h2=>?_) (fun id o g h1 h2 _=>?_) (fun id id' o o' g h1 _ h2 _ _ _=>?_),h.size,h.defers.mono hext.blk hext.sub,h.young,fun t=>⟨hext.rv (h.env t).1 (h.env t).2,(h.env t).2⟩⟩
 .have:=(h.young id o h2).1;omega
 .have:=(h.young id o h2).1;omega
 .have:=(h.young id o h2).1;omega
structure cw (T:Nat -> Prop) (a a':Act):Prop where
 defers:a'.defers=a.defers
 slots:∀ t,T t -> a'.tmps.getD t undef=a.tmps.getD t undef
theorem cw.refl {T:Nat -> Prop} (a:Act):cw T a a:=⟨rfl,fun _ _=>rfl⟩
theorem cw.trans {T:Nat -> Prop} {a b c:Act} (h:cw T a b) (k:cw T b c):cw T a c:=⟨k.defers.trans h.defers,fun t ht=>(k.slots t ht).trans (h.slots t ht)⟩
theorem bE (a:Act) (d:Option Nat) (v:Value):(a.put d v).defers=a.defers:=by cases d<;>rfl
theorem jV (st:aj) (d:Option Nat) (av:AV):(st.put d av).tab=st.tab:=by cases d<;>rfl
theorem jZ {a:Act} {dst:Option Nat} {v:Value} {t:Nat} (h:dst ≠ some t):(a.put dst v).tmps.getD t undef=a.tmps.getD t undef:=by
 cases dst with
 | none=>rfl
 | some d=>
  have hd:d ≠ t:=fun e=>h (by rw [e]);simp [Act.put,V9,Array.getElem?_setIfInBounds,hd]
theorem cw.put {T:Nat -> Prop} {a b:Act} {dst:Option Nat} {v:Value} (h:cw T a b) (hd:∀ t,T t -> dst ≠ some t):cw T a (b.put dst v):=⟨(bE _ _ _).trans h.defers,fun t ht=>(jZ (hd t ht)).trans (h.slots t ht)⟩
theorem fl {o:Oper} {K:Act -> World -> Prop} {Q:Exit -> Act -> World -> Prop} {T:Nat -> Prop} (hd:∀ t,T t -> o.dst ≠ some t) (h:o.wp P a w K Q):o.wp P a w (fun a' w'=>K a' w' /\ ∀ t,T t -> a'.tmps.getD t undef=a.tmps.getD t undef) Q:=by
 unfold Oper.wp Oper.upon at *;generalize (execOp a.eval o).run P w=r at h
 cases r with
 | ok x w1=>
  cases x with
  | value v=>exact ⟨h,fun t ht=>jZ (hd t ht)⟩
  | skip=>exact ⟨h,fun t ht=>jZ (hd t ht)⟩
  | defer d=>exact ⟨h,fun t ht=>jZ (a:={ a with defers:=d :: a.defers }) (hd t ht)⟩
  | enter f args=>
   refine Calls.mono h fun e w2 h2=>?_
   cases e with
   | returned v=>exact ⟨h2,fun t ht=>jZ (hd t ht)⟩
   | panicked chain=>exact h2
   | outgrown=>exact h2
  | row row args=>exact Rows.mono h fun v w2 h2=>⟨h2,fun t ht=>jZ (hd t ht)⟩
  | _=>exact h.elim
 | halt x w1=>
  cases x<;>first|exact h|exact h.elim
theorem mN {ops:Array Oper} {K:aj -> Prop} {Q:Act -> Prop} {T:Nat -> Prop} {a0:Act} {tab0:ae} (hQ:∀ a st,K st -> aJ cx a w st L -> st.tab=tab0 -> cw T a0 a -> Q a):∀ (l:List Oper) (a:Act) (st:aj),(∀ o ∈ l,∀ t,T t -> o.dst ≠ some t) -> st.tab=tab0 -> cw T a0 a -> aJ cx a w st L -> kj P ops K l st -> wpQuiet P ops (fun w'=>Below w.heap.size w w') Q l a
 | [],a,st,_,hT,hA,h,hp=>hQ a st hp h hT hA
 | o :: rest,a,st,hd0,hT,hA,h,hp=>by
  have hdo:=hd0 o (V1 ..);have hdr:=fun o' (ho:o' ∈ rest)=>hd0 o' (VT _ ho);unfold kj at hp;refine wpQuiet_step fun K' hK'=>?_;rcases cz h hp o rfl with ⟨hw,st',h1,h2,ht',_⟩|⟨hw,st',h1,h2,ht',_⟩
  .rw [Vn hw]
   have pureCase:∀ op,o.op=op -> ci P st'.tab (bj st') op (aK st' o.dst (kj P ops K rest)) -> o.quiet P a (fun w'=>Below w.heap.size w w') K':=fun op hop hp'=>by
    subst hop;obtain ⟨v,av,h3,h4,h5,h6,_⟩:=kS h2.lay (fun id o hid=>(h2.young id o hid).2) (am h2) hp';refine ⟨v,fun w' hw'=>?_,hK' _ (mN hQ rest _ _ hdr (by rw [jV,ht',hT]) (hA.put hdo) (bl h2 h4 h5 o.dst) h3)⟩;unfold Oper.quietAt;rw [h6 w' hw'];exact ⟨rfl,rfl⟩
   unfold mQ at h1;split at h1
   .rename_i c hc;split at h1
    .rename_i f hf;obtain ⟨g,xs,cs,hg,hxn,hxr,⟨v,hd,h3⟩,_⟩:=rl (am h2 f).1 (am h2 f).2 h1;refine ⟨v,fun w' hw'=>?_,hK' _ (mN hQ rest _ _ hdr (by rw [jV,ht',hT]) (hA.put hdo) (bl h2 (.tree (.c v)) trivial o.dst) h3)⟩
     have hrun:(execOp a.eval o).run P w'=.ok (.enter g (c.args.map a.eval ++ xs)) w':=by
      have:=hd.1 (c.args.map a.eval ++ xs) w';simp [execOp,hc,Sem.run_bind,resolve,hf,hg,Deferred.ofValue,invoke,this]
     have hargs:=rj h2 (args:=c.args) hxn hxr;unfold Oper.quietAt;rw [hrun];refine ⟨rfl,(hd.2 (fun b=>b<w'.heap.size) w' (c.args.map a.eval ++ xs) (h2.lay.amb.below hw').all (by simpa using hargs.1) (fun j x av h4 h5=>?_)).mono ?_⟩
     .rw [Ve] at h5
      cases hj:(c.args.toList.map (bj st') ++ cs)[j]? with
      | none=>simp [hj] at h5
      | some y=>
       simp [hj] at h5;subst h5;exact (D8 h2.lay (hargs.2 j x y h4 hj)).mono (fun p hp=>hw'.cell hp) (fun b hb=>Vm hb hw'.size)
     .rintro e w'' ⟨v',L2,R,rfl,_,rfl,hl,hr⟩;obtain rfl:=hr.c_inv;exact ⟨rfl,hw'.trans ((hl.below.below fun b hb=>hb).mono hw'.size)⟩
    .exact pureCase _ hc h1
   .rename_i t parts hb;obtain ⟨v,cs,h3,h4,h5,h6⟩:=lG h2 h1;refine ⟨v,fun w' hw'=>?_,hK' _ (mN hQ rest _ _ hdr (by rw [jV,ht',hT]) (hA.put hdo) (bl h2 h3 h4 o.dst) h6)⟩;have hrun:(execOp a.eval o).run P w'=.ok (.value v) w':=(by simp [execOp,hb,Sem.run_bind,h5 w']);unfold Oper.quietAt;rw [hrun];exact ⟨rfl,rfl⟩
   .exact pureCase _ rfl h1
  .rw [Vh (by simp [hw])];exact hK' _ (mN hQ rest _ _ hdr (by rw [jV,ht',hT]) (hA.put hdo) (bZ h2 o.dst) h1)
theorem rq {ops:Array Oper} {K:aj -> Prop} {Q:Act -> Prop} {T:Nat -> Prop} {a0:Act} {tab0:ae} (hQ:∀ a st,K st -> aJ cx a w st L -> st.tab=tab0 -> cw T a0 a -> Q a):∀ (l:List Oper) (a:Act) (st:aj),(∀ o ∈ l,∀ t,T t -> o.dst ≠ some t) -> st.tab=tab0 -> cw T a0 a -> aJ cx a w st L -> mR P ops K l st -> wpStill P ops w Q l a
 | [],a,st,_,hT,hA,h,hp=>hQ a st hp h hT hA
 | o :: rest,a,st,hd0,hT,hA,h,hp=>by
  have hdo:=hd0 o (V1 ..);have hdr:=fun o' (ho:o' ∈ rest)=>hd0 o' (VT _ ho);unfold mR at hp;refine wpStill_step fun K' hK'=>?_;rcases cz h hp o rfl with ⟨hw,st',h1,h2,ht',_⟩|⟨hw,st',h1,h2,ht',_⟩
  .rw [Vn hw];unfold mR.aPop at h1;obtain ⟨v,av,h3,h4,h5,h6,_⟩:=kS h2.lay (fun id o hid=>(h2.young id o hid).2) (am h2) h1;unfold Oper.still;rw [h6 w (Below.refl _ _),Oper.stillUpon_value];exact hK' _ (rq hQ rest _ _ hdr (by rw [jV,ht',hT]) (hA.put hdo) (bl h2 h4 h5 o.dst) h3)
  .rw [Vh (by simp [hw])];exact hK' _ (rq hQ rest _ _ hdr (by rw [jV,ht',hT]) (hA.put hdo) (bZ h2 o.dst) h1)
def tG (bJ:Nat) (B:Nat) (G:Nat -> Prop) (tab:ae) (L:Nat -> Value):Prop:=∀ id o g,bJ<=id -> tab.get id=some o -> aO (L id)=some g -> B<=g \/ G g
structure lN (B:Nat) (G:Nat -> Prop) (wr w:World):Prop where
 size:B<=w.heap.size
 block:∀ k,k<B -> ¬ G k -> w.heap[k]? = wr.heap[k]?
theorem lN.step {B:Nat} {G:Nat -> Prop} {wr w w':World} (h:lN B G wr w) (hs:w.heap.size<=w'.heap.size) (hb:∀ k,k<B -> ¬ G k -> w'.heap[k]? = w.heap[k]?):lN B G wr w':=
 ⟨Vz h.size hs,fun k hk hG=>(hb k hk hG).trans (h.block k hk hG)⟩
theorem tZ {bJ B:Nat} {G:Nat -> Prop} {L:Nat -> Value}:∀ (ids:List Nat) {st:aj},tG bJ B G st.tab L -> tG bJ B G (fL st ids).tab L
 | [],_,h=>h
 | id :: ids,st,h=>tZ ids (st:=ia st id) fun k o g h1 h2 h3=>by
  unfold ia at h2;split at h2
  .rw [ae.gc,dk] at h2;split at h2
   .cases h2
   .cases hg:st.tab.get k with
    | none=>simp [hg] at h2
    | some o'=>exact h k o' g h1 hg h3
  .exact h k o g h1 h2 h3
theorem sV:∀ (ids:List Nat) {st:aj} (k:Nat) (o:aE),(fL st ids).tab.get k=some o -> ∃ o',st.tab.get k=some o'
 | [],_,_,o,h=>⟨o,h⟩
 | id :: ids,st,k,o,h=>by
  obtain ⟨o1,h⟩:=sV ids (st:=ia st id) k o h;unfold ia at h;split at h
  .rw [ae.gc,dk] at h;split at h
   .cases h
   .cases hg:st.tab.get k with
    | none=>simp [hg] at h
    | some o'=>exact ⟨o',rfl⟩
  .exact ⟨o1,h⟩
theorem gY {o:Oper} {K:aj -> Prop} {Q:Exit -> Act -> World -> Prop} {B bJ:Nat} {ids:List Nat} {G:Nat -> Prop} {wr:World} (h:aJ cx a w st L) (hS:lN B G wr w) (hy:tG bJ B G st.tab L) (hG:∀ id ∈ ids,∀ g,aO (L id)=some g -> G g) (hnx:∀ id ∈ ids,id<st.next) (hp:gH P bJ ids o K st) :
  o.wp P a w (fun a' w'=>∃ st' L',K st' /\ aJ cx a' w' st' L' /\ a'.defers=a.defers /\ lN B G wr w' /\ tG bJ B G st'.tab L' /\ (∀ id,id<st.next -> L' id=L id) /\ st.next<=st'.next /\ ∀ id o,id<st.next -> st'.tab.get id=some o -> ∃ o',st.tab.get id=some o') Q:=by
 have hB:=hS.size;have etab:∀ (st:aj) d av,(st.put d av).tab=st.tab:=fun st d av=>by cases d<;>rfl
 have enext:∀ (st:aj) d av,(st.put d av).next=st.next:=fun st d av=>by cases d<;>rfl
 obtain ⟨dst,op,ty,pos,aft,gd⟩:=o;unfold gH at hp;simp only at hp;split at hp
 .rename_i x;have he:=am h x;refine aV (by simp [execOp]) ⟨_,L,hp,bl h he.1 he.2 dst,bE _ _ _,hS,by rw [etab];exact hy,fun _ _=>rfl,by rw [enext];exact Os _,fun id o _ hg=>⟨o,by rw [etab] at hg;exact hg⟩⟩
 .rename_i t x;obtain ⟨v,av,h1,h2,h3,h4,_⟩:=kS (o:=⟨dst,.load t x,ty,pos,aft,gd⟩) h.lay (fun id o hid=>(h.young id o hid).2) (am h) hp;exact aV (h4 w (Below.refl _ _)) ⟨_,L,h1,bl h h2 h3 dst,bE _ _ _,hS,by rw [etab];exact hy,fun _ _=>rfl,by rw [enext];exact Os _,fun id o _ hg=>⟨o,by rw [etab] at hg;exact hg⟩⟩
 .rename_i t m k ok;obtain ⟨r,av,h1,h2,h3,h4⟩:=pg (nx:=st.next) h.lay (am h m).1 (am h k).1 hp;exact aV (by simp [execOp,Sem.run_bind,h4]) ⟨_,L,h1,bl h h2 h3 dst,bE _ _ _,hS,by rw [etab];exact hy,fun _ _=>rfl,by rw [enext];exact Os _,fun id o _ hg=>⟨o,by rw [etab] at hg;exact hg⟩⟩
 .rename_i t m k v;split at hp
  .rename_i id hme;obtain ⟨hid,hp⟩:=hp;have hmv:=(am h m).1;rw [hme] at hmv;obtain ⟨w',st',h1,h2,h3,h4,id',ents,ents',hidd,h5,rfl,h6⟩:=qi h hmv (am h k).1 (am h v).1 dst hp;cases hidd
   have hmay:∀ k,k<B -> ¬ G k -> aO (L id)=some k -> False:=fun k hk hGk e=>by
    rcases hid with hid|hge
    .exact hGk (hG id hid k e)
    .rcases hy id _ k hge h5 e with h9 | h9
     .omega
     .exact hGk h9
   refine eZ (by simp [execOp,Sem.run_bind,h1]) ⟨_,L,h2,h3,bE _ _ _,hS.step (by omega) (fun k hk hGk=>h6 k fun e=>hmay k hk hGk e),?_,fun _ _=>rfl,by rw [enext];exact Os _,fun k o' _ hg=>by
    rw [etab,ae.gc] at hg;split at hg
    .rename_i e;exact ⟨_,by rw [e];exact h5⟩
    .exact ⟨o',hg⟩⟩
   rw [etab];intro k ob g h9 h10 h11;rw [ae.gc] at h10;split at h10
   .rename_i e;exact hy k (.map ents) g h9 (by rw [e];exact h5) h11
   .exact hy k ob g h9 h10 h11
  .exact hp.elim
 .rename_i t p x;split at hp
  .rename_i id i j hpe;obtain ⟨hid,hp⟩:=hp
   have hmay:∀ k,k<B -> ¬ G k -> aO (L id)=some k -> False:=fun k hk hGk e=>by
    rcases hid with hid|hge
    .exact hGk (hG id hid k e)
    .have hn:∃ o,st.tab.get id=some o:=by
      unfold nU at hp;split at hp<;>first|exact ⟨_,by assumption⟩|exact hp.elim
     obtain ⟨o,ho⟩:=hn;rcases hy id o k hge ho e with h9|h9
     .omega
     .exact hGk h9
   unfold nU at hp;split at hp
   .rename_i ty cells hget;obtain ⟨rfl,h0,h1,h2,h3,h4⟩:=hp;have hpv:=(am h p).1;rw [hpe] at hpv;have hx:=am h x;obtain ⟨w',h5,h6,h7,h8⟩:=kJ h hpv hget hx.1 hx.2 h0 h1 h2 h3 dst
    refine eZ (by simp [execOp,Sem.run_bind,h5]) ⟨_,L,h4,h6,bE _ _ _,hS.step (by omega) (fun k hk hGk=>h8 k fun e=>hmay k hk hGk e),?_,fun _ _=>rfl,by rw [enext];exact Os _,fun k o' _ hg=>by
     rw [etab,ae.gc] at hg;split at hg
     .rename_i e;exact ⟨_,by rw [e];exact hget⟩
     .exact ⟨o',hg⟩⟩
    rw [etab];intro k ob g h9 h10 h11;rw [ae.gc] at h10;split at h10
    .rename_i e;exact hy k (.box ty cells) g h9 (by rw [e];exact hget) h11
    .exact hy k ob g h9 h10 h11
   .rename_i e sz rows hget;obtain ⟨h0,h1,h2,h3,h3',h3'',h4⟩:=hp;have hpv:=(am h p).1;rw [hpe] at hpv;have hx:=am h x;obtain ⟨w',h5,h6,h7,h8⟩:=kN h hpv hget hx.1 hx.2 h0 h1 h2 h3 h3' h3'' dst
    refine eZ (by simp [execOp,Sem.run_bind,h5]) ⟨_,L,h4,h6,bE _ _ _,hS.step (by omega) (fun k hk hGk=>h8 k fun e=>hmay k hk hGk e),?_,fun _ _=>rfl,by rw [enext];exact Os _,fun k o' _ hg=>by
     rw [etab,ae.gc] at hg;split at hg
     .rename_i e';exact ⟨_,by rw [e'];exact hget⟩
     .exact ⟨o',hg⟩⟩
    rw [etab];intro k ob g h9 h10 h11;rw [ae.gc] at h10;split at h10
    .rename_i e';exact hy k (.row e sz rows) g h9 (by rw [e'];exact hget) h11
    .exact hy k ob g h9 h10 h11
   .rename_i e sz rows hget;obtain ⟨h0,h1,h2,h3,h3',h4⟩:=hp;have hpv:=(am h p).1;rw [hpe] at hpv;have hx:=am h x;obtain ⟨w',h5,h6,h7,h8⟩:=jI h hpv hget hx.1 hx.2 h0 h1 h2 h3 h3' dst
    refine eZ (by simp [execOp,Sem.run_bind,h5]) ⟨_,L,h4,h6,bE _ _ _,hS.step (by omega) (fun k hk hGk=>h8 k fun e=>hmay k hk hGk e),?_,fun _ _=>rfl,by rw [enext];exact Os _,fun k o' _ hg=>by
     rw [etab,ae.gc] at hg;split at hg
     .rename_i e';exact ⟨_,by rw [e'];exact hget⟩
     .exact ⟨o',hg⟩⟩
    rw [etab];intro k ob g h9 h10 h11;rw [ae.gc] at h10;split at h10
    .rename_i e';exact hy k (.nest e sz rows) g h9 (by rw [e'];exact hget) h11
    .exact hy k ob g h9 h10 h11
   .exact hp.elim
  .exact hp.elim
 .rename_i t;split at hp
  .rename_i z hz;obtain ⟨h1,h2⟩:=hp;obtain ⟨h3,h4⟩:=pU (P:=P) (t:=t) (av:=.c z) h (.tree (.c z)) trivial h1 dst;have hbw:Below w.heap.size w (w.alloc (.cells z.cells t)):=(Below.refl _ _).alloc (Os _) _;refine aV (by simp [execOp,Sem.run_bind,pB hz,h3]) ⟨_,_,h2,h4,bE _ _ _,hS.step hbw.size (fun k hk _=>hbw.block k (Vm hk hB)),?_,fun id hid=>?_,?_,fun k o' hk hg=>?_⟩
   .rw [etab];intro id ob g h5 h6 h7;rw [ae.gc] at h6;unfold bq at h7;split at h6
    .rename_i e;rw [Vn e] at h7;simp [aO] at h7;left;omega
    .rename_i e;rw [Vh e] at h7;exact hy id ob g h5 h6 h7
   .unfold bq;rw [Vh (by omega)]
   .rw [enext];exact VR _
   .rw [etab,ae.gc,Vh (by omega)] at hg;exact ⟨o',hg⟩
  .exact hp.elim
 .rename_i t x;obtain ⟨h1,h2⟩:=hp;have he:=am h x;obtain ⟨h3,h4⟩:=pU (P:=P) (t:=t) h he.1 he.2 h1 dst;have hbw:Below w.heap.size w (w.alloc (.cells (a.eval x).cells t)):=(Below.refl _ _).alloc (Os _) _;refine aV (by simp [execOp,Sem.run_bind,h3]) ⟨_,_,h2,h4,bE _ _ _,hS.step hbw.size (fun k hk _=>hbw.block k (Vm hk hB)),?_,fun id hid=>?_,?_,fun k o' hk hg=>?_⟩
  .rw [etab];intro id ob g h5 h6 h7;rw [ae.gc] at h6;unfold bq at h7;split at h6
   .rename_i e;rw [Vn e] at h7;simp [aO] at h7;left;omega
   .rename_i e;rw [Vh e] at h7;exact hy id ob g h5 h6 h7
  .unfold bq;rw [Vh (by omega)]
  .rw [enext];exact VR _
  .rw [etab,ae.gc,Vh (by omega)] at hg;exact ⟨o',hg⟩
 .rename_i t n parts;unfold ez at hp;have hy':tG bJ B G (fL st (gN (parts.toList.flatMap fun (p:Nat × Operand)=>ar (bj st p.2)))).tab L:=tZ _ hy
  replace h:=f9 (gN (parts.toList.flatMap fun (p:Nat × Operand)=>ar (bj st p.2))) h
  clear hy;have hy:=hy';have hnext:(fL st (gN (parts.toList.flatMap fun (p:Nat × Operand)=>ar (bj st p.2)))).next=st.next:=qf _ _;unfold gu at hp;split at hp
  .rename_i e sz by_ ht;split at hp
   .obtain ⟨⟨h1,rfl,h3,h5⟩,h6⟩:=hp;obtain ⟨v',w',L',h7,h8,hb,rfl,hv⟩:=jK h ht h1 h3 h5 dst;refine aV ?_ ⟨_,_,h6,h8,bE _ _ _,hS.step hb.size (fun k hk _=>hb.block k (Vm hk hB)),?_,fun id hid=>?_,?_,fun k o' hk hg=>?_⟩
    .simp only [W6] at h7;simp [execOp,Sem.run_bind];simp at h7;simp [h7]
    .rw [etab];intro id ob g h1 h2 h3;rw [ae.gc] at h2;unfold bq at h3;split at h2
     .rename_i e;rw [Vn e,hv] at h3;cases h3;exact .inl hB
     .rename_i e;rw [Vh e] at h3;exact hy id ob g h1 h2 h3
    .unfold bq;rw [Vh (by omega)]
    .rw [enext];show st.next<=(fL st _).next+1;omega
    .rw [etab] at hg;simp only [ae.gc] at hg;rw [Vh (by omega)] at hg;exact sV _ k o' hg
   .obtain ⟨⟨h1,rfl,h3,h5⟩,h6⟩:=hp;obtain ⟨v',w',L',h7,h8,hb,rfl,hv⟩:=pP h ht h1 h3 h5 dst;refine aV ?_ ⟨_,_,h6,h8,bE _ _ _,hS.step hb.size (fun k hk _=>hb.block k (Vm hk hB)),?_,fun id hid=>?_,?_,fun k o' hk hg=>?_⟩
    .simp only [W6] at h7;simp [execOp,Sem.run_bind];simp at h7;simp [h7]
    .rw [etab];intro id ob g h1 h2 h3;rw [ae.gc] at h2;unfold bq at h3;split at h2
     .rename_i e;rw [Vn e,hv] at h3;cases h3;exact .inl hB
     .rename_i e;rw [Vh e] at h3;exact hy id ob g h1 h2 h3
    .unfold bq;rw [Vh (by omega)]
    .rw [enext];show st.next<=(fL st _).next+1;omega
    .rw [etab] at hg;simp only [ae.gc] at hg;rw [Vh (by omega)] at hg;exact sV _ k o' hg
  .exact hp.elim
 .rename_i t l c;unfold qH at hp;split at hp
  .rename_i e sz by_ k1 n k2 m ht hl hc;split at hp
   .rename_i z hz;obtain ⟨⟨rfl,h1,h2,h3,h4⟩,h5⟩:=hp;have hl':=(am h l).1;have hc':=(am h c).1;rw [hl] at hl';rw [hc] at hc';obtain ⟨v',w',L',h6,h7,hb,rfl,hv⟩:=wm (k1:=k1) (k2:=k2) h ht hz h1 h2 h3 h4 dst;refine aV (by simp [execOp,Sem.run_bind,hl'.c_inv,hc'.c_inv,h6]) ⟨_,_,h5,h7,bE _ _ _,hS.step hb.size (fun k hk _=>hb.block k (Vm hk hB)),?_,fun id hid=>?_,?_,fun k o' hk hg=>?_⟩
    .rw [etab];intro id ob g h1 h2 h3;rw [ae.gc] at h2;unfold bq at h3;split at h2
     .rename_i e;rw [Vn e,hv] at h3;cases h3;exact .inl hB
     .rename_i e;rw [Vh e] at h3;exact hy id ob g h1 h2 h3
    .unfold bq;rw [Vh (by omega)]
    .rw [enext];exact VR _
    .rw [etab,ae.gc,Vh (by omega)] at hg;exact ⟨o',hg⟩
   .exact hp.elim
  .exact hp.elim
 .rename_i c;obtain ⟨callee,args,argTypes⟩:=c;simp only at hp;split at hp
  .split at hp
   .rename_i x y t t' h1 h2;obtain rfl:args = #[x,y]:=by cases args;simp_all
    obtain rfl:argTypes = #[t,t']:=by cases argTypes;simp_all
    obtain ⟨⟨rfl,hfr⟩,hp⟩:=hp;unfold jy at hp;split at hp
    .rename_i hnn;obtain ⟨e1,e2⟩:=nK hnn;have hx1:=(am h x).1;have hy1:=(am h y).1;rw [e1] at hx1;rw [e2] at hy1;have hx2:=hx1.c_inv;have hy2:=hy1.c_inv;have hr:=iT (ty:=ty) (w:=w) hp.1;exact aV (by simp [execOp,Sem.run_bind,resolve,invoke,builtin,hx2,hy2,hr]) ⟨_,L,hp.2,bl h (.tree (.c _)) trivial dst,bE _ _ _,hS,by rw [etab];exact hy,fun _ _=>rfl,by rw [enext];exact Os _,fun id o _ hg=>⟨o,by rw [etab] at hg;exact hg⟩⟩
    unfold kb at hp;split at hp
    .rename_i e sz by_ ht;split at hp
     .rename_i oid rows rows2 hx hy2;obtain ⟨⟨h3,h4⟩,h5⟩:=hp;obtain ⟨v',w',L',h6,h7,hg,rfl,hv,hown⟩:=qm (ty:=ty) h (am h x).1 (am h y).1 ht hx hy2 (by simpa [maxLen] using h3) h4 dst
      have hoid:∀ id,oid=some id -> fO bJ ids id /\ ∃ o,st.tab.get id=some o:=fun id hid=>by
       subst hid;unfold vZ at hx;split at hx
       .rename_i id' hid';rw [hid'] at hfr;split at hx
        .rename_i e' sz' rows' hget;split at hx
         .cases hx;exact ⟨hfr,_,hget⟩
         .cases hx
        .cases hx
       .cases hx
       .cases hx
      have hown2:∀ g,(a.eval x).ownBlock=some g -> B<=g \/ G g:=fun g hg'=>by
       obtain ⟨id,hid,hbl⟩:=hown g hg';obtain ⟨h8,o,h9⟩:=hoid id hid;rcases h8 with h8|h8
       .exact .inr (hG id h8 g hbl)
       .exact hy id o g h8 h9 hbl
      refine aV (by simp [execOp,Sem.run_bind,resolve,invoke,builtin,h6]) ⟨_,_,h5,h7,bE _ _ _,hS.step hg.size (fun k hk hnk=>hg.block k (Vm hk hB) fun e=>by rcases hown2 k e.symm with h9 | h9;omega;exact hnk h9),?_,fun id hid=>by unfold bq;rw [Vh (by omega)],by rw [enext];exact VR _,fun k o' hk hg=>by
       rw [etab] at hg;simp only [bI] at hg;rw [Vh (by omega)] at hg;split at hg
       .cases hg
       .exact ⟨o',hg⟩⟩
      rw [etab];intro id ob g h8 h9 h10;rw [bI] at h9;unfold bq at h10;split at h9
      .rename_i e1;rw [Vn e1] at h10;rcases hv with hv|hv
       .exact hown2 g (by rw [<- hv];exact h10)
       .rw [hv] at h10;cases h10;exact .inl hB
      .rename_i e1;rw [Vh e1] at h10;split at h9
       .cases h9
       .exact hy id ob g h8 h9 h10
     .split at hp
      .rename_i oid rows rows2 hx hy2;obtain ⟨⟨h3,h4⟩,h5⟩:=hp;obtain ⟨v',w',L',h6,h7,hg,rfl,hv,hown⟩:=mZ (ty:=ty) h (am h x).1 (am h y).1 ht hx hy2 (by simpa [maxLen] using h3) h4 dst
       have hoid:∀ id,oid=some id -> fO bJ ids id /\ ∃ o,st.tab.get id=some o:=fun id hid=>by
        subst hid;unfold lC at hx;split at hx
        .rename_i id' hid';rw [hid'] at hfr;split at hx
         .rename_i e' sz' rows' hget;split at hx
          .cases hx;exact ⟨hfr,_,hget⟩
          .cases hx
         .cases hx
        .cases hx
        .cases hx
       have hown2:∀ g,(a.eval x).ownBlock=some g -> B<=g \/ G g:=fun g hg'=>by
        obtain ⟨id,hid,hbl⟩:=hown g hg';obtain ⟨h8,o,h9⟩:=hoid id hid;rcases h8 with h8|h8
        .exact .inr (hG id h8 g hbl)
        .exact hy id o g h8 h9 hbl
       refine aV (by simp [execOp,Sem.run_bind,resolve,invoke,builtin,h6]) ⟨_,_,h5,h7,bE _ _ _,hS.step hg.size (fun k hk hnk=>hg.block k (Vm hk hB) fun e=>by rcases hown2 k e.symm with h9 | h9;omega;exact hnk h9),?_,fun id hid=>by unfold bq;rw [Vh (by omega)],by rw [enext];exact VR _,fun k o' hk hg=>by
        rw [etab] at hg;simp only [bI] at hg;rw [Vh (by omega)] at hg;split at hg
        .cases hg
        .exact ⟨o',hg⟩⟩
       rw [etab];intro id ob g h8 h9 h10;rw [bI] at h9;unfold bq at h10;split at h9
       .rename_i e1;rw [Vn e1] at h10;rcases hv with hv|hv
        .exact hown2 g (by rw [<- hv];exact h10)
        .rw [hv] at h10;cases h10;exact .inl hB
       .rename_i e1;rw [Vh e1] at h10;split at h9
        .cases h9
        .exact hy id ob g h8 h9 h10
      .exact hp.elim
    .exact hp.elim
   .exact hp.elim
  .rename_i f;obtain ⟨g,xs,cs,hg,hxn,hxr,hp,hcs⟩:=rl (am h f).1 (am h f).2 hp;have hargs:=rj h (args:=args) hxn hxr;by_cases hmeth:AR (some (bJ,ids)) P st g (args.toList.map (bj st) ++ cs) (uL dst K)
   .obtain ⟨hent,ids0,hmay,hc⟩:=wi h hargs.1 hargs.2 hmeth dst
    have hrun:(execOp a.eval { dst:=dst,op:=.call { callee:=.value f,args:=args,argTypes:=argTypes },type:=ty,pos:=pos,after:=aft,guard:=gd }).run P w=.ok (.enter g (args.map a.eval ++ xs)) w:=by
     have:=hent (args.map a.eval ++ xs) w;simp [execOp,Sem.run_bind,resolve,hg,Deferred.ofValue,invoke,this]
    unfold Oper.wp;rw [hrun];show Calls P g (args.map a.eval ++ xs) w _;refine hc.mono ?_;rintro e w' ⟨v,av,st',L',rfl,h1,h2,h3,h4,h5,h6,h7⟩
    have hblk:∀ id ∈ ids0,∀ o k,st.tab.get id=some o -> aO (L id)=some k -> B<=k \/ G k:=fun id hid o k h8 h9=>by
     rcases hmay _ rfl id hid with h10|h10
     .exact .inr (hG id h10 k h9)
     .exact hy id o k h10 h8 h9
    refine ⟨_,L',h1,h2,bE _ _ _,hS.step h3.size (fun k hk hGk=>h6 k (Vm hk hB) fun id hid o ho e=>?_),?_,h4,by rw [enext];exact h3.next,fun id o hid ho=>h5 id o hid (by rw [etab] at ho;exact ho)⟩
    .rcases hblk id hid o k ho e with h8 | h8
     .omega
     .exact hGk h8
    .rw [etab];intro id ob g' h8 h9 h10;rcases Vv id st.next with hlt|hge
     .obtain ⟨o',h11⟩:=h5 id ob hlt h9;rw [h4 id hlt] at h10;exact hy id o' g' h8 h11 h10
     .rcases h7 id ob g' hge h9 h10 with h11 | ⟨id',h11,⟨o',h12⟩,h13⟩
      .exact .inl (Vz hB h11)
      .exact hblk id' h11 o' g' h12 h13
   replace hp:pA P st g (args.toList.map (bj st) ++ cs) (uL dst K):=by
    rcases hp with hp|hp|hp
    .exact hp
    .cases hp.1
    .exact absurd hp hmeth
   have hent:fE P g:=by
    rcases hp with ⟨R,hd,_⟩|⟨hd,_⟩
    .exact hd.1
    .exact hd
   have hrun:(execOp a.eval { dst:=dst,op:=.call { callee:=.value f,args:=args,argTypes:=argTypes },type:=ty,pos:=pos,after:=aft,guard:=gd }).run P w=.ok (.enter g (args.map a.eval ++ xs)) w:=by
    have:=hent (args.map a.eval ++ xs) w;simp [execOp,Sem.run_bind,resolve,hg,Deferred.ofValue,invoke,this]
   unfold Oper.wp;rw [hrun];show Calls P g (args.map a.eval ++ xs) w _;have hargs:=rj h (args:=args) hxn hxr;refine (oj h hargs.1 hargs.2 hp dst).mono ?_
   .rintro e w' ⟨v,av,st',L',rfl,h1,h2,hb,hold,hnew,hnx'⟩;refine ⟨_,_,h1,h2,bE _ _ _,hS.step hb.size (fun k hk _=>hb.block k (Vm hk hB)),?_,fun id hid=>(hold id hid).2,by rw [enext];exact hnx',fun k o' hk hg=>⟨o',by rw [etab,(hold k hk).1] at hg;exact hg⟩⟩;rw [etab];intro id ob g h8 h9 h10;rcases Vv id st.next with hlt|hge
    .rw [(hold id hlt).1] at h9;rw [(hold id hlt).2] at h10;exact hy id ob g h8 h9 h10
    .exact .inl (Vz hB (hnew id ob g hge h9 h10))
  .exact hp.elim
 .exact hp.elim
def mq (Q:Exit -> Act -> World -> Prop):Exit -> Act -> World -> Prop
 | .panic _,_,_=>False
 | e,a,w=>Q e a w
structure jr (bJ B:Nat) (ids:List Nat) (G:Nat -> Prop) (T0:ae) (L0:Nat -> Value) (st:aj) (L:Nat -> Value):Prop where
 loc:∀ id,id<bJ -> L id=L0 id
 le:bJ<=st.next
 old:∀ id o,id<bJ -> st.tab.get id=some o -> ∃ o',T0.get id=some o'
 far:∀ id o g,id<bJ -> id ∉ ids -> T0.get id=some o -> aO (L id)=some g -> g<B /\ ¬ G g
theorem jr.same {bJ B:Nat} {ids:List Nat} {G:Nat -> Prop} {T0:ae} {L0:Nat -> Value} {st st':aj} {L:Nat -> Value} (h:jr bJ B ids G T0 L0 st L) (ht:st'.tab=st.tab) (hn:st'.next=st.next):jr bJ B ids G T0 L0 st' L:=
 ⟨h.loc,by rw [hn];exact h.le,by rw [ht];exact h.old,h.far⟩
theorem jr.step {bJ B:Nat} {ids:List Nat} {G:Nat -> Prop} {T0:ae} {L0:Nat -> Value} {st st':aj} {L L':Nat -> Value} (h:jr bJ B ids G T0 L0 st L) (h1:∀ id,id<st.next -> L' id=L id) (h2:st.next<=st'.next) (h3:∀ id o,id<st.next -> st'.tab.get id=some o -> ∃ o',st.tab.get id=some o'):jr bJ B ids G T0 L0 st' L':=
 ⟨fun id hi=>(h1 id (Vm hi h.le)).trans (h.loc id hi),Vz h.le h2,fun id o hi hg=>(h3 id o (Vm hi h.le) hg).elim fun o' hg'=>h.old id o' hi hg',fun id o g hi hn hT hg=>h.far id o g hi hn hT (by rw [<- h1 id (Vm hi h.le)];exact hg)⟩
theorem ce {ops:Array Oper} {K:aj -> Prop} {T0:ae} {bJ B:Nat} {ids:List Nat} {G:Nat -> Prop} {wr:World} {Q:Exit -> Act -> World -> Prop} (hsel:Region.noSelect ops=true) {T:Nat -> Prop} {a0:Act} {L0:Nat -> Value} (hT:∀ (i:Nat) (o:Oper),ops[i]? = some o -> ∀ t,T t -> o.dst ≠ some t) (hQ:∀ a w st L,K st -> aJ cx a w st L -> lN B G wr w -> tG bJ B G st.tab L -> jr bJ B ids G T0 L0 st L -> cw T a0 a -> Q .normal a w):∀ (s:nj) (listed:Array Bool) (a:Act) (w:World) (st:aj) (L:Nat -> Value),
  aJ cx a w st L -> lN B G wr w -> tG bJ B G st.tab L -> (∀ id ∈ ids,∀ g,aO (L id)=some g -> G g) -> (∀ id ∈ ids,id<st.next) -> jr bJ B ids G T0 L0 st L -> cw T a0 a -> dU ops s listed=true -> cX P ops bJ ids K s st -> ∀ fuel,s.len<=fuel -> wpAnyH P .any ops (mq Q) (fun w'=>lN B G wr w') fuel listed a w
 | .done,listed,a,w,st,L,h,hS,hy,_,_,hE,hA,hB,hp,fuel,_=>wpAnyH_done (Q:=mq Q) (by simpa [dU] using hB) (hQ a w st L hp h hS hy hE hA) fuel
 | .take i s,listed,a,w,st,L,h,hS,hy,hG,hnx,hE,hA,hB,hp,fuel,hf=>by
  simp only [dU,Vw] at hB;unfold cX sJ at hp;have etab:∀ (st:aj) d av,(st.put d av).tab=st.tab:=fun st d av=>by cases d<;>rfl
  have enext:∀ (st:aj) d av,(st.put d av).next=st.next:=fun st d av=>by cases d<;>rfl
  split at hp
  .rename_i o ho;obtain ⟨fuel',rfl⟩:∃ f,fuel=f+1:=⟨fuel - 1,by simp [nj.len] at hf;omega⟩;rcases cz h hp o rfl with ⟨hw,st',⟨hl,h0⟩,h2',ht',hn'⟩|⟨hw,st',h0,h2',ht',hn'⟩
   .by_cases hbld:∃ t parts,o.op=.build t parts
    .obtain ⟨t,parts,hop⟩:=hbld;rw [hop] at h0;obtain ⟨v,cs,h3,h4,h5,h6⟩:=lG h2' h0;refine wpAnyH_take (v:=v) ho hsel hB.1.1 hB.1.2 (fun _ _ _ h=>h) (.inl ⟨hw,fun w' _=>by simp [execOp,hop,Sem.run_bind,h5 w']⟩) hS ?_;exact ce hsel hT hQ s _ _ w _ L (bl h2' h3 h4 o.dst) hS (by rw [etab,ht'];exact hy) hG (fun id hid=>by rw [enext,hn'];exact hnx id hid) (hE.same (by rw [etab,ht']) (by rw [enext,hn'])) (hA.put (hT _ _ ho)) hB.2 h6 fuel' (by simp [nj.len] at hf;omega)
    replace h0:ci P st'.tab (bj st') o.op (aK st' o.dst (cX P ops bJ ids K s)):=by
     unfold dZ at h0;split at h0
     .rename_i t parts hop;exact absurd ⟨t,parts,hop⟩ hbld
     .exact h0
    obtain ⟨v,av,h1,h2,h3,_,h5,h6⟩:=kS h2'.lay (fun id o hid=>(h2'.young id o hid).2) (am h2') h0
    have hrd:∀ w',lN B G wr w' -> (execOp a.eval o).run P w'=.ok (.value v) w':=fun w' hw'=>by
     cases hld:i8 o.op with
     | false=>exact h5 hld w'
     | true=>
      obtain ⟨t,x,hop⟩:∃ t x,o.op=.load t x:=by
       cases hop:o.op<;>simp [hop,i8] at hld;exact ⟨_,_,rfl⟩
      obtain ⟨b,hb,hr⟩:=h6 t x hop;rw [hop] at hl;have hev:=(am h2' x).1;unfold py wB at hl;simp only at hl;split at hl
      .rename_i id i j he;obtain ⟨hl1,hl2,hl3⟩:=hl;split at hl3
       .rename_i o' hg;rw [he] at hev;obtain ⟨g,hg1,hg2⟩:=hev.op_inv _ _ (cQ hg);rw [hg2] at hb;simp [aO] at hb;subst hb;obtain ⟨o2,hT⟩:=hE.old id o' hl1 (by rw [<- ht'];exact hg);obtain ⟨h7,h8⟩:=hE.far id o2 g hl1 hl2 hT hg1;exact hr w' fun o' u hu=>(World.cell?_of_block ((hw'.block g h7 h8).trans (hS.block g h7 h8).symm)).trans hu
       .exact hl3.elim
      .exact hl.elim
    refine wpAnyH_take ho hsel hB.1.1 hB.1.2 (fun _ _ _ h=>h) (.inl ⟨hw,hrd⟩) hS ?_;exact ce hsel hT hQ s _ _ w _ L (bl h2' h2 h3 o.dst) hS (by rw [etab,ht'];exact hy) hG (fun id hid=>by rw [enext,hn'];exact hnx id hid) (hE.same (by rw [etab,ht']) (by rw [enext,hn'])) (hA.put (hT _ _ ho)) hB.2 h1 fuel' (by simp [nj.len] at hf;omega)
   .refine wpAnyH_take (v:=undef) ho hsel hB.1.1 hB.1.2 (fun _ _ _ h=>h) (.inr ⟨hw,rfl⟩) hS ?_;exact ce hsel hT hQ s _ _ w _ L (bZ h2' o.dst) hS (by rw [etab,ht'];exact hy) hG (fun id hid=>by rw [enext,hn'];exact hnx id hid) (hE.same (by rw [etab,ht']) (by rw [enext,hn'])) (hA.put (hT _ _ ho)) hB.2 h0 fuel' (by simp [nj.len] at hf;omega)
  .exact hp.elim
 | .exec i s,listed,a,w,st,L,h,hS,hy,hG,hnx,hE,hA,hB,hp,fuel,hf=>by
  simp only [dU,Vw,VG] at hB;unfold cX dp at hp;have etab:∀ (st:aj) d av,(st.put d av).tab=st.tab:=fun st d av=>by cases d<;>rfl
  have enext:∀ (st:aj) d av,(st.put d av).next=st.next:=fun st d av=>by cases d<;>rfl
  split at hp
  .rename_i o ho;obtain ⟨fuel',rfl⟩:∃ f,fuel=f+1:=⟨fuel - 1,by simp [nj.len] at hf;omega⟩;refine wpAnyH_all hB.1 (by simp) fun j hj=>?_;obtain rfl:j=i:=by simpa using hj
   unfold wpOp;rw [ho];rcases cz h hp o rfl with ⟨hw,st1,h0,h2',ht',hn'⟩|⟨hw,st1,h0,h2',ht',hn'⟩
   .simp only [hw,if_true];refine .inl (Oper.wp_mono (fun a' w' ⟨⟨st',L',h1,h2,h8,h3,h4,h5,h6,h7⟩,h9⟩=>⟨h3,?_⟩) (fl (hT _ _ ho) (gY h2' hS (by rw [ht'];exact hy) hG (fun id hid=>by rw [hn'];exact hnx id hid) h0)));rw [hn'] at h5 h6 h7;exact ce hsel hT hQ s _ a' w' st' L' h2 h3 h4 (fun id hid g hg'=>hG id hid g (by rw [<- h5 id (hnx id hid)];exact hg')) (fun id hid=>Vm (hnx id hid) h6) (hE.step h5 h6 (by rw [ht'] at h7;exact h7)) (hA.trans ⟨h8,h9⟩) hB.2 h1 fuel' (by simp [nj.len] at hf;omega)
   .simp only [hw,VL,if_false];refine ⟨hS,ce hsel hT hQ s _ _ w _ L (bZ h2' o.dst) hS (by rw [etab,ht'];exact hy) hG (fun id hid=>by rw [enext,hn'];exact hnx id hid) (hE.same (by rw [etab,ht']) (by rw [enext,hn'])) (hA.put (hT _ _ ho)) hB.2 h0 fuel' (by simp [nj.len] at hf;omega)⟩
  .exact hp.elim
 | .two i s k t,listed,a,w,st,L,h,hS,hy,hG,hnx,hE,hA,hB,hp,fuel,hf=>by
  simp only [dU,Vw,VG] at hB;unfold cX at hp;obtain ⟨hp,hp2⟩:=hp;unfold dp at hp hp2;have etab:∀ (st:aj) d av,(st.put d av).tab=st.tab:=fun st d av=>by cases d<;>rfl
  have enext:∀ (st:aj) d av,(st.put d av).next=st.next:=fun st d av=>by cases d<;>rfl
  have hf1:s.len+1<=fuel:=Vz (WN (XH s.len t.len)) hf;have hf2:t.len+1<=fuel:=Vz (WN (WF s.len t.len)) hf;obtain ⟨fuel',rfl⟩:∃ f,fuel=f+1:=⟨fuel - 1,by omega⟩;refine wpAnyH_all hB.1.1 (by simp) fun j hj=>?_;have hj:j=i \/ j=k:=by simpa using hj
  rcases hj with rfl|rfl
  .split at hp
   .rename_i o ho;unfold wpOp;rw [ho];rcases cz h hp o rfl with ⟨hw,st1,h0,h2',ht',hn'⟩|⟨hw,st1,h0,h2',ht',hn'⟩
    .simp only [hw,if_true];refine .inl (Oper.wp_mono (fun a' w' ⟨⟨st',L',h1,h2,h8,h3,h4,h5,h6,h7⟩,h9⟩=>⟨h3,?_⟩) (fl (hT _ _ ho) (gY h2' hS (by rw [ht'];exact hy) hG (fun id hid=>by rw [hn'];exact hnx id hid) h0)));rw [hn'] at h5 h6 h7;exact ce hsel hT hQ s _ a' w' st' L' h2 h3 h4 (fun id hid g hg'=>hG id hid g (by rw [<- h5 id (hnx id hid)];exact hg')) (fun id hid=>Vm (hnx id hid) h6) (hE.step h5 h6 (by rw [ht'] at h7;exact h7)) (hA.trans ⟨h8,h9⟩) hB.1.2 h1 fuel' (by omega)
    .simp only [hw,VL,if_false];refine ⟨hS,ce hsel hT hQ s _ _ w _ L (bZ h2' o.dst) hS (by rw [etab,ht'];exact hy) hG (fun id hid=>by rw [enext,hn'];exact hnx id hid) (hE.same (by rw [etab,ht']) (by rw [enext,hn'])) (hA.put (hT _ _ ho)) hB.1.2 h0 fuel' (by omega)⟩
   .exact hp.elim
  .split at hp2
   .rename_i o ho;unfold wpOp;rw [ho];rcases cz h hp2 o rfl with ⟨hw,st1,h0,h2',ht',hn'⟩|⟨hw,st1,h0,h2',ht',hn'⟩
    .simp only [hw,if_true];refine .inl (Oper.wp_mono (fun a' w' ⟨⟨st',L',h1,h2,h8,h3,h4,h5,h6,h7⟩,h9⟩=>⟨h3,?_⟩) (fl (hT _ _ ho) (gY h2' hS (by rw [ht'];exact hy) hG (fun id hid=>by rw [hn'];exact hnx id hid) h0)));rw [hn'] at h5 h6 h7;exact ce hsel hT hQ t _ a' w' st' L' h2 h3 h4 (fun id hid g hg'=>hG id hid g (by rw [<- h5 id (hnx id hid)];exact hg')) (fun id hid=>Vm (hnx id hid) h6) (hE.step h5 h6 (by rw [ht'] at h7;exact h7)) (hA.trans ⟨h8,h9⟩) hB.2 h1 fuel' (by omega)
    .simp only [hw,VL,if_false];refine ⟨hS,ce hsel hT hQ t _ _ w _ L (bZ h2' o.dst) hS (by rw [etab,ht'];exact hy) hG (fun id hid=>by rw [enext,hn'];exact hnx id hid) (hE.same (by rw [etab,ht']) (by rw [enext,hn'])) (hA.put (hT _ _ ho)) hB.2 h0 fuel' (by omega)⟩
   .exact hp2.elim
 | .three i s k t m u,listed,a,w,st,L,h,hS,hy,hG,hnx,hE,hA,hB,hp,fuel,hf=>by
  simp only [dU,Vw,VG] at hB;unfold cX at hp;obtain ⟨hp,hp2,hp3⟩:=hp;unfold dp at hp hp2 hp3;have etab:∀ (st:aj) d av,(st.put d av).tab=st.tab:=fun st d av=>by cases d<;>rfl
  have enext:∀ (st:aj) d av,(st.put d av).next=st.next:=fun st d av=>by cases d<;>rfl
  have hf1:s.len+1<=fuel:=Vz (WN (XH s.len _)) hf;have hf2:t.len+1<=fuel:=Vz (WN (Vz (XH t.len u.len) (WF s.len _))) hf;have hf3:u.len+1<=fuel:=Vz (WN (Vz (WF t.len u.len) (WF s.len _))) hf;obtain ⟨fuel',rfl⟩:∃ f,fuel=f+1:=⟨fuel - 1,by omega⟩;refine wpAnyH_all hB.1.1.1 (by simp) fun j hj=>?_;have hj:j=i \/ j=k \/ j=m:=by simpa using hj
  rcases hj with rfl|rfl|rfl
  .split at hp
   .rename_i o ho;unfold wpOp;rw [ho];rcases cz h hp o rfl with ⟨hw,st1,h0,h2',ht',hn'⟩|⟨hw,st1,h0,h2',ht',hn'⟩
    .simp only [hw,if_true];refine .inl (Oper.wp_mono (fun a' w' ⟨⟨st',L',h1,h2,h8,h3,h4,h5,h6,h7⟩,h9⟩=>⟨h3,?_⟩) (fl (hT _ _ ho) (gY h2' hS (by rw [ht'];exact hy) hG (fun id hid=>by rw [hn'];exact hnx id hid) h0)));rw [hn'] at h5 h6 h7;exact ce hsel hT hQ s _ a' w' st' L' h2 h3 h4 (fun id hid g hg'=>hG id hid g (by rw [<- h5 id (hnx id hid)];exact hg')) (fun id hid=>Vm (hnx id hid) h6) (hE.step h5 h6 (by rw [ht'] at h7;exact h7)) (hA.trans ⟨h8,h9⟩) hB.1.1.2 h1 fuel' (by omega)
    .simp only [hw,VL,if_false];refine ⟨hS,ce hsel hT hQ s _ _ w _ L (bZ h2' o.dst) hS (by rw [etab,ht'];exact hy) hG (fun id hid=>by rw [enext,hn'];exact hnx id hid) (hE.same (by rw [etab,ht']) (by rw [enext,hn'])) (hA.put (hT _ _ ho)) hB.1.1.2 h0 fuel' (by omega)⟩
   .exact hp.elim
  .split at hp2
   .rename_i o ho;unfold wpOp;rw [ho];rcases cz h hp2 o rfl with ⟨hw,st1,h0,h2',ht',hn'⟩|⟨hw,st1,h0,h2',ht',hn'⟩
    .simp only [hw,if_true];refine .inl (Oper.wp_mono (fun a' w' ⟨⟨st',L',h1,h2,h8,h3,h4,h5,h6,h7⟩,h9⟩=>⟨h3,?_⟩) (fl (hT _ _ ho) (gY h2' hS (by rw [ht'];exact hy) hG (fun id hid=>by rw [hn'];exact hnx id hid) h0)));rw [hn'] at h5 h6 h7;exact ce hsel hT hQ t _ a' w' st' L' h2 h3 h4 (fun id hid g hg'=>hG id hid g (by rw [<- h5 id (hnx id hid)];exact hg')) (fun id hid=>Vm (hnx id hid) h6) (hE.step h5 h6 (by rw [ht'] at h7;exact h7)) (hA.trans ⟨h8,h9⟩) hB.1.2 h1 fuel' (by omega)
    .simp only [hw,VL,if_false];refine ⟨hS,ce hsel hT hQ t _ _ w _ L (bZ h2' o.dst) hS (by rw [etab,ht'];exact hy) hG (fun id hid=>by rw [enext,hn'];exact hnx id hid) (hE.same (by rw [etab,ht']) (by rw [enext,hn'])) (hA.put (hT _ _ ho)) hB.1.2 h0 fuel' (by omega)⟩
   .exact hp2.elim
  .split at hp3
   .rename_i o ho;unfold wpOp;rw [ho];rcases cz h hp3 o rfl with ⟨hw,st1,h0,h2',ht',hn'⟩|⟨hw,st1,h0,h2',ht',hn'⟩
    .simp only [hw,if_true];refine .inl (Oper.wp_mono (fun a' w' ⟨⟨st',L',h1,h2,h8,h3,h4,h5,h6,h7⟩,h9⟩=>⟨h3,?_⟩) (fl (hT _ _ ho) (gY h2' hS (by rw [ht'];exact hy) hG (fun id hid=>by rw [hn'];exact hnx id hid) h0)));rw [hn'] at h5 h6 h7;exact ce hsel hT hQ u _ a' w' st' L' h2 h3 h4 (fun id hid g hg'=>hG id hid g (by rw [<- h5 id (hnx id hid)];exact hg')) (fun id hid=>Vm (hnx id hid) h6) (hE.step h5 h6 (by rw [ht'] at h7;exact h7)) (hA.trans ⟨h8,h9⟩) hB.2 h1 fuel' (by omega)
    .simp only [hw,VL,if_false];refine ⟨hS,ce hsel hT hQ u _ _ w _ L (bZ h2' o.dst) hS (by rw [etab,ht'];exact hy) hG (fun id hid=>by rw [enext,hn'];exact hnx id hid) (hE.same (by rw [etab,ht']) (by rw [enext,hn'])) (hA.put (hT _ _ ho)) hB.2 h0 fuel' (by omega)⟩
   .exact hp3.elim
 | .four i s k t m u n v,listed,a,w,st,L,h,hS,hy,hG,hnx,hE,hA,hB,hp,fuel,hf=>by
  simp only [dU,Vw,VG] at hB;unfold cX at hp;obtain ⟨hp,hp2,hp3,hp4⟩:=hp;unfold dp at hp hp2 hp3 hp4;have etab:∀ (st:aj) d av,(st.put d av).tab=st.tab:=fun st d av=>by cases d<;>rfl
  have enext:∀ (st:aj) d av,(st.put d av).next=st.next:=fun st d av=>by cases d<;>rfl
  have hf1:s.len+1<=fuel:=Vz (WN (XH s.len _)) hf;have hf2:t.len+1<=fuel:=Vz (WN (Vz (XH t.len _) (WF s.len _))) hf;have hf3:u.len+1<=fuel:=Vz (WN (Vz (Vz (XH u.len v.len) (WF t.len _)) (WF s.len _))) hf;have hf4:v.len+1<=fuel:=Vz (WN (Vz (Vz (WF u.len v.len) (WF t.len _)) (WF s.len _))) hf;obtain ⟨fuel',rfl⟩:∃ f,fuel=f+1:=⟨fuel - 1,by omega⟩;refine wpAnyH_all hB.1.1.1.1 (by simp) fun j hj=>?_;have hj:j=i \/ j=k \/ j=m \/ j=n:=by simpa using hj
  rcases hj with rfl|rfl|rfl|rfl
  .split at hp
   .rename_i o ho;unfold wpOp;rw [ho];rcases cz h hp o rfl with ⟨hw,st1,h0,h2',ht',hn'⟩|⟨hw,st1,h0,h2',ht',hn'⟩
    .simp only [hw,if_true];refine .inl (Oper.wp_mono (fun a' w' ⟨⟨st',L',h1,h2,h8,h3,h4,h5,h6,h7⟩,h9⟩=>⟨h3,?_⟩) (fl (hT _ _ ho) (gY h2' hS (by rw [ht'];exact hy) hG (fun id hid=>by rw [hn'];exact hnx id hid) h0)));rw [hn'] at h5 h6 h7;exact ce hsel hT hQ s _ a' w' st' L' h2 h3 h4 (fun id hid g hg'=>hG id hid g (by rw [<- h5 id (hnx id hid)];exact hg')) (fun id hid=>Vm (hnx id hid) h6) (hE.step h5 h6 (by rw [ht'] at h7;exact h7)) (hA.trans ⟨h8,h9⟩) hB.1.1.1.2 h1 fuel' (by omega)
    .simp only [hw,VL,if_false];refine ⟨hS,ce hsel hT hQ s _ _ w _ L (bZ h2' o.dst) hS (by rw [etab,ht'];exact hy) hG (fun id hid=>by rw [enext,hn'];exact hnx id hid) (hE.same (by rw [etab,ht']) (by rw [enext,hn'])) (hA.put (hT _ _ ho)) hB.1.1.1.2 h0 fuel' (by omega)⟩
   .exact hp.elim
  .split at hp2
   .rename_i o ho;unfold wpOp;rw [ho];rcases cz h hp2 o rfl with ⟨hw,st1,h0,h2',ht',hn'⟩|⟨hw,st1,h0,h2',ht',hn'⟩
    .simp only [hw,if_true];refine .inl (Oper.wp_mono (fun a' w' ⟨⟨st',L',h1,h2,h8,h3,h4,h5,h6,h7⟩,h9⟩=>⟨h3,?_⟩) (fl (hT _ _ ho) (gY h2' hS (by rw [ht'];exact hy) hG (fun id hid=>by rw [hn'];exact hnx id hid) h0)));rw [hn'] at h5 h6 h7;exact ce hsel hT hQ t _ a' w' st' L' h2 h3 h4 (fun id hid g hg'=>hG id hid g (by rw [<- h5 id (hnx id hid)];exact hg')) (fun id hid=>Vm (hnx id hid) h6) (hE.step h5 h6 (by rw [ht'] at h7;exact h7)) (hA.trans ⟨h8,h9⟩) hB.1.1.2 h1 fuel' (by omega)
    .simp only [hw,VL,if_false];refine ⟨hS,ce hsel hT hQ t _ _ w _ L (bZ h2' o.dst) hS (by rw [etab,ht'];exact hy) hG (fun id hid=>by rw [enext,hn'];exact hnx id hid) (hE.same (by rw [etab,ht']) (by rw [enext,hn'])) (hA.put (hT _ _ ho)) hB.1.1.2 h0 fuel' (by omega)⟩
   .exact hp2.elim
  .split at hp3
   .rename_i o ho;unfold wpOp;rw [ho];rcases cz h hp3 o rfl with ⟨hw,st1,h0,h2',ht',hn'⟩|⟨hw,st1,h0,h2',ht',hn'⟩
    .simp only [hw,if_true];refine .inl (Oper.wp_mono (fun a' w' ⟨⟨st',L',h1,h2,h8,h3,h4,h5,h6,h7⟩,h9⟩=>⟨h3,?_⟩) (fl (hT _ _ ho) (gY h2' hS (by rw [ht'];exact hy) hG (fun id hid=>by rw [hn'];exact hnx id hid) h0)));rw [hn'] at h5 h6 h7;exact ce hsel hT hQ u _ a' w' st' L' h2 h3 h4 (fun id hid g hg'=>hG id hid g (by rw [<- h5 id (hnx id hid)];exact hg')) (fun id hid=>Vm (hnx id hid) h6) (hE.step h5 h6 (by rw [ht'] at h7;exact h7)) (hA.trans ⟨h8,h9⟩) hB.1.2 h1 fuel' (by omega)
    .simp only [hw,VL,if_false];refine ⟨hS,ce hsel hT hQ u _ _ w _ L (bZ h2' o.dst) hS (by rw [etab,ht'];exact hy) hG (fun id hid=>by rw [enext,hn'];exact hnx id hid) (hE.same (by rw [etab,ht']) (by rw [enext,hn'])) (hA.put (hT _ _ ho)) hB.1.2 h0 fuel' (by omega)⟩
   .exact hp3.elim
  .split at hp4
   .rename_i o ho;unfold wpOp;rw [ho];rcases cz h hp4 o rfl with ⟨hw,st1,h0,h2',ht',hn'⟩|⟨hw,st1,h0,h2',ht',hn'⟩
    .simp only [hw,if_true];refine .inl (Oper.wp_mono (fun a' w' ⟨⟨st',L',h1,h2,h8,h3,h4,h5,h6,h7⟩,h9⟩=>⟨h3,?_⟩) (fl (hT _ _ ho) (gY h2' hS (by rw [ht'];exact hy) hG (fun id hid=>by rw [hn'];exact hnx id hid) h0)));rw [hn'] at h5 h6 h7;exact ce hsel hT hQ v _ a' w' st' L' h2 h3 h4 (fun id hid g hg'=>hG id hid g (by rw [<- h5 id (hnx id hid)];exact hg')) (fun id hid=>Vm (hnx id hid) h6) (hE.step h5 h6 (by rw [ht'] at h7;exact h7)) (hA.trans ⟨h8,h9⟩) hB.2 h1 fuel' (by omega)
    .simp only [hw,VL,if_false];refine ⟨hS,ce hsel hT hQ v _ _ w _ L (bZ h2' o.dst) hS (by rw [etab,ht'];exact hy) hG (fun id hid=>by rw [enext,hn'];exact hnx id hid) (hE.same (by rw [etab,ht']) (by rw [enext,hn'])) (hA.put (hT _ _ ho)) hB.2 h0 fuel' (by omega)⟩
   .exact hp4.elim
theorem lP {ops:Array Oper} {K:aj -> Prop} {T:ae} {Tz:Nat -> Prop} {a0:Act} {nx:Nat} {ids:List Nat} {S:World -> Prop} {Q:Exit -> Act -> World -> Prop} (hsel:Region.noSelect ops=true) (hTz:∀ (i:Nat) (o:Oper),ops[i]? = some o -> ∀ t,Tz t -> o.dst ≠ some t) (s:nj) (hS:S w)
  (hSw:∀ w' b,S w' -> (Sx cx w T L b \/ ∃ id o,id ∉ ids /\ T.get id=some o /\ aO (L id)=some b) -> uE b w w')
  (hQ:∀ listed a st,cw Tz a0 a -> st.tab=T -> st.next=nx -> dU ops s listed=true -> K st -> aJ cx a w st L -> ∀ fuel,s.len<=fuel -> wpAnyH P .any ops (mq Q) S fuel listed a w):∀ (hd:List Nat) (listed:Array Bool) (a:Act) (st:aj),
  cw Tz a0 a -> aJ cx a w st L -> st.tab=T -> st.next=nx -> tP ops hd s listed=true -> kU P ops ids K hd st -> ∀ fuel,hd.length+s.len<=fuel -> wpAnyH P .any ops (mq Q) S fuel listed a w
 | [],listed,a,st,hA,h,hT,hN,hB,hp,fuel,hf=>hQ listed a st hA hT hN hB hp h fuel (by simpa using hf)
 | i :: hd,listed,a,st,hA,h,hT,hN,hB,hp,fuel,hf=>by
  simp only [tP,Vw] at hB;unfold kU xR at hp;have etab:∀ (st:aj) d av,(st.put d av).tab=st.tab:=fun st d av=>by cases d<;>rfl
  have enext:∀ (st:aj) d av,(st.put d av).next=st.next:=fun st d av=>by cases d<;>rfl
  split at hp
  .rename_i o ho;obtain ⟨fuel',rfl⟩:∃ f,fuel=f+1:=⟨fuel - 1,by simp at hf;omega⟩;rcases cz h hp o rfl with ⟨hw,st',⟨hl,h0⟩,h2',ht',hn'⟩|⟨hw,st',h0,h2',ht',hn'⟩
   .by_cases hbld:∃ t parts,o.op=.build t parts
    .obtain ⟨t,parts,hop⟩:=hbld;rw [hop] at h0;obtain ⟨v,cs,h3,h4,h5,h6⟩:=lG h2' h0;refine wpAnyH_take (v:=v) ho hsel hB.1.1 hB.1.2 (fun _ _ _ h=>h) (.inl ⟨hw,fun w' _=>by simp [execOp,hop,Sem.run_bind,h5 w']⟩) hS ?_;exact lP hsel hTz s hS hSw hQ hd _ _ _ (hA.put (hTz _ _ ho)) (bl h2' h3 h4 o.dst) (by rw [etab,ht',hT]) (by rw [enext,hn',hN]) hB.2 h6 fuel' (by simp at hf;omega)
    replace h0:ci P st'.tab (bj st') o.op (aK st' o.dst (kU P ops ids K hd)):=by
     unfold dZ at h0;split at h0
     .rename_i t parts hop;exact absurd ⟨t,parts,hop⟩ hbld
     .exact h0
    obtain ⟨v,av,h1,h2,h3,_,h5,h6⟩:=kS h2'.lay (fun id o hid=>(h2'.young id o hid).2) (am h2') h0
    have hy:∀ w',S w' -> (execOp a.eval o).run P w'=.ok (.value v) w':=fun w' hw'=>by
     cases hld:i8 o.op with
     | false=>exact h5 hld w'
     | true=>
      obtain ⟨t,x,hop⟩:∃ t x,o.op=.load t x:=by
       cases hop:o.op<;>simp [hop,i8] at hld;exact ⟨_,_,rfl⟩
      obtain ⟨b,hb,hr⟩:=h6 t x hop;refine hr w' (hSw w' b hw' ?_);rw [hop] at hl;have hev:=(am h2' x).1;unfold tu zR at hl;simp only at hl;split at hl
      .rename_i id i j he;rw [he] at hev;rw [hop] at h0;simp only [ci,j9,he] at h0
       cases hg:st'.tab.get id with
       | none=>rw [hg] at h0;exact h0.elim
       | some ob=>
        obtain ⟨g,hg1,hg2⟩:=hev.op_inv _ _ (cQ hg);rw [hg2] at hb;simp [aO] at hb;subst hb;exact .inr ⟨id,ob,hl,by rw [<- hT,<- ht'];exact hg,hg1⟩
      .rename_i cs he;rw [he] at hev;obtain ⟨b',o',U,hg2,hb',_⟩:=hev.rp_inv;rw [hg2] at hb;simp [aO] at hb;subst hb;refine .inl ?_;rw [<- hT,<- ht'];exact hb'
      .exact hl.elim
    refine wpAnyH_take ho hsel hB.1.1 hB.1.2 (fun _ _ _ h=>h) (.inl ⟨hw,hy⟩) hS ?_;exact lP hsel hTz s hS hSw hQ hd _ _ _ (hA.put (hTz _ _ ho)) (bl h2' h2 h3 o.dst) (by rw [etab,ht',hT]) (by rw [enext,hn',hN]) hB.2 h1 fuel' (by simp at hf;omega)
   .refine wpAnyH_take (v:=undef) ho hsel hB.1.1 hB.1.2 (fun _ _ _ h=>h) (.inr ⟨hw,rfl⟩) hS ?_;exact lP hsel hTz s hS hSw hQ hd _ _ _ (hA.put (hTz _ _ ho)) (bZ h2' o.dst) (by rw [etab,ht',hT]) (by rw [enext,hn',hN]) hB.2 h0 fuel' (by simp at hf;omega)
  .exact hp.elim
theorem pd {p:Nat -> Prop} (h:∃ n,p n):∃ n,p n /\ ∀ m,p m -> n<=m:=by
 obtain ⟨n,hn⟩:=h
 induction n using Nat.strongRecOn with
 | _ n ih=>
  by_cases hx:∃ m,m<n /\ p m
  .obtain ⟨m,hm,hp⟩:=hx;exact ih m hm hp
  .exact ⟨n,hn,fun m hm=>Nat.le_of_not_lt fun hlt=>hx ⟨m,hlt,hm⟩⟩
open Classical in
noncomputable def lm (p:Nat -> Prop):Nat:=if h:∃ n,p n then (pd h).choose else 0
theorem gK {p:Nat -> Prop} (h:∃ n,p n):p (lm p) /\ ∀ m,p m -> lm p<=m:=by
 unfold lm;rw [dif_pos h];exact (pd h).choose_spec
abbrev px (cx:Cx) (Q:Exit -> aj -> Prop):Exit -> Act -> World -> Prop:=fun e a w=>∃ st L,Q e st /\ aJ cx a w st L
theorem oc (hm:P.follows .mixedOrders=true):∀ (c:Code) (Q:Exit -> aj -> Prop) (a:Act) (w:World) (st:aj) (L:Nat -> Value),aJ cx a w st L -> bB P c Q st -> c.wp P (px cx Q) a w:=by
 intro c
 induction c with
 | skip=>exact fun Q a w st L h hp=>wp_skip ⟨st,L,hp,h⟩
 | region id ops draw=>
  intro Q a w st L h hp;unfold bB Et at hp
  cases draw with
  | false=>exact wp_region_list (xd (fun a w st L h1 h2=>⟨st,L,h1,h2⟩) _ _ _ _ _ h (by simpa using hp))
  | true=>
   simp only [if_true] at hp;obtain ⟨l⟩:=ops;rcases hp with ⟨hB,hp⟩|⟨n,hB,hp⟩|⟨ids,hd,s,hB,K',hK',hids,hp⟩
   .exact wp_region_quiet (C:=fun w'=>Below w.heap.size w w') hm hB ((Below.refl _ _).drew) (mN (L:=L) (T:=fun _=>False) (a0:=a) (tab0:=st.tab) (fun a' st' h1 h2 _ _ w' hw'=>⟨st',L,h1,fT h2 hw'⟩) _ _ _ (fun _ _ _ h=>h.elim) rfl (.refl a) h hp)
   .have h':aJ cx a w.drew st L:=fT h ((Below.refl _ _).drew);exact wp_region_still_tail n hm hB (rq (T:=fun _=>False) (a0:=a) (tab0:=st.tab) (fun a' st' h1 h2 _ _=>xd (fun a w st L h1 h2=>⟨st,L,h1,h2⟩) _ _ _ _ _ h2 h1) _ _ _ (fun _ _ _ h=>h.elim) rfl (.refl a) h' hp)
   .simp only [Vw] at hB;have hB:=And.intro hB.1 (WW hB.2);have h':aJ cx a w.drew st L:=fT h ((Below.refl _ _).drew)
    let G:Nat -> Prop:=fun k=>∃ id ∈ ids,aO (L id)=some k
    refine Code.wp_mono (Q:=mq (px cx Q)) (fun e a w hq=>?_) (wp_region_held (S:=fun w'=>lN w.drew.heap.size G w.drew w') hm ?_)
    .cases e<;>first|exact hq|exact hq.elim
    .refine lP (T:=st.tab) (Tz:=fun _=>False) (a0:=a) (nx:=st.next) (ids:=ids) hB.1.1 (fun _ _ _ _ h=>h.elim) s ⟨Os _,fun _ _ _=>rfl⟩ (fun w' b hw' hb o u hu=>?_) (fun listed a' st' _ hT hN hB' hK h2 fuel hf=>?_) hd _ _ _ (.refl a) h' rfl rfl hB.1.2 hp _ hB.2
     .have hlt:=World.block_lt_of_cell? w.drew _ hu;refine (World.cell?_of_block (hw'.block b hlt fun ⟨id,hid,hbl⟩=>?_)).trans hu;obtain ⟨ob,hob⟩:=V3.1 (hids id hid);rcases hb with hb|⟨id',o',hni,hget,hbl'⟩
      .exact hb.2.2 id ob hob hbl
      .exact hni (h.lay.sep id' id o' ob b hget hob hbl' hbl ▸ hid)
     .refine ce (Q:=px cx Q) (T0:=st.tab) (T:=fun _=>False) (a0:=a') (L0:=L) hB.1.1 (fun _ _ _ _ h=>h.elim) (fun a w st L h1 h2 _ _ _ _=>(hK' st h1).elim fun st' h3=>(h3.1 cx a w L h2).elim fun L' h4=>⟨st',L',h3.2,h4.1⟩) s listed a' w.drew st' L h2 ⟨Os _,fun _ _ _=>rfl⟩ (fun id o g h3 h4 _=>by
       rw [hT] at h4;have:=(h.young id o h4).1;omega) (fun id hid g hg=>⟨id,hid,hg⟩) (fun id hid=>by
       obtain ⟨ob,hob⟩:=V3.1 (hids id hid);rw [hN];exact (h.young id ob hob).1) ⟨fun _ _=>rfl,by rw [hN];exact Os _,fun id o _ hg=>⟨o,by rw [<- hT];exact hg⟩,fun id o g _ hni hg hbl=>?_⟩ (.refl a') hB' hK fuel hf
      refine ⟨((h'.lay.objs id _ hg).ge hbl).2,fun ⟨id',hid',hbl'⟩=>hni ?_⟩;obtain ⟨ob,hob⟩:=V3.1 (hids id' hid');exact h.lay.sep id id' _ ob g hg hob hbl hbl' ▸ hid'
 | seq x y ihx ihy=>
  intro Q a w st L h hp;unfold bB at hp;refine wp_seq (Code.wp_mono (fun e a' w' ⟨st',L',h1,h2⟩=>?_) (ihx _ a w st L h hp))
  cases e with
  | normal=>exact ihy Q a' w' st' L' h2 h1
  | _=>exact ⟨st',L',h1,h2⟩
 | cond c x y ihx ihy=>
  intro Q a w st L h hp;unfold bB n8 at hp;split at hp
  .rename_i b hb;have hv:=(am h c).1;rw [hb] at hv;have hv:=hv.c_inv;cases b
   .exact wp_cond_false hv (ihy Q a w st L h hp)
   .exact wp_cond_true hv (ihx Q a w st L h hp)
  .exact hp.elim
 | block id x ih=>
  intro Q a w st L h hp;unfold bB at hp;refine wp_block (Code.wp_mono (fun e a' w' ⟨st',L',h1,h2⟩=>?_) (ih _ a w st L h hp))
  cases e with
  | exit id'=>
   simp only [ip,Exit.inBlock] at h1 ⊢;split
   .rename_i e;rw [Vn e] at h1;exact ⟨st',L',h1,h2⟩
   .rename_i e;rw [Vh e] at h1;exact ⟨st',L',h1,h2⟩
  | _=>exact ⟨st',L',h1,h2⟩
 | loop x ih=>
  intro Q a w st L h hp;unfold bB at hp;obtain ⟨I,μ,⟨st0,hw0,hI⟩,hr⟩:=hp
  let p:Act -> World -> Nat -> Prop:=fun a w n=>∃ st L,I st /\ aJ cx a w st L /\ μ st=n
  obtain ⟨L0,hL0,_⟩:=hw0 _ _ _ _ h;refine wp_loop (fun a w=>∃ n,p a w n) (fun a w=>lm (p a w)) ⟨_,st0,L0,hI,hL0,rfl⟩ fun a w hpa=>?_;obtain ⟨⟨st,L,h1,h2,h3⟩,_⟩:=gK hpa;refine Code.wp_mono (fun e a' w' ⟨st',L',h4,h5⟩=>?_) (ih _ a w st L h2 (hr st h1))
  cases e with
  | normal=>
   obtain ⟨st'',hw,hI'',hlt⟩:=h4;obtain ⟨L1,hL1,_⟩:=hw _ _ _ _ h5;have hpn:p a' w' (μ st''):=⟨st'',L1,hI'',hL1,rfl⟩;refine ⟨⟨_,hpn⟩,?_⟩;have:=(gK ⟨_,hpn⟩).2 _ hpn;show lm (p a' w')<lm (p a w);omega
  | _=>exact ⟨st',L',h4,h5⟩
 | exit id=>exact fun Q a w st L h hp=>wp_exit ⟨st,L,hp,h⟩
 | ret=>exact fun Q a w st L h hp=>wp_ret ⟨st,L,hp,h⟩
 | rangeFunc g ps assign body=>exact fun Q a w st L h hp=>hp cx a w L h
 | label l=>exact fun Q a w st L h hp=>wp_label ⟨st,L,hp,h⟩
 | scope x ih=>
  intro Q a w st L h hp;unfold bB at hp;refine wp_scope_straight (Code.wp_mono (fun e a' w' ⟨st',L',h1,h2⟩=>?_) (ih _ a w st L h hp))
  cases e with
  | goto l=>exact h1
  | _=>exact ⟨st',L',h1,h2⟩
 | _=>exact fun Q a w st L h hp=>hp.elim
end
end
end
end Go.Proofs.YtmmoidfcfjklaaaGreat
