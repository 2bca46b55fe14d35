/-
  Parts of the proof: Sinp4.
-/
import Derived.Test.YtglaiabelcefeaaGreatSinq2
import Derived.Deep.Quiet
import Derived.StillTail
import Derived.OrdersHeld
import Derived.Scope
set_option linter.unusedVariables false
set_option linter.unusedSimpArgs false
set_option linter.defProp false
set_option maxRecDepth 100000
set_option maxHeartbeats 16000000
namespace Go.Proofs.YtglaiabelcefeaaGreat
open Go.RowKit
section
section
def pL(P:Program)(t:TypeId)(st:aj)(p x:AV)(K:aj->Prop):Prop:=
 match p with
 | .op id i j=>match st.tab.get id with
  | some (.box ty cells)=>i=0/\0<aq P t/\(ap x).length=aq P t/\j+aq P t<=cells.length/\fg st.tab (ap x)/\K { st with tab:=(id,some (.box ty (cells.take j ++ ap x ++ cells.drop (j+aq P t)))) :: st.tab }
  | some (.row e sz rows)=>i<rows.length/\0<aq P t/\(ap x).length=aq P t/\j+aq P t<=sz/\fg st.tab (ap x)/\bD (ap x)/\K { st with tab:=(id,some (.row e sz (rows.set i ((rows[i]?.getD []).take j ++ ap x ++ (rows[i]?.getD []).drop (j+aq P t))))) :: st.tab }
  | some (.nest e sz rows)=>i<rows.length/\0<aq P t/\(ap x).length=aq P t/\j+aq P t<=sz/\fg st.tab (ap x)/\K { st with tab:=(id,some (.nest e sz (rows.set i ((rows[i]?.getD []).take j ++ ap x ++ (rows[i]?.getD []).drop (j+aq P t))))) :: st.tab }
  | _=>False
 | _=>False
def n4(P:Program)(t:TypeId)(st:aj)(id i j:Nat)(x:AV)(K:aj->Prop):Prop:=
 match st.tab.get id with
 | some (.box ty cells)=>i=0/\0<aq P t/\(ap x).length=aq P t/\j+aq P t<=cells.length/\fg st.tab (ap x)/\K { st with tab:=(id,some (.box ty (cells.take j ++ ap x ++ cells.drop (j+aq P t)))) :: st.tab }
 | some (.row e sz rows)=>i<rows.length/\0<aq P t/\(ap x).length=aq P t/\j+aq P t<=sz/\fg st.tab (ap x)/\bD (ap x)/\K { st with tab:=(id,some (.row e sz (rows.set i ((rows[i]?.getD []).take j ++ ap x ++ (rows[i]?.getD []).drop (j+aq P t))))) :: st.tab }
 | some (.nest e sz rows)=>i<rows.length/\0<aq P t/\(ap x).length=aq P t/\j+aq P t<=sz/\fg st.tab (ap x)/\K { st with tab:=(id,some (.nest e sz (rows.set i ((rows[i]?.getD []).take j ++ ap x ++ (rows[i]?.getD []).drop (j+aq P t))))) :: st.tab }
 | _=>False
def AG(t:TypeId)(st:aj)(x:AV)(dst:Option Nat)(K:aj->Prop):Prop:=
 fg st.tab (ap x)/\K ({ st with tab:=(st.next,some (.box t (ap x))) :: st.tab,next:=st.next+1 }.put dst (.op st.next 0 0))
def iL(P:Program)(t:TypeId)(st:aj)(x y:AV)(dst:Option Nat)(K:aj->Prop):Prop:=
 match dx P t with
 | some (e,sz,by_)=>match wN st.tab e sz x,AH st.tab sz y with
  | some (oid,rows),some rows2=>(rows.length+rows2.length<=9223372036854775807/\(rows.length+rows2.length) * by_<=140737488355328)/\K ({ st with tab:=bO st.tab st.next oid (.row e sz (rows ++ rows2)),next:=st.next+1 }.put dst (.osl st.next))
  | _,_=>match lO st.tab e sz x,qw st.tab sz y with
   | some (oid,rows),some rows2=>(rows.length+rows2.length<=9223372036854775807/\(rows.length+rows2.length) * by_<=140737488355328)/\K ({ st with tab:=bO st.tab st.next oid (.nest e sz (rows ++ rows2)),next:=st.next+1 }.put dst (.osl st.next))
   | _,_=>False
 | none=>False
def Cn:AV->AV->Bool
 | .c (.slice none 0 0),.c (.slice none 0 0)=>true
 | _,_=>false
theorem nL{x y:AV}(h:Cn x y=true):x=.c (.slice none 0 0)/\y=.c (.slice none 0 0):=by
 unfold Cn at h;split at h
 .exact ⟨rfl,rfl⟩
 .cases h
def gC(P:Program)(t:TypeId)(st:aj)(x y:AV)(dst:Option Nat)(K:aj->Prop):Prop:=
 match Cn x y with
 | true=>(dx P t).isSome=true/\K (st.put dst (.c (.slice none 0 0)))
 | false=>iL P t st x y dst K
section
variable {P:Program} {t:TypeId} {st:aj} {y:AV} {dst:Option Nat} {K:aj->Prop} {id sz:Nat} {rows:List (List AV)}
theorem Gj:gC P t st (.osl id) y dst K=iL P t st (.osl id) y dst K:=rfl
theorem Dh:gC P t st (.c (.slice none 0 0)) (.osl id) dst K=iL P t st (.c (.slice none 0 0)) (.osl id) dst K:=rfl
theorem CX:gC P t st (.c (.slice none 0 0)) (.sl sz rows) dst K=iL P t st (.c (.slice none 0 0)) (.sl sz rows) dst K:=rfl
theorem Bp:gC P t st (.c (.slice none 0 0)) (.c (.slice none 0 0)) dst K=((dx P t).isSome=true/\K (st.put dst (.c (.slice none 0 0)))):=rfl
end
theorem jm{P:Program}{t ty:TypeId}{w:World}(h:(dx P t).isSome=true):(Builtin.append_ #[t,t] ty #[.slice none 0 0,.slice none 0 0]).run P w=.ok (.slice none 0 0) w:=by
 obtain⟨⟨e,sz,by_⟩,ht⟩:=VY.1 h;obtain⟨i,z,hund,hi,hz,hs,hb,hzs,h0⟩:=fW ht;exact iQ 0 hund hi (kB w 0 e i.size)
def gA(P:Program)(t:TypeId)(n:Nat)(parts:List (Nat×Operand))(dst:Option Nat)(K:aj->Prop)(st:aj):Prop:=
 match dx P t with
 | some (e,sz,_)=>match gN (parts.flatMap fun(p:Nat×Operand)=>ap (bb st p.2)) with
  | []=>(parts.map (·.1)=List.range' 0 parts.length/\n=parts.length/\parts.length * sz<=16777216/\AP st.tab sz (parts.map fun p=>bb st p.2)) /\
   K ({ st with tab:=(st.next,some (.row e sz (parts.map fun(p:Nat×Operand)=>ap (bb st p.2)))) :: st.tab,next:=st.next+1 }.put dst (.osl st.next))
  | _ :: _=>(parts.map (·.1)=List.range' 0 parts.length/\n=parts.length/\parts.length * sz<=16777216/\qy st.tab sz (parts.map fun p=>bb st p.2)) /\
   K ({ st with tab:=(st.next,some (.nest e sz (parts.map fun(p:Nat×Operand)=>ap (bb st p.2)))) :: st.tab,next:=st.next+1 }.put dst (.osl st.next))
 | none=>False
def eL(P:Program)(t:TypeId)(n:Nat)(parts:List (Nat×Operand))(st:aj)(dst:Option Nat)(K:aj->Prop):Prop:=
 gA P t n parts dst K (iA st (gN (parts.flatMap fun(p:Nat×Operand)=>ap (bb st p.2))))
def qv(P:Program)(t:TypeId)(st:aj)(l c:AV)(dst:Option Nat)(K:aj->Prop):Prop:=
 match dx P t,l,c with
 | some (e,sz,by_),.c (.int _ n),.c (.int _ m)=>match bQ P e with
  | some z=>(m=n/\fg [] (ap (.c z))/\0<=n/\n<=16777216/\(by_:Int) * n<=281474976710656)/\K ({ st with tab:=(st.next,some (Tb (De t) e sz (List.replicate n.toNat (ap (.c z))))) :: st.tab,next:=st.next+1 }.put dst (.osl st.next))
  | none=>False
 | _,_,_=>False
def ml(P:Program)(t:TypeId)(st:aj)(parts:List (Nat×Operand))(dst:Option Nat)(K:aj->Prop):Prop:=
 match cV P t with
 | some (places,zs)=>match tA places (zs.map .c) (parts.map fun p=>(p.1,bb st p.2)) with
  | some cs=>kh st.tab (parts.map fun p=>(p.1,bb st p.2))/\K (st.put dst (.agg cs))
  | none=>False
 | none=>False
def Gy(h:Int)(b:Bool):Option AV->Prop
 | none=>True
 | some (.c (.int _ m))=>m=h/\b=true
 | _=>False
def oK(P:Program)(t:TypeId)(st:aj)(id e sz:Nat)(rows:List (List AV))(b:Bool)(mx:Option AV)(dst:Option Nat)(K:aj->Prop):Option Int->Option Int->Prop
 | some l,some h=>((bA P t).2=sz/\0<sz)/\(l=0/\0<=h/\h<=(rows.length:Int)/\Gy h b mx)/\K ({ st with tab:=bO st.tab st.next (some id) (.row e sz (rows.take h.toNat)),next:=st.next+1 }.put dst (.osl st.next))
 | _,_=>False
def jK(P:Program)(t:TypeId)(st:aj)(x:AV)(lo hi mx:Option AV)(dst:Option Nat)(K:aj->Prop):Prop:=
 match x with
 | .osl id=>match st.tab.get id with
  | some (.row e sz rows)=>oK P t st id e sz rows hi.isSome mx dst K (HZ 0 lo) (HZ rows.length hi)
  | _=>False
 | x=>mc P t x lo hi mx fun av=>K (st.put dst av)
def H5(f:AV)(K:FuncId->List AV->Prop):Prop:=
 match f with
 | .c (.func (.func g) first caps)=>(first = #[]/\caps = #[])/\K g []
 | .fn g cs=>K g cs
 | _=>False
def zc(f:AV)(KB K:FuncId->List AV->Prop):Prop:=
 match f with
 | .bfn g bs=>KB g bs
 | f=>H5 f K
def aK(st:aj)(dst:Option Nat)(K:aj->Prop)(av:AV):Prop:=K (st.put dst av)
def uj(dst:Option Nat)(K:aj->Prop)(av:AV)(st:aj):Prop:=K (st.put dst av)
def PE(dst:Option Nat)(K:aj->Prop)(st:aj):Prop:=K (st.put dst .any)
def j8(dst:Option Nat)(K:aj->Prop)(st:aj):Prop:=K (st.put dst (.c undef))
def wj(P:Program)(st:aj)(args:List Operand)(dst:Option Nat)(K:aj->Prop)(g:FuncId)(cs:List AV):Prop:=gb none P st g (args.map (bb st) ++ cs) (uj dst K)
def xN(P:Program)(st:aj)(args:List Operand)(dst:Option Nat)(K:aj->Prop)(g:FuncId)(bs:List AV):Prop:=gb none P st g (bs ++ args.map (bb st)) (uj dst K)
def DB(P:Program)(nx0:Nat)(ids:List Nat)(st:aj)(args:List Operand)(dst:Option Nat)(K:aj->Prop)(g:FuncId)(cs:List AV):Prop:=gb (some (nx0,ids)) P st g (args.map (bb st) ++ cs) (uj dst K)
def CY(P:Program)(st:aj)(args:List Operand)(dst:Option Nat)(K:aj->Prop)(g:FuncId)(cs:List AV):Prop:=∃v,am P g ((args.map (bb st) ++ cs).map (gj st.tab)) ⟨.c v,[],0⟩/\K (st.put dst (.c v))
def je(P:Program)(o:Oper)(K:aj->Prop)(st:aj):Prop:=
 match o.op with
 | .box t x=>AG t st (bb st x) o.dst K
 | .alloc t=>match bQ P t with
  | some z=>AG t st (.c z) o.dst K
  | none=>False
 | .store t p x=>pL P t st (bb st p) (bb st x) (PE o.dst K)
 | .buildSlice t n parts=>eL P t n parts.toList st o.dst K
 | .makeSlice t l c=>qv P t st (bb st l) (bb st c) o.dst K
 | .build t parts=>ml P t st parts.toList o.dst K
 | .slice t x lo hi mx=>jK P t st (bb st x) (lo.map (bb st)) (hi.map (bb st)) (mx.map (bb st)) o.dst K
 | .makeMap _ r=>Jp st r.isNone o.dst K
 | .lookup t m k ok=>mM P t st.tab (bb st m) (bb st k) ok (aK st o.dst K)
 | .mapUpdate t m k v=>kX P t st (bb st m) (bb st k) (bb st v) (PE o.dst K)
 | .call c=>match c.callee with
  | .builtin .append=>match c.args.toList,c.argTypes.toList with
   | [x,y],[t,t']=>t=t' /\ gC P t st (bb st x) (bb st y) o.dst K
   | _,_=>False
  | .builtin .clear=>wu P st c.args.toList c.argTypes.toList o.dst K
  | .builtin .len=>B7 P st.tab (bb st) c.args.toList c.argTypes.toList (aK st o.dst K)\/cj P st.tab (bb st) (.call c) (aK st o.dst K)
  | .value f=>zc (bb st f) (xN P st c.args.toList o.dst K) (wj P st c.args.toList o.dst K)
  | _=>cj P st.tab (bb st) (.call c) (aK st o.dst K)
 | op=>cj P st.tab (bb st) op (aK st o.dst K)
def yv:Value->Option Bool
 | .bool b=>some b
 | _=>none
def Mo(b want:Bool)(d:Nat)(yes no:aj->Prop)(st:aj):Prop:=
 match b,want with
 | true,true=>yes (st.put (some d) (.c (.bool true)))
 | false,false=>yes (st.put (some d) (.c (.bool false)))
 | true,false=>no (st.put (some d) (.c (.bool true)))
 | false,true=>no (st.put (some d) (.c (.bool false)))
section
variable {b want:Bool} {d:Nat} {yes no:aj->Prop} {st:aj}
theorem RU:Mo true true d yes no st=yes (st.put (some d) (.c (.bool true))):=rfl
theorem S0:Mo false false d yes no st=yes (st.put (some d) (.c (.bool false))):=rfl
theorem Su:Mo true false d yes no st=no (st.put (some d) (.c (.bool true))):=rfl
theorem Ry:Mo false true d yes no st=no (st.put (some d) (.c (.bool false))):=rfl
theorem vl(h1:b=true->Mo true want d yes no st)(h2:b=false->Mo false want d yes no st):Mo b want d yes no st:=by
 cases b
 .exact h2 rfl
 .exact h1 rfl
end
def lq(ops:Array Oper)(g:Option (Nat×Bool))(yes no:aj->Prop)(st:aj):Prop:=
 match g with
 | none=>yes st
 | some (j,want)=>match (ops[j]?).bind (·.dst) with
  | some d=>match st.get d with
   | .c v=>match yv v with
    | some b=>Mo b want d yes no st
    | none=>no st
   | _=>False
  | none=>False
def lD(P:Program)(ops:Array Oper)(K:aj->Prop):List Oper->aj->Prop
 | [],st=>K st
 | o :: rest,st=>lq ops o.guard (je P o (lD P ops K rest)) (j8 o.dst (lD P ops K rest)) st
def m6(P:Program)(o:Oper)(K:aj->Prop)(st:aj):Prop:=
 match o.op with
 | .call c=>match c.callee with
  | .value f=>H5 (bb st f) (CY P st c.args.toList o.dst K)
  | _=>cj P st.tab (bb st) (.call c) (aK st o.dst K)
 | .build t parts=>ml P t st parts.toList o.dst K
 | op=>cj P st.tab (bb st) op (aK st o.dst K)
def kP(P:Program)(ops:Array Oper)(K:aj->Prop):List Oper->aj->Prop
 | [],st=>K st
 | o :: rest,st=>lq ops o.guard (m6 P o (kP P ops K rest)) (j8 o.dst (kP P ops K rest)) st
def nb(P:Program)(ops:Array Oper)(K:aj->Prop):List Oper->aj->Prop
 | [],st=>K st
 | o :: rest,st=>lq ops o.guard (aPop P o (nb P ops K rest)) (j8 o.dst (nb P ops K rest)) st
where aPop (P:Program) (o:Oper) (K:aj->Prop) (st:aj):Prop:=cj P st.tab (bb st) o.op (aK st o.dst K)
inductive m7 where
 | done
 | take (i:Nat) (s:m7)
 | exec (i:Nat) (s:m7)
 | two (i:Nat) (s:m7) (j:Nat) (t:m7)
 | three (i:Nat) (s:m7) (j:Nat) (t:m7) (k:Nat) (u:m7)
 | four (i:Nat) (s:m7) (j:Nat) (t:m7) (k:Nat) (u:m7) (l:Nat) (v:m7)
def m7.len:m7->Nat
 | .done=>0
 | .take _ s=>s.len+1
 | .exec _ s=>s.len+1
 | .two _ s _ t=>Nat.max s.len t.len+1
 | .three _ s _ t _ u=>Nat.max s.len (Nat.max t.len u.len)+1
 | .four _ s _ t _ u _ v=>Nat.max s.len (Nat.max t.len (Nat.max u.len v.len))+1
def ea(ops:Array Oper):m7->Array Bool->Bool
 | .take i s,listed=>Region.free .any ops listed i && (Region.ready .any ops listed).contains i && ea ops s (listed.setIfInBounds i true)
 | .exec i s,listed=>decide (Region.ready .any ops listed=[i]) && ea ops s (listed.setIfInBounds i true)
 | .two i s j t,listed=>decide (Region.ready .any ops listed=[i,j]) && ea ops s (listed.setIfInBounds i true) && ea ops t (listed.setIfInBounds j true)
 | .three i s j t k u,listed=>decide (Region.ready .any ops listed=[i,j,k]) && ea ops s (listed.setIfInBounds i true) && ea ops t (listed.setIfInBounds j true) && ea ops u (listed.setIfInBounds k true)
 | .four i s j t k u l v,listed=>decide (Region.ready .any ops listed=[i,j,k,l]) && ea ops s (listed.setIfInBounds i true) && ea ops t (listed.setIfInBounds j true) && ea ops u (listed.setIfInBounds k true) && ea ops v (listed.setIfInBounds l true)
 | .done,listed=>(Region.ready .any ops listed).isEmpty
def qf(ops:Array Oper):List Nat->m7->Array Bool->Bool
 | i :: h,s,listed=>Region.free .any ops listed i && (Region.ready .any ops listed).contains i && qf ops h s (listed.setIfInBounds i true)
 | [],s,listed=>ea ops s listed
def x9(nx0:Nat)(ids:List Nat):AV->Prop
 | .osl id=>pA nx0 ids id
 | _=>True
def iZ(P:Program)(nx0:Nat)(ids:List Nat)(o:Oper)(K:aj->Prop)(st:aj):Prop:=
 match o.op with
 | .assign x=>K (st.put o.dst (bb st x))
 | .load _ _=>cj P st.tab (bb st) o.op (aK st o.dst K)
 | .lookup t m k ok=>mM P t st.tab (bb st m) (bb st k) ok (aK st o.dst K)
 | .mapUpdate t m k v=>match bb st m with
  | .osl id=>pA nx0 ids id/\kX P t st (.osl id) (bb st k) (bb st v) (PE o.dst K)
  | _=>False
 | .store t p x=>match bb st p with
  | .op id i j=>pA nx0 ids id/\n4 P t st id i j (bb st x) (PE o.dst K)
  | _=>False
 | .alloc t=>match bQ P t with
  | some z=>AG t st (.c z) o.dst K
  | none=>False
 | .box t x=>AG t st (bb st x) o.dst K
 | .buildSlice t n parts=>eL P t n parts.toList st o.dst K
 | .makeSlice t l c=>qv P t st (bb st l) (bb st c) o.dst K
 | .call c=>match c.callee with
  | .builtin .append=>match c.args.toList,c.argTypes.toList with
   | [x,y],[t,t']=>(t=t' /\ x9 nx0 ids (bb st x))/\gC P t st (bb st x) (bb st y) o.dst K
   | _,_=>False
  | .value f=>H5 (bb st f) (DB P nx0 ids st c.args.toList o.dst K)
  | _=>False
 | _=>False
def Ao(ids:List Nat):AV->Prop
 | .op id _ _=>id∉ids
 | .rp _=>True
 | _=>False
def pF(ids:List Nat)(st:aj):Op->Prop
 | .load _ x=>Ao ids (bb st x)
 | _=>True
def eh(P:Program)(dst:Option Nat)(op:Op)(K:aj->Prop)(st:aj):Prop:=
 match op with
 | .build t parts=>ml P t st parts.toList dst K
 | op=>cj P st.tab (bb st) op (aK st dst K)
def BR(P:Program)(ids:List Nat)(o:Oper)(K:aj->Prop)(st:aj):Prop:=pF ids st o.op/\eh P o.dst o.op K st
def xo(nx0:Nat)(ids:List Nat)(tab:ae):AV->Prop
 | .op id _ _=>id<nx0/\id∉ids/\match tab.get id with
  | some _=>True
  | none=>False
 | _=>False
def qd(nx0:Nat)(ids:List Nat)(st:aj):Op->Prop
 | .load _ x=>xo nx0 ids st.tab (bb st x)
 | _=>True
def Ds(P:Program)(nx0:Nat)(ids:List Nat)(o:Oper)(K:aj->Prop)(st:aj):Prop:=qd nx0 ids st o.op/\eh P o.dst o.op K st
def tf(P:Program)(ops:Array Oper)(nx0:Nat)(ids:List Nat)(o:Option Oper)(K:aj->Prop)(st:aj):Prop:=
 match o with
 | some o=>lq ops o.guard (Ds P nx0 ids o K) (j8 o.dst K) st
 | none=>False
def sS(P:Program)(ops:Array Oper)(ids:List Nat)(o:Option Oper)(K:aj->Prop)(st:aj):Prop:=
 match o with
 | some o=>lq ops o.guard (BR P ids o K) (j8 o.dst K) st
 | none=>False
def dC(P:Program)(ops:Array Oper)(nx0:Nat)(ids:List Nat)(o:Option Oper)(K:aj->Prop)(st:aj):Prop:=
 match o with
 | some o=>lq ops o.guard (iZ P nx0 ids o K) (j8 o.dst K) st
 | none=>False
def cZ(P:Program)(ops:Array Oper)(nx0:Nat)(ids:List Nat)(K:aj->Prop):m7->aj->Prop
 | .done,st=>K st
 | .take i s,st=>tf P ops nx0 ids ops[i]? (cZ P ops nx0 ids K s) st
 | .exec i s,st=>dC P ops nx0 ids ops[i]? (cZ P ops nx0 ids K s) st
 | .two i s j t,st=>dC P ops nx0 ids ops[i]? (cZ P ops nx0 ids K s) st/\dC P ops nx0 ids ops[j]? (cZ P ops nx0 ids K t) st
 | .three i s j t k u,st=>dC P ops nx0 ids ops[i]? (cZ P ops nx0 ids K s) st/\dC P ops nx0 ids ops[j]? (cZ P ops nx0 ids K t) st/\dC P ops nx0 ids ops[k]? (cZ P ops nx0 ids K u) st
 | .four i s j t k u l v,st=>dC P ops nx0 ids ops[i]? (cZ P ops nx0 ids K s) st/\dC P ops nx0 ids ops[j]? (cZ P ops nx0 ids K t) st/\dC P ops nx0 ids ops[k]? (cZ P ops nx0 ids K u) st/\dC P ops nx0 ids ops[l]? (cZ P ops nx0 ids K v) st
def jS(P:Program)(ops:Array Oper)(ids:List Nat)(K:aj->Prop):List Nat->aj->Prop
 | [],st=>K st
 | i :: s,st=>sS P ops ids ops[i]? (jS P ops ids K s) st
def ct(st st':aj):Prop:=∀cx a w L,aH cx a w st L->∃L',aH cx a w st' L' /\ ∀b,Sx cx w st.tab L b->Sx cx w st'.tab L' b
theorem ct.reflH(st:aj):ct st st:=fun _ _ _ L h=>⟨L,h,fun _ hb=>hb⟩
inductive uH(P:Program)(ops:Array Oper)(K:aj->Prop)(st:aj):Prop
 | quiet (hB:Region.lexB .any ops=true) (h:kP P ops K ops.toList st)
 | tail (n:Nat) (hB:Region.lexTailB .any ops n=true) (h:nb P ops (lD P ops K (ops.toList.drop n)) (ops.toList.take n) st)
 | held (ids:List Nat) (hd:List Nat) (s:m7) (hB:(Region.noSelect ops && qf ops hd s (Array.replicate ops.size false) && Nat.ble (hd.length+s.len) ops.size)=true) (K':aj->Prop) (hK:∀st,K' st->∃st',ct st st' /\ K st') (h:(∀id∈ids,(st.tab.get id).isSome=true)/\jS P ops ids (cZ P ops st.next ids K' s) hd st)
theorem ay{P:Program}{l:List Oper}{K:aj->Prop}{st:aj}(hB:Region.lexB .any l.toArray=true)(h:kP P l.toArray K l st):uH P l.toArray K st:=.quiet hB h
theorem BF{P:Program}{l:List Oper}{K:aj->Prop}{st:aj}(n:Nat)(hB:Region.lexTailB .any l.toArray n=true)(h:nb P l.toArray (lD P l.toArray K (l.drop n)) (l.take n) st):uH P l.toArray K st:=.tail n hB h
theorem aG{P:Program}{l:List Oper}{K:aj->Prop}{st:aj}(ids:List Nat)(hd:List Nat)(s:m7)(hB:(Region.noSelect l.toArray && qf l.toArray hd s (Array.replicate l.toArray.size false) && Nat.ble (hd.length+s.len) l.toArray.size)=true)(hids:∀id∈ids,(st.tab.get id).isSome=true)(h:jS P l.toArray ids (cZ P l.toArray st.next ids K s) hd st):uH P l.toArray K st:=.held ids hd s hB K (fun st h1=>⟨st,.reflH st,h1⟩) ⟨hids,h⟩
def FG(I:aj->Prop)(st:aj):Prop:=∃st',ct st st' /\ I st'
theorem se{P:Program}{l:List Oper}{K:aj->Prop}{st:aj}(J:aj->Prop)(ids:List Nat)(hd:List Nat)(s:m7)(hB:(Region.noSelect l.toArray && qf l.toArray hd s (Array.replicate l.toArray.size false) && Nat.ble (hd.length+s.len) l.toArray.size)=true)(hids:∀id∈ids,(st.tab.get id).isSome=true)(h:jS P l.toArray ids (cZ P l.toArray st.next ids (FG J) s) hd st)(hJ:∀st,J st->K st):uH P l.toArray K st:=
 .held ids hd s hB (FG J) (fun st ⟨st',hw,h1⟩=>⟨st',hw,hJ st' h1⟩) ⟨hids,h⟩
def lU(next:aj->Prop)(Q:Exit->aj->Prop):Exit->aj->Prop
 | .normal,st=>next st
 | e,st=>Q e st
def ik(id:Nat)(Q:Exit->aj->Prop):Exit->aj->Prop
 | .exit id',st=>if id'=id then Q .normal st else Q (.exit id') st
 | e,st=>Q e st
def ST(t:Bool)(x y:aj->Prop)(st:aj):Prop:=match t with|true=>x st|false=>y st
theorem JB{x y:aj->Prop}{st:aj}:ST true x y st=x st:=rfl
theorem HC{x y:aj->Prop}{st:aj}:ST false x y st=y st:=rfl
theorem kG{t:Bool}{x y:aj->Prop}{st:aj}(h1:t=true->ST true x y st)(h2:t=false->ST false x y st):ST t x y st:=by
 cases t
 .exact h2 rfl
 .exact h1 rfl
def oX(c:AV)(x y:aj->Prop)(st:aj):Prop:=
 match c with
 | .c (.bool b)=>ST b x y st
 | _=>False
def w7(I:aj->Prop)(μ:aj->Nat)(n:Nat)(st:aj):Prop:=∃st',ct st st' /\ I st' /\ μ st'<n
def HI(P:Program)(ops:Array Oper)(draw:Bool)(K:aj->Prop)(st:aj):Prop:=if draw=true then uH P ops K st else lD P ops K ops.toList st
def MS(Q:Exit->aj->Prop):Exit->aj->Prop
 | .goto _,_=>False
 | e,st=>Q e st
def bt(P:Program):Code->(Exit->aj->Prop)->aj->Prop
 | .skip,Q,st=>Q .normal st
 | .region _ ops draw,Q,st=>HI P ops draw (Q .normal) st
 | .seq x y,Q,st=>bt P x (lU (bt P y Q) Q) st
 | .cond c x y,Q,st=>oX (bb st c) (bt P x Q) (bt P y Q) st
 | .block id x,Q,st=>bt P x (ik id Q) st
 | .loop x,Q,st=>∃(I:aj->Prop)(μ:aj->Nat),(∃st',ct st st' /\ I st')/\∀st,I st->bt P x (lU (w7 I μ (μ st)) Q) st
 | .exit id,Q,st=>Q (.exit id) st
 | .ret,Q,st=>Q .ret st
 | .rangeFunc g ps assign body,Q,st=>∀(cx:Cx)(a:Act)(w:World)(L:Nat->Value),aH cx a w st L->(Code.rangeFunc g ps assign body).wp P (fun e a w=>∃st L,Q e st/\aH cx a w st L) a w
 | .label _,Q,st=>Q .normal st
 | .scope x,Q,st=>bt P x (MS Q) st
 | _,_,_=>False
def KN(P:Program)(x:Code)(Q:Exit->aj->Prop)(st:aj):Prop:=bt P (.loop x) Q st
theorem af{P:Program}{x:Code}{Q:Exit->aj->Prop}{st:aj}(I:aj->Prop)(μ:aj->Nat)(h0:∃st',ct st st' /\ I st')(h:∀st,I st->bt P x (lU (w7 I μ (μ st)) Q) st):KN P x Q st:=⟨I,μ,h0,h⟩
section
variable {P:Program} {Q:Exit->aj->Prop} {st:aj}
theorem Ci:bt P .skip Q st=Q .normal st:=rfl
theorem C7{id:Nat}{l:List Oper}:bt P (.region id l.toArray false) Q st=lD P l.toArray (Q .normal) l st:=by simp[bt,HI]
theorem Bo{id:Nat}{l:List Oper}:bt P (.region id l.toArray true) Q st=uH P l.toArray (Q .normal) st:=by simp[bt,HI]
theorem FM{x y:Code}:bt P (.seq x y) Q st=bt P x (lU (bt P y Q) Q) st:=rfl
theorem CT{c:Operand}{x y:Code}:bt P (.cond c x y) Q st=oX (bb st c) (bt P x Q) (bt P y Q) st:=rfl
theorem AF{id:Nat}{x:Code}:bt P (.block id x) Q st=bt P x (ik id Q) st:=rfl
theorem B8{x:Code}:bt P (.loop x) Q st=KN P x Q st:=rfl
theorem Db{id:Nat}:bt P (.exit id) Q st=Q (.exit id) st:=rfl
theorem GS:bt P .ret Q st=Q .ret st:=rfl
theorem wH{next:aj->Prop}:lU next Q .normal st=next st:=rfl
theorem Ce{next:aj->Prop}{id:Nat}:lU next Q (.exit id) st=Q (.exit id) st:=rfl
theorem Hl{next:aj->Prop}:lU next Q .ret st=Q .ret st:=rfl
theorem qT{id:Nat}:ik id Q .normal st=Q .normal st:=rfl
theorem wL{id:Nat}:ik id Q .ret st=Q .ret st:=rfl
theorem ub{id id':Nat}:ik id Q (.exit id') st=if id'=id then Q .normal st else Q (.exit id') st:=rfl
theorem CE{b:Bool}{x y:aj->Prop}:oX (.c (.bool b)) x y st=ST b x y st:=rfl
theorem J6{dst:Option Nat}{K:aj->Prop}:j8 dst K st=K (st.put dst (.c undef)):=rfl
theorem RH{dst:Option Nat}{K:aj->Prop}:PE dst K st=K (st.put dst .any):=rfl
theorem TT{dst:Option Nat}{K:aj->Prop}{av:AV}:aK st dst K av=K (st.put dst av):=rfl
theorem SJ{dst:Option Nat}{K:aj->Prop}{av:AV}:uj dst K av st=K (st.put dst av):=rfl
theorem RA{g:FuncId}{K:FuncId->List AV->Prop}:H5 (.c (.func (.func g) #[] #[])) K=K g []:=by simp[H5]
theorem Ph{g:FuncId}{KB K:FuncId->List AV->Prop}:zc (.c (.func (.func g) #[] #[])) KB K=K g []:=by simp[zc,H5]
theorem Kv{g:FuncId}{cs:List AV}{KB K:FuncId->List AV->Prop}:zc (.fn g cs) KB K=K g cs:=rfl
theorem It{g:FuncId}{cs:List AV}{KB K:FuncId->List AV->Prop}:zc (.bfn g cs) KB K=KB g cs:=rfl
theorem NZ{g:FuncId}{cs:List AV}{K:FuncId->List AV->Prop}:H5 (.fn g cs) K=K g cs:=rfl
theorem Ht{args:List Operand}{dst:Option Nat}{K:aj->Prop}{g:FuncId}{cs:List AV}:wj P st args dst K g cs=gb none P st g (args.map (bb st) ++ cs) (uj dst K):=rfl
theorem Gs{args:List Operand}{dst:Option Nat}{K:aj->Prop}{g:FuncId}{cs:List AV}:xN P st args dst K g cs=gb none P st g (cs ++ args.map (bb st)) (uj dst K):=rfl
theorem Fu{nx0:Nat}{ids:List Nat}{args:List Operand}{dst:Option Nat}{K:aj->Prop}{g:FuncId}{cs:List AV}:DB P nx0 ids st args dst K g cs=gb (some (nx0,ids)) P st g (args.map (bb st) ++ cs) (uj dst K):=rfl
theorem GO{args:List Operand}{dst:Option Nat}{K:aj->Prop}{g:FuncId}{cs:List AV}:CY P st args dst K g cs = ∃v,am P g ((args.map (bb st) ++ cs).map (gj st.tab)) ⟨.c v,[],0⟩/\K (st.put dst (.c v)):=rfl
section
variable {ops:Array Oper} {K:aj->Prop} {dst:Option Tmp} {op:Op} {ty:TypeId} {pos:String} {aft:Array Edge} {gd:Option (Nat×Bool)} {rest:List Oper} {j:Nat} {want:Bool}
theorem Jc:lD P ops K [] st=K st:=rfl
theorem C9:lD P ops K (⟨dst,op,ty,pos,aft,none⟩ :: rest) st=je P ⟨dst,op,ty,pos,aft,none⟩ (lD P ops K rest) st:=rfl
def rl(v:AV)(want:Bool)(d:Nat)(yes no:aj->Prop)(st:aj):Prop:=
 match v with
 | .c v=>match yv v with
  | some b=>Mo b want d yes no st
  | none=>no st
 | _=>False
def my(d:Option Nat)(want:Bool)(yes no:aj->Prop)(st:aj):Prop:=match d with|some d=>rl (st.get d) want d yes no st|none=>False
theorem BU{d:Nat}{yes no:aj->Prop}:my (some d) want yes no st=rl (st.get d) want d yes no st:=rfl
theorem wD{b:Bool}{d:Nat}{yes no:aj->Prop}:rl (.c (.bool b)) want d yes no st=Mo b want d yes no st:=rfl
theorem uz{d:Nat}{yes no:aj->Prop}:rl (.c undef) want d yes no st=no st:=rfl
theorem Cu:lD P ops K (⟨dst,op,ty,pos,aft,some (j,want)⟩ :: rest) st=my ((ops[j]?).bind (·.dst)) want (je P ⟨dst,op,ty,pos,aft,some (j,want)⟩ (lD P ops K rest)) (j8 dst (lD P ops K rest)) st:=rfl
theorem Gm:nb P ops K [] st=K st:=rfl
theorem yL:nb P ops K (⟨dst,op,ty,pos,aft,none⟩ :: rest) st=cj P st.tab (bb st) op (aK st dst (nb P ops K rest)):=rfl
theorem Di{ids:List Nat}:jS P ops ids K [] st=K st:=rfl
theorem yW{ids:List Nat}{i:Nat}{s:List Nat}:jS P ops ids K (i :: s) st=sS P ops ids ops[i]? (jS P ops ids K s) st:=rfl
theorem Fc{nx0:Nat}{ids:List Nat}:cZ P ops nx0 ids K .done st=K st:=rfl
theorem CK{nx0 i:Nat}{ids:List Nat}{s:m7}:cZ P ops nx0 ids K (.take i s) st=tf P ops nx0 ids ops[i]? (cZ P ops nx0 ids K s) st:=rfl
theorem Cs{nx0 i:Nat}{ids:List Nat}{s:m7}:cZ P ops nx0 ids K (.exec i s) st=dC P ops nx0 ids ops[i]? (cZ P ops nx0 ids K s) st:=rfl
theorem FF{nx0 i j:Nat}{ids:List Nat}{s t:m7}:cZ P ops nx0 ids K (.two i s j t) st=(dC P ops nx0 ids ops[i]? (cZ P ops nx0 ids K s) st/\dC P ops nx0 ids ops[j]? (cZ P ops nx0 ids K t) st):=rfl
theorem AC{nx0 i j k:Nat}{ids:List Nat}{s t u:m7}:cZ P ops nx0 ids K (.three i s j t k u) st=(dC P ops nx0 ids ops[i]? (cZ P ops nx0 ids K s) st/\dC P ops nx0 ids ops[j]? (cZ P ops nx0 ids K t) st/\dC P ops nx0 ids ops[k]? (cZ P ops nx0 ids K u) st):=rfl
theorem wb{ids:List Nat}:sS P ops ids (some ⟨dst,op,ty,pos,aft,none⟩) K st=(pF ids st op/\eh P dst op K st):=rfl
theorem xI{ids:List Nat}:sS P ops ids (some ⟨dst,op,ty,pos,aft,some (j,want)⟩) K st=my ((ops[j]?).bind (·.dst)) want (BR P ids ⟨dst,op,ty,pos,aft,some (j,want)⟩ K) (j8 dst K) st:=rfl
theorem xR{nx0:Nat}{ids:List Nat}:tf P ops nx0 ids (some ⟨dst,op,ty,pos,aft,none⟩) K st=(qd nx0 ids st op/\eh P dst op K st):=rfl
theorem wG{nx0:Nat}{ids:List Nat}:tf P ops nx0 ids (some ⟨dst,op,ty,pos,aft,some (j,want)⟩) K st=my ((ops[j]?).bind (·.dst)) want (Ds P nx0 ids ⟨dst,op,ty,pos,aft,some (j,want)⟩ K) (j8 dst K) st:=rfl
theorem FS0{ids:List Nat}:BR P ids ⟨dst,op,ty,pos,aft,gd⟩ K st=(pF ids st op/\eh P dst op K st):=rfl
theorem wv{t:TypeId}{parts:List (Nat×Operand)}:eh P dst (.build t parts.toArray) K st=ml P t st parts dst K:=by simp[eh]
theorem Bd{x:Operand}:eh P dst (.move x) K st=cj P st.tab (bb st) (.move x) (aK st dst K):=rfl
theorem yp{c x y:Operand}:eh P dst (.pick c x y) K st=cj P st.tab (bb st) (.pick c x y) (aK st dst K):=rfl
theorem yy{t:TypeId}{x:Operand}:eh P dst (.load t x) K st=cj P st.tab (bb st) (.load t x) (aK st dst K):=rfl
theorem xb{s:TypeId}{x:Operand}{f:Nat}:eh P dst (.fieldAddr s x f) K st=cj P st.tab (bb st) (.fieldAddr s x f) (aK st dst K):=rfl
theorem xX{t:TypeId}{x y:Operand}:eh P dst (.indexAddr t x y) K st=cj P st.tab (bb st) (.indexAddr t x y) (aK st dst K):=rfl
theorem Bu{o:BinOp}{t r:TypeId}{x y:Operand}:eh P dst (.binOp o t x y r) K st=cj P st.tab (bb st) (.binOp o t x y r) (aK st dst K):=rfl
theorem Fj{o:UnOp}{t:TypeId}{x:Operand}:eh P dst (.unOp o t x) K st=cj P st.tab (bb st) (.unOp o t x) (aK st dst K):=rfl
theorem rS{x:Operand}{i:Nat}:eh P dst (.extract x i) K st=cj P st.tab (bb st) (.extract x i) (aK st dst K):=rfl
theorem yY{c:Call}:eh P dst (.call c) K st=cj P st.tab (bb st) (.call c) (aK st dst K):=rfl
theorem Gv{nx0:Nat}{ids:List Nat}:Ds P nx0 ids ⟨dst,op,ty,pos,aft,gd⟩ K st=(qd nx0 ids st op/\eh P dst op K st):=rfl
theorem E4{nx0:Nat}{ids:List Nat}:dC P ops nx0 ids (some ⟨dst,op,ty,pos,aft,none⟩) K st=iZ P nx0 ids ⟨dst,op,ty,pos,aft,none⟩ K st:=rfl
def K9(P:Program)(nx0:Nat)(ids:List Nat)(o:Oper)(K:aj->Prop)(st:aj):Prop:=iZ P nx0 ids o K st
theorem FZ{nx0:Nat}{ids:List Nat}{o:Oper}:K9 P nx0 ids o K st=iZ P nx0 ids o K st:=rfl
theorem wy{nx0:Nat}{ids:List Nat}:dC P ops nx0 ids (some ⟨dst,op,ty,pos,aft,some (j,want)⟩) K st=my ((ops[j]?).bind (·.dst)) want (K9 P nx0 ids ⟨dst,op,ty,pos,aft,some (j,want)⟩ K) (j8 dst K) st:=rfl
theorem ws{nx0:Nat}{ids:List Nat}{x:Operand}:iZ P nx0 ids ⟨dst,.assign x,ty,pos,aft,gd⟩ K st=K (st.put dst (bb st x)):=rfl
def Cz(P:Program)(nx0:Nat)(ids:List Nat)(t:TypeId)(p x:AV)(dst:Option Nat)(K:aj->Prop)(st:aj):Prop:=
 match p with
 | .op id i j=>pA nx0 ids id/\n4 P t st id i j x (PE dst K)
 | _=>False
theorem CD{nx0:Nat}{ids:List Nat}{t:TypeId}{x:Operand}:iZ P nx0 ids ⟨dst,.load t x,ty,pos,aft,gd⟩ K st=kC P t st.tab (bb st x) (aK st dst K):=rfl
def KG(P:Program)(nx0:Nat)(ids:List Nat)(t:TypeId)(m k v:AV)(dst:Option Nat)(K:aj->Prop)(st:aj):Prop:=
 match m with
 | .osl id=>pA nx0 ids id/\kX P t st (.osl id) k v (PE dst K)
 | _=>False
theorem AW{nx0:Nat}{ids:List Nat}{t:TypeId}{p x:Operand}:iZ P nx0 ids ⟨dst,.store t p x,ty,pos,aft,gd⟩ K st=Cz P nx0 ids t (bb st p) (bb st x) dst K st:=rfl
theorem Ay{nx0:Nat}{ids:List Nat}{t:TypeId}:iZ P nx0 ids ⟨dst,.alloc t,ty,pos,aft,gd⟩ K st=match bQ P t with|some z=>AG t st (.c z) dst K|none=>False:=rfl
theorem w8{nx0:Nat}{ids:List Nat}{x y:Operand}{t t':TypeId}:iZ P nx0 ids ⟨dst,.call ⟨.builtin .append,#[x,y],#[t,t']⟩,ty,pos,aft,gd⟩ K st=((t=t' /\ x9 nx0 ids (bb st x))/\gC P t st (bb st x) (bb st y) dst K):=rfl
theorem C8{nx0:Nat}{ids:List Nat}{f:Operand}{args:List Operand}{ts:Array TypeId}:iZ P nx0 ids ⟨dst,.call ⟨.value f,args.toArray,ts⟩,ty,pos,aft,gd⟩ K st=H5 (bb st f) (DB P nx0 ids st args dst K):=by simp[iZ]
theorem qW{nx0:Nat}{ids:List Nat}{t:TypeId}{l c:Operand}:iZ P nx0 ids ⟨dst,.makeSlice t l c,ty,pos,aft,gd⟩ K st=qv P t st (bb st l) (bb st c) dst K:=rfl
theorem pW{nx0:Nat}{ids:List Nat}{t:TypeId}{n:Nat}{parts:List (Nat×Operand)}:iZ P nx0 ids ⟨dst,.buildSlice t n parts.toArray,ty,pos,aft,gd⟩ K st=eL P t n parts st dst K:=by simp[iZ]
theorem Ca{k:AV->Prop}{tab:ae}{ev:Operand->AV}{x:Operand}:cj P tab ev (.move x) k=k (ev x):=rfl
theorem C3{k:AV->Prop}{tab:ae}{ev:Operand->AV}{t:TypeId}{x:Operand}:cj P tab ev (.load t x) k=kC P t tab (ev x) k:=rfl
theorem zd{k:AV->Prop}{tab:ae}{ev:Operand->AV}{t:TypeId}{x:Operand}{f:Nat}:cj P tab ev (.fieldAddr t x f) k=nw P t tab (ev x) f k:=rfl
theorem yx{k:AV->Prop}{tab:ae}{ev:Operand->AV}{t:TypeId}{x i:Operand}:cj P tab ev (.indexAddr t x i) k=ju P t tab (ev x) (ev i) k:=rfl
theorem G2{k:AV->Prop}{tab:ae}{ev:Operand->AV}{o:BinOp}{t t2:TypeId}{x y:Operand}:cj P tab ev (.binOp o t x y t2) k=ww P o t (ev x) (ev y) k:=rfl
theorem Ko{k:AV->Prop}{tab:ae}{ev:Operand->AV}{o:UnOp}{t:TypeId}{x:Operand}:cj P tab ev (.unOp o t x) k=So o (ev x) k:=rfl
theorem ul{k:AV->Prop}{tab:ae}{ev:Operand->AV}{x:Operand}{i:Nat}:cj P tab ev (.extract x i) k=ko (ev x) i k:=rfl
theorem G5{k:AV->Prop}{tab:ae}{ev:Operand->AV}{x:Operand}{t:TypeId}:cj P tab ev (.call ⟨.builtin .len,#[x],#[t]⟩) k=r3 P t tab (ev x) k:=rfl
theorem FV:kP P ops K [] st=K st:=rfl
theorem zP:kP P ops K (⟨dst,op,ty,pos,aft,none⟩ :: rest) st=m6 P ⟨dst,op,ty,pos,aft,none⟩ (kP P ops K rest) st:=rfl
theorem Ba:kP P ops K (⟨dst,op,ty,pos,aft,some (j,want)⟩ :: rest) st=my ((ops[j]?).bind (·.dst)) want (m6 P ⟨dst,op,ty,pos,aft,some (j,want)⟩ (kP P ops K rest)) (j8 dst (kP P ops K rest)) st:=rfl
def wX(c a b:AV)(dst:Option Nat)(K:aj->Prop)(st:aj):Prop:=Lj c a b (aK st dst K)
def FO(t:Bool)(a b:AV)(dst:Option Nat)(K:aj->Prop)(st:aj):Prop:=match t with|true=>K (st.put dst a)|false=>K (st.put dst b)
theorem Gh{a b:AV}:FO true a b dst K st=K (st.put dst a):=rfl
theorem DD{a b:AV}:FO false a b dst K st=K (st.put dst b):=rfl
theorem Cw{t:Bool}{a b:AV}(h1:t=true->FO true a b dst K st)(h2:t=false->FO false a b dst K st):FO t a b dst K st:=by
 cases t
 .exact h2 rfl
 .exact h1 rfl
theorem yJ{t:Bool}{a b:AV}:wX (.c (.bool t)) a b dst K st=FO t a b dst K st:=by cases t<;>rfl
theorem Cc{tab:ae}{ev:Operand->AV}{dst:Option Nat}{x y z:Operand}:cj P tab ev (.pick x y z) (aK st dst K)=wX (ev x) (ev y) (ev z) dst K st:=rfl
theorem JX{x:Operand}:je P ⟨dst,.move x,ty,pos,aft,gd⟩ K st=K (st.put dst (bb st x)):=rfl
theorem Ck{x:Operand}:je P ⟨dst,.assign x,ty,pos,aft,gd⟩ K st=K (st.put dst (bb st x)):=rfl
theorem KE{c x y:Operand}:je P ⟨dst,.pick c x y,ty,pos,aft,gd⟩ K st=wX (bb st c) (bb st x) (bb st y) dst K st:=rfl
theorem Mc{t:TypeId}{x:Operand}:je P ⟨dst,.load t x,ty,pos,aft,gd⟩ K st=kC P t st.tab (bb st x) (aK st dst K):=rfl
theorem GD{t:TypeId}{x:Operand}{f:Nat}:je P ⟨dst,.fieldAddr t x f,ty,pos,aft,gd⟩ K st=nw P t st.tab (bb st x) f (aK st dst K):=rfl
theorem Hv{t:TypeId}{x i:Operand}:je P ⟨dst,.indexAddr t x i,ty,pos,aft,gd⟩ K st=ju P t st.tab (bb st x) (bb st i) (aK st dst K):=rfl
theorem O2{o:BinOp}{t t2:TypeId}{x y:Operand}:je P ⟨dst,.binOp o t x y t2,ty,pos,aft,gd⟩ K st=ww P o t (bb st x) (bb st y) (aK st dst K):=rfl
theorem BN{x:Operand}:je P ⟨dst,.nilCheck x,ty,pos,aft,gd⟩ K st=Cb st.tab (bb st x) (aK st dst K):=rfl
theorem Qk{o:UnOp}{t:TypeId}{x:Operand}:je P ⟨dst,.unOp o t x,ty,pos,aft,gd⟩ K st=So o (bb st x) (aK st dst K):=rfl
theorem y7{x:Operand}{i:Nat}:je P ⟨dst,.extract x i,ty,pos,aft,gd⟩ K st=ko (bb st x) i (aK st dst K):=rfl
theorem Jy{s d:TypeId}{x:Operand}:je P ⟨dst,.convert s d x,ty,pos,aft,gd⟩ K st=DY P s d (bb st x) (aK st dst K):=rfl
theorem Pk{x y:Operand}{t t':TypeId}:je P ⟨dst,.call ⟨.builtin .max,#[x,y],#[t,t']⟩,ty,pos,aft,gd⟩ K st=Pz (fun a b=>max a b) [bb st x,bb st y] (aK st dst K):=rfl
theorem OI{x y:Operand}{t t':TypeId}:je P ⟨dst,.call ⟨.builtin .min,#[x,y],#[t,t']⟩,ty,pos,aft,gd⟩ K st=Pz (fun a b=>min a b) [bb st x,bb st y] (aK st dst K):=rfl
theorem Pd{x:Operand}{t:TypeId}:je P ⟨dst,.call ⟨.builtin .len,#[x],#[t]⟩,ty,pos,aft,gd⟩ K st=(uU P t st.tab (bb st x) (aK st dst K)\/r3 P t st.tab (bb st x) (aK st dst K)):=rfl
theorem CS{x y:Operand}{t t':TypeId}:je P ⟨dst,.call ⟨.builtin .append,#[x,y],#[t,t']⟩,ty,pos,aft,gd⟩ K st=(t=t' /\ gC P t st (bb st x) (bb st y) dst K):=rfl
theorem un{g:FuncId}{x:Operand}:je P ⟨dst,.makeFunc (.func g) [x].toArray #[],ty,pos,aft,gd⟩ K st=aK st dst K (.bfn g [bb st x]):=by simp[je,cj,O8,DQ]
theorem xC{g:FuncId}{caps:List Operand}:je P ⟨dst,.makeFunc (.func g) #[] caps.toArray,ty,pos,aft,gd⟩ K st=aK st dst K (.fn g (caps.map (bb st))):=by simp[je,cj,O8,DQ]
theorem Jr{f:Operand}{args:List Operand}{ts:Array TypeId}:je P ⟨dst,.call ⟨.value f,args.toArray,ts⟩,ty,pos,aft,gd⟩ K st=zc (bb st f) (xN P st args dst K) (wj P st args dst K):=by simp[je]
theorem O6{t:TypeId}{x:Operand}:je P ⟨dst,.box t x,ty,pos,aft,gd⟩ K st=AG t st (bb st x) dst K:=rfl
theorem F9{t:TypeId}:je P ⟨dst,.alloc t,ty,pos,aft,gd⟩ K st=match bQ P t with|some z=>AG t st (.c z) dst K|none=>False:=rfl
theorem EX{t:TypeId}{p x:Operand}:je P ⟨dst,.store t p x,ty,pos,aft,gd⟩ K st=pL P t st (bb st p) (bb st x) (PE dst K):=rfl
theorem rY{t:TypeId}{n:Nat}{parts:List (Nat×Operand)}:je P ⟨dst,.buildSlice t n parts.toArray,ty,pos,aft,gd⟩ K st=eL P t n parts st dst K:=by simp[je]
theorem uh{t:TypeId}{l c:Operand}:je P ⟨dst,.makeSlice t l c,ty,pos,aft,gd⟩ K st=qv P t st (bb st l) (bb st c) dst K:=rfl
theorem GV{t:TypeId}{x:Operand}{lo hi mx:Option Operand}:je P ⟨dst,.slice t x lo hi mx,ty,pos,aft,gd⟩ K st=jK P t st (bb st x) (lo.map (bb st)) (hi.map (bb st)) (mx.map (bb st)) dst K:=rfl
theorem yN{tab:ae}{ev:Operand->AV}{t:TypeId}{x:Operand}{lo hi mx:Option Operand}{k:AV->Prop}:cj P tab ev (.slice t x lo hi mx) k=mc P t (ev x) (lo.map ev) (hi.map ev) (mx.map ev) k:=rfl
theorem wz{t:TypeId}{x:Operand}{lo hi mx:Option Operand}:eh P dst (.slice t x lo hi mx) K st=cj P st.tab (bb st) (.slice t x lo hi mx) (aK st dst K):=rfl
theorem G7{t:TypeId}{parts:List (Nat×Operand)}:je P ⟨dst,.build t parts.toArray,ty,pos,aft,gd⟩ K st=ml P t st parts dst K:=by simp[je]
theorem FL{x:Operand}:m6 P ⟨dst,.move x,ty,pos,aft,gd⟩ K st=K (st.put dst (bb st x)):=rfl
theorem zA{x:Operand}:m6 P ⟨dst,.assign x,ty,pos,aft,gd⟩ K st=K (st.put dst (bb st x)):=rfl
theorem EZ{c x y:Operand}:m6 P ⟨dst,.pick c x y,ty,pos,aft,gd⟩ K st=wX (bb st c) (bb st x) (bb st y) dst K st:=rfl
theorem F2{t:TypeId}{x:Operand}:m6 P ⟨dst,.load t x,ty,pos,aft,gd⟩ K st=kC P t st.tab (bb st x) (aK st dst K):=rfl
theorem B4{t:TypeId}{x:Operand}{f:Nat}:m6 P ⟨dst,.fieldAddr t x f,ty,pos,aft,gd⟩ K st=nw P t st.tab (bb st x) f (aK st dst K):=rfl
theorem BT{t:TypeId}{x i:Operand}:m6 P ⟨dst,.indexAddr t x i,ty,pos,aft,gd⟩ K st=ju P t st.tab (bb st x) (bb st i) (aK st dst K):=rfl
theorem Ji{o:BinOp}{t t2:TypeId}{x y:Operand}:m6 P ⟨dst,.binOp o t x y t2,ty,pos,aft,gd⟩ K st=ww P o t (bb st x) (bb st y) (aK st dst K):=rfl
theorem zG{x:Operand}:m6 P ⟨dst,.nilCheck x,ty,pos,aft,gd⟩ K st=Cb st.tab (bb st x) (aK st dst K):=rfl
theorem MI{o:UnOp}{t:TypeId}{x:Operand}:m6 P ⟨dst,.unOp o t x,ty,pos,aft,gd⟩ K st=So o (bb st x) (aK st dst K):=rfl
theorem Kk{x:Operand}{t:TypeId}:m6 P ⟨dst,.call ⟨.builtin .len,#[x],#[t]⟩,ty,pos,aft,gd⟩ K st=r3 P t st.tab (bb st x) (aK st dst K):=rfl
theorem HK{f:Operand}{args:List Operand}{ts:Array TypeId}:m6 P ⟨dst,.call ⟨.value f,args.toArray,ts⟩,ty,pos,aft,gd⟩ K st=H5 (bb st f) (CY P st args dst K):=by simp[m6]
end
end
section
variable {P:Program} {cx:Cx} {a:Act} {w w':World} {tab:ae} {st:aj} {L:Nat->Value} {nx:Nat}
abbrev IY(cx:Cx)(K:aj->Prop):Act->World->Prop:=fun a w=>∃st L,K st/\aH cx a w st L
theorem aU{o:Oper}{v:Value}{w':World}{K:Act->World->Prop}{Q:Exit->Act->World->Prop}(h:(execOp a.eval o).run P w=.ok (.value v) w')(hk:K (a.put o.dst v) w'):o.wp P a w K Q:=by
 unfold Oper.wp;rw[h];exact hk
theorem ff{o:Oper}{w':World}{K:Act->World->Prop}{Q:Exit->Act->World->Prop}(h:(execOp a.eval o).run P w=.ok .skip w')(hk:K (a.put o.dst undef) w'):o.wp P a w K Q:=by
 unfold Oper.wp;rw[h];exact hk
theorem rC{o:Oper}{K:aj->Prop}{Q:Exit->Act->World->Prop}(h:aH cx a w st L)(hp:cj P st.tab (bb st) o.op (aK st o.dst K)):o.wp P a w (IY cx K) Q:=by
 obtain⟨v,av,h1,h2,h3,h4,_⟩:=li h.lay (fun id o hid=>(h.young id o hid).2) (ak h) hp;exact aU (h4 w (Below.refl _ _)) ⟨_,L,h1,bh h h2 h3 o.dst⟩
theorem rr{f:AV}{K:FuncId->List AV->Prop}{v:Value}(hv:bL cx w tab L v f)(hl:f.lt nx)(h:H5 f K):∃g xs cs,v=.func (.func g) #[] xs/\xs.size=cs.length/\(∀(j:Nat)(x:Value)(av:AV),xs[j]? = some x->cs[j]? = some av->bL cx w tab L x av)/\K g cs/\∀av∈cs,av.lt nx:=by
 unfold H5 at h;split at h
 .rename_i g first caps
  obtain⟨⟨rfl,rfl⟩,h⟩:=h;exact⟨g,#[],[],hv.c_inv,rfl,fun j x av h1 _=>by simp at h1,h,by simp⟩
 .rename_i g cs;obtain⟨xs,h1,h2,h3⟩:=hv.fn_inv;exact⟨g,xs,cs,h1,h2,h3,h,ah.1 hl⟩
 .exact h.elim
theorem JP(h:aH cx a w st L){args:Array Operand}{xs:Array Value}{cs:List AV}(hn:xs.size=cs.length)(hx:∀(j:Nat)(x:Value)(av:AV),xs[j]? = some x->cs[j]? = some av->bL cx w st.tab L x av) :
  (xs ++ args.map a.eval).size=(cs ++ args.toList.map (bb st)).length/\∀(j:Nat)(v:Value)(av:AV),(xs ++ args.map a.eval)[j]? = some v->(cs ++ args.toList.map (bb st))[j]? = some av->bL cx w st.tab L v av:=by
 refine⟨by simp[hn],fun j v av h1 h2=>?_⟩;by_cases hj:j<xs.size
 .rw [VQ hj] at h1;rw[Vq (by omega)] at h2;exact hx j v av h1 h2
 .rw [Array.getElem?_append_right (by omega)] at h1;rw[Vu (by omega),<- hn] at h2;rw[Xs] at h1;rw[UV,V0] at h2
  cases hk:args[j-xs.size]? with
  | none=>simp[hk] at h1
  | some x=>
   simp[hk] at h1 h2;subst h1;subst h2;exact(ak h x).1
theorem rh(h:aH cx a w st L){args:Array Operand}{xs:Array Value}{cs:List AV}(hn:xs.size=cs.length)(hx:∀(j:Nat)(x:Value)(av:AV),xs[j]? = some x->cs[j]? = some av->bL cx w st.tab L x av) :
  (args.map a.eval ++ xs).size=(args.toList.map (bb st) ++ cs).length/\∀(j:Nat)(v:Value)(av:AV),(args.map a.eval ++ xs)[j]? = some v->(args.toList.map (bb st) ++ cs)[j]? = some av->bL cx w st.tab L v av:=by
 refine⟨by simp[hn],fun j v av h1 h2=>?_⟩;by_cases hj:j<args.size
 .rw [VQ (by simpa using hj),Xs,UT hj] at h1;rw[Vq (by simpa using hj),UV,V0,UT hj] at h2;simp at h1 h2;subst h1;subst h2;exact(ak h _).1
 .rw [Array.getElem?_append_right (by simpa using hj)] at h1;rw[Vu (by simpa using hj)] at h2;simp at h1 h2;exact hx _ v av h1 h2
theorem y3(h:aH cx a w st L){f:Operand}{args:Array Operand}{dst:Option Nat}{K:aj->Prop}(hp:zc (bb st f) (xN P st args.toList dst K) (wj P st args.toList dst K)) :
  ∃(g:FuncId)(zs:Array Value)(avs:List AV),(fy P g->∀(o:Oper)(ts:Array TypeId),o.op=.call ⟨.value f,args,ts⟩->(execOp a.eval o).run P w=.ok (.enter g zs) w)/\zs.size=avs.length /\
   (∀(j:Nat)(v:Value)(av:AV),zs[j]? = some v->avs[j]? = some av->bL cx w st.tab L v av/\av.lt st.next)/\gb none P st g avs (uj dst K):=by
 unfold zc at hp;split at hp
 .rename_i g bs hf;have hv:=(ak h f).1;have hl:=(ak h f).2;rw[hf] at hv hl;obtain⟨xs,hg,hxn,hxr⟩:=hv.bfn_inv;have hargs:=JP h (args:=args) hxn hxr;refine⟨g,xs ++ args.map a.eval,bs ++ args.toList.map (bb st),fun hent o ts ho=>?_,hargs.1,fun j v av h1 h2=>⟨hargs.2 j v av h1 h2,?_⟩,hp⟩
  .have:=hent (xs ++ args.map a.eval) w;simp[execOp,ho,Sem.run_bind,resolve,hg,Deferred.ofValue,invoke,this]
  .rcases U4.1 (r2 h2) with h3|h3
   .exact ah.1 hl av h3
   .obtain ⟨x,_,rfl⟩:=U3.1 h3;exact(ak h x).2
 .obtain ⟨g,xs,cs,hg,hxn,hxr,hp,hcs⟩:=rr (ak h f).1 (ak h f).2 hp;have hargs:=rh h (args:=args) hxn hxr;refine⟨g,args.map a.eval ++ xs,args.toList.map (bb st) ++ cs,fun hent o ts ho=>?_,hargs.1,fun j v av h1 h2=>⟨hargs.2 j v av h1 h2,?_⟩,hp⟩
  .have:=hent (args.map a.eval ++ xs) w;simp[execOp,ho,Sem.run_bind,resolve,hg,Deferred.ofValue,invoke,this]
  .rcases U4.1 (r2 h2) with h3|h3
   .obtain ⟨x,_,rfl⟩:=U3.1 h3;exact(ak h x).2
   .exact hcs av h3
theorem mg{t:TypeId}{parts:Array (Nat×Operand)}{dst:Option Nat}{K:aj->Prop}(h:aH cx a w st L)(hp:ml P t st parts.toList dst K):∃v,∃cs,bL cx w st.tab L v (.agg cs)/\(AV.agg cs).lt st.next/\(∀w',(Instr.build t (parts.map fun(p:Nat×Operand)=>(p.1,a.eval p.2))).run P w'=.ok v w')/\K (st.put dst (.agg cs)):=by
 unfold ml at hp;split at hp
 .rename_i places zs ht;split at hp
  .rename_i cs hf;obtain⟨h1,h2⟩:=hp;obtain⟨v,h3,h4,h5⟩:=LO h ht hf h1;exact⟨v,cs,h3,h4,by simpa using h5,h2⟩
  .exact hp.elim
 .exact hp.elim
theorem E6{t:TypeId}{x:Operand}{lo hi mx:Option Operand}{K:aj->Prop}{Q:Exit->Act->World->Prop}{ty:TypeId}{dst:Option Nat}{pos:String}{aft:Array Edge}{gd:Option (Nat×Bool)}(h:aH cx a w st L)
  (hp:jK P t st (bb st x) (lo.map (bb st)) (hi.map (bb st)) (mx.map (bb st)) dst K):Oper.wp (P:=P) ⟨dst,.slice t x lo hi mx,ty,pos,aft,gd⟩ a w (IY cx K) Q:=by
 unfold jK at hp;split at hp
 .rename_i id hx;have hv:=(ak h x).1;rw[hx] at hv;split at hp
  .rename_i e sz rows hid;unfold oK at hp;split at hp
   .rename_i l h' hl hh;obtain⟨⟨h1,h2⟩,⟨rfl,h4,h5,h6⟩,h7⟩:=hp;obtain⟨hu,hsz⟩:=jv (P:=P) (t:=t) (by omega);have hvL:=hv.osl_inv _ _ (cN hid);obtain⟨hrow,xs,hown,hone,hx'⟩:=h.lay.objs id _ hid;have hs:=dK (P:=P) (t:=(bA P t).1) (by omega) w;rw[hsz,h1] at hs
    have key:∀A cap,L id=.slice A rows.length cap->rows.length<=cap->∃m,h'.toNat<=m/\m<=cap/\(Instr.sliceBounds true rows.length cap (lo.map a.eval) (hi.map a.eval) (mx.map a.eval)).run P w=.ok (0,h'.toNat,m) w:=by
     intro A cap hL hc;have hlo:=qE (d:=0) (n:=0) (fun x=>(ak h x).1) hl (by omega) rfl;have hhi:=qE (d:=rows.length) (n:=h'.toNat) (fun x=>(ak h x).1) hh (by omega) rfl
     cases mx with
     | none=>exact⟨cap,by omega,UU _,gX hlo hhi (.inl ⟨rfl,rfl⟩) (by omega) (by omega)⟩
     | some q=>
      have hq:=(ak h q).1;simp only[Vz] at h6 ⊢;unfold Gy at h6;split at h6
      .rename_i hq';cases hq'
      .rename_i k m hq'
       injection hq' with hq'
       rw[hq'] at hq;obtain⟨rfl,hb⟩:=h6;refine⟨m.toNat,UU _,by omega,gX hlo hhi (.inr ⟨rfl,⟨k,by rw[hq.c_inv,Int.toNat_of_nonneg h4]⟩,fun hn=>?_⟩) (by omega) (by omega)⟩
       cases hi with
       | none=>simp at hb
       | some _=>cases hn
      .exact h6.elim
    rcases hown.2 with ⟨hL,h0⟩|⟨g,cap,cur,hL,hb,hh',hc,hm,hcs,htake⟩
    .obtain ⟨m,hm1,hm2,hr⟩:=key none 0 (by rw[hL,h0]) (by omega);have hm0:m=0:=(by omega);have hn0:h'.toNat=0:=(by omega);refine aU (v:=.slice none 0 0) ?_ ⟨_,_,h7,kW (n:=h'.toNat) h hid (by omega) (.inl ⟨hL,rfl⟩) dst⟩;rw[h0] at hr;simp[execOp,Sem.run_bind,hvL,hL,Instr.sliceAt,Instr.slice,run_underlying hu,hr,hs,hm0,hn0]
    .obtain ⟨m,hm1,hm2,hr⟩:=key _ cap hL hc;refine aU (v:=.slice (some ⟨g,0,none⟩) h'.toNat m) ?_ ⟨_,_,h7,kW (n:=h'.toNat) h hid (by omega) (.inr ⟨g,cap,m,hL,rfl,hm1,hm2⟩) dst⟩;simp[execOp,Sem.run_bind,hvL,hL,Instr.sliceAt,Instr.slice,run_underlying hu,hr,hs,Addr.add_lit]
   .exact hp.elim
  .exact hp.elim
 .exact rC (o:=⟨dst,.slice t x lo hi mx,ty,pos,aft,gd⟩) h (by exact hp)
theorem TM{o:Oper}{K:aj->Prop}{Q:Exit->Act->World->Prop}(h:aH cx a w st L)(hp:je P o K st):o.wp P a w (IY cx K) Q:=by
 obtain⟨dst,op,ty,pos,aft,gd⟩:=o;unfold je at hp;simp only at hp;split at hp
 .rename_i t x;obtain⟨h1,h2⟩:=hp;have he:=ak h x;obtain⟨h3,h4⟩:=pB (P:=P) (t:=t) h he.1 he.2 h1 dst;exact aU (by simp[execOp,Sem.run_bind,h3]) ⟨_,_,h2,h4⟩
 .rename_i t;split at hp
  .rename_i z hz;obtain⟨h1,h2⟩:=hp;obtain⟨h3,h4⟩:=pB (P:=P) (t:=t) (av:=.c z) h (.tree (.c z)) trivial h1 dst;exact aU (by simp[execOp,Sem.run_bind,pN hz,h3]) ⟨_,_,h2,h4⟩
  .exact hp.elim
 .rename_i t p x;unfold pL at hp;split at hp
  .rename_i id i j hpe;split at hp
   .rename_i ty cells hid;obtain⟨rfl,h0,h1,h2,h3,h4⟩:=hp;have hpv:=(ak h p).1;rw[hpe] at hpv;have hx:=ak h x;obtain⟨w',h5,h6,_⟩:=kY h hpv hid hx.1 hx.2 h0 h1 h2 h3 dst;exact ff (by simp[execOp,Sem.run_bind,h5]) ⟨_,_,h4,h6⟩
   .rename_i e sz rows hid;obtain⟨hi,h0,h1,h2,h3,h3',h4⟩:=hp;have hpv:=(ak h p).1;rw[hpe] at hpv;have hx:=ak h x;obtain⟨w',h5,h6,_⟩:=kU h hpv hid hx.1 hx.2 hi h0 h1 h2 h3 h3' dst;exact ff (by simp[execOp,Sem.run_bind,h5]) ⟨_,_,h4,h6⟩
   .rename_i e sz rows hid;obtain⟨hi,h0,h1,h2,h3,h4⟩:=hp;have hpv:=(ak h p).1;rw[hpe] at hpv;have hx:=ak h x;obtain⟨w',h5,h6,_⟩:=jT h hpv hid hx.1 hx.2 hi h0 h1 h2 h3 dst;exact ff (by simp[execOp,Sem.run_bind,h5]) ⟨_,_,h4,h6⟩
   .exact hp.elim
  .exact hp.elim
 .rename_i t n parts;unfold eL at hp
  replace h:=f9 (gN (parts.toList.flatMap fun(p:Nat×Operand)=>ap (bb st p.2))) h
  unfold gA at hp;split at hp
  .rename_i e sz by_ ht;split at hp
   .obtain ⟨⟨h1,rfl,h3,h5⟩,h6⟩:=hp;obtain⟨v',w',L',h7,h8,_⟩:=jR h ht h1 h3 h5 dst;refine aU ?_ ⟨_,_,h6,h8⟩;simp only[WV] at h7;simp[execOp,Sem.run_bind];simp at h7;simp[h7]
   .obtain ⟨⟨h1,rfl,h3,h5⟩,h6⟩:=hp;obtain⟨v',w',L',h7,h8,_⟩:=po h ht h1 h3 h5 dst;refine aU ?_ ⟨_,_,h6,h8⟩;simp only[WV] at h7;simp[execOp,Sem.run_bind];simp at h7;simp[h7]
  .exact hp.elim
 .rename_i t l c;unfold qv at hp;split at hp
  .rename_i e sz by_ k1 n k2 m ht hl hc;split at hp
   .rename_i z hz;obtain⟨⟨rfl,h1,h2,h3,h4⟩,h5⟩:=hp;have hl':=(ak h l).1;have hc':=(ak h c).1;rw[hl] at hl';rw[hc] at hc';obtain⟨v',w',L',h6,h7,_⟩:=xj (k1:=k1) (k2:=k2) h ht hz h1 h2 h3 h4 dst;exact aU (by simp[execOp,Sem.run_bind,hl'.c_inv,hc'.c_inv,h6]) ⟨_,_,h5,h7⟩
   .exact hp.elim
  .exact hp.elim
 .rename_i t parts;obtain⟨v,cs,h1,h2,h3,h4⟩:=mg h hp;refine aU ?_ ⟨_,_,h4,bh h h1 h2 dst⟩;simp[execOp,Sem.run_bind,h3 w]
 .rename_i t x lo hi mx;exact E6 h hp
 .rename_i t r;obtain⟨hr,hp⟩:=hp
  cases r with
  | some r=>cases hr
  | none=>
   obtain⟨h1,h2⟩:=tV (P:=P) (t:=t) h dst;exact aU (by simp[execOp,Sem.run_bind,h1]) ⟨_,_,hp,h2⟩
 .rename_i t m k ok;obtain⟨r,av,h1,h2,h3,h4⟩:=pO (nx:=st.next) h.lay (ak h m).1 (ak h k).1 hp;exact aU (by simp[execOp,Sem.run_bind,h4]) ⟨_,_,h1,bh h h2 h3 dst⟩
 .rename_i t m k v;obtain⟨w',st',h1,h2,h3,_⟩:=pm h (ak h m).1 (ak h k).1 (ak h v).1 dst hp;exact ff (by simp[execOp,Sem.run_bind,h1]) ⟨_,_,h2,h3⟩
 .rename_i c;obtain⟨callee,args,argTypes⟩:=c;simp only at hp;split at hp
  .split at hp
   .rename_i x y t t' h1 h2;obtain rfl:args = #[x,y]:=by cases args;simp_all
    obtain rfl:argTypes = #[t,t']:=by cases argTypes;simp_all
    obtain⟨rfl,hp⟩:=hp;unfold gC at hp;split at hp
    .rename_i hnn;obtain⟨e1,e2⟩:=nL hnn;have hx1:=(ak h x).1;have hy1:=(ak h y).1;rw[e1] at hx1;rw[e2] at hy1;have hx2:=hx1.c_inv;have hy2:=hy1.c_inv;have hr:=jm (ty:=ty) (w:=w) hp.1;exact aU (by simp[execOp,Sem.run_bind,resolve,invoke,builtin,hx2,hy2,hr]) ⟨_,_,hp.2,bh h (.tree (.c _)) trivial dst⟩
    unfold iL at hp;split at hp
    .rename_i e sz by_ ht;split at hp
     .rename_i oid rows rows2 hx hy;obtain⟨⟨h3,h4⟩,h5⟩:=hp;obtain⟨v',w',L',h6,h7,_⟩:=pT (ty:=ty) h (ak h x).1 (ak h y).1 ht hx hy (by simpa[maxLen] using h3) h4 dst;exact aU (by simp[execOp,Sem.run_bind,resolve,invoke,builtin,h6]) ⟨_,_,h5,h7⟩
     .split at hp
      .rename_i oid rows rows2 hx hy;obtain⟨⟨h3,h4⟩,h5⟩:=hp;obtain⟨v',w',L',h6,h7,_⟩:=nr (ty:=ty) h (ak h x).1 (ak h y).1 ht hx hy (by simpa[maxLen] using h3) h4 dst;exact aU (by simp[execOp,Sem.run_bind,resolve,invoke,builtin,h6]) ⟨_,_,h5,h7⟩
      .exact hp.elim
    .exact hp.elim
   .exact hp.elim
  .unfold wu at hp;split at hp
   .rename_i x t h1 h2;obtain rfl:args = #[x]:=by cases args;simp_all
    obtain rfl:argTypes = #[t]:=by cases argTypes;simp_all
    obtain⟨w',st',h3,h4,h5,_⟩:=zW (ty:=ty) h (ak h x).1 dst hp;exact aU (by simp[execOp,Sem.run_bind,resolve,invoke,builtin,h3]) ⟨_,_,h4,h5⟩
   .exact hp.elim
  .rcases hp with hp|hp
   .unfold B7 at hp;split at hp
    .rename_i x t h1 h2;obtain rfl:args = #[x]:=by cases args;simp_all
     obtain rfl:argTypes = #[t]:=by cases argTypes;simp_all
     obtain⟨r,av,h3,h4,h5,h6⟩:=DM (ty:=ty) (nx:=st.next) h.lay (ak h x).1 hp;exact aU (by simp[execOp,Sem.run_bind,resolve,invoke,builtin,h6]) ⟨_,_,h3,bh h h4 h5 dst⟩
    .exact hp.elim
   .exact rC h hp
  .rename_i f;obtain⟨g,zs,avs,hrun0,hsz,hlt,hp⟩:=y3 h hp;by_cases hmeth:Ad none P st g avs (uj dst K)
   .obtain ⟨hent,ids0,_,hc⟩:=xM h hsz (fun j v av h1 h2=>(hlt j v av h1 h2).1) hmeth dst;unfold Oper.wp;rw[hrun0 hent _ argTypes rfl];show Calls P g zs w _;refine hc.mono ?_;rintro e w' ⟨v,av,st',L',rfl,h1,h2,h3,_⟩;exact⟨_,_,h1,h2⟩
   replace hp:pZ P st g avs (uj dst K)\/(none=(none:Option (Nat×List Nat))/\(Eo P st g avs (uj dst K)\/Da P st g avs (uj dst K))):=by
    rcases hp with hp|hp|hp
    .exact .inl hp
    .exact .inr hp
    .exact absurd hp hmeth
   have hent:fy P g:=by
    rcases hp with (⟨R,hd,_⟩|⟨hd,_⟩)|⟨_,(⟨_,_,_,_,_,_,_,_,hd,_⟩|⟨_,_,_,_,_,_,_,_,_,hd,_⟩|⟨hd,_⟩)|⟨_,(⟨R,hd,_⟩|⟨hd,_⟩)⟩⟩
    .exact hd.1
    .exact hd
    .exact hd.1
    .exact hd.1
    .exact hd
    .exact hd.1
    .exact hd
   unfold Oper.wp;rw[hrun0 hent _ argTypes rfl];show Calls P g zs w _;have hargs:zs.size=avs.length/\∀(j:Nat)(v:Value)(av:AV),zs[j]? = some v->avs[j]? = some av->bL cx w st.tab L v av:=⟨hsz,fun j v av h1 h2=>(hlt j v av h1 h2).1⟩;rcases hp with hp|⟨_,hp|⟨ids,hp⟩⟩
   .refine (oT h hargs.1 hargs.2 hp dst).mono ?_;rintro e w' ⟨v,av,st',L',rfl,h1,h2,_⟩;exact⟨_,_,h1,h2⟩
   rotate_left
   .obtain ⟨h3,h4⟩:=mP ids h hlt;refine(oT (f9 ids h) (by rw[h3];exact hargs.1) (fun j v av h5 h6=>(h4 j v av h5 h6).1) hp dst).mono ?_;rintro e w' ⟨v,av,st',L',rfl,h1,h2,_⟩;exact⟨_,_,h1,h2⟩
   .refine (EG h hargs.1 hlt hp dst).mono ?_;rintro e w' ⟨v,av,st',L',rfl,h1,h2,_⟩;exact⟨_,_,h1,h2⟩
  .exact rC h hp
 .exact rC h hp
theorem cw{ops:Array Oper}{g:Option (Nat×Bool)}{yes no:aj->Prop}(h:aH cx a w st L)(hp:lq ops g yes no st)(o:Oper)(ho:o.guard=g) :
  (Region.wanted o (yielded ops a.tmps)=true/\∃st',yes st' /\ aH cx a w st' L/\st'.tab=st.tab/\st'.next=st.next)\/(Region.wanted o (yielded ops a.tmps)=false/\∃st',no st' /\ aH cx a w st' L/\st'.tab=st.tab/\st'.next=st.next):=by
 subst ho;unfold lq at hp;unfold Region.wanted;split at hp
 .rename_i hg;rw[hg];exact .inl ⟨rfl,st,hp,h,rfl,rfl⟩
 .rename_i j want hg;rw[hg];simp only;split at hp
  .rename_i d hd;split at hp
   .rename_i v hv;have hval:=(h.env d).1;rw[hv] at hval;have hval:=hval.c_inv
    have hy:yielded ops a.tmps j=yv v:=by
     unfold yielded;rw[hd];simp only[W8];rw[<- hval];rw[VG]
     cases ht:a.tmps[d]? with
     | none=>rfl
     | some u=>cases u<;>rfl
    rw[hy]
    have same:∀b,v=.bool b->aH cx a w (st.put (some d) (.c (.bool b))) L/\(st.put (some d) (.c (.bool b))).tab=st.tab/\(st.put (some d) (.c (.bool b))).next=st.next:=fun b hb=>by
     subst hb;have e1:(st.put (some d) (.c (.bool b))).tab=st.tab:=rfl;have e2:(st.put (some d) (.c (.bool b))).next=st.next:=rfl;have e3:(st.put (some d) (.c (.bool b))).n=st.n:=rfl;refine⟨⟨by rw[e1];exact h.lay,by rw[e3];exact h.size,by rw[e1];exact h.defers,by rw[e1,e2];exact h.young,fun t=>?_⟩,e1,e2⟩;rw[e1,e2,DK];simp only;split
     .rename_i ht;rw[ht.2,hval];exact⟨.tree (.c _),trivial⟩
     .exact h.env t
    split at hp
    .rename_i b hb
     have hvb:v=.bool b:=by
      cases v<;>simp[yv] at hb;rw[hb]
     by_cases hw:b=want
     .subst hw;have hp:yes (st.put (some d) (.c (.bool b))):=by cases b<;>exact hp
      exact .inl ⟨by simp[hb],_,hp,same _ hvb⟩
     .have hp:no (st.put (some d) (.c (.bool b))):=by cases b<;>cases want<;>first|exact hp|exact absurd rfl hw
      exact .inr ⟨by simp[hb,hw],_,hp,same _ hvb⟩
    .rename_i hb;exact .inr ⟨by simp[hb],st,hp,h,rfl,rfl⟩
   .exact hp.elim
  .exact hp.elim
theorem bZ(h:aH cx a w st L)(dst:Option Nat):aH cx (a.put dst undef) w (st.put dst (.c undef)) L:=bh h (.tree (.c _)) trivial dst
theorem wW{ops:Array Oper}{K:aj->Prop}{Q:Exit->Act->World->Prop}(hQ:∀a w st L,K st->aH cx a w st L->Q .normal a w):∀(l:List Oper)(a:Act)(w:World)(st:aj)(L:Nat->Value),aH cx a w st L->lD P ops K l st->wpList P ops Q l a w
 | [],a,w,st,L,h,hp=>hQ a w st L hp h
 | o :: rest,a,w,st,L,h,hp=>by
  unfold lD at hp;refine wpList_step fun K' hK'=>?_;rcases cw h hp o rfl with ⟨hw,st',h1,h2,_⟩|⟨hw,st',h1,h2,_⟩
  .rw [UZ hw];exact Oper.wp_mono (fun a' w' ⟨st'',L',h3,h4⟩=>hK' a' w' (wW hQ rest a' w' st'' L' h4 h3)) (TM h2 h1)
  .rw [UX (by simp[hw])];exact hK' _ _ (wW hQ rest _ w _ L (bZ h2 o.dst) h1)
theorem fQ(h:aH cx a w st L)(hb:Below w.heap.size w w'):aH cx a w' st L:=by
 have hext:lG cx w st.tab L st.next w' st.tab L:=gP hb (fun id _=>⟨rfl,rfl⟩) (fun id o hid=>(h.young id o hid).1) (fun id o g h1 h2 _=>by have:=(h.young id o h2).1;omega);refine⟨kE h.lay h.young hb (fun id _=>⟨rfl,rfl⟩) (fun id o h1 h2=>?_) (fun id o g h1 h2 _=>?_) (fun id id' o o' g h1 _ h2 _ _ _=>?_),h.size,h.defers.mono hext.blk hext.sub,h.young,fun t=>⟨hext.rv (h.env t).1 (h.env t).2,(h.env t).2⟩⟩
 .have:=(h.young id o h2).1;omega
 .have:=(h.young id o h2).1;omega
 .have:=(h.young id o h2).1;omega
structure cr(T:Nat->Prop)(a a':Act):Prop where
 defers:a'.defers=a.defers
 slots:∀t,T t->a'.tmps.getD t undef=a.tmps.getD t undef
theorem cr.refl{T:Nat->Prop}(a:Act):cr T a a:=⟨rfl,fun _ _=>rfl⟩
theorem cr.trans{T:Nat->Prop}{a b c:Act}(h:cr T a b)(k:cr T b c):cr T a c:=⟨k.defers.trans h.defers,fun t ht=>(k.slots t ht).trans (h.slots t ht)⟩
theorem bC(a:Act)(d:Option Nat)(v:Value):(a.put d v).defers=a.defers:=by cases d<;>rfl
theorem kk(st:aj)(d:Option Nat)(av:AV):(st.put d av).tab=st.tab:=by cases d<;>rfl
theorem kw{a:Act}{dst:Option Nat}{v:Value}{t:Nat}(h:dst≠some t):(a.put dst v).tmps.getD t undef=a.tmps.getD t undef:=by
 cases dst with
 | none=>rfl
 | some d=>
  have hd:d≠t:=fun e=>h (by rw[e]);simp[Act.put,VG,Array.getElem?_setIfInBounds,hd]
theorem cr.put{T:Nat->Prop}{a b:Act}{dst:Option Nat}{v:Value}(h:cr T a b)(hd:∀t,T t->dst≠some t):cr T a (b.put dst v):=⟨(bC _ _ _).trans h.defers,fun t ht=>(kw (hd t ht)).trans (h.slots t ht)⟩
theorem fC{o:Oper}{K:Act->World->Prop}{Q:Exit->Act->World->Prop}{T:Nat->Prop}(hd:∀t,T t->o.dst≠some t)(h:o.wp P a w K Q):o.wp P a w (fun a' w'=>K a' w' /\ ∀t,T t->a'.tmps.getD t undef=a.tmps.getD t undef) Q:=by
 unfold Oper.wp Oper.upon at *;generalize (execOp a.eval o).run P w=r at h
 cases r with
 | ok x w1=>
  cases x with
  | value v=>exact⟨h,fun t ht=>kw (hd t ht)⟩
  | skip=>exact⟨h,fun t ht=>kw (hd t ht)⟩
  | defer d=>exact⟨h,fun t ht=>kw (a:={ a with defers:=d :: a.defers }) (hd t ht)⟩
  | enter f args=>
   refine Calls.mono h fun e w2 h2=>?_
   cases e with
   | returned v=>exact⟨h2,fun t ht=>kw (hd t ht)⟩
   | panicked chain=>exact h2
   | outgrown=>exact h2
  | row row args=>exact Rows.mono h fun v w2 h2=>⟨h2,fun t ht=>kw (hd t ht)⟩
  | _=>exact h.elim
 | halt x w1=>
  cases x<;>first|exact h|exact h.elim
theorem mO{ops:Array Oper}{K:aj->Prop}{Q:Act->Prop}{T:Nat->Prop}{a0:Act}{tab0:ae}(hQ:∀a st,K st->aH cx a w st L->st.tab=tab0->cr T a0 a->Q a):∀(l:List Oper)(a:Act)(st:aj),(∀o∈l,∀t,T t->o.dst≠some t)->st.tab=tab0->cr T a0 a->aH cx a w st L->kP P ops K l st->wpQuiet P ops (fun w'=>Below w.heap.size w w') Q l a
 | [],a,st,_,hT,hA,h,hp=>hQ a st hp h hT hA
 | o :: rest,a,st,hd0,hT,hA,h,hp=>by
  have hdo:=hd0 o (Vr ..);have hdr:=fun o' (ho:o' ∈rest)=>hd0 o' (Vx _ ho);unfold kP at hp;refine wpQuiet_step fun K' hK'=>?_;rcases cw h hp o rfl with ⟨hw,st',h1,h2,ht',_⟩|⟨hw,st',h1,h2,ht',_⟩
  .rw [UZ hw]
   have pureCase:∀op,o.op=op->cj P st'.tab (bb st') op (aK st' o.dst (kP P ops K rest))->o.quiet P a (fun w'=>Below w.heap.size w w') K':=fun op hop hp'=>by
    subst hop;obtain⟨v,av,h3,h4,h5,h6,_⟩:=li h2.lay (fun id o hid=>(h2.young id o hid).2) (ak h2) hp';refine⟨v,fun w' hw'=>?_,hK' _ (mO hQ rest _ _ hdr (by rw[kk,ht',hT]) (hA.put hdo) (bh h2 h4 h5 o.dst) h3)⟩;unfold Oper.quietAt;rw[h6 w' hw'];exact⟨rfl,rfl⟩
   unfold m6 at h1;split at h1
   .rename_i c hc;split at h1
    .rename_i f hf;obtain⟨g,xs,cs,hg,hxn,hxr,⟨v,hd,h3⟩,_⟩:=rr (ak h2 f).1 (ak h2 f).2 h1;refine⟨v,fun w' hw'=>?_,hK' _ (mO hQ rest _ _ hdr (by rw[kk,ht',hT]) (hA.put hdo) (bh h2 (.tree (.c v)) trivial o.dst) h3)⟩
     have hrun:(execOp a.eval o).run P w'=.ok (.enter g (c.args.map a.eval ++ xs)) w':=by
      have:=hd.1 (c.args.map a.eval ++ xs) w';simp[execOp,hc,Sem.run_bind,resolve,hf,hg,Deferred.ofValue,invoke,this]
     have hargs:=rh h2 (args:=c.args) hxn hxr;unfold Oper.quietAt;rw[hrun];refine⟨rfl,(hd.2 (fun b=>b<w'.heap.size) w' (c.args.map a.eval ++ xs) (h2.lay.amb.below hw').all (by simpa using hargs.1) (fun j x av h4 h5=>?_)).mono ?_⟩
     .rw [UV] at h5
      cases hj:(c.args.toList.map (bb st') ++ cs)[j]? with
      | none=>simp[hj] at h5
      | some y=>
       simp[hj] at h5;subst h5;exact(Eh h2.lay (hargs.2 j x y h4 hj)).mono (fun p hp=>hw'.cell hp) (fun b hb=>UY hb hw'.size)
     .rintro e w'' ⟨v',L2,R,rfl,_,rfl,hl,hr⟩;obtain rfl:=hr.c_inv;exact⟨rfl,hw'.trans ((hl.below.below fun b hb=>hb).mono hw'.size)⟩
    .exact pureCase _ hc h1
   .rename_i t parts hb;obtain⟨v,cs,h3,h4,h5,h6⟩:=mg h2 h1;refine⟨v,fun w' hw'=>?_,hK' _ (mO hQ rest _ _ hdr (by rw[kk,ht',hT]) (hA.put hdo) (bh h2 h3 h4 o.dst) h6)⟩;have hrun:(execOp a.eval o).run P w'=.ok (.value v) w':=(by simp[execOp,hb,Sem.run_bind,h5 w']);unfold Oper.quietAt;rw[hrun];exact⟨rfl,rfl⟩
   .exact pureCase _ rfl h1
  .rw [UX (by simp[hw])];exact hK' _ (mO hQ rest _ _ hdr (by rw[kk,ht',hT]) (hA.put hdo) (bZ h2 o.dst) h1)
theorem rk{ops:Array Oper}{K:aj->Prop}{Q:Act->Prop}{T:Nat->Prop}{a0:Act}{tab0:ae}(hQ:∀a st,K st->aH cx a w st L->st.tab=tab0->cr T a0 a->Q a):∀(l:List Oper)(a:Act)(st:aj),(∀o∈l,∀t,T t->o.dst≠some t)->st.tab=tab0->cr T a0 a->aH cx a w st L->nb P ops K l st->wpStill P ops w Q l a
 | [],a,st,_,hT,hA,h,hp=>hQ a st hp h hT hA
 | o :: rest,a,st,hd0,hT,hA,h,hp=>by
  have hdo:=hd0 o (Vr ..);have hdr:=fun o' (ho:o' ∈rest)=>hd0 o' (Vx _ ho);unfold nb at hp;refine wpStill_step fun K' hK'=>?_;rcases cw h hp o rfl with ⟨hw,st',h1,h2,ht',_⟩|⟨hw,st',h1,h2,ht',_⟩
  .rw [UZ hw];unfold nb.aPop at h1;obtain⟨v,av,h3,h4,h5,h6,_⟩:=li h2.lay (fun id o hid=>(h2.young id o hid).2) (ak h2) h1;unfold Oper.still;rw[h6 w (Below.refl _ _),Oper.stillUpon_value];exact hK' _ (rk hQ rest _ _ hdr (by rw[kk,ht',hT]) (hA.put hdo) (bh h2 h4 h5 o.dst) h3)
  .rw [UX (by simp[hw])];exact hK' _ (rk hQ rest _ _ hdr (by rw[kk,ht',hT]) (hA.put hdo) (bZ h2 o.dst) h1)
def tk(nx0:Nat)(B:Nat)(G:Nat->Prop)(tab:ae)(L:Nat->Value):Prop:=∀id o g,nx0<=id->tab.get id=some o->aL (L id)=some g->B<=g\/G g
structure mb(B:Nat)(G:Nat->Prop)(wr w:World):Prop where
 size:B<=w.heap.size
 block:∀k,k<B->¬G k->w.heap[k]? = wr.heap[k]?
theorem mb.step{B:Nat}{G:Nat->Prop}{wr w w':World}(h:mb B G wr w)(hs:w.heap.size<=w'.heap.size)(hb:∀k,k<B->¬G k->w'.heap[k]? = w.heap[k]?):mb B G wr w':=
 ⟨Vj h.size hs,fun k hk hG=>(hb k hk hG).trans (h.block k hk hG)⟩
theorem r7{nx0 B:Nat}{G:Nat->Prop}{L:Nat->Value}:∀(ids:List Nat){st:aj},tk nx0 B G st.tab L->tk nx0 B G (iA st ids).tab L
 | [],_,h=>h
 | id :: ids,st,h=>r7 ids (st:=iD st id) fun k o g h1 h2 h3=>by
  unfold iD at h2;split at h2
  .rw [ae.gc,dr] at h2;split at h2
   .cases h2
   .cases hg:st.tab.get k with
    | none=>simp[hg] at h2
    | some o'=>exact h k o' g h1 hg h3
  .exact h k o g h1 h2 h3
theorem th:∀(ids:List Nat){st:aj}(k:Nat)(o:aB),(iA st ids).tab.get k=some o->∃o',st.tab.get k=some o'
 | [],_,_,o,h=>⟨o,h⟩
 | id :: ids,st,k,o,h=>by
  obtain⟨o1,h⟩:=th ids (st:=iD st id) k o h;unfold iD at h;split at h
  .rw [ae.gc,dr] at h;split at h
   .cases h
   .cases hg:st.tab.get k with
    | none=>simp[hg] at h
    | some o'=>exact⟨o',rfl⟩
  .exact ⟨o1,h⟩
theorem ic{o:Oper}{K:aj->Prop}{Q:Exit->Act->World->Prop}{B nx0:Nat}{ids:List Nat}{G:Nat->Prop}{wr:World}(h:aH cx a w st L)(hS:mb B G wr w)(hy:tk nx0 B G st.tab L)(hG:∀id∈ids,∀g,aL (L id)=some g->G g)(hnx:∀id∈ids,id<st.next)(hp:iZ P nx0 ids o K st) :
  o.wp P a w (fun a' w'=>∃st' L',K st' /\ aH cx a' w' st' L' /\ a'.defers=a.defers/\mb B G wr w' /\ tk nx0 B G st'.tab L' /\ (∀id,id<st.next->L' id=L id)/\st.next<=st'.next/\∀id o,id<st.next->st'.tab.get id=some o->∃o',st.tab.get id=some o') Q:=by
 have hB:=hS.size;have etab:∀(st:aj) d av,(st.put d av).tab=st.tab:=fun st d av=>by cases d<;>rfl
 have enext:∀(st:aj) d av,(st.put d av).next=st.next:=fun st d av=>by cases d<;>rfl
 obtain⟨dst,op,ty,pos,aft,gd⟩:=o;unfold iZ at hp;simp only at hp;split at hp
 .rename_i x;have he:=ak h x;refine aU (by simp[execOp]) ⟨_,L,hp,bh h he.1 he.2 dst,bC _ _ _,hS,by rw[etab];exact hy,fun _ _=>rfl,by rw[enext];exact UU _,fun id o _ hg=>⟨o,by rw[etab] at hg;exact hg⟩⟩
 .rename_i t x;obtain⟨v,av,h1,h2,h3,h4,_⟩:=li (o:=⟨dst,.load t x,ty,pos,aft,gd⟩) h.lay (fun id o hid=>(h.young id o hid).2) (ak h) hp;exact aU (h4 w (Below.refl _ _)) ⟨_,L,h1,bh h h2 h3 dst,bC _ _ _,hS,by rw[etab];exact hy,fun _ _=>rfl,by rw[enext];exact UU _,fun id o _ hg=>⟨o,by rw[etab] at hg;exact hg⟩⟩
 .rename_i t m k ok;obtain⟨r,av,h1,h2,h3,h4⟩:=pO (nx:=st.next) h.lay (ak h m).1 (ak h k).1 hp;exact aU (by simp[execOp,Sem.run_bind,h4]) ⟨_,L,h1,bh h h2 h3 dst,bC _ _ _,hS,by rw[etab];exact hy,fun _ _=>rfl,by rw[enext];exact UU _,fun id o _ hg=>⟨o,by rw[etab] at hg;exact hg⟩⟩
 .rename_i t m k v;split at hp
  .rename_i id hme;obtain⟨hid,hp⟩:=hp;have hmv:=(ak h m).1;rw[hme] at hmv;obtain⟨w',st',h1,h2,h3,h4,id',ents,ents',hidd,h5,rfl,h6⟩:=pm h hmv (ak h k).1 (ak h v).1 dst hp;cases hidd
   have hmay:∀k,k<B->¬G k->aL (L id)=some k->False:=fun k hk hGk e=>by
    rcases hid with hid|hge
    .exact hGk (hG id hid k e)
    .rcases hy id _ k hge h5 e with h9|h9
     .omega
     .exact hGk h9
   refine ff (by simp[execOp,Sem.run_bind,h1]) ⟨_,L,h2,h3,bC _ _ _,hS.step (by omega) (fun k hk hGk=>h6 k fun e=>hmay k hk hGk e),?_,fun _ _=>rfl,by rw[enext];exact UU _,fun k o' _ hg=>by
    rw[etab,ae.gc] at hg;split at hg
    .rename_i e;exact⟨_,by rw[e];exact h5⟩
    .exact ⟨o',hg⟩⟩
   rw[etab];intro k ob g h9 h10 h11;rw[ae.gc] at h10;split at h10
   .rename_i e;exact hy k (.map ents) g h9 (by rw[e];exact h5) h11
   .exact hy k ob g h9 h10 h11
  .exact hp.elim
 .rename_i t p x;split at hp
  .rename_i id i j hpe;obtain⟨hid,hp⟩:=hp
   have hmay:∀k,k<B->¬G k->aL (L id)=some k->False:=fun k hk hGk e=>by
    rcases hid with hid|hge
    .exact hGk (hG id hid k e)
    .have hn:∃o,st.tab.get id=some o:=by
      unfold n4 at hp;split at hp<;>first|exact⟨_,by assumption⟩|exact hp.elim
     obtain⟨o,ho⟩:=hn;rcases hy id o k hge ho e with h9|h9
     .omega
     .exact hGk h9
   unfold n4 at hp;split at hp
   .rename_i ty cells hget;obtain⟨rfl,h0,h1,h2,h3,h4⟩:=hp;have hpv:=(ak h p).1;rw[hpe] at hpv;have hx:=ak h x;obtain⟨w',h5,h6,h7,h8⟩:=kY h hpv hget hx.1 hx.2 h0 h1 h2 h3 dst
    refine ff (by simp[execOp,Sem.run_bind,h5]) ⟨_,L,h4,h6,bC _ _ _,hS.step (by omega) (fun k hk hGk=>h8 k fun e=>hmay k hk hGk e),?_,fun _ _=>rfl,by rw[enext];exact UU _,fun k o' _ hg=>by
     rw[etab,ae.gc] at hg;split at hg
     .rename_i e;exact⟨_,by rw[e];exact hget⟩
     .exact ⟨o',hg⟩⟩
    rw[etab];intro k ob g h9 h10 h11;rw[ae.gc] at h10;split at h10
    .rename_i e;exact hy k (.box ty cells) g h9 (by rw[e];exact hget) h11
    .exact hy k ob g h9 h10 h11
   .rename_i e sz rows hget;obtain⟨h0,h1,h2,h3,h3',h3'',h4⟩:=hp;have hpv:=(ak h p).1;rw[hpe] at hpv;have hx:=ak h x;obtain⟨w',h5,h6,h7,h8⟩:=kU h hpv hget hx.1 hx.2 h0 h1 h2 h3 h3' h3'' dst
    refine ff (by simp[execOp,Sem.run_bind,h5]) ⟨_,L,h4,h6,bC _ _ _,hS.step (by omega) (fun k hk hGk=>h8 k fun e=>hmay k hk hGk e),?_,fun _ _=>rfl,by rw[enext];exact UU _,fun k o' _ hg=>by
     rw[etab,ae.gc] at hg;split at hg
     .rename_i e';exact⟨_,by rw[e'];exact hget⟩
     .exact ⟨o',hg⟩⟩
    rw[etab];intro k ob g h9 h10 h11;rw[ae.gc] at h10;split at h10
    .rename_i e';exact hy k (.row e sz rows) g h9 (by rw[e'];exact hget) h11
    .exact hy k ob g h9 h10 h11
   .rename_i e sz rows hget;obtain⟨h0,h1,h2,h3,h3',h4⟩:=hp;have hpv:=(ak h p).1;rw[hpe] at hpv;have hx:=ak h x;obtain⟨w',h5,h6,h7,h8⟩:=jT h hpv hget hx.1 hx.2 h0 h1 h2 h3 h3' dst
    refine ff (by simp[execOp,Sem.run_bind,h5]) ⟨_,L,h4,h6,bC _ _ _,hS.step (by omega) (fun k hk hGk=>h8 k fun e=>hmay k hk hGk e),?_,fun _ _=>rfl,by rw[enext];exact UU _,fun k o' _ hg=>by
     rw[etab,ae.gc] at hg;split at hg
     .rename_i e';exact⟨_,by rw[e'];exact hget⟩
     .exact ⟨o',hg⟩⟩
    rw[etab];intro k ob g h9 h10 h11;rw[ae.gc] at h10;split at h10
    .rename_i e';exact hy k (.nest e sz rows) g h9 (by rw[e'];exact hget) h11
    .exact hy k ob g h9 h10 h11
   .exact hp.elim
  .exact hp.elim
 .rename_i t;split at hp
  .rename_i z hz;obtain⟨h1,h2⟩:=hp;obtain⟨h3,h4⟩:=pB (P:=P) (t:=t) (av:=.c z) h (.tree (.c z)) trivial h1 dst;have hbw:Below w.heap.size w (w.alloc (.cells z.cells t)):=(Below.refl _ _).alloc (UU _) _;refine aU (by simp[execOp,Sem.run_bind,pN hz,h3]) ⟨_,_,h2,h4,bC _ _ _,hS.step hbw.size (fun k hk _=>hbw.block k (UY hk hB)),?_,fun id hid=>?_,?_,fun k o' hk hg=>?_⟩
   .rw [etab];intro id ob g h5 h6 h7;rw[ae.gc] at h6;unfold bp at h7;split at h6
    .rename_i e;rw[UZ e] at h7;simp[aL] at h7;left;omega
    .rename_i e;rw[UX e] at h7;exact hy id ob g h5 h6 h7
   .unfold bp;rw[UX (by omega)]
   .rw [enext];exact VF _
   .rw [etab,ae.gc,UX (by omega)] at hg;exact⟨o',hg⟩
  .exact hp.elim
 .rename_i t x;obtain⟨h1,h2⟩:=hp;have he:=ak h x;obtain⟨h3,h4⟩:=pB (P:=P) (t:=t) h he.1 he.2 h1 dst;have hbw:Below w.heap.size w (w.alloc (.cells (a.eval x).cells t)):=(Below.refl _ _).alloc (UU _) _;refine aU (by simp[execOp,Sem.run_bind,h3]) ⟨_,_,h2,h4,bC _ _ _,hS.step hbw.size (fun k hk _=>hbw.block k (UY hk hB)),?_,fun id hid=>?_,?_,fun k o' hk hg=>?_⟩
  .rw [etab];intro id ob g h5 h6 h7;rw[ae.gc] at h6;unfold bp at h7;split at h6
   .rename_i e;rw[UZ e] at h7;simp[aL] at h7;left;omega
   .rename_i e;rw[UX e] at h7;exact hy id ob g h5 h6 h7
  .unfold bp;rw[UX (by omega)]
  .rw [enext];exact VF _
  .rw [etab,ae.gc,UX (by omega)] at hg;exact⟨o',hg⟩
 .rename_i t n parts;unfold eL at hp;have hy':tk nx0 B G (iA st (gN (parts.toList.flatMap fun(p:Nat×Operand)=>ap (bb st p.2)))).tab L:=r7 _ hy
  replace h:=f9 (gN (parts.toList.flatMap fun(p:Nat×Operand)=>ap (bb st p.2))) h
  clear hy;have hy:=hy';have hnext:(iA st (gN (parts.toList.flatMap fun(p:Nat×Operand)=>ap (bb st p.2)))).next=st.next:=pt _ _;unfold gA at hp;split at hp
  .rename_i e sz by_ ht;split at hp
   .obtain ⟨⟨h1,rfl,h3,h5⟩,h6⟩:=hp;obtain⟨v',w',L',h7,h8,hb,rfl,hv⟩:=jR h ht h1 h3 h5 dst;refine aU ?_ ⟨_,_,h6,h8,bC _ _ _,hS.step hb.size (fun k hk _=>hb.block k (UY hk hB)),?_,fun id hid=>?_,?_,fun k o' hk hg=>?_⟩
    .simp only[WV] at h7;simp[execOp,Sem.run_bind];simp at h7;simp[h7]
    .rw [etab];intro id ob g h1 h2 h3;rw[ae.gc] at h2;unfold bp at h3;split at h2
     .rename_i e;rw[UZ e,hv] at h3;cases h3;exact .inl hB
     .rename_i e;rw[UX e] at h3;exact hy id ob g h1 h2 h3
    .unfold bp;rw[UX (by omega)]
    .rw [enext];show st.next<=(iA st _).next+1;omega
    .rw [etab] at hg;simp only[ae.gc] at hg;rw[UX (by omega)] at hg;exact th _ k o' hg
   .obtain ⟨⟨h1,rfl,h3,h5⟩,h6⟩:=hp;obtain⟨v',w',L',h7,h8,hb,rfl,hv⟩:=po h ht h1 h3 h5 dst;refine aU ?_ ⟨_,_,h6,h8,bC _ _ _,hS.step hb.size (fun k hk _=>hb.block k (UY hk hB)),?_,fun id hid=>?_,?_,fun k o' hk hg=>?_⟩
    .simp only[WV] at h7;simp[execOp,Sem.run_bind];simp at h7;simp[h7]
    .rw [etab];intro id ob g h1 h2 h3;rw[ae.gc] at h2;unfold bp at h3;split at h2
     .rename_i e;rw[UZ e,hv] at h3;cases h3;exact .inl hB
     .rename_i e;rw[UX e] at h3;exact hy id ob g h1 h2 h3
    .unfold bp;rw[UX (by omega)]
    .rw [enext];show st.next<=(iA st _).next+1;omega
    .rw [etab] at hg;simp only[ae.gc] at hg;rw[UX (by omega)] at hg;exact th _ k o' hg
  .exact hp.elim
 .rename_i t l c;unfold qv at hp;split at hp
  .rename_i e sz by_ k1 n k2 m ht hl hc;split at hp
   .rename_i z hz;obtain⟨⟨rfl,h1,h2,h3,h4⟩,h5⟩:=hp;have hl':=(ak h l).1;have hc':=(ak h c).1;rw[hl] at hl';rw[hc] at hc';obtain⟨v',w',L',h6,h7,hb,rfl,hv⟩:=xj (k1:=k1) (k2:=k2) h ht hz h1 h2 h3 h4 dst;refine aU (by simp[execOp,Sem.run_bind,hl'.c_inv,hc'.c_inv,h6]) ⟨_,_,h5,h7,bC _ _ _,hS.step hb.size (fun k hk _=>hb.block k (UY hk hB)),?_,fun id hid=>?_,?_,fun k o' hk hg=>?_⟩
    .rw [etab];intro id ob g h1 h2 h3;rw[ae.gc] at h2;unfold bp at h3;split at h2
     .rename_i e;rw[UZ e,hv] at h3;cases h3;exact .inl hB
     .rename_i e;rw[UX e] at h3;exact hy id ob g h1 h2 h3
    .unfold bp;rw[UX (by omega)]
    .rw [enext];exact VF _
    .rw [etab,ae.gc,UX (by omega)] at hg;exact⟨o',hg⟩
   .exact hp.elim
  .exact hp.elim
 .rename_i c;obtain⟨callee,args,argTypes⟩:=c;simp only at hp;split at hp
  .split at hp
   .rename_i x y t t' h1 h2;obtain rfl:args = #[x,y]:=by cases args;simp_all
    obtain rfl:argTypes = #[t,t']:=by cases argTypes;simp_all
    obtain⟨⟨rfl,hfr⟩,hp⟩:=hp;unfold gC at hp;split at hp
    .rename_i hnn;obtain⟨e1,e2⟩:=nL hnn;have hx1:=(ak h x).1;have hy1:=(ak h y).1;rw[e1] at hx1;rw[e2] at hy1;have hx2:=hx1.c_inv;have hy2:=hy1.c_inv;have hr:=jm (ty:=ty) (w:=w) hp.1;exact aU (by simp[execOp,Sem.run_bind,resolve,invoke,builtin,hx2,hy2,hr]) ⟨_,L,hp.2,bh h (.tree (.c _)) trivial dst,bC _ _ _,hS,by rw[etab];exact hy,fun _ _=>rfl,by rw[enext];exact UU _,fun id o _ hg=>⟨o,by rw[etab] at hg;exact hg⟩⟩
    unfold iL at hp;split at hp
    .rename_i e sz by_ ht;split at hp
     .rename_i oid rows rows2 hx hy2;obtain⟨⟨h3,h4⟩,h5⟩:=hp;obtain⟨v',w',L',h6,h7,hg,rfl,hv,hown⟩:=pT (ty:=ty) h (ak h x).1 (ak h y).1 ht hx hy2 (by simpa[maxLen] using h3) h4 dst
      have hoid:∀id,oid=some id->pA nx0 ids id/\∃o,st.tab.get id=some o:=fun id hid=>by
       subst hid;unfold wN at hx;split at hx
       .rename_i id' hid';rw[hid'] at hfr;split at hx
        .rename_i e' sz' rows' hget;split at hx
         .cases hx;exact⟨hfr,_,hget⟩
         .cases hx
        .cases hx
       .cases hx
       .cases hx
      have hown2:∀g,(a.eval x).ownBlock=some g->B<=g\/G g:=fun g hg'=>by
       obtain⟨id,hid,hbl⟩:=hown g hg';obtain⟨h8,o,h9⟩:=hoid id hid;rcases h8 with h8|h8
       .exact .inr (hG id h8 g hbl)
       .exact hy id o g h8 h9 hbl
      refine aU (by simp[execOp,Sem.run_bind,resolve,invoke,builtin,h6]) ⟨_,_,h5,h7,bC _ _ _,hS.step hg.size (fun k hk hnk=>hg.block k (UY hk hB) fun e=>by rcases hown2 k e.symm with h9|h9;omega;exact hnk h9),?_,fun id hid=>by unfold bp;rw[UX (by omega)],by rw[enext];exact VF _,fun k o' hk hg=>by
       rw[etab] at hg;simp only[bH] at hg;rw[UX (by omega)] at hg;split at hg
       .cases hg
       .exact ⟨o',hg⟩⟩
      rw[etab];intro id ob g h8 h9 h10;rw[bH] at h9;unfold bp at h10;split at h9
      .rename_i e1;rw[UZ e1] at h10;rcases hv with hv|hv
       .exact hown2 g (by rw[<- hv];exact h10)
       .rw [hv] at h10;cases h10;exact .inl hB
      .rename_i e1;rw[UX e1] at h10;split at h9
       .cases h9
       .exact hy id ob g h8 h9 h10
     .split at hp
      .rename_i oid rows rows2 hx hy2;obtain⟨⟨h3,h4⟩,h5⟩:=hp;obtain⟨v',w',L',h6,h7,hg,rfl,hv,hown⟩:=nr (ty:=ty) h (ak h x).1 (ak h y).1 ht hx hy2 (by simpa[maxLen] using h3) h4 dst
       have hoid:∀id,oid=some id->pA nx0 ids id/\∃o,st.tab.get id=some o:=fun id hid=>by
        subst hid;unfold lO at hx;split at hx
        .rename_i id' hid';rw[hid'] at hfr;split at hx
         .rename_i e' sz' rows' hget;split at hx
          .cases hx;exact⟨hfr,_,hget⟩
          .cases hx
         .cases hx
        .cases hx
        .cases hx
       have hown2:∀g,(a.eval x).ownBlock=some g->B<=g\/G g:=fun g hg'=>by
        obtain⟨id,hid,hbl⟩:=hown g hg';obtain⟨h8,o,h9⟩:=hoid id hid;rcases h8 with h8|h8
        .exact .inr (hG id h8 g hbl)
        .exact hy id o g h8 h9 hbl
       refine aU (by simp[execOp,Sem.run_bind,resolve,invoke,builtin,h6]) ⟨_,_,h5,h7,bC _ _ _,hS.step hg.size (fun k hk hnk=>hg.block k (UY hk hB) fun e=>by rcases hown2 k e.symm with h9|h9;omega;exact hnk h9),?_,fun id hid=>by unfold bp;rw[UX (by omega)],by rw[enext];exact VF _,fun k o' hk hg=>by
        rw[etab] at hg;simp only[bH] at hg;rw[UX (by omega)] at hg;split at hg
        .cases hg
        .exact ⟨o',hg⟩⟩
       rw[etab];intro id ob g h8 h9 h10;rw[bH] at h9;unfold bp at h10;split at h9
       .rename_i e1;rw[UZ e1] at h10;rcases hv with hv|hv
        .exact hown2 g (by rw[<- hv];exact h10)
        .rw [hv] at h10;cases h10;exact .inl hB
       .rename_i e1;rw[UX e1] at h10;split at h9
        .cases h9
        .exact hy id ob g h8 h9 h10
      .exact hp.elim
    .exact hp.elim
   .exact hp.elim
  .rename_i f;obtain⟨g,xs,cs,hg,hxn,hxr,hp,hcs⟩:=rr (ak h f).1 (ak h f).2 hp;have hargs:=rh h (args:=args) hxn hxr;by_cases hmeth:Ad (some (nx0,ids)) P st g (args.toList.map (bb st) ++ cs) (uj dst K)
   .obtain ⟨hent,ids0,hmay,hc⟩:=xM h hargs.1 hargs.2 hmeth dst
    have hrun:(execOp a.eval { dst:=dst,op:=.call { callee:=.value f,args:=args,argTypes:=argTypes },type:=ty,pos:=pos,after:=aft,guard:=gd }).run P w=.ok (.enter g (args.map a.eval ++ xs)) w:=by
     have:=hent (args.map a.eval ++ xs) w;simp[execOp,Sem.run_bind,resolve,hg,Deferred.ofValue,invoke,this]
    unfold Oper.wp;rw[hrun];show Calls P g (args.map a.eval ++ xs) w _;refine hc.mono ?_;rintro e w' ⟨v,av,st',L',rfl,h1,h2,h3,h4,h5,h6,h7⟩
    have hblk:∀id∈ids0,∀o k,st.tab.get id=some o->aL (L id)=some k->B<=k\/G k:=fun id hid o k h8 h9=>by
     rcases hmay _ rfl id hid with h10|h10
     .exact .inr (hG id h10 k h9)
     .exact hy id o k h10 h8 h9
    refine⟨_,L',h1,h2,bC _ _ _,hS.step h3.size (fun k hk hGk=>h6 k (UY hk hB) fun id hid o ho e=>?_),?_,h4,by rw[enext];exact h3.next,fun id o hid ho=>h5 id o hid (by rw[etab] at ho;exact ho)⟩
    .rcases hblk id hid o k ho e with h8|h8
     .omega
     .exact hGk h8
    .rw [etab];intro id ob g' h8 h9 h10;rcases U9 id st.next with hlt|hge
     .obtain ⟨o',h11⟩:=h5 id ob hlt h9;rw[h4 id hlt] at h10;exact hy id o' g' h8 h11 h10
     .rcases h7 id ob g' hge h9 h10 with h11|⟨id',h11,⟨o',h12⟩,h13⟩
      .exact .inl (Vj hB h11)
      .exact hblk id' h11 o' g' h12 h13
   replace hp:pZ P st g (args.toList.map (bb st) ++ cs) (uj dst K):=by
    rcases hp with hp|hp|hp
    .exact hp
    .cases hp.1
    .exact absurd hp hmeth
   have hent:fy P g:=by
    rcases hp with ⟨R,hd,_⟩|⟨hd,_⟩
    .exact hd.1
    .exact hd
   have hrun:(execOp a.eval { dst:=dst,op:=.call { callee:=.value f,args:=args,argTypes:=argTypes },type:=ty,pos:=pos,after:=aft,guard:=gd }).run P w=.ok (.enter g (args.map a.eval ++ xs)) w:=by
    have:=hent (args.map a.eval ++ xs) w;simp[execOp,Sem.run_bind,resolve,hg,Deferred.ofValue,invoke,this]
   unfold Oper.wp;rw[hrun];show Calls P g (args.map a.eval ++ xs) w _;have hargs:=rh h (args:=args) hxn hxr;refine(oT h hargs.1 hargs.2 hp dst).mono ?_
   .rintro e w' ⟨v,av,st',L',rfl,h1,h2,hb,hold,hnew,hnx'⟩;refine⟨_,_,h1,h2,bC _ _ _,hS.step hb.size (fun k hk _=>hb.block k (UY hk hB)),?_,fun id hid=>(hold id hid).2,by rw[enext];exact hnx',fun k o' hk hg=>⟨o',by rw[etab,(hold k hk).1] at hg;exact hg⟩⟩;rw[etab];intro id ob g h8 h9 h10;rcases U9 id st.next with hlt|hge
    .rw [(hold id hlt).1] at h9;rw[(hold id hlt).2] at h10;exact hy id ob g h8 h9 h10
    .exact .inl (Vj hB (hnew id ob g hge h9 h10))
  .exact hp.elim
 .exact hp.elim
def mN(Q:Exit->Act->World->Prop):Exit->Act->World->Prop
 | .panic _,_,_=>False
 | e,a,w=>Q e a w
structure jH(nx0 B:Nat)(ids:List Nat)(G:Nat->Prop)(T0:ae)(L0:Nat->Value)(st:aj)(L:Nat->Value):Prop where
 loc:∀id,id<nx0->L id=L0 id
 le:nx0<=st.next
 old:∀id o,id<nx0->st.tab.get id=some o->∃o',T0.get id=some o'
 far:∀id o g,id<nx0->id∉ids->T0.get id=some o->aL (L id)=some g->g<B/\¬G g
theorem jH.same{nx0 B:Nat}{ids:List Nat}{G:Nat->Prop}{T0:ae}{L0:Nat->Value}{st st':aj}{L:Nat->Value}(h:jH nx0 B ids G T0 L0 st L)(ht:st'.tab=st.tab)(hn:st'.next=st.next):jH nx0 B ids G T0 L0 st' L:=
 ⟨h.loc,by rw[hn];exact h.le,by rw[ht];exact h.old,h.far⟩
theorem jH.step{nx0 B:Nat}{ids:List Nat}{G:Nat->Prop}{T0:ae}{L0:Nat->Value}{st st':aj}{L L':Nat->Value}(h:jH nx0 B ids G T0 L0 st L)(h1:∀id,id<st.next->L' id=L id)(h2:st.next<=st'.next)(h3:∀id o,id<st.next->st'.tab.get id=some o->∃o',st.tab.get id=some o'):jH nx0 B ids G T0 L0 st' L':=
 ⟨fun id hi=>(h1 id (UY hi h.le)).trans (h.loc id hi),Vj h.le h2,fun id o hi hg=>(h3 id o (UY hi h.le) hg).elim fun o' hg'=>h.old id o' hi hg',fun id o g hi hn hT hg=>h.far id o g hi hn hT (by rw[<- h1 id (UY hi h.le)];exact hg)⟩
theorem b5{ops:Array Oper}{K:aj->Prop}{T0:ae}{nx0 B:Nat}{ids:List Nat}{G:Nat->Prop}{wr:World}{Q:Exit->Act->World->Prop}(hsel:Region.noSelect ops=true){T:Nat->Prop}{a0:Act}{L0:Nat->Value}(hT:∀(i:Nat)(o:Oper),ops[i]? = some o->∀t,T t->o.dst≠some t)(hQ:∀a w st L,K st->aH cx a w st L->mb B G wr w->tk nx0 B G st.tab L->jH nx0 B ids G T0 L0 st L->cr T a0 a->Q .normal a w):∀(s:m7)(listed:Array Bool)(a:Act)(w:World)(st:aj)(L:Nat->Value),
  aH cx a w st L->mb B G wr w->tk nx0 B G st.tab L->(∀id∈ids,∀g,aL (L id)=some g->G g)->(∀id∈ids,id<st.next)->jH nx0 B ids G T0 L0 st L->cr T a0 a->ea ops s listed=true->cZ P ops nx0 ids K s st->∀fuel,s.len<=fuel->wpAnyH P .any ops (mN Q) (fun w'=>mb B G wr w') fuel listed a w
 | .done,listed,a,w,st,L,h,hS,hy,_,_,hE,hA,hB,hp,fuel,_=>wpAnyH_done (Q:=mN Q) (by simpa[ea] using hB) (hQ a w st L hp h hS hy hE hA) fuel
 | .take i s,listed,a,w,st,L,h,hS,hy,hG,hnx,hE,hA,hB,hp,fuel,hf=>by
  simp only[ea,U1] at hB;unfold cZ tf at hp;have etab:∀(st:aj) d av,(st.put d av).tab=st.tab:=fun st d av=>by cases d<;>rfl
  have enext:∀(st:aj) d av,(st.put d av).next=st.next:=fun st d av=>by cases d<;>rfl
  split at hp
  .rename_i o ho;obtain⟨fuel',rfl⟩:∃f,fuel=f+1:=⟨fuel-1,by simp[m7.len] at hf;omega⟩;rcases cw h hp o rfl with ⟨hw,st',⟨hl,h0⟩,h2',ht',hn'⟩|⟨hw,st',h0,h2',ht',hn'⟩
   .by_cases hbld:∃t parts,o.op=.build t parts
    .obtain ⟨t,parts,hop⟩:=hbld;rw[hop] at h0;obtain⟨v,cs,h3,h4,h5,h6⟩:=mg h2' h0;refine wpAnyH_take (v:=v) ho hsel hB.1.1 hB.1.2 (fun _ _ _ h=>h) (.inl ⟨hw,fun w' _=>by simp[execOp,hop,Sem.run_bind,h5 w']⟩) hS ?_;exact b5 hsel hT hQ s _ _ w _ L (bh h2' h3 h4 o.dst) hS (by rw[etab,ht'];exact hy) hG (fun id hid=>by rw[enext,hn'];exact hnx id hid) (hE.same (by rw[etab,ht']) (by rw[enext,hn'])) (hA.put (hT _ _ ho)) hB.2 h6 fuel' (by simp[m7.len] at hf;omega)
    replace h0:cj P st'.tab (bb st') o.op (aK st' o.dst (cZ P ops nx0 ids K s)):=by
     unfold eh at h0;split at h0
     .rename_i t parts hop;exact absurd ⟨t,parts,hop⟩ hbld
     .exact h0
    obtain⟨v,av,h1,h2,h3,_,h5,h6⟩:=li h2'.lay (fun id o hid=>(h2'.young id o hid).2) (ak h2') h0
    have hrd:∀w',mb B G wr w' -> (execOp a.eval o).run P w'=.ok (.value v) w':=fun w' hw'=>by
     cases hld:jj o.op with
     | false=>exact h5 hld w'
     | true=>
      obtain⟨t,x,hop⟩:∃t x,o.op=.load t x:=by
       cases hop:o.op<;>simp[hop,jj] at hld;exact⟨_,_,rfl⟩
      obtain⟨b,hb,hr⟩:=h6 t x hop;rw[hop] at hl;have hev:=(ak h2' x).1;unfold qd xo at hl;simp only at hl;split at hl
      .rename_i id i j he;obtain⟨hl1,hl2,hl3⟩:=hl;split at hl3
       .rename_i o' hg;rw[he] at hev;obtain⟨g,hg1,hg2⟩:=hev.op_inv _ _ (cN hg);rw[hg2] at hb;simp[aL] at hb;subst hb;obtain⟨o2,hT⟩:=hE.old id o' hl1 (by rw[<- ht'];exact hg);obtain⟨h7,h8⟩:=hE.far id o2 g hl1 hl2 hT hg1;exact hr w' fun o' u hu=>(World.cell?_of_block ((hw'.block g h7 h8).trans (hS.block g h7 h8).symm)).trans hu
       .exact hl3.elim
      .exact hl.elim
    refine wpAnyH_take ho hsel hB.1.1 hB.1.2 (fun _ _ _ h=>h) (.inl ⟨hw,hrd⟩) hS ?_;exact b5 hsel hT hQ s _ _ w _ L (bh h2' h2 h3 o.dst) hS (by rw[etab,ht'];exact hy) hG (fun id hid=>by rw[enext,hn'];exact hnx id hid) (hE.same (by rw[etab,ht']) (by rw[enext,hn'])) (hA.put (hT _ _ ho)) hB.2 h1 fuel' (by simp[m7.len] at hf;omega)
   .refine wpAnyH_take (v:=undef) ho hsel hB.1.1 hB.1.2 (fun _ _ _ h=>h) (.inr ⟨hw,rfl⟩) hS ?_;exact b5 hsel hT hQ s _ _ w _ L (bZ h2' o.dst) hS (by rw[etab,ht'];exact hy) hG (fun id hid=>by rw[enext,hn'];exact hnx id hid) (hE.same (by rw[etab,ht']) (by rw[enext,hn'])) (hA.put (hT _ _ ho)) hB.2 h0 fuel' (by simp[m7.len] at hf;omega)
  .exact hp.elim
 | .exec i s,listed,a,w,st,L,h,hS,hy,hG,hnx,hE,hA,hB,hp,fuel,hf=>by
  simp only[ea,U1,U7] at hB;unfold cZ dC at hp;have etab:∀(st:aj) d av,(st.put d av).tab=st.tab:=fun st d av=>by cases d<;>rfl
  have enext:∀(st:aj) d av,(st.put d av).next=st.next:=fun st d av=>by cases d<;>rfl
  split at hp
  .rename_i o ho;obtain⟨fuel',rfl⟩:∃f,fuel=f+1:=⟨fuel-1,by simp[m7.len] at hf;omega⟩;refine wpAnyH_all hB.1 (by simp) fun j hj=>?_;obtain rfl:j=i:=by simpa using hj
   unfold wpOp;rw[ho];rcases cw h hp o rfl with ⟨hw,st1,h0,h2',ht',hn'⟩|⟨hw,st1,h0,h2',ht',hn'⟩
   .simp only[hw,if_true];refine .inl (Oper.wp_mono (fun a' w' ⟨⟨st',L',h1,h2,h8,h3,h4,h5,h6,h7⟩,h9⟩=>⟨h3,?_⟩) (fC (hT _ _ ho) (ic h2' hS (by rw[ht'];exact hy) hG (fun id hid=>by rw[hn'];exact hnx id hid) h0)));rw[hn'] at h5 h6 h7;exact b5 hsel hT hQ s _ a' w' st' L' h2 h3 h4 (fun id hid g hg'=>hG id hid g (by rw[<- h5 id (hnx id hid)];exact hg')) (fun id hid=>UY (hnx id hid) h6) (hE.step h5 h6 (by rw[ht'] at h7;exact h7)) (hA.trans ⟨h8,h9⟩) hB.2 h1 fuel' (by simp[m7.len] at hf;omega)
   .simp only[hw,VB,if_false];refine⟨hS,b5 hsel hT hQ s _ _ w _ L (bZ h2' o.dst) hS (by rw[etab,ht'];exact hy) hG (fun id hid=>by rw[enext,hn'];exact hnx id hid) (hE.same (by rw[etab,ht']) (by rw[enext,hn'])) (hA.put (hT _ _ ho)) hB.2 h0 fuel' (by simp[m7.len] at hf;omega)⟩
  .exact hp.elim
 | .two i s k t,listed,a,w,st,L,h,hS,hy,hG,hnx,hE,hA,hB,hp,fuel,hf=>by
  simp only[ea,U1,U7] at hB;unfold cZ at hp;obtain⟨hp,hp2⟩:=hp;unfold dC at hp hp2;have etab:∀(st:aj) d av,(st.put d av).tab=st.tab:=fun st d av=>by cases d<;>rfl
  have enext:∀(st:aj) d av,(st.put d av).next=st.next:=fun st d av=>by cases d<;>rfl
  have hf1:s.len+1<=fuel:=Vj (WE (Xy s.len t.len)) hf;have hf2:t.len+1<=fuel:=Vj (WE (Wy s.len t.len)) hf;obtain⟨fuel',rfl⟩:∃f,fuel=f+1:=⟨fuel-1,by omega⟩;refine wpAnyH_all hB.1.1 (by simp) fun j hj=>?_;have hj:j=i\/j=k:=by simpa using hj
  rcases hj with rfl|rfl
  .split at hp
   .rename_i o ho;unfold wpOp;rw[ho];rcases cw h hp o rfl with ⟨hw,st1,h0,h2',ht',hn'⟩|⟨hw,st1,h0,h2',ht',hn'⟩
    .simp only[hw,if_true];refine .inl (Oper.wp_mono (fun a' w' ⟨⟨st',L',h1,h2,h8,h3,h4,h5,h6,h7⟩,h9⟩=>⟨h3,?_⟩) (fC (hT _ _ ho) (ic h2' hS (by rw[ht'];exact hy) hG (fun id hid=>by rw[hn'];exact hnx id hid) h0)));rw[hn'] at h5 h6 h7;exact b5 hsel hT hQ s _ a' w' st' L' h2 h3 h4 (fun id hid g hg'=>hG id hid g (by rw[<- h5 id (hnx id hid)];exact hg')) (fun id hid=>UY (hnx id hid) h6) (hE.step h5 h6 (by rw[ht'] at h7;exact h7)) (hA.trans ⟨h8,h9⟩) hB.1.2 h1 fuel' (by omega)
    .simp only[hw,VB,if_false];refine⟨hS,b5 hsel hT hQ s _ _ w _ L (bZ h2' o.dst) hS (by rw[etab,ht'];exact hy) hG (fun id hid=>by rw[enext,hn'];exact hnx id hid) (hE.same (by rw[etab,ht']) (by rw[enext,hn'])) (hA.put (hT _ _ ho)) hB.1.2 h0 fuel' (by omega)⟩
   .exact hp.elim
  .split at hp2
   .rename_i o ho;unfold wpOp;rw[ho];rcases cw h hp2 o rfl with ⟨hw,st1,h0,h2',ht',hn'⟩|⟨hw,st1,h0,h2',ht',hn'⟩
    .simp only[hw,if_true];refine .inl (Oper.wp_mono (fun a' w' ⟨⟨st',L',h1,h2,h8,h3,h4,h5,h6,h7⟩,h9⟩=>⟨h3,?_⟩) (fC (hT _ _ ho) (ic h2' hS (by rw[ht'];exact hy) hG (fun id hid=>by rw[hn'];exact hnx id hid) h0)));rw[hn'] at h5 h6 h7;exact b5 hsel hT hQ t _ a' w' st' L' h2 h3 h4 (fun id hid g hg'=>hG id hid g (by rw[<- h5 id (hnx id hid)];exact hg')) (fun id hid=>UY (hnx id hid) h6) (hE.step h5 h6 (by rw[ht'] at h7;exact h7)) (hA.trans ⟨h8,h9⟩) hB.2 h1 fuel' (by omega)
    .simp only[hw,VB,if_false];refine⟨hS,b5 hsel hT hQ t _ _ w _ L (bZ h2' o.dst) hS (by rw[etab,ht'];exact hy) hG (fun id hid=>by rw[enext,hn'];exact hnx id hid) (hE.same (by rw[etab,ht']) (by rw[enext,hn'])) (hA.put (hT _ _ ho)) hB.2 h0 fuel' (by omega)⟩
   .exact hp2.elim
 | .three i s k t m u,listed,a,w,st,L,h,hS,hy,hG,hnx,hE,hA,hB,hp,fuel,hf=>by
  simp only[ea,U1,U7] at hB;unfold cZ at hp;obtain⟨hp,hp2,hp3⟩:=hp;unfold dC at hp hp2 hp3;have etab:∀(st:aj) d av,(st.put d av).tab=st.tab:=fun st d av=>by cases d<;>rfl
  have enext:∀(st:aj) d av,(st.put d av).next=st.next:=fun st d av=>by cases d<;>rfl
  have hf1:s.len+1<=fuel:=Vj (WE (Xy s.len _)) hf;have hf2:t.len+1<=fuel:=Vj (WE (Vj (Xy t.len u.len) (Wy s.len _))) hf;have hf3:u.len+1<=fuel:=Vj (WE (Vj (Wy t.len u.len) (Wy s.len _))) hf;obtain⟨fuel',rfl⟩:∃f,fuel=f+1:=⟨fuel-1,by omega⟩;refine wpAnyH_all hB.1.1.1 (by simp) fun j hj=>?_;have hj:j=i\/j=k\/j=m:=by simpa using hj
  rcases hj with rfl|rfl|rfl
  .split at hp
   .rename_i o ho;unfold wpOp;rw[ho];rcases cw h hp o rfl with ⟨hw,st1,h0,h2',ht',hn'⟩|⟨hw,st1,h0,h2',ht',hn'⟩
    .simp only[hw,if_true];refine .inl (Oper.wp_mono (fun a' w' ⟨⟨st',L',h1,h2,h8,h3,h4,h5,h6,h7⟩,h9⟩=>⟨h3,?_⟩) (fC (hT _ _ ho) (ic h2' hS (by rw[ht'];exact hy) hG (fun id hid=>by rw[hn'];exact hnx id hid) h0)));rw[hn'] at h5 h6 h7;exact b5 hsel hT hQ s _ a' w' st' L' h2 h3 h4 (fun id hid g hg'=>hG id hid g (by rw[<- h5 id (hnx id hid)];exact hg')) (fun id hid=>UY (hnx id hid) h6) (hE.step h5 h6 (by rw[ht'] at h7;exact h7)) (hA.trans ⟨h8,h9⟩) hB.1.1.2 h1 fuel' (by omega)
    .simp only[hw,VB,if_false];refine⟨hS,b5 hsel hT hQ s _ _ w _ L (bZ h2' o.dst) hS (by rw[etab,ht'];exact hy) hG (fun id hid=>by rw[enext,hn'];exact hnx id hid) (hE.same (by rw[etab,ht']) (by rw[enext,hn'])) (hA.put (hT _ _ ho)) hB.1.1.2 h0 fuel' (by omega)⟩
   .exact hp.elim
  .split at hp2
   .rename_i o ho;unfold wpOp;rw[ho];rcases cw h hp2 o rfl with ⟨hw,st1,h0,h2',ht',hn'⟩|⟨hw,st1,h0,h2',ht',hn'⟩
    .simp only[hw,if_true];refine .inl (Oper.wp_mono (fun a' w' ⟨⟨st',L',h1,h2,h8,h3,h4,h5,h6,h7⟩,h9⟩=>⟨h3,?_⟩) (fC (hT _ _ ho) (ic h2' hS (by rw[ht'];exact hy) hG (fun id hid=>by rw[hn'];exact hnx id hid) h0)));rw[hn'] at h5 h6 h7;exact b5 hsel hT hQ t _ a' w' st' L' h2 h3 h4 (fun id hid g hg'=>hG id hid g (by rw[<- h5 id (hnx id hid)];exact hg')) (fun id hid=>UY (hnx id hid) h6) (hE.step h5 h6 (by rw[ht'] at h7;exact h7)) (hA.trans ⟨h8,h9⟩) hB.1.2 h1 fuel' (by omega)
    .simp only[hw,VB,if_false];refine⟨hS,b5 hsel hT hQ t _ _ w _ L (bZ h2' o.dst) hS (by rw[etab,ht'];exact hy) hG (fun id hid=>by rw[enext,hn'];exact hnx id hid) (hE.same (by rw[etab,ht']) (by rw[enext,hn'])) (hA.put (hT _ _ ho)) hB.1.2 h0 fuel' (by omega)⟩
   .exact hp2.elim
  .split at hp3
   .rename_i o ho;unfold wpOp;rw[ho];rcases cw h hp3 o rfl with ⟨hw,st1,h0,h2',ht',hn'⟩|⟨hw,st1,h0,h2',ht',hn'⟩
    .simp only[hw,if_true];refine .inl (Oper.wp_mono (fun a' w' ⟨⟨st',L',h1,h2,h8,h3,h4,h5,h6,h7⟩,h9⟩=>⟨h3,?_⟩) (fC (hT _ _ ho) (ic h2' hS (by rw[ht'];exact hy) hG (fun id hid=>by rw[hn'];exact hnx id hid) h0)));rw[hn'] at h5 h6 h7;exact b5 hsel hT hQ u _ a' w' st' L' h2 h3 h4 (fun id hid g hg'=>hG id hid g (by rw[<- h5 id (hnx id hid)];exact hg')) (fun id hid=>UY (hnx id hid) h6) (hE.step h5 h6 (by rw[ht'] at h7;exact h7)) (hA.trans ⟨h8,h9⟩) hB.2 h1 fuel' (by omega)
    .simp only[hw,VB,if_false];refine⟨hS,b5 hsel hT hQ u _ _ w _ L (bZ h2' o.dst) hS (by rw[etab,ht'];exact hy) hG (fun id hid=>by rw[enext,hn'];exact hnx id hid) (hE.same (by rw[etab,ht']) (by rw[enext,hn'])) (hA.put (hT _ _ ho)) hB.2 h0 fuel' (by omega)⟩
   .exact hp3.elim
 | .four i s k t m u n v,listed,a,w,st,L,h,hS,hy,hG,hnx,hE,hA,hB,hp,fuel,hf=>by
  simp only[ea,U1,U7] at hB;unfold cZ at hp;obtain⟨hp,hp2,hp3,hp4⟩:=hp;unfold dC at hp hp2 hp3 hp4;have etab:∀(st:aj) d av,(st.put d av).tab=st.tab:=fun st d av=>by cases d<;>rfl
  have enext:∀(st:aj) d av,(st.put d av).next=st.next:=fun st d av=>by cases d<;>rfl
  have hf1:s.len+1<=fuel:=Vj (WE (Xy s.len _)) hf;have hf2:t.len+1<=fuel:=Vj (WE (Vj (Xy t.len _) (Wy s.len _))) hf;have hf3:u.len+1<=fuel:=Vj (WE (Vj (Vj (Xy u.len v.len) (Wy t.len _)) (Wy s.len _))) hf;have hf4:v.len+1<=fuel:=Vj (WE (Vj (Vj (Wy u.len v.len) (Wy t.len _)) (Wy s.len _))) hf;obtain⟨fuel',rfl⟩:∃f,fuel=f+1:=⟨fuel-1,by omega⟩;refine wpAnyH_all hB.1.1.1.1 (by simp) fun j hj=>?_;have hj:j=i\/j=k\/j=m\/j=n:=by simpa using hj
  rcases hj with rfl|rfl|rfl|rfl
  .split at hp
   .rename_i o ho;unfold wpOp;rw[ho];rcases cw h hp o rfl with ⟨hw,st1,h0,h2',ht',hn'⟩|⟨hw,st1,h0,h2',ht',hn'⟩
    .simp only[hw,if_true];refine .inl (Oper.wp_mono (fun a' w' ⟨⟨st',L',h1,h2,h8,h3,h4,h5,h6,h7⟩,h9⟩=>⟨h3,?_⟩) (fC (hT _ _ ho) (ic h2' hS (by rw[ht'];exact hy) hG (fun id hid=>by rw[hn'];exact hnx id hid) h0)));rw[hn'] at h5 h6 h7;exact b5 hsel hT hQ s _ a' w' st' L' h2 h3 h4 (fun id hid g hg'=>hG id hid g (by rw[<- h5 id (hnx id hid)];exact hg')) (fun id hid=>UY (hnx id hid) h6) (hE.step h5 h6 (by rw[ht'] at h7;exact h7)) (hA.trans ⟨h8,h9⟩) hB.1.1.1.2 h1 fuel' (by omega)
    .simp only[hw,VB,if_false];refine⟨hS,b5 hsel hT hQ s _ _ w _ L (bZ h2' o.dst) hS (by rw[etab,ht'];exact hy) hG (fun id hid=>by rw[enext,hn'];exact hnx id hid) (hE.same (by rw[etab,ht']) (by rw[enext,hn'])) (hA.put (hT _ _ ho)) hB.1.1.1.2 h0 fuel' (by omega)⟩
   .exact hp.elim
  .split at hp2
   .rename_i o ho;unfold wpOp;rw[ho];rcases cw h hp2 o rfl with ⟨hw,st1,h0,h2',ht',hn'⟩|⟨hw,st1,h0,h2',ht',hn'⟩
    .simp only[hw,if_true];refine .inl (Oper.wp_mono (fun a' w' ⟨⟨st',L',h1,h2,h8,h3,h4,h5,h6,h7⟩,h9⟩=>⟨h3,?_⟩) (fC (hT _ _ ho) (ic h2' hS (by rw[ht'];exact hy) hG (fun id hid=>by rw[hn'];exact hnx id hid) h0)));rw[hn'] at h5 h6 h7;exact b5 hsel hT hQ t _ a' w' st' L' h2 h3 h4 (fun id hid g hg'=>hG id hid g (by rw[<- h5 id (hnx id hid)];exact hg')) (fun id hid=>UY (hnx id hid) h6) (hE.step h5 h6 (by rw[ht'] at h7;exact h7)) (hA.trans ⟨h8,h9⟩) hB.1.1.2 h1 fuel' (by omega)
    .simp only[hw,VB,if_false];refine⟨hS,b5 hsel hT hQ t _ _ w _ L (bZ h2' o.dst) hS (by rw[etab,ht'];exact hy) hG (fun id hid=>by rw[enext,hn'];exact hnx id hid) (hE.same (by rw[etab,ht']) (by rw[enext,hn'])) (hA.put (hT _ _ ho)) hB.1.1.2 h0 fuel' (by omega)⟩
   .exact hp2.elim
  .split at hp3
   .rename_i o ho;unfold wpOp;rw[ho];rcases cw h hp3 o rfl with ⟨hw,st1,h0,h2',ht',hn'⟩|⟨hw,st1,h0,h2',ht',hn'⟩
    .simp only[hw,if_true];refine .inl (Oper.wp_mono (fun a' w' ⟨⟨st',L',h1,h2,h8,h3,h4,h5,h6,h7⟩,h9⟩=>⟨h3,?_⟩) (fC (hT _ _ ho) (ic h2' hS (by rw[ht'];exact hy) hG (fun id hid=>by rw[hn'];exact hnx id hid) h0)));rw[hn'] at h5 h6 h7;exact b5 hsel hT hQ u _ a' w' st' L' h2 h3 h4 (fun id hid g hg'=>hG id hid g (by rw[<- h5 id (hnx id hid)];exact hg')) (fun id hid=>UY (hnx id hid) h6) (hE.step h5 h6 (by rw[ht'] at h7;exact h7)) (hA.trans ⟨h8,h9⟩) hB.1.2 h1 fuel' (by omega)
    .simp only[hw,VB,if_false];refine⟨hS,b5 hsel hT hQ u _ _ w _ L (bZ h2' o.dst) hS (by rw[etab,ht'];exact hy) hG (fun id hid=>by rw[enext,hn'];exact hnx id hid) (hE.same (by rw[etab,ht']) (by rw[enext,hn'])) (hA.put (hT _ _ ho)) hB.1.2 h0 fuel' (by omega)⟩
   .exact hp3.elim
  .split at hp4
   .rename_i o ho;unfold wpOp;rw[ho];rcases cw h hp4 o rfl with ⟨hw,st1,h0,h2',ht',hn'⟩|⟨hw,st1,h0,h2',ht',hn'⟩
    .simp only[hw,if_true];refine .inl (Oper.wp_mono (fun a' w' ⟨⟨st',L',h1,h2,h8,h3,h4,h5,h6,h7⟩,h9⟩=>⟨h3,?_⟩) (fC (hT _ _ ho) (ic h2' hS (by rw[ht'];exact hy) hG (fun id hid=>by rw[hn'];exact hnx id hid) h0)));rw[hn'] at h5 h6 h7;exact b5 hsel hT hQ v _ a' w' st' L' h2 h3 h4 (fun id hid g hg'=>hG id hid g (by rw[<- h5 id (hnx id hid)];exact hg')) (fun id hid=>UY (hnx id hid) h6) (hE.step h5 h6 (by rw[ht'] at h7;exact h7)) (hA.trans ⟨h8,h9⟩) hB.2 h1 fuel' (by omega)
    .simp only[hw,VB,if_false];refine⟨hS,b5 hsel hT hQ v _ _ w _ L (bZ h2' o.dst) hS (by rw[etab,ht'];exact hy) hG (fun id hid=>by rw[enext,hn'];exact hnx id hid) (hE.same (by rw[etab,ht']) (by rw[enext,hn'])) (hA.put (hT _ _ ho)) hB.2 h0 fuel' (by omega)⟩
   .exact hp4.elim
theorem lV{ops:Array Oper}{K:aj->Prop}{T:ae}{Tz:Nat->Prop}{a0:Act}{nx:Nat}{ids:List Nat}{S:World->Prop}{Q:Exit->Act->World->Prop}(hsel:Region.noSelect ops=true)(hTz:∀(i:Nat)(o:Oper),ops[i]? = some o->∀t,Tz t->o.dst≠some t)(s:m7)(hS:S w)
  (hSw:∀w' b,S w' -> (Sx cx w T L b\/∃id o,id∉ids/\T.get id=some o/\aL (L id)=some b)->vG b w w')
  (hQ:∀listed a st,cr Tz a0 a->st.tab=T->st.next=nx->ea ops s listed=true->K st->aH cx a w st L->∀fuel,s.len<=fuel->wpAnyH P .any ops (mN Q) S fuel listed a w):∀(hd:List Nat)(listed:Array Bool)(a:Act)(st:aj),
  cr Tz a0 a->aH cx a w st L->st.tab=T->st.next=nx->qf ops hd s listed=true->jS P ops ids K hd st->∀fuel,hd.length+s.len<=fuel->wpAnyH P .any ops (mN Q) S fuel listed a w
 | [],listed,a,st,hA,h,hT,hN,hB,hp,fuel,hf=>hQ listed a st hA hT hN hB hp h fuel (by simpa using hf)
 | i :: hd,listed,a,st,hA,h,hT,hN,hB,hp,fuel,hf=>by
  simp only[qf,U1] at hB;unfold jS sS at hp;have etab:∀(st:aj) d av,(st.put d av).tab=st.tab:=fun st d av=>by cases d<;>rfl
  have enext:∀(st:aj) d av,(st.put d av).next=st.next:=fun st d av=>by cases d<;>rfl
  split at hp
  .rename_i o ho;obtain⟨fuel',rfl⟩:∃f,fuel=f+1:=⟨fuel-1,by simp at hf;omega⟩;rcases cw h hp o rfl with ⟨hw,st',⟨hl,h0⟩,h2',ht',hn'⟩|⟨hw,st',h0,h2',ht',hn'⟩
   .by_cases hbld:∃t parts,o.op=.build t parts
    .obtain ⟨t,parts,hop⟩:=hbld;rw[hop] at h0;obtain⟨v,cs,h3,h4,h5,h6⟩:=mg h2' h0;refine wpAnyH_take (v:=v) ho hsel hB.1.1 hB.1.2 (fun _ _ _ h=>h) (.inl ⟨hw,fun w' _=>by simp[execOp,hop,Sem.run_bind,h5 w']⟩) hS ?_;exact lV hsel hTz s hS hSw hQ hd _ _ _ (hA.put (hTz _ _ ho)) (bh h2' h3 h4 o.dst) (by rw[etab,ht',hT]) (by rw[enext,hn',hN]) hB.2 h6 fuel' (by simp at hf;omega)
    replace h0:cj P st'.tab (bb st') o.op (aK st' o.dst (jS P ops ids K hd)):=by
     unfold eh at h0;split at h0
     .rename_i t parts hop;exact absurd ⟨t,parts,hop⟩ hbld
     .exact h0
    obtain⟨v,av,h1,h2,h3,_,h5,h6⟩:=li h2'.lay (fun id o hid=>(h2'.young id o hid).2) (ak h2') h0
    have hy:∀w',S w' -> (execOp a.eval o).run P w'=.ok (.value v) w':=fun w' hw'=>by
     cases hld:jj o.op with
     | false=>exact h5 hld w'
     | true=>
      obtain⟨t,x,hop⟩:∃t x,o.op=.load t x:=by
       cases hop:o.op<;>simp[hop,jj] at hld;exact⟨_,_,rfl⟩
      obtain⟨b,hb,hr⟩:=h6 t x hop;refine hr w' (hSw w' b hw' ?_);rw[hop] at hl;have hev:=(ak h2' x).1;unfold pF Ao at hl;simp only at hl;split at hl
      .rename_i id i j he;rw[he] at hev;rw[hop] at h0;simp only[cj,kC,he] at h0
       cases hg:st'.tab.get id with
       | none=>rw[hg] at h0;exact h0.elim
       | some ob=>
        obtain⟨g,hg1,hg2⟩:=hev.op_inv _ _ (cN hg);rw[hg2] at hb;simp[aL] at hb;subst hb;exact .inr ⟨id,ob,hl,by rw[<- hT,<- ht'];exact hg,hg1⟩
      .rename_i cs he;rw[he] at hev;obtain⟨b',o',U,hg2,hb',_⟩:=hev.rp_inv;rw[hg2] at hb;simp[aL] at hb;subst hb;refine .inl ?_;rw[<- hT,<- ht'];exact hb'
      .exact hl.elim
    refine wpAnyH_take ho hsel hB.1.1 hB.1.2 (fun _ _ _ h=>h) (.inl ⟨hw,hy⟩) hS ?_;exact lV hsel hTz s hS hSw hQ hd _ _ _ (hA.put (hTz _ _ ho)) (bh h2' h2 h3 o.dst) (by rw[etab,ht',hT]) (by rw[enext,hn',hN]) hB.2 h1 fuel' (by simp at hf;omega)
   .refine wpAnyH_take (v:=undef) ho hsel hB.1.1 hB.1.2 (fun _ _ _ h=>h) (.inr ⟨hw,rfl⟩) hS ?_;exact lV hsel hTz s hS hSw hQ hd _ _ _ (hA.put (hTz _ _ ho)) (bZ h2' o.dst) (by rw[etab,ht',hT]) (by rw[enext,hn',hN]) hB.2 h0 fuel' (by simp at hf;omega)
  .exact hp.elim
theorem nZ{p:Nat->Prop}(h:∃n,p n):∃n,p n/\∀m,p m->n<=m:=by
 obtain⟨n,hn⟩:=h
 induction n using Nat.strongRecOn with
 | _ n ih=>
  by_cases hx:∃m,m<n/\p m
  .obtain ⟨m,hm,hp⟩:=hx;exact ih m hm hp
  .exact ⟨n,hn,fun m hm=>W9 fun hlt=>hx ⟨m,hlt,hm⟩⟩
open Classical in
noncomputable def lx(p:Nat->Prop):Nat:=if h:∃n,p n then (nZ h).choose else 0
theorem gV{p:Nat->Prop}(h:∃n,p n):p (lx p)/\∀m,p m->lx p<=m:=by
 unfold lx;rw[dif_pos h];exact(nZ h).choose_spec
abbrev nJ(cx:Cx)(Q:Exit->aj->Prop):Exit->Act->World->Prop:=fun e a w=>∃st L,Q e st/\aH cx a w st L
theorem ms(hm:P.follows .mixedOrders=true):∀(c:Code)(Q:Exit->aj->Prop)(a:Act)(w:World)(st:aj)(L:Nat->Value),aH cx a w st L->bt P c Q st->c.wp P (nJ cx Q) a w:=by
 intro c
 induction c with
 | skip=>exact fun Q a w st L h hp=>wp_skip ⟨st,L,hp,h⟩
 | region id ops draw=>
  intro Q a w st L h hp;unfold bt HI at hp
  cases draw with
  | false=>exact wp_region_list (wW (fun a w st L h1 h2=>⟨st,L,h1,h2⟩) _ _ _ _ _ h (by simpa using hp))
  | true=>
   simp only[if_true] at hp;obtain⟨l⟩:=ops;rcases hp with ⟨hB,hp⟩|⟨n,hB,hp⟩|⟨ids,hd,s,hB,K',hK',hids,hp⟩
   .exact wp_region_quiet (C:=fun w'=>Below w.heap.size w w') hm hB ((Below.refl _ _).drew) (mO (L:=L) (T:=fun _=>False) (a0:=a) (tab0:=st.tab) (fun a' st' h1 h2 _ _ w' hw'=>⟨st',L,h1,fQ h2 hw'⟩) _ _ _ (fun _ _ _ h=>h.elim) rfl (.refl a) h hp)
   .have h':aH cx a w.drew st L:=fQ h ((Below.refl _ _).drew);exact wp_region_still_tail n hm hB (rk (T:=fun _=>False) (a0:=a) (tab0:=st.tab) (fun a' st' h1 h2 _ _=>wW (fun a w st L h1 h2=>⟨st,L,h1,h2⟩) _ _ _ _ _ h2 h1) _ _ _ (fun _ _ _ h=>h.elim) rfl (.refl a) h' hp)
   .simp only[U1] at hB;have hB:=And.intro hB.1 (Wo hB.2);have h':aH cx a w.drew st L:=fQ h ((Below.refl _ _).drew)
    let G:Nat->Prop:=fun k=>∃id∈ids,aL (L id)=some k
    refine Code.wp_mono (Q:=mN (nJ cx Q)) (fun e a w hq=>?_) (wp_region_held (S:=fun w'=>mb w.drew.heap.size G w.drew w') hm ?_)
    .cases e<;>first|exact hq|exact hq.elim
    .refine lV (T:=st.tab) (Tz:=fun _=>False) (a0:=a) (nx:=st.next) (ids:=ids) hB.1.1 (fun _ _ _ _ h=>h.elim) s ⟨UU _,fun _ _ _=>rfl⟩ (fun w' b hw' hb o u hu=>?_) (fun listed a' st' _ hT hN hB' hK h2 fuel hf=>?_) hd _ _ _ (.refl a) h' rfl rfl hB.1.2 hp _ hB.2
     .have hlt:=World.block_lt_of_cell? w.drew _ hu;refine(World.cell?_of_block (hw'.block b hlt fun⟨id,hid,hbl⟩=>?_)).trans hu;obtain⟨ob,hob⟩:=VY.1 (hids id hid);rcases hb with hb|⟨id',o',hni,hget,hbl'⟩
      .exact hb.2.2 id ob hob hbl
      .exact hni (h.lay.sep id' id o' ob b hget hob hbl' hbl ▸ hid)
     .refine b5 (Q:=nJ cx Q) (T0:=st.tab) (T:=fun _=>False) (a0:=a') (L0:=L) hB.1.1 (fun _ _ _ _ h=>h.elim) (fun a w st L h1 h2 _ _ _ _=>(hK' st h1).elim fun st' h3=>(h3.1 cx a w L h2).elim fun L' h4=>⟨st',L',h3.2,h4.1⟩) s listed a' w.drew st' L h2 ⟨UU _,fun _ _ _=>rfl⟩ (fun id o g h3 h4 _=>by
       rw[hT] at h4;have:=(h.young id o h4).1;omega) (fun id hid g hg=>⟨id,hid,hg⟩) (fun id hid=>by
       obtain⟨ob,hob⟩:=VY.1 (hids id hid);rw[hN];exact(h.young id ob hob).1) ⟨fun _ _=>rfl,by rw[hN];exact UU _,fun id o _ hg=>⟨o,by rw[<- hT];exact hg⟩,fun id o g _ hni hg hbl=>?_⟩ (.refl a') hB' hK fuel hf
      refine⟨((h'.lay.objs id _ hg).ge hbl).2,fun⟨id',hid',hbl'⟩=>hni ?_⟩;obtain⟨ob,hob⟩:=VY.1 (hids id' hid');exact h.lay.sep id id' _ ob g hg hob hbl hbl' ▸ hid'
 | seq x y ihx ihy=>
  intro Q a w st L h hp;unfold bt at hp;refine wp_seq (Code.wp_mono (fun e a' w' ⟨st',L',h1,h2⟩=>?_) (ihx _ a w st L h hp))
  cases e with
  | normal=>exact ihy Q a' w' st' L' h2 h1
  | _=>exact⟨st',L',h1,h2⟩
 | cond c x y ihx ihy=>
  intro Q a w st L h hp;unfold bt oX at hp;split at hp
  .rename_i b hb;have hv:=(ak h c).1;rw[hb] at hv;have hv:=hv.c_inv;cases b
   .exact wp_cond_false hv (ihy Q a w st L h hp)
   .exact wp_cond_true hv (ihx Q a w st L h hp)
  .exact hp.elim
 | block id x ih=>
  intro Q a w st L h hp;unfold bt at hp;refine wp_block (Code.wp_mono (fun e a' w' ⟨st',L',h1,h2⟩=>?_) (ih _ a w st L h hp))
  cases e with
  | exit id'=>
   simp only[ik,Exit.inBlock] at h1 ⊢;split
   .rename_i e;rw[UZ e] at h1;exact⟨st',L',h1,h2⟩
   .rename_i e;rw[UX e] at h1;exact⟨st',L',h1,h2⟩
  | _=>exact⟨st',L',h1,h2⟩
 | loop x ih=>
  intro Q a w st L h hp;unfold bt at hp;obtain⟨I,μ,⟨PL,hw0,hI⟩,hr⟩:=hp
  let p:Act->World->Nat->Prop:=fun a w n=>∃st L,I st/\aH cx a w st L /\ μ st=n
  obtain⟨L0,hL0,_⟩:=hw0 _ _ _ _ h;refine wp_loop (fun a w=>∃n,p a w n) (fun a w=>lx (p a w)) ⟨_,PL,L0,hI,hL0,rfl⟩ fun a w hpa=>?_;obtain⟨⟨st,L,h1,h2,h3⟩,_⟩:=gV hpa;refine Code.wp_mono (fun e a' w' ⟨st',L',h4,h5⟩=>?_) (ih _ a w st L h2 (hr st h1))
  cases e with
  | normal=>
   obtain⟨st'',hw,hI'',hlt⟩:=h4;obtain⟨L1,hL1,_⟩:=hw _ _ _ _ h5;have hpn:p a' w' (μ st''):=⟨st'',L1,hI'',hL1,rfl⟩;refine⟨⟨_,hpn⟩,?_⟩;have:=(gV ⟨_,hpn⟩).2 _ hpn;show lx (p a' w')<lx (p a w);omega
  | _=>exact⟨st',L',h4,h5⟩
 | exit id=>exact fun Q a w st L h hp=>wp_exit ⟨st,L,hp,h⟩
 | ret=>exact fun Q a w st L h hp=>wp_ret ⟨st,L,hp,h⟩
 | rangeFunc g ps assign body=>exact fun Q a w st L h hp=>hp cx a w L h
 | label l=>exact fun Q a w st L h hp=>wp_label ⟨st,L,hp,h⟩
 | scope x ih=>
  intro Q a w st L h hp;unfold bt at hp;refine wp_scope_straight (Code.wp_mono (fun e a' w' ⟨st',L',h1,h2⟩=>?_) (ih _ a w st L h hp))
  cases e with
  | goto l=>exact h1
  | _=>exact⟨st',L',h1,h2⟩
 | _=>exact fun Q a w st L h hp=>hp.elim
end
end
end
end Go.Proofs.YtglaiabelcefeaaGreat
