/-
  Parts of the proof: Qtp7, Qtp8, Qtp9.
-/
import Derived.Test.YtiaiihjmmfakdaaGreatDoorQtq4
import Derived.Lib.SlicesCompact
import Derived.Test.YtiaiihjmmfakdaaGreatDoorSortShelf
import Derived.Sort.OwnSortedInts
import Derived.Test.YtiaiihjmmfakdaaGreatDoorProg
import Derived.WalkKit
import Derived.Deep.OwnRows
import Derived.Deep.RegionWith
set_option linter.unusedVariables false
set_option linter.unusedSimpArgs false
set_option linter.defProp false
set_option maxRecDepth 100000
set_option maxHeartbeats 16000000
namespace Go.Proofs.YtiaiihjmmfakdaaGreatDoor
open Go.RowKit
section
section
section
variable {P:Program} {cx:Cx} {a:Act} {w w' w'':World} {st st':aj} {tab tab' tab'':af} {L L' L'':Nat -> Value} {nx nx':Nat}
theorem Fz.refl:Fz w tab L w tab L:=⟨Nz _,fun _ _ _=>rfl,fun id o g h1 h2 _=>⟨id,o,h1,h2⟩⟩
theorem Fz.trans (h:Fz w tab L w' tab' L') (k:Fz w' tab' L' w'' tab'' L''):Fz w tab L w'' tab'' L'':=
  ⟨N2 h.size k.size,
   fun j hj hn=>(k.keep j (NH hj h.size) fun id o h1 h2=>(h.young id o j h1 h2 hj).elim fun id2 ⟨o2,h3,h4⟩=>hn id2 o2 h3 h4).trans (h.keep j hj hn),
   fun id o g h1 h2 hg=>(k.young id o g h1 h2 (NH hg h.size)).elim fun id2 ⟨o2,h3,h4⟩=>h.young id2 o2 g h3 h4 hg⟩
theorem Fr.fz (h:Fr cx w tab L nx w' tab' L' nx'):Fz w tab L w' tab' L':=⟨h.size,h.keep,h.young⟩
theorem uB (hw:eX st st') (h:aG cx a w st L):∃ L',aG cx a w st' L' /\ Fz w st.tab L w st'.tab L':=by
 obtain ⟨L',h1,h2⟩:=hw _ _ _ _ h;refine ⟨L',h1,Nz _,fun _ _ _=>rfl,fun id o g h3 h4 h5=>?_⟩;refine Classical.byContradiction fun hno=>?_;have hS:Sx cx w st.tab L g:=⟨h5,⟨.inr ((h1.lay.objs id o h3).ge h4).1,fun hX=>(h1.lay.ex g hX).2 id o h3 h4⟩,fun id2 o2 h6 h7=>hno ⟨id2,o2,h6,h7⟩⟩;exact (h2 g hS).2.2 id o h3 h4
theorem py {ops:Array Oper} {K:aj -> Prop} {Q:Exit -> Act -> World -> Prop} {T:Nat -> Prop}:∀ (l:List Oper) (a:Act) (w:World) (st:aj) (L:Nat -> Value),(∀ o ∈ l,MX o=true /\ ∀ t,T t -> o.dst ≠ some t) ->
  (∀ a' w' st' L',K st' -> aG cx a' w' st' L' -> Fz w st.tab L w' st'.tab L' -> b5 T a a' -> Q .normal a' w') -> aG cx a w st L -> lk P ops K l st -> wpList P ops Q l a w
 | [],a,w,st,L,_,hQ,h,hp=>hQ a w st L hp h Fz.refl (.refl a)
 | o :: rest,a,w,st,L,hf,hQ,h,hp=>by
  unfold lk at hp;obtain ⟨hfo,hdo⟩:=hf o (Ob ..);have hrest:=fun o' (ho':o' ∈ rest)=>hf o' (N7 _ ho');refine wpList_step fun K' hK'=>?_;rcases cq h hp o rfl with ⟨hw,st1,h1,h2,e1,e2⟩|⟨hw,st1,h1,h2,e1,e2⟩
  .rw [ND hw];refine Oper.wp_mono (fun a' w' ⟨⟨st2,L2,h3,h4,h5,h6⟩,h7⟩=>hK' a' w' (py rest a' w' st2 L2 hrest (fun a3 w3 st3 L3 h8 h9 h10 h11=>hQ a3 w3 st3 L3 h8 h9 ?_ (b5.trans ⟨h6,h7⟩ h11)) h4 h3)) (dW hdo (Jg h2 h1 hfo));have h5:=h5.fz;rw [e1] at h5;exact h5.trans h10
  .rw [Ny (by simp [hw])];refine hK' _ _ (py rest _ w _ L hrest (fun a3 w3 st3 L3 h8 h9 h10 h11=>hQ a3 w3 st3 L3 h8 h9 ?_ (((b5.refl a).put hdo).trans h11)) (bS h2 o.dst) h1);rw [bH,e1] at h10;exact h10
theorem Fz.below (hy:∀ id o g,tab.get id=some o -> aF (L id)=some g -> g<w.heap.size) (hb:Below w.heap.size w w'):Fz w tab L w' tab L:=⟨hb.size,fun k hk _=>hb.block k hk,fun id o g h1 h2 _=>⟨id,o,h1,h2⟩⟩
def gp (t:Nat):Code -> Bool
 | .skip=>true
 | .region _ ops _=>ops.toList.all fun o=>MX o && !(o.dst == some t)
 | .seq x y=>gp t x && gp t y
 | .cond _ x y=>gp t x && gp t y
 | .block _ x=>gp t x
 | .loop x=>gp t x
 | .exit _=>true
 | .ret=>true
 | .label _=>true
 | .scope x=>gp t x
 | _=>false
abbrev tY (cx:Cx) (a:Act) (w:World) (tab:af) (L:Nat -> Value) (t:Nat) (Q:Exit -> aj -> Prop):Exit -> Act -> World -> Prop:=fun e a' w'=>∃ st' L',Q e st' /\ aG cx a' w' st' L' /\ Fz w tab L w' st'.tab L' /\ b5 (fun k=>k=t) a a'
theorem Dh (hm:P.follows .mixedOrders=true) (t:Nat):∀ (c:Code),gp t c=true -> ∀ (Q:Exit -> aj -> Prop) (a:Act) (w:World) (st:aj) (L:Nat -> Value),aG cx a w st L -> bD P c Q st -> c.wp P (tY cx a w st.tab L t Q) a w:=by
 intro c
 induction c with
 | skip=>exact fun _ Q a w st L h hp=>wp_skip ⟨st,L,hp,h,Fz.refl,.refl a⟩
 | region id ops draw=>
  intro hf Q a w st L h hp;unfold bD DD at hp;simp only [gp,List.all_eq_true,NU] at hf;have hf:∀ o ∈ ops.toList,MX o=true /\ ∀ k,k=t -> o.dst ≠ some k:=fun o ho=>⟨(hf o ho).1,fun k hk=>by subst hk;simpa using (hf o ho).2⟩;have hT:∀ (i:Nat) (o:Oper),ops[i]? = some o -> ∀ k,k=t -> o.dst ≠ some k:=fun i o ho=>(hf o (Array.mem_toList_iff.2 (Array.mem_of_getElem? ho))).2;have hyg:∀ id o g,st.tab.get id=some o -> aF (L id)=some g -> g<w.heap.size:=fun id o g h1 h2=>((h.lay.objs id o h1).ge h2).2
  cases draw with
  | false=>exact wp_region_list (py (T:=fun k=>k=t) _ a w st L hf (fun a' w' st' L' h1 h2 h3 h4=>⟨st',L',h1,h2,h3,h4⟩) h (by simpa using hp))
  | true=>
   simp only [if_true] at hp;obtain ⟨l⟩:=ops;rcases hp with ⟨hB,hp⟩|⟨n,hB,hp⟩|⟨ids,hd,s,hB,K',hK',hids,hp⟩
   .exact wp_region_quiet (C:=fun w'=>Below w.heap.size w w') hm hB ((Below.refl _ _).drew) (k5 (L:=L) (T:=fun k=>k=t) (a0:=a) (tab0:=st.tab) (fun a' st' h1 h2 h3 h4 w' hw'=>⟨st',L,h1,f6 h2 hw',by rw [h3];exact Fz.below hyg hw',h4⟩) _ _ _ (fun o ho=>(hf o ho).2) rfl (.refl a) h hp)
   .have h':aG cx a w.drew st L:=f6 h ((Below.refl _ _).drew);have hz:Fz w st.tab L w.drew st.tab L:=Fz.below hyg ((Below.refl _ _).drew);exact wp_region_still_tail n hm hB (po (T:=fun k=>k=t) (a0:=a) (tab0:=st.tab) (fun a' st' h1 h2 h3 h4=>py (T:=fun k=>k=t) _ a' w.drew st' L (fun o ho=>hf o (OH ho)) (fun a2 w2 st2 L2 h5 h6 h7 h8=>⟨st2,L2,h5,h6,hz.trans (by rw [<- h3];exact h7),h4.trans h8⟩) h2 h1) _ _ _ (fun o ho=>(hf o (N6 ho)).2) rfl (.refl a) h' hp)
   .simp only [NU] at hB;have hB:=And.intro hB.1 (Nat.le_of_ble_eq_true hB.2);have h':aG cx a w.drew st L:=f6 h ((Below.refl _ _).drew)
    let G:Nat -> Prop:=fun k=>∃ id ∈ ids,aF (L id)=some k
    refine Code.wp_mono (Q:=lh (tY cx a w st.tab L t Q)) (fun e a w hq=>?_) (wp_region_held (S:=fun w'=>kz w.drew.heap.size G w.drew w') hm ?_)
    .cases e<;>first|exact hq|exact hq.elim
    .refine kp (T:=st.tab) (Tz:=fun k=>k=t) (a0:=a) (nx:=st.next) (ids:=ids) hB.1.1 hT s ⟨Nz _,fun _ _ _=>rfl⟩ (fun w' b hw' hb o u hu=>?_) (fun listed a' st' hA hT' hN hB' hK h2 fuel hf'=>?_) hd _ _ _ (.refl a) h' rfl rfl hB.1.2 hp _ hB.2
     .have hlt:=World.block_lt_of_cell? w.drew _ hu;refine (World.cell?_of_block (hw'.block b hlt fun ⟨id,hid,hbl⟩=>?_)).trans hu;obtain ⟨ob,hob⟩:=Oo.1 (hids id hid);rcases hb with hb|⟨id',o',hni,hget,hbl'⟩
      .exact hb.2.2 id ob hob hbl
      .exact hni (h.lay.sep id' id o' ob b hget hob hbl' hbl ▸ hid)
     .refine bG (Q:=tY cx a w st.tab L t Q) (T0:=st.tab) (T:=fun k=>k=t) (a0:=a) (L0:=L) hB.1.1 hT (fun a2 w2 st2 L2 h3 h4 h5 h6 h7 h8=>?_) s listed a' w.drew st' L h2 ⟨Nz _,fun _ _ _=>rfl⟩ (fun id o g h3 h4 _=>by
       rw [hT'] at h4;have:=(h.young id o h4).1;omega) (fun id hid g hg=>⟨id,hid,hg⟩) (fun id hid=>by
       obtain ⟨ob,hob⟩:=Oo.1 (hids id hid);rw [hN];exact (h.young id ob hob).1) ⟨fun _ _=>rfl,by rw [hN];exact Nz _,fun id o _ hg=>⟨o,by rw [<- hT'];exact hg⟩,fun id o g _ hni hg hbl=>?_⟩ hA hB' hK fuel hf'
      .obtain ⟨st3,hw3,h9⟩:=hK' st2 h3;obtain ⟨L3,h10,h11⟩:=uB hw3 h4;have hG:∀ k,G k -> ∃ id o,st.tab.get id=some o /\ aF (L id)=some k:=fun k ⟨id,hid,hbl⟩=>(Oo.1 (hids id hid)).elim fun ob hob=>⟨id,ob,hob,hbl⟩
       have hz:Fz w st.tab L w2 st2.tab L2:=by
        have hsz:w.drew.heap.size=w.heap.size:=rfl;refine ⟨h5.size,fun k hk hn=>h5.block k hk fun hg=>?_,fun id o g h12 h13 h14=>?_⟩
        .obtain ⟨id,ob,h12,h13⟩:=hG k hg;exact hn id ob h12 h13
        .rcases NP id st.next with hlt | hge
         .obtain ⟨o',ho'⟩:=h7.old id o hlt h12;exact ⟨id,o',ho',by rw [<- h7.loc id hlt];exact h13⟩
         .rcases h6 id o g hge h12 h13 with h15 | h15
          .have:w.heap.size<=g:=h15;omega
          .exact hG g h15
       exact ⟨st3,L3,h9,h10,hz.trans h11,h8⟩
      .refine ⟨((h'.lay.objs id _ hg).ge hbl).2,fun ⟨id',hid',hbl'⟩=>hni ?_⟩;obtain ⟨ob,hob⟩:=Oo.1 (hids id' hid');exact h.lay.sep id id' _ ob g hg hob hbl hbl' ▸ hid'
 | seq x y ihx ihy=>
  intro hf Q a w st L h hp;simp only [gp,NU] at hf;unfold bD at hp;refine wp_seq (Code.wp_mono (fun e a' w' ⟨st',L',h1,h2,h3,h4⟩=>?_) (ihx hf.1 _ a w st L h hp))
  cases e with
  | normal=>exact Code.wp_mono (fun e a2 w2 ⟨st2,L2,k1,k2,k3,k4⟩=>⟨st2,L2,k1,k2,h3.trans k3,h4.trans k4⟩) (ihy hf.2 Q a' w' st' L' h2 h1)
  | _=>exact ⟨st',L',h1,h2,h3,h4⟩
 | cond c x y ihx ihy=>
  intro hf Q a w st L h hp;simp only [gp,NU] at hf;unfold bD u2 at hp;split at hp
  .rename_i b hb;have hv:=(ak h c).1;rw [hb] at hv;have hv:=hv.c_inv;cases b
   .exact wp_cond_false hv (ihy hf.2 Q a w st L h hp)
   .exact wp_cond_true hv (ihx hf.1 Q a w st L h hp)
  .exact hp.elim
 | block id x ih=>
  intro hf Q a w st L h hp;simp only [gp] at hf;unfold bD at hp;refine wp_block (Code.wp_mono (fun e a' w' ⟨st',L',h1,h2,h3⟩=>?_) (ih hf _ a w st L h hp))
  cases e with
  | exit id'=>
   simp only [gY,Exit.inBlock] at h1 ⊢;split
   .rename_i e;rw [ND e] at h1;exact ⟨st',L',h1,h2,h3⟩
   .rename_i e;rw [Ny e] at h1;exact ⟨st',L',h1,h2,h3⟩
  | _=>exact ⟨st',L',h1,h2,h3⟩
 | loop x ih=>
  intro hf Q a0 w0 st0 L0 h hp;simp only [gp] at hf;unfold bD at hp;obtain ⟨I,μ,⟨st1,hw1,hI⟩,hr⟩:=hp
  let p:Act -> World -> Nat -> Prop:=fun a w n=>∃ st L,I st /\ aG cx a w st L /\ (Fz w0 st0.tab L0 w st.tab L /\ b5 (fun k=>k=t) a0 a) /\ μ st=n
  obtain ⟨L1,hL1,hz1⟩:=uB hw1 h;refine wp_loop (fun a w=>∃ n,p a w n) (fun a w=>nw (p a w)) ⟨_,st1,L1,hI,hL1,⟨hz1,.refl a0⟩,rfl⟩ fun a w hpa=>?_;obtain ⟨⟨st,L,h1,h2,⟨h3,h3a⟩,h4⟩,_⟩:=jA hpa;refine Code.wp_mono (fun e a' w' ⟨st',L',h5,h6,h7,h8⟩=>?_) (ih hf _ a w st L h2 (hr st h1))
  cases e with
  | normal=>
   obtain ⟨st'',hw,hI'',hlt⟩:=h5;obtain ⟨L1,hL1,hz1⟩:=uB hw h6;have hpn:p a' w' (μ st''):=⟨st'',L1,hI'',hL1,⟨(h3.trans h7).trans hz1,h3a.trans h8⟩,rfl⟩;refine ⟨⟨_,hpn⟩,?_⟩;have:=(jA ⟨_,hpn⟩).2 _ hpn;show nw (p a' w')<nw (p a w);omega
  | _=>exact ⟨st',L',h5,h6,h3.trans h7,h3a.trans h8⟩
 | exit id=>exact fun _ Q a w st L h hp=>wp_exit ⟨st,L,hp,h,Fz.refl,.refl a⟩
 | ret=>exact fun _ Q a w st L h hp=>wp_ret ⟨st,L,hp,h,Fz.refl,.refl a⟩
 | label l=>exact fun _ Q a w st L h hp=>wp_label ⟨st,L,hp,h,Fz.refl,.refl a⟩
 | scope x ih=>
  intro hf Q a w st L h hp;simp only [gp] at hf;unfold bD at hp;refine wp_scope_straight (Code.wp_mono (fun e a' w' ⟨st',L',h1,h2⟩=>?_) (ih hf _ a w st L h hp))
  cases e with
  | goto l=>exact h1
  | _=>exact ⟨st',L',h1,h2⟩
 | _=>exact fun hf=>(by cases hf)
end
theorem ML {P:Program} {st:aj} {g:FuncId} {K:AV -> aj -> Prop} {id e sz:Nat} {rows rows':List (List AV)} {rest:List AV} (h:IV P g e sz rows rest rows') (hid:st.tab.get id=some (.row e sz rows)) (ht:iH rest) (hk:K (.tup []) { st with tab:=(id,some (.row e sz rows')) :: st.tab }):gy none P st g (.osl id :: rest) K:=
 .inr (.inl ⟨rfl,.inl (.inr (.inl ⟨id,e,sz,rows,rows',rest,rfl,hid,ht,h,hk⟩))⟩)
end
section
def dJ (st:aj) (ts:List Nat):List (Nat × AV):=ts.map fun t=>(t,st.get t)
theorem tc (st:aj) (t:Nat):∀ ts:List Nat,aX (dJ st ts) t=st.get t \/ aX (dJ st ts) t=.any
 | []=>.inr rfl
 | k :: ts=>by
  show (if t=k then st.get k else aX (dJ st ts) t)=_ \/ (if t=k then st.get k else aX (dJ st ts) t)=_;split
  .rename_i e;subst e;exact .inl rfl
  .exact tc st t ts
theorem mR (st:aj):dJ st []=[]:=rfl
theorem kV (st:aj) (t:Nat) (ts:List Nat):dJ st (t :: ts)=(t,st.get t) :: dJ st ts:=rfl
def mI (vs:Array Value) (n nx g:Nat) (K:AV -> aj -> Prop) (st:aj) (av:AV):Prop:=
 match st.tab.get g with
 | some (.ghost vs' env)=>vs'=vs /\ K (av.shift nx) ⟨n,dR nx env,(g+nx,none) :: st.tab.shift nx,nx+st.next⟩
 | _=>False
def vD (P:Program) (rs:List ResultVar) (vs:Array Value) (n nx g:Nat) (K:AV -> aj -> Prop):Exit -> aj -> Prop
 | .normal,st=>da P st rs fun avs=>mI vs n nx g K st (jj avs)
 | .ret,st=>da P st rs fun avs=>mI vs n nx g K st (jj avs)
 | _,_=>False
section
variable {P:Program} {rs:List ResultVar} {vs:Array Value} {n nx g k i:Nat} {K:AV -> aj -> Prop} {st:aj} {o:aE} {T:af}
theorem zM:vD P rs vs n nx g K .normal st=da P st rs fun avs=>mI vs n nx g K st (jj avs):=rfl
theorem zD:vD P rs vs n nx g K .ret st=da P st rs fun avs=>mI vs n nx g K st (jj avs):=rfl
theorem bK:af.shift k []=[]:=rfl
theorem dK:af.shift k ((i,some o) :: T)=(i+k,some (o.shift k)) :: af.shift k T:=rfl
theorem dS:af.shift k ((i,none) :: T)=(i+k,none) :: af.shift k T:=rfl
end
theorem yk {n m:Nat} (hnm:n<=m):∀ {o:aE},o.lt n -> o.lt m
 | .box _ _,h=>ag.2 fun x hx=>AV.lt_mono hnm (ag.1 h x hx)
 | .row _ _ _,_=>trivial
 | .map _,_=>trivial
 | .nest _ _ _,h=>fun row hr=>ag.2 fun x hx=>AV.lt_mono hnm (ag.1 (h row hr) x hx)
 | .ghost _ _,h=>cW hnm h
theorem vV {n k:Nat}:∀ {o:aE},o.lt n -> (o.shift k).lt (k+n)
 | .box _ cells,h=>by
  show AV.ltL _ (AV.shiftL k cells);rw [a8];refine ag.2 fun x hx=>?_;obtain ⟨y,hy,rfl⟩:=NC.1 hx;exact gr (ag.1 h y hy)
 | .row _ _ _,_=>trivial
 | .map _,_=>trivial
 | .nest _ _ rows,h=>by
  intro row hr;obtain ⟨r,hr',rfl⟩:=NC.1 hr;rw [a8];refine ag.2 fun x hx=>?_;obtain ⟨y,hy,rfl⟩:=NC.1 hx;exact gr (ag.1 (h r hr') y hy)
 | .ghost _ _,h=>kj h
theorem E5 (k:Nat) (o:aE):(o.shift k).sz=o.sz:=by cases o<;>simp [aE.shift,aE.sz,a8]
theorem qw {cx:Cx} {a:Act} {w:World} {st:aj} {L:Nat -> Value} (h:aG cx a w st L):∀ ts:List Nat,cT st.next (dJ st ts)
 | []=>trivial
 | t :: ts=>⟨(h.env t).2,qw h ts⟩
section
variable {P:Program} {cx:Cx} {a:Act} {w:World} {st:aj} {L:Nat -> Value}
theorem pP (h:aG cx a w st L):∀ (l:List ResultVar) (K:List AV -> Prop),da P st l K ->
  ∃ vs avs,K avs /\ vs.length=avs.length /\ AV.ltL st.next avs /\ (∀ (j:Nat) (v:Value) (av:AV),vs[j]? = some v -> avs[j]? = some av -> bx cx w st.tab L v av) /\
   (l.mapM (lP a.tmps):Sem (List Value)).run P w=.ok vs w
 | [],K,hp=>⟨[],[],hp,rfl,trivial,by simp,by simp⟩
 | .tmp t :: l,K,hp=>by
  obtain ⟨vs,avs,h1,h2,hl,h3,h4⟩:=pP h l _ hp;refine ⟨a.tmps.getD t undef :: vs,st.get t :: avs,h1,by simp [h2],⟨(h.env t).2,hl⟩,fun j v av h5 h6=>?_,?_⟩
  .cases j with
   | zero=>
    cases h5;cases h6;exact (h.env t).1
   | succ j=>exact h3 j v av (by simpa using h5) (by simpa using h6)
  .simp only [List.mapM_cons,lP,Sem.run_bind,Sem.run_pure,Result.andThen_ok,h4]
 | .cell p ty :: l,K,hp=>by
  obtain ⟨u,au,h1,h2,h3,h4⟩:=(tx (nx:=st.next) h.lay (fun id o hid=>(h.young id o hid).2) (h.env p).1 hp).one;obtain ⟨vs,avs,h5,h6,hl,h7,h8⟩:=pP h l _ h1;refine ⟨u :: vs,au :: avs,h5,by simp [h6],⟨h3,hl⟩,fun j v av h9 h10=>?_,?_⟩
  .cases j with
   | zero=>
    cases h9;cases h10;exact h2
   | succ j=>exact h7 j v av (by simpa using h9) (by simpa using h10)
  .have:=kl (h4 w (Below.refl _ _));simp only [List.mapM_cons,lP];rw [Sem.run_bind,this];simp only [Sem.run_bind,Sem.run_pure,Result.andThen_ok,h8]
theorem HC {fn:Func} {K:AV -> Prop} (h:aG cx a w st L) (hp:da P st fn.results.toList fun avs=>K (jj avs)):∃ v av,K av /\ bx cx w st.tab L v av /\ av.lt st.next /\ (results fn a.tmps).run P w=.ok v w:=by
 obtain ⟨vs,avs,h1,h2,hl,h3,h4⟩:=pP h _ _ hp
 have hm:(results fn a.tmps).run P w=.ok (if h:vs.toArray.size=1 then vs.toArray[0] else .tuple vs.toArray) w:=by
  rw [qF,Sem.run_bind,Array.mapM_eq_mapM_toList];simp only [bind_pure_comp,Sem.run_map,h4];rfl
 refine ⟨_,jj avs,h1,?_,?_,hm⟩
 .clear hm h4 h1 hl
  match vs,avs,h2,h3 with
  | [v],[av],_,h3=>exact h3 0 v av rfl rfl
  | [],[],_,h3=>exact .tup _ _ rfl (by simp)
  | v :: v' :: vs,av :: av' :: avs,h2,h3=>
   simp only [jj,PH,NZ];rw [dif_neg (by omega)];exact .tup _ _ (by simpa using h2) fun j x av h4 h5=>h3 j x av (by simpa using h4) h5
 .clear hm h4 h1 h3 h2
  match avs,hl with
  | [av],hl=>exact hl.1
  | [],hl=>exact hl
  | av :: av' :: avs,hl=>exact hl
end
def Nk (P:Program) (c:Code) (t:Nat) (Q:Exit -> aj -> Prop) (st:aj):Prop:=∀ (cx:Cx) (a:Act) (w:World) (L:Nat -> Value),aG cx a w st L -> c.wp P (tY cx a w st.tab L t Q) a w
theorem Lw {P:Program} (hm:P.follows .mixedOrders=true) {c:Code} {t:Nat} (hz:gp t c=true) {Q:Exit -> aj -> Prop} {st:aj} (h:bD P c Q st):Nk P c t Q st:=fun cx a w L hc=>Dh hm t c hz Q a w st L hc h
theorem x1 {P : Program} {f : FuncId} {fn : Func} {c : Code} (hf : P.funcs[f]? = some fn) (hb : fn.body = some c) (hname : (fn.name == "runtime.NumGoroutine") = false) {st : aj} {avs : List AV} {K : AV → aj → Prop} {n : Nat} (hnt : fn.ntmps = n) {rs : List ResultVar} (hrs : fn.results = rs.toArray)
  (hn:Nat.ble avs.length n=true) (g:Nat) (ts:List Nat)
  (h:∀ vs:Array Value,Nk P c n (vD P rs vs st.n st.next g K) ⟨n,fl 0 avs,(st.next,some (.ghost vs (dJ st ts))) :: st.tab,st.next+1⟩):E0 P st f avs K:=by
 have hn:=Nat.le_of_ble_eq_true hn;subst hnt;refine ⟨fun vs w=>?_,fun cx a w L vs dst hc hvn hv=>?_⟩
 ·have : ¬ fn.name = "runtime.NumGoroutine" := by simpa using hname
  simp [callFunc,Sem.run_bind,hf,this,hb]
 obtain ⟨tab2,ht2⟩:∃ tab2:af,tab2=(st.next,some (.ghost a.tmps (dJ st ts))) :: st.tab:=⟨_,rfl⟩;have hget:∀ id,tab2.get id=if id=st.next then some (.ghost a.tmps (dJ st ts)) else st.tab.get id:=fun id=>by rw [ht2,af.gc]
 have hnone:∀ id o,st.next<=id -> st.tab.get id=some o -> False:=fun id o h1 h2=>by have:=(hc.young id o h2).1;omega
 have hold:∀ id,id<st.next -> tab2.get id=st.tab.get id /\ a6 L st.next (.bool false) id=L id:=fun id hid=>⟨by rw [hget,Ny (by omega)],by unfold a6;rw [Ny (by omega)]⟩;have hLG:a6 L st.next (.bool false) st.next=.bool false:=by unfold a6;rw [ND rfl]
 have hge:∀ id o,st.next<=id -> tab2.get id=some o -> id=st.next /\ o=.ghost a.tmps (dJ st ts):=fun id o h1 h2=>by
  rw [hget] at h2;split at h2
  .rename_i e;cases h2;exact ⟨e,rfl⟩
  .exact (hnone id o h1 h2).elim
 have hnew:∀ id o b,st.next<=id -> tab2.get id=some o -> aF (a6 L st.next (.bool false) id)=some b -> w.heap.size<=b:=fun id o b h1 h2 h3=>by
  obtain ⟨rfl,_⟩:=hge id o h1 h2;rw [hLG] at h3;cases h3
 have hext:=f8 (cx:=cx) (Below.refl w.heap.size w) hold (fun id o hid=>(hc.young id o hid).1) hnew
 have hlay:im cx w tab2 (a6 L st.next (.bool false)):=i5 hc.lay hc.young (Below.refl _ _) hold (fun id o h1 h2=>by
   obtain ⟨rfl,rfl⟩:=hge id o h1 h2;refine ⟨hLG,fun t ht=>?_⟩;rcases tc st t ts with e|e
   .rw [e];exact hext.rv (hc.env t).1 (hc.env t).2
   .rw [e];exact .tree (.any _)) hnew fun id id' o o' b h1 h2 h3 h4 _ _=>by rw [(hge id o h1 h3).1,(hge id' o' h2 h4).1]
 have hyoung:∀ id o,tab2.get id=some o -> id<st.next+1 /\ o.lt (st.next+1):=fun id o hid=>by
  rcases NP id st.next with hlt|hge'
  .rw [(hold id hlt).1] at hid;have:=hc.young id o hid;exact ⟨by omega,yk (Oc _) this.2⟩
  .obtain ⟨rfl,rfl⟩:=hge id o hge' hid;exact ⟨Ot _,cW (Oc _) (qw hc ts)⟩
 have hC:aG cx { tmps:=vs ++ Array.replicate (fn.ntmps - vs.size) undef,defers:=[] } w ⟨fn.ntmps,fl 0 avs,tab2,st.next+1⟩ (a6 L st.next (.bool false)):=by
  refine ⟨hlay,?_,kB.nil _ _ _,hyoung,fun t=>?_⟩
  .simp;omega
  have e:(⟨fn.ntmps,fl 0 avs,tab2,st.next+1⟩:aj).get t=avs.getD t .any:=by
   show (if t<fn.ntmps then aX (fl 0 avs) t else .any)=_;rw [lS];split
   .simp
   .simp [List.getD,NN (show avs.length<=t by omega)]
  rw [e];by_cases ht:t<avs.length
  .have ht':t<vs.size:=by omega
   have e2:(vs ++ Array.replicate (fn.ntmps - vs.size) undef).getD t undef=vs[t]:=by
    rw [OU,Py ht',Nx ht'];rfl
   have e3:avs.getD t .any=avs[t]:=(by simp [List.getD,ht]);rw [e2,e3];have:=hv t _ _ (Nx ht') (Nq ht);exact ⟨hext.rv this.1 this.2,AV.lt_mono (Oc _) this.2⟩
  .have e3:avs.getD t .any=.any:=(by simp [List.getD,NN (Nat.le_of_not_lt ht)]);rw [e3];exact ⟨.tree (.any _),trivial⟩
 have hcode:=h a.tmps;rw [<- ht2] at hcode;refine calls_of_wp hf hb (Code.wp_mono (fun ex a' w' ⟨st',L',h1,h2,h3,hA⟩=>?_) (hcode cx _ w _ hC))
 have hown2:∀ b,(∀ id o,st.tab.get id=some o -> aF (L id) ≠ some b) -> ∀ id o,tab2.get id=some o -> aF (a6 L st.next (.bool false) id) ≠ some b:=fun b hb id o hid hg=>by
  rcases NP id st.next with hlt|hge'
  .rw [(hold id hlt).1] at hid;rw [(hold id hlt).2] at hg;exact hb id o hid hg
  .obtain ⟨rfl,_⟩:=hge id o hge' hid;rw [hLG] at hg;cases hg
 have hback:∀ id o b,tab2.get id=some o -> aF (a6 L st.next (.bool false) id)=some b -> ∃ id2 o2,st.tab.get id2=some o2 /\ aF (L id2)=some b:=fun id o b hid hg=>by
  rcases NP id st.next with hlt|hge'
  .rw [(hold id hlt).1] at hid;rw [(hold id hlt).2] at hg;exact ⟨id,o,hid,hg⟩
  .obtain ⟨rfl,_⟩:=hge id o hge' hid;rw [hLG] at hg;cases hg
 have key:(da P st' rs fun avs=>mI a.tmps st.n st.next g K st' (jj avs)) -> a'.defers=[] /\ ∃ u,(results fn a'.tmps).run P w'=.ok u w' /\ ∃ v av st'' L'',Ending.returned u=.returned v /\ K av st'' /\ aG cx (a.put dst v) w' (st''.put dst av) L'' /\ Fr cx w st.tab L st.next w' st''.tab L'' st''.next:=fun h1=>by
  obtain ⟨v,av,hbk,hrv,hlv,hrun⟩:=HC (K:=fun av=>mI a.tmps st.n st.next g K st' av) (fn:=fn) h2 (by rw [hrs];exact h1);refine ⟨hA.defers,v,hrun,?_⟩;unfold mI at hbk;split at hbk
  case h_2=>exact hbk.elim
  rename_i vs' env hg;obtain ⟨rfl,hK⟩:=hbk;obtain ⟨_,hgh⟩:=h2.lay.objs g _ hg;have hghl:=(h2.young g _ hg).2;obtain ⟨tab3,ht3⟩:∃ tab3:af,tab3=(g+st.next,none) :: st'.tab.shift st.next:=⟨_,rfl⟩;rw [<- ht3] at hK
  have hsh:∀ id,(af.shift st.next st'.tab).get id=if id<st.next then none else (st'.tab.get (id - st.next)).map (aE.shift st.next):=fun id=>by
   have:=nE (tab:=[]) (k:=st.next) (fun id o h=>by cases h) st'.tab id;rw [OK] at this;exact this
  have hget3:∀ id o,tab3.get id=some o -> st.next<=id /\ ∃ o',st'.tab.get (id - st.next)=some o' /\ o=o'.shift st.next:=fun id o hid=>by
   rw [ht3,af.gc] at hid;split at hid
   .cases hid
   .rw [hsh] at hid;split at hid
    .cases hid
    .rename_i hlt
     cases ho:st'.tab.get (id - st.next) with
     | none=>rw [ho] at hid;cases hid
     | some o'=>
      rw [ho] at hid;cases hid;exact ⟨by omega,o',rfl,rfl⟩
  have hS3:∀ b,Sx cx w' st'.tab L' b -> Sx cx w' tab3 (fun id=>L' (id - st.next)) b:=fun b hb=>⟨hb.1,hb.2.1,fun id o hid hg=>by
   obtain ⟨_,o',h4,_⟩:=hget3 id o hid;exact hb.2.2 _ o' h4 hg⟩
  have hK3:∀ id p,Kx tab3 (fun id=>L' (id - st.next)) (id+st.next)=some p -> Kx st'.tab L' id=some p:=fun id p hk=>by
   unfold Kx at *
   cases ho:tab3.get (id+st.next) with
   | none=>rw [ho] at hk;cases hk
   | some o=>
    obtain ⟨_,o',h4,h5⟩:=hget3 _ o ho;rw [O9] at h4;rw [ho] at hk;rw [h4];simp only [N9,O9,h5,E5] at hk ⊢;exact hk
  have hrv3:∀ {x av},bx cx w' st'.tab L' x av -> bx cx w' tab3 (fun id=>L' (id - st.next)) x (av.shift st.next):=fun hr=>hr.conv (.inl hS3) hK3
  have hlay3:im cx w' tab3 (fun id=>L' (id - st.next)):=by
   refine ⟨h2.lay.below,fun id o hid=>?_,fun id id' o o' b h4 h5 h6 h7=>?_,fun b hb=>⟨(h2.lay.ex b hb).1,fun id o hid=>?_⟩⟩
   .obtain ⟨_,o',h4,rfl⟩:=hget3 id o hid;have hob:=h2.lay.objs _ o' h4
    cases o' with
    | box t cells=>
     obtain ⟨g',cs,h5,h6,h7,h8,h9⟩:=hob;refine ⟨g',cs,h5,h6,h7,by simpa [a8] using h8,fun j x av h10 h11=>?_⟩;rw [a8,Nu] at h11
     cases hj:cells[j]? with
     | none=>simp [hj] at h11
     | some av'=>
      simp [hj] at h11;subst h11;exact ⟨hrv3 (h9 j x av' h10 hj).1,(h9 j x av' h10 hj).2⟩
    | row e sz rows=>
     obtain ⟨h5,xs,h6,h7,h8⟩:=hob;refine ⟨h5,xs,h6,h7,fun i j row av h9 h10=>?_⟩;obtain ⟨x,hx,hrt⟩:=h8 i j row av h9 h10;exact ⟨x,hx,hrt.mono (fun _ _=>rfl) hS3⟩
    | map ents=>exact hob
    | nest e sz rows=>
     obtain ⟨h5,xs,h6,h7,h8⟩:=hob;refine ⟨fun row hr=>?_,xs,by rw [NI];exact h6,h7,fun i j row av h9 h10=>?_⟩
     .obtain ⟨r,hr',rfl⟩:=NC.1 hr;rw [a8,NI];exact h5 r hr'
     .rw [Nu] at h9
      cases hi:rows[i]? with
      | none=>simp [hi] at h9
      | some row'=>
       simp [hi] at h9;subst h9;rw [a8,Nu] at h10
       cases hj:row'[j]? with
       | none=>simp [hj] at h10
       | some av'=>
        simp [hj] at h10;subst h10;obtain ⟨x,hx,hr⟩:=h8 i j row' av' hi hj;exact ⟨x,hx,hrv3 hr⟩
    | ghost vs2 env2=>
     refine ⟨hob.1,fun t ht=>?_⟩;rw [gK];exact hrv3 (hob.2 t ht)
   .obtain ⟨k1,o1,h8,_⟩:=hget3 id o h4;obtain ⟨k2,o2,h9,_⟩:=hget3 id' o' h5;have:=h2.lay.sep _ _ o1 o2 b h8 h9 h6 h7;omega
   .obtain ⟨_,o',h4,_⟩:=hget3 id o hid;exact (h2.lay.ex b hb).2 _ o' h4
  have hblk:∀ b,Sx cx w st.tab L b -> w'.heap[b]? = w.heap[b]?:=fun b hb=>h3.keep b hb.1 (hown2 b hb.2.2)
  have hsub:∀ b,Sx cx w st.tab L b -> Sx cx w' tab3 (fun id=>L' (id - st.next)) b:=fun b hb=>⟨NH hb.1 h3.size,hb.2.1,fun id o hid hg=>by
   obtain ⟨_,o',h4,_⟩:=hget3 id o hid;obtain ⟨id2,o2,h5,h6⟩:=h3.young _ o' b h4 hg hb.1;exact hown2 b hb.2.2 id2 o2 h5 h6⟩
  have hC3:aG cx a w' ⟨st.n,dR st.next env,tab3,st.next+st'.next⟩ (fun id=>L' (id - st.next)):=by
   refine ⟨hlay3,hc.size,hc.defers.mono hblk hsub,fun id o hid=>?_,fun t=>?_⟩
   .obtain ⟨h4,o',h5,rfl⟩:=hget3 id o hid;have:=h2.young _ o' h5;refine ⟨?_,vV this.2⟩;show id<st.next+st'.next;omega
   .show bx cx w' tab3 _ _ (if t<st.n then aX (dR st.next env) t else .any) /\ AV.lt _ (if t<st.n then aX (dR st.next env) t else .any);split
    .rename_i htn;rw [gK];exact ⟨hrv3 (hgh t (by rw [hc.size];exact htn)),gr (fW hghl t)⟩
    .exact ⟨.tree (.any _),trivial⟩
  refine ⟨v,_,_,_,rfl,hK,ba hC3 (hrv3 hrv) (gr hlv) dst,⟨⟨hblk,hsub,fun id p hid hk=>?_⟩,h3.size,fun k hk hn=>h3.keep k hk (hown2 k hn),fun id o b h4 h5 h6=>?_,Pi _ _⟩⟩
  .unfold Kx at hk
   cases ho:tab3.get id with
   | none=>rw [ho] at hk;cases hk
   | some o=>
    have:=(hget3 id o ho).1;omega
  .obtain ⟨_,o',h7,_⟩:=hget3 id o h4;obtain ⟨id2,o2,h8,h9⟩:=h3.young _ o' b h7 h5 h6;exact hback id2 o2 b h8 h9
 cases ex with
 | normal=>exact key h1
 | ret=>exact key h1
 | _=>exact h1.elim
theorem wI {P : Program} (hm : P.follows .mixedOrders = true) {f : FuncId} {fn : Func} {c : Code} (hf : P.funcs[f]? = some fn) (hb : fn.body = some c) (hname : (fn.name == "runtime.NumGoroutine") = false) {st : aj} {avs : List AV} {K : AV → aj → Prop} {n : Nat} (hnt : fn.ntmps = n) {rs : List ResultVar} (hrs : fn.results = rs.toArray)
  (hn:Nat.ble avs.length n=true) (hz:gp n c=true) (g:Nat) (ts:List Nat)
  (h:∀ vs:Array Value,bD P c (vD P rs vs st.n st.next g K) ⟨n,fl 0 avs,(st.next,some (.ghost vs (dJ st ts))) :: st.tab,st.next+1⟩):E0 P st f avs K:=
 x1 hf hb hname hnt hrs hn g ts fun vs=>Lw hm hz (h vs)
theorem mC {P : Program} (hm : P.follows .mixedOrders = true) {f : FuncId} {fn : Func} {c : Code} (hf : P.funcs[f]? = some fn) (hb : fn.body = some c) (hname : (fn.name == "runtime.NumGoroutine") = false) {st : aj} {avs : List AV} {K : AV → aj → Prop} {n : Nat} (hnt : fn.ntmps = n) {rs : List ResultVar} (hrs : fn.results = rs.toArray)
  (hn:Nat.ble avs.length n=true) (hz:gp n c=true) (ts:List Nat)
  (h:∀ vs:Array Value,bD P c (vD P rs vs st.n st.next st.next K) ⟨n,fl 0 avs,(st.next,some (.ghost vs (dJ st ts))) :: st.tab,st.next+1⟩):E0 P st f avs K:=
 wI hm hf hb hname hnt hrs hn hz st.next ts h
theorem II {P:Program} {st:aj} {f:FuncId} {avs:List AV} {K:AV -> aj -> Prop} (h:E0 P st f avs K):gy none P st f avs K:=.inr (.inl ⟨rfl,.inl (.inr (.inr h))⟩)
end
section
def j5 (x:Int) (st:List Int × Bool) (y:Int):List Int × Bool:=
 ((st.1 ++ (if st.2=false /\ x<=y then [x] else [])) ++ (if y ≠ x then [y] else []),st.2 || decide (x<=y))
def fD (x:Int) (l:List Int):List Int × Bool:=l.foldl (j5 x) ([],false)
def tB (x:Int) (out:List Int):List Int:=if (fD x out).2 then (fD x out).1 else (fD x out).1 ++ [x]
def bO (l:List Int):List Int:=l.foldl (fun out x=>tB x out) []
theorem oE (x:Int) (l:List Int) (y:Int):fD x (l ++ [y])=j5 x (fD x l) y:=by simp [fD]
theorem B5 (x:Int) (l:List Int) (k:Nat) (h:k<l.length):fD x (l.take (k+1))=j5 x (fD x (l.take k)) l[k]:=by
 rw [Ns h,oE]
theorem lI (l:List Int) (x:Int):bO (l ++ [x])=tB x (bO l):=by simp [bO]
theorem yw (l:List Int) (k:Nat) (h:k<l.length):bO (l.take (k+1))=tB l[k] (bO (l.take k)):=by
 rw [Ns h,lI]
theorem mm {p:List Int -> Prop} (h0:p []) (h1:∀ l x,p l -> p (l ++ [x])) (l:List Int):p l:=by
 rw [<- List.reverse_reverse l]
 induction l.reverse with
 | nil=>exact h0
 | cons x r ih=>rw [List.reverse_cons];exact h1 _ _ ih
theorem wQ (x:Int) (l:List Int):(fD x l).1.length<=l.length+(if (fD x l).2 then 1 else 0):=by
 induction l using mm with
 | h0=>simp [fD]
 | h1 l y ih=>
  rw [oE];generalize fD x l=st at *;obtain ⟨n,b⟩:=st;cases b<;>by_cases h1:x<=y<;>by_cases h2:y=x<;>simp [j5,h1,h2] at ih ⊢<;>omega
theorem Da (x:Int) (l:List Int):(tB x l).length<=l.length+1:=by
 have:=wQ x l;unfold tB;split<;>rename_i h<;>simp [h] at this ⊢<;>omega
theorem d9 (l:List Int):(bO l).length<=l.length:=by
 induction l using mm with
 | h0=>simp [bO]
 | h1 l y ih=>rw [lI];have:=Da y (bO l);simp;omega
def Up (l:List Int):Prop:=l.Pairwise (· < ·)
theorem Hw (x:Int) (l:List Int) (h:Up l) :
  Up (fD x l).1 /\ (∀ z,z ∈ (fD x l).1 ↔ z ∈ l \/ ((fD x l).2=true /\ z=x)) /\ ((fD x l).2=true ↔ ∃ z ∈ l,x<=z) /\ ((fD x l).2=true -> x ∈ (fD x l).1):=by
 induction l using mm with
 | h0=>simp [fD,Up]
 | h1 l y ih=>
  have hl:Up l:=(OV.1 h).1;have hy:∀ z ∈ l,z<y:=fun z hz=>(OV.1 h).2.2 z hz y (by simp);obtain ⟨i1,i2,i3,i4⟩:=ih hl;rw [oE];generalize fD x l=st at *;obtain ⟨n,b⟩:=st;simp only at i1 i2 i3 i4
  cases b with
  | true=>
   obtain ⟨z,hz,hxz⟩:=i3.1 rfl;have hxy:x<y:=by have:=hy z hz;omega
   have hne:y ≠ x:=(by omega);simp only [j5,Bool.true_or,Bool.true_eq_false,false_and,if_false,OK,ND hne];refine ⟨OV.2 ⟨i1,by simp,?_⟩,?_,?_,?_⟩
   .intro a ha c hc;rw [NR] at hc;subst hc;rcases (i2 a).1 ha with h|⟨_,rfl⟩
    .exact hy a h
    .exact hxy
   .intro a;simp only [NK,NR,i2];constructor
    .rintro ((h | h) | h)
     .exact .inl (.inl h)
     .exact .inr h
     .exact .inl (.inr h)
    .rintro ((h | h) | h)
     .exact .inl (.inl h)
     .exact .inr h
     .exact .inl (.inr h)
   .exact ⟨fun _=>⟨z,by simp [hz],hxz⟩,fun _=>trivial⟩
   .intro _;simp [i4 rfl]
  | false=>
   have hlow:∀ z ∈ l,z<x:=fun z hz=>by
    rcases Int.lt_or_le z x with h|h
    .exact h
    .exact absurd (i3.2 ⟨z,hz,h⟩) (by simp)
   have hn:∀ z,z ∈ n ↔ z ∈ l:=fun z=>by rw [i2];simp
   by_cases hxy:x<=y
   .by_cases hne:y=x
    .subst hne;simp only [j5,PP,and_self,if_true,ne_eq,not_true,if_false,OK,decide_true,Bool.or_true];refine ⟨OV.2 ⟨i1,by simp,?_⟩,?_,?_,?_⟩
     .intro a ha c hc;rw [NR] at hc;subst hc;exact hy a ((hn a).1 ha)
     .intro a;simp only [NK,NR,hn];constructor
      .rintro (h | h)
       .exact .inl (.inl h)
       .exact .inl (.inr h)
      .rintro (h | ⟨_,h⟩)
       .exact h
       .exact .inr h
     .exact ⟨fun _=>⟨y,by simp,PP _⟩,fun _=>trivial⟩
     .intro _;simp
    .simp only [j5,hxy,and_self,if_true,ne_eq,hne,not_false_eq_true,decide_true,Bool.or_true];refine ⟨?_,?_,?_,?_⟩
     .unfold Up;rw [Oj];refine OV.2 ⟨i1,by simp;omega,?_⟩;intro a ha c hc;have hal:=(hn a).1 ha;have h1:=hlow a hal;have h2:=hy a hal;simp at hc;rcases hc with rfl|rfl
      .exact h1
      .exact h2
     .intro a;simp only [NK,NR,hn];constructor
      .rintro ((h | h) | h)
       .exact .inl (.inl h)
       .exact .inr ⟨by simp,h⟩
       .exact .inl (.inr h)
      .rintro ((h | h) | ⟨_,h⟩)
       .exact .inl (.inl h)
       .exact .inr h
       .exact .inl (.inr h)
     .exact ⟨fun _=>⟨y,by simp,hxy⟩,fun _=>trivial⟩
     .intro _;simp
   .have hne:y ≠ x:=(by omega);have hd:decide (x<=y)=false:=NE hxy;simp only [j5,hxy,and_false,if_false,OK,ND hne,hd,PW];refine ⟨OV.2 ⟨i1,by simp,?_⟩,?_,?_,?_⟩
    .intro a ha c hc;rw [NR] at hc;subst hc;exact hy a ((hn a).1 ha)
    .intro a;simp only [NK,NR,hn];simp
    .constructor
     .intro h;cases h
     .rintro ⟨z,hz,hxz⟩;rcases NK.1 hz with h|h
      .have:=hlow z h;omega
      .rw [NR] at h;subst h;exact absurd hxz hxy
    .intro h;cases h
theorem H5 (x:Int) (l:List Int) (h:Up l):Up (tB x l) /\ ∀ z,z ∈ tB x l ↔ z ∈ l \/ z=x:=by
 obtain ⟨i1,i2,i3,i4⟩:=Hw x l h;unfold tB;split
 .rename_i hb;refine ⟨i1,fun z=>?_⟩;rw [i2];simp [hb]
 .rename_i hb
  have hlow:∀ z ∈ l,z<x:=fun z hz=>by
   rcases Int.lt_or_le z x with h|h
   .exact h
   .exact absurd (i3.2 ⟨z,hz,h⟩) hb
  have hn:∀ z,z ∈ (fD x l).1 ↔ z ∈ l:=fun z=>by rw [i2];simp [hb]
  refine ⟨OV.2 ⟨i1,by simp,?_⟩,fun z=>?_⟩
  .intro a ha c hc;rw [NR] at hc;subst hc;exact hlow a ((hn a).1 ha)
  .simp [hn]
theorem dL (l:List Int):Up (bO l) /\ ∀ z,z ∈ bO l ↔ z ∈ l:=by
 induction l using mm with
 | h0=>simp [bO,Up]
 | h1 l x ih=>
  obtain ⟨h1,h2⟩:=H5 x _ ih.1;rw [lI];exact ⟨h1,fun z=>by rw [h2,ih.2];simp⟩
theorem zp:∀ (a b:List Int),Up a -> Up b -> (∀ z,z ∈ a ↔ z ∈ b) -> a=b
 | [],[],_,_,_=>rfl
 | [],y :: b,_,_,h=>by have:=(h y).2 (by simp);simp at this
 | x :: a,[],_,_,h=>by have:=(h x).1 (by simp);simp at this
 | x :: a,y :: b,ha,hb,h=>by
  have ha':=List.pairwise_cons.1 ha;have hb':=List.pairwise_cons.1 hb
  have hxy:x=y:=by
   rcases OD.1 ((h x).1 (by simp)) with h1|h1
   .exact h1
   .rcases OD.1 ((h y).2 (by simp)) with h2 | h2
    .exact h2.symm
    .have:=hb'.1 x h1;have:=ha'.1 y h2;omega
  subst hxy;rw [zp a b ha'.2 hb'.2 (fun z=>?_)];constructor
  .intro hz;rcases OD.1 ((h z).1 (by simp [hz])) with h1|h1
   .subst h1;have:=ha'.1 z hz;omega
   .exact h1
  .intro hz;rcases OD.1 ((h z).2 (by simp [hz])) with h1|h1
   .subst h1;have:=hb'.1 z hz;omega
   .exact h1
theorem yi (d:Array Int) (hs:∀ i j,i<j -> j<d.size -> d[i]! <= d[j]!) (m:Nat) (hm:m<=d.size) :
  Up (Lib.compactUpTo d m) /\ (∀ z,z ∈ Lib.compactUpTo d m ↔ ∃ i,i<m /\ d[i]! = z):=by
 induction m with
 | zero=>simp [Lib.compactUpTo,Up]
 | succ m ih=>
  obtain ⟨h1,h2⟩:=ih (by omega);rw [Lib.compactUpTo_succ];by_cases hk:Lib.keeps d m=true
  .rw [ND hk];refine ⟨OV.2 ⟨h1,by simp,?_⟩,fun z=>?_⟩
   .intro a ha c hc;rw [NR] at hc;subst hc;obtain ⟨i,hi,rfl⟩:=(h2 a).1 ha;simp only [Lib.keeps,NW] at hk;have h3:=hs (m - 1) m (by omega) (by omega)
    have h4:d[i]! <= d[m - 1]!:=by
     rcases NP i (m - 1) with h|h
     .exact hs i (m - 1) h (by omega)
     .rw [show i=m - 1 by omega];exact PP _
    rcases hk with h|h
    .omega
    .have:d[m]! ≠ d[m - 1]!:=h;omega
   .simp only [NK,NR,h2];constructor
    .rintro (⟨i,hi,rfl⟩ | rfl)
     .exact ⟨i,by omega,rfl⟩
     .exact ⟨m,by omega,rfl⟩
    .rintro ⟨i,hi,rfl⟩;rcases NP i m with h|h
     .exact .inl ⟨i,h,rfl⟩
     .exact .inr (by rw [show i=m by omega])
  .rw [Ny hk,OK];refine ⟨h1,fun z=>?_⟩;rw [h2];simp only [Lib.keeps,NW,not_or,ne_eq,Decidable.not_not] at hk;constructor
   .rintro ⟨i,hi,rfl⟩;exact ⟨i,by omega,rfl⟩
   .rintro ⟨i,hi,rfl⟩;rcases NP i m with h|h
    .exact ⟨i,h,rfl⟩
    .exact ⟨m - 1,by omega,by rw [<- hk.2,show i=m by omega]⟩
def Aj (l:List Int):List Int:=Lib.compact (l.mergeSort fun x y=>decide (x<=y))
theorem iP (l:List Int):Aj l=bO l:=by
 have hp:(l.mergeSort fun x y=>decide (x<=y)).Pairwise (fun a b=>decide (a<=b)=true):=List.pairwise_mergeSort (le:=fun x y=>decide (x<=y)) (fun a b c h1 h2=>by simp at *;omega) (fun a b=>by simp;omega) l;have hm:∀ z,z ∈ (l.mergeSort fun x y=>decide (x<=y)) ↔ z ∈ l:=fun z=>List.mem_mergeSort;unfold Aj Lib.compact;generalize (l.mergeSort fun x y=>decide (x<=y))=s at *
 have hs:∀ i j,i<j -> j<s.toArray.size -> s.toArray[i]! <= s.toArray[j]!:=by
  intro i j hij hj;have hj':j<s.length:=by simpa using hj
  have h1:=O1.1 hp i j (by omega) hj' hij;rw [getElem!_pos _ i (by simp;omega),getElem!_pos _ j hj];simpa using h1
 obtain ⟨h1,h2⟩:=yi s.toArray hs s.length (by simp);refine zp _ _ h1 (dL l).1 (fun z=>?_);rw [h2,(dL l).2,<- hm];constructor
 .rintro ⟨i,hi,rfl⟩;rw [getElem!_pos _ i (by simpa using hi)];simp
 .intro hz;obtain ⟨i,hi,rfl⟩:=NV hz;exact ⟨i,hi,by rw [getElem!_pos _ i (by simpa using hi)];simp⟩
theorem Ck (s:List Int) (n:Int) (h:Up s) (r:Nat) (hr:r<=s.length) (hlo:∀ (h0:0<r),s[r - 1]'(by omega)<n) (hhi:∀ (h1:r<s.length),n<=s[r]) :
  s.countP (fun x=>decide (x<n))=r /\ (decide (r<s.length) && (s[r]? == some n))=decide (n ∈ s):=by
 have hp:=O1.1 h
 have hlow:∀ i (hi:i<r),s[i]'(by omega)<n:=fun i hi=>by
  have h1:=hlo (by omega);rcases NP i (r - 1) with h2|h2
  .have:=hp i (r - 1) (by omega) (by omega) h2;omega
  .have e:i=r - 1:=(by omega);subst e;exact h1
 have hhigh:∀ i (hi:r<=i) (hi2:i<s.length),n<=s[i]:=fun i hi hi2=>by
  have h1:=hhi (by omega);rcases NP r i with h2|h2
  .have:=hp r i (by omega) hi2 h2;omega
  .have e:i=r:=(by omega);subst e;exact h1
 constructor
 .rw [<- PB r s,List.countP_append]
  have e1:(s.take r).countP (fun x=>decide (x<n))=(s.take r).length:=List.countP_eq_length.2 (fun a ha=>by
   obtain ⟨i,hi,rfl⟩:=NV ha;rw [NF] at hi;rw [List.getElem_take];exact NL (hlow i (by omega)))
  have e2:(s.drop r).countP (fun x=>decide (x<n))=0:=List.countP_eq_zero.2 (fun a ha=>by
   obtain ⟨i,hi,rfl⟩:=NV ha;rw [Ov] at hi;rw [List.getElem_drop];have:=hhigh (r+i) (by omega) (by omega);simp;omega)
  rw [e1,e2,NF];omega
 .by_cases hm:n ∈ s
  .obtain ⟨i,hi,he⟩:=NV hm;have h1:¬ i<r:=fun h=>by have:=hlow i h;omega
   have h2:=hhi (by omega)
   have h3:i=r:=by
    rcases NP r i with h4|h4
    .have:=hp r i (by omega) hi h4;omega
    .omega
   subst h3;simp [hm,hi,he]
  .have:¬ (r<s.length /\ s[r]? = some n):=fun ⟨h1,h2⟩=>hm (Nr h2);simp only [hm,decide_false];rw [OM];intro hc;simp only [NU,NW,O2] at hc;exact this hc
end
section
open Go.RowKit Go.Sort
theorem A1 (A:Option Addr) (c:Nat) (w:World) :
  Calls Tryz.prog 167 #[.slice A 0 c,.int .i64 0,.int .i64 0] w fun e w'=>e=.returned (.tuple #[]) /\ Below w.heap.size w w':=by
 go_enter Tryz.func167,Tryz.ntmps167
 go_wp2_with fail
 go_loopw [6] (fun i wr=>i=.int .i64 1 /\ Below w.heap.size w wr) (fun i wr=>0)
 case atStart=>exact ⟨rfl,Below.refl _ _⟩
 case round=>
  obtain ⟨rfl,hbl⟩:=hrel
  go_wp2_with fail
  go_end0
  exact ⟨rfl,hbl⟩
theorem AC (A:Option Addr) (c:Nat) (L:Int) (w:World) :
  Calls Tryz.prog 139 #[.slice A 0 c,.int .i64 0,.int .i64 0,.int .i64 L] w fun e w'=>e=.returned (.tuple #[]) /\ Below w.heap.size w w':=by
 go_enter Tryz.func139,Tryz.ntmps139
 go_wp2_with fail
 go_loopw [1,2] (fun a b wr=>a=.int .i64 0 /\ b=.int .i64 0 /\ Below w.heap.size w wr) (fun a b wr=>0)
 case atStart=>exact ⟨rfl,rfl,Below.refl _ _⟩
 case round=>
  obtain ⟨rfl,rfl,hbl⟩:=hrel;have h:=A1 A c wr
  go_wp2_with fail
  refine h.mono ?_;rintro e w2 ⟨rfl,hb2⟩
  go_wp2_with fail
  refine bodyPost_ret (results_none rfl _ _ _) rfl ?_;exact ⟨rfl,hbl.trans (hb2.mono hbl.size)⟩
theorem yE (A:Option Addr) (c:Nat) (w:World) :
  Calls Tryz.prog 99 #[.slice A 0 c] w fun e w'=>e=.returned (.tuple #[]) /\ Below w.heap.size w w':=by
 have h1:=Tryz.bits_Len 0 w (by decide) (by decide);generalize Lib.bitLen (0:Int).toNat=L at *;have h2:=AC A c L w
 go_enter Tryz.func99,Tryz.ntmps99
 go_wp2_with fail
 refine h1.mono ?_;rintro e w2 ⟨rfl,rfl⟩
 go_wp2_with fail
 refine h2.mono ?_;rintro e w3 ⟨rfl,hb⟩
 go_wp2_with fail
 go_end0
 exact ⟨rfl,hb⟩
abbrev ip (l:List Int):List (List AV):=l.map fun n=>[eI n]
theorem Ic {w:World} {S:Nat -> Prop} {base:Nat} {v:Value} {l:List Int} (h:pR w S base 3 1 v (ip l)):cO w base 3 1 v l.length (l.map (Value.int .i64)):=by
 obtain ⟨_,xs,hown,hone,hx⟩:=h
 have e:xs=l.map (Value.int .i64):=by
  have hlen:xs.length=l.length:=by simpa using hown.1
  apply OZ (by simpa using hlen);intro i h1 h2;have hi:i<l.length:=by omega
  obtain ⟨x,hx1,hx2⟩:=hx i 0 [eI l[i]] (eI l[i]) (by simp [hi]) rfl;rw [Nat.mul_one,Nat.add_zero,Nq h1] at hx1;cases hx1;rw [L8 hx2];simp
 rw [e,NI] at hown;exact hown
theorem z7 {w:World} {S:Nat -> Prop} {base:Nat} {v:Value} {l:List Int} (h:cO w base 3 1 v l.length (l.map (Value.int .i64))):pR w S base 3 1 v (ip l):=by
 refine ⟨fun row hr=>?_,l.map (Value.int .i64),by rw [NI];exact h,fun x hx=>?_,fun i j row av h1 h2=>?_⟩
 .obtain ⟨n,_,rfl⟩:=NC.1 hr;rfl
 .obtain ⟨n,_,rfl⟩:=NC.1 hx;rfl
 .rw [Nu] at h1
  cases hi:l[i]? with
  | none=>simp [hi] at h1
  | some n=>
   simp [hi] at h1;subst h1
   cases j with
   | zero=>
    simp at h2;subst h2;exact ⟨.int .i64 n,by simp [hi],.c _⟩
   | succ j=>simp at h2
theorem EA {w:World} {base:Nat} {v:Value} {n:Nat} {xs:List Value} (h:cO w base 3 1 v n xs) (hn:0<n):∃ g cap cur,v=.slice (some ⟨g,0,none⟩) n cap /\ base<=g /\ w.heap[g]? = some (.cells cur 3 (0,0)) /\ n<=cap /\ cap<=maxLen /\ cap * 1<=cur.size /\ cur.toList.take (n * 1)=xs:=by
 rcases h.2 with ⟨_,h0⟩|h
 .omega
 .exact h
theorem tC (S:List Int):(Lib.compact S).length<=S.length:=by
 unfold Lib.compact Lib.compactUpTo;rw [NI];have:=Ph (Lib.keeps S.toArray) (List.range S.length);simpa using this
theorem vA {w:World} {base g cap n:Nat} {e:TypeId} {os:Array Obj} {cur:Array Value} {ss ts:List Int} (hl:ts.length=ss.length) (hbase:base<=g) (hb:w.heap[g]? = some (.cells cur e (0,0)))
  (h1:ss.length<=cap) (h2:cap<=maxLen) (h3:cap * 1<=cur.size) :
  cO (Go.Sort.grow (putRow (Value.int .i64) (Sort.ahead w n) g 0 ts.toArray) os) base e 1 (.slice (some ⟨g,0,none⟩) ss.length cap) ss.length (ts.map (Value.int .i64)):=
 ⟨by simp [hl],.inr ⟨g,cap,putCells (Value.int .i64) 0 ts.toArray cur,rfl,hbase,heap_sortedI _ hb,h1,h2,by simp [putCells];omega,by rw [Nat.mul_one,<- hl];exact take_putCellsI cur ts (by omega)⟩⟩
theorem Kg (l:List Int) (hl:l.length<=1000000):IV Tryz.prog 99 3 1 (ip l) [] (ip (l.mergeSort fun x y=>decide (x<=y))):=by
 refine ⟨jc Tryz.func99 rfl (by decide),fun S w base v vs hS hbD hrow hvS hvn hvs=>?_⟩;obtain rfl:vs = #[]:=Array.eq_empty_of_size_eq_zero (by simpa using hvn);have hown:=Ic hrow;have hSl:(l.mergeSort fun x y=>decide (x<=y)).length=l.length:=List.length_mergeSort ..;by_cases h0:l.length=0
 .have hl0:l=[]:=Om h0;subst hl0
  have hv:∃ A c,v=.slice A 0 c:=by
   rcases hown.2 with ⟨rfl,_⟩|⟨g,cap,cur,rfl,_⟩
   .exact ⟨_,_,rfl⟩
   .exact ⟨_,_,rfl⟩
  obtain ⟨A,c,rfl⟩:=hv;have e0:(([]:List Int).mergeSort fun x y=>decide (x<=y))=[]:=Om (by rw [List.length_mergeSort];rfl);rw [e0];refine (yE A c w).mono ?_;rintro e w' ⟨rfl,hb⟩;refine ⟨rfl,⟨hb.os,hb.tape,hb.output⟩,hb.size,fun k hk _=>hb.block k hk,z7 ⟨by simp,?_⟩⟩;rcases hown.2 with h|⟨g,cap,cur,h1,h2,h3,h4⟩
  .exact .inl h
  .exact .inr ⟨g,cap,cur,h1,h2,(hb.block g (N8.1 h3).1).trans h3,h4⟩
 obtain ⟨g,cap,cur,rfl,hbase,hblk,hn,hcap,hcs,htake⟩:=EA hown (by omega);rw [Nat.mul_one] at htake;have hg:g<w.heap.size:=(N8.1 hblk).1;have hH:=holds_of_blockI hblk htake;have h2:=Tryz.slices_Sort_intI g 0 cap l w hH hg (by omega);refine h2.mono ?_;rintro e w2 ⟨rfl,n,os,rfl⟩;have hown2:=vA (n:=n) (os:=os) (ts:=l.mergeSort fun x y=>decide (x<=y)) hSl hbase hblk hn hcap hcs;have hgr2:=grownBy_sortedI (w:=w) (g:=g) (n:=n) (os:=os) (l.mergeSort fun x y=>decide (x<=y)).toArray;generalize Go.Sort.grow (putRow (Value.int .i64) (Sort.ahead w n) g 0 (l.mergeSort fun x y=>decide (x<=y)).toArray) os=w2 at *;refine ⟨rfl,⟨hgr2.os,hgr2.tape,hgr2.output⟩,hgr2.size,fun k hk hne=>hgr2.block k hk fun e=>hne (by rw [e];rfl),z7 ?_⟩;rw [hSl];exact hown2
theorem AG (l:List Int) (hl:l.length<=1000000):KJ Tryz.prog 100 3 1 (l.map fun n=>[Value.int .i64 n]) [] ((Lib.compact l).map fun n=>[Value.int .i64 n]):=by
 have hfl:∀ l:List Int,(l.map fun n=>[Value.int .i64 n]).flatten=l.map (Value.int .i64):=fun l=>by
  induction l with
  | nil=>rfl
  | cons a l ih=>simp [ih]
 refine ⟨jc Tryz.func100 rfl (by decide),fun w v base hown=>?_⟩;rw [hfl,NI] at hown;by_cases h0:l.length=0
 .have hl0:l=[]:=Om h0;subst hl0
  have hv:∃ A c,v=.slice A 0 c:=by
   rcases hown.2 with ⟨rfl,_⟩|⟨g,cap,cur,rfl,_⟩
   .exact ⟨_,_,rfl⟩
   .exact ⟨_,_,rfl⟩
  obtain ⟨A,c,rfl⟩:=hv;refine (Tryz.slices_Compact_int_emptyI A c w).mono ?_;rintro e w' ⟨rfl,rfl⟩;exact ⟨_,rfl,hown,⟨rfl,rfl,rfl,Nz _,fun _ _ _=>rfl⟩,rfl⟩
 obtain ⟨g,cap,cur,rfl,hbase,hblk,hn,hcap,hcs,htake⟩:=EA hown (by omega);rw [Nat.mul_one] at htake;have hg:g<w.heap.size:=(N8.1 hblk).1;have hH:=holds_of_blockI hblk htake;have h3:=Tryz.slices_Compact_intI g 0 cap l w hH (by omega) (by omega);have hcl:=tC l;refine h3.mono ?_;rintro e w3 ⟨rfl,q,hw3⟩;have hown3:=vA (n:=q) (os:=#[]) (ss:=l) (ts:=Lib.compact l ++ List.replicate (l.length - (Lib.compact l).length) 0) (by simp;omega) hbase hblk hn hcap hcs;have hgr3:=grownBy_sortedI (w:=w) (g:=g) (n:=q) (os:=#[]) (Lib.compact l ++ List.replicate (l.length - (Lib.compact l).length) 0).toArray;rw [grow_empty] at hown3 hgr3;rw [<- hw3] at hown3 hgr3;refine ⟨_,rfl,?_,hgr3,rfl⟩;rw [hfl,NI];obtain ⟨_,⟨hx,_⟩|⟨g',cap',cur',hv,h4,h5,h6,h7,h8,h9⟩⟩:=hown3
 .cases hx
 cases hv;refine ⟨by simp,.inr ⟨g,cap,cur',rfl,hbase,h5,by omega,hcap,by omega,?_⟩⟩;have:cur'.toList.take ((Lib.compact l).length * 1)=(cur'.toList.take (l.length * 1)).take ((Lib.compact l).length * 1):=by rw [List.take_take,PT (by omega)]
 rw [this,h9];simp
end
section
section
variable {κ μ:Type} [DecidableEq κ] [DecidableEq μ]
def oD (D:List κ) (k:κ):List κ:=if k ∈ D then D else D ++ [k]
def aZ (ks:List κ):List κ:=ks.foldl oD []
def cK (ks:List κ):List Int:=ks.map fun k=>((aZ ks).idxOf k:Int)
theorem dP (ks:List κ) (k:κ):aZ (ks ++ [k])=oD (aZ ks) k:=by simp [aZ]
theorem Dz (D:List κ) (k:κ):D <+: oD D k:=by
 unfold oD;split
 .exact List.prefix_rfl
 .exact List.prefix_append _ _
theorem vf (D:List κ) (k x:κ):x ∈ oD D k ↔ x ∈ D \/ x=k:=by
 unfold oD;split
 .rename_i h;constructor
  .exact .inl
  .rintro (h1 | rfl)
   .exact h1
   .exact h
 .simp
omit [DecidableEq κ] in
theorem qi {p:List κ -> Prop} (h0:p []) (h1:∀ l x,p l -> p (l ++ [x])) (l:List κ):p l:=by
 have:∀ n (l:List κ),l.length=n -> p l:=by
  intro n
  induction n with
  | zero=>intro l hl;rw [Om hl];exact h0
  | succ n ih=>
   intro l hl;have hne:l ≠ []:=by intro e;simp [e] at hl
   rw [<- List.dropLast_concat_getLast hne];exact h1 _ _ (ih _ (by simp [hl]))
 exact this _ l rfl
theorem aY (ks:List κ):∀ x,x ∈ aZ ks ↔ x ∈ ks:=by
 induction ks using qi with
 | h0=>intro x;simp [aZ]
 | h1 l k ih=>intro x;rw [dP,vf,ih,NK,NR]
theorem cd (ks:List κ):(aZ ks).Nodup:=by
 induction ks using qi with
 | h0=>simp [aZ]
 | h1 l k ih=>
  rw [dP];unfold oD;split
  .exact ih
  .rename_i h;rw [List.nodup_append];refine ⟨ih,by simp,fun a ha b hb=>?_⟩;simp at hb;subst hb;exact fun e=>h (e ▸ ha)
theorem AM (a b:List κ):aZ a <+: aZ (a ++ b):=by
 induction b using qi with
 | h0=>simp
 | h1 l k ih=>
  rw [<- Oj,dP];exact ih.trans (Dz _ _)
theorem Ik {D E:List κ} (h:D <+: E) {k:κ} (hk:k ∈ D):E.idxOf k=D.idxOf k:=by
 obtain ⟨t,rfl⟩:=h;rw [List.idxOf_append,ND hk]
theorem fw (ks:List κ):(cK ks).length=ks.length:=by simp [cK]
theorem tq {D:List κ} {a b:κ} (ha:a ∈ D) (hb:b ∈ D) (h:D.idxOf a=D.idxOf b):a=b:=by
 have h1:=OQ (N5 ha);have h2:=OQ (N5 hb);rw [<- h1,<- h2]
 congr 1
theorem pt (ks:List κ) (i:Nat) (hi:i<ks.length):(cK ks)[i]'(by rw [fw];exact hi)=((aZ ks).idxOf ks[i]:Int):=by simp [cK]
theorem zN (ks:List κ) (i j:Nat) (hi:i<ks.length) (hj:j<ks.length):(cK ks)[i]'(by rw [fw];exact hi)=(cK ks)[j]'(by rw [fw];exact hj) ↔ ks[i]=ks[j]:=by
 rw [pt ks i hi,pt ks j hj];constructor
 .intro h;exact tq ((aY _ _).2 (Nt hi)) ((aY _ _).2 (Nt hj)) (by omega)
 .intro h;rw [h]
theorem sZ {f:κ -> μ}:∀ (ks:List κ),(∀ a ∈ ks,∀ b ∈ ks,f a=f b -> a=b) -> aZ (ks.map f)=(aZ ks).map f:=by
 intro ks
 induction ks using qi with
 | h0=>intro _;rfl
 | h1 l k ih=>
  intro h;have ih':=ih fun a ha b hb=>h a (by simp [ha]) b (by simp [hb]);rw [OB,List.map_singleton,dP,dP,ih'];unfold oD;by_cases hk:k ∈ aZ l
  .rw [ND hk,ND (Pd hk)]
  .rw [Ny hk,Ny]
   .simp
   .intro hm;obtain ⟨x,hx,he⟩:=NC.1 hm;have hxl:=(aY _ _).1 hx;have:=h x (by simp [hxl]) k (by simp) he;exact hk (this ▸ hx)
omit [DecidableEq κ] in
theorem DP {D:List κ} (hn:D.Nodup) {i j:Nat} (hi:i<D.length) (hj:j<D.length) (h:D[i]=D[j]):i=j:=
 (List.getElem?_inj hi hn).1 (by rw [Nq hi,Nq hj,h])
theorem yt {D:List κ} (hn:D.Nodup) {i:Nat} (hi:i<D.length):D.idxOf D[i]=i:=
 DP hn (N5 (Nt hi)) hi (OQ _)
theorem nr {f:κ -> μ} (ks:List κ) (h:∀ a ∈ ks,∀ b ∈ ks,f a=f b -> a=b):cK (ks.map f)=cK ks:=by
 unfold cK;rw [sZ ks h,List.map_map];apply List.map_congr_left;intro k hk;simp only [Function.comp];have hkD:=(aY ks k).2 hk;have hlt:=N5 hkD;have hm:f k ∈ (aZ ks).map f:=Pd hkD;have e1:=OQ (N5 hm);have hlt2:=N5 hm;rw [NI] at hlt2;rw [List.getElem_map] at e1;have e2:=h _ ((aY _ _).1 (Nt hlt2)) k hk e1;have e3:=OQ hlt;have:=DP (cd ks) hlt2 hlt (e2.trans e3.symm);rw [this]
end
def rV (l:List Int):Int:=l.foldl (fun a b=>max a b) (l.headD 0)
def br (l:List Int):Int:=if l=[] then 0 else rV l+1
theorem ta (l:List Int):∀ a:Int,(∀ x ∈ l,x<=l.foldl (fun a b=>max a b) a) /\ a<=l.foldl (fun a b=>max a b) a /\ (l.foldl (fun a b=>max a b) a=a \/ l.foldl (fun a b=>max a b) a ∈ l):=by
 induction l with
 | nil=>intro a;exact ⟨by simp,PP _,.inl rfl⟩
 | cons b l ih=>
  intro a;obtain ⟨h1,h2,h3⟩:=ih (max a b);simp only [List.foldl_cons];refine ⟨fun x hx=>?_,by omega,?_⟩
  .rcases OD.1 hx with rfl | hx
   .omega
   .exact h1 x hx
  .rcases h3 with h3 | h3
   .rw [h3];by_cases hab:a<=b
    .right;have:max a b=b:=by omega
     rw [this];simp
    .left;omega
   .right;exact N7 _ h3
theorem mr {κ:Type} [DecidableEq κ] (ks:List κ):br (cK ks)=(aZ ks).length:=by
 cases hks:ks with
 | nil=>rfl
 | cons k0 r=>
  rw [<- hks];have hne:cK ks ≠ []:=by rw [hks];simp [cK]
  unfold br;rw [Ny hne];unfold rV;obtain ⟨h1,h2,h3⟩:=ta (cK ks) ((cK ks).headD 0);generalize hM:(cK ks).foldl (fun a b=>max a b) ((cK ks).headD 0)=M at *;have hpos:0<(aZ ks).length:=List.length_pos_of_mem ((aY ks k0).2 (by rw [hks];simp))
  have hmem:M ∈ cK ks:=by
   rcases h3 with h3|h3
   .rw [h3]
    cases hn:cK ks with
    | nil=>exact absurd hn hne
    | cons a l=>simp
   .exact h3
  have hup:M<(aZ ks).length:=by
   obtain ⟨k,hk,rfl⟩:=NC.1 hmem;have:=N5 ((aY ks k).2 hk);omega
  have hlo:((aZ ks).length:Int) - 1<=M:=by
   have hlast:(aZ ks)[(aZ ks).length - 1] ∈ ks:=(aY _ _).1 (Nt _)
   have hin:(((aZ ks).length - 1:Nat):Int) ∈ cK ks:=by
    refine NC.2 ⟨_,hlast,?_⟩;rw [yt (cd ks)]
   have:=h1 _ hin;omega
  omega
theorem fM {κ:Type} [DecidableEq κ]:∀ (D L:List κ),D.Nodup -> (∀ x ∈ D,x ∈ L) -> D.length<=L.length
 | [],L,_,_=>Nv _
 | a :: D,L,h,hs=>by
  obtain ⟨h1,h2⟩:=List.nodup_cons.1 h;have ha:=hs a (by simp);have:=fM D (L.erase a) h2 fun x hx=>(List.mem_erase_of_ne (fun e=>h1 (by rw [<- e];exact hx))).2 (hs x (by simp [hx]));have hl:=PJ ha;have hp:=List.length_pos_of_mem ha;simp only [NZ];omega
theorem Ao {κ μ:Type} [DecidableEq κ] [DecidableEq μ] (zs:List (κ × μ)) (hr:∀ p ∈ zs,∀ q ∈ zs,p.2=q.2 -> p.1=q.1) :
  (aZ (zs.map Prod.fst)).length<=(aZ (zs.map Prod.snd)).length /\ ((aZ (zs.map Prod.fst)).length=(aZ (zs.map Prod.snd)).length -> ∀ p ∈ zs,∀ q ∈ zs,p.1=q.1 -> p.2=q.2):=by
 -- a Lf key of each fine one
 have key:∀ D:List μ,(∀ y ∈ D,y ∈ zs.map Prod.snd) -> ∃ E:List κ,E.length=D.length /\ ∀ p ∈ zs,p.2 ∈ D -> p.1 ∈ E:=by
  intro D
  induction D with
  | nil=>intro _;exact ⟨[],rfl,fun p _ h=>by simp at h⟩
  | cons y D ih=>
   intro h;obtain ⟨E,hE,hE2⟩:=ih fun z hz=>h z (by simp [hz]);obtain ⟨q,hq,rfl⟩:=NC.1 (h y (by simp));refine ⟨q.1 :: E,by simp [hE],fun p hp hpy=>?_⟩;rcases OD.1 hpy with h1|h1
   .rw [hr p hp q hq h1];simp
   .exact N7 _ (hE2 p hp h1)
 have hsub:∀ y ∈ aZ (zs.map Prod.snd),y ∈ zs.map Prod.snd:=fun y hy=>(aY _ _).1 hy;obtain ⟨E,hE,hE2⟩:=key _ hsub;refine ⟨?_,fun heq p hp q hq hpq=>?_⟩
 .rw [<- hE];refine fM _ _ (cd _) fun x hx=>?_;obtain ⟨p,hp,rfl⟩:=NC.1 ((aY _ _).1 hx);exact hE2 p hp ((aY _ _).2 (Pd hp))
 .refine Classical.byContradiction fun hne=>?_
  -- without the one of the two there are as many still
  have hD':∀ y ∈ (aZ (zs.map Prod.snd)).erase p.2,y ∈ zs.map Prod.snd:=fun y hy=>hsub y (List.mem_of_mem_erase hy);obtain ⟨E',hE',hE2'⟩:=key _ hD';have hpm:=(aY (zs.map Prod.snd) p.2).2 (Pd hp);have hl:=PJ hpm;have hpos:=List.length_pos_of_mem hpm
  have:(aZ (zs.map Prod.fst)).length<=E'.length:=fM _ _ (cd _) fun x hx=>by
   obtain ⟨z,hz,rfl⟩:=NC.1 ((aY _ _).1 hx);by_cases hzp:z.2=p.2
   .have e1:=hr z hz p hp hzp;rw [e1,hpq];refine hE2' q hq ((List.mem_erase_of_ne fun e=>hne e.symm).2 ((aY _ _).2 (Pd hq)))
   .exact hE2' z hz ((List.mem_erase_of_ne hzp).2 ((aY _ _).2 (Pd hz)))
  omega
end
section
def eT (l:List Int) (i:Int):Int:=if 0<=i /\ i<l.length then l.getD i.toNat 0 else 0
def sn (n:Nat) (x:Int):Bool:=decide (0<=x) && decide (x<n)
def j4 (next:List (List Int)) (c:List Int) (i:Nat):List Int:=((next.getD i []).filter (sn next.length)).map (eT c)
def fT (next:List (List Int)) (c:List Int) (i:Nat):List Int:=Aj (j4 next c i)
theorem ut {next:List (List Int)} {c d:List Int} {i j:Nat}:fT next c i=fT next d j ↔ ∀ z,z ∈ j4 next c i ↔ z ∈ j4 next d j:=by
 unfold fT;rw [iP,iP];have h1:=dL (j4 next c i);have h2:=dL (j4 next d j);constructor
 .intro h z;rw [<- h1.2 z,<- h2.2 z,h]
 .intro h;exact zp _ _ h1.1 h2.1 fun z=>by rw [h1.2,h2.2,h]
theorem fx {next:List (List Int)} {c:List Int} {i:Nat} {z:Int}:z ∈ j4 next c i ↔ ∃ x ∈ next.getD i [],sn next.length x=true /\ eT c x=z:=by
 simp [j4,and_assoc]
def ph (next:List (List Int)) (c:List Int) (i:Nat):List Int:=eT c i :: fT next c i
def j8 (next:List (List Int)) (col:List Int):List Int:=(List.range next.length).map fun (i:Nat)=>eT col (i:Int)
def fI (next:List (List Int)) (c:List Int):List (List Int):=(List.range next.length).map (ph next c)
def bA (next:List (List Int)) (col:List Int):Nat -> List Int
 | 0=>cK (j8 next col)
 | t+1=>cK (fI next (bA next col t))
theorem gh (next:List (List Int)) (col:List Int):∀ t,(bA next col t).length=next.length
 | 0=>by simp [bA,cK,j8]
 | t+1=>by simp [bA,cK,fI]
theorem cu {c:List Int} {i:Nat} (h:i<c.length):eT c (i:Int)=c[i]:=by
 unfold eT;rw [ND ⟨by omega,by omega⟩];simp [List.getD,h]
section
variable {next:List (List Int)} {col:List Int}
theorem FC {i j:Nat} (hi:i<next.length) (hj:j<next.length):eT (bA next col 0) (i:Int)=eT (bA next col 0) (j:Int) ↔ eT col i=eT col j:=by
 have hl:=gh next col 0;rw [cu (by omega),cu (by omega)];have:=zN (j8 next col) i j (by simp [j8,hi]) (by simp [j8,hj]);simp only [bA];rw [this];simp [j8]
theorem tI (t:Nat) {i j:Nat} (hi:i<next.length) (hj:j<next.length):eT (bA next col (t+1)) (i:Int)=eT (bA next col (t+1)) (j:Int) ↔ eT (bA next col t) (i:Int)=eT (bA next col t) (j:Int) /\ fT next (bA next col t) i=fT next (bA next col t) j:=by
 have hl:=gh next col (t+1);rw [cu (by omega),cu (by omega)];have:=zN (fI next (bA next col t)) i j (by simp [fI,hi]) (by simp [fI,hj]);simp only [bA];rw [this];simp [fI,ph]
theorem GM (t:Nat) {i j:Nat} (hi:i<next.length) (hj:j<next.length) (h:eT (bA next col t) (i:Int)=eT (bA next col t) (j:Int)):eT col i=eT col j:=by
 induction t with
 | zero=>exact (FC hi hj).1 h
 | succ t ih=>exact ih ((tI t hi hj).1 h).1
def lu (next:List (List Int)) (col:List Int) (t:Nat):List (Int × Int):=(List.range next.length).map fun (i:Nat)=>(eT (bA next col t) (i:Int),eT (bA next col (t+1)) (i:Int))
theorem te (t:Nat):(lu next col t).map Prod.fst=bA next col t:=by
 have hl:=gh next col t;apply OZ (by simp [lu,hl]);intro i h1 h2;simp [lu];rw [cu (by omega)]
theorem sD (t:Nat):(lu next col t).map Prod.snd=bA next col (t+1):=by
 have hl:=gh next col (t+1);apply OZ (by simp [lu,hl]);intro i h1 h2;simp [lu];rw [cu (by omega)]
theorem vX {κ:Type} [DecidableEq κ] (ks:List κ):(aZ (cK ks)).length=(aZ ks).length:=by
 have:cK ks=ks.map fun k=>((aZ ks).idxOf k:Int):=rfl;rw [this,sZ,NI];intro a ha b hb h;exact tq ((aY _ _).2 ha) ((aY _ _).2 hb) (by omega)
theorem mN (t:Nat):br (bA next col t)=(aZ (bA next col t)).length:=by
 cases t with
 | zero=>rw [bA,mr,vX]
 | succ t=>rw [bA,mr,vX]
theorem IL (t:Nat):∀ p ∈ lu next col t,∀ q ∈ lu next col t,p.2=q.2 -> p.1=q.1:=by
 intro p hp q hq h;obtain ⟨i,hi,rfl⟩:=NC.1 hp;obtain ⟨j,hj,rfl⟩:=NC.1 hq;simp at hi hj;exact ((tI t hi hj).1 h).1
theorem zQ (t:Nat):br (bA next col t)<=br (bA next col (t+1)):=by
 have:=(Ao (lu next col t) (IL t)).1;rw [te,sD] at this;rw [mN,mN];omega
theorem me (t:Nat):0<=br (bA next col t) /\ br (bA next col t)<=next.length:=by
 rw [mN];have:=fM _ (bA next col t) (cd _) fun x hx=>(aY _ _).1 hx;rw [gh] at this;omega
theorem DA {t:Nat} (h:br (bA next col (t+1))=br (bA next col t)) {i j:Nat} (hi:i<next.length) (hj:j<next.length) (he:eT (bA next col t) (i:Int)=eT (bA next col t) (j:Int)) :
  fT next (bA next col t) i=fT next (bA next col t) j:=by
 have h2:=(Ao (lu next col t) (IL t)).2;rw [te,sD] at h2;rw [mN,mN] at h;have:=h2 (by omega) _ (NC.2 ⟨i,by simp [hi],rfl⟩) _ (NC.2 ⟨j,by simp [hj],rfl⟩) he;exact ((tI t hi hj).1 this).2
theorem Lf {d:List Int} (hd:∀ i j,i<next.length -> j<next.length -> eT d (i:Int)=eT d (j:Int) -> eT col (i:Int)=eT col (j:Int) /\ fT next d i=fT next d j) (t:Nat) :
  ∀ i j,i<next.length -> j<next.length -> eT d (i:Int)=eT d (j:Int) -> eT (bA next col t) (i:Int)=eT (bA next col t) (j:Int):=by
 induction t with
 | zero=>intro i j hi hj h;exact (FC hi hj).2 (hd i j hi hj h).1
 | succ t ih=>
  intro i j hi hj h;refine (tI t hi hj).2 ⟨ih i j hi hj h,ut.2 fun z=>?_⟩;have hb:=ut.1 (hd i j hi hj h).2
  have go:∀ i j,i<next.length -> j<next.length -> (∀ z,z ∈ j4 next d i ↔ z ∈ j4 next d j) -> z ∈ j4 next (bA next col t) i -> z ∈ j4 next (bA next col t) j:=by
   intro i j hi hj hb hz;obtain ⟨x,hx,hin,rfl⟩:=fx.1 hz;obtain ⟨y,hy,hyin,he⟩:=fx.1 ((hb (eT d x)).1 (fx.2 ⟨x,hx,hin,rfl⟩));refine fx.2 ⟨y,hy,hyin,?_⟩;simp only [sn,NU,NW] at hin hyin;have:=ih y.toNat x.toNat (by omega) (by omega) (by rw [OT hin.1,OT hyin.1];exact he)
   rwa [OT hin.1,OT hyin.1] at this
  exact ⟨go i j hi hj hb,go j i hj hi fun z=>(hb z).symm⟩
end
end
section
theorem cg:db Tryz.prog 3 (eZ .i64):=sw Tryz.underlying3
theorem vU:db Tryz.prog 2 (eZ .i64):=sw Tryz.underlying2
def LC:ij (Int × Int × Unit):=bT (eZ .i64) (bT (eZ .i64) ri)
theorem vL:db Tryz.prog 54 LC:=
 b9 Tryz.underlying54 (by kernel_rfl) (ay (by kernel_rfl) (by kernel_rfl) cg (ay (by kernel_rfl) (by kernel_rfl) vU (cV _ _)))
def MM:ij (Int × (Int × Int × Unit) × (Int × Int × Unit) × Int × Int × Unit):=bT (eZ .i64) (bT LC (bT LC (bT (eZ .i64) (bT (eZ .i64) ri))))
theorem ym:db Tryz.prog 56 MM:=
 b9 Tryz.underlying56 (by kernel_rfl) (ay (by kernel_rfl) (by kernel_rfl) cg (ay (by kernel_rfl) (by kernel_rfl) vL (ay (by kernel_rfl) (by kernel_rfl) vL (ay (by kernel_rfl) (by kernel_rfl) cg (ay (by kernel_rfl) (by kernel_rfl) cg (cV _ _))))))
theorem Ax:db Tryz.prog 56 m7:=f7 ym (fun p=>⟨p.1,p.2.1.1,p.2.1.2.1,p.2.2.1.1,p.2.2.1.2.1,p.2.2.2.1,p.2.2.2.2.1⟩) (by
 rintro w S cs ⟨op,⟨la,ln,_⟩,⟨ra,rn,_⟩,n,u,_⟩ h;obtain ⟨c0,q0,e0,⟨a0,h0⟩,h'⟩:=aJ h;obtain ⟨c1,q1,e1,h1,h''⟩:=aJ h';obtain ⟨c2,q2,e2,h2,h3⟩:=aJ h'';obtain ⟨c3,q3,e3,⟨a3,h3'⟩,h4⟩:=aJ h3;obtain ⟨c4,q4,e4,⟨a4,h4'⟩,h5⟩:=aJ h4;have h5:q4=[]:=h5;obtain ⟨d0,k0,f0,⟨b0,g0⟩,m0⟩:=aJ h1;obtain ⟨d1,k1,f1,⟨b1,g1⟩,m1⟩:=aJ m0;have m1:k1=[]:=m1;obtain ⟨d2,k2,f2,⟨b2,g2⟩,m2⟩:=aJ h2;obtain ⟨d3,k3,f3,⟨b3,g3⟩,m3⟩:=aJ m2;have m3:k3=[]:=m3;refine ⟨?_,df h0,df g0,df g1,df g2,df g3,df h3',df h4'⟩;rw [e0,e1,e2,e3,e4,h5,a0,f0,f1,m1,b0,b1,f2,f3,m3,b2,b3,a3,a4];rfl)
theorem lK:db Tryz.prog 33 (aV m7):=bU Tryz.underlying33 (by kernel_rfl) (by decide) Ax
theorem yx:db Tryz.prog 50 (aV (eZ .i64)):=bU Tryz.underlying50 (by kernel_rfl) (by decide) cg
end
section
theorem jh:db Tryz.prog 9 pb:=tH Tryz.underlying9
theorem rh:db Tryz.prog 4 Au:=xG Tryz.underlying4
theorem m9 {t:TypeId} (h:db Tryz.prog t (bT pb (bT (eZ .i64) ri))):db Tryz.prog t eJ:=f7 h (fun p=>(p.1,p.2.1)) (by
 rintro w S cs ⟨s,n,_⟩ h;obtain ⟨c0,q0,e0,⟨a0,h0⟩,h⟩:=aJ h;obtain ⟨c1,q1,e1,⟨a1,h1⟩,h⟩:=aJ h;have h:q1=[]:=h;exact ⟨by rw [e0,e1,a0,a1,h];rfl,h0,df h1⟩)
theorem xQ:db Tryz.prog 125 eJ:=m9 (b9 Tryz.underlying125 (by kernel_rfl) (ay (by kernel_rfl) (by kernel_rfl) jh (ay (by kernel_rfl) (by kernel_rfl) cg (cV _ _))))
theorem Az:db Tryz.prog 144 eJ:=m9 (b9 Tryz.underlying144 (by kernel_rfl) (ay (by kernel_rfl) (by kernel_rfl) jh (ay (by kernel_rfl) (by kernel_rfl) cg (cV _ _))))
theorem CO:db Tryz.prog 149 mg:=f7 (r:=bT (eZ .i64) (bT (eZ .i64) ri)) (b9 Tryz.underlying149 (by kernel_rfl) (ay (by kernel_rfl) (by kernel_rfl) cg (ay (by kernel_rfl) (by kernel_rfl) cg (cV _ _)))) (fun p=>(p.1,p.2.1)) (by
 rintro w S cs ⟨s,n,_⟩ h;obtain ⟨c0,q0,e0,⟨a0,h0⟩,h⟩:=aJ h;obtain ⟨c1,q1,e1,⟨a1,h1⟩,h⟩:=aJ h;have h:q1=[]:=h;exact ⟨by rw [e0,e1,a0,a1,h];rfl,df h0,df h1⟩)
theorem wz:db Tryz.prog 154 mq:=f7 (r:=bT Au (bT (eZ .i64) ri)) (b9 Tryz.underlying154 (by kernel_rfl) (ay (by kernel_rfl) (by kernel_rfl) rh (ay (by kernel_rfl) (by kernel_rfl) cg (cV _ _)))) (fun p=>(p.1,p.2.1)) (by
 rintro w S cs ⟨s,n,_⟩ h;obtain ⟨c0,q0,e0,a0,h⟩:=aJ h;have a0:c0=[.bool s]:=a0;obtain ⟨c1,q1,e1,⟨a1,h1⟩,h⟩:=aJ h;have h:q1=[]:=h;exact ⟨by rw [e0,e1,a0,a1,h];rfl,df h1⟩)
theorem xP:db Tryz.prog 78 Mw:=f7 (r:=bT (eZ .i64) (bT (eZ .i64) (bT (aV m7) ri))) (b9 Tryz.underlying78 (by kernel_rfl) (ay (by kernel_rfl) (by kernel_rfl) cg (ay (by kernel_rfl) (by kernel_rfl) cg (ay (by kernel_rfl) (by kernel_rfl) lK (cV _ _))))) (fun p=>⟨p.1,p.2.1,p.2.2.1⟩) (by
 rintro w S cs ⟨s,n,l,_⟩ h;obtain ⟨c0,q0,e0,⟨a0,h0⟩,h⟩:=aJ h;obtain ⟨c1,q1,e1,⟨a1,h1⟩,h⟩:=aJ h;obtain ⟨c2,q2,e2,h2,h⟩:=aJ h;have h:q2=[]:=h;obtain ⟨cv,rfl,h2⟩:=ey (r:=aV m7) rfl h2;exact ⟨cv,by rw [e0,e1,e2,a0,a1,h];rfl,h2,df h0,df h1⟩)
theorem Bb:db Tryz.prog 80 MN:=f7 (r:=bT pb (bT (eZ .i64) (bT (eZ .i64) (bT (aV m7) (bT Au ri))))) (b9 Tryz.underlying80 (by kernel_rfl) (ay (by kernel_rfl) (by kernel_rfl) jh (ay (by kernel_rfl) (by kernel_rfl) cg (ay (by kernel_rfl) (by kernel_rfl) cg (ay (by kernel_rfl) (by kernel_rfl) lK (ay (by kernel_rfl) (by kernel_rfl) rh (cV _ _))))))) (fun p=>⟨p.1,p.2.1,p.2.2.1,p.2.2.2.1,p.2.2.2.2.1⟩) (by
 rintro w S cs ⟨nm,s,n,l,b,_⟩ h;obtain ⟨c9,q9,e9,⟨a9,h9⟩,h⟩:=aJ h;obtain ⟨c0,q0,e0,⟨a0,h0⟩,h⟩:=aJ h;obtain ⟨c1,q1,e1,⟨a1,h1⟩,h⟩:=aJ h;obtain ⟨c2,q2,e2,h2,h⟩:=aJ h;obtain ⟨c3,q3,e3,a3,h⟩:=aJ h;have a3:c3=[.bool b]:=a3;have h:q3=[]:=h;obtain ⟨cv,rfl,h2⟩:=ey (r:=aV m7) rfl h2;exact ⟨cv,by rw [e9,e0,e1,e2,e3,a9,a0,a1,a3,h];rfl,h2,df h0,df h1,h9⟩)
theorem yI:db Tryz.prog 82 Mz:=f7 (r:=bT pb (bT (eZ .i64) (bT (eZ .i64) (bT (aV (eZ .i64)) (bT (eZ .i64) ri))))) (b9 Tryz.underlying82 (by kernel_rfl) (ay (by kernel_rfl) (by kernel_rfl) jh (ay (by kernel_rfl) (by kernel_rfl) cg (ay (by kernel_rfl) (by kernel_rfl) cg (ay (by kernel_rfl) (by kernel_rfl) yx (ay (by kernel_rfl) (by kernel_rfl) cg (cV _ _))))))) (fun p=>⟨p.1,p.2.1,p.2.2.1,p.2.2.2.1,p.2.2.2.2.1⟩) (by
 rintro w S cs ⟨nm,s,n,l,b,_⟩ h;obtain ⟨c9,q9,e9,⟨a9,h9⟩,h⟩:=aJ h;obtain ⟨c0,q0,e0,⟨a0,h0⟩,h⟩:=aJ h;obtain ⟨c1,q1,e1,⟨a1,h1⟩,h⟩:=aJ h;obtain ⟨c2,q2,e2,h2,h⟩:=aJ h;obtain ⟨c3,q3,e3,⟨a3,h3⟩,h⟩:=aJ h;have h:q3=[]:=h;obtain ⟨cv,rfl,h2⟩:=ey (r:=aV (eZ .i64)) rfl h2;exact ⟨cv,by rw [e9,e0,e1,e2,e3,a9,a0,a1,a3,h];rfl,h2,df h0,df h1,df h3,h9⟩)
abbrev Nb:=bT (aV pb) (bT (aV (eZ .i64)) (bT (aV pb) (bT (aV eJ) (bT (aV eJ) (bT (aV Mz) (bT (aV Mw) (bT (aV MN) (bT (aV mg) (bT (aV mq) ri)))))))))
theorem Cp:db Tryz.prog 32 Nb:=b9 Tryz.underlying32 (by kernel_rfl) (ay (by kernel_rfl) (by kernel_rfl) (bU Tryz.underlying22 (by kernel_rfl) (by decide) jh) (ay (by kernel_rfl) (by kernel_rfl) (bU Tryz.underlying23 (by kernel_rfl) (by decide) vU) (ay (by kernel_rfl) (by kernel_rfl) (bU Tryz.underlying22 (by kernel_rfl) (by decide) jh) (ay (by kernel_rfl) (by kernel_rfl) (bU Tryz.underlying24 (by kernel_rfl) (by decide) Az) (ay (by kernel_rfl) (by kernel_rfl) (bU Tryz.underlying25 (by kernel_rfl) (by decide) xQ) (ay (by kernel_rfl) (by kernel_rfl) (bU Tryz.underlying26 (by kernel_rfl) (by decide) yI) (ay (by kernel_rfl) (by kernel_rfl) (bU Tryz.underlying27 (by kernel_rfl) (by decide) xP) (ay (by kernel_rfl) (by kernel_rfl) (bU Tryz.underlying28 (by kernel_rfl) (by decide) Bb) (ay (by kernel_rfl) (by kernel_rfl) (bU Tryz.underlying29 (by kernel_rfl) (by decide) CO) (ay (by kernel_rfl) (by kernel_rfl) (bU Tryz.underlying30 (by kernel_rfl) (by decide) wz) (cV _ _)))))))))))
theorem E3 {H:Type} {enc:TypeId × Value -> H} {w:World} {fuel:Nat} {cs:Array Value} {x:DataW H × List MemPlace} (h:DataW.trod enc Tryz.prog w 0 (fun _=>true) true fuel 32 cs.toList=some x) :
  ∃ (V:MV) (m:bb),cs=V.cells /\ Li w V m:=by
 obtain ⟨⟨attrs,inits,users,roles,stages,events,guards,miles,sods,order,_⟩,h⟩:=Cp H enc w fuel _ _ h;obtain ⟨c0,q0,e0,h0,h⟩:=aJ h;obtain ⟨c1,q1,e1,h1,h⟩:=aJ h;obtain ⟨c2,q2,e2,h2,h⟩:=aJ h;obtain ⟨c3,q3,e3,h3,h⟩:=aJ h;obtain ⟨c4,q4,e4,h4,h⟩:=aJ h;obtain ⟨c5,q5,e5,h5,h⟩:=aJ h;obtain ⟨c6,q6,e6,h6,h⟩:=aJ h;obtain ⟨c7,q7,e7,h7,h⟩:=aJ h;obtain ⟨c8,q8,e8,h8,h⟩:=aJ h;obtain ⟨c9,q9,e9,h9,h⟩:=aJ h;obtain rfl:q9=[]:=h;obtain ⟨v0,rfl,h0⟩:=ey (r:=aV pb) rfl h0;obtain ⟨v1,rfl,h1⟩:=ey (r:=aV (eZ .i64)) rfl h1;obtain ⟨v2,rfl,h2⟩:=ey (r:=aV pb) rfl h2;obtain ⟨v3,rfl,h3⟩:=ey (r:=aV eJ) rfl h3;obtain ⟨v4,rfl,h4⟩:=ey (r:=aV eJ) rfl h4;obtain ⟨v5,rfl,h5⟩:=ey (r:=aV Mz) rfl h5;obtain ⟨v6,rfl,h6⟩:=ey (r:=aV Mw) rfl h6;obtain ⟨v7,rfl,h7⟩:=ey (r:=aV MN) rfl h7;obtain ⟨v8,rfl,h8⟩:=ey (r:=aV mg) rfl h8;obtain ⟨v9,rfl,h9⟩:=ey (r:=aV mq) rfl h9;refine ⟨⟨v0,v1,v2,v3,v4,v5,v6,v7,v8,v9⟩,⟨attrs,inits,users,roles,stages,events,guards,miles,sods,order⟩,?_,⟨h0,h1,h2,h3,h4,h5,h6,h7,h8,h9⟩⟩;apply Array.ext';rw [e0,e1,e2,e3,e4,e5,e6,e7,e8,e9];rfl
end
section
def o8 {α:Type} (r:ij α) (f:α -> List AV):Prop:=∀ (w:World) (S:Nat -> Prop) (cs:List Value) (x:α),r.at_ w S cs x -> (f x).length=r.size /\ ∀ (j:Nat) (u:Value) (av:AV),cs[j]? = some u -> (f x)[j]? = some av -> RT w S u av /\ u.oneCell'=true
theorem o8.slice {α:Type} {r:ij α} {f:α -> List AV} (h:o8 r f) {w:World} {S:Nat -> Prop} {v:Value} {l:List α} (hv:(aV r).one w S v l):RT w S v (.sl r.size (l.map f)):=by
 obtain ⟨A,c,rfl,h1,h2⟩:=fX hv;by_cases h0:0<l.length
 .obtain ⟨b,o,rfl,hb,hrow⟩:=jX hv h0
  classical
  let cs:Nat -> List Value:=fun i=>if hi:i<l.length then (hrow i hi).choose else []
  have hcs:∀ i (hi:i<l.length),(∀ (j:Nat) (u:Value),(cs i)[j]? = some u -> w.cell? ⟨b,o+i * r.size+j,none⟩=some u) /\ r.at_ w S (cs i) l[i]:=fun i hi=>by
   have:=(hrow i hi).choose_spec;simpa [cs,hi] using this
  have key:∀ (i j:Nat) (row:List AV) (av:AV),(l.map f)[i]? = some row -> row[j]? = some av -> ∃ hi:i<l.length,(cs i)[j]? = some ((cs i).getD j undef) /\ RT w S ((cs i).getD j undef) av /\ ((cs i).getD j undef).oneCell'=true:=fun i j row av h3 h4=>by
   have hi:i<l.length:=by
    have:=(Nw.1 h3).1;simpa using this
   have hf:row=f l[i]:=by
    rw [Nu,Nq hi] at h3;exact (OX h3).symm
   subst hf;obtain ⟨h5,h6⟩:=h w S (cs i) l[i] (hcs i hi).2
   have hj:j<(cs i).length:=by
    rw [r.len (hcs i hi).2,<- h5];exact (Nw.1 h4).1
   have e:(cs i)[j]? = some ((cs i).getD j undef):=by
    rw [NA,Nq hj];rfl
   exact ⟨hi,e,h6 j _ av e h4⟩
  refine .sl _ _ c r.size _ b o (fun i j=>(cs i).getD j undef) (by simp) h1 h2 (fun _=>⟨rfl,hb⟩) (fun row hr=>?_) (fun _ i j row av h3 h4=>?_) (fun i j row av h3 h4=>(key i j row av h3 h4).elim fun _ h=>h.2.2) (fun i j row av h3 h4=>(key i j row av h3 h4).elim fun _ h=>h.2.1)
  .obtain ⟨i,hi,rfl⟩:=NV hr;have hi:i<l.length:=(by simpa using hi);simp only [List.getElem_map];exact (h w S (cs i) l[i] (hcs i hi).2).1
  .obtain ⟨hi,h5,_⟩:=key i j row av h3 h4;exact (hcs i hi).1 j _ h5
 .have:l=[]:=PM.1 (by omega);subst this;exact .sl A 0 c r.size [] 0 0 (fun _ _=>undef) rfl h1 h2 (fun h=>by omega) (by simp) (fun h=>by omega) (by simp) (by simp)
theorem fL {α:Type} {r:ij α} {f:α -> List AV} (g:α -> List Value) (hg:∀ w S cs x,r.at_ w S cs x -> cs=g x) (hs:∀ x,(g x).length=r.size) (ho:∀ x u,u ∈ g x -> u.oneCell'=true) (hf:∀ x,f x=(g x).map .c):o8 r f:=fun w S cs x h=>by
 obtain rfl:=hg w S cs x h;rw [hf];refine ⟨by simp [hs],fun j u av h1 h2=>?_⟩;rw [Nu,h1] at h2;cases h2;exact ⟨.c u,ho x u (Nr h1)⟩
theorem vz:o8 pb (fun s=>[eS s]):=fL (fun s=>[.string s]) (fun w S cs x h=>h.1) (fun x=>rfl) (fun x u h=>by simp at h;subst h;rfl) (fun x=>rfl)
theorem vN:o8 (eZ .i64) (fun n=>[eI n]):=fL (fun n=>[.int .i64 n]) (fun w S cs x h=>h.1) (fun x=>rfl) (fun x u h=>by simp at h;subst h;rfl) (fun x=>rfl)
theorem Ag:o8 eJ MQ:=fL (fun p=>[.string p.1,.int .i64 p.2]) (fun w S cs x h=>h.1) (fun x=>rfl) (fun x u h=>by simp at h;rcases h with rfl | rfl<;>rfl) (fun x=>rfl)
theorem GI:o8 mg MZ:=fL (fun p=>[.int .i64 p.1,.int .i64 p.2]) (fun w S cs x h=>h.1) (fun x=>rfl) (fun x u h=>by simp at h;rcases h with rfl | rfl<;>rfl) (fun x=>rfl)
theorem HY:o8 mq uK:=fL (fun p=>[.bool p.1,.int .i64 p.2]) (fun w S cs x h=>h.1) (fun x=>rfl) (fun x u h=>by simp at h;rcases h with rfl | rfl<;>rfl) (fun x=>rfl)
theorem nD:o8 m7 eD:=fL al.cells (fun w S cs x h=>h.1) (fun x=>rfl) (fun x u h=>by simp [al.cells] at h;rcases h with rfl | rfl | rfl | rfl | rfl | rfl | rfl<;>rfl) (fun x=>rfl)
theorem oy {α:Type} {r:ij α} {w:World} {S:Nat -> Prop} {v:Value} {l:List α} (h:(aV r).one w S v l):v.oneCell'=true:=by
 obtain ⟨A,c,rfl,_⟩:=fX h;rfl
theorem GT:o8 Mw Ea:=fun w S cs x ⟨cv,h1,h2,_⟩=>by
 subst h1;refine ⟨rfl,fun j u av h3 h4=>?_⟩
 match j with
 | 0=>simp at h3 h4;subst h3;subst h4;exact ⟨.c _,rfl⟩
 | 1=>simp at h3 h4;subst h3;subst h4;exact ⟨.c _,rfl⟩
 | 2=>simp at h3 h4;subst h3;subst h4;exact ⟨nD.slice h2,oy h2⟩
 | j+3=>simp at h3
theorem HW:o8 MN EM:=fun w S cs x ⟨cv,h1,h2,_⟩=>by
 subst h1;refine ⟨rfl,fun j u av h3 h4=>?_⟩
 match j with
 | 0=>simp at h3 h4;subst h3;subst h4;exact ⟨.c _,rfl⟩
 | 1=>simp at h3 h4;subst h3;subst h4;exact ⟨.c _,rfl⟩
 | 2=>simp at h3 h4;subst h3;subst h4;exact ⟨.c _,rfl⟩
 | 3=>simp at h3 h4;subst h3;subst h4;exact ⟨nD.slice h2,oy h2⟩
 | 4=>simp at h3 h4;subst h3;subst h4;exact ⟨.c _,rfl⟩
 | j+5=>simp at h3
theorem Hl:o8 Mz Iu:=fun w S cs x ⟨cv,h1,h2,_⟩=>by
 subst h1;refine ⟨rfl,fun j u av h3 h4=>?_⟩
 match j with
 | 0=>simp at h3 h4;subst h3;subst h4;exact ⟨.c _,rfl⟩
 | 1=>simp at h3 h4;subst h3;subst h4;exact ⟨.c _,rfl⟩
 | 2=>simp at h3 h4;subst h3;subst h4;exact ⟨.c _,rfl⟩
 | 3=>simp at h3 h4;subst h3;subst h4;exact ⟨vN.slice h2,oy h2⟩
 | 4=>simp at h3 h4;subst h3;subst h4;exact ⟨.c _,rfl⟩
 | j+5=>simp at h3
theorem Ji {w:World} {V:MV} {m:bb} (h:Li w V m):RT w (fun b=>b<w.heap.size) (.agg V.cells) (.agg (aQ m)):=by
 refine .agg _ _ rfl fun j u av h1 h2=>?_
 match j with
 | 0=>simp [MV.cells] at h1 h2;subst h1;subst h2;exact vz.slice h.attrs
 | 1=>simp [MV.cells] at h1 h2;subst h1;subst h2;exact vN.slice h.inits
 | 2=>simp [MV.cells] at h1 h2;subst h1;subst h2;exact vz.slice h.users
 | 3=>simp [MV.cells] at h1 h2;subst h1;subst h2;exact Ag.slice h.roles
 | 4=>simp [MV.cells] at h1 h2;subst h1;subst h2;exact Ag.slice h.stages
 | 5=>simp [MV.cells] at h1 h2;subst h1;subst h2;exact Hl.slice h.events
 | 6=>simp [MV.cells] at h1 h2;subst h1;subst h2;exact GT.slice h.guards
 | 7=>simp [MV.cells] at h1 h2;subst h1;subst h2;exact HW.slice h.miles
 | 8=>simp [MV.cells] at h1 h2;subst h1;subst h2;exact GI.slice h.sods
 | 9=>simp [MV.cells] at h1 h2;subst h1;subst h2;exact HY.slice h.order
 | j+10=>simp at h2
theorem fe {α:Type} {r:ij α} {w:World} {S:Nat -> Prop} {v:Value} {l:List α} {Q:α -> Prop} (h:(aV r).one w S v l) (hq:∀ cs x,r.at_ w S cs x -> Q x):∀ x ∈ l,Q x:=fun x hx=>by
 obtain ⟨i,hi,rfl⟩:=NV hx;obtain ⟨A,c,rfl,_⟩:=fX h;obtain ⟨b,o,rfl,_,hrow⟩:=jX h (by omega);obtain ⟨cs,_,h2⟩:=hrow i hi;exact hq cs _ h2
theorem AB {w:World} {V:MV} {m:bb} (h:Li w V m):yd m:=
 ⟨fe h.guards fun cs x ⟨cv,_,h2,_⟩=>fe h2 fun cs y h3=>h3.2,fe h.miles fun cs x ⟨cv,_,h2,_⟩=>fe h2 fun cs y h3=>h3.2⟩
end
section
deriving instance DecidableEq for al
structure MY where
 op:Int
 a:Int
 b:Int
 x:al
deriving DecidableEq
def Mm:al:=⟨0,0,0,0,0,0,0⟩
instance:Inhabited MY:=⟨⟨0,0,0,Mm⟩⟩
end
section
abbrev FG:al:=⟨1,0,0,0,0,0,0⟩
section
variable {n:Nat} {l:List MY} {a b:Int}
end
end
section
theorem Gi {d op:_} {d':Nat} (h:dI d op=some d'):d'<=d+1:=by
 unfold dI at h;split at h
 .cases h;omega
 .split at h
  .cases h;omega
  .split at h
   .cases h;omega
   .cases h
end
section
theorem gR:∀ (a b:List Int) (d:Nat),bq (a ++ b) d=(bq a d).bind (bq b)
 | [],b,d=>rfl
 | op :: a,b,d=>by
  simp only [OS,bq]
  cases dI d op with
  | none=>rfl
  | some d'=>exact gR a b d'
theorem pB {l:List al} {k e:Nat} (h:bq (l.map al.op) 0=some e) (hk:k<l.length):∃ d,bq ((l.take k).map al.op) 0=some d /\ ∃ d',dI d l[k].op=some d' /\ bq ((l.take (k+1)).map al.op) 0=some d':=by
 have h1:l=l.take k ++ l[k] :: l.drop (k+1):=by rw [List.getElem_cons_drop,PB]
 rw [h1,OB,gR] at h
 cases hd:bq ((l.take k).map al.op) 0 with
 | none=>rw [hd] at h;cases h
 | some d=>
  refine ⟨d,rfl,?_⟩;rw [hd] at h;simp only [Oz,OE,bq] at h
  cases hp:dI d l[k].op with
  | none=>rw [hp] at h;cases h
  | some d'=>
   refine ⟨d',rfl,?_⟩;rw [Ns hk,OB,gR,hd];simp [bq,hp]
theorem Al:∀ (l:List Int) (d e:Nat),bq l d=some e -> e<=d+l.length
 | [],d,e,h=>by cases h;exact Nz _
 | op :: l,d,e,h=>by
  rw [bq] at h
  cases hp:dI d op with
  | none=>rw [hp] at h;cases h
  | some d'=>
   rw [hp] at h;have h1:=Al l d' e h;have h2:=Gi hp;simp only [NZ];omega
theorem tl {r av:AV} {st:aj} (h:r.ren []=av):dw ⟨r,[],0⟩ st av:=⟨[],List.nodup_nil,h,trivial⟩
end
section
def xp (a:List Bool) (i:Int):Bool:=decide (0<=i) && a.getD i.toNat false
theorem kY (a:List Bool) (i:Nat):xp a (i:Int)=a.getD i false:=by simp [xp]
theorem J4 {a:List Bool} {i:Int} (h:xp a i=true):0<=i /\ i<(a.length:Int):=by
 simp only [xp,NU,NW] at h;refine ⟨h.1,?_⟩;rcases NP i.toNat a.length with h1|h1
 .omega
 .rw [List.getD,NN h1] at h;simp at h
def lU (next:List (List Int)) (i k:Nat):Prop:=(k:Int) ∈ next.getD i [] /\ k<next.length
def kd (n:Nat) (a:List Bool) (row:List Int):Bool:=row.any fun k=>decide (k<(n:Int)) && xp a k
def rC (next:List (List Int)) (a:List Bool):List Bool:=next.map (kd next.length a)
theorem lL (next:List (List Int)) (a:List Bool):(rC next a).length=next.length:=by simp [rC]
theorem t9 (next:List (List Int)) (a:List Bool) (i:Nat):(rC next a).getD i false=true ↔ ∃ k,lU next i k /\ a.getD k false=true:=by
 unfold rC kd lU;rw [List.getD,Nu];rcases NP i next.length with h|h
 .rw [Nq h];simp only [N9,NX,List.any_eq_true,NU,NW];have e:next.getD i []=next[i]:=by rw [List.getD,Nq h];rfl
  rw [e];refine ⟨fun ⟨k,h1,h2,h3⟩=>?_,fun ⟨k,⟨h1,h2⟩,h3⟩=>⟨(k:Int),h1,by omega,by rw [kY];exact h3⟩⟩;obtain ⟨m,rfl⟩:=Int.eq_ofNat_of_zero_le (J4 h3).1;exact ⟨m,⟨h1,by omega⟩,by rw [<- kY];exact h3⟩
 .rw [NN h];have e:next.getD i []=[]:=by rw [List.getD,NN h];rfl
  rw [e];simp
inductive FZ (next:List (List Int)) (a b:List Bool):Nat -> Prop
 | here (i:Nat):i<next.length -> b.getD i false=true -> FZ next a b i
 | step (i k:Nat):i<next.length -> a.getD i false=true -> lU next i k -> FZ next a b k -> FZ next a b i
def Ma (next:List (List Int)) (a:List Bool) (i:Nat):Prop:=∃ S:Nat -> Prop,S i /\ ∀ j,S j -> j<next.length /\ a.getD j false=true /\ ∃ k,lU next j k /\ S k
open Classical in
noncomputable def BK (next:List (List Int)) (a b:List Bool):List Bool:=(List.range next.length).map fun i=>decide (FZ next a b i)
open Classical in
noncomputable def HO (next:List (List Int)) (a:List Bool):List Bool:=(List.range next.length).map fun i=>decide (Ma next a i)
theorem dy (next:List (List Int)) (a b:List Bool):(BK next a b).length=next.length:=by simp [BK]
theorem jx (next:List (List Int)) (a:List Bool):(HO next a).length=next.length:=by simp [HO]
theorem FZ.lt {next:List (List Int)} {a b:List Bool} {i:Nat} (h:FZ next a b i):i<next.length:=by cases h<;>assumption
theorem Ma.lt {next:List (List Int)} {a:List Bool} {i:Nat} (h:Ma next a i):i<next.length:=by obtain ⟨S,h1,h2⟩:=h;exact (h2 i h1).1
theorem uA (next:List (List Int)) (a b:List Bool) (i:Nat):(BK next a b).getD i false=true ↔ FZ next a b i:=by
 unfold BK;rw [List.getD,Nu];rcases NP i next.length with h|h
 .rw [Ol h];simp
 .rw [NN (by simpa using h)];simp;exact fun hh=>by have:=hh.lt;omega
theorem yu (next:List (List Int)) (a:List Bool) (i:Nat):(HO next a).getD i false=true ↔ Ma next a i:=by
 unfold HO;rw [List.getD,Nu];rcases NP i next.length with h|h
 .rw [Ol h];simp
 .rw [NN (by simpa using h)];simp;exact fun hh=>by have:=hh.lt;omega
theorem de {a b:List Bool} (hl:a.length=b.length) (h:∀ i,i<a.length -> (a.getD i false=true ↔ b.getD i false=true)):a=b:=by
 apply OZ hl;intro i h1 h2;have:=h i h1;rw [List.getD,Nq h1,List.getD,Nq h2] at this;simp at this
 first|exact this|exact O7.2 this
def cnt (a:List Bool):Nat:=(a.filter id).length
theorem uj (a:List Bool):cnt a<=a.length:=Ph _ _
theorem zg:∀ {a b:List Bool},a.length=b.length -> (∀ i,a.getD i false=true -> b.getD i false=true) -> a ≠ b -> cnt a<cnt b:=by
 intro a
 induction a with
 | nil=>intro b hl _ hne;cases b with
  | nil=>exact absurd rfl hne
  | cons y b=>simp at hl
 | cons x a ih=>
  intro b hl h hne
  cases b with
  | nil=>simp at hl
  | cons y b=>
   have h0:=h 0;have hs:∀ i,a.getD i false=true -> b.getD i false=true:=fun i hi=>by have:=h (i+1);simpa using this (by simpa using hi)
   simp at h0;by_cases e:a=b
   .subst e;have:x ≠ y:=fun e=>hne (by rw [e]);cases x<;>cases y<;>simp_all [cnt]
   .have:=ih (by simpa using hl) hs e;unfold cnt at this ⊢;cases x<;>cases y<;>simp_all<;>omega
theorem HM:∀ {a:List Bool},cnt a=a.length -> ∀ i,i<a.length -> a.getD i false=true:=by
 intro a
 induction a with
 | nil=>intro _ i hi;simp at hi
 | cons x a ih=>
  intro h i hi;have hc:=uj a
  cases x with
  | false=>
   have:cnt (false :: a)=cnt a:=by simp [cnt]
   rw [this] at h;simp at h;omega
  | true=>
   have:cnt (true :: a)=cnt a+1:=by simp [cnt]
   rw [this] at h
   cases i with
   | zero=>simp
   | succ i=>simpa using ih (by simpa using h) i (by simpa using hi)
def lv (next:List (List Int)) (a b out:List Bool):List Bool:=(List.range next.length).map fun i=>b.getD i false || (a.getD i false && (rC next out).getD i false)
theorem mL (next:List (List Int)) (a b out:List Bool):(lv next a b out).length=next.length:=by simp [lv]
theorem qx (next:List (List Int)) (a b out:List Bool) (i:Nat):(lv next a b out).getD i false=true ↔ i<next.length /\ (b.getD i false=true \/ (a.getD i false=true /\ ∃ k,lU next i k /\ out.getD k false=true)):=by
 unfold lv;rw [List.getD,Nu];rcases NP i next.length with h|h
 .rw [Ol h];simp only [N9,NX,PE,NU,t9];exact ⟨fun hh=>⟨h,hh⟩,fun hh=>hh.2⟩
 .rw [NN (by simpa using h)];simp;omega
def mZ (next:List (List Int)) (a b:List Bool):Nat -> List Bool
 | 0=>List.replicate next.length false
 | m+1=>lv next a b (mZ next a b m)
theorem fV (next:List (List Int)) (a b:List Bool):∀ m,(mZ next a b m).length=next.length
 | 0=>by simp [mZ]
 | m+1=>mL _ _ _ _
theorem nW (next:List (List Int)) (a b:List Bool):∀ m i,(mZ next a b m).getD i false=true -> FZ next a b i
 | 0,i,h=>by
  exfalso;rw [mZ,List.getD,Po] at h;split at h<;>simp at h
 | m+1,i,h=>by
  rw [mZ,qx] at h;obtain ⟨h0,h⟩:=h;rcases h with h|⟨h1,k,h2,h3⟩
  .exact .here i h0 h
  .exact .step i k h0 h1 h2 (nW next a b m k h3)
theorem vI (next:List (List Int)) (a b:List Bool):∀ m i,(mZ next a b m).getD i false=true -> (mZ next a b (m+1)).getD i false=true
 | 0,i,h=>by
  exfalso;rw [mZ,List.getD,Po] at h;split at h<;>simp at h
 | m+1,i,h=>by
  rw [mZ,qx] at h ⊢;obtain ⟨h0,h⟩:=h;refine ⟨h0,?_⟩;rcases h with h|⟨h1,k,h2,h3⟩
  .exact .inl h
  .exact .inr ⟨h1,k,h2,vI next a b m k h3⟩
theorem BA (next:List (List Int)) (a b out:List Bool) (h:∀ i,i<next.length -> (b.getD i false=true \/ (a.getD i false=true /\ ∃ k,lU next i k /\ out.getD k false=true)) -> out.getD i false=true):∀ i,FZ next a b i -> out.getD i false=true:=by
 intro i hi
 induction hi with
 | here i h0 h1=>exact h i h0 (.inl h1)
 | step i k h0 h1 h2 _ ih=>exact h i h0 (.inr ⟨h1,k,h2,ih⟩)
theorem xE (next:List (List Int)) (a b:List Bool) (m:Nat) (h:mZ next a b (m+1)=mZ next a b m):mZ next a b (m+1)=BK next a b:=by
 refine de (by rw [fV,dy]) fun i _=>?_;rw [uA];refine ⟨nW next a b _ i,BA next a b _ (fun i hi hh=>?_) i⟩;rw [mZ,qx,<- h];exact ⟨hi,hh⟩
theorem Id (next:List (List Int)) (a b:List Bool) (m:Nat) (h:next.length<=cnt (mZ next a b m)):mZ next a b m=BK next a b:=by
 refine de (by rw [fV,dy]) fun i hi=>?_;rw [uA];refine ⟨nW next a b _ i,fun _=>HM ?_ i hi⟩;have:=uj (mZ next a b m);rw [fV] at this ⊢;omega
def iJ (next:List (List Int)) (out:List Bool):List Bool:=(List.range next.length).map fun i=>out.getD i false && (rC next out).getD i false
theorem mo (next:List (List Int)) (out:List Bool):(iJ next out).length=next.length:=by simp [iJ]
theorem mf (next:List (List Int)) (out:List Bool) (i:Nat):(iJ next out).getD i false=true ↔ i<next.length /\ out.getD i false=true /\ ∃ k,lU next i k /\ out.getD k false=true:=by
 unfold iJ;rw [List.getD,Nu];rcases NP i next.length with h|h
 .rw [Ol h];simp only [N9,NX,NU,t9];exact ⟨fun hh=>⟨h,hh⟩,fun hh=>hh.2⟩
 .rw [NN (by simpa using h)];simp;omega
def oQ (next:List (List Int)) (a:List Bool):Nat -> List Bool
 | 0=>(List.range next.length).map fun i=>a.getD i false
 | m+1=>iJ next (oQ next a m)
theorem fR (next:List (List Int)) (a:List Bool):∀ m,(oQ next a m).length=next.length
 | 0=>by simp [oQ]
 | m+1=>mo _ _
theorem qI (next:List (List Int)) (a:List Bool) (i:Nat):(oQ next a 0).getD i false=true ↔ i<next.length /\ a.getD i false=true:=by
 rw [oQ,List.getD,Nu];rcases NP i next.length with h|h
 .rw [Ol h];simp [h]
 .rw [NN (by simpa using h)];simp;omega
theorem tp (next:List (List Int)) (a:List Bool):∀ m i,Ma next a i -> (oQ next a m).getD i false=true
 | 0,i,h=>by
  obtain ⟨S,h1,h2⟩:=h;obtain ⟨h3,h4,_⟩:=h2 i h1;exact (qI next a i).2 ⟨h3,h4⟩
 | m+1,i,h=>by
  rw [oQ,mf];obtain ⟨S,h1,h2⟩:=h;obtain ⟨h3,h4,k,h5,h6⟩:=h2 i h1;exact ⟨h3,tp next a m i ⟨S,h1,h2⟩,k,h5,tp next a m k ⟨S,h6,h2⟩⟩
theorem F1 (next:List (List Int)) (a:List Bool):∀ m i,(oQ next a m).getD i false=true -> i<next.length /\ a.getD i false=true
 | 0,i,h=>(qI next a i).1 h
 | m+1,i,h=>by
  rw [oQ,mf] at h;exact F1 next a m i h.2.1
theorem Cz (next:List (List Int)) (a out:List Bool) (h:∀ i,out.getD i false=true -> i<next.length /\ a.getD i false=true /\ ∃ k,lU next i k /\ out.getD k false=true):∀ i,out.getD i false=true -> Ma next a i:=
 fun i hi=>⟨fun j=>out.getD j false=true,hi,fun j hj=>h j hj⟩
theorem xy (next:List (List Int)) (a:List Bool) (m:Nat) (h:oQ next a (m+1)=oQ next a m):oQ next a (m+1)=HO next a:=by
 refine de (by rw [fR,jx]) fun i _=>?_;rw [yu];refine ⟨Cz next a _ (fun i hi=>?_) i,tp next a _ i⟩;have h1:=F1 next a _ i hi;rw [h] at hi ⊢;rw [<- h,oQ,mf] at hi;exact ⟨h1.1,h1.2,hi.2.2⟩
theorem DX (next:List (List Int)) (a:List Bool) (m:Nat) (h:oQ next a (m+1) ≠ oQ next a m):cnt (oQ next a (m+1))<cnt (oQ next a m):=
 zg (by rw [fR,fR]) (fun i hi=>by rw [oQ,mf] at hi;exact hi.2.1) h
theorem Ge (next:List (List Int)) (a b:List Bool) (m:Nat) (h:mZ next a b (m+1) ≠ mZ next a b m):cnt (mZ next a b m)<cnt (mZ next a b (m+1)):=
 zg (by rw [fV,fV]) (vI next a b m) (fun e=>h e.symm)
end
end
section
section
abbrev dZ (l:List Bool):List (List AV):=l.map fun b=>[eB b]
abbrev j2 (l:List Bool):AV:=.sl 1 (dZ l)
abbrev uL (next:List (List Int)):List (List AV):=next.map fun r=>[sI r]
abbrev gV (next:List (List Int)):AV:=.sl 1 (uL next)
structure um (next:List (List Int)):Prop where
 len:next.length<=200
 row:∀ r ∈ next,r.length<=4000
 ok:∀ r ∈ next,∀ x ∈ r,aB x
theorem n4 (a:List Bool) (i:Int) (ha:a.length<=1000000000):ax Tryz.prog 101 [j2 a,eI i] (val (.bool (xp a i))):=by
 refine aa ah Tryz.func101 rfl (by decide) Tryz.ntmps101 Tryz.results101 rfl (aH _) ?_;by_cases h0:0<=i
 .obtain ⟨q,rfl⟩:∃ q:Nat,i=(q:Int):=⟨i.toNat,by omega⟩;rw [kY];by_cases h1:q<a.length
  .obtain ⟨x,hx⟩:∃ x,x=a[q]:=⟨_,rfl⟩;have hrow:(a.map fun b=>[eB b])[q]?.getD []=[eB x]:=by rw [hx];simp [h1]
   have hg:a.getD q false=x:=by rw [hx];simp [List.getD,h1]
   rw [hg]
   repeat' first|refine ge (kf @hrow h1) ?_|decide|refine sp ?_ ?_<;>intro _
   all_goals first|rfl|(simp_all;done)
  .have hg:a.getD q false=false:=by rw [NA,NN (by omega)];rfl
   rw [hg]
   repeat' first|refine ge h1 ?_|decide|refine sp ?_ ?_<;>intro _
   all_goals first|rfl|(simp_all;done)
 .have hg:xp a i=false:=by simp [xp,h0]
  have d:decide (0<=i)=false:=by simpa using h0
  rw [hg]
  repeat' first|refine ge d ?_|decide|refine sp ?_ ?_<;>intro _
  all_goals first|rfl|(simp_all;done)
def bv (new old:List Bool) (j:Nat):List Bool:=new.take j ++ old.drop j
theorem dh {new old:List Bool} (h:new.length=old.length) {j:Nat} (hj:j<=old.length):(bv new old j).length=old.length:=by simp [bv];omega
theorem io {new old:List Bool} (h:new.length=old.length) {j:Nat} (hj:j<old.length):(dZ (bv new old j))[j]?.getD []=[eB (old.getD j false)]:=by
 have h1:(bv new old j)[j]? = some old[j]:=by
  unfold bv;rw [NY (by simp;omega)];simp only [NF,Og];rw [show j+(j - min j new.length)=j by omega,Nq hj]
 simp [h1,List.getD,hj]
theorem gi {new old:List Bool} (h:new.length=old.length) {j:Nat} (hj:j<old.length):(dZ (bv new old j)).set j [eB (new.getD j false)]=dZ (bv new old (j+1)):=by
 have h1:new.getD j false=new[j]'(by omega):=by simp [List.getD,show j<new.length by omega]
 have h2:bv new old j=new.take j ++ old[j] :: old.drop (j+1):=by rw [bv,List.getElem_cons_drop]
 have h3:bv new old (j+1)=new.take j ++ new[j]'(by omega) :: old.drop (j+1):=by rw [bv,Ns (by omega),Oj,List.singleton_append]
 rw [h1,h2,h3];simp only [OB,Oz];rw [List.set_append_right _ _ (by simp;omega)];simp [PT (show j<=new.length by omega)]
theorem BO {new old:List Bool} (h:new.length=old.length) {j:Nat} (hj:j<old.length) {v:Bool} (hv:new.getD j false=v):(bv new old j).set j v=bv new old (j+1):=by
 have h1:v=new[j]'(by omega):=by rw [<- hv];simp [List.getD,show j<new.length by omega]
 have h2:bv new old j=new.take j ++ old[j] :: old.drop (j+1):=by rw [bv,List.getElem_cons_drop]
 have h3:bv new old (j+1)=new.take j ++ new[j]'(by omega) :: old.drop (j+1):=by rw [bv,Ns (by omega),Oj,List.singleton_append]
 rw [h1,h2,h3,List.set_append_right _ _ (by simp;omega),NF,PT (by omega),Nat.sub_self];rfl
theorem Ek {new old:List Bool} (h:new.length=old.length) {j:Nat} (hj:j<old.length):(bv new old j)[j]? = some (old.getD j false):=by
 unfold bv;rw [NY (by simp;omega)];simp only [NF,Og];rw [show j+(j - min j new.length)=j by omega,Nq hj];simp [List.getD,hj]
theorem gx {new old:List Bool} (h:new.length=old.length):bv new old old.length=new:=by simp [bv,NT (Nat.le_of_eq h)]
theorem fk (new old:List Bool):bv new old 0=old:=by simp [bv]
theorem Gc {X:List Bool} {i:Nat} {v:Bool} (h:X[i]? = some v):X.set i v=X:=by
 obtain ⟨h1,rfl⟩:=Nw.1 h;exact List.set_getElem_self h1
theorem EY {X:List Bool} {i:Nat} (v:Bool) (h:i<X.length):(dZ (X.set i v))[i]?.getD []=[eB v]:=by simp [h]
theorem Fy (X:List Bool) (i:Nat) (v u:Bool):(dZ (X.set i v)).set i [eB u]=dZ (X.set i u):=by
 rw [<- Pw,List.set_set]
theorem yq {n:Nat} {a:List Bool} {q:List Int} {j:Nat} (h:j<q.length):kd n a (q.take (j+1))=(kd n a (q.take j) || (decide (q[j]<(n:Int)) && xp a q[j])):=by
 unfold kd;rw [Ns h,List.any_append];simp
theorem HP {next:List (List Int)} {a:List Bool} {k:Nat} (h:k<next.length):(rC next a).getD k false=kd next.length a next[k]:=by simp [rC,List.getD,h]
theorem Ig {n k:Nat} (h:k<n):(List.replicate n false).getD k false=false:=by simp [List.getD,h]
theorem EV (next:List (List Int)) (a:List Bool) (hx:um next) (ha:a.length<=1000000):ax Tryz.prog 53 [gV next,j2 a] (ic 4 1 (dZ (rC next a))):=by
 refine aa ah Tryz.func53 rfl (by decide) Tryz.ntmps53 Tryz.results53 rfl (cB _ _ _) ?_;have hnl:=hx.len;obtain ⟨N,hN⟩:∃ N,N=rC next a:=⟨_,rfl⟩;have hNl:N.length=(List.replicate next.length false).length:=by rw [hN];simp [rC]
 have hF:(List.replicate next.length false).length=next.length:=by simp
 obtain ⟨F,hFe⟩:∃ F,F=List.replicate next.length false:=⟨_,rfl⟩;have hF0:dZ F=List.replicate next.length [eB false]:=by rw [hFe];simp
 rw [<- hFe] at hNl hF;have hg:∀ k (h:k<next.length),N.getD k false=kd next.length a next[k]:=fun k h=>by rw [hN,HP h]
 have hf:∀ k,k<next.length -> F.getD k false=false:=fun k h=>by rw [hFe,Ig h]
 rw [<- hN]
 repeat' first|refine go ?_|decide|refine sp ?_ ?_<;>intro _
 refine ⟨⟨by omega,by omega⟩,?_⟩;refine ae (fun st=>∃ k:Nat,k<=next.length /\ st=⟨51,[(0,gV next),(1,j2 a),(5,.osl 0),(6,eI (k:Int))],[(0,some (.row 4 1 (dZ (bv N F k))))],1⟩) (fun st=>next.length - aq st 6) ⟨_,(wE (kf @fk hF0)),0,Nv _,rfl⟩ ?_;rintro _ ⟨k,hk,rfl⟩;by_cases hlt:k<next.length
 .obtain ⟨q,hq⟩:∃ q,q=next[k]:=⟨_,rfl⟩;have hrow:(uL next)[k]?.getD []=[sI q]:=by rw [hq];simp [uL,hlt]
  have hql:q.length<=4000:=by rw [hq];exact hx.row _ (Nt hlt)
  have hul:(bv N F k).length=next.length:=by rw [dh hNl (by omega)];exact hF
  have hs0:(bv N F k).set k (kd next.length a (q.take 0))=bv N F k:=Gc (by rw [Ek hNl (by omega),hf k hlt];rfl);have hs1:(bv N F k).set k (kd next.length a (q.take q.length))=bv N F (k+1):=BO hNl (by omega) (by rw [hg k hlt,NG,hq]);obtain ⟨X,hX⟩:∃ X,X=bv N F k:=⟨_,rfl⟩;rw [<- hX] at hul hs0 hs1 ⊢
  repeat' first|refine ge (kf @hrow @hlt) ?_|decide|refine sp ?_ ?_<;>intro _
  refine ae (fun st=>∃ j:Nat,j<=q.length /\ st=⟨51,[(0,gV next),(1,j2 a),(5,.osl 0),(6,eI (k:Int)),(7,eI (j:Int))],[(0,some (.row 4 1 (dZ (X.set k (kd next.length a (q.take j))))))],1⟩) (fun st=>q.length - aq st 7) ⟨_,(wE hs0),0,Nv _,rfl⟩ ?_;rintro _ ⟨j,hj,rfl⟩;by_cases hlt2:j<q.length
  .obtain ⟨x,hx2⟩:∃ x,x=q[j]:=⟨_,rfl⟩;have hrj:(q.map fun n=>[eI n])[j]?.getD []=[eI x]:=by rw [hx2];simp [hlt2]
   have ea:=yq (n:=next.length) (a:=a) hlt2;rw [<- hx2] at ea;have hI:=n4 a x (by omega);obtain ⟨v,hv⟩:∃ v,v=kd next.length a (q.take j):=⟨_,rfl⟩;have hcs:=Fy X k v true;have hcg:=EY v (show k<X.length by omega);have hkx:k<(X.set k v).length:=by rw [Pg];omega
   rw [<- hv] at ea ⊢;by_cases hd:x<(next.length:Int)
   .have d:decide (x<(next.length:Int))=true:=NL hd;rw [d,Oq] at ea
    cases hb:xp a x with
    | true=>
     rw [hb,Bool.or_true] at ea;rw [hb] at hI
     repeat' first|refine gf (kf @hrow (kf @hlt (kf @hrj (kf @hlt2 (kf d (kf @hkx (kf @hcg @hcs))))))) ?_|decide|refine sp ?_ ?_<;>intro _|refine cA hI ?_|fail
     all_goals exact rI (wE (kf ea @hcs)) ⟨j+1,by omega,rfl⟩
    | false=>
     rw [hb,PW] at ea;rw [hb] at hI
     repeat' first|refine gf (kf @hrow (kf @hlt (kf @hrj (kf @hlt2 d)))) ?_|decide|refine sp ?_ ?_<;>intro _|refine cA hI ?_|fail
     all_goals exact rI (wE ea) ⟨j+1,by omega,rfl⟩
   .have d:decide (x<(next.length:Int))=false:=NE hd;rw [d,Os,PW] at ea
    repeat' first|refine gf (kf @hrow (kf @hlt (kf @hrj (kf @hlt2 d)))) ?_|decide|refine sp ?_ ?_<;>intro _|refine cA hI ?_|fail
    all_goals exact rI (wE ea) ⟨j+1,by omega,rfl⟩
  .obtain rfl:j=q.length:=by omega
   rw [hs1]
   repeat' first|refine gf (kf @hrow (kf @hlt @hlt2)) ?_|decide|refine sp ?_ ?_<;>intro _
   all_goals exact rI wC ⟨k+1,by omega,rfl⟩
 .obtain rfl:k=next.length:=by omega
  have e1:bv N F next.length=N:=by rw [<- hF];exact gx hNl
  rw [e1]
  repeat' first|refine gf @hlt ?_|decide|refine sp ?_ ?_<;>intro _
  all_goals exact aO (by simp [af.gc])
def BH (N o:List Bool) (j:Nat):Bool:=(List.range j).all fun i=>N.getD i false == o.getD i false
theorem vR (N o:List Bool) (j:Nat):BH N o (j+1)=(BH N o j && (N.getD j false == o.getD j false)):=by simp [BH,OL]
theorem El {N o:List Bool} (h:N.length=o.length):BH N o o.length=true ↔ N=o:=by
 constructor
 .intro hs;apply OZ h;intro i h1 h2;have:=List.all_eq_true.1 hs i (Pc.2 h2);simpa [List.getD,h1,h2] using this
 .rintro rfl;simp [BH]
theorem FQ (next:List (List Int)) (a b out:List Bool) (k:Nat) (hk:k<next.length):(lv next a b out).getD k false=(b.getD k false || (a.getD k false && (rC next out).getD k false)):=by
 unfold lv;rw [List.getD,Nu,Ol hk];rfl
theorem FI (next:List (List Int)) (out:List Bool) (k:Nat) (hk:k<next.length):(iJ next out).getD k false=(out.getD k false && (rC next out).getD k false):=by
 unfold iJ;rw [List.getD,Nu,Ol hk];rfl
theorem aP (l:List Bool):∀ row ∈ dZ l,∀ a ∈ row,AV.plain a:=by
 intro row hr a ha;obtain ⟨b,_,rfl⟩:=NC.1 hr;simp at ha;subst ha;trivial
theorem DM (next:List (List Int)) (a b:List Bool) (hx:um next) (ha:a.length<=1000000) (hb:b.length<=1000000):ax Tryz.prog 56 [gV next,j2 a,j2 b] (ic 4 1 (dZ (BK next a b))):=by
 refine aa ah Tryz.func56 rfl (by decide) Tryz.ntmps56 Tryz.results56 rfl (cB _ _ _) ?_;have hnl:=hx.len;have hF0:dZ (mZ next a b 0)=List.replicate next.length [eB false]:=by simp [mZ]
 repeat' first|refine go ?_|decide|refine sp ?_ ?_<;>intro _
 refine ⟨⟨by omega,by omega⟩,?_⟩;refine ae (fun st=>∃ k:Nat,k<=next.length+1 /\ k<=cnt (mZ next a b k)+1 /\ st=⟨71,[(0,gV next),(1,j2 a),(2,j2 b),(7,.osl 0),(8,eI (k:Int))],[(0,some (.row 4 1 (dZ (mZ next a b k))))],1⟩) (fun st=>next.length+1 - aq st 8) ⟨_,(wE hF0),0,Nv _,Nv _,rfl⟩ ?_;rintro _ ⟨k,hk,hkc,rfl⟩;have hol:(mZ next a b k).length=next.length:=fV ..;by_cases hlt:k<=next.length
 .have hlt2:decide ((k:Int)<=(next.length:Int))=true:=NL (by omega);have hs:mZ next a b (k+1)=lv next a b (mZ next a b k):=rfl;have hst:=xE next a b k;have hmo:=Ge next a b k;obtain ⟨o,ho⟩:∃ o,o=mZ next a b k:=⟨_,rfl⟩;rw [<- ho] at hs hol hkc hst hmo ⊢;have hev:=EV next o hx (by omega);have hxl:(rC next o).length=o.length:=by simp [rC,hol]
  have hnl2:(lv next a b o).length=o.length:=by rw [mL,hol]
  have hnx:=fun j (hj:j<o.length)=>FQ next a b o j (by omega);obtain ⟨X,hX⟩:∃ X,X=rC next o:=⟨_,rfl⟩;rw [<- hX] at hev hxl hnx;obtain ⟨N,hN⟩:∃ N,N=lv next a b o:=⟨_,rfl⟩;rw [<- hN] at hs hnl2 hnx;rw [hs] at hst hmo
  repeat' first|refine ge (kf @hlt @hlt2) ?_|decide|refine sp ?_ ?_<;>intro _
  refine ce hev (.inr (aP _)) ?_
  repeat' first|refine go ?_|decide|refine sp ?_ ?_<;>intro _
  refine ae (fun st=>∃ j:Nat,j<=o.length /\ st=⟨71,[(0,gV next),(1,j2 a),(2,j2 b),(7,.osl 0),(8,eI (k:Int)),(9,.osl 1),(10,eB (BH N o j)),(11,eI (j:Int))],[(0,some (.row 4 1 (dZ (bv N o j)))),(1,some (.row 4 1 (dZ X)))],2⟩) (fun st=>o.length - aq st 11) ⟨_,(wE (kf @fk (kf @BH.eq_1 (kf @O8 @List.all_nil.{0})))),0,Nv _,rfl⟩ ?_;rintro _ ⟨j,hj,rfl⟩;have hul:=dh hnl2 hj;by_cases hlt3:j<o.length
  .have d1:decide ((j:Int)<((bv N o j).length:Int))=true:=NL (by omega);have d2:decide ((j:Int)<(X.length:Int))=true:=NL (by omega);have d3:j<(bv N o j).length:=(by omega);have d4:j<X.length:=(by omega);have r1:=io hnl2 hlt3;have r2:(dZ X)[j]?.getD []=[eB (X.getD j false)]:=(by simp [List.getD,d4]);have hset:=gi hnl2 hlt3;have hsm:=vR N o j;have hIa:=n4 a (j:Int) (by omega);have hIb:=n4 b (j:Int) (by omega);rw [hnx j hlt3] at hset hsm;rw [kY] at hIa hIb;obtain ⟨v,hv⟩:∃ v,v=X.getD j false:=⟨_,rfl⟩;obtain ⟨u,hu⟩:∃ u,u=o.getD j false:=⟨_,rfl⟩;obtain ⟨x,hx1⟩:∃ x,x=a.getD j false:=⟨_,rfl⟩;obtain ⟨y,hy1⟩:∃ y,y=b.getD j false:=⟨_,rfl⟩;obtain ⟨s,hs1⟩:∃ s,s=BH N o j:=⟨_,rfl⟩;rw [<- hv,<- hx1,<- hy1] at hset;rw [<- hs1,<- hv,<- hx1,<- hy1,<- hu] at hsm;rw [<- hv] at r2;rw [<- hu] at r1;rw [<- hx1] at hIa;rw [<- hy1] at hIb;rw [<- hs1];cases y<;>cases x<;>cases s<;>simp only [Bool.true_or,PX,Oq,Os] at hset hsm
   all_goals
    repeat' first|refine gf (kf d1 (kf d2 (kf d3 (kf d4 (kf r1 (kf r2 @hset)))))) ?_|decide|refine sp ?_ ?_<;>intro _|refine cA hIb ?_|refine cA hIa ?_|fail
    all_goals exact rI (wE (kf @hset @hsm)) ⟨j+1,by omega,rfl⟩
  .obtain rfl:j=o.length:=by omega
   have d1:decide ((o.length:Int)<((bv N o o.length).length:Int))=false:=NE (by omega);have e1:bv N o o.length=N:=gx hnl2;have d2:¬ o.length<N.length:=(by omega);have hse:=El hnl2;rw [e1] at d1 ⊢
   cases hs1:BH N o o.length with
   | true=>
    have hNo:=hse.1 hs1;by_cases h0:0<k
    .have d3:decide ((0:Int)<(k:Int))=true:=NL (by omega);rw [<- hst hNo]
     repeat' first|refine gf (kf d1 (kf d2 (kf d3 h0))) ?_|decide|refine sp ?_ ?_<;>intro _
     all_goals exact aO (by simp [af.gc])
    .obtain rfl:k=0:=by omega
     have d3:decide ((0:Int)<((0:Nat):Int))=false:=rfl
     repeat' first|refine gf (kf d1 (kf d2 d3)) ?_|decide|refine sp ?_ ?_<;>intro _
     all_goals exact rI (wE hs) ⟨1,by omega,by omega,rfl⟩
   | false=>
    have hNo:=hmo fun h=>by rw [hse.2 h] at hs1;cases hs1
    repeat' first|refine gf (kf d1 d2) ?_|decide|refine sp ?_ ?_<;>intro _
    all_goals exact rI (wE hs) ⟨k+1,by omega,by rw [hs];omega,rfl⟩
 .obtain rfl:k=next.length+1:=by omega
  have hlt2:decide (((next.length+1:Nat):Int)<=(next.length:Int))=false:=NE (by omega);have hlt3:¬ next.length+1<=next.length:=by omega
  rw [Id next a b (next.length+1) (by omega)]
  repeat' first|refine ge (kf @hlt2 @hlt3) ?_|decide|refine sp ?_ ?_<;>intro _
  all_goals exact aO (by simp [af.gc])
theorem MS (next:List (List Int)) (a:List Bool) (hx:um next) (ha:a.length<=1000000):ax Tryz.prog 57 [gV next,j2 a] (ic 4 1 (dZ (HO next a))):=by
 refine aa ah Tryz.func57 rfl (by decide) Tryz.ntmps57 Tryz.results57 rfl (cB _ _ _) ?_;have hnl:=hx.len;obtain ⟨G,hG⟩:∃ G,G=oQ next a 0:=⟨_,rfl⟩;have hFl:(List.replicate next.length false).length=next.length:=by simp
 obtain ⟨F,hFe⟩:∃ F,F=List.replicate next.length false:=⟨_,rfl⟩;have hF0:dZ F=List.replicate next.length [eB false]:=by rw [hFe];simp
 rw [<- hFe] at hFl;have hGl:G.length=F.length:=by rw [hG,fR,hFl]
 have hGa:∀ k,k<next.length -> G.getD k false=a.getD k false:=fun k h=>by
  rw [hG,O7,qI];exact ⟨fun h=>h.2,fun h2=>⟨h,h2⟩⟩
 repeat' first|refine go ?_|decide|refine sp ?_ ?_<;>intro _
 refine ⟨⟨by omega,by omega⟩,?_⟩;refine ae (fun st=>∃ k:Nat,k<=next.length /\ st=⟨77,[(0,gV next),(1,j2 a),(5,.osl 0),(6,eI (k:Int))],[(0,some (.row 4 1 (dZ (bv G F k))))],1⟩) (fun st=>next.length - aq st 6) ⟨_,(wE (kf @fk hF0)),0,Nv _,rfl⟩ ?_;rintro _ ⟨k,hk,rfl⟩;have hul:=dh hGl (j:=k) (by omega);by_cases hlt:k<next.length
 .have d1:decide ((k:Int)<((bv G F k).length:Int))=true:=NL (by omega);have d3:k<(bv G F k).length:=by omega
  have r1:=io hGl (j:=k) (by omega);have hset:=gi hGl (j:=k) (by omega);have hI:=n4 a (k:Int) (by omega);rw [kY] at hI;rw [hGa k hlt] at hset
  repeat' first|refine gf (kf d1 (kf d3 (kf r1 @hset))) ?_|decide|refine sp ?_ ?_<;>intro _|refine cA hI ?_|fail
  all_goals exact rI (wE @hset) ⟨k+1,by omega,rfl⟩
 .obtain rfl:k=next.length:=by omega
  have e1:bv G F next.length=G:=by rw [<- hFl];exact gx hGl
  have d1:decide ((next.length:Int)<(G.length:Int))=false:=NE (by omega);have d2:¬ next.length<G.length:=by omega
  rw [e1,hG];rw [hG] at d1 d2
  repeat' first|refine ge (kf d1 d2) ?_|decide|refine sp ?_ ?_<;>intro _
  refine ae (fun st=>∃ k:Nat,cnt (oQ next a k)+k<=next.length /\ st=⟨77,[(0,gV next),(1,j2 a),(5,.osl 0),(7,eI (k:Int))],[(0,some (.row 4 1 (dZ (oQ next a k))))],1⟩) (fun st=>next.length+1 - aq st 7) ⟨_,wC,0,by have:=uj (oQ next a 0);rw [fR] at this;exact this,rfl⟩ ?_;rintro _ ⟨k,hkc,rfl⟩;have hol:(oQ next a k).length=next.length:=fR ..;have hlt:k<=next.length:=by omega
  have hlt2:decide ((k:Int)<=(next.length:Int))=true:=NL (by omega);have hs:oQ next a (k+1)=iJ next (oQ next a k):=rfl;have hst:=xy next a k;have hmo:=DX next a k;obtain ⟨o,ho⟩:∃ o,o=oQ next a k:=⟨_,rfl⟩;rw [<- ho] at hs hol hkc hst hmo ⊢;have hev:=EV next o hx (by omega);have hxl:(rC next o).length=o.length:=by simp [rC,hol]
  have hnl2:(iJ next o).length=o.length:=by rw [mo,hol]
  have hnx:=fun j (hj:j<o.length)=>FI next o j (by omega);obtain ⟨X,hX⟩:∃ X,X=rC next o:=⟨_,rfl⟩;rw [<- hX] at hev hxl hnx;obtain ⟨N,hN⟩:∃ N,N=iJ next o:=⟨_,rfl⟩;rw [<- hN] at hs hnl2 hnx;rw [hs] at hst hmo
  repeat' first|refine ge (kf @hlt @hlt2) ?_|decide|refine sp ?_ ?_<;>intro _
  refine ce hev (.inr (aP _)) ?_
  repeat' first|refine go ?_|decide|refine sp ?_ ?_<;>intro _
  refine ae (fun st=>∃ j:Nat,j<=o.length /\ st=⟨77,[(0,gV next),(1,j2 a),(5,.osl 0),(7,eI (k:Int)),(8,.osl 1),(9,eB (BH N o j)),(10,eI (j:Int))],[(0,some (.row 4 1 (dZ (bv N o j)))),(1,some (.row 4 1 (dZ X)))],2⟩) (fun st=>o.length - aq st 10) ⟨_,(wE (kf @fk (kf @BH.eq_1 (kf @O8 @List.all_nil.{0})))),0,Nv _,rfl⟩ ?_;rintro _ ⟨j,hj,rfl⟩;have hul:=dh hnl2 hj;by_cases hlt3:j<o.length
  .have d1:decide ((j:Int)<((bv N o j).length:Int))=true:=NL (by omega);have d2:decide ((j:Int)<(X.length:Int))=true:=NL (by omega);have d3:j<(bv N o j).length:=(by omega);have d4:j<X.length:=(by omega);have r1:=io hnl2 hlt3;have r2:(dZ X)[j]?.getD []=[eB (X.getD j false)]:=(by simp [List.getD,d4]);have hset:=gi hnl2 hlt3;have hsm:=vR N o j;rw [hnx j hlt3] at hset hsm;obtain ⟨v,hv⟩:∃ v,v=X.getD j false:=⟨_,rfl⟩;obtain ⟨u,hu⟩:∃ u,u=o.getD j false:=⟨_,rfl⟩;obtain ⟨s,hs1⟩:∃ s,s=BH N o j:=⟨_,rfl⟩;rw [<- hv,<- hu] at hset;rw [<- hs1,<- hv,<- hu] at hsm;rw [<- hv] at r2;rw [<- hu] at r1;rw [<- hs1];cases u<;>cases v<;>cases s<;>simp only [Oq,Os,beq_self_eq_true,Bool.and_self,Bool.and_true,Bool.and_false] at hset hsm
   all_goals
    repeat' first|refine gf (kf d1 (kf d2 (kf d3 (kf d4 (kf r1 (kf r2 @hset)))))) ?_|decide|refine sp ?_ ?_<;>intro _
    all_goals exact rI (wE (kf @hset @hsm)) ⟨j+1,by omega,rfl⟩
  .obtain rfl:j=o.length:=by omega
   have d1:decide ((o.length:Int)<((bv N o o.length).length:Int))=false:=NE (by omega);have e1:bv N o o.length=N:=gx hnl2;have d2:¬ o.length<N.length:=(by omega);have hse:=El hnl2;rw [e1] at d1 ⊢
   cases hs1:BH N o o.length with
   | true=>
    rw [<- hst (hse.1 hs1)]
    repeat' first|refine gf (kf d1 d2) ?_|decide|refine sp ?_ ?_<;>intro _
    all_goals exact aO (by simp [af.gc])
   | false=>
    have hNo:=hmo fun h=>by rw [hse.2 h] at hs1;cases hs1
    repeat' first|refine gf (kf d1 d2) ?_|decide|refine sp ?_ ?_<;>intro _
    all_goals exact rI (wE hs) ⟨k+1,by rw [hs];omega,rfl⟩
end
section
theorem wg {l:List Int} {i:Int} (h:0<=i) (hl:i<l.length):(ip l)[i.toNat]?.getD []=[eI (l.getD i.toNat 0)]:=by
 have:i.toNat<l.length:=by omega
 simp [List.getD,this]
theorem K5 {l:List (List Int)} {i:Nat} (hl:i<l.length):(uL l)[i]?.getD []=[sI (l.getD i [])]:=by
 simp [List.getD,hl]
theorem Ie {P:Program} {st:aj} {g:FuncId} {K:AV -> aj -> Prop} {id e sz:Nat} {vals vals':List (List Value)} {rows rows':List (List AV)} (h:KJ P g e sz vals [] vals') (hr:fH vals=rows) (hr':fH vals'=rows') (hid:st.tab.get id=some (.row e sz rows)) (hv:∀ r ∈ vals',r.length=sz /\ ∀ x ∈ r,x.oneCell'=true)
  (hk:K (.osl st.next) { st with tab:=bw st.tab st.next (some id) (.row e sz rows'),next:=st.next+1 }):gy none P st g [.osl id] K:=by
 subst hr hr';exact .inr (.inl ⟨rfl,.inl (.inl ⟨id,e,sz,vals,[],vals',rfl,hid,h,hv,hk⟩)⟩)
theorem pN (l:List Int):fH (l.map fun n=>[Value.int .i64 n])=ip l:=by simp [fH,Function.comp_def]
theorem C5 (l:List Int) (i:Int) (hl:l.length<=1000000):ax Tryz.prog 42 [sI l,eI i] (val (.int .i64 (eT l i))):=by
 refine aa ah Tryz.func42 rfl (by decide) Tryz.ntmps42 Tryz.results42 rfl (aH _) ?_;by_cases h0:0<=i
 .by_cases h1:i<l.length
  .have d0:decide (i<0)=false:=NE (by omega);have d1:decide ((l.length:Int)<=i)=false:=NE (by omega);have e:eT l i=l.getD i.toNat 0:=ND ⟨h0,h1⟩;have h2:i.toNat<l.length:=(by omega);have hr:=wg h0 h1;rw [e]
   repeat' first|refine ge (kf d0 (kf d1 (kf h0 (kf h1 (kf h2 hr))))) ?_|decide|refine sp ?_ ?_<;>intro _
  .have d0:decide (i<0)=false:=NE (by omega);have d1:decide ((l.length:Int)<=i)=true:=NL (by omega);have e:eT l i=0:=Ny fun h=>h1 h.2;rw [e]
   repeat' first|refine ge (kf d0 d1) ?_|decide|refine sp ?_ ?_<;>intro _
 .have d0:decide (i<0)=true:=NL (by omega);have e:eT l i=0:=Ny fun h=>h0 h.1;rw [e]
  repeat' first|refine ge d0 ?_|decide|refine sp ?_ ?_<;>intro _
theorem rm {l:List Int} (h:∀ x ∈ l,aB x) (i:Int):aB (eT l i):=by
 unfold eT;split
 .rename_i hi;have:i.toNat<l.length:=by omega
  simp [List.getD,this];exact h _ (Nt this)
 .simp [aB]
theorem s7 (next:List (List Int)) (c:List Int) (i:Nat) (hn:next.length<=4000) (hr:∀ r ∈ next,r.length<=4000) (hc:c.length<=1000000) (hi:i<next.length) :
  ax Tryz.prog 48 [gV next,sI c,eI (i:Int)] (ic 3 1 (ip (fT next c i))):=by
 refine aa ah Tryz.func48 rfl (by decide) Tryz.ntmps48 Tryz.results48 rfl (cB _ _ _) ?_;obtain ⟨q,hq⟩:∃ q,q=next.getD i []:=⟨_,rfl⟩
 have hql:q.length<=4000:=by
  rw [hq];simp [List.getD,hi];exact hr _ (Nt hi)
 have hrow:=K5 hi;rw [<- hq] at hrow;have i0:(0:Int)<=(i:Int):=by omega
 have i1:(i:Int)<next.length:=by omega
 repeat' first|refine ge (kf i0 (kf i1 (kf hi (kf @hrow @Ou)))) ?_|decide|refine sp ?_ ?_<;>intro _
 refine ae (fun st=>∃ j:Nat,j<=q.length /\ st=⟨38,[(0,gV next),(1,sI c),(7,.osl 0),(13,sI q),(14,eI (q.length:Int)),(15,eI (j:Int))],[(0,some (.row 3 1 (ip (((q.take j).filter (sn next.length)).map (eT c)))))],1⟩) (fun st=>q.length - aq st 15) ⟨_,((aR 7 3 1 (by simp only [ia,aj.get,aX,aj.put,↓reduceIte,reduceCtorEq,Nat.reduceLT,Nat.reduceEqDiff,Nat.reduceAdd,Nat.reduceLeDiff,eq_self,implies_true,NJ,List.filter_nil,N3])).trans (wS [0] (kf @NJ @List.filter_nil.{0}))),0,Nv _,rfl⟩ ?_;rintro _ ⟨j,hj,rfl⟩;by_cases hlt:j<q.length
 .obtain ⟨x,hx⟩:∃ x,x=q[j]:=⟨_,rfl⟩;have hrx:(ip q)[j]?.getD []=[eI x]:=by rw [hx];simp [hlt]
  have htk:q.take (j+1)=q.take j ++ [x]:=by rw [Ns hlt,hx]
  by_cases hin:sn next.length x=true
  .have hin':=hin;simp only [sn,NU,NW] at hin';have d0:decide (0<=x)=true:=NL hin'.1;have d1:decide (x<(next.length:Int))=true:=NL hin'.2
   have hnx:ip (((q.take (j+1)).filter (sn next.length)).map (eT c))=ip (((q.take j).filter (sn next.length)).map (eT c)) ++ [[eI (eT c x)]]:=by
    rw [htk];simp [hin]
   have hfl:(List.filter (sn next.length) (List.take j q)).length<=4000:=by
    have:=Ph (sn next.length) (List.take j q);have:=Pu j q;omega
   repeat' first|refine ge (kf @hrx (kf @hlt (kf d0 d1))) ?_|decide|refine sp ?_ ?_<;>intro _
   refine aw (C5 c x hc) ?_
   repeat' first|refine go ?_|decide|refine sp ?_ ?_<;>intro _
   refine ⟨rfl,⟨by (try simp only [NI]);omega,by (try simp only [NI]);omega⟩,rI (wS [2] @hnx) ⟨j+1,by omega,rfl⟩⟩
  .have hnx:((q.take (j+1)).filter (sn next.length)).map (eT c)=((q.take j).filter (sn next.length)).map (eT c):=by
    rw [htk];simp [hin]
   have hd:(decide (0<=x)=true /\ decide (x<(next.length:Int))=false) \/ decide (0<=x)=false:=by
    simp only [sn,NU,NW] at hin;by_cases h0:0<=x
    .exact .inl ⟨NL h0,NE fun h=>hin ⟨h0,h⟩⟩
    .exact .inr (NE h0)
   rcases hd with ⟨d0,d1⟩|d0
   .repeat' first|refine ge (kf @hrx (kf @hlt (kf d0 d1))) ?_|decide|refine sp ?_ ?_<;>intro _
    exact rI (wS [0] @hnx) ⟨j+1,by omega,rfl⟩
   .repeat' first|refine ge (kf @hrx (kf @hlt d0)) ?_|decide|refine sp ?_ ?_<;>intro _
    exact rI (wS [0] @hnx) ⟨j+1,by omega,rfl⟩
 obtain rfl:j=q.length:=by omega
 obtain ⟨b,hb⟩:∃ b,b=((q.filter (sn next.length)).map (eT c)):=⟨_,rfl⟩
 have hbl:b.length<=1000000:=by
  rw [hb,NI];have:=Ph (sn next.length) q;omega
 have hF:fT next c i=Lib.compact (b.mergeSort fun x y=>decide (x<=y)):=by rw [hb,fT,j4,<- hq,Aj]
 rw [NG,<- hb,hF]
 repeat' first|refine ge @hlt ?_|decide|refine sp ?_ ?_<;>intro _
 refine ML (Kg b hbl) rfl trivial ?_
 repeat' first|refine go ?_|decide|refine sp ?_ ?_<;>intro _
 refine Ie (AG _ (by rw [List.length_mergeSort];exact hbl)) (pN _) (pN _) rfl (fun r hr=>by
  obtain ⟨n,_,rfl⟩:=NC.1 hr;exact ⟨rfl,fun x hx=>by simp at hx;subst hx;rfl⟩) ?_
 repeat' first|refine go ?_|decide|refine sp ?_ ?_<;>intro _
 exact aO (by simp [af.gc])
theorem Mi (l:List Int) (hl:l.length<=1000000) (h0:0<l.length):ax Tryz.prog 97 [sI l] (val (.int .i64 (rV l))):=by
 refine aa ah Tryz.func97 rfl (by decide) Tryz.ntmps97 Tryz.results97 rfl (aH _) ?_;have d0:decide ((l.length:Int)<1)=false:=NE (by omega);have hr:=wg (l:=l) (i:=0) (PP 0) (by omega);have z0:(0:Int)<l.length:=by omega
 have zt:Int.toNat 0=0:=rfl;rw [zt] at hr
 have e0:(l.take 1).foldl (fun a b=>max a b) (l.headD 0)=l.getD 0 0:=by
  cases l with
  | nil=>simp at h0
  | cons a r=>simp [List.getD]
 repeat' first|refine ge (kf d0 (kf z0 (kf h0 (kf @PP (kf zt hr))))) ?_|decide|refine sp ?_ ?_<;>intro _
 refine ae (fun st=>∃ k:Nat,1<=k /\ k<=l.length /\ st=⟨25,[(0,sI l),(3,eI ((l.take k).foldl (fun a b=>max a b) (l.headD 0))),(4,eI (k:Int))],[],0⟩) (fun st=>l.length - aq st 4) ⟨_,?_,1,Nz _,h0,rfl⟩ ?_
 .exact gP ⟨rfl,⟨⟨rfl,by rw [e0];rfl,rfl,trivial⟩,trivial⟩,⟨trivial,trivial,trivial,trivial⟩,trivial⟩
 rintro _ ⟨k,hk1,hk,rfl⟩;by_cases hlt:k<l.length
 .have hrx:=wg (l:=l) (i:=(k:Int)) (by omega) (by omega)
  have e1:(l.take (k+1)).foldl (fun a b=>max a b) (l.headD 0)=max ((l.take k).foldl (fun a b=>max a b) (l.headD 0)) (l.getD k 0):=by
   rw [Ns hlt,OI];simp [List.getD,hlt]
  rw [Ou] at hrx
  repeat' first|refine ge (kf @hlt @hrx) ?_|decide|refine sp ?_ ?_<;>intro _
  exact rI (wE e1) ⟨k+1,by omega,by omega,rfl⟩
 obtain rfl:k=l.length:=by omega
 repeat' first|refine ge @hlt ?_|decide|refine sp ?_ ?_<;>intro _
 simp [rV]
theorem EJ (l:List Int) (hl:l.length<=1000000) (hb:∀ x ∈ l,0<=x /\ x<=1000000):ax Tryz.prog 45 [sI l] (val (.int .i64 (br l))):=by
 refine aa ah Tryz.func45 rfl (by decide) Tryz.ntmps45 Tryz.results45 rfl (aH _) ?_;by_cases h0:l=[]
 .subst h0;have q1:(((0:Nat):Int) == 0)=true:=rfl
  repeat' first|refine ge q1 ?_|decide|refine sp ?_ ?_<;>intro _
  all_goals rfl
 .have hp:0<l.length:=List.length_pos_iff.2 h0;have q1:((l.length:Int) == 0)=false:=Oa.2 (by omega);have e:br l=rV l+1:=Ny h0
  have hm:0<=rV l /\ rV l<=1000000:=by
   obtain ⟨h1,h2,h3⟩:=ta l (l.headD 0)
   have hh:l.headD 0 ∈ l:=by
    cases l with
    | nil=>exact absurd rfl h0
    | cons a r=>simp
   unfold rV;rcases h3 with h3|h3
   .rw [h3];exact hb _ hh
   .exact hb _ h3
  have hw:IntKind.i64.wrap (rV l+1)=rV l+1:=ar (by omega) (by omega);rw [e]
  repeat' first|refine ge q1 ?_|decide|refine sp ?_ ?_<;>intro _
  refine aw (Mi l hl hp) ?_
  repeat' first|refine ge hw ?_|decide|refine sp ?_ ?_<;>intro _
end
section
def pd (l:List UInt8):ByteArray:=⟨l.toArray⟩
theorem zX {a b:List UInt8} (h:pd a=pd b):a=b:=by
 have:=congrArg (fun x:ByteArray=>x.data.toList) h;simpa [pd] using this
theorem lH (a b:List UInt8):pd a ++ pd b=pd (a ++ b):=by
 apply ByteArray.ext;simp [pd]
theorem rY (n:Int):mn n=pd (Lib.itoa n):=rfl
theorem jl (l:List UInt8):(pd l).size=l.length:=by
 show (pd l).data.size=_;simp [pd]
theorem uk:∀ (k u:Nat),u<10 ^ (k+1) -> (Lib.decDigits u).length<=k+1
 | 0,u,h=>by
  rw [Lib.decDigits,dif_pos (by simpa using h)];simp
 | k+1,u,h=>by
  rw [Lib.decDigits];split
  .simp
  .have:=uk k (u / 10) (by rw [Nat.pow_succ] at h;omega);rw [NB,N4];omega
theorem nu {n:Int} (h:aB n):(Lib.itoa n).length<=20:=by
 have hp:(10:Nat) ^ (18+1)=10000000000000000000:=by decide
 obtain ⟨h1,h2⟩:=h;unfold Lib.itoa;split
 .have:=uk 18 n.natAbs (by omega);rw [NZ];omega
 .have:=uk 18 n.toNat (by omega);omega
theorem vd:∀ (l:List Int),(∀ n ∈ l,aB n) -> (Lib.joinTail [32] (l.map Lib.itoa)).length<=21 * l.length
 | [],_=>by simp [Lib.joinTail]
 | n :: l,h=>by
  have h1:=nu (h n (Ob ..));have h2:=vd l fun x hx=>h x (N7 _ hx);have e:Lib.joinTail [32] ((n :: l).map Lib.itoa)=32 :: (Lib.itoa n ++ Lib.joinTail [32] (l.map Lib.itoa)):=rfl;rw [e,NZ,NB,NZ];omega
theorem yA (n:Int) (l:List Int) (x:Int):gT (n :: (l ++ [x]))=gT (n :: l) ++ (32 :: Lib.itoa x):=by
 rw [fK,fK];simp [Lib.joinTail]
theorem sK {n:Int} {l:List Int} (hn:aB n) (h:∀ x ∈ l,aB x):(gT (n :: l)).length<=21 * (l.length+1):=by
 rw [fK,NB];have h1:=nu hn;have h2:=vd l h;omega
theorem Ae {next:List (List Int)} {c:List Int} {i:Nat} (hc:∀ x ∈ c,aB x):∀ x ∈ fT next c i,aB x:=by
 intro x hx;unfold fT at hx;rw [iP] at hx;obtain ⟨y,_,_,rfl⟩:=fx.1 (((dL _).2 x).1 hx);exact rm hc y
theorem mp {next:List (List Int)} {c:List Int} {i:Nat} (hr:∀ r ∈ next,r.length<=4000):(fT next c i).length<=4000:=by
 unfold fT;rw [iP];have h1:=d9 (j4 next c i)
 have h2:(j4 next c i).length<=4000:=by
  unfold j4;rw [NI];have h3:=Ph (sn next.length) (next.getD i [])
  have h4:(next.getD i []).length<=4000:=by
   by_cases hi:i<next.length
   .simp [List.getD,hi];exact hr _ (Nt hi)
   .simp [List.getD,NN (Nat.le_of_not_lt hi)]
  omega
 omega
def rJ (next:List (List Int)) (c:List Int) (i:Nat):ByteArray:=pd (gT (ph next c i))
theorem CI {next:List (List Int)} {c:List Int} {i j:Nat} (h:rJ next c i=rJ next c j):ph next c i=ph next c j:=BT (zX h)
theorem Mr (next:List (List Int)) (c:List Int) (i:Nat) (hn:next.length<=4000) (hr:∀ r ∈ next,r.length<=4000) (hc:c.length<=1000000) (hco:∀ x ∈ c,aB x) (hi:i<next.length) :
  ax Tryz.prog 44 [gV next,sI c,eI (i:Int)] (val (.string (rJ next c i))):=by
 refine aa ah Tryz.func44 rfl (by decide) Tryz.ntmps44 Tryz.results44 rfl (aH _) ?_;obtain ⟨b,hb⟩:∃ b,b=fT next c i:=⟨_,rfl⟩;have hbl:b.length<=4000:=hb ▸ mp hr;have hbo:∀ x ∈ b,aB x:=hb ▸ Ae hco;have ha:=rm hco (i:Int);have hbeh:=s7 next c i hn hr hc hi;rw [<- hb] at hbeh;have hkey:rJ next c i=pd (gT (eT c i :: b)):=by rw [rJ,ph,hb]
 rw [hkey];obtain ⟨a,haa⟩:∃ a,a=eT c (i:Int):=⟨_,rfl⟩;have hatc:=C5 c (i:Int) hc;rw [<- haa] at ha hatc ⊢;have e0:pd (gT [a])=mn a:=by rw [fK];simp [Lib.joinTail,rY]
 repeat' first|refine go ?_|decide|refine sp ?_ ?_<;>intro _
 refine aw hatc ?_
 repeat' first|refine go ?_|decide|refine sp ?_ ?_<;>intro _
 refine aw (ux a ha) ?_
 repeat' first|refine go ?_|decide|refine sp ?_ ?_<;>intro _
 refine ce hbeh (ro) ?_
 repeat' first|refine go ?_|decide|refine sp ?_ ?_<;>intro _
 refine ae (fun st=>∃ k:Nat,k<=b.length /\ st=⟨30,[(7,.c (.string (pd (gT (a :: b.take k))))),(17,.osl 0),(18,eI (b.length:Int)),(19,eI (k:Int))],[(0,some (.row 3 1 (ip b)))],1⟩) (fun st=>b.length - aq st 19) ⟨_,(wS [0] (kf @NJ e0)),0,Nv _,rfl⟩ ?_;rintro _ ⟨k,hk,rfl⟩;by_cases hlt:k<b.length
 .obtain ⟨x,hxx⟩:∃ x,x=b[k]:=⟨_,rfl⟩;have hxo:aB x:=hxx ▸ hbo _ (Nt hlt);have hrx:(ip b)[k]?.getD []=[eI x]:=by rw [hxx];simp [hlt]
  have hl1:=sK (n:=a) (l:=b.take k) ha (fun y hy=>hbo y (N6 hy));have hl2:=nu hxo;have hl3:(b.take k).length<=4000:=by have:=Pu k b;omega
  have hsn:pd (gT (a :: b.take (k+1)))=pd (gT (a :: b.take k)) ++ (⟨#[32]⟩ ++ mn x):=by
   rw [Ns hlt,<- hxx,yA];show _=_ ++ (pd [32] ++ pd (Lib.itoa x));rw [lH,lH];rfl
  have s1:(⟨#[32]⟩:ByteArray).size+(mn x).size<=9223372036854775807:=by
   show (pd [32]).size+(pd (Lib.itoa x)).size<=_;rw [jl,jl];simp;omega
  have s2:(pd (gT (a :: b.take k))).size+((⟨#[32]⟩:ByteArray) ++ mn x).size<=9223372036854775807:=by
   show _+(pd [32] ++ pd (Lib.itoa x)).size<=_;rw [lH,jl,jl];simp;omega
  repeat' first|refine ge (kf @hrx @hlt) ?_|decide|refine sp ?_ ?_<;>intro _
  refine aw (ux x hxo) ?_
  repeat' first|refine ge (kf s1 s2) ?_|decide|refine sp ?_ ?_<;>intro _
  exact rI (wS [0] @hsn) ⟨k+1,by omega,rfl⟩
 obtain rfl:k=b.length:=by omega
 repeat' first|refine ge (kf @hlt @NG) ?_|decide|refine sp ?_ ?_<;>intro _
theorem I8 (col:List Int) (i:Nat) (hl:col.length<=1000000) (ho:∀ x ∈ col,aB x):ax Tryz.prog 40 [eI (i:Int),.rp [sI col]] (val (.string (mn (eT col (i:Int))))):=by
 refine aa ah Tryz.func40 rfl (by decide) Tryz.ntmps40 Tryz.results40 rfl (aH _) ?_
 repeat' first|refine go ?_|decide|refine sp ?_ ?_<;>intro _
 refine aw (C5 col (i:Int) hl) ?_
 repeat' first|refine go ?_|decide|refine sp ?_ ?_<;>intro _
 refine aw (ux _ (rm ho _)) ?_
 repeat' first|refine go ?_|decide|refine sp ?_ ?_<;>intro _
theorem LR (next:List (List Int)) (c:List Int) (i:Nat) (hn:next.length<=4000) (hr:∀ r ∈ next,r.length<=4000) (hc:c.length<=1000000) (hco:∀ x ∈ c,aB x) (hi:i<next.length) :
  ax Tryz.prog 43 [eI (i:Int),.rp [gV next],.rp [sI c]] (val (.string (rJ next c i))):=by
 refine aa ah Tryz.func43 rfl (by decide) Tryz.ntmps43 Tryz.results43 rfl (aH _) ?_
 repeat' first|refine go ?_|decide|refine sp ?_ ?_<;>intro _
 refine aw (Mr next c i hn hr hc hco hi) ?_
 repeat' first|refine go ?_|decide|refine sp ?_ ?_<;>intro _
end
end
section
section
def Nc {κ:Type} [DecidableEq κ] (D:List κ) (k:κ):Nat:=D.idxOf k
theorem JH {κ:Type} [DecidableEq κ] {D:List κ} (hn:D.Nodup) {i:Nat} (hi:i<D.length):Nc D D[i]=i:=yt hn hi
def gQ (D:List ByteArray):List (Value × Value):=D.zipIdx.map fun p=>(Value.string p.1,Value.int .i64 (p.2:Int))
theorem og {D:List ByteArray} {e:Value × Value} (h:e ∈ gQ D):∃ (i:Nat) (s:ByteArray),D[i]? = some s /\ e=(.string s,.int .i64 (i:Int)):=by
 obtain ⟨⟨s,i⟩,hp,rfl⟩:=NC.1 h;exact ⟨i,s,by have:=List.mk_mem_zipIdx_iff_getElem?.1 hp;exact this,rfl⟩
theorem Fv {D:List ByteArray} {i:Nat} {s:ByteArray} (h:D[i]? = some s):(Value.string s,Value.int .i64 (i:Int)) ∈ gQ D:=
 NC.2 ⟨(s,i),List.mk_mem_zipIdx_iff_getElem?.2 h,rfl⟩
theorem sU {D:List ByteArray} (hn:D.Nodup) {s:ByteArray} {r:Option Value} (hr:yg (gQ D) (.string s) r):(s ∈ D /\ r=some (.int .i64 (Nc D s:Int))) \/ (s ∉ D /\ r=none):=by
 cases r with
 | some v=>
  left;obtain ⟨i,t,h1,h2⟩:=og hr;simp only [Prod.mk.injEq,Value.string.injEq] at h2;obtain ⟨rfl,rfl⟩:=h2;have hlt:=(Nw.1 h1).1;have he:=(Nw.1 h1).2;refine ⟨Nr h1,?_⟩;rw [<- he,JH hn hlt]
 | none=>
  right;refine ⟨fun hm=>?_,rfl⟩;obtain ⟨i,hi⟩:=OA hm;exact hr _ (Fv hi) rfl
theorem sj {D:List ByteArray} {s:ByteArray} {ents':List (Value × Value)} (hs:s ∉ D) (hp:D2 (gQ D) (.string s) (.int .i64 (D.length:Int)) ents'):ents'=gQ (D ++ [s]):=by
 rcases hp with ⟨j,o,h1,_⟩|⟨_,rfl⟩
 .obtain ⟨i,t,h2,h3⟩:=og (Nr h1);simp only [Prod.mk.injEq,Value.string.injEq] at h3;obtain ⟨rfl,_⟩:=h3;exact absurd (Nr h2) hs
 .simp [gQ,List.zipIdx_append]
theorem sP (D:List ByteArray):(gQ D).length=D.length:=by simp [gQ]
theorem Jh:Maps.Keyed Tryz.prog 9:=Maps.string_keyed (by kernel_rfl)
theorem Mo {s:ByteArray} (h:s.size<=1000000):x2 Tryz.prog 9 (.string s):=by
 have hu:Tryz.prog.underlying 9=some .string:=by kernel_rfl
 have hm:s.size<=maxLen:=by simp [maxLen];omega
 exact ⟨.string s.data.toList,by simp [keyOf,hu,mapKey,hm]⟩
theorem pn {D:List ByteArray} {s:ByteArray} (hD:∀ x ∈ D,x.size<=1000000) (hs:s.size<=1000000):rl Tryz.prog 9 (gQ D) (.string s):=
 ⟨Jh,Mo hs,fun e he=>by
  obtain ⟨i,t,h1,rfl⟩:=og he;exact Mo (hD t (Nr h1))⟩
def fO (ks:List ByteArray) (k:Nat):List Int:=(cK ks).take k ++ List.replicate (ks.length - k) 0
theorem gu (ks:List ByteArray) {k:Nat} (hk:k<=ks.length):(fO ks k).length=ks.length:=by
 simp [fO,fw];omega
theorem kX {κ:Type} [DecidableEq κ] (ks:List κ) {k:Nat} (hk:k<ks.length):(ks[k] ∈ aZ (ks.take k) -> (cK ks)[k]'(by rw [fw];exact hk)=(Nc (aZ (ks.take k)) ks[k]:Int)) /\ (ks[k] ∉ aZ (ks.take k) -> (cK ks)[k]'(by rw [fw];exact hk)=((aZ (ks.take k)).length:Int)):=by
 have hpre:aZ (ks.take (k+1)) <+: aZ ks:=by
  have:=AM (ks.take (k+1)) (ks.drop (k+1))
  rwa [PB] at this
 have hsn:aZ (ks.take (k+1))=oD (aZ (ks.take k)) ks[k]:=by rw [Ns hk,dP]
 have e:=Ik hpre (k:=ks[k]) (by rw [hsn,vf];exact .inr rfl);rw [hsn] at e;refine ⟨fun h=>?_,fun h=>?_⟩
 .rw [pt ks k hk,e,oD,ND h];rfl
 .rw [pt ks k hk,e,oD,Ny h,List.idxOf_append,Ny h];simp
theorem vT {κ:Type} [DecidableEq κ] (ks:List κ) {k:Nat} (hk:k<ks.length) (h:ks[k] ∈ aZ (ks.take k)):aZ (ks.take (k+1))=aZ (ks.take k):=by
 rw [Ns hk,dP,oD,ND h]
theorem vE {κ:Type} [DecidableEq κ] (ks:List κ) {k:Nat} (hk:k<ks.length) (h:ks[k] ∉ aZ (ks.take k)):aZ (ks.take (k+1))=aZ (ks.take k) ++ [ks[k]]:=by
 rw [Ns hk,dP,oD,Ny h]
theorem mU (ks:List ByteArray) {k:Nat} (hk:k<ks.length) {v:Int} (hv:(cK ks)[k]'(by rw [fw];exact hk)=v):(ip (fO ks k)).set k [eI v]=ip (fO ks (k+1)):=by
 have e:(fO ks k).set k v=fO ks (k+1):=by
  apply OZ (by rw [Pg,gu _ (by omega),gu _ (by omega)]);intro i h1 h2;rw [Pg,gu _ (by omega)] at h1;rw [List.getElem_set];have hn:=fw ks;split
  .rename_i h;subst h;rw [<- hv];simp only [fO,List.getElem_append,NF,hn];rw [dif_pos (by omega)];simp
  .rename_i h;simp only [fO,List.getElem_append,NF,hn];by_cases h3:i<k
   .rw [dif_pos (by omega),dif_pos (by omega)];simp
   .rw [dif_neg (by omega),dif_neg (by omega)];simp
 rw [<- e];simp [ip,Pw]
theorem vO (ks:List ByteArray):fO ks ks.length=cK ks:=by simp [fO,fw,NT]
theorem lz (ks:List ByteArray) (k:Nat) {B:Nat} (h:∀ x ∈ ks,x.size<=B):∀ x ∈ aZ (ks.take k),x.size<=B:=fun x hx=>h x (N6 ((aY _ _).1 hx))
def yC (rows:List (List AV)):List Int:=rows.map fun r=>match r with
 | [.c (.int _ x)]=>x
 | _=>0
theorem ru (l:List Int):yC (ip l)=l:=by
 simp [yC,ip,Function.comp_def]
def Ft (st:aj):Nat:=match st.tab.get 2 with
 | some (.box _ [.sl _ rows])=>(br (yC rows)).toNat
 | _=>0
theorem zz {κ:Type} [DecidableEq κ] (ks:List κ):∀ x ∈ cK ks,0<=x /\ x<ks.length:=by
 intro x hx;obtain ⟨k,hk,rfl⟩:=NC.1 hx;have h1:=N5 ((aY ks k).2 hk);have h2:=fM _ ks (cd ks) fun x hx=>(aY _ _).1 hx;omega
theorem EI (next:List (List Int)) (col:List Int) (t:Nat):∀ x ∈ bA next col t,0<=x /\ x<next.length:=by
 cases t with
 | zero=>intro x hx;have:=zz _ x hx;simpa [j8] using this
 | succ t=>intro x hx;have:=zz _ x hx;simpa [fI] using this
def bJ (next:List (List Int)) (col:List Int):List ByteArray:=(j8 next col).map mn
def cp (next:List (List Int)) (c:List Int):List ByteArray:=(List.range next.length).map (rJ next c)
theorem zq (next:List (List Int)) (col:List Int):cK (bJ next col)=bA next col 0:=nr _ fun a _ b _ h=>qS (zX h)
theorem Cc (next:List (List Int)) (col:List Int) (t:Nat):cK (cp next (bA next col t))=bA next col (t+1):=by
 have:cp next (bA next col t)=(fI next (bA next col t)).map fun k=>pd (gT k):=by simp [cp,fI,rJ,Function.comp_def]
 rw [this,nr]
 .rfl
 .intro a ha b hb h;obtain ⟨i,_,rfl⟩:=NC.1 ha;obtain ⟨j,_,rfl⟩:=NC.1 hb;exact CI h
end
section
def Gx (next:List (List Int)) (col:List Int) (R:cG):Prop:=∃ t,br (bA next col (t+1))=br (bA next col t) /\ R=⟨sI (bA next col t),[],0⟩
theorem Nf {Post:cG -> Prop} {st:aj} {sz:Nat} {rows:List (List AV)} (h:Post ⟨.sl sz rows,[],0⟩):∃ R,Post R /\ R.Ok /\ dw R st (.sl sz rows):=
 ⟨_,h,⟨fun id o h=>(by cases h),trivial⟩,⟨[],List.nodup_nil,rfl,trivial⟩⟩
theorem kO {ks:List ByteArray} {n k:Nat} (h:ks.length=n) (hk:k<=n):(fO ks k).length=n:=by
 rw [gu _ (by omega),h]
theorem M2 {k:Nat}:(0:Int)<=(k:Int):=by omega
theorem qM (next:List (List Int)) (col:List Int) (hn:next.length<=4000) (hr:∀ r ∈ next,r.length<=4000) (hc:col.length<=1000000) (hco:∀ x ∈ col,aB x) :
  dn Tryz.prog 15 [gV next,sI col] (Gx next col):=by
 refine aM ah Tryz.func15 rfl (by decide) Tryz.ntmps15 Tryz.results15 rfl ?_
 repeat' first|refine go ?_|decide|refine sp ?_ ?_<;>intro _
 refine II ?_;refine mC ah Tryz.func39 rfl (by decide) Tryz.ntmps39 Tryz.results39 rfl (by kernel_rfl) [2,5,6] fun vs=>?_
 have hsz:∀ x ∈ bJ next col,x.size<=1000000:=fun x hx=>by
  obtain ⟨a,ha,rfl⟩:=NC.1 hx;obtain ⟨i,_,rfl⟩:=NC.1 ha;have:=nu (rm hco (i:Int));rw [rY,jl];omega
 have h00:ip (fO (bJ next col) 0)=List.replicate next.length [eI 0]:=by simp [fO,bJ,j8,ip]
 repeat' first|refine ge (kf @mR @kV) ?_|decide|refine sp ?_ ?_<;>intro _
 have hkl:(bJ next col).length=next.length:=by simp [bJ,j8]
 refine ⟨by omega,?_⟩;refine ae (fun st=>∃ k:Nat,k<=next.length /\ st=⟨42,[(1,.osl 2),(2,.fn 40 [.op 1 0 0]),(7,.osl 4),(16,eI (next.length:Int)),(17,eI (k:Int))],[(0,some (.box 47 [gV next])),(1,some (.box 50 [sI col])),(2,some (.map (gQ (aZ ((bJ next col).take k))))),(4,some (.row 3 1 (ip (fO (bJ next col) k)))),(3,some (.ghost vs [(2,.op 0 0 0),(5,.osl 2),(6,eI (next.length:Int))]))],5⟩) (fun st=>next.length - aq st 17) ⟨_,(wE (kf @gQ.eq_1 (kf @aZ.eq_1 (kf @NJ (kf @OW (kf @List.zipIdx_nil.{0} h00)))))),0,Nv _,rfl⟩ ?_;rintro _ ⟨k,hk,rfl⟩;by_cases hlt:k<next.length
 .have hk2:k<(bJ next col).length:=by omega
  obtain ⟨s,hs⟩:∃ s,s=(bJ next col)[k]:=⟨_,rfl⟩;have hss:s.size<=1000000:=hs ▸ hsz _ (Nt hk2);have hD:=lz (bJ next col) k hsz;have hnd:=cd ((bJ next col).take k)
  have hDl:(aZ ((bJ next col).take k)).length<=4000:=by
   have:=fM _ ((bJ next col).take k) (cd _) fun x hx=>(aY _ _).1 hx;have:=Pu k (bJ next col);omega
  have hol:(ip (fO (bJ next col) k)).length=next.length:=by rw [NI,gu _ (by omega)];exact hkl
  have hr0:(ip (fO (bJ next col) k))[k]?.getD []=[eI ((fO (bJ next col) k).getD k 0)]:=by
   have:k<(fO (bJ next col) k).length:=by rw [gu _ (by omega)];exact hk2
   simp [List.getD,this]
  have hcall:=I8 col k hc hco;have hkey:mn (eT col (k:Int))=s:=by rw [hs];simp [bJ,j8]
  rw [hkey] at hcall
  repeat' first|refine ge @hlt ?_|decide|refine sp ?_ ?_<;>intro _
  refine aw hcall ?_
  repeat' first|refine go ?_|decide|refine sp ?_ ?_<;>intro _
  refine ⟨pn hD hss,fun q hq=>?_⟩;rcases sU hnd hq with ⟨hin,rfl⟩|⟨hin,rfl⟩
  .have hst:=mU (bJ next col) hk2 ((kX (bJ next col) hk2).1 (hs ▸ hin));have hdo:=vT (bJ next col) hk2 (hs ▸ hin);rw [<- hs] at hst
   repeat' first|refine ge (kf @hlt (kf @hol (kf hr0 (kf @hst (kf @M2 (kO hkl hk)))))) ?_|decide|refine sp ?_ ?_<;>intro _
   exact rI (wE @hdo) ⟨k+1,by omega,rfl⟩
  .have hst:=mU (bJ next col) hk2 ((kX (bJ next col) hk2).2 (hs ▸ hin));have hdo:=vE (bJ next col) hk2 (hs ▸ hin);rw [<- hs] at hdo
   repeat' first|refine ge (kf @sP (kf @hlt (kf @hol (kf hr0 (kf @hst (kf @M2 (kO hkl hk))))))) ?_|decide|refine sp ?_ ?_<;>intro _
   refine ⟨pn hD hss,fun ents' hp=>?_⟩;obtain rfl:=sj hin hp;exact rI (wE @hdo) ⟨k+1,by omega,rfl⟩
 obtain rfl:k=next.length:=by omega
 have hall:fO (bJ next col) next.length=bA next col 0:=by
  have:=vO (bJ next col);rw [hkl] at this;rw [this,zq]
 repeat' first|refine ge @hlt ?_|decide|refine sp ?_ ?_<;>intro _
 repeat' first|refine go ?_|simp only [zM,zD,mI,mR,kV,bK,dK,dS,aE.shift,dR,hall]|decide|refine sp ?_ ?_<;>intro _
 have htkn:aZ ((bJ next col).take next.length)=aZ (bJ next col):=by rw [NT (by omega)]
 refine ae (fun st=>∃ (t:Nat) (ents:List (Value × Value)),st=⟨27,[(2,.op 0 0 0),(5,.osl 1),(6,eI (next.length:Int)),(7,.op 2 0 0)],[(0,some (.box 47 [gV next])),(1,some (.map ents)),(2,some (.box 50 [sI (bA next col t)]))],3⟩) (fun st=>next.length+1 - Ft st) ?_ ?_
 .refine ⟨_,(ko _ 7).trans ?_,0,gQ (aZ (bJ next col)),rfl⟩;simp only [fU,eY,bE,af.gc,aE.frz,AV.frz,AV.frzL,↓reduceIte,Nat.reduceEqDiff,N9,PD,reduceCtorEq,Px,Option.map_none];exact (wS [3,5,8] @htkn)
 rintro _ ⟨t,ents,rfl⟩;have htl:(bA next col t).length<=1000000:=by rw [gh];omega
 have htl2:(bA next col (t+1)).length<=1000000:=by rw [gh];omega
 have hto:∀ x ∈ bA next col t,aB x:=fun x hx=>by
  have:=EI next col t x hx;unfold aB;omega
 have hbd:∀ t,∀ x ∈ bA next col t,0<=x /\ x<=1000000:=fun t x hx=>by
  have:=EI next col t x hx;omega
 have hsz:∀ x ∈ cp next (bA next col t),x.size<=1000000:=fun x hx=>by
  obtain ⟨i,_,rfl⟩:=NC.1 hx;have h1:=sK (rm hto (i:Int)) (Ae (next:=next) (i:=i) hto);have h2:=mp (c:=bA next col t) (i:=i) hr;rw [rJ,jl];unfold ph;omega
 have h00:ip (fO (cp next (bA next col t)) 0)=List.replicate next.length [eI 0]:=by simp [fO,cp,ip]
 repeat' first|refine go ?_|decide|refine sp ?_ ?_<;>intro _
 refine II ?_;refine mC ah Tryz.func39 rfl (by decide) Tryz.ntmps39 Tryz.results39 rfl (by kernel_rfl) [2,5,6,7] fun vs2=>?_
 repeat' first|refine ge (kf @mR @kV) ?_|decide|refine sp ?_ ?_<;>intro _
 have hkl:(cp next (bA next col t)).length=next.length:=by simp [cp]
 refine ⟨by omega,?_⟩;refine ae (fun st=>∃ k:Nat,k<=next.length /\ st=⟨42,[(1,.osl 1),(2,.fn 43 [.op 0 0 0,.op 2 0 0]),(7,.osl 4),(16,eI (next.length:Int)),(17,eI (k:Int))],[(0,some (.box 47 [gV next])),(2,some (.box 50 [sI (bA next col t)])),(1,some (.map (gQ (aZ ((cp next (bA next col t)).take k))))),(4,some (.row 3 1 (ip (fO (cp next (bA next col t)) k)))),(3,some (.ghost vs2 [(2,.op 0 0 0),(5,.osl 1),(6,eI (next.length:Int)),(7,.op 2 0 0)]))],5⟩) (fun st=>next.length - aq st 17) ⟨_,(wE (kf @gQ.eq_1 (kf @aZ.eq_1 (kf @NJ (kf @OW (kf @List.zipIdx_nil.{0} h00)))))),0,Nv _,rfl⟩ ?_;rintro _ ⟨k,hk,rfl⟩;by_cases hlt:k<next.length
 .have hk2:k<(cp next (bA next col t)).length:=by omega
  obtain ⟨s,hs⟩:∃ s,s=(cp next (bA next col t))[k]:=⟨_,rfl⟩;have hss:s.size<=1000000:=hs ▸ hsz _ (Nt hk2);have hD:=lz (cp next (bA next col t)) k hsz;have hnd:=cd ((cp next (bA next col t)).take k)
  have hDl:(aZ ((cp next (bA next col t)).take k)).length<=4000:=by
   have:=fM _ ((cp next (bA next col t)).take k) (cd _) fun x hx=>(aY _ _).1 hx;have:=Pu k (cp next (bA next col t));omega
  have hol:(ip (fO (cp next (bA next col t)) k)).length=next.length:=by rw [NI,gu _ (by omega)];exact hkl
  have hr0:(ip (fO (cp next (bA next col t)) k))[k]?.getD []=[eI ((fO (cp next (bA next col t)) k).getD k 0)]:=by
   have:k<(fO (cp next (bA next col t)) k).length:=by rw [gu _ (by omega)];exact hk2
   simp [List.getD,this]
  have hcall:=LR next (bA next col t) k hn hr htl hto (by omega);have hkey:rJ next (bA next col t) k=s:=by rw [hs];simp [cp]
  rw [hkey] at hcall
  repeat' first|refine ge @hlt ?_|decide|refine sp ?_ ?_<;>intro _
  refine aw hcall ?_
  repeat' first|refine go ?_|decide|refine sp ?_ ?_<;>intro _
  refine ⟨pn hD hss,fun q hq=>?_⟩;rcases sU hnd hq with ⟨hin,rfl⟩|⟨hin,rfl⟩
  .have hst:=mU (cp next (bA next col t)) hk2 ((kX (cp next (bA next col t)) hk2).1 (hs ▸ hin));have hdo:=vT (cp next (bA next col t)) hk2 (hs ▸ hin);rw [<- hs] at hst
   repeat' first|refine ge (kf @hlt (kf @hol (kf hr0 (kf @hst (kf @M2 (kO hkl hk)))))) ?_|decide|refine sp ?_ ?_<;>intro _
   exact rI (wE @hdo) ⟨k+1,by omega,rfl⟩
  .have hst:=mU (cp next (bA next col t)) hk2 ((kX (cp next (bA next col t)) hk2).2 (hs ▸ hin));have hdo:=vE (cp next (bA next col t)) hk2 (hs ▸ hin);rw [<- hs] at hdo
   repeat' first|refine ge (kf @sP (kf @hlt (kf @hol (kf hr0 (kf @hst (kf @M2 (kO hkl hk))))))) ?_|decide|refine sp ?_ ?_<;>intro _
   refine ⟨pn hD hss,fun ents' hp=>?_⟩;obtain rfl:=sj hin hp;exact rI (wE @hdo) ⟨k+1,by omega,rfl⟩
 obtain rfl:k=next.length:=by omega
 have hall:fO (cp next (bA next col t)) next.length=bA next col (t+1):=by
  have:=vO (cp next (bA next col t));rw [hkl] at this;rw [this,Cc]
 repeat' first|refine ge @hlt ?_|decide|refine sp ?_ ?_<;>intro _
 have htkn2:aZ ((cp next (bA next col t)).take next.length)=aZ (cp next (bA next col t)):=by rw [NT (by omega)]
 repeat' first|refine go ?_|simp only [zM,zD,mI,mR,kV,bK,dK,dS,aE.shift,dR,hall]|decide|refine sp ?_ ?_<;>intro _
 refine aA (by kernel_rfl) ?_
 repeat' first|refine go ?_|decide|refine sp ?_ ?_<;>intro _
 refine ⟨_,EJ _ htl2 (hbd (t+1)),?_⟩
 repeat' first|refine go ?_|decide|refine sp ?_ ?_<;>intro _
 refine ⟨_,EJ _ htl (hbd t),?_⟩;by_cases hm:br (bA next col (t+1))=br (bA next col t)
 .have em:(br (bA next col (t+1)) == br (bA next col t))=true:=O2.2 hm
  repeat' first|refine ge em ?_|decide|refine sp ?_ ?_<;>intro _
  exact Nf ⟨t,hm,rfl⟩
 .have em:(br (bA next col (t+1)) == br (bA next col t))=false:=Oa.2 hm
  repeat' first|refine ge em ?_|decide|refine sp ?_ ?_<;>intro _
  refine fa ((ko _ 7).trans ?_) ⟨t+1,gQ (aZ (cp next (bA next col t))),rfl⟩ ?_
  .simp only [fU,eY,bE,af.gc,aE.frz,AV.frz,AV.frzL,↓reduceIte,Nat.reduceEqDiff,N9,PD,reduceCtorEq,Px,Option.map_none];exact (wS [3,4,5] @htkn2)
  .have h1:=zQ (next:=next) (col:=col) t;have h2:=me (next:=next) (col:=col) t;have h3:=me (next:=next) (col:=col) (t+1);simp only [Ft,af.gc,↓reduceIte,Nat.reduceEqDiff,reduceCtorEq];rw [ru,ru];omega
end
section
end
section
end
section
end
section
end
section
end
section
section
variable {next:List (List Int)} {a b:List Bool} {L:List Bool} {F:List Int} {rows:List (List Int)}
end
end
section
section
variable {next rows:List (List Int)} {L:List Bool} {lf:List Int}
end
section
variable {next rows:List (List Int)} {a:List Bool} {q q':Nat -> Prop} {ex:Nat -> Nat} {L:List Bool} {F:List Int} {lf:List Int}
end
section
variable {w wx w':World} {hi:Nat} {va:Value} {rows:List (List Int)} {L:List Bool} {F F':List Int} {lf:List Int}
end
end
section
structure uq where
 ev:Int
 us:Int
 dst:Int
abbrev Gu (e:uq):List AV:=[eI e.ev,eI e.us,eI e.dst]
abbrev ja (l:List (List uq)):List (List AV):=l.map fun r=>[.sl 3 (r.map Gu)]
abbrev bm (l:List (List uq)):List (List Int):=l.map fun r=>r.map uq.dst
abbrev cN (l:List (List Bool)):List (List AV):=l.map fun a=>[j2 a]
end
section
def fZ (ops:List Int):Nat -> Nat -> Int
 | 0,_=>-1
 | i+1,want=>
  if aC (ops.getD i 0)=0 then (if want=1 then (i:Int) else fZ ops i (want - 1))
  else if aC (ops.getD i 0)=1 then fZ ops i want
  else if aC (ops.getD i 0)=2 then fZ ops i (want+1)
  else -1
theorem jD (op:Int):aC op=0 \/ aC op=1 \/ aC op=2 \/ aC op = -1:=by
 unfold aC;split
 .exact .inl rfl
 .split
  .exact .inr (.inl rfl)
  .split
   .exact .inr (.inr (.inl rfl))
   .exact .inr (.inr (.inr rfl))
theorem sC (ops:List Int) {i:Nat} (hi:i<ops.length) (d:Nat):bq (ops.take (i+1)) d=(bq (ops.take i) d).bind fun d'=>dI d' (ops.getD i 0):=by
 rw [Ns hi,gR]
 congr 1
 funext d'
 have:ops.getD i 0=ops[i]:=by simp [List.getD,hi]
 rw [this,bq];cases dI d' ops[i]<;>rfl
theorem qZ (ops:List Int):∀ (q want d:Nat),q<=ops.length -> 1<=want -> want<=d -> bq (ops.take q) 0=some d -> ∃ b:Nat,fZ ops q want=(b:Int) /\ b<q /\ bq (ops.take b) 0=some (d - want)
 | 0,want,d,_,h1,h2,h=>by
  simp [bq] at h;omega
 | i+1,want,d,hi,h1,h2,h=>by
  rw [sC ops (by omega)] at h
  cases hd:bq (ops.take i) 0 with
  | none=>rw [hd] at h;cases h
  | some d'=>
   rw [hd,OE] at h;unfold dI at h;rw [fZ];rcases jD (ops.getD i 0) with e|e|e|e
   .rw [ND e] at h;cases h;rw [ND e];by_cases hw:want=1
    .rw [ND hw];exact ⟨i,rfl,Ot _,by rw [hd,hw];rfl⟩
    .rw [Ny hw];obtain ⟨b,e1,e2,e3⟩:=qZ ops i (want - 1) d' (by omega) (by omega) (by omega) hd;exact ⟨b,e1,by omega,by rw [e3];congr 1;omega⟩
   .have e0:¬ aC (ops.getD i 0)=0:=(by omega);rw [Ny e0] at h ⊢;rw [ND e];by_cases h3:1<=d'
    .rw [ND ⟨e,h3⟩] at h;cases h;obtain ⟨b,e1,e2,e3⟩:=qZ ops i want d (by omega) h1 h2 hd;exact ⟨b,e1,by omega,e3⟩
    .rw [Ny (by simp [h3]),Ny (by omega)] at h;cases h
   .have e0:¬ aC (ops.getD i 0)=0:=(by omega);have e1':¬ aC (ops.getD i 0)=1:=(by omega);rw [Ny e0,Ny (fun h=>e1' h.1)] at h;rw [Ny e0,Ny e1',ND e];by_cases h3:2<=d'
    .rw [ND ⟨e,h3⟩] at h;cases h;obtain ⟨b,e1,e2,e3⟩:=qZ ops i (want+1) d' (by omega) (by omega) (by omega) hd;exact ⟨b,e1,by omega,by rw [e3];congr 1;omega⟩
    .rw [Ny (by simp [h3])] at h;cases h
   .rw [Ny (by omega),Ny (by omega),Ny (by omega)] at h;cases h
theorem EH {ops:List Int} {b d:Nat} (hb:b<=ops.length) (h:bq (ops.take b) 0=some d) (h0:0<b):0<d:=by
 obtain ⟨i,rfl⟩:∃ i,b=i+1:=⟨b - 1,by omega⟩;rw [sC ops (by omega)] at h
 cases hd:bq (ops.take i) 0 with
 | none=>rw [hd] at h;cases h
 | some d'=>
  rw [hd,OE] at h;unfold dI at h;split at h
  .cases h;omega
  .split at h
   .cases h;omega
   .split at h
    .cases h;omega
    .cases h
theorem kQ (ops:List Int):∀ (q want b:Nat),q<=ops.length -> 1<=want -> fZ ops q want=(b:Int) -> ∃ bs,ops.take q=ops.take b ++ bs /\ ∀ d,bq bs d=some (d+want)
 | 0,want,b,_,_,h=>by
  rw [fZ] at h;omega
 | i+1,want,b,hi,h1,h=>by
  have hs:=Ns (l:=ops) (show i<ops.length by omega);have hg:ops.getD i 0=ops[i]:=by simp [List.getD,show i<ops.length by omega]
  rw [fZ,hg] at h;rcases jD ops[i] with e|e|e|e
  .rw [ND e] at h;by_cases hw:want=1
   .rw [ND hw] at h;have:i=b:=by omega
    subst this;exact ⟨[ops[i]],hs,fun d=>by simp [bq,dI,e,hw]⟩
   .rw [Ny hw] at h;obtain ⟨bs,e1,e2⟩:=kQ ops i (want - 1) b (by omega) (by omega) h;exact ⟨bs ++ [ops[i]],by rw [hs,e1,Oj],fun d=>by rw [gR,e2,OE,bq,dI,ND e];simp [bq];omega⟩
  .have e0:¬ aC ops[i]=0:=(by omega);rw [Ny e0,ND e] at h;obtain ⟨bs,e1,e2⟩:=kQ ops i want b (by omega) h1 h;exact ⟨bs ++ [ops[i]],by rw [hs,e1,Oj],fun d=>by rw [gR,e2,OE,bq,dI,Ny e0,ND ⟨e,by omega⟩];simp [bq]⟩
  .have e0:¬ aC ops[i]=0:=(by omega);have e1':¬ aC ops[i]=1:=(by omega);rw [Ny e0,Ny e1',ND e] at h;obtain ⟨bs,e1,e2⟩:=kQ ops i (want+1) b (by omega) (by omega) h;exact ⟨bs ++ [ops[i]],by rw [hs,e1,Oj],fun d=>by rw [gR,e2,OE,bq,dI,Ny e0,Ny (by simp [e1']),ND ⟨e,by omega⟩];simp [bq]⟩
  .rw [Ny (by omega),Ny (by omega),Ny (by omega)] at h;omega
def sm (ops:List Int):Int:=if ops.length=0 then 12 else if 64<ops.length then 3 else if fZ ops ops.length 1=0 then 0 else 17
theorem Bv (ops:List Int) (h0:ops.length ≠ 0) (h64:ops.length<=64):fZ ops ops.length 1=0 ↔ bq ops 0=some 1:=by
 constructor
 .intro h;obtain ⟨bs,e1,e2⟩:=kQ ops ops.length 1 0 (Nz _) (Nz _) (by simpa using h);rw [NG,NJ,Pf] at e1;rw [e1,e2]
 .intro h;obtain ⟨b,e1,e2,e3⟩:=qZ ops ops.length 1 1 (Nz _) (Nz _) (Nz _) (by rw [NG];exact h);by_cases hb:b=0
  .rw [e1,hb];rfl
  .have:=EH (by omega) e3 (by omega);omega
def dM (a:List Bool) (row:List Int):Bool:=row.all fun k=>xp a k
def CG (next:List (List Int)) (a:List Bool):List Bool:=next.map (dM a)
def gB (next:List (List Int)) (a out:List Bool):List Bool:=(List.range out.length).map fun i=>out.getD i false || (xp a (i:Int) && (CG next out).getD i false)
def lX (next:List (List Int)) (a b:List Bool):Nat -> List Bool
 | 0=>b
 | m+1=>gB next a (lX next a b m)
def xj (next:List (List Int)) (a b:List Bool):List Bool:=lX next a b (next.length+1)
def gD (op:Int) (a b:List Bool):List Bool:=(List.range (min a.length b.length)).map fun i=>if op=18 then !(a.getD i false) || b.getD i false else if op=17 then a.getD i false || b.getD i false else a.getD i false && b.getD i false
noncomputable def mb (next:List (List Int)) (op:Int) (a:List Bool):List Bool:=
 if op=15 then a.map (!·)
 else if op=19 then CG next a
 else if op=20 then rC next a
 else if op=21 then xj next (List.replicate next.length true) a
 else if op=22 then BK next (List.replicate next.length true) a
 else if op=23 then (BK next (List.replicate next.length true) (a.map (!·))).map (!·)
 else HO next a
noncomputable def nL (next:List (List Int)) (op:Int) (a b:List Bool):List Bool:=
 if op=25 then xj next a b else if op=26 then BK next a b else gD op a b
abbrev IO0:=List (List Bool)
def dU (s:IO0):List Bool:=s.getLastD []
noncomputable def gG (next:List (List Int)) (at_:al -> List Bool) (s:IO0) (x:al):IO0:=
 if aC x.op=1 then s.dropLast ++ [mb next x.op (dU s)]
 else if aC x.op=2 then s.dropLast.dropLast ++ [nL next x.op (dU s.dropLast) (dU s)]
 else s ++ [at_ x]
noncomputable def ct (next:List (List Int)) (at_:al -> List Bool) (l:List al):IO0:=l.foldl (gG next at_) []
theorem iQ {next:List (List Int)} {at_:al -> List Bool} {l:List al} {k:Nat} (hk:k<l.length):ct next at_ (l.take (k+1))=gG next at_ (ct next at_ (l.take k)) l[k]:=by
 unfold ct;rw [Ns hk,OI];rfl
noncomputable def qo (next:List (List Int)) (at_:al -> List Bool) (l:List al):List Bool:=dU (ct next at_ l)
theorem jz (next:List (List Int)) (a:List Bool):(CG next a).length=next.length:=by simp [CG]
theorem b6 (next:List (List Int)) (a b:List Bool):∀ m,(lX next a b m).length=b.length
 | 0=>rfl
 | m+1=>by rw [lX,gB,NI,List.length_range,b6 next a b m]
theorem we (next:List (List Int)) (op:Int) (a:List Bool) (h:a.length=next.length):(mb next op a).length=next.length:=by
 unfold mb;split
 .simp [h]
 .split
  .exact jz _ _
  .split
   .exact lL _ _
   .split
    .rw [xj,b6,h]
    .split
     .exact dy _ _ _
     .split
      .simp [dy]
      .exact jx _ _
theorem vJ (next:List (List Int)) (op:Int) (a b:List Bool) (ha:a.length=next.length) (hb:b.length=next.length):(nL next op a b).length=next.length:=by
 unfold nL;split
 .rw [xj,b6,hb]
 .split
  .exact dy _ _ _
  .simp [gD,ha,hb]
theorem el {s:IO0} (h:0<s.length):dU s ∈ s:=by
 have hne:s ≠ []:=by intro e;simp [e] at h
 unfold dU;rw [List.getLastD_eq_getLast?,List.getLast?_eq_some_getLast hne];exact List.getLast_mem hne
theorem oh {s:IO0} {a:List Bool} (h:a ∈ s.dropLast):a ∈ s:=(List.dropLast_sublist _).subset h
theorem kM {d d':Nat} {op:Int} (h:dI d op=some d'):(aC op=0 /\ d'=d+1) \/ (aC op=1 /\ 1<=d /\ d'=d) \/ (aC op=2 /\ 2<=d /\ d'=d - 1):=by
 unfold dI at h;split at h
 .rename_i e;cases h;exact .inl ⟨e,rfl⟩
 .split at h
  .rename_i e;cases h;exact .inr (.inl ⟨e.1,e.2,rfl⟩)
  .split at h
   .rename_i e;cases h;exact .inr (.inr ⟨e.1,e.2,rfl⟩)
   .cases h
theorem kU {next:List (List Int)} {at_:al -> List Bool} {l:List al} {e:Nat} (h:bq (l.map al.op) 0=some e) (hat:∀ x ∈ l,aC x.op=0 -> (at_ x).length=next.length):∀ k,k<=l.length -> (∀ a ∈ ct next at_ (l.take k),a.length=next.length) /\ bq ((l.take k).map al.op) 0=some (ct next at_ (l.take k)).length
 | 0,_=>⟨by simp [ct],by simp [ct,bq]⟩
 | k+1,hk=>by
  obtain ⟨h1,h2⟩:=kU h hat k (by omega);obtain ⟨d,h3,d',h4,h5⟩:=pB h (show k<l.length by omega);rw [h2] at h3;cases h3;rw [iQ (by omega),h5];generalize ct next at_ (l.take k)=s at *;unfold gG;rcases kM h4 with ⟨e1,rfl⟩|⟨e1,e2,rfl⟩|⟨e1,e2,rfl⟩
  .rw [Ny (by omega),Ny (by omega)];refine ⟨fun a ha=>?_,by simp⟩;rcases NK.1 ha with ha|ha
   .exact h1 a ha
   .simp at ha;subst ha;exact hat _ (Nt _) e1
  .rw [ND e1];refine ⟨fun a ha=>?_,by simp;omega⟩;rcases NK.1 ha with ha|ha
   .exact h1 a (oh ha)
   .simp at ha;subst ha;exact we _ _ _ (h1 _ (el e2))
  .rw [Ny (by omega),ND e1];refine ⟨fun a ha=>?_,by simp;omega⟩;rcases NK.1 ha with ha|ha
   .exact h1 a (oh (oh ha))
   .simp at ha;subst ha;exact vJ _ _ _ _ (h1 _ (oh (el (by simp;omega)))) (h1 _ (el (by omega)))
theorem px {next:List (List Int)} {at_:al -> List Bool} {l:List al} {e:Nat} (h:bq (l.map al.op) 0=some e) (hat:∀ x ∈ l,aC x.op=0 -> (at_ x).length=next.length):∀ (q want b:Nat),q<=l.length -> 1<=want -> want<=(ct next at_ (l.take q)).length -> fZ (l.map al.op) q want=(b:Int) ->
  b<=q /\ ct next at_ (l.take b)=(ct next at_ (l.take q)).take ((ct next at_ (l.take q)).length - want)
 | 0,want,b,_,h1,h2,hb=>by
  simp [ct] at h2;omega
 | i+1,want,b,hi,h1,h2,hb=>by
  obtain ⟨g1,g2⟩:=kU h hat i (by omega);obtain ⟨d,h3,d',h4,h5⟩:=pB h (show i<l.length by omega);rw [g2] at h3;cases h3;have hg:(l.map al.op).getD i 0=l[i].op:=by simp [List.getD,show i<l.length by omega]
  rw [fZ,hg] at hb;rw [iQ (by omega)] at h2 ⊢;rcases kM h4 with ⟨e1,_⟩|⟨e1,e2,_⟩|⟨e1,e2,_⟩
  .rw [ND e1] at hb;have hs:gG next at_ (ct next at_ (l.take i)) l[i]=ct next at_ (l.take i) ++ [at_ l[i]]:=(by rw [gG,Ny (by omega),Ny (by omega)]);rw [hs] at h2 ⊢;rw [NB,N4] at h2 ⊢;by_cases hw:want=1
   .rw [ND hw] at hb;have:i=b:=by omega
    subst this;refine ⟨by omega,?_⟩;rw [hw,O9,List.take_left'];rfl
   .rw [Ny hw] at hb;obtain ⟨k1,k2⟩:=px h hat i (want - 1) b (by omega) (by omega) (by omega) hb;refine ⟨by omega,?_⟩;rw [k2,OO (by omega)]
    congr 1
    omega
  .rw [Ny (by omega),ND e1] at hb;have hs:gG next at_ (ct next at_ (l.take i)) l[i]=(ct next at_ (l.take i)).dropLast ++ [mb next l[i].op (dU (ct next at_ (l.take i)))]:=(by rw [gG,ND e1]);rw [hs] at h2 ⊢;rw [NB,N4,Pn] at h2 ⊢;obtain ⟨k1,k2⟩:=px h hat i want b (by omega) h1 (by omega) hb;refine ⟨by omega,?_⟩;rw [k2,OO (by rw [Pn];omega),List.dropLast_eq_take,List.take_take]
   congr 1
   omega
  .rw [Ny (by omega),Ny (by omega),ND e1] at hb;have hs:gG next at_ (ct next at_ (l.take i)) l[i]=(ct next at_ (l.take i)).dropLast.dropLast ++ [nL next l[i].op (dU (ct next at_ (l.take i)).dropLast) (dU (ct next at_ (l.take i)))]:=(by rw [gG,Ny (by omega),ND e1]);rw [hs] at h2 ⊢;rw [NB,N4,Pn,Pn] at h2 ⊢;obtain ⟨k1,k2⟩:=px h hat i (want+1) b (by omega) (by omega) (by omega) hb;refine ⟨by omega,?_⟩;rw [k2,OO (by rw [Pn,Pn];omega),List.dropLast_eq_take,List.dropLast_eq_take,List.take_take,List.take_take]
   congr 1
   simp;omega
end
section
section
variable {next:List (List Int)} {at_:al -> List Bool}
theorem nn (a:List Bool):(a.map (!·)).map (!·)=a:=by simp [List.map_map,Function.comp_def]
variable {n:Nat} {L:List MY} {a b:Int}
end
def L9 (next:List (List Int)):Prop:=∀ r ∈ next,∀ x ∈ r,0<=x /\ x<(next.length:Int)
theorem ED {a:List Bool} {i:Nat} (h:i<a.length):(a.map (!·)).getD i false = !(a.getD i false):=by
 simp [List.getD,h]
inductive GY (next:List (List Int)) (a b:List Bool):Nat -> Prop
 | here (i:Nat):b.getD i false=true -> GY next a b i
 | step (i:Nat):i<next.length -> a.getD i false=true -> (∀ x ∈ next.getD i [],0<=x) -> (∀ k:Nat,(k:Int) ∈ next.getD i [] -> GY next a b k) -> GY next a b i
theorem EW (next:List (List Int)) (a:List Bool) {i:Nat} (hi:i<next.length):(CG next a).getD i false=dM a (next.getD i []):=by
 simp [CG,List.getD,hi]
theorem jr {a:List Bool} {r:List Int}:dM a r=true ↔ ∀ x ∈ r,∃ k:Nat,x=(k:Int) /\ a.getD k false=true:=by
 unfold dM xp;simp only [List.all_eq_true,NU,NW];constructor
 .intro h x hx;obtain ⟨h1,h2⟩:=h x hx;exact ⟨x.toNat,by omega,h2⟩
 .intro h x hx;obtain ⟨k,rfl,h2⟩:=h x hx;exact ⟨by omega,by simpa using h2⟩
section
variable {next:List (List Int)} {a b:List Bool}
theorem nT (out:List Bool) (hl:out.length=next.length) (i:Nat):(gB next a out).getD i false=true ↔ i<next.length /\ (out.getD i false=true \/ (a.getD i false=true /\ dM out (next.getD i [])=true)):=by
 unfold gB;by_cases h:i<next.length
 .rw [NA,Nu,Ol (by omega),N9,NX,kY,EW _ _ h];simp [h]
 .rw [NA,NN (by simp;omega)];simp [h]
theorem oa (hb:b.length=next.length):∀ m i,(lX next a b m).getD i false=true -> GY next a b i
 | 0,i,h=>.here i h
 | m+1,i,h=>by
  rw [lX,nT _ (by rw [b6,hb])] at h;obtain ⟨h1,h2|⟨h2,h3⟩⟩:=h
  .exact oa hb m i h2
  .refine .step i h1 h2 (fun x hx=>?_) fun k hx=>?_
   .obtain ⟨k,e,hk⟩:=jr.1 h3 x hx;omega
   .obtain ⟨k',e,hk⟩:=jr.1 h3 _ hx;have:k'=k:=by omega
    subst this;exact oa hb m k' hk
theorem wF (hb:b.length=next.length) (m i:Nat) (h:(lX next a b m).getD i false=true):(lX next a b (m+1)).getD i false=true:=by
 rw [lX,nT _ (by rw [b6,hb])];refine ⟨?_,.inl h⟩;by_cases h1:i<next.length
 .exact h1
 .rw [NA,NN (by rw [b6];omega)] at h;simp at h
theorem vj (m:Nat) (h:lX next a b (m+1)=lX next a b m):∀ k,lX next a b (m+k)=lX next a b m
 | 0=>rfl
 | k+1=>by
  show gB next a (lX next a b (m+k))=_;rw [vj m h k];exact h
theorem zJ (hb:b.length=next.length):∀ m,(∃ k,k<m /\ lX next a b (k+1)=lX next a b k) \/ m<=cnt (lX next a b m)
 | 0=>.inr (Nv _)
 | m+1=>by
  rcases zJ hb m with ⟨k,h1,h2⟩|h
  .exact .inl ⟨k,by omega,h2⟩
  .by_cases e:lX next a b (m+1)=lX next a b m
   .exact .inl ⟨m,by omega,e⟩
   .have:=zg (a:=lX next a b m) (b:=lX next a b (m+1)) (by rw [b6,b6]) (wF hb m) (Ne.symm e);exact .inr (by omega)
theorem GH (hb:b.length=next.length):gB next a (xj next a b)=xj next a b:=by
 rcases zJ (a:=a) hb (next.length+1) with ⟨k,h1,h2⟩|h
 .have e:xj next a b=lX next a b k:=by
   have:=vj k h2 (next.length+1 - k);rw [show k+(next.length+1 - k)=next.length+1 by omega] at this;exact this
  rw [e];exact h2
 .have:=uj (lX next a b (next.length+1));rw [b6] at this;omega
theorem DB (hb:b.length=next.length) (i:Nat):(xj next a b).getD i false=true ↔ GY next a b i:=by
 refine ⟨oa hb _ i,fun h=>?_⟩;have hl:(xj next a b).length=next.length:=by rw [xj,b6,hb]
 have h0:∀ m i,b.getD i false=true -> (lX next a b m).getD i false=true:=fun m=>by
  induction m with
  | zero=>exact fun i h=>h
  | succ m ih=>exact fun i h=>wF hb m i (ih i h)
 induction h with
 | here i h=>exact h0 _ i h
 | step i h1 h2 h0 h3 ih=>
  rw [<- GH hb,nT _ hl];refine ⟨h1,.inr ⟨h2,jr.2 fun x hx=>?_⟩⟩;have:=h0 x hx;have e:x=((x.toNat:Nat):Int):=by omega
  exact ⟨x.toNat,e,ih x.toNat (e ▸ hx)⟩
end
theorem CM {a:List Bool} {i:Nat} (h:a.getD i false=true):i<a.length:=by
 by_cases h1:i<a.length
 .exact h1
 .rw [NA,NN (by omega)] at h;simp at h
theorem CH {n i:Nat} (h:i<n):(List.replicate n true).getD i false=true:=by simp [List.getD,h]
end
section
section
variable {next:List (List Int)} {at_:al -> List Bool} {n:Nat} {L:List MY} {a b op:Int}
theorem AR (h:aC op=1):op=15 \/ op=19 \/ op=20 \/ op=21 \/ op=22 \/ op=23 \/ op=24:=by
 unfold aC at h;split at h
 .omega
 .split at h
  .omega
  .split at h<;>omega
theorem AJ (h:aC op=2):op=16 \/ op=17 \/ op=18 \/ op=25 \/ op=26:=by
 unfold aC at h;split at h
 .omega
 .split at h
  .omega
  .split at h<;>omega
end
end
section
structure Bg (next small:List (List Int)) (f:Nat -> Nat):Prop where
 inn:L9 next
 ins:L9 small
 lt:∀ i,i<next.length -> f i<small.length
 onto:∀ c,c<small.length -> ∃ i,i<next.length /\ f i=c
 fwd:∀ i k,i<next.length -> lU next i k -> lU small (f i) (f k)
 bwd:∀ i c,i<next.length -> lU small (f i) c -> ∃ k,lU next i k /\ f k=c
def dg (f:Nat -> Nat) (n:Nat) (a:List Bool):List Bool:=(List.range n).map fun i=>a.getD (f i) false
theorem bC (f:Nat -> Nat) (n:Nat) (a:List Bool):(dg f n a).length=n:=by simp [dg]
theorem bB (f:Nat -> Nat) {n:Nat} (a:List Bool) {i:Nat} (hi:i<n):(dg f n a).getD i false=a.getD (f i) false:=by
 simp [dg,List.getD,hi]
theorem Hz {f:Nat -> Nat} {n:Nat} {a:List Bool} {i:Nat} (h:(dg f n a).getD i false=true):i<n:=by
 have:=CM h
 rwa [bC] at this
section
variable {next small:List (List Int)} {f:Nat -> Nat}
theorem zG (hb:Bg next small f) {a:List Bool} (ha:a.length=small.length):(dg f next.length a).map (!·)=dg f next.length (a.map (!·)):=by
 refine de (by simp [bC]) fun i hi=>?_;rw [NI,bC] at hi;rw [ED (by rw [bC];exact hi),bB f a hi,bB f _ hi,ED (by rw [ha];exact hb.lt i hi)]
theorem G7 (hb:Bg next small f):List.replicate next.length true=dg f next.length (List.replicate small.length true):=by
 refine de (by simp [bC]) fun i hi=>?_;rw [List.length_replicate] at hi;rw [CH hi,bB f _ hi,CH (hb.lt i hi)]
theorem KA (hb:Bg next small f) (a:List Bool):rC next (dg f next.length a)=dg f next.length (rC small a):=by
 refine de (by rw [lL,bC]) fun i hi=>?_;rw [lL] at hi;rw [bB f _ hi,t9,t9];constructor
 .rintro ⟨k,h1,h2⟩;rw [bB f _ h1.2] at h2;exact ⟨f k,hb.fwd i k hi h1,h2⟩
 .rintro ⟨c,h1,h2⟩;obtain ⟨k,h3,rfl⟩:=hb.bwd i c hi h1;exact ⟨k,h3,by rw [bB f _ h3.2];exact h2⟩
theorem mT {next:List (List Int)} (hn:L9 next) {i:Nat} (hi:i<next.length) {x:Int} (hx:x ∈ next.getD i []):lU next i x.toNat /\ (x.toNat:Int)=x:=by
 have hg:next.getD i [] ∈ next:=by
  rw [NA,Nq hi];exact Nt hi
 obtain ⟨h0,h1⟩:=hn _ hg x hx;have e:(x.toNat:Int)=x:=OT h0;exact ⟨⟨by rw [e];exact hx,by omega⟩,e⟩
theorem oK {next:List (List Int)} (hn:L9 next) {i:Nat} (hi:i<next.length) (a:List Bool):dM a (next.getD i [])=true ↔ ∀ k,lU next i k -> a.getD k false=true:=by
 rw [jr];constructor
 .rintro h k ⟨h1,_⟩;obtain ⟨k',e,h2⟩:=h _ h1;have:k'=k:=by omega
  subst this;exact h2
 .intro h x hx;obtain ⟨h1,h2⟩:=mT hn hi hx;exact ⟨_,h2.symm,h _ h1⟩
theorem KU (hb:Bg next small f) (a:List Bool):CG next (dg f next.length a)=dg f next.length (CG small a):=by
 refine de (by rw [jz,bC]) fun i hi=>?_;rw [jz] at hi;rw [bB f _ hi,EW _ _ hi,EW _ _ (hb.lt i hi),oK hb.inn hi,oK hb.ins (hb.lt i hi)];constructor
 .intro h c h1;obtain ⟨k,h3,rfl⟩:=hb.bwd i c hi h1;have:=h k h3
  rwa [bB f _ h3.2] at this
 .intro h k h1;rw [bB f _ h1.2];exact h _ (hb.fwd i k hi h1)
theorem xV (hb:Bg next small f) (a b:List Bool):BK next (dg f next.length a) (dg f next.length b)=dg f next.length (BK small a b):=by
 refine de (by rw [dy,bC]) fun i hi=>?_;rw [dy] at hi;rw [bB f _ hi,uA,uA];constructor
 .intro h;clear hi
  induction h with
  | here i h0 h1=>exact .here _ (hb.lt i h0) (by rwa [bB f _ h0] at h1)
  | step i k h0 h1 he _ ih=>exact .step _ (f k) (hb.lt i h0) (by rwa [bB f _ h0] at h1) (hb.fwd i k h0 he) ih
 .intro h
  have key:∀ c,FZ small a b c -> ∀ i,i<next.length -> f i=c -> FZ next (dg f next.length a) (dg f next.length b) i:=by
   intro c h
   induction h with
   | here c h0 h1=>rintro i hi rfl;exact .here i hi (by rw [bB f _ hi];exact h1)
   | step c d h0 h1 he _ ih=>
    rintro i hi rfl;obtain ⟨k,h3,h4⟩:=hb.bwd i d hi he;exact .step i k hi (by rw [bB f _ hi];exact h1) h3 (ih k h3.2 h4)
  exact key _ h i hi rfl
theorem J7 (hb:Bg next small f) (a:List Bool):HO next (dg f next.length a)=dg f next.length (HO small a):=by
 refine de (by rw [jx,bC]) fun i hi=>?_;rw [jx] at hi;rw [bB f _ hi,yu,yu];constructor
 .rintro ⟨S,h1,h2⟩;refine ⟨fun c=>∃ i,S i /\ f i=c,⟨i,h1,rfl⟩,?_⟩;rintro c ⟨j,hj,rfl⟩;obtain ⟨g1,g2,k,g3,g4⟩:=h2 j hj;exact ⟨hb.lt j g1,by rwa [bB f _ g1] at g2,f k,hb.fwd j k g1 g3,k,g4,rfl⟩
 .rintro ⟨S,h1,h2⟩;refine ⟨fun j=>j<next.length /\ S (f j),⟨hi,h1⟩,?_⟩;rintro j ⟨hj,hs⟩;obtain ⟨g1,g2,c,g3,g4⟩:=h2 _ hs;obtain ⟨k,h3,rfl⟩:=hb.bwd j c hj g3;exact ⟨hj,by rw [bB f _ hj];exact g2,k,h3,h3.2,g4⟩
theorem DH (hb:Bg next small f) (a b:List Bool) (hbl:b.length=small.length):xj next (dg f next.length a) (dg f next.length b)=dg f next.length (xj small a b):=by
 refine de (by rw [xj,b6,bC,bC]) fun i hi=>?_;rw [xj,b6,bC] at hi;rw [bB f _ hi,DB (bC _ _ _),DB hbl];constructor
 .intro h
  have key:∀ i,GY next (dg f next.length a) (dg f next.length b) i -> GY small a b (f i):=by
   intro i h
   induction h with
   | here i h1=>exact .here _ (by rwa [bB f _ (Hz h1)] at h1)
   | step i h0 h1 h2 h3 ih=>
    refine .step _ (hb.lt i h0) (by rwa [bB f _ h0] at h1) (fun x hx=>?_) fun c hc=>?_
    .have:=(mT hb.ins (hb.lt i h0) hx).2;omega
    .have he:=mT hb.ins (hb.lt i h0) hc;obtain ⟨k,h4,h5⟩:=hb.bwd i _ h0 he.1;have:=ih k h4.1;have e:f k=c:=by rw [h5];exact Ou c
     rwa [e] at this
  exact key i h
 .intro h
  have key:∀ c,GY small a b c -> ∀ i,i<next.length -> f i=c -> GY next (dg f next.length a) (dg f next.length b) i:=by
   intro c h
   induction h with
   | here c h1=>rintro i hi rfl;exact .here i (by rw [bB f _ hi];exact h1)
   | step c h0 h1 h2 h3 ih=>
    rintro i hi rfl;refine .step i hi (by rw [bB f _ hi];exact h1) (fun x hx=>?_) fun k hk=>?_
    .have:=(mT hb.inn hi hx).2;omega
    .have he:=mT hb.inn hi hk;rw [Ou] at he;exact ih (f k) (hb.fwd i k hi he.1).1 k he.1.2 rfl
  exact key _ h i hi rfl
theorem Fq (op:Int) (a b:List Bool):(gD op a b).length=min a.length b.length:=by simp [gD]
theorem IM (op:Int) (a b:List Bool) {i:Nat} (h1:i<a.length) (h2:i<b.length):(gD op a b).getD i false=if op=18 then !(a.getD i false) || b.getD i false else if op=17 then a.getD i false || b.getD i false else a.getD i false && b.getD i false:=by
 have:i<min a.length b.length:=by omega
 rw [gD,NA,Nu,Ol this];rfl
theorem H3 (hb:Bg next small f) (op:Int) (a b:List Bool) (ha:a.length=small.length) (hbl:b.length=small.length):gD op (dg f next.length a) (dg f next.length b)=dg f next.length (gD op a b):=by
 refine de (by rw [Fq,bC,bC,bC];omega) fun i hi=>?_;rw [Fq,bC,bC] at hi;have hi2:i<next.length:=by omega
 have:=hb.lt i hi2;rw [IM op _ _ (by rw [bC];exact hi2) (by rw [bC];exact hi2),bB f _ hi2,bB f _ hi2,bB f _ hi2,IM op _ _ (by omega) (by omega)]
theorem De (hb:Bg next small f) (op:Int) (a:List Bool) (ha:a.length=small.length):mb next op (dg f next.length a)=dg f next.length (mb small op a):=by
 unfold mb;rw [G7 hb,zG hb ha];split
 .rfl
 .split
  .exact KU hb a
  .split
   .exact KA hb a
   .split
    .exact DH hb _ _ ha
    .split
     .exact xV hb _ _
     .split
      .rw [xV hb,zG hb (dy _ _ _)]
      .exact J7 hb a
theorem CZ (hb:Bg next small f) (op:Int) (a b:List Bool) (ha:a.length=small.length) (hbl:b.length=small.length):nL next op (dg f next.length a) (dg f next.length b)=dg f next.length (nL small op a b):=by
 unfold nL;split
 .exact DH hb _ _ hbl
 .split
  .exact xV hb _ _
  .exact H3 hb op a b ha hbl
theorem ju {g:List Bool -> List Bool} {s:IO0} (h:0<s.length):dU (s.map g)=g (dU s):=by
 have hne:s ≠ []:=by intro e;simp [e] at h
 have hne2:s.map g ≠ []:=by simpa using hne
 unfold dU;rw [List.getLastD_eq_getLast?,List.getLastD_eq_getLast?,List.getLast?_eq_some_getLast hne,List.getLast?_eq_some_getLast hne2];simp
variable {at_ bt_:al -> List Bool}
theorem zK (hb:Bg next small f) {l:List al} {e:Nat} (h:bq (l.map al.op) 0=some e) (hbt:∀ x ∈ l,aC x.op=0 -> (bt_ x).length=small.length) (hat:∀ x ∈ l,aC x.op=0 -> at_ x=dg f next.length (bt_ x)):∀ k,k<=l.length -> ct next at_ (l.take k)=(ct small bt_ (l.take k)).map (dg f next.length)
 | 0,_=>by simp [ct]
 | k+1,hk=>by
  have ih:=zK hb h hbt hat k (by omega);obtain ⟨h1,h2⟩:=kU h hbt k (by omega);obtain ⟨d,h3,d',h4,h5⟩:=pB h (show k<l.length by omega);rw [h2] at h3;cases h3;rw [iQ (by omega),iQ (by omega),ih];generalize ct small bt_ (l.take k)=s at *;unfold gG;rcases kM h4 with ⟨e1,rfl⟩|⟨e1,e2,rfl⟩|⟨e1,e2,rfl⟩
  .rw [Ny (by omega),Ny (by omega),Ny (by omega),Ny (by omega),hat _ (Nt _) e1];simp
  .rw [ND e1,ND e1,ju e2,De hb _ _ (h1 _ (el e2))];simp
  .have e3:0<s.dropLast.length:=by simp;omega
   rw [Ny (by omega),ND e1,Ny (by omega),ND e1,ju (by omega),<- List.map_dropLast,ju e3,CZ hb _ _ _ (h1 _ (oh (el e3))) (h1 _ (el (by omega)))];simp
theorem D5 (hb:Bg next small f) {l:List al} (h:bq (l.map al.op) 0=some 1) (hbt:∀ x ∈ l,aC x.op=0 -> (bt_ x).length=small.length) (hat:∀ x ∈ l,aC x.op=0 -> at_ x=dg f next.length (bt_ x)):qo next at_ l=dg f next.length (qo small bt_ l):=by
 have h1:=zK hb h hbt hat l.length (Nz _);obtain ⟨_,h2⟩:=kU h hbt l.length (Nz _);rw [NG] at h1 h2;rw [h] at h2;have:=OX h2;rw [qo,qo,h1,ju (by omega)]
end
def xR (c:List Int) (k:Nat):Nat:=c.idxOf (k:Int)
def l9 (c:List Int):Nat:=(br c).toNat
def ig (next:List (List Int)) (c:List Int):List (List Int):=(List.range (l9 c)).map fun k=>fT next c (xR c k)
theorem w7 {κ:Type} [DecidableEq κ] (ks:List κ) {k:Nat} (h:k<(aZ ks).length):(k:Int) ∈ cK ks:=by
 refine NC.2 ⟨(aZ ks)[k],(aY _ _).1 (Nt _),?_⟩;rw [yt (cd ks)]
theorem Fk {κ:Type} [DecidableEq κ] (ks:List κ) {x:Int} (h:x ∈ cK ks):0<=x /\ x<(aZ ks).length:=by
 obtain ⟨k,hk,rfl⟩:=NC.1 h;have:=N5 ((aY ks k).2 hk);omega
theorem Em (next:List (List Int)) (col:List Int) (t:Nat):(∀ k:Nat,(k:Int)<br (bA next col t) -> (k:Int) ∈ bA next col t) /\ ∀ x ∈ bA next col t,0<=x /\ x<br (bA next col t):=by
 cases t with
 | zero=>rw [bA,mr];exact ⟨fun k h=>w7 _ (by omega),fun x h=>Fk _ h⟩
 | succ t=>rw [bA,mr];exact ⟨fun k h=>w7 _ (by omega),fun x h=>Fk _ h⟩
theorem tk {next:List (List Int)} {c:List Int} {i:Nat} {z:Int}:z ∈ fT next c i ↔ z ∈ j4 next c i:=by
 rw [fT,iP,(dL _).2]
theorem GS {next:List (List Int)} {col:List Int} {t:Nat} (hst:br (bA next col (t+1))=br (bA next col t)) (hin:L9 next):Bg next (ig next (bA next col t)) (fun i=>(eT (bA next col t) (i:Int)).toNat):=by
 have hl:=gh next col t;obtain ⟨hon,hlt⟩:=Em next col t;have hs:=fun {i j}=>DA hst (i:=i) (j:=j);obtain ⟨c,hc⟩:∃ c,c=bA next col t:=⟨_,rfl⟩;rw [<- hc] at hl hon hlt hs ⊢;clear hst hc
 have h0:0<=br c:=by
  by_cases e:c=[]
  .rw [br,ND e];omega
  .obtain ⟨x,r,rfl⟩:=List.exists_cons_of_ne_nil e;have:=hlt x (Ob ..);omega
 have hsl:(ig next c).length=l9 c:=by simp [ig]
 have hat:∀ i,i<next.length -> 0<=eT c (i:Int) /\ (eT c (i:Int)).toNat<l9 c:=fun i hi=>by
  rw [cu (by omega)];have:=hlt _ (Nt (show i<c.length by omega));unfold l9;omega
 have hfst:∀ k,k<l9 c -> xR c k<next.length /\ eT c (xR c k:Int)=(k:Int):=fun k hk=>by
  have hm:=hon k (by unfold l9 at hk;omega);have h1:=N5 hm;unfold xR;refine ⟨by omega,?_⟩;rw [cu h1,OQ h1]
 have hrow:∀ k,k<l9 c -> (ig next c).getD k []=fT next c (xR c k):=fun k hk=>by
  rw [ig,NA,Nu,Ol hk];rfl
 have hmem:∀ i,i<next.length -> ∀ z,z ∈ (ig next c).getD (eT c (i:Int)).toNat [] ↔ z ∈ j4 next c i:=fun i hi z=>by
  obtain ⟨h1,h2⟩:=hat i hi;obtain ⟨h3,h4⟩:=hfst _ h2;have e:eT c (xR c (eT c (i:Int)).toNat:Int)=eT c (i:Int):=by rw [h4];omega
  rw [hrow _ h2,tk];exact (ut.1 (hs h3 hi e)) z
 have hnat:∀ i k:Nat,lU next i k -> (eT c (k:Int)) ∈ j4 next c i:=fun i k h=>fx.2 ⟨(k:Int),h.1,by simp [sn,h.2],rfl⟩;refine ⟨hin,fun r hr x hx=>?_,fun i hi=>by rw [hsl];exact (hat i hi).2,fun k hk=>?_,fun i k hi he=>?_,fun i z hi he=>?_⟩
 .rw [hsl];obtain ⟨k,hk,rfl⟩:=NC.1 hr;have h1:=fx.1 (tk.1 hx);obtain ⟨y,_,hy,rfl⟩:=h1
  obtain ⟨h2,h3⟩:y.toNat<next.length /\ (y.toNat:Int)=y:=by
   simp [sn] at hy;omega
  have h4:=hat _ h2;rw [h3] at h4;omega
 .rw [hsl] at hk;obtain ⟨h1,h2⟩:=hfst k hk;exact ⟨_,h1,by simp only [h2];omega⟩
 .have h1:=hat k he.2;refine ⟨?_,by rw [hsl];exact h1.2⟩;rw [hmem i hi];have:=hnat i k he
  rwa [<- OT h1.1] at this
 .obtain ⟨y,hy,hyn,hyz⟩:=fx.1 ((hmem i hi _).1 he.1)
  obtain ⟨h2,h3⟩:y.toNat<next.length /\ (y.toNat:Int)=y:=by
   simp [sn] at hyn;omega
  refine ⟨y.toNat,⟨by rw [h3];exact hy,h2⟩,?_⟩;simp only [h3,hyz];omega
end
end
end Go.Proofs.YtiaiihjmmfakdaaGreatDoor
