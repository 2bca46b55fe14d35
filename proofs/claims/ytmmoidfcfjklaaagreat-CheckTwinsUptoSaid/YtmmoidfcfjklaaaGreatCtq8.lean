/-
  Parts of the proof: Ctp18, Ctp19, Ctp20, Ctp21, Ctp22, Ctp23.
-/
import Derived.Test.YtmmoidfcfjklaaaGreatCtq7
set_option linter.unusedVariables false
set_option linter.unusedSimpArgs false
set_option linter.defProp false
set_option maxRecDepth 100000
set_option maxHeartbeats 16000000
namespace Go.Proofs.YtmmoidfcfjklaaaGreat
open Go.RowKit
section
section
def fX (w:World) (g:Nat) (rows:List (List Int)):Prop:=∃ f:Nat -> Value,w.rowIs g 87 rows.length f /\
 (∀ j,j<rows.length -> w.ownsRow (g+1) 3 1 (f j) (rows.getD j []).length ((rows.getD j []).map (Value.int .i64))) /\
 (∀ i j b,i<rows.length -> j<rows.length -> i ≠ j -> (f i).ownBlock=some b -> (f j).ownBlock ≠ some b)
theorem fX.made (w:World) (n:Nat):fX (w.alloc (.cells (madeCells #[.slice none 0 0] n) 87)) w.heap.size (List.replicate n []):=by
 refine ⟨fun _=>.slice none 0 0,?_,fun j hj=>?_,fun i j b _ _ _ h=>by simp [Value.ownBlock] at h⟩
 .rw [List.length_replicate];exact World.rowIs_made _ _ _ _
 .have:(List.replicate n ([]:List Int)).getD j []=[]:=by rw [List.getD,W9];split<;>rfl
  rw [this];exact World.ownsRow_nil _ _ _ _
theorem F6 {w w':World} {base e size n:Nat} {v:Value} {xs:List Value} (h:w.ownsRow base e size v n xs) (hk:∀ b,v.ownBlock=some b -> w'.heap[b]? = w.heap[b]?):w'.ownsRow base e size v n xs:=by
 refine ⟨h.1,?_⟩;rcases h.2 with hn|⟨g,cap,cur,rfl,hbg,hg,rest⟩
 .exact .inl hn
 .exact .inr ⟨g,cap,cur,rfl,hbg,(hk g (by simp [Value.ownBlock])).trans hg,rest⟩
theorem fX.below {w w':World} {g:Nat} {rows:List (List Int)} (h:fX w g rows) (hb:Below w.heap.size w w'):fX w' g rows:=by
 obtain ⟨f,h1,h2,h3⟩:=h;exact ⟨f,h1.of_block (hb.block g h1.lt),fun j hj=>r4 (h2 j hj) hb,h3⟩
theorem td (rows:List (List Int)) (k:Nat) (x:List Int) (h:k<rows.length) (j:Nat):(rows.set k x).getD j []=if j=k then x else rows.getD j []:=by
 simp only [List.getD,Wz];by_cases e:j=k
 .subst e;simp [h]
 .rw [Vh (fun h=>e h.symm),Vh e]
theorem fX.push {w w2:World} {g k:Nat} {rows:List (List Int)} {x:Int} {v v2:Value} {f:Nat -> Value} {o:Obj} (h1:w.rowIs g 87 rows.length f)
  (h2:∀ j,j<rows.length -> w.ownsRow (g+1) 3 1 (f j) (rows.getD j []).length ((rows.getD j []).map (Value.int .i64)))
  (h3:∀ i j b,i<rows.length -> j<rows.length -> i ≠ j -> (f i).ownBlock=some b -> (f j).ownBlock ≠ some b)
  (hk:k<rows.length) (hv:f k=v) (hown:w2.ownsRow (g+1) 3 1 v2 ((rows.getD k []).length+1) ((rows.getD k []).map (Value.int .i64) ++ [Value.int .i64 x]))
  (hg:(w.alloc o).grownBy w2 v.ownBlock) (hat:v2.ownBlock=v.ownBlock \/ v2.ownBlock=some (w.alloc o).heap.size) :
  fX (w2.setCell ⟨g,k,none⟩ v2) g (rows.set k (rows.getD k [] ++ [x])):=by
 subst hv;have hgw:=h1.lt;have hne:=C5 (h2 k hk) (g:=g) (by omega);have hkeep:∀ b,b<w.heap.size -> some b ≠ (f k).ownBlock -> w2.heap[b]? = w.heap[b]?:=fun b hb hb2=>(hg.block b (by simp;omega) hb2).trans (Below.heap_alloc w o b hb);have h1':=(h1.of_block (hkeep g hgw hne)).set k v2;refine ⟨_,by rw [VS];exact h1',fun j hj=>?_,fun i j b hi hj hij=>?_⟩
 .rw [VS] at hj;rw [td _ _ _ hk];by_cases e:j=k
  .rw [Vn e,Vn e,Vi,VE];exact kP hown (by simp) _
  .rw [Vh e,Vh e];refine kP (F6 (h2 j hj) fun b hb=>hkeep b ((h2 j hj).lt b hb).2 fun hb2=>?_) (by simp) _;exact h3 j k b hj hk e hb hb2.symm
 .rw [VS] at hi hj
  have hfresh:∀ j,j<rows.length -> j ≠ k -> ∀ b,(f j).ownBlock=some b -> v2.ownBlock ≠ some b:=by
   intro j hj hjk b hb hb2;rcases hat with h|h
   .exact h3 j k b hj hk hjk hb (h ▸ hb2)
   .rw [h] at hb2;have:=((h2 j hj).lt b hb).2;simp at hb2;omega
  intro h;split at h
  .rw [Vh (by omega)];exact fun hb=>hfresh j hj (by omega) b hb h
  .rename_i hik;split
   .exact hfresh i hi hik b h
   .exact h3 i j b hi hj hij h
theorem fX.read {w:World} {g:Nat} {rows:List (List Int)} (h:fX w g rows) (hx:∀ r ∈ rows,∀ x ∈ r,-9223372036854775808<=x /\ x<=9223372036854775807) (hl:rows.length<=9223372036854775807) :
  (aF (aF (eh .i64))).one w (fun b=>g<=b /\ b<w.heap.size) (.slice (some ⟨g,0,none⟩) rows.length rows.length) rows:=by
 obtain ⟨f,h1,h2,h3⟩:=h;refine ⟨_,_,rfl,Os _,hl,fun h0=>⟨g,0,rfl,⟨Os _,h1.lt⟩,fun i hi=>⟨[f i],fun j u hu=>?_,?_⟩⟩⟩
 .cases j with
  | succ j=>simp at hu
  | zero=>
   simp only [WO,W8] at hu;subst hu;have:(aF (eh .i64)).size=1:=rfl;rw [this];simpa using h1.cell hi
 .have:=h2 i hi;rw [List.getD,f4 hi] at this
  have h4:=nI (r:=eh .i64) (Value.int .i64) this rfl (fun a ha=>⟨rfl,by
   have:=hx _ (Vf hi) a ha;exact pD this.1 this.2⟩)
  exact dg h4 fun b hb=>⟨by omega,hb.2⟩
theorem gw (l:List Int) (m:Nat) (h:m<l.length):l.getD m 0=l[m]:=by rw [List.getD,f4 h];rfl
structure cV (next:List (List Int)) (i m:Nat) (rows:List (List Int)):Prop where
 len:rows.length=next.length
 count:∀ k,k<next.length -> ∀ x:Nat,((rows.getD k []).count (x:Int))=if x<i then (next.getD x []).count (k:Int) else if x=i then ((next.getD i []).take m).count (k:Int) else 0
 only:∀ r ∈ rows,∀ y ∈ r,∃ x:Nat,y=(x:Int) /\ x<next.length
 small:∀ k,(rows.getD k []).length<=4000 * i+m
theorem cV.start (next:List (List Int)):cV next 0 0 (List.replicate next.length []):=by
 have e:∀ k,(List.replicate next.length ([]:List Int)).getD k []=[]:=fun k=>by rw [List.getD,W9];split<;>rfl
 refine ⟨by simp,fun k hk x=>?_,fun r hr y hy=>?_,fun k=>by rw [e];simp⟩
 .rw [e];simp
 .rw [List.mem_replicate] at hr;rw [hr.2] at hy;simp at hy
theorem cV.skip {next:List (List Int)} {i m:Nat} {rows:List (List Int)} (h:cV next i m rows) (hm:m<(next.getD i []).length) (hy:¬ (0<=(next.getD i []).getD m 0 /\ (next.getD i []).getD m 0<(next.length:Int))):cV next i (m+1) rows:=by
 refine ⟨h.len,fun k hk x=>?_,h.only,fun k=>by have:=h.small k;omega⟩;rw [h.count k hk x];split
 .rfl
 .split
  .have:((next.getD i []))[m] ≠ (k:Int):=by
    intro e;rw [gw _ _ hm,e] at hy;omega
   rw [Vk hm,List.count_append,Xs,VN.2 this];rfl
  .rfl
theorem cV.push {next:List (List Int)} {i m:Nat} {rows:List (List Int)} (h:cV next i m rows) (hi:i<next.length) (hm:m<(next.getD i []).length) (q:Nat) (hq:(next.getD i []).getD m 0=(q:Int)) (hql:q<next.length) :
  cV next i (m+1) (rows.set q (rows.getD q [] ++ [(i:Int)])):=by
 have hq':((next.getD i []))[m]=(q:Int):=by rw [<- hq,gw _ _ hm]
 have hqr:q<rows.length:=by rw [h.len];exact hql
 refine ⟨by rw [VS,h.len],fun k hk x=>?_,fun r hr y hy=>?_,fun k=>?_⟩
 .rw [td _ _ _ hqr];have hc:=h.count k hk x;by_cases e:k=q
  .subst e;rw [Vn rfl,List.count_append,hc,Xs];by_cases ex:x=i
   .subst ex;simp only [Nat.lt_irrefl,if_false,if_true,↓reduceIte,beq_self_eq_true];rw [Vk hm,List.count_append,Xs,hq'];simp
   .have:((i:Int) == (x:Int))=false:=by simp;omega
    rw [this,Vh ex];simp [ex]
  .rw [Vh e,hc];by_cases ex:x=i
   .subst ex;simp only [Nat.lt_irrefl,if_false,if_true,↓reduceIte];rw [Vk hm,List.count_append,Xs,hq'];have:((q:Int) == (k:Int))=false:=by simp;omega
    rw [this];simp
   .rw [Vh ex,Vh ex]
 .rcases Wj hr with h1 | h1
  .exact h.only r h1 y hy
  .subst h1;rcases Vp.1 hy with h2|h2
   .have:rows.getD q [] ∈ rows:=by rw [List.getD,f4 hqr];exact Vf hqr
    exact h.only _ this y h2
   .simp at h2;exact ⟨i,h2,hi⟩
 .rw [td _ _ _ hqr];split
  .rename_i e;subst e;have:=h.small k;rw [Vi,Vy];omega
  .have:=h.small k;omega
theorem cV.row {next:List (List Int)} {i:Nat} {rows:List (List Int)} (h:cV next i (next.getD i []).length rows) (hr:(next.getD i []).length<=4000):cV next (i+1) 0 rows:=by
 refine ⟨h.len,fun k hk x=>?_,h.only,fun k=>by have:=h.small k;omega⟩;rw [h.count k hk x];by_cases ex:x=i
 .subst ex;rw [Vh (by omega),Vn rfl,Vn (by omega),Vq]
 .by_cases h2:x<i
  .rw [Vn h2,Vn (by omega)]
  .rw [Vh h2,Vh ex,Vh (by omega)];simp
theorem II (next:List (List Int)) (vn:Value) (w:World) (hl:next.length<=200) (hr:∀ r ∈ next,r.length<=4000) (hn:RR w vn next) :
  Calls Tryz.prog 95 #[vn] w fun e w'=>e=.returned (.slice (some ⟨w.heap.size,0,none⟩) next.length next.length) /\ ∃ rows,cV next next.length 0 rows /\ fX w' w.heap.size rows /\ Below w.heap.size w w':=by
 obtain ⟨A,c,rfl,hc⟩:=hn.form;have hmk:=run_make_row' (P:=Tryz.prog) 78 87 (.slice none 0 0) 24 Tryz.underlying78 MD rfl .i64 .i64 next.length (by omega) (by omega);obtain ⟨i0,hi0,hz0,hz1,hz2⟩:=info_parts Oe;have Hr:=aG hr;clear hr
 go_enter Tryz.func95,Tryz.ntmps95
 go_wp2_with fail
 have ho:=fX.made w next.length;have hb0:=(Below.refl w.heap.size w).alloc (Os _) (.cells (madeCells #[.slice none 0 0] next.length) 87);clear hmk
 go_loopw [13] (fun i wr=>∃ (k:Nat) (L:List (List Int)),k<=next.length /\ i=.int .i64 (k:Int) /\ cV next k 0 L /\ fX wr w.heap.size L /\ Below w.heap.size w wr) (fun i wr=>next.length - (intOf i).toNat)
 case atStart=>exact ⟨0,_,Vg _,rfl,cV.start next,ho,hb0⟩
 case round=>
  clear ho hb0;obtain ⟨k,L,hk,rfl,hL,ho,hb⟩:=hrel;by_cases hlt:k<next.length
  .obtain ⟨b,o,A',c',rfl,hcell0,hc1,hc2,hri⟩:=hn.at_ hlt;have hcell:=(hb.cell (World.block_lt_of_cell? w _ hcell0)).trans hcell0
   have hrow:(next.getD k []).length<=4000:=by
    rw [List.getD,f4 hlt];exact Hr.out _ (Vf hlt)
   obtain ⟨row,hrw⟩:∃ row,row=next.getD k []:=⟨_,rfl⟩;rw [<- hrw] at hcell hc1 hri hrow;have Hrw:=aG hrw;have HL0:=aG hL;have Hb:=aG hb;have Ho:=aG ho;clear hrw hcell0 hL hb ho
   go_wp2_with fail
   go_loopw [20] (fun i wx=>∃ (m:Nat) (L:List (List Int)),m<=row.length /\ i=.int .i64 (m:Int) /\ cV next k m L /\ fX wx w.heap.size L /\ Below w.heap.size w wx) (fun i wx=>row.length - (intOf i).toNat)
   case atStart=>exact ⟨0,L,Vg _,rfl,HL0.out,Ho.out,Hb.out⟩
   case round=>
    clear hcell HL0 Hb Ho;obtain ⟨m,L,hm,rfl,hL,ho,hb⟩:=hrel;by_cases hmlt:m<row.length
    .obtain ⟨b2,o2,rfl,hcell2,hy1,hy2⟩:=(hri.below hb).at_ hmlt;have hpl:=sR next _ (row.getD m 0) wr (by omega) (hn.below hb);by_cases hp:0<=row.getD m 0 /\ row.getD m 0<(next.length:Int)
     .obtain ⟨q,hq⟩:=Xy hp.1;have hql:q<next.length:=(by omega);have hpp:decide (0<=row.getD m 0 /\ row.getD m 0<(next.length:Int))=true:=VC hp;rw [hpp] at hpl;rw [hq] at hpl hcell2;have hst:=hL.push hlt (by rw [<- Hrw.out];exact hmlt) q (by rw [<- Hrw.out];exact hq) hql;have hlen:=hL.len;have hsm:=hL.small q;have Hpl:=aG hpl;clear hpl hpp hp hq hL;obtain ⟨f,r1,r2,r3⟩:=ho;obtain ⟨ql,hqq⟩:∃ ql,ql=L.getD q []:=⟨_,rfl⟩;have hown:=r2 q (by omega);rw [<- hqq] at hown hsm;have c1:=r1.cell (i:=q) (by omega);have f1:=r1.frozen q;have hgl:=r1.lt;obtain ⟨v,hv⟩:∃ v,f q=v:=⟨_,rfl⟩;rw [hv] at c1 hown;obtain ⟨A1,cp1,rfl,hcp1⟩:=eV hown;have R1:=aG r1;have R2:=aG r2;have R3:=aG r3;have Hqq:=aG hqq;have Hv:=aG hv;have Hst:=aG hst;have Hlen:=aG hlen;clear r1 r2 r3 hqq hv hst hlen
      go_wp2_with (first
       | (go_at_call 94;refine Hpl.out.mono ?_;rintro e w2 ⟨rfl,rfl⟩)
       | (at_builtin;refine wpList_append_own_at _ rfl (.tmp 32) (.tmp 34) 87 rfl (w.heap.size+1) 3 i0 _ 1 8 Tryz.underlying87 hi0 hz0 hz1 hz2 rfl (by omega) _ ql.length _ rfl (hown.alloc _) ⟨wr.heap.size,0,none⟩ 1 1 [.int .i64 (k:Int)] rfl rfl (MK _ _ _) (MM _) (by unfold maxLen;omega) (by omega) (by simp;omega) ?_;intro v2 w2 hown2 hg2 _ hat;obtain ⟨A2,c2,rfl,_⟩:=eV hown2;have hb2:=(hb.alloc (by omega) (.cells #[.int .i64 (k:Int)] 3)).grown hg2 (by simp;omega) (fun j hj=>by have:=(World.ownsRow.lt hown j hj).1;omega);have hne:=C5 hown (g:=w.heap.size) (by omega);have hbk:w2.heap[w.heap.size]? = wr.heap[w.heap.size]?:=(hg2.block _ (by simp;omega) hne).trans (Below.heap_alloc wr _ _ hgl);have hcx:=(World.cell?_of_block (a:=⟨w.heap.size,q,none⟩) hbk).trans c1;have hfx:=(World.frozen?_of_block (a:=⟨w.heap.size,q,none⟩) hbk).trans f1))
      go_roundw
      case rel=>
       refine ⟨m+1,_,by omega,by go_num,Hst.out,?_,hb2.setCell (Os _) _⟩;exact fX.push (o:=.cells #[.int .i64 (k:Int)] 3) R1.out R2.out R3.out (by rw [Hlen.out];exact hql) Hv.out (by rw [<- Hqq.out];exact hown2) hg2 hat
      case measure=>simp [intOf];omega
     .have hpp:decide (0<=row.getD m 0 /\ row.getD m 0<(next.length:Int))=false:=Vu hp;rw [hpp] at hpl;have hst:=hL.skip (by rw [<- Hrw.out];exact hmlt) (by rw [<- Hrw.out];exact hp);have Hpl:=aG hpl;have Hst:=aG hst;clear hpl hpp hp hst hL;generalize row.getD m 0=y at *
      go_wp2_with (go_at_call 94;refine Hpl.out.mono ?_;rintro e w2 ⟨rfl,rfl⟩)
      go_roundw
      case rel=>exact ⟨m+1,L,by omega,by go_num,Hst.out,ho,hb⟩
      case measure=>simp [intOf];omega
    .obtain rfl:m=row.length:=by omega
     rw [Hrw.out] at hL;have hL2:=hL.row (by rw [<- Hrw.out];exact hrow);have HL2:=aG hL2;clear hL hL2
     go_wp2_with fail
     go_roundw
     case rel=>exact ⟨k+1,L,by omega,by go_num,HL2.out,ho,hb⟩
     case measure=>simp [intOf];omega
  .obtain rfl:k=next.length:=by omega
   have HL:=aG hL;clear hL
   go_wp2_with fail
   go_ret
   exact ⟨rfl,L,HL.out,ho,hb⟩
end
section
theorem xC {L:List Bool} {i:Nat} (h:L.getD i false=true):i<L.length:=by
 rcases Vv i L.length with h1|h1
 .exact h1
 .rw [List.getD,Vs h1] at h;simp at h
theorem rQ:∀ (L:List Bool) (i:Nat),i<L.length -> L.getD i false=false -> cnt (L.set i true)=cnt L+1
 | [],i,h,_=>by simp at h
 | x :: L,0,_,h=>by
  have:x=false:=by simpa using h
  subst this;simp [cnt]
 | x :: L,i+1,h,h2=>by
  have:=rQ L i (by simpa using h) (by simpa using h2);unfold cnt at this ⊢;cases x<;>simp_all
theorem pt:∀ (L:List Bool) (i:Nat),i<L.length -> L.getD i false=true -> cnt (L.set i false)+1=cnt L
 | [],i,h,_=>by simp at h
 | x :: L,0,_,h=>by
  have:x=true:=by simpa using h
  subst this;simp [cnt]
 | x :: L,i+1,h,h2=>by
  have:=pt L i (by simpa using h) (by simpa using h2);unfold cnt at this ⊢;cases x<;>simp_all
theorem zO {next rows:List (List Int)} (h:cV next next.length 0 rows) {k:Nat} (hk:k<next.length) (i:Nat):(i:Int) ∈ rows.getD k [] ↔ i<next.length /\ ny next i k:=by
 rw [<- XG,h.count k hk i];unfold ny;constructor
 .intro h;split at h
  .rename_i hi;exact ⟨hi,XG.1 h,hk⟩
  .split at h
   .simp at h
   .simp at h
 .rintro ⟨hi,h2,_⟩;rw [Vn hi];exact XG.2 h2
theorem wa {next rows:List (List Int)} (h:cV next next.length 0 rows) {k m:Nat} (hk:k<next.length) (hm:m<(rows.getD k []).length):∃ i:Nat,(rows.getD k []).getD m 0=(i:Int) /\ i<next.length /\ ny next i k:=by
 have hmem:(rows.getD k []).getD m 0 ∈ rows.getD k []:=by rw [gw _ _ hm];exact Vf hm
 have hr:rows.getD k [] ∈ rows:=by
  have:k<rows.length:=by rw [h.len];exact hk
  rw [List.getD,f4 this];exact Vf this
 obtain ⟨i,hi,hin⟩:=h.only _ hr _ hmem;rw [hi] at hmem;exact ⟨i,hi,(zO h hk i).1 hmem⟩
structure WU (next:List (List Int)) (a b:List Bool) (ex:Nat -> Nat -> Prop) (L:List Bool) (F:List Int):Prop where
 len:L.length=next.length
 sound:∀ i,L.getD i false=true -> GC next a b i
 base:∀ i,i<next.length -> b.getD i false=true -> L.getD i false=true
 inW:∀ x ∈ F,∃ j:Nat,x=(j:Int) /\ L.getD j false=true
 closed:∀ k,L.getD k false=true -> (k:Int) ∈ F \/ ∀ i,i<next.length -> ny next i k -> a.getD i false=true -> L.getD i false=true \/ ex i k
 small:F.length<=cnt L
def FC:Nat -> Nat -> Prop:=fun _ _=>False
def si (row:List Int) (k0 m:Nat):Nat -> Nat -> Prop:=fun i k=>k=k0 /\ (i:Int) ∈ row.drop m
section
variable {next:List (List Int)} {a b:List Bool} {L:List Bool} {F:List Int} {rows:List (List Int)}
theorem WU.pop {W:List Int} {x:Int} (h:WU next a b FC L (W ++ [x])) (hB:cV next next.length 0 rows):∃ k0:Nat,x=(k0:Int) /\ k0<next.length /\ L.getD k0 false=true /\ WU next a b (si (rows.getD k0 []) k0 0) L W:=by
 obtain ⟨k0,rfl,hk0⟩:=h.inW x (by simp);have hkn:k0<next.length:=by rw [<- h.len];exact xC hk0
 refine ⟨k0,rfl,hkn,hk0,h.len,h.sound,h.base,fun y hy=>h.inW y (by simp [hy]),fun k hk=>?_,by have:=h.small;simp at this;omega⟩;rcases h.closed k hk with h1|h1
 .rcases Vp.1 h1 with h2 | h2
  .exact .inl h2
  .have:k=k0:=by simp at h2;omega
   subst this;exact .inr fun i hi he ha=>.inr ⟨rfl,by rw [List.drop_zero];exact (zO hB hkn i).2 ⟨hi,he⟩⟩
 .exact .inr fun i hi he ha=>(h1 i hi he ha).elim .inl (fun h=>h.elim)
theorem Ay {row:List Int} {m:Nat} (hm:m<row.length) {x:Int} (h:x ∈ row.drop m):x=row.getD m 0 \/ x ∈ row.drop (m+1):=by
 rw [WH hm] at h;rw [gw _ _ hm];exact V8.1 h
theorem WU.skip {row:List Int} {k0 m i:Nat} (h:WU next a b (si row k0 m) L F) (hm:m<row.length) (hi:row.getD m 0=(i:Int)) (hs:L.getD i false=true \/ a.getD i false=false):WU next a b (si row k0 (m+1)) L F:=by
 refine ⟨h.len,h.sound,h.base,h.inW,fun k hk=>?_,h.small⟩;rcases h.closed k hk with h1|h1
 .exact .inl h1
 .refine .inr fun j hj he ha=>?_;rcases h1 j hj he ha with h2|⟨h2,h3⟩
  .exact .inl h2
  .rcases Ay hm h3 with h4 | h4
   .rw [hi] at h4;have:j=i:=by omega
    subst this;rcases hs with h5|h5
    .exact .inl h5
    .rw [h5] at ha;simp at ha
   .exact .inr ⟨h2,h4⟩
theorem WU.push {row:List Int} {k0 m i:Nat} (h:WU next a b (si row k0 m) L F) (hm:m<row.length) (hi:row.getD m 0=(i:Int)) (hin:i<next.length) (he:ny next i k0) (hk0:L.getD k0 false=true) (hL:L.getD i false=false) (ha:a.getD i false=true) :
  WU next a b (si row k0 (m+1)) (L.set i true) (F ++ [(i:Int)]):=by
 have hil:i<L.length:=by rw [h.len];exact hin
 have hset:∀ j,L.getD j false=true -> (L.set i true).getD j false=true:=fun j hj=>by rw [bT _ _ _ hil];split;rfl;exact hj
 refine ⟨by rw [VS,h.len],fun j hj=>?_,fun j hj hb=>hset j (h.base j hj hb),fun x hx=>?_,fun k hk=>?_,by rw [rQ _ _ hil hL];have:=h.small;simp;omega⟩
 .rw [bT _ _ _ hil] at hj;split at hj
  .rename_i e;subst e;exact .step _ _ hin ha he (h.sound _ hk0)
  .exact h.sound j hj
 .rcases Vp.1 hx with h1 | h1
  .obtain ⟨j,h2,h3⟩:=h.inW x h1;exact ⟨j,h2,hset j h3⟩
  .simp at h1;exact ⟨i,h1,by rw [bT _ _ _ hil,Vn rfl]⟩
 .rw [bT _ _ _ hil] at hk;split at hk
  .rename_i e;subst e;exact .inl (by simp)
  .rcases h.closed k hk with h1 | h1
   .exact .inl (by simp [h1])
   .refine .inr fun j hj he2 ha2=>?_;rcases h1 j hj he2 ha2 with h2|⟨h2,h3⟩
    .exact .inl (hset j h2)
    .rcases Ay hm h3 with h4 | h4
     .rw [hi] at h4;have:j=i:=by omega
      subst this;exact .inl (by rw [bT _ _ _ hil,Vn rfl])
     .exact .inr ⟨h2,h4⟩
theorem WU.close {row:List Int} {k0 m:Nat} (h:WU next a b (si row k0 m) L F) (hm:row.length<=m):WU next a b FC L F:=by
 refine ⟨h.len,h.sound,h.base,h.inW,fun k hk=>?_,h.small⟩;rcases h.closed k hk with h1|h1
 .exact .inl h1
 .refine .inr fun j hj he ha=>?_;rcases h1 j hj he ha with h2|⟨h2,h3⟩
  .exact .inl h2
  .rw [List.drop_eq_nil_of_le hm] at h3;simp at h3
theorem WU.done (h:WU next a b FC L []):L=t7 next a b:=by
 refine lX (by rw [h.len,df]) fun i _=>?_;rw [xM];refine ⟨h.sound i,EX next a b L (fun i hi hh=>?_) i⟩;rcases hh with h1|⟨h1,k,h2,h3⟩
 .exact h.base i hi h1
 .rcases h.closed k h3 with h4 | h4
  .simp at h4
  .exact (h4 i hi h2 h1).elim id (fun h=>h.elim)
theorem WU.cnt {ex:Nat -> Nat -> Prop} (h:WU next a b ex L F):cnt L<=next.length:=by rw [<- h.len];exact xl L
structure IU (next:List (List Int)) (b:List Bool) (i:Nat) (L:List Bool) (F:List Int):Prop where
 len:L.length=next.length
 sound:∀ j,L.getD j false=true -> j<i /\ j<next.length /\ b.getD j false=true
 base:∀ j,j<i -> b.getD j false=true -> L.getD j false=true
 inW:∀ x ∈ F,∃ j:Nat,x=(j:Int) /\ L.getD j false=true
 all:∀ k,L.getD k false=true -> (k:Int) ∈ F
 small:F.length<=cnt L
theorem IU.start (next:List (List Int)) (b:List Bool):IU next b 0 (List.replicate next.length false) []:=by
 refine ⟨by simp,fun j hj=>?_,fun j hj=>by omega,fun x hx=>by simp at hx,fun k hk=>?_,by simp⟩
 .rw [o0] at hj;simp at hj
 .rw [o0] at hk;simp at hk
theorem IU.skip {i:Nat} (h:IU next b i L F) (hb:b.getD i false=false):IU next b (i+1) L F:=by
 refine ⟨h.len,fun j hj=>?_,fun j hj hb2=>?_,h.inW,h.all,h.small⟩
 .have:=h.sound j hj;exact ⟨by omega,this.2⟩
 .by_cases e:j=i
  .subst e;rw [hb] at hb2;simp at hb2
  .exact h.base j (by omega) hb2
theorem IU.push {i:Nat} (h:IU next b i L F) (hi:i<next.length) (hb:b.getD i false=true):IU next b (i+1) (L.set i true) (F ++ [(i:Int)]):=by
 have hil:i<L.length:=by rw [h.len];exact hi
 have hL:L.getD i false=false:=by
  cases h2:L.getD i false with
  | false=>rfl
  | true=>have:=(h.sound i h2).1;omega
 refine ⟨by rw [VS,h.len],fun j hj=>?_,fun j hj hb2=>?_,fun x hx=>?_,fun k hk=>?_,by rw [rQ _ _ hil hL];have:=h.small;simp;omega⟩
 .rw [bT _ _ _ hil] at hj;split at hj
  .rename_i e;subst e;exact ⟨by omega,hi,hb⟩
  .have:=h.sound j hj;exact ⟨by omega,this.2⟩
 .rw [bT _ _ _ hil];split
  .rfl
  .exact h.base j (by omega) hb2
 .rcases Vp.1 hx with h1 | h1
  .obtain ⟨j,h2,h3⟩:=h.inW x h1;exact ⟨j,h2,by rw [bT _ _ _ hil];split;rfl;exact h3⟩
  .simp at h1;exact ⟨i,h1,by rw [bT _ _ _ hil,Vn rfl]⟩
 .rw [bT _ _ _ hil] at hk;split at hk
  .rename_i e;subst e;simp
  .have:=h.all k hk;simp [this]
theorem IU.done (h:IU next b next.length L F):WU next a b FC L F:=
 ⟨h.len,fun i hi=>.here i (h.sound i hi).2.1 (h.sound i hi).2.2,fun i hi hb=>h.base i hi hb,h.inW,fun k hk=>.inl (h.all k hk),h.small⟩
end
def Kp (S:Nat -> Prop) (w w':World):Prop:=∀ p:Addr,S p.block -> w'.cell? p=w.cell? p
theorem Kp.refl (S:Nat -> Prop) (w:World):Kp S w w:=fun _ _=>rfl
theorem Kp.trans {S:Nat -> Prop} {w w' w'':World} (h:Kp S w w') (k:Kp S w' w''):Kp S w w'':=fun p hp=>(k p hp).trans (h p hp)
theorem Kp.set {S:Nat -> Prop} (w:World) (p:Addr) (u:Value) (hp:¬ S p.block):Kp S w (w.setCell p u):=fun q hq=>World.cell?_of_block (Below.heap_setCell w p u q.block (fun e=>hp (e ▸ hq)))
theorem Kp.below {S:Nat -> Prop} {w w':World} {B:Nat} (h:Below B w w') (hS:∀ b,S b -> b<B):Kp S w w':=fun p hp=>h.cell (hS _ hp)
def SB (lo hi:Nat):Nat -> Prop:=fun b=>lo<=b /\ b<hi
structure sq (w:World) (lo gs:Nat) (va:Value) (rows:List (List Int)) (wx:World) (L:List Bool) (F:List Int):Prop where
 lo1:w.heap.size<lo
 lo2:lo<=gs
 gsl:gs<wx.heap.size
 out:OB wx w.heap.size (.slice (some ⟨w.heap.size,0,none⟩) L.length L.length) L
 stack:iM wx gs F
 rows:(aF (aF (eh .i64))).one wx (SB lo gs) va rows
 below:Below w.heap.size w wx
theorem sq.set {w wx:World} {lo gs:Nat} {va:Value} {rows:List (List Int)} {L:List Bool} {F:List Int} (h:sq w lo gs va rows wx L F) (k:Nat) (x:Bool):sq w lo gs va rows (wx.setCell ⟨w.heap.size,k,none⟩ (.bool x)) (L.set k x) F:=by
 have:=h.lo1;have:=h.lo2;refine ⟨h.lo1,h.lo2,by simpa using h.gsl,by rw [VS];exact h.out.set k x,h.stack.far (by simp;omega) _,gP h.rows (Kp.set _ _ _ (fun hs=>by have:=hs.1;simp at this;omega)),h.below.setCell (Os _) _⟩
end
section
theorem MG {next rows:List (List Int)} (h:cV next next.length 0 rows) (hl:next.length<=200):∀ r ∈ rows,∀ x ∈ r,-9223372036854775808<=x /\ x<=9223372036854775807:=fun r hr x hx=>by
 obtain ⟨i,rfl,hi⟩:=h.only r hr x hx;omega
theorem sq.start {w w0 w1:World} {n lo:Nat} {L:List Bool} {rows:List (List Int)} (ho:OB w0 w.heap.size (.slice (some ⟨w.heap.size,0,none⟩) n n) L) (hn:n=L.length) (hb0:Below w.heap.size w w0) (hor:fX w1 lo rows) (hlo:w0.heap.size<=lo) (hlw:w.heap.size<lo) (hb1:Below w0.heap.size w0 w1)
  (hx:∀ r ∈ rows,∀ x ∈ r,-9223372036854775808<=x /\ x<=9223372036854775807) (hl:rows.length<=9223372036854775807) :
  sq w lo w1.heap.size (.slice (some ⟨lo,0,none⟩) rows.length rows.length) rows (w1.alloc (.cells #[.slice none 0 0] 176)) L []:=by
 subst hn
 have hlt:lo<w1.heap.size:=by
  obtain ⟨f,h1,_⟩:=hor;exact h1.lt
 refine ⟨hlw,by omega,by simp,(ho.below hb1).below (Below.refl _ _ |>.alloc (Os _) _),iM.new _,?_,(hb0.trans (hb1.mono hb0.size)).alloc (Vz hb0.size hb1.size) _⟩;exact gP (hor.read hx hl) (Kp.below ((Below.refl w1.heap.size w1).alloc (Os _) _) fun b hb=>hb.2)
theorem sq.row {w wx:World} {lo gs n:Nat} {rows:List (List Int)} {L:List Bool} {F:List Int} (h:sq w lo gs (.slice (some ⟨lo,0,none⟩) n n) rows wx L F) {k:Nat} (hk:k<rows.length) :
  ∃ A' c',wx.cell? ⟨lo,k,none⟩=some (.slice A' (rows.getD k []).length c') /\ (rows.getD k []).length<=c' /\ c'<=9223372036854775807 /\ (aF (eh .i64)).one wx (SB lo gs) (.slice A' (rows.getD k []).length c') (rows.getD k []):=by
 have:=DQ h.rows hk;rw [List.getD,f4 hk];simpa using this
end
section
def d9:Nat -> (Nat -> Nat) -> Nat
 | 0,_=>0
 | n+1,f=>d9 n f+f n
theorem kM:∀ (n:Nat) {f g:Nat -> Nat},(∀ i,i<n -> f i=g i) -> d9 n f=d9 n g
 | 0,_,_,_=>rfl
 | n+1,f,g,h=>by rw [d9,d9,kM n (fun i hi=>h i (by omega)),h n (by omega)]
theorem vw:∀ (n:Nat) {f g:Nat -> Nat} (i0:Nat),i0<n -> (∀ i,i<n -> i ≠ i0 -> f i=g i) -> d9 n f+g i0=d9 n g+f i0
 | 0,_,_,i0,h,_=>by omega
 | n+1,f,g,i0,h,hh=>by
  rw [d9,d9];by_cases e:i0=n
  .subst e;rw [kM i0 (f:=f) (g:=g) (fun i hi=>hh i (by omega) (by omega))];omega
  .have:=vw n (f:=f) (g:=g) i0 (by omega) (fun i hi=>hh i (by omega));have:=hh n (by omega) (fun h=>e h.symm);omega
theorem vz:∀ (n:Nat) {f:Nat -> Nat},d9 n f ≠ 0 -> ∃ i,i<n /\ f i ≠ 0
 | 0,f,h=>absurd rfl h
 | n+1,f,h=>by
  rw [d9] at h;by_cases e:f n=0
  .obtain ⟨i,h1,h2⟩:=vz n (f:=f) (by omega);exact ⟨i,by omega,h2⟩
  .exact ⟨n,by omega,e⟩
theorem vj:∀ (n:Nat) (f:Nat -> Nat) (i:Nat),i<n -> f i<=d9 n f
 | 0,f,i,h=>by omega
 | n+1,f,i,h=>by
  rw [d9];by_cases e:i=n
  .subst e;omega
  .have:=vj n f i (by omega);omega
theorem yg:∀ (n:Nat) {f:Nat -> Nat} (B:Nat),(∀ i,i<n -> f i<=B) -> d9 n f<=n * B
 | 0,_,B,_=>by simp [d9]
 | n+1,f,B,h=>by
  rw [d9,Xh];have:=yg n B (fun i hi=>h i (by omega));have:=h n (by omega);omega
def cE (next:List (List Int)) (k i:Nat):Nat:=(next.getD k []).count (i:Int)
theorem TI {next:List (List Int)} (hr:∀ r ∈ next,r.length<=4000) (k i:Nat):cE next k i<=4000:=by
 unfold cE;refine Vz List.count_le_length ?_;rcases Vv k next.length with h|h
 .rw [List.getD,f4 h];exact hr _ (Vf h)
 .rw [List.getD,Vs h];simp
theorem tF {next rows:List (List Int)} (h:cV next next.length 0 rows) {i k:Nat} (hi:i<next.length) (hk:k<next.length):(rows.getD i []).count (k:Int)=cE next k i:=by
 rw [h.count i hi k,Vn hk];rfl
theorem lz (l:List Int) (k:Nat) (x:Int) (h:k<l.length) (j:Nat):(l.set k x).getD j 0=if j=k then x else l.getD j 0:=by
 simp only [List.getD,Wz];by_cases e:j=k
 .subst e;simp [h]
 .rw [Vh (fun h=>e h.symm),Vh e]
structure A7 (next rows:List (List Int)) (L:List Bool) (i m:Nat) (lf:List Int):Prop where
 len:lf.length=next.length
 val:∀ k,k<next.length -> lf.getD k 0=((d9 i (fun j=>if L.getD j false=true then cE next k j else 0)+(if L.getD i false=true then ((rows.getD i []).take m).count (k:Int) else 0):Nat):Int)
 small:∀ k,0<=lf.getD k 0 /\ lf.getD k 0<=800000 * i+m
theorem uQ (n j:Nat):(List.replicate n (0:Int)).getD j 0=0:=by
 rw [List.getD,W9];split<;>rfl
section
variable {next rows:List (List Int)} {L:List Bool} {lf:List Int}
theorem A7.start (next rows:List (List Int)) (L:List Bool):A7 next rows L 0 0 (List.replicate next.length 0):=
 ⟨by simp,fun k hk=>by rw [uQ];simp [d9],fun k=>by rw [uQ];simp⟩
theorem A7.skip {i m:Nat} (h:A7 next rows L i m lf) (hL:L.getD i false=false):A7 next rows L i (m+1) lf:=
 ⟨h.len,fun k hk=>by rw [h.val k hk,hL];simp,fun k=>by have:=h.small k;omega⟩
theorem A7.add {i m q:Nat} (h:A7 next rows L i m lf) (hL:L.getD i false=true) (hm:m<(rows.getD i []).length) (hq:(rows.getD i []).getD m 0=(q:Int)) (hqn:q<next.length):A7 next rows L i (m+1) (lf.set q (lf.getD q 0+1)):=by
 have hql:q<lf.length:=by rw [h.len];exact hqn
 rw [gw _ _ hm] at hq;refine ⟨by rw [VS,h.len],fun k hk=>?_,fun k=>?_⟩
 .rw [lz _ _ _ hql,Vk hm,List.count_append,Xs,hq];have:=h.val k hk;have hv:=h.val q hqn;rw [Vn hL] at this hv ⊢;by_cases e:k=q
  .subst e;rw [Vn rfl,this];simp;omega
  .have e2:((q:Int) == (k:Int))=false:=by simp;omega
   rw [Vh e,this,e2];simp
 .rw [lz _ _ _ hql];split
  .have:=h.small q;omega
  .have:=h.small k;omega
theorem A7.row {i:Nat} (h:A7 next rows L i (rows.getD i []).length lf) (hB:cV next next.length 0 rows) (hi:i<next.length) (hr:(rows.getD i []).length<=800000):A7 next rows L (i+1) 0 lf:=by
 refine ⟨h.len,fun k hk=>?_,fun k=>by have:=h.small k;omega⟩;rw [h.val k hk,Vq,d9,tF hB hi hk];simp
end
def al (L:List Bool) (F:List Int) (i:Nat):Bool:=L.getD i false || decide ((i:Int) ∈ F)
def wj (next:List (List Int)) (L:List Bool) (F:List Int) (k:Nat):Nat:=d9 next.length (fun i=>if al L F i=true then cE next k i else 0)
structure GU (next:List (List Int)) (a:List Bool) (q:Nat -> Prop) (ex:Nat -> Nat) (L:List Bool) (F:List Int) (lf:List Int):Prop where
 len:L.length=next.length
 lenF:lf.length=next.length
 nodup:F.Nodup
 inW:∀ x ∈ F,∃ j:Nat,x=(j:Int) /\ j<next.length /\ L.getD j false=false
 inA:∀ j,L.getD j false=true -> a.getD j false=true
 sup:∀ j,JT next a j -> L.getD j false=true
 val:∀ k,k<next.length -> lf.getD k 0=((wj next L F k+ex k:Nat):Int)
 pos:∀ k,k<next.length -> ¬ q k -> L.getD k false=true -> lf.getD k 0 ≠ 0
 small:F.length+cnt L<=next.length
def Dv:Nat -> Prop:=fun _=>False
def Hg:Nat -> Nat:=fun _=>0
section
variable {next rows:List (List Int)} {a:List Bool} {q q':Nat -> Prop} {ex:Nat -> Nat} {L:List Bool} {F:List Int} {lf:List Int}
theorem GU.settle (h:GU next a q ex L F lf) (k:Nat) (hq:∀ j,q j -> j=k \/ q' j) (hk:¬ (L.getD k false=true /\ lf.getD k 0=0)):GU next a q' ex L F lf:=
 ⟨h.len,h.lenF,h.nodup,h.inW,h.inA,h.sup,h.val,fun j hj hnq hL=>by
  by_cases e:q j
  .rcases hq j e with rfl | h2
   .exact fun h0=>hk ⟨hL,h0⟩
   .exact absurd h2 hnq
  .exact h.pos j hj e hL,h.small⟩
theorem GU.take (h:GU next a q ex L F lf) (k:Nat) (hq:∀ j,q j -> j=k \/ q' j) (hk:L.getD k false=true) (h0:lf.getD k 0=0):GU next a q' ex (L.set k false) (F ++ [(k:Int)]) lf:=by
 have hkl:=xC hk;have hkn:k<next.length:=by rw [<- h.len];exact hkl
 have hal:∀ i,al (L.set k false) (F ++ [(k:Int)]) i=al L F i:=fun i=>by
  unfold al;rw [bT _ _ _ hkl];by_cases e:i=k
  .subst e;rw [Vn rfl,hk];simp
  .have e2:((i:Int) ∈ F ++ [(k:Int)]) ↔ (i:Int) ∈ F:=by simp;omega
   rw [Vh e,decide_eq_decide.2 e2]
 have hsum:∀ j,wj next (L.set k false) (F ++ [(k:Int)]) j=wj next L F j:=fun j=>kM _ fun i _=>by rw [hal]
 have hz:wj next L F k=0:=by have:=h.val k hkn;omega
 have hnot:¬ JT next a k:=by
  rintro ⟨S,h1,h2⟩;obtain ⟨_,_,k',he,hs⟩:=h2 k h1;have hE:JT next a k':=⟨S,hs,h2⟩;have hL:=h.sup k' hE;have:=vj next.length (fun i=>if al L F i=true then cE next k i else 0) k' he.2;have hal2:al L F k'=true:=by unfold al;rw [hL];rfl
  have hc:0<cE next k k':=XG.2 he.1;unfold wj at hz;simp only [hal2,if_true] at this;omega
 have hkF:(k:Int) ∉ F:=fun hm=>by
  obtain ⟨j,h1,_,h3⟩:=h.inW _ hm;have:j=k:=by omega
  subst this;rw [hk] at h3;simp at h3
 refine ⟨by rw [VS,h.len],h.lenF,?_,fun x hx=>?_,fun j hj=>?_,fun j hj=>?_,fun j hj=>by rw [hsum];exact h.val j hj,fun j hj hnq hL=>?_,?_⟩
 .rw [Xp];refine ⟨h.nodup,by simp,fun x hx y hy=>?_⟩;simp at hy;subst hy;exact fun e=>hkF (e ▸ hx)
 .rcases Vp.1 hx with h1 | h1
  .obtain ⟨j,h2,h3,h4⟩:=h.inW x h1;refine ⟨j,h2,h3,?_⟩;rw [bT _ _ _ hkl];split;rfl;exact h4
  .simp at h1;exact ⟨k,h1,hkn,by rw [bT _ _ _ hkl,Vn rfl]⟩
 .rw [bT _ _ _ hkl] at hj;split at hj
  .simp at hj
  .exact h.inA j hj
 .rw [bT _ _ _ hkl];split
  .rename_i e;subst e;exact absurd hj hnot
  .exact h.sup j hj
 .rw [bT _ _ _ hkl] at hL;split at hL
  .simp at hL
  .rename_i e;refine h.pos j hj (fun hqj=>?_) hL;rcases hq j hqj with h2|h2
   .exact e h2
   .exact hnq h2
 .have:=pt L k hkl hk;have:=h.small;simp;omega
theorem GU.pop {W:List Int} {x:Int} (h:GU next a Dv Hg L (W ++ [x]) lf) (hB:cV next next.length 0 rows):∃ i0:Nat,x=(i0:Int) /\ i0<next.length /\ GU next a Dv (fun k=>((rows.getD i0 []).drop 0).count (k:Int)) L W lf:=by
 obtain ⟨i0,rfl,hi0,hL0⟩:=h.inW x (by simp);have hnd:=h.nodup;rw [Xp] at hnd;have hni:(i0:Int) ∉ W:=fun hm=>hnd.2.2 _ hm _ (by simp) rfl;refine ⟨i0,rfl,hi0,h.len,h.lenF,hnd.1,fun y hy=>h.inW y (by simp [hy]),h.inA,h.sup,fun k hk=>?_,h.pos,by have:=h.small;simp at this;omega⟩;rw [h.val k hk,List.drop_zero,tF hB hi0 hk]
 have hu:=vw next.length (f:=fun i=>if al L (W ++ [(i0:Int)]) i=true then cE next k i else 0) (g:=fun i=>if al L W i=true then cE next k i else 0) i0 hi0 (fun i _ hne=>by
  have:al L (W ++ [(i0:Int)]) i=al L W i:=by
   unfold al;have e2:((i:Int) ∈ W ++ [(i0:Int)]) ↔ (i:Int) ∈ W:=by simp;omega
   rw [decide_eq_decide.2 e2]
  rw [this])
 have h1:al L (W ++ [(i0:Int)]) i0=true:=by unfold al;simp
 have h2:al L W i0=false:=by unfold al;rw [hL0];simp [hni]
 simp only [h1,h2,if_true] at hu;unfold wj Hg;simp at hu ⊢;omega
theorem GU.dec {row:List Int} {m k:Nat} (h:GU next a Dv (fun k=>(row.drop m).count (k:Int)) L F lf) (hm:m<row.length) (hk:row.getD m 0=(k:Int)) (hkn:k<next.length) :
  GU next a (fun j=>j=k) (fun k=>(row.drop (m+1)).count (k:Int)) L F (lf.set k (lf.getD k 0 - 1)):=by
 have hkl:k<lf.length:=by rw [h.lenF];exact hkn
 rw [gw _ _ hm] at hk;refine ⟨h.len,by rw [VS,h.lenF],h.nodup,h.inW,h.inA,h.sup,fun j hj=>?_,fun j hj hne hL=>?_,h.small⟩
 .have hv:=h.val j hj;have hvk:=h.val k hkn;rw [lz _ _ _ hkl];rw [WH hm,List.count_cons,hk] at hv hvk;by_cases e:j=k
  .subst e;rw [Vn rfl];simp at hv ⊢;omega
  .have e2:((k:Int) == (j:Int))=false:=by simp;omega
   rw [Vh e,hv,e2];simp
 .rw [lz _ _ _ hkl,Vh hne];exact h.pos j hj (fun h=>h) hL
theorem GU.bound (h:GU next a q ex L F lf) (hl:next.length<=200) (hr:∀ r ∈ next,r.length<=4000) (hx:∀ k,ex k<=800000) (k:Nat):0<=lf.getD k 0 /\ lf.getD k 0<=1600000:=by
 rcases Vv k next.length with hk|hk
 .have:=h.val k hk
  have h2:wj next L F k<=next.length * 4000:=yg _ _ fun i _=>by
   split
   .exact TI hr k i
   .omega
  have:=hx k;omega
 .rw [List.getD,Vs (by rw [h.lenF];exact hk)];simp
theorem GU.close {row:List Int} {m:Nat} (h:GU next a Dv (fun k=>(row.drop m).count (k:Int)) L F lf) (hm:row.length<=m):GU next a Dv Hg L F lf:=
 ⟨h.len,h.lenF,h.nodup,h.inW,h.inA,h.sup,fun k hk=>by rw [h.val k hk,List.drop_eq_nil_of_le hm];simp [Hg],h.pos,h.small⟩
theorem GU.done (h:GU next a Dv Hg L [] lf):L=He next a:=by
 refine lX (by rw [h.len,dI]) fun i _=>?_;rw [Cm];refine ⟨Ft next a L (fun i hi=>?_) i,h.sup i⟩;have hin:i<next.length:=by rw [<- h.len];exact xC hi
 refine ⟨hin,h.inA i hi,?_⟩;have h1:=h.val i hin;have h2:=h.pos i hin (fun h=>h) hi;obtain ⟨k,hk,hk2⟩:=vz next.length (f:=fun j=>if al L [] j=true then cE next i j else 0) (by unfold wj Hg at h1;omega)
 have hak:al L [] k=true:=by
  cases e:al L [] k with
  | true=>rfl
  | false=>rw [e] at hk2;simp at hk2
 simp only [hak,if_true] at hk2;refine ⟨k,⟨XG.1 (Nat.pos_of_ne_zero hk2),hk⟩,?_⟩;unfold al at hak;simpa using hak
theorem GU.start (hB:cV next next.length 0 rows) (h:A7 next rows (Lf next a 0) next.length 0 lf):GU next a (fun j=>0<=j) Hg (Lf next a 0) [] lf:=by
 refine ⟨m9 _ _ _,h.len,by simp,fun x hx=>by simp at hx,fun j hj=>((tX next a j).1 hj).2,w6 next a 0,fun k hk=>?_,fun k _ hq=>absurd (Vg _) hq,?_⟩
 .rw [h.val k hk];unfold wj Hg al;simp
 .have:=xl (Lf next a 0);rw [m9] at this;simpa using this
end
def OI (w:World) (base:Nat) (v:Value) (l:List Int):Prop:=w.ownsRow base 3 1 v l.length (l.map (Value.int .i64))
theorem OI.made (w:World) (n:Nat) (hn:n<=9223372036854775807):OI (w.alloc (.cells (madeCells #[.int .i64 0] n) 3)) w.heap.size (.slice (some ⟨w.heap.size,0,none⟩) n n) (List.replicate n 0):=by
 have:=World.ownsRow_lit (e:=3) (size:=1) (base:=w.heap.size) w (madeCells #[.int .i64 0] n) n (Os _) (by simpa [maxLen] using hn) (by rw [size_madeCells,Nat.mul_one]);rw [toList_madeCells_one] at this;unfold OI;rw [List.length_replicate,List.map_replicate];exact this
theorem OI.len {w:World} {base g n c:Nat} {l:List Int} (h:OI w base (.slice (some ⟨g,0,none⟩) n c) l):n=l.length:=by
 obtain ⟨A,c',e,_⟩:=eV h;cases e;rfl
theorem OI.cell {w:World} {base g n c:Nat} {l:List Int} (h:OI w base (.slice (some ⟨g,0,none⟩) n c) l) {k:Nat} (hk:k<l.length):w.cell? ⟨g,k,none⟩=some (.int .i64 (l.getD k 0)):=by
 have hn:=h.len;subst hn;refine iq h rfl ?_;rw [Ve,List.getD,f4 hk];rfl
theorem OI.frozen {w:World} {base g n c:Nat} {l:List Int} (h:OI w base (.slice (some ⟨g,0,none⟩) n c) l) (k:Nat):w.frozen? ⟨g,k,none⟩=false:=by
 have hn:=h.len;subst hn;exact World.ownsRow.frozenAt h k
theorem OI.set {w:World} {base g n c:Nat} {l:List Int} (h:OI w base (.slice (some ⟨g,0,none⟩) n c) l) (k:Nat) (x:Int):OI (w.setCell ⟨g,k,none⟩ (.int .i64 x)) base (.slice (some ⟨g,0,none⟩) n c) (l.set k x):=by
 have hn:=h.len;subst hn;have:=(World.ownsRow.stored h k (.int .i64 x)).1;unfold OI;rw [VS,WK];exact this
structure US (w:World) (hi:Nat) (va:Value) (rows:List (List Int)) (wx:World) (L:List Bool) (lf:List Int):Prop where
 hi1:w.heap.size+2<=hi
 hi2:hi<=wx.heap.size
 out:OB wx w.heap.size (.slice (some ⟨w.heap.size,0,none⟩) L.length L.length) L
 left:OI wx (w.heap.size+1) (.slice (some ⟨w.heap.size+1,0,none⟩) lf.length lf.length) lf
 rows:(aF (aF (eh .i64))).one wx (SB (w.heap.size+2) hi) va rows
 below:Below w.heap.size w wx
section
variable {w wx w':World} {hi:Nat} {va:Value} {rows:List (List Int)} {L:List Bool} {F F':List Int} {lf:List Int}
theorem US.set (h:US w hi va rows wx L lf) (k:Nat) (x:Bool):US w hi va rows (wx.setCell ⟨w.heap.size,k,none⟩ (.bool x)) (L.set k x) lf:=by
 have:=h.hi1;exact ⟨h.hi1,by simpa using h.hi2,by rw [VS];exact h.out.set k x,kP h.left (by simp) _,gP h.rows (Kp.set _ _ _ (fun hs=>by have:=hs.1;simp at this<;>omega)),h.below.setCell (Os _) _⟩
end
end
section
theorem OH {w:World} {S:Nat -> Prop} {v:Value} {l:List (List Int)} (h:RT w S v (lZ l)) (hS:Es w S) (hl:∀ r ∈ l,∀ x ∈ r,aI x):RR w v l:=by
 obtain ⟨A,cap,rfl,hc,hm,_,hA⟩:=h.sl_inv;refine ⟨A,cap,by simp,by simpa using hc,hm,fun h0=>?_⟩;obtain ⟨b,o,rfl,hb,U,hcell,hr,_⟩:=hA (by simpa using h0);refine ⟨b,o,rfl,hS b hb,fun i hi=>?_⟩;have h1:(Cy l)[i]? = some [sI l[i]]:=by simp [hi]
 have h2:=hcell i 0 _ _ h1 rfl;have h3:=xU (hr i 0 _ _ h1 rfl) hS (hl _ (Vf hi));obtain ⟨A',c',h4,h5⟩:=h3;refine ⟨[U i 0],fun j u hu=>?_,A',c',by rw [h4],h5⟩
 cases j with
 | zero=>
  simp at hu;subst hu;simpa [aF] using h2
 | succ j=>simp at hu
theorem Ks:qd (aF (eh .i64)) (fun l=>[sI l]):=fun w S cs l h=>by
 obtain ⟨A,c,rfl,h1,h2,h3⟩:=h;refine ⟨rfl,fun j u av h4 h5=>?_⟩
 match j with
 | 0=>
  simp at h4 h5;subst h4;subst h5;exact ⟨tK.slice ⟨A,c,rfl,h1,h2,h3⟩,rfl⟩
 | j+1=>simp at h4
theorem Hm (next:List (List Int)) (hx:xb next):dt Tryz.prog 95 [lZ next] fun R=>∃ rows,cV next next.length 0 rows /\ R=⟨lZ rows,[],0⟩:=
 ⟨fb Tryz.func95 rfl (by decide),fun S w vs hS hn hv=>by
  obtain ⟨a,rfl⟩:=So hn;refine (II next a w hx.len hx.row (OH (hv 0 a _ rfl rfl) hS hx.ok)).mono ?_;rintro e w' ⟨rfl,rows,hB,hO,hb⟩;have hlen:rows.length=next.length:=hB.len;have h5:=hO.read (MG hB hx.len) (by have:=hx.len;omega);rw [hlen] at h5;refine ⟨_,fun _=>undef,⟨lZ rows,[],0⟩,⟨rows,hB,rfl⟩,⟨fun id o h=>(by cases h),by simp [AV.lt]⟩,rfl,⟨jQ hb,fun id o h=>(by cases h),fun id id' o o' g h=>(by cases h),fun b hb=>hb.elim⟩,.tree ?_⟩;exact (Ks.slice h5).mono (fun _ _=>rfl) fun b hb=>⟨hb.2,⟨.inr hb.1,fun hX=>hX⟩,fun id o h=>(by cases h)⟩⟩
abbrev oW (r:List Int):aE:=.row 3 1 (r.map fun n=>[eI n])
def DA (st:aj):Nat:=match st.tab.get 0 with | some (.row _ _ rows)=>rows.countP (fun r=>match r with | [.c (.bool b)]=>b | _=>false) | _=>0
def O2 (st:aj):Nat:=match st.tab.get 2 with | some (.row _ _ rows)=>rows.length | _=>0
def TA (st:aj):Nat:=match st.get 12 with | .c (.bool true)=>1 | _=>0
def P1 (n:Nat) (st:aj):Nat:=2 * (n - DA st)+O2 st+TA st
theorem zt (L:List Bool):(iA L).countP (fun r=>match r with | [.c (.bool b)]=>b | _=>false)=cnt L:=by
 unfold cnt;rw [List.countP_map,List.countP_eq_length_filter];rfl
theorem o8 {n N:Nat} {a0 a1 a2 a7 a8 a9:AV} {x:Int} {o:Bool} {L:List Bool} {W:List Int} {ob:Option aE} {t:TypeId} (hN:12<N):P1 n ⟨N,[(0,a0),(1,a1),(2,a2),(7,a7),(8,a8),(9,a9),(11,eI x),(12,eB o)],[(0,some (.row t 1 (iA L))),(1,ob),(2,some (oW W))],3⟩=2 * (n - cnt L)+W.length+(if o=true then 1 else 0):=by
 have h:=zt L;cases o<;>simp only [P1,DA,O2,TA,ae.gc,aj.get,bh,h,hN,Vo,↓reduceIte,Nat.reduceEqDiff,reduceCtorEq,VL]
def T4 (next:List (List Int)) (a b:List Bool) (o:Bool) (x:Int) (L:List Bool) (W:List Int):Prop:=(o=false /\ W=[] /\ WU next a b FC L []) \/ (o=true /\ WU next a b FC L (W ++ [x]))
theorem UV (next:List (List Int)) (a b:List Bool) (hx:xb next) (ha:a.length<=1000000) (hb:b.length<=1000000):aw Tryz.prog 46 [lZ next,ji a,ji b] (iZ 4 1 (iA (t7 next a b))):=by
 refine aa ag Tryz.func46 rfl (by decide) Tryz.ntmps46 Tryz.results46 rfl (cT _ _ _) ?_;have hnl:=hx.len;have hF0:iA (List.replicate next.length false)=List.replicate next.length [eB false]:=by simp
 repeat' first|refine go ?_|decide|refine sp ?_ ?_<;>intro _
 refine ⟨⟨by omega,by omega⟩,?_⟩;refine tw (Hm next hx) ?_;rintro R ⟨rows,hB,rfl⟩;refine ⟨ro,?_⟩;have hrl:rows.length=next.length:=hB.len
 repeat' first|refine ge @aB ?_|decide|refine sp ?_ ?_<;>intro _
 refine af (fun st=>∃ (k:Nat) (L:List Bool) (F:List Int),k<=next.length /\ IU next b k L F /\ st=⟨69,[(0,lZ next),(1,ji a),(2,ji b),(7,.osl 0),(8,lZ rows),(9,.op 1 0 0),(21,eI (next.length:Int)),(22,eI (k:Int))],[(0,some (.row 4 1 (iA L))),(1,some (.box 176 [.osl 2])),(2,some (oW F))],3⟩) (fun st=>next.length - ax st 22)
  ⟨_,((ct 1 0 3 1 (t:=176) (cells:=[.c (.slice none 0 0)]) (by simp [ae.gc]) rfl).trans (wE (kf @WC hF0))),0,_,[],Vg _,IU.start next b,rfl⟩ ?_
 .rintro _ ⟨k,L,F,hk,hI,rfl⟩;have hLl:=hI.len;have hFl:F.length<=200:=by have:=hI.small;have:=xl L;omega
  by_cases hlt:k<next.length
  .have hIb:=uS b (k:Int) (by omega);rw [jz] at hIb
   cases hbk:b.getD k false with
   | false=>
    rw [hbk] at hIb;have hI2:=hI.skip hbk
    repeat' first|refine gf @hlt ?_|decide|refine sp ?_ ?_<;>intro _|refine cA hIb ?_|fail
    all_goals exact rI wC ⟨k+1,L,F,by omega,hI2,rfl⟩
   | true=>
    rw [hbk] at hIb;have hI2:=hI.push hlt hbk;have hkl:k<L.length:=(by omega);have hset:=rx L k true;have hdr:List.drop 1 ((iA L)[k]?.getD [])=[]:=(by simp [hkl])
    repeat' first|refine gf (kf @hlt (kf @hkl (kf @hdr @hset))) ?_|decide|refine sp ?_ ?_<;>intro _|refine cA hIb ?_|fail
    refine lj ?_;refine cd ag Tryz.func96 rfl (by decide) Tryz.ntmps96 Tryz.results96 rfl (by kernel_rfl) [0,1,2,7,8,9,21,22] fun vs=>?_
    repeat' first|refine ge (kf @bL @bC) ?_|decide|refine sp ?_ ?_<;>intro _
    refine ⟨rfl,⟨by omega,by omega⟩,?_⟩
    repeat' first|refine go ?_|simp only [fP,fR,gz,bL,bC,aB,bG,bF,aE.shift,ca]|decide|refine sp ?_ ?_<;>intro _
    repeat' first|refine go ?_|decide|refine sp ?_ ?_<;>intro _
    have e1:(F ++ [(k:Int)]).map (fun n=>[eI n])=F.map (fun n=>[eI n]) ++ [[eI (k:Int)]]:=(by simp);all_goals exact rI (wS [3,4,8] e1) ⟨k+1,_,_,by omega,hI2,rfl⟩
  .obtain rfl:k=next.length:=by omega
   have hW:=hI.done (a:=a)
   repeat' first|refine ge @hlt ?_|decide|refine sp ?_ ?_<;>intro _
   have hF4:F.length<=200:=hFl;rcases ey F with rfl|⟨W,x,rfl⟩
   case' inl=>
    refine lj ?_;refine cd ag Tryz.func97 rfl (by decide) Tryz.ntmps97 Tryz.results97 rfl (by kernel_rfl) [0,1,2,7,8,9] fun vs=>?_;have hw:IntKind.i64.wrap (((0:Nat):Int) - 1) = -1:=(by decide);have hn:decide ((-1:Int)<0)=true:=rfl
    repeat' first|refine ge (kf @bL (kf @bC (kf hw hn))) ?_|decide|refine sp ?_ ?_<;>intro _
    repeat' first|refine go ?_|simp only [fP,fR,gz,bL,bC,aB,bG,bF,aE.shift,ca]|decide|refine sp ?_ ?_<;>intro _
    repeat' first|refine go ?_|decide|refine sp ?_ ?_<;>intro _
   case' inr=>
    have hFl:W.length+1<=200:=(by simpa using hF4);refine lj ?_;refine cd ag Tryz.func97 rfl (by decide) Tryz.ntmps97 Tryz.results97 rfl (by kernel_rfl) [0,1,2,7,8,9] fun vs=>?_;have hw:IntKind.i64.wrap ((W.length:Int)+1 - 1)=(W.length:Int):=by rw [aD (by omega) (by omega)];omega
    have hlt:(W.length:Int)<(W.length:Int)+1:=(by omega);have hrow:(List.map (fun n=>[eI n]) (W ++ [x]))[W.length]?.getD []=[eI x]:=(by simp);have hlt2:W.length<W.length+1:=(by omega);have hle:(W.length:Int)<=(W.length:Int)+1:=(by omega);have htk:List.take W.length (List.map (fun n=>[eI n]) (W ++ [x]))=List.map (fun n=>[eI n]) W:=(by simp);have hn:decide ((W.length:Int)<0)=false:=Vu (by omega)
    repeat' first|refine ge (kf @bL (kf @bC (kf @Vi (kf @Vy (kf @WV (kf @XL (kf hw (kf hn (kf @hlt (kf @hlt2 (kf @hle (kf @hrow @htk)))))))))))) ?_|decide|refine sp ?_ ?_<;>intro _
    repeat' first|refine go ?_|simp only [fP,fR,gz,bL,bC,aB,bG,bF,aE.shift,ca]|decide|refine sp ?_ ?_<;>intro _
    repeat' first|refine go ?_|decide|refine sp ?_ ?_<;>intro _
   all_goals
    refine af (fun st=>∃ (x:Int) (o:Bool) (L:List Bool) (W:List Int),T4 next a b o x L W /\ st=⟨69,[(0,lZ next),(1,ji a),(2,ji b),(7,.osl 0),(8,lZ rows),(9,.op 1 0 0),(11,eI x),(12,eB o)],[(0,some (.row 4 1 (iA L))),(1,some (.box 176 [.osl 2])),(2,some (oW W))],3⟩) (P1 next.length)
     ?_ ?_
    .first
      | exact ⟨_,(wR [3,4,5]),0,false,_,[],.inl ⟨rfl,rfl,hW⟩,rfl⟩
      | exact ⟨_,(wR [3,4,7]),x,true,_,_,.inr ⟨rfl,hW⟩,rfl⟩
    rintro _ ⟨x,o,L,W,hH,rfl⟩;rcases hH with ⟨rfl,rfl,hW⟩|⟨rfl,hW⟩
    .repeat' first|refine gq ?_|decide|refine sp ?_ ?_<;>intro _
     rw [hW.done];all_goals exact aY (by simp [ae.gc])
    .obtain ⟨k0,rfl,hk0,hL0,hW⟩:=hW.pop hB;have hLl:=hW.len;obtain ⟨q,hq⟩:∃ q,q=rows.getD k0 []:=⟨_,rfl⟩;rw [<- hq] at hW;have hrow:(Cy rows)[k0]?.getD []=[sI q]:=by rw [hq];simp [List.getD,show k0<rows.length by omega]
     have hk1:k0<rows.length:=(by omega);have hql:q.length<=1000000:=by have:=hB.small k0;rw [<- hq] at this;omega
     repeat' first|refine ge (kf @hrow hk1) ?_|decide|refine sp ?_ ?_<;>intro _
     refine af (fun st=>∃ (m:Nat) (L2:List Bool) (F:List Int),m<=q.length /\ WU next a b (si q k0 m) L2 F /\ L2.getD k0 false=true /\ 2 * (next.length - cnt L2)+F.length<=2 * (next.length - cnt L)+W.length /\ st=⟨69,[(0,lZ next),(1,ji a),(2,ji b),(7,.osl 0),(8,lZ rows),(9,.op 1 0 0),(46,sI q),(47,eI (q.length:Int)),(48,eI (m:Int))],[(0,some (.row 4 1 (iA L2))),(1,some (.box 176 [.osl 2])),(2,some (oW F))],3⟩) (fun st=>q.length - ax st 48) ⟨_,(wE trivial),0,L,W,Vg _,hW,hL0,Os _,rfl⟩ ?_;rintro _ ⟨m,L2,F,hm,hW2,hL2,hmu,rfl⟩;have hLl2:=hW2.len;have hFl:F.length<=200:=by have:=hW2.small;have:=hW2.cnt;omega
     by_cases hlt:m<q.length
     .obtain ⟨i,hi,hil,hie⟩:=wa hB hk0 (by rw [<- hq];exact hlt);rw [<- hq] at hi;have hi2:q[m]=(i:Int):=(by rw [<- hi,gw _ _ hlt]);have hrj:(q.map fun n=>[eI n])[m]?.getD []=[eI (i:Int)]:=by rw [<- hi2];simp [hlt]
      have hi3:i<L2.length:=(by omega);have hIa:=uS a (i:Int) (by omega);rw [jz] at hIa;have hri:(iA L2)[i]?.getD []=[eB (L2.getD i false)]:=(by simp [List.getD,hi3])
      cases hv:L2.getD i false with
      | true=>
       have hW3:=hW2.skip hlt hi (.inl hv);rw [hv] at hri
       repeat' first|refine gf (kf @hlt (kf @hrj (kf hi3 @hri))) ?_|decide|refine sp ?_ ?_<;>intro _
       all_goals exact rI wC ⟨m+1,L2,F,by omega,hW3,hL2,hmu,rfl⟩
      | false=>
       rw [hv] at hri
       cases hav:a.getD i false with
       | false=>
        have hW3:=hW2.skip hlt hi (.inr hav);rw [hav] at hIa
        repeat' first|refine gf (kf @hlt (kf @hrj (kf hi3 @hri))) ?_|decide|refine sp ?_ ?_<;>intro _|refine cA hIa ?_|fail
        all_goals exact rI wC ⟨m+1,L2,F,by omega,hW3,hL2,hmu,rfl⟩
       | true=>
        have hW3:=hW2.push hlt hi hil hie hL2 hv hav;rw [hav] at hIa;have hset:=rx L2 i true;have hL3:(L2.set i true).getD k0 false=true:=by rw [bT _ _ _ hi3];split;rfl;exact hL2
        have hc3:=rQ L2 i hi3 hv;have hc4:=hW3.cnt;have e1:(F ++ [(i:Int)]).map (fun n=>[eI n])=F.map (fun n=>[eI n]) ++ [[eI (i:Int)]]:=(by simp)
        repeat' first|refine gf (kf @hlt (kf @hrj (kf hi3 (kf @hri @hset)))) ?_|decide|refine sp ?_ ?_<;>intro _|refine cA hIa ?_|fail
        refine lj ?_;refine cd ag Tryz.func96 rfl (by decide) Tryz.ntmps96 Tryz.results96 rfl (by kernel_rfl) [0,1,2,7,8,9,46,47,48] fun vs=>?_
        repeat' first|refine ge (kf @bL @bC) ?_|decide|refine sp ?_ ?_<;>intro _
        refine ⟨rfl,⟨by omega,by omega⟩,?_⟩
        repeat' first|refine go ?_|simp only [fP,fR,gz,bL,bC,aB,bG,bF,aE.shift,ca]|decide|refine sp ?_ ?_<;>intro _
        repeat' first|refine go ?_|decide|refine sp ?_ ?_<;>intro _
        all_goals exact rI (wS [3,4,8] e1) ⟨m+1,_,_,by omega,hW3,hL3,by rw [hc3,Vi];simp only [Vy];omega,rfl⟩
     .obtain rfl:m=q.length:=by omega
      have hW4:=hW2.close (Os _)
      repeat' first|refine ge @hlt ?_|decide|refine sp ?_ ?_<;>intro _
      rcases ey F with rfl|⟨W2,y,rfl⟩
      .have hlt9:=hlt;refine lj ?_;refine cd ag Tryz.func97 rfl (by decide) Tryz.ntmps97 Tryz.results97 rfl (by kernel_rfl) [0,1,2,7,8,9] fun vs=>?_;have hw:IntKind.i64.wrap (((0:Nat):Int) - 1) = -1:=(by decide);have hn:decide ((-1:Int)<0)=true:=rfl
       repeat' first|refine ge (kf @bL (kf @bC (kf hw hn))) ?_|decide|refine sp ?_ ?_<;>intro _
       repeat' first|refine go ?_|simp only [fP,fR,gz,bL,bC,aB,bG,bF,aE.shift,ca]|decide|refine sp ?_ ?_<;>intro _
       repeat' first|refine go ?_|decide|refine sp ?_ ?_<;>intro _
       all_goals exact cU (wR [3,4,5]) ⟨0,false,_,[],.inl ⟨rfl,rfl,hW4⟩,rfl⟩ (by rw [o8 (by decide),o8 (by decide)];simp only [Vi,Vy,Wt,↓reduceIte,VL] at hmu ⊢;omega)
      .have hFl:W2.length+1<=200:=(by simpa using hFl);refine lj ?_;refine cd ag Tryz.func97 rfl (by decide) Tryz.ntmps97 Tryz.results97 rfl (by kernel_rfl) [0,1,2,7,8,9] fun vs=>?_;have hw:IntKind.i64.wrap ((W2.length:Int)+1 - 1)=(W2.length:Int):=by rw [aD (by omega) (by omega)];omega
       have hlt:(W2.length:Int)<(W2.length:Int)+1:=(by omega);have hrow:(List.map (fun n=>[eI n]) (W2 ++ [y]))[W2.length]?.getD []=[eI y]:=(by simp);have hlt2:W2.length<W2.length+1:=(by omega);have hle:(W2.length:Int)<=(W2.length:Int)+1:=(by omega);have htk:List.take W2.length (List.map (fun n=>[eI n]) (W2 ++ [y]))=List.map (fun n=>[eI n]) W2:=(by simp);have hn:decide ((W2.length:Int)<0)=false:=Vu (by omega)
       repeat' first|refine ge (kf @bL (kf @bC (kf @Vi (kf @Vy (kf @WV (kf @XL (kf hw (kf hn (kf @hlt (kf @hlt2 (kf @hle (kf @hrow @htk)))))))))))) ?_|decide|refine sp ?_ ?_<;>intro _
       repeat' first|refine go ?_|simp only [fP,fR,gz,bL,bC,aB,bG,bF,aE.shift,ca]|decide|refine sp ?_ ?_<;>intro _
       repeat' first|refine go ?_|decide|refine sp ?_ ?_<;>intro _
       all_goals exact cU (wR [3,4,7]) ⟨y,true,_,_,.inr ⟨rfl,hW4⟩,rfl⟩ (by rw [o8 (by decide),o8 (by decide)];simp only [Vi,Vy,Wt,↓reduceIte,VL] at hmu ⊢;omega)
end
end
section
section
def O6 (st:aj):Nat:=match st.tab.get 3 with | some (.row _ _ rows)=>rows.length | _=>0
def Uj (st:aj):Nat:=match st.get 16 with | .c (.bool true)=>1 | _=>0
def R9 (st:aj):Nat:=2 * DA st+O6 st+Uj st
theorem oy {N:Nat} {a0 a1 a5 a6 a7 a8:AV} {x:Int} {o:Bool} {L:List Bool} {W:List Int} {ob ob2:Option aE} {t:TypeId} (hN:16<N):R9 ⟨N,[(0,a0),(1,a1),(5,a5),(6,a6),(7,a7),(13,a8),(15,eI x),(16,eB o)],[(0,some (.row t 1 (iA L))),(1,ob),(2,ob2),(3,some (oW W))],4⟩=2 * cnt L+W.length+(if o=true then 1 else 0):=by
 have h:=zt L;cases o<;>simp only [R9,DA,O6,Uj,ae.gc,aj.get,bh,h,hN,Vo,↓reduceIte,Nat.reduceEqDiff,reduceCtorEq,VL]
def TE (next:List (List Int)) (a:List Bool) (o:Bool) (x:Int) (L:List Bool) (W lf:List Int):Prop:=(o=false /\ W=[] /\ GU next a Dv Hg L [] lf) \/ (o=true /\ GU next a Dv Hg L (W ++ [x]) lf)
theorem nV {l:List Int} {i:Nat} (h:i<l.length):(l.map fun n=>[eI n])[i]?.getD []=[eI (l.getD i 0)]:=by simp [List.getD,h]
theorem zQ (l:List Int) (i:Nat) (v:Int):(l.map fun n=>[eI n]).set i [eI v]=(l.set i v).map fun n=>[eI n]:=by rw [WK]
theorem UR (next:List (List Int)) (a:List Bool) (hx:xb next) (ha:a.length<=1000000):aw Tryz.prog 47 [lZ next,ji a] (iZ 4 1 (iA (He next a))):=by
 refine aa ag Tryz.func47 rfl (by decide) Tryz.ntmps47 Tryz.results47 rfl (cT _ _ _) ?_;have hnl:=hx.len;have hrl0:=hx.row;obtain ⟨G,hG⟩:∃ G,G=Lf next a 0:=⟨_,rfl⟩;have hFl:(List.replicate next.length false).length=next.length:=by simp
 obtain ⟨F0,hFe⟩:∃ F,F=List.replicate next.length false:=⟨_,rfl⟩;have hF0:iA F0=List.replicate next.length [eB false]:=by rw [hFe];simp
 rw [<- hFe] at hFl;have hGl:G.length=F0.length:=by rw [hG,m9,hFl]
 have hGa:∀ k,k<next.length -> G.getD k false=a.getD k false:=fun k h=>by
  rw [hG,Wo,tX];exact ⟨fun h=>h.2,fun h2=>⟨h,h2⟩⟩
 have hZ0:(List.replicate next.length (0:Int)).map (fun n=>[eI n])=List.replicate next.length [eI 0]:=by simp
 repeat' first|refine go ?_|decide|refine sp ?_ ?_<;>intro _
 refine ⟨⟨by omega,by omega⟩,⟨by omega,by omega⟩,?_⟩;refine tw (Hm next hx) ?_;rintro R ⟨rows,hB,rfl⟩;refine ⟨ro,?_⟩;have hrl:rows.length=next.length:=hB.len
 repeat' first|refine ge @aB ?_|decide|refine sp ?_ ?_<;>intro _
 refine af (fun st=>∃ k:Nat,k<=next.length /\ st=⟨128,[(0,lZ next),(1,ji a),(5,.osl 0),(6,.osl 1),(7,lZ rows),(28,eI (next.length:Int)),(29,eI (k:Int))],[(0,some (.row 4 1 (iA (eu G F0 k)))),(1,some (oW (List.replicate next.length 0)))],2⟩) (fun st=>next.length - ax st 29) ⟨_,(wE (kf @mL (kf hF0 hZ0))),0,Vg _,rfl⟩ ?_;rintro _ ⟨k,hk,rfl⟩;have hul:=od hGl (j:=k) (by omega);by_cases hlt:k<next.length
 .have d3:k<(eu G F0 k).length:=by omega
  have r1:=wW hGl (j:=k) (by omega);have hset:=so hGl (j:=k) (by omega);have hI:=uS a (k:Int) (by omega);rw [jz] at hI;rw [hGa k hlt] at hset
  repeat' first|refine gf (kf @hlt (kf d3 (kf r1 @hset))) ?_|decide|refine sp ?_ ?_<;>intro _|refine cA hI ?_|fail
  all_goals exact rI (wE @hset) ⟨k+1,by omega,rfl⟩
 .obtain rfl:k=next.length:=by omega
  have e1:eu G F0 next.length=G:=by rw [<- hFl];exact oi hGl
  rw [e1]
  repeat' first|refine ge @hlt ?_|decide|refine sp ?_ ?_<;>intro _
  refine af (fun st=>∃ (k:Nat) (lf:List Int),k<=next.length /\ A7 next rows G k 0 lf /\ st=⟨128,[(0,lZ next),(1,ji a),(5,.osl 0),(6,.osl 1),(7,lZ rows),(39,lZ rows),(40,eI (next.length:Int)),(41,eI (k:Int))],[(0,some (.row 4 1 (iA G))),(1,some (oW lf))],2⟩) (fun st=>next.length - ax st 41) ⟨_,(wE @hrl),0,_,Vg _,A7.start next rows G,rfl⟩ ?_;rintro _ ⟨k,lf,hk,hLf,rfl⟩;have hll:=hLf.len;by_cases hlt:k<next.length
  .obtain ⟨q,hq⟩:∃ q,q=rows.getD k []:=⟨_,rfl⟩;have hrow:(Cy rows)[k]?.getD []=[sI q]:=by rw [hq];simp [List.getD,show k<rows.length by omega]
   have hk1:k<rows.length:=(by omega);have hql:q.length<=800000:=by have:=hB.small k;rw [<- hq] at this;omega
   repeat' first|refine ge (kf @hrow (kf hk1 @hlt)) ?_|decide|refine sp ?_ ?_<;>intro _
   refine af (fun st=>∃ (m:Nat) (lf:List Int),m<=q.length /\ A7 next rows G k m lf /\ st=⟨128,[(0,lZ next),(1,ji a),(5,.osl 0),(6,.osl 1),(7,lZ rows),(39,lZ rows),(40,eI (next.length:Int)),(41,eI (k:Int)),(9,eI (k:Int)),(46,sI q),(47,eI (q.length:Int)),(48,eI (m:Int))],[(0,some (.row 4 1 (iA G))),(1,some (oW lf))],2⟩) (fun st=>q.length - ax st 48) ⟨_,(wE trivial),0,lf,Vg _,hLf,rfl⟩ ?_;rintro _ ⟨m,lf,hm,hLf,rfl⟩;have hll:=hLf.len;have hkG:k<G.length:=(by omega);have hrG:(iA G)[k]?.getD []=[eB (G.getD k false)]:=(by simp [List.getD,hkG]);by_cases hlt2:m<q.length
   .obtain ⟨i,hi,hil,hie⟩:=wa hB hlt (by rw [<- hq];exact hlt2);have hi1:=hi;rw [<- hq] at hi;have hi2:q[m]=(i:Int):=(by rw [<- hi,gw _ _ hlt2]);have hrj:(q.map fun n=>[eI n])[m]?.getD []=[eI (i:Int)]:=by rw [<- hi2];simp [hlt2]
    have hi3:i<lf.length:=(by omega);have hri:=nV hi3
    cases hv:G.getD k false with
    | false=>
     have h3:=hLf.skip hv;rw [hv] at hrG
     repeat' first|refine gf (kf @hlt2 (kf @hrj (kf @hkG @hrG))) ?_|decide|refine sp ?_ ?_<;>intro _
     all_goals exact rI wC ⟨m+1,lf,by omega,h3,rfl⟩
    | true=>
     have h3:=hLf.add hv (by rw [<- hq];exact hlt2) hi1 hil;rw [hv] at hrG;have hsm:=hLf.small i;have hw:IntKind.i64.wrap (lf.getD i 0+1)=lf.getD i 0+1:=aD (by omega) (by omega);have hset:=zQ lf i (lf.getD i 0+1)
     repeat' first|refine gf (kf @hlt2 (kf @hrj (kf @hkG (kf @hrG (kf hi3 (kf @hri (kf hw @hset))))))) ?_|decide|refine sp ?_ ?_<;>intro _
     all_goals exact rI (wE @hset) ⟨m+1,_,by omega,h3,rfl⟩
   .obtain rfl:m=q.length:=by omega
    have h3:=A7.row (i:=k) (by rw [<- hq];exact hLf) hB hlt (by rw [<- hq];exact hql)
    repeat' first|refine gf @hlt2 ?_|decide|refine sp ?_ ?_<;>intro _
    all_goals exact rI wC ⟨k+1,lf,by omega,h3,rfl⟩
  .obtain rfl:k=next.length:=by omega
   have hGU:=GU.start (a:=a) (lf:=lf) hB (by rw [<- hG];exact hLf);rw [<- hG] at hGU
   repeat' first|refine ge @hlt ?_|decide|refine sp ?_ ?_<;>intro _
   refine af (fun st=>∃ (k:Nat) (L:List Bool) (F:List Int),k<=next.length /\ GU next a (fun j=>k<=j) Hg L F lf /\ st=⟨128,[(0,lZ next),(1,ji a),(5,.osl 0),(6,.osl 1),(7,lZ rows),(13,.op 2 0 0),(65,eI (next.length:Int)),(66,eI (k:Int))],[(0,some (.row 4 1 (iA L))),(1,some (oW lf)),(2,some (.box 176 [.osl 3])),(3,some (oW F))],4⟩) (fun st=>next.length - ax st 66)
    ⟨_,((ct 2 0 3 1 (t:=176) (cells:=[.c (.slice none 0 0)]) (by simp [ae.gc]) rfl).trans (wE @WC)),0,G,[],Vg _,hGU,rfl⟩ ?_
   rintro _ ⟨k,L,F,hk,hU,rfl⟩;have hLl:=hU.len;have hFl:F.length<=200:=by have:=hU.small;omega
   by_cases hlt:k<next.length
   .have hkL:k<L.length:=(by omega);have hkf:k<lf.length:=(by omega);have hrL:(iA L)[k]?.getD []=[eB (L.getD k false)]:=(by simp [List.getD,hkL]);have hrf:=nV hkf;have hq:∀ j,k<=j -> j=k \/ k+1<=j:=fun j h=>by omega
    cases hv:L.getD k false with
    | false=>
     have h3:=hU.settle k hq (by rw [hv];simp);rw [hv] at hrL
     repeat' first|refine gf (kf @hlt (kf @hkL @hrL)) ?_|decide|refine sp ?_ ?_<;>intro _
     all_goals exact rI wC ⟨k+1,L,F,by omega,h3,rfl⟩
    | true=>
     rw [hv] at hrL;by_cases h0:lf.getD k 0=0
     .have h3:=hU.take k hq hv h0;have hz:(lf.getD k 0 == 0)=true:=Wv.2 h0;have hset:=rx L k false;have e1:(F ++ [(k:Int)]).map (fun n=>[eI n])=F.map (fun n=>[eI n]) ++ [[eI (k:Int)]]:=(by simp)
      repeat' first|refine gf (kf @hlt (kf @hkL (kf @hrL (kf @hkf (kf @hrf (kf hz @hset)))))) ?_|decide|refine sp ?_ ?_<;>intro _
      refine lj ?_;refine cd ag Tryz.func96 rfl (by decide) Tryz.ntmps96 Tryz.results96 rfl (by kernel_rfl) [0,1,5,6,7,13,65,66] fun vs=>?_
      repeat' first|refine ge (kf @bL @bC) ?_|decide|refine sp ?_ ?_<;>intro _
      refine ⟨rfl,⟨by omega,by omega⟩,?_⟩
      repeat' first|refine go ?_|simp only [fP,fR,gz,bL,bC,aB,bG,bF,aE.shift,ca]|decide|refine sp ?_ ?_<;>intro _
      repeat' first|refine go ?_|decide|refine sp ?_ ?_<;>intro _
      all_goals exact rI (wS [4,5,6,10] e1) ⟨k+1,_,_,by omega,h3,rfl⟩
     .have h3:=hU.settle k hq (fun h=>h0 h.2);have hz:(lf.getD k 0 == 0)=false:=(by simpa using h0)
      repeat' first|refine gf (kf @hlt (kf @hkL (kf @hrL (kf @hkf (kf @hrf hz))))) ?_|decide|refine sp ?_ ?_<;>intro _
      all_goals exact rI wC ⟨k+1,L,F,by omega,h3,rfl⟩
   .obtain rfl:k=next.length:=by omega
    have hW:GU next a Dv Hg L F lf:=⟨hU.len,hU.lenF,hU.nodup,hU.inW,hU.inA,hU.sup,hU.val,fun k hk _ hL=>hU.pos k hk (by omega) hL,hU.small⟩;have hF4:F.length<=200:=hFl
    repeat' first|refine ge @hlt ?_|decide|refine sp ?_ ?_<;>intro _
    rcases ey F with rfl|⟨W,x,rfl⟩
    case' inl=>
     refine lj ?_;refine cd ag Tryz.func97 rfl (by decide) Tryz.ntmps97 Tryz.results97 rfl (by kernel_rfl) [0,1,5,6,7,13] fun vs=>?_;have hw:IntKind.i64.wrap (((0:Nat):Int) - 1) = -1:=(by decide);have hn:decide ((-1:Int)<0)=true:=rfl
     repeat' first|refine ge (kf @bL (kf @bC (kf hw hn))) ?_|decide|refine sp ?_ ?_<;>intro _
     repeat' first|refine go ?_|simp only [fP,fR,gz,bL,bC,aB,bG,bF,aE.shift,ca]|decide|refine sp ?_ ?_<;>intro _
     repeat' first|refine go ?_|decide|refine sp ?_ ?_<;>intro _
    case' inr=>
     have hFl:W.length+1<=200:=(by simpa using hF4);refine lj ?_;refine cd ag Tryz.func97 rfl (by decide) Tryz.ntmps97 Tryz.results97 rfl (by kernel_rfl) [0,1,5,6,7,13] fun vs=>?_;have hw:IntKind.i64.wrap ((W.length:Int)+1 - 1)=(W.length:Int):=by rw [aD (by omega) (by omega)];omega
     have hlt:(W.length:Int)<(W.length:Int)+1:=(by omega);have hrow:(List.map (fun n=>[eI n]) (W ++ [x]))[W.length]?.getD []=[eI x]:=(by simp);have hlt2:W.length<W.length+1:=(by omega);have hle:(W.length:Int)<=(W.length:Int)+1:=(by omega);have htk:List.take W.length (List.map (fun n=>[eI n]) (W ++ [x]))=List.map (fun n=>[eI n]) W:=(by simp);have hn:decide ((W.length:Int)<0)=false:=Vu (by omega)
     repeat' first|refine ge (kf @bL (kf @bC (kf @Vi (kf @Vy (kf @WV (kf @XL (kf hw (kf hn (kf @hlt (kf @hlt2 (kf @hle (kf @hrow @htk)))))))))))) ?_|decide|refine sp ?_ ?_<;>intro _
     repeat' first|refine go ?_|simp only [fP,fR,gz,bL,bC,aB,bG,bF,aE.shift,ca]|decide|refine sp ?_ ?_<;>intro _
     repeat' first|refine go ?_|decide|refine sp ?_ ?_<;>intro _
    all_goals
     refine af (fun st=>∃ (x:Int) (o:Bool) (L:List Bool) (W lf:List Int),TE next a o x L W lf /\ st=⟨128,[(0,lZ next),(1,ji a),(5,.osl 0),(6,.osl 1),(7,lZ rows),(13,.op 2 0 0),(15,eI x),(16,eB o)],[(0,some (.row 4 1 (iA L))),(1,some (oW lf)),(2,some (.box 176 [.osl 3])),(3,some (oW W))],4⟩) R9 ?_ ?_
     .first
       | exact ⟨_,(wR [4,5,6,7]),0,false,_,[],_,.inl ⟨rfl,rfl,hW⟩,rfl⟩
       | exact ⟨_,(wR [4,5,6,9]),x,true,_,_,_,.inr ⟨rfl,hW⟩,rfl⟩
     rintro _ ⟨x,o,L,W,lf,hH,rfl⟩;rcases hH with ⟨rfl,rfl,hW⟩|⟨rfl,hW⟩
     .repeat' first|refine gq ?_|decide|refine sp ?_ ?_<;>intro _
      rw [hW.done];all_goals exact aY (by simp [ae.gc])
     .obtain ⟨k0,rfl,hk0,hW⟩:=hW.pop hB;obtain ⟨q,hq⟩:∃ q,q=rows.getD k0 []:=⟨_,rfl⟩;rw [<- hq] at hW;have hrow:(Cy rows)[k0]?.getD []=[sI q]:=by rw [hq];simp [List.getD,show k0<rows.length by omega]
      have hk1:k0<rows.length:=(by omega);have hql:q.length<=800000:=by have:=hB.small k0;rw [<- hq] at this;omega
      repeat' first|refine ge (kf @hrow hk1) ?_|decide|refine sp ?_ ?_<;>intro _
      refine af (fun st=>∃ (m:Nat) (L2:List Bool) (F lf:List Int),m<=q.length /\ GU next a Dv (fun k=>(q.drop m).count (k:Int)) L2 F lf /\ 2 * cnt L2+F.length<=2 * cnt L+W.length /\ st=⟨128,[(0,lZ next),(1,ji a),(5,.osl 0),(6,.osl 1),(7,lZ rows),(13,.op 2 0 0),(98,sI q),(99,eI (q.length:Int)),(100,eI (m:Int))],[(0,some (.row 4 1 (iA L2))),(1,some (oW lf)),(2,some (.box 176 [.osl 3])),(3,some (oW F))],4⟩) (fun st=>q.length - ax st 100) ⟨_,(wE trivial),0,L,W,lf,Vg _,hW,Os _,rfl⟩ ?_;rintro _ ⟨m,L2,F,lf,hm,hW2,hmu,rfl⟩;have hLl2:=hW2.len;have hlf2:=hW2.lenF;have hFl:F.length<=200:=by have:=hW2.small;omega
      by_cases hlt:m<q.length
      .obtain ⟨i,hi,hil,hie⟩:=wa hB hk0 (by rw [<- hq];exact hlt);rw [<- hq] at hi;have hi2:q[m]=(i:Int):=(by rw [<- hi,gw _ _ hlt]);have hrj:(q.map fun n=>[eI n])[m]?.getD []=[eI (i:Int)]:=by rw [<- hi2];simp [hlt]
       have hi3:i<L2.length:=(by omega);have hi4:i<lf.length:=(by omega);have hri:(iA L2)[i]?.getD []=[eB (L2.getD i false)]:=(by simp [List.getD,hi3]);have hrf:=nV hi4;have hbd:=hW2.bound hnl hrl0 (fun k=>by have:((q.drop m).count (k:Int))<=(q.drop m).length:=List.count_le_length;rw [Wa] at this;omega) i;have hdec:=hW2.dec hlt hi hil;have hw:IntKind.i64.wrap (lf.getD i 0 - 1)=lf.getD i 0 - 1:=aD (by omega) (by omega);have hsetf:=zQ lf i (lf.getD i 0 - 1);have hi5:i<(lf.set i (lf.getD i 0 - 1)).length:=by rw [VS];exact hi4
       have hg5:(lf.set i (lf.getD i 0 - 1)).getD i 0=lf.getD i 0 - 1:=(by rw [lz _ _ _ hi4,Vn rfl]);have hrf5:=nV hi5;rw [hg5] at hrf5;have hq1:∀ j,j=i -> j=i \/ Dv j:=fun j h=>.inl h;obtain ⟨lf5,hlf5⟩:∃ l,l=lf.set i (lf.getD i 0 - 1):=⟨_,rfl⟩;rw [<- hlf5] at hdec hsetf hi5 hg5 hrf5
       cases hv:L2.getD i false with
       | false=>
        have h3:=hdec.settle (q':=Dv) i hq1 (by rw [hv];simp);rw [hv] at hri
        repeat' first|refine gf (kf @hlt (kf @hrj (kf hi3 (kf hi4 (kf @hri (kf @hrf (kf hw @hsetf))))))) ?_|decide|refine sp ?_ ?_<;>intro _
        all_goals exact rI (wE @hsetf) ⟨m+1,L2,F,_,by omega,h3,hmu,rfl⟩
       | true=>
        rw [hv] at hri;by_cases h0:lf.getD i 0 - 1=0
        .have h3:=hdec.take (q':=Dv) i hq1 hv (by rw [hg5];exact h0);have hz:(lf.getD i 0 - 1 == 0)=true:=Wv.2 h0;have hset:=rx L2 i false;have hc3:=pt L2 i hi3 hv;have e1:(F ++ [(i:Int)]).map (fun n=>[eI n])=F.map (fun n=>[eI n]) ++ [[eI (i:Int)]]:=(by simp)
         repeat' first|refine gf (kf @hlt (kf @hrj (kf hi3 (kf hi4 (kf @hri (kf @hrf (kf hw (kf @hsetf (kf hi5 (kf @hrf5 (kf hz @hset))))))))))) ?_|decide|refine sp ?_ ?_<;>intro _
         refine lj ?_;refine cd ag Tryz.func96 rfl (by decide) Tryz.ntmps96 Tryz.results96 rfl (by kernel_rfl) [0,1,5,6,7,13,98,99,100] fun vs=>?_
         repeat' first|refine ge (kf @bL @bC) ?_|decide|refine sp ?_ ?_<;>intro _
         refine ⟨rfl,⟨by omega,by omega⟩,?_⟩
         repeat' first|refine go ?_|simp only [fP,fR,gz,bL,bC,aB,bG,bF,aE.shift,ca]|decide|refine sp ?_ ?_<;>intro _
         repeat' first|refine go ?_|decide|refine sp ?_ ?_<;>intro _
         all_goals exact rI (wS [4,5,6,10] (kf e1 @hsetf)) ⟨m+1,_,_,_,by omega,h3,by rw [Vi];simp only [Vy];omega,rfl⟩
        .have h3:=hdec.settle (q':=Dv) i hq1 (fun h=>h0 (by rw [<- hg5];exact h.2));have hz:(lf.getD i 0 - 1 == 0)=false:=(by simpa using h0)
         repeat' first|refine gf (kf @hlt (kf @hrj (kf hi3 (kf hi4 (kf @hri (kf @hrf (kf hw (kf @hsetf (kf hi5 (kf @hrf5 hz)))))))))) ?_|decide|refine sp ?_ ?_<;>intro _
         all_goals exact rI (wE @hsetf) ⟨m+1,L2,F,_,by omega,h3,hmu,rfl⟩
      .obtain rfl:m=q.length:=by omega
       have hW4:=hW2.close (Os _)
       repeat' first|refine ge @hlt ?_|decide|refine sp ?_ ?_<;>intro _
       rcases ey F with rfl|⟨W2,y,rfl⟩
       .have hlt9:=hlt;refine lj ?_;refine cd ag Tryz.func97 rfl (by decide) Tryz.ntmps97 Tryz.results97 rfl (by kernel_rfl) [0,1,5,6,7,13] fun vs=>?_;have hw:IntKind.i64.wrap (((0:Nat):Int) - 1) = -1:=(by decide);have hn:decide ((-1:Int)<0)=true:=rfl
        repeat' first|refine ge (kf @bL (kf @bC (kf hw hn))) ?_|decide|refine sp ?_ ?_<;>intro _
        repeat' first|refine go ?_|simp only [fP,fR,gz,bL,bC,aB,bG,bF,aE.shift,ca]|decide|refine sp ?_ ?_<;>intro _
        repeat' first|refine go ?_|decide|refine sp ?_ ?_<;>intro _
        all_goals exact cU (wR [4,5,6,7]) ⟨0,false,_,[],_,.inl ⟨rfl,rfl,hW4⟩,rfl⟩ (by rw [oy (by decide),oy (by decide)];simp only [Vi,Vy,Wt,↓reduceIte,VL] at hmu ⊢;omega)
       .have hFl:W2.length+1<=200:=(by simpa using hFl);refine lj ?_;refine cd ag Tryz.func97 rfl (by decide) Tryz.ntmps97 Tryz.results97 rfl (by kernel_rfl) [0,1,5,6,7,13] fun vs=>?_;have hw:IntKind.i64.wrap ((W2.length:Int)+1 - 1)=(W2.length:Int):=by rw [aD (by omega) (by omega)];omega
        have hlt:(W2.length:Int)<(W2.length:Int)+1:=(by omega);have hrow:(List.map (fun n=>[eI n]) (W2 ++ [y]))[W2.length]?.getD []=[eI y]:=(by simp);have hlt2:W2.length<W2.length+1:=(by omega);have hle:(W2.length:Int)<=(W2.length:Int)+1:=(by omega);have htk:List.take W2.length (List.map (fun n=>[eI n]) (W2 ++ [y]))=List.map (fun n=>[eI n]) W2:=(by simp);have hn:decide ((W2.length:Int)<0)=false:=Vu (by omega)
        repeat' first|refine ge (kf @bL (kf @bC (kf @Vi (kf @Vy (kf @WV (kf @XL (kf hw (kf hn (kf @hlt (kf @hlt2 (kf @hle (kf @hrow @htk)))))))))))) ?_|decide|refine sp ?_ ?_<;>intro _
        repeat' first|refine go ?_|simp only [fP,fR,gz,bL,bC,aB,bG,bF,aE.shift,ca]|decide|refine sp ?_ ?_<;>intro _
        repeat' first|refine go ?_|decide|refine sp ?_ ?_<;>intro _
        all_goals exact cU (wR [4,5,6,9]) ⟨y,true,_,_,_,.inr ⟨rfl,hW4⟩,rfl⟩ (by rw [oy (by decide),oy (by decide)];simp only [Vi,Vy,Wt,↓reduceIte,VL] at hmu ⊢;omega)
end
section
structure pf where
 ev:Int
 us:Int
 dst:Int
abbrev M3 (e:pf):List AV:=[eI e.ev,eI e.us,eI e.dst]
abbrev kd (l:List (List pf)):List (List AV):=l.map fun r=>[.sl 3 (r.map M3)]
abbrev aQ (l:List (List pf)):List (List Int):=l.map fun r=>r.map pf.dst
theorem OJ (sz:Nat) (rows:List (List AV)) (l:List (List pf)) (hl:l.length<=1000000) (hr:∀ r ∈ l,r.length<=1000000):aw Tryz.prog 21 [.agg [.sl sz rows,.sl 1 (kd l)]] (iZ 87 1 (Cy (aQ l))):=by
 refine aa ag Tryz.func21 rfl (by decide) Tryz.ntmps21 Tryz.results21 rfl (cT _ _ _) ?_
 repeat' first|refine go ?_|decide|refine sp ?_ ?_<;>intro _
 refine af (fun st=>∃ k:Nat,k<=l.length /\ st=⟨34,[(3,.osl 0),(10,.sl 1 (kd l)),(11,eI (l.length:Int)),(12,eI (k:Int))],[(0,some (.row 87 1 (Cy (aQ (l.take k)))))],1⟩) (fun st=>l.length - ax st 12) ⟨_,((bA 3 87 1 (by simp only [jn,aj.get,bh,aj.put,↓reduceIte,reduceCtorEq,Nat.reduceLT,Nat.reduceEqDiff,Nat.reduceAdd,Nat.reduceLeDiff,eq_self,implies_true,aQ,Cy,VA])).trans (wS [1] (kf @aQ.eq_1 (kf @Cy.eq_1 @VA)))),0,Vg _,rfl⟩ ?_;rintro _ ⟨k,hk,rfl⟩;by_cases hlt:k<l.length
 .have hrk:=hr _ (Vf hlt);obtain ⟨q,hq⟩:∃ q,q=l[k]:=⟨_,rfl⟩;have hrow:(kd l)[k]?.getD []=[.sl 3 (q.map M3)]:=by rw [hq];simp [kd,hlt]
  rw [<- hq] at hrk
  repeat' first|refine ge (kf @hrow @hlt) ?_|decide|refine sp ?_ ?_<;>intro _
  refine af (fun st=>∃ j:Nat,j<=q.length /\ st=⟨34,[(3,.osl 0),(10,.sl 1 (kd l)),(11,eI (l.length:Int)),(12,eI (k:Int)),(6,.osl 1),(16,.sl 3 (q.map M3)),(17,eI (q.length:Int)),(18,eI (j:Int))],[(0,some (.row 87 1 (Cy (aQ (l.take k))))),(1,some (.row 3 1 ((q.take j).map fun e=>[eI e.dst])))],2⟩) (fun st=>q.length - ax st 18) ⟨_,((bA 6 3 1 (by simp only [jn,aj.get,bh,aj.put,↓reduceIte,reduceCtorEq,Nat.reduceLT,Nat.reduceEqDiff,Nat.reduceAdd,Nat.reduceLeDiff,eq_self,implies_true,VA])).trans (wS [0,1] @VA)),0,Vg _,rfl⟩ ?_
  .rintro _ ⟨j,hj,rfl⟩;by_cases hlt2:j<q.length
   .have et:(q.take (j+1)).map (fun e=>[eI e.dst])=(q.take j).map (fun e=>[eI e.dst]) ++ [[eI q[j].dst]]:=dT _ _ hlt2
    repeat' first|refine go ?_|simp only [ab,hlt2]|decide|refine sp ?_ ?_<;>intro _
    refine ⟨rfl,⟨by simp only [Vr];omega,by simp only [Vr];omega⟩,cU (wS [0,4] et) ⟨j+1,by omega,rfl⟩ (by simp only [ax,aj.get,bh,aj.put,↓reduceIte,Nat.reduceLT,Nat.reduceEqDiff];omega)⟩
   obtain rfl:j=q.length:=by omega
   repeat' first|refine go ?_|simp only [ab,hlt2,Vq]|decide|refine sp ?_ ?_<;>intro _
   have et:Cy (aQ (l.take (k+1)))=Cy (aQ (l.take k)) ++ [[.sl 1 (q.map fun e=>[eI e.dst])]]:=by
    rw [Vk hlt,<- hq];simp [Cy,aQ,sI,Function.comp_def]
   refine ⟨rfl,⟨by simp only [Vr];omega,by simp only [Vr];omega⟩,cU (wS [3] et) ⟨k+1,by omega,rfl⟩ (by simp only [ax,aj.get,bh,aj.put,↓reduceIte,Nat.reduceLT,Nat.reduceEqDiff];omega)⟩
 obtain rfl:k=l.length:=by omega
 repeat' first|refine ge (kf @hlt @Vq) ?_|decide|refine sp ?_ ?_<;>intro _
 exact aY (by simp [ae.gc])
noncomputable def fD (next:List (List Int)) (sets:List (List Bool)) (s:cY):List Bool:=
 let a:=sets.getD s.a.toNat []
 let b:=sets.getD s.b.toNat []
 if (s.op == 15)=true then a.map (!·) else if (s.op == 16)=true then k5 a b else if (s.op == 20)=true then ud next a else if (s.op == 26)=true then t7 next a b else He next a
abbrev DU (l:List (List Bool)):List (List AV):=l.map fun a=>[ji a]
theorem sL {l:List (List Bool)} {i:Int} (h:0<=i) (hl:i<l.length):(DU l)[i.toNat]?.getD []=[ji (l.getD i.toNat [])]:=by
 have:i.toNat<l.length:=by omega
 simp [DU,List.getD,this]
theorem n5 {l:List (List Bool)} {i:Int} (h:0<=i) (hl:i<l.length):l.getD i.toNat [] ∈ l:=by
 have:i.toNat<l.length:=by omega
 simp [List.getD,this]
theorem LY (next:List (List Int)) (sets:List (List Bool)) (s:cY) (hx:xb next) (hs:∀ a ∈ sets,a.length<=1000000) (ha:0<=s.a /\ s.a<sets.length) (hb:0<=s.b /\ s.b<sets.length) :
  aw Tryz.prog 23 [.rp [lZ next,.sl 1 (DU sets)],.agg (nw s)] (iZ 4 1 (iA (fD next sets s))):=by
 refine aa ag Tryz.func23 rfl (by decide) Tryz.ntmps23 Tryz.results23 rfl (cT _ _ _) ?_;obtain ⟨a0,a1⟩:=ha;obtain ⟨b0,b1⟩:=hb;have a2:s.a.toNat<sets.length:=by omega
 have b2:s.b.toNat<sets.length:=by omega
 have ra:=sL a0 a1;have rb:=sL b0 b1;have la:=hs _ (n5 a0 a1);have lb:=hs _ (n5 b0 b1)
 repeat' first|refine go ?_|decide|refine sp ?_ ?_<;>intro _
 refine aA (by kernel_rfl) ?_
 repeat' first|refine ge (kf a0 (kf a1 (kf a2 ra))) ?_|decide|refine sp ?_ ?_<;>intro _
 .rename_i h1;have e:fD next sets s=(sets.getD s.a.toNat []).map (!·):=by simp only [fD,h1,↓reduceIte,VL]
  rw [e];refine dM (Uk _ la) (.inr (dz _)) ?_
  repeat' first|refine go ?_|decide|refine sp ?_ ?_<;>intro _
  exact aY (by simp [ae.gc])
 .rename_i h1 h2;have e:fD next sets s=k5 (sets.getD s.a.toNat []) (sets.getD s.b.toNat []):=by simp only [fD,h1,h2,↓reduceIte,VL]
  rw [e];refine ap [] [0,1,2,3,4,5,6,7,8] (.exec 9 (.exec 10 .done)) (by kernel_rfl) (by simp [ae.gc]) ?_
  repeat' first|refine ge (kf b0 (kf b1 (kf b2 rb))) ?_|decide|refine sp ?_ ?_<;>intro _
  refine dM (TC _ _ la lb) (.inr (dz _)) ?_
  repeat' first|refine go ?_|decide|refine sp ?_ ?_<;>intro _
  exact aY (by simp [ae.gc])
 .rename_i h1 h2 h3;have e:fD next sets s=ud next (sets.getD s.a.toNat []):=by simp only [fD,h1,h2,h3,↓reduceIte,VL]
  rw [e];refine dM (UK next _ hx la) (.inr (dz _)) ?_
  repeat' first|refine go ?_|decide|refine sp ?_ ?_<;>intro _
  exact aY (by simp [ae.gc])
 .rename_i h1 h2 h3 h4;have e:fD next sets s=t7 next (sets.getD s.a.toNat []) (sets.getD s.b.toNat []):=by simp only [fD,h1,h2,h3,h4,↓reduceIte,VL]
  rw [e];refine ap [] [0,1,2,3,4,5,6,7,8,9,10,11,12] (.exec 13 (.exec 14 .done)) (by kernel_rfl) (by simp [ae.gc]) ?_
  repeat' first|refine ge (kf b0 (kf b1 (kf b2 rb))) ?_|decide|refine sp ?_ ?_<;>intro _
  refine dM (UV next _ _ hx la lb) (.inr (dz _)) ?_
  repeat' first|refine go ?_|decide|refine sp ?_ ?_<;>intro _
  exact aY (by simp [ae.gc])
 .rename_i h1 h2 h3 h4;have e:fD next sets s=He next (sets.getD s.a.toNat []):=by simp only [fD,h1,h2,h3,h4,↓reduceIte,VL]
  rw [e];refine dM (UR next _ hx la) (.inr (dz _)) ?_
  repeat' first|refine go ?_|decide|refine sp ?_ ?_<;>intro _
  exact aY (by simp [ae.gc])
noncomputable def gx (next:List (List Int)) (at_:ah -> List Bool) (sets:List (List Bool)) (s:cY):List Bool:=if 1<=s.op /\ s.op<=14 then at_ s.x else fD next sets s
noncomputable def de (next:List (List Int)) (at_:ah -> List Bool) (l:List cY):List (List Bool):=l.foldl (fun sets s=>sets ++ [gx next at_ sets s]) []
theorem kV {next:List (List Int)} {at_:ah -> List Bool} {l:List cY} {k:Nat} (hk:k<l.length):de next at_ (l.take (k+1))=de next at_ (l.take k) ++ [gx next at_ (de next at_ (l.take k)) l[k]]:=by
 unfold de;rw [Vk hk,Wh];rfl
theorem iE {next:List (List Int)} {at_:ah -> List Bool} (l:List cY):∀ k,k<=l.length -> (de next at_ (l.take k)).length=k
 | 0,_=>by simp [de]
 | k+1,hk=>by
  rw [kV (by omega),Vi,iE l k (by omega)];rfl
theorem FL {next:List (List Int)} {sets:List (List Bool)} {s:cY} {n:Nat} (hs:∀ a ∈ sets,a.length=n) (ha:0<=s.a /\ s.a<sets.length) (hb:0<=s.b /\ s.b<sets.length) (hn:next.length=n):(fD next sets s).length=n:=by
 have la:=hs _ (n5 ha.1 ha.2);have lb:=hs _ (n5 hb.1 hb.2);unfold fD;simp only;split
 .simp only [Vo];exact la
 .split
  .unfold k5;simp only [Vo,List.length_range,la,lb,Nat.max_self]
  .split
   .rw [nM];exact hn
   .split
    .rw [df];exact hn
    .rw [dI];exact hn
theorem pz {next:List (List Int)} {at_:ah -> List Bool} {l:List cY} {n:Nat} (hl:kE l) (hn:next.length=n) (hat:∀ s ∈ l,1<=s.op /\ s.op<=14 -> (at_ s.x).length=n):∀ k,k<=l.length -> ∀ a ∈ de next at_ (l.take k),a.length=n
 | 0,_,a,ha=>by simp [de] at ha
 | k+1,hk,a,ha=>by
  rw [kV (by omega)] at ha;rcases Vp.1 ha with ha|ha
  .exact pz hl hn hat k (by omega) a ha
  .simp at ha;subst ha;unfold gx;split
   .rename_i h;exact hat _ (Vf (by omega)) h
   .rename_i h;have h1:=hl.lt k l[k] (f4 (by omega));have h2:=h1.2.2.1 h;have h3:=iE (next:=next) (at_:=at_) l k (by omega);exact FL (pz hl hn hat k (by omega)) ⟨h1.1.1,by omega⟩ ⟨h1.2.1.1,by omega⟩ hn
end
end
section
section
noncomputable def iu (next:List (List Int)) (at_:ah -> List Bool) (l:List ah):List Bool:=(de next at_ (gg l).1).getD (gI (gg l).2).toNat []
noncomputable def jL (n:Nat) (es:List (List pf)) (at_:ah -> List Bool) (l:List ah):cM:=
 if be (l.map ah.op)=0 /\ n=es.length then ⟨.tup [ji (iu (aQ es) at_ l),eI 0],[],0⟩ else ⟨.tup [.c (.slice none 0 0),eI 17],[],0⟩
theorem FF (n:Nat) (es:List (List pf)) (at_:ah -> List Bool) (l:List ah):(jL n es at_ l).Ok:=by
 unfold jL;split
 .exact ⟨fun id o h=>(by cases h),⟨trivial,trivial,trivial⟩⟩
 .exact ⟨fun id o h=>(by cases h),⟨trivial,trivial,trivial⟩⟩
def UW (m:bk) (c:List Int) (sz:Nat) (rows:List (List AV)) (es:List (List pf)) (at_:ah -> List Bool) (L:List cY) (n:Int) (st:aj):Prop:=∃ k:Nat,k<=L.length /\
 st=⟨90,[(1,sI c),(4,.op 0 0 0),(6,.op 1 0 0),(10,.sl 10 (L.map nw)),(11,eI n),(13,.op 2 0 0),(38,eI (L.length:Int)),(39,eI (k:Int))],[(0,some (.box 32 (aW m))),(1,some (.box 39 [.sl sz rows,.sl 1 (kd es)])),(2,some (.box 82 [lZ (aQ es),.osl 3])),(3,some (.row 43 1 (DU (de (aQ es) at_ (L.take k)))))],4⟩
theorem uF (m:bk) (c:List Int) (sz:Nat) (rows:List (List AV)) (hsz:(bt Tryz.prog 36).2=sz) (es:List (List pf)) (l:List ah) (at_:ah -> List Bool) (hx:∀ x ∈ l,x.ok) (hl:l.length<=1000000) (hr:rows.length<=1000000) (he:es.length<=1000000) (hee:∀ r ∈ es,r.length<=1000000)
  (hnx:rows.length=es.length -> xb (aQ es))
  (hat:rows.length=es.length -> ∀ s ∈ (gg l).1,s.x.ok -> 1<=s.op /\ s.op<=14 -> s.x.op=s.op -> aw Tryz.prog 22 [.agg (aW m),sI c,.sl sz rows,.agg (bX s.x)] (iZ 4 1 (iA (at_ s.x))) /\ (at_ s.x).length=rows.length) :
  aw Tryz.prog 8 [.agg (aW m),sI c,.agg [.sl sz rows,.sl 1 (kd es)],aR l] (jL rows.length es at_ l):=by
 refine aa ag Tryz.func8 rfl (by decide) Tryz.ntmps8 Tryz.results8 rfl (FF _ _ _ _) ?_;have hst:=MQ l hx hl;by_cases hc:be (l.map ah.op)=0
 .have hr:nt l=⟨.tup [.sl 10 ((gg l).1.map nw),eI (gI (gg l).2),eI 0],[],0⟩:=Vn hc;rw [hr] at hst
  repeat' first|refine go ?_|decide|refine sp ?_ ?_<;>intro _
  refine cZ hst (ro) ?_;have z:((0:Int) != 0)=false:=rfl;by_cases hn:rows.length=es.length
  .have en:((rows.length:Int) != (es.length:Int))=false:=(by simp [hn]);have hR:jL rows.length es at_ l=⟨.tup [ji (iu (aQ es) at_ l),eI 0],[],0⟩:=Vn ⟨hc,hn⟩;rw [hR];obtain ⟨L,hL⟩:∃ L,L=(gg l).1:=⟨_,rfl⟩;obtain ⟨n,hn'⟩:∃ n,n=gI (gg l).2:=⟨_,rfl⟩
   have hlen:0<l.length /\ l.length<=64:=by
    have:=hc;unfold be at this;simp only [Vo] at this;split at this
    .cases this
    .split at this
     .cases this
     .omega
   have hrow:aZ (l.map ah.op) 0=some 1:=by
    have:=hc;unfold be at this;simp only [Vo] at this;split at this
    .cases this
    .split at this
     .cases this
     .split at this
      .assumption
      .cases this
   obtain ⟨hgs,hdep⟩:=mB hrow hx hlen.2 l.length (Os _);rw [Vq] at hgs hdep;rw [hrow] at hdep
   have hin:In L n:=by
    rw [hL,hn'];exact hgs.row _ (jc (by have:=WE hdep;omega)).1
   have hgL:el (8 * l.length) L:=hL ▸ hgs.good;have hlF:iu (aQ es) at_ l=(de (aQ es) at_ L).getD n.toNat []:=(by rw [iu,<- hL,<- hn']);rw [hlF,<- hL,<- hn'];have hxn:=hnx hn;have hl2:L.length<=512:=by have:=hgL.len;omega
   repeat' first|refine ge (kf z (kf en @hsz)) ?_|decide|refine sp ?_ ?_<;>intro _
   refine dM (OJ sz rows es he hee) (ro) ?_
   repeat' first|refine go ?_|decide|refine sp ?_ ?_<;>intro _
   refine af (UW m c sz rows es at_ L n) (fun st=>L.length - ax st 39) ?_ ?_
   .refine ⟨_,(ov _ 2).trans ?_,0,Vg _,rfl⟩;simp only [ia,gl,b9,ae.gc,aE.frz,AV.frz,AV.frzL,↓reduceIte,Nat.reduceEqDiff,VX,XJ,reduceCtorEq,Xv];exact (ct 3 1 43 1 (t:=82) (cells:=[lZ (aQ es),.c (.slice none 0 0)]) rfl rfl).trans (wS [0,1,3,4] (kf @WC (kf @W3 (kf @VA (kf @de.eq_1 @Wr)))))
   rintro _ ⟨k,hk,rfl⟩;have hle:=iE (next:=aQ es) (at_:=at_) L
   have hatl:∀ s ∈ L,1<=s.op /\ s.op<=14 -> (at_ s.x).length=rows.length:=fun s hs hop=>by
    obtain ⟨i,hi⟩:=V7 hs;exact (hat hn s (hL ▸ hs) (hgL.ok s hs).2.2.2 hop ((hgL.st.lt i s hi).2.2.2 hop)).2
   by_cases hlt:k<L.length
   .have hst3:=hgL.st.lt k L[k] (f4 hlt);have hok:=hgL.ok L[k] (Vf hlt);have hss:=kV (next:=aQ es) (at_:=at_) hlt;obtain ⟨S,hS⟩:∃ S,S=de (aQ es) at_ (L.take k):=⟨_,rfl⟩;have hSl:S.length=k:=hS ▸ hle k hk
    have hSb:∀ a ∈ S,a.length<=1000000:=fun a ha=>by
     have:=pz hgL.st (by rw [Vo];exact hn.symm) hatl k hk a (hS ▸ ha);omega
    rw [<- hS] at hss ⊢;obtain ⟨s,hs⟩:∃ s,s=L[k]:=⟨_,rfl⟩;rw [<- hs] at hst3 hok hss;have hrow:(L.map nw)[k]?.getD []=nw s:=by rw [hs];simp [hlt]
    by_cases hop:1<=s.op /\ s.op<=14
    .have d1:decide (1<=s.op)=true:=VC hop.1;have d2:decide (s.op<=14)=true:=VC hop.2;have hF:gx (aQ es) at_ S s=at_ s.x:=Vn hop;rw [hF] at hss
     repeat' first|refine ge (kf @hrow (kf @hlt (kf d1 d2))) ?_|decide|refine sp ?_ ?_<;>intro _
     refine ap [2,3] [0,1,2,3,5,6,7,8,9,10] (.two 4 (.exec 11 (.exec 12 (.exec 13 (.take 14 (.take 15 (.exec 16 .done)))))) 11 (.two 4 (.exec 12 (.exec 13 (.take 14 (.take 15 (.exec 16 .done))))) 12 (.exec 4 (.exec 13 (.take 14 (.take 15 (.exec 16 .done))))))) (by kernel_rfl) (by simp [ae.gc]) ?_
     repeat' first|refine go ?_|decide|refine sp ?_ ?_<;>intro _
     refine ⟨?_,?_⟩;all_goals refine dM (hat hn s (by rw [<- hL,hs];exact Vf hlt) hok.2.2.2 hop (hst3.2.2.2 hop)).1 (.inr (dz _)) ?_
     all_goals
      repeat' first|refine go ?_|decide|refine sp ?_ ?_<;>intro _
      first|refine ⟨rfl,⟨(by (try simp only [Vo]);omega),(by (try simp only [Vo]);omega)⟩,?_⟩|refine ⟨⟨rfl,⟨(by (try simp only [Vo]);omega),(by (try simp only [Vo]);omega)⟩,?_⟩,rfl,⟨(by (try simp only [Vo]);omega),(by (try simp only [Vo]);omega)⟩,?_⟩
      all_goals
       exact cU (wS [0,1,2,7] (kf @hss @VE)) ⟨k+1,by omega,rfl⟩ (by simp only [ax,aj.get,bh,aj.put,↓reduceIte,Nat.reduceLT,Nat.reduceEqDiff];omega)
    .have hd:(decide (1<=s.op)=true /\ decide (s.op<=14)=false) \/ decide (1<=s.op)=false:=by
      by_cases h1:1<=s.op
      .exact .inl ⟨VC h1,Vu (by omega)⟩
      .exact .inr (Vu h1)
     have hF:gx (aQ es) at_ S s=fD (aQ es) S s:=Vh hop;rw [hF] at hss;have ha:=hst3.2.2.1 hop;rcases hd with ⟨d1,d2⟩|d1
     .repeat' first|refine ge (kf @hrow (kf @hlt (kf d1 d2))) ?_|decide|refine sp ?_ ?_<;>intro _
      refine ap [2,3] [0,1,2,3,5,6] (.two 4 (.exec 7 (.exec 8 (.exec 9 (.take 10 (.take 11 (.exec 12 .done)))))) 7 (.two 4 (.exec 8 (.exec 9 (.take 10 (.take 11 (.exec 12 .done))))) 8 (.exec 4 (.exec 9 (.take 10 (.take 11 (.exec 12 .done))))))) (by kernel_rfl) (by simp [ae.gc]) ?_
      repeat' first|refine go ?_|decide|refine sp ?_ ?_<;>intro _
      refine ⟨?_,?_⟩;all_goals refine dM (LY (aQ es) S s hxn hSb ⟨hst3.1.1,by omega⟩ ⟨hst3.2.1.1,by omega⟩) (.inr (dz _)) ?_
      all_goals
       repeat' first|refine go ?_|decide|refine sp ?_ ?_<;>intro _
       first|refine ⟨rfl,⟨(by (try simp only [Vo]);omega),(by (try simp only [Vo]);omega)⟩,?_⟩|refine ⟨⟨rfl,⟨(by (try simp only [Vo]);omega),(by (try simp only [Vo]);omega)⟩,?_⟩,rfl,⟨(by (try simp only [Vo]);omega),(by (try simp only [Vo]);omega)⟩,?_⟩
       all_goals
        exact cU (wS [0,1,2,7] (kf @hss @VE)) ⟨k+1,by omega,rfl⟩ (by simp only [ax,aj.get,bh,aj.put,↓reduceIte,Nat.reduceLT,Nat.reduceEqDiff];omega)
     .repeat' first|refine ge (kf @hrow (kf @hlt d1)) ?_|decide|refine sp ?_ ?_<;>intro _
      refine ap [2,3] [0,1,2,3,5,6] (.two 4 (.exec 7 (.exec 8 (.exec 9 (.take 10 (.take 11 (.exec 12 .done)))))) 7 (.two 4 (.exec 8 (.exec 9 (.take 10 (.take 11 (.exec 12 .done))))) 8 (.exec 4 (.exec 9 (.take 10 (.take 11 (.exec 12 .done))))))) (by kernel_rfl) (by simp [ae.gc]) ?_
      repeat' first|refine go ?_|decide|refine sp ?_ ?_<;>intro _
      refine ⟨?_,?_⟩;all_goals refine dM (LY (aQ es) S s hxn hSb ⟨hst3.1.1,by omega⟩ ⟨hst3.2.1.1,by omega⟩) (.inr (dz _)) ?_
      all_goals
       repeat' first|refine go ?_|decide|refine sp ?_ ?_<;>intro _
       first|refine ⟨rfl,⟨(by (try simp only [Vo]);omega),(by (try simp only [Vo]);omega)⟩,?_⟩|refine ⟨⟨rfl,⟨(by (try simp only [Vo]);omega),(by (try simp only [Vo]);omega)⟩,?_⟩,rfl,⟨(by (try simp only [Vo]);omega),(by (try simp only [Vo]);omega)⟩,?_⟩
       all_goals
        exact cU (wS [0,1,2,7] (kf @hss @VE)) ⟨k+1,by omega,rfl⟩ (by simp only [ax,aj.get,bh,aj.put,↓reduceIte,Nat.reduceLT,Nat.reduceEqDiff];omega)
   obtain rfl:k=L.length:=by omega
   have hLn:=hle L.length (Os _);rw [Vq] at hLn;have n0:=hin.ge;have n1:n<((de (aQ es) at_ L).length:Int):=by rw [hLn];exact hin.lt
   have n2:n.toNat<(de (aQ es) at_ L).length:=(by omega);have rn:=sL n0 n1
   repeat' first|refine ge (kf @hlt (kf @Vq (kf n0 (kf n1 (kf n2 rn))))) ?_|decide|refine sp ?_ ?_<;>intro _
   exact gM rfl
  .have en:((rows.length:Int) != (es.length:Int))=true:=by simp;omega
   have hR:jL rows.length es at_ l=⟨.tup [.c (.slice none 0 0),eI 17],[],0⟩:=Vh fun h=>hn h.2;rw [hR]
   repeat' first|refine ge (kf z (kf en @hsz)) ?_|decide|refine sp ?_ ?_<;>intro _
   exact gM rfl
 .have hr:nt l=⟨.tup [.c (.slice none 0 0),eI 0,eI 17],[],0⟩:=Vh hc;have hR:jL rows.length es at_ l=⟨.tup [.c (.slice none 0 0),eI 17],[],0⟩:=Vh fun h=>hc h.1;rw [hr] at hst;rw [hR];have z:((17:Int) != 0)=true:=rfl
  repeat' first|refine go ?_|decide|refine sp ?_ ?_<;>intro _
  refine cZ hst (ro) ?_
  repeat' first|refine ge z ?_|decide|refine sp ?_ ?_<;>intro _
  exact gM rfl
noncomputable def jH (n:Nat) (es:List (List pf)) (at_:ah -> List Bool) (l:List ah):cM:=
 if be (l.map ah.op)=0 /\ n=es.length then (if n=0 then ⟨.tup [eB false,eI 12],[],0⟩ else ⟨.tup [eB ((iu (aQ es) at_ l).getD 0 false),eI 0],[],0⟩) else ⟨.tup [eB false,eI 17],[],0⟩
theorem Fw (n:Nat) (es:List (List pf)) (at_:ah -> List Bool) (l:List ah):(jH n es at_ l).Ok:=by
 unfold jH;split
 .split
  .exact ⟨fun id o h=>(by cases h),⟨trivial,trivial,trivial⟩⟩
  .exact ⟨fun id o h=>(by cases h),⟨trivial,trivial,trivial⟩⟩
 .exact ⟨fun id o h=>(by cases h),⟨trivial,trivial,trivial⟩⟩
theorem GP (m:bk) (c:List Int) (sz:Nat) (rows:List (List AV)) (es:List (List pf)) (l:List ah) (at_:ah -> List Bool)
  (hlab:aw Tryz.prog 8 [.agg (aW m),sI c,.agg [.sl sz rows,.sl 1 (kd es)],aR l] (jL rows.length es at_ l)) (hlen:be (l.map ah.op)=0 /\ rows.length=es.length -> (iu (aQ es) at_ l).length=rows.length) :
  aw Tryz.prog 10 [.agg (aW m),sI c,.agg [.sl sz rows,.sl 1 (kd es)],aR l] (jH rows.length es at_ l):=by
 refine aa ag Tryz.func10 rfl (by decide) Tryz.ntmps10 Tryz.results10 rfl (Fw _ _ _ _) ?_;by_cases h:be (l.map ah.op)=0 /\ rows.length=es.length
 .have hR:jL rows.length es at_ l=⟨.tup [ji (iu (aQ es) at_ l),eI 0],[],0⟩:=Vn h;rw [hR] at hlab;have hl:=hlen h;obtain ⟨q,hq⟩:∃ q,q=iu (aQ es) at_ l:=⟨_,rfl⟩;have z:((0:Int) != 0)=false:=rfl;rw [<- hq] at hlab hl;by_cases hn:rows.length=0
  .have hH:jH rows.length es at_ l=⟨.tup [eB false,eI 12],[],0⟩:=(by rw [jH,Vn h,Vn hn]);have e0:((q.length:Int) == 0)=true:=Wv.2 (by omega);rw [hH]
   repeat' first|refine go ?_|decide|refine sp ?_ ?_<;>intro _
   refine cZ hlab (ro) ?_
   repeat' first|refine ge (kf z e0) ?_|decide|refine sp ?_ ?_<;>intro _
   exact gM rfl
  .have hH:jH rows.length es at_ l=⟨.tup [eB (q.getD 0 false),eI 0],[],0⟩:=(by rw [jH,Vn h,Vh hn,<- hq]);have e0:((q.length:Int) == 0)=false:=VN.2 (by omega);have e1:(0:Int)<q.length:=(by omega);have e2:0<q.length:=(by omega)
   have e3:(iA q)[0]?.getD []=[eB (q.getD 0 false)]:=by
    rw [Ve,f4 e2];simp [List.getD,e2]
   have e4:Int.toNat 0=0:=rfl;rw [hH]
   repeat' first|refine go ?_|decide|refine sp ?_ ?_<;>intro _
   refine cZ hlab (ro) ?_
   repeat' first|refine ge (kf z (kf e0 (kf e1 (kf e2 (kf e3 (kf e4 @Xn)))))) ?_|decide|refine sp ?_ ?_<;>intro _
   exact gM rfl
 .have hR:jL rows.length es at_ l=⟨.tup [.c (.slice none 0 0),eI 17],[],0⟩:=Vh h;have hH:jH rows.length es at_ l=⟨.tup [eB false,eI 17],[],0⟩:=Vh h;have z:((17:Int) != 0)=true:=rfl;rw [hR] at hlab;rw [hH]
  repeat' first|refine go ?_|decide|refine sp ?_ ?_<;>intro _
  refine cZ hlab (ro) ?_
  repeat' first|refine ge z ?_|decide|refine sp ?_ ?_<;>intro _
  exact gM rfl
end
section
def ls (ops:List Int):Nat -> Nat -> Int
 | 0,_=>-1
 | i+1,want=>
  if aC (ops.getD i 0)=0 then (if want=1 then (i:Int) else ls ops i (want - 1))
  else if aC (ops.getD i 0)=1 then ls ops i want
  else if aC (ops.getD i 0)=2 then ls ops i (want+1)
  else -1
theorem lg (op:Int):aC op=0 \/ aC op=1 \/ aC op=2 \/ aC op = -1:=by
 unfold aC;split
 .exact .inl rfl
 .split
  .exact .inr (.inl rfl)
  .split
   .exact .inr (.inr (.inl rfl))
   .exact .inr (.inr (.inr rfl))
theorem u5 (ops:List Int) {i:Nat} (hi:i<ops.length) (d:Nat):aZ (ops.take (i+1)) d=(aZ (ops.take i) d).bind fun d'=>bU d' (ops.getD i 0):=by
 rw [Vk hi,fJ]
 congr 1
 funext d'
 have:ops.getD i 0=ops[i]:=by simp [List.getD,hi]
 rw [this,aZ];cases bU d' ops[i]<;>rfl
theorem w7 (ops:List Int):∀ (q want d:Nat),q<=ops.length -> 1<=want -> want<=d -> aZ (ops.take q) 0=some d -> ∃ b:Nat,ls ops q want=(b:Int) /\ b<q /\ aZ (ops.take b) 0=some (d - want)
 | 0,want,d,_,h1,h2,h=>by
  simp [aZ] at h;omega
 | i+1,want,d,hi,h1,h2,h=>by
  rw [u5 ops (by omega)] at h
  cases hd:aZ (ops.take i) 0 with
  | none=>rw [hd] at h;cases h
  | some d'=>
   rw [hd,Wm] at h;unfold bU at h;rw [ls];rcases lg (ops.getD i 0) with e|e|e|e
   .rw [Vn e] at h;cases h;rw [Vn e];by_cases hw:want=1
    .rw [Vn hw];exact ⟨i,rfl,Wb _,by rw [hd,hw];rfl⟩
    .rw [Vh hw];obtain ⟨b,e1,e2,e3⟩:=w7 ops i (want - 1) d' (by omega) (by omega) (by omega) hd;exact ⟨b,e1,by omega,by rw [e3];congr 1;omega⟩
   .have e0:¬ aC (ops.getD i 0)=0:=(by omega);rw [Vh e0] at h ⊢;rw [Vn e];by_cases h3:1<=d'
    .rw [Vn ⟨e,h3⟩] at h;cases h;obtain ⟨b,e1,e2,e3⟩:=w7 ops i want d (by omega) h1 h2 hd;exact ⟨b,e1,by omega,e3⟩
    .rw [Vh (by simp [h3]),Vh (by omega)] at h;cases h
   .have e0:¬ aC (ops.getD i 0)=0:=(by omega);have e1':¬ aC (ops.getD i 0)=1:=(by omega);rw [Vh e0,Vh (fun h=>e1' h.1)] at h;rw [Vh e0,Vh e1',Vn e];by_cases h3:2<=d'
    .rw [Vn ⟨e,h3⟩] at h;cases h;obtain ⟨b,e1,e2,e3⟩:=w7 ops i (want+1) d' (by omega) (by omega) (by omega) hd;exact ⟨b,e1,by omega,by rw [e3];congr 1;omega⟩
    .rw [Vh (by simp [h3])] at h;cases h
   .rw [Vh (by omega),Vh (by omega),Vh (by omega)] at h;cases h
theorem Im {ops:List Int} {b d:Nat} (hb:b<=ops.length) (h:aZ (ops.take b) 0=some d) (h0:0<b):0<d:=by
 obtain ⟨i,rfl⟩:∃ i,b=i+1:=⟨b - 1,by omega⟩;rw [u5 ops (by omega)] at h
 cases hd:aZ (ops.take i) 0 with
 | none=>rw [hd] at h;cases h
 | some d'=>
  rw [hd,Wm] at h;unfold bU at h;split at h
  .cases h;omega
  .split at h
   .cases h;omega
   .split at h
    .cases h;omega
    .cases h
theorem mz (ops:List Int):∀ (q want b:Nat),q<=ops.length -> 1<=want -> ls ops q want=(b:Int) -> ∃ bs,ops.take q=ops.take b ++ bs /\ ∀ d,aZ bs d=some (d+want)
 | 0,want,b,_,_,h=>by
  rw [ls] at h;omega
 | i+1,want,b,hi,h1,h=>by
  have hs:=Vk (l:=ops) (show i<ops.length by omega);have hg:ops.getD i 0=ops[i]:=by simp [List.getD,show i<ops.length by omega]
  rw [ls,hg] at h;rcases lg ops[i] with e|e|e|e
  .rw [Vn e] at h;by_cases hw:want=1
   .rw [Vn hw] at h;have:i=b:=by omega
    subst this;exact ⟨[ops[i]],hs,fun d=>by simp [aZ,bU,e,hw]⟩
   .rw [Vh hw] at h;obtain ⟨bs,e1,e2⟩:=mz ops i (want - 1) b (by omega) (by omega) h;exact ⟨bs ++ [ops[i]],by rw [hs,e1,VZ],fun d=>by rw [fJ,e2,Wm,aZ,bU,Vn e];simp [aZ];omega⟩
  .have e0:¬ aC ops[i]=0:=(by omega);rw [Vh e0,Vn e] at h;obtain ⟨bs,e1,e2⟩:=mz ops i want b (by omega) h1 h;exact ⟨bs ++ [ops[i]],by rw [hs,e1,VZ],fun d=>by rw [fJ,e2,Wm,aZ,bU,Vh e0,Vn ⟨e,by omega⟩];simp [aZ]⟩
  .have e0:¬ aC ops[i]=0:=(by omega);have e1':¬ aC ops[i]=1:=(by omega);rw [Vh e0,Vh e1',Vn e] at h;obtain ⟨bs,e1,e2⟩:=mz ops i (want+1) b (by omega) (by omega) h;exact ⟨bs ++ [ops[i]],by rw [hs,e1,VZ],fun d=>by rw [fJ,e2,Wm,aZ,bU,Vh e0,Vh (by simp [e1']),Vn ⟨e,by omega⟩];simp [aZ]⟩
  .rw [Vh (by omega),Vh (by omega),Vh (by omega)] at h;omega
def lS (ops:List Int):Int:=if ops.length=0 then 12 else if 64<ops.length then 3 else if ls ops ops.length 1=0 then 0 else 17
theorem qk (ops:List Int) (h0:ops.length ≠ 0) (h64:ops.length<=64):ls ops ops.length 1=0 ↔ aZ ops 0=some 1:=by
 constructor
 .intro h;obtain ⟨bs,e1,e2⟩:=mz ops ops.length 1 0 (Os _) (Os _) (by simpa using h);rw [Vq,VA,WT] at e1;rw [e1,e2]
 .intro h;obtain ⟨b,e1,e2,e3⟩:=w7 ops ops.length 1 1 (Os _) (Os _) (Os _) (by rw [Vq];exact h);by_cases hb:b=0
  .rw [e1,hb];rfl
  .have:=Im (by omega) e3 (by omega);omega
def qg (a:List Bool) (row:List Int):Bool:=row.all fun k=>t6 a k
def Hc (next:List (List Int)) (a:List Bool):List Bool:=next.map (qg a)
def pO (next:List (List Int)) (a out:List Bool):List Bool:=(List.range out.length).map fun i=>out.getD i false || (t6 a (i:Int) && (Hc next out).getD i false)
def rB (next:List (List Int)) (a b:List Bool):Nat -> List Bool
 | 0=>b
 | m+1=>pO next a (rB next a b m)
def DE (next:List (List Int)) (a b:List Bool):List Bool:=rB next a b (next.length+1)
def xO (op:Int) (a b:List Bool):List Bool:=(List.range (min a.length b.length)).map fun i=>if op=18 then !(a.getD i false) || b.getD i false else if op=17 then a.getD i false || b.getD i false else a.getD i false && b.getD i false
noncomputable def gh (next:List (List Int)) (op:Int) (a:List Bool):List Bool:=
 if op=15 then a.map (!·)
 else if op=19 then Hc next a
 else if op=20 then ud next a
 else if op=21 then DE next (List.replicate next.length true) a
 else if op=22 then t7 next (List.replicate next.length true) a
 else if op=23 then (t7 next (List.replicate next.length true) (a.map (!·))).map (!·)
 else He next a
noncomputable def yC (next:List (List Int)) (op:Int) (a b:List Bool):List Bool:=
 if op=25 then DE next a b else if op=26 then t7 next a b else xO op a b
abbrev Tt:=List (List Bool)
def mX (s:Tt):List Bool:=s.getLastD []
noncomputable def gk (next:List (List Int)) (at_:ah -> List Bool) (s:Tt) (x:ah):Tt:=
 if aC x.op=1 then s.dropLast ++ [gh next x.op (mX s)]
 else if aC x.op=2 then s.dropLast.dropLast ++ [yC next x.op (mX s.dropLast) (mX s)]
 else s ++ [at_ x]
noncomputable def gp (next:List (List Int)) (at_:ah -> List Bool) (l:List ah):Tt:=l.foldl (gk next at_) []
theorem vJ {next:List (List Int)} {at_:ah -> List Bool} {l:List ah} {k:Nat} (hk:k<l.length):gp next at_ (l.take (k+1))=gk next at_ (gp next at_ (l.take k)) l[k]:=by
 unfold gp;rw [Vk hk,Wh];rfl
noncomputable def nu (next:List (List Int)) (at_:ah -> List Bool) (l:List ah):List Bool:=mX (gp next at_ l)
theorem Bp (next:List (List Int)) (a:List Bool):(Hc next a).length=next.length:=by simp [Hc]
theorem dc (next:List (List Int)) (a b:List Bool):∀ m,(rB next a b m).length=b.length
 | 0=>rfl
 | m+1=>by rw [rB,pO,Vo,List.length_range,dc next a b m]
theorem Ag (next:List (List Int)) (op:Int) (a:List Bool) (h:a.length=next.length):(gh next op a).length=next.length:=by
 unfold gh;split
 .simp [h]
 .split
  .exact Bp _ _
  .split
   .exact nM _ _
   .split
    .rw [DE,dc,h]
    .split
     .exact df _ _ _
     .split
      .simp [df]
      .exact dI _ _
theorem yP (next:List (List Int)) (op:Int) (a b:List Bool) (ha:a.length=next.length) (hb:b.length=next.length):(yC next op a b).length=next.length:=by
 unfold yC;split
 .rw [DE,dc,hb]
 .split
  .exact df _ _ _
  .simp [xO,ha,hb]
theorem pk {s:Tt} (h:0<s.length):mX s ∈ s:=by
 have hne:s ≠ []:=by intro e;simp [e] at h
 unfold mX;rw [List.getLastD_eq_getLast?,List.getLast?_eq_some_getLast hne];exact List.getLast_mem hne
theorem xk {s:Tt} {a:List Bool} (h:a ∈ s.dropLast):a ∈ s:=(List.dropLast_sublist _).subset h
theorem mC {d d':Nat} {op:Int} (h:bU d op=some d'):(aC op=0 /\ d'=d+1) \/ (aC op=1 /\ 1<=d /\ d'=d) \/ (aC op=2 /\ 2<=d /\ d'=d - 1):=by
 unfold bU at h;split at h
 .rename_i e;cases h;exact .inl ⟨e,rfl⟩
 .split at h
  .rename_i e;cases h;exact .inr (.inl ⟨e.1,e.2,rfl⟩)
  .split at h
   .rename_i e;cases h;exact .inr (.inr ⟨e.1,e.2,rfl⟩)
   .cases h
theorem wP {next:List (List Int)} {at_:ah -> List Bool} {l:List ah} {e:Nat} (h:aZ (l.map ah.op) 0=some e) (hat:∀ x ∈ l,aC x.op=0 -> (at_ x).length=next.length):∀ k,k<=l.length -> (∀ a ∈ gp next at_ (l.take k),a.length=next.length) /\ aZ ((l.take k).map ah.op) 0=some (gp next at_ (l.take k)).length
 | 0,_=>⟨by simp [gp],by simp [gp,aZ]⟩
 | k+1,hk=>by
  obtain ⟨h1,h2⟩:=wP h hat k (by omega);obtain ⟨d,h3,d',h4,h5⟩:=rO h (show k<l.length by omega);rw [h2] at h3;cases h3;rw [vJ (by omega),h5];generalize gp next at_ (l.take k)=s at *;unfold gk;rcases mC h4 with ⟨e1,rfl⟩|⟨e1,e2,rfl⟩|⟨e1,e2,rfl⟩
  .rw [Vh (by omega),Vh (by omega)];refine ⟨fun a ha=>?_,by simp⟩;rcases Vp.1 ha with ha|ha
   .exact h1 a ha
   .simp at ha;subst ha;exact hat _ (Vf _) e1
  .rw [Vn e1];refine ⟨fun a ha=>?_,by simp;omega⟩;rcases Vp.1 ha with ha|ha
   .exact h1 a (xk ha)
   .simp at ha;subst ha;exact Ag _ _ _ (h1 _ (pk e2))
  .rw [Vh (by omega),Vn e1];refine ⟨fun a ha=>?_,by simp;omega⟩;rcases Vp.1 ha with ha|ha
   .exact h1 a (xk (xk ha))
   .simp at ha;subst ha;exact yP _ _ _ _ (h1 _ (xk (pk (by simp;omega)))) (h1 _ (pk (by omega)))
end
section
abbrev I7 (n:Int):List AV:=[eI n,eS ByteArray.empty,eI 0,eS ByteArray.empty,eI 0,eS ByteArray.empty,eS ByteArray.empty,eI 0,eI 0]
end
section
theorem LO (n:Int):aw Tryz.prog 61 [eI n] (val (.int .i64 (aC n))):=by
 refine aa ag Tryz.func61 rfl (by decide) Tryz.ntmps61 Tryz.results61 rfl (aL _) ?_;unfold aC
 repeat' first|refine go ?_|decide|refine sp ?_ ?_<;>intro _
 all_goals
  simp only [VG,Vx,Wv,VN,Vw,Xd] at *
  (repeat' split)<;>first|rfl|(exfalso;omega)
theorem H5 (l:List Int) (q:Nat) (hq:q<=l.length) (hl:l.length<=1000000):aw Tryz.prog 26 [.sl 9 (l.map I7),eI ((q:Int) - 1)] (val (.int .i64 (ls l q 1))):=by
 refine aa ag Tryz.func26 rfl (by decide) Tryz.ntmps26 Tryz.results26 rfl (aL _) ?_
 repeat' first|refine go ?_|decide|refine sp ?_ ?_<;>intro _
 refine af (fun st=>∃ k w:Nat,k<=q /\ (1<=w /\ w+k<=q+1 /\ ls l q 1=ls l k w) /\ st=⟨28,[(0,.sl 9 (l.map I7)),(5,eI (w:Int)),(6,eI ((k:Int) - 1))],[],0⟩) (fun st=>(match st.get 6 with | .c (.int _ n)=>(n+1).toNat | _=>0)) ⟨_,wC,q,1,Os _,⟨Os _,by omega,rfl⟩,rfl⟩ ?_;rintro _ ⟨k,w,hk,⟨hw1,hw2,hB⟩,rfl⟩;rw [hB]
 cases k with
 | zero=>
  have e0:decide ((0:Int)<=((0:Nat):Int) - 1)=false:=by decide
  rw [ls]
  repeat' first|refine ge e0 ?_|decide|refine sp ?_ ?_<;>intro _
 | succ j=>
  have ej:((j+1:Nat):Int) - 1=(j:Int):=by omega
  have hj:j<l.length:=by omega
  simp only [ej];obtain ⟨x,hx⟩:∃ x,x=l[j]:=⟨_,rfl⟩;have hrow:(l.map I7)[j]?.getD []=I7 x:=by rw [hx];simp [hj]
  have hg:l.getD j 0=x:=by rw [hx];simp [List.getD,hj]
  have hA:=LO x;have ew:IntKind.i64.wrap ((j:Int) - 1)=(j:Int) - 1:=aD (by omega) (by omega);have d0:decide ((0:Int)<=(j:Int))=true:=by simp
  rw [ls,hg] at hB ⊢;rcases lg x with e|e|e|e
  .rw [e] at hA;rw [Vn e] at hB ⊢;have e1:IntKind.i64.wrap ((0:Int) - 1) = -1:=(by decide);have e2:IntKind.i64.wrap ((w:Int) + -1)=((w - 1:Nat):Int):=by rw [aD (by omega) (by omega)];omega
   have d1:decide ((0:Int)<0)=false:=(by decide);by_cases hw:w=1
   .have d2:(((w - 1:Nat):Int) == 0)=true:=Wv.2 (by omega);rw [Vn hw]
    repeat' first|refine gf (kf @hrow (kf hj (kf e1 (kf e2 (kf d0 (kf d1 d2)))))) ?_|decide|refine sp ?_ ?_<;>intro _|refine cA hA ?_|fail
   .have d2:(((w - 1:Nat):Int) == 0)=false:=VN.2 (by omega);rw [Vh hw] at hB ⊢
    repeat' first|refine gf (kf @hrow (kf hj (kf e1 (kf e2 (kf d0 (kf d1 d2)))))) ?_|decide|refine sp ?_ ?_<;>intro _|refine cA hA ?_|fail
    all_goals
     rw [<- hB];exact rI (wE ew) ⟨j,w - 1,by omega,⟨by omega,by omega,hB⟩,rfl⟩
  .rw [e] at hA;rw [Vh (by omega),Vn e] at hB ⊢;have e1:IntKind.i64.wrap ((1:Int) - 1)=0:=(by decide);have e2:IntKind.i64.wrap ((w:Int)+0)=(w:Int):=by rw [aD (by omega) (by omega)];omega
   have d1:decide ((1:Int)<0)=false:=(by decide);have d2:((w:Int) == 0)=false:=VN.2 (by omega)
   repeat' first|refine gf (kf @hrow (kf hj (kf e1 (kf e2 (kf d0 (kf d1 d2)))))) ?_|decide|refine sp ?_ ?_<;>intro _|refine cA hA ?_|fail
   all_goals
    rw [<- hB];exact rI (wE ew) ⟨j,w,by omega,⟨by omega,by omega,hB⟩,rfl⟩
  .rw [e] at hA;rw [Vh (by omega),Vh (by omega),Vn e] at hB ⊢;have e1:IntKind.i64.wrap ((2:Int) - 1)=1:=(by decide);have e2:IntKind.i64.wrap ((w:Int)+1)=((w+1:Nat):Int):=by rw [aD (by omega) (by omega)];omega
   have d1:decide ((2:Int)<0)=false:=(by decide);have d2:(((w+1:Nat):Int) == 0)=false:=VN.2 (by omega)
   repeat' first|refine gf (kf @hrow (kf hj (kf e1 (kf e2 (kf d0 (kf d1 d2)))))) ?_|decide|refine sp ?_ ?_<;>intro _|refine cA hA ?_|fail
   all_goals
    rw [<- hB];exact rI (wE ew) ⟨j,w+1,by omega,⟨by omega,by omega,hB⟩,rfl⟩
  .rw [e] at hA;rw [Vh (by omega),Vh (by omega),Vh (by omega)];have d1:decide ((-1:Int)<0)=true:=(by decide)
   repeat' first|refine gf (kf @hrow (kf hj (kf d0 d1))) ?_|decide|refine sp ?_ ?_<;>intro _|refine cA hA ?_|fail
theorem CD (l:List Int) (hl:l.length<=1000000):aw Tryz.prog 12 [.sl 9 (l.map I7)] (val (.int .i64 (lS l))):=by
 refine aa ag Tryz.func12 rfl (by decide) Tryz.ntmps12 Tryz.results12 rfl (aL _) ?_;have ew:IntKind.i64.wrap ((l.length:Int) - 1)=(l.length:Int) - 1:=aD (by omega) (by omega);have hB:=H5 l l.length (Os _) hl;unfold lS;by_cases h0:l.length=0
 .have d0:((l.length:Int) == 0)=true:=Wv.2 (by omega);rw [Vn h0]
  repeat' first|refine gf d0 ?_|decide|refine sp ?_ ?_<;>intro _
 .have d0:((l.length:Int) == 0)=false:=VN.2 (by omega);rw [Vh h0];by_cases h1:64<l.length
  .have d1:decide ((64:Int)<(l.length:Int))=true:=VC (by omega);rw [Vn h1]
   repeat' first|refine gf (kf d0 d1) ?_|decide|refine sp ?_ ?_<;>intro _
  .have d1:decide ((64:Int)<(l.length:Int))=false:=Vu (by omega);rw [Vh h1];by_cases h2:ls l l.length 1=0
   .have d2:(ls l l.length 1 != 0)=false:=(by simp [h2]);rw [Vn h2]
    repeat' first|refine gf (kf d0 (kf d1 (kf d2 ew))) ?_|decide|refine sp ?_ ?_<;>intro _|refine cA hB ?_|fail
   .have d2:(ls l l.length 1 != 0)=true:=(by simp [h2]);rw [Vh h2]
    repeat' first|refine gf (kf d0 (kf d1 (kf d2 ew))) ?_|decide|refine sp ?_ ?_<;>intro _|refine cA hB ?_|fail
def BS (e:TypeId) (sz:Nat) (rows:List (List AV)) (R:cM):Prop:=R=iZ e sz rows \/ (R=val (.slice none 0 0) /\ rows=[])
theorem jF {P:Program} {f:FuncId} {args:List AV} (e:TypeId) {sz:Nat} {rows:List (List AV)} (h:dt P f args (BS e sz rows)):aw P f args ⟨.sl sz rows,[],0⟩:=oG h
theorem jv {e:TypeId} {sz:Nat} {rows:List (List AV)} (h:rows=[]):BS e sz rows (val (.slice none 0 0)):=.inr ⟨rfl,h⟩
theorem kG {e:TypeId} {sz:Nat} {rows:List (List AV)}:BS e sz rows (iZ e sz rows):=.inl rfl
theorem Nm (l:List ah) (hl:l.length<=70):aw Tryz.prog 13 [aR l] (iZ 101 9 ((l.map ah.op).map I7)):=by
 refine aa ag Tryz.func13 rfl (by decide) Tryz.ntmps13 Tryz.results13 rfl (cT _ _ _) ?_
 repeat' first|refine go ?_|decide|refine sp ?_ ?_<;>intro _
 refine af (fun st=>∃ k:Nat,k<=l.length /\ st=⟨25,[(0,aR l),(3,.osl 0),(4,eI (k:Int))],[(0,some (.row 101 9 (((l.take k).map ah.op).map I7)))],1⟩) (fun st=>l.length - ax st 4) ⟨_,((bA 3 101 9 (by simp only [jn,aj.get,bh,aj.put,↓reduceIte,reduceCtorEq,Nat.reduceLT,Nat.reduceEqDiff,Nat.reduceAdd,Nat.reduceLeDiff,eq_self,implies_true,VA,VP])).trans (wS [0] @VA)),0,Vg _,rfl⟩ ?_;rintro _ ⟨k,hk,rfl⟩;by_cases hlt:k<l.length
 .have et:((l.take (k+1)).map ah.op).map I7=((l.take k).map ah.op).map I7 ++ [I7 l[k].op]:=by
   rw [Vk hlt];simp only [VE,VY,VP]
  obtain ⟨x,hx⟩:∃ x,x=l[k]:=⟨_,rfl⟩;have hrow:(l.map bX)[k]?.getD []=bX x:=by rw [hx];simp [hlt]
  have d7:decide ((k:Int)<70)=true:=VC (by omega);have htl:(l.take k).length<=70:=by rw [Vr];omega
  rw [<- hx] at et
  repeat' first|refine gf (kf @hrow (kf @hlt d7)) ?_|decide|refine sp ?_ ?_<;>intro _|(with_reducible apply And.intro)
  all_goals first
   | rfl
   | omega
   | exact rI (wS [2] et) ⟨k+1,by omega,rfl⟩
 .obtain rfl:k=l.length:=by omega
  repeat' first|refine gf (kf @hlt @Vq) ?_|decide|refine sp ?_ ?_<;>intro _
  exact aY (by simp [ae.gc])
end
end
section
section
def cn (g r:Int):Int:=if g<0 then 0 else min g (cR r)
abbrev eP (p:Int × Int):List AV:=[eI p.1,eI p.2]
theorem lK (r:Int):0<=cR r /\ cR r<=1048575:=by
 unfold cR;have h1:(2:Nat) ^ (min r.toNat 20)<=2 ^ 20:=VU (by omega) (by omega);have h2:((2 ^ (min r.toNat 20):Nat):Int)=(2:Int) ^ (min r.toNat 20):=by simp
 have h3:(0:Int)<2 ^ (min r.toNat 20):=Int.pow_pos (by omega);omega
theorem te (g r:Int):0<=cn g r /\ cn g r<=cR r:=by
 have:=lK r;unfold cn;split<;>omega
theorem nA (g r:Int):aw Tryz.prog 177 [eI g,eI r] (val (.int .i64 (cn g r))):=by
 refine aa ag Tryz.func177 rfl (by decide) Tryz.ntmps177 Tryz.results177 rfl (aL _) ?_;have hC:=uA r;by_cases h:g<0
 .have d:decide (g<0)=true:=by simpa using h
  unfold cn;rw [Vn h]
  repeat' first|refine gf d ?_|decide|refine sp ?_ ?_<;>intro _
 .have d:decide (g<0)=false:=by simpa using h
  unfold cn;rw [Vh h]
  repeat' first|refine gf d ?_|decide|refine sp ?_ ?_<;>intro _|refine cA hC ?_|fail
theorem UT:(0:Int)<=1:=by decide
theorem UI:(0:Int)<((2:Nat):Int):=by decide
theorem UO:(1:Int)<((2:Nat):Int):=by decide
def lT (l:List (Int × Int)) (a b:Int):Bool:=l.any fun p=>p.1 == a && p.2 == b
theorem KN {l:List (Int × Int)} {k:Nat} (hk:k<l.length) (a b:Int):lT (l.take (k+1)) a b=(lT (l.take k) a b || (l[k].1 == a && l[k].2 == b)):=by
 unfold lT;rw [Vk hk,List.any_append];simp
theorem ME {l:List (Int × Int)} (k:Nat) (a b:Int) (h:lT (l.take k) a b=true):lT l a b=true:=by
 unfold lT at *;rw [Xz] at *;obtain ⟨x,hx,h⟩:=h;exact ⟨x,VQ hx,h⟩
theorem B3 (l:List (Int × Int)) (a b:Int) (hl:l.length<=1000000000000):aw Tryz.prog 179 [.sl 2 (l.map eP),eI a,eI b] (val (.bool (lT l a b))):=by
 refine aa ag Tryz.func179 rfl (by decide) Tryz.ntmps179 Tryz.results179 rfl (aL _) ?_
 repeat' first|refine go ?_|decide|refine sp ?_ ?_<;>intro _
 refine af (fun st=>∃ k:Nat,k<=l.length /\ lT (l.take k) a b=false /\ st=⟨30,[(0,.sl 2 (l.map eP)),(1,eI a),(2,eI b),(7,eI (k:Int))],[],0⟩) (fun st=>l.length - ax st 7) ⟨_,wC,0,Vg _,rfl,rfl⟩ ?_;rintro _ ⟨k,hk,hI,rfl⟩;by_cases hlt:k<l.length
 .have hp:=KN hlt a b;rw [hI,Bool.false_or] at hp;obtain ⟨x,hx⟩:∃ x,x=l[k]:=⟨_,rfl⟩;have hrow:(l.map eP)[k]?.getD []=eP x:=by rw [hx];simp [hlt]
  rw [<- hx] at hp;have q0:List.drop (Int.toNat 0 * 1) (eP x)=[eI x.1,eI x.2]:=rfl;have q1:List.drop (Int.toNat 1 * 1) (eP x)=[eI x.2]:=rfl
  cases h1:x.1 == a with
  | false=>
   rw [h1,Wf] at hp
   repeat' first|refine ge (kf @hrow (kf @hlt (kf h1 (kf UI q0)))) ?_|decide|refine sp ?_ ?_<;>intro _
   exact rI wC ⟨k+1,by omega,hp,rfl⟩
  | true=>
   cases h2:x.2 == b with
   | false=>
    rw [h1,h2,V4] at hp
    repeat' first|refine ge (kf @hrow (kf @hlt (kf h1 (kf h2 (kf UI (kf UO (kf q0 (kf q1 UT)))))))) ?_|decide|refine sp ?_ ?_<;>intro _
    exact rI wC ⟨k+1,by omega,hp,rfl⟩
   | true=>
    rw [h1,h2,V4] at hp;have:=ME _ _ _ hp;rw [this]
    repeat' first|refine ge (kf @hrow (kf @hlt (kf h1 (kf h2 (kf UI (kf UO (kf q0 (kf q1 UT)))))))) ?_|decide|refine sp ?_ ?_<;>intro _
 .obtain rfl:k=l.length:=by omega
  rw [Vq] at hI;rw [hI]
  repeat' first|refine ge @hlt ?_|decide|refine sp ?_ ?_<;>intro _
def iB (g r:Int):Nat -> List (Int × Int)
 | 0=>[]
 | a+1=>if lT (iB g r a) (cn a (r - 1)) (cn (g - 1 - a) (r - 1))=true then iB g r a else iB g r a ++ [(cn a (r - 1),cn (g - 1 - a) (r - 1))]
theorem pQ (g r:Int):∀ a,(iB g r a).length<=a
 | 0=>Os _
 | a+1=>by
  have:=pQ g r a;rw [iB];split
  .omega
  .rw [Vi,Vy];omega
theorem Rm (q:Nat) (r:Int) (hq:q<=100000000) (hr:-1000000<=r /\ r<=1000000):aw Tryz.prog 178 [eI (q:Int),eI r] (iZ 55 2 ((iB (q:Int) r q).map eP)):=by
 refine aa ag Tryz.func178 rfl (by decide) Tryz.ntmps178 Tryz.results178 rfl (cT _ _ _) ?_;have er:IntKind.i64.wrap (r - 1)=r - 1:=aD (by omega) (by omega)
 repeat' first|refine go ?_|decide|refine sp ?_ ?_<;>intro _
 refine af (fun st=>∃ k:Nat,k<=q /\ st=⟨37,[(0,eI (q:Int)),(1,eI r),(5,.osl 0),(6,eI (k:Int))],[(0,some (.row 55 2 ((iB (q:Int) r k).map eP)))],1⟩) (fun st=>q - ax st 6) ⟨_,((bA 5 55 2 (by simp only [jn,aj.get,bh,aj.put,↓reduceIte,reduceCtorEq,Nat.reduceLT,Nat.reduceEqDiff,Nat.reduceAdd,Nat.reduceLeDiff,eq_self,implies_true,iB,VP])).trans (wS [0] (kf @iB.eq_1 @iB.eq_2))),0,Vg _,rfl⟩ ?_;rintro _ ⟨k,hk,rfl⟩;by_cases hlt:k<q
 .have e1:IntKind.i64.wrap ((q:Int) - 1)=(q:Int) - 1:=aD (by omega) (by omega);have e2:IntKind.i64.wrap ((q:Int) - 1 - (k:Int))=(q:Int) - 1 - (k:Int):=aD (by omega) (by omega);have hlen:=pQ (q:Int) r k;have hs:=iB.eq_2 (q:Int) r k;have h1:=nA (k:Int) (r - 1);have h2:=nA ((q:Int) - 1 - (k:Int)) (r - 1);obtain ⟨x,hx⟩:∃ x,x=cn (k:Int) (r - 1):=⟨_,rfl⟩;obtain ⟨y,hy⟩:∃ y,y=cn ((q:Int) - 1 - (k:Int)) (r - 1):=⟨_,rfl⟩;rw [<- hx] at h1 hs;rw [<- hy] at h2 hs;obtain ⟨T,hT⟩:∃ T,T=iB (q:Int) r k:=⟨_,rfl⟩;rw [<- hT] at hs hlen ⊢;have h3:=B3 T x y (by omega)
  cases hh:lT T x y with
  | true=>
   rw [hh,Vn rfl] at hs;rw [hh] at h3
   repeat' first|refine gf (kf @hlt (kf er (kf e1 e2))) ?_|decide|refine sp ?_ ?_<;>intro _|refine cA h1 ?_|refine cA h2 ?_|refine cA h3 ?_|fail
   all_goals exact rI (wE hs) ⟨k+1,by omega,rfl⟩
  | false=>
   rw [hh,Vh (by simp)] at hs;rw [hh] at h3
   repeat' first|refine gf (kf @hlt (kf er (kf e1 e2))) ?_|decide|refine sp ?_ ?_<;>intro _|refine cA h1 ?_|refine cA h2 ?_|refine cA h3 ?_|fail
   all_goals
    have hm:(iB (q:Int) r (k+1)).map eP=T.map eP ++ [[eI x,eI y]]:=by rw [hs];simp
    exact ⟨rfl,⟨by omega,by omega⟩,rI (wS [2] hm) ⟨k+1,by omega,rfl⟩⟩
 .obtain rfl:k=q:=by omega
  repeat' first|refine ge @hlt ?_|decide|refine sp ?_ ?_<;>intro _
  exact aY (by simp [ae.gc])
def eM (all:List (Int × Int)) (a b:Nat):List (Int × Int):=((List.range b).filter fun (j:Nat)=>lT all (a:Int) (j:Int)).map fun (j:Nat)=>((a:Int),(j:Int))
theorem qI (all:List (Int × Int)) (a b:Nat):eM all a (b+1)=eM all a b ++ (if lT all (a:Int) (b:Int)=true then [((a:Int),(b:Int))] else []):=by
 unfold eM;rw [Wu,List.filter_append,VE]
 congr 1
 by_cases h:lT all (a:Int) (b:Int)=true
 .rw [Vn h];simp [h]
 .rw [Vh h];simp [h]
theorem ta (all:List (Int × Int)) (a b:Nat):(eM all a b).length<=b:=by
 unfold eM;rw [Vo];refine Vz (List.length_filter_le _ _) ?_;simp
def ii (all:List (Int × Int)) (c:Nat):Nat -> List (Int × Int)
 | 0=>[]
 | a+1=>ii all c a ++ eM all a (c+1)
theorem tI (all:List (Int × Int)) (c:Nat):∀ a,(ii all c a).length<=a * (c+1)
 | 0=>by simp [ii]
 | a+1=>by
  have h1:=tI all c a;have h2:=ta all a (c+1);rw [ii,Vi,Xh];omega
def MB (g r:Int):Int:=if cn g r=cR r then 3 * cn g r+3 else cn g r
def ul (g r:Int):List (Int × Int):=if r<1 \/ g<1 then [] else ii (iB (MB g r) r (MB g r).toNat) (cR (r - 1)).toNat ((cR (r - 1)).toNat+1)
theorem zZ (g r:Int):(ul g r).length<=((cR (r - 1)).toNat+1) * ((cR (r - 1)).toNat+1):=by
 unfold ul;split
 .exact Vg _
 .exact tI _ _ _
theorem KH (g r:Int) (hr:-1000000<=r /\ r<=1000000):aw Tryz.prog 150 [eI g,eI r] ⟨.sl 2 ((ul g r).map eP),[],0⟩:=by
 refine jF 55 ?_;refine bm ag Tryz.func150 rfl (by decide) Tryz.ntmps150 Tryz.results150 rfl ?_;unfold ul;by_cases hbad:r<1 \/ g<1
 .rw [Vn hbad];by_cases h1:r<1
  .have d1:decide (r<1)=true:=VC h1
   repeat' first|refine gf d1 ?_|decide|refine sp ?_ ?_<;>intro _
   all_goals exact cI (jv rfl)
  .have d1:decide (r<1)=false:=Vu h1;have d2:decide (g<1)=true:=VC (by omega)
   repeat' first|refine gf (kf d1 d2) ?_|decide|refine sp ?_ ?_<;>intro _
   all_goals exact cI (jv rfl)
 .rw [Vh hbad];have d1:decide (r<1)=false:=Vu (by omega);have d2:decide (g<1)=false:=Vu (by omega);have er:IntKind.i64.wrap (r - 1)=r - 1:=aD (by omega) (by omega);have hC:=nA g r;have hc:=te g r;have hp:=lK r;have hp1:=lK (r - 1);have hR:=uA r;have hR1:=uA (r - 1);obtain ⟨c,hcc⟩:∃ c:Nat,cR (r - 1)=(c:Int):=⟨(cR (r - 1)).toNat,by omega⟩;obtain ⟨q,hq⟩:∃ q:Nat,MB g r=(q:Int):=⟨(MB g r).toNat,by unfold MB;split<;>omega⟩;have hqb:q<=100000000:=by unfold MB at hq;split at hq<;>omega
  have e1:(MB g r).toNat=q:=by omega
  have e2:(cR (r - 1)).toNat=c:=by omega
  rw [e1,e2,hq];rw [hcc] at hR1 hp1;have hT:aw Tryz.prog 178 [eI (q:Int),eI r] ⟨.sl 2 ((iB (q:Int) r q).map eP),[],0⟩:=aw.still [0] (Rm q r hqb hr) (by simp [cM.frzs,cM.frz,iZ,ae.gc,AV.frz]) (by simp [AV.lt]);have hTl:=pQ (q:Int) r q;obtain ⟨T,hTe⟩:∃ T,T=iB (q:Int) r q:=⟨_,rfl⟩;rw [<- hTe] at hT hTl ⊢;have hcb:c<=1048575:=by omega
  have hb1:∀ a b:Nat,a<=c+1 -> b<=c+1 -> (ii T c a ++ eM T a b).length<=1099511627776+1048577:=fun a b ha hb=>by
   have h1:=tI T c a;have h2:=ta T a b;have h3:a * (c+1)<=1048576 * 1048576:=Xk (by omega) (by omega);rw [Vi];omega
  by_cases hcap:cn g r=cR r
  .have d3:(cn g r == cR r)=true:=Wv.2 hcap;have hqq:3 * cn g r+3=(q:Int):=by unfold MB at hq;rw [Vn hcap] at hq;exact hq
   have w1:IntKind.i64.wrap (3 * cn g r)=3 * cn g r:=aD (by omega) (by omega);have w2:IntKind.i64.wrap (3 * cn g r+3)=(q:Int):=by rw [hqq];exact aD (by omega) (by omega)
   repeat' first|refine gf (kf d1 (kf d2 (kf d3 (kf er (kf w1 w2))))) ?_|decide|refine sp ?_ ?_<;>intro _|refine cA hC ?_|refine cA hR ?_|refine cA hT ?_|fail
   refine af (fun st=>∃ a:Nat,a<=c+1 /\ st=⟨55,[(1,eI r),(5,.osl 0),(7,.sl 2 (T.map eP)),(8,eI (a:Int))],[(0,some (.row 55 2 ((ii T c a).map eP)))],1⟩) (fun st=>c+1 - ax st 8) ⟨_,((bA 5 55 2 (by simp only [jn,aj.get,bh,aj.put,↓reduceIte,reduceCtorEq,Nat.reduceLT,Nat.reduceEqDiff,Nat.reduceAdd,Nat.reduceLeDiff,eq_self,implies_true,ii,VP])).trans (wS [0] (kf @ii.eq_1 @ii.eq_2))),0,Vg _,rfl⟩ ?_;rintro _ ⟨a,ha,rfl⟩;by_cases hla:a<=c
   .repeat' first|refine gf (kf @hla er) ?_|decide|refine sp ?_ ?_<;>intro _|refine cA hR1 ?_|fail
    refine af (fun st=>∃ b:Nat,b<=c+1 /\ st=⟨55,[(1,eI r),(5,.osl 0),(7,.sl 2 (T.map eP)),(8,eI (a:Int)),(9,eI (b:Int))],[(0,some (.row 55 2 ((ii T c a ++ eM T a b).map eP)))],1⟩) (fun st=>c+1 - ax st 9) ⟨_,(wE (kf @eM.eq_1 (kf @Xe @List.filter_nil.{0}))),0,Vg _,rfl⟩ ?_;rintro _ ⟨b,hb,rfl⟩;by_cases hlb:b<=c
    .have hH:=B3 T (a:Int) (b:Int) (by omega);have hs:=qI T a b;have hlen:=hb1 a b ha hb;obtain ⟨O,hO⟩:∃ O,O=ii T c a ++ eM T a b:=⟨_,rfl⟩;have hs2:ii T c a ++ eM T a (b+1)=O ++ (if lT T (a:Int) (b:Int)=true then [((a:Int),(b:Int))] else []):=(by rw [hs,hO,VZ]);rw [<- hO] at hlen ⊢
     cases hh:lT T (a:Int) (b:Int) with
     | true=>
      rw [hh,Vn rfl] at hs2;rw [hh] at hH;have et:(ii T c a ++ eM T a (b+1)).map eP=O.map eP ++ [[eI (a:Int),eI (b:Int)]]:=by rw [hs2];simp
      repeat' first|refine gf (kf @hlb er) ?_|decide|refine sp ?_ ?_<;>intro _|refine cA hR1 ?_|refine cA hH ?_|(with_reducible apply And.intro)
      all_goals first
       | rfl
       | omega
       | exact rI (wS [2] et) ⟨b+1,by omega,rfl⟩
     | false=>
      rw [hh,Vh (by simp),Wn] at hs2;rw [hh] at hH
      repeat' first|refine gf (kf @hlb er) ?_|decide|refine sp ?_ ?_<;>intro _|refine cA hR1 ?_|refine cA hH ?_|fail
      all_goals exact rI (wE hs2) ⟨b+1,by omega,rfl⟩
    .obtain rfl:b=c+1:=by omega
     have hs:ii T c (a+1)=ii T c a ++ eM T a (c+1):=rfl
     repeat' first|refine gf (kf @hlb er) ?_|decide|refine sp ?_ ?_<;>intro _|refine cA hR1 ?_|fail
     all_goals exact rI (wE hs) ⟨a+1,by omega,rfl⟩
   .obtain rfl:a=c+1:=by omega
    repeat' first|refine gf (kf @hla er) ?_|decide|refine sp ?_ ?_<;>intro _|refine cA hR1 ?_|fail
    all_goals exact yf rfl kG
  .have d3:(cn g r == cR r)=false:=VN.2 hcap;have hqq:cn g r=(q:Int):=by unfold MB at hq;rw [Vh hcap] at hq;exact hq
   rw [hqq] at hC d3
   repeat' first|refine gf (kf d1 (kf d2 (kf d3 er))) ?_|decide|refine sp ?_ ?_<;>intro _|refine cA hC ?_|refine cA hR ?_|refine cA hT ?_|fail
   refine af (fun st=>∃ a:Nat,a<=c+1 /\ st=⟨55,[(1,eI r),(5,.osl 0),(7,.sl 2 (T.map eP)),(8,eI (a:Int))],[(0,some (.row 55 2 ((ii T c a).map eP)))],1⟩) (fun st=>c+1 - ax st 8) ⟨_,((bA 5 55 2 (by simp only [jn,aj.get,bh,aj.put,↓reduceIte,reduceCtorEq,Nat.reduceLT,Nat.reduceEqDiff,Nat.reduceAdd,Nat.reduceLeDiff,eq_self,implies_true,ii,VP])).trans (wS [0] (kf @ii.eq_1 @ii.eq_2))),0,Vg _,rfl⟩ ?_;rintro _ ⟨a,ha,rfl⟩;by_cases hla:a<=c
   .repeat' first|refine gf (kf @hla er) ?_|decide|refine sp ?_ ?_<;>intro _|refine cA hR1 ?_|fail
    refine af (fun st=>∃ b:Nat,b<=c+1 /\ st=⟨55,[(1,eI r),(5,.osl 0),(7,.sl 2 (T.map eP)),(8,eI (a:Int)),(9,eI (b:Int))],[(0,some (.row 55 2 ((ii T c a ++ eM T a b).map eP)))],1⟩) (fun st=>c+1 - ax st 9) ⟨_,(wE (kf @eM.eq_1 (kf @Xe @List.filter_nil.{0}))),0,Vg _,rfl⟩ ?_;rintro _ ⟨b,hb,rfl⟩;by_cases hlb:b<=c
    .have hH:=B3 T (a:Int) (b:Int) (by omega);have hs:=qI T a b;have hlen:=hb1 a b ha hb;obtain ⟨O,hO⟩:∃ O,O=ii T c a ++ eM T a b:=⟨_,rfl⟩;have hs2:ii T c a ++ eM T a (b+1)=O ++ (if lT T (a:Int) (b:Int)=true then [((a:Int),(b:Int))] else []):=(by rw [hs,hO,VZ]);rw [<- hO] at hlen ⊢
     cases hh:lT T (a:Int) (b:Int) with
     | true=>
      rw [hh,Vn rfl] at hs2;rw [hh] at hH;have et:(ii T c a ++ eM T a (b+1)).map eP=O.map eP ++ [[eI (a:Int),eI (b:Int)]]:=by rw [hs2];simp
      repeat' first|refine gf (kf @hlb er) ?_|decide|refine sp ?_ ?_<;>intro _|refine cA hR1 ?_|refine cA hH ?_|(with_reducible apply And.intro)
      all_goals first
       | rfl
       | omega
       | exact rI (wS [2] et) ⟨b+1,by omega,rfl⟩
     | false=>
      rw [hh,Vh (by simp),Wn] at hs2;rw [hh] at hH
      repeat' first|refine gf (kf @hlb er) ?_|decide|refine sp ?_ ?_<;>intro _|refine cA hR1 ?_|refine cA hH ?_|fail
      all_goals exact rI (wE hs2) ⟨b+1,by omega,rfl⟩
    .obtain rfl:b=c+1:=by omega
     have hs:ii T c (a+1)=ii T c a ++ eM T a (c+1):=rfl
     repeat' first|refine gf (kf @hlb er) ?_|decide|refine sp ?_ ?_<;>intro _|refine cA hR1 ?_|fail
     all_goals exact rI (wE hs) ⟨a+1,by omega,rfl⟩
   .obtain rfl:a=c+1:=by omega
    repeat' first|refine gf (kf @hla er) ?_|decide|refine sp ?_ ?_<;>intro _|refine cA hR1 ?_|fail
    all_goals exact yf rfl kG
end
section
def iC (L:List Int) (r:Int) (k:Nat):List Int:=(List.range (k - 1)).map fun i=>oQ (L.getD i 0) (L.getD (i+1) 0) (cR r)
theorem BG (L:List Int) (r:Int) (k:Nat):iC L r (k+2)=iC L r (k+1) ++ [oQ (L.getD k 0) (L.getD (k+1) 0) (cR r)]:=by
 unfold iC;rw [show k+2 - 1=k+1 by omega,show k+1 - 1=k by omega,Wu,VE];rfl
def o6 (vals c:List Int) (r:Int):Zn:=⟨Fo vals c,iC (iV vals c) r (iV vals c).length⟩
theorem pK (vals:List Int) (n:Int):∀ k,aI (fc vals n k)
 | 0=>by unfold fc aI;omega
 | k+1=>by
  unfold fc;split
  .exact dl (pe _ _)
  .exact pK vals n k
theorem Oq (r:Int):cR r<=4294967296:=by
 have h1:(2:Nat) ^ (min r.toNat 20)<=2 ^ 20:=VU (by omega) (by omega);have h2:((2 ^ (min r.toNat 20):Nat):Int)=(2:Int) ^ (min r.toNat 20):=by simp
 unfold cR;omega
theorem Hz (vals c:List Int) (r:Int) (h1:vals.length<=31) (h2:c.length<=400) (hv:∀ x ∈ vals,aI x) (hc:∀ x ∈ c,aI x):aw Tryz.prog 111 [sI vals,sI c,eI r] ⟨.agg (cu (o6 vals c r)),[],0⟩:=by
 refine aw.still (R:=⟨.agg [.osl 0,.osl 1],[(0,some (.row 213 2 ((Fo vals c).map cK))),(1,some (.row 3 1 ((iC (iV vals c) r (iV vals c).length).map fun n=>[eI n])))],2⟩) [0,1] ?_ (by simp [cM.frzs,cM.frz,ae.gc,AV.frz,AV.frzL,b9,aE.frz,o6]) (by simp [AV.lt,AV.ltL]);refine aa ag Tryz.func111 rfl (by decide) Tryz.ntmps111 Tryz.results111 rfl (kC (by simp [cO,aE.lt,AV.ltL,AV.lt]) (by simp [AV.lt,AV.ltL])) ?_;have hS:=fY c (by omega);have hN:=yH vals c (by omega) h2;have hLlen:(iV vals c).length<=431:=by have:=fy (vals ++ c);simp at this;unfold iV;omega
 have hSlen:(bV c).length<=400:=by have:=fy c;omega
 have hLok:∀ x ∈ iV vals c,aI x:=fun x hx=>by
  have:=((il (vals ++ c)).2 x).1 hx;rcases Vp.1 this with h|h
  .exact hv x h
  .exact hc x h
 have hcl:∀ k,(Fo vals c).take k=((iV vals c).take k).map (DH vals c):=fun k=>by unfold Fo;rw [List.map_take]
 have hgt:decide (31<(vals.length:Int))=false:=by simp only [Vx];omega
 have hgt2:decide (31<vals.length)=false:=by simp only [Vx];omega
 have hcls:Fo vals c=(iV vals c).map (DH vals c):=rfl;obtain ⟨cf,hcf⟩:∃ f,DH vals c=f:=⟨_,rfl⟩;obtain ⟨sc,hsc⟩:∃ sc,bV c=sc:=⟨_,rfl⟩;obtain ⟨L,hL⟩:∃ L,iV vals c=L:=⟨_,rfl⟩;rw [hcls,hcf];rw [hsc] at hS hSlen;rw [hL] at hN hLlen hLok ⊢;have hcfv:∀ n,cf n=⟨fc vals n vals.length,gv sc n sc.length⟩:=fun n=>by rw [<- hcf,<- hsc];rfl
 repeat' first|refine gf (kf @hgt @hgt2) ?_|decide|refine sp ?_ ?_<;>intro _|refine cA hS ?_|refine cA hN ?_|fail
 refine af (fun st=>∃ k:Nat,k<=L.length /\ st=⟨94,[(0,sI vals),(2,eI r),(6,.op 0 0 0),(7,sI sc),(8,sI L),(9,.op 1 0 0),(10,eI (k:Int))],[(0,some (.box 91 [.c (.slice none 0 0),.c (.slice none 0 0)])),(1,some (.box 91 [.osl 2,.osl 3])),(2,some (.row 213 2 ((L.take k).map fun n=>cK (cf n)))),(3,some (.row 3 1 ((iC L r k).map fun n=>[eI n])))],4⟩) (fun st=>L.length - ax st 10)
  ⟨_,((ct 1 0 213 2 (t:=91) (cells:=[.c (.slice none 0 0),.c (.slice none 0 0)]) (by simp [ae.gc]) rfl).trans ((ct 1 1 3 1 (t:=91) (cells:=[.osl 2,.c (.slice none 0 0)]) (by simp [ae.gc]) rfl).trans (wE (kf @WC (kf @W3 (kf @VA (kf @iC.eq_1 (kf @Xe @Nat.zero_sub)))))))),0,Vg _,rfl⟩ ?_
 rintro _ ⟨k,hk,rfl⟩;by_cases hlt:k<L.length
 .obtain ⟨n,hn⟩:∃ n,L[k]=n:=⟨_,rfl⟩
  repeat' first|refine gf @hlt ?_|decide|refine sp ?_ ?_<;>intro _
  refine af (fun st=>∃ i:Nat,i<=vals.length /\ st=⟨94,[(0,sI vals),(2,eI r),(6,.op 0 0 0),(7,sI sc),(8,sI L),(9,.op 1 0 0),(10,eI (k:Int)),(11,.op 4 0 0),(12,eI (i:Int))],[(0,some (.box 91 [.c (.slice none 0 0),.c (.slice none 0 0)])),(1,some (.box 91 [.osl 2,.osl 3])),(2,some (.row 213 2 ((L.take k).map fun n=>cK (cf n)))),(3,some (.row 3 1 ((iC L r k).map fun n=>[eI n]))),(4,some (.box 213 [eI (fc vals n i),eI (-1)]))],5⟩) (fun st=>vals.length - ax st 12) ⟨_,(wE (kf @fc.eq_1 @fc.eq_2)),0,Vg _,rfl⟩ ?_;rintro _ ⟨i,hi,rfl⟩;by_cases hi2:i<vals.length
  .have hP:=sY (fc vals n i) (i:Int) true (pK vals n i) (by omega) (by omega);by_cases he:vals[i]=n
   .have hev:(vals[i] == n)=true:=by simpa using he
    have hst:fc vals n (i+1)=dK (fc vals n i) (i:Int):=by
     rw [fc,Vn (by rw [Vl,f4 hi2];exact he)]
    repeat' first|refine gq ?_|simp only [ab,hi2,hlt,hn,hev]|decide|refine sp ?_ ?_<;>intro _|refine cA hP ?_|fail
    all_goals exact rI (wE @hst) ⟨i+1,by omega,rfl⟩
   .have hev:(vals[i] == n)=false:=by simpa using he
    have hst:fc vals n (i+1)=fc vals n i:=by
     rw [fc,Vh (by rw [Vl,f4 hi2];exact he)]
    repeat' first|refine gq ?_|simp only [ab,hi2,hlt,hn,hev]|decide|refine sp ?_ ?_<;>intro _
    all_goals exact rI (wE @hst) ⟨i+1,by omega,rfl⟩
  .obtain rfl:i=vals.length:=by omega
   obtain ⟨A,hA⟩:∃ A,fc vals n vals.length=A:=⟨_,rfl⟩;rw [hA]
   repeat' first|refine gf hi2 ?_|decide|refine sp ?_ ?_<;>intro _
   refine af (fun st=>∃ i:Nat,i<=sc.length /\ st=⟨94,[(0,sI vals),(2,eI r),(6,.op 0 0 0),(7,sI sc),(8,sI L),(9,.op 1 0 0),(10,eI (k:Int)),(11,.op 4 0 0),(13,eI (i:Int))],[(0,some (.box 91 [.c (.slice none 0 0),.c (.slice none 0 0)])),(1,some (.box 91 [.osl 2,.osl 3])),(2,some (.row 213 2 ((L.take k).map fun n=>cK (cf n)))),(3,some (.row 3 1 ((iC L r k).map fun n=>[eI n]))),(4,some (.box 213 [eI A,eI (gv sc n i)]))],5⟩) (fun st=>sc.length - ax st 13) ⟨_,(wE (kf @gv.eq_1 @gv.eq_2)),0,Vg _,rfl⟩ ?_;rintro _ ⟨i,hi,rfl⟩;by_cases hi3:i<sc.length
   .by_cases he:sc[i]=n
    .have hev:(sc[i] == n)=true:=by simpa using he
     have hst:gv sc n (i+1)=(i:Int):=by
      rw [gv,Vn (by rw [Vl,f4 hi3];exact he)]
     repeat' first|refine gq ?_|simp only [ab,hi3,hlt,hn,hev]|decide|refine sp ?_ ?_<;>intro _
     all_goals exact rI (wE @hst) ⟨i+1,by omega,rfl⟩
    .have hev:(sc[i] == n)=false:=by simpa using he
     have hst:gv sc n (i+1)=gv sc n i:=by
      rw [gv,Vh (by rw [Vl,f4 hi3];exact he)]
     repeat' first|refine gq ?_|simp only [ab,hi3,hlt,hn,hev]|decide|refine sp ?_ ?_<;>intro _
     all_goals exact rI (wE @hst) ⟨i+1,by omega,rfl⟩
   .obtain rfl:i=sc.length:=by omega
    have hx:cf n=⟨A,gv sc n sc.length⟩:=(by rw [hcfv,hA]);have hsn:(L.take (k+1)).map (fun n=>cK (cf n))=(L.take k).map (fun n=>cK (cf n)) ++ [[eI A,eI (gv sc n sc.length)]]:=(by rw [dT _ L hlt,hn,hx]);have htl:(L.take k).length<=431:=by rw [Vr];omega
    obtain ⟨C,hC⟩:∃ C,gv sc n sc.length=C:=⟨_,rfl⟩;rw [hC] at hsn ⊢
    cases k with
    | zero=>
     have hg:iC L r (0+1)=iC L r 0:=rfl;have d1:decide (0<((0:Nat):Int))=false:=(by decide);have d2:decide (0<0)=false:=(by decide)
     repeat' first|refine gf (kf hi3 (kf d1 d2)) ?_|decide|refine sp ?_ ?_<;>intro _|(with_reducible apply And.intro)
     all_goals first
      | rfl
      | omega
      | (simp;omega)
      | exact rI (wS [0,1,6,3] (kf @hsn hg)) ⟨0+1,by omega,rfl⟩
    | succ k=>
     have hk0:k<L.length:=(by omega);have hgs:=BG L r k;have e0:L.getD k 0=L[k]:=by rw [Vl,f4 hk0];rfl
     have e1:L.getD (k+1) 0=n:=by rw [Vl,f4 hlt];exact hn
     rw [e0,e1] at hgs;have hgl:(iC L r (k+1)).length<=431:=by simp [iC];omega
     have hG:=O5 L[k] n (cR r) (hLok _ (Vf hk0)) (hn ▸ hLok _ (Vf hlt)) (Oq r);have hCp:=uA r;have ek:IntKind.i64.wrap (((k+1:Nat):Int) - 1)=(k:Int):=by rw [aD (by omega) (by omega)];omega
     have d1:decide (0<((k+1:Nat):Int))=true:=by simp only [VG];omega
     have d2:decide (0<k+1)=true:=(by simp);have hgm:(iC L r (k+2)).map (fun n=>[eI n])=(iC L r (k+1)).map (fun n=>[eI n]) ++ [[eI (oQ L[k] n (cR r))]]:=by rw [hgs];simp
     repeat' first|refine ge (kf hi3 (kf d1 d2)) ?_|decide|refine sp ?_ ?_<;>intro _
     refine ap [1,3] [0,2,3,4,5,6,7,8,9,10,11] (.two 1 (.exec 12 (.exec 13 (.exec 14 (.exec 15 (.take 16 (.exec 17 .done)))))) 12 (.two 1 (.exec 13 (.exec 14 (.exec 15 (.take 16 (.exec 17 .done))))) 13 (.two 1 (.exec 14 (.exec 15 (.take 16 (.exec 17 .done)))) 14 (.exec 1 (.exec 15 (.take 16 (.exec 17 .done))))))) (by kernel_rfl) (by simp [ae.gc]) ?_
     repeat' first|refine gq ?_|simp only [ab,hlt,hk0,hn,ek]|decide|refine sp ?_ ?_<;>intro _|refine cA hCp ?_|refine cA hG ?_|(with_reducible apply And.intro)
     all_goals first
      | rfl
      | omega
      | (simp;omega)
      | exact rI (wS [0,1,8,6] (kf @hsn @hgm)) ⟨k+1+1,by omega,rfl⟩
 .obtain rfl:k=L.length:=by omega
  repeat' first|refine gf (kf @hlt @Vq) ?_|decide|refine sp ?_ ?_<;>intro _
  exact ⟨[2,3],by decide,rfl,by simp [cH,ae.gc]⟩
end
end
section
section
def Tq (z:Zn) (i:Nat) (r:Int) (k:Nat):Int:=if k=i+1 then cn (cn (z.gaps.getD (i - 1) 0) r+cn (z.gaps.getD i 0) r+1) r else z.gaps.getD (k - 1) 0
instance:Inhabited fQ:=⟨⟨0,0⟩⟩
def mP (z:Zn) (i:Nat) (r:Int):Nat -> Zn
 | 0=>⟨[],[]⟩
 | k+1=>if k=i then mP z i r k else ⟨(mP z i r k).cls ++ [z.cls.getD k default],if (mP z i r k).cls.length=0 then (mP z i r k).gaps else (mP z i r k).gaps ++ [Tq z i r k]⟩
theorem xz (z:Zn) (i:Nat) (r:Int):∀ k,(mP z i r k).cls.length=if i<k then k - 1 else k
 | 0=>by simp [mP]
 | k+1=>by
  have h:=xz z i r k;rw [mP];split
  .rename_i e;rw [h,e,Vh (by omega),Vn (by omega)];omega
  .rename_i e;rw [Vi,Vy,h];split<;>split<;>omega
theorem tV (z:Zn) (i:Nat) (r:Int):∀ k,(mP z i r k).gaps.length=(mP z i r k).cls.length - 1
 | 0=>by simp [mP]
 | k+1=>by
  have h:=tV z i r k;rw [mP];split
  .exact h
  .simp only [Vi,Vy];split
   .rw [h];omega
   .rw [Vi,Vy,h];omega
theorem GH (z:Zn) (i:Nat) (r:Int) (hi:i<z.cls.length) (hc:z.cls.length<=1000000) (hg:z.gaps.length=z.cls.length - 1):aw Tryz.prog 151 [.agg (cu z),eI (i:Int),eI r] ⟨.agg (cu (mP z i r z.cls.length)),[],0⟩:=by
 refine aw.still (R:=⟨.agg [.osl 0,.osl 1],[(0,some (.row 213 2 ((mP z i r z.cls.length).cls.map cK))),(1,some (.row 3 1 ((mP z i r z.cls.length).gaps.map fun n=>[eI n])))],2⟩) [0,1] ?_ (by simp [cM.frzs,cM.frz,ae.gc,AV.frz,AV.frzL,b9,aE.frz]) (by simp [AV.lt,AV.ltL]);refine aa ag Tryz.func151 rfl (by decide) Tryz.ntmps151 Tryz.results151 rfl (kC (by simp [cO,aE.lt,AV.ltL,AV.lt]) (by simp [AV.lt,AV.ltL])) ?_;have ei:IntKind.i64.wrap ((i:Int) - 1)=(i:Int) - 1:=aD (by omega) (by omega)
 repeat' first|refine go ?_|decide|refine sp ?_ ?_<;>intro _
 refine af (fun st=>∃ k:Nat,k<=z.cls.length /\ st=⟨66,[(1,eI (i:Int)),(2,eI r),(3,.op 0 0 0),(6,.op 1 0 0),(7,.op 2 0 0),(8,eI (k:Int))],[(0,some (.box 91 (cu z))),(1,some (.box 91 [.c (.slice none 0 0),.c (.slice none 0 0)])),(2,some (.box 91 [.osl 3,.osl 4])),(3,some (.row 213 2 ((mP z i r k).cls.map cK))),(4,some (.row 3 1 ((mP z i r k).gaps.map fun n=>[eI n])))],5⟩) (fun st=>z.cls.length - ax st 8)
  ⟨_,((ct 2 0 213 2 (t:=91) (cells:=[.c (.slice none 0 0),.c (.slice none 0 0)]) (by simp [ae.gc]) rfl).trans ((ct 2 1 3 1 (t:=91) (cells:=[.osl 3,.c (.slice none 0 0)]) (by simp [ae.gc]) rfl).trans (wE (kf @WC (kf @W3 (kf @mP.eq_1 @mP.eq_2)))))),0,Vg _,rfl⟩ ?_
 rintro _ ⟨k,hk,rfl⟩;by_cases hlt:k<z.cls.length
 .have hl1:=xz z i r k;have hl2:=tV z i r k;have hs:=mP.eq_2 z i r k;have hW:(mP z i r k).cls.length<=1000000:=by rw [hl1];split<;>omega
  obtain ⟨x,hx⟩:∃ x,z.cls[k]=x:=⟨_,rfl⟩;have hxg:z.cls.getD k default=x:=by rw [Vl,f4 hlt,<- hx];rfl
  have hrx:(z.cls.map cK)[k]?.getD []=cK x:=by simp [hlt,hx]
  rw [hxg] at hs;obtain ⟨o,ho⟩:∃ o,o=mP z i r k:=⟨_,rfl⟩;rw [<- ho] at hs hl1 hl2 hW ⊢;by_cases he:k=i
  .have d1:((k:Int) == (i:Int))=true:=Wv.2 (by omega);rw [Vn he] at hs
   repeat' first|refine gf (kf @hlt d1) ?_|decide|refine sp ?_ ?_<;>intro _
   all_goals exact rI (wE hs) ⟨k+1,by omega,rfl⟩
  .have d1:((k:Int) == (i:Int))=false:=VN.2 (by omega);rw [Vh he] at hs;have hcm:((mP z i r (k+1)).cls).map cK=o.cls.map cK ++ [cK x]:=by rw [hs];simp
   by_cases h0:o.cls.length=0
   .have d2:decide ((0:Int)<(o.cls.length:Int))=false:=Vu (by omega);have hgm:(mP z i r (k+1)).gaps=o.gaps:=by rw [hs];simp [h0]
    repeat' first|refine ge (kf @hlt (kf d1 d2)) ?_|decide|refine sp ?_ ?_<;>intro _
    refine ap [2,3] [0,2,3,4,5,6] (.two 1 (.exec 7 (.exec 8 (.take 9 (.exec 10 .done)))) 7 (.exec 1 (.exec 8 (.take 9 (.exec 10 .done))))) (by kernel_rfl) (by simp [ae.gc]) ?_
    repeat' first|refine gf (kf @hrx @hlt) ?_|decide|refine sp ?_ ?_<;>intro _|(with_reducible apply And.intro)
    all_goals first
     | rfl
     | omega
     | exact rI (wS [0,1,2,6,4] (kf @hcm @hgm)) ⟨k+1,by omega,rfl⟩
   .have d2:decide ((0:Int)<(o.cls.length:Int))=true:=VC (by omega)
    have hk1:1<=k:=by
     rw [hl1] at h0;split at h0<;>omega
    have hgm:(mP z i r (k+1)).gaps.map (fun n=>[eI n])=o.gaps.map (fun n=>[eI n]) ++ [[eI (Tq z i r k)]]:=by rw [hs];simp [h0]
    have ek:IntKind.i64.wrap ((k:Int) - 1)=((k - 1:Nat):Int):=by rw [aD (by omega) (by omega)];omega
    have hkg:k - 1<z.gaps.length:=(by omega);obtain ⟨y,hy⟩:∃ y,z.gaps[k - 1]=y:=⟨_,rfl⟩;have hry:(z.gaps.map fun n=>[eI n])[k - 1]?.getD []=[eI y]:=(by simp [hkg,hy]);by_cases h1:k=i+1
    .have d3:(((k - 1:Nat):Int) == (i:Int))=true:=Wv.2 (by omega)
     have hi1:1<=i:=by
      rw [hl1] at h0;split at h0<;>omega
     have ei2:IntKind.i64.wrap ((i:Int) - 1)=((i - 1:Nat):Int):=by rw [ei];omega
     have hig:i - 1<z.gaps.length:=(by omega);obtain ⟨u,hu⟩:∃ u,z.gaps[i - 1]=u:=⟨_,rfl⟩;have hru:(z.gaps.map fun n=>[eI n])[i - 1]?.getD []=[eI u]:=(by simp [hig,hu]);have c1:=nA u r;have c2:=nA y r;have hb1:=te u r;have hb2:=te y r;have hb3:=lK r
     have eG:Tq z i r k=cn (cn u r+cn y r+1) r:=by
      rw [Tq,Vn h1,Vl,f4 hig,Vl,f4 (by omega),VH,VH,hu];simp only [<- hy,h1,WB]
     rw [eG] at hgm;obtain ⟨p,hp⟩:∃ p,p=cn u r:=⟨_,rfl⟩;obtain ⟨q,hq⟩:∃ q,q=cn y r:=⟨_,rfl⟩;rw [<- hp] at c1 hb1;rw [<- hq] at c2 hb2;rw [<- hp,<- hq] at hgm;have e1:IntKind.i64.wrap (p+q)=p+q:=aD (by omega) (by omega);have e2:IntKind.i64.wrap (p+q+1)=p+q+1:=aD (by omega) (by omega);have c3:=nA (p+q+1) r;have hgl:o.gaps.length<=1000000:=(by omega)
     repeat' first|refine gf (kf @hlt (kf d1 (kf d2 (kf d3 (kf ek (kf ei2 (kf @hkg (kf @hig (kf @hry (kf @hru (kf e1 e2))))))))))) ?_|decide|refine sp ?_ ?_<;>intro _|refine cA c1 ?_|refine cA c2 ?_|refine cA c3 ?_|fail
     refine ⟨rfl,⟨by omega,by omega⟩,?_⟩;refine ap [2,3] [0,2,3,4,5,6] (.two 1 (.exec 7 (.exec 8 (.take 9 (.exec 10 .done)))) 7 (.exec 1 (.exec 8 (.take 9 (.exec 10 .done))))) (by kernel_rfl) (by simp [ae.gc]) ?_
     repeat' first|refine gf (kf @hrx @hlt) ?_|decide|refine sp ?_ ?_<;>intro _|(with_reducible apply And.intro)
     all_goals first
      | rfl
      | omega
      | exact rI (wS [0,1,2,8,6] (kf @hcm @hgm)) ⟨k+1,by omega,rfl⟩
    .have d3:(((k - 1:Nat):Int) == (i:Int))=false:=VN.2 (by omega);have eG:Tq z i r k=y:=(by rw [Tq,Vh h1,Vl,f4 hkg,VH,hy]);rw [eG] at hgm;have hgl:o.gaps.length<=1000000:=(by omega)
     repeat' first|refine gf (kf @hlt (kf d1 (kf d2 (kf d3 (kf ek (kf @hkg @hry)))))) ?_|decide|refine sp ?_ ?_<;>intro _
     refine ⟨rfl,⟨by omega,by omega⟩,?_⟩;refine ap [2,3] [0,2,3,4,5,6] (.two 1 (.exec 7 (.exec 8 (.take 9 (.exec 10 .done)))) 7 (.exec 1 (.exec 8 (.take 9 (.exec 10 .done))))) (by kernel_rfl) (by simp [ae.gc]) ?_
     repeat' first|refine gf (kf @hrx @hlt) ?_|decide|refine sp ?_ ?_<;>intro _|(with_reducible apply And.intro)
     all_goals first
      | rfl
      | omega
      | exact rI (wS [0,1,2,8,6] (kf @hcm @hgm)) ⟨k+1,by omega,rfl⟩
 .obtain rfl:k=z.cls.length:=by omega
  repeat' first|refine gf @hlt ?_|decide|refine sp ?_ ?_<;>intro _
  exact ⟨[3,4],by decide,rfl,by simp [cH,ae.gc]⟩
structure mU (N:Nat) (z:Zn):Prop where
 cl:z.cls.length<=N
 ga:z.gaps.length<=N
 at_:∀ x ∈ z.cls,aI x.attrs
def rk (z:Zn) (a:Int) (i:Nat):Zn:=⟨z.cls.set i ⟨co (z.cls.getD i default).attrs a,(z.cls.getD i default).const⟩,z.gaps⟩
def DN (a r:Int):Nat -> Zn -> Nat -> Zn
 | 0,z,_=>z
 | n+1,z,i=>
  if z.cls.length<=i then z
  else if bp (z.cls.getD i default).attrs a=false then DN a r n z (i+1)
  else if co (z.cls.getD i default).attrs a=0 /\ (z.cls.getD i default).const = -1 then DN a r n (mP (rk z a i) i r z.cls.length) i
  else DN a r n (rk z a i) (i+1)
def fp (z:Zn) (a r:Int):Zn:=if (z.gaps.length:Int)=max ((z.cls.length:Int) - 1) 0 then DN a r z.cls.length z 0 else z
theorem yN (s i:Int):aI (co s i):=dl (mc s i)
theorem rL (z:Zn) (i:Nat) (r:Int):∀ k,k<=z.cls.length -> ∀ x ∈ (mP z i r k).cls,x ∈ z.cls
 | 0,_,x,hx=>by simp [mP] at hx
 | k+1,hk,x,hx=>by
  rw [mP] at hx;split at hx
  .exact rL z i r k (by omega) x hx
  .rcases Vp.1 hx with h | h
   .exact rL z i r k (by omega) x h
   .simp only [VF] at h;subst h;rw [Vl,f4 (by omega),VH];exact Vf _
theorem Du (z:Zn) (a:Int) (i:Nat):(rk z a i).cls.length=z.cls.length:=by simp [rk]
theorem IJ {z:Zn} (a:Int) (i:Nat) (h:∀ x ∈ z.cls,aI x.attrs):∀ x ∈ (rk z a i).cls,aI x.attrs:=by
 intro x hx;rcases Wj hx with h1|h1
 .exact h x h1
 .rw [h1];exact yN _ _
theorem ye (z:Zn) (i:Nat) (r:Int) (hi:i<z.cls.length):(mP z i r z.cls.length).cls.length=z.cls.length - 1 /\ (mP z i r z.cls.length).gaps.length=z.cls.length - 1 - 1:=by
 have h1:=xz z i r z.cls.length;rw [Vn hi] at h1;exact ⟨h1,by rw [tV,h1]⟩
def UY (st:aj):Nat:=match st.tab.get 0 with
 | some (.box _ (.sl _ rows :: _))=>rows.length - ax st 7
 | _=>0
theorem RN (z:Zn) (a r:Int) {N:Nat} (hN:N<=1000000) (hz:mU N z) (ha:0<=a /\ a<31):aw Tryz.prog 117 [.agg (cu z),eI a,eI r] ⟨.agg (cu (fp z a r)),[],0⟩:=by
 have hcl:=hz.cl;refine aa ag Tryz.func117 rfl (by decide) Tryz.ntmps117 Tryz.results117 rfl (⟨fun id o h=>(by cases h),⟨trivial,trivial,trivial⟩⟩) ?_;have ew:IntKind.i64.wrap ((z.cls.length:Int) - 1)=(z.cls.length:Int) - 1:=aD (by omega) (by omega);by_cases hg:(z.gaps.length:Int)=max ((z.cls.length:Int) - 1) 0
 .have d0:((z.gaps.length:Int) != max ((z.cls.length:Int) - 1) 0)=false:=by simp [hg]
  have hD:fp z a r=DN a r z.cls.length z 0:=Vn hg;rw [hD];obtain ⟨Q,hQ⟩:∃ Q,Q=DN a r z.cls.length z 0:=⟨_,rfl⟩;rw [<- hQ]
  repeat' first|refine ge (kf ew d0) ?_|decide|refine sp ?_ ?_<;>intro _
  refine af (fun st=>∃ (n i:Nat) (y:Zn),(y.cls.length<=i+n /\ i<=y.cls.length /\ mU N y /\ y.gaps.length=y.cls.length - 1 /\ DN a r n y i=Q) /\ st=⟨75,[(1,eI a),(2,eI r),(3,.op 0 0 0),(6,.op 1 0 0),(7,eI (i:Int))],[(0,some (.box 91 (cu y))),(1,some (.box 91 [.c (.slice none 0 0),.c (.slice none 0 0)]))],2⟩) UY ⟨_,wC,z.cls.length,0,z,⟨by omega,Vg _,hz,by omega,hQ.symm⟩,rfl⟩ ?_;rintro _ ⟨n,i,y,⟨hn,hi,hy,hyg,hF⟩,rfl⟩;have hyl:=hy.cl
  have mu0:∀ (i':Nat) (y':Zn),UY ⟨75,[(1,eI a),(2,eI r),(3,.op 0 0 0),(6,.op 1 0 0),(7,eI (i':Int))],[(0,some (.box 91 (cu y'))),(1,some (.box 91 [.c (.slice none 0 0),.c (.slice none 0 0)]))],2⟩=y'.cls.length - i':=fun i' y'=>by
   simp [UY,ax,aj.get,bh,ae.gc]
  by_cases hlt:i<y.cls.length
  .obtain ⟨x,hx⟩:∃ x,y.cls[i]=x:=⟨_,rfl⟩;have hxg:y.cls.getD i default=x:=by rw [Vl,f4 hlt,<- hx];rfl
   have hrx:(y.cls.map cK)[i]?.getD []=cK x:=(by simp [hlt,hx]);have hxo:aI x.attrs:=hy.at_ x (hx ▸ Vf hlt);have hH:=eJ x.attrs a hxo;have hP:=sY x.attrs a false hxo ha.1 ha.2;obtain ⟨n,rfl⟩:∃ n',n=n'+1:=⟨n - 1,by omega⟩;rw [DN,Vh (by omega),hxg] at hF
   cases hb:bp x.attrs a with
   | false=>
    rw [hb,Vn rfl] at hF;rw [hb] at hH
    repeat' first|refine gf (kf @hrx @hlt) ?_|decide|refine sp ?_ ?_<;>intro _|refine cA hH ?_|fail
    all_goals exact cU wC ⟨n,i+1,y,⟨by omega,by omega,hy,hyg,hF⟩,rfl⟩ (by rw [mu0,mu0];omega)
   | true=>
    rw [hb,Vh (by simp)] at hF;rw [hb] at hH;rw [Vh (by simp)] at hP;obtain ⟨v,hv⟩:∃ v,v=co x.attrs a:=⟨_,rfl⟩;rw [<- hv] at hF hP;have hset:(y.cls.map cK).set i [eI v,eI x.const]=(rk y a i).cls.map cK:=(by rw [rk,hxg,<- hv,WK]);have hdl:=Du y a i
    repeat' first|refine ge (kf @hrx @hlt) ?_|decide|refine sp ?_ ?_<;>intro _
    refine ay hH ?_
    repeat' first|refine ge (kf @hrx @hlt) ?_|decide|refine sp ?_ ?_<;>intro _
    refine ⟨rfl,⟨by omega,by omega⟩,?_⟩;refine ay hP ?_;have h3:i<(rk y a i).cls.length:=(by omega)
    have hr3:((rk y a i).cls.map cK)[i]?.getD []=[eI v,eI x.const]:=by
     rw [<- hset];simp [hlt]
    have hdo:=IJ a i hy.at_;have hdg:(rk y a i).gaps=y.gaps:=rfl;have hdz:cu (rk y a i)=[.sl 2 ((rk y a i).cls.map cK),sI y.gaps]:=rfl;by_cases h0:v=0 /\ x.const = -1
    .have b1:(v == 0)=true:=Wv.2 h0.1;have b2:(x.const == -1)=true:=Wv.2 h0.2;rw [Vn h0,<- hdl] at hF;have hW:=GH (rk y a i) i r h3 (by omega) (by rw [hdg,hdl];exact hyg);obtain ⟨w1,w2⟩:=ye (rk y a i) i r h3;have w3:=rL (rk y a i) i r _ (Os _);obtain ⟨W,hWe⟩:∃ W,W=mP (rk y a i) i r (rk y a i).cls.length:=⟨_,rfl⟩;rw [<- hWe] at hF hW w1 w2 w3
     repeat' first|refine ge (kf @hrx (kf @hlt (kf @hset (kf h3 (kf hr3 (kf b1 b2)))))) ?_|decide|refine sp ?_ ?_<;>intro _
     refine u2 [3] (R:=⟨.agg (cu W),[],0⟩) ?_ ?_ ?_
     .repeat' first|decide|refine go ?_
      exact hW
     .repeat' first|decide|refine go ?_
      left;simp [dJ,eU,aM,aU]
     .repeat' first|refine ge @aB ?_|decide|refine sp ?_ ?_<;>intro _
      exact cU wC ⟨n,i,W,⟨by omega,by omega,⟨by omega,by omega,fun u hu=>hdo u (w3 u hu)⟩,by omega,hF⟩,rfl⟩ (by rw [mu0,mu0];omega)
    .rw [Vh h0] at hF;by_cases h1:v=0
     .have b1:(v == 0)=true:=Wv.2 h1;have b2:(x.const == -1)=false:=VN.2 fun e=>h0 ⟨h1,e⟩
      repeat' first|refine ge (kf @hrx (kf @hlt (kf @hset (kf h3 (kf hr3 (kf b1 b2)))))) ?_|decide|refine sp ?_ ?_<;>intro _
      refine cU ((ov _ 3).trans ?_) ⟨n,i+1,rk y a i,⟨by omega,by omega,⟨by omega,by rw [hdg];omega,hdo⟩,by rw [hdg,hdl];exact hyg,hF⟩,rfl⟩ (by rw [mu0,mu0];omega);simp only [ia,gl,b9,ae.gc,aE.frz,AV.frz,AV.frzL,↓reduceIte,Nat.reduceEqDiff,VX,XJ,reduceCtorEq,Xv];exact (wE @hdz)
     .have b1:(v == 0)=false:=VN.2 h1
      repeat' first|refine ge (kf @hrx (kf @hlt (kf @hset (kf h3 (kf hr3 b1))))) ?_|decide|refine sp ?_ ?_<;>intro _
      refine cU ((ov _ 3).trans ?_) ⟨n,i+1,rk y a i,⟨by omega,by omega,⟨by omega,by rw [hdg];omega,hdo⟩,by rw [hdg,hdl];exact hyg,hF⟩,rfl⟩ (by rw [mu0,mu0];omega);simp only [ia,gl,b9,ae.gc,aE.frz,AV.frz,AV.frzL,↓reduceIte,Nat.reduceEqDiff,VX,XJ,reduceCtorEq,Xv];exact (wE @hdz)
  .obtain rfl:i=y.cls.length:=by omega
   have hq:Q=y:=by
    cases n with
    | zero=>exact hF.symm
    | succ n=>rw [DN,Vn (Os _)] at hF;exact hF.symm
   rw [hq]
   repeat' first|refine gf @hlt ?_|decide|refine sp ?_ ?_<;>intro _
   all_goals exact gM rfl
 .have d0:((z.gaps.length:Int) != max ((z.cls.length:Int) - 1) 0)=true:=by simp [hg]
  have hD:fp z a r=z:=Vh hg;rw [hD]
  repeat' first|refine ge (kf ew d0) ?_|decide|refine sp ?_ ?_<;>intro _
  exact gM rfl
end
end
section
section
theorem vm (l:List Int) (r:Int) (hl:l.length<=1000000):aw Tryz.prog 176 [sI l,eI r] (iZ 3 1 (l.map fun n=>[eI (cn n r)])):=by
 refine aa ag Tryz.func176 rfl (by decide) Tryz.ntmps176 Tryz.results176 rfl (cT _ _ _) ?_
 repeat' first|refine go ?_|decide|refine sp ?_ ?_<;>intro _
 refine af (fun st=>∃ k:Nat,k<=l.length /\ st=⟨23,[(0,sI l),(1,eI r),(5,.osl 0),(6,eI (k:Int))],[(0,some (.row 3 1 ((l.take k).map fun n=>[eI (cn n r)])))],1⟩) (fun st=>l.length - ax st 6) ⟨_,((bA 5 3 1 (by simp only [jn,aj.get,bh,aj.put,↓reduceIte,reduceCtorEq,Nat.reduceLT,Nat.reduceEqDiff,Nat.reduceAdd,Nat.reduceLeDiff,eq_self,implies_true,VA,VP])).trans (wS [0] @VA)),0,Vg _,rfl⟩ ?_;rintro _ ⟨k,hk,rfl⟩;by_cases hlt:k<l.length
 .have et:(l.take (k+1)).map (fun n=>[eI (cn n r)])=(l.take k).map (fun n=>[eI (cn n r)]) ++ [[eI (cn l[k] r)]]:=dT _ _ hlt;obtain ⟨x,hx⟩:∃ x,x=l[k]:=⟨_,rfl⟩;have hrow:(l.map fun n=>[eI n])[k]?.getD []=[eI x]:=by rw [hx];simp [hlt]
  rw [<- hx] at et;have hc:=nA x r;have htl:(l.take k).length<=1000000:=by rw [Vr];omega
  repeat' first|refine gf (kf @hrow @hlt) ?_|decide|refine sp ?_ ?_<;>intro _|refine cA hc ?_|(with_reducible apply And.intro)
  all_goals first
   | rfl
   | omega
   | exact rI (wS [2] et) ⟨k+1,by omega,rfl⟩
 .obtain rfl:k=l.length:=by omega
  repeat' first|refine gf (kf @hlt @Vq) ?_|decide|refine sp ?_ ?_<;>intro _
  exact aY (by simp [ae.gc])
def oA (z:Zn) (r:Int):List Int:=z.gaps.map fun n=>cn n (r - 1)
def iY (z:Zn) (a:Int) (at_:Nat) (r:Int) (ahead:Nat) (come:List Int) (behind:Nat):Zn:=⟨z.cls.take at_ ++ ⟨dK 0 a,-1⟩ :: z.cls.drop at_,(oA z r).take ahead ++ (come ++ (oA z r).drop behind)⟩
def nc (z:Zn):cM:=⟨.agg [.osl 0,.osl 1],[(0,some (.row 213 2 (z.cls.map cK))),(1,some (.row 3 1 (z.gaps.map fun n=>[eI n])))],2⟩
theorem El (z:Zn):(nc z).Ok:=kC (by simp [nc,cO,aE.lt,AV.ltL,AV.lt]) (by simp [nc,AV.lt,AV.ltL])
theorem rP (z:Zn) (a:Int) (at_:Nat) (r:Int) (ahead:Nat) (come:List Int) (behind:Nat) {N:Nat} (hN:N<=1000000) (hz:mU N z) (ha:0<=a /\ a<31) (hat:at_<=z.cls.length) (hah:ahead<=z.gaps.length) (hbe:behind<=z.gaps.length) (hco:come.length<=10) (hr:-1000000<=r /\ r<=1000000) :
  aw Tryz.prog 148 [.agg (cu z),eI a,eI (at_:Int),eI r,eI (ahead:Int),sI come,eI (behind:Int)] (nc (iY z a at_ r ahead come behind)):=by
 refine Bu Tryz.func148 rfl (by decide) Tryz.ntmps148 Tryz.results148 rfl (El _) ?_;have er:IntKind.i64.wrap (r - 1)=r - 1:=aD (by omega) (by omega);have hcl:=hz.cl;have hga:=hz.ga;have hCl:=vm z.gaps (r - 1) (by omega);have hP:=sY 0 a true (by simp [aI]) ha.1 ha.2;rw [Vn rfl] at hP;have hgl:(oA z r).length=z.gaps.length:=by simp [oA]
 have hgm:(z.gaps.map fun n=>[eI (cn n (r - 1))])=(oA z r).map fun n=>[eI n]:=by simp [oA]
 rw [hgm] at hCl;have hClT:=aw.still [0] hCl (r:=sI (oA z r)) (by simp [cM.frzs,cM.frz,iZ,ae.gc,AV.frz]) (by simp [AV.lt]);have f0:List.drop (Int.toNat 0) (List.take at_ (z.cls.map cK))=(z.cls.take at_).map cK:=by simp
 have f1:List.drop at_ (List.take z.cls.length (z.cls.map cK))=(z.cls.drop at_).map cK:=by
  rw [VK (by simp)];simp
 have f2:List.drop (Int.toNat 0) (List.take ahead ((oA z r).map fun n=>[eI n]))=((oA z r).take ahead).map fun n=>[eI n]:=by simp
 have f3:List.drop behind (List.take z.gaps.length ((oA z r).map fun n=>[eI n]))=((oA z r).drop behind).map fun n=>[eI n]:=by
  rw [VK (by simp [hgl])];simp
 have l1:(z.cls.take at_).length<=1000000:=by rw [Vr];omega
 have l2:(z.cls.drop at_).length<=1000000:=by rw [Wa];omega
 have l3:((oA z r).take ahead).length<=1000000:=by rw [Vr];omega
 have l4:((oA z r).drop behind).length<=1000000:=by rw [Wa];omega
 have k2:(z.cls.take at_ ++ [(⟨dK 0 a,-1⟩:fQ)]).length<=1000001:=by rw [Vi];simp only [Vy];omega
 have k3:((oA z r).take ahead ++ come).length<=1000010:=by rw [Vi];omega
 have m2:(z.cls.take at_ ++ [(⟨dK 0 a,-1⟩:fQ)]).map cK=(z.cls.take at_).map cK ++ [[eI (dK 0 a),eI (-1)]]:=by simp
 have m3:(iY z a at_ r ahead come behind).cls.map cK=(z.cls.take at_ ++ [(⟨dK 0 a,-1⟩:fQ)]).map cK ++ (z.cls.drop at_).map cK:=by simp [iY]
 have m4:(((oA z r).take ahead ++ come).map fun n=>[eI n])=(((oA z r).take ahead).map fun n=>[eI n]) ++ come.map fun n=>[eI n]:=by simp
 have m5:((iY z a at_ r ahead come behind).gaps.map fun n=>[eI n])=(((oA z r).take ahead ++ come).map fun n=>[eI n]) ++ ((oA z r).drop behind).map fun n=>[eI n]:=by simp [iY]
 refine kB (fun st=>st=⟨66,[(1,eI a),(2,eI (at_:Int)),(3,eI r),(4,eI (ahead:Int)),(5,sI come),(6,eI (behind:Int)),(7,.op 0 0 0),(14,.op 1 0 0)],[(0,some (.box 91 (cu z))),(1,some (.box 91 [.c (.slice none 0 0),.c (.slice none 0 0)]))],2⟩) (mV ag ?_) ?_
 .repeat' first|refine gq ?_|decide|refine sp ?_ ?_<;>intro _
  exact fF wC rfl
 rintro _ rfl;refine kB (fun st=>st=⟨66,[(1,eI a),(2,eI (at_:Int)),(3,eI r),(4,eI (ahead:Int)),(5,sI come),(6,eI (behind:Int)),(7,.op 0 0 0),(14,.op 1 0 0),(15,.op 2 0 0)],[(0,some (.box 91 (cu z))),(1,some (.box 91 [.c (.slice none 0 0),.c (.slice none 0 0)])),(2,some (.box 91 [.osl 3,.osl 4])),(3,some (.row 213 2 ([]))),(4,some (.row 3 1 ([])))],5⟩) (mV ag ?_) ?_
 .repeat' first|refine gq ?_|decide|refine sp ?_ ?_<;>intro _
  exact fF ((ct 2 0 213 2 (t:=91) (cells:=[.c (.slice none 0 0),.c (.slice none 0 0)]) (by simp [ae.gc]) rfl).trans ((ct 2 1 3 1 (t:=91) (cells:=[.osl 3,.c (.slice none 0 0)]) (by simp [ae.gc]) rfl).trans (wE (kf @WC @W3)))) rfl
 rintro _ rfl;refine kB (fun st=>st=⟨66,[(1,eI a),(2,eI (at_:Int)),(3,eI r),(4,eI (ahead:Int)),(5,sI come),(6,eI (behind:Int)),(7,.op 0 0 0),(14,.op 1 0 0),(15,.op 2 0 0)],[(0,some (.box 91 (cu z))),(1,some (.box 91 [.c (.slice none 0 0),.c (.slice none 0 0)])),(2,some (.box 91 [.osl 3,.osl 4])),(3,some (.row 213 2 ((z.cls.take at_).map cK))),(4,some (.row 3 1 ([])))],5⟩) (mV ag ?_) ?_
 .repeat' first|refine go ?_|decide|refine sp ?_ ?_<;>intro _
  refine ap [2,3] [0,2,3,4,5] (.exec 1 (.exec 6 (.take 7 (.exec 8 .done)))) (by kernel_rfl) (by simp [ae.gc]) ?_
  repeat' first|refine gf (kf @hat f0) ?_|decide|refine sp ?_ ?_<;>intro _|(with_reducible apply And.intro)
  all_goals first
   | rfl
   | omega
   | exact fF (wR [0,1,2,5,4]) rfl
 rintro _ rfl;refine kB (fun st=>st=⟨66,[(1,eI a),(2,eI (at_:Int)),(3,eI r),(4,eI (ahead:Int)),(5,sI come),(6,eI (behind:Int)),(7,.op 0 0 0),(14,.op 1 0 0),(15,.op 2 0 0)],[(0,some (.box 91 (cu z))),(1,some (.box 91 [.c (.slice none 0 0),.c (.slice none 0 0)])),(2,some (.box 91 [.osl 3,.osl 4])),(3,some (.row 213 2 ((z.cls.take at_ ++ [(⟨dK 0 a,-1⟩:fQ)]).map cK))),(4,some (.row 3 1 ([])))],5⟩) (mV ag ?_) ?_
 .repeat' first|refine go ?_|decide|refine sp ?_ ?_<;>intro _
  refine ap [2,3] [0,2] (.two 1 (.exec 3 (.take 4 (.exec 5 (.exec 6 (.take 7 (.exec 8 .done)))))) 3 (.take 4 (.two 1 (.exec 5 (.exec 6 (.take 7 (.exec 8 .done)))) 5 (.exec 1 (.exec 6 (.take 7 (.exec 8 .done))))))) (by kernel_rfl) (by simp [ae.gc]) ?_
  repeat' first|refine gq ?_|decide|refine sp ?_ ?_<;>intro _|refine cA hP ?_|(with_reducible apply And.intro)
  all_goals first
   | rfl
   | omega
   | exact fF (wS [0,1,2,6,4] m2) rfl
 rintro _ rfl;refine kB (fun st=>st=⟨66,[(1,eI a),(2,eI (at_:Int)),(3,eI r),(4,eI (ahead:Int)),(5,sI come),(6,eI (behind:Int)),(7,.op 0 0 0),(14,.op 1 0 0),(15,.op 2 0 0)],[(0,some (.box 91 (cu z))),(1,some (.box 91 [.c (.slice none 0 0),.c (.slice none 0 0)])),(2,some (.box 91 [.osl 3,.osl 4])),(3,some (.row 213 2 ((iY z a at_ r ahead come behind).cls.map cK))),(4,some (.row 3 1 ([])))],5⟩) (mV ag ?_) ?_
 .repeat' first|refine go ?_|decide|refine sp ?_ ?_<;>intro _
  refine ap [2,3] [0,2,3,4,5] (.exec 1 (.exec 6 (.take 7 (.exec 8 .done)))) (by kernel_rfl) (by simp [ae.gc]) ?_
  repeat' first|refine gf (kf @hat f1) ?_|decide|refine sp ?_ ?_<;>intro _|(with_reducible apply And.intro)
  all_goals first
   | rfl
   | omega
   | exact fF (wS [0,1,2,5,4] m3) rfl
 rintro _ rfl;refine kB (fun st=>st=⟨66,[(1,eI a),(2,eI (at_:Int)),(3,eI r),(4,eI (ahead:Int)),(5,sI come),(6,eI (behind:Int)),(7,.op 0 0 0),(14,.op 1 0 0),(15,.op 2 0 0),(16,sI (oA z r))],[(0,some (.box 91 (cu z))),(1,some (.box 91 [.c (.slice none 0 0),.c (.slice none 0 0)])),(2,some (.box 91 [.osl 3,.osl 4])),(3,some (.row 213 2 ((iY z a at_ r ahead come behind).cls.map cK))),(4,some (.row 3 1 ([])))],5⟩) (mV ag ?_) ?_
 .repeat' first|refine gf er ?_|decide|refine sp ?_ ?_<;>intro _|refine cA hClT ?_|fail
  all_goals exact fF wC rfl
 rintro _ rfl;refine kB (fun st=>st=⟨66,[(1,eI a),(2,eI (at_:Int)),(3,eI r),(4,eI (ahead:Int)),(5,sI come),(6,eI (behind:Int)),(7,.op 0 0 0),(14,.op 1 0 0),(15,.op 2 0 0),(16,sI (oA z r))],[(0,some (.box 91 (cu z))),(1,some (.box 91 [.c (.slice none 0 0),.c (.slice none 0 0)])),(2,some (.box 91 [.osl 3,.osl 4])),(3,some (.row 213 2 ((iY z a at_ r ahead come behind).cls.map cK))),(4,some (.row 3 1 (((oA z r).take ahead).map fun n=>[eI n])))],5⟩) (mV ag ?_) ?_
 .repeat' first|refine go ?_|decide|refine sp ?_ ?_<;>intro _
  refine ap [2,4] [0,2,3,4] (.exec 1 (.exec 5 (.take 6 (.exec 7 .done)))) (by kernel_rfl) (by simp [ae.gc]) ?_
  repeat' first|refine gf (kf @hah (kf @hgl f2)) ?_|decide|refine sp ?_ ?_<;>intro _|(with_reducible apply And.intro)
  all_goals first
   | rfl
   | omega
   | exact fF (wR [0,1,2,3,5]) rfl
 rintro _ rfl;refine kB (fun st=>st=⟨66,[(1,eI a),(2,eI (at_:Int)),(3,eI r),(4,eI (ahead:Int)),(5,sI come),(6,eI (behind:Int)),(7,.op 0 0 0),(14,.op 1 0 0),(15,.op 2 0 0),(16,sI (oA z r))],[(0,some (.box 91 (cu z))),(1,some (.box 91 [.c (.slice none 0 0),.c (.slice none 0 0)])),(2,some (.box 91 [.osl 3,.osl 4])),(3,some (.row 213 2 ((iY z a at_ r ahead come behind).cls.map cK))),(4,some (.row 3 1 (((oA z r).take ahead ++ come).map fun n=>[eI n])))],5⟩) (mV ag ?_) ?_
 .repeat' first|refine gq ?_|decide|refine sp ?_ ?_<;>intro _|(with_reducible apply And.intro)
  all_goals first
   | rfl
   | omega
   | exact fF (wS [0,1,2,3,5] m4) rfl
 rintro _ rfl;refine kB (fun st=>st=⟨66,[(1,eI a),(2,eI (at_:Int)),(3,eI r),(4,eI (ahead:Int)),(5,sI come),(6,eI (behind:Int)),(7,.op 0 0 0),(14,.op 1 0 0),(15,.op 2 0 0),(16,sI (oA z r))],[(0,some (.box 91 (cu z))),(1,some (.box 91 [.c (.slice none 0 0),.c (.slice none 0 0)])),(2,some (.box 91 [.osl 3,.osl 4])),(3,some (.row 213 2 ((iY z a at_ r ahead come behind).cls.map cK))),(4,some (.row 3 1 ((iY z a at_ r ahead come behind).gaps.map fun n=>[eI n])))],5⟩) (mV ag ?_) ?_
 .repeat' first|refine go ?_|decide|refine sp ?_ ?_<;>intro _
  refine ap [2,4] [0,2,3,4] (.exec 1 (.exec 5 (.take 6 (.exec 7 .done)))) (by kernel_rfl) (by simp [ae.gc]) ?_
  repeat' first|refine gf (kf @hbe (kf @hgl f3)) ?_|decide|refine sp ?_ ?_<;>intro _|(with_reducible apply And.intro)
  all_goals first
   | rfl
   | omega
   | exact fF (wS [0,1,2,3,5] m5) rfl
 rintro _ rfl;refine mV ag ?_
 repeat' first|refine gq ?_|decide|refine sp ?_ ?_<;>intro _
 all_goals exact ⟨[3,4],by decide,rfl,by simp [cH,nc,ae.gc]⟩
theorem kW (z:Zn):(nc z).r.plain /\ (nc z).tab.plain:=by
 refine ⟨⟨trivial,trivial,trivial⟩,?_⟩;simp only [nc];refine ⟨fun row hr av ha=>?_,fun row hr av ha=>?_,trivial⟩
 .obtain ⟨x,_,rfl⟩:=Vt.1 hr;simp at ha;rcases ha with rfl|rfl<;>trivial
 .obtain ⟨x,_,rfl⟩:=Vt.1 hr;simp at ha;subst ha;trivial
def BW (z:Zn) (a:Int) (i:Nat) (r:Int):Zn:=⟨z.cls.set i ⟨dK (z.cls.getD i default).attrs a,(z.cls.getD i default).const⟩,oA z r⟩
theorem Sv (z:Zn) (a:Int) (i:Nat) (r:Int) {N:Nat} (hN:N<=1000000) (hz:mU N z) (ha:0<=a /\ a<31) (hi:i<z.cls.length) (hr:-1000000<=r /\ r<=1000000):aw Tryz.prog 149 [.agg (cu z),eI a,eI (i:Int),eI r] ⟨.agg (cu (BW z a i r)),[],0⟩:=by
 refine aw.still (R:=nc (BW z a i r)) [0,1] ?_ (by simp [nc,cM.frzs,cM.frz,ae.gc,AV.frz,AV.frzL,b9,aE.frz]) (by simp [AV.lt,AV.ltL]);refine aa ag Tryz.func149 rfl (by decide) Tryz.ntmps149 Tryz.results149 rfl (El _) ?_;have er:IntKind.i64.wrap (r - 1)=r - 1:=aD (by omega) (by omega);have hcl:=hz.cl;have hga:=hz.ga;obtain ⟨x,hx⟩:∃ x,z.cls[i]=x:=⟨_,rfl⟩;have hxg:z.cls.getD i default=x:=by rw [Vl,f4 hi,<- hx];rfl
 have hrx:(z.cls.map cK)[i]?.getD []=cK x:=by simp [hi,hx]
 have hxo:aI x.attrs:=hz.at_ x (hx ▸ Vf hi);have hP:=sY x.attrs a true hxo ha.1 ha.2;rw [Vn rfl] at hP;have hCl:=vm z.gaps (r - 1) (by omega);have hgm:(z.gaps.map fun n=>[eI (cn n (r - 1))])=(BW z a i r).gaps.map fun n=>[eI n]:=by simp [BW,oA]
 rw [hgm] at hCl;have hset:(z.cls.map cK).set i [eI (dK x.attrs a),eI x.const]=(BW z a i r).cls.map cK:=by rw [BW,hxg,WK]
 repeat' first|refine ge (kf @hrx hi) ?_|decide|refine sp ?_ ?_<;>intro _
 refine ⟨rfl,⟨by omega,by omega⟩,?_⟩;refine ay hP ?_
 repeat' first|refine ge (kf @hrx (kf hi (kf @hset er))) ?_|decide|refine sp ?_ ?_<;>intro _
 refine dM hCl (.inr fr) ?_
 repeat' first|refine go ?_|decide|refine sp ?_ ?_<;>intro _
 exact ⟨[3,4],by decide,rfl,by simp [cH,nc,ae.gc]⟩
def B4 (st:aj) (j:Nat):Nat:=match st.get j with
 | .c (.int _ k)=>(k+1).toNat
 | _=>0
def qX (z:Zn) (a r:Int) (M k:Nat):List Zn:=(List.range k).map fun (j:Nat)=>iY z a 0 r 0 [((M - j:Nat):Int)] 0
def lp (z:Zn) (a r:Int) (i j:Nat):List Zn:=BW z a i r :: ((ul (z.gaps.getD i 0) r).take j).map fun p=>iY z a (i+1) r i [p.1,p.2] (i+1)
def jm (z:Zn) (a r:Int):Nat -> List Zn
 | 0=>[]
 | i+1=>jm z a r i ++ (if i+1<z.cls.length then lp z a r i (ul (z.gaps.getD i 0) r).length else [BW z a i r])
def tr (z:Zn) (a r:Int) (k:Nat):List Zn:=(List.range k).map fun (j:Nat)=>iY z a z.cls.length r (z.cls.length - 1) [(j:Int)] (z.cls.length - 1)
def jk (z:Zn) (a r:Int):List Zn:=
 if r<1 \/ a<0 \/ 30<a \/ (z.gaps.length:Int) ≠ max ((z.cls.length:Int) - 1) 0 then []
 else if z.cls.any (fun x=>bp x.attrs a)=true then []
 else if z.cls.length=0 then [iY z a 0 r 0 [] 0]
 else qX z a r (cR (r - 1)).toNat ((cR (r - 1)).toNat+1) ++ jm z a r z.cls.length ++ tr z a r ((cR (r - 1)).toNat+1)
theorem tB (z:Zn) (a r:Int) (M k:Nat):(qX z a r M k).length=k:=by simp [qX]
theorem AM (z:Zn) (a r:Int) (k:Nat):(tr z a r k).length=k:=by simp [tr]
theorem sk (z:Zn) (a r:Int):∀ i,(jm z a r i).length<=i * (1+((cR (r - 1)).toNat+1) * ((cR (r - 1)).toNat+1))
 | 0=>by simp [jm]
 | i+1=>by
  have h1:=sk z a r i;have h2:=zZ (z.gaps.getD i 0) r;rw [jm,Vi,Xh];split
  .simp only [lp,VI,Vo,Vq];omega
  .simp only [Vy];omega
theorem Sq {r:Int} (h:r<=4):(cR (r - 1)).toNat<=7:=by
 have h0:min (r - 1).toNat 20<=3:=by omega
 have h1:(2:Nat) ^ (min (r - 1).toNat 20)<=2 ^ 3:=VU (by omega) h0;have h2:((2 ^ (min (r - 1).toNat 20):Nat):Int)=(2:Int) ^ (min (r - 1).toNat 20):=by simp
 unfold cR;omega
theorem Nj (z:Zn) (a r:Int) {N:Nat} (hN:N<=1000) (hz:mU N z) (hr:-100000<=r /\ r<=4):aw Tryz.prog 116 [.agg (cu z),eI a,eI r] ⟨.sl 2 ((jk z a r).map cu),[],0⟩:=by
 refine jF 91 ?_;refine bm ag Tryz.func116 rfl (by decide) Tryz.ntmps116 Tryz.results116 rfl ?_;have hcl:=hz.cl;have hga:=hz.ga;have er:IntKind.i64.wrap (r - 1)=r - 1:=aD (by omega) (by omega);have ew:IntKind.i64.wrap ((z.cls.length:Int) - 1)=(z.cls.length:Int) - 1:=aD (by omega) (by omega);by_cases hbad:r<1 \/ a<0 \/ 30<a \/ (z.gaps.length:Int) ≠ max ((z.cls.length:Int) - 1) 0
 .have hP:jk z a r=[]:=Vn hbad;rw [hP];by_cases h1:r<1
  .have d1:decide (r<1)=true:=VC h1
   repeat' first|refine gf (kf d1 ew) ?_|decide|refine sp ?_ ?_<;>intro _
   all_goals exact cI (jv rfl)
  .have d1:decide (r<1)=false:=Vu h1;by_cases h2:a<0
   .have d2:decide (a<0)=true:=VC h2
    repeat' first|refine gf (kf d1 (kf d2 ew)) ?_|decide|refine sp ?_ ?_<;>intro _
    all_goals exact cI (jv rfl)
   .have d2:decide (a<0)=false:=Vu h2;by_cases h3:30<a
    .have d3:decide (30<a)=true:=VC h3
     repeat' first|refine gf (kf d1 (kf d2 (kf d3 ew))) ?_|decide|refine sp ?_ ?_<;>intro _
     all_goals exact cI (jv rfl)
    .have d3:decide (30<a)=false:=Vu h3;have d4:((z.gaps.length:Int) != max ((z.cls.length:Int) - 1) 0)=true:=bne_iff_ne.2 (by omega)
     repeat' first|refine gf (kf d1 (kf d2 (kf d3 (kf d4 ew)))) ?_|decide|refine sp ?_ ?_<;>intro _
     all_goals exact cI (jv rfl)
 .have d1:decide (r<1)=false:=Vu (by omega);have d2:decide (a<0)=false:=Vu (by omega);have d3:decide (30<a)=false:=Vu (by omega);have d4:((z.gaps.length:Int) != max ((z.cls.length:Int) - 1) 0)=false:=bne_eq_false_iff_eq.2 (by omega);have hP0:jk z a r=if z.cls.any (fun x=>bp x.attrs a)=true then [] else if z.cls.length=0 then [iY z a 0 r 0 [] 0] else qX z a r (cR (r - 1)).toNat ((cR (r - 1)).toNat+1) ++ jm z a r z.cls.length ++ tr z a r ((cR (r - 1)).toNat+1):=Vh hbad
  repeat' first|refine gf (kf d1 (kf d2 (kf d3 (kf d4 ew)))) ?_|decide|refine sp ?_ ?_<;>intro _
  refine af (fun st=>∃ i:Nat,(i<=z.cls.length /\ (z.cls.take i).any (fun x=>bp x.attrs a)=false) /\ st=⟨148,[(1,eI a),(2,eI r),(3,.op 0 0 0),(7,eI (z.cls.length:Int)),(8,eI (i:Int))],[(0,some (.box 91 (cu z)))],1⟩) (fun st=>z.cls.length - ax st 8) ⟨_,wC,0,⟨Vg _,rfl⟩,rfl⟩ ?_;rintro _ ⟨i,⟨hi,hany⟩,rfl⟩;by_cases hlt:i<z.cls.length
  .obtain ⟨x,hx⟩:∃ x,z.cls[i]=x:=⟨_,rfl⟩;have hrx:(z.cls.map cK)[i]?.getD []=cK x:=(by simp [hlt,hx]);have hxo:aI x.attrs:=hz.at_ x (hx ▸ Vf hlt);have hH:=eJ x.attrs a hxo;have hn:(z.cls.take (i+1)).any (fun x=>bp x.attrs a)=bp x.attrs a:=by rw [Vk hlt,List.any_append,hany,hx];simp
   cases hb:bp x.attrs a with
   | true=>
    have hall:z.cls.any (fun x=>bp x.attrs a)=true:=Xz.2 ⟨x,hx ▸ Vf hlt,hb⟩;rw [hP0,Vn hall];rw [hb] at hH
    repeat' first|refine gf (kf @hrx @hlt) ?_|decide|refine sp ?_ ?_<;>intro _|refine cA hH ?_|fail
    all_goals exact cI (jv rfl)
   | false=>
    rw [hb] at hH hn
    repeat' first|refine gf (kf @hrx @hlt) ?_|decide|refine sp ?_ ?_<;>intro _|refine cA hH ?_|fail
    all_goals exact rI wC ⟨i+1,⟨by omega,hn⟩,rfl⟩
  .obtain rfl:i=z.cls.length:=by omega
   rw [Vq] at hany;rw [hP0,Vh (by rw [hany];simp)];by_cases h0:z.cls.length=0
   .have b0:((z.cls.length:Int) == 0)=true:=Wv.2 (by omega);have hO:=(rP z a 0 r 0 [] 0 (by omega) hz ⟨by omega,by omega⟩ (Vg _) (Vg _) (Vg _) (by simp) ⟨by omega,by omega⟩).fits (args:=[.agg (cu z),eI a,eI 0,eI r,eI 0,.c (.slice none 0 0),eI 0]) ⟨.one (.refl _),.one (.refl _),.one (.refl _),.one (.refl _),.one (.refl _),.one (.nil 1),.one (.refl _),trivial⟩;rw [Vn h0]
    repeat' first|refine gf (kf @hlt b0) ?_|decide|refine sp ?_ ?_<;>intro _
    refine sG hO (.inr (kW _)) ?_
    repeat' first|refine go ?_|simp only [nc,aB,bG,bF,aE.shift]|decide|refine sp ?_ ?_<;>intro _
    all_goals exact ⟨rfl,yf rfl kG⟩
   .have b0:((z.cls.length:Int) == 0)=false:=VN.2 (by omega);rw [Vh h0];have hCap:=uA (r - 1);have h4:=Sq hr.2;have hp1:=lK (r - 1);obtain ⟨M,hM⟩:∃ M:Nat,cR (r - 1)=(M:Int):=⟨(cR (r - 1)).toNat,by omega⟩;have hMn:(cR (r - 1)).toNat=M:=(by omega);have hBl:=sk z a r;rw [hMn] at h4 hBl ⊢;rw [hM] at hCap;have hgn:z.gaps.length=z.cls.length - 1:=(by omega);have hro:-1000000<=r /\ r<=1000000:=⟨by omega,by omega⟩;have hao:0<=a /\ a<31:=⟨by omega,by omega⟩
    have hBb:∀ i,i<=1000 -> (jm z a r i).length<=65000:=fun i hi=>by
     have h1:=hBl i;have h2:(M+1) * (M+1)<=8 * 8:=Xk (by omega) (by omega);have h3:i * (1+(M+1) * (M+1))<=1000 * 65:=Xk hi (by omega);omega
    repeat' first|refine gf (kf @hlt (kf b0 er)) ?_|decide|refine sp ?_ ?_<;>intro _|refine cA hCap ?_|fail
    refine af (fun st=>∃ k:Nat,k<=M+1 /\ st=⟨148,[(1,eI a),(2,eI r),(3,.op 0 0 0),(7,eI (z.cls.length:Int)),(9,.osl 1),(10,eI (M:Int)),(11,eI ((M:Int) - (k:Int)))],[(0,some (.box 91 (cu z))),(1,some (.row 91 2 ((qX z a r M k).map cu)))],2⟩) (fun st=>B4 st 11) ⟨_,((bA 9 91 2 (by simp only [jn,aj.get,bh,aj.put,↓reduceIte,reduceCtorEq,Nat.reduceLT,Nat.reduceEqDiff,Nat.reduceAdd,Nat.reduceLeDiff,eq_self,implies_true,qX,Xe,VP,Int.sub_zero,Int.natCast_zero])).trans (wS [0,1] (kf @qX.eq_1 (kf @Xe (kf @Int.sub_zero @Int.natCast_zero))))),0,Vg _,rfl⟩ ?_;rintro _ ⟨k,hk,rfl⟩;by_cases hkM:k<=M
    .have he:(M:Int) - (k:Int)=((M - k:Nat):Int):=(by omega);have e1:IntKind.i64.wrap (((M - k:Nat):Int) - 1)=(M:Int) - ((k+1:Nat):Int):=by rw [aD (by omega) (by omega)];omega
     have hO:=rP z a 0 r 0 [((M - k:Nat):Int)] 0 (by omega) hz hao (Vg _) (Vg _) (Vg _) (by simp) hro;have et:(qX z a r M (k+1)).map cu=(qX z a r M k).map cu ++ [cu (iY z a 0 r 0 [((M - k:Nat):Int)] 0)]:=(by simp [qX,Wu]);have hal:=tB z a r M k
     have m1:∀ (e:List (Nat × AV)) (t:ae) (nx:Nat),B4 ⟨148,(1,eI a) :: (2,eI r) :: (3,.op 0 0 0) :: (7,eI (z.cls.length:Int)) :: (9,.osl 1) :: (10,eI (M:Int)) :: (11,eI ((M:Int) - ((k+1:Nat):Int))) :: e,t,nx⟩ 11=M - k:=fun e t nx=>by
      show ((M:Int) - ((k+1:Nat):Int)+1).toNat=M - k;omega
     have m2:∀ (e:List (Nat × AV)) (t:ae) (nx:Nat),B4 ⟨148,(1,eI a) :: (2,eI r) :: (3,.op 0 0 0) :: (7,eI (z.cls.length:Int)) :: (9,.osl 1) :: (10,eI (M:Int)) :: (11,eI ((M - k:Nat):Int)) :: e,t,nx⟩ 11=M - k+1:=fun e t nx=>by
      show (((M - k:Nat):Int)+1).toNat=M - k+1;omega
     rw [he];obtain ⟨O,hOe⟩:∃ O,O=qX z a r M k:=⟨_,rfl⟩;rw [<- hOe] at et hal ⊢
     repeat' first|refine go ?_|decide|refine sp ?_ ?_<;>intro _
     refine ⟨rfl,?_⟩;refine sG hO (.inr (kW _)) ?_
     repeat' first|refine gq ?_|simp only [nc,aB,bG,bF,aE.shift]|decide|refine sp ?_ ?_<;>intro _|(with_reducible apply And.intro)
     all_goals first
      | rfl
      | omega
      | exact cU (wS [0,6] (kf et (kf @hOe e1))) ⟨k+1,by omega,rfl⟩ (by rw [m1,m2];omega)
    .obtain rfl:k=M+1:=by omega
     have e0:decide ((0:Int)<=(M:Int) - ((M+1:Nat):Int))=false:=Vu (by omega);have hal:=tB z a r M (M+1);obtain ⟨O,hOe⟩:∃ O,O=qX z a r M (M+1):=⟨_,rfl⟩;rw [<- hOe] at hal ⊢
     repeat' first|refine gf e0 ?_|decide|refine sp ?_ ?_<;>intro _
     refine af (fun st=>∃ i:Nat,i<=z.cls.length /\ st=⟨148,[(1,eI a),(2,eI r),(3,.op 0 0 0),(7,eI (z.cls.length:Int)),(9,.osl 1),(10,eI (M:Int)),(12,eI (i:Int))],[(0,some (.box 91 (cu z))),(1,some (.row 91 2 ((O ++ jm z a r i).map cu)))],2⟩) (fun st=>z.cls.length - ax st 12) ⟨_,(wE (kf @jm.eq_1 @jm.eq_2)),0,Vg _,rfl⟩ ?_;rintro _ ⟨i,hi,rfl⟩;have hPl:=hBb i (by omega);obtain ⟨P,hPe⟩:∃ P,P=O ++ jm z a r i:=⟨_,rfl⟩;have hPl2:P.length<=66000:=by rw [hPe,Vi];omega
     rw [<- hPe];by_cases hli:i<z.cls.length
     .have hIn:=Sv z a i r (by omega) hz hao hli hro;have e2:IntKind.i64.wrap ((z.cls.length:Int) - 1)=((z.cls.length - 1:Nat):Int):=by rw [aD (by omega) (by omega)];omega
      have ei:IntKind.i64.wrap ((i:Int)+1)=((i+1:Nat):Int):=by rw [aD (by omega) (by omega)];omega
      by_cases hl2:i+1<z.cls.length
      .have hl3:i<z.cls.length - 1:=(by omega);have hig:i<z.gaps.length:=(by omega);obtain ⟨g,hg⟩:∃ g,g=z.gaps[i]:=⟨_,rfl⟩;have hrg:(z.gaps.map fun n=>[eI n])[i]?.getD []=[eI g]:=by rw [hg];simp [hig]
       have hgd:z.gaps.getD i 0=g:=by rw [hg];simp [List.getD,hig]
       have hS:=KH g r hro;have hSl:=zZ g r;rw [hMn] at hSl;have hSl2:(ul g r).length<=64:=Vz hSl (Xk (show M+1<=8 by omega) (show M+1<=8 by omega));have hB1:∀ j,lp z a r i j=BW z a i r :: ((ul g r).take j).map fun p=>iY z a (i+1) r i [p.1,p.2] (i+1):=fun j=>by rw [lp,hgd]
       have hBs:jm z a r (i+1)=jm z a r i ++ lp z a r i (ul g r).length:=(by rw [jm,Vn hl2,hgd]);obtain ⟨S,hSe⟩:∃ S,S=ul g r:=⟨_,rfl⟩;rw [<- hSe] at hS hSl2 hB1 hBs;have et0:(P ++ lp z a r i 0).map cu=P.map cu ++ [cu (BW z a i r)]:=by rw [hB1];simp
       repeat' first|refine gf (kf @hli (kf hl2 (kf hl3 (kf e2 (kf @hrg @hig))))) ?_|decide|refine sp ?_ ?_<;>intro _|refine cA hIn ?_|refine cA hS ?_|(with_reducible apply And.intro)
       all_goals first
        | rfl
        | omega
        | skip
       refine af (fun st=>∃ j:Nat,j<=S.length /\ st=⟨148,[(1,eI a),(2,eI r),(3,.op 0 0 0),(7,eI (z.cls.length:Int)),(9,.osl 1),(10,eI (M:Int)),(12,eI (i:Int)),(13,.sl 2 (S.map eP)),(14,eI (j:Int))],[(0,some (.box 91 (cu z))),(1,some (.row 91 2 ((P ++ lp z a r i j).map cu)))],2⟩) (fun st=>S.length - ax st 14) ⟨_,(wS [0,3] et0),0,Vg _,rfl⟩ ?_;rintro _ ⟨j,hj,rfl⟩;have hQl:(P ++ lp z a r i j).length<=66100:=by rw [hB1,Vi,VI,Vo,Vr];omega
       by_cases hlj:j<S.length
       .obtain ⟨p,hp⟩:∃ p,p=S[j]:=⟨_,rfl⟩;have hrp:(S.map eP)[j]?.getD []=eP p:=by rw [hp];simp [hlj]
        have q0:List.drop (Int.toNat 0 * 1) (eP p)=[eI p.1,eI p.2]:=rfl;have q1:List.drop (Int.toNat 1 * 1) (eP p)=[eI p.2]:=rfl;have hO:=rP z a (i+1) r i [p.1,p.2] (i+1) (by omega) hz hao (by omega) (by omega) (by omega) (by simp) hro
        have et:(P ++ lp z a r i (j+1)).map cu=(P ++ lp z a r i j).map cu ++ [cu (iY z a (i+1) r i [p.1,p.2] (i+1))]:=by
         rw [hB1,hB1,Vk hlj,<- hp];simp
        obtain ⟨Q,hQ⟩:∃ Q,Q=P ++ lp z a r i j:=⟨_,rfl⟩;rw [<- hQ] at et hQl ⊢
        repeat' first|refine ge @hlj ?_|decide|refine sp ?_ ?_<;>intro _
        refine ap [1] [0,1,2,3,4,5,6,7,8,9,10,11,12,13,14,15,16,18,19] (.exec 17 (.exec 20 (.exec 21 (.exec 22 (.exec 23 .done))))) (by kernel_rfl) (by simp [ae.gc]) ?_
        repeat' first|refine ge (kf @hlj (kf @hrp (kf q0 (kf q1 (kf UI (kf UO (kf UT ei))))))) ?_|decide|refine sp ?_ ?_<;>intro _
        refine ⟨rfl,?_⟩;refine sG hO (.inr (kW _)) ?_
        repeat' first|refine gq ?_|simp only [nc,aB,bG,bF,aE.shift]|decide|refine sp ?_ ?_<;>intro _|(with_reducible apply And.intro)
        all_goals first
         | rfl
         | omega
         | exact rI (wS [0,6] (kf et hQ)) ⟨j+1,by omega,rfl⟩
       .obtain rfl:j=S.length:=by omega
        have hn:P ++ lp z a r i S.length=O ++ jm z a r (i+1):=(by rw [hBs,hPe,VZ]);rw [hn]
        repeat' first|refine gf @hlj ?_|decide|refine sp ?_ ?_<;>intro _
        all_goals exact rI wC ⟨i+1,by omega,rfl⟩
      .have hl3:¬ i<z.cls.length - 1:=(by omega);have hBs:jm z a r (i+1)=jm z a r i ++ [BW z a i r]:=(by rw [jm,Vh hl2]);have et:(O ++ jm z a r (i+1)).map cu=P.map cu ++ [cu (BW z a i r)]:=by rw [hBs,hPe];simp
       repeat' first|refine gf (kf @hli (kf hl2 (kf hl3 e2))) ?_|decide|refine sp ?_ ?_<;>intro _|refine cA hIn ?_|(with_reducible apply And.intro)
       all_goals first
        | rfl
        | omega
        | exact rI (wS [0,3] et) ⟨i+1,by omega,rfl⟩
     .obtain rfl:i=z.cls.length:=by omega
      repeat' first|refine gf @hli ?_|decide|refine sp ?_ ?_<;>intro _
      refine af (fun st=>∃ j:Nat,j<=M+1 /\ st=⟨148,[(1,eI a),(2,eI r),(3,.op 0 0 0),(7,eI (z.cls.length:Int)),(9,.osl 1),(10,eI (M:Int)),(15,eI (j:Int))],[(0,some (.box 91 (cu z))),(1,some (.row 91 2 ((P ++ tr z a r j).map cu)))],2⟩) (fun st=>M+1 - ax st 15) ⟨_,(wE (kf @tr.eq_1 @Xe)),0,Vg _,rfl⟩ ?_;rintro _ ⟨j,hj,rfl⟩;have hCl:=AM z a r j;by_cases hlj:j<=M
      .have hO:=rP z a z.cls.length r (z.cls.length - 1) [(j:Int)] (z.cls.length - 1) (by omega) hz hao (Os _) (by omega) (by omega) (by simp) hro;have e2:IntKind.i64.wrap ((z.cls.length:Int) - 1)=((z.cls.length - 1:Nat):Int):=by rw [aD (by omega) (by omega)];omega
       have et:(P ++ tr z a r (j+1)).map cu=(P ++ tr z a r j).map cu ++ [cu (iY z a z.cls.length r (z.cls.length - 1) [(j:Int)] (z.cls.length - 1))]:=(by simp [tr,Wu]);have hQl:(P ++ tr z a r j).length<=66100:=by rw [Vi];omega
       obtain ⟨Q,hQ⟩:∃ Q,Q=P ++ tr z a r j:=⟨_,rfl⟩;rw [<- hQ] at et hQl ⊢
       repeat' first|refine ge (kf @hlj e2) ?_|decide|refine sp ?_ ?_<;>intro _
       refine ⟨rfl,?_⟩;refine sG hO (.inr (kW _)) ?_
       repeat' first|refine gq ?_|simp only [nc,aB,bG,bF,aE.shift]|decide|refine sp ?_ ?_<;>intro _|(with_reducible apply And.intro)
       all_goals first
        | rfl
        | omega
        | exact rI (wS [0,6] (kf et hQ)) ⟨j+1,by omega,rfl⟩
      .obtain rfl:j=M+1:=by omega
       rw [hPe]
       repeat' first|refine gf @hlj ?_|decide|refine sp ?_ ?_<;>intro _
       all_goals exact yf rfl kG
end
section
structure Pt where
 n:Int
 a:Int
 c:Int
 t:Int
instance:Inhabited Pt:=⟨⟨0,0,0,0⟩⟩
def Va (x y:Pt):Prop:=x.n<y.n \/ (x.n=y.n /\ x.t<y.t)
def Vb (x y:Pt):Bool:=decide (x.n<y.n) || (decide (x.n=y.n) && decide (x.t<=y.t))
def U2 (l:List Pt):List Pt:=l.mergeSort Vb
def Tp (l:List Pt):Prop:=l.Pairwise Va
def Tg (l:List Pt):Prop:=l.Pairwise fun x y=>x.t<y.t
def Gf (bs:Nat):Nat -> List Pt -> List Pt
 | 0,l=>U2 l
 | f+1,l=>if bs<=l.length then U2 (l.take bs) ++ Gf bs f (l.drop bs) else U2 l
def G (bs:Nat) (l:List Pt):List Pt:=Gf bs l.length l
end
section
theorem Tg.take {l:List Pt} (h:Tg l) (k:Nat):Tg (l.take k):=h.sublist (List.take_sublist k l)
theorem Tg.drop {l:List Pt} (h:Tg l) (k:Nat):Tg (l.drop k):=h.sublist (List.drop_sublist k l)
theorem Tg.lt {l:List Pt} (h:Tg l) {k:Nat} (hk:k<l.length):∀ y ∈ l.take k,y.t<l[k].t:=fun y hy=>by
 obtain ⟨i,hi,rfl⟩:=VB hy;rw [Vr] at hi;rw [List.getElem_take];exact Wk.1 h i k (by omega) hk (by omega)
end
section
theorem Tp.take {l:List Pt} (h:Tp l) (k:Nat):Tp (l.take k):=h.sublist (List.take_sublist k l)
theorem Tp.drop {l:List Pt} (h:Tp l) (k:Nat):Tp (l.drop k):=h.sublist (List.drop_sublist k l)
end
section
def UU (a b:Int):Int:=bits .or .i64 a b
end
section
theorem Q7 (r:Int):0<=cR r:=by
 have h1:1<=(2:Nat) ^ (min r.toNat 20):=XE;have h2:((2 ^ (min r.toNat 20):Nat):Int)=(2:Int) ^ (min r.toNat 20):=by simp
 unfold cR;omega
end
end
end Go.Proofs.YtmmoidfcfjklaaaGreat
