/-
  Parts of the proof: Sgp7, Sgp8, Sgp9, Sgp10, Sgp11, Sgp12.
-/
import Derived.Test.YtcindbpnaicemaaGreatSgq3
import Derived.Deep.RegionHeld3
import Derived.Deep.RegionHeld2
import Derived.Deep.DrawnRows
import Derived.Defers
import Derived.Recover
import Derived.Conc.MuLone
set_option linter.unusedVariables false
set_option linter.unusedSimpArgs false
set_option linter.defProp false
set_option maxRecDepth 100000
set_option maxHeartbeats 16000000
namespace Go.Proofs.YtcindbpnaicemaaGreat
section
section
open Go.RowKit
def lostP:List PanicEntry:=[{ v:=.iface 204 (.agg #[]),recovered:=false }]
def stCells (vv:Value) (o d:Int) (dv cv:Value):Array Value:=#[vv,.int .i64 o,.int .i64 d,dv,cv]
abbrev stAgg (vv:Value) (o d:Int) (dv cv:Value):Value:=.agg #[vv,.int .i64 o,.int .i64 d,dv,cv]
theorem val_some (vals:List Int) (vv:Value) (S:Nat → Prop) (o d:Int) (dv cv:Value) (a n r:Int) (w:World) (h:(sliceR (intR .i64)).one w S vv vals) (hS:∀ b,S b → b<w.heap.size) (hr:valO vals a n=some r) :
  Calls Tryz.prog 144 #[stAgg vv o d dv cv,.agg #[.int .i64 a,.int .i64 n]] w fun e w'=>e=.returned (.int .i64 r) ∧ w'=(w.alloc (.cells #[vv,.int .i64 o,.int .i64 d,dv,cv] 69)).alloc (.cells #[.int .i64 a,.int .i64 n] 108):=by
 unfold valO at hr
 obtain ⟨A,c,rfl,hc,hc2⟩:=slice_form h
 by_cases h1:a = -1
 ·rw [if_pos h1] at hr
  cases hr
  subst h1
  go_enter Tryz.func144,Tryz.ntmps144
  go_wp2_with fail
  go_ret
  exact ⟨rfl,rfl⟩
 ·rw [if_neg h1] at hr
  by_cases h2:a<0
  ·rw [if_pos h2] at hr;cases hr
  ·rw [if_neg h2] at hr
   obtain ⟨k,rfl⟩:∃ k:Nat,a=(k:Int):=⟨a.toNat,by omega⟩
   rw [show (k:Int).toNat=k from rfl] at hr
   have hk:=(List.getElem?_eq_some_iff.1 hr).1
   have hk2:=(List.getElem?_eq_some_iff.1 hr).2
   obtain ⟨b,ob,rfl,hb,hrow⟩:=slice_some h (by omega)
   obtain ⟨hcell,_,_⟩:=ints_at h hk
   rw [hk2] at hcell
   have hblt:=hS b hb
   have Hh:=hide h
   have Hr:=hide hr
   have hm1:(((k:Nat):Int) == -1)=false:=beq_eq_false_iff_ne.2 (by omega)
   have hlt:(k:Int)<(vals.length:Int):=by omega
   clear h hr hrow hk2 h1
   go_enter Tryz.func144,Tryz.ntmps144
   go_wp2_with fail
   go_ret
   exact ⟨rfl,rfl⟩
theorem val_none (vals:List Int) (vv:Value) (S:Nat → Prop) (o d:Int) (dv cv:Value) (a n:Int) (w:World) (h:(sliceR (intR .i64)).one w S vv vals) (hr:valO vals a n=none) :
  Calls Tryz.prog 144 #[stAgg vv o d dv cv,.agg #[.int .i64 a,.int .i64 n]] w fun e w'=>e=.panicked lostP ∧ w'=(w.alloc (.cells #[vv,.int .i64 o,.int .i64 d,dv,cv] 69)).alloc (.cells #[.int .i64 a,.int .i64 n] 108):=by
 unfold valO at hr
 obtain ⟨A,c,rfl,hc,hc2⟩:=slice_form h
 have Hh:=hide h
 clear h
 by_cases h1:a = -1
 ·rw [if_pos h1] at hr;cases hr
 ·rw [if_neg h1] at hr
  have hm1:(a == -1)=false:=beq_eq_false_iff_ne.2 h1
  by_cases h2:a<0
  ·have hd:decide (a<0)=true:=by simpa using h2
   clear hr h1
   go_enter Tryz.func144,Tryz.ntmps144
   go_wp2_with fail
   exact ⟨rfl,rfl,rfl⟩
  ·rw [if_neg h2] at hr
   have hd:decide (a<0)=false:=by simpa using h2
   have hge:(vals.length:Int)≤a:=by
    have:=List.getElem?_eq_none_iff.1 hr;omega
   clear hr h1
   go_enter Tryz.func144,Tryz.ntmps144
   go_wp2_with fail
   exact ⟨rfl,rfl,rfl⟩
def lostPost (w:World) (p:List PanicEntry) (w':World):Prop:=p=lostP ∧ Below w.heap.size w w'
def LostPost (w:World) (e:Ending) (w':World):Prop:=∃ p,e=.panicked p ∧ lostPost w p w'
theorem less_some (vals:List Int) (vv:Value) (S:Nat → Prop) (o d:Int) (dv cv:Value) (la ln ra rn x y:Int) (sb:Nat) (w:World) (h:(sliceR (intR .i64)).one w S vv vals) (hS:∀ b,S b → b<w.heap.size) (hb:Blk w sb 69 (stCells vv o d dv cv)) (hx:valO vals la ln=some x) (hy:valO vals ra rn=some y) :
  Calls Tryz.prog 142 #[.agg #[.int .i64 la,.int .i64 ln],.agg #[.int .i64 ra,.int .i64 rn],.pointer (some ⟨sb,0,none⟩)] w fun e w'=>e=.returned (.int .i64 (cmpI x y)) ∧ Below w.heap.size w w':=by
 have hsb:=hb.lt
 have c0:=hb.cell 0
 have c1:=hb.cell 1
 have c2:=hb.cell 2
 have c3:=hb.cell 3
 have c4:=hb.cell 4
 simp [stCells] at c0 c1 c2 c3 c4
 have V1:=hide (fun (w':World) (hw:Below w.heap.size w w')=>val_some vals vv S o d dv cv la ln x w' (slice_below h hw hS) (fun b hb=>Nat.lt_of_lt_of_le (hS b hb) hw.size) hx)
 have V2:=hide (fun (w':World) (hw:Below w.heap.size w w')=>val_some vals vv S o d dv cv ra rn y w' (slice_below h hw hS) (fun b hb=>Nat.lt_of_lt_of_le (hS b hb) hw.size) hy)
 clear h hS hb hx hy
 go_enter Tryz.func142,Tryz.ntmps142
 go_wp2_with fail
 have hbW:Below w.heap.size w ((w.alloc (.cells #[.int .i64 la,.int .i64 ln] 108)).alloc (.cells #[.int .i64 ra,.int .i64 rn] 108)):=((Below.refl _ _).alloc (Nat.le_refl _) _).alloc (by simp) _
 have hz:((w.alloc (.cells #[.int .i64 la,.int .i64 ln] 108)).alloc (.cells #[.int .i64 ra,.int .i64 rn] 108)).heap.size=w.heap.size+2:=by simp
 have x0:((w.alloc (.cells #[.int .i64 la,.int .i64 ln] 108)).alloc (.cells #[.int .i64 ra,.int .i64 rn] 108)).cell? ⟨w.heap.size,0,none⟩=some (.int .i64 la):=by simp
 have x1:((w.alloc (.cells #[.int .i64 la,.int .i64 ln] 108)).alloc (.cells #[.int .i64 ra,.int .i64 rn] 108)).cell? ⟨w.heap.size,1,none⟩=some (.int .i64 ln):=by simp
 have y0:((w.alloc (.cells #[.int .i64 la,.int .i64 ln] 108)).alloc (.cells #[.int .i64 ra,.int .i64 rn] 108)).cell? ⟨w.heap.size+1,0,none⟩=some (.int .i64 ra):=by simp
 have y1:((w.alloc (.cells #[.int .i64 la,.int .i64 ln] 108)).alloc (.cells #[.int .i64 ra,.int .i64 rn] 108)).cell? ⟨w.heap.size+1,1,none⟩=some (.int .i64 rn):=by simp
 generalize (w.alloc (.cells #[.int .i64 la,.int .i64 ln] 108)).alloc (.cells #[.int .i64 ra,.int .i64 rn] 108)=W at *
 have d0:=(hbW.cell (p:=⟨sb,0,none⟩) hsb).trans c0
 have d1:=(hbW.cell (p:=⟨sb,1,none⟩) hsb).trans c1
 have d2:=(hbW.cell (p:=⟨sb,2,none⟩) hsb).trans c2
 have d3:=(hbW.cell (p:=⟨sb,3,none⟩) hsb).trans c3
 have d4:=(hbW.cell (p:=⟨sb,4,none⟩) hsb).trans c4
 clear c0 c1 c2 c3 c4
 have hsbW:sb<W.heap.size:=by omega
 have KEEP:=hide (fun (w':World) (hb:Below W.heap.size W w')=>(⟨(hb.cell (p:=⟨sb,0,none⟩) hsbW).trans d0,(hb.cell (p:=⟨sb,1,none⟩) hsbW).trans d1,(hb.cell (p:=⟨sb,2,none⟩) hsbW).trans d2,(hb.cell (p:=⟨sb,3,none⟩) hsbW).trans d3,(hb.cell (p:=⟨sb,4,none⟩) hsbW).trans d4,
  (hb.cell (p:=⟨w.heap.size,0,none⟩) (by show w.heap.size<_;omega)).trans x0,(hb.cell (p:=⟨w.heap.size,1,none⟩) (by show w.heap.size<_;omega)).trans x1,(hb.cell (p:=⟨w.heap.size+1,0,none⟩) (by show w.heap.size+1<_;omega)).trans y0,(hb.cell (p:=⟨w.heap.size+1,1,none⟩) (by show w.heap.size+1<_;omega)).trans y1⟩ :
  w'.cell? ⟨sb,0,none⟩=some vv ∧ w'.cell? ⟨sb,1,none⟩=some (.int .i64 o) ∧ w'.cell? ⟨sb,2,none⟩=some (.int .i64 d) ∧ w'.cell? ⟨sb,3,none⟩=some dv ∧ w'.cell? ⟨sb,4,none⟩=some cv ∧ w'.cell? ⟨w.heap.size,0,none⟩=some (.int .i64 la) ∧ w'.cell? ⟨w.heap.size,1,none⟩=some (.int .i64 ln) ∧ w'.cell? ⟨w.heap.size+1,0,none⟩=some (.int .i64 ra) ∧ w'.cell? ⟨w.heap.size+1,1,none⟩=some (.int .i64 rn)))
 go_region_held3 (fun w'=>w'.cell? ⟨sb,0,none⟩=some vv ∧ w'.cell? ⟨sb,1,none⟩=some (.int .i64 o) ∧ w'.cell? ⟨sb,2,none⟩=some (.int .i64 d) ∧ w'.cell? ⟨sb,3,none⟩=some dv ∧ w'.cell? ⟨sb,4,none⟩=some cv ∧ w'.cell? ⟨w.heap.size,0,none⟩=some (.int .i64 la) ∧ w'.cell? ⟨w.heap.size,1,none⟩=some (.int .i64 ln) ∧ w'.cell? ⟨w.heap.size+1,0,none⟩=some (.int .i64 ra) ∧ w'.cell? ⟨w.heap.size+1,1,none⟩=some (.int .i64 rn))
  ((refine KEEP.out _ ?_;repeat (first | exact Below.refl _ _ | refine Below.drew ?_ | refine Below.alloc ?_ (by first | omega | (simp;done) | (simp;omega)) _)))
  (first | (go_at_call 144;(with_reducible refine (V1.out _ ?_).mono ?_);(repeat (first | exact hbW | refine Below.drew ?_ | refine Below.alloc ?_ (by first | omega | (simp;done) | (simp;omega)) _));rintro e w' ⟨rfl,rfl⟩) | (go_at_call 144;(with_reducible refine (V2.out _ ?_).mono ?_);(repeat (first | exact hbW | refine Below.drew ?_ | refine Below.alloc ?_ (by first | omega | (simp;done) | (simp;omega)) _));rintro e w' ⟨rfl,rfl⟩) | (go_at_call 143;refine (cmp_any _ _ _).mono ?_;rintro e w' ⟨rfl,rfl⟩))
 all_goals
  go_wp2_with fail
  go_ret
  refine ⟨rfl,?_⟩
  repeat (first | exact hbW | refine Below.drew ?_ | refine Below.alloc ?_ (by first | omega | (simp;done) | (simp;omega)) _)
theorem less_none1 (vals:List Int) (vv:Value) (S:Nat → Prop) (o d:Int) (dv cv:Value) (la ln ra rn:Int) (sb:Nat) (w:World) (h:(sliceR (intR .i64)).one w S vv vals) (hS:∀ b,S b → b<w.heap.size) (hb:Blk w sb 69 (stCells vv o d dv cv)) (hx:valO vals la ln=none)  :
  Calls Tryz.prog 142 #[.agg #[.int .i64 la,.int .i64 ln],.agg #[.int .i64 ra,.int .i64 rn],.pointer (some ⟨sb,0,none⟩)] w (LostPost w):=by
 have hsb:=hb.lt
 have c0:=hb.cell 0
 have c1:=hb.cell 1
 have c2:=hb.cell 2
 have c3:=hb.cell 3
 have c4:=hb.cell 4
 simp [stCells] at c0 c1 c2 c3 c4
 have V1:=hide (fun (w':World) (hw:Below w.heap.size w w')=>val_none vals vv S o d dv cv la ln w' (slice_below h hw hS) hx)
 clear h hS hb hx
 go_enter Tryz.func142,Tryz.ntmps142
 go_wp2_with fail
 have hbW:Below w.heap.size w ((w.alloc (.cells #[.int .i64 la,.int .i64 ln] 108)).alloc (.cells #[.int .i64 ra,.int .i64 rn] 108)):=((Below.refl _ _).alloc (Nat.le_refl _) _).alloc (by simp) _
 have hz:((w.alloc (.cells #[.int .i64 la,.int .i64 ln] 108)).alloc (.cells #[.int .i64 ra,.int .i64 rn] 108)).heap.size=w.heap.size+2:=by simp
 have x0:((w.alloc (.cells #[.int .i64 la,.int .i64 ln] 108)).alloc (.cells #[.int .i64 ra,.int .i64 rn] 108)).cell? ⟨w.heap.size,0,none⟩=some (.int .i64 la):=by simp
 have x1:((w.alloc (.cells #[.int .i64 la,.int .i64 ln] 108)).alloc (.cells #[.int .i64 ra,.int .i64 rn] 108)).cell? ⟨w.heap.size,1,none⟩=some (.int .i64 ln):=by simp
 have y0:((w.alloc (.cells #[.int .i64 la,.int .i64 ln] 108)).alloc (.cells #[.int .i64 ra,.int .i64 rn] 108)).cell? ⟨w.heap.size+1,0,none⟩=some (.int .i64 ra):=by simp
 have y1:((w.alloc (.cells #[.int .i64 la,.int .i64 ln] 108)).alloc (.cells #[.int .i64 ra,.int .i64 rn] 108)).cell? ⟨w.heap.size+1,1,none⟩=some (.int .i64 rn):=by simp
 generalize (w.alloc (.cells #[.int .i64 la,.int .i64 ln] 108)).alloc (.cells #[.int .i64 ra,.int .i64 rn] 108)=W at *
 have d0:=(hbW.cell (p:=⟨sb,0,none⟩) hsb).trans c0
 have d1:=(hbW.cell (p:=⟨sb,1,none⟩) hsb).trans c1
 have d2:=(hbW.cell (p:=⟨sb,2,none⟩) hsb).trans c2
 have d3:=(hbW.cell (p:=⟨sb,3,none⟩) hsb).trans c3
 have d4:=(hbW.cell (p:=⟨sb,4,none⟩) hsb).trans c4
 clear c0 c1 c2 c3 c4
 have hsbW:sb<W.heap.size:=by omega
 have KEEP:=hide (fun (w':World) (hb:Below W.heap.size W w')=>(⟨(hb.cell (p:=⟨sb,0,none⟩) hsbW).trans d0,(hb.cell (p:=⟨sb,1,none⟩) hsbW).trans d1,(hb.cell (p:=⟨sb,2,none⟩) hsbW).trans d2,(hb.cell (p:=⟨sb,3,none⟩) hsbW).trans d3,(hb.cell (p:=⟨sb,4,none⟩) hsbW).trans d4,
  (hb.cell (p:=⟨w.heap.size,0,none⟩) (by show w.heap.size<_;omega)).trans x0,(hb.cell (p:=⟨w.heap.size,1,none⟩) (by show w.heap.size<_;omega)).trans x1,(hb.cell (p:=⟨w.heap.size+1,0,none⟩) (by show w.heap.size+1<_;omega)).trans y0,(hb.cell (p:=⟨w.heap.size+1,1,none⟩) (by show w.heap.size+1<_;omega)).trans y1⟩ :
  w'.cell? ⟨sb,0,none⟩=some vv ∧ w'.cell? ⟨sb,1,none⟩=some (.int .i64 o) ∧ w'.cell? ⟨sb,2,none⟩=some (.int .i64 d) ∧ w'.cell? ⟨sb,3,none⟩=some dv ∧ w'.cell? ⟨sb,4,none⟩=some cv ∧ w'.cell? ⟨w.heap.size,0,none⟩=some (.int .i64 la) ∧ w'.cell? ⟨w.heap.size,1,none⟩=some (.int .i64 ln) ∧ w'.cell? ⟨w.heap.size+1,0,none⟩=some (.int .i64 ra) ∧ w'.cell? ⟨w.heap.size+1,1,none⟩=some (.int .i64 rn)))
 have hS0:=KEEP.out W.drew ((Below.refl _ _).drew)
 refine wp_region_held (S:=fun w'=>w'.cell? ⟨sb,0,none⟩=some vv ∧ w'.cell? ⟨sb,1,none⟩=some (.int .i64 o) ∧ w'.cell? ⟨sb,2,none⟩=some (.int .i64 d) ∧ w'.cell? ⟨sb,3,none⟩=some dv ∧ w'.cell? ⟨sb,4,none⟩=some cv ∧ w'.cell? ⟨w.heap.size,0,none⟩=some (.int .i64 la) ∧ w'.cell? ⟨w.heap.size,1,none⟩=some (.int .i64 ln) ∧ w'.cell? ⟨w.heap.size+1,0,none⟩=some (.int .i64 ra) ∧ w'.cell? ⟨w.heap.size+1,1,none⟩=some (.int .i64 rn)) (by kernel_rfl) ?_
 refine wpAnyH_take (i:=0) (v:=stAgg vv o d dv cv) rfl (by kernel_rfl) (by kernel_rfl) (by kernel_rfl) (fun _ _ _ h=>h) (Or.inl ⟨by rfl,?_⟩) hS0 ?_
 ·intro w hSw;obtain ⟨q0,q1,q2,q3,q4,q5,q6,q7,q8⟩:=hSw;go_simp
 refine wpAnyH_take (i:=1) (v:=.agg #[.int .i64 la,.int .i64 ln]) rfl (by kernel_rfl) (by kernel_rfl) (by kernel_rfl) (fun _ _ _ h=>h) (Or.inl ⟨by rfl,?_⟩) hS0 ?_
 ·intro w hSw;obtain ⟨q0,q1,q2,q3,q4,q5,q6,q7,q8⟩:=hSw;go_simp
 refine wpAnyH_take (i:=3) (v:=stAgg vv o d dv cv) rfl (by kernel_rfl) (by kernel_rfl) (by kernel_rfl) (fun _ _ _ h=>h) (Or.inl ⟨by rfl,?_⟩) hS0 ?_
 ·intro w hSw;obtain ⟨q0,q1,q2,q3,q4,q5,q6,q7,q8⟩:=hSw;go_simp
 refine wpAnyH_take (i:=4) (v:=.agg #[.int .i64 ra,.int .i64 rn]) rfl (by kernel_rfl) (by kernel_rfl) (by kernel_rfl) (fun _ _ _ h=>h) (Or.inl ⟨by rfl,?_⟩) hS0 ?_
 ·intro w hSw;obtain ⟨q0,q1,q2,q3,q4,q5,q6,q7,q8⟩:=hSw;go_simp
 refine wpAnyH_ready (rs:=[2]) (by kernel_rfl) (by simp) ?_
 refine AllReadyH.cons (o:=_) rfl (fun K hK=>?_) AllReadyH.nil
 go_simp
 refine (V1.out _ ?_).mono ?_
 ·repeat (first | exact hbW | refine Below.drew ?_ | refine Below.alloc ?_ (by first | omega | (simp;done) | (simp;omega)) _)
 rintro e w' ⟨rfl,rfl⟩
 refine ⟨rfl,lostP,rfl,rfl,?_⟩
 repeat (first | exact hbW | refine Below.drew ?_ | refine Below.alloc ?_ (by first | omega | (simp;done) | (simp;omega)) _)
theorem less_none2 (vals:List Int) (vv:Value) (S:Nat → Prop) (o d:Int) (dv cv:Value) (la ln ra rn x:Int) (sb:Nat) (w:World) (h:(sliceR (intR .i64)).one w S vv vals) (hS:∀ b,S b → b<w.heap.size) (hb:Blk w sb 69 (stCells vv o d dv cv)) (hx:valO vals la ln=some x) (hy:valO vals ra rn=none) :
  Calls Tryz.prog 142 #[.agg #[.int .i64 la,.int .i64 ln],.agg #[.int .i64 ra,.int .i64 rn],.pointer (some ⟨sb,0,none⟩)] w (LostPost w):=by
 have hsb:=hb.lt
 have c0:=hb.cell 0
 have c1:=hb.cell 1
 have c2:=hb.cell 2
 have c3:=hb.cell 3
 have c4:=hb.cell 4
 simp [stCells] at c0 c1 c2 c3 c4
 have V1:=hide (fun (w':World) (hw:Below w.heap.size w w')=>val_some vals vv S o d dv cv la ln x w' (slice_below h hw hS) (fun b hb=>Nat.lt_of_lt_of_le (hS b hb) hw.size) hx)
 have V2:=hide (fun (w':World) (hw:Below w.heap.size w w')=>val_none vals vv S o d dv cv ra rn w' (slice_below h hw hS) hy)
 clear h hS hb hx hy
 go_enter Tryz.func142,Tryz.ntmps142
 go_wp2_with fail
 have hbW:Below w.heap.size w ((w.alloc (.cells #[.int .i64 la,.int .i64 ln] 108)).alloc (.cells #[.int .i64 ra,.int .i64 rn] 108)):=((Below.refl _ _).alloc (Nat.le_refl _) _).alloc (by simp) _
 have hz:((w.alloc (.cells #[.int .i64 la,.int .i64 ln] 108)).alloc (.cells #[.int .i64 ra,.int .i64 rn] 108)).heap.size=w.heap.size+2:=by simp
 have x0:((w.alloc (.cells #[.int .i64 la,.int .i64 ln] 108)).alloc (.cells #[.int .i64 ra,.int .i64 rn] 108)).cell? ⟨w.heap.size,0,none⟩=some (.int .i64 la):=by simp
 have x1:((w.alloc (.cells #[.int .i64 la,.int .i64 ln] 108)).alloc (.cells #[.int .i64 ra,.int .i64 rn] 108)).cell? ⟨w.heap.size,1,none⟩=some (.int .i64 ln):=by simp
 have y0:((w.alloc (.cells #[.int .i64 la,.int .i64 ln] 108)).alloc (.cells #[.int .i64 ra,.int .i64 rn] 108)).cell? ⟨w.heap.size+1,0,none⟩=some (.int .i64 ra):=by simp
 have y1:((w.alloc (.cells #[.int .i64 la,.int .i64 ln] 108)).alloc (.cells #[.int .i64 ra,.int .i64 rn] 108)).cell? ⟨w.heap.size+1,1,none⟩=some (.int .i64 rn):=by simp
 generalize (w.alloc (.cells #[.int .i64 la,.int .i64 ln] 108)).alloc (.cells #[.int .i64 ra,.int .i64 rn] 108)=W at *
 have d0:=(hbW.cell (p:=⟨sb,0,none⟩) hsb).trans c0
 have d1:=(hbW.cell (p:=⟨sb,1,none⟩) hsb).trans c1
 have d2:=(hbW.cell (p:=⟨sb,2,none⟩) hsb).trans c2
 have d3:=(hbW.cell (p:=⟨sb,3,none⟩) hsb).trans c3
 have d4:=(hbW.cell (p:=⟨sb,4,none⟩) hsb).trans c4
 clear c0 c1 c2 c3 c4
 have hsbW:sb<W.heap.size:=by omega
 have KEEP:=hide (fun (w':World) (hb:Below W.heap.size W w')=>(⟨(hb.cell (p:=⟨sb,0,none⟩) hsbW).trans d0,(hb.cell (p:=⟨sb,1,none⟩) hsbW).trans d1,(hb.cell (p:=⟨sb,2,none⟩) hsbW).trans d2,(hb.cell (p:=⟨sb,3,none⟩) hsbW).trans d3,(hb.cell (p:=⟨sb,4,none⟩) hsbW).trans d4,
  (hb.cell (p:=⟨w.heap.size,0,none⟩) (by show w.heap.size<_;omega)).trans x0,(hb.cell (p:=⟨w.heap.size,1,none⟩) (by show w.heap.size<_;omega)).trans x1,(hb.cell (p:=⟨w.heap.size+1,0,none⟩) (by show w.heap.size+1<_;omega)).trans y0,(hb.cell (p:=⟨w.heap.size+1,1,none⟩) (by show w.heap.size+1<_;omega)).trans y1⟩ :
  w'.cell? ⟨sb,0,none⟩=some vv ∧ w'.cell? ⟨sb,1,none⟩=some (.int .i64 o) ∧ w'.cell? ⟨sb,2,none⟩=some (.int .i64 d) ∧ w'.cell? ⟨sb,3,none⟩=some dv ∧ w'.cell? ⟨sb,4,none⟩=some cv ∧ w'.cell? ⟨w.heap.size,0,none⟩=some (.int .i64 la) ∧ w'.cell? ⟨w.heap.size,1,none⟩=some (.int .i64 ln) ∧ w'.cell? ⟨w.heap.size+1,0,none⟩=some (.int .i64 ra) ∧ w'.cell? ⟨w.heap.size+1,1,none⟩=some (.int .i64 rn)))
 have hS0:=KEEP.out W.drew ((Below.refl _ _).drew)
 refine wp_region_held (S:=fun w'=>w'.cell? ⟨sb,0,none⟩=some vv ∧ w'.cell? ⟨sb,1,none⟩=some (.int .i64 o) ∧ w'.cell? ⟨sb,2,none⟩=some (.int .i64 d) ∧ w'.cell? ⟨sb,3,none⟩=some dv ∧ w'.cell? ⟨sb,4,none⟩=some cv ∧ w'.cell? ⟨w.heap.size,0,none⟩=some (.int .i64 la) ∧ w'.cell? ⟨w.heap.size,1,none⟩=some (.int .i64 ln) ∧ w'.cell? ⟨w.heap.size+1,0,none⟩=some (.int .i64 ra) ∧ w'.cell? ⟨w.heap.size+1,1,none⟩=some (.int .i64 rn)) (by kernel_rfl) ?_
 refine wpAnyH_take (i:=0) (v:=stAgg vv o d dv cv) rfl (by kernel_rfl) (by kernel_rfl) (by kernel_rfl) (fun _ _ _ h=>h) (Or.inl ⟨by rfl,?_⟩) hS0 ?_
 ·intro w hSw;obtain ⟨q0,q1,q2,q3,q4,q5,q6,q7,q8⟩:=hSw;go_simp
 refine wpAnyH_take (i:=1) (v:=.agg #[.int .i64 la,.int .i64 ln]) rfl (by kernel_rfl) (by kernel_rfl) (by kernel_rfl) (fun _ _ _ h=>h) (Or.inl ⟨by rfl,?_⟩) hS0 ?_
 ·intro w hSw;obtain ⟨q0,q1,q2,q3,q4,q5,q6,q7,q8⟩:=hSw;go_simp
 refine wpAnyH_take (i:=3) (v:=stAgg vv o d dv cv) rfl (by kernel_rfl) (by kernel_rfl) (by kernel_rfl) (fun _ _ _ h=>h) (Or.inl ⟨by rfl,?_⟩) hS0 ?_
 ·intro w hSw;obtain ⟨q0,q1,q2,q3,q4,q5,q6,q7,q8⟩:=hSw;go_simp
 refine wpAnyH_take (i:=4) (v:=.agg #[.int .i64 ra,.int .i64 rn]) rfl (by kernel_rfl) (by kernel_rfl) (by kernel_rfl) (fun _ _ _ h=>h) (Or.inl ⟨by rfl,?_⟩) hS0 ?_
 ·intro w hSw;obtain ⟨q0,q1,q2,q3,q4,q5,q6,q7,q8⟩:=hSw;go_simp
 refine wpAnyH_ready (rs:=[2]) (by kernel_rfl) (by simp) ?_
 refine AllReadyH.cons (o:=_) rfl (fun K hK=>?_) AllReadyH.nil
 go_simp
 refine (V1.out _ ?_).mono ?_
 ·repeat (first | exact hbW | refine Below.drew ?_ | refine Below.alloc ?_ (by first | omega | (simp;done) | (simp;omega)) _)
 rintro e w' ⟨rfl,rfl⟩
 refine hK.out _ _ (KEEP.out _ ?_) (fun hH=>?_)
 ·repeat (first | exact Below.refl _ _ | refine Below.drew ?_ | refine Below.alloc ?_ (by first | omega | (simp;done) | (simp;omega)) _)
 clear hK K
 refine wpAnyH_ready (rs:=[5]) (by kernel_rfl) (by simp) ?_
 refine AllReadyH.cons (o:=_) rfl (fun K hK=>?_) AllReadyH.nil
 go_simp
 refine (V2.out _ ?_).mono ?_
 ·repeat (first | exact hbW | refine Below.drew ?_ | refine Below.alloc ?_ (by first | omega | (simp;done) | (simp;omega)) _)
 rintro e w' ⟨rfl,rfl⟩
 refine ⟨rfl,lostP,rfl,rfl,?_⟩
 repeat (first | exact hbW | refine Below.drew ?_ | refine Below.alloc ?_ (by first | omega | (simp;done) | (simp;omega)) _)
end
section
open Go.RowKit
def bv (b:Bool):Value:=.iface 4 (.bool b)
def AskAt (w:World) (a H:Nat) (vv:Value) (o d:Int) (dv cv f:Value) (L:List Bool):Prop:=
 ∃ rv,Blk w a 200 #[vv,.int .i64 o,.int .i64 d,dv,cv,f,rv] ∧ w.ownsRow (a+1) 20 1 rv L.length (L.map bv) ∧ a<H ∧ (∀ g,rv.ownBlock=some g → g<H)
theorem AskAt.below {w w':World} {a H:Nat} {vv:Value} {o d:Int} {dv cv f:Value} {L:List Bool} (h:AskAt w a H vv o d dv cv f L) (hb:Below H w w'):AskAt w' a H vv o d dv cv f L:=by
 obtain ⟨rv,h1,h2,h3,h4⟩:=h
 exact ⟨rv,h1.below hb h3,own_below h2 hb h4,h3,h4⟩
theorem AskAt.cells {w:World} {a H:Nat} {vv:Value} {o d:Int} {dv cv f:Value} {L:List Bool} (h:AskAt w a H vv o d dv cv f L) :
  w.cell? ⟨a,0,none⟩=some vv ∧ w.cell? ⟨a,1,none⟩=some (.int .i64 o) ∧ w.cell? ⟨a,2,none⟩=some (.int .i64 d) ∧ w.cell? ⟨a,5,none⟩=some f:=by
 obtain ⟨rv,h1,_⟩:=h
 have c0:=h1.cell 0
 have c1:=h1.cell 1
 have c2:=h1.cell 2
 have c5:=h1.cell 5
 simp at c0 c1 c2 c5
 exact ⟨c0,c1,c2,c5⟩
def Past (H:Nat) (w w':World):Prop:=∀ g,H≤g → g<w.heap.size → w'.heap[g]? = w.heap[g]?
theorem Past.cell {H:Nat} {w w':World} (h:Past H w w') {g i:Nat} (h1:H≤g) (h2:g<w.heap.size):w'.cell? ⟨g,i,none⟩=w.cell? ⟨g,i,none⟩:=World.cell?_of_block (h g h1 h2)
theorem anyInfo:(Tryz.prog.info? 20).map (fun i=>(i.zero,i.size,i.bytes))=some (some .nilIface,1,16):=by kernel_rfl
def AskPost (v:Value) (a H:Nat) (vv:Value) (o d:Int) (dv cv f:Value) (L:List Bool) (w:World) (e:Ending) (w':World):Prop:=e=.returned v ∧ AskAt w' a w'.heap.size vv o d dv cv f L ∧ Below a w w' ∧ w.heap.size≤w'.heap.size ∧ Past H w w'
theorem askPush (a H:Nat) (vv:Value) (o d:Int) (dv cv f:Value) (L:List Bool) (b:Bool) (w:World) (h:AskAt w a H vv o d dv cv f L) (hL:L.length≤1000) :
  Calls Tryz.prog 185 #[.pointer (some ⟨a,0,none⟩),.bool b] w (AskPost (.tuple #[]) a H vv o d dv cv f (L ++ [b]) w):=by
 obtain ⟨i0,hi0,hz0,hz1,hz2⟩:=info_parts anyInfo
 obtain ⟨rv,hb,hown,haH,hrH⟩:=h
 have hlt:=hb.lt
 have c6:=hb.cell 6
 have f6:=hb.frozen 6
 simp at c6
 obtain ⟨A,c,rfl,hc⟩:=own_form hown
 have HB:=hide hb
 clear hb
 go_enter Tryz.func185,Tryz.ntmps185
 go_wp2_with (at_builtin;refine wpList_append_own _ rfl _ _ 198 rfl (a+1) 20 i0 .nilIface 1 16 Tryz.underlying198 hi0 hz0 hz1 hz2 rfl (by decide) _ _ _ rfl (hown.alloc _) ⟨w.heap.size,0,none⟩ 1 1 [.iface 4 (.bool b)] rfl rfl (cellOne_new _ _ _) (oneIface _ _) (by unfold maxLen;omega) (by omega) (by simp;omega) ?_;intro v' w1 hown' hgrow _;have hne:some a ≠ (Value.slice A L.length c).ownBlock:=own_ne hown (by omega);have hb1:=(HB.out.alloc (.cells #[.iface 4 (.bool b)] 20)).grown hgrow hne;obtain ⟨A2,c2,rfl,hc2⟩:=own_form hown';have d6:=hb1.cell 6;have g6:=hb1.frozen 6;simp at d6)
 have hbl:Below a w w1:=((Below.refl a w).alloc (by omega) _).grown hgrow (by simp;omega) (fun k hk=>by have:=(hown.lt k hk).1;omega)
 have hsz:w.heap.size≤w1.heap.size:=by have:=hgrow.size;simp at this;omega
 have hw1:a<w1.heap.size:=hb1.lt
 have hlr:∀ g,(Value.slice A2 (L.length+1) c2).ownBlock=some g → g<w1.heap.size:=fun g hg=>(hown'.lt g hg).2
 have hpast:Past H w (w1.setCell ⟨a,6,none⟩ (.slice A2 (L.length+1) c2)):=fun g hg1 hg2=>by
  rw [Below.heap_setCell w1 ⟨a,6,none⟩ _ g (by simp;omega)]
  have e1:w1.heap[g]? = (w.alloc (.cells #[.iface 4 (.bool b)] 20)).heap[g]?:=hgrow.block g (by simp;omega) (fun e=>by have:=hrH g e.symm;omega)
  rw [e1]
  exact Below.heap_alloc w _ g hg2
 go_end0
 refine ⟨rfl,⟨_,?_,by rw [List.length_append,List.map_append];exact own_far hown' (p:=⟨a,6,none⟩) (by simp) _,by simpa using hw1,fun g hg=>by have:=hlr g hg;simpa using this⟩,hbl.setCell (Nat.le_refl _) _,by simpa using hsz,hpast⟩
 ·have:=hb1.set_ 6 (.slice A2 (L.length+1) c2)
  simpa using this
def PopPost (b:Bool) (a H:Nat) (vv:Value) (o d:Int) (dv cv f:Value) (L:List Bool) (w:World) (e:Ending) (w':World):Prop:=e=.returned (.bool b) ∧ AskAt w' a H vv o d dv cv f L ∧ Below a w w' ∧ w.heap.size≤w'.heap.size ∧ Past H w w'
theorem assertBool (x:Bool) (w:World):(Instr.typeAssert (.iface 4 (.bool x)) 20 4 false).run Tryz.prog w=.ok (.bool x) w:=by kernel_rfl
theorem askPop (a H:Nat) (vv:Value) (o d:Int) (dv cv f:Value) (L:List Bool) (b:Bool) (w:World) (h:AskAt w a H vv o d dv cv f (L ++ [b])) (hL:L.length≤1000) :
  Calls Tryz.prog 173 #[.pointer (some ⟨a,0,none⟩)] w (PopPost b a H vv o d dv cv f L w):=by
 obtain ⟨rv,hb,hown,haH,hrH⟩:=h
 have hlt:=hb.lt
 have c6:=hb.cell 6
 have f6:=hb.frozen 6
 simp at c6
 obtain ⟨g,c,rfl,hc,hg1,hg2⟩:=own_some hown (by simp)
 have hcell:=own_cell hown rfl (j:=L.length) (u:=bv b) (by simp)
 have hown2:=own_take hown (k:=L.length) (by simp)
 have hown3:w.ownsRow (a+1) 20 1 (.slice (some ⟨g,0,none⟩) L.length c) L.length (L.map bv):=by
  have e:(List.map bv (L ++ [b])).take L.length=L.map bv:=by rw [List.map_append,List.take_append_of_le_length (by simp),List.take_of_length_le (by simp)]
  rwa [e] at hown2
 have HB:=hide hb
 have HO:=hide hown3
 have hgn:a ≠ g:=by omega
 have ln:(L ++ [b]).length=L.length+1:=by simp
 rw [ln] at c6 hc
 unfold bv at hcell
 clear hb hown hown2 hown3 ln
 have hta:=assertBool b
 go_enter Tryz.func173,Tryz.ntmps173
 go_wp2_with fail
 go_ret
 refine ⟨rfl,⟨_,?_,own_far HO.out (p:=⟨a,6,none⟩) (by simp) _,haH,hrH⟩,(Below.refl a w).setCell (Nat.le_refl _) _,by simp,fun k hk _=>Below.heap_setCell w ⟨a,6,none⟩ _ k (by simp;omega)⟩
 have:=HB.out.set_ 6 (.slice (some ⟨g,0,none⟩) L.length c)
 simpa using this
theorem askPopNone (a H:Nat) (vv:Value) (o d:Int) (dv cv f:Value) (w:World) (h:AskAt w a H vv o d dv cv f []) :
  Calls Tryz.prog 173 #[.pointer (some ⟨a,0,none⟩)] w fun e w'=>e=.panicked lostP ∧ w=w':=by
 obtain ⟨rv,hb,hown,haH,hrH⟩:=h
 have c6:=hb.cell 6
 simp at c6
 obtain ⟨A,c,rfl,hc⟩:=own_form hown
 clear hown hb
 go_enter Tryz.func173,Tryz.ntmps173
 go_wp2_with fail
 exact ⟨rfl,rfl,rfl⟩
end
section
open Go.RowKit
def StepPost (a:Nat) (vv:Value) (o d:Int) (dv cv f:Value) (L:List Bool) (w:World) (e:Ending) (w':World):Prop:=e=.returned (.tuple #[]) ∧ AskAt w' a w'.heap.size vv o d dv cv f L ∧ Below a w w' ∧ w.heap.size≤w'.heap.size
abbrev instVal (op la ln ra rn n u:Int):Value:=.agg #[.int .i64 op,.int .i64 la,.int .i64 ln,.int .i64 ra,.int .i64 rn,.int .i64 n,.int .i64 u]
theorem stepT (op la ln ra rn n u:Int) (a:Nat) (vv:Value) (o d:Int) (dv cv f:Value) (L:List Bool) (w:World) (h:AskAt w a w.heap.size vv o d dv cv f L) (hL:L.length≤1000) (ho:op=1 ∨ op=2) :
  Calls Tryz.prog 172 #[.pointer (some ⟨a,0,none⟩),instVal op la ln ra rn n u] w (StepPost a vv o d dv cv f (L ++ [op == 1]) w):=by
 have hb0:Below w.heap.size w (w.alloc (.cells #[.int .i64 op,.int .i64 la,.int .i64 ln,.int .i64 ra,.int .i64 rn,.int .i64 n,.int .i64 u] 110)):=(Below.refl _ _).alloc (Nat.le_refl _) _
 have hal:a<w.heap.size:=by obtain ⟨_,_,_,h3,_⟩:=h;exact h3
 have Hp:=hide (fun b=>askPush a w.heap.size vv o d dv cv f L b _ (h.below hb0) hL)
 have Hb:=hide hb0
 clear h hb0
 rcases ho with rfl|rfl
 all_goals
  go_enter Tryz.func172,Tryz.ntmps172
  go_wp2_with (go_at_call 185;refine (Hp.out _).mono ?_;rintro e w' ⟨rfl,ha,hbl,hsz,_⟩)
  go_end0
  exact ⟨rfl,ha,Hb.out.mono (Nat.le_of_lt hal) |>.trans hbl,Nat.le_trans Hb.out.size hsz⟩
theorem stepCmpQ (q:Int) (hq6:q=3 ∨ q=4 ∨ q=5 ∨ q=6 ∨ q=7 ∨ q=8) (la ln ra rn n u c:Int) (a k:Nat) (caps:Array Value) (vv:Value) (o d:Int) (dv cv:Value) (L:List Bool) (w:World) (h:AskAt w a w.heap.size vv o d dv cv (.func (.func k) #[] caps) L) (hL:L.length≤1000)
  (hcf:∀ (args:Array Value) (w:World),(callFunc k args).run Tryz.prog w=.ok (.enter k args) w)
  (HL:Hid (∀ w',Below w.heap.size w w' → Calls Tryz.prog k (#[.agg #[.int .i64 la,.int .i64 ln],.agg #[.int .i64 ra,.int .i64 rn]] ++ caps) w' fun e w''=>e=.returned (.int .i64 c) ∧ Below w'.heap.size w' w'')) :
  Calls Tryz.prog 172 #[.pointer (some ⟨a,0,none⟩),instVal q la ln ra rn n u] w (StepPost a vv o d dv cv (.func (.func k) #[] caps) (L ++ [soB q c]) w):=by
 obtain ⟨W,hW⟩:∃ W,W=w.alloc (.cells #[(.int .i64 q),.int .i64 la,.int .i64 ln,.int .i64 ra,.int .i64 rn,.int .i64 n,.int .i64 u] 110):=⟨_,rfl⟩
 have hb0:Below w.heap.size w W:=by rw [hW];exact (Below.refl _ _).alloc (Nat.le_refl _) _
 have hal:a<w.heap.size:=by obtain ⟨_,_,_,h3,_⟩:=h;exact h3
 have hz:W.heap.size=w.heap.size+1:=by rw [hW];simp
 have c5:=(h.below hb0).cells.2.2.2
 have x0:W.cell? ⟨w.heap.size,0,none⟩=some (.int .i64 q):=by rw [hW];simp
 have x1:W.cell? ⟨w.heap.size,1,none⟩=some (.int .i64 la):=by rw [hW];simp
 have x2:W.cell? ⟨w.heap.size,2,none⟩=some (.int .i64 ln):=by rw [hW];simp
 have x3:W.cell? ⟨w.heap.size,3,none⟩=some (.int .i64 ra):=by rw [hW];simp
 have x4:W.cell? ⟨w.heap.size,4,none⟩=some (.int .i64 rn):=by rw [hW];simp
 have KB:=hide (fun (w':World) (hb:Below W.heap.size W w')=>(⟨(hb.cell (p:=⟨a,5,none⟩) (by show a<_;omega)).trans c5,(hb.cell (p:=⟨w.heap.size,0,none⟩) (by show w.heap.size<_;omega)).trans x0,(hb.cell (p:=⟨w.heap.size,1,none⟩) (by show w.heap.size<_;omega)).trans x1,(hb.cell (p:=⟨w.heap.size,2,none⟩) (by show w.heap.size<_;omega)).trans x2,(hb.cell (p:=⟨w.heap.size,3,none⟩) (by show w.heap.size<_;omega)).trans x3,(hb.cell (p:=⟨w.heap.size,4,none⟩) (by show w.heap.size<_;omega)).trans x4⟩ :
  w'.cell? ⟨a,5,none⟩=some (.func (.func k) #[] caps) ∧ w'.cell? ⟨w.heap.size,0,none⟩=some (.int .i64 q) ∧ w'.cell? ⟨w.heap.size,1,none⟩=some (.int .i64 la) ∧ w'.cell? ⟨w.heap.size,2,none⟩=some (.int .i64 ln) ∧ w'.cell? ⟨w.heap.size,3,none⟩=some (.int .i64 ra) ∧ w'.cell? ⟨w.heap.size,4,none⟩=some (.int .i64 rn)))
 have KP:=hide (fun (w1 w2:World) (hb:Below W.heap.size W w1) (b:Bool) (ha:AskAt w2 a w2.heap.size vv o d dv cv (.func (.func k) #[] caps) (L ++ [b])) (hp:Past w.heap.size w1 w2)=>by
  obtain ⟨q0,q1,q2,q3,q4,q5⟩:=KB.out w1 hb
  have hs:w.heap.size<w1.heap.size:=by have:=hb.size;omega
  exact (⟨ha.cells.2.2.2,(hp.cell (Nat.le_refl _) hs).trans q1,(hp.cell (Nat.le_refl _) hs).trans q2,(hp.cell (Nat.le_refl _) hs).trans q3,(hp.cell (Nat.le_refl _) hs).trans q4,(hp.cell (Nat.le_refl _) hs).trans q5⟩ :
   w2.cell? ⟨a,5,none⟩=some (.func (.func k) #[] caps) ∧ w2.cell? ⟨w.heap.size,0,none⟩=some (.int .i64 q) ∧ w2.cell? ⟨w.heap.size,1,none⟩=some (.int .i64 la) ∧ w2.cell? ⟨w.heap.size,2,none⟩=some (.int .i64 ln) ∧ w2.cell? ⟨w.heap.size,3,none⟩=some (.int .i64 ra) ∧ w2.cell? ⟨w.heap.size,4,none⟩=some (.int .i64 rn)))
 have H:=hide h
 have HW:=hide hW
 have HB:=hide hb0
 clear h hb0 hW
 rcases hq6 with hq|hq|hq|hq|hq|hq
 all_goals
  go_enter Tryz.func172,Tryz.ntmps172
  go_wp2_with fail
  have HW2:=HW.out
  rw [hq] at HW2
  rw [← HW2]
  clear HW2
  have hS0:=KB.out W.drew ((Below.refl _ _).drew)
  go_region_held3 (fun w'=>w'.cell? ⟨a,5,none⟩=some (.func (.func k) #[] caps) ∧ w'.cell? ⟨w.heap.size,0,none⟩=some (.int .i64 q) ∧ w'.cell? ⟨w.heap.size,1,none⟩=some (.int .i64 la) ∧ w'.cell? ⟨w.heap.size,2,none⟩=some (.int .i64 ln) ∧ w'.cell? ⟨w.heap.size,3,none⟩=some (.int .i64 ra) ∧ w'.cell? ⟨w.heap.size,4,none⟩=some (.int .i64 rn)) (assumption)
   (first
    | (go_at_call 186;refine (so_any _ _ _).mono ?_;rintro e w' ⟨rfl,rfl⟩)
    | (go_at_call 185;(with_reducible refine (askPush a w.heap.size vv o d dv cv _ L _ _ (H.out.below hbw1) hL).mono ?_);rintro e w2 ⟨rfl,ha,hbl,hsz,hpast⟩;have K2:=KP.out _ _ hbW1 _ ha hpast)
    | ((with_reducible refine (HL.out _ HB.out.drew).mono ?_);rintro e w1 ⟨rfl,hb1⟩;have hbW1:Below W.heap.size W w1:=(Below.refl W.heap.size W).drew.trans hb1;have K1:=KB.out w1 hbW1;have hbw1:Below w.heap.size w w1:=HB.out.trans (hbW1.mono HB.out.size)))
  all_goals
   go_wp2_with fail
   go_end0
   subst hq;exact ⟨rfl,ha,(hbw1.mono (Nat.le_of_lt hal)).trans hbl,Nat.le_trans hbw1.size hsz⟩
theorem stepNoQ (q:Int) (hq6:q=3 ∨ q=4 ∨ q=5 ∨ q=6 ∨ q=7 ∨ q=8) (la ln ra rn n u:Int) (a k:Nat) (caps:Array Value) (vv:Value) (o d:Int) (dv cv:Value) (L:List Bool) (w:World) (h:AskAt w a w.heap.size vv o d dv cv (.func (.func k) #[] caps) L) (hL:L.length≤1000)
  (hcf:∀ (args:Array Value) (w:World),(callFunc k args).run Tryz.prog w=.ok (.enter k args) w)
  (HL:Hid (∀ w',Below w.heap.size w w' → Calls Tryz.prog k (#[.agg #[.int .i64 la,.int .i64 ln],.agg #[.int .i64 ra,.int .i64 rn]] ++ caps) w' fun e w''=>e=.panicked lostP ∧ Below w'.heap.size w' w'')) :
  Calls Tryz.prog 172 #[.pointer (some ⟨a,0,none⟩),instVal q la ln ra rn n u] w fun e w'=>e=.panicked lostP ∧ Below a w w':=by
 obtain ⟨W,hW⟩:∃ W,W=w.alloc (.cells #[(.int .i64 q),.int .i64 la,.int .i64 ln,.int .i64 ra,.int .i64 rn,.int .i64 n,.int .i64 u] 110):=⟨_,rfl⟩
 have hb0:Below w.heap.size w W:=by rw [hW];exact (Below.refl _ _).alloc (Nat.le_refl _) _
 have hal:a<w.heap.size:=by obtain ⟨_,_,_,h3,_⟩:=h;exact h3
 have hz:W.heap.size=w.heap.size+1:=by rw [hW];simp
 have c5:=(h.below hb0).cells.2.2.2
 have x0:W.cell? ⟨w.heap.size,0,none⟩=some (.int .i64 q):=by rw [hW];simp
 have x1:W.cell? ⟨w.heap.size,1,none⟩=some (.int .i64 la):=by rw [hW];simp
 have x2:W.cell? ⟨w.heap.size,2,none⟩=some (.int .i64 ln):=by rw [hW];simp
 have x3:W.cell? ⟨w.heap.size,3,none⟩=some (.int .i64 ra):=by rw [hW];simp
 have x4:W.cell? ⟨w.heap.size,4,none⟩=some (.int .i64 rn):=by rw [hW];simp
 have KB:=hide (fun (w':World) (hb:Below W.heap.size W w')=>(⟨(hb.cell (p:=⟨a,5,none⟩) (by show a<_;omega)).trans c5,(hb.cell (p:=⟨w.heap.size,0,none⟩) (by show w.heap.size<_;omega)).trans x0,(hb.cell (p:=⟨w.heap.size,1,none⟩) (by show w.heap.size<_;omega)).trans x1,(hb.cell (p:=⟨w.heap.size,2,none⟩) (by show w.heap.size<_;omega)).trans x2,(hb.cell (p:=⟨w.heap.size,3,none⟩) (by show w.heap.size<_;omega)).trans x3,(hb.cell (p:=⟨w.heap.size,4,none⟩) (by show w.heap.size<_;omega)).trans x4⟩ :
  w'.cell? ⟨a,5,none⟩=some (.func (.func k) #[] caps) ∧ w'.cell? ⟨w.heap.size,0,none⟩=some (.int .i64 q) ∧ w'.cell? ⟨w.heap.size,1,none⟩=some (.int .i64 la) ∧ w'.cell? ⟨w.heap.size,2,none⟩=some (.int .i64 ln) ∧ w'.cell? ⟨w.heap.size,3,none⟩=some (.int .i64 ra) ∧ w'.cell? ⟨w.heap.size,4,none⟩=some (.int .i64 rn)))
 have H:=hide h
 have HW:=hide hW
 have HB:=hide hb0
 clear h hb0 hW
 rcases hq6 with hq|hq|hq|hq|hq|hq
 all_goals
  go_enter Tryz.func172,Tryz.ntmps172
  go_wp2_with fail
  have HW2:=HW.out
  rw [hq] at HW2
  rw [← HW2]
  clear HW2
  have hS0:=KB.out W.drew ((Below.refl _ _).drew)
  refine wp_region_held (S:=fun w'=>w'.cell? ⟨a,5,none⟩=some (.func (.func k) #[] caps) ∧ w'.cell? ⟨w.heap.size,0,none⟩=some (.int .i64 q) ∧ w'.cell? ⟨w.heap.size,1,none⟩=some (.int .i64 la) ∧ w'.cell? ⟨w.heap.size,2,none⟩=some (.int .i64 ln) ∧ w'.cell? ⟨w.heap.size,3,none⟩=some (.int .i64 ra) ∧ w'.cell? ⟨w.heap.size,4,none⟩=some (.int .i64 rn)) (by kernel_rfl) ?_
  refine wpAnyH_take (i:=0) (v:=.pointer (some ⟨a,0,none⟩)) rfl (by kernel_rfl) (by kernel_rfl) (by kernel_rfl) (fun _ _ _ h=>h) (Or.inl ⟨by rfl,?_⟩) hS0 ?_
  ·intro w hSw;obtain ⟨q0,q1,q2,q3,q4,q5⟩:=hSw;go_simp
  refine wpAnyH_take (i:=1) (v:=.pointer (some ⟨w.heap.size,0,none⟩)) rfl (by kernel_rfl) (by kernel_rfl) (by kernel_rfl) (fun _ _ _ h=>h) (Or.inl ⟨by rfl,?_⟩) hS0 ?_
  ·intro w hSw;obtain ⟨q0,q1,q2,q3,q4,q5⟩:=hSw;go_simp
  refine wpAnyH_take (i:=2) (v:=.int .i64 q) rfl (by kernel_rfl) (by kernel_rfl) (by kernel_rfl) (fun _ _ _ h=>h) (Or.inl ⟨by rfl,?_⟩) hS0 ?_
  ·intro w hSw;obtain ⟨q0,q1,q2,q3,q4,q5⟩:=hSw;go_simp
  refine wpAnyH_take (i:=3) (v:=.pointer (some ⟨a,0,none⟩)) rfl (by kernel_rfl) (by kernel_rfl) (by kernel_rfl) (fun _ _ _ h=>h) (Or.inl ⟨by rfl,?_⟩) hS0 ?_
  ·intro w hSw;obtain ⟨q0,q1,q2,q3,q4,q5⟩:=hSw;go_simp
  refine wpAnyH_take (i:=4) (v:=.pointer (some ⟨a,0,none⟩)) rfl (by kernel_rfl) (by kernel_rfl) (by kernel_rfl) (fun _ _ _ h=>h) (Or.inl ⟨by rfl,?_⟩) hS0 ?_
  ·intro w hSw;obtain ⟨q0,q1,q2,q3,q4,q5⟩:=hSw;go_simp
  refine wpAnyH_take (i:=5) (v:=.pointer (some ⟨a,5,none⟩)) rfl (by kernel_rfl) (by kernel_rfl) (by kernel_rfl) (fun _ _ _ h=>h) (Or.inl ⟨by rfl,?_⟩) hS0 ?_
  ·intro w hSw;obtain ⟨q0,q1,q2,q3,q4,q5⟩:=hSw;go_simp
  refine wpAnyH_take (i:=6) (v:=.func (.func k) #[] caps) rfl (by kernel_rfl) (by kernel_rfl) (by kernel_rfl) (fun _ _ _ h=>h) (Or.inl ⟨by rfl,?_⟩) hS0 ?_
  ·intro w hSw;obtain ⟨q0,q1,q2,q3,q4,q5⟩:=hSw;go_simp
  refine wpAnyH_take (i:=7) (v:=.pointer (some ⟨w.heap.size,1,none⟩)) rfl (by kernel_rfl) (by kernel_rfl) (by kernel_rfl) (fun _ _ _ h=>h) (Or.inl ⟨by rfl,?_⟩) hS0 ?_
  ·intro w hSw;obtain ⟨q0,q1,q2,q3,q4,q5⟩:=hSw;go_simp
  refine wpAnyH_take (i:=8) (v:=.agg #[.int .i64 la,.int .i64 ln]) rfl (by kernel_rfl) (by kernel_rfl) (by kernel_rfl) (fun _ _ _ h=>h) (Or.inl ⟨by rfl,?_⟩) hS0 ?_
  ·intro w hSw;obtain ⟨q0,q1,q2,q3,q4,q5⟩:=hSw;go_simp
  refine wpAnyH_take (i:=9) (v:=.pointer (some ⟨w.heap.size,3,none⟩)) rfl (by kernel_rfl) (by kernel_rfl) (by kernel_rfl) (fun _ _ _ h=>h) (Or.inl ⟨by rfl,?_⟩) hS0 ?_
  ·intro w hSw;obtain ⟨q0,q1,q2,q3,q4,q5⟩:=hSw;go_simp
  refine wpAnyH_take (i:=10) (v:=.agg #[.int .i64 ra,.int .i64 rn]) rfl (by kernel_rfl) (by kernel_rfl) (by kernel_rfl) (fun _ _ _ h=>h) (Or.inl ⟨by rfl,?_⟩) hS0 ?_
  ·intro w hSw;obtain ⟨q0,q1,q2,q3,q4,q5⟩:=hSw;go_simp
  refine wpAnyH_ready (rs:=[11]) (by kernel_rfl) (by simp) ?_
  refine AllReadyH.cons (o:=_) rfl (fun K hK=>?_) AllReadyH.nil
  go_simp
  refine (HL.out _ HB.out.drew).mono ?_
  rintro e w1 ⟨rfl,hb1⟩
  have hbW1:Below W.heap.size W w1:=(Below.refl W.heap.size W).drew.trans hb1
  exact ⟨rfl,rfl,(HB.out.mono (Nat.le_of_lt hal)).trans (hbW1.mono (by omega))⟩
def stepCmp3:=stepCmpQ 3 (by simp)
def stepNo3:=stepNoQ 3 (by simp)
def stepCmp4:=stepCmpQ 4 (by simp)
def stepNo4:=stepNoQ 4 (by simp)
def stepCmp5:=stepCmpQ 5 (by simp)
def stepNo5:=stepNoQ 5 (by simp)
def stepCmp6:=stepCmpQ 6 (by simp)
def stepNo6:=stepNoQ 6 (by simp)
def stepCmp7:=stepCmpQ 7 (by simp)
def stepNo7:=stepNoQ 7 (by simp)
def stepCmp8:=stepCmpQ 8 (by simp)
def stepNo8:=stepNoQ 8 (by simp)
end
section
open Go.RowKit
theorem stepHas9 (la ln ra rn n u:Int) (a:Nat) (vv:Value) (o d:Int) (dv cv f:Value) (L:List Bool) (w:World) (h:AskAt w a w.heap.size vv o d dv cv f L) (hL:L.length≤1000) :
  Calls Tryz.prog 172 #[.pointer (some ⟨a,0,none⟩),instVal 9 la ln ra rn n u] w (StepPost a vv o d dv cv f (L ++ [hasB o n]) w):=by
 obtain ⟨W,hW⟩:∃ W,W=w.alloc (.cells #[.int .i64 9,.int .i64 la,.int .i64 ln,.int .i64 ra,.int .i64 rn,.int .i64 n,.int .i64 u] 110):=⟨_,rfl⟩
 have hb0:Below w.heap.size w W:=by rw [hW];exact (Below.refl _ _).alloc (Nat.le_refl _) _
 have hal:a<w.heap.size:=by obtain ⟨_,_,_,h3,_⟩:=h;exact h3
 have hz:W.heap.size=w.heap.size+1:=by rw [hW];simp
 have c5:=(h.below hb0).cells.2.1
 have x0:W.cell? ⟨w.heap.size,5,none⟩=some (.int .i64 n):=by rw [hW];simp
 have KB:=hide (fun (w':World) (hb:Below W.heap.size W w')=>(⟨(hb.cell (p:=⟨a,1,none⟩) (by show a<_;omega)).trans c5,(hb.cell (p:=⟨w.heap.size,5,none⟩) (by show w.heap.size<_;omega)).trans x0⟩ :
  w'.cell? ⟨a,1,none⟩=some (.int .i64 o) ∧ w'.cell? ⟨w.heap.size,5,none⟩=some (.int .i64 n)))
 have KP:=hide (fun (w1 w2:World) (hb:Below W.heap.size W w1) (ha:AskAt w2 a w2.heap.size vv o d dv cv f (L ++ [hasB o n])) (hp:Past w.heap.size w1 w2)=>by
  obtain ⟨q0,q1⟩:=KB.out w1 hb
  have hs:w.heap.size<w1.heap.size:=by have:=hb.size;omega
  exact (⟨ha.cells.2.1,(hp.cell (Nat.le_refl _) hs).trans q1⟩ :
   w2.cell? ⟨a,1,none⟩=some (.int .i64 o) ∧ w2.cell? ⟨w.heap.size,5,none⟩=some (.int .i64 n)))
 have H:=hide h
 have HW:=hide hW
 have HB:=hide hb0
 clear h hb0 hW
 go_enter Tryz.func172,Tryz.ntmps172
 go_wp2_with fail
 rw [← HW.out]
 have hbW:Below W.heap.size W W.drew:=(Below.refl _ _).drew
 have hbw:Below w.heap.size w W.drew:=HB.out.drew
 have hS0:=KB.out W.drew hbW
 go_region_held3 (fun w'=>w'.cell? ⟨a,1,none⟩=some (.int .i64 o) ∧ w'.cell? ⟨w.heap.size,5,none⟩=some (.int .i64 n)) (assumption)
  (first
   | (go_at_call 139;refine (has_any _ _ _).mono ?_;rintro e w' ⟨rfl,rfl⟩)
   | (go_at_call 185;(with_reducible refine (askPush a w.heap.size vv o d dv cv _ L _ _ (H.out.below hbw) hL).mono ?_);rintro e w2 ⟨rfl,ha,hbl,hsz,hpast⟩;have K2:=KP.out _ _ hbW ha hpast))
 all_goals
  go_wp2_with fail
  go_end0
  exact ⟨rfl,ha,(hbw.mono (Nat.le_of_lt hal)).trans hbl,Nat.le_trans hbw.size hsz⟩
theorem stepHas10 (la ln ra rn n u:Int) (a:Nat) (vv:Value) (o d:Int) (dv cv f:Value) (L:List Bool) (w:World) (h:AskAt w a w.heap.size vv o d dv cv f L) (hL:L.length≤1000) :
  Calls Tryz.prog 172 #[.pointer (some ⟨a,0,none⟩),instVal 10 la ln ra rn n u] w (StepPost a vv o d dv cv f (L ++ [hasB d n]) w):=by
 obtain ⟨W,hW⟩:∃ W,W=w.alloc (.cells #[.int .i64 10,.int .i64 la,.int .i64 ln,.int .i64 ra,.int .i64 rn,.int .i64 n,.int .i64 u] 110):=⟨_,rfl⟩
 have hb0:Below w.heap.size w W:=by rw [hW];exact (Below.refl _ _).alloc (Nat.le_refl _) _
 have hal:a<w.heap.size:=by obtain ⟨_,_,_,h3,_⟩:=h;exact h3
 have hz:W.heap.size=w.heap.size+1:=by rw [hW];simp
 have c5:=(h.below hb0).cells.2.2.1
 have x0:W.cell? ⟨w.heap.size,5,none⟩=some (.int .i64 n):=by rw [hW];simp
 have KB:=hide (fun (w':World) (hb:Below W.heap.size W w')=>(⟨(hb.cell (p:=⟨a,2,none⟩) (by show a<_;omega)).trans c5,(hb.cell (p:=⟨w.heap.size,5,none⟩) (by show w.heap.size<_;omega)).trans x0⟩ :
  w'.cell? ⟨a,2,none⟩=some (.int .i64 d) ∧ w'.cell? ⟨w.heap.size,5,none⟩=some (.int .i64 n)))
 have KP:=hide (fun (w1 w2:World) (hb:Below W.heap.size W w1) (ha:AskAt w2 a w2.heap.size vv o d dv cv f (L ++ [hasB d n])) (hp:Past w.heap.size w1 w2)=>by
  obtain ⟨q0,q1⟩:=KB.out w1 hb
  have hs:w.heap.size<w1.heap.size:=by have:=hb.size;omega
  exact (⟨ha.cells.2.2.1,(hp.cell (Nat.le_refl _) hs).trans q1⟩ :
   w2.cell? ⟨a,2,none⟩=some (.int .i64 d) ∧ w2.cell? ⟨w.heap.size,5,none⟩=some (.int .i64 n)))
 have H:=hide h
 have HW:=hide hW
 have HB:=hide hb0
 clear h hb0 hW
 go_enter Tryz.func172,Tryz.ntmps172
 go_wp2_with fail
 rw [← HW.out]
 have hbW:Below W.heap.size W W.drew:=(Below.refl _ _).drew
 have hbw:Below w.heap.size w W.drew:=HB.out.drew
 have hS0:=KB.out W.drew hbW
 go_region_held3 (fun w'=>w'.cell? ⟨a,2,none⟩=some (.int .i64 d) ∧ w'.cell? ⟨w.heap.size,5,none⟩=some (.int .i64 n)) (assumption)
  (first
   | (go_at_call 139;refine (has_any _ _ _).mono ?_;rintro e w' ⟨rfl,rfl⟩)
   | (go_at_call 185;(with_reducible refine (askPush a w.heap.size vv o d dv cv _ L _ _ (H.out.below hbw) hL).mono ?_);rintro e w2 ⟨rfl,ha,hbl,hsz,hpast⟩;have K2:=KP.out _ _ hbW ha hpast))
 all_goals
  go_wp2_with fail
  go_end0
  exact ⟨rfl,ha,(hbw.mono (Nat.le_of_lt hal)).trans hbl,Nat.le_trans hbw.size hsz⟩
theorem stepNot (la ln ra rn n u:Int) (a:Nat) (vv:Value) (o d:Int) (dv cv f:Value) (L:List Bool) (b:Bool) (w:World) (h:AskAt w a w.heap.size vv o d dv cv f (L ++ [b])) (hL:L.length≤999) :
  Calls Tryz.prog 172 #[.pointer (some ⟨a,0,none⟩),instVal 15 la ln ra rn n u] w (StepPost a vv o d dv cv f (L ++ [!b]) w):=by
 have hb0:Below w.heap.size w (w.alloc (.cells #[.int .i64 15,.int .i64 la,.int .i64 ln,.int .i64 ra,.int .i64 rn,.int .i64 n,.int .i64 u] 110)):=(Below.refl _ _).alloc (Nat.le_refl _) _
 have hal:a<w.heap.size:=by obtain ⟨_,_,_,h3,_⟩:=h;exact h3
 have Hp:=hide (askPop a w.heap.size vv o d dv cv f L b _ (h.below hb0) (by omega))
 have HB:=hide hb0
 clear h hb0
 go_enter Tryz.func172,Tryz.ntmps172
 go_wp2_with (first
  | (go_at_call 173;refine Hp.out.mono ?_;rintro e w1 ⟨rfl,ha,hbl,hsz,_⟩)
  | (go_at_call 185;(with_reducible refine (askPush a w.heap.size vv o d dv cv _ L _ _ ha (by omega)).mono ?_);rintro e w2 ⟨rfl,ha2,hbl2,hsz2,_⟩))
 go_end0
 have h1:=(HB.out.mono (Nat.le_of_lt hal)).trans hbl
 exact ⟨rfl,ha2,h1.trans hbl2,Nat.le_trans (Nat.le_trans HB.out.size hsz) hsz2⟩
theorem stepNotNone (la ln ra rn n u:Int) (a:Nat) (vv:Value) (o d:Int) (dv cv f:Value) (w:World) (h:AskAt w a w.heap.size vv o d dv cv f []) :
  Calls Tryz.prog 172 #[.pointer (some ⟨a,0,none⟩),instVal 15 la ln ra rn n u] w fun e w'=>e=.panicked lostP ∧ Below a w w':=by
 have hb0:Below w.heap.size w (w.alloc (.cells #[.int .i64 15,.int .i64 la,.int .i64 ln,.int .i64 ra,.int .i64 rn,.int .i64 n,.int .i64 u] 110)):=(Below.refl _ _).alloc (Nat.le_refl _) _
 have hal:a<w.heap.size:=by obtain ⟨_,_,_,h3,_⟩:=h;exact h3
 have Hp:=hide (askPopNone a w.heap.size vv o d dv cv f _ (h.below hb0))
 have HB:=hide hb0
 clear h hb0
 go_enter Tryz.func172,Tryz.ntmps172
 go_wp2_with (first
  | (go_at_call 173;refine Hp.out.mono ?_;rintro e w1 ⟨rfl,rfl⟩))
 exact ⟨rfl,rfl,HB.out.mono (Nat.le_of_lt hal)⟩
theorem stepBin16 (la ln ra rn n u:Int) (a:Nat) (vv:Value) (o d:Int) (dv cv f:Value) (L:List Bool) (x y:Bool) (w:World) (h:AskAt w a w.heap.size vv o d dv cv f ((L ++ [x]) ++ [y])) (hL:L.length≤998) :
  Calls Tryz.prog 172 #[.pointer (some ⟨a,0,none⟩),instVal 16 la ln ra rn n u] w (StepPost a vv o d dv cv f (L ++ [x && y]) w):=by
 obtain ⟨W,hW⟩:∃ W,W=w.alloc (.cells #[.int .i64 16,.int .i64 la,.int .i64 ln,.int .i64 ra,.int .i64 rn,.int .i64 n,.int .i64 u] 110):=⟨_,rfl⟩
 have hb0:Below w.heap.size w W:=by rw [hW];exact (Below.refl _ _).alloc (Nat.le_refl _) _
 have hal:a<w.heap.size:=by obtain ⟨_,_,_,h3,_⟩:=h;exact h3
 have x0:W.cell? ⟨w.heap.size,0,none⟩=some (.int .i64 16):=by rw [hW];simp
 have hz:W.heap.size=w.heap.size+1:=by rw [hW];simp
 have Hp:=hide (askPop a w.heap.size vv o d dv cv f (L ++ [x]) y _ (h.below hb0) (by simp;omega))
 have HB:=hide hb0
 have HW:=hide hW
 clear h hb0 hW
 cases x <;> cases y
 all_goals
  go_enter Tryz.func172,Tryz.ntmps172
  go_wp2_with fail
  rw [← HW.out]
  refine Hp.out.mono ?_
  rintro e w1 ⟨rfl,ha,hbl,hsz,hp1⟩
  have y0:=(hp1.cell (i:=0) (Nat.le_refl _) (by omega)).trans x0
  have hs1:w.heap.size<w1.heap.size:=by omega
  go_wp2_with fail
  refine (askPop a w.heap.size vv o d dv cv f L _ _ ha (by omega)).mono ?_
  rintro e w2 ⟨rfl,ha2,hbl2,hsz2,hp2⟩
  have z0:=(hp2.cell (i:=0) (Nat.le_refl _) hs1).trans y0
  have Ha:=hide ha
  clear x0 y0 hp1 hp2 ha
  go_wp2_with fail
  refine (askPush a w.heap.size vv o d dv cv f L _ _ ha2 (by omega)).mono ?_
  rintro e w3 ⟨rfl,ha3,hbl3,hsz3,hp3⟩
  go_wp2_with fail
  go_end0
  have h1:=((HB.out.mono (Nat.le_of_lt hal)).trans hbl).trans hbl2
  exact ⟨rfl,ha3,h1.trans hbl3,by omega⟩
theorem stepBinNone16 (la ln ra rn n u:Int) (a:Nat) (vv:Value) (o d:Int) (dv cv f:Value) (L:List Bool) (w:World) (h:AskAt w a w.heap.size vv o d dv cv f L) (hL:L.length<2) :
  Calls Tryz.prog 172 #[.pointer (some ⟨a,0,none⟩),instVal 16 la ln ra rn n u] w fun e w'=>e=.panicked lostP ∧ Below a w w':=by
 have hb0:Below w.heap.size w (w.alloc (.cells #[.int .i64 16,.int .i64 la,.int .i64 ln,.int .i64 ra,.int .i64 rn,.int .i64 n,.int .i64 u] 110)):=(Below.refl _ _).alloc (Nat.le_refl _) _
 have hal:a<w.heap.size:=by obtain ⟨_,_,_,h3,_⟩:=h;exact h3
 have HB:=hide hb0
 match L,hL with
 | [],_=>
  have Hp:=hide (askPopNone a w.heap.size vv o d dv cv f _ (h.below hb0))
  clear h hb0
  go_enter Tryz.func172,Tryz.ntmps172
  go_wp2_with (first
   | (go_at_call 173;refine Hp.out.mono ?_;rintro e w1 ⟨rfl,rfl⟩))
  exact ⟨rfl,rfl,HB.out.mono (Nat.le_of_lt hal)⟩
 | [y],_=>
  have Hp:=hide (askPop a w.heap.size vv o d dv cv f [] y _ (h.below hb0) (by simp))
  clear h hb0
  go_enter Tryz.func172,Tryz.ntmps172
  go_wp2_with fail
  refine Hp.out.mono ?_
  rintro e w1 ⟨rfl,ha,hbl,hsz,hp1⟩
  go_wp2_with fail
  refine (askPopNone a w.heap.size vv o d dv cv f _ ha).mono ?_
  rintro e w2 ⟨rfl,rfl⟩
  exact ⟨rfl,rfl,(HB.out.mono (Nat.le_of_lt hal)).trans hbl⟩
theorem stepBin17 (la ln ra rn n u:Int) (a:Nat) (vv:Value) (o d:Int) (dv cv f:Value) (L:List Bool) (x y:Bool) (w:World) (h:AskAt w a w.heap.size vv o d dv cv f ((L ++ [x]) ++ [y])) (hL:L.length≤998) :
  Calls Tryz.prog 172 #[.pointer (some ⟨a,0,none⟩),instVal 17 la ln ra rn n u] w (StepPost a vv o d dv cv f (L ++ [x || y]) w):=by
 obtain ⟨W,hW⟩:∃ W,W=w.alloc (.cells #[.int .i64 17,.int .i64 la,.int .i64 ln,.int .i64 ra,.int .i64 rn,.int .i64 n,.int .i64 u] 110):=⟨_,rfl⟩
 have hb0:Below w.heap.size w W:=by rw [hW];exact (Below.refl _ _).alloc (Nat.le_refl _) _
 have hal:a<w.heap.size:=by obtain ⟨_,_,_,h3,_⟩:=h;exact h3
 have x0:W.cell? ⟨w.heap.size,0,none⟩=some (.int .i64 17):=by rw [hW];simp
 have hz:W.heap.size=w.heap.size+1:=by rw [hW];simp
 have Hp:=hide (askPop a w.heap.size vv o d dv cv f (L ++ [x]) y _ (h.below hb0) (by simp;omega))
 have HB:=hide hb0
 have HW:=hide hW
 clear h hb0 hW
 cases x <;> cases y
 all_goals
  go_enter Tryz.func172,Tryz.ntmps172
  go_wp2_with fail
  rw [← HW.out]
  refine Hp.out.mono ?_
  rintro e w1 ⟨rfl,ha,hbl,hsz,hp1⟩
  have y0:=(hp1.cell (i:=0) (Nat.le_refl _) (by omega)).trans x0
  have hs1:w.heap.size<w1.heap.size:=by omega
  go_wp2_with fail
  refine (askPop a w.heap.size vv o d dv cv f L _ _ ha (by omega)).mono ?_
  rintro e w2 ⟨rfl,ha2,hbl2,hsz2,hp2⟩
  have z0:=(hp2.cell (i:=0) (Nat.le_refl _) hs1).trans y0
  have Ha:=hide ha
  clear x0 y0 hp1 hp2 ha
  go_wp2_with fail
  refine (askPush a w.heap.size vv o d dv cv f L _ _ ha2 (by omega)).mono ?_
  rintro e w3 ⟨rfl,ha3,hbl3,hsz3,hp3⟩
  go_wp2_with fail
  go_end0
  have h1:=((HB.out.mono (Nat.le_of_lt hal)).trans hbl).trans hbl2
  exact ⟨rfl,ha3,h1.trans hbl3,by omega⟩
theorem stepBinNone17 (la ln ra rn n u:Int) (a:Nat) (vv:Value) (o d:Int) (dv cv f:Value) (L:List Bool) (w:World) (h:AskAt w a w.heap.size vv o d dv cv f L) (hL:L.length<2) :
  Calls Tryz.prog 172 #[.pointer (some ⟨a,0,none⟩),instVal 17 la ln ra rn n u] w fun e w'=>e=.panicked lostP ∧ Below a w w':=by
 have hb0:Below w.heap.size w (w.alloc (.cells #[.int .i64 17,.int .i64 la,.int .i64 ln,.int .i64 ra,.int .i64 rn,.int .i64 n,.int .i64 u] 110)):=(Below.refl _ _).alloc (Nat.le_refl _) _
 have hal:a<w.heap.size:=by obtain ⟨_,_,_,h3,_⟩:=h;exact h3
 have HB:=hide hb0
 match L,hL with
 | [],_=>
  have Hp:=hide (askPopNone a w.heap.size vv o d dv cv f _ (h.below hb0))
  clear h hb0
  go_enter Tryz.func172,Tryz.ntmps172
  go_wp2_with (first
   | (go_at_call 173;refine Hp.out.mono ?_;rintro e w1 ⟨rfl,rfl⟩))
  exact ⟨rfl,rfl,HB.out.mono (Nat.le_of_lt hal)⟩
 | [y],_=>
  have Hp:=hide (askPop a w.heap.size vv o d dv cv f [] y _ (h.below hb0) (by simp))
  clear h hb0
  go_enter Tryz.func172,Tryz.ntmps172
  go_wp2_with fail
  refine Hp.out.mono ?_
  rintro e w1 ⟨rfl,ha,hbl,hsz,hp1⟩
  go_wp2_with fail
  refine (askPopNone a w.heap.size vv o d dv cv f _ ha).mono ?_
  rintro e w2 ⟨rfl,rfl⟩
  exact ⟨rfl,rfl,(HB.out.mono (Nat.le_of_lt hal)).trans hbl⟩
theorem stepBin18 (la ln ra rn n u:Int) (a:Nat) (vv:Value) (o d:Int) (dv cv f:Value) (L:List Bool) (x y:Bool) (w:World) (h:AskAt w a w.heap.size vv o d dv cv f ((L ++ [x]) ++ [y])) (hL:L.length≤998) :
  Calls Tryz.prog 172 #[.pointer (some ⟨a,0,none⟩),instVal 18 la ln ra rn n u] w (StepPost a vv o d dv cv f (L ++ [!x || y]) w):=by
 obtain ⟨W,hW⟩:∃ W,W=w.alloc (.cells #[.int .i64 18,.int .i64 la,.int .i64 ln,.int .i64 ra,.int .i64 rn,.int .i64 n,.int .i64 u] 110):=⟨_,rfl⟩
 have hb0:Below w.heap.size w W:=by rw [hW];exact (Below.refl _ _).alloc (Nat.le_refl _) _
 have hal:a<w.heap.size:=by obtain ⟨_,_,_,h3,_⟩:=h;exact h3
 have x0:W.cell? ⟨w.heap.size,0,none⟩=some (.int .i64 18):=by rw [hW];simp
 have hz:W.heap.size=w.heap.size+1:=by rw [hW];simp
 have Hp:=hide (askPop a w.heap.size vv o d dv cv f (L ++ [x]) y _ (h.below hb0) (by simp;omega))
 have HB:=hide hb0
 have HW:=hide hW
 clear h hb0 hW
 cases x <;> cases y
 all_goals
  go_enter Tryz.func172,Tryz.ntmps172
  go_wp2_with fail
  rw [← HW.out]
  refine Hp.out.mono ?_
  rintro e w1 ⟨rfl,ha,hbl,hsz,hp1⟩
  have y0:=(hp1.cell (i:=0) (Nat.le_refl _) (by omega)).trans x0
  have hs1:w.heap.size<w1.heap.size:=by omega
  go_wp2_with fail
  refine (askPop a w.heap.size vv o d dv cv f L _ _ ha (by omega)).mono ?_
  rintro e w2 ⟨rfl,ha2,hbl2,hsz2,hp2⟩
  have z0:=(hp2.cell (i:=0) (Nat.le_refl _) hs1).trans y0
  have Ha:=hide ha
  clear x0 y0 hp1 hp2 ha
  go_wp2_with fail
  refine (askPush a w.heap.size vv o d dv cv f L _ _ ha2 (by omega)).mono ?_
  rintro e w3 ⟨rfl,ha3,hbl3,hsz3,hp3⟩
  go_wp2_with fail
  go_end0
  have h1:=((HB.out.mono (Nat.le_of_lt hal)).trans hbl).trans hbl2
  exact ⟨rfl,ha3,h1.trans hbl3,by omega⟩
theorem stepBinNone18 (la ln ra rn n u:Int) (a:Nat) (vv:Value) (o d:Int) (dv cv f:Value) (L:List Bool) (w:World) (h:AskAt w a w.heap.size vv o d dv cv f L) (hL:L.length<2) :
  Calls Tryz.prog 172 #[.pointer (some ⟨a,0,none⟩),instVal 18 la ln ra rn n u] w fun e w'=>e=.panicked lostP ∧ Below a w w':=by
 have hb0:Below w.heap.size w (w.alloc (.cells #[.int .i64 18,.int .i64 la,.int .i64 ln,.int .i64 ra,.int .i64 rn,.int .i64 n,.int .i64 u] 110)):=(Below.refl _ _).alloc (Nat.le_refl _) _
 have hal:a<w.heap.size:=by obtain ⟨_,_,_,h3,_⟩:=h;exact h3
 have HB:=hide hb0
 match L,hL with
 | [],_=>
  have Hp:=hide (askPopNone a w.heap.size vv o d dv cv f _ (h.below hb0))
  clear h hb0
  go_enter Tryz.func172,Tryz.ntmps172
  go_wp2_with (first
   | (go_at_call 173;refine Hp.out.mono ?_;rintro e w1 ⟨rfl,rfl⟩))
  exact ⟨rfl,rfl,HB.out.mono (Nat.le_of_lt hal)⟩
 | [y],_=>
  have Hp:=hide (askPop a w.heap.size vv o d dv cv f [] y _ (h.below hb0) (by simp))
  clear h hb0
  go_enter Tryz.func172,Tryz.ntmps172
  go_wp2_with fail
  refine Hp.out.mono ?_
  rintro e w1 ⟨rfl,ha,hbl,hsz,hp1⟩
  go_wp2_with fail
  refine (askPopNone a w.heap.size vv o d dv cv f _ ha).mono ?_
  rintro e w2 ⟨rfl,rfl⟩
  exact ⟨rfl,rfl,(HB.out.mono (Nat.le_of_lt hal)).trans hbl⟩
theorem stepBad (op la ln ra rn n u:Int) (a:Nat) (w:World) (hal:a≤w.heap.size) (h1:(op == 1)=false) (h2:(op == 2)=false) (h3:(op == 3)=false) (h4:(op == 4)=false) (h5:(op == 5)=false) (h6:(op == 6)=false) (h7:(op == 7)=false) (h8:(op == 8)=false)
  (h9:(op == 9)=false) (h10:(op == 10)=false) (h15:(op == 15)=false) (h16:(op == 16)=false) (h17:(op == 17)=false) (h18:(op == 18)=false) :
  Calls Tryz.prog 172 #[.pointer (some ⟨a,0,none⟩),instVal op la ln ra rn n u] w fun e w'=>e=.panicked lostP ∧ Below a w w':=by
 go_enter Tryz.func172,Tryz.ntmps172
 go_wp2_with fail
 exact ⟨rfl,rfl,(Below.refl _ _).alloc hal _⟩
end
section
open Go.RowKit
def LessOK (k:Nat) (caps:Array Value) (cm:Inst → Option Int) (x:Inst) (w0:World):Prop:=∀ w',Below w0.heap.size w0 w' →
 match cm x with
 | some c=>Calls Tryz.prog k (#[.agg #[.int .i64 x.la,.int .i64 x.ln],.agg #[.int .i64 x.ra,.int .i64 x.rn]] ++ caps) w' fun e w''=>e=.returned (.int .i64 c) ∧ Below w'.heap.size w' w''
 | none=>Calls Tryz.prog k (#[.agg #[.int .i64 x.la,.int .i64 x.ln],.agg #[.int .i64 x.ra,.int .i64 x.rn]] ++ caps) w' fun e w''=>e=.panicked lostP ∧ Below w'.heap.size w' w''
theorem LessOK.some_ {k:Nat} {caps:Array Value} {cm:Inst → Option Int} {x:Inst} {w0 w:World} (h:LessOK k caps cm x w0) (hb:Below w0.heap.size w0 w) {c:Int} (hc:cm x=some c) :
  Hid (∀ w',Below w.heap.size w w' → Calls Tryz.prog k (#[.agg #[.int .i64 x.la,.int .i64 x.ln],.agg #[.int .i64 x.ra,.int .i64 x.rn]] ++ caps) w' fun e w''=>e=.returned (.int .i64 c) ∧ Below w'.heap.size w' w''):=by
 refine hide fun w' hw=>?_
 have:=h w' (hb.trans (hw.mono hb.size))
 rw [hc] at this
 exact this
theorem LessOK.none_ {k:Nat} {caps:Array Value} {cm:Inst → Option Int} {x:Inst} {w0 w:World} (h:LessOK k caps cm x w0) (hb:Below w0.heap.size w0 w) (hc:cm x=none) :
  Hid (∀ w',Below w.heap.size w w' → Calls Tryz.prog k (#[.agg #[.int .i64 x.la,.int .i64 x.ln],.agg #[.int .i64 x.ra,.int .i64 x.rn]] ++ caps) w' fun e w''=>e=.panicked lostP ∧ Below w'.heap.size w' w''):=by
 refine hide fun w' hw=>?_
 have:=h w' (hb.trans (hw.mono hb.size))
 rw [hc] at this
 exact this
theorem snoc_of_cons {L r:List Bool} {b:Bool} (h:L.reverse=b :: r):L=r.reverse ++ [b]:=by
 have:=congrArg List.reverse h
 simpa using this
theorem step_some (x:Inst) (cm:Inst → Option Int) (a k:Nat) (caps:Array Value) (vv:Value) (o d:Int) (dv cv:Value) (L:List Bool) (r':List Bool) (w w0:World) (h:AskAt w a w.heap.size vv o d dv cv (.func (.func k) #[] caps) L) (hL:L.length≤900)
  (hcf:∀ (args:Array Value) (w:World),(callFunc k args).run Tryz.prog w=.ok (.enter k args) w) (hl:LessOK k caps cm x w0) (hb:Below w0.heap.size w0 w) (hr:stepG cm o d x L.reverse=some r') :
  Calls Tryz.prog 172 #[.pointer (some ⟨a,0,none⟩),instVal x.op x.la x.ln x.ra x.rn x.n x.u] w (StepPost a vv o d dv cv (.func (.func k) #[] caps) r'.reverse w):=by
 obtain ⟨op,la,ln,ra,rn,n,u⟩:=x
 unfold stepG at hr
 simp only at hr ⊢
 split at hr
 ·cases hr
  have:=stepT op la ln ra rn n u a vv o d dv cv _ L w h (by omega) (by assumption)
  simpa using this
 split at hr
 ·rename_i h1
  split at hr
  ·rename_i c hc
   cases hr
   have HL:=hl.some_ hb hc
   have e:op=3 ∨ op=4 ∨ op=5 ∨ op=6 ∨ op=7 ∨ op=8:=by omega
   rw [List.reverse_cons,List.reverse_reverse]
   rcases e with rfl|rfl|rfl|rfl|rfl|rfl
   ·exact stepCmp3 la ln ra rn n u c a k caps vv o d dv cv L w h (by omega) hcf HL
   ·exact stepCmp4 la ln ra rn n u c a k caps vv o d dv cv L w h (by omega) hcf HL
   ·exact stepCmp5 la ln ra rn n u c a k caps vv o d dv cv L w h (by omega) hcf HL
   ·exact stepCmp6 la ln ra rn n u c a k caps vv o d dv cv L w h (by omega) hcf HL
   ·exact stepCmp7 la ln ra rn n u c a k caps vv o d dv cv L w h (by omega) hcf HL
   ·exact stepCmp8 la ln ra rn n u c a k caps vv o d dv cv L w h (by omega) hcf HL
  ·cases hr
 split at hr
 ·rename_i h9
  subst h9
  cases hr
  rw [List.reverse_cons,List.reverse_reverse]
  exact stepHas9 la ln ra rn n u a vv o d dv cv _ L w h (by omega)
 split at hr
 ·rename_i h10
  subst h10
  cases hr
  rw [List.reverse_cons,List.reverse_reverse]
  exact stepHas10 la ln ra rn n u a vv o d dv cv _ L w h (by omega)
 split at hr
 ·rename_i h15
  subst h15
  split at hr
  ·rename_i b r e
   cases hr
   obtain rfl:=snoc_of_cons e
   simp at hL
   rw [List.reverse_cons]
   exact stepNot la ln ra rn n u a vv o d dv cv _ _ b w h (by simp;omega)
  ·cases hr
 split at hr
 ·rename_i h16
  split at hr
  ·rename_i b a' r e
   cases hr
   have e2:L=(r.reverse ++ [a']) ++ [b]:=by
    have:=snoc_of_cons e
    simpa using this
   subst e2
   simp at hL
   have e:op=16 ∨ op=17 ∨ op=18:=by omega
   rcases e with rfl|rfl|rfl
   ·have:=stepBin16 la ln ra rn n u a vv o d dv cv _ r.reverse a' b w h (by simp;omega)
    simpa using this
   ·have:=stepBin17 la ln ra rn n u a vv o d dv cv _ r.reverse a' b w h (by simp;omega)
    simpa using this
   ·have:=stepBin18 la ln ra rn n u a vv o d dv cv _ r.reverse a' b w h (by simp;omega)
    simpa using this
  ·cases hr
 ·cases hr
theorem step_none (x:Inst) (cm:Inst → Option Int) (a k:Nat) (caps:Array Value) (vv:Value) (o d:Int) (dv cv:Value) (L:List Bool) (w w0:World) (h:AskAt w a w.heap.size vv o d dv cv (.func (.func k) #[] caps) L) (hL:L.length≤900)
  (hcf:∀ (args:Array Value) (w:World),(callFunc k args).run Tryz.prog w=.ok (.enter k args) w) (hl:LessOK k caps cm x w0) (hb:Below w0.heap.size w0 w) (hr:stepG cm o d x L.reverse=none) :
  Calls Tryz.prog 172 #[.pointer (some ⟨a,0,none⟩),instVal x.op x.la x.ln x.ra x.rn x.n x.u] w fun e w'=>e=.panicked lostP ∧ Below a w w':=by
 have hal:a<w.heap.size:=by obtain ⟨_,_,_,h3,_⟩:=h;exact h3
 obtain ⟨op,la,ln,ra,rn,n,u⟩:=x
 unfold stepG at hr
 simp only at hr ⊢
 split at hr
 ·cases hr
 rename_i h12
 split at hr
 ·rename_i h1
  split at hr
  ·cases hr
  ·rename_i hc
   have HL:=hl.none_ hb hc
   have e:op=3 ∨ op=4 ∨ op=5 ∨ op=6 ∨ op=7 ∨ op=8:=by omega
   rcases e with rfl|rfl|rfl|rfl|rfl|rfl
   ·exact stepNo3 la ln ra rn n u a k caps vv o d dv cv L w h (by omega) hcf HL
   ·exact stepNo4 la ln ra rn n u a k caps vv o d dv cv L w h (by omega) hcf HL
   ·exact stepNo5 la ln ra rn n u a k caps vv o d dv cv L w h (by omega) hcf HL
   ·exact stepNo6 la ln ra rn n u a k caps vv o d dv cv L w h (by omega) hcf HL
   ·exact stepNo7 la ln ra rn n u a k caps vv o d dv cv L w h (by omega) hcf HL
   ·exact stepNo8 la ln ra rn n u a k caps vv o d dv cv L w h (by omega) hcf HL
 rename_i h38
 split at hr
 ·cases hr
 rename_i h9
 split at hr
 ·cases hr
 rename_i h10
 split at hr
 ·rename_i h15
  subst h15
  split at hr
  ·cases hr
  ·rename_i e
   have e:L=[]:=by simpa using e
   subst e
   exact stepNotNone la ln ra rn n u a vv o d dv cv _ w h
 rename_i h15
 split at hr
 ·rename_i h16
  have hl2:L.length<2:=by
   rw [← List.length_reverse]
   match hh:L.reverse with
   | []=>simp
   | [_]=>simp
   | _ :: _ :: _=>rw [hh] at hr;cases hr
  have e:op=16 ∨ op=17 ∨ op=18:=by omega
  rcases e with rfl|rfl|rfl
  ·exact stepBinNone16 la ln ra rn n u a vv o d dv cv _ L w h hl2
  ·exact stepBinNone17 la ln ra rn n u a vv o d dv cv _ L w h hl2
  ·exact stepBinNone18 la ln ra rn n u a vv o d dv cv _ L w h hl2
 ·rename_i h16
  have ne:∀ k:Int,op ≠ k → (op == k)=false:=fun k h=>beq_eq_false_iff_ne.2 h
  exact stepBad op la ln ra rn n u a w (Nat.le_of_lt hal) (ne _ (by omega)) (ne _ (by omega)) (ne _ (by omega)) (ne _ (by omega)) (ne _ (by omega)) (ne _ (by omega)) (ne _ (by omega)) (ne _ (by omega)) (ne _ (by omega)) (ne _ (by omega)) (ne _ (by omega)) (ne _ (by omega)) (ne _ (by omega)) (ne _ (by omega))
end
section
open Go.RowKit
theorem caught_nil (p q:Addr) (w:World):Calls Tryz.prog 170 #[.pointer (some p),.pointer (some q),.nilIface] w fun e w'=>e=.returned (.tuple #[]) ∧ w=w':=by
 go_enter Tryz.func170,Tryz.ntmps170
 go_wp2
 refine bodyPost_ret (results_none rfl _ _ _) rfl ?_
 exact ⟨rfl,rfl⟩
theorem assertLost (w:World):(Instr.typeAssert (.iface 204 (.agg #[])) 20 204 true).run Tryz.prog w=.ok (.tuple #[.agg #[],.bool true]) w:=by kernel_rfl
theorem eqNil (w:World):(binOp BinOp.eql 20 (.iface 204 (.agg #[])) .nilIface).run Tryz.prog w=.ok (.bool false) w:=by kernel_rfl
theorem caught_lost (p q:Nat) (x:Bool) (y:Int) (w:World) (hp:Blk w p 4 #[.bool x]) (hq:Blk w q 41 #[.int .i64 y]) (hpq:p ≠ q) {B:Nat} (hBp:B≤p) (hBq:B≤q):Calls Tryz.prog 170 #[.pointer (some ⟨p,0,none⟩),.pointer (some ⟨q,0,none⟩),.iface 204 (.agg #[])] w fun e w'=>e=.returned (.tuple #[]) ∧ Blk w' p 4 #[.bool false] ∧ Blk w' q 41 #[.int .i64 17] ∧ Below B w w':=by
 have hta:=assertLost
 have heq:=eqNil
 have c0:=hp.cell 0
 have f0:=hp.frozen 0
 have d0:=hq.cell 0
 have g0:=hq.frozen 0
 simp at c0 d0
 have hpl:=hp.lt
 have hql:=hq.lt
 have HP:=hide hp
 have HQ:=hide hq
 clear hp hq
 go_enter Tryz.func170,Tryz.ntmps170
 go_wp2
 go_end0
 refine ⟨rfl,?_,?_,(((Below.refl B w).setCell hBp _).setCell hBq _).alloc (by simp;omega) _⟩
 ·have h1:=HP.out.set_ 0 (.bool false)
  have h2:=(h1.far (p:=⟨q,0,none⟩) (by simpa using hpq) (.int .i64 17)).alloc (.cells #[] 204)
  simpa using h2
 ·have h1:=HQ.out.far (p:=⟨p,0,none⟩) (by simpa using Ne.symm hpq) (.bool false)
  have h2:=(h1.set_ 0 (.int .i64 17)).alloc (.cells #[] 204)
  simpa using h2
theorem catch_idle (p q:Addr) (w:World) :
  CallsD Tryz.prog 169 #[.pointer (some p),.pointer (some q)] .returning w fun e u' w'=>e=.returned (.tuple #[]) ∧ u'=.returning ∧ w=w':=by
 refine callsD_of_wpS Tryz.func169 rfl fun c₀ cs hu=>?_
 apply wpS_region
 simp [wpOpsS,go_sem,recoverD,hu,Tryz.ntmps169,Exit.thenS]
 refine (caught_nil p q w).mono ?_
 rintro e w' ⟨rfl,rfl⟩
 cases c₀
 simp_all [bodyPostS,results,Tryz.results169]
theorem catch_lost (p q:Nat) (x:Bool) (y:Int) (w:World) (hp:Blk w p 4 #[.bool x]) (hq:Blk w q 41 #[.int .i64 y]) (hpq:p ≠ q) {B:Nat} (hBp:B≤p) (hBq:B≤q) :
  CallsD Tryz.prog 169 #[.pointer (some ⟨p,0,none⟩),.pointer (some ⟨q,0,none⟩)] (.panicking lostP) w fun e u' w'=>e=.returned (.tuple #[]) ∧ u'=.panicking [{ v:=.iface 204 (.agg #[]),recovered:=true }] ∧ (Blk w' p 4 #[.bool false] ∧ Blk w' q 41 #[.int .i64 17] ∧ Below B w w'):=by
 have H:=hide (caught_lost p q x y w hp hq hpq hBp hBq)
 clear hp hq
 refine callsD_of_wpS Tryz.func169 rfl fun c₀ cs hu=>?_
 apply wpS_region
 simp [wpOpsS,go_sem,recoverD,hu,Tryz.ntmps169,Exit.thenS,lostP]
 refine H.out.mono ?_
 rintro e w' ⟨rfl,h1,h2,h3⟩
 refine ⟨rfl,_,rfl,.tuple #[],?_,rfl,rfl,h1,h2,h3⟩
 simp [results,Tryz.results169,go_sem]
end
section
open Go.RowKit
theorem lessNotNil (k:Nat) (caps:Array Value) (w:World):(binOp BinOp.eql 175 (.func (.func k) #[] caps) .nilFunc).run Tryz.prog w=.ok (.bool false) w:=by kernel_rfl
def W0 (w:World) (vv:Value) (o d:Int) (dv cv:Value):World:=((w.alloc (.cells #[vv,.int .i64 o,.int .i64 d,dv,cv] 69)).alloc (.cells #[.bool false] 4)).alloc (.cells #[.int .i64 0] 41)
theorem W0_facts (w:World) (vv:Value) (o d:Int) (dv cv:Value):(W0 w vv o d dv cv).heap.size=w.heap.size+3 ∧ Below w.heap.size w (W0 w vv o d dv cv) ∧ Blk (W0 w vv o d dv cv) w.heap.size 69 #[vv,.int .i64 o,.int .i64 d,dv,cv] ∧
  Blk (W0 w vv o d dv cv) (w.heap.size+1) 4 #[.bool false] ∧ Blk (W0 w vv o d dv cv) (w.heap.size+1+1) 41 #[.int .i64 0]:=by
 unfold W0
 refine ⟨by simp,(((Below.refl _ _).alloc (Nat.le_refl _) _).alloc (by simp) _).alloc (by simp;omega) _,(((Blk.new w _ _).alloc _).alloc _),?_,?_⟩
 ·have:=(Blk.new (w.alloc (.cells #[vv,.int .i64 o,.int .i64 d,dv,cv] 69)) 4 #[.bool false]).alloc (.cells #[.int .i64 0] 41)
  simpa using this
 ·have:=Blk.new ((w.alloc (.cells #[vv,.int .i64 o,.int .i64 d,dv,cv] 69)).alloc (.cells #[.bool false] 4)) 41 #[.int .i64 0]
  simpa using this
theorem item_ok (x:Inst) (h:x.ok):(itemOf x).ok:=by
 refine ⟨h.1,?_,?_,?_,?_,?_,?_,?_,?_⟩ <;> first | exact ⟨by simp [itemOf],by simp [itemOf]⟩ | exact Nat.zero_le _
theorem insts_ok {w:World} {S:Nat → Prop} {v:Value} {l:List Inst} (h:(sliceR instR).one w S v l):∀ x ∈ l,x.ok:=by
 intro x hx
 obtain ⟨i,hi,rfl⟩:=List.getElem_of_mem hx
 obtain ⟨A,c,rfl,_,_⟩:=slice_form h
 obtain ⟨b,o,hv,_,_⟩:=slice_some h (by omega)
 subst hv
 exact (insts_at h hi).2
def topO:Option (List Bool) → Option Bool
 | some (b :: _)=>some b
 | _=>none
theorem topO_eq (x:Option (List Bool)):(match x with | some (b :: _)=>some b | _=>none)=topO x:=by
 match x with
 | none=>rfl
 | some []=>rfl
 | some (_ :: _)=>rfl
theorem runG_append (cm:Inst → Option Int) (o d:Int) (a b:List Inst):∀ r,runG cm o d (a ++ b) r=(runG cm o d a r).bind (runG cm o d b):=by
 induction a with
 | nil=>intro r;rfl
 | cons x a ih=>intro r;rw [List.cons_append,runG,runG];cases stepG cm o d x r <;> simp [ih]
theorem runG_snoc (cm:Inst → Option Int) (o d:Int) (a:List Inst) (x:Inst) (r:List Bool):runG cm o d (a ++ [x]) r=(runG cm o d a r).bind (stepG cm o d x):=by
 rw [runG_append]
 cases runG cm o d a r with
 | none=>rfl
 | some r'=>simp only [Option.bind_some,runG];cases stepG cm o d x r' <;> rfl
theorem stepG_len {cm:Inst → Option Int} {o d:Int} {x:Inst} {r r':List Bool} (h:stepG cm o d x r=some r'):r'.length≤r.length+1:=by
 unfold stepG at h
 split at h
 ·cases h;simp
 split at h
 ·split at h
  ·cases h;simp
  ·cases h
 split at h
 ·cases h;simp
 split at h
 ·cases h;simp
 split at h
 ·split at h
  ·cases h;simp
  ·cases h
 split at h
 ·split at h
  ·cases h;simp
  ·cases h
 ·cases h
theorem AskAt.up {w:World} {a H H':Nat} {vv:Value} {o d:Int} {dv cv f:Value} {L:List Bool} (h:AskAt w a H vv o d dv cv f L) (hh:H≤H'):AskAt w a H' vv o d dv cv f L:=by
 obtain ⟨rv,h1,h2,h3,h4⟩:=h
 exact ⟨rv,h1,h2,by omega,fun g hg=>by have:=h4 g hg;omega⟩
def SidesPost (R:Option Bool) (w:World) (e:Ending) (w':World):Prop:=e=.returned (.tuple #[.bool (optB R),.int .i64 (optE R)]) ∧ Below w.heap.size w w'
theorem sides_bad (l:List Inst) (lv:Value) (S:Nat → Prop) (k:Nat) (caps:Array Value) (vv:Value) (o d:Int) (dv cv:Value) (w:World) (h:(sliceR instR).one w S lv l) (hS:∀ b,S b → b<w.heap.size) (hl:l.length≤900) (hbad:checkE (l.map Inst.op) ≠ 0) :
  Calls Tryz.prog 141 #[lv,.func (.func k) #[] caps,stAgg vv o d dv cv] w (SidesPost none w):=by
 have hmf:∀ (fn:Fn) (first cap:Array Value) (w:World),(Instr.makeFunc fn first cap).run Tryz.prog w=.ok (.func fn first cap) w:=fun _ _ _ _=>rfl
 have Hsl:=hide h
 have HS:=hide hS
 obtain ⟨E,hE⟩:∃ E,E=checkE (l.map Inst.op):=⟨_,rfl⟩
 have hne:(E != 0)=true:=by rw [hE];simpa using hbad
 have HE:=hide hE
 clear h hS hbad hE
 have hnil:=lessNotNil k caps
 obtain ⟨hz,hb0,hB0,hB1,hB2⟩:=W0_facts w vv o d dv cv
 obtain ⟨X,hX⟩:∃ X,X=W0 w vv o d dv cv:=⟨_,rfl⟩
 rw [← hX] at hz hb0 hB0 hB1 hB2
 unfold W0 at hX
 have HX:=hide hX
 have H0:=hide hb0
 have HB1:=hide hB1
 have HB2:=hide hB2
 clear hX hb0 hB0 hB1 hB2
 go_enter_defers Tryz.func141,Tryz.ntmps141
 go_wp2_with fail
 rw [← HX.out]
 refine (shape_any l lv S X (slice_below Hsl.out H0.out HS.out) (fun b hb=>Nat.lt_of_lt_of_le (HS.out b hb) H0.out.size) (by omega)).mono ?_
 rintro e w1 ⟨u,rfl,hown,hb1⟩
 have hsh:=slice_ownP (r:=itemR) Item.cells (l:=l.map itemOf) (fun x hx=>by
  obtain ⟨y,hy,rfl⟩:=List.mem_map.1 hx
  obtain ⟨i,hi,rfl⟩:=List.getElem_of_mem hy
  exact ⟨rfl,item_ok _ (insts_ok Hsl.out _ (List.getElem_mem hi))⟩) hown (by decide)
 have Hsh:=hide hsh
 clear hown hsh
 go_wp2_with fail
 refine (check_any (l.map itemOf) u _ w1 Hsh.out (fun b hb=>hb.2)).mono ?_
 rintro e w2 ⟨rfl,hb2⟩
 rw [itemOf_op,← HE.out]
 have hX2:Below X.heap.size X w2:=hb1.trans (hb2.mono hb1.size)
 have B1:=HB1.out.below hX2 (by omega)
 have B2:=HB2.out.below hX2 (by omega)
 have c1:=B1.cell 0
 have c2:=B2.cell 0
 have f1:=B1.frozen 0
 have f2:=B2.frozen 0
 simp at c1 c2
 have D1:=(B1.set_ 0 (.bool false)).far (p:=⟨w.heap.size+1+1,0,none⟩) (by simp) (.int .i64 17)
 have D2:=(B2.far (p:=⟨w.heap.size+1,0,none⟩) (by simp) (.bool false)).set_ 0 (.int .i64 17)
 have d1:=D1.cell 0
 have d2:=D2.cell 0
 simp at d1 d2
 have HX2:=hide hX2
 clear hX2 hb1 hb2 B1 B2 D1 D2
 go_wp2_with fail
 refine leaves_cons (f:=169) (args:=#[.pointer (some ⟨w.heap.size+1,0,none⟩),.pointer (some ⟨w.heap.size+1+1,0,none⟩)]) (by simp) (by simp [go_sem]) ?_
 refine (catch_idle ⟨w.heap.size+1,0,none⟩ ⟨w.heap.size+1+1,0,none⟩ _).mono ?_
 rintro e u' w'' ⟨rfl,rfl,rfl⟩
 simp [Leaves,settle,results,Tryz.results141,go_sem,d1,d2]
 exact ⟨rfl,((H0.out.trans (HX2.out.mono H0.out.size)).setCell (by show _≤w.heap.size+1;omega) _).setCell (by show _≤w.heap.size+1+1;omega) _⟩
theorem sides_ok (l:List Inst) (lv:Value) (S:Nat → Prop) (k:Nat) (caps:Array Value) (vv:Value) (o d:Int) (dv cv:Value) (w:World) (h:(sliceR instR).one w S lv l) (hS:∀ b,S b → b<w.heap.size) (hl:l.length≤900) (hbad:checkE (l.map Inst.op)=0)
  (hcf:∀ (args:Array Value) (w:World),(callFunc k args).run Tryz.prog w=.ok (.enter k args) w) (cm:Inst → Option Int) (HL:Hid (∀ x ∈ l,LessOK k caps cm x w)) :
  Calls Tryz.prog 141 #[lv,.func (.func k) #[] caps,stAgg vv o d dv cv] w (SidesPost (holdsG cm o d l) w):=by
 have hmf:∀ (fn:Fn) (first cap:Array Value) (w:World),(Instr.makeFunc fn first cap).run Tryz.prog w=.ok (.func fn first cap) w:=fun _ _ _ _=>rfl
 have Hsl:=hide h
 have HS:=hide hS
 obtain ⟨R,hR⟩:∃ R,R=holdsG cm o d l:=⟨_,rfl⟩
 rw [← hR]
 have hRR:R=topO (runG cm o d l []):=by rw [hR];unfold holdsG;rw [if_neg (by simpa using hbad)];exact topO_eq _
 have HR:=hide hRR
 clear hR hRR
 obtain ⟨E,hE⟩:∃ E,E=checkE (l.map Inst.op):=⟨_,rfl⟩
 have hne:(E != 0)=false:=by rw [hE];simpa using hbad
 have HE:=hide hE
 clear h hS hbad hE
 have hnil:=lessNotNil k caps
 obtain ⟨hz,hb0,hB0,hB1,hB2⟩:=W0_facts w vv o d dv cv
 obtain ⟨X,hX⟩:∃ X,X=W0 w vv o d dv cv:=⟨_,rfl⟩
 rw [← hX] at hz hb0 hB0 hB1 hB2
 unfold W0 at hX
 have HX:=hide hX
 have H0:=hide hb0
 have HB0:=hide hB0
 have HB1:=hide hB1
 have HB2:=hide hB2
 clear hX hb0 hB0 hB1 hB2
 go_enter_defers Tryz.func141,Tryz.ntmps141
 go_wp2_with fail
 rw [← HX.out]
 refine (shape_any l lv S X (slice_below Hsl.out H0.out HS.out) (fun b hb=>Nat.lt_of_lt_of_le (HS.out b hb) H0.out.size) (by omega)).mono ?_
 rintro e w1 ⟨u,rfl,hown,hb1⟩
 have hsh:=slice_ownP (r:=itemR) Item.cells (l:=l.map itemOf) (fun x hx=>by
  obtain ⟨y,hy,rfl⟩:=List.mem_map.1 hx
  obtain ⟨i,hi,rfl⟩:=List.getElem_of_mem hy
  exact ⟨rfl,item_ok _ (insts_ok Hsl.out _ (List.getElem_mem hi))⟩) hown (by decide)
 have Hsh:=hide hsh
 clear hown hsh
 go_wp2_with fail
 refine (check_any (l.map itemOf) u _ w1 Hsh.out (fun b hb=>hb.2)).mono ?_
 rintro e w2 ⟨rfl,hb2⟩
 rw [itemOf_op,← HE.out]
 have hX2:Below X.heap.size X w2:=hb1.trans (hb2.mono hb1.size)
 have B1:=HB1.out.below hX2 (by omega)
 have B2:=HB2.out.below hX2 (by omega)
 have B0:=HB0.out.below hX2 (by omega)
 have s0:=B0.cell 0
 have s1:=B0.cell 1
 have s2:=B0.cell 2
 have s3:=B0.cell 3
 have s4:=B0.cell 4
 simp at s0 s1 s2 s3 s4
 obtain ⟨Y,hY⟩:∃ Y,Y=w2.alloc (.cells #[vv,.int .i64 o,.int .i64 d,dv,cv,.func (.func k) #[] caps,.slice none 0 0] 200):=⟨_,rfl⟩
 have hX2s:=hX2.size
 have hY1:Below w.heap.size w Y:=by rw [hY];exact (H0.out.trans (hX2.mono (by omega))).alloc (by omega) _
 have hY2:AskAt Y w2.heap.size Y.heap.size vv o d dv cv (.func (.func k) #[] caps) []:=by
  rw [hY]
  exact ⟨_,Blk.new _ _ _,World.ownsRow_nil _ _ _ _,by simp,fun g hg=>by simp [Value.ownBlock] at hg⟩
 have B1':=B1.alloc (.cells #[vv,.int .i64 o,.int .i64 d,dv,cv,.func (.func k) #[] caps,.slice none 0 0] 200)
 have B2':=B2.alloc (.cells #[vv,.int .i64 o,.int .i64 d,dv,cv,.func (.func k) #[] caps,.slice none 0 0] 200)
 rw [← hY] at B1' B2'
 have hYz:Y.heap.size=w2.heap.size+1:=by rw [hY];simp
 have HY:=hide hY
 have HY1:=hide hY1
 have HY2:=hide hY2
 have HB1Y:=hide B1'
 have HB2Y:=hide B2'
 obtain ⟨A,c,rfl,hc,hc2⟩:=slice_form Hsl.out
 clear hX2 hb1 hb2 B1 B2 B0 hY hY1 hY2 B1' B2' HB0 HB1 HB2
 go_wp2_with fail
 rw [← HY.out]
 go_loopw [26] (fun iv wr=>∃ (k':Nat) (L:List Bool),k'≤l.length ∧ iv=.int .i64 (k':Int) ∧ runG cm o d (l.take k') []=some L.reverse ∧ L.length≤k' ∧ AskAt wr w2.heap.size wr.heap.size vv o d dv cv (.func (.func k) #[] caps) L ∧ Below w2.heap.size Y wr ∧ Y.heap.size≤wr.heap.size)
  (fun iv wr=>l.length - (intOf iv).toNat)
 case atStart=>exact ⟨0,[],Nat.zero_le _,rfl,rfl,Nat.le_refl _,HY2.out,Below.refl _ _,Nat.le_refl _⟩
 case round=>
  obtain ⟨i,L,hi,rfl,hrun,hLi,hask,hbl,hysz⟩:=hrel
  have hbw:Below w.heap.size w wr:=HY1.out.trans (hbl.mono (by omega))
  have Hrun:=hide hrun
  have Hask:=hide hask
  clear hrun hask
  by_cases hlt:i<l.length
  ·have hsl:=slice_below Hsl.out hbw HS.out
   obtain ⟨b,ob,hv,_,_⟩:=slice_some hsl (by omega)
   subst hv
   obtain ⟨hcs,hok⟩:=insts_at hsl hlt
   have hLess:=HL.out l[i] (List.getElem_mem hlt)
   have htk:runG cm o d (l.take (i+1)) []=stepG cm o d l[i] L.reverse:=by
    rw [List.take_succ_eq_append_getElem hlt,runG_snoc,Hrun.out];rfl
   have hall:runG cm o d l []=(stepG cm o d l[i] L.reverse).bind (runG cm o d (l.drop (i+1))):=by
    rw [← htk,← runG_append,List.take_append_drop]
   have Htk:=hide htk
   have Hall:=hide hall
   have HLess:=hide hLess
   have c0:=hcs 0 _ rfl
   have c1:=hcs 1 _ rfl
   have c2:=hcs 2 _ rfl
   have c3:=hcs 3 _ rfl
   have c4:=hcs 4 _ rfl
   have c5:=hcs 5 _ rfl
   have c6:=hcs 6 _ rfl
   clear htk hall hLess hok hcs hsl
   generalize l[i]=x at *
   obtain ⟨xop,xla,xln,xra,xrn,xn,xu⟩:=x
   simp only [Nat.add_zero] at c0 c1 c2 c3 c4 c5 c6
   have hbx:=hbw.alloc (by have:=hbw.size;omega) (.cells #[.int .i64 xop,.int .i64 xla,.int .i64 xln,.int .i64 xra,.int .i64 xrn,.int .i64 xn,.int .i64 xu] 110)
   have hax:=(Hask.out.below ((Below.refl wr.heap.size wr).alloc (Nat.le_refl _) (.cells #[.int .i64 xop,.int .i64 xla,.int .i64 xln,.int .i64 xra,.int .i64 xrn,.int .i64 xn,.int .i64 xu] 110))).up (H':=(wr.alloc (.cells #[.int .i64 xop,.int .i64 xla,.int .i64 xln,.int .i64 xra,.int .i64 xrn,.int .i64 xn,.int .i64 xu] 110)).heap.size) (by simp)
   cases hst:stepG cm o d ⟨xop,xla,xln,xra,xrn,xn,xu⟩ L.reverse with
   | some r'=>
    have hC:=hide (step_some ⟨xop,xla,xln,xra,xrn,xn,xu⟩ cm w2.heap.size k caps vv o d dv cv L r' _ w hax (by omega) hcf HLess.out hbx hst)
    have Hst:=hide hst
    clear hst hax hbx
    go_wp2_with fail
    refine hC.out.mono ?_
    rintro e w3 ⟨rfl,ha3,hb3,hs3⟩
    have hlen:=stepG_len Hst.out
    rw [List.length_reverse] at hlen
    have Hb3:=hide hb3
    have hs4:wr.heap.size+1≤w3.heap.size:=by simpa using hs3
    clear hb3 hs3
    go_wp2_with fail
    go_roundw
    case rel=>exact ⟨i+1,r'.reverse,by omega,by go_num,by rw [Htk.out,Hst.out,List.reverse_reverse],by rw [List.length_reverse];omega,ha3,(hbl.alloc (by omega) _).trans Hb3.out,by omega⟩
    case measure=>simp [intOf];omega
   | none=>
    have hC:=hide (step_none ⟨xop,xla,xln,xra,xrn,xn,xu⟩ cm w2.heap.size k caps vv o d dv cv L _ w hax (by omega) hcf HLess.out hbx hst)
    have hRn:R=none:=by rw [HR.out,Hall.out,hst];rfl
    have HRn:=hide hRn
    clear hst hax hbx hRn
    go_wp2_with fail
    refine hC.out.mono ?_
    rintro e w3 ⟨rfl,hb3⟩
    have hbY3:Below w2.heap.size Y w3:=(hbl.alloc (by omega) _).trans hb3
    have hD:=hide (catch_lost (w.heap.size+1) (w.heap.size+1+1) false 0 w3 (HB1Y.out.below hbY3 (by omega)) (HB2Y.out.below hbY3 (by omega)) (by omega) (B:=w.heap.size) (by omega) (by omega))
    refine leaves_cons (f:=169) (args:=#[.pointer (some ⟨w.heap.size+1,0,none⟩),.pointer (some ⟨w.heap.size+1+1,0,none⟩)]) (by simp) (by simp [go_sem]) ?_
    refine hD.out.mono ?_
    rintro e u' w'' ⟨rfl,rfl,e1,e2,e3⟩
    have d1:=e1.cell 0
    have d2:=e2.cell 0
    simp at d1 d2
    simp [Leaves,settle,results,Tryz.results141,go_sem,d1,d2]
    exact ⟨by rw [HRn.out];rfl,(HY1.out.trans (hbY3.mono (by omega))).trans e3⟩
  ·obtain rfl:i=l.length:=by omega
   have hfull:=Hrun.out
   rw [List.take_length] at hfull
   rcases nil_or_snoc L with rfl|⟨q,b,rfl⟩
   ·have hRn:R=none:=by rw [HR.out,hfull];rfl
    have HRn:=hide hRn
    have hC:=hide (askPopNone w2.heap.size wr.heap.size vv o d dv cv _ wr Hask.out)
    clear hRn hfull
    go_wp2_with fail
    refine hC.out.mono ?_
    rintro e w3 ⟨rfl,rfl⟩
    have hD:=hide (catch_lost (w.heap.size+1) (w.heap.size+1+1) false 0 wr (HB1Y.out.below hbl (by omega)) (HB2Y.out.below hbl (by omega)) (by omega) (B:=w.heap.size) (by omega) (by omega))
    refine leaves_cons (f:=169) (args:=#[.pointer (some ⟨w.heap.size+1,0,none⟩),.pointer (some ⟨w.heap.size+1+1,0,none⟩)]) (by simp) (by simp [go_sem]) ?_
    refine hD.out.mono ?_
    rintro e u' w'' ⟨rfl,rfl,e1,e2,e3⟩
    have d1:=e1.cell 0
    have d2:=e2.cell 0
    simp at d1 d2
    simp [Leaves,settle,results,Tryz.results141,go_sem,d1,d2]
    exact ⟨by rw [HRn.out];rfl,hbw.trans e3⟩
   ·have hRs:R=some b:=by rw [HR.out,hfull];simp [topO]
    have HRs:=hide hRs
    have hC:=hide (askPop w2.heap.size wr.heap.size vv o d dv cv _ q b wr Hask.out (by simp at hLi;omega))
    clear hRs hfull
    go_wp2_with fail
    refine hC.out.mono ?_
    rintro e w3 ⟨rfl,_,hb3,hs3,_⟩
    have hbY3:Below w2.heap.size Y w3:=hbl.trans hb3
    have B1:=HB1Y.out.below hbY3 (by omega)
    have B2:=HB2Y.out.below hbY3 (by omega)
    have c1:=B1.cell 0
    have c2:=B2.cell 0
    have f1:=B1.frozen 0
    have f2:=B2.frozen 0
    simp at c1 c2
    have D1:=(B1.set_ 0 (.bool b)).far (p:=⟨w.heap.size+1+1,0,none⟩) (by simp) (.int .i64 0)
    have D2:=(B2.far (p:=⟨w.heap.size+1,0,none⟩) (by simp) (.bool b)).set_ 0 (.int .i64 0)
    have d1:=D1.cell 0
    have d2:=D2.cell 0
    simp at d1 d2
    have HbY3:=hide hbY3
    clear B1 B2 D1 D2 hb3 hbY3
    go_wp2_with fail
    refine leaves_cons (f:=169) (args:=#[.pointer (some ⟨w.heap.size+1,0,none⟩),.pointer (some ⟨w.heap.size+1+1,0,none⟩)]) (by simp) (by simp [go_sem]) ?_
    refine (catch_idle ⟨w.heap.size+1,0,none⟩ ⟨w.heap.size+1+1,0,none⟩ _).mono ?_
    rintro e u' w'' ⟨rfl,rfl,rfl⟩
    simp [Leaves,settle,results,Tryz.results141,go_sem,d1,d2]
    exact ⟨by rw [HRs.out];rfl,((HY1.out.trans (HbY3.out.mono (by omega))).setCell (by show _≤w.heap.size+1;omega) _).setCell (by show _≤w.heap.size+1+1;omega) _⟩
end
section
open Go.RowKit
theorem lessEnter (args:Array Value) (w:World):(callFunc 142 args).run Tryz.prog w=.ok (.enter 142 args) w:=by
 simp [go_sem,Tryz.func142]
theorem lessOK (vals:List Int) (vv:Value) (S:Nat → Prop) (o d:Int) (dv cv:Value) (sb:Nat) (w:World) (h:(sliceR (intR .i64)).one w S vv vals) (hS:∀ b,S b → b<w.heap.size) (hb:Blk w sb 69 (stCells vv o d dv cv)) (x:Inst) :
  LessOK 142 #[.pointer (some ⟨sb,0,none⟩)] (cmS vals) x w:=by
 intro w' hw
 have h':=slice_below h hw hS
 have hS':∀ b,S b → b<w'.heap.size:=fun b hb=>Nat.lt_of_lt_of_le (hS b hb) hw.size
 have hb':=hb.below hw hb.lt
 unfold cmS
 cases hx:valO vals x.la x.ln with
 | none=>exact less_none1 vals vv S o d dv cv x.la x.ln x.ra x.rn sb w' h' hS' hb' hx |>.mono fun e w'' ⟨p,h1,h2,h3⟩=>⟨by rw [h1,h2],h3⟩
 | some a=>
  cases hy:valO vals x.ra x.rn with
  | none=>exact less_none2 vals vv S o d dv cv x.la x.ln x.ra x.rn a sb w' h' hS' hb' hx hy |>.mono fun e w'' ⟨p,h1,h2,h3⟩=>⟨by rw [h1,h2],h3⟩
  | some b=>exact less_some vals vv S o d dv cv x.la x.ln x.ra x.rn a b sb w' h' hS' hb' hx hy
theorem sides_any (l:List Inst) (lv:Value) (S:Nat → Prop) (k:Nat) (caps:Array Value) (vv:Value) (o d:Int) (dv cv:Value) (w:World) (h:(sliceR instR).one w S lv l) (hS:∀ b,S b → b<w.heap.size) (hl:l.length≤900)
  (hcf:∀ (args:Array Value) (w:World),(callFunc k args).run Tryz.prog w=.ok (.enter k args) w) (cm:Inst → Option Int) (HL:∀ x ∈ l,LessOK k caps cm x w) :
  Calls Tryz.prog 141 #[lv,.func (.func k) #[] caps,stAgg vv o d dv cv] w (SidesPost (holdsG cm o d l) w):=by
 by_cases hc:checkE (l.map Inst.op)=0
 ·exact sides_ok l lv S k caps vv o d dv cv w h hS hl hc hcf cm (hide HL)
 ·have e:holdsG cm o d l=none:=by unfold holdsG;rw [if_pos hc]
  rw [e]
  exact sides_bad l lv S k caps vv o d dv cv w h hS hl hc
theorem holds_any (l:List Inst) (s:St) (lv vv:Value) (dv cv:Value) (S T:Nat → Prop) (w:World) (h:(sliceR instR).one w S lv l) (hS:∀ b,S b → b<w.heap.size) (hl:l.length≤900) (hv:(sliceR (intR .i64)).one w T vv s.vals) (hT:∀ b,T b → b<w.heap.size) :
  Calls Tryz.prog 110 #[lv,stAgg vv s.opn s.don dv cv] w (SidesPost (holdsO l s) w):=by
 obtain ⟨vals,o,d,did,cnt⟩:=s
 simp only at hv ⊢
 unfold holdsO
 simp only
 have hmf:∀ (fn:Fn) (first cap:Array Value) (w:World),(Instr.makeFunc fn first cap).run Tryz.prog w=.ok (.func fn first cap) w:=fun _ _ _ _=>rfl
 have hb0:Below w.heap.size w (w.alloc (.cells #[vv,.int .i64 o,.int .i64 d,dv,cv] 69)):=(Below.refl _ _).alloc (Nat.le_refl _) _
 have hC:=hide (sides_any l lv S 142 #[.pointer (some ⟨w.heap.size,0,none⟩)] vv o d dv cv _ (slice_below h hb0 hS) (fun b hb=>by have:=hS b hb;simp;omega) hl lessEnter (cmS vals) (fun x _=>lessOK vals vv T o d dv cv w.heap.size _ (slice_below hv hb0 hT) (fun b hb=>by have:=hT b hb;simp;omega) (Blk.new w _ _) x))
 have HB:=hide hb0
 clear h hS hv hT hb0
 go_enter Tryz.func110,Tryz.ntmps110
 go_wp2_with fail
 refine hC.out.mono ?_
 rintro e w1 ⟨rfl,hb1⟩
 go_wp2_with fail
 go_ret2
 exact ⟨rfl,HB.out.trans (hb1.mono HB.out.size)⟩
end
section
open Go.RowKit
theorem rt_insts {w:World} {S:Nat → Prop} {v:Value} {l:List Inst} (h:RT w S v (sInsts l)) (hl:∀ x ∈ l,x.ok):(sliceR instR).one w S v l:=by
 obtain ⟨A,cap,rfl,hc,hm,_,hA⟩:=h.sl_inv
 refine ⟨A,cap,by simp,by simpa using hc,hm,fun h0=>?_⟩
 obtain ⟨b,o,rfl,hb,U,hcell,hr,_⟩:=hA (by simpa using h0)
 refine ⟨b,o,rfl,hb,fun i hi=>⟨l[i].cells,fun j u hu=>?_,rfl,hl _ (List.getElem_mem hi)⟩⟩
 have h1:(l.map eInst)[i]? = some (eInst l[i]):=by simp [hi]
 have h3:∀ (j:Nat) (u:Value),l[i].cells[j]? = some u → (eInst l[i])[j]? = some (AV.c u):=by
  intro j u hu
  unfold Inst.cells at hu
  match j with
  | 0 | 1 | 2 | 3 | 4 | 5 | 6=>simp at hu;subst hu;rfl
  | j+7=>simp at hu
 have h4:=h3 j u hu
 have h2:=hcell i j _ _ h1 h4
 rw [rtc (hr i j _ _ h1 h4)] at h2
 exact h2
theorem has_A (s i:Int):ADet Tryz.prog 139 [eI s,eI i] (val (.bool (hasB s i))):=
 adet_of_calls (enters_of Tryz.func139 rfl (by decide)) fun S w vs hS hn hv=>by
  obtain ⟨a,b,rfl⟩:=two_args hn
  obtain rfl:=rtc (hv 0 a _ rfl rfl)
  obtain rfl:=rtc (hv 1 b _ rfl rfl)
  exact (has_any s i w).mono fun e w' ⟨h1,h2⟩=>⟨h1,h2 ▸ Below.refl _ _⟩
theorem with_A (s i:Int):ADet Tryz.prog 91 [eI s,eI i] (val (.int .i64 (withB s i))):=
 adet_of_calls (enters_of Tryz.func91 rfl (by decide)) fun S w vs hS hn hv=>by
  obtain ⟨a,b,rfl⟩:=two_args hn
  obtain rfl:=rtc (hv 0 a _ rfl rfl)
  obtain rfl:=rtc (hv 1 b _ rfl rfl)
  exact (with_any s i w).mono fun e w' ⟨h1,h2⟩=>⟨h1,h2 ▸ Below.refl _ _⟩
theorem without_A (s i:Int):ADet Tryz.prog 113 [eI s,eI i] (val (.int .i64 (withoutB s i))):=
 adet_of_calls (enters_of Tryz.func113 rfl (by decide)) fun S w vs hS hn hv=>by
  obtain ⟨a,b,rfl⟩:=two_args hn
  obtain rfl:=rtc (hv 0 a _ rfl rfl)
  obtain rfl:=rtc (hv 1 b _ rfl rfl)
  exact (without_any s i w).mono fun e w' ⟨h1,h2⟩=>⟨h1,h2 ▸ Below.refl _ _⟩
theorem below_A (l:List Int) (i:Int) (hl:l.length≤1073741824) (ho:∀ x ∈ l,ok64 x):ADet Tryz.prog 111 [sI l,eI i] (own 3 1 ((belowL l i).map fun n=>[eI n])):=
 adet_of_list (enters_of Tryz.func111 rfl (by decide)) fun S w vs hS hn hv=>by
  obtain ⟨a,b,rfl⟩:=two_args hn
  obtain rfl:=rtc (hv 1 b _ rfl rfl)
  exact below_any l a i w hl (rt_ints (hv 0 a _ rfl rfl) hS ho)
theorem circle_A (l:List Int) (hl:l.length≤1073741824) (ho:∀ x ∈ l,ok64 x):ADet Tryz.prog 12 [sI l] (val (.int .i64 (circleL l))):=
 adet_of_calls (enters_of Tryz.func12 rfl (by decide)) fun S w vs hS hn hv=>by
  obtain ⟨a,rfl⟩:∃ a,vs = #[a]:=⟨vs[0]'(by simp at hn;omega),by apply Array.ext (by simpa using hn);intro i h1 h2;simp at h2;subst h2;rfl⟩
  exact refCircle_any l a w hl (rt_ints (hv 0 a _ rfl rfl) hS ho)
theorem holds_A (l:List Inst) (s:St) (hl:l.length≤900) (ho:∀ x ∈ l,x.ok) (hs:∀ x ∈ s.vals,ok64 x):ADet Tryz.prog 110 [sInsts l,.agg (eSt s)] ⟨.tup [eB (optB (holdsO l s)),eI (optE (holdsO l s))],[],0⟩:=
 ⟨enters_of Tryz.func110 rfl (by decide),fun S w vs hS hn hv=>by
  obtain ⟨a,b,rfl⟩:=two_args hn
  have hb:=hv 1 b _ rfl rfl
  cases hb with
  | agg xs cs hxn hr=>
   have hx:∀ j (hj:j<5),∃ x,xs[j]? = some x:=fun j hj=>⟨_,Array.getElem?_eq_getElem (by simp at hxn;omega)⟩
   obtain ⟨x0,e0⟩:=hx 0 (by omega)
   obtain ⟨x1,e1⟩:=hx 1 (by omega)
   obtain ⟨x2,e2⟩:=hx 2 (by omega)
   obtain ⟨x3,e3⟩:=hx 3 (by omega)
   obtain ⟨x4,e4⟩:=hx 4 (by omega)
   have hxs:xs = #[x0,x1,x2,x3,x4]:=by
    apply Array.ext_getElem?
    intro j
    match j with
    | 0=>simpa using e0
    | 1=>simpa using e1
    | 2=>simpa using e2
    | 3=>simpa using e3
    | 4=>simpa using e4
    | j+5=>
     rw [Array.getElem?_eq_none (by simp at hxn;omega)]
     simp
   obtain rfl:=rtc (hr 1 x1 _ e1 rfl)
   obtain rfl:=rtc (hr 2 x2 _ e2 rfl)
   subst hxs
   have h0:=hr 0 x0 _ e0 rfl
   refine (holds_any l s a x0 x3 x4 S (fun b=>b<w.heap.size) w (rt_insts (hv 0 a _ rfl rfl) ho) hS hl (rt_ints h0 hS hs) (fun b hb=>hb)).mono fun e w' ⟨h1,h2⟩=>?_
   refine ⟨_,fun _=>undef,_,rfl,⟨fun id o h=>(by cases h),⟨trivial,trivial,trivial⟩⟩,h1,⟨belowX h2,fun id o h=>(by cases h),fun id id' o o' g h=>(by cases h),fun b hb=>hb.elim⟩,.tree (.tup _ _ rfl fun j x av h3 h4=>?_)⟩
   match j with
   | 0=>simp at h3 h4;subst h3;subst h4;exact .c _
   | 1=>simp at h3 h4;subst h3;subst h4;exact .c _
   | j+2=>simp at h3⟩
def sentryM (m:Mod) (x:Bool × Int):Option (Int × Int × List Inst × Int):=
 if x.1=true then (if 0≤x.2 then (m.miles[x.2.toNat]?).map fun K=>(K.stage,K.event,K.cond,x.2) else none)
 else (if 0≤x.2 then (m.guards[x.2.toNat]?).map fun g=>(g.stage,g.event,g.cond,-1) else none)
def findR (m:Mod) (x:Bool × Int):Res:=
 match sentryM m x with
 | some (st,ev,cond,mi)=>⟨.tup [.agg [eI st,eI ev,sInsts cond,eI mi],eB (decide (0≤st) && decide (st<m.stages.length))],[],0⟩
 | none=>⟨.tup [.agg [eI 0,eI 0,.c (.slice none 0 0),eI 0],eB false],[],0⟩
theorem find_ok (m:Mod) (x:Bool × Int):(findR m x).Ok:=by
 unfold findR
 split <;> exact ⟨fun id o h=>(by cases h),⟨⟨trivial,trivial,trivial,trivial,trivial⟩,trivial,trivial⟩⟩
theorem find_A (m:Mod) (xm:Bool) (xn:Int):ADet Tryz.prog 109 [.agg (eMod m),.agg [eB xm,eI xn]] (findR m (xm,xn)):=by
 refine adet_of_code mixedT Tryz.func109 rfl (by decide) Tryz.ntmps109 Tryz.results109 rfl (find_ok m (xm,xn)) ?_
 by_cases h0:0≤xn
 ·obtain ⟨k,rfl⟩:∃ k:Nat,xn=(k:Int):=⟨xn.toNat,by omega⟩
  cases xm
  ·by_cases hk:k<m.guards.length
   ·have e:sentryM m (false,(k:Int))=some (m.guards[k].stage,m.guards[k].event,m.guards[k].cond,-1):=by simp [sentryM,hk]
    have eR:findR m (false,(k:Int))=⟨.tup [.agg [eI m.guards[k].stage,eI m.guards[k].event,sInsts m.guards[k].cond,eI (-1)],eB (decide (0≤m.guards[k].stage) && decide (m.guards[k].stage<m.stages.length))],[],0⟩:=by unfold findR;rw [e]
    rw [eR]
    (repeat' (first|refine go ?_|simp only [row_at,hk] | exact .intro | refine sp (fun _=>?_) fun _=>?_))
    refine aDraw_held [2] [0,1,2,3,4,5,6,7,8,9,10,11] (.exec 12 (.exec 13 .done)) (by kernel_rfl) (by simp [ATab.get_cons]) ?_
    (repeat' (first|refine go ?_|simp only [row_at,hk] | exact .intro | refine sp (fun _=>?_) fun _=>?_))
    ·rename_i h
     exact gives_tree (by simp only [AV.ren,AV.renL,h,Bool.true_and])
    ·rename_i h
     exact gives_tree (by simp only [AV.ren,AV.renL,h,Bool.false_and])
   ·have eR:findR m (false,(k:Int))=⟨.tup [.agg [eI 0,eI 0,.c (.slice none 0 0),eI 0],eB false],[],0⟩:=by simp [findR,sentryM,hk]
    rw [eR]
    (repeat' (first|refine go ?_|simp only [row_at,hk] | exact .intro | refine sp (fun _=>?_) fun _=>?_))
    exact gives_tree rfl
  ·by_cases hk:k<m.miles.length
   ·have e:sentryM m (true,(k:Int))=some (m.miles[k].stage,m.miles[k].event,m.miles[k].cond,(k:Int)):=by simp [sentryM,hk]
    have eR:findR m (true,(k:Int))=⟨.tup [.agg [eI m.miles[k].stage,eI m.miles[k].event,sInsts m.miles[k].cond,eI k],eB (decide (0≤m.miles[k].stage) && decide (m.miles[k].stage<m.stages.length))],[],0⟩:=by unfold findR;rw [e]
    rw [eR]
    (repeat' (first|refine go ?_|simp only [row_at,hk] | exact .intro | refine sp (fun _=>?_) fun _=>?_))
    refine aDraw_held [2] [0,1,2,3,4,5,6,7,8,9,10,11] (.exec 12 (.exec 13 .done)) (by kernel_rfl) (by simp [ATab.get_cons]) ?_
    (repeat' (first|refine go ?_|simp only [row_at,hk] | exact .intro | refine sp (fun _=>?_) fun _=>?_))
    ·rename_i h
     exact gives_tree (by simp only [AV.ren,AV.renL,h,Bool.true_and])
    ·rename_i h
     exact gives_tree (by simp only [AV.ren,AV.renL,h,Bool.false_and])
   ·have eR:findR m (true,(k:Int))=⟨.tup [.agg [eI 0,eI 0,.c (.slice none 0 0),eI 0],eB false],[],0⟩:=by simp [findR,sentryM,hk]
    rw [eR]
    (repeat' (first|refine go ?_|simp only [row_at,hk] | exact .intro | refine sp (fun _=>?_) fun _=>?_))
    exact gives_tree rfl
 ·have eR:findR m (xm,xn)=⟨.tup [.agg [eI 0,eI 0,.c (.slice none 0 0),eI 0],eB false],[],0⟩:=by cases xm <;> simp [findR,sentryM,h0]
  rw [eR]
  cases xm
  all_goals
   (repeat' (first|refine ge h0 ?_ | exact .intro | refine sp (fun _=>?_) fun _=>?_))
   exact gives_tree rfl
def aboveM (m:Mod) (opn st:Int):Bool:=
 ((m.stages.getD st.toNat (⟨#[]⟩,0)).2 == -1) || (decide ((m.stages.getD st.toNat (⟨#[]⟩,0)).2<m.stages.length) && hasB opn (m.stages.getD st.toNat (⟨#[]⟩,0)).2)
theorem above_A (m:Mod) (s:St) (k:Nat) (hk:k<m.stages.length):ADet Tryz.prog 140 [.agg (eMod m),.agg (eSt s),eI (k:Int)] (val (.bool (aboveM m s.opn k))):=by
 refine adet_of_code mixedT Tryz.func140 rfl (by decide) Tryz.ntmps140 Tryz.results140 rfl (val_ok _) ?_
 have e:aboveM m s.opn k=((m.stages[k].2 == -1) || (decide (m.stages[k].2<m.stages.length) && hasB s.opn m.stages[k].2)):=by simp [aboveM,hk]
 rw [e]
 (repeat' (first|refine go ?_|simp only [row_at,hk] | exact .intro | refine sp (fun _=>?_) fun _=>?_))
 ·rename_i h
  rw [h];rfl
 ·rename_i h1 h2
  refine callV (has_A _ _) ?_
  (repeat' (first|refine go ?_|simp only [row_at,hk] | exact .intro | refine sp (fun _=>?_) fun _=>?_))
  rw [h1]
  simp [h2]
 ·rename_i h1 h2
  rw [h1]
  simp [h2]
end
end
section
section
open Go.RowKit
def inS (m:Mod) (st:Int):Bool:=decide (0≤st) && decide (st<(m.stages.length:Int))
theorem findR_none {m:Mod} {x:Bool × Int} (h:sentryM m x=none):findR m x=⟨.tup [.agg [eI 0,eI 0,.c (.slice none 0 0),eI 0],eB false],[],0⟩:=by unfold findR;rw [h]
theorem findR_some {m:Mod} {x:Bool × Int} {st ev mi:Int} {cond:List Inst} (h:sentryM m x=some (st,ev,cond,mi)):findR m x=⟨.tup [.agg [eI st,eI ev,sInsts cond,eI mi],eB (inS m st)],[],0⟩:=by unfold findR;rw [h];rfl
def readyM (m:Mod) (opn:Int) (x:Bool × Int) (event:Int):Bool:=
 match sentryM m x with
 | some (st,ev,_,_)=>inS m st && ((ev == -1 || ev == event) && (hasB opn st == x.1) && (x.1 || aboveM m opn st))
 | none=>false
theorem ready_A (m:Mod) (s:St) (xm:Bool) (xn event:Int):ADet Tryz.prog 108 [.agg (eMod m),.agg (eSt s),.agg [eB xm,eI xn],eI event] (val (.bool (readyM m s.opn (xm,xn) event))):=by
 refine adet_of_code mixedT Tryz.func108 rfl (by decide) Tryz.ntmps108 Tryz.results108 rfl (val_ok _) ?_
 (repeat' (first|refine go ?_ | exact .intro | refine sp (fun _=>?_) fun _=>?_))
 have ro:roL [.agg (eMod m),.agg [eB xm,eI xn]]:=by simp [roL,roA,treeL,treeC]
 cases hf:sentryM m (xm,xn) with
 | none=>
  have e:readyM m s.opn (xm,xn) event=false:=by simp [readyM,hf]
  rw [e]
  have hA:=find_A m xm xn
  rw [findR_none hf] at hA
  refine callT hA (.inl ro) ?_
  (repeat' (first|refine go ?_ | exact .intro | refine sp (fun _=>?_) fun _=>?_))
  refine aDraw_quiet (by kernel_rfl) ?_
  (repeat' (first|refine go ?_ | exact .intro | refine sp (fun _=>?_) fun _=>?_))
 | some q=>
  obtain ⟨st,ev,cond,mi⟩:=q
  have e:readyM m s.opn (xm,xn) event=(inS m st && ((ev == -1 || ev == event) && (hasB s.opn st == xm) && (xm || aboveM m s.opn st))):=by simp [readyM,hf]
  rw [e]
  have hA:=find_A m xm xn
  rw [findR_some hf] at hA
  refine callT hA (.inl ro) ?_
  (repeat' (first|refine go ?_ | exact .intro | refine sp (fun _=>?_) fun _=>?_))
  refine aDraw_quiet (by kernel_rfl) ?_
  (repeat' (first|refine go ?_ | exact .intro | refine sp (fun _=>?_) fun _=>?_))
  ·rename_i h
   simp at h
   simp [h]
  ·rename_i h1 h2 h3
   have e1:(ev == -1 || ev == event)=false:=by simp at h2 h3;simp [h2,h3]
   simp [e1]
  all_goals
   have e0:inS m st=true:=by simp_all
   have e1:(ev == -1 || ev == event)=true:=by simp_all
   refine callD (has_A _ _) ?_
   (repeat' (first|refine go ?_ | exact .intro | refine sp (fun _=>?_) fun _=>?_))
   ·rename_i h
    simp at h
    simp [h]
   ·rename_i h h3
    subst h3
    have e2:hasB s.opn st=true:=by simpa using h
    simp [e0,e1,e2]
   ·rename_i h h3
    subst h3
    have e2:hasB s.opn st=false:=by simpa using h
    obtain ⟨k,rfl⟩:∃ k:Nat,st=(k:Int):=⟨st.toNat,by simp [inS] at e0;omega⟩
    have hk:k<m.stages.length:=by simp [inS] at e0;omega
    refine callV (above_A m s k hk) ?_
    (repeat' (first|refine go ?_ | exact .intro | refine sp (fun _=>?_) fun _=>?_))
    simp [e0,e1,e2]
def firesM (m:Mod) (s:St) (x:Bool × Int) (event:Int):Bool:=readyM m s.opn x event && (match sentryM m x with | some (_,_,cond,_)=>optB (holdsO cond s) | none=>false)
theorem sentryM_cond {m:Mod} {x:Bool × Int} {st ev mi:Int} {cond:List Inst} (h:sentryM m x=some (st,ev,cond,mi)):(∃ g ∈ m.guards,g.cond=cond) ∨ (∃ g ∈ m.miles,g.cond=cond):=by
 unfold sentryM at h
 split at h
 all_goals
  split at h
  ·simp at h
   obtain ⟨a,ha,hb⟩:=h
   have:=List.mem_of_getElem? ha
   first | exact .inl ⟨a,this,hb.2.2.1⟩ | exact .inr ⟨a,this,hb.2.2.1⟩
  ·cases h
theorem fires_A (m:Mod) (s:St) (xm:Bool) (xn event:Int) (hf:Fit m) (hc:condOk m) (hs:∀ x ∈ s.vals,ok64 x):ADet Tryz.prog 81 [.agg (eMod m),.agg (eSt s),.agg [eB xm,eI xn],eI event] (val (.bool (firesM m s (xm,xn) event))):=by
 refine adet_of_code mixedT Tryz.func81 rfl (by decide) Tryz.ntmps81 Tryz.results81 rfl (val_ok _) ?_
 (repeat' (first|refine go ?_ | exact .intro | refine sp (fun _=>?_) fun _=>?_))
 refine callV (ready_A m s xm xn event) ?_
 (repeat' (first|refine go ?_ | exact .intro | refine sp (fun _=>?_) fun _=>?_))
 ·rename_i h
  simp at h
  simp [firesM,h]
 ·rename_i h
  have hr:readyM m s.opn (xm,xn) event=true:=by simpa using h
  have ro:roL [.agg (eMod m),.agg [eB xm,eI xn]]:=by simp [roL,roA,treeL,treeC]
  cases he:sentryM m (xm,xn) with
  | none=>simp [readyM,he] at hr
  | some q=>
   obtain ⟨st,ev,cond,mi⟩:=q
   have hA:=find_A m xm xn
   rw [findR_some he] at hA
   refine callT hA (.inl ro) ?_
   (repeat' (first|refine go ?_ | exact .intro | refine sp (fun _=>?_) fun _=>?_))
   have hcl:cond.length≤900:=by
    rcases sentryM_cond he with ⟨g,hg,rfl⟩|⟨g,hg,rfl⟩
    ·have:=hf.guards g hg
     omega
    ·have:=hf.miles g hg
     omega
   have hco:∀ x ∈ cond,x.ok:=by
    rcases sentryM_cond he with ⟨g,hg,rfl⟩|⟨g,hg,rfl⟩
    ·exact hc.1 g hg
    ·exact hc.2 g hg
   refine callT (holds_A cond s hcl hco hs) (.inl (by simp [roL,roA,treeL,treeC])) ?_
   (repeat' (first|refine go ?_ | exact .intro | refine sp (fun _=>?_) fun _=>?_))
   simp [firesM,hr,he]
theorem parents_A (m:Mod) (hl:m.stages.length≤1000000):ADet Tryz.prog 112 [.agg (eMod m)] (own 3 1 ((m.stages.map (·.2)).map fun n=>[eI n])):=by
 refine adet_of_code mixedT Tryz.func112 rfl (by decide) Tryz.ntmps112 Tryz.results112 rfl (own_ok _ _ _) ?_
 (repeat' (first|refine go ?_ | exact .intro | refine sp (fun _=>?_) fun _=>?_))
 refine aLoop_of (fun st=>∃ k:Nat,k≤m.stages.length ∧ st=⟨20,[(3,.osl 0),(7,.sl 2 (m.stages.map eNI)),(8,eI m.stages.length),(9,eI (k:Int))],[(0,some (.row 3 1 ((m.stages.take k).map fun p=>[eI p.2])))],1⟩) (fun st=>m.stages.length - slotN st 9) ⟨_,((weak_nil 3 3 1 (by simp only [ruW,ASt.get,aget,ASt.put,↓reduceIte,reduceCtorEq,Nat.reduceLT,Nat.reduceEqDiff,Nat.reduceAdd,Nat.reduceLeDiff,eq_self,implies_true,List.take_zero,List.map_nil])).trans (wS [1] @List.take_zero.{0})),0,Nat.zero_le _,rfl⟩ ?_
 rintro _ ⟨k,hk,rfl⟩
 by_cases hlt:k<m.stages.length
 ·have et:(m.stages.take (k+1)).map (fun p=>[eI p.2])=(m.stages.take k).map (fun p=>[eI p.2]) ++ [[eI m.stages[k].2]]:=take_snoc _ _ hlt
  have el:((m.stages.take k).map fun p=>[eI p.2]).length+1≤1000000:=by simp;omega
  (repeat' (first|refine go ?_|simp only [row_at,hlt] | exact .intro | refine sp (fun _=>?_) fun _=>?_))
  refine ⟨rfl,by simp only [List.length_take];omega,rI (wS [3] et) ⟨k+1,by omega,rfl⟩⟩
 ·obtain rfl:k=m.stages.length:=by omega
  (repeat' (first|refine go ?_|simp only [row_at,hlt] | exact .intro | refine sp (fun _=>?_) fun _=>?_))
  exact aGives_own (by simp [ATab.get_cons])
end
section
open Go.RowKit
theorem below_len (l:List Int) (i:Int):(belowL l i).length≤l.length:=by
 unfold belowL
 split
 ·rw [List.length_map]
  exact Nat.le_trans (List.length_filter_le _ _) (by simp)
 ·simp
def undo (l:List Ml) (st d:Int):Nat → Int
 | 0=>d
 | k+1=>if l[k]?.map (·.stage)=some st then withoutB (undo l st d k) (k:Int) else undo l st d k
def fireM (m:Mod) (s:St) (x:Bool × Int):St:=
 match sentryM m x with
 | some (st,_,_,mi)=>
  if inS m st=true then
   if x.1=true then { s with don:=withB s.don mi,opn:=(belowL (pars m) st ++ [st]).foldl withoutB s.opn }
   else { s with opn:=withB s.opn st,don:=undo m.miles st s.don m.miles.length }
  else s
 | none=>s
theorem fire_A (m:Mod) (s:St) (xm:Bool) (xn:Int) (hf:Fit m) (hp:∀ p ∈ m.stages,ok64 p.2):ADet Tryz.prog 82 [.agg (eMod m),.agg (eSt s),.agg [eB xm,eI xn]] ⟨.agg (eSt (fireM m s (xm,xn))),[],0⟩:=by
 refine adet_of_code mixedT Tryz.func82 rfl (by decide) Tryz.ntmps82 Tryz.results82 rfl (⟨fun id o h=>(by cases h),⟨trivial,trivial,trivial,trivial,trivial,trivial⟩⟩) ?_
 (repeat' (first|refine go ?_ | exact .intro | refine sp (fun _=>?_) fun _=>?_))
 have ro:roL [.agg (eMod m),.agg [eB xm,eI xn]]:=by simp [roL,roA,treeL,treeC]
 have hA:=find_A m xm xn
 obtain ⟨-,hmi,hst,-⟩:=id hf.sizes
 cases he:sentryM m (xm,xn) with
 | none=>
  rw [findR_none he] at hA
  refine callT hA (.inl ro) ?_
  (repeat' (first|refine go ?_ | exact .intro | refine sp (fun _=>?_) fun _=>?_))
  exact gives_tree (by simp [fireM,he,AV.ren,AV.renL])
 | some q=>
  obtain ⟨st,ev,cond,mi⟩:=q
  rw [findR_some he] at hA
  refine callT hA (.inl ro) ?_
  (repeat' (first|refine go ?_ | exact .intro | refine sp (fun _=>?_) fun _=>?_))
  ·rename_i h
   have h:inS m st=false:=by simpa using h
   exact gives_tree (by simp [fireM,he,h,AV.ren,AV.renL])
  ·rename_i h hx
   refine callV (with_A _ _) ?_
   (repeat' (first|refine go ?_ | exact .intro | refine sp (fun _=>?_) fun _=>?_))
   have hbl:(belowL (pars m) st).length≤1000:=by
    have:=below_len (pars m) st
    simp [pars] at this ⊢
    omega
   have hpl:(pars m).length≤1073741824:=by simp [pars];omega
   have hpo:∀ x ∈ pars m,ok64 x:=fun x hx=>by
    obtain ⟨p,hp',rfl⟩:=List.mem_map.1 hx
    exact hp p hp'
   refine aDraw_join (fun s'=>s'=⟨77,[(4,.op 0 0 0),(6,.op 1 0 0),(38,.osl 2),(39,eI ((belowL (pars m) st ++ [st]).length:Int)),(40,eI 0)],[(0,some (.box 69 (eSt { s with don:=withB s.don mi }))),(1,some (.box 69 [.c (.slice none 0 0),eI 0,eI 0,.c (.slice none 0 0),.c (.slice none 0 0)])),(2,some (.row 3 1 ((belowL (pars m) st ++ [st]).map fun n=>[eI n])))],3⟩)
    [] [0,2,3,5,6,10] (.two 1 (.two 4 (.exec 7 (.exec 8 (.take 9 .done))) 7 (.exec 4 (.exec 8 (.take 9 .done)))) 7 (.exec 1 (.exec 4 (.exec 8 (.take 9 .done))))) (by kernel_rfl) (by simp) ?_ ?_
   ·(repeat' (first|refine go ?_ | exact .intro | refine sp (fun _=>?_) fun _=>?_))
    have fin:(((belowL (pars m) st).map fun n=>[eI n]).length≤9223372036854775806 ∧ (((belowL (pars m) st).map fun n=>[eI n]).length+1) * 8≤140737488355328):=by simp;omega
    refine ⟨?_,rfl,?_⟩
    ·refine callO (parents_A m (by omega)) (.inr ints_plain) ?_
     (repeat' (first|refine go ?_ | exact .intro | refine sp (fun _=>?_) fun _=>?_))
     refine ⟨?_,rfl,?_⟩
     ·refine callO (below_A (pars m) st hpl hpo) (.inr ints_plain) ?_
      (repeat' (first|refine go ?_ | exact .intro | refine sp (fun _=>?_) fun _=>?_))
      exact ⟨rfl,⟨by omega,by omega⟩,aTo_mk (wS [1,3,8] (kf @List.map_append.{0,0} @List.length_append.{0})) rfl⟩
     ·refine callO (below_A (pars m) st hpl hpo) (.inr ints_plain) ?_
      (repeat' (first|refine go ?_ | exact .intro | refine sp (fun _=>?_) fun _=>?_))
      exact ⟨⟨by omega,by omega⟩,aTo_mk (wS [1,3,8] (kf @List.map_append.{0,0} @List.length_append.{0})) rfl⟩
    ·refine callO (parents_A m (by omega)) (.inr ints_plain) ?_
     (repeat' (first|refine go ?_ | exact .intro | refine sp (fun _=>?_) fun _=>?_))
     refine callO (below_A (pars m) st hpl hpo) (.inr ints_plain) ?_
     (repeat' (first|refine go ?_ | exact .intro | refine sp (fun _=>?_) fun _=>?_))
     exact ⟨⟨by omega,by omega⟩,aTo_mk (wS [1,3,8] (kf @List.map_append.{0,0} @List.length_append.{0})) rfl⟩
   ·rintro _ rfl
    have eR:fireM m s (true,xn)={ s with don:=withB s.don mi,opn:=(belowL (pars m) st ++ [st]).foldl withoutB s.opn }:=by
     subst hx
     simp at h
     simp [fireM,he,h]
    subst hx
    rw [eR]
    have hL:(belowL (pars m) st ++ [st]).length≤1001:=by simp;omega
    generalize belowL (pars m) st ++ [st]=L at hL ⊢
    (repeat' (first|refine go ?_ | exact .intro | refine sp (fun _=>?_) fun _=>?_))
    refine aLoop_of (fun s'=>∃ k:Nat,k≤L.length ∧ s'=⟨77,[(4,.op 0 0 0),(6,.op 1 0 0),(38,.osl 2),(39,eI (L.length:Int)),(40,eI (k:Int))],[(0,some (.box 69 (eSt { s with don:=withB s.don mi,opn:=(L.take k).foldl withoutB s.opn }))),(1,some (.box 69 [.c (.slice none 0 0),eI 0,eI 0,.c (.slice none 0 0),.c (.slice none 0 0)])),(2,some (.row 3 1 (L.map fun n=>[eI n])))],3⟩) (fun st=>L.length - slotN st 40) ⟨_,(wE (kf @List.take_zero.{0} @List.foldl_nil.{0,0})),0,Nat.zero_le _,rfl⟩ ?_
    rintro _ ⟨k,hk,rfl⟩
    by_cases hlt:k<L.length
    ·have ef:=fold_snoc withoutB s.opn L hlt
     (repeat' (first|refine go ?_|simp only [row_at,hlt] | exact .intro | refine sp (fun _=>?_) fun _=>?_))
     refine callV (without_A _ _) ?_
     (repeat' (first|refine go ?_|simp only [row_at,hlt] | exact .intro | refine sp (fun _=>?_) fun _=>?_))
     exact rI (wE ef) ⟨k+1,by omega,rfl⟩
    ·obtain rfl:k=L.length:=by omega
     (repeat' (first|refine go ?_|simp only [row_at,hlt] | exact .intro | refine sp (fun _=>?_) fun _=>?_))
     exact gives_tree (by simp only [AV.ren,AV.renL,List.take_length])
  ·rename_i h hx
   refine callV (with_A _ _) ?_
   (repeat' (first|refine go ?_ | exact .intro | refine sp (fun _=>?_) fun _=>?_))
   have eR:fireM m s (false,xn)={ s with opn:=withB s.opn st,don:=undo m.miles st s.don m.miles.length }:=by
    subst hx
    simp at h
    simp [fireM,he,h]
   subst hx
   rw [eR]
   refine aLoop_of (fun s'=>∃ k:Nat,k≤m.miles.length ∧ s'=⟨77,[(4,.op 0 0 0),(6,.op 1 0 0),(7,.op 2 0 0),(58,.sl 5 (m.miles.map eMl)),(59,eI (m.miles.length:Int)),(60,eI (k:Int))],[(0,some (.box 69 (eSt { s with opn:=withB s.opn st,don:=undo m.miles st s.don k }))),(1,some (.box 69 [.c (.slice none 0 0),eI 0,eI 0,.c (.slice none 0 0),.c (.slice none 0 0)])),(2,some (.box 152 [eI st,eI ev,sInsts cond,eI mi]))],3⟩) (fun st=>m.miles.length - slotN st 60) ⟨_,(weak_ren1 [1,3,4] ⟨(by decide),(by (first | ((simp only [envInR,tabInR,envLt,tabLt,AObj.lt,AV.lt,AV.ltL,AV.ren,AV.renL,AObj.ren,List.getD_cons_zero,List.getD_cons_succ,List.length_cons,List.length_nil,ruW,ASt.get,aget,ASt.put,↓reduceIte,reduceCtorEq,Nat.reduceLT,Nat.reduceEqDiff,Nat.reduceAdd,Nat.reduceLeDiff,eq_self,implies_true,undo]) <;> (repeat' apply And.intro) <;> first | (rw [wrapK (by omega)];done) | (simp;done) | omega) | fail))⟩),0,Nat.zero_le _,rfl⟩ ?_
   rintro _ ⟨k,hk,rfl⟩
   by_cases hlt:k<m.miles.length
   ·(repeat' (first|refine go ?_|simp only [row_at,hlt] | exact .intro | refine sp (fun _=>?_) fun _=>?_))
    ·rename_i hq
     have eu:undo m.miles st s.don (k+1)=withoutB (undo m.miles st s.don k) (k:Int):=by
      have:m.miles[k].stage=st:=by simpa using hq
      simp [undo,hlt,this]
     refine callV (without_A _ _) ?_
     (repeat' (first|refine go ?_|simp only [row_at,hlt] | exact .intro | refine sp (fun _=>?_) fun _=>?_))
     exact rI (wE eu) ⟨k+1,by omega,rfl⟩
    ·rename_i hq
     have eu:undo m.miles st s.don (k+1)=undo m.miles st s.don k:=by
      have:m.miles[k].stage ≠ st:=by simpa using hq
      simp [undo,hlt,this]
     exact rI (wE eu) ⟨k+1,by omega,rfl⟩
   ·obtain rfl:k=m.miles.length:=by omega
    (repeat' (first|refine go ?_|simp only [row_at,hlt] | exact .intro | refine sp (fun _=>?_) fun _=>?_))
    exact gives_tree (by simp only [AV.ren,AV.renL])
end
section
open Go.RowKit
def turnM (m:Mod) (event:Int) (s:St) (x:Bool × Int):St:=if firesM m s x event=true then fireM m s x else s
def passM (m:Mod) (event:Int) (s:St) (k:Nat):St:=(m.order.take k).foldl (turnM m event) s
theorem fireM_vals (m:Mod) (s:St) (x:Bool × Int):(fireM m s x).vals=s.vals ∧ (fireM m s x).did=s.did ∧ (fireM m s x).cnt=s.cnt:=by
 unfold fireM
 split
 ·split
  ·split <;> simp
  ·simp
 ·simp
theorem turnM_vals (m:Mod) (event:Int) (s:St) (x:Bool × Int):(turnM m event s x).vals=s.vals ∧ (turnM m event s x).did=s.did ∧ (turnM m event s x).cnt=s.cnt:=by
 unfold turnM
 split
 ·exact fireM_vals m s x
 ·simp
theorem fold_vals (m:Mod) (event:Int):∀ (l:List (Bool × Int)) (s:St),(l.foldl (turnM m event) s).vals=s.vals ∧ (l.foldl (turnM m event) s).did=s.did ∧ (l.foldl (turnM m event) s).cnt=s.cnt
 | [],s=>by simp
 | x :: l,s=>by
  have h:=fold_vals m event l (turnM m event s x)
  have h2:=turnM_vals m event s x
  simp [h,h2]
theorem pass_A (m:Mod) (s:St) (event:Int) (hf:Fit m) (hc:condOk m) (hp:∀ p ∈ m.stages,ok64 p.2) (hs:∀ x ∈ s.vals,ok64 x):ADet Tryz.prog 47 [.agg (eMod m),.agg (eSt s),eI event] ⟨.agg (eSt (passM m event s m.order.length)),[],0⟩:=by
 refine adet_of_code mixedT Tryz.func47 rfl (by decide) Tryz.ntmps47 Tryz.results47 rfl (⟨fun id o h=>(by cases h),⟨trivial,trivial,trivial,trivial,trivial,trivial⟩⟩) ?_
 (repeat' (first|refine go ?_ | exact .intro | refine sp (fun _=>?_) fun _=>?_))
 have hol:m.order.length≤40:=hf.sizes.2.2.2.2.2.2.2.2.1
 have e0:passM m event s 0=s:=rfl
 refine aLoop_of (fun s'=>∃ k:Nat,k≤m.order.length ∧ s'=⟨31,[(2,eI event),(3,.op 0 0 0),(4,.op 1 0 0),(6,.op 2 0 0),(11,eI (m.order.length:Int)),(12,eI (k:Int))],[(0,some (.box 32 (eMod m))),(1,some (.box 69 (eSt (passM m event s k)))),(2,some (.box 69 [.c (.slice none 0 0),eI 0,eI 0,.c (.slice none 0 0),.c (.slice none 0 0)]))],3⟩) (fun st=>m.order.length - slotN st 12) ⟨_,(wE e0),0,Nat.zero_le _,rfl⟩ ?_
 rintro _ ⟨k,hk,rfl⟩
 by_cases hlt:k<m.order.length
 ·have ef:passM m event s (k+1)=turnM m event (passM m event s k) m.order[k]:=fold_snoc _ _ _ hlt
  have hv:=fold_vals m event (m.order.take k) s
  have hs':∀ x ∈ (passM m event s k).vals,ok64 x:=by
   unfold passM
   rw [hv.1]
   exact hs
  (repeat' (first|refine go ?_|simp only [row_at,hlt] | exact .intro | refine sp (fun _=>?_) fun _=>?_))
  generalize passM m event s k=t at ef hs' ⊢
  generalize m.order[k]=x at ef ⊢
  refine callV (fires_A m t x.1 x.2 event hf hc hs') ?_
  (repeat' (first|refine go ?_ | exact .intro | refine sp (fun _=>?_) fun _=>?_))
  ·rename_i h
   have e1:turnM m event t x=fireM m t x:=if_pos h
   rw [e1] at ef
   refine callT (fire_A m t x.1 x.2 hf hp) (.inl (by simp [roL,roA,treeL,treeC])) ?_
   (repeat' (first|refine go ?_ | exact .intro | refine sp (fun _=>?_) fun _=>?_))
   exact rI (wE ef) ⟨k+1,by omega,rfl⟩
  ·rename_i h
   have e1:turnM m event t x=t:=if_neg (by rw [show (x:Bool × Int)=(x.1,x.2) from rfl,h];simp)
   rw [e1] at ef
   exact rI (wE ef) ⟨k+1,by omega,rfl⟩
 ·obtain rfl:k=m.order.length:=by omega
  (repeat' (first|refine go ?_|simp only [row_at,hlt] | exact .intro | refine sp (fun _=>?_) fun _=>?_))
  exact gives_tree (by simp only [AV.ren,AV.renL])
end
section
open Go.RowKit
theorem zz40:(0:Int)<((4:Nat):Int):=by decide
theorem zz41:(1:Int)<((4:Nat):Int):=by decide
theorem zz42:(2:Int)<((4:Nat):Int):=by decide
theorem zz43:(3:Int)<((4:Nat):Int):=by decide
def hasI (m:Mod) (x:Inst):Bool:=
 if (decide (3≤x.op) && decide (x.op≤8))=true then decide (-1≤x.la) && decide (x.la<(m.attrs.length:Int)) && decide (-1≤x.ra) && decide (x.ra<(m.attrs.length:Int))
 else if (decide (x.op<9) || decide (12<x.op))=true then true
 else decide (0≤x.n) && decide (x.n<(if x.op=9 then (m.stages.length:Int) else if x.op=10 then (m.miles.length:Int) else (m.events.length:Int))) && (x.op != 12 || (decide (0≤x.u) && decide (x.u<(m.users.length:Int))))
theorem hasI_A (m:Mod) (x:Inst):ADet Tryz.prog 63 [.agg (eMod m),.agg (eInst x)] (val (.bool (hasI m x))):=by
 refine adet_of_code mixedT Tryz.func63 rfl (by decide) Tryz.ntmps63 Tryz.results63 rfl (val_ok _) ?_
 obtain ⟨op,la,ln,ra,rn,n,u⟩:=x
 by_cases h1:3≤op ∧ op≤8
 ·have e1:decide (3≤op)=true:=by simp;omega
  have e2:decide (op≤8)=true:=by simp;omega
  have eR:hasI m ⟨op,la,ln,ra,rn,n,u⟩=(decide (-1≤la) && decide (la<(m.attrs.length:Int)) && decide (-1≤ra) && decide (ra<(m.attrs.length:Int))):=by simp [hasI,h1]
  rw [eR]
  (repeat' (first|refine ge (kf e1 e2) ?_ | exact .intro | refine sp (fun _=>?_) fun _=>?_))
  all_goals (rename_i h;simp at h;first | (simp_all;done) | (simp_all;omega))
 ·by_cases h2:op<9 ∨ 12<op
  ·have eR:hasI m ⟨op,la,ln,ra,rn,n,u⟩=true:=by
    rcases h2 with h2|h2 <;> simp [hasI,h2] <;> omega
   rw [eR]
   (repeat' (first|refine go ?_ | exact .intro | refine sp (fun _=>?_) fun _=>?_))
   all_goals first | rfl | (exfalso;simp at *;omega)
  ·have h3:op=9 ∨ op=10 ∨ op=11 ∨ op=12:=by omega
   rcases h3 with rfl|rfl|rfl|rfl
   ·have e1:decide ((3:Int)≤9)=true:=by decide
    have e2:decide ((9:Int)≤8)=false:=by decide
    have e3:decide ((9:Int)<9)=false:=by decide
    have e4:decide ((12:Int)<9)=false:=by decide
    have e5:((9:Int) != 12)=true:=by decide
    have ew:IntKind.i64.wrap ((9:Int) - 9)=0:=by decide
    (repeat' (first|refine ge (kf e1 (kf e2 (kf e3 (kf e4 (kf e5 ew))))) ?_ | exact .intro | refine sp (fun _=>?_) fun _=>?_))
    refine ⟨rfl,aDraw_quiet (by kernel_rfl) ?_⟩
    (repeat' (first | simp -implicitDefEqProofs (maxSteps:=5000000) only [ruX,↓reduceIte,reduceCtorEq,Nat.reduceLT,Nat.reduceEqDiff,Nat.reduceAdd,Nat.reduceMul,Nat.reduceSub,Nat.reduceLeDiff,Nat.reduceBEq,e1,e2,e3,e4,e5,ew,zz40,zz41,zz42,zz43,Int.reduceLE,Int.reduceLT,Int.toNat_zero,Int.toNat_one,Int.reduceToNat,List.getElem?_cons_zero,List.getElem?_cons_succ,Option.getD_some,List.headD_cons] | refine sp (fun _=>?_) fun _=>?_))
    all_goals first | (simp_all [hasI];done) | (simp_all [hasI];omega)
   ·have e1:decide ((3:Int)≤10)=true:=by decide
    have e2:decide ((10:Int)≤8)=false:=by decide
    have e3:decide ((10:Int)<9)=false:=by decide
    have e4:decide ((12:Int)<10)=false:=by decide
    have e5:((10:Int) != 12)=true:=by decide
    have ew:IntKind.i64.wrap ((10:Int) - 9)=1:=by decide
    (repeat' (first|refine ge (kf e1 (kf e2 (kf e3 (kf e4 (kf e5 ew))))) ?_ | exact .intro | refine sp (fun _=>?_) fun _=>?_))
    refine ⟨rfl,aDraw_quiet (by kernel_rfl) ?_⟩
    (repeat' (first | simp -implicitDefEqProofs (maxSteps:=5000000) only [ruX,↓reduceIte,reduceCtorEq,Nat.reduceLT,Nat.reduceEqDiff,Nat.reduceAdd,Nat.reduceMul,Nat.reduceSub,Nat.reduceLeDiff,Nat.reduceBEq,e1,e2,e3,e4,e5,ew,zz40,zz41,zz42,zz43,Int.reduceLE,Int.reduceLT,Int.toNat_zero,Int.toNat_one,Int.reduceToNat,List.getElem?_cons_zero,List.getElem?_cons_succ,Option.getD_some,List.headD_cons] | refine sp (fun _=>?_) fun _=>?_))
    all_goals first | (simp_all [hasI];done) | (simp_all [hasI];omega)
   ·have e1:decide ((3:Int)≤11)=true:=by decide
    have e2:decide ((11:Int)≤8)=false:=by decide
    have e3:decide ((11:Int)<9)=false:=by decide
    have e4:decide ((12:Int)<11)=false:=by decide
    have e5:((11:Int) != 12)=true:=by decide
    have ew:IntKind.i64.wrap ((11:Int) - 9)=2:=by decide
    (repeat' (first|refine ge (kf e1 (kf e2 (kf e3 (kf e4 (kf e5 ew))))) ?_ | exact .intro | refine sp (fun _=>?_) fun _=>?_))
    refine ⟨rfl,aDraw_quiet (by kernel_rfl) ?_⟩
    (repeat' (first | simp -implicitDefEqProofs (maxSteps:=5000000) only [ruX,↓reduceIte,reduceCtorEq,Nat.reduceLT,Nat.reduceEqDiff,Nat.reduceAdd,Nat.reduceMul,Nat.reduceSub,Nat.reduceLeDiff,Nat.reduceBEq,e1,e2,e3,e4,e5,ew,zz40,zz41,zz42,zz43,Int.reduceLE,Int.reduceLT,Int.toNat_zero,Int.toNat_one,Int.reduceToNat,List.getElem?_cons_zero,List.getElem?_cons_succ,Option.getD_some,List.headD_cons] | refine sp (fun _=>?_) fun _=>?_))
    all_goals first | (simp_all [hasI];done) | (simp_all [hasI];omega)
   ·have e1:decide ((3:Int)≤12)=true:=by decide
    have e2:decide ((12:Int)≤8)=false:=by decide
    have e3:decide ((12:Int)<9)=false:=by decide
    have e4:decide ((12:Int)<12)=false:=by decide
    have e5:((12:Int) != 12)=false:=by decide
    have ew:IntKind.i64.wrap ((12:Int) - 9)=3:=by decide
    (repeat' (first|refine ge (kf e1 (kf e2 (kf e3 (kf e4 (kf e5 ew))))) ?_ | exact .intro | refine sp (fun _=>?_) fun _=>?_))
    refine ⟨rfl,aDraw_quiet (by kernel_rfl) ?_⟩
    (repeat' (first | simp -implicitDefEqProofs (maxSteps:=5000000) only [ruX,↓reduceIte,reduceCtorEq,Nat.reduceLT,Nat.reduceEqDiff,Nat.reduceAdd,Nat.reduceMul,Nat.reduceSub,Nat.reduceLeDiff,Nat.reduceBEq,e1,e2,e3,e4,e5,ew,zz40,zz41,zz42,zz43,Int.reduceLE,Int.reduceLT,Int.toNat_zero,Int.toNat_one,Int.reduceToNat,List.getElem?_cons_zero,List.getElem?_cons_succ,Option.getD_some,List.headD_cons] | refine sp (fun _=>?_) fun _=>?_))
    all_goals first | (simp_all [hasI];done) | (simp_all [hasI];omega)
end
section
open Go.RowKit
theorem refParents_A (m:Mod) (hl:m.stages.length≤1000000):ADet Tryz.prog 13 [.agg (eMod m)] (own 3 1 ((pars m).map fun n=>[eI n])):=by
 refine adet_of_code mixedT Tryz.func13 rfl (by decide) Tryz.ntmps13 Tryz.results13 rfl (own_ok _ _ _) ?_
 (repeat' (first|refine go ?_ | exact .intro | refine sp (fun _=>?_) fun _=>?_))
 refine aLoop_of (fun st=>∃ k:Nat,k≤m.stages.length ∧ st=⟨22,[(1,.op 0 0 0),(3,.osl 1),(4,eI (k:Int))],[(0,some (.box 32 (eMod m))),(1,some (.row 3 1 ((m.stages.take k).map fun p=>[eI p.2])))],2⟩) (fun st=>m.stages.length - slotN st 4) ⟨_,((weak_nil 3 3 1 (by simp only [ruW,ASt.get,aget,ASt.put,↓reduceIte,reduceCtorEq,Nat.reduceLT,Nat.reduceEqDiff,Nat.reduceAdd,Nat.reduceLeDiff,eq_self,implies_true,List.take_zero,List.map_nil])).trans (wS [0,1] @List.take_zero.{0})),0,Nat.zero_le _,rfl⟩ ?_
 rintro _ ⟨k,hk,rfl⟩
 by_cases hlt:k<m.stages.length
 ·have et:(m.stages.take (k+1)).map (fun p=>[eI p.2])=(m.stages.take k).map (fun p=>[eI p.2]) ++ [[eI m.stages[k].2]]:=take_snoc _ _ hlt
  (repeat' (first|refine go ?_|simp only [row_at,hlt] | exact .intro | refine sp (fun _=>?_) fun _=>?_))
  refine ⟨rfl,by simp only [List.length_take];omega,rI (wS [0,3] et) ⟨k+1,by omega,rfl⟩⟩
 ·obtain rfl:k=m.stages.length:=by omega
  (repeat' (first|refine go ?_|simp only [row_at,hlt] | exact .intro | refine sp (fun _=>?_) fun _=>?_))
  exact aGives_own (by simp [ATab.get_cons,pars])
end
section
open Go.RowKit
theorem count_A (m:Mod) (hf:Fit m):ADet Tryz.prog 35 [.agg (eMod m)] (val (.int .i64 ((m.guards.length+m.miles.length:Nat):Int))):=by
 refine adet_of_code mixedT Tryz.func35 rfl (by decide) Tryz.ntmps35 Tryz.results35 rfl (val_ok _) ?_
 obtain ⟨hg,hm,-⟩:=id hf.sizes
 (repeat' (first|refine go ?_ | exact .intro | refine sp (fun _=>?_) fun _=>?_))
 rw [wrap_in (by omega) (by omega)]
 simp
theorem sub_at (a b:Nat):IntKind.i64.wrap ((a+b:Nat) - (a:Int))=(b:Int) ∨ b > 9223372036854775807:=by
 rcases Nat.lt_or_ge 9223372036854775807 b with h|h
 ·exact .inr h
 ·left
  rw [wrap_in (by omega) (by omega)]
  omega
def atMC (m:Mod) (i:Nat):Bool × Int:=if i<m.guards.length then (false,(i:Int)) else (true,((i - m.guards.length:Nat):Int))
def stageN (m:Mod) (i:Nat):Int:=if h:i<m.guards.length then m.guards[i].stage else (m.miles[i - m.guards.length]?.map (·.stage)).getD 0
def condNC (m:Mod) (i:Nat):List Inst:=if h:i<m.guards.length then m.guards[i].cond else (m.miles[i - m.guards.length]?.map (·.cond)).getD []
theorem atC_A (m:Mod) (i:Nat) (hf:Fit m) (hi:i<m.guards.length+m.miles.length):ADet Tryz.prog 37 [.agg (eMod m),eI (i:Int)] ⟨.agg (eBI (atMC m i)),[],0⟩:=by
 refine adet_of_code mixedT Tryz.func37 rfl (by decide) Tryz.ntmps37 Tryz.results37 rfl (⟨fun id o h=>(by cases h),⟨trivial,trivial,trivial⟩⟩) ?_
 obtain ⟨hg,hm,-⟩:=id hf.sizes
 by_cases hlt:i<m.guards.length
 ·have e:atMC m i=(false,(i:Int)):=by simp [atMC,hlt]
  rw [e]
  (repeat' (first|refine ge @hlt ?_ | exact .intro | refine sp (fun _=>?_) fun _=>?_))
  exact gives_tree (by simp [AV.ren,AV.renL])
 ·obtain ⟨j,rfl⟩:∃ j,i=m.guards.length+j:=⟨i - m.guards.length,by omega⟩
  have e:atMC m (m.guards.length+j)=(true,(j:Int)):=by simp [atMC]
  have ew:IntKind.i64.wrap (((m.guards.length+j:Nat):Int) - (m.guards.length:Int))=(j:Int):=(sub_at _ _).resolve_right (by omega)
  rw [e]
  (repeat' (first|refine ge (kf @hlt ew) ?_ | exact .intro | refine sp (fun _=>?_) fun _=>?_))
  exact gives_tree (by simp [AV.ren,AV.renL])
theorem stage_A (m:Mod) (i:Nat) (hf:Fit m) (hi:i<m.guards.length+m.miles.length):ADet Tryz.prog 67 [.agg (eMod m),eI (i:Int)] (val (.int .i64 (stageN m i))):=by
 refine adet_of_code mixedT Tryz.func67 rfl (by decide) Tryz.ntmps67 Tryz.results67 rfl (val_ok _) ?_
 obtain ⟨hg,hm,-⟩:=id hf.sizes
 by_cases hlt:i<m.guards.length
 ·have e:stageN m i=m.guards[i].stage:=by simp [stageN,hlt]
  rw [e]
  (repeat' (first|refine go ?_|simp only [hlt,row_at] | exact .intro | refine sp (fun _=>?_) fun _=>?_))
 ·obtain ⟨j,rfl⟩:∃ j,i=m.guards.length+j:=⟨i - m.guards.length,by omega⟩
  have hj:j<m.miles.length:=by omega
  have e:stageN m (m.guards.length+j)=m.miles[j].stage:=by simp only [stageN];rw [dif_neg (by omega)];simp [hj]
  have ew:IntKind.i64.wrap (((m.guards.length+j:Nat):Int) - (m.guards.length:Int))=(j:Int):=(sub_at _ _).resolve_right (by omega)
  rw [e]
  (repeat' (first|refine go ?_|simp only [hlt,ew,hj,row_at] | exact .intro | refine sp (fun _=>?_) fun _=>?_))
theorem cond_A (m:Mod) (i:Nat) (hf:Fit m) (hi:i<m.guards.length+m.miles.length):ADet Tryz.prog 65 [.agg (eMod m),eI (i:Int)] ⟨sInsts (condNC m i),[],0⟩:=by
 refine adet_of_code mixedT Tryz.func65 rfl (by decide) Tryz.ntmps65 Tryz.results65 rfl (⟨fun id o h=>(by cases h),trivial⟩) ?_
 obtain ⟨hg,hm,-⟩:=id hf.sizes
 by_cases hlt:i<m.guards.length
 ·have e:condNC m i=m.guards[i].cond:=by simp [condNC,hlt]
  rw [e]
  (repeat' (first|refine go ?_|simp only [hlt,row_at] | exact .intro | refine sp (fun _=>?_) fun _=>?_))
  exact gives_tree (by simp [AV.ren,AV.renL])
 ·obtain ⟨j,rfl⟩:∃ j,i=m.guards.length+j:=⟨i - m.guards.length,by omega⟩
  have hj:j<m.miles.length:=by omega
  have e:condNC m (m.guards.length+j)=m.miles[j].cond:=by simp only [condNC];rw [dif_neg (by omega)];simp [hj]
  have ew:IntKind.i64.wrap (((m.guards.length+j:Nat):Int) - (m.guards.length:Int))=(j:Int):=(sub_at _ _).resolve_right (by omega)
  rw [e]
  (repeat' (first|refine go ?_|simp only [hlt,ew,hj,row_at] | exact .intro | refine sp (fun _=>?_) fun _=>?_))
  exact gives_tree (by simp [AV.ren,AV.renL])
theorem condNC_len (m:Mod) (hf:Fit m) (i:Nat):(condNC m i).length≤80:=by
 unfold condNC
 split
 ·exact hf.guards _ (List.getElem_mem _)
 ·rcases Nat.lt_or_ge (i - m.guards.length) m.miles.length with h | h
  ·simp [List.getElem?_eq_getElem h]
   exact hf.miles _ (List.getElem_mem _)
  ·simp [List.getElem?_eq_none h]
end
section
open Go.RowKit
def rowsLen (st:ASt) (id:Nat):Nat:=match st.tab.get id with | some (.row _ _ rows)=>rows.length | _=>0
end
section
open Go.RowKit
structure Chk (m:Mod):Prop where
 attrs:m.attrs.length≤5
 inits:m.inits.length=m.attrs.length
 users:m.users.length≤4
 roles:m.roles.length≤4
 stages:m.stages.length≤8
 events:m.events.length≤6
 guards:m.guards.length≤12
 miles:m.miles.length≤8
 sods:m.sods.length≤6
 circle:circleL (pars m)<0
end
end
section
section
open Go.RowKit
theorem arity_cases (op:Int):arity op = -1 ∨ arity op=0 ∨ arity op=1 ∨ arity op=2:=by
 unfold arity
 split
 ·exact .inr (.inl rfl)
 ·split
  ·exact .inr (.inr (.inl rfl))
  ·split
   ·exact .inr (.inr (.inr rfl))
   ·exact .inl rfl
theorem pushN_iff {d:Nat} {op:Int} {d':Nat}:pushN d op=some d' ↔ 0≤arity op ∧ arity op≤d ∧ (d':Int)=d+1 - arity op:=by
 unfold pushN
 rcases arity_cases op with h|h|h|h <;> simp only [h]
 ·simp
 ·simp
  omega
 ·by_cases h1:1≤d
  ·simp [h1]
   omega
  ·simp [h1]
   omega
 ·by_cases h1:2≤d
  ·simp [h1]
   omega
  ·simp [h1]
   omega
theorem rn_app (a b:List Int):∀ d,rowN (a ++ b) d=(rowN a d).bind (rowN b):=by
 induction a with
 | nil=>intro d;rfl
 | cons x a ih=>intro d;rw [List.cons_append,rowN,rowN];cases pushN d x <;> simp [ih]
theorem rn_succ (ops:List Int) {i:Nat} (h:i<ops.length):rowN (ops.take (i+1)) 0=(rowN (ops.take i) 0).bind fun d=>pushN d ops[i]:=by
 rw [List.take_add_one,List.getElem?_eq_getElem h,rn_app]
 congr 1
 funext d
 simp [rowN]
 cases pushN d ops[i] <;> rfl
theorem rn_some {ops:List Int} {i d':Nat} (h:i<ops.length) (hr:rowN (ops.take (i+1)) 0=some d'):∃ d,rowN (ops.take i) 0=some d ∧ 0≤arity ops[i] ∧ arity ops[i]≤d ∧ (d':Int)=d+1 - arity ops[i]:=by
 rw [rn_succ ops h] at hr
 cases hd:rowN (ops.take i) 0 with
 | none=>simp [hd] at hr
 | some d=>
  simp [hd] at hr
  exact ⟨d,rfl,pushN_iff.1 hr⟩
def begI (ops:List Int):Nat → Int → Int
 | 0,_=>-1
 | i+1,want=>if arity (ops.getD i 0)<0 then -1 else if want+(arity (ops.getD i 0) - 1)=0 then (i:Int) else begI ops i (want+(arity (ops.getD i 0) - 1))
theorem getD_of {ops:List Int} {i:Nat} (h:i<ops.length):ops.getD i 0=ops[i]:=by simp [h]
theorem beg_gen {ops:List Int} {d e:Nat} (hd:1≤d):∀ (i:Nat) (want:Int) (di:Nat),i≤ops.length → rowN (ops.take i) 0=some di → (di:Int)=d - 1+want → 1≤want → (∀ j,i≤j → j≤e → ∃ dj,rowN (ops.take j) 0=some dj ∧ d≤dj) →
  ∃ b:Nat,b<i ∧ begI ops i want=b ∧ rowN (ops.take b) 0=some (d - 1) ∧ ∀ j,b<j → j≤e → ∃ dj,rowN (ops.take j) 0=some dj ∧ d≤dj
 | 0,want,di,_,hr,hdi,hw,_=>by
  simp [rowN] at hr
  omega
 | i+1,want,di,hi,hr,hdi,hw,hj=>by
  obtain ⟨d0,h0,h1,h2,h3⟩:=rn_some (by omega) hr
  rw [begI,getD_of (by omega:i<ops.length),if_neg (by omega)]
  by_cases hz:want+(arity ops[i] - 1)=0
  ·rw [if_pos hz]
   refine ⟨i,by omega,rfl,by rw [h0];congr 1;omega,fun j h4 h5=>hj j (by omega) h5⟩
  ·rw [if_neg hz]
   obtain ⟨b,h4,h5,h6,h7⟩:=beg_gen (e:=e) hd i (want+(arity ops[i] - 1)) d0 (by omega) h0 (by omega) (by omega) fun j h4 h5=>by
    rcases Nat.lt_or_ge i j with h6|h6
    ·exact hj j (by omega) h5
    ·obtain rfl:i=j:=by omega
     exact ⟨d0,h0,by omega⟩
   exact ⟨b,by omega,h5,h6,h7⟩
theorem rn_pos {ops:List Int} {i d:Nat} (h:i<ops.length) (hr:rowN (ops.take (i+1)) 0=some d):1≤d:=by
 obtain ⟨d0,_,h1,h2,h3⟩:=rn_some h hr
 omega
theorem beg_at {ops:List Int} {e d:Nat} (he:e<ops.length) (hr:rowN (ops.take (e+1)) 0=some d) :
  ∃ b:Nat,b≤e ∧ begI ops (e+1) 1=b ∧ rowN (ops.take b) 0=some (d - 1) ∧ ∀ j,b<j → j≤e+1 → ∃ dj,rowN (ops.take j) 0=some dj ∧ d≤dj:=by
 have hd:=rn_pos he hr
 obtain ⟨b,h1,h2⟩:=beg_gen (e:=e+1) hd (e+1) 1 d (by omega) hr (by omega) (by omega) fun j h1 h2=>by
  obtain rfl:j=e+1:=by omega
  exact ⟨d,hr,Nat.le_refl _⟩
 exact ⟨b,by omega,h2⟩
theorem beg_back (ops:List Int):∀ (i:Nat) (want:Int),i≤ops.length → 1≤want → begI ops i want=0 → rowN (ops.take i) 0=some want.toNat
 | 0,want,_,_,h=>by simp [begI] at h
 | i+1,want,hi,hw,h=>by
  have hlt:i<ops.length:=by omega
  rw [begI,getD_of hlt] at h
  split at h
  ·omega
  ·rename_i h1
   rw [rn_succ ops hlt]
   split at h
   ·rename_i h2
    obtain rfl:i=0:=by omega
    have h3:arity ops[0]=0 ∧ want=1:=by
     rcases arity_cases ops[0] with h|h|h|h <;> omega
    rw [h3.2]
    simp only [List.take_zero,rowN,Option.bind_some]
    rw [pushN_iff]
    omega
   ·rename_i h2
    rw [beg_back ops i _ (by omega) (by omega) h,Option.bind_some,pushN_iff]
    omega
theorem beg_zero {ops:List Int} (h0:0<ops.length):begI ops ops.length 1=0 ↔ rowN ops 0=some 1:=by
 constructor
 ·intro h
  have:=beg_back ops ops.length 1 (Nat.le_refl _) (by omega) h
  rwa [List.take_length] at this
 ·intro h
  have e1:ops.length - 1+1=ops.length:=by omega
  obtain ⟨b,h1,h2,h3,h4⟩:=beg_at (ops:=ops) (e:=ops.length - 1) (d:=1) (by omega) (by rw [e1,List.take_length];exact h)
  rw [e1] at h2
  rw [h2]
  cases b with
  | zero=>rfl
  | succ b=>
   have:=rn_pos (by omega) h3
   omega
section
variable {cm:Inst → Option Int} {o d:Int}
theorem rg_app (a b:List Inst):∀ r,runG cm o d (a ++ b) r=(runG cm o d a r).bind (runG cm o d b):=by
 induction a with
 | nil=>intro r;rfl
 | cons x a ih=>intro r;rw [List.cons_append,runG,runG];cases stepG cm o d x r <;> simp [ih]
theorem rg_succ (l:List Inst) {i:Nat} (h:i<l.length):runG cm o d (l.take (i+1)) []=(runG cm o d (l.take i) []).bind (stepG cm o d l[i]):=by
 rw [List.take_add_one,List.getElem?_eq_getElem h,rg_app]
 congr 1
 funext r
 simp [runG]
 cases stepG cm o d l[i] r <;> rfl
theorem stepG_some {x:Inst} {r r':List Bool} (h:stepG cm o d x r=some r'):∃ k:Nat,arity x.op=k ∧ k≤r.length ∧ ∃ v,r'=v :: r.drop k:=by
 unfold stepG at h
 split at h
 ·rename_i h1
  cases h
  exact ⟨0,by unfold arity;rw [if_pos (by omega)];rfl,by omega,_,rfl⟩
 ·split at h
  ·rename_i h1
   split at h
   ·cases h
    exact ⟨0,by unfold arity;rw [if_pos (by omega)];rfl,by omega,_,rfl⟩
   ·cases h
  ·split at h
   ·rename_i h1
    cases h
    exact ⟨0,by unfold arity;rw [if_pos (by omega)];rfl,by omega,_,rfl⟩
   ·split at h
    ·rename_i h1
     cases h
     exact ⟨0,by unfold arity;rw [if_pos (by omega)];rfl,by omega,_,rfl⟩
    ·split at h
     ·rename_i h1
      split at h
      ·cases h
       exact ⟨1,by unfold arity;rw [if_neg (by omega),if_pos (by omega)];rfl,by simp,_,rfl⟩
      ·cases h
     ·split at h
      ·rename_i h1
       split at h
       ·cases h
        exact ⟨2,by unfold arity;rw [if_neg (by omega),if_neg (by omega),if_pos (by omega)];rfl,by simp,_,rfl⟩
       ·cases h
      ·cases h
theorem rg_some {l:List Inst} {i:Nat} {r':List Bool} (h:i<l.length) (hr:runG cm o d (l.take (i+1)) []=some r'):∃ r,runG cm o d (l.take i) []=some r ∧ stepG cm o d l[i] r=some r':=by
 rw [rg_succ l h] at hr
 cases hd:runG cm o d (l.take i) [] with
 | none=>simp [hd] at hr
 | some r=>
  simp [hd] at hr
  exact ⟨r,rfl,hr⟩
theorem rg_row {l:List Inst}:∀ {i:Nat} {r:List Bool},i≤l.length → runG cm o d (l.take i) []=some r → rowN ((l.map Inst.op).take i) 0=some r.length
 | 0,r,_,h=>by
  simp [runG] at h
  subst h
  simp [rowN]
 | i+1,r,hi,h=>by
  obtain ⟨r0,h1,h2⟩:=rg_some (by omega) h
  have h3:=rg_row (by omega) h1
  obtain ⟨k,h4,h5,v,rfl⟩:=stepG_some h2
  rw [rn_succ _ (by simp;omega),h3,Option.bind_some,pushN_iff]
  simp [h4]
  omega
theorem rg_begin {l:List Inst} {e:Nat} {v:Bool} {r:List Bool} (he:e<l.length) (h:runG cm o d (l.take (e+1)) []=some (v :: r)) :
  ∃ b:Nat,b≤e ∧ begI (l.map Inst.op) (e+1) 1=b ∧ runG cm o d (l.take b) []=some r:=by
 have hrow:=rg_row (by omega) h
 obtain ⟨b,h1,h2,h3,h4⟩:=beg_at (by simpa using he) hrow
 refine ⟨b,h1,h2,?_⟩
 have down:∀ k j,j+k=e+1 → ∃ q,runG cm o d (l.take j) []=some q:=by
  intro k
  induction k with
  | zero=>
   intro j hj
   obtain rfl:j=e+1:=by omega
   exact ⟨_,h⟩
  | succ k ih=>
   intro j hj
   obtain ⟨q,hq⟩:=ih (j+1) (by omega)
   obtain ⟨q0,hq0,_⟩:=rg_some (by omega) hq
   exact ⟨q0,hq0⟩
 obtain ⟨q,hq⟩:=down (e+1 - b) b (by omega)
 have hql:=rg_row (by omega) hq
 rw [h3] at hql
 have hql:r.length=q.length:=by simpa using hql
 have up:∀ k,b+k≤e+1 → ∃ t,runG cm o d (l.take (b+k)) []=some (t ++ q):=by
  intro k
  induction k with
  | zero=>exact fun _=>⟨[],hq⟩
  | succ k ih=>
   intro hk
   obtain ⟨t,ht⟩:=ih (by omega)
   obtain ⟨r1,hr1⟩:=down (e+1 - (b+k+1)) (b+k+1) (by omega)
   obtain ⟨r0,h5,h6⟩:=rg_some (by omega) hr1
   rw [ht] at h5
   cases h5
   obtain ⟨c,h7,h8,v',rfl⟩:=stepG_some h6
   obtain ⟨dj,h9,h10⟩:=h4 (b+k+1) (by omega) (by omega)
   have h11:=rg_row (by omega) hr1
   rw [h9] at h11
   have h11:dj=(t ++ q).length - c+1:=by simpa using h11
   rw [List.length_append] at h11 h8
   simp only [List.length_cons] at h10
   refine ⟨v' :: t.drop c,?_⟩
   rw [show b+(k+1)=b+k+1 by omega,hr1,List.drop_append_of_le_length (by omega)]
   rfl
 obtain ⟨t,ht⟩:=up (e+1 - b) (by omega)
 rw [show b+(e+1 - b)=e+1 by omega,h] at ht
 have ht:=Option.some.inj ht
 have htl:t.length=1:=by
  have:=congrArg List.length ht
  simp at this
  omega
 obtain ⟨v',rfl⟩:∃ v',t=[v']:=by
  match t,htl with
  | [v'],_=>exact ⟨v',rfl⟩
 rw [hq]
 simp at ht
 rw [ht.2]
end
def askOk (vals:List Int) (attrs:Bool) (x:Inst):Bool:=
 !(decide (18<x.op) || (decide (10<x.op) && decide (x.op<15)) || (attrs && decide (3≤x.op) && decide (x.op≤8) && (!(decide (-1≤x.la) && decide (x.la<vals.length)) || !(decide (-1≤x.ra) && decide (x.ra<vals.length)))))
theorem valO_iff (vals:List Int) (a n:Int):(valO vals a n).isSome=(decide (-1≤a) && decide (a<vals.length)):=by
 unfold valO
 by_cases h1:a = -1
 ·subst h1
  simp
  omega
 ·rw [if_neg h1]
  by_cases h2:a<0
  ·rw [if_pos h2]
   simp
   omega
  ·rw [if_neg h2]
   rw [Bool.eq_iff_iff]
   simp
   omega
theorem cmS_some (vals:List Int) (x:Inst):(cmS vals x).isSome=((decide (-1≤x.la) && decide (x.la<vals.length)) && (decide (-1≤x.ra) && decide (x.ra<vals.length))):=by
 rw [← valO_iff vals x.la x.ln,← valO_iff vals x.ra x.rn]
 unfold cmS
 cases valO vals x.la x.ln <;> cases valO vals x.ra x.rn <;> rfl
theorem step_ok {s:St} {x:Inst} {r:List Bool} (h:askOk s.vals true x=true) (h0:0≤arity x.op) (h1:arity x.op≤r.length):∃ r',stepG (cmS s.vals) s.opn s.don x r=some r':=by
 have hc:=cmS_some s.vals x
 unfold askOk at h
 simp only [Bool.not_eq_true',Bool.or_eq_false_iff,Bool.and_eq_false_iff,decide_eq_false_iff_not,Bool.true_and,Bool.not_eq_false'] at h
 unfold stepG
 split
 ·exact ⟨_,rfl⟩
 ·split
  ·rename_i h2 h3
   have:(cmS s.vals x).isSome=true:=by
    rw [hc,Bool.and_eq_true]
    rcases h.2 with h4|h4
    ·rcases h4 with h4 | h4 <;> simp at h4 <;> omega
    ·exact h4
   obtain ⟨c,hc⟩:=Option.isSome_iff_exists.1 this
   rw [hc]
   exact ⟨_,rfl⟩
  ·split
   ·exact ⟨_,rfl⟩
   ·split
    ·exact ⟨_,rfl⟩
    ·split
     ·rename_i h6
      have:arity x.op=1:=by unfold arity;rw [if_neg (by omega),if_pos (by omega)]
      cases r with
      | nil=>simp at h1;omega
      | cons a r=>exact ⟨_,rfl⟩
     ·split
      ·rename_i h6
       have:arity x.op=2:=by unfold arity;rw [if_neg (by omega),if_neg (by omega),if_pos (by omega)]
       match r with
       | []=>simp at h1;omega
       | [a]=>simp at h1;omega
       | b :: a :: r=>exact ⟨_,rfl⟩
      ·rename_i h2 h3 h4 h5 h6 h7
       exfalso
       have h8:=h.1
       unfold arity at h0
       split at h0
       ·rename_i h9
        rcases h8 with ⟨h10,h11⟩
        rcases h11 with h11|h11 <;> omega
       ·split at h0
        ·omega
        ·split at h0 <;> omega
theorem run_ok {s:St} {l:List Inst} (hl:∀ x ∈ l,askOk s.vals true x=true):∀ (i:Nat) (d:Nat),i≤l.length → rowN ((l.map Inst.op).take i) 0=some d → ∃ r,runG (cmS s.vals) s.opn s.don (l.take i) []=some r ∧ r.length=d
 | 0,d,_,h=>by
  simp [rowN] at h
  exact ⟨[],by simp [runG],h⟩
 | i+1,d,hi,h=>by
  have hlt:i<l.length:=by omega
  obtain ⟨d0,h0,h1,h2,h3⟩:=rn_some (by simpa using hlt) h
  obtain ⟨r,h4,h5⟩:=run_ok hl i d0 (by omega) h0
  simp only [List.getElem_map] at h1 h2 h3
  obtain ⟨r',h6⟩:=step_ok (s:=s) (r:=r) (hl l[i] (List.getElem_mem hlt)) h1 (by omega)
  have h7:runG (cmS s.vals) s.opn s.don (l.take (i+1)) []=some r':=by rw [rg_succ l hlt,h4,Option.bind_some,h6]
  have h8:=rg_row (by omega) h7
  rw [h] at h8
  exact ⟨r',h7,(Option.some.inj h8).symm⟩
theorem run_all_ok {s:St} {l:List Inst} {r:List Bool} (h:runG (cmS s.vals) s.opn s.don l []=some r):∀ x ∈ l,askOk s.vals true x=true:=by
 intro x hx
 obtain ⟨i,hi,rfl⟩:=List.getElem_of_mem hx
 have down:∀ k j,j+k=l.length → ∃ q,runG (cmS s.vals) s.opn s.don (l.take j) []=some q:=by
  intro k
  induction k with
  | zero=>
   intro j hj
   obtain rfl:j=l.length:=by omega
   exact ⟨r,by rw [List.take_length];exact h⟩
  | succ k ih=>
   intro j hj
   obtain ⟨q,hq⟩:=ih (j+1) (by omega)
   obtain ⟨q0,hq0,_⟩:=rg_some (by omega) hq
   exact ⟨q0,hq0⟩
 obtain ⟨q,hq⟩:=down (l.length - (i+1)) (i+1) (by omega)
 obtain ⟨q0,_,h2⟩:=rg_some hi hq
 have hc:=cmS_some s.vals l[i]
 unfold askOk
 simp only [Bool.not_eq_true',Bool.or_eq_false_iff,Bool.and_eq_false_iff,decide_eq_false_iff_not,Bool.true_and,Bool.not_eq_false']
 unfold stepG at h2
 split at h2
 ·rename_i h3
  exact ⟨⟨by omega,by omega⟩,.inl (by omega)⟩
 ·split at h2
  ·rename_i h3 h4
   split at h2
   ·rename_i c hcm
    rw [hcm] at hc
    simp only [Option.isSome_some] at hc
    have hc:=hc.symm
    rw [Bool.and_eq_true] at hc
    exact ⟨⟨by omega,by omega⟩,.inr hc⟩
   ·cases h2
  ·split at h2
   ·exact ⟨⟨by omega,by omega⟩,.inl (by omega)⟩
   ·split at h2
    ·exact ⟨⟨by omega,by omega⟩,.inl (by omega)⟩
    ·split at h2
     ·exact ⟨⟨by omega,by omega⟩,.inl (by omega)⟩
     ·split at h2
      ·exact ⟨⟨by omega,by omega⟩,.inl (by omega)⟩
      ·cases h2
theorem holdsO_some {l:List Inst} {s:St} (h1:checkE (l.map Inst.op)=0) (h2:∀ x ∈ l,askOk s.vals true x=true):∃ b,runG (cmS s.vals) s.opn s.don l []=some [b] ∧ holdsO l s=some b:=by
 have h3:rowN (l.map Inst.op) 0=some 1:=by
  unfold checkE at h1
  split at h1
  ·cases h1
  ·split at h1
   ·cases h1
   ·split at h1
    ·assumption
    ·cases h1
 obtain ⟨r,h4,h5⟩:=run_ok h2 l.length 1 (Nat.le_refl _) (by rw [show l.length=(l.map Inst.op).length by simp,List.take_length];exact h3)
 rw [List.take_length] at h4
 match r,h5 with
 | [b],_=>
  refine ⟨b,h4,?_⟩
  unfold holdsO holdsG
  rw [if_neg (by simp [h1]),h4]
theorem holdsO_none {l:List Inst} {s:St} (h:¬ (checkE (l.map Inst.op)=0 ∧ ∀ x ∈ l,askOk s.vals true x=true)):holdsO l s=none:=by
 unfold holdsO holdsG
 split
 ·rfl
 ·rename_i h1
  cases hr:runG (cmS s.vals) s.opn s.don l [] with
  | none=>rfl
  | some r=>exact absurd ⟨by simpa using h1,run_all_ok hr⟩ h
end
section
open Go.RowKit
theorem two_no:((2:Int)=0)=False:=by simp
theorem hasR_A (s i:Int) (hs:ok64 s):ADet Tryz.prog 123 [eI s,eI i] (val (.bool (hasB s i))):=by
 refine adet_of_code mixedT Tryz.func123 rfl (by decide) Tryz.ntmps123 Tryz.results123 rfl (val_ok _) ?_
 (repeat' (first|refine go ?_ | exact .intro | refine sp (fun _=>?_) fun _=>?_))
 ·rename_i h
  simp at h
  simp [hasB]
  omega
 ·rename_i h1 h2
  simp at h1 h2
  simp [hasB]
  omega
 ·rename_i h1 h2
  simp at h1 h2
  obtain ⟨q,rfl⟩:∃ q:Nat,i=(q:Int):=⟨i.toNat,by omega⟩
  have e0:s / 2 ^ 0=s:=by simp
  refine aLoop_of (fun st=>∃ k:Nat,k≤q ∧ st=⟨31,[(0,eI (s / 2 ^ k)),(1,eI (q:Int)),(5,eI (k:Int))],[],0⟩) (fun st=>q - slotN st 5) ⟨_,(wE e0),0,Nat.zero_le _,rfl⟩ ?_
  rintro _ ⟨k,hk,rfl⟩
  have hp:(1:Int)≤2 ^ k:=Int.pow_pos (by omega)
  have hd0:-9223372036854775808≤s / 2 ^ k:=by
   refine Int.le_ediv_of_mul_le (by omega) ?_
   have:=hs.1
   generalize (2:Int) ^ k=p at *
   omega
  have hd1:s / 2 ^ k≤9223372036854775807:=by
   by_cases h:s<0
   ·have:=Int.ediv_neg_of_neg_of_pos h (by omega:(0:Int)<2 ^ k)
    omega
   ·exact Int.le_trans (Int.ediv_le_self _ (by omega)) hs.2
  have ed:s / 2 ^ (k+1)=s / 2 ^ k / 2:=by
   rw [Int.pow_succ,Int.ediv_ediv_of_nonneg (Int.le_of_lt (Int.pow_pos (by omega)))]
  generalize hx:s / 2 ^ k=x at *
  by_cases hxn:x % 2=1 ∧ x<0
  ·have et:x.tmod 2 = -1:=by
    have h3:x.tmod 2 = -((-x) % 2):=by
     rw [← Int.tmod_eq_emod_of_nonneg (by omega),Int.neg_tmod]
     omega
    omega
   have en:decide ((-1:Int)<0)=true:=by decide
   have em:IntKind.i64.wrap (0 - (-1))=1:=by decide
   have ew:IntKind.i64.wrap (x - 1)=x - 1:=wrap_in (by omega) (by omega)
   have eq:(x - 1).tdiv 2=x / 2:=by
    have h3:(2:Int) ∣ x - 1:=⟨x / 2,by omega⟩
    rw [Int.tdiv_eq_ediv_of_dvd h3]
    omega
   by_cases hlt:k<q
   ·(repeat' (first|refine ge (kf @hlt (kf @two_no (kf et (kf en (kf em (kf ew eq)))))) ?_ | exact .intro | refine sp (fun _=>?_) fun _=>?_))
    have ew2:IntKind.i64.wrap (x / 2)=x / 2:=wrap_in (by omega) (by omega)
    exact rI (wE (kf ed ew2)) ⟨k+1,by omega,rfl⟩
   ·obtain rfl:k=q:=by omega
    (repeat' (first|refine ge (kf @hlt (kf @two_no et)) ?_ | exact .intro | refine sp (fun _=>?_) fun _=>?_))
    have hk31:(k:Int)<31:=by omega
    simp [hasB,hx,hk31,hxn.1]
  have et:x.tmod 2=x % 2:=by
   by_cases h:x<0
   ·have h0:x % 2=0:=by omega
    rw [h0]
    exact Int.tmod_eq_zero_of_dvd ⟨x / 2,by omega⟩
   ·exact Int.tmod_eq_emod_of_nonneg (by omega)
  have en:decide (x % 2<0)=false:=by simp;omega
  have ew:IntKind.i64.wrap (x - x % 2)=x - x % 2:=wrap_in (by omega) (by omega)
  have eq:(x - x % 2).tdiv 2=x / 2:=by
   have h3:(2:Int) ∣ x - x % 2:=⟨x / 2,by omega⟩
   rw [Int.tdiv_eq_ediv_of_dvd h3]
   omega
  by_cases hlt:k<q
  ·(repeat' (first|refine ge (kf @hlt (kf @two_no (kf et (kf en (kf ew eq))))) ?_ | exact .intro | refine sp (fun _=>?_) fun _=>?_))
   have ew2:IntKind.i64.wrap (x / 2)=x / 2:=wrap_in (by omega) (by omega)
   exact rI (wE (kf ed ew2)) ⟨k+1,by omega,rfl⟩
  ·obtain rfl:k=q:=by omega
   (repeat' (first|refine ge (kf @hlt (kf @two_no et)) ?_ | exact .intro | refine sp (fun _=>?_) fun _=>?_))
   have hk31:(k:Int)<31:=by omega
   simp [hasB,hx,hk31]
   rcases Int.emod_two_eq x with h|h <;> simp [h]
def bitsN (f:Nat → Bool):Nat → Nat
 | 0=>0
 | k+1=>bitsN f k+if f k=true then 2 ^ k else 0
theorem bitsN_lt (f:Nat → Bool):∀ k,bitsN f k<2 ^ k
 | 0=>by simp [bitsN]
 | k+1=>by
  have:=bitsN_lt f k
  unfold bitsN
  rw [Nat.pow_succ]
  split <;> omega
theorem bitsN_bit (f:Nat → Bool):∀ k j,(bitsN f k).testBit j=(decide (j<k) && f j)
 | 0,j=>by simp [bitsN]
 | k+1,j=>by
  have hl:=bitsN_lt f k
  unfold bitsN
  split
  ·rename_i hf
   rw [Nat.add_comm]
   rcases Nat.lt_trichotomy j k with h|h|h
   ·rw [Nat.testBit_two_pow_add_gt h,bitsN_bit f k j]
    simp [h,show j<k+1 by omega]
   ·subst h
    rw [Nat.testBit_two_pow_add_eq,bitsN_bit f j j]
    simp [hf]
   ·rw [Nat.testBit_lt_two_pow,Eq.comm]
    ·simp
     omega
    ·have:2 ^ (k+1)≤2 ^ j:=Nat.pow_le_pow_right (by omega) h
     rw [Nat.pow_succ] at this
     omega
  ·rename_i hf
   rw [Nat.add_zero,bitsN_bit f k j]
   rcases Nat.lt_trichotomy j k with h|h|h
   ·simp [h,show j<k+1 by omega]
   ·subst h
    simp [hf]
   ·simp [show ¬ j<k by omega,show ¬ j<k+1 by omega]
theorem bitsN_has (f:Nat → Bool) (j:Nat) (hj:j<31):hasB (bitsN f 31:Nat) (j:Int)=f j:=by
 rw [hasB_low _ j hj,low_of _ (bitsN_lt f 31),bitsN_bit]
 simp [hj]
theorem set_ext {a b:Int} (ha:0≤a ∧ a<2147483648) (hb:0≤b ∧ b<2147483648) (h:∀ j:Nat,j<31 → hasB a j=hasB b j):a=b:=by
 have e1:((low a:Nat):Int)=a:=by unfold low;omega
 have e2:((low b:Nat):Int)=b:=by unfold low;omega
 rw [← e1,← e2]
 congr 1
 apply Nat.eq_of_testBit_eq
 intro j
 by_cases hj:j<31
 ·rw [← hasB_low a j hj,← hasB_low b j hj]
  exact h j hj
 ·rw [Nat.testBit_lt_two_pow (Nat.lt_of_lt_of_le (low_lt a) (Nat.pow_le_pow_right (by omega) (by omega))),Nat.testBit_lt_two_pow (Nat.lt_of_lt_of_le (low_lt b) (Nat.pow_le_pow_right (by omega) (by omega)))]
abbrev sB (l:List Bool):AV:=.sl 1 (l.map fun b=>[eB b])
def sumF (l:List Bool) (k:Nat):Int:=(bitsN (fun i=>l.getD i false) k:Nat)
def powF (k:Nat):Int:=(2 ^ k:Nat)
theorem powF_succ {k:Nat} (hk:k≤31):IntKind.i64.wrap (powF k * 2)=powF (k+1):=by
 have h2:2 ^ k≤2 ^ 31:=Nat.pow_le_pow_right (by omega) hk
 unfold powF
 rw [Nat.pow_succ]
 generalize 2 ^ k=p at *
 rw [wrap_in (by omega) (by omega)]
 simp
theorem sumF_yes {l:List Bool} {k:Nat} (hk:k≤31) (h:l.getD k false=true):IntKind.i64.wrap (sumF l k+powF k)=sumF l (k+1):=by
 have h2:2 ^ k≤2 ^ 31:=Nat.pow_le_pow_right (by omega) hk
 have h1:=bitsN_lt (fun i=>l.getD i false) k
 unfold sumF powF
 rw [bitsN,if_pos h]
 generalize bitsN (fun i=>l.getD i false) k=b at *
 generalize 2 ^ k=p at *
 rw [wrap_in (by omega) (by omega)]
 simp
theorem sumF_no {l:List Bool} {k:Nat} (h:l.getD k false=false):sumF l k=sumF l (k+1):=by
 unfold sumF
 rw [bitsN,if_neg (by rw [h];simp)]
 rfl
theorem sum_A (l:List Bool) (hl:l.length≤31):ADet Tryz.prog 125 [sB l] (val (.int .i64 (sumF l l.length))):=by
 refine adet_of_code mixedT Tryz.func125 rfl (by decide) Tryz.ntmps125 Tryz.results125 rfl (val_ok _) ?_
 (repeat' (first|refine go ?_ | exact .intro | refine sp (fun _=>?_) fun _=>?_))
 have e0:sumF l 0=0:=rfl
 have e1:powF 0=1:=rfl
 refine aLoop_of (fun st=>∃ k:Nat,k≤l.length ∧ st=⟨22,[(0,sB l),(3,eI (sumF l k)),(4,eI (powF k)),(5,eI (k:Int))],[],0⟩) (fun st=>l.length - slotN st 5) ⟨_,(wE (kf e0 e1)),0,Nat.zero_le _,rfl⟩ ?_
 rintro _ ⟨k,hk,rfl⟩
 by_cases hlt:k<l.length
 ·have ep:=powF_succ (k:=k) (by omega)
  have eg:l.getD k false=l[k]:=by simp [hlt]
  (repeat' (first|refine go ?_|simp only [row_at,hlt] | exact .intro | refine sp (fun _=>?_) fun _=>?_))
  ·rename_i hb
   have ew:=sumF_yes (l:=l) (k:=k) (by omega) (by rw [eg];exact hb)
   exact rI (wE (kf ew ep)) ⟨k+1,by omega,rfl⟩
  ·rename_i hb
   have ew:=sumF_no (l:=l) (k:=k) (by rw [eg];exact hb)
   rw [ew]
   exact rI (wE ep) ⟨k+1,by omega,rfl⟩
 ·obtain rfl:k=l.length:=by omega
  (repeat' (first|refine go ?_|simp only [row_at,hlt] | exact .intro | refine sp (fun _=>?_) fun _=>?_))
def inL (s:Int):List Bool:=(List.range 31).map fun (i:Nat)=>hasB s (i:Int)
theorem inR_A (s:Int) (hs:ok64 s):ADet Tryz.prog 124 [eI s] (own 4 1 ((inL s).map fun b=>[eB b])):=by
 refine adet_of_code mixedT Tryz.func124 rfl (by decide) Tryz.ntmps124 Tryz.results124 rfl (own_ok _ _ _) ?_
 (repeat' (first|refine go ?_ | exact .intro | refine sp (fun _=>?_) fun _=>?_))
 have hil:(inL s).length=31:=by simp [inL]
 refine aLoop_of (fun st=>∃ k:Nat,k≤31 ∧ st=⟨16,[(0,eI s),(3,.osl 0),(4,eI (k:Int))],[(0,some (.row 4 1 (((inL s).take k).map fun b=>[eB b])))],1⟩) (fun st=>31 - slotN st 4) ⟨_,((weak_nil 3 4 1 (by simp only [ruW,ASt.get,aget,ASt.put,↓reduceIte,reduceCtorEq,Nat.reduceLT,Nat.reduceEqDiff,Nat.reduceAdd,Nat.reduceLeDiff,eq_self,implies_true,List.take_zero])).trans (wS [0] @List.take_zero.{0})),0,Nat.zero_le _,rfl⟩ ?_
 rintro _ ⟨k,hk,rfl⟩
 by_cases hlt:k<31
 ·have et:((inL s).take (k+1)).map (fun b=>[eB b])=((inL s).take k).map (fun b=>[eB b]) ++ [[eB (hasB s (k:Int))]]:=by
   rw [take_snoc (fun b=>[eB b]) (inL s) (show k<(inL s).length by omega)]
   simp [inL]
  have hkl:((inL s).take k).length=k:=by rw [List.length_take];omega
  have e1:decide ((k:Int)<31)=true:=by simp;omega
  (repeat' (first|refine ge e1 ?_ | exact .intro | refine sp (fun _=>?_) fun _=>?_))
  refine callV (hasR_A s k hs) ?_
  (repeat' (first|refine ge e1 ?_ | exact .intro | refine sp (fun _=>?_) fun _=>?_))
  refine ⟨rfl,by omega,rI (wS [2] et) ⟨k+1,by omega,rfl⟩⟩
 ·obtain rfl:k=31:=by omega
  have e1:decide (((31:Nat):Int)<31)=false:=by decide
  (repeat' (first|refine ge e1 ?_ | exact .intro | refine sp (fun _=>?_) fun _=>?_))
  refine aGives_own ?_
  simp [ATab.get_cons,List.take_of_length_le (Nat.le_of_eq hil)]
theorem put_set (s:Int) (i:Int) (b:Bool) (h0:0≤i) (h1:i<31):sumF ((inL s).set i.toNat b) 31=if b=true then withB s i else withoutB s i:=by
 have hr:=bitsN_lt (fun j=>((inL s).set i.toNat b).getD j false) 31
 have hw:(0:Int)≤(if b=true then withB s i else withoutB s i) ∧ (if b=true then withB s i else withoutB s i)<2147483648:=by
  split
  ·unfold withB
   rw [if_pos ⟨h0,h1⟩]
   have:low s ||| 2 ^ i.toNat<2 ^ 31:=Nat.or_lt_two_pow (low_lt s) (Nat.pow_lt_pow_right (by omega) (by omega))
   omega
  ·unfold withoutB
   rw [if_pos ⟨h0,h1⟩]
   have:low s ^^^ (low s &&& 2 ^ i.toNat)<2 ^ 31:=Nat.xor_lt_two_pow (low_lt s) (Nat.lt_of_le_of_lt Nat.and_le_left (low_lt s))
   omega
 unfold sumF
 refine set_ext (by omega) hw fun j hj=>?_
 rw [bitsN_has _ j hj]
 have hlen:(inL s).length=31:=by simp [inL]
 have hg:((inL s).set i.toNat b).getD j false=if i.toNat=j then b else hasB s (j:Int):=by
  rw [List.getD_eq_getElem?_getD,List.getElem?_set]
  split
  ·rename_i h
   rw [hlen,if_pos (by omega)]
   rfl
  ·simp [inL,hj]
 rw [hg]
 have e1:(decide (0≤i ∧ i<31))=true:=by simp [h0,h1]
 split
 ·rename_i h
  have h2:((j:Int) == i)=true:=by simp;omega
  cases b
  ·simp [hasB_without,h2]
  ·simp [hasB_with,e1,h2]
 ·rename_i h
  have h2:((j:Int) == i)=false:=by simp;omega
  cases b
  ·simp [hasB_without,h2]
  ·simp [hasB_with,h2]
theorem put_A (s i:Int) (b:Bool) (hs:ok64 s) (h0:0≤i) (h1:i<31):ADet Tryz.prog 97 [eI s,eI i,eB b] (val (.int .i64 (if b=true then withB s i else withoutB s i))):=by
 refine adet_of_code mixedT Tryz.func97 rfl (by decide) Tryz.ntmps97 Tryz.results97 rfl (val_ok _) ?_
 rw [← put_set s i b h0 h1]
 have hlen:(inL s).length=31:=by simp [inL]
 obtain ⟨q,rfl⟩:∃ q:Nat,i=(q:Int):=⟨i.toNat,by omega⟩
 have e1:decide ((q:Int)≤30)=true:=by simp;omega
 have hq:q<(inL s).length:=by omega
 have bools_plain:∀ row ∈ (inL s).map (fun b=>[eB b]),∀ av ∈ row,av.plain:=fun row hr av ha=>by
  obtain ⟨n,_,rfl⟩:=List.mem_map.1 hr
  simp at ha
  subst ha
  trivial
 have hset:(((inL s).map fun b=>[eB b]).set q [eB b])=((inL s).set q b).map fun b=>[eB b]:=by rw [List.map_set]
 (repeat' (first|refine ge e1 ?_ | exact .intro | refine sp (fun _=>?_) fun _=>?_))
 refine callO (inR_A s hs) (.inr bools_plain) ?_
 (repeat' (first|refine ge e1 ?_ | exact .intro | refine sp (fun _=>?_) fun _=>?_))
 have hs':=sum_A ((inL s).set q b) (by simp;omega)
 rw [List.length_set,hlen] at hs'
 refine ⟨by omega,?_⟩
 (repeat' (first|refine go ?_|simp only [e1,row_at,hq] | exact .intro | refine sp (fun _=>?_) fun _=>?_))
 rw [hset]
 refine callV (by exact hs') ?_
 (repeat' (first|refine go ?_ | exact .intro | refine sp (fun _=>?_) fun _=>?_))
end
section
open Go.RowKit
theorem arityR_A (n:Int):ADet Tryz.prog 130 [eI n] (val (.int .i64 (arity n))):=by
 refine adet_of_code mixedT Tryz.func130 rfl (by decide) Tryz.ntmps130 Tryz.results130 rfl (val_ok _) ?_
 (repeat' (first|refine go ?_ | exact .intro | refine sp (fun _=>?_) fun _=>?_))
 all_goals (simp [arity] at *;(repeat' split) <;> omega)
abbrev eItm (n:Int):List AV:=[eI n,eS ByteArray.empty,eI 0,eS ByteArray.empty,eI 0,eS ByteArray.empty,eS ByteArray.empty,eI 0,eI 0]
abbrev sItms (l:List Int):AV:=.sl 9 (l.map eItm)
theorem beg_in (ops:List Int):∀ (i:Nat) (w:Int),-1≤begI ops i w ∧ begI ops i w<i ∨ begI ops i w = -1
 | 0,w=>.inr rfl
 | i+1,w=>by
  unfold begI
  split
  ·exact .inr rfl
  ·split
   ·left
    omega
   ·rcases beg_in ops i (w+(arity (ops.getD i 0) - 1)) with h | h
    ·left
     omega
    ·exact .inr h
theorem begR_A (l:List Int) (q:Nat) (hq:q≤l.length) (hl:l.length≤1000000):ADet Tryz.prog 98 [sItms l,eI ((q:Int) - 1)] (val (.int .i64 (begI l q 1))):=by
 refine adet_of_code mixedT Tryz.func98 rfl (by decide) Tryz.ntmps98 Tryz.results98 rfl (val_ok _) ?_
 (repeat' (first|refine go ?_ | exact .intro | refine sp (fun _=>?_) fun _=>?_))
 refine aLoop_of (fun st=>∃ (k:Nat) (v:Int),k≤q ∧ 1≤v ∧ v≤1+2 * ((q:Int) - k) ∧ begI l k v=begI l q 1 ∧ st=⟨28,[(0,sItms l),(5,eI v),(6,eI ((k:Int) - 1))],[],0⟩) (fun st=>(match st.get 6 with | .c (.int _ n)=>(n+1).toNat | _=>0)) ⟨_,wC,q,1,Nat.le_refl _,by omega,by omega,rfl,rfl⟩ ?_
 rintro _ ⟨k,v,hk,hv0,hv1,hb,rfl⟩
 cases k with
 | zero=>
  have e0:decide ((0:Int)≤((0:Nat):Int) - 1)=false:=by decide
  (repeat' (first|refine ge e0 ?_ | exact .intro | refine sp (fun _=>?_) fun _=>?_))
  rw [← hb]
  rfl
 | succ j=>
  have ej:((j+1:Nat):Int) - 1=(j:Int):=by omega
  have hj:j<l.length:=by omega
  simp only [ej]
  rw [begI,getD_of hj] at hb
  (repeat' (first|refine go ?_|simp only [hj,row_at] | exact .intro | refine sp (fun _=>?_) fun _=>?_))
  refine callV (arityR_A _) ?_
  have ha:=arity_cases l[j]
  generalize arity l[j]=n at ha hb ⊢
  have ew1:IntKind.i64.wrap (n - 1)=n - 1:=wrap_in (by omega) (by omega)
  have ew2:IntKind.i64.wrap (v+(n - 1))=v+(n - 1):=wrap_in (by omega) (by omega)
  (repeat' (first|refine go ?_|simp only [hj,row_at,ew1,ew2] | exact .intro | refine sp (fun _=>?_) fun _=>?_))
  ·rename_i h
   have h:n<0:=by simpa using h
   rw [← hb,if_pos h]
  ·rename_i h h2
   have h:¬ n<0:=by simpa using h
   have h2:v+(n - 1)=0:=by simpa using h2
   rw [← hb,if_neg h,if_pos h2]
  ·rename_i h h2
   have h:¬ n<0:=by simpa using h
   have h2:¬ v+(n - 1)=0:=by simpa using h2
   rw [if_neg h,if_neg h2] at hb
   have ew:IntKind.i64.wrap ((j:Int) - 1)=(j:Int) - 1:=wrap_in (by omega) (by omega)
   exact rI (wE ew) ⟨j,v+(n - 1),by omega,by omega,by omega,hb,rfl⟩
theorem check04R_A (l:List Int) (hl:l.length≤1000000):ADet Tryz.prog 62 [sItms l] (val (.int .i64 (checkE l))):=by
 refine adet_of_code mixedT Tryz.func62 rfl (by decide) Tryz.ntmps62 Tryz.results62 rfl (val_ok _) ?_
 have ew:IntKind.i64.wrap ((l.length:Int) - 1)=(l.length:Int) - 1:=wrap_in (by omega) (by omega)
 (repeat' (first|refine ge ew ?_ | exact .intro | refine sp (fun _=>?_) fun _=>?_))
 ·rename_i h
  have h:l.length=0:=by simpa using h
  simp [checkE,h]
 ·rename_i h h2
  have h:¬ l.length=0:=by simpa using h
  have h2:64<l.length:=by simp at h2;omega
  simp only [checkE,if_neg h,if_pos h2]
 ·rename_i h h2
  have h:¬ l.length=0:=by simpa using h
  have h2:¬ 64<l.length:=by simp at h2;omega
  refine callV (begR_A l l.length (Nat.le_refl _) hl) ?_
  have hz:=beg_zero (ops:=l) (by omega)
  (repeat' (first|refine go ?_ | exact .intro | refine sp (fun _=>?_) fun _=>?_))
  ·rename_i h3
   have h3:¬ rowN l 0=some 1:=by
    rw [← hz]
    simpa using h3
   simp only [checkE,if_neg h,if_neg h2,if_neg h3]
  ·rename_i h3
   have h3:rowN l 0=some 1:=by
    rw [← hz]
    simpa using h3
   simp only [checkE,if_neg h,if_neg h2,if_pos h3]
theorem shapeR_A (l:List Inst) (hl:l.length≤1000000):ADet Tryz.prog 162 [sInsts l] (own 116 9 (((l.map Inst.op).take 70).map eItm)):=by
 refine adet_of_code mixedT Tryz.func162 rfl (by decide) Tryz.ntmps162 Tryz.results162 rfl (own_ok _ _ _) ?_
 (repeat' (first|refine go ?_ | exact .intro | refine sp (fun _=>?_) fun _=>?_))
 refine aLoop_of (fun st=>∃ k:Nat,k≤l.length ∧ k≤70 ∧ st=⟨25,[(0,sInsts l),(3,.osl 0),(4,eI (k:Int))],[(0,some (.row 116 9 (((l.map Inst.op).take k).map eItm)))],1⟩) (fun st=>l.length - slotN st 4) ⟨_,((weak_nil 3 116 9 (by simp only [ruW,ASt.get,aget,ASt.put,↓reduceIte,reduceCtorEq,Nat.reduceLT,Nat.reduceEqDiff,Nat.reduceAdd,Nat.reduceLeDiff,eq_self,implies_true,List.take_zero])).trans (wS [0] @List.take_zero.{0})),0,Nat.zero_le _,by omega,rfl⟩ ?_
 rintro _ ⟨k,hk,hk2,rfl⟩
 have hfin:¬ (k<l.length ∧ k<70) → ((l.map Inst.op).take k)=((l.map Inst.op).take 70):=fun h=>by
  by_cases h1:k=70
  ·rw [h1]
  ·rw [List.take_of_length_le (by simp;omega),List.take_of_length_le (by simp;omega)]
 by_cases hlt:k<l.length
 ·by_cases h70:k<70
  ·have e1:decide ((k:Int)<70)=true:=by simp;omega
   have et:((l.map Inst.op).take (k+1)).map eItm=((l.map Inst.op).take k).map eItm ++ [eItm l[k].op]:=by
    rw [take_snoc eItm (l.map Inst.op) (by simpa using hlt)]
    simp
   have hkl:((l.map Inst.op).take k).length=k:=by simp;omega
   (repeat' (first|refine go ?_|simp only [row_at,hlt,e1] | exact .intro | refine sp (fun _=>?_) fun _=>?_))
   refine ⟨rfl,by omega,rI (wS [2] et) ⟨k+1,by omega,by omega,rfl⟩⟩
  ·have e1:decide ((k:Int)<70)=false:=by simp;omega
   (repeat' (first|refine go ?_|simp only [row_at,hlt,e1] | exact .intro | refine sp (fun _=>?_) fun _=>?_))
   rw [← hfin (by omega)]
   exact aGives_own (by simp [ATab.get_cons])
 ·(repeat' (first|refine go ?_|simp only [row_at,hlt] | exact .intro | refine sp (fun _=>?_) fun _=>?_))
  rw [← hfin (by omega)]
  exact aGives_own (by simp [ATab.get_cons])
theorem kids0_A (l:List Int) (e:Nat) (he:e<l.length) (h:arity l[e]=0):ADet Tryz.prog 181 [sItms l,eI (e:Int)] (val (.slice none 0 0)):=by
 refine adet_of_code mixedT Tryz.func181 rfl (by decide) Tryz.ntmps181 Tryz.results181 rfl (val_ok _) ?_
 (repeat' (first|refine go ?_|simp only [row_at,he] | exact .intro | refine sp (fun _=>?_) fun _=>?_))
 refine callV (arityR_A _) ?_
 rw [h]
 have e0:((0:Int) == 0)=true:=by decide
 (repeat' (first|refine ge e0 ?_ | exact .intro | refine sp (fun _=>?_) fun _=>?_))
theorem kids1_A (l:List Int) (e:Nat) (he:e<l.length) (h:arity l[e]=1) (hl:l.length≤1000000):ADet Tryz.prog 181 [sItms l,eI (e:Int)] (own 3 1 [[eI ((e:Int) - 1)]]):=by
 refine adet_of_code mixedT Tryz.func181 rfl (by decide) Tryz.ntmps181 Tryz.results181 rfl (own_ok _ _ _) ?_
 have ew:IntKind.i64.wrap ((e:Int) - 1)=(e:Int) - 1:=wrap_in (by omega) (by omega)
 (repeat' (first|refine go ?_|simp only [row_at,he] | exact .intro | refine sp (fun _=>?_) fun _=>?_))
 refine callV (arityR_A _) ?_
 rw [h]
 (repeat' (first|refine ge ew ?_ | exact .intro | refine sp (fun _=>?_) fun _=>?_))
 all_goals first
  | (refine ⟨rfl,aGives_own (by simp [ATab.get_cons])⟩;done)
  | (rename_i h;simp at h;done)
  | exact aGives_own (by simp [ATab.get_cons])
theorem kids2_A (l:List Int) (e:Nat) (he:e<l.length) (h:arity l[e]=2) (hl:l.length≤1000000):ADet Tryz.prog 181 [sItms l,eI (e:Int)] (own 3 1 [[eI (begI l e 1 - 1)],[eI ((e:Int) - 1)]]):=by
 refine adet_of_code mixedT Tryz.func181 rfl (by decide) Tryz.ntmps181 Tryz.results181 rfl (own_ok _ _ _) ?_
 have ew:IntKind.i64.wrap ((e:Int) - 1)=(e:Int) - 1:=wrap_in (by omega) (by omega)
 (repeat' (first|refine go ?_|simp only [row_at,he] | exact .intro | refine sp (fun _=>?_) fun _=>?_))
 refine callV (arityR_A _) ?_
 rw [h]
 (repeat' (first|refine ge ew ?_ | exact .intro | refine sp (fun _=>?_) fun _=>?_))
 all_goals first
  | (rename_i h;simp at h;done)
  | skip
 refine callV (begR_A l e (by omega) hl) ?_
 have ew2:IntKind.i64.wrap (begI l e 1 - 1)=begI l e 1 - 1:=by
  rcases beg_in l e 1 with h|h <;> exact wrap_in (by omega) (by omega)
 (repeat' (first|refine ge (kf ew ew2) ?_ | exact .intro | refine sp (fun _=>?_) fun _=>?_))
 exact ⟨rfl,aGives_own (by simp [ATab.get_cons])⟩
def thereB (vals:List Int) (a:Int):Bool:=decide (-1≤a) && decide (a<(vals.length:Int))
theorem thereR_A (s:St) (a n:Int):ADet Tryz.prog 180 [.agg (eSt s),.agg [eI a,eI n]] (val (.bool (thereB s.vals a))):=by
 refine adet_of_code mixedT Tryz.func180 rfl (by decide) Tryz.ntmps180 Tryz.results180 rfl (val_ok _) ?_
 unfold thereB
 (repeat' (first|refine go ?_ | exact .intro | refine sp (fun _=>?_) fun _=>?_))
 all_goals (rename_i h;rw [h];simp)
theorem valR_A (s:St) (a n v:Int) (h:valO s.vals a n=some v):ADet Tryz.prog 183 [.agg (eSt s),.agg [eI a,eI n]] (val (.int .i64 v)):=by
 refine adet_of_code mixedT Tryz.func183 rfl (by decide) Tryz.ntmps183 Tryz.results183 rfl (val_ok _) ?_
 unfold valO at h
 by_cases h1:a = -1
 ·rw [if_pos h1] at h
  cases h
  subst h1
  have e0:((-1:Int) == -1)=true:=by decide
  (repeat' (first|refine ge e0 ?_ | exact .intro | refine sp (fun _=>?_) fun _=>?_))
 ·rw [if_neg h1] at h
  by_cases h2:a<0
  ·rw [if_pos h2] at h
   cases h
  ·rw [if_neg h2] at h
   obtain ⟨k,rfl⟩:∃ k:Nat,a=(k:Int):=⟨a.toNat,by omega⟩
   obtain ⟨hk,rfl⟩:=List.getElem?_eq_some_iff.1 h
   simp only [Int.toNat_natCast] at hk
   have e1:((k:Int) == -1)=false:=by rw [beq_eq_false_iff_ne];omega
   (repeat' (first|refine go ?_|simp only [row_at,hk,e1] | exact .intro | refine sp (fun _=>?_) fun _=>?_))
theorem cmpR_A (op a b:Int):ADet Tryz.prog 182 [eI op,eI a,eI b] (val (.bool (soB op (cmpI a b)))):=by
  refine adet_of_code mixedT Tryz.func182 rfl (by decide) Tryz.ntmps182 Tryz.results182 rfl (val_ok _) ?_
  (repeat' (first|refine go ?_ | exact .intro | refine sp (fun _=>?_) fun _=>?_))
  all_goals
    (simp only [beq_iff_eq,beq_eq_false_iff_ne,ne_eq] at *
     simp_all [soB,cmpI]
     try ((repeat' split) <;> simp_all <;> omega))
end
end
section
section
open Go.RowKit
theorem allF_A (q:Nat) (hq:q≤60):ADet Tryz.prog 28 [eI (q:Int)] (val (.int .i64 (((2 ^ q - 1:Nat):Int)))):=by
 refine adet_of_code mixedT Tryz.func28 rfl (by decide) Tryz.ntmps28 Tryz.results28 rfl (val_ok _) ?_
 (repeat' (first|refine go ?_ | exact .intro | refine sp (fun _=>?_) fun _=>?_))
 refine aLoop_of (fun st=>∃ k:Nat,k≤q ∧ st=⟨14,[(0,eI (q:Int)),(3,eI ((2 ^ k - 1:Nat):Int)),(4,eI (k:Int))],[],0⟩) (fun st=>q - slotN st 4) ⟨_,wC,0,Nat.zero_le _,rfl⟩ ?_
 rintro _ ⟨k,hk,rfl⟩
 by_cases hlt:k<q
 ·have hp:2 ^ k≤2 ^ 59:=Nat.pow_le_pow_right (by omega) (by omega)
  have hp1:1≤2 ^ k:=Nat.one_le_two_pow
  have e1:IntKind.i64.wrap (2 * ((2 ^ k - 1:Nat):Int))=2 * ((2 ^ k - 1:Nat):Int):=wrap_in (by omega) (by omega)
  have e2:IntKind.i64.wrap (2 * ((2 ^ k - 1:Nat):Int)+1)=((2 ^ (k+1) - 1:Nat):Int):=by
   rw [wrap_in (by omega) (by omega),Nat.pow_succ]
   omega
  (repeat' (first|refine ge (kf @hlt (kf e1 e2)) ?_ | exact .intro | refine sp (fun _=>?_) fun _=>?_))
  exact rI (wE (kf e1 e2)) ⟨k+1,by omega,rfl⟩
 ·obtain rfl:k=q:=by omega
  (repeat' (first|refine ge @hlt ?_ | exact .intro | refine sp (fun _=>?_) fun _=>?_))
theorem check11F_A (m:Mod) (l:List Inst) (prop:Bool) (hl:l.length≤1000):ARel Tryz.prog 31 [.agg (eMod m),sInsts l,eB prop] fun R=>∃ b,R=val (.bool b) ∧ (b=true → checkE (l.map Inst.op)=0 ∧ ∀ i (h:i<l.length),hasI m l[i]=true ∧ (prop=false → ¬ (18<l[i].op ∨ (10<l[i].op ∧ l[i].op<15)))):=by
 refine arel_of_code mixedT Tryz.func31 rfl (by decide) Tryz.ntmps31 Tryz.results31 rfl ?_
 (repeat' (first|refine go ?_ | exact .intro | refine sp (fun _=>?_) fun _=>?_))
 refine aLoop_of (fun st=>∃ k:Nat,k≤l.length ∧ k≤70 ∧ st=⟨67,[(1,sInsts l),(2,eB prop),(3,.op 0 0 0),(7,.osl 1),(8,eI (k:Int))],[(0,some (.box 32 (eMod m))),(1,some (.row 116 9 (((l.map Inst.op).take k).map eItm)))],2⟩) (fun st=>l.length - slotN st 8) ⟨_,((weak_nil 7 116 9 (by simp only [ruW,ASt.get,aget,ASt.put,↓reduceIte,reduceCtorEq,Nat.reduceLT,Nat.reduceEqDiff,Nat.reduceAdd,Nat.reduceLeDiff,eq_self,implies_true,List.take_zero,List.map_nil])).trans (wS [0,1] @List.take_zero.{0})),0,Nat.zero_le _,by omega,rfl⟩ ?_
 rintro _ ⟨k,hk,hk70,rfl⟩
 have hkl:((l.map Inst.op).take k).length=k:=by simp;omega
 have hlen2:((l.map Inst.op).take k).length≤1000000:=by omega
 by_cases hgo:k<l.length ∧ k<70
 ·obtain ⟨hlt,h70⟩:=hgo
  have e1:decide ((k:Int)<70)=true:=by simp;omega
  have et:((l.map Inst.op).take (k+1)).map eItm=((l.map Inst.op).take k).map eItm ++ [eItm l[k].op]:=by
   rw [take_snoc eItm (l.map Inst.op) (by simpa using hlt)]
   simp
  (repeat' (first|refine go ?_|simp only [row_at,hlt,e1] | exact .intro | refine sp (fun _=>?_) fun _=>?_))
  refine ⟨rfl,by simp only [hkl,List.length_map,List.length_take];omega,rI (wS [0,3] et) ⟨k+1,by omega,by omega,rfl⟩⟩
 ·have hfin:((l.map Inst.op).take k)=(l.map Inst.op).take 70:=by
   by_cases h1:k=70
   ·rw [h1]
   ·rw [List.take_of_length_le (by simp;omega),List.take_of_length_le (by simp;omega)]
  have hchk:=check04R_A ((l.map Inst.op).take k) hlen2
  have hE:checkE ((l.map Inst.op).take k)=0 → checkE (l.map Inst.op)=0:=fun h=>by
   rcases Nat.lt_or_ge 64 l.length with h64|h64
   ·exfalso
    have:64<((l.map Inst.op).take k).length:=by omega
    unfold checkE at h
    rw [if_neg (by omega),if_pos this] at h
    cases h
   ·rw [List.take_of_length_le (by simp;omega)] at h
    exact h
  have hcond:decide (k<l.length)=false ∨ (decide (k<l.length)=true ∧ decide ((k:Int)<70)=false):=by
   by_cases h:k<l.length
   ·exact .inr ⟨decide_eq_true h,decide_eq_false (by omega)⟩
   ·exact .inl (decide_eq_false h)
  by_cases hz:checkE ((l.map Inst.op).take k)=0
  ·have z1:(checkE ((l.map Inst.op).take k) != 0)=false:=by simp [hz]
   have hE:=hE hz
   have fin:aLoop Tryz.prog (Code.skip) (fun _ _=>True) ⟨0,[],[],0⟩ → True:=fun _=>trivial
   rcases hcond with d1|⟨d1,d2⟩
   ·(repeat' (first|refine ge d1 ?_ | exact .intro | refine sp (fun _=>?_) fun _=>?_))
    refine callV hchk ?_
    (repeat' (first|refine ge z1 ?_ | exact .intro | refine sp (fun _=>?_) fun _=>?_))
    refine aLoop_of (fun st=>∃ q:Nat,q≤l.length ∧ (∀ i (h:i<l.length),i<q → hasI m l[i]=true ∧ (prop=false → ¬ (18<l[i].op ∨ (10<l[i].op ∧ l[i].op<15)))) ∧ st=⟨67,[(1,sInsts l),(2,eB prop),(3,.op 0 0 0),(9,eI (q:Int))],[(0,some (.box 32 (eMod m)))],1⟩) (fun st=>l.length - slotN st 9) ⟨_,wC,0,Nat.zero_le _,fun i h h2=>absurd h2 (by omega),rfl⟩ ?_
    rintro _ ⟨q,hq,hI,rfl⟩
    by_cases hlt2:q<l.length
    ·(repeat' (first|refine go ?_|simp only [row_at,hlt2] | exact .intro | refine sp (fun _=>?_) fun _=>?_))
     refine aDraw_quiet (by kernel_rfl) ?_
     (repeat' (first|refine go ?_|simp only [row_at,hlt2] | exact .intro | refine sp (fun _=>?_) fun _=>?_))
     refine callD (hasI_A m l[q]) ?_
     (repeat' (first|refine go ?_|simp only [row_at,hlt2] | exact .intro | refine sp (fun _=>?_) fun _=>?_))
     all_goals first | with_reducible exact retV ⟨false,rfl,fun h=>by cases h⟩ | skip
     all_goals
      refine rI wC ⟨q+1,by omega,fun i h h2=>?_,rfl⟩
      rcases Nat.lt_or_ge i q with h3|h3
      ·exact hI i h h3
      ·obtain rfl:i=q:=by omega
       simp_all
       try omega
    ·(repeat' (first|refine go ?_|simp only [row_at,hlt2] | exact .intro | refine sp (fun _=>?_) fun _=>?_))
     exact retV ⟨true,rfl,fun _=>⟨hE,fun i h=>hI i h (by omega)⟩⟩
   ·(repeat' (first|refine ge (kf d1 d2) ?_ | exact .intro | refine sp (fun _=>?_) fun _=>?_))
    refine callV hchk ?_
    (repeat' (first|refine ge z1 ?_ | exact .intro | refine sp (fun _=>?_) fun _=>?_))
    refine aLoop_of (fun st=>∃ q:Nat,q≤l.length ∧ (∀ i (h:i<l.length),i<q → hasI m l[i]=true ∧ (prop=false → ¬ (18<l[i].op ∨ (10<l[i].op ∧ l[i].op<15)))) ∧ st=⟨67,[(1,sInsts l),(2,eB prop),(3,.op 0 0 0),(9,eI (q:Int))],[(0,some (.box 32 (eMod m)))],1⟩) (fun st=>l.length - slotN st 9) ⟨_,wC,0,Nat.zero_le _,fun i h h2=>absurd h2 (by omega),rfl⟩ ?_
    rintro _ ⟨q,hq,hI,rfl⟩
    by_cases hlt2:q<l.length
    ·(repeat' (first|refine go ?_|simp only [row_at,hlt2] | exact .intro | refine sp (fun _=>?_) fun _=>?_))
     refine aDraw_quiet (by kernel_rfl) ?_
     (repeat' (first|refine go ?_|simp only [row_at,hlt2] | exact .intro | refine sp (fun _=>?_) fun _=>?_))
     refine callD (hasI_A m l[q]) ?_
     (repeat' (first|refine go ?_|simp only [row_at,hlt2] | exact .intro | refine sp (fun _=>?_) fun _=>?_))
     all_goals first | with_reducible exact retV ⟨false,rfl,fun h=>by cases h⟩ | skip
     all_goals
      refine rI wC ⟨q+1,by omega,fun i h h2=>?_,rfl⟩
      rcases Nat.lt_or_ge i q with h3|h3
      ·exact hI i h h3
      ·obtain rfl:i=q:=by omega
       simp_all
       try omega
    ·(repeat' (first|refine go ?_|simp only [row_at,hlt2] | exact .intro | refine sp (fun _=>?_) fun _=>?_))
     exact retV ⟨true,rfl,fun _=>⟨hE,fun i h=>hI i h (by omega)⟩⟩
  ·have z1:(checkE ((l.map Inst.op).take k) != 0)=true:=by simp [hz]
   rcases hcond with d1|⟨d1,d2⟩
   ·(repeat' (first|refine ge d1 ?_ | exact .intro | refine sp (fun _=>?_) fun _=>?_))
    refine callV hchk ?_
    (repeat' (first|refine ge z1 ?_ | exact .intro | refine sp (fun _=>?_) fun _=>?_))
    exact retV ⟨false,rfl,fun h=>by cases h⟩
   ·(repeat' (first|refine ge (kf d1 d2) ?_ | exact .intro | refine sp (fun _=>?_) fun _=>?_))
    refine callV hchk ?_
    (repeat' (first|refine ge z1 ?_ | exact .intro | refine sp (fun _=>?_) fun _=>?_))
    exact retV ⟨false,rfl,fun h=>by cases h⟩
def sumW (l:List Ev):Int:=(l.map fun e=>e.times * (e.sets.length:Int)).sum
structure WritesP (l:List Ev):Prop where
 each:∀ i (h:i<l.length),0≤l[i].times ∧ l[i].times≤3 ∧ (l[i].times=0 → l[i].sets.length=0)
theorem sumW_nil:sumW []=0:=rfl
theorem sumW_take {l:List Ev} {k:Nat} (hk:k<l.length):sumW (l.take (k+1))=sumW (l.take k)+l[k].times * (l[k].sets.length:Int):=by
 unfold sumW
 rw [List.take_succ_eq_append_getElem hk,List.map_append,List.sum_append]
 simp
theorem sumW_bound {l:List Ev} (hs:∀ e ∈ l,e.sets.length≤10):∀ k,k≤l.length → (∀ i (h:i<l.length),i<k → 0≤l[i].times ∧ l[i].times≤3) → 0≤sumW (l.take k) ∧ sumW (l.take k)≤30 * (k:Int)
 | 0,_,_=>by simp [sumW]
 | k+1,hk,h=>by
  have ih:=sumW_bound hs k (by omega) fun i hi h2=>h i hi (by omega)
  have h1:=h k (by omega) (by omega)
  have h2:=hs _ (List.getElem_mem (show k<l.length by omega))
  rw [sumW_take (by omega)]
  have h3:0≤l[k].times * (l[k].sets.length:Int):=Int.mul_nonneg h1.1 (by omega)
  have h4:l[k].times * (l[k].sets.length:Int)≤3 * 10:=Int.mul_le_mul h1.2 (by omega) (by omega) (by omega)
  omega
theorem writesF_A (l:List Ev) (hl:l.length≤1000) (hs:∀ e ∈ l,e.sets.length≤10):ARel Tryz.prog 11 [.sl 5 (l.map eEv)] fun R=>∃ v,R=val (.int .i64 v) ∧ (v<0 ∨ (v=sumW l ∧ WritesP l)):=by
 refine arel_of_code mixedT Tryz.func11 rfl (by decide) Tryz.ntmps11 Tryz.results11 rfl ?_
 (repeat' (first|refine go ?_ | exact .intro | refine sp (fun _=>?_) fun _=>?_))
 refine aLoop_of (fun st=>∃ k:Nat,k≤l.length ∧ (∀ i (h:i<l.length),i<k → 0≤l[i].times ∧ l[i].times≤3 ∧ (l[i].times=0 → l[i].sets.length=0)) ∧ st=⟨54,[(0,.sl 5 (l.map eEv)),(3,eI (sumW (l.take k))),(4,eI (k:Int))],[],0⟩) (fun st=>l.length - slotN st 4) ⟨_,(wE (kf @List.take_zero.{0} @sumW_nil)),0,Nat.zero_le _,fun i h h2=>absurd h2 (by omega),rfl⟩ ?_
 rintro _ ⟨k,hk,hI,rfl⟩
 have hbd:=sumW_bound hs k hk fun i h h2=>⟨(hI i h h2).1,(hI i h h2).2.1⟩
 by_cases hlt:k<l.length
 ·by_cases hg:0≤l[k].times ∧ l[k].times≤3 ∧ (l[k].times=0 → l[k].sets.length=0)
  ·have h2:=hs _ (List.getElem_mem hlt)
   have h3:0≤l[k].times * (l[k].sets.length:Int):=Int.mul_nonneg hg.1 (by omega)
   have h4:l[k].times * (l[k].sets.length:Int)≤3 * 10:=Int.mul_le_mul hg.2.1 (by omega) (by omega) (by omega)
   have e1:IntKind.i64.wrap (l[k].times * (l[k].sets.length:Int))=l[k].times * (l[k].sets.length:Int):=wrap_in (by omega) (by omega)
   have e2:IntKind.i64.wrap (sumW (l.take k)+l[k].times * (l[k].sets.length:Int))=sumW (l.take (k+1)):=by
    rw [sumW_take hlt]
    exact wrap_in (by omega) (by omega)
   have hI':∀ i (h:i<l.length),i<k+1 → 0≤l[i].times ∧ l[i].times≤3 ∧ (l[i].times=0 → l[i].sets.length=0):=fun i h h2=>by
    rcases Nat.lt_or_ge i k with h3|h3
    ·exact hI i h h3
    ·obtain rfl:i=k:=by omega
     exact hg
   have d1:decide (l[k].times<0)=false:=decide_eq_false (by omega)
   have d2:decide (3<l[k].times)=false:=decide_eq_false (by omega)
   by_cases hz:l[k].times=0
   ·have d3:(l[k].times == 0)=true:=by simp [hz]
    have d4:decide (0<(l[k].sets.length:Int))=false:=decide_eq_false (by have:=hg.2.2 hz;omega)
    have d5:decide (0<l[k].sets.length)=false:=decide_eq_false (by have:=hg.2.2 hz;omega)
    (repeat' (first|refine go ?_|simp only [row_at,hlt,d1,d2,d3,d4,d5,e1] | exact .intro | refine sp (fun _=>?_) fun _=>?_))
    all_goals exact rI (wE (kf e1 e2)) ⟨k+1,by omega,hI',rfl⟩
   ·have d3:(l[k].times == 0)=false:=by simp [hz]
    (repeat' (first|refine go ?_|simp only [row_at,hlt,d1,d2,d3,e1] | exact .intro | refine sp (fun _=>?_) fun _=>?_))
    all_goals exact rI (wE (kf e1 e2)) ⟨k+1,by omega,hI',rfl⟩
  ·have hbad:decide (l[k].times<0)=true ∨ (decide (l[k].times<0)=false ∧ decide (3<l[k].times)=true) ∨ (decide (l[k].times<0)=false ∧ decide (3<l[k].times)=false ∧ (l[k].times == 0)=true ∧ decide (0<(l[k].sets.length:Int))=true ∧ decide (0<l[k].sets.length)=true):=by
    by_cases h1:l[k].times<0
    ·exact .inl (decide_eq_true h1)
    by_cases h2:3<l[k].times
    ·exact .inr (.inl ⟨decide_eq_false h1,decide_eq_true h2⟩)
    have h3:l[k].times=0:=Classical.byContradiction fun h=>hg ⟨by omega,by omega,fun h'=>absurd h' h⟩
    have h4:0<l[k].sets.length:=Nat.pos_of_ne_zero fun h=>hg ⟨by omega,by omega,fun _=>h⟩
    exact .inr (.inr ⟨decide_eq_false h1,decide_eq_false h2,by simp [h3],decide_eq_true (by omega),decide_eq_true h4⟩)
   rcases hbad with d1|⟨d1,d2⟩|⟨d1,d2,d3,d4,d5⟩
   ·(repeat' (first|refine go ?_|simp only [row_at,hlt,d1] | exact .intro | refine sp (fun _=>?_) fun _=>?_))
    exact retV ⟨-1,rfl,.inl (by omega)⟩
   ·(repeat' (first|refine go ?_|simp only [row_at,hlt,d1,d2] | exact .intro | refine sp (fun _=>?_) fun _=>?_))
    exact retV ⟨-1,rfl,.inl (by omega)⟩
   ·(repeat' (first|refine go ?_|simp only [row_at,hlt,d1,d2,d3,d4,d5] | exact .intro | refine sp (fun _=>?_) fun _=>?_))
    all_goals exact retV ⟨-1,rfl,.inl (by omega)⟩
 ·obtain rfl:k=l.length:=by omega
  (repeat' (first|refine ge @hlt ?_ | exact .intro | refine sp (fun _=>?_) fun _=>?_))
  exact retV ⟨_,rfl,.inr ⟨by simp only [List.take_length],⟨fun i h=>hI i h h⟩⟩⟩
end
end
section
section
open Go.RowKit
def CondP (m:Mod) (l:List Inst):Prop:=checkE (l.map Inst.op)=0 ∧ ∀ i (h:i<l.length),hasI m l[i]=true ∧ ¬ (18<l[i].op ∨ (10<l[i].op ∧ l[i].op<15))
def SetsP (m:Mod) (l:List Int):Prop:=∀ i (h:i<l.length),inB l[i] m.attrs.length=true ∧ ∀ j (h:j<i),l[j] ≠ l[i]
def RoleP (m:Mod) (p:ByteArray × Int):Prop:=0<p.2 ∧ p.2<16 ∧ p.2≤((2 ^ m.users.length - 1:Nat):Int)
def StageP (m:Mod) (p:ByteArray × Int):Prop:=p.2 = -1 ∨ inB p.2 m.stages.length=true
def EventP (m:Mod) (e:Ev):Prop:=inB e.role m.roles.length=true ∧ inB e.stage m.stages.length=true ∧ SetsP m e.sets
def SentP (m:Mod) (st ev:Int) (l:List Inst):Prop:=inB st m.stages.length=true ∧ (ev = -1 ∨ inB ev m.events.length=true) ∧ CondP m l
def SodP (m:Mod) (p:Int × Int):Prop:=inB p.1 m.events.length=true ∧ inB p.2 m.events.length=true ∧ p.1 ≠ p.2
structure NamedP (m:Mod):Prop where
 roles:∀ i (h:i<m.roles.length),RoleP m m.roles[i]
 stages:∀ i (h:i<m.stages.length),StageP m m.stages[i]
 events:∀ i (h:i<m.events.length),EventP m m.events[i]
 guards:∀ i (h:i<m.guards.length),SentP m m.guards[i].stage m.guards[i].event m.guards[i].cond
 miles:∀ i (h:i<m.miles.length),SentP m m.miles[i].stage m.miles[i].event m.miles[i].cond
 sods:∀ i (h:i<m.sods.length),SodP m m.sods[i]
def Upto {α:Type} (l:List α) (p:α → Prop) (k:Nat):Prop:=∀ i (h:i<l.length),i<k → p l[i]
theorem Upto.zero {α:Type} (l:List α) (p:α → Prop):Upto l p 0:=fun i h h2=>absurd h2 (by omega)
theorem Upto.succ {α:Type} {l:List α} {p:α → Prop} {k:Nat} (h:Upto l p k) (hk:k<l.length) (hp:p l[k]):Upto l p (k+1):=fun i hi h2=>by
 rcases Nat.lt_or_ge i k with h3|h3
 ·exact h i hi h3
 ·obtain rfl:i=k:=by omega
  exact hp
theorem sets_E2 (m:Mod) (l:List Int) (hl:l.length≤1000000):∃ b,ADet Tryz.prog 30 [.agg (eMod m),sI l] (val (.bool b)) ∧ (b=true → SetsP m l):=by
 classical
 exact ⟨decide (∀ i (h:i<l.length),inB l[i] m.attrs.length=true ∧ ∀ j (h:j<i),l[j] ≠ l[i]),sets_A m l hl _ (by simp),fun h=>by unfold SetsP;simpa using h⟩
def NM (m:Mod) (a b c d e f:Nat):Prop:=Upto m.roles (RoleP m) a ∧ Upto m.stages (StageP m) b ∧ Upto m.events (EventP m) c ∧ Upto m.guards (fun g=>SentP m g.stage g.event g.cond) d ∧ Upto m.miles (fun g=>SentP m g.stage g.event g.cond) e ∧ Upto m.sods (SodP m) f
theorem NM.s1 {m:Mod} {a b c d e f:Nat} (h:NM m a b c d e f) (hk:a<m.roles.length) (hp:RoleP m m.roles[a]):NM m (a+1) b c d e f:=⟨h.1.succ hk hp,h.2⟩
theorem NM.s2 {m:Mod} {a b c d e f:Nat} (h:NM m a b c d e f) (hk:b<m.stages.length) (hp:StageP m m.stages[b]):NM m a (b+1) c d e f:=⟨h.1,h.2.1.succ hk hp,h.2.2⟩
theorem NM.s3 {m:Mod} {a b c d e f:Nat} (h:NM m a b c d e f) (hk:c<m.events.length) (hp:EventP m m.events[c]):NM m a b (c+1) d e f:=⟨h.1,h.2.1,h.2.2.1.succ hk hp,h.2.2.2⟩
theorem NM.s4 {m:Mod} {a b c d e f:Nat} (h:NM m a b c d e f) (hk:d<m.guards.length) (hp:SentP m m.guards[d].stage m.guards[d].event m.guards[d].cond):NM m a b c (d+1) e f:=⟨h.1,h.2.1,h.2.2.1,h.2.2.2.1.succ hk hp,h.2.2.2.2⟩
theorem NM.s5 {m:Mod} {a b c d e f:Nat} (h:NM m a b c d e f) (hk:e<m.miles.length) (hp:SentP m m.miles[e].stage m.miles[e].event m.miles[e].cond):NM m a b c d (e+1) f:=⟨h.1,h.2.1,h.2.2.1,h.2.2.2.1,h.2.2.2.2.1.succ hk hp,h.2.2.2.2.2⟩
theorem NM.s6 {m:Mod} {a b c d e f:Nat} (h:NM m a b c d e f) (hk:f<m.sods.length) (hp:SodP m m.sods[f]):NM m a b c d e (f+1):=⟨h.1,h.2.1,h.2.2.1,h.2.2.2.1,h.2.2.2.2.1,h.2.2.2.2.2.succ hk hp⟩
theorem NM.named {m:Mod} (h:NM m m.roles.length m.stages.length m.events.length m.guards.length m.miles.length m.sods.length):NamedP m:=⟨fun i hi=>h.1 i hi hi,fun i hi=>h.2.1 i hi hi,fun i hi=>h.2.2.1 i hi hi,fun i hi=>h.2.2.2.1 i hi hi,fun i hi=>h.2.2.2.2.1 i hi hi,fun i hi=>h.2.2.2.2.2 i hi hi⟩
theorem namedF_A (m:Mod) (hf:Fit m):ARel Tryz.prog 10 [.agg (eMod m)] fun R=>∃ b,R=val (.bool b) ∧ (b=true → NamedP m):=by
 refine arel_of_code mixedT Tryz.func10 rfl (by decide) Tryz.ntmps10 Tryz.results10 rfl ?_
 obtain ⟨hg,hm,hst,hev,hat,hus,hro,hso,-⟩:=id hf.sizes
 (repeat' (first|refine go ?_ | exact .intro | refine sp (fun _=>?_) fun _=>?_))
 refine aLoop_of (fun st=>∃ (k:Nat) (b:Bool),k≤m.roles.length ∧ (b=true → NM m k 0 0 0 0 0) ∧ st=⟨233,[(1,.op 0 0 0),(3,eB b),(4,eI (k:Int))],[(0,some (.box 32 (eMod m)))],1⟩) (fun st=>m.roles.length - slotN st 4) ⟨_,wC,0,true,Nat.zero_le _,fun _=>⟨.zero _ _,.zero _ _,.zero _ _,.zero _ _,.zero _ _,.zero _ _⟩,rfl⟩ ?_
 rintro _ ⟨k,b,hk,hI,rfl⟩
 by_cases hlt:k<m.roles.length
 ·(repeat' (first|refine go ?_|simp only [row_at,hlt] | exact .intro | refine sp (fun _=>?_) fun _=>?_))
  all_goals first | with_reducible exact rI wC ⟨k+1,false,by omega,(fun h=>by cases h),rfl⟩ | skip
  refine callV (allF_A m.users.length (by omega)) ?_
  (repeat' (first|refine go ?_|simp only [row_at,hlt] | exact .intro | refine sp (fun _=>?_) fun _=>?_))
  refine rI wC ⟨k+1,decide (m.roles[k].2≤((2 ^ m.users.length - 1:Nat):Int)),by omega,fun h=>(hI (by assumption)).s1 hlt ⟨?_,?_,of_decide_eq_true h⟩,rfl⟩
  all_goals (apply of_decide_eq_true;assumption)
 obtain rfl:k=m.roles.length:=by omega
 (repeat' (first|refine go ?_|simp only [row_at,hlt] | exact .intro | refine sp (fun _=>?_) fun _=>?_))
 clear hk hlt
 refine aLoop_of (fun st=>∃ (k:Nat) (b:Bool),k≤m.stages.length ∧ (b=true → NM m m.roles.length k 0 0 0 0) ∧ st=⟨233,[(1,.op 0 0 0),(3,eB b),(6,eI (k:Int))],[(0,some (.box 32 (eMod m)))],1⟩) (fun st=>m.stages.length - slotN st 6) ⟨_,wC,0,b,Nat.zero_le _,hI,rfl⟩ ?_
 clear hI b
 rintro _ ⟨k,b,hk,hI,rfl⟩
 by_cases hlt:k<m.stages.length
 ·(repeat' (first|refine go ?_|simp only [row_at,hlt] | exact .intro | refine sp (fun _=>?_) fun _=>?_))
  all_goals first | with_reducible exact rI wC ⟨k+1,false,by omega,(fun h=>by cases h),rfl⟩ | skip
  all_goals first | exact rI wC ⟨k+1,true,by omega,(fun h=>(hI (by assumption)).s2 hlt (.inl (eq_of_beq (by assumption)))),rfl⟩ | skip
  refine callV (in_A m.stages[k].2 m.stages.length) ?_
  (repeat' (first|refine go ?_|simp only [row_at,hlt] | exact .intro | refine sp (fun _=>?_) fun _=>?_))
  exact rI wC ⟨k+1,inB m.stages[k].2 m.stages.length,by omega,(fun h=>(hI (by assumption)).s2 hlt (.inr h)),rfl⟩
 obtain rfl:k=m.stages.length:=by omega
 (repeat' (first|refine go ?_|simp only [row_at,hlt] | exact .intro | refine sp (fun _=>?_) fun _=>?_))
 clear hk hlt
 refine aLoop_of (fun st=>∃ (k:Nat) (b:Bool),k≤m.events.length ∧ (b=true → NM m m.roles.length m.stages.length k 0 0 0) ∧ st=⟨233,[(1,.op 0 0 0),(3,eB b),(8,eI (k:Int))],[(0,some (.box 32 (eMod m)))],1⟩) (fun st=>m.events.length - slotN st 8) ⟨_,wC,0,b,Nat.zero_le _,hI,rfl⟩ ?_
 clear hI b
 rintro _ ⟨k,b,hk,hI,rfl⟩
 by_cases hlt:k<m.events.length
 ·have hs:=hf.events _ (List.getElem_mem hlt)
  obtain ⟨x,hx,hxp⟩:=sets_E2 m m.events[k].sets (by omega)
  (repeat' (first|refine go ?_|simp only [row_at,hlt] | exact .intro | refine sp (fun _=>?_) fun _=>?_))
  all_goals first | with_reducible exact rI wC ⟨k+1,false,by omega,(fun h=>by cases h),rfl⟩ | skip
  refine callV (in_A _ _) ?_
  (repeat' (first|refine go ?_|simp only [row_at,hlt] | exact .intro | refine sp (fun _=>?_) fun _=>?_))
  all_goals first | with_reducible exact rI wC ⟨k+1,false,by omega,(fun h=>by cases h),rfl⟩ | skip
  refine callV (in_A _ _) ?_
  (repeat' (first|refine go ?_|simp only [row_at,hlt] | exact .intro | refine sp (fun _=>?_) fun _=>?_))
  all_goals first | with_reducible exact rI wC ⟨k+1,false,by omega,(fun h=>by cases h),rfl⟩ | skip
  refine callV hx ?_
  (repeat' (first|refine go ?_|simp only [row_at,hlt] | exact .intro | refine sp (fun _=>?_) fun _=>?_))
  exact rI wC ⟨k+1,x,by omega,(fun h=>(hI (by assumption)).s3 hlt ⟨by assumption,by assumption,hxp h⟩),rfl⟩
 obtain rfl:k=m.events.length:=by omega
 (repeat' (first|refine go ?_|simp only [row_at,hlt] | exact .intro | refine sp (fun _=>?_) fun _=>?_))
 clear hk hlt
 refine aLoop_of (fun st=>∃ (k:Nat) (b:Bool),k≤m.guards.length ∧ (b=true → NM m m.roles.length m.stages.length m.events.length k 0 0) ∧ st=⟨233,[(1,.op 0 0 0),(3,eB b),(10,eI (k:Int))],[(0,some (.box 32 (eMod m)))],1⟩) (fun st=>m.guards.length - slotN st 10) ⟨_,wC,0,b,Nat.zero_le _,hI,rfl⟩ ?_
 clear hI b
 rintro _ ⟨k,b,hk,hI,rfl⟩
 by_cases hlt:k<m.guards.length
 ·have hs:=hf.guards _ (List.getElem_mem hlt)
  (repeat' (first|refine go ?_|simp only [row_at,hlt] | exact .intro | refine sp (fun _=>?_) fun _=>?_))
  all_goals first | with_reducible exact rI wC ⟨k+1,false,by omega,(fun h=>by cases h),rfl⟩ | skip
  refine callV (in_A _ _) ?_
  (repeat' (first|refine go ?_|simp only [row_at,hlt] | exact .intro | refine sp (fun _=>?_) fun _=>?_))
  all_goals first | with_reducible exact rI wC ⟨k+1,false,by omega,(fun h=>by cases h),rfl⟩ | skip
  ·refine callPB (check11F_A m m.guards[k].cond false (by omega)) fun x hx=>?_
   (repeat' (first|refine go ?_|simp only [row_at,hlt] | exact .intro | refine sp (fun _=>?_) fun _=>?_))
   exact rI wC ⟨k+1,x,by omega,(fun h=>(hI (by assumption)).s4 hlt ⟨by assumption,.inl (eq_of_beq (by assumption)),(hx h).1,fun i hi=>⟨((hx h).2 i hi).1,((hx h).2 i hi).2 rfl⟩⟩),rfl⟩
  ·refine callV (in_A _ _) ?_
   (repeat' (first|refine go ?_|simp only [row_at,hlt] | exact .intro | refine sp (fun _=>?_) fun _=>?_))
   all_goals first | with_reducible exact rI wC ⟨k+1,false,by omega,(fun h=>by cases h),rfl⟩ | skip
   refine callPB (check11F_A m m.guards[k].cond false (by omega)) fun x hx=>?_
   (repeat' (first|refine go ?_|simp only [row_at,hlt] | exact .intro | refine sp (fun _=>?_) fun _=>?_))
   exact rI wC ⟨k+1,x,by omega,(fun h=>(hI (by assumption)).s4 hlt ⟨by assumption,.inr (by assumption),(hx h).1,fun i hi=>⟨((hx h).2 i hi).1,((hx h).2 i hi).2 rfl⟩⟩),rfl⟩
 obtain rfl:k=m.guards.length:=by omega
 (repeat' (first|refine go ?_|simp only [row_at,hlt] | exact .intro | refine sp (fun _=>?_) fun _=>?_))
 clear hk hlt
 refine aLoop_of (fun st=>∃ (k:Nat) (b:Bool),k≤m.miles.length ∧ (b=true → NM m m.roles.length m.stages.length m.events.length m.guards.length k 0) ∧ st=⟨233,[(1,.op 0 0 0),(3,eB b),(12,eI (k:Int))],[(0,some (.box 32 (eMod m)))],1⟩) (fun st=>m.miles.length - slotN st 12) ⟨_,wC,0,b,Nat.zero_le _,hI,rfl⟩ ?_
 clear hI b
 rintro _ ⟨k,b,hk,hI,rfl⟩
 by_cases hlt:k<m.miles.length
 ·have hs:=hf.miles _ (List.getElem_mem hlt)
  (repeat' (first|refine go ?_|simp only [row_at,hlt] | exact .intro | refine sp (fun _=>?_) fun _=>?_))
  all_goals first | with_reducible exact rI wC ⟨k+1,false,by omega,(fun h=>by cases h),rfl⟩ | skip
  refine callV (in_A _ _) ?_
  (repeat' (first|refine go ?_|simp only [row_at,hlt] | exact .intro | refine sp (fun _=>?_) fun _=>?_))
  all_goals first | with_reducible exact rI wC ⟨k+1,false,by omega,(fun h=>by cases h),rfl⟩ | skip
  ·refine callPB (check11F_A m m.miles[k].cond false (by omega)) fun x hx=>?_
   (repeat' (first|refine go ?_|simp only [row_at,hlt] | exact .intro | refine sp (fun _=>?_) fun _=>?_))
   exact rI wC ⟨k+1,x,by omega,(fun h=>(hI (by assumption)).s5 hlt ⟨by assumption,.inl (eq_of_beq (by assumption)),(hx h).1,fun i hi=>⟨((hx h).2 i hi).1,((hx h).2 i hi).2 rfl⟩⟩),rfl⟩
  ·refine callV (in_A _ _) ?_
   (repeat' (first|refine go ?_|simp only [row_at,hlt] | exact .intro | refine sp (fun _=>?_) fun _=>?_))
   all_goals first | with_reducible exact rI wC ⟨k+1,false,by omega,(fun h=>by cases h),rfl⟩ | skip
   refine callPB (check11F_A m m.miles[k].cond false (by omega)) fun x hx=>?_
   (repeat' (first|refine go ?_|simp only [row_at,hlt] | exact .intro | refine sp (fun _=>?_) fun _=>?_))
   exact rI wC ⟨k+1,x,by omega,(fun h=>(hI (by assumption)).s5 hlt ⟨by assumption,.inr (by assumption),(hx h).1,fun i hi=>⟨((hx h).2 i hi).1,((hx h).2 i hi).2 rfl⟩⟩),rfl⟩
 obtain rfl:k=m.miles.length:=by omega
 (repeat' (first|refine go ?_|simp only [row_at,hlt] | exact .intro | refine sp (fun _=>?_) fun _=>?_))
 clear hk hlt
 refine aLoop_of (fun st=>∃ (k:Nat) (b:Bool),k≤m.sods.length ∧ (b=true → NM m m.roles.length m.stages.length m.events.length m.guards.length m.miles.length k) ∧ st=⟨233,[(1,.op 0 0 0),(3,eB b),(14,eI (k:Int))],[(0,some (.box 32 (eMod m)))],1⟩) (fun st=>m.sods.length - slotN st 14) ⟨_,wC,0,b,Nat.zero_le _,hI,rfl⟩ ?_
 clear hI b
 rintro _ ⟨k,b,hk,hI,rfl⟩
 by_cases hlt:k<m.sods.length
 ·(repeat' (first|refine go ?_|simp only [row_at,hlt] | exact .intro | refine sp (fun _=>?_) fun _=>?_))
  refine aDraw_quiet (by kernel_rfl) ?_
  (repeat' (first|refine go ?_|simp only [row_at,hlt] | exact .intro | refine sp (fun _=>?_) fun _=>?_))
  all_goals first | with_reducible exact rI wC ⟨k+1,false,by omega,(fun h=>by cases h),rfl⟩ | skip
  refine callD (in_A _ _) ?_
  (repeat' (first|refine go ?_|simp only [row_at,hlt] | exact .intro | refine sp (fun _=>?_) fun _=>?_))
  all_goals first | with_reducible exact rI wC ⟨k+1,false,by omega,(fun h=>by cases h),rfl⟩ | skip
  refine callD (in_A _ _) ?_
  (repeat' (first|refine go ?_|simp only [row_at,hlt] | exact .intro | refine sp (fun _=>?_) fun _=>?_))
  all_goals first | with_reducible exact rI wC ⟨k+1,false,by omega,(fun h=>by cases h),rfl⟩ | skip
  exact rI wC ⟨k+1,(m.sods[k].1 != m.sods[k].2),by omega,(fun h=>(hI (by assumption)).s6 hlt ⟨by assumption,by assumption,by simpa using h⟩),rfl⟩
 obtain rfl:k=m.sods.length:=by omega
 (repeat' (first|refine go ?_|simp only [row_at,hlt] | exact .intro | refine sp (fun _=>?_) fun _=>?_))
 exact retV ⟨_,rfl,fun h=>(hI h).named⟩
end
section
open Go.RowKit
def allS (m:Mod):List (Bool × Int):=(List.range m.guards.length).map (fun (k:Nat)=>(false,(k:Int))) ++ (List.range m.miles.length).map (fun (k:Nat)=>(true,(k:Int)))
theorem all12_A (m:Mod) (hg:m.guards.length≤1000) (hm:m.miles.length≤1000):ADet Tryz.prog 74 [.agg (eMod m)] (own 93 2 ((allS m).map eBI)):=by
 refine adet_of_code mixedT Tryz.func74 rfl (by decide) Tryz.ntmps74 Tryz.results74 rfl (own_ok _ _ _) ?_
 (repeat' (first|refine go ?_ | exact .intro | refine sp (fun _=>?_) fun _=>?_))
 refine aLoop_of (fun st=>∃ k:Nat,k≤m.guards.length ∧ st=⟨31,[(1,.op 0 0 0),(3,.osl 1),(8,eI (m.guards.length:Int)),(9,eI (k:Int))],[(0,some (.box 32 (eMod m))),(1,some (.row 93 2 (((List.range k).map fun (k:Nat)=>(false,(k:Int))).map eBI)))],2⟩) (fun st=>m.guards.length - slotN st 9) ⟨_,((weak_nil 3 93 2 (by simp only [ruW,ASt.get,aget,ASt.put,↓reduceIte,reduceCtorEq,Nat.reduceLT,Nat.reduceEqDiff,Nat.reduceAdd,Nat.reduceLeDiff,eq_self,implies_true,List.range_zero,List.map_nil])).trans (wS [0,1] @List.range_zero)),0,Nat.zero_le _,rfl⟩ ?_
 rintro _ ⟨k,hk,rfl⟩
 by_cases hlt:k<m.guards.length
 ·have et:((List.range (k+1)).map fun (k:Nat)=>(false,(k:Int))).map eBI=((List.range k).map fun (k:Nat)=>(false,(k:Int))).map eBI ++ [eBI (false,(k:Int))]:=by rw [List.range_succ];simp
  (repeat' (first|refine ge @hlt ?_ | exact .intro | refine sp (fun _=>?_) fun _=>?_))
  refine ⟨rfl,by simp;omega,rI (wS [0,3] et) ⟨k+1,by omega,rfl⟩⟩
 obtain rfl:k=m.guards.length:=by omega
 (repeat' (first|refine ge @hlt ?_ | exact .intro | refine sp (fun _=>?_) fun _=>?_))
 clear hk hlt
 refine aLoop_of (fun st=>∃ k:Nat,k≤m.miles.length ∧ st=⟨31,[(1,.op 0 0 0),(3,.osl 1),(20,eI (m.miles.length:Int)),(21,eI (k:Int))],[(0,some (.box 32 (eMod m))),(1,some (.row 93 2 (((List.range m.guards.length).map fun (k:Nat)=>(false,(k:Int))).map eBI ++ ((List.range k).map fun (k:Nat)=>(true,(k:Int))).map eBI)))],2⟩) (fun st=>m.miles.length - slotN st 21) ⟨_,(wS [0,1] @List.range_zero),0,Nat.zero_le _,rfl⟩ ?_
 rintro _ ⟨k,hk,rfl⟩
 by_cases hlt:k<m.miles.length
 ·have et:((List.range m.guards.length).map fun (k:Nat)=>(false,(k:Int))).map eBI ++ ((List.range (k+1)).map fun (k:Nat)=>(true,(k:Int))).map eBI=(((List.range m.guards.length).map fun (k:Nat)=>(false,(k:Int))).map eBI ++ ((List.range k).map fun (k:Nat)=>(true,(k:Int))).map eBI) ++ [eBI (true,(k:Int))]:=by rw [List.range_succ];simp
  (repeat' (first|refine ge @hlt ?_ | exact .intro | refine sp (fun _=>?_) fun _=>?_))
  refine ⟨rfl,by simp;omega,rI (wS [0,3] et) ⟨k+1,by omega,rfl⟩⟩
 obtain rfl:k=m.miles.length:=by omega
 (repeat' (first|refine ge @hlt ?_ | exact .intro | refine sp (fun _=>?_) fun _=>?_))
 exact aGives_own (by simp [ATab.get_cons,allS])
def thereM (m:Mod) (x:Bool × Int):Bool:=decide (0≤x.2) && decide (x.2<if x.1=true then (m.miles.length:Int) else (m.guards.length:Int))
theorem there_A (m:Mod) (b:Bool) (n:Int):ADet Tryz.prog 102 [.agg (eMod m),.agg [eB b,eI n]] (val (.bool (thereM m (b,n)))):=by
 refine adet_of_code mixedT Tryz.func102 rfl (by decide) Tryz.ntmps102 Tryz.results102 rfl (val_ok _) ?_
 cases b
 ·(repeat' (first|refine go ?_ | exact .intro | refine sp (fun _=>?_) fun _=>?_))
  all_goals (rename_i h;simp at h;simp [thereM];omega)
 ·(repeat' (first|refine go ?_ | exact .intro | refine sp (fun _=>?_) fun _=>?_))
  all_goals (rename_i h;simp at h;simp [thereM];omega)
def stgM (m:Mod) (x:Bool × Int):Int:=if x.1=true then (m.miles[x.2.toNat]?.map (·.stage)).getD 0 else (m.guards[x.2.toNat]?.map (·.stage)).getD 0
def cndM (m:Mod) (x:Bool × Int):List Inst:=if x.1=true then (m.miles[x.2.toNat]?.map (·.cond)).getD [] else (m.guards[x.2.toNat]?.map (·.cond)).getD []
theorem there_nat {m:Mod} {b:Bool} {n:Int} (h:thereM m (b,n)=true):∃ k:Nat,n=(k:Int) ∧ (b=true → k<m.miles.length) ∧ (b=false → k<m.guards.length):=by
 simp only [thereM,Bool.and_eq_true,decide_eq_true_eq] at h
 obtain ⟨h1,h2⟩:=h
 refine ⟨n.toNat,by omega,fun hb=>?_,fun hb=>?_⟩
 ·subst hb;simp at h2;omega
 ·subst hb;simp at h2;omega
theorem stage12_A (m:Mod) (b:Bool) (n:Int) (h:thereM m (b,n)=true):ADet Tryz.prog 136 [.agg (eMod m),.agg [eB b,eI n]] (val (.int .i64 (stgM m (b,n)))):=by
 refine adet_of_code mixedT Tryz.func136 rfl (by decide) Tryz.ntmps136 Tryz.results136 rfl (val_ok _) ?_
 obtain ⟨k,rfl,h1,h2⟩:=there_nat h
 cases b
 ·have hk:=h2 rfl
  have e:stgM m (false,(k:Int))=m.guards[k].stage:=by simp [stgM,hk]
  rw [e]
  (repeat' (first|refine go ?_|simp only [hk,row_at] | exact .intro | refine sp (fun _=>?_) fun _=>?_))
 ·have hk:=h1 rfl
  have e:stgM m (true,(k:Int))=m.miles[k].stage:=by simp [stgM,hk]
  rw [e]
  (repeat' (first|refine go ?_|simp only [hk,row_at] | exact .intro | refine sp (fun _=>?_) fun _=>?_))
theorem cond12_A (m:Mod) (b:Bool) (n:Int) (h:thereM m (b,n)=true):ADet Tryz.prog 105 [.agg (eMod m),.agg [eB b,eI n]] ⟨sInsts (cndM m (b,n)),[],0⟩:=by
 refine adet_of_code mixedT Tryz.func105 rfl (by decide) Tryz.ntmps105 Tryz.results105 rfl (⟨fun id o h=>(by cases h),trivial⟩) ?_
 obtain ⟨k,rfl,h1,h2⟩:=there_nat h
 cases b
 ·have hk:=h2 rfl
  have e:cndM m (false,(k:Int))=m.guards[k].cond:=by simp [cndM,hk]
  rw [e]
  (repeat' (first|refine go ?_|simp only [hk,row_at] | exact .intro | refine sp (fun _=>?_) fun _=>?_))
  exact gives_tree (by simp [AV.ren,AV.renL])
 ·have hk:=h1 rfl
  have e:cndM m (true,(k:Int))=m.miles[k].cond:=by simp [cndM,hk]
  rw [e]
  (repeat' (first|refine go ?_|simp only [hk,row_at] | exact .intro | refine sp (fun _=>?_) fun _=>?_))
  exact gives_tree (by simp [AV.ren,AV.renL])
theorem parents12_A (m:Mod) (hl:m.stages.length≤1000000):ADet Tryz.prog 168 [.agg (eMod m)] (own 3 1 ((pars m).map fun n=>[eI n])):=by
 refine adet_of_code mixedT Tryz.func168 rfl (by decide) Tryz.ntmps168 Tryz.results168 rfl (own_ok _ _ _) ?_
 (repeat' (first|refine go ?_ | exact .intro | refine sp (fun _=>?_) fun _=>?_))
 refine aLoop_of (fun st=>∃ k:Nat,k≤m.stages.length ∧ st=⟨20,[(3,.osl 0),(7,.sl 2 (m.stages.map eNI)),(8,eI m.stages.length),(9,eI (k:Int))],[(0,some (.row 3 1 ((m.stages.take k).map fun p=>[eI p.2])))],1⟩) (fun st=>m.stages.length - slotN st 9) ⟨_,((weak_nil 3 3 1 (by simp only [ruW,ASt.get,aget,ASt.put,↓reduceIte,reduceCtorEq,Nat.reduceLT,Nat.reduceEqDiff,Nat.reduceAdd,Nat.reduceLeDiff,eq_self,implies_true,List.take_zero,List.map_nil])).trans (wS [1] @List.take_zero.{0})),0,Nat.zero_le _,rfl⟩ ?_
 rintro _ ⟨k,hk,rfl⟩
 by_cases hlt:k<m.stages.length
 ·have et:(m.stages.take (k+1)).map (fun p=>[eI p.2])=(m.stages.take k).map (fun p=>[eI p.2]) ++ [[eI m.stages[k].2]]:=take_snoc _ _ hlt
  have el:((m.stages.take k).map fun p=>[eI p.2]).length+1≤1000000:=by simp;omega
  (repeat' (first|refine go ?_|simp only [row_at,hlt] | exact .intro | refine sp (fun _=>?_) fun _=>?_))
  refine ⟨rfl,by simp only [List.length_take];omega,rI (wS [3] et) ⟨k+1,by omega,rfl⟩⟩
 ·obtain rfl:k=m.stages.length:=by omega
  (repeat' (first|refine go ?_|simp only [row_at,hlt] | exact .intro | refine sp (fun _=>?_) fun _=>?_))
  exact aGives_own (by simp [ATab.get_cons,pars])
end
end
section
section
open Go.RowKit
theorem nAbove_A (l:List Int) (i:Int) (hl:l.length≤1073741824) (ho:∀ x ∈ l,ok64 x):ADet Tryz.prog 71 [sI l,eI i] (own 3 1 ((aboveL l i).map fun n=>[eI n])):=
 adet_of_list (enters_of Tryz.func71 rfl (by decide)) fun S w vs hS hn hv=>by
  obtain ⟨a,b,rfl⟩:=two_args hn
  obtain rfl:=rtc (hv 1 b _ rfl rfl)
  exact above_any l a i w hl (rt_ints (hv 0 a _ rfl rfl) hS ho)
def fstS {α:Type} (p:α → Bool) (l:List α):Int:=match l.findIdx? p with | some k=>(k:Int) | none=>-1
theorem fstS_at {α:Type} {p:α → Bool} {l:List α} {k:Nat} (hk:k<l.length) (h:p l[k]=true) (hn:∀ i (h:i<k),p (l[i]'(by omega))=false):fstS p l=(k:Int):=by
 have:l.findIdx? p=some k:=List.findIdx?_eq_some_iff_getElem.2 ⟨hk,h,fun j hj=>by simp [hn j hj]⟩
 unfold fstS
 rw [this]
theorem fstS_none {α:Type} {p:α → Bool} {l:List α} (h:∀ x ∈ l,p x=false):fstS p l = -1:=by
 have:l.findIdx? p=none:=List.findIdx?_eq_none_iff.2 h
 unfold fstS
 rw [this]
theorem fstS_cases {α:Type} (p:α → Bool) (l:List α):(fstS p l = -1 ∧ ∀ x ∈ l,p x=false) ∨ ∃ k:Nat,∃ h:k<l.length,fstS p l=(k:Int) ∧ p l[k]=true ∧ ∀ i (h:i<k),p (l[i]'(by omega))=false:=by
 unfold fstS
 cases hf:l.findIdx? p with
 | none=>exact .inl ⟨rfl,List.findIdx?_eq_none_iff.1 hf⟩
 | some k=>
  obtain ⟨h1,h2,h3⟩:=List.findIdx?_eq_some_iff_getElem.1 hf
  exact .inr ⟨k,h1,rfl,h2,fun i hi=>by simpa using h3 i hi⟩
theorem fstS_any {α:Type} (p:α → Bool) (l:List α):decide (0≤fstS p l)=l.any p:=by
 rcases fstS_cases p l with ⟨h1,h2⟩|⟨k,hk,h1,h2,_⟩
 ·rw [h1]
  symm
  simpa using h2
 ·rw [h1]
  have:l.any p=true:=List.any_eq_true.2 ⟨_,List.getElem_mem hk,h2⟩
  rw [this]
  simp
theorem index_A (l:List Int) (n:Int) (hl:l.length≤1000000):ADet Tryz.prog 134 [sI l,eI n] (val (.int .i64 (fstS (n == ·) l))):=by
 refine adet_of_code mixedT Tryz.func134 rfl (by decide) Tryz.ntmps134 Tryz.results134 rfl (val_ok _) ?_
 (repeat' (first|refine go ?_ | exact .intro | refine sp (fun _=>?_) fun _=>?_))
 refine aLoop_of (fun st=>∃ k:Nat,k≤l.length ∧ (∀ i (h:i<l.length),i<k → (n == l[i])=false) ∧ st=⟨19,[(0,sI l),(1,eI n),(7,eI (l.length:Int)),(8,eI (k:Int))],[],0⟩) (fun st=>l.length - slotN st 8) ⟨_,wC,0,Nat.zero_le _,fun i _ h=>by omega,rfl⟩ ?_
 rintro _ ⟨k,hk,hn,rfl⟩
 by_cases hlt:k<l.length
 ·(repeat' (first|refine go ?_|simp only [row_at,hlt] | exact .intro | refine sp (fun _=>?_) fun _=>?_))
  ·rename_i h
   rw [fstS_at hlt h fun i hi=>hn i (by omega) hi]
  ·rename_i h
   refine rI wC ⟨k+1,by omega,fun i hi h2=>?_,rfl⟩
   rcases Nat.lt_or_ge i k with h3|h3
   ·exact hn i hi h3
   ·obtain rfl:i=k:=by omega
    exact h
 ·obtain rfl:k=l.length:=by omega
  (repeat' (first|refine ge @hlt ?_ | exact .intro | refine sp (fun _=>?_) fun _=>?_))
  rw [fstS_none fun x hx=>by obtain ⟨i,hi,rfl⟩:=List.getElem_of_mem hx;exact hn i hi hi]
theorem contains_A (l:List Int) (n:Int) (hl:l.length≤1000000):ADet Tryz.prog 100 [sI l,eI n] (val (.bool (l.any (n == ·)))):=by
 refine adet_of_code mixedT Tryz.func100 rfl (by decide) Tryz.ntmps100 Tryz.results100 rfl (val_ok _) ?_
 (repeat' (first|refine go ?_ | exact .intro | refine sp (fun _=>?_) fun _=>?_))
 refine callV (index_A l n hl) ?_
 (repeat' (first|refine go ?_ | exact .intro | refine sp (fun _=>?_) fun _=>?_))
 rw [fstS_any]
theorem indexFiS_A (g:FuncId) (caps:List AV) (l:List (Inst)) (p:Inst → Bool) (hl:l.length≤1000000) (ht:treeL caps) (hp:∀ x ∈ l,ADet Tryz.prog g (.agg (eInst x) :: caps) (val (.bool (p x)))):ADet Tryz.prog 137 [sInsts l,.fn g caps] (val (.int .i64 (fstS p l))):=by
 refine adet_of_code mixedT Tryz.func137 rfl (by decide) Tryz.ntmps137 Tryz.results137 rfl (val_ok _) ?_
 have hlt0:AV.ltL 0 caps:=ltL_tree ht
 (repeat' (first|refine go ?_ | exact .intro | refine sp (fun _=>?_) fun _=>?_))
 refine aLoop_of (fun st=>∃ k:Nat,k≤l.length ∧ (∀ i (h:i<l.length),i<k → p l[i]=false) ∧ st=⟨19,[(0,sInsts l),(1,.fn g caps),(7,eI (l.length:Int)),(8,eI (k:Int))],[],0⟩) (fun st=>l.length - slotN st 8) ⟨_,(wE @hlt0),0,Nat.zero_le _,fun i _ h=>by omega,rfl⟩ ?_
 rintro _ ⟨k,hk,hn,rfl⟩
 by_cases hlt:k<l.length
 ·(repeat' (first|refine go ?_|simp only [row_at,hlt] | exact .intro | refine sp (fun _=>?_) fun _=>?_))
  refine callClo (args:=[_]) ht (hp _ (List.getElem_mem hlt)) ?_
  (repeat' (first|refine go ?_|simp only [row_at,hlt] | exact .intro | refine sp (fun _=>?_) fun _=>?_))
  ·rename_i h
   rw [fstS_at hlt h fun i hi=>hn i (by omega) hi]
  ·rename_i h
   refine rI (wE @hlt0) ⟨k+1,by omega,fun i hi h2=>?_,rfl⟩
   rcases Nat.lt_or_ge i k with h3|h3
   ·exact hn i hi h3
   ·obtain rfl:i=k:=by omega
    exact h
 ·obtain rfl:k=l.length:=by omega
  (repeat' (first|refine ge @hlt ?_ | exact .intro | refine sp (fun _=>?_) fun _=>?_))
  rw [fstS_none fun x hx=>by obtain ⟨i,hi,rfl⟩:=List.getElem_of_mem hx;exact hn i hi hi]
theorem containsFiS_A (g:FuncId) (caps:List AV) (l:List (Inst)) (p:Inst → Bool) (hl:l.length≤1000000) (ht:treeL caps) (hp:∀ x ∈ l,ADet Tryz.prog g (.agg (eInst x) :: caps) (val (.bool (p x)))):ADet Tryz.prog 104 [sInsts l,.fn g caps] (val (.bool (l.any p))):=by
 refine adet_of_code mixedT Tryz.func104 rfl (by decide) Tryz.ntmps104 Tryz.results104 rfl (val_ok _) ?_
 (repeat' (first|refine go ?_ | exact .intro | refine sp (fun _=>?_) fun _=>?_))
 refine callV (by simp only [List.map_cons,List.map_nil,dref];rw [show caps.map (dref2 [])=caps from dref2s_tree ht];exact indexFiS_A g caps l p hl ht hp) ?_
 (repeat' (first|refine go ?_ | exact .intro | refine sp (fun _=>?_) fun _=>?_))
 rw [fstS_any]
theorem indexFs_A (g:FuncId) (caps:List AV) (l:List (Bool × Int)) (p:Bool × Int → Bool) (hl:l.length≤1000000) (ht:treeL caps) (hp:∀ x ∈ l,ADet Tryz.prog g (.agg (eBI x) :: caps) (val (.bool (p x)))):ADet Tryz.prog 75 [.sl 2 (l.map eBI),.fn g caps] (val (.int .i64 (fstS p l))):=by
 refine adet_of_code mixedT Tryz.func75 rfl (by decide) Tryz.ntmps75 Tryz.results75 rfl (val_ok _) ?_
 have hlt0:AV.ltL 0 caps:=ltL_tree ht
 (repeat' (first|refine go ?_ | exact .intro | refine sp (fun _=>?_) fun _=>?_))
 refine aLoop_of (fun st=>∃ k:Nat,k≤l.length ∧ (∀ i (h:i<l.length),i<k → p l[i]=false) ∧ st=⟨19,[(0,.sl 2 (l.map eBI)),(1,.fn g caps),(7,eI (l.length:Int)),(8,eI (k:Int))],[],0⟩) (fun st=>l.length - slotN st 8) ⟨_,(wE @hlt0),0,Nat.zero_le _,fun i _ h=>by omega,rfl⟩ ?_
 rintro _ ⟨k,hk,hn,rfl⟩
 by_cases hlt:k<l.length
 ·(repeat' (first|refine go ?_|simp only [row_at,hlt] | exact .intro | refine sp (fun _=>?_) fun _=>?_))
  refine callClo (args:=[_]) ht (hp _ (List.getElem_mem hlt)) ?_
  (repeat' (first|refine go ?_|simp only [row_at,hlt] | exact .intro | refine sp (fun _=>?_) fun _=>?_))
  ·rename_i h
   rw [fstS_at hlt h fun i hi=>hn i (by omega) hi]
  ·rename_i h
   refine rI (wE @hlt0) ⟨k+1,by omega,fun i hi h2=>?_,rfl⟩
   rcases Nat.lt_or_ge i k with h3|h3
   ·exact hn i hi h3
   ·obtain rfl:i=k:=by omega
    exact h
 ·obtain rfl:k=l.length:=by omega
  (repeat' (first|refine ge @hlt ?_ | exact .intro | refine sp (fun _=>?_) fun _=>?_))
  rw [fstS_none fun x hx=>by obtain ⟨i,hi,rfl⟩:=List.getElem_of_mem hx;exact hn i hi hi]
theorem containsFs_A (g:FuncId) (caps:List AV) (l:List (Bool × Int)) (p:Bool × Int → Bool) (hl:l.length≤1000000) (ht:treeL caps) (hp:∀ x ∈ l,ADet Tryz.prog g (.agg (eBI x) :: caps) (val (.bool (p x)))):ADet Tryz.prog 77 [.sl 2 (l.map eBI),.fn g caps] (val (.bool (l.any p))):=by
 refine adet_of_code mixedT Tryz.func77 rfl (by decide) Tryz.ntmps77 Tryz.results77 rfl (val_ok _) ?_
 (repeat' (first|refine go ?_ | exact .intro | refine sp (fun _=>?_) fun _=>?_))
 refine callV (by simp only [List.map_cons,List.map_nil,dref];rw [show caps.map (dref2 [])=caps from dref2s_tree ht];exact indexFs_A g caps l p hl ht hp) ?_
 (repeat' (first|refine go ?_ | exact .intro | refine sp (fun _=>?_) fun _=>?_))
 rw [fstS_any]
end
section
open Go.RowKit
theorem above_lenS (l:List Int) (i:Int):(aboveL l i).length≤l.length:=by
 obtain ⟨m,p,h,_⟩:=up_end l i
 rw [h.len]
 have:=h.room
 omega
theorem pars_ok {m:Mod} (hp:∀ p ∈ m.stages,ok64 p.2):∀ x ∈ pars m,ok64 x:=fun x hx=>by
 obtain ⟨p,hp',rfl⟩:=List.mem_map.1 hx
 exact hp p hp'
def turnsM (m:Mod) (y:Bool × Int) (s:Int):Bool:=stgM m y == s || (y.1 && (aboveL (pars m) s).any (stgM m y == ·))
theorem turns_A (m:Mod) (b:Bool) (n s:Int) (hm:m.stages.length≤1000000) (hp:∀ p ∈ m.stages,ok64 p.2) (h:thereM m (b,n)=true):ADet Tryz.prog 138 [.agg (eMod m),.agg [eB b,eI n],eI s] (val (.bool (turnsM m (b,n) s))):=by
 refine adet_of_code mixedT Tryz.func138 rfl (by decide) Tryz.ntmps138 Tryz.results138 rfl (val_ok _) ?_
 have hpl:(pars m).length≤1000000:=by simp [pars];omega
 have hal:=above_lenS (pars m) s
 (repeat' (first|refine go ?_ | exact .intro | refine sp (fun _=>?_) fun _=>?_))
 refine callV (stage12_A m b n h) ?_
 (repeat' (first|refine go ?_ | exact .intro | refine sp (fun _=>?_) fun _=>?_))
 ·rename_i h1
  simp [turnsM,h1]
 ·rename_i h1 h2
  refine callO (parents12_A m hm) (.inr ints_plain) ?_
  (repeat' (first|refine go ?_ | exact .intro | refine sp (fun _=>?_) fun _=>?_))
  refine callO (nAbove_A (pars m) s (by omega) (pars_ok hp)) (.inr ints_plain) ?_
  (repeat' (first|refine go ?_ | exact .intro | refine sp (fun _=>?_) fun _=>?_))
  refine callV (contains_A _ _ (by omega)) ?_
  (repeat' (first|refine go ?_ | exact .intro | refine sp (fun _=>?_) fun _=>?_))
  subst h2
  simp only [turnsM,h1,Bool.false_or,Bool.true_and]
 ·rename_i h1 h2
  subst h2
  simp only [turnsM,h1,Bool.false_or,Bool.false_and]
def hearsM (m:Mod) (x:Inst) (y:Bool × Int):Bool:=
 if x.op=9 then turnsM m y x.n else if x.op=10 then (if y.1=true then y.2 == x.n else decide (0≤x.n) && decide (x.n<(m.miles.length:Int)) && (stgM m y == stgM m (true,x.n))) else false
theorem hears_A (m:Mod) (x:Inst) (b:Bool) (n:Int) (hm:m.stages.length≤1000000) (hm2:m.miles.length≤1000000) (hp:∀ p ∈ m.stages,ok64 p.2) (h:thereM m (b,n)=true):ADet Tryz.prog 107 [.agg (eMod m),.agg (eInst x),.agg [eB b,eI n]] (val (.bool (hearsM m x (b,n)))):=by
 refine adet_of_code mixedT Tryz.func107 rfl (by decide) Tryz.ntmps107 Tryz.results107 rfl (val_ok _) ?_
 obtain ⟨op,la,ln,ra,rn,xn,u⟩:=x
 (repeat' (first|refine go ?_ | exact .intro | refine sp (fun _=>?_) fun _=>?_))
 ·rename_i h1
  have h1:op=9:=by simpa using h1
  refine callV (turns_A m b n xn hm hp h) ?_
  (repeat' (first|refine go ?_ | exact .intro | refine sp (fun _=>?_) fun _=>?_))
  simp [hearsM,h1]
 ·rename_i h1 h2 h3
  have h1:op ≠ 9:=by simpa using h1
  have h2:op=10:=by simpa using h2
  simp [hearsM,h2,h3]
 ·rename_i h1 h2 h3
  have h1:op ≠ 9:=by simpa using h1
  have h2:op=10:=by simpa using h2
  have e0:hearsM m ⟨op,la,ln,ra,rn,xn,u⟩ (b,n)=(decide (0≤xn) && decide (xn<(m.miles.length:Int)) && (stgM m (b,n) == stgM m (true,xn))):=by simp [hearsM,h2,h3]
  rw [e0]
  by_cases hn:0≤xn ∧ xn<(m.miles.length:Int)
  ·obtain ⟨j,rfl⟩:∃ j:Nat,xn=(j:Int):=⟨xn.toNat,by omega⟩
   have hj:j<m.miles.length:=by omega
   refine aDraw_quiet (by kernel_rfl) ?_
   (repeat' (first|refine go ?_|simp only [row_at,hj] | exact .intro | refine sp (fun _=>?_) fun _=>?_))
   refine callD (stage12_A m b n h) ?_
   (repeat' (first|refine go ?_|simp only [row_at,hj] | exact .intro | refine sp (fun _=>?_) fun _=>?_))
   simp [stgM,hj]
  ·have hn2:decide (0≤xn)=false ∨ decide (xn<(m.miles.length:Int))=false:=by
    rcases Int.lt_or_le xn 0 with h|h
    ·left;simp;omega
    ·right;simp;omega
   rcases hn2 with hn2|hn2
   ·rw [hn2]
    refine aDraw_quiet (by kernel_rfl) ?_
    (repeat' (first|refine ge hn2 ?_ | exact .intro | refine sp (fun _=>?_) fun _=>?_))
    all_goals simp
   ·rw [hn2]
    refine aDraw_quiet (by kernel_rfl) ?_
    (repeat' (first|refine ge hn2 ?_ | exact .intro | refine sp (fun _=>?_) fun _=>?_))
    all_goals simp
 ·rename_i h1 h2
  have h1:op ≠ 9:=by simpa using h1
  have h2:op ≠ 10:=by simpa using h2
  simp [hearsM,h1,h2]
def behindM (m:Mod) (x y:Bool × Int):Bool:=
 if y.1=true then false else if x.1=true then stgM m x == stgM m y else decide (0≤stgM m x) && decide (stgM m x<(m.stages.length:Int)) && ((m.stages[(stgM m x).toNat]?.map (·.2)).getD 0 == stgM m y)
theorem behind_A (m:Mod) (bx:Bool) (nx:Int) (b:Bool) (n:Int) (hm:m.stages.length≤1000000) (hx:thereM m (bx,nx)=true) (h:thereM m (b,n)=true):ADet Tryz.prog 103 [.agg (eMod m),.agg [eB bx,eI nx],.agg [eB b,eI n]] (val (.bool (behindM m (bx,nx) (b,n)))):=by
 refine adet_of_code mixedT Tryz.func103 rfl (by decide) Tryz.ntmps103 Tryz.results103 rfl (val_ok _) ?_
 (repeat' (first|refine go ?_ | exact .intro | refine sp (fun _=>?_) fun _=>?_))
 refine callV (stage12_A m bx nx hx) ?_
 generalize hsx:stgM m (bx,nx)=sx
 (repeat' (first|refine go ?_ | exact .intro | refine sp (fun _=>?_) fun _=>?_))
 ·rename_i h1
  simp [behindM,h1]
 ·rename_i h1 h2
  refine callV (stage12_A m b n h) ?_
  (repeat' (first|refine go ?_ | exact .intro | refine sp (fun _=>?_) fun _=>?_))
  subst h1;subst h2
  simp [behindM,hsx]
 ·rename_i h1 h2
  subst h1;subst h2
  have e0:behindM m (false,nx) (false,n)=(decide (0≤sx) && decide (sx<(m.stages.length:Int)) && ((m.stages[sx.toNat]?.map (·.2)).getD 0 == stgM m (false,n))):=by simp [behindM,hsx]
  rw [e0]
  by_cases hn:0≤sx ∧ sx<(m.stages.length:Int)
  ·obtain ⟨j,rfl⟩:∃ j:Nat,sx=(j:Int):=⟨sx.toNat,by omega⟩
   have hj:j<m.stages.length:=by omega
   refine aDraw_quiet (by kernel_rfl) ?_
   (repeat' (first|refine go ?_|simp only [row_at,hj] | exact .intro | refine sp (fun _=>?_) fun _=>?_))
   refine callD (stage12_A m false n h) ?_
   (repeat' (first|refine go ?_|simp only [row_at,hj] | exact .intro | refine sp (fun _=>?_) fun _=>?_))
   simp [hj]
  ·have hn2:decide (0≤sx)=false ∨ decide (sx<(m.stages.length:Int))=false:=by
    rcases Int.lt_or_le sx 0 with h|h
    ·left;simp;omega
    ·right;simp;omega
   rcases hn2 with hn2|hn2
   ·rw [hn2]
    refine aDraw_quiet (by kernel_rfl) ?_
    (repeat' (first|refine ge hn2 ?_ | exact .intro | refine sp (fun _=>?_) fun _=>?_))
    all_goals simp
   ·rw [hn2]
    refine aDraw_quiet (by kernel_rfl) ?_
    (repeat' (first|refine ge hn2 ?_ | exact .intro | refine sp (fun _=>?_) fun _=>?_))
    all_goals simp
end
section
open Go.RowKit
theorem waits1_A (m:Mod) (x:Inst) (b:Bool) (n:Int) (hm:m.stages.length≤1000000) (hm2:m.miles.length≤1000000) (hp:∀ p ∈ m.stages,ok64 p.2) (h:thereM m (b,n)=true):ADet Tryz.prog 106 [.agg (eInst x),.rp (eMod m),.rp [eB b,eI n]] (val (.bool (hearsM m x (b,n)))):=by
 refine adet_of_code mixedT Tryz.func106 rfl (by decide) Tryz.ntmps106 Tryz.results106 rfl (val_ok _) ?_
 (repeat' (first|refine go ?_ | exact .intro | refine sp (fun _=>?_) fun _=>?_))
 refine callV (hears_A m x b n hm hm2 hp h) ?_
 (repeat' (first|refine go ?_ | exact .intro | refine sp (fun _=>?_) fun _=>?_))
def waitsM (m:Mod) (x y:Bool × Int):Bool:=thereM m x && thereM m y && (behindM m x y || (cndM m x).any fun i=>hearsM m i y)
theorem cndM_len {m:Mod} (hf:Fit m) (x:Bool × Int):(cndM m x).length≤80:=by
 unfold cndM
 split
 ·cases h:m.miles[x.2.toNat]? with
  | none=>simp
  | some g=>exact hf.miles g (List.mem_of_getElem? h)
 ·cases h:m.guards[x.2.toNat]? with
  | none=>simp
  | some g=>exact hf.guards g (List.mem_of_getElem? h)
theorem waits12_A (m:Mod) (bx:Bool) (nx:Int) (b:Bool) (n:Int) (hf:Fit m) (hp:∀ p ∈ m.stages,ok64 p.2):ADet Tryz.prog 79 [.agg (eMod m),.agg [eB bx,eI nx],.agg [eB b,eI n]] (val (.bool (waitsM m (bx,nx) (b,n)))):=by
 refine adet_of_code mixedT Tryz.func79 rfl (by decide) Tryz.ntmps79 Tryz.results79 rfl (val_ok _) ?_
 obtain ⟨hg,hm2,hm,-⟩:=id hf.sizes
 (repeat' (first|refine go ?_ | exact .intro | refine sp (fun _=>?_) fun _=>?_))
 refine callV (there_A m bx nx) ?_
 (repeat' (first|refine go ?_ | exact .intro | refine sp (fun _=>?_) fun _=>?_))
 ·rename_i h1
  simp at h1
  simp [waitsM,h1]
 rename_i h1
 have h1:thereM m (bx,nx)=true:=by simpa using h1
 refine callV (there_A m b n) ?_
 (repeat' (first|refine go ?_ | exact .intro | refine sp (fun _=>?_) fun _=>?_))
 ·rename_i h2
  simp at h2
  simp [waitsM,h2]
 rename_i h2
 have h2:thereM m (b,n)=true:=by simpa using h2
 refine callV (behind_A m bx nx b n (by omega) h1 h2) ?_
 (repeat' (first|refine go ?_ | exact .intro | refine sp (fun _=>?_) fun _=>?_))
 ·rename_i h3
  simp [waitsM,h1,h2,h3]
 rename_i h3
 refine callT (cond12_A m bx nx h1) (.inl (by simp [roL,roA,treeL,treeC])) ?_
 have hcl:=cndM_len hf (bx,nx)
 (repeat' (first|refine go ?_ | exact .intro | refine sp (fun _=>?_) fun _=>?_))
 refine callV (containsFiS_A 106 [.rp (eMod m),.rp [eB b,eI n]] (cndM m (bx,nx)) (fun i=>hearsM m i (b,n)) (by omega) ⟨trivial,trivial,trivial⟩ fun x _=>waits1_A m x b n (by omega) (by omega) hp h2) ?_
 (repeat' (first|refine go ?_ | exact .intro | refine sp (fun _=>?_) fun _=>?_))
 simp [waitsM,h1,h2,h3]
end
end
end Go.Proofs.YtcindbpnaicemaaGreat
