/-
  SimGoes: sim.Run goes as the document's Run goes.
-/
import Derived.Test.YtcindbpnaicemaaGreatSgq8
set_option linter.unusedVariables false
set_option linter.unusedSimpArgs false
namespace Go.Proofs.YtcindbpnaicemaaGreat
open Go.ChangeShapes Go.WideShapes Go.ChangeAt Go.RowKit

set_option maxRecDepth 100000 in
theorem simGoes_lifted (os:Os) (started:os.Started) (H:Type) (enc:TypeId × Value → H) :
    ReturnsInHanded {} Tryz.checked os 3 .any (Rows.simGoesSpec.pre6 enc Tryz.prog Tryz.f3 Rows.simGoesRow.domain false) (Rows.simGoesSpec.post enc Tryz.prog Tryz.f3 false true false false):=by
  refine returnsInHanded_of_change (C:=Tryz.checked) lawOwn started (by kernel_rfl) Tryz.func3
    (ChangeSpec.witness6 (enc:=enc) (C:=Tryz.checked) false ⟨#[],#[.agg #[.slice none 0 0,.slice none 0 0,.slice none 0 0,.slice none 0 0,.slice none 0 0,.slice none 0 0,.slice none 0 0,.slice none 0 0,.slice none 0 0,.slice none 0 0],.int .u64 0,.agg #[.int .u8 0,.int .u8 0]],[]⟩ 8 (by kernel_rfl) (by kernel_rfl) (by kernel_rfl) (by kernel_rfl)) ?_
  intro W base args ds gs before hval0 hW hcnd _
  have hval:∀ (j:Nat) t v,Tryz.f3.params[j]? = some t → args[j]? = some v → Value.okWide Tryz.prog W .any base t v:=hval0
  have hW':=hW
  obtain ⟨p,q,hA,_⟩:=hW'
  have hA':DataW.TrodAll enc Tryz.prog W 0 (fun _=>true) true Tryz.f3.params.toList args.toList ds p:=hA
  rw [Tryz.params3] at hA' hval
  obtain ⟨v0,vs0,d0,ds0,p0,q0,hargs,hds,_,h0,r0⟩:=trodAll_cons hA'
  obtain ⟨v1,vs1,d1,ds1,p1,q1,rfl,rfl,_,h1,r1⟩:=trodAll_cons r0
  obtain ⟨v2,vs2,d2,ds2,p2,q2,rfl,rfl,_,h2,r2⟩:=trodAll_cons r1
  obtain ⟨rfl,rfl,_⟩:=trodAll_nil r2
  obtain rfl:args = #[v0,v1,v2]:=by cases args;simp_all
  subst hds
  refine law_calls (by kernel_rfl) (by kernel_rfl) rfl hW (fun gs' h=>by subst h;rfl) ?_
  obtain ⟨fuel_m,hf_m⟩:=h0
  obtain ⟨cs_m,rfl,_⟩:=okWide_struct Tryz.underlying32 (hval 0 32 _ rfl rfl)
  obtain ⟨V_m,m,rfl,h_m⟩:=open_mod hf_m
  obtain ⟨s,rfl,rfl,rfl,ok_s⟩:=open_int Tryz.underlying33 (hval 1 33 _ rfl rfl) h1
  obtain ⟨fuel_a,hf_a⟩:=h2
  obtain ⟨cs_a,rfl⟩:=okWide_arr Tryz.underlying34 (hval 2 34 _ rfl rfl)
  obtain ⟨⟨x0,x1⟩,h_a⟩:=opensU8s H enc W _ _ _ hf_a
  obtain ⟨rfl,⟨a,ea,ha⟩,⟨b,eb,hb⟩⟩:=u8s_inv h_a
  have ea:x0=(a:Int):=ea
  have eb:x1=(b:Int):=eb
  subst ea;subst eb
  refine (simGoes_A m s a b (mod_conds h_m) (mod_pars h_m) (mod_inits h_m) (mod_roles h_m) (mod_times h_m) (wf_uV ok_s) ha hb).calls rfl fun j v av h3 h4=>?_
  match j with
  | 0=>simp at h3 h4;subst h3;subst h4;exact rt_mod h_m
  | 1=>simp at h3 h4;subst h3;subst h4;exact .c _
  | 2=>simp at h3 h4;subst h3;subst h4;exact rt_cells _
  | j+3=>simp at h3

theorem simGoes_holds:Rows.SimGoesSaid:=
  OpenClaim.holds_of_wide 3 Tryz.f3 rfl rfl rfl rfl rfl rfl rfl ⟨rfl,rfl,rfl,rfl,rfl⟩ rfl rfl rfl rfl rfl (by kernel_rfl) Tryz.func3 (by kernel_rfl)
    (of_decide_eq_true (by kernel_rfl)) (by unfold Func.isWrapper;first | (rw [if_pos (by decide +kernel)];kernel_rfl) | (rw [if_neg (by decide +kernel)];exact ⟨rfl,rfl⟩))
    (fun os started H enc _=>simGoes_lifted os started H enc)
#print axioms simGoes_holds
end Go.Proofs.YtcindbpnaicemaaGreat
