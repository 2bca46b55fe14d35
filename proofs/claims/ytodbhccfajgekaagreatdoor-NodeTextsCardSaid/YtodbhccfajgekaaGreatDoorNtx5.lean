/-
  Parts of the proof: NestSpec, Law, Nest, CL, W4, W2, NestB, NestC, NestD, EvTree, EvTree2, EvAsk, EvAsk2.
-/
import Derived.Test.YtodbhccfajgekaaGreatDoorNtx4
import Derived.WalkKit
import Derived.Test.YtodbhccfajgekaaGreatDoorRows
import Derived.ProofKit
import Derived.OpenShut
import Derived.SizedLaws
import Derived.WalkSpells
import Derived.ScopeJumps
import Derived.WalkMore
import Derived.WalkLawsBesides
import Derived.Handy
import Derived.Deep.DeepCutAuto
import Derived.Deep.CutBlock
import Derived.BigQuiet
import Derived.Deep.QuietTactic
import Derived.Lib.ItoaNum
import Derived.Lib.Join
import Derived.Deep.AppendLies
import Derived.Deep.RegionLaw
import Derived.IntWalk
import Derived.Deep.RegionHeld3
import Derived.Deep.RegionHeld2
import Derived.Deep.DrawnRows
set_option linter.unusedVariables false
set_option linter.unusedSimpArgs false
namespace Go.Proofs.YtodbhccfajgekaaGreatDoor
section
theorem nodup_len : ∀ (n : Nat) (l : List Int), l.Nodup → (∀ x ∈ l, 0 ≤ x ∧ x < (n : Int)) → l.length ≤ n := by
  intro n
  induction n with
  | zero =>
    intro l _ h
    cases l with
    | nil => simp
    | cons x l => have := h x (by simp); omega
  | succ n ih =>
    intro l hn h
    by_cases hm : (n : Int) ∈ l
    · have h1 := ih (l.erase (n : Int)) (hn.erase _) (fun x hx => by
        have := (hn.mem_erase_iff).1 hx
        have := h x this.2
        omega)
      rw [List.length_erase_of_mem hm] at h1
      omega
    · have := ih l hn (fun x hx => by
        have h2 := h x hx
        have : x ≠ (n : Int) := fun e => hm (e ▸ hx)
        omega)
      omega

/-- is it a place? -/
def isAt (l : List Int) (i : Int) : Prop := 0 ≤ i ∧ i < (l.length : Int)
instance (l : List Int) (i : Int) : Decidable (isAt l i) := by unfold isAt; infer_instance
/-- the place itself; -1: it is none -/
def norm (l : List Int) (i : Int) : Int := if isAt l i then i else -1
/-- the place that a place lies in; -1: none -/
def par (l : List Int) (i : Int) : Int := if isAt l i then norm l (l.getD i.toNat 0) else -1
def upN (l : List Int) (i : Int) : Nat → Int
  | 0 => norm l i
  | k + 1 => par l (upN l i k)
/-- the places above, so many at the most -/
def goUp (l : List Int) (i : Int) : Nat → Int → List Int → List Int
  | 0, _, out => out
  | f + 1, p, out => if par l p = -1 ∨ par l p = i ∨ par l p ∈ out then out else goUp l i f (par l p) (out ++ [par l p])
def aboveL (l : List Int) (i : Int) : List Int := goUp l i l.length i []

theorem norm_cases (l : List Int) (i : Int) : (isAt l i ∧ norm l i = i) ∨ (¬ isAt l i ∧ norm l i = -1) := by
  unfold norm; split <;> simp [*]
theorem norm_at (l : List Int) (i : Int) : norm l i = -1 ∨ isAt l (norm l i) := by
  rcases norm_cases l i with ⟨h, e⟩ | ⟨_, e⟩ <;> rw [e]
  · exact .inr h
  · exact .inl rfl
theorem par_at (l : List Int) (i : Int) : par l i = -1 ∨ isAt l (par l i) := by
  unfold par; split
  · exact norm_at _ _
  · exact .inl rfl
theorem par_norm (l : List Int) (i : Int) : par l (norm l i) = par l i := by
  rcases norm_cases l i with ⟨h, e⟩ | ⟨h, e⟩
  · rw [e]
  · rw [e]; unfold par; rw [if_neg h, if_neg (by simp [isAt])]
theorem upN_one (l : List Int) (i : Int) : upN l i 1 = par l i := par_norm l i

/-- the state of the way up: so many places told, all unlike, none the first one -/
structure UpAt (l : List Int) (i : Int) (m : Nat) (p : Int) (out : List Int) : Prop where
  len : out.length = m
  eq : ∀ j, j < m → out[j]? = some (upN l i (j + 1))
  cur : par l p = upN l i (m + 1)
  nodup : out.Nodup
  at_ : ∀ x ∈ out, isAt l x
  not : i ∉ out
  room : m ≤ l.length
  rest : goUp l i (l.length - m) p out = aboveL l i
theorem UpAt.start (l : List Int) (i : Int) : UpAt l i 0 i [] :=
  ⟨rfl, fun j h => by omega, (upN_one l i).symm, List.nodup_nil, fun x h => by simp at h, by simp, by omega, rfl⟩
def stops (l : List Int) (i : Int) (p : Int) (out : List Int) : Prop := par l p = -1 ∨ par l p = i ∨ par l p ∈ out
instance (l : List Int) (i p : Int) (out : List Int) : Decidable (stops l i p out) := by unfold stops; infer_instance
theorem UpAt.stop {l : List Int} {i : Int} {m : Nat} {p : Int} {out : List Int} (h : UpAt l i m p out) (hs : stops l i p out) : out = aboveL l i := by
  rw [← h.rest]
  cases l.length - m with
  | zero => rfl
  | succ f => rw [goUp]; exact (if_pos hs).symm
theorem UpAt.next {l : List Int} {i : Int} {m : Nat} {p : Int} {out : List Int} (h : UpAt l i m p out) (hs : ¬ stops l i p out) : UpAt l i (m + 1) (par l p) (out ++ [par l p]) ∧ m + 1 ≤ l.length := by
  unfold stops at hs
  simp only [not_or] at hs
  have hat : isAt l (par l p) := (par_at l p).resolve_left hs.1
  have hnd : (out ++ [par l p]).Nodup := by
    rw [List.nodup_append]
    refine ⟨h.nodup, by simp, fun a ha b hb e => ?_⟩
    simp at hb
    subst hb; subst e
    exact hs.2.2 ha
  have hall : ∀ x ∈ out ++ [par l p], isAt l x := by
    intro x hx
    rcases List.mem_append.1 hx with hx | hx
    · exact h.at_ x hx
    · simp at hx; subst hx; exact hat
  have hlen : m + 1 ≤ l.length := by
    have := nodup_len l.length _ hnd hall
    simp [h.len] at this
    exact this
  refine ⟨⟨by simp [h.len], fun j hj => ?_, by rw [show upN l i (m + 1 + 1) = par l (upN l i (m + 1)) from rfl, h.cur], hnd, hall, ?_, hlen, ?_⟩, hlen⟩
  · by_cases hjm : j < m
    · rw [List.getElem?_append_left (by rw [h.len]; exact hjm)]; exact h.eq j hjm
    · have : j = m := by omega
      subst this
      rw [List.getElem?_append_right (by rw [h.len]; omega), h.len, Nat.sub_self]
      simp [h.cur]
  · intro hi
    rcases List.mem_append.1 hi with hi | hi
    · exact h.not hi
    · simp at hi; exact hs.2.1 hi.symm
  · have := h.rest
    rw [show l.length - m = (l.length - (m + 1)) + 1 from by omega, goUp, if_neg (by simp only [not_or]; exact hs)] at this
    exact this
/-- the way up ends -/
theorem up_end (l : List Int) (i : Int) : ∃ m p, UpAt l i m p (aboveL l i) ∧ stops l i p (aboveL l i) := by
  have key : ∀ (f m : Nat) (p : Int) (out : List Int), UpAt l i m p out → l.length + 1 - m ≤ f → ∃ m p, UpAt l i m p (aboveL l i) ∧ stops l i p (aboveL l i) := by
    intro f
    induction f with
    | zero => intro m p out h hf; have := h.room; omega
    | succ f ih =>
      intro m p out h hf
      by_cases hs : stops l i p out
      · have e := h.stop hs
        rw [e] at h hs
        exact ⟨m, p, h, hs⟩
      · have := (h.next hs).1
        exact ih _ _ _ this (by omega)
  exact key _ 0 i [] (UpAt.start l i) (Nat.le_refl _)

/-- does the way up come back to where it began? -/
def circ (l : List Int) (i : Int) : Prop := isAt l i ∧ par l (((aboveL l i).getLast?).getD i) = i
instance (l : List Int) (i : Int) : Decidable (circ l i) := by unfold circ; infer_instance
def belowL (l : List Int) (i : Int) : List Int := if isAt l i then (((List.range l.length).filter fun (k : Nat) => decide ((k : Int) ≠ i ∧ i ∈ aboveL l (k : Int))).map fun (k : Nat) => (k : Int)) else []
def isL (l : List Int) (a i : Int) : Prop := ∃ j, 1 ≤ j ∧ j ≤ l.length ∧ 0 ≤ a ∧ upN l i j = a
end
section
open Go.ChangeShapes Go.WideShapes Go.ChangeAt Go.RowKit

theorem lawOwn : ownKnob Tryz.prog.godebug = none := by kernel_rfl
theorem lawLaid : laidOutB Tryz.prog = true := by kernel_rfl
theorem lawBool : Tryz.prog.underlying 4 = some .bool := Tryz.underlying4

theorem trodAll_below {H : Type} {enc : TypeId × Value → H} {P : Program} (hl : laidOutB P = true) {W W' : World} (hb : Below W.heap.size W W') (sp : Nat → Bool) :
    ∀ {ts : List TypeId} {vs : List Value} {ds : List (DataW H)} {ps : List MemPlace}, (ts.all fun t => P.readableRec t && decide (t < P.types.size)) = true →
      DataW.TrodAll enc P W 0 (fun _ => true) true ts vs ds ps → (∀ x ∈ ps, x.block < W.heap.size) → (∀ p ∈ ps, sp p.block = true) → DataW.TrodAll enc P W' 0 sp true ts vs ds ps
  | [], [], [], _, _, h, _, _ => h
  | t :: ts, v :: vs, d :: ds, ps, ht, h, hlt, hs => by
    obtain ⟨p, q, h1, h2, rfl⟩ := h
    simp only [List.all_cons, Bool.and_eq_true, decide_eq_true_eq] at ht
    refine ⟨p, q, WideElems.Trod_stays hl ht.1.1 ht.1.2 h1 (fun x hx => hb.same (hlt x (List.mem_append.2 (.inl hx)))) (fun x hx => hs x (List.mem_append.2 (.inl hx))), ?_, rfl⟩
    exact trodAll_below hl hb sp (by simpa using ht.2) h2 (fun x hx => hlt x (List.mem_append.2 (.inr hx))) (fun x hx => hs x (List.mem_append.2 (.inr hx)))
  | [], [], _ :: _, _, _, h, _, _ => h.elim
  | [], _ :: _, _, _, _, h, _, _ => h.elim
  | _ :: _, [], _, _, _, h, _, _ => h.elim
  | _ :: _, _ :: _, [], _, _, h, _, _ => h.elim

theorem law_calls {H : Type} {enc : TypeId × Value → H} {f : Func} {s : ChangeSpec} {fid : FuncId} {W : World} {args : Array Value} {ds gs : List (DataW H)} {before : List MemPlace}
    (hts : (f.params.toList.all fun t => Tryz.prog.readableRec t && decide (t < Tryz.prog.types.size)) = true) (hrt : f.resultTypes = #[4]) (hsv : s.vars = [])
    (hW : DataW.Whole enc Tryz.prog f.params.toList s.vars false W args.toList ds gs before)
    (hfn : ∀ gs', gs' = [] → s.fn H (ds ++ gs') = { results := [.lit (.bool true)], args := ds })
    (hc : Calls Tryz.prog fid args W fun e W' => e = .returned (.bool true) ∧ Below W.heap.size W W') :
    Calls Tryz.prog fid args W fun e W' => ∃ v, e = .returned v ∧ s.post enc Tryz.prog f false true false false W args v W' := by
  refine hc.mono fun e W' ⟨he, hb⟩ => ⟨_, he, ?_⟩
  have hW' := hW
  obtain ⟨p, q, hA, hV, rfl, hfz, hnd⟩ := hW
  rw [hsv] at hV
  obtain ⟨rfl, rfl⟩ := trodVars_none hV
  have hlt : ∀ x ∈ p, x.block < W.heap.size := fun x hx => hW'.lt x (List.mem_append.2 (.inl hx))
  have e1 := hfn [] rfl
  refine ⟨ds, [], p ++ [], [], p, [], hW', ?_, ?_, ?_, hb.frame _, fun h => by cases h⟩
  · rw [e1, hrt]
    exact trodAll_mk1 (shut_bool lawBool true)
  · rw [e1]
    exact trodAll_below lawLaid hb _ hts hA hlt (fun x hx => by simpa using hlt x hx)
  · rw [e1, hsv]
    rfl
end
section
open Go.RowKit

/-- a slice of ints reads as a list -/
def RI (w : World) (v : Value) (l : List Int) : Prop := (sliceR (intR .i64)).one w (fun b => b < w.heap.size) v l
theorem RI.below {w w' : World} {v : Value} {l : List Int} (h : RI w v l) (hb : Below w.heap.size w w') : RI w' v l := slice_mono (slice_below h hb fun b h => h) fun b h => Nat.lt_of_lt_of_le h hb.size
theorem RI.form {w : World} {v : Value} {l : List Int} (h : RI w v l) : ∃ A c, v = .slice A l.length c ∧ l.length ≤ c := by
  obtain ⟨A, c, h1, h2, _⟩ := slice_form h
  exact ⟨A, c, h1, h2⟩
theorem RI.at_ {w : World} {A : Option Addr} {n c : Nat} {l : List Int} (h : RI w (.slice A n c) l) {k : Nat} (hk : k < l.length) :
    ∃ b o, A = some ⟨b, o, none⟩ ∧ w.cell? ⟨b, o + k, none⟩ = some (.int .i64 (l.getD k 0)) ∧ -9223372036854775808 ≤ l.getD k 0 ∧ l.getD k 0 ≤ 9223372036854775807 := by
  obtain ⟨b, o, rfl, hb, _⟩ := slice_some h (by omega)
  have := ints_at h hk
  rw [List.getD, List.getElem?_eq_getElem hk]
  exact ⟨b, o, rfl, this⟩
theorem RI.own {w : World} {base : Nat} {v : Value} {n : Nat} {l : List Int} (h : w.ownsRow base 3 1 v n (l.map (Value.int .i64))) (hx : ∀ x ∈ l, -9223372036854775808 ≤ x ∧ x ≤ 9223372036854775807) : RI w v l :=
  slice_mono (slice_own1 (r := intR .i64) _ h rfl fun a ha => ⟨rfl, wf_i64_mk (hx a ha).1 (hx a ha).2⟩) fun b h => h.2

theorem intInfo : (Tryz.prog.info? 3).map (fun i => (i.zero, i.size, i.bytes)) = some (some (.int .i64 0), 1, 8) := by kernel_rfl
theorem one_new (w : World) (n : Int) (t : TypeId) : ∀ j u, [Value.int .i64 n][j]? = some u → (w.alloc (.cells #[.int .i64 n] t)).cell? ((⟨w.heap.size, 0, none⟩ : Addr).add j) = some u := cells_new w [.int .i64 n] t
theorem one_one (n : Int) : ∀ u ∈ [Value.int .i64 n], u.oneCell' = true := by intro u hu; simp at hu; subst hu; rfl

set_option maxHeartbeats 400000 in
theorem index_any (l : List Int) (v : Value) (x : Int) (w : World) (hl : l.length ≤ 4294967296) (hv : RI w v l) :
    Calls Tryz.prog 109 #[v, .int .i64 x] w fun e w' => e = .returned (.int .i64 (((l.findIdx? (· == x)).map fun (n : Nat) => (n : Int)).getD (-1))) ∧ w = w' := by
  obtain ⟨A, c, rfl, hc⟩ := hv.form
  go_enter Tryz.func109, Tryz.ntmps109
  go_wp2_with fail
  go_loop [8] (fun i => ∃ k : Nat, k ≤ l.length ∧ i = .int .i64 (k : Int) ∧ ∀ y ∈ l.take k, ¬ y = x) (fun i => l.length - (intOf i).toNat)
  case atStart => exact ⟨0, Nat.zero_le _, rfl, fun y hy => by simp at hy⟩
  case round =>
    obtain ⟨k, hk, rfl, hno⟩ := hrel
    have Hno := hide hno
    clear hno
    by_cases hlt : k < l.length
    · obtain ⟨b, o, rfl, hcell, hb1, hb2⟩ := hv.at_ hlt
      have htk := hide (List.take_succ_eq_append_getElem hlt)
      have hgk : l.getD k 0 = l[k] := by rw [List.getD, List.getElem?_eq_getElem hlt]; rfl
      rw [hgk] at hcell
      have hfi : (∀ y ∈ l.take k, ¬ y = x) → l[k] = x → l.findIdx? (· == x) = some k := by
        intro h1 h2
        rw [List.findIdx?_eq_some_iff_getElem]
        refine ⟨hlt, by simpa using h2, fun j hj => ?_⟩
        have := h1 l[j] (List.mem_take_iff_getElem.2 ⟨j, by omega, rfl⟩)
        simpa using this
      have Hfi := hide hfi
      clear hgk hfi
      generalize l[k] = y at *
      by_cases hy : y = x
      · have h1 : (x == y) = true := by simp [hy]
        have HE := hide (Hfi.out Hno.out hy)
        clear hy
        go_wp2_with fail
        go_ret
        rw [HE.out]
        exact ⟨rfl, rfl⟩
      · have h1 : (x == y) = false := by simp; exact fun e => hy e.symm
        go_wp2_with fail
        go_round
        case rel =>
          refine ⟨k + 1, by omega, by go_num, fun z hz => ?_⟩
          rw [htk.out] at hz
          rcases List.mem_append.1 hz with hz | hz
          · exact Hno.out z hz
          · simp at hz; subst hz; exact hy
        case measure => simp [intOf]; omega
    · obtain rfl : k = l.length := by omega
      go_wp2_with fail
      go_ret
      have : l.findIdx? (· == x) = none := by
        rw [List.findIdx?_eq_none_iff]
        intro y hy
        have := Hno.out y (by rwa [List.take_length])
        simpa using this
      rw [this]
      exact ⟨rfl, rfl⟩

set_option maxHeartbeats 400000 in
theorem contains_any (l : List Int) (v : Value) (x : Int) (w : World) (hl : l.length ≤ 4294967296) (hv : RI w v l) :
    Calls Tryz.prog 84 #[v, .int .i64 x] w fun e w' => e = .returned (.bool (decide (x ∈ l))) ∧ w = w' := by
  have hcase : (∃ n : Nat, l.findIdx? (· == x) = some n ∧ x ∈ l) ∨ (l.findIdx? (· == x) = none ∧ x ∉ l) := by
    cases h : l.findIdx? (· == x) with
    | none =>
      right
      rw [List.findIdx?_eq_none_iff] at h
      exact ⟨rfl, fun hx => by have := h x hx; simp at this⟩
    | some n =>
      left
      rw [List.findIdx?_eq_some_iff_getElem] at h
      obtain ⟨h1, h2, _⟩ := h
      simp at h2
      exact ⟨n, rfl, by rw [← h2]; exact List.getElem_mem _⟩
  have hix := index_any l v x w hl hv
  rcases hcase with ⟨n, h1, h2⟩ | ⟨h1, h2⟩
  · rw [h1] at hix
    have Hix := hide hix
    clear hix h1
    go_enter Tryz.func84, Tryz.ntmps84
    go_wp2_with (go_at_call 109; refine Hix.out.mono ?_; rintro e w' ⟨rfl, rfl⟩; simp only [Option.map_some, Option.getD_some])
    go_ret
    exact ⟨by simp [h2], rfl⟩
  · rw [h1] at hix
    have Hix := hide hix
    clear hix h1
    go_enter Tryz.func84, Tryz.ntmps84
    go_wp2_with (go_at_call 109; refine Hix.out.mono ?_; rintro e w' ⟨rfl, rfl⟩; simp only [Option.map_none, Option.getD_none])
    go_ret
    exact ⟨by simp [h2], rfl⟩

/-- what nest.in hands back -/
def InPost (l : List Int) (i : Int) (w : World) (e : Ending) (w' : World) : Prop := (par l i = -1 ∧ e = .returned (.tuple #[.int .i64 0, .bool false]) ∨ isAt l (par l i) ∧ e = .returned (.tuple #[.int .i64 (par l i), .bool true])) ∧ w = w'
set_option maxHeartbeats 400000 in
theorem in_any (l : List Int) (v : Value) (i : Int) (w : World) (hl : l.length ≤ 4294967296) (hv : RI w v l) :
    Calls Tryz.prog 110 #[v, .int .i64 i] w (InPost l i w) := by
  obtain ⟨A, c, rfl, hc⟩ := hv.form
  by_cases h1 : isAt l i
  · obtain ⟨h1a, h1b⟩ := h1
    obtain ⟨k, rfl⟩ := Int.eq_ofNat_of_zero_le h1a
    have hk : k < l.length := by omega
    obtain ⟨b, o, rfl, hcell, hb1, hb2⟩ := hv.at_ hk
    have hp : par l (k : Int) = norm l (l.getD k 0) := by unfold par; rw [if_pos ⟨h1a, h1b⟩]; simp
    have hn := norm_cases l (l.getD k 0)
    rw [← hp] at hn
    have Hn := hide hn
    clear hn hp
    generalize l.getD k 0 = y at *
    by_cases h2 : 0 ≤ y
    · by_cases h3 : y < (l.length : Int)
      · have e : par l k = y := by
          rcases Hn.out with ⟨_, e⟩ | ⟨h, _⟩
          · exact e
          · exact absurd ⟨h2, h3⟩ h
        have E := hide e
        clear e
        go_enter Tryz.func110, Tryz.ntmps110
        go_wp2_with fail
        go_ret2
        refine ⟨.inr ⟨?_, ?_⟩, rfl⟩
        · rw [E.out]; exact ⟨h2, h3⟩
        · rw [E.out]; rfl
      · have e : par l k = -1 := by
          rcases Hn.out with ⟨h, _⟩ | ⟨_, e⟩
          · exact absurd h.2 h3
          · exact e
        have E := hide e
        clear e
        go_enter Tryz.func110, Tryz.ntmps110
        go_wp2_with fail
        go_ret2
        exact ⟨.inl ⟨E.out, rfl⟩, rfl⟩
    · have e : par l k = -1 := by
        rcases Hn.out with ⟨h, _⟩ | ⟨_, e⟩
        · exact absurd h.1 h2
        · exact e
      have E := hide e
      clear e
      go_enter Tryz.func110, Tryz.ntmps110
      go_wp2_with fail
      go_ret2
      exact ⟨.inl ⟨E.out, rfl⟩, rfl⟩
  · have e : par l i = -1 := by unfold par; rw [if_neg h1]
    have E := hide e
    clear e
    by_cases h2 : 0 ≤ i
    · have h3 : (l.length : Int) ≤ i := by
        unfold isAt at h1; omega
      go_enter Tryz.func110, Tryz.ntmps110
      go_wp2_with fail
      go_ret2
      exact ⟨.inl ⟨E.out, rfl⟩, rfl⟩
    · go_enter Tryz.func110, Tryz.ntmps110
      go_wp2_with fail
      go_ret2
      exact ⟨.inl ⟨E.out, rfl⟩, rfl⟩


/-- what a function that makes a list of ints hands back -/
def ListPost (L : List Int) (w : World) (e : Ending) (w' : World) : Prop := ∃ v, e = .returned v ∧ w'.ownsRow w.heap.size 3 1 v L.length (L.map (Value.int .i64)) ∧ Below w.heap.size w w'

theorem in_no (l : List Int) (v : Value) (i : Int) (w : World) (hl : l.length ≤ 4294967296) (hv : RI w v l) (h : par l i = -1) :
    Calls Tryz.prog 110 #[v, .int .i64 i] w fun e w' => e = .returned (.tuple #[.int .i64 0, .bool false]) ∧ w = w' :=
  (in_any l v i w hl hv).mono fun e w' ⟨hh, hw⟩ => by
    rcases hh with ⟨_, he⟩ | ⟨hat, _⟩
    · exact ⟨he, hw⟩
    · rw [h] at hat; exact absurd hat.1 (by omega)
theorem in_yes (l : List Int) (v : Value) (i y : Int) (w : World) (hl : l.length ≤ 4294967296) (hv : RI w v l) (h : par l i = y) (hy : isAt l y) :
    Calls Tryz.prog 110 #[v, .int .i64 i] w fun e w' => e = .returned (.tuple #[.int .i64 y, .bool true]) ∧ w = w' :=
  (in_any l v i w hl hv).mono fun e w' ⟨hh, hw⟩ => by
    rcases hh with ⟨hp, _⟩ | ⟨hat, he⟩
    · rw [h] at hp; exact absurd hy.1 (by omega)
    · rw [h] at he; exact ⟨he, hw⟩

def lenOf : Value → Nat | .slice _ n _ => n | _ => 0
/-- a scope that is gone through from a label again and again: what holds at the label suffices -/
theorem wp_scope_label {P : Program} {a : Act} {w : World} {Q : Exit → Act → World → Prop} {c X : Code} (l : Nat) (J : Act → World → Prop) (μ : Act → World → Nat) (hf : findLabel c l = some (Code.skip.seq X))
    (pass : ∀ a w, J a w → X.wp P (Exit.jump l (fun a' w' => J a' w' ∧ μ a' w' < μ a w) Q) a w)
    (first : (∀ a w, J a w → X.wp P (Exit.jump l J Q) a w) → c.wp P (Exit.jump l J Q) a w) : (Code.scope c).wp P Q a w := by
  refine wp_scope_jumps l J μ hf (first fun a w h => wp_mono (pass a w h) ?_) (fun a w h => ?_)
  · intro e a' w' hq
    cases e with
    | goto l' => exact ⟨hq.1, hq.2.1⟩
    | normal => exact hq
    | exit id => exact hq
    | ret => exact hq
    | panic ch => exact hq
    | outgrown => exact hq
  · exact wp_seq (wp_skip (pass a w h))

set_option maxHeartbeats 1000000 in
theorem above_any (l : List Int) (v : Value) (i : Int) (w : World) (hl : l.length ≤ 1073741824) (hv : RI w v l) :
    Calls Tryz.prog 85 #[v, .int .i64 i] w (ListPost (aboveL l i) w) := by
  obtain ⟨i0, hi0, hz0, hz1, hz2⟩ := info_parts intInfo
  have hl : l.length ≤ 4294967296 := by omega
  obtain ⟨A, c, rfl, hc⟩ := hv.form
  go_enter Tryz.func85, Tryz.ntmps85
  go_wp2_with fail
  refine wp_scope_label 0 (fun a' w' => ∃ (m : Nat) (q : Int) (out : List Int) (v' : Value) (u7 u8 u9 u10 u11 u12 u13 u14 u15 u16 u17 u18 u19 u20 u21 u22 u23 u24 u25 u26 u27 u28 u29 u30 u31 u32 u33 : Value),
      a' = { tmps := #[.slice A l.length c, .int .i64 i, undef, undef, .slice none 0 0, v', .int .i64 q, u7, u8, u9, u10, u11, u12, u13, u14, u15, u16, u17, u18, u19, u20, u21, u22, u23, u24, u25, u26, u27, u28, u29, u30, u31, u32, u33], defers := [] } ∧
      UpAt l i m q out ∧ w'.ownsRow w.heap.size 3 1 v' out.length (out.map (Value.int .i64)) ∧ Below w.heap.size w w') (fun a' w' => l.length + 1 - lenOf (a'.tmps.getD 5 undef)) (by rfl) ?_ ?_
  · rintro a' w1 ⟨m, q, out, v', u7, u8, u9, u10, u11, u12, u13, u14, u15, u16, u17, u18, u19, u20, u21, u22, u23, u24, u25, u26, u27, u28, u29, u30, u31, u32, u33, rfl, hup, hown, hb⟩
    have hat := hup.at_
    have hroom := hup.room
    have hlen := hup.len
    have hri : RI w1 v' out := RI.own hown (fun x hx => by have := hat x hx; unfold isAt at this; omega)
    have hl1 : out.length ≤ 4294967296 := by omega
    have hv1 := hv.below hb
    obtain ⟨A', c', rfl, hc'⟩ := hri.form
    have Hstop := hide (hup.stop)
    have Hnext := hide (hup.next)
    have Hlen := hide hlen
    have Hat := hide hat
    clear hat hlen
    rcases par_at l q with hp | hp
    · have hin := in_no l _ q w1 hl hv1 hp
      have Hin := hide hin
      have E := hide (Hstop.out (.inl hp))
      clear hin hp
      go_wp2_with (go_at_call 110; refine Hin.out.mono ?_; rintro e w2 ⟨rfl, rfl⟩)
      simp only [Exit.jump]
      go_ret
      rw [← E.out]
      exact ⟨_, rfl, hown, hb⟩
    · have hin := in_yes l _ q (par l q) w1 hl hv1 rfl hp
      have hpr : 0 ≤ par l q ∧ par l q < (l.length : Int) := hp
      have Hin := hide hin
      have hs1 : par l q = i → out = aboveL l i := fun h => Hstop.out (.inr (.inl h))
      have hs2 : par l q ∈ out → out = aboveL l i := fun h => Hstop.out (.inr (.inr h))
      have hs3 : par l q ≠ i → par l q ∉ out → UpAt l i (m + 1) (par l q) (out ++ [par l q]) ∧ m + 1 ≤ l.length := fun h1 h2 => Hnext.out (fun hh => by
        rcases hh with hh | hh | hh
        · have := hp.1; omega
        · exact h1 hh
        · exact h2 hh)
      have Hs1 := hide hs1
      have Hs2 := hide hs2
      have Hs3 := hide hs3
      clear hin hp hs1 hs2 hs3 Hstop Hnext
      generalize par l q = y at *
      cases h1 : (y == i) with
      | true =>
        have E := hide (Hs1.out (by simpa using h1))
        go_wp2_with (go_at_call 110; refine Hin.out.mono ?_; rintro e w2 ⟨rfl, rfl⟩)
        simp only [Exit.jump]
        go_ret
        rw [← E.out]
        exact ⟨_, rfl, hown, hb⟩
      | false =>
        have hne : y ≠ i := by simpa using h1
        have hcn := contains_any out _ y w1 hl1 hri
        by_cases h2 : y ∈ out
        · rw [show decide (y ∈ out) = true from decide_eq_true h2] at hcn
          have Hcn := hide hcn
          have E := hide (Hs2.out h2)
          clear hcn h2 hne
          go_wp2_with (first
            | (go_at_call 110; refine Hin.out.mono ?_; rintro e w2 ⟨rfl, rfl⟩)
            | (go_at_call 84; refine Hcn.out.mono ?_; rintro e w2 ⟨rfl, rfl⟩))
          simp only [Exit.jump]
          go_ret
          rw [← E.out]
          exact ⟨_, rfl, hown, hb⟩
        · rw [show decide (y ∈ out) = false from decide_eq_false h2] at hcn
          have Hcn := hide hcn
          have E := hide (Hs3.out hne h2)
          clear hcn h2 hne
          have hB := hb.size
          go_wp2_with (first
            | (go_at_call 110; refine Hin.out.mono ?_; rintro e w2 ⟨rfl, rfl⟩)
            | (go_at_call 84; refine Hcn.out.mono ?_; rintro e w2 ⟨rfl, rfl⟩)
            | (at_builtin; refine wpList_append_own _ rfl (.tmp 29) (.tmp 31) 23 rfl w.heap.size 3 i0 _ 1 8 Tryz.underlying23 hi0 hz0 hz1 hz2 rfl (by omega) _ out.length _ rfl (hown.alloc _) ⟨w1.heap.size, 0, none⟩ 1 1 [.int .i64 y] rfl rfl (one_new _ _ _) (one_one _) (by unfold maxLen; omega) (by omega) (by simp; omega) ?_; intro v2 w2 hown2 hg2 _))
          go_step3
          obtain ⟨e1, e2⟩ := E.out
          have hb2 := (hb.alloc hb.size (.cells #[.int .i64 y] 3)).grown hg2 (by simp; omega) (fun g hg => (hown.lt g hg).1)

          refine ⟨rfl, ⟨m + 1, y, out ++ [y], v2, _, _, _, _, _, _, _, _, _, _, _, _, _, _, _, _, _, _, _, _, _, _, _, _, _, _, _, rfl, e1, ?_, hb2⟩, ?_⟩
          · have := hown2
            rw [List.length_append, List.map_append]
            exact this
          · obtain ⟨A2, c2, rfl, _⟩ := own_form hown2
            show l.length + 1 - (out.length + 1) < l.length + 1 - out.length
            have := Hlen.out
            omega
  · intro hpass
    go_wp2
    go_step3
    rename_i hK
    exact hK _ _ (hpass _ _ ⟨0, i, [], _, _, _, _, _, _, _, _, _, _, _, _, _, _, _, _, _, _, _, _, _, _, _, _, _, _, _, _, rfl, UpAt.start l i, World.ownsRow_nil _ _ _ _, Below.refl _ _⟩)
end
section
open Go.RowKit
theorem rt_ints {w : World} {S : Nat → Prop} {v : Value} {l : List Int} (h : RT w S v (sI l)) (hS : SOk w S) (hl : ∀ x ∈ l, ok64 x) : RI w v l := by
  obtain ⟨A, cap, rfl, hc, hm, _, hA⟩ := h.sl_inv
  refine ⟨A, cap, by simp, by simpa using hc, hm, fun h0 => ?_⟩
  obtain ⟨b, o, rfl, hb, U, hcell, hr, _⟩ := hA (by simpa using h0)
  refine ⟨b, o, rfl, hS b hb, fun i hi => ⟨[.int .i64 l[i]], fun j u hu => ?_, rfl, ?_⟩⟩
  · have h1 : (l.map fun n => [eI n])[i]? = some [eI l[i]] := by simp [hi]
    have h2 := hcell i 0 _ _ h1 rfl
    have h3 := rtc (hr i 0 _ _ h1 rfl)
    cases j with
    | zero =>
      simp at hu
      subst hu
      rw [h3] at h2
      simpa [intR] using h2
    | succ j => simp at hu
  · have := hl _ (List.getElem_mem hi)
    exact wf_i64_mk this.1 this.2
theorem adet_of_list {f : FuncId} {args : List AV} {l : List Int} (he : Enters Tryz.prog f)
    (h : ∀ (S : Nat → Prop) (w : World) (vs : Array Value), SOk w S → vs.size = args.length → (∀ (j : Nat) (v : Value) (av : AV), vs[j]? = some v → args[j]? = some av → RT w S v av) → Calls Tryz.prog f vs w (ListPost l w)) : ADet Tryz.prog f args (own 3 1 (l.map fun n => [eI n])) :=
  ⟨he, fun S w vs h1 h2 h3 => (h S w vs h1 h2 h3).mono fun e w' ⟨v, h4, h5, h6⟩ => by
    have hget : ∀ id o, (own 3 1 (l.map fun n => [eI n])).tab.get id = some o → id = 0 ∧ o = .row 3 1 (l.map fun n => [eI n]) := fun id o ho => by
      simp only [own, ATab.get_cons] at ho
      split at ho
      · cases ho
        exact ⟨by assumption, rfl⟩
      · cases ho
    refine ⟨v, fun _ => v, _, rfl, own_ok .., h4, ⟨belowX h6, fun id o ho => ?_, fun id id' o o' g h7 h8 _ _ => ?_, fun b hb => hb.elim⟩, .osl _ _ fun sz u hk => ?_⟩
    · obtain ⟨_, rfl⟩ := hget id o ho
      refine ⟨fun row hr => ?_, _, by rw [List.length_map]; exact ownsR_of h5, fun x hx => ?_, fun i j row av ha hb => ?_⟩
      · obtain ⟨n, _, rfl⟩ := List.mem_map.1 hr
        rfl
      · obtain ⟨n, _, rfl⟩ := List.mem_map.1 hx
        rfl
      · rw [List.getElem?_map] at ha
        cases hi : l[i]? with
        | none => simp [hi] at ha
        | some n =>
          simp [hi] at ha
          subst ha
          cases j with
          | zero =>
            simp at hb
            subst hb
            exact ⟨.int .i64 n, by simp [hi], .c _⟩
          | succ j => simp at hb
    · rw [(hget id o h7).1, (hget id' o' h8).1]
    · unfold Kx at hk
      cases ho : (own 3 1 (l.map fun n => [eI n])).tab.get 0 with
      | none => simp [ho] at hk
      | some o => simp [ho] at hk; exact hk.2⟩
theorem two_args {vs : Array Value} (h : vs.size = 2) : ∃ a b, vs = #[a, b] := ⟨vs[0], vs[1], by apply Array.ext (by simpa using h); intro i h1 h2; simp at h2; match i with | 0 => rfl | 1 => rfl⟩
theorem gives_tree {r av : AV} {st : ASt} (h : r.ren [] = av) : aGives ⟨r, [], 0⟩ st av := ⟨[], List.nodup_nil, h, trivial⟩
end
section
open Go.RowKit
def valD (l : List UInt8) : Nat := l.foldl (fun n d => n * 10 + (d.toNat - 48)) 0
theorem dig_toNat {d : Nat} (h : d ≤ 9) : (UInt8.ofNat (48 + d)).toNat = 48 + d := by
  rw [UInt8.toNat_ofNat']
  omega
theorem dec_val : ∀ (k u : Nat), u ≤ k → valD (Lib.decDigits u) = u ∧ (∀ d ∈ Lib.decDigits u, 48 ≤ d.toNat ∧ d.toNat ≤ 57) ∧ Lib.decDigits u ≠ []
  | 0, u, h => by
    obtain rfl : u = 0 := by omega
    rw [Lib.decDigits, dif_pos (by omega)]
    refine ⟨rfl, fun d hd => ?_, by simp⟩
    rw [List.mem_singleton] at hd
    subst hd
    decide
  | k + 1, u, h => by
    rw [Lib.decDigits]
    split
    · rename_i hu
      refine ⟨?_, fun d hd => ?_, by simp⟩
      · show 0 * 10 + ((UInt8.ofNat (48 + u)).toNat - 48) = u
        rw [dig_toNat (by omega)]
        omega
      · rw [List.mem_singleton] at hd
        subst hd
        rw [dig_toNat (by omega)]
        omega
    · rename_i hu
      obtain ⟨h1, h2, h3⟩ := dec_val k (u / 10) (by omega)
      refine ⟨?_, fun d hd => ?_, by simp⟩
      · unfold valD at h1 ⊢
        rw [List.foldl_append, h1]
        show u / 10 * 10 + ((UInt8.ofNat (48 + u % 10)).toNat - 48) = u
        rw [dig_toNat (by omega)]
        omega
      · rcases List.mem_append.1 hd with hd | hd
        · exact h2 d hd
        · rw [List.mem_singleton] at hd
          subst hd
          rw [dig_toNat (by omega)]
          omega
theorem dec_inj {u v : Nat} (h : Lib.decDigits u = Lib.decDigits v) : u = v := by
  have h1 := (dec_val u u (Nat.le_refl _)).1
  have h2 := (dec_val v v (Nat.le_refl _)).1
  rw [h] at h1
  exact h1.symm.trans h2
theorem itoa_inj {n m : Int} (h : Lib.itoa n = Lib.itoa m) : n = m := by
  unfold Lib.itoa at h
  have no : ∀ (u : Nat) (l : List UInt8), Lib.decDigits u ≠ 45 :: l := fun u l he => by
    have h2 := (dec_val u u (Nat.le_refl _)).2.1 45 (by rw [he]; exact List.mem_cons_self ..)
    have : (45 : UInt8).toNat = 45 := rfl
    omega
  split at h <;> split at h
  · rw [List.cons.injEq] at h
    have := dec_inj h.2
    omega
  · exact absurd h.symm (no _ _)
  · exact absurd h (no _ _)
  · have := dec_inj h
    omega
theorem itoa_word (n : Int) : (∀ d ∈ Lib.itoa n, d ≠ 32) ∧ Lib.itoa n ≠ [] := by
  have key : ∀ u : Nat, (∀ d ∈ Lib.decDigits u, d ≠ 32) ∧ Lib.decDigits u ≠ [] := fun u => by
    obtain ⟨_, h2, h3⟩ := dec_val u u (Nat.le_refl _)
    exact ⟨fun d hd e => by
      have := h2 d hd
      rw [e] at this
      have e2 : (32 : UInt8).toNat = 32 := rfl
      omega, h3⟩
  unfold Lib.itoa
  split
  · refine ⟨fun d hd => ?_, by simp⟩
    rcases List.mem_cons.1 hd with rfl | hd
    · decide
    · exact (key _).1 d hd
  · exact key _
theorem word_inj {x y a b : List UInt8} (hx : ∀ d ∈ x, d ≠ 32) (hy : ∀ d ∈ y, d ≠ 32) (ha : a = [] ∨ ∃ l, a = 32 :: l) (hb : b = [] ∨ ∃ l, b = 32 :: l) (h : x ++ a = y ++ b) : x = y ∧ a = b := by
  induction x generalizing y with
  | nil =>
    cases y with
    | nil => exact ⟨rfl, h⟩
    | cons d y =>
      rcases ha with rfl | ⟨l, rfl⟩
      · simp at h
      · simp only [List.nil_append, List.cons_append, List.cons.injEq] at h
        exact absurd h.1.symm (hy d (List.mem_cons_self ..))
  | cons c x ih =>
    cases y with
    | nil =>
      rcases hb with rfl | ⟨l, rfl⟩
      · simp at h
      · simp only [List.nil_append, List.cons_append, List.cons.injEq] at h
        exact absurd h.1 (hx c (List.mem_cons_self ..))
    | cons d y =>
      simp only [List.cons_append, List.cons.injEq] at h
      obtain ⟨h1, h2⟩ := ih (fun e he => hx e (List.mem_cons_of_mem _ he)) (fun e he => hy e (List.mem_cons_of_mem _ he)) h.2
      exact ⟨by rw [h.1, h1], h2⟩
theorem tail_form (r : List (List UInt8)) : Lib.joinTail [32] r = [] ∨ ∃ l, Lib.joinTail [32] r = 32 :: l := by
  cases r with
  | nil => exact .inl rfl
  | cons x r => exact .inr ⟨x ++ Lib.joinTail [32] r, rfl⟩
theorem tail_inj : ∀ (r s : List (List UInt8)), (∀ x ∈ r, ∀ d ∈ x, d ≠ 32) → (∀ x ∈ s, ∀ d ∈ x, d ≠ 32) → Lib.joinTail [32] r = Lib.joinTail [32] s → r = s
  | [], [], _, _, _ => rfl
  | [], y :: s, _, _, h => by
    have : Lib.joinTail [32] (y :: s) = 32 :: (y ++ Lib.joinTail [32] s) := rfl
    rw [this] at h
    cases h
  | x :: r, [], _, _, h => by
    have : Lib.joinTail [32] (x :: r) = 32 :: (x ++ Lib.joinTail [32] r) := rfl
    rw [this] at h
    cases h
  | x :: r, y :: s, hr, hs, h => by
    have e1 : Lib.joinTail [32] (x :: r) = 32 :: (x ++ Lib.joinTail [32] r) := rfl
    have e2 : Lib.joinTail [32] (y :: s) = 32 :: (y ++ Lib.joinTail [32] s) := rfl
    rw [e1, e2, List.cons.injEq] at h
    obtain ⟨h1, h2⟩ := word_inj (hr x (List.mem_cons_self ..)) (hs y (List.mem_cons_self ..)) (tail_form r) (tail_form s) h.2
    rw [h1, tail_inj r s (fun z hz => hr z (List.mem_cons_of_mem _ hz)) (fun z hz => hs z (List.mem_cons_of_mem _ hz)) h2]
/-- numbers as a text -/
def numsT (l : List Int) : List UInt8 := Lib.join (l.map Lib.itoa) [32]
theorem numsT_cons (n : Int) (l : List Int) : numsT (n :: l) = Lib.itoa n ++ Lib.joinTail [32] (l.map Lib.itoa) := by
  unfold numsT
  rw [List.map_cons, Lib.join_cons]
theorem numsT_inj {n m : Int} {l k : List Int} (h : numsT (n :: l) = numsT (m :: k)) : n :: l = m :: k := by
  rw [numsT_cons, numsT_cons] at h
  obtain ⟨h1, h2⟩ := word_inj (itoa_word n).1 (itoa_word m).1 (tail_form _) (tail_form _) h
  have h3 := tail_inj _ _ (fun x hx => by obtain ⟨z, _, rfl⟩ := List.mem_map.1 hx; exact (itoa_word z).1) (fun x hx => by obtain ⟨z, _, rfl⟩ := List.mem_map.1 hx; exact (itoa_word z).1) h2
  rw [itoa_inj h1, (List.map_inj_right fun x y hxy => itoa_inj hxy).1 h3]
/-- the numbers of a state's text -/
def stNums (s : St) : List Int := (s.vals.length : Int) :: (s.vals ++ (s.opn :: s.don :: (s.did.length : Int) :: (s.did ++ ((s.cnt.length : Int) :: s.cnt))))
theorem stNums_inj {a b : St} (h : stNums a = stNums b) : a = b := by
  obtain ⟨v, o, d, i, c⟩ := a
  obtain ⟨v', o', d', i', c'⟩ := b
  simp only [stNums, List.cons.injEq] at h
  obtain ⟨h1, h2⟩ := h
  obtain ⟨rfl, h3⟩ := List.append_inj h2 (by omega)
  simp only [List.cons.injEq] at h3
  obtain ⟨rfl, rfl, h4, h5⟩ := h3
  obtain ⟨rfl, h6⟩ := List.append_inj h5 (by omega)
  simp only [List.cons.injEq] at h6
  obtain ⟨_, rfl⟩ := h6
  rfl
def stText (s : St) : List UInt8 := numsT (stNums s)
theorem stText_inj {a b : St} (h : stText a = stText b) : a = b := stNums_inj (numsT_inj h)
end
section
open Go.RowKit
theorem grow_below (w : World) (k : Nat) (os : Array Obj) : Below w.heap.size w (Sort.grow (w.drewN k) os) :=
  ⟨rfl, rfl, rfl, by simp, fun i hi => by rw [Sort.heap_grow_old _ _ (by simpa using hi)]; rfl⟩
set_option maxHeartbeats 1000000 in
theorem print_any (n : Int) (w : World) (h : -9223372036854775808 ≤ n ∧ n ≤ 9223372036854775807) (htab : Tab w) :
    Calls Tryz.prog 24 #[.int .i64 n] w fun e w' => e = .returned (.string ⟨(Lib.itoa n).toArray⟩) ∧ Below w.heap.size w w' := by
  have hfi := Tryz.internal_strconv_FormatInt_10 n h.1 h.2 w htab
  have Hfi := hide hfi
  clear hfi
  go_enter Tryz.func24, Tryz.ntmps24
  go_wp2_with (first
    | (go_at_call 54; refine Hfi.out.mono ?_; rintro e w2 ⟨rfl, k, os, rfl⟩)
    | go_in)
  go_ret
  exact ⟨rfl, grow_below _ _ _⟩
/-- a number's text -/
def itoaB (n : Int) : ByteArray := ⟨(Lib.itoa n).toArray⟩
theorem print_A (n : Int) (h : ok64 n) : ADet Tryz.prog 24 [eI n] (val (.string (itoaB n))) :=
  adet_of_calls (enters_of Tryz.func24 rfl (by decide)) fun S w vs hS hn hv => by
    have hn1 : vs.size = 1 := hn
    obtain ⟨a, rfl⟩ : ∃ a, vs = #[a] := ⟨vs[0], by apply Array.ext (by simpa using hn1); intro i h1 h2; simp at h2; subst h2; rfl⟩
    obtain rfl := rtc (hv 0 a _ rfl rfl)
    exact print_any n w h hS.amb.tab
abbrev sW (xs : List ByteArray) : AV := .sl 1 (xs.map fun s => [.c (.string s)])
theorem rt_strs {w : World} {S : Nat → Prop} {v : Value} {xs : List ByteArray} (h : RT w S v (sW xs)) (hS : SOk w S) : ∃ A cap, v = .slice A xs.length cap ∧ (xs ≠ [] → ∃ b o, A = some ⟨b, o, none⟩ ∧ b < w.heap.size ∧ xs.length ≤ cap ∧ ∀ (j : Nat) (x : ByteArray), xs[j]? = some x → w.cell? ⟨b, o + j, none⟩ = some (.string x)) := by
  generalize hav : sW xs = av at h
  cases h with
  | sl A n cap sz rows b o U hn hc hm hA hs hcell hone hr =>
    injection hav with e1 e2
    subst e1
    subst e2
    rw [List.length_map] at hn
    subst hn
    refine ⟨A, cap, rfl, fun hne => ?_⟩
    have h0 : 0 < xs.length := List.length_pos_iff.2 hne
    obtain ⟨rfl, hb⟩ := hA h0
    refine ⟨b, o, rfl, hS.sub b hb, hc, fun j x hx => ?_⟩
    have h1 : (xs.map fun s => [AV.c (.string s)])[j]? = some [.c (.string x)] := by simp [hx]
    have h2 := hcell h0 j 0 _ _ h1 rfl
    have h3 := rtc (hr j 0 _ _ h1 rfl)
    rw [h3] at h2
    simpa using h2
  | _ => cases hav
theorem join_A (xs : List ByteArray) (sep : ByteArray) (hN : xs.length ≤ 1000000) (hlen : (Lib.join (xs.map (·.data.toList)) sep.data.toList).length ≤ 1000000000) : ADet Tryz.prog 25 [sW xs, .c (.string sep)] (val (.string ⟨(Lib.join (xs.map (·.data.toList)) sep.data.toList).toArray⟩)) :=
  adet_of_calls (enters_of Tryz.func25 rfl (by decide)) fun S w vs hS hn hv => by
    have hn1 : vs.size = 2 := hn
    obtain ⟨a, b, rfl⟩ : ∃ a b, vs = #[a, b] := ⟨vs[0], vs[1], by apply Array.ext (by simpa using hn1); intro i h1 h2; simp at h2; match i with | 0 => rfl | 1 => rfl⟩
    obtain rfl := rtc (hv 1 b _ rfl rfl)
    obtain ⟨A, cap, rfl, h⟩ := rt_strs (hv 0 a _ rfl rfl) hS
    cases xs with
    | nil =>
      refine (Tryz.strings_Join_none A cap sep w).mono fun e w' ⟨h1, h2⟩ => ⟨h1, h2 ▸ Below.refl _ _⟩
    | cons x xs =>
      obtain ⟨b, o, rfl, h1, h2, h3⟩ := h (by simp)
      exact Tryz.strings_Join b o cap (x :: xs) sep w h3 h1 (by omega) h2 (by omega)
end
section
open Go.RowKit

noncomputable instance (l : List Int) (a i : Int) : Decidable (isL l a i) := Classical.propDecidable _
end
section
open Go.RowKit

def fl (p : Nat → Bool) (k : Nat) : List Int := ((List.range k).filter p).map fun (n : Nat) => (n : Int)
theorem fl_yes (p : Nat → Bool) (k : Nat) (h : p k = true) : fl p (k + 1) = fl p k ++ [(k : Int)] := by simp [fl, List.range_succ, h]
theorem fl_no (p : Nat → Bool) (k : Nat) (h : p k = false) : fl p (k + 1) = fl p k := by simp [fl, List.range_succ, h]
theorem fl_len (p : Nat → Bool) (k : Nat) : (fl p k).length ≤ k := by
  have := List.length_filter_le p (List.range k)
  simpa [fl] using this
theorem above_at (l : List Int) (i : Int) : ∀ x ∈ aboveL l i, isAt l x := by
  obtain ⟨m, p, h, _⟩ := up_end l i
  exact h.at_
theorem above_len (l : List Int) (i : Int) : (aboveL l i).length ≤ l.length := by
  obtain ⟨m, p, h, _⟩ := up_end l i
  rw [h.len]; exact h.room
theorem RI.list {w : World} {base : Nat} {v : Value} {n : Nat} {l L : List Int} (h : w.ownsRow base 3 1 v n (L.map (Value.int .i64))) (hx : ∀ x ∈ L, isAt l x) (hl : l.length ≤ 1073741824) : RI w v L :=
  RI.own h fun x hh => by have := hx x hh; unfold isAt at this; omega
end
section
open Go.RowKit

/-- one round's end of a loop that gathers places -/
theorem fl_rel {p : Nat → Bool} {k : Nat} {w wr : World} {v v2 : Value} {w1 w2 : World} (h : p k = true) (hb : Below w.heap.size w wr) (hb1 : Below wr.heap.size wr w1)
    (hown : w1.ownsRow w.heap.size 3 1 v (fl p k).length ((fl p k).map (Value.int .i64)))
    (hown2 : w2.ownsRow w.heap.size 3 1 v2 ((fl p k).length + 1) ((fl p k).map (Value.int .i64) ++ [Value.int .i64 (k : Int)])) (hg2 : (w1.alloc (.cells #[.int .i64 (k : Int)] 3)).grownBy w2 v.ownBlock) :
    w2.ownsRow w.heap.size 3 1 v2 (fl p (k + 1)).length ((fl p (k + 1)).map (Value.int .i64)) ∧ Below w.heap.size w w2 := by
  have hb0 := hb.trans (hb1.mono hb.size)
  refine ⟨?_, (hb0.alloc hb0.size _).grown hg2 (by have := hb0.size; simp; omega) (fun g hg => (hown.lt g hg).1)⟩
  rw [fl_yes p k h, List.length_append, List.map_append]
  exact hown2

set_option maxHeartbeats 1000000 in
set_option maxRecDepth 100000 in
theorem below_any (l : List Int) (v : Value) (i : Int) (w : World) (hl : l.length ≤ 1073741824) (hv : RI w v l) :
    Calls Tryz.prog 65 #[v, .int .i64 i] w (ListPost (belowL l i) w) := by
  obtain ⟨i0, hi0, hz0, hz1, hz2⟩ := info_parts intInfo
  obtain ⟨A, c, rfl, hc⟩ := hv.form
  by_cases hi : isAt l i
  · obtain ⟨p, hp⟩ : ∃ p : Nat → Bool, p = fun (k : Nat) => decide ((k : Int) ≠ i ∧ i ∈ aboveL l (k : Int)) := ⟨_, rfl⟩
    have e : belowL l i = fl p l.length := by unfold belowL; rw [if_pos hi, hp]; rfl
    rw [e]
    have Hp := hide hp
    clear hp e
    obtain ⟨hi1, hi2⟩ := hi
    go_enter Tryz.func65, Tryz.ntmps65
    go_wp2_with fail
    go_loopw [5, 18] (fun u j wr => ∃ k : Nat, k ≤ l.length ∧ j = .int .i64 (k : Int) ∧ wr.ownsRow w.heap.size 3 1 u (fl p k).length ((fl p k).map (Value.int .i64)) ∧ Below w.heap.size w wr) (fun u j wr => l.length - (intOf j).toNat)
    case atStart => exact ⟨0, Nat.zero_le _, rfl, World.ownsRow_nil _ _ _ _, Below.refl _ _⟩
    case round =>
      obtain ⟨k, hk, rfl, hown, hb⟩ := hrel
      have hfl := fl_len p k
      by_cases hlt : k < l.length
      · have hv1 := hv.below hb
        by_cases hki : (k : Int) = i
        · have h1 : ((k : Int) != i) = false := by simp [hki]
          have hpk : p k = false := by rw [Hp.out]; simp [hki]
          have E := hide (fl_no p k hpk)
          clear hki hpk
          go_wp2_with fail
          go_roundw
          case rel => exact ⟨k + 1, by omega, by go_num, by rw [E.out]; exact hown, hb⟩
          case measure => simp [intOf]; omega
        · have h1 : ((k : Int) != i) = true := by simp [hki]
          have ha := above_any l _ (k : Int) wr hl hv1
          have hab := above_at l (k : Int)
          have hal := above_len l (k : Int)
          have hpk : p k = decide (i ∈ aboveL l (k : Int)) := by rw [Hp.out]; simp [hki]
          generalize aboveL l (k : Int) = L at *
          have Ha := hide ha
          have Hab := hide hab
          have Hpk := hide hpk
          clear ha hab hpk hki
          by_cases hm : i ∈ L
          · have hpk : p k = true := by rw [Hpk.out]; exact decide_eq_true hm
            have HP := hide hpk
            have hd := decide_eq_true hm
            clear hpk hm
            have HD := hide hd
            clear hd
            go_wp2_with fail
            refine Ha.out.mono ?_
            rintro e w1 ⟨v1, rfl, hown1, hb1⟩
            have hri := RI.list hown1 Hab.out hl
            have hcn := contains_any L v1 i w1 (by omega) hri
            rw [HD.out] at hcn
            have Hcn := hide hcn
            have hownk := own_below' hown hb1
            have hb0 := hb.trans (hb1.mono hb.size)
            clear hcn hown
            obtain ⟨A', c', rfl, hc'⟩ := own_form hownk
            go_wp2_with (first
              | (go_at_call 84; refine Hcn.out.mono ?_; rintro e w2 ⟨rfl, rfl⟩)
              | (at_builtin; refine wpList_append_own _ rfl (.tmp 31) (.tmp 33) 23 rfl w.heap.size 3 i0 _ 1 8 Tryz.underlying23 hi0 hz0 hz1 hz2 rfl (by omega) _ (fl p k).length _ rfl (hownk.alloc _) ⟨w1.heap.size, 0, none⟩ 1 1 [.int .i64 (k : Int)] rfl rfl (one_new _ _ _) (one_one _) (by unfold maxLen; omega) (by omega) (by have := hb0.size; simp; omega) ?_; intro v2 w2 hown2 hg2 _))
            go_roundw
            case rel => exact ⟨k + 1, by omega, by go_num, fl_rel HP.out hb hb1 hownk hown2 hg2⟩
            case measure => simp [intOf]; omega
          · have hpk : p k = false := by rw [Hpk.out]; exact decide_eq_false hm
            have E := hide (fl_no p k hpk)
            have HD := hide (decide_eq_false hm)
            clear hpk hm
            go_wp2_with fail
            refine Ha.out.mono ?_
            rintro e w1 ⟨v1, rfl, hown1, hb1⟩
            have hri := RI.list hown1 Hab.out hl
            have hcn := contains_any L v1 i w1 (by omega) hri
            rw [HD.out] at hcn
            have Hcn := hide hcn
            have hownk := own_below' hown hb1
            have hb0 := hb.trans (hb1.mono hb.size)
            clear hcn hown
            go_wp2_with (go_at_call 84; refine Hcn.out.mono ?_; rintro e w2 ⟨rfl, rfl⟩)
            go_roundw
            case rel => exact ⟨k + 1, by omega, by go_num, by rw [E.out]; exact hownk, hb0⟩
            case measure => simp [intOf]; omega
      · obtain rfl : k = l.length := by omega
        go_wp2_with fail
        go_ret
        exact ⟨_, rfl, hown, hb⟩
  · have e : belowL l i = [] := by unfold belowL; rw [if_neg hi]
    rw [e]
    clear e
    by_cases h0 : 0 ≤ i
    · have h1 : (l.length : Int) ≤ i := by unfold isAt at hi; omega
      go_enter Tryz.func65, Tryz.ntmps65
      go_wp2_with fail
      go_ret
      exact ⟨_, rfl, World.ownsRow_nil _ _ _ _, Below.refl _ _⟩
    · go_enter Tryz.func65, Tryz.ntmps65
      go_wp2_with fail
      go_ret
      exact ⟨_, rfl, World.ownsRow_nil _ _ _ _, Below.refl _ _⟩
end
section
open Go.RowKit

theorem own_take {w : World} {base : Nat} {e : TypeId} {g n c : Nat} {xs : List Value} (h : w.ownsRow base e 1 (.slice (some ⟨g, 0, none⟩) n c) n xs) {k : Nat} (hk : k ≤ n) : w.ownsRow base e 1 (.slice (some ⟨g, 0, none⟩) k c) k (xs.take k) := by
  obtain ⟨hl, h | ⟨g', cap, cur, hv, hb, hg, hn, hm, hs, ht⟩⟩ := h
  · exact absurd h.1 (by simp)
  · simp at hv
    obtain ⟨rfl, rfl⟩ := hv
    refine ⟨by simp at hl ⊢; omega, .inr ⟨g, c, cur, rfl, hb, hg, by omega, hm, hs, ?_⟩⟩
    rw [← ht, List.take_take]
    congr 1
    omega
theorem cellOne_new (w : World) (v : Value) (t : TypeId) : ∀ j u, [v][j]? = some u → (w.alloc (.cells #[v] t)).cell? ((⟨w.heap.size, 0, none⟩ : Addr).add j) = some u := cells_new w [v] t
theorem cellOne_drew (w : World) (v : Value) (t : TypeId) : ∀ j u, [v][j]? = some u → ((w.alloc (.cells #[v] t)).drew).cell? ((⟨w.heap.size, 0, none⟩ : Addr).add j) = some u := cells_new w [v] t
theorem nodeInfo : (Tryz.prog.info? 188).map (fun i => (i.zero, i.size, i.bytes)) = some (some .nilIface, 1, 16) := by kernel_rfl

theorem oneIface (t : TypeId) (x : Value) : ∀ u ∈ [Value.iface t x], u.oneCell' = true := by intro u hu; simp at hu; subst hu; rfl
def ifc (p : TypeId × Value) : Value := .iface p.1 p.2
def PushPost (base d : Nat) (ok : Bool) (w : World) (B : Nat) (e : Ending) (w' : World) : Prop := ∃ v xs, e = .returned (.tuple #[v, .bool ok]) ∧ w'.ownsRow base 188 1 v d (List.map ifc xs) ∧ Below B w w'

set_option maxRecDepth 100000 in
set_option maxHeartbeats 1000000 in
theorem push0 (op i : Int) (v : Value) (n base B : Nat) (xs : List (TypeId × Value)) (w : World) (ho : arity op = 0) (hown : w.ownsRow base 188 1 v n (xs.map ifc)) (hn : n ≤ 1000) (hB : B ≤ base) (hb : base ≤ w.heap.size) :
    Calls Tryz.prog 124 #[v, .int .i64 op, .int .i64 i] w (PushPost base (n + 1) true w B) := by
  obtain ⟨i0, hi0, hz0, hz1, hz2⟩ := info_parts nodeInfo
  have Ho := hide ho
  clear ho
  obtain ⟨A, c, rfl, hc⟩ := own_form hown
  go_enter Tryz.func124, Tryz.ntmps124
  go_wp2_with (first
    | (go_at_call 125; refine (arity_any _ _).mono ?_; rintro e w' ⟨rfl, rfl⟩; rw [Ho.out])
    | (at_builtin; refine wpList_append_own _ rfl _ _ 203 rfl base 188 i0 .nilIface 1 16 Tryz.underlying203 hi0 hz0 hz1 hz2 rfl (by decide) _ _ _ rfl (hown.alloc _) ⟨w.heap.size, 0, none⟩ 1 1 [.iface 207 (.agg #[.int .i64 i])] rfl rfl (cellOne_new _ _ _) (oneIface _ _) (by unfold maxLen; omega) (by omega) (by simp; omega) ?_; intro v' w1 hown' hgrow _))
  go_ret2
  exact ⟨v', xs ++ [(207, .agg #[.int .i64 i])], rfl, by rw [List.map_append]; exact hown', ((Below.refl _ _).alloc (by omega) _).grown hgrow (by simp; omega) (fun k hk => by have := (hown.lt k hk).1; omega)⟩

set_option maxRecDepth 100000 in
set_option maxHeartbeats 1000000 in
theorem push1 (op i : Int) (v : Value) (n base B : Nat) (xs : List (TypeId × Value)) (w : World) (ho : arity op = 1) (h1 : 1 ≤ n) (hown : w.ownsRow base 188 1 v n (xs.map ifc)) (hn : n ≤ 1000) (hB : B ≤ base) (hb : base ≤ w.heap.size) :
    Calls Tryz.prog 124 #[v, .int .i64 op, .int .i64 i] w (PushPost base n true w B) := by
  obtain ⟨i0, hi0, hz0, hz1, hz2⟩ := info_parts nodeInfo
  have Ho := hide ho
  clear ho
  obtain ⟨g, c, rfl, hc, hgb, hgw⟩ := own_some hown (by omega)
  have hlen := hown.1
  rw [List.length_map] at hlen
  obtain ⟨xt, xv, hx⟩ : ∃ xt xv, (xs.map ifc)[n - 1]? = some (.iface xt xv) := ⟨(xs[n - 1]'(by omega)).1, (xs[n - 1]'(by omega)).2, by rw [List.getElem?_map, List.getElem?_eq_getElem (by omega)]; rfl⟩
  have hcell := own_cell hown rfl hx
  have hown2 := own_take hown (k := n - 1) (by omega)
  have Hown := hide hown
  have Hx := hide hx
  have Hlen := hide hlen
  clear hown hx hlen
  go_enter Tryz.func124, Tryz.ntmps124
  go_wp2_with (first
    | (go_at_call 125; refine (arity_any _ _).mono ?_; rintro e w' ⟨rfl, rfl⟩; rw [Ho.out])
    | fail)
  have s1 : IntKind.i64.wrap ((n : Int) - 1) = (n : Int) - 1 := IntWalk.i64_in _ (by omega)
  have s2 : 0 ≤ (n : Int) - 1 := by omega
  have s3 : ((n : Int) - 1).toNat = n - 1 := by omega
  have s4 : (n : Int) - 1 ≤ (c : Int) := by omega
  have s5 : (n : Int) - 1 < (n : Int) := by omega
  go_region_law (refine step_append_lies _ rfl (.tmp 33) (.tmp 42) 203 rfl base 188 i0 .nilIface 1 16 Tryz.underlying203 hi0 hz0 hz1 hz2 rfl (by decide) _ (n - 1) _ rfl (hown2.alloc _).drew ⟨w.heap.size, 0, none⟩ 1 1 [.iface 209 (.agg #[.int .i64 i, .iface xt xv])] rfl rfl (cellOne_drew _ _ _) (oneIface _ _) (by omega) (by unfold maxLen; omega) (by omega) (by simp; omega) _ rfl ?_; intro g2 c2 w2 hown3 hg2 hat hlt)
  have h4 : w2.ownsRow base 188 1 (.slice (some ⟨g2, 0, none⟩) n c2) n (List.map ifc (xs.take (n - 1) ++ [(209, .agg #[.int .i64 i, .iface xt xv])])) := by
    have h := hown3
    rw [List.map_append, List.map_take]
    rw [show n - 1 + 1 = n by omega] at h
    exact h
  have hbl : Below B w w2 := (((Below.refl _ _).alloc (by omega) _).drew).grown hg2 (by simp; omega) (fun k hk => by have := (hown2.lt k hk).1; omega)
  go_wp2_with fail
  go_ret2
  exact ⟨_, _, rfl, h4, hbl⟩

set_option maxRecDepth 100000 in
set_option maxHeartbeats 2000000 in
theorem push2 (op i : Int) (v : Value) (n base B : Nat) (xs : List (TypeId × Value)) (w : World) (ho : arity op = 2) (h1 : 2 ≤ n) (hown : w.ownsRow base 188 1 v n (xs.map ifc)) (hn : n ≤ 1000) (hB : B ≤ base) (hb : base ≤ w.heap.size) :
    Calls Tryz.prog 124 #[v, .int .i64 op, .int .i64 i] w (PushPost base (n - 1) true w B) := by
  obtain ⟨i0, hi0, hz0, hz1, hz2⟩ := info_parts nodeInfo
  have Ho := hide ho
  clear ho
  obtain ⟨g, c, rfl, hc, hgb, hgw⟩ := own_some hown (by omega)
  have hlen := hown.1
  rw [List.length_map] at hlen
  obtain ⟨xt, xv, hx⟩ : ∃ xt xv, (xs.map ifc)[n - 1]? = some (.iface xt xv) := ⟨(xs[n - 1]'(by omega)).1, (xs[n - 1]'(by omega)).2, by rw [List.getElem?_map, List.getElem?_eq_getElem (by omega)]; rfl⟩
  obtain ⟨yt, yv, hy⟩ : ∃ xt xv, (xs.map ifc)[n - 2]? = some (.iface xt xv) := ⟨(xs[n - 2]'(by omega)).1, (xs[n - 2]'(by omega)).2, by rw [List.getElem?_map, List.getElem?_eq_getElem (by omega)]; rfl⟩
  have hcell := own_cell hown rfl hx
  have hcelly := own_cell hown rfl hy
  have hown2 := own_take hown (k := n - 2) (by omega)
  have Hown := hide hown
  have Hx := hide hx
  have Hy := hide hy
  have Hlen := hide hlen
  clear hown hx hlen hy
  go_enter Tryz.func124, Tryz.ntmps124
  go_wp2_with (first
    | (go_at_call 125; refine (arity_any _ _).mono ?_; rintro e w' ⟨rfl, rfl⟩; rw [Ho.out])
    | fail)
  have s1 : IntKind.i64.wrap ((n : Int) - 1) = (n : Int) - 1 := IntWalk.i64_in _ (by omega)
  have s2 : 0 ≤ (n : Int) - 1 := by omega
  have s3 : ((n : Int) - 1).toNat = n - 1 := by omega
  have s5 : (n : Int) - 1 < (n : Int) := by omega
  have s6 : IntKind.i64.wrap ((n : Int) - 2) = (n : Int) - 2 := IntWalk.i64_in _ (by omega)
  have s7 : 0 ≤ (n : Int) - 2 := by omega
  have s8 : ((n : Int) - 2).toNat = n - 2 := by omega
  have s9 : (n : Int) - 2 ≤ (c : Int) := by omega
  have s10 : (n : Int) - 2 < (n : Int) := by omega
  have s11 : (1 : Int) ≤ (n : Int) := by omega
  have s12 : (2 : Int) ≤ (n : Int) := by omega
  go_region_law (refine step_append_lies _ rfl (.tmp 54) (.tmp 68) 203 rfl base 188 i0 .nilIface 1 16 Tryz.underlying203 hi0 hz0 hz1 hz2 rfl (by decide) _ (n - 2) _ rfl (hown2.alloc _).drew ⟨w.heap.size, 0, none⟩ 1 1 [.iface 211 (.agg #[.int .i64 i, .iface yt yv, .iface xt xv])] rfl rfl (cellOne_drew _ _ _) (oneIface _ _) (by omega) (by unfold maxLen; omega) (by omega) (by simp; omega) _ rfl ?_; intro g2 c2 w2 hown3 hg2 hat hlt)
  all_goals
    have h4 : w2.ownsRow base 188 1 (.slice (some ⟨g2, 0, none⟩) (n - 2 + 1) c2) (n - 1) (List.map ifc (xs.take (n - 2) ++ [(211, .agg #[.int .i64 i, .iface yt yv, .iface xt xv])])) := by
      have h := hown3
      rw [List.map_append, List.map_take]
      rw [show n - 2 + 1 = n - 1 by omega] at h ⊢
      exact h
    have hbl : Below B w w2 := (((Below.refl _ _).alloc (by omega) _).drew).grown hg2 (by simp; omega) (fun k hk => by have := (hown2.lt k hk).1; omega)
    go_wp2_with fail
    go_ret2
    exact ⟨_, _, rfl, h4, hbl⟩

set_option maxRecDepth 100000 in
set_option maxHeartbeats 1000000 in
theorem pushNo (op i : Int) (v : Value) (n base B : Nat) (xs : List (TypeId × Value)) (w : World) (ho : pushN n op = none) (hown : w.ownsRow base 188 1 v n (xs.map ifc)) (hn : n ≤ 1000) (hB : B ≤ base) (hb : base ≤ w.heap.size) :
    Calls Tryz.prog 124 #[v, .int .i64 op, .int .i64 i] w fun e w' => e = .returned (.tuple #[v, .bool false]) ∧ w = w' := by
  obtain ⟨A, c, rfl, hc⟩ := own_form hown
  have Hown := hide hown
  clear hown
  have key : (arity op = 1 ∧ n = 0) ∨ (arity op = 2 ∧ n = 0) ∨ (arity op = 2 ∧ n = 1) ∨ arity op = -1 := by
    unfold pushN at ho
    have : arity op = 0 ∨ arity op = 1 ∨ arity op = 2 ∨ arity op = -1 := by unfold arity; (repeat' split) <;> simp
    split at ho
    · cases ho
    · split at ho
      · cases ho
      · split at ho
        · cases ho
        · omega
  clear ho
  rcases key with ⟨ho, rfl⟩ | ⟨ho, rfl⟩ | ⟨ho, rfl⟩ | ho
  all_goals
    have Ho := hide ho
    clear ho
    go_enter Tryz.func124, Tryz.ntmps124
    go_wp2_with (first
      | (go_at_call 125; refine (arity_any _ _).mono ?_; rintro e w' ⟨rfl, rfl⟩; rw [Ho.out])
      | fail)
    go_ret2
    exact ⟨rfl, rfl⟩
theorem push_any (op i : Int) (v : Value) (n base B : Nat) (xs : List (TypeId × Value)) (w : World) {d : Nat} (ho : pushN n op = some d) (hown : w.ownsRow base 188 1 v n (xs.map ifc)) (hn : n ≤ 1000) (hB : B ≤ base) (hb : base ≤ w.heap.size) :
    Calls Tryz.prog 124 #[v, .int .i64 op, .int .i64 i] w (PushPost base d true w B) := by
  unfold pushN at ho
  split at ho
  · cases ho; exact push0 op i v n base B xs w (by assumption) hown hn hB hb
  · split at ho
    · rename_i h; cases ho; exact push1 op i v _ base B xs w h.1 h.2 hown hn hB hb
    · split at ho
      · rename_i h; cases ho; exact push2 op i v n base B xs w h.1 h.2 hown hn hB hb
      · cases ho
end
section
open Go.RowKit

theorem rowN_append (a b : List Int) : ∀ d, rowN (a ++ b) d = (rowN a d).bind (rowN b) := by
  induction a with
  | nil => intro d; rfl
  | cons x a ih => intro d; rw [List.cons_append, rowN, rowN]; cases pushN d x <;> simp [ih]
theorem rowN_snoc (a : List Int) (x : Int) (d : Nat) : rowN (a ++ [x]) d = (rowN a d).bind fun d' => pushN d' x := by
  rw [rowN_append]
  cases rowN a d with
  | none => rfl
  | some d' => simp [rowN]; cases pushN d' x <;> rfl
theorem pushN_le {d op : _} {d' : Nat} (h : pushN d op = some d') : d' ≤ d + 1 := by
  unfold pushN at h
  split at h
  · cases h; omega
  · split at h
    · cases h; omega
    · split at h
      · cases h; omega
      · cases h
def BuiltPost (r : Int) (w : World) (e : Ending) (w' : World) : Prop := ∃ v, e = .returned (.tuple #[v, .int .i64 r]) ∧ Below w.heap.size w w'

set_option maxRecDepth 100000 in
set_option maxHeartbeats 2000000 in
theorem built_any (l : List Item) (v : Value) (S : Nat → Prop) (w : World) (h : (sliceR itemR).one w S v l) (hS : ∀ b, S b → b < w.heap.size) :
    Calls Tryz.prog 119 #[v] w (BuiltPost (checkE (l.map Item.op)) w) := by
  obtain ⟨A, c, rfl, hc, hc2⟩ := slice_form h
  by_cases h0 : l.length = 0
  · have e : checkE (l.map Item.op) = 12 := by unfold checkE; rw [if_pos (by simpa using h0)]
    rw [e, h0]
    go_enter Tryz.func119, Tryz.ntmps119
    go_wp2_with fail
    go_ret2
    exact ⟨_, rfl, Below.refl _ _⟩
  · by_cases h1 : 64 < l.length
    · have e : checkE (l.map Item.op) = 3 := by unfold checkE; rw [if_neg (by simpa using h0), if_pos (by simpa using h1)]
      rw [e]
      have hd : (((l.length : Nat) : Int) == 0) = false := beq_eq_false_iff_ne.2 (by omega)
      have hd2 : decide ((64 : Int) < (l.length : Int)) = true := by simp; omega
      go_enter Tryz.func119, Tryz.ntmps119
      go_wp2_with fail
      go_ret2
      exact ⟨_, rfl, Below.refl _ _⟩
    · obtain ⟨b, o, rfl, hSb, hrow⟩ := slice_some h (by omega)
      have e : checkE (l.map Item.op) = if rowN (l.map Item.op) 0 = some 1 then 0 else 17 := by unfold checkE; rw [if_neg (by simpa using h0), if_neg (by simpa using h1)]
      rw [e]
      clear e
      obtain ⟨R, hR⟩ : ∃ R, R = rowN (l.map Item.op) 0 := ⟨_, rfl⟩
      rw [← hR]
      obtain ⟨E, hE⟩ : ∃ E : Int, E = if R = some 1 then 0 else 17 := ⟨_, rfl⟩
      rw [← hE]
      have HR := hide hR
      have HE := hide hE
      have Hsl := hide h
      clear hR hrow hE h
      have hd : (((l.length : Nat) : Int) == 0) = false := beq_eq_false_iff_ne.2 (by omega)
      have hd2 : decide ((64 : Int) < (l.length : Int)) = false := by simp; omega
      go_enter Tryz.func119, Tryz.ntmps119
      go_wp2_with fail
      go_loopw [4, 19] (fun rv iv wr => ∃ (k d : Nat) (xs : List (TypeId × Value)), k ≤ l.length ∧ d ≤ k ∧ iv = .int .i64 (k : Int) ∧ rowN ((l.take k).map Item.op) 0 = some d ∧ wr.ownsRow w.heap.size 188 1 rv d (xs.map ifc) ∧ Below w.heap.size w wr)
        (fun rv iv wr => l.length - (intOf iv).toNat)
      case atStart => exact ⟨0, 0, [], Nat.zero_le _, Nat.le_refl _, rfl, rfl, World.ownsRow_nil _ _ _ _, Below.refl _ _⟩
      case round =>
        obtain ⟨k, d, xs, hk, hdk, rfl, hrn, hown, hbl⟩ := hrel
        have Hrn := hide hrn
        clear hrn
        by_cases hlt : k < l.length
        · obtain ⟨hcs, hok⟩ := items_at (slice_below Hsl.out hbl hS) hlt
          have hnx := rowN_snoc ((l.take k).map Item.op) l[k].op 0
          rw [Hrn.out] at hnx
          have hall : rowN (l.map Item.op) 0 = (rowN ((l.take k).map Item.op ++ [l[k].op]) 0).bind (rowN ((l.drop (k + 1)).map Item.op)) := by
            rw [← rowN_append, List.append_assoc, List.singleton_append, ← List.map_cons, ← List.drop_eq_getElem_cons hlt, ← List.map_append, List.take_append_drop]
          rw [← HR.out] at hall
          have htk : (l.take (k + 1)).map Item.op = (l.take k).map Item.op ++ [l[k].op] := by
            rw [List.take_succ_eq_append_getElem hlt, List.map_append]; rfl
          have Hnx := hide hnx
          have Hall := hide hall
          have Htk := hide htk
          have Hok := hide hok
          have c0 := hcs 0 _ rfl
          have c1 := hcs 1 _ rfl
          have c2 := hcs 2 _ rfl
          have c3 := hcs 3 _ rfl
          have c4 := hcs 4 _ rfl
          have c5 := hcs 5 _ rfl
          have c6 := hcs 6 _ rfl
          have c7 := hcs 7 _ rfl
          have c8 := hcs 8 _ rfl
          clear hnx hall htk hok hcs
          generalize l[k] = x at *
          obtain ⟨xop, xln, xlv, xrn, xrv, xnm, xus, xli, xco⟩ := x
          simp only [Nat.add_zero] at c0 c1 c2 c3 c4 c5 c6 c7 c8
          have hsz : w.heap.size ≤ wr.heap.size := hbl.size
          cases hp : pushN d xop with
          | none =>
            have Hp := hide hp
            clear hp
            go_wp2_with fail
            refine (pushNo _ _ _ d w.heap.size 0 xs _ Hp.out (hown.alloc _) (by omega) (Nat.zero_le _) (by simp; omega)).mono ?_
            rintro e w' ⟨rfl, rfl⟩
            go_wp2_with fail
            go_ret2
            have e17 : E = 17 := by
              rw [HE.out, Hall.out, Hnx.out]
              simp [Hp.out]
            exact ⟨_, by rw [e17]; rfl, hbl.alloc hsz _⟩
          | some d' =>
            have Hp := hide hp
            clear hp
            go_wp2_with fail
            refine (push_any _ _ _ d w.heap.size w.heap.size xs _ Hp.out (hown.alloc _) (by omega) (Nat.le_refl _) (by simp; omega)).mono ?_
            rintro e w' ⟨v', xs', rfl, hown', hbl'⟩
            have Hown := hide hown
            clear hown
            go_wp2_with fail
            go_roundw
            case rel => exact ⟨k + 1, d', xs', by omega, by have := pushN_le Hp.out; omega, by go_num, by rw [Htk.out, Hnx.out]; exact Hp.out, hown', (hbl.alloc hsz _).trans hbl'⟩
            case measure => simp [intOf]; omega
        · obtain rfl : k = l.length := by omega
          have hf := Hrn.out
          rw [List.take_length, ← HR.out] at hf
          have Hf := hide hf
          clear hf
          obtain ⟨A, c', rfl, hc'⟩ := own_form hown
          cases hd1 : ((d : Int) != 1) with
          | true =>
            have e17 : E = 17 := by
              rw [HE.out, Hf.out, if_neg (by simp at hd1 ⊢; omega)]
            have E17 := hide e17
            clear e17
            go_wp2_with fail
            go_ret2
            exact ⟨_, by rw [E17.out]; rfl, hbl⟩
          | false =>
            obtain rfl : d = 1 := by simp at hd1; omega
            have e0 : E = 0 := by rw [HE.out, Hf.out, if_pos rfl]
            have E0 := hide e0
            clear e0
            have hxl : xs.length = 1 := by have := hown.1; simpa using this
            obtain ⟨x, rfl⟩ : ∃ x, xs = [x] := List.length_eq_one_iff.1 hxl
            obtain ⟨g, c2, hv, hc2', _, _⟩ := own_some hown (by omega)
            cases hv
            have hcell := own_cell hown rfl (j := 0) (u := ifc x) rfl
            clear hown hxl
            go_wp2_with fail
            go_ret2
            exact ⟨_, by rw [E0.out]; rfl, hbl⟩

set_option maxRecDepth 100000 in
theorem check_any (l : List Item) (v : Value) (S : Nat → Prop) (w : World) (h : (sliceR itemR).one w S v l) (hS : ∀ b, S b → b < w.heap.size) :
    Calls Tryz.prog 105 #[v] w fun e w' => e = .returned (.int .i64 (checkE (l.map Item.op))) ∧ Below w.heap.size w w' := by
  have H := hide (built_any l v S w h hS)
  clear h hS
  go_enter Tryz.func105, Tryz.ntmps105
  go_wp2_with (go_at_call 119; refine H.out.mono ?_; rintro e w' ⟨nv, rfl, hb⟩)
  go_ret
  exact ⟨rfl, hb⟩

def itemOf (x : Inst) : Item := ⟨x.op, ⟨#[]⟩, 0, ⟨#[]⟩, 0, ⟨#[]⟩, ⟨#[]⟩, 0, 0⟩
theorem itemOf_op (l : List Inst) : (l.map itemOf).map Item.op = l.map Inst.op := by rw [List.map_map]; rfl
theorem itemInfo : (Tryz.prog.info? 196).map (fun i => (i.zero, i.size, i.bytes)) = some (some (.agg #[.int .i64 0, .string ⟨#[]⟩, .int .i64 0, .string ⟨#[]⟩, .int .i64 0, .string ⟨#[]⟩, .string ⟨#[]⟩, .int .i64 0, .int .i64 0]), 9, 104) := by kernel_rfl
theorem cells_at_new (w : World) (g : Nat) (L : List Value) (t : TypeId) (hg : g = w.heap.size) : ∀ j u, L[j]? = some u → (w.alloc (.cells L.toArray t)).cell? ((⟨g, 0, none⟩ : Addr).add j) = some u := by
  subst hg; exact cells_new w L t
theorem item_one (x : Item) : ∀ u ∈ x.cells, u.oneCell' = true := by
  intro u hu
  simp only [Item.cells, List.mem_cons, List.not_mem_nil, or_false] at hu
  rcases hu with rfl | rfl | rfl | rfl | rfl | rfl | rfl | rfl | rfl <;> rfl

set_option maxRecDepth 100000 in
set_option maxHeartbeats 2000000 in
theorem shape_any (l : List Inst) (v : Value) (S : Nat → Prop) (w : World) (h : (sliceR instR).one w S v l) (hS : ∀ b, S b → b < w.heap.size) (hl : l.length ≤ 1000) :
    Calls Tryz.prog 106 #[v] w fun e w' => ∃ u, e = .returned u ∧ w'.ownsRow w.heap.size 196 9 u l.length ((l.map itemOf).flatMap Item.cells) ∧ Below w.heap.size w w' := by
  obtain ⟨i0, hi0, hz0, hz1, hz2⟩ := info_parts itemInfo
  obtain ⟨A, c, rfl, hc, hc2⟩ := slice_form h
  have Hsl := hide h
  clear h
  go_enter Tryz.func106, Tryz.ntmps106
  go_wp2_with fail
  go_loopw [3, 8] (fun rv iv wr => ∃ (k : Nat), k ≤ l.length ∧ iv = .int .i64 (k : Int) ∧ wr.ownsRow w.heap.size 196 9 rv k (((l.take k).map itemOf).flatMap Item.cells) ∧ Below w.heap.size w wr)
    (fun rv iv wr => l.length - (intOf iv).toNat)
  case atStart => exact ⟨0, Nat.zero_le _, rfl, World.ownsRow_nil _ _ _ _, Below.refl _ _⟩
  case round =>
    obtain ⟨k, hk, rfl, hown, hbl⟩ := hrel
    by_cases hlt : k < l.length
    · have hsl := slice_below Hsl.out hbl hS
      obtain ⟨b, o, hv, _, _⟩ := slice_some hsl (by omega)
      subst hv
      obtain ⟨hcs, hok⟩ := insts_at hsl hlt
      have htk : ((l.take (k + 1)).map itemOf).flatMap Item.cells = ((l.take k).map itemOf).flatMap Item.cells ++ (itemOf l[k]).cells := by
        rw [List.take_succ_eq_append_getElem hlt, List.map_append, List.flatMap_append]; simp
      have Htk := hide htk
      have c0 := hcs 0 _ rfl
      have c1 := hcs 1 _ rfl
      have c2 := hcs 2 _ rfl
      have c3 := hcs 3 _ rfl
      have c4 := hcs 4 _ rfl
      have c5 := hcs 5 _ rfl
      have c6 := hcs 6 _ rfl
      clear htk hok hcs hsl
      generalize l[k] = x at *
      obtain ⟨xop, xla, xln, xra, xrn, xn, xu⟩ := x
      simp only [Nat.add_zero] at c0 c1 c2 c3 c4 c5 c6
      have hsz : w.heap.size ≤ wr.heap.size := hbl.size
      go_wp2_with (at_builtin; refine wpList_append_own _ rfl _ _ 167 rfl w.heap.size 196 i0 (.agg #[.int .i64 0, .string ⟨#[]⟩, .int .i64 0, .string ⟨#[]⟩, .int .i64 0, .string ⟨#[]⟩, .string ⟨#[]⟩, .int .i64 0, .int .i64 0]) 9 104 Tryz.underlying167 hi0 hz0 hz1 hz2 rfl (by decide) _ _ _ rfl ((hown.alloc _).alloc _) ⟨wr.heap.size + 1, 0, none⟩ 1 1 [.int .i64 xop, .string ⟨#[]⟩, .int .i64 0, .string ⟨#[]⟩, .int .i64 0, .string ⟨#[]⟩, .string ⟨#[]⟩, .int .i64 0, .int .i64 0] rfl rfl (cells_at_new _ _ _ _ (by simp)) (item_one (itemOf ⟨xop, 0, 0, 0, 0, 0, 0⟩)) (by unfold maxLen; omega) (by omega) (by simp; omega) ?_; intro v2 w2 hown2 hg2 _)
      have hb2 : Below w.heap.size w w2 := ((hbl.alloc hsz _).alloc (by simp; omega) _).grown hg2 (by simp; omega) (fun j hj => (hown.lt j hj).1)
      have Hown := hide hown
      have Hown2 := hide hown2
      clear hown hown2 hg2
      go_wp2_with fail
      go_roundw
      case rel => exact ⟨k + 1, by omega, by go_num, by rw [Htk.out]; exact Hown2.out, hb2⟩
      case measure => simp [intOf]; omega
    · obtain rfl : k = l.length := by omega
      rw [List.take_length] at hown
      have Hown := hide hown
      clear hown
      go_wp2_with fail
      go_ret
      exact ⟨_, rfl, Hown.out, hbl⟩
end
section
open Go.RowKit
/-- what is thrown where a formula is none -/
def lostP : List PanicEntry := [{ v := .iface 177 (.agg #[]), recovered := false }]
def stCells (vv : Value) (o d : Int) (dv cv : Value) : Array Value := #[vv, .int .i64 o, .int .i64 d, dv, cv]
abbrev stAgg (vv : Value) (o d : Int) (dv cv : Value) : Value := .agg #[vv, .int .i64 o, .int .i64 d, dv, cv]

set_option maxRecDepth 100000 in
set_option maxHeartbeats 1000000 in
theorem val_some (vals : List Int) (vv : Value) (S : Nat → Prop) (o d : Int) (dv cv : Value) (a n r : Int) (w : World) (h : (sliceR (intR .i64)).one w S vv vals) (hS : ∀ b, S b → b < w.heap.size) (hr : valO vals a n = some r) :
    Calls Tryz.prog 82 #[stAgg vv o d dv cv, .agg #[.int .i64 a, .int .i64 n]] w fun e w' => e = .returned (.int .i64 r) ∧ w' = (w.alloc (.cells #[vv, .int .i64 o, .int .i64 d, dv, cv] 51)).alloc (.cells #[.int .i64 a, .int .i64 n] 140) := by
  unfold valO at hr
  obtain ⟨A, c, rfl, hc, hc2⟩ := slice_form h
  by_cases h1 : a = -1
  · rw [if_pos h1] at hr
    cases hr
    subst h1
    go_enter Tryz.func82, Tryz.ntmps82
    go_wp2_with fail
    go_ret
    exact ⟨rfl, rfl⟩
  · rw [if_neg h1] at hr
    by_cases h2 : a < 0
    · rw [if_pos h2] at hr; cases hr
    · rw [if_neg h2] at hr
      obtain ⟨k, rfl⟩ : ∃ k : Nat, a = (k : Int) := ⟨a.toNat, by omega⟩
      rw [show (k : Int).toNat = k from rfl] at hr
      have hk := (List.getElem?_eq_some_iff.1 hr).1
      have hk2 := (List.getElem?_eq_some_iff.1 hr).2
      obtain ⟨b, ob, rfl, hb, hrow⟩ := slice_some h (by omega)
      obtain ⟨hcell, _, _⟩ := ints_at h hk
      rw [hk2] at hcell
      have hblt := hS b hb
      have Hh := hide h
      have Hr := hide hr
      have hm1 : (((k : Nat) : Int) == -1) = false := beq_eq_false_iff_ne.2 (by omega)
      have hlt : (k : Int) < (vals.length : Int) := by omega
      clear h hr hrow hk2 h1
      go_enter Tryz.func82, Tryz.ntmps82
      go_wp2_with fail
      go_ret
      exact ⟨rfl, rfl⟩
set_option maxRecDepth 100000 in
set_option maxHeartbeats 1000000 in
theorem val_none (vals : List Int) (vv : Value) (S : Nat → Prop) (o d : Int) (dv cv : Value) (a n : Int) (w : World) (h : (sliceR (intR .i64)).one w S vv vals) (hr : valO vals a n = none) :
    Calls Tryz.prog 82 #[stAgg vv o d dv cv, .agg #[.int .i64 a, .int .i64 n]] w fun e w' => e = .panicked lostP ∧ w' = (w.alloc (.cells #[vv, .int .i64 o, .int .i64 d, dv, cv] 51)).alloc (.cells #[.int .i64 a, .int .i64 n] 140) := by
  unfold valO at hr
  obtain ⟨A, c, rfl, hc, hc2⟩ := slice_form h
  have Hh := hide h
  clear h
  by_cases h1 : a = -1
  · rw [if_pos h1] at hr; cases hr
  · rw [if_neg h1] at hr
    have hm1 : (a == -1) = false := beq_eq_false_iff_ne.2 h1
    by_cases h2 : a < 0
    · have hd : decide (a < 0) = true := by simpa using h2
      clear hr h1
      go_enter Tryz.func82, Tryz.ntmps82
      go_wp2_with fail
      exact ⟨rfl, rfl, rfl⟩
    · rw [if_neg h2] at hr
      have hd : decide (a < 0) = false := by simpa using h2
      have hge : (vals.length : Int) ≤ a := by
        have := List.getElem?_eq_none_iff.1 hr; omega
      clear hr h1
      go_enter Tryz.func82, Tryz.ntmps82
      go_wp2_with fail
      exact ⟨rfl, rfl, rfl⟩

def lostPost (w : World) (p : List PanicEntry) (w' : World) : Prop := p = lostP ∧ Below w.heap.size w w'
def LostPost (w : World) (e : Ending) (w' : World) : Prop := ∃ p, e = .panicked p ∧ lostPost w p w'
set_option maxRecDepth 100000 in
set_option maxHeartbeats 2000000 in
theorem less_some (vals : List Int) (vv : Value) (S : Nat → Prop) (o d : Int) (dv cv : Value) (la ln ra rn x y : Int) (sb : Nat) (w : World) (h : (sliceR (intR .i64)).one w S vv vals) (hS : ∀ b, S b → b < w.heap.size) (hb : Blk w sb 51 (stCells vv o d dv cv)) (hx : valO vals la ln = some x) (hy : valO vals ra rn = some y) :
    Calls Tryz.prog 81 #[.agg #[.int .i64 la, .int .i64 ln], .agg #[.int .i64 ra, .int .i64 rn], .pointer (some ⟨sb, 0, none⟩)] w fun e w' => e = .returned (.int .i64 (cmpI x y)) ∧ Below w.heap.size w w' := by
  have hsb := hb.lt
  have c0 := hb.cell 0
  have c1 := hb.cell 1
  have c2 := hb.cell 2
  have c3 := hb.cell 3
  have c4 := hb.cell 4
  simp [stCells] at c0 c1 c2 c3 c4
  have V1 := hide (fun (w' : World) (hw : Below w.heap.size w w') => val_some vals vv S o d dv cv la ln x w' (slice_below h hw hS) (fun b hb => Nat.lt_of_lt_of_le (hS b hb) hw.size) hx)
  have V2 := hide (fun (w' : World) (hw : Below w.heap.size w w') => val_some vals vv S o d dv cv ra rn y w' (slice_below h hw hS) (fun b hb => Nat.lt_of_lt_of_le (hS b hb) hw.size) hy)
  clear h hS hb hx hy
  go_enter Tryz.func81, Tryz.ntmps81
  go_wp2_with fail
  have hbW : Below w.heap.size w ((w.alloc (.cells #[.int .i64 la, .int .i64 ln] 140)).alloc (.cells #[.int .i64 ra, .int .i64 rn] 140)) := ((Below.refl _ _).alloc (Nat.le_refl _) _).alloc (by simp) _
  have hz : ((w.alloc (.cells #[.int .i64 la, .int .i64 ln] 140)).alloc (.cells #[.int .i64 ra, .int .i64 rn] 140)).heap.size = w.heap.size + 2 := by simp
  have x0 : ((w.alloc (.cells #[.int .i64 la, .int .i64 ln] 140)).alloc (.cells #[.int .i64 ra, .int .i64 rn] 140)).cell? ⟨w.heap.size, 0, none⟩ = some (.int .i64 la) := by simp
  have x1 : ((w.alloc (.cells #[.int .i64 la, .int .i64 ln] 140)).alloc (.cells #[.int .i64 ra, .int .i64 rn] 140)).cell? ⟨w.heap.size, 1, none⟩ = some (.int .i64 ln) := by simp
  have y0 : ((w.alloc (.cells #[.int .i64 la, .int .i64 ln] 140)).alloc (.cells #[.int .i64 ra, .int .i64 rn] 140)).cell? ⟨w.heap.size + 1, 0, none⟩ = some (.int .i64 ra) := by simp
  have y1 : ((w.alloc (.cells #[.int .i64 la, .int .i64 ln] 140)).alloc (.cells #[.int .i64 ra, .int .i64 rn] 140)).cell? ⟨w.heap.size + 1, 1, none⟩ = some (.int .i64 rn) := by simp
  generalize (w.alloc (.cells #[.int .i64 la, .int .i64 ln] 140)).alloc (.cells #[.int .i64 ra, .int .i64 rn] 140) = W at *
  have d0 := (hbW.cell (p := ⟨sb, 0, none⟩) hsb).trans c0
  have d1 := (hbW.cell (p := ⟨sb, 1, none⟩) hsb).trans c1
  have d2 := (hbW.cell (p := ⟨sb, 2, none⟩) hsb).trans c2
  have d3 := (hbW.cell (p := ⟨sb, 3, none⟩) hsb).trans c3
  have d4 := (hbW.cell (p := ⟨sb, 4, none⟩) hsb).trans c4
  clear c0 c1 c2 c3 c4
  have hsbW : sb < W.heap.size := by omega
  have KEEP := hide (fun (w' : World) (hb : Below W.heap.size W w') => (⟨(hb.cell (p := ⟨sb, 0, none⟩) hsbW).trans d0, (hb.cell (p := ⟨sb, 1, none⟩) hsbW).trans d1, (hb.cell (p := ⟨sb, 2, none⟩) hsbW).trans d2, (hb.cell (p := ⟨sb, 3, none⟩) hsbW).trans d3, (hb.cell (p := ⟨sb, 4, none⟩) hsbW).trans d4,
    (hb.cell (p := ⟨w.heap.size, 0, none⟩) (by show w.heap.size < _; omega)).trans x0, (hb.cell (p := ⟨w.heap.size, 1, none⟩) (by show w.heap.size < _; omega)).trans x1, (hb.cell (p := ⟨w.heap.size + 1, 0, none⟩) (by show w.heap.size + 1 < _; omega)).trans y0, (hb.cell (p := ⟨w.heap.size + 1, 1, none⟩) (by show w.heap.size + 1 < _; omega)).trans y1⟩ :
    w'.cell? ⟨sb, 0, none⟩ = some vv ∧ w'.cell? ⟨sb, 1, none⟩ = some (.int .i64 o) ∧ w'.cell? ⟨sb, 2, none⟩ = some (.int .i64 d) ∧ w'.cell? ⟨sb, 3, none⟩ = some dv ∧ w'.cell? ⟨sb, 4, none⟩ = some cv ∧ w'.cell? ⟨w.heap.size, 0, none⟩ = some (.int .i64 la) ∧ w'.cell? ⟨w.heap.size, 1, none⟩ = some (.int .i64 ln) ∧ w'.cell? ⟨w.heap.size + 1, 0, none⟩ = some (.int .i64 ra) ∧ w'.cell? ⟨w.heap.size + 1, 1, none⟩ = some (.int .i64 rn)))
  go_region_held3 (fun w' => w'.cell? ⟨sb, 0, none⟩ = some vv ∧ w'.cell? ⟨sb, 1, none⟩ = some (.int .i64 o) ∧ w'.cell? ⟨sb, 2, none⟩ = some (.int .i64 d) ∧ w'.cell? ⟨sb, 3, none⟩ = some dv ∧ w'.cell? ⟨sb, 4, none⟩ = some cv ∧ w'.cell? ⟨w.heap.size, 0, none⟩ = some (.int .i64 la) ∧ w'.cell? ⟨w.heap.size, 1, none⟩ = some (.int .i64 ln) ∧ w'.cell? ⟨w.heap.size + 1, 0, none⟩ = some (.int .i64 ra) ∧ w'.cell? ⟨w.heap.size + 1, 1, none⟩ = some (.int .i64 rn))
    ((refine KEEP.out _ ?_; repeat (first | exact Below.refl _ _ | refine Below.drew ?_ | refine Below.alloc ?_ (by first | omega | (simp; done) | (simp; omega)) _)))
    (first | (go_at_call 82; (with_reducible refine (V1.out _ ?_).mono ?_); (repeat (first | exact hbW | refine Below.drew ?_ | refine Below.alloc ?_ (by first | omega | (simp; done) | (simp; omega)) _)); rintro e w' ⟨rfl, rfl⟩) | (go_at_call 82; (with_reducible refine (V2.out _ ?_).mono ?_); (repeat (first | exact hbW | refine Below.drew ?_ | refine Below.alloc ?_ (by first | omega | (simp; done) | (simp; omega)) _)); rintro e w' ⟨rfl, rfl⟩) | (go_at_call 60; refine (cmp_any _ _ _).mono ?_; rintro e w' ⟨rfl, rfl⟩))
  all_goals
    go_wp2_with fail
    go_ret
    refine ⟨rfl, ?_⟩
    repeat (first | exact hbW | refine Below.drew ?_ | refine Below.alloc ?_ (by first | omega | (simp; done) | (simp; omega)) _)
set_option maxRecDepth 100000 in
set_option maxHeartbeats 2000000 in
theorem less_none1 (vals : List Int) (vv : Value) (S : Nat → Prop) (o d : Int) (dv cv : Value) (la ln ra rn : Int) (sb : Nat) (w : World) (h : (sliceR (intR .i64)).one w S vv vals) (hS : ∀ b, S b → b < w.heap.size) (hb : Blk w sb 51 (stCells vv o d dv cv)) (hx : valO vals la ln = none)  :
    Calls Tryz.prog 81 #[.agg #[.int .i64 la, .int .i64 ln], .agg #[.int .i64 ra, .int .i64 rn], .pointer (some ⟨sb, 0, none⟩)] w (LostPost w) := by
  have hsb := hb.lt
  have c0 := hb.cell 0
  have c1 := hb.cell 1
  have c2 := hb.cell 2
  have c3 := hb.cell 3
  have c4 := hb.cell 4
  simp [stCells] at c0 c1 c2 c3 c4
  have V1 := hide (fun (w' : World) (hw : Below w.heap.size w w') => val_none vals vv S o d dv cv la ln w' (slice_below h hw hS) hx)
  clear h hS hb hx
  go_enter Tryz.func81, Tryz.ntmps81
  go_wp2_with fail
  have hbW : Below w.heap.size w ((w.alloc (.cells #[.int .i64 la, .int .i64 ln] 140)).alloc (.cells #[.int .i64 ra, .int .i64 rn] 140)) := ((Below.refl _ _).alloc (Nat.le_refl _) _).alloc (by simp) _
  have hz : ((w.alloc (.cells #[.int .i64 la, .int .i64 ln] 140)).alloc (.cells #[.int .i64 ra, .int .i64 rn] 140)).heap.size = w.heap.size + 2 := by simp
  have x0 : ((w.alloc (.cells #[.int .i64 la, .int .i64 ln] 140)).alloc (.cells #[.int .i64 ra, .int .i64 rn] 140)).cell? ⟨w.heap.size, 0, none⟩ = some (.int .i64 la) := by simp
  have x1 : ((w.alloc (.cells #[.int .i64 la, .int .i64 ln] 140)).alloc (.cells #[.int .i64 ra, .int .i64 rn] 140)).cell? ⟨w.heap.size, 1, none⟩ = some (.int .i64 ln) := by simp
  have y0 : ((w.alloc (.cells #[.int .i64 la, .int .i64 ln] 140)).alloc (.cells #[.int .i64 ra, .int .i64 rn] 140)).cell? ⟨w.heap.size + 1, 0, none⟩ = some (.int .i64 ra) := by simp
  have y1 : ((w.alloc (.cells #[.int .i64 la, .int .i64 ln] 140)).alloc (.cells #[.int .i64 ra, .int .i64 rn] 140)).cell? ⟨w.heap.size + 1, 1, none⟩ = some (.int .i64 rn) := by simp
  generalize (w.alloc (.cells #[.int .i64 la, .int .i64 ln] 140)).alloc (.cells #[.int .i64 ra, .int .i64 rn] 140) = W at *
  have d0 := (hbW.cell (p := ⟨sb, 0, none⟩) hsb).trans c0
  have d1 := (hbW.cell (p := ⟨sb, 1, none⟩) hsb).trans c1
  have d2 := (hbW.cell (p := ⟨sb, 2, none⟩) hsb).trans c2
  have d3 := (hbW.cell (p := ⟨sb, 3, none⟩) hsb).trans c3
  have d4 := (hbW.cell (p := ⟨sb, 4, none⟩) hsb).trans c4
  clear c0 c1 c2 c3 c4
  have hsbW : sb < W.heap.size := by omega
  have KEEP := hide (fun (w' : World) (hb : Below W.heap.size W w') => (⟨(hb.cell (p := ⟨sb, 0, none⟩) hsbW).trans d0, (hb.cell (p := ⟨sb, 1, none⟩) hsbW).trans d1, (hb.cell (p := ⟨sb, 2, none⟩) hsbW).trans d2, (hb.cell (p := ⟨sb, 3, none⟩) hsbW).trans d3, (hb.cell (p := ⟨sb, 4, none⟩) hsbW).trans d4,
    (hb.cell (p := ⟨w.heap.size, 0, none⟩) (by show w.heap.size < _; omega)).trans x0, (hb.cell (p := ⟨w.heap.size, 1, none⟩) (by show w.heap.size < _; omega)).trans x1, (hb.cell (p := ⟨w.heap.size + 1, 0, none⟩) (by show w.heap.size + 1 < _; omega)).trans y0, (hb.cell (p := ⟨w.heap.size + 1, 1, none⟩) (by show w.heap.size + 1 < _; omega)).trans y1⟩ :
    w'.cell? ⟨sb, 0, none⟩ = some vv ∧ w'.cell? ⟨sb, 1, none⟩ = some (.int .i64 o) ∧ w'.cell? ⟨sb, 2, none⟩ = some (.int .i64 d) ∧ w'.cell? ⟨sb, 3, none⟩ = some dv ∧ w'.cell? ⟨sb, 4, none⟩ = some cv ∧ w'.cell? ⟨w.heap.size, 0, none⟩ = some (.int .i64 la) ∧ w'.cell? ⟨w.heap.size, 1, none⟩ = some (.int .i64 ln) ∧ w'.cell? ⟨w.heap.size + 1, 0, none⟩ = some (.int .i64 ra) ∧ w'.cell? ⟨w.heap.size + 1, 1, none⟩ = some (.int .i64 rn)))
  have hS0 := KEEP.out W.drew ((Below.refl _ _).drew)
  refine wp_region_held (S := fun w' => w'.cell? ⟨sb, 0, none⟩ = some vv ∧ w'.cell? ⟨sb, 1, none⟩ = some (.int .i64 o) ∧ w'.cell? ⟨sb, 2, none⟩ = some (.int .i64 d) ∧ w'.cell? ⟨sb, 3, none⟩ = some dv ∧ w'.cell? ⟨sb, 4, none⟩ = some cv ∧ w'.cell? ⟨w.heap.size, 0, none⟩ = some (.int .i64 la) ∧ w'.cell? ⟨w.heap.size, 1, none⟩ = some (.int .i64 ln) ∧ w'.cell? ⟨w.heap.size + 1, 0, none⟩ = some (.int .i64 ra) ∧ w'.cell? ⟨w.heap.size + 1, 1, none⟩ = some (.int .i64 rn)) (by kernel_rfl) ?_
  refine wpAnyH_take (i := 0) (v := stAgg vv o d dv cv) rfl (by kernel_rfl) (by kernel_rfl) (by kernel_rfl) (fun _ _ _ h => h) (Or.inl ⟨by rfl, ?_⟩) hS0 ?_
  · intro w hSw; obtain ⟨q0, q1, q2, q3, q4, q5, q6, q7, q8⟩ := hSw; go_simp
  refine wpAnyH_take (i := 1) (v := .agg #[.int .i64 la, .int .i64 ln]) rfl (by kernel_rfl) (by kernel_rfl) (by kernel_rfl) (fun _ _ _ h => h) (Or.inl ⟨by rfl, ?_⟩) hS0 ?_
  · intro w hSw; obtain ⟨q0, q1, q2, q3, q4, q5, q6, q7, q8⟩ := hSw; go_simp
  refine wpAnyH_take (i := 3) (v := stAgg vv o d dv cv) rfl (by kernel_rfl) (by kernel_rfl) (by kernel_rfl) (fun _ _ _ h => h) (Or.inl ⟨by rfl, ?_⟩) hS0 ?_
  · intro w hSw; obtain ⟨q0, q1, q2, q3, q4, q5, q6, q7, q8⟩ := hSw; go_simp
  refine wpAnyH_take (i := 4) (v := .agg #[.int .i64 ra, .int .i64 rn]) rfl (by kernel_rfl) (by kernel_rfl) (by kernel_rfl) (fun _ _ _ h => h) (Or.inl ⟨by rfl, ?_⟩) hS0 ?_
  · intro w hSw; obtain ⟨q0, q1, q2, q3, q4, q5, q6, q7, q8⟩ := hSw; go_simp
  refine wpAnyH_ready (rs := [2]) (by kernel_rfl) (by simp) ?_
  refine AllReadyH.cons (o := _) rfl (fun K hK => ?_) AllReadyH.nil
  go_simp
  refine (V1.out _ ?_).mono ?_
  · repeat (first | exact hbW | refine Below.drew ?_ | refine Below.alloc ?_ (by first | omega | (simp; done) | (simp; omega)) _)
  rintro e w' ⟨rfl, rfl⟩
  refine ⟨rfl, lostP, rfl, rfl, ?_⟩
  repeat (first | exact hbW | refine Below.drew ?_ | refine Below.alloc ?_ (by first | omega | (simp; done) | (simp; omega)) _)

set_option maxRecDepth 100000 in
set_option maxHeartbeats 2000000 in
theorem less_none2 (vals : List Int) (vv : Value) (S : Nat → Prop) (o d : Int) (dv cv : Value) (la ln ra rn x : Int) (sb : Nat) (w : World) (h : (sliceR (intR .i64)).one w S vv vals) (hS : ∀ b, S b → b < w.heap.size) (hb : Blk w sb 51 (stCells vv o d dv cv)) (hx : valO vals la ln = some x) (hy : valO vals ra rn = none) :
    Calls Tryz.prog 81 #[.agg #[.int .i64 la, .int .i64 ln], .agg #[.int .i64 ra, .int .i64 rn], .pointer (some ⟨sb, 0, none⟩)] w (LostPost w) := by
  have hsb := hb.lt
  have c0 := hb.cell 0
  have c1 := hb.cell 1
  have c2 := hb.cell 2
  have c3 := hb.cell 3
  have c4 := hb.cell 4
  simp [stCells] at c0 c1 c2 c3 c4
  have V1 := hide (fun (w' : World) (hw : Below w.heap.size w w') => val_some vals vv S o d dv cv la ln x w' (slice_below h hw hS) (fun b hb => Nat.lt_of_lt_of_le (hS b hb) hw.size) hx)
  have V2 := hide (fun (w' : World) (hw : Below w.heap.size w w') => val_none vals vv S o d dv cv ra rn w' (slice_below h hw hS) hy)
  clear h hS hb hx hy
  go_enter Tryz.func81, Tryz.ntmps81
  go_wp2_with fail
  have hbW : Below w.heap.size w ((w.alloc (.cells #[.int .i64 la, .int .i64 ln] 140)).alloc (.cells #[.int .i64 ra, .int .i64 rn] 140)) := ((Below.refl _ _).alloc (Nat.le_refl _) _).alloc (by simp) _
  have hz : ((w.alloc (.cells #[.int .i64 la, .int .i64 ln] 140)).alloc (.cells #[.int .i64 ra, .int .i64 rn] 140)).heap.size = w.heap.size + 2 := by simp
  have x0 : ((w.alloc (.cells #[.int .i64 la, .int .i64 ln] 140)).alloc (.cells #[.int .i64 ra, .int .i64 rn] 140)).cell? ⟨w.heap.size, 0, none⟩ = some (.int .i64 la) := by simp
  have x1 : ((w.alloc (.cells #[.int .i64 la, .int .i64 ln] 140)).alloc (.cells #[.int .i64 ra, .int .i64 rn] 140)).cell? ⟨w.heap.size, 1, none⟩ = some (.int .i64 ln) := by simp
  have y0 : ((w.alloc (.cells #[.int .i64 la, .int .i64 ln] 140)).alloc (.cells #[.int .i64 ra, .int .i64 rn] 140)).cell? ⟨w.heap.size + 1, 0, none⟩ = some (.int .i64 ra) := by simp
  have y1 : ((w.alloc (.cells #[.int .i64 la, .int .i64 ln] 140)).alloc (.cells #[.int .i64 ra, .int .i64 rn] 140)).cell? ⟨w.heap.size + 1, 1, none⟩ = some (.int .i64 rn) := by simp
  generalize (w.alloc (.cells #[.int .i64 la, .int .i64 ln] 140)).alloc (.cells #[.int .i64 ra, .int .i64 rn] 140) = W at *
  have d0 := (hbW.cell (p := ⟨sb, 0, none⟩) hsb).trans c0
  have d1 := (hbW.cell (p := ⟨sb, 1, none⟩) hsb).trans c1
  have d2 := (hbW.cell (p := ⟨sb, 2, none⟩) hsb).trans c2
  have d3 := (hbW.cell (p := ⟨sb, 3, none⟩) hsb).trans c3
  have d4 := (hbW.cell (p := ⟨sb, 4, none⟩) hsb).trans c4
  clear c0 c1 c2 c3 c4
  have hsbW : sb < W.heap.size := by omega
  have KEEP := hide (fun (w' : World) (hb : Below W.heap.size W w') => (⟨(hb.cell (p := ⟨sb, 0, none⟩) hsbW).trans d0, (hb.cell (p := ⟨sb, 1, none⟩) hsbW).trans d1, (hb.cell (p := ⟨sb, 2, none⟩) hsbW).trans d2, (hb.cell (p := ⟨sb, 3, none⟩) hsbW).trans d3, (hb.cell (p := ⟨sb, 4, none⟩) hsbW).trans d4,
    (hb.cell (p := ⟨w.heap.size, 0, none⟩) (by show w.heap.size < _; omega)).trans x0, (hb.cell (p := ⟨w.heap.size, 1, none⟩) (by show w.heap.size < _; omega)).trans x1, (hb.cell (p := ⟨w.heap.size + 1, 0, none⟩) (by show w.heap.size + 1 < _; omega)).trans y0, (hb.cell (p := ⟨w.heap.size + 1, 1, none⟩) (by show w.heap.size + 1 < _; omega)).trans y1⟩ :
    w'.cell? ⟨sb, 0, none⟩ = some vv ∧ w'.cell? ⟨sb, 1, none⟩ = some (.int .i64 o) ∧ w'.cell? ⟨sb, 2, none⟩ = some (.int .i64 d) ∧ w'.cell? ⟨sb, 3, none⟩ = some dv ∧ w'.cell? ⟨sb, 4, none⟩ = some cv ∧ w'.cell? ⟨w.heap.size, 0, none⟩ = some (.int .i64 la) ∧ w'.cell? ⟨w.heap.size, 1, none⟩ = some (.int .i64 ln) ∧ w'.cell? ⟨w.heap.size + 1, 0, none⟩ = some (.int .i64 ra) ∧ w'.cell? ⟨w.heap.size + 1, 1, none⟩ = some (.int .i64 rn)))
  have hS0 := KEEP.out W.drew ((Below.refl _ _).drew)
  refine wp_region_held (S := fun w' => w'.cell? ⟨sb, 0, none⟩ = some vv ∧ w'.cell? ⟨sb, 1, none⟩ = some (.int .i64 o) ∧ w'.cell? ⟨sb, 2, none⟩ = some (.int .i64 d) ∧ w'.cell? ⟨sb, 3, none⟩ = some dv ∧ w'.cell? ⟨sb, 4, none⟩ = some cv ∧ w'.cell? ⟨w.heap.size, 0, none⟩ = some (.int .i64 la) ∧ w'.cell? ⟨w.heap.size, 1, none⟩ = some (.int .i64 ln) ∧ w'.cell? ⟨w.heap.size + 1, 0, none⟩ = some (.int .i64 ra) ∧ w'.cell? ⟨w.heap.size + 1, 1, none⟩ = some (.int .i64 rn)) (by kernel_rfl) ?_
  refine wpAnyH_take (i := 0) (v := stAgg vv o d dv cv) rfl (by kernel_rfl) (by kernel_rfl) (by kernel_rfl) (fun _ _ _ h => h) (Or.inl ⟨by rfl, ?_⟩) hS0 ?_
  · intro w hSw; obtain ⟨q0, q1, q2, q3, q4, q5, q6, q7, q8⟩ := hSw; go_simp
  refine wpAnyH_take (i := 1) (v := .agg #[.int .i64 la, .int .i64 ln]) rfl (by kernel_rfl) (by kernel_rfl) (by kernel_rfl) (fun _ _ _ h => h) (Or.inl ⟨by rfl, ?_⟩) hS0 ?_
  · intro w hSw; obtain ⟨q0, q1, q2, q3, q4, q5, q6, q7, q8⟩ := hSw; go_simp
  refine wpAnyH_take (i := 3) (v := stAgg vv o d dv cv) rfl (by kernel_rfl) (by kernel_rfl) (by kernel_rfl) (fun _ _ _ h => h) (Or.inl ⟨by rfl, ?_⟩) hS0 ?_
  · intro w hSw; obtain ⟨q0, q1, q2, q3, q4, q5, q6, q7, q8⟩ := hSw; go_simp
  refine wpAnyH_take (i := 4) (v := .agg #[.int .i64 ra, .int .i64 rn]) rfl (by kernel_rfl) (by kernel_rfl) (by kernel_rfl) (fun _ _ _ h => h) (Or.inl ⟨by rfl, ?_⟩) hS0 ?_
  · intro w hSw; obtain ⟨q0, q1, q2, q3, q4, q5, q6, q7, q8⟩ := hSw; go_simp
  refine wpAnyH_ready (rs := [2]) (by kernel_rfl) (by simp) ?_
  refine AllReadyH.cons (o := _) rfl (fun K hK => ?_) AllReadyH.nil
  go_simp
  refine (V1.out _ ?_).mono ?_
  · repeat (first | exact hbW | refine Below.drew ?_ | refine Below.alloc ?_ (by first | omega | (simp; done) | (simp; omega)) _)
  rintro e w' ⟨rfl, rfl⟩
  refine hK.out _ _ (KEEP.out _ ?_) (fun hH => ?_)
  · repeat (first | exact Below.refl _ _ | refine Below.drew ?_ | refine Below.alloc ?_ (by first | omega | (simp; done) | (simp; omega)) _)
  clear hK K
  refine wpAnyH_ready (rs := [5]) (by kernel_rfl) (by simp) ?_
  refine AllReadyH.cons (o := _) rfl (fun K hK => ?_) AllReadyH.nil
  go_simp
  refine (V2.out _ ?_).mono ?_
  · repeat (first | exact hbW | refine Below.drew ?_ | refine Below.alloc ?_ (by first | omega | (simp; done) | (simp; omega)) _)
  rintro e w' ⟨rfl, rfl⟩
  refine ⟨rfl, lostP, rfl, rfl, ?_⟩
  repeat (first | exact hbW | refine Below.drew ?_ | refine Below.alloc ?_ (by first | omega | (simp; done) | (simp; omega)) _)
end
section
open Go.RowKit
def bv (b : Bool) : Value := .iface 4 (.bool b)
/-- the asker lies in block a: the state's cells, the comparison, and a row of truths -/
def AskAt (w : World) (a H : Nat) (vv : Value) (o d : Int) (dv cv f : Value) (L : List Bool) : Prop :=
  ∃ rv, Blk w a 172 #[vv, .int .i64 o, .int .i64 d, dv, cv, f, rv] ∧ w.ownsRow (a + 1) 20 1 rv L.length (L.map bv) ∧ a < H ∧ (∀ g, rv.ownBlock = some g → g < H)
theorem AskAt.below {w w' : World} {a H : Nat} {vv : Value} {o d : Int} {dv cv f : Value} {L : List Bool} (h : AskAt w a H vv o d dv cv f L) (hb : Below H w w') : AskAt w' a H vv o d dv cv f L := by
  obtain ⟨rv, h1, h2, h3, h4⟩ := h
  exact ⟨rv, h1.below hb h3, own_below h2 hb h4, h3, h4⟩
theorem AskAt.cells {w : World} {a H : Nat} {vv : Value} {o d : Int} {dv cv f : Value} {L : List Bool} (h : AskAt w a H vv o d dv cv f L) :
    w.cell? ⟨a, 0, none⟩ = some vv ∧ w.cell? ⟨a, 1, none⟩ = some (.int .i64 o) ∧ w.cell? ⟨a, 2, none⟩ = some (.int .i64 d) ∧ w.cell? ⟨a, 5, none⟩ = some f := by
  obtain ⟨rv, h1, _⟩ := h
  have c0 := h1.cell 0
  have c1 := h1.cell 1
  have c2 := h1.cell 2
  have c5 := h1.cell 5
  simp at c0 c1 c2 c5
  exact ⟨c0, c1, c2, c5⟩
/-- blocks from H on are as they were -/
def Past (H : Nat) (w w' : World) : Prop := ∀ g, H ≤ g → g < w.heap.size → w'.heap[g]? = w.heap[g]?
theorem Past.cell {H : Nat} {w w' : World} (h : Past H w w') {g i : Nat} (h1 : H ≤ g) (h2 : g < w.heap.size) : w'.cell? ⟨g, i, none⟩ = w.cell? ⟨g, i, none⟩ := World.cell?_of_block (h g h1 h2)
theorem anyInfo : (Tryz.prog.info? 20).map (fun i => (i.zero, i.size, i.bytes)) = some (some .nilIface, 1, 16) := by kernel_rfl
def AskPost (v : Value) (a H : Nat) (vv : Value) (o d : Int) (dv cv f : Value) (L : List Bool) (w : World) (e : Ending) (w' : World) : Prop := e = .returned v ∧ AskAt w' a w'.heap.size vv o d dv cv f L ∧ Below a w w' ∧ w.heap.size ≤ w'.heap.size ∧ Past H w w'

set_option maxRecDepth 100000 in
set_option maxHeartbeats 1000000 in
theorem askPush (a H : Nat) (vv : Value) (o d : Int) (dv cv f : Value) (L : List Bool) (b : Bool) (w : World) (h : AskAt w a H vv o d dv cv f L) (hL : L.length ≤ 1000) :
    Calls Tryz.prog 120 #[.pointer (some ⟨a, 0, none⟩), .bool b] w (AskPost (.tuple #[]) a H vv o d dv cv f (L ++ [b]) w) := by
  obtain ⟨i0, hi0, hz0, hz1, hz2⟩ := info_parts anyInfo
  obtain ⟨rv, hb, hown, haH, hrH⟩ := h
  have hlt := hb.lt
  have c6 := hb.cell 6
  have f6 := hb.frozen 6
  simp at c6
  obtain ⟨A, c, rfl, hc⟩ := own_form hown
  have HB := hide hb
  clear hb
  go_enter Tryz.func120, Tryz.ntmps120
  go_wp2_with (at_builtin; refine wpList_append_own _ rfl _ _ 170 rfl (a + 1) 20 i0 .nilIface 1 16 Tryz.underlying170 hi0 hz0 hz1 hz2 rfl (by decide) _ _ _ rfl (hown.alloc _) ⟨w.heap.size, 0, none⟩ 1 1 [.iface 4 (.bool b)] rfl rfl (cellOne_new _ _ _) (oneIface _ _) (by unfold maxLen; omega) (by omega) (by simp; omega) ?_; intro v' w1 hown' hgrow _; have hne : some a ≠ (Value.slice A L.length c).ownBlock := own_ne hown (by omega); have hb1 := (HB.out.alloc (.cells #[.iface 4 (.bool b)] 20)).grown hgrow hne; obtain ⟨A2, c2, rfl, hc2⟩ := own_form hown'; have d6 := hb1.cell 6; have g6 := hb1.frozen 6; simp at d6)
  have hbl : Below a w w1 := ((Below.refl a w).alloc (by omega) _).grown hgrow (by simp; omega) (fun k hk => by have := (hown.lt k hk).1; omega)
  have hsz : w.heap.size ≤ w1.heap.size := by have := hgrow.size; simp at this; omega
  have hw1 : a < w1.heap.size := hb1.lt
  have hlr : ∀ g, (Value.slice A2 (L.length + 1) c2).ownBlock = some g → g < w1.heap.size := fun g hg => (hown'.lt g hg).2
  have hpast : Past H w (w1.setCell ⟨a, 6, none⟩ (.slice A2 (L.length + 1) c2)) := fun g hg1 hg2 => by
    rw [Below.heap_setCell w1 ⟨a, 6, none⟩ _ g (by simp; omega)]
    have e1 : w1.heap[g]? = (w.alloc (.cells #[.iface 4 (.bool b)] 20)).heap[g]? := hgrow.block g (by simp; omega) (fun e => by have := hrH g e.symm; omega)
    rw [e1]
    exact Below.heap_alloc w _ g hg2
  go_end0
  refine ⟨rfl, ⟨_, ?_, by rw [List.length_append, List.map_append]; exact own_far hown' (p := ⟨a, 6, none⟩) (by simp) _, by simpa using hw1, fun g hg => by have := hlr g hg; simpa using this⟩, hbl.setCell (Nat.le_refl _) _, by simpa using hsz, hpast⟩
  · have := hb1.set_ 6 (.slice A2 (L.length + 1) c2)
    simpa using this

def PopPost (b : Bool) (a H : Nat) (vv : Value) (o d : Int) (dv cv f : Value) (L : List Bool) (w : World) (e : Ending) (w' : World) : Prop := e = .returned (.bool b) ∧ AskAt w' a H vv o d dv cv f L ∧ Below a w w' ∧ w.heap.size ≤ w'.heap.size ∧ Past H w w'
theorem assertBool (x : Bool) (w : World) : (Instr.typeAssert (.iface 4 (.bool x)) 20 4 false).run Tryz.prog w = .ok (.bool x) w := by kernel_rfl

set_option maxRecDepth 100000 in
set_option maxHeartbeats 1000000 in
theorem askPop (a H : Nat) (vv : Value) (o d : Int) (dv cv f : Value) (L : List Bool) (b : Bool) (w : World) (h : AskAt w a H vv o d dv cv f (L ++ [b])) (hL : L.length ≤ 1000) :
    Calls Tryz.prog 108 #[.pointer (some ⟨a, 0, none⟩)] w (PopPost b a H vv o d dv cv f L w) := by
  obtain ⟨rv, hb, hown, haH, hrH⟩ := h
  have hlt := hb.lt
  have c6 := hb.cell 6
  have f6 := hb.frozen 6
  simp at c6
  obtain ⟨g, c, rfl, hc, hg1, hg2⟩ := own_some hown (by simp)
  have hcell := own_cell hown rfl (j := L.length) (u := bv b) (by simp)
  have hown2 := own_take hown (k := L.length) (by simp)
  have hown3 : w.ownsRow (a + 1) 20 1 (.slice (some ⟨g, 0, none⟩) L.length c) L.length (L.map bv) := by
    have e : (List.map bv (L ++ [b])).take L.length = L.map bv := by rw [List.map_append, List.take_append_of_le_length (by simp), List.take_of_length_le (by simp)]
    rwa [e] at hown2
  have HB := hide hb
  have HO := hide hown3
  have hgn : a ≠ g := by omega
  have ln : (L ++ [b]).length = L.length + 1 := by simp
  rw [ln] at c6 hc
  unfold bv at hcell
  clear hb hown hown2 hown3 ln
  have hta := assertBool b
  go_enter Tryz.func108, Tryz.ntmps108
  go_wp2_with fail
  go_ret
  refine ⟨rfl, ⟨_, ?_, own_far HO.out (p := ⟨a, 6, none⟩) (by simp) _, haH, hrH⟩, (Below.refl a w).setCell (Nat.le_refl _) _, by simp, fun k hk _ => Below.heap_setCell w ⟨a, 6, none⟩ _ k (by simp; omega)⟩
  have := HB.out.set_ 6 (.slice (some ⟨g, 0, none⟩) L.length c)
  simpa using this
theorem askPopNone (a H : Nat) (vv : Value) (o d : Int) (dv cv f : Value) (w : World) (h : AskAt w a H vv o d dv cv f []) :
    Calls Tryz.prog 108 #[.pointer (some ⟨a, 0, none⟩)] w fun e w' => e = .panicked lostP ∧ w = w' := by
  obtain ⟨rv, hb, hown, haH, hrH⟩ := h
  have c6 := hb.cell 6
  simp at c6
  obtain ⟨A, c, rfl, hc⟩ := own_form hown
  clear hown hb
  go_enter Tryz.func108, Tryz.ntmps108
  go_wp2_with fail
  exact ⟨rfl, rfl, rfl⟩
end
end Go.Proofs.YtodbhccfajgekaaGreatDoor
