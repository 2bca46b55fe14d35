/-
  Contracts of old that give back a list of numbers, said of abstract values. No condition.
-/
import Derived.Test.YtfocnmkbnccilaaC1
import Derived.Test.YtfocnmkbnccilaaNest
set_option linter.unusedVariables false
set_option linter.unusedSimpArgs false
namespace Go.Proofs.Ytfocnmkbnccilaa
open Go.RowKit
theorem rt_ints {w : World} {S : Nat → Prop} {v : Value} {l : List Int} (h : RT w S v (sI l)) (hS : ∀ b, S b → b < w.heap.size) (hl : ∀ x ∈ l, ok64 x) : RI w v l := by
  obtain ⟨A, cap, rfl, hc, hm, _, hA⟩ := h.sl_inv
  refine ⟨A, cap, by simp, by simpa using hc, hm, fun h0 => ?_⟩
  obtain ⟨b, o, rfl, hb, U, hcell, hr, _⟩ := hA (by simpa using h0)
  refine ⟨b, o, rfl, hS b hb, fun i hi => ⟨[.int .i64 l[i]], fun j u hu => ?_, rfl, ?_⟩⟩
  · have h1 : (l.map fun n => [eI n])[i]? = some [eI l[i]] := by simp [hi]
    have h2 := hcell i 0 _ _ h1 rfl
    have h3 := rtc (hr i 0 _ _ h1 rfl)
    cases j with
    | zero =>
      simp at hu
      subst hu
      rw [h3] at h2
      simpa [intR] using h2
    | succ j => simp at hu
  · have := hl _ (List.getElem_mem hi)
    exact wf_i64_mk this.1 this.2
theorem adet_of_list {f : FuncId} {args : List AV} {l : List Int} (he : Enters Try.prog f)
    (h : ∀ (S : Nat → Prop) (w : World) (vs : Array Value), (∀ b, S b → b < w.heap.size) → vs.size = args.length → (∀ (j : Nat) (v : Value) (av : AV), vs[j]? = some v → args[j]? = some av → RT w S v av) → Calls Try.prog f vs w (ListPost l w)) : ADet Try.prog f args (own 3 1 (l.map fun n => [eI n])) :=
  ⟨he, fun S w vs h1 h2 h3 => (h S w vs h1 h2 h3).mono fun e w' ⟨v, h4, h5, h6⟩ => by
    have hget : ∀ id o, (own 3 1 (l.map fun n => [eI n])).tab.get id = some o → id = 0 ∧ o = .row 3 1 (l.map fun n => [eI n]) := fun id o ho => by
      simp only [own, ATab.get_cons] at ho
      split at ho
      · cases ho
        exact ⟨by assumption, rfl⟩
      · cases ho
    refine ⟨v, fun _ => v, _, rfl, own_ok .., h4, ⟨h6, fun id o ho => ?_, fun id id' o o' g h7 h8 _ _ => ?_⟩, .osl _ _ fun sz u hk => ?_⟩
    · obtain ⟨_, rfl⟩ := hget id o ho
      refine ⟨fun row hr => ?_, _, by rw [List.length_map]; exact ownsR_of h5, fun x hx => ?_, fun i j row av ha hb => ?_⟩
      · obtain ⟨n, _, rfl⟩ := List.mem_map.1 hr
        rfl
      · obtain ⟨n, _, rfl⟩ := List.mem_map.1 hx
        rfl
      · rw [List.getElem?_map] at ha
        cases hi : l[i]? with
        | none => simp [hi] at ha
        | some n =>
          simp [hi] at ha
          subst ha
          cases j with
          | zero =>
            simp at hb
            subst hb
            exact ⟨.int .i64 n, by simp [hi], .c _⟩
          | succ j => simp at hb
    · rw [(hget id o h7).1, (hget id' o' h8).1]
    · unfold Kx at hk
      cases ho : (own 3 1 (l.map fun n => [eI n])).tab.get 0 with
      | none => simp [ho] at hk
      | some o => simp [ho] at hk; exact hk.2⟩
theorem two_args {vs : Array Value} (h : vs.size = 2) : ∃ a b, vs = #[a, b] := ⟨vs[0], vs[1], by apply Array.ext (by simpa using h); intro i h1 h2; simp at h2; match i with | 0 => rfl | 1 => rfl⟩
theorem gives_tree {r av : AV} {st : ASt} (h : r.ren [] = av) : aGives ⟨r, [], 0⟩ st av := ⟨[], List.nodup_nil, h, trivial⟩
theorem pairs_plain {l : List (Bool × Int)} : ∀ row ∈ l.map eBI, ∀ av ∈ row, av.plain := fun row hr av ha => by
  obtain ⟨n, _, rfl⟩ := List.mem_map.1 hr
  simp at ha
  rcases ha with rfl | rfl <;> trivial
theorem sentryTy : (Try.prog.fieldsOf 57).toList.map (fun f => (f.name, f.type, f.offset)) = [("Mile", 4, 0), ("N", 3, 1)] := by kernel_rfl
theorem sentryBin (op : BinOp) (hop : op = .eql ∨ op = .neq) (a b : Bool × Int) : BinRun Try.prog op 57 (.agg #[.bool a.1, .int .i64 a.2]) (.agg #[.bool b.1, .int .i64 b.2]) (.bool (if op matches .eql then (a.1 == b.1 && a.2 == b.2) else !(a.1 == b.1 && a.2 == b.2))) := by
  have ht := sentryTy
  obtain ⟨f, g, hfs⟩ : ∃ f g, (Try.prog.fieldsOf 57).toList = [f, g] := by
    generalize (Try.prog.fieldsOf 57).toList = l at ht ⊢
    cases l with
    | nil => simp at ht
    | cons f l => cases l with
      | nil => simp at ht
      | cons g l => cases l with
        | nil => exact ⟨f, g, rfl⟩
        | cons h l => simp at ht
  rw [hfs] at ht
  simp only [List.map_cons, List.map_nil, List.cons.injEq, Prod.mk.injEq, and_true] at ht
  obtain ⟨⟨h1, h2, h3⟩, h4, h5, h6⟩ := ht
  refine structRun [(.bool a.1, .bool b.1), (.int .i64 a.2, .int .i64 b.2)] (by kernel_rfl) (by kernel_rfl) (by kernel_rfl) (by rw [hfs]; rfl) (fun k f' p hk hp => ?_) (by simp [cellsEq, cellEq]) hop
  rw [hfs] at hk
  match k, hk, hp with
  | 0, hk, hp =>
    cases hk
    cases hp
    refine ⟨by rw [h1]; decide, ?_, by rw [h3]; rfl, by rw [h3]; rfl⟩
    rw [h2]
    kernel_rfl
  | 1, hk, hp =>
    cases hk
    cases hp
    refine ⟨by rw [h4]; decide, ?_, by rw [h6]; rfl, by rw [h6]; rfl⟩
    rw [h5]
    kernel_rfl
  | k + 2, hk, hp => simp at hk
end Go.Proofs.Ytfocnmkbnccilaa
