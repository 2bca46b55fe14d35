/-
  Parts of the proof: QF, QJ, AlY, QK, QL.
-/
import Derived.Test.YtbpocemhnmmloaaDoorQcl6
set_option linter.unusedVariables false
set_option linter.unusedSimpArgs false
namespace Go.Proofs.YtbpocemhnmmloaaDoor
section
open Go.RowKit
def ixD {κ : Type} [DecidableEq κ] (D : List κ) (k : κ) : Nat := D.idxOf k
theorem ixD_at {κ : Type} [DecidableEq κ] {D : List κ} (hn : D.Nodup) {i : Nat} (hi : i < D.length) : ixD D D[i] = i := idx_at hn hi
/-- a map from texts to numbers by first places -/
def entsF (D : List ByteArray) : List (Value × Value) := D.zipIdx.map fun p => (Value.string p.1, Value.int .i64 (p.2 : Int))
theorem entsF_mem {D : List ByteArray} {e : Value × Value} (h : e ∈ entsF D) : ∃ (i : Nat) (s : ByteArray), D[i]? = some s ∧ e = (.string s, .int .i64 (i : Int)) := by
  obtain ⟨⟨s, i⟩, hp, rfl⟩ := List.mem_map.1 h
  exact ⟨i, s, by have := List.mk_mem_zipIdx_iff_getElem?.1 hp; exact this, rfl⟩
theorem entsF_in {D : List ByteArray} {i : Nat} {s : ByteArray} (h : D[i]? = some s) : (Value.string s, Value.int .i64 (i : Int)) ∈ entsF D :=
  List.mem_map.2 ⟨(s, i), List.mk_mem_zipIdx_iff_getElem?.2 h, rfl⟩
theorem entsF_has {D : List ByteArray} (hn : D.Nodup) {s : ByteArray} {r : Option Value} (hr : MapHas (entsF D) (.string s) r) : (s ∈ D ∧ r = some (.int .i64 (ixD D s : Int))) ∨ (s ∉ D ∧ r = none) := by
  cases r with
  | some v =>
    left
    obtain ⟨i, t, h1, h2⟩ := entsF_mem hr
    simp only [Prod.mk.injEq, Value.string.injEq] at h2
    obtain ⟨rfl, rfl⟩ := h2
    have hlt := (List.getElem?_eq_some_iff.1 h1).1
    have he := (List.getElem?_eq_some_iff.1 h1).2
    refine ⟨List.mem_of_getElem? h1, ?_⟩
    rw [← he, ixD_at hn hlt]
  | none =>
    right
    refine ⟨fun hm => ?_, rfl⟩
    obtain ⟨i, hi⟩ := List.getElem?_of_mem hm
    exact hr _ (entsF_in hi) rfl
theorem entsF_put {D : List ByteArray} {s : ByteArray} {ents' : List (Value × Value)} (hs : s ∉ D) (hp : MapPut (entsF D) (.string s) (.int .i64 (D.length : Int)) ents') : ents' = entsF (D ++ [s]) := by
  rcases hp with ⟨j, o, h1, _⟩ | ⟨_, rfl⟩
  · obtain ⟨i, t, h2, h3⟩ := entsF_mem (List.mem_of_getElem? h1)
    simp only [Prod.mk.injEq, Value.string.injEq] at h3
    obtain ⟨rfl, _⟩ := h3
    exact absurd (List.mem_of_getElem? h2) hs
  · simp [entsF, List.zipIdx_append]
theorem entsF_len (D : List ByteArray) : (entsF D).length = D.length := by simp [entsF]
theorem keyedS : Maps.Keyed Tryd.prog 9 := Maps.string_keyed (by kernel_rfl)
theorem fitS {s : ByteArray} (h : s.size ≤ 1000000) : KeyFit Tryd.prog 9 (.string s) := by
  have hu : Tryd.prog.underlying 9 = some .string := by kernel_rfl
  have hm : s.size ≤ maxLen := by simp [maxLen]; omega
  exact ⟨.string s.data.toList, by simp [keyOf, hu, mapKey, hm]⟩
theorem mapFitS {D : List ByteArray} {s : ByteArray} (hD : ∀ x ∈ D, x.size ≤ 1000000) (hs : s.size ≤ 1000000) : MapFit Tryd.prog 9 (entsF D) (.string s) :=
  ⟨keyedS, fitS hs, fun e he => by
    obtain ⟨i, t, h1, rfl⟩ := entsF_mem he
    exact fitS (hD t (List.mem_of_getElem? h1))⟩
/-- what is written so far -/
def outF (ks : List ByteArray) (k : Nat) : List Int := (numF ks).take k ++ List.replicate (ks.length - k) 0
theorem outF_len (ks : List ByteArray) {k : Nat} (hk : k ≤ ks.length) : (outF ks k).length = ks.length := by
  simp [outF, numF_len]
  omega
theorem numF_step {κ : Type} [DecidableEq κ] (ks : List κ) {k : Nat} (hk : k < ks.length) : (ks[k] ∈ distF (ks.take k) → (numF ks)[k]'(by rw [numF_len]; exact hk) = (ixD (distF (ks.take k)) ks[k] : Int)) ∧ (ks[k] ∉ distF (ks.take k) → (numF ks)[k]'(by rw [numF_len]; exact hk) = ((distF (ks.take k)).length : Int)) := by
  have hpre : distF (ks.take (k + 1)) <+: distF ks := by
    have := distF_app (ks.take (k + 1)) (ks.drop (k + 1))
    rwa [List.take_append_drop] at this
  have hsn : distF (ks.take (k + 1)) = addD (distF (ks.take k)) ks[k] := by rw [List.take_succ_eq_append_getElem hk, distF_snoc]
  have e := idx_pre hpre (k := ks[k]) (by rw [hsn, addD_mem]; exact .inr rfl)
  rw [hsn] at e
  refine ⟨fun h => ?_, fun h => ?_⟩
  · rw [numF_at ks k hk, e, addD, if_pos h]
    rfl
  · rw [numF_at ks k hk, e, addD, if_neg h, List.idxOf_append, if_neg h]
    simp
theorem dist_old {κ : Type} [DecidableEq κ] (ks : List κ) {k : Nat} (hk : k < ks.length) (h : ks[k] ∈ distF (ks.take k)) : distF (ks.take (k + 1)) = distF (ks.take k) := by
  rw [List.take_succ_eq_append_getElem hk, distF_snoc, addD, if_pos h]
theorem dist_new {κ : Type} [DecidableEq κ] (ks : List κ) {k : Nat} (hk : k < ks.length) (h : ks[k] ∉ distF (ks.take k)) : distF (ks.take (k + 1)) = distF (ks.take k) ++ [ks[k]] := by
  rw [List.take_succ_eq_append_getElem hk, distF_snoc, addD, if_neg h]
theorem outF_set (ks : List ByteArray) {k : Nat} (hk : k < ks.length) {v : Int} (hv : (numF ks)[k]'(by rw [numF_len]; exact hk) = v) : (eIs (outF ks k)).set k [eI v] = eIs (outF ks (k + 1)) := by
  have e : (outF ks k).set k v = outF ks (k + 1) := by
    apply List.ext_getElem (by rw [List.length_set, outF_len _ (by omega), outF_len _ (by omega)])
    intro i h1 h2
    rw [List.length_set, outF_len _ (by omega)] at h1
    rw [List.getElem_set]
    have hn := numF_len ks
    split
    · rename_i h
      subst h
      rw [← hv]
      simp only [outF, List.getElem_append, List.length_take, hn]
      rw [dif_pos (by omega)]
      simp
    · rename_i h
      simp only [outF, List.getElem_append, List.length_take, hn]
      by_cases h3 : i < k
      · rw [dif_pos (by omega), dif_pos (by omega)]
        simp
      · rw [dif_neg (by omega), dif_neg (by omega)]
        simp
  rw [← e]
  simp [eIs, List.map_set]
theorem outF_all (ks : List ByteArray) : outF ks ks.length = numF ks := by simp [outF, numF_len, List.take_of_length_le]
theorem dist_take_sub (ks : List ByteArray) (k : Nat) {B : Nat} (h : ∀ x ∈ ks, x.size ≤ B) : ∀ x ∈ distF (ks.take k), x.size ≤ B := fun x hx => h x (List.mem_of_mem_take ((distF_mem _ _).1 hx))
/-- the numbers that rows hold -/
def intsOf (rows : List (List AV)) : List Int := rows.map fun r => match r with
  | [.c (.int _ x)] => x
  | _ => 0
theorem intsOf_eIs (l : List Int) : intsOf (eIs l) = l := by
  simp [intsOf, eIs, Function.comp_def]
def manySt (st : ASt) : Nat := match st.tab.get 2 with
  | some (.box _ [.sl _ rows]) => (manyF (intsOf rows)).toNat
  | _ => 0
theorem numF_bd {κ : Type} [DecidableEq κ] (ks : List κ) : ∀ x ∈ numF ks, 0 ≤ x ∧ x < ks.length := by
  intro x hx
  obtain ⟨k, hk, rfl⟩ := List.mem_map.1 hx
  have h1 := List.idxOf_lt_length_of_mem ((distF_mem ks k).2 hk)
  have h2 := nodup_sub _ ks (distF_nodup ks) fun x hx => (distF_mem _ _).1 hx
  omega
theorem itF_bd (next : List (List Int)) (col : List Int) (t : Nat) : ∀ x ∈ itF next col t, 0 ≤ x ∧ x < next.length := by
  cases t with
  | zero => intro x hx; have := numF_bd _ x hx; simpa [keys0] using this
  | succ t => intro x hx; have := numF_bd _ x hx; simpa [keysF] using this
def keysB0 (next : List (List Int)) (col : List Int) : List ByteArray := (keys0 next col).map itoaB
def keysB (next : List (List Int)) (c : List Int) : List ByteArray := (List.range next.length).map (keyB next c)
theorem keysB0_num (next : List (List Int)) (col : List Int) : numF (keysB0 next col) = itF next col 0 := numF_map _ fun a _ b _ h => itoa_inj (toQ_inj h)
theorem keysB_num (next : List (List Int)) (col : List Int) (t : Nat) : numF (keysB next (itF next col t)) = itF next col (t + 1) := by
  have : keysB next (itF next col t) = (keysF next (itF next col t)).map fun k => toQ (numsT k) := by simp [keysB, keysF, keyB, Function.comp_def]
  rw [this, numF_map]
  · rfl
  · intro a ha b hb h
    obtain ⟨i, _, rfl⟩ := List.mem_map.1 ha
    obtain ⟨j, _, rfl⟩ := List.mem_map.1 hb
    exact keyB_inj h
end
section
/-- has each place behind a one behind b that is not told apart from it? -/
def covF (next : List (List Int)) (A : Nat → Nat → Bool) (a b : Nat) : Bool := (next.getD a []).all fun x => !inQ next.length x || (next.getD b []).any fun y => inQ next.length y && !(A x.toNat y.toNat)
def updA (A : Nat → Nat → Bool) (i k : Nat) (a b : Nat) : Bool := A a b || decide (a = i ∧ b = k)
/-- what is told apart is of two classes -/
def Tells (n : Nat) (c : List Int) (A : Nat → Nat → Bool) : Prop := ∀ i k, i < n → k < n → A i k = true → atQ c (i : Int) ≠ atQ c (k : Int)
/-- what is not told apart has one colour, and what follows it neither -/
def Stays (next : List (List Int)) (col : List Int) (A : Nat → Nat → Bool) : Prop := ∀ i k, i < next.length → k < next.length → A i k = false → atQ col (i : Int) = atQ col (k : Int) ∧ covF next A i k = true ∧ covF next A k i = true
theorem cov_spec {next : List (List Int)} {A : Nat → Nat → Bool} {a b : Nat} : covF next A a b = true ↔ ∀ x ∈ next.getD a [], inQ next.length x = true → ∃ y ∈ next.getD b [], inQ next.length y = true ∧ A x.toNat y.toNat = false := by
  unfold covF
  rw [List.all_eq_true]
  constructor
  · intro h x hx hin
    have := h x hx
    rw [hin] at this
    simp at this
    obtain ⟨y, h1, h2, h3⟩ := this
    exact ⟨y, h1, h2, h3⟩
  · intro h x hx
    cases hin : inQ next.length x with
    | false => rfl
    | true =>
      obtain ⟨y, h1, h2, h3⟩ := h x hx hin
      simp
      exact ⟨y, h1, h2, h3⟩
theorem inQ_nat {n : Nat} {x : Int} (h : inQ n x = true) : x.toNat < n ∧ (x.toNat : Int) = x := by
  simp [inQ] at h
  omega
/-- pairs that are told apart for what follows them are of two classes -/
theorem tells_cov {next : List (List Int)} {c : List Int} {A : Nat → Nat → Bool} {i k : Nat} (hA : Tells next.length c A) (hi : i < next.length) (hk : k < next.length)
    (hst : atQ c (i : Int) = atQ c (k : Int) → behF next c i = behF next c k) (h : covF next A i k = false) : atQ c (i : Int) ≠ atQ c (k : Int) := by
  intro he
  have hb := behF_eq.1 (hst he)
  have : covF next A i k = true := cov_spec.2 fun x hx hin => by
    obtain ⟨y, hy, hyin, hxy⟩ := behS_mem.1 ((hb (atQ c x)).1 (behS_mem.2 ⟨x, hx, hin, rfl⟩))
    refine ⟨y, hy, hyin, ?_⟩
    obtain ⟨h1, h2⟩ := inQ_nat hin
    obtain ⟨h3, h4⟩ := inQ_nat hyin
    cases hb2 : A x.toNat y.toNat with
    | false => rfl
    | true =>
      have := hA _ _ h1 h3 hb2
      rw [h2, h4] at this
      exact absurd hxy.symm this
  rw [h] at this
  cases this
theorem stays_eq {next : List (List Int)} {col : List Int} {A : Nat → Nat → Bool} (hA : Stays next col A) : ∀ (t i k : Nat), i < next.length → k < next.length → A i k = false → atQ (itF next col t) (i : Int) = atQ (itF next col t) (k : Int)
  | 0, i, k, hi, hk, h => (it0_eq hi hk).2 (hA i k hi hk h).1
  | t + 1, i, k, hi, hk, h => by
    obtain ⟨_, h1, h2⟩ := hA i k hi hk h
    refine (itS_eq t hi hk).2 ⟨stays_eq hA t i k hi hk h, behF_eq.2 fun z => ?_⟩
    have go : ∀ i k, covF next A i k = true → z ∈ behS next (itF next col t) i → z ∈ behS next (itF next col t) k := fun i k hc hz => by
      obtain ⟨x, hx, hin, rfl⟩ := behS_mem.1 hz
      obtain ⟨y, hy, hyin, hxy⟩ := cov_spec.1 hc x hx hin
      refine behS_mem.2 ⟨y, hy, hyin, ?_⟩
      obtain ⟨h3, h4⟩ := inQ_nat hin
      obtain ⟨h5, h6⟩ := inQ_nat hyin
      have := stays_eq hA t _ _ h3 h5 hxy
      rw [h4, h6] at this
      exact this.symm
    exact ⟨go i k h1, go k i h2⟩
/-- told apart just if of two classes -/
theorem apart_iff {next : List (List Int)} {col : List Int} {A : Nat → Nat → Bool} {t : Nat} (h1 : Stays next col A) (h2 : Tells next.length (itF next col t) A) {i k : Nat} (hi : i < next.length) (hk : k < next.length) :
    A i k = false ↔ atQ (itF next col t) (i : Int) = atQ (itF next col t) (k : Int) := by
  constructor
  · exact stays_eq h1 t i k hi hk
  · intro h
    cases hb : A i k with
    | false => rfl
    | true => exact absurd h (h2 i k hi hk hb)
/-- numbers by first places -/
structure Numd (c : List Int) (D : Nat → Nat) : Prop where
  zero : D 0 = 0
  le : ∀ i, D i ≤ i
  old : ∀ i (hi : i < c.length), c[i] ∈ c.take i → D (i + 1) = D i
  new : ∀ i (hi : i < c.length), c[i] ∉ c.take i → c[i] = (D i : Int) ∧ D (i + 1) = D i + 1
theorem numd_num {κ : Type} [DecidableEq κ] (ks : List κ) : Numd (numF ks) fun i => (distF (ks.take i)).length := by
  have hm : ∀ i (hi : i < (numF ks).length), (numF ks)[i] ∈ (numF ks).take i ↔ ks[i]'(by rw [numF_len] at hi; exact hi) ∈ distF (ks.take i) := fun i hi => by
    have hi2 : i < ks.length := by rw [numF_len] at hi; exact hi
    rw [distF_mem]
    constructor
    · intro h
      obtain ⟨j, hj, he⟩ := List.getElem_of_mem h
      rw [List.length_take] at hj
      have hj2 : j < ks.length := by omega
      rw [List.getElem_take] at he
      have := (numF_eq ks j i hj2 hi2).1 he
      rw [← this]
      exact List.mem_take_iff_getElem.2 ⟨j, by omega, rfl⟩
    · intro h
      obtain ⟨j, hj, he⟩ := List.mem_take_iff_getElem.1 h
      have hj2 : j < ks.length := by omega
      have := (numF_eq ks j i hj2 hi2).2 he
      rw [← this]
      exact List.mem_take_iff_getElem.2 ⟨j, by rw [numF_len]; omega, rfl⟩
  refine ⟨by simp [distF], fun i => ?_, fun i hi h => ?_, fun i hi h => ?_⟩
  · have := nodup_sub _ (ks.take i) (distF_nodup _) fun x hx => (distF_mem _ _).1 hx
    have := List.length_take_le i ks
    omega
  · have hi2 : i < ks.length := by rw [numF_len] at hi; exact hi
    show (distF (ks.take (i + 1))).length = _
    rw [dist_old ks hi2 ((hm i hi).1 h)]
  · have hi2 : i < ks.length := by rw [numF_len] at hi; exact hi
    have hn : ks[i] ∉ distF (ks.take i) := fun h' => h ((hm i hi).2 h')
    refine ⟨(numF_step ks hi2).2 hn, ?_⟩
    show (distF (ks.take (i + 1))).length = _
    rw [dist_new ks hi2 hn]
    simp
theorem numd_it (next : List (List Int)) (col : List Int) (t : Nat) : ∃ D, Numd (itF next col t) D := by
  cases t with
  | zero => exact ⟨_, numd_num _⟩
  | succ t => exact ⟨_, numd_num _⟩
end
section
open Go.RowKit
theorem envIn_any {st : ASt} : ∀ {l : List (Nat × AV)} (t : Nat), envIn st l → aget l t = st.get t ∨ aget l t = .any
  | [], t, _ => .inr rfl
  | (k, av) :: l, t, h => by
    unfold aget
    split
    · rename_i e
      rw [e]
      exact .inl h.1.symm
    · exact envIn_any t h.2
/-- slots are let go, objects are not -/
theorem weak_env {st : ASt} {env : List (Nat × AV)} (he : envIn st env) : Weak st ⟨st.n, env, st.tab, st.next⟩ := fun cx a w L h =>
  ⟨L, ⟨h.lay, h.size, h.defers, h.young, fun t => by
    show RVx cx w st.tab L _ (if t < st.n then aget env t else .any) ∧ (if t < st.n then aget env t else .any).lt st.next
    split
    case isFalse => exact ⟨.tree (.any _), trivial⟩
    rcases envIn_any t he with h1 | h1
    · rw [h1]
      exact h.env t
    · rw [h1]
      exact ⟨.tree (.any _), trivial⟩⟩, fun b hb => hb⟩
/-- a slice of its own may name what is its own -/
theorem weak_nest {st : ASt} (id : Nat) {e : TypeId} {sz : Nat} {rows : List (List AV)} (hid : st.tab.get id = some (.row e sz rows)) : Weak st ⟨st.n, st.env, (id, some (.nest e sz rows)) :: st.tab, st.next⟩ := by
  intro cx a w L h
  have hget : ∀ k o, ATab.get ((id, some (.nest e sz rows)) :: st.tab) k = some o → ∃ o', st.tab.get k = some o' ∧ o.sz = o'.sz := fun k o hk => by
    rw [ATab.get_cons] at hk
    split at hk
    · rename_i e1
      cases hk
      exact ⟨.row e sz rows, by rw [e1]; exact hid, rfl⟩
    · exact ⟨o, hk, rfl⟩
  have hext : Ext cx w st.tab L st.next w ((id, some (.nest e sz rows)) :: st.tab) L := ⟨fun _ _ => rfl, fun b hb => ⟨hb.1, hb.2.1, fun k o hk => by
    obtain ⟨o', h1, _⟩ := hget k o hk
    exact hb.2.2 k o' h1⟩, fun k p _ hk => by
    unfold Kx at *
    cases ho : ATab.get ((id, some (.nest e sz rows)) :: st.tab) k with
    | none => simp [ho] at hk
    | some o =>
      obtain ⟨o', h1, h2⟩ := hget k o ho
      rw [h1]
      simpa [ho, h2] using hk⟩
  have hob := h.lay.objs id _ hid
  refine ⟨L, ⟨⟨h.lay.below, fun k o hk => ?_, fun k k' o o' g h1 h2 => ?_, fun b hb => ⟨(h.lay.ex b hb).1, fun k o hk => by
    obtain ⟨o', h1, _⟩ := hget k o hk
    exact (h.lay.ex b hb).2 k o' h1⟩⟩, h.size, h.defers.mono (fun _ _ => rfl) hext.sub, fun k o hk => ?_, fun t => ⟨hext.rv (h.env t).1 (h.env t).2, (h.env t).2⟩⟩, hext.sub⟩
  · rw [ATab.get_cons] at hk
    split at hk
    · rename_i e1
      cases hk
      rw [e1]
      obtain ⟨h1, xs, h2, h3, h4⟩ := hob
      exact ⟨h1, xs, h2, h3, fun i j row av h5 h6 => (h4 i j row av h5 h6).elim fun x hx => ⟨x, hx.1, .tree (hext.rt hx.2)⟩⟩
    · exact hext.obj (h.lay.objs k o hk) (h.young k o hk).2 fun _ _ => rfl
  · obtain ⟨o1, h3, _⟩ := hget k o h1
    obtain ⟨o2, h4, _⟩ := hget k' o' h2
    exact h.lay.sep k k' o1 o2 g h3 h4
  · rw [ATab.get_cons] at hk
    split at hk
    · rename_i e1
      cases hk
      refine ⟨by rw [e1]; exact (h.young id _ hid).1, fun row hr => ltL_iff.2 fun av ha => ?_⟩
      obtain ⟨i, hi⟩ := List.getElem?_of_mem hr
      obtain ⟨j, hj⟩ := List.getElem?_of_mem ha
      obtain ⟨_, xs, _, _, h4⟩ := hob
      obtain ⟨x, _, hx⟩ := h4 i j row av hi hj
      exact hx.lt _
    · exact h.young k o hk
section
variable {cx : Cx} {w : World} {tab : ATab} {L : Nat → Value}
theorem nest_rt {e : TypeId} {sz : Nat} {v : Value} {rows : List (List AV)} {S : Nat → Prop} (f : AV → AV) (hf : ∀ x av, RVx cx w tab L x av → RT w S x (f av)) (h : ObjAt cx w tab L v (.nest e sz rows)) (hg0 : ∀ g, vblk v = some g → S g) : RT w S v (.sl sz (rows.map fun row => row.map f)) := by
  obtain ⟨hrow, xs, hown, hone, hx⟩ := h
  have hg : ∀ i j (row : List AV) (av : AV), (rows.map fun row => row.map f)[i]? = some row → row[j]? = some av → ∃ row' av', rows[i]? = some row' ∧ row'[j]? = some av' ∧ av = f av' := fun i j row av h1 h2 => by
    rw [List.getElem?_map] at h1
    cases hi : rows[i]? with
    | none => simp [hi] at h1
    | some row' =>
      simp [hi] at h1
      subst h1
      rw [List.getElem?_map] at h2
      cases hj : row'[j]? with
      | none => simp [hj] at h2
      | some av' =>
        simp [hj] at h2
        exact ⟨row', av', hi, hj, h2.symm⟩
  have hm : ∀ i j (row : List AV) (av : AV), (rows.map fun row => row.map f)[i]? = some row → row[j]? = some av → (xs[i * sz + j]?.getD undef).oneCell' = true ∧ RT w S (xs[i * sz + j]?.getD undef) av ∧ ∃ x, xs[i * sz + j]? = some x := fun i j row av h1 h2 => by
    obtain ⟨row', av', h3, h4, rfl⟩ := hg i j row av h1 h2
    obtain ⟨x, hx1, hx2⟩ := hx i j row' av' h3 h4
    rw [hx1]
    exact ⟨hone x (List.mem_of_getElem? hx1), hf x av' hx2, x, rfl⟩
  have hrow' : ∀ row ∈ (rows.map fun row => row.map f), row.length = sz := fun row hr => by
    obtain ⟨r, h1, rfl⟩ := List.mem_map.1 hr
    rw [List.length_map]
    exact hrow r h1
  rcases hown.2 with ⟨rfl, h0⟩ | ⟨g, cap, cur, rfl, hb, hgh, hc, hm', _⟩
  · exact .sl none _ 0 sz _ 0 0 (fun i j => xs[i * sz + j]?.getD undef) (by rw [List.length_map]; exact h0.symm) (Nat.le_refl _) (by omega) (fun h => by omega) hrow' (fun h => by omega) (fun i j row av h1 h2 => (hm i j row av h1 h2).1) (fun i j row av h1 h2 => (hm i j row av h1 h2).2.1)
  · refine .sl _ _ cap sz _ g 0 (fun i j => xs[i * sz + j]?.getD undef) (by rw [List.length_map]) hc (by simpa [maxLen] using hm') (fun _ => ⟨rfl, hg0 g rfl⟩) hrow' (fun _ i j row av h1 h2 => ?_) (fun i j row av h1 h2 => (hm i j row av h1 h2).1) (fun i j row av h1 h2 => (hm i j row av h1 h2).2.1)
    obtain ⟨x, hx⟩ := (hm i j row av h1 h2).2.2
    have := hown.cells (g := g) rfl _ x hx
    rw [addAddr0] at this
    rw [hx, Nat.zero_add]
    exact this
theorem strip_rt {S : Nat → Prop} (hS : ∀ b, Sx cx w tab L b → S b) {x : Value} {av : AV} (h : RVx cx w tab L x av) : RT w S x (stripA av) := by
  cases av with
  | c v =>
    obtain rfl := h.c_inv
    exact .c x
  | sl sz rows => exact h.sl_inv.mono (fun _ _ => rfl) hS
  | rp cs => exact (show RT w (Sx cx w tab L) x (.rp cs) by cases h with | tree h => exact h).mono (fun _ _ => rfl) hS
  | _ => exact .any _
theorem dref0_rt {S : Nat → Prop} (hL : Lay cx w tab L) (hS : ∀ b, Sx cx w tab L b → S b) (hO : ∀ id o g, tab.get id = some o → vblk (L id) = some g → S g) {x : Value} {av : AV} (h : RVx cx w tab L x av) : RT w S x (dref0 tab av) := by
  cases av with
  | osl id =>
    unfold dref0
    simp only
    split
    · rename_i e sz rows hid
      rw [(osl_row hL hid h).1]
      exact rt_row (hL.objs id _ hid) hS fun g hg => hO id _ g hid hg
    · rename_i e sz rows hid
      rw [(osl_nest hL hid h).1]
      exact nest_rt stripA (fun x av h => strip_rt hS h) (hL.objs id _ hid) fun g hg => hO id _ g hid hg
    · exact .any _
  | c v => exact strip_rt hS h
  | sl sz rows => exact strip_rt hS h
  | rp cs => exact strip_rt hS h
  | _ => exact .any _
theorem dref1_rt {S : Nat → Prop} (hL : Lay cx w tab L) (hS : ∀ b, Sx cx w tab L b → S b) (hO : ∀ id o g, tab.get id = some o → vblk (L id) = some g → S g) {x : Value} {av : AV} (h : RVx cx w tab L x av) : RT w S x (dref1 tab av) := by
  cases av with
  | osl id =>
    unfold dref1
    simp only
    split
    · rename_i e sz rows hid
      rw [(osl_row hL hid h).1]
      exact rt_row (hL.objs id _ hid) hS fun g hg => hO id _ g hid hg
    · rename_i e sz rows hid
      rw [(osl_nest hL hid h).1]
      exact nest_rt (dref0 tab) (fun x av h => dref0_rt hL hS hO h) (hL.objs id _ hid) fun g hg => hO id _ g hid hg
    · exact .any _
  | c v => exact strip_rt hS h
  | sl sz rows => exact strip_rt hS h
  | rp cs => exact strip_rt hS h
  | _ => exact .any _
end
/-- what it made is written no more: one slot is read, as what it holds -/
theorem weak_flat {st : ASt} (s : Nat) : Weak st ⟨st.n, [(s, dref1 st.tab (st.get s))], [], st.next⟩ := by
  intro cx a w L h
  have hS : ∀ b, Sx cx w st.tab L b → Sx cx w [] L b := fun b hb => ⟨hb.1, hb.2.1, fun k o hk => by cases hk⟩
  refine ⟨L, ⟨⟨h.lay.below, fun k o hk => (by cases hk), fun k k' o o' g h1 => (by cases h1), fun b hb => ⟨(h.lay.ex b hb).1, fun k o hk => by cases hk⟩⟩, h.size, h.defers.mono (fun _ _ => rfl) hS, fun k o hk => (by cases hk), fun t => ?_⟩, hS⟩
  show RVx cx w [] L _ (if t < st.n then aget [(s, dref1 st.tab (st.get s))] t else .any) ∧ (if t < st.n then aget [(s, dref1 st.tab (st.get s))] t else .any).lt st.next
  split
  case isFalse => exact ⟨.tree (.any _), trivial⟩
  unfold aget
  split
  · rename_i e
    subst e
    have hr := dref1_rt h.lay hS (fun id o g hid hg => ⟨((h.lay.objs id o hid).ge hg).2, ⟨.inr ((h.lay.objs id o hid).ge hg).1, fun hX => (h.lay.ex g hX).2 id o hid hg⟩, fun k o hk => by cases hk⟩) (h.env t).1
    exact ⟨.tree hr, hr.lt _⟩
  · exact ⟨.tree (.any _), trivial⟩
end
section
open Go.RowKit

def rowB (n : Nat) (f : Nat → Bool) : List (List AV) := (List.range n).map fun k => [eB (f k)]
def apRows (n : Nat) (A : Nat → Nat → Bool) : List (List AV) := (List.range n).map fun i => [.sl 1 (rowB n (A i))]
def sAp (n : Nat) (A : Nat → Nat → Bool) : AV := .sl 1 (apRows n A)
def idRows (m : Nat) (ids : Nat → Nat) : List (List AV) := (List.range m).map fun i => [.osl (ids i)]
theorem rowB_len (n : Nat) (f : Nat → Bool) : (rowB n f).length = n := by simp [rowB]
theorem apRows_len (n : Nat) (A : Nat → Nat → Bool) : (apRows n A).length = n := by simp [apRows]
theorem idRows_len (m : Nat) (ids : Nat → Nat) : (idRows m ids).length = m := by simp [idRows]
theorem rowB_at {n k : Nat} (f : Nat → Bool) (h : k < n) : (rowB n f)[k]?.getD [] = [eB (f k)] := by simp [rowB, h]
theorem apRows_at {n k : Nat} (A : Nat → Nat → Bool) (h : k < n) : (apRows n A)[k]?.getD [] = [.sl 1 (rowB n (A k))] := by simp [apRows, h]
theorem idRows_at {m k : Nat} (ids : Nat → Nat) (h : k < m) : (idRows m ids)[k]?.getD [] = [.osl (ids k)] := by simp [idRows, h]
theorem rowB_set {n k : Nat} (f : Nat → Bool) (h : k < n) (v : Bool) (g : Nat → Bool) (hg : ∀ j, j < n → g j = if j = k then v else f j) : (rowB n f).set k [eB v] = rowB n g := by
  apply List.ext_getElem?
  intro j
  rw [List.getElem?_set]
  by_cases hj : j < n
  · have := hg j hj
    by_cases e : k = j
    · subst e
      simp [rowB, hj, this]
    · simp [rowB, hj, this, e, Ne.symm e]
  · simp [rowB, hj]
    omega
theorem rowB_ext {n : Nat} {f g : Nat → Bool} (h : ∀ j, j < n → f j = g j) : rowB n f = rowB n g := by
  unfold rowB
  apply List.map_congr_left
  intro j hj
  rw [h j (List.mem_range.1 hj)]
theorem rowB_strip (n : Nat) (f : Nat → Bool) : ((rowB n f).map fun row => row.map stripA) = rowB n f := by
  simp [rowB, stripA, Function.comp_def]
theorem take_all {α : Type} {p : α → Bool} {l : List α} {k : Nat} (hk : k < l.length) : (l.take (k + 1)).all p = ((l.take k).all p && p l[k]) := by
  rw [List.take_succ_eq_append_getElem hk, List.all_append, List.all_cons, List.all_nil, Bool.and_true]
theorem take_any {α : Type} {p : α → Bool} {l : List α} {k : Nat} (hk : k < l.length) : (l.take (k + 1)).any p = ((l.take k).any p || p l[k]) := by
  rw [List.take_succ_eq_append_getElem hk, List.any_append, List.any_cons, List.any_nil, Bool.or_false]
theorem at45_A (l : List Int) (i : Nat) (hl : l.length ≤ 1000000) : ADet Tryd.prog 24 [sI l, eI (i : Int)] (val (.int .i64 (atQ l (i : Int)))) := by
  refine adet_of_code mixedT Tryd.func24 rfl (by decide) Tryd.ntmps24 Tryd.results24 rfl (val_ok _) ?_
  have h0 : decide ((0 : Int) ≤ (i : Int)) = true := decide_eq_true (by omega)
  by_cases h1 : i < l.length
  · have d1 : decide ((i : Int) < (l.length : Int)) = true := decide_eq_true (by omega)
    have e : atQ l (i : Int) = l[i] := atQ_nat h1
    have hr : (eIs l)[i]?.getD [] = [eI l[i]] := by simp [h1]
    rw [e]
    (repeat' (first | simp (maxSteps := 5000000) (implicitDefEqProofs := false) only [ruA, ruB, aEv, aTake, aLoad, aField, aIndex, aLen, aBin, bin2, aUn, un1, aExtract, aConv, ASt.get, aget, ASt.put, aStore, aBox, aAppend, aBuildSlice, aMake, aBuild, aFill, oneParts, allC, aBinS, yv, aCells, oneC, oneCL, treeC, treeL, treeML, treeM_c, treeM_sl, treeM_rp, treeM_any, treeM_fn, treeM_bfn, aLit, aDst, aSrc, appTab, Value.cells, Value.oneCell', envOf, aResL, aOne, ↓reduceIte, reduceCtorEq, forall_const, Nat.reduceLT, Nat.reduceEqDiff, Nat.reduceAdd, Nat.reduceMul, Nat.reduceSub, Nat.reduceLeDiff, Nat.reduceBEq, eq_self, implies_true, ne_eq, dref, dref1, dref2, aExecS, aStoreB, aTakes, aTakeE, aElder, aFrom, aFresh, isLoad, aBuildSlice1, aDstN, aSrcN, aLitN, dref0, stripA, frzs, frz1, ownIds, AV.frz, AV.frzL, frzEnv, AV.shift, AV.shiftL, aFieldV, aSliceW, aSliceO, aSlice, aSliceR, aSliceS, aBd, aMax, frzAVs, frzAV, frzTab, AObj.frz, aMM, aNilS, aMay, aNil, aLenM, aClear, aLookup, aLookG, aMapUpd, aMapPut, keyV, aLookR, false_or, aExecU, tyK_3, tyE_23, tyK_23, tyA_3, tyS_3, h0, d1, h1, hr] | (with_reducible refine aIf_split (fun _ => ?_) (fun _ => ?_)) | (with_reducible refine aSel_split (fun _ => ?_) (fun _ => ?_)) | (with_reducible refine aGd_split (fun _ => ?_) (fun _ => ?_))))
  · have d1 : decide ((i : Int) < (l.length : Int)) = false := decide_eq_false (by omega)
    have e : atQ l (i : Int) = 0 := if_neg fun h => h1 (by omega)
    rw [e]
    have d2 : decide (i < l.length) = false := decide_eq_false h1
    (repeat' (first | simp (maxSteps := 5000000) (implicitDefEqProofs := false) only [ruA, ruB, aEv, aTake, aLoad, aField, aIndex, aLen, aBin, bin2, aUn, un1, aExtract, aConv, ASt.get, aget, ASt.put, aStore, aBox, aAppend, aBuildSlice, aMake, aBuild, aFill, oneParts, allC, aBinS, yv, aCells, oneC, oneCL, treeC, treeL, treeML, treeM_c, treeM_sl, treeM_rp, treeM_any, treeM_fn, treeM_bfn, aLit, aDst, aSrc, appTab, Value.cells, Value.oneCell', envOf, aResL, aOne, ↓reduceIte, reduceCtorEq, forall_const, Nat.reduceLT, Nat.reduceEqDiff, Nat.reduceAdd, Nat.reduceMul, Nat.reduceSub, Nat.reduceLeDiff, Nat.reduceBEq, eq_self, implies_true, ne_eq, dref, dref1, dref2, aExecS, aStoreB, aTakes, aTakeE, aElder, aFrom, aFresh, isLoad, aBuildSlice1, aDstN, aSrcN, aLitN, dref0, stripA, frzs, frz1, ownIds, AV.frz, AV.frzL, frzEnv, AV.shift, AV.shiftL, aFieldV, aSliceW, aSliceO, aSlice, aSliceR, aSliceS, aBd, aMax, frzAVs, frzAV, frzTab, AObj.frz, aMM, aNilS, aMay, aNil, aLenM, aClear, aLookup, aLookG, aMapUpd, aMapPut, keyV, aLookR, false_or, aExecU, tyK_3, tyE_23, tyK_23, tyA_3, tyS_3, h0, d1, d2] | (with_reducible refine aIf_split (fun _ => ?_) (fun _ => ?_)) | (with_reducible refine aSel_split (fun _ => ?_) (fun _ => ?_)) | (with_reducible refine aGd_split (fun _ => ?_) (fun _ => ?_))))
def covQ (n : Nat) (A : Nat → Nat → Bool) (x y : Int) : Bool := inQ n y && !(A x.toNat y.toNat)
def covP (n : Nat) (A : Nat → Nat → Bool) (q : List Int) (x : Int) : Bool := !inQ n x || q.any (covQ n A x)
set_option maxRecDepth 100000 in
set_option maxHeartbeats 4000000 in
theorem covers_A (next : List (List Int)) (A : Nat → Nat → Bool) (a b : Nat) (hn : next.length ≤ 1000) (hr : ∀ r ∈ next, r.length ≤ 1000) (ha : a < next.length) (hb : b < next.length) :
    ADet Tryd.prog 25 [sNx next, sAp next.length A, eI (a : Int), eI (b : Int)] (val (.bool (covF next A a b))) := by
  obtain ⟨p, hp⟩ : ∃ p, p = next.getD a [] := ⟨_, rfl⟩
  obtain ⟨q, hq⟩ : ∃ q, q = next.getD b [] := ⟨_, rfl⟩
  have hcov : covF next A a b = p.all (covP next.length A q) := by rw [hp, hq]; rfl
  rw [hcov]
  have rp := sNx_at ha
  have rq := sNx_at hb
  rw [← hp] at rp
  rw [← hq] at rq
  have hpl : p.length ≤ 1000 := by
    rw [hp]
    simp only [List.getD, List.getElem?_eq_getElem ha, Option.getD_some]
    exact hr _ (List.getElem_mem ha)
  have hql : q.length ≤ 1000 := by
    rw [hq]
    simp only [List.getD, List.getElem?_eq_getElem hb, Option.getD_some]
    exact hr _ (List.getElem_mem hb)
  clear hcov hp hq
  unfold sAp
  refine adet_of_code mixedT Tryd.func25 rfl (by decide) Tryd.ntmps25 Tryd.results25 rfl (val_ok _) ?_
  (repeat' (first | simp (maxSteps := 5000000) (implicitDefEqProofs := false) only [ruA, ruB, aEv, aTake, aLoad, aField, aIndex, aLen, aBin, bin2, aUn, un1, aExtract, aConv, ASt.get, aget, ASt.put, aStore, aBox, aAppend, aBuildSlice, aMake, aBuild, aFill, oneParts, allC, aBinS, yv, aCells, oneC, oneCL, treeC, treeL, treeML, treeM_c, treeM_sl, treeM_rp, treeM_any, treeM_fn, treeM_bfn, aLit, aDst, aSrc, appTab, Value.cells, Value.oneCell', envOf, aResL, aOne, ↓reduceIte, reduceCtorEq, forall_const, Nat.reduceLT, Nat.reduceEqDiff, Nat.reduceAdd, Nat.reduceMul, Nat.reduceSub, Nat.reduceLeDiff, Nat.reduceBEq, eq_self, implies_true, ne_eq, dref, dref1, dref2, aExecS, aStoreB, aTakes, aTakeE, aElder, aFrom, aFresh, isLoad, aBuildSlice1, aDstN, aSrcN, aLitN, dref0, stripA, frzs, frz1, ownIds, AV.frz, AV.frzL, frzEnv, AV.shift, AV.shiftL, aFieldV, aSliceW, aSliceO, aSlice, aSliceR, aSliceS, aBd, aMax, frzAVs, frzAV, frzTab, AObj.frz, aMM, aNilS, aMay, aNil, aLenM, aClear, aLookup, aLookG, aMapUpd, aMapPut, keyV, aLookR, false_or, aExecU, tyE_22, tyA_23, tyS_23, tyE_23, tyK_23, tyK_3, tyA_3, tyS_3, tyK_22, tyE_37, tyA_39, tyS_39, tyE_39, tyA_4, tyS_4] | (with_reducible refine aIf_split (fun _ => ?_) (fun _ => ?_)) | (with_reducible refine aSel_split (fun _ => ?_) (fun _ => ?_)) | (with_reducible refine aGd_split (fun _ => ?_) (fun _ => ?_))))
  refine aLoop_of (fun st => ∃ i : Nat, i ≤ p.length ∧ (p.take i).all (covP next.length A q) = true ∧ st = ⟨77, [(0, sNx next), (1, .sl 1 (apRows next.length A)), (2, eI (a : Int)), (3, eI (b : Int)), (9, eI (i : Int))], [], 0⟩) (fun st => p.length - slotN st 9) ⟨_, (weak_cut1 (by (first | ((simp only [envIn, tabIn, envLt, tabLt, AObj.lt, AV.lt, AV.ltL, ruW, ASt.get, aget, ASt.put, ↓reduceIte, reduceCtorEq, Nat.reduceLT, Nat.reduceEqDiff, Nat.reduceAdd, Nat.reduceLeDiff, eq_self, implies_true]) <;> (repeat' apply And.intro) <;> first | (rw [wrapK (by omega)]; done) | (simp; done) | omega) | fail))), 0, Nat.zero_le _, rfl, rfl⟩ ?_
  rintro _ ⟨i, hi, hpre, rfl⟩
  by_cases hlt : i < p.length
  · have hx : (eIs p)[i]?.getD [] = [eI p[i]] := by simp [hlt]
    have hall := take_all (p := covP next.length A q) hlt
    rw [hpre, Bool.true_and] at hall
    obtain ⟨x, hxe⟩ : ∃ x, x = p[i] := ⟨_, rfl⟩
    rw [← hxe] at hx hall
    have hfail : covP next.length A q x = false → p.all (covP next.length A q) = false := fun h => by
      rw [hxe] at h
      exact List.all_eq_false.2 ⟨_, List.getElem_mem hlt, by simp [h]⟩
    by_cases hin : 0 ≤ x ∧ x < next.length
    · have d0 : decide (x < 0) = false := decide_eq_false (by omega)
      have d1 : decide ((next.length : Int) ≤ x) = false := decide_eq_false (by omega)
      have hin' : inQ next.length x = true := by simp [inQ, hin]
      have hxt : x.toNat < next.length := by omega
      have hcp : covP next.length A q x = q.any (covQ next.length A x) := by simp [covP, hin']
      have rx := apRows_at A hxt
      have i0 : (0 : Int) ≤ x := hin.1
      have i1 : x < (next.length : Int) := hin.2
      (repeat' (first | simp (maxSteps := 5000000) (implicitDefEqProofs := false) only [ruA, ruB, aEv, aTake, aLoad, aField, aIndex, aLen, aBin, bin2, aUn, un1, aExtract, aConv, ASt.get, aget, ASt.put, aStore, aBox, aAppend, aBuildSlice, aMake, aBuild, aFill, oneParts, allC, aBinS, yv, aCells, oneC, oneCL, treeC, treeL, treeML, treeM_c, treeM_sl, treeM_rp, treeM_any, treeM_fn, treeM_bfn, aLit, aDst, aSrc, appTab, Value.cells, Value.oneCell', envOf, aResL, aOne, ↓reduceIte, reduceCtorEq, forall_const, Nat.reduceLT, Nat.reduceEqDiff, Nat.reduceAdd, Nat.reduceMul, Nat.reduceSub, Nat.reduceLeDiff, Nat.reduceBEq, eq_self, implies_true, ne_eq, dref, dref1, dref2, aExecS, aStoreB, aTakes, aTakeE, aElder, aFrom, aFresh, isLoad, aBuildSlice1, aDstN, aSrcN, aLitN, dref0, stripA, frzs, frz1, ownIds, AV.frz, AV.frzL, frzEnv, AV.shift, AV.shiftL, aFieldV, aSliceW, aSliceO, aSlice, aSliceR, aSliceS, aBd, aMax, frzAVs, frzAV, frzTab, AObj.frz, aMM, aNilS, aMay, aNil, aLenM, aClear, aLookup, aLookG, aMapUpd, aMapPut, keyV, aLookR, false_or, aExecU, tyE_22, tyA_23, tyS_23, tyE_23, tyK_23, tyK_3, tyA_3, tyS_3, tyK_22, tyE_37, tyA_39, tyS_39, tyE_39, tyA_4, tyS_4, ha, hlt, rp, hx, d0, d1] | (with_reducible refine aIf_split (fun _ => ?_) (fun _ => ?_)) | (with_reducible refine aSel_split (fun _ => ?_) (fun _ => ?_)) | (with_reducible refine aGd_split (fun _ => ?_) (fun _ => ?_))))
      refine aLoop_of (fun st => ∃ k : Nat, k ≤ q.length ∧ st = ⟨77, [(0, sNx next), (1, .sl 1 (apRows next.length A)), (2, eI (a : Int)), (3, eI (b : Int)), (9, eI (i : Int)), (10, eI x), (11, eB ((q.take k).any (covQ next.length A x))), (12, eI (k : Int))], [], 0⟩) (fun st => q.length - slotN st 12) ⟨_, (weak_cut1 (by (first | ((simp only [envIn, tabIn, envLt, tabLt, AObj.lt, AV.lt, AV.ltL, ruW, ASt.get, aget, ASt.put, ↓reduceIte, reduceCtorEq, Nat.reduceLT, Nat.reduceEqDiff, Nat.reduceAdd, Nat.reduceLeDiff, eq_self, implies_true, List.take_zero, List.any_nil]) <;> (repeat' apply And.intro) <;> first | (rw [wrapK (by omega)]; done) | (simp; done) | omega) | fail))), 0, Nat.zero_le _, rfl⟩ ?_
      rintro _ ⟨k, hk, rfl⟩
      by_cases hkl : k < q.length
      · have hy : (eIs q)[k]?.getD [] = [eI q[k]] := by simp [hkl]
        have hany := take_any (p := covQ next.length A x) hkl
        obtain ⟨y, hye⟩ : ∃ y, y = q[k] := ⟨_, rfl⟩
        rw [← hye] at hy hany
        cases hacc : (q.take k).any (covQ next.length A x) with
        | true =>
          have hany' : (q.take (k + 1)).any (covQ next.length A x) = true := by rw [hany, hacc]; rfl
          (repeat' (first | simp (maxSteps := 5000000) (implicitDefEqProofs := false) only [ruA, ruB, aEv, aTake, aLoad, aField, aIndex, aLen, aBin, bin2, aUn, un1, aExtract, aConv, ASt.get, aget, ASt.put, aStore, aBox, aAppend, aBuildSlice, aMake, aBuild, aFill, oneParts, allC, aBinS, yv, aCells, oneC, oneCL, treeC, treeL, treeML, treeM_c, treeM_sl, treeM_rp, treeM_any, treeM_fn, treeM_bfn, aLit, aDst, aSrc, appTab, Value.cells, Value.oneCell', envOf, aResL, aOne, ↓reduceIte, reduceCtorEq, forall_const, Nat.reduceLT, Nat.reduceEqDiff, Nat.reduceAdd, Nat.reduceMul, Nat.reduceSub, Nat.reduceLeDiff, Nat.reduceBEq, eq_self, implies_true, ne_eq, dref, dref1, dref2, aExecS, aStoreB, aTakes, aTakeE, aElder, aFrom, aFresh, isLoad, aBuildSlice1, aDstN, aSrcN, aLitN, dref0, stripA, frzs, frz1, ownIds, AV.frz, AV.frzL, frzEnv, AV.shift, AV.shiftL, aFieldV, aSliceW, aSliceO, aSlice, aSliceR, aSliceS, aBd, aMax, frzAVs, frzAV, frzTab, AObj.frz, aMM, aNilS, aMay, aNil, aLenM, aClear, aLookup, aLookG, aMapUpd, aMapPut, keyV, aLookR, false_or, aExecU, tyE_22, tyA_23, tyS_23, tyE_23, tyK_23, tyK_3, tyA_3, tyS_3, tyK_22, tyE_37, tyA_39, tyS_39, tyE_39, tyA_4, tyS_4, hb, hkl, rq, hy] | (with_reducible refine aIf_split (fun _ => ?_) (fun _ => ?_)) | (with_reducible refine aSel_split (fun _ => ?_) (fun _ => ?_)) | (with_reducible refine aGd_split (fun _ => ?_) (fun _ => ?_))))
          exact roundI (weak_cut1 (by (first | ((simp only [envIn, tabIn, envLt, tabLt, AObj.lt, AV.lt, AV.ltL, ruW, ASt.get, aget, ASt.put, ↓reduceIte, reduceCtorEq, Nat.reduceLT, Nat.reduceEqDiff, Nat.reduceAdd, Nat.reduceLeDiff, eq_self, implies_true, hany']) <;> (repeat' apply And.intro) <;> first | (rw [wrapK (by omega)]; done) | (simp; done) | omega) | fail))) ⟨k + 1, by omega, rfl⟩ (by simp only [slotN, ruW, ASt.get, aget, ASt.put, ↓reduceIte, reduceCtorEq, Nat.reduceLT, Nat.reduceEqDiff, Nat.reduceAdd, Nat.reduceLeDiff, eq_self, implies_true]; omega)
        | false =>
          have hany' : (q.take (k + 1)).any (covQ next.length A x) = covQ next.length A x y := by rw [hany, hacc]; rfl
          by_cases hyn : 0 ≤ y ∧ y < next.length
          · have e0 : decide (0 ≤ y) = true := decide_eq_true hyn.1
            have e1 : decide (y < (next.length : Int)) = true := decide_eq_true hyn.2
            have hyt : y.toNat < next.length := by omega
            have ry := rowB_at (A x.toNat) hyt
            have j0 : (0 : Int) ≤ y := hyn.1
            have j1 : y < (next.length : Int) := hyn.2
            have hc : covQ next.length A x y = !(A x.toNat y.toNat) := by simp [covQ, inQ, hyn]
            (repeat' (first | simp (maxSteps := 5000000) (implicitDefEqProofs := false) only [ruA, ruB, aEv, aTake, aLoad, aField, aIndex, aLen, aBin, bin2, aUn, un1, aExtract, aConv, ASt.get, aget, ASt.put, aStore, aBox, aAppend, aBuildSlice, aMake, aBuild, aFill, oneParts, allC, aBinS, yv, aCells, oneC, oneCL, treeC, treeL, treeML, treeM_c, treeM_sl, treeM_rp, treeM_any, treeM_fn, treeM_bfn, aLit, aDst, aSrc, appTab, Value.cells, Value.oneCell', envOf, aResL, aOne, ↓reduceIte, reduceCtorEq, forall_const, Nat.reduceLT, Nat.reduceEqDiff, Nat.reduceAdd, Nat.reduceMul, Nat.reduceSub, Nat.reduceLeDiff, Nat.reduceBEq, eq_self, implies_true, ne_eq, dref, dref1, dref2, aExecS, aStoreB, aTakes, aTakeE, aElder, aFrom, aFresh, isLoad, aBuildSlice1, aDstN, aSrcN, aLitN, dref0, stripA, frzs, frz1, ownIds, AV.frz, AV.frzL, frzEnv, AV.shift, AV.shiftL, aFieldV, aSliceW, aSliceO, aSlice, aSliceR, aSliceS, aBd, aMax, frzAVs, frzAV, frzTab, AObj.frz, aMM, aNilS, aMay, aNil, aLenM, aClear, aLookup, aLookG, aMapUpd, aMapPut, keyV, aLookR, false_or, aExecU, tyE_22, tyA_23, tyS_23, tyE_23, tyK_23, tyK_3, tyA_3, tyS_3, tyK_22, tyE_37, tyA_39, tyS_39, tyE_39, tyA_4, tyS_4, hb, hkl, rq, hy, e0, e1, apRows_len, rowB_len, i0, i1, j0, j1, rx, ry] | (with_reducible refine aIf_split (fun _ => ?_) (fun _ => ?_)) | (with_reducible refine aSel_split (fun _ => ?_) (fun _ => ?_)) | (with_reducible refine aGd_split (fun _ => ?_) (fun _ => ?_))))
            exact roundI (weak_cut1 (by (first | ((simp only [envIn, tabIn, envLt, tabLt, AObj.lt, AV.lt, AV.ltL, ruW, ASt.get, aget, ASt.put, ↓reduceIte, reduceCtorEq, Nat.reduceLT, Nat.reduceEqDiff, Nat.reduceAdd, Nat.reduceLeDiff, eq_self, implies_true, hany', hc]) <;> (repeat' apply And.intro) <;> first | (rw [wrapK (by omega)]; done) | (simp; done) | omega) | fail))) ⟨k + 1, by omega, rfl⟩ (by simp only [slotN, ruW, ASt.get, aget, ASt.put, ↓reduceIte, reduceCtorEq, Nat.reduceLT, Nat.reduceEqDiff, Nat.reduceAdd, Nat.reduceLeDiff, eq_self, implies_true]; omega)
          · have hc : covQ next.length A x y = false := by
              simp only [covQ, inQ]
              by_cases h0 : 0 ≤ y
              · have : ¬ y < next.length := fun h => hyn ⟨h0, h⟩
                simp [this]
              · simp [h0]
            by_cases h0 : 0 ≤ y
            · have e0 : decide (0 ≤ y) = true := decide_eq_true h0
              have e1 : decide (y < (next.length : Int)) = false := decide_eq_false fun h => hyn ⟨h0, h⟩
              (repeat' (first | simp (maxSteps := 5000000) (implicitDefEqProofs := false) only [ruA, ruB, aEv, aTake, aLoad, aField, aIndex, aLen, aBin, bin2, aUn, un1, aExtract, aConv, ASt.get, aget, ASt.put, aStore, aBox, aAppend, aBuildSlice, aMake, aBuild, aFill, oneParts, allC, aBinS, yv, aCells, oneC, oneCL, treeC, treeL, treeML, treeM_c, treeM_sl, treeM_rp, treeM_any, treeM_fn, treeM_bfn, aLit, aDst, aSrc, appTab, Value.cells, Value.oneCell', envOf, aResL, aOne, ↓reduceIte, reduceCtorEq, forall_const, Nat.reduceLT, Nat.reduceEqDiff, Nat.reduceAdd, Nat.reduceMul, Nat.reduceSub, Nat.reduceLeDiff, Nat.reduceBEq, eq_self, implies_true, ne_eq, dref, dref1, dref2, aExecS, aStoreB, aTakes, aTakeE, aElder, aFrom, aFresh, isLoad, aBuildSlice1, aDstN, aSrcN, aLitN, dref0, stripA, frzs, frz1, ownIds, AV.frz, AV.frzL, frzEnv, AV.shift, AV.shiftL, aFieldV, aSliceW, aSliceO, aSlice, aSliceR, aSliceS, aBd, aMax, frzAVs, frzAV, frzTab, AObj.frz, aMM, aNilS, aMay, aNil, aLenM, aClear, aLookup, aLookG, aMapUpd, aMapPut, keyV, aLookR, false_or, aExecU, tyE_22, tyA_23, tyS_23, tyE_23, tyK_23, tyK_3, tyA_3, tyS_3, tyK_22, tyE_37, tyA_39, tyS_39, tyE_39, tyA_4, tyS_4, hb, hkl, rq, hy, e0, e1] | (with_reducible refine aIf_split (fun _ => ?_) (fun _ => ?_)) | (with_reducible refine aSel_split (fun _ => ?_) (fun _ => ?_)) | (with_reducible refine aGd_split (fun _ => ?_) (fun _ => ?_))))
              exact roundI (weak_cut1 (by (first | ((simp only [envIn, tabIn, envLt, tabLt, AObj.lt, AV.lt, AV.ltL, ruW, ASt.get, aget, ASt.put, ↓reduceIte, reduceCtorEq, Nat.reduceLT, Nat.reduceEqDiff, Nat.reduceAdd, Nat.reduceLeDiff, eq_self, implies_true, hany', hc]) <;> (repeat' apply And.intro) <;> first | (rw [wrapK (by omega)]; done) | (simp; done) | omega) | fail))) ⟨k + 1, by omega, rfl⟩ (by simp only [slotN, ruW, ASt.get, aget, ASt.put, ↓reduceIte, reduceCtorEq, Nat.reduceLT, Nat.reduceEqDiff, Nat.reduceAdd, Nat.reduceLeDiff, eq_self, implies_true]; omega)
            · have e0 : decide (0 ≤ y) = false := decide_eq_false h0
              (repeat' (first | simp (maxSteps := 5000000) (implicitDefEqProofs := false) only [ruA, ruB, aEv, aTake, aLoad, aField, aIndex, aLen, aBin, bin2, aUn, un1, aExtract, aConv, ASt.get, aget, ASt.put, aStore, aBox, aAppend, aBuildSlice, aMake, aBuild, aFill, oneParts, allC, aBinS, yv, aCells, oneC, oneCL, treeC, treeL, treeML, treeM_c, treeM_sl, treeM_rp, treeM_any, treeM_fn, treeM_bfn, aLit, aDst, aSrc, appTab, Value.cells, Value.oneCell', envOf, aResL, aOne, ↓reduceIte, reduceCtorEq, forall_const, Nat.reduceLT, Nat.reduceEqDiff, Nat.reduceAdd, Nat.reduceMul, Nat.reduceSub, Nat.reduceLeDiff, Nat.reduceBEq, eq_self, implies_true, ne_eq, dref, dref1, dref2, aExecS, aStoreB, aTakes, aTakeE, aElder, aFrom, aFresh, isLoad, aBuildSlice1, aDstN, aSrcN, aLitN, dref0, stripA, frzs, frz1, ownIds, AV.frz, AV.frzL, frzEnv, AV.shift, AV.shiftL, aFieldV, aSliceW, aSliceO, aSlice, aSliceR, aSliceS, aBd, aMax, frzAVs, frzAV, frzTab, AObj.frz, aMM, aNilS, aMay, aNil, aLenM, aClear, aLookup, aLookG, aMapUpd, aMapPut, keyV, aLookR, false_or, aExecU, tyE_22, tyA_23, tyS_23, tyE_23, tyK_23, tyK_3, tyA_3, tyS_3, tyK_22, tyE_37, tyA_39, tyS_39, tyE_39, tyA_4, tyS_4, hb, hkl, rq, hy, e0] | (with_reducible refine aIf_split (fun _ => ?_) (fun _ => ?_)) | (with_reducible refine aSel_split (fun _ => ?_) (fun _ => ?_)) | (with_reducible refine aGd_split (fun _ => ?_) (fun _ => ?_))))
              exact roundI (weak_cut1 (by (first | ((simp only [envIn, tabIn, envLt, tabLt, AObj.lt, AV.lt, AV.ltL, ruW, ASt.get, aget, ASt.put, ↓reduceIte, reduceCtorEq, Nat.reduceLT, Nat.reduceEqDiff, Nat.reduceAdd, Nat.reduceLeDiff, eq_self, implies_true, hany', hc]) <;> (repeat' apply And.intro) <;> first | (rw [wrapK (by omega)]; done) | (simp; done) | omega) | fail))) ⟨k + 1, by omega, rfl⟩ (by simp only [slotN, ruW, ASt.get, aget, ASt.put, ↓reduceIte, reduceCtorEq, Nat.reduceLT, Nat.reduceEqDiff, Nat.reduceAdd, Nat.reduceLeDiff, eq_self, implies_true]; omega)
      obtain rfl : k = q.length := by omega
      rw [List.take_length]
      cases hany : q.any (covQ next.length A x) with
      | true =>
        have hall' : (p.take (i + 1)).all (covP next.length A q) = true := by rw [hall, hcp, hany]
        (repeat' (first | simp (maxSteps := 5000000) (implicitDefEqProofs := false) only [ruA, ruB, aEv, aTake, aLoad, aField, aIndex, aLen, aBin, bin2, aUn, un1, aExtract, aConv, ASt.get, aget, ASt.put, aStore, aBox, aAppend, aBuildSlice, aMake, aBuild, aFill, oneParts, allC, aBinS, yv, aCells, oneC, oneCL, treeC, treeL, treeML, treeM_c, treeM_sl, treeM_rp, treeM_any, treeM_fn, treeM_bfn, aLit, aDst, aSrc, appTab, Value.cells, Value.oneCell', envOf, aResL, aOne, ↓reduceIte, reduceCtorEq, forall_const, Nat.reduceLT, Nat.reduceEqDiff, Nat.reduceAdd, Nat.reduceMul, Nat.reduceSub, Nat.reduceLeDiff, Nat.reduceBEq, eq_self, implies_true, ne_eq, dref, dref1, dref2, aExecS, aStoreB, aTakes, aTakeE, aElder, aFrom, aFresh, isLoad, aBuildSlice1, aDstN, aSrcN, aLitN, dref0, stripA, frzs, frz1, ownIds, AV.frz, AV.frzL, frzEnv, AV.shift, AV.shiftL, aFieldV, aSliceW, aSliceO, aSlice, aSliceR, aSliceS, aBd, aMax, frzAVs, frzAV, frzTab, AObj.frz, aMM, aNilS, aMay, aNil, aLenM, aClear, aLookup, aLookG, aMapUpd, aMapPut, keyV, aLookR, false_or, aExecU, tyE_22, tyA_23, tyS_23, tyE_23, tyK_23, tyK_3, tyA_3, tyS_3, tyK_22, tyE_37, tyA_39, tyS_39, tyE_39, tyA_4, tyS_4, hb, rq, hkl] | (with_reducible refine aIf_split (fun _ => ?_) (fun _ => ?_)) | (with_reducible refine aSel_split (fun _ => ?_) (fun _ => ?_)) | (with_reducible refine aGd_split (fun _ => ?_) (fun _ => ?_))))
        exact roundI (weak_cut1 (by (first | ((simp only [envIn, tabIn, envLt, tabLt, AObj.lt, AV.lt, AV.ltL, ruW, ASt.get, aget, ASt.put, ↓reduceIte, reduceCtorEq, Nat.reduceLT, Nat.reduceEqDiff, Nat.reduceAdd, Nat.reduceLeDiff, eq_self, implies_true]) <;> (repeat' apply And.intro) <;> first | (rw [wrapK (by omega)]; done) | (simp; done) | omega) | fail))) ⟨i + 1, by omega, hall', rfl⟩ (by simp only [slotN, ruW, ASt.get, aget, ASt.put, ↓reduceIte, reduceCtorEq, Nat.reduceLT, Nat.reduceEqDiff, Nat.reduceAdd, Nat.reduceLeDiff, eq_self, implies_true]; omega)
      | false =>
        have hf := hfail (by rw [hcp, hany])
        (repeat' (first | simp (maxSteps := 5000000) (implicitDefEqProofs := false) only [ruA, ruB, aEv, aTake, aLoad, aField, aIndex, aLen, aBin, bin2, aUn, un1, aExtract, aConv, ASt.get, aget, ASt.put, aStore, aBox, aAppend, aBuildSlice, aMake, aBuild, aFill, oneParts, allC, aBinS, yv, aCells, oneC, oneCL, treeC, treeL, treeML, treeM_c, treeM_sl, treeM_rp, treeM_any, treeM_fn, treeM_bfn, aLit, aDst, aSrc, appTab, Value.cells, Value.oneCell', envOf, aResL, aOne, ↓reduceIte, reduceCtorEq, forall_const, Nat.reduceLT, Nat.reduceEqDiff, Nat.reduceAdd, Nat.reduceMul, Nat.reduceSub, Nat.reduceLeDiff, Nat.reduceBEq, eq_self, implies_true, ne_eq, dref, dref1, dref2, aExecS, aStoreB, aTakes, aTakeE, aElder, aFrom, aFresh, isLoad, aBuildSlice1, aDstN, aSrcN, aLitN, dref0, stripA, frzs, frz1, ownIds, AV.frz, AV.frzL, frzEnv, AV.shift, AV.shiftL, aFieldV, aSliceW, aSliceO, aSlice, aSliceR, aSliceS, aBd, aMax, frzAVs, frzAV, frzTab, AObj.frz, aMM, aNilS, aMay, aNil, aLenM, aClear, aLookup, aLookG, aMapUpd, aMapPut, keyV, aLookR, false_or, aExecU, tyE_22, tyA_23, tyS_23, tyE_23, tyK_23, tyK_3, tyA_3, tyS_3, tyK_22, tyE_37, tyA_39, tyS_39, tyE_39, tyA_4, tyS_4, hb, rq, hkl, hf] | (with_reducible refine aIf_split (fun _ => ?_) (fun _ => ?_)) | (with_reducible refine aSel_split (fun _ => ?_) (fun _ => ?_)) | (with_reducible refine aGd_split (fun _ => ?_) (fun _ => ?_))))
    · have hcp : covP next.length A q x = true := by
        simp only [covP, inQ]
        by_cases h0 : 0 ≤ x
        · have : ¬ x < next.length := fun h => hin ⟨h0, h⟩
          simp [this]
        · simp [h0]
      have hall' : (p.take (i + 1)).all (covP next.length A q) = true := by rw [hall, hcp]
      by_cases h0 : x < 0
      · have d0 : decide (x < 0) = true := decide_eq_true h0
        (repeat' (first | simp (maxSteps := 5000000) (implicitDefEqProofs := false) only [ruA, ruB, aEv, aTake, aLoad, aField, aIndex, aLen, aBin, bin2, aUn, un1, aExtract, aConv, ASt.get, aget, ASt.put, aStore, aBox, aAppend, aBuildSlice, aMake, aBuild, aFill, oneParts, allC, aBinS, yv, aCells, oneC, oneCL, treeC, treeL, treeML, treeM_c, treeM_sl, treeM_rp, treeM_any, treeM_fn, treeM_bfn, aLit, aDst, aSrc, appTab, Value.cells, Value.oneCell', envOf, aResL, aOne, ↓reduceIte, reduceCtorEq, forall_const, Nat.reduceLT, Nat.reduceEqDiff, Nat.reduceAdd, Nat.reduceMul, Nat.reduceSub, Nat.reduceLeDiff, Nat.reduceBEq, eq_self, implies_true, ne_eq, dref, dref1, dref2, aExecS, aStoreB, aTakes, aTakeE, aElder, aFrom, aFresh, isLoad, aBuildSlice1, aDstN, aSrcN, aLitN, dref0, stripA, frzs, frz1, ownIds, AV.frz, AV.frzL, frzEnv, AV.shift, AV.shiftL, aFieldV, aSliceW, aSliceO, aSlice, aSliceR, aSliceS, aBd, aMax, frzAVs, frzAV, frzTab, AObj.frz, aMM, aNilS, aMay, aNil, aLenM, aClear, aLookup, aLookG, aMapUpd, aMapPut, keyV, aLookR, false_or, aExecU, tyE_22, tyA_23, tyS_23, tyE_23, tyK_23, tyK_3, tyA_3, tyS_3, tyK_22, tyE_37, tyA_39, tyS_39, tyE_39, tyA_4, tyS_4, ha, hlt, rp, hx, d0] | (with_reducible refine aIf_split (fun _ => ?_) (fun _ => ?_)) | (with_reducible refine aSel_split (fun _ => ?_) (fun _ => ?_)) | (with_reducible refine aGd_split (fun _ => ?_) (fun _ => ?_))))
        exact roundI (weak_cut1 (by (first | ((simp only [envIn, tabIn, envLt, tabLt, AObj.lt, AV.lt, AV.ltL, ruW, ASt.get, aget, ASt.put, ↓reduceIte, reduceCtorEq, Nat.reduceLT, Nat.reduceEqDiff, Nat.reduceAdd, Nat.reduceLeDiff, eq_self, implies_true]) <;> (repeat' apply And.intro) <;> first | (rw [wrapK (by omega)]; done) | (simp; done) | omega) | fail))) ⟨i + 1, by omega, hall', rfl⟩ (by simp only [slotN, ruW, ASt.get, aget, ASt.put, ↓reduceIte, reduceCtorEq, Nat.reduceLT, Nat.reduceEqDiff, Nat.reduceAdd, Nat.reduceLeDiff, eq_self, implies_true]; omega)
      · have d0 : decide (x < 0) = false := decide_eq_false h0
        have d1 : decide ((next.length : Int) ≤ x) = true := decide_eq_true (by omega)
        (repeat' (first | simp (maxSteps := 5000000) (implicitDefEqProofs := false) only [ruA, ruB, aEv, aTake, aLoad, aField, aIndex, aLen, aBin, bin2, aUn, un1, aExtract, aConv, ASt.get, aget, ASt.put, aStore, aBox, aAppend, aBuildSlice, aMake, aBuild, aFill, oneParts, allC, aBinS, yv, aCells, oneC, oneCL, treeC, treeL, treeML, treeM_c, treeM_sl, treeM_rp, treeM_any, treeM_fn, treeM_bfn, aLit, aDst, aSrc, appTab, Value.cells, Value.oneCell', envOf, aResL, aOne, ↓reduceIte, reduceCtorEq, forall_const, Nat.reduceLT, Nat.reduceEqDiff, Nat.reduceAdd, Nat.reduceMul, Nat.reduceSub, Nat.reduceLeDiff, Nat.reduceBEq, eq_self, implies_true, ne_eq, dref, dref1, dref2, aExecS, aStoreB, aTakes, aTakeE, aElder, aFrom, aFresh, isLoad, aBuildSlice1, aDstN, aSrcN, aLitN, dref0, stripA, frzs, frz1, ownIds, AV.frz, AV.frzL, frzEnv, AV.shift, AV.shiftL, aFieldV, aSliceW, aSliceO, aSlice, aSliceR, aSliceS, aBd, aMax, frzAVs, frzAV, frzTab, AObj.frz, aMM, aNilS, aMay, aNil, aLenM, aClear, aLookup, aLookG, aMapUpd, aMapPut, keyV, aLookR, false_or, aExecU, tyE_22, tyA_23, tyS_23, tyE_23, tyK_23, tyK_3, tyA_3, tyS_3, tyK_22, tyE_37, tyA_39, tyS_39, tyE_39, tyA_4, tyS_4, ha, hlt, rp, hx, d0, d1] | (with_reducible refine aIf_split (fun _ => ?_) (fun _ => ?_)) | (with_reducible refine aSel_split (fun _ => ?_) (fun _ => ?_)) | (with_reducible refine aGd_split (fun _ => ?_) (fun _ => ?_))))
        exact roundI (weak_cut1 (by (first | ((simp only [envIn, tabIn, envLt, tabLt, AObj.lt, AV.lt, AV.ltL, ruW, ASt.get, aget, ASt.put, ↓reduceIte, reduceCtorEq, Nat.reduceLT, Nat.reduceEqDiff, Nat.reduceAdd, Nat.reduceLeDiff, eq_self, implies_true]) <;> (repeat' apply And.intro) <;> first | (rw [wrapK (by omega)]; done) | (simp; done) | omega) | fail))) ⟨i + 1, by omega, hall', rfl⟩ (by simp only [slotN, ruW, ASt.get, aget, ASt.put, ↓reduceIte, reduceCtorEq, Nat.reduceLT, Nat.reduceEqDiff, Nat.reduceAdd, Nat.reduceLeDiff, eq_self, implies_true]; omega)
  obtain rfl : i = p.length := by omega
  rw [List.take_length] at hpre
  (repeat' (first | simp (maxSteps := 5000000) (implicitDefEqProofs := false) only [ruA, ruB, aEv, aTake, aLoad, aField, aIndex, aLen, aBin, bin2, aUn, un1, aExtract, aConv, ASt.get, aget, ASt.put, aStore, aBox, aAppend, aBuildSlice, aMake, aBuild, aFill, oneParts, allC, aBinS, yv, aCells, oneC, oneCL, treeC, treeL, treeML, treeM_c, treeM_sl, treeM_rp, treeM_any, treeM_fn, treeM_bfn, aLit, aDst, aSrc, appTab, Value.cells, Value.oneCell', envOf, aResL, aOne, ↓reduceIte, reduceCtorEq, forall_const, Nat.reduceLT, Nat.reduceEqDiff, Nat.reduceAdd, Nat.reduceMul, Nat.reduceSub, Nat.reduceLeDiff, Nat.reduceBEq, eq_self, implies_true, ne_eq, dref, dref1, dref2, aExecS, aStoreB, aTakes, aTakeE, aElder, aFrom, aFresh, isLoad, aBuildSlice1, aDstN, aSrcN, aLitN, dref0, stripA, frzs, frz1, ownIds, AV.frz, AV.frzL, frzEnv, AV.shift, AV.shiftL, aFieldV, aSliceW, aSliceO, aSlice, aSliceR, aSliceS, aBd, aMax, frzAVs, frzAV, frzTab, AObj.frz, aMM, aNilS, aMay, aNil, aLenM, aClear, aLookup, aLookG, aMapUpd, aMapPut, keyV, aLookR, false_or, aExecU, tyE_22, tyA_23, tyS_23, tyE_23, tyK_23, tyK_3, tyA_3, tyS_3, tyK_22, tyE_37, tyA_39, tyS_39, tyE_39, tyA_4, tyS_4, ha, rp, hlt, hpre] | (with_reducible refine aIf_split (fun _ => ?_) (fun _ => ?_)) | (with_reducible refine aSel_split (fun _ => ?_) (fun _ => ?_)) | (with_reducible refine aGd_split (fun _ => ?_) (fun _ => ?_))))
end
section
open Go.RowKit

/-- a list of lists of its own: which objects, and what they hold -/
structure NestOK (T : ATab) (o m n : Nat) (ids : Nat → Nat) (A : Nat → Nat → Bool) (nx : Nat) : Prop where
  out : T.get o = some (.nest 39 1 (idRows m ids))
  inn : ∀ i, i < m → T.get (ids i) = some (.nest 4 1 (rowB n (A i)))
  inj : ∀ i j, i < m → j < m → ids i = ids j → i = j
  ne : ∀ i, i < m → ids i ≠ o
  lt : ∀ i, i < m → ids i < nx
  lo : o < nx
theorem NestOK.dref {T : ATab} {o m n : Nat} {ids : Nat → Nat} {A : Nat → Nat → Bool} {nx : Nat} (h : NestOK T o m n ids A nx) : (idRows m ids).map (fun row => row.map (dref0 T)) = (List.range m).map fun i => [.sl 1 (rowB n (A i))] := by
  unfold idRows
  rw [List.map_map]
  apply List.map_congr_left
  intro i hi
  have h1 := h.inn i (List.mem_range.1 hi)
  simp [dref0, h1, rowB_strip]
theorem NestOK.upd {T : ATab} {o m n : Nat} {ids : Nat → Nat} {A : Nat → Nat → Bool} {nx : Nat} (h : NestOK T o m n ids A nx) {i k : Nat} (hi : i < m) (hk : k < n) :
    NestOK ((ids i, some (.nest 4 1 ((rowB n (A i)).set k [eB true]))) :: T) o m n ids (updA A i k) nx := by
  refine ⟨?_, fun j hj => ?_, h.inj, h.ne, h.lt, h.lo⟩
  · rw [ATab.get_cons, if_neg fun e => h.ne i hi e.symm]
    exact h.out
  · rw [ATab.get_cons]
    by_cases e : j = i
    · subst e
      rw [if_pos rfl, rowB_set (A j) hk true (updA A j k j) fun x hx => by
        simp only [updA, true_and]
        by_cases hx : x = k
        · simp [hx]
        · simp [hx]]
    · rw [if_neg fun e2 => e (h.inj j i hj hi e2), h.inn j hj]
      have : rowB n (A j) = rowB n (updA A i k j) := rowB_ext fun x hx => by simp [updA, e]
      rw [this]
def addI (ids : Nat → Nat) (m x : Nat) (i : Nat) : Nat := if i = m then x else ids i
theorem idRows_snoc (m : Nat) (ids : Nat → Nat) (x : Nat) : idRows m ids ++ [[.osl x]] = idRows (m + 1) (addI ids m x) := by
  unfold idRows
  rw [List.range_succ, List.map_append]
  congr 1
  · apply List.map_congr_left
    intro i hi
    have := List.mem_range.1 hi
    simp [addI, Nat.ne_of_lt this]
  · simp [addI]
theorem nest_snoc {T : ATab} {m n : Nat} {ids : Nat → Nat} {A : Nat → Nat → Bool} {nx : Nat} (h1 : T.get (nx + 1 + 1) = some (.nest 39 1 (idRows m ids ++ [[.osl nx]]))) (h2 : ∀ i, i < m → T.get (ids i) = some (.nest 4 1 (rowB n (A i)))) (h3 : T.get nx = some (.nest 4 1 (rowB n (A m))))
    (hlt : ∀ i, i < m → ids i < nx) (hinj : ∀ i j, i < m → j < m → ids i = ids j → i = j) : NestOK T (nx + 1 + 1) (m + 1) n (addI ids m nx) A (nx + 1 + 1 + 1) := by
  have ha : ∀ i, i < m → addI ids m nx i = ids i := fun i hi => if_neg (by omega)
  have hm : addI ids m nx m = nx := if_pos rfl
  have hl : ∀ i, i < m + 1 → addI ids m nx i ≤ nx := fun i hi => by
    by_cases e : i = m
    · rw [e, hm]
      exact Nat.le_refl _
    · rw [ha i (by omega)]
      exact Nat.le_of_lt (hlt i (by omega))
  refine ⟨by rw [h1, idRows_snoc], fun i hi => ?_, fun i j hi hj h => ?_, fun i hi h => ?_, fun i hi => ?_, by omega⟩
  · by_cases e : i = m
    · rw [e, hm]
      exact h3
    · rw [ha i (by omega)]
      exact h2 i (by omega)
  · by_cases e : i = m <;> by_cases e2 : j = m
    · omega
    · rw [e, hm, ha j (by omega)] at h
      have := hlt j (by omega)
      omega
    · rw [e2, hm, ha i (by omega)] at h
      have := hlt i (by omega)
      omega
    · rw [ha i (by omega), ha j (by omega)] at h
      exact hinj i j (by omega) (by omega) h
  · have := hl i hi
    omega
  · have := hl i hi
    omega
/-- how many pairs are not told apart -/
def pairsN (n : Nat) : List (Nat × Nat) := (List.range n).flatMap fun i => (List.range n).map fun k => (i, k)
def cntA (n : Nat) (A : Nat → Nat → Bool) : Nat := (pairsN n).countP fun p => !A p.1 p.2
theorem pairs_mem {n i k : Nat} (hi : i < n) (hk : k < n) : (i, k) ∈ pairsN n := by
  simp [pairsN, hi, hk]
theorem countP_lt {α : Type} {p q : α → Bool} : ∀ (l : List α), (∀ x, p x = true → q x = true) → (∃ x ∈ l, p x = false ∧ q x = true) → l.countP p < l.countP q
  | [], _, h => by obtain ⟨x, h, _⟩ := h; cases h
  | a :: l, hpq, h => by
    have hle : l.countP p ≤ l.countP q := List.countP_mono_left fun x _ => hpq x
    rw [List.countP_cons, List.countP_cons]
    obtain ⟨x, hx, h1, h2⟩ := h
    rcases List.mem_cons.1 hx with rfl | hx
    · simp [h1, h2]
      omega
    · have := countP_lt l hpq ⟨x, hx, h1, h2⟩
      cases hp : p a with
      | true => simp [hpq a hp]; omega
      | false => cases q a <;> simp <;> omega
theorem cnt_upd {n : Nat} {A : Nat → Nat → Bool} {i k : Nat} : cntA n (updA A i k) ≤ cntA n A := List.countP_mono_left fun p _ h => by
  simp [updA] at h ⊢
  exact h.1
theorem cnt_lt {n : Nat} {A : Nat → Nat → Bool} {i k : Nat} (hi : i < n) (hk : k < n) (h : A i k = false) : cntA n (updA A i k) < cntA n A :=
  countP_lt _ (fun p h => by
    simp [updA] at h ⊢
    exact h.1) ⟨(i, k), pairs_mem hi hk, by simp [updA], by simp [h]⟩
/-- that number, out of what lies in the table -/
def rowOf (T : ATab) (i : Nat) (rows : List (List AV)) (k : Nat) : Bool :=
  match rows[i]? with
  | some [.osl id] => match T.get id with
    | some (.nest _ _ rs) => match rs[k]? with
      | some [.c (.bool b)] => b
      | _ => false
    | _ => false
  | _ => false
def cntSt (st : ASt) : Nat :=
  match st.get 5 with
  | .osl o => match st.tab.get o with
    | some (.nest _ _ rows) => cntA rows.length fun i k => rowOf st.tab i rows k
    | _ => 0
  | _ => 0
theorem cntA_ext {n : Nat} {A B : Nat → Nat → Bool} (h : ∀ i k, i < n → k < n → A i k = B i k) : cntA n A = cntA n B := by
  apply List.countP_congr
  intro p hp
  simp [pairsN] at hp
  obtain ⟨i, hi, k, hk, rfl⟩ := hp
  simp [h i k hi hk]
theorem cnt_of {T : ATab} {o n : Nat} {ids : Nat → Nat} {A : Nat → Nat → Bool} {nx N : Nat} {env : List (Nat × AV)} (h : NestOK T o n n ids A nx) (he : (⟨N, env, T, nx⟩ : ASt).get 5 = .osl o) : cntSt ⟨N, env, T, nx⟩ = cntA n A := by
  unfold cntSt
  rw [he]
  simp only [h.out, idRows_len]
  apply cntA_ext
  intro i k hi hk
  have h1 : (idRows n ids)[i]? = some [.osl (ids i)] := by simp [idRows, hi]
  have h2 : (rowB n (A i))[k]? = some [eB (A i k)] := by simp [rowB, hk]
  simp only [rowOf, h1, h.inn i hi, h2]
def ColOK (n : Nat) (col : List Int) (A : Nat → Nat → Bool) : Prop := ∀ i k, i < n → k < n → A i k = false → atQ col (i : Int) = atQ col (k : Int)
theorem col_upd {n : Nat} {col : List Int} {A : Nat → Nat → Bool} {i k : Nat} (h : ColOK n col A) : ColOK n col (updA A i k) := fun a b ha hb h2 => h a b ha hb (by
  simp [updA] at h2
  exact h2.1)
theorem tells_upd {n : Nat} {c : List Int} {A : Nat → Nat → Bool} {i k : Nat} (h : Tells n c A) (hne : atQ c (i : Int) ≠ atQ c (k : Int)) : Tells n c (updA A i k) := fun a b ha hb h2 => by
  simp [updA] at h2
  rcases h2 with h2 | ⟨rfl, rfl⟩
  · exact h a b ha hb h2
  · exact hne
def A0 (col : List Int) (i k : Nat) : Bool := atQ col (i : Int) != atQ col (k : Int)
def preB (f : Nat → Bool) (k j : Nat) : Bool := decide (j < k) && f j
theorem pre_zero (n : Nat) (f : Nat → Bool) : List.replicate n [eB false] = rowB n (preB f 0) := by
  apply List.ext_getElem?
  intro j
  simp [rowB, preB, List.getElem?_replicate]
  split <;> simp_all
theorem pre_set {n k : Nat} (f : Nat → Bool) (h : k < n) : (rowB n (preB f k)).set k [eB (f k)] = rowB n (preB f (k + 1)) := rowB_set _ h _ _ fun j hj => by
  unfold preB
  by_cases e : j = k
  · subst e
    simp
  · have : decide (j < k + 1) = decide (j < k) := by
      by_cases h : j < k
      · simp [h]; omega
      · simp [h]; omega
    simp [e, this]
theorem pre_all (n : Nat) (f : Nat → Bool) : rowB n (preB f n) = rowB n f := rowB_ext fun j hj => by simp [preB, hj]
/-- the rows so far -/
def Ap1 (T : ATab) (nx m n : Nat) (col : List Int) (av : AV) : Prop := (m = 0 ∧ av = .c (.slice none 0 0)) ∨ ∃ o ids, 0 < m ∧ av = .osl o ∧ NestOK T o m n ids (A0 col) nx
def ApPost (next : List (List Int)) (col : List Int) (t : Nat) (R : Res) : Prop := (next.length = 0 ∧ R = val (.slice none 0 0)) ∨ ∃ A, 0 < next.length ∧ Stays next col A ∧ Tells next.length (itF next col t) A ∧ R = ⟨sAp next.length A, [], 0⟩
structure PassOK (next : List (List Int)) (col c : List Int) (T : ATab) (nx o : Nat) (ids : Nat → Nat) (A : Nat → Nat → Bool) (cnt0 : Nat) (b : Bool) (i k : Nat) : Prop where
  nest : NestOK T o next.length next.length ids A nx
  tells : Tells next.length c A
  colr : ColOK next.length col A
  le : cntA next.length A ≤ cnt0
  dec : b = true → cntA next.length A < cnt0
  done : b = false → ∀ i' k', k' < next.length → (i' < i ∨ i' = i ∧ k' < k) → A i' k' = false → covF next A i' k' = true ∧ covF next A k' i' = true
section
variable {next : List (List Int)} {col c : List Int} {T T' : ATab} {nx o : Nat} {ids : Nat → Nat} {A : Nat → Nat → Bool} {cnt0 : Nat} {b : Bool} {i k : Nat}
theorem PassOK.skip (h : PassOK next col c T nx o ids A cnt0 b i k) (hc : A i k = false → covF next A i k = true ∧ covF next A k i = true) : PassOK next col c T nx o ids A cnt0 b i (k + 1) :=
  ⟨h.nest, h.tells, h.colr, h.le, h.dec, fun hb i' k' hk' hl h0 => by
    by_cases e : i' = i ∧ k' = k
    · obtain ⟨rfl, rfl⟩ := e
      exact hc h0
    · exact h.done hb i' k' hk' (by omega) h0⟩
theorem PassOK.set (h : PassOK next col c T nx o ids A cnt0 b i k) (hi : i < next.length) (hk : k < next.length) (h0 : A i k = false) (hne : atQ c (i : Int) ≠ atQ c (k : Int)) (hN : NestOK T' o next.length next.length ids (updA (updA A i k) k i) nx) :
    PassOK next col c T' nx o ids (updA (updA A i k) k i) cnt0 true i (k + 1) := by
  have h1 := cnt_lt hi hk h0
  have h2 := cnt_upd (n := next.length) (A := updA A i k) (i := k) (k := i)
  have h3 := h.le
  exact ⟨hN, tells_upd (tells_upd h.tells hne) hne.symm, col_upd (col_upd h.colr), by omega, fun _ => by omega, fun hb => by cases hb⟩
theorem PassOK.row (h : PassOK next col c T nx o ids A cnt0 b i next.length) : PassOK next col c T nx o ids A cnt0 b (i + 1) 0 :=
  ⟨h.nest, h.tells, h.colr, h.le, h.dec, fun hb i' k' hk' hl h0 => h.done hb i' k' hk' (by omega) h0⟩
theorem PassOK.stays (h : PassOK next col c T nx o ids A cnt0 b next.length 0) (hb : b = false) : Stays next col A := fun i k hi hk h0 => ⟨h.colr i k hi hk h0, h.done hb i k hk (by omega) h0⟩
end
theorem retSl {Post : Res → Prop} {st : ASt} {sz : Nat} {rows : List (List AV)} (h : Post ⟨.sl sz rows, [], 0⟩) : ∃ R, Post R ∧ R.Ok ∧ aGives R st (.sl sz rows) :=
  ⟨_, h, ⟨fun id o h => (by cases h), trivial⟩, ⟨[], List.nodup_nil, rfl, trivial⟩⟩
def boolSt (st : ASt) (j : Nat) : Nat := match st.get j with
  | .c (.bool true) => 1
  | _ => 0
set_option maxRecDepth 100000 in
set_option maxHeartbeats 8000000 in
theorem apart_A (next : List (List Int)) (col : List Int) (t : Nat) (hst : manyF (itF next col (t + 1)) = manyF (itF next col t)) (hn : next.length ≤ 1000) (hr : ∀ r ∈ next, r.length ≤ 1000) (hc : col.length ≤ 1000000) :
    ARel Tryd.prog 19 [sNx next, sI col] (ApPost next col t) := by
  refine arel_of_weak mixedT Tryd.func19 rfl (by decide) Tryd.ntmps19 Tryd.results19 rfl ?_
  (repeat' (first | simp (maxSteps := 5000000) (implicitDefEqProofs := false) only [ruA, ruB, aEv, aTake, aLoad, aField, aIndex, aLen, aBin, bin2, aUn, un1, aExtract, aConv, ASt.get, aget, ASt.put, aStore, aBox, aAppend, aBuildSlice, aMake, aBuild, aFill, oneParts, allC, aBinS, yv, aCells, oneC, oneCL, treeC, treeL, treeML, treeM_c, treeM_sl, treeM_rp, treeM_any, treeM_fn, treeM_bfn, aLit, aDst, aSrc, appTab, Value.cells, Value.oneCell', envOf, aResL, aOne, ↓reduceIte, reduceCtorEq, forall_const, Nat.reduceLT, Nat.reduceEqDiff, Nat.reduceAdd, Nat.reduceMul, Nat.reduceSub, Nat.reduceLeDiff, Nat.reduceBEq, eq_self, implies_true, ne_eq, dref, dref1, dref2, aExecS, aStoreB, aTakes, aTakeE, aElder, aFrom, aFresh, isLoad, aBuildSlice1, aDstN, aSrcN, aLitN, dref0, stripA, frzs, frz1, ownIds, AV.frz, AV.frzL, frzEnv, AV.shift, AV.shiftL, aFieldV, aSliceW, aSliceO, aSlice, aSliceR, aSliceS, aBd, aMax, frzAVs, frzAV, frzTab, AObj.frz, aMM, aNilS, aMay, aNil, aLenM, aClear, aLookup, aLookG, aMapUpd, aMapPut, keyV, aLookR, false_or, aExecU, tyE_22, tyK_22, tyK_3, tyR_39, tyZ_4, tyE_39, tyS_4, tyR_37, tyE_37, tyA_39, tyS_39, tyA_4] | (with_reducible refine aIf_split (fun _ => ?_) (fun _ => ?_)) | (with_reducible refine aSel_split (fun _ => ?_) (fun _ => ?_)) | (with_reducible refine aGd_split (fun _ => ?_) (fun _ => ?_))))
  refine aLoop_of (fun st => ∃ (m nx : Nat) (T : ATab) (av : AV), m ≤ next.length ∧ Ap1 T nx m next.length col av ∧ st = ⟨91, [(0, sNx next), (1, sI col), (5, av), (6, eI (m : Int))], T, nx⟩) (fun st => next.length - slotN st 6) ⟨_, (weak_env (by (first | ((simp only [envIn, ruW, ASt.get, aget, ASt.put, ↓reduceIte, reduceCtorEq, Nat.reduceLT, Nat.reduceEqDiff, Nat.reduceAdd, Nat.reduceLeDiff, eq_self, implies_true]) <;> (repeat' apply And.intro) <;> first | (rw [wrapK (by omega)]; done) | (simp; done) | omega) | fail))), 0, 0, [], .c (.slice none 0 0), Nat.zero_le _, .inl ⟨rfl, rfl⟩, rfl⟩ ?_
  rintro _ ⟨m, nx, T, av, hm, hap, rfl⟩
  by_cases hlt : m < next.length
  · have i0 : (0 : Int) ≤ (next.length : Int) := by omega
    have i1 : (next.length : Int) ≤ 16777216 := by omega
    have hz := pre_zero next.length (A0 col m)
    have hby : ((1 : Nat) : Int) * (next.length : Int) ≤ 281474976710656 := by omega
    (repeat' (first | simp (maxSteps := 5000000) (implicitDefEqProofs := false) only [ruA, ruB, aEv, aTake, aLoad, aField, aIndex, aLen, aBin, bin2, aUn, un1, aExtract, aConv, ASt.get, aget, ASt.put, aStore, aBox, aAppend, aBuildSlice, aMake, aBuild, aFill, oneParts, allC, aBinS, yv, aCells, oneC, oneCL, treeC, treeL, treeML, treeM_c, treeM_sl, treeM_rp, treeM_any, treeM_fn, treeM_bfn, aLit, aDst, aSrc, appTab, Value.cells, Value.oneCell', envOf, aResL, aOne, ↓reduceIte, reduceCtorEq, forall_const, Nat.reduceLT, Nat.reduceEqDiff, Nat.reduceAdd, Nat.reduceMul, Nat.reduceSub, Nat.reduceLeDiff, Nat.reduceBEq, eq_self, implies_true, ne_eq, dref, dref1, dref2, aExecS, aStoreB, aTakes, aTakeE, aElder, aFrom, aFresh, isLoad, aBuildSlice1, aDstN, aSrcN, aLitN, dref0, stripA, frzs, frz1, ownIds, AV.frz, AV.frzL, frzEnv, AV.shift, AV.shiftL, aFieldV, aSliceW, aSliceO, aSlice, aSliceR, aSliceS, aBd, aMax, frzAVs, frzAV, frzTab, AObj.frz, aMM, aNilS, aMay, aNil, aLenM, aClear, aLookup, aLookG, aMapUpd, aMapPut, keyV, aLookR, false_or, aExecU, tyE_22, tyK_22, tyK_3, tyR_39, tyZ_4, tyE_39, tyS_4, tyR_37, tyE_37, tyA_39, tyS_39, tyA_4, hlt, i0, i1, hby, hz] | (with_reducible refine aIf_split (fun _ => ?_) (fun _ => ?_)) | (with_reducible refine aSel_split (fun _ => ?_) (fun _ => ?_)) | (with_reducible refine aGd_split (fun _ => ?_) (fun _ => ?_))))
    refine aLoop_of (fun st => ∃ (k : Nat) (T2 : ATab), k ≤ next.length ∧ T2.get nx = some (.nest 4 1 (rowB next.length (preB (A0 col m) k))) ∧ (∀ id, id ≠ nx → T2.get id = T.get id) ∧ st = ⟨91, [(0, sNx next), (1, sI col), (5, av), (6, eI (m : Int)), (7, .osl nx), (8, eI (k : Int))], T2, nx + 1⟩) (fun st => next.length - slotN st 8) ⟨_, (weak_nest nx (e := 4) (sz := 1) (rows := rowB next.length (preB (A0 col m) 0)) (by simp [ATab.get_cons])).trans (weak_env (by (first | ((simp only [envIn, ruW, ASt.get, aget, ASt.put, ↓reduceIte, reduceCtorEq, Nat.reduceLT, Nat.reduceEqDiff, Nat.reduceAdd, Nat.reduceLeDiff, eq_self, implies_true]) <;> (repeat' apply And.intro) <;> first | (rw [wrapK (by omega)]; done) | (simp; done) | omega) | fail))), 0, _, Nat.zero_le _, (by rw [ATab.get_cons, if_pos rfl]), fun id h => by simp [ATab.get_cons, h], rfl⟩ ?_
    rintro _ ⟨k, T2, hk, hT, hTo, rfl⟩
    by_cases hkl : k < next.length
    · have hset : (rowB next.length (preB (A0 col m) k)).set k [eB (atQ col (m : Int) != atQ col (k : Int))] = rowB next.length (preB (A0 col m) (k + 1)) := pre_set (A0 col m) hkl
      have hra := rowB_at (preB (A0 col m) k) hkl
      (repeat' (first | simp (maxSteps := 5000000) (implicitDefEqProofs := false) only [ruA, ruB, aEv, aTake, aLoad, aField, aIndex, aLen, aBin, bin2, aUn, un1, aExtract, aConv, ASt.get, aget, ASt.put, aStore, aBox, aAppend, aBuildSlice, aMake, aBuild, aFill, oneParts, allC, aBinS, yv, aCells, oneC, oneCL, treeC, treeL, treeML, treeM_c, treeM_sl, treeM_rp, treeM_any, treeM_fn, treeM_bfn, aLit, aDst, aSrc, appTab, Value.cells, Value.oneCell', envOf, aResL, aOne, ↓reduceIte, reduceCtorEq, forall_const, Nat.reduceLT, Nat.reduceEqDiff, Nat.reduceAdd, Nat.reduceMul, Nat.reduceSub, Nat.reduceLeDiff, Nat.reduceBEq, eq_self, implies_true, ne_eq, dref, dref1, dref2, aExecS, aStoreB, aTakes, aTakeE, aElder, aFrom, aFresh, isLoad, aBuildSlice1, aDstN, aSrcN, aLitN, dref0, stripA, frzs, frz1, ownIds, AV.frz, AV.frzL, frzEnv, AV.shift, AV.shiftL, aFieldV, aSliceW, aSliceO, aSlice, aSliceR, aSliceS, aBd, aMax, frzAVs, frzAV, frzTab, AObj.frz, aMM, aNilS, aMay, aNil, aLenM, aClear, aLookup, aLookG, aMapUpd, aMapPut, keyV, aLookR, false_or, aExecU, tyE_22, tyK_22, tyK_3, tyR_39, tyZ_4, tyE_39, tyS_4, tyR_37, tyE_37, tyA_39, tyS_39, tyA_4, hkl] | (with_reducible refine aIf_split (fun _ => ?_) (fun _ => ?_)) | (with_reducible refine aSel_split (fun _ => ?_) (fun _ => ?_)) | (with_reducible refine aGd_split (fun _ => ?_) (fun _ => ?_))))
      refine callV (at45_A col m hc) ?_
      (repeat' (first | simp (maxSteps := 5000000) (implicitDefEqProofs := false) only [ruA, ruB, aEv, aTake, aLoad, aField, aIndex, aLen, aBin, bin2, aUn, un1, aExtract, aConv, ASt.get, aget, ASt.put, aStore, aBox, aAppend, aBuildSlice, aMake, aBuild, aFill, oneParts, allC, aBinS, yv, aCells, oneC, oneCL, treeC, treeL, treeML, treeM_c, treeM_sl, treeM_rp, treeM_any, treeM_fn, treeM_bfn, aLit, aDst, aSrc, appTab, Value.cells, Value.oneCell', envOf, aResL, aOne, ↓reduceIte, reduceCtorEq, forall_const, Nat.reduceLT, Nat.reduceEqDiff, Nat.reduceAdd, Nat.reduceMul, Nat.reduceSub, Nat.reduceLeDiff, Nat.reduceBEq, eq_self, implies_true, ne_eq, dref, dref1, dref2, aExecS, aStoreB, aTakes, aTakeE, aElder, aFrom, aFresh, isLoad, aBuildSlice1, aDstN, aSrcN, aLitN, dref0, stripA, frzs, frz1, ownIds, AV.frz, AV.frzL, frzEnv, AV.shift, AV.shiftL, aFieldV, aSliceW, aSliceO, aSlice, aSliceR, aSliceS, aBd, aMax, frzAVs, frzAV, frzTab, AObj.frz, aMM, aNilS, aMay, aNil, aLenM, aClear, aLookup, aLookG, aMapUpd, aMapPut, keyV, aLookR, false_or, aExecU, tyE_22, tyK_22, tyK_3, tyR_39, tyZ_4, tyE_39, tyS_4, tyR_37, tyE_37, tyA_39, tyS_39, tyA_4] | (with_reducible refine aIf_split (fun _ => ?_) (fun _ => ?_)) | (with_reducible refine aSel_split (fun _ => ?_) (fun _ => ?_)) | (with_reducible refine aGd_split (fun _ => ?_) (fun _ => ?_))))
      refine callV (at45_A col k hc) ?_
      (repeat' (first | simp (maxSteps := 5000000) (implicitDefEqProofs := false) only [ruA, ruB, aEv, aTake, aLoad, aField, aIndex, aLen, aBin, bin2, aUn, un1, aExtract, aConv, ASt.get, aget, ASt.put, aStore, aBox, aAppend, aBuildSlice, aMake, aBuild, aFill, oneParts, allC, aBinS, yv, aCells, oneC, oneCL, treeC, treeL, treeML, treeM_c, treeM_sl, treeM_rp, treeM_any, treeM_fn, treeM_bfn, aLit, aDst, aSrc, appTab, Value.cells, Value.oneCell', envOf, aResL, aOne, ↓reduceIte, reduceCtorEq, forall_const, Nat.reduceLT, Nat.reduceEqDiff, Nat.reduceAdd, Nat.reduceMul, Nat.reduceSub, Nat.reduceLeDiff, Nat.reduceBEq, eq_self, implies_true, ne_eq, dref, dref1, dref2, aExecS, aStoreB, aTakes, aTakeE, aElder, aFrom, aFresh, isLoad, aBuildSlice1, aDstN, aSrcN, aLitN, dref0, stripA, frzs, frz1, ownIds, AV.frz, AV.frzL, frzEnv, AV.shift, AV.shiftL, aFieldV, aSliceW, aSliceO, aSlice, aSliceR, aSliceS, aBd, aMax, frzAVs, frzAV, frzTab, AObj.frz, aMM, aNilS, aMay, aNil, aLenM, aClear, aLookup, aLookG, aMapUpd, aMapPut, keyV, aLookR, false_or, aExecU, tyE_22, tyK_22, tyK_3, tyR_39, tyZ_4, tyE_39, tyS_4, tyR_37, tyE_37, tyA_39, tyS_39, tyA_4, hT, rowB_len, hkl, hset, hra] | (with_reducible refine aIf_split (fun _ => ?_) (fun _ => ?_)) | (with_reducible refine aSel_split (fun _ => ?_) (fun _ => ?_)) | (with_reducible refine aGd_split (fun _ => ?_) (fun _ => ?_))))
      refine roundI (weak_env (by (first | ((simp only [envIn, ruW, ASt.get, aget, ASt.put, ↓reduceIte, reduceCtorEq, Nat.reduceLT, Nat.reduceEqDiff, Nat.reduceAdd, Nat.reduceLeDiff, eq_self, implies_true]) <;> (repeat' apply And.intro) <;> first | (rw [wrapK (by omega)]; done) | (simp; done) | omega) | fail))) ⟨k + 1, _, by omega, ?_, ?_, rfl⟩ (by simp only [slotN, ruW, ASt.get, aget, ASt.put, ↓reduceIte, reduceCtorEq, Nat.reduceLT, Nat.reduceEqDiff, Nat.reduceAdd, Nat.reduceLeDiff, eq_self, implies_true]; omega)
      · simp [ATab.get_cons]
      · intro id hid
        simp [ATab.get_cons, hid, hTo]
    obtain rfl : k = next.length := by omega
    rw [pre_all] at hT
    have g1 : (nx = nx + 1) = False := by simp
    rcases hap with ⟨rfl, rfl⟩ | ⟨o, ids, h0, rfl, hN⟩
    · (repeat' (first | simp (maxSteps := 5000000) (implicitDefEqProofs := false) only [ruA, ruB, aEv, aTake, aLoad, aField, aIndex, aLen, aBin, bin2, aUn, un1, aExtract, aConv, ASt.get, aget, ASt.put, aStore, aBox, aAppend, aBuildSlice, aMake, aBuild, aFill, oneParts, allC, aBinS, yv, aCells, oneC, oneCL, treeC, treeL, treeML, treeM_c, treeM_sl, treeM_rp, treeM_any, treeM_fn, treeM_bfn, aLit, aDst, aSrc, appTab, Value.cells, Value.oneCell', envOf, aResL, aOne, ↓reduceIte, reduceCtorEq, forall_const, Nat.reduceLT, Nat.reduceEqDiff, Nat.reduceAdd, Nat.reduceMul, Nat.reduceSub, Nat.reduceLeDiff, Nat.reduceBEq, eq_self, implies_true, ne_eq, dref, dref1, dref2, aExecS, aStoreB, aTakes, aTakeE, aElder, aFrom, aFresh, isLoad, aBuildSlice1, aDstN, aSrcN, aLitN, dref0, stripA, frzs, frz1, ownIds, AV.frz, AV.frzL, frzEnv, AV.shift, AV.shiftL, aFieldV, aSliceW, aSliceO, aSlice, aSliceR, aSliceS, aBd, aMax, frzAVs, frzAV, frzTab, AObj.frz, aMM, aNilS, aMay, aNil, aLenM, aClear, aLookup, aLookG, aMapUpd, aMapPut, keyV, aLookR, false_or, aExecU, tyE_22, tyK_22, tyK_3, tyR_39, tyZ_4, tyE_39, tyS_4, tyR_37, tyE_37, tyA_39, tyS_39, tyA_4, hkl, hT, g1] | (with_reducible refine aIf_split (fun _ => ?_) (fun _ => ?_)) | (with_reducible refine aSel_split (fun _ => ?_) (fun _ => ?_)) | (with_reducible refine aGd_split (fun _ => ?_) (fun _ => ?_))))
      refine ⟨rfl, roundI (weak_env (by (first | ((simp only [envIn, ruW, ASt.get, aget, ASt.put, ↓reduceIte, reduceCtorEq, Nat.reduceLT, Nat.reduceEqDiff, Nat.reduceAdd, Nat.reduceLeDiff, eq_self, implies_true]) <;> (repeat' apply And.intro) <;> first | (rw [wrapK (by omega)]; done) | (simp; done) | omega) | fail))) ⟨1, _, _, _, by omega, .inr ⟨nx + 1 + 1, addI (fun _ => 0) 0 nx, by omega, rfl, nest_snoc (m := 0) ?_ (fun i hi => by omega) ?_ (fun i hi => by omega) (fun i j hi => by omega)⟩, rfl⟩ (by simp only [slotN, ruW, ASt.get, aget, ASt.put, ↓reduceIte, reduceCtorEq, Nat.reduceLT, Nat.reduceEqDiff, Nat.reduceAdd, Nat.reduceLeDiff, eq_self, implies_true]; omega)⟩
      · simp [ATab.get_cons, idRows]
      · simp only [ATab.get_cons]
        rw [if_neg (by omega), if_neg (by omega)]
        exact hT
    · have g2 : (o = nx + 1) = False := by have := hN.lo; simp; omega
      have g3 : o ≠ nx := by have := hN.lo; omega
      have hO := (hTo o g3).trans hN.out
      (repeat' (first | simp (maxSteps := 5000000) (implicitDefEqProofs := false) only [ruA, ruB, aEv, aTake, aLoad, aField, aIndex, aLen, aBin, bin2, aUn, un1, aExtract, aConv, ASt.get, aget, ASt.put, aStore, aBox, aAppend, aBuildSlice, aMake, aBuild, aFill, oneParts, allC, aBinS, yv, aCells, oneC, oneCL, treeC, treeL, treeML, treeM_c, treeM_sl, treeM_rp, treeM_any, treeM_fn, treeM_bfn, aLit, aDst, aSrc, appTab, Value.cells, Value.oneCell', envOf, aResL, aOne, ↓reduceIte, reduceCtorEq, forall_const, Nat.reduceLT, Nat.reduceEqDiff, Nat.reduceAdd, Nat.reduceMul, Nat.reduceSub, Nat.reduceLeDiff, Nat.reduceBEq, eq_self, implies_true, ne_eq, dref, dref1, dref2, aExecS, aStoreB, aTakes, aTakeE, aElder, aFrom, aFresh, isLoad, aBuildSlice1, aDstN, aSrcN, aLitN, dref0, stripA, frzs, frz1, ownIds, AV.frz, AV.frzL, frzEnv, AV.shift, AV.shiftL, aFieldV, aSliceW, aSliceO, aSlice, aSliceR, aSliceS, aBd, aMax, frzAVs, frzAV, frzTab, AObj.frz, aMM, aNilS, aMay, aNil, aLenM, aClear, aLookup, aLookG, aMapUpd, aMapPut, keyV, aLookR, false_or, aExecU, tyE_22, tyK_22, tyK_3, tyR_39, tyZ_4, tyE_39, tyS_4, tyR_37, tyE_37, tyA_39, tyS_39, tyA_4, hkl, hT, g1, g2, hO, idRows_len, i1] | (with_reducible refine aIf_split (fun _ => ?_) (fun _ => ?_)) | (with_reducible refine aSel_split (fun _ => ?_) (fun _ => ?_)) | (with_reducible refine aGd_split (fun _ => ?_) (fun _ => ?_))))
      refine ⟨rfl, ⟨by omega, by omega⟩, roundI (weak_env (by (first | ((simp only [envIn, ruW, ASt.get, aget, ASt.put, ↓reduceIte, reduceCtorEq, Nat.reduceLT, Nat.reduceEqDiff, Nat.reduceAdd, Nat.reduceLeDiff, eq_self, implies_true]) <;> (repeat' apply And.intro) <;> first | (rw [wrapK (by omega)]; done) | (simp; done) | omega) | fail))) ⟨m + 1, _, _, _, by omega, .inr ⟨nx + 1 + 1, addI ids m nx, by omega, rfl, nest_snoc ?_ (fun i hi => ?_) ?_ hN.lt hN.inj⟩, rfl⟩ (by simp only [slotN, ruW, ASt.get, aget, ASt.put, ↓reduceIte, reduceCtorEq, Nat.reduceLT, Nat.reduceEqDiff, Nat.reduceAdd, Nat.reduceLeDiff, eq_self, implies_true]; omega)⟩
      · simp [ATab.get_cons]
      · have h1 := hN.lt i hi
        have h2 := hN.ne i hi
        have h3 := hN.inn i hi
        rw [← hTo (ids i) (by omega)] at h3
        simp only [ATab.get_cons]
        rw [if_neg (by omega), if_neg h2, if_neg (by omega)]
        exact h3
      · simp only [ATab.get_cons]
        rw [if_neg (by omega), if_neg (by omega), if_neg (by omega)]
        exact hT
  obtain rfl : m = next.length := by omega
  rcases hap with ⟨h0, rfl⟩ | ⟨o, ids, h0, rfl, hN⟩
  · (repeat' (first | simp (maxSteps := 5000000) (implicitDefEqProofs := false) only [ruA, ruB, aEv, aTake, aLoad, aField, aIndex, aLen, aBin, bin2, aUn, un1, aExtract, aConv, ASt.get, aget, ASt.put, aStore, aBox, aAppend, aBuildSlice, aMake, aBuild, aFill, oneParts, allC, aBinS, yv, aCells, oneC, oneCL, treeC, treeL, treeML, treeM_c, treeM_sl, treeM_rp, treeM_any, treeM_fn, treeM_bfn, aLit, aDst, aSrc, appTab, Value.cells, Value.oneCell', envOf, aResL, aOne, ↓reduceIte, reduceCtorEq, forall_const, Nat.reduceLT, Nat.reduceEqDiff, Nat.reduceAdd, Nat.reduceMul, Nat.reduceSub, Nat.reduceLeDiff, Nat.reduceBEq, eq_self, implies_true, ne_eq, dref, dref1, dref2, aExecS, aStoreB, aTakes, aTakeE, aElder, aFrom, aFresh, isLoad, aBuildSlice1, aDstN, aSrcN, aLitN, dref0, stripA, frzs, frz1, ownIds, AV.frz, AV.frzL, frzEnv, AV.shift, AV.shiftL, aFieldV, aSliceW, aSliceO, aSlice, aSliceR, aSliceS, aBd, aMax, frzAVs, frzAV, frzTab, AObj.frz, aMM, aNilS, aMay, aNil, aLenM, aClear, aLookup, aLookG, aMapUpd, aMapPut, keyV, aLookR, false_or, aExecU, tyE_22, tyK_22, tyK_3, tyR_39, tyZ_4, tyE_39, tyS_4, tyR_37, tyE_37, tyA_39, tyS_39, tyA_4, hlt] | (with_reducible refine aIf_split (fun _ => ?_) (fun _ => ?_)) | (with_reducible refine aSel_split (fun _ => ?_) (fun _ => ?_)) | (with_reducible refine aGd_split (fun _ => ?_) (fun _ => ?_))))
    refine aLoop_of (fun st => ∃ b : Bool, st = ⟨91, [(0, sNx next), (1, sI col), (5, .c (.slice none 0 0)), (9, eB b)], T, nx⟩) (fun st => boolSt st 9) ⟨_, (weak_env (by (first | ((simp only [envIn, ruW, ASt.get, aget, ASt.put, ↓reduceIte, reduceCtorEq, Nat.reduceLT, Nat.reduceEqDiff, Nat.reduceAdd, Nat.reduceLeDiff, eq_self, implies_true]) <;> (repeat' apply And.intro) <;> first | (rw [wrapK (by omega)]; done) | (simp; done) | omega) | fail))), true, rfl⟩ ?_
    rintro _ ⟨b, rfl⟩
    cases b with
    | false =>
      (repeat' (first | simp (maxSteps := 5000000) (implicitDefEqProofs := false) only [ruA, ruB, aEv, aTake, aLoad, aField, aIndex, aLen, aBin, bin2, aUn, un1, aExtract, aConv, ASt.get, aget, ASt.put, aStore, aBox, aAppend, aBuildSlice, aMake, aBuild, aFill, oneParts, allC, aBinS, yv, aCells, oneC, oneCL, treeC, treeL, treeML, treeM_c, treeM_sl, treeM_rp, treeM_any, treeM_fn, treeM_bfn, aLit, aDst, aSrc, appTab, Value.cells, Value.oneCell', envOf, aResL, aOne, ↓reduceIte, reduceCtorEq, forall_const, Nat.reduceLT, Nat.reduceEqDiff, Nat.reduceAdd, Nat.reduceMul, Nat.reduceSub, Nat.reduceLeDiff, Nat.reduceBEq, eq_self, implies_true, ne_eq, dref, dref1, dref2, aExecS, aStoreB, aTakes, aTakeE, aElder, aFrom, aFresh, isLoad, aBuildSlice1, aDstN, aSrcN, aLitN, dref0, stripA, frzs, frz1, ownIds, AV.frz, AV.frzL, frzEnv, AV.shift, AV.shiftL, aFieldV, aSliceW, aSliceO, aSlice, aSliceR, aSliceS, aBd, aMax, frzAVs, frzAV, frzTab, AObj.frz, aMM, aNilS, aMay, aNil, aLenM, aClear, aLookup, aLookG, aMapUpd, aMapPut, keyV, aLookR, false_or, aExecU, tyE_22, tyK_22, tyK_3, tyR_39, tyZ_4, tyE_39, tyS_4, tyR_37, tyE_37, tyA_39, tyS_39, tyA_4] | (with_reducible refine aIf_split (fun _ => ?_) (fun _ => ?_)) | (with_reducible refine aSel_split (fun _ => ?_) (fun _ => ?_)) | (with_reducible refine aGd_split (fun _ => ?_) (fun _ => ?_))))
      refine aTo_mk ((weak_env (by (first | ((simp only [envIn, ruW, ASt.get, aget, ASt.put, ↓reduceIte, reduceCtorEq, Nat.reduceLT, Nat.reduceEqDiff, Nat.reduceAdd, Nat.reduceLeDiff, eq_self, implies_true]) <;> (repeat' apply And.intro) <;> first | (rw [wrapK (by omega)]; done) | (simp; done) | omega) | fail))) : Weak _ ⟨91, [(4, .c (.slice none 0 0))], T, nx⟩) ?_
      (repeat' (first | simp (maxSteps := 5000000) (implicitDefEqProofs := false) only [ruA, ruB, aEv, aTake, aLoad, aField, aIndex, aLen, aBin, bin2, aUn, un1, aExtract, aConv, ASt.get, aget, ASt.put, aStore, aBox, aAppend, aBuildSlice, aMake, aBuild, aFill, oneParts, allC, aBinS, yv, aCells, oneC, oneCL, treeC, treeL, treeML, treeM_c, treeM_sl, treeM_rp, treeM_any, treeM_fn, treeM_bfn, aLit, aDst, aSrc, appTab, Value.cells, Value.oneCell', envOf, aResL, aOne, ↓reduceIte, reduceCtorEq, forall_const, Nat.reduceLT, Nat.reduceEqDiff, Nat.reduceAdd, Nat.reduceMul, Nat.reduceSub, Nat.reduceLeDiff, Nat.reduceBEq, eq_self, implies_true, ne_eq, dref, dref1, dref2, aExecS, aStoreB, aTakes, aTakeE, aElder, aFrom, aFresh, isLoad, aBuildSlice1, aDstN, aSrcN, aLitN, dref0, stripA, frzs, frz1, ownIds, AV.frz, AV.frzL, frzEnv, AV.shift, AV.shiftL, aFieldV, aSliceW, aSliceO, aSlice, aSliceR, aSliceS, aBd, aMax, frzAVs, frzAV, frzTab, AObj.frz, aMM, aNilS, aMay, aNil, aLenM, aClear, aLookup, aLookG, aMapUpd, aMapPut, keyV, aLookR, false_or, aExecU, tyE_22, tyK_22, tyK_3, tyR_39, tyZ_4, tyE_39, tyS_4, tyR_37, tyE_37, tyA_39, tyS_39, tyA_4] | (with_reducible refine aIf_split (fun _ => ?_) (fun _ => ?_)) | (with_reducible refine aSel_split (fun _ => ?_) (fun _ => ?_)) | (with_reducible refine aGd_split (fun _ => ?_) (fun _ => ?_))))
      exact retV (.inl ⟨h0, rfl⟩)
    | true =>
      (repeat' (first | simp (maxSteps := 5000000) (implicitDefEqProofs := false) only [ruA, ruB, aEv, aTake, aLoad, aField, aIndex, aLen, aBin, bin2, aUn, un1, aExtract, aConv, ASt.get, aget, ASt.put, aStore, aBox, aAppend, aBuildSlice, aMake, aBuild, aFill, oneParts, allC, aBinS, yv, aCells, oneC, oneCL, treeC, treeL, treeML, treeM_c, treeM_sl, treeM_rp, treeM_any, treeM_fn, treeM_bfn, aLit, aDst, aSrc, appTab, Value.cells, Value.oneCell', envOf, aResL, aOne, ↓reduceIte, reduceCtorEq, forall_const, Nat.reduceLT, Nat.reduceEqDiff, Nat.reduceAdd, Nat.reduceMul, Nat.reduceSub, Nat.reduceLeDiff, Nat.reduceBEq, eq_self, implies_true, ne_eq, dref, dref1, dref2, aExecS, aStoreB, aTakes, aTakeE, aElder, aFrom, aFresh, isLoad, aBuildSlice1, aDstN, aSrcN, aLitN, dref0, stripA, frzs, frz1, ownIds, AV.frz, AV.frzL, frzEnv, AV.shift, AV.shiftL, aFieldV, aSliceW, aSliceO, aSlice, aSliceR, aSliceS, aBd, aMax, frzAVs, frzAV, frzTab, AObj.frz, aMM, aNilS, aMay, aNil, aLenM, aClear, aLookup, aLookG, aMapUpd, aMapPut, keyV, aLookR, false_or, aExecU, tyE_22, tyK_22, tyK_3, tyR_39, tyZ_4, tyE_39, tyS_4, tyR_37, tyE_37, tyA_39, tyS_39, tyA_4] | (with_reducible refine aIf_split (fun _ => ?_) (fun _ => ?_)) | (with_reducible refine aSel_split (fun _ => ?_) (fun _ => ?_)) | (with_reducible refine aGd_split (fun _ => ?_) (fun _ => ?_))))
      refine aLoop_of (fun st => st = ⟨91, [(0, sNx next), (1, sI col), (5, .c (.slice none 0 0)), (9, eB false), (10, eI 0)], T, nx⟩) (fun st => 0) ⟨_, (weak_env (by (first | ((simp only [envIn, ruW, ASt.get, aget, ASt.put, ↓reduceIte, reduceCtorEq, Nat.reduceLT, Nat.reduceEqDiff, Nat.reduceAdd, Nat.reduceLeDiff, eq_self, implies_true]) <;> (repeat' apply And.intro) <;> first | (rw [wrapK (by omega)]; done) | (simp; done) | omega) | fail))), rfl⟩ ?_
      rintro _ rfl
      have g1 : ((0 : Int) < (next.length : Int)) = False := by rw [h0]; simp
      (repeat' (first | simp (maxSteps := 5000000) (implicitDefEqProofs := false) only [ruA, ruB, aEv, aTake, aLoad, aField, aIndex, aLen, aBin, bin2, aUn, un1, aExtract, aConv, ASt.get, aget, ASt.put, aStore, aBox, aAppend, aBuildSlice, aMake, aBuild, aFill, oneParts, allC, aBinS, yv, aCells, oneC, oneCL, treeC, treeL, treeML, treeM_c, treeM_sl, treeM_rp, treeM_any, treeM_fn, treeM_bfn, aLit, aDst, aSrc, appTab, Value.cells, Value.oneCell', envOf, aResL, aOne, ↓reduceIte, reduceCtorEq, forall_const, Nat.reduceLT, Nat.reduceEqDiff, Nat.reduceAdd, Nat.reduceMul, Nat.reduceSub, Nat.reduceLeDiff, Nat.reduceBEq, eq_self, implies_true, ne_eq, dref, dref1, dref2, aExecS, aStoreB, aTakes, aTakeE, aElder, aFrom, aFresh, isLoad, aBuildSlice1, aDstN, aSrcN, aLitN, dref0, stripA, frzs, frz1, ownIds, AV.frz, AV.frzL, frzEnv, AV.shift, AV.shiftL, aFieldV, aSliceW, aSliceO, aSlice, aSliceR, aSliceS, aBd, aMax, frzAVs, frzAV, frzTab, AObj.frz, aMM, aNilS, aMay, aNil, aLenM, aClear, aLookup, aLookG, aMapUpd, aMapPut, keyV, aLookR, false_or, aExecU, tyE_22, tyK_22, tyK_3, tyR_39, tyZ_4, tyE_39, tyS_4, tyR_37, tyE_37, tyA_39, tyS_39, tyA_4, g1] | (with_reducible refine aIf_split (fun _ => ?_) (fun _ => ?_)) | (with_reducible refine aSel_split (fun _ => ?_) (fun _ => ?_)) | (with_reducible refine aGd_split (fun _ => ?_) (fun _ => ?_))))
      exact roundI (weak_env (by (first | ((simp only [envIn, ruW, ASt.get, aget, ASt.put, ↓reduceIte, reduceCtorEq, Nat.reduceLT, Nat.reduceEqDiff, Nat.reduceAdd, Nat.reduceLeDiff, eq_self, implies_true]) <;> (repeat' apply And.intro) <;> first | (rw [wrapK (by omega)]; done) | (simp; done) | omega) | fail))) ⟨false, rfl⟩ (show (0 : Nat) < 1 by decide)
  · have hstab : ∀ i k, i < next.length → k < next.length → atQ (itF next col t) (i : Int) = atQ (itF next col t) (k : Int) → behF next (itF next col t) i = behF next (itF next col t) k := fun i k hi hk => stable hst hi hk
    have hT0 : Tells next.length (itF next col t) (A0 col) := fun i k hi hk h he => by
      have := itF_col t hi hk he
      simp [A0, this] at h
    have hC0 : ColOK next.length col (A0 col) := fun i k hi hk h => by
      simpa [A0] using h
    (repeat' (first | simp (maxSteps := 5000000) (implicitDefEqProofs := false) only [ruA, ruB, aEv, aTake, aLoad, aField, aIndex, aLen, aBin, bin2, aUn, un1, aExtract, aConv, ASt.get, aget, ASt.put, aStore, aBox, aAppend, aBuildSlice, aMake, aBuild, aFill, oneParts, allC, aBinS, yv, aCells, oneC, oneCL, treeC, treeL, treeML, treeM_c, treeM_sl, treeM_rp, treeM_any, treeM_fn, treeM_bfn, aLit, aDst, aSrc, appTab, Value.cells, Value.oneCell', envOf, aResL, aOne, ↓reduceIte, reduceCtorEq, forall_const, Nat.reduceLT, Nat.reduceEqDiff, Nat.reduceAdd, Nat.reduceMul, Nat.reduceSub, Nat.reduceLeDiff, Nat.reduceBEq, eq_self, implies_true, ne_eq, dref, dref1, dref2, aExecS, aStoreB, aTakes, aTakeE, aElder, aFrom, aFresh, isLoad, aBuildSlice1, aDstN, aSrcN, aLitN, dref0, stripA, frzs, frz1, ownIds, AV.frz, AV.frzL, frzEnv, AV.shift, AV.shiftL, aFieldV, aSliceW, aSliceO, aSlice, aSliceR, aSliceS, aBd, aMax, frzAVs, frzAV, frzTab, AObj.frz, aMM, aNilS, aMay, aNil, aLenM, aClear, aLookup, aLookG, aMapUpd, aMapPut, keyV, aLookR, false_or, aExecU, tyE_22, tyK_22, tyK_3, tyR_39, tyZ_4, tyE_39, tyS_4, tyR_37, tyE_37, tyA_39, tyS_39, tyA_4, hlt] | (with_reducible refine aIf_split (fun _ => ?_) (fun _ => ?_)) | (with_reducible refine aSel_split (fun _ => ?_) (fun _ => ?_)) | (with_reducible refine aGd_split (fun _ => ?_) (fun _ => ?_))))
    refine aLoop_of (fun st => ∃ (A : Nat → Nat → Bool) (b : Bool) (T : ATab) (nx o : Nat) (ids : Nat → Nat), (NestOK T o next.length next.length ids A nx ∧ Tells next.length (itF next col t) A ∧ ColOK next.length col A) ∧ (b = false → Stays next col A) ∧ st = ⟨91, [(0, sNx next), (1, sI col), (5, .osl o), (9, eB b)], T, nx⟩)
      (fun st => 2 * cntSt st + boolSt st 9) ⟨_, (weak_env (by (first | ((simp only [envIn, ruW, ASt.get, aget, ASt.put, ↓reduceIte, reduceCtorEq, Nat.reduceLT, Nat.reduceEqDiff, Nat.reduceAdd, Nat.reduceLeDiff, eq_self, implies_true]) <;> (repeat' apply And.intro) <;> first | (rw [wrapK (by omega)]; done) | (simp; done) | omega) | fail))), A0 col, true, T, nx, o, ids, ⟨hN, hT0, hC0⟩, fun h => (by cases h), rfl⟩ ?_
    clear hN hT0 hC0 hm
    clear T nx o ids
    rintro _ ⟨A, b, T, nx, o, ids, ⟨hN, hTe, hCo⟩, hSt, rfl⟩
    cases b with
    | false =>
      (repeat' (first | simp (maxSteps := 5000000) (implicitDefEqProofs := false) only [ruA, ruB, aEv, aTake, aLoad, aField, aIndex, aLen, aBin, bin2, aUn, un1, aExtract, aConv, ASt.get, aget, ASt.put, aStore, aBox, aAppend, aBuildSlice, aMake, aBuild, aFill, oneParts, allC, aBinS, yv, aCells, oneC, oneCL, treeC, treeL, treeML, treeM_c, treeM_sl, treeM_rp, treeM_any, treeM_fn, treeM_bfn, aLit, aDst, aSrc, appTab, Value.cells, Value.oneCell', envOf, aResL, aOne, ↓reduceIte, reduceCtorEq, forall_const, Nat.reduceLT, Nat.reduceEqDiff, Nat.reduceAdd, Nat.reduceMul, Nat.reduceSub, Nat.reduceLeDiff, Nat.reduceBEq, eq_self, implies_true, ne_eq, dref, dref1, dref2, aExecS, aStoreB, aTakes, aTakeE, aElder, aFrom, aFresh, isLoad, aBuildSlice1, aDstN, aSrcN, aLitN, dref0, stripA, frzs, frz1, ownIds, AV.frz, AV.frzL, frzEnv, AV.shift, AV.shiftL, aFieldV, aSliceW, aSliceO, aSlice, aSliceR, aSliceS, aBd, aMax, frzAVs, frzAV, frzTab, AObj.frz, aMM, aNilS, aMay, aNil, aLenM, aClear, aLookup, aLookG, aMapUpd, aMapPut, keyV, aLookR, false_or, aExecU, tyE_22, tyK_22, tyK_3, tyR_39, tyZ_4, tyE_39, tyS_4, tyR_37, tyE_37, tyA_39, tyS_39, tyA_4] | (with_reducible refine aIf_split (fun _ => ?_) (fun _ => ?_)) | (with_reducible refine aSel_split (fun _ => ?_) (fun _ => ?_)) | (with_reducible refine aGd_split (fun _ => ?_) (fun _ => ?_))))
      have hO := hN.out
      have hd := hN.dref
      refine ⟨_, weak_flat 4, ?_⟩
      (repeat' (first | simp (maxSteps := 5000000) (implicitDefEqProofs := false) only [ruA, ruB, aEv, aTake, aLoad, aField, aIndex, aLen, aBin, bin2, aUn, un1, aExtract, aConv, ASt.get, aget, ASt.put, aStore, aBox, aAppend, aBuildSlice, aMake, aBuild, aFill, oneParts, allC, aBinS, yv, aCells, oneC, oneCL, treeC, treeL, treeML, treeM_c, treeM_sl, treeM_rp, treeM_any, treeM_fn, treeM_bfn, aLit, aDst, aSrc, appTab, Value.cells, Value.oneCell', envOf, aResL, aOne, ↓reduceIte, reduceCtorEq, forall_const, Nat.reduceLT, Nat.reduceEqDiff, Nat.reduceAdd, Nat.reduceMul, Nat.reduceSub, Nat.reduceLeDiff, Nat.reduceBEq, eq_self, implies_true, ne_eq, dref, dref1, dref2, aExecS, aStoreB, aTakes, aTakeE, aElder, aFrom, aFresh, isLoad, aBuildSlice1, aDstN, aSrcN, aLitN, dref0, stripA, frzs, frz1, ownIds, AV.frz, AV.frzL, frzEnv, AV.shift, AV.shiftL, aFieldV, aSliceW, aSliceO, aSlice, aSliceR, aSliceS, aBd, aMax, frzAVs, frzAV, frzTab, AObj.frz, aMM, aNilS, aMay, aNil, aLenM, aClear, aLookup, aLookG, aMapUpd, aMapPut, keyV, aLookR, false_or, aExecU, tyE_22, tyK_22, tyK_3, tyR_39, tyZ_4, tyE_39, tyS_4, tyR_37, tyE_37, tyA_39, tyS_39, tyA_4, hO, hd] | (with_reducible refine aIf_split (fun _ => ?_) (fun _ => ?_)) | (with_reducible refine aSel_split (fun _ => ?_) (fun _ => ?_)) | (with_reducible refine aGd_split (fun _ => ?_) (fun _ => ?_))))
      exact retSl (.inr ⟨A, h0, hSt rfl, hTe, rfl⟩)
    | true =>
      (repeat' (first | simp (maxSteps := 5000000) (implicitDefEqProofs := false) only [ruA, ruB, aEv, aTake, aLoad, aField, aIndex, aLen, aBin, bin2, aUn, un1, aExtract, aConv, ASt.get, aget, ASt.put, aStore, aBox, aAppend, aBuildSlice, aMake, aBuild, aFill, oneParts, allC, aBinS, yv, aCells, oneC, oneCL, treeC, treeL, treeML, treeM_c, treeM_sl, treeM_rp, treeM_any, treeM_fn, treeM_bfn, aLit, aDst, aSrc, appTab, Value.cells, Value.oneCell', envOf, aResL, aOne, ↓reduceIte, reduceCtorEq, forall_const, Nat.reduceLT, Nat.reduceEqDiff, Nat.reduceAdd, Nat.reduceMul, Nat.reduceSub, Nat.reduceLeDiff, Nat.reduceBEq, eq_self, implies_true, ne_eq, dref, dref1, dref2, aExecS, aStoreB, aTakes, aTakeE, aElder, aFrom, aFresh, isLoad, aBuildSlice1, aDstN, aSrcN, aLitN, dref0, stripA, frzs, frz1, ownIds, AV.frz, AV.frzL, frzEnv, AV.shift, AV.shiftL, aFieldV, aSliceW, aSliceO, aSlice, aSliceR, aSliceS, aBd, aMax, frzAVs, frzAV, frzTab, AObj.frz, aMM, aNilS, aMay, aNil, aLenM, aClear, aLookup, aLookG, aMapUpd, aMapPut, keyV, aLookR, false_or, aExecU, tyE_22, tyK_22, tyK_3, tyR_39, tyZ_4, tyE_39, tyS_4, tyR_37, tyE_37, tyA_39, tyS_39, tyA_4] | (with_reducible refine aIf_split (fun _ => ?_) (fun _ => ?_)) | (with_reducible refine aSel_split (fun _ => ?_) (fun _ => ?_)) | (with_reducible refine aGd_split (fun _ => ?_) (fun _ => ?_))))
      refine aLoop_of (fun st => ∃ (i : Nat) (A' : Nat → Nat → Bool) (b : Bool) (T' : ATab), i ≤ next.length ∧ PassOK next col (itF next col t) T' nx o ids A' (cntA next.length A) b i 0 ∧ st = ⟨91, [(0, sNx next), (1, sI col), (5, .osl o), (9, eB b), (10, eI (i : Int))], T', nx⟩)
        (fun st => next.length - slotN st 10) ⟨_, (weak_env (by (first | ((simp only [envIn, ruW, ASt.get, aget, ASt.put, ↓reduceIte, reduceCtorEq, Nat.reduceLT, Nat.reduceEqDiff, Nat.reduceAdd, Nat.reduceLeDiff, eq_self, implies_true]) <;> (repeat' apply And.intro) <;> first | (rw [wrapK (by omega)]; done) | (simp; done) | omega) | fail))), 0, A, false, T, Nat.zero_le _, ⟨hN, hTe, hCo, Nat.le_refl _, fun h => (by cases h), fun _ i' k' _ h => by omega⟩, rfl⟩ ?_
      rintro _ ⟨i, A', b, T', hi, hP, rfl⟩
      by_cases hil : i < next.length
      · (repeat' (first | simp (maxSteps := 5000000) (implicitDefEqProofs := false) only [ruA, ruB, aEv, aTake, aLoad, aField, aIndex, aLen, aBin, bin2, aUn, un1, aExtract, aConv, ASt.get, aget, ASt.put, aStore, aBox, aAppend, aBuildSlice, aMake, aBuild, aFill, oneParts, allC, aBinS, yv, aCells, oneC, oneCL, treeC, treeL, treeML, treeM_c, treeM_sl, treeM_rp, treeM_any, treeM_fn, treeM_bfn, aLit, aDst, aSrc, appTab, Value.cells, Value.oneCell', envOf, aResL, aOne, ↓reduceIte, reduceCtorEq, forall_const, Nat.reduceLT, Nat.reduceEqDiff, Nat.reduceAdd, Nat.reduceMul, Nat.reduceSub, Nat.reduceLeDiff, Nat.reduceBEq, eq_self, implies_true, ne_eq, dref, dref1, dref2, aExecS, aStoreB, aTakes, aTakeE, aElder, aFrom, aFresh, isLoad, aBuildSlice1, aDstN, aSrcN, aLitN, dref0, stripA, frzs, frz1, ownIds, AV.frz, AV.frzL, frzEnv, AV.shift, AV.shiftL, aFieldV, aSliceW, aSliceO, aSlice, aSliceR, aSliceS, aBd, aMax, frzAVs, frzAV, frzTab, AObj.frz, aMM, aNilS, aMay, aNil, aLenM, aClear, aLookup, aLookG, aMapUpd, aMapPut, keyV, aLookR, false_or, aExecU, tyE_22, tyK_22, tyK_3, tyR_39, tyZ_4, tyE_39, tyS_4, tyR_37, tyE_37, tyA_39, tyS_39, tyA_4, hil] | (with_reducible refine aIf_split (fun _ => ?_) (fun _ => ?_)) | (with_reducible refine aSel_split (fun _ => ?_) (fun _ => ?_)) | (with_reducible refine aGd_split (fun _ => ?_) (fun _ => ?_))))
        refine aLoop_of (fun st => ∃ (k : Nat) (A' : Nat → Nat → Bool) (b : Bool) (T' : ATab), k ≤ next.length ∧ PassOK next col (itF next col t) T' nx o ids A' (cntA next.length A) b i k ∧ st = ⟨91, [(0, sNx next), (1, sI col), (5, .osl o), (9, eB b), (10, eI (i : Int)), (11, eI (k : Int))], T', nx⟩)
          (fun st => next.length - slotN st 11) ⟨_, (weak_env (by (first | ((simp only [envIn, ruW, ASt.get, aget, ASt.put, ↓reduceIte, reduceCtorEq, Nat.reduceLT, Nat.reduceEqDiff, Nat.reduceAdd, Nat.reduceLeDiff, eq_self, implies_true]) <;> (repeat' apply And.intro) <;> first | (rw [wrapK (by omega)]; done) | (simp; done) | omega) | fail))), 0, A', b, T', Nat.zero_le _, hP, rfl⟩ ?_
        clear hP
        rintro _ ⟨k, A', b, T', hk, hP, rfl⟩
        by_cases hkl : k < next.length
        · have hO := hP.nest.out
          have hI := hP.nest.inn i hil
          have hK := hP.nest.inn k hkl
          have rO := idRows_at ids hil
          have rI := rowB_at (A' i) hkl
          have hd := hP.nest.dref
          have rO2 := idRows_at ids hkl
          have rI2 := rowB_at (A' k) hil
          cases hA : A' i k with
          | true =>
            (repeat' (first | simp (maxSteps := 5000000) (implicitDefEqProofs := false) only [ruA, ruB, aEv, aTake, aLoad, aField, aIndex, aLen, aBin, bin2, aUn, un1, aExtract, aConv, ASt.get, aget, ASt.put, aStore, aBox, aAppend, aBuildSlice, aMake, aBuild, aFill, oneParts, allC, aBinS, yv, aCells, oneC, oneCL, treeC, treeL, treeML, treeM_c, treeM_sl, treeM_rp, treeM_any, treeM_fn, treeM_bfn, aLit, aDst, aSrc, appTab, Value.cells, Value.oneCell', envOf, aResL, aOne, ↓reduceIte, reduceCtorEq, forall_const, Nat.reduceLT, Nat.reduceEqDiff, Nat.reduceAdd, Nat.reduceMul, Nat.reduceSub, Nat.reduceLeDiff, Nat.reduceBEq, eq_self, implies_true, ne_eq, dref, dref1, dref2, aExecS, aStoreB, aTakes, aTakeE, aElder, aFrom, aFresh, isLoad, aBuildSlice1, aDstN, aSrcN, aLitN, dref0, stripA, frzs, frz1, ownIds, AV.frz, AV.frzL, frzEnv, AV.shift, AV.shiftL, aFieldV, aSliceW, aSliceO, aSlice, aSliceR, aSliceS, aBd, aMax, frzAVs, frzAV, frzTab, AObj.frz, aMM, aNilS, aMay, aNil, aLenM, aClear, aLookup, aLookG, aMapUpd, aMapPut, keyV, aLookR, false_or, aExecU, tyE_22, tyK_22, tyK_3, tyR_39, tyZ_4, tyE_39, tyS_4, tyR_37, tyE_37, tyA_39, tyS_39, tyA_4, hkl, hil, hO, hI, hK, rO, rI, rO2, rI2, idRows_len, rowB_len, h0, hA] | (with_reducible refine aIf_split (fun _ => ?_) (fun _ => ?_)) | (with_reducible refine aSel_split (fun _ => ?_) (fun _ => ?_)) | (with_reducible refine aGd_split (fun _ => ?_) (fun _ => ?_))))
            exact roundI (weak_env (by (first | ((simp only [envIn, ruW, ASt.get, aget, ASt.put, ↓reduceIte, reduceCtorEq, Nat.reduceLT, Nat.reduceEqDiff, Nat.reduceAdd, Nat.reduceLeDiff, eq_self, implies_true]) <;> (repeat' apply And.intro) <;> first | (rw [wrapK (by omega)]; done) | (simp; done) | omega) | fail))) ⟨k + 1, A', b, T', by omega, hP.skip (fun h => by rw [hA] at h; cases h), rfl⟩ (by simp only [slotN, ruW, ASt.get, aget, ASt.put, ↓reduceIte, reduceCtorEq, Nat.reduceLT, Nat.reduceEqDiff, Nat.reduceAdd, Nat.reduceLeDiff, eq_self, implies_true]; omega)
          | false =>
            (repeat' (first | simp (maxSteps := 5000000) (implicitDefEqProofs := false) only [ruA, ruB, aEv, aTake, aLoad, aField, aIndex, aLen, aBin, bin2, aUn, un1, aExtract, aConv, ASt.get, aget, ASt.put, aStore, aBox, aAppend, aBuildSlice, aMake, aBuild, aFill, oneParts, allC, aBinS, yv, aCells, oneC, oneCL, treeC, treeL, treeML, treeM_c, treeM_sl, treeM_rp, treeM_any, treeM_fn, treeM_bfn, aLit, aDst, aSrc, appTab, Value.cells, Value.oneCell', envOf, aResL, aOne, ↓reduceIte, reduceCtorEq, forall_const, Nat.reduceLT, Nat.reduceEqDiff, Nat.reduceAdd, Nat.reduceMul, Nat.reduceSub, Nat.reduceLeDiff, Nat.reduceBEq, eq_self, implies_true, ne_eq, dref, dref1, dref2, aExecS, aStoreB, aTakes, aTakeE, aElder, aFrom, aFresh, isLoad, aBuildSlice1, aDstN, aSrcN, aLitN, dref0, stripA, frzs, frz1, ownIds, AV.frz, AV.frzL, frzEnv, AV.shift, AV.shiftL, aFieldV, aSliceW, aSliceO, aSlice, aSliceR, aSliceS, aBd, aMax, frzAVs, frzAV, frzTab, AObj.frz, aMM, aNilS, aMay, aNil, aLenM, aClear, aLookup, aLookG, aMapUpd, aMapPut, keyV, aLookR, false_or, aExecU, tyE_22, tyK_22, tyK_3, tyR_39, tyZ_4, tyE_39, tyS_4, tyR_37, tyE_37, tyA_39, tyS_39, tyA_4, hkl, hil, hO, hI, hK, rO, rI, rO2, rI2, idRows_len, rowB_len, h0, hA, hd] | (with_reducible refine aIf_split (fun _ => ?_) (fun _ => ?_)) | (with_reducible refine aSel_split (fun _ => ?_) (fun _ => ?_)) | (with_reducible refine aGd_split (fun _ => ?_) (fun _ => ?_))))
            refine callV (v := .bool (covF next A' i k)) (by simp only [List.map_cons, List.map_nil, dref, dref1, hO, hd]; exact covers_A next A' i k hn hr hil hkl) ?_
            have hset : ∀ (hne : atQ (itF next col t) (i : Int) ≠ atQ (itF next col t) (k : Int)), ids k ≠ ids i ∧ NestOK ((ids k, some (.nest 4 1 ((rowB next.length (A' k)).set i [eB true]))) :: (ids i, some (.nest 4 1 ((rowB next.length (A' i)).set k [eB true]))) :: T') o next.length next.length ids (updA (updA A' i k) k i) nx := fun hne => by
              have hik : i ≠ k := fun e => hne (by rw [e])
              refine ⟨fun e => hik (hP.nest.inj i k hil hkl e.symm), ?_⟩
              have h1 := (hP.nest.upd hil hkl).upd hkl hil
              have e1 : updA A' i k k = A' k := by
                funext x
                simp [updA, Ne.symm hik]
              rwa [e1] at h1
            have gIO : (ids i = o) = False := by simp [hP.nest.ne i hil]
            have gKO : (ids k = o) = False := by simp [hP.nest.ne k hkl]
            have gOI : (o = ids i) = False := by simp [Ne.symm (hP.nest.ne i hil)]
            have gOK : (o = ids k) = False := by simp [Ne.symm (hP.nest.ne k hkl)]
            cases hc1 : covF next A' i k with
            | false =>
              have hne := tells_cov hP.tells hil hkl (hstab i k hil hkl) hc1
              obtain ⟨hkn, hN'⟩ := hset hne
              have gKI : (ids k = ids i) = False := by simp [hkn]
              (repeat' (first | simp (maxSteps := 5000000) (implicitDefEqProofs := false) only [ruA, ruB, aEv, aTake, aLoad, aField, aIndex, aLen, aBin, bin2, aUn, un1, aExtract, aConv, ASt.get, aget, ASt.put, aStore, aBox, aAppend, aBuildSlice, aMake, aBuild, aFill, oneParts, allC, aBinS, yv, aCells, oneC, oneCL, treeC, treeL, treeML, treeM_c, treeM_sl, treeM_rp, treeM_any, treeM_fn, treeM_bfn, aLit, aDst, aSrc, appTab, Value.cells, Value.oneCell', envOf, aResL, aOne, ↓reduceIte, reduceCtorEq, forall_const, Nat.reduceLT, Nat.reduceEqDiff, Nat.reduceAdd, Nat.reduceMul, Nat.reduceSub, Nat.reduceLeDiff, Nat.reduceBEq, eq_self, implies_true, ne_eq, dref, dref1, dref2, aExecS, aStoreB, aTakes, aTakeE, aElder, aFrom, aFresh, isLoad, aBuildSlice1, aDstN, aSrcN, aLitN, dref0, stripA, frzs, frz1, ownIds, AV.frz, AV.frzL, frzEnv, AV.shift, AV.shiftL, aFieldV, aSliceW, aSliceO, aSlice, aSliceR, aSliceS, aBd, aMax, frzAVs, frzAV, frzTab, AObj.frz, aMM, aNilS, aMay, aNil, aLenM, aClear, aLookup, aLookG, aMapUpd, aMapPut, keyV, aLookR, false_or, aExecU, tyE_22, tyK_22, tyK_3, tyR_39, tyZ_4, tyE_39, tyS_4, tyR_37, tyE_37, tyA_39, tyS_39, tyA_4, hkl, hil, hO, hI, hK, rO, rI, rO2, rI2, idRows_len, rowB_len, h0, hA, gIO, gKO, gOI, gOK, gKI] | (with_reducible refine aIf_split (fun _ => ?_) (fun _ => ?_)) | (with_reducible refine aSel_split (fun _ => ?_) (fun _ => ?_)) | (with_reducible refine aGd_split (fun _ => ?_) (fun _ => ?_))))
              exact roundI (weak_env (by (first | ((simp only [envIn, ruW, ASt.get, aget, ASt.put, ↓reduceIte, reduceCtorEq, Nat.reduceLT, Nat.reduceEqDiff, Nat.reduceAdd, Nat.reduceLeDiff, eq_self, implies_true]) <;> (repeat' apply And.intro) <;> first | (rw [wrapK (by omega)]; done) | (simp; done) | omega) | fail))) ⟨k + 1, _, true, _, by omega, hP.set hil hkl hA hne hN', rfl⟩ (by simp only [slotN, ruW, ASt.get, aget, ASt.put, ↓reduceIte, reduceCtorEq, Nat.reduceLT, Nat.reduceEqDiff, Nat.reduceAdd, Nat.reduceLeDiff, eq_self, implies_true]; omega)
            | true =>
              (repeat' (first | simp (maxSteps := 5000000) (implicitDefEqProofs := false) only [ruA, ruB, aEv, aTake, aLoad, aField, aIndex, aLen, aBin, bin2, aUn, un1, aExtract, aConv, ASt.get, aget, ASt.put, aStore, aBox, aAppend, aBuildSlice, aMake, aBuild, aFill, oneParts, allC, aBinS, yv, aCells, oneC, oneCL, treeC, treeL, treeML, treeM_c, treeM_sl, treeM_rp, treeM_any, treeM_fn, treeM_bfn, aLit, aDst, aSrc, appTab, Value.cells, Value.oneCell', envOf, aResL, aOne, ↓reduceIte, reduceCtorEq, forall_const, Nat.reduceLT, Nat.reduceEqDiff, Nat.reduceAdd, Nat.reduceMul, Nat.reduceSub, Nat.reduceLeDiff, Nat.reduceBEq, eq_self, implies_true, ne_eq, dref, dref1, dref2, aExecS, aStoreB, aTakes, aTakeE, aElder, aFrom, aFresh, isLoad, aBuildSlice1, aDstN, aSrcN, aLitN, dref0, stripA, frzs, frz1, ownIds, AV.frz, AV.frzL, frzEnv, AV.shift, AV.shiftL, aFieldV, aSliceW, aSliceO, aSlice, aSliceR, aSliceS, aBd, aMax, frzAVs, frzAV, frzTab, AObj.frz, aMM, aNilS, aMay, aNil, aLenM, aClear, aLookup, aLookG, aMapUpd, aMapPut, keyV, aLookR, false_or, aExecU, tyE_22, tyK_22, tyK_3, tyR_39, tyZ_4, tyE_39, tyS_4, tyR_37, tyE_37, tyA_39, tyS_39, tyA_4, hkl, hil, hO, hI, hK, rO, rI, rO2, rI2, idRows_len, rowB_len, h0, hd] | (with_reducible refine aIf_split (fun _ => ?_) (fun _ => ?_)) | (with_reducible refine aSel_split (fun _ => ?_) (fun _ => ?_)) | (with_reducible refine aGd_split (fun _ => ?_) (fun _ => ?_))))
              refine callV (v := .bool (covF next A' k i)) (by simp only [List.map_cons, List.map_nil, dref, dref1, hO, hd]; exact covers_A next A' k i hn hr hkl hil) ?_
              cases hc2 : covF next A' k i with
              | false =>
                have hne := Ne.symm (tells_cov hP.tells hkl hil (hstab k i hkl hil) hc2)
                obtain ⟨hkn, hN'⟩ := hset hne
                have gKI : (ids k = ids i) = False := by simp [hkn]
                (repeat' (first | simp (maxSteps := 5000000) (implicitDefEqProofs := false) only [ruA, ruB, aEv, aTake, aLoad, aField, aIndex, aLen, aBin, bin2, aUn, un1, aExtract, aConv, ASt.get, aget, ASt.put, aStore, aBox, aAppend, aBuildSlice, aMake, aBuild, aFill, oneParts, allC, aBinS, yv, aCells, oneC, oneCL, treeC, treeL, treeML, treeM_c, treeM_sl, treeM_rp, treeM_any, treeM_fn, treeM_bfn, aLit, aDst, aSrc, appTab, Value.cells, Value.oneCell', envOf, aResL, aOne, ↓reduceIte, reduceCtorEq, forall_const, Nat.reduceLT, Nat.reduceEqDiff, Nat.reduceAdd, Nat.reduceMul, Nat.reduceSub, Nat.reduceLeDiff, Nat.reduceBEq, eq_self, implies_true, ne_eq, dref, dref1, dref2, aExecS, aStoreB, aTakes, aTakeE, aElder, aFrom, aFresh, isLoad, aBuildSlice1, aDstN, aSrcN, aLitN, dref0, stripA, frzs, frz1, ownIds, AV.frz, AV.frzL, frzEnv, AV.shift, AV.shiftL, aFieldV, aSliceW, aSliceO, aSlice, aSliceR, aSliceS, aBd, aMax, frzAVs, frzAV, frzTab, AObj.frz, aMM, aNilS, aMay, aNil, aLenM, aClear, aLookup, aLookG, aMapUpd, aMapPut, keyV, aLookR, false_or, aExecU, tyE_22, tyK_22, tyK_3, tyR_39, tyZ_4, tyE_39, tyS_4, tyR_37, tyE_37, tyA_39, tyS_39, tyA_4, hkl, hil, hO, hI, hK, rO, rI, rO2, rI2, idRows_len, rowB_len, h0, hA, gIO, gKO, gOI, gOK, gKI] | (with_reducible refine aIf_split (fun _ => ?_) (fun _ => ?_)) | (with_reducible refine aSel_split (fun _ => ?_) (fun _ => ?_)) | (with_reducible refine aGd_split (fun _ => ?_) (fun _ => ?_))))
                exact roundI (weak_env (by (first | ((simp only [envIn, ruW, ASt.get, aget, ASt.put, ↓reduceIte, reduceCtorEq, Nat.reduceLT, Nat.reduceEqDiff, Nat.reduceAdd, Nat.reduceLeDiff, eq_self, implies_true]) <;> (repeat' apply And.intro) <;> first | (rw [wrapK (by omega)]; done) | (simp; done) | omega) | fail))) ⟨k + 1, _, true, _, by omega, hP.set hil hkl hA hne hN', rfl⟩ (by simp only [slotN, ruW, ASt.get, aget, ASt.put, ↓reduceIte, reduceCtorEq, Nat.reduceLT, Nat.reduceEqDiff, Nat.reduceAdd, Nat.reduceLeDiff, eq_self, implies_true]; omega)
              | true =>
                (repeat' (first | simp (maxSteps := 5000000) (implicitDefEqProofs := false) only [ruA, ruB, aEv, aTake, aLoad, aField, aIndex, aLen, aBin, bin2, aUn, un1, aExtract, aConv, ASt.get, aget, ASt.put, aStore, aBox, aAppend, aBuildSlice, aMake, aBuild, aFill, oneParts, allC, aBinS, yv, aCells, oneC, oneCL, treeC, treeL, treeML, treeM_c, treeM_sl, treeM_rp, treeM_any, treeM_fn, treeM_bfn, aLit, aDst, aSrc, appTab, Value.cells, Value.oneCell', envOf, aResL, aOne, ↓reduceIte, reduceCtorEq, forall_const, Nat.reduceLT, Nat.reduceEqDiff, Nat.reduceAdd, Nat.reduceMul, Nat.reduceSub, Nat.reduceLeDiff, Nat.reduceBEq, eq_self, implies_true, ne_eq, dref, dref1, dref2, aExecS, aStoreB, aTakes, aTakeE, aElder, aFrom, aFresh, isLoad, aBuildSlice1, aDstN, aSrcN, aLitN, dref0, stripA, frzs, frz1, ownIds, AV.frz, AV.frzL, frzEnv, AV.shift, AV.shiftL, aFieldV, aSliceW, aSliceO, aSlice, aSliceR, aSliceS, aBd, aMax, frzAVs, frzAV, frzTab, AObj.frz, aMM, aNilS, aMay, aNil, aLenM, aClear, aLookup, aLookG, aMapUpd, aMapPut, keyV, aLookR, false_or, aExecU, tyE_22, tyK_22, tyK_3, tyR_39, tyZ_4, tyE_39, tyS_4, tyR_37, tyE_37, tyA_39, tyS_39, tyA_4, hkl, hil, hO, hI, hK, rO, rI, rO2, rI2, idRows_len, rowB_len, h0] | (with_reducible refine aIf_split (fun _ => ?_) (fun _ => ?_)) | (with_reducible refine aSel_split (fun _ => ?_) (fun _ => ?_)) | (with_reducible refine aGd_split (fun _ => ?_) (fun _ => ?_))))
                exact roundI (weak_env (by (first | ((simp only [envIn, ruW, ASt.get, aget, ASt.put, ↓reduceIte, reduceCtorEq, Nat.reduceLT, Nat.reduceEqDiff, Nat.reduceAdd, Nat.reduceLeDiff, eq_self, implies_true]) <;> (repeat' apply And.intro) <;> first | (rw [wrapK (by omega)]; done) | (simp; done) | omega) | fail))) ⟨k + 1, A', b, T', by omega, hP.skip (fun _ => ⟨hc1, hc2⟩), rfl⟩ (by simp only [slotN, ruW, ASt.get, aget, ASt.put, ↓reduceIte, reduceCtorEq, Nat.reduceLT, Nat.reduceEqDiff, Nat.reduceAdd, Nat.reduceLeDiff, eq_self, implies_true]; omega)
        obtain rfl : k = next.length := by omega
        (repeat' (first | simp (maxSteps := 5000000) (implicitDefEqProofs := false) only [ruA, ruB, aEv, aTake, aLoad, aField, aIndex, aLen, aBin, bin2, aUn, un1, aExtract, aConv, ASt.get, aget, ASt.put, aStore, aBox, aAppend, aBuildSlice, aMake, aBuild, aFill, oneParts, allC, aBinS, yv, aCells, oneC, oneCL, treeC, treeL, treeML, treeM_c, treeM_sl, treeM_rp, treeM_any, treeM_fn, treeM_bfn, aLit, aDst, aSrc, appTab, Value.cells, Value.oneCell', envOf, aResL, aOne, ↓reduceIte, reduceCtorEq, forall_const, Nat.reduceLT, Nat.reduceEqDiff, Nat.reduceAdd, Nat.reduceMul, Nat.reduceSub, Nat.reduceLeDiff, Nat.reduceBEq, eq_self, implies_true, ne_eq, dref, dref1, dref2, aExecS, aStoreB, aTakes, aTakeE, aElder, aFrom, aFresh, isLoad, aBuildSlice1, aDstN, aSrcN, aLitN, dref0, stripA, frzs, frz1, ownIds, AV.frz, AV.frzL, frzEnv, AV.shift, AV.shiftL, aFieldV, aSliceW, aSliceO, aSlice, aSliceR, aSliceS, aBd, aMax, frzAVs, frzAV, frzTab, AObj.frz, aMM, aNilS, aMay, aNil, aLenM, aClear, aLookup, aLookG, aMapUpd, aMapPut, keyV, aLookR, false_or, aExecU, tyE_22, tyK_22, tyK_3, tyR_39, tyZ_4, tyE_39, tyS_4, tyR_37, tyE_37, tyA_39, tyS_39, tyA_4, hkl] | (with_reducible refine aIf_split (fun _ => ?_) (fun _ => ?_)) | (with_reducible refine aSel_split (fun _ => ?_) (fun _ => ?_)) | (with_reducible refine aGd_split (fun _ => ?_) (fun _ => ?_))))
        exact roundI (weak_env (by (first | ((simp only [envIn, ruW, ASt.get, aget, ASt.put, ↓reduceIte, reduceCtorEq, Nat.reduceLT, Nat.reduceEqDiff, Nat.reduceAdd, Nat.reduceLeDiff, eq_self, implies_true]) <;> (repeat' apply And.intro) <;> first | (rw [wrapK (by omega)]; done) | (simp; done) | omega) | fail))) ⟨i + 1, A', b, T', by omega, hP.row, rfl⟩ (by simp only [slotN, ruW, ASt.get, aget, ASt.put, ↓reduceIte, reduceCtorEq, Nat.reduceLT, Nat.reduceEqDiff, Nat.reduceAdd, Nat.reduceLeDiff, eq_self, implies_true]; omega)
      obtain rfl : i = next.length := by omega
      (repeat' (first | simp (maxSteps := 5000000) (implicitDefEqProofs := false) only [ruA, ruB, aEv, aTake, aLoad, aField, aIndex, aLen, aBin, bin2, aUn, un1, aExtract, aConv, ASt.get, aget, ASt.put, aStore, aBox, aAppend, aBuildSlice, aMake, aBuild, aFill, oneParts, allC, aBinS, yv, aCells, oneC, oneCL, treeC, treeL, treeML, treeM_c, treeM_sl, treeM_rp, treeM_any, treeM_fn, treeM_bfn, aLit, aDst, aSrc, appTab, Value.cells, Value.oneCell', envOf, aResL, aOne, ↓reduceIte, reduceCtorEq, forall_const, Nat.reduceLT, Nat.reduceEqDiff, Nat.reduceAdd, Nat.reduceMul, Nat.reduceSub, Nat.reduceLeDiff, Nat.reduceBEq, eq_self, implies_true, ne_eq, dref, dref1, dref2, aExecS, aStoreB, aTakes, aTakeE, aElder, aFrom, aFresh, isLoad, aBuildSlice1, aDstN, aSrcN, aLitN, dref0, stripA, frzs, frz1, ownIds, AV.frz, AV.frzL, frzEnv, AV.shift, AV.shiftL, aFieldV, aSliceW, aSliceO, aSlice, aSliceR, aSliceS, aBd, aMax, frzAVs, frzAV, frzTab, AObj.frz, aMM, aNilS, aMay, aNil, aLenM, aClear, aLookup, aLookG, aMapUpd, aMapPut, keyV, aLookR, false_or, aExecU, tyE_22, tyK_22, tyK_3, tyR_39, tyZ_4, tyE_39, tyS_4, tyR_37, tyE_37, tyA_39, tyS_39, tyA_4, hil] | (with_reducible refine aIf_split (fun _ => ?_) (fun _ => ?_)) | (with_reducible refine aSel_split (fun _ => ?_) (fun _ => ?_)) | (with_reducible refine aGd_split (fun _ => ?_) (fun _ => ?_))))
      refine roundI (weak_env (by (first | ((simp only [envIn, ruW, ASt.get, aget, ASt.put, ↓reduceIte, reduceCtorEq, Nat.reduceLT, Nat.reduceEqDiff, Nat.reduceAdd, Nat.reduceLeDiff, eq_self, implies_true]) <;> (repeat' apply And.intro) <;> first | (rw [wrapK (by omega)]; done) | (simp; done) | omega) | fail))) ⟨A', b, T', nx, o, ids, ⟨hP.nest, hP.tells, hP.colr⟩, hP.stays, rfl⟩ ?_
      have e1 := hP.le
      have e2 := hP.dec
      show 2 * cntSt _ + boolSt _ 9 < 2 * cntSt _ + boolSt _ 9
      rw [cnt_of hP.nest rfl, cnt_of hN rfl]
      cases b with
      | true =>
        have := e2 rfl
        show 2 * cntA _ A' + 1 < 2 * cntA _ A + 1
        omega
      | false =>
        show 2 * cntA _ A' + 0 < 2 * cntA _ A + 1
        omega
end
end Go.Proofs.YtbpocemhnmmloaaDoor
