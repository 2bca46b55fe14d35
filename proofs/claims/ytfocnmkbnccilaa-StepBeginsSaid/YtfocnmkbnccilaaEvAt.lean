/-
  PLAIN: where a part of a condition begins, and what it is. No program.
-/
import Derived.Test.YtfocnmkbnccilaaEvSpec
set_option linter.unusedVariables false
set_option linter.unusedSimpArgs false
namespace Go.Proofs.Ytfocnmkbnccilaa
open Go.RowKit

theorem arity_cases (op : Int) : arity op = -1 ∨ arity op = 0 ∨ arity op = 1 ∨ arity op = 2 := by
  unfold arity
  split
  · exact .inr (.inl rfl)
  · split
    · exact .inr (.inr (.inl rfl))
    · split
      · exact .inr (.inr (.inr rfl))
      · exact .inl rfl
theorem pushN_iff {d : Nat} {op : Int} {d' : Nat} : pushN d op = some d' ↔ 0 ≤ arity op ∧ arity op ≤ d ∧ (d' : Int) = d + 1 - arity op := by
  unfold pushN
  rcases arity_cases op with h | h | h | h <;> simp only [h]
  · simp
  · simp
    omega
  · by_cases h1 : 1 ≤ d
    · simp [h1]
      omega
    · simp [h1]
      omega
  · by_cases h1 : 2 ≤ d
    · simp [h1]
      omega
    · simp [h1]
      omega
theorem rn_app (a b : List Int) : ∀ d, rowN (a ++ b) d = (rowN a d).bind (rowN b) := by
  induction a with
  | nil => intro d; rfl
  | cons x a ih => intro d; rw [List.cons_append, rowN, rowN]; cases pushN d x <;> simp [ih]
theorem rn_succ (ops : List Int) {i : Nat} (h : i < ops.length) : rowN (ops.take (i + 1)) 0 = (rowN (ops.take i) 0).bind fun d => pushN d ops[i] := by
  rw [List.take_add_one, List.getElem?_eq_getElem h, rn_app]
  congr 1
  funext d
  simp [rowN]
  cases pushN d ops[i] <;> rfl
theorem rn_some {ops : List Int} {i d' : Nat} (h : i < ops.length) (hr : rowN (ops.take (i + 1)) 0 = some d') : ∃ d, rowN (ops.take i) 0 = some d ∧ 0 ≤ arity ops[i] ∧ arity ops[i] ≤ d ∧ (d' : Int) = d + 1 - arity ops[i] := by
  rw [rn_succ ops h] at hr
  cases hd : rowN (ops.take i) 0 with
  | none => simp [hd] at hr
  | some d =>
    simp [hd] at hr
    exact ⟨d, rfl, pushN_iff.1 hr⟩
/-- where the part begins: i items are left, so many are wanted -/
def begI (ops : List Int) : Nat → Int → Int
  | 0, _ => -1
  | i + 1, want => if arity (ops.getD i 0) < 0 then -1 else if want + (arity (ops.getD i 0) - 1) = 0 then (i : Int) else begI ops i (want + (arity (ops.getD i 0) - 1))
theorem getD_of {ops : List Int} {i : Nat} (h : i < ops.length) : ops.getD i 0 = ops[i] := by simp [h]
theorem beg_gen {ops : List Int} {d e : Nat} (hd : 1 ≤ d) : ∀ (i : Nat) (want : Int) (di : Nat), i ≤ ops.length → rowN (ops.take i) 0 = some di → (di : Int) = d - 1 + want → 1 ≤ want → (∀ j, i ≤ j → j ≤ e → ∃ dj, rowN (ops.take j) 0 = some dj ∧ d ≤ dj) →
    ∃ b : Nat, b < i ∧ begI ops i want = b ∧ rowN (ops.take b) 0 = some (d - 1) ∧ ∀ j, b < j → j ≤ e → ∃ dj, rowN (ops.take j) 0 = some dj ∧ d ≤ dj
  | 0, want, di, _, hr, hdi, hw, _ => by
    simp [rowN] at hr
    omega
  | i + 1, want, di, hi, hr, hdi, hw, hj => by
    obtain ⟨d0, h0, h1, h2, h3⟩ := rn_some (by omega) hr
    rw [begI, getD_of (by omega : i < ops.length), if_neg (by omega)]
    by_cases hz : want + (arity ops[i] - 1) = 0
    · rw [if_pos hz]
      refine ⟨i, by omega, rfl, by rw [h0]; congr 1; omega, fun j h4 h5 => hj j (by omega) h5⟩
    · rw [if_neg hz]
      obtain ⟨b, h4, h5, h6, h7⟩ := beg_gen (e := e) hd i (want + (arity ops[i] - 1)) d0 (by omega) h0 (by omega) (by omega) fun j h4 h5 => by
        rcases Nat.lt_or_ge i j with h6 | h6
        · exact hj j (by omega) h5
        · obtain rfl : i = j := by omega
          exact ⟨d0, h0, by omega⟩
      exact ⟨b, by omega, h5, h6, h7⟩
theorem rn_pos {ops : List Int} {i d : Nat} (h : i < ops.length) (hr : rowN (ops.take (i + 1)) 0 = some d) : 1 ≤ d := by
  obtain ⟨d0, _, h1, h2, h3⟩ := rn_some h hr
  omega
theorem beg_at {ops : List Int} {e d : Nat} (he : e < ops.length) (hr : rowN (ops.take (e + 1)) 0 = some d) :
    ∃ b : Nat, b ≤ e ∧ begI ops (e + 1) 1 = b ∧ rowN (ops.take b) 0 = some (d - 1) ∧ ∀ j, b < j → j ≤ e + 1 → ∃ dj, rowN (ops.take j) 0 = some dj ∧ d ≤ dj := by
  have hd := rn_pos he hr
  obtain ⟨b, h1, h2⟩ := beg_gen (e := e + 1) hd (e + 1) 1 d (by omega) hr (by omega) (by omega) fun j h1 h2 => by
    obtain rfl : j = e + 1 := by omega
    exact ⟨d, hr, Nat.le_refl _⟩
  exact ⟨b, by omega, h2⟩
theorem beg_back (ops : List Int) : ∀ (i : Nat) (want : Int), i ≤ ops.length → 1 ≤ want → begI ops i want = 0 → rowN (ops.take i) 0 = some want.toNat
  | 0, want, _, _, h => by simp [begI] at h
  | i + 1, want, hi, hw, h => by
    have hlt : i < ops.length := by omega
    rw [begI, getD_of hlt] at h
    split at h
    · omega
    · rename_i h1
      rw [rn_succ ops hlt]
      split at h
      · rename_i h2
        obtain rfl : i = 0 := by omega
        have h3 : arity ops[0] = 0 ∧ want = 1 := by
          rcases arity_cases ops[0] with h | h | h | h <;> omega
        rw [h3.2]
        simp only [List.take_zero, rowN, Option.bind_some]
        rw [pushN_iff]
        omega
      · rename_i h2
        rw [beg_back ops i _ (by omega) (by omega) h, Option.bind_some, pushN_iff]
        omega
theorem beg_zero {ops : List Int} (h0 : 0 < ops.length) : begI ops ops.length 1 = 0 ↔ rowN ops 0 = some 1 := by
  constructor
  · intro h
    have := beg_back ops ops.length 1 (Nat.le_refl _) (by omega) h
    rwa [List.take_length] at this
  · intro h
    have e1 : ops.length - 1 + 1 = ops.length := by omega
    obtain ⟨b, h1, h2, h3, h4⟩ := beg_at (ops := ops) (e := ops.length - 1) (d := 1) (by omega) (by rw [e1, List.take_length]; exact h)
    rw [e1] at h2
    rw [h2]
    cases b with
    | zero => rfl
    | succ b =>
      have := rn_pos (by omega) h3
      omega

/-! ### the row of truths -/
section
variable {cm : Inst → Option Int} {o d : Int}
theorem rg_app (a b : List Inst) : ∀ r, runG cm o d (a ++ b) r = (runG cm o d a r).bind (runG cm o d b) := by
  induction a with
  | nil => intro r; rfl
  | cons x a ih => intro r; rw [List.cons_append, runG, runG]; cases stepG cm o d x r <;> simp [ih]
theorem rg_succ (l : List Inst) {i : Nat} (h : i < l.length) : runG cm o d (l.take (i + 1)) [] = (runG cm o d (l.take i) []).bind (stepG cm o d l[i]) := by
  rw [List.take_add_one, List.getElem?_eq_getElem h, rg_app]
  congr 1
  funext r
  simp [runG]
  cases stepG cm o d l[i] r <;> rfl
theorem stepG_some {x : Inst} {r r' : List Bool} (h : stepG cm o d x r = some r') : ∃ k : Nat, arity x.op = k ∧ k ≤ r.length ∧ ∃ v, r' = v :: r.drop k := by
  unfold stepG at h
  split at h
  · rename_i h1
    cases h
    exact ⟨0, by unfold arity; rw [if_pos (by omega)]; rfl, by omega, _, rfl⟩
  · split at h
    · rename_i h1
      split at h
      · cases h
        exact ⟨0, by unfold arity; rw [if_pos (by omega)]; rfl, by omega, _, rfl⟩
      · cases h
    · split at h
      · rename_i h1
        cases h
        exact ⟨0, by unfold arity; rw [if_pos (by omega)]; rfl, by omega, _, rfl⟩
      · split at h
        · rename_i h1
          cases h
          exact ⟨0, by unfold arity; rw [if_pos (by omega)]; rfl, by omega, _, rfl⟩
        · split at h
          · rename_i h1
            split at h
            · cases h
              exact ⟨1, by unfold arity; rw [if_neg (by omega), if_pos (by omega)]; rfl, by simp, _, rfl⟩
            · cases h
          · split at h
            · rename_i h1
              split at h
              · cases h
                exact ⟨2, by unfold arity; rw [if_neg (by omega), if_neg (by omega), if_pos (by omega)]; rfl, by simp, _, rfl⟩
              · cases h
            · cases h
theorem rg_some {l : List Inst} {i : Nat} {r' : List Bool} (h : i < l.length) (hr : runG cm o d (l.take (i + 1)) [] = some r') : ∃ r, runG cm o d (l.take i) [] = some r ∧ stepG cm o d l[i] r = some r' := by
  rw [rg_succ l h] at hr
  cases hd : runG cm o d (l.take i) [] with
  | none => simp [hd] at hr
  | some r =>
    simp [hd] at hr
    exact ⟨r, rfl, hr⟩
theorem rg_row {l : List Inst} : ∀ {i : Nat} {r : List Bool}, i ≤ l.length → runG cm o d (l.take i) [] = some r → rowN ((l.map Inst.op).take i) 0 = some r.length
  | 0, r, _, h => by
    simp [runG] at h
    subst h
    simp [rowN]
  | i + 1, r, hi, h => by
    obtain ⟨r0, h1, h2⟩ := rg_some (by omega) h
    have h3 := rg_row (by omega) h1
    obtain ⟨k, h4, h5, v, rfl⟩ := stepG_some h2
    rw [rn_succ _ (by simp; omega), h3, Option.bind_some, pushN_iff]
    simp [h4]
    omega
theorem rg_begin {l : List Inst} {e : Nat} {v : Bool} {r : List Bool} (he : e < l.length) (h : runG cm o d (l.take (e + 1)) [] = some (v :: r)) :
    ∃ b : Nat, b ≤ e ∧ begI (l.map Inst.op) (e + 1) 1 = b ∧ runG cm o d (l.take b) [] = some r := by
  have hrow := rg_row (by omega) h
  obtain ⟨b, h1, h2, h3, h4⟩ := beg_at (by simpa using he) hrow
  refine ⟨b, h1, h2, ?_⟩
  have down : ∀ k j, j + k = e + 1 → ∃ q, runG cm o d (l.take j) [] = some q := by
    intro k
    induction k with
    | zero =>
      intro j hj
      obtain rfl : j = e + 1 := by omega
      exact ⟨_, h⟩
    | succ k ih =>
      intro j hj
      obtain ⟨q, hq⟩ := ih (j + 1) (by omega)
      obtain ⟨q0, hq0, _⟩ := rg_some (by omega) hq
      exact ⟨q0, hq0⟩
  obtain ⟨q, hq⟩ := down (e + 1 - b) b (by omega)
  have hql := rg_row (by omega) hq
  rw [h3] at hql
  have hql : r.length = q.length := by simpa using hql
  have up : ∀ k, b + k ≤ e + 1 → ∃ t, runG cm o d (l.take (b + k)) [] = some (t ++ q) := by
    intro k
    induction k with
    | zero => exact fun _ => ⟨[], hq⟩
    | succ k ih =>
      intro hk
      obtain ⟨t, ht⟩ := ih (by omega)
      obtain ⟨r1, hr1⟩ := down (e + 1 - (b + k + 1)) (b + k + 1) (by omega)
      obtain ⟨r0, h5, h6⟩ := rg_some (by omega) hr1
      rw [ht] at h5
      cases h5
      obtain ⟨c, h7, h8, v', rfl⟩ := stepG_some h6
      obtain ⟨dj, h9, h10⟩ := h4 (b + k + 1) (by omega) (by omega)
      have h11 := rg_row (by omega) hr1
      rw [h9] at h11
      have h11 : dj = (t ++ q).length - c + 1 := by simpa using h11
      rw [List.length_append] at h11 h8
      simp only [List.length_cons] at h10
      refine ⟨v' :: t.drop c, ?_⟩
      rw [show b + (k + 1) = b + k + 1 by omega, hr1, List.drop_append_of_le_length (by omega)]
      rfl
  obtain ⟨t, ht⟩ := up (e + 1 - b) (by omega)
  rw [show b + (e + 1 - b) = e + 1 by omega, h] at ht
  have ht := Option.some.inj ht
  have htl : t.length = 1 := by
    have := congrArg List.length ht
    simp at this
    omega
  obtain ⟨v', rfl⟩ : ∃ v', t = [v'] := by
    match t, htl with
    | [v'], _ => exact ⟨v', rfl⟩
  rw [hq]
  simp at ht
  rw [ht.2]
end
/-- an instruction that may be asked -/
def askOk (vals : List Int) (attrs : Bool) (x : Inst) : Bool :=
  !(decide (18 < x.op) || (decide (10 < x.op) && decide (x.op < 15)) || (attrs && decide (3 ≤ x.op) && decide (x.op ≤ 8) && (!(decide (-1 ≤ x.la) && decide (x.la < vals.length)) || !(decide (-1 ≤ x.ra) && decide (x.ra < vals.length)))))
theorem valO_iff (vals : List Int) (a n : Int) : (valO vals a n).isSome = (decide (-1 ≤ a) && decide (a < vals.length)) := by
  unfold valO
  by_cases h1 : a = -1
  · subst h1
    simp
    omega
  · rw [if_neg h1]
    by_cases h2 : a < 0
    · rw [if_pos h2]
      simp
      omega
    · rw [if_neg h2]
      rw [Bool.eq_iff_iff]
      simp
      omega
theorem cmS_some (vals : List Int) (x : Inst) : (cmS vals x).isSome = ((decide (-1 ≤ x.la) && decide (x.la < vals.length)) && (decide (-1 ≤ x.ra) && decide (x.ra < vals.length))) := by
  rw [← valO_iff vals x.la x.ln, ← valO_iff vals x.ra x.rn]
  unfold cmS
  cases valO vals x.la x.ln <;> cases valO vals x.ra x.rn <;> rfl
theorem step_ok {s : St} {x : Inst} {r : List Bool} (h : askOk s.vals true x = true) (h0 : 0 ≤ arity x.op) (h1 : arity x.op ≤ r.length) : ∃ r', stepG (cmS s.vals) s.opn s.don x r = some r' := by
  have hc := cmS_some s.vals x
  unfold askOk at h
  simp only [Bool.not_eq_true', Bool.or_eq_false_iff, Bool.and_eq_false_iff, decide_eq_false_iff_not, Bool.true_and, Bool.not_eq_false'] at h
  unfold stepG
  split
  · exact ⟨_, rfl⟩
  · split
    · rename_i h2 h3
      have : (cmS s.vals x).isSome = true := by
        rw [hc, Bool.and_eq_true]
        rcases h.2 with h4 | h4
        · rcases h4 with h4 | h4 <;> simp at h4 <;> omega
        · exact h4
      obtain ⟨c, hc⟩ := Option.isSome_iff_exists.1 this
      rw [hc]
      exact ⟨_, rfl⟩
    · split
      · exact ⟨_, rfl⟩
      · split
        · exact ⟨_, rfl⟩
        · split
          · rename_i h6
            have : arity x.op = 1 := by unfold arity; rw [if_neg (by omega), if_pos (by omega)]
            cases r with
            | nil => simp at h1; omega
            | cons a r => exact ⟨_, rfl⟩
          · split
            · rename_i h6
              have : arity x.op = 2 := by unfold arity; rw [if_neg (by omega), if_neg (by omega), if_pos (by omega)]
              match r with
              | [] => simp at h1; omega
              | [a] => simp at h1; omega
              | b :: a :: r => exact ⟨_, rfl⟩
            · rename_i h2 h3 h4 h5 h6 h7
              exfalso
              have h8 := h.1
              unfold arity at h0
              split at h0
              · rename_i h9
                rcases h8 with ⟨h10, h11⟩
                rcases h11 with h11 | h11 <;> omega
              · split at h0
                · omega
                · split at h0 <;> omega
theorem run_ok {s : St} {l : List Inst} (hl : ∀ x ∈ l, askOk s.vals true x = true) : ∀ (i : Nat) (d : Nat), i ≤ l.length → rowN ((l.map Inst.op).take i) 0 = some d → ∃ r, runG (cmS s.vals) s.opn s.don (l.take i) [] = some r ∧ r.length = d
  | 0, d, _, h => by
    simp [rowN] at h
    exact ⟨[], by simp [runG], h⟩
  | i + 1, d, hi, h => by
    have hlt : i < l.length := by omega
    obtain ⟨d0, h0, h1, h2, h3⟩ := rn_some (by simpa using hlt) h
    obtain ⟨r, h4, h5⟩ := run_ok hl i d0 (by omega) h0
    simp only [List.getElem_map] at h1 h2 h3
    obtain ⟨r', h6⟩ := step_ok (s := s) (r := r) (hl l[i] (List.getElem_mem hlt)) h1 (by omega)
    have h7 : runG (cmS s.vals) s.opn s.don (l.take (i + 1)) [] = some r' := by rw [rg_succ l hlt, h4, Option.bind_some, h6]
    have h8 := rg_row (by omega) h7
    rw [h] at h8
    exact ⟨r', h7, (Option.some.inj h8).symm⟩
theorem run_all_ok {s : St} {l : List Inst} {r : List Bool} (h : runG (cmS s.vals) s.opn s.don l [] = some r) : ∀ x ∈ l, askOk s.vals true x = true := by
  intro x hx
  obtain ⟨i, hi, rfl⟩ := List.getElem_of_mem hx
  have down : ∀ k j, j + k = l.length → ∃ q, runG (cmS s.vals) s.opn s.don (l.take j) [] = some q := by
    intro k
    induction k with
    | zero =>
      intro j hj
      obtain rfl : j = l.length := by omega
      exact ⟨r, by rw [List.take_length]; exact h⟩
    | succ k ih =>
      intro j hj
      obtain ⟨q, hq⟩ := ih (j + 1) (by omega)
      obtain ⟨q0, hq0, _⟩ := rg_some (by omega) hq
      exact ⟨q0, hq0⟩
  obtain ⟨q, hq⟩ := down (l.length - (i + 1)) (i + 1) (by omega)
  obtain ⟨q0, _, h2⟩ := rg_some hi hq
  have hc := cmS_some s.vals l[i]
  unfold askOk
  simp only [Bool.not_eq_true', Bool.or_eq_false_iff, Bool.and_eq_false_iff, decide_eq_false_iff_not, Bool.true_and, Bool.not_eq_false']
  unfold stepG at h2
  split at h2
  · rename_i h3
    exact ⟨⟨by omega, by omega⟩, .inl (by omega)⟩
  · split at h2
    · rename_i h3 h4
      split at h2
      · rename_i c hcm
        rw [hcm] at hc
        simp only [Option.isSome_some] at hc
        have hc := hc.symm
        rw [Bool.and_eq_true] at hc
        exact ⟨⟨by omega, by omega⟩, .inr hc⟩
      · cases h2
    · split at h2
      · exact ⟨⟨by omega, by omega⟩, .inl (by omega)⟩
      · split at h2
        · exact ⟨⟨by omega, by omega⟩, .inl (by omega)⟩
        · split at h2
          · exact ⟨⟨by omega, by omega⟩, .inl (by omega)⟩
          · split at h2
            · exact ⟨⟨by omega, by omega⟩, .inl (by omega)⟩
            · cases h2
theorem holdsO_some {l : List Inst} {s : St} (h1 : checkE (l.map Inst.op) = 0) (h2 : ∀ x ∈ l, askOk s.vals true x = true) : ∃ b, runG (cmS s.vals) s.opn s.don l [] = some [b] ∧ holdsO l s = some b := by
  have h3 : rowN (l.map Inst.op) 0 = some 1 := by
    unfold checkE at h1
    split at h1
    · cases h1
    · split at h1
      · cases h1
      · split at h1
        · assumption
        · cases h1
  obtain ⟨r, h4, h5⟩ := run_ok h2 l.length 1 (Nat.le_refl _) (by rw [show l.length = (l.map Inst.op).length by simp, List.take_length]; exact h3)
  rw [List.take_length] at h4
  match r, h5 with
  | [b], _ =>
    refine ⟨b, h4, ?_⟩
    unfold holdsO holdsG
    rw [if_neg (by simp [h1]), h4]
theorem holdsO_none {l : List Inst} {s : St} (h : ¬ (checkE (l.map Inst.op) = 0 ∧ ∀ x ∈ l, askOk s.vals true x = true)) : holdsO l s = none := by
  unfold holdsO holdsG
  split
  · rfl
  · rename_i h1
    cases hr : runG (cmS s.vals) s.opn s.don l [] with
    | none => rfl
    | some r => exact absurd ⟨by simpa using h1, run_all_ok hr⟩ h
end Go.Proofs.Ytfocnmkbnccilaa
