/-
  The walk of one step of the asker, in whatever case; and of eval.Sides, whatever tells the comparisons. No condition.
-/
import Derived.Test.YtfocnmkbnccilaaEvStep2
set_option linter.unusedVariables false
set_option linter.unusedSimpArgs false
namespace Go.Proofs.Ytfocnmkbnccilaa
open Go.RowKit

/-- what is asked of the function that tells a comparison -/
def LessOK (k : Nat) (caps : Array Value) (cm : Inst → Option Int) (x : Inst) (w0 : World) : Prop := ∀ w', Below w0.heap.size w0 w' →
  match cm x with
  | some c => Calls Try.prog k (#[.agg #[.int .i64 x.la, .int .i64 x.ln], .agg #[.int .i64 x.ra, .int .i64 x.rn]] ++ caps) w' fun e w'' => e = .returned (.int .i64 c) ∧ Below w'.heap.size w' w''
  | none => Calls Try.prog k (#[.agg #[.int .i64 x.la, .int .i64 x.ln], .agg #[.int .i64 x.ra, .int .i64 x.rn]] ++ caps) w' fun e w'' => e = .panicked lostP ∧ Below w'.heap.size w' w''
theorem LessOK.some_ {k : Nat} {caps : Array Value} {cm : Inst → Option Int} {x : Inst} {w0 w : World} (h : LessOK k caps cm x w0) (hb : Below w0.heap.size w0 w) {c : Int} (hc : cm x = some c) :
    Hid (∀ w', Below w.heap.size w w' → Calls Try.prog k (#[.agg #[.int .i64 x.la, .int .i64 x.ln], .agg #[.int .i64 x.ra, .int .i64 x.rn]] ++ caps) w' fun e w'' => e = .returned (.int .i64 c) ∧ Below w'.heap.size w' w'') := by
  refine hide fun w' hw => ?_
  have := h w' (hb.trans (hw.mono hb.size))
  rw [hc] at this
  exact this
theorem LessOK.none_ {k : Nat} {caps : Array Value} {cm : Inst → Option Int} {x : Inst} {w0 w : World} (h : LessOK k caps cm x w0) (hb : Below w0.heap.size w0 w) (hc : cm x = none) :
    Hid (∀ w', Below w.heap.size w w' → Calls Try.prog k (#[.agg #[.int .i64 x.la, .int .i64 x.ln], .agg #[.int .i64 x.ra, .int .i64 x.rn]] ++ caps) w' fun e w'' => e = .panicked lostP ∧ Below w'.heap.size w' w'') := by
  refine hide fun w' hw => ?_
  have := h w' (hb.trans (hw.mono hb.size))
  rw [hc] at this
  exact this
theorem snoc_of_cons {L r : List Bool} {b : Bool} (h : L.reverse = b :: r) : L = r.reverse ++ [b] := by
  have := congrArg List.reverse h
  simpa using this

theorem step_some (x : Inst) (cm : Inst → Option Int) (a k : Nat) (caps : Array Value) (vv : Value) (o d : Int) (dv cv : Value) (L : List Bool) (r' : List Bool) (w w0 : World) (h : AskAt w a w.heap.size vv o d dv cv (.func (.func k) #[] caps) L) (hL : L.length ≤ 900)
    (hcf : ∀ (args : Array Value) (w : World), (callFunc k args).run Try.prog w = .ok (.enter k args) w) (hl : LessOK k caps cm x w0) (hb : Below w0.heap.size w0 w) (hr : stepG cm o d x L.reverse = some r') :
    Calls Try.prog 125 #[.pointer (some ⟨a, 0, none⟩), instVal x.op x.la x.ln x.ra x.rn x.n x.u] w (StepPost a vv o d dv cv (.func (.func k) #[] caps) r'.reverse w) := by
  obtain ⟨op, la, ln, ra, rn, n, u⟩ := x
  unfold stepG at hr
  simp only at hr ⊢
  split at hr
  · cases hr
    have := stepT op la ln ra rn n u a vv o d dv cv _ L w h (by omega) (by assumption)
    simpa using this
  split at hr
  · rename_i h1
    split at hr
    · rename_i c hc
      cases hr
      have HL := hl.some_ hb hc
      have e : op = 3 ∨ op = 4 ∨ op = 5 ∨ op = 6 ∨ op = 7 ∨ op = 8 := by omega
      rw [List.reverse_cons, List.reverse_reverse]
      rcases e with rfl | rfl | rfl | rfl | rfl | rfl
      · exact stepCmp3 la ln ra rn n u c a k caps vv o d dv cv L w h (by omega) hcf HL
      · exact stepCmp4 la ln ra rn n u c a k caps vv o d dv cv L w h (by omega) hcf HL
      · exact stepCmp5 la ln ra rn n u c a k caps vv o d dv cv L w h (by omega) hcf HL
      · exact stepCmp6 la ln ra rn n u c a k caps vv o d dv cv L w h (by omega) hcf HL
      · exact stepCmp7 la ln ra rn n u c a k caps vv o d dv cv L w h (by omega) hcf HL
      · exact stepCmp8 la ln ra rn n u c a k caps vv o d dv cv L w h (by omega) hcf HL
    · cases hr
  split at hr
  · rename_i h9
    subst h9
    cases hr
    rw [List.reverse_cons, List.reverse_reverse]
    exact stepHas9 la ln ra rn n u a vv o d dv cv _ L w h (by omega)
  split at hr
  · rename_i h10
    subst h10
    cases hr
    rw [List.reverse_cons, List.reverse_reverse]
    exact stepHas10 la ln ra rn n u a vv o d dv cv _ L w h (by omega)
  split at hr
  · rename_i h15
    subst h15
    split at hr
    · rename_i b r e
      cases hr
      obtain rfl := snoc_of_cons e
      simp at hL
      rw [List.reverse_cons]
      exact stepNot la ln ra rn n u a vv o d dv cv _ _ b w h (by simp; omega)
    · cases hr
  split at hr
  · rename_i h16
    split at hr
    · rename_i b a' r e
      cases hr
      have e2 : L = (r.reverse ++ [a']) ++ [b] := by
        have := snoc_of_cons e
        simpa using this
      subst e2
      simp at hL
      have e : op = 16 ∨ op = 17 ∨ op = 18 := by omega
      rcases e with rfl | rfl | rfl
      · have := stepBin16 la ln ra rn n u a vv o d dv cv _ r.reverse a' b w h (by simp; omega)
        simpa using this
      · have := stepBin17 la ln ra rn n u a vv o d dv cv _ r.reverse a' b w h (by simp; omega)
        simpa using this
      · have := stepBin18 la ln ra rn n u a vv o d dv cv _ r.reverse a' b w h (by simp; omega)
        simpa using this
    · cases hr
  · cases hr

theorem step_none (x : Inst) (cm : Inst → Option Int) (a k : Nat) (caps : Array Value) (vv : Value) (o d : Int) (dv cv : Value) (L : List Bool) (w w0 : World) (h : AskAt w a w.heap.size vv o d dv cv (.func (.func k) #[] caps) L) (hL : L.length ≤ 900)
    (hcf : ∀ (args : Array Value) (w : World), (callFunc k args).run Try.prog w = .ok (.enter k args) w) (hl : LessOK k caps cm x w0) (hb : Below w0.heap.size w0 w) (hr : stepG cm o d x L.reverse = none) :
    Calls Try.prog 125 #[.pointer (some ⟨a, 0, none⟩), instVal x.op x.la x.ln x.ra x.rn x.n x.u] w fun e w' => e = .panicked lostP ∧ Below a w w' := by
  have hal : a < w.heap.size := by obtain ⟨_, _, _, h3, _⟩ := h; exact h3
  obtain ⟨op, la, ln, ra, rn, n, u⟩ := x
  unfold stepG at hr
  simp only at hr ⊢
  split at hr
  · cases hr
  rename_i h12
  split at hr
  · rename_i h1
    split at hr
    · cases hr
    · rename_i hc
      have HL := hl.none_ hb hc
      have e : op = 3 ∨ op = 4 ∨ op = 5 ∨ op = 6 ∨ op = 7 ∨ op = 8 := by omega
      rcases e with rfl | rfl | rfl | rfl | rfl | rfl
      · exact stepNo3 la ln ra rn n u a k caps vv o d dv cv L w h (by omega) hcf HL
      · exact stepNo4 la ln ra rn n u a k caps vv o d dv cv L w h (by omega) hcf HL
      · exact stepNo5 la ln ra rn n u a k caps vv o d dv cv L w h (by omega) hcf HL
      · exact stepNo6 la ln ra rn n u a k caps vv o d dv cv L w h (by omega) hcf HL
      · exact stepNo7 la ln ra rn n u a k caps vv o d dv cv L w h (by omega) hcf HL
      · exact stepNo8 la ln ra rn n u a k caps vv o d dv cv L w h (by omega) hcf HL
  rename_i h38
  split at hr
  · cases hr
  rename_i h9
  split at hr
  · cases hr
  rename_i h10
  split at hr
  · rename_i h15
    subst h15
    split at hr
    · cases hr
    · rename_i e
      have e : L = [] := by simpa using e
      subst e
      exact stepNotNone la ln ra rn n u a vv o d dv cv _ w h
  rename_i h15
  split at hr
  · rename_i h16
    have hl2 : L.length < 2 := by
      rw [← List.length_reverse]
      match hh : L.reverse with
      | [] => simp
      | [_] => simp
      | _ :: _ :: _ => rw [hh] at hr; cases hr
    have e : op = 16 ∨ op = 17 ∨ op = 18 := by omega
    rcases e with rfl | rfl | rfl
    · exact stepBinNone16 la ln ra rn n u a vv o d dv cv _ L w h hl2
    · exact stepBinNone17 la ln ra rn n u a vv o d dv cv _ L w h hl2
    · exact stepBinNone18 la ln ra rn n u a vv o d dv cv _ L w h hl2
  · rename_i h16
    have ne : ∀ k : Int, op ≠ k → (op == k) = false := fun k h => beq_eq_false_iff_ne.2 h
    exact stepBad op la ln ra rn n u a w (Nat.le_of_lt hal) (ne _ (by omega)) (ne _ (by omega)) (ne _ (by omega)) (ne _ (by omega)) (ne _ (by omega)) (ne _ (by omega)) (ne _ (by omega)) (ne _ (by omega)) (ne _ (by omega)) (ne _ (by omega)) (ne _ (by omega)) (ne _ (by omega)) (ne _ (by omega)) (ne _ (by omega))
end Go.Proofs.Ytfocnmkbnccilaa
