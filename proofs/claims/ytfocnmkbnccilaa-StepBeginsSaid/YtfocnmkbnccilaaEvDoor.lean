/-
  The walk of the deferred closure of eval.Sides: what was thrown becomes an error. No condition.
-/
import Derived.Test.YtfocnmkbnccilaaEvSides
import Derived.Defers
import Derived.Recover
set_option linter.unusedVariables false
set_option linter.unusedSimpArgs false
namespace Go.Proofs.Ytfocnmkbnccilaa
open Go.RowKit
theorem caught_nil (p q : Addr) (w : World) : Calls Try.prog 122 #[.pointer (some p), .pointer (some q), .nilIface] w fun e w' => e = .returned (.tuple #[]) ∧ w = w' := by
  go_enter Try.func122, Try.ntmps122
  go_wp2
  refine bodyPost_ret (results_none rfl _ _ _) rfl ?_
  exact ⟨rfl, rfl⟩
theorem assertLost (w : World) : (Instr.typeAssert (.iface 166 (.agg #[])) 20 166 true).run Try.prog w = .ok (.tuple #[.agg #[], .bool true]) w := by kernel_rfl
theorem eqNil (w : World) : (binOp BinOp.eql 20 (.iface 166 (.agg #[])) .nilIface).run Try.prog w = .ok (.bool false) w := by kernel_rfl
theorem caught_lost (p q : Nat) (x : Bool) (y : Int) (w : World) (hp : Blk w p 4 #[.bool x]) (hq : Blk w q 48 #[.int .i64 y]) (hpq : p ≠ q) {B : Nat} (hBp : B ≤ p) (hBq : B ≤ q) : Calls Try.prog 122 #[.pointer (some ⟨p, 0, none⟩), .pointer (some ⟨q, 0, none⟩), .iface 166 (.agg #[])] w fun e w' => e = .returned (.tuple #[]) ∧ Blk w' p 4 #[.bool false] ∧ Blk w' q 48 #[.int .i64 17] ∧ Below B w w' := by
  have hta := assertLost
  have heq := eqNil
  have c0 := hp.cell 0
  have f0 := hp.frozen 0
  have d0 := hq.cell 0
  have g0 := hq.frozen 0
  simp at c0 d0
  have hpl := hp.lt
  have hql := hq.lt
  have HP := hide hp
  have HQ := hide hq
  clear hp hq
  go_enter Try.func122, Try.ntmps122
  go_wp2
  go_end0
  refine ⟨rfl, ?_, ?_, (((Below.refl B w).setCell hBp _).setCell hBq _).alloc (by simp; omega) _⟩
  · have h1 := HP.out.set_ 0 (.bool false)
    have h2 := (h1.far (p := ⟨q, 0, none⟩) (by simpa using hpq) (.int .i64 17)).alloc (.cells #[] 166)
    simpa using h2
  · have h1 := HQ.out.far (p := ⟨p, 0, none⟩) (by simpa using Ne.symm hpq) (.bool false)
    have h2 := (h1.set_ 0 (.int .i64 17)).alloc (.cells #[] 166)
    simpa using h2

theorem catch_idle (p q : Addr) (w : World) :
    CallsD Try.prog 121 #[.pointer (some p), .pointer (some q)] .returning w fun e u' w' => e = .returned (.tuple #[]) ∧ u' = .returning ∧ w = w' := by
  refine callsD_of_wpS Try.func121 rfl fun c₀ cs hu => ?_
  apply wpS_region
  simp [wpOpsS, go_sem, recoverD, hu, Try.ntmps121, Exit.thenS]
  refine (caught_nil p q w).mono ?_
  rintro e w' ⟨rfl, rfl⟩
  cases c₀
  simp_all [bodyPostS, results, Try.results121]

theorem catch_lost (p q : Nat) (x : Bool) (y : Int) (w : World) (hp : Blk w p 4 #[.bool x]) (hq : Blk w q 48 #[.int .i64 y]) (hpq : p ≠ q) {B : Nat} (hBp : B ≤ p) (hBq : B ≤ q) :
    CallsD Try.prog 121 #[.pointer (some ⟨p, 0, none⟩), .pointer (some ⟨q, 0, none⟩)] (.panicking lostP) w fun e u' w' => e = .returned (.tuple #[]) ∧ u' = .panicking [{ v := .iface 166 (.agg #[]), recovered := true }] ∧ (Blk w' p 4 #[.bool false] ∧ Blk w' q 48 #[.int .i64 17] ∧ Below B w w') := by
  have H := hide (caught_lost p q x y w hp hq hpq hBp hBq)
  clear hp hq
  refine callsD_of_wpS Try.func121 rfl fun c₀ cs hu => ?_
  apply wpS_region
  simp [wpOpsS, go_sem, recoverD, hu, Try.ntmps121, Exit.thenS, lostP]
  refine H.out.mono ?_
  rintro e w' ⟨rfl, h1, h2, h3⟩
  refine ⟨rfl, _, rfl, .tuple #[], ?_, rfl, rfl, h1, h2, h3⟩
  simp [results, Try.results121, go_sem]
end Go.Proofs.Ytfocnmkbnccilaa
