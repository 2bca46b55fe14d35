/-
  Parts of the proof: SoQ, AlTy, EvSpec, Rep, EvRep, Struct, Mod, EvA, Bits, C1, NestSpec, Law, Nest, CL, NestB, NestC, NestD, EvAsk, EvAsk2, EvSides, EvSides2, C2.
-/
import Derived.Test.YtbahakgmbceflaaGreatNsm4
import Derived.Test.YtbahakgmbceflaaGreatProg
import Derived.WalkKit
import Derived.WalkLawsBesides
import Derived.ProofKit
import Derived.OpenShut
import Derived.Deep.Slices
import Derived.BigQuiet
import Derived.Deep.QuietTactic
import Derived.Test.YtbahakgmbceflaaGreatRows
import Derived.SizedLaws
import Derived.WalkSpells
import Derived.ScopeJumps
import Derived.WalkMore
import Derived.Handy
import Derived.Deep.DeepCutAuto
import Derived.Deep.CutBlock
import Derived.Deep.RegionHeld3
import Derived.Deep.RegionHeld2
import Derived.Deep.DrawnRows
set_option linter.unusedVariables false
set_option linter.unusedSimpArgs false
namespace Go.Proofs.YtbahakgmbceflaaGreat
section
def sw (l : List Pt) (i j : Nat) : List Pt := (l.set i (l.getD j default)).set j (l.getD i default)
theorem sw_len (l : List Pt) (i j : Nat) : (sw l i j).length = l.length := by simp [sw]
def swp (l : List Pt) (p q : Nat) : Nat → List Pt
  | 0 => l
  | k + 1 => sw (swp l p q k) (p + k) (q + k)
theorem swp_len (l : List Pt) (p q : Nat) : ∀ k, (swp l p q k).length = l.length
  | 0 => rfl
  | k + 1 => by rw [swp, sw_len, swp_len l p q k]
theorem sw_comm (l : List Pt) {i j : Nat} (h : i ≠ j) : sw l i j = sw l j i := by
  unfold sw
  rw [List.set_comm _ _ h]
theorem get_mid {X Z : List Pt} {y : Pt} {i : Nat} (hi : i = X.length) : (X ++ y :: Z)[i]? = some y := by
  subst hi
  simp
theorem set_mid {X Z : List Pt} {y z : Pt} {i : Nat} (hi : i = X.length) : (X ++ y :: Z).set i z = X ++ z :: Z := by
  subst hi
  simp
theorem sw_app {X Y Z : List Pt} {a b : Pt} {i j : Nat} (hi : i = X.length) (hj : j = X.length + 1 + Y.length) : sw (X ++ a :: (Y ++ b :: Z)) i j = X ++ b :: (Y ++ a :: Z) := by
  unfold sw
  have e1 : (X ++ a :: (Y ++ b :: Z)).getD i default = a := by rw [List.getD_eq_getElem?_getD, get_mid hi]; rfl
  have e2 : ∀ c : Pt, X ++ c :: (Y ++ b :: Z) = (X ++ c :: Y) ++ b :: Z := fun c => by simp
  have hj' : ∀ c : Pt, j = (X ++ c :: Y).length := fun c => by simp; omega
  have e3 : (X ++ a :: (Y ++ b :: Z)).getD j default = b := by rw [e2, List.getD_eq_getElem?_getD, get_mid (hj' a)]; rfl
  rw [e1, e3, set_mid hi, e2, set_mid (hj' b)]
  simp
theorem swp_spec {pre A mid B post : List Pt} (h : A.length = B.length) {p q : Nat} (hp : p = pre.length) (hq : q = (pre ++ A ++ mid).length) : ∀ k, k ≤ A.length → swp (pre ++ A ++ mid ++ B ++ post) p q k = (pre ++ B.take k) ++ (A.drop k ++ mid ++ A.take k ++ (B.drop k ++ post))
  | 0, _ => by simp [swp]
  | k + 1, hk => by
    have hkA : k < A.length := by omega
    have hkB : k < B.length := by omega
    have eA : A.drop k = A[k] :: A.drop (k + 1) := List.drop_eq_getElem_cons hkA
    have eB : B.drop k = B[k] :: B.drop (k + 1) := List.drop_eq_getElem_cons hkB
    have tA : A.take (k + 1) = A.take k ++ [A[k]] := List.take_succ_eq_append_getElem hkA
    have tB : B.take (k + 1) = B.take k ++ [B[k]] := List.take_succ_eq_append_getElem hkB
    have lA : (A.take k).length = k := by rw [List.length_take]; omega
    have lB : (B.take k).length = k := by rw [List.length_take]; omega
    have lA2 : (A.drop (k + 1)).length = A.length - (k + 1) := List.length_drop
    rw [swp, swp_spec h hp hq k (by omega), eA, eB, tA, tB]
    generalize A[k] = x at *
    generalize B[k] = y at *
    generalize A.drop (k + 1) = A2 at *
    generalize B.drop (k + 1) = B2 at *
    generalize A.take k = A1 at *
    generalize B.take k = B1 at *
    have e : (pre ++ B1) ++ (x :: A2 ++ mid ++ A1 ++ (y :: B2 ++ post)) = (pre ++ B1) ++ x :: ((A2 ++ mid ++ A1) ++ y :: (B2 ++ post)) := by simp
    rw [e, sw_app (by simp; omega) (by simp at hq ⊢; omega)]
    simp
theorem swp_all {pre A mid B post : List Pt} (h : A.length = B.length) {p q n : Nat} (hp : p = pre.length) (hq : q = (pre ++ A ++ mid).length) (hn : n = A.length) : swp (pre ++ A ++ mid ++ B ++ post) p q n = pre ++ B ++ mid ++ A ++ post := by
  subst hn
  rw [swp_spec h hp hq _ (Nat.le_refl _), List.drop_length, List.take_length, h, List.take_length, List.drop_length]
  simp
theorem srt_snoc {l : List Pt} {x : Pt} (h : Dt (l ++ [x])) : srt (srt l ++ [x]) = srt (l ++ [x]) := by
  have := srt_srt h
  rw [show srt [x] = [x] from srt_of (List.pairwise_singleton _ _)] at this
  exact this
theorem Tg.take {l : List Pt} (h : Tg l) (k : Nat) : Tg (l.take k) := h.sublist (List.take_sublist k l)
theorem Tg.drop {l : List Pt} (h : Tg l) (k : Nat) : Tg (l.drop k) := h.sublist (List.drop_sublist k l)
theorem Tg.lt {l : List Pt} (h : Tg l) {k : Nat} (hk : k < l.length) : ∀ y ∈ l.take k, y.t < l[k].t := fun y hy => by
  obtain ⟨i, hi, rfl⟩ := List.getElem_of_mem hy
  rw [List.length_take] at hi
  rw [List.getElem_take]
  exact List.pairwise_iff_getElem.1 h i k (by omega) hk (by omega)
end
section
open Go.RowKit
theorem tyA_32 : tyAgg Tryz.prog 32 = true := by kernel_rfl
theorem tyS_32 : tySize Tryz.prog 32 = 10 := by kernel_rfl
theorem tyA_38 : tyAgg Tryz.prog 38 = true := by kernel_rfl
theorem tyS_38 : tySize Tryz.prog 38 = 6 := by kernel_rfl
theorem tyE_23 : tyElem Tryz.prog 23 = (2, 1) := by kernel_rfl
theorem tyK_23 : tyK Tryz.prog 23 = TyK.slice := by kernel_rfl
theorem tyK_3 : tyK Tryz.prog 3 = TyK.int := by kernel_rfl
theorem tyA_2 : tyAgg Tryz.prog 2 = false := by kernel_rfl
theorem tyS_2 : tySize Tryz.prog 2 = 1 := by kernel_rfl
theorem tyK_2 : tyK Tryz.prog 2 = TyK.int := by kernel_rfl
theorem tyZ_43 : tyZero Tryz.prog 43 = some (Value.agg #[Value.slice none 0 0, Value.int IntKind.i64 0, Value.int IntKind.i64 0, Value.slice none 0 0, Value.slice none 0 0]) := by kernel_rfl
theorem tyS_43 : tySize Tryz.prog 43 = 5 := by kernel_rfl
theorem tyK_4 : tyK Tryz.prog 4 = TyK.bool := by kernel_rfl
theorem tyA_43 : tyAgg Tryz.prog 43 = true := by kernel_rfl
theorem tyF_32_5 : fOff Tryz.prog 32 5 = some 5 := by kernel_rfl
theorem tyA_26 : tyAgg Tryz.prog 26 = false := by kernel_rfl
theorem tyS_26 : tySize Tryz.prog 26 = 1 := by kernel_rfl
theorem tyE_26 : tyElem Tryz.prog 26 = (51, 5) := by kernel_rfl
theorem tyK_26 : tyK Tryz.prog 26 = TyK.slice := by kernel_rfl
theorem tyF_51_4 : fOff Tryz.prog 51 4 = some 4 := by kernel_rfl
theorem tyA_3 : tyAgg Tryz.prog 3 = false := by kernel_rfl
theorem tyS_3 : tySize Tryz.prog 3 = 1 := by kernel_rfl
theorem tyF_51_3 : fOff Tryz.prog 51 3 = some 3 := by kernel_rfl
theorem tyA_34 : tyAgg Tryz.prog 34 = false := by kernel_rfl
theorem tyS_34 : tySize Tryz.prog 34 = 1 := by kernel_rfl
theorem tyE_34 : tyElem Tryz.prog 34 = (3, 1) := by kernel_rfl
theorem tyK_34 : tyK Tryz.prog 34 = TyK.slice := by kernel_rfl
theorem tyF_38_0 : fOff Tryz.prog 38 0 = some 0 := by kernel_rfl
theorem tyA_36 : tyAgg Tryz.prog 36 = true := by kernel_rfl
theorem tyS_36 : tySize Tryz.prog 36 = 2 := by kernel_rfl
theorem tyF_38_3 : fOff Tryz.prog 38 3 = some 4 := by kernel_rfl
theorem tyF_38_4 : fOff Tryz.prog 38 4 = some 5 := by kernel_rfl
theorem tyF_32_0 : fOff Tryz.prog 32 0 = some 0 := by kernel_rfl
theorem tyA_22 : tyAgg Tryz.prog 22 = false := by kernel_rfl
theorem tyS_22 : tySize Tryz.prog 22 = 1 := by kernel_rfl
theorem tyE_22 : tyElem Tryz.prog 22 = (9, 1) := by kernel_rfl
theorem tyK_22 : tyK Tryz.prog 22 = TyK.slice := by kernel_rfl
theorem tyF_32_1 : fOff Tryz.prog 32 1 = some 1 := by kernel_rfl
theorem tyA_23 : tyAgg Tryz.prog 23 = false := by kernel_rfl
theorem tyS_23 : tySize Tryz.prog 23 = 1 := by kernel_rfl
theorem tyF_32_2 : fOff Tryz.prog 32 2 = some 2 := by kernel_rfl
theorem tyF_32_3 : fOff Tryz.prog 32 3 = some 3 := by kernel_rfl
theorem tyA_24 : tyAgg Tryz.prog 24 = false := by kernel_rfl
theorem tyS_24 : tySize Tryz.prog 24 = 1 := by kernel_rfl
theorem tyE_24 : tyElem Tryz.prog 24 = (82, 2) := by kernel_rfl
theorem tyK_24 : tyK Tryz.prog 24 = TyK.slice := by kernel_rfl
theorem tyF_32_4 : fOff Tryz.prog 32 4 = some 4 := by kernel_rfl
theorem tyA_25 : tyAgg Tryz.prog 25 = false := by kernel_rfl
theorem tyS_25 : tySize Tryz.prog 25 = 1 := by kernel_rfl
theorem tyE_25 : tyElem Tryz.prog 25 = (85, 2) := by kernel_rfl
theorem tyK_25 : tyK Tryz.prog 25 = TyK.slice := by kernel_rfl
theorem tyF_32_6 : fOff Tryz.prog 32 6 = some 6 := by kernel_rfl
theorem tyA_27 : tyAgg Tryz.prog 27 = false := by kernel_rfl
theorem tyS_27 : tySize Tryz.prog 27 = 1 := by kernel_rfl
theorem tyE_27 : tyElem Tryz.prog 27 = (78, 3) := by kernel_rfl
theorem tyK_27 : tyK Tryz.prog 27 = TyK.slice := by kernel_rfl
theorem tyF_32_7 : fOff Tryz.prog 32 7 = some 7 := by kernel_rfl
theorem tyA_28 : tyAgg Tryz.prog 28 = false := by kernel_rfl
theorem tyS_28 : tySize Tryz.prog 28 = 1 := by kernel_rfl
theorem tyE_28 : tyElem Tryz.prog 28 = (80, 5) := by kernel_rfl
theorem tyK_28 : tyK Tryz.prog 28 = TyK.slice := by kernel_rfl
theorem tyF_32_8 : fOff Tryz.prog 32 8 = some 8 := by kernel_rfl
theorem tyA_29 : tyAgg Tryz.prog 29 = false := by kernel_rfl
theorem tyS_29 : tySize Tryz.prog 29 = 1 := by kernel_rfl
theorem tyE_29 : tyElem Tryz.prog 29 = (89, 2) := by kernel_rfl
theorem tyK_29 : tyK Tryz.prog 29 = TyK.slice := by kernel_rfl
theorem tyK_57 : tyK Tryz.prog 57 = TyK.int := by kernel_rfl
theorem tyF_32_9 : fOff Tryz.prog 32 9 = some 9 := by kernel_rfl
theorem tyA_30 : tyAgg Tryz.prog 30 = false := by kernel_rfl
theorem tyS_30 : tySize Tryz.prog 30 = 1 := by kernel_rfl
theorem tyR_22 : tyRow Tryz.prog 22 = some (9, 1, 16) := by kernel_rfl
theorem tyR_23 : tyRow Tryz.prog 23 = some (2, 1, 8) := by kernel_rfl
theorem tyB_32 : tyParts Tryz.prog 32 = some ([(0, 1), (1, 1), (2, 1), (3, 1), (4, 1), (5, 1), (6, 1), (7, 1), (8, 1), (9, 1)], [Value.slice none 0 0, Value.slice none 0 0, Value.slice none 0 0, Value.slice none 0 0, Value.slice none 0 0, Value.slice none 0 0, Value.slice none 0 0, Value.slice none 0 0, Value.slice none 0 0, Value.slice none 0 0]) := by kernel_rfl
theorem tyZ_32 : tyZero Tryz.prog 32 = some (Value.agg #[Value.slice none 0 0, Value.slice none 0 0, Value.slice none 0 0, Value.slice none 0 0, Value.slice none 0 0, Value.slice none 0 0, Value.slice none 0 0, Value.slice none 0 0, Value.slice none 0 0, Value.slice none 0 0]) := by kernel_rfl
theorem tyZ_38 : tyZero Tryz.prog 38 = some (Value.agg #[Value.slice none 0 0, Value.slice none 0 0, Value.int IntKind.i64 0, Value.int IntKind.i64 0, Value.slice none 0 0, Value.slice none 0 0]) := by kernel_rfl
theorem tyF_36_0 : fOff Tryz.prog 36 0 = some 0 := by kernel_rfl
theorem tyA_33 : tyAgg Tryz.prog 33 = false := by kernel_rfl
theorem tyS_33 : tySize Tryz.prog 33 = 1 := by kernel_rfl
theorem tyE_33 : tyElem Tryz.prog 33 = (63, 2) := by kernel_rfl
theorem tyK_33 : tyK Tryz.prog 33 = TyK.slice := by kernel_rfl
theorem tyF_63_0 : fOff Tryz.prog 63 0 = some 0 := by kernel_rfl
theorem tyB_43 : tyParts Tryz.prog 43 = some ([(0, 1), (1, 1), (2, 1), (3, 1), (4, 1)], [Value.slice none 0 0, Value.int IntKind.i64 0, Value.int IntKind.i64 0, Value.slice none 0 0, Value.slice none 0 0]) := by kernel_rfl
theorem tyZ_65 : tyZero Tryz.prog 65 = some (Value.agg #[Value.slice none 0 0, Value.slice none 0 0, Value.int IntKind.i64 0, Value.int IntKind.i64 0, Value.slice none 0 0, Value.slice none 0 0, Value.int IntKind.i64 0]) := by kernel_rfl
theorem tyS_65 : tySize Tryz.prog 65 = 7 := by kernel_rfl
theorem tyF_65_0 : fOff Tryz.prog 65 0 = some 0 := by kernel_rfl
theorem tyF_65_1 : fOff Tryz.prog 65 1 = some 6 := by kernel_rfl
theorem tyF_43_0 : fOff Tryz.prog 43 0 = some 0 := by kernel_rfl
theorem tyF_43_3 : fOff Tryz.prog 43 3 = some 3 := by kernel_rfl
theorem tyF_43_4 : fOff Tryz.prog 43 4 = some 4 := by kernel_rfl
theorem tyF_43_1 : fOff Tryz.prog 43 1 = some 1 := by kernel_rfl
theorem tyF_43_2 : fOff Tryz.prog 43 2 = some 2 := by kernel_rfl
theorem tyF_38_1 : fOff Tryz.prog 38 1 = some 2 := by kernel_rfl
theorem tyF_38_2 : fOff Tryz.prog 38 2 = some 3 := by kernel_rfl
theorem tyR_34 : tyRow Tryz.prog 34 = some (3, 1, 8) := by kernel_rfl
theorem tyB_38 : tyParts Tryz.prog 38 = some ([(0, 2), (2, 1), (3, 1), (4, 1), (5, 1)], [Value.slice none 0 0, Value.slice none 0 0, Value.int IntKind.i64 0, Value.int IntKind.i64 0, Value.slice none 0 0, Value.slice none 0 0]) := by kernel_rfl
theorem tyE_30 : tyElem Tryz.prog 30 = (97, 2) := by kernel_rfl
theorem tyK_30 : tyK Tryz.prog 30 = TyK.slice := by kernel_rfl
theorem tyF_78_2 : fOff Tryz.prog 78 2 = some 2 := by kernel_rfl
theorem tyA_76 : tyAgg Tryz.prog 76 = false := by kernel_rfl
theorem tyS_76 : tySize Tryz.prog 76 = 1 := by kernel_rfl
theorem tyE_76 : tyElem Tryz.prog 76 = (117, 7) := by kernel_rfl
theorem tyK_76 : tyK Tryz.prog 76 = TyK.slice := by kernel_rfl
theorem tyF_80_3 : fOff Tryz.prog 80 3 = some 3 := by kernel_rfl
theorem tyF_36_1 : fOff Tryz.prog 36 1 = some 1 := by kernel_rfl
theorem tyF_82_1 : fOff Tryz.prog 82 1 = some 1 := by kernel_rfl
theorem tyF_85_1 : fOff Tryz.prog 85 1 = some 1 := by kernel_rfl
theorem tyA_51 : tyAgg Tryz.prog 51 = true := by kernel_rfl
theorem tyS_51 : tySize Tryz.prog 51 = 5 := by kernel_rfl
theorem tyZ_51 : tyZero Tryz.prog 51 = some (Value.agg #[Value.string ByteArray.empty, Value.int IntKind.i64 0, Value.int IntKind.i64 0, Value.slice none 0 0, Value.int IntKind.i64 0]) := by kernel_rfl
theorem tyF_51_1 : fOff Tryz.prog 51 1 = some 1 := by kernel_rfl
theorem tyF_51_2 : fOff Tryz.prog 51 2 = some 2 := by kernel_rfl
theorem tyA_78 : tyAgg Tryz.prog 78 = true := by kernel_rfl
theorem tyS_78 : tySize Tryz.prog 78 = 3 := by kernel_rfl
theorem tyZ_78 : tyZero Tryz.prog 78 = some (Value.agg #[Value.int IntKind.i64 0, Value.int IntKind.i64 0, Value.slice none 0 0]) := by kernel_rfl
theorem tyF_78_0 : fOff Tryz.prog 78 0 = some 0 := by kernel_rfl
theorem tyF_78_1 : fOff Tryz.prog 78 1 = some 1 := by kernel_rfl
theorem tyA_80 : tyAgg Tryz.prog 80 = true := by kernel_rfl
theorem tyS_80 : tySize Tryz.prog 80 = 5 := by kernel_rfl
theorem tyZ_80 : tyZero Tryz.prog 80 = some (Value.agg #[Value.string ByteArray.empty, Value.int IntKind.i64 0, Value.int IntKind.i64 0, Value.slice none 0 0, Value.bool false]) := by kernel_rfl
theorem tyF_80_1 : fOff Tryz.prog 80 1 = some 1 := by kernel_rfl
theorem tyF_80_2 : fOff Tryz.prog 80 2 = some 2 := by kernel_rfl
theorem tyF_89_0 : fOff Tryz.prog 89 0 = some 0 := by kernel_rfl
theorem tyF_89_1 : fOff Tryz.prog 89 1 = some 1 := by kernel_rfl
theorem tyR_94 : tyRow Tryz.prog 94 = some (4, 1, 1) := by kernel_rfl
theorem tyE_94 : tyElem Tryz.prog 94 = (4, 1) := by kernel_rfl
theorem tyA_4 : tyAgg Tryz.prog 4 = false := by kernel_rfl
theorem tyS_4 : tySize Tryz.prog 4 = 1 := by kernel_rfl
theorem tyR_30 : tyRow Tryz.prog 30 = some (97, 2, 16) := by kernel_rfl
theorem tyA_97 : tyAgg Tryz.prog 97 = true := by kernel_rfl
theorem tyS_97 : tySize Tryz.prog 97 = 2 := by kernel_rfl
theorem tyK_97 : tyK Tryz.prog 97 = TyK.other := by kernel_rfl
theorem tyA_65 : tyAgg Tryz.prog 65 = true := by kernel_rfl
theorem tyB_65 : tyParts Tryz.prog 65 = some ([(0, 6), (6, 1)], [Value.slice none 0 0, Value.slice none 0 0, Value.int IntKind.i64 0, Value.int IntKind.i64 0, Value.slice none 0 0, Value.slice none 0 0, Value.int IntKind.i64 0]) := by kernel_rfl
theorem tyB_102 : tyParts Tryz.prog 102 = some ([(0, 2), (2, 1), (3, 1), (4, 1)], [Value.slice none 0 0, Value.slice none 0 0, Value.int IntKind.i64 0, Value.slice none 0 0, Value.bool false]) := by kernel_rfl
theorem tyF_102_2 : fOff Tryz.prog 102 2 = some 3 := by kernel_rfl
theorem tyF_102_3 : fOff Tryz.prog 102 3 = some 4 := by kernel_rfl
theorem tyA_63 : tyAgg Tryz.prog 63 = true := by kernel_rfl
theorem tyS_63 : tySize Tryz.prog 63 = 2 := by kernel_rfl
theorem tyZ_63 : tyZero Tryz.prog 63 = some (Value.agg #[Value.int IntKind.i64 0, Value.int IntKind.i64 0]) := by kernel_rfl
theorem tyF_63_1 : fOff Tryz.prog 63 1 = some 1 := by kernel_rfl
theorem tyK_63 : tyK Tryz.prog 63 = TyK.other := by kernel_rfl
theorem tyZ_36 : tyZero Tryz.prog 36 = some (Value.agg #[Value.slice none 0 0, Value.slice none 0 0]) := by kernel_rfl
theorem tyB_63 : tyParts Tryz.prog 63 = some ([(0, 1), (1, 1)], [Value.int IntKind.i64 0, Value.int IntKind.i64 0]) := by kernel_rfl
theorem tyR_33 : tyRow Tryz.prog 33 = some (63, 2, 16) := by kernel_rfl
theorem tyF_117_0 : fOff Tryz.prog 117 0 = some 0 := by kernel_rfl
theorem tyB_123 : tyParts Tryz.prog 123 = some ([(0, 1), (1, 2), (3, 2), (5, 1), (6, 1), (7, 2)], [Value.int IntKind.i64 0, Value.string ByteArray.empty, Value.int IntKind.i64 0, Value.string ByteArray.empty, Value.int IntKind.i64 0, Value.string ByteArray.empty, Value.string ByteArray.empty, Value.int IntKind.i64 0, Value.int IntKind.i64 0]) := by kernel_rfl
theorem tyR_113 : tyRow Tryz.prog 113 = some (123, 9, 104) := by kernel_rfl
theorem tyA_117 : tyAgg Tryz.prog 117 = true := by kernel_rfl
theorem tyS_117 : tySize Tryz.prog 117 = 7 := by kernel_rfl
theorem tyF_117_1 : fOff Tryz.prog 117 1 = some 1 := by kernel_rfl
theorem tyF_115_0 : fOff Tryz.prog 115 0 = some 0 := by kernel_rfl
theorem tyF_115_1 : fOff Tryz.prog 115 1 = some 1 := by kernel_rfl
theorem tyF_117_2 : fOff Tryz.prog 117 2 = some 3 := by kernel_rfl
theorem tyZ_97 : tyZero Tryz.prog 97 = some (Value.agg #[Value.bool false, Value.int IntKind.i64 0]) := by kernel_rfl
theorem tyB_97 : tyParts Tryz.prog 97 = some ([(0, 1), (1, 1)], [Value.bool false, Value.int IntKind.i64 0]) := by kernel_rfl
theorem tyF_102_0 : fOff Tryz.prog 102 0 = some 0 := by kernel_rfl
theorem tyF_102_1 : fOff Tryz.prog 102 1 = some 2 := by kernel_rfl
theorem tyE_113 : tyElem Tryz.prog 113 = (123, 9) := by kernel_rfl
theorem tyK_113 : tyK Tryz.prog 113 = TyK.slice := by kernel_rfl
theorem tyF_117_3 : fOff Tryz.prog 117 3 = some 5 := by kernel_rfl
theorem tyF_117_4 : fOff Tryz.prog 117 4 = some 6 := by kernel_rfl
theorem tyE_138 : tyElem Tryz.prog 138 = (141, 3) := by kernel_rfl
theorem tyK_138 : tyK Tryz.prog 138 = TyK.slice := by kernel_rfl
theorem tyA_141 : tyAgg Tryz.prog 141 = true := by kernel_rfl
theorem tyS_141 : tySize Tryz.prog 141 = 3 := by kernel_rfl
theorem tyZ_141 : tyZero Tryz.prog 141 = some (Value.agg #[Value.int IntKind.i64 0, Value.int IntKind.i64 0, Value.int IntKind.i64 0]) := by kernel_rfl
theorem tyF_141_1 : fOff Tryz.prog 141 1 = some 1 := by kernel_rfl
theorem tyF_141_0 : fOff Tryz.prog 141 0 = some 0 := by kernel_rfl
theorem tyI_3 : tyInt Tryz.prog 3 = some IntKind.i64 := by kernel_rfl
theorem tyI_146 : tyInt Tryz.prog 146 = some IntKind.u64 := by kernel_rfl
theorem tyK_94 : tyK Tryz.prog 94 = TyK.slice := by kernel_rfl
theorem tyF_123_0 : fOff Tryz.prog 123 0 = some 0 := by kernel_rfl
theorem tyB_141 : tyParts Tryz.prog 141 = some ([(0, 1), (1, 2)], [Value.int IntKind.i64 0, Value.int IntKind.i64 0, Value.int IntKind.i64 0]) := by kernel_rfl
theorem tyR_138 : tyRow Tryz.prog 138 = some (141, 3, 24) := by kernel_rfl
theorem tyI_2 : tyInt Tryz.prog 2 = some IntKind.i64 := by kernel_rfl
theorem tyI_154 : tyInt Tryz.prog 154 = some IntKind.u64 := by kernel_rfl
theorem tyK_154 : tyK Tryz.prog 154 = TyK.int := by kernel_rfl
theorem tyK_146 : tyK Tryz.prog 146 = TyK.int := by kernel_rfl
theorem tyZ_3 : tyZero Tryz.prog 3 = some (Value.int IntKind.i64 0) := by kernel_rfl
theorem tyZ_4 : tyZero Tryz.prog 4 = some (Value.bool false) := by kernel_rfl
theorem tyZ_2 : tyZero Tryz.prog 2 = some (Value.int IntKind.i64 0) := by kernel_rfl
end
section
open Go.RowKit

theorem and_one_i64 (x : Int) : bits .and .i64 x 1 = x % 2 := by
  show IntKind.i64.wrap ((BitVec.ofInt 64 x &&& BitVec.ofInt 64 1).toNat : Int) = _
  have h : (BitVec.ofInt 64 x &&& BitVec.ofInt 64 1).toNat = (x % 2).toNat := by
    rw [BitVec.toNat_and, show (BitVec.ofInt 64 1).toNat = 1 from rfl, Nat.and_one_is_mod, BitVec.toNat_ofInt]
    omega
  rw [h]
  have : IntKind.i64.wrap (((x % 2).toNat : Nat) : Int) = ((x % 2).toNat : Int) := by
    simp [IntKind.wrap, IntKind.bits, IntKind.signed]
    omega
  rw [this]
  omega

structure Inst where
  op : Int
  la : Int
  ln : Int
  ra : Int
  rn : Int
  n : Int
  u : Int
structure St where
  vals : List Int
  opn : Int
  don : Int
  did : List Int
  cnt : List Int

def hasB (s i : Int) : Bool := decide (0 ≤ i) && decide (i < 31) && (s / 2 ^ i.toNat % 2 == 1)
def soB (op c : Int) : Bool :=
  if op = 3 then decide (c < 0) else if op = 4 then decide (c ≤ 0) else if op = 5 then decide (0 < c) else if op = 6 then decide (0 ≤ c) else if op = 7 then c == 0 else if op = 8 then c != 0 else false
def cmpI (a b : Int) : Int := if a < b then -1 else if b < a then 1 else 0
def valO (vals : List Int) (a n : Int) : Option Int := if a = -1 then some n else if a < 0 then none else vals[a.toNat]?
def arity (op : Int) : Int :=
  if 1 ≤ op ∧ op ≤ 14 then 0 else if op = 15 ∨ (19 ≤ op ∧ op ≤ 24) then 1 else if (16 ≤ op ∧ op ≤ 18) ∨ op = 25 ∨ op = 26 then 2 else -1
def pushN (d : Nat) (op : Int) : Option Nat :=
  if arity op = 0 then some (d + 1) else if arity op = 1 ∧ 1 ≤ d then some d else if arity op = 2 ∧ 2 ≤ d then some (d - 1) else none
def rowN : List Int → Nat → Option Nat
  | [], d => some d
  | op :: l, d => match pushN d op with
    | some d' => rowN l d'
    | none => none
def checkE (l : List Int) : Int := if l.length = 0 then 12 else if 64 < l.length then 3 else if rowN l 0 = some 1 then 0 else 17
def stepG (cm : Inst → Option Int) (opn don : Int) (x : Inst) (r : List Bool) : Option (List Bool) :=
  if x.op = 1 ∨ x.op = 2 then some ((x.op == 1) :: r)
  else if 3 ≤ x.op ∧ x.op ≤ 8 then
    match cm x with
    | some c => some (soB x.op c :: r)
    | none => none
  else if x.op = 9 then some (hasB opn x.n :: r)
  else if x.op = 10 then some (hasB don x.n :: r)
  else if x.op = 15 then
    match r with
    | a :: r => some ((!a) :: r)
    | [] => none
  else if 16 ≤ x.op ∧ x.op ≤ 18 then
    match r with
    | b :: a :: r => some ((if x.op = 16 then a && b else if x.op = 17 then a || b else !a || b) :: r)
    | _ => none
  else none
def runG (cm : Inst → Option Int) (opn don : Int) : List Inst → List Bool → Option (List Bool)
  | [], r => some r
  | x :: l, r => match stepG cm opn don x r with
    | some r' => runG cm opn don l r'
    | none => none
def holdsG (cm : Inst → Option Int) (opn don : Int) (l : List Inst) : Option Bool :=
  if checkE (l.map Inst.op) ≠ 0 then none else
    match runG cm opn don l [] with
    | some (b :: _) => some b
    | _ => none
def cmS (vals : List Int) (x : Inst) : Option Int := match valO vals x.la x.ln, valO vals x.ra x.rn with
  | some a, some b => some (cmpI a b)
  | _, _ => none
def holdsO (l : List Inst) (s : St) : Option Bool := holdsG (cmS s.vals) s.opn s.don l
def optB (o : Option Bool) : Bool := o.getD false
end
section
open Go.RowKit Go.ChangeShapes Go.WideShapes Go.Deep

structure Rep (α : Type) where
  size : Nat
  at_ : World → (Nat → Prop) → List Value → α → Prop
  len : ∀ {w : World} {S : Nat → Prop} {cs : List Value} {a : α}, at_ w S cs a → cs.length = size
  keep : ∀ {w w' : World} {S : Nat → Prop} {cs : List Value} {a : α}, at_ w S cs a → (∀ p : Addr, S p.block → w'.cell? p = w.cell? p) → at_ w' S cs a
  mono : ∀ {w : World} {S S' : Nat → Prop} {cs : List Value} {a : α}, at_ w S cs a → (∀ b, S b → S' b) → at_ w S' cs a

def Rep.one {α : Type} (r : Rep α) (w : World) (S : Nat → Prop) (v : Value) (a : α) : Prop := r.at_ w S [v] a
def Rep.agg {α : Type} (r : Rep α) (w : World) (S : Nat → Prop) (v : Value) (a : α) : Prop := ∃ cs : Array Value, v = .agg cs ∧ r.at_ w S cs.toList a

def intR (k : IntKind) : Rep Int where
  size := 1
  at_ := fun _ _ cs n => cs = [.int k n] ∧ (Lit.int k n).wf = true
  len := fun h => by rw [h.1]; rfl
  keep := fun h _ => h
  mono := fun h _ => h
def boolR : Rep Bool where
  size := 1
  at_ := fun _ _ cs b => cs = [.bool b]
  len := fun h => by rw [h]; rfl
  keep := fun h _ => h
  mono := fun h _ => h
def strR : Rep ByteArray where
  size := 1
  at_ := fun _ _ cs s => cs = [.string s] ∧ s.size ≤ 9223372036854775807
  len := fun h => by rw [h.1]; rfl
  keep := fun h _ => h
  mono := fun h _ => h

def rowAt {α : Type} (r : Rep α) (w : World) (S : Nat → Prop) (b o : Nat) (l : List α) : Prop :=
  ∀ i (h : i < l.length), ∃ cs, (∀ j u, cs[j]? = some u → w.cell? ⟨b, o + i * r.size + j, none⟩ = some u) ∧ r.at_ w S cs l[i]
theorem rowAt_keep {α : Type} {r : Rep α} {w w' : World} {S : Nat → Prop} {b o : Nat} {l : List α} (h : rowAt r w S b o l) (hb : S b) (hk : ∀ p : Addr, S p.block → w'.cell? p = w.cell? p) : rowAt r w' S b o l := by
  intro i hi
  obtain ⟨cs, h1, h2⟩ := h i hi
  exact ⟨cs, fun j u hu => (hk _ hb).trans (h1 j u hu), r.keep h2 hk⟩
theorem rowAt_mono {α : Type} {r : Rep α} {w : World} {S S' : Nat → Prop} {b o : Nat} {l : List α} (h : rowAt r w S b o l) (hB : ∀ b, S b → S' b) : rowAt r w S' b o l := by
  intro i hi
  obtain ⟨cs, h1, h2⟩ := h i hi
  exact ⟨cs, h1, r.mono h2 hB⟩

def sliceR {α : Type} (r : Rep α) : Rep (List α) where
  size := 1
  at_ := fun w S cs l => ∃ A c, cs = [.slice A l.length c] ∧ l.length ≤ c ∧ c ≤ 9223372036854775807 ∧ (0 < l.length → ∃ b o, A = some ⟨b, o, none⟩ ∧ S b ∧ rowAt r w S b o l)
  len := fun ⟨A, c, h, _⟩ => by rw [h]; rfl
  keep := fun ⟨A, c, h1, h2, h3, h4⟩ hk => ⟨A, c, h1, h2, h3, fun hl => by
    obtain ⟨b, o, e, hb, hr⟩ := h4 hl
    exact ⟨b, o, e, hb, rowAt_keep hr hb hk⟩⟩
  mono := fun ⟨A, c, h1, h2, h3, h4⟩ hB => ⟨A, c, h1, h2, h3, fun hl => by
    obtain ⟨b, o, e, hb, hr⟩ := h4 hl
    exact ⟨b, o, e, hB b hb, rowAt_mono hr hB⟩⟩

def pairR {α β : Type} (r : Rep α) (s : Rep β) : Rep (α × β) where
  size := r.size + s.size
  at_ := fun w S cs x => ∃ c1 c2, cs = c1 ++ c2 ∧ r.at_ w S c1 x.1 ∧ s.at_ w S c2 x.2
  len := fun ⟨c1, c2, h, h1, h2⟩ => by rw [h, List.length_append, r.len h1, s.len h2]
  keep := fun ⟨c1, c2, h, h1, h2⟩ hk => ⟨c1, c2, h, r.keep h1 hk, s.keep h2 hk⟩
  mono := fun ⟨c1, c2, h, h1, h2⟩ hB => ⟨c1, c2, h, r.mono h1 hB, s.mono h2 hB⟩
def nilR : Rep Unit where
  size := 0
  at_ := fun _ _ cs _ => cs = []
  len := fun h => by rw [h]; rfl
  keep := fun h _ => h
  mono := fun h _ => h
theorem Rep.below {α : Type} {r : Rep α} {w w' : World} {S : Nat → Prop} {B' : Nat} {cs : List Value} {a : α} (h : r.at_ w S cs a) (hb : Below B' w w') (hB : ∀ b, S b → b < B') : r.at_ w' S cs a :=
  r.keep h fun p hp => hb.cell (hB _ hp)
theorem Rep.one_below {α : Type} {r : Rep α} {w w' : World} {S : Nat → Prop} {B' : Nat} {v : Value} {a : α} (h : r.one w S v a) (hb : Below B' w w') (hB : ∀ b, S b → b < B') : r.one w' S v a := Rep.below (r := r) h hb hB
theorem wf_i64 {n : Int} (h : (Lit.int .i64 n).wf = true) : -9223372036854775808 ≤ n ∧ n ≤ 9223372036854775807 := by
  simpa [Lit.wf, IntKind.min, IntKind.max, IntKind.signed, IntKind.bits] using h
theorem wf_i64_mk {n : Int} (h1 : -9223372036854775808 ≤ n) (h2 : n ≤ 9223372036854775807) : (Lit.int .i64 n).wf = true := by
  simp [Lit.wf, IntKind.min, IntKind.max, IntKind.signed, IntKind.bits]; omega

/-! ### the elements of a slice, met in a walk -/
section
variable {α : Type} {r : Rep α} {w w' : World} {S : Nat → Prop} {v : Value} {l : List α}
theorem slice_form (h : (sliceR r).one w S v l) : ∃ A c, v = .slice A l.length c ∧ l.length ≤ c ∧ c ≤ 9223372036854775807 := by
  obtain ⟨A, c, h1, h2, h3, _⟩ := h
  exact ⟨A, c, by simpa using h1, h2, h3⟩
theorem slice_some {A : Option Addr} {n c : Nat} (h : (sliceR r).one w S (.slice A n c) l) (hn : 0 < l.length) : ∃ b o, A = some ⟨b, o, none⟩ ∧ S b ∧ rowAt r w S b o l := by
  obtain ⟨A', c', h1, _, _, h4⟩ := h
  simp at h1
  obtain ⟨rfl, _, _⟩ := h1
  exact h4 hn
theorem slice_at1 (hs : r.size = 1) {b o c : Nat} {n : Nat} (h : (sliceR r).one w S (.slice (some ⟨b, o, none⟩) n c) l) {k : Nat} (hk : k < l.length) : ∃ u, w.cell? ⟨b, o + k, none⟩ = some u ∧ r.at_ w S [u] l[k] := by
  obtain ⟨b', o', e, _, hr⟩ := slice_some h (by omega)
  simp at e
  obtain ⟨rfl, rfl⟩ := e
  obtain ⟨cs, h1, h2⟩ := hr k hk
  have hl := r.len h2
  rw [hs] at hl h1
  match cs, hl with
  | [u], _ => exact ⟨u, by simpa using h1 0 u rfl, h2⟩
theorem slice_nil (w : World) (S : Nat → Prop) (r : Rep α) : (sliceR r).one w S (.slice none 0 0) [] := ⟨none, 0, rfl, Nat.le_refl _, by omega, fun h => absurd h (by simp)⟩
theorem slice_own {base : Nat} {e : TypeId} {size n : Nat} {xs : List Value} (h : w.ownsRow base e size v n xs) (hs : r.size = size) (hn : n = l.length) (hx : ∀ i (hi : i < l.length), r.at_ w (fun b => base ≤ b ∧ b < w.heap.size) ((xs.drop (i * size)).take size) l[i]) :
    (sliceR r).one w (fun b => base ≤ b ∧ b < w.heap.size) v l := by
  subst hn
  rcases h.2 with ⟨rfl, h0⟩ | ⟨g, cap, cur, rfl, hb, hg, hc, hm, hcs, ht⟩
  · refine ⟨none, 0, by rw [h0], by omega, by omega, fun hl => by omega⟩
  · refine ⟨some ⟨g, 0, none⟩, cap, rfl, hc, by simpa [maxLen] using hm, fun hl => ⟨g, 0, rfl, ⟨hb, (Array.getElem?_eq_some_iff.1 hg).1⟩, fun i hi => ⟨_, fun j u hu => ?_, hx i hi⟩⟩⟩
    have hj : j < size := by
      have := (List.getElem?_eq_some_iff.1 hu).1
      simp at this; omega
    rw [List.getElem?_take, if_pos hj, List.getElem?_drop] at hu
    have := h.cells (g := g) rfl _ u hu
    rw [addAddr0] at this
    rw [hs, Nat.zero_add]
    exact this
theorem slice_own1 {base : Nat} {e : TypeId} {n : Nat} (f : α → Value) (h : w.ownsRow base e 1 v n (l.map f)) (hs : r.size = 1) (hx : ∀ a ∈ l, r.at_ w (fun b => base ≤ b ∧ b < w.heap.size) [f a] a) : (sliceR r).one w (fun b => base ≤ b ∧ b < w.heap.size) v l := by
  have hn : n = l.length := by have := h.1; simp at this; omega
  refine slice_own h hs hn fun i hi => ?_
  have e : (((l.map f).drop (i * 1)).take 1) = [f l[i]] := by
    rw [Nat.mul_one, List.drop_eq_getElem_cons (by simpa using hi)]
    simp
  rw [e]
  exact hx _ (List.getElem_mem hi)
theorem slice_below (h : (sliceR r).one w S v l) {B' : Nat} (hb : Below B' w w') (hB : ∀ b, S b → b < B') : (sliceR r).one w' S v l := Rep.one_below h hb hB
theorem slice_mono (h : (sliceR r).one w S v l) {S' : Nat → Prop} (hB : ∀ b, S b → S' b) : (sliceR r).one w S' v l := Rep.mono (sliceR r) h hB
theorem slice_keep (h : (sliceR r).one w S v l) (hk : ∀ p : Addr, S p.block → w'.cell? p = w.cell? p) : (sliceR r).one w' S v l := Rep.keep (sliceR r) h hk
end
theorem ints_at {w : World} {S : Nat → Prop} {b o c n : Nat} {l : List Int} (h : (sliceR (intR .i64)).one w S (.slice (some ⟨b, o, none⟩) n c) l) {k : Nat} (hk : k < l.length) :
    w.cell? ⟨b, o + k, none⟩ = some (.int .i64 l[k]) ∧ -9223372036854775808 ≤ l[k] ∧ l[k] ≤ 9223372036854775807 := by
  obtain ⟨u, h1, h2⟩ := slice_at1 (r := intR .i64) rfl h hk
  obtain ⟨h2, h3⟩ := h2
  simp at h2
  subst h2
  exact ⟨h1, wf_i64 h3⟩
theorem exists_list {α : Type} {p : Nat → α → Prop} : ∀ {n : Nat}, (∀ i, i < n → ∃ y, p i y) → ∃ l : List α, l.length = n ∧ ∀ i (h : i < l.length), p i l[i] := by
  intro n
  induction n with
  | zero => intro _; exact ⟨[], rfl, fun i h => absurd h (by simp)⟩
  | succ n ih =>
    intro h
    obtain ⟨l, h1, h2⟩ := ih fun i hi => h i (by omega)
    obtain ⟨y, hy⟩ := h n (by omega)
    refine ⟨l ++ [y], by simp [h1], fun i hi => ?_⟩
    by_cases hin : i < l.length
    · rw [List.getElem_append_left hin]; exact h2 i hin
    · have : i = l.length := by simp at hi; omega
      subst this
      rw [List.getElem_append_right (by omega)]
      simpa [h1] using hy

/-! ### arguments open into it -/
def Opens {α : Type} (P : Program) (t : TypeId) (r : Rep α) : Prop := ∀ (H : Type) (enc : TypeId × Value → H) (w : World) (fuel : Nat) (cs : List Value) (x : DataW H × List MemPlace),
  DataW.trod enc P w 0 (fun _ => true) true fuel t cs = some x → ∃ a, r.at_ w (fun b => b < w.heap.size) cs a
section
variable {P : Program}
theorem opens_int {t : TypeId} {k : IntKind} (h : P.underlying t = some (.int k)) : Opens P t (intR k) := by
  intro H enc w fuel cs x hx
  obtain ⟨n, rfl, _, hw⟩ := DataW.trod_int h hx
  exact ⟨n, rfl, hw⟩
theorem opens_bool {t : TypeId} (h : P.underlying t = some .bool) : Opens P t boolR := by
  intro H enc w fuel cs x hx
  obtain ⟨b, rfl, _⟩ := DataW.trod_bool h hx
  exact ⟨b, rfl⟩
theorem opens_slice {α : Type} {t e : TypeId} {r : Rep α} (ht : P.underlying t = some (.slice e)) (hs : P.cellsOf e = r.size) (hp : 0 < r.size) (ho : Opens P e r) : Opens P t (sliceR r) := by
  intro H enc w fuel cs x hx
  rcases Go.Deep.open_slice ht hx with ⟨rfl, _⟩ | ⟨a, len, cap, m, n, D, Pl, rfl, _, hl, hm, hmm, _, hi⟩
  · exact ⟨[], slice_nil _ _ _⟩
  · simp only [if_true] at hmm
    subst hmm
    obtain ⟨l, hll, hl2⟩ := exists_list (n := len) (p := fun i y => ∃ cs', w.cells? 0 (a.add (i * P.cellsOf e)) (P.cellsOf e) = some cs' ∧ r.at_ w (fun b => b < w.heap.size) cs' y) (fun i hil => by
      obtain ⟨cs', h1, h2⟩ := hi i (by omega)
      obtain ⟨y, hy⟩ := ho H enc w n cs' _ h2
      exact ⟨y, cs', h1, hy⟩)
    subst hll
    refine ⟨l, some a, _, rfl, hl, by simpa [maxLen] using hm, fun h0 => ?_⟩
    obtain ⟨cs0, h1, h2⟩ := hl2 0 h0
    obtain ⟨_, hlen, hc⟩ := World.cells?_some h1
    have hc0 := hc 0 (by omega)
    have hlt : 0 < cs0.length := by rw [hlen]; omega
    rw [List.getElem?_eq_getElem hlt] at hc0
    have e0 : (a.add (0 * P.cellsOf e)).add 0 = a := by simp [Addr.add]
    rw [e0] at hc0
    have hb := World.block_lt_of_cell? w a hc0
    have hsp : a.spot = none := by
      unfold World.cell? at hc0
      split at hc0
      · split at hc0
        · cases hc0
        · rename_i h5; simpa using h5
      · cases hc0
    obtain ⟨b, o, sp⟩ := a
    simp only at hsp hb
    subst hsp
    refine ⟨b, o, rfl, hb, fun i hi' => ?_⟩
    obtain ⟨cs', h1, h2⟩ := hl2 i hi'
    refine ⟨cs', fun j u hu => ?_, h2⟩
    obtain ⟨_, hlen', hc'⟩ := World.cells?_some h1
    have hj : j < P.cellsOf e := by
      have := (List.getElem?_eq_some_iff.1 hu).1
      omega
    have := hc' j hj
    rw [hu, Go.Deep.add_add, hs] at this
    rw [← this]
    congr 1
    unfold Addr.add
    split
    · rename_i h6; simp_all
    · simp [Nat.add_assoc]

end
end
section
open Go.RowKit

def ok64 (n : Int) : Prop := -9223372036854775808 ≤ n ∧ n ≤ 9223372036854775807
def Inst.cells (x : Inst) : List Value := [.int .i64 x.op, .int .i64 x.la, .int .i64 x.ln, .int .i64 x.ra, .int .i64 x.rn, .int .i64 x.n, .int .i64 x.u]
def Inst.ok (x : Inst) : Prop := ok64 x.op ∧ ok64 x.la ∧ ok64 x.ln ∧ ok64 x.ra ∧ ok64 x.rn ∧ ok64 x.n ∧ ok64 x.u
def instR : Rep Inst where
  size := 7
  at_ := fun _ _ cs x => cs = x.cells ∧ x.ok
  len := fun h => by rw [h.1]; rfl
  keep := fun h _ => h
  mono := fun h _ => h

structure Item where
  op : Int
  ln : ByteArray
  lv : Int
  rn : ByteArray
  rv : Int
  name : ByteArray
  user : ByteArray
  line : Int
  col : Int
def Item.cells (x : Item) : List Value := [.int .i64 x.op, .string x.ln, .int .i64 x.lv, .string x.rn, .int .i64 x.rv, .string x.name, .string x.user, .int .i64 x.line, .int .i64 x.col]
def Item.ok (x : Item) : Prop := ok64 x.op ∧ ok64 x.lv ∧ ok64 x.rv ∧ ok64 x.line ∧ ok64 x.col ∧ x.ln.size ≤ 9223372036854775807 ∧ x.rn.size ≤ 9223372036854775807 ∧ x.name.size ≤ 9223372036854775807 ∧ x.user.size ≤ 9223372036854775807
end
section
open Go.RowKit Go.ChangeShapes Go.WideShapes Go.Deep

def OpensF {α : Type} (P : Program) (fs : List Field) (off : Nat) (r : Rep α) : Prop := ∀ (H : Type) (enc : TypeId × Value → H) (w : World) (fuel : Nat) (cs : List Value),
  off + r.size ≤ cs.length → (∀ (i : Nat) (f : Field), fs[i]? = some f → ∃ x, DataW.trod enc P w 0 (fun _ => true) true fuel f.type ((cs.drop f.offset).take (P.cellsOf f.type)) = some x) →
  ∃ a, r.at_ w (fun b => b < w.heap.size) ((cs.drop off).take r.size) a
theorem opensF_nil (P : Program) (off : Nat) : OpensF P [] off nilR := fun _ _ _ _ _ _ _ => ⟨(), by simp [nilR]⟩
theorem opensF_cons {α β : Type} {P : Program} {f : Field} {fs : List Field} {off : Nat} {r : Rep α} {s : Rep β} (ho : f.offset = off) (hc : P.cellsOf f.type = r.size) (h1 : Opens P f.type r) (h2 : OpensF P fs (off + r.size) s) : OpensF P (f :: fs) off (pairR r s) := by
  intro H enc w fuel cs hl hf
  have hlr : off + (r.size + s.size) ≤ cs.length := hl
  obtain ⟨x, hx⟩ := hf 0 f rfl
  obtain ⟨a, ha⟩ := h1 H enc w fuel _ _ hx
  obtain ⟨b, hb⟩ := h2 H enc w fuel cs (by omega) (fun i g hg => hf (i + 1) g (by simpa using hg))
  refine ⟨(a, b), _, _, ?_, ha, hb⟩
  rw [ho, hc]
  show List.take (r.size + s.size) (cs.drop off) = _
  rw [List.take_add, List.drop_drop]
theorem opens_struct {α : Type} {P : Program} {t : TypeId} {fs : Array Field} {r : Rep α} (ht : P.underlying t = some (.struct fs)) (hc : P.cellsOf t = r.size) (ho : OpensF P fs.toList 0 r) : Opens P t r := by
  intro H enc w fuel cs x hx
  obtain ⟨xs, n, _, _, hl, hlen, hf⟩ := DataW.trod_struct ht hx
  obtain ⟨a, ha⟩ := ho H enc w n cs (by omega) (fun i f hfi => by
    have hfi' : fs[i]? = some f := by simpa using hfi
    have h1 := hf i f hfi'
    have hi : i < xs.length := by rw [hlen]; exact (Array.getElem?_eq_some_iff.1 hfi').1
    exact ⟨xs[i], by rw [h1, List.getElem?_eq_getElem hi]⟩)
  refine ⟨a, ?_⟩
  rwa [List.drop_zero, List.take_of_length_le (by omega)] at ha
theorem opens_string {P : Program} {t : TypeId} (h : P.underlying t = some .string) : Opens P t strR := by
  intro H enc w fuel cs x hx
  obtain ⟨s, rfl, _, hs⟩ := DataW.trod_string h hx
  exact ⟨s, rfl, by simpa [maxLen] using hs⟩
theorem opens_map {α β : Type} {P : Program} {t : TypeId} {r : Rep α} {s : Rep β} (h : Opens P t r) (f : α → β) (hf : ∀ w S cs a, r.at_ w S cs a → s.at_ w S cs (f a)) : Opens P t s := by
  intro H enc w fuel cs x hx
  obtain ⟨a, ha⟩ := h H enc w fuel cs x hx
  exact ⟨f a, hf _ _ _ _ ha⟩
theorem okWide_struct {P : Program} {W : World} {r : Reach} {b : Nat} {t : TypeId} {fs : Array Field} {v : Value} (ht : P.underlying t = some (.struct fs)) (h : Value.okWide P W r b t v) : ∃ cs, v = .agg cs ∧ cs.size = P.cellsOf t := by
  simp only [Value.okWide, ht] at h
  obtain ⟨cs, h1, h2, _⟩ := h
  exact ⟨cs, h1, h2⟩
theorem pair_inv {α β : Type} {r : Rep α} {s : Rep β} {w : World} {S : Nat → Prop} {cs : List Value} {p : α × β} (h : (pairR r s).at_ w S cs p) : ∃ c1 c2, cs = c1 ++ c2 ∧ r.at_ w S c1 p.1 ∧ s.at_ w S c2 p.2 := h
theorem one_inv {α : Type} {r : Rep α} {w : World} {S : Nat → Prop} {cs : List Value} {a : α} (hr : r.size = 1) (h : r.at_ w S cs a) : ∃ v, cs = [v] ∧ r.one w S v a := by
  have := r.len h
  rw [hr] at this
  match cs, this with
  | [v], _ => exact ⟨v, rfl, h⟩
end
section
open Go.RowKit

structure Gd where
  stage : Int
  event : Int
  cond : List Inst
structure Ml where
  name : ByteArray
  stage : Int
  event : Int
  cond : List Inst
  final : Bool
structure Ev where
  name : ByteArray
  role : Int
  stage : Int
  sets : List Int
  times : Int
structure Mod where
  attrs : List ByteArray
  inits : List Int
  users : List ByteArray
  roles : List (ByteArray × Int)
  stages : List (ByteArray × Int)
  events : List Ev
  guards : List Gd
  miles : List Ml
  sods : List (Int × Int)
  order : List (Bool × Int)
def strOk (s : ByteArray) : Prop := s.size ≤ 9223372036854775807
def nameIntR : Rep (ByteArray × Int) where
  size := 2
  at_ := fun _ _ cs x => cs = [.string x.1, .int .i64 x.2] ∧ strOk x.1 ∧ ok64 x.2
  len := fun h => by rw [h.1]; rfl
  keep := fun h _ => h
  mono := fun h _ => h
def intIntR : Rep (Int × Int) where
  size := 2
  at_ := fun _ _ cs x => cs = [.int .i64 x.1, .int .i64 x.2] ∧ ok64 x.1 ∧ ok64 x.2
  len := fun h => by rw [h.1]; rfl
  keep := fun h _ => h
  mono := fun h _ => h
def sentryR : Rep (Bool × Int) where
  size := 2
  at_ := fun _ _ cs x => cs = [.bool x.1, .int .i64 x.2] ∧ ok64 x.2
  len := fun h => by rw [h.1]; rfl
  keep := fun h _ => h
  mono := fun h _ => h
def gdR : Rep Gd where
  size := 3
  at_ := fun w S cs g => ∃ cv, cs = [.int .i64 g.stage, .int .i64 g.event, cv] ∧ (sliceR instR).one w S cv g.cond ∧ ok64 g.stage ∧ ok64 g.event
  len := fun ⟨_, h, _⟩ => by rw [h]; rfl
  keep := fun ⟨cv, h, h2, h3⟩ hk => ⟨cv, h, slice_keep h2 hk, h3⟩
  mono := fun ⟨cv, h, h2, h3⟩ hB => ⟨cv, h, slice_mono h2 hB, h3⟩
def mlR : Rep Ml where
  size := 5
  at_ := fun w S cs g => ∃ cv, cs = [.string g.name, .int .i64 g.stage, .int .i64 g.event, cv, .bool g.final] ∧ (sliceR instR).one w S cv g.cond ∧ ok64 g.stage ∧ ok64 g.event ∧ strOk g.name
  len := fun ⟨_, h, _⟩ => by rw [h]; rfl
  keep := fun ⟨cv, h, h2, h3⟩ hk => ⟨cv, h, slice_keep h2 hk, h3⟩
  mono := fun ⟨cv, h, h2, h3⟩ hB => ⟨cv, h, slice_mono h2 hB, h3⟩
def evR : Rep Ev where
  size := 5
  at_ := fun w S cs g => ∃ cv, cs = [.string g.name, .int .i64 g.role, .int .i64 g.stage, cv, .int .i64 g.times] ∧ (sliceR (intR .i64)).one w S cv g.sets ∧ ok64 g.role ∧ ok64 g.stage ∧ ok64 g.times ∧ strOk g.name
  len := fun ⟨_, h, _⟩ => by rw [h]; rfl
  keep := fun ⟨cv, h, h2, h3⟩ hk => ⟨cv, h, slice_keep h2 hk, h3⟩
  mono := fun ⟨cv, h, h2, h3⟩ hB => ⟨cv, h, slice_mono h2 hB, h3⟩

def SI {α : Type} (r : Rep α) (w : World) (v : Value) (l : List α) : Prop := (sliceR r).one w (fun b => b < w.heap.size) v l
theorem SI.below {α : Type} {r : Rep α} {w w' : World} {v : Value} {l : List α} (h : SI r w v l) (hb : Below w.heap.size w w') : SI r w' v l := slice_mono (slice_below h hb fun b h => h) fun b h => Nat.lt_of_lt_of_le h hb.size
theorem SI.mk {α : Type} {r : Rep α} {w : World} {S : Nat → Prop} {v : Value} {l : List α} (h : (sliceR r).one w S v l) (hS : ∀ b, S b → b < w.heap.size) : SI r w v l := slice_mono h hS
theorem SI.form {α : Type} {r : Rep α} {w : World} {v : Value} {l : List α} (h : SI r w v l) : ∃ A c, v = .slice A l.length c ∧ l.length ≤ c ∧ c ≤ 9223372036854775807 := slice_form h
structure MV where
  attrs : Value
  inits : Value
  users : Value
  roles : Value
  stages : Value
  events : Value
  guards : Value
  miles : Value
  sods : Value
  order : Value
abbrev MV.cells (V : MV) : Array Value := #[V.attrs, V.inits, V.users, V.roles, V.stages, V.events, V.guards, V.miles, V.sods, V.order]
structure ModI (w : World) (V : MV) (m : Mod) : Prop where
  attrs : SI strR w V.attrs m.attrs
  inits : SI (intR .i64) w V.inits m.inits
  users : SI strR w V.users m.users
  roles : SI nameIntR w V.roles m.roles
  stages : SI nameIntR w V.stages m.stages
  events : SI evR w V.events m.events
  guards : SI gdR w V.guards m.guards
  miles : SI mlR w V.miles m.miles
  sods : SI intIntR w V.sods m.sods
  order : SI sentryR w V.order m.order
theorem ModI.below {w w' : World} {V : MV} {m : Mod} (h : ModI w V m) (hb : Below w.heap.size w w') : ModI w' V m :=
  ⟨h.attrs.below hb, h.inits.below hb, h.users.below hb, h.roles.below hb, h.stages.below hb, h.events.below hb, h.guards.below hb, h.miles.below hb, h.sods.below hb, h.order.below hb⟩
end
section
open Go.RowKit

theorem number_any (i : Int) (w : World) : Calls Tryz.prog 94 #[.int .i64 i] w fun e w' => e = .returned (.bool (decide (0 ≤ i) && decide (i < 31))) ∧ w = w' := by
  by_cases h : 0 ≤ i <;> (go_enter Tryz.func94, Tryz.ntmps94; go_wp2; go_ret; exact ⟨by congr 2; simp [h] <;> omega, rfl⟩)
theorem ret_bool {a b : Bool} (h : a = b) : Ending.returned (.bool a) = .returned (.bool b) := by rw [h]
theorem ret_i64 {a b : Int} (h : a = b) : Ending.returned (.int .i64 a) = .returned (.int .i64 b) := by rw [h]
theorem has_any (s i : Int) (w : World) : Calls Tryz.prog 81 #[.int .i64 s, .int .i64 i] w fun e w' => e = .returned (.bool (hasB s i)) ∧ w = w' := by
  by_cases h0 : 0 ≤ i
  · by_cases h1 : i < 31
    · have e0 : decide (0 ≤ i) = true := by simp; omega
      have e1 : decide (i < 31) = true := by simp; omega
      go_enter Tryz.func81, Tryz.ntmps81
      go_wp2_with (go_at_call 94; refine (number_any _ _).mono ?_; rintro e w' ⟨rfl, rfl⟩)
      go_ret
      exact ⟨ret_bool (by unfold hasB; rw [and_one_i64, e0, e1]; rfl), rfl⟩
    · have e0 : decide (0 ≤ i) = true := by simp; omega
      have e1 : decide (i < 31) = false := by simp; omega
      go_enter Tryz.func81, Tryz.ntmps81
      go_wp2_with (go_at_call 94; refine (number_any _ _).mono ?_; rintro e w' ⟨rfl, rfl⟩)
      go_ret
      exact ⟨ret_bool (by unfold hasB; rw [e0, e1]; rfl), rfl⟩
  · have e0 : decide (0 ≤ i) = false := by simp; omega
    go_enter Tryz.func81, Tryz.ntmps81
    go_wp2_with (go_at_call 94; refine (number_any _ _).mono ?_; rintro e w' ⟨rfl, rfl⟩)
    go_ret
    exact ⟨ret_bool (by unfold hasB; rw [e0]; rfl), rfl⟩
end
section
open Go.RowKit

def low (s : Int) : Nat := (s % 2147483648).toNat
theorem low_lt (s : Int) : low s < 2 ^ 31 := by unfold low; omega
theorem low_of (n : Nat) (h : n < 2 ^ 31) : low (n : Int) = n := by unfold low; omega
def withB (s i : Int) : Int := if 0 ≤ i ∧ i < 31 then ((low s ||| 2 ^ i.toNat : Nat) : Int) else (low s : Int)
def withoutB (s i : Int) : Int := if 0 ≤ i ∧ i < 31 then ((low s ^^^ (low s &&& 2 ^ i.toNat) : Nat) : Int) else (low s : Int)
theorem hasB_low (s : Int) (j : Nat) (hj : j < 31) : hasB s (j : Int) = (low s).testBit j := by
  have h1 : hasB s (j : Int) = (s / 2 ^ j % 2 == 1) := by
    unfold hasB
    rw [show decide (0 ≤ (j : Int)) = true by simp, show decide ((j : Int) < 31) = true by simp; omega]
    rfl
  rw [h1, Nat.testBit_eq_decide_div_mod_eq]
  have hs : s = 2 ^ j * (2 ^ (30 - j) * 2 * (s / 2147483648)) + s % 2147483648 := by
    have e : (2 : Int) ^ j * (2 ^ (30 - j) * 2 * (s / 2147483648)) = (2 ^ j * 2 ^ (30 - j) * 2) * (s / 2147483648) := by
      rw [← Int.mul_assoc, ← Int.mul_assoc]
    rw [e, ← Int.pow_add, show j + (30 - j) = 30 by omega]
    have := Int.mul_ediv_add_emod s 2147483648
    omega
  have h2 : s / 2 ^ j % 2 = ((low s / 2 ^ j % 2 : Nat) : Int) := by
    have hr : ((low s : Nat) : Int) = s % 2147483648 := by unfold low; omega
    rw [Int.natCast_emod, Int.natCast_ediv, hr]
    have hp : ((2 ^ j : Nat) : Int) = 2 ^ j := by simp
    rw [hp]
    conv => lhs; rw [hs]
    rw [Int.add_comm, Int.add_mul_ediv_left _ _ (by have : (0 : Int) < 2 ^ j := Int.pow_pos (by omega); omega)]
    rw [show (2 : Int) ^ (30 - j) * 2 * (s / 2147483648) = 2 * (2 ^ (30 - j) * (s / 2147483648)) by rw [Int.mul_comm ((2 : Int) ^ (30 - j)) 2, Int.mul_assoc]]
    omega
  rw [h2]
  generalize low s / 2 ^ j % 2 = n
  rw [Bool.eq_iff_iff]
  simp
  omega
theorem hasB_out (s j : Int) (hj : ¬ (0 ≤ j ∧ j < 31)) : hasB s j = false := by
  unfold hasB
  by_cases h : 0 ≤ j
  · rw [show decide (j < 31) = false by simp; omega]; simp
  · rw [show decide (0 ≤ j) = false by simp; omega]; rfl
theorem hasB_with (s i j : Int) : hasB (withB s i) j = ((decide (0 ≤ i ∧ i < 31) && (j == i)) || hasB s j) := by
  by_cases hj : 0 ≤ j ∧ j < 31
  · obtain ⟨n, rfl⟩ : ∃ n : Nat, j = (n : Int) := ⟨j.toNat, by omega⟩
    unfold withB
    by_cases hi : 0 ≤ i ∧ i < 31
    · obtain ⟨k, rfl⟩ : ∃ k : Nat, i = (k : Int) := ⟨i.toNat, by omega⟩
      have hl : low s ||| 2 ^ k < 2 ^ 31 := Nat.or_lt_two_pow (low_lt s) (Nat.pow_lt_pow_right (by omega) (by omega))
      rw [if_pos hi, Int.toNat_natCast, hasB_low _ _ (by omega), low_of _ hl, Nat.testBit_or, hasB_low _ _ (by omega), Nat.testBit_two_pow, Bool.or_comm]
      congr 1
      rw [Bool.eq_iff_iff]
      simp
      omega
    · rw [if_neg hi, hasB_low _ _ (by omega), low_of _ (low_lt s), hasB_low _ _ (by omega)]
      simp [hi]
  · rw [hasB_out _ _ hj, hasB_out _ _ hj, Bool.or_false]
    symm
    rw [Bool.and_eq_false_iff]
    by_cases hi : 0 ≤ i ∧ i < 31
    · right
      exact beq_eq_false_iff_ne.2 (by omega)
    · left; simpa using hi
theorem hasB_without (s i j : Int) : hasB (withoutB s i) j = (!(j == i) && hasB s j) := by
  by_cases hj : 0 ≤ j ∧ j < 31
  · obtain ⟨n, rfl⟩ : ∃ n : Nat, j = (n : Int) := ⟨j.toNat, by omega⟩
    unfold withoutB
    by_cases hi : 0 ≤ i ∧ i < 31
    · obtain ⟨k, rfl⟩ : ∃ k : Nat, i = (k : Int) := ⟨i.toNat, by omega⟩
      have hl : low s ^^^ (low s &&& 2 ^ k) < 2 ^ 31 := Nat.xor_lt_two_pow (low_lt s) (Nat.lt_of_le_of_lt Nat.and_le_left (low_lt s))
      rw [if_pos hi, Int.toNat_natCast, hasB_low _ _ (by omega), low_of _ hl, Nat.testBit_xor, Nat.testBit_and, Nat.testBit_two_pow, hasB_low _ _ (by omega)]
      by_cases e : n = k
      · subst e; cases (low s).testBit n <;> simp
      · rw [show ((n : Int) == (k : Int)) = false from beq_eq_false_iff_ne.2 (by omega), show decide (k = n) = false by simp; omega]; simp
    · rw [if_neg hi, hasB_low _ _ (by omega), low_of _ (low_lt s), hasB_low _ _ (by omega), show ((n : Int) == i) = false from beq_eq_false_iff_ne.2 (by omega)]; rfl
  · rw [hasB_out _ _ hj, hasB_out _ _ hj, Bool.and_false]

theorem ofInt_nat64 (a : Nat) (ha : a < 2 ^ 64) : (BitVec.ofInt 64 (a : Int)).toNat = a := by
  rw [BitVec.ofInt_natCast, BitVec.toNat_ofNat]; exact Nat.mod_eq_of_lt ha
theorem wrap_nat (n : Nat) (h : n < 2 ^ 63) : IntKind.i64.wrap (n : Int) = (n : Int) := by
  simp [IntKind.wrap, IntKind.bits, IntKind.signed]
  omega
theorem and_all (s : Int) : bits .and .i64 s 2147483647 = (low s : Int) := by
  show IntKind.i64.wrap ((BitVec.ofInt 64 s &&& BitVec.ofInt 64 2147483647).toNat : Int) = _
  have h : (BitVec.ofInt 64 s &&& BitVec.ofInt 64 2147483647).toNat = low s := by
    rw [BitVec.toNat_and, show (BitVec.ofInt 64 2147483647).toNat = 2 ^ 31 - 1 from rfl, Nat.and_two_pow_sub_one_eq_mod, BitVec.toNat_ofInt]
    unfold low
    omega
  rw [h]
  exact wrap_nat _ (Nat.lt_trans (low_lt s) (by decide))
theorem or_nat (a b : Nat) (ha : a < 2 ^ 62) (hb : b < 2 ^ 62) : bits .or .i64 (a : Int) (b : Int) = ((a ||| b : Nat) : Int) := by
  show IntKind.i64.wrap ((BitVec.ofInt 64 (a : Int) ||| BitVec.ofInt 64 (b : Int)).toNat : Int) = _
  rw [BitVec.toNat_or, ofInt_nat64 a (by omega), ofInt_nat64 b (by omega)]
  exact wrap_nat _ (Nat.lt_trans (Nat.or_lt_two_pow ha hb) (by decide))
theorem pow_wrap (i : Int) (h0 : 0 ≤ i) (h1 : i < 31) : wrap64 (2 ^ i.toNat) = ((2 ^ i.toNat : Nat) : Int) := by
  have h2 : (2 : Nat) ^ i.toNat < 2 ^ 31 := Nat.pow_lt_pow_right (by omega) (by omega)
  have e : (2 : Int) ^ i.toNat = ((2 ^ i.toNat : Nat) : Int) := by simp
  rw [e]
  clear e
  generalize (2 : Nat) ^ i.toNat = n at *
  exact IntWalk.wrap64_in _ ⟨by omega, by omega⟩

theorem with_any (s i : Int) (w : World) : Calls Tryz.prog 103 #[.int .i64 s, .int .i64 i] w fun e w' => e = .returned (.int .i64 (withB s i)) ∧ w = w' := by
  unfold withB
  by_cases h0 : 0 ≤ i
  · by_cases h1 : i < 31
    · have e0 : decide (0 ≤ i) = true := by simp; omega
      have e1 : decide (i < 31) = true := by simp; omega
      rw [if_pos ⟨h0, h1⟩]
      go_enter Tryz.func103, Tryz.ntmps103
      go_wp2_with (go_at_call 94; refine (number_any _ _).mono ?_; rintro e w' ⟨rfl, rfl⟩)
      go_ret
      exact ⟨ret_i64 (by rw [and_all, pow_wrap i h0 h1, or_nat _ _ (Nat.lt_trans (low_lt s) (by decide)) (Nat.pow_lt_pow_right (by omega) (by omega))]), rfl⟩
    · have e0 : decide (0 ≤ i) = true := by simp; omega
      have e1 : decide (i < 31) = false := by simp; omega
      rw [if_neg (by omega)]
      go_enter Tryz.func103, Tryz.ntmps103
      go_wp2_with (go_at_call 94; refine (number_any _ _).mono ?_; rintro e w' ⟨rfl, rfl⟩)
      go_ret
      exact ⟨ret_i64 (and_all s), rfl⟩
  · have e0 : decide (0 ≤ i) = false := by simp; omega
    rw [if_neg (by omega)]
    go_enter Tryz.func103, Tryz.ntmps103
    go_wp2_with (go_at_call 94; refine (number_any _ _).mono ?_; rintro e w' ⟨rfl, rfl⟩)
    go_ret
    exact ⟨ret_i64 (and_all s), rfl⟩
end
section
open Go.RowKit
abbrev eInst (x : Inst) : List AV := [eI x.op, eI x.la, eI x.ln, eI x.ra, eI x.rn, eI x.n, eI x.u]
abbrev sInsts (l : List Inst) : AV := .sl 7 (l.map eInst)
abbrev eGd (g : Gd) : List AV := [eI g.stage, eI g.event, sInsts g.cond]
abbrev eMl (g : Ml) : List AV := [eS g.name, eI g.stage, eI g.event, sInsts g.cond, eB g.final]
abbrev eEv (g : Ev) : List AV := [eS g.name, eI g.role, eI g.stage, sI g.sets, eI g.times]
abbrev eNI (p : ByteArray × Int) : List AV := [eS p.1, eI p.2]
abbrev eII (p : Int × Int) : List AV := [eI p.1, eI p.2]
abbrev eBI (p : Bool × Int) : List AV := [eB p.1, eI p.2]
abbrev eMod (m : Mod) : List AV := [.sl 1 (m.attrs.map fun s => [eS s]), sI m.inits, .sl 1 (m.users.map fun s => [eS s]), .sl 2 (m.roles.map eNI), .sl 2 (m.stages.map eNI), .sl 5 (m.events.map eEv), .sl 3 (m.guards.map eGd), .sl 5 (m.miles.map eMl), .sl 2 (m.sods.map eII), .sl 2 (m.order.map eBI)]
abbrev eSt (s : St) : List AV := [sI s.vals, eI s.opn, eI s.don, sI s.did, sI s.cnt]
def pars (m : Mod) : List Int := m.stages.map (·.2)
def condOk (m : Mod) : Prop := (∀ g ∈ m.guards, ∀ x ∈ g.cond, x.ok) ∧ ∀ g ∈ m.miles, ∀ x ∈ g.cond, x.ok
theorem mixedT : Tryz.prog.follows .mixedOrders = true := by kernel_rfl

def greatS (m : Mod) : Prop := m.guards.length ≤ 14 ∧ m.miles.length ≤ 10 ∧ m.stages.length ≤ 10 ∧ m.events.length ≤ 10 ∧ m.attrs.length ≤ 10 ∧ m.users.length ≤ 10 ∧ m.roles.length ≤ 10 ∧ m.sods.length ≤ 10 ∧ m.order.length ≤ 40 ∧ m.inits.length ≤ 10
structure Fit (m : Mod) : Prop where
  sizes : greatS m
  guards : ∀ g ∈ m.guards, g.cond.length ≤ 80
  miles : ∀ g ∈ m.miles, g.cond.length ≤ 80
  events : ∀ g ∈ m.events, g.sets.length ≤ 10
set_option maxRecDepth 100000 in
set_option maxHeartbeats 4000000 in
theorem great12_A (m : Mod) : ARel Tryz.prog 13 [.agg (eMod m)] fun R => ∃ b, R = val (.bool b) ∧ (b = false → Fit m) := by
  refine arel_of_code mixedT Tryz.func13 rfl (by decide) Tryz.ntmps13 Tryz.results13 rfl ?_
  (repeat' (first | simp (maxSteps := 5000000) (implicitDefEqProofs := false) only [ruA, ruB, aEv, aTake, aLoad, aField, aLen, aBin, bin2, ASt.get, aget, ASt.put, aBox, aCells, oneC, oneCL, envOf, aResL, aOne, ↓reduceIte, reduceCtorEq, Nat.reduceLT, Nat.reduceEqDiff, Nat.reduceAdd, Nat.reduceLeDiff, eq_self, ne_eq, tyF_32_6, tyA_27, tyS_27, tyE_27, tyF_32_7, tyA_28, tyS_28, tyE_28, tyF_32_4, tyA_25, tyS_25, tyE_25, tyF_32_5, tyA_26, tyS_26, tyE_26, tyF_32_0, tyA_22, tyS_22, tyE_22, tyF_32_2, tyF_32_3, tyA_24, tyS_24, tyE_24, tyF_32_8, tyA_29, tyS_29, tyE_29, tyF_32_9, tyA_30, tyS_30, tyE_30, tyF_32_1, tyA_23, tyS_23, tyE_23] | (with_reducible refine aIf_split (fun _ => ?_) (fun _ => ?_)) | (with_reducible refine aSel_split (fun _ => ?_) (fun _ => ?_)) | (with_reducible refine aGd_split (fun _ => ?_) (fun _ => ?_))))
  all_goals first | with_reducible exact retV ⟨true, rfl, fun h => by cases h⟩ | skip
  have hS : greatS m := by simp_all [greatS]; omega
  obtain ⟨h1, h2, h3, h4, h5, h6, h7, h8, h9, h10⟩ := id hS
  refine aLoop_of (fun st => ∃ k : Nat, k ≤ m.guards.length ∧ (∀ i (h : i < m.guards.length), i < k → m.guards[i].cond.length ≤ 80) ∧ st = ⟨109, [(1, .op 0 0 0), (3, eI (k : Int))], [(0, some (.box 32 (eMod m)))], 1⟩) (fun st => m.guards.length - slotN st 3) ⟨_, (weak_cut1 (by (first | ((simp only [envIn, tabIn, envLt, tabLt, AObj.lt, AV.lt, AV.ltL, ruW, ASt.get, aget, ↓reduceIte, Nat.reduceLT, Nat.reduceEqDiff, eq_self]) <;> (repeat' apply And.intro) <;> first | (rw [wrapK (by omega)]; done) | (simp; done) | omega) | fail))), 0, Nat.zero_le _, ?_, rfl⟩ ?_
  · exact fun i h h2 => absurd h2 (by omega)
  rintro _ ⟨k, hk, hg, rfl⟩
  by_cases hlt : k < m.guards.length
  · (repeat' (first | simp (maxSteps := 5000000) (implicitDefEqProofs := false) only [ruA, ruB, aEv, aTake, aLoad, aField, aIndex, aLen, aBin, bin2, ASt.get, aget, ASt.put, aResL, aOne, ↓reduceIte, reduceCtorEq, Nat.reduceLT, Nat.reduceEqDiff, Nat.reduceAdd, Nat.reduceLeDiff, eq_self, ne_eq, tyF_32_6, tyA_27, tyS_27, tyE_27, tyF_78_2, tyA_76, tyS_76, tyE_76, row_at, hlt] | (with_reducible refine aIf_split (fun _ => ?_) (fun _ => ?_)) | (with_reducible refine aSel_split (fun _ => ?_) (fun _ => ?_)) | (with_reducible refine aGd_split (fun _ => ?_) (fun _ => ?_))))
    · with_reducible exact retV ⟨true, rfl, fun h => by cases h⟩
    · rename_i hc
      refine roundI (weak_cut1 (by (first | ((simp only [envIn, tabIn, envLt, tabLt, AObj.lt, AV.lt, AV.ltL, ruW, ASt.get, aget, ↓reduceIte, Nat.reduceLT, Nat.reduceEqDiff, eq_self]) <;> (repeat' apply And.intro) <;> first | (rw [wrapK (by omega)]; done) | (simp; done) | omega) | fail))) ⟨k + 1, by omega, fun i h h2 => ?_, rfl⟩ (by simp only [slotN, ASt.get, aget, ↓reduceIte, Nat.reduceLT, Nat.reduceEqDiff, eq_self]; omega)
      rcases Nat.lt_or_ge i k with h3 | h3
      · exact hg i h h3
      · obtain rfl : i = k := by omega
        simp at hc
        omega
  simp (maxSteps := 5000000) (implicitDefEqProofs := false) only [ruA, ruB, aEv, aTake, aLoad, aField, aLen, aBin, bin2, ASt.get, aget, ASt.put, ↓reduceIte, reduceCtorEq, Nat.reduceLT, Nat.reduceEqDiff, Nat.reduceAdd, Nat.reduceLeDiff, eq_self, ne_eq, tyF_32_6, tyA_27, tyS_27, tyE_27, hlt]
  refine aLoop_of (fun st => ∃ q : Nat, q ≤ m.miles.length ∧ (∀ i (h : i < m.miles.length), i < q → m.miles[i].cond.length ≤ 80) ∧ st = ⟨109, [(1, .op 0 0 0), (4, eI (q : Int))], [(0, some (.box 32 (eMod m)))], 1⟩) (fun st => m.miles.length - slotN st 4) ⟨_, (weak_cut1 (by (first | ((simp only [envIn, tabIn, envLt, tabLt, AObj.lt, AV.lt, AV.ltL, ruW, ASt.get, aget, ↓reduceIte, Nat.reduceLT, Nat.reduceEqDiff, eq_self]) <;> (repeat' apply And.intro) <;> first | (rw [wrapK (by omega)]; done) | (simp; done) | omega) | fail))), 0, Nat.zero_le _, ?_, rfl⟩ ?_
  · exact fun i h h2 => absurd h2 (by omega)
  rintro _ ⟨q, hq, hm, rfl⟩
  by_cases hlt2 : q < m.miles.length
  · (repeat' (first | simp (maxSteps := 5000000) (implicitDefEqProofs := false) only [ruA, ruB, aEv, aTake, aLoad, aField, aIndex, aLen, aBin, bin2, ASt.get, aget, ASt.put, aResL, aOne, ↓reduceIte, reduceCtorEq, Nat.reduceLT, Nat.reduceEqDiff, Nat.reduceAdd, Nat.reduceLeDiff, eq_self, ne_eq, tyF_32_7, tyA_28, tyS_28, tyE_28, tyA_76, tyS_76, tyE_76, tyF_80_3, row_at, hlt2] | (with_reducible refine aIf_split (fun _ => ?_) (fun _ => ?_)) | (with_reducible refine aSel_split (fun _ => ?_) (fun _ => ?_)) | (with_reducible refine aGd_split (fun _ => ?_) (fun _ => ?_))))
    · with_reducible exact retV ⟨true, rfl, fun h => by cases h⟩
    · rename_i hc
      refine roundI (weak_cut1 (by (first | ((simp only [envIn, tabIn, envLt, tabLt, AObj.lt, AV.lt, AV.ltL, ruW, ASt.get, aget, ↓reduceIte, Nat.reduceLT, Nat.reduceEqDiff, eq_self]) <;> (repeat' apply And.intro) <;> first | (rw [wrapK (by omega)]; done) | (simp; done) | omega) | fail))) ⟨q + 1, by omega, fun i h h2 => ?_, rfl⟩ (by simp only [slotN, ASt.get, aget, ↓reduceIte, Nat.reduceLT, Nat.reduceEqDiff, eq_self]; omega)
      rcases Nat.lt_or_ge i q with h3 | h3
      · exact hm i h h3
      · obtain rfl : i = q := by omega
        simp at hc
        omega
  simp (maxSteps := 5000000) (implicitDefEqProofs := false) only [ruA, ruB, aEv, aTake, aLoad, aField, aLen, aBin, bin2, ASt.get, aget, ASt.put, ↓reduceIte, reduceCtorEq, Nat.reduceLT, Nat.reduceEqDiff, Nat.reduceAdd, Nat.reduceLeDiff, eq_self, ne_eq, tyF_32_7, tyA_28, tyS_28, tyE_28, hlt2]
  refine aLoop_of (fun st => ∃ r : Nat, r ≤ m.events.length ∧ (∀ i (h : i < m.events.length), i < r → m.events[i].sets.length ≤ 10) ∧ st = ⟨109, [(1, .op 0 0 0), (5, eI (r : Int))], [(0, some (.box 32 (eMod m)))], 1⟩) (fun st => m.events.length - slotN st 5) ⟨_, (weak_cut1 (by (first | ((simp only [envIn, tabIn, envLt, tabLt, AObj.lt, AV.lt, AV.ltL, ruW, ASt.get, aget, ↓reduceIte, Nat.reduceLT, Nat.reduceEqDiff, eq_self]) <;> (repeat' apply And.intro) <;> first | (rw [wrapK (by omega)]; done) | (simp; done) | omega) | fail))), 0, Nat.zero_le _, ?_, rfl⟩ ?_
  · exact fun i h h2 => absurd h2 (by omega)
  rintro _ ⟨r, hr, he, rfl⟩
  by_cases hlt3 : r < m.events.length
  · (repeat' (first | simp (maxSteps := 5000000) (implicitDefEqProofs := false) only [ruA, ruB, aEv, aTake, aLoad, aField, aIndex, aLen, aBin, bin2, ASt.get, aget, ASt.put, aResL, aOne, ↓reduceIte, reduceCtorEq, Nat.reduceLT, Nat.reduceEqDiff, Nat.reduceAdd, Nat.reduceLeDiff, eq_self, ne_eq, tyF_32_5, tyA_26, tyS_26, tyE_26, tyF_51_3, tyA_34, tyS_34, tyE_34, row_at, hlt3] | (with_reducible refine aIf_split (fun _ => ?_) (fun _ => ?_)) | (with_reducible refine aSel_split (fun _ => ?_) (fun _ => ?_)) | (with_reducible refine aGd_split (fun _ => ?_) (fun _ => ?_))))
    · with_reducible exact retV ⟨true, rfl, fun h => by cases h⟩
    · rename_i hc
      refine roundI (weak_cut1 (by (first | ((simp only [envIn, tabIn, envLt, tabLt, AObj.lt, AV.lt, AV.ltL, ruW, ASt.get, aget, ↓reduceIte, Nat.reduceLT, Nat.reduceEqDiff, eq_self]) <;> (repeat' apply And.intro) <;> first | (rw [wrapK (by omega)]; done) | (simp; done) | omega) | fail))) ⟨r + 1, by omega, fun i h h2 => ?_, rfl⟩ (by simp only [slotN, ASt.get, aget, ↓reduceIte, Nat.reduceLT, Nat.reduceEqDiff, eq_self]; omega)
      rcases Nat.lt_or_ge i r with h3 | h3
      · exact he i h h3
      · obtain rfl : i = r := by omega
        simp at hc
        omega
  simp (maxSteps := 5000000) (implicitDefEqProofs := false) only [ruA, ruB, aEv, aTake, aLoad, aField, aLen, aBin, bin2, ASt.get, aget, ASt.put, aResL, aOne, ↓reduceIte, reduceCtorEq, Nat.reduceLT, Nat.reduceEqDiff, Nat.reduceAdd, Nat.reduceLeDiff, eq_self, ne_eq, tyF_32_5, tyA_26, tyS_26, tyE_26, hlt3]
  refine retV ⟨false, rfl, fun _ => ⟨hS, fun g hg' => ?_, fun g hg' => ?_, fun g hg' => ?_⟩⟩
  · obtain ⟨i, hi, rfl⟩ := List.getElem_of_mem hg'
    exact hg i hi (by omega)
  · obtain ⟨i, hi, rfl⟩ := List.getElem_of_mem hg'
    exact hm i hi (by omega)
  · obtain ⟨i, hi, rfl⟩ := List.getElem_of_mem hg'
    exact he i hi (by omega)
def inB (n most : Int) : Bool := decide (0 ≤ n) && decide (n < most)
theorem in_A (n most : Int) : ADet Tryz.prog 35 [eI n, eI most] (val (.bool (inB n most))) := by
  refine adet_of_code mixedT Tryz.func35 rfl (by decide) Tryz.ntmps35 Tryz.results35 rfl (val_ok _) ?_
  simp (maxSteps := 5000000) (implicitDefEqProofs := false) only [ruA, ruB, aEv, aBin, bin2, ASt.get, aget, ASt.put, envOf, ↓reduceIte, reduceCtorEq, Nat.reduceLT, eq_self]
  unfold inB
  with_reducible refine aGd_split (fun h => ?_) (fun h => ?_) <;> simp (maxSteps := 5000000) (implicitDefEqProofs := false) only [ruA, ruB, aEv, aBin, bin2, ASt.get, aget, ASt.put, aResL, aOne, ↓reduceIte, reduceCtorEq, Nat.reduceLT, Nat.reduceEqDiff, eq_self] <;> simp at h <;> simp [h] <;> omega
theorem sets_A (m : Mod) (l : List Int) (hl : l.length ≤ 1000000) (b : Bool) (hb : b = true ↔ ∀ i (h : i < l.length), inB l[i] m.attrs.length = true ∧ ∀ j (h : j < i), l[j] ≠ l[i]) : ADet Tryz.prog 36 [.agg (eMod m), sI l] (val (.bool b)) := by
  refine adet_of_code mixedT Tryz.func36 rfl (by decide) Tryz.ntmps36 Tryz.results36 rfl (val_ok _) ?_
  simp (maxSteps := 5000000) (implicitDefEqProofs := false) only [ruA, ruB, aEv, ASt.get, aget, ASt.put, aBox, aCells, oneC, oneCL, envOf, ↓reduceIte, Nat.reduceLT, eq_self]
  refine aLoop_of (fun st => ∃ k : Nat, k ≤ l.length ∧ (∀ i (h : i < l.length), i < k → inB l[i] m.attrs.length = true ∧ ∀ j (h : j < i), l[j] ≠ l[i]) ∧ st = ⟨36, [(1, sI l), (2, .op 0 0 0), (5, eI k)], [(0, some (.box 32 (eMod m)))], 1⟩) (fun st => l.length - slotN st 5)
    ⟨_, (weak_cut1 (by (first | ((simp only [envIn, tabIn, envLt, tabLt, AObj.lt, AV.lt, AV.ltL, ruW, ASt.get, aget, ↓reduceIte, Nat.reduceLT, Nat.reduceEqDiff, eq_self]) <;> (repeat' apply And.intro) <;> first | (rw [wrapK (by omega)]; done) | (simp; done) | omega) | fail))), 0, Nat.zero_le _, fun i h1 h2 => absurd h2 (by omega), rfl⟩ ?_
  rintro _ ⟨k, hk, hI, rfl⟩
  by_cases hlt : k < l.length
  · simp (maxSteps := 5000000) (implicitDefEqProofs := false) only [ruA, ruB, aEv, aLen, aBin, bin2, ASt.get, aget, ASt.put, ↓reduceIte, Nat.reduceLT, Nat.reduceEqDiff, eq_self, ne_eq, tyE_34, hlt]
    refine aDraw_quiet (by kernel_rfl) ?_
    simp (maxSteps := 5000000) (implicitDefEqProofs := false) only [ruA, ruB, aEv, aTake, aLoad, aField, aIndex, aLen, aUn, un1, ASt.get, aget, ASt.put, ↓reduceIte, reduceCtorEq, Nat.reduceLT, Nat.reduceEqDiff, Nat.reduceAdd, Nat.reduceLeDiff, eq_self, ne_eq, dref, tyE_34, tyA_3, tyS_3, tyF_32_0, tyA_22, tyS_22, tyE_22, row_at, hlt]
    refine callD (in_A _ _) ?_
    simp (maxSteps := 5000000) (implicitDefEqProofs := false) only [ruA]
    with_reducible refine aIf_split (fun hin => ?_) (fun hin => ?_) <;> simp (maxSteps := 5000000) (implicitDefEqProofs := false) only [ruA, ruB, aEv, ASt.get, aget, ASt.put, aResL, aOne, ↓reduceIte, Nat.reduceLT, eq_self]
    · simp at hin
      symm
      rw [Bool.eq_false_iff]
      intro hbt
      have := (hb.1 hbt k hlt).1
      rw [hin] at this
      cases this
    · simp at hin
      refine aLoop_of (fun st => ∃ q : Nat, q ≤ k ∧ (∀ j (h : j < k), j < q → l[j] ≠ l[k]) ∧ st = ⟨36, [(1, sI l), (2, .op 0 0 0), (5, eI k), (6, eI q)], [(0, some (.box 32 (eMod m)))], 1⟩) (fun st => k - slotN st 6)
        ⟨_, (weak_cut1 (by (first | ((simp only [envIn, tabIn, envLt, tabLt, AObj.lt, AV.lt, AV.ltL, ruW, ASt.get, aget, ↓reduceIte, Nat.reduceLT, Nat.reduceEqDiff, eq_self]) <;> (repeat' apply And.intro) <;> first | (rw [wrapK (by omega)]; done) | (simp; done) | omega) | fail))), 0, Nat.zero_le _, fun i h1 h2 => absurd h2 (by omega), rfl⟩ ?_
      rintro _ ⟨q, hq, hJ, rfl⟩
      by_cases hqk : q < k
      · have hql : q < l.length := by omega
        simp (maxSteps := 5000000) (implicitDefEqProofs := false) only [ruA, ruB, aEv, aBin, bin2, ASt.get, aget, ASt.put, ↓reduceIte, Nat.reduceLT, Nat.reduceEqDiff, eq_self, ne_eq, hqk]
        refine aDraw_quiet (by kernel_rfl) ?_
        simp (maxSteps := 5000000) (implicitDefEqProofs := false) only [ruA, ruB, aEv, aTake, aLoad, aIndex, aBin, bin2, ASt.get, aget, ASt.put, ↓reduceIte, reduceCtorEq, Nat.reduceLT, Nat.reduceEqDiff, eq_self, tyE_34, tyA_3, tyS_3, row_at, hlt, hql]
        with_reducible refine aIf_split (fun he => ?_) (fun he => ?_) <;> simp (maxSteps := 5000000) (implicitDefEqProofs := false) only [ruA, ruB, aEv, aBin, bin2, ASt.get, aget, ASt.put, aResL, aOne, ↓reduceIte, Nat.reduceLT, Nat.reduceEqDiff, eq_self]
        · symm
          rw [Bool.eq_false_iff]
          intro hbt
          exact (hb.1 hbt k hlt).2 q hqk (by simpa using he)
        · refine roundI (weak_cut1 (by (first | ((simp only [envIn, tabIn, envLt, tabLt, AObj.lt, AV.lt, AV.ltL, ruW, ASt.get, aget, ↓reduceIte, Nat.reduceLT, Nat.reduceEqDiff, eq_self]) <;> (repeat' apply And.intro) <;> first | (rw [wrapK (by omega)]; done) | (simp; done) | omega) | fail))) ⟨q + 1, by omega, fun j h1 h2 => ?_, rfl⟩ ?_
          · simp at he
            rcases Nat.lt_or_ge j q with h3 | h3
            · exact hJ j h1 h3
            · obtain rfl : j = q := by omega
              exact he
          · exact (by simp only [slotN, ruW, ASt.get, aget, ↓reduceIte, Nat.reduceLT, Nat.reduceEqDiff, eq_self]; omega)
      · simp (maxSteps := 5000000) (implicitDefEqProofs := false) only [ruA, ruB, aEv, aBin, bin2, ASt.get, aget, ASt.put, ↓reduceIte, Nat.reduceLT, Nat.reduceEqDiff, eq_self, ne_eq, hqk]
        refine roundI (weak_cut1 (by (first | ((simp only [envIn, tabIn, envLt, tabLt, AObj.lt, AV.lt, AV.ltL, ruW, ASt.get, aget, ↓reduceIte, Nat.reduceLT, Nat.reduceEqDiff, eq_self]) <;> (repeat' apply And.intro) <;> first | (rw [wrapK (by omega)]; done) | (simp; done) | omega) | fail))) ⟨k + 1, by omega, fun j h1 h2 => ?_, rfl⟩ ?_
        · rcases Nat.lt_or_ge j k with h3 | h3
          · exact hI j h1 h3
          · obtain rfl : j = k := by omega
            exact ⟨hin, fun i hi => hJ i hi (by omega)⟩
        · exact (by simp only [slotN, ASt.get, aget, ↓reduceIte, Nat.reduceLT, Nat.reduceEqDiff, eq_self]; omega)
  · simp (maxSteps := 5000000) (implicitDefEqProofs := false) only [ruA, ruB, aEv, aLen, aBin, bin2, ASt.get, aget, ASt.put, aResL, aOne, ↓reduceIte, Nat.reduceLT, Nat.reduceEqDiff, eq_self, ne_eq, tyE_34, hlt]
    symm
    exact hb.2 fun i h => hI i h (by omega)

theorem same10_A (a b : List Int) (ha : a.length ≤ 1000000) : ADet Tryz.prog 32 [sI a, sI b] (val (.bool (decide (a = b)))) := by
  refine adet_of_code mixedT Tryz.func32 rfl (by decide) Tryz.ntmps32 Tryz.results32 rfl (val_ok _) ?_
  simp (maxSteps := 5000000) (implicitDefEqProofs := false) only [ruA, ruB, aEv, aLen, aBin, bin2, ASt.get, aget, ASt.put, envOf, ↓reduceIte, reduceCtorEq, Nat.reduceLT, Nat.reduceEqDiff, eq_self, ne_eq, tyE_34]
  with_reducible refine aIf_split (fun he => ?_) (fun he => ?_) <;> simp (maxSteps := 5000000) (implicitDefEqProofs := false) only [ruA, ruB, aEv, ASt.get, aget, ASt.put, aResL, aOne, ↓reduceIte, Nat.reduceLT, eq_self]
  · symm
    rw [decide_eq_false_iff_not]
    rintro rfl
    simp at he
  have hl : a.length = b.length := by simp at he; omega
  refine aLoop_of (fun st => ∃ k : Nat, k ≤ a.length ∧ (∀ i (h : i < a.length) (h2 : i < b.length), i < k → a[i] = b[i]) ∧ st = ⟨26, [(0, sI a), (1, sI b), (5, eI (k : Int))], [], 0⟩) (fun st => a.length - slotN st 5) ⟨_, (weak_cut1 (by (first | ((simp only [envIn, tabIn, envLt, tabLt, AV.lt, ruW, ASt.get, aget, ↓reduceIte, reduceCtorEq, Nat.reduceLT, Nat.reduceEqDiff, eq_self]) <;> (repeat' apply And.intro) <;> first | (rw [wrapK (by omega)]; done) | (simp; done) | omega) | fail))), 0, Nat.zero_le _, ?_, rfl⟩ ?_
  · exact fun i h h2 h3 => absurd h3 (by omega)
  rintro _ ⟨k, hk, hI, rfl⟩
  by_cases hlt : k < a.length
  · have hlt2 : k < b.length := by omega
    simp (maxSteps := 5000000) (implicitDefEqProofs := false) only [ruA, ruB, aEv, aLen, aBin, bin2, ASt.get, aget, ASt.put, ↓reduceIte, reduceCtorEq, Nat.reduceLT, Nat.reduceEqDiff, eq_self, ne_eq, tyE_34, hlt]
    refine aDraw_quiet (by kernel_rfl) ?_
    simp (maxSteps := 5000000) (implicitDefEqProofs := false) only [ruA, ruB, aEv, aTake, aLoad, aIndex, aBin, bin2, ASt.get, aget, ASt.put, ↓reduceIte, reduceCtorEq, Nat.reduceLT, Nat.reduceEqDiff, eq_self, tyE_34, tyA_3, tyS_3, row_at, hlt, hlt2]
    with_reducible refine aIf_split (fun hn => ?_) (fun hn => ?_) <;> simp (maxSteps := 5000000) (implicitDefEqProofs := false) only [ruA, ruB, aEv, aBin, bin2, ASt.get, aget, ASt.put, aResL, aOne, ↓reduceIte, Nat.reduceLT, Nat.reduceEqDiff, eq_self]
    · symm
      rw [decide_eq_false_iff_not]
      rintro rfl
      simp at hn
    · refine roundI (weak_cut1 (by (first | ((simp only [envIn, tabIn, envLt, tabLt, AV.lt, ruW, ASt.get, aget, ↓reduceIte, reduceCtorEq, Nat.reduceLT, Nat.reduceEqDiff, eq_self]) <;> (repeat' apply And.intro) <;> first | (rw [wrapK (by omega)]; done) | (simp; done) | omega) | fail))) ⟨k + 1, by omega, fun i h h2 h3 => ?_, rfl⟩ (by simp only [slotN, ruW, ASt.get, aget, ↓reduceIte, Nat.reduceLT, Nat.reduceEqDiff, eq_self]; omega)
      rcases Nat.lt_or_ge i k with h4 | h4
      · exact hI i h h2 h4
      · obtain rfl : i = k := by omega
        simpa using hn
  · simp (maxSteps := 5000000) (implicitDefEqProofs := false) only [ruA, ruB, aEv, aLen, aBin, bin2, ASt.get, aget, ASt.put, aResL, aOne, ↓reduceIte, reduceCtorEq, Nat.reduceLT, Nat.reduceEqDiff, eq_self, ne_eq, tyE_34, hlt]
    symm
    rw [decide_eq_true_iff]
    exact List.ext_getElem hl fun i h1 h2 => hI i h1 h2 (by omega)
end
section
theorem nodup_len : ∀ (n : Nat) (l : List Int), l.Nodup → (∀ x ∈ l, 0 ≤ x ∧ x < (n : Int)) → l.length ≤ n := by
  intro n
  induction n with
  | zero =>
    intro l _ h
    cases l with
    | nil => simp
    | cons x l => have := h x (by simp); omega
  | succ n ih =>
    intro l hn h
    by_cases hm : (n : Int) ∈ l
    · have h1 := ih (l.erase (n : Int)) (hn.erase _) (fun x hx => by
        have := (hn.mem_erase_iff).1 hx
        have := h x this.2
        omega)
      rw [List.length_erase_of_mem hm] at h1
      omega
    · have := ih l hn (fun x hx => by
        have h2 := h x hx
        have : x ≠ (n : Int) := fun e => hm (e ▸ hx)
        omega)
      omega

def isAt (l : List Int) (i : Int) : Prop := 0 ≤ i ∧ i < (l.length : Int)
instance (l : List Int) (i : Int) : Decidable (isAt l i) := by unfold isAt; infer_instance
def norm (l : List Int) (i : Int) : Int := if isAt l i then i else -1
def par (l : List Int) (i : Int) : Int := if isAt l i then norm l (l.getD i.toNat 0) else -1
def upN (l : List Int) (i : Int) : Nat → Int
  | 0 => norm l i
  | k + 1 => par l (upN l i k)
def goUp (l : List Int) (i : Int) : Nat → Int → List Int → List Int
  | 0, _, out => out
  | f + 1, p, out => if par l p = -1 ∨ par l p = i ∨ par l p ∈ out then out else goUp l i f (par l p) (out ++ [par l p])
def aboveL (l : List Int) (i : Int) : List Int := goUp l i l.length i []

theorem norm_cases (l : List Int) (i : Int) : (isAt l i ∧ norm l i = i) ∨ (¬ isAt l i ∧ norm l i = -1) := by
  unfold norm; split <;> simp [*]
theorem norm_at (l : List Int) (i : Int) : norm l i = -1 ∨ isAt l (norm l i) := by
  rcases norm_cases l i with ⟨h, e⟩ | ⟨_, e⟩ <;> rw [e]
  · exact .inr h
  · exact .inl rfl
theorem par_at (l : List Int) (i : Int) : par l i = -1 ∨ isAt l (par l i) := by
  unfold par; split
  · exact norm_at _ _
  · exact .inl rfl
theorem par_norm (l : List Int) (i : Int) : par l (norm l i) = par l i := by
  rcases norm_cases l i with ⟨h, e⟩ | ⟨h, e⟩
  · rw [e]
  · rw [e]; unfold par; rw [if_neg h, if_neg (by simp [isAt])]
theorem par_none (l : List Int) : par l (-1) = -1 := by unfold par; rw [if_neg (by simp [isAt])]
theorem upN_none (l : List Int) (i : Int) (k : Nat) (h : upN l i k = -1) : ∀ d, upN l i (k + d) = -1
  | 0 => h
  | d + 1 => by rw [← Nat.add_assoc, upN, upN_none l i k h d, par_none]
theorem upN_one (l : List Int) (i : Int) : upN l i 1 = par l i := par_norm l i

structure UpAt (l : List Int) (i : Int) (m : Nat) (p : Int) (out : List Int) : Prop where
  len : out.length = m
  eq : ∀ j, j < m → out[j]? = some (upN l i (j + 1))
  cur : par l p = upN l i (m + 1)
  nodup : out.Nodup
  at_ : ∀ x ∈ out, isAt l x
  not : i ∉ out
  room : m ≤ l.length
  rest : goUp l i (l.length - m) p out = aboveL l i
theorem UpAt.start (l : List Int) (i : Int) : UpAt l i 0 i [] :=
  ⟨rfl, fun j h => by omega, (upN_one l i).symm, List.nodup_nil, fun x h => by simp at h, by simp, by omega, rfl⟩
def stops (l : List Int) (i : Int) (p : Int) (out : List Int) : Prop := par l p = -1 ∨ par l p = i ∨ par l p ∈ out
instance (l : List Int) (i p : Int) (out : List Int) : Decidable (stops l i p out) := by unfold stops; infer_instance
theorem UpAt.stop {l : List Int} {i : Int} {m : Nat} {p : Int} {out : List Int} (h : UpAt l i m p out) (hs : stops l i p out) : out = aboveL l i := by
  rw [← h.rest]
  cases l.length - m with
  | zero => rfl
  | succ f => rw [goUp]; exact (if_pos hs).symm
theorem UpAt.next {l : List Int} {i : Int} {m : Nat} {p : Int} {out : List Int} (h : UpAt l i m p out) (hs : ¬ stops l i p out) : UpAt l i (m + 1) (par l p) (out ++ [par l p]) ∧ m + 1 ≤ l.length := by
  unfold stops at hs
  simp only [not_or] at hs
  have hat : isAt l (par l p) := (par_at l p).resolve_left hs.1
  have hnd : (out ++ [par l p]).Nodup := by
    rw [List.nodup_append]
    refine ⟨h.nodup, by simp, fun a ha b hb e => ?_⟩
    simp at hb
    subst hb; subst e
    exact hs.2.2 ha
  have hall : ∀ x ∈ out ++ [par l p], isAt l x := by
    intro x hx
    rcases List.mem_append.1 hx with hx | hx
    · exact h.at_ x hx
    · simp at hx; subst hx; exact hat
  have hlen : m + 1 ≤ l.length := by
    have := nodup_len l.length _ hnd hall
    simp [h.len] at this
    exact this
  refine ⟨⟨by simp [h.len], fun j hj => ?_, by rw [show upN l i (m + 1 + 1) = par l (upN l i (m + 1)) from rfl, h.cur], hnd, hall, ?_, hlen, ?_⟩, hlen⟩
  · by_cases hjm : j < m
    · rw [List.getElem?_append_left (by rw [h.len]; exact hjm)]; exact h.eq j hjm
    · have : j = m := by omega
      subst this
      rw [List.getElem?_append_right (by rw [h.len]; omega), h.len, Nat.sub_self]
      simp [h.cur]
  · intro hi
    rcases List.mem_append.1 hi with hi | hi
    · exact h.not hi
    · simp at hi; exact hs.2.1 hi.symm
  · have := h.rest
    rw [show l.length - m = (l.length - (m + 1)) + 1 from by omega, goUp, if_neg (by simp only [not_or]; exact hs)] at this
    exact this
theorem up_end (l : List Int) (i : Int) : ∃ m p, UpAt l i m p (aboveL l i) ∧ stops l i p (aboveL l i) := by
  have key : ∀ (f m : Nat) (p : Int) (out : List Int), UpAt l i m p out → l.length + 1 - m ≤ f → ∃ m p, UpAt l i m p (aboveL l i) ∧ stops l i p (aboveL l i) := by
    intro f
    induction f with
    | zero => intro m p out h hf; have := h.room; omega
    | succ f ih =>
      intro m p out h hf
      by_cases hs : stops l i p out
      · have e := h.stop hs
        rw [e] at h hs
        exact ⟨m, p, h, hs⟩
      · have := (h.next hs).1
        exact ih _ _ _ this (by omega)
  exact key _ 0 i [] (UpAt.start l i) (Nat.le_refl _)

def circ (l : List Int) (i : Int) : Prop := isAt l i ∧ par l (((aboveL l i).getLast?).getD i) = i
instance (l : List Int) (i : Int) : Decidable (circ l i) := by unfold circ; infer_instance
theorem last_cur {l : List Int} {i : Int} {m : Nat} {p : Int} {out : List Int} (h : UpAt l i m p out) : par l ((out.getLast?).getD i) = upN l i (m + 1) := by
  cases m with
  | zero =>
    have : out = [] := List.eq_nil_of_length_eq_zero h.len
    subst this
    exact (upN_one l i).symm
  | succ m =>
    have h1 := h.eq m (by omega)
    rw [List.getLast?_eq_getElem?, h.len, Nat.add_sub_cancel, h1]
    rfl
theorem up_all {l : List Int} {i : Int} {m : Nat} {p : Int} (h : UpAt l i m p (aboveL l i)) (hs : stops l i p (aboveL l i)) (hc : upN l i (m + 1) ≠ i ∨ i = -1) : ∀ j, upN l i (j + 1) = -1 ∨ upN l i (j + 1) ∈ aboveL l i := by
  have hst : upN l i (m + 1) = -1 ∨ upN l i (m + 1) ∈ aboveL l i := by
    rw [← h.cur]
    rcases hs with hs | hs | hs
    · exact .inl hs
    · rw [h.cur] at hs
      rcases hc with hc | hc
      · exact absurd hs hc
      · rw [h.cur, hs, hc]; exact .inl rfl
    · exact .inr hs
  intro j
  induction j with
  | zero =>
    cases m with
    | zero => exact hst
    | succ m => exact .inr (List.mem_of_getElem? (h.eq 0 (by omega)))
  | succ j ih =>
    rcases ih with ih | ih
    · left; rw [upN, ih, par_none]
    · obtain ⟨a, ha⟩ := List.mem_iff_getElem?.1 ih
      have ham : a < m := by rw [← h.len]; exact (List.getElem?_eq_some_iff.1 ha).1
      rw [h.eq a ham] at ha
      have e : upN l i (j + 1 + 1) = upN l i (a + 1 + 1) := by
        show par l (upN l i (j + 1)) = par l (upN l i (a + 1))
        rw [Option.some.inj ha]
      rw [e]
      by_cases ham2 : a + 1 < m
      · exact .inr (List.mem_of_getElem? (h.eq (a + 1) ham2))
      · have : a + 1 = m := by omega
        rw [this]; exact hst
theorem circ_iff (l : List Int) (i : Int) (hi : isAt l i) : circ l i ↔ ∃ j, 1 ≤ j ∧ j ≤ l.length ∧ upN l i j = i := by
  obtain ⟨m, p, h, hs⟩ := up_end l i
  unfold circ
  rw [last_cur h]
  refine ⟨fun hh => ⟨m + 1, by omega, ?_, hh.2⟩, fun ⟨j, h1, h2, h3⟩ => ⟨hi, ?_⟩⟩
  · have hnd : (i :: aboveL l i).Nodup := List.nodup_cons.2 ⟨h.not, h.nodup⟩
    have := nodup_len l.length _ hnd (fun x hx => by
      rcases List.mem_cons.1 hx with rfl | hx
      · exact hi
      · exact h.at_ x hx)
    simp [h.len] at this
    omega
  · by_cases hc : upN l i (m + 1) = i
    · exact hc
    · have := up_all h hs (.inl hc) (j - 1)
      rw [show j - 1 + 1 = j from by omega, h3] at this
      rcases this with this | this
      · have := hi.1; omega
      · exact absurd this h.not

def circleL (l : List Int) : Int := (((List.range l.length).find? fun (i : Nat) => decide (circ l (i : Int))).map fun (i : Nat) => (i : Int)).getD (-1)
def belowL (l : List Int) (i : Int) : List Int := if isAt l i then (((List.range l.length).filter fun (k : Nat) => decide ((k : Int) ≠ i ∧ i ∈ aboveL l (k : Int))).map fun (k : Nat) => (k : Int)) else []
def isL (l : List Int) (a i : Int) : Prop := ∃ j, 1 ≤ j ∧ j ≤ l.length ∧ 0 ≤ a ∧ upN l i j = a
end
section
open Go.ChangeShapes Go.WideShapes Go.ChangeAt Go.RowKit

theorem lawOwn : ownKnob Tryz.prog.godebug = none := by kernel_rfl
theorem lawLaid : laidOutB Tryz.prog = true := by kernel_rfl
theorem lawBool : Tryz.prog.underlying 4 = some .bool := Tryz.underlying4

theorem trodAll_below {H : Type} {enc : TypeId × Value → H} {P : Program} (hl : laidOutB P = true) {W W' : World} (hb : Below W.heap.size W W') (sp : Nat → Bool) :
    ∀ {ts : List TypeId} {vs : List Value} {ds : List (DataW H)} {ps : List MemPlace}, (ts.all fun t => P.readableRec t && decide (t < P.types.size)) = true →
      DataW.TrodAll enc P W 0 (fun _ => true) true ts vs ds ps → (∀ x ∈ ps, x.block < W.heap.size) → (∀ p ∈ ps, sp p.block = true) → DataW.TrodAll enc P W' 0 sp true ts vs ds ps
  | [], [], [], _, _, h, _, _ => h
  | t :: ts, v :: vs, d :: ds, ps, ht, h, hlt, hs => by
    obtain ⟨p, q, h1, h2, rfl⟩ := h
    simp only [List.all_cons, Bool.and_eq_true, decide_eq_true_eq] at ht
    refine ⟨p, q, WideElems.Trod_stays hl ht.1.1 ht.1.2 h1 (fun x hx => hb.same (hlt x (List.mem_append.2 (.inl hx)))) (fun x hx => hs x (List.mem_append.2 (.inl hx))), ?_, rfl⟩
    exact trodAll_below hl hb sp (by simpa using ht.2) h2 (fun x hx => hlt x (List.mem_append.2 (.inr hx))) (fun x hx => hs x (List.mem_append.2 (.inr hx)))
  | [], [], _ :: _, _, _, h, _, _ => h.elim
  | [], _ :: _, _, _, _, h, _, _ => h.elim
  | _ :: _, [], _, _, _, h, _, _ => h.elim
  | _ :: _, _ :: _, [], _, _, h, _, _ => h.elim

theorem law_calls {H : Type} {enc : TypeId × Value → H} {f : Func} {s : ChangeSpec} {fid : FuncId} {W : World} {args : Array Value} {ds gs : List (DataW H)} {before : List MemPlace}
    (hts : (f.params.toList.all fun t => Tryz.prog.readableRec t && decide (t < Tryz.prog.types.size)) = true) (hrt : f.resultTypes = #[4]) (hsv : s.vars = [])
    (hW : DataW.Whole enc Tryz.prog f.params.toList s.vars false W args.toList ds gs before)
    (hfn : ∀ gs', gs' = [] → s.fn H (ds ++ gs') = { results := [.lit (.bool true)], args := ds })
    (hc : Calls Tryz.prog fid args W fun e W' => e = .returned (.bool true) ∧ Below W.heap.size W W') :
    Calls Tryz.prog fid args W fun e W' => ∃ v, e = .returned v ∧ s.post enc Tryz.prog f false true false false W args v W' := by
  refine hc.mono fun e W' ⟨he, hb⟩ => ⟨_, he, ?_⟩
  have hW' := hW
  obtain ⟨p, q, hA, hV, rfl, hfz, hnd⟩ := hW
  rw [hsv] at hV
  obtain ⟨rfl, rfl⟩ := trodVars_none hV
  have hlt : ∀ x ∈ p, x.block < W.heap.size := fun x hx => hW'.lt x (List.mem_append.2 (.inl hx))
  have e1 := hfn [] rfl
  refine ⟨ds, [], p ++ [], [], p, [], hW', ?_, ?_, ?_, hb.frame _, fun h => by cases h⟩
  · rw [e1, hrt]
    exact trodAll_mk1 (shut_bool lawBool true)
  · rw [e1]
    exact trodAll_below lawLaid hb _ hts hA hlt (fun x hx => by simpa using hlt x hx)
  · rw [e1, hsv]
    rfl
end
section
open Go.RowKit

def RI (w : World) (v : Value) (l : List Int) : Prop := (sliceR (intR .i64)).one w (fun b => b < w.heap.size) v l
theorem RI.below {w w' : World} {v : Value} {l : List Int} (h : RI w v l) (hb : Below w.heap.size w w') : RI w' v l := slice_mono (slice_below h hb fun b h => h) fun b h => Nat.lt_of_lt_of_le h hb.size
theorem RI.form {w : World} {v : Value} {l : List Int} (h : RI w v l) : ∃ A c, v = .slice A l.length c ∧ l.length ≤ c := by
  obtain ⟨A, c, h1, h2, _⟩ := slice_form h
  exact ⟨A, c, h1, h2⟩
theorem RI.at_ {w : World} {A : Option Addr} {n c : Nat} {l : List Int} (h : RI w (.slice A n c) l) {k : Nat} (hk : k < l.length) :
    ∃ b o, A = some ⟨b, o, none⟩ ∧ w.cell? ⟨b, o + k, none⟩ = some (.int .i64 (l.getD k 0)) ∧ -9223372036854775808 ≤ l.getD k 0 ∧ l.getD k 0 ≤ 9223372036854775807 := by
  obtain ⟨b, o, rfl, hb, _⟩ := slice_some h (by omega)
  have := ints_at h hk
  rw [List.getD, List.getElem?_eq_getElem hk]
  exact ⟨b, o, rfl, this⟩
theorem RI.own {w : World} {base : Nat} {v : Value} {n : Nat} {l : List Int} (h : w.ownsRow base 3 1 v n (l.map (Value.int .i64))) (hx : ∀ x ∈ l, -9223372036854775808 ≤ x ∧ x ≤ 9223372036854775807) : RI w v l :=
  slice_mono (slice_own1 (r := intR .i64) _ h rfl fun a ha => ⟨rfl, wf_i64_mk (hx a ha).1 (hx a ha).2⟩) fun b h => h.2

def lenOf : Value → Nat | .slice _ n _ => n | _ => 0
end
section
open Go.RowKit
theorem rt_ints {w : World} {S : Nat → Prop} {v : Value} {l : List Int} (h : RT w S v (sI l)) (hS : SOk w S) (hl : ∀ x ∈ l, ok64 x) : RI w v l := by
  obtain ⟨A, cap, rfl, hc, hm, _, hA⟩ := h.sl_inv
  refine ⟨A, cap, by simp, by simpa using hc, hm, fun h0 => ?_⟩
  obtain ⟨b, o, rfl, hb, U, hcell, hr, _⟩ := hA (by simpa using h0)
  refine ⟨b, o, rfl, hS b hb, fun i hi => ⟨[.int .i64 l[i]], fun j u hu => ?_, rfl, ?_⟩⟩
  · have h1 : (l.map fun n => [eI n])[i]? = some [eI l[i]] := by simp [hi]
    have h2 := hcell i 0 _ _ h1 rfl
    have h3 := rtc (hr i 0 _ _ h1 rfl)
    cases j with
    | zero =>
      simp at hu
      subst hu
      rw [h3] at h2
      simpa [intR] using h2
    | succ j => simp at hu
  · have := hl _ (List.getElem_mem hi)
    exact wf_i64_mk this.1 this.2
theorem two_args {vs : Array Value} (h : vs.size = 2) : ∃ a b, vs = #[a, b] := ⟨vs[0], vs[1], by apply Array.ext (by simpa using h); intro i h1 h2; simp at h2; match i with | 0 => rfl | 1 => rfl⟩
theorem gives_tree {r av : AV} {st : ASt} (h : r.ren [] = av) : aGives ⟨r, [], 0⟩ st av := ⟨[], List.nodup_nil, h, trivial⟩
theorem pairs_plain {l : List (Bool × Int)} : ∀ row ∈ l.map eBI, ∀ av ∈ row, av.plain := fun row hr av ha => by
  obtain ⟨n, _, rfl⟩ := List.mem_map.1 hr
  simp at ha
  rcases ha with rfl | rfl <;> trivial
theorem sentryTy : (Tryz.prog.fieldsOf 97).toList.map (fun f => (f.name, f.type, f.offset)) = [("Mile", 4, 0), ("N", 3, 1)] := by kernel_rfl
theorem sentryBin (op : BinOp) (hop : op = .eql ∨ op = .neq) (a b : Bool × Int) : BinRun Tryz.prog op 97 (.agg #[.bool a.1, .int .i64 a.2]) (.agg #[.bool b.1, .int .i64 b.2]) (.bool (if op matches .eql then (a.1 == b.1 && a.2 == b.2) else !(a.1 == b.1 && a.2 == b.2))) := by
  have ht := sentryTy
  obtain ⟨f, g, hfs⟩ : ∃ f g, (Tryz.prog.fieldsOf 97).toList = [f, g] := by
    generalize (Tryz.prog.fieldsOf 97).toList = l at ht ⊢
    cases l with
    | nil => simp at ht
    | cons f l => cases l with
      | nil => simp at ht
      | cons g l => cases l with
        | nil => exact ⟨f, g, rfl⟩
        | cons h l => simp at ht
  rw [hfs] at ht
  simp only [List.map_cons, List.map_nil, List.cons.injEq, Prod.mk.injEq, and_true] at ht
  obtain ⟨⟨h1, h2, h3⟩, h4, h5, h6⟩ := ht
  refine structRun [(.bool a.1, .bool b.1), (.int .i64 a.2, .int .i64 b.2)] (by kernel_rfl) (by kernel_rfl) (by kernel_rfl) (by rw [hfs]; rfl) (fun k f' p hk hp => ?_) (by simp [cellsEq, cellEq]) hop
  rw [hfs] at hk
  match k, hk, hp with
  | 0, hk, hp =>
    cases hk
    cases hp
    refine ⟨by rw [h1]; decide, ?_, by rw [h3]; rfl, by rw [h3]; rfl⟩
    rw [h2]
    kernel_rfl
  | 1, hk, hp =>
    cases hk
    cases hp
    refine ⟨by rw [h4]; decide, ?_, by rw [h6]; rfl, by rw [h6]; rfl⟩
    rw [h5]
    kernel_rfl
  | k + 2, hk, hp => simp at hk
end
section
open Go.RowKit

theorem up_rest (l : List Int) (i : Int) (k d : Nat) (x : Int) (h : upN l i k = norm l x) (hx : ¬ isAt l x) : upN l i (k + d) = -1 :=
  upN_none l i k (by rw [h]; exact ((norm_cases l x).resolve_left fun hh => hx hh.1).2) d

set_option maxHeartbeats 1000000 in
theorem up_any (l : List Int) (v : Value) (i n : Int) (w : World) (hl : l.length ≤ 1073741824) (hn0 : 0 ≤ n) (hn : n ≤ 4294967296) (hv : RI w v l) :
    Calls Tryz.prog 66 #[v, .int .i64 i, .int .i64 n] w fun e w' => e = .returned (.int .i64 (upN l i n.toNat)) ∧ w = w' := by
  obtain ⟨A, c, rfl, hc⟩ := hv.form
  obtain ⟨N, rfl⟩ := Int.eq_ofNat_of_zero_le hn0
  rw [Int.toNat_natCast]
  go_enter Tryz.func66, Tryz.ntmps66
  go_wp2_with fail
  go_loop [1, 7] (fun x j => ∃ (k : Nat) (y : Int), k ≤ N ∧ j = .int .i64 (k : Int) ∧ x = .int .i64 y ∧ upN l i k = norm l y) (fun x j => N - (intOf j).toNat)
  case atStart => exact ⟨0, i, Nat.zero_le _, rfl, rfl, rfl⟩
  case round =>
    obtain ⟨k, y, hk, rfl, rfl, hup⟩ := hrel
    by_cases hlt : k < N
    · by_cases hy : isAt l y
      · obtain ⟨hy1, hy2⟩ := hy
        obtain ⟨z, rfl⟩ := Int.eq_ofNat_of_zero_le hy1
        obtain ⟨b, o, rfl, hcell, hb1, hb2⟩ := hv.at_ (show z < l.length by omega)
        have e : upN l i (k + 1) = norm l (l.getD z 0) := by
          show par l (upN l i k) = _
          rw [hup, par_norm]
          unfold par
          rw [if_pos ⟨hy1, hy2⟩]; simp
        have E := hide e
        clear hup e
        generalize l.getD z 0 = y' at *
        go_wp2_with fail
        go_round
        case rel => exact ⟨k + 1, y', by omega, by go_num, rfl, E.out⟩
        case measure => simp [intOf]; omega
      · have e := up_rest l i k (N - k) y hup hy
        rw [show k + (N - k) = N from by omega] at e
        have E := hide e
        clear e hup
        by_cases h0 : 0 ≤ y
        · have h1 : (l.length : Int) ≤ y := by unfold isAt at hy; omega
          clear hy
          go_wp2_with fail
          go_ret
          rw [E.out]; exact ⟨rfl, rfl⟩
        · clear hy
          go_wp2_with fail
          go_ret
          rw [E.out]; exact ⟨rfl, rfl⟩
    · obtain rfl : k = N := by omega
      by_cases hy : isAt l y
      · have e : upN l i k = y := by rw [hup]; exact ((norm_cases l y).resolve_right fun hh => hh.1 hy).2
        have E := hide e
        clear e hup
        obtain ⟨hy1, hy2⟩ := hy
        go_wp2_with fail
        go_ret
        rw [E.out]; exact ⟨rfl, rfl⟩
      · have e : upN l i k = -1 := by rw [hup]; exact ((norm_cases l y).resolve_left fun hh => hy hh.1).2
        have E := hide e
        clear e hup
        by_cases h0 : 0 ≤ y
        · have h1 : (l.length : Int) ≤ y := by unfold isAt at hy; omega
          clear hy
          go_wp2_with fail
          go_ret
          rw [E.out]; exact ⟨rfl, rfl⟩
        · clear hy
          go_wp2_with fail
          go_ret
          rw [E.out]; exact ⟨rfl, rfl⟩

noncomputable instance (l : List Int) (a i : Int) : Decidable (isL l a i) := Classical.propDecidable _
set_option maxHeartbeats 1000000 in
theorem is_any (l : List Int) (v : Value) (a i : Int) (w : World) (hl : l.length ≤ 1073741824) (hv : RI w v l) :
    Calls Tryz.prog 38 #[v, .int .i64 a, .int .i64 i] w fun e w' => e = .returned (.bool (decide (isL l a i))) ∧ w = w' := by
  obtain ⟨A, c, rfl, hc⟩ := hv.form
  go_enter Tryz.func38, Tryz.ntmps38
  go_wp2_with fail
  go_loop [7] (fun j => ∃ k : Nat, 1 ≤ k ∧ k ≤ l.length + 1 ∧ j = .int .i64 (k : Int) ∧ ∀ m, 1 ≤ m → m < k → ¬ (0 ≤ a ∧ upN l i m = a)) (fun j => l.length + 1 - (intOf j).toNat)
  case atStart => exact ⟨1, Nat.le_refl _, by omega, rfl, fun m h1 h2 => by omega⟩
  case round =>
    obtain ⟨k, hk1, hk, rfl, hno⟩ := hrel
    have Hno := hide hno
    clear hno
    by_cases hlt : k ≤ l.length
    · have hup := up_any l _ i (k : Int) w hl (by omega) (by omega) hv
      rw [Int.toNat_natCast] at hup
      have hyes : 0 ≤ a → upN l i k = a → decide (isL l a i) = true := fun h1 h2 => decide_eq_true ⟨k, hk1, hlt, h1, h2⟩
      have hnext : ¬ (0 ≤ a ∧ upN l i k = a) → ∀ m, 1 ≤ m → m < k + 1 → ¬ (0 ≤ a ∧ upN l i m = a) := fun h m h1 h2 => by
        by_cases e : m = k
        · subst e; exact h
        · exact Hno.out m h1 (by omega)
      have Hup := hide hup
      have Hyes := hide hyes
      have Hnext := hide hnext
      clear hup hyes hnext Hno
      generalize upN l i k = y at *
      by_cases h0 : 0 ≤ a
      · by_cases h1 : y = a
        · have h2 : (y == a) = true := by simpa using h1
          have E := hide (Hyes.out h0 h1)
          clear h1
          go_wp2_with (go_at_call 66; refine Hup.out.mono ?_; rintro e w' ⟨rfl, rfl⟩)
          go_ret
          rw [E.out]; exact ⟨rfl, rfl⟩
        · have h2 : (y == a) = false := by simpa using h1
          have E := hide (Hnext.out (fun hh => h1 hh.2))
          clear h1
          go_wp2_with (go_at_call 66; refine Hup.out.mono ?_; rintro e w' ⟨rfl, rfl⟩)
          go_round
          case rel => exact ⟨k + 1, by omega, by omega, by go_num, E.out⟩
          case measure => simp [intOf]; omega
      · have E := hide (Hnext.out (fun hh => h0 hh.1))
        go_wp2_with fail
        go_round
        case rel => exact ⟨k + 1, by omega, by omega, by go_num, E.out⟩
        case measure => simp [intOf]; omega
    · have e : decide (isL l a i) = false := by
        refine decide_eq_false fun ⟨m, h1, h2, h3, h4⟩ => Hno.out m h1 (by omega) ⟨h3, h4⟩
      have E := hide e
      clear e
      go_wp2_with fail
      go_ret
      rw [E.out]; exact ⟨rfl, rfl⟩
end
section
open Go.RowKit

def fl (p : Nat → Bool) (k : Nat) : List Int := ((List.range k).filter p).map fun (n : Nat) => (n : Int)
end
section
open Go.RowKit

theorem circle_yes (l : List Int) (k : Nat) (hk : k < l.length) (hno : ∀ j, j < k → ¬ circ l (j : Int)) (hy : circ l (k : Int)) : circleL l = (k : Int) := by
  unfold circleL
  have : (List.range l.length).find? (fun (i : Nat) => decide (circ l (i : Int))) = some k := by
    rw [List.find?_range_eq_some]
    exact ⟨by simpa using hy, by simpa using hk, fun j hj => by simpa using hno j hj⟩
  rw [this]; rfl
theorem circle_no (l : List Int) (hno : ∀ j, j < l.length → ¬ circ l (j : Int)) : circleL l = -1 := by
  unfold circleL
  have : (List.range l.length).find? (fun (i : Nat) => decide (circ l (i : Int))) = none := by
    rw [List.find?_eq_none]
    intro j hj
    simpa using hno j (by simpa using hj)
  rw [this]; rfl

set_option maxHeartbeats 1000000 in
theorem refCircle_any (l : List Int) (v : Value) (w : World) (hl : l.length ≤ 1073741824) (hv : RI w v l) :
    Calls Tryz.prog 17 #[v] w fun e w' => e = .returned (.int .i64 (circleL l)) ∧ Below w.heap.size w w' := by
  obtain ⟨A, c, rfl, hc⟩ := hv.form
  go_enter Tryz.func17, Tryz.ntmps17
  go_wp2_with fail
  go_loop [3] (fun j => ∃ k : Nat, k ≤ l.length ∧ j = .int .i64 (k : Int) ∧ ∀ m, m < k → ¬ circ l (m : Int)) (fun j => l.length - (intOf j).toNat)
  case atStart => exact ⟨0, Nat.zero_le _, rfl, fun m hm => by omega⟩
  case round =>
    obtain ⟨k, hk, rfl, hno⟩ := hrel
    have Hno := hide hno
    clear hno
    by_cases hlt : k < l.length
    · have ha := is_any l _ (k : Int) (k : Int) w hl hv
      have hci := circ_iff l (k : Int) ⟨by omega, by omega⟩
      have e : decide (isL l (k : Int) (k : Int)) = decide (circ l (k : Int)) := by
        refine decide_eq_decide.2 ⟨fun ⟨j, h1, h2, _, h3⟩ => hci.2 ⟨j, h1, h2, h3⟩, fun h => ?_⟩
        obtain ⟨j, h1, h2, h3⟩ := hci.1 h
        exact ⟨j, h1, h2, by omega, h3⟩
      rw [e] at ha
      by_cases hy : circ l (k : Int)
      · rw [decide_eq_true hy] at ha
        have Ha := hide ha
        have E := hide (circle_yes l k hlt Hno.out hy)
        clear ha e hci hy
        go_wp2_with (go_at_call 38; refine Ha.out.mono ?_; rintro e w2 ⟨rfl, rfl⟩)
        go_ret
        rw [E.out]
        exact ⟨rfl, Below.refl _ _⟩
      · rw [decide_eq_false hy] at ha
        have Ha := hide ha
        have Hy := hide hy
        clear ha e hci hy
        go_wp2_with (go_at_call 38; refine Ha.out.mono ?_; rintro e w2 ⟨rfl, rfl⟩)
        go_round
        case rel =>
          refine ⟨k + 1, by omega, by go_num, fun m hm => ?_⟩
          by_cases e : m = k
          · subst e; exact Hy.out
          · exact Hno.out m (by omega)
        case measure => simp [intOf]; omega
    · obtain rfl : k = l.length := by omega
      have E := hide (circle_no l Hno.out)
      go_wp2_with fail
      go_ret
      rw [E.out]
      exact ⟨rfl, Below.refl _ _⟩
end
section
open Go.RowKit
def lostP : List PanicEntry := [{ v := .iface 200 (.agg #[]), recovered := false }]
end
section
open Go.RowKit
def bv (b : Bool) : Value := .iface 4 (.bool b)
def AskAt (w : World) (a H : Nat) (vv : Value) (o d : Int) (dv cv f : Value) (L : List Bool) : Prop :=
  ∃ rv, Blk w a 197 #[vv, .int .i64 o, .int .i64 d, dv, cv, f, rv] ∧ w.ownsRow (a + 1) 20 1 rv L.length (L.map bv) ∧ a < H ∧ (∀ g, rv.ownBlock = some g → g < H)
theorem AskAt.below {w w' : World} {a H : Nat} {vv : Value} {o d : Int} {dv cv f : Value} {L : List Bool} (h : AskAt w a H vv o d dv cv f L) (hb : Below H w w') : AskAt w' a H vv o d dv cv f L := by
  obtain ⟨rv, h1, h2, h3, h4⟩ := h
  exact ⟨rv, h1.below hb h3, own_below h2 hb h4, h3, h4⟩
theorem AskAt.cells {w : World} {a H : Nat} {vv : Value} {o d : Int} {dv cv f : Value} {L : List Bool} (h : AskAt w a H vv o d dv cv f L) :
    w.cell? ⟨a, 0, none⟩ = some vv ∧ w.cell? ⟨a, 1, none⟩ = some (.int .i64 o) ∧ w.cell? ⟨a, 2, none⟩ = some (.int .i64 d) ∧ w.cell? ⟨a, 5, none⟩ = some f := by
  obtain ⟨rv, h1, _⟩ := h
  have c0 := h1.cell 0
  have c1 := h1.cell 1
  have c2 := h1.cell 2
  have c5 := h1.cell 5
  simp at c0 c1 c2 c5
  exact ⟨c0, c1, c2, c5⟩
def Past (H : Nat) (w w' : World) : Prop := ∀ g, H ≤ g → g < w.heap.size → w'.heap[g]? = w.heap[g]?
theorem Past.cell {H : Nat} {w w' : World} (h : Past H w w') {g i : Nat} (h1 : H ≤ g) (h2 : g < w.heap.size) : w'.cell? ⟨g, i, none⟩ = w.cell? ⟨g, i, none⟩ := World.cell?_of_block (h g h1 h2)
end
section
open Go.RowKit

def LessOK (k : Nat) (caps : Array Value) (cm : Inst → Option Int) (x : Inst) (w0 : World) : Prop := ∀ w', Below w0.heap.size w0 w' →
  match cm x with
  | some c => Calls Tryz.prog k (#[.agg #[.int .i64 x.la, .int .i64 x.ln], .agg #[.int .i64 x.ra, .int .i64 x.rn]] ++ caps) w' fun e w'' => e = .returned (.int .i64 c) ∧ Below w'.heap.size w' w''
  | none => Calls Tryz.prog k (#[.agg #[.int .i64 x.la, .int .i64 x.ln], .agg #[.int .i64 x.ra, .int .i64 x.rn]] ++ caps) w' fun e w'' => e = .panicked lostP ∧ Below w'.heap.size w' w''
theorem LessOK.some_ {k : Nat} {caps : Array Value} {cm : Inst → Option Int} {x : Inst} {w0 w : World} (h : LessOK k caps cm x w0) (hb : Below w0.heap.size w0 w) {c : Int} (hc : cm x = some c) :
    Hid (∀ w', Below w.heap.size w w' → Calls Tryz.prog k (#[.agg #[.int .i64 x.la, .int .i64 x.ln], .agg #[.int .i64 x.ra, .int .i64 x.rn]] ++ caps) w' fun e w'' => e = .returned (.int .i64 c) ∧ Below w'.heap.size w' w'') := by
  refine hide fun w' hw => ?_
  have := h w' (hb.trans (hw.mono hb.size))
  rw [hc] at this
  exact this
end
section
open Go.RowKit

def W0 (w : World) (vv : Value) (o d : Int) (dv cv : Value) : World := ((w.alloc (.cells #[vv, .int .i64 o, .int .i64 d, dv, cv] 43)).alloc (.cells #[.bool false] 4)).alloc (.cells #[.int .i64 0] 57)
theorem AskAt.up {w : World} {a H H' : Nat} {vv : Value} {o d : Int} {dv cv f : Value} {L : List Bool} (h : AskAt w a H vv o d dv cv f L) (hh : H ≤ H') : AskAt w a H' vv o d dv cv f L := by
  obtain ⟨rv, h1, h2, h3, h4⟩ := h
  exact ⟨rv, h1, h2, by omega, fun g hg => by have := h4 g hg; omega⟩
end
section
open Go.RowKit

theorem has_A (s i : Int) : ADet Tryz.prog 81 [eI s, eI i] (val (.bool (hasB s i))) :=
  adet_of_calls (enters_of Tryz.func81 rfl (by decide)) fun S w vs hS hn hv => by
    obtain ⟨a, b, rfl⟩ := two_args hn
    obtain rfl := rtc (hv 0 a _ rfl rfl)
    obtain rfl := rtc (hv 1 b _ rfl rfl)
    exact (has_any s i w).mono fun e w' ⟨h1, h2⟩ => ⟨h1, h2 ▸ Below.refl _ _⟩
theorem with_A (s i : Int) : ADet Tryz.prog 103 [eI s, eI i] (val (.int .i64 (withB s i))) :=
  adet_of_calls (enters_of Tryz.func103 rfl (by decide)) fun S w vs hS hn hv => by
    obtain ⟨a, b, rfl⟩ := two_args hn
    obtain rfl := rtc (hv 0 a _ rfl rfl)
    obtain rfl := rtc (hv 1 b _ rfl rfl)
    exact (with_any s i w).mono fun e w' ⟨h1, h2⟩ => ⟨h1, h2 ▸ Below.refl _ _⟩
theorem circle_A (l : List Int) (hl : l.length ≤ 1073741824) (ho : ∀ x ∈ l, ok64 x) : ADet Tryz.prog 17 [sI l] (val (.int .i64 (circleL l))) :=
  adet_of_calls (enters_of Tryz.func17 rfl (by decide)) fun S w vs hS hn hv => by
    obtain ⟨a, rfl⟩ : ∃ a, vs = #[a] := ⟨vs[0]'(by simp at hn; omega), by apply Array.ext (by simpa using hn); intro i h1 h2; simp at h2; subst h2; rfl⟩
    exact refCircle_any l a w hl (rt_ints (hv 0 a _ rfl rfl) hS ho)
def sentryM (m : Mod) (x : Bool × Int) : Option (Int × Int × List Inst × Int) :=
  if x.1 = true then (if 0 ≤ x.2 then (m.miles[x.2.toNat]?).map fun K => (K.stage, K.event, K.cond, x.2) else none)
  else (if 0 ≤ x.2 then (m.guards[x.2.toNat]?).map fun g => (g.stage, g.event, g.cond, -1) else none)
def aboveM (m : Mod) (opn st : Int) : Bool :=
  ((m.stages.getD st.toNat (⟨#[]⟩, 0)).2 == -1) || (decide ((m.stages.getD st.toNat (⟨#[]⟩, 0)).2 < m.stages.length) && hasB opn (m.stages.getD st.toNat (⟨#[]⟩, 0)).2)
end
end Go.Proofs.YtbahakgmbceflaaGreat
