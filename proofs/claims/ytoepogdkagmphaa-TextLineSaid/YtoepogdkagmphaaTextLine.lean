/-
  The walk of text.Line and of the document's Line. Condition: the library variable MaxLen holds some number.
-/
import Derived.Test.YtoepogdkagmphaaTextLn
import Derived.Test.YtoepogdkagmphaaCutShelf
import Derived.Test.YtoepogdkagmphaaTextLaws
set_option linter.unusedVariables false
set_option linter.unusedSimpArgs false
namespace Go.Proofs.Ytoepogdkagmphaa
open Go.RowKit

theorem cut_hit (a r : List UInt8) (m : Int) (w : World) (ha : ∀ x ∈ a, x ≠ 10) (hs : a.length + r.length < 100000) (hm : w.cell? ⟨0, 0, none⟩ = some (.int .i64 m)) :
    Calls Try.prog 24 #[.string (strOf (a ++ 10 :: r)), .string ⟨#[10]⟩] w fun e w' => e = .returned (.tuple #[.string (strOf a), .string (strOf r), .bool true]) ∧ ∃ n, w' = w.drewN n := by
  have h := Try.strings_Cut (strOf (a ++ 10 :: r)) ⟨#[10]⟩ m w (by rw [strOf_size]; simp; omega) hm
  refine h.mono fun e w' ⟨he, hw⟩ => ⟨?_, hw⟩
  rw [he, strOf_list]
  rcases cut_ten (a ++ 10 :: r) with ⟨a', r', h1, h2, h3⟩ | ⟨h1, _⟩
  · have h4 : a ++ 10 :: r = a' ++ 10 :: r' := h1
    have h5 : a = a' ∧ r = r' := by
      have := splitL_hit a r ha
      rw [h1, splitL_hit a' r' h2] at this
      have e1 : a = a' := ((List.cons.inj this).1).symm
      subst e1
      exact ⟨rfl, (List.cons.inj (List.append_cancel_left h1)).2⟩
    obtain ⟨rfl, rfl⟩ := h5
    change Ending.returned (.tuple #[.string ⟨(Lib.cut _ [10]).1.toArray⟩, .string ⟨(Lib.cut _ [10]).2.1.toArray⟩, .bool (Lib.cut _ [10]).2.2]) = _
    rw [h3]
    rfl
  · exact absurd rfl (h1 10 (by simp))
theorem cut_miss (a : List UInt8) (m : Int) (w : World) (ha : ∀ x ∈ a, x ≠ 10) (hs : a.length < 100000) (hm : w.cell? ⟨0, 0, none⟩ = some (.int .i64 m)) :
    Calls Try.prog 24 #[.string (strOf a), .string ⟨#[10]⟩] w fun e w' => e = .returned (.tuple #[.string (strOf a), .string (strOf []), .bool false]) ∧ ∃ n, w' = w.drewN n := by
  have h := Try.strings_Cut (strOf a) ⟨#[10]⟩ m w (by rw [strOf_size]; omega) hm
  refine h.mono fun e w' ⟨he, hw⟩ => ⟨?_, hw⟩
  rw [he, strOf_list]
  rcases cut_ten a with ⟨a', r', h1, h2, h3⟩ | ⟨h1, h3⟩
  · exact absurd rfl (ha 10 (by rw [h1]; simp))
  · change Ending.returned (.tuple #[.string ⟨(Lib.cut _ [10]).1.toArray⟩, .string ⟨(Lib.cut _ [10]).2.1.toArray⟩, .bool (Lib.cut _ [10]).2.2]) = _
    rw [h3]
    rfl

theorem ten_or (l : List UInt8) : (∃ a r, l = a ++ 10 :: r ∧ (∀ x ∈ a, x ≠ 10)) ∨ (∀ x ∈ l, x ≠ 10) := by
  rcases cut_ten l with ⟨a, r, h1, h2, _⟩ | ⟨h, _⟩
  · exact .inl ⟨a, r, h1, h2⟩
  · exact .inr h
def bstr : Value → ByteArray
  | .string s => s
  | _ => ⟨#[]⟩

set_option maxHeartbeats 1000000 in
theorem textLine_any (l : List UInt8) (n : Int) (m : Int) (w : World) (hs : l.length ≤ 50000) (hm : w.cell? ⟨0, 0, none⟩ = some (.int .i64 m)) :
    Calls Try.prog 18 #[.string (strOf l), .int .i64 n] w fun e w' => e = .returned (.string (strOf (lineD l n))) ∧ ∃ k, w' = w.drewN k := by
  have Hs := hide hs
  clear hs
  go_enter Try.func18, Try.ntmps18
  go_wp2_with fail
  go_loopw [0, 5] (fun v i wr => ∃ (r : List UInt8) (k : Nat), v = .string (strOf r) ∧ i = .int .i64 (k : Int) ∧ 1 ≤ k ∧ k + r.length ≤ l.length + 1 ∧ pick (splitL r) (n - (k : Int)) = lineD l n ∧ ∃ q, wr = w.drewN q)
    (fun v i wr => (bstr v).size)
  case atStart => exact ⟨l, 1, rfl, rfl, Nat.le_refl _, by omega, rfl, 0, rfl⟩
  case round =>
    obtain ⟨r, k, rfl, rfl, hk1, hk2, hp, q, rfl⟩ := hrel
    have hs := Hs.out
    have hmq : (w.drewN q).cell? ⟨0, 0, none⟩ = some (.int .i64 m) := by simpa using hm
    have hkb : (k : Int) ≤ 60000 := by omega
    rcases ten_or r with ⟨a, r', rfl, ha⟩ | ha
    · rw [splitL_hit a r' ha, pick_cons] at hp
      have hlen : a.length + r'.length < 100000 := by simp at hk2; omega
      have hk3 : k + 1 + r'.length ≤ l.length + 1 := by simp at hk2; omega
      have Hc := hide (cut_hit a r' m (w.drewN q) ha hlen hmq)
      clear ha hlen hk2 hm hs
      cases hkn : ((k : Int) == n) with
      | true =>
        have e : lineD l n = a := by rw [← hp, if_pos (by simp at hkn; omega)]
        have He := hide e
        clear hp e
        go_wp2_with (go_at_call 24; refine Hc.out.mono ?_; rintro e w' ⟨rfl, q2, rfl⟩)
        go_ret
        exact ⟨by rw [He.out]; rfl, q + q2, by simp⟩
      | false =>
        have e : pick (splitL r') (n - ((k + 1 : Nat) : Int)) = lineD l n := by rw [← hp, if_neg (by simp at hkn; omega)]; congr 1; omega
        have He := hide e
        clear hp e
        go_wp2_with (go_at_call 24; refine Hc.out.mono ?_; rintro e w' ⟨rfl, q2, rfl⟩)
        go_roundw
        case rel => exact ⟨r', k + 1, rfl, by go_num, by omega, by omega, He.out, q + q2, by simp⟩
        case measure => simp [bstr, strOf_size]; omega
    · rw [splitL_miss r ha, pick_cons, pick_nil] at hp
      have hlen : r.length < 100000 := by omega
      have Hc := hide (cut_miss r m (w.drewN q) ha hlen hmq)
      clear ha hlen hk2 hm hs
      cases hkn : ((k : Int) == n) with
      | true =>
        have e : lineD l n = r := by rw [← hp, if_pos (by simp at hkn; omega)]
        have He := hide e
        clear hp e
        go_wp2_with (go_at_call 24; refine Hc.out.mono ?_; rintro e w' ⟨rfl, q2, rfl⟩)
        go_ret
        exact ⟨by rw [He.out]; rfl, q + q2, by simp⟩
      | false =>
        have e : lineD l n = [] := by rw [← hp, if_neg (by simp at hkn; omega)]
        have He := hide e
        clear hp e
        go_wp2_with (go_at_call 24; refine Hc.out.mono ?_; rintro e w' ⟨rfl, q2, rfl⟩)
        go_ret
        exact ⟨by rw [He.out]; rfl, q + q2, by simp⟩

theorem drop_cons (s : ByteArray) (i : Nat) (h : i < s.size) : s.data.toList.drop i = s[i] :: s.data.toList.drop (i + 1) := by
  have h' : i < s.data.toList.length := by rw [← Lib.size_eq]; exact h
  rw [List.drop_eq_getElem_cons h']
  rfl
theorem drop_part (l : List UInt8) (f i : Nat) (hf : f ≤ i) : l.drop f = (l.drop f).take (i - f) ++ l.drop i := by
  have := (List.take_append_drop (i - f) (l.drop f)).symm
  rw [List.drop_drop, show f + (i - f) = i by omega] at this
  exact this
theorem take_more (s : ByteArray) (f i : Nat) (hf : f ≤ i) (h : i < s.size) : (s.data.toList.drop f).take (i + 1 - f) = (s.data.toList.drop f).take (i - f) ++ [s[i]] := by
  have h' : i < s.data.toList.length := by rw [← Lib.size_eq]; exact h
  rw [show i + 1 - f = (i - f) + 1 by omega, List.take_succ_eq_append_getElem (by rw [List.length_drop]; omega)]
  congr 2
  rw [List.getElem_drop]
  show s.data.toList[f + (i - f)] = s.data.toList[i]
  congr 1
  omega

set_option maxHeartbeats 1000000 in
theorem refLine_any (s : ByteArray) (n : Int) (w : World) (hs : s.size ≤ 50000) :
    Calls Try.prog 19 #[.string s, .int .i64 n] w fun e w' => e = .returned (.string (strOf (lineD s.data.toList n))) ∧ ∃ k, w' = w.drewN k := by
  have Hs := hide hs
  obtain ⟨R, hR⟩ : ∃ R, R = lineD s.data.toList n := ⟨_, rfl⟩
  have HR := hide hR
  clear hR
  rw [← HR.out]
  go_enter Try.func19, Try.ntmps19
  go_wp2_with fail
  go_loopw [5, 6, 7] (fun fv kv iv wr => ∃ (f k i : Nat), fv = .int .i64 (f : Int) ∧ kv = .int .i64 (k : Int) ∧ iv = .int .i64 (i : Int) ∧ f ≤ i ∧ i ≤ s.size ∧ 1 ≤ k ∧ k ≤ i + 1 ∧ (∀ x ∈ (s.data.toList.drop f).take (i - f), x ≠ 10) ∧ pick (splitL (s.data.toList.drop f)) (n - (k : Int)) = R ∧ ∃ q, wr = w.drewN q)
    (fun fv kv iv wr => s.size - (intOf iv).toNat)
  case atStart => exact ⟨0, 1, 0, rfl, rfl, rfl, Nat.le_refl _, Nat.zero_le _, Nat.le_refl _, by omega, fun x hx => by simp at hx, by rw [HR.out]; rfl, 0, rfl⟩
  case round =>
    obtain ⟨f, k, i, rfl, rfl, rfl, hfi, hi, hk1, hk2, hno, hp, q, rfl⟩ := hrel
    have Hno := hide hno
    have Hp := hide hp
    clear hno hp
    by_cases hlt : i < s.size
    · cases hb : ((s[i].toNat : Int) != 10) with
      | true =>
        have hne : s[i] ≠ 10 := by intro e; rw [e] at hb; simp at hb
        have Hne := hide hne
        clear hne
        go_wp2
        go_roundw
        case rel =>
          refine ⟨f, k, i + 1, rfl, rfl, by go_num, by omega, by omega, hk1, by omega, ?_, Hp.out, q, rfl⟩
          intro x hx
          rw [take_more s f i hfi hlt] at hx
          rcases List.mem_append.1 hx with hx | hx
          · exact Hno.out x hx
          · simp at hx; rw [hx]; exact Hne.out
        case measure => simp [intOf]; omega
      | false =>
        have h10 : s[i] = 10 := by
          have : (s[i].toNat : Int) = 10 := by simpa using hb
          apply UInt8.toNat_inj.1; simp; omega
        have e0 := drop_part s.data.toList f i hfi
        rw [drop_cons s i hlt, h10] at e0
        have Hp2 := Hp.out
        rw [e0, splitL_hit _ _ Hno.out, pick_cons] at Hp2
        have HP2 := hide Hp2
        clear Hp2 e0 h10
        cases hkn : ((k : Int) == n) with
        | true =>
          have e : R = (s.data.toList.drop f).take (i - f) := by rw [← HP2.out, if_pos (by simp at hkn; omega)]
          have He := hide e
          clear e
          go_wp2
          go_ret
          exact ⟨by rw [He.out, strOf, ← Lib.extract_eq]; rfl, q, rfl⟩
        | false =>
          have e : pick (splitL (s.data.toList.drop (i + 1))) (n - ((k + 1 : Nat) : Int)) = R := by rw [← HP2.out, if_neg (by simp at hkn; omega)]; congr 1; omega
          have He := hide e
          clear e
          go_wp2
          go_roundw
          case rel => exact ⟨i + 1, k + 1, i + 1, by go_num, by go_num, by go_num, Nat.le_refl _, by omega, by omega, by omega, fun x hx => by simp at hx, He.out, q, rfl⟩
          case measure => simp [intOf]; omega
    · obtain rfl : i = s.size := by omega
      have Hp2 := Hp.out
      have e1 : (s.data.toList.drop f).take (s.size - f) = s.data.toList.drop f := List.take_of_length_le (by rw [List.length_drop, ← Lib.size_eq]; omega)
      have Hno2 := Hno.out
      rw [e1] at Hno2
      rw [splitL_miss _ Hno2, pick_cons, pick_nil] at Hp2
      have HP2 := hide Hp2
      clear Hp2 e1 Hno2
      cases hkn : ((k : Int) == n) with
      | true =>
        have e : R = s.data.toList.drop f := by rw [← HP2.out, if_pos (by simp at hkn; omega)]
        have He := hide e
        clear e
        go_wp2
        go_ret
        refine ⟨?_, q, rfl⟩
        rw [He.out]
        show Ending.returned (.string (s.extract f s.size)) = _
        rw [Lib.extract_eq, List.take_of_length_le (by rw [List.length_drop, ← Lib.size_eq]; omega)]
        rfl
      | false =>
        have e : R = [] := by rw [← HP2.out, if_neg (by simp at hkn; omega)]
        have He := hide e
        clear e
        go_wp2
        go_ret
        exact ⟨by rw [He.out]; rfl, q, rfl⟩
end Go.Proofs.Ytoepogdkagmphaa
