/-
  Parts of the proof: EvTree, EvTree2, EvAsk, EvAsk2, EvStep, EvStep2, EvSides, EvDoor.
-/
import Derived.Test.YtfeclebkaambhaaZet5
import Derived.Deep.AppendLies
import Derived.Deep.RegionLaw
import Derived.IntWalk
import Derived.Deep.RegionHeld3
import Derived.Deep.RegionHeld2
import Derived.Deep.DrawnRows
import Derived.Defers
import Derived.Recover
set_option linter.unusedVariables false
set_option linter.unusedSimpArgs false
namespace Go.Proofs.Ytfeclebkaambhaa
section
open Go.RowKit

theorem own_take {w : World} {base : Nat} {e : TypeId} {g n c : Nat} {xs : List Value} (h : w.ownsRow base e 1 (.slice (some ⟨g, 0, none⟩) n c) n xs) {k : Nat} (hk : k ≤ n) : w.ownsRow base e 1 (.slice (some ⟨g, 0, none⟩) k c) k (xs.take k) := by
  obtain ⟨hl, h | ⟨g', cap, cur, hv, hb, hg, hn, hm, hs, ht⟩⟩ := h
  · exact absurd h.1 (by simp)
  · simp at hv
    obtain ⟨rfl, rfl⟩ := hv
    refine ⟨by simp at hl ⊢; omega, .inr ⟨g, c, cur, rfl, hb, hg, by omega, hm, hs, ?_⟩⟩
    rw [← ht, List.take_take]
    congr 1
    omega
theorem cellOne_new (w : World) (v : Value) (t : TypeId) : ∀ j u, [v][j]? = some u → (w.alloc (.cells #[v] t)).cell? ((⟨w.heap.size, 0, none⟩ : Addr).add j) = some u := cells_new w [v] t
theorem cellOne_drew (w : World) (v : Value) (t : TypeId) : ∀ j u, [v][j]? = some u → ((w.alloc (.cells #[v] t)).drew).cell? ((⟨w.heap.size, 0, none⟩ : Addr).add j) = some u := cells_new w [v] t
theorem nodeInfo : (Try.prog.info? 125).map (fun i => (i.zero, i.size, i.bytes)) = some (some .nilIface, 1, 16) := by kernel_rfl

theorem oneIface (t : TypeId) (x : Value) : ∀ u ∈ [Value.iface t x], u.oneCell' = true := by intro u hu; simp at hu; subst hu; rfl
def ifc (p : TypeId × Value) : Value := .iface p.1 p.2
def PushPost (base d : Nat) (ok : Bool) (w : World) (B : Nat) (e : Ending) (w' : World) : Prop := ∃ v xs, e = .returned (.tuple #[v, .bool ok]) ∧ w'.ownsRow base 125 1 v d (List.map ifc xs) ∧ Below B w w'

set_option maxRecDepth 100000 in
set_option maxHeartbeats 1000000 in
theorem push0 (op i : Int) (v : Value) (n base B : Nat) (xs : List (TypeId × Value)) (w : World) (ho : arity op = 0) (hown : w.ownsRow base 125 1 v n (xs.map ifc)) (hn : n ≤ 1000) (hB : B ≤ base) (hb : base ≤ w.heap.size) :
    Calls Try.prog 84 #[v, .int .i64 op, .int .i64 i] w (PushPost base (n + 1) true w B) := by
  obtain ⟨i0, hi0, hz0, hz1, hz2⟩ := info_parts nodeInfo
  have Ho := hide ho
  clear ho
  obtain ⟨A, c, rfl, hc⟩ := own_form hown
  go_enter Try.func84, Try.ntmps84
  go_wp2_with (first
    | (go_at_call 91; refine (arity_any _ _).mono ?_; rintro e w' ⟨rfl, rfl⟩; rw [Ho.out])
    | (at_builtin; refine wpList_append_own _ rfl _ _ 139 rfl base 125 i0 .nilIface 1 16 Try.underlying139 hi0 hz0 hz1 hz2 rfl (by decide) _ _ _ rfl (hown.alloc _) ⟨w.heap.size, 0, none⟩ 1 1 [.iface 148 (.agg #[.int .i64 i])] rfl rfl (cellOne_new _ _ _) (oneIface _ _) (by unfold maxLen; omega) (by omega) (by simp; omega) ?_; intro v' w1 hown' hgrow _))
  go_ret2
  exact ⟨v', xs ++ [(148, .agg #[.int .i64 i])], rfl, by rw [List.map_append]; exact hown', ((Below.refl _ _).alloc (by omega) _).grown hgrow (by simp; omega) (fun k hk => by have := (hown.lt k hk).1; omega)⟩

set_option maxRecDepth 100000 in
set_option maxHeartbeats 1000000 in
theorem push1 (op i : Int) (v : Value) (n base B : Nat) (xs : List (TypeId × Value)) (w : World) (ho : arity op = 1) (h1 : 1 ≤ n) (hown : w.ownsRow base 125 1 v n (xs.map ifc)) (hn : n ≤ 1000) (hB : B ≤ base) (hb : base ≤ w.heap.size) :
    Calls Try.prog 84 #[v, .int .i64 op, .int .i64 i] w (PushPost base n true w B) := by
  obtain ⟨i0, hi0, hz0, hz1, hz2⟩ := info_parts nodeInfo
  have Ho := hide ho
  clear ho
  obtain ⟨g, c, rfl, hc, hgb, hgw⟩ := own_some hown (by omega)
  have hlen := hown.1
  rw [List.length_map] at hlen
  obtain ⟨xt, xv, hx⟩ : ∃ xt xv, (xs.map ifc)[n - 1]? = some (.iface xt xv) := ⟨(xs[n - 1]'(by omega)).1, (xs[n - 1]'(by omega)).2, by rw [List.getElem?_map, List.getElem?_eq_getElem (by omega)]; rfl⟩
  have hcell := own_cell hown rfl hx
  have hown2 := own_take hown (k := n - 1) (by omega)
  have Hown := hide hown
  have Hx := hide hx
  have Hlen := hide hlen
  clear hown hx hlen
  go_enter Try.func84, Try.ntmps84
  go_wp2_with (first
    | (go_at_call 91; refine (arity_any _ _).mono ?_; rintro e w' ⟨rfl, rfl⟩; rw [Ho.out])
    | fail)
  have s1 : IntKind.i64.wrap ((n : Int) - 1) = (n : Int) - 1 := IntWalk.i64_in _ (by omega)
  have s2 : 0 ≤ (n : Int) - 1 := by omega
  have s3 : ((n : Int) - 1).toNat = n - 1 := by omega
  have s4 : (n : Int) - 1 ≤ (c : Int) := by omega
  have s5 : (n : Int) - 1 < (n : Int) := by omega
  go_region_law (refine step_append_lies _ rfl (.tmp 33) (.tmp 42) 139 rfl base 125 i0 .nilIface 1 16 Try.underlying139 hi0 hz0 hz1 hz2 rfl (by decide) _ (n - 1) _ rfl (hown2.alloc _).drew ⟨w.heap.size, 0, none⟩ 1 1 [.iface 150 (.agg #[.int .i64 i, .iface xt xv])] rfl rfl (cellOne_drew _ _ _) (oneIface _ _) (by omega) (by unfold maxLen; omega) (by omega) (by simp; omega) _ rfl ?_; intro g2 c2 w2 hown3 hg2 hat hlt)
  have h4 : w2.ownsRow base 125 1 (.slice (some ⟨g2, 0, none⟩) n c2) n (List.map ifc (xs.take (n - 1) ++ [(150, .agg #[.int .i64 i, .iface xt xv])])) := by
    have h := hown3
    rw [List.map_append, List.map_take]
    rw [show n - 1 + 1 = n by omega] at h
    exact h
  have hbl : Below B w w2 := (((Below.refl _ _).alloc (by omega) _).drew).grown hg2 (by simp; omega) (fun k hk => by have := (hown2.lt k hk).1; omega)
  go_wp2_with fail
  go_ret2
  exact ⟨_, _, rfl, h4, hbl⟩

set_option maxRecDepth 100000 in
set_option maxHeartbeats 2000000 in
theorem push2 (op i : Int) (v : Value) (n base B : Nat) (xs : List (TypeId × Value)) (w : World) (ho : arity op = 2) (h1 : 2 ≤ n) (hown : w.ownsRow base 125 1 v n (xs.map ifc)) (hn : n ≤ 1000) (hB : B ≤ base) (hb : base ≤ w.heap.size) :
    Calls Try.prog 84 #[v, .int .i64 op, .int .i64 i] w (PushPost base (n - 1) true w B) := by
  obtain ⟨i0, hi0, hz0, hz1, hz2⟩ := info_parts nodeInfo
  have Ho := hide ho
  clear ho
  obtain ⟨g, c, rfl, hc, hgb, hgw⟩ := own_some hown (by omega)
  have hlen := hown.1
  rw [List.length_map] at hlen
  obtain ⟨xt, xv, hx⟩ : ∃ xt xv, (xs.map ifc)[n - 1]? = some (.iface xt xv) := ⟨(xs[n - 1]'(by omega)).1, (xs[n - 1]'(by omega)).2, by rw [List.getElem?_map, List.getElem?_eq_getElem (by omega)]; rfl⟩
  obtain ⟨yt, yv, hy⟩ : ∃ xt xv, (xs.map ifc)[n - 2]? = some (.iface xt xv) := ⟨(xs[n - 2]'(by omega)).1, (xs[n - 2]'(by omega)).2, by rw [List.getElem?_map, List.getElem?_eq_getElem (by omega)]; rfl⟩
  have hcell := own_cell hown rfl hx
  have hcelly := own_cell hown rfl hy
  have hown2 := own_take hown (k := n - 2) (by omega)
  have Hown := hide hown
  have Hx := hide hx
  have Hy := hide hy
  have Hlen := hide hlen
  clear hown hx hlen hy
  go_enter Try.func84, Try.ntmps84
  go_wp2_with (first
    | (go_at_call 91; refine (arity_any _ _).mono ?_; rintro e w' ⟨rfl, rfl⟩; rw [Ho.out])
    | fail)
  have s1 : IntKind.i64.wrap ((n : Int) - 1) = (n : Int) - 1 := IntWalk.i64_in _ (by omega)
  have s2 : 0 ≤ (n : Int) - 1 := by omega
  have s3 : ((n : Int) - 1).toNat = n - 1 := by omega
  have s5 : (n : Int) - 1 < (n : Int) := by omega
  have s6 : IntKind.i64.wrap ((n : Int) - 2) = (n : Int) - 2 := IntWalk.i64_in _ (by omega)
  have s7 : 0 ≤ (n : Int) - 2 := by omega
  have s8 : ((n : Int) - 2).toNat = n - 2 := by omega
  have s9 : (n : Int) - 2 ≤ (c : Int) := by omega
  have s10 : (n : Int) - 2 < (n : Int) := by omega
  have s11 : (1 : Int) ≤ (n : Int) := by omega
  have s12 : (2 : Int) ≤ (n : Int) := by omega
  go_region_law (refine step_append_lies _ rfl (.tmp 54) (.tmp 68) 139 rfl base 125 i0 .nilIface 1 16 Try.underlying139 hi0 hz0 hz1 hz2 rfl (by decide) _ (n - 2) _ rfl (hown2.alloc _).drew ⟨w.heap.size, 0, none⟩ 1 1 [.iface 152 (.agg #[.int .i64 i, .iface yt yv, .iface xt xv])] rfl rfl (cellOne_drew _ _ _) (oneIface _ _) (by omega) (by unfold maxLen; omega) (by omega) (by simp; omega) _ rfl ?_; intro g2 c2 w2 hown3 hg2 hat hlt)
  all_goals
    have h4 : w2.ownsRow base 125 1 (.slice (some ⟨g2, 0, none⟩) (n - 2 + 1) c2) (n - 1) (List.map ifc (xs.take (n - 2) ++ [(152, .agg #[.int .i64 i, .iface yt yv, .iface xt xv])])) := by
      have h := hown3
      rw [List.map_append, List.map_take]
      rw [show n - 2 + 1 = n - 1 by omega] at h ⊢
      exact h
    have hbl : Below B w w2 := (((Below.refl _ _).alloc (by omega) _).drew).grown hg2 (by simp; omega) (fun k hk => by have := (hown2.lt k hk).1; omega)
    go_wp2_with fail
    go_ret2
    exact ⟨_, _, rfl, h4, hbl⟩

set_option maxRecDepth 100000 in
set_option maxHeartbeats 1000000 in
theorem pushNo (op i : Int) (v : Value) (n base B : Nat) (xs : List (TypeId × Value)) (w : World) (ho : pushN n op = none) (hown : w.ownsRow base 125 1 v n (xs.map ifc)) (hn : n ≤ 1000) (hB : B ≤ base) (hb : base ≤ w.heap.size) :
    Calls Try.prog 84 #[v, .int .i64 op, .int .i64 i] w fun e w' => e = .returned (.tuple #[v, .bool false]) ∧ w = w' := by
  obtain ⟨A, c, rfl, hc⟩ := own_form hown
  have Hown := hide hown
  clear hown
  have key : (arity op = 1 ∧ n = 0) ∨ (arity op = 2 ∧ n = 0) ∨ (arity op = 2 ∧ n = 1) ∨ arity op = -1 := by
    unfold pushN at ho
    have : arity op = 0 ∨ arity op = 1 ∨ arity op = 2 ∨ arity op = -1 := by unfold arity; (repeat' split) <;> simp
    split at ho
    · cases ho
    · split at ho
      · cases ho
      · split at ho
        · cases ho
        · omega
  clear ho
  rcases key with ⟨ho, rfl⟩ | ⟨ho, rfl⟩ | ⟨ho, rfl⟩ | ho
  all_goals
    have Ho := hide ho
    clear ho
    go_enter Try.func84, Try.ntmps84
    go_wp2_with (first
      | (go_at_call 91; refine (arity_any _ _).mono ?_; rintro e w' ⟨rfl, rfl⟩; rw [Ho.out])
      | fail)
    go_ret2
    exact ⟨rfl, rfl⟩
theorem push_any (op i : Int) (v : Value) (n base B : Nat) (xs : List (TypeId × Value)) (w : World) {d : Nat} (ho : pushN n op = some d) (hown : w.ownsRow base 125 1 v n (xs.map ifc)) (hn : n ≤ 1000) (hB : B ≤ base) (hb : base ≤ w.heap.size) :
    Calls Try.prog 84 #[v, .int .i64 op, .int .i64 i] w (PushPost base d true w B) := by
  unfold pushN at ho
  split at ho
  · cases ho; exact push0 op i v n base B xs w (by assumption) hown hn hB hb
  · split at ho
    · rename_i h; cases ho; exact push1 op i v _ base B xs w h.1 h.2 hown hn hB hb
    · split at ho
      · rename_i h; cases ho; exact push2 op i v n base B xs w h.1 h.2 hown hn hB hb
      · cases ho
end
section
open Go.RowKit

theorem rowN_append (a b : List Int) : ∀ d, rowN (a ++ b) d = (rowN a d).bind (rowN b) := by
  induction a with
  | nil => intro d; rfl
  | cons x a ih => intro d; rw [List.cons_append, rowN, rowN]; cases pushN d x <;> simp [ih]
theorem rowN_snoc (a : List Int) (x : Int) (d : Nat) : rowN (a ++ [x]) d = (rowN a d).bind fun d' => pushN d' x := by
  rw [rowN_append]
  cases rowN a d with
  | none => rfl
  | some d' => simp [rowN]; cases pushN d' x <;> rfl
theorem pushN_le {d op : _} {d' : Nat} (h : pushN d op = some d') : d' ≤ d + 1 := by
  unfold pushN at h
  split at h
  · cases h; omega
  · split at h
    · cases h; omega
    · split at h
      · cases h; omega
      · cases h
def BuiltPost (r : Int) (w : World) (e : Ending) (w' : World) : Prop := ∃ v, e = .returned (.tuple #[v, .int .i64 r]) ∧ Below w.heap.size w w'

set_option maxRecDepth 100000 in
set_option maxHeartbeats 2000000 in
theorem built_any (l : List Item) (v : Value) (S : Nat → Prop) (w : World) (h : (sliceR itemR).one w S v l) (hS : ∀ b, S b → b < w.heap.size) :
    Calls Try.prog 66 #[v] w (BuiltPost (checkE (l.map Item.op)) w) := by
  obtain ⟨A, c, rfl, hc, hc2⟩ := slice_form h
  by_cases h0 : l.length = 0
  · have e : checkE (l.map Item.op) = 12 := by unfold checkE; rw [if_pos (by simpa using h0)]
    rw [e, h0]
    go_enter Try.func66, Try.ntmps66
    go_wp2_with fail
    go_ret2
    exact ⟨_, rfl, Below.refl _ _⟩
  · by_cases h1 : 64 < l.length
    · have e : checkE (l.map Item.op) = 3 := by unfold checkE; rw [if_neg (by simpa using h0), if_pos (by simpa using h1)]
      rw [e]
      have hd : (((l.length : Nat) : Int) == 0) = false := beq_eq_false_iff_ne.2 (by omega)
      have hd2 : decide ((64 : Int) < (l.length : Int)) = true := by simp; omega
      go_enter Try.func66, Try.ntmps66
      go_wp2_with fail
      go_ret2
      exact ⟨_, rfl, Below.refl _ _⟩
    · obtain ⟨b, o, rfl, hSb, hrow⟩ := slice_some h (by omega)
      have e : checkE (l.map Item.op) = if rowN (l.map Item.op) 0 = some 1 then 0 else 17 := by unfold checkE; rw [if_neg (by simpa using h0), if_neg (by simpa using h1)]
      rw [e]
      clear e
      obtain ⟨R, hR⟩ : ∃ R, R = rowN (l.map Item.op) 0 := ⟨_, rfl⟩
      rw [← hR]
      obtain ⟨E, hE⟩ : ∃ E : Int, E = if R = some 1 then 0 else 17 := ⟨_, rfl⟩
      rw [← hE]
      have HR := hide hR
      have HE := hide hE
      have Hsl := hide h
      clear hR hrow hE h
      have hd : (((l.length : Nat) : Int) == 0) = false := beq_eq_false_iff_ne.2 (by omega)
      have hd2 : decide ((64 : Int) < (l.length : Int)) = false := by simp; omega
      go_enter Try.func66, Try.ntmps66
      go_wp2_with fail
      go_loopw [4, 19] (fun rv iv wr => ∃ (k d : Nat) (xs : List (TypeId × Value)), k ≤ l.length ∧ d ≤ k ∧ iv = .int .i64 (k : Int) ∧ rowN ((l.take k).map Item.op) 0 = some d ∧ wr.ownsRow w.heap.size 125 1 rv d (xs.map ifc) ∧ Below w.heap.size w wr)
        (fun rv iv wr => l.length - (intOf iv).toNat)
      case atStart => exact ⟨0, 0, [], Nat.zero_le _, Nat.le_refl _, rfl, rfl, World.ownsRow_nil _ _ _ _, Below.refl _ _⟩
      case round =>
        obtain ⟨k, d, xs, hk, hdk, rfl, hrn, hown, hbl⟩ := hrel
        have Hrn := hide hrn
        clear hrn
        by_cases hlt : k < l.length
        · obtain ⟨hcs, hok⟩ := items_at (slice_below Hsl.out hbl hS) hlt
          have hnx := rowN_snoc ((l.take k).map Item.op) l[k].op 0
          rw [Hrn.out] at hnx
          have hall : rowN (l.map Item.op) 0 = (rowN ((l.take k).map Item.op ++ [l[k].op]) 0).bind (rowN ((l.drop (k + 1)).map Item.op)) := by
            rw [← rowN_append, List.append_assoc, List.singleton_append, ← List.map_cons, ← List.drop_eq_getElem_cons hlt, ← List.map_append, List.take_append_drop]
          rw [← HR.out] at hall
          have htk : (l.take (k + 1)).map Item.op = (l.take k).map Item.op ++ [l[k].op] := by
            rw [List.take_succ_eq_append_getElem hlt, List.map_append]; rfl
          have Hnx := hide hnx
          have Hall := hide hall
          have Htk := hide htk
          have Hok := hide hok
          have c0 := hcs 0 _ rfl
          have c1 := hcs 1 _ rfl
          have c2 := hcs 2 _ rfl
          have c3 := hcs 3 _ rfl
          have c4 := hcs 4 _ rfl
          have c5 := hcs 5 _ rfl
          have c6 := hcs 6 _ rfl
          have c7 := hcs 7 _ rfl
          have c8 := hcs 8 _ rfl
          clear hnx hall htk hok hcs
          generalize l[k] = x at *
          obtain ⟨xop, xln, xlv, xrn, xrv, xnm, xus, xli, xco⟩ := x
          simp only [Nat.add_zero] at c0 c1 c2 c3 c4 c5 c6 c7 c8
          have hsz : w.heap.size ≤ wr.heap.size := hbl.size
          cases hp : pushN d xop with
          | none =>
            have Hp := hide hp
            clear hp
            go_wp2_with fail
            refine (pushNo _ _ _ d w.heap.size 0 xs _ Hp.out (hown.alloc _) (by omega) (Nat.zero_le _) (by simp; omega)).mono ?_
            rintro e w' ⟨rfl, rfl⟩
            go_wp2_with fail
            go_ret2
            have e17 : E = 17 := by
              rw [HE.out, Hall.out, Hnx.out]
              simp [Hp.out]
            exact ⟨_, by rw [e17]; rfl, hbl.alloc hsz _⟩
          | some d' =>
            have Hp := hide hp
            clear hp
            go_wp2_with fail
            refine (push_any _ _ _ d w.heap.size w.heap.size xs _ Hp.out (hown.alloc _) (by omega) (Nat.le_refl _) (by simp; omega)).mono ?_
            rintro e w' ⟨v', xs', rfl, hown', hbl'⟩
            have Hown := hide hown
            clear hown
            go_wp2_with fail
            go_roundw
            case rel => exact ⟨k + 1, d', xs', by omega, by have := pushN_le Hp.out; omega, by go_num, by rw [Htk.out, Hnx.out]; exact Hp.out, hown', (hbl.alloc hsz _).trans hbl'⟩
            case measure => simp [intOf]; omega
        · obtain rfl : k = l.length := by omega
          have hf := Hrn.out
          rw [List.take_length, ← HR.out] at hf
          have Hf := hide hf
          clear hf
          obtain ⟨A, c', rfl, hc'⟩ := own_form hown
          cases hd1 : ((d : Int) != 1) with
          | true =>
            have e17 : E = 17 := by
              rw [HE.out, Hf.out, if_neg (by simp at hd1 ⊢; omega)]
            have E17 := hide e17
            clear e17
            go_wp2_with fail
            go_ret2
            exact ⟨_, by rw [E17.out]; rfl, hbl⟩
          | false =>
            obtain rfl : d = 1 := by simp at hd1; omega
            have e0 : E = 0 := by rw [HE.out, Hf.out, if_pos rfl]
            have E0 := hide e0
            clear e0
            have hxl : xs.length = 1 := by have := hown.1; simpa using this
            obtain ⟨x, rfl⟩ : ∃ x, xs = [x] := List.length_eq_one_iff.1 hxl
            obtain ⟨g, c2, hv, hc2', _, _⟩ := own_some hown (by omega)
            cases hv
            have hcell := own_cell hown rfl (j := 0) (u := ifc x) rfl
            clear hown hxl
            go_wp2_with fail
            go_ret2
            exact ⟨_, by rw [E0.out]; rfl, hbl⟩

set_option maxRecDepth 100000 in
theorem check_any (l : List Item) (v : Value) (S : Nat → Prop) (w : World) (h : (sliceR itemR).one w S v l) (hS : ∀ b, S b → b < w.heap.size) :
    Calls Try.prog 40 #[v] w fun e w' => e = .returned (.int .i64 (checkE (l.map Item.op))) ∧ Below w.heap.size w w' := by
  have H := hide (built_any l v S w h hS)
  clear h hS
  go_enter Try.func40, Try.ntmps40
  go_wp2_with (go_at_call 66; refine H.out.mono ?_; rintro e w' ⟨nv, rfl, hb⟩)
  go_ret
  exact ⟨rfl, hb⟩

def itemOf (x : Inst) : Item := ⟨x.op, ⟨#[]⟩, 0, ⟨#[]⟩, 0, ⟨#[]⟩, ⟨#[]⟩, 0, 0⟩
theorem itemOf_op (l : List Inst) : (l.map itemOf).map Item.op = l.map Inst.op := by rw [List.map_map]; rfl
theorem itemInfo : (Try.prog.info? 111).map (fun i => (i.zero, i.size, i.bytes)) = some (some (.agg #[.int .i64 0, .string ⟨#[]⟩, .int .i64 0, .string ⟨#[]⟩, .int .i64 0, .string ⟨#[]⟩, .string ⟨#[]⟩, .int .i64 0, .int .i64 0]), 9, 104) := by kernel_rfl
theorem cells_at_new (w : World) (g : Nat) (L : List Value) (t : TypeId) (hg : g = w.heap.size) : ∀ j u, L[j]? = some u → (w.alloc (.cells L.toArray t)).cell? ((⟨g, 0, none⟩ : Addr).add j) = some u := by
  subst hg; exact cells_new w L t
theorem item_one (x : Item) : ∀ u ∈ x.cells, u.oneCell' = true := by
  intro u hu
  simp only [Item.cells, List.mem_cons, List.not_mem_nil, or_false] at hu
  rcases hu with rfl | rfl | rfl | rfl | rfl | rfl | rfl | rfl | rfl <;> rfl

set_option maxRecDepth 100000 in
set_option maxHeartbeats 2000000 in
theorem shape_any (l : List Inst) (v : Value) (S : Nat → Prop) (w : World) (h : (sliceR instR).one w S v l) (hS : ∀ b, S b → b < w.heap.size) (hl : l.length ≤ 1000) :
    Calls Try.prog 41 #[v] w fun e w' => ∃ u, e = .returned u ∧ w'.ownsRow w.heap.size 111 9 u l.length ((l.map itemOf).flatMap Item.cells) ∧ Below w.heap.size w w' := by
  obtain ⟨i0, hi0, hz0, hz1, hz2⟩ := info_parts itemInfo
  obtain ⟨A, c, rfl, hc, hc2⟩ := slice_form h
  have Hsl := hide h
  clear h
  go_enter Try.func41, Try.ntmps41
  go_wp2_with fail
  go_loopw [3, 8] (fun rv iv wr => ∃ (k : Nat), k ≤ l.length ∧ iv = .int .i64 (k : Int) ∧ wr.ownsRow w.heap.size 111 9 rv k (((l.take k).map itemOf).flatMap Item.cells) ∧ Below w.heap.size w wr)
    (fun rv iv wr => l.length - (intOf iv).toNat)
  case atStart => exact ⟨0, Nat.zero_le _, rfl, World.ownsRow_nil _ _ _ _, Below.refl _ _⟩
  case round =>
    obtain ⟨k, hk, rfl, hown, hbl⟩ := hrel
    by_cases hlt : k < l.length
    · have hsl := slice_below Hsl.out hbl hS
      obtain ⟨b, o, hv, _, _⟩ := slice_some hsl (by omega)
      subst hv
      obtain ⟨hcs, hok⟩ := insts_at hsl hlt
      have htk : ((l.take (k + 1)).map itemOf).flatMap Item.cells = ((l.take k).map itemOf).flatMap Item.cells ++ (itemOf l[k]).cells := by
        rw [List.take_succ_eq_append_getElem hlt, List.map_append, List.flatMap_append]; simp
      have Htk := hide htk
      have c0 := hcs 0 _ rfl
      have c1 := hcs 1 _ rfl
      have c2 := hcs 2 _ rfl
      have c3 := hcs 3 _ rfl
      have c4 := hcs 4 _ rfl
      have c5 := hcs 5 _ rfl
      have c6 := hcs 6 _ rfl
      clear htk hok hcs hsl
      generalize l[k] = x at *
      obtain ⟨xop, xla, xln, xra, xrn, xn, xu⟩ := x
      simp only [Nat.add_zero] at c0 c1 c2 c3 c4 c5 c6
      have hsz : w.heap.size ≤ wr.heap.size := hbl.size
      go_wp2_with (at_builtin; refine wpList_append_own _ rfl _ _ 73 rfl w.heap.size 111 i0 (.agg #[.int .i64 0, .string ⟨#[]⟩, .int .i64 0, .string ⟨#[]⟩, .int .i64 0, .string ⟨#[]⟩, .string ⟨#[]⟩, .int .i64 0, .int .i64 0]) 9 104 Try.underlying73 hi0 hz0 hz1 hz2 rfl (by decide) _ _ _ rfl ((hown.alloc _).alloc _) ⟨wr.heap.size + 1, 0, none⟩ 1 1 [.int .i64 xop, .string ⟨#[]⟩, .int .i64 0, .string ⟨#[]⟩, .int .i64 0, .string ⟨#[]⟩, .string ⟨#[]⟩, .int .i64 0, .int .i64 0] rfl rfl (cells_at_new _ _ _ _ (by simp)) (item_one (itemOf ⟨xop, 0, 0, 0, 0, 0, 0⟩)) (by unfold maxLen; omega) (by omega) (by simp; omega) ?_; intro v2 w2 hown2 hg2 _)
      have hb2 : Below w.heap.size w w2 := ((hbl.alloc hsz _).alloc (by simp; omega) _).grown hg2 (by simp; omega) (fun j hj => (hown.lt j hj).1)
      have Hown := hide hown
      have Hown2 := hide hown2
      clear hown hown2 hg2
      go_wp2_with fail
      go_roundw
      case rel => exact ⟨k + 1, by omega, by go_num, by rw [Htk.out]; exact Hown2.out, hb2⟩
      case measure => simp [intOf]; omega
    · obtain rfl : k = l.length := by omega
      rw [List.take_length] at hown
      have Hown := hide hown
      clear hown
      go_wp2_with fail
      go_ret
      exact ⟨_, rfl, Hown.out, hbl⟩
end
section
open Go.RowKit
/-- what is thrown where a formula is none -/
def lostP : List PanicEntry := [{ v := .iface 122 (.agg #[]), recovered := false }]
abbrev stAgg (vv : Value) (o d : Int) (dv cv : Value) : Value := .agg #[vv, .int .i64 o, .int .i64 d, dv, cv]
end
section
open Go.RowKit
def bv (b : Bool) : Value := .iface 4 (.bool b)
/-- the asker lies in block a: the state's cells, the comparison, and a row of truths -/
def AskAt (w : World) (a H : Nat) (vv : Value) (o d : Int) (dv cv f : Value) (L : List Bool) : Prop :=
  ∃ rv, Blk w a 95 #[vv, .int .i64 o, .int .i64 d, dv, cv, f, rv] ∧ w.ownsRow (a + 1) 20 1 rv L.length (L.map bv) ∧ a < H ∧ (∀ g, rv.ownBlock = some g → g < H)
theorem AskAt.below {w w' : World} {a H : Nat} {vv : Value} {o d : Int} {dv cv f : Value} {L : List Bool} (h : AskAt w a H vv o d dv cv f L) (hb : Below H w w') : AskAt w' a H vv o d dv cv f L := by
  obtain ⟨rv, h1, h2, h3, h4⟩ := h
  exact ⟨rv, h1.below hb h3, own_below h2 hb h4, h3, h4⟩
theorem AskAt.cells {w : World} {a H : Nat} {vv : Value} {o d : Int} {dv cv f : Value} {L : List Bool} (h : AskAt w a H vv o d dv cv f L) :
    w.cell? ⟨a, 0, none⟩ = some vv ∧ w.cell? ⟨a, 1, none⟩ = some (.int .i64 o) ∧ w.cell? ⟨a, 2, none⟩ = some (.int .i64 d) ∧ w.cell? ⟨a, 5, none⟩ = some f := by
  obtain ⟨rv, h1, _⟩ := h
  have c0 := h1.cell 0
  have c1 := h1.cell 1
  have c2 := h1.cell 2
  have c5 := h1.cell 5
  simp at c0 c1 c2 c5
  exact ⟨c0, c1, c2, c5⟩
/-- blocks from H on are as they were -/
def Past (H : Nat) (w w' : World) : Prop := ∀ g, H ≤ g → g < w.heap.size → w'.heap[g]? = w.heap[g]?
theorem Past.cell {H : Nat} {w w' : World} (h : Past H w w') {g i : Nat} (h1 : H ≤ g) (h2 : g < w.heap.size) : w'.cell? ⟨g, i, none⟩ = w.cell? ⟨g, i, none⟩ := World.cell?_of_block (h g h1 h2)
theorem anyInfo : (Try.prog.info? 20).map (fun i => (i.zero, i.size, i.bytes)) = some (some .nilIface, 1, 16) := by kernel_rfl
def AskPost (v : Value) (a H : Nat) (vv : Value) (o d : Int) (dv cv f : Value) (L : List Bool) (w : World) (e : Ending) (w' : World) : Prop := e = .returned v ∧ AskAt w' a w'.heap.size vv o d dv cv f L ∧ Below a w w' ∧ w.heap.size ≤ w'.heap.size ∧ Past H w w'

set_option maxRecDepth 100000 in
set_option maxHeartbeats 1000000 in
theorem askPush (a H : Nat) (vv : Value) (o d : Int) (dv cv f : Value) (L : List Bool) (b : Bool) (w : World) (h : AskAt w a H vv o d dv cv f L) (hL : L.length ≤ 1000) :
    Calls Try.prog 67 #[.pointer (some ⟨a, 0, none⟩), .bool b] w (AskPost (.tuple #[]) a H vv o d dv cv f (L ++ [b]) w) := by
  obtain ⟨i0, hi0, hz0, hz1, hz2⟩ := info_parts anyInfo
  obtain ⟨rv, hb, hown, haH, hrH⟩ := h
  have hlt := hb.lt
  have c6 := hb.cell 6
  have f6 := hb.frozen 6
  simp at c6
  obtain ⟨A, c, rfl, hc⟩ := own_form hown
  have HB := hide hb
  clear hb
  go_enter Try.func67, Try.ntmps67
  go_wp2_with (at_builtin; refine wpList_append_own _ rfl _ _ 93 rfl (a + 1) 20 i0 .nilIface 1 16 Try.underlying93 hi0 hz0 hz1 hz2 rfl (by decide) _ _ _ rfl (hown.alloc _) ⟨w.heap.size, 0, none⟩ 1 1 [.iface 4 (.bool b)] rfl rfl (cellOne_new _ _ _) (oneIface _ _) (by unfold maxLen; omega) (by omega) (by simp; omega) ?_; intro v' w1 hown' hgrow _; have hne : some a ≠ (Value.slice A L.length c).ownBlock := own_ne hown (by omega); have hb1 := (HB.out.alloc (.cells #[.iface 4 (.bool b)] 20)).grown hgrow hne; obtain ⟨A2, c2, rfl, hc2⟩ := own_form hown'; have d6 := hb1.cell 6; have g6 := hb1.frozen 6; simp at d6)
  have hbl : Below a w w1 := ((Below.refl a w).alloc (by omega) _).grown hgrow (by simp; omega) (fun k hk => by have := (hown.lt k hk).1; omega)
  have hsz : w.heap.size ≤ w1.heap.size := by have := hgrow.size; simp at this; omega
  have hw1 : a < w1.heap.size := hb1.lt
  have hlr : ∀ g, (Value.slice A2 (L.length + 1) c2).ownBlock = some g → g < w1.heap.size := fun g hg => (hown'.lt g hg).2
  have hpast : Past H w (w1.setCell ⟨a, 6, none⟩ (.slice A2 (L.length + 1) c2)) := fun g hg1 hg2 => by
    rw [Below.heap_setCell w1 ⟨a, 6, none⟩ _ g (by simp; omega)]
    have e1 : w1.heap[g]? = (w.alloc (.cells #[.iface 4 (.bool b)] 20)).heap[g]? := hgrow.block g (by simp; omega) (fun e => by have := hrH g e.symm; omega)
    rw [e1]
    exact Below.heap_alloc w _ g hg2
  go_end0
  refine ⟨rfl, ⟨_, ?_, by rw [List.length_append, List.map_append]; exact own_far hown' (p := ⟨a, 6, none⟩) (by simp) _, by simpa using hw1, fun g hg => by have := hlr g hg; simpa using this⟩, hbl.setCell (Nat.le_refl _) _, by simpa using hsz, hpast⟩
  · have := hb1.set_ 6 (.slice A2 (L.length + 1) c2)
    simpa using this

def PopPost (b : Bool) (a H : Nat) (vv : Value) (o d : Int) (dv cv f : Value) (L : List Bool) (w : World) (e : Ending) (w' : World) : Prop := e = .returned (.bool b) ∧ AskAt w' a H vv o d dv cv f L ∧ Below a w w' ∧ w.heap.size ≤ w'.heap.size ∧ Past H w w'
theorem assertBool (x : Bool) (w : World) : (Instr.typeAssert (.iface 4 (.bool x)) 20 4 false).run Try.prog w = .ok (.bool x) w := by kernel_rfl

set_option maxRecDepth 100000 in
set_option maxHeartbeats 1000000 in
theorem askPop (a H : Nat) (vv : Value) (o d : Int) (dv cv f : Value) (L : List Bool) (b : Bool) (w : World) (h : AskAt w a H vv o d dv cv f (L ++ [b])) (hL : L.length ≤ 1000) :
    Calls Try.prog 43 #[.pointer (some ⟨a, 0, none⟩)] w (PopPost b a H vv o d dv cv f L w) := by
  obtain ⟨rv, hb, hown, haH, hrH⟩ := h
  have hlt := hb.lt
  have c6 := hb.cell 6
  have f6 := hb.frozen 6
  simp at c6
  obtain ⟨g, c, rfl, hc, hg1, hg2⟩ := own_some hown (by simp)
  have hcell := own_cell hown rfl (j := L.length) (u := bv b) (by simp)
  have hown2 := own_take hown (k := L.length) (by simp)
  have hown3 : w.ownsRow (a + 1) 20 1 (.slice (some ⟨g, 0, none⟩) L.length c) L.length (L.map bv) := by
    have e : (List.map bv (L ++ [b])).take L.length = L.map bv := by rw [List.map_append, List.take_append_of_le_length (by simp), List.take_of_length_le (by simp)]
    rwa [e] at hown2
  have HB := hide hb
  have HO := hide hown3
  have hgn : a ≠ g := by omega
  have ln : (L ++ [b]).length = L.length + 1 := by simp
  rw [ln] at c6 hc
  unfold bv at hcell
  clear hb hown hown2 hown3 ln
  have hta := assertBool b
  go_enter Try.func43, Try.ntmps43
  go_wp2_with fail
  go_ret
  refine ⟨rfl, ⟨_, ?_, own_far HO.out (p := ⟨a, 6, none⟩) (by simp) _, haH, hrH⟩, (Below.refl a w).setCell (Nat.le_refl _) _, by simp, fun k hk _ => Below.heap_setCell w ⟨a, 6, none⟩ _ k (by simp; omega)⟩
  have := HB.out.set_ 6 (.slice (some ⟨g, 0, none⟩) L.length c)
  simpa using this
theorem askPopNone (a H : Nat) (vv : Value) (o d : Int) (dv cv f : Value) (w : World) (h : AskAt w a H vv o d dv cv f []) :
    Calls Try.prog 43 #[.pointer (some ⟨a, 0, none⟩)] w fun e w' => e = .panicked lostP ∧ w = w' := by
  obtain ⟨rv, hb, hown, haH, hrH⟩ := h
  have c6 := hb.cell 6
  simp at c6
  obtain ⟨A, c, rfl, hc⟩ := own_form hown
  clear hown hb
  go_enter Try.func43, Try.ntmps43
  go_wp2_with fail
  exact ⟨rfl, rfl, rfl⟩
end
section
open Go.RowKit
def StepPost (a : Nat) (vv : Value) (o d : Int) (dv cv f : Value) (L : List Bool) (w : World) (e : Ending) (w' : World) : Prop := e = .returned (.tuple #[]) ∧ AskAt w' a w'.heap.size vv o d dv cv f L ∧ Below a w w' ∧ w.heap.size ≤ w'.heap.size
abbrev instVal (op la ln ra rn n u : Int) : Value := .agg #[.int .i64 op, .int .i64 la, .int .i64 ln, .int .i64 ra, .int .i64 rn, .int .i64 n, .int .i64 u]

set_option maxRecDepth 100000 in
set_option maxHeartbeats 1000000 in
theorem stepT (op la ln ra rn n u : Int) (a : Nat) (vv : Value) (o d : Int) (dv cv f : Value) (L : List Bool) (w : World) (h : AskAt w a w.heap.size vv o d dv cv f L) (hL : L.length ≤ 1000) (ho : op = 1 ∨ op = 2) :
    Calls Try.prog 42 #[.pointer (some ⟨a, 0, none⟩), instVal op la ln ra rn n u] w (StepPost a vv o d dv cv f (L ++ [op == 1]) w) := by
  have hb0 : Below w.heap.size w (w.alloc (.cells #[.int .i64 op, .int .i64 la, .int .i64 ln, .int .i64 ra, .int .i64 rn, .int .i64 n, .int .i64 u] 51)) := (Below.refl _ _).alloc (Nat.le_refl _) _
  have hal : a < w.heap.size := by obtain ⟨_, _, _, h3, _⟩ := h; exact h3
  have Hp := hide (fun b => askPush a w.heap.size vv o d dv cv f L b _ (h.below hb0) hL)
  have Hb := hide hb0
  clear h hb0
  rcases ho with rfl | rfl
  all_goals
    go_enter Try.func42, Try.ntmps42
    go_wp2_with (go_at_call 67; refine (Hp.out _).mono ?_; rintro e w' ⟨rfl, ha, hbl, hsz, _⟩)
    go_end0
    exact ⟨rfl, ha, Hb.out.mono (Nat.le_of_lt hal) |>.trans hbl, Nat.le_trans Hb.out.size hsz⟩


set_option maxRecDepth 100000 in
set_option maxHeartbeats 4000000 in
theorem stepCmp3 (la ln ra rn n u c : Int) (a k : Nat) (caps : Array Value) (vv : Value) (o d : Int) (dv cv : Value) (L : List Bool) (w : World) (h : AskAt w a w.heap.size vv o d dv cv (.func (.func k) #[] caps) L) (hL : L.length ≤ 1000)
    (hcf : ∀ (args : Array Value) (w : World), (callFunc k args).run Try.prog w = .ok (.enter k args) w)
    (HL : Hid (∀ w', Below w.heap.size w w' → Calls Try.prog k (#[.agg #[.int .i64 la, .int .i64 ln], .agg #[.int .i64 ra, .int .i64 rn]] ++ caps) w' fun e w'' => e = .returned (.int .i64 c) ∧ Below w'.heap.size w' w'')) :
    Calls Try.prog 42 #[.pointer (some ⟨a, 0, none⟩), instVal 3 la ln ra rn n u] w (StepPost a vv o d dv cv (.func (.func k) #[] caps) (L ++ [soB 3 c]) w) := by
  obtain ⟨W, hW⟩ : ∃ W, W = w.alloc (.cells #[(.int .i64 3), .int .i64 la, .int .i64 ln, .int .i64 ra, .int .i64 rn, .int .i64 n, .int .i64 u] 51) := ⟨_, rfl⟩
  have hb0 : Below w.heap.size w W := by rw [hW]; exact (Below.refl _ _).alloc (Nat.le_refl _) _
  have hal : a < w.heap.size := by obtain ⟨_, _, _, h3, _⟩ := h; exact h3
  have hz : W.heap.size = w.heap.size + 1 := by rw [hW]; simp
  have c5 := (h.below hb0).cells.2.2.2
  have x0 : W.cell? ⟨w.heap.size, 0, none⟩ = some (.int .i64 3) := by rw [hW]; simp
  have x1 : W.cell? ⟨w.heap.size, 1, none⟩ = some (.int .i64 la) := by rw [hW]; simp
  have x2 : W.cell? ⟨w.heap.size, 2, none⟩ = some (.int .i64 ln) := by rw [hW]; simp
  have x3 : W.cell? ⟨w.heap.size, 3, none⟩ = some (.int .i64 ra) := by rw [hW]; simp
  have x4 : W.cell? ⟨w.heap.size, 4, none⟩ = some (.int .i64 rn) := by rw [hW]; simp
  have KB := hide (fun (w' : World) (hb : Below W.heap.size W w') => (⟨(hb.cell (p := ⟨a, 5, none⟩) (by show a < _; omega)).trans c5, (hb.cell (p := ⟨w.heap.size, 0, none⟩) (by show w.heap.size < _; omega)).trans x0, (hb.cell (p := ⟨w.heap.size, 1, none⟩) (by show w.heap.size < _; omega)).trans x1, (hb.cell (p := ⟨w.heap.size, 2, none⟩) (by show w.heap.size < _; omega)).trans x2, (hb.cell (p := ⟨w.heap.size, 3, none⟩) (by show w.heap.size < _; omega)).trans x3, (hb.cell (p := ⟨w.heap.size, 4, none⟩) (by show w.heap.size < _; omega)).trans x4⟩ :
    w'.cell? ⟨a, 5, none⟩ = some (.func (.func k) #[] caps) ∧ w'.cell? ⟨w.heap.size, 0, none⟩ = some (.int .i64 3) ∧ w'.cell? ⟨w.heap.size, 1, none⟩ = some (.int .i64 la) ∧ w'.cell? ⟨w.heap.size, 2, none⟩ = some (.int .i64 ln) ∧ w'.cell? ⟨w.heap.size, 3, none⟩ = some (.int .i64 ra) ∧ w'.cell? ⟨w.heap.size, 4, none⟩ = some (.int .i64 rn)))
  have KP := hide (fun (w1 w2 : World) (hb : Below W.heap.size W w1) (ha : AskAt w2 a w2.heap.size vv o d dv cv (.func (.func k) #[] caps) (L ++ [soB 3 c])) (hp : Past w.heap.size w1 w2) => by
    obtain ⟨q0, q1, q2, q3, q4, q5⟩ := KB.out w1 hb
    have hs : w.heap.size < w1.heap.size := by have := hb.size; omega
    exact (⟨ha.cells.2.2.2, (hp.cell (Nat.le_refl _) hs).trans q1, (hp.cell (Nat.le_refl _) hs).trans q2, (hp.cell (Nat.le_refl _) hs).trans q3, (hp.cell (Nat.le_refl _) hs).trans q4, (hp.cell (Nat.le_refl _) hs).trans q5⟩ :
      w2.cell? ⟨a, 5, none⟩ = some (.func (.func k) #[] caps) ∧ w2.cell? ⟨w.heap.size, 0, none⟩ = some (.int .i64 3) ∧ w2.cell? ⟨w.heap.size, 1, none⟩ = some (.int .i64 la) ∧ w2.cell? ⟨w.heap.size, 2, none⟩ = some (.int .i64 ln) ∧ w2.cell? ⟨w.heap.size, 3, none⟩ = some (.int .i64 ra) ∧ w2.cell? ⟨w.heap.size, 4, none⟩ = some (.int .i64 rn)))
  have H := hide h
  have HW := hide hW
  have HB := hide hb0
  clear h hb0 hW
  go_enter Try.func42, Try.ntmps42
  go_wp2_with fail
  rw [← HW.out]
  have hS0 := KB.out W.drew ((Below.refl _ _).drew)
  go_region_held3 (fun w' => w'.cell? ⟨a, 5, none⟩ = some (.func (.func k) #[] caps) ∧ w'.cell? ⟨w.heap.size, 0, none⟩ = some (.int .i64 3) ∧ w'.cell? ⟨w.heap.size, 1, none⟩ = some (.int .i64 la) ∧ w'.cell? ⟨w.heap.size, 2, none⟩ = some (.int .i64 ln) ∧ w'.cell? ⟨w.heap.size, 3, none⟩ = some (.int .i64 ra) ∧ w'.cell? ⟨w.heap.size, 4, none⟩ = some (.int .i64 rn)) (assumption)
    (first
      | (go_at_call 68; refine (so_any _ _ _).mono ?_; rintro e w' ⟨rfl, rfl⟩)
      | (go_at_call 67; (with_reducible refine (askPush a w.heap.size vv o d dv cv _ L _ _ (H.out.below hbw1) hL).mono ?_); rintro e w2 ⟨rfl, ha, hbl, hsz, hpast⟩; have K2 := KP.out _ _ hbW1 ha hpast)
      | ((with_reducible refine (HL.out _ HB.out.drew).mono ?_); rintro e w1 ⟨rfl, hb1⟩; have hbW1 : Below W.heap.size W w1 := (Below.refl W.heap.size W).drew.trans hb1; have K1 := KB.out w1 hbW1; have hbw1 : Below w.heap.size w w1 := HB.out.trans (hbW1.mono HB.out.size)))
  all_goals
    go_wp2_with fail
    go_end0
    exact ⟨rfl, ha, (hbw1.mono (Nat.le_of_lt hal)).trans hbl, Nat.le_trans hbw1.size hsz⟩
set_option maxRecDepth 100000 in
set_option maxHeartbeats 4000000 in
theorem stepNo3 (la ln ra rn n u : Int) (a k : Nat) (caps : Array Value) (vv : Value) (o d : Int) (dv cv : Value) (L : List Bool) (w : World) (h : AskAt w a w.heap.size vv o d dv cv (.func (.func k) #[] caps) L) (hL : L.length ≤ 1000)
    (hcf : ∀ (args : Array Value) (w : World), (callFunc k args).run Try.prog w = .ok (.enter k args) w)
    (HL : Hid (∀ w', Below w.heap.size w w' → Calls Try.prog k (#[.agg #[.int .i64 la, .int .i64 ln], .agg #[.int .i64 ra, .int .i64 rn]] ++ caps) w' fun e w'' => e = .panicked lostP ∧ Below w'.heap.size w' w'')) :
    Calls Try.prog 42 #[.pointer (some ⟨a, 0, none⟩), instVal 3 la ln ra rn n u] w fun e w' => e = .panicked lostP ∧ Below a w w' := by
  obtain ⟨W, hW⟩ : ∃ W, W = w.alloc (.cells #[(.int .i64 3), .int .i64 la, .int .i64 ln, .int .i64 ra, .int .i64 rn, .int .i64 n, .int .i64 u] 51) := ⟨_, rfl⟩
  have hb0 : Below w.heap.size w W := by rw [hW]; exact (Below.refl _ _).alloc (Nat.le_refl _) _
  have hal : a < w.heap.size := by obtain ⟨_, _, _, h3, _⟩ := h; exact h3
  have hz : W.heap.size = w.heap.size + 1 := by rw [hW]; simp
  have c5 := (h.below hb0).cells.2.2.2
  have x0 : W.cell? ⟨w.heap.size, 0, none⟩ = some (.int .i64 3) := by rw [hW]; simp
  have x1 : W.cell? ⟨w.heap.size, 1, none⟩ = some (.int .i64 la) := by rw [hW]; simp
  have x2 : W.cell? ⟨w.heap.size, 2, none⟩ = some (.int .i64 ln) := by rw [hW]; simp
  have x3 : W.cell? ⟨w.heap.size, 3, none⟩ = some (.int .i64 ra) := by rw [hW]; simp
  have x4 : W.cell? ⟨w.heap.size, 4, none⟩ = some (.int .i64 rn) := by rw [hW]; simp
  have KB := hide (fun (w' : World) (hb : Below W.heap.size W w') => (⟨(hb.cell (p := ⟨a, 5, none⟩) (by show a < _; omega)).trans c5, (hb.cell (p := ⟨w.heap.size, 0, none⟩) (by show w.heap.size < _; omega)).trans x0, (hb.cell (p := ⟨w.heap.size, 1, none⟩) (by show w.heap.size < _; omega)).trans x1, (hb.cell (p := ⟨w.heap.size, 2, none⟩) (by show w.heap.size < _; omega)).trans x2, (hb.cell (p := ⟨w.heap.size, 3, none⟩) (by show w.heap.size < _; omega)).trans x3, (hb.cell (p := ⟨w.heap.size, 4, none⟩) (by show w.heap.size < _; omega)).trans x4⟩ :
    w'.cell? ⟨a, 5, none⟩ = some (.func (.func k) #[] caps) ∧ w'.cell? ⟨w.heap.size, 0, none⟩ = some (.int .i64 3) ∧ w'.cell? ⟨w.heap.size, 1, none⟩ = some (.int .i64 la) ∧ w'.cell? ⟨w.heap.size, 2, none⟩ = some (.int .i64 ln) ∧ w'.cell? ⟨w.heap.size, 3, none⟩ = some (.int .i64 ra) ∧ w'.cell? ⟨w.heap.size, 4, none⟩ = some (.int .i64 rn)))
  have H := hide h
  have HW := hide hW
  have HB := hide hb0
  clear h hb0 hW
  go_enter Try.func42, Try.ntmps42
  go_wp2_with fail
  rw [← HW.out]
  have hS0 := KB.out W.drew ((Below.refl _ _).drew)
  refine wp_region_held (S := fun w' => w'.cell? ⟨a, 5, none⟩ = some (.func (.func k) #[] caps) ∧ w'.cell? ⟨w.heap.size, 0, none⟩ = some (.int .i64 3) ∧ w'.cell? ⟨w.heap.size, 1, none⟩ = some (.int .i64 la) ∧ w'.cell? ⟨w.heap.size, 2, none⟩ = some (.int .i64 ln) ∧ w'.cell? ⟨w.heap.size, 3, none⟩ = some (.int .i64 ra) ∧ w'.cell? ⟨w.heap.size, 4, none⟩ = some (.int .i64 rn)) (by kernel_rfl) ?_
  refine wpAnyH_take (i := 0) (v := .pointer (some ⟨a, 0, none⟩)) rfl (by kernel_rfl) (by kernel_rfl) (by kernel_rfl) (fun _ _ _ h => h) (Or.inl ⟨by rfl, ?_⟩) hS0 ?_
  · intro w hSw; obtain ⟨q0, q1, q2, q3, q4, q5⟩ := hSw; go_simp
  refine wpAnyH_take (i := 1) (v := .pointer (some ⟨w.heap.size, 0, none⟩)) rfl (by kernel_rfl) (by kernel_rfl) (by kernel_rfl) (fun _ _ _ h => h) (Or.inl ⟨by rfl, ?_⟩) hS0 ?_
  · intro w hSw; obtain ⟨q0, q1, q2, q3, q4, q5⟩ := hSw; go_simp
  refine wpAnyH_take (i := 2) (v := .int .i64 3) rfl (by kernel_rfl) (by kernel_rfl) (by kernel_rfl) (fun _ _ _ h => h) (Or.inl ⟨by rfl, ?_⟩) hS0 ?_
  · intro w hSw; obtain ⟨q0, q1, q2, q3, q4, q5⟩ := hSw; go_simp
  refine wpAnyH_take (i := 3) (v := .pointer (some ⟨a, 0, none⟩)) rfl (by kernel_rfl) (by kernel_rfl) (by kernel_rfl) (fun _ _ _ h => h) (Or.inl ⟨by rfl, ?_⟩) hS0 ?_
  · intro w hSw; obtain ⟨q0, q1, q2, q3, q4, q5⟩ := hSw; go_simp
  refine wpAnyH_take (i := 4) (v := .pointer (some ⟨a, 0, none⟩)) rfl (by kernel_rfl) (by kernel_rfl) (by kernel_rfl) (fun _ _ _ h => h) (Or.inl ⟨by rfl, ?_⟩) hS0 ?_
  · intro w hSw; obtain ⟨q0, q1, q2, q3, q4, q5⟩ := hSw; go_simp
  refine wpAnyH_take (i := 5) (v := .pointer (some ⟨a, 5, none⟩)) rfl (by kernel_rfl) (by kernel_rfl) (by kernel_rfl) (fun _ _ _ h => h) (Or.inl ⟨by rfl, ?_⟩) hS0 ?_
  · intro w hSw; obtain ⟨q0, q1, q2, q3, q4, q5⟩ := hSw; go_simp
  refine wpAnyH_take (i := 6) (v := .func (.func k) #[] caps) rfl (by kernel_rfl) (by kernel_rfl) (by kernel_rfl) (fun _ _ _ h => h) (Or.inl ⟨by rfl, ?_⟩) hS0 ?_
  · intro w hSw; obtain ⟨q0, q1, q2, q3, q4, q5⟩ := hSw; go_simp
  refine wpAnyH_take (i := 7) (v := .pointer (some ⟨w.heap.size, 1, none⟩)) rfl (by kernel_rfl) (by kernel_rfl) (by kernel_rfl) (fun _ _ _ h => h) (Or.inl ⟨by rfl, ?_⟩) hS0 ?_
  · intro w hSw; obtain ⟨q0, q1, q2, q3, q4, q5⟩ := hSw; go_simp
  refine wpAnyH_take (i := 8) (v := .agg #[.int .i64 la, .int .i64 ln]) rfl (by kernel_rfl) (by kernel_rfl) (by kernel_rfl) (fun _ _ _ h => h) (Or.inl ⟨by rfl, ?_⟩) hS0 ?_
  · intro w hSw; obtain ⟨q0, q1, q2, q3, q4, q5⟩ := hSw; go_simp
  refine wpAnyH_take (i := 9) (v := .pointer (some ⟨w.heap.size, 3, none⟩)) rfl (by kernel_rfl) (by kernel_rfl) (by kernel_rfl) (fun _ _ _ h => h) (Or.inl ⟨by rfl, ?_⟩) hS0 ?_
  · intro w hSw; obtain ⟨q0, q1, q2, q3, q4, q5⟩ := hSw; go_simp
  refine wpAnyH_take (i := 10) (v := .agg #[.int .i64 ra, .int .i64 rn]) rfl (by kernel_rfl) (by kernel_rfl) (by kernel_rfl) (fun _ _ _ h => h) (Or.inl ⟨by rfl, ?_⟩) hS0 ?_
  · intro w hSw; obtain ⟨q0, q1, q2, q3, q4, q5⟩ := hSw; go_simp
  refine wpAnyH_ready (rs := [11]) (by kernel_rfl) (by simp) ?_
  refine AllReadyH.cons (o := _) rfl (fun K hK => ?_) AllReadyH.nil
  go_simp
  refine (HL.out _ HB.out.drew).mono ?_
  rintro e w1 ⟨rfl, hb1⟩
  have hbW1 : Below W.heap.size W w1 := (Below.refl W.heap.size W).drew.trans hb1
  exact ⟨rfl, rfl, (HB.out.mono (Nat.le_of_lt hal)).trans (hbW1.mono (by omega))⟩
set_option maxRecDepth 100000 in
set_option maxHeartbeats 4000000 in
theorem stepCmp4 (la ln ra rn n u c : Int) (a k : Nat) (caps : Array Value) (vv : Value) (o d : Int) (dv cv : Value) (L : List Bool) (w : World) (h : AskAt w a w.heap.size vv o d dv cv (.func (.func k) #[] caps) L) (hL : L.length ≤ 1000)
    (hcf : ∀ (args : Array Value) (w : World), (callFunc k args).run Try.prog w = .ok (.enter k args) w)
    (HL : Hid (∀ w', Below w.heap.size w w' → Calls Try.prog k (#[.agg #[.int .i64 la, .int .i64 ln], .agg #[.int .i64 ra, .int .i64 rn]] ++ caps) w' fun e w'' => e = .returned (.int .i64 c) ∧ Below w'.heap.size w' w'')) :
    Calls Try.prog 42 #[.pointer (some ⟨a, 0, none⟩), instVal 4 la ln ra rn n u] w (StepPost a vv o d dv cv (.func (.func k) #[] caps) (L ++ [soB 4 c]) w) := by
  obtain ⟨W, hW⟩ : ∃ W, W = w.alloc (.cells #[(.int .i64 4), .int .i64 la, .int .i64 ln, .int .i64 ra, .int .i64 rn, .int .i64 n, .int .i64 u] 51) := ⟨_, rfl⟩
  have hb0 : Below w.heap.size w W := by rw [hW]; exact (Below.refl _ _).alloc (Nat.le_refl _) _
  have hal : a < w.heap.size := by obtain ⟨_, _, _, h3, _⟩ := h; exact h3
  have hz : W.heap.size = w.heap.size + 1 := by rw [hW]; simp
  have c5 := (h.below hb0).cells.2.2.2
  have x0 : W.cell? ⟨w.heap.size, 0, none⟩ = some (.int .i64 4) := by rw [hW]; simp
  have x1 : W.cell? ⟨w.heap.size, 1, none⟩ = some (.int .i64 la) := by rw [hW]; simp
  have x2 : W.cell? ⟨w.heap.size, 2, none⟩ = some (.int .i64 ln) := by rw [hW]; simp
  have x3 : W.cell? ⟨w.heap.size, 3, none⟩ = some (.int .i64 ra) := by rw [hW]; simp
  have x4 : W.cell? ⟨w.heap.size, 4, none⟩ = some (.int .i64 rn) := by rw [hW]; simp
  have KB := hide (fun (w' : World) (hb : Below W.heap.size W w') => (⟨(hb.cell (p := ⟨a, 5, none⟩) (by show a < _; omega)).trans c5, (hb.cell (p := ⟨w.heap.size, 0, none⟩) (by show w.heap.size < _; omega)).trans x0, (hb.cell (p := ⟨w.heap.size, 1, none⟩) (by show w.heap.size < _; omega)).trans x1, (hb.cell (p := ⟨w.heap.size, 2, none⟩) (by show w.heap.size < _; omega)).trans x2, (hb.cell (p := ⟨w.heap.size, 3, none⟩) (by show w.heap.size < _; omega)).trans x3, (hb.cell (p := ⟨w.heap.size, 4, none⟩) (by show w.heap.size < _; omega)).trans x4⟩ :
    w'.cell? ⟨a, 5, none⟩ = some (.func (.func k) #[] caps) ∧ w'.cell? ⟨w.heap.size, 0, none⟩ = some (.int .i64 4) ∧ w'.cell? ⟨w.heap.size, 1, none⟩ = some (.int .i64 la) ∧ w'.cell? ⟨w.heap.size, 2, none⟩ = some (.int .i64 ln) ∧ w'.cell? ⟨w.heap.size, 3, none⟩ = some (.int .i64 ra) ∧ w'.cell? ⟨w.heap.size, 4, none⟩ = some (.int .i64 rn)))
  have KP := hide (fun (w1 w2 : World) (hb : Below W.heap.size W w1) (ha : AskAt w2 a w2.heap.size vv o d dv cv (.func (.func k) #[] caps) (L ++ [soB 4 c])) (hp : Past w.heap.size w1 w2) => by
    obtain ⟨q0, q1, q2, q3, q4, q5⟩ := KB.out w1 hb
    have hs : w.heap.size < w1.heap.size := by have := hb.size; omega
    exact (⟨ha.cells.2.2.2, (hp.cell (Nat.le_refl _) hs).trans q1, (hp.cell (Nat.le_refl _) hs).trans q2, (hp.cell (Nat.le_refl _) hs).trans q3, (hp.cell (Nat.le_refl _) hs).trans q4, (hp.cell (Nat.le_refl _) hs).trans q5⟩ :
      w2.cell? ⟨a, 5, none⟩ = some (.func (.func k) #[] caps) ∧ w2.cell? ⟨w.heap.size, 0, none⟩ = some (.int .i64 4) ∧ w2.cell? ⟨w.heap.size, 1, none⟩ = some (.int .i64 la) ∧ w2.cell? ⟨w.heap.size, 2, none⟩ = some (.int .i64 ln) ∧ w2.cell? ⟨w.heap.size, 3, none⟩ = some (.int .i64 ra) ∧ w2.cell? ⟨w.heap.size, 4, none⟩ = some (.int .i64 rn)))
  have H := hide h
  have HW := hide hW
  have HB := hide hb0
  clear h hb0 hW
  go_enter Try.func42, Try.ntmps42
  go_wp2_with fail
  rw [← HW.out]
  have hS0 := KB.out W.drew ((Below.refl _ _).drew)
  go_region_held3 (fun w' => w'.cell? ⟨a, 5, none⟩ = some (.func (.func k) #[] caps) ∧ w'.cell? ⟨w.heap.size, 0, none⟩ = some (.int .i64 4) ∧ w'.cell? ⟨w.heap.size, 1, none⟩ = some (.int .i64 la) ∧ w'.cell? ⟨w.heap.size, 2, none⟩ = some (.int .i64 ln) ∧ w'.cell? ⟨w.heap.size, 3, none⟩ = some (.int .i64 ra) ∧ w'.cell? ⟨w.heap.size, 4, none⟩ = some (.int .i64 rn)) (assumption)
    (first
      | (go_at_call 68; refine (so_any _ _ _).mono ?_; rintro e w' ⟨rfl, rfl⟩)
      | (go_at_call 67; (with_reducible refine (askPush a w.heap.size vv o d dv cv _ L _ _ (H.out.below hbw1) hL).mono ?_); rintro e w2 ⟨rfl, ha, hbl, hsz, hpast⟩; have K2 := KP.out _ _ hbW1 ha hpast)
      | ((with_reducible refine (HL.out _ HB.out.drew).mono ?_); rintro e w1 ⟨rfl, hb1⟩; have hbW1 : Below W.heap.size W w1 := (Below.refl W.heap.size W).drew.trans hb1; have K1 := KB.out w1 hbW1; have hbw1 : Below w.heap.size w w1 := HB.out.trans (hbW1.mono HB.out.size)))
  all_goals
    go_wp2_with fail
    go_end0
    exact ⟨rfl, ha, (hbw1.mono (Nat.le_of_lt hal)).trans hbl, Nat.le_trans hbw1.size hsz⟩
set_option maxRecDepth 100000 in
set_option maxHeartbeats 4000000 in
theorem stepNo4 (la ln ra rn n u : Int) (a k : Nat) (caps : Array Value) (vv : Value) (o d : Int) (dv cv : Value) (L : List Bool) (w : World) (h : AskAt w a w.heap.size vv o d dv cv (.func (.func k) #[] caps) L) (hL : L.length ≤ 1000)
    (hcf : ∀ (args : Array Value) (w : World), (callFunc k args).run Try.prog w = .ok (.enter k args) w)
    (HL : Hid (∀ w', Below w.heap.size w w' → Calls Try.prog k (#[.agg #[.int .i64 la, .int .i64 ln], .agg #[.int .i64 ra, .int .i64 rn]] ++ caps) w' fun e w'' => e = .panicked lostP ∧ Below w'.heap.size w' w'')) :
    Calls Try.prog 42 #[.pointer (some ⟨a, 0, none⟩), instVal 4 la ln ra rn n u] w fun e w' => e = .panicked lostP ∧ Below a w w' := by
  obtain ⟨W, hW⟩ : ∃ W, W = w.alloc (.cells #[(.int .i64 4), .int .i64 la, .int .i64 ln, .int .i64 ra, .int .i64 rn, .int .i64 n, .int .i64 u] 51) := ⟨_, rfl⟩
  have hb0 : Below w.heap.size w W := by rw [hW]; exact (Below.refl _ _).alloc (Nat.le_refl _) _
  have hal : a < w.heap.size := by obtain ⟨_, _, _, h3, _⟩ := h; exact h3
  have hz : W.heap.size = w.heap.size + 1 := by rw [hW]; simp
  have c5 := (h.below hb0).cells.2.2.2
  have x0 : W.cell? ⟨w.heap.size, 0, none⟩ = some (.int .i64 4) := by rw [hW]; simp
  have x1 : W.cell? ⟨w.heap.size, 1, none⟩ = some (.int .i64 la) := by rw [hW]; simp
  have x2 : W.cell? ⟨w.heap.size, 2, none⟩ = some (.int .i64 ln) := by rw [hW]; simp
  have x3 : W.cell? ⟨w.heap.size, 3, none⟩ = some (.int .i64 ra) := by rw [hW]; simp
  have x4 : W.cell? ⟨w.heap.size, 4, none⟩ = some (.int .i64 rn) := by rw [hW]; simp
  have KB := hide (fun (w' : World) (hb : Below W.heap.size W w') => (⟨(hb.cell (p := ⟨a, 5, none⟩) (by show a < _; omega)).trans c5, (hb.cell (p := ⟨w.heap.size, 0, none⟩) (by show w.heap.size < _; omega)).trans x0, (hb.cell (p := ⟨w.heap.size, 1, none⟩) (by show w.heap.size < _; omega)).trans x1, (hb.cell (p := ⟨w.heap.size, 2, none⟩) (by show w.heap.size < _; omega)).trans x2, (hb.cell (p := ⟨w.heap.size, 3, none⟩) (by show w.heap.size < _; omega)).trans x3, (hb.cell (p := ⟨w.heap.size, 4, none⟩) (by show w.heap.size < _; omega)).trans x4⟩ :
    w'.cell? ⟨a, 5, none⟩ = some (.func (.func k) #[] caps) ∧ w'.cell? ⟨w.heap.size, 0, none⟩ = some (.int .i64 4) ∧ w'.cell? ⟨w.heap.size, 1, none⟩ = some (.int .i64 la) ∧ w'.cell? ⟨w.heap.size, 2, none⟩ = some (.int .i64 ln) ∧ w'.cell? ⟨w.heap.size, 3, none⟩ = some (.int .i64 ra) ∧ w'.cell? ⟨w.heap.size, 4, none⟩ = some (.int .i64 rn)))
  have H := hide h
  have HW := hide hW
  have HB := hide hb0
  clear h hb0 hW
  go_enter Try.func42, Try.ntmps42
  go_wp2_with fail
  rw [← HW.out]
  have hS0 := KB.out W.drew ((Below.refl _ _).drew)
  refine wp_region_held (S := fun w' => w'.cell? ⟨a, 5, none⟩ = some (.func (.func k) #[] caps) ∧ w'.cell? ⟨w.heap.size, 0, none⟩ = some (.int .i64 4) ∧ w'.cell? ⟨w.heap.size, 1, none⟩ = some (.int .i64 la) ∧ w'.cell? ⟨w.heap.size, 2, none⟩ = some (.int .i64 ln) ∧ w'.cell? ⟨w.heap.size, 3, none⟩ = some (.int .i64 ra) ∧ w'.cell? ⟨w.heap.size, 4, none⟩ = some (.int .i64 rn)) (by kernel_rfl) ?_
  refine wpAnyH_take (i := 0) (v := .pointer (some ⟨a, 0, none⟩)) rfl (by kernel_rfl) (by kernel_rfl) (by kernel_rfl) (fun _ _ _ h => h) (Or.inl ⟨by rfl, ?_⟩) hS0 ?_
  · intro w hSw; obtain ⟨q0, q1, q2, q3, q4, q5⟩ := hSw; go_simp
  refine wpAnyH_take (i := 1) (v := .pointer (some ⟨w.heap.size, 0, none⟩)) rfl (by kernel_rfl) (by kernel_rfl) (by kernel_rfl) (fun _ _ _ h => h) (Or.inl ⟨by rfl, ?_⟩) hS0 ?_
  · intro w hSw; obtain ⟨q0, q1, q2, q3, q4, q5⟩ := hSw; go_simp
  refine wpAnyH_take (i := 2) (v := .int .i64 4) rfl (by kernel_rfl) (by kernel_rfl) (by kernel_rfl) (fun _ _ _ h => h) (Or.inl ⟨by rfl, ?_⟩) hS0 ?_
  · intro w hSw; obtain ⟨q0, q1, q2, q3, q4, q5⟩ := hSw; go_simp
  refine wpAnyH_take (i := 3) (v := .pointer (some ⟨a, 0, none⟩)) rfl (by kernel_rfl) (by kernel_rfl) (by kernel_rfl) (fun _ _ _ h => h) (Or.inl ⟨by rfl, ?_⟩) hS0 ?_
  · intro w hSw; obtain ⟨q0, q1, q2, q3, q4, q5⟩ := hSw; go_simp
  refine wpAnyH_take (i := 4) (v := .pointer (some ⟨a, 0, none⟩)) rfl (by kernel_rfl) (by kernel_rfl) (by kernel_rfl) (fun _ _ _ h => h) (Or.inl ⟨by rfl, ?_⟩) hS0 ?_
  · intro w hSw; obtain ⟨q0, q1, q2, q3, q4, q5⟩ := hSw; go_simp
  refine wpAnyH_take (i := 5) (v := .pointer (some ⟨a, 5, none⟩)) rfl (by kernel_rfl) (by kernel_rfl) (by kernel_rfl) (fun _ _ _ h => h) (Or.inl ⟨by rfl, ?_⟩) hS0 ?_
  · intro w hSw; obtain ⟨q0, q1, q2, q3, q4, q5⟩ := hSw; go_simp
  refine wpAnyH_take (i := 6) (v := .func (.func k) #[] caps) rfl (by kernel_rfl) (by kernel_rfl) (by kernel_rfl) (fun _ _ _ h => h) (Or.inl ⟨by rfl, ?_⟩) hS0 ?_
  · intro w hSw; obtain ⟨q0, q1, q2, q3, q4, q5⟩ := hSw; go_simp
  refine wpAnyH_take (i := 7) (v := .pointer (some ⟨w.heap.size, 1, none⟩)) rfl (by kernel_rfl) (by kernel_rfl) (by kernel_rfl) (fun _ _ _ h => h) (Or.inl ⟨by rfl, ?_⟩) hS0 ?_
  · intro w hSw; obtain ⟨q0, q1, q2, q3, q4, q5⟩ := hSw; go_simp
  refine wpAnyH_take (i := 8) (v := .agg #[.int .i64 la, .int .i64 ln]) rfl (by kernel_rfl) (by kernel_rfl) (by kernel_rfl) (fun _ _ _ h => h) (Or.inl ⟨by rfl, ?_⟩) hS0 ?_
  · intro w hSw; obtain ⟨q0, q1, q2, q3, q4, q5⟩ := hSw; go_simp
  refine wpAnyH_take (i := 9) (v := .pointer (some ⟨w.heap.size, 3, none⟩)) rfl (by kernel_rfl) (by kernel_rfl) (by kernel_rfl) (fun _ _ _ h => h) (Or.inl ⟨by rfl, ?_⟩) hS0 ?_
  · intro w hSw; obtain ⟨q0, q1, q2, q3, q4, q5⟩ := hSw; go_simp
  refine wpAnyH_take (i := 10) (v := .agg #[.int .i64 ra, .int .i64 rn]) rfl (by kernel_rfl) (by kernel_rfl) (by kernel_rfl) (fun _ _ _ h => h) (Or.inl ⟨by rfl, ?_⟩) hS0 ?_
  · intro w hSw; obtain ⟨q0, q1, q2, q3, q4, q5⟩ := hSw; go_simp
  refine wpAnyH_ready (rs := [11]) (by kernel_rfl) (by simp) ?_
  refine AllReadyH.cons (o := _) rfl (fun K hK => ?_) AllReadyH.nil
  go_simp
  refine (HL.out _ HB.out.drew).mono ?_
  rintro e w1 ⟨rfl, hb1⟩
  have hbW1 : Below W.heap.size W w1 := (Below.refl W.heap.size W).drew.trans hb1
  exact ⟨rfl, rfl, (HB.out.mono (Nat.le_of_lt hal)).trans (hbW1.mono (by omega))⟩
set_option maxRecDepth 100000 in
set_option maxHeartbeats 4000000 in
theorem stepCmp5 (la ln ra rn n u c : Int) (a k : Nat) (caps : Array Value) (vv : Value) (o d : Int) (dv cv : Value) (L : List Bool) (w : World) (h : AskAt w a w.heap.size vv o d dv cv (.func (.func k) #[] caps) L) (hL : L.length ≤ 1000)
    (hcf : ∀ (args : Array Value) (w : World), (callFunc k args).run Try.prog w = .ok (.enter k args) w)
    (HL : Hid (∀ w', Below w.heap.size w w' → Calls Try.prog k (#[.agg #[.int .i64 la, .int .i64 ln], .agg #[.int .i64 ra, .int .i64 rn]] ++ caps) w' fun e w'' => e = .returned (.int .i64 c) ∧ Below w'.heap.size w' w'')) :
    Calls Try.prog 42 #[.pointer (some ⟨a, 0, none⟩), instVal 5 la ln ra rn n u] w (StepPost a vv o d dv cv (.func (.func k) #[] caps) (L ++ [soB 5 c]) w) := by
  obtain ⟨W, hW⟩ : ∃ W, W = w.alloc (.cells #[(.int .i64 5), .int .i64 la, .int .i64 ln, .int .i64 ra, .int .i64 rn, .int .i64 n, .int .i64 u] 51) := ⟨_, rfl⟩
  have hb0 : Below w.heap.size w W := by rw [hW]; exact (Below.refl _ _).alloc (Nat.le_refl _) _
  have hal : a < w.heap.size := by obtain ⟨_, _, _, h3, _⟩ := h; exact h3
  have hz : W.heap.size = w.heap.size + 1 := by rw [hW]; simp
  have c5 := (h.below hb0).cells.2.2.2
  have x0 : W.cell? ⟨w.heap.size, 0, none⟩ = some (.int .i64 5) := by rw [hW]; simp
  have x1 : W.cell? ⟨w.heap.size, 1, none⟩ = some (.int .i64 la) := by rw [hW]; simp
  have x2 : W.cell? ⟨w.heap.size, 2, none⟩ = some (.int .i64 ln) := by rw [hW]; simp
  have x3 : W.cell? ⟨w.heap.size, 3, none⟩ = some (.int .i64 ra) := by rw [hW]; simp
  have x4 : W.cell? ⟨w.heap.size, 4, none⟩ = some (.int .i64 rn) := by rw [hW]; simp
  have KB := hide (fun (w' : World) (hb : Below W.heap.size W w') => (⟨(hb.cell (p := ⟨a, 5, none⟩) (by show a < _; omega)).trans c5, (hb.cell (p := ⟨w.heap.size, 0, none⟩) (by show w.heap.size < _; omega)).trans x0, (hb.cell (p := ⟨w.heap.size, 1, none⟩) (by show w.heap.size < _; omega)).trans x1, (hb.cell (p := ⟨w.heap.size, 2, none⟩) (by show w.heap.size < _; omega)).trans x2, (hb.cell (p := ⟨w.heap.size, 3, none⟩) (by show w.heap.size < _; omega)).trans x3, (hb.cell (p := ⟨w.heap.size, 4, none⟩) (by show w.heap.size < _; omega)).trans x4⟩ :
    w'.cell? ⟨a, 5, none⟩ = some (.func (.func k) #[] caps) ∧ w'.cell? ⟨w.heap.size, 0, none⟩ = some (.int .i64 5) ∧ w'.cell? ⟨w.heap.size, 1, none⟩ = some (.int .i64 la) ∧ w'.cell? ⟨w.heap.size, 2, none⟩ = some (.int .i64 ln) ∧ w'.cell? ⟨w.heap.size, 3, none⟩ = some (.int .i64 ra) ∧ w'.cell? ⟨w.heap.size, 4, none⟩ = some (.int .i64 rn)))
  have KP := hide (fun (w1 w2 : World) (hb : Below W.heap.size W w1) (ha : AskAt w2 a w2.heap.size vv o d dv cv (.func (.func k) #[] caps) (L ++ [soB 5 c])) (hp : Past w.heap.size w1 w2) => by
    obtain ⟨q0, q1, q2, q3, q4, q5⟩ := KB.out w1 hb
    have hs : w.heap.size < w1.heap.size := by have := hb.size; omega
    exact (⟨ha.cells.2.2.2, (hp.cell (Nat.le_refl _) hs).trans q1, (hp.cell (Nat.le_refl _) hs).trans q2, (hp.cell (Nat.le_refl _) hs).trans q3, (hp.cell (Nat.le_refl _) hs).trans q4, (hp.cell (Nat.le_refl _) hs).trans q5⟩ :
      w2.cell? ⟨a, 5, none⟩ = some (.func (.func k) #[] caps) ∧ w2.cell? ⟨w.heap.size, 0, none⟩ = some (.int .i64 5) ∧ w2.cell? ⟨w.heap.size, 1, none⟩ = some (.int .i64 la) ∧ w2.cell? ⟨w.heap.size, 2, none⟩ = some (.int .i64 ln) ∧ w2.cell? ⟨w.heap.size, 3, none⟩ = some (.int .i64 ra) ∧ w2.cell? ⟨w.heap.size, 4, none⟩ = some (.int .i64 rn)))
  have H := hide h
  have HW := hide hW
  have HB := hide hb0
  clear h hb0 hW
  go_enter Try.func42, Try.ntmps42
  go_wp2_with fail
  rw [← HW.out]
  have hS0 := KB.out W.drew ((Below.refl _ _).drew)
  go_region_held3 (fun w' => w'.cell? ⟨a, 5, none⟩ = some (.func (.func k) #[] caps) ∧ w'.cell? ⟨w.heap.size, 0, none⟩ = some (.int .i64 5) ∧ w'.cell? ⟨w.heap.size, 1, none⟩ = some (.int .i64 la) ∧ w'.cell? ⟨w.heap.size, 2, none⟩ = some (.int .i64 ln) ∧ w'.cell? ⟨w.heap.size, 3, none⟩ = some (.int .i64 ra) ∧ w'.cell? ⟨w.heap.size, 4, none⟩ = some (.int .i64 rn)) (assumption)
    (first
      | (go_at_call 68; refine (so_any _ _ _).mono ?_; rintro e w' ⟨rfl, rfl⟩)
      | (go_at_call 67; (with_reducible refine (askPush a w.heap.size vv o d dv cv _ L _ _ (H.out.below hbw1) hL).mono ?_); rintro e w2 ⟨rfl, ha, hbl, hsz, hpast⟩; have K2 := KP.out _ _ hbW1 ha hpast)
      | ((with_reducible refine (HL.out _ HB.out.drew).mono ?_); rintro e w1 ⟨rfl, hb1⟩; have hbW1 : Below W.heap.size W w1 := (Below.refl W.heap.size W).drew.trans hb1; have K1 := KB.out w1 hbW1; have hbw1 : Below w.heap.size w w1 := HB.out.trans (hbW1.mono HB.out.size)))
  all_goals
    go_wp2_with fail
    go_end0
    exact ⟨rfl, ha, (hbw1.mono (Nat.le_of_lt hal)).trans hbl, Nat.le_trans hbw1.size hsz⟩
set_option maxRecDepth 100000 in
set_option maxHeartbeats 4000000 in
theorem stepNo5 (la ln ra rn n u : Int) (a k : Nat) (caps : Array Value) (vv : Value) (o d : Int) (dv cv : Value) (L : List Bool) (w : World) (h : AskAt w a w.heap.size vv o d dv cv (.func (.func k) #[] caps) L) (hL : L.length ≤ 1000)
    (hcf : ∀ (args : Array Value) (w : World), (callFunc k args).run Try.prog w = .ok (.enter k args) w)
    (HL : Hid (∀ w', Below w.heap.size w w' → Calls Try.prog k (#[.agg #[.int .i64 la, .int .i64 ln], .agg #[.int .i64 ra, .int .i64 rn]] ++ caps) w' fun e w'' => e = .panicked lostP ∧ Below w'.heap.size w' w'')) :
    Calls Try.prog 42 #[.pointer (some ⟨a, 0, none⟩), instVal 5 la ln ra rn n u] w fun e w' => e = .panicked lostP ∧ Below a w w' := by
  obtain ⟨W, hW⟩ : ∃ W, W = w.alloc (.cells #[(.int .i64 5), .int .i64 la, .int .i64 ln, .int .i64 ra, .int .i64 rn, .int .i64 n, .int .i64 u] 51) := ⟨_, rfl⟩
  have hb0 : Below w.heap.size w W := by rw [hW]; exact (Below.refl _ _).alloc (Nat.le_refl _) _
  have hal : a < w.heap.size := by obtain ⟨_, _, _, h3, _⟩ := h; exact h3
  have hz : W.heap.size = w.heap.size + 1 := by rw [hW]; simp
  have c5 := (h.below hb0).cells.2.2.2
  have x0 : W.cell? ⟨w.heap.size, 0, none⟩ = some (.int .i64 5) := by rw [hW]; simp
  have x1 : W.cell? ⟨w.heap.size, 1, none⟩ = some (.int .i64 la) := by rw [hW]; simp
  have x2 : W.cell? ⟨w.heap.size, 2, none⟩ = some (.int .i64 ln) := by rw [hW]; simp
  have x3 : W.cell? ⟨w.heap.size, 3, none⟩ = some (.int .i64 ra) := by rw [hW]; simp
  have x4 : W.cell? ⟨w.heap.size, 4, none⟩ = some (.int .i64 rn) := by rw [hW]; simp
  have KB := hide (fun (w' : World) (hb : Below W.heap.size W w') => (⟨(hb.cell (p := ⟨a, 5, none⟩) (by show a < _; omega)).trans c5, (hb.cell (p := ⟨w.heap.size, 0, none⟩) (by show w.heap.size < _; omega)).trans x0, (hb.cell (p := ⟨w.heap.size, 1, none⟩) (by show w.heap.size < _; omega)).trans x1, (hb.cell (p := ⟨w.heap.size, 2, none⟩) (by show w.heap.size < _; omega)).trans x2, (hb.cell (p := ⟨w.heap.size, 3, none⟩) (by show w.heap.size < _; omega)).trans x3, (hb.cell (p := ⟨w.heap.size, 4, none⟩) (by show w.heap.size < _; omega)).trans x4⟩ :
    w'.cell? ⟨a, 5, none⟩ = some (.func (.func k) #[] caps) ∧ w'.cell? ⟨w.heap.size, 0, none⟩ = some (.int .i64 5) ∧ w'.cell? ⟨w.heap.size, 1, none⟩ = some (.int .i64 la) ∧ w'.cell? ⟨w.heap.size, 2, none⟩ = some (.int .i64 ln) ∧ w'.cell? ⟨w.heap.size, 3, none⟩ = some (.int .i64 ra) ∧ w'.cell? ⟨w.heap.size, 4, none⟩ = some (.int .i64 rn)))
  have H := hide h
  have HW := hide hW
  have HB := hide hb0
  clear h hb0 hW
  go_enter Try.func42, Try.ntmps42
  go_wp2_with fail
  rw [← HW.out]
  have hS0 := KB.out W.drew ((Below.refl _ _).drew)
  refine wp_region_held (S := fun w' => w'.cell? ⟨a, 5, none⟩ = some (.func (.func k) #[] caps) ∧ w'.cell? ⟨w.heap.size, 0, none⟩ = some (.int .i64 5) ∧ w'.cell? ⟨w.heap.size, 1, none⟩ = some (.int .i64 la) ∧ w'.cell? ⟨w.heap.size, 2, none⟩ = some (.int .i64 ln) ∧ w'.cell? ⟨w.heap.size, 3, none⟩ = some (.int .i64 ra) ∧ w'.cell? ⟨w.heap.size, 4, none⟩ = some (.int .i64 rn)) (by kernel_rfl) ?_
  refine wpAnyH_take (i := 0) (v := .pointer (some ⟨a, 0, none⟩)) rfl (by kernel_rfl) (by kernel_rfl) (by kernel_rfl) (fun _ _ _ h => h) (Or.inl ⟨by rfl, ?_⟩) hS0 ?_
  · intro w hSw; obtain ⟨q0, q1, q2, q3, q4, q5⟩ := hSw; go_simp
  refine wpAnyH_take (i := 1) (v := .pointer (some ⟨w.heap.size, 0, none⟩)) rfl (by kernel_rfl) (by kernel_rfl) (by kernel_rfl) (fun _ _ _ h => h) (Or.inl ⟨by rfl, ?_⟩) hS0 ?_
  · intro w hSw; obtain ⟨q0, q1, q2, q3, q4, q5⟩ := hSw; go_simp
  refine wpAnyH_take (i := 2) (v := .int .i64 5) rfl (by kernel_rfl) (by kernel_rfl) (by kernel_rfl) (fun _ _ _ h => h) (Or.inl ⟨by rfl, ?_⟩) hS0 ?_
  · intro w hSw; obtain ⟨q0, q1, q2, q3, q4, q5⟩ := hSw; go_simp
  refine wpAnyH_take (i := 3) (v := .pointer (some ⟨a, 0, none⟩)) rfl (by kernel_rfl) (by kernel_rfl) (by kernel_rfl) (fun _ _ _ h => h) (Or.inl ⟨by rfl, ?_⟩) hS0 ?_
  · intro w hSw; obtain ⟨q0, q1, q2, q3, q4, q5⟩ := hSw; go_simp
  refine wpAnyH_take (i := 4) (v := .pointer (some ⟨a, 0, none⟩)) rfl (by kernel_rfl) (by kernel_rfl) (by kernel_rfl) (fun _ _ _ h => h) (Or.inl ⟨by rfl, ?_⟩) hS0 ?_
  · intro w hSw; obtain ⟨q0, q1, q2, q3, q4, q5⟩ := hSw; go_simp
  refine wpAnyH_take (i := 5) (v := .pointer (some ⟨a, 5, none⟩)) rfl (by kernel_rfl) (by kernel_rfl) (by kernel_rfl) (fun _ _ _ h => h) (Or.inl ⟨by rfl, ?_⟩) hS0 ?_
  · intro w hSw; obtain ⟨q0, q1, q2, q3, q4, q5⟩ := hSw; go_simp
  refine wpAnyH_take (i := 6) (v := .func (.func k) #[] caps) rfl (by kernel_rfl) (by kernel_rfl) (by kernel_rfl) (fun _ _ _ h => h) (Or.inl ⟨by rfl, ?_⟩) hS0 ?_
  · intro w hSw; obtain ⟨q0, q1, q2, q3, q4, q5⟩ := hSw; go_simp
  refine wpAnyH_take (i := 7) (v := .pointer (some ⟨w.heap.size, 1, none⟩)) rfl (by kernel_rfl) (by kernel_rfl) (by kernel_rfl) (fun _ _ _ h => h) (Or.inl ⟨by rfl, ?_⟩) hS0 ?_
  · intro w hSw; obtain ⟨q0, q1, q2, q3, q4, q5⟩ := hSw; go_simp
  refine wpAnyH_take (i := 8) (v := .agg #[.int .i64 la, .int .i64 ln]) rfl (by kernel_rfl) (by kernel_rfl) (by kernel_rfl) (fun _ _ _ h => h) (Or.inl ⟨by rfl, ?_⟩) hS0 ?_
  · intro w hSw; obtain ⟨q0, q1, q2, q3, q4, q5⟩ := hSw; go_simp
  refine wpAnyH_take (i := 9) (v := .pointer (some ⟨w.heap.size, 3, none⟩)) rfl (by kernel_rfl) (by kernel_rfl) (by kernel_rfl) (fun _ _ _ h => h) (Or.inl ⟨by rfl, ?_⟩) hS0 ?_
  · intro w hSw; obtain ⟨q0, q1, q2, q3, q4, q5⟩ := hSw; go_simp
  refine wpAnyH_take (i := 10) (v := .agg #[.int .i64 ra, .int .i64 rn]) rfl (by kernel_rfl) (by kernel_rfl) (by kernel_rfl) (fun _ _ _ h => h) (Or.inl ⟨by rfl, ?_⟩) hS0 ?_
  · intro w hSw; obtain ⟨q0, q1, q2, q3, q4, q5⟩ := hSw; go_simp
  refine wpAnyH_ready (rs := [11]) (by kernel_rfl) (by simp) ?_
  refine AllReadyH.cons (o := _) rfl (fun K hK => ?_) AllReadyH.nil
  go_simp
  refine (HL.out _ HB.out.drew).mono ?_
  rintro e w1 ⟨rfl, hb1⟩
  have hbW1 : Below W.heap.size W w1 := (Below.refl W.heap.size W).drew.trans hb1
  exact ⟨rfl, rfl, (HB.out.mono (Nat.le_of_lt hal)).trans (hbW1.mono (by omega))⟩
set_option maxRecDepth 100000 in
set_option maxHeartbeats 4000000 in
theorem stepCmp6 (la ln ra rn n u c : Int) (a k : Nat) (caps : Array Value) (vv : Value) (o d : Int) (dv cv : Value) (L : List Bool) (w : World) (h : AskAt w a w.heap.size vv o d dv cv (.func (.func k) #[] caps) L) (hL : L.length ≤ 1000)
    (hcf : ∀ (args : Array Value) (w : World), (callFunc k args).run Try.prog w = .ok (.enter k args) w)
    (HL : Hid (∀ w', Below w.heap.size w w' → Calls Try.prog k (#[.agg #[.int .i64 la, .int .i64 ln], .agg #[.int .i64 ra, .int .i64 rn]] ++ caps) w' fun e w'' => e = .returned (.int .i64 c) ∧ Below w'.heap.size w' w'')) :
    Calls Try.prog 42 #[.pointer (some ⟨a, 0, none⟩), instVal 6 la ln ra rn n u] w (StepPost a vv o d dv cv (.func (.func k) #[] caps) (L ++ [soB 6 c]) w) := by
  obtain ⟨W, hW⟩ : ∃ W, W = w.alloc (.cells #[(.int .i64 6), .int .i64 la, .int .i64 ln, .int .i64 ra, .int .i64 rn, .int .i64 n, .int .i64 u] 51) := ⟨_, rfl⟩
  have hb0 : Below w.heap.size w W := by rw [hW]; exact (Below.refl _ _).alloc (Nat.le_refl _) _
  have hal : a < w.heap.size := by obtain ⟨_, _, _, h3, _⟩ := h; exact h3
  have hz : W.heap.size = w.heap.size + 1 := by rw [hW]; simp
  have c5 := (h.below hb0).cells.2.2.2
  have x0 : W.cell? ⟨w.heap.size, 0, none⟩ = some (.int .i64 6) := by rw [hW]; simp
  have x1 : W.cell? ⟨w.heap.size, 1, none⟩ = some (.int .i64 la) := by rw [hW]; simp
  have x2 : W.cell? ⟨w.heap.size, 2, none⟩ = some (.int .i64 ln) := by rw [hW]; simp
  have x3 : W.cell? ⟨w.heap.size, 3, none⟩ = some (.int .i64 ra) := by rw [hW]; simp
  have x4 : W.cell? ⟨w.heap.size, 4, none⟩ = some (.int .i64 rn) := by rw [hW]; simp
  have KB := hide (fun (w' : World) (hb : Below W.heap.size W w') => (⟨(hb.cell (p := ⟨a, 5, none⟩) (by show a < _; omega)).trans c5, (hb.cell (p := ⟨w.heap.size, 0, none⟩) (by show w.heap.size < _; omega)).trans x0, (hb.cell (p := ⟨w.heap.size, 1, none⟩) (by show w.heap.size < _; omega)).trans x1, (hb.cell (p := ⟨w.heap.size, 2, none⟩) (by show w.heap.size < _; omega)).trans x2, (hb.cell (p := ⟨w.heap.size, 3, none⟩) (by show w.heap.size < _; omega)).trans x3, (hb.cell (p := ⟨w.heap.size, 4, none⟩) (by show w.heap.size < _; omega)).trans x4⟩ :
    w'.cell? ⟨a, 5, none⟩ = some (.func (.func k) #[] caps) ∧ w'.cell? ⟨w.heap.size, 0, none⟩ = some (.int .i64 6) ∧ w'.cell? ⟨w.heap.size, 1, none⟩ = some (.int .i64 la) ∧ w'.cell? ⟨w.heap.size, 2, none⟩ = some (.int .i64 ln) ∧ w'.cell? ⟨w.heap.size, 3, none⟩ = some (.int .i64 ra) ∧ w'.cell? ⟨w.heap.size, 4, none⟩ = some (.int .i64 rn)))
  have KP := hide (fun (w1 w2 : World) (hb : Below W.heap.size W w1) (ha : AskAt w2 a w2.heap.size vv o d dv cv (.func (.func k) #[] caps) (L ++ [soB 6 c])) (hp : Past w.heap.size w1 w2) => by
    obtain ⟨q0, q1, q2, q3, q4, q5⟩ := KB.out w1 hb
    have hs : w.heap.size < w1.heap.size := by have := hb.size; omega
    exact (⟨ha.cells.2.2.2, (hp.cell (Nat.le_refl _) hs).trans q1, (hp.cell (Nat.le_refl _) hs).trans q2, (hp.cell (Nat.le_refl _) hs).trans q3, (hp.cell (Nat.le_refl _) hs).trans q4, (hp.cell (Nat.le_refl _) hs).trans q5⟩ :
      w2.cell? ⟨a, 5, none⟩ = some (.func (.func k) #[] caps) ∧ w2.cell? ⟨w.heap.size, 0, none⟩ = some (.int .i64 6) ∧ w2.cell? ⟨w.heap.size, 1, none⟩ = some (.int .i64 la) ∧ w2.cell? ⟨w.heap.size, 2, none⟩ = some (.int .i64 ln) ∧ w2.cell? ⟨w.heap.size, 3, none⟩ = some (.int .i64 ra) ∧ w2.cell? ⟨w.heap.size, 4, none⟩ = some (.int .i64 rn)))
  have H := hide h
  have HW := hide hW
  have HB := hide hb0
  clear h hb0 hW
  go_enter Try.func42, Try.ntmps42
  go_wp2_with fail
  rw [← HW.out]
  have hS0 := KB.out W.drew ((Below.refl _ _).drew)
  go_region_held3 (fun w' => w'.cell? ⟨a, 5, none⟩ = some (.func (.func k) #[] caps) ∧ w'.cell? ⟨w.heap.size, 0, none⟩ = some (.int .i64 6) ∧ w'.cell? ⟨w.heap.size, 1, none⟩ = some (.int .i64 la) ∧ w'.cell? ⟨w.heap.size, 2, none⟩ = some (.int .i64 ln) ∧ w'.cell? ⟨w.heap.size, 3, none⟩ = some (.int .i64 ra) ∧ w'.cell? ⟨w.heap.size, 4, none⟩ = some (.int .i64 rn)) (assumption)
    (first
      | (go_at_call 68; refine (so_any _ _ _).mono ?_; rintro e w' ⟨rfl, rfl⟩)
      | (go_at_call 67; (with_reducible refine (askPush a w.heap.size vv o d dv cv _ L _ _ (H.out.below hbw1) hL).mono ?_); rintro e w2 ⟨rfl, ha, hbl, hsz, hpast⟩; have K2 := KP.out _ _ hbW1 ha hpast)
      | ((with_reducible refine (HL.out _ HB.out.drew).mono ?_); rintro e w1 ⟨rfl, hb1⟩; have hbW1 : Below W.heap.size W w1 := (Below.refl W.heap.size W).drew.trans hb1; have K1 := KB.out w1 hbW1; have hbw1 : Below w.heap.size w w1 := HB.out.trans (hbW1.mono HB.out.size)))
  all_goals
    go_wp2_with fail
    go_end0
    exact ⟨rfl, ha, (hbw1.mono (Nat.le_of_lt hal)).trans hbl, Nat.le_trans hbw1.size hsz⟩
set_option maxRecDepth 100000 in
set_option maxHeartbeats 4000000 in
theorem stepNo6 (la ln ra rn n u : Int) (a k : Nat) (caps : Array Value) (vv : Value) (o d : Int) (dv cv : Value) (L : List Bool) (w : World) (h : AskAt w a w.heap.size vv o d dv cv (.func (.func k) #[] caps) L) (hL : L.length ≤ 1000)
    (hcf : ∀ (args : Array Value) (w : World), (callFunc k args).run Try.prog w = .ok (.enter k args) w)
    (HL : Hid (∀ w', Below w.heap.size w w' → Calls Try.prog k (#[.agg #[.int .i64 la, .int .i64 ln], .agg #[.int .i64 ra, .int .i64 rn]] ++ caps) w' fun e w'' => e = .panicked lostP ∧ Below w'.heap.size w' w'')) :
    Calls Try.prog 42 #[.pointer (some ⟨a, 0, none⟩), instVal 6 la ln ra rn n u] w fun e w' => e = .panicked lostP ∧ Below a w w' := by
  obtain ⟨W, hW⟩ : ∃ W, W = w.alloc (.cells #[(.int .i64 6), .int .i64 la, .int .i64 ln, .int .i64 ra, .int .i64 rn, .int .i64 n, .int .i64 u] 51) := ⟨_, rfl⟩
  have hb0 : Below w.heap.size w W := by rw [hW]; exact (Below.refl _ _).alloc (Nat.le_refl _) _
  have hal : a < w.heap.size := by obtain ⟨_, _, _, h3, _⟩ := h; exact h3
  have hz : W.heap.size = w.heap.size + 1 := by rw [hW]; simp
  have c5 := (h.below hb0).cells.2.2.2
  have x0 : W.cell? ⟨w.heap.size, 0, none⟩ = some (.int .i64 6) := by rw [hW]; simp
  have x1 : W.cell? ⟨w.heap.size, 1, none⟩ = some (.int .i64 la) := by rw [hW]; simp
  have x2 : W.cell? ⟨w.heap.size, 2, none⟩ = some (.int .i64 ln) := by rw [hW]; simp
  have x3 : W.cell? ⟨w.heap.size, 3, none⟩ = some (.int .i64 ra) := by rw [hW]; simp
  have x4 : W.cell? ⟨w.heap.size, 4, none⟩ = some (.int .i64 rn) := by rw [hW]; simp
  have KB := hide (fun (w' : World) (hb : Below W.heap.size W w') => (⟨(hb.cell (p := ⟨a, 5, none⟩) (by show a < _; omega)).trans c5, (hb.cell (p := ⟨w.heap.size, 0, none⟩) (by show w.heap.size < _; omega)).trans x0, (hb.cell (p := ⟨w.heap.size, 1, none⟩) (by show w.heap.size < _; omega)).trans x1, (hb.cell (p := ⟨w.heap.size, 2, none⟩) (by show w.heap.size < _; omega)).trans x2, (hb.cell (p := ⟨w.heap.size, 3, none⟩) (by show w.heap.size < _; omega)).trans x3, (hb.cell (p := ⟨w.heap.size, 4, none⟩) (by show w.heap.size < _; omega)).trans x4⟩ :
    w'.cell? ⟨a, 5, none⟩ = some (.func (.func k) #[] caps) ∧ w'.cell? ⟨w.heap.size, 0, none⟩ = some (.int .i64 6) ∧ w'.cell? ⟨w.heap.size, 1, none⟩ = some (.int .i64 la) ∧ w'.cell? ⟨w.heap.size, 2, none⟩ = some (.int .i64 ln) ∧ w'.cell? ⟨w.heap.size, 3, none⟩ = some (.int .i64 ra) ∧ w'.cell? ⟨w.heap.size, 4, none⟩ = some (.int .i64 rn)))
  have H := hide h
  have HW := hide hW
  have HB := hide hb0
  clear h hb0 hW
  go_enter Try.func42, Try.ntmps42
  go_wp2_with fail
  rw [← HW.out]
  have hS0 := KB.out W.drew ((Below.refl _ _).drew)
  refine wp_region_held (S := fun w' => w'.cell? ⟨a, 5, none⟩ = some (.func (.func k) #[] caps) ∧ w'.cell? ⟨w.heap.size, 0, none⟩ = some (.int .i64 6) ∧ w'.cell? ⟨w.heap.size, 1, none⟩ = some (.int .i64 la) ∧ w'.cell? ⟨w.heap.size, 2, none⟩ = some (.int .i64 ln) ∧ w'.cell? ⟨w.heap.size, 3, none⟩ = some (.int .i64 ra) ∧ w'.cell? ⟨w.heap.size, 4, none⟩ = some (.int .i64 rn)) (by kernel_rfl) ?_
  refine wpAnyH_take (i := 0) (v := .pointer (some ⟨a, 0, none⟩)) rfl (by kernel_rfl) (by kernel_rfl) (by kernel_rfl) (fun _ _ _ h => h) (Or.inl ⟨by rfl, ?_⟩) hS0 ?_
  · intro w hSw; obtain ⟨q0, q1, q2, q3, q4, q5⟩ := hSw; go_simp
  refine wpAnyH_take (i := 1) (v := .pointer (some ⟨w.heap.size, 0, none⟩)) rfl (by kernel_rfl) (by kernel_rfl) (by kernel_rfl) (fun _ _ _ h => h) (Or.inl ⟨by rfl, ?_⟩) hS0 ?_
  · intro w hSw; obtain ⟨q0, q1, q2, q3, q4, q5⟩ := hSw; go_simp
  refine wpAnyH_take (i := 2) (v := .int .i64 6) rfl (by kernel_rfl) (by kernel_rfl) (by kernel_rfl) (fun _ _ _ h => h) (Or.inl ⟨by rfl, ?_⟩) hS0 ?_
  · intro w hSw; obtain ⟨q0, q1, q2, q3, q4, q5⟩ := hSw; go_simp
  refine wpAnyH_take (i := 3) (v := .pointer (some ⟨a, 0, none⟩)) rfl (by kernel_rfl) (by kernel_rfl) (by kernel_rfl) (fun _ _ _ h => h) (Or.inl ⟨by rfl, ?_⟩) hS0 ?_
  · intro w hSw; obtain ⟨q0, q1, q2, q3, q4, q5⟩ := hSw; go_simp
  refine wpAnyH_take (i := 4) (v := .pointer (some ⟨a, 0, none⟩)) rfl (by kernel_rfl) (by kernel_rfl) (by kernel_rfl) (fun _ _ _ h => h) (Or.inl ⟨by rfl, ?_⟩) hS0 ?_
  · intro w hSw; obtain ⟨q0, q1, q2, q3, q4, q5⟩ := hSw; go_simp
  refine wpAnyH_take (i := 5) (v := .pointer (some ⟨a, 5, none⟩)) rfl (by kernel_rfl) (by kernel_rfl) (by kernel_rfl) (fun _ _ _ h => h) (Or.inl ⟨by rfl, ?_⟩) hS0 ?_
  · intro w hSw; obtain ⟨q0, q1, q2, q3, q4, q5⟩ := hSw; go_simp
  refine wpAnyH_take (i := 6) (v := .func (.func k) #[] caps) rfl (by kernel_rfl) (by kernel_rfl) (by kernel_rfl) (fun _ _ _ h => h) (Or.inl ⟨by rfl, ?_⟩) hS0 ?_
  · intro w hSw; obtain ⟨q0, q1, q2, q3, q4, q5⟩ := hSw; go_simp
  refine wpAnyH_take (i := 7) (v := .pointer (some ⟨w.heap.size, 1, none⟩)) rfl (by kernel_rfl) (by kernel_rfl) (by kernel_rfl) (fun _ _ _ h => h) (Or.inl ⟨by rfl, ?_⟩) hS0 ?_
  · intro w hSw; obtain ⟨q0, q1, q2, q3, q4, q5⟩ := hSw; go_simp
  refine wpAnyH_take (i := 8) (v := .agg #[.int .i64 la, .int .i64 ln]) rfl (by kernel_rfl) (by kernel_rfl) (by kernel_rfl) (fun _ _ _ h => h) (Or.inl ⟨by rfl, ?_⟩) hS0 ?_
  · intro w hSw; obtain ⟨q0, q1, q2, q3, q4, q5⟩ := hSw; go_simp
  refine wpAnyH_take (i := 9) (v := .pointer (some ⟨w.heap.size, 3, none⟩)) rfl (by kernel_rfl) (by kernel_rfl) (by kernel_rfl) (fun _ _ _ h => h) (Or.inl ⟨by rfl, ?_⟩) hS0 ?_
  · intro w hSw; obtain ⟨q0, q1, q2, q3, q4, q5⟩ := hSw; go_simp
  refine wpAnyH_take (i := 10) (v := .agg #[.int .i64 ra, .int .i64 rn]) rfl (by kernel_rfl) (by kernel_rfl) (by kernel_rfl) (fun _ _ _ h => h) (Or.inl ⟨by rfl, ?_⟩) hS0 ?_
  · intro w hSw; obtain ⟨q0, q1, q2, q3, q4, q5⟩ := hSw; go_simp
  refine wpAnyH_ready (rs := [11]) (by kernel_rfl) (by simp) ?_
  refine AllReadyH.cons (o := _) rfl (fun K hK => ?_) AllReadyH.nil
  go_simp
  refine (HL.out _ HB.out.drew).mono ?_
  rintro e w1 ⟨rfl, hb1⟩
  have hbW1 : Below W.heap.size W w1 := (Below.refl W.heap.size W).drew.trans hb1
  exact ⟨rfl, rfl, (HB.out.mono (Nat.le_of_lt hal)).trans (hbW1.mono (by omega))⟩
set_option maxRecDepth 100000 in
set_option maxHeartbeats 4000000 in
theorem stepCmp7 (la ln ra rn n u c : Int) (a k : Nat) (caps : Array Value) (vv : Value) (o d : Int) (dv cv : Value) (L : List Bool) (w : World) (h : AskAt w a w.heap.size vv o d dv cv (.func (.func k) #[] caps) L) (hL : L.length ≤ 1000)
    (hcf : ∀ (args : Array Value) (w : World), (callFunc k args).run Try.prog w = .ok (.enter k args) w)
    (HL : Hid (∀ w', Below w.heap.size w w' → Calls Try.prog k (#[.agg #[.int .i64 la, .int .i64 ln], .agg #[.int .i64 ra, .int .i64 rn]] ++ caps) w' fun e w'' => e = .returned (.int .i64 c) ∧ Below w'.heap.size w' w'')) :
    Calls Try.prog 42 #[.pointer (some ⟨a, 0, none⟩), instVal 7 la ln ra rn n u] w (StepPost a vv o d dv cv (.func (.func k) #[] caps) (L ++ [soB 7 c]) w) := by
  obtain ⟨W, hW⟩ : ∃ W, W = w.alloc (.cells #[(.int .i64 7), .int .i64 la, .int .i64 ln, .int .i64 ra, .int .i64 rn, .int .i64 n, .int .i64 u] 51) := ⟨_, rfl⟩
  have hb0 : Below w.heap.size w W := by rw [hW]; exact (Below.refl _ _).alloc (Nat.le_refl _) _
  have hal : a < w.heap.size := by obtain ⟨_, _, _, h3, _⟩ := h; exact h3
  have hz : W.heap.size = w.heap.size + 1 := by rw [hW]; simp
  have c5 := (h.below hb0).cells.2.2.2
  have x0 : W.cell? ⟨w.heap.size, 0, none⟩ = some (.int .i64 7) := by rw [hW]; simp
  have x1 : W.cell? ⟨w.heap.size, 1, none⟩ = some (.int .i64 la) := by rw [hW]; simp
  have x2 : W.cell? ⟨w.heap.size, 2, none⟩ = some (.int .i64 ln) := by rw [hW]; simp
  have x3 : W.cell? ⟨w.heap.size, 3, none⟩ = some (.int .i64 ra) := by rw [hW]; simp
  have x4 : W.cell? ⟨w.heap.size, 4, none⟩ = some (.int .i64 rn) := by rw [hW]; simp
  have KB := hide (fun (w' : World) (hb : Below W.heap.size W w') => (⟨(hb.cell (p := ⟨a, 5, none⟩) (by show a < _; omega)).trans c5, (hb.cell (p := ⟨w.heap.size, 0, none⟩) (by show w.heap.size < _; omega)).trans x0, (hb.cell (p := ⟨w.heap.size, 1, none⟩) (by show w.heap.size < _; omega)).trans x1, (hb.cell (p := ⟨w.heap.size, 2, none⟩) (by show w.heap.size < _; omega)).trans x2, (hb.cell (p := ⟨w.heap.size, 3, none⟩) (by show w.heap.size < _; omega)).trans x3, (hb.cell (p := ⟨w.heap.size, 4, none⟩) (by show w.heap.size < _; omega)).trans x4⟩ :
    w'.cell? ⟨a, 5, none⟩ = some (.func (.func k) #[] caps) ∧ w'.cell? ⟨w.heap.size, 0, none⟩ = some (.int .i64 7) ∧ w'.cell? ⟨w.heap.size, 1, none⟩ = some (.int .i64 la) ∧ w'.cell? ⟨w.heap.size, 2, none⟩ = some (.int .i64 ln) ∧ w'.cell? ⟨w.heap.size, 3, none⟩ = some (.int .i64 ra) ∧ w'.cell? ⟨w.heap.size, 4, none⟩ = some (.int .i64 rn)))
  have KP := hide (fun (w1 w2 : World) (hb : Below W.heap.size W w1) (ha : AskAt w2 a w2.heap.size vv o d dv cv (.func (.func k) #[] caps) (L ++ [soB 7 c])) (hp : Past w.heap.size w1 w2) => by
    obtain ⟨q0, q1, q2, q3, q4, q5⟩ := KB.out w1 hb
    have hs : w.heap.size < w1.heap.size := by have := hb.size; omega
    exact (⟨ha.cells.2.2.2, (hp.cell (Nat.le_refl _) hs).trans q1, (hp.cell (Nat.le_refl _) hs).trans q2, (hp.cell (Nat.le_refl _) hs).trans q3, (hp.cell (Nat.le_refl _) hs).trans q4, (hp.cell (Nat.le_refl _) hs).trans q5⟩ :
      w2.cell? ⟨a, 5, none⟩ = some (.func (.func k) #[] caps) ∧ w2.cell? ⟨w.heap.size, 0, none⟩ = some (.int .i64 7) ∧ w2.cell? ⟨w.heap.size, 1, none⟩ = some (.int .i64 la) ∧ w2.cell? ⟨w.heap.size, 2, none⟩ = some (.int .i64 ln) ∧ w2.cell? ⟨w.heap.size, 3, none⟩ = some (.int .i64 ra) ∧ w2.cell? ⟨w.heap.size, 4, none⟩ = some (.int .i64 rn)))
  have H := hide h
  have HW := hide hW
  have HB := hide hb0
  clear h hb0 hW
  go_enter Try.func42, Try.ntmps42
  go_wp2_with fail
  rw [← HW.out]
  have hS0 := KB.out W.drew ((Below.refl _ _).drew)
  go_region_held3 (fun w' => w'.cell? ⟨a, 5, none⟩ = some (.func (.func k) #[] caps) ∧ w'.cell? ⟨w.heap.size, 0, none⟩ = some (.int .i64 7) ∧ w'.cell? ⟨w.heap.size, 1, none⟩ = some (.int .i64 la) ∧ w'.cell? ⟨w.heap.size, 2, none⟩ = some (.int .i64 ln) ∧ w'.cell? ⟨w.heap.size, 3, none⟩ = some (.int .i64 ra) ∧ w'.cell? ⟨w.heap.size, 4, none⟩ = some (.int .i64 rn)) (assumption)
    (first
      | (go_at_call 68; refine (so_any _ _ _).mono ?_; rintro e w' ⟨rfl, rfl⟩)
      | (go_at_call 67; (with_reducible refine (askPush a w.heap.size vv o d dv cv _ L _ _ (H.out.below hbw1) hL).mono ?_); rintro e w2 ⟨rfl, ha, hbl, hsz, hpast⟩; have K2 := KP.out _ _ hbW1 ha hpast)
      | ((with_reducible refine (HL.out _ HB.out.drew).mono ?_); rintro e w1 ⟨rfl, hb1⟩; have hbW1 : Below W.heap.size W w1 := (Below.refl W.heap.size W).drew.trans hb1; have K1 := KB.out w1 hbW1; have hbw1 : Below w.heap.size w w1 := HB.out.trans (hbW1.mono HB.out.size)))
  all_goals
    go_wp2_with fail
    go_end0
    exact ⟨rfl, ha, (hbw1.mono (Nat.le_of_lt hal)).trans hbl, Nat.le_trans hbw1.size hsz⟩
set_option maxRecDepth 100000 in
set_option maxHeartbeats 4000000 in
theorem stepNo7 (la ln ra rn n u : Int) (a k : Nat) (caps : Array Value) (vv : Value) (o d : Int) (dv cv : Value) (L : List Bool) (w : World) (h : AskAt w a w.heap.size vv o d dv cv (.func (.func k) #[] caps) L) (hL : L.length ≤ 1000)
    (hcf : ∀ (args : Array Value) (w : World), (callFunc k args).run Try.prog w = .ok (.enter k args) w)
    (HL : Hid (∀ w', Below w.heap.size w w' → Calls Try.prog k (#[.agg #[.int .i64 la, .int .i64 ln], .agg #[.int .i64 ra, .int .i64 rn]] ++ caps) w' fun e w'' => e = .panicked lostP ∧ Below w'.heap.size w' w'')) :
    Calls Try.prog 42 #[.pointer (some ⟨a, 0, none⟩), instVal 7 la ln ra rn n u] w fun e w' => e = .panicked lostP ∧ Below a w w' := by
  obtain ⟨W, hW⟩ : ∃ W, W = w.alloc (.cells #[(.int .i64 7), .int .i64 la, .int .i64 ln, .int .i64 ra, .int .i64 rn, .int .i64 n, .int .i64 u] 51) := ⟨_, rfl⟩
  have hb0 : Below w.heap.size w W := by rw [hW]; exact (Below.refl _ _).alloc (Nat.le_refl _) _
  have hal : a < w.heap.size := by obtain ⟨_, _, _, h3, _⟩ := h; exact h3
  have hz : W.heap.size = w.heap.size + 1 := by rw [hW]; simp
  have c5 := (h.below hb0).cells.2.2.2
  have x0 : W.cell? ⟨w.heap.size, 0, none⟩ = some (.int .i64 7) := by rw [hW]; simp
  have x1 : W.cell? ⟨w.heap.size, 1, none⟩ = some (.int .i64 la) := by rw [hW]; simp
  have x2 : W.cell? ⟨w.heap.size, 2, none⟩ = some (.int .i64 ln) := by rw [hW]; simp
  have x3 : W.cell? ⟨w.heap.size, 3, none⟩ = some (.int .i64 ra) := by rw [hW]; simp
  have x4 : W.cell? ⟨w.heap.size, 4, none⟩ = some (.int .i64 rn) := by rw [hW]; simp
  have KB := hide (fun (w' : World) (hb : Below W.heap.size W w') => (⟨(hb.cell (p := ⟨a, 5, none⟩) (by show a < _; omega)).trans c5, (hb.cell (p := ⟨w.heap.size, 0, none⟩) (by show w.heap.size < _; omega)).trans x0, (hb.cell (p := ⟨w.heap.size, 1, none⟩) (by show w.heap.size < _; omega)).trans x1, (hb.cell (p := ⟨w.heap.size, 2, none⟩) (by show w.heap.size < _; omega)).trans x2, (hb.cell (p := ⟨w.heap.size, 3, none⟩) (by show w.heap.size < _; omega)).trans x3, (hb.cell (p := ⟨w.heap.size, 4, none⟩) (by show w.heap.size < _; omega)).trans x4⟩ :
    w'.cell? ⟨a, 5, none⟩ = some (.func (.func k) #[] caps) ∧ w'.cell? ⟨w.heap.size, 0, none⟩ = some (.int .i64 7) ∧ w'.cell? ⟨w.heap.size, 1, none⟩ = some (.int .i64 la) ∧ w'.cell? ⟨w.heap.size, 2, none⟩ = some (.int .i64 ln) ∧ w'.cell? ⟨w.heap.size, 3, none⟩ = some (.int .i64 ra) ∧ w'.cell? ⟨w.heap.size, 4, none⟩ = some (.int .i64 rn)))
  have H := hide h
  have HW := hide hW
  have HB := hide hb0
  clear h hb0 hW
  go_enter Try.func42, Try.ntmps42
  go_wp2_with fail
  rw [← HW.out]
  have hS0 := KB.out W.drew ((Below.refl _ _).drew)
  refine wp_region_held (S := fun w' => w'.cell? ⟨a, 5, none⟩ = some (.func (.func k) #[] caps) ∧ w'.cell? ⟨w.heap.size, 0, none⟩ = some (.int .i64 7) ∧ w'.cell? ⟨w.heap.size, 1, none⟩ = some (.int .i64 la) ∧ w'.cell? ⟨w.heap.size, 2, none⟩ = some (.int .i64 ln) ∧ w'.cell? ⟨w.heap.size, 3, none⟩ = some (.int .i64 ra) ∧ w'.cell? ⟨w.heap.size, 4, none⟩ = some (.int .i64 rn)) (by kernel_rfl) ?_
  refine wpAnyH_take (i := 0) (v := .pointer (some ⟨a, 0, none⟩)) rfl (by kernel_rfl) (by kernel_rfl) (by kernel_rfl) (fun _ _ _ h => h) (Or.inl ⟨by rfl, ?_⟩) hS0 ?_
  · intro w hSw; obtain ⟨q0, q1, q2, q3, q4, q5⟩ := hSw; go_simp
  refine wpAnyH_take (i := 1) (v := .pointer (some ⟨w.heap.size, 0, none⟩)) rfl (by kernel_rfl) (by kernel_rfl) (by kernel_rfl) (fun _ _ _ h => h) (Or.inl ⟨by rfl, ?_⟩) hS0 ?_
  · intro w hSw; obtain ⟨q0, q1, q2, q3, q4, q5⟩ := hSw; go_simp
  refine wpAnyH_take (i := 2) (v := .int .i64 7) rfl (by kernel_rfl) (by kernel_rfl) (by kernel_rfl) (fun _ _ _ h => h) (Or.inl ⟨by rfl, ?_⟩) hS0 ?_
  · intro w hSw; obtain ⟨q0, q1, q2, q3, q4, q5⟩ := hSw; go_simp
  refine wpAnyH_take (i := 3) (v := .pointer (some ⟨a, 0, none⟩)) rfl (by kernel_rfl) (by kernel_rfl) (by kernel_rfl) (fun _ _ _ h => h) (Or.inl ⟨by rfl, ?_⟩) hS0 ?_
  · intro w hSw; obtain ⟨q0, q1, q2, q3, q4, q5⟩ := hSw; go_simp
  refine wpAnyH_take (i := 4) (v := .pointer (some ⟨a, 0, none⟩)) rfl (by kernel_rfl) (by kernel_rfl) (by kernel_rfl) (fun _ _ _ h => h) (Or.inl ⟨by rfl, ?_⟩) hS0 ?_
  · intro w hSw; obtain ⟨q0, q1, q2, q3, q4, q5⟩ := hSw; go_simp
  refine wpAnyH_take (i := 5) (v := .pointer (some ⟨a, 5, none⟩)) rfl (by kernel_rfl) (by kernel_rfl) (by kernel_rfl) (fun _ _ _ h => h) (Or.inl ⟨by rfl, ?_⟩) hS0 ?_
  · intro w hSw; obtain ⟨q0, q1, q2, q3, q4, q5⟩ := hSw; go_simp
  refine wpAnyH_take (i := 6) (v := .func (.func k) #[] caps) rfl (by kernel_rfl) (by kernel_rfl) (by kernel_rfl) (fun _ _ _ h => h) (Or.inl ⟨by rfl, ?_⟩) hS0 ?_
  · intro w hSw; obtain ⟨q0, q1, q2, q3, q4, q5⟩ := hSw; go_simp
  refine wpAnyH_take (i := 7) (v := .pointer (some ⟨w.heap.size, 1, none⟩)) rfl (by kernel_rfl) (by kernel_rfl) (by kernel_rfl) (fun _ _ _ h => h) (Or.inl ⟨by rfl, ?_⟩) hS0 ?_
  · intro w hSw; obtain ⟨q0, q1, q2, q3, q4, q5⟩ := hSw; go_simp
  refine wpAnyH_take (i := 8) (v := .agg #[.int .i64 la, .int .i64 ln]) rfl (by kernel_rfl) (by kernel_rfl) (by kernel_rfl) (fun _ _ _ h => h) (Or.inl ⟨by rfl, ?_⟩) hS0 ?_
  · intro w hSw; obtain ⟨q0, q1, q2, q3, q4, q5⟩ := hSw; go_simp
  refine wpAnyH_take (i := 9) (v := .pointer (some ⟨w.heap.size, 3, none⟩)) rfl (by kernel_rfl) (by kernel_rfl) (by kernel_rfl) (fun _ _ _ h => h) (Or.inl ⟨by rfl, ?_⟩) hS0 ?_
  · intro w hSw; obtain ⟨q0, q1, q2, q3, q4, q5⟩ := hSw; go_simp
  refine wpAnyH_take (i := 10) (v := .agg #[.int .i64 ra, .int .i64 rn]) rfl (by kernel_rfl) (by kernel_rfl) (by kernel_rfl) (fun _ _ _ h => h) (Or.inl ⟨by rfl, ?_⟩) hS0 ?_
  · intro w hSw; obtain ⟨q0, q1, q2, q3, q4, q5⟩ := hSw; go_simp
  refine wpAnyH_ready (rs := [11]) (by kernel_rfl) (by simp) ?_
  refine AllReadyH.cons (o := _) rfl (fun K hK => ?_) AllReadyH.nil
  go_simp
  refine (HL.out _ HB.out.drew).mono ?_
  rintro e w1 ⟨rfl, hb1⟩
  have hbW1 : Below W.heap.size W w1 := (Below.refl W.heap.size W).drew.trans hb1
  exact ⟨rfl, rfl, (HB.out.mono (Nat.le_of_lt hal)).trans (hbW1.mono (by omega))⟩
set_option maxRecDepth 100000 in
set_option maxHeartbeats 4000000 in
theorem stepCmp8 (la ln ra rn n u c : Int) (a k : Nat) (caps : Array Value) (vv : Value) (o d : Int) (dv cv : Value) (L : List Bool) (w : World) (h : AskAt w a w.heap.size vv o d dv cv (.func (.func k) #[] caps) L) (hL : L.length ≤ 1000)
    (hcf : ∀ (args : Array Value) (w : World), (callFunc k args).run Try.prog w = .ok (.enter k args) w)
    (HL : Hid (∀ w', Below w.heap.size w w' → Calls Try.prog k (#[.agg #[.int .i64 la, .int .i64 ln], .agg #[.int .i64 ra, .int .i64 rn]] ++ caps) w' fun e w'' => e = .returned (.int .i64 c) ∧ Below w'.heap.size w' w'')) :
    Calls Try.prog 42 #[.pointer (some ⟨a, 0, none⟩), instVal 8 la ln ra rn n u] w (StepPost a vv o d dv cv (.func (.func k) #[] caps) (L ++ [soB 8 c]) w) := by
  obtain ⟨W, hW⟩ : ∃ W, W = w.alloc (.cells #[(.int .i64 8), .int .i64 la, .int .i64 ln, .int .i64 ra, .int .i64 rn, .int .i64 n, .int .i64 u] 51) := ⟨_, rfl⟩
  have hb0 : Below w.heap.size w W := by rw [hW]; exact (Below.refl _ _).alloc (Nat.le_refl _) _
  have hal : a < w.heap.size := by obtain ⟨_, _, _, h3, _⟩ := h; exact h3
  have hz : W.heap.size = w.heap.size + 1 := by rw [hW]; simp
  have c5 := (h.below hb0).cells.2.2.2
  have x0 : W.cell? ⟨w.heap.size, 0, none⟩ = some (.int .i64 8) := by rw [hW]; simp
  have x1 : W.cell? ⟨w.heap.size, 1, none⟩ = some (.int .i64 la) := by rw [hW]; simp
  have x2 : W.cell? ⟨w.heap.size, 2, none⟩ = some (.int .i64 ln) := by rw [hW]; simp
  have x3 : W.cell? ⟨w.heap.size, 3, none⟩ = some (.int .i64 ra) := by rw [hW]; simp
  have x4 : W.cell? ⟨w.heap.size, 4, none⟩ = some (.int .i64 rn) := by rw [hW]; simp
  have KB := hide (fun (w' : World) (hb : Below W.heap.size W w') => (⟨(hb.cell (p := ⟨a, 5, none⟩) (by show a < _; omega)).trans c5, (hb.cell (p := ⟨w.heap.size, 0, none⟩) (by show w.heap.size < _; omega)).trans x0, (hb.cell (p := ⟨w.heap.size, 1, none⟩) (by show w.heap.size < _; omega)).trans x1, (hb.cell (p := ⟨w.heap.size, 2, none⟩) (by show w.heap.size < _; omega)).trans x2, (hb.cell (p := ⟨w.heap.size, 3, none⟩) (by show w.heap.size < _; omega)).trans x3, (hb.cell (p := ⟨w.heap.size, 4, none⟩) (by show w.heap.size < _; omega)).trans x4⟩ :
    w'.cell? ⟨a, 5, none⟩ = some (.func (.func k) #[] caps) ∧ w'.cell? ⟨w.heap.size, 0, none⟩ = some (.int .i64 8) ∧ w'.cell? ⟨w.heap.size, 1, none⟩ = some (.int .i64 la) ∧ w'.cell? ⟨w.heap.size, 2, none⟩ = some (.int .i64 ln) ∧ w'.cell? ⟨w.heap.size, 3, none⟩ = some (.int .i64 ra) ∧ w'.cell? ⟨w.heap.size, 4, none⟩ = some (.int .i64 rn)))
  have KP := hide (fun (w1 w2 : World) (hb : Below W.heap.size W w1) (ha : AskAt w2 a w2.heap.size vv o d dv cv (.func (.func k) #[] caps) (L ++ [soB 8 c])) (hp : Past w.heap.size w1 w2) => by
    obtain ⟨q0, q1, q2, q3, q4, q5⟩ := KB.out w1 hb
    have hs : w.heap.size < w1.heap.size := by have := hb.size; omega
    exact (⟨ha.cells.2.2.2, (hp.cell (Nat.le_refl _) hs).trans q1, (hp.cell (Nat.le_refl _) hs).trans q2, (hp.cell (Nat.le_refl _) hs).trans q3, (hp.cell (Nat.le_refl _) hs).trans q4, (hp.cell (Nat.le_refl _) hs).trans q5⟩ :
      w2.cell? ⟨a, 5, none⟩ = some (.func (.func k) #[] caps) ∧ w2.cell? ⟨w.heap.size, 0, none⟩ = some (.int .i64 8) ∧ w2.cell? ⟨w.heap.size, 1, none⟩ = some (.int .i64 la) ∧ w2.cell? ⟨w.heap.size, 2, none⟩ = some (.int .i64 ln) ∧ w2.cell? ⟨w.heap.size, 3, none⟩ = some (.int .i64 ra) ∧ w2.cell? ⟨w.heap.size, 4, none⟩ = some (.int .i64 rn)))
  have H := hide h
  have HW := hide hW
  have HB := hide hb0
  clear h hb0 hW
  go_enter Try.func42, Try.ntmps42
  go_wp2_with fail
  rw [← HW.out]
  have hS0 := KB.out W.drew ((Below.refl _ _).drew)
  go_region_held3 (fun w' => w'.cell? ⟨a, 5, none⟩ = some (.func (.func k) #[] caps) ∧ w'.cell? ⟨w.heap.size, 0, none⟩ = some (.int .i64 8) ∧ w'.cell? ⟨w.heap.size, 1, none⟩ = some (.int .i64 la) ∧ w'.cell? ⟨w.heap.size, 2, none⟩ = some (.int .i64 ln) ∧ w'.cell? ⟨w.heap.size, 3, none⟩ = some (.int .i64 ra) ∧ w'.cell? ⟨w.heap.size, 4, none⟩ = some (.int .i64 rn)) (assumption)
    (first
      | (go_at_call 68; refine (so_any _ _ _).mono ?_; rintro e w' ⟨rfl, rfl⟩)
      | (go_at_call 67; (with_reducible refine (askPush a w.heap.size vv o d dv cv _ L _ _ (H.out.below hbw1) hL).mono ?_); rintro e w2 ⟨rfl, ha, hbl, hsz, hpast⟩; have K2 := KP.out _ _ hbW1 ha hpast)
      | ((with_reducible refine (HL.out _ HB.out.drew).mono ?_); rintro e w1 ⟨rfl, hb1⟩; have hbW1 : Below W.heap.size W w1 := (Below.refl W.heap.size W).drew.trans hb1; have K1 := KB.out w1 hbW1; have hbw1 : Below w.heap.size w w1 := HB.out.trans (hbW1.mono HB.out.size)))
  all_goals
    go_wp2_with fail
    go_end0
    exact ⟨rfl, ha, (hbw1.mono (Nat.le_of_lt hal)).trans hbl, Nat.le_trans hbw1.size hsz⟩
set_option maxRecDepth 100000 in
set_option maxHeartbeats 4000000 in
theorem stepNo8 (la ln ra rn n u : Int) (a k : Nat) (caps : Array Value) (vv : Value) (o d : Int) (dv cv : Value) (L : List Bool) (w : World) (h : AskAt w a w.heap.size vv o d dv cv (.func (.func k) #[] caps) L) (hL : L.length ≤ 1000)
    (hcf : ∀ (args : Array Value) (w : World), (callFunc k args).run Try.prog w = .ok (.enter k args) w)
    (HL : Hid (∀ w', Below w.heap.size w w' → Calls Try.prog k (#[.agg #[.int .i64 la, .int .i64 ln], .agg #[.int .i64 ra, .int .i64 rn]] ++ caps) w' fun e w'' => e = .panicked lostP ∧ Below w'.heap.size w' w'')) :
    Calls Try.prog 42 #[.pointer (some ⟨a, 0, none⟩), instVal 8 la ln ra rn n u] w fun e w' => e = .panicked lostP ∧ Below a w w' := by
  obtain ⟨W, hW⟩ : ∃ W, W = w.alloc (.cells #[(.int .i64 8), .int .i64 la, .int .i64 ln, .int .i64 ra, .int .i64 rn, .int .i64 n, .int .i64 u] 51) := ⟨_, rfl⟩
  have hb0 : Below w.heap.size w W := by rw [hW]; exact (Below.refl _ _).alloc (Nat.le_refl _) _
  have hal : a < w.heap.size := by obtain ⟨_, _, _, h3, _⟩ := h; exact h3
  have hz : W.heap.size = w.heap.size + 1 := by rw [hW]; simp
  have c5 := (h.below hb0).cells.2.2.2
  have x0 : W.cell? ⟨w.heap.size, 0, none⟩ = some (.int .i64 8) := by rw [hW]; simp
  have x1 : W.cell? ⟨w.heap.size, 1, none⟩ = some (.int .i64 la) := by rw [hW]; simp
  have x2 : W.cell? ⟨w.heap.size, 2, none⟩ = some (.int .i64 ln) := by rw [hW]; simp
  have x3 : W.cell? ⟨w.heap.size, 3, none⟩ = some (.int .i64 ra) := by rw [hW]; simp
  have x4 : W.cell? ⟨w.heap.size, 4, none⟩ = some (.int .i64 rn) := by rw [hW]; simp
  have KB := hide (fun (w' : World) (hb : Below W.heap.size W w') => (⟨(hb.cell (p := ⟨a, 5, none⟩) (by show a < _; omega)).trans c5, (hb.cell (p := ⟨w.heap.size, 0, none⟩) (by show w.heap.size < _; omega)).trans x0, (hb.cell (p := ⟨w.heap.size, 1, none⟩) (by show w.heap.size < _; omega)).trans x1, (hb.cell (p := ⟨w.heap.size, 2, none⟩) (by show w.heap.size < _; omega)).trans x2, (hb.cell (p := ⟨w.heap.size, 3, none⟩) (by show w.heap.size < _; omega)).trans x3, (hb.cell (p := ⟨w.heap.size, 4, none⟩) (by show w.heap.size < _; omega)).trans x4⟩ :
    w'.cell? ⟨a, 5, none⟩ = some (.func (.func k) #[] caps) ∧ w'.cell? ⟨w.heap.size, 0, none⟩ = some (.int .i64 8) ∧ w'.cell? ⟨w.heap.size, 1, none⟩ = some (.int .i64 la) ∧ w'.cell? ⟨w.heap.size, 2, none⟩ = some (.int .i64 ln) ∧ w'.cell? ⟨w.heap.size, 3, none⟩ = some (.int .i64 ra) ∧ w'.cell? ⟨w.heap.size, 4, none⟩ = some (.int .i64 rn)))
  have H := hide h
  have HW := hide hW
  have HB := hide hb0
  clear h hb0 hW
  go_enter Try.func42, Try.ntmps42
  go_wp2_with fail
  rw [← HW.out]
  have hS0 := KB.out W.drew ((Below.refl _ _).drew)
  refine wp_region_held (S := fun w' => w'.cell? ⟨a, 5, none⟩ = some (.func (.func k) #[] caps) ∧ w'.cell? ⟨w.heap.size, 0, none⟩ = some (.int .i64 8) ∧ w'.cell? ⟨w.heap.size, 1, none⟩ = some (.int .i64 la) ∧ w'.cell? ⟨w.heap.size, 2, none⟩ = some (.int .i64 ln) ∧ w'.cell? ⟨w.heap.size, 3, none⟩ = some (.int .i64 ra) ∧ w'.cell? ⟨w.heap.size, 4, none⟩ = some (.int .i64 rn)) (by kernel_rfl) ?_
  refine wpAnyH_take (i := 0) (v := .pointer (some ⟨a, 0, none⟩)) rfl (by kernel_rfl) (by kernel_rfl) (by kernel_rfl) (fun _ _ _ h => h) (Or.inl ⟨by rfl, ?_⟩) hS0 ?_
  · intro w hSw; obtain ⟨q0, q1, q2, q3, q4, q5⟩ := hSw; go_simp
  refine wpAnyH_take (i := 1) (v := .pointer (some ⟨w.heap.size, 0, none⟩)) rfl (by kernel_rfl) (by kernel_rfl) (by kernel_rfl) (fun _ _ _ h => h) (Or.inl ⟨by rfl, ?_⟩) hS0 ?_
  · intro w hSw; obtain ⟨q0, q1, q2, q3, q4, q5⟩ := hSw; go_simp
  refine wpAnyH_take (i := 2) (v := .int .i64 8) rfl (by kernel_rfl) (by kernel_rfl) (by kernel_rfl) (fun _ _ _ h => h) (Or.inl ⟨by rfl, ?_⟩) hS0 ?_
  · intro w hSw; obtain ⟨q0, q1, q2, q3, q4, q5⟩ := hSw; go_simp
  refine wpAnyH_take (i := 3) (v := .pointer (some ⟨a, 0, none⟩)) rfl (by kernel_rfl) (by kernel_rfl) (by kernel_rfl) (fun _ _ _ h => h) (Or.inl ⟨by rfl, ?_⟩) hS0 ?_
  · intro w hSw; obtain ⟨q0, q1, q2, q3, q4, q5⟩ := hSw; go_simp
  refine wpAnyH_take (i := 4) (v := .pointer (some ⟨a, 0, none⟩)) rfl (by kernel_rfl) (by kernel_rfl) (by kernel_rfl) (fun _ _ _ h => h) (Or.inl ⟨by rfl, ?_⟩) hS0 ?_
  · intro w hSw; obtain ⟨q0, q1, q2, q3, q4, q5⟩ := hSw; go_simp
  refine wpAnyH_take (i := 5) (v := .pointer (some ⟨a, 5, none⟩)) rfl (by kernel_rfl) (by kernel_rfl) (by kernel_rfl) (fun _ _ _ h => h) (Or.inl ⟨by rfl, ?_⟩) hS0 ?_
  · intro w hSw; obtain ⟨q0, q1, q2, q3, q4, q5⟩ := hSw; go_simp
  refine wpAnyH_take (i := 6) (v := .func (.func k) #[] caps) rfl (by kernel_rfl) (by kernel_rfl) (by kernel_rfl) (fun _ _ _ h => h) (Or.inl ⟨by rfl, ?_⟩) hS0 ?_
  · intro w hSw; obtain ⟨q0, q1, q2, q3, q4, q5⟩ := hSw; go_simp
  refine wpAnyH_take (i := 7) (v := .pointer (some ⟨w.heap.size, 1, none⟩)) rfl (by kernel_rfl) (by kernel_rfl) (by kernel_rfl) (fun _ _ _ h => h) (Or.inl ⟨by rfl, ?_⟩) hS0 ?_
  · intro w hSw; obtain ⟨q0, q1, q2, q3, q4, q5⟩ := hSw; go_simp
  refine wpAnyH_take (i := 8) (v := .agg #[.int .i64 la, .int .i64 ln]) rfl (by kernel_rfl) (by kernel_rfl) (by kernel_rfl) (fun _ _ _ h => h) (Or.inl ⟨by rfl, ?_⟩) hS0 ?_
  · intro w hSw; obtain ⟨q0, q1, q2, q3, q4, q5⟩ := hSw; go_simp
  refine wpAnyH_take (i := 9) (v := .pointer (some ⟨w.heap.size, 3, none⟩)) rfl (by kernel_rfl) (by kernel_rfl) (by kernel_rfl) (fun _ _ _ h => h) (Or.inl ⟨by rfl, ?_⟩) hS0 ?_
  · intro w hSw; obtain ⟨q0, q1, q2, q3, q4, q5⟩ := hSw; go_simp
  refine wpAnyH_take (i := 10) (v := .agg #[.int .i64 ra, .int .i64 rn]) rfl (by kernel_rfl) (by kernel_rfl) (by kernel_rfl) (fun _ _ _ h => h) (Or.inl ⟨by rfl, ?_⟩) hS0 ?_
  · intro w hSw; obtain ⟨q0, q1, q2, q3, q4, q5⟩ := hSw; go_simp
  refine wpAnyH_ready (rs := [11]) (by kernel_rfl) (by simp) ?_
  refine AllReadyH.cons (o := _) rfl (fun K hK => ?_) AllReadyH.nil
  go_simp
  refine (HL.out _ HB.out.drew).mono ?_
  rintro e w1 ⟨rfl, hb1⟩
  have hbW1 : Below W.heap.size W w1 := (Below.refl W.heap.size W).drew.trans hb1
  exact ⟨rfl, rfl, (HB.out.mono (Nat.le_of_lt hal)).trans (hbW1.mono (by omega))⟩
end
section
open Go.RowKit
set_option maxRecDepth 100000 in
set_option maxHeartbeats 4000000 in
theorem stepHas9 (la ln ra rn n u : Int) (a : Nat) (vv : Value) (o d : Int) (dv cv f : Value) (L : List Bool) (w : World) (h : AskAt w a w.heap.size vv o d dv cv f L) (hL : L.length ≤ 1000) :
    Calls Try.prog 42 #[.pointer (some ⟨a, 0, none⟩), instVal 9 la ln ra rn n u] w (StepPost a vv o d dv cv f (L ++ [hasB o n]) w) := by
  obtain ⟨W, hW⟩ : ∃ W, W = w.alloc (.cells #[.int .i64 9, .int .i64 la, .int .i64 ln, .int .i64 ra, .int .i64 rn, .int .i64 n, .int .i64 u] 51) := ⟨_, rfl⟩
  have hb0 : Below w.heap.size w W := by rw [hW]; exact (Below.refl _ _).alloc (Nat.le_refl _) _
  have hal : a < w.heap.size := by obtain ⟨_, _, _, h3, _⟩ := h; exact h3
  have hz : W.heap.size = w.heap.size + 1 := by rw [hW]; simp
  have c5 := (h.below hb0).cells.2.1
  have x0 : W.cell? ⟨w.heap.size, 5, none⟩ = some (.int .i64 n) := by rw [hW]; simp
  have KB := hide (fun (w' : World) (hb : Below W.heap.size W w') => (⟨(hb.cell (p := ⟨a, 1, none⟩) (by show a < _; omega)).trans c5, (hb.cell (p := ⟨w.heap.size, 5, none⟩) (by show w.heap.size < _; omega)).trans x0⟩ :
    w'.cell? ⟨a, 1, none⟩ = some (.int .i64 o) ∧ w'.cell? ⟨w.heap.size, 5, none⟩ = some (.int .i64 n)))
  have KP := hide (fun (w1 w2 : World) (hb : Below W.heap.size W w1) (ha : AskAt w2 a w2.heap.size vv o d dv cv f (L ++ [hasB o n])) (hp : Past w.heap.size w1 w2) => by
    obtain ⟨q0, q1⟩ := KB.out w1 hb
    have hs : w.heap.size < w1.heap.size := by have := hb.size; omega
    exact (⟨ha.cells.2.1, (hp.cell (Nat.le_refl _) hs).trans q1⟩ :
      w2.cell? ⟨a, 1, none⟩ = some (.int .i64 o) ∧ w2.cell? ⟨w.heap.size, 5, none⟩ = some (.int .i64 n)))
  have H := hide h
  have HW := hide hW
  have HB := hide hb0
  clear h hb0 hW
  go_enter Try.func42, Try.ntmps42
  go_wp2_with fail
  rw [← HW.out]
  have hbW : Below W.heap.size W W.drew := (Below.refl _ _).drew
  have hbw : Below w.heap.size w W.drew := HB.out.drew
  have hS0 := KB.out W.drew hbW
  go_region_held3 (fun w' => w'.cell? ⟨a, 1, none⟩ = some (.int .i64 o) ∧ w'.cell? ⟨w.heap.size, 5, none⟩ = some (.int .i64 n)) (assumption)
    (first
      | (go_at_call 53; refine (has_any _ _ _).mono ?_; rintro e w' ⟨rfl, rfl⟩)
      | (go_at_call 67; (with_reducible refine (askPush a w.heap.size vv o d dv cv _ L _ _ (H.out.below hbw) hL).mono ?_); rintro e w2 ⟨rfl, ha, hbl, hsz, hpast⟩; have K2 := KP.out _ _ hbW ha hpast))
  all_goals
    go_wp2_with fail
    go_end0
    exact ⟨rfl, ha, (hbw.mono (Nat.le_of_lt hal)).trans hbl, Nat.le_trans hbw.size hsz⟩

set_option maxRecDepth 100000 in
set_option maxHeartbeats 4000000 in
theorem stepHas10 (la ln ra rn n u : Int) (a : Nat) (vv : Value) (o d : Int) (dv cv f : Value) (L : List Bool) (w : World) (h : AskAt w a w.heap.size vv o d dv cv f L) (hL : L.length ≤ 1000) :
    Calls Try.prog 42 #[.pointer (some ⟨a, 0, none⟩), instVal 10 la ln ra rn n u] w (StepPost a vv o d dv cv f (L ++ [hasB d n]) w) := by
  obtain ⟨W, hW⟩ : ∃ W, W = w.alloc (.cells #[.int .i64 10, .int .i64 la, .int .i64 ln, .int .i64 ra, .int .i64 rn, .int .i64 n, .int .i64 u] 51) := ⟨_, rfl⟩
  have hb0 : Below w.heap.size w W := by rw [hW]; exact (Below.refl _ _).alloc (Nat.le_refl _) _
  have hal : a < w.heap.size := by obtain ⟨_, _, _, h3, _⟩ := h; exact h3
  have hz : W.heap.size = w.heap.size + 1 := by rw [hW]; simp
  have c5 := (h.below hb0).cells.2.2.1
  have x0 : W.cell? ⟨w.heap.size, 5, none⟩ = some (.int .i64 n) := by rw [hW]; simp
  have KB := hide (fun (w' : World) (hb : Below W.heap.size W w') => (⟨(hb.cell (p := ⟨a, 2, none⟩) (by show a < _; omega)).trans c5, (hb.cell (p := ⟨w.heap.size, 5, none⟩) (by show w.heap.size < _; omega)).trans x0⟩ :
    w'.cell? ⟨a, 2, none⟩ = some (.int .i64 d) ∧ w'.cell? ⟨w.heap.size, 5, none⟩ = some (.int .i64 n)))
  have KP := hide (fun (w1 w2 : World) (hb : Below W.heap.size W w1) (ha : AskAt w2 a w2.heap.size vv o d dv cv f (L ++ [hasB d n])) (hp : Past w.heap.size w1 w2) => by
    obtain ⟨q0, q1⟩ := KB.out w1 hb
    have hs : w.heap.size < w1.heap.size := by have := hb.size; omega
    exact (⟨ha.cells.2.2.1, (hp.cell (Nat.le_refl _) hs).trans q1⟩ :
      w2.cell? ⟨a, 2, none⟩ = some (.int .i64 d) ∧ w2.cell? ⟨w.heap.size, 5, none⟩ = some (.int .i64 n)))
  have H := hide h
  have HW := hide hW
  have HB := hide hb0
  clear h hb0 hW
  go_enter Try.func42, Try.ntmps42
  go_wp2_with fail
  rw [← HW.out]
  have hbW : Below W.heap.size W W.drew := (Below.refl _ _).drew
  have hbw : Below w.heap.size w W.drew := HB.out.drew
  have hS0 := KB.out W.drew hbW
  go_region_held3 (fun w' => w'.cell? ⟨a, 2, none⟩ = some (.int .i64 d) ∧ w'.cell? ⟨w.heap.size, 5, none⟩ = some (.int .i64 n)) (assumption)
    (first
      | (go_at_call 53; refine (has_any _ _ _).mono ?_; rintro e w' ⟨rfl, rfl⟩)
      | (go_at_call 67; (with_reducible refine (askPush a w.heap.size vv o d dv cv _ L _ _ (H.out.below hbw) hL).mono ?_); rintro e w2 ⟨rfl, ha, hbl, hsz, hpast⟩; have K2 := KP.out _ _ hbW ha hpast))
  all_goals
    go_wp2_with fail
    go_end0
    exact ⟨rfl, ha, (hbw.mono (Nat.le_of_lt hal)).trans hbl, Nat.le_trans hbw.size hsz⟩

set_option maxRecDepth 100000 in
set_option maxHeartbeats 4000000 in
theorem stepNot (la ln ra rn n u : Int) (a : Nat) (vv : Value) (o d : Int) (dv cv f : Value) (L : List Bool) (b : Bool) (w : World) (h : AskAt w a w.heap.size vv o d dv cv f (L ++ [b])) (hL : L.length ≤ 999) :
    Calls Try.prog 42 #[.pointer (some ⟨a, 0, none⟩), instVal 15 la ln ra rn n u] w (StepPost a vv o d dv cv f (L ++ [!b]) w) := by
  have hb0 : Below w.heap.size w (w.alloc (.cells #[.int .i64 15, .int .i64 la, .int .i64 ln, .int .i64 ra, .int .i64 rn, .int .i64 n, .int .i64 u] 51)) := (Below.refl _ _).alloc (Nat.le_refl _) _
  have hal : a < w.heap.size := by obtain ⟨_, _, _, h3, _⟩ := h; exact h3
  have Hp := hide (askPop a w.heap.size vv o d dv cv f L b _ (h.below hb0) (by omega))
  have HB := hide hb0
  clear h hb0
  go_enter Try.func42, Try.ntmps42
  go_wp2_with (first
    | (go_at_call 43; refine Hp.out.mono ?_; rintro e w1 ⟨rfl, ha, hbl, hsz, _⟩)
    | (go_at_call 67; (with_reducible refine (askPush a w.heap.size vv o d dv cv _ L _ _ ha (by omega)).mono ?_); rintro e w2 ⟨rfl, ha2, hbl2, hsz2, _⟩))
  go_end0
  have h1 := (HB.out.mono (Nat.le_of_lt hal)).trans hbl
  exact ⟨rfl, ha2, h1.trans hbl2, Nat.le_trans (Nat.le_trans HB.out.size hsz) hsz2⟩
set_option maxRecDepth 100000 in
set_option maxHeartbeats 4000000 in
theorem stepNotNone (la ln ra rn n u : Int) (a : Nat) (vv : Value) (o d : Int) (dv cv f : Value) (w : World) (h : AskAt w a w.heap.size vv o d dv cv f []) :
    Calls Try.prog 42 #[.pointer (some ⟨a, 0, none⟩), instVal 15 la ln ra rn n u] w fun e w' => e = .panicked lostP ∧ Below a w w' := by
  have hb0 : Below w.heap.size w (w.alloc (.cells #[.int .i64 15, .int .i64 la, .int .i64 ln, .int .i64 ra, .int .i64 rn, .int .i64 n, .int .i64 u] 51)) := (Below.refl _ _).alloc (Nat.le_refl _) _
  have hal : a < w.heap.size := by obtain ⟨_, _, _, h3, _⟩ := h; exact h3
  have Hp := hide (askPopNone a w.heap.size vv o d dv cv f _ (h.below hb0))
  have HB := hide hb0
  clear h hb0
  go_enter Try.func42, Try.ntmps42
  go_wp2_with (first
    | (go_at_call 43; refine Hp.out.mono ?_; rintro e w1 ⟨rfl, rfl⟩))
  exact ⟨rfl, rfl, HB.out.mono (Nat.le_of_lt hal)⟩

set_option maxRecDepth 100000 in
set_option maxHeartbeats 4000000 in
theorem stepBin16 (la ln ra rn n u : Int) (a : Nat) (vv : Value) (o d : Int) (dv cv f : Value) (L : List Bool) (x y : Bool) (w : World) (h : AskAt w a w.heap.size vv o d dv cv f ((L ++ [x]) ++ [y])) (hL : L.length ≤ 998) :
    Calls Try.prog 42 #[.pointer (some ⟨a, 0, none⟩), instVal 16 la ln ra rn n u] w (StepPost a vv o d dv cv f (L ++ [x && y]) w) := by
  obtain ⟨W, hW⟩ : ∃ W, W = w.alloc (.cells #[.int .i64 16, .int .i64 la, .int .i64 ln, .int .i64 ra, .int .i64 rn, .int .i64 n, .int .i64 u] 51) := ⟨_, rfl⟩
  have hb0 : Below w.heap.size w W := by rw [hW]; exact (Below.refl _ _).alloc (Nat.le_refl _) _
  have hal : a < w.heap.size := by obtain ⟨_, _, _, h3, _⟩ := h; exact h3
  have x0 : W.cell? ⟨w.heap.size, 0, none⟩ = some (.int .i64 16) := by rw [hW]; simp
  have hz : W.heap.size = w.heap.size + 1 := by rw [hW]; simp
  have Hp := hide (askPop a w.heap.size vv o d dv cv f (L ++ [x]) y _ (h.below hb0) (by simp; omega))
  have HB := hide hb0
  have HW := hide hW
  clear h hb0 hW
  cases x <;> cases y
  all_goals
    go_enter Try.func42, Try.ntmps42
    go_wp2_with fail
    rw [← HW.out]
    refine Hp.out.mono ?_
    rintro e w1 ⟨rfl, ha, hbl, hsz, hp1⟩
    have y0 := (hp1.cell (i := 0) (Nat.le_refl _) (by omega)).trans x0
    have hs1 : w.heap.size < w1.heap.size := by omega
    go_wp2_with fail
    refine (askPop a w.heap.size vv o d dv cv f L _ _ ha (by omega)).mono ?_
    rintro e w2 ⟨rfl, ha2, hbl2, hsz2, hp2⟩
    have z0 := (hp2.cell (i := 0) (Nat.le_refl _) hs1).trans y0
    have Ha := hide ha
    clear x0 y0 hp1 hp2 ha
    go_wp2_with fail
    refine (askPush a w.heap.size vv o d dv cv f L _ _ ha2 (by omega)).mono ?_
    rintro e w3 ⟨rfl, ha3, hbl3, hsz3, hp3⟩
    go_wp2_with fail
    go_end0
    have h1 := ((HB.out.mono (Nat.le_of_lt hal)).trans hbl).trans hbl2
    exact ⟨rfl, ha3, h1.trans hbl3, by omega⟩

set_option maxRecDepth 100000 in
set_option maxHeartbeats 4000000 in
theorem stepBinNone16 (la ln ra rn n u : Int) (a : Nat) (vv : Value) (o d : Int) (dv cv f : Value) (L : List Bool) (w : World) (h : AskAt w a w.heap.size vv o d dv cv f L) (hL : L.length < 2) :
    Calls Try.prog 42 #[.pointer (some ⟨a, 0, none⟩), instVal 16 la ln ra rn n u] w fun e w' => e = .panicked lostP ∧ Below a w w' := by
  have hb0 : Below w.heap.size w (w.alloc (.cells #[.int .i64 16, .int .i64 la, .int .i64 ln, .int .i64 ra, .int .i64 rn, .int .i64 n, .int .i64 u] 51)) := (Below.refl _ _).alloc (Nat.le_refl _) _
  have hal : a < w.heap.size := by obtain ⟨_, _, _, h3, _⟩ := h; exact h3
  have HB := hide hb0
  match L, hL with
  | [], _ =>
    have Hp := hide (askPopNone a w.heap.size vv o d dv cv f _ (h.below hb0))
    clear h hb0
    go_enter Try.func42, Try.ntmps42
    go_wp2_with (first
      | (go_at_call 43; refine Hp.out.mono ?_; rintro e w1 ⟨rfl, rfl⟩))
    exact ⟨rfl, rfl, HB.out.mono (Nat.le_of_lt hal)⟩
  | [y], _ =>
    have Hp := hide (askPop a w.heap.size vv o d dv cv f [] y _ (h.below hb0) (by simp))
    clear h hb0
    go_enter Try.func42, Try.ntmps42
    go_wp2_with fail
    refine Hp.out.mono ?_
    rintro e w1 ⟨rfl, ha, hbl, hsz, hp1⟩
    go_wp2_with fail
    refine (askPopNone a w.heap.size vv o d dv cv f _ ha).mono ?_
    rintro e w2 ⟨rfl, rfl⟩
    exact ⟨rfl, rfl, (HB.out.mono (Nat.le_of_lt hal)).trans hbl⟩

set_option maxRecDepth 100000 in
set_option maxHeartbeats 4000000 in
theorem stepBin17 (la ln ra rn n u : Int) (a : Nat) (vv : Value) (o d : Int) (dv cv f : Value) (L : List Bool) (x y : Bool) (w : World) (h : AskAt w a w.heap.size vv o d dv cv f ((L ++ [x]) ++ [y])) (hL : L.length ≤ 998) :
    Calls Try.prog 42 #[.pointer (some ⟨a, 0, none⟩), instVal 17 la ln ra rn n u] w (StepPost a vv o d dv cv f (L ++ [x || y]) w) := by
  obtain ⟨W, hW⟩ : ∃ W, W = w.alloc (.cells #[.int .i64 17, .int .i64 la, .int .i64 ln, .int .i64 ra, .int .i64 rn, .int .i64 n, .int .i64 u] 51) := ⟨_, rfl⟩
  have hb0 : Below w.heap.size w W := by rw [hW]; exact (Below.refl _ _).alloc (Nat.le_refl _) _
  have hal : a < w.heap.size := by obtain ⟨_, _, _, h3, _⟩ := h; exact h3
  have x0 : W.cell? ⟨w.heap.size, 0, none⟩ = some (.int .i64 17) := by rw [hW]; simp
  have hz : W.heap.size = w.heap.size + 1 := by rw [hW]; simp
  have Hp := hide (askPop a w.heap.size vv o d dv cv f (L ++ [x]) y _ (h.below hb0) (by simp; omega))
  have HB := hide hb0
  have HW := hide hW
  clear h hb0 hW
  cases x <;> cases y
  all_goals
    go_enter Try.func42, Try.ntmps42
    go_wp2_with fail
    rw [← HW.out]
    refine Hp.out.mono ?_
    rintro e w1 ⟨rfl, ha, hbl, hsz, hp1⟩
    have y0 := (hp1.cell (i := 0) (Nat.le_refl _) (by omega)).trans x0
    have hs1 : w.heap.size < w1.heap.size := by omega
    go_wp2_with fail
    refine (askPop a w.heap.size vv o d dv cv f L _ _ ha (by omega)).mono ?_
    rintro e w2 ⟨rfl, ha2, hbl2, hsz2, hp2⟩
    have z0 := (hp2.cell (i := 0) (Nat.le_refl _) hs1).trans y0
    have Ha := hide ha
    clear x0 y0 hp1 hp2 ha
    go_wp2_with fail
    refine (askPush a w.heap.size vv o d dv cv f L _ _ ha2 (by omega)).mono ?_
    rintro e w3 ⟨rfl, ha3, hbl3, hsz3, hp3⟩
    go_wp2_with fail
    go_end0
    have h1 := ((HB.out.mono (Nat.le_of_lt hal)).trans hbl).trans hbl2
    exact ⟨rfl, ha3, h1.trans hbl3, by omega⟩

set_option maxRecDepth 100000 in
set_option maxHeartbeats 4000000 in
theorem stepBinNone17 (la ln ra rn n u : Int) (a : Nat) (vv : Value) (o d : Int) (dv cv f : Value) (L : List Bool) (w : World) (h : AskAt w a w.heap.size vv o d dv cv f L) (hL : L.length < 2) :
    Calls Try.prog 42 #[.pointer (some ⟨a, 0, none⟩), instVal 17 la ln ra rn n u] w fun e w' => e = .panicked lostP ∧ Below a w w' := by
  have hb0 : Below w.heap.size w (w.alloc (.cells #[.int .i64 17, .int .i64 la, .int .i64 ln, .int .i64 ra, .int .i64 rn, .int .i64 n, .int .i64 u] 51)) := (Below.refl _ _).alloc (Nat.le_refl _) _
  have hal : a < w.heap.size := by obtain ⟨_, _, _, h3, _⟩ := h; exact h3
  have HB := hide hb0
  match L, hL with
  | [], _ =>
    have Hp := hide (askPopNone a w.heap.size vv o d dv cv f _ (h.below hb0))
    clear h hb0
    go_enter Try.func42, Try.ntmps42
    go_wp2_with (first
      | (go_at_call 43; refine Hp.out.mono ?_; rintro e w1 ⟨rfl, rfl⟩))
    exact ⟨rfl, rfl, HB.out.mono (Nat.le_of_lt hal)⟩
  | [y], _ =>
    have Hp := hide (askPop a w.heap.size vv o d dv cv f [] y _ (h.below hb0) (by simp))
    clear h hb0
    go_enter Try.func42, Try.ntmps42
    go_wp2_with fail
    refine Hp.out.mono ?_
    rintro e w1 ⟨rfl, ha, hbl, hsz, hp1⟩
    go_wp2_with fail
    refine (askPopNone a w.heap.size vv o d dv cv f _ ha).mono ?_
    rintro e w2 ⟨rfl, rfl⟩
    exact ⟨rfl, rfl, (HB.out.mono (Nat.le_of_lt hal)).trans hbl⟩

set_option maxRecDepth 100000 in
set_option maxHeartbeats 4000000 in
theorem stepBin18 (la ln ra rn n u : Int) (a : Nat) (vv : Value) (o d : Int) (dv cv f : Value) (L : List Bool) (x y : Bool) (w : World) (h : AskAt w a w.heap.size vv o d dv cv f ((L ++ [x]) ++ [y])) (hL : L.length ≤ 998) :
    Calls Try.prog 42 #[.pointer (some ⟨a, 0, none⟩), instVal 18 la ln ra rn n u] w (StepPost a vv o d dv cv f (L ++ [!x || y]) w) := by
  obtain ⟨W, hW⟩ : ∃ W, W = w.alloc (.cells #[.int .i64 18, .int .i64 la, .int .i64 ln, .int .i64 ra, .int .i64 rn, .int .i64 n, .int .i64 u] 51) := ⟨_, rfl⟩
  have hb0 : Below w.heap.size w W := by rw [hW]; exact (Below.refl _ _).alloc (Nat.le_refl _) _
  have hal : a < w.heap.size := by obtain ⟨_, _, _, h3, _⟩ := h; exact h3
  have x0 : W.cell? ⟨w.heap.size, 0, none⟩ = some (.int .i64 18) := by rw [hW]; simp
  have hz : W.heap.size = w.heap.size + 1 := by rw [hW]; simp
  have Hp := hide (askPop a w.heap.size vv o d dv cv f (L ++ [x]) y _ (h.below hb0) (by simp; omega))
  have HB := hide hb0
  have HW := hide hW
  clear h hb0 hW
  cases x <;> cases y
  all_goals
    go_enter Try.func42, Try.ntmps42
    go_wp2_with fail
    rw [← HW.out]
    refine Hp.out.mono ?_
    rintro e w1 ⟨rfl, ha, hbl, hsz, hp1⟩
    have y0 := (hp1.cell (i := 0) (Nat.le_refl _) (by omega)).trans x0
    have hs1 : w.heap.size < w1.heap.size := by omega
    go_wp2_with fail
    refine (askPop a w.heap.size vv o d dv cv f L _ _ ha (by omega)).mono ?_
    rintro e w2 ⟨rfl, ha2, hbl2, hsz2, hp2⟩
    have z0 := (hp2.cell (i := 0) (Nat.le_refl _) hs1).trans y0
    have Ha := hide ha
    clear x0 y0 hp1 hp2 ha
    go_wp2_with fail
    refine (askPush a w.heap.size vv o d dv cv f L _ _ ha2 (by omega)).mono ?_
    rintro e w3 ⟨rfl, ha3, hbl3, hsz3, hp3⟩
    go_wp2_with fail
    go_end0
    have h1 := ((HB.out.mono (Nat.le_of_lt hal)).trans hbl).trans hbl2
    exact ⟨rfl, ha3, h1.trans hbl3, by omega⟩

set_option maxRecDepth 100000 in
set_option maxHeartbeats 4000000 in
theorem stepBinNone18 (la ln ra rn n u : Int) (a : Nat) (vv : Value) (o d : Int) (dv cv f : Value) (L : List Bool) (w : World) (h : AskAt w a w.heap.size vv o d dv cv f L) (hL : L.length < 2) :
    Calls Try.prog 42 #[.pointer (some ⟨a, 0, none⟩), instVal 18 la ln ra rn n u] w fun e w' => e = .panicked lostP ∧ Below a w w' := by
  have hb0 : Below w.heap.size w (w.alloc (.cells #[.int .i64 18, .int .i64 la, .int .i64 ln, .int .i64 ra, .int .i64 rn, .int .i64 n, .int .i64 u] 51)) := (Below.refl _ _).alloc (Nat.le_refl _) _
  have hal : a < w.heap.size := by obtain ⟨_, _, _, h3, _⟩ := h; exact h3
  have HB := hide hb0
  match L, hL with
  | [], _ =>
    have Hp := hide (askPopNone a w.heap.size vv o d dv cv f _ (h.below hb0))
    clear h hb0
    go_enter Try.func42, Try.ntmps42
    go_wp2_with (first
      | (go_at_call 43; refine Hp.out.mono ?_; rintro e w1 ⟨rfl, rfl⟩))
    exact ⟨rfl, rfl, HB.out.mono (Nat.le_of_lt hal)⟩
  | [y], _ =>
    have Hp := hide (askPop a w.heap.size vv o d dv cv f [] y _ (h.below hb0) (by simp))
    clear h hb0
    go_enter Try.func42, Try.ntmps42
    go_wp2_with fail
    refine Hp.out.mono ?_
    rintro e w1 ⟨rfl, ha, hbl, hsz, hp1⟩
    go_wp2_with fail
    refine (askPopNone a w.heap.size vv o d dv cv f _ ha).mono ?_
    rintro e w2 ⟨rfl, rfl⟩
    exact ⟨rfl, rfl, (HB.out.mono (Nat.le_of_lt hal)).trans hbl⟩

set_option maxRecDepth 100000 in
set_option maxHeartbeats 4000000 in
theorem stepBad (op la ln ra rn n u : Int) (a : Nat) (w : World) (hal : a ≤ w.heap.size) (h1 : (op == 1) = false) (h2 : (op == 2) = false) (h3 : (op == 3) = false) (h4 : (op == 4) = false) (h5 : (op == 5) = false) (h6 : (op == 6) = false) (h7 : (op == 7) = false) (h8 : (op == 8) = false)
    (h9 : (op == 9) = false) (h10 : (op == 10) = false) (h15 : (op == 15) = false) (h16 : (op == 16) = false) (h17 : (op == 17) = false) (h18 : (op == 18) = false) :
    Calls Try.prog 42 #[.pointer (some ⟨a, 0, none⟩), instVal op la ln ra rn n u] w fun e w' => e = .panicked lostP ∧ Below a w w' := by
  go_enter Try.func42, Try.ntmps42
  go_wp2_with fail
  exact ⟨rfl, rfl, (Below.refl _ _).alloc hal _⟩
end
section
open Go.RowKit

/-- what is asked of the function that tells a comparison -/
def LessOK (k : Nat) (caps : Array Value) (cm : Inst → Option Int) (x : Inst) (w0 : World) : Prop := ∀ w', Below w0.heap.size w0 w' →
  match cm x with
  | some c => Calls Try.prog k (#[.agg #[.int .i64 x.la, .int .i64 x.ln], .agg #[.int .i64 x.ra, .int .i64 x.rn]] ++ caps) w' fun e w'' => e = .returned (.int .i64 c) ∧ Below w'.heap.size w' w''
  | none => Calls Try.prog k (#[.agg #[.int .i64 x.la, .int .i64 x.ln], .agg #[.int .i64 x.ra, .int .i64 x.rn]] ++ caps) w' fun e w'' => e = .panicked lostP ∧ Below w'.heap.size w' w''
theorem LessOK.some_ {k : Nat} {caps : Array Value} {cm : Inst → Option Int} {x : Inst} {w0 w : World} (h : LessOK k caps cm x w0) (hb : Below w0.heap.size w0 w) {c : Int} (hc : cm x = some c) :
    Hid (∀ w', Below w.heap.size w w' → Calls Try.prog k (#[.agg #[.int .i64 x.la, .int .i64 x.ln], .agg #[.int .i64 x.ra, .int .i64 x.rn]] ++ caps) w' fun e w'' => e = .returned (.int .i64 c) ∧ Below w'.heap.size w' w'') := by
  refine hide fun w' hw => ?_
  have := h w' (hb.trans (hw.mono hb.size))
  rw [hc] at this
  exact this
theorem LessOK.none_ {k : Nat} {caps : Array Value} {cm : Inst → Option Int} {x : Inst} {w0 w : World} (h : LessOK k caps cm x w0) (hb : Below w0.heap.size w0 w) (hc : cm x = none) :
    Hid (∀ w', Below w.heap.size w w' → Calls Try.prog k (#[.agg #[.int .i64 x.la, .int .i64 x.ln], .agg #[.int .i64 x.ra, .int .i64 x.rn]] ++ caps) w' fun e w'' => e = .panicked lostP ∧ Below w'.heap.size w' w'') := by
  refine hide fun w' hw => ?_
  have := h w' (hb.trans (hw.mono hb.size))
  rw [hc] at this
  exact this
theorem snoc_of_cons {L r : List Bool} {b : Bool} (h : L.reverse = b :: r) : L = r.reverse ++ [b] := by
  have := congrArg List.reverse h
  simpa using this

theorem step_some (x : Inst) (cm : Inst → Option Int) (a k : Nat) (caps : Array Value) (vv : Value) (o d : Int) (dv cv : Value) (L : List Bool) (r' : List Bool) (w w0 : World) (h : AskAt w a w.heap.size vv o d dv cv (.func (.func k) #[] caps) L) (hL : L.length ≤ 900)
    (hcf : ∀ (args : Array Value) (w : World), (callFunc k args).run Try.prog w = .ok (.enter k args) w) (hl : LessOK k caps cm x w0) (hb : Below w0.heap.size w0 w) (hr : stepG cm o d x L.reverse = some r') :
    Calls Try.prog 42 #[.pointer (some ⟨a, 0, none⟩), instVal x.op x.la x.ln x.ra x.rn x.n x.u] w (StepPost a vv o d dv cv (.func (.func k) #[] caps) r'.reverse w) := by
  obtain ⟨op, la, ln, ra, rn, n, u⟩ := x
  unfold stepG at hr
  simp only at hr ⊢
  split at hr
  · cases hr
    have := stepT op la ln ra rn n u a vv o d dv cv _ L w h (by omega) (by assumption)
    simpa using this
  split at hr
  · rename_i h1
    split at hr
    · rename_i c hc
      cases hr
      have HL := hl.some_ hb hc
      have e : op = 3 ∨ op = 4 ∨ op = 5 ∨ op = 6 ∨ op = 7 ∨ op = 8 := by omega
      rw [List.reverse_cons, List.reverse_reverse]
      rcases e with rfl | rfl | rfl | rfl | rfl | rfl
      · exact stepCmp3 la ln ra rn n u c a k caps vv o d dv cv L w h (by omega) hcf HL
      · exact stepCmp4 la ln ra rn n u c a k caps vv o d dv cv L w h (by omega) hcf HL
      · exact stepCmp5 la ln ra rn n u c a k caps vv o d dv cv L w h (by omega) hcf HL
      · exact stepCmp6 la ln ra rn n u c a k caps vv o d dv cv L w h (by omega) hcf HL
      · exact stepCmp7 la ln ra rn n u c a k caps vv o d dv cv L w h (by omega) hcf HL
      · exact stepCmp8 la ln ra rn n u c a k caps vv o d dv cv L w h (by omega) hcf HL
    · cases hr
  split at hr
  · rename_i h9
    subst h9
    cases hr
    rw [List.reverse_cons, List.reverse_reverse]
    exact stepHas9 la ln ra rn n u a vv o d dv cv _ L w h (by omega)
  split at hr
  · rename_i h10
    subst h10
    cases hr
    rw [List.reverse_cons, List.reverse_reverse]
    exact stepHas10 la ln ra rn n u a vv o d dv cv _ L w h (by omega)
  split at hr
  · rename_i h15
    subst h15
    split at hr
    · rename_i b r e
      cases hr
      obtain rfl := snoc_of_cons e
      simp at hL
      rw [List.reverse_cons]
      exact stepNot la ln ra rn n u a vv o d dv cv _ _ b w h (by simp; omega)
    · cases hr
  split at hr
  · rename_i h16
    split at hr
    · rename_i b a' r e
      cases hr
      have e2 : L = (r.reverse ++ [a']) ++ [b] := by
        have := snoc_of_cons e
        simpa using this
      subst e2
      simp at hL
      have e : op = 16 ∨ op = 17 ∨ op = 18 := by omega
      rcases e with rfl | rfl | rfl
      · have := stepBin16 la ln ra rn n u a vv o d dv cv _ r.reverse a' b w h (by simp; omega)
        simpa using this
      · have := stepBin17 la ln ra rn n u a vv o d dv cv _ r.reverse a' b w h (by simp; omega)
        simpa using this
      · have := stepBin18 la ln ra rn n u a vv o d dv cv _ r.reverse a' b w h (by simp; omega)
        simpa using this
    · cases hr
  · cases hr

theorem step_none (x : Inst) (cm : Inst → Option Int) (a k : Nat) (caps : Array Value) (vv : Value) (o d : Int) (dv cv : Value) (L : List Bool) (w w0 : World) (h : AskAt w a w.heap.size vv o d dv cv (.func (.func k) #[] caps) L) (hL : L.length ≤ 900)
    (hcf : ∀ (args : Array Value) (w : World), (callFunc k args).run Try.prog w = .ok (.enter k args) w) (hl : LessOK k caps cm x w0) (hb : Below w0.heap.size w0 w) (hr : stepG cm o d x L.reverse = none) :
    Calls Try.prog 42 #[.pointer (some ⟨a, 0, none⟩), instVal x.op x.la x.ln x.ra x.rn x.n x.u] w fun e w' => e = .panicked lostP ∧ Below a w w' := by
  have hal : a < w.heap.size := by obtain ⟨_, _, _, h3, _⟩ := h; exact h3
  obtain ⟨op, la, ln, ra, rn, n, u⟩ := x
  unfold stepG at hr
  simp only at hr ⊢
  split at hr
  · cases hr
  rename_i h12
  split at hr
  · rename_i h1
    split at hr
    · cases hr
    · rename_i hc
      have HL := hl.none_ hb hc
      have e : op = 3 ∨ op = 4 ∨ op = 5 ∨ op = 6 ∨ op = 7 ∨ op = 8 := by omega
      rcases e with rfl | rfl | rfl | rfl | rfl | rfl
      · exact stepNo3 la ln ra rn n u a k caps vv o d dv cv L w h (by omega) hcf HL
      · exact stepNo4 la ln ra rn n u a k caps vv o d dv cv L w h (by omega) hcf HL
      · exact stepNo5 la ln ra rn n u a k caps vv o d dv cv L w h (by omega) hcf HL
      · exact stepNo6 la ln ra rn n u a k caps vv o d dv cv L w h (by omega) hcf HL
      · exact stepNo7 la ln ra rn n u a k caps vv o d dv cv L w h (by omega) hcf HL
      · exact stepNo8 la ln ra rn n u a k caps vv o d dv cv L w h (by omega) hcf HL
  rename_i h38
  split at hr
  · cases hr
  rename_i h9
  split at hr
  · cases hr
  rename_i h10
  split at hr
  · rename_i h15
    subst h15
    split at hr
    · cases hr
    · rename_i e
      have e : L = [] := by simpa using e
      subst e
      exact stepNotNone la ln ra rn n u a vv o d dv cv _ w h
  rename_i h15
  split at hr
  · rename_i h16
    have hl2 : L.length < 2 := by
      rw [← List.length_reverse]
      match hh : L.reverse with
      | [] => simp
      | [_] => simp
      | _ :: _ :: _ => rw [hh] at hr; cases hr
    have e : op = 16 ∨ op = 17 ∨ op = 18 := by omega
    rcases e with rfl | rfl | rfl
    · exact stepBinNone16 la ln ra rn n u a vv o d dv cv _ L w h hl2
    · exact stepBinNone17 la ln ra rn n u a vv o d dv cv _ L w h hl2
    · exact stepBinNone18 la ln ra rn n u a vv o d dv cv _ L w h hl2
  · rename_i h16
    have ne : ∀ k : Int, op ≠ k → (op == k) = false := fun k h => beq_eq_false_iff_ne.2 h
    exact stepBad op la ln ra rn n u a w (Nat.le_of_lt hal) (ne _ (by omega)) (ne _ (by omega)) (ne _ (by omega)) (ne _ (by omega)) (ne _ (by omega)) (ne _ (by omega)) (ne _ (by omega)) (ne _ (by omega)) (ne _ (by omega)) (ne _ (by omega)) (ne _ (by omega)) (ne _ (by omega)) (ne _ (by omega)) (ne _ (by omega))
end
section
open Go.RowKit
theorem caught_nil (p q : Addr) (w : World) : Calls Try.prog 39 #[.pointer (some p), .pointer (some q), .nilIface] w fun e w' => e = .returned (.tuple #[]) ∧ w = w' := by
  go_enter Try.func39, Try.ntmps39
  go_wp2
  refine bodyPost_ret (results_none rfl _ _ _) rfl ?_
  exact ⟨rfl, rfl⟩
theorem assertLost (w : World) : (Instr.typeAssert (.iface 122 (.agg #[])) 20 122 true).run Try.prog w = .ok (.tuple #[.agg #[], .bool true]) w := by kernel_rfl
theorem eqNil (w : World) : (binOp BinOp.eql 20 (.iface 122 (.agg #[])) .nilIface).run Try.prog w = .ok (.bool false) w := by kernel_rfl
theorem caught_lost (p q : Nat) (x : Bool) (y : Int) (w : World) (hp : Blk w p 4 #[.bool x]) (hq : Blk w q 29 #[.int .i64 y]) (hpq : p ≠ q) {B : Nat} (hBp : B ≤ p) (hBq : B ≤ q) : Calls Try.prog 39 #[.pointer (some ⟨p, 0, none⟩), .pointer (some ⟨q, 0, none⟩), .iface 122 (.agg #[])] w fun e w' => e = .returned (.tuple #[]) ∧ Blk w' p 4 #[.bool false] ∧ Blk w' q 29 #[.int .i64 17] ∧ Below B w w' := by
  have hta := assertLost
  have heq := eqNil
  have c0 := hp.cell 0
  have f0 := hp.frozen 0
  have d0 := hq.cell 0
  have g0 := hq.frozen 0
  simp at c0 d0
  have hpl := hp.lt
  have hql := hq.lt
  have HP := hide hp
  have HQ := hide hq
  clear hp hq
  go_enter Try.func39, Try.ntmps39
  go_wp2
  go_end0
  refine ⟨rfl, ?_, ?_, (((Below.refl B w).setCell hBp _).setCell hBq _).alloc (by simp; omega) _⟩
  · have h1 := HP.out.set_ 0 (.bool false)
    have h2 := (h1.far (p := ⟨q, 0, none⟩) (by simpa using hpq) (.int .i64 17)).alloc (.cells #[] 122)
    simpa using h2
  · have h1 := HQ.out.far (p := ⟨p, 0, none⟩) (by simpa using Ne.symm hpq) (.bool false)
    have h2 := (h1.set_ 0 (.int .i64 17)).alloc (.cells #[] 122)
    simpa using h2

theorem catch_idle (p q : Addr) (w : World) :
    CallsD Try.prog 38 #[.pointer (some p), .pointer (some q)] .returning w fun e u' w' => e = .returned (.tuple #[]) ∧ u' = .returning ∧ w = w' := by
  refine callsD_of_wpS Try.func38 rfl fun c₀ cs hu => ?_
  apply wpS_region
  simp [wpOpsS, go_sem, recoverD, hu, Try.ntmps38, Exit.thenS]
  refine (caught_nil p q w).mono ?_
  rintro e w' ⟨rfl, rfl⟩
  cases c₀
  simp_all [bodyPostS, results, Try.results38]

theorem catch_lost (p q : Nat) (x : Bool) (y : Int) (w : World) (hp : Blk w p 4 #[.bool x]) (hq : Blk w q 29 #[.int .i64 y]) (hpq : p ≠ q) {B : Nat} (hBp : B ≤ p) (hBq : B ≤ q) :
    CallsD Try.prog 38 #[.pointer (some ⟨p, 0, none⟩), .pointer (some ⟨q, 0, none⟩)] (.panicking lostP) w fun e u' w' => e = .returned (.tuple #[]) ∧ u' = .panicking [{ v := .iface 122 (.agg #[]), recovered := true }] ∧ (Blk w' p 4 #[.bool false] ∧ Blk w' q 29 #[.int .i64 17] ∧ Below B w w') := by
  have H := hide (caught_lost p q x y w hp hq hpq hBp hBq)
  clear hp hq
  refine callsD_of_wpS Try.func38 rfl fun c₀ cs hu => ?_
  apply wpS_region
  simp [wpOpsS, go_sem, recoverD, hu, Try.ntmps38, Exit.thenS, lostP]
  refine H.out.mono ?_
  rintro e w' ⟨rfl, h1, h2, h3⟩
  refine ⟨rfl, _, rfl, .tuple #[], ?_, rfl, rfl, h1, h2, h3⟩
  simp [results, Try.results38, go_sem]
end
end Go.Proofs.Ytfeclebkaambhaa
