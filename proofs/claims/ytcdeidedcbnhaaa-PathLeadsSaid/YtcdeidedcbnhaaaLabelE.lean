/-
  THE WALKS of EU and EG, in warderref32.
-/
import Derived.Test.YtcdeidedcbnhaaaLabelD
set_option linter.unusedVariables false
set_option linter.unusedSimpArgs false
namespace Go.Proofs.Ytcdeidedcbnhaaa
open Go.RowKit

/-- one set on the way to another one: the places before k are new; same tells whether they are as before -/
structure UAt (old new : List Bool) (k : Nat) (L : List Bool) (s : Bool) : Prop where
  len : L.length = old.length
  lenN : new.length = old.length
  pre : ∀ j, j < k → L.getD j false = new.getD j false
  post : ∀ j, k ≤ j → L.getD j false = old.getD j false
  same : s = true ↔ ∀ j, j < k → new.getD j false = old.getD j false
theorem UAt.start (old new : List Bool) (h : new.length = old.length) : UAt old new 0 old true := ⟨rfl, h, fun j hj => by omega, fun j _ => rfl, by simp⟩
theorem UAt.next {old new : List Bool} {k : Nat} {L : List Bool} {s : Bool} (h : UAt old new k L s) (hk : k < old.length) : UAt old new (k + 1) (L.set k (new.getD k false)) (s && (new.getD k false == old.getD k false)) := by
  refine ⟨by rw [List.length_set, h.len], h.lenN, fun j hj => ?_, fun j hj => ?_, ?_⟩
  · rw [set_getD _ _ _ (by rw [h.len]; exact hk)]
    split
    · rename_i e; rw [e]
    · exact h.pre j (by omega)
  · rw [set_getD _ _ _ (by rw [h.len]; exact hk), if_neg (by omega)]; exact h.post j (by omega)
  · rw [Bool.and_eq_true, h.same, beq_iff_eq]
    constructor
    · rintro ⟨h1, h2⟩ j hj
      by_cases e : j = k
      · rw [e]; exact h2
      · exact h1 j (by omega)
    · intro h1
      exact ⟨fun j hj => h1 j (by omega), h1 k (by omega)⟩
theorem UAt.done {old new : List Bool} {L : List Bool} {s : Bool} (h : UAt old new old.length L s) : L = new ∧ (s = true → new = old) ∧ (s = false → new ≠ old) := by
  refine ⟨list_eq (by rw [h.len, h.lenN]) fun j hj => h.pre j (by rw [h.len] at hj; exact hj), fun e => list_eq h.lenN fun j hj => h.same.1 e j (by rw [h.lenN] at hj; exact hj), fun e e2 => ?_⟩
  have := h.same.2 (fun j _ => by rw [e2])
  rw [e] at this; simp at this

theorem stepU_get (next : List (List Int)) (a b out : List Bool) (k : Nat) (hk : k < next.length) : (stepU next a b out).getD k false = (b.getD k false || (a.getD k false && (exL next out).getD k false)) := by
  unfold stepU
  rw [List.getD, List.getElem?_map, List.getElem?_range hk]; rfl
theorem stepG_get (next : List (List Int)) (out : List Bool) (k : Nat) (hk : k < next.length) : (stepG next out).getD k false = (out.getD k false && (exL next out).getD k false) := by
  unfold stepG
  rw [List.getD, List.getElem?_map, List.getElem?_range hk]; rfl

theorem OB.below {w w' : World} {base : Nat} {v : Value} {l : List Bool} (h : OB w base v l) (hb : Below w.heap.size w w') : OB w' base v l := own_below' h hb
theorem OB.far {w : World} {base : Nat} {v : Value} {l : List Bool} (h : OB w base v l) {p : Addr} (hp : p.block < base) (u : Value) : OB (w.setCell p u) base v l := own_far h hp u

set_option maxHeartbeats 2000000 in
theorem refEu_any (next : List (List Int)) (a b : List Bool) (vn va vb : Value) (w : World) (hl : next.length ≤ 4294967296) (hr : ∀ r ∈ next, r.length ≤ 4294967296) (hla : a.length ≤ 9223372036854775807) (hlb : b.length ≤ 9223372036854775807) (hn : RR w vn next) (ha : RB w va a) (hbb : RB w vb b) :
    Calls Try.prog 35 #[vn, va, vb] w (SetPost (euL next a b) w) := by
  obtain ⟨A, c, rfl, hc⟩ := hn.form
  obtain ⟨B, cb, rfl, hcb⟩ := ha.form
  obtain ⟨C, cc, rfl, hcc⟩ := hbb.form
  have hmk := run_make_row' (P := Try.prog) 32 4 (.bool false) 1 Try.underlying32 boolInfo rfl .i64 .i64 next.length (by omega) (by omega)
  have Hr := hide hr
  clear hr
  go_enter Try.func35, Try.ntmps35
  go_wp2_with fail
  have ho := OB.made w next.length (by omega)
  have hb0 := (Below.refl w.heap.size w).alloc (Nat.le_refl _) (.cells (madeCells #[.bool false] next.length) 4)
  clear hmk
  go_loopw [8] (fun i wr => ∃ m : Nat, m ≤ next.length + 1 ∧ i = .int .i64 (m : Int) ∧ OB wr w.heap.size (.slice (some ⟨w.heap.size, 0, none⟩) next.length next.length) (itU next a b m) ∧ Below w.heap.size w wr ∧ m ≤ cnt (itU next a b m) + 1) (fun i wr => next.length + 1 - (intOf i).toNat)
  case atStart => exact ⟨0, Nat.zero_le _, rfl, ho, hb0, Nat.zero_le _⟩
  case round =>
    clear ho hb0
    obtain ⟨m, hm, rfl, ho, hb, hcnt⟩ := hrel
    by_cases hlt : m ≤ next.length
    · have hlt2 : (m : Int) ≤ (next.length : Int) := by omega
      obtain ⟨old, hold⟩ : ∃ old, old = itU next a b m := ⟨_, rfl⟩
      have holdl : old.length = next.length := by rw [hold, itU_length]
      rw [← hold] at ho hcnt
      have hoR : RB wr (.slice (some ⟨w.heap.size, 0, none⟩) next.length next.length) old := RB.own ho
      have hex := refEx_any next old _ _ wr (by omega) Hr.out (by omega) (hn.below hb) hoR
      have Hex := hide hex
      have Hold := hide hold
      have Holdl := hide holdl
      have Ho := hide ho
      have Hcnt := hide hcnt
      clear hex hold holdl ho hoR hcnt
      go_wp2_with (go_at_call 33; refine Hex.out.mono ?_; rintro e w1 ⟨g, rfl, hx, hb1⟩; rw [exL_length] at *)
      have ho1 := Ho.out.below hb1
      have hb01 := hb.trans (hb1.mono hb.size)
      obtain ⟨X, hX⟩ : ∃ X, X = exL next old := ⟨_, rfl⟩
      obtain ⟨new, hnew⟩ : ∃ new, new = stepU next a b old := ⟨_, rfl⟩
      have hXl : X.length = next.length := by rw [hX, exL_length]
      have hnewl : new.length = old.length := by rw [hnew, stepU_length, Holdl.out]
      have hat : ∀ k, k < next.length → new.getD k false = (b.getD k false || (a.getD k false && X.getD k false)) := fun k hk => by rw [hnew, stepU_get _ _ _ _ _ hk, hX]
      have hnx : itU next a b (m + 1) = new := by rw [hnew, itU, Hold.out]
      rw [← hX] at hx
      have hgw : w.heap.size < wr.heap.size := by
        have := (World.ownsRow.lt Ho.out w.heap.size rfl).2
        exact this
      have HX := hide hX
      have HXl := hide hXl
      have Hnewl := hide hnewl
      have Hat := hide hat
      have Hnx := hide hnx
      have Hbr := hide hb
      have Hb01 := hide hb01
      have Hx := hide hx
      have Ho1 := hide ho1
      clear hX hXl hnewl hat hnx hb hb01 hx ho1 hnew
      go_loopw [10, 11] (fun s i wx => ∃ (k : Nat) (L : List Bool) (sb : Bool), k ≤ next.length ∧ s = .bool sb ∧ i = .int .i64 (k : Int) ∧ UAt old new k L sb ∧ OB wx w.heap.size (.slice (some ⟨w.heap.size, 0, none⟩) next.length next.length) L ∧ OB wx wr.heap.size (.slice (some ⟨g, 0, none⟩) next.length next.length) X ∧ Below w.heap.size w wx) (fun s i wx => next.length - (intOf i).toNat)
      case atStart => exact ⟨0, old, true, Nat.zero_le _, rfl, rfl, UAt.start old new Hnewl.out, Ho1.out, Hx.out, Hb01.out⟩
      case round =>
        obtain ⟨k, L, sb, hk, rfl, rfl, hL, ho, hx, hb⟩ := hrel
        rename World => wx
        by_cases hkl : k < next.length
        · have h1 := refIs_any a _ (k : Int) wx (by omega) (ha.below hb)
          have h2 := refIs_any b _ (k : Int) wx (by omega) (hbb.below hb)
          rw [isB_nat] at h1 h2
          have hLl := hL.len
          have c1 := ho.cell (k := k) (by have := Holdl.out; omega)
          have f1 := ho.frozen k
          have c2 := hx.cell (k := k) (by have := HXl.out; omega)
          have hst := hL.next (by have := Holdl.out; omega)
          rw [Hat.out k hkl, ← hL.post k (Nat.le_refl _)] at hst
          have hrel : ∀ v s, v = (b.getD k false || (a.getD k false && X.getD k false)) → s = (sb && (v == L.getD k false)) → ∃ (k_1 : Nat) (L_1 : List Bool) (sb_1 : Bool), k_1 ≤ next.length ∧ Value.bool s = .bool sb_1 ∧ Value.int .i64 ((k : Int) + 1) = .int .i64 (k_1 : Int) ∧ UAt old new k_1 L_1 sb_1 ∧ OB (wx.setCell ⟨w.heap.size, k, none⟩ (.bool v)) w.heap.size (.slice (some ⟨w.heap.size, 0, none⟩) next.length next.length) L_1 ∧ OB (wx.setCell ⟨w.heap.size, k, none⟩ (.bool v)) wr.heap.size (.slice (some ⟨g, 0, none⟩) next.length next.length) X ∧ Below w.heap.size w (wx.setCell ⟨w.heap.size, k, none⟩ (.bool v)) := by
            rintro v s rfl rfl
            exact ⟨k + 1, _, _, by omega, rfl, by go_num, hst, ho.set k _, hx.far hgw _, hb.setCell (Nat.le_refl _) _⟩
          have Hrel := hide hrel
          have H1 := hide h1
          have H2 := hide h2
          have HLl := hide hLl
          clear hrel h1 h2 hLl hst hL ho hx hb
          generalize L.getD k false = y at *
          generalize X.getD k false = z at *
          generalize a.getD k false = p at *
          generalize b.getD k false = q at *
          cases q with
          | true =>
            cases sb with
            | true =>
              go_wp2_with ((go_at_call_of 28 (Value.slice C b.length cc); refine H2.out.mono ?_; rintro e w2 ⟨rfl, rfl⟩))
              go_roundw
              case rel => exact Hrel.out _ _ (by simp) (by simp)
              case measure => simp [intOf]; omega
            | false =>
              go_wp2_with ((go_at_call_of 28 (Value.slice C b.length cc); refine H2.out.mono ?_; rintro e w2 ⟨rfl, rfl⟩))
              go_roundw
              case rel => exact Hrel.out _ _ (by simp) (by simp)
              case measure => simp [intOf]; omega
          | false =>
            cases p with
            | true =>
              cases sb with
              | true =>
                go_wp2_with (first
                  | (go_at_call_of 28 (Value.slice C b.length cc); refine H2.out.mono ?_; rintro e w2 ⟨rfl, rfl⟩)
                  | (go_at_call_of 28 (Value.slice B a.length cb); refine H1.out.mono ?_; rintro e w2 ⟨rfl, rfl⟩))
                go_roundw
                case rel => exact Hrel.out _ _ (by simp) (by simp)
                case measure => simp [intOf]; omega
              | false =>
                go_wp2_with (first
                  | (go_at_call_of 28 (Value.slice C b.length cc); refine H2.out.mono ?_; rintro e w2 ⟨rfl, rfl⟩)
                  | (go_at_call_of 28 (Value.slice B a.length cb); refine H1.out.mono ?_; rintro e w2 ⟨rfl, rfl⟩))
                go_roundw
                case rel => exact Hrel.out _ _ (by simp) (by simp)
                case measure => simp [intOf]; omega
            | false =>
              cases sb with
              | true =>
                go_wp2_with (first
                  | (go_at_call_of 28 (Value.slice C b.length cc); refine H2.out.mono ?_; rintro e w2 ⟨rfl, rfl⟩)
                  | (go_at_call_of 28 (Value.slice B a.length cb); refine H1.out.mono ?_; rintro e w2 ⟨rfl, rfl⟩))
                go_roundw
                case rel => exact Hrel.out _ _ (by simp) (by simp)
                case measure => simp [intOf]; omega
              | false =>
                go_wp2_with (first
                  | (go_at_call_of 28 (Value.slice C b.length cc); refine H2.out.mono ?_; rintro e w2 ⟨rfl, rfl⟩)
                  | (go_at_call_of 28 (Value.slice B a.length cb); refine H1.out.mono ?_; rintro e w2 ⟨rfl, rfl⟩))
                go_roundw
                case rel => exact Hrel.out _ _ (by simp) (by simp)
                case measure => simp [intOf]; omega
        · obtain rfl : k = next.length := by omega
          rw [← Holdl.out] at hL
          obtain ⟨rfl, hs1, hs2⟩ := hL.done
          clear hL
          have ht := fun h => itU_stable next a b m (by rw [Hnx.out, ← Hold.out, hs1 h])
          have hf := fun h => itU_more next a b m (by rw [Hnx.out, ← Hold.out]; exact hs2 h)
          rw [Hnx.out] at ht hf
          rw [← Hold.out] at hf
          have Ht := hide ht
          have Hf := hide hf
          clear ht hf hs1 hs2
          cases sb with
          | true =>
            by_cases hm0 : 0 < m
            · have hm1 : (0 : Int) < (m : Int) := by omega
              go_wp2_with fail
              go_ret
              refine ⟨w.heap.size, by rw [euL_length]; rfl, ?_, hb⟩
              rw [euL_length, ← Ht.out (by simp)]; exact ho
            · obtain rfl : m = 0 := by omega
              go_wp2_with fail
              go_roundw
              case rel => exact ⟨1, by omega, by first | rfl | go_num, by rw [Hnx.out]; exact ho, hb, by omega⟩
              case measure => simp [intOf]
          | false =>
            go_wp2_with fail
            go_roundw
            case rel => exact ⟨m + 1, by omega, by go_num, by rw [Hnx.out]; exact ho, hb, by rw [Hnx.out]; have := Hf.out (by simp); have := Hcnt.out; omega⟩
            case measure => simp [intOf]; omega
    · obtain rfl : m = next.length + 1 := by omega
      have e := itU_all next a b (next.length + 1) (by omega)
      have E := hide e
      clear e
      go_wp2_with fail
      go_ret
      refine ⟨w.heap.size, by rw [euL_length]; rfl, ?_, hb⟩
      rw [euL_length, ← E.out]; exact ho

set_option maxHeartbeats 2000000 in
theorem refEg_any (next : List (List Int)) (a : List Bool) (vn va : Value) (w : World) (hl : next.length ≤ 4294967296) (hr : ∀ r ∈ next, r.length ≤ 4294967296) (hla : a.length ≤ 9223372036854775807) (hn : RR w vn next) (ha : RB w va a) :
    Calls Try.prog 37 #[vn, va] w (SetPost (egL next a) w) := by
  obtain ⟨A, c, rfl, hc⟩ := hn.form
  obtain ⟨B, cb, rfl, hcb⟩ := ha.form
  have hmk := run_make_row' (P := Try.prog) 32 4 (.bool false) 1 Try.underlying32 boolInfo rfl .i64 .i64 next.length (by omega) (by omega)
  have Hr := hide hr
  clear hr
  go_enter Try.func37, Try.ntmps37
  go_wp2_with fail
  have ho := OB.made w next.length (by omega)
  have hb0 := (Below.refl w.heap.size w).alloc (Nat.le_refl _) (.cells (madeCells #[.bool false] next.length) 4)
  clear hmk
  go_loopw [6] (fun i wr => ∃ (k : Nat) (L : List Bool) (s : Bool), k ≤ next.length ∧ i = .int .i64 (k : Int) ∧ UAt (List.replicate next.length false) (itG next a 0) k L s ∧ OB wr w.heap.size (.slice (some ⟨w.heap.size, 0, none⟩) next.length next.length) L ∧ Below w.heap.size w wr) (fun i wr => next.length - (intOf i).toNat)
  case atStart => exact ⟨0, _, true, Nat.zero_le _, rfl, UAt.start _ _ (by rw [itG_length, List.length_replicate]), ho, hb0⟩
  case round =>
    clear ho hb0
    obtain ⟨k, L, sx, hk, rfl, hL, ho, hb⟩ := hrel
    by_cases hlt : k < next.length
    · have h1 := refIs_any a _ (k : Int) wr (by omega) (ha.below hb)
      rw [isB_nat] at h1
      have hLl := hL.len
      rw [List.length_replicate] at hLl
      have c1 := ho.cell (k := k) (by omega)
      have f1 := ho.frozen k
      have hst := hL.next (by rw [List.length_replicate]; exact hlt)
      have hg0 : (itG next a 0).getD k false = a.getD k false := by
        rw [Bool.eq_iff_iff, itG_zero]; exact ⟨fun h => h.2, fun h => ⟨hlt, h⟩⟩
      rw [hg0] at hst
      have hrel : ∀ v, v = a.getD k false → ∃ (k_1 : Nat) (L_1 : List Bool) (s_1 : Bool), k_1 ≤ next.length ∧ Value.int .i64 ((k : Int) + 1) = .int .i64 (k_1 : Int) ∧ UAt (List.replicate next.length false) (itG next a 0) k_1 L_1 s_1 ∧ OB (wr.setCell ⟨w.heap.size, k, none⟩ (.bool v)) w.heap.size (.slice (some ⟨w.heap.size, 0, none⟩) next.length next.length) L_1 ∧ Below w.heap.size w (wr.setCell ⟨w.heap.size, k, none⟩ (.bool v)) := by
        rintro v rfl
        exact ⟨k + 1, _, _, by omega, by go_num, hst, ho.set k _, hb.setCell (Nat.le_refl _) _⟩
      have Hrel := hide hrel
      have H1 := hide h1
      clear hrel h1 hLl hst hL ho hb hg0
      generalize L.getD k false = y at *
      generalize a.getD k false = p at *
      go_wp2_with (go_at_call 28; refine H1.out.mono ?_; rintro e w2 ⟨rfl, rfl⟩)
      go_roundw
      case rel => exact Hrel.out _ rfl
      case measure => simp [intOf]; omega
    · obtain rfl : k = next.length := by omega
      have hLd := hL
      have e1 : (List.replicate next.length false).length = next.length := List.length_replicate
      rw [show UAt (List.replicate next.length false) (itG next a 0) next.length L sx = UAt (List.replicate next.length false) (itG next a 0) (List.replicate next.length false).length L sx from by rw [e1]] at hLd
      have hLe := hLd.done.1
      subst hLe
      clear hL hLd e1
      have hcnt0 : cnt (itG next a 0) + 0 ≤ next.length := by have := cnt_le (itG next a 0); rw [itG_length] at this; exact this
      have Ho0 := hide ho
      have Hb0 := hide hb
      have Hcnt0 := hide hcnt0
      clear ho hb hcnt0
      go_wp2_with fail
      go_loopw [7] (fun i wr => ∃ m : Nat, i = .int .i64 (m : Int) ∧ OB wr w.heap.size (.slice (some ⟨w.heap.size, 0, none⟩) next.length next.length) (itG next a m) ∧ Below w.heap.size w wr ∧ cnt (itG next a m) + m ≤ next.length) (fun i wr => next.length + 1 - (intOf i).toNat)
      case atStart => exact ⟨0, rfl, Ho0.out, Hb0.out, Hcnt0.out⟩
      case round =>
        obtain ⟨m, rfl, ho, hb, hcnt⟩ := hrel
        rename World => wr
        have hlt2 : (m : Int) ≤ (next.length : Int) := by omega
        obtain ⟨old, hold⟩ : ∃ old, old = itG next a m := ⟨_, rfl⟩
        have holdl : old.length = next.length := by rw [hold, itG_length]
        rw [← hold] at ho hcnt
        have hmn : m ≤ next.length := by omega
        have hoR : RB wr (.slice (some ⟨w.heap.size, 0, none⟩) next.length next.length) old := RB.own ho
        have hex := refEx_any next old _ _ wr (by omega) Hr.out (by omega) (hn.below hb) hoR
        have Hex := hide hex
        have Hold := hide hold
        have Holdl := hide holdl
        have Ho := hide ho
        have Hcnt := hide hcnt
        clear hex hold holdl ho hoR hcnt Ho0 Hb0 Hcnt0
        go_wp2_with (go_at_call 33; refine Hex.out.mono ?_; rintro e w1 ⟨g, rfl, hx, hb1⟩; rw [exL_length] at *)
        have ho1 := Ho.out.below hb1
        have hb01 := hb.trans (hb1.mono hb.size)
        obtain ⟨X, hX⟩ : ∃ X, X = exL next old := ⟨_, rfl⟩
        obtain ⟨new, hnew⟩ : ∃ new, new = stepG next old := ⟨_, rfl⟩
        have hXl : X.length = next.length := by rw [hX, exL_length]
        have hnewl : new.length = old.length := by rw [hnew, stepG_length, Holdl.out]
        have hat : ∀ k, k < next.length → new.getD k false = (old.getD k false && X.getD k false) := fun k hk => by rw [hnew, stepG_get _ _ _ hk, hX]
        have hnx : itG next a (m + 1) = new := by rw [hnew, itG, Hold.out]
        rw [← hX] at hx
        have hgw : w.heap.size < wr.heap.size := by
          have := (World.ownsRow.lt Ho.out w.heap.size rfl).2
          exact this
        have HX := hide hX
        have HXl := hide hXl
        have Hnewl := hide hnewl
        have Hat := hide hat
        have Hnx := hide hnx
        have Hbr := hide hb
        have Hb01 := hide hb01
        have Hx := hide hx
        have Ho1 := hide ho1
        clear hX hXl hnewl hat hnx hb hb01 hx ho1 hnew
        go_loopw [9, 10] (fun s i wx => ∃ (k : Nat) (L : List Bool) (sb : Bool), k ≤ next.length ∧ s = .bool sb ∧ i = .int .i64 (k : Int) ∧ UAt old new k L sb ∧ OB wx w.heap.size (.slice (some ⟨w.heap.size, 0, none⟩) next.length next.length) L ∧ OB wx wr.heap.size (.slice (some ⟨g, 0, none⟩) next.length next.length) X ∧ Below w.heap.size w wx) (fun s i wx => next.length - (intOf i).toNat)
        case atStart => exact ⟨0, old, true, Nat.zero_le _, rfl, rfl, UAt.start old new Hnewl.out, Ho1.out, Hx.out, Hb01.out⟩
        case round =>
          obtain ⟨k, L, sb, hk, rfl, rfl, hL, ho, hx, hb⟩ := hrel
          rename World => wx
          by_cases hkl : k < next.length
          · have hLl := hL.len
            have c1 := ho.cell (k := k) (by have := Holdl.out; omega)
            have f1 := ho.frozen k
            have c2 := hx.cell (k := k) (by have := HXl.out; omega)
            have hst := hL.next (by have := Holdl.out; omega)
            rw [Hat.out k hkl, ← hL.post k (Nat.le_refl _)] at hst
            have hrel : ∀ v s, v = (L.getD k false && X.getD k false) → s = (sb && ((L.getD k false && X.getD k false) == L.getD k false)) → ∃ (k_1 : Nat) (L_1 : List Bool) (sb_1 : Bool), k_1 ≤ next.length ∧ Value.bool s = .bool sb_1 ∧ Value.int .i64 ((k : Int) + 1) = .int .i64 (k_1 : Int) ∧ UAt old new k_1 L_1 sb_1 ∧ OB (wx.setCell ⟨w.heap.size, k, none⟩ (.bool v)) w.heap.size (.slice (some ⟨w.heap.size, 0, none⟩) next.length next.length) L_1 ∧ OB (wx.setCell ⟨w.heap.size, k, none⟩ (.bool v)) wr.heap.size (.slice (some ⟨g, 0, none⟩) next.length next.length) X ∧ Below w.heap.size w (wx.setCell ⟨w.heap.size, k, none⟩ (.bool v)) := by
              rintro v s rfl rfl
              exact ⟨k + 1, _, _, by omega, rfl, by go_num, hst, ho.set k _, hx.far hgw _, hb.setCell (Nat.le_refl _) _⟩
            have Hrel := hide hrel
            have HLl := hide hLl
            clear hrel hLl hst hL ho hx hb
            generalize L.getD k false = y at *
            generalize X.getD k false = z at *
            cases sb <;> cases z <;> cases y
            all_goals
              go_wp2_with fail
              go_roundw
              case rel => exact Hrel.out _ _ (by simp) (by simp)
              case measure => simp [intOf]; omega
          · obtain rfl : k = next.length := by omega
            rw [← Holdl.out] at hL
            obtain ⟨rfl, hs1, hs2⟩ := hL.done
            clear hL
            have ht := fun h => itG_stable next a m (by rw [Hnx.out, ← Hold.out, hs1 h])
            have hf := fun h => itG_less next a m (by rw [Hnx.out, ← Hold.out]; exact hs2 h)
            rw [Hnx.out] at ht hf
            rw [← Hold.out] at hf
            have Ht := hide ht
            have Hf := hide hf
            clear ht hf hs1 hs2
            cases sb with
            | true =>
              go_wp2_with fail
              go_ret
              refine ⟨w.heap.size, by rw [egL_length]; rfl, ?_, hb⟩
              rw [egL_length, ← Ht.out (by simp)]; exact ho
            | false =>
              go_wp2_with fail
              go_roundw
              case rel => exact ⟨m + 1, by go_num, by rw [Hnx.out]; exact ho, hb, by rw [Hnx.out]; have := Hf.out (by simp); have := Hcnt.out; omega⟩
              case measure => simp [intOf]; omega

end Go.Proofs.Ytcdeidedcbnhaaa
