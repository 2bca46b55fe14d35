/-
  Parts of the proof: W3, AlR, AlU, AlV, AlW, F3, NumSpec, NumSortA, ZSortA, NumSortP, NumSortC, ZSortD, ZSortE, Z1, Z4, AlM, SoP, SoQ.
-/
import Derived.Test.YtodbhccfajgekaaGreatDoorNtx7
import Derived.TacticsIn
import Derived.RangeFuncIn
import Derived.RangeFuncCalls
import Derived.RangeFuncRecord
import Derived.WalkKit
import Derived.WalkLawsBesides
import Derived.Test.YtodbhccfajgekaaGreatDoorSortShelf
import Derived.Deep.LoopGhost
import Derived.Deep.Draws
import Derived.Deep.QuietTactic
import Derived.OpenShut
import Derived.ProofKit
import Derived.Lib.SlicesCompact
import Derived.Sort.OwnSortedInts
import Derived.Deep.DeepCutAuto
set_option linter.unusedVariables false
set_option linter.unusedSimpArgs false
namespace Go.Proofs.YtodbhccfajgekaaGreatDoor
section
open Go.RowKit
theorem dec_len : ∀ (k u : Nat), u < 10 ^ (k + 1) → (Lib.decDigits u).length ≤ k + 1
  | 0, u, h => by
    rw [Lib.decDigits, dif_pos (by simpa using h)]
    simp
  | k + 1, u, h => by
    rw [Lib.decDigits]
    split
    · simp
    · have := dec_len k (u / 10) (by rw [Nat.pow_succ] at h; omega)
      rw [List.length_append, List.length_singleton]
      omega
theorem itoa_len {n : Int} (h : ok64 n) : (Lib.itoa n).length ≤ 20 := by
  have hp : (10 : Nat) ^ (18 + 1) = 10000000000000000000 := by decide
  obtain ⟨h1, h2⟩ := h
  unfold Lib.itoa
  split
  · have := dec_len 18 n.natAbs (by omega)
    rw [List.length_cons]
    omega
  · have := dec_len 18 n.toNat (by omega)
    omega
theorem tail_len : ∀ (l : List Int), (∀ n ∈ l, ok64 n) → (Lib.joinTail [32] (l.map Lib.itoa)).length ≤ 21 * l.length
  | [], _ => by simp [Lib.joinTail]
  | n :: l, h => by
    have h1 := itoa_len (h n (List.mem_cons_self ..))
    have h2 := tail_len l fun x hx => h x (List.mem_cons_of_mem _ hx)
    have e : Lib.joinTail [32] ((n :: l).map Lib.itoa) = 32 :: (Lib.itoa n ++ Lib.joinTail [32] (l.map Lib.itoa)) := rfl
    rw [e, List.length_cons, List.length_append, List.length_cons]
    omega
theorem numsT_len (l : List Int) (h : ∀ n ∈ l, ok64 n) : (numsT l).length ≤ 21 * l.length := by
  cases l with
  | nil => simp [numsT, Lib.join_nil]
  | cons n l =>
    have h1 := itoa_len (h n (List.mem_cons_self ..))
    have h2 := tail_len l fun x hx => h x (List.mem_cons_of_mem _ hx)
    rw [numsT_cons, List.length_append, List.length_cons]
    omega
theorem itoaB_data (n : Int) : (itoaB n).data.toList = Lib.itoa n := by simp [itoaB]
theorem itoaB_map (l : List Int) : (l.map itoaB).map (·.data.toList) = l.map Lib.itoa := by
  rw [List.map_map]
  exact List.map_congr_left fun n _ => itoaB_data n
/-- a state's text -/
def stB (s : St) : ByteArray := ⟨(stText s).toArray⟩
set_option maxRecDepth 100000 in
set_option maxHeartbeats 8000000 in
theorem long_A (l : List Int) (hl : l.length ≤ 1000000) : ADet Tryz.prog 26 [sI l] (own 2 1 (((l.length : Int) :: l).map fun n => [eI n])) := by
  refine adet_of_code mixedT Tryz.func26 rfl (by decide) Tryz.ntmps26 Tryz.results26 rfl (own_ok _ _ _) ?_
  (repeat' (first | simp (maxSteps := 5000000) (implicitDefEqProofs := false) only [ruA, ruB, aEv, aLen, ASt.get, aget, ASt.put, aBuildSlice, aCells, oneC, oneCL, treeC, treeL, aLit, Value.cells, Value.oneCell', envOf, ↓reduceIte, reduceCtorEq, Nat.reduceLT, Nat.reduceMul, Nat.reduceLeDiff, eq_self, ne_eq, aBuildSlice1, frzs, ownIds, tyE_23, tyR_34] | (with_reducible refine aIf_split (fun _ => ?_) (fun _ => ?_)) | (with_reducible refine aSel_split (fun _ => ?_) (fun _ => ?_)) | (with_reducible refine aGd_split (fun _ => ?_) (fun _ => ?_)) | (with_reducible refine aDraw_quiet (by kernel_rfl) ?_) | (with_reducible apply And.intro)))
  all_goals first
    | rfl
    | skip
  refine aLoop_of (fun st => ∃ k : Nat, k ≤ l.length ∧ st = ⟨21, [(3, .osl 0), (9, sI l), (10, eI (l.length : Int)), (11, eI (k : Int))], [(0, some (.row 2 1 ([eI (l.length : Int)] :: (l.take k).map fun n => [eI n])))], 1⟩) (fun st => l.length - slotN st 11) ⟨_, (weak_ren1 [0] ⟨(by decide), (by (first | ((simp only [envInR, tabInR, envLt, tabLt, AObj.lt, AV.lt, AV.ren, AObj.ren, List.getD_cons_zero, List.length_cons, List.length_nil, ruW, ASt.get, aget, ↓reduceIte, Nat.reduceLT, Nat.reduceEqDiff, Nat.reduceAdd, eq_self, List.take_zero]) <;> (repeat' apply And.intro) <;> first | (rw [wrapK (by omega)]; done) | (simp; done) | omega) | fail))⟩), 0, Nat.zero_le _, rfl⟩ ?_
  rintro _ ⟨k, hk, rfl⟩
  by_cases hlt : k < l.length
  · have hsn : (l.take (k + 1)).map (fun n => [eI n]) = (l.take k).map (fun n => [eI n]) ++ [[eI l[k]]] := by
      rw [List.take_succ_eq_append_getElem hlt, List.map_append]
      rfl
    have htl : (l.take k).length ≤ 1000000 := by rw [List.length_take]; omega
    generalize hx : l[k] = x at *
    (repeat' (first | simp (maxSteps := 5000000) (implicitDefEqProofs := false) only [ruA, ruB, aEv, aTake, aLoad, aIndex, aBin, bin2, ASt.get, aget, ASt.put, aAppend, aBuildSlice, aCells, oneC, oneCL, treeC, treeL, aLit, aDst, aSrc, appTab, Value.cells, Value.oneCell', ↓reduceIte, reduceCtorEq, Nat.reduceLT, Nat.reduceEqDiff, Nat.reduceAdd, Nat.reduceMul, Nat.reduceLeDiff, eq_self, aBuildSlice1, frzs, ownIds, tyE_23, tyR_34, tyA_3, tyS_3, row_at, hlt, hx] | (with_reducible refine aIf_split (fun _ => ?_) (fun _ => ?_)) | (with_reducible refine aSel_split (fun _ => ?_) (fun _ => ?_)) | (with_reducible refine aGd_split (fun _ => ?_) (fun _ => ?_)) | (with_reducible refine aDraw_quiet (by kernel_rfl) ?_) | (with_reducible apply And.intro)))
    all_goals first
      | rfl
      | omega
      | exact roundI (weak_ren1 [2] ⟨(by decide), (by (first | ((simp only [envInR, tabInR, envLt, tabLt, AObj.lt, AV.lt, AV.ren, AObj.ren, List.getD_cons_zero, List.length_cons, List.length_nil, ruW, ASt.get, aget, ↓reduceIte, Nat.reduceLT, Nat.reduceEqDiff, Nat.reduceAdd, eq_self, hsn]) <;> (repeat' apply And.intro) <;> first | (rw [wrapK (by omega)]; done) | (simp; done) | omega) | fail))⟩) ⟨k + 1, by omega, rfl⟩ (by simp only [slotN, ruW, ASt.get, aget, ↓reduceIte, Nat.reduceLT, Nat.reduceEqDiff, eq_self]; omega)
      | trace_state
  · obtain rfl : k = l.length := by omega
    (repeat' (first | simp (maxSteps := 5000000) (implicitDefEqProofs := false) only [ruA, ruB, aEv, aBin, bin2, ASt.get, aget, ASt.put, aResL, aOne, ↓reduceIte, Nat.reduceLT, Nat.reduceEqDiff, eq_self, hlt] | (with_reducible refine aIf_split (fun _ => ?_) (fun _ => ?_)) | (with_reducible refine aSel_split (fun _ => ?_) (fun _ => ?_)) | (with_reducible refine aGd_split (fun _ => ?_) (fun _ => ?_)) | (with_reducible refine aDraw_quiet (by kernel_rfl) ?_)))
    all_goals exact aGives_own (by simp [ATab.get_cons])
theorem stNums_rows (s : St) : (stNums s).map (fun n : Int => [eI n]) = [eI (s.vals.length : Int)] :: (s.vals.map (fun n => [eI n]) ++ ([eI s.opn] :: [eI s.don] :: [eI (s.did.length : Int)] :: (s.did.map (fun n => [eI n]) ++ ([eI (s.cnt.length : Int)] :: s.cnt.map fun n => [eI n])))) := by
  simp [stNums]
set_option maxRecDepth 100000 in
set_option maxHeartbeats 16000000 in
theorem text_A (s : St) (h1 : s.vals.length ≤ 1000) (h2 : s.did.length ≤ 1000) (h3 : s.cnt.length ≤ 1000) (hv : ∀ x ∈ s.vals, ok64 x) (ho : ok64 s.opn) (hd : ok64 s.don) (hdid : ∀ x ∈ s.did, ok64 x) (hcnt : ∀ x ∈ s.cnt, ok64 x) : ADet Tryz.prog 13 [.agg (eSt s)] (val (.string (stB s))) := by
  refine adet_of_code mixedT Tryz.func13 rfl (by decide) Tryz.ntmps13 Tryz.results13 rfl (val_ok _) ?_
  have hL1 := long_A s.did (by omega)
  have hL2 := long_A s.cnt (by omega)
  have hrow := stNums_rows s
  have hLl : (stNums s).length ≤ 3005 := by simp [stNums]; omega
  have hok : ∀ n ∈ stNums s, ok64 n := fun n hn => by
    simp only [stNums, List.mem_cons, List.mem_append] at hn
    rcases hn with rfl | hn | rfl | rfl | rfl | hn | rfl | hn
    · unfold ok64; omega
    · exact hv n hn
    · exact ho
    · exact hd
    · unfold ok64; omega
    · exact hdid n hn
    · unfold ok64; omega
    · exact hcnt n hn
  have hT : stB s = ⟨(Lib.join (((stNums s).map itoaB).map (·.data.toList)) ((⟨#[32]⟩ : ByteArray).data.toList)).toArray⟩ := by rw [itoaB_map]; rfl
  have hlen : (Lib.join (((stNums s).map itoaB).map (·.data.toList)) ((⟨#[32]⟩ : ByteArray).data.toList)).length ≤ 1000000000 := by
    rw [itoaB_map]
    have := numsT_len (stNums s) hok
    have e : ((⟨#[32]⟩ : ByteArray).data.toList) = [32] := rfl
    rw [e]
    show (numsT (stNums s)).length ≤ _
    omega
  have hJ := join_A ((stNums s).map itoaB) ⟨#[32]⟩ (by rw [List.length_map]; omega) hlen
  rw [← hT] at hJ
  clear hT hlen
  have hLE : s.vals.length + 2 + (s.did.length + 1) + (s.cnt.length + 1) + 1 = (stNums s).length := by simp [stNums]; omega
  generalize stB s = T at *
  generalize stNums s = L at *
  (repeat' (first | simp (maxSteps := 5000000) (implicitDefEqProofs := false) only [ruA, ruB, aEv, aTake, aLoad, aField, aLen, ASt.get, aget, ASt.put, aBox, aAppend, aBuildSlice, aCells, oneC, oneCL, treeC, treeL, aLit, aDst, aSrc, appTab, Value.cells, Value.oneCell', envOf, ↓reduceIte, reduceCtorEq, Nat.reduceLT, Nat.reduceEqDiff, Nat.reduceAdd, Nat.reduceMul, Nat.reduceLeDiff, eq_self, ne_eq, aBuildSlice1, frzs, ownIds, tyF_51_0, tyA_34, tyS_34, tyE_34, tyR_34, tyF_51_1, tyA_3, tyS_3, tyF_51_2, tyF_51_3, tyA_23, tyS_23, tyF_51_4, List.length_append] | (with_reducible refine aIf_split (fun _ => ?_) (fun _ => ?_)) | (with_reducible refine aSel_split (fun _ => ?_) (fun _ => ?_)) | (with_reducible refine aGd_split (fun _ => ?_) (fun _ => ?_)) | (with_reducible refine aDraw_quiet (by kernel_rfl) ?_) | ((with_reducible apply callO); exact (hL1); exact (.inr ints_plain)) | ((with_reducible apply callO); exact (hL2); exact (.inr ints_plain)) | (with_reducible apply And.intro)))
  all_goals first
    | rfl
    | omega
    | skip
  have h0 : (L.take 0).map itoaB = [] := rfl
  refine aLoop_of (fun st => ∃ k : Nat, k ≤ L.length ∧ st = ⟨45, [(4, .osl 1), (31, .osl 0), (32, eI (L.length : Int)), (33, eI (k : Int))], [(0, some (.row 2 1 (L.map fun n => [eI n]))), (1, some (.row 9 1 (((L.take k).map itoaB).map fun s => [.c (.string s)])))], 2⟩) (fun st => L.length - slotN st 33) ⟨_, ((weak_nil 4 9 1 (by simp only [ASt.get, aget, ↓reduceIte, Nat.reduceLT, Nat.reduceEqDiff, eq_self])).trans (weak_ren1 [8, 9] ⟨(by decide), (by (first | ((simp only [envInR, tabInR, envLt, tabLt, AObj.lt, AV.lt, AV.ren, AObj.ren, List.getD_cons_zero, List.getD_cons_succ, List.length_cons, List.length_nil, ruW, ASt.get, aget, ↓reduceIte, Nat.reduceLT, Nat.reduceEqDiff, Nat.reduceAdd, eq_self, hLE, hrow, h0, List.append_assoc, List.length_cons]) <;> (repeat' apply And.intro) <;> first | (rw [wrapK (by omega)]; done) | (simp; done) | omega) | fail))⟩)), 0, Nat.zero_le _, rfl⟩ ?_
  rintro _ ⟨k, hk, rfl⟩
  by_cases hlt : k < L.length
  · have hsn : ((L.take (k + 1)).map itoaB).map (fun s => [AV.c (.string s)]) = ((L.take k).map itoaB).map (fun s => [AV.c (.string s)]) ++ [[.c (.string (itoaB L[k]))]] := by
      rw [List.take_succ_eq_append_getElem hlt, List.map_append, List.map_append]
      rfl
    have hp := print_A L[k] (hok _ (List.getElem_mem hlt))
    have htl : (L.take k).length ≤ 3005 := by rw [List.length_take]; omega
    generalize hx : L[k] = x at *
    (repeat' (first | simp (maxSteps := 5000000) (implicitDefEqProofs := false) only [ruA, ruB, aEv, aTake, aLoad, aIndex, aBin, bin2, ASt.get, aget, ASt.put, aAppend, aBuildSlice, aCells, oneC, oneCL, treeC, treeL, aLit, aDst, aSrc, appTab, Value.cells, Value.oneCell', ↓reduceIte, reduceCtorEq, Nat.reduceLT, Nat.reduceEqDiff, Nat.reduceAdd, Nat.reduceMul, Nat.reduceLeDiff, eq_self, aBuildSlice1, frzs, ownIds, tyE_34, tyA_2, tyS_2, tyR_33, row_at, hlt, hx] | (with_reducible refine aIf_split (fun _ => ?_) (fun _ => ?_)) | (with_reducible refine aSel_split (fun _ => ?_) (fun _ => ?_)) | (with_reducible refine aGd_split (fun _ => ?_) (fun _ => ?_)) | (with_reducible refine aDraw_quiet (by kernel_rfl) ?_) | ((with_reducible apply callV); exact (hp)) | ((with_reducible apply callD); exact (hp)) | (with_reducible apply And.intro)))
    all_goals first
      | rfl
      | omega
      | exact roundI (weak_ren1 [0, 3] ⟨(by decide), (by (first | ((simp only [envInR, tabInR, envLt, tabLt, AObj.lt, AV.lt, AV.ren, AObj.ren, List.getD_cons_zero, List.getD_cons_succ, List.length_cons, List.length_nil, ruW, ASt.get, aget, ↓reduceIte, reduceCtorEq, Nat.reduceLT, Nat.reduceEqDiff, Nat.reduceAdd, eq_self, hsn]) <;> (repeat' apply And.intro) <;> first | (rw [wrapK (by omega)]; done) | (simp; done) | omega) | fail))⟩) ⟨k + 1, by omega, rfl⟩ (by simp only [slotN, ruW, ASt.get, aget, ↓reduceIte, Nat.reduceLT, Nat.reduceEqDiff, eq_self]; omega)
      | trace_state
  · obtain rfl : k = L.length := by omega
    rw [List.take_length]
    (repeat' (first | simp (maxSteps := 5000000) (implicitDefEqProofs := false) only [ruA, ruB, aEv, aBin, bin2, ASt.get, aget, ASt.put, aResL, aOne, ↓reduceIte, Nat.reduceLT, Nat.reduceEqDiff, eq_self, hlt] | (with_reducible refine aIf_split (fun _ => ?_) (fun _ => ?_)) | (with_reducible refine aSel_split (fun _ => ?_) (fun _ => ?_)) | (with_reducible refine aGd_split (fun _ => ?_) (fun _ => ?_)) | (with_reducible refine aDraw_quiet (by kernel_rfl) ?_) | ((with_reducible apply callV); exact (hJ)) | ((with_reducible apply callD); exact (hJ))))
end
section
open Go.RowKit

section
variable {P : Program} {cx : Cx} {a : Act} {w w' w'' : World} {st : ASt} {tab tab' tab'' : ATab} {L L' L'' : Nat → Value} {nx nx' nx'' : Nat}
theorem Fr.refl : Fr cx w tab L nx w tab L nx := ⟨Ext.refl .., Nat.le_refl _, fun _ _ _ => rfl, fun id o g h1 h2 _ => ⟨id, o, h1, h2⟩, Nat.le_refl _⟩
theorem Fr.trans (h : Fr cx w tab L nx w' tab' L' nx') (k : Fr cx w' tab' L' nx' w'' tab'' L'' nx'') : Fr cx w tab L nx w'' tab'' L'' nx'' :=
  ⟨⟨fun b hb => (k.ext.blk b (h.ext.sub b hb)).trans (h.ext.blk b hb), fun b hb => k.ext.sub b (h.ext.sub b hb), fun id p hid hp => h.ext.loc id p hid (k.ext.loc id p (Nat.lt_of_lt_of_le hid h.next) hp)⟩,
   Nat.le_trans h.size k.size,
   fun j hj hn => (k.keep j (Nat.lt_of_lt_of_le hj h.size) fun id o h1 h2 => (h.young id o j h1 h2 hj).elim fun id2 ⟨o2, h3, h4⟩ => hn id2 o2 h3 h4).trans (h.keep j hj hn),
   fun id o g h1 h2 hg => (k.young id o g h1 h2 (Nat.lt_of_lt_of_le hg h.size)).elim fun id2 ⟨o2, h3, h4⟩ => h.young id2 o2 g h3 h4 hg,
   Nat.le_trans h.next k.next⟩
theorem put_tab (st : ASt) (d : Option Nat) (av : AV) : (st.put d av).tab = st.tab := by cases d <;> rfl
theorem put_next (st : ASt) (d : Option Nat) (av : AV) : (st.put d av).next = st.next := by cases d <;> rfl
theorem fr_merge (hy : ∀ id o, tab.get id = some o → id < nx) (hb : Below w.heap.size w w') (hold : ∀ id, id < nx → tab'.get id = tab.get id ∧ L' id = L id) (hnew : ∀ id o g, nx ≤ id → tab'.get id = some o → vblk (L' id) = some g → w.heap.size ≤ g) (hn : nx ≤ nx') : Fr cx w tab L nx w' tab' L' nx' :=
  ⟨ext_merge hb hold hy hnew, hb.size, fun k hk _ => hb.block k hk, fun id o g h1 h2 hg => by
    rcases Nat.lt_or_ge id nx with hlt | hge
    · exact ⟨id, o, by rw [← (hold id hlt).1]; exact h1, by rw [← (hold id hlt).2]; exact h2⟩
    · exact absurd (hnew id o g hge h1 h2) (by omega), hn⟩
theorem fr_new (h : Conc cx a w st L) (hb : Below w.heap.size w w') {v : Value} {ob : AObj} (hnew : ∀ g, vblk v = some g → w.heap.size ≤ g) : Fr cx w st.tab L st.next w' ((st.next, some ob) :: st.tab) (updL L st.next v) (st.next + 1) :=
  fr_merge (fun id o hid => (h.young id o hid).1) hb (fun id hid => by unfold updL; rw [ATab.get_cons, if_neg (by omega), if_neg (by omega)]; exact ⟨rfl, rfl⟩)
    (fun id o g h1 h2 h3 => by
      rw [ATab.get_cons] at h2
      unfold updL at h3
      split at h2
      · rename_i e
        rw [if_pos e] at h3
        exact hnew g h3
      · have := (h.young id o h2).1
        omega) (Nat.le_succ _)
theorem fr_upd {id : Nat} {o o' : AObj} (hid : st.tab.get id = some o) (hsz : o'.sz = o.sz) (hs : w'.heap.size = w.heap.size) (hb : ∀ k, vblk (L id) ≠ some k → w'.heap[k]? = w.heap[k]?) : Fr cx w st.tab L st.next w' ((id, some o') :: st.tab) L st.next := by
  have hget : ∀ k ok, ATab.get ((id, some o') :: st.tab) k = some ok → ∃ ok', st.tab.get k = some ok' ∧ ok.sz = ok'.sz := fun k ok hk => by
    rw [ATab.get_cons] at hk
    split at hk
    · rename_i e
      cases hk
      exact ⟨o, by rw [e]; exact hid, hsz⟩
    · exact ⟨ok, hk, rfl⟩
  refine ⟨⟨fun b hb' => hb b (hb'.2.2 id o hid), fun b hb' => ⟨by rw [hs]; exact hb'.1, hb'.2.1, fun k ok hk => ?_⟩, fun k p _ hk => ?_⟩, by rw [hs]; exact Nat.le_refl _, fun k hk hn => hb k (hn id o hid), fun k ok g h1 h2 _ => ?_, Nat.le_refl _⟩
  · obtain ⟨ok', h1, _⟩ := hget k ok hk
    exact hb'.2.2 k ok' h1
  · unfold Kx at *
    cases ho : ATab.get ((id, some o') :: st.tab) k with
    | none => simp [ho] at hk
    | some ok =>
      obtain ⟨ok', h1, h2⟩ := hget k ok ho
      rw [h1]
      simpa [ho, h2] using hk
  · obtain ⟨ok', h3, _⟩ := hget k ok h1
    exact ⟨k, ok', h3, h2⟩
theorem fr_frz1 (id : Nat) : Fr cx w st.tab L st.next w (frz1 st id).tab L (frz1 st id).next := by
  unfold frz1
  split
  · rename_i e sz rows hid
    have hget : ∀ k ok, ATab.get ((id, none) :: frzTab id sz rows st.tab) k = some ok → ∃ ok', st.tab.get k = some ok' ∧ ok.sz = ok'.sz := fun k ok hk => by
      rw [ATab.get_cons, frzTab_get] at hk
      split at hk
      · cases hk
      · cases hg : st.tab.get k with
        | none => simp [hg] at hk
        | some o' =>
          simp [hg] at hk
          exact ⟨o', rfl, by rw [← hk, frz_sz]⟩
    refine ⟨⟨fun _ _ => rfl, fun b hb' => ⟨hb'.1, hb'.2.1, fun k ok hk => ?_⟩, fun k p _ hk => ?_⟩, Nat.le_refl _, fun k hk hn => rfl, fun k ok g h1 h2 _ => ?_, Nat.le_refl _⟩
    · obtain ⟨ok', h1, _⟩ := hget k ok hk
      exact hb'.2.2 k ok' h1
    · unfold Kx at *
      cases ho : ATab.get ((id, none) :: frzTab id sz rows st.tab) k with
      | none => simp [ho] at hk
      | some ok =>
        obtain ⟨ok', h1, h2⟩ := hget k ok ho
        rw [h1]
        simpa [ho, h2] using hk
    · obtain ⟨ok', h3, _⟩ := hget k ok h1
      exact ⟨k, ok', h3, h2⟩
  · exact Fr.refl
theorem fr_frzs : ∀ (ids : List Nat) {st : ASt}, Fr cx w st.tab L st.next w (frzs st ids).tab L (frzs st ids).next
  | [], _ => Fr.refl
  | id :: ids, st => (fr_frz1 id).trans (fr_frzs ids (st := frz1 st id))
theorem fr_app (h : Conc cx a w st L) {v v' : Value} {oid : Option Nat} {ob : AObj} (hg : w.grownBy w' v.ownBlock) (hv : vblk v' = v.ownBlock ∨ vblk v' = some w.heap.size)
    (hown : ∀ g, v.ownBlock = some g → ∃ id, oid = some id ∧ vblk (L id) = some g) (hoid : ∀ id, oid = some id → ∃ o, st.tab.get id = some o) : Fr cx w st.tab L st.next w' (appTab st.tab st.next oid ob) (updL L st.next v') (st.next + 1) := by
  have hnot : ∀ k, (∀ id o, st.tab.get id = some o → vblk (L id) ≠ some k) → some k ≠ v.ownBlock := fun k hn e => by
    obtain ⟨id, h1, h2⟩ := hown k e.symm
    obtain ⟨o, h3⟩ := hoid id h1
    exact hn id o h3 h2
  have hget : ∀ k ok, (appTab st.tab st.next oid ob).get k = some ok → k = st.next ∨ (k < st.next ∧ st.tab.get k = some ok) := fun k ok hk => by
    rw [appTab_get] at hk
    split at hk
    · exact .inl (by assumption)
    · split at hk
      · cases hk
      · exact .inr ⟨(h.young k ok hk).1, hk⟩
  refine ⟨⟨fun b hb => hg.block b hb.1 (hnot b hb.2.2), fun b hb => ⟨Nat.lt_of_lt_of_le hb.1 hg.size, hb.2.1, fun k ok hk => ?_⟩, fun k p hlt hk => ?_⟩, hg.size, fun k hk hn => hg.block k hk (hnot k hn), fun k ok g h1 h2 hlt => ?_, Nat.le_succ _⟩
  · unfold updL
    rcases hget k ok hk with rfl | ⟨hlt, ho⟩
    · rw [if_pos rfl]
      rcases hv with hv | hv
      · rw [hv]
        exact fun e => hnot b hb.2.2 e.symm
      · rw [hv]
        intro e
        cases e
        exact absurd hb.1 (by omega)
    · rw [if_neg (by omega)]
      exact hb.2.2 k ok ho
  · unfold Kx updL at *
    rw [if_neg (by omega)] at hk
    cases ho : (appTab st.tab st.next oid ob).get k with
    | none => simp [ho] at hk
    | some ok =>
      rcases hget k ok ho with rfl | ⟨_, h1⟩
      · omega
      · rw [h1]
        rw [ho] at hk
        exact hk
  · unfold updL at h2
    rcases hget k ok h1 with rfl | ⟨hlt', ho⟩
    · rw [if_pos rfl] at h2
      rcases hv with hv | hv
      · rw [hv] at h2
        obtain ⟨id, h3, h4⟩ := hown g h2
        obtain ⟨o, h5⟩ := hoid id h3
        exact ⟨id, o, h5, h4⟩
      · rw [hv] at h2
        cases h2
        omega
    · rw [if_neg (by omega)] at h2
      exact ⟨k, ok, ho, h2⟩
/-- what follows an operation, and what stays -/
abbrev AfterF (cx : Cx) (a : Act) (w : World) (st : ASt) (L : Nat → Value) (K : ASt → Prop) : Act → World → Prop := fun a' w' => ∃ st' L', K st' ∧ Conc cx a' w' st' L' ∧ Fr cx w st.tab L st.next w' st'.tab L' st'.next ∧ a'.defers = a.defers
theorem put_defers (a : Act) (d : Option Nat) (v : Value) : (a.put d v).defers = a.defers := by cases d <;> rfl
theorem pure_wpF {o : Oper} {K : ASt → Prop} {Q : Exit → Act → World → Prop} (h : Conc cx a w st L) (hp : aPure P st.tab (aEv st) o.op (aK st o.dst K)) : o.wp P a w (AfterF cx a w st L K) Q := by
  obtain ⟨v, av, h1, h2, h3, h4, _⟩ := pure_ok h.lay (fun id o hid => (h.young id o hid).2) (eval_ok h) hp
  exact wp_value (h4 w (Below.refl _ _)) ⟨_, L, h1, conc_pure h h2 h3 o.dst, (by rw [put_tab, put_next]; exact Fr.refl), put_defers _ _ _⟩
/-- an operation that may stand in a round -/
def fOp (o : Oper) : Bool := match o.op with
  | .slice .. => false
  | .defer _ => false
  | _ => true
theorem op_okF {o : Oper} {K : ASt → Prop} {Q : Exit → Act → World → Prop} (h : Conc cx a w st L) (hp : aOp P o K st) (hf : fOp o = true) : o.wp P a w (AfterF cx a w st L K) Q := by
  obtain ⟨dst, op, ty, pos, aft, gd⟩ := o
  unfold aOp at hp
  simp only at hp
  split at hp
  · rename_i t x
    obtain ⟨h1, h2⟩ := hp
    have he := eval_ok h x
    obtain ⟨h3, h4⟩ := box_ok (P := P) (t := t) h he.1 he.2 h1 dst
    exact wp_value (by simp [execOp, h3]) ⟨_, _, h2, h4, (by rw [put_tab, put_next]; exact fr_new h ((Below.refl _ _).alloc (Nat.le_refl _) _) (fun g hg => by simp [vblk] at hg; omega)), put_defers _ _ _⟩
  · rename_i t
    split at hp
    · rename_i z hz
      obtain ⟨h1, h2⟩ := hp
      obtain ⟨h3, h4⟩ := box_ok (P := P) (t := t) (av := .c z) h (.tree (.c z)) trivial h1 dst
      exact wp_value (by simp [execOp, alloc_run hz, h3]) ⟨_, _, h2, h4, (by rw [put_tab, put_next]; exact fr_new h ((Below.refl _ _).alloc (Nat.le_refl _) _) (fun g hg => by simp [vblk] at hg; omega)), put_defers _ _ _⟩
    · exact hp.elim
  · rename_i t p x
    unfold aStore at hp
    split at hp
    · rename_i id i j hpe
      split at hp
      · rename_i ty cells hid
        obtain ⟨rfl, h0, h1, h2, h3, h4⟩ := hp
        have hpv := (eval_ok h p).1
        rw [hpe] at hpv
        have hx := eval_ok h x
        obtain ⟨w', h5, h6, h7, h8⟩ := store_box_ok h hpv hid hx.1 hx.2 h0 h1 h2 h3 dst
        exact wp_skip' (by simp [execOp, h5]) ⟨_, _, h4, h6, (by rw [put_tab, put_next]; exact fr_upd hid (by simp only [AObj.sz, List.length_append, List.length_take, List.length_drop]; omega) h7 h8), put_defers _ _ _⟩
      · rename_i e sz rows hid
        obtain ⟨hi, h0, h1, h2, h3, h3', h4⟩ := hp
        have hpv := (eval_ok h p).1
        rw [hpe] at hpv
        have hx := eval_ok h x
        obtain ⟨w', h5, h6, h7, h8⟩ := store_row_ok h hpv hid hx.1 hx.2 hi h0 h1 h2 h3 h3' dst
        exact wp_skip' (by simp [execOp, h5]) ⟨_, _, h4, h6, (by rw [put_tab, put_next]; exact fr_upd hid rfl h7 h8), put_defers _ _ _⟩
      · exact hp.elim
    · exact hp.elim
  · rename_i t n parts
    unfold aBuildSlice at hp
    have hfr := fr_frzs (cx := cx) (w := w) (L := L) (st := st) (ownIds (parts.toList.flatMap fun (p : Nat × Operand) => aCells (aEv st p.2)))
    replace h := conc_frzs (ownIds (parts.toList.flatMap fun (p : Nat × Operand) => aCells (aEv st p.2))) h
    unfold aBuildSlice1 at hp
    split at hp
    · rename_i e sz by_ ht
      obtain ⟨⟨h1, rfl, h3, h5⟩, h6⟩ := hp
      obtain ⟨v', w', L', h7, h8, hb, rfl, hv⟩ := buildSlice_ok h ht h1 h3 h5 dst
      refine wp_value ?_ ⟨_, _, h6, h8, (by rw [put_tab, put_next]; exact hfr.trans (fr_new h hb fun g hg => by rw [hv] at hg; cases hg; exact Nat.le_refl _)), put_defers _ _ _⟩
      simp only [Array.toArray_toList] at h7
      simp [execOp]
      simp at h7
      simp [h7]
    · exact hp.elim
  · rename_i t l c
    unfold aMake at hp
    split at hp
    · rename_i e sz by_ k1 n k2 m ht hl hc
      split at hp
      · rename_i z hz
        obtain ⟨⟨rfl, h1, h2, h3, h4⟩, h5⟩ := hp
        have hl' := (eval_ok h l).1
        have hc' := (eval_ok h c).1
        rw [hl] at hl'
        rw [hc] at hc'
        obtain ⟨v', w', L', h6, h7, hb, rfl, hv⟩ := make_ok (k1 := k1) (k2 := k2) h ht hz h1 h2 h3 h4 dst
        exact wp_value (by simp [execOp, hl'.c_inv, hc'.c_inv, h6]) ⟨_, _, h5, h7, (by rw [put_tab, put_next]; exact fr_new h hb fun g hg => by rw [hv] at hg; cases hg; exact Nat.le_refl _), put_defers _ _ _⟩
      · exact hp.elim
    · exact hp.elim
  · rename_i t parts
    obtain ⟨v, cs, h1, h2, h3, h4⟩ := build_wp h hp
    refine wp_value ?_ ⟨_, _, h4, conc_pure h h1 h2 dst, (by rw [put_tab, put_next]; exact Fr.refl), put_defers _ _ _⟩
    simp [execOp, h3 w]
  · cases hf
  · rename_i c
    obtain ⟨callee, args, argTypes⟩ := c
    simp only at hp
    split at hp
    · split at hp
      · rename_i x y t t' h1 h2
        obtain rfl : args = #[x, y] := by cases args; simp_all
        obtain rfl : argTypes = #[t, t'] := by cases argTypes; simp_all
        obtain ⟨rfl, hp⟩ := hp
        unfold aAppend at hp
        split at hp
        · rename_i e sz by_ ht
          split at hp
          · rename_i oid rows rows2 hx hy
            obtain ⟨⟨h3, h4⟩, h5⟩ := hp
            obtain ⟨v', w', L', h6, h7, hg, rfl, hv, hown⟩ := append_ok (ty := ty) h (eval_ok h x).1 (eval_ok h y).1 ht hx hy (by simpa [maxLen] using h3) h4 dst
            have hoid : ∀ id, oid = some id → ∃ o, st.tab.get id = some o := fun id hid => by
              subst hid
              unfold aDst at hx
              split at hx
              · rename_i id' hid'
                split at hx
                · rename_i e' sz' rows' hget
                  split at hx
                  · cases hx
                    exact ⟨_, hget⟩
                  · cases hx
                · cases hx
              · cases hx
              · cases hx
            exact wp_value (by simp [execOp, resolve, invoke, builtin, h6]) ⟨_, _, h5, h7, (by rw [put_tab, put_next]; exact fr_app h hg hv hown hoid), put_defers _ _ _⟩
          · exact hp.elim
        · exact hp.elim
      · exact hp.elim
    · rename_i f
      obtain ⟨g, xs, cs, hg, hxn, hxr, hp, hcs⟩ := aFn_inv (eval_ok h f).1 (eval_ok h f).2 hp
      have hent : Enters P g := by
        rcases hp with ⟨R, hd, _⟩ | ⟨_, (⟨_, _, _, _, _, _, _, _, hd, _⟩ | ⟨_, _, _, _, _, _, _, _, _, hd, _⟩) | ⟨_, R, hd, _⟩⟩
        · exact hd.1
        · exact hd.1
        · exact hd.1
        · exact hd.1
      have hrun : (execOp a.eval { dst := dst, op := .call { callee := .value f, args := args, argTypes := argTypes }, type := ty, pos := pos, after := aft, guard := gd }).run P w = .ok (.enter g (args.map a.eval ++ xs)) w := by
        have := hent (args.map a.eval ++ xs) w
        simp [execOp, resolve, hg, Deferred.ofValue, invoke, this]
      unfold Oper.wp
      rw [hrun]
      show Calls P g (args.map a.eval ++ xs) w _
      have hargs := args_rv h (args := args) hxn hxr
      rcases hp with hp | ⟨_, hp | ⟨ids, hp⟩⟩
      · refine (call_ok h hargs.1 hargs.2 hp dst).mono ?_
        rintro e w' ⟨v, av, st', L', rfl, h1, h2, hb, hold, hnew, hnx⟩
        exact ⟨_, _, h1, h2, (by rw [put_tab, put_next]; exact fr_merge (fun id o hid => (h.young id o hid).1) hb hold hnew hnx), put_defers _ _ _⟩
      rotate_left
      · have hlt : ∀ (j : Nat) (v : Value) (av : AV), (args.map a.eval ++ xs)[j]? = some v → (args.toList.map (aEv st) ++ cs)[j]? = some av → RVx cx w st.tab L v av ∧ av.lt st.next := fun j v av h1 h2 => ⟨hargs.2 j v av h1 h2, by
          rcases List.mem_append.1 (List.mem_of_getElem? h2) with h3 | h3
          · obtain ⟨x, _, rfl⟩ := List.mem_map.1 h3
            exact (eval_ok h x).2
          · exact hcs av h3⟩
        obtain ⟨h3, h4⟩ := frzAVs_ok ids h hlt
        have hz := conc_frzs ids h
        refine (call_ok hz (by rw [h3]; exact hargs.1) (fun j v av h5 h6 => (h4 j v av h5 h6).1) hp dst).mono ?_
        rintro e w' ⟨v, av, st', L', rfl, h1, h2, hb, hold, hnew, hnx⟩
        exact ⟨_, _, h1, h2, (by rw [put_tab, put_next]; exact (fr_frzs ids).trans (fr_merge (fun id o hid => (hz.young id o hid).1) hb hold hnew hnx)), put_defers _ _ _⟩
      · refine (updM_ok h hargs.1 hargs.2 hp dst).mono ?_
        rintro e w' ⟨v, av, st', L', rfl, h1, h2, h3⟩
        exact ⟨_, _, h1, h2, (by rw [put_tab, put_next]; exact h3), put_defers _ _ _⟩
    · exact pure_wpF h hp
  · exact pure_wpF h hp
end
end
section
open Go.RowKit

section
variable {P : Program} {cx : Cx} {a : Act} {w w' : World} {st : ASt} {L L' : Nat → Value} {l0 n : Nat}
/-- memory that the caller does not write: with what was laid since -/
def grow (T : Nat → Prop) (w w' : World) (b : Nat) : Prop := T b ∨ (w.heap.size ≤ b ∧ b < w'.heap.size)
theorem conc_move {c c' : Cx} (h : Conc c a w st L) (hw : c'.w0 = c.w0) (hblk : ∀ b, Sx c w st.tab L b → w'.heap[b]? = w.heap[b]?) (hown : ∀ id o g, st.tab.get id = some o → vblk (L id) = some g → w'.heap[g]? = w.heap[g]?) (hS : ∀ b, Sx c w st.tab L b → Sx c' w' st.tab L b)
    (hb : BelowX c'.X c'.w0.heap.size c'.w0 w') (hex : ∀ b, c'.X b → b < w'.heap.size ∧ ∀ id o, st.tab.get id = some o → vblk (L id) ≠ some b) : Conc c' a w' st L := by
  have hrv : ∀ {x av nx}, RVx c w st.tab L x av → av.lt nx → RVx c' w' st.tab L x av := fun hr hl => hr.mono hl (fun p hp => World.cell?_of_block (hblk _ hp)) hS (fun _ _ _ h => h)
  refine ⟨⟨hb, fun id o hid => ?_, h.lay.sep, hex⟩, h.size, by rw [hw]; exact h.defers.mono hblk hS, h.young, fun t => ⟨hrv (h.env t).1 (h.env t).2, (h.env t).2⟩⟩
  have ho := h.lay.objs id o hid
  have hy := (h.young id o hid).2
  cases o with
  | box t cells =>
    obtain ⟨g, cs, h1, h2, h3, h4, h5⟩ := ho
    exact ⟨g, cs, h1, by rw [hw]; exact h2, (hown id _ g hid (by rw [h1]; rfl)).trans h3, h4, fun j x av h6 h7 => ⟨hrv (h5 j x av h6 h7).1 (ltL_iff.1 hy _ (List.mem_of_getElem? h7)), (h5 j x av h6 h7).2⟩⟩
  | row e sz rows =>
    obtain ⟨h1, xs, hown', h2, h3⟩ := ho
    refine ⟨h1, xs, ⟨hown'.1, ?_⟩, h2, fun i j row av ha hb => ?_⟩
    · rcases hown'.2 with hn | ⟨g, cap, cur, h4, hb, hh, rest⟩
      · exact .inl hn
      · exact .inr ⟨g, cap, cur, h4, by rw [hw]; exact hb, (hown id _ g hid (by rw [h4]; rfl)).trans hh, rest⟩
    · obtain ⟨x, hx, hr⟩ := h3 i j row av ha hb
      exact ⟨x, hx, hr.mono (fun p hp => World.cell?_of_block (hblk _ hp)) hS⟩
def Cx.ex (c : Cx) (M : Nat → Prop) (hM : ∀ b, M b → c.w0.heap.size ≤ b) : Cx := ⟨c.F, c.w0, fun b => c.X b ∨ M b, c.amb, fun b h => h.elim (c.exD b) fun h2 => Nat.le_trans c.amb.le (hM b h2), c.inF⟩
def JAt (cx : Cx) (a0 : Act) (l : Nat) (r : Loop) (I : ASt → Prop) (T M : Nat → Prop) (W : World) : Prop :=
  ∃ (hqq : ∀ b, M b → cx.w0.heap.size ≤ b) (st : ASt) (L : Nat → Value), I st ∧ Conc (cx.ex M hqq) a0 W st L ∧ W.heap[l]? = some (.loop r) ∧ Sx (cx.ex M hqq) W st.tab L l ∧ ¬ T l ∧ (∀ b, M b → T b ∧ cx.w0.heap.size ≤ b) ∧ ∀ b, T b → Sx cx W st.tab L b
theorem sx_new (h : Conc cx a w st L) {b : Nat} (h1 : w.heap.size ≤ b) (h2 : b < w'.heap.size) : Sx cx w' st.tab L b :=
  ⟨h2, ⟨.inr (Nat.le_trans h.lay.below.size h1), fun hX => absurd (h.lay.ex b hX).1 (Nat.not_lt.2 h1)⟩, fun id o hid hg => absurd ((h.lay.objs id o hid).ge hg).2 (by omega)⟩
theorem JAt.step {a0 : Act} {l : Nat} {r : Loop} {I : ASt → Prop} {T M M' : Nat → Prop} (h : JAt cx a0 l r I T M w) (hb : BelowX M w.heap.size w w') (hM : ∀ b, M' b → M b ∨ (w.heap.size ≤ b ∧ b < w'.heap.size)) : JAt cx a0 l r I (grow T w w') M' w' := by
  obtain ⟨hqq, st, L, h1, h2, h3, h4, h5, h6, h7⟩ := h
  have hsz : cx.w0.heap.size ≤ w.heap.size := h2.lay.below.size
  have hq' : ∀ b, M' b → cx.w0.heap.size ≤ b := fun b hb2 => (hM b hb2).elim (hqq b) fun h8 => Nat.le_trans hsz h8.1
  have hS : ∀ b, Sx (cx.ex M hqq) w st.tab L b → Sx (cx.ex M' hq') w' st.tab L b := fun b hs => ⟨Nat.lt_of_lt_of_le hs.1 hb.size, ⟨hs.2.1.1, fun hx => by
    rcases hx with hx | hx
    · exact hs.2.1.2 (.inl hx)
    · rcases hM b hx with hm | hm
      · exact hs.2.1.2 (.inr hm)
      · have := hs.1
        omega⟩, hs.2.2⟩
  have hblk : ∀ b, Sx (cx.ex M hqq) w st.tab L b → w'.heap[b]? = w.heap[b]? := fun b hs => hb.block b hs.1 fun hm => hs.2.1.2 (.inr hm)
  have hex : ∀ b, (cx.ex M' hq').X b → b < w'.heap.size ∧ ∀ id o, st.tab.get id = some o → vblk (L id) ≠ some b := fun b hx => by
    have old : (cx.ex M hqq).X b → b < w'.heap.size ∧ ∀ id o, st.tab.get id = some o → vblk (L id) ≠ some b := fun hx => ⟨Nat.lt_of_lt_of_le (h2.lay.ex b hx).1 hb.size, (h2.lay.ex b hx).2⟩
    rcases hx with hx | hx
    · exact old (.inl hx)
    · rcases hM b hx with hm | hm
      · exact old (.inr hm)
      · exact ⟨hm.2, fun id o hid hg => absurd ((h2.lay.objs id o hid).ge hg).2 (by omega)⟩
  have hbel : BelowX (cx.ex M' hq').X (cx.ex M' hq').w0.heap.size (cx.ex M' hq').w0 w' := by
    have h8 : BelowX (cx.ex M hqq).X cx.w0.heap.size cx.w0 w := h2.lay.below
    refine ⟨hb.os.trans h8.os, hb.tape.trans h8.tape, hb.output.trans h8.output, Nat.le_trans h8.size hb.size, fun k (hk : k < cx.w0.heap.size) hx => ?_⟩
    have hm : ¬ M k := fun hm => by
      have := (h6 k hm).2
      omega
    refine (hb.block k (by omega) hm).trans (h8.block k hk fun hx' => ?_)
    rcases hx' with hx' | hx'
    · exact hx (.inl hx')
    · exact hm hx'
  refine ⟨hq', st, L, h1, conc_move h2 rfl hblk (fun id o g hid hg => hb.block g ((h2.lay.objs id o hid).ge hg).2 fun hm => (h2.lay.ex g (.inr hm)).2 id o hid hg) hS hbel hex, (hblk l h4).trans h3, hS l h4, fun hg => ?_, fun b hm => ?_, fun b hg => ?_⟩
  · rcases hg with hg | hg
    · exact h5 hg
    · have := h4.1
      omega
  · rcases hM b hm with hm | hm
    · exact ⟨.inl (h6 b hm).1, (h6 b hm).2⟩
    · exact ⟨.inr hm, by omega⟩
  · rcases hg with hg | hg
    · exact ⟨Nat.lt_of_lt_of_le (h7 b hg).1 hb.size, (h7 b hg).2.1, (h7 b hg).2.2⟩
    · have := sx_new h2 hg.1 hg.2
      exact ⟨this.1, ⟨this.2.1.1, fun hx => this.2.1.2 (.inl hx)⟩, this.2.2⟩
end
end
section
open Go.RowKit

/-- what has been handed on, and whether more is wanted -/
abbrev IG := List (List AV) × Bool
section
variable {P : Program} {l : Nat} {xs : List (List AV)} {Q : Exit → IG → ASt → Prop} {g : IG} {st : ASt} {K : IG → ASt → Prop} {ops : Array Oper} {dst : Option Tmp} {op : Op} {ty : TypeId} {pos : String} {aft : Array Edge} {gd : Option (Nat × Bool)} {rest : List Oper}
end
/-- what the iterator is not to touch begins behind the program's own variables -/
structure IAmb (T0 : Nat → Prop) (W0 : World) (T : Nat → Prop) : Prop where
  amb : Amb W0
  tab0 : ∀ b, b < ambD → T0 b
  tab : ∀ b, b < ambD → T b
section
variable {P : Program} {l : Nat} {xs : List (List AV)} {T0 : Nat → Prop} {W0 : World} {J Jx : List (List AV) → (Nat → Prop) → (Nat → Prop) → World → Prop} {g : IG} {st st' : ASt} {a a' : Act} {W W' : World} {L L' : Nat → Value} {T M M' : Nat → Prop}
theorem IAmb.grow (hq : IAmb T0 W0 T) : IAmb T0 W0 (grow T W W') := ⟨hq.amb, hq.tab0, fun b hb => .inl (hq.tab b hb)⟩
end
end
section
open Go.RowKit

/-- a variable's part that holds no slice, seen as a slice of the call's own that is empty -/
theorem weak_nilbox {st : ASt} (id j e sz : Nat) {t : TypeId} {cells : List AV} (hid : st.tab.get id = some (.box t cells)) (hj : cells[j]? = some (.c (.slice none 0 0))) :
    Weak st ⟨st.n, st.env, (id, some (.box t (cells.set j (.osl st.next)))) :: (st.next, some (.row e sz [])) :: st.tab, st.next + 1⟩ := by
  intro cx a w L h
  have hc1 := conc_new (ob := .row e sz []) (v := .slice none 0 0) (x := .slice none 0 0) (av := .any) h (Below.refl _ _) (fun g hg => by simp [vblk] at hg) (fun hext => ⟨by simp, [], ownsR_nil .., by simp, by simp⟩) trivial (fun hext => .tree (.any _)) trivial none
  have hlt := (h.young id _ hid).1
  have hget1 : ATab.get ((st.next, some (.row e sz [])) :: st.tab) id = some (.box t cells) := by rw [ATab.get_cons, if_neg (by omega)]; exact hid
  generalize hL1 : updL L st.next (.slice none 0 0) = L1 at hc1
  generalize ht1 : (st.next, some (AObj.row e sz [])) :: st.tab = tab1 at hc1 hget1 ⊢
  have hc1 : Conc cx a w ⟨st.n, st.env, tab1, st.next + 1⟩ L1 := hc1
  have hnew : ATab.get tab1 st.next = some (.row e sz []) := by rw [← ht1, ATab.get_cons, if_pos rfl]
  have hLn : L1 st.next = .slice none 0 0 := by rw [← hL1]; simp [updL]
  have hget : ∀ k o, ATab.get ((id, some (.box t (cells.set j (.osl st.next)))) :: tab1) k = some o → ∃ o', ATab.get tab1 k = some o' ∧ o.sz = o'.sz := fun k o hk => by
    rw [ATab.get_cons] at hk
    split at hk
    · rename_i e1
      cases hk
      exact ⟨_, by rw [e1]; exact hget1, by simp [AObj.sz]⟩
    · exact ⟨o, hk, rfl⟩
  have hS1 : ∀ b, Sx cx w tab1 L1 b → Sx cx w ((id, some (.box t (cells.set j (.osl st.next)))) :: tab1) L1 b := fun b hb => ⟨hb.1, hb.2.1, fun k o hk => by
    obtain ⟨o', h1, _⟩ := hget k o hk
    exact hb.2.2 k o' h1⟩
  have hK : ∀ k p, Kx ((id, some (.box t (cells.set j (.osl st.next)))) :: tab1) L1 k = some p → Kx tab1 L1 k = some p := fun k p hk => by
    unfold Kx at *
    cases ho : ATab.get ((id, some (.box t (cells.set j (.osl st.next)))) :: tab1) k with
    | none => simp [ho] at hk
    | some o =>
      obtain ⟨o', h1, h2⟩ := hget k o ho
      rw [h1]
      simpa [ho, h2] using hk
  have hrv : ∀ {x av}, RVx cx w tab1 L1 x av → av.lt (st.next + 1) → RVx cx w ((id, some (.box t (cells.set j (.osl st.next)))) :: tab1) L1 x av := fun hr hl => hr.mono hl (fun _ _ => rfl) hS1 fun k p _ hk => hK k p hk
  refine ⟨L1, ⟨⟨hc1.lay.below, fun k o hk => ?_, fun k k' o o' g h1 h2 => ?_, fun b hb => ⟨(hc1.lay.ex b hb).1, fun k o hk => by
    obtain ⟨o', h1, _⟩ := hget k o hk
    exact (hc1.lay.ex b hb).2 k o' h1⟩⟩, hc1.size, hc1.defers.mono (fun _ _ => rfl) hS1, fun k o hk => ?_, fun t => ⟨hrv (hc1.env t).1 (hc1.env t).2, (hc1.env t).2⟩⟩, fun b hb => hS1 b ?_⟩
  · rw [ATab.get_cons] at hk
    split at hk
    · rename_i e1
      cases hk
      subst e1
      obtain ⟨g, cs, h1, h2, h3, h4, h5⟩ := hc1.lay.objs _ _ hget1
      refine ⟨g, cs, h1, h2, h3, by simpa using h4, fun i x av h6 h7 => ?_⟩
      rw [List.getElem?_set] at h7
      split at h7
      · rename_i e2
        subst e2
        split at h7
        · cases h7
          have h8 := h5 j x _ h6 hj
          refine ⟨.osl x _ fun sz' v hk => ?_, h8.2⟩
          have hk := hK _ _ hk
          unfold Kx at hk
          rw [hnew] at hk
          simp at hk
          rw [h8.1.c_inv, ← hk.2, hLn]
        · cases h7
      · have h8 := h5 i x av h6 h7
        exact ⟨hrv h8.1 (ltL_iff.1 (hc1.young _ _ hget1).2 _ (List.mem_of_getElem? h7)), h8.2⟩
    · have ho := hc1.lay.objs k o hk
      have hy := (hc1.young k o hk).2
      cases o with
      | box t' cells' =>
        obtain ⟨g, cs, h1, h2, h3, h4, h5⟩ := ho
        exact ⟨g, cs, h1, h2, h3, h4, fun i x av h6 h7 => ⟨hrv (h5 i x av h6 h7).1 (ltL_iff.1 hy _ (List.mem_of_getElem? h7)), (h5 i x av h6 h7).2⟩⟩
      | row e' sz' rows' =>
        obtain ⟨h1, xs, h2, h3, h4⟩ := ho
        refine ⟨h1, xs, h2, h3, fun i j row av h5 h6 => ?_⟩
        obtain ⟨x, hx, hr⟩ := h4 i j row av h5 h6
        exact ⟨x, hx, hr.mono (fun _ _ => rfl) hS1⟩
  · obtain ⟨o1, h3, _⟩ := hget k o h1
    obtain ⟨o2, h4, _⟩ := hget k' o' h2
    exact hc1.lay.sep k k' o1 o2 g h3 h4
  · rw [ATab.get_cons] at hk
    split at hk
    · rename_i e1
      cases hk
      have hy := hc1.young id _ hget1
      refine ⟨by rw [e1]; exact hy.1, ltL_iff.2 fun x hx => ?_⟩
      rcases List.mem_or_eq_of_mem_set hx with hx | rfl
      · exact ltL_iff.1 hy.2 x hx
      · exact Nat.lt_succ_self _
    · exact hc1.young k o hk
  · refine ⟨hb.1, hb.2.1, fun k o hk hg => ?_⟩
    rw [← ht1, ATab.get_cons] at hk
    rw [← hL1] at hg
    unfold updL at hg
    split at hk
    · rename_i e1
      rw [if_pos e1] at hg
      simp [vblk] at hg
    · rename_i e1
      rw [if_neg e1] at hg
      exact hb.2.2 k o hk hg
end
section
open Go.RowKit
theorem cloneI_A (l : List Int) (hl : l.length ≤ 1000000) : ADet Tryz.prog 27 [sI l] ⟨sI l, [], 0⟩ := by
  refine adet_own_nil (e := 3) ?_
  refine arel_of_code mixedT Tryz.func27 rfl (by decide) Tryz.ntmps27 Tryz.results27 rfl ?_
  (repeat' (first | simp (maxSteps := 5000000) (implicitDefEqProofs := false) only [ruA, aEv, aBin, ASt.get, aget, ASt.put, envOf, ↓reduceIte, reduceCtorEq, Nat.reduceLT, eq_self, aNilS, tyK_23] | (with_reducible refine aIf_split (fun _ => ?_) (fun _ => ?_)) | (with_reducible refine aSel_split (fun _ => ?_) (fun _ => ?_)) | (with_reducible refine aGd_split (fun _ => ?_) (fun _ => ?_))))
  intro c hc
  cases c with
  | true =>
    (repeat' (first | simp (maxSteps := 5000000) (implicitDefEqProofs := false) only [ruA, aEv, ASt.get, aget, ASt.put, aResL, aOne, ↓reduceIte, Nat.reduceLT, eq_self] | (with_reducible refine aIf_split (fun _ => ?_) (fun _ => ?_)) | (with_reducible refine aSel_split (fun _ => ?_) (fun _ => ?_)) | (with_reducible refine aGd_split (fun _ => ?_) (fun _ => ?_))))
    exact retV (.inr ⟨rfl, hc rfl⟩)
  | false =>
    (repeat' (first | simp (maxSteps := 5000000) (implicitDefEqProofs := false) only [ruA, ruB, aEv, ASt.get, aget, ASt.put, aAppend, aBuildSlice, aCells, aLit, aDst, aSrc, appTab, Value.cells, aResL, aOne, ↓reduceIte, reduceCtorEq, Nat.reduceLT, Nat.reduceEqDiff, Nat.reduceAdd, Nat.reduceMul, eq_self, aBuildSlice1, frzs, ownIds, tyR_23] | (with_reducible refine aIf_split (fun _ => ?_) (fun _ => ?_)) | (with_reducible refine aSel_split (fun _ => ?_) (fun _ => ?_)) | (with_reducible refine aGd_split (fun _ => ?_) (fun _ => ?_))))
    exact ⟨rfl, by omega, retO rfl (.inl rfl)⟩
set_option maxRecDepth 100000 in
set_option maxHeartbeats 8000000 in
theorem status_A (zc zg : List (List AV)) (o d : Int) (did cnt : List Int) (h1 : did.length ≤ 1000000) (h2 : cnt.length ≤ 1000000) : ADet Tryz.prog 14 [.agg [.sl 2 zc, .sl 1 zg, eI o, eI d, sI did, sI cnt]] ⟨.agg [.c (.slice none 0 0), eI o, eI d, sI did, sI cnt], [], 0⟩ := by
  have hok : (⟨.agg [.c (.slice none 0 0), eI o, eI d, sI did, sI cnt], [], 0⟩ : Res).Ok := ⟨fun id o h => (by cases h), by simp [AV.lt, AV.ltL]⟩
  refine adet_of_code mixedT Tryz.func14 rfl (by decide) Tryz.ntmps14 Tryz.results14 rfl (hok) ?_
  (repeat' (first | simp (maxSteps := 5000000) (implicitDefEqProofs := false) only [ruA, ruB, aEv, ASt.get, aget, ASt.put, aBox, aCells, oneC, oneCL, Value.cells, Value.oneCell', envOf, ↓reduceIte, Nat.reduceLT, Nat.reduceAdd, eq_self, tyZ_51] | (with_reducible refine aIf_split (fun _ => ?_) (fun _ => ?_)) | (with_reducible refine aSel_split (fun _ => ?_) (fun _ => ?_)) | (with_reducible refine aGd_split (fun _ => ?_) (fun _ => ?_))))
  refine aDraw_held [1] [0, 1, 2, 3, 4, 5, 7, 8] (.exec 6 (.exec 9 (.take 10 (.exec 11 .done)))) (by kernel_rfl) (by simp [ATab.get_cons]) ?_
  (repeat' (first | simp (maxSteps := 5000000) (implicitDefEqProofs := false) only [ruA, ruB, aEv, aTake, aLoad, aField, ASt.get, aget, ASt.put, aBuild, aFill, oneParts, aCells, oneC, oneCL, Value.cells, Value.oneCell', aResL, aOne, ↓reduceIte, reduceCtorEq, Nat.reduceLT, Nat.reduceEqDiff, Nat.reduceAdd, Nat.reduceLeDiff, eq_self, aExecS, aStoreB, aTakes, aTakeE, aFrom, AV.shift, aMay, tyA_51, tyS_51, tyF_27_1, tyA_3, tyS_3, tyF_27_2, tyF_27_3, tyA_23, tyS_23, tyF_27_4, tyB_51] | (with_reducible refine aIf_split (fun _ => ?_) (fun _ => ?_)) | (with_reducible refine aSel_split (fun _ => ?_) (fun _ => ?_)) | (with_reducible refine aGd_split (fun _ => ?_) (fun _ => ?_)) | (with_reducible refine aDraw_quiet (by kernel_rfl) ?_) | ((with_reducible apply callT (g := 27)); exact (cloneI_A did h1); exact (.inl (by simp [roL, roA]))) | ((with_reducible apply callT (g := 27)); exact (cloneI_A cnt h2); exact (.inl (by simp [roL, roA]))) | (with_reducible apply And.intro)))
  all_goals exact gives_tree (by first | rfl | simp [AV.ren, AV.renL])
end
section
def isD (b : Nat) : Bool := decide (48 ≤ b) && decide (b ≤ 57)
def valL (l : List Nat) : Nat := l.foldl (fun n b => n * 10 + (b - 48)) 0
def formedL (l : List Nat) : Bool := !l.isEmpty && l.all isD
/-- the number, and the error's number -/
def signed (neg : Bool) (l : List Nat) : Int × Int :=
  if formedL l = false then (0, 17) else if (if neg = true then 9223372036854775808 else 9223372036854775807) < valL l then (0, 2) else (if neg = true then -(valL l : Int) else (valL l : Int), 0)
end
section
open Go.RowKit

/-- v holds the numbers l -/
def LI (w : World) (v : Value) (l : List Int) : Prop :=
  ∃ A c, v = .slice A l.length c ∧ l.length ≤ c ∧ (0 < l.length → ∃ b o, A = some ⟨b, o, none⟩ ∧ b < w.heap.size ∧ ∀ i (h : i < l.length), w.cell? ⟨b, o + i, none⟩ = some (.int .i64 l[i]))
theorem LI.below {w w' : World} {v : Value} {l : List Int} (h : LI w v l) (hb : Below w.heap.size w w') : LI w' v l := by
  obtain ⟨A, c, rfl, hc, hr⟩ := h
  refine ⟨A, c, rfl, hc, fun hp => ?_⟩
  obtain ⟨b, o, hA, hb1, hcell⟩ := hr hp
  exact ⟨b, o, hA, Nat.lt_of_lt_of_le hb1 hb.size, fun i hi => (hb.cell hb1).trans (hcell i hi)⟩
theorem LI.some_ {w : World} {v : Value} {l : List Int} (h : LI w v l) (hp : 0 < l.length) : ∃ b o c, v = .slice (some ⟨b, o, none⟩) l.length c ∧ l.length ≤ c ∧ b < w.heap.size ∧ ∀ i (h : i < l.length), w.cell? ⟨b, o + i, none⟩ = some (.int .i64 l[i]) := by
  obtain ⟨A, c, rfl, hc, hr⟩ := h
  obtain ⟨b, o, rfl, hb, hcell⟩ := hr hp
  exact ⟨b, o, c, rfl, hc, hb, hcell⟩
theorem LI.at_ {w : World} {A : Option Addr} {c : Nat} {l : List Int} (h : LI w (.slice A l.length c) l) {i : Nat} (hi : i < l.length) : ∃ b o, A = some ⟨b, o, none⟩ ∧ b < w.heap.size ∧ w.cell? ⟨b, o + i, none⟩ = some (.int .i64 l[i]) := by
  obtain ⟨A', c', e, hc, hr⟩ := h
  obtain ⟨rfl, _, rfl⟩ : A = A' ∧ l.length = l.length ∧ c = c' := by simpa using e
  obtain ⟨b, o, rfl, hb, hcell⟩ := hr (by omega)
  exact ⟨b, o, rfl, hb, hcell i hi⟩
end
section
open Go.RowKit
def LN (B : Nat) (w : World) (v : Value) (l : List Int) : Prop :=
  ∃ A c, v = .slice A l.length c ∧ l.length ≤ c ∧ c ≤ 9223372036854775807 ∧ (0 < l.length → ∃ b o, A = some ⟨b, o, none⟩ ∧ B ≤ b ∧ b < w.heap.size ∧ ∀ i (h : i < l.length), w.cell? ⟨b, o + i, none⟩ = some (.int .i64 l[i]))
theorem LN.rt {B : Nat} {w : World} {S : Nat → Prop} {v : Value} {l : List Int} (h : LN B w v l) (hS : ∀ b, B ≤ b → b < w.heap.size → S b) : RT w S v (sI l) := by
  obtain ⟨A, c, rfl, h1, h2, h3⟩ := h
  have key : ∀ (i j : Nat) (row : List AV) (av : AV), (l.map fun n => [eI n])[i]? = some row → row[j]? = some av → ∃ hi : i < l.length, j = 0 ∧ av = eI l[i] := fun i j row av h4 h5 => by
    have hi : i < l.length := by
      have := (List.getElem?_eq_some_iff.1 h4).1
      simpa using this
    rw [List.getElem?_map, List.getElem?_eq_getElem hi] at h4
    cases h4
    match j with
    | 0 => exact ⟨hi, rfl, by simpa using h5.symm⟩
    | j + 1 => simp at h5
  by_cases h0 : 0 < l.length
  · obtain ⟨b, o, rfl, hb, hbs, hcell⟩ := h3 h0
    refine .sl _ _ c 1 _ b o (fun i _ => .int .i64 (l.getD i 0)) (by simp) h1 h2 (fun _ => ⟨rfl, hS b hb hbs⟩) (fun row hr => by obtain ⟨n, _, rfl⟩ := List.mem_map.1 hr; rfl) (fun _ i j row av h4 h5 => ?_) (fun _ _ _ _ _ _ => rfl) (fun i j row av h4 h5 => ?_)
    · obtain ⟨hi, rfl, _⟩ := key i j row av h4 h5
      rw [Nat.mul_one, Nat.add_zero, hcell i hi, List.getD_eq_getElem?_getD, List.getElem?_eq_getElem hi]
      rfl
    · obtain ⟨hi, rfl, rfl⟩ := key i j row av h4 h5
      rw [List.getD_eq_getElem?_getD, List.getElem?_eq_getElem hi]
      exact .c _
  · have : l = [] := List.length_eq_zero_iff.1 (by omega)
    subst this
    exact .sl A 0 c 1 [] 0 0 (fun _ _ => undef) rfl h1 h2 (fun h => by omega) (by simp) (fun h => by omega) (by simp) (by simp)
theorem LI.of_rt {w : World} {S : Nat → Prop} {v : Value} {l : List Int} (h : RT w S v (sI l)) (hS : SOk w S) : LI w v l := by
  obtain ⟨A, cap, rfl, hc, hm, _, hA⟩ := h.sl_inv
  refine ⟨A, cap, by simp, by simpa using hc, fun h0 => ?_⟩
  obtain ⟨b, o, rfl, hb, U, hcell, hr, _⟩ := hA (by simpa using h0)
  refine ⟨b, o, rfl, hS b hb, fun i hi => ?_⟩
  have h1 : (l.map fun n => [eI n])[i]? = some [eI l[i]] := by simp [hi]
  have h2 := hcell i 0 _ _ h1 rfl
  have h3 := rtc (hr i 0 _ _ h1 rfl)
  rw [h3] at h2
  simpa using h2
theorem adet_of_sl {P : Program} {f : FuncId} {args : List AV} {sz : Nat} {rows : List (List AV)} (he : Enters P f)
    (h : ∀ (S : Nat → Prop) (w : World) (vs : Array Value), SOk w S → vs.size = args.length → (∀ (j : Nat) (v : Value) (av : AV), vs[j]? = some v → args[j]? = some av → RT w S v av) →
      Calls P f vs w fun e w' => ∃ v, e = .returned v ∧ (∀ S', (∀ b, w.heap.size ≤ b → b < w'.heap.size → S' b) → RT w' S' v (.sl sz rows)) ∧ Below w.heap.size w w') : ADet P f args ⟨.sl sz rows, [], 0⟩ :=
  ⟨he, fun S w vs h1 h2 h3 => (h S w vs h1 h2 h3).mono fun e w' ⟨v, h4, h5, h6⟩ => ⟨v, fun _ => undef, ⟨.sl sz rows, [], 0⟩, rfl, ⟨fun id o h => (by cases h), by simp [AV.lt]⟩, h4, ⟨belowX h6, fun id o h => (by cases h), fun id id' o o' g h => (by cases h), fun b hb => hb.elim⟩, .tree (h5 _ fun b hb hb2 => ⟨hb2, ⟨.inr hb, fun hX => hX⟩, fun id o h => (by cases h)⟩)⟩⟩
end
section
def insS (x : Int) (st : List Int × Bool) (y : Int) : List Int × Bool :=
  ((st.1 ++ (if st.2 = false ∧ x ≤ y then [x] else [])) ++ (if y ≠ x then [y] else []), st.2 || decide (x ≤ y))
def insR (x : Int) (l : List Int) : List Int × Bool := l.foldl (insS x) ([], false)
def insP (x : Int) (out : List Int) : List Int := if (insR x out).2 then (insR x out).1 else (insR x out).1 ++ [x]
def sortR (l : List Int) : List Int := l.foldl (fun out x => insP x out) []

theorem insR_snoc (x : Int) (l : List Int) (y : Int) : insR x (l ++ [y]) = insS x (insR x l) y := by simp [insR]
theorem sortR_snoc (l : List Int) (x : Int) : sortR (l ++ [x]) = insP x (sortR l) := by simp [sortR]
theorem snoc_ind {p : List Int → Prop} (h0 : p []) (h1 : ∀ l x, p l → p (l ++ [x])) (l : List Int) : p l := by
  rw [← List.reverse_reverse l]
  induction l.reverse with
  | nil => exact h0
  | cons x r ih => rw [List.reverse_cons]; exact h1 _ _ ih
theorem insR_len (x : Int) (l : List Int) : (insR x l).1.length ≤ l.length + (if (insR x l).2 then 1 else 0) := by
  induction l using snoc_ind with
  | h0 => simp [insR]
  | h1 l y ih =>
    rw [insR_snoc]
    generalize insR x l = st at *
    obtain ⟨n, b⟩ := st
    cases b <;> by_cases h1 : x ≤ y <;> by_cases h2 : y = x <;> simp [insS, h1, h2] at ih ⊢ <;> omega
theorem insP_len (x : Int) (l : List Int) : (insP x l).length ≤ l.length + 1 := by
  have := insR_len x l
  unfold insP
  split <;> rename_i h <;> simp [h] at this ⊢ <;> omega
theorem sortR_len (l : List Int) : (sortR l).length ≤ l.length := by
  induction l using snoc_ind with
  | h0 => simp [sortR]
  | h1 l y ih => rw [sortR_snoc]; have := insP_len y (sortR l); simp; omega

/-- strictly rising -/
def Up (l : List Int) : Prop := l.Pairwise (· < ·)
theorem insR_up (x : Int) (l : List Int) (h : Up l) :
    Up (insR x l).1 ∧ (∀ z, z ∈ (insR x l).1 ↔ z ∈ l ∨ ((insR x l).2 = true ∧ z = x)) ∧ ((insR x l).2 = true ↔ ∃ z ∈ l, x ≤ z) ∧ ((insR x l).2 = true → x ∈ (insR x l).1) := by
  induction l using snoc_ind with
  | h0 => simp [insR, Up]
  | h1 l y ih =>
    have hl : Up l := (List.pairwise_append.1 h).1
    have hy : ∀ z ∈ l, z < y := fun z hz => (List.pairwise_append.1 h).2.2 z hz y (by simp)
    obtain ⟨i1, i2, i3, i4⟩ := ih hl
    rw [insR_snoc]
    generalize insR x l = st at *
    obtain ⟨n, b⟩ := st
    simp only at i1 i2 i3 i4
    cases b with
    | true =>
      obtain ⟨z, hz, hxz⟩ := i3.1 rfl
      have hxy : x < y := by have := hy z hz; omega
      have hne : y ≠ x := by omega
      simp only [insS, Bool.true_or, Bool.true_eq_false, false_and, if_false, List.append_nil, if_pos hne]
      refine ⟨List.pairwise_append.2 ⟨i1, by simp, ?_⟩, ?_, ?_, ?_⟩
      · intro a ha c hc
        rw [List.mem_singleton] at hc; subst hc
        rcases (i2 a).1 ha with h | ⟨_, rfl⟩
        · exact hy a h
        · exact hxy
      · intro a; simp only [List.mem_append, List.mem_singleton, i2]; constructor
        · rintro ((h | h) | h)
          · exact .inl (.inl h)
          · exact .inr h
          · exact .inl (.inr h)
        · rintro ((h | h) | h)
          · exact .inl (.inl h)
          · exact .inr h
          · exact .inl (.inr h)
      · exact ⟨fun _ => ⟨z, by simp [hz], hxz⟩, fun _ => trivial⟩
      · intro _; simp [i4 rfl]
    | false =>
      have hlow : ∀ z ∈ l, z < x := fun z hz => by
        rcases Int.lt_or_le z x with h | h
        · exact h
        · exact absurd (i3.2 ⟨z, hz, h⟩) (by simp)
      have hn : ∀ z, z ∈ n ↔ z ∈ l := fun z => by rw [i2]; simp
      by_cases hxy : x ≤ y
      · by_cases hne : y = x
        · subst hne
          simp only [insS, Int.le_refl, and_self, if_true, ne_eq, not_true, if_false, List.append_nil, decide_true, Bool.or_true]
          refine ⟨List.pairwise_append.2 ⟨i1, by simp, ?_⟩, ?_, ?_, ?_⟩
          · intro a ha c hc
            rw [List.mem_singleton] at hc; subst hc
            exact hy a ((hn a).1 ha)
          · intro a; simp only [List.mem_append, List.mem_singleton, hn]; constructor
            · rintro (h | h)
              · exact .inl (.inl h)
              · exact .inl (.inr h)
            · rintro (h | ⟨_, h⟩)
              · exact h
              · exact .inr h
          · exact ⟨fun _ => ⟨y, by simp, Int.le_refl _⟩, fun _ => trivial⟩
          · intro _; simp
        · simp only [insS, hxy, and_self, if_true, ne_eq, hne, not_false_eq_true, decide_true, Bool.or_true]
          refine ⟨?_, ?_, ?_, ?_⟩
          · unfold Up
            rw [List.append_assoc]
            refine List.pairwise_append.2 ⟨i1, by simp; omega, ?_⟩
            intro a ha c hc
            have hal := (hn a).1 ha
            have h1 := hlow a hal
            have h2 := hy a hal
            simp at hc
            rcases hc with rfl | rfl
            · exact h1
            · exact h2
          · intro a; simp only [List.mem_append, List.mem_singleton, hn]; constructor
            · rintro ((h | h) | h)
              · exact .inl (.inl h)
              · exact .inr ⟨by simp, h⟩
              · exact .inl (.inr h)
            · rintro ((h | h) | ⟨_, h⟩)
              · exact .inl (.inl h)
              · exact .inr h
              · exact .inl (.inr h)
          · exact ⟨fun _ => ⟨y, by simp, hxy⟩, fun _ => trivial⟩
          · intro _; simp
      · have hne : y ≠ x := by omega
        have hd : decide (x ≤ y) = false := decide_eq_false hxy
        simp only [insS, hxy, and_false, if_false, List.append_nil, if_pos hne]
        refine ⟨List.pairwise_append.2 ⟨i1, by simp, ?_⟩, ?_, ?_, ?_⟩
        · intro a ha c hc
          rw [List.mem_singleton] at hc; subst hc
          exact hy a ((hn a).1 ha)
        · intro a; simp only [List.mem_append, List.mem_singleton, hn]; simp
        · constructor
          · intro h; cases h
          · rintro ⟨z, hz, hxz⟩
            rcases List.mem_append.1 hz with h | h
            · have := hlow z h; omega
            · rw [List.mem_singleton] at h; subst h; exact absurd hxz hxy
        · intro h; cases h
theorem insP_up (x : Int) (l : List Int) (h : Up l) : Up (insP x l) ∧ ∀ z, z ∈ insP x l ↔ z ∈ l ∨ z = x := by
  obtain ⟨i1, i2, i3, i4⟩ := insR_up x l h
  unfold insP
  split
  · rename_i hb
    refine ⟨i1, fun z => ?_⟩
    rw [i2]; simp [hb]
  · rename_i hb
    have hlow : ∀ z ∈ l, z < x := fun z hz => by
      rcases Int.lt_or_le z x with h | h
      · exact h
      · exact absurd (i3.2 ⟨z, hz, h⟩) hb
    have hn : ∀ z, z ∈ (insR x l).1 ↔ z ∈ l := fun z => by rw [i2]; simp [hb]
    refine ⟨List.pairwise_append.2 ⟨i1, by simp, ?_⟩, fun z => ?_⟩
    · intro a ha c hc
      rw [List.mem_singleton] at hc; subst hc
      exact hlow a ((hn a).1 ha)
    · simp [hn]
theorem sortR_up (l : List Int) : Up (sortR l) ∧ ∀ z, z ∈ sortR l ↔ z ∈ l := by
  induction l using snoc_ind with
  | h0 => simp [sortR, Up]
  | h1 l x ih =>
    obtain ⟨h1, h2⟩ := insP_up x _ ih.1
    rw [sortR_snoc]
    exact ⟨h1, fun z => by rw [h2, ih.2]; simp⟩
theorem up_ext : ∀ (a b : List Int), Up a → Up b → (∀ z, z ∈ a ↔ z ∈ b) → a = b
  | [], [], _, _, _ => rfl
  | [], y :: b, _, _, h => by have := (h y).2 (by simp); simp at this
  | x :: a, [], _, _, h => by have := (h x).1 (by simp); simp at this
  | x :: a, y :: b, ha, hb, h => by
    have ha' := List.pairwise_cons.1 ha
    have hb' := List.pairwise_cons.1 hb
    have hxy : x = y := by
      rcases List.mem_cons.1 ((h x).1 (by simp)) with h1 | h1
      · exact h1
      · rcases List.mem_cons.1 ((h y).2 (by simp)) with h2 | h2
        · exact h2.symm
        · have := hb'.1 x h1; have := ha'.1 y h2; omega
    subst hxy
    rw [up_ext a b ha'.2 hb'.2 (fun z => ?_)]
    constructor
    · intro hz
      rcases List.mem_cons.1 ((h z).1 (by simp [hz])) with h1 | h1
      · subst h1; have := ha'.1 z hz; omega
      · exact h1
    · intro hz
      rcases List.mem_cons.1 ((h z).2 (by simp [hz])) with h1 | h1
      · subst h1; have := hb'.1 z hz; omega
      · exact h1

/-- the library's way -/
theorem compact_up (d : Array Int) (hs : ∀ i j, i < j → j < d.size → d[i]! ≤ d[j]!) (m : Nat) (hm : m ≤ d.size) :
    Up (Lib.compactUpTo d m) ∧ (∀ z, z ∈ Lib.compactUpTo d m ↔ ∃ i, i < m ∧ d[i]! = z) := by
  induction m with
  | zero => simp [Lib.compactUpTo, Up]
  | succ m ih =>
    obtain ⟨h1, h2⟩ := ih (by omega)
    rw [Lib.compactUpTo_succ]
    by_cases hk : Lib.keeps d m = true
    · rw [if_pos hk]
      refine ⟨List.pairwise_append.2 ⟨h1, by simp, ?_⟩, fun z => ?_⟩
      · intro a ha c hc
        rw [List.mem_singleton] at hc; subst hc
        obtain ⟨i, hi, rfl⟩ := (h2 a).1 ha
        simp only [Lib.keeps, decide_eq_true_eq] at hk
        have h3 := hs (m - 1) m (by omega) (by omega)
        have h4 : d[i]! ≤ d[m - 1]! := by
          rcases Nat.lt_or_ge i (m - 1) with h | h
          · exact hs i (m - 1) h (by omega)
          · rw [show i = m - 1 by omega]; exact Int.le_refl _
        rcases hk with h | h
        · omega
        · have : d[m]! ≠ d[m - 1]! := h
          omega
      · simp only [List.mem_append, List.mem_singleton, h2]
        constructor
        · rintro (⟨i, hi, rfl⟩ | rfl)
          · exact ⟨i, by omega, rfl⟩
          · exact ⟨m, by omega, rfl⟩
        · rintro ⟨i, hi, rfl⟩
          rcases Nat.lt_or_ge i m with h | h
          · exact .inl ⟨i, h, rfl⟩
          · exact .inr (by rw [show i = m by omega])
    · rw [if_neg hk, List.append_nil]
      refine ⟨h1, fun z => ?_⟩
      rw [h2]
      simp only [Lib.keeps, decide_eq_true_eq, not_or, ne_eq, Decidable.not_not] at hk
      constructor
      · rintro ⟨i, hi, rfl⟩; exact ⟨i, by omega, rfl⟩
      · rintro ⟨i, hi, rfl⟩
        rcases Nat.lt_or_ge i m with h | h
        · exact ⟨i, h, rfl⟩
        · exact ⟨m - 1, by omega, by rw [← hk.2, show i = m by omega]⟩
def sortL (l : List Int) : List Int := Lib.compact (l.mergeSort fun x y => decide (x ≤ y))
theorem sortL_eq (l : List Int) : sortL l = sortR l := by
  have hp : (l.mergeSort fun x y => decide (x ≤ y)).Pairwise (fun a b => decide (a ≤ b) = true) := List.pairwise_mergeSort (le := fun x y => decide (x ≤ y)) (fun a b c h1 h2 => by simp at *; omega) (fun a b => by simp; omega) l
  have hm : ∀ z, z ∈ (l.mergeSort fun x y => decide (x ≤ y)) ↔ z ∈ l := fun z => List.mem_mergeSort
  unfold sortL Lib.compact
  generalize (l.mergeSort fun x y => decide (x ≤ y)) = s at *
  have hs : ∀ i j, i < j → j < s.toArray.size → s.toArray[i]! ≤ s.toArray[j]! := by
    intro i j hij hj
    have hj' : j < s.length := by simpa using hj
    have h1 := List.pairwise_iff_getElem.1 hp i j (by omega) hj' hij
    rw [getElem!_pos _ i (by simp; omega), getElem!_pos _ j hj]
    simpa using h1
  obtain ⟨h1, h2⟩ := compact_up s.toArray hs s.length (by simp)
  refine up_ext _ _ h1 (sortR_up l).1 (fun z => ?_)
  rw [h2, (sortR_up l).2, ← hm]
  constructor
  · rintro ⟨i, hi, rfl⟩
    rw [getElem!_pos _ i (by simpa using hi)]
    simp
  · intro hz
    obtain ⟨i, hi, rfl⟩ := List.getElem_of_mem hz
    exact ⟨i, hi, by rw [getElem!_pos _ i (by simpa using hi)]; simp⟩
end
section
open Go.RowKit Go.Sort

theorem i64Info : (Tryz.prog.info? 2).map (fun i => (i.zero, i.size, i.bytes)) = some (some (.int .i64 0), 1, 8) := by kernel_rfl
end
section
open Go.RowKit Go.Sort

theorem compact_len (S : List Int) : (Lib.compact S).length ≤ S.length := by
  unfold Lib.compact Lib.compactUpTo
  rw [List.length_map]
  have := List.length_filter_le (Lib.keeps S.toArray) (List.range S.length)
  simpa using this

/-- the empty ways -/
theorem clone0_any (A : Option Addr) (c : Nat) (w : World) :
    Calls Tryz.prog 50 #[.slice A 0 c] w fun e w' => (∃ A' c', e = .returned (.slice A' 0 c') ∧ c' ≤ 9223372036854775807) ∧ Below w.heap.size w w' := by
  cases A with
  | none => exact (Tryz.slices_Clone_nil 0 c w).mono (by rintro e w' ⟨rfl, rfl⟩; exact ⟨⟨_, _, rfl, by decide⟩, Below.refl _ _⟩)
  | some a =>
    obtain ⟨i0, hi0, hz0, hz1, hz2⟩ := info_parts i64Info
    have q22 : ∀ (w : World) (a : Option Addr) (n c n' c' : Nat), (binOp .eql 34 (.slice a n c) (.slice none n' c')).run Tryz.prog w = .ok (.bool a.isNone) w := fun w a n c n' c' => Lib.run_eql_slice_nil w _ _ a n c n' c' Tryz.underlying34
    go_enter Tryz.func50, Tryz.ntmps50
    go_wp2_with fail
    go_ret
    exact ⟨⟨_, _, rfl, by decide⟩, (Below.refl _ _).alloc (Nat.le_refl _) _⟩
theorem ins0_any (A : Option Addr) (c : Nat) (w : World) :
    Calls Tryz.prog 86 #[.slice A 0 c, .int .i64 0, .int .i64 0] w fun e w' => e = .returned (.tuple #[]) ∧ Below w.heap.size w w' := by
  go_enter Tryz.func86, Tryz.ntmps86
  go_wp2_with fail
  go_loopw [6] (fun i wr => i = .int .i64 1 ∧ Below w.heap.size w wr) (fun i wr => 0)
  case atStart => exact ⟨rfl, Below.refl _ _⟩
  case round =>
    obtain ⟨rfl, hbl⟩ := hrel
    go_wp2_with fail
    go_end0
    exact ⟨rfl, hbl⟩
theorem pdq0_any (A : Option Addr) (c : Nat) (L : Int) (w : World) :
    Calls Tryz.prog 68 #[.slice A 0 c, .int .i64 0, .int .i64 0, .int .i64 L] w fun e w' => e = .returned (.tuple #[]) ∧ Below w.heap.size w w' := by
  go_enter Tryz.func68, Tryz.ntmps68
  go_wp2_with fail
  go_loopw [1, 2] (fun a b wr => a = .int .i64 0 ∧ b = .int .i64 0 ∧ Below w.heap.size w wr) (fun a b wr => 0)
  case atStart => exact ⟨rfl, rfl, Below.refl _ _⟩
  case round =>
    obtain ⟨rfl, rfl, hbl⟩ := hrel
    have h := ins0_any A c wr
    go_wp2_with fail
    refine h.mono ?_
    rintro e w2 ⟨rfl, hb2⟩
    go_wp2_with fail
    refine bodyPost_ret (results_none rfl _ _ _) rfl ?_
    exact ⟨rfl, hbl.trans (hb2.mono hbl.size)⟩
theorem sort0_any (A : Option Addr) (c : Nat) (w : World) :
    Calls Tryz.prog 52 #[.slice A 0 c] w fun e w' => e = .returned (.tuple #[]) ∧ Below w.heap.size w w' := by
  have h1 := Tryz.bits_Len 0 w (by decide) (by decide)
  generalize Lib.bitLen (0 : Int).toNat = L at *
  have h2 := pdq0_any A c L w
  go_enter Tryz.func52, Tryz.ntmps52
  go_wp2_with fail
  refine h1.mono ?_
  rintro e w2 ⟨rfl, rfl⟩
  go_wp2_with fail
  refine h2.mono ?_
  rintro e w3 ⟨rfl, hb⟩
  go_wp2_with fail
  go_end0
  exact ⟨rfl, hb⟩
theorem numSorted0_any (v : Value) (w : World) (h : LI w v []) :
    Calls Tryz.prog 36 #[v] w fun e w' => ∃ v', e = .returned v' ∧ LN w.heap.size w' v' (sortL []) ∧ Below w.heap.size w w' := by
  obtain ⟨A, c, rfl, hc, _⟩ := h
  have h1 := clone0_any A c w
  simp only [List.length_nil]
  go_enter Tryz.func36, Tryz.ntmps36
  go_wp2_with fail
  refine h1.mono ?_
  rintro e w2 ⟨⟨A', c', rfl, hc9⟩, hb2⟩
  have h2 := sort0_any A' c' w2
  go_wp2_with fail
  refine h2.mono ?_
  rintro e w3 ⟨rfl, hb3⟩
  have h3 := Tryz.slices_Compact_int_empty A' c' w3
  go_wp2_with fail
  refine h3.mono ?_
  rintro e w4 ⟨rfl, rfl⟩
  go_wp2_with fail
  go_ret
  rw [show sortL [] = [] by simp [sortL, Lib.compact, Lib.compactUpTo]]
  exact ⟨_, rfl, ⟨A', c', rfl, Nat.zero_le _, hc9, fun h => absurd h (by simp)⟩, hb2.trans (hb3.mono hb2.size)⟩
end
section
open Go.RowKit Go.Sort

theorem numSorted1_any (l : List Int) (v : Value) (w : World) (hl : l.length ≤ 1000000) (hp : 0 < l.length) (h : LI w v l) :
    Calls Tryz.prog 36 #[v] w fun e w' => ∃ v', e = .returned v' ∧ LN w.heap.size w' v' (sortL l) ∧ Below w.heap.size w w' := by
  obtain ⟨i0, hi0, hz0, hz1, hz2⟩ := info_parts i64Info
  obtain ⟨b, o, c, rfl, hc, hb, hcell⟩ := h.some_ hp
  have h1 := Tryz.slices_Clone i0 (.int .i64 0) 1 8 hi0 hz0 hz1 hz2 rfl (by decide) Tryz.sizeOf2 b o l.length c (l.map (Value.int .i64)) w (by simp) (by unfold maxLen; omega) (by omega)
    (fun j u hj => by
      rw [List.getElem?_map] at hj
      rcases Nat.lt_or_ge j l.length with hlt | hge
      · rw [List.getElem?_eq_getElem hlt] at hj
        obtain rfl : Value.int .i64 l[j] = u := by simpa using hj
        exact hcell j hlt
      · rw [List.getElem?_eq_none hge] at hj; simp at hj)
    (fun u hu => by obtain ⟨x, _, rfl⟩ := List.mem_map.1 hu; rfl)
  have H1 := hide h1
  clear h1
  unfold sortL
  have hSl : (l.mergeSort fun x y => decide (x ≤ y)).length = l.length := List.length_mergeSort ..
  generalize hSd : (l.mergeSort fun x y => decide (x ≤ y)) = S at *
  have HSd := hide hSd
  have HSl := hide hSl
  clear hSd hSl
  go_enter Tryz.func36, Tryz.ntmps36
  go_wp2_with fail
  refine H1.out.mono ?_
  rintro e w1 ⟨v', rfl, hown, hnn, hb1⟩
  obtain ⟨_, ⟨_, hn0⟩ | ⟨g, cap, cur, rfl, hbase, hblk, hn, hcap, hcs, htake⟩⟩ := hown
  · omega
  rw [Nat.mul_one] at htake
  have hg : g < w1.heap.size := (Array.getElem?_eq_some_iff.1 hblk).1
  have hH := holds_of_blockI hblk htake
  have h2 := Tryz.slices_Sort_int g 0 cap l w1 hH hg (by omega)
  rw [HSd.out] at h2
  have H2 := hide h2
  clear h2 H1 hH
  go_wp2_with fail
  refine H2.out.mono ?_
  rintro e w2 ⟨rfl, n, os, rfl⟩
  have hSl := HSl.out
  have hown2 := ownsRow_sortedI (n := n) (os := os) (ts := S) hSl hbase hblk hn hcap hcs
  have hgr2 := grownBy_sortedI (w := w1) (g := g) (n := n) (os := os) S.toArray
  generalize Go.Sort.grow (putRow (Value.int .i64) (Sort.ahead w1 n) g 0 S.toArray) os = w2 at *
  have hb2 : Below w.heap.size w w2 := hb1.grown hgr2 hb1.size (fun j hj => by cases hj; exact hbase)
  obtain ⟨_, ⟨hx, _⟩ | ⟨g', cap', cur2, hv, _, hblk2, _, _, hcs2, htake2⟩⟩ := hown2
  · cases hx
  cases hv
  rw [Nat.mul_one, ← hSl] at htake2
  have hg2 : g < w2.heap.size := (Array.getElem?_eq_some_iff.1 hblk2).1
  have hH2 := holds_of_blockI hblk2 htake2
  have h3 := Tryz.slices_Compact_int g 0 cap S w2 hH2 (by omega) (by omega)
  rw [hSl] at h3
  have H3 := hide h3
  have hcl := compact_len S
  clear h3 H2 hH2
  go_wp2_with fail
  refine H3.out.mono ?_
  rintro e w3 ⟨rfl, q, hw3⟩
  have hown3 := ownsRow_sortedI (n := q) (os := #[]) (ss := S) (ts := Lib.compact S ++ List.replicate (S.length - (Lib.compact S).length) 0) (by simp; omega) hbase hblk2 (by omega) hcap hcs2
  have hgr3 := grownBy_sortedI (w := w2) (g := g) (n := q) (os := #[]) (Lib.compact S ++ List.replicate (S.length - (Lib.compact S).length) 0).toArray
  rw [grow_empty] at hown3 hgr3
  rw [hSl] at hown3 hgr3
  rw [← hw3] at hown3 hgr3
  have hb3 : Below w.heap.size w w3 := hb2.grown hgr3 hb2.size (fun j hj => by cases hj; exact hbase)
  have hLI : LN w.heap.size w3 (.slice (some ⟨g, 0, none⟩) (Lib.compact S).length cap) (Lib.compact S) := by
    refine ⟨_, _, rfl, by omega, by unfold maxLen at hcap; omega, fun _ => ⟨g, 0, rfl, hbase, ?_, fun i hi => ?_⟩⟩
    · have := hgr3.size; omega
    · rw [Nat.zero_add]
      exact own_cell hown3 rfl (by rw [List.getElem?_map, List.getElem?_append_left hi, List.getElem?_eq_getElem hi]; rfl)
  clear hw3 H3 hown3 hgr3 hblk hblk2 htake htake2
  go_wp2_with fail
  go_ret
  exact ⟨_, rfl, hLI, hb3⟩
theorem numSorted_any (l : List Int) (v : Value) (w : World) (hl : l.length ≤ 1000000) (h : LI w v l) :
    Calls Tryz.prog 36 #[v] w fun e w' => ∃ v', e = .returned v' ∧ LN w.heap.size w' v' (sortL l) ∧ Below w.heap.size w w' := by
  cases l with
  | nil => exact numSorted0_any v w h
  | cons x l => exact numSorted1_any (x :: l) v w hl (by simp) h
end
section
open Go.RowKit
theorem one_arg {vs : Array Value} {a : AV} (hn : vs.size = [a].length) : ∃ x, vs = #[x] := ⟨vs[0]'(by simp at hn; omega), by
  apply Array.ext (by simpa using hn)
  intro i h1 h2
  simp at h2
  subst h2
  rfl⟩
theorem numSorted_A (l : List Int) (hl : l.length ≤ 1000000) : ADet Tryz.prog 36 [sI l] ⟨sI (sortR l), [], 0⟩ :=
  adet_of_sl (enters_of Tryz.func36 rfl (by decide)) fun S w vs hS hn hv => by
    obtain ⟨a, rfl⟩ := one_arg hn
    refine (numSorted_any l a w hl (LI.of_rt (hv 0 a _ rfl rfl) hS)).mono fun e w' ⟨v', h1, h2, h3⟩ => ?_
    rw [sortL_eq] at h2
    exact ⟨v', h1, fun S' hS' => h2.rt hS', h3⟩
structure Cls where
  attrs : Int
  const : Int
structure Zn where
  cls : List Cls
  gaps : List Int
abbrev eCls (x : Cls) : List AV := [eI x.attrs, eI x.const]
abbrev eZn (z : Zn) : List AV := [.sl 2 (z.cls.map eCls), sI z.gaps]
end
section
open Go.RowKit
structure Nd where
  z : Zn
  opn : Int
  don : Int
  did : List Int
  cnt : List Int
abbrev eNd (n : Nd) : List AV := [.sl 2 (n.z.cls.map eCls), sI n.z.gaps, eI n.opn, eI n.don, sI n.did, sI n.cnt]
end
section
open Go.RowKit

/-- what lies outside of the call's own stays -/
structure Fz (w : World) (tab : ATab) (L : Nat → Value) (w' : World) (tab' : ATab) (L' : Nat → Value) : Prop where
  size : w.heap.size ≤ w'.heap.size
  keep : ∀ k, k < w.heap.size → (∀ id o, tab.get id = some o → vblk (L id) ≠ some k) → w'.heap[k]? = w.heap[k]?
  young : ∀ id o g, tab'.get id = some o → vblk (L' id) = some g → g < w.heap.size → ∃ id2 o2, tab.get id2 = some o2 ∧ vblk (L id2) = some g
section
variable {P : Program} {cx : Cx} {a : Act} {w w' w'' : World} {st st' : ASt} {tab tab' tab'' : ATab} {L L' L'' : Nat → Value} {nx nx' : Nat}
theorem Fz.refl : Fz w tab L w tab L := ⟨Nat.le_refl _, fun _ _ _ => rfl, fun id o g h1 h2 _ => ⟨id, o, h1, h2⟩⟩
theorem Fz.trans (h : Fz w tab L w' tab' L') (k : Fz w' tab' L' w'' tab'' L'') : Fz w tab L w'' tab'' L'' :=
  ⟨Nat.le_trans h.size k.size,
   fun j hj hn => (k.keep j (Nat.lt_of_lt_of_le hj h.size) fun id o h1 h2 => (h.young id o j h1 h2 hj).elim fun id2 ⟨o2, h3, h4⟩ => hn id2 o2 h3 h4).trans (h.keep j hj hn),
   fun id o g h1 h2 hg => (k.young id o g h1 h2 (Nat.lt_of_lt_of_le hg h.size)).elim fun id2 ⟨o2, h3, h4⟩ => h.young id2 o2 g h3 h4 hg⟩
theorem Fr.fz (h : Fr cx w tab L nx w' tab' L' nx') : Fz w tab L w' tab' L' := ⟨h.size, h.keep, h.young⟩
theorem weak_fz (hall : ∀ b, cx.F b ∨ cx.w0.heap.size ≤ b) (hw : Weak st st') (h : Conc cx a w st L) : ∃ L', Conc cx a w st' L' ∧ Fz w st.tab L w st'.tab L' := by
  obtain ⟨L', h1, h2⟩ := hw _ _ _ _ h
  refine ⟨L', h1, Nat.le_refl _, fun _ _ _ => rfl, fun id o g h3 h4 h5 => ?_⟩
  refine Classical.byContradiction fun hno => ?_
  have hS : Sx cx w st.tab L g := ⟨h5, ⟨hall g, fun hX => (h1.lay.ex g hX).2 id o h3 h4⟩, fun id2 o2 h6 h7 => hno ⟨id2, o2, h6, h7⟩⟩
  exact (h2 g hS).2.2 id o h3 h4
theorem ops_okZ {ops : Array Oper} {K : ASt → Prop} {Q : Exit → Act → World → Prop} {T : Nat → Prop} : ∀ (l : List Oper) (a : Act) (w : World) (st : ASt) (L : Nat → Value), (∀ o ∈ l, fOp o = true ∧ ∀ t, T t → o.dst ≠ some t) →
    (∀ a' w' st' L', K st' → Conc cx a' w' st' L' → Fz w st.tab L w' st'.tab L' → ActSame T a a' → Q .normal a' w') → Conc cx a w st L → aOps P ops K l st → wpList P ops Q l a w
  | [], a, w, st, L, _, hQ, h, hp => hQ a w st L hp h Fz.refl (.refl a)
  | o :: rest, a, w, st, L, hf, hQ, h, hp => by
    unfold aOps at hp
    obtain ⟨hfo, hdo⟩ := hf o (List.mem_cons_self ..)
    have hrest := fun o' (ho' : o' ∈ rest) => hf o' (List.mem_cons_of_mem _ ho')
    refine wpList_step fun K' hK' => ?_
    rcases guard_ok h hp o rfl with ⟨hw, st1, h1, h2, e1, e2⟩ | ⟨hw, st1, h1, h2, e1, e2⟩
    · rw [if_pos hw]
      refine Oper.wp_mono (fun a' w' ⟨⟨st2, L2, h3, h4, h5, h6⟩, h7⟩ => hK' a' w' (ops_okZ rest a' w' st2 L2 hrest (fun a3 w3 st3 L3 h8 h9 h10 h11 => hQ a3 w3 st3 L3 h8 h9 ?_ (ActSame.trans ⟨h6, h7⟩ h11)) h4 h3)) (wp_slots hdo (op_okF h2 h1 hfo))
      have h5 := h5.fz
      rw [e1] at h5
      exact h5.trans h10
    · rw [if_neg (by simp [hw])]
      refine hK' _ _ (ops_okZ rest _ w _ L hrest (fun a3 w3 st3 L3 h8 h9 h10 h11 => hQ a3 w3 st3 L3 h8 h9 ?_ (((ActSame.refl a).put hdo).trans h11)) (skip_conc h2 o.dst) h1)
      rw [put_tab, e1] at h10
      exact h10
theorem Fz.below (hy : ∀ id o g, tab.get id = some o → vblk (L id) = some g → g < w.heap.size) (hb : Below w.heap.size w w') : Fz w tab L w' tab L := ⟨hb.size, fun k hk _ => hb.block k hk, fun id o g h1 h2 _ => ⟨id, o, h1, h2⟩⟩
/-- code whose regions go in order, and that does not put into slot t -/
def zCode (t : Nat) : Code → Bool
  | .skip => true
  | .region _ ops _ => ops.toList.all fun o => fOp o && !(o.dst == some t)
  | .seq x y => zCode t x && zCode t y
  | .cond _ x y => zCode t x && zCode t y
  | .block _ x => zCode t x
  | .loop x => zCode t x
  | .exit _ => true
  | .ret => true
  | _ => false
abbrev AfterZ (cx : Cx) (a : Act) (w : World) (tab : ATab) (L : Nat → Value) (t : Nat) (Q : Exit → ASt → Prop) : Exit → Act → World → Prop := fun e a' w' => ∃ st' L', Q e st' ∧ Conc cx a' w' st' L' ∧ Fz w tab L w' st'.tab L' ∧ ActSame (fun k => k = t) a a'
theorem code_okZ (hm : P.follows .mixedOrders = true) (hall : ∀ b, cx.F b ∨ cx.w0.heap.size ≤ b) (t : Nat) : ∀ (c : Code), zCode t c = true → ∀ (Q : Exit → ASt → Prop) (a : Act) (w : World) (st : ASt) (L : Nat → Value), Conc cx a w st L → aCode P c Q st → c.wp P (AfterZ cx a w st.tab L t Q) a w := by
  intro c
  induction c with
  | skip => exact fun _ Q a w st L h hp => wp_skip ⟨st, L, hp, h, Fz.refl, .refl a⟩
  | region id ops draw =>
    intro hf Q a w st L h hp
    unfold aCode aReg at hp
    simp only [zCode, List.all_eq_true, Bool.and_eq_true] at hf
    have hf : ∀ o ∈ ops.toList, fOp o = true ∧ ∀ k, k = t → o.dst ≠ some k := fun o ho => ⟨(hf o ho).1, fun k hk => by subst hk; simpa using (hf o ho).2⟩
    have hT : ∀ (i : Nat) (o : Oper), ops[i]? = some o → ∀ k, k = t → o.dst ≠ some k := fun i o ho => (hf o (Array.mem_toList_iff.2 (Array.mem_of_getElem? ho))).2
    have hyg : ∀ id o g, st.tab.get id = some o → vblk (L id) = some g → g < w.heap.size := fun id o g h1 h2 => ((h.lay.objs id o h1).ge h2).2
    cases draw with
    | false => exact wp_region_list (ops_okZ (T := fun k => k = t) _ a w st L hf (fun a' w' st' L' h1 h2 h3 h4 => ⟨st', L', h1, h2, h3, h4⟩) h (by simpa using hp))
    | true =>
      simp only [if_true] at hp
      obtain ⟨l⟩ := ops
      rcases hp with ⟨hB, hp⟩ | ⟨n, hB, hp⟩ | ⟨ids, hd, s, hB, K', hK', hids, hp⟩
      · exact wp_region_quiet (C := fun w' => Below w.heap.size w w') hm hB ((Below.refl _ _).drew) (dops_ok (L := L) (T := fun k => k = t) (a0 := a) (tab0 := st.tab) (fun a' st' h1 h2 h3 h4 w' hw' => ⟨st', L, h1, conc_below h2 hw', by rw [h3]; exact Fz.below hyg hw', h4⟩) _ _ _ (fun o ho => (hf o ho).2) rfl (.refl a) h hp)
      · have h' : Conc cx a w.drew st L := conc_below h ((Below.refl _ _).drew)
        have hz : Fz w st.tab L w.drew st.tab L := Fz.below hyg ((Below.refl _ _).drew)
        exact wp_region_still_tail n hm hB (pops_ok (T := fun k => k = t) (a0 := a) (tab0 := st.tab) (fun a' st' h1 h2 h3 h4 => ops_okZ (T := fun k => k = t) _ a' w.drew st' L (fun o ho => hf o (List.mem_of_mem_drop ho)) (fun a2 w2 st2 L2 h5 h6 h7 h8 => ⟨st2, L2, h5, h6, hz.trans (by rw [← h3]; exact h7), h4.trans h8⟩) h2 h1) _ _ _ (fun o ho => (hf o (List.mem_of_mem_take ho)).2) rfl (.refl a) h' hp)
      · simp only [Bool.and_eq_true] at hB
        have hB := And.intro hB.1 (Nat.le_of_ble_eq_true hB.2)
        have h' : Conc cx a w.drew st L := conc_below h ((Below.refl _ _).drew)
        let G : Nat → Prop := fun k => ∃ id ∈ ids, vblk (L id) = some k
        refine Code.wp_mono (Q := noPanic (AfterZ cx a w st.tab L t Q)) (fun e a w hq => ?_) (wp_region_held (S := fun w' => KeepX w.drew.heap.size G w.drew w') hm ?_)
        · cases e <;> first | exact hq | exact hq.elim
        · refine heldH_ok (T := st.tab) (Tz := fun k => k = t) (a0 := a) (nx := st.next) (ids := ids) hB.1.1 hT s ⟨Nat.le_refl _, fun _ _ _ => rfl⟩ (fun w' b hw' hb o u hu => ?_) (fun listed a' st' hA hT' hN hB' hK h2 fuel hf' => ?_) hd _ _ _ (.refl a) h' rfl rfl hB.1.2 hp _ hB.2
          · have hlt := World.block_lt_of_cell? w.drew _ hu
            refine (World.cell?_of_block (hw'.block b hlt fun ⟨id, hid, hbl⟩ => ?_)).trans hu
            obtain ⟨ob, hob⟩ := Option.isSome_iff_exists.1 (hids id hid)
            rcases hb with hb | ⟨id', o', hni, hget, hbl'⟩
            · exact hb.2.2 id ob hob hbl
            · exact hni (h.lay.sep id' id o' ob b hget hob hbl' hbl ▸ hid)
          · refine held_ok (Q := AfterZ cx a w st.tab L t Q) (T0 := st.tab) (T := fun k => k = t) (a0 := a) (L0 := L) hB.1.1 hT (fun a2 w2 st2 L2 h3 h4 h5 h6 h7 h8 => ?_) s listed a' w.drew st' L h2 ⟨Nat.le_refl _, fun _ _ _ => rfl⟩ (fun id o g h3 h4 _ => by
              rw [hT'] at h4
              have := (h.young id o h4).1
              omega) (fun id hid g hg => ⟨id, hid, hg⟩) (fun id hid => by
              obtain ⟨ob, hob⟩ := Option.isSome_iff_exists.1 (hids id hid)
              rw [hN]
              exact (h.young id ob hob).1) ⟨fun _ _ => rfl, by rw [hN]; exact Nat.le_refl _, fun id o _ hg => ⟨o, by rw [← hT']; exact hg⟩, fun id o g _ hni hg hbl => ?_⟩ hA hB' hK fuel hf'
            · obtain ⟨st3, hw3, h9⟩ := hK' st2 h3
              obtain ⟨L3, h10, h11⟩ := weak_fz hall hw3 h4
              have hG : ∀ k, G k → ∃ id o, st.tab.get id = some o ∧ vblk (L id) = some k := fun k ⟨id, hid, hbl⟩ => (Option.isSome_iff_exists.1 (hids id hid)).elim fun ob hob => ⟨id, ob, hob, hbl⟩
              have hz : Fz w st.tab L w2 st2.tab L2 := by
                have hsz : w.drew.heap.size = w.heap.size := rfl
                refine ⟨h5.size, fun k hk hn => h5.block k hk fun hg => ?_, fun id o g h12 h13 h14 => ?_⟩
                · obtain ⟨id, ob, h12, h13⟩ := hG k hg
                  exact hn id ob h12 h13
                · rcases Nat.lt_or_ge id st.next with hlt | hge
                  · obtain ⟨o', ho'⟩ := h7.old id o hlt h12
                    exact ⟨id, o', ho', by rw [← h7.loc id hlt]; exact h13⟩
                  · rcases h6 id o g hge h12 h13 with h15 | h15
                    · have : w.heap.size ≤ g := h15
                      omega
                    · exact hG g h15
              exact ⟨st3, L3, h9, h10, hz.trans h11, h8⟩
            · refine ⟨((h'.lay.objs id _ hg).ge hbl).2, fun ⟨id', hid', hbl'⟩ => hni ?_⟩
              obtain ⟨ob, hob⟩ := Option.isSome_iff_exists.1 (hids id' hid')
              exact h.lay.sep id id' _ ob g hg hob hbl hbl' ▸ hid'
  | seq x y ihx ihy =>
    intro hf Q a w st L h hp
    simp only [zCode, Bool.and_eq_true] at hf
    unfold aCode at hp
    refine wp_seq (Code.wp_mono (fun e a' w' ⟨st', L', h1, h2, h3, h4⟩ => ?_) (ihx hf.1 _ a w st L h hp))
    cases e with
    | normal => exact Code.wp_mono (fun e a2 w2 ⟨st2, L2, k1, k2, k3, k4⟩ => ⟨st2, L2, k1, k2, h3.trans k3, h4.trans k4⟩) (ihy hf.2 Q a' w' st' L' h2 h1)
    | _ => exact ⟨st', L', h1, h2, h3, h4⟩
  | cond c x y ihx ihy =>
    intro hf Q a w st L h hp
    simp only [zCode, Bool.and_eq_true] at hf
    unfold aCode aCond at hp
    split at hp
    · rename_i b hb
      have hv := (eval_ok h c).1
      rw [hb] at hv
      have hv := hv.c_inv
      cases b
      · exact wp_cond_false hv (ihy hf.2 Q a w st L h hp)
      · exact wp_cond_true hv (ihx hf.1 Q a w st L h hp)
    · exact hp.elim
  | block id x ih =>
    intro hf Q a w st L h hp
    simp only [zCode] at hf
    unfold aCode at hp
    refine wp_block (Code.wp_mono (fun e a' w' ⟨st', L', h1, h2, h3⟩ => ?_) (ih hf _ a w st L h hp))
    cases e with
    | exit id' =>
      simp only [aInBlock, Exit.inBlock] at h1 ⊢
      split
      · rename_i e
        rw [if_pos e] at h1
        exact ⟨st', L', h1, h2, h3⟩
      · rename_i e
        rw [if_neg e] at h1
        exact ⟨st', L', h1, h2, h3⟩
    | _ => exact ⟨st', L', h1, h2, h3⟩
  | loop x ih =>
    intro hf Q a0 w0 st0 L0 h hp
    simp only [zCode] at hf
    unfold aCode at hp
    obtain ⟨I, μ, ⟨st1, hw1, hI⟩, hr⟩ := hp
    let p : Act → World → Nat → Prop := fun a w n => ∃ st L, I st ∧ Conc cx a w st L ∧ (Fz w0 st0.tab L0 w st.tab L ∧ ActSame (fun k => k = t) a0 a) ∧ μ st = n
    obtain ⟨L1, hL1, hz1⟩ := weak_fz hall hw1 h
    refine wp_loop (fun a w => ∃ n, p a w n) (fun a w => least (p a w)) ⟨_, st1, L1, hI, hL1, ⟨hz1, .refl a0⟩, rfl⟩ fun a w hpa => ?_
    obtain ⟨⟨st, L, h1, h2, ⟨h3, h3a⟩, h4⟩, _⟩ := least_spec hpa
    refine Code.wp_mono (fun e a' w' ⟨st', L', h5, h6, h7, h8⟩ => ?_) (ih hf _ a w st L h2 (hr st h1))
    cases e with
    | normal =>
      obtain ⟨st'', hw, hI'', hlt⟩ := h5
      obtain ⟨L1, hL1, hz1⟩ := weak_fz hall hw h6
      have hpn : p a' w' (μ st'') := ⟨st'', L1, hI'', hL1, ⟨(h3.trans h7).trans hz1, h3a.trans h8⟩, rfl⟩
      refine ⟨⟨_, hpn⟩, ?_⟩
      have := (least_spec ⟨_, hpn⟩).2 _ hpn
      show least (p a' w') < least (p a w)
      omega
    | _ => exact ⟨st', L', h5, h6, h3.trans h7, h3a.trans h8⟩
  | exit id => exact fun _ Q a w st L h hp => wp_exit ⟨st, L, hp, h, Fz.refl, .refl a⟩
  | ret => exact fun _ Q a w st L h hp => wp_ret ⟨st, L, hp, h, Fz.refl, .refl a⟩
  | _ => exact fun hf => (by cases hf)
end
/-- behind a function that changes a slice's rows -/
def aRetM (e : TypeId) (sz : Nat) (rows : List (List AV)) : Exit → ASt → Prop
  | .normal, st => st.tab.get 0 = some (.row e sz rows) ∧ st.get 0 = .osl 0
  | .ret, st => st.tab.get 0 = some (.row e sz rows) ∧ st.get 0 = .osl 0
  | _, _ => False
theorem aRetM_n {e : TypeId} {sz : Nat} {rows : List (List AV)} {st : ASt} : aRetM e sz rows .normal st = (st.tab.get 0 = some (.row e sz rows) ∧ st.get 0 = .osl 0) := rfl
theorem aRetM_r {e : TypeId} {sz : Nat} {rows : List (List AV)} {st : ASt} : aRetM e sz rows .ret st = (st.tab.get 0 = some (.row e sz rows) ∧ st.get 0 = .osl 0) := rfl
theorem amut_of_code {P : Program} (hm : P.follows .mixedOrders = true) {f : FuncId} {fn : Func} {c : Code} (hf : P.funcs[f]? = some fn) (hb : fn.body = some c) (hname : (fn.name == "runtime.NumGoroutine") = false) {e : TypeId} {sz : Nat} {rows rows' : List (List AV)} {args : List AV} {n : Nat} (hnt : fn.ntmps = n) (hrs : fn.results = #[])
    (hn : Nat.ble (args.length + 1) n = true) (hz : zCode 0 c = true) (h : aCode P c (aRetM e sz rows') ⟨n, envOf 0 (.osl 0 :: args), [(0, some (.row e sz rows))], 1⟩) : AMut P f e sz rows args rows' := by
  have hn := Nat.le_of_ble_eq_true hn
  subst hnt
  refine ⟨fun vs w => ?_, fun S w base v vs hS hbD hrow hvS hvn hvs => ?_⟩
  · have : ¬ fn.name = "runtime.NumGoroutine" := by simpa using hname
    simp [callFunc, Sem.run_bind, hf, this, hb]
  · have hw0 : ({ w with heap := w.heap.extract 0 ambD } : World).heap.size = ambD := by
      have := hS.amb.le
      simp
      omega
    have hk0 : ∀ k, k < ambD → ({ w with heap := w.heap.extract 0 ambD } : World).heap[k]? = w.heap[k]? := fun k hk => by
      have := hS.amb.le
      show (w.heap.extract 0 ambD)[k]? = _
      rw [Array.getElem?_extract]
      rw [if_pos (by omega), Nat.zero_add]
    let cx : Cx := ⟨fun _ => True, { w with heap := w.heap.extract 0 ambD }, fun b => ambD ≤ b ∧ b < w.heap.size ∧ ¬ S b ∧ vblk v ≠ some b, hS.amb.keep (Nat.le_of_eq hw0.symm) hk0, fun b h => h.1, fun _ _ => trivial⟩
    have hget : ∀ id o, ATab.get [(0, some (AObj.row e sz rows))] id = some o → id = 0 ∧ o = .row e sz rows := fun id o ho => by
      rw [ATab.get_cons] at ho
      split at ho
      · cases ho
        exact ⟨by assumption, rfl⟩
      · cases ho
    have hSx : ∀ b, S b → Sx cx w [(0, some (AObj.row e sz rows))] (fun _ => v) b := fun b hb => ⟨hS b hb, ⟨.inl trivial, fun hX => hX.2.2.1 hb⟩, fun id o ho hg => hvS b hg hb⟩
    obtain ⟨hrl, xs, hown, hone, hx⟩ := id hrow
    have hL : Lay cx w [(0, some (AObj.row e sz rows))] (fun _ => v) := by
      refine ⟨⟨rfl, rfl, rfl, Nat.le_trans (Nat.le_of_eq hw0) hS.amb.le, fun k hk _ => (hk0 k (Nat.lt_of_lt_of_le hk (Nat.le_of_eq hw0))).symm⟩, fun id o ho => ?_, fun id id' o o' g h1 h2 _ _ => by rw [(hget id o h1).1, (hget id' o' h2).1], fun b hX => ⟨hX.2.1, fun id o _ => hX.2.2.2⟩⟩
      obtain ⟨_, rfl⟩ := hget id o ho
      exact ⟨hrl, xs, hown.base (Nat.le_trans (Nat.le_of_eq hw0) hbD), hone, fun i j row av h1 h2 => (hx i j row av h1 h2).elim fun x hx' => ⟨x, hx'.1, hx'.2.mono (fun _ _ => rfl) hSx⟩⟩
    have hC : Conc cx { tmps := (#[v] ++ vs) ++ Array.replicate (fn.ntmps - (#[v] ++ vs).size) undef, defers := [] } w ⟨fn.ntmps, envOf 0 (.osl 0 :: args), [(0, some (.row e sz rows))], 1⟩ (fun _ => v) := by
      refine ⟨hL, ?_, Marks.nil _ _ _, fun id o ho => ?_, fun t => ?_⟩
      · simp
        omega
      · obtain ⟨rfl, rfl⟩ := hget id o ho
        exact ⟨Nat.zero_lt_one, trivial⟩
      have e1 : (⟨fn.ntmps, envOf 0 (.osl 0 :: args), [(0, some (.row e sz rows))], 1⟩ : ASt).get t = (AV.osl 0 :: args).getD t .any := by
        show (if t < fn.ntmps then aget (envOf 0 (.osl 0 :: args)) t else .any) = _
        rw [aget_envOf]
        split
        · simp
        · simp [List.getD, List.getElem?_eq_none (show (AV.osl 0 :: args).length ≤ t by simp; omega)]
      rw [e1]
      by_cases ht : t < args.length + 1
      · have ht' : t < (#[v] ++ vs).size := by simp; omega
        have e2 : ((#[v] ++ vs) ++ Array.replicate (fn.ntmps - (#[v] ++ vs).size) undef).getD t undef = (#[v] ++ vs)[t] := by
          rw [Array.getD_eq_getD_getElem?, Array.getElem?_append_left ht', Array.getElem?_eq_getElem ht']
          rfl
        rw [e2]
        cases t with
        | zero =>
          have e3 : (#[v] ++ vs)[0] = v := by simp
          rw [e3]
          refine ⟨.osl _ _ fun sz' v' hk => ?_, Nat.zero_lt_one⟩
          simp [Kx, ATab.get_cons] at hk
          exact hk.2
        | succ t =>
          have ht2 : t < args.length := by omega
          have ht3 : t < vs.size := by omega
          have e3 : (#[v] ++ vs)[t + 1] = vs[t] := by simp []
          have e4 : (AV.osl 0 :: args).getD (t + 1) .any = args[t] := by simp [List.getD, ht2]
          rw [e3, e4]
          have := hvs t _ _ (Array.getElem?_eq_getElem ht3) (List.getElem?_eq_getElem ht2)
          exact ⟨.tree (this.mono (fun _ _ => rfl) hSx), this.lt 1⟩
      · have e3 : (AV.osl 0 :: args).getD t .any = .any := by simp [List.getD, List.getElem?_eq_none (show (AV.osl 0 :: args).length ≤ t by simp; omega)]
        rw [e3]
        exact ⟨.tree (.any _), trivial⟩
    refine calls_of_wp hf hb (Code.wp_mono (fun ex a' w' ⟨st', L', h1, h2, h3, hA⟩ => ?_) (code_okZ hm (fun b => .inl trivial) 0 c hz _ _ w _ _ hC h))
    have h4 := hA.defers
    have h5 := hA.slots 0 rfl
    have h50 : a'.tmps.getD 0 undef = v := by
      rw [h5, Array.getD_eq_getD_getElem?, Array.append_assoc, Array.getElem?_append_left (by simp)]
      rfl
    have key : (st'.tab.get 0 = some (.row e sz rows') ∧ st'.get 0 = .osl 0) → a'.defers = [] ∧ ∃ u, (results fn a'.tmps).run P w' = .ok u w' ∧ (Ending.returned u = .returned (.tuple #[]) ∧ (w'.os = w.os ∧ w'.tape = w.tape ∧ w'.output = w.output) ∧ w.heap.size ≤ w'.heap.size ∧ (∀ k, k < w.heap.size → vblk v ≠ some k → w'.heap[k]? = w.heap[k]?) ∧ RowAt w' (fun b => (S b ∨ w.heap.size ≤ b) ∧ b < w'.heap.size) base e sz v rows') := fun ⟨h6, h7⟩ => by
      have hL0 : L' 0 = v := by
        have := (h2.env 0).1
        rw [h7, h50] at this
        exact (this.osl_inv _ _ (kx_of h6)).symm
      obtain ⟨hrl', xs', hown', hone', hx'⟩ := h2.lay.objs 0 _ h6
      rw [hL0] at hown'
      refine ⟨h4, .tuple #[], ?_, rfl, ⟨h2.lay.below.os, h2.lay.below.tape, h2.lay.below.output⟩, h3.size, fun k hk hne => h3.keep k hk fun id o ho => ?_, hrl', xs', ⟨hown'.1, ?_⟩, hone', fun i j row av h8 h9 => (hx' i j row av h8 h9).elim fun x hx2 => ⟨x, hx2.1, hx2.2.mono (fun _ _ => rfl) fun b hb => ⟨?_, hb.1⟩⟩⟩
      · obtain ⟨u, av, hav, hu, hr⟩ := res_ok (K := fun av => av = .tup []) (fn := fn) h2 (by rw [hrs]; rfl)
        subst hav
        obtain ⟨xs, rfl, hsz, _⟩ := hu.tup_inv
        have : xs = #[] := Array.eq_empty_of_size_eq_zero (by simpa using hsz)
        rw [this] at hr
        exact hr
      · exact hne
      · rcases hown'.2 with h8 | ⟨g, cap, cur, h8, _, h9⟩
        · exact .inl h8
        · refine .inr ⟨g, cap, cur, h8, ?_, h9⟩
          exact (hown.lt g (by rw [h8]; rfl)).1
      · rcases Nat.lt_or_ge b w.heap.size with hlt | hge
        · refine .inl (Classical.byContradiction fun hno => hb.2.1.2 ⟨Nat.le_of_not_lt fun hb2 => hno (hS.tab b hb2), hlt, hno, fun hg => ?_⟩)
          exact hb.2.2 0 _ h6 (by rw [hL0]; exact hg)
        · exact .inr hge
    cases ex with
    | normal => exact key h1
    | ret => exact key h1
    | _ => exact h1.elim
theorem callM {P : Program} {st : ASt} {g : FuncId} {K : AV → ASt → Prop} {id e sz : Nat} {rows rows' : List (List AV)} {rest : List AV} (h : AMut P g e sz rows rest rows') (hid : st.tab.get id = some (.row e sz rows)) (ht : treeML rest) (hk : K (.tup []) { st with tab := (id, some (.row e sz rows')) :: st.tab }) : aCall true P st g (.osl id :: rest) K :=
  .inr ⟨rfl, .inl (.inr ⟨id, e, sz, rows, rows', rest, rfl, hid, ht, h, hk⟩)⟩
end
section
/-- a number, what it is, and its place in the list that is sorted -/
structure Pt where
  n : Int
  a : Int
  c : Int
  t : Int
instance : Inhabited Pt := ⟨⟨0, 0, 0, 0⟩⟩
def ltE (x y : Pt) : Prop := x.n < y.n ∨ (x.n = y.n ∧ x.t < y.t)
def leB (x y : Pt) : Bool := decide (x.n < y.n) || (decide (x.n = y.n) && decide (x.t ≤ y.t))
def srt (l : List Pt) : List Pt := l.mergeSort leB
def Srt (l : List Pt) : Prop := l.Pairwise ltE
def Tg (l : List Pt) : Prop := l.Pairwise fun x y => x.t < y.t
theorem leB_iff {x y : Pt} : leB x y = true ↔ x.n < y.n ∨ (x.n = y.n ∧ x.t ≤ y.t) := by simp [leB]
theorem srt_perm (l : List Pt) : (srt l).Perm l := List.mergeSort_perm ..
theorem srt_len (l : List Pt) : (srt l).length = l.length := (srt_perm l).length_eq
theorem srt_le (l : List Pt) : (srt l).Pairwise fun x y => leB x y = true :=
  List.pairwise_mergeSort (fun x y z h k => by rw [leB_iff] at *; omega) (fun x y => by rw [Bool.or_eq_true, leB_iff, leB_iff]; omega) l
theorem srt_uniq {X l : List Pt} (h : X.Perm l) (hs : Srt X) : srt l = X := by
  refine (h.trans (srt_perm l).symm).symm.eq_of_pairwise (le := fun x y => leB x y = true) (fun x y hx hy h1 h2 => ?_) (srt_le l) (hs.imp fun {x y} h => by rw [leB_iff]; unfold ltE at h; omega)
  have hx' : x ∈ X := (h.trans (srt_perm l).symm).symm.subset hx
  rw [leB_iff] at h1 h2
  refine Classical.byContradiction fun hne => ?_
  obtain ⟨i, hi, rfl⟩ := List.getElem_of_mem hx'
  obtain ⟨j, hj, rfl⟩ := List.getElem_of_mem hy
  have hp := List.pairwise_iff_getElem.1 hs
  rcases Nat.lt_trichotomy i j with h3 | h3 | h3
  · have := hp i j hi hj h3
    unfold ltE at this
    omega
  · subst h3
    exact hne rfl
  · have := hp j i hj hi h3
    unfold ltE at this
    omega
theorem srt_of {l : List Pt} (h : Srt l) : srt l = l := srt_uniq (.refl _) h
def Dt (l : List Pt) : Prop := l.Pairwise fun x y => x.t ≠ y.t
theorem Tg.dt {l : List Pt} (h : Tg l) : Dt l := List.Pairwise.imp (fun {x y} h => by omega) h
theorem Dt.perm {l k : List Pt} (h : Dt l) (hp : k.Perm l) : Dt k := (hp.pairwise_iff (fun {x y} h => Ne.symm h)).2 h
theorem srt_sorted {l : List Pt} (h : Dt l) : Srt (srt l) :=
  List.Pairwise.imp₂ (fun x y h1 h2 => by rw [leB_iff] at h1; unfold ltE; omega) (srt_le l) (h.perm (srt_perm l))
theorem srt_mem {l : List Pt} {x : Pt} : x ∈ srt l ↔ x ∈ l := (srt_perm l).mem_iff
theorem srt_srt {l k : List Pt} (h : Dt (l ++ k)) : srt (srt l ++ srt k) = srt (l ++ k) :=
  srt_uniq (((srt_perm (l ++ k))).trans ((srt_perm l).symm.append (srt_perm k).symm)) (srt_sorted h)
/-- one put among others -/
theorem mid_put {S : List Pt} {x : Pt} {c : Nat} (h : Srt S) (h1 : ∀ y ∈ S.take c, ltE y x) (h2 : ∀ y ∈ S.drop c, ltE x y) : Srt (S.take c ++ x :: S.drop c) := by
  have h0 : Srt (S.take c ++ S.drop c) := by rw [List.take_append_drop]; exact h
  obtain ⟨h3, h4, h5⟩ := List.pairwise_append.1 h0
  refine List.pairwise_append.2 ⟨h3, List.pairwise_cons.2 ⟨h2, h4⟩, fun y hy z hz => ?_⟩
  rcases List.mem_cons.1 hz with rfl | hz
  · exact h1 y hy
  · exact h5 y hy z hz
theorem mid_perm2 {S : List Pt} {x : Pt} {c : Nat} : (S.take c ++ x :: S.drop c).Perm ([x] ++ S) := by
  have h := List.perm_middle (a := x) (l₁ := S.take c) (l₂ := S.drop c)
  rw [List.take_append_drop] at h
  exact h
theorem mid_perm {S : List Pt} {x : Pt} {c : Nat} : (S.take c ++ x :: S.drop c).Perm (S ++ [x]) := mid_perm2.trans (List.perm_append_singleton x S).symm
theorem n_mono {S : List Pt} (h : Srt S) {i j : Nat} (hij : i ≤ j) (hj : j < S.length) : (S[i]'(by omega)).n ≤ S[j].n := by
  rcases Nat.lt_or_ge i j with h1 | h1
  · have := List.pairwise_iff_getElem.1 h i j (by omega) hj h1
    unfold ltE at this
    omega
  · obtain rfl : i = j := by omega
    exact Int.le_refl _
theorem take_all {S : List Pt} {c : Nat} {P : Pt → Prop} (h : ∀ k (hk : k < S.length), k < c → P S[k]) : ∀ y ∈ S.take c, P y := fun y hy => by
  obtain ⟨k, hk, rfl⟩ := List.getElem_of_mem hy
  rw [List.length_take] at hk
  rw [List.getElem_take]
  exact h k (by omega) (by omega)
theorem drop_all {S : List Pt} {c : Nat} {P : Pt → Prop} (h : ∀ k (hk : k < S.length), c ≤ k → P S[k]) : ∀ y ∈ S.drop c, P y := fun y hy => by
  obtain ⟨k, hk, rfl⟩ := List.getElem_of_mem hy
  rw [List.length_drop] at hk
  rw [List.getElem_drop]
  exact h (c + k) (by omega) (by omega)
/-- the first of two parts is one that all of the other are behind -/
theorem ins_first {x : Pt} {B : List Pt} {c : Nat} (hB : Srt B) (ht : ∀ y ∈ B, x.t < y.t) (h1 : ∀ k (hk : k < B.length), k < c → B[k].n < x.n) (h2 : ∀ k (hk : k < B.length), c ≤ k → ¬ B[k].n < x.n) : srt ([x] ++ B) = B.take c ++ x :: B.drop c :=
  srt_uniq mid_perm2 (mid_put hB (take_all fun k hk h => .inl (h1 k hk h)) (drop_all fun k hk h => by
    have := h2 k hk h
    have := ht _ (List.getElem_mem hk)
    unfold ltE
    omega))
theorem ins_last {x : Pt} {A : List Pt} {c : Nat} (hA : Srt A) (ht : ∀ y ∈ A, y.t < x.t) (h1 : ∀ k (hk : k < A.length), k < c → ¬ x.n < A[k].n) (h2 : ∀ k (hk : k < A.length), c ≤ k → x.n < A[k].n) : srt (A ++ [x]) = A.take c ++ x :: A.drop c :=
  srt_uniq mid_perm (mid_put hA (take_all fun k hk h => by
    have := h1 k hk h
    have := ht _ (List.getElem_mem hk)
    unfold ltE
    omega) (drop_all fun k hk h => .inl (h2 k hk h)))
/-- two parts, each cut in two: what is ahead in both is less than what is behind in both -/
theorem srt_cut {A1 A2 B1 B2 : List Pt} (hA : Srt (A1 ++ A2)) (hB : Srt (B1 ++ B2)) (ht : ∀ x ∈ A1 ++ A2, ∀ y ∈ B1 ++ B2, x.t < y.t) (h1 : ∀ x ∈ A1, ∀ y ∈ B2, ltE x y) (h2 : ∀ y ∈ B1, ∀ x ∈ A2, ltE y x) :
    srt ((A1 ++ A2) ++ (B1 ++ B2)) = srt (A1 ++ B1) ++ srt (A2 ++ B2) := by
  obtain ⟨a1, a2, a3⟩ := List.pairwise_append.1 hA
  obtain ⟨b1, b2, b3⟩ := List.pairwise_append.1 hB
  have key : ∀ {X Y : List Pt}, Srt X → Srt Y → (∀ x ∈ X, ∀ y ∈ Y, x.t < y.t) → Srt (srt (X ++ Y)) := fun {X Y} hX hY h => by
    have hd : ∀ {Z : List Pt}, Srt Z → ∀ x ∈ Z, True := fun _ _ _ => trivial
    refine List.Pairwise.imp₂ (R := fun x y => leB x y = true) (S := fun x y => ltE x y ∨ ltE y x) (fun x y h1 h2 => by rw [leB_iff] at h1; unfold ltE at *; omega) (srt_le _) ?_
    refine ((srt_perm (X ++ Y)).pairwise_iff (fun {x y} h => Or.symm h)).2 (List.pairwise_append.2 ⟨hX.imp .inl, hY.imp .inl, fun x hx y hy => ?_⟩)
    have := h x hx y hy
    unfold ltE
    omega
  refine srt_uniq ?_ (List.pairwise_append.2 ⟨key a1 b1 fun x hx y hy => ht x (List.mem_append_left _ hx) y (List.mem_append_left _ hy), key a2 b2 fun x hx y hy => ht x (List.mem_append_right _ hx) y (List.mem_append_right _ hy), fun x hx y hy => ?_⟩)
  · refine ((srt_perm _).append (srt_perm _)).trans ?_
    rw [List.append_assoc, List.append_assoc]
    refine List.Perm.append_left A1 ?_
    rw [← List.append_assoc, ← List.append_assoc]
    exact List.Perm.append_right B2 List.perm_append_comm
  · rcases List.mem_append.1 (srt_mem.1 hx) with hx | hx <;> rcases List.mem_append.1 (srt_mem.1 hy) with hy | hy
    · exact a3 x hx y hy
    · exact h1 x hx y hy
    · exact h2 x hx y hy
    · exact b3 x hx y hy

/-! ### in blocks -/
def Gf (bs : Nat) : Nat → List Pt → List Pt
  | 0, l => srt l
  | f + 1, l => if bs ≤ l.length then srt (l.take bs) ++ Gf bs f (l.drop bs) else srt l
def G (bs : Nat) (l : List Pt) : List Pt := Gf bs l.length l
theorem srt_nil : srt [] = [] := by simp [srt]
theorem Gf_more {bs : Nat} (hb : 0 < bs) : ∀ (f : Nat) (l : List Pt), l.length ≤ f → Gf bs f l = Gf bs l.length l
  | f, l, h => by
    induction f using Nat.strongRecOn generalizing l with
    | _ f ih =>
      cases hl : l.length with
      | zero =>
        obtain rfl := List.length_eq_zero_iff.1 hl
        cases f with
        | zero => rfl
        | succ f => simp [Gf]; omega
      | succ k =>
        cases f with
        | zero => omega
        | succ f =>
          simp only [Gf]
          split
          · congr 1
            have hd : (l.drop bs).length ≤ f := by rw [List.length_drop]; omega
            have hd2 : (l.drop bs).length ≤ k := by rw [List.length_drop]; omega
            rw [ih f (by omega) _ hd]
            rcases Nat.lt_or_ge k (f + 1) with hk | hk
            · rw [ih k hk _ hd2]
            · omega
          · rfl
theorem G_ge {bs : Nat} (hb : 0 < bs) {l : List Pt} (h : bs ≤ l.length) : G bs l = srt (l.take bs) ++ G bs (l.drop bs) := by
  unfold G
  cases hl : l.length with
  | zero => omega
  | succ k =>
    have hd2 : (l.drop bs).length ≤ k := by rw [List.length_drop]; omega
    rw [Gf, if_pos (by omega), Gf_more hb k _ hd2]
theorem G_lt {bs : Nat} (hb : 0 < bs) {l : List Pt} (h : l.length ≤ bs) : G bs l = srt l := by
  rcases Nat.lt_or_ge l.length bs with h1 | h1
  · unfold G
    cases hl : l.length with
    | zero => rfl
    | succ k => rw [Gf, if_neg (by omega)]
  · have e : l.length = bs := by omega
    rw [G_ge hb h1, List.take_of_length_le (by omega), List.drop_of_length_le (by omega)]
    simp [G, Gf, srt_nil]
theorem G_len {bs : Nat} (hb : 0 < bs) : ∀ l : List Pt, (G bs l).length = l.length := fun l => by
  induction hk : l.length using Nat.strongRecOn generalizing l with
  | _ k ih =>
    rcases Nat.lt_or_ge l.length bs with h1 | h1
    · rw [G_lt hb (by omega), srt_len, hk]
    · rw [G_ge hb h1, List.length_append, srt_len, ih (l.drop bs).length (by rw [List.length_drop]; omega) _ rfl, List.length_take, List.length_drop]
      omega
end
section
def sw (l : List Pt) (i j : Nat) : List Pt := (l.set i (l.getD j default)).set j (l.getD i default)
theorem sw_len (l : List Pt) (i j : Nat) : (sw l i j).length = l.length := by simp [sw]
def swp (l : List Pt) (p q : Nat) : Nat → List Pt
  | 0 => l
  | k + 1 => sw (swp l p q k) (p + k) (q + k)
theorem swp_len (l : List Pt) (p q : Nat) : ∀ k, (swp l p q k).length = l.length
  | 0 => rfl
  | k + 1 => by rw [swp, sw_len, swp_len l p q k]
theorem sw_comm (l : List Pt) {i j : Nat} (h : i ≠ j) : sw l i j = sw l j i := by
  unfold sw
  rw [List.set_comm _ _ h]
theorem get_mid {X Z : List Pt} {y : Pt} {i : Nat} (hi : i = X.length) : (X ++ y :: Z)[i]? = some y := by
  subst hi
  simp
theorem set_mid {X Z : List Pt} {y z : Pt} {i : Nat} (hi : i = X.length) : (X ++ y :: Z).set i z = X ++ z :: Z := by
  subst hi
  simp
theorem sw_app {X Y Z : List Pt} {a b : Pt} {i j : Nat} (hi : i = X.length) (hj : j = X.length + 1 + Y.length) : sw (X ++ a :: (Y ++ b :: Z)) i j = X ++ b :: (Y ++ a :: Z) := by
  unfold sw
  have e1 : (X ++ a :: (Y ++ b :: Z)).getD i default = a := by rw [List.getD_eq_getElem?_getD, get_mid hi]; rfl
  have e2 : ∀ c : Pt, X ++ c :: (Y ++ b :: Z) = (X ++ c :: Y) ++ b :: Z := fun c => by simp
  have hj' : ∀ c : Pt, j = (X ++ c :: Y).length := fun c => by simp; omega
  have e3 : (X ++ a :: (Y ++ b :: Z)).getD j default = b := by rw [e2, List.getD_eq_getElem?_getD, get_mid (hj' a)]; rfl
  rw [e1, e3, set_mid hi, e2, set_mid (hj' b)]
  simp
theorem swp_spec {pre A mid B post : List Pt} (h : A.length = B.length) {p q : Nat} (hp : p = pre.length) (hq : q = (pre ++ A ++ mid).length) : ∀ k, k ≤ A.length → swp (pre ++ A ++ mid ++ B ++ post) p q k = (pre ++ B.take k) ++ (A.drop k ++ mid ++ A.take k ++ (B.drop k ++ post))
  | 0, _ => by simp [swp]
  | k + 1, hk => by
    have hkA : k < A.length := by omega
    have hkB : k < B.length := by omega
    have eA : A.drop k = A[k] :: A.drop (k + 1) := List.drop_eq_getElem_cons hkA
    have eB : B.drop k = B[k] :: B.drop (k + 1) := List.drop_eq_getElem_cons hkB
    have tA : A.take (k + 1) = A.take k ++ [A[k]] := List.take_succ_eq_append_getElem hkA
    have tB : B.take (k + 1) = B.take k ++ [B[k]] := List.take_succ_eq_append_getElem hkB
    have lA : (A.take k).length = k := by rw [List.length_take]; omega
    have lB : (B.take k).length = k := by rw [List.length_take]; omega
    have lA2 : (A.drop (k + 1)).length = A.length - (k + 1) := List.length_drop
    rw [swp, swp_spec h hp hq k (by omega), eA, eB, tA, tB]
    generalize A[k] = x at *
    generalize B[k] = y at *
    generalize A.drop (k + 1) = A2 at *
    generalize B.drop (k + 1) = B2 at *
    generalize A.take k = A1 at *
    generalize B.take k = B1 at *
    have e : (pre ++ B1) ++ (x :: A2 ++ mid ++ A1 ++ (y :: B2 ++ post)) = (pre ++ B1) ++ x :: ((A2 ++ mid ++ A1) ++ y :: (B2 ++ post)) := by simp
    rw [e, sw_app (by simp; omega) (by simp at hq ⊢; omega)]
    simp
theorem swp_all {pre A mid B post : List Pt} (h : A.length = B.length) {p q n : Nat} (hp : p = pre.length) (hq : q = (pre ++ A ++ mid).length) (hn : n = A.length) : swp (pre ++ A ++ mid ++ B ++ post) p q n = pre ++ B ++ mid ++ A ++ post := by
  subst hn
  rw [swp_spec h hp hq _ (Nat.le_refl _), List.drop_length, List.take_length, h, List.take_length, List.drop_length]
  simp
theorem srt_snoc {l : List Pt} {x : Pt} (h : Dt (l ++ [x])) : srt (srt l ++ [x]) = srt (l ++ [x]) := by
  have := srt_srt h
  rw [show srt [x] = [x] from srt_of (List.pairwise_singleton _ _)] at this
  exact this
theorem Tg.take {l : List Pt} (h : Tg l) (k : Nat) : Tg (l.take k) := h.sublist (List.take_sublist k l)
theorem Tg.drop {l : List Pt} (h : Tg l) (k : Nat) : Tg (l.drop k) := h.sublist (List.drop_sublist k l)
theorem Tg.lt {l : List Pt} (h : Tg l) {k : Nat} (hk : k < l.length) : ∀ y ∈ l.take k, y.t < l[k].t := fun y hy => by
  obtain ⟨i, hi, rfl⟩ := List.getElem_of_mem hy
  rw [List.length_take] at hi
  rw [List.getElem_take]
  exact List.pairwise_iff_getElem.1 h i k (by omega) hk (by omega)
end
end Go.Proofs.YtodbhccfajgekaaGreatDoor
