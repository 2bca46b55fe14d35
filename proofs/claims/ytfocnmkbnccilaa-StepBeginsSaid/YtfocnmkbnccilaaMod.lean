/-
  HOW a model lies in memory.
-/
import Derived.Test.YtfocnmkbnccilaaEvRep
import Derived.Test.YtfocnmkbnccilaaStruct
set_option linter.unusedVariables false
set_option linter.unusedSimpArgs false
namespace Go.Proofs.Ytfocnmkbnccilaa
open Go.RowKit

structure Gd where
  stage : Int
  event : Int
  cond : List Inst
structure Ml where
  name : ByteArray
  stage : Int
  event : Int
  cond : List Inst
  final : Bool
structure Ev where
  name : ByteArray
  role : Int
  stage : Int
  sets : List Int
  times : Int
structure Mod where
  attrs : List ByteArray
  inits : List Int
  users : List ByteArray
  roles : List (ByteArray × Int)
  stages : List (ByteArray × Int)
  events : List Ev
  guards : List Gd
  miles : List Ml
  sods : List (Int × Int)
  order : List (Bool × Int)
def strOk (s : ByteArray) : Prop := s.size ≤ 9223372036854775807
def nameIntR : Rep (ByteArray × Int) where
  size := 2
  at_ := fun _ _ cs x => cs = [.string x.1, .int .i64 x.2] ∧ strOk x.1 ∧ ok64 x.2
  len := fun h => by rw [h.1]; rfl
  keep := fun h _ => h
  mono := fun h _ => h
def intIntR : Rep (Int × Int) where
  size := 2
  at_ := fun _ _ cs x => cs = [.int .i64 x.1, .int .i64 x.2] ∧ ok64 x.1 ∧ ok64 x.2
  len := fun h => by rw [h.1]; rfl
  keep := fun h _ => h
  mono := fun h _ => h
def sentryR : Rep (Bool × Int) where
  size := 2
  at_ := fun _ _ cs x => cs = [.bool x.1, .int .i64 x.2] ∧ ok64 x.2
  len := fun h => by rw [h.1]; rfl
  keep := fun h _ => h
  mono := fun h _ => h
def gdR : Rep Gd where
  size := 3
  at_ := fun w S cs g => ∃ cv, cs = [.int .i64 g.stage, .int .i64 g.event, cv] ∧ (sliceR instR).one w S cv g.cond ∧ ok64 g.stage ∧ ok64 g.event
  len := fun ⟨_, h, _⟩ => by rw [h]; rfl
  keep := fun ⟨cv, h, h2, h3⟩ hk => ⟨cv, h, slice_keep h2 hk, h3⟩
  mono := fun ⟨cv, h, h2, h3⟩ hB => ⟨cv, h, slice_mono h2 hB, h3⟩
def mlR : Rep Ml where
  size := 5
  at_ := fun w S cs g => ∃ cv, cs = [.string g.name, .int .i64 g.stage, .int .i64 g.event, cv, .bool g.final] ∧ (sliceR instR).one w S cv g.cond ∧ ok64 g.stage ∧ ok64 g.event ∧ strOk g.name
  len := fun ⟨_, h, _⟩ => by rw [h]; rfl
  keep := fun ⟨cv, h, h2, h3⟩ hk => ⟨cv, h, slice_keep h2 hk, h3⟩
  mono := fun ⟨cv, h, h2, h3⟩ hB => ⟨cv, h, slice_mono h2 hB, h3⟩
def evR : Rep Ev where
  size := 5
  at_ := fun w S cs g => ∃ cv, cs = [.string g.name, .int .i64 g.role, .int .i64 g.stage, cv, .int .i64 g.times] ∧ (sliceR (intR .i64)).one w S cv g.sets ∧ ok64 g.role ∧ ok64 g.stage ∧ ok64 g.times ∧ strOk g.name
  len := fun ⟨_, h, _⟩ => by rw [h]; rfl
  keep := fun ⟨cv, h, h2, h3⟩ hk => ⟨cv, h, slice_keep h2 hk, h3⟩
  mono := fun ⟨cv, h, h2, h3⟩ hB => ⟨cv, h, slice_mono h2 hB, h3⟩

/-- the cells of thing k of a slice -/
theorem thing_at {α : Type} {r : Rep α} {w : World} {S : Nat → Prop} {b o c n : Nat} {l : List α} (h : (sliceR r).one w S (.slice (some ⟨b, o, none⟩) n c) l) {k : Nat} (hk : k < l.length) :
    ∃ cs, (∀ j u, cs[j]? = some u → w.cell? ⟨b, o + k * r.size + j, none⟩ = some u) ∧ r.at_ w S cs l[k] := by
  obtain ⟨b', o', e, _, hrow⟩ := slice_some h (by omega)
  simp at e
  obtain ⟨rfl, rfl⟩ := e
  exact hrow k hk
theorem guard_at {w : World} {S : Nat → Prop} {b o c n : Nat} {l : List Gd} (h : (sliceR gdR).one w S (.slice (some ⟨b, o, none⟩) n c) l) {k : Nat} (hk : k < l.length) :
    ∃ cv, w.cell? ⟨b, o + k * 3, none⟩ = some (.int .i64 l[k].stage) ∧ w.cell? ⟨b, o + k * 3 + 1, none⟩ = some (.int .i64 l[k].event) ∧ w.cell? ⟨b, o + k * 3 + 2, none⟩ = some cv ∧ (sliceR instR).one w S cv l[k].cond ∧ ok64 l[k].stage ∧ ok64 l[k].event := by
  obtain ⟨cs, h1, cv, h2, h3, h4⟩ := thing_at h hk
  subst h2
  exact ⟨cv, h1 0 _ rfl, h1 1 _ rfl, h1 2 _ rfl, h3, h4⟩
theorem mile_at {w : World} {S : Nat → Prop} {b o c n : Nat} {l : List Ml} (h : (sliceR mlR).one w S (.slice (some ⟨b, o, none⟩) n c) l) {k : Nat} (hk : k < l.length) :
    ∃ cv, w.cell? ⟨b, o + k * 5, none⟩ = some (.string l[k].name) ∧ w.cell? ⟨b, o + k * 5 + 1, none⟩ = some (.int .i64 l[k].stage) ∧ w.cell? ⟨b, o + k * 5 + 2, none⟩ = some (.int .i64 l[k].event) ∧ w.cell? ⟨b, o + k * 5 + 3, none⟩ = some cv ∧ w.cell? ⟨b, o + k * 5 + 4, none⟩ = some (.bool l[k].final) ∧
      (sliceR instR).one w S cv l[k].cond ∧ ok64 l[k].stage ∧ ok64 l[k].event ∧ strOk l[k].name := by
  obtain ⟨cs, h1, cv, h2, h3, h4⟩ := thing_at h hk
  subst h2
  exact ⟨cv, h1 0 _ rfl, h1 1 _ rfl, h1 2 _ rfl, h1 3 _ rfl, h1 4 _ rfl, h3, h4⟩
theorem event_at {w : World} {S : Nat → Prop} {b o c n : Nat} {l : List Ev} (h : (sliceR evR).one w S (.slice (some ⟨b, o, none⟩) n c) l) {k : Nat} (hk : k < l.length) :
    ∃ cv, w.cell? ⟨b, o + k * 5, none⟩ = some (.string l[k].name) ∧ w.cell? ⟨b, o + k * 5 + 1, none⟩ = some (.int .i64 l[k].role) ∧ w.cell? ⟨b, o + k * 5 + 2, none⟩ = some (.int .i64 l[k].stage) ∧ w.cell? ⟨b, o + k * 5 + 3, none⟩ = some cv ∧ w.cell? ⟨b, o + k * 5 + 4, none⟩ = some (.int .i64 l[k].times) ∧
      (sliceR (intR .i64)).one w S cv l[k].sets ∧ ok64 l[k].role ∧ ok64 l[k].stage ∧ ok64 l[k].times ∧ strOk l[k].name := by
  obtain ⟨cs, h1, cv, h2, h3, h4⟩ := thing_at h hk
  subst h2
  exact ⟨cv, h1 0 _ rfl, h1 1 _ rfl, h1 2 _ rfl, h1 3 _ rfl, h1 4 _ rfl, h3, h4⟩
theorem named_at {w : World} {S : Nat → Prop} {b o c n : Nat} {l : List (ByteArray × Int)} (h : (sliceR nameIntR).one w S (.slice (some ⟨b, o, none⟩) n c) l) {k : Nat} (hk : k < l.length) :
    w.cell? ⟨b, o + k * 2, none⟩ = some (.string l[k].1) ∧ w.cell? ⟨b, o + k * 2 + 1, none⟩ = some (.int .i64 l[k].2) ∧ strOk l[k].1 ∧ ok64 l[k].2 := by
  obtain ⟨cs, h1, h2, h3⟩ := thing_at h hk
  subst h2
  exact ⟨h1 0 _ rfl, h1 1 _ rfl, h3⟩
theorem two_at {w : World} {S : Nat → Prop} {b o c n : Nat} {l : List (Int × Int)} (h : (sliceR intIntR).one w S (.slice (some ⟨b, o, none⟩) n c) l) {k : Nat} (hk : k < l.length) :
    w.cell? ⟨b, o + k * 2, none⟩ = some (.int .i64 l[k].1) ∧ w.cell? ⟨b, o + k * 2 + 1, none⟩ = some (.int .i64 l[k].2) ∧ ok64 l[k].1 ∧ ok64 l[k].2 := by
  obtain ⟨cs, h1, h2, h3⟩ := thing_at h hk
  subst h2
  exact ⟨h1 0 _ rfl, h1 1 _ rfl, h3⟩
theorem sentry_at {w : World} {S : Nat → Prop} {b o c n : Nat} {l : List (Bool × Int)} (h : (sliceR sentryR).one w S (.slice (some ⟨b, o, none⟩) n c) l) {k : Nat} (hk : k < l.length) :
    w.cell? ⟨b, o + k * 2, none⟩ = some (.bool l[k].1) ∧ w.cell? ⟨b, o + k * 2 + 1, none⟩ = some (.int .i64 l[k].2) ∧ ok64 l[k].2 := by
  obtain ⟨cs, h1, h2, h3⟩ := thing_at h hk
  subst h2
  exact ⟨h1 0 _ rfl, h1 1 _ rfl, h3⟩

/-- a slice whose things lie anywhere in memory -/
def SI {α : Type} (r : Rep α) (w : World) (v : Value) (l : List α) : Prop := (sliceR r).one w (fun b => b < w.heap.size) v l
theorem SI.below {α : Type} {r : Rep α} {w w' : World} {v : Value} {l : List α} (h : SI r w v l) (hb : Below w.heap.size w w') : SI r w' v l := slice_mono (slice_below h hb fun b h => h) fun b h => Nat.lt_of_lt_of_le h hb.size
theorem SI.mk {α : Type} {r : Rep α} {w : World} {S : Nat → Prop} {v : Value} {l : List α} (h : (sliceR r).one w S v l) (hS : ∀ b, S b → b < w.heap.size) : SI r w v l := slice_mono h hS
theorem SI.form {α : Type} {r : Rep α} {w : World} {v : Value} {l : List α} (h : SI r w v l) : ∃ A c, v = .slice A l.length c ∧ l.length ≤ c ∧ c ≤ 9223372036854775807 := slice_form h
theorem SI.form2 {α : Type} {r : Rep α} {w : World} {v : Value} {l : List α} (h : SI r w v l) (h0 : 0 < l.length) : ∃ b o c, v = .slice (some ⟨b, o, none⟩) l.length c ∧ l.length ≤ c ∧ c ≤ 9223372036854775807 ∧ b < w.heap.size := by
  obtain ⟨A, c, rfl, h1, h2⟩ := slice_form h
  obtain ⟨b, o, rfl, hb, _⟩ := slice_some h h0
  exact ⟨b, o, c, rfl, h1, h2, hb⟩
/-- the values of a model's ten lists -/
structure MV where
  attrs : Value
  inits : Value
  users : Value
  roles : Value
  stages : Value
  events : Value
  guards : Value
  miles : Value
  sods : Value
  order : Value
abbrev MV.cells (V : MV) : Array Value := #[V.attrs, V.inits, V.users, V.roles, V.stages, V.events, V.guards, V.miles, V.sods, V.order]
structure ModI (w : World) (V : MV) (m : Mod) : Prop where
  attrs : SI strR w V.attrs m.attrs
  inits : SI (intR .i64) w V.inits m.inits
  users : SI strR w V.users m.users
  roles : SI nameIntR w V.roles m.roles
  stages : SI nameIntR w V.stages m.stages
  events : SI evR w V.events m.events
  guards : SI gdR w V.guards m.guards
  miles : SI mlR w V.miles m.miles
  sods : SI intIntR w V.sods m.sods
  order : SI sentryR w V.order m.order
theorem ModI.below {w w' : World} {V : MV} {m : Mod} (h : ModI w V m) (hb : Below w.heap.size w w') : ModI w' V m :=
  ⟨h.attrs.below hb, h.inits.below hb, h.users.below hb, h.roles.below hb, h.stages.below hb, h.events.below hb, h.guards.below hb, h.miles.below hb, h.sods.below hb, h.order.below hb⟩
end Go.Proofs.Ytfocnmkbnccilaa
