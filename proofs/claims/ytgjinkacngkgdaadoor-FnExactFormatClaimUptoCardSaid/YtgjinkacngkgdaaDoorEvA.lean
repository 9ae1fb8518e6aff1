/- Kinds of values, and what it means that a row of cells of the machine's memory represents a value of a kind. -/
import Derived.Calls
import Derived.Orders
import Derived.Tactics
namespace Go.Ev
set_option linter.unusedVariables false

inductive Kd where
  | int (k : IntKind)
  | bool
  | str
  | unit
  | pair (a b : Kd)
  | sl (e : Kd)
  | nl
  | ptr (e : Kd)
  | clo (f : FuncId) (caps : Kd)
  | self
  deriving DecidableEq

@[reducible] def Kd.T : Kd → Type
  | .int _ => Int
  | .bool => Bool
  | .str => List UInt8
  | .unit => Unit
  | .pair a b => a.T × b.T
  | .sl e => List e.T
  | .nl => Unit
  | .ptr e => e.T
  | .clo _ c => c.T
  | .self => Unit

def Kd.size : Kd → Nat
  | .unit => 0
  | .pair a b => a.size + b.size
  | _ => 1

def CellsAt (w : World) (b o : Nat) (cs : List Value) : Prop :=
  ∀ (j : Nat) (v : Value), cs[j]? = some v → w.cell? ⟨b, o + j, none⟩ = some v

mutual
def Rep (T D : Nat → Prop) (w : World) : (k : Kd) → k.T → List Value → Prop
  | .int ik, n, cs => cs = [.int ik n]
  | .bool, b, cs => cs = [.bool b]
  | .str, s, cs => cs = [.string ⟨s.toArray⟩]
  | .unit, _, cs => cs = []
  | .pair a b, x, cs => ∃ c d, cs = c ++ d ∧ c.length = a.size ∧ Rep T D w a x.1 c ∧ Rep T D w b x.2 d
  | .sl e, l, cs => ∃ A c, cs = [.slice A (List.length l) c] ∧ List.length l ≤ c ∧
      ∀ (i : Nat) (x : e.T), l[i]? = some x → ∃ b o ecs, A = some ⟨b, o, none⟩ ∧ T b ∧ b < w.heap.size ∧
        ecs.length = e.size ∧ Rep D D w e x ecs ∧ CellsAt w b (o + i * e.size) ecs
  | .nl, _, cs => cs = [.slice none 0 0]
  | .ptr e, x, cs => ∃ b o ecs, cs = [.pointer (some ⟨b, o, none⟩)] ∧ T b ∧ b < w.heap.size ∧ ecs.length = e.size ∧ Rep T D w e x ecs ∧ CellsAt w b o ecs
  | .clo f ks, x, cs => ∃ ptrs : List Value, cs = [.func (.func f) #[] ptrs.toArray] ∧ RepCaps T D w (.func (.func f) #[] ptrs.toArray) ks x ptrs
  | .self, _, cs => False
def RepCaps (T D : Nat → Prop) (w : World) (v : Value) : (k : Kd) → k.T → List Value → Prop
  | .unit, _, ps => ps = []
  | .pair a b, x, ps => ∃ bk ecs r, ps = .pointer (some ⟨bk, 0, none⟩) :: r ∧ T bk ∧ bk < w.heap.size ∧ CellsAt w bk 0 ecs ∧
      ((a = .self ∧ ecs = [v]) ∨ (ecs.length = a.size ∧ Rep T D w a x.1 ecs)) ∧ RepCaps T D w v b x.2 r
  | .int _, _, _ => False
  | .bool, _, _ => False
  | .str, _, _ => False
  | .sl _, _, _ => False
  | .nl, _, _ => False
  | .ptr _, _, _ => False
  | .clo _ _, _, _ => False
  | .self, _, _ => False
end

def Keep (w w' : World) (b : Nat) : Prop := b < w'.heap.size ∧ ∀ o v, w.cell? ⟨b, o, none⟩ = some v → w'.cell? ⟨b, o, none⟩ = some v

theorem CellsAt.keep {w w' : World} {b o : Nat} {cs : List Value} (h : CellsAt w b o cs) (k : Keep w w' b) : CellsAt w' b o cs :=
  fun j v hj => k.2 _ _ (h j v hj)

theorem rep_tr_both {w w' : World} (k : Kd) : ∀ {T D T' D' : Nat → Prop}, (∀ b, T b → b < w.heap.size → T' b ∧ Keep w w' b) → (∀ b, D b → b < w.heap.size → D' b ∧ Keep w w' b) →
    (∀ x cs, Rep T D w k x cs → Rep T' D' w' k x cs) ∧ (∀ v x cs, RepCaps T D w v k x cs → RepCaps T' D' w' v k x cs) := by
  induction k with
  | int ik => intro T D T' D' hT hD; exact ⟨fun x cs h => by simpa [Rep] using h, fun v x cs h => by simp [RepCaps] at h⟩
  | bool => intro T D T' D' hT hD; exact ⟨fun x cs h => by simpa [Rep] using h, fun v x cs h => by simp [RepCaps] at h⟩
  | str => intro T D T' D' hT hD; exact ⟨fun x cs h => by simpa [Rep] using h, fun v x cs h => by simp [RepCaps] at h⟩
  | unit => intro T D T' D' hT hD; exact ⟨fun x cs h => by simpa [Rep] using h, fun v x cs h => by simpa [RepCaps] using h⟩
  | nl => intro T D T' D' hT hD; exact ⟨fun x cs h => by simpa [Rep] using h, fun v x cs h => by simp [RepCaps] at h⟩
  | self => intro T D T' D' hT hD; exact ⟨fun x cs h => by simp [Rep] at h, fun v x cs h => by simp [RepCaps] at h⟩
  | pair a b iha ihb =>
    intro T D T' D' hT hD
    refine ⟨fun x cs h => ?_, fun v x cs h => ?_⟩
    · simp only [Rep] at h ⊢
      obtain ⟨c, d, rfl, hl, h1, h2⟩ := h
      exact ⟨c, d, rfl, hl, (iha hT hD).1 _ _ h1, (ihb hT hD).1 _ _ h2⟩
    · simp only [RepCaps] at h ⊢
      obtain ⟨bk, ecs, r, rfl, ht, hs, hc, h1, h2⟩ := h
      refine ⟨bk, ecs, r, rfl, (hT _ ht hs).1, (hT _ ht hs).2.1, hc.keep (hT _ ht hs).2, ?_, (ihb hT hD).2 _ _ _ h2⟩
      rcases h1 with h1 | ⟨hl, h1⟩
      · exact .inl h1
      · exact .inr ⟨hl, (iha hT hD).1 _ _ h1⟩
  | sl e ih =>
    intro T D T' D' hT hD
    refine ⟨fun x cs h => ?_, fun v x cs h => by simp [RepCaps] at h⟩
    simp only [Rep] at h ⊢
    obtain ⟨A, c, rfl, hl, h⟩ := h
    refine ⟨A, c, rfl, hl, fun i y hy => ?_⟩
    obtain ⟨b, o, ecs, hA, ht, hs, hlen, hr, hc⟩ := h i y hy
    exact ⟨b, o, ecs, hA, (hT _ ht hs).1, (hT _ ht hs).2.1, hlen, (ih hD hD).1 _ _ hr, hc.keep (hT _ ht hs).2⟩
  | ptr e ih =>
    intro T D T' D' hT hD
    refine ⟨fun x cs h => ?_, fun v x cs h => by simp [RepCaps] at h⟩
    simp only [Rep] at h ⊢
    obtain ⟨b, o, ecs, rfl, ht, hs, hlen, hr, hc⟩ := h
    exact ⟨b, o, ecs, rfl, (hT _ ht hs).1, (hT _ ht hs).2.1, hlen, (ih hT hD).1 _ _ hr, hc.keep (hT _ ht hs).2⟩
  | clo f ks ih =>
    intro T D T' D' hT hD
    refine ⟨fun x cs h => ?_, fun v x cs h => by simp [RepCaps] at h⟩
    simp only [Rep] at h ⊢
    obtain ⟨ptrs, rfl, h⟩ := h
    exact ⟨ptrs, rfl, (ih hT hD).2 _ _ _ h⟩

theorem Rep.tr {w w' : World} {k : Kd} {T D T' D' : Nat → Prop} {x : k.T} {cs : List Value} (h : Rep T D w k x cs)
    (hT : ∀ b, T b → b < w.heap.size → T' b ∧ Keep w w' b) (hD : ∀ b, D b → b < w.heap.size → D' b ∧ Keep w w' b) : Rep T' D' w' k x cs :=
  (rep_tr_both k hT hD).1 _ _ h

end Go.Ev
