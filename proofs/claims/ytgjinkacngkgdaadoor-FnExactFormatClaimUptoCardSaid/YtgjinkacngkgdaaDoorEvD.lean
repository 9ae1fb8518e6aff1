/- What it means that a state of the evaluator holds of a machine's frame and memory. -/
import Derived.Test.YtgjinkacngkgdaaDoorEvC
import Derived.Laws.Cells
import Derived.Laws.World
import Derived.Laws.Tables
import Derived.Laws.CopyRow
import Derived.Laws.Entries
namespace Go.Ev
set_option linter.unusedVariables false

/-! lists of the same length whose members are related -/
def All2 {α β : Type} (R : α → β → Prop) : List α → List β → Prop
  | [], [] => True
  | a :: l, b :: r => R a b ∧ All2 R l r
  | [], _ :: _ => False
  | _ :: _, [] => False

theorem All2.length {α β : Type} {R : α → β → Prop} : ∀ {l : List α} {r : List β}, All2 R l r → l.length = r.length
  | [], [], _ => rfl
  | _ :: _, _ :: _, h => by simp [All2.length h.2]
  | [], _ :: _, h => h.elim
  | _ :: _, [], h => h.elim

theorem All2.get {α β : Type} {R : α → β → Prop} : ∀ {l : List α} {r : List β}, All2 R l r → ∀ (i : Nat) (a : α), l[i]? = some a → ∃ b, r[i]? = some b ∧ R a b
  | [], [], _, i, a, h => by simp at h
  | x :: l, y :: r, h, 0, a, e => by simp at e; subst e; exact ⟨y, rfl, h.1⟩
  | x :: l, y :: r, h, i + 1, a, e => by simpa using All2.get h.2 i a (by simpa using e)
  | [], _ :: _, h, _, _, _ => h.elim
  | _ :: _, [], h, _, _, _ => h.elim

theorem All2.of_get {α β : Type} {R : α → β → Prop} : ∀ {l : List α} {r : List β}, l.length = r.length → (∀ (i : Nat) (a : α) (b : β), l[i]? = some a → r[i]? = some b → R a b) → All2 R l r
  | [], [], _, _ => trivial
  | x :: l, y :: r, hl, h => ⟨h 0 x y rfl rfl, All2.of_get (by simpa using hl) fun i a b ha hb => h (i + 1) a b (by simpa using ha) (by simpa using hb)⟩
  | [], _ :: _, hl, _ => by simp at hl
  | _ :: _, [], hl, _ => by simp at hl

theorem All2.mono {α β : Type} {R R' : α → β → Prop} : ∀ {l : List α} {r : List β}, All2 R l r → (∀ a b, a ∈ l → b ∈ r → R a b → R' a b) → All2 R' l r
  | [], [], _, _ => trivial
  | x :: l, y :: r, h, k => ⟨k x y (by simp) (by simp) h.1, All2.mono h.2 fun a b ha hb => k a b (by simp [ha]) (by simp [hb])⟩
  | [], _ :: _, h, _ => h.elim
  | _ :: _, [], h, _ => h.elim

theorem All2.map_left {α β γ : Type} {R : α → β → Prop} {R' : γ → β → Prop} {f : α → γ} : ∀ {l : List α} {r : List β}, All2 R l r → (∀ a b, R a b → R' (f a) b) → All2 R' (l.map f) r
  | [], [], _, _ => trivial
  | x :: l, y :: r, h, k => ⟨k x y h.1, All2.map_left h.2 k⟩
  | [], _ :: _, h, _ => h.elim
  | _ :: _, [], h, _ => h.elim

theorem All2.append {α β : Type} {R : α → β → Prop} : ∀ {l l' : List α} {r r' : List β}, All2 R l r → All2 R l' r' → All2 R (l ++ l') (r ++ r')
  | [], _, [], _, _, h' => h'
  | x :: l, _, y :: r, _, h, h' => ⟨h.1, All2.append h.2 h'⟩
  | [], _, _ :: _, _, h, _ => h.elim
  | _ :: _, _, [], _, h, _ => h.elim

theorem All2.split {α β : Type} {R : α → β → Prop} : ∀ {l l' : List α} {r : List β}, All2 R (l ++ l') r → ∃ r₁ r₂, r = r₁ ++ r₂ ∧ All2 R l r₁ ∧ All2 R l' r₂
  | [], _, r, h => ⟨[], r, rfl, trivial, h⟩
  | x :: l, l', y :: r, h => by
    obtain ⟨r₁, r₂, rfl, h1, h2⟩ := All2.split (l := l) h.2
    exact ⟨y :: r₁, r₂, rfl, ⟨h.1, h1⟩, h2⟩
  | _ :: _, _, [], h => h.elim

theorem All2.seg {α β : Type} {R : α → β → Prop} {l : List α} {r : List β} (h : All2 R l r) (off n : Nat) : All2 R (seg l off n) (seg r off n) := by
  refine All2.of_get (by simp [Ev.seg, h.length]) fun i a b ha hb => ?_
  simp only [Ev.seg, List.getElem?_take] at ha hb
  split at ha
  · simp only [List.getElem?_drop] at ha
    rename_i hlt
    rw [if_pos hlt] at hb
    simp only [List.getElem?_drop] at hb
    obtain ⟨b', hb', hr⟩ := h.get _ _ ha
    rw [hb] at hb'; cases hb'; exact hr
  · simp at ha

theorem All2.set {α β : Type} {R : α → β → Prop} {l : List α} {r : List β} (h : All2 R l r) (i : Nat) {a : α} {b : β} (hr : R a b) : All2 R (l.set i a) (r.set i b) := by
  refine All2.of_get (by simp [h.length]) fun j x y hx hy => ?_
  simp only [List.getElem?_set] at hx hy
  by_cases hij : i = j
  · subst hij
    simp only [if_true] at hx hy
    split at hx <;> split at hy <;> simp_all
  · simp only [hij, if_false] at hx hy
    obtain ⟨b', hb', hr'⟩ := h.get _ _ hx
    rw [hy] at hb'; cases hb'; exact hr'

/-! lists of numbered things -/
theorem ifB_ite {α : Type} (b : Bool) (x y : α) : ifB b x y = if b = true then x else y := by cases b <;> rfl

theorem aget_aset {α : Type} (l : List (Nat × α)) (i j : Nat) (x : α) : aget (aset l i x) j = if i = j then some x else aget l j := by
  induction l with
  | nil => simp [aset, aget, ifB_ite]
  | cons p l ih =>
    simp only [aset, ifB_ite, decide_eq_true_eq, beq_iff_eq]
    by_cases h1 : i < p.1
    · simp [h1, aget, ifB_ite]
    · by_cases h2 : p.1 = i
      · subst h2
        by_cases h : p.1 = j <;> simp [aget, ifB_ite, h]
      · simp only [h1, if_false, h2, aget, ifB_ite, ih, beq_iff_eq]
        by_cases h : i = j
        · subst h; simp [h2]
        · simp [h]

theorem aget_adel {α : Type} (l : List (Nat × α)) (i j : Nat) : aget (adel l i) j = if i = j then none else aget l j := by
  induction l with
  | nil => simp [adel, aget]
  | cons p l ih =>
    simp only [adel, ifB_ite, beq_iff_eq]
    by_cases h2 : p.1 = i
    · subst h2
      by_cases h : p.1 = j
      · simp [h] at *; exact ih
      · simp [aget, ifB_ite, ih, h]
    · simp only [h2, if_false, aget, ifB_ite, ih, beq_iff_eq]
      by_cases h : i = j
      · subst h; simp [h2]
      · simp [h]

theorem aget_amap {α : Type} (f : α → α) (l : List (Nat × α)) (j : Nat) : aget (amap f l) j = (aget l j).map f := by
  induction l with
  | nil => simp [amap, aget]
  | cons p l ih =>
    simp only [amap, aget, ih, ifB_ite, beq_iff_eq]
    by_cases h : p.1 = j <;> simp [h]

theorem aget_akeep {α : Type} (q : Nat → Bool) (l : List (Nat × α)) (j : Nat) : aget (akeep q l) j = if q j = true then aget l j else none := by
  induction l with
  | nil => simp [akeep, aget]
  | cons p l ih =>
    simp only [akeep, ifB_ite]
    by_cases h : p.1 = j
    · subst h
      cases hq : q p.1
      · simp [ih, hq]
      · simp [aget, ifB_ite]
    · cases hq : q p.1 <;> simp [ih, aget, ifB_ite, h]

/-! worlds that go on -/
def Shp (w w' : World) : Prop := w.heap.size ≤ w'.heap.size ∧ (∀ (b : Nat) (arr : Array Value) (et : TypeId) (fz : Nat × Nat), w.heap[b]? = some (Obj.cells arr et fz) → ∃ arr' : Array Value, w'.heap[b]? = some (Obj.cells arr' et fz) ∧ arr'.size = arr.size) ∧ w'.os = w.os ∧ w'.output = w.output ∧ w'.tape = w.tape

theorem Shp.refl (w : World) : Shp w w := ⟨Nat.le_refl _, fun b arr et fz h => ⟨arr, h, rfl⟩, rfl, rfl, rfl⟩
theorem Shp.trans {w w' w'' : World} (h : Shp w w') (h' : Shp w' w'') : Shp w w'' := by
  refine ⟨Nat.le_trans h.1 h'.1, fun b arr et fz e => ?_, h'.2.2.1.trans h.2.2.1, h'.2.2.2.1.trans h.2.2.2.1, h'.2.2.2.2.trans h.2.2.2.2⟩
  obtain ⟨a1, e1, s1⟩ := h.2.1 _ _ _ _ e
  obtain ⟨a2, e2, s2⟩ := h'.2.1 _ _ _ _ e1
  exact ⟨a2, e2, by rw [s2, s1]⟩

def Same (w w' : World) (b : Nat) : Prop := w'.heap[b]? = w.heap[b]?

theorem Same.keep {w w' : World} {b : Nat} (h : Same w w' b) (hb : b < w.heap.size) : Keep w w' b := by
  refine ⟨?_, fun o v hv => ?_⟩
  · unfold Same at h
    rw [Array.getElem?_eq_getElem hb] at h
    rcases Nat.lt_or_ge b w'.heap.size with h' | h'
    · exact h'
    · rw [Array.getElem?_eq_none h'] at h; cases h
  · unfold World.cell? at hv ⊢
    rw [h]; exact hv

def Room (w : World) (b n : Nat) : Prop := ∃ (arr : Array Value) (et : TypeId), w.heap[b]? = some (Obj.cells arr et (0, 0)) ∧ n ≤ arr.size

theorem Room.shp {w w' : World} {b n : Nat} (h : Room w b n) (k : Shp w w') : Room w' b n := by
  obtain ⟨arr, et, e, l⟩ := h
  obtain ⟨a', e', s'⟩ := k.2.1 _ _ _ _ e
  exact ⟨a', et, e', by omega⟩

theorem Room.lt {w : World} {b n : Nat} (h : Room w b n) : b < w.heap.size := by
  obtain ⟨arr, et, e, l⟩ := h
  rcases Nat.lt_or_ge b w.heap.size with h' | h'
  · exact h'
  · rw [Array.getElem?_eq_none h'] at e; cases e

theorem Room.mono {w : World} {b n m : Nat} (h : Room w b n) (k : m ≤ n) : Room w b m := by
  obtain ⟨arr, et, e, l⟩ := h
  exact ⟨arr, et, e, by omega⟩

/-! cells and values -/
structure It where
  D : Nat → Prop
  β : Nat → Option (Nat × Nat)
  ln : Nat → Nat
  γ : Nat → Nat

def topB (T D : Nat → Prop) (tv : Bool) (b : Nat) : Prop := D b ∨ (tv = true ∧ T b)

def boxPtr (g : Nat) : Value := .pointer (some ⟨g, 0, none⟩)

def CellRel (T : Nat → Prop) (I : It) (w : World) : Cell → Value → Prop
  | .dead, v => v.oneCell' = true
  | .val tv k x, v => k.isAgg = false ∧ Rep (topB T I.D tv) I.D w k x [v]
  | .xsl tv e l, v => (∃ A, v = .slice A l.length l.length) ∧ Rep (topB T I.D tv) I.D w (.sl e) l [v]
  | .dptr tv k x, v => ∃ b o ecs, v = .pointer (some ⟨b, o, none⟩) ∧ topB T I.D tv b ∧ b < w.heap.size ∧ ecs.length = k.size ∧ Rep I.D I.D w k x ecs ∧ CellsAt w b o ecs
  | .hdr k L off len, v => ∃ A c, v = .slice A len c ∧ len ≤ c ∧ off + len ≤ I.ln L ∧
      (c = 0 ∨ ∃ b base, I.β L = some (b, base) ∧ A = some ⟨b, base + off * k.size, none⟩ ∧ Room w b (base + (off + c) * k.size))
  | .bref B off, v => v = .pointer (some ⟨I.γ B, off, none⟩)
  | .eref k L i fo, v => ∃ b base, I.β L = some (b, base) ∧ v = .pointer (some ⟨b, base + i * k.size + fo, none⟩) ∧ Room w b 0
  | .clo f caps, v => v = .func (.func f) #[] (caps.map fun B => boxPtr (I.γ B)).toArray

theorem Rep.one {T D : Nat → Prop} {w : World} {k : Kd} {x : k.T} {v : Value} (ha : k.isAgg = false) (h : Rep T D w k x [v]) : v.oneCell' = true := by
  cases k with
  | int ik => simp only [Rep, List.cons.injEq, and_true] at h; subst h; rfl
  | bool => simp only [Rep, List.cons.injEq, and_true] at h; subst h; rfl
  | str => simp only [Rep, List.cons.injEq, and_true] at h; subst h; rfl
  | unit => simp [Kd.isAgg] at ha
  | pair a b => simp [Kd.isAgg] at ha
  | sl e => simp only [Rep] at h; obtain ⟨A, c, e, _⟩ := h; simp at e; subst e; rfl
  | nl => simp only [Rep, List.cons.injEq, and_true] at h; subst h; rfl
  | ptr e => simp only [Rep] at h; obtain ⟨b, o, ecs, e, _⟩ := h; simp at e; subst e; rfl
  | clo f c => simp only [Rep] at h; obtain ⟨ptrs, e, _⟩ := h; simp at e; subst e; rfl
  | self => simp [Rep] at h

theorem CellRel.one {T : Nat → Prop} {I : It} {w : World} {c : Cell} {v : Value} (h : CellRel T I w c v) : v.oneCell' = true := by
  cases c with
  | dead => exact h
  | val tv k x => exact Rep.one h.1 h.2
  | xsl tv e l => obtain ⟨⟨A, rfl⟩, _⟩ := h; rfl
  | dptr tv k x => obtain ⟨b, o, ecs, rfl, _⟩ := h; rfl
  | hdr k L off len => obtain ⟨A, c, rfl, _⟩ := h; rfl
  | bref B off => cases h; rfl
  | eref k L i fo => obtain ⟨b, base, _, rfl, _⟩ := h; rfl
  | clo f caps => cases h; rfl

def Cell.boxes : Cell → List Nat
  | .bref B _ => [B]
  | .clo _ caps => caps
  | _ => []

theorem CellRel.tr {T : Nat → Prop} {I I' : It} {w w' : World} {c : Cell} {v : Value} (h : CellRel T I w c v)
    (hD : ∀ b, I.D b → b < w.heap.size → I'.D b ∧ Keep w w' b) (hT : ∀ b, T b → b < w.heap.size → Keep w w' b) (hs : Shp w w')
    (hβ : ∀ L ∈ c.labels, I'.β L = I.β L ∧ I'.ln L = I.ln L) (hγ : ∀ B ∈ c.boxes, I'.γ B = I.γ B) : CellRel T I' w' c v := by
  have htop : ∀ tv b, topB T I.D tv b → b < w.heap.size → topB T I'.D tv b ∧ Keep w w' b := by
    intro tv b hb hl
    rcases hb with hb | ⟨ht, hb⟩
    · exact ⟨.inl (hD b hb hl).1, (hD b hb hl).2⟩
    · exact ⟨.inr ⟨ht, hb⟩, hT b hb hl⟩
  cases c with
  | dead => exact h
  | val tv k x => exact ⟨h.1, h.2.tr (htop tv) hD⟩
  | xsl tv e l => exact ⟨h.1, h.2.tr (htop tv) hD⟩
  | dptr tv k x =>
    obtain ⟨b, o, ecs, hv, ht, hb, hl, hr, hc⟩ := h
    exact ⟨b, o, ecs, hv, (htop tv b ht hb).1, Nat.lt_of_lt_of_le hb hs.1, hl, hr.tr hD hD, hc.keep (htop tv b ht hb).2⟩
  | hdr k L off len =>
    obtain ⟨A, c, hv, hl, hn, h⟩ := h
    obtain ⟨e0, e3⟩ := hβ L (by simp [Cell.labels])
    refine ⟨A, c, hv, hl, by rw [e3]; exact hn, h.imp id fun ⟨b, base, e1, e2, hr⟩ => ⟨b, base, ?_, e2, hr.shp hs⟩⟩
    rw [e0]; exact e1
  | bref B off => show v = _; rw [hγ B (by simp [Cell.boxes])]; exact h
  | eref k L i fo =>
    obtain ⟨b, base, e1, hv, hr⟩ := h
    exact ⟨b, base, by rw [(hβ L (by simp [Cell.labels])).1]; exact e1, hv, hr.shp hs⟩
  | clo f caps =>
    show v = _
    have : (caps.map fun B => boxPtr (I'.γ B)) = caps.map fun B => boxPtr (I.γ B) := List.map_congr_left fun B hB => by rw [hγ B hB]
    rw [this]; exact h

def CompP (R : Cell → Value → Prop) (x : Bool × List Cell) (v : Value) : Prop :=
  (x.1 = true ∧ ∃ vs : List Value, v = .agg vs.toArray ∧ All2 R x.2 vs) ∨ (x.1 = false ∧ ∃ c, x.2 = [c] ∧ R c v)

def SVP (R : Cell → Value → Prop) : SV → Value → Prop
  | .bad, _ => True
  | .one c, v => R c v
  | .agg cs, v => ∃ vs : List Value, v = .agg vs.toArray ∧ All2 R cs vs
  | .tup l, v => ∃ vs : List Value, v = .tuple vs.toArray ∧ All2 (CompP R) l vs
  | .gd b c, v => (b = true → R c v) ∧ (b = false → v = undef)

theorem CompP.map {R R' : Cell → Value → Prop} {f : Cell → Cell} (hf : ∀ c v, R c v → R' (f c) v) {x : Bool × List Cell} {v : Value} (h : CompP R x v) : CompP R' (x.1, x.2.map f) v := by
  rcases h with ⟨h1, vs, hv, ha⟩ | ⟨h1, c, hx, hr⟩
  · exact .inl ⟨h1, vs, hv, ha.map_left hf⟩
  · exact .inr ⟨h1, f c, by simp [hx], hf _ _ hr⟩

theorem SVP.map {R R' : Cell → Value → Prop} {f : Cell → Cell} (hf : ∀ c v, R c v → R' (f c) v) {x : SV} {v : Value} (h : SVP R x v) : SVP R' (x.mapC f) v := by
  cases x with
  | bad => trivial
  | one c => exact hf _ _ h
  | agg cs => obtain ⟨vs, hv, ha⟩ := h; exact ⟨vs, hv, ha.map_left hf⟩
  | tup l =>
    obtain ⟨vs, hv, ha⟩ := h
    refine ⟨vs, hv, ?_⟩
    have e : mapTup f l = l.map fun p => (p.1, p.2.map f) := by
      clear ha; induction l with
      | nil => rfl
      | cons p l ih => simp [mapTup, ih]
    show All2 _ (mapTup f l) vs
    rw [e]
    exact ha.map_left fun a b hab => hab.map hf
  | gd b c => exact ⟨fun hb => hf _ _ (h.1 hb), h.2⟩

theorem CompP.mono {R R' : Cell → Value → Prop} {x : Bool × List Cell} {v : Value} (h : CompP R x v) (hf : ∀ c v, R c v → R' c v) : CompP R' x v := by
  rcases h with ⟨h1, vs, hv, ha⟩ | ⟨h1, c, hx, hr⟩
  · exact .inl ⟨h1, vs, hv, ha.mono fun a b _ _ => hf a b⟩
  · exact .inr ⟨h1, c, hx, hf _ _ hr⟩

theorem SVP.mono {R R' : Cell → Value → Prop} {x : SV} {v : Value} (h : SVP R x v) (hf : ∀ c v, R c v → R' c v) : SVP R' x v := by
  cases x with
  | bad => trivial
  | one c => exact hf _ _ h
  | agg cs => obtain ⟨vs, hv, ha⟩ := h; exact ⟨vs, hv, ha.mono fun a b _ _ => hf a b⟩
  | tup l => obtain ⟨vs, hv, ha⟩ := h; exact ⟨vs, hv, ha.mono fun a b _ _ hab => hab.mono hf⟩
  | gd b c => exact ⟨fun hb => hf _ _ (h.1 hb), h.2⟩

def ObjRel (D : Nat → Prop) (w : World) (bo : Option (Nat × Nat)) (o : SObj) : Prop :=
  ∀ (i : Nat) (x : o.k.T), o.l[i]? = some x → ∃ b base ecs, bo = some (b, base) ∧ ecs.length = o.k.size ∧ Rep D D w o.k x ecs ∧ CellsAt w b (base + i * o.k.size) ecs

def BoxRel (T : Nat → Prop) (I : It) (w : World) (g : Nat) (x : Bool × List Cell) : Prop :=
  ∃ vs : List Value, All2 (CellRel T I w) x.2 vs ∧ CellsAt w g 0 vs ∧ Room w g x.2.length ∧ (x.1 = false → x.2.length = 1)

/-! what holds of a function that runs -/
structure Cx where
  w0 : World
  T : Nat → Prop
  D0 : Nat → Prop
  Mv : Nat → Prop
  Mm : Nat → Prop
  β0 : Nat → Option (Nat × Nat)
  γ0 : Nat → Nat
  df : List Deferred
  hT : ∀ b, T b → b < w0.heap.size ∧ ¬ Mv b ∧ ¬ Mm b
  hD : ∀ b, D0 b → b < w0.heap.size ∧ ¬ Mv b ∧ ¬ Mm b
  hv : ∀ b, Mv b → b < w0.heap.size ∧ ¬ Mm b
  hm : ∀ b, Mm b → b < w0.heap.size

structure Wld (X : Cx) (D : Nat → Prop) (w : World) : Prop where
  shp : Shp X.w0 w
  frm : ∀ b, b < X.w0.heap.size → ¬ X.Mv b → ¬ X.Mm b → Same X.w0 w b
  dlt : ∀ b, D b → b < w.heap.size
  d0 : ∀ b, X.D0 b → D b
  dn : ∀ b, D b → X.D0 b ∨ X.w0.heap.size ≤ b ∨ X.Mv b

structure OwnB (X : Cx) (D : Nat → Prop) (w : World) (b : Nat) : Prop where
  lt : b < w.heap.size
  nd : ¬ D b
  nt : ¬ X.T b

structure LabOk (X : Cx) (D : Nat → Prop) (w : World) (L : Nat) (bo : Option (Nat × Nat)) : Prop where
  own : ∀ b o, bo = some (b, o) → OwnB X D w b
  new : ∀ b o, bo = some (b, o) → L < PL → X.w0.heap.size ≤ b ∨ X.Mv b
  old : ∀ b o, bo = some (b, o) → PL ≤ L → X.Mm b
  fix : PL ≤ L → bo = X.β0 L

structure BoxOk (X : Cx) (D : Nat → Prop) (w : World) (B : Nat) (b : Nat) : Prop where
  own : OwnB X D w b
  new : B < PL → X.w0.heap.size ≤ b
  old : PL ≤ B → X.Mm b
  fix : PL ≤ B → b = X.γ0 B

structure Inv (X : Cx) (I : It) (st : St) (a : Act) (w : World) : Prop where
  wld : Wld X I.D w
  n : st.n = a.tmps.size
  nb : st.n ≤ 100000
  df : a.defers = X.df
  t : ∀ i v, aget st.t i = some v → SVP (CellRel X.T I w) v (a.tmps.getD i undef)
  s : ∀ L o, aget st.s L = some o → LabOk X I.D w L (I.β L) ∧ ObjRel I.D w (I.β L) o ∧ o.l.length = I.ln L
  sd : ∀ L L' o o' b x x', aget st.s L = some o → aget st.s L' = some o' → I.β L = some (b, x) → I.β L' = some (b, x') → L = L'
  b : ∀ B x, aget st.b B = some x → BoxOk X I.D w B (I.γ B) ∧ BoxRel X.T I w (I.γ B) x
  bd : ∀ B B' x x', aget st.b B = some x → aget st.b B' = some x' → I.γ B = I.γ B' → B = B'
  sb : ∀ L o B x b y, aget st.s L = some o → aget st.b B = some x → I.β L = some (b, y) → I.γ B ≠ b

def Good (X : Cx) (st : St) (a : Act) (w : World) : Prop := ∃ I, Inv X I st a w

theorem ObjRel.tr {D D' : Nat → Prop} {w w' : World} {bo : Option (Nat × Nat)} {o : SObj} (h : ObjRel D w bo o)
    (hD : ∀ b, D b → b < w.heap.size → D' b ∧ Keep w w' b) (hk : ∀ b x, bo = some (b, x) → Keep w w' b) : ObjRel D' w' bo o := by
  intro i x hx
  obtain ⟨b, base, ecs, hb, hl, hr, hc⟩ := h i x hx
  exact ⟨b, base, ecs, hb, hl, hr.tr hD hD, hc.keep (hk b base hb)⟩

theorem BoxRel.tr {T : Nat → Prop} {I I' : It} {w w' : World} {g : Nat} {x : Bool × List Cell} {f : Cell → Cell} (h : BoxRel T I w g x) (hf : ∀ c v, CellRel T I w c v → CellRel T I' w' (f c) v)
    (hk : Keep w w' g) (hs : Shp w w') : BoxRel T I' w' g (mapBox f x) := by
  obtain ⟨vs, ha, hc, hr, h1⟩ := h
  exact ⟨vs, ha.map_left hf, hc.keep hk, by simpa [mapBox] using hr.shp hs, by simpa [mapBox] using h1⟩

theorem OwnB.tr {X : Cx} {D D' : Nat → Prop} {w w' : World} {b : Nat} (h : OwnB X D w b) (hw : w.heap.size ≤ w'.heap.size) (hd : D' b → D b) : OwnB X D' w' b :=
  ⟨Nat.lt_of_lt_of_le h.lt hw, fun h' => h.nd (hd h'), h.nt⟩

end Go.Ev
