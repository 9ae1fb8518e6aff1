/- What a row's reading of an argument gives: the argument stands for a plain value. -/
import Derived.Test.YtgjinkacngkgdaaDoorUBase
import Derived.Test.YtgjinkacngkgdaaDoorRows
import Derived.Deep.Slices
import Derived.ChangeArms
import Derived.DataReads
namespace Go.Ev
open Go.Proofs Go.Proofs.YtgjinkacngkgdaaDoor
set_option linter.unusedSimpArgs false
set_option linter.unusedVariables false

/-- shapes of types -/
inductive Sh where
  | int (k : IntKind)
  | bool
  | str
  | sl (e : Sh)
  | st (fs : Sh)
  | nil
  | cons (f r : Sh)

def Sh.isSt : Sh → Bool
  | .st _ => true
  | _ => false

def Sh.kds : Sh → List Kd
  | .int k => [.int k]
  | .bool => [.bool]
  | .str => [.str]
  | .sl e => [.sl (kOf e.isSt e.kds)]
  | .st fs => fs.kds
  | .nil => []
  | .cons f r => f.kds ++ r.kds

mutual
def IsSh (P : Program) : Sh → TypeId → Prop
  | .int k, t => P.underlying t = some (.int k)
  | .bool, t => P.underlying t = some .bool
  | .str, t => P.underlying t = some .string
  | .sl e, t => ∃ et, P.underlying t = some (.slice et) ∧ IsSh P e et ∧ P.cellsOf et = e.kds.length ∧ 0 < e.kds.length
  | .st fs, t => ∃ fields, P.underlying t = some (.struct fields) ∧ IsFs P fs fields.toList 0 ∧ P.cellsOf t = fs.kds.length
  | .nil, _ => False
  | .cons _ _, _ => False
def IsFs (P : Program) : Sh → List Field → Nat → Prop
  | .nil, [], _ => True
  | .cons f r, fd :: fds, off => IsSh P f fd.type ∧ fd.offset = off ∧ P.cellsOf fd.type = f.kds.length ∧ IsFs P r fds (off + f.kds.length)
  | _, _, _ => False
end

mutual
def chkSh (P : Program) : Sh → TypeId → Bool
  | .int k, t => match P.underlying t with | some (.int k') => decide (k' = k) | _ => false
  | .bool, t => match P.underlying t with | some .bool => true | _ => false
  | .str, t => match P.underlying t with | some .string => true | _ => false
  | .sl e, t => match P.underlying t with | some (.slice et) => chkSh P e et && (P.cellsOf et == e.kds.length && decide (0 < e.kds.length)) | _ => false
  | .st fs, t => match P.underlying t with | some (.struct fields) => chkFs P fs fields.toList 0 && P.cellsOf t == fs.kds.length | _ => false
  | .nil, _ => false
  | .cons _ _, _ => false
def chkFs (P : Program) : Sh → List Field → Nat → Bool
  | .nil, [], _ => true
  | .cons f r, fd :: fds, off => chkSh P f fd.type && (fd.offset == off && (P.cellsOf fd.type == f.kds.length && chkFs P r fds (off + f.kds.length)))
  | _, _, _ => false
end

theorem chk_ok {P : Program} : ∀ (s : Sh), (∀ t, chkSh P s t = true → IsSh P s t) ∧ (∀ l off, chkFs P s l off = true → IsFs P s l off) := by
  intro s
  induction s with
  | int k =>
    refine ⟨fun t h => ?_, fun l off h => ?_⟩
    · simp only [chkSh] at h
      split at h
      · rename_i k' hk
        simp only [IsSh, hk]
        rw [of_decide_eq_true h]
      · cases h
    · simp [chkFs] at h
  | bool =>
    refine ⟨fun t h => ?_, fun l off h => ?_⟩
    · simp only [chkSh] at h
      split at h
      · rename_i hk; simp only [IsSh, hk]
      · cases h
    · simp [chkFs] at h
  | str =>
    refine ⟨fun t h => ?_, fun l off h => ?_⟩
    · simp only [chkSh] at h
      split at h
      · rename_i hk; simp only [IsSh, hk]
      · cases h
    · simp [chkFs] at h
  | sl e ih =>
    refine ⟨fun t h => ?_, fun l off h => ?_⟩
    · simp only [chkSh] at h
      split at h
      · rename_i et hk
        simp only [Bool.and_eq_true, beq_iff_eq, decide_eq_true_eq] at h
        simp only [IsSh]
        exact ⟨et, hk, ih.1 et h.1, h.2.1, h.2.2⟩
      · cases h
    · simp [chkFs] at h
  | st fs ih =>
    refine ⟨fun t h => ?_, fun l off h => ?_⟩
    · simp only [chkSh] at h
      split at h
      · rename_i fields hk
        simp only [Bool.and_eq_true, beq_iff_eq] at h
        simp only [IsSh]
        exact ⟨fields, hk, ih.2 _ _ h.1, h.2⟩
      · cases h
    · simp [chkFs] at h
  | nil =>
    refine ⟨fun t h => by simp [chkSh] at h, fun l off h => ?_⟩
    cases l with
    | nil => simp [IsFs]
    | cons _ _ => simp [chkFs] at h
  | cons f r ihf ihr =>
    refine ⟨fun t h => by simp [chkSh] at h, fun l off h => ?_⟩
    cases l with
    | nil => simp [chkFs] at h
    | cons fd fds =>
      simp only [chkFs, Bool.and_eq_true, beq_iff_eq] at h
      simp only [IsFs]
      exact ⟨ihf.1 _ h.1, h.2.1, h.2.2.1, ihr.2 _ _ h.2.2.2⟩

def sizeL {α : Type} (f : α → Nat) : List α → Nat
  | [] => 0
  | x :: l => f x + sizeL f l
def allL {α : Type} (f : α → Bool) : List α → Bool
  | [] => true
  | x :: l => f x && allL f l

/-- how much a value holds -/
def sizeK : (k : Kd) → k.T → Nat
  | .str, s => List.length s + 1
  | .pair a b, x => sizeK a x.1 + sizeK b x.2
  | .sl e, l => sizeL (sizeK e) l + 1
  | .int _, _ => 1
  | .bool, _ => 1
  | _, _ => 0

/-- its numbers are the machine's -/
def rangeK : (k : Kd) → k.T → Bool
  | .int k, n => (Lit.int k n).wf
  | .pair a b, x => rangeK a x.1 && rangeK b x.2
  | .sl e, l => allL (rangeK e) l
  | _, _ => true

theorem rep_append {T D : Nat → Prop} {w : World} : ∀ {a b : List Kd} {x : (prodK a).T} {y : (prodK b).T} {c d : List Value}, Rep T D w (prodK a) x c → Rep T D w (prodK b) y d →
    ∃ z : (prodK (a ++ b)).T, Rep T D w (prodK (a ++ b)) z (c ++ d) ∧ sizeK (prodK (a ++ b)) z = sizeK (prodK a) x + sizeK (prodK b) y ∧ rangeK (prodK (a ++ b)) z = (rangeK (prodK a) x && rangeK (prodK b) y)
  | [], b, x, y, c, d, h, h' => by
    have : c = [] := by simpa [prodK, Rep] using h
    subst this
    exact ⟨y, h', by simp [prodK, sizeK], by simp [prodK, rangeK]⟩
  | k :: a, b, x, y, c, d, h, h' => by
    have h0 : ∃ c1 c2, c = c1 ++ c2 ∧ c1.length = k.size ∧ Rep T D w k x.1 c1 ∧ Rep T D w (prodK a) x.2 c2 := by simpa only [prodK, Rep] using h
    obtain ⟨c1, c2, rfl, hl, h1, h2⟩ := h0
    obtain ⟨z, z1, z2, z3⟩ := rep_append h2 h'
    refine ⟨(x.1, z), ?_, ?_, ?_⟩
    · show Rep T D w (.pair k (prodK (a ++ b))) (x.1, z) (c1 ++ c2 ++ d)
      simp only [Rep]
      exact ⟨c1, c2 ++ d, by simp, hl, h1, z1⟩
    · show sizeK k x.1 + sizeK (prodK (a ++ b)) z = sizeK k x.1 + sizeK (prodK a) x.2 + sizeK (prodK b) y
      omega
    · show (rangeK k x.1 && rangeK (prodK (a ++ b)) z) = (rangeK k x.1 && rangeK (prodK a) x.2 && rangeK (prodK b) y)
      rw [z3, Bool.and_assoc]

/-- one cell -/
theorem rep_unit {T D : Nat → Prop} {w : World} {k : Kd} {x : k.T} {c : List Value} (h : Rep T D w k x c) (hl : c.length = k.size) : Rep T D w (prodK [k]) (x, ()) c := by
  show Rep T D w (.pair k .unit) (x, ()) c
  simp only [Rep]
  exact ⟨c, [], by simp, hl, h, rfl⟩

theorem kds_one : ∀ (s : Sh), s.isSt = false → s ≠ .nil → (∀ f r, s ≠ .cons f r) → ∃ k, s.kds = [k]
  | .int k, _, _, _ => ⟨_, rfl⟩
  | .bool, _, _, _ => ⟨_, rfl⟩
  | .str, _, _, _ => ⟨_, rfl⟩
  | .sl e, _, _, _ => ⟨_, rfl⟩
  | .st _, h, _, _ => by cases h
  | .nil, _, h, _ => absurd rfl h
  | .cons f r, _, _, h => absurd rfl (h f r)

theorem isSh_ne {P : Program} {s : Sh} {t : TypeId} (h : IsSh P s t) : s ≠ .nil ∧ ∀ f r, s ≠ .cons f r := by
  constructor
  · rintro rfl; simp [IsSh] at h
  · rintro f r rfl; simp [IsSh] at h

/-- a value of a shape as one of its kind -/
theorem rep_kOf {T D : Nat → Prop} {w : World} {P : Program} {s : Sh} {t : TypeId} (hs : IsSh P s t) {x : (prodK s.kds).T} {c : List Value} (h : Rep T D w (prodK s.kds) x c) :
    ∃ y : (kOf s.isSt s.kds).T, Rep T D w (kOf s.isSt s.kds) y c ∧ sizeK _ y = sizeK _ x ∧ rangeK _ y = rangeK _ x := by
  cases hi : s.isSt with
  | true => exact ⟨x, h, rfl, rfl⟩
  | false =>
    obtain ⟨k, hk⟩ := kds_one s hi (isSh_ne hs).1 (isSh_ne hs).2
    revert x
    rw [hk]
    intro x h
    have h0 : ∃ c1 c2, c = c1 ++ c2 ∧ c1.length = k.size ∧ Rep T D w k x.1 c1 ∧ c2 = [] := by simpa only [prodK, Rep] using h
    obtain ⟨c1, c2, rfl, hl, h1, rfl⟩ := h0
    refine ⟨x.1, (by rw [List.append_nil]; exact h1), ?_, ?_⟩
    · show sizeK k x.1 = sizeK k x.1 + 0
      rfl
    · show rangeK k x.1 = (rangeK k x.1 && true)
      rw [Bool.and_true]

theorem sizeL_map {α β : Type} (f : β → Nat) (g : α → β) : ∀ (l : List α), sizeL f (l.map g) = sizeL (fun a => f (g a)) l
  | [] => rfl
  | a :: l => by simp only [List.map_cons, sizeL, sizeL_map f g l]
theorem allL_map {α β : Type} {f : β → Bool} {g : α → β} : ∀ {l : List α}, (∀ a ∈ l, f (g a) = true) → allL f (l.map g) = true
  | [], _ => rfl
  | a :: l, h => by
    simp only [List.map_cons, allL, Bool.and_eq_true]
    exact ⟨h a (by simp), allL_map fun b hb => h b (by simp [hb])⟩
theorem sizeL_bulk {H α : Type} {f : α → Nat} {D : α → DataW H} : ∀ {l : List α}, (∀ a ∈ l, f a ≤ Rows.uptoBulk (D a)) → sizeL f l ≤ Rows.uptoBulkAll (l.map D)
  | [], _ => Nat.zero_le _
  | a :: l, h => by
    have h1 := h a (by simp)
    have h2 := sizeL_bulk (l := l) fun b hb => h b (by simp [hb])
    simp only [List.map_cons, sizeL, Rows.uptoBulkAll]
    omega

theorem cells_get {w : World} {b : Nat} {a : Addr} {n : Nat} {cs : List Value} (h : w.cells? b a n = some cs) : cs.length = n ∧ ∀ i v, cs[i]? = some v → w.cell? (a.add i) = some v := by
  unfold World.cells? at h
  split at h
  · have hl := mapM_some_length h
    have hl' : cs.length = n := by simpa using hl
    refine ⟨hl', fun i v hv => ?_⟩
    have hi : i < n := by have := (List.getElem?_eq_some_iff.1 hv).1; omega
    have := mapM_some_get h i i (by simp [hi])
    rw [this, hv]
  · cases h

theorem lt_of_cell {w : World} {a : Addr} {v : Value} (h : w.cell? a = some v) : a.block < w.heap.size := by
  unfold World.cell? at h
  rcases Nat.lt_or_ge a.block w.heap.size with h' | h'
  · exact h'
  · rw [Array.getElem?_eq_none h'] at h; cases h

section
variable {H : Type} {enc : TypeId × Value → H} {P : Program} {w : World} {spare : Nat → Bool} {held : Bool}

def Old (w : World) (b : Nat) : Prop := b < w.heap.size

theorem open_sh : ∀ (s : Sh),
    (∀ (t : TypeId) (fuel : Nat) (cs : List Value) (d : DataW H) (ps : List MemPlace), IsSh P s t → DataW.trod enc P w 0 spare held fuel t cs = some (d, ps) →
      ∃ x : (prodK s.kds).T, Rep (Old w) (Old w) w (prodK s.kds) x cs ∧ rangeK _ x = true ∧ sizeK _ x ≤ Rows.uptoBulk d) ∧
    (∀ (fields : List Field) (off n : Nat) (cs : List Value) (xs : List (DataW H × List MemPlace)), IsFs P s fields off → cs.length = off + s.kds.length → xs.length = fields.length →
      (∀ (i : Nat) (f : Field), fields[i]? = some f → DataW.trod enc P w 0 spare held n f.type ((cs.drop f.offset).take (P.cellsOf f.type)) = xs[i]?) →
      ∃ x : (prodK s.kds).T, Rep (Old w) (Old w) w (prodK s.kds) x (cs.drop off) ∧ rangeK _ x = true ∧ sizeK _ x ≤ Rows.uptoBulkAll (xs.map (·.1))) := by
  intro s
  induction s with
  | int k =>
    refine ⟨fun t fuel cs d ps hs h => ?_, fun fields off n cs xs hs => ?_⟩
    · simp only [IsSh] at hs
      obtain ⟨m, rfl, he, hw⟩ := DataW.trod_int hs h
      cases he
      exact ⟨(m, ()), rep_unit (k := .int k) (by simp [Rep]) rfl, by simp [rangeK, prodK, Sh.kds, hw], by simp [sizeK, prodK, Sh.kds, Rows.uptoBulk]⟩
    · simp only [IsFs] at hs
  | bool =>
    refine ⟨fun t fuel cs d ps hs h => ?_, fun fields off n cs xs hs => ?_⟩
    · simp only [IsSh] at hs
      obtain ⟨m, rfl, he⟩ := DataW.trod_bool hs h
      cases he
      exact ⟨(m, ()), rep_unit (k := .bool) (by simp [Rep]) rfl, by simp [rangeK, prodK, Sh.kds], by simp [sizeK, prodK, Sh.kds, Rows.uptoBulk]⟩
    · simp only [IsFs] at hs
  | str =>
    refine ⟨fun t fuel cs d ps hs h => ?_, fun fields off n cs xs hs => ?_⟩
    · simp only [IsSh] at hs
      obtain ⟨m, rfl, he, hw⟩ := DataW.trod_string hs h
      cases he
      exact ⟨(m.data.toList, ()), rep_unit (k := .str) (by simp [Rep]) rfl, by simp [rangeK, prodK, Sh.kds], by simp [sizeK, prodK, Sh.kds, Rows.uptoBulk]⟩
    · simp only [IsFs] at hs
  | sl e ih =>
    refine ⟨fun t fuel cs d ps hs h => ?_, fun fields off n cs xs hs => ?_⟩
    · simp only [IsSh] at hs
      obtain ⟨et, ht, he, hc, hpos⟩ := hs
      rcases Deep.open_slice ht h with ⟨rfl, hd⟩ | ⟨a, len, cap, m, n, Df, Pl, rfl, _, hlc, _, hm, hd, hel⟩
      · cases hd
        refine ⟨(([] : List (kOf e.isSt e.kds).T), ()), rep_unit (k := .sl (kOf e.isSt e.kds)) ?_ rfl, rfl, ?_⟩
        · simp only [Rep]
          exact ⟨none, 0, rfl, Nat.le_refl _, fun i x hx => by simp at hx⟩
        · show 1 + 0 ≤ Rows.uptoBulk DataW.nil
          simp [Rows.uptoBulk]
      · cases hd
        have hlm : len ≤ m := by rw [hm]; split <;> omega
        have hex : ∀ i, ∃ y : (kOf e.isSt e.kds).T, i < len → (∃ ecs, ecs.length = e.kds.length ∧ (∀ j v, ecs[j]? = some v → w.cell? ((a.add (i * P.cellsOf et)).add j) = some v) ∧ Rep (Old w) (Old w) w (kOf e.isSt e.kds) y ecs) ∧ rangeK _ y = true ∧ sizeK _ y ≤ Rows.uptoBulk (Df i) := by
          intro i
          by_cases hi : i < len
          · obtain ⟨cs', h1, h2⟩ := hel i (by omega)
            obtain ⟨x, x1, x2, x3⟩ := ih.1 et n cs' (Df i) (Pl i) he h2
            obtain ⟨y, y1, y2, y3⟩ := rep_kOf he x1
            obtain ⟨g1, g2⟩ := cells_get h1
            exact ⟨y, fun _ => ⟨⟨cs', by rw [g1, hc], g2, y1⟩, by rw [y3]; exact x2, by rw [y2]; exact x3⟩⟩
          · exact ⟨dft _, fun q => absurd q hi⟩
        obtain ⟨f, hf⟩ := Classical.axiomOfChoice hex
        refine ⟨((List.range len).map f, ()), rep_unit (k := .sl (kOf e.isSt e.kds)) ?_ rfl, ?_, ?_⟩
        · simp only [Rep]
          refine ⟨some a, cap, by simp, by simpa using hlc, fun i x hx => ?_⟩
          have hi : i < len := by
            have := (List.getElem?_eq_some_iff.1 hx).1
            simpa using this
          have hxe : x = f i := by
            rw [List.getElem?_map, List.getElem?_range hi] at hx
            simpa using hx.symm
          subst hxe
          obtain ⟨⟨ecs, e1, e2, e3⟩, _, _⟩ := hf i hi
          have hsz : ecs.length = (kOf e.isSt e.kds).size := rep_length e3
          have h0 : ∃ v, ecs[0]? = some v := ⟨ecs[0]'(by omega), List.getElem?_eq_getElem _⟩
          obtain ⟨v0, hv0⟩ := h0
          have hc0 := e2 0 v0 hv0
          have hlt := lt_of_cell hc0
          have hsp' : a.spot = none := by
            obtain ⟨⟨ecs', e1', e2', _⟩, _, _⟩ := hf 0 (by omega)
            have hv := e2' 0 (ecs'[0]'(by omega)) (List.getElem?_eq_getElem _)
            have ha : (a.add (0 * P.cellsOf et)).add 0 = a := by simp [Addr.add]
            rw [ha] at hv
            exact World.cell?_spot hv
          obtain ⟨b, o, sp⟩ := a
          simp only at hsp'
          subst hsp'
          have hadd : ∀ k, (⟨b, o, none⟩ : Addr).add k = ⟨b, o + k, none⟩ := by
            intro k
            unfold Addr.add
            split
            · rename_i hk; simp [hk]
            · rfl
          refine ⟨b, o, ecs, rfl, ?_, ?_, hsz, e3, fun j v hj => ?_⟩
          · simp only [hadd] at hlt; exact hlt
          · simp only [hadd] at hlt; exact hlt
          · have := e2 j v hj
            rw [hadd] at this
            have hadd2 : (⟨b, o + i * P.cellsOf et, none⟩ : Addr).add j = ⟨b, o + i * P.cellsOf et + j, none⟩ := by
              unfold Addr.add
              split
              · rename_i hk; simp [hk]
              · rfl
            rw [hadd2] at this
            rw [← hsz, e1, ← hc]
            exact this
        · show (allL (rangeK (kOf e.isSt e.kds)) ((List.range len).map f) && true) = true
          rw [Bool.and_true]
          exact allL_map fun i hi => (hf i (List.mem_range.1 hi)).2.1
        · show sizeL (sizeK (kOf e.isSt e.kds)) ((List.range len).map f) + 1 + 0 ≤ _
          rw [sizeL_map]
          have := sizeL_bulk (l := List.range len) (f := fun i => sizeK (kOf e.isSt e.kds) (f i)) (D := Df) fun i hi => (hf i (List.mem_range.1 hi)).2.2
          simp only [Rows.uptoBulk]
          omega
    · simp only [IsFs] at hs
  | st fs ih =>
    refine ⟨fun t fuel cs d ps hs h => ?_, fun fields off n cs xs hs => ?_⟩
    · simp only [IsSh] at hs
      obtain ⟨fields, ht, hf, hc⟩ := hs
      obtain ⟨xs, n, rfl, he, hl, hxl, hx⟩ := DataW.trod_struct ht h
      cases he
      obtain ⟨x, h1, h2, h3⟩ := ih.2 fields.toList 0 n cs xs hf (by rw [hl, hc, Nat.zero_add]) (by simpa using hxl) (fun i f hf' => hx i f (by simpa using hf'))
      exact ⟨x, h1, h2, by show sizeK (prodK fs.kds) x ≤ _; simp only [Rows.uptoBulk]; omega⟩
    · simp only [IsFs] at hs
  | nil =>
    refine ⟨fun t fuel cs d ps hs h => ?_, fun fields off n cs xs hs hl hxl hx => ?_⟩
    · simp only [IsSh] at hs
    · refine ⟨(), ?_, rfl, Nat.zero_le _⟩
      have : cs.drop off = [] := List.drop_eq_nil_of_le (by simp only [Sh.kds, List.length_nil] at hl; omega)
      rw [this]
      show Rep _ _ w .unit () []
      simp [Rep]
  | cons f r ihf ihr =>
    refine ⟨fun t fuel cs d ps hs h => ?_, fun fields off n cs xs hs hl hxl hx => ?_⟩
    · simp only [IsSh] at hs
    · cases fields with
      | nil => simp only [IsFs] at hs
      | cons fd fds =>
        simp only [IsFs] at hs
        obtain ⟨h1, h2, h3, h4⟩ := hs
        cases xs with
        | nil => simp at hxl
        | cons y ys =>
          simp only [Sh.kds, List.length_append] at hl
          have hy := hx 0 fd rfl
          rw [List.getElem?_cons_zero] at hy
          obtain ⟨x1, a1, a2, a3⟩ := ihf.1 fd.type n _ y.1 y.2 h1 hy
          obtain ⟨x2, b1, b2, b3⟩ := ihr.2 fds (off + f.kds.length) n cs ys h4 (by omega) (by simpa using hxl) (fun i g hg => by
            have := hx (i + 1) g (by simpa using hg)
            simpa using this)
          obtain ⟨z, z1, z2, z3⟩ := rep_append a1 b1
          refine ⟨z, ?_, (by show rangeK (prodK (f.kds ++ r.kds)) z = true; rw [z3, a2, b2]; rfl), ?_⟩
          · have : cs.drop off = (cs.drop fd.offset).take (P.cellsOf fd.type) ++ cs.drop (off + f.kds.length) := by
              rw [h2, h3, ← List.drop_drop, List.take_append_drop]
            rw [this]
            exact z1
          · show sizeK (prodK (f.kds ++ r.kds)) z ≤ _
            rw [z2]
            simp only [List.map_cons, Rows.uptoBulkAll]
            omega
end
end Go.Ev
