/- What becomes of a state when slots are written, objects and boxes given up, renamed, frozen, forgotten. -/
import Derived.Test.YtgjinkacngkgdaaDoorEvD
namespace Go.Ev
set_option linter.unusedVariables false

variable {X : Cx} {I : It} {st st' : St} {a : Act} {w w' : World}

theorem Act.getD_put (a : Act) (d i : Nat) (v : Value) (h : d < a.tmps.size) : (a.put (some d) v).tmps.getD i undef = if d = i then v else a.tmps.getD i undef := by
  simp only [Act.put, Array.getD_eq_getD_getElem?, Array.getElem?_setIfInBounds]
  by_cases e : d = i
  · subst e; simp [h]
  · simp [e]

theorem Inv.put (h : Inv X I st a w) {d : Nat} {sv : SV} {v : Value} (hd : d < st.n) (hv : SVP (CellRel X.T I w) sv v) :
    Inv X I ⟨st.n, aset st.t d sv, st.s, st.b⟩ (a.put (some d) v) w where
  wld := h.wld
  n := by simp [Act.put, h.n]
  nb := h.nb
  df := h.df
  t := by
    intro i u hu
    rw [Act.getD_put a d i v (by rw [← h.n]; exact hd)]
    rw [aget_aset] at hu
    split at hu
    · rename_i e; cases hu; simpa [e] using hv
    · rename_i e; simpa [e] using h.t i u hu
  s := h.s
  sd := h.sd
  b := h.b
  bd := h.bd
  sb := h.sb

theorem Inv.setT (h : Inv X I st a w) {d : Option Nat} {sv : SV} {v : Value} (hv : SVP (CellRel X.T I w) sv v) (e : st.setT sv d = some st') :
    Inv X I st' (a.put d v) w := by
  cases d with
  | none => cases e; exact h
  | some d =>
    obtain ⟨hd, e⟩ := ifB_some e
    cases e
    exact h.put (by simpa using hd) hv

/-! cells without a label, without a box -/
theorem CellRel.killL {T : Nat → Prop} {c : Cell} {v : Value} {I' : It} {L : Nat} (h : CellRel T I w c v) (hD : I'.D = I.D) (hβ : ∀ l, l ≠ L → I'.β l = I.β l ∧ I'.ln l = I.ln l) (hγ : I'.γ = I.γ) :
    CellRel T I' w (killL L c) v := by
  have base : (∀ l ∈ c.labels, l ≠ L) → CellRel T I' w c v := fun hl =>
    h.tr (fun b hb hlt => ⟨by rw [hD]; exact hb, ⟨hlt, fun _ _ x => x⟩⟩) (fun b _ hlt => ⟨hlt, fun _ _ x => x⟩) (Shp.refl w) (fun l hm => hβ l (hl l hm)) (fun B _ => by rw [hγ])
  cases c with
  | hdr k l off len =>
    simp only [Ev.killL, ifB_ite, beq_iff_eq]
    split
    · exact h.one
    · rename_i hne; exact base (by simpa [Cell.labels] using hne)
  | eref k l i fo =>
    simp only [Ev.killL, ifB_ite, beq_iff_eq]
    split
    · exact h.one
    · rename_i hne; exact base (by simpa [Cell.labels] using hne)
  | _ => exact base (by simp [Cell.labels])

theorem CellRel.killBC {T : Nat → Prop} {c : Cell} {v : Value} {I' : It} {B : Nat} (h : CellRel T I w c v) (hD : I'.D = I.D) (hβ : I'.β = I.β) (hln : I'.ln = I.ln) (hγ : ∀ b, b ≠ B → I'.γ b = I.γ b) :
    CellRel T I' w (killBC B c) v := by
  have base : (∀ b ∈ c.boxes, b ≠ B) → CellRel T I' w c v := fun hl =>
    h.tr (fun b hb hlt => ⟨by rw [hD]; exact hb, ⟨hlt, fun _ _ x => x⟩⟩) (fun b _ hlt => ⟨hlt, fun _ _ x => x⟩) (Shp.refl w) (fun l hm => by rw [hβ, hln]; exact ⟨rfl, rfl⟩) (fun b hm => hγ b (hl b hm))
  cases c with
  | bref b o =>
    simp only [Ev.killBC, ifB_ite, beq_iff_eq]
    split
    · exact h.one
    · rename_i hne; exact base (by simpa [Cell.boxes] using hne)
  | clo f caps =>
    simp only [Ev.killBC, ifB_ite, List.contains_iff_mem]
    split
    · exact h.one
    · rename_i hne; exact base (by intro b hb e; subst e; exact hne hb)
  | _ => exact base (by simp [Cell.boxes])

theorem BoxRel.map {T : Nat → Prop} {I I' : It} {w : World} {g : Nat} {x : Bool × List Cell} {f : Cell → Cell} (h : BoxRel T I w g x) (hf : ∀ c v, CellRel T I w c v → CellRel T I' w (f c) v) :
    BoxRel T I' w g (mapBox f x) := by
  obtain ⟨vs, ha, hc, hr, h1⟩ := h
  exact ⟨vs, ha.map_left hf, hc, by simpa [mapBox] using hr, by simpa [mapBox] using h1⟩

/-- a map of all cells; the objects and the world stay, apart from objects that are given up -/
theorem Inv.mapC (h : Inv X I st a w) (f : Cell → Cell) {I' : It} (hD : I'.D = I.D) (hγ : I'.γ = I.γ)
    (hc : ∀ c v, CellRel X.T I w c v → CellRel X.T I' w (f c) v) {S : List (Nat × SObj)}
    (hS : ∀ L o, aget S L = some o → aget st.s L = some o ∧ I'.β L = I.β L ∧ I'.ln L = I.ln L) : Inv X I' ((st.mapC f).setS S) a w where
  wld := by rw [hD]; exact h.wld
  n := h.n
  nb := h.nb
  df := h.df
  t := by
    intro i v hv
    simp only [St.mapC, St.setS, aget_amap] at hv
    cases hq : aget st.t i with
    | none => simp [hq] at hv
    | some u => simp [hq] at hv; subst hv; exact (h.t i u hq).map hc
  s := by
    intro L o ho
    obtain ⟨h1, h2, h3⟩ := hS L o ho
    rw [h2, h3, hD]; exact h.s L o h1
  sd := by
    intro L L' o o' b x x' ho ho' e e'
    obtain ⟨h1, h2, _⟩ := hS L o ho
    obtain ⟨h1', h2', _⟩ := hS L' o' ho'
    rw [h2] at e; rw [h2'] at e'
    exact h.sd L L' o o' b x x' h1 h1' e e'
  b := by
    intro B x hx
    simp only [St.mapC, St.setS, aget_amap] at hx
    cases hq : aget st.b B with
    | none => simp [hq] at hx
    | some y => simp [hq] at hx; subst hx; rw [hD, hγ]; exact ⟨(h.b B y hq).1, (h.b B y hq).2.map hc⟩
  bd := by
    intro B B' x x' hx hx' e
    simp only [St.mapC, St.setS, aget_amap] at hx hx'
    cases hq : aget st.b B with
    | none => simp [hq] at hx
    | some y =>
      cases hq' : aget st.b B' with
      | none => simp [hq'] at hx'
      | some y' => rw [hγ] at e; exact h.bd B B' y y' hq hq' e
  sb := by
    intro L o B x b y ho hx e
    obtain ⟨h1, h2, _⟩ := hS L o ho
    simp only [St.mapC, St.setS, aget_amap] at hx
    cases hq : aget st.b B with
    | none => simp [hq] at hx
    | some z => rw [hγ]; rw [h2] at e; exact h.sb L o B z b y h1 hq e

theorem aget_adel_some {α : Type} {l : List (Nat × α)} {i j : Nat} {x : α} (h : aget (adel l i) j = some x) : j ≠ i ∧ aget l j = some x := by
  rw [aget_adel] at h
  split at h
  · cases h
  · rename_i hne; exact ⟨fun e => hne e.symm, h⟩

theorem Inv.kill (h : Inv X I st a w) (L : Nat) {I' : It} (hD : I'.D = I.D) (hβ : ∀ l, l ≠ L → I'.β l = I.β l ∧ I'.ln l = I.ln l) (hγ : I'.γ = I.γ) : Inv X I' (st.kill L) a w :=
  h.mapC (killL L) hD hγ (fun c v hc => hc.killL hD hβ hγ) fun l o ho => by
    obtain ⟨h1, h2⟩ := aget_adel_some ho
    exact ⟨h2, hβ l h1⟩

theorem Inv.kill' (h : Inv X I st a w) (L : Nat) : Inv X I (st.kill L) a w := h.kill L rfl (fun _ _ => ⟨rfl, rfl⟩) rfl

theorem St.kill_s (st : St) (L l : Nat) : aget (st.kill L).s l = if L = l then none else aget st.s l := by
  simp [St.kill, St.mapC, St.setS, aget_adel]

theorem St.kill_b (st : St) (L B : Nat) : aget (st.kill L).b B = (aget st.b B).map (mapBox (killL L)) := by
  simp [St.kill, St.mapC, St.setS, aget_amap]

theorem Inv.killB (h : Inv X I st a w) (B : Nat) {I' : It} (hD : I'.D = I.D) (hβ : I'.β = I.β) (hln : I'.ln = I.ln) (hγ : ∀ b, b ≠ B → I'.γ b = I.γ b) : Inv X I' (st.killB B) a w where
  wld := by rw [hD]; exact h.wld
  n := h.n
  nb := h.nb
  df := h.df
  t := by
    intro i v hv
    simp only [St.killB, St.mapC, St.setB, aget_amap] at hv
    cases hq : aget st.t i with
    | none => simp [hq] at hv
    | some u => simp [hq] at hv; subst hv; exact (h.t i u hq).map fun c v hc => hc.killBC hD hβ hln hγ
  s := by
    intro L o ho
    rw [hβ, hD, hln]; exact h.s L o ho
  sd := by
    intro L L' o o' b x x' ho ho' e e'
    rw [hβ] at e e'
    exact h.sd L L' o o' b x x' ho ho' e e'
  b := by
    intro b x hx
    obtain ⟨hne, hx⟩ := aget_adel_some hx
    simp only [St.mapC, aget_amap] at hx
    cases hq : aget st.b b with
    | none => simp [hq] at hx
    | some y =>
      simp [hq] at hx; subst hx
      rw [hD, hγ b hne]
      exact ⟨(h.b b y hq).1, (h.b b y hq).2.map fun c v hc => hc.killBC hD hβ hln hγ⟩
  bd := by
    intro b b' x x' hx hx' e
    obtain ⟨hne, hx⟩ := aget_adel_some hx
    obtain ⟨hne', hx'⟩ := aget_adel_some hx'
    simp only [St.mapC, aget_amap] at hx hx'
    cases hq : aget st.b b with
    | none => simp [hq] at hx
    | some y =>
      cases hq' : aget st.b b' with
      | none => simp [hq'] at hx'
      | some y' => rw [hγ b hne, hγ b' hne'] at e; exact h.bd b b' y y' hq hq' e
  sb := by
    intro L o b x g y ho hx e
    obtain ⟨hne, hx⟩ := aget_adel_some hx
    simp only [St.mapC, aget_amap] at hx
    cases hq : aget st.b b with
    | none => simp [hq] at hx
    | some z => rw [hγ b hne]; rw [hβ] at e; exact h.sb L o b z g y ho hq e

/-- a new object at a label that nothing bears -/
theorem Inv.addS (h : Inv X I st a w) {L : Nat} {o : SObj} (hl : LabOk X I.D w L (I.β L)) (ho : ObjRel I.D w (I.β L) o) (hn : o.l.length = I.ln L)
    (hd : ∀ l o' b x x', l ≠ L → aget st.s l = some o' → I.β l = some (b, x) → I.β L = some (b, x') → False)
    (hb : ∀ B x b y, aget st.b B = some x → I.β L = some (b, y) → I.γ B ≠ b) : Inv X I (st.setS (aset st.s L o)) a w where
  wld := h.wld
  n := h.n
  nb := h.nb
  df := h.df
  t := h.t
  s := by
    intro l o' ho'
    simp only [St.setS, aget_aset] at ho'
    split at ho'
    · rename_i e; subst e; cases ho'; exact ⟨hl, ho, hn⟩
    · exact h.s l o' ho'
  sd := by
    intro l l' o1 o2 b x x' h1 h2 e e'
    simp only [St.setS, aget_aset] at h1 h2
    split at h1
    · rename_i e1
      split at h2
      · rename_i e2; exact e1.symm.trans e2
      · rename_i e2; subst e1; exact (hd l' o2 b x' x (fun q => e2 q.symm) h2 e' e).elim
    · rename_i e1
      split at h2
      · rename_i e2; subst e2; exact (hd l o1 b x x' (fun q => e1 q.symm) h1 e e').elim
      · exact h.sd l l' o1 o2 b x x' h1 h2 e e'
  b := h.b
  bd := h.bd
  sb := by
    intro l o' B x b y h1 hx e
    simp only [St.setS, aget_aset] at h1
    split at h1
    · rename_i e1; subst e1; exact hb B x b y hx e
    · exact h.sb l o' B x b y h1 hx e

/-- the object at a label gets other contents in the same place -/
theorem Inv.updS (h : Inv X I st a w) {L : Nat} {o o' : SObj} (he : aget st.s L = some o) (ho : ObjRel I.D w (I.β L) o') (hn : o'.l.length = o.l.length) : Inv X I (setObj L o' st) a w :=
  h.addS (h.s L o he).1 ho (by rw [hn]; exact (h.s L o he).2.2)
    (fun l o2 b x x' hne h2 e e' => hne (h.sd l L o2 o b x x' h2 he e e'))
    (fun B x b y hx e => h.sb L o B x b y he hx e)

def setFn {α : Type} (f : Nat → α) (i : Nat) (x : α) : Nat → α := fun j => if j = i then x else f j
theorem setFn_same {α : Type} (f : Nat → α) (i : Nat) (x : α) : setFn f i x i = x := by simp [setFn]
theorem setFn_other {α : Type} (f : Nat → α) (i j : Nat) (x : α) (h : j ≠ i) : setFn f i x j = f j := by simp [setFn, h]

def It.at (I : It) (L : Nat) (bo : Option (Nat × Nat)) (n : Nat) : It := ⟨I.D, setFn I.β L bo, setFn I.ln L n, I.γ⟩

/-- a new object takes a label -/
theorem Inv.newObj (h : Inv X I st a w) {L : Nat} {o : SObj} (bo : Option (Nat × Nat)) (hl : LabOk X I.D w L bo) (ho : ObjRel I.D w bo o)
    (hd : ∀ l o' b x x', l ≠ L → aget st.s l = some o' → I.β l = some (b, x) → bo = some (b, x') → False)
    (hb : ∀ B x b y, aget st.b B = some x → bo = some (b, y) → I.γ B ≠ b) : Inv X (I.at L bo o.l.length) (st.newObj L o) a w := by
  have h1 : Inv X (I.at L bo o.l.length) (st.kill L) a w := h.kill L rfl (fun l hl => ⟨setFn_other _ _ _ _ hl, setFn_other _ _ _ _ hl⟩) rfl
  have h2 := h1.addS (L := L) (o := o) (by simpa [It.at, setFn_same] using hl) (by simpa [It.at, setFn_same] using ho) (by simp [It.at, setFn_same])
    (by
      intro l o' b x x' hne hq e e'
      rw [St.kill_s] at hq
      simp only [It.at, setFn_same, setFn_other _ _ _ _ hne] at e e'
      split at hq
      · cases hq
      · exact hd l o' b x x' hne hq e e')
    (by
      intro B x b y hx e
      rw [St.kill_b] at hx
      simp only [It.at, setFn_same] at e
      cases hq : aget st.b B with
      | none => simp [hq] at hx
      | some z => exact hb B z b y hq e)
  refine ⟨h2.wld, h2.n, h2.nb, h2.df, h2.t, ?_, ?_, h2.b, h2.bd, ?_⟩
  all_goals
    have hs : ∀ l, aget (st.newObj L o).s l = aget ((st.kill L).setS (aset (st.kill L).s L o)).s l := by
      intro l; simp only [St.newObj, St.setS, aget_aset, aget_adel, St.kill_s]
  · intro l o' e; exact h2.s l o' (by rw [← hs]; exact e)
  · intro l l' o1 o2 b x x' e1 e2; exact h2.sd l l' o1 o2 b x x' (by rw [← hs]; exact e1) (by rw [← hs]; exact e2)
  · intro l o' B x b y e1 e2; exact h2.sb l o' B x b y (by rw [← hs]; exact e1) e2

/-! a label for another -/
theorem CellRel.renL {T : Nat → Prop} {c : Cell} {v : Value} {L L' : Nat} (h : CellRel T I w c v) (hne : L ≠ L') :
    CellRel T (I.at L' (I.β L) (I.ln L)) w (renL L L' (Ev.killL L' c)) v := by
  have base : ∀ c, CellRel T I w c v → (∀ l ∈ c.labels, l ≠ L') → CellRel T (I.at L' (I.β L) (I.ln L)) w c v := fun c h hl =>
    h.tr (fun b hb hlt => ⟨hb, ⟨hlt, fun _ _ x => x⟩⟩) (fun b _ hlt => ⟨hlt, fun _ _ x => x⟩) (Shp.refl w) (fun l hm => ⟨setFn_other _ _ _ _ (hl l hm), setFn_other _ _ _ _ (hl l hm)⟩) (fun B _ => rfl)
  cases c with
  | hdr k l off len =>
    simp only [Ev.killL, ifB_ite, beq_iff_eq]
    split
    · exact h.one
    · rename_i hl
      simp only [Ev.renL, ifB_ite, beq_iff_eq]
      split
      · rename_i e; subst e
        obtain ⟨A, c, hv, hlc, hn, h⟩ := h
        exact ⟨A, c, hv, hlc, by simpa [It.at, setFn_same] using hn, by simpa [It.at, setFn_same] using h⟩
      · exact base _ h (by simpa [Cell.labels] using hl)
  | eref k l i fo =>
    simp only [Ev.killL, ifB_ite, beq_iff_eq]
    split
    · exact h.one
    · rename_i hl
      simp only [Ev.renL, ifB_ite, beq_iff_eq]
      split
      · rename_i e; subst e
        obtain ⟨b, base, e1, hv⟩ := h
        exact ⟨b, base, by simpa [It.at, setFn_same] using e1, hv⟩
      · exact base _ h (by simpa [Cell.labels] using hl)
  | _ => exact base _ h (by intro l hl; cases hl)

theorem Inv.relabel (h : Inv X I st a w) (L L' : Nat) : ∃ I', Inv X I' (st.relabel L L') a w ∧ I'.D = I.D ∧ I'.γ = I.γ := by
  unfold St.relabel
  rw [ifB_ite]
  split
  · exact ⟨I, h, rfl, rfl⟩
  · rename_i hc
    simp only [Bool.or_eq_true, beq_iff_eq, decide_eq_true_eq, not_or, Nat.not_le] at hc
    obtain ⟨⟨hne, hL⟩, hL'⟩ := hc
    cases ho : aget st.s L with
    | none => exact ⟨I, h, rfl, rfl⟩
    | some o =>
      refine ⟨I.at L' (I.β L) (I.ln L), ?_, rfl, rfl⟩
      have hk : ∀ l o', aget (aset (adel (adel st.s L) L') L' o) l = some o' → (l = L' ∧ o' = o) ∨ (l ≠ L' ∧ l ≠ L ∧ aget st.s l = some o') := by
        intro l o' hq
        rw [aget_aset] at hq
        split at hq
        · rename_i e; cases hq; exact .inl ⟨e.symm, rfl⟩
        · rename_i e
          obtain ⟨h1, hq⟩ := aget_adel_some hq
          obtain ⟨h2, hq⟩ := aget_adel_some hq
          exact .inr ⟨h1, h2, hq⟩
      have hbx : ∀ B x, aget (((st.kill L').mapC (renL L L')).setS (aset (adel (adel st.s L) L') L' o)).b B = some x → ∃ y, aget st.b B = some y ∧ x = mapBox (renL L L') (mapBox (killL L') y) := by
        intro B x hx
        simp only [St.setS, St.mapC, St.kill, aget_amap] at hx
        cases hq : aget st.b B with
        | none => simp [hq] at hx
        | some y => simp [hq] at hx; exact ⟨y, rfl, hx.symm⟩
      refine ⟨h.wld, h.n, h.nb, h.df, ?_, ?_, ?_, ?_, ?_, ?_⟩
      · intro i v hv
        simp only [relab, St.setS, St.mapC, St.kill, aget_amap] at hv
        cases hq : aget st.t i with
        | none => simp [hq] at hv
        | some u =>
          simp [hq] at hv; subst hv
          have h1 := (h.t i u hq).map (R' := fun c v => CellRel X.T (I.at L' (I.β L) (I.ln L)) w (renL L L' c) v) (f := killL L') (fun c v hc => hc.renL hne)
          exact h1.map (f := renL L L') (fun c v hc => hc)
      · intro l o' hq
        rcases hk l o' hq with ⟨rfl, rfl⟩ | ⟨h1, h2, hq⟩
        · simp only [It.at, setFn_same]
          obtain ⟨hl, hr⟩ := h.s L o' ho
          exact ⟨⟨hl.own, fun b x e _ => hl.new b x e hL, fun b x e hp => absurd hp (by omega), fun hp => absurd hp (by omega)⟩, hr⟩
        · simp only [It.at, setFn_other _ _ _ _ h1]
          exact h.s l o' hq
      · intro l l' o1 o2 b x x' e1 e2 q1 q2
        rcases hk l o1 e1 with ⟨p1, p2⟩ | ⟨h1, h2, f1⟩ <;> rcases hk l' o2 e2 with ⟨p3, p4⟩ | ⟨h1', h2', f2⟩
        · rw [p1, p3]
        · subst p1
          simp only [It.at, setFn_same, setFn_other _ _ _ _ h1'] at q1 q2
          exact (h2' (h.sd L l' _ o2 b x x' ho f2 q1 q2).symm).elim
        · subst p3
          simp only [It.at, setFn_same, setFn_other _ _ _ _ h1] at q1 q2
          exact (h2 (h.sd L l _ o1 b x' x ho f1 q2 q1).symm).elim
        · simp only [It.at, setFn_other _ _ _ _ h1, setFn_other _ _ _ _ h1'] at q1 q2
          exact h.sd l l' o1 o2 b x x' f1 f2 q1 q2
      · intro B x hx
        obtain ⟨y, hy, rfl⟩ := hbx B x hx
        refine ⟨(h.b B y hy).1, ?_⟩
        have h1 : BoxRel X.T I w (I.γ B) y := (h.b B y hy).2
        obtain ⟨vs, ha, hc, hr, hs⟩ := h1
        refine ⟨vs, ?_, hc, by simpa [mapBox, It.at] using hr, by simpa [mapBox] using hs⟩
        have h2 := ha.map_left (R' := fun c v => CellRel X.T (I.at L' (I.β L) (I.ln L)) w (renL L L' c) v) (f := killL L') (fun c v hc => hc.renL hne)
        exact h2.map_left (f := renL L L') fun c v hc => hc
      · intro B B' x x' hx hx' e
        obtain ⟨y, hy, rfl⟩ := hbx B x hx
        obtain ⟨y', hy', rfl⟩ := hbx B' x' hx'
        exact h.bd B B' y y' hy hy' e
      · intro l o' B x b y e1 hx q
        obtain ⟨z, hz, rfl⟩ := hbx B x hx
        rcases hk l o' e1 with ⟨rfl, rfl⟩ | ⟨h1, h2, e1⟩
        · simp only [It.at, setFn_same] at q
          exact h.sb L _ B z b y ho hz q
        · simp only [It.at, setFn_other _ _ _ _ h1] at q
          exact h.sb l o' B z b y e1 hz q

theorem Inv.relabels : ∀ (cs : List Cell) (base : Nat) {I : It} {st : St}, Inv X I st a w → ∃ I', Inv X I' (relabels base cs st) a w ∧ I'.D = I.D ∧ I'.γ = I.γ
  | [], _, I, st, h => ⟨I, h, rfl, rfl⟩
  | c :: cs, base, I, st, h => by
    have h1 : ∃ I', Inv X I' (relabC base st c) a w ∧ I'.D = I.D ∧ I'.γ = I.γ := by
      cases c with
      | hdr k l off len => exact h.relabel l base
      | _ => exact ⟨I, h, rfl, rfl⟩
    obtain ⟨I1, h1, e1, e2⟩ := h1
    obtain ⟨I2, h2, e3, e4⟩ := Inv.relabels cs (base + 1) h1
    exact ⟨I2, h2, by rw [e3, e1], by rw [e4, e2]⟩

theorem Inv.assign (h : Inv X I st a w) {d : Option Nat} {sv : SV} {v : Value} (hv : SVP (CellRel X.T I w) sv v) (e : st.assign sv d = some st') :
    ∃ I', Inv X I' st' (a.put d v) w := by
  cases d with
  | none => cases e; exact ⟨I, h⟩
  | some d =>
    obtain ⟨hd, e⟩ := ifB_some e
    cases e
    obtain ⟨I', h', _⟩ := (h.put (by simpa using hd) hv).relabels sv.cells (d * 1000)
    exact ⟨I', h'⟩

end Go.Ev
